/- Contracts of the functions that the statement reaches, and the plain laws over them; each theorem stands with its conditions. -/
import Derived.Test.YtbjddgakboindaaGreatBLNone1
namespace Go.Proofs.YtbjddgakboindaaGreat
open Go aQ Go.Proofs.Tryz
theorem Fs{w:I}{a b:ae}{la lb:O UInt8}(g:Src 1 w a (ax la))(hb:Src 1 w b (ax lb))(i:la.length+lb.length<=1000):
 aC ai 136 #[.slice (some w.heap.size) 2 2] (w.alloc (.cells #[a,b] 31)) (λv w'=>∃c:ae,v=c/\aT 1 5 w' c (ax (la++lb))/\Ext w w'/\fW w c):=by
 have hx:=c5 w (.cells #[a,b] 31);refine(y9 (s:=⟨some w.heap.size,2,2⟩) [(a,la),(b,lb)] (Src.new w _ 2 rfl) ?_ (by simp[cP];omega) (by simp)).mono ?_
 .intro p d
  simp only[cY,fC,fM]at d;rcases d with rfl|rfl
  .exact g.ext hx
  .exact hb.ext hx
 .rintro _ w' ⟨c,rfl,f,h,hf⟩
  have e:cP [(a,la),(b,lb)]=la++lb:=by simp[cP]
  rw[e]at f;exact⟨c,rfl,f,hx.trans h,hf.mono hx.size⟩
theorem Ft{w:I}{a b c:ae}{la lb d:O UInt8}(i:Src 1 w a (ax la))(hb:Src 1 w b (ax lb))(hc:Src 1 w c (ax d))(k:la.length+lb.length+d.length<=1000):
 aC ai 136 #[.slice (some w.heap.size) 3 3] (w.alloc (.cells #[a,b,c] 31)) (λv w'=>∃f:ae,v=f/\aT 1 5 w' f (ax (la++(lb++d)))/\Ext w w'/\fW w f):=by
 have hx:=c5 w (.cells #[a,b,c] 31);refine(y9 (s:=⟨some w.heap.size,3,3⟩) [(a,la),(b,lb),(c,d)] (Src.new w _ 3 rfl) ?_ (by simp[cP];omega) (by simp)).mono ?_
 .intro p g
  simp only[cY,fC,fM]at g;rcases g with rfl|rfl|rfl
  .exact i.ext hx
  .exact hb.ext hx
  .exact hc.ext hx
 .rintro _ w' ⟨f,rfl,h,j,hf⟩
  have e:cP [(a,la),(b,lb),(c,d)]=la++(lb++d):=by simp[cP]
  rw[e]at h;exact⟨f,rfl,h,hx.trans j,hf.mono hx.size⟩
theorem Fu(w:I){n:Nat}(a:n<=255):Src 1 (w.alloc (.cells #[.int .u8 (IntKind.wrap .u8 (n:Int))] 5)) ⟨some w.heap.size,1,1⟩ (ax [UInt8.ofNat n])/\Ext w (w.alloc (.cells #[.int .u8 (IntKind.wrap .u8 (n:Int))] 5)):=by
 have e:(#[.int .u8 (IntKind.wrap .u8 (n:Int))]:Array Y)=(ax [UInt8.ofNat n]).toArray:=by
  rw[wP J J];simp[ax,iF (show n<256 from J)]
 rw[e];exact⟨Src.new w _ 1 rfl,c5 _ _⟩
theorem gn{α:Type}{l:O α}{i:Nat}{d:α}(h:i<l.length):l.getD i d=l[i]:=by
 rw[g4,eJ h];rfl
theorem cV.vk{n:aK}(h:cV n)(a:n.leaf=true):n.vals.length=n.keys.length:=by
 rcases h with h|h
 .exact h.len
 .have:=h.inner;rw[a]at this;cases this
theorem cV.zd{n:aK}(h:cV n)(a:n.leaf=false):n.kids.length=n.keys.length+1:=by
 rcases h with h|h
 .have:=h.leaf;rw[a]at this;cases this
 .exact h.len
theorem o4{B:Nat->Prop}{w:I}{n:aK}{K V D:ae}(h:cr B w n K V D)(hs:cV n){i:Nat}(hi:i<n.keys.length)(Z:n.keys.length<=100000):
 aC ai 352 #[dT n K V D,i] w (λv w'=>∃s:ae,v=s/\aT 1 5 w' s (ax (h5 n i))/\Ext w w'/\fW w s):=by
 refine okF (aa.o4 n.leaf K V D (i:Int)) ao.o4 func352 ?_;(delta aa.o4 bC dI eU aR ad bl bq bw bn aS ah aE al r1 aZ;dsimp only);refine aN (vs:=[n.leaf,K,V,D]) rfl λw1 r e _=>?_;have u:=b1 w1;have O:=e.trans u;have P:=h.ext O;obtain⟨cu,bd,bo,bA⟩:=cl (r.ext u);obtain⟨A,t,ar,hb,hc,ht,_⟩:=b6.at P.keys hi;have ab:=(hs.keys.ok _ (c3 hi)).2;have Q:=len8 ht.1;obtain⟨R,x⟩:=Fu w1.drew (n:=t.len) J;refine aO ⟨λ_=>False,id,K,bd,A,ar,hb,id,t,hc,id,K,bd,A,ar,hb,id,t,hc,aO ⟨x,aO ?_⟩⟩;refine(Fs (a:=⟨some w1.drew.heap.size,1,1⟩) (b:=t) R (ht.1.ext x) (by simp;omega)).use ?_;rintro _ y ⟨L,rfl,z,S,ac⟩;have d:=u.trans (x.trans S);obtain⟨d0,d1,d2,d3⟩:=cl (r.ext d);have T: [UInt8.ofNat t.len]++n.keys[i]=o7 (n.keys.getD i []):=by rw[gn hi,Q];rfl
 rw[T]at z;have M:=h.ext (e.trans d);refine⟨L,rfl,n.leaf,d0,λf=>?_,λf=>?_⟩
 .have af:=hs.vk f
  have C:i<n.vals.length:=by omega
  have g:=b1 y;have U:=M.ext g;obtain⟨ag,aG,aM,aj⟩:=cl (r.ext (d.trans g));obtain⟨m,t2,o,p,q,N,_⟩:=b6.at U.vals C;have ak:=hs.vals _ (c3 C);have W:=len8 N.1;obtain⟨X,j⟩:=Fu y.drew (n:=t2.len) J;refine aO ⟨λ_=>False,id,V,aM,m,o,p,id,t2,q,id,V,aM,m,o,p,id,t2,q,aO ⟨j,aO ?_⟩⟩;refine(Ft (a:=L) (b:=⟨some y.drew.heap.size,1,1⟩) (c:=t2) (z.src.ext (g.trans j)) X (N.1.ext j) (by rw[o8,gn hi];simp;omega)).use ?_;rintro _ Y ⟨l,rfl,E,F,G⟩;refine⟨l,rfl,l,rfl,?_,(e.trans d).trans (g.trans (j.trans F)),G.mono ((e.trans d).trans (g.trans j)).size⟩;have:o7 (n.keys.getD i [])++([UInt8.ofNat t2.len]++n.vals[i])=h5 n i:=by
   unfold h5;rw[f,if_pos rfl,gn C,W];rfl
  rwa[this]at E
 .have am:=hs.zd f
  have H:i+1<n.kids.length:=by omega
  obtain⟨m,o,p,q⟩:=dd.at M.kids H;have an:=hs.kids _ (c3 H);rw[bT (n:=(i:Int)+1) J J,show(i:Int)+1=((i+1:Nat):Int) from J];refine⟨D,d3,m,o,p,_,q,?_⟩;rw[eZ (n:=((n.kids[i+1]:Nat):Int)) J J];refine(gV z.src (n:=n.kids[i+1]) (k:=2) (by rw[o8,gn hi];omega) (by show _<18446744073709551616;omega) ⟨by decide,by decide⟩).use ?_;rintro _ Y ⟨l,rfl,E,F,G⟩;refine⟨l,rfl,l,rfl,?_,(e.trans d).trans F,fW.mono G (e.trans d).size⟩;have:o7 (n.keys.getD i [])++bU n.kids[i+1] 2=h5 n i:=by
   unfold h5;rw[f,if_neg (by simp),gn H]
  rwa[this]at E
theorem ze{n:aK}(hs:cV n){i:Nat}(hi:i<n.keys.length):(h5 n i).length<=100:=by
 unfold h5;have:=(hs.keys.ok _ (c3 hi)).2;rw[cT,o8,gn hi];split
 .rename_i b
  have a:i<n.vals.length:=by have:=hs.vk b;omega
  have:=hs.vals _ (c3 a);rw[o8,gn a];omega
 .rw[dR];omega
theorem B5{n:aK}(hs:cV n):∀m,m<=n.keys.length->(iK n 0 m).length<=100*m
 |0,_=>by simp[iK]
 |m+1,hm=>by
  have:=B5 hs m J
  have:=ze hs (i:=m) J
  rw[BV,cT];omega
theorem qq{B:Nat->Prop}{w:I}{n:aK}{K V D:ae}(h:cr B w n K V D)(hs:cV n)(am:n.keys.length<=255):
 aC ai 348 #[dT n K V D] w (λv w'=>∃s:ae,v=s/\aT 1 5 w' s (ax (kg n))/\Ext w w'/\fW w s):=by
 refine okF (aa.qq n.leaf K V D) ao.qq func348 ?_;(delta aa.qq aE aR ad aS ah bl bq r1 bw bn aZ mu ap al;dsimp only);refine aN (vs:=[n.leaf,K,V,D]) rfl λw1 g l _=>?_;obtain⟨cu,bd,bo,bA⟩:=cl g;have u:=h.ext l;have E:=b6.len u.keys;have F:(#[.int .u8 (IntKind.wrap .u8 (K.len:Int))]:Array Y)=(ax [UInt8.ofNat n.keys.length]).toArray:=by
  rw[E,wP J J];simp[ax,iF (show n.keys.length<256 from J)]
 refine⟨K,bd,?_⟩;rw[F];have m:=aT.new (T:=5) (sz:=1) w1 (ax [UInt8.ofNat n.keys.length]) 1 rfl (by decide);have c:=c5 w1 (.cells (ax [UInt8.ofNat n.keys.length]).toArray 5);obtain⟨ag,G⟩:∃ag,ag=w1.alloc (.cells (ax [UInt8.ofNat n.keys.length]).toArray 5):=⟨_,rfl⟩;rw[←G]at m c⊢;obtain⟨d0,d1,d2,d3⟩:=cl (g.ext c);have H:=l.trans c;refine aO (cc (λd w'=>aT 1 5 w' d (ax (preB n))/\Ext ag w'/\fW w1 d) (λq x=>⟨n.leaf,d0,λa=>?_,λa=>x _ _ ⟨?_,.refl _ _,?_⟩⟩) ?_)
 .have a:n.leaf=false:=by simpa using a
  have an:=hs.zd a;have o:0<n.kids.length:=by omega
  obtain⟨L,M,N,O⟩:=dd.at (h.ext H).kids o;have aq:=hs.kids _ (c3 o);refine⟨D,d3,L,M,N,_,O,?_⟩;rw[eZ (n:=((n.kids[0]:Nat):Int)) J J];refine(gV m.src (n:=n.kids[0]) (k:=2) (by simp) (by show _<18446744073709551616;omega) ⟨by decide,by decide⟩).use ?_;rintro _ P ⟨p,rfl,e,b,f⟩;refine⟨p,rfl,x _ _ ⟨?_,b,fW.mono f c.size⟩⟩;have: [UInt8.ofNat n.keys.length]++bU n.kids[0] 2=preB n:=by
   unfold preB;rw[a,if_neg (by simp),gn o];rfl
  rwa[this]at e
 .have a:n.leaf=true:=by simpa using a
  have:preB n=[UInt8.ofNat n.keys.length]:=by unfold preB;rw[a];rfl
  rw[this];exact m
 .rintro k ⟨A,ar,rfl⟩
  cases ar;exact ba _
 rintro au av ⟨Q,R,S⟩;have y:=c.trans R;obtain⟨d0,d1,d2,d3⟩:=cl (g.ext y);have aw:(preB n).length<=3:=by
  unfold preB
  cases n.leaf<;>simp[dR]
 refine⟨K,d1,λd i w'=>∃j:Nat,i=j/\j<=n.keys.length/\aT 1 5 w' d (ax (preB n++iK n 0 j))/\Ext w1 w'/\fW w1 d,λ_ i _=>((n.keys.length:Int)-i).toNat,⟨0,rfl,c8 _,by simpa[iK] using Q,y,S⟩,?_⟩;rintro p _ P ⟨j,rfl,U,e,b,f⟩;refine⟨λaJ=>?_,λr=>?_⟩
 .have aJ:j<n.keys.length:=by have:=b8 aJ;omega
  obtain⟨f0,f1,f2,f3⟩:=cl (g.ext b);refine⟨n.leaf,f0,K,f1,V,f2,D,f3,(o4 (u.ext b) hs aJ J).use ?_⟩;rintro _ aF ⟨W,rfl,z,t,ay⟩;have C:=iM e;have X:=iM z;have bz:=ze hs aJ;have cf:=B5 hs j U;rw[cT]at C;obtain⟨Z,ab,aA,ac,az,af,aj⟩:=mz.append (df:=31) z.src (e.ext t) (ic _) (by rw[C,X];omega);rw[bT (n:=(j:Int)+1) J J];refine⟨W,rfl,Z,ab,aA,⟨j+1,J,J,?_,Ext.ee (b.trans t) af f,λk ak=>?_⟩,?_⟩
  .rw[BV,←c_,my];exact ac
  .rcases aj k ak with h|h
   .exact f k h
   .exact dQ (b.trans t).size h
  .show((n.keys.length:Int)-((j:Int)+1)).toNat<((n.keys.length:Int)-(j:Int)).toNat
   omega
 .have r:j=n.keys.length:=by have:=cL r;omega
  subst r;exact⟨p,rfl,e,l.trans b,f.mono l.size⟩
theorem qo{B:Nat->Prop}{w:I}{n:aK}{K V D:ae}(h:cr B w n K V D)(hs:cV n)(f:n.keys.length<=255):
 aC ai 341 #[dT n K V D] w (λv w'=>v=.int .i64 (bV n:Nat)/\Ext w w'):=by
 have g:n.vals.length<=100000:=by
  rcases hs with hs|hs
  .rw[hs.len];omega
  .rw[hs.vals];simp
 have i:n.kids.length<=100000:=by
  rcases hs with hs|hs
  .rw[hs.kids];simp
  .rw[hs.len];omega
 refine okF (aa.qo n.leaf K V D) ao.qo func341 ?_;(delta aa.qo aS ad aE aR bF ah bn;dsimp only);refine aN (vs:=[n.leaf,K,V,D]) rfl λw1 d a _=>?_;obtain⟨cu,bd,bo,bA⟩:=cl d;refine⟨n.leaf,cu,K,bd,V,bo,D,bA,(lS (h.ext a) J g i).use ?_⟩;rintro _ ag ⟨b,rfl,hb,c⟩;have j:=hb.2 hs;subst j;obtain⟨cu,bd,bo,bA⟩:=cl (d.ext c);refine⟨true,rfl,λh=>(by cases h),λ_=>⟨n.leaf,cu,K,bd,V,bo,D,bA,(qq (h.ext (a.trans c)) hs f).use ?_⟩⟩;rintro _ o ⟨k,rfl,l,m,_⟩;have e:=iM l;rw[BY hs]at e;exact⟨k,rfl,by rw[e],(a.trans c).trans m⟩
def Fv(n:aK)(w w':I)(v:Y):Prop:=
 (∃s:ae,v=.tuple #[s,(0:Int)]/\aT 1 5 w' s (ax (kg n))/\fW w s/\cV n/\bV n<=232)\/
 (∃e:Int,v=.tuple #[(),e]/\e≠0/\(cV n->232<bV n))
theorem qn{B:Nat->Prop}{w:I}{n:aK}{K V D:ae}(h:cr B w n K V D)(m:n.keys.length<=100000)(o:n.vals.length<=100000)(p:n.kids.length<=100000):
 aC ai 338 #[dT n K V D] w (λv w'=>Fv n w w' v/\Ext w w'):=by
 refine okF (aa.qn n.leaf K V D) ao.qn func338 ?_;(delta aa.qn aS ad aE aR bF ah bn;dsimp only);refine aN (vs:=[n.leaf,K,V,D]) rfl λw1 e f _=>?_;obtain⟨cu,bd,bo,bA⟩:=cl e;refine⟨n.leaf,cu,K,bd,V,bo,D,bA,(lS (h.ext f) m o p).use ?_⟩;rintro _ ag ⟨b,rfl,hb,g⟩;have d:=f.trans g;obtain⟨cu,bd,bo,bA⟩:=cl (e.ext g);have x:=b6.len h.keys;refine⟨b,rfl,cc (λc w'=>ag=w'/\(c=true->cV n->255<n.keys.length)/\(c=false->cV n/\n.keys.length<=255)) (λq i=>⟨λh1=>i _ _ ⟨rfl,λ_ hs=>?_,λh=>(by cases h)⟩,λh1=>⟨K,bd,i _ _ ⟨rfl,λa hs=>?_,λa=>?_⟩⟩⟩) ?_⟩
 .have h1:b=false:=by simpa using h1
  rw[hb.2 hs]at h1;cases h1
 .have:=b8 a;omega
 .have h1:b=true:=by simpa using h1
  have:=cL a;exact⟨hb.1 h1,J⟩
 rintro c w' ⟨rfl,aA,r⟩;refine⟨λh1=>⟨.inr ⟨4,rfl,by decide,λhs=>?_⟩,d⟩,λh1=>?_⟩
 .have:=aA h1 hs
  have:=y2 hs;omega
 obtain⟨hs,s⟩:=r h1;refine⟨n.leaf,cu,K,bd,V,bo,D,bA,(qq (h.ext d) hs s).use ?_⟩;rintro _ y ⟨j,rfl,k,l,t⟩;have u:=iM k;rw[BY hs]at u;refine⟨j,rfl,λa=>⟨.inr ⟨10,rfl,by decide,λ_=>?_⟩,d.trans l⟩,λa=>⟨.inl ⟨j,rfl,k,t.mono d.size,hs,?_⟩,d.trans l⟩⟩
 .have:=b8 a;omega
 .have:=cL a;omega
theorem sM{B:Nat->Prop}{w:I}{n:aK}{K V D:ae}(h:cr B w n K V D)(d:n.keys.length<=100000)(f:n.vals.length<=100000)(g:n.kids.length<=100000):
 aC ai 350 #[dT n K V D] w (λv w'=>Fv n w w' v/\Ext w w'):=by
 refine okF (aa.sM n.leaf K V D) ao.sM func350 ?_;(delta aa.sM aS ad aE aR eG;dsimp only);refine aN (vs:=[n.leaf,K,V,D]) rfl λw1 i a _=>?_;obtain⟨cu,bd,bo,bA⟩:=cl i;refine⟨n.leaf,cu,K,bd,V,bo,D,bA,(qn (h.ext a) d f g).use ?_⟩;rintro _ ag ⟨j,c⟩;rcases j with ⟨s,rfl,k,hf,hs,b⟩|⟨e,rfl,he,b⟩
 .exact⟨s,0,rfl,.inl ⟨s,rfl,k,hf.mono a.size,hs,b⟩,a.trans c⟩
 .exact⟨⟨none,0,0⟩,e,rfl,.inr ⟨e,rfl,he,b⟩,a.trans c⟩
def n0(n:Int):aj:=decide (n>=0)&&decide (n<=65535)
theorem o2(n:Int)(w:I):aC ai 229 #[n] w (λv w'=>v=.bool (n0 n)/\w=w'):=by
 refine okF (aa.o2 n) ao.o2 func229 ?_;unfold aa.o2;exact⟨rfl,rfl⟩
theorem vl{n:Int}(h:n0 n=true):∃k:Nat,n=(k:Int)/\k<=65535:=by
 unfold n0 at h;simp at h;exact⟨n.toNat,J,J⟩
def ki(b u:Nat):O UInt8:=bU b 2++bU u 8
theorem ss(b:Int){u:Nat}(hu:u<18446744073709551616)(w:I):aC ai 194 #[b,.int .u64 (u:Nat)] w (λv w'=>(n0 b=false/\v=.tuple #[(),false]/\w=w')\/(n0 b=true/\∃s:ae,v=.tuple #[s,true]/\aT 1 5 w' s (ax (ki b.toNat u))/\Ext w w'/\∀q,aB s q->w.heap.size<=q)):=by
 refine okF (aa.ss b (u:Nat)) ao.ss func194 ?_;(delta aa.ss bF ah bn aZ;dsimp only);refine(o2 b w).use ?_;rintro _ _ ⟨rfl,rfl⟩;refine⟨_,rfl,λhb=>.inl ⟨by simpa using hb,rfl,rfl⟩,λhb=>?_⟩;have hb:n0 b=true:=by simpa using hb
 obtain⟨k,rfl,j⟩:=vl hb;rw[eZ (n:=(k:Int)) J J];refine(gV (s:=⟨none,0,0⟩) (l:=[]) (aT.none 1 5 w).src (by simp) (n:=k) (k:=2) J J).use ?_;rintro _ m ⟨d,rfl,e,a,o⟩;refine⟨d,rfl,(gV e.src (by rw[cT,dR];decide) (n:=u) (k:=8) hu J).use ?_⟩;rintro _ p ⟨c,rfl,f,g,h⟩;exact⟨c,rfl,.inr ⟨hb,c,rfl,f,a.trans g,λq i=>by have:=h q i;have:=a.size;omega⟩⟩
def pc(p:bK):UInt8:=if p.addr.eg then 6 else 4
def gQ(s:Nat)(p:bK):O UInt8:=bU s 2++([pc p,UInt8.ofNat p.bits.toNat]++p.addr.raw)
def gi(s:Int)(p:bK):aj:=decide (ir p.addr p.bits=some p)&&n0 s
section
variable {w:I}{p:bK}{b:Nat}{T:TypeId}
theorem Fw(h:Var w b p.c T):aV w b 0 17=some p.addr.c:=by
 rw[h.fE (by rw[bK.aX];decide),kx,bK.c,oA (aH.aX _)]
theorem Fx(h:Var w b p.c T):w.cell? (Addr.add b 17)=some (.int .i64 p.bits):=by
 rw[aw,h.cell,bK.c,kY (by simp[aH.aX])];simp[aH.aX]
theorem KU(h:Var w b p.c T):w.cell? b=some (.bool p.addr.eg):=by
 rw[h.cell,bK.c,List.getElem?_append_left (by simp[aH.aX])];rfl
theorem zf(h:ir p.addr p.bits=some p):0<=p.bits/\p.bits<=128:=by
 unfold ir at h;split at h
 .rename_i a
  have:=p.addr.qA;split at this<;>omega
 .cases h
theorem m6(s:Int)(p:bK)(w:I):aC ai 193 #[s,.agg p.c.toArray] w (λv w'=>Ext w w'/\((gi s p=false/\v=.tuple #[(),false])\/(gi s p=true/\∃t:ae,v=.tuple #[t,true]/\aT 1 5 w' t (ax (gQ s.toNat p))/\∀q,aB t q->w.heap.size<=q))):=by
 refine aa.Jr s _ w _ ?_;(delta aa.m6 ad bh r1 gh nL ah bF aS bC rR e5 bn aZ w_;dsimp only);refine aN (vs:=p.c) rfl λw1 f X aw=>⟨p.addr.c,Fw f,p.bits,Fx f,(oV p.addr p.bits w1).use ?_⟩;rintro _ ay ⟨rfl,o⟩;refine⟨_,_,rfl,aN (vs:=bK.zero.c) rfl λaz hm H aA=>⟨hm.bX (by simp[bK.aX]) (bK.plain _),by simp[bK.aX],cA hm (us:=((ir p.addr p.bits).getD bK.zero).c) (by simp[bK.aX]) rfl λe Y K _=>?_⟩⟩;have L:=X.trans o;have M:Ext w e:=Ext.bN (L.trans H) K L.size;have r:=((f.ext o).ext H).ak K (by have:=(f.ext o).lt;omega);refine cc (λb w'=>b= !decide (ir p.addr p.bits=some p)/\e=w') (λq d=>⟨λh=>d _ _ ⟨?_,rfl⟩,λh=>⟨_,Y.rd (bK.aX _),_,r.rd (bK.aX _),_,JN _ _,d _ _ ⟨?_,rfl⟩⟩⟩) ?_
 .cases u:ir p.addr p.bits with
  |none=>simp
  |some m=>rw[u]at h;cases h
 .cases u:ir p.addr p.bits with
  |none=>rw[u]at h;cases h
  |some m=>simp
 rintro _ _ ⟨rfl,rfl⟩;refine cc (λb w'=>b= !gi s p/\e=w') (λq d=>⟨λh=>d _ _ ⟨?_,rfl⟩,λh=>(o2 s e).use ?_⟩) ?_
 .unfold gi
  rw[kr]at h;rw[h];rfl
 .rintro _ _ ⟨rfl,rfl⟩
  refine⟨_,rfl,d _ _ ⟨?_,rfl⟩⟩;unfold gi;rw[nx]at h;rw[h,jb]
 rintro _ _ ⟨rfl,rfl⟩;refine⟨λh=>⟨M,.inl ⟨by simpa using h,rfl⟩⟩,λh=>?_⟩;have hg:gi s p=true:=by simpa using h
 have x:=hg;unfold gi at x;rw[dH,cX]at x;obtain⟨Z,ab⟩:=x;obtain⟨k,rfl,aD⟩:=vl ab;have aE:=zf Z;have ac:IntKind.wrap .u8 p.bits=(((UInt8.ofNat p.bits.toNat).toNat:Nat):Int):=by
  rw[tN];show p.bits%256=_;omega
 refine cc (λn w'=>n=(((pc p).toNat:Nat):Int)/\e=w') (λq d=>⟨_,KU r,λh=>d _ _ ⟨by unfold pc;rw[if_pos h];rfl,rfl⟩,λh=>d _ _ ⟨by unfold pc;rw[if_neg (by rw[h];decide)];rfl,rfl⟩⟩) ?_;rintro _ _ ⟨rfl,rfl⟩;have N:=b1 e;have y:=r.ext N;have z:=M.trans N;refine aO ?_;generalize e.drew=g at y z;refine⟨λ_=>False,id,_,Fx y,id,_,Fw y,?_⟩;rw[ac,eZ (n:=(k:Int)) J J];have fin:∀ (w':I) (a b c:ae),Ext g w'->Src 1 w' a (ax ([]++bU k 2))->Src 1 w' b (ax [pc p,UInt8.ofNat p.bits.toNat])->Src 1 w' c (ax p.addr.raw)->
  an (w'.alloc (.cells #[a,b,c] 31)) λaf=>Calls ai 136 #[.slice (some w'.heap.size) 3 3] af λag A=>
   ∃B:ae,ag=.returned B/\(Ext w A/\((gi (k:Int) p=false/\Value.tuple #[B,true]=.tuple #[(),false])\/(gi (k:Int) p=true/\∃t:ae,Value.tuple #[B,true]=.tuple #[t,true]/\aT 1 5 A t (ax (gQ (k:Int).toNat p))/\∀q,aB t q->w.heap.size<=q))):=λw' a b c hx aj hb hc=>by
  refine aO ((Ft aj hb hc ?_).use ?_)
  .have:=p.addr.qA
   rw[kU,dR];show 2+2+p.addr.raw.length<=1000;split at this<;>omega
  .rintro _ A ⟨t,rfl,al,am,hf⟩
   have aF:=z.size;have aG:=hx.size;exact⟨t,rfl,z.trans (hx.trans am),.inr ⟨hg,t,rfl,al,λq d=>by have:w'.heap.size<=q:=hf q d;omega⟩⟩
 have put:∀ (w':I),aC ai 159 #[(),.int .u64 (k:Nat),(2:Int)] w' (λv O=>∃C:ae,v=C/\aT 1 5 O C (ax ([]++bU k 2))/\Ext w' O/\∀q,aB C q->w'.heap.size<=q):=λw'=>gV (s:=⟨none,0,0⟩) (l:=[]) (aT.none 1 5 w').src (by simp) (n:=k) (k:=2) J J;have lit:∀ (w':I),Src 1 (w'.alloc (.cells #[.int .u8 (((pc p).toNat:Nat):Int),.int .u8 (((UInt8.ofNat p.bits.toNat).toNat:Nat):Int)] 5)) ⟨some w'.heap.size,2,2⟩ (ax [pc p,UInt8.ofNat p.bits.toNat]):=λw'=>Src.new (T:=5) w' (ax [pc p,UInt8.ofNat p.bits.toNat]) 2 rfl;refine⟨(put g).use ?_,aO ⟨c5 _ _,(put _).use ?_⟩⟩
 .rintro _ P ⟨D,rfl,Q,E,_⟩
  refine⟨D,rfl,E,aO ⟨c5 _ _,(jK p.addr _).use ?_⟩,(jK p.addr _).use ?_⟩
  .rintro _ ao ⟨R,rfl,ap,_,i,_⟩
   exact⟨R,rfl,i,fin ao D ⟨some P.heap.size,2,2⟩ R (E.trans ((c5 _ _).trans i)) (Q.src.ext ((c5 _ _).trans i)) ((lit P).ext i) ap.src⟩
  .rintro _ S ⟨U,rfl,aq,_,F,_⟩
   exact⟨U,rfl,F,aO ⟨c5 _ _,fin _ D ⟨some S.heap.size,2,2⟩ U (E.trans (F.trans (c5 _ _))) (Q.src.ext (F.trans (c5 _ _))) (lit S) (aq.src.ext (c5 _ _))⟩⟩
 .rintro _ aH ⟨V,rfl,ar,G,_⟩
  refine⟨V,rfl,G,(jK p.addr _).use ?_⟩;rintro _ au ⟨W,rfl,av,_,j,_⟩;exact⟨W,rfl,j,fin au V ⟨some g.heap.size,2,2⟩ W ((c5 _ _).trans (G.trans j)) (ar.src.ext j) ((lit g).ext (G.trans j)) av.src⟩
end
structure bf where
 s:Int
 p:bK
 b:Int
 u:Nat
def bf.c(t:bf):O Y:=.int .i64 t.s::(t.p.c++ [.int .i64 t.b,.int .u64 (t.u:Nat)])
theorem bf.aX(t:bf):t.c.length=21:=by simp[bf.c,bK.aX]
section
variable {w:I}{t:bf}{b:Nat}{T:TypeId}
theorem B6(h:Var w b t.c T):aV w (Addr.add ⟨b,0,none⟩ 1) 0 18=some t.p.c:=by
 rw[aw,h.fE (by rw[bf.aX];decide)];show some (List.take 18 (t.p.c++_))=_;rw[oA (bK.aX _)]
theorem Fy(h:Var w b t.c T):w.cell? (Addr.add ⟨b,0,none⟩ 19)=some (.int .i64 t.b):=by
 rw[aw,h.cell];show(t.p.c++_)[18]? =_;rw[kY (by rw[bK.aX];decide),bK.aX];rfl
theorem Fz(h:Var w b t.c T):w.cell? (Addr.add ⟨b,0,none⟩ 20)=some (.int .u64 (t.u:Nat)):=by
 rw[aw,h.cell];show(t.p.c++_)[19]? =_;rw[kY (by rw[bK.aX];decide),bK.aX];rfl
def bf.eH(t:bf):aj:=gi t.s t.p&&n0 t.b
theorem qe(t:bf)(w:I):aC ai 192 #[.agg t.c.toArray] w (λv w'=>v=t.eH/\Ext w w'):=by
 refine aa.Jq _ w _ ?_;(delta aa.qe r1 ad iW ah bh bF;dsimp only);refine aN (vs:=t.c) rfl λw1 a h k=>⟨t.s,a.cell,t.p.c,B6 a,(m6 t.s t.p w1).use ?_⟩;rintro v e ⟨f,i⟩;have j:=a.ext f;have key:∃ (d:ae),v=.tuple #[d,.bool (gi t.s t.p)]:=by
  rcases i with ⟨hg,rfl⟩|⟨hg,s,rfl,_⟩
  .exact⟨⟨none,0,0⟩,by rw[hg]⟩
  .exact⟨s,by rw[hg]⟩
 obtain⟨d,rfl⟩:=key;refine⟨d,_,rfl,cc (λb w'=>b=t.eH/\e=w') (λq g=>⟨λhb=>⟨t.b,Fy j,(o2 t.b e).use ?_⟩,λhb=>g _ _ ⟨?_,rfl⟩⟩) ?_⟩
 .rintro _ _ ⟨rfl,rfl⟩
  exact⟨_,rfl,g _ _ ⟨by unfold bf.eH;rw[hb,jb],rfl⟩⟩
 .unfold bf.eH;rw[hb,mW]
 .rintro _ _ ⟨rfl,rfl⟩
  exact⟨rfl,h.trans f⟩
end
theorem B7{a:aH}(h:a.eH=true):jM a.raw=some a:=by
 have c:=a.qA;obtain⟨a',d⟩:=EZ (l:=a.raw) (by split at c<;>omega);obtain⟨h1,f⟩:=EY d;have e:=EX d;have hs:a'.eg=a.eg:=by
  cases hx:a.eg with
  |true=>exact f.2 (by rw[c,hx];rfl)
  |false=>
   cases g:a'.eg with
   |false=>rfl
   |true=>
    have:=f.1 g;rw[c,hx]at this;cases this
 have hb:a'.b=a.b:=by
  unfold aH.raw at h1;rw[hs]at h1
  cases hx:a.eg with
  |true=>rw[hx]at h1;exact h1
  |false=>
   rw[hx]at h1;have h1:a'.b.drop 12=a.b.drop 12:=h1;unfold aH.eH at h e;rw[hs,hx,nu,cX]at e;rw[hx,nu,cX]at h;rw[←g2 12 a'.b,←g2 12 a.b,h1,e,h]
 rw[d,aH.ext' hs hb]
def bf.zero:bf:=⟨0,bK.zero,0,0⟩
theorem B8(w:I):Sem.run ai (Instr.build 212 #[]) w=.ok (.agg bf.zero.c.toArray) w:=by kernel_rfl
theorem KV(w:I)(p:bK)(s b u:Int):Sem.run ai (Instr.build 212 #[(0,.int .i64 s),(1,.agg p.c.toArray),(2,.int .i64 b),(3,.int .u64 u)]) w=.ok (.agg (.int .i64 s::(p.c++ [.int .i64 b,.int .u64 u])).toArray) w:=by
 obtain⟨⟨eg,l,h⟩,n⟩:=p;obtain⟨a,d,e,f,g,i,j,k,m,o,q,r,t,v,x,y,rfl⟩:=o5 l h
 kernel_rfl
theorem bf.plain(t:bf):∀v∈t.c,Plain v:=λv a=>by
 unfold bf.c at a
 rcases cY.1 a with rfl|a
 .trivial
 .rcases cS.1 a with a|a
  .exact bK.plain _ v a
  .simp only[cY,fC,fM]at a
   rcases a with rfl|rfl<;>trivial
theorem zg(k:Nat)(p:bK):(gQ k p).length=4+p.addr.raw.length:=by
 unfold gQ;rw[cT,cT,dR];show 2+(2+p.addr.raw.length)=_;omega
theorem s8(b u:Nat):(ki b u).length=10:=by unfold ki;rw[cT,dR,dR]
theorem B9{k:Nat}(h:k<=65535)(p:bK):gW (((gQ k p).drop 0).take 2)=k:=by
 rw[kx];unfold gQ;rw[oA (dR k 2),s5 2 k J]
theorem B_(k:Nat)(p:bK):(gQ k p)[3]? =some (UInt8.ofNat p.bits.toNat):=by
 unfold gQ;rw[kY (by rw[dR];decide),dR];rfl
theorem Ca(k:Nat)(p:bK):(gQ k p).drop 4=p.addr.raw:=by
 unfold gQ;rw[show 4=2+2 from rfl,←mb,List.drop_left' (dR k 2)];exact List.drop_left' rfl
theorem KW{b:Nat}(h:b<=65535)(u:Nat):gW (((ki b u).drop 0).take 2)=b:=by
 rw[kx];unfold ki;rw[oA (dR b 2),s5 2 b J]
theorem KX(b:Nat){u:Nat}(h:u<18446744073709551616):gW (((ki b u).drop 2).take 8)=u:=by
 unfold ki;rw[List.drop_left' (dR b 2),ey (by rw[dR];exact ba _),s5 8 u J]
theorem sk{w:I}{d sv:ae}{k b u:Nat}{p:bK}(e:Src 1 w d (ax (gQ k p)))(x:d.len<=d.cap)(f:Src 1 w sv (ax (ki b u)))(y:sv.len<=sv.cap)(hg:gi (k:Int) p=true)(hb:b<=65535)(hu:u<18446744073709551616):
 aC ai 152 #[.slice d.a d.len d.cap,.slice sv.a sv.len sv.cap] w (λv w'=>v=.tuple #[.agg (bf.mk (k:Nat) p (b:Nat) u).c.toArray,.bool true]/\Ext w w'):=by
 have g:=hg;unfold gi at g;rw[dH,cX]at g;obtain⟨z,O⟩:=g;have P:k<=65535:=by obtain⟨n,h1,aq⟩:=vl O;omega
 have au:=BH p.addr;have av:d.len=4+p.addr.raw.length:=by have:=e.len;rw[dh,zg]at this;omega
 have aw:sv.len=10:=by have:=f.len;rw[dh,s8]at this;omega
 have Q:p.addr.eH=true:=(BI z).2.1;have ay:=zf z;refine okF (aa.sk d sv) ao.sk func152 ?_;(delta aa.sk ld jI ah xd ad gh lf bC bl bq lQ cG bw al aZ r1 iW bF;dsimp only);refine aN (vs:=bf.zero.c) rfl λw1 R j az=>(jh (e.ext j) x (a:=0) (k:=2) J (by rw[zg];omega) (by rw[zg];omega)).use ?_;rintro _ _ ⟨rfl,rfl⟩;rw[B9 P];refine⟨_,true,rfl,λhb=>?_,λ_=>⟨⟨by decide,J⟩,?_⟩⟩
 .exfalso
  simp only[Bool.not_true,nu,jX,cX,bne_iff_ne]at hb;omega
 have B:=Src.sub (e.ext j) x (lo:=4) (hi:=d.len) J (ba _);have S:((ax (gQ k p)).drop 4).take (d.len-4)=ax p.addr.raw:=by
  have h1:(ax (gQ k p)).drop 4=ax p.addr.raw:=by rw[←Ca k p];unfold ax;rw[me]
  rw[h1,ey (by rw[dh];omega)]
 rw[S]at B;refine(o1 B).use ?_;rintro _ T ⟨rfl,C⟩;rw[B7 Q];refine⟨_,_,rfl,aN (vs:=aH.zero.c) rfl λaA D U aB=>⟨D.bX (by simp[aH.aX]) (aH.plain _),by simp[aH.aX],cA D (us:=p.addr.c) (by simp[aH.aX]) rfl λl V W _=>?_⟩⟩;have X:=j.trans C;have E:Ext T l:=Ext.bN U W (ba _);have m:=X.trans E;refine(jh (f.ext m) y (a:=0) (k:=2) J (by rw[s8];decide) (by rw[s8];decide)).use ?_;rintro _ _ ⟨rfl,rfl⟩;rw[KW hb];refine⟨_,true,rfl,(jh (f.ext m) y (a:=2) (k:=8) J (by rw[s8];decide) (by rw[s8];decide)).use ?_⟩;rintro _ _ ⟨rfl,rfl⟩;rw[KX b hu];have o:=b1 l;have r:=m.trans o;have F:=V.ext o;have G:=(R.ext C).ext (E.trans o);refine⟨_,true,rfl,aO ?_⟩;generalize l.drew=bZ at r F G;obtain⟨A,ar,Y,Z⟩:=(e.ext r).at (i:=3) (v:=.int .u8 (((UInt8.ofNat p.bits.toNat).toNat:Nat):Int)) (by unfold ax;rw[oy,B_];rfl);have ab:IntKind.wrap .i64 (((UInt8.ofNat p.bits.toNat).toNat:Nat):Int)=p.bits:=by
  rw[tN,bT J J];omega
 refine⟨λ_=>False,id,p.addr.c,F.rd (aH.aX _),A,ar,Y,id,_,Z,?_⟩;rw[ab,bT (n:=(k:Int)) J J,bT (n:=(b:Int)) J J];refine⟨p.c.toArray,λac=>EU ac p.addr p.bits,(bf.mk (k:Nat) p (b:Nat) u).c.toArray,λcx=>KV cx p _ _ _,aN (vs:=bf.zero.c) rfl λaD H K aE=>⟨K,H.bX (by simp[bf.aX]) (bf.plain _),by simp[bf.aX],cA H (us:=(bf.mk (k:Nat) p (b:Nat) u).c) (by simp[bf.aX]) rfl λbO s af _=>?_⟩⟩;have L:Ext bZ bO:=Ext.bN K af (ba _);refine⟨_,s.cell,_,B6 s,(m6 (k:Nat) p bO).use ?_⟩;rintro _ cC ⟨t,⟨hf,_⟩|⟨_,ag,rfl,aj,_⟩⟩
 .rw[hg]at hf;cases hf
 have M:=(r.trans L).trans t;have ak:=s.ext t;have N:=(G.ext L).ext t;refine⟨ag,true,rfl,cc (λb w'=>b=false/\cC=w') (λq am=>⟨λh=>(by cases h),λ_=>(p2 aj.src (e.ext M)).use ?_⟩) ?_⟩
 .rintro _ _ ⟨rfl,rfl⟩
  exact⟨_,rfl,am _ _ ⟨by rw[d_,eL rfl];rfl,rfl⟩⟩
 rintro _ _ ⟨rfl,rfl⟩;refine⟨λh=>(by cases h),λ_=>⟨_,ak.rd (bf.aX _),N.bX (by simp[bf.aX]) (bf.plain _),by simp[bf.aX],cA N (us:=(bf.mk (k:Nat) p (b:Nat) u).c) (by simp[bf.aX]) rfl λaF an ap _=>⟨_,an.rd (bf.aX _),rfl,Ext.bN M ap (ba _)⟩⟩⟩
theorem eO{w:I}{b i:Nat}{vs:O Y}{T:TypeId}(h:Var w b vs T)(v:Y):Var (w.setCell ⟨b,i,none⟩ v) b (vs.set i v) T:=by
 have:=bc.set h i v;have e:vs.toArray.setIfInBounds i v=(vs.set i v).toArray:=by simp
 rw[e]at this;exact this
theorem eP{w:I}{b i:Nat}{vs:O Y}{T:TypeId}(h:Var w b vs T)(hi:i<vs.length):(∃u:Y,w.cell? ⟨b,i,none⟩=some u)/\w.frozen? ⟨b,i,none⟩=false:=
 ⟨⟨vs[i],by rw[h.cell];simp[hi]⟩,bc.frozen h _ rfl⟩
theorem dX(w:I)(b i:Nat)(v:Y):af (λq=>q=b) w (w.setCell ⟨b,i,none⟩ v):=af.h5 (.refl _ _) v
structure kj(w:I)(r:Nat)(s:ae)(rd:Rd):Prop where
 v:Var w r [s,rd.2] 473
 src:Src 1 w s (ax rd.1)
 le:s.len<=s.cap
 ne:∀k,aB s k->k≠r
theorem kj.ak{W:Nat->Prop}{w w':I}{r:Nat}{s:ae}{rd:Rd}(h:kj w r s rd)(hc:af W w w')(h1:¬W r)(a:∀k,aB s k->¬W k):kj w' r s rd:=⟨h.v.ak hc h1,h.src.ak hc a,h.le,h.ne⟩
theorem kj.ext{w w':I}{r:Nat}{s:ae}{rd:Rd}(h:kj w r s rd)(hc:Ext w w'):kj w' r s rd:=kj.ak h hc id λ_ _ h=>h
theorem zh{a:aq av}{z l m n c k:Nat}(h:aB ⟨aW a z l m,n,c⟩ k):∃A,a=some A/\A.block=k:=by
 obtain⟨A,ar,rfl⟩:=h;unfold aW at ar;split at ar
 .exact⟨A,ar,rfl⟩
 .cases b:a with
  |none=>rw[b]at ar;cases ar
  |some d=>
   rw[b]at ar;simp only[mS,Option.some.injEq]at ar;exact⟨d,rfl,by subst ar;unfold Addr.add;split<;>rfl⟩
theorem FA{w:I}{r:Nat}{s:ae}{rd:Rd}(h:kj w r s rd)(k:Nat)(z:k<=100000)(u:rd.1.length<=100000):
 aC ai 347 #[.pointer (some r),k] w (λv w'=>∃t m:ae,v=t/\b5 (λq=>w.heap.size<=q) w' t (iL rd k).1/\kj w' r m (iL rd k).2/\af (λq=>q=r) w w'/\(∀q,aB m q->aB s q)):=by
 obtain⟨l,ok⟩:=rd;have d:=h.v;have x:=len8 h.src;simp only at x u d;have aJ:=d.lt;refine okF (aa.yP (some r) (k:Int)) ao.yP func347 ?_;(delta aa.yP ay aS ah aR st bn;dsimp only);refine⟨_,rfl,ok,by rw[aw];exact d.cell,cc (λb w'=>w=w'/\b=decide (ok=false\/l.length<k)) (λq c=>⟨λh1=>c _ _ ⟨rfl,?_⟩,λh1=>⟨_,rfl,s,d.cell,c _ _ ⟨rfl,?_⟩⟩⟩) ?_⟩
 .have h1:ok=false:=by simpa using h1
  exact(eL (.inl h1)).symm
 .have h1:ok=true:=by simpa using h1
  subst h1;rw[fL,cX,cX];constructor
  .intro h;exact .inr J
  .rintro(h|h)
   .cases h
   .omega
 rintro b w' ⟨rfl,rfl⟩;refine⟨λhb=>⟨_,rfl,?_⟩,λhb=>⟨_,rfl,s,d.cell,?_⟩⟩
 .have hb:=b8 hb
  obtain⟨aA,f⟩:=eP d (i:=1) (by simp);rw[aw];have hc:=dX w r 1 false;have e:iL (l,ok) k=([],(l,false)):=by unfold iL;rw[if_pos hb]
  rw[e];refine⟨aA,f,aO ⟨⟨none,0,0⟩,s,rfl,⟨(aT.none 1 5 _).src,ba _,λq c=>(gU q c).elim⟩,⟨eO d _,h.src.ak hc λq c=>h.ne q c,h.le,h.ne⟩,hc,λq c=>c⟩⟩
 .have hb:=cL hb
  have e:iL (l,ok) k=(l.take k,(l.drop k,true)):=by unfold iL;rw[if_neg hb]
  have C:k<=l.length:=by
   rcases eF l.length k with h1|h1
   .exact absurd (.inr h1) hb
   .exact h1
  have y:ok=true:=by
   cases ok with
   |true=>rfl
   |false=>exact absurd (.inl rfl) hb
  subst y;rw[e];have D:=h.le;refine⟨⟨J,J⟩,?_⟩;have n:=pb h.src h.le (lo:=0) (hi:=k) J J;rw[kx,q_]at n;rw[d_,q_];refine(nc (B:=λq=>w.heap.size<=q) (s:=⟨aW s.a 1 0 s.cap,k,s.cap-0⟩) n (by rw[c9];omega) (λq c=>c)).use ?_;rintro _ w1 ⟨t,rfl,ht,g,E⟩;have j:=d.ext g;obtain⟨aA,f⟩:=eP j (i:=0) (by simp);have hc:=dX w1 r 0 (.slice (aW s.a 1 k s.cap) (s.len-k) (s.cap-k));have o:=pb (h.src.ext g) h.le (lo:=k) (hi:=s.len) J (ba _);rw[ey (l:=l.drop k) (by rw[ek];omega)]at o;have p:∀q,aB ⟨aW s.a 1 k s.cap,s.len-k,s.cap-k⟩ q->q≠r:=λq c=>by
   obtain⟨A,ar,hb⟩:=zh c;exact h.ne q ⟨A,ar,hb⟩
  refine⟨t,rfl,_,rfl,s,j.cell,⟨J,J⟩,_,rfl,aA,f,aO ⟨t,⟨aW s.a 1 k s.cap,s.len-k,s.cap-k⟩,rfl,b5.ak ht hc (λq c e=>by subst e;omega),⟨eO j _,o.ak hc λq c=>p q c,by show s.len-k<=s.cap-k;omega,p⟩,(af.bL g).trans hc,λq c=>?_⟩⟩;obtain⟨A,ar,hb⟩:=zh c;exact⟨A,ar,hb⟩
theorem Cb{w:I}{r:Nat}{s:ae}{rd:Rd}(h:kj w r s rd)(k:Nat)(c:1<=k/\k<=2)(f:rd.1.length<=100000):
 aC ai 336 #[.pointer (some r),k] w (λv w'=>∃b:ae,v=.int .i64 ((rdNum rd k).1:Nat)/\kj w' r b (rdNum rd k).2/\af (λq=>q=r) w w'/\(∀q,aB b q->aB s q)):=by
 refine okF (aa.yL (some r) (k:Int)) ao.yL func336 ?_;(delta aa.yL bn jI al;dsimp only);refine(FA h k J f).use ?_;rintro _ w1 ⟨t,b,rfl,ht,d,hc,e⟩;have hlen:(iL rd k).1.length=k\/(iL rd k).1=[]:=by
  unfold iL;split
  .exact .inr rfl
  .rename_i g
   left;rw[c9];have:¬rd.1.length<k:=λh=>g (.inr h);omega
 have hb:=vb k (iL rd k).1;have i:256^k<=65536:=dQ (v7 J c.2) (by decide);refine⟨t,rfl,?_⟩;rcases hlen with hlen|hlen
 .refine(jh (a:=0) (k:=k) ht.1 ht.2.1 ⟨c.1,J⟩ J J).use ?_
  rintro _ _ ⟨rfl,rfl⟩;have hb:=hb hlen;rw[kx,ey J];refine⟨_,_,rfl,b,?_,d,hc,e⟩;rw[bT J J];unfold rdNum;rw[if_pos hlen]
 .refine(KJ (k:=k) ht.1 J (by rw[hlen];simp;omega)).use ?_
  rintro _ _ ⟨rfl,rfl⟩;refine⟨_,_,rfl,b,?_,d,hc,e⟩;unfold rdNum;rw[if_neg (by rw[hlen];simp;omega)];rfl
theorem Cc(rd:Rd)(k:Nat):(rdNum rd k).1<256^k:=by
 unfold rdNum;split
 .exact vb k _ (by assumption)
 .exact Nat.pow_pos J
theorem FB(rd:Rd)(k:Nat):(iL rd k).2.1.length<=rd.1.length/\(iL rd k).1.length<=k:=by
 unfold iL;split
 .exact⟨ba _,c8 _⟩
 .exact⟨by rw[ek];omega,by rw[c9];omega⟩
theorem zi(rd:Rd)(k:Nat):(rdNum rd k).2.1.length<=rd.1.length:=(FB rd k).1
theorem FC(rd:Rd):(kD rd).2.1.length<=rd.1.length/\(kD rd).1.length<=255:=by
 unfold kD;have h1:=FB (rdNum rd 1).2 (rdNum rd 1).1;have a:=zi rd 1;have b:(rdNum rd 1).1<256:=Cc rd 1;exact⟨J,J⟩
theorem FD{w:I}{r:Nat}{s:ae}{rd:Rd}(h:kj w r s rd)(d:rd.1.length<=100000):
 aC ai 337 #[.pointer (some r)] w (λv w'=>∃t b:ae,v=t/\b5 (λq=>w.heap.size<=q) w' t (kD rd).1/\kj w' r b (kD rd).2/\af (λq=>q=r) w w'/\(∀q,aB b q->aB s q)):=by
 refine okF (aa.yM (some r)) ao.yM func337 ?_;(delta aa.yM b4 bn;dsimp only);refine(Cb h 1 J d).use ?_;rintro _ w1 ⟨s1,rfl,e,c,f⟩;have k:(rdNum rd 1).1<256:=Cc rd 1;have l:=zi rd 1;refine⟨_,rfl,(FA e (rdNum rd 1).1 J J).use ?_⟩;rintro _ ag ⟨t,s2,rfl,ht,g,i,j⟩;exact⟨t,rfl,t,s2,rfl,b5.bG ht λq _ a=>dQ c.size a,g,c.trans i,λq a=>f q (j q a)⟩
theorem bQ.bG{B C:Nat->Prop}{w:I}{s:ae}{ls:O Key}(h:bQ B w s ls)(hb:∀k,k<w.heap.size->B k->C k):bQ C w s ls:=by
 obtain⟨ts,h1,d,e,a⟩:=h;exact⟨ts,h1,d,In.bG e hb,λi b c=>⟨b5.bG (a i b c).1 hb,(a i b c).2⟩⟩
theorem c6.bG{B C:Nat->Prop}{w:I}{s:ae}{ds:O Nat}(h:c6 B w s ds)(hb:∀k,k<w.heap.size->B k->C k):c6 C w s ds:=⟨h.1,In.bG h.2 hb⟩
def Grow(B:Nat->Prop)(w w':I)(q:Nat):Prop:=B q\/(w.heap.size<=q/\q<w'.heap.size)
theorem zj{w:I}{nb o:Nat}{vs:O Y}{S t:ae}{ls:O Key}{l:Key}{B:Nat->Prop}{T:TypeId}{W:Nat->Prop}(c:Var w nb vs T)(m:o<vs.length)(d:bQ B w S ls)(f:¬B nb)
 (ht:b5 B w t l) (hd:∀k,aB t k->¬aB S k) (A:ls.length<=100000) {K:I->Prop}
 (n:∀ (w':I) (aP:ae),Var w' nb (vs.set o aP) T->bQ (Grow B w w') w' aP (ls++ [l])->af (λq=>q=nb\/aB S q) w w'->K w'):
 an (w.alloc (.cells #[t] 31)) λcx=>af W w cx/\∃g:ae,∃bO:I,Sem.run ai (Builtin.append_ #[358,358] 358 #[S,.slice (some w.heap.size) 1 1]) cx=.ok g bO/\
  (∃u:Y,bO.cell? (Addr.add nb o)=some u)/\bO.frozen? (Addr.add nb o)=false/\an (bO.setCell (Addr.add nb o) g) λp=>K p:=by
 have r:=bQ.bG (C:=λq=>B q\/w.heap.size<=q) d λk _ h=>.inl h;have s:=b5.bG (C:=λq=>B q\/w.heap.size<=q) ht λk _ h=>.inl h;obtain⟨b,w',aA,v,i,D⟩:=Fp r s hd J λk a=>.inr a;have E:=c.lt;have x:¬aB S nb:=λh=>by
  obtain⟨ts,_,_,y,_⟩:=d;exact f (y nb h).1
 have j:=c.ak i x;obtain⟨bd,bo⟩:=eP j m;refine aO ⟨af.bL (c5 _ _),b,w',aA,?_⟩;rw[aw,cz];have hc:=dX w' nb o b;refine⟨bd,bo,aO (n _ b (eO j _) ?_ ?_)⟩
 .have z:=bQ.bG (C:=Grow B w (w'.setCell ⟨nb,o,none⟩ b)) v λk a h=>by
   rcases h with h|h
   .exact .inl h
   .exact .inr ⟨h,fB a hc.size⟩
  refine bQ.ak z hc λk a e=>?_;subst e;rcases a with h|h
  .exact f h
  .omega
 .exact(i.mono λk _ h=>.inr h).trans (hc.mono λk _ h=>.inl h)
theorem FE{w:I}{nb o:Nat}{vs:O Y}{S:ae}{ds:O Nat}(d:Nat){B:Nat->Prop}{T:TypeId}{W:Nat->Prop}(c:Var w nb vs T)(m:o<vs.length)(f:c6 B w S ds)(g:¬B nb)
 (x:ds.length<=100000) {K:I->Prop}
 (n:∀ (w':I) (aP:ae),Var w' nb (vs.set o aP) T->c6 (Grow B w w') w' aP (ds++ [d])->af (λq=>q=nb\/aB S q) w w'->K w'):
 an (w.alloc (.cells #[d] 3)) λcx=>af W w cx/\∃i:ae,∃bO:I,Sem.run ai (Builtin.append_ #[181,181] 181 #[S,.slice (some w.heap.size) 1 1]) cx=.ok i bO/\
  (∃u:Y,bO.cell? (Addr.add nb o)=some u)/\bO.frozen? (Addr.add nb o)=false/\an (bO.setCell (Addr.add nb o) i) λp=>K p:=by
 have r:=c6.bG (C:=λq=>B q\/w.heap.size<=q) f λk _ h=>.inl h;obtain⟨b,w',aA,s,j,y⟩:=KR d r J λk a=>.inr a;have z:=c.lt;have t:¬aB S nb:=λh=>g (f.2 nb h).1;have l:=c.ak j t;obtain⟨bd,bo⟩:=eP l m;refine aO ⟨af.bL (c5 _ _),b,w',aA,?_⟩;rw[aw,cz];have hc:=dX w' nb o b;refine⟨bd,bo,aO (n _ b (eO l _) ?_ ?_)⟩
 .have v:=c6.bG (C:=Grow B w (w'.setCell ⟨nb,o,none⟩ b)) s λk a h=>by
   rcases h with h|h
   .exact .inl h
   .exact .inr ⟨h,fB a hc.size⟩
  refine c6.ak v hc λk a e=>?_;subst e;rcases a with h|h
  .exact g h
  .omega
 .exact(j.mono λk _ h=>.inr h).trans (hc.mono λk _ h=>.inl h)
structure lh(lo:Nat)(w:I)(r nb:Nat)(s:ae)(m:aK×Rd)(K V D:ae)(b2 cn bP:Nat->Prop):Prop where
 v:Var w nb [m.1.leaf,K,V,D] 397
 rd:kj w r s m.2
 keys:bQ b2 w K m.1.keys
 vals:bQ cn w V m.1.vals
 kids:c6 bP w D m.1.kids
 b7:∀q,b2 q->lo<=q/\q<w.heap.size/\¬cn q/\¬bP q
 bv:∀q,cn q->lo<=q/\q<w.heap.size/\¬bP q
 bq:∀q,bP q->lo<=q/\q<w.heap.size
 hs:∀q,aB s q->q<lo/\q≠nb
 qF:r<lo
 qG:nb<lo
 lj:r≠nb
 qH:m.2.1.length<=100000
def qI(lo r nb:Nat)(q:Nat):Prop:=q=r\/q=nb\/lo<=q
theorem lh.drew{lo:Nat}{w:I}{r nb:Nat}{s:ae}{m:aK×Rd}{K V D:ae}{b2 cn bP:Nat->Prop}(h:lh lo w r nb s m K V D b2 cn bP):lh lo w.drew r nb s m K V D b2 cn bP:=
 ⟨h.v.ext (b1 w),h.rd.ext (b1 w),bQ.ext h.keys (b1 w),bQ.ext h.vals (b1 w),c6.ext h.kids (b1 w),h.b7,h.bv,h.bq,h.hs,h.qF,h.qG,h.lj,h.qH⟩
theorem FF{leaf:aj}:∀ (s:aK×Rd) (i:Nat),s.1.leaf=leaf->(iY s i).1.leaf=leaf
 |_,0,h=>h
 |s,i+1,h=>by
  have a:=FF s i h
  rw[iY]
  unfold qE
  split
  .exact a
  .exact a
theorem FG:∀ (s:aK×Rd) (i:Nat),(iY s i).1.keys.length=s.1.keys.length+i/\(iY s i).1.vals.length<=s.1.vals.length+i/\(iY s i).1.kids.length<=s.1.kids.length+i
 |_,0=>⟨rfl,ba _,ba _⟩
 |s,i+1=>by
  obtain⟨h1,a,b⟩:=FG s i
  rw[iY]
  unfold qE
  split<;>simp<;>omega
theorem KY{lo:Nat}{w:I}{r nb:Nat}{s:ae}{m:aK×Rd}{K V D:ae}{b2 cn bP:Nat->Prop}(h:lh lo w r nb s m K V D b2 cn bP)(ab:lo<=w.heap.size)(F:m.1.keys.length<=100000){R:I->Prop}
 (G:∀ (w':I) (j l:ae) (H:Nat->Prop),lh lo w' r nb l (⟨m.1.leaf,m.1.keys++ [(kD m.2).1],m.1.vals,m.1.kids⟩,(kD m.2).2) j V D H cn bP->af (qI lo r nb) w w'->lo<=w'.heap.size->R w'):
 an w.drew λn=>∃p:Nat->Prop,¬p (Addr.add nb 1).block/\∃i:ae,n.cell? (Addr.add nb 1)=some (.slice i.a i.len i.cap)/\
  Calls ai 337 #[.pointer (some r)] n λL d=>∃C:ae,L=.returned C/\af p n d/\
  an (d.alloc (.cells #[C] 31)) λcx=>af p d cx/\∃E:ae,∃bO:I,Sem.run ai (Builtin.append_ #[358,358] 358 #[i,.slice (some d.heap.size) 1 1]) cx=.ok E bO/\
  (∃u:Y,bO.cell? (Addr.add nb 1)=some u)/\bO.frozen? (Addr.add nb 1)=false/\an (bO.setCell (Addr.add nb 1) E) λM=>R M:=by
 have hd:=h.drew;have ac:=h.qF;have ad:=h.qG;obtain⟨cu,bd,bo,bA⟩:=cl hd.v;refine aO ⟨λq=>q=r,λe=>h.lj (by rw[aw]at e;exact e.symm),K,bd,(FD hd.rd hd.qH).use ?_⟩;rintro _ d ⟨t,l,rfl,ht,N,hc,x⟩;have ag:w.drew.heap.size=w.heap.size:=rfl;have O:=hc.size;have y:∀ {B:Nat->Prop},(∀q,B q->lo<=q)->∀k,B k->¬(k=r):=λP k c e=>by have:=P k c;omega
 have Q:=bQ.ak hd.keys hc (y λq b=>(h.b7 q b).1);have S:=bQ.ak hd.vals hc (y λq b=>(h.bv q b).1);have T:=c6.ak hd.kids hc (y λq b=>(h.bq q b).1);have U:=hd.v.ak hc (λe=>h.lj e.symm);refine⟨t,rfl,hc,zj (B:=Grow b2 w.drew d) U (o:=1) (by simp) (bQ.bG Q λk _ h=>.inl h) ?_ (b5.bG ht λk c h=>.inr ⟨h,c⟩) ?_ F λw' j aA W f=>?_⟩
 .rintro(h1|h1)
  .have:=(h.b7 nb h1).1;omega
  .omega
 .intro k X Z
  obtain⟨ts,_,_,z,_⟩:=h.keys;have:=(z k Z).2;have:=(ht.2.2 k X).1;omega
 have aa:∀q,Grow (Grow b2 w.drew d) d w' q->b2 q\/(w.heap.size<=q/\q<w'.heap.size):=by
  rintro q ((h1|h1)|h1)
  .exact .inl h1
  .exact .inr ⟨h1.1,fB h1.2 f.size⟩
  .exact .inr ⟨dQ O h1.1,h1.2⟩
 have hg:=f.size;have g:∀q,aB K q->b2 q:=λq b=>by
  obtain⟨ts,_,_,z,_⟩:=h.keys;exact(z q b).1
 refine G w' j l (λq=>b2 q\/(w.heap.size<=q/\q<w'.heap.size)) ⟨by simpa using aA,N.ak f ?_ ?_,bQ.bG W λk _ c=>aa k c,bQ.ak S f ?_,c6.ak T f ?_,?_,λq b=>?_,λq b=>?_,λq b=>h.hs q (x q b),h.qF,h.qG,h.lj,dQ (FC m.2).1 h.qH⟩ ?_ J
 .rintro(h1|h1)
  .exact h.lj h1
  .have:=(h.b7 r (g r h1)).1;omega
 .rintro q b (h1|h1)
  .exact(h.hs q (x q b)).2 h1
  .have:=(h.b7 q (g q h1)).1
   have:=(h.hs q (x q b)).1;omega
 .rintro q b (h1|h1)
  .have:=(h.bv q b).1;omega
  .exact(h.b7 q (g q h1)).2.2.1 b
 .rintro q b (h1|h1)
  .have:=(h.bq q b).1;omega
  .exact(h.b7 q (g q h1)).2.2.2 b
 .rintro q (h1|h1)
  .have:=h.b7 q h1;exact⟨this.1,J,this.2.2⟩
  .exact⟨J,h1.2,λA=>by have:=h.bv q A;omega,λA=>by have:=h.bq q A;omega⟩
 .have:=h.bv q b;exact⟨this.1,J,this.2.2⟩
 .have:=h.bq q b;exact⟨this.1,J⟩
 .refine((af.bL (b1 w)).trans (hc.mono λk _ c=>.inl c)).trans (f.mono λk _ c=>?_)
  rcases c with c|c
  .exact .inr (.inl c)
  .exact .inr (.inr (h.b7 k (g k c)).1)
theorem KZ{lo:Nat}{w:I}{r nb:Nat}{s:ae}{m:aK×Rd}{K V D:ae}{b2 cn bP:Nat->Prop}(h:lh lo w r nb s m K V D b2 cn bP)(ab:lo<=w.heap.size)(E:m.1.vals.length<=100000){R:I->Prop}
 (F:∀ (w':I) (j l:ae) (G:Nat->Prop),lh lo w' r nb l (⟨m.1.leaf,m.1.keys,m.1.vals++ [(kD m.2).1],m.1.kids⟩,(kD m.2).2) K j D b2 G bP->af (qI lo r nb) w w'->lo<=w'.heap.size->R w'):
 an w.drew λn=>∃p:Nat->Prop,¬p (Addr.add nb 2).block/\∃i:ae,n.cell? (Addr.add nb 2)=some (.slice i.a i.len i.cap)/\
  Calls ai 337 #[.pointer (some r)] n λH d=>∃A:ae,H=.returned A/\af p n d/\
  an (d.alloc (.cells #[A] 31)) λcx=>af p d cx/\∃C:ae,∃bO:I,Sem.run ai (Builtin.append_ #[358,358] 358 #[i,.slice (some d.heap.size) 1 1]) cx=.ok C bO/\
  (∃u:Y,bO.cell? (Addr.add nb 2)=some u)/\bO.frozen? (Addr.add nb 2)=false/\an (bO.setCell (Addr.add nb 2) C) λL=>R L:=by
 have hd:=h.drew;have ac:=h.qF;have ad:=h.qG;obtain⟨cu,bd,bo,bA⟩:=cl hd.v;refine aO ⟨λq=>q=r,λe=>h.lj (by rw[aw]at e;exact e.symm),V,bo,(FD hd.rd hd.qH).use ?_⟩;rintro _ d ⟨t,l,rfl,ht,M,hc,x⟩;have ag:w.drew.heap.size=w.heap.size:=rfl;have N:=hc.size;have y:∀ {B:Nat->Prop},(∀q,B q->lo<=q)->∀k,B k->¬(k=r):=λO k c e=>by have:=O k c;omega
 have P:=bQ.ak hd.keys hc (y λq b=>(h.b7 q b).1);have Q:=bQ.ak hd.vals hc (y λq b=>(h.bv q b).1);have S:=c6.ak hd.kids hc (y λq b=>(h.bq q b).1);have T:=hd.v.ak hc (λe=>h.lj e.symm);refine⟨t,rfl,hc,zj (B:=Grow cn w.drew d) T (o:=2) (by simp) (bQ.bG Q λk _ h=>.inl h) ?_ (b5.bG ht λk c h=>.inr ⟨h,c⟩) ?_ E λw' j aA U f=>?_⟩
 .rintro(h1|h1)
  .have:=(h.bv nb h1).1;omega
  .omega
 .intro k W X
  obtain⟨ts,_,_,z,_⟩:=h.vals;have:=(z k X).2;have:=(ht.2.2 k W).1;omega
 have Z:∀q,Grow (Grow cn w.drew d) d w' q->cn q\/(w.heap.size<=q/\q<w'.heap.size):=by
  rintro q ((h1|h1)|h1)
  .exact .inl h1
  .exact .inr ⟨h1.1,fB h1.2 f.size⟩
  .exact .inr ⟨dQ N h1.1,h1.2⟩
 have hg:=f.size;have g:∀q,aB V q->cn q:=λq b=>by
  obtain⟨ts,_,_,z,_⟩:=h.vals;exact(z q b).1
 refine F w' j l (λq=>cn q\/(w.heap.size<=q/\q<w'.heap.size)) ⟨by simpa using aA,M.ak f ?_ ?_,bQ.ak P f ?_,bQ.bG U λk _ c=>Z k c,c6.ak S f ?_,λq b=>?_,?_,λq b=>?_,λq b=>h.hs q (x q b),h.qF,h.qG,h.lj,dQ (FC m.2).1 h.qH⟩ ?_ J
 .rintro(h1|h1)
  .exact h.lj h1
  .have:=(h.bv r (g r h1)).1;omega
 .rintro q b (h1|h1)
  .exact(h.hs q (x q b)).2 h1
  .have:=(h.bv q (g q h1)).1
   have:=(h.hs q (x q b)).1;omega
 .rintro q b (h1|h1)
  .have:=(h.b7 q b).1;omega
  .exact(h.b7 q b).2.2.1 (g q h1)
 .rintro q b (h1|h1)
  .have:=(h.bq q b).1;omega
  .exact(h.bv q (g q h1)).2.2 b
 .have:=h.b7 q b
  refine⟨this.1,J,?_,this.2.2.2⟩;rintro(h1|h1)
  .exact this.2.2.1 h1
  .omega
 .rintro q (h1|h1)
  .have:=h.bv q h1;exact⟨this.1,J,this.2.2⟩
  .exact⟨J,h1.2,λaa=>by have:=h.bq q aa;omega⟩
 .have:=h.bq q b;exact⟨this.1,J⟩
 .refine((af.bL (b1 w)).trans (hc.mono λk _ c=>.inl c)).trans (f.mono λk _ c=>?_)
  rcases c with c|c
  .exact .inr (.inl c)
  .exact .inr (.inr (h.bv k (g k c)).1)
theorem FH{lo:Nat}{w:I}{r nb:Nat}{s:ae}{m:aK×Rd}{K V D:ae}{b2 cn bP:Nat->Prop}(h:lh lo w r nb s m K V D b2 cn bP)(S:lo<=w.heap.size)(y:m.1.kids.length<=100000){R:I->Prop}
 (z:∀ (w':I) (aI j:ae) (A:Nat->Prop),lh lo w' r nb j (⟨m.1.leaf,m.1.keys,m.1.vals,m.1.kids++ [(rdNum m.2 2).1]⟩,(rdNum m.2 2).2) K V aI b2 cn A->af (qI lo r nb) w w'->lo<=w'.heap.size->R w'):
 an w.drew λl=>∃n:Nat->Prop,¬n (Addr.add nb 3).block/\∃i:ae,l.cell? (Addr.add nb 3)=some (.slice i.a i.len i.cap)/\
  Calls ai 336 #[.pointer (some r),(2:Int)] l λC d=>∃n30:Int,C=.returned n30/\af n l d/\
  an (d.alloc (.cells #[n30] 3)) λcx=>af n d cx/\∃x:ae,∃bO:I,Sem.run ai (Builtin.append_ #[181,181] 181 #[i,.slice (some d.heap.size) 1 1]) cx=.ok x bO/\
  (∃u:Y,bO.cell? (Addr.add nb 3)=some u)/\bO.frozen? (Addr.add nb 3)=false/\an (bO.setCell (Addr.add nb 3) x) λE=>R E:=by
 have hd:=h.drew;have T:=h.qF;have U:=h.qG;obtain⟨cu,bd,bo,bA⟩:=cl hd.v;refine aO ⟨λq=>q=r,λe=>h.lj (by rw[aw]at e;exact e.symm),D,bA,(Cb hd.rd 2 (by decide) hd.qH).use ?_⟩;rintro _ d ⟨j,rfl,F,hc,p⟩;have W:w.drew.heap.size=w.heap.size:=rfl;have G:=hc.size;have t:∀ {B:Nat->Prop},(∀q,B q->lo<=q)->∀k,B k->¬(k=r):=λH k c e=>by have:=H k c;omega
 have L:=bQ.ak hd.keys hc (t λq b=>(h.b7 q b).1);have M:=bQ.ak hd.vals hc (t λq b=>(h.bv q b).1);have N:=c6.ak hd.kids hc (t λq b=>(h.bq q b).1);have O:=hd.v.ak hc (λe=>h.lj e.symm);refine⟨_,rfl,hc,FE (rdNum m.2 2).1 (B:=bP) O (o:=3) (by simp) N (λh1=>by have:=(h.bq nb h1).1;omega) y λw' aI aA P f=>?_⟩;have Q:∀q,Grow bP d w' q->bP q\/(w.heap.size<=q/\q<w'.heap.size):=by
  rintro q (h1|h1)
  .exact .inl h1
  .exact .inr ⟨dQ G h1.1,h1.2⟩
 have hg:=f.size;have g:∀q,aB D q->bP q:=λq b=>(h.kids.2 q b).1;refine z w' aI j (λq=>bP q\/(w.heap.size<=q/\q<w'.heap.size)) ⟨by simpa using aA,F.ak f ?_ ?_,bQ.ak L f ?_,bQ.ak M f ?_,c6.bG P λk _ c=>Q k c,λq b=>?_,λq b=>?_,?_,λq b=>h.hs q (p q b),h.qF,h.qG,h.lj,dQ (zi m.2 2) h.qH⟩ ?_ J
 .rintro(h1|h1)
  .exact h.lj h1
  .have:=(h.bq r (g r h1)).1;omega
 .rintro q b (h1|h1)
  .exact(h.hs q (p q b)).2 h1
  .have:=(h.bq q (g q h1)).1
   have:=(h.hs q (p q b)).1;omega
 .rintro q b (h1|h1)
  .have:=(h.b7 q b).1;omega
  .exact(h.b7 q b).2.2.2 (g q h1)
 .rintro q b (h1|h1)
  .have:=(h.bv q b).1;omega
  .exact(h.bv q b).2.2 (g q h1)
 .have:=h.b7 q b
  refine⟨this.1,J,this.2.2.1,?_⟩;rintro(h1|h1)
  .exact this.2.2.2 h1
  .omega
 .have:=h.bv q b
  refine⟨this.1,J,?_⟩;rintro(h1|h1)
  .exact this.2.2 h1
  .omega
 .rintro q (h1|h1)
  .have:=h.bq q h1;exact⟨this.1,J⟩
  .exact⟨J,h1.2⟩
 .refine((af.bL (b1 w)).trans (hc.mono λk _ c=>.inl c)).trans (f.mono λk _ c=>?_)
  rcases c with c|c
  .exact .inr (.inl c)
  .exact .inr (.inr (h.bq k (g k c)).1)
def vm:aK:=⟨false,[],[],[]⟩
def cJ:ae:=⟨none,0,0⟩
def Cd(leaf:aj)(l:O UInt8)(w w':I)(v:Y):Prop:=
 (∃ (n:aK) (K V D:ae),v=.tuple #[dT n K V D,(0:Int)]/\m_ leaf l n/\cr (λq=>w.heap.size<=q) w' n K V D)\/
 (v=.tuple #[dT vm cJ cJ cJ,(4:Int)]/\∀n,¬m_ leaf l n)
theorem kE{w':I}{h:Nat}{vs:O Y}(b:aj)(K V D:ae)(c:Var w' h vs 397)(g:vs.length=4){Q:aj->ae->ae->ae->I->Prop}(j:∀ag,af (λq=>q=h) w' ag->Q b K V D ag):
 b_ w' h [b,K,V,D]/\(4:Nat)=4/\an (setCells w' h 0 [b,K,V,D]) λag=>
  ∃i:aj,ag.cell? h=some (.bool i)/\∃d:ae,ag.cell? (Addr.add h 1)=some (.slice d.a d.len d.cap)/\∃e:ae,ag.cell? (Addr.add h 2)=some (.slice e.a e.len e.cap)/\
   ∃f:ae,ag.cell? (Addr.add h 3)=some (.slice f.a f.len f.cap)/\Q i d e f ag:=by
 refine⟨c.bX (by rw[g];rfl) ?_,rfl,cA c (us:=[b,K,V,D]) (by rw[g];rfl) rfl λag k hc _=>?_⟩
 .intro v c
  simp only[cY,fC,fM]at c;rcases c with rfl|rfl|rfl|rfl<;>trivial
 .obtain⟨cu,bd,bo,bA⟩:=cl k
  exact⟨b,cu,K,bd,V,bo,D,bA,j ag hc⟩
theorem sH{w:I}{s:ae}{l:O UInt8}(hs:Src 1 w s (ax l))(hc:s.len<=s.cap)(U:∀k,aB s k->k<w.heap.size)(an:l.length<=100000)(leaf:aj):
 aC ai 316 #[leaf,s] w (λv w'=>Cd leaf l w w' v/\Ext w w'):=by
 refine okF (aa.sH leaf s) ao.sH func316 ?_;(delta aa.sH c0 bH ad b4 ah A_ bC dI eU aR ap st dj bn al aS aE eG xs bF uD;dsimp only);refine aN (vs:=[false,(),(),()]) rfl λw1 aU aq bE=>?_;refine aN (vs:=[s,true]) rfl λag aV W bI=>?_;refine aN (vs:=[false,(),(),()]) rfl λbJ ar G bK=>?_;refine⟨ar.bX rfl (by
  intro v au;simp only[cY,fC,fM]at au;rcases au with rfl|rfl|rfl|rfl<;>trivial),rfl,cA ar (us:=[leaf,(),(),()]) rfl rfl λo aW H bL=>?_⟩
 obtain⟨lo,bM⟩:∃lo,lo=o.heap.size:=⟨_,rfl⟩;obtain⟨r,av⟩:∃r,r=w1.heap.size:=⟨_,rfl⟩;obtain⟨nb,ay⟩:∃nb,nb=ag.heap.size:=⟨_,rfl⟩;have aX:Ext w o:=Ext.bN (aq.trans (W.trans G)) H J;have aY:kj o w1.heap.size s (l,true):=by
  refine⟨(aV.ext G).ak H J,(hs.ext (aq.trans (W.trans G))).ak H λk c e=>?_,hc,λk c=>?_⟩
  .have:=U k c;omega
  .have:=U k c;omega
 refine(Cb aY 1 (by decide) an).use ?_;rintro _ aF ⟨az,rfl,aZ,X,a0⟩;have bO:(rdNum (l,true) 1).1<256:=Cc _ 1;have bR:=X.size;have aD:lh lo aF r nb az (⟨leaf,[],[],[]⟩,(rdNum (l,true) 1).2) cJ cJ cJ (λ_=>False) (λ_=>False) (λ_=>False):=by
  refine⟨by rw[ay];exact aW.ak X J,by rw[av];exact aZ,bQ.none _ _,bQ.none _ _,c6.none _ _,λq h=>h.elim,λq h=>h.elim,λq h=>h.elim,λq a=>?_,J,J,J,dQ (zi _ 1) an⟩;have:=U q (a0 q a);exact⟨J,J⟩
 have aG:af (qI lo r nb) o aF:=X.mono λk _ c=>.inl J;rw[←av,←ay];refine⟨_,rfl,k3 (λw'=>∃ (x D:ae) (bP:Nat->Prop),lh lo w' r nb x (nX leaf (rdNum (l,true) 1).2) cJ cJ D (λ_=>False) (λ_=>False) bP/\af (qI lo r nb) o w'/\lo<=w'.heap.size) (λq a=>⟨λd=>?_,λd=>a _ ⟨az,cJ,λ_=>False,?_,aG,J⟩⟩) ?_⟩
 .have d:leaf=false:=by simpa using d
  subst d;refine FH aD J (by simp) λw' aI x a1 h1 m p=>a _ ⟨x,aI,a1,?_,aG.trans m,p⟩;have:nX false (rdNum (l,true) 1).2=(⟨false,[],[],[]++ [(rdNum (rdNum (l,true) 1).2 2).1]⟩,(rdNum (rdNum (l,true) 1).2 2).2):=by simp[nX]
  rw[this];exact h1
 .have d:leaf=true:=by simpa using d
  subst d;exact aD
 rintro bS ⟨a2,a3,a4,aH,a5,a6⟩;obtain⟨f,L⟩:∃f,f=nX leaf (rdNum (l,true) 1).2:=⟨_,rfl⟩;rw[←L]at aH;have a7:f.1.leaf=leaf:=by rw[L];unfold nX;cases leaf<;>rfl
 have bU:f.1.keys.length=0/\f.1.vals.length<=1/\f.1.kids.length<=1:=by rw[L];unfold nX;cases leaf<;>simp
 refine⟨λi w'=>∃ (j:Nat) (x K V D:ae) (b2 cn bP:Nat->Prop),i=j/\j<=(rdNum (l,true) 1).1/\lh lo w' r nb x (iY f j) K V D b2 cn bP/\af (qI lo r nb) o w'/\lo<=w'.heap.size,λi _=>(((rdNum (l,true) 1).1:Int)-i).toNat,⟨0,a2,cJ,cJ,a3,_,_,a4,rfl,c8 _,aH,a5,a6⟩,?_⟩;rintro _ aK ⟨j,bW,K,V,D,b2,cn,bP,rfl,bY,g,M,a8⟩;obtain⟨a9,a_,bb⟩:=FG f j;have y:=FF f j a7;refine⟨λaJ=>?_,λY=>?_⟩
 .have aJ:j<(rdNum (l,true) 1).1:=by have:=b8 aJ;omega
  rw[bT (n:=(j:Int)+1) J J];refine k3 (λw'=>∃ (x K V D:ae) (b2 cn bP:Nat->Prop),lh lo w' r nb x (iY f (j+1)) K V D b2 cn bP/\af (qI lo r nb) o w'/\lo<=w'.heap.size) (λq a=>?_) ?_
  .refine KY g a8 J λz N aL P R S T=>⟨λd=>?_,λd=>?_⟩
   .refine KZ R T (by show(iY f j).1.vals.length<=_;omega) λZ bc ab be C t ac=>a _ ⟨ab,N,bc,D,P,be,bP,?_,M.trans (S.trans t),ac⟩
    rw[iY];unfold qE;rw[y,d,if_pos rfl];rw[y,d]at C;exact C
   .refine FH R T (by show(iY f j).1.kids.length<=_;omega) λZ bf ab bg C t ac=>a _ ⟨ab,N,V,bf,P,cn,bg,?_,M.trans (S.trans t),ac⟩
    rw[iY];unfold qE;rw[y,d,if_neg (by simp)];rw[y,d]at C;exact C
  .rintro z ⟨aL,N,bh,bi,P,bj,bk,R,S,T⟩
   refine⟨⟨j+1,aL,N,bh,bi,P,bj,bk,J,J,R,S,T⟩,?_⟩;show(((rdNum (l,true) 1).1:Int)-((j:Int)+1)).toNat<(((rdNum (l,true) 1).1:Int)-(j:Int)).toNat;omega
 .have Y:j=(rdNum (l,true) 1).1:=by have:=cL Y;omega
  have bl:iY f j=jl leaf l:=by rw[Y,L];rfl
  rw[bl]at g a9 a_ bb y;obtain⟨cu,bd,bo,bA⟩:=cl g.v;have eY:cr (λq=>lo<=q) aK (jl leaf l).1 K V D:=⟨b6.bG (bQ.mF g.keys) λq _ a=>(g.b7 q a).1,b6.bG (bQ.mF g.vals) λq _ a=>(g.bv q a).1,dd.bG (c6.vh g.kids) λq _ a=>(g.bq q a).1⟩;have bm:Ext w aK:=Ext.ee aX M λk c=>by
   rcases c with c|c|c<;>omega
  refine⟨_,cu,K,bd,V,bo,D,bA,(qn eY J J J).use ?_⟩;rintro bp z ⟨br,E⟩;have am:=bm.trans E;have bs:=g.v.ext E;have bt:=g.rd.ext E;have aM:Var z w.heap.size [false,(),(),()] 397:=by
   refine(Var.ak (w:=o) ?_ M ?_).ext E
   .exact(((aU.ext W).ext G).ak H J)
   .rintro(c|c|c)<;>omega
  have bu:=eY.ext E;obtain⟨d0,d1,d2,d3⟩:=cl bs;have bw:∃ (A:ae) (e:Int),bp=Value.tuple #[A,e]/\(e=0->aT 1 5 z A (ax (kg (jl leaf l).1))/\cV (jl leaf l).1/\bV (jl leaf l).1<=232)/\(e≠0->cV (jl leaf l).1->232<bV (jl leaf l).1):=by
   rcases br with ⟨A,rfl,h1,m,p,B⟩|⟨e,rfl,h1,m⟩
   .exact⟨A,0,rfl,λ_=>⟨h1,p,B⟩,λh=>absurd rfl h⟩
   .exact⟨cJ,e,rfl,λh=>absurd h h1,λ_=>m⟩
  obtain⟨A,e,rfl,bx,aO⟩:=bw;have bz:Src 1 z s (ax l):=hs.ext am
  have aP:∀n,m_ leaf l n->jl leaf l=(n,([],true)):=by
   rintro n ⟨h1,m,p,B⟩;have:=B0 h1 p;rw[m,B]at this;exact this
  refine⟨A,e,rfl,_,rfl,(jl leaf l).2.2,by rw[aw];exact bt.v.cell,cc (λb w'=>z=w'/\(b=true->∀n,¬m_ leaf l n)/\(b=false->m_ leaf l (jl leaf l).1)) (λq a=>⟨λh1=>a _ _ ⟨rfl,λ_ n F=>?_,λh=>(by cases h)⟩,λh1=>?_⟩) ?_⟩
  .have hu:=aP n F
   obtain⟨m,p,B,aQ⟩:=F;rw[hu]at h1 aO;have h1:(e !=0)=true:=by simpa using h1
   have bZ:232<bV n:=aO (by simpa using h1) m;omega
  .have bB:(jl leaf l).2.2=true/\e=0:=by
    simp only[q8,nx,bne_eq_false_iff_eq]at h1;exact h1
   obtain⟨m,rfl⟩:=bB;obtain⟨p,B,aQ⟩:=bx rfl;refine(p2 p.src bz).use ?_;rintro _ _ ⟨rfl,rfl⟩;refine⟨_,rfl,a _ _ ⟨rfl,λu n F=>?_,λu=>?_⟩⟩
   .have hu:=aP n F
    have u:¬kg (jl leaf l).1=l:=by simpa using u
    rw[hu]at u;exact u F.2.2.2
   .have u:kg (jl leaf l).1=l:=by simpa using u
    exact⟨B,y,aQ,u⟩
  rintro b w' ⟨rfl,aA,bD⟩;refine⟨λhb=>?_,λhb=>⟨_,d0,K,d1,V,d2,D,d3,?_⟩⟩
  .refine kE false cJ cJ cJ aM rfl (Q:=λb K V D ag=>(λv w'=>Cd leaf l w w' v/\Ext w w') (.tuple #[.agg #[b,K,V,D],(4:Int)]) ag) λZ t=>⟨.inr ⟨rfl,aA hb⟩,Ext.bN am t (ba _)⟩
  .refine kE (jl leaf l).1.leaf K V D aM rfl (Q:=λb K V D ag=>(λv w'=>Cd leaf l w w' v/\Ext w w') (.tuple #[.agg #[b,K,V,D],(0:Int)]) ag) λZ t=>⟨.inl ⟨(jl leaf l).1,K,V,D,rfl,bD hb,?_⟩,Ext.bN am t (ba _)⟩
   exact(bu.ak t λk c e=>J).bG λk _ c=>by omega
theorem K0{s v:ae}{vs xs:O Y}{i jE:Nat}{ag:Array Y}{aj:TypeId}{w:I}(G:aT 1 31 w s vs)(L:Src 1 w v xs)(g:v.len=1)(am:v.a=some ⟨jE,0,none⟩)(R:bc w jE ag aj)(an:¬aB s jE)
 (S:∀u∈xs,Plain u) (aP:∀u∈vs,Plain u) (hi:i<=s.len) (a_:s.len<=1000000):
 aC ai 313 #[s,.int .i64 (i:Int),v] w (λu w'=>∃y:ae,u=y/\aT 1 31 w' y (vs.take (i*1)++xs++vs.drop (i*1))/\y.len=s.len+1/\af (aB s) w w'/\(∀k,aB y k->aB s k\/w.heap.size<=k)):=by
 obtain⟨h1,bb,bd,aQ,aq,aR,aS,D,au,aU⟩:=(vi).out;obtain⟨d0,eo⟩:=k2 _ aq;refine okF (aa.xr s i v) ao.xr func313 ?_;(delta aa.xr ah ap al eM;dsimp only);have be:=G.2.1;have bf:=G.2.2.1;have bg:maxLen=9223372036854775807:=rfl;have p:xs.length=1:=by have:=L.len;rw[g]at this;omega
 have T:=G.1;refine⟨⟨J,J⟩,λh=>by rw[g]at h;simp at h,λ_=>⟨λh=>?_,λh=>?_⟩⟩
 .have aV:i=s.len:=by have:=eq_of_beq h;omega
  subst aV;obtain⟨y,w',aA,aX,U,M,E⟩:=(vi).append (df:=358) L G S (by rw[g];omega);refine⟨y,w',aA,y,rfl,?_,by rw[U,g],M,E⟩;rwa[ey J,tD J,g3]
 have aJ:i<s.len:=by
  have h:¬((i:Int)=(s.len:Int)):=λe=>by rw[e]at h;simp at h
  omega
 rcases G.2.2.2 with ⟨_,hc⟩|⟨b,c,hb,F,av,aw⟩
 .omega
 have aY:b≠jE:=λe=>an ⟨_,hb,e⟩;have aG:IntKind.wrap .i64 ((s.len:Int)+(v.len:Int))=((s.len+1:Nat):Int):=by rw[g,bT J J];rfl
 have aM:IntKind.wrap .i64 ((i:Int)+(v.len:Int))=((i+1:Nat):Int):=by rw[g,bT J J];rfl
 have aZ:IntKind.wrap .i64 (((s.len+1:Nat):Int)-(i:Int))=((s.len+1-i:Nat):Int):=by rw[bT J J];omega
 have bh:c.toList.length=s.cap*1:=by simpa using av
 have ax:∀k,k<=s.len->vs.take (k*1)=c.toList.take (k*1):=λk d=>by rw[←aw,rk,iS J]
 have ay:vs.drop (i*1)=(c.toList.drop (i*1)).take ((s.len-i)*1):=by rw[←aw,List.drop_take,show s.len*1-i*1=(s.len-i)*1 from J]
 have az:∀u∈vs.drop (i*1),Plain u:=λu hu=>aP u (gK hu);have z:(vs.drop (i*1)).length=(s.len-i)*1:=by rw[ek,T];omega
 have H:∀ (V o l m:Nat),l<m->aW (some (Addr.mk V o none)) 1 l m=some ⟨V,o+l*1,none⟩:=λV o l m bi=>oK J;simp only[aG,aM,aZ,d_,q_,A0];refine⟨λhg=>?_,λhg=>?_⟩
 .have bj:s.cap<s.len+1:=by have:=b8 hg;omega
  have a0:Src 1 w ⟨some b,i,s.cap⟩ (vs.take (i*1)):=by
   have:=F.pY (sz:=1) (o:=0) (n:=i) (cap:=s.cap) J;rw[kx]at this;rwa[ax i J]
  obtain⟨j,zs,rest,aA,aX,U,M,E⟩:=Et (P:=ai) (g5:= #[358,3]) (df:=358) (k4:=3) (k:=.i64) (s:=⟨some b,i,s.cap⟩) (n:=s.len+1-i) rfl rfl h1 (by kernel_rfl) aQ aq aR aS D (by rw[au];exact aU) a0 (by show s.cap<i+_;omega) (by rw[au];show(2*(i+_)+1000)*_<=_;omega);have a1:i+(s.len+1-i)=s.len+1:=by omega
  simp only[a1]at aA M E;obtain⟨C,X⟩:∃C,C=(vs.take (i*1)++zs++rest).toArray:=⟨_,rfl⟩;rw[←X]at E;obtain⟨B,Z⟩:∃B,B=w.drew.alloc (.cells C 31):=⟨_,rfl⟩;rw[←Z]at E;have aD:bc B w.heap.size C 31:=by rw[Z];exact bc.new w.drew _ _
  have aE:Ext w B:=by rw[Z];exact af.alloc (af.drew (.refl _ _)) _
  have f:(vs.take (i*1)).length=i*1:=by rw[c9,T];omega
  have aF:C.size=j*1:=by rw[X];simp[f,U,M];omega
  have bk:C.toList.length=j*1:=by simpa using aF
  have K:=nH (P:=ai) (k7:=358) (dV:=358) (ty:=3) (A:=⟨w.heap.size,0+i*1,none⟩) (dl:=s.len+1-i) (j6:=j-i) (n:=1) h1 eo D (x:=v) (by rw[g];exact iS J) (xs:=xs) (by have:=L.ext aE;have e:(⟨v.a,1,v.cap⟩:ae)=v:=(by rw[←g]);rw[e];exact this) (by rw[cz];exact aD.bX _ _ J S);obtain⟨r,ab⟩:∃r,r=setCells B ⟨w.heap.size,0+i*1,none⟩ 0 xs:=⟨_,rfl⟩;rw[←ab]at K;have aH:bc r w.heap.size (gE C (i*1) xs) 31:=by rw[ab,cz];exact aD.k8 xs
  have a2:Ext w r:=by rw[ab];exact Ext.ee aE (af.iV (.refl _ _) xs 0) (λk d=>by subst d;exact ba _)
  have a3:Ext r r.drew:=af.drew (.refl _ _);have aI:=Ext.trans a2 a3;have ac:=nH (P:=ai) (w:=r.drew) (k7:=358) (dV:=358) (ty:=3) (A:=⟨w.heap.size,0+(i+1)*1,none⟩) (dl:=s.len+1-(i+1)) (j6:=j-(i+1)) (n:=s.len-i) h1 eo D (x:=⟨some ⟨b,0+i*1,none⟩,s.len-i,s.cap-i⟩) (iS (by show s.len-i<=_;omega)) (xs:=vs.drop (i*1))
   (by have:=(F.ext aI).pY (sz:=1) (o:=i*1) (n:=s.len-i) (cap:=s.cap-i) J;rw[ay,cz];exact this) (by rw[cz];exact bc.bX (bc.drew aH) _ _ (by rw[h4];omega) az)
  have N:aW (some (Addr.mk w.heap.size 0 none)) 1 i j=some ⟨w.heap.size,0+i*1,none⟩:=H _ _ _ _ J;have Q:aW (some (Addr.mk w.heap.size 0 none)) 1 (i+1) j=some ⟨w.heap.size,0+(i+1)*1,none⟩:=H _ _ _ _ J;have a4:aW s.a 1 i s.cap=some ⟨b,0+i*1,none⟩:=by rw[hb];exact H _ _ _ _ J
  have a5:Sem.run ai (Builtin.append_ #[358,3] 358 #[.slice s.a i s.cap,.int .i64 ((s.len+1-i:Nat):Int)]) w=.ok (.slice (some w.heap.size) (s.len+1) j) B:=by rw[hb];exact E
  refine⟨⟨J,J⟩,⟨some w.heap.size,s.len+1,j⟩,B,a5,⟨J,by show(i:Int)<=((s.len+1:Nat):Int);omega⟩,_,r,by rw[N];exact K,aO ⟨⟨J,by show((i+1:Nat):Int)<=((s.len+1:Nat):Int);omega⟩,⟨J,J⟩,_,_,by rw[Q,a4];exact ac,⟨some w.heap.size,s.len+1,j⟩,rfl,?_,rfl,?_,?_⟩⟩
  .refine aT.mk' ((bc.drew aH).k8 (o:=0+(i+1)*1) _) (by simp[f,p,z];omega) J J (by rw[h4,h4,aF]) ?_
   rw[j5 _ _ _ (by rw[h4];omega),j5 _ _ _ J];have t1:C.toList.take (i*1)=vs.take (i*1):=by rw[X,rn,c_];exact oA f
   have t2:(C.toList.take (i*1)++xs++C.toList.drop (i*1+xs.length)).take (0+(i+1)*1)=vs.take (i*1)++xs:=by
    rw[t1,kZ (by simp[f,p];omega),ey (by simp[f,p];omega)]
   rw[t2,kZ (by simp[f,p,z];omega),ey (by simp[f,p,z];omega)]
  .exact af.bL (Ext.ee aI (af.iV (.refl _ _) _ 0) (λk d=>by subst d;exact ba _))
  .rintro k ⟨A,ar,d⟩
   cases ar;exact .inr (Nat.le_of_eq d)
 .have bl:s.len+1<=s.cap:=by have:=cL hg;omega
  have N:aW s.a 1 (i+1) s.cap=some ⟨b,0+(i+1)*1,none⟩:=by rw[hb];exact H _ _ _ _ J
  have Q:aW s.a 1 i s.cap=some ⟨b,0+i*1,none⟩:=by rw[hb];exact H _ _ _ _ J
  have a6:Sem.run ai (callFunc 330 #[v,.slice (some ⟨b,0+(i+1)*1,none⟩) (s.len+1-(i+1)) (s.cap-(i+1))]) w=.ok (.value false) w:=by
   rw[am,run_callFunc_extern (e:=Extern.SlicesOverlaps.overlaps #[358,358] #[4]) func330 (by kernel_rfl) (by kernel_rfl) (by kernel_rfl) (by kernel_rfl)];have:=Lib.run_overlaps_apart (P:=ai) w 358 4 31 h1 1 (λw=>by have:=iq (w:=w) eo;rwa[D]at this) jE ⟨b,0+(i+1)*1,none⟩ v.len v.cap (s.len+1-(i+1)) (s.cap-(i+1)) (λe=>aY e.symm) aj 31 ag.size c.size
    (by have:=R;unfold bc at this;simp[World.shape?,this]) (by have:=F;unfold bc at this;simp[World.shape?,this]) J (R.frozen _ rfl) (R.frozen _ rfl)
   rw[this];rfl
  have K:=nH (P:=ai) (w:=w.drew) (k7:=358) (dV:=358) (ty:=3) (A:=⟨b,0+(i+1)*1,none⟩) (dl:=s.len+1-(i+1)) (j6:=s.cap-(i+1)) (n:=s.len-i) h1 eo D (x:=⟨some ⟨b,0+i*1,none⟩,s.len+1-i,s.cap-i⟩) ((Nat.min_eq_right (by show _<=s.len+1-i;omega)).trans J) (xs:=vs.drop (i*1))
   (by have:=(bc.drew F).pY (sz:=1) (o:=i*1) (n:=s.len-i) (cap:=s.cap-i) J;rw[ay,cz];exact this) (by rw[cz];exact bc.bX (bc.drew F) _ _ J az)
  obtain⟨t,ad⟩:∃t,t=setCells w.drew ⟨b,0+(i+1)*1,none⟩ 0 (vs.drop (i*1)):=⟨_,rfl⟩;rw[←ad]at K;have aK:bc t b (gE c ((i+1)*1) (vs.drop (i*1))) 31:=by rw[ad,cz];exact(bc.drew F).k8 _
  have aL:af (aB s) w t:=by
   rw[ad];exact af.mono (W:=λq=>q=b) (af.iV (af.drew (.refl _ _)) _ 0) (λk _ d=>⟨_,hb,d.symm⟩)
  have a7:Src 1 t v xs:=L.ak aL (λk d a8=>by obtain⟨A,ar,rfl⟩:=d;rw[am]at ar;cases ar;exact an a8);have ac:=nH (P:=ai) (w:=t) (k7:=358) (dV:=358) (ty:=3) (A:=⟨b,0+i*1,none⟩) (dl:=s.len+1-i) (j6:=s.cap-i) (n:=1) h1 eo D (x:=v) (by rw[g];exact iS J) (xs:=xs) (by have e:(⟨v.a,1,v.cap⟩:ae)=v:=(by rw[←g]);rw[e];exact a7) (by rw[cz];exact aK.bX _ _ (by rw[h4];omega) S);refine⟨⟨J,J⟩,⟨J,J⟩,false,w,by rw[N];exact a6,λ_=>aO ⟨⟨J,J⟩,⟨J,J⟩,_,t,by rw[N,Q];exact K,⟨J,J⟩,_,_,by rw[Q];exact ac,⟨s.a,s.len+1,s.cap⟩,rfl,?_,rfl,?_,λk d=>.inl d⟩,λh=>by simp at h⟩
  .have aN:aT 1 31 (setCells t ⟨b,0+i*1,none⟩ 0 xs) ⟨some b,s.len+1,s.cap⟩ (vs.take (i*1)++xs++vs.drop (i*1)):=by
    have f:(vs.take (i*1)).length=i*1:=by rw[c9,T];omega
    refine aT.mk' (aK.k8 (o:=0+i*1) _) (by simp[f,p,z];omega) J J (by rw[h4,h4,av]) ?_;rw[j5 _ _ _ (by rw[h4];omega),j5 _ _ _ J];have t1:(c.toList.take ((i+1)*1)++vs.drop (i*1)++c.toList.drop ((i+1)*1+(vs.drop (i*1)).length)).take (0+i*1)=vs.take (i*1):=by
     rw[cz,kZ (by simp[z];omega),kZ (by simp;omega),rk,ax i J,iS J]
    have t2:(c.toList.take ((i+1)*1)++vs.drop (i*1)++c.toList.drop ((i+1)*1+(vs.drop (i*1)).length)).drop (0+i*1+xs.length)=vs.drop (i*1)++c.toList.drop ((i+1)*1+(vs.drop (i*1)).length):=by
     have a9:(c.toList.take ((i+1)*1)).length=0+i*1+xs.length:=by simp;omega
     rw[c_,←a9,List.drop_left]
    rw[t1,t2,←c_,kZ (by simp[f,p,z];omega),ey (by simp[f,p,z];omega)]
   rw[←hb]at aN;exact aN
  .exact aL.trans (af.mono (W:=λq=>q=b) (af.iV (.refl _ _) _ 0) (λk _ d=>⟨_,hb,d.symm⟩))
theorem vn{w:I}{s:ae}{ds:O Nat}(h:Src 1 w s (gJ ds))(i:ds.length<=1000000):
 aC ai 323 #[s] w (λv w'=>∃b:ae,v=b/\aT 1 3 w' b (gJ ds)/\Ext w w'/\fW w b):=by
 have j:s.len=ds.length:=by have:=h.len;rw[s7]at this;omega
 refine okF (aa.xw s) ao.xw func323 ?_;(delta aa.xw ah ap ad;dsimp only);refine⟨λc=>?_,λ_=>?_⟩
 .have c:s.a=none:=by simpa using c
  rw[h.nil c];exact⟨⟨none,0,0⟩,rfl,aT.none _ _ _,.refl _ _,λk d=>(gU k d).elim⟩
 .obtain⟨b,w',h1,e,l,f,g,_⟩:=vj.clone (df:=181) h (Fo ds) J
  exact aO ⟨b,w',h1,b,rfl,e,f,g⟩
theorem K1{ks:O Key}{k:Key}{a:Nat}(e:a<=ks.length)(h1:∀ (j:Nat) (h:j<ks.length),j<a->ct ks[j] k)(d:∀ (j:Nat) (h:j<ks.length),a<=j->¬ct ks[j] k):da ks k=a:=by
 unfold da;rcases eF a ks.length with h|h
 .exact(List.findIdx_eq h).2 ⟨eL (d a h (ba _)),λj b=>im λc=>c (h1 j J b)⟩
 .have:a=ks.length:=by omega
  subst this;refine List.findIdx_eq_length_of_false λx hx=>?_;obtain⟨j,b,rfl⟩:=fi hx;exact im λc=>c (h1 j b b)
def kF(ks:O Key)(k:Key):aj:=decide (ks[da ks k]? =some k)
theorem K2{B C:Nat->Prop}{s t:ae}{ks:O Key}{key:Key}{w:I}(hs:b6 B w s ks)(ht:Src 1 w t (ax key))(x:ks.Pairwise ct)(M:ks.length<=100000):
 aC ai 318 #[s,t,.func (.func 228) #[] #[]] w (λv w'=>v=.tuple #[.int .i64 ((da ks key:Nat):Int),.bool (kF ks key)]/\w=w'):=by
 refine okF (aa.xt s t ⟨228,#[],#[]⟩) ao.xt func318 ?_;(delta aa.xt fO ah xe al aR xa bl bq bw;dsimp only);have y:=b6.len hs;have p:jB ai 228:=⟨_,(mc (show(Tryz.prog.funcs[228]?).isSome=true by kernel_rfl)).symm,by kernel_rfl,by kernel_rfl⟩;have aJ:=λ{i j:Nat} (hi:i<j) (e:j<ks.length)=>mV.1 x i j J e hi;refine⟨λlo hi w'=>∃a b:Nat,lo=a/\hi=b/\a<=b/\b<=ks.length/\w=w'/\(∀ (j:Nat) (h:j<ks.length),j<a->ct ks[j] key)/\(∀ (j:Nat) (h:j<ks.length),b<=j->¬ct ks[j] key),λlo hi _=>(hi-lo).toNat,
  ⟨0,ks.length,rfl,by rw[y],c8 _,ba _,rfl,λj _ h=>J,λj h f=>J⟩,?_⟩
 rintro _ _ _ ⟨a,b,rfl,rfl,N,hb,rfl,h1,f⟩;have hm:=Ew (a:=a) (b:=b) J;refine⟨λh=>?_,λh=>?_⟩
 .have z:(a:Int)<(b:Int):=b8 h
  rw[hm];obtain⟨m,D⟩:∃m,m=(a+b)/2:=⟨_,rfl⟩;rw[←D];have E:a<=m:=by omega
  have P:m<b:=by omega
  obtain⟨A,t2,ar,g,k,l,_⟩:=b6.at hs (i:=m) J;refine⟨by decide,A,ar,g,t2,k,p,(oS l.1 ht).use ?_⟩;rintro _ _ ⟨rfl,rfl⟩;have F:IntKind.wrap .i64 ((m:Int)+1)=((m+1:Nat):Int):=by rw[bT J J];rfl
  refine⟨_,rfl,λhc=>?_,λhc=>?_⟩
  .have hc:ct ks[m] key:=b8 hc
   rw[F];have n:((b:Int)-((m+1:Nat):Int)).toNat<((b:Int)-(a:Int)).toNat:=by omega
   refine⟨⟨m+1,b,rfl,rfl,J,hb,rfl,λj e G=>?_,f⟩,n⟩;rcases eF j m with d|d
   .exact nV (aJ d J) hc
   .have:j=m:=by omega
    subst this;exact hc
  .have hc:¬ct ks[m] key:=cL hc
   have n:((m:Int)-(a:Int)).toNat<((b:Int)-(a:Int)).toNat:=by omega
   refine⟨⟨a,m,rfl,rfl,E,J,rfl,h1,λj e G=>?_⟩,n⟩;rcases eF m j with d|d
   .exact λH=>hc (nV (aJ d e) H)
   .have:j=m:=by omega
    subst this;exact hc
 .have K:¬(a:Int)<(b:Int):=cL h
  have L:b=a:=by omega
  subst L;have o:da ks key=b:=K1 hb h1 f;refine cc (λc w'=>w=w'/\c=kF ks key) (λq r=>⟨λh=>?_,λh=>?_⟩) ?_
  .have z:(b:Int)<(s.len:Int):=b8 h
   have u:b<ks.length:=by omega
   obtain⟨A,t2,ar,g,k,l,_⟩:=b6.at hs u;refine⟨A,ar,g,t2,k,p,(oS l.1 ht).use ?_⟩;rintro _ _ ⟨rfl,rfl⟩;refine⟨_,rfl,r _ _ ⟨rfl,?_⟩⟩;unfold kF;rw[o,fL,cX,jy,eJ u,J_];exact⟨λh=>by rw[h],λh=>Option.some.inj h⟩
  .have K:¬(b:Int)<(s.len:Int):=cL h
   refine r _ _ ⟨rfl,?_⟩;unfold kF;rw[o,ny J];simp
  .rintro _ _ ⟨rfl,rfl⟩
   exact⟨by rw[o],rfl⟩
theorem o3{B:Nat->Prop}{w:I}{n:aK}{K V D t:ae}{key:Key}(h:cr B w n K V D)(ht:Src 1 w t (ax key))(b:n.keys.Pairwise ct)(c:n.keys.length<=100000):
 aC ai 303 #[dT n K V D,t] w (λv w'=>v=.tuple #[.int .i64 ((da n.keys key:Nat):Int),.bool (kF n.keys key)]/\Ext w w'):=by
 refine okF (aa.o3 n.leaf K V D t) ao.o3 func303 ?_;(delta aa.o3 aE aR ad gF;dsimp only);refine aN (vs:=[n.leaf,K,V,D]) rfl λw1 d a _=>?_;obtain⟨cu,bd,bo,bA⟩:=cl d;refine⟨K,bd,(K2 (B:=B) (C:=B) (h.keys.ext a) (ht.ext a) b c).use ?_⟩;rintro _ _ ⟨rfl,rfl⟩;exact⟨_,_,rfl,rfl,a⟩
theorem sA{B:Nat->Prop}{w:I}{n:aK}{K V D t:ae}{key:Key}(h:cr B w n K V D)(ht:Src 1 w t (ax key))(b:n.keys.Pairwise ct)(c:n.keys.length<=100000):
 aC ai 286 #[dT n K V D,t] w (λv w'=>v=.tuple #[.int .i64 ((da n.keys key:Nat):Int),.bool (kF n.keys key)]/\Ext w w'):=by
 refine okF (aa.sA n.leaf K V D t) ao.sA func286 ?_;(delta aa.sA aS ad aE aR gF;dsimp only);refine aN (vs:=[n.leaf,K,V,D]) rfl λw1 d a _=>?_;obtain⟨cu,bd,bo,bA⟩:=cl d;refine⟨_,cu,K,bd,V,bo,D,bA,(o3 (h.ext a) (ht.ext a) b c).use ?_⟩;rintro _ _ ⟨rfl,e⟩;exact⟨_,_,rfl,rfl,a.trans e⟩
theorem K3{ks:O Key}(e:ks.Pairwise ct)(k:Key):fl ks k=if kF ks k then da ks k+1 else da ks k:=by
 have f:=vd ks k;have key:∀a,a<=ks.length->(∀ (j:Nat) (h:j<ks.length),j<a->¬ct k ks[j])->(∀h:a<ks.length,ct k ks[a])->fl ks k=a:=by
  intro a i h1 g;unfold fl;rcases eF a ks.length with h|h
  .exact(List.findIdx_eq h).2 ⟨eL (g h),λj b=>im (h1 j J b)⟩
  .have:a=ks.length:=by omega
   subst this;refine List.findIdx_eq_length_of_false λx hx=>?_;obtain⟨j,b,rfl⟩:=fi hx;exact im (h1 j b b)
 split
 .rename_i c
  have c:ks[da ks k]? =some k:=b8 c;obtain⟨aJ,he⟩:=l9.1 c;refine key _ aJ (λj b h=>?_) λh=>?_
  .rcases eF j (da ks k) with d|d
   .exact mB (qD d b)
   .have:j=da ks k:=by omega
    subst this;rw[he];exact sZ _
  .have:=mV.1 e _ _ aJ h (Nat.lt_succ_self _)
   rwa[he]at this
 .rename_i c
  have c:¬ks[da ks k]? =some k:=λh=>c (eL h);refine key _ f (λj b h=>mB (qD h b)) λh=>?_;rcases qB.1 (s4 e (ba _) h) with d|d
  .exact d
  .exact absurd ((eJ h).trans (congrArg some d.symm)) c
theorem sE{B:Nat->Prop}{w:I}{n:aK}{K V D t:ae}{key:Key}(h:cr B w n K V D)(ht:Src 1 w t (ax key))(b:n.keys.Pairwise ct)(e:n.keys.length<=100000):
 aC ai 298 #[dT n K V D,t] w (λv w'=>v=.int .i64 ((fl n.keys key:Nat):Int)/\Ext w w'):=by
 refine okF (aa.sE n.leaf K V D t) ao.sE func298 ?_;(delta aa.sE aS ad aE aR gF ah al;dsimp only);refine aN (vs:=[n.leaf,K,V,D]) rfl λw1 f a _=>?_;obtain⟨cu,bd,bo,bA⟩:=cl f;have i:=vd n.keys key;refine⟨_,cu,K,bd,V,bo,D,bA,(o3 (h.ext a) (ht.ext a) b e).use ?_⟩;rintro _ ag ⟨rfl,g⟩;rw[K3 b];refine⟨_,_,rfl,cc (λc w'=>ag=w'/\c=((if kF n.keys key then da n.keys key+1 else da n.keys key:Nat):Int)) (λq d=>⟨λh=>d _ _ ⟨rfl,?_⟩,λh=>d _ _ ⟨rfl,?_⟩⟩) ?_⟩
 .rw[if_pos h,bT J J];rfl
 .rw[if_neg (by simp[h])]
 .rintro _ _ ⟨rfl,rfl⟩
  exact⟨rfl,a.trans g⟩
structure iZ(lo:Nat)(w:I)(bD:Nat)(n:aK)(K V D:ae)(b2 cn bP:Nat->Prop):Prop where
 v:Var w bD [n.leaf,K,V,D] 397
 keys:bQ b2 w K n.keys
 vals:bQ cn w V n.vals
 kids:c6 bP w D n.kids
 b7:∀q,b2 q->lo<=q/\q<w.heap.size/\q≠bD/\¬cn q/\¬bP q
 bv:∀q,cn q->lo<=q/\q<w.heap.size/\q≠bD/\¬bP q
 bq:∀q,bP q->lo<=q/\q<w.heap.size/\q≠bD
 n1:lo<=bD
structure gX(lo:Nat)(w:I)(n:aK)(K V D:ae)(b2 cn bP:Nat->Prop):Prop where
 keys:bQ b2 w K n.keys
 vals:bQ cn w V n.vals
 kids:c6 bP w D n.kids
 b7:∀q,b2 q->lo<=q/\q<w.heap.size/\¬cn q/\¬bP q
 bv:∀q,cn q->lo<=q/\q<w.heap.size/\¬bP q
 bq:∀q,bP q->lo<=q/\q<w.heap.size
section
variable {lo:Nat}{w w':I}{bD:Nat}{n:aK}{K V D:ae}{b2 cn bP:Nat->Prop}
theorem iZ.mem(h:iZ lo w bD n K V D b2 cn bP):gX lo w n K V D b2 cn bP:=⟨h.keys,h.vals,h.kids,λq a=>⟨(h.b7 q a).1,(h.b7 q a).2.1,(h.b7 q a).2.2.2⟩,λq a=>⟨(h.bv q a).1,(h.bv q a).2.1,(h.bv q a).2.2.2⟩,λq a=>⟨(h.bq q a).1,(h.bq q a).2.1⟩⟩
theorem gX.ak{W:Nat->Prop}(h:gX lo w n K V D b2 cn bP)(hc:af W w w')(cU:∀q,lo<=q->q<w.heap.size->b2 q\/cn q\/bP q->¬W q):gX lo w' n K V D b2 cn bP:=by
 have hs:=hc.size;refine⟨bQ.ak h.keys hc λq a=>cU q (h.b7 q a).1 (h.b7 q a).2.1 (.inl a),bQ.ak h.vals hc λq a=>cU q (h.bv q a).1 (h.bv q a).2.1 (.inr (.inl a)),c6.ak h.kids hc λq a=>cU q (h.bq q a).1 (h.bq q a).2 (.inr (.inr a)),λq a=>?_,λq a=>?_,λq a=>?_⟩
 .have:=h.b7 q a;exact⟨this.1,J,this.2.2⟩
 .have:=h.bv q a;exact⟨this.1,J,this.2.2⟩
 .have:=h.bq q a;exact⟨this.1,J⟩
theorem gX.ext(h:gX lo w n K V D b2 cn bP)(hc:Ext w w'):gX lo w' n K V D b2 cn bP:=h.ak hc λ_ _ _ _ h=>h
theorem iZ.ext(h:iZ lo w bD n K V D b2 cn bP)(hx:Ext w w'):iZ lo w' bD n K V D b2 cn bP:=
 ⟨h.v.ext hx,bQ.ext h.keys hx,bQ.ext h.vals hx,c6.ext h.kids hx,λq a=>⟨(h.b7 q a).1,fB (h.b7 q a).2.1 hx.size,(h.b7 q a).2.2⟩,λq a=>⟨(h.bv q a).1,fB (h.bv q a).2.1 hx.size,(h.bv q a).2.2⟩,λq a=>⟨(h.bq q a).1,fB (h.bq q a).2.1 hx.size,(h.bq q a).2.2⟩,h.n1⟩
theorem gX.at(h:gX lo w n K V D b2 cn bP):cr (λq=>lo<=q) w n K V D:=
 ⟨b6.bG (bQ.mF h.keys) λq _ a=>(h.b7 q a).1,b6.bG (bQ.mF h.vals) λq _ a=>(h.bv q a).1,dd.bG (c6.vh h.kids) λq _ a=>(h.bq q a).1⟩
theorem gX.low{c:Nat}(h:gX lo w n K V D b2 cn bP)(b:c<=lo):gX c w n K V D b2 cn bP:=
 ⟨h.keys,h.vals,h.kids,λq a=>⟨dQ b (h.b7 q a).1,(h.b7 q a).2⟩,λq a=>⟨dQ b (h.bv q a).1,(h.bv q a).2⟩,λq a=>⟨dQ b (h.bq q a).1,(h.bq q a).2⟩⟩
end
theorem Ce{lo:Nat}{w:I}{bD:Nat}{n:aK}{K V D t:ae}{l:Key}{b2 cn bP:Nat->Prop}(h:iZ lo w bD n K V D b2 cn bP)(ht:Src 1 w t (ax l))(X:l.length<=100000)(F:n.keys.length<=100000){R:I->Prop}
 (G:∀ (w':I) (H:ae) (y:Nat->Prop),iZ lo w' bD {n with keys:=n.keys++ [l]} H V D y cn bP->af (λq=>q=bD\/b2 q) w w'->(∀q,y q->b2 q\/w.heap.size<=q)->R w'):
 an w.drew λj=>∃m:Nat->Prop,¬m (Addr.add bD 1).block/\∃g:ae,j.cell? (Addr.add bD 1)=some (.slice g.a g.len g.cap)/\
  Calls ai 161 #[t] j λL d=>∃z:ae,L=.returned z/\af m j d/\
  an (d.alloc (.cells #[z] 31)) λA=>af m d A/\∃C:ae,∃i:I,Sem.run ai (Builtin.append_ #[358,358] 358 #[g,.slice (some d.heap.size) 1 1]) A=.ok C i/\
  (∃u:Y,i.cell? (Addr.add bD 1)=some u)/\i.frozen? (Addr.add bD 1)=false/\an (i.setCell (Addr.add bD 1) C) λM=>R M:=by
 have Z:=h.n1;have aa:=h.v.lt;have p:=b1 w;obtain⟨cu,bd,bo,bA⟩:=cl (h.v.ext p);refine aO ⟨λ_=>False,id,K,bd,(nc (B:=λq=>w.heap.size<=q) (ht.ext p) J (λq b=>b)).use ?_⟩;rintro _ d ⟨N,rfl,E,hx,hf⟩;have e:=p.trans hx;have ab:w.drew.heap.size=w.heap.size:=rfl;have O:=e.size;have P:=bQ.ext h.keys e;have gp:=bQ.ext h.vals e;have Q:=c6.ext h.kids e;refine⟨N,rfl,hx,zj (B:=Grow b2 w.drew d) (h.v.ext e) (o:=1) (by simp) (bQ.bG P λk _ h=>.inl h) ?_ (b5.bG E λk c h=>.inr ⟨h,c⟩) ?_ F λw' aP aA S f=>?_⟩
 .rintro(h1|h1)
  .exact(h.b7 bD h1).2.2.1 rfl
  .omega
 .intro k T U
  obtain⟨ts,_,_,r,_⟩:=h.keys;have:=(r k U).2;have:=(E.2.2 k T).1;omega
 have W:∀q,Grow (Grow b2 w.drew d) d w' q->b2 q\/(w.heap.size<=q/\q<w'.heap.size):=by
  rintro q ((h1|h1)|h1)
  .exact .inl h1
  .exact .inr ⟨h1.1,fB h1.2 f.size⟩
  .exact .inr ⟨dQ O h1.1,h1.2⟩
 have hg:=f.size;have s:∀q,aB K q->b2 q:=λq b=>by
  obtain⟨ts,_,_,r,_⟩:=h.keys;exact(r q b).1
 refine G w' aP (λq=>b2 q\/(w.heap.size<=q/\q<w'.heap.size)) ⟨by simpa using aA,bQ.bG S λk _ c=>W k c,bQ.ak gp f ?_,c6.ak Q f ?_,?_,λq b=>?_,λq b=>?_,h.n1⟩ ?_ ?_
 .rintro q b (h1|h1)
  .exact(h.bv q b).2.2.1 h1
  .exact(h.b7 q (s q h1)).2.2.2.1 b
 .rintro q b (h1|h1)
  .exact(h.bq q b).2.2 h1
  .exact(h.b7 q (s q h1)).2.2.2.2 b
 .rintro q (h1|h1)
  .have:=h.b7 q h1;exact⟨this.1,J,this.2.2⟩
  .exact⟨J,h1.2,J,λx=>by have:=h.bv q x;omega,λx=>by have:=h.bq q x;omega⟩
 .have:=h.bv q b;exact⟨this.1,J,this.2.2⟩
 .have:=h.bq q b;exact⟨this.1,J,this.2.2⟩
 .refine(af.bL e).trans (f.mono λk _ c=>?_)
  rcases c with c|c
  .exact .inl c
  .exact .inr (s k c)
 .rintro q (h1|h1)
  .exact .inl h1
  .exact .inr h1.1
theorem FI{lo:Nat}{w:I}{bD:Nat}{n:aK}{K V D t:ae}{l:Key}{b2 cn bP:Nat->Prop}(h:iZ lo w bD n K V D b2 cn bP)(ht:Src 1 w t (ax l))(X:l.length<=100000)(E:n.vals.length<=100000){R:I->Prop}
 (F:∀ (w':I) (G:ae) (x:Nat->Prop),iZ lo w' bD {n with vals:=n.vals++ [l]} K G D b2 x bP->af (λq=>q=bD\/cn q) w w'->(∀q,x q->cn q\/w.heap.size<=q)->R w'):
 an w.drew λj=>∃m:Nat->Prop,¬m (Addr.add bD 2).block/\∃g:ae,j.cell? (Addr.add bD 2)=some (.slice g.a g.len g.cap)/\
  Calls ai 161 #[t] j λH d=>∃y:ae,H=.returned y/\af m j d/\
  an (d.alloc (.cells #[y] 31)) λz=>af m d z/\∃A:ae,∃i:I,Sem.run ai (Builtin.append_ #[358,358] 358 #[g,.slice (some d.heap.size) 1 1]) z=.ok A i/\
  (∃u:Y,i.cell? (Addr.add bD 2)=some u)/\i.frozen? (Addr.add bD 2)=false/\an (i.setCell (Addr.add bD 2) A) λL=>R L:=by
 have Z:=h.n1;have aa:=h.v.lt;have p:=b1 w;obtain⟨cu,bd,bo,bA⟩:=cl (h.v.ext p);refine aO ⟨λ_=>False,id,V,bo,(nc (B:=λq=>w.heap.size<=q) (ht.ext p) J (λq b=>b)).use ?_⟩;rintro _ d ⟨M,rfl,C,hx,hf⟩;have e:=p.trans hx;have ab:w.drew.heap.size=w.heap.size:=rfl;have N:=e.size;have O:=bQ.ext h.keys e;have gp:=bQ.ext h.vals e;have P:=c6.ext h.kids e;refine⟨M,rfl,hx,zj (B:=Grow cn w.drew d) (h.v.ext e) (o:=2) (by simp) (bQ.bG gp λk _ h=>.inl h) ?_ (b5.bG C λk c h=>.inr ⟨h,c⟩) ?_ E λw' aP aA Q f=>?_⟩
 .rintro(h1|h1)
  .exact(h.bv bD h1).2.2.1 rfl
  .omega
 .intro k S T
  obtain⟨ts,_,_,r,_⟩:=h.vals;have:=(r k T).2;have:=(C.2.2 k S).1;omega
 have U:∀q,Grow (Grow cn w.drew d) d w' q->cn q\/(w.heap.size<=q/\q<w'.heap.size):=by
  rintro q ((h1|h1)|h1)
  .exact .inl h1
  .exact .inr ⟨h1.1,fB h1.2 f.size⟩
  .exact .inr ⟨dQ N h1.1,h1.2⟩
 have hg:=f.size;have s:∀q,aB V q->cn q:=λq b=>by
  obtain⟨ts,_,_,r,_⟩:=h.vals;exact(r q b).1
 refine F w' aP (λq=>cn q\/(w.heap.size<=q/\q<w'.heap.size)) ⟨by simpa using aA,bQ.ak O f ?_,bQ.bG Q λk _ c=>U k c,c6.ak P f ?_,λq b=>?_,?_,λq b=>?_,h.n1⟩ ?_ ?_
 .rintro q b (h1|h1)
  .exact(h.b7 q b).2.2.1 h1
  .exact(h.b7 q b).2.2.2.1 (s q h1)
 .rintro q b (h1|h1)
  .exact(h.bq q b).2.2 h1
  .exact(h.bv q (s q h1)).2.2.2 b
 .have:=h.b7 q b
  refine⟨this.1,J,this.2.2.1,?_,this.2.2.2.2⟩;rintro(h1|h1)
  .exact this.2.2.2.1 h1
  .omega
 .rintro q (h1|h1)
  .have:=h.bv q h1;exact⟨this.1,J,this.2.2⟩
  .exact⟨J,h1.2,J,λW=>by have:=h.bq q W;omega⟩
 .have:=h.bq q b;exact⟨this.1,J,this.2.2⟩
 .refine(af.bL e).trans (f.mono λk _ c=>?_)
  rcases c with c|c
  .exact .inl c
  .exact .inr (s k c)
 .rintro q (h1|h1)
  .exact .inl h1
  .exact .inr h1.1
theorem gy{B:Nat->Prop}{w0:I}{n:aK}{K V D:ae}(h:cr B w0 n K V D)(aX:n.keys.length<=100000)(aY:n.vals.length<=100000)(aZ:n.kids.length<=100000)(av:∀k∈n.keys,k.length<=100000)(aw:∀v∈n.vals,v.length<=100000):
 aC ai 306 #[dT n K V D] w0 (λv w'=>∃ (K V D:ae) (b2 cn bP:Nat->Prop),v=dT n K V D/\gX w0.heap.size w' n K V D b2 cn bP/\Ext w0 w'):=by
 refine okF (aa.gy n.leaf K V D) ao.gy func306 ?_;(delta aa.gy c0 bC ad aS dI eU aR bn Bm aE dj ah EK bl bq bw ap st al EL EJ uB bH;dsimp only);have aB:cr (λq=>q<w0.heap.size) w0 n K V D:=h.bG λq a _=>a;have a0:=b6.len h.keys;have a1:=b6.len h.vals;refine aN (vs:=[n.leaf,K,V,D]) rfl λw1 aD aF a2=>?_;refine aN (vs:=[false,(),(),()]) rfl λag aH ax a3=>aO ?_;have U:=b1 ag;have a4:ag.drew.heap.size=ag.heap.size:=rfl;have H:=(aD.ext ax).ext U;have ay:=aH.ext U;have W:=aF.trans (ax.trans U);obtain⟨aL,aG,aM,aP⟩:=cl H;have S:=aB.ext W;obtain⟨lo,a5⟩:∃lo,lo=ag.heap.size:=⟨_,rfl⟩;refine⟨λ_=>False,id,_,aL,id,D,aP,⟨?_,?_⟩⟩
 .refine(vn S.kids.1 J).use ?_
  rintro _ G ⟨aI,rfl,y,x,X⟩;have aQ:=x.size;refine⟨aI,rfl,x,#[n.leaf,(),(),aI],(λw=>by kernel_rfl),?_⟩;refine aN (vs:=[false,(),(),()]) rfl λaz T z aT=>?_;refine⟨z,T.bX rfl ?_,rfl,cA T (us:=[n.leaf,(),(),aI]) rfl rfl λg L C aU=>?_⟩
  .intro v M
   simp only[cY,fC,fM]at M;rcases M with rfl|rfl|rfl|rfl<;>trivial
  obtain⟨bD,Y⟩:∃bD,bD=G.heap.size:=⟨_,rfl⟩;rw[←Y]at L C⊢;obtain⟨bP,r⟩:∃bP:Nat->Prop,bP=λq=>ag.heap.size<=q/\q<G.heap.size:=⟨_,rfl⟩;have Z:c6 bP G aI n.kids:=by subst r;exact⟨y,λk l=>⟨⟨X k l,y.lt k l⟩,y.lt k l⟩⟩
  have m:af (λq=>lo<=q) ag.drew g:=(af.bL (x.trans z)).trans (C.mono λk _ l=>J);have ab:iZ lo g bD ⟨n.leaf,[],[],n.kids⟩ cJ cJ aI (λ_=>False) (λ_=>False) bP:=⟨L,bQ.none _ _,bQ.none _ _,c6.ak (c6.ext Z z) C (λq a e=>by subst r;have a:=a.2;omega),λq h=>h.elim,λq h=>h.elim,λq a=>(by subst r;obtain⟨h1,aV⟩:=a;exact⟨J,J,J⟩),J⟩;clear r;obtain⟨cu,bd,bo,bA⟩:=cl (H.ak m J);have N:cr (λq=>q<w0.heap.size) g n K V D:=S.ak m λq a h=>by omega
  have ac:=ay.ak m J;refine⟨K,bd,λi w'=>∃ (j:Nat) (d:ae) (b2:Nat->Prop),i=j/\j<=n.keys.length/\iZ lo w' bD ⟨n.leaf,n.keys.take j,[],n.kids⟩ d cJ aI b2 (λ_=>False) bP/\af (λq=>lo<=q) g w',λi _=>((n.keys.length:Int)-i).toNat,⟨0,cJ,_,rfl,c8 _,ab,af.refl _ _⟩,?_⟩;rintro _ O ⟨j,d,b2,rfl,aj,o,s⟩;have am:cr (λq=>q<w0.heap.size) O n K V D:=N.ak s λq a h=>by omega
  refine⟨λaJ=>?_,λc=>?_⟩
  .have aJ:j<n.keys.length:=by have:=b8 aJ;omega
   obtain⟨A,t,ar,hb,hc,ht,_⟩:=b6.at am.keys aJ;refine⟨A,ar,hb,t,hc,Ce o ht.1 (av _ (c3 aJ)) (by show(n.keys.take j).length<=_;rw[c9];omega) λw' eA an st E _=>?_⟩;have F:af (λq=>lo<=q) O w':=E.mono λq _ a=>by
    rcases a with a|a
    .have:=o.n1;omega
    .exact(o.b7 q a).1
   rw[bT (n:=(j:Int)+1) J J];refine⟨⟨j+1,eA,an,J,J,?_,s.trans F⟩,?_⟩
   .rw[take_succ _ aJ];exact st
   .show((n.keys.length:Int)-((j:Int)+1)).toNat<((n.keys.length:Int)-(j:Int)).toNat
    omega
  have c:j=n.keys.length:=by have:=cL c;omega
  subst c;rw[jz]at o;obtain⟨cu,bd,bo,bA⟩:=cl ((H.ak m J).ak s J);refine⟨V,bo,λi w'=>∃ (j:Nat) (p:ae) (cn:Nat->Prop),i=j/\j<=n.vals.length/\iZ lo w' bD ⟨n.leaf,n.keys,n.vals.take j,n.kids⟩ d p aI b2 cn bP/\af (λq=>lo<=q) g w',λi _=>((n.vals.length:Int)-i).toNat,⟨0,cJ,_,rfl,c8 _,o,s⟩,?_⟩;rintro _ P ⟨j,p,cn,rfl,aj,f,u⟩;have aq:cr (λq=>q<w0.heap.size) P n K V D:=N.ak u λq a h=>by omega
  refine⟨λaJ=>?_,λc=>?_⟩
  .have aJ:j<n.vals.length:=by have:=b8 aJ;omega
   obtain⟨A,t,ar,hb,hc,ht,_⟩:=b6.at aq.vals aJ;refine⟨A,ar,hb,t,hc,FI f ht.1 (aw _ (c3 aJ)) (by show(n.vals.take j).length<=_;rw[c9];omega) λw' eI au st E _=>?_⟩;have F:af (λq=>lo<=q) P w':=E.mono λq _ a=>by
    rcases a with a|a
    .have:=f.n1;omega
    .exact(f.bv q a).1
   rw[bT (n:=(j:Int)+1) J J];refine⟨⟨j+1,eI,au,J,J,?_,u.trans F⟩,?_⟩
   .rw[take_succ _ aJ];exact st
   .show((n.vals.length:Int)-((j:Int)+1)).toNat<((n.vals.length:Int)-(j:Int)).toNat
    omega
  have c:j=n.vals.length:=by have:=cL c;omega
  subst c;rw[jz]at f;obtain⟨d0,d1,d2,d3⟩:=cl f.v;refine⟨_,d0,d,d1,p,d2,aI,d3,kE n.leaf d p aI (ac.ak u J) rfl (Q:=λb K V D ag=>(λv w'=>∃ (K V D:ae) (b2 cn bP:Nat->Prop),v=dT n K V D/\gX w0.heap.size w' n K V D b2 cn bP/\Ext w0 w') (.agg #[b,K,V,D]) ag) λaW R=>⟨d,p,aI,b2,cn,bP,rfl,?_,?_⟩⟩
  .exact(gX.ak f.mem R λq a _ _ h=>J).low J
  .exact Ext.bN (Ext.ee W (m.trans u) λk l=>J) R J
 .refine aN (vs:=[false,(),(),()]) rfl λaz T z aT=>⟨z,?_⟩
  refine(vn (S.kids.ext z).1 J).use ?_;rintro _ G ⟨aI,rfl,y,x,X⟩;have aQ:=x.size;have aA:=T.ext x;refine⟨aI,rfl,x,#[n.leaf,(),(),aI],(λw=>by kernel_rfl),?_⟩;refine⟨aA.bX rfl ?_,rfl,cA aA (us:=[n.leaf,(),(),aI]) rfl rfl λg L C aU=>?_⟩
  .intro v M
   simp only[cY,fC,fM]at M;rcases M with rfl|rfl|rfl|rfl<;>trivial
  obtain⟨bD,Y⟩:∃bD,bD=ag.drew.heap.size:=⟨_,rfl⟩;rw[←Y]at L C⊢;obtain⟨bP,r⟩:∃bP:Nat->Prop,bP=λq=>az.heap.size<=q/\q<G.heap.size:=⟨_,rfl⟩;have Z:c6 bP G aI n.kids:=by subst r;exact⟨y,λk l=>⟨⟨X k l,y.lt k l⟩,y.lt k l⟩⟩
  have m:af (λq=>lo<=q) ag.drew g:=(af.bL (z.trans x)).trans (C.mono λk _ l=>J);have ab:iZ lo g bD ⟨n.leaf,[],[],n.kids⟩ cJ cJ aI (λ_=>False) (λ_=>False) bP:=⟨L,bQ.none _ _,bQ.none _ _,c6.ak Z C (λq a e=>by subst r;have a:=a.1;omega),λq h=>h.elim,λq h=>h.elim,λq a=>(by subst r;obtain⟨h1,aV⟩:=a;exact⟨J,J,J⟩),J⟩;clear r;obtain⟨cu,bd,bo,bA⟩:=cl (H.ak m J);have N:cr (λq=>q<w0.heap.size) g n K V D:=S.ak m λq a h=>by omega
  have ac:=ay.ak m J;refine⟨K,bd,λi w'=>∃ (j:Nat) (d:ae) (b2:Nat->Prop),i=j/\j<=n.keys.length/\iZ lo w' bD ⟨n.leaf,n.keys.take j,[],n.kids⟩ d cJ aI b2 (λ_=>False) bP/\af (λq=>lo<=q) g w',λi _=>((n.keys.length:Int)-i).toNat,⟨0,cJ,_,rfl,c8 _,ab,af.refl _ _⟩,?_⟩;rintro _ O ⟨j,d,b2,rfl,aj,o,s⟩;have am:cr (λq=>q<w0.heap.size) O n K V D:=N.ak s λq a h=>by omega
  refine⟨λaJ=>?_,λc=>?_⟩
  .have aJ:j<n.keys.length:=by have:=b8 aJ;omega
   obtain⟨A,t,ar,hb,hc,ht,_⟩:=b6.at am.keys aJ;refine⟨A,ar,hb,t,hc,Ce o ht.1 (av _ (c3 aJ)) (by show(n.keys.take j).length<=_;rw[c9];omega) λw' eA an st E _=>?_⟩;have F:af (λq=>lo<=q) O w':=E.mono λq _ a=>by
    rcases a with a|a
    .have:=o.n1;omega
    .exact(o.b7 q a).1
   rw[bT (n:=(j:Int)+1) J J];refine⟨⟨j+1,eA,an,J,J,?_,s.trans F⟩,?_⟩
   .rw[take_succ _ aJ];exact st
   .show((n.keys.length:Int)-((j:Int)+1)).toNat<((n.keys.length:Int)-(j:Int)).toNat
    omega
  have c:j=n.keys.length:=by have:=cL c;omega
  subst c;rw[jz]at o;obtain⟨cu,bd,bo,bA⟩:=cl ((H.ak m J).ak s J);refine⟨V,bo,λi w'=>∃ (j:Nat) (p:ae) (cn:Nat->Prop),i=j/\j<=n.vals.length/\iZ lo w' bD ⟨n.leaf,n.keys,n.vals.take j,n.kids⟩ d p aI b2 cn bP/\af (λq=>lo<=q) g w',λi _=>((n.vals.length:Int)-i).toNat,⟨0,cJ,_,rfl,c8 _,o,s⟩,?_⟩;rintro _ P ⟨j,p,cn,rfl,aj,f,u⟩;have aq:cr (λq=>q<w0.heap.size) P n K V D:=N.ak u λq a h=>by omega
  refine⟨λaJ=>?_,λc=>?_⟩
  .have aJ:j<n.vals.length:=by have:=b8 aJ;omega
   obtain⟨A,t,ar,hb,hc,ht,_⟩:=b6.at aq.vals aJ;refine⟨A,ar,hb,t,hc,FI f ht.1 (aw _ (c3 aJ)) (by show(n.vals.take j).length<=_;rw[c9];omega) λw' eI au st E _=>?_⟩;have F:af (λq=>lo<=q) P w':=E.mono λq _ a=>by
    rcases a with a|a
    .have:=f.n1;omega
    .exact(f.bv q a).1
   rw[bT (n:=(j:Int)+1) J J];refine⟨⟨j+1,eI,au,J,J,?_,u.trans F⟩,?_⟩
   .rw[take_succ _ aJ];exact st
   .show((n.vals.length:Int)-((j:Int)+1)).toNat<((n.vals.length:Int)-(j:Int)).toNat
    omega
  have c:j=n.vals.length:=by have:=cL c;omega
  subst c;rw[jz]at f;obtain⟨d0,d1,d2,d3⟩:=cl f.v;refine⟨_,d0,d,d1,p,d2,aI,d3,kE n.leaf d p aI (ac.ak u J) rfl (Q:=λb K V D ag=>(λv w'=>∃ (K V D:ae) (b2 cn bP:Nat->Prop),v=dT n K V D/\gX w0.heap.size w' n K V D b2 cn bP/\Ext w0 w') (.agg #[b,K,V,D]) ag) λaW R=>⟨d,p,aI,b2,cn,bP,rfl,?_,?_⟩⟩
  .exact(gX.ak f.mem R λq a _ _ h=>J).low J
  .exact Ext.bN (Ext.ee W (m.trans u) λk l=>J) R J
theorem bQ.mk'{B:Nat->Prop}{w:I}{s:ae}{ts:O ae}{ls:O Key}(a:ts.length=ls.length)(b:aT 1 31 w s (ts.map fV))(hi:In B w s)(c:∀p∈ts.zip ls,b5 B w p.1 p.2/\∀k,aB p.1 k->¬aB s k):bQ B w s ls:=by
 refine⟨ts,a,b,hi,λi h1 d=>?_⟩;have:=c (ts[i],ls[i]) (by
  rw[List.mem_iff_getElem];exact⟨i,by rw[tI];omega,by rw[List.getElem_zip]⟩)
 exact this
theorem bQ.out{B:Nat->Prop}{w:I}{s:ae}{ls:O Key}(h:bQ B w s ls):∃ts:O ae,ts.length=ls.length/\aT 1 31 w s (ts.map fV)/\In B w s/\∀p∈ts.zip ls,b5 B w p.1 p.2/\∀k,aB p.1 k->¬aB s k:=by
 obtain⟨ts,h1,a,b,c⟩:=h;refine⟨ts,h1,a,b,λp d=>?_⟩;obtain⟨i,hi,rfl⟩:=List.mem_iff_getElem.1 d;rw[tI]at hi;rw[List.getElem_zip];exact c i J J
theorem K4{α β:Type}(a:O α)(b:O β)(i:Nat):(a.take i).zip (b.take i)=(a.zip b).take i:=by
 rw[List.zip_eq_zipWith,List.zip_eq_zipWith,List.take_zipWith]
theorem K5{α β:Type}(a:O α)(b:O β)(i:Nat):(a.drop i).zip (b.drop i)=(a.zip b).drop i:=by
 rw[List.zip_eq_zipWith,List.zip_eq_zipWith,List.drop_zipWith]
theorem FJ{B:Nat->Prop}{w:I}{s t:ae}{ls:O Key}{l:Key}{i:Nat}(r:bQ B w s ls)(ht:b5 B w t l)(hd:∀k,aB t k->¬aB s k)(G:ls.length<=100000)(hi:i<=ls.length):
 aC ai 313 #[s,.int .i64 (i:Int),.slice (some w.heap.size) 1 1] (w.alloc (.cells #[t] 31))
  (λu w'=>∃e:ae,u=e/\bQ (Grow B w w') w' e (ls.take i++ [l]++ls.drop i)/\af (aB s) w w'):=by
 obtain⟨ts,h1,j,m,n⟩:=bQ.out r;have H:s.len=ls.length:=by have:=j.1;rw[dU]at this;omega
 have hx:=c5 w (.cells #[t] 31);have z:=bc.new w #[t] 31;refine(K0 (v:=⟨some w.heap.size,1,1⟩) (xs:=[fV t]) (i:=i) (j.ext hx) (Src.new (T:=31) w [fV t] 1 rfl) rfl rfl z (λh=>by have:=(m _ h).2;omega) (λv A=>by rw[ej.1 A];trivial) (B4 ts) J J).mono ?_;rintro _ w' ⟨e,rfl,aA,K,C,D⟩;rw[gd]at aA;have hc:af (aB s) w w':=(af.bL hx).trans C;have L:=hc.size;have M:(w.alloc (.cells #[t] 31)).heap.size=w.heap.size+1:=na _ _;have o:∀k,aB e k->aB s k\/w.heap.size<=k:=λk d=>(D k d).imp id λh=>by omega
 have E:∀ (x:ae),In B w x->(∀k,aB x k->¬aB s k)->∀k,aB x k->¬aB e k:=λx hx f k d F=>by
  rcases o k F with h|h
  .exact f k d h
  .have:=(hx k d).2;omega
 have g:∀ (x:ae) (y:Key),b5 B w x y->(∀k,aB x k->¬aB s k)->b5 (Grow B w w') w' x y/\∀k,aB x k->¬aB e k:=λx y q f=>⟨b5.bG (b5.nZ q hc f) λk _ h=>.inl h,E x q.2.2 f⟩;refine⟨e,rfl,bQ.mk' (ts:=ts.take i++ [t]++ts.drop i) ?_ ?_ ?_ ?_,hc⟩
 .simp only[cT,c9,ek,jZ];omega
 .simpa[mU,me] using aA
 .intro k d
  refine⟨?_,aA.lt k d⟩;rcases o k d with h|h
  .exact .inl (m k h).1
  .exact .inr ⟨h,aA.lt k d⟩
 .intro p c
  rw[List.zip_append (by simp only[cT,c9,jZ];omega),List.zip_append (by simp only[c9];omega),K4,K5]at c;rcases cS.1 c with c|c
  .rcases cS.1 c with c|c
   .obtain⟨a,b⟩:=n p (gT c)
    exact g _ _ a b
   .simp only[List.zip_cons_cons,List.zip_nil_left,ej]at c
    subst c;exact g _ _ ht hd
  .obtain⟨a,b⟩:=n p (gK c)
   exact g _ _ a b
theorem K6{B:Nat->Prop}{w:I}{s t:ae}{ls:O Key}{l:Key}{i:Nat}(g:bQ B w s ls)(ht:b5 B w t l)(hd:∀k,aB t k->¬aB s k)(hi:i<ls.length):
 ∃A:av,s.a=some A/\((0:Int)<=(i:Int)/\(i:Int)<(s.len:Int))/\(∃u:Y,w.cell? (A.add (Int.toNat (i:Int)*1))=some u)/\w.frozen? (A.add (Int.toNat (i:Int)*1))=false/\
  bQ B (w.setCell (A.add (Int.toNat (i:Int)*1)) (fV t)) s (ls.set i l)/\af (aB s) w (w.setCell (A.add (Int.toNat (i:Int)*1)) (fV t)):=by
 obtain⟨ts,h1,h,m,n⟩:=g;obtain⟨A,ar,hb,hc,hf,o,p⟩:=h.at (i:=i) (v:=fV (ts[i]'J)) (by simp[h1,hi]);have c:af (aB s) w (w.setCell (A.add (Int.toNat (i:Int)*1)) (fV t)):=af.set (.refl _ _) (λ_=>o) _;refine⟨A,ar,hb,⟨_,hc⟩,hf,⟨ts.set i t,by simp[h1],?_,In.ak m c,λj d f=>?_⟩,c⟩
 .have:=p (fV t)
  rwa[←List.map_set]at this
 .rw[dE]at d f
  rw[tG,tG];by_cases e:i=j
  .rw[if_pos e,if_pos e]
   exact⟨b5.nZ ht c hd,hd⟩
  .rw[if_neg e,if_neg e]
   obtain⟨a,b⟩:=n j d f;exact⟨b5.nZ a c b,b⟩
def iv(n:aK)(k v:Key):aK:=
 if kF n.keys k then {n with vals:=n.vals.set (da n.keys k) v}
 else {n with keys:=n.keys.take (da n.keys k)++ [k]++n.keys.drop (da n.keys k),vals:=n.vals.take (da n.keys k)++ [v]++n.vals.drop (da n.keys k)}
theorem jj.fy{n:aK}(h:jj n):(∀k∈n.keys,k.length<=100000)/\(∀v∈n.vals,v.length<=100000):=⟨λk a=>by have:=(h.ok k a).2;omega,λv b=>by have:=h.vals v b;omega⟩
def qJ(n:aK)(w:I)(v:Y)(w':I):Prop:=∃K V D:ae,v=.tuple #[dT n K V D,true]/\cr (λq=>w.heap.size<=q) w' n K V D/\Ext w w'
theorem sD{B:Nat->Prop}{w:I}{n:aK}{K V D tk e8:ae}{key val:Key}(h:cr B w n K V D)(hs:jj n)(bS:n.keys.length<=10000)(c:Src 1 w tk (ax key))(F:Src 1 w e8 (ax val))(aP:dg key)(bT:val.length<=24):
 aC ai 294 #[dT n K V D,tk,e8] w (qJ (iv n key val) w):=by
 have bU:=hs.len;have bV:n.kids.length=0:=by rw[hs.kids];rfl
 have bW:=len8 F;have bY:key.length<=24:=aP.2;refine okF (aa.sD n.leaf K V D tk e8) ao.sD func294 ?_;(delta aa.sD c0 aS ad ah xc aE aR bF bH rV uz hN gF bC dI eU bn bl bq st bw nM uA;dsimp only);refine aN (vs:=[n.leaf,K,V,D]) rfl λw1 aq a_ bZ=>?_;refine aN (vs:=[false,(),(),()]) rfl λag ba ab b0=>?_;have aQ:=a_.trans ab;obtain⟨cu,bd,bo,bA⟩:=cl (aq.ext ab);refine⟨n.leaf,cu,cc (λb w'=>b=false/\Ext ag w') (λq a=>⟨λhb=>?_,λhb=>⟨_,cu,K,bd,V,bo,D,bA,(lS (h.ext aQ) J J J).use ?_⟩⟩) ?_⟩
 .rw[hs.leaf]at hb;cases hb
 .rintro _ au ⟨b,rfl,bb,z⟩
  have:=bb.2 (.inl hs);subst this;exact⟨true,rfl,a _ _ ⟨rfl,z⟩⟩
 rintro _ au ⟨rfl,z⟩;have ac:=aQ.trans z;refine cc (λb w'=>b=false/\au=w') (λq a=>⟨λh=>(by cases h),λ_=>(ql (c.ext ac)).use ?_⟩) ?_
 .rintro _ _ ⟨rfl,rfl⟩
  exact⟨_,rfl,a _ _ ⟨by simp[aP],rfl⟩⟩
 rintro _ _ ⟨rfl,rfl⟩;obtain⟨cu,bd,bo,bA⟩:=cl (aq.ext (ab.trans z));refine⟨λhb=>?_,λ_=>⟨_,cu,K,bd,V,bo,D,bA,(gy (h.ext ac) J J J hs.fy.1 hs.fy.2).use ?_⟩⟩
 .have hb:decide (((e8.len:Int):Int)>24)=true:=hb
  have:=b8 hb;omega
 rintro _ bc ⟨l,g,aI,b2,cn,bP,rfl,p,aj⟩;have aT:=ac.trans aj;have b3:=aT.size;have b4:=ac.size;have b9:=z.size;have b_:=aj.size;refine⟨n.leaf,l,g,aI,rfl,aN (vs:=[false,(),(),()]) rfl λaF aU al ca=>⟨aU.bX rfl ?_,rfl,cA aU (us:=[n.leaf,l,g,aI]) rfl rfl λN O P cb=>?_⟩⟩
 .intro v F
  simp only[cY,fC,fM]at F;rcases F with rfl|rfl|rfl|rfl<;>trivial
 obtain⟨bD,be⟩:∃bD,bD=bc.heap.size:=⟨_,rfl⟩;rw[←be]at O P⊢;obtain⟨lo,bf⟩:∃lo,lo=au.heap.size:=⟨_,rfl⟩;rw[←bf]at p;have am:Ext w N:=Ext.bN (aT.trans al) P J;have bg:Var N w.heap.size [n.leaf,K,V,D] 397:=(((aq.ext (ab.trans z)).ext aj).ext al).ak P J;have aV:Var N w1.heap.size [false,(),(),()] 397:=(((ba.ext z).ext aj).ext al).ak P J;have f:gX lo N n l g aI b2 cn bP:=(p.ext al).ak P λq _ _ a e=>by
  subst e;rcases a with a|a|a
  .have:=(p.b7 _ a).2.1;omega
  .have:=(p.bv _ a).2.1;omega
  .have:=(p.bq _ a).2;omega
 obtain⟨cu,bd,bo,bA⟩:=cl bg;have bh:=vd n.keys key;refine⟨_,cu,K,bd,V,bo,D,bA,(o3 (h.ext am) (c.ext am) hs.du J).use ?_⟩;rintro _ m ⟨rfl,an⟩;have av:=am.trans an;have cd:=an.size;refine⟨_,_,rfl,λG=>?_,λG=>?_⟩
 .
  have C:=b1 m;have H:=an.trans C;have aJ:da n.keys key<n.keys.length:=by
   have:=b8 G;exact(l9.1 this).1
  obtain⟨d0,d1,d2,d3⟩:=cl (O.ext H);refine aO ⟨λ_=>False,id,g,d2,(nc (B:=λq=>m.heap.size<=q) (F.ext (av.trans C)) J (λq a=>a)).use ?_⟩;rintro _ r ⟨t,rfl,ht,u,bi⟩;have R:=H.trans u;have ay:=f.ext R;have bj:=R.size;have bk:bQ (Grow cn m r) r g n.vals:=bQ.bG ay.vals λk _ h=>.inl h;have x:∀k,aB g k->cn k:=λk c=>by obtain⟨ts,_,_,T,_⟩:=f.vals;exact(T k c).1
  obtain⟨A,ar,hb,bm,s9,aW,aX⟩:=K6 (i:=da n.keys key) bk (b5.bG ht λk c h=>.inr ⟨h,c⟩) (λk U W=>by
   have:=(ht.2.2 k U).1;have:=(f.bv k (x k W)).2.1;omega) J
  refine⟨t,rfl,u,A,ar,hb,bm,s9,aO ?_⟩;obtain⟨o,aY⟩:∃o,o=r.setCell (A.add (Int.toNat (da n.keys key:Int)*1)) (fV t):=⟨_,rfl⟩;rw[←aY]at aW aX;have bp:r.setCell (A.add (Int.toNat (da n.keys key:Int)*1)) t=o:=aY.symm;rw[bp];have X:af (λq=>lo<=q/\q<N.heap.size/\cn q) r o:=aX.mono λk _ c=>⟨(f.bv k (x k c)).1,(f.bv k (x k c)).2.1,x k c⟩;have ap:=(O.ext R).ak X (λe=>by
   have h1:=(p.bv _ e.2.2).2.1;omega)
  obtain⟨br,aG,aM,bs⟩:=cl ap;have bt:cr (λq=>lo<=q) o (iv n key val) l g aI:=by
   unfold iv;rw[if_pos G];refine⟨b6.bG (b6.ak (bQ.mF ay.keys) X λq a e=>(f.b7 q a).2.2.1 e.2.2) λq _ a=>(f.b7 q a).1,b6.bG (bQ.mF aW) λq _ a=>?_,dd.bG (dd.ak (c6.vh ay.kids) X λq a e=>(f.bv q e.2.2).2.2 a) λq _ a=>(f.bq q a).1⟩;rcases a with a|a
   .exact(f.bv q a).1
   .omega
  have bu:(iv n key val).leaf=n.leaf:=by unfold iv;rw[if_pos G]
  refine⟨_,br,l,aG,g,aM,aI,bs,kE n.leaf l g aI ((aV.ext R).ak X (λe=>by have:=e.1;omega)) rfl (Q:=λb K V D ag=>qJ (iv n key val) w (.tuple #[.agg #[b,K,V,D],true]) ag) λj s=>⟨l,g,aI,by unfold dT;rw[bu],?_,?_⟩⟩
  .exact(bt.ak s λq a e=>J).bG λq _ a=>by omega
  .exact Ext.bN (Ext.ee (am.trans R) X λk c=>J) s J
 .
  have C:=b1 m;have H:=an.trans C;have aZ:iZ lo m.drew bD n l g aI b2 cn bP:=by
   have L:=f.ext H;refine⟨O.ext H,L.keys,L.vals,L.kids,λq a=>?_,λq a=>?_,λq a=>?_,J⟩
   .have h1:=L.b7 q a;have:=(p.b7 q a).2.1;exact⟨h1.1,h1.2.1,J,h1.2.2⟩
   .have h1:=L.bv q a;have:=(p.bv q a).2.1;exact⟨h1.1,h1.2.1,J,h1.2.2⟩
   .have h1:=L.bq q a;have:=(p.bq q a).2;exact⟨h1.1,h1.2,J⟩
  obtain⟨d0,d1,d2,d3⟩:=cl aZ.v;refine aO ⟨λ_=>False,id,l,d1,(nc (B:=λq=>m.heap.size<=q) (c.ext (av.trans C)) J (λq a=>a)).use ?_⟩;rintro _ r ⟨t,rfl,ht,u,bi⟩;have bj:m.heap.size<=r.heap.size:=(C.trans u).size;have az:∀k,aB l k->b2 k:=λk c=>by obtain⟨ts,_,_,T,_⟩:=f.keys;exact(T k c).1
  have x:∀k,aB g k->cn k:=λk c=>by obtain⟨ts,_,_,T,_⟩:=f.vals;exact(T k c).1
  have d:=aZ.ext u;refine⟨t,rfl,u,aO ⟨c5 _ _,(FJ (B:=Grow b2 m r) (i:=da n.keys key) (bQ.bG d.keys λk _ h=>.inl h) (b5.bG ht λk c h=>.inr ⟨h,c⟩) (λk U W=>by
   have:=(ht.2.2 k U).1;have:=(f.b7 k (az k W)).2.1;omega) J bh).use ?_⟩⟩
  rintro _ o ⟨S,rfl,bx,a0⟩;have ce:=a0.size;have Y:af (λq=>lo<=q/\b2 q) r o:=a0.mono λk _ c=>⟨(f.b7 k (az k c)).1,az k c⟩;have ap:=d.v.ak Y λe=>(d.b7 _ e.2).2.2.1 rfl;obtain⟨s1,s2⟩:=eP ap (i:=1) (by simp);refine⟨S,rfl,?_⟩;rw[aw,aw];refine⟨s1,s2,aO (aO ?_)⟩;obtain⟨j,aD⟩:∃j,j=(o.setCell ⟨bD,0+1,none⟩ S).drew:=⟨_,rfl⟩;rw[←aD];have s:af (λq=>q=bD) o j:=by rw[aD];exact af.drew (dX _ _ _ _)
  have a1:Var j bD [n.leaf,S,g,aI] 397:=by rw[aD];exact(eO ap _).drew
  have cf:=s.size;have cg:bD<m.heap.size:=by have:=O.lt;omega
  have bz:bQ (λq=>b2 q\/(m.heap.size<=q/\q<o.heap.size)) j S (n.keys.take (da n.keys key)++ [key]++n.keys.drop (da n.keys key)):=by
   refine bQ.ak (bQ.bG bx λk _ c=>?_) s λk c e=>?_
   .rcases c with (c|c)|c
    .exact .inl c
    .exact .inr ⟨c.1,J⟩
    .exact .inr ⟨J,c.2⟩
   .subst e
    rcases c with c|c
    .exact(d.b7 _ c).2.2.1 rfl
    .omega
  have bB:bQ cn j g n.vals:=bQ.ak (bQ.ak d.vals Y λq a e=>(d.b7 q e.2).2.2.2.1 a) s λq a e=>(d.bv q a).2.2.1 e;have bE:c6 bP j aI n.kids:=c6.ak (c6.ak d.kids Y λq a e=>(d.b7 q e.2).2.2.2.2 a) s λq a e=>(d.bq q a).2.2 e;have a2:Ext w j:=Ext.ee (Ext.ee ((av.trans C).trans u) Y λk c=>J) s λk c=>by omega
  obtain⟨f0,f1,f2,f3⟩:=cl a1;rw[aw]at f2;refine⟨λ_=>False,id,g,f2,(nc (B:=λq=>j.heap.size<=q) (F.ext a2) J (λq a=>a)).use ?_⟩;rintro _ a3 ⟨t2,rfl,a4,y,ch⟩;have ci:=y.size;refine⟨t2,rfl,y,aO ⟨c5 _ _,(FJ (B:=Grow cn j a3) (i:=da n.keys key) (bQ.bG (bQ.ext bB y) λk _ h=>.inl h) (b5.bG a4 λk c h=>.inr ⟨h,c⟩) (λk U W=>by
   have:=(a4.2.2 k U).1;have:=(f.bv k (x k W)).2.1;omega) J J).use ?_⟩⟩
  rintro _ aH ⟨ep,rfl,bI,a5⟩;have cj:=a5.size;have Z:af (λq=>lo<=q/\cn q) a3 aH:=a5.mono λk _ c=>⟨(f.bv k (x k c)).1,x k c⟩;have a6:=(a1.ext y).ak Z λe=>(d.bv _ e.2).2.2.1 rfl;obtain⟨s1,s2⟩:=eP a6 (i:=2) (by simp);refine⟨ep,rfl,?_⟩;rw[aw,aw];refine⟨s1,s2,aO ?_⟩;obtain⟨E,aL⟩:∃E,E=aH.setCell ⟨bD,0+2,none⟩ ep:=⟨_,rfl⟩;rw[←aL];have M:af (λq=>q=bD) aH E:=by rw[aL];exact dX _ _ _ _
  have bJ:Var E bD [n.leaf,S,ep,aI] 397:=by rw[aL];exact eO a6 _
  have ck:=M.size;obtain⟨jQ,aA,a7,a8⟩:=cl bJ;rw[aw]at aA a7 a8;have bK:cr (λq=>lo<=q) E (iv n key val) S ep aI:=by
   unfold iv;rw[if_neg (by rw[G];simp)];refine⟨?_,?_,?_⟩
   .refine b6.bG (bQ.mF (bQ.ak (bQ.ak (bQ.ext bz y) Z λq a e=>?_) M λq a e=>?_)) λq _ a=>?_
    .rcases a with a|a
     .exact(d.b7 q a).2.2.2.1 e.2
     .have:=(f.bv q e.2).2.1;omega
    .subst e
     rcases a with a|a
     .exact(d.b7 _ a).2.2.1 rfl
     .omega
    .rcases a with a|a
     .exact(d.b7 q a).1
     .omega
   .refine b6.bG (bQ.mF (bQ.ak bI M λq a e=>?_)) λq _ a=>?_
    .subst e
     rcases a with (a|a)|a
     .exact(d.bv _ a).2.2.1 rfl
     .omega
     .omega
    .rcases a with (a|a)|a
     .exact(d.bv q a).1
     .omega
     .omega
   .exact dd.bG (c6.vh (c6.ak (c6.ak (c6.ext bE y) Z λq a e=>(d.bv q e.2).2.2.2 a) M λq a e=>(d.bq q a).2.2 e)) λq _ a=>(d.bq q a).1
  have bL:(iv n key val).leaf=n.leaf:=by unfold iv;rw[if_neg (by rw[G];simp)]
  have bM:Ext w E:=Ext.ee (Ext.ee (a2.trans y) Z λk c=>J) M λk c=>by omega
  have bO:Var E w1.heap.size [false,(),(),()] 397:=by
   have h1:=aV.ext (H.trans u);have bR:=(h1.ak Y (λe=>by have:=e.1;omega)).ak s J;exact((bR.ext y).ak Z (λe=>by have:=e.1;omega)).ak M J
  rw[aw,aw];refine⟨_,jQ,S,aA,ep,a7,aI,a8,?_⟩;have:=kE n.leaf S ep aI bO rfl (Q:=λb K V D ag=>qJ (iv n key val) w (.tuple #[.agg #[b,K,V,D],true]) ag) λcm a9=>⟨S,ep,aI,by unfold dT;rw[bL],(bK.ak a9 λq a e=>J).bG λq _ a=>J,Ext.bN bM a9 J⟩;simpa only[aw] using this
theorem Cf{n:aK}(hs:cV n)(m:Nat):((cellsOf n).take m).sum<=100*n.keys.length:=by
 have h1:((cellsOf n).take m).sum<=(cellsOf n).sum:=by
  have:=BP (cellsOf n) m;omega
 have a:=BX hs n.keys.length (ba _);rw[ey (by rw[s6 hs];exact ba _)]at a;have b:=B5 hs n.keys.length (ba _);omega
theorem oU{B:Nat->Prop}{w:I}{n:aK}{K V D:ae}(h:cr B w n K V D)(hs:cV n)(E:n.keys.length<=10000){most:Nat}(hm:most<=n.keys.length):
 aC ai 354 #[dT n K V D,most] w (λv w'=>v=.int .i64 ((hD (cellsOf n) most:Nat):Int)/\Ext w w'):=by
 refine okF (aa.oU n.leaf K V D (most:Int)) ao.oU func354 ?_;(delta aa.oU aE aR ad fO ah aS bn al;dsimp only);refine aN (vs:=[n.leaf,K,V,D]) rfl λw1 o d _=>?_;obtain⟨cu,bd,bo,bA⟩:=cl o;have F:=b6.len h.keys;have G:=s6 hs;have x:∀ (j:Nat) (f:j<(cellsOf n).length),(cellsOf n)[j]=(h5 n j).length:=λj f=>by
  have h1:=BW hs (i:=j) J;rw[eJ f]at h1;exact Option.some.inj h1
 refine⟨K,bd,λa i w'=>∃j:Nat,i=j/\j<=n.keys.length/\a=((((cellsOf n).take j).sum:Nat):Int)/\Ext w1 w',λ_ i _=>((n.keys.length:Int)-i).toNat,⟨0,rfl,c8 _,by simp,.refl _ _⟩,?_⟩;rintro _ _ ag ⟨j,rfl,f,rfl,g⟩;obtain⟨d0,d1,d2,d3⟩:=cl (o.ext g);refine⟨λaJ=>?_,λb=>?_⟩
 .have aJ:j<n.keys.length:=by have:=b8 aJ;omega
  refine⟨_,d0,K,d1,V,d2,D,d3,(o4 (h.ext (d.trans g)) hs aJ J).use ?_⟩;rintro _ H ⟨s,rfl,p,z,_⟩;have q:=iM p;have hb:=Cf hs j;have hc:=ze hs aJ;have e:=s3 (l:=cellsOf n) (i:=j) J;rw[x j J]at e;refine⟨s,rfl,?_⟩;rw[q,bT (n:=((((cellsOf n).take j).sum:Nat):Int)+(((h5 n j).length:Nat):Int)) J J,bT (n:=(j:Int)+1) J J];refine⟨⟨j+1,J,J,J,g.trans z⟩,?_⟩;show((n.keys.length:Int)-((j:Int)+1)).toNat<((n.keys.length:Int)-(j:Int)).toNat;omega
 have b:j=n.keys.length:=by have:=cL b;omega
 subst b;rw[ey (l:=cellsOf n) J];refine⟨λa i w'=>∃j:Nat,i=j/\j<=most/\a=((((cellsOf n).take j).sum:Nat):Int)/\Ext w1 w'/\∀k,k<j->2*((cellsOf n).take (k+1)).sum<(cellsOf n).sum,λ_ i _=>((most:Int)-i).toNat,⟨0,rfl,c8 _,by simp,g,λk A=>J⟩,?_⟩;rintro _ _ L ⟨j,rfl,f,rfl,c,r⟩;obtain⟨d0,d1,d2,d3⟩:=cl (o.ext c);have C:=Cf hs (cellsOf n).length;rw[jz]at C;refine⟨λaJ=>?_,λb=>?_⟩
 .have aJ:j<most:=by have:=b8 aJ;omega
  refine⟨_,d0,K,d1,V,d2,D,d3,(o4 (h.ext (d.trans c)) hs J J).use ?_⟩;rintro _ aF ⟨s,rfl,p,y,_⟩;have q:=iM p;have hb:=Cf hs j;have hc:=ze hs (i:=j) J;have e:=s3 (l:=cellsOf n) (i:=j) J;rw[x j J]at e;refine⟨s,rfl,?_⟩;rw[q,bT (n:=((((cellsOf n).take j).sum:Nat):Int)+(((h5 n j).length:Nat):Int)) J J,bT (n:=2*(((((cellsOf n).take j).sum:Nat):Int)+(((h5 n j).length:Nat):Int))) J J,bT (n:=(j:Int)+1) J J];refine⟨λhd=>⟨?_,d.trans (c.trans y)⟩,λhd=>⟨⟨j+1,J,J,J,c.trans y,λk A=>?_⟩,?_⟩⟩
  .have hd:=b8 hd
   have t:(List.range most).find? (λi=>decide ((cellsOf n).sum<=2*((cellsOf n).take (i+1)).sum))=some j:=by
    have:=fB aJ (ba most);rw[List.find?_eq_some_iff_append];refine⟨eL J,List.range j,List.range' (j+1) (most-(j+1)),?_,λa u=>?_⟩
    .have aG:=List.range'_append (s:=0) (m:=j) (n:=most-(j+1)+1) (step:=1)
     rw[vU,vU,←List.range'_succ];rw[Nat.one_mul,cz]at aG;rw[aG]
     congr 1
     omega
    .have:=r a (jY.1 u)
     simp;omega
   unfold hD;rw[t];rfl
  .have hd:=cL hd
   rcases eF k j with h1|h1
   .exact r k h1
   .have:k=j:=by omega
    subst this;omega
  .show((most:Int)-((j:Int)+1)).toNat<((most:Int)-(j:Int)).toNat
   omega
 .have b:j=most:=by have:=cL b;omega
  subst b;refine⟨?_,d.trans c⟩;have t:(List.range j).find? (λi=>decide ((cellsOf n).sum<=2*((cellsOf n).take (i+1)).sum))=none:=by
   rw[ky];intro a u;have:=r a (jY.1 u);simp;omega
  unfold hD;rw[t]
theorem b6.sub{B:Nat->Prop}{w:I}{s:ae}{ls:O Key}{lo hi:Nat}(h:b6 B w s ls)(h1:lo<=hi)(l:hi<=ls.length):b6 B w ⟨aW s.a 1 lo s.cap,hi-lo,s.cap-lo⟩ ((ls.drop lo).take (hi-lo)):=by
 have m:=b6.len h;obtain⟨ts,aA,b,c,d,e⟩:=h;refine⟨(ts.drop lo).take (hi-lo),by simp[aA],?_,by show hi-lo<=s.cap-lo;omega,λk f=>?_,λi g j=>?_⟩
 .have:=Src.sub b c h1 J
  simpa[me,mU] using this
 .obtain⟨A,ar,hb⟩:=zh f
  exact d k ⟨A,ar,hb⟩
 .simp only[tL,rl]
  rw[c9,ek]at g j;exact e (lo+i) J J
theorem b6.le{B:Nat->Prop}{w:I}{s:ae}{ls:O Key}(h:b6 B w s ls):s.len<=s.cap:=by
 obtain⟨ts,_,_,a,_⟩:=h;exact a
theorem dd.sub{B:Nat->Prop}{w:I}{s:ae}{ds:O Nat}{lo hi:Nat}(h:dd B w s ds)(h1:lo<=hi)(f:hi<=ds.length):dd B w ⟨aW s.a 1 lo s.cap,hi-lo,s.cap-lo⟩ ((ds.drop lo).take (hi-lo)):=by
 have g:=dd.len h;obtain⟨c,b,d⟩:=h;have i:s.len<=s.cap:=b;refine⟨?_,by show hi-lo<=s.cap-lo;omega,λk e=>?_⟩
 .have:=Src.sub c b h1 J
  simpa[gJ,me,mU] using this
 .obtain⟨A,ar,hb⟩:=zh e
  exact d k ⟨A,ar,hb⟩
theorem qK(b:aj)(K V D:ae):∀v∈([b,K,V,D]:O Y),Plain v:=by
 intro v a;simp only[cY,fC,fM]at a;rcases a with rfl|rfl|rfl|rfl<;>trivial
theorem FK{c:I}{r1 aR:Nat}{Cg m:O Y}{bz cf:aj}{fX gB bY eA eI dD:ae}(h1:Var c r1 Cg 397)(v:Var c aR m 397)(n:Cg.length=4)(o:m.length=4)(p:r1≠aR){W:Nat->Prop}(cU:∀q,q=r1->W q)
 {Q:aj->ae->ae->ae->aj->ae->ae->ae->I->Prop} (w:∀b,af (λq=>q=r1\/q=aR) c b->Q bz fX gB bY cf eA eI dD b):
 b_ c r1 [bz,fX,gB,bY]/\(4:Nat)=4/\an (setCells c r1 0 [bz,fX,gB,bY]) λdt=>
  af W c dt/\b_ dt aR [cf,eA,eI,dD]/\(4:Nat)=4/\an (setCells dt aR 0 [cf,eA,eI,dD]) λb=>
  ∃r:aj,b.cell? r1=some (.bool r)/\∃d:ae,b.cell? (Addr.add r1 1)=some (.slice d.a d.len d.cap)/\∃f:ae,b.cell? (Addr.add r1 2)=some (.slice f.a f.len f.cap)/\∃g:ae,b.cell? (Addr.add r1 3)=some (.slice g.a g.len g.cap)/\
  ∃s:aj,b.cell? aR=some (.bool s)/\∃i:ae,b.cell? (Addr.add aR 1)=some (.slice i.a i.len i.cap)/\∃j:ae,b.cell? (Addr.add aR 2)=some (.slice j.a j.len j.cap)/\∃k:ae,b.cell? (Addr.add aR 3)=some (.slice k.a k.len k.cap)/\Q r d f g s i j k b:=by
 refine⟨h1.bX (by rw[n];rfl) (qK _ _ _ _),rfl,cA h1 (us:=[bz,fX,gB,bY]) (by rw[n];rfl) rfl λdt x l _=>?_⟩;have t:=v.ak l (λe=>p e.symm);refine⟨l.mono λq _ h=>cU q h,t.bX (by rw[o];rfl) (qK _ _ _ _),rfl,cA t (us:=[cf,eA,eI,dD]) (by rw[o];rfl) rfl λb y u _=>?_⟩;obtain⟨cu,bd,bo,bA⟩:=cl (x.ak u p);obtain⟨d0,d1,d2,d3⟩:=cl y;exact⟨bz,cu,fX,bd,gB,bo,bY,bA,cf,d0,eA,d1,eI,d2,dD,d3,w b ((l.mono λq _ h=>.inl h).trans (u.mono λq _ h=>.inr h))⟩
def zk(n:aK)(w:I)(v:Y)(w':I):Prop:=
 ∃ (fX gB bY eA eI dD t:ae),v=.tuple #[dT (n.left (cK n)) fX gB bY,t,dT (n.right (cK n)) eA eI dD,true]/\
  cr (λq=>w.heap.size<=q) w' (n.left (cK n)) fX gB bY/\cr (λq=>w.heap.size<=q) w' (n.right (cK n)) eA eI dD/\b5 (λq=>w.heap.size<=q) w' t (n.keys.getD (cK n) [])/\Ext w w'
theorem rY{B:Nat->Prop}{w:I}{n:aK}{K V D:ae}(h:cr B w n K V D)(hs:cV n)(ax:n.keys.length<=10000)(a_:1<=cK n)
 (C:if n.leaf then cK n<=n.keys.length-1/\1<=n.keys.length-1 else cK n<=n.keys.length-2/\1<=n.keys.length-2):
 aC ai 353 #[dT n K V D] w (zk n w):=by
 have bW:n.vals.length<=10000:=by
  rcases hs with hs|hs
  .rw[hs.len];omega
  .rw[hs.vals];simp
 have bZ:n.kids.length<=10001:=by
  rcases hs with hs|hs
  .rw[hs.kids];simp
  .rw[hs.len];omega
 have Z:∀k∈n.keys,k.length<=100000:=λk l=>by have:=(hs.keys.ok k l).2;omega
 have an:∀k∈n.vals,k.length<=100000:=λk l=>by have:=hs.vals k l;omega
 have b0:=b6.len h.keys;obtain⟨most,ac⟩:∃most,most=if n.leaf then n.keys.length-1 else n.keys.length-2:=⟨_,rfl⟩
 have ap:1<=most/\most<=n.keys.length/\cK n<=most:=by
  rw[ac]
  cases u:n.leaf<;>rw[u]at C<;>simp at C⊢<;>omega
 have aq:cK n<n.keys.length:=by
  cases u:n.leaf<;>rw[u]at C<;>simp at C<;>omega
 refine okF (aa.rY n.leaf K V D) ao.rY func353 ?_;(delta aa.rY c0 aE aR ad aS ah al bF bH bC hN b4 xf bl bq bw bn dI eU Bi Bd oR Bj Bb;dsimp only);refine aN (vs:=[n.leaf,K,V,D]) rfl λw1 a0 ba b3=>?_;refine aN (vs:=[false,(),(),()]) rfl λag bb ay b9=>?_;refine aN (vs:=[false,(),(),()]) rfl λbc be au b_=>?_;have a1:=ba.trans (ay.trans au);obtain⟨cu,bd,bo,bA⟩:=cl ((a0.ext ay).ext au);refine⟨K,bd,cc (λm w'=>m=(most:Int)/\bc=w') (λq f=>⟨n.leaf,cu,λhb=>f _ _ ⟨?_,rfl⟩,λhb=>f _ _ ⟨?_,rfl⟩⟩) ?_⟩
 .have hb:n.leaf=false:=by simpa using hb
  rw[hb]at C ac;simp at C ac;rw[bT (n:=(K.len:Int)-1) J J,bT J J];omega
 .have hb:n.leaf=true:=by simpa using hb
  rw[hb]at C ac;simp at C ac;rw[bT J J];omega
 rintro _ _ ⟨rfl,rfl⟩;refine⟨_,cu,K,bd,V,bo,D,bA,(lS (h.ext a1) J J J).use ?_⟩;rintro _ v ⟨b,rfl,hb,aj⟩;have bf:=hb.2 hs;subst bf;have am:=b1 v;have R:=a1.trans (aj.trans am);have av:=((a0.ext ay).ext au).ext (aj.trans am);have az:=(bb.ext au).ext (aj.trans am);have aA:=be.ext (aj.trans am);have ca:=(aj.trans am).size;obtain⟨cu,bd,bo,bA⟩:=cl av;have cb:v.drew.heap.size=v.heap.size:=rfl;have fin:∀ (g aD:I) (bD:Nat) (c d aI:ae) (b2 cn bP:Nat->Prop),Ext w g->v.heap.size<=bD/\v.heap.size<=g.heap.size->Var g bD [n.leaf,c,d,aI] 397->gX v.heap.size g n c d aI b2 cn bP->Var g w.heap.size [n.leaf,K,V,D] 397->Var g w1.heap.size [false,(),(),()] 397->Var g ag.heap.size [false,(),(),()] 397->aD.heap.size=bD->aa.ES w w1 ag aD ((hD (cellsOf n) most:Nat):Int) g (zk n w):=λg aD bD c d aI b2 cn bP E ⟨L,cd⟩ F M S T U bg=>by
  have bh:hD (cellsOf n) most=cK n:=by unfold cK;rw[ac]
  rw[bh];(delta aa.ES xf aE aR ad bl bq bw bn aS ah bC dI eU Bi Bd oR hN bH al Bj Bb k9;dsimp only);rw[bg];obtain⟨i,hi⟩:∃i,i=cK n:=⟨_,rfl⟩;rw[←hi]at aq ap a_;rw[←hi];obtain⟨a2,aG,aM,bi⟩:=cl S;obtain⟨A,t,ar,bj,hc,ht,_⟩:=b6.at (h.ext E).keys aq;refine⟨K,aG,A,ar,bj,t,hc,(nc (B:=λq=>w.heap.size<=q) ht.1 (by have:=Z _ (c3 aq);omega) (λq f=>dQ E.size f)).use ?_⟩;rintro _ G ⟨tk,rfl,a3,aF,a4⟩;have aH:=b1 G;obtain⟨a2,aG,aM,bi⟩:=cl (S.ext aF);have H:=aF.trans aH;obtain⟨f0,f1,f2,f3⟩:=cl (F.ext H);have y:=M.at.ext H;have ce:=b6.len y.keys;have cg:=b6.len y.vals;have ch:=dd.len y.kids;have ci:=b6.le (bQ.mF M.keys);have cj:=b6.le (bQ.mF M.vals);have ck:aI.len<=aI.cap:=y.kids.2.1;have cm:g.heap.size<=G.heap.size:=aF.size;have a5:n.keys.getD i []=n.keys[i]:=gn aq;refine⟨tk,rfl,n.leaf,a2,λu=>aO ⟨λq=>q=w1.heap.size,λe=>?_,c,f1,⟨J,J⟩,λe=>?_,d,f2,⟨J,?_⟩,#[true,.slice (aW c.a 1 0 c.cap) i c.cap,.slice (aW d.a 1 0 d.cap) i d.cap,()],(λw=>by kernel_rfl),λe=>?_,c,f1,⟨J,J⟩,λe=>?_,d,f2,⟨J,?_⟩,#[true,.slice (aW c.a 1 i c.cap) (c.len-i) (c.cap-i),.slice (aW d.a 1 i d.cap) (d.len-i) (d.cap-i),()],(λw=>by kernel_rfl),?_⟩,λu=>?_⟩
  .rw[aw]at e;have e:bD=w1.heap.size:=e;omega
  .rw[aw]at e;have e:bD=w1.heap.size:=e;omega
  .have:=hs.vk u;omega
  .rw[aw]at e;have e:bD=w1.heap.size:=e;omega
  .rw[aw]at e;have e:bD=w1.heap.size:=e;omega
  .have:=hs.vk u;omega
  .have bk:=hs.vk u
   have o:n.left i=⟨true,n.keys.take i,n.vals.take i,[]⟩:=by unfold aK.left;rw[u];rfl
   have p:n.right i=⟨true,n.keys.drop i,n.vals.drop i,[]⟩:=by unfold aK.right;rw[u];rfl
   have aJ:cr (λq=>v.heap.size<=q) G.drew (n.left i) ⟨aW c.a 1 0 c.cap,i,c.cap⟩ ⟨aW d.a 1 0 d.cap,i,d.cap⟩ cJ:=by
    rw[o];refine⟨?_,?_,dd.none _ _⟩
    .have:=b6.sub y.keys (lo:=0) (hi:=i) J J
     simpa using this
    .have:=b6.sub y.vals (lo:=0) (hi:=i) J J
     simpa using this
   have aL:cr (λq=>v.heap.size<=q) G.drew (n.right i) ⟨aW c.a 1 i c.cap,c.len-i,c.cap-i⟩ ⟨aW d.a 1 i d.cap,d.len-i,d.cap-i⟩ cJ:=by
    rw[p];refine⟨?_,?_,dd.none _ _⟩
    .have:=b6.sub y.keys (lo:=i) (hi:=c.len) J J
     rwa[ey (by rw[ek];omega)]at this
    .have:=b6.sub y.vals (lo:=i) (hi:=d.len) J J
     rwa[ey (by rw[ek];omega)]at this
   have aP:=gy aJ (by rw[o];show(n.keys.take i).length<=_;rw[c9];omega) (by rw[o];show(n.vals.take i).length<=_;rw[c9];omega) (by rw[o];simp) (by rw[o];exact λk l=>Z k (gT l)) (by rw[o];exact λk l=>an k (gT l));have aQ:(.agg #[true,.slice (aW c.a 1 0 c.cap) i c.cap,.slice (aW d.a 1 0 d.cap) i d.cap,()]:Y)=dT (n.left i) ⟨aW c.a 1 0 c.cap,i,c.cap⟩ ⟨aW d.a 1 0 d.cap,i,d.cap⟩ cJ:=by rw[o];rfl
   have aT:(.agg #[true,.slice (aW c.a 1 i c.cap) (c.len-i) (c.cap-i),.slice (aW d.a 1 i d.cap) (d.len-i) (d.cap-i),()]:Y)=dT (n.right i) ⟨aW c.a 1 i c.cap,c.len-i,c.cap-i⟩ ⟨aW d.a 1 i d.cap,d.len-i,d.cap-i⟩ cJ:=by rw[p];rfl
   rw[aQ,aT];refine aP.use ?_;rintro _ bm ⟨fX,gB,bY,bp,br,bs,rfl,aU,N⟩;have aV:=gy (aL.ext N) (by rw[p];show(n.keys.drop i).length<=_;rw[ek];omega) (by rw[p];show(n.vals.drop i).length<=_;rw[ek];omega) (by rw[p];simp) (by rw[p];exact λk l=>Z k (gK l)) (by rw[p];exact λk l=>an k (gK l));refine⟨_,fX,gB,bY,rfl,af.bL N,aV.use ?_⟩;rintro _ bt ⟨eA,eI,dD,bu,bx,bB,rfl,aX,ab⟩;have O:=N.trans ab;have bE:=N.size;have bI:=H.size;refine⟨_,eA,eI,dD,rfl,af.bL ab,FK (bz:=(n.left i).leaf) (cf:=(n.right i).leaf) (fX:=fX) (gB:=gB) (bY:=bY) (eA:=eA) (eI:=eI) (dD:=dD) ((T.ext H).ext O) ((U.ext H).ext O) rfl rfl J (λq f=>f) (Q:=λbz fX gB bY cf eA eI dD w'=>zk n w (.tuple #[.agg #[bz,fX,gB,bY],tk,.agg #[cf,eA,eI,dD],true]) w') λbJ P=>?_⟩;have bK:G.drew.heap.size=G.heap.size:=rfl;refine⟨fX,gB,bY,eA,eI,dD,tk,by rw[←hi];rfl,?_,?_,?_,?_⟩
   .rw[←hi];exact((aU.at.ext ab).ak P λq f e=>J).bG λq _ f=>by omega
   .rw[←hi];exact(aX.at.ak P λq f e=>J).bG λq _ f=>by omega
   .rw[←hi,a5]
    have aY:∀q,aB tk q->g.heap.size<=q:=a4;exact b5.nZ (b5.ext (b5.ext a3 aH) O) P λq f e=>by have:=aY q f;omega
   .exact Ext.ee (E.trans (H.trans O)) P λq f=>by omega
  .have bk:=hs.zd u
   have co:i<=n.keys.length-2/\1<=n.keys.length-2:=by rw[u,←hi]at C;simpa using C
   have bM:IntKind.wrap .i64 ((i:Int)+1)=((i+1:Nat):Int):=by rw[bT J J];rfl
   rw[bM];refine aO ⟨λq=>q=w1.heap.size,λe=>?_,c,f1,⟨J,J⟩,λe=>?_,aI,f3,⟨J,J⟩,#[false,.slice (aW c.a 1 0 c.cap) i c.cap,(),.slice (aW aI.a 1 0 aI.cap) (i+1) aI.cap],(λw=>by kernel_rfl),λe=>?_,c,f1,⟨J,J⟩,λe=>?_,aI,f3,⟨J,J⟩,#[false,.slice (aW c.a 1 (i+1) c.cap) (c.len-(i+1)) (c.cap-(i+1)),(),.slice (aW aI.a 1 (i+1) aI.cap) (aI.len-(i+1)) (aI.cap-(i+1))],(λw=>by kernel_rfl),?_⟩
   .rw[aw]at e;have e:bD=w1.heap.size:=e;omega
   .rw[aw]at e;have e:bD=w1.heap.size:=e;omega
   .rw[aw]at e;have e:bD=w1.heap.size:=e;omega
   .rw[aw]at e;have e:bD=w1.heap.size:=e;omega
   have o:n.left i=⟨false,n.keys.take i,[],n.kids.take (i+1)⟩:=by unfold aK.left;rw[u];rfl
   have p:n.right i=⟨false,n.keys.drop (i+1),[],n.kids.drop (i+1)⟩:=by unfold aK.right;rw[u];rfl
   have aJ:cr (λq=>v.heap.size<=q) G.drew (n.left i) ⟨aW c.a 1 0 c.cap,i,c.cap⟩ cJ ⟨aW aI.a 1 0 aI.cap,i+1,aI.cap⟩:=by
    rw[o];refine⟨?_,b6.none _ _,?_⟩
    .have:=b6.sub y.keys (lo:=0) (hi:=i) J J
     simpa using this
    .have:=dd.sub y.kids (lo:=0) (hi:=i+1) J J
     simpa using this
   have aL:cr (λq=>v.heap.size<=q) G.drew (n.right i) ⟨aW c.a 1 (i+1) c.cap,c.len-(i+1),c.cap-(i+1)⟩ cJ ⟨aW aI.a 1 (i+1) aI.cap,aI.len-(i+1),aI.cap-(i+1)⟩:=by
    rw[p];refine⟨?_,b6.none _ _,?_⟩
    .have:=b6.sub y.keys (lo:=i+1) (hi:=c.len) J J
     rwa[ey (by rw[ek];omega)]at this
    .have:=dd.sub y.kids (lo:=i+1) (hi:=aI.len) J J
     rwa[ey (by rw[ek];omega)]at this
   have aP:=gy aJ (by rw[o];show(n.keys.take i).length<=_;rw[c9];omega) (by rw[o];simp) (by rw[o];show(n.kids.take (i+1)).length<=_;rw[c9];omega) (by rw[o];exact λk l=>Z k (gT l)) (by rw[o];simp);have aQ:(.agg #[false,.slice (aW c.a 1 0 c.cap) i c.cap,(),.slice (aW aI.a 1 0 aI.cap) (i+1) aI.cap]:Y)=dT (n.left i) ⟨aW c.a 1 0 c.cap,i,c.cap⟩ cJ ⟨aW aI.a 1 0 aI.cap,i+1,aI.cap⟩:=by rw[o];rfl
   have aT:(.agg #[false,.slice (aW c.a 1 (i+1) c.cap) (c.len-(i+1)) (c.cap-(i+1)),(),.slice (aW aI.a 1 (i+1) aI.cap) (aI.len-(i+1)) (aI.cap-(i+1))]:Y)=dT (n.right i) ⟨aW c.a 1 (i+1) c.cap,c.len-(i+1),c.cap-(i+1)⟩ cJ ⟨aW aI.a 1 (i+1) aI.cap,aI.len-(i+1),aI.cap-(i+1)⟩:=by rw[p];rfl
   rw[aQ,aT];refine aP.use ?_;rintro _ bm ⟨fX,gB,bY,bp,br,bs,rfl,aU,N⟩;have aV:=gy (aL.ext N) (by rw[p];show(n.keys.drop (i+1)).length<=_;rw[ek];omega) (by rw[p];simp) (by rw[p];show(n.kids.drop (i+1)).length<=_;rw[ek];omega) (by rw[p];exact λk l=>Z k (gK l)) (by rw[p];simp);refine⟨_,fX,gB,bY,rfl,af.bL N,aV.use ?_⟩;rintro _ bt ⟨eA,eI,dD,bu,bx,bB,rfl,aX,ab⟩;have O:=N.trans ab;have bE:=N.size;have bI:=H.size;refine⟨_,eA,eI,dD,rfl,af.bL ab,FK (bz:=(n.left i).leaf) (cf:=(n.right i).leaf) (fX:=fX) (gB:=gB) (bY:=bY) (eA:=eA) (eI:=eI) (dD:=dD) ((T.ext H).ext O) ((U.ext H).ext O) rfl rfl J (λq f=>f) (Q:=λbz fX gB bY cf eA eI dD w'=>zk n w (.tuple #[.agg #[bz,fX,gB,bY],tk,.agg #[cf,eA,eI,dD],true]) w') λbJ P=>?_⟩;have bK:G.drew.heap.size=G.heap.size:=rfl;refine⟨fX,gB,bY,eA,eI,dD,tk,by rw[←hi];rfl,?_,?_,?_,?_⟩
   .rw[←hi];exact((aU.at.ext ab).ak P λq f e=>J).bG λq _ f=>by omega
   .rw[←hi];exact(aX.at.ak P λq f e=>J).bG λq _ f=>by omega
   .rw[←hi,a5]
    have aY:∀q,aB tk q->g.heap.size<=q:=a4;exact b5.nZ (b5.ext (b5.ext a3 aH) O) P λq f e=>by have:=aY q f;omega
   .exact Ext.ee (E.trans (H.trans O)) P λq f=>by omega
 refine⟨true,rfl,λh=>?_,λ_=>aO ⟨λ_=>False,id,_,cu,K,bd,V,bo,D,bA,id,_,cu,K,bd,V,bo,D,bA,⟨?_,?_⟩⟩⟩
 .simp only[Bool.not_true,nu]at h
  have:=b8 h;omega
 .refine(gy (h.ext R) J J J Z an).use ?_
  rintro _ a6 ⟨c,d,aI,b2,cn,bP,rfl,W,z⟩;refine⟨n.leaf,c,d,aI,rfl,z,⟨?_,?_⟩⟩
  .refine(oU (h.ext (R.trans z)) hs ax (most:=most) ap.2.1).use ?_
   rintro _ aZ ⟨rfl,r⟩;refine⟨_,rfl,r,aN (vs:=[false,(),(),()]) rfl λa7 X s a8=>⟨s,X.bX rfl (qK _ _ _ _),rfl,cA X (us:=[n.leaf,c,d,aI]) rfl rfl λg F j a9=>?_⟩⟩;have bO:=z.size;have bR:=r.size;obtain⟨bD,L⟩:∃bD,bD=aZ.heap.size:=⟨_,rfl⟩;rw[←L]at F j⊢;have x:=z.trans (r.trans s);have M:gX v.heap.size g n c d aI b2 cn bP:=(W.ext (r.trans s)).ak j λq _ _ f e=>by
    subst e;rcases f with f|f|f
    .have:=(W.b7 _ f).2.1;omega
    .have:=(W.bv _ f).2.1;omega
    .have:=(W.bq _ f).2;omega
   have E:Ext w g:=Ext.bN (R.trans x) j J;have S:=(av.ext x).ak j J;have T:=(az.ext x).ak j J;have U:=(aA.ext x).ak j J;subst L;exact fin g _ _ c d aI b2 cn bP E ⟨J,J⟩ F M S T U rfl
  .refine aN (vs:=[false,(),(),()]) rfl λaZ bS r cp=>⟨r,?_⟩
   refine(oU (h.ext (R.trans (z.trans r))) hs ax (most:=most) ap.2.1).use ?_;rintro _ a7 ⟨rfl,s⟩;have X:=bS.ext s;refine⟨_,rfl,s,X.bX rfl (qK _ _ _ _),rfl,cA X (us:=[n.leaf,c,d,aI]) rfl rfl λg F j a9=>?_⟩;have bO:=z.size;have a8:=s.size;obtain⟨bD,L⟩:∃bD,bD=a6.heap.size:=⟨_,rfl⟩;rw[←L]at F j⊢;have x:=z.trans (r.trans s);have M:gX v.heap.size g n c d aI b2 cn bP:=(W.ext (r.trans s)).ak j λq _ _ f e=>by
    subst e;rcases f with f|f|f
    .have:=(W.b7 _ f).2.1;omega
    .have:=(W.bv _ f).2.1;omega
    .have:=(W.bq _ f).2;omega
   have E:Ext w g:=Ext.bN (R.trans x) j J;have S:=(av.ext x).ak j J;have T:=(az.ext x).ak j J;have U:=(aA.ext x).ak j J;subst L;exact fin g _ _ c d aI b2 cn bP E ⟨J,J⟩ F M S T U rfl
 .refine aN (vs:=[false,(),(),()]) rfl λa6 bU z cq=>⟨z,?_⟩
  refine(gy (h.ext (R.trans z)) J J J Z an).use ?_;rintro _ aZ ⟨c,d,aI,b2,cn,bP,rfl,bV,r⟩;refine⟨n.leaf,c,d,aI,rfl,r,(oU (h.ext (R.trans (z.trans r))) hs ax (most:=most) ap.2.1).use ?_⟩;rintro _ a7 ⟨rfl,s⟩;have X:=bU.ext (r.trans s);refine⟨_,rfl,s,X.bX rfl (qK _ _ _ _),rfl,cA X (us:=[n.leaf,c,d,aI]) rfl rfl λg F j a9=>?_⟩;have bR:=r.size;have a8:=s.size;obtain⟨bD,L⟩:∃bD,bD=v.drew.heap.size:=⟨_,rfl⟩;rw[←L]at F j⊢;have x:=z.trans (r.trans s);have M:gX v.heap.size g n c d aI b2 cn bP:=((bV.ext s).ak j λq h1 _ _ e=>J).low J;have E:Ext w g:=Ext.bN (R.trans x) j J;have S:=(av.ext x).ak j J;have T:=(az.ext x).ak j J;have U:=(aA.ext x).ak j J;subst L;exact fin g _ _ c d aI b2 cn bP E ⟨J,J⟩ F M S T U rfl
theorem Ch{B C:Nat->Prop}{w:I}{s x:ae}{ls xs:O Key}(l:bQ B w s ls)(hx:b6 C w x xs)(hd:∀q,C q->¬aB s q)(v:ls.length<=100000)(hm:xs.length<=100000):
 ∃ (d:ae) (w':I),Sem.run ai (Builtin.append_ #[358,358] 358 #[s,x]) w=.ok d w'/\b6 (λq=>B q\/C q\/w.heap.size<=q) w' d (ls++xs)/\af (aB s) w w':=by
 have y:=b6.len hx;obtain⟨ts,h1,g,m,n⟩:=l;obtain⟨us,aA,o,z,A,p⟩:=hx;have D:s.len=ls.length:=by have:=g.1;rw[dU]at this;omega
 obtain⟨d,w',aG,aM,E,f,r⟩:=vi.append (df:=358) o g (B4 us) J;refine⟨d,w',aG,⟨ts++us,by simp[h1,aA],?_,aM.2.1,?_,λi t F=>?_⟩,f⟩
 .rw[e_];exact aM.src
 .intro k c
  refine⟨?_,aM.lt k c⟩;rcases r k c with h|h
  .exact .inl (m k h).1
  .exact .inr (.inr h)
 .rcases eF i ts.length with h|h
  .have j:i<ls.length:=by omega
   rw[tM h,tM j];obtain⟨a,b⟩:=n i h j;exact b5.bG (b5.nZ a f b) λk _ c=>.inl c
  .have u:i-ts.length<us.length:=by rw[cT]at t;omega
   have G:i-ls.length<xs.length:=by omega
   rw[wa h,wa J];have e:i-ls.length=i-ts.length:=by omega
   have a:=p (i-ts.length) u J;simp only[e];exact b5.bG (b5.nZ a f λk c=>hd k (a.2.2 k c).1) λk _ c=>.inr (.inl c)
theorem FL{B C:Nat->Prop}{w:I}{s x:ae}{ds es:O Nat}(c:c6 B w s ds)(hx:dd C w x es)(g:ds.length<=100000)(hm:es.length<=100000):
 ∃ (a:ae) (w':I),Sem.run ai (Builtin.append_ #[181,181] 181 #[s,x]) w=.ok a w'/\dd (λq=>B q\/C q\/w.heap.size<=q) w' a (ds++es)/\af (aB s) w w':=by
 have i:=dd.len hx;obtain⟨h1,d⟩:=c;have j:s.len=ds.length:=by have:=h1.1;rw[s7]at this;omega
 obtain⟨a,w',aG,aM,l,e,f⟩:=vj.append (df:=181) hx.1 h1 (Fo es) J;refine⟨a,w',aG,⟨?_,aM.2.1,?_⟩,e⟩
 .have:gJ ds++gJ es=gJ (ds++es):=by simp[gJ]
  rw[this]at aM;exact aM.src
 .intro k b
  refine⟨?_,aM.lt k b⟩;rcases f k b with h|h
  .exact .inl (d k h).1
  .exact .inr (.inr h)
theorem K7{wp az wb aA:I}{lo pa d bD P:Nat}{key R r o X Z ab:ae}{w dv:I}{a b:aK}{s:Key}{b2 cn bP C:Nat->Prop}{aC:O Y}(a9:dv.cell? pa=some (.bool a.leaf))
 (ar:Var dv d [a.leaf,R,r,o] 397) (aD:Var dv bD [b.leaf,X,Z,ab] 397)
 (j:gX lo dv a R r o b2 cn bP) (a_:cr C dv b X Z ab) (g:∀q,C q->lo<=q/\q<dv.heap.size/\q≠d/\q≠bD/\¬b2 q/\¬cn q/\¬bP q) (A:∀q,b2 q\/cn q\/bP q->q≠d/\q≠bD) (la:lo<=d) (lb:lo<=bD) (ac:d≠bD)
 (ba:Var dv P aC 397) (bb:aC.length=4) (bS:P<lo) (bc:w.heap.size<=P) (t:Src 1 dv key (ax s)) (bT:s.length<=1000) (be:Ext w dv) (hs:cV (dW a s b)) (aH:a.leaf=b.leaf) (ai:cV a) (sb:cV b)
 (cw:a.keys.length<=10000) (bB:b.keys.length<=10000) (bf:wp.heap.size=pa) (bg:az.heap.size=d) (bh:wb.heap.size=bD) (bi:aA.heap.size=P):aa.BA wp az wb aA key dv (qJ (dW a s b) w):=by
 (delta aa.BA w9 aS ad ah bC dI eU aR bn ap st aE bF bH rV uz nM uA;dsimp only);rw[bf,bg,bh,bi];have bU:=ar.lt;have bV:=aD.lt;have aI:∀ {n:aK},cV n->n.keys.length<=10000->n.vals.length<=10000/\n.kids.length<=10001:=λ{n} h1 f=>by
  rcases h1 with h1|h1
  .rw[h1.len,h1.kids];exact⟨f,c8 _⟩
  .rw[h1.len,h1.vals];exact⟨c8 _,J⟩
 obtain⟨bW,bX⟩:=aI ai cw;obtain⟨jE,bY⟩:=aI sb bB;have aJ:iZ lo dv d a R r o b2 cn bP:=⟨ar,j.keys,j.vals,j.kids,λq c=>⟨(j.b7 q c).1,(j.b7 q c).2.1,(A q (.inl c)).1,(j.b7 q c).2.2⟩,λq c=>⟨(j.bv q c).1,(j.bv q c).2.1,(A q (.inr (.inl c))).1,(j.bv q c).2.2⟩,λq c=>⟨(j.bq q c).1,(j.bq q c).2,(A q (.inr (.inr c))).1⟩,la⟩;refine k3 (λw'=>∃ (K:ae) (S:Nat->Prop),iZ lo w' d ⟨a.leaf,if a.leaf then a.keys else a.keys++ [s],a.vals,a.kids⟩ K r o S cn bP/\af (λq=>q=d\/b2 q) dv w'/\(∀q,S q->b2 q\/dv.heap.size<=q)) (λq c=>⟨_,a9,λhb=>?_,λhb=>c _ ⟨R,b2,?_,.refl _ _,λq h=>.inl h⟩⟩) ?_
 .have hb:a.leaf=false:=by simpa using hb
  refine Ce aJ t J J λw' bj S h1 f F=>c _ ⟨bj,S,?_,f,F⟩;rw[if_neg (by rw[hb];simp)];exact h1
 .have hb:a.leaf=true:=by simpa using hb
  rw[if_pos hb];exact aJ
 rintro w1 ⟨fX,aj,h1,G,aL⟩;have bZ:=G.size;have aN:=aD.ak G (by
  rintro(h|h)
  .exact ac h.symm
  .exact(A _ (.inl h)).2 rfl)
 have aP:=a_.ak G λq c h=>by
  have:=g q c;rcases h with h|h
  .exact this.2.2.1 h
  .exact this.2.2.2.2.1 h
 have bk:=ba.ak G (by
  rintro(h|h)
  .omega
  .have:=(j.b7 _ h).1;omega)
 have bl:Ext w w1:=Ext.ee be G λq c=>by
  rcases c with h|h
  .omega
  .have:=(j.b7 _ h).1;omega
 obtain⟨H,T⟩:∃l,l=(if a.leaf then a.keys else a.keys++ [s]):=⟨_,rfl⟩;rw[←T]at h1;have b0:H.length<=10001:=by
  rw[T];split
  .omega
  .rw[cT];simp;omega
 obtain⟨cu,bd,bo,bA⟩:=cl h1.v;obtain⟨d0,d1,d2,d3⟩:=cl aN;have u:∀q,aB fX q->aj q:=λk t=>by obtain⟨ts,_,_,F,_⟩:=h1.keys;exact(F k t).1
 have al:∀q,aB r q->cn q:=λk t=>by obtain⟨ts,_,_,F,_⟩:=h1.vals;exact(F k t).1
 have aQ:∀q,aB o q->bP q:=λk t=>(h1.kids.2 k t).1;have aT:∀q,C q->¬aB fX q:=λq c h=>by
  rcases aL q (u q h) with f|f
  .exact(g q c).2.2.2.2.1 f
  .have:=(g q c).2.1;omega
 obtain⟨e9,ag,aG,aM,p⟩:=Ch h1.keys aP.keys aT (by show H.length<=_;omega) J;have aU:=h1.v.ak p λh=>(h1.b7 _ (u _ h)).2.2.1 rfl;obtain⟨L,M⟩:=eP aU (i:=1) (by simp);refine⟨fX,bd,X,d1,e9,ag,aG,?_⟩;rw[aw,aw];refine⟨L,M,aO ?_⟩;obtain⟨m,am⟩:∃m,m=ag.setCell ⟨d,0+1,none⟩ e9:=⟨_,rfl⟩;rw[←am];have aV:af (λq=>q=d) ag m:=by rw[am];exact dX _ _ _ _
 have aW:Var m d [a.leaf,e9,r,o] 397:=by rw[am];exact eO aU _
 have x:af (λq=>q=d\/aB fX q) w1 m:=(p.mono λq _ h=>.inr h).trans (aV.mono λq _ h=>.inl h);have aX:=aN.ak x (by
  rintro(h|h)
  .exact ac h.symm
  .rcases aL _ (u _ h) with f|f
   .exact(A _ (.inl f)).2 rfl
   .omega)
 have aY:=aP.ak x λq c h=>by
  rcases h with h|h
  .exact(g q c).2.2.1 h
  .exact aT q c h
 have bm:=bQ.ak h1.vals x λq c h=>by
  rcases h with h|h
  .exact(h1.bv q c).2.2.1 h
  .exact(h1.b7 q (u q h)).2.2.2.1 c
 have bp:=c6.ak h1.kids x λq c h=>by
  rcases h with h|h
  .exact(h1.bq q c).2.2 h
  .exact(h1.b7 q (u q h)).2.2.2.2 c
 have br:=bk.ak x (by
  rintro(h|h)
  .omega
  .have:=(h1.b7 _ (u _ h)).1;omega)
 have bs:Ext w m:=Ext.ee bl x λq c=>by
  rcases c with h|h
  .omega
  .have:=(h1.b7 _ (u _ h)).1;omega
 have bt:b6 (λq=>(aj q\/C q\/w1.heap.size<=q)/\q≠d) m e9 (H++b.keys):=by
  have an:b6 (λq=>(aj q\/C q\/w1.heap.size<=q)/\q≠d) ag e9 (H++b.keys):=b6.bG aM λq _ c=>⟨c,by
   rcases c with h|h|h
   .exact(h1.b7 _ h).2.2.1
   .exact(g _ h).2.2.1
   .omega⟩
  exact b6.ak an aV λq c h=>c.2 h
 obtain⟨cu,bd,bo,bA⟩:=cl aW;obtain⟨d0,d1,d2,d3⟩:=cl aX;have b1:=x.size
 obtain⟨ep,U,aG,aM,p⟩:=Ch bm aY.vals (λq c h=>(g q c).2.2.2.2.2.1 (al q h)) (by show a.vals.length<=_;omega) J;have aZ:=aW.ak p λh=>(h1.bv _ (al _ h)).2.2.1 rfl;obtain⟨L,M⟩:=eP aZ (i:=2) (by simp);rw[aw]at bo d2;refine⟨r,bo,Z,d2,ep,U,aG,?_⟩;rw[aw,aw];refine⟨L,M,aO ?_⟩;obtain⟨aF,ao⟩:∃aF,aF=U.setCell ⟨d,0+2,none⟩ ep:=⟨_,rfl⟩;rw[←ao];have a0:af (λq=>q=d) U aF:=by rw[ao];exact dX _ _ _ _
 have a1:Var aF d [a.leaf,e9,ep,o] 397:=by rw[ao];exact eO aZ _
 have y:af (λq=>q=d\/cn q) m aF:=(p.mono λq _ h=>.inr (al q h)).trans (a0.mono λq _ h=>.inl h);have bu:=aX.ak y (by
  rintro(h|h)
  .exact ac h.symm
  .exact(A _ (.inr (.inl h))).2 rfl)
 have bw:=aY.ak y λq c h=>by
  rcases h with h|h
  .exact(g q c).2.2.1 h
  .exact(g q c).2.2.2.2.2.1 h
 have bx:=b6.ak bt y λq c h=>by
  rcases h with h|h
  .exact c.2 h
  .rcases c.1 with f|f|f
   .exact(h1.b7 _ f).2.2.2.1 h
   .exact(g _ f).2.2.2.2.2.1 h
   .have:=(h1.bv _ h).2.1;omega
 have bz:=c6.ak bp y λq c h=>by
  rcases h with h|h
  .exact(h1.bq q c).2.2 h
  .exact(h1.bv q h).2.2.2 c
 have bE:=br.ak y (by
  rintro(h|h)
  .omega
  .have:=(h1.bv _ h).1;omega)
 have bI:Ext w aF:=Ext.ee bs y λq c=>by
  rcases c with h|h
  .omega
  .have:=(h1.bv _ h).1;omega
 have bJ:b6 (λq=>(cn q\/C q\/m.heap.size<=q)/\q≠d) aF ep (a.vals++b.vals):=by
  have an:b6 (λq=>(cn q\/C q\/m.heap.size<=q)/\q≠d) U ep (a.vals++b.vals):=b6.bG aM λq _ c=>⟨c,by
   rcases c with h|h|h
   .exact(h1.bv _ h).2.2.1
   .exact(g _ h).2.2.1
   .omega⟩
  exact b6.ak an a0 λq c h=>c.2 h
 obtain⟨cu,bd,bo,bA⟩:=cl a1;obtain⟨d0,d1,d2,d3⟩:=cl bu;have b3:=y.size
 obtain⟨lk,aq,aG,aM,p⟩:=FL bz bw.kids (by show a.kids.length<=_;omega) J;have a2:=a1.ak p λh=>(h1.bq _ (aQ _ h)).2.2 rfl;obtain⟨L,M⟩:=eP a2 (i:=3) (by simp);rw[aw]at bA d3;refine⟨o,bA,ab,d3,lk,aq,aG,?_⟩;rw[aw,aw];refine⟨L,M,aO ?_⟩;obtain⟨z,au⟩:∃z,z=aq.setCell ⟨d,0+3,none⟩ lk:=⟨_,rfl⟩;rw[←au];have a3:af (λq=>q=d) aq z:=by rw[au];exact dX _ _ _ _
 have a4:Var z d [a.leaf,e9,ep,lk] 397:=by rw[au];exact eO a2 _
 have N:af (λq=>q=d\/bP q) aF z:=(p.mono λq _ h=>.inr (aQ q h)).trans (a3.mono λq _ h=>.inl h);have bK:=b6.ak bx N λq c h=>by
  rcases h with h|h
  .exact c.2 h
  .rcases c.1 with f|f|f
   .exact(h1.b7 _ f).2.2.2.2 h
   .exact(g _ f).2.2.2.2.2.2 h
   .have:=(h1.bq _ h).2.1;omega
 have bL:=b6.ak bJ N λq c h=>by
  rcases h with h|h
  .exact c.2 h
  .rcases c.1 with f|f|f
   .exact(h1.bv _ f).2.2.2 h
   .exact(g _ f).2.2.2.2.2.2 h
   .have:=(h1.bq _ h).2.1;omega
 have bM:=bE.ak N (by
  rintro(h|h)
  .omega
  .have:=(h1.bq _ h).1;omega)
 have bO:Ext w z:=Ext.ee bI N λq c=>by
  rcases c with h|h
  .omega
  .have:=(h1.bq _ h).1;omega
 have b4:=N.size;have a5:cr (λq=>lo<=q) z (dW a s b) e9 ep lk:=by
  have mG:dW a s b=⟨a.leaf,H++b.keys,a.vals++b.vals,a.kids++b.kids⟩:=by
   unfold dW
   cases E:a.leaf with
   |true=>
    have av:a.kids=[]:=by
     rcases ai with h|h
     .exact h.kids
     .have:=h.inner;rw[E]at this;cases this
    have kb:b.kids=[]:=by
     rcases sb with h|h
     .exact h.kids
     .have:=h.inner;rw[←aH,E]at this;cases this
    rw[T,E,av,kb];simp
   |false=>
    have av:a.vals=[]:=by
     rcases ai with h|h
     .have:=h.leaf;rw[E]at this;cases this
     .exact h.vals
    have kb:b.vals=[]:=by
     rcases sb with h|h
     .have:=h.leaf;rw[←aH,E]at this;cases this
     .exact h.vals
    rw[T,E,av,kb];simp
  rw[mG];refine⟨b6.bG bK λq _ c=>?_,b6.bG bL λq _ c=>?_,dd.bG (dd.ak (B:=λq=>(bP q\/C q\/aF.heap.size<=q)/\q≠d) (dd.bG aM λq _ c=>⟨c,?_⟩) a3 λq c h=>c.2 h) λq _ c=>?_⟩
  .rcases c.1 with h|h|h
   .exact(h1.b7 _ h).1
   .exact(g _ h).1
   .omega
  .rcases c.1 with h|h|h
   .exact(h1.bv _ h).1
   .exact(g _ h).1
   .omega
  .rcases c with h|h|h
   .exact(h1.bq _ h).2.2
   .exact(g _ h).2.2.1
   .omega
  .rcases c.1 with h|h|h
   .exact(h1.bq _ h).1
   .exact(g _ h).1
   .omega
 obtain⟨cu,bd,bo,bA⟩:=cl a4;rw[aw]at bd bo bA;have b5:(dW a s b).keys.length<=20001:=by
  unfold dW;split
  .show(a.keys++b.keys).length<=_;rw[cT];omega
  .show(a.keys++s::b.keys).length<=_;rw[cT,iR];omega
 have b8:(dW a s b).vals.length<=20001:=by
  unfold dW;split
  .show(a.vals++b.vals).length<=_;rw[cT];omega
  .simp
 have b9:(dW a s b).kids.length<=20002:=by
  unfold dW;split
  .simp
  .show(a.kids++b.kids).length<=_;rw[cT];omega
 have a6:(dW a s b).leaf=a.leaf:=E9
 repeat rw[aw]
 refine⟨_,cu,e9,bd,ep,bo,lk,bA,?_⟩;have ay:=lS a5 J J J;unfold dT at ay;rw[a6]at ay;refine ay.use ?_;rintro _ b_ ⟨ca,rfl,bR,W⟩;have:=bR.2 hs;subst this;obtain⟨cu,bd,bo,bA⟩:=cl (a4.ext W);rw[aw]at bd bo bA;have a7:=kE a.leaf e9 ep lk (bM.ext W) bb (Q:=λb' K V D ag=>qJ (dW a s b) w (.tuple #[.agg #[b',K,V,D],true]) ag) λcb a8=>⟨e9,ep,lk,by unfold dT;rw[a6],((a5.ext W).ak a8 λq c e=>J).bG λq _ c=>J,Ext.bN (bO.trans W) a8 bc⟩
 repeat rw[aw]at a7
 exact⟨true,rfl,λh=>(by cases h),λ_=>⟨_,cu,e9,bd,ep,bo,lk,bA,a7⟩⟩
theorem qp{bb bc:Nat->Prop}{w:I}{a b:aK}{S T U V W X key:ae}{s:Key}(aW:cr bb w a S T U)(hb:cr bc w b V W X)(N:Src 1 w key (ax s))(be:∀q,aB key q->q<w.heap.size)(bf:s.length<=1000)(am:cV a)(sb:cV b)(aX:a.leaf=b.leaf)(hs:cV (dW a s b))
 (cw:a.keys.length<=10000) (bB:b.keys.length<=10000):
 aC ai 343 #[dT a S T U,key,dT b V W X] w (qJ (dW a s b) w):=by
 have aY:∀ {n:aK},cV n->n.keys.length<=10000->n.vals.length<=10000/\n.kids.length<=10001:=λ{n} h1 aJ=>by
  rcases h1 with h1|h1
  .rw[h1.len,h1.kids];exact⟨aJ,c8 _⟩
  .rw[h1.len,h1.vals];exact⟨c8 _,J⟩
 obtain⟨bI,bJ⟩:=aY am cw;obtain⟨jE,bK⟩:=aY sb bB;have aq:∀k∈a.keys,k.length<=100000:=λk N=>by have:=(am.keys.ok k N).2;omega
 have z:∀k∈b.keys,k.length<=100000:=λk N=>by have:=(sb.keys.ok k N).2;omega
 have ar:∀k∈a.vals,k.length<=100000:=λk N=>by have:=am.vals k N;omega
 have A:∀k∈b.vals,k.length<=100000:=λk N=>by have:=sb.vals k N;omega
 refine okF (aa.qp a.leaf S T U key b.leaf V W X) ao.qp func343 ?_;(delta aa.qp c0 aS ad aE aR bF ah xc bH rV uz bC hN cq w9 dI eU bn ap st uA p0;dsimp only);refine aN (vs:=[a.leaf,S,T,U]) rfl λw1 aL bg bL=>?_;refine aN (vs:=[b.leaf,V,W,X]) rfl λag aM az bM=>?_;refine aN (vs:=[false,(),(),()]) rfl λbh bi Y bN=>?_;have aZ:=bg.trans (az.trans Y);obtain⟨cu,bd,bo,bA⟩:=cl (aL.ext (az.trans Y));refine⟨_,cu,S,bd,T,bo,U,bA,(lS (aW.ext aZ) J J J).use ?_⟩;rintro _ bj ⟨bz,rfl,bk,Q⟩;have:=bk.2 am;subst this;have a0:=aZ.trans Q;obtain⟨d0,d1,d2,d3⟩:=cl (aM.ext (Y.trans Q));refine⟨true,rfl,cc (λb w'=>b=false/\Ext bj w') (λq p=>⟨λh=>(by cases h),λ_=>⟨_,d0,V,d1,W,d2,X,d3,(lS (hb.ext a0) J J J).use ?_⟩⟩) ?_⟩
 .rintro _ aF ⟨cf,rfl,bl,O⟩
  have:=bl.2 sb;subst this;exact⟨true,rfl,p _ _ ⟨rfl,O⟩⟩
 rintro _ aF ⟨rfl,O⟩;have bm:=a0.trans O;obtain⟨cu,bd,bo,bA⟩:=cl (aL.ext (az.trans (Y.trans (Q.trans O))));obtain⟨d0,d1,d2,d3⟩:=cl (aM.ext (Y.trans (Q.trans O)));refine cc (λb w'=>b=false/\aF=w') (λq p=>⟨λh=>(by cases h),λ_=>⟨_,cu,_,d0,p _ _ ⟨by rw[aX];simp,rfl⟩⟩⟩) ?_;rintro _ _ ⟨rfl,rfl⟩;have au:=b1 aF;have a1:=bm.trans au;obtain⟨x,Z⟩:∃x,x=aF.drew:=⟨_,rfl⟩;have a2:Var x w.heap.size [a.leaf,S,T,U] 397:=by rw[Z];exact(aL.ext (az.trans (Y.trans (Q.trans O)))).ext au
 have bp:Var x w1.heap.size [b.leaf,V,W,X] 397:=by rw[Z];exact(aM.ext (Y.trans (Q.trans O))).ext au
 have br:Var x ag.heap.size [false,(),(),()] 397:=by rw[Z];exact(bi.ext (Q.trans O)).ext au
 have av:Ext w x:=by rw[Z];exact a1
 have bO:bh.heap.size<=x.heap.size:=by rw[Z];exact(Q.trans O).size
 have aw:=aW.ext av;have B:=hb.ext av;have bs:=N.ext av;obtain⟨lo,bP⟩:∃lo,lo=x.heap.size:=⟨_,rfl⟩;rw[←Z];clear cu bd bo bA d0 d1 d2 d3 Z a1 au;have fin:∀ {la lb y bD:Nat}{R aj r aP jn:I}{t u v i j l:ae}{aQ aT aU a3 a4 a5:Nat->Prop},gX la R a t u v aQ aT aU->gX lb aj b i j l a3 a4 a5->Ext R r->Ext aj r->Ext x r->
  Var r y [false,(),(),()] 397->Var r bD [false,(),(),()] 397->
  (x.heap.size<=la/\la<=R.heap.size/\R.heap.size<=lb/\x.heap.size<=y/\x.heap.size<=bD/\y≠bD/\(y<la\/R.heap.size<=y)/\(bD<la\/R.heap.size<=bD)/\(y<lb\/aj.heap.size<=y)/\(bD<lb\/aj.heap.size<=bD))->aP.heap.size=y->jn.heap.size=bD->
  b_ r y [a.leaf,t,u,v]/\(4:Nat)=4/\an (setCells r y 0 [a.leaf,t,u,v]) λaV=>
   b_ aV bD [b.leaf,i,j,l]/\(4:Nat)=4/\an (setCells aV bD 0 [b.leaf,i,j,l]) λaD=>aa.BA w aP jn ag key aD (qJ (dW a s b) w):=by
  intro la lb y bD R aj r aP jn t u v i j l aQ aT aU a3 a4 a5 o m a6 a7 g a8 bt bQ bu bw;have fQ:=a6.size;have hO:=a7.size;have z3:=g.size;refine⟨a8.bX rfl (qK _ _ _ _),rfl,cA a8 (us:=[a.leaf,t,u,v]) rfl rfl λaV bx g_ t5=>?_⟩;have a9:=bt.ak g_ J;refine⟨a9.bX rfl (qK _ _ _ _),rfl,cA a9 (us:=[b.leaf,i,j,l]) rfl rfl λaD bE a_ t6=>?_⟩;have ab:af (λq=>q=y\/q=bD) r aD:=(g_.mono λq _ h=>.inl h).trans (a_.mono λq _ h=>.inr h);have ay:∀q,aQ q\/aT q\/aU q->la<=q/\q<R.heap.size:=λq p=>by
   rcases p with p|p|p
   .exact⟨(o.b7 q p).1,(o.b7 q p).2.1⟩
   .exact⟨(o.bv q p).1,(o.bv q p).2.1⟩
   .exact o.bq q p
  have sz:=ab.size;exact K7 (lo:=lo) (dv:=aD) (C:=λq=>lb<=q/\q<aj.heap.size) ((a2.ext g).ak ab J).cell (bx.ak a_ J) bE (((o.ext a6).ak ab λq _ _ p e=>by have:=ay q p;omega).low J)
   (((m.at.bG λq h1 aJ=>⟨aJ,h1⟩).ext a7).ak ab λq p e=>J) (λq p=>⟨J,J,J,J,λh=>(by have:=ay q (.inl h);omega),λh=>(by have:=ay q (.inr (.inl h));omega),λh=>(by have:=ay q (.inr (.inr h));omega)⟩) (λq p=>(by have:=ay q p;exact⟨J,J⟩)) J J J
   ((br.ext g).ak ab J) rfl J J ((bs.ext g).ak ab λq p e=>(by have:=be q p;have:=av.size;omega)) bf (Ext.ee (av.trans g) ab λq p=>J) hs aX am sb cw bB rfl bu bw rfl
 obtain⟨cu,bd,bo,bA⟩:=cl a2;obtain⟨d0,d1,d2,d3⟩:=cl bp;refine⟨λh=>(by cases h),λ_=>aO ⟨λ_=>False,id,_,cu,S,bd,T,bo,U,bA,id,_,d0,V,d1,W,d2,X,d3,?_⟩⟩;refine⟨?_,?_,?_⟩
 .refine(gy aw J J J aq ar).use ?_
  rintro _ ba ⟨t,u,v,aG,aH,aI,rfl,o,aA⟩;refine⟨_,t,u,v,rfl,aA,?_⟩;have s1:=aA.size;refine⟨?_,?_,?_⟩
  .refine(gy (B.ext aA) J J J z A).use ?_
   rintro _ al ⟨i,j,l,K,L,M,rfl,m,f⟩;refine⟨_,i,j,l,rfl,f,?_⟩;have s2:=f.size;refine⟨?_,?_⟩
   .refine aN (vs:=[false,(),(),()]) rfl λD E d z3=>⟨d,?_⟩
    have F:=d.size;refine aN (vs:=[false,(),(),()]) rfl λr G c z4=>⟨c,?_⟩;have H:=c.size;exact fin o m (f.trans (d.trans (c))) (d.trans (c)) (aA.trans (f.trans (d.trans c))) (E.ext c) (G) J rfl rfl
   .refine aN (vs:=[false,(),(),()]) rfl λD E d z3=>⟨d,?_⟩
    have F:=d.size;refine aN (vs:=[false,(),(),()]) rfl λr G c z4=>⟨c,?_⟩;have H:=c.size;exact fin o m (f.trans (d.trans (c))) (d.trans (c)) (aA.trans (f.trans (d.trans c))) (G) (E.ext c) J rfl rfl
  .refine aN (vs:=[false,(),(),()]) rfl λal P f hO=>⟨f,?_⟩
   have s2:=f.size;refine⟨?_,?_⟩
   .refine(gy (B.ext (aA.trans (f))) J J J z A).use ?_
    rintro _ D ⟨i,j,l,K,L,M,rfl,m,d⟩;refine⟨_,i,j,l,rfl,d,?_⟩;have F:=d.size;refine aN (vs:=[false,(),(),()]) rfl λr G c z4=>⟨c,?_⟩;have H:=c.size;exact fin o m (f.trans (d.trans (c))) (c) (aA.trans (f.trans (d.trans c))) (P.ext (d.trans (c))) (G) J rfl rfl
   .refine aN (vs:=[false,(),(),()]) rfl λD E d z3=>⟨d,?_⟩
    have F:=d.size;refine(gy (B.ext (aA.trans (f.trans (d)))) J J J z A).use ?_;rintro _ r ⟨i,j,l,K,L,M,rfl,m,c⟩;refine⟨_,i,j,l,rfl,c,?_⟩;have H:=c.size;exact fin o m (f.trans (d.trans (c))) ((af.refl _ _)) (aA.trans (f.trans (d.trans c))) (P.ext (d.trans (c))) (E.ext c) J rfl rfl
  .refine aN (vs:=[false,(),(),()]) rfl λal P f hO=>⟨f,?_⟩
   have s2:=f.size;refine⟨?_,?_⟩
   .refine(gy (B.ext (aA.trans (f))) J J J z A).use ?_
    rintro _ D ⟨i,j,l,K,L,M,rfl,m,d⟩;refine⟨_,i,j,l,rfl,d,?_⟩;have F:=d.size;refine aN (vs:=[false,(),(),()]) rfl λr G c z4=>⟨c,?_⟩;have H:=c.size;exact fin o m (f.trans (d.trans (c))) (c) (aA.trans (f.trans (d.trans c))) (G) (P.ext (d.trans (c))) J rfl rfl
   .refine aN (vs:=[false,(),(),()]) rfl λD E d z3=>⟨d,?_⟩
    have F:=d.size;refine(gy (B.ext (aA.trans (f.trans (d)))) J J J z A).use ?_;rintro _ r ⟨i,j,l,K,L,M,rfl,m,c⟩;refine⟨_,i,j,l,rfl,c,?_⟩;have H:=c.size;exact fin o m (f.trans (d.trans (c))) ((af.refl _ _)) (aA.trans (f.trans (d.trans c))) (E.ext c) (P.ext (d.trans (c))) J rfl rfl
 .refine aN (vs:=[false,(),(),()]) rfl λba ac aA fQ=>⟨aA,?_⟩
  have s1:=aA.size;refine⟨?_,?_⟩
  .refine(gy (aw.ext aA) J J J aq ar).use ?_
   rintro _ al ⟨t,u,v,aG,aH,aI,rfl,o,f⟩;refine⟨_,t,u,v,rfl,f,?_⟩;have s2:=f.size;refine⟨?_,?_⟩
   .refine(gy (B.ext (aA.trans (f))) J J J z A).use ?_
    rintro _ D ⟨i,j,l,K,L,M,rfl,m,d⟩;refine⟨_,i,j,l,rfl,d,?_⟩;have F:=d.size;refine aN (vs:=[false,(),(),()]) rfl λr G c z4=>⟨c,?_⟩;have H:=c.size;exact fin o m (d.trans (c)) (c) (aA.trans (f.trans (d.trans c))) (ac.ext (f.trans (d.trans (c)))) (G) J rfl rfl
   .refine aN (vs:=[false,(),(),()]) rfl λD E d z3=>⟨d,?_⟩
    have F:=d.size;refine(gy (B.ext (aA.trans (f.trans (d)))) J J J z A).use ?_;rintro _ r ⟨i,j,l,K,L,M,rfl,m,c⟩;refine⟨_,i,j,l,rfl,c,?_⟩;have H:=c.size;exact fin o m (d.trans (c)) ((af.refl _ _)) (aA.trans (f.trans (d.trans c))) (ac.ext (f.trans (d.trans (c)))) (E.ext c) J rfl rfl
  .refine aN (vs:=[false,(),(),()]) rfl λal P f hO=>⟨f,?_⟩
   have s2:=f.size;refine(gy (aw.ext (aA.trans (f))) J J J aq ar).use ?_;rintro _ D ⟨t,u,v,aG,aH,aI,rfl,o,d⟩;refine⟨_,t,u,v,rfl,d,?_⟩;have F:=d.size;refine(gy (B.ext (aA.trans (f.trans (d)))) J J J z A).use ?_;rintro _ r ⟨i,j,l,K,L,M,rfl,m,c⟩;refine⟨_,i,j,l,rfl,c,?_⟩;have H:=c.size;exact fin o m (c) ((af.refl _ _)) (aA.trans (f.trans (d.trans c))) (ac.ext (f.trans (d.trans (c)))) (P.ext (d.trans (c))) J rfl rfl
 .refine aN (vs:=[false,(),(),()]) rfl λba ac aA fQ=>⟨aA,?_⟩
  have s1:=aA.size;refine⟨?_,?_⟩
  .refine(gy (aw.ext aA) J J J aq ar).use ?_
   rintro _ al ⟨t,u,v,aG,aH,aI,rfl,o,f⟩;refine⟨_,t,u,v,rfl,f,?_⟩;have s2:=f.size;refine⟨?_,?_⟩
   .refine(gy (B.ext (aA.trans (f))) J J J z A).use ?_
    rintro _ D ⟨i,j,l,K,L,M,rfl,m,d⟩;refine⟨_,i,j,l,rfl,d,?_⟩;have F:=d.size;refine aN (vs:=[false,(),(),()]) rfl λr G c z4=>⟨c,?_⟩;have H:=c.size;exact fin o m (d.trans (c)) (c) (aA.trans (f.trans (d.trans c))) (G) (ac.ext (f.trans (d.trans (c)))) J rfl rfl
   .refine aN (vs:=[false,(),(),()]) rfl λD E d z3=>⟨d,?_⟩
    have F:=d.size;refine(gy (B.ext (aA.trans (f.trans (d)))) J J J z A).use ?_;rintro _ r ⟨i,j,l,K,L,M,rfl,m,c⟩;refine⟨_,i,j,l,rfl,c,?_⟩;have H:=c.size;exact fin o m (d.trans (c)) ((af.refl _ _)) (aA.trans (f.trans (d.trans c))) (E.ext c) (ac.ext (f.trans (d.trans (c)))) J rfl rfl
  .refine aN (vs:=[false,(),(),()]) rfl λal P f hO=>⟨f,?_⟩
   have s2:=f.size;refine(gy (aw.ext (aA.trans (f))) J J J aq ar).use ?_;rintro _ D ⟨t,u,v,aG,aH,aI,rfl,o,d⟩;refine⟨_,t,u,v,rfl,d,?_⟩;have F:=d.size;refine(gy (B.ext (aA.trans (f.trans (d)))) J J J z A).use ?_;rintro _ r ⟨i,j,l,K,L,M,rfl,m,c⟩;refine⟨_,i,j,l,rfl,c,?_⟩;have H:=c.size;exact fin o m (c) ((af.refl _ _)) (aA.trans (f.trans (d.trans c))) (P.ext (d.trans (c))) (ac.ext (f.trans (d.trans (c)))) J rfl rfl
section
variable {α:Type}{c:α->O Y}{sz:Nat}
def bt(c:α->O Y)(l:O α):O Y:=(l.map c).flatten
theorem vo(l m:O α):bt c (l++m)=bt c l++bt c m:=by simp[bt]
theorem vp(x:α)(l:O α):bt c (x::l)=c x++bt c l:=rfl
theorem jR:∀ (l:O α),(∀x∈l,(c x).length=sz)->(bt c l).length=l.length*sz
 | [],_=>by simp[bt]
 |x::l,h=>by
  rw[vp,cT,h x (by simp),jR l λy a=>h y (by simp[a]),iR,ku];omega
theorem K8{l:O α}{i:Nat}(h:i<l.length):l=l.take i++l[i]::l.drop (i+1):=by rw[←lG h,g2]
theorem Ci{l:O α}(hc:∀x∈l,(c x).length=sz){i:Nat}(h:i<l.length):(bt c l).take (i*sz)=bt c (l.take i)/\(bt c l).drop (i*sz)=c l[i]++bt c (l.drop (i+1)):=by
 have a:(bt c (l.take i)).length=i*sz:=by
  rw[jR _ λx hx=>hc x (gT hx),c9,iS J]
 have e:bt c l=bt c (l.take i)++(c l[i]++bt c (l.drop (i+1))):=by
  conv=>lhs;rw[K8 h]
  rw[vo,vp]
 rw[e];exact⟨nY a,drop_left' a⟩
theorem FM{l:O α}(hc:∀x∈l,(c x).length=sz){i:Nat}(h:i<l.length):((bt c l).drop (i*sz)).take sz=c l[i]:=by
 rw[(Ci hc h).2];exact nY (hc _ (c3 h))
theorem Cj{l:O α}(hc:∀x∈l,(c x).length=sz){i j:Nat}(h:i<l.length)(a:j<sz):(bt c l)[i*sz+j]? =(c l[i])[j]? :=by
 rw[←FM hc h,List.getElem?_take_of_lt a,vT]
theorem FN{l:O α}(hc:∀x∈l,(c x).length=sz){i:Nat}(h:i<l.length)(x:α):(bt c l).take (i*sz)++c x++(bt c l).drop (i*sz+sz)=bt c (l.set i x):=by
 have h1:=Ci hc h;have a:(bt c l).drop (i*sz+sz)=bt c (l.drop (i+1)):=by
  rw[←mb,h1.2];exact drop_left' (hc _ (c3 h))
 rw[h1.1,a,List.set_eq_take_append_cons_drop,if_pos h,vo,vp,c_]
theorem K9{l:O α}(hc:∀x∈l,(c x).length=sz){i j:Nat}(h:i<l.length)(a:j<sz){x:α}{v:Y}(hx:c x=(c l[i]).set j v):(bt c l).set (i*sz+j) v=bt c (l.set i x):=by
 have b:(c l[i]).length=sz:=hc _ (c3 h);have h1:=Ci hc h;have e:bt c l=bt c (l.take i)++(c l[i]++bt c (l.drop (i+1))):=by
  conv=>lhs;rw[←g2 (i*sz) (bt c l),h1.1,h1.2]
 have d:(bt c (l.take i)).length=i*sz:=by
  rw[jR _ λx hx=>hc x (gT hx),c9,iS J]
 rw[e,wc _ _ J,show i*sz+j-(bt c (l.take i)).length=j from J,List.set_append_left _ _ J,←hx,List.set_eq_take_append_cons_drop,if_pos h,vo,vp]
end
section
variable {α:Type} [DecidableEq α] {P:Program}{w:I}{gL k6 T:TypeId}{enc:α->Y}{r:Nat}{M:O (α×Y)}{k:α}{v:Y}
theorem K_(e:jf P gL enc)(i:P.underlying T=some (.map gL k6))(h:dc w r enc M)(hm:∀v,(k,v)∉M)(v:Y):
 ∃w1:I,(Instr.mapUpdate T (.map (some r)) (enc k) v).run P w=.ok () w1/\af (λq=>q=r) w w1/\w1.heap.size=w.heap.size/\dc w1 r enc ((k,v)::M):=by
 have aJ:=h.lt;obtain⟨L,c,h,h1,j,l,f⟩:=h;have g:=AZ h1 hm;have hf:=e.find L k w;rw[wS g]at hf;refine⟨iI w r (.map ((L.map (di enc)).toArray.push ⟨enc k,v,c⟩) (c+1)),?_,pX _ _ _,rN _ _ _,L++ [(k,v,c)],c+1,?_,?_,?_,?_,?_⟩
 .simp only[Instr.mapUpdate,Sem.run_bind,db i,Result.andThen,lO h,Sem.run_pure,e.check,hf,uu h]
 .rw[rO aJ]
  simp[di]
 .rw[e_]
  have:([(k,v,c)]:O (α×Y×Nat)).map nG=[(k,v)]:=rfl;rw[this];exact(tK).trans (List.Perm.cons _ h1)
 .rw[e_,ri]
  refine⟨j,by simp,λa d b hb=>?_⟩;obtain⟨x,hx,rfl⟩:=ew.1 d;simp only[gu,List.map_nil,ej]at hb;subst hb;exact g x hx
 .rw[e_,ri]
  refine⟨l,by simp,λa d b hb=>?_⟩;obtain⟨x,hx,rfl⟩:=ew.1 d;simp only[gu,List.map_nil,ej]at hb;subst hb;have:=f x hx;omega
 .intro x hx
  rcases cS.1 hx with hx|hx
  .have:=f x hx;omega
  .rw[ej.1 hx];show c<c+1;omega
theorem La(c:jf P gL enc)(i:P.underlying T=some (.map gL k6))(h:dc w r enc ((k,v)::M))(b:Y):
 ∃w1:I,(Instr.mapUpdate T (.map (some r)) (enc k) b).run P w=.ok () w1/\af (λq=>q=r) w w1/\w1.heap.size=w.heap.size/\dc w1 r enc ((k,b)::M):=by
 have aJ:=h.lt;obtain⟨n,bp,bM,a,f,h,h1,g,j,d,_⟩:=h.split;have hf:=c.find (bp++(k,v,a)::bM) k w;rw[AY (Er g),cz]at hf;have hg:((bp++(k,v,a)::bM).map (di enc)).toArray[bp.length]? =some ⟨enc k,v,a⟩:=by simp[di]
 have l:((bp++(k,v,a)::bM).map (di enc)).toArray.modify bp.length (λe=>{e with key:=enc k,val:=b})=((bp++(k,b,a)::bM).map (di enc)).toArray:=by
  apply tE.1;rw[Array.toList_modify,e_,gu];have:=AX (λe=>{e with key:=enc k,val:=b}) (di enc (k,v,a)) (bM.map (di enc)) (bp.map (di enc));rw[dU]at this;rw[this];simp[di]
 refine⟨iI w r (.map ((bp++(k,b,a)::bM).map (di enc)).toArray f),?_,pX _ _ _,rN _ _ _,bp++(k,b,a)::bM,f,rO aJ _,?_,?_,?_,?_⟩
 .simp only[Instr.mapUpdate,Sem.run_bind,db i,Result.andThen,lO h,Sem.run_pure,c.check,hf,hg,mS,Option.getD_some,Instr.keyThatStays,c.bits,if_true,uu h,l]
 .rw[e_,gu]
  rw[e_]at h1;exact mT.trans (h1.cons _)
 .simpa using g
 .simpa using j
 .intro x hx
  rcases cS.1 hx with hx|hx
  .exact d x (by simp[hx])
  .rcases cY.1 hx with rfl|hx
   .exact d (k,v,a) (by simp)
   .exact d x (by simp[hx])
end
abbrev dA:=O UInt8
structure iN where
 i:Nat
 s:ae
 jo:O dA
structure br where
 d:Nat
 lb:Nat
 mr:Nat
 cE:O Int
 cd:O dA
 waits:O iN
 writes:Int
 bx:Nat
 cy:Nat->aj
 e7:Nat->O dA
 r1:aj
def iN.e(x:iN):Int×Y:=((x.i:Int),x.s)
def br.c(D:br):O Y:=D.cE.map (.int .i64)++ [.slice (some ⟨D.lb,0,none⟩) D.cd.length D.cd.length,.map (some D.mr),.int .i64 D.writes]
def br.n(D:br):Nat:=D.cd.length
abbrev encZ:Int->Y:=λn=>n
theorem s_:jf ai 3 encZ:=jf.int (by kernel_rfl)
theorem pd:Tryz.prog.underlying 215=some (.map 3 214):=by kernel_rfl
theorem FO:(Tryz.prog.info? 214).bind (·.zero)=some (.slice none 0 0):=by kernel_rfl
theorem zl{P:Program}{T:TypeId}{z:Y}(h:(P.info? T).bind (·.zero)=some z):∃i,P.info? T=some i/\i.zero=some z:=by
 cases hi:P.info? T with
 |none=>rw[hi]at h;cases h
 |some i=>rw[hi]at h;exact⟨i,rfl,h⟩
def cH(D:br)(q:Nat):Prop:=q=D.d\/q=D.lb\/q=D.mr\/∃x∈D.waits,aB x.s q
structure dw(w:I)(D:br):Prop where
 v:Var w D.d D.c 219
 l:bc w D.lb (bt ax D.cd).toArray 300
 m:dc w D.mr encZ (D.waits.map iN.e)
 ws:∀x∈D.waits,aT 256 300 w x.s (bt ax x.jo)
 wn:∀x∈D.waits,x.jo≠ []/\x.i<D.n/\x.jo.length<=D.bx
 sl:∀s∈D.cd,s.length=256
 c1:∀x∈D.waits,∀s∈x.jo,s.length=256
 cw:16<=D.n
 bB:D.n<=1600
 f4:D.cE.length=4
 fr:∀x∈D.cE, -1<=x/\x<=9223372036854775807
 a1:D.d≠D.lb/\D.d≠D.mr/\D.lb≠D.mr
 a2:∀x∈D.waits,¬aB x.s D.d/\¬aB x.s D.lb/\¬aB x.s D.mr
 a3:∀x∈D.waits,∀y∈D.waits,x.i≠y.i->∀q,aB x.s q->¬aB y.s q
 r:D.r1=true->D.cE.getD 1 0= -1
theorem Lb{cE:O Int}{k:Nat}{x:Int}(a:cE.length=4)(h:cE.getD 1 0= -1)(hx:k=1->x= -1):(cE.set k x).getD 1 0= -1:=by
 rw[g4]at h⊢;by_cases e:k=1
 .subst e
  rw[List.getElem?_set_self J,hx rfl];rfl
 .rw[List.getElem?_set_ne e];exact h
section
variable {w w':I}{D:br}
theorem dw.ak{W:Nat->Prop}(h:dw w D)(hc:af W w w')(a:∀q,cH D q->¬W q):dw w' D:=
 ⟨h.v.ak hc (a _ (.inl rfl)),bc.ak h.l hc (a _ (.inr (.inl rfl))),h.m.ak hc (a _ (.inr (.inr (.inl rfl)))),λx hx=>(h.ws x hx).ak hc λq b=>a q (.inr (.inr (.inr ⟨x,hx,b⟩))),h.wn,h.sl,h.c1,h.cw,h.bB,h.f4,h.fr,h.a1,h.a2,h.a3,h.r⟩
theorem dw.ext(h:dw w D)(hc:Ext w w'):dw w' D:=h.ak hc λ_ _ h=>h
theorem dw.lt(h:dw w D){q:Nat}(a:cH D q):q<w.heap.size:=by
 rcases a with rfl|rfl|rfl|⟨x,hx,a⟩
 .exact h.v.lt
 .exact bc.lt h.l
 .exact h.m.lt
 .exact(h.ws x hx).lt q a
theorem dw.Lc(h:dw w D){k:Nat}(a:k<4):w.cell? ⟨D.d,k,none⟩=some (.int .i64 (D.cE.getD k 0)):=by
 rw[h.v.cell];unfold br.c;have:=h.f4;rw[List.getElem?_append_left (by rw[dU];omega),oy,eJ J,gn J];rfl
theorem dw.fk(h:dw w D):w.cell? (Addr.add ⟨D.d,0,none⟩ 4)=some (.slice (some ⟨D.lb,0,none⟩) D.cd.length D.cd.length):=by
 rw[aw,h.v.cell];unfold br.c;have:=h.f4;rw[kY (by rw[dU];omega),dU,this];rfl
theorem dw.g_(h:dw w D):w.cell? (Addr.add ⟨D.d,0,none⟩ 5)=some (.map (some D.mr)):=by
 rw[aw,h.v.cell];unfold br.c;have:=h.f4;rw[kY (by rw[dU];omega),dU,this];rfl
theorem dw.Ck(h:dw w D):D.c.length=7:=by
 unfold br.c;have:=h.f4;simp;omega
def br.now(D:br)(i:Nat):dA:=match D.waits.find? λx=>x.i==i with
 |some x=>x.jo.getLastD []
 |none=>D.cd.getD i []
theorem Ld{α:Type}{l:O α}{d:α}(h:l≠ []):l.getLastD d∈l:=by
 cases l with
 |nil=>exact absurd rfl h
 |cons a l=>
  rw[List.getLastD_cons];rw[←List.getLast_eq_getLastD];exact List.getLast_mem h
theorem dw.vq(h:dw w D){i:Nat}(hi:i<D.n):(D.now i).length=256:=by
 unfold br.now
 cases hf:D.waits.find? λx=>x.i==i with
 |some x=>
  have hx:=j0 hf;exact h.c1 x hx _ (Ld (h.wn x hx).1)
 |none=>
  have a:i<D.cd.length:=hi;rw[show(match (none:aq iN) with|some x=>x.jo.getLastD []|none=>D.cd.getD i [])=D.cd.getD i [] from rfl,gn a];exact h.sl _ (c3 _)
theorem zm(h:dw w D):aC ai 92 #[.pointer (some D.d)] w (λv w'=>v=D.n/\w=w'):=by
 refine okF (aa.xO (some D.d)) ao.xO func92 ?_;(delta aa.xO ah ay aR;dsimp only);exact⟨λh=>(by cases h),λ_=>⟨_,rfl,⟨some D.lb,D.cd.length,D.cd.length⟩,h.fk,rfl,rfl⟩⟩
theorem FP(h:dw w D)(i:Int):aC ai 162 #[.pointer (some D.d),i] w (λv w'=>v=.bool (decide (0<=i/\i<D.n))/\w=w'):=by
 refine okF (aa.x6 (some D.d) i) ao.x6 func162 ?_;(delta aa.x6 ah ay aR;dsimp only);refine cc (λb w'=>b=decide (0<=i/\i<D.n)/\w=w') (λq a=>⟨λhb=>⟨_,rfl,⟨some D.lb,D.cd.length,D.cd.length⟩,h.fk,a _ _ ⟨?_,rfl⟩⟩,λhb=>a _ _ ⟨?_,rfl⟩⟩) ?_
 .have hb:0<=i:=by simpa using hb
  rw[fL,cX,cX];exact⟨λh=>⟨hb,h⟩,λh=>h.2⟩
 .have hb:¬0<=i:=by simpa using hb
  rw[im (λh=>hb h.1)]
 .rintro _ _ ⟨rfl,rfl⟩
  exact⟨rfl,rfl⟩
end
def hV(f:Int):aj×Int:=if f= -1 then (false, -1) else if f=0 then (true, -1) else (false,f-1)
theorem Le{f:Int}(h: -1<=f/\f<=9223372036854775807): -1<=(hV f).2/\(hV f).2<=9223372036854775807:=by
 unfold hV;split
 .exact⟨by decide,by decide⟩
 .split
  .exact⟨by decide,by decide⟩
  .show -1<=f-1/\f-1<=_;omega
def br.cR(D:br)(k:Nat):br:={D with cE:=D.cE.set k (hV (D.cE.getD k 0)).2}
def br.gR(D:br)(k:Nat):aj:=(hV (D.cE.getD k 0)).1
theorem Cl{w:I}{D:br}(h:dw w D){k:Nat}(o:k<4):
 aC ai 163 #[.pointer (some ⟨D.d,0,none⟩),.int .i64 ((k:Nat):Int)] w (λv w'=>v=.bool (D.gR k)/\dw w' (D.cR k)/\af (λq=>q=D.d) w w'/\w'.heap.size=w.heap.size):=by
 have hf:=h.Lc o;have f:=h.f4;have p: -1<=D.cE.getD k 0/\D.cE.getD k 0<=9223372036854775807:=by rw[gn J];exact h.fr _ (c3 _)
 have g:∀ (w1:I),dw w1 D->dw (w1.setCell ⟨D.d,k,none⟩ (.int .i64 (hV (D.cE.getD k 0)).2)) (D.cR k):=by
  intro w1 h1;have hc:=dX w1 D.d k (.int .i64 (hV (D.cE.getD k 0)).2);have j:=eO h1.v (i:=k) (.int .i64 (hV (D.cE.getD k 0)).2);have e:D.c.set k (.int .i64 (hV (D.cE.getD k 0)).2)=(D.cR k).c:=by
   unfold br.c br.cR;rw[List.set_append_left _ _ (by rw[dU];omega),←List.map_set]
  rw[e]at j;refine⟨j,bc.ak h1.l hc (λe=>h.a1.1 e.symm),h1.m.ak hc (λe=>h.a1.2.1 e.symm),λx hx=>(h1.ws x hx).ak hc λq s e=>(h.a2 x hx).1 (by subst e;exact s),h.wn,h.sl,h.c1,h.cw,h.bB,by show(D.cE.set k _).length=4;rw[dE];exact f,λx hx=>?_,h.a1,h.a2,h.a3,λn=>Lb f (h.r n) λe=>by subst e;rw[h.r n];rfl⟩;rcases oB hx with hx|rfl
  .exact h.fr x hx
  .exact Le p
 have b:Addr.add ⟨D.d,0,none⟩ (Int.toNat ((k:Nat):Int)*1)=⟨D.d,k,none⟩:=by rw[d_,gd,aw,cz]
 refine okF (aa.x7 (some ⟨D.d,0,none⟩) ((k:Nat):Int)) ao.x7 func163 ?_;(delta aa.x7 ay r1 ah st al;dsimp only);refine⟨_,rfl,⟨J,by show(k:Int)<4;omega⟩,D.cE.getD k 0,by rw[b];exact hf,λh1=>?_,λh1=>⟨λa=>⟨_,rfl,⟨J,by show(k:Int)<4;omega⟩,?_⟩,λa=>aO ⟨_,rfl,⟨J,by show(k:Int)<4;omega⟩,id,_,by rw[b];exact hf,_,rfl,⟨J,by show(k:Int)<4;omega⟩,?_⟩⟩⟩
 .have h1:D.cE.getD k 0= -1:=by simpa using h1
  have aG:D.gR k=false:=by unfold br.gR hV;rw[if_pos h1]
  have aM:D.cR k=D:=by
   unfold br.cR hV;rw[if_pos h1];have:D.cE.set k (-1)=D.cE:=by
    rw[←h1,gn J];exact List.set_getElem_self _
   rw[this]
  rw[aG,aM];exact⟨rfl,h,.refl _ _,rfl⟩
 .have h1:D.cE.getD k 0≠ -1:=by simpa using h1
  have a:D.cE.getD k 0=0:=by simpa using a
  have hs:=eP h.v (i:=k) (by rw[h.Ck];omega);have aG:D.gR k=true:=by unfold br.gR hV;rw[if_neg h1,if_pos a]
  have aM:(hV (D.cE.getD k 0)).2= -1:=by unfold hV;rw[if_neg h1,if_pos a]
  have:=g w h;rw[aM]at this;rw[b,aG];exact⟨hs.1,hs.2,aO ⟨rfl,this,dX _ _ _ _,by simp[World.setCell]⟩⟩
 .have h1:D.cE.getD k 0≠ -1:=by simpa using h1
  have a:D.cE.getD k 0≠0:=by simpa using a
  have hd:=h.ext (b1 w);have hs:=eP hd.v (i:=k) (by rw[h.Ck];omega);have aG:D.gR k=false:=by unfold br.gR hV;rw[if_neg h1,if_neg a]
  have aM:(hV (D.cE.getD k 0)).2=D.cE.getD k 0-1:=by unfold hV;rw[if_neg h1,if_neg a]
  have:=g w.drew hd;rw[aM]at this;rw[b,aG,bT J J];exact⟨hs.1,hs.2,aO ⟨rfl,this,(af.bL (b1 w)).trans (dX _ _ _ _),by simp[World.setCell]⟩⟩
end Go.Proofs.YtbjddgakboindaaGreat
