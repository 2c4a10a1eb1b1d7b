/- Contracts of the functions that the statement reaches, and the plain laws over them; each theorem stands with its conditions. -/
import Derived.Test.YtcmgnhkpfllinaaGreatBSFew1
namespace Go.Proofs.YtcmgnhkpfllinaaGreat
open Go aQ Go.Proofs.Tryz
theorem BF{w:J}{a b:ad}{la lb:O UInt8}(g:Src 1 w a (az la))(h:Src 1 w b (az lb))(j:la.length+lb.length<=1000):
 aJ aj 103 #[.slice (some w.heap.size) 2 2] (w.alloc (.cells #[a,b] 39)) (λv w'=>∃c:ad,v=c/\aW 1 5 w' c (az (la++lb))/\Ext w w'/\gq w c):=by
 have hx:=da w (.cells #[a,b] 39);refine(vM (s:=⟨some w.heap.size,2,2⟩) [(a,la),(b,lb)] (Src.new w _ 2 rfl) ?_ (by simp[eF];omega) (by simp)).mono ?_
 .intro p d
  simp only[cX,fk,fv]at d;rcases d with rfl|rfl
  .exact g.ext hx
  .exact h.ext hx
 .rintro _ w' ⟨c,rfl,f,i,hf⟩
  have e:eF [(a,la),(b,lb)]=la++lb:=by simp[eF]
  rw[e]at f;exact⟨c,rfl,f,hx.trans i,hf.mono hx.size⟩
theorem BG{w:J}{a b c:ad}{la lb d:O UInt8}(i:Src 1 w a (az la))(j:Src 1 w b (az lb))(hc:Src 1 w c (az d))(l:la.length+lb.length+d.length<=1000):
 aJ aj 103 #[.slice (some w.heap.size) 3 3] (w.alloc (.cells #[a,b,c] 39)) (λv w'=>∃f:ad,v=f/\aW 1 5 w' f (az (la++(lb++d)))/\Ext w w'/\gq w f):=by
 have hx:=da w (.cells #[a,b,c] 39);refine(vM (s:=⟨some w.heap.size,3,3⟩) [(a,la),(b,lb),(c,d)] (Src.new w _ 3 rfl) ?_ (by simp[eF];omega) (by simp)).mono ?_
 .intro p g
  simp only[cX,fk,fv]at g;rcases g with rfl|rfl|rfl
  .exact i.ext hx
  .exact j.ext hx
  .exact hc.ext hx
 .rintro _ w' ⟨f,rfl,h,k,hf⟩
  have e:eF [(a,la),(b,lb),(c,d)]=la++(lb++d):=by simp[eF]
  rw[e]at h;exact⟨f,rfl,h,hx.trans k,hf.mono hx.size⟩
theorem BH(w:J){n:Nat}(a:n<=255):Src 1 (w.alloc (.cells #[.int .u8 (IntKind.wrap .u8 (n:Int))] 5)) ⟨some w.heap.size,1,1⟩ (az [UInt8.ofNat n])/\Ext w (w.alloc (.cells #[.int .u8 (IntKind.wrap .u8 (n:Int))] 5)):=by
 have e:(#[.int .u8 (IntKind.wrap .u8 (n:Int))]:Array aa)=(az [UInt8.ofNat n]).toArray:=by
  rw[tK I I];simp[az,jX (show n<256 from I)]
 rw[e];exact⟨Src.new w _ 1 rfl,da _ _⟩
theorem fz{α:Type}{l:O α}{i:Nat}{d:α}(h:i<l.length):l.getD i d=l[i]:=by
 rw[fL,dC h];rfl
theorem cC.sC{n:aD}(h:cC n)(a:n.leaf=true):n.vals.length=n.keys.length:=by
 rcases h with h|h
 .exact h.len
 .have:=h.inner;rw[a]at this;cases this
theorem cC.vS{n:aD}(h:cC n)(a:n.leaf=false):n.kids.length=n.keys.length+1:=by
 rcases h with h|h
 .have:=h.leaf;rw[a]at this;cases this
 .exact h.len
theorem nm{B:Nat->Prop}{w:J}{n:aD}{K V D:ad}(h:bQ B w n K V D)(hs:cC n){i:Nat}(hi:i<n.keys.length)(ac:n.keys.length<=100000):
 aJ aj 280 #[db n K V D,i] w (λv w'=>∃s:ad,v=s/\aW 1 5 w' s (az (gx n i))/\Ext w w'/\gq w s):=by
 refine okF (ae.nm n.leaf K V D (i:Int)) ax.nm func280 ?_;(delta ae.nm Y r1 aP bD aT ak aq aF;dsimp only);refine a8 (vs:=[n.leaf,K,V,D]) rfl λw1 r e _=>?_;have u:=cG w1;have Q:=e.trans u;have R:=h.ext Q;obtain⟨bS,aU,a_,bd⟩:=bJ (r.ext u);obtain⟨A,t,au,L,hc,ht,_⟩:=bG.at R.keys hi;have af:=(hs.keys.ok _ (cN hi)).2;have S:=len8 ht.1;obtain⟨T,x⟩:=BH w1.drew (n:=t.len) I;refine aX ⟨λ_=>False,id,K,aU,A,au,L,id,t,hc,id,K,aU,A,au,L,id,t,hc,aX ⟨x,aX ?_⟩⟩;refine(BF (a:=⟨some w1.drew.heap.size,1,1⟩) (b:=t) T (ht.1.ext x) (by simp;omega)).use ?_;rintro _ y ⟨M,rfl,z,U,ag⟩;have d:=u.trans (x.trans U);obtain⟨d0,d1,d2,d3⟩:=bJ (r.ext d);have W: [UInt8.ofNat t.len]++n.keys[i]=nx (n.keys.getD i []):=by rw[fz hi,S];rfl
 rw[W]at z;have N:=h.ext (e.trans d);refine⟨M,rfl,n.leaf,d0,λf=>?_,λf=>?_⟩
 .have ah:=hs.sC f
  have C:i<n.vals.length:=by omega
  have g:=cG y;have X:=N.ext g;obtain⟨ai,al,O,am⟩:=bJ (r.ext (d.trans g));obtain⟨m,t2,o,p,q,P,_⟩:=bG.at X.vals C;have an:=hs.vals _ (cN C);have Z:=len8 P.1;obtain⟨aa,j⟩:=BH y.drew (n:=t2.len) I;refine aX ⟨λ_=>False,id,V,O,m,o,p,id,t2,q,id,V,O,m,o,p,id,t2,q,aX ⟨j,aX ?_⟩⟩;refine(BG (a:=M) (b:=⟨some y.drew.heap.size,1,1⟩) (c:=t2) (z.src.ext (g.trans j)) aa (P.1.ext j) (by rw[ny,fz hi];simp;omega)).use ?_;rintro _ ab ⟨l,rfl,E,F,G⟩;refine⟨l,rfl,l,rfl,?_,(e.trans d).trans (g.trans (j.trans F)),G.mono ((e.trans d).trans (g.trans j)).size⟩;have:nx (n.keys.getD i [])++([UInt8.ofNat t2.len]++n.vals[i])=gx n i:=by
   unfold gx;rw[f,if_pos rfl,fz C,Z];rfl
  rwa[this]at E
 .have ao:=hs.vS f
  have H:i+1<n.kids.length:=by omega
  obtain⟨m,o,p,q⟩:=cY.at N.kids H;have ap:=hs.kids _ (cN H);rw[bn (n:=(i:Int)+1) I I,show(i:Int)+1=((i+1:Nat):Int) from I];refine⟨D,d3,m,o,p,_,q,?_⟩;rw[gw (n:=((n.kids[i+1]:Nat):Int)) I I];refine(gL z.src (n:=n.kids[i+1]) (k:=2) (by rw[ny,fz hi];omega) (by show _<18446744073709551616;omega) ⟨by decide,by decide⟩).use ?_;rintro _ ab ⟨l,rfl,E,F,G⟩;refine⟨l,rfl,l,rfl,?_,(e.trans d).trans F,gq.mono G (e.trans d).size⟩;have:nx (n.keys.getD i [])++bL n.kids[i+1] 2=gx n i:=by
   unfold gx;rw[f,if_neg (by simp),fz H]
  rwa[this]at E
theorem vT{n:aD}(hs:cC n){i:Nat}(hi:i<n.keys.length):(gx n i).length<=100:=by
 unfold gx;have:=(hs.keys.ok _ (cN hi)).2;rw[cp,ny,fz hi];split
 .rename_i b
  have a:i<n.vals.length:=by have:=hs.sC b;omega
  have:=hs.vals _ (cN a);rw[ny,fz a];omega
 .rw[du];omega
theorem ym{n:aD}(hs:cC n):∀m,m<=n.keys.length->(hA n 0 m).length<=100*m
 |0,_=>by simp[hA]
 |m+1,a=>by
  have:=ym hs m I
  have:=vT hs (i:=m) I
  rw[yd,cp];omega
theorem oQ{B:Nat->Prop}{w:J}{n:aD}{K V D:ad}(h:bQ B w n K V D)(hs:cC n)(ah:n.keys.length<=255):
 aJ aj 275 #[db n K V D] w (λv w'=>∃s:ad,v=s/\aW 1 5 w' s (az (jg n))/\Ext w w'/\gq w s):=by
 refine okF (ae.oQ n.leaf K V D) ax.oQ func275 ?_;(delta ae.oQ r1 Y aT ak aP aF bD aq;dsimp only);refine a8 (vs:=[n.leaf,K,V,D]) rfl λw1 g l _=>?_;obtain⟨bS,aU,a_,bd⟩:=bJ g;have u:=h.ext l;have E:=bG.len u.keys;have F:(#[.int .u8 (IntKind.wrap .u8 (K.len:Int))]:Array aa)=(az [UInt8.ofNat n.keys.length]).toArray:=by
  rw[E,tK I I];simp[az,jX (show n.keys.length<256 from I)]
 refine⟨K,aU,?_⟩;rw[F];have m:=aW.new (T:=5) (sz:=1) w1 (az [UInt8.ofNat n.keys.length]) 1 rfl (by decide);have c:=da w1 (.cells (az [UInt8.ofNat n.keys.length]).toArray 5);obtain⟨ai,G⟩:∃ai,ai=w1.alloc (.cells (az [UInt8.ofNat n.keys.length]).toArray 5):=⟨_,rfl⟩;rw[←G]at m c⊢;obtain⟨d0,d1,d2,d3⟩:=bJ (g.ext c);have H:=l.trans c;refine aX (cA (λd w'=>aW 1 5 w' d (az (preB n))/\Ext ai w'/\gq w1 d) (λq x=>⟨n.leaf,d0,λa=>?_,λa=>x _ _ ⟨?_,.refl _ _,?_⟩⟩) ?_)
 .have a:n.leaf=false:=by simpa using a
  have al:=hs.vS a;have o:0<n.kids.length:=by omega
  obtain⟨L,M,N,O⟩:=cY.at (h.ext H).kids o;have am:=hs.kids _ (cN o);refine⟨D,d3,L,M,N,_,O,?_⟩;rw[gw (n:=((n.kids[0]:Nat):Int)) I I];refine(gL m.src (n:=n.kids[0]) (k:=2) (by simp) (by show _<18446744073709551616;omega) ⟨by decide,by decide⟩).use ?_;rintro _ P ⟨p,rfl,e,b,f⟩;refine⟨p,rfl,x _ _ ⟨?_,b,gq.mono f c.size⟩⟩;have: [UInt8.ofNat n.keys.length]++bL n.kids[0] 2=preB n:=by
   unfold preB;rw[a,if_neg (by simp),fz o];rfl
  rwa[this]at e
 .have a:n.leaf=true:=by simpa using a
  have:preB n=[UInt8.ofNat n.keys.length]:=by unfold preB;rw[a];rfl
  rw[this];exact m
 .rintro k ⟨A,au,rfl⟩
  cases au;exact bl _
 rintro an ao ⟨Q,R,S⟩;have y:=c.trans R;obtain⟨d0,d1,d2,d3⟩:=bJ (g.ext y);have ap:(preB n).length<=3:=by
  unfold preB
  cases n.leaf<;>simp[du]
 refine⟨K,d1,λd i w'=>∃j:Nat,i=j/\j<=n.keys.length/\aW 1 5 w' d (az (preB n++hA n 0 j))/\Ext w1 w'/\gq w1 d,λ_ i _=>((n.keys.length:Int)-i).toNat,⟨0,rfl,cL _,by simpa[hA] using Q,y,S⟩,?_⟩;rintro p _ P ⟨j,rfl,U,e,b,f⟩;refine⟨λaH=>?_,λr=>?_⟩
 .have aH:j<n.keys.length:=by have:=cj aH;omega
  obtain⟨f0,f1,f2,f3⟩:=bJ (g.ext b);refine⟨n.leaf,f0,K,f1,V,f2,D,f3,(nm (u.ext b) hs aH I).use ?_⟩;rintro _ ar ⟨W,rfl,z,t,av⟩;have C:=lK e;have X:=lK z;have cx:=vT hs aH;have b3:=ym hs j U;rw[cp]at C;obtain⟨Z,ab,aw,ay,aA,ac,af⟩:=mo.append (cB:=39) z.src (e.ext t) (iM _) (by rw[C,X];omega);rw[bn (n:=(j:Int)+1) I I];refine⟨W,rfl,Z,ab,aw,⟨j+1,I,I,?_,Ext.dS (b.trans t) ac f,λk ag=>?_⟩,?_⟩
  .rw[yd,←cz,mm];exact ay
  .rcases af k ag with h|h
   .exact f k h
   .exact eK (b.trans t).size h
  .show((n.keys.length:Int)-((j:Int)+1)).toNat<((n.keys.length:Int)-(j:Int)).toNat
   omega
 .have r:j=n.keys.length:=by have:=cH r;omega
  subst r;exact⟨p,rfl,e,l.trans b,f.mono l.size⟩
theorem oO{B:Nat->Prop}{w:J}{n:aD}{K V D:ad}(h:bQ B w n K V D)(hs:cC n)(f:n.keys.length<=255):
 aJ aj 262 #[db n K V D] w (λv w'=>v=.int .i64 (bz n:Nat)/\Ext w w'):=by
 have g:n.vals.length<=100000:=by
  rcases hs with hs|hs
  .rw[hs.len];omega
  .rw[hs.vals];simp
 have i:n.kids.length<=100000:=by
  rcases hs with hs|hs
  .rw[hs.kids];simp
  .rw[hs.len];omega
 refine okF (ae.oO n.leaf K V D) ax.oO func262 ?_;(delta ae.oO aT Y r1 b6 ak bD;dsimp only);refine a8 (vs:=[n.leaf,K,V,D]) rfl λw1 d a _=>?_;obtain⟨bS,aU,a_,bd⟩:=bJ d;refine⟨n.leaf,bS,K,aU,V,a_,D,bd,(j9 (h.ext a) I g i).use ?_⟩;rintro _ ai ⟨b,rfl,j,c⟩;have k:=j.2 hs;subst k;obtain⟨bS,aU,a_,bd⟩:=bJ (d.ext c);refine⟨true,rfl,λh=>(by cases h),λ_=>⟨n.leaf,bS,K,aU,V,a_,D,bd,(oQ (h.ext (a.trans c)) hs f).use ?_⟩⟩;rintro _ p ⟨l,rfl,m,o,_⟩;have e:=lK m;rw[yg hs]at e;exact⟨l,rfl,by rw[e],(a.trans c).trans o⟩
def BI(n:aD)(w w':J)(v:aa):Prop:=
 (∃s:ad,v=.tuple #[s,(0:Int)]/\aW 1 5 w' s (az (jg n))/\gq w s/\cC n/\bz n<=232)\/
 (∃e:Int,v=.tuple #[(),e]/\e≠0/\(cC n->232<bz n))
theorem oM{B:Nat->Prop}{w:J}{n:aD}{K V D:ad}(h:bQ B w n K V D)(m:n.keys.length<=100000)(o:n.vals.length<=100000)(p:n.kids.length<=100000):
 aJ aj 254 #[db n K V D] w (λv w'=>BI n w w' v/\Ext w w'):=by
 refine okF (ae.oM n.leaf K V D) ax.oM func254 ?_;(delta ae.oM aT Y r1 b6 ak bD;dsimp only);refine a8 (vs:=[n.leaf,K,V,D]) rfl λw1 d e _=>?_;obtain⟨bS,aU,a_,bd⟩:=bJ d;refine⟨n.leaf,bS,K,aU,V,a_,D,bd,(j9 (h.ext e) m o p).use ?_⟩;rintro _ ai ⟨b,rfl,f,g⟩;have a:=e.trans g;obtain⟨bS,aU,a_,bd⟩:=bJ (d.ext g);have u:=bG.len h.keys;refine⟨b,rfl,cA (λc w'=>ai=w'/\(c=true->cC n->255<n.keys.length)/\(c=false->cC n/\n.keys.length<=255)) (λq i=>⟨λh1=>i _ _ ⟨rfl,λ_ hs=>?_,λh=>(by cases h)⟩,λh1=>⟨K,aU,i _ _ ⟨rfl,λh2 hs=>?_,λh2=>?_⟩⟩⟩) ?_⟩
 .have h1:b=false:=by simpa using h1
  rw[f.2 hs]at h1;cases h1
 .have:=cj h2;omega
 .have h1:b=true:=by simpa using h1
  have:=cH h2;exact⟨f.1 h1,I⟩
 rintro c w' ⟨rfl,aw,ay⟩;refine⟨λh1=>⟨.inr ⟨4,rfl,by decide,λhs=>?_⟩,a⟩,λh1=>?_⟩
 .have:=aw h1 hs
  have:=vG hs;omega
 obtain⟨hs,r⟩:=ay h1;refine⟨n.leaf,bS,K,aU,V,a_,D,bd,(oQ (h.ext a) hs r).use ?_⟩;rintro _ x ⟨j,rfl,k,l,s⟩;have t:=lK k;rw[yg hs]at t;refine⟨j,rfl,λh2=>⟨.inr ⟨10,rfl,by decide,λ_=>?_⟩,a.trans l⟩,λh2=>⟨.inl ⟨j,rfl,k,s.mono a.size,hs,?_⟩,a.trans l⟩⟩
 .have:=cj h2;omega
 .have:=cH h2;omega
theorem qB{B:Nat->Prop}{w:J}{n:aD}{K V D:ad}(h:bQ B w n K V D)(d:n.keys.length<=100000)(f:n.vals.length<=100000)(g:n.kids.length<=100000):
 aJ aj 277 #[db n K V D] w (λv w'=>BI n w w' v/\Ext w w'):=by
 refine okF (ae.qB n.leaf K V D) ax.qB func277 ?_;(delta ae.qB aT Y r1 ey;dsimp only);refine a8 (vs:=[n.leaf,K,V,D]) rfl λw1 i a _=>?_;obtain⟨bS,aU,a_,bd⟩:=bJ i;refine⟨n.leaf,bS,K,aU,V,a_,D,bd,(oM (h.ext a) d f g).use ?_⟩;rintro _ ai ⟨j,c⟩;rcases j with ⟨s,rfl,k,hf,hs,b⟩|⟨e,rfl,he,b⟩
 .exact⟨s,0,rfl,.inl ⟨s,rfl,k,hf.mono a.size,hs,b⟩,a.trans c⟩
 .exact⟨⟨none,0,0⟩,e,rfl,.inr ⟨e,rfl,he,b⟩,a.trans c⟩
def iO(n:Int):al:=decide (n>=0)&&decide (n<=65535)
theorem nk(n:Int)(w:J):aJ aj 165 #[n] w (λv w'=>v=.bool (iO n)/\w=w'):=by
 refine okF (ae.nk n) ax.nk func165 ?_;unfold ae.nk;exact⟨rfl,rfl⟩
theorem qQ{n:Int}(h:iO n=true):∃k:Nat,n=(k:Int)/\k<=65535:=by
 unfold iO at h;simp at h;exact⟨n.toNat,I,I⟩
def ji(b u:Nat):O UInt8:=bL b 2++bL u 8
theorem qj(b:Int){u:Nat}(hu:u<18446744073709551616)(w:J):aJ aj 98 #[b,.int .u64 (u:Nat)] w (λv w'=>(iO b=false/\v=.tuple #[(),false]/\w=w')\/(iO b=true/\∃s:ad,v=.tuple #[s,true]/\aW 1 5 w' s (az (ji b.toNat u))/\Ext w w'/\∀q,aB s q->w.heap.size<=q)):=by
 refine okF (ae.qj b (u:Nat)) ax.qj func98 ?_;delta ae.qj b6 ak bD;refine(nk b w).use ?_;rintro _ _ ⟨rfl,rfl⟩;refine⟨_,rfl,λa=>.inl ⟨by simpa using a,rfl,rfl⟩,λa=>?_⟩;have a:iO b=true:=by simpa using a
 obtain⟨k,rfl,m⟩:=qQ a;rw[gw (n:=(k:Int)) I I];refine(gL (s:=⟨none,0,0⟩) (l:=[]) (aW.none 1 5 w).src (by simp) (n:=k) (k:=2) I I).use ?_;rintro _ o ⟨e,rfl,f,c,p⟩;refine⟨e,rfl,(gL f.src (by rw[cp,du];decide) (n:=u) (k:=8) hu I).use ?_⟩;rintro _ r ⟨d,rfl,g,h,i⟩;exact⟨d,rfl,.inr ⟨a,d,rfl,g,c.trans h,λq j=>by have:=i q j;have:=c.size;omega⟩⟩
def h9(p:bp):UInt8:=if p.addr.dL then 6 else 4
def eS(s:Nat)(p:bp):O UInt8:=bL s 2++([h9 p,UInt8.ofNat p.bits.toNat]++p.addr.raw)
def ee(s:Int)(p:bp):al:=decide (fU p.addr p.bits=some p)&&iO s
section
variable {w:J}{p:bp}{b:Nat}{T:TypeId}
theorem yn(h:Var w b p.c T):bw w b 0 17=some p.addr.c:=by
 rw[h.sq (by rw[bp.bF];decide),iF,bp.c,nY (aZ.bF _)]
theorem yo(h:Var w b p.c T):w.cell? (Addr.add b 17)=some (.int .i64 p.bits):=by
 rw[aA,h.cell,bp.c,iH (by simp[aZ.bF])];simp[aZ.bF]
theorem BJ(h:Var w b p.c T):w.cell? b=some (.bool p.addr.dL):=by
 rw[h.cell,bp.c,s8 (by simp[aZ.bF])];rfl
theorem sD(h:fU p.addr p.bits=some p):0<=p.bits/\p.bits<=128:=by
 unfold fU at h;split at h
 .rename_i a
  have:=p.addr.je;split at this<;>omega
 .cases h
theorem mi(s:Int)(p:bp)(w:J):aJ aj 97 #[s,.agg p.c.toArray] w (λv w'=>Ext w w'/\((ee s p=false/\v=.tuple #[(),false])\/(ee s p=true/\∃t:ad,v=.tuple #[t,true]/\aW 1 5 w' t (az (eS s.toNat p))/\∀q,aB t q->w.heap.size<=q))):=by
 refine ae.EY s _ w _ ?_;(delta ae.mi Y aF jE k7 ak b6 aT bD tZ;dsimp only);refine a8 (vs:=p.c) rfl λw1 f Z ay=>⟨p.addr.c,yn f,p.bits,yo f,(oE p.addr p.bits w1).use ?_⟩;rintro _ aA ⟨rfl,o⟩;refine⟨_,_,rfl,a8 (vs:=bp.zero.c) rfl λaC H K aD=>⟨H.cl (by simp[bp.bF]) (bp.plain _),by simp[bp.bF],cP H (us:=((fU p.addr p.bits).getD bp.zero).c) (by simp[bp.bF]) rfl λe aa L _=>?_⟩⟩;have M:=Z.trans o;have N:Ext w e:=Ext.cy (M.trans K) L M.size;have r:=((f.ext o).ext K).ah L (by have:=(f.ext o).lt;omega);refine cA (λb w'=>b= !decide (fU p.addr p.bits=some p)/\e=w') (λq d=>⟨λh=>d _ _ ⟨?_,rfl⟩,λh=>⟨_,aa.rd (bp.bF _),_,r.rd (bp.bF _),_,xW _ _,d _ _ ⟨?_,rfl⟩⟩⟩) ?_
 .cases u:fU p.addr p.bits with
  |none=>simp
  |some m=>rw[u]at h;cases h
 .cases u:fU p.addr p.bits with
  |none=>rw[u]at h;cases h
  |some m=>simp
 rintro _ _ ⟨rfl,rfl⟩;refine cA (λb w'=>b= !ee s p/\e=w') (λq d=>⟨λh=>d _ _ ⟨?_,rfl⟩,λh=>(nk s e).use ?_⟩) ?_
 .unfold ee
  rw[iE]at h;rw[h];rfl
 .rintro _ _ ⟨rfl,rfl⟩
  refine⟨_,rfl,d _ _ ⟨?_,rfl⟩⟩;unfold ee;rw[l3]at h;rw[h,ib]
 rintro _ _ ⟨rfl,rfl⟩;refine⟨λh=>⟨N,.inl ⟨by simpa using h,rfl⟩⟩,λh=>?_⟩;have hg:ee s p=true:=by simpa using h
 have x:=hg;unfold ee at x;rw[c7,cq]at x;obtain⟨ab,ac⟩:=x;obtain⟨k,rfl,aE⟩:=qQ ac;have aG:=sD ab;have af:IntKind.wrap .u8 p.bits=(((UInt8.ofNat p.bits.toNat).toNat:Nat):Int):=by
  rw[rp];show p.bits%256=_;omega
 refine cA (λn w'=>n=(((h9 p).toNat:Nat):Int)/\e=w') (λq d=>⟨_,BJ r,λh=>d _ _ ⟨by unfold h9;rw[if_pos h];rfl,rfl⟩,λh=>d _ _ ⟨by unfold h9;rw[if_neg (by rw[h];decide)];rfl,rfl⟩⟩) ?_;rintro _ _ ⟨rfl,rfl⟩;have O:=cG e;have y:=r.ext O;have z:=N.trans O;refine aX ?_;generalize e.drew=g at y z;refine⟨λ_=>False,id,_,yo y,id,_,yn y,?_⟩;rw[af,gw (n:=(k:Int)) I I];have fin:∀ (w':J) (a b c:ad),Ext g w'->Src 1 w' a (az ([]++bL k 2))->Src 1 w' b (az [h9 p,UInt8.ofNat p.bits.toNat])->Src 1 w' c (az p.addr.raw)->
  ao (w'.alloc (.cells #[a,b,c] 39)) λag=>Calls aj 103 #[.slice (some w'.heap.size) 3 3] ag λai A=>
   ∃B:ad,ai=.returned B/\(Ext w A/\((ee (k:Int) p=false/\Value.tuple #[B,true]=.tuple #[(),false])\/(ee (k:Int) p=true/\∃t:ad,Value.tuple #[B,true]=.tuple #[t,true]/\aW 1 5 A t (az (eS (k:Int).toNat p))/\∀q,aB t q->w.heap.size<=q))):=λw' a b c hx al am hc=>by
  refine aX ((BG al am hc ?_).use ?_)
  .have:=p.addr.je
   rw[hU,du];show 2+2+p.addr.raw.length<=1000;split at this<;>omega
  .rintro _ A ⟨t,rfl,an,ap,hf⟩
   have aH:=z.size;have aI:=hx.size;exact⟨t,rfl,z.trans (hx.trans ap),.inr ⟨hg,t,rfl,an,λq d=>by have:w'.heap.size<=q:=hf q d;omega⟩⟩
 have put:∀ (w':J),aJ aj 115 #[(),.int .u64 (k:Nat),(2:Int)] w' (λv P=>∃C:ad,v=C/\aW 1 5 P C (az ([]++bL k 2))/\Ext w' P/\∀q,aB C q->w'.heap.size<=q):=λw'=>gL (s:=⟨none,0,0⟩) (l:=[]) (aW.none 1 5 w').src (by simp) (n:=k) (k:=2) I I;have lit:∀ (w':J),Src 1 (w'.alloc (.cells #[.int .u8 (((h9 p).toNat:Nat):Int),.int .u8 (((UInt8.ofNat p.bits.toNat).toNat:Nat):Int)] 5)) ⟨some w'.heap.size,2,2⟩ (az [h9 p,UInt8.ofNat p.bits.toNat]):=λw'=>Src.new (T:=5) w' (az [h9 p,UInt8.ofNat p.bits.toNat]) 2 rfl;refine⟨(put g).use ?_,aX ⟨da _ _,(put _).use ?_⟩⟩
 .rintro _ Q ⟨D,rfl,R,E,_⟩
  refine⟨D,rfl,E,aX ⟨da _ _,(lF p.addr _).use ?_⟩,(lF p.addr _).use ?_⟩
  .rintro _ aq ⟨S,rfl,ar,_,i,_⟩
   exact⟨S,rfl,i,fin aq D ⟨some Q.heap.size,2,2⟩ S (E.trans ((da _ _).trans i)) (R.src.ext ((da _ _).trans i)) ((lit Q).ext i) ar.src⟩
  .rintro _ U ⟨V,rfl,au,_,F,_⟩
   exact⟨V,rfl,F,aX ⟨da _ _,fin _ D ⟨some U.heap.size,2,2⟩ V (E.trans (F.trans (da _ _))) (R.src.ext (F.trans (da _ _))) (lit U) (au.src.ext (da _ _))⟩⟩
 .rintro _ aK ⟨W,rfl,av,G,_⟩
  refine⟨W,rfl,G,(lF p.addr _).use ?_⟩;rintro _ aw ⟨X,rfl,ax,_,j,_⟩;exact⟨X,rfl,j,fin aw W ⟨some g.heap.size,2,2⟩ X ((da _ _).trans (G.trans j)) (av.src.ext j) ((lit g).ext (G.trans j)) ax.src⟩
end
structure aG where
 s:Int
 p:bp
 b:Int
 u:Nat
def aG.c(t:aG):O aa:=.int .i64 t.s::(t.p.c++ [.int .i64 t.b,.int .u64 (t.u:Nat)])
theorem aG.bF(t:aG):t.c.length=21:=by simp[aG.c,bp.bF]
section
variable {w:J}{t:aG}{b:Nat}{T:TypeId}
theorem qR(h:Var w b t.c T):bw w (Addr.add ⟨b,0,none⟩ 1) 0 18=some t.p.c:=by
 rw[aA,h.sq (by rw[aG.bF];decide)];show some (List.take 18 (t.p.c++_))=_;rw[nY (bp.bF _)]
theorem yp(h:Var w b t.c T):w.cell? (Addr.add ⟨b,0,none⟩ 19)=some (.int .i64 t.b):=by
 rw[aA,h.cell];show(t.p.c++_)[18]? =_;rw[iH (by rw[bp.bF];decide),bp.bF];rfl
theorem BK(h:Var w b t.c T):w.cell? (Addr.add ⟨b,0,none⟩ 20)=some (.int .u64 (t.u:Nat)):=by
 rw[aA,h.cell];show(t.p.c++_)[19]? =_;rw[iH (by rw[bp.bF];decide),bp.bF];rfl
def aG.dZ(t:aG):al:=ee t.s t.p&&iO t.b
theorem oC(t:aG)(w:J):aJ aj 96 #[.agg t.c.toArray] w (λv w'=>v=t.dZ/\Ext w w'):=by
 refine ae.EX _ w _ ?_;(delta ae.oC aF Y jD ak b6;dsimp only);refine a8 (vs:=t.c) rfl λw1 a i l=>⟨t.s,a.cell,t.p.c,qR a,(mi t.s t.p w1).use ?_⟩;rintro v f ⟨g,j⟩;have k:=a.ext g;have key:∃ (d:ad),v=.tuple #[d,.bool (ee t.s t.p)]:=by
  rcases j with ⟨hg,rfl⟩|⟨hg,s,rfl,_⟩
  .exact⟨⟨none,0,0⟩,by rw[hg]⟩
  .exact⟨s,by rw[hg]⟩
 obtain⟨d,rfl⟩:=key;refine⟨d,_,rfl,cA (λb w'=>b=t.dZ/\f=w') (λq h=>⟨λe=>⟨t.b,yp k,(nk t.b f).use ?_⟩,λe=>h _ _ ⟨?_,rfl⟩⟩) ?_⟩
 .rintro _ _ ⟨rfl,rfl⟩
  exact⟨_,rfl,h _ _ ⟨by unfold aG.dZ;rw[e,ib],rfl⟩⟩
 .unfold aG.dZ;rw[e,kV]
 .rintro _ _ ⟨rfl,rfl⟩
  exact⟨rfl,i.trans g⟩
end
theorem yq{a:aZ}(h:a.dZ=true):g9 a.raw=some a:=by
 have d:=a.je;obtain⟨c,e⟩:=Be (l:=a.raw) (by split at d<;>omega);obtain⟨h1,h2⟩:=Bd e;have f:=Bc e;have hs:c.dL=a.dL:=by
  cases hx:a.dL with
  |true=>exact h2.2 (by rw[d,hx];rfl)
  |false=>
   cases g:c.dL with
   |false=>rfl
   |true=>
    have:=h2.1 g;rw[d,hx]at this;cases this
 have i:c.b=a.b:=by
  unfold aZ.raw at h1;rw[hs]at h1
  cases hx:a.dL with
  |true=>rw[hx]at h1;exact h1
  |false=>
   rw[hx]at h1;have h1:c.b.drop 12=a.b.drop 12:=h1;unfold aZ.dZ at h f;rw[hs,hx,mO,cq]at f;rw[hx,mO,cq]at h;rw[←fI 12 c.b,←fI 12 a.b,h1,f,h]
 rw[e,aZ.ext' hs i]
def aG.zero:aG:=⟨0,bp.zero,0,0⟩
theorem GL(w:J)(p:bp)(s b u:Int):Sem.run aj (Instr.build 57 #[(0,.int .i64 s),(1,.agg p.c.toArray),(2,.int .i64 b),(3,.int .u64 u)]) w=.ok (.agg (.int .i64 s::(p.c++ [.int .i64 b,.int .u64 u])).toArray) w:=by
 obtain⟨⟨dL,l,h⟩,n⟩:=p;obtain⟨cd,a,d,e,f,g,i,j,k,m,o,q,r,t,v,x,rfl⟩:=so l h
 kernel_rfl
theorem aG.plain(t:aG):∀v∈t.c,Plain v:=λv a=>by
 unfold aG.c at a
 rcases cX.1 a with rfl|a
 .trivial
 .rcases cK.1 a with a|a
  .exact bp.plain _ v a
  .simp only[cX,fk,fv]at a
   rcases a with rfl|rfl<;>trivial
theorem vU(k:Nat)(p:bp):(eS k p).length=4+p.addr.raw.length:=by
 unfold eS;rw[cp,cp,du];show 2+(2+p.addr.raw.length)=_;omega
theorem qS(b u:Nat):(ji b u).length=10:=by unfold ji;rw[cp,du,du]
theorem yr{k:Nat}(h:k<=65535)(p:bp):g_ (((eS k p).drop 0).take 2)=k:=by
 rw[iF];unfold eS;rw[nY (du k 2),qL 2 k I]
theorem yt(k:Nat)(p:bp):(eS k p)[3]? =some (UInt8.ofNat p.bits.toNat):=by
 unfold eS;rw[iH (by rw[du];decide),du];rfl
theorem yu(k:Nat)(p:bp):(eS k p).drop 4=p.addr.raw:=by
 unfold eS;rw[show 4=2+2 from rfl,←kT,List.drop_left' (du k 2)];exact List.drop_left' rfl
theorem GM{b:Nat}(h:b<=65535)(u:Nat):g_ (((ji b u).drop 0).take 2)=b:=by
 rw[iF];unfold ji;rw[nY (du b 2),qL 2 b I]
theorem GN(b:Nat){u:Nat}(h:u<18446744073709551616):g_ (((ji b u).drop 2).take 8)=u:=by
 unfold ji;rw[List.drop_left' (du b 2),dX (by rw[du];exact bl _),qL 8 u I]
theorem qf{w:J}{d sv:ad}{k b u:Nat}{p:bp}(e:Src 1 w d (az (eS k p)))(y:d.len<=d.cap)(f:Src 1 w sv (az (ji b u)))(z:sv.len<=sv.cap)(hg:ee (k:Int) p=true)(g:b<=65535)(hu:u<18446744073709551616):
 aJ aj 51 #[d,sv] w (λv w'=>v=.tuple #[.agg (aG.mk (k:Nat) p (b:Nat) u).c.toArray,true]/\Ext w w'):=by
 have j:=hg;unfold ee at j;rw[c7,cq]at j;obtain⟨B,Q⟩:=j;have R:k<=65535:=by obtain⟨n,h1,h2⟩:=qQ Q;omega
 have ay:=vy p.addr;have aA:d.len=4+p.addr.raw.length:=by have:=e.len;rw[c4,vU]at this;omega
 have aB:sv.len=10:=by have:=f.len;rw[c4,qS]at this;omega
 have S:p.addr.dZ=true:=(x1 B).2.1;have aC:=sD B;refine okF (ae.qf d sv) ax.qf func51 ?_;(delta ae.qf ir nf ak Y jE z3 aP dm aq aF jD b6;dsimp only);refine a8 (vs:=aG.zero.c) rfl λw1 T l aD=>(j8 (e.ext l) y (a:=0) (k:=2) I (by rw[vU];omega) (by rw[vU];omega)).use ?_;rintro _ _ ⟨rfl,rfl⟩;rw[yr R];refine⟨_,true,rfl,λg=>?_,λ_=>⟨⟨by decide,I⟩,?_⟩⟩
 .exfalso
  simp only[Bool.not_true,mO,iY,cq,bne_iff_ne]at g;omega
 have C:=Src.sub (e.ext l) y (lo:=4) (hi:=d.len) I (bl _);have U:((az (eS k p)).drop 4).take (d.len-4)=az p.addr.raw:=by
  have h1:(az (eS k p)).drop 4=az p.addr.raw:=by rw[←yu k p];unfold az;rw[lZ]
  rw[h1,dX (by rw[c4];omega)]
 rw[U]at C;refine(qk C).use ?_;rintro _ V ⟨rfl,D⟩;rw[yq S];refine⟨_,_,rfl,a8 (vs:=aZ.zero.c) rfl λaE E W aH=>⟨E.cl (by simp[aZ.bF]) (aZ.plain _),by simp[aZ.bF],cP E (us:=p.addr.c) (by simp[aZ.bF]) rfl λm X Z _=>?_⟩⟩;have aa:=l.trans D;have F:Ext V m:=Ext.cy W Z (bl _);have o:=aa.trans F;refine(j8 (f.ext o) z (a:=0) (k:=2) I (by rw[qS];decide) (by rw[qS];decide)).use ?_;rintro _ _ ⟨rfl,rfl⟩;rw[GM g];refine⟨_,true,rfl,(j8 (f.ext o) z (a:=2) (k:=8) I (by rw[qS];decide) (by rw[qS];decide)).use ?_⟩;rintro _ _ ⟨rfl,rfl⟩;rw[GN b hu];have r:=cG m;have s:=o.trans r;have G:=X.ext r;have H:=(T.ext D).ext (F.trans r);refine⟨_,true,rfl,aX ?_⟩;generalize m.drew=ab at s G H;obtain⟨A,au,ac,af⟩:=(e.ext s).at (i:=3) (v:=.int .u8 (((UInt8.ofNat p.bits.toNat).toNat:Nat):Int)) (by unfold az;rw[nW,yt];rfl);have ag:IntKind.wrap .i64 (((UInt8.ofNat p.bits.toNat).toNat:Nat):Int)=p.bits:=by
  rw[rp,bn I I];omega
 refine⟨λ_=>False,id,p.addr.c,G.rd (aZ.bF _),A,au,ac,id,_,af,?_⟩;rw[ag,bn (n:=(k:Int)) I I,bn (n:=(b:Int)) I I];refine⟨p.c.toArray,λah=>xX ah p.addr p.bits,(aG.mk (k:Nat) p (b:Nat) u).c.toArray,λai=>GL ai p _ _ _,a8 (vs:=aG.zero.c) rfl λaI K L aK=>⟨L,K.cl (by simp[aG.bF]) (aG.plain _),by simp[aG.bF],cP K (us:=(aG.mk (k:Nat) p (b:Nat) u).c) (by simp[aG.bF]) rfl λM t al _=>?_⟩⟩;have N:Ext ab M:=Ext.cy L al (bl _);refine⟨_,t.cell,_,qR t,(mi (k:Nat) p M).use ?_⟩;rintro _ am ⟨x,⟨hf,_⟩|⟨_,an,rfl,ao,_⟩⟩
 .rw[hg]at hf;cases hf
 have O:=(s.trans N).trans x;have ap:=t.ext x;have P:=(H.ext N).ext x;refine⟨an,true,rfl,cA (λb w'=>b=false/\am=w') (λq ar=>⟨λh=>(by cases h),λ_=>(oy ao.src (e.ext O)).use ?_⟩) ?_⟩
 .rintro _ _ ⟨rfl,rfl⟩
  exact⟨_,rfl,ar _ _ ⟨by rw[dg,dI rfl];rfl,rfl⟩⟩
 rintro _ _ ⟨rfl,rfl⟩;refine⟨λh=>(by cases h),λ_=>⟨_,ap.rd (aG.bF _),P.cl (by simp[aG.bF]) (aG.plain _),by simp[aG.bF],cP P (us:=(aG.mk (k:Nat) p (b:Nat) u).c) (by simp[aG.bF]) rfl λaL av aw _=>⟨_,av.rd (aG.bF _),rfl,Ext.cy O aw (bl _)⟩⟩⟩
theorem oS(n:Int)(w:J):aJ aj 162 #[n] w (λv w'=>v=.bool (iO n)/\w=w'):=by
 refine okF (ae.oS n) ax.oS func162 ?_;unfold ae.oS;exact⟨rfl,rfl⟩
section
variable {w:J}{t:aG}{b:Nat}{T:TypeId}
theorem GO(h:Var w b t.c T):bw w (Addr.add ⟨b,0,none⟩ 1) 0 17=some t.p.addr.c:=by
 rw[aA,h.sq (by rw[aG.bF];decide)];show some (List.take 17 (t.p.c++_))=_;rw[bp.c,cz,nY (aZ.bF _)]
theorem GP(h:Var w b t.c T):w.cell? ((Addr.add ⟨b,0,none⟩ 1).add 17)=some (.int .i64 t.p.bits):=by
 rw[aA,aA,h.cell];show(t.p.c++_)[17]? =_;rw[s8 (by rw[bp.bF];decide),bp.c,iH (by rw[aZ.bF];decide),aZ.bF];rfl
theorem np(t:aG)(w:J):aJ aj 86 #[.agg t.c.toArray] w (λv w'=>v=t.dZ/\Ext w w'):=by
 refine ae.Fm _ w _ ?_;(delta ae.np Y aF jE k7 b6 ak;dsimp only);refine a8 (vs:=t.c) rfl λw1 e o x=>⟨_,GO e,_,GP e,(oR t.p.addr t.p.bits w1).use ?_⟩;rintro _ y ⟨rfl,f⟩;refine⟨_,_,rfl,a8 (vs:=bp.zero.c) rfl λz j k A=>⟨j.cl (by simp[bp.bF]) (bp.plain _),by simp[bp.bF],cP j (us:=((fU t.p.addr t.p.bits).getD bp.zero).c) (by simp[bp.bF]) rfl λa r l _=>?_⟩⟩;have n:=o.trans f;have u:Ext w a:=Ext.cy (n.trans k) l n.size;have g:=((e.ext f).ext k).ah l (by have:=(e.ext f).lt;omega);refine⟨_,g.cell,(oS t.s a).use ?_⟩;rintro _ _ ⟨rfl,rfl⟩;refine⟨_,rfl,cA (λb w'=>b=(iO t.s&&iO t.b)/\a=w') (λq d=>⟨λh=>⟨_,yp g,(oS t.b a).use ?_⟩,λh=>d _ _ ⟨by rw[h,kV],rfl⟩⟩) ?_⟩
 .rintro _ _ ⟨rfl,rfl⟩
  exact⟨_,rfl,d _ _ ⟨by rw[h,ib],rfl⟩⟩
 rintro _ _ ⟨rfl,rfl⟩;refine cA (λb w'=>b=t.dZ/\a=w') (λq d=>⟨λh=>⟨_,r.rd (bp.bF _),_,qR g,_,xW _ _,d _ _ ⟨?_,rfl⟩⟩,λh=>d _ _ ⟨?_,rfl⟩⟩) ?_
 .rw[c7,c7]at h
  unfold aG.dZ ee;rw[h.1.1,h.1.2,pA,pA]
  cases i:fU t.p.addr t.p.bits with
  |none=>rw[i]at h;cases h.2
  |some m=>simp
 .unfold aG.dZ ee
  cases i:fU t.p.addr t.p.bits with
  |none=>simp
  |some m=>
   rw[i]at h;have h:(iO t.s&&iO t.b)=false:=by simpa using h
   cases h1:iO t.s
   .simp
   .rw[h1,ib]at h;rw[h];simp
 .rintro _ _ ⟨rfl,rfl⟩
  exact⟨rfl,u⟩
end
theorem ez{w:J}{b i:Nat}{vs:O aa}{T:TypeId}(h:Var w b vs T)(v:aa):Var (w.setCell ⟨b,i,none⟩ v) b (vs.set i v) T:=by
 have:=bm.set h i v;have e:vs.toArray.setIfInBounds i v=(vs.set i v).toArray:=by simp
 rw[e]at this;exact this
theorem eA{w:J}{b i:Nat}{vs:O aa}{T:TypeId}(h:Var w b vs T)(hi:i<vs.length):(∃u:aa,w.cell? ⟨b,i,none⟩=some u)/\w.frozen? ⟨b,i,none⟩=false:=
 ⟨⟨vs[i],by rw[h.cell];simp[hi]⟩,bm.frozen h _ rfl⟩
theorem dU(w:J)(b i:Nat)(v:aa):af (λq=>q=b) w (w.setCell ⟨b,i,none⟩ v):=af.gx (.refl _ _) v
structure jj(w:J)(r:Nat)(s:ad)(rd:Rd):Prop where
 v:Var w r [s,rd.2] 342
 src:Src 1 w s (az rd.1)
 le:s.len<=s.cap
 ne:∀k,aB s k->k≠r
theorem jj.ah{W:Nat->Prop}{w w':J}{r:Nat}{s:ad}{rd:Rd}(h:jj w r s rd)(hc:af W w w')(h1:¬W r)(h2:∀k,aB s k->¬W k):jj w' r s rd:=⟨h.v.ah hc h1,h.src.ah hc h2,h.le,h.ne⟩
theorem jj.ext{w w':J}{r:Nat}{s:ad}{rd:Rd}(h:jj w r s rd)(hc:Ext w w'):jj w' r s rd:=jj.ah h hc id λ_ _ h=>h
theorem vV{a:av ag}{z l m n c k:Nat}(h:aB ⟨aY a z l m,n,c⟩ k):∃A,a=some A/\A.block=k:=by
 obtain⟨A,au,rfl⟩:=h;unfold aY at au;split at au
 .exact⟨A,au,rfl⟩
 .cases b:a with
  |none=>rw[b]at au;cases au
  |some d=>
   rw[b]at au;simp only[lY,Option.some.injEq]at au;exact⟨d,rfl,by subst au;unfold Addr.add;split<;>rfl⟩
theorem BL{w:J}{r:Nat}{s:ad}{rd:Rd}(h:jj w r s rd)(k:Nat)(z:k<=100000)(u:rd.1.length<=100000):
 aJ aj 274 #[.pointer (some r),k] w (λv w'=>∃t m:ad,v=t/\bq (λq=>w.heap.size<=q) w' t (hC rd k).1/\jj w' r m (hC rd k).2/\af (λq=>q=r) w w'/\(∀q,aB m q->aB s q)):=by
 obtain⟨l,ok⟩:=rd;have f:=h.v;have x:=len8 h.src;simp only at x u f;have aH:=f.lt;refine okF (ae.vr (some r) (k:Int)) ax.vr func274 ?_;(delta ae.vr aT ak r1 st bD;dsimp only);refine⟨_,rfl,ok,by rw[aA];exact f.cell,cA (λb w'=>w=w'/\b=decide (ok=false\/l.length<k)) (λq c=>⟨λh1=>c _ _ ⟨rfl,?_⟩,λh1=>⟨_,rfl,s,f.cell,c _ _ ⟨rfl,?_⟩⟩⟩) ?_⟩
 .have h1:ok=false:=by simpa using h1
  exact(dI (.inl h1)).symm
 .have h1:ok=true:=by simpa using h1
  subst h1;rw[fC,cq,cq];constructor
  .intro h;exact .inr I
  .rintro(h|h)
   .cases h
   .omega
 rintro b w' ⟨rfl,rfl⟩;refine⟨λd=>⟨_,rfl,?_⟩,λd=>⟨_,rfl,s,f.cell,?_⟩⟩
 .have d:=cj d
  obtain⟨aw,ay⟩:=eA f (i:=1) (by simp);rw[aA];have hc:=dU w r 1 false;have e:hC (l,ok) k=([],(l,false)):=by unfold hC;rw[if_pos d]
  rw[e];refine⟨aw,ay,aX ⟨⟨none,0,0⟩,s,rfl,⟨(aW.none 1 5 _).src,bl _,λq c=>(fZ q c).elim⟩,⟨ez f _,h.src.ah hc λq c=>h.ne q c,h.le,h.ne⟩,hc,λq c=>c⟩⟩
 .have d:=cH d
  have e:hC (l,ok) k=(l.take k,(l.drop k,true)):=by unfold hC;rw[if_neg d]
  have C:k<=l.length:=by
   rcases ec l.length k with h1|h1
   .exact absurd (.inr h1) d
   .exact h1
  have y:ok=true:=by
   cases ok with
   |true=>rfl
   |false=>exact absurd (.inl rfl) d
  subst y;rw[e];have D:=h.le;refine⟨⟨I,I⟩,?_⟩;have n:=o5 h.src h.le (lo:=0) (hi:=k) I I;rw[iF,mQ]at n;rw[dg,mQ];refine(lL (B:=λq=>w.heap.size<=q) (s:=⟨aY s.a 1 0 s.cap,k,s.cap-0⟩) n (by rw[cI];omega) (λq c=>c)).use ?_;rintro _ w1 ⟨t,rfl,ht,g,E⟩;have j:=f.ext g;obtain⟨aw,ay⟩:=eA j (i:=0) (by simp);have hc:=dU w1 r 0 (.slice (aY s.a 1 k s.cap) (s.len-k) (s.cap-k));have o:=o5 (h.src.ext g) h.le (lo:=k) (hi:=s.len) I (bl _);rw[dX (l:=l.drop k) (by rw[ed];omega)]at o;have p:∀q,aB ⟨aY s.a 1 k s.cap,s.len-k,s.cap-k⟩ q->q≠r:=λq c=>by
   obtain⟨A,au,d⟩:=vV c;exact h.ne q ⟨A,au,d⟩
  refine⟨t,rfl,_,rfl,s,j.cell,⟨I,I⟩,_,rfl,aw,ay,aX ⟨t,⟨aY s.a 1 k s.cap,s.len-k,s.cap-k⟩,rfl,bq.ah ht hc (λq c e=>by subst e;omega),⟨ez j _,o.ah hc λq c=>p q c,by show s.len-k<=s.cap-k;omega,p⟩,(af.c0 g).trans hc,λq c=>?_⟩⟩;obtain⟨A,au,d⟩:=vV c;exact⟨A,au,d⟩
theorem yv{w:J}{r:Nat}{s:ad}{rd:Rd}(h:jj w r s rd)(k:Nat)(c:1<=k/\k<=2)(g:rd.1.length<=100000):
 aJ aj 252 #[.pointer (some r),k] w (λv w'=>∃b:ad,v=.int .i64 ((rdNum rd k).1:Nat)/\jj w' r b (rdNum rd k).2/\af (λq=>q=r) w w'/\(∀q,aB b q->aB s q)):=by
 refine okF (ae.vn (some r) (k:Int)) ax.vn func252 ?_;delta ae.vn bD nf aq;refine(BL h k I g).use ?_;rintro _ w1 ⟨t,b,rfl,ht,d,hc,e⟩;have hlen:(hC rd k).1.length=k\/(hC rd k).1=[]:=by
  unfold hC;split
  .exact .inr rfl
  .rename_i i
   left;rw[cI];have:¬rd.1.length<k:=λh=>i (.inr h);omega
 have f:=sr k (hC rd k).1;have j:256^k<=65536:=eK (s9 I c.2) (by decide);refine⟨t,rfl,?_⟩;rcases hlen with hlen|hlen
 .refine(j8 (a:=0) (k:=k) ht.1 ht.2.1 ⟨c.1,I⟩ I I).use ?_
  rintro _ _ ⟨rfl,rfl⟩;have f:=f hlen;rw[iF,dX I];refine⟨_,_,rfl,b,?_,d,hc,e⟩;rw[bn I I];unfold rdNum;rw[if_pos hlen]
 .refine(Gz (k:=k) ht.1 I (by rw[hlen];simp;omega)).use ?_
  rintro _ _ ⟨rfl,rfl⟩;refine⟨_,_,rfl,b,?_,d,hc,e⟩;unfold rdNum;rw[if_neg (by rw[hlen];simp;omega)];rfl
theorem yw(rd:Rd)(k:Nat):(rdNum rd k).1<256^k:=by
 unfold rdNum;split
 .exact sr k _ (by assumption)
 .exact Nat.pow_pos I
theorem BM(rd:Rd)(k:Nat):(hC rd k).2.1.length<=rd.1.length/\(hC rd k).1.length<=k:=by
 unfold hC;split
 .exact⟨bl _,cL _⟩
 .exact⟨by rw[ed];omega,by rw[cI];omega⟩
theorem vW(rd:Rd)(k:Nat):(rdNum rd k).2.1.length<=rd.1.length:=(BM rd k).1
theorem BN(rd:Rd):(jK rd).2.1.length<=rd.1.length/\(jK rd).1.length<=255:=by
 unfold jK;have h1:=BM (rdNum rd 1).2 (rdNum rd 1).1;have h2:=vW rd 1;have a:(rdNum rd 1).1<256:=yw rd 1;exact⟨I,I⟩
theorem BO{w:J}{r:Nat}{s:ad}{rd:Rd}(h:jj w r s rd)(d:rd.1.length<=100000):
 aJ aj 253 #[.pointer (some r)] w (λv w'=>∃t b:ad,v=t/\bq (λq=>w.heap.size<=q) w' t (jK rd).1/\jj w' r b (jK rd).2/\af (λq=>q=r) w w'/\(∀q,aB b q->aB s q)):=by
 refine okF (ae.vo (some r)) ax.vo func253 ?_;delta ae.vo bY bD;refine(yv h 1 I d).use ?_;rintro _ w1 ⟨s1,rfl,e,c,f⟩;have k:(rdNum rd 1).1<256:=yw rd 1;have l:=vW rd 1;refine⟨_,rfl,(BL e (rdNum rd 1).1 I I).use ?_⟩;rintro _ ai ⟨t,s2,rfl,ht,g,i,j⟩;exact⟨t,rfl,t,s2,rfl,bq.a7 ht λq _ a=>eK c.size a,g,c.trans i,λq a=>f q (j q a)⟩
theorem bj.a7{B C:Nat->Prop}{w:J}{s:ad}{ls:O Key}(h:bj B w s ls)(a:∀k,k<w.heap.size->B k->C k):bj C w s ls:=by
 obtain⟨ts,h1,h2,e,b⟩:=h;exact⟨ts,h1,h2,In.a7 e a,λi c d=>⟨bq.a7 (b i c d).1 a,(b i c d).2⟩⟩
theorem cJ.a7{B C:Nat->Prop}{w:J}{s:ad}{ds:O Nat}(h:cJ B w s ds)(a:∀k,k<w.heap.size->B k->C k):cJ C w s ds:=⟨h.1,In.a7 h.2 a⟩
def Grow(B:Nat->Prop)(w w':J)(q:Nat):Prop:=B q\/(w.heap.size<=q/\q<w'.heap.size)
theorem vX{w:J}{nb o:Nat}{vs:O aa}{S t:ad}{ls:O Key}{l:Key}{B:Nat->Prop}{T:TypeId}{W:Nat->Prop}(d:Var w nb vs T)(p:o<vs.length)(f:bj B w S ls)(g:¬B nb)
 (ht:bq B w t l) (hd:∀k,aB t k->¬aB S k) (D:ls.length<=100000) {K:J->Prop}
 (r:∀ (w':J) (aE:ad),Var w' nb (vs.set o aE) T->bj (Grow B w w') w' aE (ls++ [l])->af (λq=>q=nb\/aB S q) w w'->K w'):
 ao (w.alloc (.cells #[t] 39)) λi=>af W w i/\∃j:ad,∃b:J,Sem.run aj (Builtin.append_ #[93,93] 93 #[S,.slice (some w.heap.size) 1 1]) i=.ok j b/\
  (∃u:aa,b.cell? (Addr.add nb o)=some u)/\b.frozen? (Addr.add nb o)=false/\ao (b.setCell (Addr.add nb o) j) λs=>K s:=by
 have v:=bj.a7 (C:=λq=>B q\/w.heap.size<=q) f λk _ h=>.inl h;have x:=bq.a7 (C:=λq=>B q\/w.heap.size<=q) ht λk _ h=>.inl h;obtain⟨c,w',aw,ay,m,E⟩:=BD v x hd I λk a=>.inr a;have F:=d.lt;have y:¬aB S nb:=λh=>by
  obtain⟨ts,_,_,z,_⟩:=f;exact g (z nb h).1
 have n:=d.ah m y;obtain⟨aU,a_⟩:=eA n p;refine aX ⟨af.c0 (da _ _),c,w',aw,?_⟩;rw[aA,cR];have hc:=dU w' nb o c;refine⟨aU,a_,aX (r _ c (ez n _) ?_ ?_)⟩
 .have A:=bj.a7 (C:=Grow B w (w'.setCell ⟨nb,o,none⟩ c)) ay λk a h=>by
   rcases h with h|h
   .exact .inl h
   .exact .inr ⟨h,fa a hc.size⟩
  refine bj.ah A hc λk a e=>?_;subst e;rcases a with h|h
  .exact g h
  .omega
 .exact(m.mono λk _ h=>.inr h).trans (hc.mono λk _ h=>.inl h)
theorem BP{w:J}{nb o:Nat}{vs:O aa}{S:ad}{ds:O Nat}(d:Nat){B:Nat->Prop}{T:TypeId}{W:Nat->Prop}(f:Var w nb vs T)(p:o<vs.length)(g:cJ B w S ds)(i:¬B nb)
 (y:ds.length<=100000) {K:J->Prop}
 (r:∀ (w':J) (aE:ad),Var w' nb (vs.set o aE) T->cJ (Grow B w w') w' aE (ds++ [d])->af (λq=>q=nb\/aB S q) w w'->K w'):
 ao (w.alloc (.cells #[d] 3)) λj=>af W w j/\∃l:ad,∃b:J,Sem.run aj (Builtin.append_ #[72,72] 72 #[S,.slice (some w.heap.size) 1 1]) j=.ok l b/\
  (∃u:aa,b.cell? (Addr.add nb o)=some u)/\b.frozen? (Addr.add nb o)=false/\ao (b.setCell (Addr.add nb o) l) λs=>K s:=by
 have t:=cJ.a7 (C:=λq=>B q\/w.heap.size<=q) g λk _ h=>.inl h;obtain⟨c,w',aw,ay,m,z⟩:=GI d t I λk a=>.inr a;have A:=f.lt;have v:¬aB S nb:=λh=>i (g.2 nb h).1;have n:=f.ah m v;obtain⟨aU,a_⟩:=eA n p;refine aX ⟨af.c0 (da _ _),c,w',aw,?_⟩;rw[aA,cR];have hc:=dU w' nb o c;refine⟨aU,a_,aX (r _ c (ez n _) ?_ ?_)⟩
 .have x:=cJ.a7 (C:=Grow B w (w'.setCell ⟨nb,o,none⟩ c)) ay λk a h=>by
   rcases h with h|h
   .exact .inl h
   .exact .inr ⟨h,fa a hc.size⟩
  refine cJ.ah x hc λk a e=>?_;subst e;rcases a with h|h
  .exact i h
  .omega
 .exact(m.mono λk _ h=>.inr h).trans (hc.mono λk _ h=>.inl h)
structure kf(lo:Nat)(w:J)(r nb:Nat)(s:ad)(m:aD×Rd)(K V D:ad)(bC bT br:Nat->Prop):Prop where
 v:Var w nb [m.1.leaf,K,V,D] 169
 rd:jj w r s m.2
 keys:bj bC w K m.1.keys
 vals:bj bT w V m.1.vals
 kids:cJ br w D m.1.kids
 bZ:∀q,bC q->lo<=q/\q<w.heap.size/\¬bT q/\¬br q
 bv:∀q,bT q->lo<=q/\q<w.heap.size/\¬br q
 aP:∀q,br q->lo<=q/\q<w.heap.size
 hs:∀q,aB s q->q<lo/\q≠nb
 o7:r<lo
 o8:nb<lo
 kg:r≠nb
 o9:m.2.1.length<=100000
def o_(lo r nb:Nat)(q:Nat):Prop:=q=r\/q=nb\/lo<=q
theorem kf.drew{lo:Nat}{w:J}{r nb:Nat}{s:ad}{m:aD×Rd}{K V D:ad}{bC bT br:Nat->Prop}(h:kf lo w r nb s m K V D bC bT br):kf lo w.drew r nb s m K V D bC bT br:=
 ⟨h.v.ext (cG w),h.rd.ext (cG w),bj.ext h.keys (cG w),bj.ext h.vals (cG w),cJ.ext h.kids (cG w),h.bZ,h.bv,h.aP,h.hs,h.o7,h.o8,h.kg,h.o9⟩
theorem BQ{leaf:al}:∀ (s:aD×Rd) (i:Nat),s.1.leaf=leaf->(h8 s i).1.leaf=leaf
 |_,0,h=>h
 |s,i+1,h=>by
  have a:=BQ s i h
  rw[h8]
  unfold o4
  split
  .exact a
  .exact a
theorem BR:∀ (s:aD×Rd) (i:Nat),(h8 s i).1.keys.length=s.1.keys.length+i/\(h8 s i).1.vals.length<=s.1.vals.length+i/\(h8 s i).1.kids.length<=s.1.kids.length+i
 |_,0=>⟨rfl,bl _,bl _⟩
 |s,i+1=>by
  obtain⟨h1,h2,a⟩:=BR s i
  rw[h8]
  unfold o4
  split<;>simp<;>omega
theorem GQ{lo:Nat}{w:J}{r nb:Nat}{s:ad}{m:aD×Rd}{K V D:ad}{bC bT br:Nat->Prop}(h:kf lo w r nb s m K V D bC bT br)(ab:lo<=w.heap.size)(G:m.1.keys.length<=100000){R:J->Prop}
 (H:∀ (w':J) (l n:ad) (L:Nat->Prop),kf lo w' r nb n (⟨m.1.leaf,m.1.keys++ [(jK m.2).1],m.1.vals,m.1.kids⟩,(jK m.2).2) l V D L bT br->af (o_ lo r nb) w w'->lo<=w'.heap.size->R w'):
 ao w.drew λp=>∃x:Nat->Prop,¬x (Addr.add nb 1).block/\∃i:ad,p.cell? (Addr.add nb 1)=some (.slice i.a i.len i.cap)/\
  Calls aj 253 #[.pointer (some r)] p λM d=>∃C:ad,M=.returned C/\af x p d/\
  ao (d.alloc (.cells #[C] 39)) λE=>af x d E/\∃F:ad,∃j:J,Sem.run aj (Builtin.append_ #[93,93] 93 #[i,.slice (some d.heap.size) 1 1]) E=.ok F j/\
  (∃u:aa,j.cell? (Addr.add nb 1)=some u)/\j.frozen? (Addr.add nb 1)=false/\ao (j.setCell (Addr.add nb 1) F) λN=>R N:=by
 have hd:=h.drew;have ac:=h.o7;have ae:=h.o8;obtain⟨bS,aU,a_,bd⟩:=bJ hd.v;refine aX ⟨λq=>q=r,λe=>h.kg (by rw[aA]at e;exact e.symm),K,aU,(BO hd.rd hd.o9).use ?_⟩;rintro _ d ⟨t,n,rfl,ht,O,hc,y⟩;have ag:w.drew.heap.size=w.heap.size:=rfl;have P:=hc.size;have z:∀ {B:Nat->Prop},(∀q,B q->lo<=q)->∀k,B k->¬(k=r):=λQ k c e=>by have:=Q k c;omega
 have S:=bj.ah hd.keys hc (z λq b=>(h.bZ q b).1);have T:=bj.ah hd.vals hc (z λq b=>(h.bv q b).1);have U:=cJ.ah hd.kids hc (z λq b=>(h.aP q b).1);have W:=hd.v.ah hc (λe=>h.kg e.symm);refine⟨t,rfl,hc,vX (B:=Grow bC w.drew d) W (o:=1) (by simp) (bj.a7 S λk _ h=>.inl h) ?_ (bq.a7 ht λk c h=>.inr ⟨h,c⟩) ?_ G λw' l aw ay f=>?_⟩
 .rintro(h1|h1)
  .have:=(h.bZ nb h1).1;omega
  .omega
 .intro k X Y
  obtain⟨ts,_,_,A,_⟩:=h.keys;have:=(A k Y).2;have:=(ht.2.2 k X).1;omega
 have Z:∀q,Grow (Grow bC w.drew d) d w' q->bC q\/(w.heap.size<=q/\q<w'.heap.size):=by
  rintro q ((h1|h1)|h1)
  .exact .inl h1
  .exact .inr ⟨h1.1,fa h1.2 f.size⟩
  .exact .inr ⟨eK P h1.1,h1.2⟩
 have hg:=f.size;have g:∀q,aB K q->bC q:=λq b=>by
  obtain⟨ts,_,_,A,_⟩:=h.keys;exact(A q b).1
 refine H w' l n (λq=>bC q\/(w.heap.size<=q/\q<w'.heap.size)) ⟨by simpa using aw,O.ah f ?_ ?_,bj.a7 ay λk _ c=>Z k c,bj.ah T f ?_,cJ.ah U f ?_,?_,λq b=>?_,λq b=>?_,λq b=>h.hs q (y q b),h.o7,h.o8,h.kg,eK (BN m.2).1 h.o9⟩ ?_ I
 .rintro(h1|h1)
  .exact h.kg h1
  .have:=(h.bZ r (g r h1)).1;omega
 .rintro q b (h1|h1)
  .exact(h.hs q (y q b)).2 h1
  .have:=(h.bZ q (g q h1)).1
   have:=(h.hs q (y q b)).1;omega
 .rintro q b (h1|h1)
  .have:=(h.bv q b).1;omega
  .exact(h.bZ q (g q h1)).2.2.1 b
 .rintro q b (h1|h1)
  .have:=(h.aP q b).1;omega
  .exact(h.bZ q (g q h1)).2.2.2 b
 .rintro q (h1|h1)
  .have:=h.bZ q h1;exact⟨this.1,I,this.2.2⟩
  .exact⟨I,h1.2,λh2=>by have:=h.bv q h2;omega,λh2=>by have:=h.aP q h2;omega⟩
 .have:=h.bv q b;exact⟨this.1,I,this.2.2⟩
 .have:=h.aP q b;exact⟨this.1,I⟩
 .refine((af.c0 (cG w)).trans (hc.mono λk _ c=>.inl c)).trans (f.mono λk _ c=>?_)
  rcases c with c|c
  .exact .inr (.inl c)
  .exact .inr (.inr (h.bZ k (g k c)).1)
theorem GR{lo:Nat}{w:J}{r nb:Nat}{s:ad}{m:aD×Rd}{K V D:ad}{bC bT br:Nat->Prop}(h:kf lo w r nb s m K V D bC bT br)(ab:lo<=w.heap.size)(G:m.1.vals.length<=100000){R:J->Prop}
 (H:∀ (w':J) (l n:ad) (L:Nat->Prop),kf lo w' r nb n (⟨m.1.leaf,m.1.keys,m.1.vals++ [(jK m.2).1],m.1.kids⟩,(jK m.2).2) K l D bC L br->af (o_ lo r nb) w w'->lo<=w'.heap.size->R w'):
 ao w.drew λp=>∃x:Nat->Prop,¬x (Addr.add nb 2).block/\∃i:ad,p.cell? (Addr.add nb 2)=some (.slice i.a i.len i.cap)/\
  Calls aj 253 #[.pointer (some r)] p λM d=>∃C:ad,M=.returned C/\af x p d/\
  ao (d.alloc (.cells #[C] 39)) λE=>af x d E/\∃F:ad,∃j:J,Sem.run aj (Builtin.append_ #[93,93] 93 #[i,.slice (some d.heap.size) 1 1]) E=.ok F j/\
  (∃u:aa,j.cell? (Addr.add nb 2)=some u)/\j.frozen? (Addr.add nb 2)=false/\ao (j.setCell (Addr.add nb 2) F) λN=>R N:=by
 have hd:=h.drew;have ac:=h.o7;have ae:=h.o8;obtain⟨bS,aU,a_,bd⟩:=bJ hd.v;refine aX ⟨λq=>q=r,λe=>h.kg (by rw[aA]at e;exact e.symm),V,a_,(BO hd.rd hd.o9).use ?_⟩;rintro _ d ⟨t,n,rfl,ht,O,hc,y⟩;have ag:w.drew.heap.size=w.heap.size:=rfl;have P:=hc.size;have z:∀ {B:Nat->Prop},(∀q,B q->lo<=q)->∀k,B k->¬(k=r):=λQ k c e=>by have:=Q k c;omega
 have S:=bj.ah hd.keys hc (z λq b=>(h.bZ q b).1);have T:=bj.ah hd.vals hc (z λq b=>(h.bv q b).1);have U:=cJ.ah hd.kids hc (z λq b=>(h.aP q b).1);have W:=hd.v.ah hc (λe=>h.kg e.symm);refine⟨t,rfl,hc,vX (B:=Grow bT w.drew d) W (o:=2) (by simp) (bj.a7 T λk _ h=>.inl h) ?_ (bq.a7 ht λk c h=>.inr ⟨h,c⟩) ?_ G λw' l aw ay f=>?_⟩
 .rintro(h1|h1)
  .have:=(h.bv nb h1).1;omega
  .omega
 .intro k X Y
  obtain⟨ts,_,_,A,_⟩:=h.vals;have:=(A k Y).2;have:=(ht.2.2 k X).1;omega
 have Z:∀q,Grow (Grow bT w.drew d) d w' q->bT q\/(w.heap.size<=q/\q<w'.heap.size):=by
  rintro q ((h1|h1)|h1)
  .exact .inl h1
  .exact .inr ⟨h1.1,fa h1.2 f.size⟩
  .exact .inr ⟨eK P h1.1,h1.2⟩
 have hg:=f.size;have g:∀q,aB V q->bT q:=λq b=>by
  obtain⟨ts,_,_,A,_⟩:=h.vals;exact(A q b).1
 refine H w' l n (λq=>bT q\/(w.heap.size<=q/\q<w'.heap.size)) ⟨by simpa using aw,O.ah f ?_ ?_,bj.ah S f ?_,bj.a7 ay λk _ c=>Z k c,cJ.ah U f ?_,λq b=>?_,?_,λq b=>?_,λq b=>h.hs q (y q b),h.o7,h.o8,h.kg,eK (BN m.2).1 h.o9⟩ ?_ I
 .rintro(h1|h1)
  .exact h.kg h1
  .have:=(h.bv r (g r h1)).1;omega
 .rintro q b (h1|h1)
  .exact(h.hs q (y q b)).2 h1
  .have:=(h.bv q (g q h1)).1
   have:=(h.hs q (y q b)).1;omega
 .rintro q b (h1|h1)
  .have:=(h.bZ q b).1;omega
  .exact(h.bZ q b).2.2.1 (g q h1)
 .rintro q b (h1|h1)
  .have:=(h.aP q b).1;omega
  .exact(h.bv q (g q h1)).2.2 b
 .have:=h.bZ q b
  refine⟨this.1,I,?_,this.2.2.2⟩;rintro(h1|h1)
  .exact this.2.2.1 h1
  .omega
 .rintro q (h1|h1)
  .have:=h.bv q h1;exact⟨this.1,I,this.2.2⟩
  .exact⟨I,h1.2,λh2=>by have:=h.aP q h2;omega⟩
 .have:=h.aP q b;exact⟨this.1,I⟩
 .refine((af.c0 (cG w)).trans (hc.mono λk _ c=>.inl c)).trans (f.mono λk _ c=>?_)
  rcases c with c|c
  .exact .inr (.inl c)
  .exact .inr (.inr (h.bv k (g k c)).1)
theorem BS{lo:Nat}{w:J}{r nb:Nat}{s:ad}{m:aD×Rd}{K V D:ad}{bC bT br:Nat->Prop}(h:kf lo w r nb s m K V D bC bT br)(T:lo<=w.heap.size)(A:m.1.kids.length<=100000){R:J->Prop}
 (C:∀ (w':J) (aC l:ad) (E:Nat->Prop),kf lo w' r nb l (⟨m.1.leaf,m.1.keys,m.1.vals,m.1.kids++ [(rdNum m.2 2).1]⟩,(rdNum m.2 2).2) K V aC bC bT E->af (o_ lo r nb) w w'->lo<=w'.heap.size->R w'):
 ao w.drew λn=>∃p:Nat->Prop,¬p (Addr.add nb 3).block/\∃i:ad,n.cell? (Addr.add nb 3)=some (.slice i.a i.len i.cap)/\
  Calls aj 252 #[.pointer (some r),(2:Int)] n λF d=>∃n30:Int,F=.returned n30/\af p n d/\
  ao (d.alloc (.cells #[n30] 3)) λy=>af p d y/\∃z:ad,∃j:J,Sem.run aj (Builtin.append_ #[72,72] 72 #[i,.slice (some d.heap.size) 1 1]) y=.ok z j/\
  (∃u:aa,j.cell? (Addr.add nb 3)=some u)/\j.frozen? (Addr.add nb 3)=false/\ao (j.setCell (Addr.add nb 3) z) λG=>R G:=by
 have hd:=h.drew;have U:=h.o7;have W:=h.o8;obtain⟨bS,aU,a_,bd⟩:=bJ hd.v;refine aX ⟨λq=>q=r,λe=>h.kg (by rw[aA]at e;exact e.symm),D,bd,(yv hd.rd 2 (by decide) hd.o9).use ?_⟩;rintro _ d ⟨l,rfl,H,hc,t⟩;have X:w.drew.heap.size=w.heap.size:=rfl;have L:=hc.size;have x:∀ {B:Nat->Prop},(∀q,B q->lo<=q)->∀k,B k->¬(k=r):=λM k c e=>by have:=M k c;omega
 have N:=bj.ah hd.keys hc (x λq b=>(h.bZ q b).1);have O:=bj.ah hd.vals hc (x λq b=>(h.bv q b).1);have P:=cJ.ah hd.kids hc (x λq b=>(h.aP q b).1);have Q:=hd.v.ah hc (λe=>h.kg e.symm);refine⟨_,rfl,hc,BP (rdNum m.2 2).1 (B:=br) Q (o:=3) (by simp) P (λh1=>by have:=(h.aP nb h1).1;omega) A λw' aC aw ay f=>?_⟩;have S:∀q,Grow br d w' q->br q\/(w.heap.size<=q/\q<w'.heap.size):=by
  rintro q (h1|h1)
  .exact .inl h1
  .exact .inr ⟨eK L h1.1,h1.2⟩
 have hg:=f.size;have g:∀q,aB D q->br q:=λq b=>(h.kids.2 q b).1;refine C w' aC l (λq=>br q\/(w.heap.size<=q/\q<w'.heap.size)) ⟨by simpa using aw,H.ah f ?_ ?_,bj.ah N f ?_,bj.ah O f ?_,cJ.a7 ay λk _ c=>S k c,λq b=>?_,λq b=>?_,?_,λq b=>h.hs q (t q b),h.o7,h.o8,h.kg,eK (vW m.2 2) h.o9⟩ ?_ I
 .rintro(h1|h1)
  .exact h.kg h1
  .have:=(h.aP r (g r h1)).1;omega
 .rintro q b (h1|h1)
  .exact(h.hs q (t q b)).2 h1
  .have:=(h.aP q (g q h1)).1
   have:=(h.hs q (t q b)).1;omega
 .rintro q b (h1|h1)
  .have:=(h.bZ q b).1;omega
  .exact(h.bZ q b).2.2.2 (g q h1)
 .rintro q b (h1|h1)
  .have:=(h.bv q b).1;omega
  .exact(h.bv q b).2.2 (g q h1)
 .have:=h.bZ q b
  refine⟨this.1,I,this.2.2.1,?_⟩;rintro(h1|h1)
  .exact this.2.2.2 h1
  .omega
 .have:=h.bv q b
  refine⟨this.1,I,?_⟩;rintro(h1|h1)
  .exact this.2.2 h1
  .omega
 .rintro q (h1|h1)
  .have:=h.aP q h1;exact⟨this.1,I⟩
  .exact⟨I,h1.2⟩
 .refine((af.c0 (cG w)).trans (hc.mono λk _ c=>.inl c)).trans (f.mono λk _ c=>?_)
  rcases c with c|c
  .exact .inr (.inl c)
  .exact .inr (.inr (h.aP k (g k c)).1)
def iP:aD:=⟨false,[],[],[]⟩
def bH:ad:=⟨none,0,0⟩
def yx(leaf:al)(l:O UInt8)(w w':J)(v:aa):Prop:=
 (∃ (n:aD) (K V D:ad),v=.tuple #[db n K V D,(0:Int)]/\lJ leaf l n/\bQ (λq=>w.heap.size<=q) w' n K V D)\/
 (v=.tuple #[db iP bH bH bH,(4:Int)]/\∀n,¬lJ leaf l n)
theorem iQ{w':J}{h:Nat}{vs:O aa}(b:al)(K V D:ad)(c:Var w' h vs 169)(g:vs.length=4){Q:al->ad->ad->ad->J->Prop}(j:∀ai,af (λq=>q=h) w' ai->Q b K V D ai):
 bI w' h [b,K,V,D]/\(4:Nat)=4/\ao (setCells w' h 0 [b,K,V,D]) λai=>
  ∃i:al,ai.cell? h=some (.bool i)/\∃d:ad,ai.cell? (Addr.add h 1)=some (.slice d.a d.len d.cap)/\∃e:ad,ai.cell? (Addr.add h 2)=some (.slice e.a e.len e.cap)/\
   ∃f:ad,ai.cell? (Addr.add h 3)=some (.slice f.a f.len f.cap)/\Q i d e f ai:=by
 refine⟨c.cl (by rw[g];rfl) ?_,rfl,cP c (us:=[b,K,V,D]) (by rw[g];rfl) rfl λai k hc _=>?_⟩
 .intro v c
  simp only[cX,fk,fv]at c;rcases c with rfl|rfl|rfl|rfl<;>trivial
 .obtain⟨bS,aU,a_,bd⟩:=bJ k
  exact⟨b,bS,K,aU,V,a_,D,bd,j ai hc⟩
theorem qw{w:J}{s:ad}{l:O UInt8}(hs:Src 1 w s (az l))(hc:s.len<=s.cap)(T:∀k,aB s k->k<w.heap.size)(am:l.length<=100000)(leaf:al):
 aJ aj 206 #[leaf,s] w (λv w'=>yx leaf l w w' v/\Ext w w'):=by
 refine okF (ae.qw leaf s) ax.qw func206 ?_;(delta ae.qw z4 Y bY ak xz r1 st bD aq aT ey b6 rZ;dsimp only);refine a8 (vs:=[false,(),(),()]) rfl λw1 aQ an bI=>?_;refine a8 (vs:=[s,true]) rfl λai aR U bK=>?_;refine a8 (vs:=[false,(),(),()]) rfl λbL ao F bM=>?_;refine⟨ao.cl rfl (by
  intro v ap;simp only[cX,fk,fv]at ap;rcases ap with rfl|rfl|rfl|rfl<;>trivial),rfl,cP ao (us:=[leaf,(),(),()]) rfl rfl λm aS G bN=>?_⟩
 obtain⟨lo,bO⟩:∃lo,lo=m.heap.size:=⟨_,rfl⟩;obtain⟨r,ar⟩:∃r,r=w1.heap.size:=⟨_,rfl⟩;obtain⟨nb,au⟩:∃nb,nb=ai.heap.size:=⟨_,rfl⟩;have aV:Ext w m:=Ext.cy (an.trans (U.trans F)) G I;have aX:jj m w1.heap.size s (l,true):=by
  refine⟨(aR.ext F).ah G I,(hs.ext (an.trans (U.trans F))).ah G λk c e=>?_,hc,λk c=>?_⟩
  .have:=T k c;omega
  .have:=T k c;omega
 refine(yv aX 1 (by decide) am).use ?_;rintro _ av ⟨aD,rfl,aY,W,aZ⟩;have bP:(rdNum (l,true) 1).1<256:=yw _ 1;have bR:=W.size;have aE:kf lo av r nb aD (⟨leaf,[],[],[]⟩,(rdNum (l,true) 1).2) bH bH bH (λ_=>False) (λ_=>False) (λ_=>False):=by
  refine⟨by rw[au];exact aS.ah W I,by rw[ar];exact aY,bj.none _ _,bj.none _ _,cJ.none _ _,λq h=>h.elim,λq h=>h.elim,λq h=>h.elim,λq a=>?_,I,I,I,eK (vW _ 1) am⟩;have:=T q (aZ q a);exact⟨I,I⟩
 have aF:af (o_ lo r nb) m av:=W.mono λk _ c=>.inl I;rw[←ar,←au];refine⟨_,rfl,k2 (λw'=>∃ (u D:ad) (br:Nat->Prop),kf lo w' r nb u (mv leaf (rdNum (l,true) 1).2) bH bH D (λ_=>False) (λ_=>False) br/\af (o_ lo r nb) m w'/\lo<=w'.heap.size) (λq a=>⟨λd=>?_,λd=>a _ ⟨aD,bH,λ_=>False,?_,aF,I⟩⟩) ?_⟩
 .have d:leaf=false:=by simpa using d
  subst d;refine BS aE I (by simp) λw' aC u a0 h1 h2 o=>a _ ⟨u,aC,a0,?_,aF.trans h2,o⟩;have:mv false (rdNum (l,true) 1).2=(⟨false,[],[],[]++ [(rdNum (rdNum (l,true) 1).2 2).1]⟩,(rdNum (rdNum (l,true) 1).2 2).2):=by simp[mv]
  rw[this];exact h1
 .have d:leaf=true:=by simpa using d
  subst d;exact aE
 rintro bU ⟨a1,a2,a3,aG,a4,a5⟩;obtain⟨f,H⟩:∃f,f=mv leaf (rdNum (l,true) 1).2:=⟨_,rfl⟩;rw[←H]at aG;have a6:f.1.leaf=leaf:=by rw[H];unfold mv;cases leaf<;>rfl
 have bV:f.1.keys.length=0/\f.1.vals.length<=1/\f.1.kids.length<=1:=by rw[H];unfold mv;cases leaf<;>simp
 refine⟨λi w'=>∃ (j:Nat) (u K V D:ad) (bC bT br:Nat->Prop),i=j/\j<=(rdNum (l,true) 1).1/\kf lo w' r nb u (h8 f j) K V D bC bT br/\af (o_ lo r nb) m w'/\lo<=w'.heap.size,λi _=>(((rdNum (l,true) 1).1:Int)-i).toNat,⟨0,a1,bH,bH,a2,_,_,a3,rfl,cL _,aG,a4,a5⟩,?_⟩;rintro _ aI ⟨j,bW,K,V,D,bC,bT,br,rfl,bX,g,L,a9⟩;obtain⟨ba,bb,bc⟩:=BR f j;have x:=BQ f j a6;refine⟨λaH=>?_,λX=>?_⟩
 .have aH:j<(rdNum (l,true) 1).1:=by have:=cj aH;omega
  rw[bn (n:=(j:Int)+1) I I];refine k2 (λw'=>∃ (u K V D:ad) (bC bT br:Nat->Prop),kf lo w' r nb u (h8 f (j+1)) K V D bC bT br/\af (o_ lo r nb) m w'/\lo<=w'.heap.size) (λq a=>?_) ?_
  .refine GQ g a9 I λy M aK N P R S=>⟨λd=>?_,λd=>?_⟩
   .refine GR P S (by show(h8 f j).1.vals.length<=_;omega) λZ be aa bf B p ab=>a _ ⟨aa,M,be,D,N,bf,br,?_,L.trans (R.trans p),ab⟩
    rw[h8];unfold o4;rw[x,d,if_pos rfl];rw[x,d]at B;exact B
   .refine BS P S (by show(h8 f j).1.kids.length<=_;omega) λZ bg aa bh B p ab=>a _ ⟨aa,M,V,bg,N,bT,bh,?_,L.trans (R.trans p),ab⟩
    rw[h8];unfold o4;rw[x,d,if_neg (by simp)];rw[x,d]at B;exact B
  .rintro y ⟨aK,M,bi,bk,N,bm,bo,P,R,S⟩
   refine⟨⟨j+1,aK,M,bi,bk,N,bm,bo,I,I,P,R,S⟩,?_⟩;show(((rdNum (l,true) 1).1:Int)-((j:Int)+1)).toNat<(((rdNum (l,true) 1).1:Int)-(j:Int)).toNat;omega
 .have X:j=(rdNum (l,true) 1).1:=by have:=cH X;omega
  have bp:h8 f j=iw leaf l:=by rw[X,H];rfl
  rw[bp]at g ba bb bc x;obtain⟨bS,aU,a_,bd⟩:=bJ g.v;have eg:bQ (λq=>lo<=q) aI (iw leaf l).1 K V D:=⟨bG.a7 (bj.ke g.keys) λq _ a=>(g.bZ q a).1,bG.a7 (bj.ke g.vals) λq _ a=>(g.bv q a).1,cY.a7 (cJ.qO g.kids) λq _ a=>(g.aP q a).1⟩;have bq:Ext w aI:=Ext.dS aV L λk c=>by
   rcases c with c|c|c<;>omega
  refine⟨_,bS,K,aU,V,a_,D,bd,(oM eg I I I).use ?_⟩;rintro bs y ⟨bt,C⟩;have ac:=bq.trans C;have bu:=g.v.ext C;have bw:=g.rd.ext C;have aL:Var y w.heap.size [false,(),(),()] 169:=by
   refine(Var.ah (w:=m) ?_ L ?_).ext C
   .exact(((aQ.ext U).ext F).ah G I)
   .rintro(c|c|c)<;>omega
  have bx:=eg.ext C;obtain⟨d0,d1,d2,d3⟩:=bJ bu;have bA:∃ (z:ad) (e:Int),bs=Value.tuple #[z,e]/\(e=0->aW 1 5 y z (az (jg (iw leaf l).1))/\cC (iw leaf l).1/\bz (iw leaf l).1<=232)/\(e≠0->cC (iw leaf l).1->232<bz (iw leaf l).1):=by
   rcases bt with ⟨z,rfl,h1,h2,o,A⟩|⟨e,rfl,h1,h2⟩
   .exact⟨z,0,rfl,λ_=>⟨h1,o,A⟩,λh=>absurd rfl h⟩
   .exact⟨bH,e,rfl,λh=>absurd h h1,λ_=>h2⟩
  obtain⟨z,e,rfl,bB,aM⟩:=bA;have bE:Src 1 y s (az l):=hs.ext ac
  have aN:∀n,lJ leaf l n->iw leaf l=(n,([],true)):=by
   rintro n ⟨h1,h2,o,A⟩;have:=yi h1 o;rw[h2,A]at this;exact this
  refine⟨z,e,rfl,_,rfl,(iw leaf l).2.2,by rw[aA];exact bw.v.cell,cA (λb w'=>y=w'/\(b=true->∀n,¬lJ leaf l n)/\(b=false->lJ leaf l (iw leaf l).1)) (λq a=>⟨λh1=>a _ _ ⟨rfl,λ_ n E=>?_,λh=>(by cases h)⟩,λh1=>?_⟩) ?_⟩
  .have hu:=aN n E
   obtain⟨h2,o,A,aO⟩:=E;rw[hu]at h1 aM;have h1:(e !=0)=true:=by simpa using h1
   have b0:232<bz n:=aM (by simpa using h1) h2;omega
  .have bF:(iw leaf l).2.2=true/\e=0:=by
    simp only[rh,l3,bne_eq_false_iff_eq]at h1;exact h1
   obtain⟨h2,rfl⟩:=bF;obtain⟨o,A,aO⟩:=bB rfl;refine(oy o.src bE).use ?_;rintro _ _ ⟨rfl,rfl⟩;refine⟨_,rfl,a _ _ ⟨rfl,λt n E=>?_,λt=>?_⟩⟩
   .have hu:=aN n E
    have t:¬jg (iw leaf l).1=l:=by simpa using t
    rw[hu]at t;exact t E.2.2.2
   .have t:jg (iw leaf l).1=l:=by simpa using t
    exact⟨A,x,aO,t⟩
  rintro b w' ⟨rfl,aw,ay⟩;refine⟨λag=>?_,λag=>⟨_,d0,K,d1,V,d2,D,d3,?_⟩⟩
  .refine iQ false bH bH bH aL rfl (Q:=λb K V D ai=>(λv w'=>yx leaf l w w' v/\Ext w w') (.tuple #[.agg #[b,K,V,D],(4:Int)]) ai) λZ p=>⟨.inr ⟨rfl,aw ag⟩,Ext.cy ac p (bl _)⟩
  .refine iQ (iw leaf l).1.leaf K V D aL rfl (Q:=λb K V D ai=>(λv w'=>yx leaf l w w' v/\Ext w w') (.tuple #[.agg #[b,K,V,D],(0:Int)]) ai) λZ p=>⟨.inl ⟨(iw leaf l).1,K,V,D,rfl,ay ag,?_⟩,Ext.cy ac p (bl _)⟩
   exact(bx.ah p λk c e=>I).a7 λk _ c=>by omega
theorem GS{s v:ad}{vs xs:O aa}{i l7:Nat}{al:Array aa}{am:TypeId}{w:J}(H:aW 1 39 w s vs)(N:Src 1 w v xs)(g:v.len=1)(an:v.a=some ⟨l7,0,none⟩)(T:bm w l7 al am)(ao:¬aB s l7)
 (U:∀u∈xs,Plain u) (aO:∀u∈vs,Plain u) (hi:i<=s.len) (a_:s.len<=1000000):
 aJ aj 200 #[s,.int .i64 (i:Int),v] w (λu w'=>∃z:ad,u=z/\aW 1 39 w' z (vs.take (i*1)++xs++vs.drop (i*1))/\z.len=s.len+1/\af (aB s) w w'/\(∀k,aB z k->aB s k\/w.heap.size<=k)):=by
 obtain⟨h1,ba,bb,h2,ap,aP,aQ,E,ar,aR⟩:=(qP).out;obtain⟨d0,K⟩:=j3 _ ap;refine okF (ae.ug s i v) ax.ug func200 ?_;delta ae.ug ak aq gJ;have bc:=H.2.1;have bd:=H.2.2.1;have be:maxLen=9223372036854775807:=rfl;have p:xs.length=1:=by have:=N.len;rw[g]at this;omega
 have V:=H.1;refine⟨⟨I,I⟩,λh=>by rw[g]at h;simp at h,λ_=>⟨λh=>?_,λh=>?_⟩⟩
 .have aS:i=s.len:=by have:=eq_of_beq h;omega
  subst aS;obtain⟨z,w',aw,ay,X,Q,F⟩:=(qP).append (cB:=93) N H U (by rw[g];omega);refine⟨z,w',aw,z,rfl,?_,by rw[X,g],Q,F⟩;rwa[dX I,List.drop_of_length_le I,fu]
 have aH:i<s.len:=by
  have h:¬((i:Int)=(s.len:Int)):=λe=>by rw[e]at h;simp at h
  omega
 rcases H.2.2.2 with ⟨_,hc⟩|⟨b,c,r,G,av,az⟩
 .omega
 have aT:b≠l7:=λe=>ao ⟨_,r,e⟩;have aU:IntKind.wrap .i64 ((s.len:Int)+(v.len:Int))=((s.len+1:Nat):Int):=by rw[g,bn I I];rfl
 have aV:IntKind.wrap .i64 ((i:Int)+(v.len:Int))=((i+1:Nat):Int):=by rw[g,bn I I];rfl
 have aZ:IntKind.wrap .i64 (((s.len+1:Nat):Int)-(i:Int))=((s.len+1-i:Nat):Int):=by rw[bn I I];omega
 have bf:c.toList.length=s.cap*1:=by simpa using av
 have aA:∀k,k<=s.len->vs.take (k*1)=c.toList.take (k*1):=λk d=>by rw[←az,nV,hV I]
 have aC:vs.drop (i*1)=(c.toList.drop (i*1)).take ((s.len-i)*1):=by rw[←az,List.drop_take,show s.len*1-i*1=(s.len-i)*1 from I]
 have aD:∀u∈vs.drop (i*1),Plain u:=λu hu=>aO u (fH hu);have B:(vs.drop (i*1)).length=(s.len-i)*1:=by rw[ed,V];omega
 have L:∀ (Y o l m:Nat),l<m->aY (some (Addr.mk Y o none)) 1 l m=some ⟨Y,o+l*1,none⟩:=λY o l m bg=>mb I;simp only[aU,aV,aZ,dg,mQ,xt];refine⟨λhg=>?_,λhg=>?_⟩
 .have bh:s.cap<s.len+1:=by have:=cj hg;omega
  have a0:Src 1 w ⟨some b,i,s.cap⟩ (vs.take (i*1)):=by
   have:=G.rW (sz:=1) (o:=0) (n:=i) (cap:=s.cap) I;rw[iF]at this;rwa[aA i I]
  obtain⟨j,zs,rest,aw,ay,X,Q,F⟩:=EJ (P:=aj) (gi:= #[93,3]) (cB:=93) (j5:=3) (k:=.i64) (s:=⟨some b,i,s.cap⟩) (n:=s.len+1-i) rfl rfl h1 (by kernel_rfl) h2 ap aP aQ E (by rw[ar];exact aR) a0 (by show s.cap<i+_;omega) (by rw[ar];show(2*(i+_)+1000)*_<=_;omega);have a1:i+(s.len+1-i)=s.len+1:=by omega
  simp only[a1]at aw Q F;obtain⟨C,Z⟩:∃C,C=(vs.take (i*1)++zs++rest).toArray:=⟨_,rfl⟩;rw[←Z]at F;obtain⟨D,ab⟩:∃D,D=w.drew.alloc (.cells C 39):=⟨_,rfl⟩;rw[←ab]at F;have aE:bm D w.heap.size C 39:=by rw[ab];exact bm.new w.drew _ _
  have aF:Ext w D:=by rw[ab];exact af.alloc (af.drew (.refl _ _)) _
  have f:(vs.take (i*1)).length=i*1:=by rw[cI,V];omega
  have aG:C.size=j*1:=by rw[Z];simp[f,X,Q];omega
  have bi:C.toList.length=j*1:=by simpa using aG
  have M:=tO (P:=aj) (mg:=93) (cE:=93) (ty:=3) (A:=⟨w.heap.size,0+i*1,none⟩) (dl:=s.len+1-i) (ot:=j-i) (n:=1) h1 K E (x:=v) (by rw[g];exact hV I) (xs:=xs) (by have:=N.ext aF;have e:(⟨v.a,1,v.cap⟩:ad)=v:=(by rw[←g]);rw[e];exact this) (by rw[cR];exact aE.cl _ _ I U);obtain⟨t,ac⟩:∃t,t=setCells D ⟨w.heap.size,0+i*1,none⟩ 0 xs:=⟨_,rfl⟩;rw[←ac]at M;have aI:bm t w.heap.size (gk C (i*1) xs) 39:=by rw[ac,cR];exact aE.k5 xs
  have a2:Ext w t:=by rw[ac];exact Ext.dS aF (af.jC (.refl _ _) xs 0) (λk d=>by subst d;exact bl _)
  have a3:Ext t t.drew:=af.drew (.refl _ _);have aK:=Ext.trans a2 a3;have ag:=tO (P:=aj) (w:=t.drew) (mg:=93) (cE:=93) (ty:=3) (A:=⟨w.heap.size,0+(i+1)*1,none⟩) (dl:=s.len+1-(i+1)) (ot:=j-(i+1)) (n:=s.len-i) h1 K E (x:=⟨some ⟨b,0+i*1,none⟩,s.len-i,s.cap-i⟩) (hV (by show s.len-i<=_;omega)) (xs:=vs.drop (i*1))
   (by have:=(G.ext aK).rW (sz:=1) (o:=i*1) (n:=s.len-i) (cap:=s.cap-i) I;rw[aC,cR];exact this) (by rw[cR];exact bm.cl (bm.drew aI) _ _ (by rw[hZ];omega) aD)
  have R:aY (some (Addr.mk w.heap.size 0 none)) 1 i j=some ⟨w.heap.size,0+i*1,none⟩:=L _ _ _ _ I;have S:aY (some (Addr.mk w.heap.size 0 none)) 1 (i+1) j=some ⟨w.heap.size,0+(i+1)*1,none⟩:=L _ _ _ _ I;have a4:aY s.a 1 i s.cap=some ⟨b,0+i*1,none⟩:=by rw[r];exact L _ _ _ _ I
  have a5:Sem.run aj (Builtin.append_ #[93,3] 93 #[.slice s.a i s.cap,.int .i64 ((s.len+1-i:Nat):Int)]) w=.ok (.slice (some w.heap.size) (s.len+1) j) D:=by rw[r];exact F
  refine⟨⟨I,I⟩,⟨some w.heap.size,s.len+1,j⟩,D,a5,⟨I,by show(i:Int)<=((s.len+1:Nat):Int);omega⟩,_,t,by rw[R];exact M,aX ⟨⟨I,by show((i+1:Nat):Int)<=((s.len+1:Nat):Int);omega⟩,⟨I,I⟩,_,_,by rw[S,a4];exact ag,⟨some w.heap.size,s.len+1,j⟩,rfl,?_,rfl,?_,?_⟩⟩
  .refine aW.mk' ((bm.drew aI).k5 (o:=0+(i+1)*1) _) (by simp[f,p,B];omega) I I (by rw[hZ,hZ,aG]) ?_
   rw[k4 _ _ _ (by rw[hZ];omega),k4 _ _ _ I];have t1:C.toList.take (i*1)=vs.take (i*1):=by rw[Z,rq,cz];exact nY f
   have t2:(C.toList.take (i*1)++xs++C.toList.drop (i*1+xs.length)).take (0+(i+1)*1)=vs.take (i*1)++xs:=by
    rw[t1,pG (by simp[f,p];omega),dX (by simp[f,p];omega)]
   rw[t2,pG (by simp[f,p,B];omega),dX (by simp[f,p,B];omega)]
  .exact af.c0 (Ext.dS aK (af.jC (.refl _ _) _ 0) (λk d=>by subst d;exact bl _))
  .rintro k ⟨A,au,d⟩
   cases au;exact .inr (Nat.le_of_eq d)
 .have bj:s.len+1<=s.cap:=by have:=cH hg;omega
  have R:aY s.a 1 (i+1) s.cap=some ⟨b,0+(i+1)*1,none⟩:=by rw[r];exact L _ _ _ _ I
  have S:aY s.a 1 i s.cap=some ⟨b,0+i*1,none⟩:=by rw[r];exact L _ _ _ _ I
  have a6:Sem.run aj (callFunc 248 #[v,.slice (some ⟨b,0+(i+1)*1,none⟩) (s.len+1-(i+1)) (s.cap-(i+1))]) w=.ok (.value false) w:=by
   rw[an,run_callFunc_extern (e:=Extern.SlicesOverlaps.overlaps #[93,93] #[4]) func248 (by kernel_rfl) (by kernel_rfl) (by kernel_rfl) (by kernel_rfl)];have:=Lib.run_overlaps_apart (P:=aj) w 93 4 39 h1 1 (λw=>by have:=g2 (w:=w) K;rwa[E]at this) l7 ⟨b,0+(i+1)*1,none⟩ v.len v.cap (s.len+1-(i+1)) (s.cap-(i+1)) (λe=>aT e.symm) am 39 al.size c.size
    (by have:=T;unfold bm at this;simp[World.shape?,this]) (by have:=G;unfold bm at this;simp[World.shape?,this]) I (T.frozen _ rfl) (T.frozen _ rfl)
   rw[this];rfl
  have M:=tO (P:=aj) (w:=w.drew) (mg:=93) (cE:=93) (ty:=3) (A:=⟨b,0+(i+1)*1,none⟩) (dl:=s.len+1-(i+1)) (ot:=s.cap-(i+1)) (n:=s.len-i) h1 K E (x:=⟨some ⟨b,0+i*1,none⟩,s.len+1-i,s.cap-i⟩) ((Nat.min_eq_right (by show _<=s.len+1-i;omega)).trans I) (xs:=vs.drop (i*1))
   (by have:=(bm.drew G).rW (sz:=1) (o:=i*1) (n:=s.len-i) (cap:=s.cap-i) I;rw[aC,cR];exact this) (by rw[cR];exact bm.cl (bm.drew G) _ _ I aD)
  obtain⟨y,ai⟩:∃y,y=setCells w.drew ⟨b,0+(i+1)*1,none⟩ 0 (vs.drop (i*1)):=⟨_,rfl⟩;rw[←ai]at M;have aL:bm y b (gk c ((i+1)*1) (vs.drop (i*1))) 39:=by rw[ai,cR];exact(bm.drew G).k5 _
  have aM:af (aB s) w y:=by
   rw[ai];exact af.mono (W:=λq=>q=b) (af.jC (af.drew (.refl _ _)) _ 0) (λk _ d=>⟨_,r,d.symm⟩)
  have a7:Src 1 y v xs:=N.ah aM (λk d a8=>by obtain⟨A,au,rfl⟩:=d;rw[an]at au;cases au;exact ao a8);have ag:=tO (P:=aj) (w:=y) (mg:=93) (cE:=93) (ty:=3) (A:=⟨b,0+i*1,none⟩) (dl:=s.len+1-i) (ot:=s.cap-i) (n:=1) h1 K E (x:=v) (by rw[g];exact hV I) (xs:=xs) (by have e:(⟨v.a,1,v.cap⟩:ad)=v:=(by rw[←g]);rw[e];exact a7) (by rw[cR];exact aL.cl _ _ (by rw[hZ];omega) U);refine⟨⟨I,I⟩,⟨I,I⟩,false,w,by rw[R];exact a6,λ_=>aX ⟨⟨I,I⟩,⟨I,I⟩,_,y,by rw[R,S];exact M,⟨I,I⟩,_,_,by rw[S];exact ag,⟨s.a,s.len+1,s.cap⟩,rfl,?_,rfl,?_,λk d=>.inl d⟩,λh=>by simp at h⟩
  .have aN:aW 1 39 (setCells y ⟨b,0+i*1,none⟩ 0 xs) ⟨some b,s.len+1,s.cap⟩ (vs.take (i*1)++xs++vs.drop (i*1)):=by
    have f:(vs.take (i*1)).length=i*1:=by rw[cI,V];omega
    refine aW.mk' (aL.k5 (o:=0+i*1) _) (by simp[f,p,B];omega) I I (by rw[hZ,hZ,av]) ?_;rw[k4 _ _ _ (by rw[hZ];omega),k4 _ _ _ I];have t1:(c.toList.take ((i+1)*1)++vs.drop (i*1)++c.toList.drop ((i+1)*1+(vs.drop (i*1)).length)).take (0+i*1)=vs.take (i*1):=by
     rw[cR,pG (by simp[B];omega),pG (by simp;omega),nV,aA i I,hV I]
    have t2:(c.toList.take ((i+1)*1)++vs.drop (i*1)++c.toList.drop ((i+1)*1+(vs.drop (i*1)).length)).drop (0+i*1+xs.length)=vs.drop (i*1)++c.toList.drop ((i+1)*1+(vs.drop (i*1)).length):=by
     have a9:(c.toList.take ((i+1)*1)).length=0+i*1+xs.length:=by simp;omega
     rw[cz,←a9,List.drop_left]
    rw[t1,t2,←cz,pG (by simp[f,p,B];omega),dX (by simp[f,p,B];omega)]
   rw[←r]at aN;exact aN
  .exact aM.trans (af.mono (W:=λq=>q=b) (af.jC (.refl _ _) _ 0) (λk _ d=>⟨_,r,d.symm⟩))
theorem GU{s:ad}{vs:O aa}{i:Nat}{w:J}(m:aW 1 39 w s vs)(M:∀u∈vs,Plain u)(N:∀z,(Tryz.prog.info? 39).bind (·.zero)=some z->∀u∈z.cells.toList,Plain u)(hi:i<s.len)(an:s.len<=1000000):
 aJ aj 184 #[s,.int .i64 (i:Int),.int .i64 ((i+1:Nat):Int)] w (λu w'=>∃p:ad,u=p/\aW 1 39 w' p (vs.take (i*1)++vs.drop ((i+1)*1))/\p.len=s.len-1/\p.a=s.a/\af (aB s) w w'):=by
 obtain⟨h1,ao,d,h2,Q,C,D,R,ap,aq⟩:=(qP).out;obtain⟨d0,S⟩:=j3 _ Q;refine okF (ae.uf s i ((i+1:Nat):Int)) ax.uf func184 ?_;(delta ae.uf ak aT;dsimp only);have ar:=m.2.1;have U:=m.2.2.1;have E:=m.1;rcases m.2.2.2 with ⟨_,hc⟩|⟨b,c,f,V,F,G⟩
 .omega
 have au:c.toList.length=s.cap*1:=by simpa using F
 simp only[dg,mQ,xt];have X:vs.drop ((i+1)*1)=(c.toList.drop ((i+1)*1)).take ((s.len-(i+1))*1):=by rw[←G,List.drop_take,show s.len*1-(i+1)*1=(s.len-(i+1))*1 from I]
 have e:(vs.drop ((i+1)*1)).length=(s.len-(i+1))*1:=by rw[ed,E];omega
 have Y:vs.take (i*1)=c.toList.take (i*1):=by rw[←G,nV,hV I]
 have l:(vs.take (i*1)).length=i*1:=by rw[cI,E];omega
 have Z:∀u∈vs.drop ((i+1)*1),Plain u:=λu hu=>M u (fH hu);have t:bm w.drew b c 39:=bm.drew V;have ab:Src 1 w.drew ⟨aY s.a 1 (i+1) s.cap,s.len-(i+1),s.cap-(i+1)⟩ (vs.drop ((i+1)*1)):=by
  by_cases he:i+1=s.cap
  .have v:s.len-(i+1)=0:=by omega
   refine⟨by rw[e],λ_=>lX.1 (by rw[e,v,mR]),λa _=>?_⟩;have:vs.drop ((i+1)*1)=[]:=lX.1 (by rw[e,v,mR]);rw[this];show bw _ _ 0 ((s.len-(i+1))*1)=_;rw[v,mR];rfl
  .rw[f,mb I,X,cR]
   exact t.rW I
 have x:=xh (P:=aj) (gi:= #[93,93]) (cB:=93) (s:=⟨s.a,i,s.cap⟩) rfl rfl h1 h1 S R ab (by show i+(s.len-(i+1))<=s.cap;omega) (λa r=>by
  have r:s.a=some a:=r;rw[f]at r;cases r;rw[aA,cR];exact t.cl _ _ (by show i*1+_<=_;omega) Z)
 have ac:i+(s.len-(i+1))=s.len-1:=by omega
 simp only[f,aA,cR,ac]at x;obtain⟨g,y⟩:∃g,g=setCells w.drew ⟨b,i*1,none⟩ 0 (vs.drop ((i+1)*1)):=⟨_,rfl⟩;rw[←y]at x;have H:bm g b (gk c (i*1) (vs.drop ((i+1)*1))) 39:=by rw[y];exact t.k5 _
 have ag:af (aB s) w g:=by
  rw[y];exact af.mono (W:=λq=>q=b) (af.jC (af.drew (.refl _ _)) _ 0) (λk _ B=>⟨_,f,B.symm⟩)
 obtain⟨zs,av,ah⟩:=EK (P:=aj) (w:=g) (T:=93) (o:=0) (n:=1) (c:=s.cap-(s.len-1)) (A:=⟨b,(s.len-1)*1,none⟩) h1 h2 C D (by decide) (λzs K=>by
  refine H.cl _ _ (by rw[K,hZ];simp[Builtin.zeroCells,D];omega) λu hu=>?_;rw[K]at hu;simp only[Builtin.zeroCells,Array.toList_map,fD]at hu;obtain⟨j,L,rfl⟩:=hu;have L:j<1*d.cells.size:=by simpa using L
  have ai:j%d.cells.size<d.cells.size:=gZ _ I;have hg:d.cells[j%d.cells.size]! =d.cells[j%d.cells.size]:=getElem!_pos d.cells (j%d.cells.size) ai;rw[hg];exact N d (by rw[h2];exact C) _ (by simp))
 have al:aY (some (Addr.mk b 0 none)) 1 (s.len-1) s.cap=some ⟨b,(s.len-1)*1,none⟩:=by rw[mb I,cR]
 have am:s.len-(s.len-1)=1:=by omega
 refine⟨⟨I,I⟩,⟨I,I⟩,⟨I,I⟩,λh=>?_,λ_=>aX ⟨⟨I,I⟩,⟨I,I⟩,⟨some b,s.len-1,s.cap⟩,g,by rw[f];exact x,⟨I,by show(s.len:Int)<=(s.cap:Int);omega⟩,⟨I,by show((s.len-1:Nat):Int)<=(s.len:Int);omega⟩,_,_,by rw[am,al];exact ah,⟨some b,s.len-1,s.cap⟩,rfl,?_,rfl,f.symm,?_⟩⟩
 .have:=eq_of_beq h;omega
 .refine aW.mk' (H.k5 _) (by simp[l,e];omega) I U (by rw[hZ,hZ,F]) ?_
  rw[k4 _ _ _ (by rw[hZ];omega),k4 _ _ _ I];have t1:(c.toList.take (i*1)++vs.drop ((i+1)*1)++c.toList.drop (i*1+(vs.drop ((i+1)*1)).length)).take ((s.len-1)*1)=vs.take (i*1)++vs.drop ((i+1)*1):=by
   rw[←Y,pG (by simp[l,e];omega),dX (by simp[l,e];omega)]
  rw[t1,cz,pG (by simp[l,e];omega),dX (by simp[l,e];omega)]
 .exact ag.trans (af.mono (W:=λq=>q=b) (af.jC (.refl _ _) _ 0) (λk _ B=>⟨_,f,B.symm⟩))
theorem sE{w:J}{s:ad}{ds:O Nat}(h:Src 1 w s (fR ds))(g:ds.length<=1000000):
 aJ aj 228 #[s] w (λv w'=>∃b:ad,v=b/\aW 1 3 w' b (fR ds)/\Ext w w'/\gq w b):=by
 have i:s.len=ds.length:=by have:=h.len;rw[qN]at this;omega
 refine okF (ae.uk s) ax.uk func228 ?_;delta ae.uk ak Y;refine⟨λc=>?_,λ_=>?_⟩
 .have c:s.a=none:=by simpa using c
  rw[h.nil c];exact⟨⟨none,0,0⟩,rfl,aW.none _ _ _,.refl _ _,λk d=>(fZ k d).elim⟩
 .obtain⟨b,w',h1,h2,j,e,f,_⟩:=sB.clone (cB:=72) h (BC ds) I
  exact aX ⟨b,w',h1,b,rfl,h2,e,f⟩
theorem GV{ks:O Key}{k:Key}{a:Nat}(d:a<=ks.length)(h1:∀ (j:Nat) (h:j<ks.length),j<a->bo ks[j] k)(h2:∀ (j:Nat) (h:j<ks.length),a<=j->¬bo ks[j] k):cF ks k=a:=by
 unfold cF;rcases ec a ks.length with h|h
 .exact(List.findIdx_eq h).2 ⟨dI (h2 a h (bl _)),λj b=>ih λc=>c (h1 j I b)⟩
 .have:a=ks.length:=by omega
  subst this;refine List.findIdx_eq_length_of_false λx hx=>?_;obtain⟨j,b,rfl⟩:=fj hx;exact ih λc=>c (h1 j b b)
def gU(ks:O Key)(k:Key):al:=decide (ks[cF ks k]? =some k)
theorem GW{B C:Nat->Prop}{s t:ad}{ks:O Key}{key:Key}{w:J}(hs:bG B w s ks)(ht:Src 1 w t (az key))(x:ks.Pairwise bo)(N:ks.length<=100000):
 aJ aj 223 #[s,t,.func (.func 219) #[] #[]] w (λv w'=>v=.tuple #[.int .i64 ((cF ks key:Nat):Int),.bool (gU ks key)]/\w=w'):=by
 refine okF (ae.uh s t ⟨219,#[],#[]⟩) ax.uh func223 ?_;(delta ae.uh ak aq r1 aP;dsimp only);have y:=bG.len hs;have o:hX aj 219:=⟨_,(pC (show(Tryz.prog.funcs[219]?).isSome=true by kernel_rfl)).symm,by kernel_rfl,by kernel_rfl⟩;have aH:=λ{i j:Nat} (hi:i<j) (e:j<ks.length)=>lv.1 x i j I e hi;refine⟨λlo hi w'=>∃a b:Nat,lo=a/\hi=b/\a<=b/\b<=ks.length/\w=w'/\(∀ (j:Nat) (h:j<ks.length),j<a->bo ks[j] key)/\(∀ (j:Nat) (h:j<ks.length),b<=j->¬bo ks[j] key),λlo hi _=>(hi-lo).toNat,
  ⟨0,ks.length,rfl,by rw[y],cL _,bl _,rfl,λj _ h=>I,λj h h2=>I⟩,?_⟩
 rintro _ _ _ ⟨a,b,rfl,rfl,P,p,rfl,h1,h2⟩;have z:=EL (a:=a) (b:=b) I;refine⟨λh=>?_,λh=>?_⟩
 .have D:(a:Int)<(b:Int):=cj h
  rw[z];obtain⟨m,E⟩:∃m,m=(a+b)/2:=⟨_,rfl⟩;rw[←E];have F:a<=m:=by omega
  have Q:m<b:=by omega
  obtain⟨A,t2,au,f,g,k,_⟩:=bG.at hs (i:=m) I;refine⟨by decide,A,au,f,t2,g,o,(lE k.1 ht).use ?_⟩;rintro _ _ ⟨rfl,rfl⟩;have G:IntKind.wrap .i64 ((m:Int)+1)=((m+1:Nat):Int):=by rw[bn I I];rfl
  refine⟨_,rfl,λhc=>?_,λhc=>?_⟩
  .have hc:bo ks[m] key:=cj hc
   rw[G];have l:((b:Int)-((m+1:Nat):Int)).toNat<((b:Int)-(a:Int)).toNat:=by omega
   refine⟨⟨m+1,b,rfl,rfl,I,p,rfl,λj e H=>?_,h2⟩,l⟩;rcases ec j m with d|d
   .exact lG (aH d I) hc
   .have:j=m:=by omega
    subst this;exact hc
  .have hc:¬bo ks[m] key:=cH hc
   have l:((m:Int)-(a:Int)).toNat<((b:Int)-(a:Int)).toNat:=by omega
   refine⟨⟨a,m,rfl,rfl,F,I,rfl,h1,λj e H=>?_⟩,l⟩;rcases ec m j with d|d
   .exact λK=>hc (lG (aH d e) K)
   .have:j=m:=by omega
    subst this;exact hc
 .have L:¬(a:Int)<(b:Int):=cH h
  have M:b=a:=by omega
  subst M;have n:cF ks key=b:=GV p h1 h2;refine cA (λc w'=>w=w'/\c=gU ks key) (λq r=>⟨λh=>?_,λh=>?_⟩) ?_
  .have D:(b:Int)<(s.len:Int):=cj h
   have u:b<ks.length:=by omega
   obtain⟨A,t2,au,f,g,k,_⟩:=bG.at hs u;refine⟨A,au,f,t2,g,o,(lE k.1 ht).use ?_⟩;rintro _ _ ⟨rfl,rfl⟩;refine⟨_,rfl,r _ _ ⟨rfl,?_⟩⟩;unfold gU;rw[n,fC,cq,kt,dC u,F3];exact⟨λh=>by rw[h],λh=>Option.some.inj h⟩
  .have L:¬(b:Int)<(s.len:Int):=cH h
   refine r _ _ ⟨rfl,?_⟩;unfold gU;rw[n,nZ I];simp
  .rintro _ _ ⟨rfl,rfl⟩
   exact⟨by rw[n],rfl⟩
theorem mj{B:Nat->Prop}{w:J}{n:aD}{K V D t:ad}{key:Key}(h:bQ B w n K V D)(ht:Src 1 w t (az key))(b:n.keys.Pairwise bo)(c:n.keys.length<=100000):
 aJ aj 177 #[db n K V D,t] w (λv w'=>v=.tuple #[.int .i64 ((cF n.keys key:Nat):Int),.bool (gU n.keys key)]/\Ext w w'):=by
 refine okF (ae.mj n.leaf K V D t) ax.mj func177 ?_;(delta ae.mj r1 Y kF;dsimp only);refine a8 (vs:=[n.leaf,K,V,D]) rfl λw1 d a _=>?_;obtain⟨bS,aU,a_,bd⟩:=bJ d;refine⟨K,aU,(GW (B:=B) (C:=B) (h.keys.ext a) (ht.ext a) b c).use ?_⟩;rintro _ _ ⟨rfl,rfl⟩;exact⟨_,_,rfl,rfl,a⟩
theorem qo{B:Nat->Prop}{w:J}{n:aD}{K V D t:ad}{key:Key}(h:bQ B w n K V D)(ht:Src 1 w t (az key))(b:n.keys.Pairwise bo)(c:n.keys.length<=100000):
 aJ aj 124 #[db n K V D,t] w (λv w'=>v=.tuple #[.int .i64 ((cF n.keys key:Nat):Int),.bool (gU n.keys key)]/\Ext w w'):=by
 refine okF (ae.qo n.leaf K V D t) ax.qo func124 ?_;(delta ae.qo aT Y r1 kF;dsimp only);refine a8 (vs:=[n.leaf,K,V,D]) rfl λw1 d a _=>?_;obtain⟨bS,aU,a_,bd⟩:=bJ d;refine⟨_,bS,K,aU,V,a_,D,bd,(mj (h.ext a) (ht.ext a) b c).use ?_⟩;rintro _ _ ⟨rfl,e⟩;exact⟨_,_,rfl,rfl,a.trans e⟩
theorem GX{ks:O Key}(e:ks.Pairwise bo)(k:Key):c_ ks k=if gU ks k then cF ks k+1 else cF ks k:=by
 have f:=qJ ks k;have key:∀a,a<=ks.length->(∀ (j:Nat) (h:j<ks.length),j<a->¬bo k ks[j])->(∀h:a<ks.length,bo k ks[a])->c_ ks k=a:=by
  intro a g h1 h2;unfold c_;rcases ec a ks.length with h|h
  .exact(List.findIdx_eq h).2 ⟨dI (h2 h),λj b=>ih (h1 j I b)⟩
  .have:a=ks.length:=by omega
   subst this;refine List.findIdx_eq_length_of_false λx hx=>?_;obtain⟨j,b,rfl⟩:=fj hx;exact ih (h1 j b b)
 split
 .rename_i c
  have c:ks[cF ks k]? =some k:=cj c;obtain⟨aH,he⟩:=ju.1 c;refine key _ aH (λj b h=>?_) λh=>?_
  .rcases ec j (cF ks k) with d|d
   .exact jJ (o3 d b)
   .have:j=cF ks k:=by omega
    subst this;rw[he];exact kG _
  .have:=lv.1 e _ _ aH h (Nat.lt_succ_self _)
   rwa[he]at this
 .rename_i c
  have c:¬ks[cF ks k]? =some k:=λh=>c (dI h);refine key _ f (λj b h=>jJ (o3 h b)) λh=>?_;rcases o1.1 (qK e (bl _) h) with d|d
  .exact d
  .exact absurd ((dC h).trans (congrArg some d.symm)) c
theorem oG{B:Nat->Prop}{w:J}{n:aD}{K V D t:ad}{key:Key}(h:bQ B w n K V D)(ht:Src 1 w t (az key))(b:n.keys.Pairwise bo)(e:n.keys.length<=100000):
 aJ aj 176 #[db n K V D,t] w (λv w'=>v=.int .i64 ((c_ n.keys key:Nat):Int)/\Ext w w'):=by
 refine okF (ae.oG n.leaf K V D t) ax.oG func176 ?_;(delta ae.oG aT Y r1 kF ak aq;dsimp only);refine a8 (vs:=[n.leaf,K,V,D]) rfl λw1 f a _=>?_;obtain⟨bS,aU,a_,bd⟩:=bJ f;have i:=qJ n.keys key;refine⟨_,bS,K,aU,V,a_,D,bd,(mj (h.ext a) (ht.ext a) b e).use ?_⟩;rintro _ ai ⟨rfl,g⟩;rw[GX b];refine⟨_,_,rfl,cA (λc w'=>ai=w'/\c=((if gU n.keys key then cF n.keys key+1 else cF n.keys key:Nat):Int)) (λq d=>⟨λh=>d _ _ ⟨rfl,?_⟩,λh=>d _ _ ⟨rfl,?_⟩⟩) ?_⟩
 .rw[if_pos h,bn I I];rfl
 .rw[if_neg (by simp[h])]
 .rintro _ _ ⟨rfl,rfl⟩
  exact⟨rfl,a.trans g⟩
structure hE(lo:Nat)(w:J)(aR:Nat)(n:aD)(K V D:ad)(bC bT br:Nat->Prop):Prop where
 v:Var w aR [n.leaf,K,V,D] 169
 keys:bj bC w K n.keys
 vals:bj bT w V n.vals
 kids:cJ br w D n.kids
 bZ:∀q,bC q->lo<=q/\q<w.heap.size/\q≠aR/\¬bT q/\¬br q
 bv:∀q,bT q->lo<=q/\q<w.heap.size/\q≠aR/\¬br q
 aP:∀q,br q->lo<=q/\q<w.heap.size/\q≠aR
 mx:lo<=aR
structure fV(lo:Nat)(w:J)(n:aD)(K V D:ad)(bC bT br:Nat->Prop):Prop where
 keys:bj bC w K n.keys
 vals:bj bT w V n.vals
 kids:cJ br w D n.kids
 bZ:∀q,bC q->lo<=q/\q<w.heap.size/\¬bT q/\¬br q
 bv:∀q,bT q->lo<=q/\q<w.heap.size/\¬br q
 aP:∀q,br q->lo<=q/\q<w.heap.size
section
variable {lo:Nat}{w w':J}{aR:Nat}{n:aD}{K V D:ad}{bC bT br:Nat->Prop}
theorem hE.mem(h:hE lo w aR n K V D bC bT br):fV lo w n K V D bC bT br:=⟨h.keys,h.vals,h.kids,λq a=>⟨(h.bZ q a).1,(h.bZ q a).2.1,(h.bZ q a).2.2.2⟩,λq a=>⟨(h.bv q a).1,(h.bv q a).2.1,(h.bv q a).2.2.2⟩,λq a=>⟨(h.aP q a).1,(h.aP q a).2.1⟩⟩
theorem fV.ah{W:Nat->Prop}(h:fV lo w n K V D bC bT br)(hc:af W w w')(cw:∀q,lo<=q->q<w.heap.size->bC q\/bT q\/br q->¬W q):fV lo w' n K V D bC bT br:=by
 have hs:=hc.size;refine⟨bj.ah h.keys hc λq a=>cw q (h.bZ q a).1 (h.bZ q a).2.1 (.inl a),bj.ah h.vals hc λq a=>cw q (h.bv q a).1 (h.bv q a).2.1 (.inr (.inl a)),cJ.ah h.kids hc λq a=>cw q (h.aP q a).1 (h.aP q a).2 (.inr (.inr a)),λq a=>?_,λq a=>?_,λq a=>?_⟩
 .have:=h.bZ q a;exact⟨this.1,I,this.2.2⟩
 .have:=h.bv q a;exact⟨this.1,I,this.2.2⟩
 .have:=h.aP q a;exact⟨this.1,I⟩
theorem fV.ext(h:fV lo w n K V D bC bT br)(hc:Ext w w'):fV lo w' n K V D bC bT br:=h.ah hc λ_ _ _ _ h=>h
theorem hE.ext(h:hE lo w aR n K V D bC bT br)(hx:Ext w w'):hE lo w' aR n K V D bC bT br:=
 ⟨h.v.ext hx,bj.ext h.keys hx,bj.ext h.vals hx,cJ.ext h.kids hx,λq a=>⟨(h.bZ q a).1,fa (h.bZ q a).2.1 hx.size,(h.bZ q a).2.2⟩,λq a=>⟨(h.bv q a).1,fa (h.bv q a).2.1 hx.size,(h.bv q a).2.2⟩,λq a=>⟨(h.aP q a).1,fa (h.aP q a).2.1 hx.size,(h.aP q a).2.2⟩,h.mx⟩
theorem fV.at(h:fV lo w n K V D bC bT br):bQ (λq=>lo<=q) w n K V D:=
 ⟨bG.a7 (bj.ke h.keys) λq _ a=>(h.bZ q a).1,bG.a7 (bj.ke h.vals) λq _ a=>(h.bv q a).1,cY.a7 (cJ.qO h.kids) λq _ a=>(h.aP q a).1⟩
theorem fV.low{c:Nat}(h:fV lo w n K V D bC bT br)(b:c<=lo):fV c w n K V D bC bT br:=
 ⟨h.keys,h.vals,h.kids,λq a=>⟨eK b (h.bZ q a).1,(h.bZ q a).2⟩,λq a=>⟨eK b (h.bv q a).1,(h.bv q a).2⟩,λq a=>⟨eK b (h.aP q a).1,(h.aP q a).2⟩⟩
end
theorem yy{lo:Nat}{w:J}{aR:Nat}{n:aD}{K V D t:ad}{l:Key}{bC bT br:Nat->Prop}(h:hE lo w aR n K V D bC bT br)(ht:Src 1 w t (az l))(U:l.length<=100000)(E:n.keys.length<=100000){R:J->Prop}
 (F:∀ (w':J) (G:ad) (x:Nat->Prop),hE lo w' aR {n with keys:=n.keys++ [l]} G V D x bT br->af (λq=>q=aR\/bC q) w w'->(∀q,x q->bC q\/w.heap.size<=q)->R w'):
 ao w.drew λj=>∃m:Nat->Prop,¬m (Addr.add aR 1).block/\∃g:ad,j.cell? (Addr.add aR 1)=some (.slice g.a g.len g.cap)/\
  Calls aj 46 #[t] j λH d=>∃y:ad,H=.returned y/\af m j d/\
  ao (d.alloc (.cells #[y] 39)) λz=>af m d z/\∃A:ad,∃i:J,Sem.run aj (Builtin.append_ #[93,93] 93 #[g,.slice (some d.heap.size) 1 1]) z=.ok A i/\
  (∃u:aa,i.cell? (Addr.add aR 1)=some u)/\i.frozen? (Addr.add aR 1)=false/\ao (i.setCell (Addr.add aR 1) A) λL=>R L:=by
 have W:=h.mx;have X:=h.v.lt;have p:=cG w;obtain⟨bS,aU,a_,bd⟩:=bJ (h.v.ext p);refine aX ⟨λ_=>False,id,K,aU,(lL (B:=λq=>w.heap.size<=q) (ht.ext p) I (λq b=>b)).use ?_⟩;rintro _ d ⟨M,rfl,C,hx,hf⟩;have e:=p.trans hx;have Y:w.drew.heap.size=w.heap.size:=rfl;have N:=e.size;have O:=bj.ext h.keys e;have gd:=bj.ext h.vals e;have P:=cJ.ext h.kids e;refine⟨M,rfl,hx,vX (B:=Grow bC w.drew d) (h.v.ext e) (o:=1) (by simp) (bj.a7 O λk _ h=>.inl h) ?_ (bq.a7 C λk c h=>.inr ⟨h,c⟩) ?_ E λw' aE aw ay f=>?_⟩
 .rintro(h1|h1)
  .exact(h.bZ aR h1).2.2.1 rfl
  .omega
 .intro k Q S
  obtain⟨ts,_,_,r,_⟩:=h.keys;have:=(r k S).2;have:=(C.2.2 k Q).1;omega
 have T:∀q,Grow (Grow bC w.drew d) d w' q->bC q\/(w.heap.size<=q/\q<w'.heap.size):=by
  rintro q ((h1|h1)|h1)
  .exact .inl h1
  .exact .inr ⟨h1.1,fa h1.2 f.size⟩
  .exact .inr ⟨eK N h1.1,h1.2⟩
 have hg:=f.size;have s:∀q,aB K q->bC q:=λq b=>by
  obtain⟨ts,_,_,r,_⟩:=h.keys;exact(r q b).1
 refine F w' aE (λq=>bC q\/(w.heap.size<=q/\q<w'.heap.size)) ⟨by simpa using aw,bj.a7 ay λk _ c=>T k c,bj.ah gd f ?_,cJ.ah P f ?_,?_,λq b=>?_,λq b=>?_,h.mx⟩ ?_ ?_
 .rintro q b (h1|h1)
  .exact(h.bv q b).2.2.1 h1
  .exact(h.bZ q (s q h1)).2.2.2.1 b
 .rintro q b (h1|h1)
  .exact(h.aP q b).2.2 h1
  .exact(h.bZ q (s q h1)).2.2.2.2 b
 .rintro q (h1|h1)
  .have:=h.bZ q h1;exact⟨this.1,I,this.2.2⟩
  .exact⟨I,h1.2,I,λh2=>by have:=h.bv q h2;omega,λh2=>by have:=h.aP q h2;omega⟩
 .have:=h.bv q b;exact⟨this.1,I,this.2.2⟩
 .have:=h.aP q b;exact⟨this.1,I,this.2.2⟩
 .refine(af.c0 e).trans (f.mono λk _ c=>?_)
  rcases c with c|c
  .exact .inl c
  .exact .inr (s k c)
 .rintro q (h1|h1)
  .exact .inl h1
  .exact .inr h1.1
theorem BT{lo:Nat}{w:J}{aR:Nat}{n:aD}{K V D t:ad}{l:Key}{bC bT br:Nat->Prop}(h:hE lo w aR n K V D bC bT br)(ht:Src 1 w t (az l))(U:l.length<=100000)(E:n.vals.length<=100000){R:J->Prop}
 (F:∀ (w':J) (G:ad) (x:Nat->Prop),hE lo w' aR {n with vals:=n.vals++ [l]} K G D bC x br->af (λq=>q=aR\/bT q) w w'->(∀q,x q->bT q\/w.heap.size<=q)->R w'):
 ao w.drew λj=>∃m:Nat->Prop,¬m (Addr.add aR 2).block/\∃g:ad,j.cell? (Addr.add aR 2)=some (.slice g.a g.len g.cap)/\
  Calls aj 46 #[t] j λH d=>∃y:ad,H=.returned y/\af m j d/\
  ao (d.alloc (.cells #[y] 39)) λz=>af m d z/\∃A:ad,∃i:J,Sem.run aj (Builtin.append_ #[93,93] 93 #[g,.slice (some d.heap.size) 1 1]) z=.ok A i/\
  (∃u:aa,i.cell? (Addr.add aR 2)=some u)/\i.frozen? (Addr.add aR 2)=false/\ao (i.setCell (Addr.add aR 2) A) λL=>R L:=by
 have W:=h.mx;have X:=h.v.lt;have p:=cG w;obtain⟨bS,aU,a_,bd⟩:=bJ (h.v.ext p);refine aX ⟨λ_=>False,id,V,a_,(lL (B:=λq=>w.heap.size<=q) (ht.ext p) I (λq b=>b)).use ?_⟩;rintro _ d ⟨M,rfl,C,hx,hf⟩;have e:=p.trans hx;have Y:w.drew.heap.size=w.heap.size:=rfl;have N:=e.size;have O:=bj.ext h.keys e;have gd:=bj.ext h.vals e;have P:=cJ.ext h.kids e;refine⟨M,rfl,hx,vX (B:=Grow bT w.drew d) (h.v.ext e) (o:=2) (by simp) (bj.a7 gd λk _ h=>.inl h) ?_ (bq.a7 C λk c h=>.inr ⟨h,c⟩) ?_ E λw' aE aw ay f=>?_⟩
 .rintro(h1|h1)
  .exact(h.bv aR h1).2.2.1 rfl
  .omega
 .intro k Q S
  obtain⟨ts,_,_,r,_⟩:=h.vals;have:=(r k S).2;have:=(C.2.2 k Q).1;omega
 have T:∀q,Grow (Grow bT w.drew d) d w' q->bT q\/(w.heap.size<=q/\q<w'.heap.size):=by
  rintro q ((h1|h1)|h1)
  .exact .inl h1
  .exact .inr ⟨h1.1,fa h1.2 f.size⟩
  .exact .inr ⟨eK N h1.1,h1.2⟩
 have hg:=f.size;have s:∀q,aB V q->bT q:=λq b=>by
  obtain⟨ts,_,_,r,_⟩:=h.vals;exact(r q b).1
 refine F w' aE (λq=>bT q\/(w.heap.size<=q/\q<w'.heap.size)) ⟨by simpa using aw,bj.ah O f ?_,bj.a7 ay λk _ c=>T k c,cJ.ah P f ?_,λq b=>?_,?_,λq b=>?_,h.mx⟩ ?_ ?_
 .rintro q b (h1|h1)
  .exact(h.bZ q b).2.2.1 h1
  .exact(h.bZ q b).2.2.2.1 (s q h1)
 .rintro q b (h1|h1)
  .exact(h.aP q b).2.2 h1
  .exact(h.bv q (s q h1)).2.2.2 b
 .have:=h.bZ q b
  refine⟨this.1,I,this.2.2.1,?_,this.2.2.2.2⟩;rintro(h1|h1)
  .exact this.2.2.2.1 h1
  .omega
 .rintro q (h1|h1)
  .have:=h.bv q h1;exact⟨this.1,I,this.2.2⟩
  .exact⟨I,h1.2,I,λh2=>by have:=h.aP q h2;omega⟩
 .have:=h.aP q b;exact⟨this.1,I,this.2.2⟩
 .refine(af.c0 e).trans (f.mono λk _ c=>?_)
  rcases c with c|c
  .exact .inl c
  .exact .inr (s k c)
 .rintro q (h1|h1)
  .exact .inl h1
  .exact .inr h1.1
theorem fy{B:Nat->Prop}{w0:J}{n:aD}{K V D:ad}(h:bQ B w0 n K V D)(aQ:n.keys.length<=100000)(aS:n.vals.length<=100000)(aV:n.kids.length<=100000)(ar:∀k∈n.keys,k.length<=100000)(av:∀v∈n.vals,v.length<=100000):
 aJ aj 183 #[db n K V D] w0 (λv w'=>∃ (K V D:ad) (bC bT br:Nat->Prop),v=db n K V D/\fV w0.heap.size w' n K V D bC bT br/\Ext w0 w'):=by
 refine okF (ae.fy n.leaf K V D) ax.fy func183 ?_;(delta ae.fy z4 Y aT r1 bD xN ak AZ aP st aq AY AX rY;dsimp only);have aB:bQ (λq=>q<w0.heap.size) w0 n K V D:=h.a7 λq a _=>a;have aW:=bG.len h.keys;have aY:=bG.len h.vals;refine a8 (vs:=[n.leaf,K,V,D]) rfl λw1 aE aF aZ=>?_;refine a8 (vs:=[false,(),(),()]) rfl λai aG aw a0=>aX ?_;have W:=cG ai;have a1:ai.drew.heap.size=ai.heap.size:=rfl;have L:=(aE.ext aw).ext W;have ay:=aG.ext W;have X:=aF.trans (aw.trans W);obtain⟨aI,a2,a3,aK⟩:=bJ L;have T:=aB.ext X;obtain⟨lo,a4⟩:∃lo,lo=ai.heap.size:=⟨_,rfl⟩;refine⟨λ_=>False,id,_,aI,id,D,aK,⟨?_,?_⟩⟩
 .refine(sE T.kids.1 I).use ?_
  rintro _ H ⟨aC,rfl,y,x,Z⟩;have aL:=x.size;refine⟨aC,rfl,x,#[n.leaf,(),(),aC],(λw=>by kernel_rfl),?_⟩;refine a8 (vs:=[false,(),(),()]) rfl λaz U z aM=>?_;refine⟨z,U.cl rfl ?_,rfl,cP U (us:=[n.leaf,(),(),aC]) rfl rfl λg M C aN=>?_⟩
  .intro v N
   simp only[cX,fk,fv]at N;rcases N with rfl|rfl|rfl|rfl<;>trivial
  obtain⟨aR,aa⟩:∃aR,aR=H.heap.size:=⟨_,rfl⟩;rw[←aa]at M C⊢;obtain⟨br,r⟩:∃br:Nat->Prop,br=λq=>ai.heap.size<=q/\q<H.heap.size:=⟨_,rfl⟩;have ab:cJ br H aC n.kids:=by subst r;exact⟨y,λk l=>⟨⟨Z k l,y.lt k l⟩,y.lt k l⟩⟩
  have m:af (λq=>lo<=q) ai.drew g:=(af.c0 (x.trans z)).trans (C.mono λk _ l=>I);have ac:hE lo g aR ⟨n.leaf,[],[],n.kids⟩ bH bH aC (λ_=>False) (λ_=>False) br:=⟨M,bj.none _ _,bj.none _ _,cJ.ah (cJ.ext ab z) C (λq a e=>by subst r;have a:=a.2;omega),λq h=>h.elim,λq h=>h.elim,λq a=>(by subst r;obtain⟨h1,h2⟩:=a;exact⟨I,I,I⟩),I⟩;clear r;obtain⟨bS,aU,a_,bd⟩:=bJ (L.ah m I);have O:bQ (λq=>q<w0.heap.size) g n K V D:=T.ah m λq a h=>by omega
  have ag:=ay.ah m I;refine⟨K,aU,λi w'=>∃ (j:Nat) (d:ad) (bC:Nat->Prop),i=j/\j<=n.keys.length/\hE lo w' aR ⟨n.leaf,n.keys.take j,[],n.kids⟩ d bH aC bC (λ_=>False) br/\af (λq=>lo<=q) g w',λi _=>((n.keys.length:Int)-i).toNat,⟨0,bH,_,rfl,cL _,ac,af.refl _ _⟩,?_⟩;rintro _ P ⟨j,d,bC,rfl,al,o,s⟩;have am:bQ (λq=>q<w0.heap.size) P n K V D:=O.ah s λq a h=>by omega
  refine⟨λaH=>?_,λc=>?_⟩
  .have aH:j<n.keys.length:=by have:=cj aH;omega
   obtain⟨A,t,au,E,hc,ht,_⟩:=bG.at am.keys aH;refine⟨A,au,E,t,hc,yy o ht.1 (ar _ (cN aH)) (by show(n.keys.take j).length<=_;rw[cI];omega) λw' dA an st F _=>?_⟩;have G:af (λq=>lo<=q) P w':=F.mono λq _ a=>by
    rcases a with a|a
    .have:=o.mx;omega
    .exact(o.bZ q a).1
   rw[bn (n:=(j:Int)+1) I I];refine⟨⟨j+1,dA,an,I,I,?_,s.trans G⟩,?_⟩
   .rw[take_succ _ aH];exact st
   .show((n.keys.length:Int)-((j:Int)+1)).toNat<((n.keys.length:Int)-(j:Int)).toNat
    omega
  have c:j=n.keys.length:=by have:=cH c;omega
  subst c;rw[ku]at o;obtain⟨bS,aU,a_,bd⟩:=bJ ((L.ah m I).ah s I);refine⟨V,a_,λi w'=>∃ (j:Nat) (p:ad) (bT:Nat->Prop),i=j/\j<=n.vals.length/\hE lo w' aR ⟨n.leaf,n.keys,n.vals.take j,n.kids⟩ d p aC bC bT br/\af (λq=>lo<=q) g w',λi _=>((n.vals.length:Int)-i).toNat,⟨0,bH,_,rfl,cL _,o,s⟩,?_⟩;rintro _ R ⟨j,p,bT,rfl,al,f,u⟩;have ao:bQ (λq=>q<w0.heap.size) R n K V D:=O.ah u λq a h=>by omega
  refine⟨λaH=>?_,λc=>?_⟩
  .have aH:j<n.vals.length:=by have:=cj aH;omega
   obtain⟨A,t,au,E,hc,ht,_⟩:=bG.at ao.vals aH;refine⟨A,au,E,t,hc,BT f ht.1 (av _ (cN aH)) (by show(n.vals.take j).length<=_;rw[cI];omega) λw' dV ap st F _=>?_⟩;have G:af (λq=>lo<=q) R w':=F.mono λq _ a=>by
    rcases a with a|a
    .have:=f.mx;omega
    .exact(f.bv q a).1
   rw[bn (n:=(j:Int)+1) I I];refine⟨⟨j+1,dV,ap,I,I,?_,u.trans G⟩,?_⟩
   .rw[take_succ _ aH];exact st
   .show((n.vals.length:Int)-((j:Int)+1)).toNat<((n.vals.length:Int)-(j:Int)).toNat
    omega
  have c:j=n.vals.length:=by have:=cH c;omega
  subst c;rw[ku]at f;obtain⟨d0,d1,d2,d3⟩:=bJ f.v;refine⟨_,d0,d,d1,p,d2,aC,d3,iQ n.leaf d p aC (ag.ah u I) rfl (Q:=λb K V D ai=>(λv w'=>∃ (K V D:ad) (bC bT br:Nat->Prop),v=db n K V D/\fV w0.heap.size w' n K V D bC bT br/\Ext w0 w') (.agg #[b,K,V,D]) ai) λaO S=>⟨d,p,aC,bC,bT,br,rfl,?_,?_⟩⟩
  .exact(fV.ah f.mem S λq a _ _ h=>I).low I
  .exact Ext.cy (Ext.dS X (m.trans u) λk l=>I) S I
 .refine a8 (vs:=[false,(),(),()]) rfl λaz U z aM=>⟨z,?_⟩
  refine(sE (T.kids.ext z).1 I).use ?_;rintro _ H ⟨aC,rfl,y,x,Z⟩;have aL:=x.size;have aA:=U.ext x;refine⟨aC,rfl,x,#[n.leaf,(),(),aC],(λw=>by kernel_rfl),?_⟩;refine⟨aA.cl rfl ?_,rfl,cP aA (us:=[n.leaf,(),(),aC]) rfl rfl λg M C aN=>?_⟩
  .intro v N
   simp only[cX,fk,fv]at N;rcases N with rfl|rfl|rfl|rfl<;>trivial
  obtain⟨aR,aa⟩:∃aR,aR=ai.drew.heap.size:=⟨_,rfl⟩;rw[←aa]at M C⊢;obtain⟨br,r⟩:∃br:Nat->Prop,br=λq=>az.heap.size<=q/\q<H.heap.size:=⟨_,rfl⟩;have ab:cJ br H aC n.kids:=by subst r;exact⟨y,λk l=>⟨⟨Z k l,y.lt k l⟩,y.lt k l⟩⟩
  have m:af (λq=>lo<=q) ai.drew g:=(af.c0 (z.trans x)).trans (C.mono λk _ l=>I);have ac:hE lo g aR ⟨n.leaf,[],[],n.kids⟩ bH bH aC (λ_=>False) (λ_=>False) br:=⟨M,bj.none _ _,bj.none _ _,cJ.ah ab C (λq a e=>by subst r;have a:=a.1;omega),λq h=>h.elim,λq h=>h.elim,λq a=>(by subst r;obtain⟨h1,h2⟩:=a;exact⟨I,I,I⟩),I⟩;clear r;obtain⟨bS,aU,a_,bd⟩:=bJ (L.ah m I);have O:bQ (λq=>q<w0.heap.size) g n K V D:=T.ah m λq a h=>by omega
  have ag:=ay.ah m I;refine⟨K,aU,λi w'=>∃ (j:Nat) (d:ad) (bC:Nat->Prop),i=j/\j<=n.keys.length/\hE lo w' aR ⟨n.leaf,n.keys.take j,[],n.kids⟩ d bH aC bC (λ_=>False) br/\af (λq=>lo<=q) g w',λi _=>((n.keys.length:Int)-i).toNat,⟨0,bH,_,rfl,cL _,ac,af.refl _ _⟩,?_⟩;rintro _ P ⟨j,d,bC,rfl,al,o,s⟩;have am:bQ (λq=>q<w0.heap.size) P n K V D:=O.ah s λq a h=>by omega
  refine⟨λaH=>?_,λc=>?_⟩
  .have aH:j<n.keys.length:=by have:=cj aH;omega
   obtain⟨A,t,au,E,hc,ht,_⟩:=bG.at am.keys aH;refine⟨A,au,E,t,hc,yy o ht.1 (ar _ (cN aH)) (by show(n.keys.take j).length<=_;rw[cI];omega) λw' dA an st F _=>?_⟩;have G:af (λq=>lo<=q) P w':=F.mono λq _ a=>by
    rcases a with a|a
    .have:=o.mx;omega
    .exact(o.bZ q a).1
   rw[bn (n:=(j:Int)+1) I I];refine⟨⟨j+1,dA,an,I,I,?_,s.trans G⟩,?_⟩
   .rw[take_succ _ aH];exact st
   .show((n.keys.length:Int)-((j:Int)+1)).toNat<((n.keys.length:Int)-(j:Int)).toNat
    omega
  have c:j=n.keys.length:=by have:=cH c;omega
  subst c;rw[ku]at o;obtain⟨bS,aU,a_,bd⟩:=bJ ((L.ah m I).ah s I);refine⟨V,a_,λi w'=>∃ (j:Nat) (p:ad) (bT:Nat->Prop),i=j/\j<=n.vals.length/\hE lo w' aR ⟨n.leaf,n.keys,n.vals.take j,n.kids⟩ d p aC bC bT br/\af (λq=>lo<=q) g w',λi _=>((n.vals.length:Int)-i).toNat,⟨0,bH,_,rfl,cL _,o,s⟩,?_⟩;rintro _ R ⟨j,p,bT,rfl,al,f,u⟩;have ao:bQ (λq=>q<w0.heap.size) R n K V D:=O.ah u λq a h=>by omega
  refine⟨λaH=>?_,λc=>?_⟩
  .have aH:j<n.vals.length:=by have:=cj aH;omega
   obtain⟨A,t,au,E,hc,ht,_⟩:=bG.at ao.vals aH;refine⟨A,au,E,t,hc,BT f ht.1 (av _ (cN aH)) (by show(n.vals.take j).length<=_;rw[cI];omega) λw' dV ap st F _=>?_⟩;have G:af (λq=>lo<=q) R w':=F.mono λq _ a=>by
    rcases a with a|a
    .have:=f.mx;omega
    .exact(f.bv q a).1
   rw[bn (n:=(j:Int)+1) I I];refine⟨⟨j+1,dV,ap,I,I,?_,u.trans G⟩,?_⟩
   .rw[take_succ _ aH];exact st
   .show((n.vals.length:Int)-((j:Int)+1)).toNat<((n.vals.length:Int)-(j:Int)).toNat
    omega
  have c:j=n.vals.length:=by have:=cH c;omega
  subst c;rw[ku]at f;obtain⟨d0,d1,d2,d3⟩:=bJ f.v;refine⟨_,d0,d,d1,p,d2,aC,d3,iQ n.leaf d p aC (ag.ah u I) rfl (Q:=λb K V D ai=>(λv w'=>∃ (K V D:ad) (bC bT br:Nat->Prop),v=db n K V D/\fV w0.heap.size w' n K V D bC bT br/\Ext w0 w') (.agg #[b,K,V,D]) ai) λaO S=>⟨d,p,aC,bC,bT,br,rfl,?_,?_⟩⟩
  .exact(fV.ah f.mem S λq a _ _ h=>I).low I
  .exact Ext.cy (Ext.dS X (m.trans u) λk l=>I) S I
theorem bj.mk'{B:Nat->Prop}{w:J}{s:ad}{ts:O ad}{ls:O Key}(a:ts.length=ls.length)(b:aW 1 39 w s (ts.map hD))(hi:In B w s)(c:∀p∈ts.zip ls,bq B w p.1 p.2/\∀k,aB p.1 k->¬aB s k):bj B w s ls:=by
 refine⟨ts,a,b,hi,λi h1 h2=>?_⟩;have:=c (ts[i],ls[i]) (by
  rw[tb];exact⟨i,by rw[nU];omega,by rw[ta]⟩)
 exact this
theorem bj.out{B:Nat->Prop}{w:J}{s:ad}{ls:O Key}(h:bj B w s ls):∃ts:O ad,ts.length=ls.length/\aW 1 39 w s (ts.map hD)/\In B w s/\∀p∈ts.zip ls,bq B w p.1 p.2/\∀k,aB p.1 k->¬aB s k:=by
 obtain⟨ts,h1,h2,a,b⟩:=h;refine⟨ts,h1,h2,a,λp c=>?_⟩;obtain⟨i,hi,rfl⟩:=tb.1 c;rw[nU]at hi;rw[ta];exact b i I I
theorem BU{α β:Type}(a:O α)(b:O β)(i:Nat):(a.take i).zip (b.take i)=(a.zip b).take i:=by
 rw[List.zip_eq_zipWith,List.zip_eq_zipWith,List.take_zipWith]
theorem BV{α β:Type}(a:O α)(b:O β)(i:Nat):(a.drop i).zip (b.drop i)=(a.zip b).drop i:=by
 rw[List.zip_eq_zipWith,List.zip_eq_zipWith,List.drop_zipWith]
theorem BW{B:Nat->Prop}{w:J}{s t:ad}{ls:O Key}{l:Key}{i:Nat}(q:bj B w s ls)(ht:bq B w t l)(hd:∀k,aB t k->¬aB s k)(F:ls.length<=100000)(hi:i<=ls.length):
 aJ aj 200 #[s,.int .i64 (i:Int),.slice (some w.heap.size) 1 1] (w.alloc (.cells #[t] 39))
  (λu w'=>∃e:ad,u=e/\bj (Grow B w w') w' e (ls.take i++ [l]++ls.drop i)/\af (aB s) w w'):=by
 obtain⟨ts,h1,h2,j,m⟩:=bj.out q;have G:s.len=ls.length:=by have:=h2.1;rw[di]at this;omega
 have hx:=da w (.cells #[t] 39);have r:=bm.new w #[t] 39;refine(GS (v:=⟨some w.heap.size,1,1⟩) (xs:=[hD t]) (i:=i) (h2.ext hx) (Src.new (T:=39) w [hD t] 1 rfl) rfl rfl r (λh=>by have:=(j _ h).2;omega) (λv z=>by rw[fb.1 z];trivial) (vR ts) I I).mono ?_;rintro _ w' ⟨e,rfl,aw,ay,A,C⟩;rw[ft]at aw;have hc:af (aB s) w w':=(af.c0 hx).trans A;have H:=hc.size;have K:(w.alloc (.cells #[t] 39)).heap.size=w.heap.size+1:=o6 _ _;have n:∀k,aB e k->aB s k\/w.heap.size<=k:=λk d=>(C k d).imp id λh=>by omega
 have D:∀ (x:ad),In B w x->(∀k,aB x k->¬aB s k)->∀k,aB x k->¬aB e k:=λx hx f k d E=>by
  rcases n k E with h|h
  .exact f k d h
  .have:=(hx k d).2;omega
 have g:∀ (x:ad) (y:Key),bq B w x y->(∀k,aB x k->¬aB s k)->bq (Grow B w w') w' x y/\∀k,aB x k->¬aB e k:=λx y o f=>⟨bq.a7 (bq.kI o hc f) λk _ h=>.inl h,D x o.2.2 f⟩;refine⟨e,rfl,bj.mk' (ts:=ts.take i++ [t]++ts.drop i) ?_ ?_ ?_ ?_,hc⟩
 .simp only[cp,cI,ed,iG];omega
 .simpa[l0,lZ] using aw
 .intro k d
  refine⟨?_,aw.lt k d⟩;rcases n k d with h|h
  .exact .inl (j k h).1
  .exact .inr ⟨h,aw.lt k d⟩
 .intro p c
  rw[List.zip_append (by simp only[cp,cI,iG];omega),List.zip_append (by simp only[cI];omega),BU,BV]at c;rcases cK.1 c with c|c
  .rcases cK.1 c with c|c
   .obtain⟨a,b⟩:=m p (fK c)
    exact g _ _ a b
   .simp only[List.zip_cons_cons,List.zip_nil_left,fb]at c
    subst c;exact g _ _ ht hd
  .obtain⟨a,b⟩:=m p (fH c)
   exact g _ _ a b
theorem GY:(Tryz.prog.info? 39).bind (·.zero)=some (.slice none 0 0):=by kernel_rfl
theorem BX{B:Nat->Prop}{w:J}{s:ad}{ls:O Key}{i:Nat}(j:bj B w s ls)(r:ls.length<=100000)(hi:i<ls.length):
 aJ aj 184 #[s,.int .i64 (i:Int),.int .i64 ((i+1:Nat):Int)] w
  (λu w'=>∃e:ad,u=e/\bj B w' e (ls.take i++ls.drop (i+1))/\af (aB s) w w'):=by
 obtain⟨ts,h1,h2,l,m⟩:=bj.out j;have t:s.len=ls.length:=by have:=h2.1;rw[di]at this;omega
 refine(GU (i:=i) h2 (vR ts) (λz g u hu=>by
  rw[GY]at g
  cases g;simp[Value.cells]at hu;subst hu;trivial) I I).mono ?_
 rintro _ w' ⟨e,rfl,aw,ay,n,f⟩;rw[ft,ft]at aw;have v:=f.size;have h:∀k,aB e k->aB s k:=λk ⟨A,au,c⟩=>⟨A,by rw[←n];exact au,c⟩;refine⟨e,rfl,bj.mk' (ts:=ts.take i++ts.drop (i+1)) ?_ ?_ ?_ ?_,f⟩
 .simp only[cp,cI,ed];omega
 .simpa[l0,lZ] using aw
 .exact λk c=>⟨(l k (h k c)).1,aw.lt k c⟩
 .intro p d
  rw[List.zip_append (by simp only[cI];omega),BU,BV]at d;have o:p∈ts.zip ls:=by
   rcases cK.1 d with d|d
   .exact fK d
   .exact fH d
  obtain⟨a,b⟩:=m p o;exact⟨bq.kI a f b,λk c q=>b k c (h k q)⟩
theorem GZ{B:Nat->Prop}{w:J}{s t:ad}{ls:O Key}{l:Key}{i:Nat}(g:bj B w s ls)(ht:bq B w t l)(hd:∀k,aB t k->¬aB s k)(hi:i<ls.length):
 ∃A:ag,s.a=some A/\((0:Int)<=(i:Int)/\(i:Int)<(s.len:Int))/\(∃u:aa,w.cell? (A.add (Int.toNat (i:Int)*1))=some u)/\w.frozen? (A.add (Int.toNat (i:Int)*1))=false/\
  bj B (w.setCell (A.add (Int.toNat (i:Int)*1)) (hD t)) s (ls.set i l)/\af (aB s) w (w.setCell (A.add (Int.toNat (i:Int)*1)) (hD t)):=by
 obtain⟨ts,h1,h2,h,m⟩:=g;obtain⟨A,au,n,hc,hf,o,p⟩:=h2.at (i:=i) (v:=hD (ts[i]'I)) (by simp[h1,hi]);have c:af (aB s) w (w.setCell (A.add (Int.toNat (i:Int)*1)) (hD t)):=af.set (.refl _ _) (λ_=>o) _;refine⟨A,au,n,⟨_,hc⟩,hf,⟨ts.set i t,by simp[h1],?_,In.ah h c,λj d f=>?_⟩,c⟩
 .have:=p (hD t)
  rwa[←List.map_set]at this
 .rw[dj]at d f
  rw[nT,nT];by_cases e:i=j
  .rw[if_pos e,if_pos e]
   exact⟨bq.kI ht c hd,hd⟩
  .rw[if_neg e,if_neg e]
   obtain⟨a,b⟩:=m j d f;exact⟨bq.kI a c b,b⟩
def gV(n:aD)(k v:Key):aD:=
 if gU n.keys k then {n with vals:=n.vals.set (cF n.keys k) v}
 else {n with keys:=n.keys.take (cF n.keys k)++ [k]++n.keys.drop (cF n.keys k),vals:=n.vals.take (cF n.keys k)++ [v]++n.vals.drop (cF n.keys k)}
def lM(n:aD)(k:Key):aD:={n with keys:=n.keys.take (cF n.keys k)++n.keys.drop (cF n.keys k+1),vals:=n.vals.take (cF n.keys k)++n.vals.drop (cF n.keys k+1)}
theorem gN.eT{n:aD}(h:gN n):(∀k∈n.keys,k.length<=100000)/\(∀v∈n.vals,v.length<=100000):=⟨λk a=>by have:=(h.ok k a).2;omega,λv b=>by have:=h.vals v b;omega⟩
def nB(n:aD)(w:J)(v:aa)(w':J):Prop:=∃K V D:ad,v=.tuple #[db n K V D,true]/\bQ (λq=>w.heap.size<=q) w' n K V D/\Ext w w'
theorem qs{B:Nat->Prop}{w:J}{n:aD}{K V D tk cQ:ad}{key val:Key}(h:bQ B w n K V D)(hs:gN n)(bN:n.keys.length<=10000)(c:Src 1 w tk (az key))(G:Src 1 w cQ (az val))(aL:cv key)(bO:val.length<=24):
 aJ aj 143 #[db n K V D,tk,cQ] w (nB (gV n key val) w):=by
 have bP:=hs.len;have bR:n.kids.length=0:=by rw[hs.kids];rfl
 have bU:=len8 G;have bV:key.length<=24:=aL.2;refine okF (ae.qs n.leaf K V D tk cQ) ax.qs func143 ?_;(delta ae.qs z4 aT Y qb ak r1 b6 jH p_ ga kF bD aP st cW p8;dsimp only);refine a8 (vs:=[n.leaf,K,V,D]) rfl λw1 aq ba bW=>?_;refine a8 (vs:=[false,(),(),()]) rfl λai bb ac bX=>?_;have aM:=ba.trans ac;obtain⟨bS,aU,a_,bd⟩:=bJ (aq.ext ac);refine⟨n.leaf,bS,cA (λb w'=>b=false/\Ext ai w') (λq a=>⟨λp=>?_,λp=>⟨_,bS,K,aU,V,a_,D,bd,(j9 (h.ext aM) I I I).use ?_⟩⟩) ?_⟩
 .rw[hs.leaf]at p;cases p
 .rintro _ ar ⟨b,rfl,bc,C⟩
  have:=bc.2 (.inl hs);subst this;exact⟨true,rfl,a _ _ ⟨rfl,C⟩⟩
 rintro _ ar ⟨rfl,C⟩;have ag:=aM.trans C;refine cA (λb w'=>b=false/\ar=w') (λq a=>⟨λh=>(by cases h),λ_=>(oI (c.ext ag)).use ?_⟩) ?_
 .rintro _ _ ⟨rfl,rfl⟩
  exact⟨_,rfl,a _ _ ⟨by simp[aL],rfl⟩⟩
 rintro _ _ ⟨rfl,rfl⟩;obtain⟨bS,aU,a_,bd⟩:=bJ (aq.ext (ac.trans C));refine⟨λp=>?_,λ_=>⟨_,bS,K,aU,V,a_,D,bd,(fy (h.ext ag) I I I hs.eT.1 hs.eT.2).use ?_⟩⟩
 .have p:decide (((cQ.len:Int):Int)>24)=true:=p
  have:=cj p;omega
 rintro _ be ⟨l,g,aC,bC,bT,br,rfl,r,al⟩;have aN:=ag.trans al;have bY:=aN.size;have b0:=ag.size;have b1:=C.size;have b2:=al.size;refine⟨n.leaf,l,g,aC,rfl,a8 (vs:=[false,(),(),()]) rfl λb3 aO am b4=>⟨aO.cl rfl ?_,rfl,cP aO (us:=[n.leaf,l,g,aC]) rfl rfl λO P R b5=>?_⟩⟩
 .intro v G
  simp only[cX,fk,fv]at G;rcases G with rfl|rfl|rfl|rfl<;>trivial
 obtain⟨aR,bf⟩:∃aR,aR=be.heap.size:=⟨_,rfl⟩;rw[←bf]at P R⊢;obtain⟨lo,bg⟩:∃lo,lo=ar.heap.size:=⟨_,rfl⟩;rw[←bg]at r;have an:Ext w O:=Ext.cy (aN.trans am) R I;have bh:Var O w.heap.size [n.leaf,K,V,D] 169:=(((aq.ext (ac.trans C)).ext al).ext am).ah R I;have aQ:Var O w1.heap.size [false,(),(),()] 169:=(((bb.ext C).ext al).ext am).ah R I;have f:fV lo O n l g aC bC bT br:=(r.ext am).ah R λq _ _ a e=>by
  subst e;rcases a with a|a|a
  .have:=(r.bZ _ a).2.1;omega
  .have:=(r.bv _ a).2.1;omega
  .have:=(r.aP _ a).2;omega
 obtain⟨bS,aU,a_,bd⟩:=bJ bh;have bi:=qJ n.keys key;refine⟨_,bS,K,aU,V,a_,D,bd,(mj (h.ext an) (c.ext an) hs.eU I).use ?_⟩;rintro _ m ⟨rfl,ao⟩;have av:=an.trans ao;have b7:=ao.size;refine⟨_,_,rfl,λH=>?_,λH=>?_⟩
 .
  have E:=cG m;have L:=ao.trans E;have aH:cF n.keys key<n.keys.length:=by
   have:=cj H;exact(ju.1 this).1
  obtain⟨d0,d1,d2,d3⟩:=bJ (P.ext L);refine aX ⟨λ_=>False,id,g,d2,(lL (B:=λq=>m.heap.size<=q) (G.ext (av.trans E)) I (λq a=>a)).use ?_⟩;rintro _ s ⟨t,rfl,ht,x,bk⟩;have T:=L.trans x;have aE:=f.ext T;have bl:=T.size;have bm:bj (Grow bT m s) s g n.vals:=bj.a7 aE.vals λk _ h=>.inl h;have y:∀k,aB g k->bT k:=λk c=>by obtain⟨ts,_,_,U,_⟩:=f.vals;exact(U k c).1
  obtain⟨A,au,p,bn,qT,aS,aV⟩:=GZ (i:=cF n.keys key) bm (bq.a7 ht λk c h=>.inr ⟨h,c⟩) (λk W X=>by
   have:=(ht.2.2 k W).1;have:=(f.bv k (y k X)).2.1;omega) I
  refine⟨t,rfl,x,A,au,p,bn,qT,aX ?_⟩;obtain⟨o,aW⟩:∃o,o=s.setCell (A.add (Int.toNat (cF n.keys key:Int)*1)) (hD t):=⟨_,rfl⟩;rw[←aW]at aS aV;have bo:s.setCell (A.add (Int.toNat (cF n.keys key:Int)*1)) t=o:=aW.symm;rw[bo];have Z:af (λq=>lo<=q/\q<O.heap.size/\bT q) s o:=aV.mono λk _ c=>⟨(f.bv k (y k c)).1,(f.bv k (y k c)).2.1,y k c⟩;have ap:=(P.ext T).ah Z (λe=>by
   have h1:=(r.bv _ e.2.2).2.1;omega)
  obtain⟨bp,bs,bt,bu⟩:=bJ ap;have bw:bQ (λq=>lo<=q) o (gV n key val) l g aC:=by
   unfold gV;rw[if_pos H];refine⟨bG.a7 (bG.ah (bj.ke aE.keys) Z λq a e=>(f.bZ q a).2.2.1 e.2.2) λq _ a=>(f.bZ q a).1,bG.a7 (bj.ke aS) λq _ a=>?_,cY.a7 (cY.ah (cJ.qO aE.kids) Z λq a e=>(f.bv q e.2.2).2.2 a) λq _ a=>(f.aP q a).1⟩;rcases a with a|a
   .exact(f.bv q a).1
   .omega
  have bx:(gV n key val).leaf=n.leaf:=by unfold gV;rw[if_pos H]
  refine⟨_,bp,l,bs,g,bt,aC,bu,iQ n.leaf l g aC ((aQ.ext T).ah Z (λe=>by have:=e.1;omega)) rfl (Q:=λb K V D ai=>nB (gV n key val) w (.tuple #[.agg #[b,K,V,D],true]) ai) λj u=>⟨l,g,aC,by unfold db;rw[bx],?_,?_⟩⟩
  .exact(bw.ah u λq a e=>I).a7 λq _ a=>by omega
  .exact Ext.cy (Ext.dS (an.trans T) Z λk c=>I) u I
 .
  have E:=cG m;have L:=ao.trans E;have aY:hE lo m.drew aR n l g aC bC bT br:=by
   have M:=f.ext L;refine⟨P.ext L,M.keys,M.vals,M.kids,λq a=>?_,λq a=>?_,λq a=>?_,I⟩
   .have h1:=M.bZ q a;have:=(r.bZ q a).2.1;exact⟨h1.1,h1.2.1,I,h1.2.2⟩
   .have h1:=M.bv q a;have:=(r.bv q a).2.1;exact⟨h1.1,h1.2.1,I,h1.2.2⟩
   .have h1:=M.aP q a;have:=(r.aP q a).2;exact⟨h1.1,h1.2,I⟩
  obtain⟨d0,d1,d2,d3⟩:=bJ aY.v;refine aX ⟨λ_=>False,id,l,d1,(lL (B:=λq=>m.heap.size<=q) (c.ext (av.trans E)) I (λq a=>a)).use ?_⟩;rintro _ s ⟨t,rfl,ht,x,bk⟩;have bl:m.heap.size<=s.heap.size:=(E.trans x).size;have aF:∀k,aB l k->bC k:=λk c=>by obtain⟨ts,_,_,U,_⟩:=f.keys;exact(U k c).1
  have y:∀k,aB g k->bT k:=λk c=>by obtain⟨ts,_,_,U,_⟩:=f.vals;exact(U k c).1
  have d:=aY.ext x;refine⟨t,rfl,x,aX ⟨da _ _,(BW (B:=Grow bC m s) (i:=cF n.keys key) (bj.a7 d.keys λk _ h=>.inl h) (bq.a7 ht λk c h=>.inr ⟨h,c⟩) (λk W X=>by
   have:=(ht.2.2 k W).1;have:=(f.bZ k (aF k X)).2.1;omega) I bi).use ?_⟩⟩
  rintro _ o ⟨S,rfl,bz,aZ⟩;have b8:=aZ.size;have aa:af (λq=>lo<=q/\bC q) s o:=aZ.mono λk _ c=>⟨(f.bZ k (aF k c)).1,aF k c⟩;have ap:=d.v.ah aa λe=>(d.bZ _ e.2).2.2.1 rfl;obtain⟨s1,s2⟩:=eA ap (i:=1) (by simp);refine⟨S,rfl,?_⟩;rw[aA,aA];refine⟨s1,s2,aX (aX ?_)⟩;obtain⟨j,aG⟩:∃j,j=(o.setCell ⟨aR,0+1,none⟩ S).drew:=⟨_,rfl⟩;rw[←aG];have u:af (λq=>q=aR) o j:=by rw[aG];exact af.drew (dU _ _ _ _)
  have a0:Var j aR [n.leaf,S,g,aC] 169:=by rw[aG];exact(ez ap _).drew
  have b9:=u.size;have b_:aR<m.heap.size:=by have:=P.lt;omega
  have bA:bj (λq=>bC q\/(m.heap.size<=q/\q<o.heap.size)) j S (n.keys.take (cF n.keys key)++ [key]++n.keys.drop (cF n.keys key)):=by
   refine bj.ah (bj.a7 bz λk _ c=>?_) u λk c e=>?_
   .rcases c with (c|c)|c
    .exact .inl c
    .exact .inr ⟨c.1,I⟩
    .exact .inr ⟨I,c.2⟩
   .subst e
    rcases c with c|c
    .exact(d.bZ _ c).2.2.1 rfl
    .omega
  have bB:bj bT j g n.vals:=bj.ah (bj.ah d.vals aa λq a e=>(d.bZ q e.2).2.2.2.1 a) u λq a e=>(d.bv q a).2.2.1 e;have bE:cJ br j aC n.kids:=cJ.ah (cJ.ah d.kids aa λq a e=>(d.bZ q e.2).2.2.2.2 a) u λq a e=>(d.aP q a).2.2 e;have a1:Ext w j:=Ext.dS (Ext.dS ((av.trans E).trans x) aa λk c=>I) u λk c=>by omega
  obtain⟨f0,f1,f2,f3⟩:=bJ a0;rw[aA]at f2;refine⟨λ_=>False,id,g,f2,(lL (B:=λq=>j.heap.size<=q) (G.ext a1) I (λq a=>a)).use ?_⟩;rintro _ a2 ⟨t2,rfl,a3,z,ca⟩;have cb:=z.size;refine⟨t2,rfl,z,aX ⟨da _ _,(BW (B:=Grow bT j a2) (i:=cF n.keys key) (bj.a7 (bj.ext bB z) λk _ h=>.inl h) (bq.a7 a3 λk c h=>.inr ⟨h,c⟩) (λk W X=>by
   have:=(a3.2.2 k W).1;have:=(f.bv k (y k X)).2.1;omega) I I).use ?_⟩⟩
  rintro _ aI ⟨dF,rfl,bF,a4⟩;have cc:=a4.size;have ab:af (λq=>lo<=q/\bT q) a2 aI:=a4.mono λk _ c=>⟨(f.bv k (y k c)).1,y k c⟩;have a5:=(a0.ext z).ah ab λe=>(d.bv _ e.2).2.2.1 rfl;obtain⟨s1,s2⟩:=eA a5 (i:=2) (by simp);refine⟨dF,rfl,?_⟩;rw[aA,aA];refine⟨s1,s2,aX ?_⟩;obtain⟨F,aK⟩:∃F,F=aI.setCell ⟨aR,0+2,none⟩ dF:=⟨_,rfl⟩;rw[←aK];have N:af (λq=>q=aR) aI F:=by rw[aK];exact dU _ _ _ _
  have bH:Var F aR [n.leaf,S,dF,aC] 169:=by rw[aK];exact ez a5 _
  have cd:=N.size;obtain⟨sF,aw,ay,a6⟩:=bJ bH;rw[aA]at aw ay a6;have bI:bQ (λq=>lo<=q) F (gV n key val) S dF aC:=by
   unfold gV;rw[if_neg (by rw[H];simp)];refine⟨?_,?_,?_⟩
   .refine bG.a7 (bj.ke (bj.ah (bj.ah (bj.ext bA z) ab λq a e=>?_) N λq a e=>?_)) λq _ a=>?_
    .rcases a with a|a
     .exact(d.bZ q a).2.2.2.1 e.2
     .have:=(f.bv q e.2).2.1;omega
    .subst e
     rcases a with a|a
     .exact(d.bZ _ a).2.2.1 rfl
     .omega
    .rcases a with a|a
     .exact(d.bZ q a).1
     .omega
   .refine bG.a7 (bj.ke (bj.ah bF N λq a e=>?_)) λq _ a=>?_
    .subst e
     rcases a with (a|a)|a
     .exact(d.bv _ a).2.2.1 rfl
     .omega
     .omega
    .rcases a with (a|a)|a
     .exact(d.bv q a).1
     .omega
     .omega
   .exact cY.a7 (cJ.qO (cJ.ah (cJ.ah (cJ.ext bE z) ab λq a e=>(d.bv q e.2).2.2.2 a) N λq a e=>(d.aP q a).2.2 e)) λq _ a=>(d.aP q a).1
  have bK:(gV n key val).leaf=n.leaf:=by unfold gV;rw[if_neg (by rw[H];simp)]
  have bL:Ext w F:=Ext.dS (Ext.dS (a1.trans z) ab λk c=>I) N λk c=>by omega
  have bM:Var F w1.heap.size [false,(),(),()] 169:=by
   have h1:=aQ.ext (L.trans x);have h2:=(h1.ah aa (λe=>by have:=e.1;omega)).ah u I;exact((h2.ext z).ah ab (λe=>by have:=e.1;omega)).ah N I
  rw[aA,aA];refine⟨_,sF,S,aw,dF,ay,aC,a6,?_⟩;have:=iQ n.leaf S dF aC bM rfl (Q:=λb K V D ai=>nB (gV n key val) w (.tuple #[.agg #[b,K,V,D],true]) ai) λce a9=>⟨S,dF,aC,by unfold db;rw[bK],(bI.ah a9 λq a e=>I).a7 λq _ a=>I,Ext.cy bL a9 I⟩;simpa only[aA] using this
def qU(n:aD)(key:Key)(w:J)(v:aa)(w':J):Prop:=
 if gU n.keys key then nB (lM n key) w v w' else v=.tuple #[db iP bH bH bH,false]/\Ext w w'
theorem qp{B:Nat->Prop}{w:J}{n:aD}{K V D tk:ad}{key:Key}(h:bQ B w n K V D)(hs:gN n)(a4:n.keys.length<=10000)(d:Src 1 w tk (az key)):
 aJ aj 130 #[db n K V D,tk] w (qU n key w):=by
 have a5:=hs.len;have a6:n.kids.length=0:=by rw[hs.kids];rfl
 refine okF (ae.qp n.leaf K V D tk) ax.qp func130 ?_;(delta ae.qp z4 aT Y r1 kF qb ak b6 jH p_ ga bD aq st cW p8;dsimp only);refine a8 (vs:=[n.leaf,K,V,D]) rfl λw1 E ar a9=>?_;refine a8 (vs:=[false,(),(),()]) rfl λai au A ba=>?_;have F:=ar.trans A;obtain⟨bS,aU,a_,bd⟩:=bJ (E.ext A);refine⟨_,bS,K,aU,V,a_,D,bd,(mj (h.ext F) (d.ext F) hs.eU I).use ?_⟩;rintro _ av ⟨rfl,s⟩;have T:=F.trans s;obtain⟨bS,aU,a_,bd⟩:=bJ (E.ext (A.trans s));refine⟨_,_,rfl,n.leaf,bS,cA (λb w'=>b=false/\Ext av w') (λq a=>⟨λf=>?_,λf=>⟨_,bS,K,aU,V,a_,D,bd,(j9 (h.ext T) I I I).use ?_⟩⟩) ?_⟩
 .rw[hs.leaf]at f;cases f
 .rintro _ U ⟨b,rfl,aE,o⟩
  have:=aE.2 (.inl hs);subst this;exact⟨true,rfl,a _ _ ⟨rfl,o⟩⟩
 rintro _ U ⟨rfl,o⟩;have G:=T.trans o;have bb:=o.size;have bc:=s.size;have W:=au.ext (s.trans o);refine⟨λf=>?_,λf=>?_⟩
 .have f:gU n.keys key=false:=by simpa using f
  refine iQ false bH bH bH W rfl (Q:=λb K V D ai=>qU n key w (.tuple #[.agg #[b,K,V,D],false]) ai) λX aF=>?_;unfold qU;rw[if_neg (by rw[f];simp)];exact⟨rfl,Ext.cy G aF I⟩
 have Z:gU n.keys key=true:=by simpa using f
 have aH:cF n.keys key<n.keys.length:=(ju.1 (cj Z)).1;obtain⟨bS,aU,a_,bd⟩:=bJ (E.ext (A.trans (s.trans o)));refine⟨_,bS,K,aU,V,a_,D,bd,(fy (h.ext G) I I I hs.eT.1 hs.eT.2).use ?_⟩;rintro _ X ⟨p,g,aC,bC,bT,br,rfl,j,H⟩;have aG:=G.trans H;have be:=H.size;refine⟨n.leaf,p,g,aC,rfl,a8 (vs:=[false,(),(),()]) rfl λbf aa L bg=>⟨aa.cl rfl ?_,rfl,cP aa (us:=[n.leaf,p,g,aC]) rfl rfl λt ab C bh=>?_⟩⟩
 .intro v ac
  simp only[cX,fk,fv]at ac;rcases ac with rfl|rfl|rfl|rfl<;>trivial
 obtain⟨aR,aI⟩:∃aR,aR=X.heap.size:=⟨_,rfl⟩;rw[←aI]at ab C⊢;obtain⟨lo,aK⟩:∃lo,lo=U.heap.size:=⟨_,rfl⟩;rw[←aK]at j;have aL:Ext w t:=Ext.cy (aG.trans L) C I;have aM:Var t w1.heap.size [false,(),(),()] 169:=((W.ext H).ext L).ah C I;have c:hE lo t aR n p g aC bC bT br:=by
  have r:fV lo t n p g aC bC bT br:=(j.ext L).ah C λq _ _ a e=>by
   subst e;rcases a with a|a|a
   .have:=(j.bZ _ a).2.1;omega
   .have:=(j.bv _ a).2.1;omega
   .have:=(j.aP _ a).2;omega
  refine⟨ab,r.keys,r.vals,r.kids,λq a=>?_,λq a=>?_,λq a=>?_,I⟩
  .have h1:=r.bZ q a;have:=(j.bZ q a).2.1;exact⟨h1.1,h1.2.1,I,h1.2.2⟩
  .have h1:=r.bv q a;have:=(j.bv q a).2.1;exact⟨h1.1,h1.2.1,I,h1.2.2⟩
  .have h1:=r.aP q a;have:=(j.aP q a).2;exact⟨h1.1,h1.2,I⟩
 have ag:∀k,aB p k->bC k:=λk d=>by obtain⟨ts,_,_,M,_⟩:=c.keys;exact(M k d).1
 have al:∀k,aB g k->bT k:=λk d=>by obtain⟨ts,_,_,M,_⟩:=c.vals;exact(M k d).1
 obtain⟨d0,d1,d2,d3⟩:=bJ c.v;have bi:=c.v.lt;rw[bn (n:=((cF n.keys key:Nat):Int)+1) I I];refine⟨p,d1,(BX c.keys I aH).use ?_⟩;rintro _ N ⟨S,rfl,aN,aO⟩;have u:af (λq=>lo<=q/\bC q) t N:=aO.mono λk _ d=>⟨(c.bZ k (ag k d)).1,ag k d⟩;have am:=c.v.ah u λe=>(c.bZ _ e.2).2.2.1 rfl;obtain⟨s1,s2⟩:=eA am (i:=1) (by simp);refine⟨S,rfl,?_⟩;rw[aA,aA];refine⟨s1,s2,aX ?_⟩;obtain⟨l,O⟩:∃l,l=N.setCell ⟨aR,0+1,none⟩ S:=⟨_,rfl⟩;rw[←O];have x:af (λq=>q=aR) N l:=by rw[O];exact dU _ _ _ _
 have an:Var l aR [n.leaf,S,g,aC] 169:=by rw[O];exact ez am _
 have aQ:bj bC l S (n.keys.take (cF n.keys key)++n.keys.drop (cF n.keys key+1)):=bj.ah aN x λq a e=>(c.bZ q a).2.2.1 e;have aS:bj bT l g n.vals:=bj.ah (bj.ah c.vals u λq a e=>(c.bZ q e.2).2.2.2.1 a) x λq a e=>(c.bv q a).2.2.1 e;have aV:cJ br l aC n.kids:=cJ.ah (cJ.ah c.kids u λq a e=>(c.bZ q e.2).2.2.2.2 a) x λq a e=>(c.aP q a).2.2 e;obtain⟨f0,f1,f2,f3⟩:=bJ an;rw[aA]at f2;refine⟨g,f2,(BX aS I I).use ?_⟩;rintro _ P ⟨dF,rfl,aW,aY⟩;have y:af (λq=>lo<=q/\bT q) l P:=aY.mono λk _ d=>⟨(c.bv k (al k d)).1,al k d⟩;have ao:=an.ah y λe=>(c.bv _ e.2).2.2.1 rfl;obtain⟨s1,s2⟩:=eA ao (i:=2) (by simp);refine⟨dF,rfl,?_⟩;rw[aA,aA];refine⟨s1,s2,aX ?_⟩;obtain⟨m,R⟩:∃m,m=P.setCell ⟨aR,0+2,none⟩ dF:=⟨_,rfl⟩;rw[←R];have z:af (λq=>q=aR) P m:=by rw[R];exact dU _ _ _ _
 have aZ:Var m aR [n.leaf,S,dF,aC] 169:=by rw[R];exact ez ao _
 obtain⟨sF,aw,ay,a0⟩:=bJ aZ;have a1:bQ (λq=>lo<=q) m (lM n key) S dF aC:=by
  refine⟨?_,?_,?_⟩
  .exact bG.a7 (bj.ke (bj.ah (bj.ah aQ y λq a e=>(c.bZ q a).2.2.2.1 e.2) z λq a e=>(c.bZ q a).2.2.1 e)) λq _ a=>(c.bZ q a).1
  .exact bG.a7 (bj.ke (bj.ah aW z λq a e=>(c.bv q a).2.2.1 e)) λq _ a=>(c.bv q a).1
  .exact cY.a7 (cJ.qO (cJ.ah (cJ.ah aV y λq a e=>(c.bv q e.2).2.2.2 a) z λq a e=>(c.aP q a).2.2 e)) λq _ a=>(c.aP q a).1
 have a2:Ext w m:=Ext.dS (Ext.dS (Ext.dS (Ext.dS aL u λk d=>I) x λk d=>I) y λk d=>I) z λk d=>by omega
 have a3:Var m w1.heap.size [false,(),(),()] 169:=
  (((aM.ah u (λe=>by have:=e.1;omega)).ah x I).ah y (λe=>by have:=e.1;omega)).ah z I
 refine⟨_,sF,S,aw,dF,ay,aC,a0,iQ n.leaf S dF aC a3 rfl (Q:=λb K V D ai=>qU n key w (.tuple #[.agg #[b,K,V,D],true]) ai) λbk ap=>?_⟩;unfold qU;rw[if_pos Z];exact⟨S,dF,aC,rfl,(a1.ah ap λq a e=>I).a7 λq _ a=>I,Ext.cy a2 ap I⟩
theorem yz{n:aD}(hs:cC n)(m:Nat):((cellsOf n).take m).sum<=100*n.keys.length:=by
 have h1:((cellsOf n).take m).sum<=(cellsOf n).sum:=by
  have:=x8 (cellsOf n) m;omega
 have h2:=yf hs n.keys.length (bl _);rw[dX (by rw[qM hs];exact bl _)]at h2;have a:=ym hs n.keys.length (bl _);omega
theorem nn{B:Nat->Prop}{w:J}{n:aD}{K V D:ad}(h:bQ B w n K V D)(hs:cC n)(G:n.keys.length<=10000){most:Nat}(H:most<=n.keys.length):
 aJ aj 282 #[db n K V D,most] w (λv w'=>v=.int .i64 ((gp (cellsOf n) most:Nat):Int)/\Ext w w'):=by
 refine okF (ae.nn n.leaf K V D (most:Int)) ax.nn func282 ?_;(delta ae.nn r1 Y ak aT bD aq;dsimp only);refine a8 (vs:=[n.leaf,K,V,D]) rfl λw1 o d _=>?_;obtain⟨bS,aU,a_,bd⟩:=bJ o;have L:=bG.len h.keys;have M:=qM hs;have x:∀ (j:Nat) (f:j<(cellsOf n).length),(cellsOf n)[j]=(gx n j).length:=λj f=>by
  have h1:=ye hs (i:=j) I;rw[dC f]at h1;exact Option.some.inj h1
 refine⟨K,aU,λa i w'=>∃j:Nat,i=j/\j<=n.keys.length/\a=((((cellsOf n).take j).sum:Nat):Int)/\Ext w1 w',λ_ i _=>((n.keys.length:Int)-i).toNat,⟨0,rfl,cL _,by simp,.refl _ _⟩,?_⟩;rintro _ _ ai ⟨j,rfl,f,rfl,g⟩;obtain⟨d0,d1,d2,d3⟩:=bJ (o.ext g);refine⟨λaH=>?_,λb=>?_⟩
 .have aH:j<n.keys.length:=by have:=cj aH;omega
  refine⟨_,d0,K,d1,V,d2,D,d3,(nm (h.ext (d.trans g)) hs aH I).use ?_⟩;rintro _ N ⟨s,rfl,p,A,_⟩;have q:=lK p;have C:=yz hs j;have hc:=vT hs aH;have e:=qI (l:=cellsOf n) (i:=j) I;rw[x j I]at e;refine⟨s,rfl,?_⟩;rw[q,bn (n:=((((cellsOf n).take j).sum:Nat):Int)+(((gx n j).length:Nat):Int)) I I,bn (n:=(j:Int)+1) I I];refine⟨⟨j+1,I,I,I,g.trans A⟩,?_⟩;show((n.keys.length:Int)-((j:Int)+1)).toNat<((n.keys.length:Int)-(j:Int)).toNat;omega
 have b:j=n.keys.length:=by have:=cH b;omega
 subst b;rw[dX (l:=cellsOf n) I];refine⟨λa i w'=>∃j:Nat,i=j/\j<=most/\a=((((cellsOf n).take j).sum:Nat):Int)/\Ext w1 w'/\∀k,k<j->2*((cellsOf n).take (k+1)).sum<(cellsOf n).sum,λ_ i _=>((most:Int)-i).toNat,⟨0,rfl,cL _,by simp,g,λk E=>I⟩,?_⟩;rintro _ _ O ⟨j,rfl,f,rfl,c,r⟩;obtain⟨d0,d1,d2,d3⟩:=bJ (o.ext c);have F:=yz hs (cellsOf n).length;rw[ku]at F;refine⟨λaH=>?_,λb=>?_⟩
 .have aH:j<most:=by have:=cj aH;omega
  refine⟨_,d0,K,d1,V,d2,D,d3,(nm (h.ext (d.trans c)) hs I I).use ?_⟩;rintro _ P ⟨s,rfl,p,y,_⟩;have q:=lK p;have C:=yz hs j;have hc:=vT hs (i:=j) I;have e:=qI (l:=cellsOf n) (i:=j) I;rw[x j I]at e;refine⟨s,rfl,?_⟩;rw[q,bn (n:=((((cellsOf n).take j).sum:Nat):Int)+(((gx n j).length:Nat):Int)) I I,bn (n:=2*(((((cellsOf n).take j).sum:Nat):Int)+(((gx n j).length:Nat):Int))) I I,bn (n:=(j:Int)+1) I I];refine⟨λhd=>⟨?_,d.trans (c.trans y)⟩,λhd=>⟨⟨j+1,I,I,I,c.trans y,λk E=>?_⟩,?_⟩⟩
  .have hd:=cj hd
   have t:(List.range most).find? (λi=>decide ((cellsOf n).sum<=2*((cellsOf n).take (i+1)).sum))=some j:=by
    have:=fa aH (bl most);rw[List.find?_eq_some_iff_append];refine⟨dI I,List.range j,List.range' (j+1) (most-(j+1)),?_,λa u=>?_⟩
    .have z:=List.range'_append (s:=0) (m:=j) (n:=most-(j+1)+1) (step:=1)
     rw[s0,s0,←List.range'_succ];rw[nR,cR]at z;rw[z]
     congr 1
     omega
    .have:=r a (jV.1 u)
     simp;omega
   unfold gp;rw[t];rfl
  .have hd:=cH hd
   rcases ec k j with h1|h1
   .exact r k h1
   .have:k=j:=by omega
    subst this;omega
  .show((most:Int)-((j:Int)+1)).toNat<((most:Int)-(j:Int)).toNat
   omega
 .have b:j=most:=by have:=cH b;omega
  subst b;refine⟨?_,d.trans c⟩;have t:(List.range j).find? (λi=>decide ((cellsOf n).sum<=2*((cellsOf n).take (i+1)).sum))=none:=by
   rw[jZ];intro a u;have:=r a (jV.1 u);simp;omega
  unfold gp;rw[t]
theorem bG.sub{B:Nat->Prop}{w:J}{s:ad}{ls:O Key}{lo hi:Nat}(h:bG B w s ls)(h1:lo<=hi)(h2:hi<=ls.length):bG B w ⟨aY s.a 1 lo s.cap,hi-lo,s.cap-lo⟩ ((ls.drop lo).take (hi-lo)):=by
 have l:=bG.len h;obtain⟨ts,aw,ay,b,c,d⟩:=h;refine⟨(ts.drop lo).take (hi-lo),by simp[aw],?_,by show hi-lo<=s.cap-lo;omega,λk e=>?_,λi f g=>?_⟩
 .have:=Src.sub ay b h1 I
  simpa[lZ,l0] using this
 .obtain⟨A,au,j⟩:=vV e
  exact c k ⟨A,au,j⟩
 .simp only[mW,rn]
  rw[cI,ed]at f g;exact d (lo+i) I I
theorem bG.le{B:Nat->Prop}{w:J}{s:ad}{ls:O Key}(h:bG B w s ls):s.len<=s.cap:=by
 obtain⟨ts,_,_,a,_⟩:=h;exact a
theorem cY.sub{B:Nat->Prop}{w:J}{s:ad}{ds:O Nat}{lo hi:Nat}(h:cY B w s ds)(h1:lo<=hi)(h2:hi<=ds.length):cY B w ⟨aY s.a 1 lo s.cap,hi-lo,s.cap-lo⟩ ((ds.drop lo).take (hi-lo)):=by
 have f:=cY.len h;obtain⟨ay,b,c⟩:=h;have g:s.len<=s.cap:=b;refine⟨?_,by show hi-lo<=s.cap-lo;omega,λk d=>?_⟩
 .have:=Src.sub ay b h1 I
  simpa[fR,lZ,l0] using this
 .obtain⟨A,au,e⟩:=vV d
  exact c k ⟨A,au,e⟩
theorem pb(b:al)(K V D:ad):∀v∈([b,K,V,D]:O aa),Plain v:=by
 intro v a;simp only[cX,fk,fv]at a;rcases a with rfl|rfl|rfl|rfl<;>trivial
theorem BY{c:J}{r1 aF:Nat}{yA yB:O aa}{cx b3:al}{ff fW bE dA dV c1:ad}(h1:Var c r1 yA 169)(h2:Var c aF yB 169)(n:yA.length=4)(o:yB.length=4)(p:r1≠aF){W:Nat->Prop}(cw:∀q,q=r1->W q)
 {Q:al->ad->ad->ad->al->ad->ad->ad->J->Prop} (v:∀b,af (λq=>q=r1\/q=aF) c b->Q cx ff fW bE b3 dA dV c1 b):
 bI c r1 [cx,ff,fW,bE]/\(4:Nat)=4/\ao (setCells c r1 0 [cx,ff,fW,bE]) λd=>
  af W c d/\bI d aF [b3,dA,dV,c1]/\(4:Nat)=4/\ao (setCells d aF 0 [b3,dA,dV,c1]) λb=>
  ∃r:al,b.cell? r1=some (.bool r)/\∃f:ad,b.cell? (Addr.add r1 1)=some (.slice f.a f.len f.cap)/\∃g:ad,b.cell? (Addr.add r1 2)=some (.slice g.a g.len g.cap)/\∃i:ad,b.cell? (Addr.add r1 3)=some (.slice i.a i.len i.cap)/\
  ∃s:al,b.cell? aF=some (.bool s)/\∃j:ad,b.cell? (Addr.add aF 1)=some (.slice j.a j.len j.cap)/\∃k:ad,b.cell? (Addr.add aF 2)=some (.slice k.a k.len k.cap)/\∃l:ad,b.cell? (Addr.add aF 3)=some (.slice l.a l.len l.cap)/\Q r f g i s j k l b:=by
 refine⟨h1.cl (by rw[n];rfl) (pb _ _ _ _),rfl,cP h1 (us:=[cx,ff,fW,bE]) (by rw[n];rfl) rfl λd w m _=>?_⟩;have t:=h2.ah m (λe=>p e.symm);refine⟨m.mono λq _ h=>cw q h,t.cl (by rw[o];rfl) (pb _ _ _ _),rfl,cP t (us:=[b3,dA,dV,c1]) (by rw[o];rfl) rfl λb x u _=>?_⟩;obtain⟨bS,aU,a_,bd⟩:=bJ (w.ah u p);obtain⟨d0,d1,d2,d3⟩:=bJ x;exact⟨cx,bS,ff,aU,fW,a_,bE,bd,b3,d0,dA,d1,dV,d2,c1,d3,v b ((m.mono λq _ h=>.inl h).trans (u.mono λq _ h=>.inr h))⟩
def vY(n:aD)(w:J)(v:aa)(w':J):Prop:=
 ∃ (ff fW bE dA dV c1 t:ad),v=.tuple #[db (n.left (cn n)) ff fW bE,t,db (n.right (cn n)) dA dV c1,true]/\
  bQ (λq=>w.heap.size<=q) w' (n.left (cn n)) ff fW bE/\bQ (λq=>w.heap.size<=q) w' (n.right (cn n)) dA dV c1/\bq (λq=>w.heap.size<=q) w' t (n.keys.getD (cn n) [])/\Ext w w'
theorem qC{B:Nat->Prop}{w:J}{n:aD}{K V D:ad}(h:bQ B w n K V D)(hs:cC n)(av:n.keys.length<=10000)(dN:1<=cn n)
 (z:if n.leaf then cn n<=n.keys.length-1/\1<=n.keys.length-1 else cn n<=n.keys.length-2/\1<=n.keys.length-2):
 aJ aj 281 #[db n K V D] w (vY n w):=by
 have bU:n.vals.length<=10000:=by
  rcases hs with hs|hs
  .rw[hs.len];omega
  .rw[hs.vals];simp
 have bV:n.kids.length<=10001:=by
  rcases hs with hs|hs
  .rw[hs.kids];simp
  .rw[hs.len];omega
 have Z:∀k∈n.keys,k.length<=100000:=λk l=>by have:=(hs.keys.ok k l).2;omega
 have am:∀k∈n.vals,k.length<=100000:=λk l=>by have:=hs.vals k l;omega
 have bW:=bG.len h.keys;obtain⟨most,ac⟩:∃most,most=if n.leaf then n.keys.length-1 else n.keys.length-2:=⟨_,rfl⟩
 have an:1<=most/\most<=n.keys.length/\cn n<=most:=by
  rw[ac]
  cases s:n.leaf<;>rw[s]at z<;>simp at z⊢<;>omega
 have ao:cn n<n.keys.length:=by
  cases s:n.leaf<;>rw[s]at z<;>simp at z<;>omega
 refine okF (ae.qC n.leaf K V D) ax.qC func281 ?_;(delta ae.qC z4 r1 Y aT ak aq b6 ga bY uc aP bD xI xE jG xJ xD;dsimp only);refine a8 (vs:=[n.leaf,K,V,D]) rfl λw1 aW bb bX=>?_;refine a8 (vs:=[false,(),(),()]) rfl λai bc aw b0=>?_;refine a8 (vs:=[false,(),(),()]) rfl λbe bf ap b1=>?_;have aZ:=bb.trans (aw.trans ap);obtain⟨bS,aU,a_,bd⟩:=bJ ((aW.ext aw).ext ap);refine⟨K,aU,cA (λm w'=>m=(most:Int)/\be=w') (λq f=>⟨n.leaf,bS,λH=>f _ _ ⟨?_,rfl⟩,λH=>f _ _ ⟨?_,rfl⟩⟩) ?_⟩
 .have H:n.leaf=false:=by simpa using H
  rw[H]at z ac;simp at z ac;rw[bn (n:=(K.len:Int)-1) I I,bn I I];omega
 .have H:n.leaf=true:=by simpa using H
  rw[H]at z ac;simp at z ac;rw[bn I I];omega
 rintro _ _ ⟨rfl,rfl⟩;refine⟨_,bS,K,aU,V,a_,D,bd,(j9 (h.ext aZ) I I I).use ?_⟩;rintro _ u ⟨b,rfl,H,ag⟩;have bg:=H.2 hs;subst bg;have al:=cG u;have R:=aZ.trans (ag.trans al);have ar:=((aW.ext aw).ext ap).ext (ag.trans al);have ay:=(bc.ext ap).ext (ag.trans al);have az:=bf.ext (ag.trans al);have b2:=(ag.trans al).size;obtain⟨bS,aU,a_,bd⟩:=bJ ar;have b4:u.drew.heap.size=u.heap.size:=rfl;have fin:∀ (g aE:J) (aR:Nat) (c d aC:ad) (bC bT br:Nat->Prop),Ext w g->u.heap.size<=aR/\u.heap.size<=g.heap.size->Var g aR [n.leaf,c,d,aC] 169->fV u.heap.size g n c d aC bC bT br->Var g w.heap.size [n.leaf,K,V,D] 169->Var g w1.heap.size [false,(),(),()] 169->Var g ai.heap.size [false,(),(),()] 169->aE.heap.size=aR->ae.A4 w w1 ai aE ((gp (cellsOf n) most:Nat):Int) g (vY n w):=λg aE aR c d aC bC bT br C ⟨L,b5⟩ E M S T U bh=>by
  have bi:gp (cellsOf n) most=cn n:=by unfold cn;rw[ac]
  rw[bi];(delta ae.A4 uc r1 Y aP bD aT ak xI xE jG ga aq xJ xD ou;dsimp only);rw[bh];obtain⟨i,hi⟩:∃i,i=cn n:=⟨_,rfl⟩;rw[←hi]at ao an dN;rw[←hi];obtain⟨a0,a1,bk,bl⟩:=bJ S;obtain⟨A,t,au,bm,hc,ht,_⟩:=bG.at (h.ext C).keys ao;refine⟨K,a1,A,au,bm,t,hc,(lL (B:=λq=>w.heap.size<=q) ht.1 (by have:=Z _ (cN ao);omega) (λq f=>eK C.size f)).use ?_⟩;rintro _ F ⟨tk,rfl,a2,aF,a3⟩;have aG:=cG F;obtain⟨a0,a1,bk,bl⟩:=bJ (S.ext aF);have G:=aF.trans aG;obtain⟨f0,f1,f2,f3⟩:=bJ (E.ext G);have x:=M.at.ext G;have b7:=bG.len x.keys;have b8:=bG.len x.vals;have b9:=cY.len x.kids;have b_:=bG.le (bj.ke M.keys);have ca:=bG.le (bj.ke M.vals);have cb:aC.len<=aC.cap:=x.kids.2.1;have cc:g.heap.size<=F.heap.size:=aF.size;have a4:n.keys.getD i []=n.keys[i]:=fz ao;refine⟨tk,rfl,n.leaf,a0,λs=>aX ⟨λq=>q=w1.heap.size,λe=>?_,c,f1,⟨I,I⟩,λe=>?_,d,f2,⟨I,?_⟩,#[true,.slice (aY c.a 1 0 c.cap) i c.cap,.slice (aY d.a 1 0 d.cap) i d.cap,()],(λw=>by kernel_rfl),λe=>?_,c,f1,⟨I,I⟩,λe=>?_,d,f2,⟨I,?_⟩,#[true,.slice (aY c.a 1 i c.cap) (c.len-i) (c.cap-i),.slice (aY d.a 1 i d.cap) (d.len-i) (d.cap-i),()],(λw=>by kernel_rfl),?_⟩,λs=>?_⟩
  .rw[aA]at e;have e:aR=w1.heap.size:=e;omega
  .rw[aA]at e;have e:aR=w1.heap.size:=e;omega
  .have:=hs.sC s;omega
  .rw[aA]at e;have e:aR=w1.heap.size:=e;omega
  .rw[aA]at e;have e:aR=w1.heap.size:=e;omega
  .have:=hs.sC s;omega
  .have bo:=hs.sC s
   have cS:n.left i=⟨true,n.keys.take i,n.vals.take i,[]⟩:=by unfold aD.left;rw[s];rfl
   have o:n.right i=⟨true,n.keys.drop i,n.vals.drop i,[]⟩:=by unfold aD.right;rw[s];rfl
   have aH:bQ (λq=>u.heap.size<=q) F.drew (n.left i) ⟨aY c.a 1 0 c.cap,i,c.cap⟩ ⟨aY d.a 1 0 d.cap,i,d.cap⟩ bH:=by
    rw[cS];refine⟨?_,?_,cY.none _ _⟩
    .have:=bG.sub x.keys (lo:=0) (hi:=i) I I
     simpa using this
    .have:=bG.sub x.vals (lo:=0) (hi:=i) I I
     simpa using this
   have aI:bQ (λq=>u.heap.size<=q) F.drew (n.right i) ⟨aY c.a 1 i c.cap,c.len-i,c.cap-i⟩ ⟨aY d.a 1 i d.cap,d.len-i,d.cap-i⟩ bH:=by
    rw[o];refine⟨?_,?_,cY.none _ _⟩
    .have:=bG.sub x.keys (lo:=i) (hi:=c.len) I I
     rwa[dX (by rw[ed];omega)]at this
    .have:=bG.sub x.vals (lo:=i) (hi:=d.len) I I
     rwa[dX (by rw[ed];omega)]at this
   have aK:=fy aH (by rw[cS];show(n.keys.take i).length<=_;rw[cI];omega) (by rw[cS];show(n.vals.take i).length<=_;rw[cI];omega) (by rw[cS];simp) (by rw[cS];exact λk l=>Z k (fK l)) (by rw[cS];exact λk l=>am k (fK l));have aL:(.agg #[true,.slice (aY c.a 1 0 c.cap) i c.cap,.slice (aY d.a 1 0 d.cap) i d.cap,()]:aa)=db (n.left i) ⟨aY c.a 1 0 c.cap,i,c.cap⟩ ⟨aY d.a 1 0 d.cap,i,d.cap⟩ bH:=by rw[cS];rfl
   have aM:(.agg #[true,.slice (aY c.a 1 i c.cap) (c.len-i) (c.cap-i),.slice (aY d.a 1 i d.cap) (d.len-i) (d.cap-i),()]:aa)=db (n.right i) ⟨aY c.a 1 i c.cap,c.len-i,c.cap-i⟩ ⟨aY d.a 1 i d.cap,d.len-i,d.cap-i⟩ bH:=by rw[o];rfl
   rw[aL,aM];refine aK.use ?_;rintro _ bp ⟨ff,fW,bE,bs,bt,bu,rfl,aN,N⟩;have aO:=fy (aI.ext N) (by rw[o];show(n.keys.drop i).length<=_;rw[ed];omega) (by rw[o];show(n.vals.drop i).length<=_;rw[ed];omega) (by rw[o];simp) (by rw[o];exact λk l=>Z k (fH l)) (by rw[o];exact λk l=>am k (fH l));refine⟨_,ff,fW,bE,rfl,af.c0 N,aO.use ?_⟩;rintro _ bw ⟨dA,dV,c1,bx,bz,bA,rfl,aQ,ab⟩;have O:=N.trans ab;have bB:=N.size;have bF:=G.size;refine⟨_,dA,dV,c1,rfl,af.c0 ab,BY (cx:=(n.left i).leaf) (b3:=(n.right i).leaf) (ff:=ff) (fW:=fW) (bE:=bE) (dA:=dA) (dV:=dV) (c1:=c1) ((T.ext G).ext O) ((U.ext G).ext O) rfl rfl I (λq f=>f) (Q:=λcx ff fW bE b3 dA dV c1 w'=>vY n w (.tuple #[.agg #[cx,ff,fW,bE],tk,.agg #[b3,dA,dV,c1],true]) w') λbI P=>?_⟩;have bK:F.drew.heap.size=F.heap.size:=rfl;refine⟨ff,fW,bE,dA,dV,c1,tk,by rw[←hi];rfl,?_,?_,?_,?_⟩
   .rw[←hi];exact((aN.at.ext ab).ah P λq f e=>I).a7 λq _ f=>by omega
   .rw[←hi];exact(aQ.at.ah P λq f e=>I).a7 λq _ f=>by omega
   .rw[←hi,a4]
    have aS:∀q,aB tk q->g.heap.size<=q:=a3;exact bq.kI (bq.ext (bq.ext a2 aG) O) P λq f e=>by have:=aS q f;omega
   .exact Ext.dS (C.trans (G.trans O)) P λq f=>by omega
  .have bo:=hs.vS s
   have cd:i<=n.keys.length-2/\1<=n.keys.length-2:=by rw[s,←hi]at z;simpa using z
   have bL:IntKind.wrap .i64 ((i:Int)+1)=((i+1:Nat):Int):=by rw[bn I I];rfl
   rw[bL];refine aX ⟨λq=>q=w1.heap.size,λe=>?_,c,f1,⟨I,I⟩,λe=>?_,aC,f3,⟨I,I⟩,#[false,.slice (aY c.a 1 0 c.cap) i c.cap,(),.slice (aY aC.a 1 0 aC.cap) (i+1) aC.cap],(λw=>by kernel_rfl),λe=>?_,c,f1,⟨I,I⟩,λe=>?_,aC,f3,⟨I,I⟩,#[false,.slice (aY c.a 1 (i+1) c.cap) (c.len-(i+1)) (c.cap-(i+1)),(),.slice (aY aC.a 1 (i+1) aC.cap) (aC.len-(i+1)) (aC.cap-(i+1))],(λw=>by kernel_rfl),?_⟩
   .rw[aA]at e;have e:aR=w1.heap.size:=e;omega
   .rw[aA]at e;have e:aR=w1.heap.size:=e;omega
   .rw[aA]at e;have e:aR=w1.heap.size:=e;omega
   .rw[aA]at e;have e:aR=w1.heap.size:=e;omega
   have cS:n.left i=⟨false,n.keys.take i,[],n.kids.take (i+1)⟩:=by unfold aD.left;rw[s];rfl
   have o:n.right i=⟨false,n.keys.drop (i+1),[],n.kids.drop (i+1)⟩:=by unfold aD.right;rw[s];rfl
   have aH:bQ (λq=>u.heap.size<=q) F.drew (n.left i) ⟨aY c.a 1 0 c.cap,i,c.cap⟩ bH ⟨aY aC.a 1 0 aC.cap,i+1,aC.cap⟩:=by
    rw[cS];refine⟨?_,bG.none _ _,?_⟩
    .have:=bG.sub x.keys (lo:=0) (hi:=i) I I
     simpa using this
    .have:=cY.sub x.kids (lo:=0) (hi:=i+1) I I
     simpa using this
   have aI:bQ (λq=>u.heap.size<=q) F.drew (n.right i) ⟨aY c.a 1 (i+1) c.cap,c.len-(i+1),c.cap-(i+1)⟩ bH ⟨aY aC.a 1 (i+1) aC.cap,aC.len-(i+1),aC.cap-(i+1)⟩:=by
    rw[o];refine⟨?_,bG.none _ _,?_⟩
    .have:=bG.sub x.keys (lo:=i+1) (hi:=c.len) I I
     rwa[dX (by rw[ed];omega)]at this
    .have:=cY.sub x.kids (lo:=i+1) (hi:=aC.len) I I
     rwa[dX (by rw[ed];omega)]at this
   have aK:=fy aH (by rw[cS];show(n.keys.take i).length<=_;rw[cI];omega) (by rw[cS];simp) (by rw[cS];show(n.kids.take (i+1)).length<=_;rw[cI];omega) (by rw[cS];exact λk l=>Z k (fK l)) (by rw[cS];simp);have aL:(.agg #[false,.slice (aY c.a 1 0 c.cap) i c.cap,(),.slice (aY aC.a 1 0 aC.cap) (i+1) aC.cap]:aa)=db (n.left i) ⟨aY c.a 1 0 c.cap,i,c.cap⟩ bH ⟨aY aC.a 1 0 aC.cap,i+1,aC.cap⟩:=by rw[cS];rfl
   have aM:(.agg #[false,.slice (aY c.a 1 (i+1) c.cap) (c.len-(i+1)) (c.cap-(i+1)),(),.slice (aY aC.a 1 (i+1) aC.cap) (aC.len-(i+1)) (aC.cap-(i+1))]:aa)=db (n.right i) ⟨aY c.a 1 (i+1) c.cap,c.len-(i+1),c.cap-(i+1)⟩ bH ⟨aY aC.a 1 (i+1) aC.cap,aC.len-(i+1),aC.cap-(i+1)⟩:=by rw[o];rfl
   rw[aL,aM];refine aK.use ?_;rintro _ bp ⟨ff,fW,bE,bs,bt,bu,rfl,aN,N⟩;have aO:=fy (aI.ext N) (by rw[o];show(n.keys.drop (i+1)).length<=_;rw[ed];omega) (by rw[o];simp) (by rw[o];show(n.kids.drop (i+1)).length<=_;rw[ed];omega) (by rw[o];exact λk l=>Z k (fH l)) (by rw[o];simp);refine⟨_,ff,fW,bE,rfl,af.c0 N,aO.use ?_⟩;rintro _ bw ⟨dA,dV,c1,bx,bz,bA,rfl,aQ,ab⟩;have O:=N.trans ab;have bB:=N.size;have bF:=G.size;refine⟨_,dA,dV,c1,rfl,af.c0 ab,BY (cx:=(n.left i).leaf) (b3:=(n.right i).leaf) (ff:=ff) (fW:=fW) (bE:=bE) (dA:=dA) (dV:=dV) (c1:=c1) ((T.ext G).ext O) ((U.ext G).ext O) rfl rfl I (λq f=>f) (Q:=λcx ff fW bE b3 dA dV c1 w'=>vY n w (.tuple #[.agg #[cx,ff,fW,bE],tk,.agg #[b3,dA,dV,c1],true]) w') λbI P=>?_⟩;have bK:F.drew.heap.size=F.heap.size:=rfl;refine⟨ff,fW,bE,dA,dV,c1,tk,by rw[←hi];rfl,?_,?_,?_,?_⟩
   .rw[←hi];exact((aN.at.ext ab).ah P λq f e=>I).a7 λq _ f=>by omega
   .rw[←hi];exact(aQ.at.ah P λq f e=>I).a7 λq _ f=>by omega
   .rw[←hi,a4]
    have aS:∀q,aB tk q->g.heap.size<=q:=a3;exact bq.kI (bq.ext (bq.ext a2 aG) O) P λq f e=>by have:=aS q f;omega
   .exact Ext.dS (C.trans (G.trans O)) P λq f=>by omega
 refine⟨true,rfl,λh=>?_,λ_=>aX ⟨λ_=>False,id,_,bS,K,aU,V,a_,D,bd,id,_,bS,K,aU,V,a_,D,bd,⟨?_,?_⟩⟩⟩
 .simp only[Bool.not_true,mO]at h
  have:=cj h;omega
 .refine(fy (h.ext R) I I I Z am).use ?_
  rintro _ a5 ⟨c,d,aC,bC,bT,br,rfl,W,y⟩;refine⟨n.leaf,c,d,aC,rfl,y,⟨?_,?_⟩⟩
  .refine(nn (h.ext (R.trans y)) hs av (most:=most) an.2.1).use ?_
   rintro _ aV ⟨rfl,p⟩;refine⟨_,rfl,p,a8 (vs:=[false,(),(),()]) rfl λa6 X r a9=>⟨r,X.cl rfl (pb _ _ _ _),rfl,cP X (us:=[n.leaf,c,d,aC]) rfl rfl λg E j ba=>?_⟩⟩;have bM:=y.size;have bN:=p.size;obtain⟨aR,L⟩:∃aR,aR=aV.heap.size:=⟨_,rfl⟩;rw[←L]at E j⊢;have v:=y.trans (p.trans r);have M:fV u.heap.size g n c d aC bC bT br:=(W.ext (p.trans r)).ah j λq _ _ f e=>by
    subst e;rcases f with f|f|f
    .have:=(W.bZ _ f).2.1;omega
    .have:=(W.bv _ f).2.1;omega
    .have:=(W.aP _ f).2;omega
   have C:Ext w g:=Ext.cy (R.trans v) j I;have S:=(ar.ext v).ah j I;have T:=(ay.ext v).ah j I;have U:=(az.ext v).ah j I;subst L;exact fin g _ _ c d aC bC bT br C ⟨I,I⟩ E M S T U rfl
  .refine a8 (vs:=[false,(),(),()]) rfl λaV bO p ce=>⟨p,?_⟩
   refine(nn (h.ext (R.trans (y.trans p))) hs av (most:=most) an.2.1).use ?_;rintro _ a6 ⟨rfl,r⟩;have X:=bO.ext r;refine⟨_,rfl,r,X.cl rfl (pb _ _ _ _),rfl,cP X (us:=[n.leaf,c,d,aC]) rfl rfl λg E j ba=>?_⟩;have bM:=y.size;have a9:=r.size;obtain⟨aR,L⟩:∃aR,aR=a5.heap.size:=⟨_,rfl⟩;rw[←L]at E j⊢;have v:=y.trans (p.trans r);have M:fV u.heap.size g n c d aC bC bT br:=(W.ext (p.trans r)).ah j λq _ _ f e=>by
    subst e;rcases f with f|f|f
    .have:=(W.bZ _ f).2.1;omega
    .have:=(W.bv _ f).2.1;omega
    .have:=(W.aP _ f).2;omega
   have C:Ext w g:=Ext.cy (R.trans v) j I;have S:=(ar.ext v).ah j I;have T:=(ay.ext v).ah j I;have U:=(az.ext v).ah j I;subst L;exact fin g _ _ c d aC bC bT br C ⟨I,I⟩ E M S T U rfl
 .refine a8 (vs:=[false,(),(),()]) rfl λa5 bP y cf=>⟨y,?_⟩
  refine(fy (h.ext (R.trans y)) I I I Z am).use ?_;rintro _ aV ⟨c,d,aC,bC,bT,br,rfl,bR,p⟩;refine⟨n.leaf,c,d,aC,rfl,p,(nn (h.ext (R.trans (y.trans p))) hs av (most:=most) an.2.1).use ?_⟩;rintro _ a6 ⟨rfl,r⟩;have X:=bP.ext (p.trans r);refine⟨_,rfl,r,X.cl rfl (pb _ _ _ _),rfl,cP X (us:=[n.leaf,c,d,aC]) rfl rfl λg E j ba=>?_⟩;have bN:=p.size;have a9:=r.size;obtain⟨aR,L⟩:∃aR,aR=u.drew.heap.size:=⟨_,rfl⟩;rw[←L]at E j⊢;have v:=y.trans (p.trans r);have M:fV u.heap.size g n c d aC bC bT br:=((bR.ext r).ah j λq h1 _ _ e=>I).low I;have C:Ext w g:=Ext.cy (R.trans v) j I;have S:=(ar.ext v).ah j I;have T:=(ay.ext v).ah j I;have U:=(az.ext v).ah j I;subst L;exact fin g _ _ c d aC bC bT br C ⟨I,I⟩ E M S T U rfl
theorem yC{B C:Nat->Prop}{w:J}{s x:ad}{ls xs:O Key}(l:bj B w s ls)(hx:bG C w x xs)(hd:∀q,C q->¬aB s q)(v:ls.length<=100000)(y:xs.length<=100000):
 ∃ (d:ad) (w':J),Sem.run aj (Builtin.append_ #[93,93] 93 #[s,x]) w=.ok d w'/\bG (λq=>B q\/C q\/w.heap.size<=q) w' d (ls++xs)/\af (aB s) w w':=by
 have z:=bG.len hx;obtain⟨ts,h1,h2,m,n⟩:=l;obtain⟨us,aw,ay,A,D,o⟩:=hx;have E:s.len=ls.length:=by have:=h2.1;rw[di]at this;omega
 obtain⟨d,w',p,f,F,g,r⟩:=qP.append (cB:=93) ay h2 (vR us) I;refine⟨d,w',p,⟨ts++us,by simp[h1,aw],?_,f.2.1,?_,λi t G=>?_⟩,g⟩
 .rw[fJ];exact f.src
 .intro k c
  refine⟨?_,f.lt k c⟩;rcases r k c with h|h
  .exact .inl (m k h).1
  .exact .inr (.inr h)
 .rcases ec i ts.length with h|h
  .have j:i<ls.length:=by omega
   rw[nX h,nX j];obtain⟨a,b⟩:=n i h j;exact bq.a7 (bq.kI a g b) λk _ c=>.inl c
  .have u:i-ts.length<us.length:=by rw[cp]at t;omega
   have H:i-ls.length<xs.length:=by omega
   rw[pD h,pD I];have e:i-ls.length=i-ts.length:=by omega
   have a:=o (i-ts.length) u I;simp only[e];exact bq.a7 (bq.kI a g λk c=>hd k (a.2.2 k c).1) λk _ c=>.inr (.inl c)
theorem BZ{B C:Nat->Prop}{w:J}{s x:ad}{ds es:O Nat}(d:cJ B w s ds)(hx:cY C w x es)(i:ds.length<=100000)(j:es.length<=100000):
 ∃ (a:ad) (w':J),Sem.run aj (Builtin.append_ #[72,72] 72 #[s,x]) w=.ok a w'/\cY (λq=>B q\/C q\/w.heap.size<=q) w' a (ds++es)/\af (aB s) w w':=by
 have l:=cY.len hx;obtain⟨h1,h2⟩:=d;have m:s.len=ds.length:=by have:=h1.1;rw[qN]at this;omega
 obtain⟨a,w',e,b,n,f,g⟩:=sB.append (cB:=72) hx.1 h1 (BC es) I;refine⟨a,w',e,⟨?_,b.2.1,?_⟩,f⟩
 .have:fR ds++fR es=fR (ds++es):=by simp[fR]
  rw[this]at b;exact b.src
 .intro k c
  refine⟨?_,b.lt k c⟩;rcases g k c with h|h
  .exact .inl (h2 k h).1
  .exact .inr (.inr h)
theorem G0{wp aC aE aF:J}{lo pa d aR T:Nat}{key U r o ac ag aj:ad}{w cT:J}{a b:aD}{s:Key}{bC bT br C:Nat->Prop}{aG:O aa}(bb:cT.cell? pa=some (.bool a.leaf))
 (au:Var cT d [a.leaf,U,r,o] 169) (aH:Var cT aR [b.leaf,ac,ag,aj] 169)
 (g:fV lo cT a U r o bC bT br) (bc:bQ C cT b ac ag aj) (f:∀q,C q->lo<=q/\q<cT.heap.size/\q≠d/\q≠aR/\¬bC q/\¬bT q/\¬br q) (E:∀q,bC q\/bT q\/br q->q≠d/\q≠aR) (la:lo<=d) (lb:lo<=aR) (al:d≠aR)
 (be:Var cT T aG 169) (bf:aG.length=4) (bR:T<lo) (bg:w.heap.size<=T) (t:Src 1 cT key (az s)) (bU:s.length<=1000) (bh:Ext w cT) (hs:cC (dB a s b)) (aI:a.leaf=b.leaf) (am:cC a) (sb:cC b)
 (cc:a.keys.length<=10000) (bA:b.keys.length<=10000) (bi:wp.heap.size=pa) (bk:aC.heap.size=d) (bl:aE.heap.size=aR) (bm:aF.heap.size=T):ae.xQ wp aC aE aF key cT (nB (dB a s b) w):=by
 (delta ae.xQ tX aT Y ak r1 bD p9 st b6 jH p_ cW p8;dsimp only);rw[bi,bk,bl,bm];have bV:=au.lt;have bW:=aH.lt;have aJ:∀ {n:aD},cC n->n.keys.length<=10000->n.vals.length<=10000/\n.kids.length<=10001:=λ{n} h1 h2=>by
  rcases h1 with h1|h1
  .rw[h1.len,h1.kids];exact⟨h2,cL _⟩
  .rw[h1.len,h1.vals];exact⟨cL _,I⟩
 obtain⟨bX,bY⟩:=aJ am cc;obtain⟨l7,b0⟩:=aJ sb bA;have aK:hE lo cT d a U r o bC bT br:=⟨au,g.keys,g.vals,g.kids,λq c=>⟨(g.bZ q c).1,(g.bZ q c).2.1,(E q (.inl c)).1,(g.bZ q c).2.2⟩,λq c=>⟨(g.bv q c).1,(g.bv q c).2.1,(E q (.inr (.inl c))).1,(g.bv q c).2.2⟩,λq c=>⟨(g.aP q c).1,(g.aP q c).2,(E q (.inr (.inr c))).1⟩,la⟩;refine k2 (λw'=>∃ (K:ad) (W:Nat->Prop),hE lo w' d ⟨a.leaf,if a.leaf then a.keys else a.keys++ [s],a.vals,a.kids⟩ K r o W bT br/\af (λq=>q=d\/bC q) cT w'/\(∀q,W q->bC q\/cT.heap.size<=q)) (λq c=>⟨_,bb,λu=>?_,λu=>c _ ⟨U,bC,?_,.refl _ _,λq h=>.inl h⟩⟩) ?_
 .have u:a.leaf=false:=by simpa using u
  refine yy aK t I I λw' bn W h1 h2 G=>c _ ⟨bn,W,?_,h2,G⟩;rw[if_neg (by rw[u];simp)];exact h1
 .have u:a.leaf=true:=by simpa using u
  rw[if_pos u];exact aK
 rintro w1 ⟨ff,an,h1,H,aL⟩;have b1:=H.size;have aM:=aH.ah H (by
  rintro(h|h)
  .exact al h.symm
  .exact(E _ (.inl h)).2 rfl)
 have aN:=bc.ah H λq c h=>by
  have:=f q c;rcases h with h|h
  .exact this.2.2.1 h
  .exact this.2.2.2.2.1 h
 have bo:=be.ah H (by
  rintro(h|h)
  .omega
  .have:=(g.bZ _ h).1;omega)
 have bp:Ext w w1:=Ext.dS bh H λq c=>by
  rcases c with h|h
  .omega
  .have:=(g.bZ _ h).1;omega
 obtain⟨L,X⟩:∃l,l=(if a.leaf then a.keys else a.keys++ [s]):=⟨_,rfl⟩;rw[←X]at h1;have b2:L.length<=10001:=by
  rw[X];split
  .omega
  .rw[cp];simp;omega
 obtain⟨bS,aU,a_,bd⟩:=bJ h1.v;obtain⟨d0,d1,d2,d3⟩:=bJ aM;have x:∀q,aB ff q->an q:=λk t=>by obtain⟨ts,_,_,G,_⟩:=h1.keys;exact(G k t).1
 have ao:∀q,aB r q->bT q:=λk t=>by obtain⟨ts,_,_,G,_⟩:=h1.vals;exact(G k t).1
 have aO:∀q,aB o q->br q:=λk t=>(h1.kids.2 k t).1;have aQ:∀q,C q->¬aB ff q:=λq c h=>by
  rcases aL q (x q h) with h2|h2
  .exact(f q c).2.2.2.2.1 h2
  .have:=(f q c).2.1;omega
 obtain⟨ef,ai,M,N,p⟩:=yC h1.keys aN.keys aQ (by show L.length<=_;omega) I;have aS:=h1.v.ah p λh=>(h1.bZ _ (x _ h)).2.2.1 rfl;obtain⟨P,R⟩:=eA aS (i:=1) (by simp);refine⟨ff,aU,ac,d1,ef,ai,M,?_⟩;rw[aA,aA];refine⟨P,R,aX ?_⟩;obtain⟨j,ap⟩:∃j,j=ai.setCell ⟨d,0+1,none⟩ ef:=⟨_,rfl⟩;rw[←ap];have aV:af (λq=>q=d) ai j:=by rw[ap];exact dU _ _ _ _
 have aW:Var j d [a.leaf,ef,r,o] 169:=by rw[ap];exact ez aS _
 have y:af (λq=>q=d\/aB ff q) w1 j:=(p.mono λq _ h=>.inr h).trans (aV.mono λq _ h=>.inl h);have aY:=aM.ah y (by
  rintro(h|h)
  .exact al h.symm
  .rcases aL _ (x _ h) with h2|h2
   .exact(E _ (.inl h2)).2 rfl
   .omega)
 have aZ:=aN.ah y λq c h=>by
  rcases h with h|h
  .exact(f q c).2.2.1 h
  .exact aQ q c h
 have bq:=bj.ah h1.vals y λq c h=>by
  rcases h with h|h
  .exact(h1.bv q c).2.2.1 h
  .exact(h1.bZ q (x q h)).2.2.2.1 c
 have bs:=cJ.ah h1.kids y λq c h=>by
  rcases h with h|h
  .exact(h1.aP q c).2.2 h
  .exact(h1.bZ q (x q h)).2.2.2.2 c
 have bt:=bo.ah y (by
  rintro(h|h)
  .omega
  .have:=(h1.bZ _ (x _ h)).1;omega)
 have bu:Ext w j:=Ext.dS bp y λq c=>by
  rcases c with h|h
  .omega
  .have:=(h1.bZ _ (x _ h)).1;omega
 have bw:bG (λq=>(an q\/C q\/w1.heap.size<=q)/\q≠d) j ef (L++b.keys):=by
  have aq:bG (λq=>(an q\/C q\/w1.heap.size<=q)/\q≠d) ai ef (L++b.keys):=bG.a7 N λq _ c=>⟨c,by
   rcases c with h|h|h
   .exact(h1.bZ _ h).2.2.1
   .exact(f _ h).2.2.1
   .omega⟩
  exact bG.ah aq aV λq c h=>c.2 h
 obtain⟨bS,aU,a_,bd⟩:=bJ aW;obtain⟨d0,d1,d2,d3⟩:=bJ aY;have b3:=y.size
 obtain⟨dF,Z,M,N,p⟩:=yC bq aZ.vals (λq c h=>(f q c).2.2.2.2.2.1 (ao q h)) (by show a.vals.length<=_;omega) I;have a0:=aW.ah p λh=>(h1.bv _ (ao _ h)).2.2.1 rfl;obtain⟨P,R⟩:=eA a0 (i:=2) (by simp);rw[aA]at a_ d2;refine⟨r,a_,ag,d2,dF,Z,M,?_⟩;rw[aA,aA];refine⟨P,R,aX ?_⟩;obtain⟨m,ar⟩:∃m,m=Z.setCell ⟨d,0+2,none⟩ dF:=⟨_,rfl⟩;rw[←ar];have a1:af (λq=>q=d) Z m:=by rw[ar];exact dU _ _ _ _
 have a2:Var m d [a.leaf,ef,dF,o] 169:=by rw[ar];exact ez a0 _
 have z:af (λq=>q=d\/bT q) j m:=(p.mono λq _ h=>.inr (ao q h)).trans (a1.mono λq _ h=>.inl h);have bx:=aY.ah z (by
  rintro(h|h)
  .exact al h.symm
  .exact(E _ (.inr (.inl h))).2 rfl)
 have bz:=aZ.ah z λq c h=>by
  rcases h with h|h
  .exact(f q c).2.2.1 h
  .exact(f q c).2.2.2.2.2.1 h
 have bB:=bG.ah bw z λq c h=>by
  rcases h with h|h
  .exact c.2 h
  .rcases c.1 with h2|h2|h2
   .exact(h1.bZ _ h2).2.2.2.1 h
   .exact(f _ h2).2.2.2.2.2.1 h
   .have:=(h1.bv _ h).2.1;omega
 have bE:=cJ.ah bs z λq c h=>by
  rcases h with h|h
  .exact(h1.aP q c).2.2 h
  .exact(h1.bv q h).2.2.2 c
 have bF:=bt.ah z (by
  rintro(h|h)
  .omega
  .have:=(h1.bv _ h).1;omega)
 have bH:Ext w m:=Ext.dS bu z λq c=>by
  rcases c with h|h
  .omega
  .have:=(h1.bv _ h).1;omega
 have bI:bG (λq=>(bT q\/C q\/j.heap.size<=q)/\q≠d) m dF (a.vals++b.vals):=by
  have aq:bG (λq=>(bT q\/C q\/j.heap.size<=q)/\q≠d) Z dF (a.vals++b.vals):=bG.a7 N λq _ c=>⟨c,by
   rcases c with h|h|h
   .exact(h1.bv _ h).2.2.1
   .exact(f _ h).2.2.1
   .omega⟩
  exact bG.ah aq a1 λq c h=>c.2 h
 obtain⟨bS,aU,a_,bd⟩:=bJ a2;obtain⟨d0,d1,d2,d3⟩:=bJ bx;have b4:=z.size
 obtain⟨kh,av,M,N,p⟩:=BZ bE bz.kids (by show a.kids.length<=_;omega) I;have a3:=a2.ah p λh=>(h1.aP _ (aO _ h)).2.2 rfl;obtain⟨P,R⟩:=eA a3 (i:=3) (by simp);rw[aA]at bd d3;refine⟨o,bd,aj,d3,kh,av,M,?_⟩;rw[aA,aA];refine⟨P,R,aX ?_⟩;obtain⟨A,aw⟩:∃A,A=av.setCell ⟨d,0+3,none⟩ kh:=⟨_,rfl⟩;rw[←aw];have a4:af (λq=>q=d) av A:=by rw[aw];exact dU _ _ _ _
 have a5:Var A d [a.leaf,ef,dF,kh] 169:=by rw[aw];exact ez a3 _
 have S:af (λq=>q=d\/br q) m A:=(p.mono λq _ h=>.inr (aO q h)).trans (a4.mono λq _ h=>.inl h);have bK:=bG.ah bB S λq c h=>by
  rcases h with h|h
  .exact c.2 h
  .rcases c.1 with h2|h2|h2
   .exact(h1.bZ _ h2).2.2.2.2 h
   .exact(f _ h2).2.2.2.2.2.2 h
   .have:=(h1.aP _ h).2.1;omega
 have bL:=bG.ah bI S λq c h=>by
  rcases h with h|h
  .exact c.2 h
  .rcases c.1 with h2|h2|h2
   .exact(h1.bv _ h2).2.2.2 h
   .exact(f _ h2).2.2.2.2.2.2 h
   .have:=(h1.aP _ h).2.1;omega
 have bM:=bF.ah S (by
  rintro(h|h)
  .omega
  .have:=(h1.aP _ h).1;omega)
 have bN:Ext w A:=Ext.dS bH S λq c=>by
  rcases c with h|h
  .omega
  .have:=(h1.aP _ h).1;omega
 have b5:=S.size;have a6:bQ (λq=>lo<=q) A (dB a s b) ef dF kh:=by
  have kJ:dB a s b=⟨a.leaf,L++b.keys,a.vals++b.vals,a.kids++b.kids⟩:=by
   unfold dB
   cases F:a.leaf with
   |true=>
    have ax:a.kids=[]:=by
     rcases am with h|h
     .exact h.kids
     .have:=h.inner;rw[F]at this;cases this
    have kb:b.kids=[]:=by
     rcases sb with h|h
     .exact h.kids
     .have:=h.inner;rw[←aI,F]at this;cases this
    rw[X,F,ax,kb];simp
   |false=>
    have ax:a.vals=[]:=by
     rcases am with h|h
     .have:=h.leaf;rw[F]at this;cases this
     .exact h.vals
    have kb:b.vals=[]:=by
     rcases sb with h|h
     .have:=h.leaf;rw[←aI,F]at this;cases this
     .exact h.vals
    rw[X,F,ax,kb];simp
  rw[kJ];refine⟨bG.a7 bK λq _ c=>?_,bG.a7 bL λq _ c=>?_,cY.a7 (cY.ah (B:=λq=>(br q\/C q\/m.heap.size<=q)/\q≠d) (cY.a7 N λq _ c=>⟨c,?_⟩) a4 λq c h=>c.2 h) λq _ c=>?_⟩
  .rcases c.1 with h|h|h
   .exact(h1.bZ _ h).1
   .exact(f _ h).1
   .omega
  .rcases c.1 with h|h|h
   .exact(h1.bv _ h).1
   .exact(f _ h).1
   .omega
  .rcases c with h|h|h
   .exact(h1.aP _ h).2.2
   .exact(f _ h).2.2.1
   .omega
  .rcases c.1 with h|h|h
   .exact(h1.aP _ h).1
   .exact(f _ h).1
   .omega
 obtain⟨bS,aU,a_,bd⟩:=bJ a5;rw[aA]at aU a_ bd;have b7:(dB a s b).keys.length<=20001:=by
  unfold dB;split
  .show(a.keys++b.keys).length<=_;rw[cp];omega
  .show(a.keys++s::b.keys).length<=_;rw[cp,fY];omega
 have b8:(dB a s b).vals.length<=20001:=by
  unfold dB;split
  .show(a.vals++b.vals).length<=_;rw[cp];omega
  .simp
 have b9:(dB a s b).kids.length<=20002:=by
  unfold dB;split
  .simp
  .show(a.kids++b.kids).length<=_;rw[cp];omega
 have a8:(dB a s b).leaf=a.leaf:=Bn
 repeat rw[aA]
 refine⟨_,bS,ef,aU,dF,a_,kh,bd,?_⟩;have ay:=j9 a6 I I I;unfold db at ay;rw[a8]at ay;refine ay.use ?_;rintro _ b_ ⟨ca,rfl,bO,ab⟩;have:=bO.2 hs;subst this;obtain⟨bS,aU,a_,bd⟩:=bJ (a5.ext ab);rw[aA]at aU a_ bd;have a9:=iQ a.leaf ef dF kh (bM.ext ab) bf (Q:=λbP K V D ai=>nB (dB a s b) w (.tuple #[.agg #[bP,K,V,D],true]) ai) λcb ba=>⟨ef,dF,kh,by unfold db;rw[a8],((a6.ext ab).ah ba λq c e=>I).a7 λq _ c=>I,Ext.cy (bN.trans ab) ba bg⟩
 repeat rw[aA]at a9
 exact⟨true,rfl,λh=>(by cases h),λ_=>⟨_,bS,ef,aU,dF,a_,kh,bd,a9⟩⟩
theorem oP{be bf:Nat->Prop}{w:J}{a b:aD}{R S T U V W key:ad}{s:Key}(aQ:bQ be w a R S T)(aS:bQ bf w b U V W)(M:Src 1 w key (az s))(bg:∀q,aB key q->q<w.heap.size)(bh:s.length<=1000)(al:cC a)(sb:cC b)(aV:a.leaf=b.leaf)(hs:cC (dB a s b))
 (cc:a.keys.length<=10000) (bA:b.keys.length<=10000):
 aJ aj 264 #[db a R S T,key,db b U V W] w (nB (dB a s b) w):=by
 have aW:∀ {n:aD},cC n->n.keys.length<=10000->n.vals.length<=10000/\n.kids.length<=10001:=λ{n} h1 h2=>by
  rcases h1 with h1|h1
  .rw[h1.len,h1.kids];exact⟨h2,cL _⟩
  .rw[h1.len,h1.vals];exact⟨cL _,I⟩
 obtain⟨bz,bB⟩:=aW al cc;obtain⟨l7,bC⟩:=aW sb bA;have am:∀k∈a.keys,k.length<=100000:=λk M=>by have:=(al.keys.ok k M).2;omega
 have y:∀k∈b.keys,k.length<=100000:=λk M=>by have:=(sb.keys.ok k M).2;omega
 have an:∀k∈a.vals,k.length<=100000:=λk M=>by have:=al.vals k M;omega
 have z:∀k∈b.vals,k.length<=100000:=λk M=>by have:=sb.vals k M;omega
 refine okF (ae.oP a.leaf R S T key b.leaf U V W) ax.oP func264 ?_;(delta ae.oP z4 aT Y r1 b6 qb ak jH p_ ga bW tX bD p9 st p8 ow;dsimp only);refine a8 (vs:=[a.leaf,R,S,T]) rfl λw1 aH bi bE=>?_;refine a8 (vs:=[b.leaf,U,V,W]) rfl λai aI av bF=>?_;refine a8 (vs:=[false,(),(),()]) rfl λbj bk X bG=>?_;have aY:=bi.trans (av.trans X);obtain⟨bS,aU,a_,bd⟩:=bJ (aH.ext (av.trans X));refine⟨_,bS,R,aU,S,a_,T,bd,(j9 (aQ.ext aY) I I I).use ?_⟩;rintro _ bl ⟨cx,rfl,bm,P⟩;have:=bm.2 al;subst this;have aZ:=aY.trans P;obtain⟨d0,d1,d2,d3⟩:=bJ (aI.ext (X.trans P));refine⟨true,rfl,cA (λb w'=>b=false/\Ext bl w') (λq o=>⟨λh=>(by cases h),λ_=>⟨_,d0,U,d1,V,d2,W,d3,(j9 (aS.ext aZ) I I I).use ?_⟩⟩) ?_⟩
 .rintro _ aA ⟨b3,rfl,bn,N⟩
  have:=bn.2 sb;subst this;exact⟨true,rfl,o _ _ ⟨rfl,N⟩⟩
 rintro _ aA ⟨rfl,N⟩;have bo:=aZ.trans N;obtain⟨bS,aU,a_,bd⟩:=bJ (aH.ext (av.trans (X.trans (P.trans N))));obtain⟨d0,d1,d2,d3⟩:=bJ (aI.ext (X.trans (P.trans N)));refine cA (λb w'=>b=false/\aA=w') (λq o=>⟨λh=>(by cases h),λ_=>⟨_,bS,_,d0,o _ _ ⟨by rw[aV];simp,rfl⟩⟩⟩) ?_;rintro _ _ ⟨rfl,rfl⟩;have ap:=cG aA;have a0:=bo.trans ap;obtain⟨v,Z⟩:∃v,v=aA.drew:=⟨_,rfl⟩;have a1:Var v w.heap.size [a.leaf,R,S,T] 169:=by rw[Z];exact(aH.ext (av.trans (X.trans (P.trans N)))).ext ap
 have bp:Var v w1.heap.size [b.leaf,U,V,W] 169:=by rw[Z];exact(aI.ext (X.trans (P.trans N))).ext ap
 have bq:Var v ai.heap.size [false,(),(),()] 169:=by rw[Z];exact(bk.ext (P.trans N)).ext ap
 have aq:Ext w v:=by rw[Z];exact a0
 have bH:bj.heap.size<=v.heap.size:=by rw[Z];exact(P.trans N).size
 have ar:=aQ.ext aq;have A:=aS.ext aq;have br:=M.ext aq;obtain⟨lo,bK⟩:∃lo,lo=v.heap.size:=⟨_,rfl⟩;rw[←Z];clear bS aU a_ bd d0 d1 d2 d3 Z a0 ap;have fin:∀ {la lb x aR:Nat}{Q ac p aK jL:J}{r t u f i j:ad}{aL aM aN a2 a3 a4:Nat->Prop},fV la Q a r t u aL aM aN->fV lb ac b f i j a2 a3 a4->Ext Q p->Ext ac p->Ext v p->
  Var p x [false,(),(),()] 169->Var p aR [false,(),(),()] 169->
  (v.heap.size<=la/\la<=Q.heap.size/\Q.heap.size<=lb/\v.heap.size<=x/\v.heap.size<=aR/\x≠aR/\(x<la\/Q.heap.size<=x)/\(aR<la\/Q.heap.size<=aR)/\(x<lb\/ac.heap.size<=x)/\(aR<lb\/ac.heap.size<=aR))->aK.heap.size=x->jL.heap.size=aR->
  bI p x [a.leaf,r,t,u]/\(4:Nat)=4/\ao (setCells p x 0 [a.leaf,r,t,u]) λaO=>
   bI aO aR [b.leaf,f,i,j]/\(4:Nat)=4/\ao (setCells aO aR 0 [b.leaf,f,i,j]) λaC=>ae.xQ w aK jL ai key aC (nB (dB a s b) w):=by
  intro la lb x aR Q ac p aK jL r t u f i j aL aM aN a2 a3 a4 m l a5 a6 g a9 bs bL bt bu;have jF:=a5.size;have ir:=a6.size;have z3:=g.size;refine⟨a9.cl rfl (pb _ _ _ _),rfl,cP a9 (us:=[a.leaf,r,t,u]) rfl rfl λaO bw iR t5=>?_⟩;have ba:=bs.ah iR I;refine⟨ba.cl rfl (pb _ _ _ _),rfl,cP ba (us:=[b.leaf,f,i,j]) rfl rfl λaC bx bb t6=>?_⟩;have aa:af (λq=>q=x\/q=aR) p aC:=(iR.mono λq _ h=>.inl h).trans (bb.mono λq _ h=>.inr h);have au:∀q,aL q\/aM q\/aN q->la<=q/\q<Q.heap.size:=λq o=>by
   rcases o with o|o|o
   .exact⟨(m.bZ q o).1,(m.bZ q o).2.1⟩
   .exact⟨(m.bv q o).1,(m.bv q o).2.1⟩
   .exact m.aP q o
  have sz:=aa.size;exact G0 (lo:=lo) (cT:=aC) (C:=λq=>lb<=q/\q<ac.heap.size) ((a1.ext g).ah aa I).cell (bw.ah bb I) bx (((m.ext a5).ah aa λq _ _ o e=>by have:=au q o;omega).low I)
   (((l.at.a7 λq h1 h2=>⟨h2,h1⟩).ext a6).ah aa λq o e=>I) (λq o=>⟨I,I,I,I,λh=>(by have:=au q (.inl h);omega),λh=>(by have:=au q (.inr (.inl h));omega),λh=>(by have:=au q (.inr (.inr h));omega)⟩) (λq o=>(by have:=au q o;exact⟨I,I⟩)) I I I
   ((bq.ext g).ah aa I) rfl I I ((br.ext g).ah aa λq o e=>(by have:=bg q o;have:=aq.size;omega)) bh (Ext.dS (aq.trans g) aa λq o=>I) hs aV al sb cc bA rfl bt bu rfl
 obtain⟨bS,aU,a_,bd⟩:=bJ a1;obtain⟨d0,d1,d2,d3⟩:=bJ bp;refine⟨λh=>(by cases h),λ_=>aX ⟨λ_=>False,id,_,bS,R,aU,S,a_,T,bd,id,_,d0,U,d1,V,d2,W,d3,?_⟩⟩;refine⟨?_,?_,?_⟩
 .refine(fy ar I I I am an).use ?_
  rintro _ bc ⟨r,t,u,aE,aF,aG,rfl,m,aw⟩;refine⟨_,r,t,u,rfl,aw,?_⟩;have s1:=aw.size;refine⟨?_,?_,?_⟩
  .refine(fy (A.ext aw) I I I y z).use ?_
   rintro _ ag ⟨f,i,j,H,K,L,rfl,l,ay⟩;refine⟨_,f,i,j,rfl,ay,?_⟩;have s2:=ay.size;refine⟨?_,?_⟩
   .refine a8 (vs:=[false,(),(),()]) rfl λB D d z3=>⟨d,?_⟩
    have E:=d.size;refine a8 (vs:=[false,(),(),()]) rfl λp F c z4=>⟨c,?_⟩;have G:=c.size;exact fin m l (ay.trans (d.trans (c))) (d.trans (c)) (aw.trans (ay.trans (d.trans c))) (D.ext c) (F) I rfl rfl
   .refine a8 (vs:=[false,(),(),()]) rfl λB D d z3=>⟨d,?_⟩
    have E:=d.size;refine a8 (vs:=[false,(),(),()]) rfl λp F c z4=>⟨c,?_⟩;have G:=c.size;exact fin m l (ay.trans (d.trans (c))) (d.trans (c)) (aw.trans (ay.trans (d.trans c))) (F) (D.ext c) I rfl rfl
  .refine a8 (vs:=[false,(),(),()]) rfl λag O ay ir=>⟨ay,?_⟩
   have s2:=ay.size;refine⟨?_,?_⟩
   .refine(fy (A.ext (aw.trans (ay))) I I I y z).use ?_
    rintro _ B ⟨f,i,j,H,K,L,rfl,l,d⟩;refine⟨_,f,i,j,rfl,d,?_⟩;have E:=d.size;refine a8 (vs:=[false,(),(),()]) rfl λp F c z4=>⟨c,?_⟩;have G:=c.size;exact fin m l (ay.trans (d.trans (c))) (c) (aw.trans (ay.trans (d.trans c))) (O.ext (d.trans (c))) (F) I rfl rfl
   .refine a8 (vs:=[false,(),(),()]) rfl λB D d z3=>⟨d,?_⟩
    have E:=d.size;refine(fy (A.ext (aw.trans (ay.trans (d)))) I I I y z).use ?_;rintro _ p ⟨f,i,j,H,K,L,rfl,l,c⟩;refine⟨_,f,i,j,rfl,c,?_⟩;have G:=c.size;exact fin m l (ay.trans (d.trans (c))) ((af.refl _ _)) (aw.trans (ay.trans (d.trans c))) (O.ext (d.trans (c))) (D.ext c) I rfl rfl
  .refine a8 (vs:=[false,(),(),()]) rfl λag O ay ir=>⟨ay,?_⟩
   have s2:=ay.size;refine⟨?_,?_⟩
   .refine(fy (A.ext (aw.trans (ay))) I I I y z).use ?_
    rintro _ B ⟨f,i,j,H,K,L,rfl,l,d⟩;refine⟨_,f,i,j,rfl,d,?_⟩;have E:=d.size;refine a8 (vs:=[false,(),(),()]) rfl λp F c z4=>⟨c,?_⟩;have G:=c.size;exact fin m l (ay.trans (d.trans (c))) (c) (aw.trans (ay.trans (d.trans c))) (F) (O.ext (d.trans (c))) I rfl rfl
   .refine a8 (vs:=[false,(),(),()]) rfl λB D d z3=>⟨d,?_⟩
    have E:=d.size;refine(fy (A.ext (aw.trans (ay.trans (d)))) I I I y z).use ?_;rintro _ p ⟨f,i,j,H,K,L,rfl,l,c⟩;refine⟨_,f,i,j,rfl,c,?_⟩;have G:=c.size;exact fin m l (ay.trans (d.trans (c))) ((af.refl _ _)) (aw.trans (ay.trans (d.trans c))) (D.ext c) (O.ext (d.trans (c))) I rfl rfl
 .refine a8 (vs:=[false,(),(),()]) rfl λbc ab aw jF=>⟨aw,?_⟩
  have s1:=aw.size;refine⟨?_,?_⟩
  .refine(fy (ar.ext aw) I I I am an).use ?_
   rintro _ ag ⟨r,t,u,aE,aF,aG,rfl,m,ay⟩;refine⟨_,r,t,u,rfl,ay,?_⟩;have s2:=ay.size;refine⟨?_,?_⟩
   .refine(fy (A.ext (aw.trans (ay))) I I I y z).use ?_
    rintro _ B ⟨f,i,j,H,K,L,rfl,l,d⟩;refine⟨_,f,i,j,rfl,d,?_⟩;have E:=d.size;refine a8 (vs:=[false,(),(),()]) rfl λp F c z4=>⟨c,?_⟩;have G:=c.size;exact fin m l (d.trans (c)) (c) (aw.trans (ay.trans (d.trans c))) (ab.ext (ay.trans (d.trans (c)))) (F) I rfl rfl
   .refine a8 (vs:=[false,(),(),()]) rfl λB D d z3=>⟨d,?_⟩
    have E:=d.size;refine(fy (A.ext (aw.trans (ay.trans (d)))) I I I y z).use ?_;rintro _ p ⟨f,i,j,H,K,L,rfl,l,c⟩;refine⟨_,f,i,j,rfl,c,?_⟩;have G:=c.size;exact fin m l (d.trans (c)) ((af.refl _ _)) (aw.trans (ay.trans (d.trans c))) (ab.ext (ay.trans (d.trans (c)))) (D.ext c) I rfl rfl
  .refine a8 (vs:=[false,(),(),()]) rfl λag O ay ir=>⟨ay,?_⟩
   have s2:=ay.size;refine(fy (ar.ext (aw.trans (ay))) I I I am an).use ?_;rintro _ B ⟨r,t,u,aE,aF,aG,rfl,m,d⟩;refine⟨_,r,t,u,rfl,d,?_⟩;have E:=d.size;refine(fy (A.ext (aw.trans (ay.trans (d)))) I I I y z).use ?_;rintro _ p ⟨f,i,j,H,K,L,rfl,l,c⟩;refine⟨_,f,i,j,rfl,c,?_⟩;have G:=c.size;exact fin m l (c) ((af.refl _ _)) (aw.trans (ay.trans (d.trans c))) (ab.ext (ay.trans (d.trans (c)))) (O.ext (d.trans (c))) I rfl rfl
 .refine a8 (vs:=[false,(),(),()]) rfl λbc ab aw jF=>⟨aw,?_⟩
  have s1:=aw.size;refine⟨?_,?_⟩
  .refine(fy (ar.ext aw) I I I am an).use ?_
   rintro _ ag ⟨r,t,u,aE,aF,aG,rfl,m,ay⟩;refine⟨_,r,t,u,rfl,ay,?_⟩;have s2:=ay.size;refine⟨?_,?_⟩
   .refine(fy (A.ext (aw.trans (ay))) I I I y z).use ?_
    rintro _ B ⟨f,i,j,H,K,L,rfl,l,d⟩;refine⟨_,f,i,j,rfl,d,?_⟩;have E:=d.size;refine a8 (vs:=[false,(),(),()]) rfl λp F c z4=>⟨c,?_⟩;have G:=c.size;exact fin m l (d.trans (c)) (c) (aw.trans (ay.trans (d.trans c))) (F) (ab.ext (ay.trans (d.trans (c)))) I rfl rfl
   .refine a8 (vs:=[false,(),(),()]) rfl λB D d z3=>⟨d,?_⟩
    have E:=d.size;refine(fy (A.ext (aw.trans (ay.trans (d)))) I I I y z).use ?_;rintro _ p ⟨f,i,j,H,K,L,rfl,l,c⟩;refine⟨_,f,i,j,rfl,c,?_⟩;have G:=c.size;exact fin m l (d.trans (c)) ((af.refl _ _)) (aw.trans (ay.trans (d.trans c))) (D.ext c) (ab.ext (ay.trans (d.trans (c)))) I rfl rfl
  .refine a8 (vs:=[false,(),(),()]) rfl λag O ay ir=>⟨ay,?_⟩
   have s2:=ay.size;refine(fy (ar.ext (aw.trans (ay))) I I I am an).use ?_;rintro _ B ⟨r,t,u,aE,aF,aG,rfl,m,d⟩;refine⟨_,r,t,u,rfl,d,?_⟩;have E:=d.size;refine(fy (A.ext (aw.trans (ay.trans (d)))) I I I y z).use ?_;rintro _ p ⟨f,i,j,H,K,L,rfl,l,c⟩;refine⟨_,f,i,j,rfl,c,?_⟩;have G:=c.size;exact fin m l (c) ((af.refl _ _)) (aw.trans (ay.trans (d.trans c))) (O.ext (d.trans (c))) (ab.ext (ay.trans (d.trans (c)))) I rfl rfl
end Go.Proofs.YtcmgnhkpfllinaaGreat
