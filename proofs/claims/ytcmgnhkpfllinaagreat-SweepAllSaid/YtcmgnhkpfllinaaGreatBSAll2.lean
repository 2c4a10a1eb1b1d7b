/- Contracts of the functions that the statement reaches, and the plain laws over them; each theorem stands with its conditions. -/
import Derived.Test.YtcmgnhkpfllinaaGreatBSAll1
namespace Go.Proofs.YtcmgnhkpfllinaaGreat
open Go aQ Go.Proofs.Tryz
theorem BU{w:J}{a b:ad}{la lb:O UInt8}(g:Src 1 w a (az la))(h:Src 1 w b (az lb))(j:la.length+lb.length<=1000):
 aI aj 103 #[.slice (some w.heap.size) 2 2] (w.alloc (.cells #[a,b] 39)) (λv w'=>∃c:ad,v=c/\aV 1 5 w' c (az (la++lb))/\Ext w w'/\gr w c):=by
 have hx:=dc w (.cells #[a,b] 39);refine(vR (s:=⟨some w.heap.size,2,2⟩) [(a,la),(b,lb)] (Src.new w _ 2 rfl) ?_ (by simp[eH];omega) (by simp)).mono ?_
 .intro p d
  simp only[cY,fo,fy]at d;rcases d with rfl|rfl
  .exact g.ext hx
  .exact h.ext hx
 .rintro _ w' ⟨c,rfl,f,i,hf⟩
  have e:eH [(a,la),(b,lb)]=la++lb:=by simp[eH]
  rw[e]at f;exact⟨c,rfl,f,hx.trans i,hf.mono hx.size⟩
theorem BV{w:J}{a b c:ad}{la lb d:O UInt8}(i:Src 1 w a (az la))(j:Src 1 w b (az lb))(hc:Src 1 w c (az d))(l:la.length+lb.length+d.length<=1000):
 aI aj 103 #[.slice (some w.heap.size) 3 3] (w.alloc (.cells #[a,b,c] 39)) (λv w'=>∃f:ad,v=f/\aV 1 5 w' f (az (la++(lb++d)))/\Ext w w'/\gr w f):=by
 have hx:=dc w (.cells #[a,b,c] 39);refine(vR (s:=⟨some w.heap.size,3,3⟩) [(a,la),(b,lb),(c,d)] (Src.new w _ 3 rfl) ?_ (by simp[eH];omega) (by simp)).mono ?_
 .intro p g
  simp only[cY,fo,fy]at g;rcases g with rfl|rfl|rfl
  .exact i.ext hx
  .exact j.ext hx
  .exact hc.ext hx
 .rintro _ w' ⟨f,rfl,h,k,hf⟩
  have e:eH [(a,la),(b,lb),(c,d)]=la++(lb++d):=by simp[eH]
  rw[e]at h;exact⟨f,rfl,h,hx.trans k,hf.mono hx.size⟩
theorem BW(w:J){n:Nat}(a:n<=255):Src 1 (w.alloc (.cells #[.int .u8 (IntKind.wrap .u8 (n:Int))] 5)) ⟨some w.heap.size,1,1⟩ (az [UInt8.ofNat n])/\Ext w (w.alloc (.cells #[.int .u8 (IntKind.wrap .u8 (n:Int))] 5)):=by
 have e:(#[.int .u8 (IntKind.wrap .u8 (n:Int))]:Array aa)=(az [UInt8.ofNat n]).toArray:=by
  rw[tO I I];simp[az,j4 (show n<256 from I)]
 rw[e];exact⟨Src.new w _ 1 rfl,dc _ _⟩
theorem fC{α:Type}{l:O α}{i:Nat}{d:α}(h:i<l.length):l.getD i d=l[i]:=by
 rw[fN,dH h];rfl
theorem cE.sF{n:aF}(h:cE n)(a:n.leaf=true):n.vals.length=n.keys.length:=by
 rcases h with h|h
 .exact h.len
 .have:=h.inner;rw[a]at this;cases this
theorem cE.vX{n:aF}(h:cE n)(a:n.leaf=false):n.kids.length=n.keys.length+1:=by
 rcases h with h|h
 .have:=h.leaf;rw[a]at this;cases this
 .exact h.len
theorem nk{B:Nat->Prop}{w:J}{n:aF}{K V D:ad}(h:bU B w n K V D)(hs:cE n){i:Nat}(hi:i<n.keys.length)(ac:n.keys.length<=100000):
 aI aj 280 #[dd n K V D,i] w (λv w'=>∃s:ad,v=s/\aV 1 5 w' s (az (gA n i))/\Ext w w'/\gr w s):=by
 refine okF (ae.nk n.leaf K V D (i:Int)) ax.nk func280 ?_;(delta ae.nk Y r1 aP bG aT ak aq aG;dsimp only);refine a8 (vs:=[n.leaf,K,V,D]) rfl λw1 r e _=>?_;have u:=cA w1;have Q:=e.trans u;have R:=h.ext Q;obtain⟨bV,aU,ba,bh⟩:=bK (r.ext u);obtain⟨A,t,ar,L,hc,ht,_⟩:=bI.at R.keys hi;have af:=(hs.keys.ok _ (cL hi)).2;have S:=len8 ht.1;obtain⟨T,x⟩:=BW w1.drew (n:=t.len) I;refine aX ⟨λ_=>False,id,K,aU,A,ar,L,id,t,hc,id,K,aU,A,ar,L,id,t,hc,aX ⟨x,aX ?_⟩⟩;refine(BU (a:=⟨some w1.drew.heap.size,1,1⟩) (b:=t) T (ht.1.ext x) (by simp;omega)).use ?_;rintro _ y ⟨M,rfl,z,U,ag⟩;have d:=u.trans (x.trans U);obtain⟨d0,d1,d2,d3⟩:=bK (r.ext d);have W: [UInt8.ofNat t.len]++n.keys[i]=nw (n.keys.getD i []):=by rw[fC hi,S];rfl
 rw[W]at z;have N:=h.ext (e.trans d);refine⟨M,rfl,n.leaf,d0,λf=>?_,λf=>?_⟩
 .have ah:=hs.sF f
  have C:i<n.vals.length:=by omega
  have g:=cA y;have X:=N.ext g;obtain⟨ai,al,O,am⟩:=bK (r.ext (d.trans g));obtain⟨m,t2,o,p,q,P,_⟩:=bI.at X.vals C;have an:=hs.vals _ (cL C);have Z:=len8 P.1;obtain⟨aa,j⟩:=BW y.drew (n:=t2.len) I;refine aX ⟨λ_=>False,id,V,O,m,o,p,id,t2,q,id,V,O,m,o,p,id,t2,q,aX ⟨j,aX ?_⟩⟩;refine(BV (a:=M) (b:=⟨some y.drew.heap.size,1,1⟩) (c:=t2) (z.src.ext (g.trans j)) aa (P.1.ext j) (by rw[nx,fC hi];simp;omega)).use ?_;rintro _ ab ⟨l,rfl,E,F,G⟩;refine⟨l,rfl,l,rfl,?_,(e.trans d).trans (g.trans (j.trans F)),G.mono ((e.trans d).trans (g.trans j)).size⟩;have:nw (n.keys.getD i [])++([UInt8.ofNat t2.len]++n.vals[i])=gA n i:=by
   unfold gA;rw[f,if_pos rfl,fC C,Z];rfl
  rwa[this]at E
 .have ao:=hs.vX f
  have H:i+1<n.kids.length:=by omega
  obtain⟨m,o,p,q⟩:=cZ.at N.kids H;have ap:=hs.kids _ (cL H);rw[br (n:=(i:Int)+1) I I,show(i:Int)+1=((i+1:Nat):Int) from I];refine⟨D,d3,m,o,p,_,q,?_⟩;rw[gz (n:=((n.kids[i+1]:Nat):Int)) I I];refine(gS z.src (n:=n.kids[i+1]) (k:=2) (by rw[nx,fC hi];omega) (by show _<18446744073709551616;omega) ⟨by decide,by decide⟩).use ?_;rintro _ ab ⟨l,rfl,E,F,G⟩;refine⟨l,rfl,l,rfl,?_,(e.trans d).trans F,gr.mono G (e.trans d).size⟩;have:nw (n.keys.getD i [])++bM n.kids[i+1] 2=gA n i:=by
   unfold gA;rw[f,if_neg (by simp),fC H]
  rwa[this]at E
theorem vY{n:aF}(hs:cE n){i:Nat}(hi:i<n.keys.length):(gA n i).length<=100:=by
 unfold gA;have:=(hs.keys.ok _ (cL hi)).2;rw[ct,nx,fC hi];split
 .rename_i b
  have a:i<n.vals.length:=by have:=hs.sF b;omega
  have:=hs.vals _ (cL a);rw[nx,fC a];omega
 .rw[dy];omega
theorem yv{n:aF}(hs:cE n):∀m,m<=n.keys.length->(hJ n 0 m).length<=100*m
 |0,_=>by simp[hJ]
 |m+1,a=>by
  have:=yv hs m I
  have:=vY hs (i:=m) I
  rw[yl,ct];omega
theorem oQ{B:Nat->Prop}{w:J}{n:aF}{K V D:ad}(h:bU B w n K V D)(hs:cE n)(ah:n.keys.length<=255):
 aI aj 275 #[dd n K V D] w (λv w'=>∃s:ad,v=s/\aV 1 5 w' s (az (jn n))/\Ext w w'/\gr w s):=by
 refine okF (ae.oQ n.leaf K V D) ax.oQ func275 ?_;(delta ae.oQ r1 Y aT ak aP aG bG aq;dsimp only);refine a8 (vs:=[n.leaf,K,V,D]) rfl λw1 g l _=>?_;obtain⟨bV,aU,ba,bh⟩:=bK g;have u:=h.ext l;have E:=bI.len u.keys;have F:(#[.int .u8 (IntKind.wrap .u8 (K.len:Int))]:Array aa)=(az [UInt8.ofNat n.keys.length]).toArray:=by
  rw[E,tO I I];simp[az,j4 (show n.keys.length<256 from I)]
 refine⟨K,aU,?_⟩;rw[F];have m:=aV.new (T:=5) (sz:=1) w1 (az [UInt8.ofNat n.keys.length]) 1 rfl (by decide);have c:=dc w1 (.cells (az [UInt8.ofNat n.keys.length]).toArray 5);obtain⟨ai,G⟩:∃ai,ai=w1.alloc (.cells (az [UInt8.ofNat n.keys.length]).toArray 5):=⟨_,rfl⟩;rw[←G]at m c⊢;obtain⟨d0,d1,d2,d3⟩:=bK (g.ext c);have H:=l.trans c;refine aX (cw (λd w'=>aV 1 5 w' d (az (preB n))/\Ext ai w'/\gr w1 d) (λq x=>⟨n.leaf,d0,λa=>?_,λa=>x _ _ ⟨?_,.refl _ _,?_⟩⟩) ?_)
 .have a:n.leaf=false:=by simpa using a
  have al:=hs.vX a;have o:0<n.kids.length:=by omega
  obtain⟨L,M,N,O⟩:=cZ.at (h.ext H).kids o;have am:=hs.kids _ (cL o);refine⟨D,d3,L,M,N,_,O,?_⟩;rw[gz (n:=((n.kids[0]:Nat):Int)) I I];refine(gS m.src (n:=n.kids[0]) (k:=2) (by simp) (by show _<18446744073709551616;omega) ⟨by decide,by decide⟩).use ?_;rintro _ P ⟨p,rfl,e,b,f⟩;refine⟨p,rfl,x _ _ ⟨?_,b,gr.mono f c.size⟩⟩;have: [UInt8.ofNat n.keys.length]++bM n.kids[0] 2=preB n:=by
   unfold preB;rw[a,if_neg (by simp),fC o];rfl
  rwa[this]at e
 .have a:n.leaf=true:=by simpa using a
  have:preB n=[UInt8.ofNat n.keys.length]:=by unfold preB;rw[a];rfl
  rw[this];exact m
 .rintro k ⟨A,ar,rfl⟩
  cases ar;exact bl _
 rintro an ao ⟨Q,R,S⟩;have y:=c.trans R;obtain⟨d0,d1,d2,d3⟩:=bK (g.ext y);have ap:(preB n).length<=3:=by
  unfold preB
  cases n.leaf<;>simp[dy]
 refine⟨K,d1,λd i w'=>∃j:Nat,i=j/\j<=n.keys.length/\aV 1 5 w' d (az (preB n++hJ n 0 j))/\Ext w1 w'/\gr w1 d,λ_ i _=>((n.keys.length:Int)-i).toNat,⟨0,rfl,cP _,by simpa[hJ] using Q,y,S⟩,?_⟩;rintro p _ P ⟨j,rfl,U,e,b,f⟩;refine⟨λaH=>?_,λr=>?_⟩
 .have aH:j<n.keys.length:=by have:=cf aH;omega
  obtain⟨f0,f1,f2,f3⟩:=bK (g.ext b);refine⟨n.leaf,f0,K,f1,V,f2,D,f3,(nk (u.ext b) hs aH I).use ?_⟩;rintro _ au ⟨W,rfl,z,t,av⟩;have C:=lR e;have X:=lR z;have cy:=vY hs aH;have b4:=yv hs j U;rw[ct]at C;obtain⟨Z,ab,aw,ay,aA,ac,af⟩:=mw.append (cD:=39) z.src (e.ext t) (iS _) (by rw[C,X];omega);rw[br (n:=(j:Int)+1) I I];refine⟨W,rfl,Z,ab,aw,⟨j+1,I,I,?_,Ext.dX (b.trans t) ac f,λk ag=>?_⟩,?_⟩
  .rw[yl,←cB,mu];exact ay
  .rcases af k ag with h|h
   .exact f k h
   .exact eE (b.trans t).size h
  .show((n.keys.length:Int)-((j:Int)+1)).toNat<((n.keys.length:Int)-(j:Int)).toNat
   omega
 .have r:j=n.keys.length:=by have:=cC r;omega
  subst r;exact⟨p,rfl,e,l.trans b,f.mono l.size⟩
theorem oO{B:Nat->Prop}{w:J}{n:aF}{K V D:ad}(h:bU B w n K V D)(hs:cE n)(f:n.keys.length<=255):
 aI aj 262 #[dd n K V D] w (λv w'=>v=.int .i64 (bE n:Nat)/\Ext w w'):=by
 have g:n.vals.length<=100000:=by
  rcases hs with hs|hs
  .rw[hs.len];omega
  .rw[hs.vals];simp
 have i:n.kids.length<=100000:=by
  rcases hs with hs|hs
  .rw[hs.kids];simp
  .rw[hs.len];omega
 refine okF (ae.oO n.leaf K V D) ax.oO func262 ?_;(delta ae.oO aT Y r1 b8 ak bG;dsimp only);refine a8 (vs:=[n.leaf,K,V,D]) rfl λw1 d a _=>?_;obtain⟨bV,aU,ba,bh⟩:=bK d;refine⟨n.leaf,bV,K,aU,V,ba,D,bh,(kh (h.ext a) I g i).use ?_⟩;rintro _ ai ⟨b,rfl,j,c⟩;have k:=j.2 hs;subst k;obtain⟨bV,aU,ba,bh⟩:=bK (d.ext c);refine⟨true,rfl,λh=>(by cases h),λ_=>⟨n.leaf,bV,K,aU,V,ba,D,bh,(oQ (h.ext (a.trans c)) hs f).use ?_⟩⟩;rintro _ p ⟨l,rfl,m,o,_⟩;have e:=lR m;rw[yo hs]at e;exact⟨l,rfl,by rw[e],(a.trans c).trans o⟩
def BX(n:aF)(w w':J)(v:aa):Prop:=
 (∃s:ad,v=.tuple #[s,(0:Int)]/\aV 1 5 w' s (az (jn n))/\gr w s/\cE n/\bE n<=232)\/
 (∃e:Int,v=.tuple #[(),e]/\e≠0/\(cE n->232<bE n))
theorem oM{B:Nat->Prop}{w:J}{n:aF}{K V D:ad}(h:bU B w n K V D)(m:n.keys.length<=100000)(o:n.vals.length<=100000)(p:n.kids.length<=100000):
 aI aj 254 #[dd n K V D] w (λv w'=>BX n w w' v/\Ext w w'):=by
 refine okF (ae.oM n.leaf K V D) ax.oM func254 ?_;(delta ae.oM aT Y r1 b8 ak bG;dsimp only);refine a8 (vs:=[n.leaf,K,V,D]) rfl λw1 d e _=>?_;obtain⟨bV,aU,ba,bh⟩:=bK d;refine⟨n.leaf,bV,K,aU,V,ba,D,bh,(kh (h.ext e) m o p).use ?_⟩;rintro _ ai ⟨b,rfl,f,g⟩;have a:=e.trans g;obtain⟨bV,aU,ba,bh⟩:=bK (d.ext g);have u:=bI.len h.keys;refine⟨b,rfl,cw (λc w'=>ai=w'/\(c=true->cE n->255<n.keys.length)/\(c=false->cE n/\n.keys.length<=255)) (λq i=>⟨λh1=>i _ _ ⟨rfl,λ_ hs=>?_,λh=>(by cases h)⟩,λh1=>⟨K,aU,i _ _ ⟨rfl,λh2 hs=>?_,λh2=>?_⟩⟩⟩) ?_⟩
 .have h1:b=false:=by simpa using h1
  rw[f.2 hs]at h1;cases h1
 .have:=cf h2;omega
 .have h1:b=true:=by simpa using h1
  have:=cC h2;exact⟨f.1 h1,I⟩
 rintro c w' ⟨rfl,aw,ay⟩;refine⟨λh1=>⟨.inr ⟨4,rfl,by decide,λhs=>?_⟩,a⟩,λh1=>?_⟩
 .have:=aw h1 hs
  have:=vL hs;omega
 obtain⟨hs,r⟩:=ay h1;refine⟨n.leaf,bV,K,aU,V,ba,D,bh,(oQ (h.ext a) hs r).use ?_⟩;rintro _ x ⟨j,rfl,k,l,s⟩;have t:=lR k;rw[yo hs]at t;refine⟨j,rfl,λh2=>⟨.inr ⟨10,rfl,by decide,λ_=>?_⟩,a.trans l⟩,λh2=>⟨.inl ⟨j,rfl,k,s.mono a.size,hs,?_⟩,a.trans l⟩⟩
 .have:=cf h2;omega
 .have:=cC h2;omega
theorem qB{B:Nat->Prop}{w:J}{n:aF}{K V D:ad}(h:bU B w n K V D)(d:n.keys.length<=100000)(f:n.vals.length<=100000)(g:n.kids.length<=100000):
 aI aj 277 #[dd n K V D] w (λv w'=>BX n w w' v/\Ext w w'):=by
 refine okF (ae.qB n.leaf K V D) ax.qB func277 ?_;(delta ae.qB aT Y r1 ey;dsimp only);refine a8 (vs:=[n.leaf,K,V,D]) rfl λw1 i a _=>?_;obtain⟨bV,aU,ba,bh⟩:=bK i;refine⟨n.leaf,bV,K,aU,V,ba,D,bh,(oM (h.ext a) d f g).use ?_⟩;rintro _ ai ⟨j,c⟩;rcases j with ⟨s,rfl,k,hf,hs,b⟩|⟨e,rfl,he,b⟩
 .exact⟨s,0,rfl,.inl ⟨s,rfl,k,hf.mono a.size,hs,b⟩,a.trans c⟩
 .exact⟨⟨none,0,0⟩,e,rfl,.inr ⟨e,rfl,he,b⟩,a.trans c⟩
def iU(n:Int):al:=decide (n>=0)&&decide (n<=65535)
theorem nj(n:Int)(w:J):aI aj 165 #[n] w (λv w'=>v=.bool (iU n)/\w=w'):=by
 refine okF (ae.nj n) ax.nj func165 ?_;unfold ae.nj;exact⟨rfl,rfl⟩
theorem qQ{n:Int}(h:iU n=true):∃k:Nat,n=(k:Int)/\k<=65535:=by
 unfold iU at h;simp at h;exact⟨n.toNat,I,I⟩
def jq(b u:Nat):O UInt8:=bM b 2++bM u 8
theorem qj(b:Int){u:Nat}(hu:u<18446744073709551616)(w:J):aI aj 98 #[b,.int .u64 (u:Nat)] w (λv w'=>(iU b=false/\v=.tuple #[(),false]/\w=w')\/(iU b=true/\∃s:ad,v=.tuple #[s,true]/\aV 1 5 w' s (az (jq b.toNat u))/\Ext w w'/\∀q,aB s q->w.heap.size<=q)):=by
 refine okF (ae.qj b (u:Nat)) ax.qj func98 ?_;delta ae.qj b8 ak bG;refine(nj b w).use ?_;rintro _ _ ⟨rfl,rfl⟩;refine⟨_,rfl,λa=>.inl ⟨by simpa using a,rfl,rfl⟩,λa=>?_⟩;have a:iU b=true:=by simpa using a
 obtain⟨k,rfl,m⟩:=qQ a;rw[gz (n:=(k:Int)) I I];refine(gS (s:=⟨none,0,0⟩) (l:=[]) (aV.none 1 5 w).src (by simp) (n:=k) (k:=2) I I).use ?_;rintro _ o ⟨e,rfl,f,c,p⟩;refine⟨e,rfl,(gS f.src (by rw[ct,dy];decide) (n:=u) (k:=8) hu I).use ?_⟩;rintro _ r ⟨d,rfl,g,h,i⟩;exact⟨d,rfl,.inr ⟨a,d,rfl,g,c.trans h,λq j=>by have:=i q j;have:=c.size;omega⟩⟩
def ig(p:bo):UInt8:=if p.addr.dQ then 6 else 4
def eJ(s:Nat)(p:bo):O UInt8:=bM s 2++([ig p,UInt8.ofNat p.bits.toNat]++p.addr.raw)
def dT(s:Int)(p:bo):al:=decide (fW p.addr p.bits=some p)&&iU s
section
variable {w:J}{p:bo}{b:Nat}{T:TypeId}
theorem yw(h:Var w b p.c T):bn w b 0 17=some p.addr.c:=by
 rw[h.su (by rw[bo.bq];decide),iK,bo.c,nW (aZ.bq _)]
theorem yx(h:Var w b p.c T):w.cell? (Addr.add b 17)=some (.int .i64 p.bits):=by
 rw[aA,h.cell,bo.c,iq (by simp[aZ.bq])];simp[aZ.bq]
theorem BY(h:Var w b p.c T):w.cell? b=some (.bool p.addr.dQ):=by
 rw[h.cell,bo.c,tc (by simp[aZ.bq])];rfl
theorem sG(h:fW p.addr p.bits=some p):0<=p.bits/\p.bits<=128:=by
 unfold fW at h;split at h
 .rename_i a
  have:=p.addr.jl;split at this<;>omega
 .cases h
theorem lL(s:Int)(p:bo)(w:J):aI aj 97 #[s,.agg p.c.toArray] w (λv w'=>Ext w w'/\((dT s p=false/\v=.tuple #[(),false])\/(dT s p=true/\∃t:ad,v=.tuple #[t,true]/\aV 1 5 w' t (az (eJ s.toNat p))/\∀q,aB t q->w.heap.size<=q))):=by
 refine ae.Fi s _ w _ ?_;(delta ae.lL Y aG iP ld ak b8 aT bG ud;dsimp only);refine a8 (vs:=p.c) rfl λw1 f Z ay=>⟨p.addr.c,yw f,p.bits,yx f,(oE p.addr p.bits w1).use ?_⟩;rintro _ aA ⟨rfl,o⟩;refine⟨_,_,rfl,a8 (vs:=bo.zero.c) rfl λaC H K aD=>⟨H.cj (by simp[bo.bq]) (bo.plain _),by simp[bo.bq],cN H (us:=((fW p.addr p.bits).getD bo.zero).c) (by simp[bo.bq]) rfl λe aa L _=>?_⟩⟩;have M:=Z.trans o;have N:Ext w e:=Ext.cu (M.trans K) L M.size;have r:=((f.ext o).ext K).ah L (by have:=(f.ext o).lt;omega);refine cw (λb w'=>b= !decide (fW p.addr p.bits=some p)/\e=w') (λq d=>⟨λh=>d _ _ ⟨?_,rfl⟩,λh=>⟨_,aa.rd (bo.bq _),_,r.rd (bo.bq _),_,x4 _ _,d _ _ ⟨?_,rfl⟩⟩⟩) ?_
 .cases u:fW p.addr p.bits with
  |none=>simp
  |some m=>rw[u]at h;cases h
 .cases u:fW p.addr p.bits with
  |none=>rw[u]at h;cases h
  |some m=>simp
 rintro _ _ ⟨rfl,rfl⟩;refine cw (λb w'=>b= !dT s p/\e=w') (λq d=>⟨λh=>d _ _ ⟨?_,rfl⟩,λh=>(nj s e).use ?_⟩) ?_
 .unfold dT
  rw[iJ]at h;rw[h];rfl
 .rintro _ _ ⟨rfl,rfl⟩
  refine⟨_,rfl,d _ _ ⟨?_,rfl⟩⟩;unfold dT;rw[l9]at h;rw[h,ik]
 rintro _ _ ⟨rfl,rfl⟩;refine⟨λh=>⟨N,.inl ⟨by simpa using h,rfl⟩⟩,λh=>?_⟩;have hg:dT s p=true:=by simpa using h
 have x:=hg;unfold dT at x;rw[c5,cp]at x;obtain⟨ab,ac⟩:=x;obtain⟨k,rfl,aE⟩:=qQ ac;have aF:=sG ab;have af:IntKind.wrap .u8 p.bits=(((UInt8.ofNat p.bits.toNat).toNat:Nat):Int):=by
  rw[rp];show p.bits%256=_;omega
 refine cw (λn w'=>n=(((ig p).toNat:Nat):Int)/\e=w') (λq d=>⟨_,BY r,λh=>d _ _ ⟨by unfold ig;rw[if_pos h];rfl,rfl⟩,λh=>d _ _ ⟨by unfold ig;rw[if_neg (by rw[h];decide)];rfl,rfl⟩⟩) ?_;rintro _ _ ⟨rfl,rfl⟩;have O:=cA e;have y:=r.ext O;have z:=N.trans O;refine aX ?_;generalize e.drew=g at y z;refine⟨λ_=>False,id,_,yx y,id,_,yw y,?_⟩;rw[af,gz (n:=(k:Int)) I I];have fin:∀ (w':J) (a b c:ad),Ext g w'->Src 1 w' a (az ([]++bM k 2))->Src 1 w' b (az [ig p,UInt8.ofNat p.bits.toNat])->Src 1 w' c (az p.addr.raw)->
  an (w'.alloc (.cells #[a,b,c] 39)) λag=>Calls aj 103 #[.slice (some w'.heap.size) 3 3] ag λai A=>
   ∃B:ad,ai=.returned B/\(Ext w A/\((dT (k:Int) p=false/\Value.tuple #[B,true]=.tuple #[(),false])\/(dT (k:Int) p=true/\∃t:ad,Value.tuple #[B,true]=.tuple #[t,true]/\aV 1 5 A t (az (eJ (k:Int).toNat p))/\∀q,aB t q->w.heap.size<=q))):=λw' a b c hx al am hc=>by
  refine aX ((BV al am hc ?_).use ?_)
  .have:=p.addr.jl
   rw[hY,dy];show 2+2+p.addr.raw.length<=1000;split at this<;>omega
  .rintro _ A ⟨t,rfl,ao,ap,hf⟩
   have aH:=z.size;have aJ:=hx.size;exact⟨t,rfl,z.trans (hx.trans ap),.inr ⟨hg,t,rfl,ao,λq d=>by have:w'.heap.size<=q:=hf q d;omega⟩⟩
 have put:∀ (w':J),aI aj 115 #[(),.int .u64 (k:Nat),(2:Int)] w' (λv P=>∃C:ad,v=C/\aV 1 5 P C (az ([]++bM k 2))/\Ext w' P/\∀q,aB C q->w'.heap.size<=q):=λw'=>gS (s:=⟨none,0,0⟩) (l:=[]) (aV.none 1 5 w').src (by simp) (n:=k) (k:=2) I I;have lit:∀ (w':J),Src 1 (w'.alloc (.cells #[.int .u8 (((ig p).toNat:Nat):Int),.int .u8 (((UInt8.ofNat p.bits.toNat).toNat:Nat):Int)] 5)) ⟨some w'.heap.size,2,2⟩ (az [ig p,UInt8.ofNat p.bits.toNat]):=λw'=>Src.new (T:=5) w' (az [ig p,UInt8.ofNat p.bits.toNat]) 2 rfl;refine⟨(put g).use ?_,aX ⟨dc _ _,(put _).use ?_⟩⟩
 .rintro _ Q ⟨D,rfl,R,E,_⟩
  refine⟨D,rfl,E,aX ⟨dc _ _,(lM p.addr _).use ?_⟩,(lM p.addr _).use ?_⟩
  .rintro _ aq ⟨S,rfl,ar,_,i,_⟩
   exact⟨S,rfl,i,fin aq D ⟨some Q.heap.size,2,2⟩ S (E.trans ((dc _ _).trans i)) (R.src.ext ((dc _ _).trans i)) ((lit Q).ext i) ar.src⟩
  .rintro _ U ⟨V,rfl,au,_,F,_⟩
   exact⟨V,rfl,F,aX ⟨dc _ _,fin _ D ⟨some U.heap.size,2,2⟩ V (E.trans (F.trans (dc _ _))) (R.src.ext (F.trans (dc _ _))) (lit U) (au.src.ext (dc _ _))⟩⟩
 .rintro _ aK ⟨W,rfl,av,G,_⟩
  refine⟨W,rfl,G,(lM p.addr _).use ?_⟩;rintro _ aw ⟨X,rfl,ax,_,j,_⟩;exact⟨X,rfl,j,fin aw W ⟨some g.heap.size,2,2⟩ X ((dc _ _).trans (G.trans j)) (av.src.ext j) ((lit g).ext (G.trans j)) ax.src⟩
end
structure aC where
 s:Int
 p:bo
 b:Int
 u:Nat
def aC.c(t:aC):O aa:=.int .i64 t.s::(t.p.c++ [.int .i64 t.b,.int .u64 (t.u:Nat)])
theorem aC.bq(t:aC):t.c.length=21:=by simp[aC.c,bo.bq]
section
variable {w:J}{t:aC}{b:Nat}{T:TypeId}
theorem qR(h:Var w b t.c T):bn w (Addr.add ⟨b,0,none⟩ 1) 0 18=some t.p.c:=by
 rw[aA,h.su (by rw[aC.bq];decide)];show some (List.take 18 (t.p.c++_))=_;rw[nW (bo.bq _)]
theorem yy(h:Var w b t.c T):w.cell? (Addr.add ⟨b,0,none⟩ 19)=some (.int .i64 t.b):=by
 rw[aA,h.cell];show(t.p.c++_)[18]? =_;rw[iq (by rw[bo.bq];decide),bo.bq];rfl
theorem yz(h:Var w b t.c T):w.cell? (Addr.add ⟨b,0,none⟩ 20)=some (.int .u64 (t.u:Nat)):=by
 rw[aA,h.cell];show(t.p.c++_)[19]? =_;rw[iq (by rw[bo.bq];decide),bo.bq];rfl
def aC.ef(t:aC):al:=dT t.s t.p&&iU t.b
theorem oC(t:aC)(w:J):aI aj 96 #[.agg t.c.toArray] w (λv w'=>v=t.ef/\Ext w w'):=by
 refine ae.Fh _ w _ ?_;(delta ae.oC aG Y h_ ak b8;dsimp only);refine a8 (vs:=t.c) rfl λw1 a i l=>⟨t.s,a.cell,t.p.c,qR a,(lL t.s t.p w1).use ?_⟩;rintro v f ⟨g,j⟩;have k:=a.ext g;have key:∃ (d:ad),v=.tuple #[d,.bool (dT t.s t.p)]:=by
  rcases j with ⟨hg,rfl⟩|⟨hg,s,rfl,_⟩
  .exact⟨⟨none,0,0⟩,by rw[hg]⟩
  .exact⟨s,by rw[hg]⟩
 obtain⟨d,rfl⟩:=key;refine⟨d,_,rfl,cw (λb w'=>b=t.ef/\f=w') (λq h=>⟨λe=>⟨t.b,yy k,(nj t.b f).use ?_⟩,λe=>h _ _ ⟨?_,rfl⟩⟩) ?_⟩
 .rintro _ _ ⟨rfl,rfl⟩
  exact⟨_,rfl,h _ _ ⟨by unfold aC.ef;rw[e,ik],rfl⟩⟩
 .unfold aC.ef;rw[e,k0]
 .rintro _ _ ⟨rfl,rfl⟩
  exact⟨rfl,i.trans g⟩
end
theorem yA{a:aZ}(h:a.ef=true):hF a.raw=some a:=by
 have d:=a.jl;obtain⟨c,e⟩:=Bt (l:=a.raw) (by split at d<;>omega);obtain⟨h1,h2⟩:=Bs e;have f:=Br e;have hs:c.dQ=a.dQ:=by
  cases hx:a.dQ with
  |true=>exact h2.2 (by rw[d,hx];rfl)
  |false=>
   cases g:c.dQ with
   |false=>rfl
   |true=>
    have:=h2.1 g;rw[d,hx]at this;cases this
 have i:c.b=a.b:=by
  unfold aZ.raw at h1;rw[hs]at h1
  cases hx:a.dQ with
  |true=>rw[hx]at h1;exact h1
  |false=>
   rw[hx]at h1;have h1:c.b.drop 12=a.b.drop 12:=h1;unfold aZ.ef at h f;rw[hs,hx,mP,cp]at f;rw[hx,mP,cp]at h;rw[←fK 12 c.b,←fK 12 a.b,h1,f,h]
 rw[e,aZ.ext' hs i]
def aC.zero:aC:=⟨0,bo.zero,0,0⟩
theorem yB(w:J):Sem.run aj (Instr.build 57 #[]) w=.ok (.agg aC.zero.c.toArray) w:=by kernel_rfl
theorem G6(w:J)(p:bo)(s b u:Int):Sem.run aj (Instr.build 57 #[(0,.int .i64 s),(1,.agg p.c.toArray),(2,.int .i64 b),(3,.int .u64 u)]) w=.ok (.agg (.int .i64 s::(p.c++ [.int .i64 b,.int .u64 u])).toArray) w:=by
 obtain⟨⟨dQ,l,h⟩,n⟩:=p;obtain⟨cd,a,d,e,f,g,i,j,k,m,o,q,r,t,v,x,rfl⟩:=ss l h
 kernel_rfl
theorem aC.plain(t:aC):∀v∈t.c,Plain v:=λv a=>by
 unfold aC.c at a
 rcases cY.1 a with rfl|a
 .trivial
 .rcases cO.1 a with a|a
  .exact bo.plain _ v a
  .simp only[cY,fo,fy]at a
   rcases a with rfl|rfl<;>trivial
theorem vZ(k:Nat)(p:bo):(eJ k p).length=4+p.addr.raw.length:=by
 unfold eJ;rw[ct,ct,dy];show 2+(2+p.addr.raw.length)=_;omega
theorem qS(b u:Nat):(jq b u).length=10:=by unfold jq;rw[ct,dy,dy]
theorem yC{k:Nat}(h:k<=65535)(p:bo):hG (((eJ k p).drop 0).take 2)=k:=by
 rw[iK];unfold eJ;rw[nW (dy k 2),qL 2 k I]
theorem yD(k:Nat)(p:bo):(eJ k p)[3]? =some (UInt8.ofNat p.bits.toNat):=by
 unfold eJ;rw[iq (by rw[dy];decide),dy];rfl
theorem yE(k:Nat)(p:bo):(eJ k p).drop 4=p.addr.raw:=by
 unfold eJ;rw[show 4=2+2 from rfl,←kY,List.drop_left' (dy k 2)];exact List.drop_left' rfl
theorem G7{b:Nat}(h:b<=65535)(u:Nat):hG (((jq b u).drop 0).take 2)=b:=by
 rw[iK];unfold jq;rw[nW (dy b 2),qL 2 b I]
theorem G8(b:Nat){u:Nat}(h:u<18446744073709551616):hG (((jq b u).drop 2).take 8)=u:=by
 unfold jq;rw[List.drop_left' (dy b 2),dO (by rw[dy];exact bl _),qL 8 u I]
theorem qf{w:J}{d sv:ad}{k b u:Nat}{p:bo}(e:Src 1 w d (az (eJ k p)))(y:d.len<=d.cap)(f:Src 1 w sv (az (jq b u)))(z:sv.len<=sv.cap)(hg:dT (k:Int) p=true)(g:b<=65535)(hu:u<18446744073709551616):
 aI aj 51 #[d,sv] w (λv w'=>v=.tuple #[.agg (aC.mk (k:Nat) p (b:Nat) u).c.toArray,true]/\Ext w w'):=by
 have j:=hg;unfold dT at j;rw[c5,cp]at j;obtain⟨B,Q⟩:=j;have R:k<=65535:=by obtain⟨n,h1,h2⟩:=qQ Q;omega
 have ay:=vD p.addr;have aA:d.len=4+p.addr.raw.length:=by have:=e.len;rw[c7,vZ]at this;omega
 have aB:sv.len=10:=by have:=f.len;rw[c7,qS]at this;omega
 have S:p.addr.ef=true:=(x9 B).2.1;have aD:=sG B;refine okF (ae.qf d sv) ax.qf func51 ?_;(delta ae.qf gR nd ak Y iP z3 aP du aq aG h_ b8;dsimp only);refine a8 (vs:=aC.zero.c) rfl λw1 T l aE=>(kg (e.ext l) y (a:=0) (k:=2) I (by rw[vZ];omega) (by rw[vZ];omega)).use ?_;rintro _ _ ⟨rfl,rfl⟩;rw[yC R];refine⟨_,true,rfl,λg=>?_,λ_=>⟨⟨by decide,I⟩,?_⟩⟩
 .exfalso
  simp only[Bool.not_true,mP,jb,cp,bne_iff_ne]at g;omega
 have C:=Src.sub (e.ext l) y (lo:=4) (hi:=d.len) I (bl _);have U:((az (eJ k p)).drop 4).take (d.len-4)=az p.addr.raw:=by
  have h1:(az (eJ k p)).drop 4=az p.addr.raw:=by rw[←yE k p];unfold az;rw[l5]
  rw[h1,dO (by rw[c7];omega)]
 rw[U]at C;refine(qk C).use ?_;rintro _ V ⟨rfl,D⟩;rw[yA S];refine⟨_,_,rfl,a8 (vs:=aZ.zero.c) rfl λaF E W aH=>⟨E.cj (by simp[aZ.bq]) (aZ.plain _),by simp[aZ.bq],cN E (us:=p.addr.c) (by simp[aZ.bq]) rfl λm X Z _=>?_⟩⟩;have aa:=l.trans D;have F:Ext V m:=Ext.cu W Z (bl _);have o:=aa.trans F;refine(kg (f.ext o) z (a:=0) (k:=2) I (by rw[qS];decide) (by rw[qS];decide)).use ?_;rintro _ _ ⟨rfl,rfl⟩;rw[G7 g];refine⟨_,true,rfl,(kg (f.ext o) z (a:=2) (k:=8) I (by rw[qS];decide) (by rw[qS];decide)).use ?_⟩;rintro _ _ ⟨rfl,rfl⟩;rw[G8 b hu];have r:=cA m;have s:=o.trans r;have G:=X.ext r;have H:=(T.ext D).ext (F.trans r);refine⟨_,true,rfl,aX ?_⟩;generalize m.drew=ab at s G H;obtain⟨A,ar,ac,af⟩:=(e.ext s).at (i:=3) (v:=.int .u8 (((UInt8.ofNat p.bits.toNat).toNat:Nat):Int)) (by unfold az;rw[nU,yD];rfl);have ag:IntKind.wrap .i64 (((UInt8.ofNat p.bits.toNat).toNat:Nat):Int)=p.bits:=by
  rw[rp,br I I];omega
 refine⟨λ_=>False,id,p.addr.c,G.rd (aZ.bq _),A,ar,ac,id,_,af,?_⟩;rw[ag,br (n:=(k:Int)) I I,br (n:=(b:Int)) I I];refine⟨p.c.toArray,λah=>x5 ah p.addr p.bits,(aC.mk (k:Nat) p (b:Nat) u).c.toArray,λai=>G6 ai p _ _ _,a8 (vs:=aC.zero.c) rfl λaJ K L aK=>⟨L,K.cj (by simp[aC.bq]) (aC.plain _),by simp[aC.bq],cN K (us:=(aC.mk (k:Nat) p (b:Nat) u).c) (by simp[aC.bq]) rfl λM t al _=>?_⟩⟩;have N:Ext ab M:=Ext.cu L al (bl _);refine⟨_,t.cell,_,qR t,(lL (k:Nat) p M).use ?_⟩;rintro _ am ⟨x,⟨hf,_⟩|⟨_,an,rfl,ao,_⟩⟩
 .rw[hg]at hf;cases hf
 have O:=(s.trans N).trans x;have ap:=t.ext x;have P:=(H.ext N).ext x;refine⟨an,true,rfl,cw (λb w'=>b=false/\am=w') (λq au=>⟨λh=>(by cases h),λ_=>(oy ao.src (e.ext O)).use ?_⟩) ?_⟩
 .rintro _ _ ⟨rfl,rfl⟩
  exact⟨_,rfl,au _ _ ⟨by rw[di,dI rfl];rfl,rfl⟩⟩
 rintro _ _ ⟨rfl,rfl⟩;refine⟨λh=>(by cases h),λ_=>⟨_,ap.rd (aC.bq _),P.cj (by simp[aC.bq]) (aC.plain _),by simp[aC.bq],cN P (us:=(aC.mk (k:Nat) p (b:Nat) u).c) (by simp[aC.bq]) rfl λaL av aw _=>⟨_,av.rd (aC.bq _),rfl,Ext.cu O aw (bl _)⟩⟩⟩
theorem oS(n:Int)(w:J):aI aj 162 #[n] w (λv w'=>v=.bool (iU n)/\w=w'):=by
 refine okF (ae.oS n) ax.oS func162 ?_;unfold ae.oS;exact⟨rfl,rfl⟩
section
variable {w:J}{t:aC}{b:Nat}{T:TypeId}
theorem G9(h:Var w b t.c T):bn w (Addr.add ⟨b,0,none⟩ 1) 0 17=some t.p.addr.c:=by
 rw[aA,h.su (by rw[aC.bq];decide)];show some (List.take 17 (t.p.c++_))=_;rw[bo.c,cB,nW (aZ.bq _)]
theorem G_(h:Var w b t.c T):w.cell? ((Addr.add ⟨b,0,none⟩ 1).add 17)=some (.int .i64 t.p.bits):=by
 rw[aA,aA,h.cell];show(t.p.c++_)[17]? =_;rw[tc (by rw[bo.bq];decide),bo.c,iq (by rw[aZ.bq];decide),aZ.bq];rfl
theorem nn(t:aC)(w:J):aI aj 86 #[.agg t.c.toArray] w (λv w'=>v=t.ef/\Ext w w'):=by
 refine ae.FI _ w _ ?_;(delta ae.nn Y aG iP ld b8 ak;dsimp only);refine a8 (vs:=t.c) rfl λw1 e o x=>⟨_,G9 e,_,G_ e,(oR t.p.addr t.p.bits w1).use ?_⟩;rintro _ y ⟨rfl,f⟩;refine⟨_,_,rfl,a8 (vs:=bo.zero.c) rfl λz j k A=>⟨j.cj (by simp[bo.bq]) (bo.plain _),by simp[bo.bq],cN j (us:=((fW t.p.addr t.p.bits).getD bo.zero).c) (by simp[bo.bq]) rfl λa r l _=>?_⟩⟩;have n:=o.trans f;have u:Ext w a:=Ext.cu (n.trans k) l n.size;have g:=((e.ext f).ext k).ah l (by have:=(e.ext f).lt;omega);refine⟨_,g.cell,(oS t.s a).use ?_⟩;rintro _ _ ⟨rfl,rfl⟩;refine⟨_,rfl,cw (λb w'=>b=(iU t.s&&iU t.b)/\a=w') (λq d=>⟨λh=>⟨_,yy g,(oS t.b a).use ?_⟩,λh=>d _ _ ⟨by rw[h,k0],rfl⟩⟩) ?_⟩
 .rintro _ _ ⟨rfl,rfl⟩
  exact⟨_,rfl,d _ _ ⟨by rw[h,ik],rfl⟩⟩
 rintro _ _ ⟨rfl,rfl⟩;refine cw (λb w'=>b=t.ef/\a=w') (λq d=>⟨λh=>⟨_,r.rd (bo.bq _),_,qR g,_,x4 _ _,d _ _ ⟨?_,rfl⟩⟩,λh=>d _ _ ⟨?_,rfl⟩⟩) ?_
 .rw[c5,c5]at h
  unfold aC.ef dT;rw[h.1.1,h.1.2,pB,pB]
  cases i:fW t.p.addr t.p.bits with
  |none=>rw[i]at h;cases h.2
  |some m=>simp
 .unfold aC.ef dT
  cases i:fW t.p.addr t.p.bits with
  |none=>simp
  |some m=>
   rw[i]at h;have h:(iU t.s&&iU t.b)=false:=by simpa using h
   cases h1:iU t.s
   .simp
   .rw[h1,ik]at h;rw[h];simp
 .rintro _ _ ⟨rfl,rfl⟩
  exact⟨rfl,u⟩
end
theorem eA{w:J}{b i:Nat}{vs:O aa}{T:TypeId}(h:Var w b vs T)(v:aa):Var (w.setCell ⟨b,i,none⟩ v) b (vs.set i v) T:=by
 have:=bp.set h i v;have e:vs.toArray.setIfInBounds i v=(vs.set i v).toArray:=by simp
 rw[e]at this;exact this
theorem eB{w:J}{b i:Nat}{vs:O aa}{T:TypeId}(h:Var w b vs T)(hi:i<vs.length):(∃u:aa,w.cell? ⟨b,i,none⟩=some u)/\w.frozen? ⟨b,i,none⟩=false:=
 ⟨⟨vs[i],by rw[h.cell];simp[hi]⟩,bp.frozen h _ rfl⟩
theorem dZ(w:J)(b i:Nat)(v:aa):af (λq=>q=b) w (w.setCell ⟨b,i,none⟩ v):=af.gA (.refl _ _) v
structure jr(w:J)(r:Nat)(s:ad)(rd:Rd):Prop where
 v:Var w r [s,rd.2] 342
 src:Src 1 w s (az rd.1)
 le:s.len<=s.cap
 ne:∀k,aB s k->k≠r
theorem jr.ah{W:Nat->Prop}{w w':J}{r:Nat}{s:ad}{rd:Rd}(h:jr w r s rd)(hc:af W w w')(h1:¬W r)(h2:∀k,aB s k->¬W k):jr w' r s rd:=⟨h.v.ah hc h1,h.src.ah hc h2,h.le,h.ne⟩
theorem jr.ext{w w':J}{r:Nat}{s:ad}{rd:Rd}(h:jr w r s rd)(hc:Ext w w'):jr w' r s rd:=jr.ah h hc id λ_ _ h=>h
theorem v7{a:av ag}{z l m n c k:Nat}(h:aB ⟨aY a z l m,n,c⟩ k):∃A,a=some A/\A.block=k:=by
 obtain⟨A,ar,rfl⟩:=h;unfold aY at ar;split at ar
 .exact⟨A,ar,rfl⟩
 .cases b:a with
  |none=>rw[b]at ar;cases ar
  |some d=>
   rw[b]at ar;simp only[l4,Option.some.injEq]at ar;exact⟨d,rfl,by subst ar;unfold Addr.add;split<;>rfl⟩
theorem BZ{w:J}{r:Nat}{s:ad}{rd:Rd}(h:jr w r s rd)(k:Nat)(z:k<=100000)(u:rd.1.length<=100000):
 aI aj 274 #[.pointer (some r),k] w (λv w'=>∃t m:ad,v=t/\bw (λq=>w.heap.size<=q) w' t (hK rd k).1/\jr w' r m (hK rd k).2/\af (λq=>q=r) w w'/\(∀q,aB m q->aB s q)):=by
 obtain⟨l,ok⟩:=rd;have f:=h.v;have x:=len8 h.src;simp only at x u f;have aH:=f.lt;refine okF (ae.vx (some r) (k:Int)) ax.vx func274 ?_;(delta ae.vx aT ak r1 st bG;dsimp only);refine⟨_,rfl,ok,by rw[aA];exact f.cell,cw (λb w'=>w=w'/\b=decide (ok=false\/l.length<k)) (λq c=>⟨λh1=>c _ _ ⟨rfl,?_⟩,λh1=>⟨_,rfl,s,f.cell,c _ _ ⟨rfl,?_⟩⟩⟩) ?_⟩
 .have h1:ok=false:=by simpa using h1
  exact(dI (.inl h1)).symm
 .have h1:ok=true:=by simpa using h1
  subst h1;rw[fv,cp,cp];constructor
  .intro h;exact .inr I
  .rintro(h|h)
   .cases h
   .omega
 rintro b w' ⟨rfl,rfl⟩;refine⟨λd=>⟨_,rfl,?_⟩,λd=>⟨_,rfl,s,f.cell,?_⟩⟩
 .have d:=cf d
  obtain⟨aw,ay⟩:=eB f (i:=1) (by simp);rw[aA];have hc:=dZ w r 1 false;have e:hK (l,ok) k=([],(l,false)):=by unfold hK;rw[if_pos d]
  rw[e];refine⟨aw,ay,aX ⟨⟨none,0,0⟩,s,rfl,⟨(aV.none 1 5 _).src,bl _,λq c=>(fV q c).elim⟩,⟨eA f _,h.src.ah hc λq c=>h.ne q c,h.le,h.ne⟩,hc,λq c=>c⟩⟩
 .have d:=cC d
  have e:hK (l,ok) k=(l.take k,(l.drop k,true)):=by unfold hK;rw[if_neg d]
  have C:k<=l.length:=by
   rcases ei l.length k with h1|h1
   .exact absurd (.inr h1) d
   .exact h1
  have y:ok=true:=by
   cases ok with
   |true=>rfl
   |false=>exact absurd (.inl rfl) d
  subst y;rw[e];have D:=h.le;refine⟨⟨I,I⟩,?_⟩;have n:=o5 h.src h.le (lo:=0) (hi:=k) I I;rw[iK,mR]at n;rw[di,mR];refine(lS (B:=λq=>w.heap.size<=q) (s:=⟨aY s.a 1 0 s.cap,k,s.cap-0⟩) n (by rw[cG];omega) (λq c=>c)).use ?_;rintro _ w1 ⟨t,rfl,ht,g,E⟩;have j:=f.ext g;obtain⟨aw,ay⟩:=eB j (i:=0) (by simp);have hc:=dZ w1 r 0 (.slice (aY s.a 1 k s.cap) (s.len-k) (s.cap-k));have o:=o5 (h.src.ext g) h.le (lo:=k) (hi:=s.len) I (bl _);rw[dO (l:=l.drop k) (by rw[ed];omega)]at o;have p:∀q,aB ⟨aY s.a 1 k s.cap,s.len-k,s.cap-k⟩ q->q≠r:=λq c=>by
   obtain⟨A,ar,d⟩:=v7 c;exact h.ne q ⟨A,ar,d⟩
  refine⟨t,rfl,_,rfl,s,j.cell,⟨I,I⟩,_,rfl,aw,ay,aX ⟨t,⟨aY s.a 1 k s.cap,s.len-k,s.cap-k⟩,rfl,bw.ah ht hc (λq c e=>by subst e;omega),⟨eA j _,o.ah hc λq c=>p q c,by show s.len-k<=s.cap-k;omega,p⟩,(af.cW g).trans hc,λq c=>?_⟩⟩;obtain⟨A,ar,d⟩:=v7 c;exact⟨A,ar,d⟩
theorem yF{w:J}{r:Nat}{s:ad}{rd:Rd}(h:jr w r s rd)(k:Nat)(c:1<=k/\k<=2)(g:rd.1.length<=100000):
 aI aj 252 #[.pointer (some r),k] w (λv w'=>∃b:ad,v=.int .i64 ((rdNum rd k).1:Nat)/\jr w' r b (rdNum rd k).2/\af (λq=>q=r) w w'/\(∀q,aB b q->aB s q)):=by
 refine okF (ae.vt (some r) (k:Int)) ax.vt func252 ?_;delta ae.vt bG nd aq;refine(BZ h k I g).use ?_;rintro _ w1 ⟨t,b,rfl,ht,d,hc,e⟩;have hlen:(hK rd k).1.length=k\/(hK rd k).1=[]:=by
  unfold hK;split
  .exact .inr rfl
  .rename_i i
   left;rw[cG];have:¬rd.1.length<k:=λh=>i (.inr h);omega
 have f:=sw k (hK rd k).1;have j:256^k<=65536:=eE (td I c.2) (by decide);refine⟨t,rfl,?_⟩;rcases hlen with hlen|hlen
 .refine(kg (a:=0) (k:=k) ht.1 ht.2.1 ⟨c.1,I⟩ I I).use ?_
  rintro _ _ ⟨rfl,rfl⟩;have f:=f hlen;rw[iK,dO I];refine⟨_,_,rfl,b,?_,d,hc,e⟩;rw[br I I];unfold rdNum;rw[if_pos hlen]
 .refine(GV (k:=k) ht.1 I (by rw[hlen];simp;omega)).use ?_
  rintro _ _ ⟨rfl,rfl⟩;refine⟨_,_,rfl,b,?_,d,hc,e⟩;unfold rdNum;rw[if_neg (by rw[hlen];simp;omega)];rfl
theorem yG(rd:Rd)(k:Nat):(rdNum rd k).1<256^k:=by
 unfold rdNum;split
 .exact sw k _ (by assumption)
 .exact Nat.pow_pos I
theorem B0(rd:Rd)(k:Nat):(hK rd k).2.1.length<=rd.1.length/\(hK rd k).1.length<=k:=by
 unfold hK;split
 .exact⟨bl _,cP _⟩
 .exact⟨by rw[ed];omega,by rw[cG];omega⟩
theorem v8(rd:Rd)(k:Nat):(rdNum rd k).2.1.length<=rd.1.length:=(B0 rd k).1
theorem B1(rd:Rd):(jP rd).2.1.length<=rd.1.length/\(jP rd).1.length<=255:=by
 unfold jP;have h1:=B0 (rdNum rd 1).2 (rdNum rd 1).1;have h2:=v8 rd 1;have a:(rdNum rd 1).1<256:=yG rd 1;exact⟨I,I⟩
theorem B2{w:J}{r:Nat}{s:ad}{rd:Rd}(h:jr w r s rd)(d:rd.1.length<=100000):
 aI aj 253 #[.pointer (some r)] w (λv w'=>∃t b:ad,v=t/\bw (λq=>w.heap.size<=q) w' t (jP rd).1/\jr w' r b (jP rd).2/\af (λq=>q=r) w w'/\(∀q,aB b q->aB s q)):=by
 refine okF (ae.vu (some r)) ax.vu func253 ?_;delta ae.vu bX bG;refine(yF h 1 I d).use ?_;rintro _ w1 ⟨s1,rfl,e,c,f⟩;have k:(rdNum rd 1).1<256:=yG rd 1;have l:=v8 rd 1;refine⟨_,rfl,(BZ e (rdNum rd 1).1 I I).use ?_⟩;rintro _ ai ⟨t,s2,rfl,ht,g,i,j⟩;exact⟨t,rfl,t,s2,rfl,bw.a_ ht λq _ a=>eE c.size a,g,c.trans i,λq a=>f q (j q a)⟩
theorem bm.a_{B C:Nat->Prop}{w:J}{s:ad}{ls:O Key}(h:bm B w s ls)(a:∀k,k<w.heap.size->B k->C k):bm C w s ls:=by
 obtain⟨ts,h1,h2,e,b⟩:=h;exact⟨ts,h1,h2,In.a_ e a,λi c d=>⟨bw.a_ (b i c d).1 a,(b i c d).2⟩⟩
theorem cK.a_{B C:Nat->Prop}{w:J}{s:ad}{ds:O Nat}(h:cK B w s ds)(a:∀k,k<w.heap.size->B k->C k):cK C w s ds:=⟨h.1,In.a_ h.2 a⟩
def Grow(B:Nat->Prop)(w w':J)(q:Nat):Prop:=B q\/(w.heap.size<=q/\q<w'.heap.size)
theorem v_{w:J}{nb o:Nat}{vs:O aa}{S t:ad}{ls:O Key}{l:Key}{B:Nat->Prop}{T:TypeId}{W:Nat->Prop}(d:Var w nb vs T)(p:o<vs.length)(f:bm B w S ls)(g:¬B nb)
 (ht:bw B w t l) (hd:∀k,aB t k->¬aB S k) (D:ls.length<=100000) {K:J->Prop}
 (r:∀ (w':J) (aD:ad),Var w' nb (vs.set o aD) T->bm (Grow B w w') w' aD (ls++ [l])->af (λq=>q=nb\/aB S q) w w'->K w'):
 an (w.alloc (.cells #[t] 39)) λi=>af W w i/\∃j:ad,∃b:J,Sem.run aj (Builtin.append_ #[93,93] 93 #[S,.slice (some w.heap.size) 1 1]) i=.ok j b/\
  (∃u:aa,b.cell? (Addr.add nb o)=some u)/\b.frozen? (Addr.add nb o)=false/\an (b.setCell (Addr.add nb o) j) λs=>K s:=by
 have v:=bm.a_ (C:=λq=>B q\/w.heap.size<=q) f λk _ h=>.inl h;have x:=bw.a_ (C:=λq=>B q\/w.heap.size<=q) ht λk _ h=>.inl h;obtain⟨c,w',aw,ay,m,E⟩:=BS v x hd I λk a=>.inr a;have F:=d.lt;have y:¬aB S nb:=λh=>by
  obtain⟨ts,_,_,z,_⟩:=f;exact g (z nb h).1
 have n:=d.ah m y;obtain⟨aU,ba⟩:=eB n p;refine aX ⟨af.cW (dc _ _),c,w',aw,?_⟩;rw[aA,cT];have hc:=dZ w' nb o c;refine⟨aU,ba,aX (r _ c (eA n _) ?_ ?_)⟩
 .have A:=bm.a_ (C:=Grow B w (w'.setCell ⟨nb,o,none⟩ c)) ay λk a h=>by
   rcases h with h|h
   .exact .inl h
   .exact .inr ⟨h,ff a hc.size⟩
  refine bm.ah A hc λk a e=>?_;subst e;rcases a with h|h
  .exact g h
  .omega
 .exact(m.mono λk _ h=>.inr h).trans (hc.mono λk _ h=>.inl h)
theorem B3{w:J}{nb o:Nat}{vs:O aa}{S:ad}{ds:O Nat}(d:Nat){B:Nat->Prop}{T:TypeId}{W:Nat->Prop}(f:Var w nb vs T)(p:o<vs.length)(g:cK B w S ds)(i:¬B nb)
 (y:ds.length<=100000) {K:J->Prop}
 (r:∀ (w':J) (aD:ad),Var w' nb (vs.set o aD) T->cK (Grow B w w') w' aD (ds++ [d])->af (λq=>q=nb\/aB S q) w w'->K w'):
 an (w.alloc (.cells #[d] 3)) λj=>af W w j/\∃l:ad,∃b:J,Sem.run aj (Builtin.append_ #[72,72] 72 #[S,.slice (some w.heap.size) 1 1]) j=.ok l b/\
  (∃u:aa,b.cell? (Addr.add nb o)=some u)/\b.frozen? (Addr.add nb o)=false/\an (b.setCell (Addr.add nb o) l) λs=>K s:=by
 have t:=cK.a_ (C:=λq=>B q\/w.heap.size<=q) g λk _ h=>.inl h;obtain⟨c,w',aw,ay,m,z⟩:=G3 d t I λk a=>.inr a;have A:=f.lt;have v:¬aB S nb:=λh=>i (g.2 nb h).1;have n:=f.ah m v;obtain⟨aU,ba⟩:=eB n p;refine aX ⟨af.cW (dc _ _),c,w',aw,?_⟩;rw[aA,cT];have hc:=dZ w' nb o c;refine⟨aU,ba,aX (r _ c (eA n _) ?_ ?_)⟩
 .have x:=cK.a_ (C:=Grow B w (w'.setCell ⟨nb,o,none⟩ c)) ay λk a h=>by
   rcases h with h|h
   .exact .inl h
   .exact .inr ⟨h,ff a hc.size⟩
  refine cK.ah x hc λk a e=>?_;subst e;rcases a with h|h
  .exact i h
  .omega
 .exact(m.mono λk _ h=>.inr h).trans (hc.mono λk _ h=>.inl h)
structure kl(lo:Nat)(w:J)(r nb:Nat)(s:ad)(m:aF×Rd)(K V D:ad)(bF bW bx:Nat->Prop):Prop where
 v:Var w nb [m.1.leaf,K,V,D] 169
 rd:jr w r s m.2
 keys:bm bF w K m.1.keys
 vals:bm bW w V m.1.vals
 kids:cK bx w D m.1.kids
 b2:∀q,bF q->lo<=q/\q<w.heap.size/\¬bW q/\¬bx q
 bv:∀q,bW q->lo<=q/\q<w.heap.size/\¬bx q
 aP:∀q,bx q->lo<=q/\q<w.heap.size
 hs:∀q,aB s q->q<lo/\q≠nb
 o7:r<lo
 o8:nb<lo
 km:r≠nb
 o9:m.2.1.length<=100000
def o_(lo r nb:Nat)(q:Nat):Prop:=q=r\/q=nb\/lo<=q
theorem kl.drew{lo:Nat}{w:J}{r nb:Nat}{s:ad}{m:aF×Rd}{K V D:ad}{bF bW bx:Nat->Prop}(h:kl lo w r nb s m K V D bF bW bx):kl lo w.drew r nb s m K V D bF bW bx:=
 ⟨h.v.ext (cA w),h.rd.ext (cA w),bm.ext h.keys (cA w),bm.ext h.vals (cA w),cK.ext h.kids (cA w),h.b2,h.bv,h.aP,h.hs,h.o7,h.o8,h.km,h.o9⟩
theorem B4{leaf:al}:∀ (s:aF×Rd) (i:Nat),s.1.leaf=leaf->(ie s i).1.leaf=leaf
 |_,0,h=>h
 |s,i+1,h=>by
  have a:=B4 s i h
  rw[ie]
  unfold o4
  split
  .exact a
  .exact a
theorem B5:∀ (s:aF×Rd) (i:Nat),(ie s i).1.keys.length=s.1.keys.length+i/\(ie s i).1.vals.length<=s.1.vals.length+i/\(ie s i).1.kids.length<=s.1.kids.length+i
 |_,0=>⟨rfl,bl _,bl _⟩
 |s,i+1=>by
  obtain⟨h1,h2,a⟩:=B5 s i
  rw[ie]
  unfold o4
  split<;>simp<;>omega
theorem Ha{lo:Nat}{w:J}{r nb:Nat}{s:ad}{m:aF×Rd}{K V D:ad}{bF bW bx:Nat->Prop}(h:kl lo w r nb s m K V D bF bW bx)(ab:lo<=w.heap.size)(G:m.1.keys.length<=100000){R:J->Prop}
 (H:∀ (w':J) (l n:ad) (L:Nat->Prop),kl lo w' r nb n (⟨m.1.leaf,m.1.keys++ [(jP m.2).1],m.1.vals,m.1.kids⟩,(jP m.2).2) l V D L bW bx->af (o_ lo r nb) w w'->lo<=w'.heap.size->R w'):
 an w.drew λp=>∃x:Nat->Prop,¬x (Addr.add nb 1).block/\∃i:ad,p.cell? (Addr.add nb 1)=some (.slice i.a i.len i.cap)/\
  Calls aj 253 #[.pointer (some r)] p λM d=>∃C:ad,M=.returned C/\af x p d/\
  an (d.alloc (.cells #[C] 39)) λE=>af x d E/\∃F:ad,∃j:J,Sem.run aj (Builtin.append_ #[93,93] 93 #[i,.slice (some d.heap.size) 1 1]) E=.ok F j/\
  (∃u:aa,j.cell? (Addr.add nb 1)=some u)/\j.frozen? (Addr.add nb 1)=false/\an (j.setCell (Addr.add nb 1) F) λN=>R N:=by
 have hd:=h.drew;have ac:=h.o7;have ae:=h.o8;obtain⟨bV,aU,ba,bh⟩:=bK hd.v;refine aX ⟨λq=>q=r,λe=>h.km (by rw[aA]at e;exact e.symm),K,aU,(B2 hd.rd hd.o9).use ?_⟩;rintro _ d ⟨t,n,rfl,ht,O,hc,y⟩;have ag:w.drew.heap.size=w.heap.size:=rfl;have P:=hc.size;have z:∀ {B:Nat->Prop},(∀q,B q->lo<=q)->∀k,B k->¬(k=r):=λQ k c e=>by have:=Q k c;omega
 have S:=bm.ah hd.keys hc (z λq b=>(h.b2 q b).1);have T:=bm.ah hd.vals hc (z λq b=>(h.bv q b).1);have U:=cK.ah hd.kids hc (z λq b=>(h.aP q b).1);have W:=hd.v.ah hc (λe=>h.km e.symm);refine⟨t,rfl,hc,v_ (B:=Grow bF w.drew d) W (o:=1) (by simp) (bm.a_ S λk _ h=>.inl h) ?_ (bw.a_ ht λk c h=>.inr ⟨h,c⟩) ?_ G λw' l aw ay f=>?_⟩
 .rintro(h1|h1)
  .have:=(h.b2 nb h1).1;omega
  .omega
 .intro k X Y
  obtain⟨ts,_,_,A,_⟩:=h.keys;have:=(A k Y).2;have:=(ht.2.2 k X).1;omega
 have Z:∀q,Grow (Grow bF w.drew d) d w' q->bF q\/(w.heap.size<=q/\q<w'.heap.size):=by
  rintro q ((h1|h1)|h1)
  .exact .inl h1
  .exact .inr ⟨h1.1,ff h1.2 f.size⟩
  .exact .inr ⟨eE P h1.1,h1.2⟩
 have hg:=f.size;have g:∀q,aB K q->bF q:=λq b=>by
  obtain⟨ts,_,_,A,_⟩:=h.keys;exact(A q b).1
 refine H w' l n (λq=>bF q\/(w.heap.size<=q/\q<w'.heap.size)) ⟨by simpa using aw,O.ah f ?_ ?_,bm.a_ ay λk _ c=>Z k c,bm.ah T f ?_,cK.ah U f ?_,?_,λq b=>?_,λq b=>?_,λq b=>h.hs q (y q b),h.o7,h.o8,h.km,eE (B1 m.2).1 h.o9⟩ ?_ I
 .rintro(h1|h1)
  .exact h.km h1
  .have:=(h.b2 r (g r h1)).1;omega
 .rintro q b (h1|h1)
  .exact(h.hs q (y q b)).2 h1
  .have:=(h.b2 q (g q h1)).1
   have:=(h.hs q (y q b)).1;omega
 .rintro q b (h1|h1)
  .have:=(h.bv q b).1;omega
  .exact(h.b2 q (g q h1)).2.2.1 b
 .rintro q b (h1|h1)
  .have:=(h.aP q b).1;omega
  .exact(h.b2 q (g q h1)).2.2.2 b
 .rintro q (h1|h1)
  .have:=h.b2 q h1;exact⟨this.1,I,this.2.2⟩
  .exact⟨I,h1.2,λh2=>by have:=h.bv q h2;omega,λh2=>by have:=h.aP q h2;omega⟩
 .have:=h.bv q b;exact⟨this.1,I,this.2.2⟩
 .have:=h.aP q b;exact⟨this.1,I⟩
 .refine((af.cW (cA w)).trans (hc.mono λk _ c=>.inl c)).trans (f.mono λk _ c=>?_)
  rcases c with c|c
  .exact .inr (.inl c)
  .exact .inr (.inr (h.b2 k (g k c)).1)
theorem Hb{lo:Nat}{w:J}{r nb:Nat}{s:ad}{m:aF×Rd}{K V D:ad}{bF bW bx:Nat->Prop}(h:kl lo w r nb s m K V D bF bW bx)(ab:lo<=w.heap.size)(G:m.1.vals.length<=100000){R:J->Prop}
 (H:∀ (w':J) (l n:ad) (L:Nat->Prop),kl lo w' r nb n (⟨m.1.leaf,m.1.keys,m.1.vals++ [(jP m.2).1],m.1.kids⟩,(jP m.2).2) K l D bF L bx->af (o_ lo r nb) w w'->lo<=w'.heap.size->R w'):
 an w.drew λp=>∃x:Nat->Prop,¬x (Addr.add nb 2).block/\∃i:ad,p.cell? (Addr.add nb 2)=some (.slice i.a i.len i.cap)/\
  Calls aj 253 #[.pointer (some r)] p λM d=>∃C:ad,M=.returned C/\af x p d/\
  an (d.alloc (.cells #[C] 39)) λE=>af x d E/\∃F:ad,∃j:J,Sem.run aj (Builtin.append_ #[93,93] 93 #[i,.slice (some d.heap.size) 1 1]) E=.ok F j/\
  (∃u:aa,j.cell? (Addr.add nb 2)=some u)/\j.frozen? (Addr.add nb 2)=false/\an (j.setCell (Addr.add nb 2) F) λN=>R N:=by
 have hd:=h.drew;have ac:=h.o7;have ae:=h.o8;obtain⟨bV,aU,ba,bh⟩:=bK hd.v;refine aX ⟨λq=>q=r,λe=>h.km (by rw[aA]at e;exact e.symm),V,ba,(B2 hd.rd hd.o9).use ?_⟩;rintro _ d ⟨t,n,rfl,ht,O,hc,y⟩;have ag:w.drew.heap.size=w.heap.size:=rfl;have P:=hc.size;have z:∀ {B:Nat->Prop},(∀q,B q->lo<=q)->∀k,B k->¬(k=r):=λQ k c e=>by have:=Q k c;omega
 have S:=bm.ah hd.keys hc (z λq b=>(h.b2 q b).1);have T:=bm.ah hd.vals hc (z λq b=>(h.bv q b).1);have U:=cK.ah hd.kids hc (z λq b=>(h.aP q b).1);have W:=hd.v.ah hc (λe=>h.km e.symm);refine⟨t,rfl,hc,v_ (B:=Grow bW w.drew d) W (o:=2) (by simp) (bm.a_ T λk _ h=>.inl h) ?_ (bw.a_ ht λk c h=>.inr ⟨h,c⟩) ?_ G λw' l aw ay f=>?_⟩
 .rintro(h1|h1)
  .have:=(h.bv nb h1).1;omega
  .omega
 .intro k X Y
  obtain⟨ts,_,_,A,_⟩:=h.vals;have:=(A k Y).2;have:=(ht.2.2 k X).1;omega
 have Z:∀q,Grow (Grow bW w.drew d) d w' q->bW q\/(w.heap.size<=q/\q<w'.heap.size):=by
  rintro q ((h1|h1)|h1)
  .exact .inl h1
  .exact .inr ⟨h1.1,ff h1.2 f.size⟩
  .exact .inr ⟨eE P h1.1,h1.2⟩
 have hg:=f.size;have g:∀q,aB V q->bW q:=λq b=>by
  obtain⟨ts,_,_,A,_⟩:=h.vals;exact(A q b).1
 refine H w' l n (λq=>bW q\/(w.heap.size<=q/\q<w'.heap.size)) ⟨by simpa using aw,O.ah f ?_ ?_,bm.ah S f ?_,bm.a_ ay λk _ c=>Z k c,cK.ah U f ?_,λq b=>?_,?_,λq b=>?_,λq b=>h.hs q (y q b),h.o7,h.o8,h.km,eE (B1 m.2).1 h.o9⟩ ?_ I
 .rintro(h1|h1)
  .exact h.km h1
  .have:=(h.bv r (g r h1)).1;omega
 .rintro q b (h1|h1)
  .exact(h.hs q (y q b)).2 h1
  .have:=(h.bv q (g q h1)).1
   have:=(h.hs q (y q b)).1;omega
 .rintro q b (h1|h1)
  .have:=(h.b2 q b).1;omega
  .exact(h.b2 q b).2.2.1 (g q h1)
 .rintro q b (h1|h1)
  .have:=(h.aP q b).1;omega
  .exact(h.bv q (g q h1)).2.2 b
 .have:=h.b2 q b
  refine⟨this.1,I,?_,this.2.2.2⟩;rintro(h1|h1)
  .exact this.2.2.1 h1
  .omega
 .rintro q (h1|h1)
  .have:=h.bv q h1;exact⟨this.1,I,this.2.2⟩
  .exact⟨I,h1.2,λh2=>by have:=h.aP q h2;omega⟩
 .have:=h.aP q b;exact⟨this.1,I⟩
 .refine((af.cW (cA w)).trans (hc.mono λk _ c=>.inl c)).trans (f.mono λk _ c=>?_)
  rcases c with c|c
  .exact .inr (.inl c)
  .exact .inr (.inr (h.bv k (g k c)).1)
theorem B6{lo:Nat}{w:J}{r nb:Nat}{s:ad}{m:aF×Rd}{K V D:ad}{bF bW bx:Nat->Prop}(h:kl lo w r nb s m K V D bF bW bx)(T:lo<=w.heap.size)(A:m.1.kids.length<=100000){R:J->Prop}
 (C:∀ (w':J) (aE l:ad) (E:Nat->Prop),kl lo w' r nb l (⟨m.1.leaf,m.1.keys,m.1.vals,m.1.kids++ [(rdNum m.2 2).1]⟩,(rdNum m.2 2).2) K V aE bF bW E->af (o_ lo r nb) w w'->lo<=w'.heap.size->R w'):
 an w.drew λn=>∃p:Nat->Prop,¬p (Addr.add nb 3).block/\∃i:ad,n.cell? (Addr.add nb 3)=some (.slice i.a i.len i.cap)/\
  Calls aj 252 #[.pointer (some r),(2:Int)] n λF d=>∃n30:Int,F=.returned n30/\af p n d/\
  an (d.alloc (.cells #[n30] 3)) λy=>af p d y/\∃z:ad,∃j:J,Sem.run aj (Builtin.append_ #[72,72] 72 #[i,.slice (some d.heap.size) 1 1]) y=.ok z j/\
  (∃u:aa,j.cell? (Addr.add nb 3)=some u)/\j.frozen? (Addr.add nb 3)=false/\an (j.setCell (Addr.add nb 3) z) λG=>R G:=by
 have hd:=h.drew;have U:=h.o7;have W:=h.o8;obtain⟨bV,aU,ba,bh⟩:=bK hd.v;refine aX ⟨λq=>q=r,λe=>h.km (by rw[aA]at e;exact e.symm),D,bh,(yF hd.rd 2 (by decide) hd.o9).use ?_⟩;rintro _ d ⟨l,rfl,H,hc,t⟩;have X:w.drew.heap.size=w.heap.size:=rfl;have L:=hc.size;have x:∀ {B:Nat->Prop},(∀q,B q->lo<=q)->∀k,B k->¬(k=r):=λM k c e=>by have:=M k c;omega
 have N:=bm.ah hd.keys hc (x λq b=>(h.b2 q b).1);have O:=bm.ah hd.vals hc (x λq b=>(h.bv q b).1);have P:=cK.ah hd.kids hc (x λq b=>(h.aP q b).1);have Q:=hd.v.ah hc (λe=>h.km e.symm);refine⟨_,rfl,hc,B3 (rdNum m.2 2).1 (B:=bx) Q (o:=3) (by simp) P (λh1=>by have:=(h.aP nb h1).1;omega) A λw' aE aw ay f=>?_⟩;have S:∀q,Grow bx d w' q->bx q\/(w.heap.size<=q/\q<w'.heap.size):=by
  rintro q (h1|h1)
  .exact .inl h1
  .exact .inr ⟨eE L h1.1,h1.2⟩
 have hg:=f.size;have g:∀q,aB D q->bx q:=λq b=>(h.kids.2 q b).1;refine C w' aE l (λq=>bx q\/(w.heap.size<=q/\q<w'.heap.size)) ⟨by simpa using aw,H.ah f ?_ ?_,bm.ah N f ?_,bm.ah O f ?_,cK.a_ ay λk _ c=>S k c,λq b=>?_,λq b=>?_,?_,λq b=>h.hs q (t q b),h.o7,h.o8,h.km,eE (v8 m.2 2) h.o9⟩ ?_ I
 .rintro(h1|h1)
  .exact h.km h1
  .have:=(h.aP r (g r h1)).1;omega
 .rintro q b (h1|h1)
  .exact(h.hs q (t q b)).2 h1
  .have:=(h.aP q (g q h1)).1
   have:=(h.hs q (t q b)).1;omega
 .rintro q b (h1|h1)
  .have:=(h.b2 q b).1;omega
  .exact(h.b2 q b).2.2.2 (g q h1)
 .rintro q b (h1|h1)
  .have:=(h.bv q b).1;omega
  .exact(h.bv q b).2.2 (g q h1)
 .have:=h.b2 q b
  refine⟨this.1,I,this.2.2.1,?_⟩;rintro(h1|h1)
  .exact this.2.2.2 h1
  .omega
 .have:=h.bv q b
  refine⟨this.1,I,?_⟩;rintro(h1|h1)
  .exact this.2.2 h1
  .omega
 .rintro q (h1|h1)
  .have:=h.aP q h1;exact⟨this.1,I⟩
  .exact⟨I,h1.2⟩
 .refine((af.cW (cA w)).trans (hc.mono λk _ c=>.inl c)).trans (f.mono λk _ c=>?_)
  rcases c with c|c
  .exact .inr (.inl c)
  .exact .inr (.inr (h.aP k (g k c)).1)
def iV:aF:=⟨false,[],[],[]⟩
def bJ:ad:=⟨none,0,0⟩
def yH(leaf:al)(l:O UInt8)(w w':J)(v:aa):Prop:=
 (∃ (n:aF) (K V D:ad),v=.tuple #[dd n K V D,(0:Int)]/\lQ leaf l n/\bU (λq=>w.heap.size<=q) w' n K V D)\/
 (v=.tuple #[dd iV bJ bJ bJ,(4:Int)]/\∀n,¬lQ leaf l n)
theorem iW{w':J}{h:Nat}{vs:O aa}(b:al)(K V D:ad)(c:Var w' h vs 169)(g:vs.length=4){Q:al->ad->ad->ad->J->Prop}(j:∀ai,af (λq=>q=h) w' ai->Q b K V D ai):
 bD w' h [b,K,V,D]/\(4:Nat)=4/\an (setCells w' h 0 [b,K,V,D]) λai=>
  ∃i:al,ai.cell? h=some (.bool i)/\∃d:ad,ai.cell? (Addr.add h 1)=some (.slice d.a d.len d.cap)/\∃e:ad,ai.cell? (Addr.add h 2)=some (.slice e.a e.len e.cap)/\
   ∃f:ad,ai.cell? (Addr.add h 3)=some (.slice f.a f.len f.cap)/\Q i d e f ai:=by
 refine⟨c.cj (by rw[g];rfl) ?_,rfl,cN c (us:=[b,K,V,D]) (by rw[g];rfl) rfl λai k hc _=>?_⟩
 .intro v c
  simp only[cY,fo,fy]at c;rcases c with rfl|rfl|rfl|rfl<;>trivial
 .obtain⟨bV,aU,ba,bh⟩:=bK k
  exact⟨b,bV,K,aU,V,ba,D,bh,j ai hc⟩
theorem qw{w:J}{s:ad}{l:O UInt8}(hs:Src 1 w s (az l))(hc:s.len<=s.cap)(T:∀k,aB s k->k<w.heap.size)(am:l.length<=100000)(leaf:al):
 aI aj 206 #[leaf,s] w (λv w'=>yH leaf l w w' v/\Ext w w'):=by
 refine okF (ae.qw leaf s) ax.qw func206 ?_;(delta ae.qw z4 Y bX ak xH r1 st bG aq aT ey b8 r0;dsimp only);refine a8 (vs:=[false,(),(),()]) rfl λw1 aQ an bD=>?_;refine a8 (vs:=[s,true]) rfl λai aR U bH=>?_;refine a8 (vs:=[false,(),(),()]) rfl λbL ao F bM=>?_;refine⟨ao.cj rfl (by
  intro v ap;simp only[cY,fo,fy]at ap;rcases ap with rfl|rfl|rfl|rfl<;>trivial),rfl,cN ao (us:=[leaf,(),(),()]) rfl rfl λm aS G bN=>?_⟩
 obtain⟨lo,bO⟩:∃lo,lo=m.heap.size:=⟨_,rfl⟩;obtain⟨r,ar⟩:∃r,r=w1.heap.size:=⟨_,rfl⟩;obtain⟨nb,au⟩:∃nb,nb=ai.heap.size:=⟨_,rfl⟩;have aW:Ext w m:=Ext.cu (an.trans (U.trans F)) G I;have aX:jr m w1.heap.size s (l,true):=by
  refine⟨(aR.ext F).ah G I,(hs.ext (an.trans (U.trans F))).ah G λk c e=>?_,hc,λk c=>?_⟩
  .have:=T k c;omega
  .have:=T k c;omega
 refine(yF aX 1 (by decide) am).use ?_;rintro _ av ⟨aC,rfl,aY,W,aZ⟩;have bP:(rdNum (l,true) 1).1<256:=yG _ 1;have bQ:=W.size;have aD:kl lo av r nb aC (⟨leaf,[],[],[]⟩,(rdNum (l,true) 1).2) bJ bJ bJ (λ_=>False) (λ_=>False) (λ_=>False):=by
  refine⟨by rw[au];exact aS.ah W I,by rw[ar];exact aY,bm.none _ _,bm.none _ _,cK.none _ _,λq h=>h.elim,λq h=>h.elim,λq h=>h.elim,λq a=>?_,I,I,I,eE (v8 _ 1) am⟩;have:=T q (aZ q a);exact⟨I,I⟩
 have aF:af (o_ lo r nb) m av:=W.mono λk _ c=>.inl I;rw[←ar,←au];refine⟨_,rfl,k6 (λw'=>∃ (u D:ad) (bx:Nat->Prop),kl lo w' r nb u (mz leaf (rdNum (l,true) 1).2) bJ bJ D (λ_=>False) (λ_=>False) bx/\af (o_ lo r nb) m w'/\lo<=w'.heap.size) (λq a=>⟨λd=>?_,λd=>a _ ⟨aC,bJ,λ_=>False,?_,aF,I⟩⟩) ?_⟩
 .have d:leaf=false:=by simpa using d
  subst d;refine B6 aD I (by simp) λw' aE u a0 h1 h2 o=>a _ ⟨u,aE,a0,?_,aF.trans h2,o⟩;have:mz false (rdNum (l,true) 1).2=(⟨false,[],[],[]++ [(rdNum (rdNum (l,true) 1).2 2).1]⟩,(rdNum (rdNum (l,true) 1).2 2).2):=by simp[mz]
  rw[this];exact h1
 .have d:leaf=true:=by simpa using d
  subst d;exact aD
 rintro bR ⟨a1,a2,a3,aG,a4,a5⟩;obtain⟨f,H⟩:∃f,f=mz leaf (rdNum (l,true) 1).2:=⟨_,rfl⟩;rw[←H]at aG;have a6:f.1.leaf=leaf:=by rw[H];unfold mz;cases leaf<;>rfl
 have bS:f.1.keys.length=0/\f.1.vals.length<=1/\f.1.kids.length<=1:=by rw[H];unfold mz;cases leaf<;>simp
 refine⟨λi w'=>∃ (j:Nat) (u K V D:ad) (bF bW bx:Nat->Prop),i=j/\j<=(rdNum (l,true) 1).1/\kl lo w' r nb u (ie f j) K V D bF bW bx/\af (o_ lo r nb) m w'/\lo<=w'.heap.size,λi _=>(((rdNum (l,true) 1).1:Int)-i).toNat,⟨0,a1,bJ,bJ,a2,_,_,a3,rfl,cP _,aG,a4,a5⟩,?_⟩;rintro _ aJ ⟨j,bT,K,V,D,bF,bW,bx,rfl,bY,g,L,a7⟩;obtain⟨a9,bb,bc⟩:=B5 f j;have x:=B4 f j a6;refine⟨λaH=>?_,λX=>?_⟩
 .have aH:j<(rdNum (l,true) 1).1:=by have:=cf aH;omega
  rw[br (n:=(j:Int)+1) I I];refine k6 (λw'=>∃ (u K V D:ad) (bF bW bx:Nat->Prop),kl lo w' r nb u (ie f (j+1)) K V D bF bW bx/\af (o_ lo r nb) m w'/\lo<=w'.heap.size) (λq a=>?_) ?_
  .refine Ha g a7 I λy M aK N P R S=>⟨λd=>?_,λd=>?_⟩
   .refine Hb P S (by show(ie f j).1.vals.length<=_;omega) λZ bd aa be B p ab=>a _ ⟨aa,M,bd,D,N,be,bx,?_,L.trans (R.trans p),ab⟩
    rw[ie];unfold o4;rw[x,d,if_pos rfl];rw[x,d]at B;exact B
   .refine B6 P S (by show(ie f j).1.kids.length<=_;omega) λZ bf aa bg B p ab=>a _ ⟨aa,M,V,bf,N,bW,bg,?_,L.trans (R.trans p),ab⟩
    rw[ie];unfold o4;rw[x,d,if_neg (by simp)];rw[x,d]at B;exact B
  .rintro y ⟨aK,M,bi,bj,N,bk,bn,P,R,S⟩
   refine⟨⟨j+1,aK,M,bi,bj,N,bk,bn,I,I,P,R,S⟩,?_⟩;show(((rdNum (l,true) 1).1:Int)-((j:Int)+1)).toNat<(((rdNum (l,true) 1).1:Int)-(j:Int)).toNat;omega
 .have X:j=(rdNum (l,true) 1).1:=by have:=cC X;omega
  have bo:ie f j=iB leaf l:=by rw[X,H];rfl
  rw[bo]at g a9 bb bc x;obtain⟨bV,aU,ba,bh⟩:=bK g.v;have ej:bU (λq=>lo<=q) aJ (iB leaf l).1 K V D:=⟨bI.a_ (bm.kk g.keys) λq _ a=>(g.b2 q a).1,bI.a_ (bm.kk g.vals) λq _ a=>(g.bv q a).1,cZ.a_ (cK.qO g.kids) λq _ a=>(g.aP q a).1⟩;have bp:Ext w aJ:=Ext.dX aW L λk c=>by
   rcases c with c|c|c<;>omega
  refine⟨_,bV,K,aU,V,ba,D,bh,(oM ej I I I).use ?_⟩;rintro bq y ⟨bs,C⟩;have ac:=bp.trans C;have bt:=g.v.ext C;have bu:=g.rd.ext C;have aL:Var y w.heap.size [false,(),(),()] 169:=by
   refine(Var.ah (w:=m) ?_ L ?_).ext C
   .exact(((aQ.ext U).ext F).ah G I)
   .rintro(c|c|c)<;>omega
  have bw:=ej.ext C;obtain⟨d0,d1,d2,d3⟩:=bK bt;have bz:∃ (z:ad) (e:Int),bq=Value.tuple #[z,e]/\(e=0->aV 1 5 y z (az (jn (iB leaf l).1))/\cE (iB leaf l).1/\bE (iB leaf l).1<=232)/\(e≠0->cE (iB leaf l).1->232<bE (iB leaf l).1):=by
   rcases bs with ⟨z,rfl,h1,h2,o,A⟩|⟨e,rfl,h1,h2⟩
   .exact⟨z,0,rfl,λ_=>⟨h1,o,A⟩,λh=>absurd rfl h⟩
   .exact⟨bJ,e,rfl,λh=>absurd h h1,λ_=>h2⟩
  obtain⟨z,e,rfl,bA,aM⟩:=bz;have bB:Src 1 y s (az l):=hs.ext ac
  have aN:∀n,lQ leaf l n->iB leaf l=(n,([],true)):=by
   rintro n ⟨h1,h2,o,A⟩;have:=yq h1 o;rw[h2,A]at this;exact this
  refine⟨z,e,rfl,_,rfl,(iB leaf l).2.2,by rw[aA];exact bu.v.cell,cw (λb w'=>y=w'/\(b=true->∀n,¬lQ leaf l n)/\(b=false->lQ leaf l (iB leaf l).1)) (λq a=>⟨λh1=>a _ _ ⟨rfl,λ_ n E=>?_,λh=>(by cases h)⟩,λh1=>?_⟩) ?_⟩
  .have hu:=aN n E
   obtain⟨h2,o,A,aO⟩:=E;rw[hu]at h1 aM;have h1:(e !=0)=true:=by simpa using h1
   have bZ:232<bE n:=aM (by simpa using h1) h2;omega
  .have bC:(iB leaf l).2.2=true/\e=0:=by
    simp only[rh,l9,bne_eq_false_iff_eq]at h1;exact h1
   obtain⟨h2,rfl⟩:=bC;obtain⟨o,A,aO⟩:=bA rfl;refine(oy o.src bB).use ?_;rintro _ _ ⟨rfl,rfl⟩;refine⟨_,rfl,a _ _ ⟨rfl,λt n E=>?_,λt=>?_⟩⟩
   .have hu:=aN n E
    have t:¬jn (iB leaf l).1=l:=by simpa using t
    rw[hu]at t;exact t E.2.2.2
   .have t:jn (iB leaf l).1=l:=by simpa using t
    exact⟨A,x,aO,t⟩
  rintro b w' ⟨rfl,aw,ay⟩;refine⟨λag=>?_,λag=>⟨_,d0,K,d1,V,d2,D,d3,?_⟩⟩
  .refine iW false bJ bJ bJ aL rfl (Q:=λb K V D ai=>(λv w'=>yH leaf l w w' v/\Ext w w') (.tuple #[.agg #[b,K,V,D],(4:Int)]) ai) λZ p=>⟨.inr ⟨rfl,aw ag⟩,Ext.cu ac p (bl _)⟩
  .refine iW (iB leaf l).1.leaf K V D aL rfl (Q:=λb K V D ai=>(λv w'=>yH leaf l w w' v/\Ext w w') (.tuple #[.agg #[b,K,V,D],(0:Int)]) ai) λZ p=>⟨.inl ⟨(iB leaf l).1,K,V,D,rfl,ay ag,?_⟩,Ext.cu ac p (bl _)⟩
   exact(bw.ah p λk c e=>I).a_ λk _ c=>by omega
theorem Hc{s v:ad}{vs xs:O aa}{i me:Nat}{al:Array aa}{am:TypeId}{w:J}(H:aV 1 39 w s vs)(N:Src 1 w v xs)(g:v.len=1)(an:v.a=some ⟨me,0,none⟩)(T:bp w me al am)(ao:¬aB s me)
 (U:∀u∈xs,Plain u) (aO:∀u∈vs,Plain u) (hi:i<=s.len) (a_:s.len<=1000000):
 aI aj 200 #[s,.int .i64 (i:Int),v] w (λu w'=>∃z:ad,u=z/\aV 1 39 w' z (vs.take (i*1)++xs++vs.drop (i*1))/\z.len=s.len+1/\af (aB s) w w'/\(∀k,aB z k->aB s k\/w.heap.size<=k)):=by
 obtain⟨h1,ba,bb,h2,ap,aP,aQ,E,au,aR⟩:=(qP).out;obtain⟨d0,K⟩:=j9 _ ap;refine okF (ae.uk s i v) ax.uk func200 ?_;delta ae.uk ak aq gQ;have bc:=H.2.1;have bd:=H.2.2.1;have be:maxLen=9223372036854775807:=rfl;have p:xs.length=1:=by have:=N.len;rw[g]at this;omega
 have V:=H.1;refine⟨⟨I,I⟩,λh=>by rw[g]at h;simp at h,λ_=>⟨λh=>?_,λh=>?_⟩⟩
 .have aS:i=s.len:=by have:=eq_of_beq h;omega
  subst aS;obtain⟨z,w',aw,ay,X,Q,F⟩:=(qP).append (cD:=93) N H U (by rw[g];omega);refine⟨z,w',aw,z,rfl,?_,by rw[X,g],Q,F⟩;rwa[dO I,List.drop_of_length_le I,fx]
 have aH:i<s.len:=by
  have h:¬((i:Int)=(s.len:Int)):=λe=>by rw[e]at h;simp at h
  omega
 rcases H.2.2.2 with ⟨_,hc⟩|⟨b,c,r,G,av,az⟩
 .omega
 have aT:b≠me:=λe=>ao ⟨_,r,e⟩;have aU:IntKind.wrap .i64 ((s.len:Int)+(v.len:Int))=((s.len+1:Nat):Int):=by rw[g,br I I];rfl
 have aW:IntKind.wrap .i64 ((i:Int)+(v.len:Int))=((i+1:Nat):Int):=by rw[g,br I I];rfl
 have aZ:IntKind.wrap .i64 (((s.len+1:Nat):Int)-(i:Int))=((s.len+1-i:Nat):Int):=by rw[br I I];omega
 have bf:c.toList.length=s.cap*1:=by simpa using av
 have aA:∀k,k<=s.len->vs.take (k*1)=c.toList.take (k*1):=λk d=>by rw[←az,nT,hZ I]
 have aC:vs.drop (i*1)=(c.toList.drop (i*1)).take ((s.len-i)*1):=by rw[←az,List.drop_take,show s.len*1-i*1=(s.len-i)*1 from I]
 have aD:∀u∈vs.drop (i*1),Plain u:=λu hu=>aO u (fJ hu);have B:(vs.drop (i*1)).length=(s.len-i)*1:=by rw[ed,V];omega
 have L:∀ (Y o l m:Nat),l<m->aY (some (Addr.mk Y o none)) 1 l m=some ⟨Y,o+l*1,none⟩:=λY o l m bg=>mi I;simp only[aU,aW,aZ,di,mR,xA];refine⟨λhg=>?_,λhg=>?_⟩
 .have bh:s.cap<s.len+1:=by have:=cf hg;omega
  have a0:Src 1 w ⟨some b,i,s.cap⟩ (vs.take (i*1)):=by
   have:=G.rX (sz:=1) (o:=0) (n:=i) (cap:=s.cap) I;rw[iK]at this;rwa[aA i I]
  obtain⟨j,zs,rest,aw,ay,X,Q,F⟩:=E2 (P:=aj) (gj:= #[93,3]) (cD:=93) (kc:=3) (k:=.i64) (s:=⟨some b,i,s.cap⟩) (n:=s.len+1-i) rfl rfl h1 (by kernel_rfl) h2 ap aP aQ E (by rw[au];exact aR) a0 (by show s.cap<i+_;omega) (by rw[au];show(2*(i+_)+1000)*_<=_;omega);have a1:i+(s.len+1-i)=s.len+1:=by omega
  simp only[a1]at aw Q F;obtain⟨C,Z⟩:∃C,C=(vs.take (i*1)++zs++rest).toArray:=⟨_,rfl⟩;rw[←Z]at F;obtain⟨D,ab⟩:∃D,D=w.drew.alloc (.cells C 39):=⟨_,rfl⟩;rw[←ab]at F;have aE:bp D w.heap.size C 39:=by rw[ab];exact bp.new w.drew _ _
  have aF:Ext w D:=by rw[ab];exact af.alloc (af.drew (.refl _ _)) _
  have f:(vs.take (i*1)).length=i*1:=by rw[cG,V];omega
  have aG:C.size=j*1:=by rw[Z];simp[f,X,Q];omega
  have bi:C.toList.length=j*1:=by simpa using aG
  have M:=tS (P:=aj) (mn:=93) (cH:=93) (ty:=3) (A:=⟨w.heap.size,0+i*1,none⟩) (dl:=s.len+1-i) (ot:=j-i) (n:=1) h1 K E (x:=v) (by rw[g];exact hZ I) (xs:=xs) (by have:=N.ext aF;have e:(⟨v.a,1,v.cap⟩:ad)=v:=(by rw[←g]);rw[e];exact this) (by rw[cT];exact aE.cj _ _ I U);obtain⟨t,ac⟩:∃t,t=setCells D ⟨w.heap.size,0+i*1,none⟩ 0 xs:=⟨_,rfl⟩;rw[←ac]at M;have aJ:bp t w.heap.size (gl C (i*1) xs) 39:=by rw[ac,cT];exact aE.k9 xs
  have a2:Ext w t:=by rw[ac];exact Ext.dX aF (af.jK (.refl _ _) xs 0) (λk d=>by subst d;exact bl _)
  have a3:Ext t t.drew:=af.drew (.refl _ _);have aK:=Ext.trans a2 a3;have ag:=tS (P:=aj) (w:=t.drew) (mn:=93) (cH:=93) (ty:=3) (A:=⟨w.heap.size,0+(i+1)*1,none⟩) (dl:=s.len+1-(i+1)) (ot:=j-(i+1)) (n:=s.len-i) h1 K E (x:=⟨some ⟨b,0+i*1,none⟩,s.len-i,s.cap-i⟩) (hZ (by show s.len-i<=_;omega)) (xs:=vs.drop (i*1))
   (by have:=(G.ext aK).rX (sz:=1) (o:=i*1) (n:=s.len-i) (cap:=s.cap-i) I;rw[aC,cT];exact this) (by rw[cT];exact bp.cj (bp.drew aJ) _ _ (by rw[h8];omega) aD)
  have R:aY (some (Addr.mk w.heap.size 0 none)) 1 i j=some ⟨w.heap.size,0+i*1,none⟩:=L _ _ _ _ I;have S:aY (some (Addr.mk w.heap.size 0 none)) 1 (i+1) j=some ⟨w.heap.size,0+(i+1)*1,none⟩:=L _ _ _ _ I;have a4:aY s.a 1 i s.cap=some ⟨b,0+i*1,none⟩:=by rw[r];exact L _ _ _ _ I
  have a5:Sem.run aj (Builtin.append_ #[93,3] 93 #[.slice s.a i s.cap,.int .i64 ((s.len+1-i:Nat):Int)]) w=.ok (.slice (some w.heap.size) (s.len+1) j) D:=by rw[r];exact F
  refine⟨⟨I,I⟩,⟨some w.heap.size,s.len+1,j⟩,D,a5,⟨I,by show(i:Int)<=((s.len+1:Nat):Int);omega⟩,_,t,by rw[R];exact M,aX ⟨⟨I,by show((i+1:Nat):Int)<=((s.len+1:Nat):Int);omega⟩,⟨I,I⟩,_,_,by rw[S,a4];exact ag,⟨some w.heap.size,s.len+1,j⟩,rfl,?_,rfl,?_,?_⟩⟩
  .refine aV.mk' ((bp.drew aJ).k9 (o:=0+(i+1)*1) _) (by simp[f,p,B];omega) I I (by rw[h8,h8,aG]) ?_
   rw[k8 _ _ _ (by rw[h8];omega),k8 _ _ _ I];have t1:C.toList.take (i*1)=vs.take (i*1):=by rw[Z,rq,cB];exact nW f
   have t2:(C.toList.take (i*1)++xs++C.toList.drop (i*1+xs.length)).take (0+(i+1)*1)=vs.take (i*1)++xs:=by
    rw[t1,pI (by simp[f,p];omega),dO (by simp[f,p];omega)]
   rw[t2,pI (by simp[f,p,B];omega),dO (by simp[f,p,B];omega)]
  .exact af.cW (Ext.dX aK (af.jK (.refl _ _) _ 0) (λk d=>by subst d;exact bl _))
  .rintro k ⟨A,ar,d⟩
   cases ar;exact .inr (Nat.le_of_eq d)
 .have bj:s.len+1<=s.cap:=by have:=cC hg;omega
  have R:aY s.a 1 (i+1) s.cap=some ⟨b,0+(i+1)*1,none⟩:=by rw[r];exact L _ _ _ _ I
  have S:aY s.a 1 i s.cap=some ⟨b,0+i*1,none⟩:=by rw[r];exact L _ _ _ _ I
  have a6:Sem.run aj (callFunc 248 #[v,.slice (some ⟨b,0+(i+1)*1,none⟩) (s.len+1-(i+1)) (s.cap-(i+1))]) w=.ok (.value false) w:=by
   rw[an,run_callFunc_extern (e:=Extern.SlicesOverlaps.overlaps #[93,93] #[4]) func248 (by kernel_rfl) (by kernel_rfl) (by kernel_rfl) (by kernel_rfl)];have:=Lib.run_overlaps_apart (P:=aj) w 93 4 39 h1 1 (λw=>by have:=g_ (w:=w) K;rwa[E]at this) me ⟨b,0+(i+1)*1,none⟩ v.len v.cap (s.len+1-(i+1)) (s.cap-(i+1)) (λe=>aT e.symm) am 39 al.size c.size
    (by have:=T;unfold bp at this;simp[World.shape?,this]) (by have:=G;unfold bp at this;simp[World.shape?,this]) I (T.frozen _ rfl) (T.frozen _ rfl)
   rw[this];rfl
  have M:=tS (P:=aj) (w:=w.drew) (mn:=93) (cH:=93) (ty:=3) (A:=⟨b,0+(i+1)*1,none⟩) (dl:=s.len+1-(i+1)) (ot:=s.cap-(i+1)) (n:=s.len-i) h1 K E (x:=⟨some ⟨b,0+i*1,none⟩,s.len+1-i,s.cap-i⟩) ((Nat.min_eq_right (by show _<=s.len+1-i;omega)).trans I) (xs:=vs.drop (i*1))
   (by have:=(bp.drew G).rX (sz:=1) (o:=i*1) (n:=s.len-i) (cap:=s.cap-i) I;rw[aC,cT];exact this) (by rw[cT];exact bp.cj (bp.drew G) _ _ I aD)
  obtain⟨y,ai⟩:∃y,y=setCells w.drew ⟨b,0+(i+1)*1,none⟩ 0 (vs.drop (i*1)):=⟨_,rfl⟩;rw[←ai]at M;have aL:bp y b (gl c ((i+1)*1) (vs.drop (i*1))) 39:=by rw[ai,cT];exact(bp.drew G).k9 _
  have aM:af (aB s) w y:=by
   rw[ai];exact af.mono (W:=λq=>q=b) (af.jK (af.drew (.refl _ _)) _ 0) (λk _ d=>⟨_,r,d.symm⟩)
  have a7:Src 1 y v xs:=N.ah aM (λk d a8=>by obtain⟨A,ar,rfl⟩:=d;rw[an]at ar;cases ar;exact ao a8);have ag:=tS (P:=aj) (w:=y) (mn:=93) (cH:=93) (ty:=3) (A:=⟨b,0+i*1,none⟩) (dl:=s.len+1-i) (ot:=s.cap-i) (n:=1) h1 K E (x:=v) (by rw[g];exact hZ I) (xs:=xs) (by have e:(⟨v.a,1,v.cap⟩:ad)=v:=(by rw[←g]);rw[e];exact a7) (by rw[cT];exact aL.cj _ _ (by rw[h8];omega) U);refine⟨⟨I,I⟩,⟨I,I⟩,false,w,by rw[R];exact a6,λ_=>aX ⟨⟨I,I⟩,⟨I,I⟩,_,y,by rw[R,S];exact M,⟨I,I⟩,_,_,by rw[S];exact ag,⟨s.a,s.len+1,s.cap⟩,rfl,?_,rfl,?_,λk d=>.inl d⟩,λh=>by simp at h⟩
  .have aN:aV 1 39 (setCells y ⟨b,0+i*1,none⟩ 0 xs) ⟨some b,s.len+1,s.cap⟩ (vs.take (i*1)++xs++vs.drop (i*1)):=by
    have f:(vs.take (i*1)).length=i*1:=by rw[cG,V];omega
    refine aV.mk' (aL.k9 (o:=0+i*1) _) (by simp[f,p,B];omega) I I (by rw[h8,h8,av]) ?_;rw[k8 _ _ _ (by rw[h8];omega),k8 _ _ _ I];have t1:(c.toList.take ((i+1)*1)++vs.drop (i*1)++c.toList.drop ((i+1)*1+(vs.drop (i*1)).length)).take (0+i*1)=vs.take (i*1):=by
     rw[cT,pI (by simp[B];omega),pI (by simp;omega),nT,aA i I,hZ I]
    have t2:(c.toList.take ((i+1)*1)++vs.drop (i*1)++c.toList.drop ((i+1)*1+(vs.drop (i*1)).length)).drop (0+i*1+xs.length)=vs.drop (i*1)++c.toList.drop ((i+1)*1+(vs.drop (i*1)).length):=by
     have a9:(c.toList.take ((i+1)*1)).length=0+i*1+xs.length:=by simp;omega
     rw[cB,←a9,List.drop_left]
    rw[t1,t2,←cB,pI (by simp[f,p,B];omega),dO (by simp[f,p,B];omega)]
   rw[←r]at aN;exact aN
  .exact aM.trans (af.mono (W:=λq=>q=b) (af.jK (.refl _ _) _ 0) (λk _ d=>⟨_,r,d.symm⟩))
theorem Hd{s:ad}{vs:O aa}{i:Nat}{w:J}(m:aV 1 39 w s vs)(M:∀u∈vs,Plain u)(N:∀z,(Tryz.prog.info? 39).bind (·.zero)=some z->∀u∈z.cells.toList,Plain u)(hi:i<s.len)(an:s.len<=1000000):
 aI aj 184 #[s,.int .i64 (i:Int),.int .i64 ((i+1:Nat):Int)] w (λu w'=>∃p:ad,u=p/\aV 1 39 w' p (vs.take (i*1)++vs.drop ((i+1)*1))/\p.len=s.len-1/\p.a=s.a/\af (aB s) w w'):=by
 obtain⟨h1,ao,d,h2,Q,C,D,R,ap,aq⟩:=(qP).out;obtain⟨d0,S⟩:=j9 _ Q;refine okF (ae.uj s i ((i+1:Nat):Int)) ax.uj func184 ?_;(delta ae.uj ak aT;dsimp only);have ar:=m.2.1;have U:=m.2.2.1;have E:=m.1;rcases m.2.2.2 with ⟨_,hc⟩|⟨b,c,f,V,F,G⟩
 .omega
 have au:c.toList.length=s.cap*1:=by simpa using F
 simp only[di,mR,xA];have X:vs.drop ((i+1)*1)=(c.toList.drop ((i+1)*1)).take ((s.len-(i+1))*1):=by rw[←G,List.drop_take,show s.len*1-(i+1)*1=(s.len-(i+1))*1 from I]
 have e:(vs.drop ((i+1)*1)).length=(s.len-(i+1))*1:=by rw[ed,E];omega
 have Y:vs.take (i*1)=c.toList.take (i*1):=by rw[←G,nT,hZ I]
 have l:(vs.take (i*1)).length=i*1:=by rw[cG,E];omega
 have Z:∀u∈vs.drop ((i+1)*1),Plain u:=λu hu=>M u (fJ hu);have t:bp w.drew b c 39:=bp.drew V;have ab:Src 1 w.drew ⟨aY s.a 1 (i+1) s.cap,s.len-(i+1),s.cap-(i+1)⟩ (vs.drop ((i+1)*1)):=by
  by_cases he:i+1=s.cap
  .have v:s.len-(i+1)=0:=by omega
   refine⟨by rw[e],λ_=>l3.1 (by rw[e,v,pC]),λa _=>?_⟩;have:vs.drop ((i+1)*1)=[]:=l3.1 (by rw[e,v,pC]);rw[this];show bn _ _ 0 ((s.len-(i+1))*1)=_;rw[v,pC];rfl
  .rw[f,mi I,X,cT]
   exact t.rX I
 have x:=xo (P:=aj) (gj:= #[93,93]) (cD:=93) (s:=⟨s.a,i,s.cap⟩) rfl rfl h1 h1 S R ab (by show i+(s.len-(i+1))<=s.cap;omega) (λa r=>by
  have r:s.a=some a:=r;rw[f]at r;cases r;rw[aA,cT];exact t.cj _ _ (by show i*1+_<=_;omega) Z)
 have ac:i+(s.len-(i+1))=s.len-1:=by omega
 simp only[f,aA,cT,ac]at x;obtain⟨g,y⟩:∃g,g=setCells w.drew ⟨b,i*1,none⟩ 0 (vs.drop ((i+1)*1)):=⟨_,rfl⟩;rw[←y]at x;have H:bp g b (gl c (i*1) (vs.drop ((i+1)*1))) 39:=by rw[y];exact t.k9 _
 have ag:af (aB s) w g:=by
  rw[y];exact af.mono (W:=λq=>q=b) (af.jK (af.drew (.refl _ _)) _ 0) (λk _ B=>⟨_,f,B.symm⟩)
 obtain⟨zs,av,ah⟩:=E3 (P:=aj) (w:=g) (T:=93) (o:=0) (n:=1) (c:=s.cap-(s.len-1)) (A:=⟨b,(s.len-1)*1,none⟩) h1 h2 C D (by decide) (λzs K=>by
  refine H.cj _ _ (by rw[K,h8];simp[Builtin.zeroCells,D];omega) λu hu=>?_;rw[K]at hu;simp only[Builtin.zeroCells,Array.toList_map,fF]at hu;obtain⟨j,L,rfl⟩:=hu;have L:j<1*d.cells.size:=by simpa using L
  have ai:j%d.cells.size<d.cells.size:=g8 _ I;have hg:d.cells[j%d.cells.size]! =d.cells[j%d.cells.size]:=getElem!_pos d.cells (j%d.cells.size) ai;rw[hg];exact N d (by rw[h2];exact C) _ (by simp))
 have al:aY (some (Addr.mk b 0 none)) 1 (s.len-1) s.cap=some ⟨b,(s.len-1)*1,none⟩:=by rw[mi I,cT]
 have am:s.len-(s.len-1)=1:=by omega
 refine⟨⟨I,I⟩,⟨I,I⟩,⟨I,I⟩,λh=>?_,λ_=>aX ⟨⟨I,I⟩,⟨I,I⟩,⟨some b,s.len-1,s.cap⟩,g,by rw[f];exact x,⟨I,by show(s.len:Int)<=(s.cap:Int);omega⟩,⟨I,by show((s.len-1:Nat):Int)<=(s.len:Int);omega⟩,_,_,by rw[am,al];exact ah,⟨some b,s.len-1,s.cap⟩,rfl,?_,rfl,f.symm,?_⟩⟩
 .have:=eq_of_beq h;omega
 .refine aV.mk' (H.k9 _) (by simp[l,e];omega) I U (by rw[h8,h8,F]) ?_
  rw[k8 _ _ _ (by rw[h8];omega),k8 _ _ _ I];have t1:(c.toList.take (i*1)++vs.drop ((i+1)*1)++c.toList.drop (i*1+(vs.drop ((i+1)*1)).length)).take ((s.len-1)*1)=vs.take (i*1)++vs.drop ((i+1)*1):=by
   rw[←Y,pI (by simp[l,e];omega),dO (by simp[l,e];omega)]
  rw[t1,cB,pI (by simp[l,e];omega),dO (by simp[l,e];omega)]
 .exact ag.trans (af.mono (W:=λq=>q=b) (af.jK (.refl _ _) _ 0) (λk _ B=>⟨_,f,B.symm⟩))
theorem sH{w:J}{s:ad}{ds:O Nat}(h:Src 1 w s (fS ds))(g:ds.length<=1000000):
 aI aj 228 #[s] w (λv w'=>∃b:ad,v=b/\aV 1 3 w' b (fS ds)/\Ext w w'/\gr w b):=by
 have i:s.len=ds.length:=by have:=h.len;rw[qN]at this;omega
 refine okF (ae.ur s) ax.ur func228 ?_;delta ae.ur ak Y;refine⟨λc=>?_,λ_=>?_⟩
 .have c:s.a=none:=by simpa using c
  rw[h.nil c];exact⟨⟨none,0,0⟩,rfl,aV.none _ _ _,.refl _ _,λk d=>(fV k d).elim⟩
 .obtain⟨b,w',h1,h2,j,e,f,_⟩:=sE.clone (cD:=72) h (BR ds) I
  exact aX ⟨b,w',h1,b,rfl,h2,e,f⟩
theorem He{ks:O Key}{k:Key}{a:Nat}(d:a<=ks.length)(h1:∀ (j:Nat) (h:j<ks.length),j<a->bt ks[j] k)(h2:∀ (j:Nat) (h:j<ks.length),a<=j->¬bt ks[j] k):cI ks k=a:=by
 unfold cI;rcases ei a ks.length with h|h
 .exact(List.findIdx_eq h).2 ⟨dI (h2 a h (bl _)),λj b=>h4 λc=>c (h1 j I b)⟩
 .have:a=ks.length:=by omega
  subst this;refine List.findIdx_eq_length_of_false λx hx=>?_;obtain⟨j,b,rfl⟩:=e2 hx;exact h4 λc=>c (h1 j b b)
def g2(ks:O Key)(k:Key):al:=decide (ks[cI ks k]? =some k)
theorem Hf{B C:Nat->Prop}{s t:ad}{ks:O Key}{key:Key}{w:J}(hs:bI B w s ks)(ht:Src 1 w t (az key))(x:ks.Pairwise bt)(N:ks.length<=100000):
 aI aj 223 #[s,t,.func (.func 219) #[] #[]] w (λv w'=>v=.tuple #[.int .i64 ((cI ks key:Nat):Int),.bool (g2 ks key)]/\w=w'):=by
 refine okF (ae.um s t ⟨219,#[],#[]⟩) ax.um func223 ?_;(delta ae.um ak aq r1 aP;dsimp only);have y:=bI.len hs;have o:h6 aj 219:=⟨_,(pE (show(Tryz.prog.funcs[219]?).isSome=true by kernel_rfl)).symm,by kernel_rfl,by kernel_rfl⟩;have aH:=λ{i j:Nat} (hi:i<j) (e:j<ks.length)=>kZ.1 x i j I e hi;refine⟨λlo hi w'=>∃a b:Nat,lo=a/\hi=b/\a<=b/\b<=ks.length/\w=w'/\(∀ (j:Nat) (h:j<ks.length),j<a->bt ks[j] key)/\(∀ (j:Nat) (h:j<ks.length),b<=j->¬bt ks[j] key),λlo hi _=>(hi-lo).toNat,
  ⟨0,ks.length,rfl,by rw[y],cP _,bl _,rfl,λj _ h=>I,λj h h2=>I⟩,?_⟩
 rintro _ _ _ ⟨a,b,rfl,rfl,P,p,rfl,h1,h2⟩;have z:=E4 (a:=a) (b:=b) I;refine⟨λh=>?_,λh=>?_⟩
 .have D:(a:Int)<(b:Int):=cf h
  rw[z];obtain⟨m,E⟩:∃m,m=(a+b)/2:=⟨_,rfl⟩;rw[←E];have F:a<=m:=by omega
  have Q:m<b:=by omega
  obtain⟨A,t2,ar,f,g,k,_⟩:=bI.at hs (i:=m) I;refine⟨by decide,A,ar,f,t2,g,o,(lK k.1 ht).use ?_⟩;rintro _ _ ⟨rfl,rfl⟩;have G:IntKind.wrap .i64 ((m:Int)+1)=((m+1:Nat):Int):=by rw[br I I];rfl
  refine⟨_,rfl,λhc=>?_,λhc=>?_⟩
  .have hc:bt ks[m] key:=cf hc
   rw[G];have l:((b:Int)-((m+1:Nat):Int)).toNat<((b:Int)-(a:Int)).toNat:=by omega
   refine⟨⟨m+1,b,rfl,rfl,I,p,rfl,λj e H=>?_,h2⟩,l⟩;rcases ei j m with d|d
   .exact lN (aH d I) hc
   .have:j=m:=by omega
    subst this;exact hc
  .have hc:¬bt ks[m] key:=cC hc
   have l:((m:Int)-(a:Int)).toNat<((b:Int)-(a:Int)).toNat:=by omega
   refine⟨⟨a,m,rfl,rfl,F,I,rfl,h1,λj e H=>?_⟩,l⟩;rcases ei m j with d|d
   .exact λK=>hc (lN (aH d e) K)
   .have:j=m:=by omega
    subst this;exact hc
 .have L:¬(a:Int)<(b:Int):=cC h
  have M:b=a:=by omega
  subst M;have n:cI ks key=b:=He p h1 h2;refine cw (λc w'=>w=w'/\c=g2 ks key) (λq r=>⟨λh=>?_,λh=>?_⟩) ?_
  .have D:(b:Int)<(s.len:Int):=cf h
   have u:b<ks.length:=by omega
   obtain⟨A,t2,ar,f,g,k,_⟩:=bI.at hs u;refine⟨A,ar,f,t2,g,o,(lK k.1 ht).use ?_⟩;rintro _ _ ⟨rfl,rfl⟩;refine⟨_,rfl,r _ _ ⟨rfl,?_⟩⟩;unfold g2;rw[n,fv,cp,j2,dH u,Gm];exact⟨λh=>by rw[h],λh=>Option.some.inj h⟩
  .have L:¬(b:Int)<(s.len:Int):=cC h
   refine r _ _ ⟨rfl,?_⟩;unfold g2;rw[n,nX I];simp
  .rintro _ _ ⟨rfl,rfl⟩
   exact⟨by rw[n],rfl⟩
theorem mo{B:Nat->Prop}{w:J}{n:aF}{K V D t:ad}{key:Key}(h:bU B w n K V D)(ht:Src 1 w t (az key))(b:n.keys.Pairwise bt)(c:n.keys.length<=100000):
 aI aj 177 #[dd n K V D,t] w (λv w'=>v=.tuple #[.int .i64 ((cI n.keys key:Nat):Int),.bool (g2 n.keys key)]/\Ext w w'):=by
 refine okF (ae.mo n.leaf K V D t) ax.mo func177 ?_;(delta ae.mo r1 Y kI;dsimp only);refine a8 (vs:=[n.leaf,K,V,D]) rfl λw1 d a _=>?_;obtain⟨bV,aU,ba,bh⟩:=bK d;refine⟨K,aU,(Hf (B:=B) (C:=B) (h.keys.ext a) (ht.ext a) b c).use ?_⟩;rintro _ _ ⟨rfl,rfl⟩;exact⟨_,_,rfl,rfl,a⟩
theorem qo{B:Nat->Prop}{w:J}{n:aF}{K V D t:ad}{key:Key}(h:bU B w n K V D)(ht:Src 1 w t (az key))(b:n.keys.Pairwise bt)(c:n.keys.length<=100000):
 aI aj 124 #[dd n K V D,t] w (λv w'=>v=.tuple #[.int .i64 ((cI n.keys key:Nat):Int),.bool (g2 n.keys key)]/\Ext w w'):=by
 refine okF (ae.qo n.leaf K V D t) ax.qo func124 ?_;(delta ae.qo aT Y r1 kI;dsimp only);refine a8 (vs:=[n.leaf,K,V,D]) rfl λw1 d a _=>?_;obtain⟨bV,aU,ba,bh⟩:=bK d;refine⟨_,bV,K,aU,V,ba,D,bh,(mo (h.ext a) (ht.ext a) b c).use ?_⟩;rintro _ _ ⟨rfl,e⟩;exact⟨_,_,rfl,rfl,a.trans e⟩
theorem Hg{ks:O Key}(e:ks.Pairwise bt)(k:Key):db ks k=if g2 ks k then cI ks k+1 else cI ks k:=by
 have f:=qJ ks k;have key:∀a,a<=ks.length->(∀ (j:Nat) (h:j<ks.length),j<a->¬bt k ks[j])->(∀h:a<ks.length,bt k ks[a])->db ks k=a:=by
  intro a g h1 h2;unfold db;rcases ei a ks.length with h|h
  .exact(List.findIdx_eq h).2 ⟨dI (h2 h),λj b=>h4 (h1 j I b)⟩
  .have:a=ks.length:=by omega
   subst this;refine List.findIdx_eq_length_of_false λx hx=>?_;obtain⟨j,b,rfl⟩:=e2 hx;exact h4 (h1 j b b)
 split
 .rename_i c
  have c:ks[cI ks k]? =some k:=cf c;obtain⟨aH,he⟩:=jB.1 c;refine key _ aH (λj b h=>?_) λh=>?_
  .rcases ei j (cI ks k) with d|d
   .exact jO (o3 d b)
   .have:j=cI ks k:=by omega
    subst this;rw[he];exact jN _
  .have:=kZ.1 e _ _ aH h (Nat.lt_succ_self _)
   rwa[he]at this
 .rename_i c
  have c:¬ks[cI ks k]? =some k:=λh=>c (dI h);refine key _ f (λj b h=>jO (o3 h b)) λh=>?_;rcases o1.1 (qK e (bl _) h) with d|d
  .exact d
  .exact absurd ((dH h).trans (congrArg some d.symm)) c
theorem oG{B:Nat->Prop}{w:J}{n:aF}{K V D t:ad}{key:Key}(h:bU B w n K V D)(ht:Src 1 w t (az key))(b:n.keys.Pairwise bt)(e:n.keys.length<=100000):
 aI aj 176 #[dd n K V D,t] w (λv w'=>v=.int .i64 ((db n.keys key:Nat):Int)/\Ext w w'):=by
 refine okF (ae.oG n.leaf K V D t) ax.oG func176 ?_;(delta ae.oG aT Y r1 kI ak aq;dsimp only);refine a8 (vs:=[n.leaf,K,V,D]) rfl λw1 f a _=>?_;obtain⟨bV,aU,ba,bh⟩:=bK f;have i:=qJ n.keys key;refine⟨_,bV,K,aU,V,ba,D,bh,(mo (h.ext a) (ht.ext a) b e).use ?_⟩;rintro _ ai ⟨rfl,g⟩;rw[Hg b];refine⟨_,_,rfl,cw (λc w'=>ai=w'/\c=((if g2 n.keys key then cI n.keys key+1 else cI n.keys key:Nat):Int)) (λq d=>⟨λh=>d _ _ ⟨rfl,?_⟩,λh=>d _ _ ⟨rfl,?_⟩⟩) ?_⟩
 .rw[if_pos h,br I I];rfl
 .rw[if_neg (by simp[h])]
 .rintro _ _ ⟨rfl,rfl⟩
  exact⟨rfl,a.trans g⟩
structure hM(lo:Nat)(w:J)(aR:Nat)(n:aF)(K V D:ad)(bF bW bx:Nat->Prop):Prop where
 v:Var w aR [n.leaf,K,V,D] 169
 keys:bm bF w K n.keys
 vals:bm bW w V n.vals
 kids:cK bx w D n.kids
 b2:∀q,bF q->lo<=q/\q<w.heap.size/\q≠aR/\¬bW q/\¬bx q
 bv:∀q,bW q->lo<=q/\q<w.heap.size/\q≠aR/\¬bx q
 aP:∀q,bx q->lo<=q/\q<w.heap.size/\q≠aR
 mB:lo<=aR
structure fX(lo:Nat)(w:J)(n:aF)(K V D:ad)(bF bW bx:Nat->Prop):Prop where
 keys:bm bF w K n.keys
 vals:bm bW w V n.vals
 kids:cK bx w D n.kids
 b2:∀q,bF q->lo<=q/\q<w.heap.size/\¬bW q/\¬bx q
 bv:∀q,bW q->lo<=q/\q<w.heap.size/\¬bx q
 aP:∀q,bx q->lo<=q/\q<w.heap.size
section
variable {lo:Nat}{w w':J}{aR:Nat}{n:aF}{K V D:ad}{bF bW bx:Nat->Prop}
theorem hM.mem(h:hM lo w aR n K V D bF bW bx):fX lo w n K V D bF bW bx:=⟨h.keys,h.vals,h.kids,λq a=>⟨(h.b2 q a).1,(h.b2 q a).2.1,(h.b2 q a).2.2.2⟩,λq a=>⟨(h.bv q a).1,(h.bv q a).2.1,(h.bv q a).2.2.2⟩,λq a=>⟨(h.aP q a).1,(h.aP q a).2.1⟩⟩
theorem fX.ah{W:Nat->Prop}(h:fX lo w n K V D bF bW bx)(hc:af W w w')(cx:∀q,lo<=q->q<w.heap.size->bF q\/bW q\/bx q->¬W q):fX lo w' n K V D bF bW bx:=by
 have hs:=hc.size;refine⟨bm.ah h.keys hc λq a=>cx q (h.b2 q a).1 (h.b2 q a).2.1 (.inl a),bm.ah h.vals hc λq a=>cx q (h.bv q a).1 (h.bv q a).2.1 (.inr (.inl a)),cK.ah h.kids hc λq a=>cx q (h.aP q a).1 (h.aP q a).2 (.inr (.inr a)),λq a=>?_,λq a=>?_,λq a=>?_⟩
 .have:=h.b2 q a;exact⟨this.1,I,this.2.2⟩
 .have:=h.bv q a;exact⟨this.1,I,this.2.2⟩
 .have:=h.aP q a;exact⟨this.1,I⟩
theorem fX.ext(h:fX lo w n K V D bF bW bx)(hc:Ext w w'):fX lo w' n K V D bF bW bx:=h.ah hc λ_ _ _ _ h=>h
theorem hM.ext(h:hM lo w aR n K V D bF bW bx)(hx:Ext w w'):hM lo w' aR n K V D bF bW bx:=
 ⟨h.v.ext hx,bm.ext h.keys hx,bm.ext h.vals hx,cK.ext h.kids hx,λq a=>⟨(h.b2 q a).1,ff (h.b2 q a).2.1 hx.size,(h.b2 q a).2.2⟩,λq a=>⟨(h.bv q a).1,ff (h.bv q a).2.1 hx.size,(h.bv q a).2.2⟩,λq a=>⟨(h.aP q a).1,ff (h.aP q a).2.1 hx.size,(h.aP q a).2.2⟩,h.mB⟩
theorem fX.at(h:fX lo w n K V D bF bW bx):bU (λq=>lo<=q) w n K V D:=
 ⟨bI.a_ (bm.kk h.keys) λq _ a=>(h.b2 q a).1,bI.a_ (bm.kk h.vals) λq _ a=>(h.bv q a).1,cZ.a_ (cK.qO h.kids) λq _ a=>(h.aP q a).1⟩
theorem fX.low{c:Nat}(h:fX lo w n K V D bF bW bx)(b:c<=lo):fX c w n K V D bF bW bx:=
 ⟨h.keys,h.vals,h.kids,λq a=>⟨eE b (h.b2 q a).1,(h.b2 q a).2⟩,λq a=>⟨eE b (h.bv q a).1,(h.bv q a).2⟩,λq a=>⟨eE b (h.aP q a).1,(h.aP q a).2⟩⟩
end
theorem yI{lo:Nat}{w:J}{aR:Nat}{n:aF}{K V D t:ad}{l:Key}{bF bW bx:Nat->Prop}(h:hM lo w aR n K V D bF bW bx)(ht:Src 1 w t (az l))(U:l.length<=100000)(E:n.keys.length<=100000){R:J->Prop}
 (F:∀ (w':J) (G:ad) (x:Nat->Prop),hM lo w' aR {n with keys:=n.keys++ [l]} G V D x bW bx->af (λq=>q=aR\/bF q) w w'->(∀q,x q->bF q\/w.heap.size<=q)->R w'):
 an w.drew λj=>∃m:Nat->Prop,¬m (Addr.add aR 1).block/\∃g:ad,j.cell? (Addr.add aR 1)=some (.slice g.a g.len g.cap)/\
  Calls aj 46 #[t] j λH d=>∃y:ad,H=.returned y/\af m j d/\
  an (d.alloc (.cells #[y] 39)) λz=>af m d z/\∃A:ad,∃i:J,Sem.run aj (Builtin.append_ #[93,93] 93 #[g,.slice (some d.heap.size) 1 1]) z=.ok A i/\
  (∃u:aa,i.cell? (Addr.add aR 1)=some u)/\i.frozen? (Addr.add aR 1)=false/\an (i.setCell (Addr.add aR 1) A) λL=>R L:=by
 have W:=h.mB;have X:=h.v.lt;have p:=cA w;obtain⟨bV,aU,ba,bh⟩:=bK (h.v.ext p);refine aX ⟨λ_=>False,id,K,aU,(lS (B:=λq=>w.heap.size<=q) (ht.ext p) I (λq b=>b)).use ?_⟩;rintro _ d ⟨M,rfl,C,hx,hf⟩;have e:=p.trans hx;have Y:w.drew.heap.size=w.heap.size:=rfl;have N:=e.size;have O:=bm.ext h.keys e;have gd:=bm.ext h.vals e;have P:=cK.ext h.kids e;refine⟨M,rfl,hx,v_ (B:=Grow bF w.drew d) (h.v.ext e) (o:=1) (by simp) (bm.a_ O λk _ h=>.inl h) ?_ (bw.a_ C λk c h=>.inr ⟨h,c⟩) ?_ E λw' aD aw ay f=>?_⟩
 .rintro(h1|h1)
  .exact(h.b2 aR h1).2.2.1 rfl
  .omega
 .intro k Q S
  obtain⟨ts,_,_,r,_⟩:=h.keys;have:=(r k S).2;have:=(C.2.2 k Q).1;omega
 have T:∀q,Grow (Grow bF w.drew d) d w' q->bF q\/(w.heap.size<=q/\q<w'.heap.size):=by
  rintro q ((h1|h1)|h1)
  .exact .inl h1
  .exact .inr ⟨h1.1,ff h1.2 f.size⟩
  .exact .inr ⟨eE N h1.1,h1.2⟩
 have hg:=f.size;have s:∀q,aB K q->bF q:=λq b=>by
  obtain⟨ts,_,_,r,_⟩:=h.keys;exact(r q b).1
 refine F w' aD (λq=>bF q\/(w.heap.size<=q/\q<w'.heap.size)) ⟨by simpa using aw,bm.a_ ay λk _ c=>T k c,bm.ah gd f ?_,cK.ah P f ?_,?_,λq b=>?_,λq b=>?_,h.mB⟩ ?_ ?_
 .rintro q b (h1|h1)
  .exact(h.bv q b).2.2.1 h1
  .exact(h.b2 q (s q h1)).2.2.2.1 b
 .rintro q b (h1|h1)
  .exact(h.aP q b).2.2 h1
  .exact(h.b2 q (s q h1)).2.2.2.2 b
 .rintro q (h1|h1)
  .have:=h.b2 q h1;exact⟨this.1,I,this.2.2⟩
  .exact⟨I,h1.2,I,λh2=>by have:=h.bv q h2;omega,λh2=>by have:=h.aP q h2;omega⟩
 .have:=h.bv q b;exact⟨this.1,I,this.2.2⟩
 .have:=h.aP q b;exact⟨this.1,I,this.2.2⟩
 .refine(af.cW e).trans (f.mono λk _ c=>?_)
  rcases c with c|c
  .exact .inl c
  .exact .inr (s k c)
 .rintro q (h1|h1)
  .exact .inl h1
  .exact .inr h1.1
theorem B7{lo:Nat}{w:J}{aR:Nat}{n:aF}{K V D t:ad}{l:Key}{bF bW bx:Nat->Prop}(h:hM lo w aR n K V D bF bW bx)(ht:Src 1 w t (az l))(U:l.length<=100000)(E:n.vals.length<=100000){R:J->Prop}
 (F:∀ (w':J) (G:ad) (x:Nat->Prop),hM lo w' aR {n with vals:=n.vals++ [l]} K G D bF x bx->af (λq=>q=aR\/bW q) w w'->(∀q,x q->bW q\/w.heap.size<=q)->R w'):
 an w.drew λj=>∃m:Nat->Prop,¬m (Addr.add aR 2).block/\∃g:ad,j.cell? (Addr.add aR 2)=some (.slice g.a g.len g.cap)/\
  Calls aj 46 #[t] j λH d=>∃y:ad,H=.returned y/\af m j d/\
  an (d.alloc (.cells #[y] 39)) λz=>af m d z/\∃A:ad,∃i:J,Sem.run aj (Builtin.append_ #[93,93] 93 #[g,.slice (some d.heap.size) 1 1]) z=.ok A i/\
  (∃u:aa,i.cell? (Addr.add aR 2)=some u)/\i.frozen? (Addr.add aR 2)=false/\an (i.setCell (Addr.add aR 2) A) λL=>R L:=by
 have W:=h.mB;have X:=h.v.lt;have p:=cA w;obtain⟨bV,aU,ba,bh⟩:=bK (h.v.ext p);refine aX ⟨λ_=>False,id,V,ba,(lS (B:=λq=>w.heap.size<=q) (ht.ext p) I (λq b=>b)).use ?_⟩;rintro _ d ⟨M,rfl,C,hx,hf⟩;have e:=p.trans hx;have Y:w.drew.heap.size=w.heap.size:=rfl;have N:=e.size;have O:=bm.ext h.keys e;have gd:=bm.ext h.vals e;have P:=cK.ext h.kids e;refine⟨M,rfl,hx,v_ (B:=Grow bW w.drew d) (h.v.ext e) (o:=2) (by simp) (bm.a_ gd λk _ h=>.inl h) ?_ (bw.a_ C λk c h=>.inr ⟨h,c⟩) ?_ E λw' aD aw ay f=>?_⟩
 .rintro(h1|h1)
  .exact(h.bv aR h1).2.2.1 rfl
  .omega
 .intro k Q S
  obtain⟨ts,_,_,r,_⟩:=h.vals;have:=(r k S).2;have:=(C.2.2 k Q).1;omega
 have T:∀q,Grow (Grow bW w.drew d) d w' q->bW q\/(w.heap.size<=q/\q<w'.heap.size):=by
  rintro q ((h1|h1)|h1)
  .exact .inl h1
  .exact .inr ⟨h1.1,ff h1.2 f.size⟩
  .exact .inr ⟨eE N h1.1,h1.2⟩
 have hg:=f.size;have s:∀q,aB V q->bW q:=λq b=>by
  obtain⟨ts,_,_,r,_⟩:=h.vals;exact(r q b).1
 refine F w' aD (λq=>bW q\/(w.heap.size<=q/\q<w'.heap.size)) ⟨by simpa using aw,bm.ah O f ?_,bm.a_ ay λk _ c=>T k c,cK.ah P f ?_,λq b=>?_,?_,λq b=>?_,h.mB⟩ ?_ ?_
 .rintro q b (h1|h1)
  .exact(h.b2 q b).2.2.1 h1
  .exact(h.b2 q b).2.2.2.1 (s q h1)
 .rintro q b (h1|h1)
  .exact(h.aP q b).2.2 h1
  .exact(h.bv q (s q h1)).2.2.2 b
 .have:=h.b2 q b
  refine⟨this.1,I,this.2.2.1,?_,this.2.2.2.2⟩;rintro(h1|h1)
  .exact this.2.2.2.1 h1
  .omega
 .rintro q (h1|h1)
  .have:=h.bv q h1;exact⟨this.1,I,this.2.2⟩
  .exact⟨I,h1.2,I,λh2=>by have:=h.aP q h2;omega⟩
 .have:=h.aP q b;exact⟨this.1,I,this.2.2⟩
 .refine(af.cW e).trans (f.mono λk _ c=>?_)
  rcases c with c|c
  .exact .inl c
  .exact .inr (s k c)
 .rintro q (h1|h1)
  .exact .inl h1
  .exact .inr h1.1
theorem fB{B:Nat->Prop}{w0:J}{n:aF}{K V D:ad}(h:bU B w0 n K V D)(aQ:n.keys.length<=100000)(aS:n.vals.length<=100000)(aV:n.kids.length<=100000)(au:∀k∈n.keys,k.length<=100000)(av:∀v∈n.vals,v.length<=100000):
 aI aj 183 #[dd n K V D] w0 (λv w'=>∃ (K V D:ad) (bF bW bx:Nat->Prop),v=dd n K V D/\fX w0.heap.size w' n K V D bF bW bx/\Ext w0 w'):=by
 refine okF (ae.fB n.leaf K V D) ax.fB func183 ?_;(delta ae.fB z4 Y aT r1 bG xV ak Bd aP st aq Bc Bb rZ;dsimp only);have aB:bU (λq=>q<w0.heap.size) w0 n K V D:=h.a_ λq a _=>a;have aW:=bI.len h.keys;have aY:=bI.len h.vals;refine a8 (vs:=[n.leaf,K,V,D]) rfl λw1 aC aD aZ=>?_;refine a8 (vs:=[false,(),(),()]) rfl λai aG aw a0=>aX ?_;have W:=cA ai;have a1:ai.drew.heap.size=ai.heap.size:=rfl;have L:=(aC.ext aw).ext W;have ay:=aG.ext W;have X:=aD.trans (aw.trans W);obtain⟨aJ,a2,a3,aK⟩:=bK L;have T:=aB.ext X;obtain⟨lo,a4⟩:∃lo,lo=ai.heap.size:=⟨_,rfl⟩;refine⟨λ_=>False,id,_,aJ,id,D,aK,⟨?_,?_⟩⟩
 .refine(sH T.kids.1 I).use ?_
  rintro _ H ⟨aE,rfl,y,x,Z⟩;have aL:=x.size;refine⟨aE,rfl,x,#[n.leaf,(),(),aE],(λw=>by kernel_rfl),?_⟩;refine a8 (vs:=[false,(),(),()]) rfl λaz U z aM=>?_;refine⟨z,U.cj rfl ?_,rfl,cN U (us:=[n.leaf,(),(),aE]) rfl rfl λg M C aN=>?_⟩
  .intro v N
   simp only[cY,fo,fy]at N;rcases N with rfl|rfl|rfl|rfl<;>trivial
  obtain⟨aR,aa⟩:∃aR,aR=H.heap.size:=⟨_,rfl⟩;rw[←aa]at M C⊢;obtain⟨bx,r⟩:∃bx:Nat->Prop,bx=λq=>ai.heap.size<=q/\q<H.heap.size:=⟨_,rfl⟩;have ab:cK bx H aE n.kids:=by subst r;exact⟨y,λk l=>⟨⟨Z k l,y.lt k l⟩,y.lt k l⟩⟩
  have m:af (λq=>lo<=q) ai.drew g:=(af.cW (x.trans z)).trans (C.mono λk _ l=>I);have ac:hM lo g aR ⟨n.leaf,[],[],n.kids⟩ bJ bJ aE (λ_=>False) (λ_=>False) bx:=⟨M,bm.none _ _,bm.none _ _,cK.ah (cK.ext ab z) C (λq a e=>by subst r;have a:=a.2;omega),λq h=>h.elim,λq h=>h.elim,λq a=>(by subst r;obtain⟨h1,h2⟩:=a;exact⟨I,I,I⟩),I⟩;clear r;obtain⟨bV,aU,ba,bh⟩:=bK (L.ah m I);have O:bU (λq=>q<w0.heap.size) g n K V D:=T.ah m λq a h=>by omega
  have ag:=ay.ah m I;refine⟨K,aU,λi w'=>∃ (j:Nat) (d:ad) (bF:Nat->Prop),i=j/\j<=n.keys.length/\hM lo w' aR ⟨n.leaf,n.keys.take j,[],n.kids⟩ d bJ aE bF (λ_=>False) bx/\af (λq=>lo<=q) g w',λi _=>((n.keys.length:Int)-i).toNat,⟨0,bJ,_,rfl,cP _,ac,af.refl _ _⟩,?_⟩;rintro _ P ⟨j,d,bF,rfl,al,o,s⟩;have am:bU (λq=>q<w0.heap.size) P n K V D:=O.ah s λq a h=>by omega
  refine⟨λaH=>?_,λc=>?_⟩
  .have aH:j<n.keys.length:=by have:=cf aH;omega
   obtain⟨A,t,ar,E,hc,ht,_⟩:=bI.at am.keys aH;refine⟨A,ar,E,t,hc,yI o ht.1 (au _ (cL aH)) (by show(n.keys.take j).length<=_;rw[cG];omega) λw' dD an st F _=>?_⟩;have G:af (λq=>lo<=q) P w':=F.mono λq _ a=>by
    rcases a with a|a
    .have:=o.mB;omega
    .exact(o.b2 q a).1
   rw[br (n:=(j:Int)+1) I I];refine⟨⟨j+1,dD,an,I,I,?_,s.trans G⟩,?_⟩
   .rw[take_succ _ aH];exact st
   .show((n.keys.length:Int)-((j:Int)+1)).toNat<((n.keys.length:Int)-(j:Int)).toNat
    omega
  have c:j=n.keys.length:=by have:=cC c;omega
  subst c;rw[j3]at o;obtain⟨bV,aU,ba,bh⟩:=bK ((L.ah m I).ah s I);refine⟨V,ba,λi w'=>∃ (j:Nat) (p:ad) (bW:Nat->Prop),i=j/\j<=n.vals.length/\hM lo w' aR ⟨n.leaf,n.keys,n.vals.take j,n.kids⟩ d p aE bF bW bx/\af (λq=>lo<=q) g w',λi _=>((n.vals.length:Int)-i).toNat,⟨0,bJ,_,rfl,cP _,o,s⟩,?_⟩;rintro _ R ⟨j,p,bW,rfl,al,f,u⟩;have ao:bU (λq=>q<w0.heap.size) R n K V D:=O.ah u λq a h=>by omega
  refine⟨λaH=>?_,λc=>?_⟩
  .have aH:j<n.vals.length:=by have:=cf aH;omega
   obtain⟨A,t,ar,E,hc,ht,_⟩:=bI.at ao.vals aH;refine⟨A,ar,E,t,hc,B7 f ht.1 (av _ (cL aH)) (by show(n.vals.take j).length<=_;rw[cG];omega) λw' d_ ap st F _=>?_⟩;have G:af (λq=>lo<=q) R w':=F.mono λq _ a=>by
    rcases a with a|a
    .have:=f.mB;omega
    .exact(f.bv q a).1
   rw[br (n:=(j:Int)+1) I I];refine⟨⟨j+1,d_,ap,I,I,?_,u.trans G⟩,?_⟩
   .rw[take_succ _ aH];exact st
   .show((n.vals.length:Int)-((j:Int)+1)).toNat<((n.vals.length:Int)-(j:Int)).toNat
    omega
  have c:j=n.vals.length:=by have:=cC c;omega
  subst c;rw[j3]at f;obtain⟨d0,d1,d2,d3⟩:=bK f.v;refine⟨_,d0,d,d1,p,d2,aE,d3,iW n.leaf d p aE (ag.ah u I) rfl (Q:=λb K V D ai=>(λv w'=>∃ (K V D:ad) (bF bW bx:Nat->Prop),v=dd n K V D/\fX w0.heap.size w' n K V D bF bW bx/\Ext w0 w') (.agg #[b,K,V,D]) ai) λaO S=>⟨d,p,aE,bF,bW,bx,rfl,?_,?_⟩⟩
  .exact(fX.ah f.mem S λq a _ _ h=>I).low I
  .exact Ext.cu (Ext.dX X (m.trans u) λk l=>I) S I
 .refine a8 (vs:=[false,(),(),()]) rfl λaz U z aM=>⟨z,?_⟩
  refine(sH (T.kids.ext z).1 I).use ?_;rintro _ H ⟨aE,rfl,y,x,Z⟩;have aL:=x.size;have aA:=U.ext x;refine⟨aE,rfl,x,#[n.leaf,(),(),aE],(λw=>by kernel_rfl),?_⟩;refine⟨aA.cj rfl ?_,rfl,cN aA (us:=[n.leaf,(),(),aE]) rfl rfl λg M C aN=>?_⟩
  .intro v N
   simp only[cY,fo,fy]at N;rcases N with rfl|rfl|rfl|rfl<;>trivial
  obtain⟨aR,aa⟩:∃aR,aR=ai.drew.heap.size:=⟨_,rfl⟩;rw[←aa]at M C⊢;obtain⟨bx,r⟩:∃bx:Nat->Prop,bx=λq=>az.heap.size<=q/\q<H.heap.size:=⟨_,rfl⟩;have ab:cK bx H aE n.kids:=by subst r;exact⟨y,λk l=>⟨⟨Z k l,y.lt k l⟩,y.lt k l⟩⟩
  have m:af (λq=>lo<=q) ai.drew g:=(af.cW (z.trans x)).trans (C.mono λk _ l=>I);have ac:hM lo g aR ⟨n.leaf,[],[],n.kids⟩ bJ bJ aE (λ_=>False) (λ_=>False) bx:=⟨M,bm.none _ _,bm.none _ _,cK.ah ab C (λq a e=>by subst r;have a:=a.1;omega),λq h=>h.elim,λq h=>h.elim,λq a=>(by subst r;obtain⟨h1,h2⟩:=a;exact⟨I,I,I⟩),I⟩;clear r;obtain⟨bV,aU,ba,bh⟩:=bK (L.ah m I);have O:bU (λq=>q<w0.heap.size) g n K V D:=T.ah m λq a h=>by omega
  have ag:=ay.ah m I;refine⟨K,aU,λi w'=>∃ (j:Nat) (d:ad) (bF:Nat->Prop),i=j/\j<=n.keys.length/\hM lo w' aR ⟨n.leaf,n.keys.take j,[],n.kids⟩ d bJ aE bF (λ_=>False) bx/\af (λq=>lo<=q) g w',λi _=>((n.keys.length:Int)-i).toNat,⟨0,bJ,_,rfl,cP _,ac,af.refl _ _⟩,?_⟩;rintro _ P ⟨j,d,bF,rfl,al,o,s⟩;have am:bU (λq=>q<w0.heap.size) P n K V D:=O.ah s λq a h=>by omega
  refine⟨λaH=>?_,λc=>?_⟩
  .have aH:j<n.keys.length:=by have:=cf aH;omega
   obtain⟨A,t,ar,E,hc,ht,_⟩:=bI.at am.keys aH;refine⟨A,ar,E,t,hc,yI o ht.1 (au _ (cL aH)) (by show(n.keys.take j).length<=_;rw[cG];omega) λw' dD an st F _=>?_⟩;have G:af (λq=>lo<=q) P w':=F.mono λq _ a=>by
    rcases a with a|a
    .have:=o.mB;omega
    .exact(o.b2 q a).1
   rw[br (n:=(j:Int)+1) I I];refine⟨⟨j+1,dD,an,I,I,?_,s.trans G⟩,?_⟩
   .rw[take_succ _ aH];exact st
   .show((n.keys.length:Int)-((j:Int)+1)).toNat<((n.keys.length:Int)-(j:Int)).toNat
    omega
  have c:j=n.keys.length:=by have:=cC c;omega
  subst c;rw[j3]at o;obtain⟨bV,aU,ba,bh⟩:=bK ((L.ah m I).ah s I);refine⟨V,ba,λi w'=>∃ (j:Nat) (p:ad) (bW:Nat->Prop),i=j/\j<=n.vals.length/\hM lo w' aR ⟨n.leaf,n.keys,n.vals.take j,n.kids⟩ d p aE bF bW bx/\af (λq=>lo<=q) g w',λi _=>((n.vals.length:Int)-i).toNat,⟨0,bJ,_,rfl,cP _,o,s⟩,?_⟩;rintro _ R ⟨j,p,bW,rfl,al,f,u⟩;have ao:bU (λq=>q<w0.heap.size) R n K V D:=O.ah u λq a h=>by omega
  refine⟨λaH=>?_,λc=>?_⟩
  .have aH:j<n.vals.length:=by have:=cf aH;omega
   obtain⟨A,t,ar,E,hc,ht,_⟩:=bI.at ao.vals aH;refine⟨A,ar,E,t,hc,B7 f ht.1 (av _ (cL aH)) (by show(n.vals.take j).length<=_;rw[cG];omega) λw' d_ ap st F _=>?_⟩;have G:af (λq=>lo<=q) R w':=F.mono λq _ a=>by
    rcases a with a|a
    .have:=f.mB;omega
    .exact(f.bv q a).1
   rw[br (n:=(j:Int)+1) I I];refine⟨⟨j+1,d_,ap,I,I,?_,u.trans G⟩,?_⟩
   .rw[take_succ _ aH];exact st
   .show((n.vals.length:Int)-((j:Int)+1)).toNat<((n.vals.length:Int)-(j:Int)).toNat
    omega
  have c:j=n.vals.length:=by have:=cC c;omega
  subst c;rw[j3]at f;obtain⟨d0,d1,d2,d3⟩:=bK f.v;refine⟨_,d0,d,d1,p,d2,aE,d3,iW n.leaf d p aE (ag.ah u I) rfl (Q:=λb K V D ai=>(λv w'=>∃ (K V D:ad) (bF bW bx:Nat->Prop),v=dd n K V D/\fX w0.heap.size w' n K V D bF bW bx/\Ext w0 w') (.agg #[b,K,V,D]) ai) λaO S=>⟨d,p,aE,bF,bW,bx,rfl,?_,?_⟩⟩
  .exact(fX.ah f.mem S λq a _ _ h=>I).low I
  .exact Ext.cu (Ext.dX X (m.trans u) λk l=>I) S I
theorem bm.mk'{B:Nat->Prop}{w:J}{s:ad}{ts:O ad}{ls:O Key}(a:ts.length=ls.length)(b:aV 1 39 w s (ts.map hL))(hi:In B w s)(c:∀p∈ts.zip ls,bw B w p.1 p.2/\∀k,aB p.1 k->¬aB s k):bm B w s ls:=by
 refine⟨ts,a,b,hi,λi h1 h2=>?_⟩;have:=c (ts[i],ls[i]) (by
  rw[tg];exact⟨i,by rw[nS];omega,by rw[tf]⟩)
 exact this
theorem bm.out{B:Nat->Prop}{w:J}{s:ad}{ls:O Key}(h:bm B w s ls):∃ts:O ad,ts.length=ls.length/\aV 1 39 w s (ts.map hL)/\In B w s/\∀p∈ts.zip ls,bw B w p.1 p.2/\∀k,aB p.1 k->¬aB s k:=by
 obtain⟨ts,h1,h2,a,b⟩:=h;refine⟨ts,h1,h2,a,λp c=>?_⟩;obtain⟨i,hi,rfl⟩:=tg.1 c;rw[nS]at hi;rw[tf];exact b i I I
theorem B8{α β:Type}(a:O α)(b:O β)(i:Nat):(a.take i).zip (b.take i)=(a.zip b).take i:=by
 rw[List.zip_eq_zipWith,List.zip_eq_zipWith,List.take_zipWith]
theorem B9{α β:Type}(a:O α)(b:O β)(i:Nat):(a.drop i).zip (b.drop i)=(a.zip b).drop i:=by
 rw[List.zip_eq_zipWith,List.zip_eq_zipWith,List.drop_zipWith]
theorem B_{B:Nat->Prop}{w:J}{s t:ad}{ls:O Key}{l:Key}{i:Nat}(q:bm B w s ls)(ht:bw B w t l)(hd:∀k,aB t k->¬aB s k)(F:ls.length<=100000)(hi:i<=ls.length):
 aI aj 200 #[s,.int .i64 (i:Int),.slice (some w.heap.size) 1 1] (w.alloc (.cells #[t] 39))
  (λu w'=>∃e:ad,u=e/\bm (Grow B w w') w' e (ls.take i++ [l]++ls.drop i)/\af (aB s) w w'):=by
 obtain⟨ts,h1,h2,j,m⟩:=bm.out q;have G:s.len=ls.length:=by have:=h2.1;rw[dk]at this;omega
 have hx:=dc w (.cells #[t] 39);have r:=bp.new w #[t] 39;refine(Hc (v:=⟨some w.heap.size,1,1⟩) (xs:=[hL t]) (i:=i) (h2.ext hx) (Src.new (T:=39) w [hL t] 1 rfl) rfl rfl r (λh=>by have:=(j _ h).2;omega) (λv z=>by rw[fg.1 z];trivial) (vW ts) I I).mono ?_;rintro _ w' ⟨e,rfl,aw,ay,A,C⟩;rw[fw]at aw;have hc:af (aB s) w w':=(af.cW hx).trans A;have H:=hc.size;have K:(w.alloc (.cells #[t] 39)).heap.size=w.heap.size+1:=o6 _ _;have n:∀k,aB e k->aB s k\/w.heap.size<=k:=λk d=>(C k d).imp id λh=>by omega
 have D:∀ (x:ad),In B w x->(∀k,aB x k->¬aB s k)->∀k,aB x k->¬aB e k:=λx hx f k d E=>by
  rcases n k E with h|h
  .exact f k d h
  .have:=(hx k d).2;omega
 have g:∀ (x:ad) (y:Key),bw B w x y->(∀k,aB x k->¬aB s k)->bw (Grow B w w') w' x y/\∀k,aB x k->¬aB e k:=λx y o f=>⟨bw.a_ (bw.kK o hc f) λk _ h=>.inl h,D x o.2.2 f⟩;refine⟨e,rfl,bm.mk' (ts:=ts.take i++ [t]++ts.drop i) ?_ ?_ ?_ ?_,hc⟩
 .simp only[ct,cG,ed,jd];omega
 .simpa[l6,l5] using aw
 .intro k d
  refine⟨?_,aw.lt k d⟩;rcases n k d with h|h
  .exact .inl (j k h).1
  .exact .inr ⟨h,aw.lt k d⟩
 .intro p c
  rw[List.zip_append (by simp only[ct,cG,jd];omega),List.zip_append (by simp only[cG];omega),B8,B9]at c;rcases cO.1 c with c|c
  .rcases cO.1 c with c|c
   .obtain⟨a,b⟩:=m p (fM c)
    exact g _ _ a b
   .simp only[List.zip_cons_cons,List.zip_nil_left,fg]at c
    subst c;exact g _ _ ht hd
  .obtain⟨a,b⟩:=m p (fJ c)
   exact g _ _ a b
theorem Hh:(Tryz.prog.info? 39).bind (·.zero)=some (.slice none 0 0):=by kernel_rfl
theorem Ca{B:Nat->Prop}{w:J}{s:ad}{ls:O Key}{i:Nat}(j:bm B w s ls)(r:ls.length<=100000)(hi:i<ls.length):
 aI aj 184 #[s,.int .i64 (i:Int),.int .i64 ((i+1:Nat):Int)] w
  (λu w'=>∃e:ad,u=e/\bm B w' e (ls.take i++ls.drop (i+1))/\af (aB s) w w'):=by
 obtain⟨ts,h1,h2,l,m⟩:=bm.out j;have t:s.len=ls.length:=by have:=h2.1;rw[dk]at this;omega
 refine(Hd (i:=i) h2 (vW ts) (λz g u hu=>by
  rw[Hh]at g
  cases g;simp[Value.cells]at hu;subst hu;trivial) I I).mono ?_
 rintro _ w' ⟨e,rfl,aw,ay,n,f⟩;rw[fw,fw]at aw;have v:=f.size;have h:∀k,aB e k->aB s k:=λk ⟨A,ar,c⟩=>⟨A,by rw[←n];exact ar,c⟩;refine⟨e,rfl,bm.mk' (ts:=ts.take i++ts.drop (i+1)) ?_ ?_ ?_ ?_,f⟩
 .simp only[ct,cG,ed];omega
 .simpa[l6,l5] using aw
 .exact λk c=>⟨(l k (h k c)).1,aw.lt k c⟩
 .intro p d
  rw[List.zip_append (by simp only[cG];omega),B8,B9]at d;have o:p∈ts.zip ls:=by
   rcases cO.1 d with d|d
   .exact fM d
   .exact fJ d
  obtain⟨a,b⟩:=m p o;exact⟨bw.kK a f b,λk c q=>b k c (h k q)⟩
theorem Hi{B:Nat->Prop}{w:J}{s t:ad}{ls:O Key}{l:Key}{i:Nat}(g:bm B w s ls)(ht:bw B w t l)(hd:∀k,aB t k->¬aB s k)(hi:i<ls.length):
 ∃A:ag,s.a=some A/\((0:Int)<=(i:Int)/\(i:Int)<(s.len:Int))/\(∃u:aa,w.cell? (A.add (Int.toNat (i:Int)*1))=some u)/\w.frozen? (A.add (Int.toNat (i:Int)*1))=false/\
  bm B (w.setCell (A.add (Int.toNat (i:Int)*1)) (hL t)) s (ls.set i l)/\af (aB s) w (w.setCell (A.add (Int.toNat (i:Int)*1)) (hL t)):=by
 obtain⟨ts,h1,h2,h,m⟩:=g;obtain⟨A,ar,n,hc,hf,o,p⟩:=h2.at (i:=i) (v:=hL (ts[i]'I)) (by simp[h1,hi]);have c:af (aB s) w (w.setCell (A.add (Int.toNat (i:Int)*1)) (hL t)):=af.set (.refl _ _) (λ_=>o) _;refine⟨A,ar,n,⟨_,hc⟩,hf,⟨ts.set i t,by simp[h1],?_,In.ah h c,λj d f=>?_⟩,c⟩
 .have:=p (hL t)
  rwa[←List.map_set]at this
 .rw[dr]at d f
  rw[nR,nR];by_cases e:i=j
  .rw[if_pos e,if_pos e]
   exact⟨bw.kK ht c hd,hd⟩
  .rw[if_neg e,if_neg e]
   obtain⟨a,b⟩:=m j d f;exact⟨bw.kK a c b,b⟩
def g3(n:aF)(k v:Key):aF:=
 if g2 n.keys k then {n with vals:=n.vals.set (cI n.keys k) v}
 else {n with keys:=n.keys.take (cI n.keys k)++ [k]++n.keys.drop (cI n.keys k),vals:=n.vals.take (cI n.keys k)++ [v]++n.vals.drop (cI n.keys k)}
def lT(n:aF)(k:Key):aF:={n with keys:=n.keys.take (cI n.keys k)++n.keys.drop (cI n.keys k+1),vals:=n.vals.take (cI n.keys k)++n.vals.drop (cI n.keys k+1)}
theorem gU.eK{n:aF}(h:gU n):(∀k∈n.keys,k.length<=100000)/\(∀v∈n.vals,v.length<=100000):=⟨λk a=>by have:=(h.ok k a).2;omega,λv b=>by have:=h.vals v b;omega⟩
def nA(n:aF)(w:J)(v:aa)(w':J):Prop:=∃K V D:ad,v=.tuple #[dd n K V D,true]/\bU (λq=>w.heap.size<=q) w' n K V D/\Ext w w'
theorem qs{B:Nat->Prop}{w:J}{n:aF}{K V D tk cQ:ad}{key val:Key}(h:bU B w n K V D)(hs:gU n)(bN:n.keys.length<=10000)(c:Src 1 w tk (az key))(G:Src 1 w cQ (az val))(aL:cz key)(bO:val.length<=24):
 aI aj 143 #[dd n K V D,tk,cQ] w (nA (g3 n key val) w):=by
 have bP:=hs.len;have bQ:n.kids.length=0:=by rw[hs.kids];rfl
 have bR:=len8 G;have bS:key.length<=24:=aL.2;refine okF (ae.qs n.leaf K V D tk cQ) ax.qs func143 ?_;(delta ae.qs z4 aT Y qb ak r1 b8 iy p_ gb kI bG aP st cX p8;dsimp only);refine a8 (vs:=[n.leaf,K,V,D]) rfl λw1 aq a9 bT=>?_;refine a8 (vs:=[false,(),(),()]) rfl λai bb ac bX=>?_;have aM:=a9.trans ac;obtain⟨bV,aU,ba,bh⟩:=bK (aq.ext ac);refine⟨n.leaf,bV,cw (λb w'=>b=false/\Ext ai w') (λq a=>⟨λp=>?_,λp=>⟨_,bV,K,aU,V,ba,D,bh,(kh (h.ext aM) I I I).use ?_⟩⟩) ?_⟩
 .rw[hs.leaf]at p;cases p
 .rintro _ au ⟨b,rfl,bc,C⟩
  have:=bc.2 (.inl hs);subst this;exact⟨true,rfl,a _ _ ⟨rfl,C⟩⟩
 rintro _ au ⟨rfl,C⟩;have ag:=aM.trans C;refine cw (λb w'=>b=false/\au=w') (λq a=>⟨λh=>(by cases h),λ_=>(oI (c.ext ag)).use ?_⟩) ?_
 .rintro _ _ ⟨rfl,rfl⟩
  exact⟨_,rfl,a _ _ ⟨by simp[aL],rfl⟩⟩
 rintro _ _ ⟨rfl,rfl⟩;obtain⟨bV,aU,ba,bh⟩:=bK (aq.ext (ac.trans C));refine⟨λp=>?_,λ_=>⟨_,bV,K,aU,V,ba,D,bh,(fB (h.ext ag) I I I hs.eK.1 hs.eK.2).use ?_⟩⟩
 .have p:decide (((cQ.len:Int):Int)>24)=true:=p
  have:=cf p;omega
 rintro _ bd ⟨l,g,aE,bF,bW,bx,rfl,r,al⟩;have aN:=ag.trans al;have bY:=aN.size;have bZ:=ag.size;have b0:=C.size;have b1:=al.size;refine⟨n.leaf,l,g,aE,rfl,a8 (vs:=[false,(),(),()]) rfl λb3 aO am b4=>⟨aO.cj rfl ?_,rfl,cN aO (us:=[n.leaf,l,g,aE]) rfl rfl λO P R b5=>?_⟩⟩
 .intro v G
  simp only[cY,fo,fy]at G;rcases G with rfl|rfl|rfl|rfl<;>trivial
 obtain⟨aR,be⟩:∃aR,aR=bd.heap.size:=⟨_,rfl⟩;rw[←be]at P R⊢;obtain⟨lo,bf⟩:∃lo,lo=au.heap.size:=⟨_,rfl⟩;rw[←bf]at r;have an:Ext w O:=Ext.cu (aN.trans am) R I;have bg:Var O w.heap.size [n.leaf,K,V,D] 169:=(((aq.ext (ac.trans C)).ext al).ext am).ah R I;have aQ:Var O w1.heap.size [false,(),(),()] 169:=(((bb.ext C).ext al).ext am).ah R I;have f:fX lo O n l g aE bF bW bx:=(r.ext am).ah R λq _ _ a e=>by
  subst e;rcases a with a|a|a
  .have:=(r.b2 _ a).2.1;omega
  .have:=(r.bv _ a).2.1;omega
  .have:=(r.aP _ a).2;omega
 obtain⟨bV,aU,ba,bh⟩:=bK bg;have bi:=qJ n.keys key;refine⟨_,bV,K,aU,V,ba,D,bh,(mo (h.ext an) (c.ext an) hs.eW I).use ?_⟩;rintro _ m ⟨rfl,ao⟩;have av:=an.trans ao;have b6:=ao.size;refine⟨_,_,rfl,λH=>?_,λH=>?_⟩
 .
  have E:=cA m;have L:=ao.trans E;have aH:cI n.keys key<n.keys.length:=by
   have:=cf H;exact(jB.1 this).1
  obtain⟨d0,d1,d2,d3⟩:=bK (P.ext L);refine aX ⟨λ_=>False,id,g,d2,(lS (B:=λq=>m.heap.size<=q) (G.ext (av.trans E)) I (λq a=>a)).use ?_⟩;rintro _ s ⟨t,rfl,ht,x,bj⟩;have T:=L.trans x;have aC:=f.ext T;have bk:=T.size;have bl:bm (Grow bW m s) s g n.vals:=bm.a_ aC.vals λk _ h=>.inl h;have y:∀k,aB g k->bW k:=λk c=>by obtain⟨ts,_,_,U,_⟩:=f.vals;exact(U k c).1
  obtain⟨A,ar,p,bn,qT,aS,aV⟩:=Hi (i:=cI n.keys key) bl (bw.a_ ht λk c h=>.inr ⟨h,c⟩) (λk W X=>by
   have:=(ht.2.2 k W).1;have:=(f.bv k (y k X)).2.1;omega) I
  refine⟨t,rfl,x,A,ar,p,bn,qT,aX ?_⟩;obtain⟨o,aW⟩:∃o,o=s.setCell (A.add (Int.toNat (cI n.keys key:Int)*1)) (hL t):=⟨_,rfl⟩;rw[←aW]at aS aV;have bo:s.setCell (A.add (Int.toNat (cI n.keys key:Int)*1)) t=o:=aW.symm;rw[bo];have Z:af (λq=>lo<=q/\q<O.heap.size/\bW q) s o:=aV.mono λk _ c=>⟨(f.bv k (y k c)).1,(f.bv k (y k c)).2.1,y k c⟩;have ap:=(P.ext T).ah Z (λe=>by
   have h1:=(r.bv _ e.2.2).2.1;omega)
  obtain⟨bp,bq,br,bs⟩:=bK ap;have bt:bU (λq=>lo<=q) o (g3 n key val) l g aE:=by
   unfold g3;rw[if_pos H];refine⟨bI.a_ (bI.ah (bm.kk aC.keys) Z λq a e=>(f.b2 q a).2.2.1 e.2.2) λq _ a=>(f.b2 q a).1,bI.a_ (bm.kk aS) λq _ a=>?_,cZ.a_ (cZ.ah (cK.qO aC.kids) Z λq a e=>(f.bv q e.2.2).2.2 a) λq _ a=>(f.aP q a).1⟩;rcases a with a|a
   .exact(f.bv q a).1
   .omega
  have bu:(g3 n key val).leaf=n.leaf:=by unfold g3;rw[if_pos H]
  refine⟨_,bp,l,bq,g,br,aE,bs,iW n.leaf l g aE ((aQ.ext T).ah Z (λe=>by have:=e.1;omega)) rfl (Q:=λb K V D ai=>nA (g3 n key val) w (.tuple #[.agg #[b,K,V,D],true]) ai) λj u=>⟨l,g,aE,by unfold dd;rw[bu],?_,?_⟩⟩
  .exact(bt.ah u λq a e=>I).a_ λq _ a=>by omega
  .exact Ext.cu (Ext.dX (an.trans T) Z λk c=>I) u I
 .
  have E:=cA m;have L:=ao.trans E;have aY:hM lo m.drew aR n l g aE bF bW bx:=by
   have M:=f.ext L;refine⟨P.ext L,M.keys,M.vals,M.kids,λq a=>?_,λq a=>?_,λq a=>?_,I⟩
   .have h1:=M.b2 q a;have:=(r.b2 q a).2.1;exact⟨h1.1,h1.2.1,I,h1.2.2⟩
   .have h1:=M.bv q a;have:=(r.bv q a).2.1;exact⟨h1.1,h1.2.1,I,h1.2.2⟩
   .have h1:=M.aP q a;have:=(r.aP q a).2;exact⟨h1.1,h1.2,I⟩
  obtain⟨d0,d1,d2,d3⟩:=bK aY.v;refine aX ⟨λ_=>False,id,l,d1,(lS (B:=λq=>m.heap.size<=q) (c.ext (av.trans E)) I (λq a=>a)).use ?_⟩;rintro _ s ⟨t,rfl,ht,x,bj⟩;have bk:m.heap.size<=s.heap.size:=(E.trans x).size;have aD:∀k,aB l k->bF k:=λk c=>by obtain⟨ts,_,_,U,_⟩:=f.keys;exact(U k c).1
  have y:∀k,aB g k->bW k:=λk c=>by obtain⟨ts,_,_,U,_⟩:=f.vals;exact(U k c).1
  have d:=aY.ext x;refine⟨t,rfl,x,aX ⟨dc _ _,(B_ (B:=Grow bF m s) (i:=cI n.keys key) (bm.a_ d.keys λk _ h=>.inl h) (bw.a_ ht λk c h=>.inr ⟨h,c⟩) (λk W X=>by
   have:=(ht.2.2 k W).1;have:=(f.b2 k (aD k X)).2.1;omega) I bi).use ?_⟩⟩
  rintro _ o ⟨S,rfl,bz,aZ⟩;have b7:=aZ.size;have aa:af (λq=>lo<=q/\bF q) s o:=aZ.mono λk _ c=>⟨(f.b2 k (aD k c)).1,aD k c⟩;have ap:=d.v.ah aa λe=>(d.b2 _ e.2).2.2.1 rfl;obtain⟨s1,s2⟩:=eB ap (i:=1) (by simp);refine⟨S,rfl,?_⟩;rw[aA,aA];refine⟨s1,s2,aX (aX ?_)⟩;obtain⟨j,aG⟩:∃j,j=(o.setCell ⟨aR,0+1,none⟩ S).drew:=⟨_,rfl⟩;rw[←aG];have u:af (λq=>q=aR) o j:=by rw[aG];exact af.drew (dZ _ _ _ _)
  have a0:Var j aR [n.leaf,S,g,aE] 169:=by rw[aG];exact(eA ap _).drew
  have b9:=u.size;have b_:aR<m.heap.size:=by have:=P.lt;omega
  have bA:bm (λq=>bF q\/(m.heap.size<=q/\q<o.heap.size)) j S (n.keys.take (cI n.keys key)++ [key]++n.keys.drop (cI n.keys key)):=by
   refine bm.ah (bm.a_ bz λk _ c=>?_) u λk c e=>?_
   .rcases c with (c|c)|c
    .exact .inl c
    .exact .inr ⟨c.1,I⟩
    .exact .inr ⟨I,c.2⟩
   .subst e
    rcases c with c|c
    .exact(d.b2 _ c).2.2.1 rfl
    .omega
  have bB:bm bW j g n.vals:=bm.ah (bm.ah d.vals aa λq a e=>(d.b2 q e.2).2.2.2.1 a) u λq a e=>(d.bv q a).2.2.1 e;have bC:cK bx j aE n.kids:=cK.ah (cK.ah d.kids aa λq a e=>(d.b2 q e.2).2.2.2.2 a) u λq a e=>(d.aP q a).2.2 e;have a1:Ext w j:=Ext.dX (Ext.dX ((av.trans E).trans x) aa λk c=>I) u λk c=>by omega
  obtain⟨f0,f1,f2,f3⟩:=bK a0;rw[aA]at f2;refine⟨λ_=>False,id,g,f2,(lS (B:=λq=>j.heap.size<=q) (G.ext a1) I (λq a=>a)).use ?_⟩;rintro _ a2 ⟨t2,rfl,a3,z,ca⟩;have cb:=z.size;refine⟨t2,rfl,z,aX ⟨dc _ _,(B_ (B:=Grow bW j a2) (i:=cI n.keys key) (bm.a_ (bm.ext bB z) λk _ h=>.inl h) (bw.a_ a3 λk c h=>.inr ⟨h,c⟩) (λk W X=>by
   have:=(a3.2.2 k W).1;have:=(f.bv k (y k X)).2.1;omega) I I).use ?_⟩⟩
  rintro _ aJ ⟨dn,rfl,bD,a4⟩;have cc:=a4.size;have ab:af (λq=>lo<=q/\bW q) a2 aJ:=a4.mono λk _ c=>⟨(f.bv k (y k c)).1,y k c⟩;have a5:=(a0.ext z).ah ab λe=>(d.bv _ e.2).2.2.1 rfl;obtain⟨s1,s2⟩:=eB a5 (i:=2) (by simp);refine⟨dn,rfl,?_⟩;rw[aA,aA];refine⟨s1,s2,aX ?_⟩;obtain⟨F,aK⟩:∃F,F=aJ.setCell ⟨aR,0+2,none⟩ dn:=⟨_,rfl⟩;rw[←aK];have N:af (λq=>q=aR) aJ F:=by rw[aK];exact dZ _ _ _ _
  have bE:Var F aR [n.leaf,S,dn,aE] 169:=by rw[aK];exact eA a5 _
  have cd:=N.size;obtain⟨sI,aw,ay,a6⟩:=bK bE;rw[aA]at aw ay a6;have bH:bU (λq=>lo<=q) F (g3 n key val) S dn aE:=by
   unfold g3;rw[if_neg (by rw[H];simp)];refine⟨?_,?_,?_⟩
   .refine bI.a_ (bm.kk (bm.ah (bm.ah (bm.ext bA z) ab λq a e=>?_) N λq a e=>?_)) λq _ a=>?_
    .rcases a with a|a
     .exact(d.b2 q a).2.2.2.1 e.2
     .have:=(f.bv q e.2).2.1;omega
    .subst e
     rcases a with a|a
     .exact(d.b2 _ a).2.2.1 rfl
     .omega
    .rcases a with a|a
     .exact(d.b2 q a).1
     .omega
   .refine bI.a_ (bm.kk (bm.ah bD N λq a e=>?_)) λq _ a=>?_
    .subst e
     rcases a with (a|a)|a
     .exact(d.bv _ a).2.2.1 rfl
     .omega
     .omega
    .rcases a with (a|a)|a
     .exact(d.bv q a).1
     .omega
     .omega
   .exact cZ.a_ (cK.qO (cK.ah (cK.ah (cK.ext bC z) ab λq a e=>(d.bv q e.2).2.2.2 a) N λq a e=>(d.aP q a).2.2 e)) λq _ a=>(d.aP q a).1
  have bJ:(g3 n key val).leaf=n.leaf:=by unfold g3;rw[if_neg (by rw[H];simp)]
  have bL:Ext w F:=Ext.dX (Ext.dX (a1.trans z) ab λk c=>I) N λk c=>by omega
  have bM:Var F w1.heap.size [false,(),(),()] 169:=by
   have h1:=aQ.ext (L.trans x);have h2:=(h1.ah aa (λe=>by have:=e.1;omega)).ah u I;exact((h2.ext z).ah ab (λe=>by have:=e.1;omega)).ah N I
  rw[aA,aA];refine⟨_,sI,S,aw,dn,ay,aE,a6,?_⟩;have:=iW n.leaf S dn aE bM rfl (Q:=λb K V D ai=>nA (g3 n key val) w (.tuple #[.agg #[b,K,V,D],true]) ai) λce a7=>⟨S,dn,aE,by unfold dd;rw[bJ],(bH.ah a7 λq a e=>I).a_ λq _ a=>I,Ext.cu bL a7 I⟩;simpa only[aA] using this
def qU(n:aF)(key:Key)(w:J)(v:aa)(w':J):Prop:=
 if g2 n.keys key then nA (lT n key) w v w' else v=.tuple #[dd iV bJ bJ bJ,false]/\Ext w w'
theorem qp{B:Nat->Prop}{w:J}{n:aF}{K V D tk:ad}{key:Key}(h:bU B w n K V D)(hs:gU n)(a4:n.keys.length<=10000)(d:Src 1 w tk (az key)):
 aI aj 130 #[dd n K V D,tk] w (qU n key w):=by
 have a5:=hs.len;have a6:n.kids.length=0:=by rw[hs.kids];rfl
 refine okF (ae.qp n.leaf K V D tk) ax.qp func130 ?_;(delta ae.qp z4 aT Y r1 kI qb ak b8 iy p_ gb bG aq st cX p8;dsimp only);refine a8 (vs:=[n.leaf,K,V,D]) rfl λw1 E ar a7=>?_;refine a8 (vs:=[false,(),(),()]) rfl λai au A a9=>?_;have F:=ar.trans A;obtain⟨bV,aU,ba,bh⟩:=bK (E.ext A);refine⟨_,bV,K,aU,V,ba,D,bh,(mo (h.ext F) (d.ext F) hs.eW I).use ?_⟩;rintro _ av ⟨rfl,s⟩;have T:=F.trans s;obtain⟨bV,aU,ba,bh⟩:=bK (E.ext (A.trans s));refine⟨_,_,rfl,n.leaf,bV,cw (λb w'=>b=false/\Ext av w') (λq a=>⟨λf=>?_,λf=>⟨_,bV,K,aU,V,ba,D,bh,(kh (h.ext T) I I I).use ?_⟩⟩) ?_⟩
 .rw[hs.leaf]at f;cases f
 .rintro _ U ⟨b,rfl,aC,o⟩
  have:=aC.2 (.inl hs);subst this;exact⟨true,rfl,a _ _ ⟨rfl,o⟩⟩
 rintro _ U ⟨rfl,o⟩;have G:=T.trans o;have bb:=o.size;have bc:=s.size;have W:=au.ext (s.trans o);refine⟨λf=>?_,λf=>?_⟩
 .have f:g2 n.keys key=false:=by simpa using f
  refine iW false bJ bJ bJ W rfl (Q:=λb K V D ai=>qU n key w (.tuple #[.agg #[b,K,V,D],false]) ai) λX aD=>?_;unfold qU;rw[if_neg (by rw[f];simp)];exact⟨rfl,Ext.cu G aD I⟩
 have Z:g2 n.keys key=true:=by simpa using f
 have aH:cI n.keys key<n.keys.length:=(jB.1 (cf Z)).1;obtain⟨bV,aU,ba,bh⟩:=bK (E.ext (A.trans (s.trans o)));refine⟨_,bV,K,aU,V,ba,D,bh,(fB (h.ext G) I I I hs.eK.1 hs.eK.2).use ?_⟩;rintro _ X ⟨p,g,aE,bF,bW,bx,rfl,j,H⟩;have aG:=G.trans H;have bd:=H.size;refine⟨n.leaf,p,g,aE,rfl,a8 (vs:=[false,(),(),()]) rfl λbe aa L bf=>⟨aa.cj rfl ?_,rfl,cN aa (us:=[n.leaf,p,g,aE]) rfl rfl λt ab C bg=>?_⟩⟩
 .intro v ac
  simp only[cY,fo,fy]at ac;rcases ac with rfl|rfl|rfl|rfl<;>trivial
 obtain⟨aR,aJ⟩:∃aR,aR=X.heap.size:=⟨_,rfl⟩;rw[←aJ]at ab C⊢;obtain⟨lo,aK⟩:∃lo,lo=U.heap.size:=⟨_,rfl⟩;rw[←aK]at j;have aL:Ext w t:=Ext.cu (aG.trans L) C I;have aM:Var t w1.heap.size [false,(),(),()] 169:=((W.ext H).ext L).ah C I;have c:hM lo t aR n p g aE bF bW bx:=by
  have r:fX lo t n p g aE bF bW bx:=(j.ext L).ah C λq _ _ a e=>by
   subst e;rcases a with a|a|a
   .have:=(j.b2 _ a).2.1;omega
   .have:=(j.bv _ a).2.1;omega
   .have:=(j.aP _ a).2;omega
  refine⟨ab,r.keys,r.vals,r.kids,λq a=>?_,λq a=>?_,λq a=>?_,I⟩
  .have h1:=r.b2 q a;have:=(j.b2 q a).2.1;exact⟨h1.1,h1.2.1,I,h1.2.2⟩
  .have h1:=r.bv q a;have:=(j.bv q a).2.1;exact⟨h1.1,h1.2.1,I,h1.2.2⟩
  .have h1:=r.aP q a;have:=(j.aP q a).2;exact⟨h1.1,h1.2,I⟩
 have ag:∀k,aB p k->bF k:=λk d=>by obtain⟨ts,_,_,M,_⟩:=c.keys;exact(M k d).1
 have al:∀k,aB g k->bW k:=λk d=>by obtain⟨ts,_,_,M,_⟩:=c.vals;exact(M k d).1
 obtain⟨d0,d1,d2,d3⟩:=bK c.v;have bi:=c.v.lt;rw[br (n:=((cI n.keys key:Nat):Int)+1) I I];refine⟨p,d1,(Ca c.keys I aH).use ?_⟩;rintro _ N ⟨S,rfl,aN,aO⟩;have u:af (λq=>lo<=q/\bF q) t N:=aO.mono λk _ d=>⟨(c.b2 k (ag k d)).1,ag k d⟩;have am:=c.v.ah u λe=>(c.b2 _ e.2).2.2.1 rfl;obtain⟨s1,s2⟩:=eB am (i:=1) (by simp);refine⟨S,rfl,?_⟩;rw[aA,aA];refine⟨s1,s2,aX ?_⟩;obtain⟨l,O⟩:∃l,l=N.setCell ⟨aR,0+1,none⟩ S:=⟨_,rfl⟩;rw[←O];have x:af (λq=>q=aR) N l:=by rw[O];exact dZ _ _ _ _
 have an:Var l aR [n.leaf,S,g,aE] 169:=by rw[O];exact eA am _
 have aQ:bm bF l S (n.keys.take (cI n.keys key)++n.keys.drop (cI n.keys key+1)):=bm.ah aN x λq a e=>(c.b2 q a).2.2.1 e;have aS:bm bW l g n.vals:=bm.ah (bm.ah c.vals u λq a e=>(c.b2 q e.2).2.2.2.1 a) x λq a e=>(c.bv q a).2.2.1 e;have aV:cK bx l aE n.kids:=cK.ah (cK.ah c.kids u λq a e=>(c.b2 q e.2).2.2.2.2 a) x λq a e=>(c.aP q a).2.2 e;obtain⟨f0,f1,f2,f3⟩:=bK an;rw[aA]at f2;refine⟨g,f2,(Ca aS I I).use ?_⟩;rintro _ P ⟨dn,rfl,aW,aY⟩;have y:af (λq=>lo<=q/\bW q) l P:=aY.mono λk _ d=>⟨(c.bv k (al k d)).1,al k d⟩;have ao:=an.ah y λe=>(c.bv _ e.2).2.2.1 rfl;obtain⟨s1,s2⟩:=eB ao (i:=2) (by simp);refine⟨dn,rfl,?_⟩;rw[aA,aA];refine⟨s1,s2,aX ?_⟩;obtain⟨m,R⟩:∃m,m=P.setCell ⟨aR,0+2,none⟩ dn:=⟨_,rfl⟩;rw[←R];have z:af (λq=>q=aR) P m:=by rw[R];exact dZ _ _ _ _
 have aZ:Var m aR [n.leaf,S,dn,aE] 169:=by rw[R];exact eA ao _
 obtain⟨sI,aw,ay,a0⟩:=bK aZ;have a1:bU (λq=>lo<=q) m (lT n key) S dn aE:=by
  refine⟨?_,?_,?_⟩
  .exact bI.a_ (bm.kk (bm.ah (bm.ah aQ y λq a e=>(c.b2 q a).2.2.2.1 e.2) z λq a e=>(c.b2 q a).2.2.1 e)) λq _ a=>(c.b2 q a).1
  .exact bI.a_ (bm.kk (bm.ah aW z λq a e=>(c.bv q a).2.2.1 e)) λq _ a=>(c.bv q a).1
  .exact cZ.a_ (cK.qO (cK.ah (cK.ah aV y λq a e=>(c.bv q e.2).2.2.2 a) z λq a e=>(c.aP q a).2.2 e)) λq _ a=>(c.aP q a).1
 have a2:Ext w m:=Ext.dX (Ext.dX (Ext.dX (Ext.dX aL u λk d=>I) x λk d=>I) y λk d=>I) z λk d=>by omega
 have a3:Var m w1.heap.size [false,(),(),()] 169:=
  (((aM.ah u (λe=>by have:=e.1;omega)).ah x I).ah y (λe=>by have:=e.1;omega)).ah z I
 refine⟨_,sI,S,aw,dn,ay,aE,a0,iW n.leaf S dn aE a3 rfl (Q:=λb K V D ai=>qU n key w (.tuple #[.agg #[b,K,V,D],true]) ai) λbj ap=>?_⟩;unfold qU;rw[if_pos Z];exact⟨S,dn,aE,rfl,(a1.ah ap λq a e=>I).a_ λq _ a=>I,Ext.cu a2 ap I⟩
theorem yJ{n:aF}(hs:cE n)(m:Nat):((cellsOf n).take m).sum<=100*n.keys.length:=by
 have h1:((cellsOf n).take m).sum<=(cellsOf n).sum:=by
  have:=yf (cellsOf n) m;omega
 have h2:=yn hs n.keys.length (bl _);rw[dO (by rw[qM hs];exact bl _)]at h2;have a:=yv hs n.keys.length (bl _);omega
theorem nm{B:Nat->Prop}{w:J}{n:aF}{K V D:ad}(h:bU B w n K V D)(hs:cE n)(G:n.keys.length<=10000){most:Nat}(H:most<=n.keys.length):
 aI aj 282 #[dd n K V D,most] w (λv w'=>v=.int .i64 ((gq (cellsOf n) most:Nat):Int)/\Ext w w'):=by
 refine okF (ae.nm n.leaf K V D (most:Int)) ax.nm func282 ?_;(delta ae.nm r1 Y ak aT bG aq;dsimp only);refine a8 (vs:=[n.leaf,K,V,D]) rfl λw1 o d _=>?_;obtain⟨bV,aU,ba,bh⟩:=bK o;have L:=bI.len h.keys;have M:=qM hs;have x:∀ (j:Nat) (f:j<(cellsOf n).length),(cellsOf n)[j]=(gA n j).length:=λj f=>by
  have h1:=ym hs (i:=j) I;rw[dH f]at h1;exact Option.some.inj h1
 refine⟨K,aU,λa i w'=>∃j:Nat,i=j/\j<=n.keys.length/\a=((((cellsOf n).take j).sum:Nat):Int)/\Ext w1 w',λ_ i _=>((n.keys.length:Int)-i).toNat,⟨0,rfl,cP _,by simp,.refl _ _⟩,?_⟩;rintro _ _ ai ⟨j,rfl,f,rfl,g⟩;obtain⟨d0,d1,d2,d3⟩:=bK (o.ext g);refine⟨λaH=>?_,λb=>?_⟩
 .have aH:j<n.keys.length:=by have:=cf aH;omega
  refine⟨_,d0,K,d1,V,d2,D,d3,(nk (h.ext (d.trans g)) hs aH I).use ?_⟩;rintro _ N ⟨s,rfl,p,A,_⟩;have q:=lR p;have C:=yJ hs j;have hc:=vY hs aH;have e:=qI (l:=cellsOf n) (i:=j) I;rw[x j I]at e;refine⟨s,rfl,?_⟩;rw[q,br (n:=((((cellsOf n).take j).sum:Nat):Int)+(((gA n j).length:Nat):Int)) I I,br (n:=(j:Int)+1) I I];refine⟨⟨j+1,I,I,I,g.trans A⟩,?_⟩;show((n.keys.length:Int)-((j:Int)+1)).toNat<((n.keys.length:Int)-(j:Int)).toNat;omega
 have b:j=n.keys.length:=by have:=cC b;omega
 subst b;rw[dO (l:=cellsOf n) I];refine⟨λa i w'=>∃j:Nat,i=j/\j<=most/\a=((((cellsOf n).take j).sum:Nat):Int)/\Ext w1 w'/\∀k,k<j->2*((cellsOf n).take (k+1)).sum<(cellsOf n).sum,λ_ i _=>((most:Int)-i).toNat,⟨0,rfl,cP _,by simp,g,λk E=>I⟩,?_⟩;rintro _ _ O ⟨j,rfl,f,rfl,c,r⟩;obtain⟨d0,d1,d2,d3⟩:=bK (o.ext c);have F:=yJ hs (cellsOf n).length;rw[j3]at F;refine⟨λaH=>?_,λb=>?_⟩
 .have aH:j<most:=by have:=cf aH;omega
  refine⟨_,d0,K,d1,V,d2,D,d3,(nk (h.ext (d.trans c)) hs I I).use ?_⟩;rintro _ P ⟨s,rfl,p,y,_⟩;have q:=lR p;have C:=yJ hs j;have hc:=vY hs (i:=j) I;have e:=qI (l:=cellsOf n) (i:=j) I;rw[x j I]at e;refine⟨s,rfl,?_⟩;rw[q,br (n:=((((cellsOf n).take j).sum:Nat):Int)+(((gA n j).length:Nat):Int)) I I,br (n:=2*(((((cellsOf n).take j).sum:Nat):Int)+(((gA n j).length:Nat):Int))) I I,br (n:=(j:Int)+1) I I];refine⟨λhd=>⟨?_,d.trans (c.trans y)⟩,λhd=>⟨⟨j+1,I,I,I,c.trans y,λk E=>?_⟩,?_⟩⟩
  .have hd:=cf hd
   have t:(List.range most).find? (λi=>decide ((cellsOf n).sum<=2*((cellsOf n).take (i+1)).sum))=some j:=by
    have:=ff aH (bl most);rw[List.find?_eq_some_iff_append];refine⟨dI I,List.range j,List.range' (j+1) (most-(j+1)),?_,λa u=>?_⟩
    .have z:=List.range'_append (s:=0) (m:=j) (n:=most-(j+1)+1) (step:=1)
     rw[s7,s7,←List.range'_succ];rw[Nat.one_mul,cT]at z;rw[z]
     congr 1
     omega
    .have:=r a (jZ.1 u)
     simp;omega
   unfold gq;rw[t];rfl
  .have hd:=cC hd
   rcases ei k j with h1|h1
   .exact r k h1
   .have:k=j:=by omega
    subst this;omega
  .show((most:Int)-((j:Int)+1)).toNat<((most:Int)-(j:Int)).toNat
   omega
 .have b:j=most:=by have:=cC b;omega
  subst b;refine⟨?_,d.trans c⟩;have t:(List.range j).find? (λi=>decide ((cellsOf n).sum<=2*((cellsOf n).take (i+1)).sum))=none:=by
   rw[jE];intro a u;have:=r a (jZ.1 u);simp;omega
  unfold gq;rw[t]
theorem bI.sub{B:Nat->Prop}{w:J}{s:ad}{ls:O Key}{lo hi:Nat}(h:bI B w s ls)(h1:lo<=hi)(h2:hi<=ls.length):bI B w ⟨aY s.a 1 lo s.cap,hi-lo,s.cap-lo⟩ ((ls.drop lo).take (hi-lo)):=by
 have l:=bI.len h;obtain⟨ts,aw,ay,b,c,d⟩:=h;refine⟨(ts.drop lo).take (hi-lo),by simp[aw],?_,by show hi-lo<=s.cap-lo;omega,λk e=>?_,λi f g=>?_⟩
 .have:=Src.sub ay b h1 I
  simpa[l5,l6] using this
 .obtain⟨A,ar,j⟩:=v7 e
  exact c k ⟨A,ar,j⟩
 .simp only[mW,rn]
  rw[cG,ed]at f g;exact d (lo+i) I I
theorem bI.le{B:Nat->Prop}{w:J}{s:ad}{ls:O Key}(h:bI B w s ls):s.len<=s.cap:=by
 obtain⟨ts,_,_,a,_⟩:=h;exact a
theorem cZ.sub{B:Nat->Prop}{w:J}{s:ad}{ds:O Nat}{lo hi:Nat}(h:cZ B w s ds)(h1:lo<=hi)(h2:hi<=ds.length):cZ B w ⟨aY s.a 1 lo s.cap,hi-lo,s.cap-lo⟩ ((ds.drop lo).take (hi-lo)):=by
 have f:=cZ.len h;obtain⟨ay,b,c⟩:=h;have g:s.len<=s.cap:=b;refine⟨?_,by show hi-lo<=s.cap-lo;omega,λk d=>?_⟩
 .have:=Src.sub ay b h1 I
  simpa[fS,l5,l6] using this
 .obtain⟨A,ar,e⟩:=v7 d
  exact c k ⟨A,ar,e⟩
theorem pb(b:al)(K V D:ad):∀v∈([b,K,V,D]:O aa),Plain v:=by
 intro v a;simp only[cY,fo,fy]at a;rcases a with rfl|rfl|rfl|rfl<;>trivial
theorem Cb{c:J}{r1 aG:Nat}{yK yL:O aa}{cy b4:al}{fj fY bH dD d_ c3:ad}(h1:Var c r1 yK 169)(h2:Var c aG yL 169)(n:yK.length=4)(o:yL.length=4)(p:r1≠aG){W:Nat->Prop}(cx:∀q,q=r1->W q)
 {Q:al->ad->ad->ad->al->ad->ad->ad->J->Prop} (v:∀b,af (λq=>q=r1\/q=aG) c b->Q cy fj fY bH b4 dD d_ c3 b):
 bD c r1 [cy,fj,fY,bH]/\(4:Nat)=4/\an (setCells c r1 0 [cy,fj,fY,bH]) λd=>
  af W c d/\bD d aG [b4,dD,d_,c3]/\(4:Nat)=4/\an (setCells d aG 0 [b4,dD,d_,c3]) λb=>
  ∃r:al,b.cell? r1=some (.bool r)/\∃f:ad,b.cell? (Addr.add r1 1)=some (.slice f.a f.len f.cap)/\∃g:ad,b.cell? (Addr.add r1 2)=some (.slice g.a g.len g.cap)/\∃i:ad,b.cell? (Addr.add r1 3)=some (.slice i.a i.len i.cap)/\
  ∃s:al,b.cell? aG=some (.bool s)/\∃j:ad,b.cell? (Addr.add aG 1)=some (.slice j.a j.len j.cap)/\∃k:ad,b.cell? (Addr.add aG 2)=some (.slice k.a k.len k.cap)/\∃l:ad,b.cell? (Addr.add aG 3)=some (.slice l.a l.len l.cap)/\Q r f g i s j k l b:=by
 refine⟨h1.cj (by rw[n];rfl) (pb _ _ _ _),rfl,cN h1 (us:=[cy,fj,fY,bH]) (by rw[n];rfl) rfl λd w m _=>?_⟩;have t:=h2.ah m (λe=>p e.symm);refine⟨m.mono λq _ h=>cx q h,t.cj (by rw[o];rfl) (pb _ _ _ _),rfl,cN t (us:=[b4,dD,d_,c3]) (by rw[o];rfl) rfl λb x u _=>?_⟩;obtain⟨bV,aU,ba,bh⟩:=bK (w.ah u p);obtain⟨d0,d1,d2,d3⟩:=bK x;exact⟨cy,bV,fj,aU,fY,ba,bH,bh,b4,d0,dD,d1,d_,d2,c3,d3,v b ((m.mono λq _ h=>.inl h).trans (u.mono λq _ h=>.inr h))⟩
def wa(n:aF)(w:J)(v:aa)(w':J):Prop:=
 ∃ (fj fY bH dD d_ c3 t:ad),v=.tuple #[dd (n.left (cr n)) fj fY bH,t,dd (n.right (cr n)) dD d_ c3,true]/\
  bU (λq=>w.heap.size<=q) w' (n.left (cr n)) fj fY bH/\bU (λq=>w.heap.size<=q) w' (n.right (cr n)) dD d_ c3/\bw (λq=>w.heap.size<=q) w' t (n.keys.getD (cr n) [])/\Ext w w'
theorem qC{B:Nat->Prop}{w:J}{n:aF}{K V D:ad}(h:bU B w n K V D)(hs:cE n)(av:n.keys.length<=10000)(dS:1<=cr n)
 (z:if n.leaf then cr n<=n.keys.length-1/\1<=n.keys.length-1 else cr n<=n.keys.length-2/\1<=n.keys.length-2):
 aI aj 281 #[dd n K V D] w (wa n w):=by
 have bR:n.vals.length<=10000:=by
  rcases hs with hs|hs
  .rw[hs.len];omega
  .rw[hs.vals];simp
 have bS:n.kids.length<=10001:=by
  rcases hs with hs|hs
  .rw[hs.kids];simp
  .rw[hs.len];omega
 have Z:∀k∈n.keys,k.length<=100000:=λk l=>by have:=(hs.keys.ok k l).2;omega
 have am:∀k∈n.vals,k.length<=100000:=λk l=>by have:=hs.vals k l;omega
 have bT:=bI.len h.keys;obtain⟨most,ac⟩:∃most,most=if n.leaf then n.keys.length-1 else n.keys.length-2:=⟨_,rfl⟩
 have an:1<=most/\most<=n.keys.length/\cr n<=most:=by
  rw[ac]
  cases s:n.leaf<;>rw[s]at z<;>simp at z⊢<;>omega
 have ao:cr n<n.keys.length:=by
  cases s:n.leaf<;>rw[s]at z<;>simp at z<;>omega
 refine okF (ae.qC n.leaf K V D) ax.qC func281 ?_;(delta ae.qC z4 r1 Y aT ak aq b8 gb bX ug aP bG xQ xM jL xR xL;dsimp only);refine a8 (vs:=[n.leaf,K,V,D]) rfl λw1 aW bb bY=>?_;refine a8 (vs:=[false,(),(),()]) rfl λai bc aw bZ=>?_;refine a8 (vs:=[false,(),(),()]) rfl λbd be ap b0=>?_;have aZ:=bb.trans (aw.trans ap);obtain⟨bV,aU,ba,bh⟩:=bK ((aW.ext aw).ext ap);refine⟨K,aU,cw (λm w'=>m=(most:Int)/\bd=w') (λq f=>⟨n.leaf,bV,λH=>f _ _ ⟨?_,rfl⟩,λH=>f _ _ ⟨?_,rfl⟩⟩) ?_⟩
 .have H:n.leaf=false:=by simpa using H
  rw[H]at z ac;simp at z ac;rw[br (n:=(K.len:Int)-1) I I,br I I];omega
 .have H:n.leaf=true:=by simpa using H
  rw[H]at z ac;simp at z ac;rw[br I I];omega
 rintro _ _ ⟨rfl,rfl⟩;refine⟨_,bV,K,aU,V,ba,D,bh,(kh (h.ext aZ) I I I).use ?_⟩;rintro _ u ⟨b,rfl,H,ag⟩;have bf:=H.2 hs;subst bf;have al:=cA u;have R:=aZ.trans (ag.trans al);have au:=((aW.ext aw).ext ap).ext (ag.trans al);have ay:=(bc.ext ap).ext (ag.trans al);have az:=be.ext (ag.trans al);have b1:=(ag.trans al).size;obtain⟨bV,aU,ba,bh⟩:=bK au;have b3:u.drew.heap.size=u.heap.size:=rfl;have fin:∀ (g aC:J) (aR:Nat) (c d aE:ad) (bF bW bx:Nat->Prop),Ext w g->u.heap.size<=aR/\u.heap.size<=g.heap.size->Var g aR [n.leaf,c,d,aE] 169->fX u.heap.size g n c d aE bF bW bx->Var g w.heap.size [n.leaf,K,V,D] 169->Var g w1.heap.size [false,(),(),()] 169->Var g ai.heap.size [false,(),(),()] 169->aC.heap.size=aR->ae.Bi w w1 ai aC ((gq (cellsOf n) most:Nat):Int) g (wa n w):=λg aC aR c d aE bF bW bx C ⟨L,b5⟩ E M S T U bg=>by
  have bi:gq (cellsOf n) most=cr n:=by unfold cr;rw[ac]
  rw[bi];(delta ae.Bi ug r1 Y aP bG aT ak xQ xM jL gb aq xR xL ou;dsimp only);rw[bg];obtain⟨i,hi⟩:∃i,i=cr n:=⟨_,rfl⟩;rw[←hi]at ao an dS;rw[←hi];obtain⟨a0,a1,bj,bk⟩:=bK S;obtain⟨A,t,ar,bl,hc,ht,_⟩:=bI.at (h.ext C).keys ao;refine⟨K,a1,A,ar,bl,t,hc,(lS (B:=λq=>w.heap.size<=q) ht.1 (by have:=Z _ (cL ao);omega) (λq f=>eE C.size f)).use ?_⟩;rintro _ F ⟨tk,rfl,a2,aD,a3⟩;have aG:=cA F;obtain⟨a0,a1,bj,bk⟩:=bK (S.ext aD);have G:=aD.trans aG;obtain⟨f0,f1,f2,f3⟩:=bK (E.ext G);have x:=M.at.ext G;have b6:=bI.len x.keys;have b7:=bI.len x.vals;have b9:=cZ.len x.kids;have b_:=bI.le (bm.kk M.keys);have ca:=bI.le (bm.kk M.vals);have cb:aE.len<=aE.cap:=x.kids.2.1;have cc:g.heap.size<=F.heap.size:=aD.size;have a4:n.keys.getD i []=n.keys[i]:=fC ao;refine⟨tk,rfl,n.leaf,a0,λs=>aX ⟨λq=>q=w1.heap.size,λe=>?_,c,f1,⟨I,I⟩,λe=>?_,d,f2,⟨I,?_⟩,#[true,.slice (aY c.a 1 0 c.cap) i c.cap,.slice (aY d.a 1 0 d.cap) i d.cap,()],(λw=>by kernel_rfl),λe=>?_,c,f1,⟨I,I⟩,λe=>?_,d,f2,⟨I,?_⟩,#[true,.slice (aY c.a 1 i c.cap) (c.len-i) (c.cap-i),.slice (aY d.a 1 i d.cap) (d.len-i) (d.cap-i),()],(λw=>by kernel_rfl),?_⟩,λs=>?_⟩
  .rw[aA]at e;have e:aR=w1.heap.size:=e;omega
  .rw[aA]at e;have e:aR=w1.heap.size:=e;omega
  .have:=hs.sF s;omega
  .rw[aA]at e;have e:aR=w1.heap.size:=e;omega
  .rw[aA]at e;have e:aR=w1.heap.size:=e;omega
  .have:=hs.sF s;omega
  .have bn:=hs.sF s
   have cU:n.left i=⟨true,n.keys.take i,n.vals.take i,[]⟩:=by unfold aF.left;rw[s];rfl
   have o:n.right i=⟨true,n.keys.drop i,n.vals.drop i,[]⟩:=by unfold aF.right;rw[s];rfl
   have aH:bU (λq=>u.heap.size<=q) F.drew (n.left i) ⟨aY c.a 1 0 c.cap,i,c.cap⟩ ⟨aY d.a 1 0 d.cap,i,d.cap⟩ bJ:=by
    rw[cU];refine⟨?_,?_,cZ.none _ _⟩
    .have:=bI.sub x.keys (lo:=0) (hi:=i) I I
     simpa using this
    .have:=bI.sub x.vals (lo:=0) (hi:=i) I I
     simpa using this
   have aJ:bU (λq=>u.heap.size<=q) F.drew (n.right i) ⟨aY c.a 1 i c.cap,c.len-i,c.cap-i⟩ ⟨aY d.a 1 i d.cap,d.len-i,d.cap-i⟩ bJ:=by
    rw[o];refine⟨?_,?_,cZ.none _ _⟩
    .have:=bI.sub x.keys (lo:=i) (hi:=c.len) I I
     rwa[dO (by rw[ed];omega)]at this
    .have:=bI.sub x.vals (lo:=i) (hi:=d.len) I I
     rwa[dO (by rw[ed];omega)]at this
   have aK:=fB aH (by rw[cU];show(n.keys.take i).length<=_;rw[cG];omega) (by rw[cU];show(n.vals.take i).length<=_;rw[cG];omega) (by rw[cU];simp) (by rw[cU];exact λk l=>Z k (fM l)) (by rw[cU];exact λk l=>am k (fM l));have aL:(.agg #[true,.slice (aY c.a 1 0 c.cap) i c.cap,.slice (aY d.a 1 0 d.cap) i d.cap,()]:aa)=dd (n.left i) ⟨aY c.a 1 0 c.cap,i,c.cap⟩ ⟨aY d.a 1 0 d.cap,i,d.cap⟩ bJ:=by rw[cU];rfl
   have aM:(.agg #[true,.slice (aY c.a 1 i c.cap) (c.len-i) (c.cap-i),.slice (aY d.a 1 i d.cap) (d.len-i) (d.cap-i),()]:aa)=dd (n.right i) ⟨aY c.a 1 i c.cap,c.len-i,c.cap-i⟩ ⟨aY d.a 1 i d.cap,d.len-i,d.cap-i⟩ bJ:=by rw[o];rfl
   rw[aL,aM];refine aK.use ?_;rintro _ bo ⟨fj,fY,bH,bp,bq,bs,rfl,aN,N⟩;have aO:=fB (aJ.ext N) (by rw[o];show(n.keys.drop i).length<=_;rw[ed];omega) (by rw[o];show(n.vals.drop i).length<=_;rw[ed];omega) (by rw[o];simp) (by rw[o];exact λk l=>Z k (fJ l)) (by rw[o];exact λk l=>am k (fJ l));refine⟨_,fj,fY,bH,rfl,af.cW N,aO.use ?_⟩;rintro _ bt ⟨dD,d_,c3,bu,bz,bA,rfl,aQ,ab⟩;have O:=N.trans ab;have bB:=N.size;have bC:=G.size;refine⟨_,dD,d_,c3,rfl,af.cW ab,Cb (cy:=(n.left i).leaf) (b4:=(n.right i).leaf) (fj:=fj) (fY:=fY) (bH:=bH) (dD:=dD) (d_:=d_) (c3:=c3) ((T.ext G).ext O) ((U.ext G).ext O) rfl rfl I (λq f=>f) (Q:=λcy fj fY bH b4 dD d_ c3 w'=>wa n w (.tuple #[.agg #[cy,fj,fY,bH],tk,.agg #[b4,dD,d_,c3],true]) w') λbD P=>?_⟩;have bE:F.drew.heap.size=F.heap.size:=rfl;refine⟨fj,fY,bH,dD,d_,c3,tk,by rw[←hi];rfl,?_,?_,?_,?_⟩
   .rw[←hi];exact((aN.at.ext ab).ah P λq f e=>I).a_ λq _ f=>by omega
   .rw[←hi];exact(aQ.at.ah P λq f e=>I).a_ λq _ f=>by omega
   .rw[←hi,a4]
    have aS:∀q,aB tk q->g.heap.size<=q:=a3;exact bw.kK (bw.ext (bw.ext a2 aG) O) P λq f e=>by have:=aS q f;omega
   .exact Ext.dX (C.trans (G.trans O)) P λq f=>by omega
  .have bn:=hs.vX s
   have cd:i<=n.keys.length-2/\1<=n.keys.length-2:=by rw[s,←hi]at z;simpa using z
   have bL:IntKind.wrap .i64 ((i:Int)+1)=((i+1:Nat):Int):=by rw[br I I];rfl
   rw[bL];refine aX ⟨λq=>q=w1.heap.size,λe=>?_,c,f1,⟨I,I⟩,λe=>?_,aE,f3,⟨I,I⟩,#[false,.slice (aY c.a 1 0 c.cap) i c.cap,(),.slice (aY aE.a 1 0 aE.cap) (i+1) aE.cap],(λw=>by kernel_rfl),λe=>?_,c,f1,⟨I,I⟩,λe=>?_,aE,f3,⟨I,I⟩,#[false,.slice (aY c.a 1 (i+1) c.cap) (c.len-(i+1)) (c.cap-(i+1)),(),.slice (aY aE.a 1 (i+1) aE.cap) (aE.len-(i+1)) (aE.cap-(i+1))],(λw=>by kernel_rfl),?_⟩
   .rw[aA]at e;have e:aR=w1.heap.size:=e;omega
   .rw[aA]at e;have e:aR=w1.heap.size:=e;omega
   .rw[aA]at e;have e:aR=w1.heap.size:=e;omega
   .rw[aA]at e;have e:aR=w1.heap.size:=e;omega
   have cU:n.left i=⟨false,n.keys.take i,[],n.kids.take (i+1)⟩:=by unfold aF.left;rw[s];rfl
   have o:n.right i=⟨false,n.keys.drop (i+1),[],n.kids.drop (i+1)⟩:=by unfold aF.right;rw[s];rfl
   have aH:bU (λq=>u.heap.size<=q) F.drew (n.left i) ⟨aY c.a 1 0 c.cap,i,c.cap⟩ bJ ⟨aY aE.a 1 0 aE.cap,i+1,aE.cap⟩:=by
    rw[cU];refine⟨?_,bI.none _ _,?_⟩
    .have:=bI.sub x.keys (lo:=0) (hi:=i) I I
     simpa using this
    .have:=cZ.sub x.kids (lo:=0) (hi:=i+1) I I
     simpa using this
   have aJ:bU (λq=>u.heap.size<=q) F.drew (n.right i) ⟨aY c.a 1 (i+1) c.cap,c.len-(i+1),c.cap-(i+1)⟩ bJ ⟨aY aE.a 1 (i+1) aE.cap,aE.len-(i+1),aE.cap-(i+1)⟩:=by
    rw[o];refine⟨?_,bI.none _ _,?_⟩
    .have:=bI.sub x.keys (lo:=i+1) (hi:=c.len) I I
     rwa[dO (by rw[ed];omega)]at this
    .have:=cZ.sub x.kids (lo:=i+1) (hi:=aE.len) I I
     rwa[dO (by rw[ed];omega)]at this
   have aK:=fB aH (by rw[cU];show(n.keys.take i).length<=_;rw[cG];omega) (by rw[cU];simp) (by rw[cU];show(n.kids.take (i+1)).length<=_;rw[cG];omega) (by rw[cU];exact λk l=>Z k (fM l)) (by rw[cU];simp);have aL:(.agg #[false,.slice (aY c.a 1 0 c.cap) i c.cap,(),.slice (aY aE.a 1 0 aE.cap) (i+1) aE.cap]:aa)=dd (n.left i) ⟨aY c.a 1 0 c.cap,i,c.cap⟩ bJ ⟨aY aE.a 1 0 aE.cap,i+1,aE.cap⟩:=by rw[cU];rfl
   have aM:(.agg #[false,.slice (aY c.a 1 (i+1) c.cap) (c.len-(i+1)) (c.cap-(i+1)),(),.slice (aY aE.a 1 (i+1) aE.cap) (aE.len-(i+1)) (aE.cap-(i+1))]:aa)=dd (n.right i) ⟨aY c.a 1 (i+1) c.cap,c.len-(i+1),c.cap-(i+1)⟩ bJ ⟨aY aE.a 1 (i+1) aE.cap,aE.len-(i+1),aE.cap-(i+1)⟩:=by rw[o];rfl
   rw[aL,aM];refine aK.use ?_;rintro _ bo ⟨fj,fY,bH,bp,bq,bs,rfl,aN,N⟩;have aO:=fB (aJ.ext N) (by rw[o];show(n.keys.drop (i+1)).length<=_;rw[ed];omega) (by rw[o];simp) (by rw[o];show(n.kids.drop (i+1)).length<=_;rw[ed];omega) (by rw[o];exact λk l=>Z k (fJ l)) (by rw[o];simp);refine⟨_,fj,fY,bH,rfl,af.cW N,aO.use ?_⟩;rintro _ bt ⟨dD,d_,c3,bu,bz,bA,rfl,aQ,ab⟩;have O:=N.trans ab;have bB:=N.size;have bC:=G.size;refine⟨_,dD,d_,c3,rfl,af.cW ab,Cb (cy:=(n.left i).leaf) (b4:=(n.right i).leaf) (fj:=fj) (fY:=fY) (bH:=bH) (dD:=dD) (d_:=d_) (c3:=c3) ((T.ext G).ext O) ((U.ext G).ext O) rfl rfl I (λq f=>f) (Q:=λcy fj fY bH b4 dD d_ c3 w'=>wa n w (.tuple #[.agg #[cy,fj,fY,bH],tk,.agg #[b4,dD,d_,c3],true]) w') λbD P=>?_⟩;have bE:F.drew.heap.size=F.heap.size:=rfl;refine⟨fj,fY,bH,dD,d_,c3,tk,by rw[←hi];rfl,?_,?_,?_,?_⟩
   .rw[←hi];exact((aN.at.ext ab).ah P λq f e=>I).a_ λq _ f=>by omega
   .rw[←hi];exact(aQ.at.ah P λq f e=>I).a_ λq _ f=>by omega
   .rw[←hi,a4]
    have aS:∀q,aB tk q->g.heap.size<=q:=a3;exact bw.kK (bw.ext (bw.ext a2 aG) O) P λq f e=>by have:=aS q f;omega
   .exact Ext.dX (C.trans (G.trans O)) P λq f=>by omega
 refine⟨true,rfl,λh=>?_,λ_=>aX ⟨λ_=>False,id,_,bV,K,aU,V,ba,D,bh,id,_,bV,K,aU,V,ba,D,bh,⟨?_,?_⟩⟩⟩
 .simp only[Bool.not_true,mP]at h
  have:=cf h;omega
 .refine(fB (h.ext R) I I I Z am).use ?_
  rintro _ a5 ⟨c,d,aE,bF,bW,bx,rfl,W,y⟩;refine⟨n.leaf,c,d,aE,rfl,y,⟨?_,?_⟩⟩
  .refine(nm (h.ext (R.trans y)) hs av (most:=most) an.2.1).use ?_
   rintro _ aV ⟨rfl,p⟩;refine⟨_,rfl,p,a8 (vs:=[false,(),(),()]) rfl λa6 X r a7=>⟨r,X.cj rfl (pb _ _ _ _),rfl,cN X (us:=[n.leaf,c,d,aE]) rfl rfl λg E j a9=>?_⟩⟩;have bM:=y.size;have bN:=p.size;obtain⟨aR,L⟩:∃aR,aR=aV.heap.size:=⟨_,rfl⟩;rw[←L]at E j⊢;have v:=y.trans (p.trans r);have M:fX u.heap.size g n c d aE bF bW bx:=(W.ext (p.trans r)).ah j λq _ _ f e=>by
    subst e;rcases f with f|f|f
    .have:=(W.b2 _ f).2.1;omega
    .have:=(W.bv _ f).2.1;omega
    .have:=(W.aP _ f).2;omega
   have C:Ext w g:=Ext.cu (R.trans v) j I;have S:=(au.ext v).ah j I;have T:=(ay.ext v).ah j I;have U:=(az.ext v).ah j I;subst L;exact fin g _ _ c d aE bF bW bx C ⟨I,I⟩ E M S T U rfl
  .refine a8 (vs:=[false,(),(),()]) rfl λaV bO p ce=>⟨p,?_⟩
   refine(nm (h.ext (R.trans (y.trans p))) hs av (most:=most) an.2.1).use ?_;rintro _ a6 ⟨rfl,r⟩;have X:=bO.ext r;refine⟨_,rfl,r,X.cj rfl (pb _ _ _ _),rfl,cN X (us:=[n.leaf,c,d,aE]) rfl rfl λg E j a9=>?_⟩;have bM:=y.size;have a7:=r.size;obtain⟨aR,L⟩:∃aR,aR=a5.heap.size:=⟨_,rfl⟩;rw[←L]at E j⊢;have v:=y.trans (p.trans r);have M:fX u.heap.size g n c d aE bF bW bx:=(W.ext (p.trans r)).ah j λq _ _ f e=>by
    subst e;rcases f with f|f|f
    .have:=(W.b2 _ f).2.1;omega
    .have:=(W.bv _ f).2.1;omega
    .have:=(W.aP _ f).2;omega
   have C:Ext w g:=Ext.cu (R.trans v) j I;have S:=(au.ext v).ah j I;have T:=(ay.ext v).ah j I;have U:=(az.ext v).ah j I;subst L;exact fin g _ _ c d aE bF bW bx C ⟨I,I⟩ E M S T U rfl
 .refine a8 (vs:=[false,(),(),()]) rfl λa5 bP y cg=>⟨y,?_⟩
  refine(fB (h.ext (R.trans y)) I I I Z am).use ?_;rintro _ aV ⟨c,d,aE,bF,bW,bx,rfl,bQ,p⟩;refine⟨n.leaf,c,d,aE,rfl,p,(nm (h.ext (R.trans (y.trans p))) hs av (most:=most) an.2.1).use ?_⟩;rintro _ a6 ⟨rfl,r⟩;have X:=bP.ext (p.trans r);refine⟨_,rfl,r,X.cj rfl (pb _ _ _ _),rfl,cN X (us:=[n.leaf,c,d,aE]) rfl rfl λg E j a9=>?_⟩;have bN:=p.size;have a7:=r.size;obtain⟨aR,L⟩:∃aR,aR=u.drew.heap.size:=⟨_,rfl⟩;rw[←L]at E j⊢;have v:=y.trans (p.trans r);have M:fX u.heap.size g n c d aE bF bW bx:=((bQ.ext r).ah j λq h1 _ _ e=>I).low I;have C:Ext w g:=Ext.cu (R.trans v) j I;have S:=(au.ext v).ah j I;have T:=(ay.ext v).ah j I;have U:=(az.ext v).ah j I;subst L;exact fin g _ _ c d aE bF bW bx C ⟨I,I⟩ E M S T U rfl
theorem yM{B C:Nat->Prop}{w:J}{s x:ad}{ls xs:O Key}(l:bm B w s ls)(hx:bI C w x xs)(hd:∀q,C q->¬aB s q)(v:ls.length<=100000)(y:xs.length<=100000):
 ∃ (d:ad) (w':J),Sem.run aj (Builtin.append_ #[93,93] 93 #[s,x]) w=.ok d w'/\bI (λq=>B q\/C q\/w.heap.size<=q) w' d (ls++xs)/\af (aB s) w w':=by
 have z:=bI.len hx;obtain⟨ts,h1,h2,m,n⟩:=l;obtain⟨us,aw,ay,A,D,o⟩:=hx;have E:s.len=ls.length:=by have:=h2.1;rw[dk]at this;omega
 obtain⟨d,w',p,f,F,g,r⟩:=qP.append (cD:=93) ay h2 (vW us) I;refine⟨d,w',p,⟨ts++us,by simp[h1,aw],?_,f.2.1,?_,λi t G=>?_⟩,g⟩
 .rw[fL];exact f.src
 .intro k c
  refine⟨?_,f.lt k c⟩;rcases r k c with h|h
  .exact .inl (m k h).1
  .exact .inr (.inr h)
 .rcases ei i ts.length with h|h
  .have j:i<ls.length:=by omega
   rw[nV h,nV j];obtain⟨a,b⟩:=n i h j;exact bw.a_ (bw.kK a g b) λk _ c=>.inl c
  .have u:i-ts.length<us.length:=by rw[ct]at t;omega
   have H:i-ls.length<xs.length:=by omega
   rw[pF h,pF I];have e:i-ls.length=i-ts.length:=by omega
   have a:=o (i-ts.length) u I;simp only[e];exact bw.a_ (bw.kK a g λk c=>hd k (a.2.2 k c).1) λk _ c=>.inr (.inl c)
theorem Cc{B C:Nat->Prop}{w:J}{s x:ad}{ds es:O Nat}(d:cK B w s ds)(hx:cZ C w x es)(i:ds.length<=100000)(j:es.length<=100000):
 ∃ (a:ad) (w':J),Sem.run aj (Builtin.append_ #[72,72] 72 #[s,x]) w=.ok a w'/\cZ (λq=>B q\/C q\/w.heap.size<=q) w' a (ds++es)/\af (aB s) w w':=by
 have l:=cZ.len hx;obtain⟨h1,h2⟩:=d;have m:s.len=ds.length:=by have:=h1.1;rw[qN]at this;omega
 obtain⟨a,w',e,b,n,f,g⟩:=sE.append (cD:=72) hx.1 h1 (BR es) I;refine⟨a,w',e,⟨?_,b.2.1,?_⟩,f⟩
 .have:fS ds++fS es=fS (ds++es):=by simp[fS]
  rw[this]at b;exact b.src
 .intro k c
  refine⟨?_,b.lt k c⟩;rcases g k c with h|h
  .exact .inl (h2 k h).1
  .exact .inr (.inr h)
theorem Hj{wp aC aD aE:J}{lo pa d aR T:Nat}{key U r o ac ag aj:ad}{w cV:J}{a b:aF}{s:Key}{bF bW bx C:Nat->Prop}{aG:O aa}(bb:cV.cell? pa=some (.bool a.leaf))
 (ar:Var cV d [a.leaf,U,r,o] 169) (aH:Var cV aR [b.leaf,ac,ag,aj] 169)
 (g:fX lo cV a U r o bF bW bx) (bc:bU C cV b ac ag aj) (f:∀q,C q->lo<=q/\q<cV.heap.size/\q≠d/\q≠aR/\¬bF q/\¬bW q/\¬bx q) (E:∀q,bF q\/bW q\/bx q->q≠d/\q≠aR) (la:lo<=d) (lb:lo<=aR) (al:d≠aR)
 (bd:Var cV T aG 169) (be:aG.length=4) (bQ:T<lo) (bf:w.heap.size<=T) (t:Src 1 cV key (az s)) (bR:s.length<=1000) (bg:Ext w cV) (hs:cE (dF a s b)) (aI:a.leaf=b.leaf) (am:cE a) (sb:cE b)
 (b_:a.keys.length<=10000) (bu:b.keys.length<=10000) (bi:wp.heap.size=pa) (bj:aC.heap.size=d) (bk:aD.heap.size=aR) (bl:aE.heap.size=T):ae.xY wp aC aD aE key cV (nA (dF a s b) w):=by
 (delta ae.xY ua aT Y ak r1 bG p9 st b8 iy p_ cX p8;dsimp only);rw[bi,bj,bk,bl];have bS:=ar.lt;have bT:=aH.lt;have aJ:∀ {n:aF},cE n->n.keys.length<=10000->n.vals.length<=10000/\n.kids.length<=10001:=λ{n} h1 h2=>by
  rcases h1 with h1|h1
  .rw[h1.len,h1.kids];exact⟨h2,cP _⟩
  .rw[h1.len,h1.vals];exact⟨cP _,I⟩
 obtain⟨bX,bY⟩:=aJ am b_;obtain⟨me,bZ⟩:=aJ sb bu;have aK:hM lo cV d a U r o bF bW bx:=⟨ar,g.keys,g.vals,g.kids,λq c=>⟨(g.b2 q c).1,(g.b2 q c).2.1,(E q (.inl c)).1,(g.b2 q c).2.2⟩,λq c=>⟨(g.bv q c).1,(g.bv q c).2.1,(E q (.inr (.inl c))).1,(g.bv q c).2.2⟩,λq c=>⟨(g.aP q c).1,(g.aP q c).2,(E q (.inr (.inr c))).1⟩,la⟩;refine k6 (λw'=>∃ (K:ad) (W:Nat->Prop),hM lo w' d ⟨a.leaf,if a.leaf then a.keys else a.keys++ [s],a.vals,a.kids⟩ K r o W bW bx/\af (λq=>q=d\/bF q) cV w'/\(∀q,W q->bF q\/cV.heap.size<=q)) (λq c=>⟨_,bb,λu=>?_,λu=>c _ ⟨U,bF,?_,.refl _ _,λq h=>.inl h⟩⟩) ?_
 .have u:a.leaf=false:=by simpa using u
  refine yI aK t I I λw' bn W h1 h2 G=>c _ ⟨bn,W,?_,h2,G⟩;rw[if_neg (by rw[u];simp)];exact h1
 .have u:a.leaf=true:=by simpa using u
  rw[if_pos u];exact aK
 rintro w1 ⟨fj,an,h1,H,aL⟩;have b0:=H.size;have aM:=aH.ah H (by
  rintro(h|h)
  .exact al h.symm
  .exact(E _ (.inl h)).2 rfl)
 have aN:=bc.ah H λq c h=>by
  have:=f q c;rcases h with h|h
  .exact this.2.2.1 h
  .exact this.2.2.2.2.1 h
 have bo:=bd.ah H (by
  rintro(h|h)
  .omega
  .have:=(g.b2 _ h).1;omega)
 have bp:Ext w w1:=Ext.dX bg H λq c=>by
  rcases c with h|h
  .omega
  .have:=(g.b2 _ h).1;omega
 obtain⟨L,X⟩:∃l,l=(if a.leaf then a.keys else a.keys++ [s]):=⟨_,rfl⟩;rw[←X]at h1;have b1:L.length<=10001:=by
  rw[X];split
  .omega
  .rw[ct];simp;omega
 obtain⟨bV,aU,ba,bh⟩:=bK h1.v;obtain⟨d0,d1,d2,d3⟩:=bK aM;have x:∀q,aB fj q->an q:=λk t=>by obtain⟨ts,_,_,G,_⟩:=h1.keys;exact(G k t).1
 have ao:∀q,aB r q->bW q:=λk t=>by obtain⟨ts,_,_,G,_⟩:=h1.vals;exact(G k t).1
 have aO:∀q,aB o q->bx q:=λk t=>(h1.kids.2 k t).1;have aQ:∀q,C q->¬aB fj q:=λq c h=>by
  rcases aL q (x q h) with h2|h2
  .exact(f q c).2.2.2.2.1 h2
  .have:=(f q c).2.1;omega
 obtain⟨dG,ai,M,N,p⟩:=yM h1.keys aN.keys aQ (by show L.length<=_;omega) I;have aS:=h1.v.ah p λh=>(h1.b2 _ (x _ h)).2.2.1 rfl;obtain⟨P,R⟩:=eB aS (i:=1) (by simp);refine⟨fj,aU,ac,d1,dG,ai,M,?_⟩;rw[aA,aA];refine⟨P,R,aX ?_⟩;obtain⟨j,ap⟩:∃j,j=ai.setCell ⟨d,0+1,none⟩ dG:=⟨_,rfl⟩;rw[←ap];have aV:af (λq=>q=d) ai j:=by rw[ap];exact dZ _ _ _ _
 have aW:Var j d [a.leaf,dG,r,o] 169:=by rw[ap];exact eA aS _
 have y:af (λq=>q=d\/aB fj q) w1 j:=(p.mono λq _ h=>.inr h).trans (aV.mono λq _ h=>.inl h);have aY:=aM.ah y (by
  rintro(h|h)
  .exact al h.symm
  .rcases aL _ (x _ h) with h2|h2
   .exact(E _ (.inl h2)).2 rfl
   .omega)
 have aZ:=aN.ah y λq c h=>by
  rcases h with h|h
  .exact(f q c).2.2.1 h
  .exact aQ q c h
 have bq:=bm.ah h1.vals y λq c h=>by
  rcases h with h|h
  .exact(h1.bv q c).2.2.1 h
  .exact(h1.b2 q (x q h)).2.2.2.1 c
 have br:=cK.ah h1.kids y λq c h=>by
  rcases h with h|h
  .exact(h1.aP q c).2.2 h
  .exact(h1.b2 q (x q h)).2.2.2.2 c
 have bs:=bo.ah y (by
  rintro(h|h)
  .omega
  .have:=(h1.b2 _ (x _ h)).1;omega)
 have bt:Ext w j:=Ext.dX bp y λq c=>by
  rcases c with h|h
  .omega
  .have:=(h1.b2 _ (x _ h)).1;omega
 have bw:bI (λq=>(an q\/C q\/w1.heap.size<=q)/\q≠d) j dG (L++b.keys):=by
  have aq:bI (λq=>(an q\/C q\/w1.heap.size<=q)/\q≠d) ai dG (L++b.keys):=bI.a_ N λq _ c=>⟨c,by
   rcases c with h|h|h
   .exact(h1.b2 _ h).2.2.1
   .exact(f _ h).2.2.1
   .omega⟩
  exact bI.ah aq aV λq c h=>c.2 h
 obtain⟨bV,aU,ba,bh⟩:=bK aW;obtain⟨d0,d1,d2,d3⟩:=bK aY;have b3:=y.size
 obtain⟨dn,Z,M,N,p⟩:=yM bq aZ.vals (λq c h=>(f q c).2.2.2.2.2.1 (ao q h)) (by show a.vals.length<=_;omega) I;have a0:=aW.ah p λh=>(h1.bv _ (ao _ h)).2.2.1 rfl;obtain⟨P,R⟩:=eB a0 (i:=2) (by simp);rw[aA]at ba d2;refine⟨r,ba,ag,d2,dn,Z,M,?_⟩;rw[aA,aA];refine⟨P,R,aX ?_⟩;obtain⟨m,au⟩:∃m,m=Z.setCell ⟨d,0+2,none⟩ dn:=⟨_,rfl⟩;rw[←au];have a1:af (λq=>q=d) Z m:=by rw[au];exact dZ _ _ _ _
 have a2:Var m d [a.leaf,dG,dn,o] 169:=by rw[au];exact eA a0 _
 have z:af (λq=>q=d\/bW q) j m:=(p.mono λq _ h=>.inr (ao q h)).trans (a1.mono λq _ h=>.inl h);have bz:=aY.ah z (by
  rintro(h|h)
  .exact al h.symm
  .exact(E _ (.inr (.inl h))).2 rfl)
 have bA:=aZ.ah z λq c h=>by
  rcases h with h|h
  .exact(f q c).2.2.1 h
  .exact(f q c).2.2.2.2.2.1 h
 have bB:=bI.ah bw z λq c h=>by
  rcases h with h|h
  .exact c.2 h
  .rcases c.1 with h2|h2|h2
   .exact(h1.b2 _ h2).2.2.2.1 h
   .exact(f _ h2).2.2.2.2.2.1 h
   .have:=(h1.bv _ h).2.1;omega
 have bC:=cK.ah br z λq c h=>by
  rcases h with h|h
  .exact(h1.aP q c).2.2 h
  .exact(h1.bv q h).2.2.2 c
 have bD:=bs.ah z (by
  rintro(h|h)
  .omega
  .have:=(h1.bv _ h).1;omega)
 have bE:Ext w m:=Ext.dX bt z λq c=>by
  rcases c with h|h
  .omega
  .have:=(h1.bv _ h).1;omega
 have bH:bI (λq=>(bW q\/C q\/j.heap.size<=q)/\q≠d) m dn (a.vals++b.vals):=by
  have aq:bI (λq=>(bW q\/C q\/j.heap.size<=q)/\q≠d) Z dn (a.vals++b.vals):=bI.a_ N λq _ c=>⟨c,by
   rcases c with h|h|h
   .exact(h1.bv _ h).2.2.1
   .exact(f _ h).2.2.1
   .omega⟩
  exact bI.ah aq a1 λq c h=>c.2 h
 obtain⟨bV,aU,ba,bh⟩:=bK a2;obtain⟨d0,d1,d2,d3⟩:=bK bz;have b4:=z.size
 obtain⟨kn,av,M,N,p⟩:=Cc bC bA.kids (by show a.kids.length<=_;omega) I;have a3:=a2.ah p λh=>(h1.aP _ (aO _ h)).2.2 rfl;obtain⟨P,R⟩:=eB a3 (i:=3) (by simp);rw[aA]at bh d3;refine⟨o,bh,aj,d3,kn,av,M,?_⟩;rw[aA,aA];refine⟨P,R,aX ?_⟩;obtain⟨A,aw⟩:∃A,A=av.setCell ⟨d,0+3,none⟩ kn:=⟨_,rfl⟩;rw[←aw];have a4:af (λq=>q=d) av A:=by rw[aw];exact dZ _ _ _ _
 have a5:Var A d [a.leaf,dG,dn,kn] 169:=by rw[aw];exact eA a3 _
 have S:af (λq=>q=d\/bx q) m A:=(p.mono λq _ h=>.inr (aO q h)).trans (a4.mono λq _ h=>.inl h);have bJ:=bI.ah bB S λq c h=>by
  rcases h with h|h
  .exact c.2 h
  .rcases c.1 with h2|h2|h2
   .exact(h1.b2 _ h2).2.2.2.2 h
   .exact(f _ h2).2.2.2.2.2.2 h
   .have:=(h1.aP _ h).2.1;omega
 have bL:=bI.ah bH S λq c h=>by
  rcases h with h|h
  .exact c.2 h
  .rcases c.1 with h2|h2|h2
   .exact(h1.bv _ h2).2.2.2 h
   .exact(f _ h2).2.2.2.2.2.2 h
   .have:=(h1.aP _ h).2.1;omega
 have bM:=bD.ah S (by
  rintro(h|h)
  .omega
  .have:=(h1.aP _ h).1;omega)
 have bN:Ext w A:=Ext.dX bE S λq c=>by
  rcases c with h|h
  .omega
  .have:=(h1.aP _ h).1;omega
 have b5:=S.size;have a6:bU (λq=>lo<=q) A (dF a s b) dG dn kn:=by
  have kL:dF a s b=⟨a.leaf,L++b.keys,a.vals++b.vals,a.kids++b.kids⟩:=by
   unfold dF
   cases F:a.leaf with
   |true=>
    have ax:a.kids=[]:=by
     rcases am with h|h
     .exact h.kids
     .have:=h.inner;rw[F]at this;cases this
    have kb:b.kids=[]:=by
     rcases sb with h|h
     .exact h.kids
     .have:=h.inner;rw[←aI,F]at this;cases this
    rw[X,F,ax,kb];simp
   |false=>
    have ax:a.vals=[]:=by
     rcases am with h|h
     .have:=h.leaf;rw[F]at this;cases this
     .exact h.vals
    have kb:b.vals=[]:=by
     rcases sb with h|h
     .have:=h.leaf;rw[←aI,F]at this;cases this
     .exact h.vals
    rw[X,F,ax,kb];simp
  rw[kL];refine⟨bI.a_ bJ λq _ c=>?_,bI.a_ bL λq _ c=>?_,cZ.a_ (cZ.ah (B:=λq=>(bx q\/C q\/m.heap.size<=q)/\q≠d) (cZ.a_ N λq _ c=>⟨c,?_⟩) a4 λq c h=>c.2 h) λq _ c=>?_⟩
  .rcases c.1 with h|h|h
   .exact(h1.b2 _ h).1
   .exact(f _ h).1
   .omega
  .rcases c.1 with h|h|h
   .exact(h1.bv _ h).1
   .exact(f _ h).1
   .omega
  .rcases c with h|h|h
   .exact(h1.aP _ h).2.2
   .exact(f _ h).2.2.1
   .omega
  .rcases c.1 with h|h|h
   .exact(h1.aP _ h).1
   .exact(f _ h).1
   .omega
 obtain⟨bV,aU,ba,bh⟩:=bK a5;rw[aA]at aU ba bh;have b6:(dF a s b).keys.length<=20001:=by
  unfold dF;split
  .show(a.keys++b.keys).length<=_;rw[ct];omega
  .show(a.keys++s::b.keys).length<=_;rw[ct,f_];omega
 have b7:(dF a s b).vals.length<=20001:=by
  unfold dF;split
  .show(a.vals++b.vals).length<=_;rw[ct];omega
  .simp
 have b9:(dF a s b).kids.length<=20002:=by
  unfold dF;split
  .simp
  .show(a.kids++b.kids).length<=_;rw[ct];omega
 have a7:(dF a s b).leaf=a.leaf:=BC
 repeat rw[aA]
 refine⟨_,bV,dG,aU,dn,ba,kn,bh,?_⟩;have ay:=kh a6 I I I;unfold dd at ay;rw[a7]at ay;refine ay.use ?_;rintro _ ca ⟨cb,rfl,bO,ab⟩;have:=bO.2 hs;subst this;obtain⟨bV,aU,ba,bh⟩:=bK (a5.ext ab);rw[aA]at aU ba bh;have a8:=iW a.leaf dG dn kn (bM.ext ab) be (Q:=λbP K V D ai=>nA (dF a s b) w (.tuple #[.agg #[bP,K,V,D],true]) ai) λcc a9=>⟨dG,dn,kn,by unfold dd;rw[a7],((a6.ext ab).ah a9 λq c e=>I).a_ λq _ c=>I,Ext.cu (bN.trans ab) a9 bf⟩
 repeat rw[aA]at a8
 exact⟨true,rfl,λh=>(by cases h),λ_=>⟨_,bV,dG,aU,dn,ba,kn,bh,a8⟩⟩
theorem oP{bd be:Nat->Prop}{w:J}{a b:aF}{R S T U V W key:ad}{s:Key}(aQ:bU bd w a R S T)(aS:bU be w b U V W)(M:Src 1 w key (az s))(bf:∀q,aB key q->q<w.heap.size)(bg:s.length<=1000)(al:cE a)(sb:cE b)(aV:a.leaf=b.leaf)(hs:cE (dF a s b))
 (b_:a.keys.length<=10000) (bu:b.keys.length<=10000):
 aI aj 264 #[dd a R S T,key,dd b U V W] w (nA (dF a s b) w):=by
 have aW:∀ {n:aF},cE n->n.keys.length<=10000->n.vals.length<=10000/\n.kids.length<=10001:=λ{n} h1 h2=>by
  rcases h1 with h1|h1
  .rw[h1.len,h1.kids];exact⟨h2,cP _⟩
  .rw[h1.len,h1.vals];exact⟨cP _,I⟩
 obtain⟨bA,bB⟩:=aW al b_;obtain⟨me,bC⟩:=aW sb bu;have am:∀k∈a.keys,k.length<=100000:=λk M=>by have:=(al.keys.ok k M).2;omega
 have y:∀k∈b.keys,k.length<=100000:=λk M=>by have:=(sb.keys.ok k M).2;omega
 have ao:∀k∈a.vals,k.length<=100000:=λk M=>by have:=al.vals k M;omega
 have z:∀k∈b.vals,k.length<=100000:=λk M=>by have:=sb.vals k M;omega
 refine okF (ae.oP a.leaf R S T key b.leaf U V W) ax.oP func264 ?_;(delta ae.oP z4 aT Y r1 b8 qb ak iy p_ gb bP ua bG p9 st p8 ow;dsimp only);refine a8 (vs:=[a.leaf,R,S,T]) rfl λw1 aH bi bE=>?_;refine a8 (vs:=[b.leaf,U,V,W]) rfl λai aJ av bF=>?_;refine a8 (vs:=[false,(),(),()]) rfl λbj bk X bH=>?_;have aY:=bi.trans (av.trans X);obtain⟨bV,aU,ba,bh⟩:=bK (aH.ext (av.trans X));refine⟨_,bV,R,aU,S,ba,T,bh,(kh (aQ.ext aY) I I I).use ?_⟩;rintro _ bl ⟨cy,rfl,bm,P⟩;have:=bm.2 al;subst this;have aZ:=aY.trans P;obtain⟨d0,d1,d2,d3⟩:=bK (aJ.ext (X.trans P));refine⟨true,rfl,cw (λb w'=>b=false/\Ext bl w') (λq o=>⟨λh=>(by cases h),λ_=>⟨_,d0,U,d1,V,d2,W,d3,(kh (aS.ext aZ) I I I).use ?_⟩⟩) ?_⟩
 .rintro _ aA ⟨b4,rfl,bn,N⟩
  have:=bn.2 sb;subst this;exact⟨true,rfl,o _ _ ⟨rfl,N⟩⟩
 rintro _ aA ⟨rfl,N⟩;have bo:=aZ.trans N;obtain⟨bV,aU,ba,bh⟩:=bK (aH.ext (av.trans (X.trans (P.trans N))));obtain⟨d0,d1,d2,d3⟩:=bK (aJ.ext (X.trans (P.trans N)));refine cw (λb w'=>b=false/\aA=w') (λq o=>⟨λh=>(by cases h),λ_=>⟨_,bV,_,d0,o _ _ ⟨by rw[aV];simp,rfl⟩⟩⟩) ?_;rintro _ _ ⟨rfl,rfl⟩;have ap:=cA aA;have a0:=bo.trans ap;obtain⟨v,Z⟩:∃v,v=aA.drew:=⟨_,rfl⟩;have a1:Var v w.heap.size [a.leaf,R,S,T] 169:=by rw[Z];exact(aH.ext (av.trans (X.trans (P.trans N)))).ext ap
 have bp:Var v w1.heap.size [b.leaf,U,V,W] 169:=by rw[Z];exact(aJ.ext (X.trans (P.trans N))).ext ap
 have bq:Var v ai.heap.size [false,(),(),()] 169:=by rw[Z];exact(bk.ext (P.trans N)).ext ap
 have aq:Ext w v:=by rw[Z];exact a0
 have bI:bj.heap.size<=v.heap.size:=by rw[Z];exact(P.trans N).size
 have ar:=aQ.ext aq;have A:=aS.ext aq;have br:=M.ext aq;obtain⟨lo,bJ⟩:∃lo,lo=v.heap.size:=⟨_,rfl⟩;rw[←Z];clear bV aU ba bh d0 d1 d2 d3 Z a0 ap;have fin:∀ {la lb x aR:Nat}{Q ac p aK jQ:J}{r t u f i j:ad}{aL aM aN a2 a3 a4:Nat->Prop},fX la Q a r t u aL aM aN->fX lb ac b f i j a2 a3 a4->Ext Q p->Ext ac p->Ext v p->
  Var p x [false,(),(),()] 169->Var p aR [false,(),(),()] 169->
  (v.heap.size<=la/\la<=Q.heap.size/\Q.heap.size<=lb/\v.heap.size<=x/\v.heap.size<=aR/\x≠aR/\(x<la\/Q.heap.size<=x)/\(aR<la\/Q.heap.size<=aR)/\(x<lb\/ac.heap.size<=x)/\(aR<lb\/ac.heap.size<=aR))->aK.heap.size=x->jQ.heap.size=aR->
  bD p x [a.leaf,r,t,u]/\(4:Nat)=4/\an (setCells p x 0 [a.leaf,r,t,u]) λaO=>
   bD aO aR [b.leaf,f,i,j]/\(4:Nat)=4/\an (setCells aO aR 0 [b.leaf,f,i,j]) λaC=>ae.xY w aK jQ ai key aC (nA (dF a s b) w):=by
  intro la lb x aR Q ac p aK jQ r t u f i j aL aM aN a2 a3 a4 m l a5 a6 g a7 bs bL bt bw;have gR:=a5.size;have iQ:=a6.size;have z3:=g.size;refine⟨a7.cj rfl (pb _ _ _ _),rfl,cN a7 (us:=[a.leaf,r,t,u]) rfl rfl λaO bx iX t5=>?_⟩;have a9:=bs.ah iX I;refine⟨a9.cj rfl (pb _ _ _ _),rfl,cN a9 (us:=[b.leaf,f,i,j]) rfl rfl λaC bz bb t6=>?_⟩;have aa:af (λq=>q=x\/q=aR) p aC:=(iX.mono λq _ h=>.inl h).trans (bb.mono λq _ h=>.inr h);have au:∀q,aL q\/aM q\/aN q->la<=q/\q<Q.heap.size:=λq o=>by
   rcases o with o|o|o
   .exact⟨(m.b2 q o).1,(m.b2 q o).2.1⟩
   .exact⟨(m.bv q o).1,(m.bv q o).2.1⟩
   .exact m.aP q o
  have sz:=aa.size;exact Hj (lo:=lo) (cV:=aC) (C:=λq=>lb<=q/\q<ac.heap.size) ((a1.ext g).ah aa I).cell (bx.ah bb I) bz (((m.ext a5).ah aa λq _ _ o e=>by have:=au q o;omega).low I)
   (((l.at.a_ λq h1 h2=>⟨h2,h1⟩).ext a6).ah aa λq o e=>I) (λq o=>⟨I,I,I,I,λh=>(by have:=au q (.inl h);omega),λh=>(by have:=au q (.inr (.inl h));omega),λh=>(by have:=au q (.inr (.inr h));omega)⟩) (λq o=>(by have:=au q o;exact⟨I,I⟩)) I I I
   ((bq.ext g).ah aa I) rfl I I ((br.ext g).ah aa λq o e=>(by have:=bf q o;have:=aq.size;omega)) bg (Ext.dX (aq.trans g) aa λq o=>I) hs aV al sb b_ bu rfl bt bw rfl
 obtain⟨bV,aU,ba,bh⟩:=bK a1;obtain⟨d0,d1,d2,d3⟩:=bK bp;refine⟨λh=>(by cases h),λ_=>aX ⟨λ_=>False,id,_,bV,R,aU,S,ba,T,bh,id,_,d0,U,d1,V,d2,W,d3,?_⟩⟩;refine⟨?_,?_,?_⟩
 .refine(fB ar I I I am ao).use ?_
  rintro _ bc ⟨r,t,u,aD,aE,aG,rfl,m,aw⟩;refine⟨_,r,t,u,rfl,aw,?_⟩;have s1:=aw.size;refine⟨?_,?_,?_⟩
  .refine(fB (A.ext aw) I I I y z).use ?_
   rintro _ ag ⟨f,i,j,H,K,L,rfl,l,ay⟩;refine⟨_,f,i,j,rfl,ay,?_⟩;have s2:=ay.size;refine⟨?_,?_⟩
   .refine a8 (vs:=[false,(),(),()]) rfl λB D d z3=>⟨d,?_⟩
    have E:=d.size;refine a8 (vs:=[false,(),(),()]) rfl λp F c z4=>⟨c,?_⟩;have G:=c.size;exact fin m l (ay.trans (d.trans (c))) (d.trans (c)) (aw.trans (ay.trans (d.trans c))) (D.ext c) (F) I rfl rfl
   .refine a8 (vs:=[false,(),(),()]) rfl λB D d z3=>⟨d,?_⟩
    have E:=d.size;refine a8 (vs:=[false,(),(),()]) rfl λp F c z4=>⟨c,?_⟩;have G:=c.size;exact fin m l (ay.trans (d.trans (c))) (d.trans (c)) (aw.trans (ay.trans (d.trans c))) (F) (D.ext c) I rfl rfl
  .refine a8 (vs:=[false,(),(),()]) rfl λag O ay iQ=>⟨ay,?_⟩
   have s2:=ay.size;refine⟨?_,?_⟩
   .refine(fB (A.ext (aw.trans (ay))) I I I y z).use ?_
    rintro _ B ⟨f,i,j,H,K,L,rfl,l,d⟩;refine⟨_,f,i,j,rfl,d,?_⟩;have E:=d.size;refine a8 (vs:=[false,(),(),()]) rfl λp F c z4=>⟨c,?_⟩;have G:=c.size;exact fin m l (ay.trans (d.trans (c))) (c) (aw.trans (ay.trans (d.trans c))) (O.ext (d.trans (c))) (F) I rfl rfl
   .refine a8 (vs:=[false,(),(),()]) rfl λB D d z3=>⟨d,?_⟩
    have E:=d.size;refine(fB (A.ext (aw.trans (ay.trans (d)))) I I I y z).use ?_;rintro _ p ⟨f,i,j,H,K,L,rfl,l,c⟩;refine⟨_,f,i,j,rfl,c,?_⟩;have G:=c.size;exact fin m l (ay.trans (d.trans (c))) ((af.refl _ _)) (aw.trans (ay.trans (d.trans c))) (O.ext (d.trans (c))) (D.ext c) I rfl rfl
  .refine a8 (vs:=[false,(),(),()]) rfl λag O ay iQ=>⟨ay,?_⟩
   have s2:=ay.size;refine⟨?_,?_⟩
   .refine(fB (A.ext (aw.trans (ay))) I I I y z).use ?_
    rintro _ B ⟨f,i,j,H,K,L,rfl,l,d⟩;refine⟨_,f,i,j,rfl,d,?_⟩;have E:=d.size;refine a8 (vs:=[false,(),(),()]) rfl λp F c z4=>⟨c,?_⟩;have G:=c.size;exact fin m l (ay.trans (d.trans (c))) (c) (aw.trans (ay.trans (d.trans c))) (F) (O.ext (d.trans (c))) I rfl rfl
   .refine a8 (vs:=[false,(),(),()]) rfl λB D d z3=>⟨d,?_⟩
    have E:=d.size;refine(fB (A.ext (aw.trans (ay.trans (d)))) I I I y z).use ?_;rintro _ p ⟨f,i,j,H,K,L,rfl,l,c⟩;refine⟨_,f,i,j,rfl,c,?_⟩;have G:=c.size;exact fin m l (ay.trans (d.trans (c))) ((af.refl _ _)) (aw.trans (ay.trans (d.trans c))) (D.ext c) (O.ext (d.trans (c))) I rfl rfl
 .refine a8 (vs:=[false,(),(),()]) rfl λbc ab aw gR=>⟨aw,?_⟩
  have s1:=aw.size;refine⟨?_,?_⟩
  .refine(fB (ar.ext aw) I I I am ao).use ?_
   rintro _ ag ⟨r,t,u,aD,aE,aG,rfl,m,ay⟩;refine⟨_,r,t,u,rfl,ay,?_⟩;have s2:=ay.size;refine⟨?_,?_⟩
   .refine(fB (A.ext (aw.trans (ay))) I I I y z).use ?_
    rintro _ B ⟨f,i,j,H,K,L,rfl,l,d⟩;refine⟨_,f,i,j,rfl,d,?_⟩;have E:=d.size;refine a8 (vs:=[false,(),(),()]) rfl λp F c z4=>⟨c,?_⟩;have G:=c.size;exact fin m l (d.trans (c)) (c) (aw.trans (ay.trans (d.trans c))) (ab.ext (ay.trans (d.trans (c)))) (F) I rfl rfl
   .refine a8 (vs:=[false,(),(),()]) rfl λB D d z3=>⟨d,?_⟩
    have E:=d.size;refine(fB (A.ext (aw.trans (ay.trans (d)))) I I I y z).use ?_;rintro _ p ⟨f,i,j,H,K,L,rfl,l,c⟩;refine⟨_,f,i,j,rfl,c,?_⟩;have G:=c.size;exact fin m l (d.trans (c)) ((af.refl _ _)) (aw.trans (ay.trans (d.trans c))) (ab.ext (ay.trans (d.trans (c)))) (D.ext c) I rfl rfl
  .refine a8 (vs:=[false,(),(),()]) rfl λag O ay iQ=>⟨ay,?_⟩
   have s2:=ay.size;refine(fB (ar.ext (aw.trans (ay))) I I I am ao).use ?_;rintro _ B ⟨r,t,u,aD,aE,aG,rfl,m,d⟩;refine⟨_,r,t,u,rfl,d,?_⟩;have E:=d.size;refine(fB (A.ext (aw.trans (ay.trans (d)))) I I I y z).use ?_;rintro _ p ⟨f,i,j,H,K,L,rfl,l,c⟩;refine⟨_,f,i,j,rfl,c,?_⟩;have G:=c.size;exact fin m l (c) ((af.refl _ _)) (aw.trans (ay.trans (d.trans c))) (ab.ext (ay.trans (d.trans (c)))) (O.ext (d.trans (c))) I rfl rfl
 .refine a8 (vs:=[false,(),(),()]) rfl λbc ab aw gR=>⟨aw,?_⟩
  have s1:=aw.size;refine⟨?_,?_⟩
  .refine(fB (ar.ext aw) I I I am ao).use ?_
   rintro _ ag ⟨r,t,u,aD,aE,aG,rfl,m,ay⟩;refine⟨_,r,t,u,rfl,ay,?_⟩;have s2:=ay.size;refine⟨?_,?_⟩
   .refine(fB (A.ext (aw.trans (ay))) I I I y z).use ?_
    rintro _ B ⟨f,i,j,H,K,L,rfl,l,d⟩;refine⟨_,f,i,j,rfl,d,?_⟩;have E:=d.size;refine a8 (vs:=[false,(),(),()]) rfl λp F c z4=>⟨c,?_⟩;have G:=c.size;exact fin m l (d.trans (c)) (c) (aw.trans (ay.trans (d.trans c))) (F) (ab.ext (ay.trans (d.trans (c)))) I rfl rfl
   .refine a8 (vs:=[false,(),(),()]) rfl λB D d z3=>⟨d,?_⟩
    have E:=d.size;refine(fB (A.ext (aw.trans (ay.trans (d)))) I I I y z).use ?_;rintro _ p ⟨f,i,j,H,K,L,rfl,l,c⟩;refine⟨_,f,i,j,rfl,c,?_⟩;have G:=c.size;exact fin m l (d.trans (c)) ((af.refl _ _)) (aw.trans (ay.trans (d.trans c))) (D.ext c) (ab.ext (ay.trans (d.trans (c)))) I rfl rfl
  .refine a8 (vs:=[false,(),(),()]) rfl λag O ay iQ=>⟨ay,?_⟩
   have s2:=ay.size;refine(fB (ar.ext (aw.trans (ay))) I I I am ao).use ?_;rintro _ B ⟨r,t,u,aD,aE,aG,rfl,m,d⟩;refine⟨_,r,t,u,rfl,d,?_⟩;have E:=d.size;refine(fB (A.ext (aw.trans (ay.trans (d)))) I I I y z).use ?_;rintro _ p ⟨f,i,j,H,K,L,rfl,l,c⟩;refine⟨_,f,i,j,rfl,c,?_⟩;have G:=c.size;exact fin m l (c) ((af.refl _ _)) (aw.trans (ay.trans (d.trans c))) (O.ext (d.trans (c))) (ab.ext (ay.trans (d.trans (c)))) I rfl rfl
end Go.Proofs.YtcmgnhkpfllinaaGreat
