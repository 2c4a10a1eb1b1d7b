/- Contracts of the functions that the statement reaches, and the plain laws over them; each theorem stands with its conditions. -/
import Derived.Test.YtcmgnhkpfllinaaGreatBSSteps1
namespace Go.Proofs.YtcmgnhkpfllinaaGreat
open Go aQ Go.Proofs.Tryz
theorem BV{w:J}{a b:ad}{la lb:O UInt8}(g:Src 1 w a (az la))(h:Src 1 w b (az lb))(j:la.length+lb.length<=1000):
 aI aj 103 #[.slice (some w.heap.size) 2 2] (w.alloc (.cells #[a,b] 39)) (λv w'=>∃c:ad,v=c/\aT 1 5 w' c (az (la++lb))/\Ext w w'/\gD w c):=by
 have hx:=c4 w (.cells #[a,b] 39);refine(vX (s:=⟨some w.heap.size,2,2⟩) [(a,la),(b,lb)] (Src.new w _ 2 rfl) ?_ (by simp[eK];omega) (by simp)).mono ?_
 .intro p d
  simp only[c0,fw,fD]at d;rcases d with rfl|rfl
  .exact g.ext hx
  .exact h.ext hx
 .rintro _ w' ⟨c,rfl,f,i,hf⟩
  have e:eK [(a,la),(b,lb)]=la++lb:=by simp[eK]
  rw[e]at f;exact⟨c,rfl,f,hx.trans i,hf.mono hx.size⟩
theorem BW{w:J}{a b c:ad}{la lb d:O UInt8}(i:Src 1 w a (az la))(j:Src 1 w b (az lb))(hc:Src 1 w c (az d))(l:la.length+lb.length+d.length<=1000):
 aI aj 103 #[.slice (some w.heap.size) 3 3] (w.alloc (.cells #[a,b,c] 39)) (λv w'=>∃f:ad,v=f/\aT 1 5 w' f (az (la++(lb++d)))/\Ext w w'/\gD w f):=by
 have hx:=c4 w (.cells #[a,b,c] 39);refine(vX (s:=⟨some w.heap.size,3,3⟩) [(a,la),(b,lb),(c,d)] (Src.new w _ 3 rfl) ?_ (by simp[eK];omega) (by simp)).mono ?_
 .intro p g
  simp only[c0,fw,fD]at g;rcases g with rfl|rfl|rfl
  .exact i.ext hx
  .exact j.ext hx
  .exact hc.ext hx
 .rintro _ w' ⟨f,rfl,h,k,hf⟩
  have e:eK [(a,la),(b,lb),(c,d)]=la++(lb++d):=by simp[eK]
  rw[e]at h;exact⟨f,rfl,h,hx.trans k,hf.mono hx.size⟩
theorem BX(w:J){n:Nat}(a:n<=255):Src 1 (w.alloc (.cells #[.int .u8 (IntKind.wrap .u8 (n:Int))] 5)) ⟨some w.heap.size,1,1⟩ (az [UInt8.ofNat n])/\Ext w (w.alloc (.cells #[.int .u8 (IntKind.wrap .u8 (n:Int))] 5)):=by
 have e:(#[.int .u8 (IntKind.wrap .u8 (n:Int))]:Array aa)=(az [UInt8.ofNat n]).toArray:=by
  rw[tP I I];simp[az,j6 (show n<256 from I)]
 rw[e];exact⟨Src.new w _ 1 rfl,c4 _ _⟩
theorem fH{α:Type}{l:O α}{i:Nat}{d:α}(h:i<l.length):l.getD i d=l[i]:=by
 rw[fQ,dI h];rfl
theorem cI.sG{n:aD}(h:cI n)(a:n.leaf=true):n.vals.length=n.keys.length:=by
 rcases h with h|h
 .exact h.len
 .have:=h.inner;rw[a]at this;cases this
theorem cI.wc{n:aD}(h:cI n)(a:n.leaf=false):n.kids.length=n.keys.length+1:=by
 rcases h with h|h
 .have:=h.leaf;rw[a]at this;cases this
 .exact h.len
theorem nu{B:Nat->Prop}{w:J}{n:aD}{K V D:ad}(h:bT B w n K V D)(hs:cI n){i:Nat}(hi:i<n.keys.length)(ac:n.keys.length<=100000):
 aI aj 280 #[dg n K V D,i] w (λv w'=>∃s:ad,v=s/\aT 1 5 w' s (az (gJ n i))/\Ext w w'/\gD w s):=by
 refine okF (ae.nu n.leaf K V D (i:Int)) ax.nu func280 ?_;(delta ae.nu Y r1 aO bE aV ak aq aG;dsimp only);refine ba (vs:=[n.leaf,K,V,D]) rfl λw1 r e _=>?_;have u:=cG w1;have Q:=e.trans u;have R:=h.ext Q;obtain⟨bU,aW,a8,bg⟩:=bK (r.ext u);obtain⟨A,t,ar,L,hc,ht,_⟩:=bH.at R.keys hi;have af:=(hs.keys.ok _ (cP hi)).2;have S:=len8 ht.1;obtain⟨T,x⟩:=BX w1.drew (n:=t.len) I;refine aX ⟨λ_=>False,id,K,aW,A,ar,L,id,t,hc,id,K,aW,A,ar,L,id,t,hc,aX ⟨x,aX ?_⟩⟩;refine(BV (a:=⟨some w1.drew.heap.size,1,1⟩) (b:=t) T (ht.1.ext x) (by simp;omega)).use ?_;rintro _ y ⟨M,rfl,z,U,ag⟩;have d:=u.trans (x.trans U);obtain⟨d0,d1,d2,d3⟩:=bK (r.ext d);have W: [UInt8.ofNat t.len]++n.keys[i]=nC (n.keys.getD i []):=by rw[fH hi,S];rfl
 rw[W]at z;have N:=h.ext (e.trans d);refine⟨M,rfl,n.leaf,d0,λf=>?_,λf=>?_⟩
 .have ah:=hs.sG f
  have C:i<n.vals.length:=by omega
  have g:=cG y;have X:=N.ext g;obtain⟨ai,al,O,am⟩:=bK (r.ext (d.trans g));obtain⟨m,t2,o,p,q,P,_⟩:=bH.at X.vals C;have an:=hs.vals _ (cP C);have Z:=len8 P.1;obtain⟨aa,j⟩:=BX y.drew (n:=t2.len) I;refine aX ⟨λ_=>False,id,V,O,m,o,p,id,t2,q,id,V,O,m,o,p,id,t2,q,aX ⟨j,aX ?_⟩⟩;refine(BW (a:=M) (b:=⟨some y.drew.heap.size,1,1⟩) (c:=t2) (z.src.ext (g.trans j)) aa (P.1.ext j) (by rw[nD,fH hi];simp;omega)).use ?_;rintro _ ab ⟨l,rfl,E,F,G⟩;refine⟨l,rfl,l,rfl,?_,(e.trans d).trans (g.trans (j.trans F)),G.mono ((e.trans d).trans (g.trans j)).size⟩;have:nC (n.keys.getD i [])++([UInt8.ofNat t2.len]++n.vals[i])=gJ n i:=by
   unfold gJ;rw[f,if_pos rfl,fH C,Z];rfl
  rwa[this]at E
 .have ao:=hs.wc f
  have H:i+1<n.kids.length:=by omega
  obtain⟨m,o,p,q⟩:=c2.at N.kids H;have ap:=hs.kids _ (cP H);rw[bq (n:=(i:Int)+1) I I,show(i:Int)+1=((i+1:Nat):Int) from I];refine⟨D,d3,m,o,p,_,q,?_⟩;rw[gI (n:=((n.kids[i+1]:Nat):Int)) I I];refine(gU z.src (n:=n.kids[i+1]) (k:=2) (by rw[nD,fH hi];omega) (by show _<18446744073709551616;omega) ⟨by decide,by decide⟩).use ?_;rintro _ ab ⟨l,rfl,E,F,G⟩;refine⟨l,rfl,l,rfl,?_,(e.trans d).trans F,gD.mono G (e.trans d).size⟩;have:nC (n.keys.getD i [])++bN n.kids[i+1] 2=gJ n i:=by
   unfold gJ;rw[f,if_neg (by simp),fH H]
  rwa[this]at E
theorem we{n:aD}(hs:cI n){i:Nat}(hi:i<n.keys.length):(gJ n i).length<=100:=by
 unfold gJ;have:=(hs.keys.ok _ (cP hi)).2;rw[cv,nD,fH hi];split
 .rename_i b
  have a:i<n.vals.length:=by have:=hs.sG b;omega
  have:=hs.vals _ (cP a);rw[nD,fH a];omega
 .rw[dz];omega
theorem yA{n:aD}(hs:cI n):∀m,m<=n.keys.length->(hL n 0 m).length<=100*m
 |0,_=>by simp[hL]
 |m+1,a=>by
  have:=yA hs m I
  have:=we hs (i:=m) I
  rw[yq,cv];omega
theorem oW{B:Nat->Prop}{w:J}{n:aD}{K V D:ad}(h:bT B w n K V D)(hs:cI n)(ah:n.keys.length<=255):
 aI aj 275 #[dg n K V D] w (λv w'=>∃s:ad,v=s/\aT 1 5 w' s (az (jr n))/\Ext w w'/\gD w s):=by
 refine okF (ae.oW n.leaf K V D) ax.oW func275 ?_;(delta ae.oW r1 Y aV ak aO aG bE aq;dsimp only);refine ba (vs:=[n.leaf,K,V,D]) rfl λw1 g l _=>?_;obtain⟨bU,aW,a8,bg⟩:=bK g;have u:=h.ext l;have E:=bH.len u.keys;have F:(#[.int .u8 (IntKind.wrap .u8 (K.len:Int))]:Array aa)=(az [UInt8.ofNat n.keys.length]).toArray:=by
  rw[E,tP I I];simp[az,j6 (show n.keys.length<256 from I)]
 refine⟨K,aW,?_⟩;rw[F];have m:=aT.new (T:=5) (sz:=1) w1 (az [UInt8.ofNat n.keys.length]) 1 rfl (by decide);have c:=c4 w1 (.cells (az [UInt8.ofNat n.keys.length]).toArray 5);obtain⟨ai,G⟩:∃ai,ai=w1.alloc (.cells (az [UInt8.ofNat n.keys.length]).toArray 5):=⟨_,rfl⟩;rw[←G]at m c⊢;obtain⟨d0,d1,d2,d3⟩:=bK (g.ext c);have H:=l.trans c;refine aX (cx (λd w'=>aT 1 5 w' d (az (preB n))/\Ext ai w'/\gD w1 d) (λq x=>⟨n.leaf,d0,λa=>?_,λa=>x _ _ ⟨?_,.refl _ _,?_⟩⟩) ?_)
 .have a:n.leaf=false:=by simpa using a
  have al:=hs.wc a;have o:0<n.kids.length:=by omega
  obtain⟨L,M,N,O⟩:=c2.at (h.ext H).kids o;have am:=hs.kids _ (cP o);refine⟨D,d3,L,M,N,_,O,?_⟩;rw[gI (n:=((n.kids[0]:Nat):Int)) I I];refine(gU m.src (n:=n.kids[0]) (k:=2) (by simp) (by show _<18446744073709551616;omega) ⟨by decide,by decide⟩).use ?_;rintro _ P ⟨p,rfl,e,b,f⟩;refine⟨p,rfl,x _ _ ⟨?_,b,gD.mono f c.size⟩⟩;have: [UInt8.ofNat n.keys.length]++bN n.kids[0] 2=preB n:=by
   unfold preB;rw[a,if_neg (by simp),fH o];rfl
  rwa[this]at e
 .have a:n.leaf=true:=by simpa using a
  have:preB n=[UInt8.ofNat n.keys.length]:=by unfold preB;rw[a];rfl
  rw[this];exact m
 .rintro k ⟨A,ar,rfl⟩
  cases ar;exact bk _
 rintro an ao ⟨Q,R,S⟩;have y:=c.trans R;obtain⟨d0,d1,d2,d3⟩:=bK (g.ext y);have ap:(preB n).length<=3:=by
  unfold preB
  cases n.leaf<;>simp[dz]
 refine⟨K,d1,λd i w'=>∃j:Nat,i=j/\j<=n.keys.length/\aT 1 5 w' d (az (preB n++hL n 0 j))/\Ext w1 w'/\gD w1 d,λ_ i _=>((n.keys.length:Int)-i).toNat,⟨0,rfl,cM _,by simpa[hL] using Q,y,S⟩,?_⟩;rintro p _ P ⟨j,rfl,U,e,b,f⟩;refine⟨λaH=>?_,λr=>?_⟩
 .have aH:j<n.keys.length:=by have:=cj aH;omega
  obtain⟨f0,f1,f2,f3⟩:=bK (g.ext b);refine⟨n.leaf,f0,K,f1,V,f2,D,f3,(nu (u.ext b) hs aH I).use ?_⟩;rintro _ au ⟨W,rfl,z,t,av⟩;have C:=lZ e;have X:=lZ z;have cB:=we hs aH;have b6:=yA hs j U;rw[cv]at C;obtain⟨Z,ab,aw,ay,aA,ac,af⟩:=mF.append (cF:=39) z.src (e.ext t) (iT _) (by rw[C,X];omega);rw[bq (n:=(j:Int)+1) I I];refine⟨W,rfl,Z,ab,aw,⟨j+1,I,I,?_,Ext.dT (b.trans t) ac f,λk ag=>?_⟩,?_⟩
  .rw[yq,←cD,mD];exact ay
  .rcases af k ag with h|h
   .exact f k h
   .exact eG (b.trans t).size h
  .show((n.keys.length:Int)-((j:Int)+1)).toNat<((n.keys.length:Int)-(j:Int)).toNat
   omega
 .have r:j=n.keys.length:=by have:=cE r;omega
  subst r;exact⟨p,rfl,e,l.trans b,f.mono l.size⟩
theorem oU{B:Nat->Prop}{w:J}{n:aD}{K V D:ad}(h:bT B w n K V D)(hs:cI n)(f:n.keys.length<=255):
 aI aj 262 #[dg n K V D] w (λv w'=>v=.int .i64 (bC n:Nat)/\Ext w w'):=by
 have g:n.vals.length<=100000:=by
  rcases hs with hs|hs
  .rw[hs.len];omega
  .rw[hs.vals];simp
 have i:n.kids.length<=100000:=by
  rcases hs with hs|hs
  .rw[hs.kids];simp
  .rw[hs.len];omega
 refine okF (ae.oU n.leaf K V D) ax.oU func262 ?_;(delta ae.oU aV Y r1 b8 ak bE;dsimp only);refine ba (vs:=[n.leaf,K,V,D]) rfl λw1 d a _=>?_;obtain⟨bU,aW,a8,bg⟩:=bK d;refine⟨n.leaf,bU,K,aW,V,a8,D,bg,(kj (h.ext a) I g i).use ?_⟩;rintro _ ai ⟨b,rfl,j,c⟩;have k:=j.2 hs;subst k;obtain⟨bU,aW,a8,bg⟩:=bK (d.ext c);refine⟨true,rfl,λh=>(by cases h),λ_=>⟨n.leaf,bU,K,aW,V,a8,D,bg,(oW (h.ext (a.trans c)) hs f).use ?_⟩⟩;rintro _ p ⟨l,rfl,m,o,_⟩;have e:=lZ m;rw[yu hs]at e;exact⟨l,rfl,by rw[e],(a.trans c).trans o⟩
def BY(n:aD)(w w':J)(v:aa):Prop:=
 (∃s:ad,v=.tuple #[s,(0:Int)]/\aT 1 5 w' s (az (jr n))/\gD w s/\cI n/\bC n<=232)\/
 (∃e:Int,v=.tuple #[(),e]/\e≠0/\(cI n->232<bC n))
theorem oS{B:Nat->Prop}{w:J}{n:aD}{K V D:ad}(h:bT B w n K V D)(m:n.keys.length<=100000)(o:n.vals.length<=100000)(p:n.kids.length<=100000):
 aI aj 254 #[dg n K V D] w (λv w'=>BY n w w' v/\Ext w w'):=by
 refine okF (ae.oS n.leaf K V D) ax.oS func254 ?_;(delta ae.oS aV Y r1 b8 ak bE;dsimp only);refine ba (vs:=[n.leaf,K,V,D]) rfl λw1 d e _=>?_;obtain⟨bU,aW,a8,bg⟩:=bK d;refine⟨n.leaf,bU,K,aW,V,a8,D,bg,(kj (h.ext e) m o p).use ?_⟩;rintro _ ai ⟨b,rfl,f,g⟩;have a:=e.trans g;obtain⟨bU,aW,a8,bg⟩:=bK (d.ext g);have u:=bH.len h.keys;refine⟨b,rfl,cx (λc w'=>ai=w'/\(c=true->cI n->255<n.keys.length)/\(c=false->cI n/\n.keys.length<=255)) (λq i=>⟨λh1=>i _ _ ⟨rfl,λ_ hs=>?_,λh=>(by cases h)⟩,λh1=>⟨K,aW,i _ _ ⟨rfl,λh2 hs=>?_,λh2=>?_⟩⟩⟩) ?_⟩
 .have h1:b=false:=by simpa using h1
  rw[f.2 hs]at h1;cases h1
 .have:=cj h2;omega
 .have h1:b=true:=by simpa using h1
  have:=cE h2;exact⟨f.1 h1,I⟩
 rintro c w' ⟨rfl,aw,ay⟩;refine⟨λh1=>⟨.inr ⟨4,rfl,by decide,λhs=>?_⟩,a⟩,λh1=>?_⟩
 .have:=aw h1 hs
  have:=vR hs;omega
 obtain⟨hs,r⟩:=ay h1;refine⟨n.leaf,bU,K,aW,V,a8,D,bg,(oW (h.ext a) hs r).use ?_⟩;rintro _ x ⟨j,rfl,k,l,s⟩;have t:=lZ k;rw[yu hs]at t;refine⟨j,rfl,λh2=>⟨.inr ⟨10,rfl,by decide,λ_=>?_⟩,a.trans l⟩,λh2=>⟨.inl ⟨j,rfl,k,s.mono a.size,hs,?_⟩,a.trans l⟩⟩
 .have:=cj h2;omega
 .have:=cE h2;omega
theorem qE{B:Nat->Prop}{w:J}{n:aD}{K V D:ad}(h:bT B w n K V D)(d:n.keys.length<=100000)(f:n.vals.length<=100000)(g:n.kids.length<=100000):
 aI aj 277 #[dg n K V D] w (λv w'=>BY n w w' v/\Ext w w'):=by
 refine okF (ae.qE n.leaf K V D) ax.qE func277 ?_;(delta ae.qE aV Y r1 ew;dsimp only);refine ba (vs:=[n.leaf,K,V,D]) rfl λw1 i a _=>?_;obtain⟨bU,aW,a8,bg⟩:=bK i;refine⟨n.leaf,bU,K,aW,V,a8,D,bg,(oS (h.ext a) d f g).use ?_⟩;rintro _ ai ⟨j,c⟩;rcases j with ⟨s,rfl,k,hf,hs,b⟩|⟨e,rfl,he,b⟩
 .exact⟨s,0,rfl,.inl ⟨s,rfl,k,hf.mono a.size,hs,b⟩,a.trans c⟩
 .exact⟨⟨none,0,0⟩,e,rfl,.inr ⟨e,rfl,he,b⟩,a.trans c⟩
def iV(n:Int):al:=decide (n>=0)&&decide (n<=65535)
theorem nt(n:Int)(w:J):aI aj 165 #[n] w (λv w'=>v=.bool (iV n)/\w=w'):=by
 refine okF (ae.nt n) ax.nt func165 ?_;unfold ae.nt;exact⟨rfl,rfl⟩
theorem qS{n:Int}(h:iV n=true):∃k:Nat,n=(k:Int)/\k<=65535:=by
 unfold iV at h;simp at h;exact⟨n.toNat,I,I⟩
def jt(b u:Nat):O UInt8:=bN b 2++bN u 8
theorem qm(b:Int){u:Nat}(hu:u<18446744073709551616)(w:J):aI aj 98 #[b,.int .u64 (u:Nat)] w (λv w'=>(iV b=false/\v=.tuple #[(),false]/\w=w')\/(iV b=true/\∃s:ad,v=.tuple #[s,true]/\aT 1 5 w' s (az (jt b.toNat u))/\Ext w w'/\∀q,aB s q->w.heap.size<=q)):=by
 refine okF (ae.qm b (u:Nat)) ax.qm func98 ?_;delta ae.qm b8 ak bE;refine(nt b w).use ?_;rintro _ _ ⟨rfl,rfl⟩;refine⟨_,rfl,λa=>.inl ⟨by simpa using a,rfl,rfl⟩,λa=>?_⟩;have a:iV b=true:=by simpa using a
 obtain⟨k,rfl,m⟩:=qS a;rw[gI (n:=(k:Int)) I I];refine(gU (s:=⟨none,0,0⟩) (l:=[]) (aT.none 1 5 w).src (by simp) (n:=k) (k:=2) I I).use ?_;rintro _ o ⟨e,rfl,f,c,p⟩;refine⟨e,rfl,(gU f.src (by rw[cv,dz];decide) (n:=u) (k:=8) hu I).use ?_⟩;rintro _ r ⟨d,rfl,g,h,i⟩;exact⟨d,rfl,.inr ⟨a,d,rfl,g,c.trans h,λq j=>by have:=i q j;have:=c.size;omega⟩⟩
def ig(p:br):UInt8:=if p.addr.dU then 6 else 4
def eX(s:Nat)(p:br):O UInt8:=bN s 2++([ig p,UInt8.ofNat p.bits.toNat]++p.addr.raw)
def dN(s:Int)(p:br):al:=decide (ga p.addr p.bits=some p)&&iV s
section
variable {w:J}{p:br}{b:Nat}{T:TypeId}
theorem yB(h:Var w b p.c T):bz w b 0 17=some p.addr.c:=by
 rw[h.sw (by rw[br.bF];decide),iM,br.c,n4 (a6.bF _)]
theorem yC(h:Var w b p.c T):w.cell? (Addr.add b 17)=some (.int .i64 p.bits):=by
 rw[aA,h.cell,br.c,il (by simp[a6.bF])];simp[a6.bF]
theorem BZ(h:Var w b p.c T):w.cell? b=some (.bool p.addr.dU):=by
 rw[h.cell,br.c,tb (by simp[a6.bF])];rfl
theorem sH(h:ga p.addr p.bits=some p):0<=p.bits/\p.bits<=128:=by
 unfold ga at h;split at h
 .rename_i a
  have:=p.addr.jo;split at this<;>omega
 .cases h
theorem mz(s:Int)(p:br)(w:J):aI aj 97 #[s,.agg p.c.toArray] w (λv w'=>Ext w w'/\((dN s p=false/\v=.tuple #[(),false])\/(dN s p=true/\∃t:ad,v=.tuple #[t,true]/\aT 1 5 w' t (az (eX s.toNat p))/\∀q,aB t q->w.heap.size<=q))):=by
 refine ae.Fq s _ w _ ?_;(delta ae.mz Y aG jM lh ak b8 aV bE ug;dsimp only);refine ba (vs:=p.c) rfl λw1 f Z ay=>⟨p.addr.c,yB f,p.bits,yC f,(oK p.addr p.bits w1).use ?_⟩;rintro _ aA ⟨rfl,o⟩;refine⟨_,_,rfl,ba (vs:=br.zero.c) rfl λaC H K aD=>⟨H.cn (by simp[br.bF]) (br.plain _),by simp[br.bF],cT H (us:=((ga p.addr p.bits).getD br.zero).c) (by simp[br.bF]) rfl λe aa L _=>?_⟩⟩;have M:=Z.trans o;have N:Ext w e:=Ext.cC (M.trans K) L M.size;have r:=((f.ext o).ext K).ah L (by have:=(f.ext o).lt;omega);refine cx (λb w'=>b= !decide (ga p.addr p.bits=some p)/\e=w') (λq d=>⟨λh=>d _ _ ⟨?_,rfl⟩,λh=>⟨_,aa.rd (br.bF _),_,r.rd (br.bF _),_,x9 _ _,d _ _ ⟨?_,rfl⟩⟩⟩) ?_
 .cases u:ga p.addr p.bits with
  |none=>simp
  |some m=>rw[u]at h;cases h
 .cases u:ga p.addr p.bits with
  |none=>rw[u]at h;cases h
  |some m=>simp
 rintro _ _ ⟨rfl,rfl⟩;refine cx (λb w'=>b= !dN s p/\e=w') (λq d=>⟨λh=>d _ _ ⟨?_,rfl⟩,λh=>(nt s e).use ?_⟩) ?_
 .unfold dN
  rw[iK]at h;rw[h];rfl
 .rintro _ _ ⟨rfl,rfl⟩
  refine⟨_,rfl,d _ _ ⟨?_,rfl⟩⟩;unfold dN;rw[mg]at h;rw[h,g0]
 rintro _ _ ⟨rfl,rfl⟩;refine⟨λh=>⟨N,.inl ⟨by simpa using h,rfl⟩⟩,λh=>?_⟩;have hg:dN s p=true:=by simpa using h
 have x:=hg;unfold dN at x;rw[c8,cg]at x;obtain⟨ab,ac⟩:=x;obtain⟨k,rfl,aE⟩:=qS ac;have aF:=sH ab;have af:IntKind.wrap .u8 p.bits=(((UInt8.ofNat p.bits.toNat).toNat:Nat):Int):=by
  rw[rv];show p.bits%256=_;omega
 refine cx (λn w'=>n=(((ig p).toNat:Nat):Int)/\e=w') (λq d=>⟨_,BZ r,λh=>d _ _ ⟨by unfold ig;rw[if_pos h];rfl,rfl⟩,λh=>d _ _ ⟨by unfold ig;rw[if_neg (by rw[h];decide)];rfl,rfl⟩⟩) ?_;rintro _ _ ⟨rfl,rfl⟩;have O:=cG e;have y:=r.ext O;have z:=N.trans O;refine aX ?_;generalize e.drew=g at y z;refine⟨λ_=>False,id,_,yC y,id,_,yB y,?_⟩;rw[af,gI (n:=(k:Int)) I I];have fin:∀ (w':J) (a b c:ad),Ext g w'->Src 1 w' a (az ([]++bN k 2))->Src 1 w' b (az [ig p,UInt8.ofNat p.bits.toNat])->Src 1 w' c (az p.addr.raw)->
  ao (w'.alloc (.cells #[a,b,c] 39)) λag=>Calls aj 103 #[.slice (some w'.heap.size) 3 3] ag λai A=>
   ∃B:ad,ai=.returned B/\(Ext w A/\((dN (k:Int) p=false/\Value.tuple #[B,true]=.tuple #[(),false])\/(dN (k:Int) p=true/\∃t:ad,Value.tuple #[B,true]=.tuple #[t,true]/\aT 1 5 A t (az (eX (k:Int).toNat p))/\∀q,aB t q->w.heap.size<=q))):=λw' a b c hx al am hc=>by
  refine aX ((BW al am hc ?_).use ?_)
  .have:=p.addr.jo
   rw[hA,dz];show 2+2+p.addr.raw.length<=1000;split at this<;>omega
  .rintro _ A ⟨t,rfl,an,ap,hf⟩
   have aH:=z.size;have aJ:=hx.size;exact⟨t,rfl,z.trans (hx.trans ap),.inr ⟨hg,t,rfl,an,λq d=>by have:w'.heap.size<=q:=hf q d;omega⟩⟩
 have put:∀ (w':J),aI aj 115 #[(),.int .u64 (k:Nat),(2:Int)] w' (λv P=>∃C:ad,v=C/\aT 1 5 P C (az ([]++bN k 2))/\Ext w' P/\∀q,aB C q->w'.heap.size<=q):=λw'=>gU (s:=⟨none,0,0⟩) (l:=[]) (aT.none 1 5 w').src (by simp) (n:=k) (k:=2) I I;have lit:∀ (w':J),Src 1 (w'.alloc (.cells #[.int .u8 (((ig p).toNat:Nat):Int),.int .u8 (((UInt8.ofNat p.bits.toNat).toNat:Nat):Int)] 5)) ⟨some w'.heap.size,2,2⟩ (az [ig p,UInt8.ofNat p.bits.toNat]):=λw'=>Src.new (T:=5) w' (az [ig p,UInt8.ofNat p.bits.toNat]) 2 rfl;refine⟨(put g).use ?_,aX ⟨c4 _ _,(put _).use ?_⟩⟩
 .rintro _ Q ⟨D,rfl,R,E,_⟩
  refine⟨D,rfl,E,aX ⟨c4 _ _,(lU p.addr _).use ?_⟩,(lU p.addr _).use ?_⟩
  .rintro _ aq ⟨S,rfl,ar,_,i,_⟩
   exact⟨S,rfl,i,fin aq D ⟨some Q.heap.size,2,2⟩ S (E.trans ((c4 _ _).trans i)) (R.src.ext ((c4 _ _).trans i)) ((lit Q).ext i) ar.src⟩
  .rintro _ U ⟨V,rfl,au,_,F,_⟩
   exact⟨V,rfl,F,aX ⟨c4 _ _,fin _ D ⟨some U.heap.size,2,2⟩ V (E.trans (F.trans (c4 _ _))) (R.src.ext (F.trans (c4 _ _))) (lit U) (au.src.ext (c4 _ _))⟩⟩
 .rintro _ aK ⟨W,rfl,av,G,_⟩
  refine⟨W,rfl,G,(lU p.addr _).use ?_⟩;rintro _ aw ⟨X,rfl,ax,_,j,_⟩;exact⟨X,rfl,j,fin aw W ⟨some g.heap.size,2,2⟩ X ((c4 _ _).trans (G.trans j)) (av.src.ext j) ((lit g).ext (G.trans j)) ax.src⟩
end
structure aF where
 s:Int
 p:br
 b:Int
 u:Nat
def aF.c(t:aF):O aa:=.int .i64 t.s::(t.p.c++ [.int .i64 t.b,.int .u64 (t.u:Nat)])
theorem aF.bF(t:aF):t.c.length=21:=by simp[aF.c,br.bF]
section
variable {w:J}{t:aF}{b:Nat}{T:TypeId}
theorem qT(h:Var w b t.c T):bz w (Addr.add ⟨b,0,none⟩ 1) 0 18=some t.p.c:=by
 rw[aA,h.sw (by rw[aF.bF];decide)];show some (List.take 18 (t.p.c++_))=_;rw[n4 (br.bF _)]
theorem yD(h:Var w b t.c T):w.cell? (Addr.add ⟨b,0,none⟩ 19)=some (.int .i64 t.b):=by
 rw[aA,h.cell];show(t.p.c++_)[18]? =_;rw[il (by rw[br.bF];decide),br.bF];rfl
theorem B0(h:Var w b t.c T):w.cell? (Addr.add ⟨b,0,none⟩ 20)=some (.int .u64 (t.u:Nat)):=by
 rw[aA,h.cell];show(t.p.c++_)[19]? =_;rw[il (by rw[br.bF];decide),br.bF];rfl
def aF.ej(t:aF):al:=dN t.s t.p&&iV t.b
theorem oI(t:aF)(w:J):aI aj 96 #[.agg t.c.toArray] w (λv w'=>v=t.ej/\Ext w w'):=by
 refine ae.Fp _ w _ ?_;(delta ae.oI aG Y jL ak b8;dsimp only);refine ba (vs:=t.c) rfl λw1 a i l=>⟨t.s,a.cell,t.p.c,qT a,(mz t.s t.p w1).use ?_⟩;rintro v f ⟨g,j⟩;have k:=a.ext g;have key:∃ (d:ad),v=.tuple #[d,.bool (dN t.s t.p)]:=by
  rcases j with ⟨hg,rfl⟩|⟨hg,s,rfl,_⟩
  .exact⟨⟨none,0,0⟩,by rw[hg]⟩
  .exact⟨s,by rw[hg]⟩
 obtain⟨d,rfl⟩:=key;refine⟨d,_,rfl,cx (λb w'=>b=t.ej/\f=w') (λq h=>⟨λe=>⟨t.b,yD k,(nt t.b f).use ?_⟩,λe=>h _ _ ⟨?_,rfl⟩⟩) ?_⟩
 .rintro _ _ ⟨rfl,rfl⟩
  exact⟨_,rfl,h _ _ ⟨by unfold aF.ej;rw[e,g0],rfl⟩⟩
 .unfold aF.ej;rw[e,kC]
 .rintro _ _ ⟨rfl,rfl⟩
  exact⟨rfl,i.trans g⟩
end
theorem yE{a:a6}(h:a.ej=true):hJ a.raw=some a:=by
 have d:=a.jo;obtain⟨c,e⟩:=Bv (l:=a.raw) (by split at d<;>omega);obtain⟨h1,h2⟩:=Bu e;have f:=Bt e;have hs:c.dU=a.dU:=by
  cases hx:a.dU with
  |true=>exact h2.2 (by rw[d,hx];rfl)
  |false=>
   cases g:c.dU with
   |false=>rfl
   |true=>
    have:=h2.1 g;rw[d,hx]at this;cases this
 have i:c.b=a.b:=by
  unfold a6.raw at h1;rw[hs]at h1
  cases hx:a.dU with
  |true=>rw[hx]at h1;exact h1
  |false=>
   rw[hx]at h1;have h1:c.b.drop 12=a.b.drop 12:=h1;unfold a6.ej at h f;rw[hs,hx,mW,cg]at f;rw[hx,mW,cg]at h;rw[←fK 12 c.b,←fK 12 a.b,h1,f,h]
 rw[e,a6.ext' hs i]
def aF.zero:aF:=⟨0,br.zero,0,0⟩
theorem Hb(w:J)(p:br)(s b u:Int):Sem.run aj (Instr.build 57 #[(0,.int .i64 s),(1,.agg p.c.toArray),(2,.int .i64 b),(3,.int .u64 u)]) w=.ok (.agg (.int .i64 s::(p.c++ [.int .i64 b,.int .u64 u])).toArray) w:=by
 obtain⟨⟨dU,l,h⟩,n⟩:=p;obtain⟨ck,a,d,e,f,g,i,j,k,m,o,q,r,t,v,x,rfl⟩:=su l h
 kernel_rfl
theorem aF.plain(t:aF):∀v∈t.c,Plain v:=λv a=>by
 unfold aF.c at a
 rcases c0.1 a with rfl|a
 .trivial
 .rcases cO.1 a with a|a
  .exact br.plain _ v a
  .simp only[c0,fw,fD]at a
   rcases a with rfl|rfl<;>trivial
theorem wg(k:Nat)(p:br):(eX k p).length=4+p.addr.raw.length:=by
 unfold eX;rw[cv,cv,dz];show 2+(2+p.addr.raw.length)=_;omega
theorem qU(b u:Nat):(jt b u).length=10:=by unfold jt;rw[cv,dz,dz]
theorem yF{k:Nat}(h:k<=65535)(p:br):hK (((eX k p).drop 0).take 2)=k:=by
 rw[iM];unfold eX;rw[n4 (dz k 2),qN 2 k I]
theorem yG(k:Nat)(p:br):(eX k p)[3]? =some (UInt8.ofNat p.bits.toNat):=by
 unfold eX;rw[il (by rw[dz];decide),dz];rfl
theorem yH(k:Nat)(p:br):(eX k p).drop 4=p.addr.raw:=by
 unfold eX;rw[show 4=2+2 from rfl,←kZ,List.drop_left' (dz k 2)];exact List.drop_left' rfl
theorem Hc{b:Nat}(h:b<=65535)(u:Nat):hK (((jt b u).drop 0).take 2)=b:=by
 rw[iM];unfold jt;rw[n4 (dz b 2),qN 2 b I]
theorem Hd(b:Nat){u:Nat}(h:u<18446744073709551616):hK (((jt b u).drop 2).take 8)=u:=by
 unfold jt;rw[List.drop_left' (dz b 2),dC (by rw[dz];exact bk _),qN 8 u I]
theorem qi{w:J}{d sv:ad}{k b u:Nat}{p:br}(e:Src 1 w d (az (eX k p)))(y:d.len<=d.cap)(f:Src 1 w sv (az (jt b u)))(z:sv.len<=sv.cap)(hg:dN (k:Int) p=true)(g:b<=65535)(hu:u<18446744073709551616):
 aI aj 51 #[d,sv] w (λv w'=>v=.tuple #[.agg (aF.mk (k:Nat) p (b:Nat) u).c.toArray,true]/\Ext w w'):=by
 have j:=hg;unfold dN at j;rw[c8,cg]at j;obtain⟨B,Q⟩:=j;have R:k<=65535:=by obtain⟨n,h1,h2⟩:=qS Q;omega
 have ay:=vJ p.addr;have aA:d.len=4+p.addr.raw.length:=by have:=e.len;rw[c9,wg]at this;omega
 have aB:sv.len=10:=by have:=f.len;rw[c9,qU]at this;omega
 have S:p.addr.ej=true:=(yd B).2.1;have aC:=sH B;refine okF (ae.qi d sv) ax.qi func51 ?_;(delta ae.qi z3 nm ak Y jM z4 aO dv aq aG jL b8;dsimp only);refine ba (vs:=aF.zero.c) rfl λw1 T l aD=>(ki (e.ext l) y (a:=0) (k:=2) I (by rw[wg];omega) (by rw[wg];omega)).use ?_;rintro _ _ ⟨rfl,rfl⟩;rw[yF R];refine⟨_,true,rfl,λg=>?_,λ_=>⟨⟨by decide,I⟩,?_⟩⟩
 .exfalso
  simp only[Bool.not_true,mW,je,cg,bne_iff_ne]at g;omega
 have C:=Src.sub (e.ext l) y (lo:=4) (hi:=d.len) I (bk _);have U:((az (eX k p)).drop 4).take (d.len-4)=az p.addr.raw:=by
  have h1:(az (eX k p)).drop 4=az p.addr.raw:=by rw[←yH k p];unfold az;rw[mb]
  rw[h1,dC (by rw[c9];omega)]
 rw[U]at C;refine(qn C).use ?_;rintro _ V ⟨rfl,D⟩;rw[yE S];refine⟨_,_,rfl,ba (vs:=a6.zero.c) rfl λaE E W aH=>⟨E.cn (by simp[a6.bF]) (a6.plain _),by simp[a6.bF],cT E (us:=p.addr.c) (by simp[a6.bF]) rfl λm X Z _=>?_⟩⟩;have aa:=l.trans D;have F:Ext V m:=Ext.cC W Z (bk _);have o:=aa.trans F;refine(ki (f.ext o) z (a:=0) (k:=2) I (by rw[qU];decide) (by rw[qU];decide)).use ?_;rintro _ _ ⟨rfl,rfl⟩;rw[Hc g];refine⟨_,true,rfl,(ki (f.ext o) z (a:=2) (k:=8) I (by rw[qU];decide) (by rw[qU];decide)).use ?_⟩;rintro _ _ ⟨rfl,rfl⟩;rw[Hd b hu];have r:=cG m;have s:=o.trans r;have G:=X.ext r;have H:=(T.ext D).ext (F.trans r);refine⟨_,true,rfl,aX ?_⟩;generalize m.drew=ab at s G H;obtain⟨A,ar,ac,af⟩:=(e.ext s).at (i:=3) (v:=.int .u8 (((UInt8.ofNat p.bits.toNat).toNat:Nat):Int)) (by unfold az;rw[n2,yG];rfl);have ag:IntKind.wrap .i64 (((UInt8.ofNat p.bits.toNat).toNat:Nat):Int)=p.bits:=by
  rw[rv,bq I I];omega
 refine⟨λ_=>False,id,p.addr.c,G.rd (a6.bF _),A,ar,ac,id,_,af,?_⟩;rw[ag,bq (n:=(k:Int)) I I,bq (n:=(b:Int)) I I];refine⟨p.c.toArray,λah=>x_ ah p.addr p.bits,(aF.mk (k:Nat) p (b:Nat) u).c.toArray,λai=>Hb ai p _ _ _,ba (vs:=aF.zero.c) rfl λaJ K L aK=>⟨L,K.cn (by simp[aF.bF]) (aF.plain _),by simp[aF.bF],cT K (us:=(aF.mk (k:Nat) p (b:Nat) u).c) (by simp[aF.bF]) rfl λM t al _=>?_⟩⟩;have N:Ext ab M:=Ext.cC L al (bk _);refine⟨_,t.cell,_,qT t,(mz (k:Nat) p M).use ?_⟩;rintro _ am ⟨x,⟨hf,_⟩|⟨_,an,rfl,ao,_⟩⟩
 .rw[hg]at hf;cases hf
 have O:=(s.trans N).trans x;have ap:=t.ext x;have P:=(H.ext N).ext x;refine⟨an,true,rfl,cx (λb w'=>b=false/\am=w') (λq au=>⟨λh=>(by cases h),λ_=>(oF ao.src (e.ext O)).use ?_⟩) ?_⟩
 .rintro _ _ ⟨rfl,rfl⟩
  exact⟨_,rfl,au _ _ ⟨by rw[dc,dR rfl];rfl,rfl⟩⟩
 rintro _ _ ⟨rfl,rfl⟩;refine⟨λh=>(by cases h),λ_=>⟨_,ap.rd (aF.bF _),P.cn (by simp[aF.bF]) (aF.plain _),by simp[aF.bF],cT P (us:=(aF.mk (k:Nat) p (b:Nat) u).c) (by simp[aF.bF]) rfl λaL av aw _=>⟨_,av.rd (aF.bF _),rfl,Ext.cC O aw (bk _)⟩⟩⟩
theorem oZ(n:Int)(w:J):aI aj 162 #[n] w (λv w'=>v=.bool (iV n)/\w=w'):=by
 refine okF (ae.oZ n) ax.oZ func162 ?_;unfold ae.oZ;exact⟨rfl,rfl⟩
section
variable {w:J}{t:aF}{b:Nat}{T:TypeId}
theorem He(h:Var w b t.c T):bz w (Addr.add ⟨b,0,none⟩ 1) 0 17=some t.p.addr.c:=by
 rw[aA,h.sw (by rw[aF.bF];decide)];show some (List.take 17 (t.p.c++_))=_;rw[br.c,cD,n4 (a6.bF _)]
theorem Hf(h:Var w b t.c T):w.cell? ((Addr.add ⟨b,0,none⟩ 1).add 17)=some (.int .i64 t.p.bits):=by
 rw[aA,aA,h.cell];show(t.p.c++_)[17]? =_;rw[tb (by rw[br.bF];decide),br.c,il (by rw[a6.bF];decide),a6.bF];rfl
theorem nw(t:aF)(w:J):aI aj 86 #[.agg t.c.toArray] w (λv w'=>v=t.ej/\Ext w w'):=by
 refine ae.FP _ w _ ?_;(delta ae.nw Y aG jM lh b8 ak;dsimp only);refine ba (vs:=t.c) rfl λw1 e o x=>⟨_,He e,_,Hf e,(oY t.p.addr t.p.bits w1).use ?_⟩;rintro _ y ⟨rfl,f⟩;refine⟨_,_,rfl,ba (vs:=br.zero.c) rfl λz j k A=>⟨j.cn (by simp[br.bF]) (br.plain _),by simp[br.bF],cT j (us:=((ga t.p.addr t.p.bits).getD br.zero).c) (by simp[br.bF]) rfl λa r l _=>?_⟩⟩;have n:=o.trans f;have u:Ext w a:=Ext.cC (n.trans k) l n.size;have g:=((e.ext f).ext k).ah l (by have:=(e.ext f).lt;omega);refine⟨_,g.cell,(oZ t.s a).use ?_⟩;rintro _ _ ⟨rfl,rfl⟩;refine⟨_,rfl,cx (λb w'=>b=(iV t.s&&iV t.b)/\a=w') (λq d=>⟨λh=>⟨_,yD g,(oZ t.b a).use ?_⟩,λh=>d _ _ ⟨by rw[h,kC],rfl⟩⟩) ?_⟩
 .rintro _ _ ⟨rfl,rfl⟩
  exact⟨_,rfl,d _ _ ⟨by rw[h,g0],rfl⟩⟩
 rintro _ _ ⟨rfl,rfl⟩;refine cx (λb w'=>b=t.ej/\a=w') (λq d=>⟨λh=>⟨_,r.rd (br.bF _),_,qT g,_,x9 _ _,d _ _ ⟨?_,rfl⟩⟩,λh=>d _ _ ⟨?_,rfl⟩⟩) ?_
 .rw[c8,c8]at h
  unfold aF.ej dN;rw[h.1.1,h.1.2,pI,pI]
  cases i:ga t.p.addr t.p.bits with
  |none=>rw[i]at h;cases h.2
  |some m=>simp
 .unfold aF.ej dN
  cases i:ga t.p.addr t.p.bits with
  |none=>simp
  |some m=>
   rw[i]at h;have h:(iV t.s&&iV t.b)=false:=by simpa using h
   cases h1:iV t.s
   .simp
   .rw[h1,g0]at h;rw[h];simp
 .rintro _ _ ⟨rfl,rfl⟩
  exact⟨rfl,u⟩
end
theorem eE{w:J}{b i:Nat}{vs:O aa}{T:TypeId}(h:Var w b vs T)(v:aa):Var (w.setCell ⟨b,i,none⟩ v) b (vs.set i v) T:=by
 have:=bj.set h i v;have e:vs.toArray.setIfInBounds i v=(vs.set i v).toArray:=by simp
 rw[e]at this;exact this
theorem eF{w:J}{b i:Nat}{vs:O aa}{T:TypeId}(h:Var w b vs T)(hi:i<vs.length):(∃u:aa,w.cell? ⟨b,i,none⟩=some u)/\w.frozen? ⟨b,i,none⟩=false:=
 ⟨⟨vs[i],by rw[h.cell];simp[hi]⟩,bj.frozen h _ rfl⟩
theorem ed(w:J)(b i:Nat)(v:aa):af (λq=>q=b) w (w.setCell ⟨b,i,none⟩ v):=af.gJ (.refl _ _) v
structure ju(w:J)(r:Nat)(s:ad)(rd:Rd):Prop where
 v:Var w r [s,rd.2] 342
 src:Src 1 w s (az rd.1)
 le:s.len<=s.cap
 ne:∀k,aB s k->k≠r
theorem ju.ah{W:Nat->Prop}{w w':J}{r:Nat}{s:ad}{rd:Rd}(h:ju w r s rd)(hc:af W w w')(h1:¬W r)(h2:∀k,aB s k->¬W k):ju w' r s rd:=⟨h.v.ah hc h1,h.src.ah hc h2,h.le,h.ne⟩
theorem ju.ext{w w':J}{r:Nat}{s:ad}{rd:Rd}(h:ju w r s rd)(hc:Ext w w'):ju w' r s rd:=ju.ah h hc id λ_ _ h=>h
theorem wh{a:av ag}{z l m n c k:Nat}(h:aB ⟨aZ a z l m,n,c⟩ k):∃A,a=some A/\A.block=k:=by
 obtain⟨A,ar,rfl⟩:=h;unfold aZ at ar;split at ar
 .exact⟨A,ar,rfl⟩
 .cases b:a with
  |none=>rw[b]at ar;cases ar
  |some d=>
   rw[b]at ar;simp only[l_,Option.some.injEq]at ar;exact⟨d,rfl,by subst ar;unfold Addr.add;split<;>rfl⟩
theorem B1{w:J}{r:Nat}{s:ad}{rd:Rd}(h:ju w r s rd)(k:Nat)(z:k<=100000)(u:rd.1.length<=100000):
 aI aj 274 #[.pointer (some r),k] w (λv w'=>∃t m:ad,v=t/\bu (λq=>w.heap.size<=q) w' t (hM rd k).1/\ju w' r m (hM rd k).2/\af (λq=>q=r) w w'/\(∀q,aB m q->aB s q)):=by
 obtain⟨l,ok⟩:=rd;have f:=h.v;have x:=len8 h.src;simp only at x u f;have aH:=f.lt;refine okF (ae.vA (some r) (k:Int)) ax.vA func274 ?_;(delta ae.vA aV ak r1 st bE;dsimp only);refine⟨_,rfl,ok,by rw[aA];exact f.cell,cx (λb w'=>w=w'/\b=decide (ok=false\/l.length<k)) (λq c=>⟨λh1=>c _ _ ⟨rfl,?_⟩,λh1=>⟨_,rfl,s,f.cell,c _ _ ⟨rfl,?_⟩⟩⟩) ?_⟩
 .have h1:ok=false:=by simpa using h1
  exact(dR (.inl h1)).symm
 .have h1:ok=true:=by simpa using h1
  subst h1;rw[e0,cg,cg];constructor
  .intro h;exact .inr I
  .rintro(h|h)
   .cases h
   .omega
 rintro b w' ⟨rfl,rfl⟩;refine⟨λd=>⟨_,rfl,?_⟩,λd=>⟨_,rfl,s,f.cell,?_⟩⟩
 .have d:=cj d
  obtain⟨aw,ay⟩:=eF f (i:=1) (by simp);rw[aA];have hc:=ed w r 1 false;have e:hM (l,ok) k=([],(l,false)):=by unfold hM;rw[if_pos d]
  rw[e];refine⟨aw,ay,aX ⟨⟨none,0,0⟩,s,rfl,⟨(aT.none 1 5 _).src,bk _,λq c=>(f_ q c).elim⟩,⟨eE f _,h.src.ah hc λq c=>h.ne q c,h.le,h.ne⟩,hc,λq c=>c⟩⟩
 .have d:=cE d
  have e:hM (l,ok) k=(l.take k,(l.drop k,true)):=by unfold hM;rw[if_neg d]
  have C:k<=l.length:=by
   rcases dX l.length k with h1|h1
   .exact absurd (.inr h1) d
   .exact h1
  have y:ok=true:=by
   cases ok with
   |true=>rfl
   |false=>exact absurd (.inl rfl) d
  subst y;rw[e];have D:=h.le;refine⟨⟨I,I⟩,?_⟩;have n:=pc h.src h.le (lo:=0) (hi:=k) I I;rw[iM,mY]at n;rw[dc,mY];refine(l0 (B:=λq=>w.heap.size<=q) (s:=⟨aZ s.a 1 0 s.cap,k,s.cap-0⟩) n (by rw[cz];omega) (λq c=>c)).use ?_;rintro _ w1 ⟨t,rfl,ht,g,E⟩;have j:=f.ext g;obtain⟨aw,ay⟩:=eF j (i:=0) (by simp);have hc:=ed w1 r 0 (.slice (aZ s.a 1 k s.cap) (s.len-k) (s.cap-k));have o:=pc (h.src.ext g) h.le (lo:=k) (hi:=s.len) I (bk _);rw[dC (l:=l.drop k) (by rw[eg];omega)]at o;have p:∀q,aB ⟨aZ s.a 1 k s.cap,s.len-k,s.cap-k⟩ q->q≠r:=λq c=>by
   obtain⟨A,ar,d⟩:=wh c;exact h.ne q ⟨A,ar,d⟩
  refine⟨t,rfl,_,rfl,s,j.cell,⟨I,I⟩,_,rfl,aw,ay,aX ⟨t,⟨aZ s.a 1 k s.cap,s.len-k,s.cap-k⟩,rfl,bu.ah ht hc (λq c e=>by subst e;omega),⟨eE j _,o.ah hc λq c=>p q c,by show s.len-k<=s.cap-k;omega,p⟩,(af.cX g).trans hc,λq c=>?_⟩⟩;obtain⟨A,ar,d⟩:=wh c;exact⟨A,ar,d⟩
theorem yI{w:J}{r:Nat}{s:ad}{rd:Rd}(h:ju w r s rd)(k:Nat)(c:1<=k/\k<=2)(g:rd.1.length<=100000):
 aI aj 252 #[.pointer (some r),k] w (λv w'=>∃b:ad,v=.int .i64 ((rdNum rd k).1:Nat)/\ju w' r b (rdNum rd k).2/\af (λq=>q=r) w w'/\(∀q,aB b q->aB s q)):=by
 refine okF (ae.vw (some r) (k:Int)) ax.vw func252 ?_;delta ae.vw bE nm aq;refine(B1 h k I g).use ?_;rintro _ w1 ⟨t,b,rfl,ht,d,hc,e⟩;have hlen:(hM rd k).1.length=k\/(hM rd k).1=[]:=by
  unfold hM;split
  .exact .inr rfl
  .rename_i i
   left;rw[cz];have:¬rd.1.length<k:=λh=>i (.inr h);omega
 have f:=sx k (hM rd k).1;have j:256^k<=65536:=eG (tc I c.2) (by decide);refine⟨t,rfl,?_⟩;rcases hlen with hlen|hlen
 .refine(ki (a:=0) (k:=k) ht.1 ht.2.1 ⟨c.1,I⟩ I I).use ?_
  rintro _ _ ⟨rfl,rfl⟩;have f:=f hlen;rw[iM,dC I];refine⟨_,_,rfl,b,?_,d,hc,e⟩;rw[bq I I];unfold rdNum;rw[if_pos hlen]
 .refine(G1 (k:=k) ht.1 I (by rw[hlen];simp;omega)).use ?_
  rintro _ _ ⟨rfl,rfl⟩;refine⟨_,_,rfl,b,?_,d,hc,e⟩;unfold rdNum;rw[if_neg (by rw[hlen];simp;omega)];rfl
theorem yJ(rd:Rd)(k:Nat):(rdNum rd k).1<256^k:=by
 unfold rdNum;split
 .exact sx k _ (by assumption)
 .exact Nat.pow_pos I
theorem B2(rd:Rd)(k:Nat):(hM rd k).2.1.length<=rd.1.length/\(hM rd k).1.length<=k:=by
 unfold hM;split
 .exact⟨bk _,cM _⟩
 .exact⟨by rw[eg];omega,by rw[cz];omega⟩
theorem wi(rd:Rd)(k:Nat):(rdNum rd k).2.1.length<=rd.1.length:=(B2 rd k).1
theorem B3(rd:Rd):(jR rd).2.1.length<=rd.1.length/\(jR rd).1.length<=255:=by
 unfold jR;have h1:=B2 (rdNum rd 1).2 (rdNum rd 1).1;have h2:=wi rd 1;have a:(rdNum rd 1).1<256:=yJ rd 1;exact⟨I,I⟩
theorem B4{w:J}{r:Nat}{s:ad}{rd:Rd}(h:ju w r s rd)(d:rd.1.length<=100000):
 aI aj 253 #[.pointer (some r)] w (λv w'=>∃t b:ad,v=t/\bu (λq=>w.heap.size<=q) w' t (jR rd).1/\ju w' r b (jR rd).2/\af (λq=>q=r) w w'/\(∀q,aB b q->aB s q)):=by
 refine okF (ae.vx (some r)) ax.vx func253 ?_;delta ae.vx bP bE;refine(yI h 1 I d).use ?_;rintro _ w1 ⟨s1,rfl,e,c,f⟩;have k:(rdNum rd 1).1<256:=yJ rd 1;have l:=wi rd 1;refine⟨_,rfl,(B1 e (rdNum rd 1).1 I I).use ?_⟩;rintro _ ai ⟨t,s2,rfl,ht,g,i,j⟩;exact⟨t,rfl,t,s2,rfl,bu.a_ ht λq _ a=>eG c.size a,g,c.trans i,λq a=>f q (j q a)⟩
theorem bm.a_{B C:Nat->Prop}{w:J}{s:ad}{ls:O Key}(h:bm B w s ls)(a:∀k,k<w.heap.size->B k->C k):bm C w s ls:=by
 obtain⟨ts,h1,h2,e,b⟩:=h;exact⟨ts,h1,h2,In.a_ e a,λi c d=>⟨bu.a_ (b i c d).1 a,(b i c d).2⟩⟩
theorem cN.a_{B C:Nat->Prop}{w:J}{s:ad}{ds:O Nat}(h:cN B w s ds)(a:∀k,k<w.heap.size->B k->C k):cN C w s ds:=⟨h.1,In.a_ h.2 a⟩
def Grow(B:Nat->Prop)(w w':J)(q:Nat):Prop:=B q\/(w.heap.size<=q/\q<w'.heap.size)
theorem wj{w:J}{nb o:Nat}{vs:O aa}{S t:ad}{ls:O Key}{l:Key}{B:Nat->Prop}{T:TypeId}{W:Nat->Prop}(d:Var w nb vs T)(p:o<vs.length)(f:bm B w S ls)(g:¬B nb)
 (ht:bu B w t l) (hd:∀k,aB t k->¬aB S k) (D:ls.length<=100000) {K:J->Prop}
 (r:∀ (w':J) (aE:ad),Var w' nb (vs.set o aE) T->bm (Grow B w w') w' aE (ls++ [l])->af (λq=>q=nb\/aB S q) w w'->K w'):
 ao (w.alloc (.cells #[t] 39)) λi=>af W w i/\∃j:ad,∃b:J,Sem.run aj (Builtin.append_ #[93,93] 93 #[S,.slice (some w.heap.size) 1 1]) i=.ok j b/\
  (∃u:aa,b.cell? (Addr.add nb o)=some u)/\b.frozen? (Addr.add nb o)=false/\ao (b.setCell (Addr.add nb o) j) λs=>K s:=by
 have v:=bm.a_ (C:=λq=>B q\/w.heap.size<=q) f λk _ h=>.inl h;have x:=bu.a_ (C:=λq=>B q\/w.heap.size<=q) ht λk _ h=>.inl h;obtain⟨c,w',aw,ay,m,E⟩:=BT v x hd I λk a=>.inr a;have F:=d.lt;have y:¬aB S nb:=λh=>by
  obtain⟨ts,_,_,z,_⟩:=f;exact g (z nb h).1
 have n:=d.ah m y;obtain⟨aW,a8⟩:=eF n p;refine aX ⟨af.cX (c4 _ _),c,w',aw,?_⟩;rw[aA,cR];have hc:=ed w' nb o c;refine⟨aW,a8,aX (r _ c (eE n _) ?_ ?_)⟩
 .have A:=bm.a_ (C:=Grow B w (w'.setCell ⟨nb,o,none⟩ c)) ay λk a h=>by
   rcases h with h|h
   .exact .inl h
   .exact .inr ⟨h,fi a hc.size⟩
  refine bm.ah A hc λk a e=>?_;subst e;rcases a with h|h
  .exact g h
  .omega
 .exact(m.mono λk _ h=>.inr h).trans (hc.mono λk _ h=>.inl h)
theorem B5{w:J}{nb o:Nat}{vs:O aa}{S:ad}{ds:O Nat}(d:Nat){B:Nat->Prop}{T:TypeId}{W:Nat->Prop}(f:Var w nb vs T)(p:o<vs.length)(g:cN B w S ds)(i:¬B nb)
 (y:ds.length<=100000) {K:J->Prop}
 (r:∀ (w':J) (aE:ad),Var w' nb (vs.set o aE) T->cN (Grow B w w') w' aE (ds++ [d])->af (λq=>q=nb\/aB S q) w w'->K w'):
 ao (w.alloc (.cells #[d] 3)) λj=>af W w j/\∃l:ad,∃b:J,Sem.run aj (Builtin.append_ #[72,72] 72 #[S,.slice (some w.heap.size) 1 1]) j=.ok l b/\
  (∃u:aa,b.cell? (Addr.add nb o)=some u)/\b.frozen? (Addr.add nb o)=false/\ao (b.setCell (Addr.add nb o) l) λs=>K s:=by
 have t:=cN.a_ (C:=λq=>B q\/w.heap.size<=q) g λk _ h=>.inl h;obtain⟨c,w',aw,ay,m,z⟩:=G9 d t I λk a=>.inr a;have A:=f.lt;have v:¬aB S nb:=λh=>i (g.2 nb h).1;have n:=f.ah m v;obtain⟨aW,a8⟩:=eF n p;refine aX ⟨af.cX (c4 _ _),c,w',aw,?_⟩;rw[aA,cR];have hc:=ed w' nb o c;refine⟨aW,a8,aX (r _ c (eE n _) ?_ ?_)⟩
 .have x:=cN.a_ (C:=Grow B w (w'.setCell ⟨nb,o,none⟩ c)) ay λk a h=>by
   rcases h with h|h
   .exact .inl h
   .exact .inr ⟨h,fi a hc.size⟩
  refine cN.ah x hc λk a e=>?_;subst e;rcases a with h|h
  .exact i h
  .omega
 .exact(m.mono λk _ h=>.inr h).trans (hc.mono λk _ h=>.inl h)
structure kn(lo:Nat)(w:J)(r nb:Nat)(s:ad)(m:aD×Rd)(K V D:ad)(bD bV bw:Nat->Prop):Prop where
 v:Var w nb [m.1.leaf,K,V,D] 169
 rd:ju w r s m.2
 keys:bm bD w K m.1.keys
 vals:bm bV w V m.1.vals
 kids:cN bw w D m.1.kids
 b2:∀q,bD q->lo<=q/\q<w.heap.size/\¬bV q/\¬bw q
 bv:∀q,bV q->lo<=q/\q<w.heap.size/\¬bw q
 aO:∀q,bw q->lo<=q/\q<w.heap.size
 hs:∀q,aB s q->q<lo/\q≠nb
 pe:r<lo
 pg:nb<lo
 ko:r≠nb
 ph:m.2.1.length<=100000
def pj(lo r nb:Nat)(q:Nat):Prop:=q=r\/q=nb\/lo<=q
theorem kn.drew{lo:Nat}{w:J}{r nb:Nat}{s:ad}{m:aD×Rd}{K V D:ad}{bD bV bw:Nat->Prop}(h:kn lo w r nb s m K V D bD bV bw):kn lo w.drew r nb s m K V D bD bV bw:=
 ⟨h.v.ext (cG w),h.rd.ext (cG w),bm.ext h.keys (cG w),bm.ext h.vals (cG w),cN.ext h.kids (cG w),h.b2,h.bv,h.aO,h.hs,h.pe,h.pg,h.ko,h.ph⟩
theorem B6{leaf:al}:∀ (s:aD×Rd) (i:Nat),s.1.leaf=leaf->(ie s i).1.leaf=leaf
 |_,0,h=>h
 |s,i+1,h=>by
  have a:=B6 s i h
  rw[ie]
  unfold pb
  split
  .exact a
  .exact a
theorem B7:∀ (s:aD×Rd) (i:Nat),(ie s i).1.keys.length=s.1.keys.length+i/\(ie s i).1.vals.length<=s.1.vals.length+i/\(ie s i).1.kids.length<=s.1.kids.length+i
 |_,0=>⟨rfl,bk _,bk _⟩
 |s,i+1=>by
  obtain⟨h1,h2,a⟩:=B7 s i
  rw[ie]
  unfold pb
  split<;>simp<;>omega
theorem Hg{lo:Nat}{w:J}{r nb:Nat}{s:ad}{m:aD×Rd}{K V D:ad}{bD bV bw:Nat->Prop}(h:kn lo w r nb s m K V D bD bV bw)(ab:lo<=w.heap.size)(G:m.1.keys.length<=100000){R:J->Prop}
 (H:∀ (w':J) (l n:ad) (L:Nat->Prop),kn lo w' r nb n (⟨m.1.leaf,m.1.keys++ [(jR m.2).1],m.1.vals,m.1.kids⟩,(jR m.2).2) l V D L bV bw->af (pj lo r nb) w w'->lo<=w'.heap.size->R w'):
 ao w.drew λp=>∃x:Nat->Prop,¬x (Addr.add nb 1).block/\∃i:ad,p.cell? (Addr.add nb 1)=some (.slice i.a i.len i.cap)/\
  Calls aj 253 #[.pointer (some r)] p λM d=>∃C:ad,M=.returned C/\af x p d/\
  ao (d.alloc (.cells #[C] 39)) λE=>af x d E/\∃F:ad,∃j:J,Sem.run aj (Builtin.append_ #[93,93] 93 #[i,.slice (some d.heap.size) 1 1]) E=.ok F j/\
  (∃u:aa,j.cell? (Addr.add nb 1)=some u)/\j.frozen? (Addr.add nb 1)=false/\ao (j.setCell (Addr.add nb 1) F) λN=>R N:=by
 have hd:=h.drew;have ac:=h.pe;have ae:=h.pg;obtain⟨bU,aW,a8,bg⟩:=bK hd.v;refine aX ⟨λq=>q=r,λe=>h.ko (by rw[aA]at e;exact e.symm),K,aW,(B4 hd.rd hd.ph).use ?_⟩;rintro _ d ⟨t,n,rfl,ht,O,hc,y⟩;have ag:w.drew.heap.size=w.heap.size:=rfl;have P:=hc.size;have z:∀ {B:Nat->Prop},(∀q,B q->lo<=q)->∀k,B k->¬(k=r):=λQ k c e=>by have:=Q k c;omega
 have S:=bm.ah hd.keys hc (z λq b=>(h.b2 q b).1);have T:=bm.ah hd.vals hc (z λq b=>(h.bv q b).1);have U:=cN.ah hd.kids hc (z λq b=>(h.aO q b).1);have W:=hd.v.ah hc (λe=>h.ko e.symm);refine⟨t,rfl,hc,wj (B:=Grow bD w.drew d) W (o:=1) (by simp) (bm.a_ S λk _ h=>.inl h) ?_ (bu.a_ ht λk c h=>.inr ⟨h,c⟩) ?_ G λw' l aw ay f=>?_⟩
 .rintro(h1|h1)
  .have:=(h.b2 nb h1).1;omega
  .omega
 .intro k X Y
  obtain⟨ts,_,_,A,_⟩:=h.keys;have:=(A k Y).2;have:=(ht.2.2 k X).1;omega
 have Z:∀q,Grow (Grow bD w.drew d) d w' q->bD q\/(w.heap.size<=q/\q<w'.heap.size):=by
  rintro q ((h1|h1)|h1)
  .exact .inl h1
  .exact .inr ⟨h1.1,fi h1.2 f.size⟩
  .exact .inr ⟨eG P h1.1,h1.2⟩
 have hg:=f.size;have g:∀q,aB K q->bD q:=λq b=>by
  obtain⟨ts,_,_,A,_⟩:=h.keys;exact(A q b).1
 refine H w' l n (λq=>bD q\/(w.heap.size<=q/\q<w'.heap.size)) ⟨by simpa using aw,O.ah f ?_ ?_,bm.a_ ay λk _ c=>Z k c,bm.ah T f ?_,cN.ah U f ?_,?_,λq b=>?_,λq b=>?_,λq b=>h.hs q (y q b),h.pe,h.pg,h.ko,eG (B3 m.2).1 h.ph⟩ ?_ I
 .rintro(h1|h1)
  .exact h.ko h1
  .have:=(h.b2 r (g r h1)).1;omega
 .rintro q b (h1|h1)
  .exact(h.hs q (y q b)).2 h1
  .have:=(h.b2 q (g q h1)).1
   have:=(h.hs q (y q b)).1;omega
 .rintro q b (h1|h1)
  .have:=(h.bv q b).1;omega
  .exact(h.b2 q (g q h1)).2.2.1 b
 .rintro q b (h1|h1)
  .have:=(h.aO q b).1;omega
  .exact(h.b2 q (g q h1)).2.2.2 b
 .rintro q (h1|h1)
  .have:=h.b2 q h1;exact⟨this.1,I,this.2.2⟩
  .exact⟨I,h1.2,λh2=>by have:=h.bv q h2;omega,λh2=>by have:=h.aO q h2;omega⟩
 .have:=h.bv q b;exact⟨this.1,I,this.2.2⟩
 .have:=h.aO q b;exact⟨this.1,I⟩
 .refine((af.cX (cG w)).trans (hc.mono λk _ c=>.inl c)).trans (f.mono λk _ c=>?_)
  rcases c with c|c
  .exact .inr (.inl c)
  .exact .inr (.inr (h.b2 k (g k c)).1)
theorem Hh{lo:Nat}{w:J}{r nb:Nat}{s:ad}{m:aD×Rd}{K V D:ad}{bD bV bw:Nat->Prop}(h:kn lo w r nb s m K V D bD bV bw)(ab:lo<=w.heap.size)(G:m.1.vals.length<=100000){R:J->Prop}
 (H:∀ (w':J) (l n:ad) (L:Nat->Prop),kn lo w' r nb n (⟨m.1.leaf,m.1.keys,m.1.vals++ [(jR m.2).1],m.1.kids⟩,(jR m.2).2) K l D bD L bw->af (pj lo r nb) w w'->lo<=w'.heap.size->R w'):
 ao w.drew λp=>∃x:Nat->Prop,¬x (Addr.add nb 2).block/\∃i:ad,p.cell? (Addr.add nb 2)=some (.slice i.a i.len i.cap)/\
  Calls aj 253 #[.pointer (some r)] p λM d=>∃C:ad,M=.returned C/\af x p d/\
  ao (d.alloc (.cells #[C] 39)) λE=>af x d E/\∃F:ad,∃j:J,Sem.run aj (Builtin.append_ #[93,93] 93 #[i,.slice (some d.heap.size) 1 1]) E=.ok F j/\
  (∃u:aa,j.cell? (Addr.add nb 2)=some u)/\j.frozen? (Addr.add nb 2)=false/\ao (j.setCell (Addr.add nb 2) F) λN=>R N:=by
 have hd:=h.drew;have ac:=h.pe;have ae:=h.pg;obtain⟨bU,aW,a8,bg⟩:=bK hd.v;refine aX ⟨λq=>q=r,λe=>h.ko (by rw[aA]at e;exact e.symm),V,a8,(B4 hd.rd hd.ph).use ?_⟩;rintro _ d ⟨t,n,rfl,ht,O,hc,y⟩;have ag:w.drew.heap.size=w.heap.size:=rfl;have P:=hc.size;have z:∀ {B:Nat->Prop},(∀q,B q->lo<=q)->∀k,B k->¬(k=r):=λQ k c e=>by have:=Q k c;omega
 have S:=bm.ah hd.keys hc (z λq b=>(h.b2 q b).1);have T:=bm.ah hd.vals hc (z λq b=>(h.bv q b).1);have U:=cN.ah hd.kids hc (z λq b=>(h.aO q b).1);have W:=hd.v.ah hc (λe=>h.ko e.symm);refine⟨t,rfl,hc,wj (B:=Grow bV w.drew d) W (o:=2) (by simp) (bm.a_ T λk _ h=>.inl h) ?_ (bu.a_ ht λk c h=>.inr ⟨h,c⟩) ?_ G λw' l aw ay f=>?_⟩
 .rintro(h1|h1)
  .have:=(h.bv nb h1).1;omega
  .omega
 .intro k X Y
  obtain⟨ts,_,_,A,_⟩:=h.vals;have:=(A k Y).2;have:=(ht.2.2 k X).1;omega
 have Z:∀q,Grow (Grow bV w.drew d) d w' q->bV q\/(w.heap.size<=q/\q<w'.heap.size):=by
  rintro q ((h1|h1)|h1)
  .exact .inl h1
  .exact .inr ⟨h1.1,fi h1.2 f.size⟩
  .exact .inr ⟨eG P h1.1,h1.2⟩
 have hg:=f.size;have g:∀q,aB V q->bV q:=λq b=>by
  obtain⟨ts,_,_,A,_⟩:=h.vals;exact(A q b).1
 refine H w' l n (λq=>bV q\/(w.heap.size<=q/\q<w'.heap.size)) ⟨by simpa using aw,O.ah f ?_ ?_,bm.ah S f ?_,bm.a_ ay λk _ c=>Z k c,cN.ah U f ?_,λq b=>?_,?_,λq b=>?_,λq b=>h.hs q (y q b),h.pe,h.pg,h.ko,eG (B3 m.2).1 h.ph⟩ ?_ I
 .rintro(h1|h1)
  .exact h.ko h1
  .have:=(h.bv r (g r h1)).1;omega
 .rintro q b (h1|h1)
  .exact(h.hs q (y q b)).2 h1
  .have:=(h.bv q (g q h1)).1
   have:=(h.hs q (y q b)).1;omega
 .rintro q b (h1|h1)
  .have:=(h.b2 q b).1;omega
  .exact(h.b2 q b).2.2.1 (g q h1)
 .rintro q b (h1|h1)
  .have:=(h.aO q b).1;omega
  .exact(h.bv q (g q h1)).2.2 b
 .have:=h.b2 q b
  refine⟨this.1,I,?_,this.2.2.2⟩;rintro(h1|h1)
  .exact this.2.2.1 h1
  .omega
 .rintro q (h1|h1)
  .have:=h.bv q h1;exact⟨this.1,I,this.2.2⟩
  .exact⟨I,h1.2,λh2=>by have:=h.aO q h2;omega⟩
 .have:=h.aO q b;exact⟨this.1,I⟩
 .refine((af.cX (cG w)).trans (hc.mono λk _ c=>.inl c)).trans (f.mono λk _ c=>?_)
  rcases c with c|c
  .exact .inr (.inl c)
  .exact .inr (.inr (h.bv k (g k c)).1)
theorem B8{lo:Nat}{w:J}{r nb:Nat}{s:ad}{m:aD×Rd}{K V D:ad}{bD bV bw:Nat->Prop}(h:kn lo w r nb s m K V D bD bV bw)(T:lo<=w.heap.size)(A:m.1.kids.length<=100000){R:J->Prop}
 (C:∀ (w':J) (aC l:ad) (E:Nat->Prop),kn lo w' r nb l (⟨m.1.leaf,m.1.keys,m.1.vals,m.1.kids++ [(rdNum m.2 2).1]⟩,(rdNum m.2 2).2) K V aC bD bV E->af (pj lo r nb) w w'->lo<=w'.heap.size->R w'):
 ao w.drew λn=>∃p:Nat->Prop,¬p (Addr.add nb 3).block/\∃i:ad,n.cell? (Addr.add nb 3)=some (.slice i.a i.len i.cap)/\
  Calls aj 252 #[.pointer (some r),(2:Int)] n λF d=>∃n30:Int,F=.returned n30/\af p n d/\
  ao (d.alloc (.cells #[n30] 3)) λy=>af p d y/\∃z:ad,∃j:J,Sem.run aj (Builtin.append_ #[72,72] 72 #[i,.slice (some d.heap.size) 1 1]) y=.ok z j/\
  (∃u:aa,j.cell? (Addr.add nb 3)=some u)/\j.frozen? (Addr.add nb 3)=false/\ao (j.setCell (Addr.add nb 3) z) λG=>R G:=by
 have hd:=h.drew;have U:=h.pe;have W:=h.pg;obtain⟨bU,aW,a8,bg⟩:=bK hd.v;refine aX ⟨λq=>q=r,λe=>h.ko (by rw[aA]at e;exact e.symm),D,bg,(yI hd.rd 2 (by decide) hd.ph).use ?_⟩;rintro _ d ⟨l,rfl,H,hc,t⟩;have X:w.drew.heap.size=w.heap.size:=rfl;have L:=hc.size;have x:∀ {B:Nat->Prop},(∀q,B q->lo<=q)->∀k,B k->¬(k=r):=λM k c e=>by have:=M k c;omega
 have N:=bm.ah hd.keys hc (x λq b=>(h.b2 q b).1);have O:=bm.ah hd.vals hc (x λq b=>(h.bv q b).1);have P:=cN.ah hd.kids hc (x λq b=>(h.aO q b).1);have Q:=hd.v.ah hc (λe=>h.ko e.symm);refine⟨_,rfl,hc,B5 (rdNum m.2 2).1 (B:=bw) Q (o:=3) (by simp) P (λh1=>by have:=(h.aO nb h1).1;omega) A λw' aC aw ay f=>?_⟩;have S:∀q,Grow bw d w' q->bw q\/(w.heap.size<=q/\q<w'.heap.size):=by
  rintro q (h1|h1)
  .exact .inl h1
  .exact .inr ⟨eG L h1.1,h1.2⟩
 have hg:=f.size;have g:∀q,aB D q->bw q:=λq b=>(h.kids.2 q b).1;refine C w' aC l (λq=>bw q\/(w.heap.size<=q/\q<w'.heap.size)) ⟨by simpa using aw,H.ah f ?_ ?_,bm.ah N f ?_,bm.ah O f ?_,cN.a_ ay λk _ c=>S k c,λq b=>?_,λq b=>?_,?_,λq b=>h.hs q (t q b),h.pe,h.pg,h.ko,eG (wi m.2 2) h.ph⟩ ?_ I
 .rintro(h1|h1)
  .exact h.ko h1
  .have:=(h.aO r (g r h1)).1;omega
 .rintro q b (h1|h1)
  .exact(h.hs q (t q b)).2 h1
  .have:=(h.aO q (g q h1)).1
   have:=(h.hs q (t q b)).1;omega
 .rintro q b (h1|h1)
  .have:=(h.b2 q b).1;omega
  .exact(h.b2 q b).2.2.2 (g q h1)
 .rintro q b (h1|h1)
  .have:=(h.bv q b).1;omega
  .exact(h.bv q b).2.2 (g q h1)
 .have:=h.b2 q b
  refine⟨this.1,I,this.2.2.1,?_⟩;rintro(h1|h1)
  .exact this.2.2.2 h1
  .omega
 .have:=h.bv q b
  refine⟨this.1,I,?_⟩;rintro(h1|h1)
  .exact this.2.2 h1
  .omega
 .rintro q (h1|h1)
  .have:=h.aO q h1;exact⟨this.1,I⟩
  .exact⟨I,h1.2⟩
 .refine((af.cX (cG w)).trans (hc.mono λk _ c=>.inl c)).trans (f.mono λk _ c=>?_)
  rcases c with c|c
  .exact .inr (.inl c)
  .exact .inr (.inr (h.aO k (g k c)).1)
def iW:aD:=⟨false,[],[],[]⟩
def bI:ad:=⟨none,0,0⟩
def yK(leaf:al)(l:O UInt8)(w w':J)(v:aa):Prop:=
 (∃ (n:aD) (K V D:ad),v=.tuple #[dg n K V D,(0:Int)]/\lY leaf l n/\bT (λq=>w.heap.size<=q) w' n K V D)\/
 (v=.tuple #[dg iW bI bI bI,(4:Int)]/\∀n,¬lY leaf l n)
theorem iX{w':J}{h:Nat}{vs:O aa}(b:al)(K V D:ad)(c:Var w' h vs 169)(g:vs.length=4){Q:al->ad->ad->ad->J->Prop}(j:∀ai,af (λq=>q=h) w' ai->Q b K V D ai):
 bJ w' h [b,K,V,D]/\(4:Nat)=4/\ao (setCells w' h 0 [b,K,V,D]) λai=>
  ∃i:al,ai.cell? h=some (.bool i)/\∃d:ad,ai.cell? (Addr.add h 1)=some (.slice d.a d.len d.cap)/\∃e:ad,ai.cell? (Addr.add h 2)=some (.slice e.a e.len e.cap)/\
   ∃f:ad,ai.cell? (Addr.add h 3)=some (.slice f.a f.len f.cap)/\Q i d e f ai:=by
 refine⟨c.cn (by rw[g];rfl) ?_,rfl,cT c (us:=[b,K,V,D]) (by rw[g];rfl) rfl λai k hc _=>?_⟩
 .intro v c
  simp only[c0,fw,fD]at c;rcases c with rfl|rfl|rfl|rfl<;>trivial
 .obtain⟨bU,aW,a8,bg⟩:=bK k
  exact⟨b,bU,K,aW,V,a8,D,bg,j ai hc⟩
theorem qz{w:J}{s:ad}{l:O UInt8}(hs:Src 1 w s (az l))(hc:s.len<=s.cap)(T:∀k,aB s k->k<w.heap.size)(am:l.length<=100000)(leaf:al):
 aI aj 206 #[leaf,s] w (λv w'=>yK leaf l w w' v/\Ext w w'):=by
 refine okF (ae.qz leaf s) ax.qz func206 ?_;(delta ae.qz z5 Y bP ak xM r1 st bE aq aV ew b8 r4;dsimp only);refine ba (vs:=[false,(),(),()]) rfl λw1 aQ an bG=>?_;refine ba (vs:=[s,true]) rfl λai aR U bJ=>?_;refine ba (vs:=[false,(),(),()]) rfl λbL ao F bM=>?_;refine⟨ao.cn rfl (by
  intro v ap;simp only[c0,fw,fD]at ap;rcases ap with rfl|rfl|rfl|rfl<;>trivial),rfl,cT ao (us:=[leaf,(),(),()]) rfl rfl λm aS G bN=>?_⟩
 obtain⟨lo,bO⟩:∃lo,lo=m.heap.size:=⟨_,rfl⟩;obtain⟨r,ar⟩:∃r,r=w1.heap.size:=⟨_,rfl⟩;obtain⟨nb,au⟩:∃nb,nb=ai.heap.size:=⟨_,rfl⟩;have aU:Ext w m:=Ext.cC (an.trans (U.trans F)) G I;have aX:ju m w1.heap.size s (l,true):=by
  refine⟨(aR.ext F).ah G I,(hs.ext (an.trans (U.trans F))).ah G λk c e=>?_,hc,λk c=>?_⟩
  .have:=T k c;omega
  .have:=T k c;omega
 refine(yI aX 1 (by decide) am).use ?_;rintro _ av ⟨aD,rfl,aY,W,aZ⟩;have bQ:(rdNum (l,true) 1).1<256:=yJ _ 1;have bR:=W.size;have aE:kn lo av r nb aD (⟨leaf,[],[],[]⟩,(rdNum (l,true) 1).2) bI bI bI (λ_=>False) (λ_=>False) (λ_=>False):=by
  refine⟨by rw[au];exact aS.ah W I,by rw[ar];exact aY,bm.none _ _,bm.none _ _,cN.none _ _,λq h=>h.elim,λq h=>h.elim,λq h=>h.elim,λq a=>?_,I,I,I,eG (wi _ 1) am⟩;have:=T q (aZ q a);exact⟨I,I⟩
 have aF:af (pj lo r nb) m av:=W.mono λk _ c=>.inl I;rw[←ar,←au];refine⟨_,rfl,k9 (λw'=>∃ (u D:ad) (bw:Nat->Prop),kn lo w' r nb u (mI leaf (rdNum (l,true) 1).2) bI bI D (λ_=>False) (λ_=>False) bw/\af (pj lo r nb) m w'/\lo<=w'.heap.size) (λq a=>⟨λd=>?_,λd=>a _ ⟨aD,bI,λ_=>False,?_,aF,I⟩⟩) ?_⟩
 .have d:leaf=false:=by simpa using d
  subst d;refine B8 aE I (by simp) λw' aC u a0 h1 h2 o=>a _ ⟨u,aC,a0,?_,aF.trans h2,o⟩;have:mI false (rdNum (l,true) 1).2=(⟨false,[],[],[]++ [(rdNum (rdNum (l,true) 1).2 2).1]⟩,(rdNum (rdNum (l,true) 1).2 2).2):=by simp[mI]
  rw[this];exact h1
 .have d:leaf=true:=by simpa using d
  subst d;exact aE
 rintro bS ⟨a1,a2,a3,aG,a4,a5⟩;obtain⟨f,H⟩:∃f,f=mI leaf (rdNum (l,true) 1).2:=⟨_,rfl⟩;rw[←H]at aG;have a6:f.1.leaf=leaf:=by rw[H];unfold mI;cases leaf<;>rfl
 have bW:f.1.keys.length=0/\f.1.vals.length<=1/\f.1.kids.length<=1:=by rw[H];unfold mI;cases leaf<;>simp
 refine⟨λi w'=>∃ (j:Nat) (u K V D:ad) (bD bV bw:Nat->Prop),i=j/\j<=(rdNum (l,true) 1).1/\kn lo w' r nb u (ie f j) K V D bD bV bw/\af (pj lo r nb) m w'/\lo<=w'.heap.size,λi _=>(((rdNum (l,true) 1).1:Int)-i).toNat,⟨0,a1,bI,bI,a2,_,_,a3,rfl,cM _,aG,a4,a5⟩,?_⟩;rintro _ aJ ⟨j,bX,K,V,D,bD,bV,bw,rfl,bY,g,L,a7⟩;obtain⟨a9,bb,bc⟩:=B7 f j;have x:=B6 f j a6;refine⟨λaH=>?_,λX=>?_⟩
 .have aH:j<(rdNum (l,true) 1).1:=by have:=cj aH;omega
  rw[bq (n:=(j:Int)+1) I I];refine k9 (λw'=>∃ (u K V D:ad) (bD bV bw:Nat->Prop),kn lo w' r nb u (ie f (j+1)) K V D bD bV bw/\af (pj lo r nb) m w'/\lo<=w'.heap.size) (λq a=>?_) ?_
  .refine Hg g a7 I λy M aK N P R S=>⟨λd=>?_,λd=>?_⟩
   .refine Hh P S (by show(ie f j).1.vals.length<=_;omega) λZ bd aa be B p ab=>a _ ⟨aa,M,bd,D,N,be,bw,?_,L.trans (R.trans p),ab⟩
    rw[ie];unfold pb;rw[x,d,if_pos rfl];rw[x,d]at B;exact B
   .refine B8 P S (by show(ie f j).1.kids.length<=_;omega) λZ bf aa bh B p ab=>a _ ⟨aa,M,V,bf,N,bV,bh,?_,L.trans (R.trans p),ab⟩
    rw[ie];unfold pb;rw[x,d,if_neg (by simp)];rw[x,d]at B;exact B
  .rintro y ⟨aK,M,bi,bj,N,bl,bn,P,R,S⟩
   refine⟨⟨j+1,aK,M,bi,bj,N,bl,bn,I,I,P,R,S⟩,?_⟩;show(((rdNum (l,true) 1).1:Int)-((j:Int)+1)).toNat<(((rdNum (l,true) 1).1:Int)-(j:Int)).toNat;omega
 .have X:j=(rdNum (l,true) 1).1:=by have:=cE X;omega
  have bo:ie f j=iB leaf l:=by rw[X,H];rfl
  rw[bo]at g a9 bb bc x;obtain⟨bU,aW,a8,bg⟩:=bK g.v;have eo:bT (λq=>lo<=q) aJ (iB leaf l).1 K V D:=⟨bH.a_ (bm.km g.keys) λq _ a=>(g.b2 q a).1,bH.a_ (bm.km g.vals) λq _ a=>(g.bv q a).1,c2.a_ (cN.qQ g.kids) λq _ a=>(g.aO q a).1⟩;have bp:Ext w aJ:=Ext.dT aU L λk c=>by
   rcases c with c|c|c<;>omega
  refine⟨_,bU,K,aW,V,a8,D,bg,(oS eo I I I).use ?_⟩;rintro br y ⟨bs,C⟩;have ac:=bp.trans C;have bt:=g.v.ext C;have bu:=g.rd.ext C;have aL:Var y w.heap.size [false,(),(),()] 169:=by
   refine(Var.ah (w:=m) ?_ L ?_).ext C
   .exact(((aQ.ext U).ext F).ah G I)
   .rintro(c|c|c)<;>omega
  have bx:=eo.ext C;obtain⟨d0,d1,d2,d3⟩:=bK bt;have bz:∃ (z:ad) (e:Int),br=Value.tuple #[z,e]/\(e=0->aT 1 5 y z (az (jr (iB leaf l).1))/\cI (iB leaf l).1/\bC (iB leaf l).1<=232)/\(e≠0->cI (iB leaf l).1->232<bC (iB leaf l).1):=by
   rcases bs with ⟨z,rfl,h1,h2,o,A⟩|⟨e,rfl,h1,h2⟩
   .exact⟨z,0,rfl,λ_=>⟨h1,o,A⟩,λh=>absurd rfl h⟩
   .exact⟨bI,e,rfl,λh=>absurd h h1,λ_=>h2⟩
  obtain⟨z,e,rfl,bA,aM⟩:=bz;have bB:Src 1 y s (az l):=hs.ext ac
  have aN:∀n,lY leaf l n->iB leaf l=(n,([],true)):=by
   rintro n ⟨h1,h2,o,A⟩;have:=yw h1 o;rw[h2,A]at this;exact this
  refine⟨z,e,rfl,_,rfl,(iB leaf l).2.2,by rw[aA];exact bu.v.cell,cx (λb w'=>y=w'/\(b=true->∀n,¬lY leaf l n)/\(b=false->lY leaf l (iB leaf l).1)) (λq a=>⟨λh1=>a _ _ ⟨rfl,λ_ n E=>?_,λh=>(by cases h)⟩,λh1=>?_⟩) ?_⟩
  .have hu:=aN n E
   obtain⟨h2,o,A,aP⟩:=E;rw[hu]at h1 aM;have h1:(e !=0)=true:=by simpa using h1
   have bZ:232<bC n:=aM (by simpa using h1) h2;omega
  .have bF:(iB leaf l).2.2=true/\e=0:=by
    simp only[pH,mg,bne_eq_false_iff_eq]at h1;exact h1
   obtain⟨h2,rfl⟩:=bF;obtain⟨o,A,aP⟩:=bA rfl;refine(oF o.src bB).use ?_;rintro _ _ ⟨rfl,rfl⟩;refine⟨_,rfl,a _ _ ⟨rfl,λt n E=>?_,λt=>?_⟩⟩
   .have hu:=aN n E
    have t:¬jr (iB leaf l).1=l:=by simpa using t
    rw[hu]at t;exact t E.2.2.2
   .have t:jr (iB leaf l).1=l:=by simpa using t
    exact⟨A,x,aP,t⟩
  rintro b w' ⟨rfl,aw,ay⟩;refine⟨λag=>?_,λag=>⟨_,d0,K,d1,V,d2,D,d3,?_⟩⟩
  .refine iX false bI bI bI aL rfl (Q:=λb K V D ai=>(λv w'=>yK leaf l w w' v/\Ext w w') (.tuple #[.agg #[b,K,V,D],(4:Int)]) ai) λZ p=>⟨.inr ⟨rfl,aw ag⟩,Ext.cC ac p (bk _)⟩
  .refine iX (iB leaf l).1.leaf K V D aL rfl (Q:=λb K V D ai=>(λv w'=>yK leaf l w w' v/\Ext w w') (.tuple #[.agg #[b,K,V,D],(0:Int)]) ai) λZ p=>⟨.inl ⟨(iB leaf l).1,K,V,D,rfl,ay ag,?_⟩,Ext.cC ac p (bk _)⟩
   exact(bx.ah p λk c e=>I).a_ λk _ c=>by omega
theorem Hi{s v:ad}{vs xs:O aa}{i ml:Nat}{al:Array aa}{am:TypeId}{w:J}(H:aT 1 39 w s vs)(N:Src 1 w v xs)(g:v.len=1)(an:v.a=some ⟨ml,0,none⟩)(T:bj w ml al am)(ao:¬aB s ml)
 (U:∀u∈xs,Plain u) (aO:∀u∈vs,Plain u) (hi:i<=s.len) (a_:s.len<=1000000):
 aI aj 200 #[s,.int .i64 (i:Int),v] w (λu w'=>∃z:ad,u=z/\aT 1 39 w' z (vs.take (i*1)++xs++vs.drop (i*1))/\z.len=s.len+1/\af (aB s) w w'/\(∀k,aB z k->aB s k\/w.heap.size<=k)):=by
 obtain⟨h1,ba,bb,h2,ap,aP,aQ,E,au,aR⟩:=(qR).out;obtain⟨d0,K⟩:=ke _ ap;refine okF (ae.uq s i v) ax.uq func200 ?_;delta ae.uq ak aq gT;have bc:=H.2.1;have bd:=H.2.2.1;have be:maxLen=9223372036854775807:=rfl;have p:xs.length=1:=by have:=N.len;rw[g]at this;omega
 have V:=H.1;refine⟨⟨I,I⟩,λh=>by rw[g]at h;simp at h,λ_=>⟨λh=>?_,λh=>?_⟩⟩
 .have aS:i=s.len:=by have:=eq_of_beq h;omega
  subst aS;obtain⟨z,w',aw,ay,X,Q,F⟩:=(qR).append (cF:=93) N H U (by rw[g];omega);refine⟨z,w',aw,z,rfl,?_,by rw[X,g],Q,F⟩;rwa[dC I,List.drop_of_length_le I,fu]
 have aH:i<s.len:=by
  have h:¬((i:Int)=(s.len:Int)):=λe=>by rw[e]at h;simp at h
  omega
 rcases H.2.2.2 with ⟨_,hc⟩|⟨b,c,r,G,av,az⟩
 .omega
 have aU:b≠ml:=λe=>ao ⟨_,r,e⟩;have aV:IntKind.wrap .i64 ((s.len:Int)+(v.len:Int))=((s.len+1:Nat):Int):=by rw[g,bq I I];rfl
 have aW:IntKind.wrap .i64 ((i:Int)+(v.len:Int))=((i+1:Nat):Int):=by rw[g,bq I I];rfl
 have aY:IntKind.wrap .i64 (((s.len+1:Nat):Int)-(i:Int))=((s.len+1-i:Nat):Int):=by rw[bq I I];omega
 have bf:c.toList.length=s.cap*1:=by simpa using av
 have aA:∀k,k<=s.len->vs.take (k*1)=c.toList.take (k*1):=λk d=>by rw[←az,n1,h4 I]
 have aC:vs.drop (i*1)=(c.toList.drop (i*1)).take ((s.len-i)*1):=by rw[←az,List.drop_take,show s.len*1-i*1=(s.len-i)*1 from I]
 have aD:∀u∈vs.drop (i*1),Plain u:=λu hu=>aO u (fO hu);have B:(vs.drop (i*1)).length=(s.len-i)*1:=by rw[eg,V];omega
 have L:∀ (Y o l m:Nat),l<m->aZ (some (Addr.mk Y o none)) 1 l m=some ⟨Y,o+l*1,none⟩:=λY o l m bg=>mq I;simp only[aV,aW,aY,dc,mY,xH];refine⟨λhg=>?_,λhg=>?_⟩
 .have bh:s.cap<s.len+1:=by have:=cj hg;omega
  have a0:Src 1 w ⟨some b,i,s.cap⟩ (vs.take (i*1)):=by
   have:=G.r0 (sz:=1) (o:=0) (n:=i) (cap:=s.cap) I;rw[iM]at this;rwa[aA i I]
  obtain⟨j,zs,rest,aw,ay,X,Q,F⟩:=E_ (P:=aj) (gv:= #[93,3]) (cF:=93) (kf:=3) (k:=.i64) (s:=⟨some b,i,s.cap⟩) (n:=s.len+1-i) rfl rfl h1 (by kernel_rfl) h2 ap aP aQ E (by rw[au];exact aR) a0 (by show s.cap<i+_;omega) (by rw[au];show(2*(i+_)+1000)*_<=_;omega);have a1:i+(s.len+1-i)=s.len+1:=by omega
  simp only[a1]at aw Q F;obtain⟨C,Z⟩:∃C,C=(vs.take (i*1)++zs++rest).toArray:=⟨_,rfl⟩;rw[←Z]at F;obtain⟨D,ab⟩:∃D,D=w.drew.alloc (.cells C 39):=⟨_,rfl⟩;rw[←ab]at F;have aE:bj D w.heap.size C 39:=by rw[ab];exact bj.new w.drew _ _
  have aF:Ext w D:=by rw[ab];exact af.alloc (af.drew (.refl _ _)) _
  have f:(vs.take (i*1)).length=i*1:=by rw[cz,V];omega
  have aG:C.size=j*1:=by rw[Z];simp[f,X,Q];omega
  have bi:C.toList.length=j*1:=by simpa using aG
  have M:=tU (P:=aj) (my:=93) (cK:=93) (ty:=3) (A:=⟨w.heap.size,0+i*1,none⟩) (dl:=s.len+1-i) (oB:=j-i) (n:=1) h1 K E (x:=v) (by rw[g];exact h4 I) (xs:=xs) (by have:=N.ext aF;have e:(⟨v.a,1,v.cap⟩:ad)=v:=(by rw[←g]);rw[e];exact this) (by rw[cR];exact aE.cn _ _ I U);obtain⟨t,ac⟩:∃t,t=setCells D ⟨w.heap.size,0+i*1,none⟩ 0 xs:=⟨_,rfl⟩;rw[←ac]at M;have aJ:bj t w.heap.size (gx C (i*1) xs) 39:=by rw[ac,cR];exact aE.lf xs
  have a2:Ext w t:=by rw[ac];exact Ext.dT aF (af.jJ (.refl _ _) xs 0) (λk d=>by subst d;exact bk _)
  have a3:Ext t t.drew:=af.drew (.refl _ _);have aK:=Ext.trans a2 a3;have ag:=tU (P:=aj) (w:=t.drew) (my:=93) (cK:=93) (ty:=3) (A:=⟨w.heap.size,0+(i+1)*1,none⟩) (dl:=s.len+1-(i+1)) (oB:=j-(i+1)) (n:=s.len-i) h1 K E (x:=⟨some ⟨b,0+i*1,none⟩,s.len-i,s.cap-i⟩) (h4 (by show s.len-i<=_;omega)) (xs:=vs.drop (i*1))
   (by have:=(G.ext aK).r0 (sz:=1) (o:=i*1) (n:=s.len-i) (cap:=s.cap-i) I;rw[aC,cR];exact this) (by rw[cR];exact bj.cn (bj.drew aJ) _ _ (by rw[h_];omega) aD)
  have R:aZ (some (Addr.mk w.heap.size 0 none)) 1 i j=some ⟨w.heap.size,0+i*1,none⟩:=L _ _ _ _ I;have S:aZ (some (Addr.mk w.heap.size 0 none)) 1 (i+1) j=some ⟨w.heap.size,0+(i+1)*1,none⟩:=L _ _ _ _ I;have a4:aZ s.a 1 i s.cap=some ⟨b,0+i*1,none⟩:=by rw[r];exact L _ _ _ _ I
  have a5:Sem.run aj (Builtin.append_ #[93,3] 93 #[.slice s.a i s.cap,.int .i64 ((s.len+1-i:Nat):Int)]) w=.ok (.slice (some w.heap.size) (s.len+1) j) D:=by rw[r];exact F
  refine⟨⟨I,I⟩,⟨some w.heap.size,s.len+1,j⟩,D,a5,⟨I,by show(i:Int)<=((s.len+1:Nat):Int);omega⟩,_,t,by rw[R];exact M,aX ⟨⟨I,by show((i+1:Nat):Int)<=((s.len+1:Nat):Int);omega⟩,⟨I,I⟩,_,_,by rw[S,a4];exact ag,⟨some w.heap.size,s.len+1,j⟩,rfl,?_,rfl,?_,?_⟩⟩
  .refine aT.mk' ((bj.drew aJ).lf (o:=0+(i+1)*1) _) (by simp[f,p,B];omega) I I (by rw[h_,h_,aG]) ?_
   rw[ld _ _ _ (by rw[h_];omega),ld _ _ _ I];have t1:C.toList.take (i*1)=vs.take (i*1):=by rw[Z,ry,cD];exact n4 f
   have t2:(C.toList.take (i*1)++xs++C.toList.drop (i*1+xs.length)).take (0+(i+1)*1)=vs.take (i*1)++xs:=by
    rw[t1,m5 (by simp[f,p];omega),dC (by simp[f,p];omega)]
   rw[t2,m5 (by simp[f,p,B];omega),dC (by simp[f,p,B];omega)]
  .exact af.cX (Ext.dT aK (af.jJ (.refl _ _) _ 0) (λk d=>by subst d;exact bk _))
  .rintro k ⟨A,ar,d⟩
   cases ar;exact .inr (Nat.le_of_eq d)
 .have bl:s.len+1<=s.cap:=by have:=cE hg;omega
  have R:aZ s.a 1 (i+1) s.cap=some ⟨b,0+(i+1)*1,none⟩:=by rw[r];exact L _ _ _ _ I
  have S:aZ s.a 1 i s.cap=some ⟨b,0+i*1,none⟩:=by rw[r];exact L _ _ _ _ I
  have a6:Sem.run aj (callFunc 248 #[v,.slice (some ⟨b,0+(i+1)*1,none⟩) (s.len+1-(i+1)) (s.cap-(i+1))]) w=.ok (.value false) w:=by
   rw[an,run_callFunc_extern (e:=Extern.SlicesOverlaps.overlaps #[93,93] #[4]) func248 (by kernel_rfl) (by kernel_rfl) (by kernel_rfl) (by kernel_rfl)];have:=Lib.run_overlaps_apart (P:=aj) w 93 4 39 h1 1 (λw=>by have:=hD (w:=w) K;rwa[E]at this) ml ⟨b,0+(i+1)*1,none⟩ v.len v.cap (s.len+1-(i+1)) (s.cap-(i+1)) (λe=>aU e.symm) am 39 al.size c.size
    (by have:=T;unfold bj at this;simp[World.shape?,this]) (by have:=G;unfold bj at this;simp[World.shape?,this]) I (T.frozen _ rfl) (T.frozen _ rfl)
   rw[this];rfl
  have M:=tU (P:=aj) (w:=w.drew) (my:=93) (cK:=93) (ty:=3) (A:=⟨b,0+(i+1)*1,none⟩) (dl:=s.len+1-(i+1)) (oB:=s.cap-(i+1)) (n:=s.len-i) h1 K E (x:=⟨some ⟨b,0+i*1,none⟩,s.len+1-i,s.cap-i⟩) ((Nat.min_eq_right (by show _<=s.len+1-i;omega)).trans I) (xs:=vs.drop (i*1))
   (by have:=(bj.drew G).r0 (sz:=1) (o:=i*1) (n:=s.len-i) (cap:=s.cap-i) I;rw[aC,cR];exact this) (by rw[cR];exact bj.cn (bj.drew G) _ _ I aD)
  obtain⟨y,ai⟩:∃y,y=setCells w.drew ⟨b,0+(i+1)*1,none⟩ 0 (vs.drop (i*1)):=⟨_,rfl⟩;rw[←ai]at M;have aL:bj y b (gx c ((i+1)*1) (vs.drop (i*1))) 39:=by rw[ai,cR];exact(bj.drew G).lf _
  have aM:af (aB s) w y:=by
   rw[ai];exact af.mono (W:=λq=>q=b) (af.jJ (af.drew (.refl _ _)) _ 0) (λk _ d=>⟨_,r,d.symm⟩)
  have a7:Src 1 y v xs:=N.ah aM (λk d a8=>by obtain⟨A,ar,rfl⟩:=d;rw[an]at ar;cases ar;exact ao a8);have ag:=tU (P:=aj) (w:=y) (my:=93) (cK:=93) (ty:=3) (A:=⟨b,0+i*1,none⟩) (dl:=s.len+1-i) (oB:=s.cap-i) (n:=1) h1 K E (x:=v) (by rw[g];exact h4 I) (xs:=xs) (by have e:(⟨v.a,1,v.cap⟩:ad)=v:=(by rw[←g]);rw[e];exact a7) (by rw[cR];exact aL.cn _ _ (by rw[h_];omega) U);refine⟨⟨I,I⟩,⟨I,I⟩,false,w,by rw[R];exact a6,λ_=>aX ⟨⟨I,I⟩,⟨I,I⟩,_,y,by rw[R,S];exact M,⟨I,I⟩,_,_,by rw[S];exact ag,⟨s.a,s.len+1,s.cap⟩,rfl,?_,rfl,?_,λk d=>.inl d⟩,λh=>by simp at h⟩
  .have aN:aT 1 39 (setCells y ⟨b,0+i*1,none⟩ 0 xs) ⟨some b,s.len+1,s.cap⟩ (vs.take (i*1)++xs++vs.drop (i*1)):=by
    have f:(vs.take (i*1)).length=i*1:=by rw[cz,V];omega
    refine aT.mk' (aL.lf (o:=0+i*1) _) (by simp[f,p,B];omega) I I (by rw[h_,h_,av]) ?_;rw[ld _ _ _ (by rw[h_];omega),ld _ _ _ I];have t1:(c.toList.take ((i+1)*1)++vs.drop (i*1)++c.toList.drop ((i+1)*1+(vs.drop (i*1)).length)).take (0+i*1)=vs.take (i*1):=by
     rw[cR,m5 (by simp[B];omega),m5 (by simp;omega),n1,aA i I,h4 I]
    have t2:(c.toList.take ((i+1)*1)++vs.drop (i*1)++c.toList.drop ((i+1)*1+(vs.drop (i*1)).length)).drop (0+i*1+xs.length)=vs.drop (i*1)++c.toList.drop ((i+1)*1+(vs.drop (i*1)).length):=by
     have a9:(c.toList.take ((i+1)*1)).length=0+i*1+xs.length:=by simp;omega
     rw[cD,←a9,List.drop_left]
    rw[t1,t2,←cD,m5 (by simp[f,p,B];omega),dC (by simp[f,p,B];omega)]
   rw[←r]at aN;exact aN
  .exact aM.trans (af.mono (W:=λq=>q=b) (af.jJ (.refl _ _) _ 0) (λk _ d=>⟨_,r,d.symm⟩))
theorem Hj{s:ad}{vs:O aa}{i:Nat}{w:J}(m:aT 1 39 w s vs)(M:∀u∈vs,Plain u)(N:∀z,(Tryz.prog.info? 39).bind (·.zero)=some z->∀u∈z.cells.toList,Plain u)(hi:i<s.len)(an:s.len<=1000000):
 aI aj 184 #[s,.int .i64 (i:Int),.int .i64 ((i+1:Nat):Int)] w (λu w'=>∃p:ad,u=p/\aT 1 39 w' p (vs.take (i*1)++vs.drop ((i+1)*1))/\p.len=s.len-1/\p.a=s.a/\af (aB s) w w'):=by
 obtain⟨h1,ao,d,h2,Q,C,D,R,ap,aq⟩:=(qR).out;obtain⟨d0,S⟩:=ke _ Q;refine okF (ae.uo s i ((i+1:Nat):Int)) ax.uo func184 ?_;(delta ae.uo ak aV;dsimp only);have ar:=m.2.1;have U:=m.2.2.1;have E:=m.1;rcases m.2.2.2 with ⟨_,hc⟩|⟨b,c,f,V,F,G⟩
 .omega
 have au:c.toList.length=s.cap*1:=by simpa using F
 simp only[dc,mY,xH];have X:vs.drop ((i+1)*1)=(c.toList.drop ((i+1)*1)).take ((s.len-(i+1))*1):=by rw[←G,List.drop_take,show s.len*1-(i+1)*1=(s.len-(i+1))*1 from I]
 have e:(vs.drop ((i+1)*1)).length=(s.len-(i+1))*1:=by rw[eg,E];omega
 have Y:vs.take (i*1)=c.toList.take (i*1):=by rw[←G,n1,h4 I]
 have l:(vs.take (i*1)).length=i*1:=by rw[cz,E];omega
 have Z:∀u∈vs.drop ((i+1)*1),Plain u:=λu hu=>M u (fO hu);have t:bj w.drew b c 39:=bj.drew V;have ab:Src 1 w.drew ⟨aZ s.a 1 (i+1) s.cap,s.len-(i+1),s.cap-(i+1)⟩ (vs.drop ((i+1)*1)):=by
  by_cases he:i+1=s.cap
  .have v:s.len-(i+1)=0:=by omega
   refine⟨by rw[e],λ_=>l9.1 (by rw[e,v,pJ]),λa _=>?_⟩;have:vs.drop ((i+1)*1)=[]:=l9.1 (by rw[e,v,pJ]);rw[this];show bz _ _ 0 ((s.len-(i+1))*1)=_;rw[v,pJ];rfl
  .rw[f,mq I,X,cR]
   exact t.r0 I
 have x:=xw (P:=aj) (gv:= #[93,93]) (cF:=93) (s:=⟨s.a,i,s.cap⟩) rfl rfl h1 h1 S R ab (by show i+(s.len-(i+1))<=s.cap;omega) (λa r=>by
  have r:s.a=some a:=r;rw[f]at r;cases r;rw[aA,cR];exact t.cn _ _ (by show i*1+_<=_;omega) Z)
 have ac:i+(s.len-(i+1))=s.len-1:=by omega
 simp only[f,aA,cR,ac]at x;obtain⟨g,y⟩:∃g,g=setCells w.drew ⟨b,i*1,none⟩ 0 (vs.drop ((i+1)*1)):=⟨_,rfl⟩;rw[←y]at x;have H:bj g b (gx c (i*1) (vs.drop ((i+1)*1))) 39:=by rw[y];exact t.lf _
 have ag:af (aB s) w g:=by
  rw[y];exact af.mono (W:=λq=>q=b) (af.jJ (af.drew (.refl _ _)) _ 0) (λk _ B=>⟨_,f,B.symm⟩)
 obtain⟨zs,av,ah⟩:=Fa (P:=aj) (w:=g) (T:=93) (o:=0) (n:=1) (c:=s.cap-(s.len-1)) (A:=⟨b,(s.len-1)*1,none⟩) h1 h2 C D (by decide) (λzs K=>by
  refine H.cn _ _ (by rw[K,h_];simp[Builtin.zeroCells,D];omega) λu hu=>?_;rw[K]at hu;simp only[Builtin.zeroCells,Array.toList_map,fJ]at hu;obtain⟨j,L,rfl⟩:=hu;have L:j<1*d.cells.size:=by simpa using L
  have ai:j%d.cells.size<d.cells.size:=g9 _ I;have hg:d.cells[j%d.cells.size]! =d.cells[j%d.cells.size]:=getElem!_pos d.cells (j%d.cells.size) ai;rw[hg];exact N d (by rw[h2];exact C) _ (by simp))
 have al:aZ (some (Addr.mk b 0 none)) 1 (s.len-1) s.cap=some ⟨b,(s.len-1)*1,none⟩:=by rw[mq I,cR]
 have am:s.len-(s.len-1)=1:=by omega
 refine⟨⟨I,I⟩,⟨I,I⟩,⟨I,I⟩,λh=>?_,λ_=>aX ⟨⟨I,I⟩,⟨I,I⟩,⟨some b,s.len-1,s.cap⟩,g,by rw[f];exact x,⟨I,by show(s.len:Int)<=(s.cap:Int);omega⟩,⟨I,by show((s.len-1:Nat):Int)<=(s.len:Int);omega⟩,_,_,by rw[am,al];exact ah,⟨some b,s.len-1,s.cap⟩,rfl,?_,rfl,f.symm,?_⟩⟩
 .have:=eq_of_beq h;omega
 .refine aT.mk' (H.lf _) (by simp[l,e];omega) I U (by rw[h_,h_,F]) ?_
  rw[ld _ _ _ (by rw[h_];omega),ld _ _ _ I];have t1:(c.toList.take (i*1)++vs.drop ((i+1)*1)++c.toList.drop (i*1+(vs.drop ((i+1)*1)).length)).take ((s.len-1)*1)=vs.take (i*1)++vs.drop ((i+1)*1):=by
   rw[←Y,m5 (by simp[l,e];omega),dC (by simp[l,e];omega)]
  rw[t1,cD,m5 (by simp[l,e];omega),dC (by simp[l,e];omega)]
 .exact ag.trans (af.mono (W:=λq=>q=b) (af.jJ (.refl _ _) _ 0) (λk _ B=>⟨_,f,B.symm⟩))
theorem sI{w:J}{s:ad}{ds:O Nat}(h:Src 1 w s (fW ds))(g:ds.length<=1000000):
 aI aj 228 #[s] w (λv w'=>∃b:ad,v=b/\aT 1 3 w' b (fW ds)/\Ext w w'/\gD w b):=by
 have i:s.len=ds.length:=by have:=h.len;rw[qP]at this;omega
 refine okF (ae.uw s) ax.uw func228 ?_;delta ae.uw ak Y;refine⟨λc=>?_,λ_=>?_⟩
 .have c:s.a=none:=by simpa using c
  rw[h.nil c];exact⟨⟨none,0,0⟩,rfl,aT.none _ _ _,.refl _ _,λk d=>(f_ k d).elim⟩
 .obtain⟨b,w',h1,h2,j,e,f,_⟩:=sF.clone (cF:=72) h (BS ds) I
  exact aX ⟨b,w',h1,b,rfl,h2,e,f⟩
theorem Hk{ks:O Key}{k:Key}{a:Nat}(d:a<=ks.length)(h1:∀ (j:Nat) (h:j<ks.length),j<a->bo ks[j] k)(h2:∀ (j:Nat) (h:j<ks.length),a<=j->¬bo ks[j] k):cL ks k=a:=by
 unfold cL;rcases dX a ks.length with h|h
 .exact(List.findIdx_eq h).2 ⟨dR (h2 a h (bk _)),λj b=>h6 λc=>c (h1 j I b)⟩
 .have:a=ks.length:=by omega
  subst this;refine List.findIdx_eq_length_of_false λx hx=>?_;obtain⟨j,b,rfl⟩:=fv hx;exact h6 λc=>c (h1 j b b)
def g3(ks:O Key)(k:Key):al:=decide (ks[cL ks k]? =some k)
theorem Hl{B C:Nat->Prop}{s t:ad}{ks:O Key}{key:Key}{w:J}(hs:bH B w s ks)(ht:Src 1 w t (az key))(x:ks.Pairwise bo)(N:ks.length<=100000):
 aI aj 223 #[s,t,.func (.func 219) #[] #[]] w (λv w'=>v=.tuple #[.int .i64 ((cL ks key:Nat):Int),.bool (g3 ks key)]/\w=w'):=by
 refine okF (ae.ur s t ⟨219,#[],#[]⟩) ax.ur func223 ?_;(delta ae.ur ak aq r1 aO;dsimp only);have y:=bH.len hs;have o:h8 aj 219:=⟨_,(rm (show(Tryz.prog.funcs[219]?).isSome=true by kernel_rfl)).symm,by kernel_rfl,by kernel_rfl⟩;have aH:=λ{i j:Nat} (hi:i<j) (e:j<ks.length)=>k1.1 x i j I e hi;refine⟨λlo hi w'=>∃a b:Nat,lo=a/\hi=b/\a<=b/\b<=ks.length/\w=w'/\(∀ (j:Nat) (h:j<ks.length),j<a->bo ks[j] key)/\(∀ (j:Nat) (h:j<ks.length),b<=j->¬bo ks[j] key),λlo hi _=>(hi-lo).toNat,
  ⟨0,ks.length,rfl,by rw[y],cM _,bk _,rfl,λj _ h=>I,λj h h2=>I⟩,?_⟩
 rintro _ _ _ ⟨a,b,rfl,rfl,P,p,rfl,h1,h2⟩;have z:=Fb (a:=a) (b:=b) I;refine⟨λh=>?_,λh=>?_⟩
 .have D:(a:Int)<(b:Int):=cj h
  rw[z];obtain⟨m,E⟩:∃m,m=(a+b)/2:=⟨_,rfl⟩;rw[←E];have F:a<=m:=by omega
  have Q:m<b:=by omega
  obtain⟨A,t2,ar,f,g,k,_⟩:=bH.at hs (i:=m) I;refine⟨by decide,A,ar,f,t2,g,o,(lS k.1 ht).use ?_⟩;rintro _ _ ⟨rfl,rfl⟩;have G:IntKind.wrap .i64 ((m:Int)+1)=((m+1:Nat):Int):=by rw[bq I I];rfl
  refine⟨_,rfl,λhc=>?_,λhc=>?_⟩
  .have hc:bo ks[m] key:=cj hc
   rw[G];have l:((b:Int)-((m+1:Nat):Int)).toNat<((b:Int)-(a:Int)).toNat:=by omega
   refine⟨⟨m+1,b,rfl,rfl,I,p,rfl,λj e H=>?_,h2⟩,l⟩;rcases dX j m with d|d
   .exact lV (aH d I) hc
   .have:j=m:=by omega
    subst this;exact hc
  .have hc:¬bo ks[m] key:=cE hc
   have l:((m:Int)-(a:Int)).toNat<((b:Int)-(a:Int)).toNat:=by omega
   refine⟨⟨a,m,rfl,rfl,F,I,rfl,h1,λj e H=>?_⟩,l⟩;rcases dX m j with d|d
   .exact λK=>hc (lV (aH d e) K)
   .have:j=m:=by omega
    subst this;exact hc
 .have L:¬(a:Int)<(b:Int):=cE h
  have M:b=a:=by omega
  subst M;have n:cL ks key=b:=Hk p h1 h2;refine cx (λc w'=>w=w'/\c=g3 ks key) (λq r=>⟨λh=>?_,λh=>?_⟩) ?_
  .have D:(b:Int)<(s.len:Int):=cj h
   have u:b<ks.length:=by omega
   obtain⟨A,t2,ar,f,g,k,_⟩:=bH.at hs u;refine⟨A,ar,f,t2,g,o,(lS k.1 ht).use ?_⟩;rintro _ _ ⟨rfl,rfl⟩;refine⟨_,rfl,r _ _ ⟨rfl,?_⟩⟩;unfold g3;rw[n,e0,cg,j4,dI u,Gt];exact⟨λh=>by rw[h],λh=>Option.some.inj h⟩
  .have L:¬(b:Int)<(s.len:Int):=cE h
   refine r _ _ ⟨rfl,?_⟩;unfold g3;rw[n,n_ I];simp
  .rintro _ _ ⟨rfl,rfl⟩
   exact⟨by rw[n],rfl⟩
theorem mA{B:Nat->Prop}{w:J}{n:aD}{K V D t:ad}{key:Key}(h:bT B w n K V D)(ht:Src 1 w t (az key))(b:n.keys.Pairwise bo)(c:n.keys.length<=100000):
 aI aj 177 #[dg n K V D,t] w (λv w'=>v=.tuple #[.int .i64 ((cL n.keys key:Nat):Int),.bool (g3 n.keys key)]/\Ext w w'):=by
 refine okF (ae.mA n.leaf K V D t) ax.mA func177 ?_;(delta ae.mA r1 Y kL;dsimp only);refine ba (vs:=[n.leaf,K,V,D]) rfl λw1 d a _=>?_;obtain⟨bU,aW,a8,bg⟩:=bK d;refine⟨K,aW,(Hl (B:=B) (C:=B) (h.keys.ext a) (ht.ext a) b c).use ?_⟩;rintro _ _ ⟨rfl,rfl⟩;exact⟨_,_,rfl,rfl,a⟩
theorem qs{B:Nat->Prop}{w:J}{n:aD}{K V D t:ad}{key:Key}(h:bT B w n K V D)(ht:Src 1 w t (az key))(b:n.keys.Pairwise bo)(c:n.keys.length<=100000):
 aI aj 124 #[dg n K V D,t] w (λv w'=>v=.tuple #[.int .i64 ((cL n.keys key:Nat):Int),.bool (g3 n.keys key)]/\Ext w w'):=by
 refine okF (ae.qs n.leaf K V D t) ax.qs func124 ?_;(delta ae.qs aV Y r1 kL;dsimp only);refine ba (vs:=[n.leaf,K,V,D]) rfl λw1 d a _=>?_;obtain⟨bU,aW,a8,bg⟩:=bK d;refine⟨_,bU,K,aW,V,a8,D,bg,(mA (h.ext a) (ht.ext a) b c).use ?_⟩;rintro _ _ ⟨rfl,e⟩;exact⟨_,_,rfl,rfl,a.trans e⟩
theorem Hm{ks:O Key}(e:ks.Pairwise bo)(k:Key):df ks k=if g3 ks k then cL ks k+1 else cL ks k:=by
 have f:=qL ks k;have key:∀a,a<=ks.length->(∀ (j:Nat) (h:j<ks.length),j<a->¬bo k ks[j])->(∀h:a<ks.length,bo k ks[a])->df ks k=a:=by
  intro a g h1 h2;unfold df;rcases dX a ks.length with h|h
  .exact(List.findIdx_eq h).2 ⟨dR (h2 h),λj b=>h6 (h1 j I b)⟩
  .have:a=ks.length:=by omega
   subst this;refine List.findIdx_eq_length_of_false λx hx=>?_;obtain⟨j,b,rfl⟩:=fv hx;exact h6 (h1 j b b)
 split
 .rename_i c
  have c:ks[cL ks k]? =some k:=cj c;obtain⟨aH,he⟩:=jB.1 c;refine key _ aH (λj b h=>?_) λh=>?_
  .rcases dX j (cL ks k) with d|d
   .exact jQ (o_ d b)
   .have:j=cL ks k:=by omega
    subst this;rw[he];exact jP _
  .have:=k1.1 e _ _ aH h (Nat.lt_succ_self _)
   rwa[he]at this
 .rename_i c
  have c:¬ks[cL ks k]? =some k:=λh=>c (dR h);refine key _ f (λj b h=>jQ (o_ h b)) λh=>?_;rcases o8.1 (qM e (bk _) h) with d|d
  .exact d
  .exact absurd ((dI h).trans (congrArg some d.symm)) c
theorem oM{B:Nat->Prop}{w:J}{n:aD}{K V D t:ad}{key:Key}(h:bT B w n K V D)(ht:Src 1 w t (az key))(b:n.keys.Pairwise bo)(e:n.keys.length<=100000):
 aI aj 176 #[dg n K V D,t] w (λv w'=>v=.int .i64 ((df n.keys key:Nat):Int)/\Ext w w'):=by
 refine okF (ae.oM n.leaf K V D t) ax.oM func176 ?_;(delta ae.oM aV Y r1 kL ak aq;dsimp only);refine ba (vs:=[n.leaf,K,V,D]) rfl λw1 f a _=>?_;obtain⟨bU,aW,a8,bg⟩:=bK f;have i:=qL n.keys key;refine⟨_,bU,K,aW,V,a8,D,bg,(mA (h.ext a) (ht.ext a) b e).use ?_⟩;rintro _ ai ⟨rfl,g⟩;rw[Hm b];refine⟨_,_,rfl,cx (λc w'=>ai=w'/\c=((if g3 n.keys key then cL n.keys key+1 else cL n.keys key:Nat):Int)) (λq d=>⟨λh=>d _ _ ⟨rfl,?_⟩,λh=>d _ _ ⟨rfl,?_⟩⟩) ?_⟩
 .rw[if_pos h,bq I I];rfl
 .rw[if_neg (by simp[h])]
 .rintro _ _ ⟨rfl,rfl⟩
  exact⟨rfl,a.trans g⟩
structure hO(lo:Nat)(w:J)(aS:Nat)(n:aD)(K V D:ad)(bD bV bw:Nat->Prop):Prop where
 v:Var w aS [n.leaf,K,V,D] 169
 keys:bm bD w K n.keys
 vals:bm bV w V n.vals
 kids:cN bw w D n.kids
 b2:∀q,bD q->lo<=q/\q<w.heap.size/\q≠aS/\¬bV q/\¬bw q
 bv:∀q,bV q->lo<=q/\q<w.heap.size/\q≠aS/\¬bw q
 aO:∀q,bw q->lo<=q/\q<w.heap.size/\q≠aS
 mK:lo<=aS
structure gb(lo:Nat)(w:J)(n:aD)(K V D:ad)(bD bV bw:Nat->Prop):Prop where
 keys:bm bD w K n.keys
 vals:bm bV w V n.vals
 kids:cN bw w D n.kids
 b2:∀q,bD q->lo<=q/\q<w.heap.size/\¬bV q/\¬bw q
 bv:∀q,bV q->lo<=q/\q<w.heap.size/\¬bw q
 aO:∀q,bw q->lo<=q/\q<w.heap.size
section
variable {lo:Nat}{w w':J}{aS:Nat}{n:aD}{K V D:ad}{bD bV bw:Nat->Prop}
theorem hO.mem(h:hO lo w aS n K V D bD bV bw):gb lo w n K V D bD bV bw:=⟨h.keys,h.vals,h.kids,λq a=>⟨(h.b2 q a).1,(h.b2 q a).2.1,(h.b2 q a).2.2.2⟩,λq a=>⟨(h.bv q a).1,(h.bv q a).2.1,(h.bv q a).2.2.2⟩,λq a=>⟨(h.aO q a).1,(h.aO q a).2.1⟩⟩
theorem gb.ah{W:Nat->Prop}(h:gb lo w n K V D bD bV bw)(hc:af W w w')(cA:∀q,lo<=q->q<w.heap.size->bD q\/bV q\/bw q->¬W q):gb lo w' n K V D bD bV bw:=by
 have hs:=hc.size;refine⟨bm.ah h.keys hc λq a=>cA q (h.b2 q a).1 (h.b2 q a).2.1 (.inl a),bm.ah h.vals hc λq a=>cA q (h.bv q a).1 (h.bv q a).2.1 (.inr (.inl a)),cN.ah h.kids hc λq a=>cA q (h.aO q a).1 (h.aO q a).2 (.inr (.inr a)),λq a=>?_,λq a=>?_,λq a=>?_⟩
 .have:=h.b2 q a;exact⟨this.1,I,this.2.2⟩
 .have:=h.bv q a;exact⟨this.1,I,this.2.2⟩
 .have:=h.aO q a;exact⟨this.1,I⟩
theorem gb.ext(h:gb lo w n K V D bD bV bw)(hc:Ext w w'):gb lo w' n K V D bD bV bw:=h.ah hc λ_ _ _ _ h=>h
theorem hO.ext(h:hO lo w aS n K V D bD bV bw)(hx:Ext w w'):hO lo w' aS n K V D bD bV bw:=
 ⟨h.v.ext hx,bm.ext h.keys hx,bm.ext h.vals hx,cN.ext h.kids hx,λq a=>⟨(h.b2 q a).1,fi (h.b2 q a).2.1 hx.size,(h.b2 q a).2.2⟩,λq a=>⟨(h.bv q a).1,fi (h.bv q a).2.1 hx.size,(h.bv q a).2.2⟩,λq a=>⟨(h.aO q a).1,fi (h.aO q a).2.1 hx.size,(h.aO q a).2.2⟩,h.mK⟩
theorem gb.at(h:gb lo w n K V D bD bV bw):bT (λq=>lo<=q) w n K V D:=
 ⟨bH.a_ (bm.km h.keys) λq _ a=>(h.b2 q a).1,bH.a_ (bm.km h.vals) λq _ a=>(h.bv q a).1,c2.a_ (cN.qQ h.kids) λq _ a=>(h.aO q a).1⟩
theorem gb.low{c:Nat}(h:gb lo w n K V D bD bV bw)(b:c<=lo):gb c w n K V D bD bV bw:=
 ⟨h.keys,h.vals,h.kids,λq a=>⟨eG b (h.b2 q a).1,(h.b2 q a).2⟩,λq a=>⟨eG b (h.bv q a).1,(h.bv q a).2⟩,λq a=>⟨eG b (h.aO q a).1,(h.aO q a).2⟩⟩
end
theorem yL{lo:Nat}{w:J}{aS:Nat}{n:aD}{K V D t:ad}{l:Key}{bD bV bw:Nat->Prop}(h:hO lo w aS n K V D bD bV bw)(ht:Src 1 w t (az l))(U:l.length<=100000)(E:n.keys.length<=100000){R:J->Prop}
 (F:∀ (w':J) (G:ad) (x:Nat->Prop),hO lo w' aS {n with keys:=n.keys++ [l]} G V D x bV bw->af (λq=>q=aS\/bD q) w w'->(∀q,x q->bD q\/w.heap.size<=q)->R w'):
 ao w.drew λj=>∃m:Nat->Prop,¬m (Addr.add aS 1).block/\∃g:ad,j.cell? (Addr.add aS 1)=some (.slice g.a g.len g.cap)/\
  Calls aj 46 #[t] j λH d=>∃y:ad,H=.returned y/\af m j d/\
  ao (d.alloc (.cells #[y] 39)) λz=>af m d z/\∃A:ad,∃i:J,Sem.run aj (Builtin.append_ #[93,93] 93 #[g,.slice (some d.heap.size) 1 1]) z=.ok A i/\
  (∃u:aa,i.cell? (Addr.add aS 1)=some u)/\i.frozen? (Addr.add aS 1)=false/\ao (i.setCell (Addr.add aS 1) A) λL=>R L:=by
 have W:=h.mK;have X:=h.v.lt;have p:=cG w;obtain⟨bU,aW,a8,bg⟩:=bK (h.v.ext p);refine aX ⟨λ_=>False,id,K,aW,(l0 (B:=λq=>w.heap.size<=q) (ht.ext p) I (λq b=>b)).use ?_⟩;rintro _ d ⟨M,rfl,C,hx,hf⟩;have e:=p.trans hx;have Y:w.drew.heap.size=w.heap.size:=rfl;have N:=e.size;have O:=bm.ext h.keys e;have gl:=bm.ext h.vals e;have P:=cN.ext h.kids e;refine⟨M,rfl,hx,wj (B:=Grow bD w.drew d) (h.v.ext e) (o:=1) (by simp) (bm.a_ O λk _ h=>.inl h) ?_ (bu.a_ C λk c h=>.inr ⟨h,c⟩) ?_ E λw' aE aw ay f=>?_⟩
 .rintro(h1|h1)
  .exact(h.b2 aS h1).2.2.1 rfl
  .omega
 .intro k Q S
  obtain⟨ts,_,_,r,_⟩:=h.keys;have:=(r k S).2;have:=(C.2.2 k Q).1;omega
 have T:∀q,Grow (Grow bD w.drew d) d w' q->bD q\/(w.heap.size<=q/\q<w'.heap.size):=by
  rintro q ((h1|h1)|h1)
  .exact .inl h1
  .exact .inr ⟨h1.1,fi h1.2 f.size⟩
  .exact .inr ⟨eG N h1.1,h1.2⟩
 have hg:=f.size;have s:∀q,aB K q->bD q:=λq b=>by
  obtain⟨ts,_,_,r,_⟩:=h.keys;exact(r q b).1
 refine F w' aE (λq=>bD q\/(w.heap.size<=q/\q<w'.heap.size)) ⟨by simpa using aw,bm.a_ ay λk _ c=>T k c,bm.ah gl f ?_,cN.ah P f ?_,?_,λq b=>?_,λq b=>?_,h.mK⟩ ?_ ?_
 .rintro q b (h1|h1)
  .exact(h.bv q b).2.2.1 h1
  .exact(h.b2 q (s q h1)).2.2.2.1 b
 .rintro q b (h1|h1)
  .exact(h.aO q b).2.2 h1
  .exact(h.b2 q (s q h1)).2.2.2.2 b
 .rintro q (h1|h1)
  .have:=h.b2 q h1;exact⟨this.1,I,this.2.2⟩
  .exact⟨I,h1.2,I,λh2=>by have:=h.bv q h2;omega,λh2=>by have:=h.aO q h2;omega⟩
 .have:=h.bv q b;exact⟨this.1,I,this.2.2⟩
 .have:=h.aO q b;exact⟨this.1,I,this.2.2⟩
 .refine(af.cX e).trans (f.mono λk _ c=>?_)
  rcases c with c|c
  .exact .inl c
  .exact .inr (s k c)
 .rintro q (h1|h1)
  .exact .inl h1
  .exact .inr h1.1
theorem B9{lo:Nat}{w:J}{aS:Nat}{n:aD}{K V D t:ad}{l:Key}{bD bV bw:Nat->Prop}(h:hO lo w aS n K V D bD bV bw)(ht:Src 1 w t (az l))(U:l.length<=100000)(E:n.vals.length<=100000){R:J->Prop}
 (F:∀ (w':J) (G:ad) (x:Nat->Prop),hO lo w' aS {n with vals:=n.vals++ [l]} K G D bD x bw->af (λq=>q=aS\/bV q) w w'->(∀q,x q->bV q\/w.heap.size<=q)->R w'):
 ao w.drew λj=>∃m:Nat->Prop,¬m (Addr.add aS 2).block/\∃g:ad,j.cell? (Addr.add aS 2)=some (.slice g.a g.len g.cap)/\
  Calls aj 46 #[t] j λH d=>∃y:ad,H=.returned y/\af m j d/\
  ao (d.alloc (.cells #[y] 39)) λz=>af m d z/\∃A:ad,∃i:J,Sem.run aj (Builtin.append_ #[93,93] 93 #[g,.slice (some d.heap.size) 1 1]) z=.ok A i/\
  (∃u:aa,i.cell? (Addr.add aS 2)=some u)/\i.frozen? (Addr.add aS 2)=false/\ao (i.setCell (Addr.add aS 2) A) λL=>R L:=by
 have W:=h.mK;have X:=h.v.lt;have p:=cG w;obtain⟨bU,aW,a8,bg⟩:=bK (h.v.ext p);refine aX ⟨λ_=>False,id,V,a8,(l0 (B:=λq=>w.heap.size<=q) (ht.ext p) I (λq b=>b)).use ?_⟩;rintro _ d ⟨M,rfl,C,hx,hf⟩;have e:=p.trans hx;have Y:w.drew.heap.size=w.heap.size:=rfl;have N:=e.size;have O:=bm.ext h.keys e;have gl:=bm.ext h.vals e;have P:=cN.ext h.kids e;refine⟨M,rfl,hx,wj (B:=Grow bV w.drew d) (h.v.ext e) (o:=2) (by simp) (bm.a_ gl λk _ h=>.inl h) ?_ (bu.a_ C λk c h=>.inr ⟨h,c⟩) ?_ E λw' aE aw ay f=>?_⟩
 .rintro(h1|h1)
  .exact(h.bv aS h1).2.2.1 rfl
  .omega
 .intro k Q S
  obtain⟨ts,_,_,r,_⟩:=h.vals;have:=(r k S).2;have:=(C.2.2 k Q).1;omega
 have T:∀q,Grow (Grow bV w.drew d) d w' q->bV q\/(w.heap.size<=q/\q<w'.heap.size):=by
  rintro q ((h1|h1)|h1)
  .exact .inl h1
  .exact .inr ⟨h1.1,fi h1.2 f.size⟩
  .exact .inr ⟨eG N h1.1,h1.2⟩
 have hg:=f.size;have s:∀q,aB V q->bV q:=λq b=>by
  obtain⟨ts,_,_,r,_⟩:=h.vals;exact(r q b).1
 refine F w' aE (λq=>bV q\/(w.heap.size<=q/\q<w'.heap.size)) ⟨by simpa using aw,bm.ah O f ?_,bm.a_ ay λk _ c=>T k c,cN.ah P f ?_,λq b=>?_,?_,λq b=>?_,h.mK⟩ ?_ ?_
 .rintro q b (h1|h1)
  .exact(h.b2 q b).2.2.1 h1
  .exact(h.b2 q b).2.2.2.1 (s q h1)
 .rintro q b (h1|h1)
  .exact(h.aO q b).2.2 h1
  .exact(h.bv q (s q h1)).2.2.2 b
 .have:=h.b2 q b
  refine⟨this.1,I,this.2.2.1,?_,this.2.2.2.2⟩;rintro(h1|h1)
  .exact this.2.2.2.1 h1
  .omega
 .rintro q (h1|h1)
  .have:=h.bv q h1;exact⟨this.1,I,this.2.2⟩
  .exact⟨I,h1.2,I,λh2=>by have:=h.aO q h2;omega⟩
 .have:=h.aO q b;exact⟨this.1,I,this.2.2⟩
 .refine(af.cX e).trans (f.mono λk _ c=>?_)
  rcases c with c|c
  .exact .inl c
  .exact .inr (s k c)
 .rintro q (h1|h1)
  .exact .inl h1
  .exact .inr h1.1
theorem fG{B:Nat->Prop}{w0:J}{n:aD}{K V D:ad}(h:bT B w0 n K V D)(aQ:n.keys.length<=100000)(aR:n.vals.length<=100000)(aT:n.kids.length<=100000)(au:∀k∈n.keys,k.length<=100000)(av:∀v∈n.vals,v.length<=100000):
 aI aj 183 #[dg n K V D] w0 (λv w'=>∃ (K V D:ad) (bD bV bw:Nat->Prop),v=dg n K V D/\gb w0.heap.size w' n K V D bD bV bw/\Ext w0 w'):=by
 refine okF (ae.fG n.leaf K V D) ax.fG func183 ?_;(delta ae.fG z5 Y aV r1 bE x0 ak Bd aO st aq Be Bc r3;dsimp only);have aB:bT (λq=>q<w0.heap.size) w0 n K V D:=h.a_ λq a _=>a;have aU:=bH.len h.keys;have aY:=bH.len h.vals;refine ba (vs:=[n.leaf,K,V,D]) rfl λw1 aE aF aZ=>?_;refine ba (vs:=[false,(),(),()]) rfl λai aG aw a0=>aX ?_;have W:=cG ai;have a1:ai.drew.heap.size=ai.heap.size:=rfl;have L:=(aE.ext aw).ext W;have ay:=aG.ext W;have X:=aF.trans (aw.trans W);obtain⟨aJ,a2,a3,aK⟩:=bK L;have T:=aB.ext X;obtain⟨lo,a4⟩:∃lo,lo=ai.heap.size:=⟨_,rfl⟩;refine⟨λ_=>False,id,_,aJ,id,D,aK,⟨?_,?_⟩⟩
 .refine(sI T.kids.1 I).use ?_
  rintro _ H ⟨aC,rfl,y,x,Z⟩;have aL:=x.size;refine⟨aC,rfl,x,#[n.leaf,(),(),aC],(λw=>by kernel_rfl),?_⟩;refine ba (vs:=[false,(),(),()]) rfl λaz U z aM=>?_;refine⟨z,U.cn rfl ?_,rfl,cT U (us:=[n.leaf,(),(),aC]) rfl rfl λg M C aN=>?_⟩
  .intro v N
   simp only[c0,fw,fD]at N;rcases N with rfl|rfl|rfl|rfl<;>trivial
  obtain⟨aS,aa⟩:∃aS,aS=H.heap.size:=⟨_,rfl⟩;rw[←aa]at M C⊢;obtain⟨bw,r⟩:∃bw:Nat->Prop,bw=λq=>ai.heap.size<=q/\q<H.heap.size:=⟨_,rfl⟩;have ab:cN bw H aC n.kids:=by subst r;exact⟨y,λk l=>⟨⟨Z k l,y.lt k l⟩,y.lt k l⟩⟩
  have m:af (λq=>lo<=q) ai.drew g:=(af.cX (x.trans z)).trans (C.mono λk _ l=>I);have ac:hO lo g aS ⟨n.leaf,[],[],n.kids⟩ bI bI aC (λ_=>False) (λ_=>False) bw:=⟨M,bm.none _ _,bm.none _ _,cN.ah (cN.ext ab z) C (λq a e=>by subst r;have a:=a.2;omega),λq h=>h.elim,λq h=>h.elim,λq a=>(by subst r;obtain⟨h1,h2⟩:=a;exact⟨I,I,I⟩),I⟩;clear r;obtain⟨bU,aW,a8,bg⟩:=bK (L.ah m I);have O:bT (λq=>q<w0.heap.size) g n K V D:=T.ah m λq a h=>by omega
  have ag:=ay.ah m I;refine⟨K,aW,λi w'=>∃ (j:Nat) (d:ad) (bD:Nat->Prop),i=j/\j<=n.keys.length/\hO lo w' aS ⟨n.leaf,n.keys.take j,[],n.kids⟩ d bI aC bD (λ_=>False) bw/\af (λq=>lo<=q) g w',λi _=>((n.keys.length:Int)-i).toNat,⟨0,bI,_,rfl,cM _,ac,af.refl _ _⟩,?_⟩;rintro _ P ⟨j,d,bD,rfl,al,o,s⟩;have am:bT (λq=>q<w0.heap.size) P n K V D:=O.ah s λq a h=>by omega
  refine⟨λaH=>?_,λc=>?_⟩
  .have aH:j<n.keys.length:=by have:=cj aH;omega
   obtain⟨A,t,ar,E,hc,ht,_⟩:=bH.at am.keys aH;refine⟨A,ar,E,t,hc,yL o ht.1 (au _ (cP aH)) (by show(n.keys.take j).length<=_;rw[cz];omega) λw' dG an st F _=>?_⟩;have G:af (λq=>lo<=q) P w':=F.mono λq _ a=>by
    rcases a with a|a
    .have:=o.mK;omega
    .exact(o.b2 q a).1
   rw[bq (n:=(j:Int)+1) I I];refine⟨⟨j+1,dG,an,I,I,?_,s.trans G⟩,?_⟩
   .rw[take_succ _ aH];exact st
   .show((n.keys.length:Int)-((j:Int)+1)).toNat<((n.keys.length:Int)-(j:Int)).toNat
    omega
  have c:j=n.keys.length:=by have:=cE c;omega
  subst c;rw[j5]at o;obtain⟨bU,aW,a8,bg⟩:=bK ((L.ah m I).ah s I);refine⟨V,a8,λi w'=>∃ (j:Nat) (p:ad) (bV:Nat->Prop),i=j/\j<=n.vals.length/\hO lo w' aS ⟨n.leaf,n.keys,n.vals.take j,n.kids⟩ d p aC bD bV bw/\af (λq=>lo<=q) g w',λi _=>((n.vals.length:Int)-i).toNat,⟨0,bI,_,rfl,cM _,o,s⟩,?_⟩;rintro _ R ⟨j,p,bV,rfl,al,f,u⟩;have ao:bT (λq=>q<w0.heap.size) R n K V D:=O.ah u λq a h=>by omega
  refine⟨λaH=>?_,λc=>?_⟩
  .have aH:j<n.vals.length:=by have:=cj aH;omega
   obtain⟨A,t,ar,E,hc,ht,_⟩:=bH.at ao.vals aH;refine⟨A,ar,E,t,hc,B9 f ht.1 (av _ (cP aH)) (by show(n.vals.take j).length<=_;rw[cz];omega) λw' ee ap st F _=>?_⟩;have G:af (λq=>lo<=q) R w':=F.mono λq _ a=>by
    rcases a with a|a
    .have:=f.mK;omega
    .exact(f.bv q a).1
   rw[bq (n:=(j:Int)+1) I I];refine⟨⟨j+1,ee,ap,I,I,?_,u.trans G⟩,?_⟩
   .rw[take_succ _ aH];exact st
   .show((n.vals.length:Int)-((j:Int)+1)).toNat<((n.vals.length:Int)-(j:Int)).toNat
    omega
  have c:j=n.vals.length:=by have:=cE c;omega
  subst c;rw[j5]at f;obtain⟨d0,d1,d2,d3⟩:=bK f.v;refine⟨_,d0,d,d1,p,d2,aC,d3,iX n.leaf d p aC (ag.ah u I) rfl (Q:=λb K V D ai=>(λv w'=>∃ (K V D:ad) (bD bV bw:Nat->Prop),v=dg n K V D/\gb w0.heap.size w' n K V D bD bV bw/\Ext w0 w') (.agg #[b,K,V,D]) ai) λaP S=>⟨d,p,aC,bD,bV,bw,rfl,?_,?_⟩⟩
  .exact(gb.ah f.mem S λq a _ _ h=>I).low I
  .exact Ext.cC (Ext.dT X (m.trans u) λk l=>I) S I
 .refine ba (vs:=[false,(),(),()]) rfl λaz U z aM=>⟨z,?_⟩
  refine(sI (T.kids.ext z).1 I).use ?_;rintro _ H ⟨aC,rfl,y,x,Z⟩;have aL:=x.size;have aA:=U.ext x;refine⟨aC,rfl,x,#[n.leaf,(),(),aC],(λw=>by kernel_rfl),?_⟩;refine⟨aA.cn rfl ?_,rfl,cT aA (us:=[n.leaf,(),(),aC]) rfl rfl λg M C aN=>?_⟩
  .intro v N
   simp only[c0,fw,fD]at N;rcases N with rfl|rfl|rfl|rfl<;>trivial
  obtain⟨aS,aa⟩:∃aS,aS=ai.drew.heap.size:=⟨_,rfl⟩;rw[←aa]at M C⊢;obtain⟨bw,r⟩:∃bw:Nat->Prop,bw=λq=>az.heap.size<=q/\q<H.heap.size:=⟨_,rfl⟩;have ab:cN bw H aC n.kids:=by subst r;exact⟨y,λk l=>⟨⟨Z k l,y.lt k l⟩,y.lt k l⟩⟩
  have m:af (λq=>lo<=q) ai.drew g:=(af.cX (z.trans x)).trans (C.mono λk _ l=>I);have ac:hO lo g aS ⟨n.leaf,[],[],n.kids⟩ bI bI aC (λ_=>False) (λ_=>False) bw:=⟨M,bm.none _ _,bm.none _ _,cN.ah ab C (λq a e=>by subst r;have a:=a.1;omega),λq h=>h.elim,λq h=>h.elim,λq a=>(by subst r;obtain⟨h1,h2⟩:=a;exact⟨I,I,I⟩),I⟩;clear r;obtain⟨bU,aW,a8,bg⟩:=bK (L.ah m I);have O:bT (λq=>q<w0.heap.size) g n K V D:=T.ah m λq a h=>by omega
  have ag:=ay.ah m I;refine⟨K,aW,λi w'=>∃ (j:Nat) (d:ad) (bD:Nat->Prop),i=j/\j<=n.keys.length/\hO lo w' aS ⟨n.leaf,n.keys.take j,[],n.kids⟩ d bI aC bD (λ_=>False) bw/\af (λq=>lo<=q) g w',λi _=>((n.keys.length:Int)-i).toNat,⟨0,bI,_,rfl,cM _,ac,af.refl _ _⟩,?_⟩;rintro _ P ⟨j,d,bD,rfl,al,o,s⟩;have am:bT (λq=>q<w0.heap.size) P n K V D:=O.ah s λq a h=>by omega
  refine⟨λaH=>?_,λc=>?_⟩
  .have aH:j<n.keys.length:=by have:=cj aH;omega
   obtain⟨A,t,ar,E,hc,ht,_⟩:=bH.at am.keys aH;refine⟨A,ar,E,t,hc,yL o ht.1 (au _ (cP aH)) (by show(n.keys.take j).length<=_;rw[cz];omega) λw' dG an st F _=>?_⟩;have G:af (λq=>lo<=q) P w':=F.mono λq _ a=>by
    rcases a with a|a
    .have:=o.mK;omega
    .exact(o.b2 q a).1
   rw[bq (n:=(j:Int)+1) I I];refine⟨⟨j+1,dG,an,I,I,?_,s.trans G⟩,?_⟩
   .rw[take_succ _ aH];exact st
   .show((n.keys.length:Int)-((j:Int)+1)).toNat<((n.keys.length:Int)-(j:Int)).toNat
    omega
  have c:j=n.keys.length:=by have:=cE c;omega
  subst c;rw[j5]at o;obtain⟨bU,aW,a8,bg⟩:=bK ((L.ah m I).ah s I);refine⟨V,a8,λi w'=>∃ (j:Nat) (p:ad) (bV:Nat->Prop),i=j/\j<=n.vals.length/\hO lo w' aS ⟨n.leaf,n.keys,n.vals.take j,n.kids⟩ d p aC bD bV bw/\af (λq=>lo<=q) g w',λi _=>((n.vals.length:Int)-i).toNat,⟨0,bI,_,rfl,cM _,o,s⟩,?_⟩;rintro _ R ⟨j,p,bV,rfl,al,f,u⟩;have ao:bT (λq=>q<w0.heap.size) R n K V D:=O.ah u λq a h=>by omega
  refine⟨λaH=>?_,λc=>?_⟩
  .have aH:j<n.vals.length:=by have:=cj aH;omega
   obtain⟨A,t,ar,E,hc,ht,_⟩:=bH.at ao.vals aH;refine⟨A,ar,E,t,hc,B9 f ht.1 (av _ (cP aH)) (by show(n.vals.take j).length<=_;rw[cz];omega) λw' ee ap st F _=>?_⟩;have G:af (λq=>lo<=q) R w':=F.mono λq _ a=>by
    rcases a with a|a
    .have:=f.mK;omega
    .exact(f.bv q a).1
   rw[bq (n:=(j:Int)+1) I I];refine⟨⟨j+1,ee,ap,I,I,?_,u.trans G⟩,?_⟩
   .rw[take_succ _ aH];exact st
   .show((n.vals.length:Int)-((j:Int)+1)).toNat<((n.vals.length:Int)-(j:Int)).toNat
    omega
  have c:j=n.vals.length:=by have:=cE c;omega
  subst c;rw[j5]at f;obtain⟨d0,d1,d2,d3⟩:=bK f.v;refine⟨_,d0,d,d1,p,d2,aC,d3,iX n.leaf d p aC (ag.ah u I) rfl (Q:=λb K V D ai=>(λv w'=>∃ (K V D:ad) (bD bV bw:Nat->Prop),v=dg n K V D/\gb w0.heap.size w' n K V D bD bV bw/\Ext w0 w') (.agg #[b,K,V,D]) ai) λaP S=>⟨d,p,aC,bD,bV,bw,rfl,?_,?_⟩⟩
  .exact(gb.ah f.mem S λq a _ _ h=>I).low I
  .exact Ext.cC (Ext.dT X (m.trans u) λk l=>I) S I
theorem bm.mk'{B:Nat->Prop}{w:J}{s:ad}{ts:O ad}{ls:O Key}(a:ts.length=ls.length)(b:aT 1 39 w s (ts.map hN))(hi:In B w s)(c:∀p∈ts.zip ls,bu B w p.1 p.2/\∀k,aB p.1 k->¬aB s k):bm B w s ls:=by
 refine⟨ts,a,b,hi,λi h1 h2=>?_⟩;have:=c (ts[i],ls[i]) (by
  rw[tg];exact⟨i,by rw[n0];omega,by rw[te]⟩)
 exact this
theorem bm.out{B:Nat->Prop}{w:J}{s:ad}{ls:O Key}(h:bm B w s ls):∃ts:O ad,ts.length=ls.length/\aT 1 39 w s (ts.map hN)/\In B w s/\∀p∈ts.zip ls,bu B w p.1 p.2/\∀k,aB p.1 k->¬aB s k:=by
 obtain⟨ts,h1,h2,a,b⟩:=h;refine⟨ts,h1,h2,a,λp c=>?_⟩;obtain⟨i,hi,rfl⟩:=tg.1 c;rw[n0]at hi;rw[te];exact b i I I
theorem B_{α β:Type}(a:O α)(b:O β)(i:Nat):(a.take i).zip (b.take i)=(a.zip b).take i:=by
 rw[List.zip_eq_zipWith,List.zip_eq_zipWith,List.take_zipWith]
theorem Ca{α β:Type}(a:O α)(b:O β)(i:Nat):(a.drop i).zip (b.drop i)=(a.zip b).drop i:=by
 rw[List.zip_eq_zipWith,List.zip_eq_zipWith,List.drop_zipWith]
theorem Cb{B:Nat->Prop}{w:J}{s t:ad}{ls:O Key}{l:Key}{i:Nat}(q:bm B w s ls)(ht:bu B w t l)(hd:∀k,aB t k->¬aB s k)(F:ls.length<=100000)(hi:i<=ls.length):
 aI aj 200 #[s,.int .i64 (i:Int),.slice (some w.heap.size) 1 1] (w.alloc (.cells #[t] 39))
  (λu w'=>∃e:ad,u=e/\bm (Grow B w w') w' e (ls.take i++ [l]++ls.drop i)/\af (aB s) w w'):=by
 obtain⟨ts,h1,h2,j,m⟩:=bm.out q;have G:s.len=ls.length:=by have:=h2.1;rw[dn]at this;omega
 have hx:=c4 w (.cells #[t] 39);have r:=bj.new w #[t] 39;refine(Hi (v:=⟨some w.heap.size,1,1⟩) (xs:=[hN t]) (i:=i) (h2.ext hx) (Src.new (T:=39) w [hN t] 1 rfl) rfl rfl r (λh=>by have:=(j _ h).2;omega) (λv z=>by rw[fj.1 z];trivial) (wa ts) I I).mono ?_;rintro _ w' ⟨e,rfl,aw,ay,A,C⟩;rw[fB]at aw;have hc:af (aB s) w w':=(af.cX hx).trans A;have H:=hc.size;have K:(w.alloc (.cells #[t] 39)).heap.size=w.heap.size+1:=pd _ _;have n:∀k,aB e k->aB s k\/w.heap.size<=k:=λk d=>(C k d).imp id λh=>by omega
 have D:∀ (x:ad),In B w x->(∀k,aB x k->¬aB s k)->∀k,aB x k->¬aB e k:=λx hx f k d E=>by
  rcases n k E with h|h
  .exact f k d h
  .have:=(hx k d).2;omega
 have g:∀ (x:ad) (y:Key),bu B w x y->(∀k,aB x k->¬aB s k)->bu (Grow B w w') w' x y/\∀k,aB x k->¬aB e k:=λx y o f=>⟨bu.a_ (bu.kN o hc f) λk _ h=>.inl h,D x o.2.2 f⟩;refine⟨e,rfl,bm.mk' (ts:=ts.take i++ [t]++ts.drop i) ?_ ?_ ?_ ?_,hc⟩
 .simp only[cv,cz,eg,iN];omega
 .simpa[mc,mb] using aw
 .intro k d
  refine⟨?_,aw.lt k d⟩;rcases n k d with h|h
  .exact .inl (j k h).1
  .exact .inr ⟨h,aw.lt k d⟩
 .intro p c
  rw[List.zip_append (by simp only[cv,cz,iN];omega),List.zip_append (by simp only[cz];omega),B_,Ca]at c;rcases cO.1 c with c|c
  .rcases cO.1 c with c|c
   .obtain⟨a,b⟩:=m p (fC c)
    exact g _ _ a b
   .simp only[List.zip_cons_cons,List.zip_nil_left,fj]at c
    subst c;exact g _ _ ht hd
  .obtain⟨a,b⟩:=m p (fO c)
   exact g _ _ a b
theorem Hn:(Tryz.prog.info? 39).bind (·.zero)=some (.slice none 0 0):=by kernel_rfl
theorem Cc{B:Nat->Prop}{w:J}{s:ad}{ls:O Key}{i:Nat}(j:bm B w s ls)(r:ls.length<=100000)(hi:i<ls.length):
 aI aj 184 #[s,.int .i64 (i:Int),.int .i64 ((i+1:Nat):Int)] w
  (λu w'=>∃e:ad,u=e/\bm B w' e (ls.take i++ls.drop (i+1))/\af (aB s) w w'):=by
 obtain⟨ts,h1,h2,l,m⟩:=bm.out j;have t:s.len=ls.length:=by have:=h2.1;rw[dn]at this;omega
 refine(Hj (i:=i) h2 (wa ts) (λz g u hu=>by
  rw[Hn]at g
  cases g;simp[Value.cells]at hu;subst hu;trivial) I I).mono ?_
 rintro _ w' ⟨e,rfl,aw,ay,n,f⟩;rw[fB,fB]at aw;have v:=f.size;have h:∀k,aB e k->aB s k:=λk ⟨A,ar,c⟩=>⟨A,by rw[←n];exact ar,c⟩;refine⟨e,rfl,bm.mk' (ts:=ts.take i++ts.drop (i+1)) ?_ ?_ ?_ ?_,f⟩
 .simp only[cv,cz,eg];omega
 .simpa[mc,mb] using aw
 .exact λk c=>⟨(l k (h k c)).1,aw.lt k c⟩
 .intro p d
  rw[List.zip_append (by simp only[cz];omega),B_,Ca]at d;have o:p∈ts.zip ls:=by
   rcases cO.1 d with d|d
   .exact fC d
   .exact fO d
  obtain⟨a,b⟩:=m p o;exact⟨bu.kN a f b,λk c q=>b k c (h k q)⟩
theorem Ho{B:Nat->Prop}{w:J}{s t:ad}{ls:O Key}{l:Key}{i:Nat}(g:bm B w s ls)(ht:bu B w t l)(hd:∀k,aB t k->¬aB s k)(hi:i<ls.length):
 ∃A:ag,s.a=some A/\((0:Int)<=(i:Int)/\(i:Int)<(s.len:Int))/\(∃u:aa,w.cell? (A.add (Int.toNat (i:Int)*1))=some u)/\w.frozen? (A.add (Int.toNat (i:Int)*1))=false/\
  bm B (w.setCell (A.add (Int.toNat (i:Int)*1)) (hN t)) s (ls.set i l)/\af (aB s) w (w.setCell (A.add (Int.toNat (i:Int)*1)) (hN t)):=by
 obtain⟨ts,h1,h2,h,m⟩:=g;obtain⟨A,ar,n,hc,hf,o,p⟩:=h2.at (i:=i) (v:=hN (ts[i]'I)) (by simp[h1,hi]);have c:af (aB s) w (w.setCell (A.add (Int.toNat (i:Int)*1)) (hN t)):=af.set (.refl _ _) (λ_=>o) _;refine⟨A,ar,n,⟨_,hc⟩,hf,⟨ts.set i t,by simp[h1],?_,In.ah h c,λj d f=>?_⟩,c⟩
 .have:=p (hN t)
  rwa[←List.map_set]at this
 .rw[dr]at d f
  rw[nZ,nZ];by_cases e:i=j
  .rw[if_pos e,if_pos e]
   exact⟨bu.kN ht c hd,hd⟩
  .rw[if_neg e,if_neg e]
   obtain⟨a,b⟩:=m j d f;exact⟨bu.kN a c b,b⟩
def g4(n:aD)(k v:Key):aD:=
 if g3 n.keys k then {n with vals:=n.vals.set (cL n.keys k) v}
 else {n with keys:=n.keys.take (cL n.keys k)++ [k]++n.keys.drop (cL n.keys k),vals:=n.vals.take (cL n.keys k)++ [v]++n.vals.drop (cL n.keys k)}
def l1(n:aD)(k:Key):aD:={n with keys:=n.keys.take (cL n.keys k)++n.keys.drop (cL n.keys k+1),vals:=n.vals.take (cL n.keys k)++n.vals.drop (cL n.keys k+1)}
theorem gW.eS{n:aD}(h:gW n):(∀k∈n.keys,k.length<=100000)/\(∀v∈n.vals,v.length<=100000):=⟨λk a=>by have:=(h.ok k a).2;omega,λv b=>by have:=h.vals v b;omega⟩
def nG(n:aD)(w:J)(v:aa)(w':J):Prop:=∃K V D:ad,v=.tuple #[dg n K V D,true]/\bT (λq=>w.heap.size<=q) w' n K V D/\Ext w w'
theorem qv{B:Nat->Prop}{w:J}{n:aD}{K V D tk cV:ad}{key val:Key}(h:bT B w n K V D)(hs:gW n)(bN:n.keys.length<=10000)(c:Src 1 w tk (az key))(G:Src 1 w cV (az val))(aL:cw key)(bO:val.length<=24):
 aI aj 143 #[dg n K V D,tk,cV] w (nG (g4 n key val) w):=by
 have bP:=hs.len;have bQ:n.kids.length=0:=by rw[hs.kids];rfl
 have bR:=len8 G;have bS:key.length<=24:=aL.2;refine okF (ae.qv n.leaf K V D tk cV) ax.qv func143 ?_;(delta ae.qv z5 aV Y qe ak r1 b8 jn qa gj kL bE aO st cZ qb;dsimp only);refine ba (vs:=[n.leaf,K,V,D]) rfl λw1 aq a9 bW=>?_;refine ba (vs:=[false,(),(),()]) rfl λai bb ac bX=>?_;have aM:=a9.trans ac;obtain⟨bU,aW,a8,bg⟩:=bK (aq.ext ac);refine⟨n.leaf,bU,cx (λb w'=>b=false/\Ext ai w') (λq a=>⟨λp=>?_,λp=>⟨_,bU,K,aW,V,a8,D,bg,(kj (h.ext aM) I I I).use ?_⟩⟩) ?_⟩
 .rw[hs.leaf]at p;cases p
 .rintro _ au ⟨b,rfl,bc,C⟩
  have:=bc.2 (.inl hs);subst this;exact⟨true,rfl,a _ _ ⟨rfl,C⟩⟩
 rintro _ au ⟨rfl,C⟩;have ag:=aM.trans C;refine cx (λb w'=>b=false/\au=w') (λq a=>⟨λh=>(by cases h),λ_=>(oO (c.ext ag)).use ?_⟩) ?_
 .rintro _ _ ⟨rfl,rfl⟩
  exact⟨_,rfl,a _ _ ⟨by simp[aL],rfl⟩⟩
 rintro _ _ ⟨rfl,rfl⟩;obtain⟨bU,aW,a8,bg⟩:=bK (aq.ext (ac.trans C));refine⟨λp=>?_,λ_=>⟨_,bU,K,aW,V,a8,D,bg,(fG (h.ext ag) I I I hs.eS.1 hs.eS.2).use ?_⟩⟩
 .have p:decide (((cV.len:Int):Int)>24)=true:=p
  have:=cj p;omega
 rintro _ bd ⟨l,g,aC,bD,bV,bw,rfl,r,al⟩;have aN:=ag.trans al;have bY:=aN.size;have bZ:=ag.size;have b0:=C.size;have b1:=al.size;refine⟨n.leaf,l,g,aC,rfl,ba (vs:=[false,(),(),()]) rfl λb3 aP am b4=>⟨aP.cn rfl ?_,rfl,cT aP (us:=[n.leaf,l,g,aC]) rfl rfl λO P R b5=>?_⟩⟩
 .intro v G
  simp only[c0,fw,fD]at G;rcases G with rfl|rfl|rfl|rfl<;>trivial
 obtain⟨aS,be⟩:∃aS,aS=bd.heap.size:=⟨_,rfl⟩;rw[←be]at P R⊢;obtain⟨lo,bf⟩:∃lo,lo=au.heap.size:=⟨_,rfl⟩;rw[←bf]at r;have an:Ext w O:=Ext.cC (aN.trans am) R I;have bh:Var O w.heap.size [n.leaf,K,V,D] 169:=(((aq.ext (ac.trans C)).ext al).ext am).ah R I;have aQ:Var O w1.heap.size [false,(),(),()] 169:=(((bb.ext C).ext al).ext am).ah R I;have f:gb lo O n l g aC bD bV bw:=(r.ext am).ah R λq _ _ a e=>by
  subst e;rcases a with a|a|a
  .have:=(r.b2 _ a).2.1;omega
  .have:=(r.bv _ a).2.1;omega
  .have:=(r.aO _ a).2;omega
 obtain⟨bU,aW,a8,bg⟩:=bK bh;have bi:=qL n.keys key;refine⟨_,bU,K,aW,V,a8,D,bg,(mA (h.ext an) (c.ext an) hs.eY I).use ?_⟩;rintro _ m ⟨rfl,ao⟩;have av:=an.trans ao;have b6:=ao.size;refine⟨_,_,rfl,λH=>?_,λH=>?_⟩
 .
  have E:=cG m;have L:=ao.trans E;have aH:cL n.keys key<n.keys.length:=by
   have:=cj H;exact(jB.1 this).1
  obtain⟨d0,d1,d2,d3⟩:=bK (P.ext L);refine aX ⟨λ_=>False,id,g,d2,(l0 (B:=λq=>m.heap.size<=q) (G.ext (av.trans E)) I (λq a=>a)).use ?_⟩;rintro _ s ⟨t,rfl,ht,x,bj⟩;have T:=L.trans x;have aE:=f.ext T;have bk:=T.size;have bl:bm (Grow bV m s) s g n.vals:=bm.a_ aE.vals λk _ h=>.inl h;have y:∀k,aB g k->bV k:=λk c=>by obtain⟨ts,_,_,U,_⟩:=f.vals;exact(U k c).1
  obtain⟨A,ar,p,bn,qV,aR,aT⟩:=Ho (i:=cL n.keys key) bl (bu.a_ ht λk c h=>.inr ⟨h,c⟩) (λk W X=>by
   have:=(ht.2.2 k W).1;have:=(f.bv k (y k X)).2.1;omega) I
  refine⟨t,rfl,x,A,ar,p,bn,qV,aX ?_⟩;obtain⟨o,aU⟩:∃o,o=s.setCell (A.add (Int.toNat (cL n.keys key:Int)*1)) (hN t):=⟨_,rfl⟩;rw[←aU]at aR aT;have bo:s.setCell (A.add (Int.toNat (cL n.keys key:Int)*1)) t=o:=aU.symm;rw[bo];have Z:af (λq=>lo<=q/\q<O.heap.size/\bV q) s o:=aT.mono λk _ c=>⟨(f.bv k (y k c)).1,(f.bv k (y k c)).2.1,y k c⟩;have ap:=(P.ext T).ah Z (λe=>by
   have h1:=(r.bv _ e.2.2).2.1;omega)
  obtain⟨bp,bq,br,bs⟩:=bK ap;have bt:bT (λq=>lo<=q) o (g4 n key val) l g aC:=by
   unfold g4;rw[if_pos H];refine⟨bH.a_ (bH.ah (bm.km aE.keys) Z λq a e=>(f.b2 q a).2.2.1 e.2.2) λq _ a=>(f.b2 q a).1,bH.a_ (bm.km aR) λq _ a=>?_,c2.a_ (c2.ah (cN.qQ aE.kids) Z λq a e=>(f.bv q e.2.2).2.2 a) λq _ a=>(f.aO q a).1⟩;rcases a with a|a
   .exact(f.bv q a).1
   .omega
  have bx:(g4 n key val).leaf=n.leaf:=by unfold g4;rw[if_pos H]
  refine⟨_,bp,l,bq,g,br,aC,bs,iX n.leaf l g aC ((aQ.ext T).ah Z (λe=>by have:=e.1;omega)) rfl (Q:=λb K V D ai=>nG (g4 n key val) w (.tuple #[.agg #[b,K,V,D],true]) ai) λj u=>⟨l,g,aC,by unfold dg;rw[bx],?_,?_⟩⟩
  .exact(bt.ah u λq a e=>I).a_ λq _ a=>by omega
  .exact Ext.cC (Ext.dT (an.trans T) Z λk c=>I) u I
 .
  have E:=cG m;have L:=ao.trans E;have aY:hO lo m.drew aS n l g aC bD bV bw:=by
   have M:=f.ext L;refine⟨P.ext L,M.keys,M.vals,M.kids,λq a=>?_,λq a=>?_,λq a=>?_,I⟩
   .have h1:=M.b2 q a;have:=(r.b2 q a).2.1;exact⟨h1.1,h1.2.1,I,h1.2.2⟩
   .have h1:=M.bv q a;have:=(r.bv q a).2.1;exact⟨h1.1,h1.2.1,I,h1.2.2⟩
   .have h1:=M.aO q a;have:=(r.aO q a).2;exact⟨h1.1,h1.2,I⟩
  obtain⟨d0,d1,d2,d3⟩:=bK aY.v;refine aX ⟨λ_=>False,id,l,d1,(l0 (B:=λq=>m.heap.size<=q) (c.ext (av.trans E)) I (λq a=>a)).use ?_⟩;rintro _ s ⟨t,rfl,ht,x,bj⟩;have bk:m.heap.size<=s.heap.size:=(E.trans x).size;have aF:∀k,aB l k->bD k:=λk c=>by obtain⟨ts,_,_,U,_⟩:=f.keys;exact(U k c).1
  have y:∀k,aB g k->bV k:=λk c=>by obtain⟨ts,_,_,U,_⟩:=f.vals;exact(U k c).1
  have d:=aY.ext x;refine⟨t,rfl,x,aX ⟨c4 _ _,(Cb (B:=Grow bD m s) (i:=cL n.keys key) (bm.a_ d.keys λk _ h=>.inl h) (bu.a_ ht λk c h=>.inr ⟨h,c⟩) (λk W X=>by
   have:=(ht.2.2 k W).1;have:=(f.b2 k (aF k X)).2.1;omega) I bi).use ?_⟩⟩
  rintro _ o ⟨S,rfl,bz,aZ⟩;have b7:=aZ.size;have aa:af (λq=>lo<=q/\bD q) s o:=aZ.mono λk _ c=>⟨(f.b2 k (aF k c)).1,aF k c⟩;have ap:=d.v.ah aa λe=>(d.b2 _ e.2).2.2.1 rfl;obtain⟨s1,s2⟩:=eF ap (i:=1) (by simp);refine⟨S,rfl,?_⟩;rw[aA,aA];refine⟨s1,s2,aX (aX ?_)⟩;obtain⟨j,aG⟩:∃j,j=(o.setCell ⟨aS,0+1,none⟩ S).drew:=⟨_,rfl⟩;rw[←aG];have u:af (λq=>q=aS) o j:=by rw[aG];exact af.drew (ed _ _ _ _)
  have a0:Var j aS [n.leaf,S,g,aC] 169:=by rw[aG];exact(eE ap _).drew
  have b9:=u.size;have b_:aS<m.heap.size:=by have:=P.lt;omega
  have bA:bm (λq=>bD q\/(m.heap.size<=q/\q<o.heap.size)) j S (n.keys.take (cL n.keys key)++ [key]++n.keys.drop (cL n.keys key)):=by
   refine bm.ah (bm.a_ bz λk _ c=>?_) u λk c e=>?_
   .rcases c with (c|c)|c
    .exact .inl c
    .exact .inr ⟨c.1,I⟩
    .exact .inr ⟨I,c.2⟩
   .subst e
    rcases c with c|c
    .exact(d.b2 _ c).2.2.1 rfl
    .omega
  have bB:bm bV j g n.vals:=bm.ah (bm.ah d.vals aa λq a e=>(d.b2 q e.2).2.2.2.1 a) u λq a e=>(d.bv q a).2.2.1 e;have bC:cN bw j aC n.kids:=cN.ah (cN.ah d.kids aa λq a e=>(d.b2 q e.2).2.2.2.2 a) u λq a e=>(d.aO q a).2.2 e;have a1:Ext w j:=Ext.dT (Ext.dT ((av.trans E).trans x) aa λk c=>I) u λk c=>by omega
  obtain⟨f0,f1,f2,f3⟩:=bK a0;rw[aA]at f2;refine⟨λ_=>False,id,g,f2,(l0 (B:=λq=>j.heap.size<=q) (G.ext a1) I (λq a=>a)).use ?_⟩;rintro _ a2 ⟨t2,rfl,a3,z,ca⟩;have cb:=z.size;refine⟨t2,rfl,z,aX ⟨c4 _ _,(Cb (B:=Grow bV j a2) (i:=cL n.keys key) (bm.a_ (bm.ext bB z) λk _ h=>.inl h) (bu.a_ a3 λk c h=>.inr ⟨h,c⟩) (λk W X=>by
   have:=(a3.2.2 k W).1;have:=(f.bv k (y k X)).2.1;omega) I I).use ?_⟩⟩
  rintro _ aJ ⟨dO,rfl,bF,a4⟩;have cc:=a4.size;have ab:af (λq=>lo<=q/\bV q) a2 aJ:=a4.mono λk _ c=>⟨(f.bv k (y k c)).1,y k c⟩;have a5:=(a0.ext z).ah ab λe=>(d.bv _ e.2).2.2.1 rfl;obtain⟨s1,s2⟩:=eF a5 (i:=2) (by simp);refine⟨dO,rfl,?_⟩;rw[aA,aA];refine⟨s1,s2,aX ?_⟩;obtain⟨F,aK⟩:∃F,F=aJ.setCell ⟨aS,0+2,none⟩ dO:=⟨_,rfl⟩;rw[←aK];have N:af (λq=>q=aS) aJ F:=by rw[aK];exact ed _ _ _ _
  have bG:Var F aS [n.leaf,S,dO,aC] 169:=by rw[aK];exact eE a5 _
  have cd:=N.size;obtain⟨sJ,aw,ay,a6⟩:=bK bG;rw[aA]at aw ay a6;have bI:bT (λq=>lo<=q) F (g4 n key val) S dO aC:=by
   unfold g4;rw[if_neg (by rw[H];simp)];refine⟨?_,?_,?_⟩
   .refine bH.a_ (bm.km (bm.ah (bm.ah (bm.ext bA z) ab λq a e=>?_) N λq a e=>?_)) λq _ a=>?_
    .rcases a with a|a
     .exact(d.b2 q a).2.2.2.1 e.2
     .have:=(f.bv q e.2).2.1;omega
    .subst e
     rcases a with a|a
     .exact(d.b2 _ a).2.2.1 rfl
     .omega
    .rcases a with a|a
     .exact(d.b2 q a).1
     .omega
   .refine bH.a_ (bm.km (bm.ah bF N λq a e=>?_)) λq _ a=>?_
    .subst e
     rcases a with (a|a)|a
     .exact(d.bv _ a).2.2.1 rfl
     .omega
     .omega
    .rcases a with (a|a)|a
     .exact(d.bv q a).1
     .omega
     .omega
   .exact c2.a_ (cN.qQ (cN.ah (cN.ah (cN.ext bC z) ab λq a e=>(d.bv q e.2).2.2.2 a) N λq a e=>(d.aO q a).2.2 e)) λq _ a=>(d.aO q a).1
  have bJ:(g4 n key val).leaf=n.leaf:=by unfold g4;rw[if_neg (by rw[H];simp)]
  have bL:Ext w F:=Ext.dT (Ext.dT (a1.trans z) ab λk c=>I) N λk c=>by omega
  have bM:Var F w1.heap.size [false,(),(),()] 169:=by
   have h1:=aQ.ext (L.trans x);have h2:=(h1.ah aa (λe=>by have:=e.1;omega)).ah u I;exact((h2.ext z).ah ab (λe=>by have:=e.1;omega)).ah N I
  rw[aA,aA];refine⟨_,sJ,S,aw,dO,ay,aC,a6,?_⟩;have:=iX n.leaf S dO aC bM rfl (Q:=λb K V D ai=>nG (g4 n key val) w (.tuple #[.agg #[b,K,V,D],true]) ai) λce a7=>⟨S,dO,aC,by unfold dg;rw[bJ],(bI.ah a7 λq a e=>I).a_ λq _ a=>I,Ext.cC bL a7 I⟩;simpa only[aA] using this
def qW(n:aD)(key:Key)(w:J)(v:aa)(w':J):Prop:=
 if g3 n.keys key then nG (l1 n key) w v w' else v=.tuple #[dg iW bI bI bI,false]/\Ext w w'
theorem qt{B:Nat->Prop}{w:J}{n:aD}{K V D tk:ad}{key:Key}(h:bT B w n K V D)(hs:gW n)(a4:n.keys.length<=10000)(d:Src 1 w tk (az key)):
 aI aj 130 #[dg n K V D,tk] w (qW n key w):=by
 have a5:=hs.len;have a6:n.kids.length=0:=by rw[hs.kids];rfl
 refine okF (ae.qt n.leaf K V D tk) ax.qt func130 ?_;(delta ae.qt z5 aV Y r1 kL qe ak b8 jn qa gj bE aq st cZ qb;dsimp only);refine ba (vs:=[n.leaf,K,V,D]) rfl λw1 E ar a7=>?_;refine ba (vs:=[false,(),(),()]) rfl λai au A a9=>?_;have F:=ar.trans A;obtain⟨bU,aW,a8,bg⟩:=bK (E.ext A);refine⟨_,bU,K,aW,V,a8,D,bg,(mA (h.ext F) (d.ext F) hs.eY I).use ?_⟩;rintro _ av ⟨rfl,s⟩;have T:=F.trans s;obtain⟨bU,aW,a8,bg⟩:=bK (E.ext (A.trans s));refine⟨_,_,rfl,n.leaf,bU,cx (λb w'=>b=false/\Ext av w') (λq a=>⟨λf=>?_,λf=>⟨_,bU,K,aW,V,a8,D,bg,(kj (h.ext T) I I I).use ?_⟩⟩) ?_⟩
 .rw[hs.leaf]at f;cases f
 .rintro _ U ⟨b,rfl,aE,o⟩
  have:=aE.2 (.inl hs);subst this;exact⟨true,rfl,a _ _ ⟨rfl,o⟩⟩
 rintro _ U ⟨rfl,o⟩;have G:=T.trans o;have bb:=o.size;have bc:=s.size;have W:=au.ext (s.trans o);refine⟨λf=>?_,λf=>?_⟩
 .have f:g3 n.keys key=false:=by simpa using f
  refine iX false bI bI bI W rfl (Q:=λb K V D ai=>qW n key w (.tuple #[.agg #[b,K,V,D],false]) ai) λX aF=>?_;unfold qW;rw[if_neg (by rw[f];simp)];exact⟨rfl,Ext.cC G aF I⟩
 have Z:g3 n.keys key=true:=by simpa using f
 have aH:cL n.keys key<n.keys.length:=(jB.1 (cj Z)).1;obtain⟨bU,aW,a8,bg⟩:=bK (E.ext (A.trans (s.trans o)));refine⟨_,bU,K,aW,V,a8,D,bg,(fG (h.ext G) I I I hs.eS.1 hs.eS.2).use ?_⟩;rintro _ X ⟨p,g,aC,bD,bV,bw,rfl,j,H⟩;have aG:=G.trans H;have bd:=H.size;refine⟨n.leaf,p,g,aC,rfl,ba (vs:=[false,(),(),()]) rfl λbe aa L bf=>⟨aa.cn rfl ?_,rfl,cT aa (us:=[n.leaf,p,g,aC]) rfl rfl λt ab C bh=>?_⟩⟩
 .intro v ac
  simp only[c0,fw,fD]at ac;rcases ac with rfl|rfl|rfl|rfl<;>trivial
 obtain⟨aS,aJ⟩:∃aS,aS=X.heap.size:=⟨_,rfl⟩;rw[←aJ]at ab C⊢;obtain⟨lo,aK⟩:∃lo,lo=U.heap.size:=⟨_,rfl⟩;rw[←aK]at j;have aL:Ext w t:=Ext.cC (aG.trans L) C I;have aM:Var t w1.heap.size [false,(),(),()] 169:=((W.ext H).ext L).ah C I;have c:hO lo t aS n p g aC bD bV bw:=by
  have r:gb lo t n p g aC bD bV bw:=(j.ext L).ah C λq _ _ a e=>by
   subst e;rcases a with a|a|a
   .have:=(j.b2 _ a).2.1;omega
   .have:=(j.bv _ a).2.1;omega
   .have:=(j.aO _ a).2;omega
  refine⟨ab,r.keys,r.vals,r.kids,λq a=>?_,λq a=>?_,λq a=>?_,I⟩
  .have h1:=r.b2 q a;have:=(j.b2 q a).2.1;exact⟨h1.1,h1.2.1,I,h1.2.2⟩
  .have h1:=r.bv q a;have:=(j.bv q a).2.1;exact⟨h1.1,h1.2.1,I,h1.2.2⟩
  .have h1:=r.aO q a;have:=(j.aO q a).2;exact⟨h1.1,h1.2,I⟩
 have ag:∀k,aB p k->bD k:=λk d=>by obtain⟨ts,_,_,M,_⟩:=c.keys;exact(M k d).1
 have al:∀k,aB g k->bV k:=λk d=>by obtain⟨ts,_,_,M,_⟩:=c.vals;exact(M k d).1
 obtain⟨d0,d1,d2,d3⟩:=bK c.v;have bi:=c.v.lt;rw[bq (n:=((cL n.keys key:Nat):Int)+1) I I];refine⟨p,d1,(Cc c.keys I aH).use ?_⟩;rintro _ N ⟨S,rfl,aN,aP⟩;have u:af (λq=>lo<=q/\bD q) t N:=aP.mono λk _ d=>⟨(c.b2 k (ag k d)).1,ag k d⟩;have am:=c.v.ah u λe=>(c.b2 _ e.2).2.2.1 rfl;obtain⟨s1,s2⟩:=eF am (i:=1) (by simp);refine⟨S,rfl,?_⟩;rw[aA,aA];refine⟨s1,s2,aX ?_⟩;obtain⟨l,O⟩:∃l,l=N.setCell ⟨aS,0+1,none⟩ S:=⟨_,rfl⟩;rw[←O];have x:af (λq=>q=aS) N l:=by rw[O];exact ed _ _ _ _
 have an:Var l aS [n.leaf,S,g,aC] 169:=by rw[O];exact eE am _
 have aQ:bm bD l S (n.keys.take (cL n.keys key)++n.keys.drop (cL n.keys key+1)):=bm.ah aN x λq a e=>(c.b2 q a).2.2.1 e;have aR:bm bV l g n.vals:=bm.ah (bm.ah c.vals u λq a e=>(c.b2 q e.2).2.2.2.1 a) x λq a e=>(c.bv q a).2.2.1 e;have aT:cN bw l aC n.kids:=cN.ah (cN.ah c.kids u λq a e=>(c.b2 q e.2).2.2.2.2 a) x λq a e=>(c.aO q a).2.2 e;obtain⟨f0,f1,f2,f3⟩:=bK an;rw[aA]at f2;refine⟨g,f2,(Cc aR I I).use ?_⟩;rintro _ P ⟨dO,rfl,aU,aY⟩;have y:af (λq=>lo<=q/\bV q) l P:=aY.mono λk _ d=>⟨(c.bv k (al k d)).1,al k d⟩;have ao:=an.ah y λe=>(c.bv _ e.2).2.2.1 rfl;obtain⟨s1,s2⟩:=eF ao (i:=2) (by simp);refine⟨dO,rfl,?_⟩;rw[aA,aA];refine⟨s1,s2,aX ?_⟩;obtain⟨m,R⟩:∃m,m=P.setCell ⟨aS,0+2,none⟩ dO:=⟨_,rfl⟩;rw[←R];have z:af (λq=>q=aS) P m:=by rw[R];exact ed _ _ _ _
 have aZ:Var m aS [n.leaf,S,dO,aC] 169:=by rw[R];exact eE ao _
 obtain⟨sJ,aw,ay,a0⟩:=bK aZ;have a1:bT (λq=>lo<=q) m (l1 n key) S dO aC:=by
  refine⟨?_,?_,?_⟩
  .exact bH.a_ (bm.km (bm.ah (bm.ah aQ y λq a e=>(c.b2 q a).2.2.2.1 e.2) z λq a e=>(c.b2 q a).2.2.1 e)) λq _ a=>(c.b2 q a).1
  .exact bH.a_ (bm.km (bm.ah aU z λq a e=>(c.bv q a).2.2.1 e)) λq _ a=>(c.bv q a).1
  .exact c2.a_ (cN.qQ (cN.ah (cN.ah aT y λq a e=>(c.bv q e.2).2.2.2 a) z λq a e=>(c.aO q a).2.2 e)) λq _ a=>(c.aO q a).1
 have a2:Ext w m:=Ext.dT (Ext.dT (Ext.dT (Ext.dT aL u λk d=>I) x λk d=>I) y λk d=>I) z λk d=>by omega
 have a3:Var m w1.heap.size [false,(),(),()] 169:=
  (((aM.ah u (λe=>by have:=e.1;omega)).ah x I).ah y (λe=>by have:=e.1;omega)).ah z I
 refine⟨_,sJ,S,aw,dO,ay,aC,a0,iX n.leaf S dO aC a3 rfl (Q:=λb K V D ai=>qW n key w (.tuple #[.agg #[b,K,V,D],true]) ai) λbj ap=>?_⟩;unfold qW;rw[if_pos Z];exact⟨S,dO,aC,rfl,(a1.ah ap λq a e=>I).a_ λq _ a=>I,Ext.cC a2 ap I⟩
theorem yM{n:aD}(hs:cI n)(m:Nat):((cellsOf n).take m).sum<=100*n.keys.length:=by
 have h1:((cellsOf n).take m).sum<=(cellsOf n).sum:=by
  have:=yk (cellsOf n) m;omega
 have h2:=yt hs n.keys.length (bk _);rw[dC (by rw[qO hs];exact bk _)]at h2;have a:=yA hs n.keys.length (bk _);omega
theorem nv{B:Nat->Prop}{w:J}{n:aD}{K V D:ad}(h:bT B w n K V D)(hs:cI n)(G:n.keys.length<=10000){most:Nat}(H:most<=n.keys.length):
 aI aj 282 #[dg n K V D,most] w (λv w'=>v=.int .i64 ((gC (cellsOf n) most:Nat):Int)/\Ext w w'):=by
 refine okF (ae.nv n.leaf K V D (most:Int)) ax.nv func282 ?_;(delta ae.nv r1 Y ak aV bE aq;dsimp only);refine ba (vs:=[n.leaf,K,V,D]) rfl λw1 o d _=>?_;obtain⟨bU,aW,a8,bg⟩:=bK o;have L:=bH.len h.keys;have M:=qO hs;have x:∀ (j:Nat) (f:j<(cellsOf n).length),(cellsOf n)[j]=(gJ n j).length:=λj f=>by
  have h1:=yr hs (i:=j) I;rw[dI f]at h1;exact Option.some.inj h1
 refine⟨K,aW,λa i w'=>∃j:Nat,i=j/\j<=n.keys.length/\a=((((cellsOf n).take j).sum:Nat):Int)/\Ext w1 w',λ_ i _=>((n.keys.length:Int)-i).toNat,⟨0,rfl,cM _,by simp,.refl _ _⟩,?_⟩;rintro _ _ ai ⟨j,rfl,f,rfl,g⟩;obtain⟨d0,d1,d2,d3⟩:=bK (o.ext g);refine⟨λaH=>?_,λb=>?_⟩
 .have aH:j<n.keys.length:=by have:=cj aH;omega
  refine⟨_,d0,K,d1,V,d2,D,d3,(nu (h.ext (d.trans g)) hs aH I).use ?_⟩;rintro _ N ⟨s,rfl,p,A,_⟩;have q:=lZ p;have C:=yM hs j;have hc:=we hs aH;have e:=qK (l:=cellsOf n) (i:=j) I;rw[x j I]at e;refine⟨s,rfl,?_⟩;rw[q,bq (n:=((((cellsOf n).take j).sum:Nat):Int)+(((gJ n j).length:Nat):Int)) I I,bq (n:=(j:Int)+1) I I];refine⟨⟨j+1,I,I,I,g.trans A⟩,?_⟩;show((n.keys.length:Int)-((j:Int)+1)).toNat<((n.keys.length:Int)-(j:Int)).toNat;omega
 have b:j=n.keys.length:=by have:=cE b;omega
 subst b;rw[dC (l:=cellsOf n) I];refine⟨λa i w'=>∃j:Nat,i=j/\j<=most/\a=((((cellsOf n).take j).sum:Nat):Int)/\Ext w1 w'/\∀k,k<j->2*((cellsOf n).take (k+1)).sum<(cellsOf n).sum,λ_ i _=>((most:Int)-i).toNat,⟨0,rfl,cM _,by simp,g,λk E=>I⟩,?_⟩;rintro _ _ O ⟨j,rfl,f,rfl,c,r⟩;obtain⟨d0,d1,d2,d3⟩:=bK (o.ext c);have F:=yM hs (cellsOf n).length;rw[j5]at F;refine⟨λaH=>?_,λb=>?_⟩
 .have aH:j<most:=by have:=cj aH;omega
  refine⟨_,d0,K,d1,V,d2,D,d3,(nu (h.ext (d.trans c)) hs I I).use ?_⟩;rintro _ P ⟨s,rfl,p,y,_⟩;have q:=lZ p;have C:=yM hs j;have hc:=we hs (i:=j) I;have e:=qK (l:=cellsOf n) (i:=j) I;rw[x j I]at e;refine⟨s,rfl,?_⟩;rw[q,bq (n:=((((cellsOf n).take j).sum:Nat):Int)+(((gJ n j).length:Nat):Int)) I I,bq (n:=2*(((((cellsOf n).take j).sum:Nat):Int)+(((gJ n j).length:Nat):Int))) I I,bq (n:=(j:Int)+1) I I];refine⟨λhd=>⟨?_,d.trans (c.trans y)⟩,λhd=>⟨⟨j+1,I,I,I,c.trans y,λk E=>?_⟩,?_⟩⟩
  .have hd:=cj hd
   have t:(List.range most).find? (λi=>decide ((cellsOf n).sum<=2*((cellsOf n).take (i+1)).sum))=some j:=by
    have:=fi aH (bk most);rw[List.find?_eq_some_iff_append];refine⟨dR I,List.range j,List.range' (j+1) (most-(j+1)),?_,λa u=>?_⟩
    .have z:=List.range'_append (s:=0) (m:=j) (n:=most-(j+1)+1) (step:=1)
     rw[s6,s6,←List.range'_succ];rw[Nat.one_mul,cR]at z;rw[z]
     congr 1
     omega
    .have:=r a (j1.1 u)
     simp;omega
   unfold gC;rw[t];rfl
  .have hd:=cE hd
   rcases dX k j with h1|h1
   .exact r k h1
   .have:k=j:=by omega
    subst this;omega
  .show((most:Int)-((j:Int)+1)).toNat<((most:Int)-(j:Int)).toNat
   omega
 .have b:j=most:=by have:=cE b;omega
  subst b;refine⟨?_,d.trans c⟩;have t:(List.range j).find? (λi=>decide ((cellsOf n).sum<=2*((cellsOf n).take (i+1)).sum))=none:=by
   rw[j8];intro a u;have:=r a (j1.1 u);simp;omega
  unfold gC;rw[t]
theorem bH.sub{B:Nat->Prop}{w:J}{s:ad}{ls:O Key}{lo hi:Nat}(h:bH B w s ls)(h1:lo<=hi)(h2:hi<=ls.length):bH B w ⟨aZ s.a 1 lo s.cap,hi-lo,s.cap-lo⟩ ((ls.drop lo).take (hi-lo)):=by
 have l:=bH.len h;obtain⟨ts,aw,ay,b,c,d⟩:=h;refine⟨(ts.drop lo).take (hi-lo),by simp[aw],?_,by show hi-lo<=s.cap-lo;omega,λk e=>?_,λi f g=>?_⟩
 .have:=Src.sub ay b h1 I
  simpa[mb,mc] using this
 .obtain⟨A,ar,j⟩:=wh e
  exact c k ⟨A,ar,j⟩
 .simp only[m4,ru]
  rw[cz,eg]at f g;exact d (lo+i) I I
theorem bH.le{B:Nat->Prop}{w:J}{s:ad}{ls:O Key}(h:bH B w s ls):s.len<=s.cap:=by
 obtain⟨ts,_,_,a,_⟩:=h;exact a
theorem c2.sub{B:Nat->Prop}{w:J}{s:ad}{ds:O Nat}{lo hi:Nat}(h:c2 B w s ds)(h1:lo<=hi)(h2:hi<=ds.length):c2 B w ⟨aZ s.a 1 lo s.cap,hi-lo,s.cap-lo⟩ ((ds.drop lo).take (hi-lo)):=by
 have f:=c2.len h;obtain⟨ay,b,c⟩:=h;have g:s.len<=s.cap:=b;refine⟨?_,by show hi-lo<=s.cap-lo;omega,λk d=>?_⟩
 .have:=Src.sub ay b h1 I
  simpa[fW,mb,mc] using this
 .obtain⟨A,ar,e⟩:=wh d
  exact c k ⟨A,ar,e⟩
theorem pk(b:al)(K V D:ad):∀v∈([b,K,V,D]:O aa),Plain v:=by
 intro v a;simp only[c0,fw,fD]at a;rcases a with rfl|rfl|rfl|rfl<;>trivial
theorem Cd{c:J}{r1 aG:Nat}{yN yO:O aa}{cB b6:al}{fo gd bG dG ee c7:ad}(h1:Var c r1 yN 169)(h2:Var c aG yO 169)(n:yN.length=4)(o:yO.length=4)(p:r1≠aG){W:Nat->Prop}(cA:∀q,q=r1->W q)
 {Q:al->ad->ad->ad->al->ad->ad->ad->J->Prop} (v:∀b,af (λq=>q=r1\/q=aG) c b->Q cB fo gd bG b6 dG ee c7 b):
 bJ c r1 [cB,fo,gd,bG]/\(4:Nat)=4/\ao (setCells c r1 0 [cB,fo,gd,bG]) λd=>
  af W c d/\bJ d aG [b6,dG,ee,c7]/\(4:Nat)=4/\ao (setCells d aG 0 [b6,dG,ee,c7]) λb=>
  ∃r:al,b.cell? r1=some (.bool r)/\∃f:ad,b.cell? (Addr.add r1 1)=some (.slice f.a f.len f.cap)/\∃g:ad,b.cell? (Addr.add r1 2)=some (.slice g.a g.len g.cap)/\∃i:ad,b.cell? (Addr.add r1 3)=some (.slice i.a i.len i.cap)/\
  ∃s:al,b.cell? aG=some (.bool s)/\∃j:ad,b.cell? (Addr.add aG 1)=some (.slice j.a j.len j.cap)/\∃k:ad,b.cell? (Addr.add aG 2)=some (.slice k.a k.len k.cap)/\∃l:ad,b.cell? (Addr.add aG 3)=some (.slice l.a l.len l.cap)/\Q r f g i s j k l b:=by
 refine⟨h1.cn (by rw[n];rfl) (pk _ _ _ _),rfl,cT h1 (us:=[cB,fo,gd,bG]) (by rw[n];rfl) rfl λd w m _=>?_⟩;have t:=h2.ah m (λe=>p e.symm);refine⟨m.mono λq _ h=>cA q h,t.cn (by rw[o];rfl) (pk _ _ _ _),rfl,cT t (us:=[b6,dG,ee,c7]) (by rw[o];rfl) rfl λb x u _=>?_⟩;obtain⟨bU,aW,a8,bg⟩:=bK (w.ah u p);obtain⟨d0,d1,d2,d3⟩:=bK x;exact⟨cB,bU,fo,aW,gd,a8,bG,bg,b6,d0,dG,d1,ee,d2,c7,d3,v b ((m.mono λq _ h=>.inl h).trans (u.mono λq _ h=>.inr h))⟩
def wk(n:aD)(w:J)(v:aa)(w':J):Prop:=
 ∃ (fo gd bG dG ee c7 t:ad),v=.tuple #[dg (n.left (cu n)) fo gd bG,t,dg (n.right (cu n)) dG ee c7,true]/\
  bT (λq=>w.heap.size<=q) w' (n.left (cu n)) fo gd bG/\bT (λq=>w.heap.size<=q) w' (n.right (cu n)) dG ee c7/\bu (λq=>w.heap.size<=q) w' t (n.keys.getD (cu n) [])/\Ext w w'
theorem qF{B:Nat->Prop}{w:J}{n:aD}{K V D:ad}(h:bT B w n K V D)(hs:cI n)(av:n.keys.length<=10000)(dL:1<=cu n)
 (z:if n.leaf then cu n<=n.keys.length-1/\1<=n.keys.length-1 else cu n<=n.keys.length-2/\1<=n.keys.length-2):
 aI aj 281 #[dg n K V D] w (wk n w):=by
 have bS:n.vals.length<=10000:=by
  rcases hs with hs|hs
  .rw[hs.len];omega
  .rw[hs.vals];simp
 have bW:n.kids.length<=10001:=by
  rcases hs with hs|hs
  .rw[hs.kids];simp
  .rw[hs.len];omega
 have Z:∀k∈n.keys,k.length<=100000:=λk l=>by have:=(hs.keys.ok k l).2;omega
 have am:∀k∈n.vals,k.length<=100000:=λk l=>by have:=hs.vals k l;omega
 have bX:=bH.len h.keys;obtain⟨most,ac⟩:∃most,most=if n.leaf then n.keys.length-1 else n.keys.length-2:=⟨_,rfl⟩
 have an:1<=most/\most<=n.keys.length/\cu n<=most:=by
  rw[ac]
  cases s:n.leaf<;>rw[s]at z<;>simp at z⊢<;>omega
 have ao:cu n<n.keys.length:=by
  cases s:n.leaf<;>rw[s]at z<;>simp at z<;>omega
 refine okF (ae.qF n.leaf K V D) ax.qF func281 ?_;(delta ae.qF z5 r1 Y aV ak aq b8 gj bP uj aO bE xV xR iy xW xQ;dsimp only);refine ba (vs:=[n.leaf,K,V,D]) rfl λw1 aU bb bY=>?_;refine ba (vs:=[false,(),(),()]) rfl λai bc aw bZ=>?_;refine ba (vs:=[false,(),(),()]) rfl λbd be ap b0=>?_;have aY:=bb.trans (aw.trans ap);obtain⟨bU,aW,a8,bg⟩:=bK ((aU.ext aw).ext ap);refine⟨K,aW,cx (λm w'=>m=(most:Int)/\bd=w') (λq f=>⟨n.leaf,bU,λH=>f _ _ ⟨?_,rfl⟩,λH=>f _ _ ⟨?_,rfl⟩⟩) ?_⟩
 .have H:n.leaf=false:=by simpa using H
  rw[H]at z ac;simp at z ac;rw[bq (n:=(K.len:Int)-1) I I,bq I I];omega
 .have H:n.leaf=true:=by simpa using H
  rw[H]at z ac;simp at z ac;rw[bq I I];omega
 rintro _ _ ⟨rfl,rfl⟩;refine⟨_,bU,K,aW,V,a8,D,bg,(kj (h.ext aY) I I I).use ?_⟩;rintro _ u ⟨b,rfl,H,ag⟩;have bf:=H.2 hs;subst bf;have al:=cG u;have R:=aY.trans (ag.trans al);have au:=((aU.ext aw).ext ap).ext (ag.trans al);have ay:=(bc.ext ap).ext (ag.trans al);have az:=be.ext (ag.trans al);have b1:=(ag.trans al).size;obtain⟨bU,aW,a8,bg⟩:=bK au;have b3:u.drew.heap.size=u.heap.size:=rfl;have fin:∀ (g aE:J) (aS:Nat) (c d aC:ad) (bD bV bw:Nat->Prop),Ext w g->u.heap.size<=aS/\u.heap.size<=g.heap.size->Var g aS [n.leaf,c,d,aC] 169->gb u.heap.size g n c d aC bD bV bw->Var g w.heap.size [n.leaf,K,V,D] 169->Var g w1.heap.size [false,(),(),()] 169->Var g ai.heap.size [false,(),(),()] 169->aE.heap.size=aS->ae.Bj w w1 ai aE ((gC (cellsOf n) most:Nat):Int) g (wk n w):=λg aE aS c d aC bD bV bw C ⟨L,b4⟩ E M S T U bh=>by
  have bi:gC (cellsOf n) most=cu n:=by unfold cu;rw[ac]
  rw[bi];(delta ae.Bj uj r1 Y aO bE aV ak xV xR iy gj aq xW xQ lQ;dsimp only);rw[bh];obtain⟨i,hi⟩:∃i,i=cu n:=⟨_,rfl⟩;rw[←hi]at ao an dL;rw[←hi];obtain⟨a0,a1,bj,bk⟩:=bK S;obtain⟨A,t,ar,bl,hc,ht,_⟩:=bH.at (h.ext C).keys ao;refine⟨K,a1,A,ar,bl,t,hc,(l0 (B:=λq=>w.heap.size<=q) ht.1 (by have:=Z _ (cP ao);omega) (λq f=>eG C.size f)).use ?_⟩;rintro _ F ⟨tk,rfl,a2,aF,a3⟩;have aG:=cG F;obtain⟨a0,a1,bj,bk⟩:=bK (S.ext aF);have G:=aF.trans aG;obtain⟨f0,f1,f2,f3⟩:=bK (E.ext G);have x:=M.at.ext G;have b5:=bH.len x.keys;have b7:=bH.len x.vals;have b9:=c2.len x.kids;have b_:=bH.le (bm.km M.keys);have ca:=bH.le (bm.km M.vals);have cb:aC.len<=aC.cap:=x.kids.2.1;have cc:g.heap.size<=F.heap.size:=aF.size;have a4:n.keys.getD i []=n.keys[i]:=fH ao;refine⟨tk,rfl,n.leaf,a0,λs=>aX ⟨λq=>q=w1.heap.size,λe=>?_,c,f1,⟨I,I⟩,λe=>?_,d,f2,⟨I,?_⟩,#[true,.slice (aZ c.a 1 0 c.cap) i c.cap,.slice (aZ d.a 1 0 d.cap) i d.cap,()],(λw=>by kernel_rfl),λe=>?_,c,f1,⟨I,I⟩,λe=>?_,d,f2,⟨I,?_⟩,#[true,.slice (aZ c.a 1 i c.cap) (c.len-i) (c.cap-i),.slice (aZ d.a 1 i d.cap) (d.len-i) (d.cap-i),()],(λw=>by kernel_rfl),?_⟩,λs=>?_⟩
  .rw[aA]at e;have e:aS=w1.heap.size:=e;omega
  .rw[aA]at e;have e:aS=w1.heap.size:=e;omega
  .have:=hs.sG s;omega
  .rw[aA]at e;have e:aS=w1.heap.size:=e;omega
  .rw[aA]at e;have e:aS=w1.heap.size:=e;omega
  .have:=hs.sG s;omega
  .have bn:=hs.sG s
   have cW:n.left i=⟨true,n.keys.take i,n.vals.take i,[]⟩:=by unfold aD.left;rw[s];rfl
   have o:n.right i=⟨true,n.keys.drop i,n.vals.drop i,[]⟩:=by unfold aD.right;rw[s];rfl
   have aH:bT (λq=>u.heap.size<=q) F.drew (n.left i) ⟨aZ c.a 1 0 c.cap,i,c.cap⟩ ⟨aZ d.a 1 0 d.cap,i,d.cap⟩ bI:=by
    rw[cW];refine⟨?_,?_,c2.none _ _⟩
    .have:=bH.sub x.keys (lo:=0) (hi:=i) I I
     simpa using this
    .have:=bH.sub x.vals (lo:=0) (hi:=i) I I
     simpa using this
   have aJ:bT (λq=>u.heap.size<=q) F.drew (n.right i) ⟨aZ c.a 1 i c.cap,c.len-i,c.cap-i⟩ ⟨aZ d.a 1 i d.cap,d.len-i,d.cap-i⟩ bI:=by
    rw[o];refine⟨?_,?_,c2.none _ _⟩
    .have:=bH.sub x.keys (lo:=i) (hi:=c.len) I I
     rwa[dC (by rw[eg];omega)]at this
    .have:=bH.sub x.vals (lo:=i) (hi:=d.len) I I
     rwa[dC (by rw[eg];omega)]at this
   have aK:=fG aH (by rw[cW];show(n.keys.take i).length<=_;rw[cz];omega) (by rw[cW];show(n.vals.take i).length<=_;rw[cz];omega) (by rw[cW];simp) (by rw[cW];exact λk l=>Z k (fC l)) (by rw[cW];exact λk l=>am k (fC l));have aL:(.agg #[true,.slice (aZ c.a 1 0 c.cap) i c.cap,.slice (aZ d.a 1 0 d.cap) i d.cap,()]:aa)=dg (n.left i) ⟨aZ c.a 1 0 c.cap,i,c.cap⟩ ⟨aZ d.a 1 0 d.cap,i,d.cap⟩ bI:=by rw[cW];rfl
   have aM:(.agg #[true,.slice (aZ c.a 1 i c.cap) (c.len-i) (c.cap-i),.slice (aZ d.a 1 i d.cap) (d.len-i) (d.cap-i),()]:aa)=dg (n.right i) ⟨aZ c.a 1 i c.cap,c.len-i,c.cap-i⟩ ⟨aZ d.a 1 i d.cap,d.len-i,d.cap-i⟩ bI:=by rw[o];rfl
   rw[aL,aM];refine aK.use ?_;rintro _ bo ⟨fo,gd,bG,bp,br,bs,rfl,aN,N⟩;have aP:=fG (aJ.ext N) (by rw[o];show(n.keys.drop i).length<=_;rw[eg];omega) (by rw[o];show(n.vals.drop i).length<=_;rw[eg];omega) (by rw[o];simp) (by rw[o];exact λk l=>Z k (fO l)) (by rw[o];exact λk l=>am k (fO l));refine⟨_,fo,gd,bG,rfl,af.cX N,aP.use ?_⟩;rintro _ bt ⟨dG,ee,c7,bx,bz,bA,rfl,aQ,ab⟩;have O:=N.trans ab;have bB:=N.size;have bC:=G.size;refine⟨_,dG,ee,c7,rfl,af.cX ab,Cd (cB:=(n.left i).leaf) (b6:=(n.right i).leaf) (fo:=fo) (gd:=gd) (bG:=bG) (dG:=dG) (ee:=ee) (c7:=c7) ((T.ext G).ext O) ((U.ext G).ext O) rfl rfl I (λq f=>f) (Q:=λcB fo gd bG b6 dG ee c7 w'=>wk n w (.tuple #[.agg #[cB,fo,gd,bG],tk,.agg #[b6,dG,ee,c7],true]) w') λbF P=>?_⟩;have bJ:F.drew.heap.size=F.heap.size:=rfl;refine⟨fo,gd,bG,dG,ee,c7,tk,by rw[←hi];rfl,?_,?_,?_,?_⟩
   .rw[←hi];exact((aN.at.ext ab).ah P λq f e=>I).a_ λq _ f=>by omega
   .rw[←hi];exact(aQ.at.ah P λq f e=>I).a_ λq _ f=>by omega
   .rw[←hi,a4]
    have aR:∀q,aB tk q->g.heap.size<=q:=a3;exact bu.kN (bu.ext (bu.ext a2 aG) O) P λq f e=>by have:=aR q f;omega
   .exact Ext.dT (C.trans (G.trans O)) P λq f=>by omega
  .have bn:=hs.wc s
   have cd:i<=n.keys.length-2/\1<=n.keys.length-2:=by rw[s,←hi]at z;simpa using z
   have bL:IntKind.wrap .i64 ((i:Int)+1)=((i+1:Nat):Int):=by rw[bq I I];rfl
   rw[bL];refine aX ⟨λq=>q=w1.heap.size,λe=>?_,c,f1,⟨I,I⟩,λe=>?_,aC,f3,⟨I,I⟩,#[false,.slice (aZ c.a 1 0 c.cap) i c.cap,(),.slice (aZ aC.a 1 0 aC.cap) (i+1) aC.cap],(λw=>by kernel_rfl),λe=>?_,c,f1,⟨I,I⟩,λe=>?_,aC,f3,⟨I,I⟩,#[false,.slice (aZ c.a 1 (i+1) c.cap) (c.len-(i+1)) (c.cap-(i+1)),(),.slice (aZ aC.a 1 (i+1) aC.cap) (aC.len-(i+1)) (aC.cap-(i+1))],(λw=>by kernel_rfl),?_⟩
   .rw[aA]at e;have e:aS=w1.heap.size:=e;omega
   .rw[aA]at e;have e:aS=w1.heap.size:=e;omega
   .rw[aA]at e;have e:aS=w1.heap.size:=e;omega
   .rw[aA]at e;have e:aS=w1.heap.size:=e;omega
   have cW:n.left i=⟨false,n.keys.take i,[],n.kids.take (i+1)⟩:=by unfold aD.left;rw[s];rfl
   have o:n.right i=⟨false,n.keys.drop (i+1),[],n.kids.drop (i+1)⟩:=by unfold aD.right;rw[s];rfl
   have aH:bT (λq=>u.heap.size<=q) F.drew (n.left i) ⟨aZ c.a 1 0 c.cap,i,c.cap⟩ bI ⟨aZ aC.a 1 0 aC.cap,i+1,aC.cap⟩:=by
    rw[cW];refine⟨?_,bH.none _ _,?_⟩
    .have:=bH.sub x.keys (lo:=0) (hi:=i) I I
     simpa using this
    .have:=c2.sub x.kids (lo:=0) (hi:=i+1) I I
     simpa using this
   have aJ:bT (λq=>u.heap.size<=q) F.drew (n.right i) ⟨aZ c.a 1 (i+1) c.cap,c.len-(i+1),c.cap-(i+1)⟩ bI ⟨aZ aC.a 1 (i+1) aC.cap,aC.len-(i+1),aC.cap-(i+1)⟩:=by
    rw[o];refine⟨?_,bH.none _ _,?_⟩
    .have:=bH.sub x.keys (lo:=i+1) (hi:=c.len) I I
     rwa[dC (by rw[eg];omega)]at this
    .have:=c2.sub x.kids (lo:=i+1) (hi:=aC.len) I I
     rwa[dC (by rw[eg];omega)]at this
   have aK:=fG aH (by rw[cW];show(n.keys.take i).length<=_;rw[cz];omega) (by rw[cW];simp) (by rw[cW];show(n.kids.take (i+1)).length<=_;rw[cz];omega) (by rw[cW];exact λk l=>Z k (fC l)) (by rw[cW];simp);have aL:(.agg #[false,.slice (aZ c.a 1 0 c.cap) i c.cap,(),.slice (aZ aC.a 1 0 aC.cap) (i+1) aC.cap]:aa)=dg (n.left i) ⟨aZ c.a 1 0 c.cap,i,c.cap⟩ bI ⟨aZ aC.a 1 0 aC.cap,i+1,aC.cap⟩:=by rw[cW];rfl
   have aM:(.agg #[false,.slice (aZ c.a 1 (i+1) c.cap) (c.len-(i+1)) (c.cap-(i+1)),(),.slice (aZ aC.a 1 (i+1) aC.cap) (aC.len-(i+1)) (aC.cap-(i+1))]:aa)=dg (n.right i) ⟨aZ c.a 1 (i+1) c.cap,c.len-(i+1),c.cap-(i+1)⟩ bI ⟨aZ aC.a 1 (i+1) aC.cap,aC.len-(i+1),aC.cap-(i+1)⟩:=by rw[o];rfl
   rw[aL,aM];refine aK.use ?_;rintro _ bo ⟨fo,gd,bG,bp,br,bs,rfl,aN,N⟩;have aP:=fG (aJ.ext N) (by rw[o];show(n.keys.drop (i+1)).length<=_;rw[eg];omega) (by rw[o];simp) (by rw[o];show(n.kids.drop (i+1)).length<=_;rw[eg];omega) (by rw[o];exact λk l=>Z k (fO l)) (by rw[o];simp);refine⟨_,fo,gd,bG,rfl,af.cX N,aP.use ?_⟩;rintro _ bt ⟨dG,ee,c7,bx,bz,bA,rfl,aQ,ab⟩;have O:=N.trans ab;have bB:=N.size;have bC:=G.size;refine⟨_,dG,ee,c7,rfl,af.cX ab,Cd (cB:=(n.left i).leaf) (b6:=(n.right i).leaf) (fo:=fo) (gd:=gd) (bG:=bG) (dG:=dG) (ee:=ee) (c7:=c7) ((T.ext G).ext O) ((U.ext G).ext O) rfl rfl I (λq f=>f) (Q:=λcB fo gd bG b6 dG ee c7 w'=>wk n w (.tuple #[.agg #[cB,fo,gd,bG],tk,.agg #[b6,dG,ee,c7],true]) w') λbF P=>?_⟩;have bJ:F.drew.heap.size=F.heap.size:=rfl;refine⟨fo,gd,bG,dG,ee,c7,tk,by rw[←hi];rfl,?_,?_,?_,?_⟩
   .rw[←hi];exact((aN.at.ext ab).ah P λq f e=>I).a_ λq _ f=>by omega
   .rw[←hi];exact(aQ.at.ah P λq f e=>I).a_ λq _ f=>by omega
   .rw[←hi,a4]
    have aR:∀q,aB tk q->g.heap.size<=q:=a3;exact bu.kN (bu.ext (bu.ext a2 aG) O) P λq f e=>by have:=aR q f;omega
   .exact Ext.dT (C.trans (G.trans O)) P λq f=>by omega
 refine⟨true,rfl,λh=>?_,λ_=>aX ⟨λ_=>False,id,_,bU,K,aW,V,a8,D,bg,id,_,bU,K,aW,V,a8,D,bg,⟨?_,?_⟩⟩⟩
 .simp only[Bool.not_true,mW]at h
  have:=cj h;omega
 .refine(fG (h.ext R) I I I Z am).use ?_
  rintro _ a5 ⟨c,d,aC,bD,bV,bw,rfl,W,y⟩;refine⟨n.leaf,c,d,aC,rfl,y,⟨?_,?_⟩⟩
  .refine(nv (h.ext (R.trans y)) hs av (most:=most) an.2.1).use ?_
   rintro _ aT ⟨rfl,p⟩;refine⟨_,rfl,p,ba (vs:=[false,(),(),()]) rfl λa6 X r a7=>⟨r,X.cn rfl (pk _ _ _ _),rfl,cT X (us:=[n.leaf,c,d,aC]) rfl rfl λg E j a9=>?_⟩⟩;have bM:=y.size;have bN:=p.size;obtain⟨aS,L⟩:∃aS,aS=aT.heap.size:=⟨_,rfl⟩;rw[←L]at E j⊢;have v:=y.trans (p.trans r);have M:gb u.heap.size g n c d aC bD bV bw:=(W.ext (p.trans r)).ah j λq _ _ f e=>by
    subst e;rcases f with f|f|f
    .have:=(W.b2 _ f).2.1;omega
    .have:=(W.bv _ f).2.1;omega
    .have:=(W.aO _ f).2;omega
   have C:Ext w g:=Ext.cC (R.trans v) j I;have S:=(au.ext v).ah j I;have T:=(ay.ext v).ah j I;have U:=(az.ext v).ah j I;subst L;exact fin g _ _ c d aC bD bV bw C ⟨I,I⟩ E M S T U rfl
  .refine ba (vs:=[false,(),(),()]) rfl λaT bO p ce=>⟨p,?_⟩
   refine(nv (h.ext (R.trans (y.trans p))) hs av (most:=most) an.2.1).use ?_;rintro _ a6 ⟨rfl,r⟩;have X:=bO.ext r;refine⟨_,rfl,r,X.cn rfl (pk _ _ _ _),rfl,cT X (us:=[n.leaf,c,d,aC]) rfl rfl λg E j a9=>?_⟩;have bM:=y.size;have a7:=r.size;obtain⟨aS,L⟩:∃aS,aS=a5.heap.size:=⟨_,rfl⟩;rw[←L]at E j⊢;have v:=y.trans (p.trans r);have M:gb u.heap.size g n c d aC bD bV bw:=(W.ext (p.trans r)).ah j λq _ _ f e=>by
    subst e;rcases f with f|f|f
    .have:=(W.b2 _ f).2.1;omega
    .have:=(W.bv _ f).2.1;omega
    .have:=(W.aO _ f).2;omega
   have C:Ext w g:=Ext.cC (R.trans v) j I;have S:=(au.ext v).ah j I;have T:=(ay.ext v).ah j I;have U:=(az.ext v).ah j I;subst L;exact fin g _ _ c d aC bD bV bw C ⟨I,I⟩ E M S T U rfl
 .refine ba (vs:=[false,(),(),()]) rfl λa5 bQ y cf=>⟨y,?_⟩
  refine(fG (h.ext (R.trans y)) I I I Z am).use ?_;rintro _ aT ⟨c,d,aC,bD,bV,bw,rfl,bR,p⟩;refine⟨n.leaf,c,d,aC,rfl,p,(nv (h.ext (R.trans (y.trans p))) hs av (most:=most) an.2.1).use ?_⟩;rintro _ a6 ⟨rfl,r⟩;have X:=bQ.ext (p.trans r);refine⟨_,rfl,r,X.cn rfl (pk _ _ _ _),rfl,cT X (us:=[n.leaf,c,d,aC]) rfl rfl λg E j a9=>?_⟩;have bN:=p.size;have a7:=r.size;obtain⟨aS,L⟩:∃aS,aS=u.drew.heap.size:=⟨_,rfl⟩;rw[←L]at E j⊢;have v:=y.trans (p.trans r);have M:gb u.heap.size g n c d aC bD bV bw:=((bR.ext r).ah j λq h1 _ _ e=>I).low I;have C:Ext w g:=Ext.cC (R.trans v) j I;have S:=(au.ext v).ah j I;have T:=(ay.ext v).ah j I;have U:=(az.ext v).ah j I;subst L;exact fin g _ _ c d aC bD bV bw C ⟨I,I⟩ E M S T U rfl
theorem yP{B C:Nat->Prop}{w:J}{s x:ad}{ls xs:O Key}(l:bm B w s ls)(hx:bH C w x xs)(hd:∀q,C q->¬aB s q)(v:ls.length<=100000)(y:xs.length<=100000):
 ∃ (d:ad) (w':J),Sem.run aj (Builtin.append_ #[93,93] 93 #[s,x]) w=.ok d w'/\bH (λq=>B q\/C q\/w.heap.size<=q) w' d (ls++xs)/\af (aB s) w w':=by
 have z:=bH.len hx;obtain⟨ts,h1,h2,m,n⟩:=l;obtain⟨us,aw,ay,A,D,o⟩:=hx;have E:s.len=ls.length:=by have:=h2.1;rw[dn]at this;omega
 obtain⟨d,w',p,f,F,g,r⟩:=qR.append (cF:=93) ay h2 (wa us) I;refine⟨d,w',p,⟨ts++us,by simp[h1,aw],?_,f.2.1,?_,λi t G=>?_⟩,g⟩
 .rw[fP];exact f.src
 .intro k c
  refine⟨?_,f.lt k c⟩;rcases r k c with h|h
  .exact .inl (m k h).1
  .exact .inr (.inr h)
 .rcases dX i ts.length with h|h
  .have j:i<ls.length:=by omega
   rw[n3 h,n3 j];obtain⟨a,b⟩:=n i h j;exact bu.a_ (bu.kN a g b) λk _ c=>.inl c
  .have u:i-ts.length<us.length:=by rw[cv]at t;omega
   have H:i-ls.length<xs.length:=by omega
   rw[pK h,pK I];have e:i-ls.length=i-ts.length:=by omega
   have a:=o (i-ts.length) u I;simp only[e];exact bu.a_ (bu.kN a g λk c=>hd k (a.2.2 k c).1) λk _ c=>.inr (.inl c)
theorem Ce{B C:Nat->Prop}{w:J}{s x:ad}{ds es:O Nat}(d:cN B w s ds)(hx:c2 C w x es)(i:ds.length<=100000)(j:es.length<=100000):
 ∃ (a:ad) (w':J),Sem.run aj (Builtin.append_ #[72,72] 72 #[s,x]) w=.ok a w'/\c2 (λq=>B q\/C q\/w.heap.size<=q) w' a (ds++es)/\af (aB s) w w':=by
 have l:=c2.len hx;obtain⟨h1,h2⟩:=d;have m:s.len=ds.length:=by have:=h1.1;rw[qP]at this;omega
 obtain⟨a,w',e,b,n,f,g⟩:=sF.append (cF:=72) hx.1 h1 (BS es) I;refine⟨a,w',e,⟨?_,b.2.1,?_⟩,f⟩
 .have:fW ds++fW es=fW (ds++es):=by simp[fW]
  rw[this]at b;exact b.src
 .intro k c
  refine⟨?_,b.lt k c⟩;rcases g k c with h|h
  .exact .inl (h2 k h).1
  .exact .inr (.inr h)
theorem Hp{wp aC aE aF:J}{lo pa d aS T:Nat}{key U r o ac ag aj:ad}{w cY:J}{a b:aD}{s:Key}{bD bV bw C:Nat->Prop}{aG:O aa}(bb:cY.cell? pa=some (.bool a.leaf))
 (ar:Var cY d [a.leaf,U,r,o] 169) (aH:Var cY aS [b.leaf,ac,ag,aj] 169)
 (g:gb lo cY a U r o bD bV bw) (bc:bT C cY b ac ag aj) (f:∀q,C q->lo<=q/\q<cY.heap.size/\q≠d/\q≠aS/\¬bD q/\¬bV q/\¬bw q) (E:∀q,bD q\/bV q\/bw q->q≠d/\q≠aS) (la:lo<=d) (lb:lo<=aS) (al:d≠aS)
 (bd:Var cY T aG 169) (be:aG.length=4) (bQ:T<lo) (bf:w.heap.size<=T) (t:Src 1 cY key (az s)) (bR:s.length<=1000) (bh:Ext w cY) (hs:cI (dK a s b)) (aI:a.leaf=b.leaf) (am:cI a) (sb:cI b)
 (cc:a.keys.length<=10000) (bB:b.keys.length<=10000) (bi:wp.heap.size=pa) (bj:aC.heap.size=d) (bk:aE.heap.size=aS) (bl:aF.heap.size=T):ae.x3 wp aC aE aF key cY (nG (dK a s b) w):=by
 (delta ae.x3 ue aV Y ak r1 bE qc st b8 jn qa cZ qb;dsimp only);rw[bi,bj,bk,bl];have bS:=ar.lt;have bW:=aH.lt;have aJ:∀ {n:aD},cI n->n.keys.length<=10000->n.vals.length<=10000/\n.kids.length<=10001:=λ{n} h1 h2=>by
  rcases h1 with h1|h1
  .rw[h1.len,h1.kids];exact⟨h2,cM _⟩
  .rw[h1.len,h1.vals];exact⟨cM _,I⟩
 obtain⟨bX,bY⟩:=aJ am cc;obtain⟨ml,bZ⟩:=aJ sb bB;have aK:hO lo cY d a U r o bD bV bw:=⟨ar,g.keys,g.vals,g.kids,λq c=>⟨(g.b2 q c).1,(g.b2 q c).2.1,(E q (.inl c)).1,(g.b2 q c).2.2⟩,λq c=>⟨(g.bv q c).1,(g.bv q c).2.1,(E q (.inr (.inl c))).1,(g.bv q c).2.2⟩,λq c=>⟨(g.aO q c).1,(g.aO q c).2,(E q (.inr (.inr c))).1⟩,la⟩;refine k9 (λw'=>∃ (K:ad) (W:Nat->Prop),hO lo w' d ⟨a.leaf,if a.leaf then a.keys else a.keys++ [s],a.vals,a.kids⟩ K r o W bV bw/\af (λq=>q=d\/bD q) cY w'/\(∀q,W q->bD q\/cY.heap.size<=q)) (λq c=>⟨_,bb,λu=>?_,λu=>c _ ⟨U,bD,?_,.refl _ _,λq h=>.inl h⟩⟩) ?_
 .have u:a.leaf=false:=by simpa using u
  refine yL aK t I I λw' bn W h1 h2 G=>c _ ⟨bn,W,?_,h2,G⟩;rw[if_neg (by rw[u];simp)];exact h1
 .have u:a.leaf=true:=by simpa using u
  rw[if_pos u];exact aK
 rintro w1 ⟨fo,an,h1,H,aL⟩;have b0:=H.size;have aM:=aH.ah H (by
  rintro(h|h)
  .exact al h.symm
  .exact(E _ (.inl h)).2 rfl)
 have aN:=bc.ah H λq c h=>by
  have:=f q c;rcases h with h|h
  .exact this.2.2.1 h
  .exact this.2.2.2.2.1 h
 have bo:=bd.ah H (by
  rintro(h|h)
  .omega
  .have:=(g.b2 _ h).1;omega)
 have bp:Ext w w1:=Ext.dT bh H λq c=>by
  rcases c with h|h
  .omega
  .have:=(g.b2 _ h).1;omega
 obtain⟨L,X⟩:∃l,l=(if a.leaf then a.keys else a.keys++ [s]):=⟨_,rfl⟩;rw[←X]at h1;have b1:L.length<=10001:=by
  rw[X];split
  .omega
  .rw[cv];simp;omega
 obtain⟨bU,aW,a8,bg⟩:=bK h1.v;obtain⟨d0,d1,d2,d3⟩:=bK aM;have x:∀q,aB fo q->an q:=λk t=>by obtain⟨ts,_,_,G,_⟩:=h1.keys;exact(G k t).1
 have ao:∀q,aB r q->bV q:=λk t=>by obtain⟨ts,_,_,G,_⟩:=h1.vals;exact(G k t).1
 have aP:∀q,aB o q->bw q:=λk t=>(h1.kids.2 k t).1;have aQ:∀q,C q->¬aB fo q:=λq c h=>by
  rcases aL q (x q h) with h2|h2
  .exact(f q c).2.2.2.2.1 h2
  .have:=(f q c).2.1;omega
 obtain⟨en,ai,M,N,p⟩:=yP h1.keys aN.keys aQ (by show L.length<=_;omega) I;have aR:=h1.v.ah p λh=>(h1.b2 _ (x _ h)).2.2.1 rfl;obtain⟨P,R⟩:=eF aR (i:=1) (by simp);refine⟨fo,aW,ac,d1,en,ai,M,?_⟩;rw[aA,aA];refine⟨P,R,aX ?_⟩;obtain⟨j,ap⟩:∃j,j=ai.setCell ⟨d,0+1,none⟩ en:=⟨_,rfl⟩;rw[←ap];have aT:af (λq=>q=d) ai j:=by rw[ap];exact ed _ _ _ _
 have aU:Var j d [a.leaf,en,r,o] 169:=by rw[ap];exact eE aR _
 have y:af (λq=>q=d\/aB fo q) w1 j:=(p.mono λq _ h=>.inr h).trans (aT.mono λq _ h=>.inl h);have aY:=aM.ah y (by
  rintro(h|h)
  .exact al h.symm
  .rcases aL _ (x _ h) with h2|h2
   .exact(E _ (.inl h2)).2 rfl
   .omega)
 have aZ:=aN.ah y λq c h=>by
  rcases h with h|h
  .exact(f q c).2.2.1 h
  .exact aQ q c h
 have bq:=bm.ah h1.vals y λq c h=>by
  rcases h with h|h
  .exact(h1.bv q c).2.2.1 h
  .exact(h1.b2 q (x q h)).2.2.2.1 c
 have br:=cN.ah h1.kids y λq c h=>by
  rcases h with h|h
  .exact(h1.aO q c).2.2 h
  .exact(h1.b2 q (x q h)).2.2.2.2 c
 have bs:=bo.ah y (by
  rintro(h|h)
  .omega
  .have:=(h1.b2 _ (x _ h)).1;omega)
 have bt:Ext w j:=Ext.dT bp y λq c=>by
  rcases c with h|h
  .omega
  .have:=(h1.b2 _ (x _ h)).1;omega
 have bu:bH (λq=>(an q\/C q\/w1.heap.size<=q)/\q≠d) j en (L++b.keys):=by
  have aq:bH (λq=>(an q\/C q\/w1.heap.size<=q)/\q≠d) ai en (L++b.keys):=bH.a_ N λq _ c=>⟨c,by
   rcases c with h|h|h
   .exact(h1.b2 _ h).2.2.1
   .exact(f _ h).2.2.1
   .omega⟩
  exact bH.ah aq aT λq c h=>c.2 h
 obtain⟨bU,aW,a8,bg⟩:=bK aU;obtain⟨d0,d1,d2,d3⟩:=bK aY;have b3:=y.size
 obtain⟨dO,Z,M,N,p⟩:=yP bq aZ.vals (λq c h=>(f q c).2.2.2.2.2.1 (ao q h)) (by show a.vals.length<=_;omega) I;have a0:=aU.ah p λh=>(h1.bv _ (ao _ h)).2.2.1 rfl;obtain⟨P,R⟩:=eF a0 (i:=2) (by simp);rw[aA]at a8 d2;refine⟨r,a8,ag,d2,dO,Z,M,?_⟩;rw[aA,aA];refine⟨P,R,aX ?_⟩;obtain⟨m,au⟩:∃m,m=Z.setCell ⟨d,0+2,none⟩ dO:=⟨_,rfl⟩;rw[←au];have a1:af (λq=>q=d) Z m:=by rw[au];exact ed _ _ _ _
 have a2:Var m d [a.leaf,en,dO,o] 169:=by rw[au];exact eE a0 _
 have z:af (λq=>q=d\/bV q) j m:=(p.mono λq _ h=>.inr (ao q h)).trans (a1.mono λq _ h=>.inl h);have bx:=aY.ah z (by
  rintro(h|h)
  .exact al h.symm
  .exact(E _ (.inr (.inl h))).2 rfl)
 have bz:=aZ.ah z λq c h=>by
  rcases h with h|h
  .exact(f q c).2.2.1 h
  .exact(f q c).2.2.2.2.2.1 h
 have bA:=bH.ah bu z λq c h=>by
  rcases h with h|h
  .exact c.2 h
  .rcases c.1 with h2|h2|h2
   .exact(h1.b2 _ h2).2.2.2.1 h
   .exact(f _ h2).2.2.2.2.2.1 h
   .have:=(h1.bv _ h).2.1;omega
 have bC:=cN.ah br z λq c h=>by
  rcases h with h|h
  .exact(h1.aO q c).2.2 h
  .exact(h1.bv q h).2.2.2 c
 have bF:=bs.ah z (by
  rintro(h|h)
  .omega
  .have:=(h1.bv _ h).1;omega)
 have bG:Ext w m:=Ext.dT bt z λq c=>by
  rcases c with h|h
  .omega
  .have:=(h1.bv _ h).1;omega
 have bI:bH (λq=>(bV q\/C q\/j.heap.size<=q)/\q≠d) m dO (a.vals++b.vals):=by
  have aq:bH (λq=>(bV q\/C q\/j.heap.size<=q)/\q≠d) Z dO (a.vals++b.vals):=bH.a_ N λq _ c=>⟨c,by
   rcases c with h|h|h
   .exact(h1.bv _ h).2.2.1
   .exact(f _ h).2.2.1
   .omega⟩
  exact bH.ah aq a1 λq c h=>c.2 h
 obtain⟨bU,aW,a8,bg⟩:=bK a2;obtain⟨d0,d1,d2,d3⟩:=bK bx;have b4:=z.size
 obtain⟨kp,av,M,N,p⟩:=Ce bC bz.kids (by show a.kids.length<=_;omega) I;have a3:=a2.ah p λh=>(h1.aO _ (aP _ h)).2.2 rfl;obtain⟨P,R⟩:=eF a3 (i:=3) (by simp);rw[aA]at bg d3;refine⟨o,bg,aj,d3,kp,av,M,?_⟩;rw[aA,aA];refine⟨P,R,aX ?_⟩;obtain⟨A,aw⟩:∃A,A=av.setCell ⟨d,0+3,none⟩ kp:=⟨_,rfl⟩;rw[←aw];have a4:af (λq=>q=d) av A:=by rw[aw];exact ed _ _ _ _
 have a5:Var A d [a.leaf,en,dO,kp] 169:=by rw[aw];exact eE a3 _
 have S:af (λq=>q=d\/bw q) m A:=(p.mono λq _ h=>.inr (aP q h)).trans (a4.mono λq _ h=>.inl h);have bJ:=bH.ah bA S λq c h=>by
  rcases h with h|h
  .exact c.2 h
  .rcases c.1 with h2|h2|h2
   .exact(h1.b2 _ h2).2.2.2.2 h
   .exact(f _ h2).2.2.2.2.2.2 h
   .have:=(h1.aO _ h).2.1;omega
 have bL:=bH.ah bI S λq c h=>by
  rcases h with h|h
  .exact c.2 h
  .rcases c.1 with h2|h2|h2
   .exact(h1.bv _ h2).2.2.2 h
   .exact(f _ h2).2.2.2.2.2.2 h
   .have:=(h1.aO _ h).2.1;omega
 have bM:=bF.ah S (by
  rintro(h|h)
  .omega
  .have:=(h1.aO _ h).1;omega)
 have bN:Ext w A:=Ext.dT bG S λq c=>by
  rcases c with h|h
  .omega
  .have:=(h1.aO _ h).1;omega
 have b5:=S.size;have a6:bT (λq=>lo<=q) A (dK a s b) en dO kp:=by
  have kO:dK a s b=⟨a.leaf,L++b.keys,a.vals++b.vals,a.kids++b.kids⟩:=by
   unfold dK
   cases F:a.leaf with
   |true=>
    have ax:a.kids=[]:=by
     rcases am with h|h
     .exact h.kids
     .have:=h.inner;rw[F]at this;cases this
    have kb:b.kids=[]:=by
     rcases sb with h|h
     .exact h.kids
     .have:=h.inner;rw[←aI,F]at this;cases this
    rw[X,F,ax,kb];simp
   |false=>
    have ax:a.vals=[]:=by
     rcases am with h|h
     .have:=h.leaf;rw[F]at this;cases this
     .exact h.vals
    have kb:b.vals=[]:=by
     rcases sb with h|h
     .have:=h.leaf;rw[←aI,F]at this;cases this
     .exact h.vals
    rw[X,F,ax,kb];simp
  rw[kO];refine⟨bH.a_ bJ λq _ c=>?_,bH.a_ bL λq _ c=>?_,c2.a_ (c2.ah (B:=λq=>(bw q\/C q\/m.heap.size<=q)/\q≠d) (c2.a_ N λq _ c=>⟨c,?_⟩) a4 λq c h=>c.2 h) λq _ c=>?_⟩
  .rcases c.1 with h|h|h
   .exact(h1.b2 _ h).1
   .exact(f _ h).1
   .omega
  .rcases c.1 with h|h|h
   .exact(h1.bv _ h).1
   .exact(f _ h).1
   .omega
  .rcases c with h|h|h
   .exact(h1.aO _ h).2.2
   .exact(f _ h).2.2.1
   .omega
  .rcases c.1 with h|h|h
   .exact(h1.aO _ h).1
   .exact(f _ h).1
   .omega
 obtain⟨bU,aW,a8,bg⟩:=bK a5;rw[aA]at aW a8 bg;have b6:(dK a s b).keys.length<=20001:=by
  unfold dK;split
  .show(a.keys++b.keys).length<=_;rw[cv];omega
  .show(a.keys++s::b.keys).length<=_;rw[cv,gh];omega
 have b7:(dK a s b).vals.length<=20001:=by
  unfold dK;split
  .show(a.vals++b.vals).length<=_;rw[cv];omega
  .simp
 have b9:(dK a s b).kids.length<=20002:=by
  unfold dK;split
  .simp
  .show(a.kids++b.kids).length<=_;rw[cv];omega
 have a7:(dK a s b).leaf=a.leaf:=BE
 repeat rw[aA]
 refine⟨_,bU,en,aW,dO,a8,kp,bg,?_⟩;have ay:=kj a6 I I I;unfold dg at ay;rw[a7]at ay;refine ay.use ?_;rintro _ b_ ⟨ca,rfl,bO,ab⟩;have:=bO.2 hs;subst this;obtain⟨bU,aW,a8,bg⟩:=bK (a5.ext ab);rw[aA]at aW a8 bg;have a9:=iX a.leaf en dO kp (bM.ext ab) be (Q:=λbP K V D ai=>nG (dK a s b) w (.tuple #[.agg #[bP,K,V,D],true]) ai) λcb ba=>⟨en,dO,kp,by unfold dg;rw[a7],((a6.ext ab).ah ba λq c e=>I).a_ λq _ c=>I,Ext.cC (bN.trans ab) ba bf⟩
 repeat rw[aA]at a9
 exact⟨true,rfl,λh=>(by cases h),λ_=>⟨_,bU,en,aW,dO,a8,kp,bg,a9⟩⟩
theorem oV{bd be:Nat->Prop}{w:J}{a b:aD}{R S T U V W key:ad}{s:Key}(aQ:bT bd w a R S T)(aR:bT be w b U V W)(M:Src 1 w key (az s))(bf:∀q,aB key q->q<w.heap.size)(bh:s.length<=1000)(al:cI a)(sb:cI b)(aT:a.leaf=b.leaf)(hs:cI (dK a s b))
 (cc:a.keys.length<=10000) (bB:b.keys.length<=10000):
 aI aj 264 #[dg a R S T,key,dg b U V W] w (nG (dK a s b) w):=by
 have aU:∀ {n:aD},cI n->n.keys.length<=10000->n.vals.length<=10000/\n.kids.length<=10001:=λ{n} h1 h2=>by
  rcases h1 with h1|h1
  .rw[h1.len,h1.kids];exact⟨h2,cM _⟩
  .rw[h1.len,h1.vals];exact⟨cM _,I⟩
 obtain⟨bz,bA⟩:=aU al cc;obtain⟨ml,bC⟩:=aU sb bB;have am:∀k∈a.keys,k.length<=100000:=λk M=>by have:=(al.keys.ok k M).2;omega
 have y:∀k∈b.keys,k.length<=100000:=λk M=>by have:=(sb.keys.ok k M).2;omega
 have an:∀k∈a.vals,k.length<=100000:=λk M=>by have:=al.vals k M;omega
 have z:∀k∈b.vals,k.length<=100000:=λk M=>by have:=sb.vals k M;omega
 refine okF (ae.oV a.leaf R S T key b.leaf U V W) ax.oV func264 ?_;(delta ae.oV z5 aV Y r1 b8 qe ak jn qa gj bY ue bE qc st qb oD;dsimp only);refine ba (vs:=[a.leaf,R,S,T]) rfl λw1 aH bi bD=>?_;refine ba (vs:=[b.leaf,U,V,W]) rfl λai aJ av bF=>?_;refine ba (vs:=[false,(),(),()]) rfl λbj bk X bG=>?_;have aY:=bi.trans (av.trans X);obtain⟨bU,aW,a8,bg⟩:=bK (aH.ext (av.trans X));refine⟨_,bU,R,aW,S,a8,T,bg,(kj (aQ.ext aY) I I I).use ?_⟩;rintro _ bl ⟨cB,rfl,bm,P⟩;have:=bm.2 al;subst this;have aZ:=aY.trans P;obtain⟨d0,d1,d2,d3⟩:=bK (aJ.ext (X.trans P));refine⟨true,rfl,cx (λb w'=>b=false/\Ext bl w') (λq o=>⟨λh=>(by cases h),λ_=>⟨_,d0,U,d1,V,d2,W,d3,(kj (aR.ext aZ) I I I).use ?_⟩⟩) ?_⟩
 .rintro _ aA ⟨b6,rfl,bn,N⟩
  have:=bn.2 sb;subst this;exact⟨true,rfl,o _ _ ⟨rfl,N⟩⟩
 rintro _ aA ⟨rfl,N⟩;have bo:=aZ.trans N;obtain⟨bU,aW,a8,bg⟩:=bK (aH.ext (av.trans (X.trans (P.trans N))));obtain⟨d0,d1,d2,d3⟩:=bK (aJ.ext (X.trans (P.trans N)));refine cx (λb w'=>b=false/\aA=w') (λq o=>⟨λh=>(by cases h),λ_=>⟨_,bU,_,d0,o _ _ ⟨by rw[aT];simp,rfl⟩⟩⟩) ?_;rintro _ _ ⟨rfl,rfl⟩;have ap:=cG aA;have a0:=bo.trans ap;obtain⟨v,Z⟩:∃v,v=aA.drew:=⟨_,rfl⟩;have a1:Var v w.heap.size [a.leaf,R,S,T] 169:=by rw[Z];exact(aH.ext (av.trans (X.trans (P.trans N)))).ext ap
 have bp:Var v w1.heap.size [b.leaf,U,V,W] 169:=by rw[Z];exact(aJ.ext (X.trans (P.trans N))).ext ap
 have bq:Var v ai.heap.size [false,(),(),()] 169:=by rw[Z];exact(bk.ext (P.trans N)).ext ap
 have aq:Ext w v:=by rw[Z];exact a0
 have bH:bj.heap.size<=v.heap.size:=by rw[Z];exact(P.trans N).size
 have ar:=aQ.ext aq;have A:=aR.ext aq;have br:=M.ext aq;obtain⟨lo,bI⟩:∃lo,lo=v.heap.size:=⟨_,rfl⟩;rw[←Z];clear bU aW a8 bg d0 d1 d2 d3 Z a0 ap;have fin:∀ {la lb x aS:Nat}{Q ac p aK gf:J}{r t u f i j:ad}{aL aM aN a2 a3 a4:Nat->Prop},gb la Q a r t u aL aM aN->gb lb ac b f i j a2 a3 a4->Ext Q p->Ext ac p->Ext v p->
  Var p x [false,(),(),()] 169->Var p aS [false,(),(),()] 169->
  (v.heap.size<=la/\la<=Q.heap.size/\Q.heap.size<=lb/\v.heap.size<=x/\v.heap.size<=aS/\x≠aS/\(x<la\/Q.heap.size<=x)/\(aS<la\/Q.heap.size<=aS)/\(x<lb\/ac.heap.size<=x)/\(aS<lb\/ac.heap.size<=aS))->aK.heap.size=x->gf.heap.size=aS->
  bJ p x [a.leaf,r,t,u]/\(4:Nat)=4/\ao (setCells p x 0 [a.leaf,r,t,u]) λaP=>
   bJ aP aS [b.leaf,f,i,j]/\(4:Nat)=4/\ao (setCells aP aS 0 [b.leaf,f,i,j]) λaC=>ae.x3 w aK gf ai key aC (nG (dK a s b) w):=by
  intro la lb x aS Q ac p aK gf r t u f i j aL aM aN a2 a3 a4 m l a5 a6 g a7 bs bL bt bu;have jN:=a5.size;have iR:=a6.size;have z3:=g.size;refine⟨a7.cn rfl (pk _ _ _ _),rfl,cT a7 (us:=[a.leaf,r,t,u]) rfl rfl λaP bw iY t5=>?_⟩;have a9:=bs.ah iY I;refine⟨a9.cn rfl (pk _ _ _ _),rfl,cT a9 (us:=[b.leaf,f,i,j]) rfl rfl λaC bx bb t6=>?_⟩;have aa:af (λq=>q=x\/q=aS) p aC:=(iY.mono λq _ h=>.inl h).trans (bb.mono λq _ h=>.inr h);have au:∀q,aL q\/aM q\/aN q->la<=q/\q<Q.heap.size:=λq o=>by
   rcases o with o|o|o
   .exact⟨(m.b2 q o).1,(m.b2 q o).2.1⟩
   .exact⟨(m.bv q o).1,(m.bv q o).2.1⟩
   .exact m.aO q o
  have sz:=aa.size;exact Hp (lo:=lo) (cY:=aC) (C:=λq=>lb<=q/\q<ac.heap.size) ((a1.ext g).ah aa I).cell (bw.ah bb I) bx (((m.ext a5).ah aa λq _ _ o e=>by have:=au q o;omega).low I)
   (((l.at.a_ λq h1 h2=>⟨h2,h1⟩).ext a6).ah aa λq o e=>I) (λq o=>⟨I,I,I,I,λh=>(by have:=au q (.inl h);omega),λh=>(by have:=au q (.inr (.inl h));omega),λh=>(by have:=au q (.inr (.inr h));omega)⟩) (λq o=>(by have:=au q o;exact⟨I,I⟩)) I I I
   ((bq.ext g).ah aa I) rfl I I ((br.ext g).ah aa λq o e=>(by have:=bf q o;have:=aq.size;omega)) bh (Ext.dT (aq.trans g) aa λq o=>I) hs aT al sb cc bB rfl bt bu rfl
 obtain⟨bU,aW,a8,bg⟩:=bK a1;obtain⟨d0,d1,d2,d3⟩:=bK bp;refine⟨λh=>(by cases h),λ_=>aX ⟨λ_=>False,id,_,bU,R,aW,S,a8,T,bg,id,_,d0,U,d1,V,d2,W,d3,?_⟩⟩;refine⟨?_,?_,?_⟩
 .refine(fG ar I I I am an).use ?_
  rintro _ bc ⟨r,t,u,aE,aF,aG,rfl,m,aw⟩;refine⟨_,r,t,u,rfl,aw,?_⟩;have s1:=aw.size;refine⟨?_,?_,?_⟩
  .refine(fG (A.ext aw) I I I y z).use ?_
   rintro _ ag ⟨f,i,j,H,K,L,rfl,l,ay⟩;refine⟨_,f,i,j,rfl,ay,?_⟩;have s2:=ay.size;refine⟨?_,?_⟩
   .refine ba (vs:=[false,(),(),()]) rfl λB D d z3=>⟨d,?_⟩
    have E:=d.size;refine ba (vs:=[false,(),(),()]) rfl λp F c z4=>⟨c,?_⟩;have G:=c.size;exact fin m l (ay.trans (d.trans (c))) (d.trans (c)) (aw.trans (ay.trans (d.trans c))) (D.ext c) (F) I rfl rfl
   .refine ba (vs:=[false,(),(),()]) rfl λB D d z3=>⟨d,?_⟩
    have E:=d.size;refine ba (vs:=[false,(),(),()]) rfl λp F c z4=>⟨c,?_⟩;have G:=c.size;exact fin m l (ay.trans (d.trans (c))) (d.trans (c)) (aw.trans (ay.trans (d.trans c))) (F) (D.ext c) I rfl rfl
  .refine ba (vs:=[false,(),(),()]) rfl λag O ay iR=>⟨ay,?_⟩
   have s2:=ay.size;refine⟨?_,?_⟩
   .refine(fG (A.ext (aw.trans (ay))) I I I y z).use ?_
    rintro _ B ⟨f,i,j,H,K,L,rfl,l,d⟩;refine⟨_,f,i,j,rfl,d,?_⟩;have E:=d.size;refine ba (vs:=[false,(),(),()]) rfl λp F c z4=>⟨c,?_⟩;have G:=c.size;exact fin m l (ay.trans (d.trans (c))) (c) (aw.trans (ay.trans (d.trans c))) (O.ext (d.trans (c))) (F) I rfl rfl
   .refine ba (vs:=[false,(),(),()]) rfl λB D d z3=>⟨d,?_⟩
    have E:=d.size;refine(fG (A.ext (aw.trans (ay.trans (d)))) I I I y z).use ?_;rintro _ p ⟨f,i,j,H,K,L,rfl,l,c⟩;refine⟨_,f,i,j,rfl,c,?_⟩;have G:=c.size;exact fin m l (ay.trans (d.trans (c))) ((af.refl _ _)) (aw.trans (ay.trans (d.trans c))) (O.ext (d.trans (c))) (D.ext c) I rfl rfl
  .refine ba (vs:=[false,(),(),()]) rfl λag O ay iR=>⟨ay,?_⟩
   have s2:=ay.size;refine⟨?_,?_⟩
   .refine(fG (A.ext (aw.trans (ay))) I I I y z).use ?_
    rintro _ B ⟨f,i,j,H,K,L,rfl,l,d⟩;refine⟨_,f,i,j,rfl,d,?_⟩;have E:=d.size;refine ba (vs:=[false,(),(),()]) rfl λp F c z4=>⟨c,?_⟩;have G:=c.size;exact fin m l (ay.trans (d.trans (c))) (c) (aw.trans (ay.trans (d.trans c))) (F) (O.ext (d.trans (c))) I rfl rfl
   .refine ba (vs:=[false,(),(),()]) rfl λB D d z3=>⟨d,?_⟩
    have E:=d.size;refine(fG (A.ext (aw.trans (ay.trans (d)))) I I I y z).use ?_;rintro _ p ⟨f,i,j,H,K,L,rfl,l,c⟩;refine⟨_,f,i,j,rfl,c,?_⟩;have G:=c.size;exact fin m l (ay.trans (d.trans (c))) ((af.refl _ _)) (aw.trans (ay.trans (d.trans c))) (D.ext c) (O.ext (d.trans (c))) I rfl rfl
 .refine ba (vs:=[false,(),(),()]) rfl λbc ab aw jN=>⟨aw,?_⟩
  have s1:=aw.size;refine⟨?_,?_⟩
  .refine(fG (ar.ext aw) I I I am an).use ?_
   rintro _ ag ⟨r,t,u,aE,aF,aG,rfl,m,ay⟩;refine⟨_,r,t,u,rfl,ay,?_⟩;have s2:=ay.size;refine⟨?_,?_⟩
   .refine(fG (A.ext (aw.trans (ay))) I I I y z).use ?_
    rintro _ B ⟨f,i,j,H,K,L,rfl,l,d⟩;refine⟨_,f,i,j,rfl,d,?_⟩;have E:=d.size;refine ba (vs:=[false,(),(),()]) rfl λp F c z4=>⟨c,?_⟩;have G:=c.size;exact fin m l (d.trans (c)) (c) (aw.trans (ay.trans (d.trans c))) (ab.ext (ay.trans (d.trans (c)))) (F) I rfl rfl
   .refine ba (vs:=[false,(),(),()]) rfl λB D d z3=>⟨d,?_⟩
    have E:=d.size;refine(fG (A.ext (aw.trans (ay.trans (d)))) I I I y z).use ?_;rintro _ p ⟨f,i,j,H,K,L,rfl,l,c⟩;refine⟨_,f,i,j,rfl,c,?_⟩;have G:=c.size;exact fin m l (d.trans (c)) ((af.refl _ _)) (aw.trans (ay.trans (d.trans c))) (ab.ext (ay.trans (d.trans (c)))) (D.ext c) I rfl rfl
  .refine ba (vs:=[false,(),(),()]) rfl λag O ay iR=>⟨ay,?_⟩
   have s2:=ay.size;refine(fG (ar.ext (aw.trans (ay))) I I I am an).use ?_;rintro _ B ⟨r,t,u,aE,aF,aG,rfl,m,d⟩;refine⟨_,r,t,u,rfl,d,?_⟩;have E:=d.size;refine(fG (A.ext (aw.trans (ay.trans (d)))) I I I y z).use ?_;rintro _ p ⟨f,i,j,H,K,L,rfl,l,c⟩;refine⟨_,f,i,j,rfl,c,?_⟩;have G:=c.size;exact fin m l (c) ((af.refl _ _)) (aw.trans (ay.trans (d.trans c))) (ab.ext (ay.trans (d.trans (c)))) (O.ext (d.trans (c))) I rfl rfl
 .refine ba (vs:=[false,(),(),()]) rfl λbc ab aw jN=>⟨aw,?_⟩
  have s1:=aw.size;refine⟨?_,?_⟩
  .refine(fG (ar.ext aw) I I I am an).use ?_
   rintro _ ag ⟨r,t,u,aE,aF,aG,rfl,m,ay⟩;refine⟨_,r,t,u,rfl,ay,?_⟩;have s2:=ay.size;refine⟨?_,?_⟩
   .refine(fG (A.ext (aw.trans (ay))) I I I y z).use ?_
    rintro _ B ⟨f,i,j,H,K,L,rfl,l,d⟩;refine⟨_,f,i,j,rfl,d,?_⟩;have E:=d.size;refine ba (vs:=[false,(),(),()]) rfl λp F c z4=>⟨c,?_⟩;have G:=c.size;exact fin m l (d.trans (c)) (c) (aw.trans (ay.trans (d.trans c))) (F) (ab.ext (ay.trans (d.trans (c)))) I rfl rfl
   .refine ba (vs:=[false,(),(),()]) rfl λB D d z3=>⟨d,?_⟩
    have E:=d.size;refine(fG (A.ext (aw.trans (ay.trans (d)))) I I I y z).use ?_;rintro _ p ⟨f,i,j,H,K,L,rfl,l,c⟩;refine⟨_,f,i,j,rfl,c,?_⟩;have G:=c.size;exact fin m l (d.trans (c)) ((af.refl _ _)) (aw.trans (ay.trans (d.trans c))) (D.ext c) (ab.ext (ay.trans (d.trans (c)))) I rfl rfl
  .refine ba (vs:=[false,(),(),()]) rfl λag O ay iR=>⟨ay,?_⟩
   have s2:=ay.size;refine(fG (ar.ext (aw.trans (ay))) I I I am an).use ?_;rintro _ B ⟨r,t,u,aE,aF,aG,rfl,m,d⟩;refine⟨_,r,t,u,rfl,d,?_⟩;have E:=d.size;refine(fG (A.ext (aw.trans (ay.trans (d)))) I I I y z).use ?_;rintro _ p ⟨f,i,j,H,K,L,rfl,l,c⟩;refine⟨_,f,i,j,rfl,c,?_⟩;have G:=c.size;exact fin m l (c) ((af.refl _ _)) (aw.trans (ay.trans (d.trans c))) (O.ext (d.trans (c))) (ab.ext (ay.trans (d.trans (c)))) I rfl rfl
end Go.Proofs.YtcmgnhkpfllinaaGreat
