/- Contracts of the functions that the statement reaches, and the plain laws over them; each theorem stands with its conditions. -/
import Derived.Test.YtcmgnhkpfllinaaGreatBALasts1
namespace Go.Proofs.YtcmgnhkpfllinaaGreat
open Go aS Go.Proofs.Tryz
variable{w w':J}{α:Type}{i u k b r nb lo aV:Nat}{n:aG}{B W C bX cd bL:U1}{K V D s S t:ad}{vs:O aa}{T:TypeId}{rd:Rd}{ls ks:O Key}{ds:O Nat}{l key:Key}{m:aG×Rd}{R:U2}
theorem Eb{a b:ad}{la lb:O UInt8}(g:Src 1 w a (aC la))(h:Src 1 w b (aC lb))(j:la.length+lb.length<=1000):
 aH aj 103 #[.slice (some w) 2 2] (w.alloc (.cells #[a,b] 39)) (λv w'=>∃c:ad,v=c/\aR 1 5 w' c (aC (la++lb))/\Ext w w'/\g0 w c):=by
 have hx:=c5 w (.cells #[a,b] 39);refine(yc (s:=⟨some w.heap.size,2,2⟩) [(a,la),(b,lb)] (Src.new w _ 2 rfl) ?_ (by simp[eY];omega) U9).mono ?_
 .intro p d
  simp only[cZ,e2,e_]at d;obtain rfl|rfl:=d
  .exact g.ext hx
  .exact h.ext hx
 .rintro _ w' ⟨c,rfl,f,i,hf⟩
  have e:eY [(a,la),(b,lb)]=la++lb:=by simp[eY]
  rw[e]at f;exact⟨c,rfl,f,hx.trans i,hf.mono hx.size⟩
theorem Ec{a b c:ad}{la lb lc:O UInt8}(h:Src 1 w a (aC la))(i:Src 1 w b (aC lb))(hc:Src 1 w c (aC lc))(k:la.length+lb.length+lc.length<=1000):
 aH aj 103 #[.slice (some w) 3 3] (w.alloc (.cells #[a,b,c] 39)) (λv w'=>∃d:ad,v=d/\aR 1 5 w' d (aC (la++(lb++lc)))/\Ext w w'/\g0 w d):=by
 have hx:=c5 w (.cells #[a,b,c] 39);refine(yc (s:=⟨some w.heap.size,3,3⟩) [(a,la),(b,lb),(c,lc)] (Src.new w _ 3 rfl) ?_ (by simp[eY];omega) U9).mono ?_
 .intro p f
  simp only[cZ,e2,e_]at f;obtain rfl|rfl|rfl:=f
  .exact h.ext hx
  .exact i.ext hx
  .exact hc.ext hx
 .rintro _ w' ⟨d,rfl,g,j,hf⟩
  have e:eY [(a,la),(b,lb),(c,lc)]=la++(lb++lc):=by simp[eY]
  rw[e]at g;exact⟨d,rfl,g,hx.trans j,hf.mono hx.size⟩
theorem Ed(w:J){n:Nat}(a:n<=255):Src 1 (w.alloc (.cells #[.int .u8 (IntKind.wrap .u8 (n:Int))] 5)) ⟨some w.heap.size,1,1⟩ (aC [UInt8.ofNat n])/\Ext w (w.alloc (.cells #[.int .u8 (IntKind.wrap .u8 (n:Int))] 5)):=by
 have e:(#[.int .u8 (IntKind.wrap .u8 (n:Int))]:Array aa)=(aC [UInt8.ofNat n]).toArray:=by
  rw[vK I I];simp[aC,kr (show n<256 from I)]
 rw[e];exact⟨Src.new w _ 1 rfl,c5 _ _⟩
theorem fB{l:O α}{d:α}(h:i<l.length):l.getD i d=l[i]:=by
 rw[ft,dR h];rfl
theorem cM.uh(h:cM n)(a:n.leaf=true):n.vals.length=n.keys.length:=by
 obtain h|h:=h
 .exact h.len
 .have:=h.inner;rw[a]at this;cases this
theorem cM.yj(h:cM n)(a:n.leaf=false):n.kids.length=n.keys.length+1:=by
 obtain h|h:=h
 .have:=h.leaf;rw[a]at this;cases this
 .exact h.len
theorem oB(h:b7 B w n K V D)(hs:cM n)(hi:i<n.keys.length)(ac:n.keys.length<=100000):
 aH aj 280 #[dz n K V D,i] w (λv w'=>∃s:ad,v=s/\aR 1 5 w' s (aC (g8 n i))/\Ext w w'/\g0 w s):=by
 refine okF (ae.oB n.leaf K V D (i:Int)) ax.oB func280 ?_;(delta ae.oB Y al aO bH aW ak ar r1;dsimp only);refine a6 (vs:=[n.leaf,K,V,D]) rfl λw1 r e _=>?_;have u:=cw w1;have Q:=e.trans u;have R:=h.ext Q;obtain⟨b9,aZ,bo,bt⟩:=bT (r.ext u);obtain⟨A,t,av,L,hc,ht,_⟩:=bW.at R.keys hi;have af:=(hs.keys.ok _ (cJ hi)).2;have S:=len8 ht.1;obtain⟨T,x⟩:=Ed w1.drew (n:=t.len) I;refine aT ⟨λ_=>False,id,K,aZ,A,av,L,id,t,hc,id,K,aZ,A,av,L,id,t,hc,aT ⟨x,aT ?_⟩⟩;refine(Eb (a:=⟨some w1.drew.heap.size,1,1⟩) (b:=t) T (ht.1.ext x) (by simp;omega)).use ?_;rintro _ y ⟨M,rfl,z,U,ag⟩;have d:=u.trans (x.trans U);obtain⟨d0,d1,d2,d3⟩:=bT (r.ext d);have W: [UInt8.ofNat t.len]++n.keys[i]=oL (n.keys.getD i []):=by rw[fB hi,S];rfl
 rw[W]at z;have N:=h.ext (e.trans d);refine⟨M,rfl,n.leaf,d0,λf=>?_,λf=>?_⟩
 .have ah:=hs.uh f
  have C:i<n.vals.length:=I
  have g:=cw y;have X:=N.ext g;obtain⟨ai,am,O,an⟩:=bT (r.ext (d.trans g));obtain⟨m,t2,o,p,q,P,_⟩:=bW.at X.vals C;have ao:=hs.vals _ (cJ C);have Z:=len8 P.1;obtain⟨aa,j⟩:=Ed y.drew (n:=t2.len) I;refine aT ⟨λ_=>False,id,V,O,m,o,p,id,t2,q,id,V,O,m,o,p,id,t2,q,aT ⟨j,aT ?_⟩⟩;refine(Ec (a:=M) (b:=⟨some y.drew.heap.size,1,1⟩) (c:=t2) (z.src.ext (g.trans j)) aa (P.1.ext j) (by rw[oM,fB hi];simp;omega)).use ?_;rintro _ ab ⟨l,rfl,E,F,G⟩;refine⟨l,rfl,l,rfl,?_,(e.trans d).trans (g.trans (j.trans F)),G.mono ((e.trans d).trans (g.trans j)).size⟩;have:oL (n.keys.getD i [])++([UInt8.ofNat t2.len]++n.vals[i])=g8 n i:=by
   unfold g8;rw[f,if_pos rfl,fB C,Z];rfl
  rwa[this]at E
 .have ap:=hs.yj f
  have H:i+1<n.kids.length:=I
  obtain⟨m,o,p,q⟩:=c9.at N.kids H;have aq:=hs.kids _ (cJ H);rw[bq (n:=(i:Int)+1) I I,show(i:Int)+1=((i+1:Nat):Int) from I];refine⟨D,d3,m,o,p,_,q,?_⟩;rw[gF (n:=((n.kids[i+1]:Nat):Int)) I I];refine(hA z.src (n:=n.kids[i+1]) (k:=2) (by rw[oM,fB hi];omega) (by show _<18446744073709551616;omega) ⟨by decide,by decide⟩).use ?_;rintro _ ab ⟨l,rfl,E,F,G⟩;refine⟨l,rfl,l,rfl,?_,(e.trans d).trans F,g0.mono G (e.trans d).size⟩;have:oL (n.keys.getD i [])++bQ n.kids[i+1] 2=g8 n i:=by
   unfold g8;rw[f,if_neg U9,fB H]
  rwa[this]at E
theorem yk(hs:cM n)(hi:i<n.keys.length):(g8 n i).length<=100:=by
 unfold g8;have:=(hs.keys.ok _ (cJ hi)).2;rw[cz,oM,fB hi];split
 .rename_i b
  have a:i<n.vals.length:=U4 (hs.uh b)
  have:=hs.vals _ (cJ a);rw[oM,fB a];omega
 .rw[dI];omega
theorem AP(hs:cM n):∀m,m<=n.keys.length->(iH n 0 m).length<=100*m
 |0,_=>by simp[iH]
 |m+1,a=>by
  have:=AP hs m I
  have:=yk hs (i:=m) I
  rw[AF,cz];omega
theorem p2(h:b7 B w n K V D)(hs:cM n)(ah:n.keys.length<=255):
 aH aj 275 #[dz n K V D] w (λv w'=>∃s:ad,v=s/\aR 1 5 w' s (aC (j7 n))/\Ext w w'/\g0 w s):=by
 refine okF (ae.p2 n.leaf K V D) ax.p2 func275 ?_;(delta ae.p2 al Y aW ak aO r1 bH ar;dsimp only);refine a6 (vs:=[n.leaf,K,V,D]) rfl λw1 g l _=>?_;obtain⟨b9,aZ,bo,bt⟩:=bT g;have u:=h.ext l;have E:=bW.len u.keys;have F:(#[.int .u8 (IntKind.wrap .u8 (K.len:Int))]:Array aa)=(aC [UInt8.ofNat n.keys.length]).toArray:=by
  rw[E,vK I I];simp[aC,kr (show n.keys.length<256 from I)]
 refine⟨K,aZ,?_⟩;rw[F];have m:=aR.new (T:=5) (sz:=1) w1 (aC [UInt8.ofNat n.keys.length]) 1 rfl (by decide);have c:=c5 w1 (.cells (aC [UInt8.ofNat n.keys.length]).toArray 5);obtain⟨ai,G⟩:=U6 (w1.alloc (.cells (aC [UInt8.ofNat n.keys.length]).toArray 5));rw[←G]at m c⊢;obtain⟨d0,d1,d2,d3⟩:=bT (g.ext c);have H:=l.trans c;refine aT (cc (λd w'=>aR 1 5 w' d (aC (preB n))/\Ext ai w'/\g0 w1 d) (λq x=>⟨n.leaf,d0,λa=>?_,λa=>x _ _ ⟨?_,.refl _ _,?_⟩⟩) ?_)
 .have a:n.leaf=false:=by simpa using a
  have am:=hs.yj a;have o:0<n.kids.length:=I
  obtain⟨L,M,N,O⟩:=c9.at (h.ext H).kids o;have an:=hs.kids _ (cJ o);refine⟨D,d3,L,M,N,_,O,?_⟩;rw[gF (n:=((n.kids[0]:Nat):Int)) I I];refine(hA m.src (n:=n.kids[0]) (k:=2) U9 (by show _<18446744073709551616;omega) ⟨by decide,by decide⟩).use ?_;rintro _ P ⟨p,rfl,e,b,f⟩;refine⟨p,rfl,x _ _ ⟨?_,b,g0.mono f c.size⟩⟩;have: [UInt8.ofNat n.keys.length]++bQ n.kids[0] 2=preB n:=by
   unfold preB;rw[a,if_neg U9,fB o];rfl
  rwa[this]at e
 .have a:n.leaf=true:=by simpa using a
  have:preB n=[UInt8.ofNat n.keys.length]:=by unfold preB;rw[a];rfl
  rw[this];exact m
 .rintro k ⟨A,av,rfl⟩
  cases av;exact bk _
 rintro ao ap ⟨Q,R,S⟩;have y:=c.trans R;obtain⟨d0,d1,d2,d3⟩:=bT (g.ext y);have aq:(preB n).length<=3:=by
  unfold preB
  cases n.leaf<;>simp[dI]
 refine⟨K,d1,λd i w'=>∃j:Nat,i=j/\j<=n.keys.length/\aR 1 5 w' d (aC (preB n++iH n 0 j))/\Ext w1 w'/\g0 w1 d,λ_ i _=>((n.keys.length:Int)-i).toNat,⟨0,rfl,cI _,by simpa[iH] using Q,y,S⟩,?_⟩;rintro p _ P ⟨j,rfl,U,e,b,f⟩;refine⟨λaI=>?_,λr=>?_⟩
 .have aI:j<n.keys.length:=U4 (b2 aI)
  obtain⟨f0,f1,f2,f3⟩:=bT (g.ext b);refine⟨n.leaf,f0,K,f1,V,f2,D,f3,(oB (u.ext b) hs aI I).use ?_⟩;rintro _ au ⟨W,rfl,z,t,aw⟩;have C:=mO e;have X:=mO z;have cH:=yk hs aI;have ck:=AP hs j U;rw[cz]at C;obtain⟨Z,ab,ay,az,aA,ac,af⟩:=l6.append (cB:=39) z.src (e.ext t) (jd _) (by rw[C,X];omega);rw[bq (n:=(j:Int)+1) I I];refine⟨W,rfl,Z,ab,ay,⟨j+1,I,I,?_,Ext.d_ (b.trans t) ac f,λk ag=>?_⟩,?_⟩
  .rw[AF,←cO,nx];exact az
  .rcases af k ag with h|h
   .exact f k h
   .exact eO (b.trans t).size h
  .show((n.keys.length:Int)-((j:Int)+1)).toNat<((n.keys.length:Int)-(j:Int)).toNat
   omega
 .have r:j=n.keys.length:=U4 (cr r)
  subst r;exact⟨p,rfl,e,l.trans b,f.mono l.size⟩
theorem p0(h:b7 B w n K V D)(hs:cM n)(f:n.keys.length<=255):
 aH aj 262 #[dz n K V D] w (λv w'=>v=.int .i64 (bS n:Nat)/\Ext w w'):=by
 have g:n.vals.length<=100000:=by
  obtain hs|hs:=hs
  .rw[hs.len];omega
  .rw[hs.vals];simp
 have i:n.kids.length<=100000:=by
  obtain hs|hs:=hs
  .rw[hs.kids];simp
  .rw[hs.len];omega
 refine okF (ae.p0 n.leaf K V D) ax.p0 func262 ?_;(delta ae.p0 aW Y al bP ak bH;dsimp only);refine a6 (vs:=[n.leaf,K,V,D]) rfl λw1 d a _=>?_;obtain⟨b9,aZ,bo,bt⟩:=bT d;refine⟨n.leaf,b9,K,aZ,V,bo,D,bt,(kZ (h.ext a) I g i).use ?_⟩;rintro _ ai ⟨b,rfl,j,c⟩;have k:=j.2 hs;subst k;obtain⟨b9,aZ,bo,bt⟩:=bT (d.ext c);refine⟨true,rfl,nofun,λ_=>⟨n.leaf,b9,K,aZ,V,bo,D,bt,(p2 (h.ext (a.trans c)) hs f).use ?_⟩⟩;rintro _ p ⟨l,rfl,m,o,_⟩;have e:=mO m;rw[AI hs]at e;exact⟨l,rfl,by rw[e],(a.trans c).trans o⟩
def Ee(n:aG)(w w':J)(v:aa):Prop:=
 (∃s:ad,v=.tuple #[s,U8]/\aR 1 5 w' s (aC (j7 n))/\g0 w s/\cM n/\bS n<=232)\/
 (∃e:Int,v=.tuple #[(),e]/\e≠0/\(cM n->232<bS n))
theorem pY(h:b7 B w n K V D)(m:n.keys.length<=100000)(o:n.vals.length<=100000)(p:n.kids.length<=100000):
 aH aj 254 #[dz n K V D] w (λv w'=>Ee n w w' v/\Ext w w'):=by
 refine okF (ae.pY n.leaf K V D) ax.pY func254 ?_;(delta ae.pY aW Y al bP ak bH;dsimp only);refine a6 (vs:=[n.leaf,K,V,D]) rfl λw1 d e _=>?_;obtain⟨b9,aZ,bo,bt⟩:=bT d;refine⟨n.leaf,b9,K,aZ,V,bo,D,bt,(kZ (h.ext e) m o p).use ?_⟩;rintro _ ai ⟨b,rfl,f,g⟩;have a:=e.trans g;obtain⟨b9,aZ,bo,bt⟩:=bT (d.ext g);have u:=bW.len h.keys;refine⟨b,rfl,cc (λc w'=>ai=w'/\(c=true->cM n->255<n.keys.length)/\(c=false->cM n/\n.keys.length<=255)) (λq i=>⟨λh1=>i _ _ ⟨rfl,λ_ hs=>?_,nofun⟩,λh1=>⟨K,aZ,i _ _ ⟨rfl,λh2 hs=>?_,λh2=>?_⟩⟩⟩) ?_⟩
 .have h1:b=false:=by simpa using h1
  rw[f.2 hs]at h1;cases h1
 .have:=b2 h2;omega
 .have h1:b=true:=by simpa using h1
  have:=cr h2;exact⟨f.1 h1,I⟩
 rintro c w' ⟨rfl,ay,az⟩;refine⟨λh1=>⟨.inr ⟨4,rfl,by decide,λhs=>?_⟩,a⟩,λh1=>?_⟩
 .have:=ay h1 hs
  have:=x7 hs;omega
 obtain⟨hs,r⟩:=az h1;refine⟨n.leaf,b9,K,aZ,V,bo,D,bt,(p2 (h.ext a) hs r).use ?_⟩;rintro _ x ⟨j,rfl,k,l,s⟩;have t:=mO k;rw[AI hs]at t;refine⟨j,rfl,λh2=>⟨.inr ⟨10,rfl,by decide,λ_=>?_⟩,a.trans l⟩,λh2=>⟨.inl ⟨j,rfl,k,s.mono a.size,hs,?_⟩,a.trans l⟩⟩
 .have:=b2 h2;omega
 .have:=cr h2;omega
theorem rV(h:b7 B w n K V D)(d:n.keys.length<=100000)(f:n.vals.length<=100000)(g:n.kids.length<=100000):
 aH aj 277 #[dz n K V D] w (λv w'=>Ee n w w' v/\Ext w w'):=by
 refine okF (ae.rV n.leaf K V D) ax.rV func277 ?_;(delta ae.rV aW Y al dH;dsimp only);refine a6 (vs:=[n.leaf,K,V,D]) rfl λw1 i a _=>?_;obtain⟨b9,aZ,bo,bt⟩:=bT i;refine⟨n.leaf,b9,K,aZ,V,bo,D,bt,(pY (h.ext a) d f g).use ?_⟩;rintro _ ai ⟨j,c⟩;obtain⟨s,rfl,k,hf,hs,b⟩|⟨e,rfl,he,b⟩:=j
 .exact⟨s,0,rfl,.inl ⟨s,rfl,k,hf.mono a.size,hs,b⟩,a.trans c⟩
 .exact⟨⟨none,0,0⟩,e,rfl,.inr ⟨e,rfl,he,b⟩,a.trans c⟩
def fU(n:Int):ao:=decide (n>=0)&&decide (n<=65535)
theorem nq(n:Int)(w:J):aH aj 165 #[n] w (λv w'=>v=.bool (fU n)/\w=w'):=by
 refine okF (ae.nq n) ax.nq func165 ?_;unfold ae.nq;exact⟨rfl,rfl⟩
theorem oR{n:Int}(h:fU n=true):∃k:Nat,n=(k:Int)/\k<=65535:=by
 unfold fU at h;simp at h;exact⟨n.toNat,I,I⟩
def j8(b u:Nat):O UInt8:=bQ b 2++bQ u 8
theorem rB(b:Int)(hu:u<18446744073709551616)(w:J):aH aj 98 #[b,.int .u64 (u:Nat)] w (λv w'=>(fU b=false/\v=.tuple #[(),false]/\w=w')\/(fU b=true/\∃s:ad,v=.tuple #[s,true]/\aR 1 5 w' s (aC (j8 b.toNat u))/\Ext w w'/\∀q,aD s q->w<=q)):=by
 refine okF (ae.rB b (u:Nat)) ax.rB func98 ?_;delta ae.rB bP ak bH;refine(nq b w).use ?_;rintro _ _ ⟨rfl,rfl⟩;refine⟨_,rfl,λa=>.inl ⟨by simpa using a,rfl,rfl⟩,λa=>?_⟩;have a:fU b=true:=by simpa using a
 obtain⟨k,rfl,m⟩:=oR a;rw[gF (n:=(k:Int)) I I];refine(hA (s:=⟨none,0,0⟩) (l:=[]) (aR.none 1 5 w).src U9 (n:=k) (k:=2) I I).use ?_;rintro _ o ⟨e,rfl,f,c,p⟩;refine⟨e,rfl,(hA f.src (by rw[cz,dI];decide) (n:=u) (k:=8) hu I).use ?_⟩;rintro _ r ⟨d,rfl,g,h,i⟩;exact⟨d,rfl,.inr ⟨a,d,rfl,g,c.trans h,λq j=>U5 (i q j) c.size⟩⟩
def jh(p:br):UInt8:=if p.addr.eo then 6 else 4
def eI(s:Nat)(p:br):O UInt8:=bQ s 2++([jh p,UInt8.ofNat p.bits.toNat]++p.addr.raw)
def df(s:Int)(p:br):ao:=decide (gA p.addr p.bits=some p)&&fU s
section
variable {w:J}{p:br}{b:Nat}{T:TypeId}
theorem AQ(h:Var w b p.c T):bf w b 0 17=some p.addr.c:=by
 rw[h.r4 (by rw[br.ba];decide),iV,br.c,pe (bc.ba _)]
theorem AR(h:Var w b p.c T):w.cell? (Addr.add b 17)=some (.int .i64 p.bits):=by
 rw[aA,h.cell,br.c,hL (by simp[bc.ba])];simp[bc.ba]
theorem Ef(h:Var w b p.c T):w.cell? b=some (.bool p.addr.eo):=by
 rw[h.cell,br.c,u0 (by simp[bc.ba])];rfl
theorem ui(h:gA p.addr p.bits=some p):0<=p.bits/\p.bits<=128:=by
 unfold gA at h;split at h
 .rename_i a
  have:=p.addr.j5;split at this<;>omega
 .cases h
theorem mI(s:Int)(p:br)(w:J):aH aj 97 #[s,.agg p.c.toArray] w (λv w'=>Ext w w'/\((df s p=false/\v=.tuple #[(),false])\/(df s p=true/\∃t:ad,v=.tuple #[t,true]/\aR 1 5 w' t (aC (eI s.toNat p))/\∀q,aD t q->w<=q))):=by
 refine ae.H6 s _ w _ ?_;(delta ae.mI Y r1 h4 z9 ak bP aW bH wg;dsimp only);refine a6 (vs:=p.c) rfl λw1 f Z ay=>⟨p.addr.c,AQ f,p.bits,AR f,(pQ p.addr p.bits w1).use ?_⟩;rintro _ az ⟨rfl,o⟩;refine⟨_,_,rfl,a6 (vs:=br.zero.c) rfl λaA H K aB=>⟨H.ct (by simp[br.ba]) (br.plain _),by simp[br.ba],cP H (us:=((gA p.addr p.bits).getD br.zero).c) (by simp[br.ba]) rfl λe aa L _=>?_⟩⟩;have M:=Z.trans o;have N:Ext w e:=Ext.cp (M.trans K) L M.size;have r:=((f.ext o).ext K).ah L (U4 ((f.ext o).lt));refine cc (λb w'=>b= !decide (gA p.addr p.bits=some p)/\e=w') (λq d=>⟨λh=>d _ _ ⟨?_,rfl⟩,λh=>⟨_,aa.rd (br.ba _),_,r.rd (br.ba _),_,Al _ _,d _ _ ⟨?_,rfl⟩⟩⟩) ?_
 .cases u:gA p.addr p.bits with
  |none=>simp
  |some m=>rw[u]at h;cases h
 .cases u:gA p.addr p.bits with
  |none=>rw[u]at h;cases h
  |some m=>simp
 rintro _ _ ⟨rfl,rfl⟩;refine cc (λb w'=>b= !df s p/\e=w') (λq d=>⟨λh=>d _ _ ⟨?_,rfl⟩,λh=>(nq s e).use ?_⟩) ?_
 .unfold df
  rw[jD]at h;rw[h];rfl
 .rintro _ _ ⟨rfl,rfl⟩
  refine⟨_,rfl,d _ _ ⟨?_,rfl⟩⟩;unfold df;rw[m7]at h;rw[h,hX]
 rintro _ _ ⟨rfl,rfl⟩;refine⟨λh=>⟨N,.inl ⟨by simpa using h,rfl⟩⟩,λh=>?_⟩;have hg:df s p=true:=by simpa using h
 have x:=hg;unfold df at x;rw[dg,b8]at x;obtain⟨ab,ac⟩:=x;obtain⟨k,rfl,aE⟩:=oR ac;have aF:=ui ab;have af:IntKind.wrap .u8 p.bits=(((UInt8.ofNat p.bits.toNat).toNat:Nat):Int):=by
  rw[n3];show p.bits%256=_;omega
 refine cc (λn w'=>n=(((jh p).toNat:Nat):Int)/\e=w') (λq d=>⟨_,Ef r,λh=>d _ _ ⟨by unfold jh;rw[if_pos h];rfl,rfl⟩,λh=>d _ _ ⟨by unfold jh;rw[if_neg (by rw[h];decide)];rfl,rfl⟩⟩) ?_;rintro _ _ ⟨rfl,rfl⟩;have O:=cw e;have y:=r.ext O;have z:=N.trans O;refine aT ?_;generalize e.drew=g at y z;refine⟨λ_=>False,id,_,AR y,id,_,AQ y,?_⟩;rw[af,gF (n:=(k:Int)) I I];have fin:∀ (w':J) (a b c:ad),Ext g w'->Src 1 w' a (aC ([]++bQ k 2))->Src 1 w' b (aC [jh p,UInt8.ofNat p.bits.toNat])->Src 1 w' c (aC p.addr.raw)->
  an (w'.alloc (.cells #[a,b,c] 39)) λag=>Calls aj 103 #[.slice (some w') 3 3] ag λai A=>
   ∃B:ad,ai=.returned B/\(Ext w A/\((df (k:Int) p=false/\Value.tuple #[B,true]=.tuple #[(),false])\/(df (k:Int) p=true/\∃t:ad,Value.tuple #[B,true]=.tuple #[t,true]/\aR 1 5 A t (aC (eI (k:Int).toNat p))/\∀q,aD t q->w<=q))):=λw' a b c hx al am hc=>by
  refine aT ((Ec al am hc ?_).use ?_)
  .have:=p.addr.j5
   rw[hK,dI];show 2+2+p.addr.raw.length<=1000;split at this<;>omega
  .rintro _ A ⟨t,rfl,ao,ap,hf⟩
   have aG:=z.size;have aI:=hx.size;exact⟨t,rfl,z.trans (hx.trans ap),.inr ⟨hg,t,rfl,ao,λq d=>by have:w'<=q:=hf q d;omega⟩⟩
 have put:∀ (w':J),aH aj 115 #[(),.int .u64 (k:Nat),(2:Int)] w' (λv P=>∃C:ad,v=C/\aR 1 5 P C (aC ([]++bQ k 2))/\Ext w' P/\∀q,aD C q->w'<=q):=λw'=>hA (s:=⟨none,0,0⟩) (l:=[]) (aR.none 1 5 w').src U9 (n:=k) (k:=2) I I;have lit:∀ (w':J),Src 1 (w'.alloc (.cells #[.int .u8 (((jh p).toNat:Nat):Int),.int .u8 (((UInt8.ofNat p.bits.toNat).toNat:Nat):Int)] 5)) ⟨some w'.heap.size,2,2⟩ (aC [jh p,UInt8.ofNat p.bits.toNat]):=λw'=>Src.new (T:=5) w' (aC [jh p,UInt8.ofNat p.bits.toNat]) 2 rfl;refine⟨(put g).use ?_,aT ⟨c5 _ _,(put _).use ?_⟩⟩
 .rintro _ Q ⟨D,rfl,R,E,_⟩
  refine⟨D,rfl,E,aT ⟨c5 _ _,(mJ p.addr _).use ?_⟩,(mJ p.addr _).use ?_⟩
  .rintro _ aq ⟨S,rfl,ar,_,i,_⟩
   exact⟨S,rfl,i,fin aq D ⟨some Q.heap.size,2,2⟩ S (E.trans ((c5 _ _).trans i)) (R.src.ext ((c5 _ _).trans i)) ((lit Q).ext i) ar.src⟩
  .rintro _ U ⟨V,rfl,au,_,F,_⟩
   exact⟨V,rfl,F,aT ⟨c5 _ _,fin _ D ⟨some U.heap.size,2,2⟩ V (E.trans (F.trans (c5 _ _))) (R.src.ext (F.trans (c5 _ _))) (lit U) (au.src.ext (c5 _ _))⟩⟩
 .rintro _ aJ ⟨W,rfl,av,G,_⟩
  refine⟨W,rfl,G,(mJ p.addr _).use ?_⟩;rintro _ aw ⟨X,rfl,ax,_,j,_⟩;exact⟨X,rfl,j,fin aw W ⟨some g.heap.size,2,2⟩ X ((c5 _ _).trans (G.trans j)) (av.src.ext j) ((lit g).ext (G.trans j)) ax.src⟩
end
structure aB where
 s:Int
 p:br
 b:Int
 u:Nat
def aB.c(t:aB):O aa:=.int .i64 t.s::(t.p.c++ [.int .i64 t.b,.int .u64 (t.u:Nat)])
theorem aB.ba(t:aB):t.c.length=21:=by simp[aB.c,br.ba]
section
variable {w:J}{t:aB}{b:Nat}{T:TypeId}
theorem mb(h:Var w b t.c T):bf w (Addr.add ⟨b,0,none⟩ 1) 0 18=some t.p.c:=by
 rw[aA,h.r4 (by rw[aB.ba];decide)];show some (List.take 18 (t.p.c++_))=_;rw[pe (br.ba _)]
theorem uj(h:Var w b t.c T):w.cell? (Addr.add ⟨b,0,none⟩ 19)=some (.int .i64 t.b):=by
 rw[aA,h.cell];show(t.p.c++_)[18]? =_;rw[hL (by rw[br.ba];decide),br.ba];rfl
theorem AS(h:Var w b t.c T):w.cell? (Addr.add ⟨b,0,none⟩ 20)=some (.int .u64 (t.u:Nat)):=by
 rw[aA,h.cell];show(t.p.c++_)[19]? =_;rw[hL (by rw[br.ba];decide),br.ba];rfl
def aB.ep(t:aB):ao:=df t.s t.p&&fU t.b
theorem pO(t:aB)(w:J):aH aj 96 #[.agg t.c.toArray] w (λv w'=>v=t.ep/\Ext w w'):=by
 refine ae.H5 _ w _ ?_;(delta ae.pO r1 Y ik ak bP;dsimp only);refine a6 (vs:=t.c) rfl λw1 a i l=>⟨t.s,a.cell,t.p.c,mb a,(mI t.s t.p w1).use ?_⟩;rintro v f ⟨g,j⟩;have k:=a.ext g;have key:∃ (d:ad),v=.tuple #[d,.bool (df t.s t.p)]:=by
  obtain⟨hg,rfl⟩|⟨hg,s,rfl,_⟩:=j
  .exact⟨⟨none,0,0⟩,by rw[hg]⟩
  .exact⟨s,by rw[hg]⟩
 obtain⟨d,rfl⟩:=key;refine⟨d,_,rfl,cc (λb w'=>b=t.ep/\f=w') (λq h=>⟨λe=>⟨t.b,uj k,(nq t.b f).use ?_⟩,λe=>h _ _ ⟨?_,rfl⟩⟩) ?_⟩
 .rintro _ _ ⟨rfl,rfl⟩
  exact⟨_,rfl,h _ _ ⟨by unfold aB.ep;rw[e,hX],rfl⟩⟩
 .unfold aB.ep;rw[e,kS]
 .rintro _ _ ⟨rfl,rfl⟩
  exact⟨rfl,i.trans g⟩
def nC(k:Nat):O UInt8:=if k<65535 then bQ (k+1) 2 else []
theorem rP(s:Int)(w:J):aH aj 212 #[s] w (λv w'=>∃f t:ad,v=.tuple #[f,t]/\Ext w w'/\((fU s=false/\f=⟨none,0,0⟩/\t=⟨none,0,0⟩)\/(fU s=true/\aR 1 5 w' f (aC (bQ s.toNat 2))/\aR 1 5 w' t (aC (nC s.toNat))/\(∀q,aD f q->w<=q)/\∀q,aD t q->w<=q))):=by
 refine okF (ae.rP s) ax.rP func212 ?_;delta ae.rP bP ak bH;refine(nq s w).use ?_;rintro _ _ ⟨rfl,rfl⟩;refine⟨_,rfl,λa=>⟨⟨none,0,0⟩,⟨none,0,0⟩,rfl,.refl _ _,.inl ⟨by simpa using a,rfl,rfl⟩⟩,λa=>?_⟩;have a:fU s=true:=by simpa using a
 obtain⟨k,rfl,u⟩:=oR a;rw[gF (n:=(k:Int)) I I,gF (n:=(k:Int)+1) I I];refine(hA (s:=⟨none,0,0⟩) (l:=[]) (aR.none 1 5 w).src U9 (n:=k) (k:=2) I I).use ?_;rintro _ b ⟨d,rfl,g,e,i⟩;refine⟨d,rfl,cc (λ(t:ad) w'=>aR 1 5 w' t (aC (nC k))/\Ext b w'/\∀q,aD t q->b<=q) (λq c=>⟨λh=>?_,λh=>?_⟩) ?_⟩
 .have h:(k:Int)<65535:=b2 h
  refine(hA (s:=⟨none,0,0⟩) (l:=[]) (aR.none 1 5 b).src U9 (n:=k+1) (k:=2) I I).use ?_;rintro _ x ⟨j,rfl,m,o,p⟩;exact⟨j,rfl,c _ _ ⟨by unfold nC;rw[if_pos I];exact m,o,p⟩⟩
 .have h:¬(k:Int)<65535:=cr h
  exact c ⟨none,0,0⟩ _ ⟨by unfold nC;rw[if_neg I];exact aR.none 1 5 b,.refl _ _,λq h=>(fH q h).elim⟩
 .rintro t y ⟨r,hx,hf⟩
  have z:=e.size;exact⟨d,t,rfl,e.trans hx,.inr ⟨a,g.ext hx,r,i,λq c=>U4 (hf q c)⟩⟩
end
theorem AT{a:bc}(h:a.ep=true):iF a.raw=some a:=by
 have d:=a.j5;obtain⟨c,e⟩:=DM (l:=a.raw) (by split at d<;>omega);obtain⟨h1,h2⟩:=DL e;have f:=DK e;have hs:c.eo=a.eo:=by
  cases hx:a.eo with
  |true=>exact h2.2 (by rw[d,hx];rfl)
  |false=>
   cases g:c.eo with
   |false=>rfl
   |true=>
    have:=h2.1 g;rw[d,hx]at this;cases this
 have i:c.b=a.b:=by
  unfold bc.raw at h1;rw[hs]at h1
  cases hx:a.eo with
  |true=>rw[hx]at h1;exact h1
  |false=>
   rw[hx]at h1;have h1:c.b.drop 12=a.b.drop 12:=h1;unfold bc.ep at h f;rw[hs,hx,jR,b8]at f;rw[hx,jR,b8]at h;rw[←ga 12 c.b,←ga 12 a.b,h1,f,h]
 rw[e,bc.ext' hs i]
def aB.zero:aB:=⟨0,br.zero,0,0⟩
theorem uk(w:J):Sem.run aj (Instr.build 57 #[]) w=.ok (.agg aB.zero.c.toArray) w:=by kernel_rfl
theorem Eg(w:J)(p:br)(s b u:Int):Sem.run aj (Instr.build 57 #[(0,.int .i64 s),(1,.agg p.c.toArray),(2,.int .i64 b),(3,.int .u64 u)]) w=.ok (.agg (.int .i64 s::(p.c++ [.int .i64 b,.int .u64 u])).toArray) w:=by
 obtain⟨⟨eo,l,h⟩,n⟩:=p;obtain⟨bV,a,d,e,f,g,i,j,k,m,o,q,r,t,v,x,rfl⟩:=tZ l h
 kernel_rfl
theorem aB.plain(t:aB):∀v∈t.c,Plain v:=λv a=>by
 unfold aB.c at a
 rcases cZ.1 a with rfl|a
 .trivial
 .rcases cR.1 a with a|a
  .exact br.plain _ v a
  .simp only[cZ,e2,e_]at a
   rcases a with rfl|rfl<;>trivial
theorem yl(k:Nat)(p:br):(eI k p).length=4+p.addr.raw.length:=by
 unfold eI;rw[cz,cz,dI];show 2+(2+p.addr.raw.length)=_;omega
theorem sf(b u:Nat):(j8 b u).length=10:=by unfold j8;rw[cz,dI,dI]
theorem AU(h:k<=65535)(p:br):iG (((eI k p).drop 0).take 2)=k:=by
 rw[iV];unfold eI;rw[pe (dI k 2),r9 2 k I]
theorem AV(k:Nat)(p:br):(eI k p)[3]? =some (UInt8.ofNat p.bits.toNat):=by
 unfold eI;rw[hL (by rw[dI];decide),dI];rfl
theorem AW(k:Nat)(p:br):(eI k p).drop 4=p.addr.raw:=by
 unfold eI;rw[show 4=2+2 from rfl,←lu,sN (dI k 2)];exact sN rfl
theorem JZ(h:b<=65535)(u:Nat):iG (((j8 b u).drop 0).take 2)=b:=by
 rw[iV];unfold j8;rw[pe (dI b 2),r9 2 b I]
theorem J0(b:Nat)(h:u<18446744073709551616):iG (((j8 b u).drop 2).take 8)=u:=by
 unfold j8;rw[sN (dI b 2),dO (by rw[dI];exact bk _),r9 8 u I]
theorem ru{d sv:ad}{p:br}(e:Src 1 w d (aC (eI k p)))(y:d.len<=d.cap)(f:Src 1 w sv (aC (j8 b u)))(z:sv.len<=sv.cap)(hg:df (k:Int) p=true)(g:b<=65535)(hu:u<18446744073709551616):
 aH aj 51 #[.slice d.a d.len d.cap,.slice sv.a sv.len sv.cap] w (λv w'=>v=.tuple #[.agg (aB.mk (k:Nat) p (b:Nat) u).c.toArray,.bool true]/\Ext w w'):=by
 have j:=hg;unfold df at j;rw[dg,b8]at j;obtain⟨B,Q⟩:=j;have R:k<=65535:=by obtain⟨n,h1,h2⟩:=oR Q;omega
 have ay:=xY p.addr;have az:d.len=4+p.addr.raw.length:=by have:=e.len;rw[de,yl]at this;omega
 have aA:sv.len=10:=by have:=f.len;rw[de,sf]at this;omega
 have S:p.addr.ep=true:=(Ar B).2.1;have aD:=ui B;refine okF (ae.ru d sv) ax.ru func51 ?_;(delta ae.ru fk mG ak Y h4 z4 aO cq ar r1 ik bP;dsimp only);refine a6 (vs:=aB.zero.c) rfl λw1 T l aE=>(kE (e.ext l) y (a:=0) (k:=2) I (by rw[yl];omega) (by rw[yl];omega)).use ?_;rintro _ _ ⟨rfl,rfl⟩;rw[AU R];refine⟨_,true,rfl,λg=>?_,λ_=>⟨⟨by decide,I⟩,?_⟩⟩
 .exfalso
  simp only[Bool.not_true,jR,jE,b8,bne_iff_ne]at g;omega
 have C:=Src.sub (e.ext l) y (lo:=4) (hi:=d.len) I (bk _);have U:((aC (eI k p)).drop 4).take (d.len-4)=aC p.addr.raw:=by
  have h1:(aC (eI k p)).drop 4=aC p.addr.raw:=by rw[←AW k p];unfold aC;rw[m4]
  rw[h1,dO (by rw[de];omega)]
 rw[U]at C;refine(rC C).use ?_;rintro _ V ⟨rfl,D⟩;rw[AT S];refine⟨_,_,rfl,a6 (vs:=bc.zero.c) rfl λaF E W aG=>⟨E.ct (by simp[bc.ba]) (bc.plain _),by simp[bc.ba],cP E (us:=p.addr.c) (by simp[bc.ba]) rfl λm X Z _=>?_⟩⟩;have aa:=l.trans D;have F:Ext V m:=Ext.cp W Z (bk _);have o:=aa.trans F;refine(kE (f.ext o) z (a:=0) (k:=2) I (by rw[sf];decide) (by rw[sf];decide)).use ?_;rintro _ _ ⟨rfl,rfl⟩;rw[JZ g];refine⟨_,true,rfl,(kE (f.ext o) z (a:=2) (k:=8) I (by rw[sf];decide) (by rw[sf];decide)).use ?_⟩;rintro _ _ ⟨rfl,rfl⟩;rw[J0 b hu];have r:=cw m;have s:=o.trans r;have G:=X.ext r;have H:=(T.ext D).ext (F.trans r);refine⟨_,true,rfl,aT ?_⟩;generalize m.drew=ab at s G H;obtain⟨A,av,ac,af⟩:=(e.ext s).at (i:=3) (v:=.int .u8 (((UInt8.ofNat p.bits.toNat).toNat:Nat):Int)) (by unfold aC;rw[mz,AV];rfl);have ag:IntKind.wrap .i64 (((UInt8.ofNat p.bits.toNat).toNat:Nat):Int)=p.bits:=by
  rw[n3,bq I I];omega
 refine⟨λ_=>False,id,p.addr.c,G.rd (bc.ba _),A,av,ac,id,_,af,?_⟩;rw[ag,bq (n:=(k:Int)) I I,bq (n:=(b:Int)) I I];refine⟨p.c.toArray,λah=>Am ah p.addr p.bits,(aB.mk (k:Nat) p (b:Nat) u).c.toArray,λai=>Eg ai p _ _ _,a6 (vs:=aB.zero.c) rfl λaI K L aJ=>⟨L,K.ct (by simp[aB.ba]) (aB.plain _),by simp[aB.ba],cP K (us:=(aB.mk (k:Nat) p (b:Nat) u).c) (by simp[aB.ba]) rfl λM t al _=>?_⟩⟩;have N:Ext ab M:=Ext.cp L al (bk _);refine⟨_,t.cell,_,mb t,(mI (k:Nat) p M).use ?_⟩;rintro _ am ⟨x,⟨hf,_⟩|⟨_,an,rfl,ao,_⟩⟩
 .rw[hg]at hf;cases hf
 have O:=(s.trans N).trans x;have ap:=t.ext x;have P:=(H.ext N).ext x;refine⟨an,true,rfl,cc (λb w'=>b=false/\am=w') (λq aq=>⟨nofun,λ_=>(pK ao.src (e.ext O)).use ?_⟩) ?_⟩
 .rintro _ _ ⟨rfl,rfl⟩
  exact⟨_,rfl,aq _ _ ⟨by rw[c2,dh rfl];rfl,rfl⟩⟩
 rintro _ _ ⟨rfl,rfl⟩;refine⟨nofun,λ_=>⟨_,ap.rd (aB.ba _),P.ct (by simp[aB.ba]) (aB.plain _),by simp[aB.ba],cP P (us:=(aB.mk (k:Nat) p (b:Nat) u).c) (by simp[aB.ba]) rfl λaK au aw _=>⟨_,au.rd (aB.ba _),rfl,Ext.cp O aw (bk _)⟩⟩⟩
theorem p5(n:Int)(w:J):aH aj 162 #[n] w (λv w'=>v=.bool (fU n)/\w=w'):=by
 refine okF (ae.p5 n) ax.p5 func162 ?_;unfold ae.p5;exact⟨rfl,rfl⟩
section
variable {w:J}{t:aB}{b:Nat}{T:TypeId}
theorem J1(h:Var w b t.c T):bf w (Addr.add ⟨b,0,none⟩ 1) 0 17=some t.p.addr.c:=by
 rw[aA,h.r4 (by rw[aB.ba];decide)];show some (List.take 17 (t.p.c++_))=_;rw[br.c,cO,pe (bc.ba _)]
theorem J2(h:Var w b t.c T):w.cell? ((Addr.add ⟨b,0,none⟩ 1).add 17)=some (.int .i64 t.p.bits):=by
 rw[aA,aA,h.cell];show(t.p.c++_)[17]? =_;rw[u0 (by rw[br.ba];decide),br.c,hL (by rw[bc.ba];decide),bc.ba];rfl
theorem nu(t:aB)(w:J):aH aj 86 #[.agg t.c.toArray] w (λv w'=>v=t.ep/\Ext w w'):=by
 refine ae.IB _ w _ ?_;(delta ae.nu Y r1 h4 z9 bP ak;dsimp only);refine a6 (vs:=t.c) rfl λw1 e o x=>⟨_,J1 e,_,J2 e,(p4 t.p.addr t.p.bits w1).use ?_⟩;rintro _ y ⟨rfl,f⟩;refine⟨_,_,rfl,a6 (vs:=br.zero.c) rfl λz j k A=>⟨j.ct (by simp[br.ba]) (br.plain _),by simp[br.ba],cP j (us:=((gA t.p.addr t.p.bits).getD br.zero).c) (by simp[br.ba]) rfl λa r l _=>?_⟩⟩;have n:=o.trans f;have u:Ext w a:=Ext.cp (n.trans k) l n.size;have g:=((e.ext f).ext k).ah l (U4 ((e.ext f).lt));refine⟨_,g.cell,(p5 t.s a).use ?_⟩;rintro _ _ ⟨rfl,rfl⟩;refine⟨_,rfl,cc (λb w'=>b=(fU t.s&&fU t.b)/\a=w') (λq d=>⟨λh=>⟨_,uj g,(p5 t.b a).use ?_⟩,λh=>d _ _ ⟨by rw[h,kS],rfl⟩⟩) ?_⟩
 .rintro _ _ ⟨rfl,rfl⟩
  exact⟨_,rfl,d _ _ ⟨by rw[h,hX],rfl⟩⟩
 rintro _ _ ⟨rfl,rfl⟩;refine cc (λb w'=>b=t.ep/\a=w') (λq d=>⟨λh=>⟨_,r.rd (br.ba _),_,mb g,_,Al _ _,d _ _ ⟨?_,rfl⟩⟩,λh=>d _ _ ⟨?_,rfl⟩⟩) ?_
 .rw[dg,dg]at h
  unfold aB.ep df;rw[h.1.1,h.1.2,qI,qI]
  cases i:gA t.p.addr t.p.bits with
  |none=>rw[i]at h;cases h.2
  |some m=>simp
 .unfold aB.ep df
  cases i:gA t.p.addr t.p.bits with
  |none=>simp
  |some m=>
   rw[i]at h;have h:(fU t.s&&fU t.b)=false:=by simpa using h
   cases h1:fU t.s
   .simp
   .rw[h1,hX]at h;rw[h];simp
 .rintro _ _ ⟨rfl,rfl⟩
  exact⟨rfl,u⟩
end
theorem eE(h:Var w b vs T)(v:aa):Var (w.setCell ⟨b,i,none⟩ v) b (vs.set i v) T:=by
 have:=bu.set h i v;have e:vs.toArray.setIfInBounds i v=(vs.set i v).toArray:=by simp
 rw[e]at this;exact this
theorem ez(h:Var w b vs T)(hi:i<vs.length):(∃u:aa,w.cell? ⟨b,i,none⟩=some u)/\w.frozen? ⟨b,i,none⟩=false:=
 ⟨⟨vs[i],by rw[h.cell];simp[hi]⟩,bu.frozen h _ rfl⟩
theorem dU(w:J)(b i:Nat)(v:aa):ag (λq=>q=b) w (w.setCell ⟨b,i,none⟩ v):=ag.g8 (.refl _ _) v
structure j9(w:J)(r:Nat)(s:ad)(rd:Rd):Prop where
 v:Var w r [s,rd.2] 342
 src:Src 1 w s (aC rd.1)
 le:s.len<=s.cap
 ne:∀k,aD s k->k≠r
theorem j9.ah(h:j9 w r s rd)(hc:ag W w w')(h1:¬W r)(h2:∀k,aD s k->¬W k):j9 w' r s rd:=⟨h.v.ah hc h1,h.src.ah hc h2,h.le,h.ne⟩
theorem j9.ext(h:j9 w r s rd)(hc:Ext w w'):j9 w' r s rd:=j9.ah h hc id λ_ _ h=>h
theorem ym{a:au af}{z l m n c:Nat}(h:aD ⟨a7 a z l m,n,c⟩ k):∃A,a=some A/\A.block=k:=by
 obtain⟨A,av,rfl⟩:=h;unfold a7 at av;split at av
 .exact⟨A,av,rfl⟩
 .cases b:a with
  |none=>rw[b]at av;cases av
  |some d=>
   rw[b]at av;simp only[mq,Option.some.injEq]at av;exact⟨d,rfl,by subst av;unfold Addr.add;split<;>rfl⟩
theorem Eh(h:j9 w r s rd)(k:Nat)(z:k<=100000)(u:rd.1.length<=100000):
 aH aj 274 #[.pointer (some r),k] w (λv w'=>∃t m:ad,v=t/\bI (λq=>w<=q) w' t (iI rd k).1/\j9 w' r m (iI rd k).2/\ag (λq=>q=r) w w'/\(∀q,aD m q->aD s q)):=by
 obtain⟨l,ok⟩:=rd;have f:=h.v;have x:=len8 h.src;simp only at x u f;have aI:=f.lt;refine okF (ae.xP (some r) (k:Int)) ax.xP func274 ?_;(delta ae.xP aW ak al st bH;dsimp only);refine⟨_,rfl,ok,f.cell,cc (λb w'=>w=w'/\b=decide (ok=false\/l.length<k)) (λq c=>⟨λh1=>c _ _ ⟨rfl,?_⟩,λh1=>⟨_,rfl,s,f.cell,c _ _ ⟨rfl,?_⟩⟩⟩) ?_⟩
 .have h1:ok=false:=by simpa using h1
  exact(dh (.inl h1)).symm
 .have h1:ok=true:=by simpa using h1
  subst h1;rw[eG,b8,b8];constructor
  .intro h;exact .inr I
  .rintro(h|h)
   .cases h
   .omega
 rintro b w' ⟨rfl,rfl⟩;refine⟨λd=>⟨_,rfl,?_⟩,λd=>⟨_,rfl,s,f.cell,?_⟩⟩
 .have d:=b2 d
  obtain⟨ay,az⟩:=ez f (i:=1) U9;rw[aA];have hc:=dU w r 1 false;have e:iI (l,ok) k=([],(l,false)):=by unfold iI;rw[if_pos d]
  rw[e];refine⟨ay,az,aT ⟨⟨none,0,0⟩,s,rfl,⟨(aR.none 1 5 _).src,bk _,λq c=>(fH q c).elim⟩,⟨eE f _,h.src.ah hc λq c=>h.ne q c,h.le,h.ne⟩,hc,λq c=>c⟩⟩
 .have d:=cr d
  have e:iI (l,ok) k=(l.take k,(l.drop k,true)):=by unfold iI;rw[if_neg d]
  have C:k<=l.length:=by
   rcases dV l.length k with h1|h1
   .exact absurd (.inr h1) d
   .exact h1
  have y:ok=true:=by
   cases ok with
   |true=>rfl
   |false=>exact absurd (.inl rfl) d
  subst y;rw[e];have D:=h.le;refine⟨⟨I,I⟩,?_⟩;have n:=oP h.src h.le (lo:=0) (hi:=k) I I;rw[iV,m3]at n;rw[c2,m3];refine(mP (B:=λq=>w<=q) (s:=⟨a7 s.a 1 0 s.cap,k,s.cap-0⟩) n (by rw[cF];omega) (λq c=>c)).use ?_;rintro _ w1 ⟨t,rfl,ht,g,E⟩;have j:=f.ext g;obtain⟨ay,az⟩:=ez j (i:=0) U9;have hc:=dU w1 r 0 (.slice (a7 s.a 1 k s.cap) (s.len-k) (s.cap-k));have o:=oP (h.src.ext g) h.le (lo:=k) (hi:=s.len) I (bk _);rw[dO (l:=l.drop k) (by rw[eH];omega)]at o;have p:∀q,aD ⟨a7 s.a 1 k s.cap,s.len-k,s.cap-k⟩ q->q≠r:=λq c=>by
   obtain⟨A,av,d⟩:=ym c;exact h.ne q ⟨A,av,d⟩
  refine⟨t,rfl,_,rfl,s,j.cell,⟨I,I⟩,_,rfl,ay,az,aT ⟨t,⟨a7 s.a 1 k s.cap,s.len-k,s.cap-k⟩,rfl,bI.ah ht hc (λq c e=>by subst e;omega),⟨eE j _,o.ah hc λq c=>p q c,by show s.len-k<=s.cap-k;omega,p⟩,(ag.cX g).trans hc,λq c=>?_⟩⟩;obtain⟨A,av,d⟩:=ym c;exact⟨A,av,d⟩
theorem AX(h:j9 w r s rd)(k:Nat)(c:1<=k/\k<=2)(g:rd.1.length<=100000):
 aH aj 252 #[.pointer (some r),k] w (λv w'=>∃b:ad,v=.int .i64 ((rdNum rd k).1:Nat)/\j9 w' r b (rdNum rd k).2/\ag (λq=>q=r) w w'/\(∀q,aD b q->aD s q)):=by
 refine okF (ae.xL (some r) (k:Int)) ax.xL func252 ?_;delta ae.xL bH mG ar;refine(Eh h k I g).use ?_;rintro _ w1 ⟨t,b,rfl,ht,d,hc,e⟩;have hlen:(iI rd k).1.length=k\/(iI rd k).1=[]:=by
  unfold iI;split
  .exact .inr rfl
  .rename_i i
   left;rw[cF];have:¬rd.1.length<k:=λh=>i (.inr h);omega
 have f:=oH k (iI rd k).1;have j:256^k<=65536:=eO (u3 I c.2) (by decide);refine⟨t,rfl,?_⟩;obtain hlen|hlen:=hlen
 .refine(kE (a:=0) (k:=k) ht.1 ht.2.1 ⟨c.1,I⟩ I I).use ?_
  rintro _ _ ⟨rfl,rfl⟩;have f:=f hlen;rw[iV,dO I];refine⟨_,_,rfl,b,?_,d,hc,e⟩;rw[bq I I];unfold rdNum;rw[if_pos hlen]
 .refine(JO (k:=k) ht.1 I (by rw[hlen];simp;omega)).use ?_
  rintro _ _ ⟨rfl,rfl⟩;refine⟨_,_,rfl,b,?_,d,hc,e⟩;unfold rdNum;rw[if_neg (by rw[hlen];simp;omega)];rfl
theorem AY(rd:Rd)(k:Nat):(rdNum rd k).1<256^k:=by
 unfold rdNum;split
 .exact oH k _ (by assumption)
 .exact Nat.pow_pos I
theorem Ei(rd:Rd)(k:Nat):(iI rd k).2.1.length<=rd.1.length/\(iI rd k).1.length<=k:=by
 unfold iI;split
 .exact⟨bk _,cI _⟩
 .exact⟨by rw[eH];omega,by rw[cF];omega⟩
theorem yn(rd:Rd)(k:Nat):(rdNum rd k).2.1.length<=rd.1.length:=(Ei rd k).1
theorem Ej(rd:Rd):(kH rd).2.1.length<=rd.1.length/\(kH rd).1.length<=255:=by
 unfold kH;have h1:=Ei (rdNum rd 1).2 (rdNum rd 1).1;have h2:=yn rd 1;have a:(rdNum rd 1).1<256:=AY rd 1;exact⟨I,I⟩
theorem Ek(h:j9 w r s rd)(d:rd.1.length<=100000):
 aH aj 253 #[.pointer (some r)] w (λv w'=>∃t b:ad,v=t/\bI (λq=>w<=q) w' t (kH rd).1/\j9 w' r b (kH rd).2/\ag (λq=>q=r) w w'/\(∀q,aD b q->aD s q)):=by
 refine okF (ae.xM (some r)) ax.xM func253 ?_;delta ae.xM bB bH;refine(AX h 1 I d).use ?_;rintro _ w1 ⟨s1,rfl,e,c,f⟩;have k:(rdNum rd 1).1<256:=AY rd 1;have l:=yn rd 1;refine⟨_,rfl,(Eh e (rdNum rd 1).1 I I).use ?_⟩;rintro _ ai ⟨t,s2,rfl,ht,g,i,j⟩;exact⟨t,rfl,t,s2,rfl,bI.bg ht λq _ a=>eO c.size a,g,c.trans i,λq a=>f q (j q a)⟩
theorem bD.bg(h:bD B w s ls)(a:∀k,k<w.heap.size->B k->C k):bD C w s ls:=by
 obtain⟨ts,h1,h2,e,b⟩:=h;exact⟨ts,h1,h2,In.bg e a,λi c d=>⟨bI.bg (b i c d).1 a,(b i c d).2⟩⟩
theorem cW.bg(h:cW B w s ds)(a:∀k,k<w.heap.size->B k->C k):cW C w s ds:=⟨h.1,In.bg h.2 a⟩
def Grow(B:U1)(w w':J)(q:Nat):Prop:=B q\/(w<=q/\q<w')
theorem yo{o:Nat}(d:Var w nb vs T)(p:o<vs.length)(f:bD B w S ls)(g:¬B nb)
 (ht:bI B w t l) (hd:∀k,aD t k->¬aD S k) (D:ls.length<=100000) {K:U2}
 (r:∀ (w':J) (aE:ad),Var w' nb (vs.set o aE) T->bD (Grow B w w') w' aE (ls++ [l])->ag (λq=>q=nb\/aD S q) w w'->K w'):
 an (w.alloc (.cells #[t] 39)) λi=>ag W w i/\∃j:ad,∃b:J,Sem.run aj (Builtin.append_ #[93,93] 93 #[S,.slice (some w) 1 1]) i=.ok j b/\
  (∃u:aa,b.cell? (Addr.add nb o)=some u)/\b.frozen? (Addr.add nb o)=false/\an (b.setCell (Addr.add nb o) j) λs=>K s:=by
 have v:=bD.bg (C:=λq=>B q\/w<=q) f λk _ h=>.inl h;have x:=bI.bg (C:=λq=>B q\/w<=q) ht λk _ h=>.inl h;obtain⟨c,w',ay,az,m,E⟩:=D_ v x hd I λk a=>.inr a;have F:=d.lt;have y:¬aD S nb:=λh=>by
  obtain⟨ts,_,_,z,_⟩:=f;exact g (z nb h).1
 have n:=d.ah m y;obtain⟨aZ,bo⟩:=ez n p;refine aT ⟨ag.cX (c5 _ _),c,w',ay,?_⟩;rw[aA,cA];have hc:=dU w' nb o c;refine⟨aZ,bo,aT (r _ c (eE n _) ?_ ?_)⟩
 .have A:=bD.bg (C:=Grow B w (w'.setCell ⟨nb,o,none⟩ c)) az λk a h=>by
   obtain h|h:=h
   .exact .inl h
   .exact .inr ⟨h,fO a hc.size⟩
  refine bD.ah A hc λk a e=>?_;subst e;obtain h|h:=a
  .exact g h
  .omega
 .exact(m.mono λk _ h=>.inr h).trans (hc.mono λk _ h=>.inl h)
theorem El{o:Nat}(d:Nat)(f:Var w nb vs T)(p:o<vs.length)(g:cW B w S ds)(i:¬B nb)
 (y:ds.length<=100000) {K:U2}
 (r:∀ (w':J) (aE:ad),Var w' nb (vs.set o aE) T->cW (Grow B w w') w' aE (ds++ [d])->ag (λq=>q=nb\/aD S q) w w'->K w'):
 an (w.alloc (.cells #[d] 3)) λj=>ag W w j/\∃l:ad,∃b:J,Sem.run aj (Builtin.append_ #[72,72] 72 #[S,.slice (some w) 1 1]) j=.ok l b/\
  (∃u:aa,b.cell? (Addr.add nb o)=some u)/\b.frozen? (Addr.add nb o)=false/\an (b.setCell (Addr.add nb o) l) λs=>K s:=by
 have t:=cW.bg (C:=λq=>B q\/w<=q) g λk _ h=>.inl h;obtain⟨c,w',ay,az,m,z⟩:=JW d t I λk a=>.inr a;have A:=f.lt;have v:¬aD S nb:=λh=>i (g.2 nb h).1;have n:=f.ah m v;obtain⟨aZ,bo⟩:=ez n p;refine aT ⟨ag.cX (c5 _ _),c,w',ay,?_⟩;rw[aA,cA];have hc:=dU w' nb o c;refine⟨aZ,bo,aT (r _ c (eE n _) ?_ ?_)⟩
 .have x:=cW.bg (C:=Grow B w (w'.setCell ⟨nb,o,none⟩ c)) az λk a h=>by
   obtain h|h:=h
   .exact .inl h
   .exact .inr ⟨h,fO a hc.size⟩
  refine cW.ah x hc λk a e=>?_;subst e;obtain h|h:=a
  .exact i h
  .omega
 .exact(m.mono λk _ h=>.inr h).trans (hc.mono λk _ h=>.inl h)
structure k5(lo:Nat)(w:J)(r nb:Nat)(s:ad)(m:aG×Rd)(K V D:ad)(bX cd bL:U1):Prop where
 v:Var w nb [m.1.leaf,K,V,D] 169
 rd:j9 w r s m.2
 keys:bD bX w K m.1.keys
 vals:bD cd w V m.1.vals
 kids:cW bL w D m.1.kids
 cm:∀q,bX q->lo<=q/\q<w/\¬cd q/\¬bL q
 bv:∀q,cd q->lo<=q/\q<w/\¬bL q
 aO:∀q,bL q->lo<=q/\q<w
 hs:∀q,aD s q->q<lo/\q≠nb
 qg:r<lo
 qh:nb<lo
 k6:r≠nb
 qi:m.2.1.length<=100000
def qj(lo r nb:Nat)(q:Nat):Prop:=q=r\/q=nb\/lo<=q
theorem k5.drew(h:k5 lo w r nb s m K V D bX cd bL):k5 lo w.drew r nb s m K V D bX cd bL:=
 ⟨h.v.ext (cw w),h.rd.ext (cw w),bD.ext h.keys (cw w),bD.ext h.vals (cw w),cW.ext h.kids (cw w),h.cm,h.bv,h.aO,h.hs,h.qg,h.qh,h.k6,h.qi⟩
theorem Em{leaf:ao}:∀ (s:aG×Rd) (i:Nat),s.1.leaf=leaf->(jf s i).1.leaf=leaf
 |_,0,h=>h
 |s,i+1,h=>by
  have a:=Em s i h
  rw[jf]
  unfold qd
  split
  .exact a
  .exact a
theorem En:∀ (s:aG×Rd) (i:Nat),(jf s i).1.keys.length=s.1.keys.length+i/\(jf s i).1.vals.length<=s.1.vals.length+i/\(jf s i).1.kids.length<=s.1.kids.length+i
 |_,0=>⟨rfl,bk _,bk _⟩
 |s,i+1=>by
  obtain⟨h1,h2,a⟩:=En s i
  rw[jf]
  unfold qd
  split<;>simp<;>omega
theorem J3(h:k5 lo w r nb s m K V D bX cd bL)(ab:lo<=w)(G:m.1.keys.length<=100000)
 (H:∀ (w':J) (l n:ad) (L:U1),k5 lo w' r nb n (⟨m.1.leaf,m.1.keys++ [(kH m.2).1],m.1.vals,m.1.kids⟩,(kH m.2).2) l V D L cd bL->ag (qj lo r nb) w w'->lo<=w'->R w'):
 an w.drew λp=>∃x:U1,¬x (Addr.add nb 1).block/\∃i:ad,p.cell? (Addr.add nb 1)=some (.slice i.a i.len i.cap)/\
  Calls aj 253 #[.pointer (some r)] p λM d=>∃C:ad,M=.returned C/\ag x p d/\
  an (d.alloc (.cells #[C] 39)) λE=>ag x d E/\∃F:ad,∃j:J,Sem.run aj (Builtin.append_ #[93,93] 93 #[i,.slice (some d) 1 1]) E=.ok F j/\
  (∃u:aa,j.cell? (Addr.add nb 1)=some u)/\j.frozen? (Addr.add nb 1)=false/\an (j.setCell (Addr.add nb 1) F) λN=>R N:=by
 have hd:=h.drew;have ac:=h.qg;have ae:=h.qh;obtain⟨b9,aZ,bo,bt⟩:=bT hd.v;refine aT ⟨λq=>q=r,λe=>h.k6 (by rw[aA]at e;exact e.symm),K,aZ,(Ek hd.rd hd.qi).use ?_⟩;rintro _ d ⟨t,n,rfl,ht,O,hc,y⟩;have af:w.drew.heap.size=w:=rfl;have P:=hc.size;have z:∀ {B:U1},(∀q,B q->lo<=q)->∀k,B k->¬(k=r):=λQ k c e=>U4 (Q k c)
 have S:=bD.ah hd.keys hc (z λq b=>(h.cm q b).1);have T:=bD.ah hd.vals hc (z λq b=>(h.bv q b).1);have U:=cW.ah hd.kids hc (z λq b=>(h.aO q b).1);have W:=hd.v.ah hc (λe=>h.k6 e.symm);refine⟨t,rfl,hc,yo (B:=Grow bX w.drew d) W (o:=1) U9 (bD.bg S λk _ h=>.inl h) ?_ (bI.bg ht λk c h=>.inr ⟨h,c⟩) ?_ G λw' l ay az f=>?_⟩
 .rintro(h1|h1)
  .have:=(h.cm nb h1).1;omega
  .omega
 .intro k X Y
  obtain⟨ts,_,_,A,_⟩:=h.keys;have:=(A k Y).2;have:=(ht.2.2 k X).1;omega
 have Z:∀q,Grow (Grow bX w.drew d) d w' q->bX q\/(w<=q/\q<w'):=by
  rintro q ((h1|h1)|h1)
  .exact .inl h1
  .exact .inr ⟨h1.1,fO h1.2 f.size⟩
  .exact .inr ⟨eO P h1.1,h1.2⟩
 have hg:=f.size;have g:∀q,aD K q->bX q:=λq b=>by
  obtain⟨ts,_,_,A,_⟩:=h.keys;exact(A q b).1
 refine H w' l n (λq=>bX q\/(w<=q/\q<w')) ⟨by simpa using ay,O.ah f ?_ ?_,bD.bg az λk _ c=>Z k c,bD.ah T f ?_,cW.ah U f ?_,?_,λq b=>?_,λq b=>?_,λq b=>h.hs q (y q b),h.qg,h.qh,h.k6,eO (Ej m.2).1 h.qi⟩ ?_ I
 .rintro(h1|h1)
  .exact h.k6 h1
  .have:=(h.cm r (g r h1)).1;omega
 .rintro q b (h1|h1)
  .exact(h.hs q (y q b)).2 h1
  .have:=(h.cm q (g q h1)).1
   have:=(h.hs q (y q b)).1;omega
 .rintro q b (h1|h1)
  .have:=(h.bv q b).1;omega
  .exact(h.cm q (g q h1)).2.2.1 b
 .rintro q b (h1|h1)
  .have:=(h.aO q b).1;omega
  .exact(h.cm q (g q h1)).2.2.2 b
 .rintro q (h1|h1)
  .have:=h.cm q h1;exact⟨this.1,I,this.2.2⟩
  .exact⟨I,h1.2,λh2=>U4 (h.bv q h2),λh2=>U4 (h.aO q h2)⟩
 .have:=h.bv q b;exact⟨this.1,I,this.2.2⟩
 .have:=h.aO q b;exact⟨this.1,I⟩
 .refine((ag.cX (cw w)).trans (hc.mono λk _ c=>.inl c)).trans (f.mono λk _ c=>?_)
  obtain c|c:=c
  .exact .inr (.inl c)
  .exact .inr (.inr (h.cm k (g k c)).1)
theorem J4(h:k5 lo w r nb s m K V D bX cd bL)(ab:lo<=w)(G:m.1.vals.length<=100000)
 (H:∀ (w':J) (l n:ad) (L:U1),k5 lo w' r nb n (⟨m.1.leaf,m.1.keys,m.1.vals++ [(kH m.2).1],m.1.kids⟩,(kH m.2).2) K l D bX L bL->ag (qj lo r nb) w w'->lo<=w'->R w'):
 an w.drew λp=>∃x:U1,¬x (Addr.add nb 2).block/\∃i:ad,p.cell? (Addr.add nb 2)=some (.slice i.a i.len i.cap)/\
  Calls aj 253 #[.pointer (some r)] p λM d=>∃C:ad,M=.returned C/\ag x p d/\
  an (d.alloc (.cells #[C] 39)) λE=>ag x d E/\∃F:ad,∃j:J,Sem.run aj (Builtin.append_ #[93,93] 93 #[i,.slice (some d) 1 1]) E=.ok F j/\
  (∃u:aa,j.cell? (Addr.add nb 2)=some u)/\j.frozen? (Addr.add nb 2)=false/\an (j.setCell (Addr.add nb 2) F) λN=>R N:=by
 have hd:=h.drew;have ac:=h.qg;have ae:=h.qh;obtain⟨b9,aZ,bo,bt⟩:=bT hd.v;refine aT ⟨λq=>q=r,λe=>h.k6 (by rw[aA]at e;exact e.symm),V,bo,(Ek hd.rd hd.qi).use ?_⟩;rintro _ d ⟨t,n,rfl,ht,O,hc,y⟩;have af:w.drew.heap.size=w:=rfl;have P:=hc.size;have z:∀ {B:U1},(∀q,B q->lo<=q)->∀k,B k->¬(k=r):=λQ k c e=>U4 (Q k c)
 have S:=bD.ah hd.keys hc (z λq b=>(h.cm q b).1);have T:=bD.ah hd.vals hc (z λq b=>(h.bv q b).1);have U:=cW.ah hd.kids hc (z λq b=>(h.aO q b).1);have W:=hd.v.ah hc (λe=>h.k6 e.symm);refine⟨t,rfl,hc,yo (B:=Grow cd w.drew d) W (o:=2) U9 (bD.bg T λk _ h=>.inl h) ?_ (bI.bg ht λk c h=>.inr ⟨h,c⟩) ?_ G λw' l ay az f=>?_⟩
 .rintro(h1|h1)
  .have:=(h.bv nb h1).1;omega
  .omega
 .intro k X Y
  obtain⟨ts,_,_,A,_⟩:=h.vals;have:=(A k Y).2;have:=(ht.2.2 k X).1;omega
 have Z:∀q,Grow (Grow cd w.drew d) d w' q->cd q\/(w<=q/\q<w'):=by
  rintro q ((h1|h1)|h1)
  .exact .inl h1
  .exact .inr ⟨h1.1,fO h1.2 f.size⟩
  .exact .inr ⟨eO P h1.1,h1.2⟩
 have hg:=f.size;have g:∀q,aD V q->cd q:=λq b=>by
  obtain⟨ts,_,_,A,_⟩:=h.vals;exact(A q b).1
 refine H w' l n (λq=>cd q\/(w<=q/\q<w')) ⟨by simpa using ay,O.ah f ?_ ?_,bD.ah S f ?_,bD.bg az λk _ c=>Z k c,cW.ah U f ?_,λq b=>?_,?_,λq b=>?_,λq b=>h.hs q (y q b),h.qg,h.qh,h.k6,eO (Ej m.2).1 h.qi⟩ ?_ I
 .rintro(h1|h1)
  .exact h.k6 h1
  .have:=(h.bv r (g r h1)).1;omega
 .rintro q b (h1|h1)
  .exact(h.hs q (y q b)).2 h1
  .have:=(h.bv q (g q h1)).1
   have:=(h.hs q (y q b)).1;omega
 .rintro q b (h1|h1)
  .have:=(h.cm q b).1;omega
  .exact(h.cm q b).2.2.1 (g q h1)
 .rintro q b (h1|h1)
  .have:=(h.aO q b).1;omega
  .exact(h.bv q (g q h1)).2.2 b
 .have:=h.cm q b
  refine⟨this.1,I,?_,this.2.2.2⟩;rintro(h1|h1)
  .exact this.2.2.1 h1
  .omega
 .rintro q (h1|h1)
  .have:=h.bv q h1;exact⟨this.1,I,this.2.2⟩
  .exact⟨I,h1.2,λh2=>U4 (h.aO q h2)⟩
 .have:=h.aO q b;exact⟨this.1,I⟩
 .refine((ag.cX (cw w)).trans (hc.mono λk _ c=>.inl c)).trans (f.mono λk _ c=>?_)
  obtain c|c:=c
  .exact .inr (.inl c)
  .exact .inr (.inr (h.bv k (g k c)).1)
theorem Eo(h:k5 lo w r nb s m K V D bX cd bL)(T:lo<=w)(A:m.1.kids.length<=100000)
 (C:∀ (w':J) (aF l:ad) (E:U1),k5 lo w' r nb l (⟨m.1.leaf,m.1.keys,m.1.vals,m.1.kids++ [(rdNum m.2 2).1]⟩,(rdNum m.2 2).2) K V aF bX cd E->ag (qj lo r nb) w w'->lo<=w'->R w'):
 an w.drew λn=>∃p:U1,¬p (Addr.add nb 3).block/\∃i:ad,n.cell? (Addr.add nb 3)=some (.slice i.a i.len i.cap)/\
  Calls aj 252 #[.pointer (some r),(2:Int)] n λF d=>∃n30:Int,F=.returned n30/\ag p n d/\
  an (d.alloc (.cells #[n30] 3)) λy=>ag p d y/\∃z:ad,∃j:J,Sem.run aj (Builtin.append_ #[72,72] 72 #[i,.slice (some d) 1 1]) y=.ok z j/\
  (∃u:aa,j.cell? (Addr.add nb 3)=some u)/\j.frozen? (Addr.add nb 3)=false/\an (j.setCell (Addr.add nb 3) z) λG=>R G:=by
 have hd:=h.drew;have U:=h.qg;have W:=h.qh;obtain⟨b9,aZ,bo,bt⟩:=bT hd.v;refine aT ⟨λq=>q=r,λe=>h.k6 (by rw[aA]at e;exact e.symm),D,bt,(AX hd.rd 2 (by decide) hd.qi).use ?_⟩;rintro _ d ⟨l,rfl,H,hc,t⟩;have X:w.drew.heap.size=w:=rfl;have L:=hc.size;have x:∀ {B:U1},(∀q,B q->lo<=q)->∀k,B k->¬(k=r):=λM k c e=>U4 (M k c)
 have N:=bD.ah hd.keys hc (x λq b=>(h.cm q b).1);have O:=bD.ah hd.vals hc (x λq b=>(h.bv q b).1);have P:=cW.ah hd.kids hc (x λq b=>(h.aO q b).1);have Q:=hd.v.ah hc (λe=>h.k6 e.symm);refine⟨_,rfl,hc,El (rdNum m.2 2).1 (B:=bL) Q (o:=3) U9 P (λh1=>U4 ((h.aO nb h1).1)) A λw' aF ay az f=>?_⟩;have S:∀q,Grow bL d w' q->bL q\/(w<=q/\q<w'):=by
  rintro q (h1|h1)
  .exact .inl h1
  .exact .inr ⟨eO L h1.1,h1.2⟩
 have hg:=f.size;have g:∀q,aD D q->bL q:=λq b=>(h.kids.2 q b).1;refine C w' aF l (λq=>bL q\/(w<=q/\q<w')) ⟨by simpa using ay,H.ah f ?_ ?_,bD.ah N f ?_,bD.ah O f ?_,cW.bg az λk _ c=>S k c,λq b=>?_,λq b=>?_,?_,λq b=>h.hs q (t q b),h.qg,h.qh,h.k6,eO (yn m.2 2) h.qi⟩ ?_ I
 .rintro(h1|h1)
  .exact h.k6 h1
  .have:=(h.aO r (g r h1)).1;omega
 .rintro q b (h1|h1)
  .exact(h.hs q (t q b)).2 h1
  .have:=(h.aO q (g q h1)).1
   have:=(h.hs q (t q b)).1;omega
 .rintro q b (h1|h1)
  .have:=(h.cm q b).1;omega
  .exact(h.cm q b).2.2.2 (g q h1)
 .rintro q b (h1|h1)
  .have:=(h.bv q b).1;omega
  .exact(h.bv q b).2.2 (g q h1)
 .have:=h.cm q b
  refine⟨this.1,I,this.2.2.1,?_⟩;rintro(h1|h1)
  .exact this.2.2.2 h1
  .omega
 .have:=h.bv q b
  refine⟨this.1,I,?_⟩;rintro(h1|h1)
  .exact this.2.2 h1
  .omega
 .rintro q (h1|h1)
  .have:=h.aO q h1;exact⟨this.1,I⟩
  .exact⟨I,h1.2⟩
 .refine((ag.cX (cw w)).trans (hc.mono λk _ c=>.inl c)).trans (f.mono λk _ c=>?_)
  obtain c|c:=c
  .exact .inr (.inl c)
  .exact .inr (.inr (h.aO k (g k c)).1)
def im:aG:=⟨false,[],[],[]⟩
def bM:ad:=⟨none,0,0⟩
def AZ(leaf:ao)(l:O UInt8)(w w':J)(v:aa):Prop:=
 (∃ (n:aG) (K V D:ad),v=.tuple #[dz n K V D,U8]/\mN leaf l n/\b7 (λq=>w<=q) w' n K V D)\/
 (v=.tuple #[dz im bM bM bM,(4:Int)]/\∀n,¬mN leaf l n)
theorem jL{h:Nat}(b:ao)(K V D:ad)(c:Var w' h vs 169)(g:vs.length=4){Q:ao->ad->ad->ad->U2}(j:∀ai,ag (λq=>q=h) w' ai->Q b K V D ai):
 bp w' h [b,K,V,D]/\(4:Nat)=4/\an (setCells w' h 0 [b,K,V,D]) λai=>
  ∃i:ao,ai.cell? h=some (.bool i)/\∃d:ad,ai.cell? (Addr.add h 1)=some (.slice d.a d.len d.cap)/\∃e:ad,ai.cell? (Addr.add h 2)=some (.slice e.a e.len e.cap)/\
   ∃f:ad,ai.cell? (Addr.add h 3)=some (.slice f.a f.len f.cap)/\Q i d e f ai:=by
 refine⟨c.ct (by rw[g];rfl) ?_,rfl,cP c (us:=[b,K,V,D]) (by rw[g];rfl) rfl λai k hc _=>?_⟩
 .intro v c
  simp only[cZ,e2,e_]at c;rcases c with rfl|rfl|rfl|rfl<;>trivial
 .obtain⟨b9,aZ,bo,bt⟩:=bT k
  exact⟨b,b9,K,aZ,V,bo,D,bt,j ai hc⟩
theorem rO{l:O UInt8}(hs:Src 1 w s (aC l))(hc:s.len<=s.cap)(T:∀k,aD s k->k<w)(am:l.length<=100000)(leaf:ao):
 aH aj 206 #[leaf,s] w (λv w'=>AZ leaf l w w' v/\Ext w w'):=by
 refine okF (ae.rO leaf s) ax.rO func206 ?_;(delta ae.rO z5 Y bB ak zR al st bH ar aW dH bP tu;dsimp only);refine a6 (vs:=[false,(),(),()]) rfl λw1 aQ an bC=>?_;refine a6 (vs:=[s,true]) rfl λai aS U bE=>?_;refine a6 (vs:=[false,(),(),()]) rfl λbF ap F bG=>?_;refine⟨ap.ct rfl (by
  intro v aq;simp only[cZ,e2,e_]at aq;rcases aq with rfl|rfl|rfl|rfl<;>trivial),rfl,cP ap (us:=[leaf,(),(),()]) rfl rfl λm aT G bI=>?_⟩
 obtain⟨lo,bJ⟩:=U6 m.heap.size;obtain⟨r,au⟩:=U6 w1.heap.size;obtain⟨nb,av⟩:=U6 ai.heap.size;have aU:Ext w m:=Ext.cp (an.trans (U.trans F)) G I;have aV:j9 m w1 s (l,true):=by
  refine⟨(aS.ext F).ah G I,(hs.ext (an.trans (U.trans F))).ah G λk c e=>?_,hc,λk c=>?_⟩
  .have:=T k c;omega
  .have:=T k c;omega
 refine(AX aV 1 (by decide) am).use ?_;rintro _ aw ⟨aB,rfl,aX,W,aY⟩;have bK:(rdNum (l,true) 1).1<256:=AY _ 1;have bN:=W.size;have aE:k5 lo aw r nb aB (⟨leaf,[],[],[]⟩,(rdNum (l,true) 1).2) bM bM bM (λ_=>False) (λ_=>False) (λ_=>False):=by
  refine⟨by rw[av];exact aT.ah W I,by rw[au];exact aX,bD.none _ _,bD.none _ _,cW.none _ _,λq h=>h.elim,λq h=>h.elim,λq h=>h.elim,λq a=>?_,I,I,I,eO (yn _ 1) am⟩;have:=T q (aY q a);exact⟨I,I⟩
 have aG:ag (qj lo r nb) m aw:=W.mono λk _ c=>.inl I;rw[←au,←av];refine⟨_,rfl,j2 (λw'=>∃ (u D:ad) (bL:U1),k5 lo w' r nb u (nA leaf (rdNum (l,true) 1).2) bM bM D (λ_=>False) (λ_=>False) bL/\ag (qj lo r nb) m w'/\lo<=w') (λq a=>⟨λd=>?_,λd=>a _ ⟨aB,bM,λ_=>False,?_,aG,I⟩⟩) ?_⟩
 .have d:leaf=false:=by simpa using d
  subst d;refine Eo aE I U9 λw' aF u a0 h1 h2 o=>a _ ⟨u,aF,a0,?_,aG.trans h2,o⟩;have:nA false (rdNum (l,true) 1).2=(⟨false,[],[],[]++ [(rdNum (rdNum (l,true) 1).2 2).1]⟩,(rdNum (rdNum (l,true) 1).2 2).2):=by simp[nA]
  rw[this];exact h1
 .have d:leaf=true:=by simpa using d
  subst d;exact aE
 rintro bO ⟨a1,a2,a3,aJ,a4,a5⟩;obtain⟨f,H⟩:=U6 (nA leaf (rdNum (l,true) 1).2);rw[←H]at aJ;have a7:f.1.leaf=leaf:=by rw[H];unfold nA;cases leaf<;>rfl
 have bQ:f.1.keys.length=0/\f.1.vals.length<=1/\f.1.kids.length<=1:=by rw[H];unfold nA;cases leaf<;>simp
 refine⟨λi w'=>∃ (j:Nat) (u K V D:ad) (bX cd bL:U1),i=j/\j<=(rdNum (l,true) 1).1/\k5 lo w' r nb u (jf f j) K V D bX cd bL/\ag (qj lo r nb) m w'/\lo<=w',λi _=>(((rdNum (l,true) 1).1:Int)-i).toNat,⟨0,a1,bM,bM,a2,_,_,a3,rfl,cI _,aJ,a4,a5⟩,?_⟩;rintro _ aK ⟨j,bR,K,V,D,bX,cd,bL,rfl,bU,g,L,a8⟩;obtain⟨a9,a_,ba⟩:=En f j;have x:=Em f j a7;refine⟨λaI=>?_,λX=>?_⟩
 .have aI:j<(rdNum (l,true) 1).1:=by have:=b2 aI;omega
  rw[bq (n:=(j:Int)+1) I I];refine j2 (λw'=>∃ (u K V D:ad) (bX cd bL:U1),k5 lo w' r nb u (jf f (j+1)) K V D bX cd bL/\ag (qj lo r nb) m w'/\lo<=w') (λq a=>?_) ?_
  .refine J3 g a8 I λy M cG N P R S=>⟨λd=>?_,λd=>?_⟩
   .refine J4 P S (by show(jf f j).1.vals.length<=_;omega) λZ bb aa bc B p ab=>a _ ⟨aa,M,bb,D,N,bc,bL,?_,L.trans (R.trans p),ab⟩
    rw[jf];unfold qd;rw[x,d,if_pos rfl];rw[x,d]at B;exact B
   .refine Eo P S (by show(jf f j).1.kids.length<=_;omega) λZ bd aa be B p ab=>a _ ⟨aa,M,V,bd,N,cd,be,?_,L.trans (R.trans p),ab⟩
    rw[jf];unfold qd;rw[x,d,if_neg U9];rw[x,d]at B;exact B
  .rintro y ⟨cG,M,bf,bh,N,bi,bj,P,R,S⟩
   refine⟨⟨j+1,cG,M,bf,bh,N,bi,bj,I,I,P,R,S⟩,?_⟩;show(((rdNum (l,true) 1).1:Int)-((j:Int)+1)).toNat<(((rdNum (l,true) 1).1:Int)-(j:Int)).toNat;omega
 .have X:j=(rdNum (l,true) 1).1:=by have:=cr X;omega
  have bl:jf f j=jv leaf l:=by rw[X,H];rfl
  rw[bl]at g a9 a_ ba x;obtain⟨b9,aZ,bo,bt⟩:=bT g.v;have dd:b7 (λq=>lo<=q) aK (jv leaf l).1 K V D:=⟨bW.bg (bD.k4 g.keys) λq _ a=>(g.cm q a).1,bW.bg (bD.k4 g.vals) λq _ a=>(g.bv q a).1,c9.bg (cW.sd g.kids) λq _ a=>(g.aO q a).1⟩;have bm:Ext w aK:=Ext.d_ aU L λk c=>by
   rcases c with c|c|c<;>omega
  refine⟨_,b9,K,aZ,V,bo,D,bt,(pY dd I I I).use ?_⟩;rintro bn y ⟨bp,C⟩;have ac:=bm.trans C;have br:=g.v.ext C;have bs:=g.rd.ext C;have aL:Var y w [false,(),(),()] 169:=by
   refine(Var.ah (w:=m) ?_ L ?_).ext C
   .exact(((aQ.ext U).ext F).ah G I)
   .rintro(c|c|c)<;>omega
  have bu:=dd.ext C;obtain⟨d0,d1,d2,d3⟩:=bT br;have bw:∃ (z:ad) (e:Int),bn=Value.tuple #[z,e]/\(e=0->aR 1 5 y z (aC (j7 (jv leaf l).1))/\cM (jv leaf l).1/\bS (jv leaf l).1<=232)/\(e≠0->cM (jv leaf l).1->232<bS (jv leaf l).1):=by
   rcases bp with ⟨z,rfl,h1,h2,o,A⟩|⟨e,rfl,h1,h2⟩
   .exact⟨z,0,rfl,λ_=>⟨h1,o,A⟩,λh=>absurd rfl h⟩
   .exact⟨bM,e,rfl,λh=>absurd h h1,λ_=>h2⟩
  obtain⟨z,e,rfl,bx,aM⟩:=bw;have bz:Src 1 y s (aC l):=hs.ext ac
  have aN:∀n,mN leaf l n->jv leaf l=(n,([],true)):=by
   rintro n ⟨h1,h2,o,A⟩;have:=AK h1 o;rw[h2,A]at this;exact this
  refine⟨z,e,rfl,_,rfl,(jv leaf l).2.2,by rw[aA];exact bs.v.cell,cc (λb w'=>y=w'/\(b=true->∀n,¬mN leaf l n)/\(b=false->mN leaf l (jv leaf l).1)) (λq a=>⟨λh1=>a _ _ ⟨rfl,λ_ n E=>?_,nofun⟩,λh1=>?_⟩) ?_⟩
  .have hu:=aN n E
   obtain⟨h2,o,A,aP⟩:=E;rw[hu]at h1 aM;have h1:(e !=0)=true:=by simpa using h1
   have bV:232<bS n:=aM (by simpa using h1) h2;omega
  .have bA:(jv leaf l).2.2=true/\e=0:=by
    simp only[qH,m7,bne_eq_false_iff_eq]at h1;exact h1
   obtain⟨h2,rfl⟩:=bA;obtain⟨o,A,aP⟩:=bx rfl;refine(pK o.src bz).use ?_;rintro _ _ ⟨rfl,rfl⟩;refine⟨_,rfl,a _ _ ⟨rfl,λt n E=>?_,λt=>?_⟩⟩
   .have hu:=aN n E
    have t:¬j7 (jv leaf l).1=l:=by simpa using t
    rw[hu]at t;exact t E.2.2.2
   .have t:j7 (jv leaf l).1=l:=by simpa using t
    exact⟨A,x,aP,t⟩
  rintro b w' ⟨rfl,ay,az⟩;refine⟨λaf=>?_,λaf=>⟨_,d0,K,d1,V,d2,D,d3,?_⟩⟩
  .refine jL false bM bM bM aL rfl (Q:=λb K V D ai=>(λv w'=>AZ leaf l w w' v/\Ext w w') (.tuple #[.agg #[b,K,V,D],(4:Int)]) ai) λZ p=>⟨.inr ⟨rfl,ay af⟩,Ext.cp ac p (bk _)⟩
  .refine jL (jv leaf l).1.leaf K V D aL rfl (Q:=λb K V D ai=>(λv w'=>AZ leaf l w w' v/\Ext w w') (.tuple #[.agg #[b,K,V,D],U8]) ai) λZ p=>⟨.inl ⟨(jv leaf l).1,K,V,D,rfl,az af,?_⟩,Ext.cp ac p (bk _)⟩
   exact(bu.ah p λk c e=>I).bg λk _ c=>by omega
theorem J5{v:ad}{xs:O aa}{nf:Nat}{al:Array aa}{am:TypeId}(H:aR 1 39 w s vs)(N:Src 1 w v xs)(g:v.len=1)(an:v.a=some ⟨nf,0,none⟩)(T:bu w nf al am)(ao:¬aD s nf)
 (U:∀u∈xs,Plain u) (aO:∀u∈vs,Plain u) (hi:i<=s.len) (a_:s.len<=1000000):
 aH aj 200 #[s,.int .i64 (i:Int),v] w (λu w'=>∃z:ad,u=z/\aR 1 39 w' z (vs.take (i*1)++xs++vs.drop (i*1))/\z.len=s.len+1/\ag (aD s) w w'/\(∀k,aD z k->aD s k\/w<=k)):=by
 obtain⟨h1,ba,bb,h2,ap,aP,aQ,E,aq,aS⟩:=(se).out;obtain⟨d0,K⟩:=kV _ ap;refine okF (ae.wA s i v) ax.wA func200 ?_;delta ae.wA ak ar fI;have bc:=H.2.1;have bd:=H.2.2.1;have be:maxLen=9223372036854775807:=rfl;have p:xs.length=1:=by have:=N.len;rw[g]at this;omega
 have V:=H.1;refine⟨⟨I,I⟩,λh=>by rw[g]at h;simp at h,λ_=>⟨λh=>?_,λh=>?_⟩⟩
 .have aU:i=s.len:=U4 (eq_of_beq h)
  subst aU;obtain⟨z,w',ay,az,X,Q,F⟩:=(se).append (cB:=93) N H U (by rw[g];omega);refine⟨z,w',ay,z,rfl,?_,by rw[X,g],Q,F⟩;rwa[dO I,uX I,fp]
 have aI:i<s.len:=by
  have h:¬((i:Int)=(s.len:Int)):=λe=>by rw[e]at h;simp at h
  omega
 obtain⟨_,hc⟩|⟨b,c,r,G,au,aw⟩:=H.2.2.2
 .omega
 have aV:b≠nf:=λe=>ao ⟨_,r,e⟩;have aW:IntKind.wrap .i64 ((s.len:Int)+(v.len:Int))=((s.len+1:Nat):Int):=by rw[g,bq I I];rfl
 have aX:IntKind.wrap .i64 ((i:Int)+(v.len:Int))=((i+1:Nat):Int):=by rw[g,bq I I];rfl
 have aY:IntKind.wrap .i64 (((s.len+1:Nat):Int)-(i:Int))=((s.len+1-i:Nat):Int):=by rw[bq I I];omega
 have bf:c.toList.length=s.cap*1:=by simpa using au
 have aA:∀k,k<=s.len->vs.take (k*1)=c.toList.take (k*1):=λk d=>by rw[←aw,pc,iX I]
 have aB:vs.drop (i*1)=(c.toList.drop (i*1)).take ((s.len-i)*1):=by rw[←aw,List.drop_take,show s.len*1-i*1=(s.len-i)*1 from I]
 have aC:∀u∈vs.drop (i*1),Plain u:=λu hu=>aO u (fZ hu);have B:(vs.drop (i*1)).length=(s.len-i)*1:=by rw[eH,V];omega
 have L:∀ (Y o l m:Nat),l<m->a7 (some (Addr.mk Y o none)) 1 l m=some ⟨Y,o+l*1,none⟩:=λY o l m bg=>nk I;simp only[aW,aX,aY,c2,m3,zJ];refine⟨λhg=>?_,λhg=>?_⟩
 .have bh:s.cap<s.len+1:=U4 (b2 hg)
  have aZ:Src 1 w ⟨some b,i,s.cap⟩ (vs.take (i*1)):=by
   have:=G.tn (sz:=1) (o:=0) (n:=i) (cap:=s.cap) I;rw[iV]at this;rwa[aA i I]
  obtain⟨j,zs,rest,ay,az,X,Q,F⟩:=HL (P:=aj) (gT:= #[93,3]) (cB:=93) (kW:=3) (k:=.i64) (s:=⟨some b,i,s.cap⟩) (n:=s.len+1-i) rfl rfl h1 U3 h2 ap aP aQ E (aq▸aS) aZ (by show s.cap<i+_;omega) (by rw[aq];show(2*(i+_)+1000)*_<=_;omega);have a0:i+(s.len+1-i)=s.len+1:=I
  simp only[a0]at ay Q F;obtain⟨C,Z⟩:=U6 ((vs.take (i*1)++zs++rest).toArray);rw[←Z]at F;obtain⟨D,ab⟩:=U6 (w.drew.alloc (.cells C 39));rw[←ab]at F;have aE:bu D w C 39:=by rw[ab];exact bu.new w.drew _ _
  have aF:Ext w D:=by rw[ab];exact ag.alloc (ag.drew (.refl _ _)) _
  have f:(vs.take (i*1)).length=i*1:=by rw[cF,V];omega
  have aG:C.size=j*1:=by rw[Z];simp[f,X,Q];omega
  have bi:C.toList.length=j*1:=by simpa using aG
  have M:=vO (P:=aj) (np:=93) (cS:=93) (ty:=3) (A:=⟨w,0+i*1,none⟩) (dl:=s.len+1-i) (pF:=j-i) (n:=1) h1 K E (x:=v) (by rw[g];exact iX I) (xs:=xs) (by have:=N.ext aF;have e:(⟨v.a,1,v.cap⟩:ad)=v:=(by rw[←g]);rw[e];exact this) (by rw[cA];exact aE.ct _ _ I U);obtain⟨t,ac⟩:=U6 (setCells D ⟨w,0+i*1,none⟩ 0 xs);rw[←ac]at M;have aJ:bu t w (gV C (i*1) xs) 39:=by rw[ac,cA];exact aE.kB xs
  have a1:Ext w t:=by rw[ac];exact Ext.d_ aF (ag.kA (.refl _ _) xs 0) (λk d=>by subst d;exact bk _)
  have a2:Ext t t.drew:=ag.drew (.refl _ _);have aK:=Ext.trans a1 a2;have af:=vO (P:=aj) (w:=t.drew) (np:=93) (cS:=93) (ty:=3) (A:=⟨w,0+(i+1)*1,none⟩) (dl:=s.len+1-(i+1)) (pF:=j-(i+1)) (n:=s.len-i) h1 K E (x:=⟨some ⟨b,0+i*1,none⟩,s.len-i,s.cap-i⟩) (iX (by show s.len-i<=_;omega)) (xs:=vs.drop (i*1))
   (by have:=(G.ext aK).tn (sz:=1) (o:=i*1) (n:=s.len-i) (cap:=s.cap-i) I;rw[aB,cA];exact this) (by rw[cA];exact bu.ct (bu.drew aJ) _ _ (by rw[ja];omega) aC)
  have R:a7 (some (Addr.mk w 0 none)) 1 i j=some ⟨w,0+i*1,none⟩:=L _ _ _ _ I;have S:a7 (some (Addr.mk w 0 none)) 1 (i+1) j=some ⟨w,0+(i+1)*1,none⟩:=L _ _ _ _ I;have a3:a7 s.a 1 i s.cap=some ⟨b,0+i*1,none⟩:=by rw[r];exact L _ _ _ _ I
  have a4:Sem.run aj (Builtin.append_ #[93,3] 93 #[.slice s.a i s.cap,.int .i64 ((s.len+1-i:Nat):Int)]) w=.ok (.slice (some w) (s.len+1) j) D:=by rw[r];exact F
  refine⟨⟨I,I⟩,⟨some w.heap.size,s.len+1,j⟩,D,a4,⟨I,by show(i:Int)<=((s.len+1:Nat):Int);omega⟩,_,t,by rw[R];exact M,aT ⟨⟨I,by show((i+1:Nat):Int)<=((s.len+1:Nat):Int);omega⟩,⟨I,I⟩,_,_,by rw[S,a3];exact af,⟨some w.heap.size,s.len+1,j⟩,rfl,?_,rfl,?_,?_⟩⟩
  .refine aR.mk' ((bu.drew aJ).kB (o:=0+(i+1)*1) _) (by simp[f,p,B];omega) I I (by rw[ja,ja,aG]) ?_
   rw[l1 _ _ _ (by rw[ja];omega),l1 _ _ _ I];have t1:C.toList.take (i*1)=vs.take (i*1):=by rw[Z,sR,cO];exact pe f
   have t2:(C.toList.take (i*1)++xs++C.toList.drop (i*1+xs.length)).take (0+(i+1)*1)=vs.take (i*1)++xs:=by
    rw[t1,m8 (by simp[f,p];omega),dO (by simp[f,p];omega)]
   rw[t2,m8 (by simp[f,p,B];omega),dO (by simp[f,p,B];omega)]
  .exact ag.cX (Ext.d_ aK (ag.kA (.refl _ _) _ 0) (λk d=>by subst d;exact bk _))
  .rintro k ⟨A,av,d⟩
   cases av;exact .inr (Nat.le_of_eq d)
 .have bj:s.len+1<=s.cap:=U4 (cr hg)
  have R:a7 s.a 1 (i+1) s.cap=some ⟨b,0+(i+1)*1,none⟩:=by rw[r];exact L _ _ _ _ I
  have S:a7 s.a 1 i s.cap=some ⟨b,0+i*1,none⟩:=by rw[r];exact L _ _ _ _ I
  have a5:Sem.run aj (callFunc 248 #[v,.slice (some ⟨b,0+(i+1)*1,none⟩) (s.len+1-(i+1)) (s.cap-(i+1))]) w=.ok (.value false) w:=by
   rw[an,run_callFunc_extern (e:=Extern.SlicesOverlaps.overlaps #[93,93] #[4]) func248 U3 U3 U3 U3];have:=Lib.run_overlaps_apart (P:=aj) w 93 4 39 h1 1 (λw=>by have:=iA (w:=w) K;rwa[E]at this) nf ⟨b,0+(i+1)*1,none⟩ v.len v.cap (s.len+1-(i+1)) (s.cap-(i+1)) (λe=>aV e.symm) am 39 al.size c.size
    (by have:=T;unfold bu at this;simp[World.shape?,this]) (by have:=G;unfold bu at this;simp[World.shape?,this]) I (T.frozen _ rfl) (T.frozen _ rfl)
   rw[this];rfl
  have M:=vO (P:=aj) (w:=w.drew) (np:=93) (cS:=93) (ty:=3) (A:=⟨b,0+(i+1)*1,none⟩) (dl:=s.len+1-(i+1)) (pF:=s.cap-(i+1)) (n:=s.len-i) h1 K E (x:=⟨some ⟨b,0+i*1,none⟩,s.len+1-i,s.cap-i⟩) ((Nat.min_eq_right (by show _<=s.len+1-i;omega)).trans I) (xs:=vs.drop (i*1))
   (by have:=(bu.drew G).tn (sz:=1) (o:=i*1) (n:=s.len-i) (cap:=s.cap-i) I;rw[aB,cA];exact this) (by rw[cA];exact bu.ct (bu.drew G) _ _ I aC)
  obtain⟨y,ai⟩:=U6 (setCells w.drew ⟨b,0+(i+1)*1,none⟩ 0 (vs.drop (i*1)));rw[←ai]at M;have aL:bu y b (gV c ((i+1)*1) (vs.drop (i*1))) 39:=by rw[ai,cA];exact(bu.drew G).kB _
  have aM:ag (aD s) w y:=by
   rw[ai];exact ag.mono (W:=λq=>q=b) (ag.kA (ag.drew (.refl _ _)) _ 0) (λk _ d=>⟨_,r,d.symm⟩)
  have a6:Src 1 y v xs:=N.ah aM (λk d a8=>by obtain⟨A,av,rfl⟩:=d;rw[an]at av;cases av;exact ao a8);have af:=vO (P:=aj) (w:=y) (np:=93) (cS:=93) (ty:=3) (A:=⟨b,0+i*1,none⟩) (dl:=s.len+1-i) (pF:=s.cap-i) (n:=1) h1 K E (x:=v) (by rw[g];exact iX I) (xs:=xs) (by have e:(⟨v.a,1,v.cap⟩:ad)=v:=(by rw[←g]);rw[e];exact a6) (by rw[cA];exact aL.ct _ _ (by rw[ja];omega) U);refine⟨⟨I,I⟩,⟨I,I⟩,false,w,by rw[R];exact a5,λ_=>aT ⟨⟨I,I⟩,⟨I,I⟩,_,y,by rw[R,S];exact M,⟨I,I⟩,_,_,by rw[S];exact af,⟨s.a,s.len+1,s.cap⟩,rfl,?_,rfl,?_,λk d=>.inl d⟩,λh=>by simp at h⟩
  .have aN:aR 1 39 (setCells y ⟨b,0+i*1,none⟩ 0 xs) ⟨some b,s.len+1,s.cap⟩ (vs.take (i*1)++xs++vs.drop (i*1)):=by
    have f:(vs.take (i*1)).length=i*1:=by rw[cF,V];omega
    refine aR.mk' (aL.kB (o:=0+i*1) _) (by simp[f,p,B];omega) I I (by rw[ja,ja,au]) ?_;rw[l1 _ _ _ (by rw[ja];omega),l1 _ _ _ I];have t1:(c.toList.take ((i+1)*1)++vs.drop (i*1)++c.toList.drop ((i+1)*1+(vs.drop (i*1)).length)).take (0+i*1)=vs.take (i*1):=by
     rw[cA,m8 (by simp[B];omega),m8 (by simp;omega),pc,aA i I,iX I]
    have t2:(c.toList.take ((i+1)*1)++vs.drop (i*1)++c.toList.drop ((i+1)*1+(vs.drop (i*1)).length)).drop (0+i*1+xs.length)=vs.drop (i*1)++c.toList.drop ((i+1)*1+(vs.drop (i*1)).length):=by
     have a9:(c.toList.take ((i+1)*1)).length=0+i*1+xs.length:=by simp;omega
     rw[cO,←a9,List.drop_left]
    rw[t1,t2,←cO,m8 (by simp[f,p,B];omega),dO (by simp[f,p,B];omega)]
   rw[←r]at aN;exact aN
  .exact aM.trans (ag.mono (W:=λq=>q=b) (ag.kA (.refl _ _) _ 0) (λk _ d=>⟨_,r,d.symm⟩))
theorem J6(m:aR 1 39 w s vs)(M:∀u∈vs,Plain u)(N:∀z,(Tryz.prog.info? 39).bind (·.zero)=some z->∀u∈z.cells.toList,Plain u)(hi:i<s.len)(an:s.len<=1000000):
 aH aj 184 #[s,.int .i64 (i:Int),.int .i64 ((i+1:Nat):Int)] w (λu w'=>∃p:ad,u=p/\aR 1 39 w' p (vs.take (i*1)++vs.drop ((i+1)*1))/\p.len=s.len-1/\p.a=s.a/\ag (aD s) w w'):=by
 obtain⟨h1,ao,d,h2,Q,C,D,R,ap,aq⟩:=(se).out;obtain⟨d0,S⟩:=kV _ Q;refine okF (ae.wz s i ((i+1:Nat):Int)) ax.wz func184 ?_;(delta ae.wz ak bO;dsimp only);have ar:=m.2.1;have U:=m.2.2.1;have E:=m.1;obtain⟨_,hc⟩|⟨b,c,f,V,F,G⟩:=m.2.2.2
 .omega
 have au:c.toList.length=s.cap*1:=by simpa using F
 simp only[c2,m3,zJ];have X:vs.drop ((i+1)*1)=(c.toList.drop ((i+1)*1)).take ((s.len-(i+1))*1):=by rw[←G,List.drop_take,show s.len*1-(i+1)*1=(s.len-(i+1))*1 from I]
 have e:(vs.drop ((i+1)*1)).length=(s.len-(i+1))*1:=by rw[eH,E];omega
 have Y:vs.take (i*1)=c.toList.take (i*1):=by rw[←G,pc,iX I]
 have l:(vs.take (i*1)).length=i*1:=by rw[cF,E];omega
 have Z:∀u∈vs.drop ((i+1)*1),Plain u:=λu hu=>M u (fZ hu);have t:bu w.drew b c 39:=bu.drew V;have ab:Src 1 w.drew ⟨a7 s.a 1 (i+1) s.cap,s.len-(i+1),s.cap-(i+1)⟩ (vs.drop ((i+1)*1)):=by
  by_cases he:i+1=s.cap
  .have v:s.len-(i+1)=0:=I
   refine⟨by rw[e],λ_=>mo.1 (by rw[e,v,qJ]),λa _=>?_⟩;have:vs.drop ((i+1)*1)=[]:=mo.1 (by rw[e,v,qJ]);rw[this];show bf _ _ 0 ((s.len-(i+1))*1)=_;rw[v,qJ];rfl
  .rw[f,nk I,X,cA]
   exact t.tn I
 have x:=zv (P:=aj) (gT:= #[93,93]) (cB:=93) (s:=⟨s.a,i,s.cap⟩) rfl rfl h1 h1 S R ab (by show i+(s.len-(i+1))<=s.cap;omega) (λa r=>by
  have r:s.a=some a:=r;rw[f]at r;cases r;rw[aA,cA];exact t.ct _ _ (by show i*1+_<=_;omega) Z)
 have ac:i+(s.len-(i+1))=s.len-1:=I
 simp only[f,aA,cA,ac]at x;obtain⟨g,y⟩:=U6 (setCells w.drew ⟨b,i*1,none⟩ 0 (vs.drop ((i+1)*1)));rw[←y]at x;have H:bu g b (gV c (i*1) (vs.drop ((i+1)*1))) 39:=by rw[y];exact t.kB _
 have af:ag (aD s) w g:=by
  rw[y];exact ag.mono (W:=λq=>q=b) (ag.kA (ag.drew (.refl _ _)) _ 0) (λk _ B=>⟨_,f,B.symm⟩)
 obtain⟨zs,av,ah⟩:=HM (P:=aj) (w:=g) (T:=93) (o:=0) (n:=1) (c:=s.cap-(s.len-1)) (A:=⟨b,(s.len-1)*1,none⟩) h1 h2 C D (by decide) (λzs K=>by
  refine H.ct _ _ (by rw[K,ja];simp[Builtin.zeroCells,D];omega) λu hu=>?_;rw[K]at hu;simp only[Builtin.zeroCells,Array.toList_map,eJ]at hu;obtain⟨j,L,rfl⟩:=hu;have L:j<1*d.cells.size:=by simpa using L
  have ai:j%d.cells.size<d.cells.size:=hG _ I;have hg:d.cells[j%d.cells.size]! =d.cells[j%d.cells.size]:=getElem!_pos d.cells (j%d.cells.size) ai;rw[hg];exact N d (h2▸C) _ U9)
 have al:a7 (some (Addr.mk b 0 none)) 1 (s.len-1) s.cap=some ⟨b,(s.len-1)*1,none⟩:=by rw[nk I,cA]
 have am:s.len-(s.len-1)=1:=I
 refine⟨⟨I,I⟩,⟨I,I⟩,⟨I,I⟩,λh=>?_,λ_=>aT ⟨⟨I,I⟩,⟨I,I⟩,⟨some b,s.len-1,s.cap⟩,g,by rw[f];exact x,⟨I,by show(s.len:Int)<=(s.cap:Int);omega⟩,⟨I,by show((s.len-1:Nat):Int)<=(s.len:Int);omega⟩,_,_,by rw[am,al];exact ah,⟨some b,s.len-1,s.cap⟩,rfl,?_,rfl,f.symm,?_⟩⟩
 .have:=eq_of_beq h;omega
 .refine aR.mk' (H.kB _) (by simp[l,e];omega) I U (by rw[ja,ja,F]) ?_
  rw[l1 _ _ _ (by rw[ja];omega),l1 _ _ _ I];have t1:(c.toList.take (i*1)++vs.drop ((i+1)*1)++c.toList.drop (i*1+(vs.drop ((i+1)*1)).length)).take ((s.len-1)*1)=vs.take (i*1)++vs.drop ((i+1)*1):=by
   rw[←Y,m8 (by simp[l,e];omega),dO (by simp[l,e];omega)]
  rw[t1,cO,m8 (by simp[l,e];omega),dO (by simp[l,e];omega)]
 .exact af.trans (ag.mono (W:=λq=>q=b) (ag.kA (.refl _ _) _ 0) (λk _ B=>⟨_,f,B.symm⟩))
theorem um(h:Src 1 w s (ej ds))(g:ds.length<=1000000):
 aH aj 228 #[s] w (λv w'=>∃b:ad,v=b/\aR 1 3 w' b (ej ds)/\Ext w w'/\g0 w b):=by
 have i:s.len=ds.length:=by have:=h.len;rw[oQ]at this;omega
 refine okF (ae.wE s) ax.wE func228 ?_;delta ae.wE ak Y;refine⟨λc=>?_,λ_=>?_⟩
 .have c:s.a=none:=by simpa using c
  rw[h.nil c];exact⟨⟨none,0,0⟩,rfl,aR.none _ _ _,.refl _ _,λk d=>(fH k d).elim⟩
 .obtain⟨b,w',h1,h2,j,e,f,_⟩:=qf.clone (cB:=72) h (AO ds) I
  exact aT ⟨b,w',h1,b,rfl,h2,e,f⟩
theorem J7{k:Key}{a:Nat}(d:a<=ks.length)(h1:∀ (j:Nat) (h:j<ks.length),j<a->bF ks[j] k)(h2:∀ (j:Nat) (h:j<ks.length),a<=j->¬bF ks[j] k):cT ks k=a:=by
 unfold cT;rcases dV a ks.length with h|h
 .exact(List.findIdx_eq h).2 ⟨dh (h2 a h (bk _)),λj b=>gS λc=>c (h1 j I b)⟩
 .have:a=ks.length:=I
  subst this;refine List.findIdx_eq_length_of_false λx hx=>?_;obtain⟨j,b,rfl⟩:=fe hx;exact gS λc=>c (h1 j b b)
def iq(ks:O Key)(k:Key):ao:=decide (ks[cT ks k]? =some k)
theorem J8{C:U1}(hs:bW B w s ks)(ht:Src 1 w t (aC key))(x:ks.Pairwise bF)(N:ks.length<=100000):
 aH aj 223 #[s,t,.func (.func 219) #[] #[]] w (λv w'=>v=.tuple #[.int .i64 ((cT ks key:Nat):Int),.bool (iq ks key)]/\w=w'):=by
 refine okF (ae.wB s t ⟨219,#[],#[]⟩) ax.wB func223 ?_;(delta ae.wB ak ar al aO;dsimp only);have y:=bW.len hs;have o:hY aj 219:=⟨_,(n1 (show(Tryz.prog.funcs[219]?).isSome=true by kernel_rfl)).symm,by kernel_rfl,by kernel_rfl⟩;have aI:=λ{i j:Nat} (hi:i<j) (e:j<ks.length)=>lV.1 x i j I e hi;refine⟨λlo hi w'=>∃a b:Nat,lo=a/\hi=b/\a<=b/\b<=ks.length/\w=w'/\(∀ (j:Nat) (h:j<ks.length),j<a->bF ks[j] key)/\(∀ (j:Nat) (h:j<ks.length),b<=j->¬bF ks[j] key),λlo hi _=>(hi-lo).toNat,
  ⟨0,ks.length,rfl,by rw[y],cI _,bk _,rfl,λj _ h=>I,λj h h2=>I⟩,?_⟩
 rintro _ _ _ ⟨a,b,rfl,rfl,P,p,rfl,h1,h2⟩;have z:=HN (a:=a) (b:=b) I;refine⟨λh=>?_,λh=>?_⟩
 .have D:(a:Int)<(b:Int):=b2 h
  rw[z];obtain⟨m,E⟩:=U6 ((a+b)/2);rw[←E];have F:a<=m:=I
  have Q:m<b:=I
  obtain⟨A,t2,av,f,g,k,_⟩:=bW.at hs (i:=m) I;refine⟨by decide,A,av,f,t2,g,o,(lH k.1 ht).use ?_⟩;rintro _ _ ⟨rfl,rfl⟩;have G:IntKind.wrap .i64 ((m:Int)+1)=((m+1:Nat):Int):=by rw[bq I I];rfl
  refine⟨_,rfl,λhc=>?_,λhc=>?_⟩
  .have hc:bF ks[m] key:=b2 hc
   rw[G];have l:((b:Int)-((m+1:Nat):Int)).toNat<((b:Int)-(a:Int)).toNat:=I
   refine⟨⟨m+1,b,rfl,rfl,I,p,rfl,λj e H=>?_,h2⟩,l⟩;rcases dV j m with d|d
   .exact mK (aI d I) hc
   .have:j=m:=I
    subst this;exact hc
  .have hc:¬bF ks[m] key:=cr hc
   have l:((m:Int)-(a:Int)).toNat<((b:Int)-(a:Int)).toNat:=I
   refine⟨⟨a,m,rfl,rfl,F,I,rfl,h1,λj e H=>?_⟩,l⟩;rcases dV m j with d|d
   .exact λK=>hc (mK (aI d e) K)
   .have:j=m:=I
    subst this;exact hc
 .have L:¬(a:Int)<(b:Int):=cr h
  have M:b=a:=I
  subst M;have n:cT ks key=b:=J7 p h1 h2;refine cc (λc w'=>w=w'/\c=iq ks key) (λq r=>⟨λh=>?_,λh=>?_⟩) ?_
  .have D:(b:Int)<(s.len:Int):=b2 h
   have u:b<ks.length:=I
   obtain⟨A,t2,av,f,g,k,_⟩:=bW.at hs u;refine⟨A,av,f,t2,g,o,(lH k.1 ht).use ?_⟩;rintro _ _ ⟨rfl,rfl⟩;refine⟨_,rfl,r _ _ ⟨rfl,?_⟩⟩;unfold iq;rw[n,eG,b8,kq,dR u,Ji];exact⟨λh=>by rw[h],λh=>Option.some.inj h⟩
  .have L:¬(b:Int)<(s.len:Int):=cr h
   refine r _ _ ⟨rfl,?_⟩;unfold iq;rw[n,m9 I];simp
  .rintro _ _ ⟨rfl,rfl⟩
   exact⟨by rw[n],rfl⟩
theorem nr(h:b7 B w n K V D)(ht:Src 1 w t (aC key))(b:n.keys.Pairwise bF)(c:n.keys.length<=100000):
 aH aj 177 #[dz n K V D,t] w (λv w'=>v=.tuple #[.int .i64 ((cT n.keys key:Nat):Int),.bool (iq n.keys key)]/\Ext w w'):=by
 refine okF (ae.nr n.leaf K V D t) ax.nr func177 ?_;(delta ae.nr al Y lG;dsimp only);refine a6 (vs:=[n.leaf,K,V,D]) rfl λw1 d a _=>?_;obtain⟨b9,aZ,bo,bt⟩:=bT d;refine⟨K,aZ,(J8 (B:=B) (C:=B) (h.keys.ext a) (ht.ext a) b c).use ?_⟩;rintro _ _ ⟨rfl,rfl⟩;exact⟨_,_,rfl,rfl,a⟩
theorem rG(h:b7 B w n K V D)(ht:Src 1 w t (aC key))(b:n.keys.Pairwise bF)(c:n.keys.length<=100000):
 aH aj 124 #[dz n K V D,t] w (λv w'=>v=.tuple #[.int .i64 ((cT n.keys key:Nat):Int),.bool (iq n.keys key)]/\Ext w w'):=by
 refine okF (ae.rG n.leaf K V D t) ax.rG func124 ?_;(delta ae.rG aW Y al lG;dsimp only);refine a6 (vs:=[n.leaf,K,V,D]) rfl λw1 d a _=>?_;obtain⟨b9,aZ,bo,bt⟩:=bT d;refine⟨_,b9,K,aZ,V,bo,D,bt,(nr (h.ext a) (ht.ext a) b c).use ?_⟩;rintro _ _ ⟨rfl,e⟩;exact⟨_,_,rfl,rfl,a.trans e⟩
theorem J9(e:ks.Pairwise bF)(k:Key):dD ks k=if iq ks k then cT ks k+1 else cT ks k:=by
 have f:=r7 ks k;have key:∀a,a<=ks.length->(∀ (j:Nat) (h:j<ks.length),j<a->¬bF k ks[j])->(∀h:a<ks.length,bF k ks[a])->dD ks k=a:=by
  intro a g h1 h2;unfold dD;rcases dV a ks.length with h|h
  .exact(List.findIdx_eq h).2 ⟨dh (h2 h),λj b=>gS (h1 j I b)⟩
  .have:a=ks.length:=I
   subst this;refine List.findIdx_eq_length_of_false λx hx=>?_;obtain⟨j,b,rfl⟩:=fe hx;exact gS (h1 j b b)
 split
 .rename_i c
  have c:ks[cT ks k]? =some k:=b2 c;obtain⟨aI,he⟩:=kn.1 c;refine key _ aI (λj b h=>?_) λh=>?_
  .rcases dV j (cT ks k) with d|d
   .exact kG (qc d b)
   .have:j=cT ks k:=I
    subst this;rw[he];exact k1 _
  .have:=lV.1 e _ _ aI h (Nat.lt_succ_self _)
   rwa[he]at this
 .rename_i c
  have c:¬ks[cT ks k]? =some k:=λh=>c (dh h);refine key _ f (λj b h=>kG (qc h b)) λh=>?_;rcases qa.1 (r8 e (bk _) h) with d|d
  .exact d
  .exact absurd ((dR h).trans (congrArg some d.symm)) c
theorem pS(h:b7 B w n K V D)(ht:Src 1 w t (aC key))(b:n.keys.Pairwise bF)(e:n.keys.length<=100000):
 aH aj 176 #[dz n K V D,t] w (λv w'=>v=.int .i64 ((dD n.keys key:Nat):Int)/\Ext w w'):=by
 refine okF (ae.pS n.leaf K V D t) ax.pS func176 ?_;(delta ae.pS aW Y al lG ak ar;dsimp only);refine a6 (vs:=[n.leaf,K,V,D]) rfl λw1 f a _=>?_;obtain⟨b9,aZ,bo,bt⟩:=bT f;have i:=r7 n.keys key;refine⟨_,b9,K,aZ,V,bo,D,bt,(nr (h.ext a) (ht.ext a) b e).use ?_⟩;rintro _ ai ⟨rfl,g⟩;rw[J9 b];refine⟨_,_,rfl,cc (λc w'=>ai=w'/\c=((if iq n.keys key then cT n.keys key+1 else cT n.keys key:Nat):Int)) (λq d=>⟨λh=>d _ _ ⟨rfl,?_⟩,λh=>d _ _ ⟨rfl,?_⟩⟩) ?_⟩
 .rw[if_pos h,bq I I];rfl
 .rw[if_neg (by simp[h])]
 .rintro _ _ ⟨rfl,rfl⟩
  exact⟨rfl,a.trans g⟩
structure iK(lo:Nat)(w:J)(aV:Nat)(n:aG)(K V D:ad)(bX cd bL:U1):Prop where
 v:Var w aV [n.leaf,K,V,D] 169
 keys:bD bX w K n.keys
 vals:bD cd w V n.vals
 kids:cW bL w D n.kids
 cm:∀q,bX q->lo<=q/\q<w/\q≠aV/\¬cd q/\¬bL q
 bv:∀q,cd q->lo<=q/\q<w/\q≠aV/\¬bL q
 aO:∀q,bL q->lo<=q/\q<w/\q≠aV
 nD:lo<=aV
structure gB(lo:Nat)(w:J)(n:aG)(K V D:ad)(bX cd bL:U1):Prop where
 keys:bD bX w K n.keys
 vals:bD cd w V n.vals
 kids:cW bL w D n.kids
 cm:∀q,bX q->lo<=q/\q<w/\¬cd q/\¬bL q
 bv:∀q,cd q->lo<=q/\q<w/\¬bL q
 aO:∀q,bL q->lo<=q/\q<w
section
variable {lo:Nat}{w w':J}{aV:Nat}{n:aG}{K V D:ad}{bX cd bL:U1}
theorem iK.mem(h:iK lo w aV n K V D bX cd bL):gB lo w n K V D bX cd bL:=⟨h.keys,h.vals,h.kids,λq a=>⟨(h.cm q a).1,(h.cm q a).2.1,(h.cm q a).2.2.2⟩,λq a=>⟨(h.bv q a).1,(h.bv q a).2.1,(h.bv q a).2.2.2⟩,λq a=>⟨(h.aO q a).1,(h.aO q a).2.1⟩⟩
theorem gB.ah(h:gB lo w n K V D bX cd bL)(hc:ag W w w')(cv:∀q,lo<=q->q<w->bX q\/cd q\/bL q->¬W q):gB lo w' n K V D bX cd bL:=by
 have hs:=hc.size;refine⟨bD.ah h.keys hc λq a=>cv q (h.cm q a).1 (h.cm q a).2.1 (.inl a),bD.ah h.vals hc λq a=>cv q (h.bv q a).1 (h.bv q a).2.1 (.inr (.inl a)),cW.ah h.kids hc λq a=>cv q (h.aO q a).1 (h.aO q a).2 (.inr (.inr a)),λq a=>?_,λq a=>?_,λq a=>?_⟩
 .have:=h.cm q a;exact⟨this.1,I,this.2.2⟩
 .have:=h.bv q a;exact⟨this.1,I,this.2.2⟩
 .have:=h.aO q a;exact⟨this.1,I⟩
theorem gB.ext(h:gB lo w n K V D bX cd bL)(hc:Ext w w'):gB lo w' n K V D bX cd bL:=h.ah hc λ_ _ _ _ h=>h
theorem iK.ext(h:iK lo w aV n K V D bX cd bL)(hx:Ext w w'):iK lo w' aV n K V D bX cd bL:=
 ⟨h.v.ext hx,bD.ext h.keys hx,bD.ext h.vals hx,cW.ext h.kids hx,λq a=>⟨(h.cm q a).1,fO (h.cm q a).2.1 hx.size,(h.cm q a).2.2⟩,λq a=>⟨(h.bv q a).1,fO (h.bv q a).2.1 hx.size,(h.bv q a).2.2⟩,λq a=>⟨(h.aO q a).1,fO (h.aO q a).2.1 hx.size,(h.aO q a).2.2⟩,h.nD⟩
theorem gB.at(h:gB lo w n K V D bX cd bL):b7 (λq=>lo<=q) w n K V D:=
 ⟨bW.bg (bD.k4 h.keys) λq _ a=>(h.cm q a).1,bW.bg (bD.k4 h.vals) λq _ a=>(h.bv q a).1,c9.bg (cW.sd h.kids) λq _ a=>(h.aO q a).1⟩
theorem gB.low{c:Nat}(h:gB lo w n K V D bX cd bL)(b:c<=lo):gB c w n K V D bX cd bL:=
 ⟨h.keys,h.vals,h.kids,λq a=>⟨eO b (h.cm q a).1,(h.cm q a).2⟩,λq a=>⟨eO b (h.bv q a).1,(h.bv q a).2⟩,λq a=>⟨eO b (h.aO q a).1,(h.aO q a).2⟩⟩
end
theorem A0(h:iK lo w aV n K V D bX cd bL)(ht:Src 1 w t (aC l))(U:l.length<=100000)(E:n.keys.length<=100000)
 (F:∀ (w':J) (G:ad) (x:U1),iK lo w' aV {n with keys:=n.keys++ [l]} G V D x cd bL->ag (λq=>q=aV\/bX q) w w'->(∀q,x q->bX q\/w<=q)->R w'):
 an w.drew λj=>∃m:U1,¬m (Addr.add aV 1).block/\∃g:ad,j.cell? (Addr.add aV 1)=some (.slice g.a g.len g.cap)/\
  Calls aj 46 #[t] j λH d=>∃y:ad,H=.returned y/\ag m j d/\
  an (d.alloc (.cells #[y] 39)) λz=>ag m d z/\∃A:ad,∃i:J,Sem.run aj (Builtin.append_ #[93,93] 93 #[g,.slice (some d) 1 1]) z=.ok A i/\
  (∃u:aa,i.cell? (Addr.add aV 1)=some u)/\i.frozen? (Addr.add aV 1)=false/\an (i.setCell (Addr.add aV 1) A) λL=>R L:=by
 have W:=h.nD;have X:=h.v.lt;have p:=cw w;obtain⟨b9,aZ,bo,bt⟩:=bT (h.v.ext p);refine aT ⟨λ_=>False,id,K,aZ,(mP (B:=λq=>w<=q) (ht.ext p) I (λq b=>b)).use ?_⟩;rintro _ d ⟨M,rfl,C,hx,hf⟩;have e:=p.trans hx;have Y:w.drew.heap.size=w:=rfl;have N:=e.size;have O:=bD.ext h.keys e;have eN:=bD.ext h.vals e;have P:=cW.ext h.kids e;refine⟨M,rfl,hx,yo (B:=Grow bX w.drew d) (h.v.ext e) (o:=1) U9 (bD.bg O λk _ h=>.inl h) ?_ (bI.bg C λk c h=>.inr ⟨h,c⟩) ?_ E λw' aE ay az f=>?_⟩
 .rintro(h1|h1)
  .exact(h.cm aV h1).2.2.1 rfl
  .omega
 .intro k Q S
  obtain⟨ts,_,_,r,_⟩:=h.keys;have:=(r k S).2;have:=(C.2.2 k Q).1;omega
 have T:∀q,Grow (Grow bX w.drew d) d w' q->bX q\/(w<=q/\q<w'):=by
  rintro q ((h1|h1)|h1)
  .exact .inl h1
  .exact .inr ⟨h1.1,fO h1.2 f.size⟩
  .exact .inr ⟨eO N h1.1,h1.2⟩
 have hg:=f.size;have s:∀q,aD K q->bX q:=λq b=>by
  obtain⟨ts,_,_,r,_⟩:=h.keys;exact(r q b).1
 refine F w' aE (λq=>bX q\/(w<=q/\q<w')) ⟨by simpa using ay,bD.bg az λk _ c=>T k c,bD.ah eN f ?_,cW.ah P f ?_,?_,λq b=>?_,λq b=>?_,h.nD⟩ ?_ ?_
 .rintro q b (h1|h1)
  .exact(h.bv q b).2.2.1 h1
  .exact(h.cm q (s q h1)).2.2.2.1 b
 .rintro q b (h1|h1)
  .exact(h.aO q b).2.2 h1
  .exact(h.cm q (s q h1)).2.2.2.2 b
 .rintro q (h1|h1)
  .have:=h.cm q h1;exact⟨this.1,I,this.2.2⟩
  .exact⟨I,h1.2,I,λh2=>U4 (h.bv q h2),λh2=>U4 (h.aO q h2)⟩
 .have:=h.bv q b;exact⟨this.1,I,this.2.2⟩
 .have:=h.aO q b;exact⟨this.1,I,this.2.2⟩
 .refine(ag.cX e).trans (f.mono λk _ c=>?_)
  obtain c|c:=c
  .exact .inl c
  .exact .inr (s k c)
 .rintro q (h1|h1)
  .exact .inl h1
  .exact .inr h1.1
theorem Ep(h:iK lo w aV n K V D bX cd bL)(ht:Src 1 w t (aC l))(U:l.length<=100000)(E:n.vals.length<=100000)
 (F:∀ (w':J) (G:ad) (x:U1),iK lo w' aV {n with vals:=n.vals++ [l]} K G D bX x bL->ag (λq=>q=aV\/cd q) w w'->(∀q,x q->cd q\/w<=q)->R w'):
 an w.drew λj=>∃m:U1,¬m (Addr.add aV 2).block/\∃g:ad,j.cell? (Addr.add aV 2)=some (.slice g.a g.len g.cap)/\
  Calls aj 46 #[t] j λH d=>∃y:ad,H=.returned y/\ag m j d/\
  an (d.alloc (.cells #[y] 39)) λz=>ag m d z/\∃A:ad,∃i:J,Sem.run aj (Builtin.append_ #[93,93] 93 #[g,.slice (some d) 1 1]) z=.ok A i/\
  (∃u:aa,i.cell? (Addr.add aV 2)=some u)/\i.frozen? (Addr.add aV 2)=false/\an (i.setCell (Addr.add aV 2) A) λL=>R L:=by
 have W:=h.nD;have X:=h.v.lt;have p:=cw w;obtain⟨b9,aZ,bo,bt⟩:=bT (h.v.ext p);refine aT ⟨λ_=>False,id,V,bo,(mP (B:=λq=>w<=q) (ht.ext p) I (λq b=>b)).use ?_⟩;rintro _ d ⟨M,rfl,C,hx,hf⟩;have e:=p.trans hx;have Y:w.drew.heap.size=w:=rfl;have N:=e.size;have O:=bD.ext h.keys e;have eN:=bD.ext h.vals e;have P:=cW.ext h.kids e;refine⟨M,rfl,hx,yo (B:=Grow cd w.drew d) (h.v.ext e) (o:=2) U9 (bD.bg eN λk _ h=>.inl h) ?_ (bI.bg C λk c h=>.inr ⟨h,c⟩) ?_ E λw' aE ay az f=>?_⟩
 .rintro(h1|h1)
  .exact(h.bv aV h1).2.2.1 rfl
  .omega
 .intro k Q S
  obtain⟨ts,_,_,r,_⟩:=h.vals;have:=(r k S).2;have:=(C.2.2 k Q).1;omega
 have T:∀q,Grow (Grow cd w.drew d) d w' q->cd q\/(w<=q/\q<w'):=by
  rintro q ((h1|h1)|h1)
  .exact .inl h1
  .exact .inr ⟨h1.1,fO h1.2 f.size⟩
  .exact .inr ⟨eO N h1.1,h1.2⟩
 have hg:=f.size;have s:∀q,aD V q->cd q:=λq b=>by
  obtain⟨ts,_,_,r,_⟩:=h.vals;exact(r q b).1
 refine F w' aE (λq=>cd q\/(w<=q/\q<w')) ⟨by simpa using ay,bD.ah O f ?_,bD.bg az λk _ c=>T k c,cW.ah P f ?_,λq b=>?_,?_,λq b=>?_,h.nD⟩ ?_ ?_
 .rintro q b (h1|h1)
  .exact(h.cm q b).2.2.1 h1
  .exact(h.cm q b).2.2.2.1 (s q h1)
 .rintro q b (h1|h1)
  .exact(h.aO q b).2.2 h1
  .exact(h.bv q (s q h1)).2.2.2 b
 .have:=h.cm q b
  refine⟨this.1,I,this.2.2.1,?_,this.2.2.2.2⟩;rintro(h1|h1)
  .exact this.2.2.2.1 h1
  .omega
 .rintro q (h1|h1)
  .have:=h.bv q h1;exact⟨this.1,I,this.2.2⟩
  .exact⟨I,h1.2,I,λh2=>U4 (h.aO q h2)⟩
 .have:=h.aO q b;exact⟨this.1,I,this.2.2⟩
 .refine(ag.cX e).trans (f.mono λk _ c=>?_)
  obtain c|c:=c
  .exact .inl c
  .exact .inr (s k c)
 .rintro q (h1|h1)
  .exact .inl h1
  .exact .inr h1.1
theorem gb{w0:J}(h:b7 B w0 n K V D)(aR:n.keys.length<=100000)(aS:n.vals.length<=100000)(aU:n.kids.length<=100000)(au:∀k∈n.keys,k.length<=100000)(aw:∀v∈n.vals,v.length<=100000):
 aH aj 183 #[dz n K V D] w0 (λv w'=>∃ (K V D:ad) (bX cd bL:U1),v=dz n K V D/\gB w0 w' n K V D bX cd bL/\Ext w0 w'):=by
 refine okF (ae.gb n.leaf K V D) ax.gb func183 ?_;(delta ae.gb z5 Y aW al bH Ab ak Du aO st ar Dv gJ tr;dsimp only);have aC:b7 (λq=>q<w0) w0 n K V D:=h.bg λq a _=>a;have aX:=bW.len h.keys;have aY:=bW.len h.vals;refine a6 (vs:=[n.leaf,K,V,D]) rfl λw1 aD aE a0=>?_;refine a6 (vs:=[false,(),(),()]) rfl λai aJ ay a1=>aT ?_;have W:=cw ai;have a2:ai.drew.heap.size=ai:=rfl;have L:=(aD.ext ay).ext W;have az:=aJ.ext W;have X:=aE.trans (ay.trans W);obtain⟨aK,a3,a4,aL⟩:=bT L;have T:=aC.ext X;obtain⟨lo,a5⟩:=U6 ai.heap.size;refine⟨λ_=>False,id,_,aK,id,D,aL,⟨?_,?_⟩⟩
 .refine(um T.kids.1 I).use ?_
  rintro _ H ⟨aF,rfl,y,x,Z⟩;have aM:=x.size;refine⟨aF,rfl,x,#[n.leaf,(),(),aF],(λw=>by kernel_rfl),?_⟩;refine a6 (vs:=[false,(),(),()]) rfl λaA U z aN=>?_;refine⟨z,U.ct rfl ?_,rfl,cP U (us:=[n.leaf,(),(),aF]) rfl rfl λg M C aP=>?_⟩
  .intro v N
   simp only[cZ,e2,e_]at N;rcases N with rfl|rfl|rfl|rfl<;>trivial
  obtain⟨aV,aa⟩:=U6 H.heap.size;rw[←aa]at M C⊢;obtain⟨bL,r⟩:=U6 (λq=>ai<=q/\q<H:U1);have ab:cW bL H aF n.kids:=by subst r;exact⟨y,λk l=>⟨⟨Z k l,y.lt k l⟩,y.lt k l⟩⟩
  have m:ag (λq=>lo<=q) ai.drew g:=(ag.cX (x.trans z)).trans (C.mono λk _ l=>I);have ac:iK lo g aV ⟨n.leaf,[],[],n.kids⟩ bM bM aF (λ_=>False) (λ_=>False) bL:=⟨M,bD.none _ _,bD.none _ _,cW.ah (cW.ext ab z) C (λq a e=>by subst r;have a:=a.2;omega),λq h=>h.elim,λq h=>h.elim,λq a=>(by subst r;obtain⟨h1,h2⟩:=a;exact⟨I,I,I⟩),I⟩;clear r;obtain⟨b9,aZ,bo,bt⟩:=bT (L.ah m I);have O:b7 (λq=>q<w0) g n K V D:=T.ah m λq a h=>by omega
  have af:=az.ah m I;refine⟨K,aZ,λi w'=>∃ (j:Nat) (d:ad) (bX:U1),i=j/\j<=n.keys.length/\iK lo w' aV ⟨n.leaf,n.keys.take j,[],n.kids⟩ d bM aF bX (λ_=>False) bL/\ag (λq=>lo<=q) g w',λi _=>((n.keys.length:Int)-i).toNat,⟨0,bM,_,rfl,cI _,ac,ag.refl _ _⟩,?_⟩;rintro _ P ⟨j,d,bX,rfl,am,o,s⟩;have an:b7 (λq=>q<w0) P n K V D:=O.ah s λq a h=>by omega
  refine⟨λaI=>?_,λc=>?_⟩
  .have aI:j<n.keys.length:=by have:=b2 aI;omega
   obtain⟨A,t,av,E,hc,ht,_⟩:=bW.at an.keys aI;refine⟨A,av,E,t,hc,A0 o ht.1 (au _ (cJ aI)) (by show(n.keys.take j).length<=_;rw[cF];omega) λw' dY ao st F _=>?_⟩;have G:ag (λq=>lo<=q) P w':=F.mono λq _ a=>by
    rcases a with a|a
    .have:=o.nD;omega
    .exact(o.cm q a).1
   rw[bq (n:=(j:Int)+1) I I];refine⟨⟨j+1,dY,ao,I,I,?_,s.trans G⟩,?_⟩
   .rw[take_succ _ aI];exact st
   .show((n.keys.length:Int)-((j:Int)+1)).toNat<((n.keys.length:Int)-(j:Int)).toNat
    omega
  have c:j=n.keys.length:=by have:=cr c;omega
  subst c;rw[ic]at o;obtain⟨b9,aZ,bo,bt⟩:=bT ((L.ah m I).ah s I);refine⟨V,bo,λi w'=>∃ (j:Nat) (p:ad) (cd:U1),i=j/\j<=n.vals.length/\iK lo w' aV ⟨n.leaf,n.keys,n.vals.take j,n.kids⟩ d p aF bX cd bL/\ag (λq=>lo<=q) g w',λi _=>((n.vals.length:Int)-i).toNat,⟨0,bM,_,rfl,cI _,o,s⟩,?_⟩;rintro _ R ⟨j,p,cd,rfl,am,f,u⟩;have ap:b7 (λq=>q<w0) R n K V D:=O.ah u λq a h=>by omega
  refine⟨λaI=>?_,λc=>?_⟩
  .have aI:j<n.vals.length:=by have:=b2 aI;omega
   obtain⟨A,t,av,E,hc,ht,_⟩:=bW.at ap.vals aI;refine⟨A,av,E,t,hc,Ep f ht.1 (aw _ (cJ aI)) (by show(n.vals.take j).length<=_;rw[cF];omega) λw' eA aq st F _=>?_⟩;have G:ag (λq=>lo<=q) R w':=F.mono λq _ a=>by
    rcases a with a|a
    .have:=f.nD;omega
    .exact(f.bv q a).1
   rw[bq (n:=(j:Int)+1) I I];refine⟨⟨j+1,eA,aq,I,I,?_,u.trans G⟩,?_⟩
   .rw[take_succ _ aI];exact st
   .show((n.vals.length:Int)-((j:Int)+1)).toNat<((n.vals.length:Int)-(j:Int)).toNat
    omega
  have c:j=n.vals.length:=by have:=cr c;omega
  subst c;rw[ic]at f;obtain⟨d0,d1,d2,d3⟩:=bT f.v;refine⟨_,d0,d,d1,p,d2,aF,d3,jL n.leaf d p aF (af.ah u I) rfl (Q:=λb K V D ai=>(λv w'=>∃ (K V D:ad) (bX cd bL:U1),v=dz n K V D/\gB w0 w' n K V D bX cd bL/\Ext w0 w') (.agg #[b,K,V,D]) ai) λaQ S=>⟨d,p,aF,bX,cd,bL,rfl,?_,?_⟩⟩
  .exact(gB.ah f.mem S λq a _ _ h=>I).low I
  .exact Ext.cp (Ext.d_ X (m.trans u) λk l=>I) S I
 .refine a6 (vs:=[false,(),(),()]) rfl λaA U z aN=>⟨z,?_⟩
  refine(um (T.kids.ext z).1 I).use ?_;rintro _ H ⟨aF,rfl,y,x,Z⟩;have aM:=x.size;have aB:=U.ext x;refine⟨aF,rfl,x,#[n.leaf,(),(),aF],(λw=>by kernel_rfl),?_⟩;refine⟨aB.ct rfl ?_,rfl,cP aB (us:=[n.leaf,(),(),aF]) rfl rfl λg M C aP=>?_⟩
  .intro v N
   simp only[cZ,e2,e_]at N;rcases N with rfl|rfl|rfl|rfl<;>trivial
  obtain⟨aV,aa⟩:=U6 ai.drew.heap.size;rw[←aa]at M C⊢;obtain⟨bL,r⟩:=U6 (λq=>aA<=q/\q<H:U1);have ab:cW bL H aF n.kids:=by subst r;exact⟨y,λk l=>⟨⟨Z k l,y.lt k l⟩,y.lt k l⟩⟩
  have m:ag (λq=>lo<=q) ai.drew g:=(ag.cX (z.trans x)).trans (C.mono λk _ l=>I);have ac:iK lo g aV ⟨n.leaf,[],[],n.kids⟩ bM bM aF (λ_=>False) (λ_=>False) bL:=⟨M,bD.none _ _,bD.none _ _,cW.ah ab C (λq a e=>by subst r;have a:=a.1;omega),λq h=>h.elim,λq h=>h.elim,λq a=>(by subst r;obtain⟨h1,h2⟩:=a;exact⟨I,I,I⟩),I⟩;clear r;obtain⟨b9,aZ,bo,bt⟩:=bT (L.ah m I);have O:b7 (λq=>q<w0) g n K V D:=T.ah m λq a h=>by omega
  have af:=az.ah m I;refine⟨K,aZ,λi w'=>∃ (j:Nat) (d:ad) (bX:U1),i=j/\j<=n.keys.length/\iK lo w' aV ⟨n.leaf,n.keys.take j,[],n.kids⟩ d bM aF bX (λ_=>False) bL/\ag (λq=>lo<=q) g w',λi _=>((n.keys.length:Int)-i).toNat,⟨0,bM,_,rfl,cI _,ac,ag.refl _ _⟩,?_⟩;rintro _ P ⟨j,d,bX,rfl,am,o,s⟩;have an:b7 (λq=>q<w0) P n K V D:=O.ah s λq a h=>by omega
  refine⟨λaI=>?_,λc=>?_⟩
  .have aI:j<n.keys.length:=by have:=b2 aI;omega
   obtain⟨A,t,av,E,hc,ht,_⟩:=bW.at an.keys aI;refine⟨A,av,E,t,hc,A0 o ht.1 (au _ (cJ aI)) (by show(n.keys.take j).length<=_;rw[cF];omega) λw' dY ao st F _=>?_⟩;have G:ag (λq=>lo<=q) P w':=F.mono λq _ a=>by
    rcases a with a|a
    .have:=o.nD;omega
    .exact(o.cm q a).1
   rw[bq (n:=(j:Int)+1) I I];refine⟨⟨j+1,dY,ao,I,I,?_,s.trans G⟩,?_⟩
   .rw[take_succ _ aI];exact st
   .show((n.keys.length:Int)-((j:Int)+1)).toNat<((n.keys.length:Int)-(j:Int)).toNat
    omega
  have c:j=n.keys.length:=by have:=cr c;omega
  subst c;rw[ic]at o;obtain⟨b9,aZ,bo,bt⟩:=bT ((L.ah m I).ah s I);refine⟨V,bo,λi w'=>∃ (j:Nat) (p:ad) (cd:U1),i=j/\j<=n.vals.length/\iK lo w' aV ⟨n.leaf,n.keys,n.vals.take j,n.kids⟩ d p aF bX cd bL/\ag (λq=>lo<=q) g w',λi _=>((n.vals.length:Int)-i).toNat,⟨0,bM,_,rfl,cI _,o,s⟩,?_⟩;rintro _ R ⟨j,p,cd,rfl,am,f,u⟩;have ap:b7 (λq=>q<w0) R n K V D:=O.ah u λq a h=>by omega
  refine⟨λaI=>?_,λc=>?_⟩
  .have aI:j<n.vals.length:=by have:=b2 aI;omega
   obtain⟨A,t,av,E,hc,ht,_⟩:=bW.at ap.vals aI;refine⟨A,av,E,t,hc,Ep f ht.1 (aw _ (cJ aI)) (by show(n.vals.take j).length<=_;rw[cF];omega) λw' eA aq st F _=>?_⟩;have G:ag (λq=>lo<=q) R w':=F.mono λq _ a=>by
    rcases a with a|a
    .have:=f.nD;omega
    .exact(f.bv q a).1
   rw[bq (n:=(j:Int)+1) I I];refine⟨⟨j+1,eA,aq,I,I,?_,u.trans G⟩,?_⟩
   .rw[take_succ _ aI];exact st
   .show((n.vals.length:Int)-((j:Int)+1)).toNat<((n.vals.length:Int)-(j:Int)).toNat
    omega
  have c:j=n.vals.length:=by have:=cr c;omega
  subst c;rw[ic]at f;obtain⟨d0,d1,d2,d3⟩:=bT f.v;refine⟨_,d0,d,d1,p,d2,aF,d3,jL n.leaf d p aF (af.ah u I) rfl (Q:=λb K V D ai=>(λv w'=>∃ (K V D:ad) (bX cd bL:U1),v=dz n K V D/\gB w0 w' n K V D bX cd bL/\Ext w0 w') (.agg #[b,K,V,D]) ai) λaQ S=>⟨d,p,aF,bX,cd,bL,rfl,?_,?_⟩⟩
  .exact(gB.ah f.mem S λq a _ _ h=>I).low I
  .exact Ext.cp (Ext.d_ X (m.trans u) λk l=>I) S I
theorem bD.mk'{ts:O ad}(a:ts.length=ls.length)(b:aR 1 39 w s (ts.map iJ))(hi:In B w s)(c:∀p∈ts.zip ls,bI B w p.1 p.2/\∀k,aD p.1 k->¬aD s k):bD B w s ls:=by
 refine⟨ts,a,b,hi,λi h1 h2=>?_⟩;have:=c (ts[i],ls[i]) (by
  rw[vd];exact⟨i,by rw[n2];omega,by rw[u7]⟩)
 exact this
theorem bD.out(h:bD B w s ls):∃ts:O ad,ts.length=ls.length/\aR 1 39 w s (ts.map iJ)/\In B w s/\∀p∈ts.zip ls,bI B w p.1 p.2/\∀k,aD p.1 k->¬aD s k:=by
 obtain⟨ts,h1,h2,a,b⟩:=h;refine⟨ts,h1,h2,a,λp c=>?_⟩;obtain⟨i,hi,rfl⟩:=vd.1 c;rw[n2]at hi;rw[u7];exact b i I I
theorem Er{β:Type}(a:O α)(b:O β)(i:Nat):(a.take i).zip (b.take i)=(a.zip b).take i:=by
 rw[List.zip_eq_zipWith,List.zip_eq_zipWith,List.take_zipWith]
theorem Es{β:Type}(a:O α)(b:O β)(i:Nat):(a.drop i).zip (b.drop i)=(a.zip b).drop i:=by
 rw[List.zip_eq_zipWith,List.zip_eq_zipWith,List.drop_zipWith]
theorem Et(q:bD B w s ls)(ht:bI B w t l)(hd:∀k,aD t k->¬aD s k)(F:ls.length<=100000)(hi:i<=ls.length):
 aH aj 200 #[s,.int .i64 (i:Int),.slice (some w) 1 1] (w.alloc (.cells #[t] 39))
  (λu w'=>∃e:ad,u=e/\bD (Grow B w w') w' e (ls.take i++ [l]++ls.drop i)/\ag (aD s) w w'):=by
 obtain⟨ts,h1,h2,j,m⟩:=bD.out q;have G:s.len=ls.length:=by have:=h2.1;rw[cU]at this;omega
 have hx:=c5 w (.cells #[t] 39);have r:=bu.new w #[t] 39;refine(J5 (v:=⟨some w.heap.size,1,1⟩) (xs:=[iJ t]) (i:=i) (h2.ext hx) (Src.new (T:=39) w [iJ t] 1 rfl) rfl rfl r (λh=>U4 ((j _ h).2)) (λv z=>by rw[e8.1 z];trivial) (yi ts) I I).mono ?_;rintro _ w' ⟨e,rfl,ay,az,A,C⟩;rw[f_]at ay;have hc:ag (aD s) w w':=(ag.cX hx).trans A;have H:=hc.size;have K:(w.alloc (.cells #[t] 39)).heap.size=w+1:=qe _ _;have n:∀k,aD e k->aD s k\/w<=k:=λk d=>(C k d).imp id λh=>by omega
 have D:∀ (x:ad),In B w x->(∀k,aD x k->¬aD s k)->∀k,aD x k->¬aD e k:=λx hx f k d E=>by
  rcases n k E with h|h
  .exact f k d h
  .have:=(hx k d).2;omega
 have g:∀ (x:ad) (y:Key),bI B w x y->(∀k,aD x k->¬aD s k)->bI (Grow B w w') w' x y/\∀k,aD x k->¬aD e k:=λx y o f=>⟨bI.bg (bI.k3 o hc f) λk _ h=>.inl h,D x o.2.2 f⟩;refine⟨e,rfl,bD.mk' (ts:=ts.take i++ [t]++ts.drop i) ?_ ?_ ?_ ?_,hc⟩
 .simp only[cz,cF,eH,jW];omega
 .simpa[mu,m4] using ay
 .intro k d
  refine⟨?_,ay.lt k d⟩;rcases n k d with h|h
  .exact .inl (j k h).1
  .exact .inr ⟨h,ay.lt k d⟩
 .intro p c
  rw[List.zip_append (by simp only[cz,cF,jW];omega),List.zip_append (by simp only[cF];omega),Er,Es]at c;rcases cR.1 c with c|c
  .rcases cR.1 c with c|c
   .obtain⟨a,b⟩:=m p (fq c)
    exact g _ _ a b
   .simp only[List.zip_cons_cons,List.zip_nil_left,e8]at c
    subst c;exact g _ _ ht hd
  .obtain⟨a,b⟩:=m p (fZ c)
   exact g _ _ a b
theorem J_:(Tryz.prog.info? 39).bind (·.zero)=some (.slice none 0 0):=by kernel_rfl
theorem Eu(j:bD B w s ls)(r:ls.length<=100000)(hi:i<ls.length):
 aH aj 184 #[s,.int .i64 (i:Int),.int .i64 ((i+1:Nat):Int)] w
  (λu w'=>∃e:ad,u=e/\bD B w' e (ls.take i++ls.drop (i+1))/\ag (aD s) w w'):=by
 obtain⟨ts,h1,h2,l,m⟩:=bD.out j;have t:s.len=ls.length:=by have:=h2.1;rw[cU]at this;omega
 refine(J6 (i:=i) h2 (yi ts) (λz g u hu=>by
  rw[J_]at g
  cases g;simp[Value.cells]at hu;subst hu;trivial) I I).mono ?_
 rintro _ w' ⟨e,rfl,ay,az,n,f⟩;rw[f_,f_]at ay;have v:=f.size;have h:∀k,aD e k->aD s k:=λk ⟨A,av,c⟩=>⟨A,by rw[←n];exact av,c⟩;refine⟨e,rfl,bD.mk' (ts:=ts.take i++ts.drop (i+1)) ?_ ?_ ?_ ?_,f⟩
 .simp only[cz,cF,eH];omega
 .simpa[mu,m4] using ay
 .exact λk c=>⟨(l k (h k c)).1,ay.lt k c⟩
 .intro p d
  rw[List.zip_append (by simp only[cF];omega),Er,Es]at d;have o:p∈ts.zip ls:=by
   rcases cR.1 d with d|d
   .exact fq d
   .exact fZ d
  obtain⟨a,b⟩:=m p o;exact⟨bI.k3 a f b,λk c q=>b k c (h k q)⟩
theorem Ka(g:bD B w s ls)(ht:bI B w t l)(hd:∀k,aD t k->¬aD s k)(hi:i<ls.length):
 ∃A:af,s.a=some A/\((0:Int)<=(i:Int)/\(i:Int)<(s.len:Int))/\(∃u:aa,w.cell? (A.add (Int.toNat (i:Int)*1))=some u)/\w.frozen? (A.add (Int.toNat (i:Int)*1))=false/\
  bD B (w.setCell (A.add (Int.toNat (i:Int)*1)) (iJ t)) s (ls.set i l)/\ag (aD s) w (w.setCell (A.add (Int.toNat (i:Int)*1)) (iJ t)):=by
 obtain⟨ts,h1,h2,h,m⟩:=g;obtain⟨A,av,n,hc,hf,o,p⟩:=h2.at (i:=i) (v:=iJ (ts[i]'I)) (by simp[h1,hi]);have c:ag (aD s) w (w.setCell (A.add (Int.toNat (i:Int)*1)) (iJ t)):=ag.set (.refl _ _) (λ_=>o) _;refine⟨A,av,n,⟨_,hc⟩,hf,⟨ts.set i t,by simp[h1],?_,In.ah h c,λj d f=>?_⟩,c⟩
 .have:=p (iJ t)
  rwa[←List.map_set]at this
 .rw[dp]at d f
  rw[o_,o_];by_cases e:i=j
  .rw[if_pos e,if_pos e]
   exact⟨bI.k3 ht c hd,hd⟩
  .rw[if_neg e,if_neg e]
   obtain⟨a,b⟩:=m j d f;exact⟨bI.k3 a c b,b⟩
def ir(n:aG)(k v:Key):aG:=
 if iq n.keys k then {n with vals:=n.vals.set (cT n.keys k) v}
 else {n with keys:=n.keys.take (cT n.keys k)++ [k]++n.keys.drop (cT n.keys k),vals:=n.vals.take (cT n.keys k)++ [v]++n.vals.drop (cT n.keys k)}
def mQ(n:aG)(k:Key):aG:={n with keys:=n.keys.take (cT n.keys k)++n.keys.drop (cT n.keys k+1),vals:=n.vals.take (cT n.keys k)++n.vals.drop (cT n.keys k+1)}
theorem hT.eB(h:hT n):(∀k∈n.keys,k.length<=100000)/\(∀v∈n.vals,v.length<=100000):=⟨λk a=>U4 ((h.ok k a).2),λv b=>U4 (h.vals v b)⟩
def oS(n:aG)(w:J)(v:aa)(w':J):Prop:=∃K V D:ad,v=.tuple #[dz n K V D,true]/\b7 (λq=>w<=q) w' n K V D/\Ext w w'
theorem rK{tk cY:ad}{val:Key}(h:b7 B w n K V D)(hs:hT n)(bK:n.keys.length<=10000)(c:Src 1 w tk (aC key))(G:Src 1 w cY (aC val))(aM:cK key)(bM:val.length<=24):
 aH aj 143 #[dz n K V D,tk,cY] w (oS (ir n key val) w):=by
 have bN:=hs.len;have bO:n.kids.length=0:=by rw[hs.kids];rfl
 have bQ:=len8 G;have bR:key.length<=24:=aM.2;refine okF (ae.rK n.leaf K V D tk cY) ax.rK func143 ?_;(delta ae.rK z5 aW Y rm ak al bP ov rj gH lG bH aO st db ri;dsimp only);refine a6 (vs:=[n.leaf,K,V,D]) rfl λw1 ar a_ bS=>?_;refine a6 (vs:=[false,(),(),()]) rfl λai ba ac bU=>?_;have aN:=a_.trans ac;obtain⟨b9,aZ,bo,bt⟩:=bT (ar.ext ac);refine⟨n.leaf,b9,cc (λb w'=>b=false/\Ext ai w') (λq a=>⟨λp=>?_,λp=>⟨_,b9,K,aZ,V,bo,D,bt,(kZ (h.ext aN) I I I).use ?_⟩⟩) ?_⟩
 .rw[hs.leaf]at p;cases p
 .rintro _ au ⟨b,rfl,bb,C⟩
  have:=bb.2 (.inl hs);subst this;exact⟨true,rfl,a _ _ ⟨rfl,C⟩⟩
 rintro _ au ⟨rfl,C⟩;have af:=aN.trans C;refine cc (λb w'=>b=false/\au=w') (λq a=>⟨nofun,λ_=>(pU (c.ext af)).use ?_⟩) ?_
 .rintro _ _ ⟨rfl,rfl⟩
  exact⟨_,rfl,a _ _ ⟨by simp[aM],rfl⟩⟩
 rintro _ _ ⟨rfl,rfl⟩;obtain⟨b9,aZ,bo,bt⟩:=bT (ar.ext (ac.trans C));refine⟨λp=>?_,λ_=>⟨_,b9,K,aZ,V,bo,D,bt,(gb (h.ext af) I I I hs.eB.1 hs.eB.2).use ?_⟩⟩
 .have p:decide (((cY.len:Int):Int)>24)=true:=p
  have:=b2 p;omega
 rintro _ bc ⟨l,g,aF,bX,cd,bL,rfl,r,am⟩;have aP:=af.trans am;have bV:=aP.size;have bY:=af.size;have bZ:=C.size;have b0:=am.size;refine⟨n.leaf,l,g,aF,rfl,a6 (vs:=[false,(),(),()]) rfl λb1 aQ an b3=>⟨aQ.ct rfl ?_,rfl,cP aQ (us:=[n.leaf,l,g,aF]) rfl rfl λO P R b4=>?_⟩⟩
 .intro v G
  simp only[cZ,e2,e_]at G;rcases G with rfl|rfl|rfl|rfl<;>trivial
 obtain⟨aV,bd⟩:=U6 bc.heap.size;rw[←bd]at P R⊢;obtain⟨lo,be⟩:=U6 au.heap.size;rw[←be]at r;have ao:Ext w O:=Ext.cp (aP.trans an) R I;have bf:Var O w.heap.size [n.leaf,K,V,D] 169:=(((ar.ext (ac.trans C)).ext am).ext an).ah R I;have aR:Var O w1.heap.size [false,(),(),()] 169:=(((ba.ext C).ext am).ext an).ah R I;have f:gB lo O n l g aF bX cd bL:=(r.ext an).ah R λq _ _ a e=>by
  subst e;rcases a with a|a|a
  .have:=(r.cm _ a).2.1;omega
  .have:=(r.bv _ a).2.1;omega
  .have:=(r.aO _ a).2;omega
 obtain⟨b9,aZ,bo,bt⟩:=bT bf;have bh:=r7 n.keys key;refine⟨_,b9,K,aZ,V,bo,D,bt,(nr (h.ext ao) (c.ext ao) hs.fg I).use ?_⟩;rintro _ m ⟨rfl,ap⟩;have aw:=ao.trans ap;have b5:=ap.size;refine⟨_,_,rfl,λH=>?_,λH=>?_⟩
 .
  have E:=cw m;have L:=ap.trans E;have aI:cT n.keys key<n.keys.length:=by
   have:=b2 H;exact(kn.1 this).1
  obtain⟨d0,d1,d2,d3⟩:=bT (P.ext L);refine aT ⟨λ_=>False,id,g,d2,(mP (B:=λq=>m.heap.size<=q) (G.ext (aw.trans E)) I (λq a=>a)).use ?_⟩;rintro _ s ⟨t,rfl,ht,x,bi⟩;have T:=L.trans x;have aB:=f.ext T;have bj:=T.size;have bk:bD (Grow cd m s) s g n.vals:=bD.bg aB.vals λk _ h=>.inl h;have y:∀k,aD g k->cd k:=λk c=>by obtain⟨ts,_,_,U,_⟩:=f.vals;exact(U k c).1
  obtain⟨A,av,p,bl,sg,aS,aU⟩:=Ka (i:=cT n.keys key) bk (bI.bg ht λk c h=>.inr ⟨h,c⟩) (λk W X=>by
   have:=(ht.2.2 k W).1;have:=(f.bv k (y k X)).2.1;omega) I
  refine⟨t,rfl,x,A,av,p,bl,sg,aT ?_⟩;obtain⟨o,aX⟩:=U6 (s.setCell (A.add (Int.toNat (cT n.keys key:Int)*1)) (iJ t));rw[←aX]at aS aU;have bm:s.setCell (A.add (Int.toNat (cT n.keys key:Int)*1)) t=o:=aX.symm;rw[bm];have Z:ag (λq=>lo<=q/\q<O.heap.size/\cd q) s o:=aU.mono λk _ c=>⟨(f.bv k (y k c)).1,(f.bv k (y k c)).2.1,y k c⟩;have aq:=(P.ext T).ah Z (λe=>by
   have h1:=(r.bv _ e.2.2).2.1;omega)
  obtain⟨bn,bp,bq,br⟩:=bT aq;have bs:b7 (λq=>lo<=q) o (ir n key val) l g aF:=by
   unfold ir;rw[if_pos H];refine⟨bW.bg (bW.ah (bD.k4 aB.keys) Z λq a e=>(f.cm q a).2.2.1 e.2.2) λq _ a=>(f.cm q a).1,bW.bg (bD.k4 aS) λq _ a=>?_,c9.bg (c9.ah (cW.sd aB.kids) Z λq a e=>(f.bv q e.2.2).2.2 a) λq _ a=>(f.aO q a).1⟩;rcases a with a|a
   .exact(f.bv q a).1
   .omega
  have bu:(ir n key val).leaf=n.leaf:=by unfold ir;rw[if_pos H]
  refine⟨_,bn,l,bp,g,bq,aF,br,jL n.leaf l g aF ((aR.ext T).ah Z (λe=>by have:=e.1;omega)) rfl (Q:=λb K V D ai=>oS (ir n key val) w (.tuple #[.agg #[b,K,V,D],true]) ai) λj u=>⟨l,g,aF,by unfold dz;rw[bu],?_,?_⟩⟩
  .exact(bs.ah u λq a e=>I).bg λq _ a=>by omega
  .exact Ext.cp (Ext.d_ (ao.trans T) Z λk c=>I) u I
 .
  have E:=cw m;have L:=ap.trans E;have aY:iK lo m.drew aV n l g aF bX cd bL:=by
   have M:=f.ext L;refine⟨P.ext L,M.keys,M.vals,M.kids,λq a=>?_,λq a=>?_,λq a=>?_,I⟩
   .have h1:=M.cm q a;have:=(r.cm q a).2.1;exact⟨h1.1,h1.2.1,I,h1.2.2⟩
   .have h1:=M.bv q a;have:=(r.bv q a).2.1;exact⟨h1.1,h1.2.1,I,h1.2.2⟩
   .have h1:=M.aO q a;have:=(r.aO q a).2;exact⟨h1.1,h1.2,I⟩
  obtain⟨d0,d1,d2,d3⟩:=bT aY.v;refine aT ⟨λ_=>False,id,l,d1,(mP (B:=λq=>m.heap.size<=q) (c.ext (aw.trans E)) I (λq a=>a)).use ?_⟩;rintro _ s ⟨t,rfl,ht,x,bi⟩;have bj:m.heap.size<=s.heap.size:=(E.trans x).size;have aE:∀k,aD l k->bX k:=λk c=>by obtain⟨ts,_,_,U,_⟩:=f.keys;exact(U k c).1
  have y:∀k,aD g k->cd k:=λk c=>by obtain⟨ts,_,_,U,_⟩:=f.vals;exact(U k c).1
  have d:=aY.ext x;refine⟨t,rfl,x,aT ⟨c5 _ _,(Et (B:=Grow bX m s) (i:=cT n.keys key) (bD.bg d.keys λk _ h=>.inl h) (bI.bg ht λk c h=>.inr ⟨h,c⟩) (λk W X=>by
   have:=(ht.2.2 k W).1;have:=(f.cm k (aE k X)).2.1;omega) I bh).use ?_⟩⟩
  rintro _ o ⟨S,rfl,bw,a0⟩;have b6:=a0.size;have aa:ag (λq=>lo<=q/\bX q) s o:=a0.mono λk _ c=>⟨(f.cm k (aE k c)).1,aE k c⟩;have aq:=d.v.ah aa λe=>(d.cm _ e.2).2.2.1 rfl;obtain⟨s1,s2⟩:=ez aq (i:=1) U9;refine⟨S,rfl,?_⟩;rw[aA,aA];refine⟨s1,s2,aT (aT ?_)⟩;obtain⟨j,aJ⟩:=U6 ((o.setCell ⟨aV,0+1,none⟩ S).drew);rw[←aJ];have u:ag (λq=>q=aV) o j:=by rw[aJ];exact ag.drew (dU _ _ _ _)
  have a1:Var j aV [n.leaf,S,g,aF] 169:=by rw[aJ];exact(eE aq _).drew
  have b8:=u.size;have b_:aV<m.heap.size:=by have:=P.lt;omega
  have bx:bD (λq=>bX q\/(m.heap.size<=q/\q<o.heap.size)) j S (n.keys.take (cT n.keys key)++ [key]++n.keys.drop (cT n.keys key)):=by
   refine bD.ah (bD.bg bw λk _ c=>?_) u λk c e=>?_
   .rcases c with (c|c)|c
    .exact .inl c
    .exact .inr ⟨c.1,I⟩
    .exact .inr ⟨I,c.2⟩
   .subst e
    rcases c with c|c
    .exact(d.cm _ c).2.2.1 rfl
    .omega
  have bz:bD cd j g n.vals:=bD.ah (bD.ah d.vals aa λq a e=>(d.cm q e.2).2.2.2.1 a) u λq a e=>(d.bv q a).2.2.1 e;have bA:cW bL j aF n.kids:=cW.ah (cW.ah d.kids aa λq a e=>(d.cm q e.2).2.2.2.2 a) u λq a e=>(d.aO q a).2.2 e;have a2:Ext w j:=Ext.d_ (Ext.d_ ((aw.trans E).trans x) aa λk c=>I) u λk c=>by omega
  obtain⟨f0,f1,f2,f3⟩:=bT a1;rw[aA]at f2;refine⟨λ_=>False,id,g,f2,(mP (B:=λq=>j.heap.size<=q) (G.ext a2) I (λq a=>a)).use ?_⟩;rintro _ a3 ⟨t2,rfl,a4,z,ca⟩;have cb:=z.size;refine⟨t2,rfl,z,aT ⟨c5 _ _,(Et (B:=Grow cd j a3) (i:=cT n.keys key) (bD.bg (bD.ext bz z) λk _ h=>.inl h) (bI.bg a4 λk c h=>.inr ⟨h,c⟩) (λk W X=>by
   have:=(a4.2.2 k W).1;have:=(f.bv k (y k X)).2.1;omega) I I).use ?_⟩⟩
  rintro _ aK ⟨cC,rfl,bB,a5⟩;have ce:=a5.size;have ab:ag (λq=>lo<=q/\cd q) a3 aK:=a5.mono λk _ c=>⟨(f.bv k (y k c)).1,y k c⟩;have a7:=(a1.ext z).ah ab λe=>(d.bv _ e.2).2.2.1 rfl;obtain⟨s1,s2⟩:=ez a7 (i:=2) U9;refine⟨cC,rfl,?_⟩;rw[aA,aA];refine⟨s1,s2,aT ?_⟩;obtain⟨F,aL⟩:=U6 (aK.setCell ⟨aV,0+2,none⟩ cC);rw[←aL];have N:ag (λq=>q=aV) aK F:=by rw[aL];exact dU _ _ _ _
  have bC:Var F aV [n.leaf,S,cC,aF] 169:=by rw[aL];exact eE a7 _
  have cf:=N.size;obtain⟨lJ,ay,az,a8⟩:=bT bC;rw[aA]at ay az a8;have bE:b7 (λq=>lo<=q) F (ir n key val) S cC aF:=by
   unfold ir;rw[if_neg (by rw[H];simp)];refine⟨?_,?_,?_⟩
   .refine bW.bg (bD.k4 (bD.ah (bD.ah (bD.ext bx z) ab λq a e=>?_) N λq a e=>?_)) λq _ a=>?_
    .rcases a with a|a
     .exact(d.cm q a).2.2.2.1 e.2
     .have:=(f.bv q e.2).2.1;omega
    .subst e
     rcases a with a|a
     .exact(d.cm _ a).2.2.1 rfl
     .omega
    .rcases a with a|a
     .exact(d.cm q a).1
     .omega
   .refine bW.bg (bD.k4 (bD.ah bB N λq a e=>?_)) λq _ a=>?_
    .subst e
     rcases a with (a|a)|a
     .exact(d.bv _ a).2.2.1 rfl
     .omega
     .omega
    .rcases a with (a|a)|a
     .exact(d.bv q a).1
     .omega
     .omega
   .exact c9.bg (cW.sd (cW.ah (cW.ah (cW.ext bA z) ab λq a e=>(d.bv q e.2).2.2.2 a) N λq a e=>(d.aO q a).2.2 e)) λq _ a=>(d.aO q a).1
  have bF:(ir n key val).leaf=n.leaf:=by unfold ir;rw[if_neg (by rw[H];simp)]
  have bG:Ext w F:=Ext.d_ (Ext.d_ (a2.trans z) ab λk c=>I) N λk c=>by omega
  have bJ:Var F w1.heap.size [false,(),(),()] 169:=by
   have h1:=aR.ext (L.trans x);have h2:=(h1.ah aa (λe=>by have:=e.1;omega)).ah u I;exact((h2.ext z).ah ab (λe=>by have:=e.1;omega)).ah N I
  rw[aA,aA];refine⟨_,lJ,S,ay,cC,az,aF,a8,?_⟩;have:=jL n.leaf S cC aF bJ rfl (Q:=λb K V D ai=>oS (ir n key val) w (.tuple #[.agg #[b,K,V,D],true]) ai) λcg a9=>⟨S,cC,aF,by unfold dz;rw[bF],(bE.ah a9 λq a e=>I).bg λq _ a=>I,Ext.cp bG a9 I⟩;simpa only[aA] using this
def sh(n:aG)(key:Key)(w:J)(v:aa)(w':J):Prop:=
 if iq n.keys key then oS (mQ n key) w v w' else v=.tuple #[dz im bM bM bM,false]/\Ext w w'
theorem rH{tk:ad}(h:b7 B w n K V D)(hs:hT n)(a5:n.keys.length<=10000)(d:Src 1 w tk (aC key)):
 aH aj 130 #[dz n K V D,tk] w (sh n key w):=by
 have a7:=hs.len;have a8:n.kids.length=0:=by rw[hs.kids];rfl
 refine okF (ae.rH n.leaf K V D tk) ax.rH func130 ?_;(delta ae.rH z5 aW Y al lG rm ak bP ov rj gH bH ar st db ri;dsimp only);refine a6 (vs:=[n.leaf,K,V,D]) rfl λw1 E au a9=>?_;refine a6 (vs:=[false,(),(),()]) rfl λai av A a_=>?_;have F:=au.trans A;obtain⟨b9,aZ,bo,bt⟩:=bT (E.ext A);refine⟨_,b9,K,aZ,V,bo,D,bt,(nr (h.ext F) (d.ext F) hs.fg I).use ?_⟩;rintro _ aw ⟨rfl,s⟩;have T:=F.trans s;obtain⟨b9,aZ,bo,bt⟩:=bT (E.ext (A.trans s));refine⟨_,_,rfl,n.leaf,b9,cc (λb w'=>b=false/\Ext aw w') (λq a=>⟨λf=>?_,λf=>⟨_,b9,K,aZ,V,bo,D,bt,(kZ (h.ext T) I I I).use ?_⟩⟩) ?_⟩
 .rw[hs.leaf]at f;cases f
 .rintro _ U ⟨b,rfl,aB,o⟩
  have:=aB.2 (.inl hs);subst this;exact⟨true,rfl,a _ _ ⟨rfl,o⟩⟩
 rintro _ U ⟨rfl,o⟩;have G:=T.trans o;have ba:=o.size;have bb:=s.size;have W:=av.ext (s.trans o);refine⟨λf=>?_,λf=>?_⟩
 .have f:iq n.keys key=false:=by simpa using f
  refine jL false bM bM bM W rfl (Q:=λb K V D ai=>sh n key w (.tuple #[.agg #[b,K,V,D],false]) ai) λX aE=>?_;unfold sh;rw[if_neg (by rw[f];simp)];exact⟨rfl,Ext.cp G aE I⟩
 have Z:iq n.keys key=true:=by simpa using f
 have aI:cT n.keys key<n.keys.length:=(kn.1 (b2 Z)).1;obtain⟨b9,aZ,bo,bt⟩:=bT (E.ext (A.trans (s.trans o)));refine⟨_,b9,K,aZ,V,bo,D,bt,(gb (h.ext G) I I I hs.eB.1 hs.eB.2).use ?_⟩;rintro _ X ⟨p,g,aF,bX,cd,bL,rfl,j,H⟩;have aJ:=G.trans H;have bc:=H.size;refine⟨n.leaf,p,g,aF,rfl,a6 (vs:=[false,(),(),()]) rfl λbd aa L be=>⟨aa.ct rfl ?_,rfl,cP aa (us:=[n.leaf,p,g,aF]) rfl rfl λt ab C bf=>?_⟩⟩
 .intro v ac
  simp only[cZ,e2,e_]at ac;rcases ac with rfl|rfl|rfl|rfl<;>trivial
 obtain⟨aV,aK⟩:=U6 X.heap.size;rw[←aK]at ab C⊢;obtain⟨lo,aL⟩:=U6 U.heap.size;rw[←aL]at j;have aM:Ext w t:=Ext.cp (aJ.trans L) C I;have aN:Var t w1 [false,(),(),()] 169:=((W.ext H).ext L).ah C I;have c:iK lo t aV n p g aF bX cd bL:=by
  have r:gB lo t n p g aF bX cd bL:=(j.ext L).ah C λq _ _ a e=>by
   subst e;rcases a with a|a|a
   .have:=(j.cm _ a).2.1;omega
   .have:=(j.bv _ a).2.1;omega
   .have:=(j.aO _ a).2;omega
  refine⟨ab,r.keys,r.vals,r.kids,λq a=>?_,λq a=>?_,λq a=>?_,I⟩
  .have h1:=r.cm q a;have:=(j.cm q a).2.1;exact⟨h1.1,h1.2.1,I,h1.2.2⟩
  .have h1:=r.bv q a;have:=(j.bv q a).2.1;exact⟨h1.1,h1.2.1,I,h1.2.2⟩
  .have h1:=r.aO q a;have:=(j.aO q a).2;exact⟨h1.1,h1.2,I⟩
 have af:∀k,aD p k->bX k:=λk d=>by obtain⟨ts,_,_,M,_⟩:=c.keys;exact(M k d).1
 have am:∀k,aD g k->cd k:=λk d=>by obtain⟨ts,_,_,M,_⟩:=c.vals;exact(M k d).1
 obtain⟨d0,d1,d2,d3⟩:=bT c.v;have bh:=c.v.lt;rw[bq (n:=((cT n.keys key:Nat):Int)+1) I I];refine⟨p,d1,(Eu c.keys I aI).use ?_⟩;rintro _ N ⟨S,rfl,aP,aQ⟩;have u:ag (λq=>lo<=q/\bX q) t N:=aQ.mono λk _ d=>⟨(c.cm k (af k d)).1,af k d⟩;have an:=c.v.ah u λe=>(c.cm _ e.2).2.2.1 rfl;obtain⟨s1,s2⟩:=ez an (i:=1) U9;refine⟨S,rfl,?_⟩;rw[aA,aA];refine⟨s1,s2,aT ?_⟩;obtain⟨l,O⟩:=U6 (N.setCell ⟨aV,0+1,none⟩ S);rw[←O];have x:ag (λq=>q=aV) N l:=by rw[O];exact dU _ _ _ _
 have ao:Var l aV [n.leaf,S,g,aF] 169:=by rw[O];exact eE an _
 have aR:bD bX l S (n.keys.take (cT n.keys key)++n.keys.drop (cT n.keys key+1)):=bD.ah aP x λq a e=>(c.cm q a).2.2.1 e;have aS:bD cd l g n.vals:=bD.ah (bD.ah c.vals u λq a e=>(c.cm q e.2).2.2.2.1 a) x λq a e=>(c.bv q a).2.2.1 e;have aU:cW bL l aF n.kids:=cW.ah (cW.ah c.kids u λq a e=>(c.cm q e.2).2.2.2.2 a) x λq a e=>(c.aO q a).2.2 e;obtain⟨f0,f1,f2,f3⟩:=bT ao;rw[aA]at f2;refine⟨g,f2,(Eu aS I I).use ?_⟩;rintro _ P ⟨cC,rfl,aX,aY⟩;have y:ag (λq=>lo<=q/\cd q) l P:=aY.mono λk _ d=>⟨(c.bv k (am k d)).1,am k d⟩;have ap:=ao.ah y λe=>(c.bv _ e.2).2.2.1 rfl;obtain⟨s1,s2⟩:=ez ap (i:=2) U9;refine⟨cC,rfl,?_⟩;rw[aA,aA];refine⟨s1,s2,aT ?_⟩;obtain⟨m,R⟩:=U6 (P.setCell ⟨aV,0+2,none⟩ cC);rw[←R];have z:ag (λq=>q=aV) P m:=by rw[R];exact dU _ _ _ _
 have a0:Var m aV [n.leaf,S,cC,aF] 169:=by rw[R];exact eE ap _
 obtain⟨lJ,ay,az,a1⟩:=bT a0;have a2:b7 (λq=>lo<=q) m (mQ n key) S cC aF:=by
  refine⟨?_,?_,?_⟩
  .exact bW.bg (bD.k4 (bD.ah (bD.ah aR y λq a e=>(c.cm q a).2.2.2.1 e.2) z λq a e=>(c.cm q a).2.2.1 e)) λq _ a=>(c.cm q a).1
  .exact bW.bg (bD.k4 (bD.ah aX z λq a e=>(c.bv q a).2.2.1 e)) λq _ a=>(c.bv q a).1
  .exact c9.bg (cW.sd (cW.ah (cW.ah aU y λq a e=>(c.bv q e.2).2.2.2 a) z λq a e=>(c.aO q a).2.2 e)) λq _ a=>(c.aO q a).1
 have a3:Ext w m:=Ext.d_ (Ext.d_ (Ext.d_ (Ext.d_ aM u λk d=>I) x λk d=>I) y λk d=>I) z λk d=>by omega
 have a4:Var m w1 [false,(),(),()] 169:=
  (((aN.ah u (λe=>by have:=e.1;omega)).ah x I).ah y (λe=>by have:=e.1;omega)).ah z I
 refine⟨_,lJ,S,ay,cC,az,aF,a1,jL n.leaf S cC aF a4 rfl (Q:=λb K V D ai=>sh n key w (.tuple #[.agg #[b,K,V,D],true]) ai) λbi aq=>?_⟩;unfold sh;rw[if_pos Z];exact⟨S,cC,aF,rfl,(a2.ah aq λq a e=>I).bg λq _ a=>I,Ext.cp a3 aq I⟩
theorem A1(hs:cM n)(m:Nat):((cellsOf n).take m).sum<=100*n.keys.length:=by
 have h1:((cellsOf n).take m).sum<=(cellsOf n).sum:=by
  have:=Ay (cellsOf n) m;omega
 have h2:=AH hs n.keys.length (bk _);rw[dO (by rw[r_ hs];exact bk _)]at h2;have a:=AP hs n.keys.length (bk _);omega
theorem oC(h:b7 B w n K V D)(hs:cM n)(G:n.keys.length<=10000){most:Nat}(H:most<=n.keys.length):
 aH aj 282 #[dz n K V D,most] w (λv w'=>v=.int .i64 ((gZ (cellsOf n) most:Nat):Int)/\Ext w w'):=by
 refine okF (ae.oC n.leaf K V D (most:Int)) ax.oC func282 ?_;(delta ae.oC al Y ak aW bH ar;dsimp only);refine a6 (vs:=[n.leaf,K,V,D]) rfl λw1 o d _=>?_;obtain⟨b9,aZ,bo,bt⟩:=bT o;have L:=bW.len h.keys;have M:=r_ hs;have x:∀ (j:Nat) (f:j<(cellsOf n).length),(cellsOf n)[j]=(g8 n j).length:=λj f=>by
  have h1:=AG hs (i:=j) I;rw[dR f]at h1;exact Option.some.inj h1
 refine⟨K,aZ,λa i w'=>∃j:Nat,i=j/\j<=n.keys.length/\a=((((cellsOf n).take j).sum:Nat):Int)/\Ext w1 w',λ_ i _=>((n.keys.length:Int)-i).toNat,⟨0,rfl,cI _,by simp,.refl _ _⟩,?_⟩;rintro _ _ ai ⟨j,rfl,f,rfl,g⟩;obtain⟨d0,d1,d2,d3⟩:=bT (o.ext g);refine⟨λaI=>?_,λb=>?_⟩
 .have aI:j<n.keys.length:=U4 (b2 aI)
  refine⟨_,d0,K,d1,V,d2,D,d3,(oB (h.ext (d.trans g)) hs aI I).use ?_⟩;rintro _ N ⟨s,rfl,p,A,_⟩;have q:=mO p;have C:=A1 hs j;have hc:=yk hs aI;have e:=r6 (l:=cellsOf n) (i:=j) I;rw[x j I]at e;refine⟨s,rfl,?_⟩;rw[q,bq (n:=((((cellsOf n).take j).sum:Nat):Int)+(((g8 n j).length:Nat):Int)) I I,bq (n:=(j:Int)+1) I I];refine⟨⟨j+1,I,I,I,g.trans A⟩,?_⟩;show((n.keys.length:Int)-((j:Int)+1)).toNat<((n.keys.length:Int)-(j:Int)).toNat;omega
 have b:j=n.keys.length:=U4 (cr b)
 subst b;rw[dO (l:=cellsOf n) I];refine⟨λa i w'=>∃j:Nat,i=j/\j<=most/\a=((((cellsOf n).take j).sum:Nat):Int)/\Ext w1 w'/\∀k,k<j->2*((cellsOf n).take (k+1)).sum<(cellsOf n).sum,λ_ i _=>((most:Int)-i).toNat,⟨0,rfl,cI _,by simp,g,λk E=>I⟩,?_⟩;rintro _ _ O ⟨j,rfl,f,rfl,c,r⟩;obtain⟨d0,d1,d2,d3⟩:=bT (o.ext c);have F:=A1 hs (cellsOf n).length;rw[ic]at F;refine⟨λaI=>?_,λb=>?_⟩
 .have aI:j<most:=U4 (b2 aI)
  refine⟨_,d0,K,d1,V,d2,D,d3,(oB (h.ext (d.trans c)) hs I I).use ?_⟩;rintro _ P ⟨s,rfl,p,y,_⟩;have q:=mO p;have C:=A1 hs j;have hc:=yk hs (i:=j) I;have e:=r6 (l:=cellsOf n) (i:=j) I;rw[x j I]at e;refine⟨s,rfl,?_⟩;rw[q,bq (n:=((((cellsOf n).take j).sum:Nat):Int)+(((g8 n j).length:Nat):Int)) I I,bq (n:=2*(((((cellsOf n).take j).sum:Nat):Int)+(((g8 n j).length:Nat):Int))) I I,bq (n:=(j:Int)+1) I I];refine⟨λhd=>⟨?_,d.trans (c.trans y)⟩,λhd=>⟨⟨j+1,I,I,I,c.trans y,λk E=>?_⟩,?_⟩⟩
  .have hd:=b2 hd
   have t:(List.range most).find? (λi=>decide ((cellsOf n).sum<=2*((cellsOf n).take (i+1)).sum))=some j:=by
    have:=fO aI (bk most);rw[List.find?_eq_some_iff_append];refine⟨dh I,List.range j,List.range' (j+1) (most-(j+1)),?_,λa u=>?_⟩
    .have z:=List.range'_append (s:=0) (m:=j) (n:=most-(j+1)+1) (step:=1)
     rw[uU,uU,←List.range'_succ];rw[Nat.one_mul,cA]at z;rw[z]
     congr 1
     omega
    .have:=r a (jS.1 u)
     simp;omega
   unfold gZ;rw[t];rfl
  .have hd:=cr hd
   rcases dV k j with h1|h1
   .exact r k h1
   .have:k=j:=I
    subst this;omega
  .show((most:Int)-((j:Int)+1)).toNat<((most:Int)-(j:Int)).toNat
   omega
 .have b:j=most:=U4 (cr b)
  subst b;refine⟨?_,d.trans c⟩;have t:(List.range j).find? (λi=>decide ((cellsOf n).sum<=2*((cellsOf n).take (i+1)).sum))=none:=by
   rw[jX];intro a u;have:=r a (jS.1 u);simp;omega
  unfold gZ;rw[t]
theorem bW.sub{hi:Nat}(h:bW B w s ls)(h1:lo<=hi)(h2:hi<=ls.length):bW B w ⟨a7 s.a 1 lo s.cap,hi-lo,s.cap-lo⟩ ((ls.drop lo).take (hi-lo)):=by
 have l:=bW.len h;obtain⟨ts,ay,az,b,c,d⟩:=h;refine⟨(ts.drop lo).take (hi-lo),by simp[ay],?_,by show hi-lo<=s.cap-lo;omega,λk e=>?_,λi f g=>?_⟩
 .have:=Src.sub az b h1 I
  simpa[m4,mu] using this
 .obtain⟨A,av,j⟩:=ym e
  exact c k ⟨A,av,j⟩
 .simp only[pb,u6]
  rw[cF,eH]at f g;exact d (lo+i) I I
theorem bW.le(h:bW B w s ls):s.len<=s.cap:=by
 obtain⟨ts,_,_,a,_⟩:=h;exact a
theorem c9.sub{hi:Nat}(h:c9 B w s ds)(h1:lo<=hi)(h2:hi<=ds.length):c9 B w ⟨a7 s.a 1 lo s.cap,hi-lo,s.cap-lo⟩ ((ds.drop lo).take (hi-lo)):=by
 have f:=c9.len h;obtain⟨az,b,c⟩:=h;have g:s.len<=s.cap:=b;refine⟨?_,by show hi-lo<=s.cap-lo;omega,λk d=>?_⟩
 .have:=Src.sub az b h1 I
  simpa[ej,m4,mu] using this
 .obtain⟨A,av,e⟩:=ym d
  exact c k ⟨A,av,e⟩
theorem qk(b:ao)(K V D:ad):∀v∈([b,K,V,D]:O aa),Plain v:=by
 intro v a;simp only[cZ,e2,e_]at a;rcases a with rfl|rfl|rfl|rfl<;>trivial
theorem Ev{c:J}{r1 cq:Nat}{A2 A3:O aa}{cH ck:ao}{fL gC bZ dY eA dn:ad}(h1:Var c r1 A2 169)(h2:Var c cq A3 169)(jq:A2.length=4)(n:A3.length=4)(o:r1≠cq)(cv:∀q,q=r1->W q)
 {Q:ao->ad->ad->ad->ao->ad->ad->ad->U2} (u:∀b,ag (λq=>q=r1\/q=cq) c b->Q cH fL gC bZ ck dY eA dn b):
 bp c r1 [cH,fL,gC,bZ]/\(4:Nat)=4/\an (setCells c r1 0 [cH,fL,gC,bZ]) λd=>
  ag W c d/\bp d cq [ck,dY,eA,dn]/\(4:Nat)=4/\an (setCells d cq 0 [ck,dY,eA,dn]) λb=>
  ∃p:ao,b.cell? r1=some (.bool p)/\∃f:ad,b.cell? (Addr.add r1 1)=some (.slice f.a f.len f.cap)/\∃g:ad,b.cell? (Addr.add r1 2)=some (.slice g.a g.len g.cap)/\∃i:ad,b.cell? (Addr.add r1 3)=some (.slice i.a i.len i.cap)/\
  ∃r:ao,b.cell? cq=some (.bool r)/\∃j:ad,b.cell? (Addr.add cq 1)=some (.slice j.a j.len j.cap)/\∃k:ad,b.cell? (Addr.add cq 2)=some (.slice k.a k.len k.cap)/\∃l:ad,b.cell? (Addr.add cq 3)=some (.slice l.a l.len l.cap)/\Q p f g i r j k l b:=by
 refine⟨h1.ct (by rw[jq];rfl) (qk _ _ _ _),rfl,cP h1 (us:=[cH,fL,gC,bZ]) (by rw[jq];rfl) rfl λd v m _=>?_⟩;have s:=h2.ah m (λe=>o e.symm);refine⟨m.mono λq _ h=>cv q h,s.ct (by rw[n];rfl) (qk _ _ _ _),rfl,cP s (us:=[ck,dY,eA,dn]) (by rw[n];rfl) rfl λb w t _=>?_⟩;obtain⟨b9,aZ,bo,bt⟩:=bT (v.ah t o);obtain⟨d0,d1,d2,d3⟩:=bT w;exact⟨cH,b9,fL,aZ,gC,bo,bZ,bt,ck,d0,dY,d1,eA,d2,dn,d3,u b ((m.mono λq _ h=>.inl h).trans (t.mono λq _ h=>.inr h))⟩
def yp(n:aG)(w:J)(v:aa)(w':J):Prop:=
 ∃ (fL gC bZ dY eA dn t:ad),v=.tuple #[dz (n.left (cD n)) fL gC bZ,t,dz (n.right (cD n)) dY eA dn,true]/\
  b7 (λq=>w<=q) w' (n.left (cD n)) fL gC bZ/\b7 (λq=>w<=q) w' (n.right (cD n)) dY eA dn/\bI (λq=>w<=q) w' t (n.keys.getD (cD n) [])/\Ext w w'
theorem rW(h:b7 B w n K V D)(hs:cM n)(ay:n.keys.length<=10000)(dW:1<=cD n)
 (C:if n.leaf then cD n<=n.keys.length-1/\1<=n.keys.length-1 else cD n<=n.keys.length-2/\1<=n.keys.length-2):
 aH aj 281 #[dz n K V D] w (yp n w):=by
 have bR:n.vals.length<=10000:=by
  rcases hs with hs|hs
  .rw[hs.len];omega
  .rw[hs.vals];simp
 have bS:n.kids.length<=10001:=by
  rcases hs with hs|hs
  .rw[hs.kids];simp
  .rw[hs.len];omega
 have ab:∀k∈n.keys,k.length<=100000:=λk l=>by have:=(hs.keys.ok k l).2;omega
 have ao:∀k∈n.vals,k.length<=100000:=λk l=>by have:=hs.vals k l;omega
 have bU:=bW.len h.keys;obtain⟨most,af⟩:=U6 (if n.leaf then n.keys.length-1 else n.keys.length-2)
 have ap:1<=most/\most<=n.keys.length/\cD n<=most:=by
  rw[af]
  cases u:n.leaf<;>rw[u]at C<;>simp at C⊢<;>omega
 have aq:cD n<n.keys.length:=by
  cases u:n.leaf<;>rw[u]at C<;>simp at C<;>omega
 refine okF (ae.rW n.leaf K V D) ax.rW func281 ?_;(delta ae.rW z5 al Y aW ak ar bP gH bB wk aO bH z6 zY g_ z7 zW;dsimp only);refine a6 (vs:=[n.leaf,K,V,D]) rfl λw1 aY bb bV=>?_;refine a6 (vs:=[false,(),(),()]) rfl λai bc az bY=>?_;refine a6 (vs:=[false,(),(),()]) rfl λbd be au b0=>?_;have a0:=bb.trans (az.trans au);obtain⟨b9,aZ,bo,bt⟩:=bT ((aY.ext az).ext au);refine⟨K,aZ,cc (λm w'=>m=(most:Int)/\bd=w') (λq f=>⟨n.leaf,b9,λL=>f _ _ ⟨?_,rfl⟩,λL=>f _ _ ⟨?_,rfl⟩⟩) ?_⟩
 .have L:n.leaf=false:=by simpa using L
  rw[L]at C af;simp at C af;rw[bq (n:=(K.len:Int)-1) I I,bq I I];omega
 .have L:n.leaf=true:=by simpa using L
  rw[L]at C af;simp at C af;rw[bq I I];omega
 rintro _ _ ⟨rfl,rfl⟩;refine⟨_,b9,K,aZ,V,bo,D,bt,(kZ (h.ext a0) I I I).use ?_⟩;rintro _ v ⟨b,rfl,L,am⟩;have bf:=L.2 hs;subst bf;have an:=cw v;have S:=a0.trans (am.trans an);have aw:=((aY.ext az).ext au).ext (am.trans an);have aB:=(bc.ext au).ext (am.trans an);have aC:=be.ext (am.trans an);have b1:=(am.trans an).size;obtain⟨b9,aZ,bo,bt⟩:=bT aw;have b3:v.drew.heap.size=v.heap.size:=rfl;have fin:∀ (g aE:J) (aV:Nat) (c d aF:ad) (bX cd bL:U1),Ext w g->v.heap.size<=aV/\v.heap.size<=g.heap.size->Var g aV [n.leaf,c,d,aF] 169->gB v.heap.size g n c d aF bX cd bL->Var g w.heap.size [n.leaf,K,V,D] 169->Var g w1.heap.size [false,(),(),()] 169->Var g ai.heap.size [false,(),(),()] 169->aE.heap.size=aV->ae.DA w w1 ai aE ((gZ (cellsOf n) most:Nat):Int) g (yp n w):=λg aE aV c d aF bX cd bL E ⟨M,b4⟩ F N T U W bh=>by
  have bi:gZ (cellsOf n) most=cD n:=by unfold cD;rw[af]
  rw[bi];(delta ae.DA wk al Y aO bH aW ak z6 zY g_ gH ar z7 zW jb;dsimp only);rw[bh];obtain⟨i,hi⟩:=U6 (cD n);rw[←hi]at aq ap dW;rw[←hi];obtain⟨a1,a2,bj,bk⟩:=bT T;obtain⟨A,t,av,bl,hc,ht,_⟩:=bW.at (h.ext E).keys aq;refine⟨K,a2,A,av,bl,t,hc,(mP (B:=λq=>w.heap.size<=q) ht.1 (by have:=ab _ (cJ aq);omega) (λq f=>eO E.size f)).use ?_⟩;rintro _ G ⟨tk,rfl,a3,aI,a4⟩;have aJ:=cw G;obtain⟨a1,a2,bj,bk⟩:=bT (T.ext aI);have H:=aI.trans aJ;obtain⟨f0,f1,f2,f3⟩:=bT (F.ext H);have y:=N.at.ext H;have b5:=bW.len y.keys;have b6:=bW.len y.vals;have b8:=c9.len y.kids;have b_:=bW.le (bD.k4 N.keys);have ca:=bW.le (bD.k4 N.vals);have cb:aF.len<=aF.cap:=y.kids.2.1;have ce:g.heap.size<=G.heap.size:=aI.size;have a5:n.keys.getD i []=n.keys[i]:=fB aq;refine⟨tk,rfl,n.leaf,a1,λu=>aT ⟨λq=>q=w1.heap.size,λe=>?_,c,f1,⟨I,I⟩,λe=>?_,d,f2,⟨I,?_⟩,#[true,.slice (a7 c.a 1 0 c.cap) i c.cap,.slice (a7 d.a 1 0 d.cap) i d.cap,()],(λw=>by kernel_rfl),λe=>?_,c,f1,⟨I,I⟩,λe=>?_,d,f2,⟨I,?_⟩,#[true,.slice (a7 c.a 1 i c.cap) (c.len-i) (c.cap-i),.slice (a7 d.a 1 i d.cap) (d.len-i) (d.cap-i),()],(λw=>by kernel_rfl),?_⟩,λu=>?_⟩
  .rw[aA]at e;have e:aV=w1.heap.size:=e;omega
  .rw[aA]at e;have e:aV=w1.heap.size:=e;omega
  .have:=hs.uh u;omega
  .rw[aA]at e;have e:aV=w1.heap.size:=e;omega
  .rw[aA]at e;have e:aV=w1.heap.size:=e;omega
  .have:=hs.uh u;omega
  .have bm:=hs.uh u
   have o:n.left i=⟨true,n.keys.take i,n.vals.take i,[]⟩:=by unfold aG.left;rw[u];rfl
   have p:n.right i=⟨true,n.keys.drop i,n.vals.drop i,[]⟩:=by unfold aG.right;rw[u];rfl
   have aK:b7 (λq=>v.heap.size<=q) G.drew (n.left i) ⟨a7 c.a 1 0 c.cap,i,c.cap⟩ ⟨a7 d.a 1 0 d.cap,i,d.cap⟩ bM:=by
    rw[o];refine⟨?_,?_,c9.none _ _⟩
    .have:=bW.sub y.keys (lo:=0) (hi:=i) I I
     simpa using this
    .have:=bW.sub y.vals (lo:=0) (hi:=i) I I
     simpa using this
   have aL:b7 (λq=>v.heap.size<=q) G.drew (n.right i) ⟨a7 c.a 1 i c.cap,c.len-i,c.cap-i⟩ ⟨a7 d.a 1 i d.cap,d.len-i,d.cap-i⟩ bM:=by
    rw[p];refine⟨?_,?_,c9.none _ _⟩
    .have:=bW.sub y.keys (lo:=i) (hi:=c.len) I I
     rwa[dO (by rw[eH];omega)]at this
    .have:=bW.sub y.vals (lo:=i) (hi:=d.len) I I
     rwa[dO (by rw[eH];omega)]at this
   have aM:=gb aK (by rw[o];show(n.keys.take i).length<=_;rw[cF];omega) (by rw[o];show(n.vals.take i).length<=_;rw[cF];omega) (by rw[o];simp) (by rw[o];exact λk l=>ab k (fq l)) (by rw[o];exact λk l=>ao k (fq l));have aN:(.agg #[true,.slice (a7 c.a 1 0 c.cap) i c.cap,.slice (a7 d.a 1 0 d.cap) i d.cap,()]:aa)=dz (n.left i) ⟨a7 c.a 1 0 c.cap,i,c.cap⟩ ⟨a7 d.a 1 0 d.cap,i,d.cap⟩ bM:=by rw[o];rfl
   have aP:(.agg #[true,.slice (a7 c.a 1 i c.cap) (c.len-i) (c.cap-i),.slice (a7 d.a 1 i d.cap) (d.len-i) (d.cap-i),()]:aa)=dz (n.right i) ⟨a7 c.a 1 i c.cap,c.len-i,c.cap-i⟩ ⟨a7 d.a 1 i d.cap,d.len-i,d.cap-i⟩ bM:=by rw[p];rfl
   rw[aN,aP];refine aM.use ?_;rintro _ bn ⟨fL,gC,bZ,bp,br,bs,rfl,aQ,O⟩;have aR:=gb (aL.ext O) (by rw[p];show(n.keys.drop i).length<=_;rw[eH];omega) (by rw[p];show(n.vals.drop i).length<=_;rw[eH];omega) (by rw[p];simp) (by rw[p];exact λk l=>ab k (fZ l)) (by rw[p];exact λk l=>ao k (fZ l));refine⟨_,fL,gC,bZ,rfl,ag.cX O,aR.use ?_⟩;rintro _ bu ⟨dY,eA,dn,bw,bx,bz,rfl,aS,ac⟩;have P:=O.trans ac;have bA:=O.size;have bC:=H.size;refine⟨_,dY,eA,dn,rfl,ag.cX ac,Ev (cH:=(n.left i).leaf) (ck:=(n.right i).leaf) (fL:=fL) (gC:=gC) (bZ:=bZ) (dY:=dY) (eA:=eA) (dn:=dn) ((U.ext H).ext P) ((W.ext H).ext P) rfl rfl I (λq f=>f) (Q:=λcH fL gC bZ ck dY eA dn w'=>yp n w (.tuple #[.agg #[cH,fL,gC,bZ],tk,.agg #[ck,dY,eA,dn],true]) w') λbE R=>?_⟩;have bF:G.drew.heap.size=G.heap.size:=rfl;refine⟨fL,gC,bZ,dY,eA,dn,tk,by rw[←hi];rfl,?_,?_,?_,?_⟩
   .rw[←hi];exact((aQ.at.ext ac).ah R λq f e=>I).bg λq _ f=>by omega
   .rw[←hi];exact(aS.at.ah R λq f e=>I).bg λq _ f=>by omega
   .rw[←hi,a5]
    have aU:∀q,aD tk q->g.heap.size<=q:=a4;exact bI.k3 (bI.ext (bI.ext a3 aJ) P) R λq f e=>by have:=aU q f;omega
   .exact Ext.d_ (E.trans (H.trans P)) R λq f=>by omega
  .have bm:=hs.yj u
   have cf:i<=n.keys.length-2/\1<=n.keys.length-2:=by rw[u,←hi]at C;simpa using C
   have bG:IntKind.wrap .i64 ((i:Int)+1)=((i+1:Nat):Int):=by rw[bq I I];rfl
   rw[bG];refine aT ⟨λq=>q=w1.heap.size,λe=>?_,c,f1,⟨I,I⟩,λe=>?_,aF,f3,⟨I,I⟩,#[false,.slice (a7 c.a 1 0 c.cap) i c.cap,(),.slice (a7 aF.a 1 0 aF.cap) (i+1) aF.cap],(λw=>by kernel_rfl),λe=>?_,c,f1,⟨I,I⟩,λe=>?_,aF,f3,⟨I,I⟩,#[false,.slice (a7 c.a 1 (i+1) c.cap) (c.len-(i+1)) (c.cap-(i+1)),(),.slice (a7 aF.a 1 (i+1) aF.cap) (aF.len-(i+1)) (aF.cap-(i+1))],(λw=>by kernel_rfl),?_⟩
   .rw[aA]at e;have e:aV=w1.heap.size:=e;omega
   .rw[aA]at e;have e:aV=w1.heap.size:=e;omega
   .rw[aA]at e;have e:aV=w1.heap.size:=e;omega
   .rw[aA]at e;have e:aV=w1.heap.size:=e;omega
   have o:n.left i=⟨false,n.keys.take i,[],n.kids.take (i+1)⟩:=by unfold aG.left;rw[u];rfl
   have p:n.right i=⟨false,n.keys.drop (i+1),[],n.kids.drop (i+1)⟩:=by unfold aG.right;rw[u];rfl
   have aK:b7 (λq=>v.heap.size<=q) G.drew (n.left i) ⟨a7 c.a 1 0 c.cap,i,c.cap⟩ bM ⟨a7 aF.a 1 0 aF.cap,i+1,aF.cap⟩:=by
    rw[o];refine⟨?_,bW.none _ _,?_⟩
    .have:=bW.sub y.keys (lo:=0) (hi:=i) I I
     simpa using this
    .have:=c9.sub y.kids (lo:=0) (hi:=i+1) I I
     simpa using this
   have aL:b7 (λq=>v.heap.size<=q) G.drew (n.right i) ⟨a7 c.a 1 (i+1) c.cap,c.len-(i+1),c.cap-(i+1)⟩ bM ⟨a7 aF.a 1 (i+1) aF.cap,aF.len-(i+1),aF.cap-(i+1)⟩:=by
    rw[p];refine⟨?_,bW.none _ _,?_⟩
    .have:=bW.sub y.keys (lo:=i+1) (hi:=c.len) I I
     rwa[dO (by rw[eH];omega)]at this
    .have:=c9.sub y.kids (lo:=i+1) (hi:=aF.len) I I
     rwa[dO (by rw[eH];omega)]at this
   have aM:=gb aK (by rw[o];show(n.keys.take i).length<=_;rw[cF];omega) (by rw[o];simp) (by rw[o];show(n.kids.take (i+1)).length<=_;rw[cF];omega) (by rw[o];exact λk l=>ab k (fq l)) (by rw[o];simp);have aN:(.agg #[false,.slice (a7 c.a 1 0 c.cap) i c.cap,(),.slice (a7 aF.a 1 0 aF.cap) (i+1) aF.cap]:aa)=dz (n.left i) ⟨a7 c.a 1 0 c.cap,i,c.cap⟩ bM ⟨a7 aF.a 1 0 aF.cap,i+1,aF.cap⟩:=by rw[o];rfl
   have aP:(.agg #[false,.slice (a7 c.a 1 (i+1) c.cap) (c.len-(i+1)) (c.cap-(i+1)),(),.slice (a7 aF.a 1 (i+1) aF.cap) (aF.len-(i+1)) (aF.cap-(i+1))]:aa)=dz (n.right i) ⟨a7 c.a 1 (i+1) c.cap,c.len-(i+1),c.cap-(i+1)⟩ bM ⟨a7 aF.a 1 (i+1) aF.cap,aF.len-(i+1),aF.cap-(i+1)⟩:=by rw[p];rfl
   rw[aN,aP];refine aM.use ?_;rintro _ bn ⟨fL,gC,bZ,bp,br,bs,rfl,aQ,O⟩;have aR:=gb (aL.ext O) (by rw[p];show(n.keys.drop (i+1)).length<=_;rw[eH];omega) (by rw[p];simp) (by rw[p];show(n.kids.drop (i+1)).length<=_;rw[eH];omega) (by rw[p];exact λk l=>ab k (fZ l)) (by rw[p];simp);refine⟨_,fL,gC,bZ,rfl,ag.cX O,aR.use ?_⟩;rintro _ bu ⟨dY,eA,dn,bw,bx,bz,rfl,aS,ac⟩;have P:=O.trans ac;have bA:=O.size;have bC:=H.size;refine⟨_,dY,eA,dn,rfl,ag.cX ac,Ev (cH:=(n.left i).leaf) (ck:=(n.right i).leaf) (fL:=fL) (gC:=gC) (bZ:=bZ) (dY:=dY) (eA:=eA) (dn:=dn) ((U.ext H).ext P) ((W.ext H).ext P) rfl rfl I (λq f=>f) (Q:=λcH fL gC bZ ck dY eA dn w'=>yp n w (.tuple #[.agg #[cH,fL,gC,bZ],tk,.agg #[ck,dY,eA,dn],true]) w') λbE R=>?_⟩;have bF:G.drew.heap.size=G.heap.size:=rfl;refine⟨fL,gC,bZ,dY,eA,dn,tk,by rw[←hi];rfl,?_,?_,?_,?_⟩
   .rw[←hi];exact((aQ.at.ext ac).ah R λq f e=>I).bg λq _ f=>by omega
   .rw[←hi];exact(aS.at.ah R λq f e=>I).bg λq _ f=>by omega
   .rw[←hi,a5]
    have aU:∀q,aD tk q->g.heap.size<=q:=a4;exact bI.k3 (bI.ext (bI.ext a3 aJ) P) R λq f e=>by have:=aU q f;omega
   .exact Ext.d_ (E.trans (H.trans P)) R λq f=>by omega
 refine⟨true,rfl,λh=>?_,λ_=>aT ⟨λ_=>False,id,_,b9,K,aZ,V,bo,D,bt,id,_,b9,K,aZ,V,bo,D,bt,⟨?_,?_⟩⟩⟩
 .simp only[Bool.not_true,jR]at h
  have:=b2 h;omega
 .refine(gb (h.ext S) I I I ab ao).use ?_
  rintro _ a8 ⟨c,d,aF,bX,cd,bL,rfl,X,z⟩;refine⟨n.leaf,c,d,aF,rfl,z,⟨?_,?_⟩⟩
  .refine(oC (h.ext (S.trans z)) hs ay (most:=most) ap.2.1).use ?_
   rintro _ aX ⟨rfl,r⟩;refine⟨_,rfl,r,a6 (vs:=[false,(),(),()]) rfl λa9 Z s a_=>⟨s,Z.ct rfl (qk _ _ _ _),rfl,cP Z (us:=[n.leaf,c,d,aF]) rfl rfl λg F j ba=>?_⟩⟩;have bJ:=z.size;have bK:=r.size;obtain⟨aV,M⟩:=U6 aX.heap.size;rw[←M]at F j⊢;have x:=z.trans (r.trans s);have N:gB v.heap.size g n c d aF bX cd bL:=(X.ext (r.trans s)).ah j λq _ _ f e=>by
    subst e;rcases f with f|f|f
    .have:=(X.cm _ f).2.1;omega
    .have:=(X.bv _ f).2.1;omega
    .have:=(X.aO _ f).2;omega
   have E:Ext w g:=Ext.cp (S.trans x) j I;have T:=(aw.ext x).ah j I;have U:=(aB.ext x).ah j I;have W:=(aC.ext x).ah j I;subst M;exact fin g _ _ c d aF bX cd bL E ⟨I,I⟩ F N T U W rfl
  .refine a6 (vs:=[false,(),(),()]) rfl λaX bN r cg=>⟨r,?_⟩
   refine(oC (h.ext (S.trans (z.trans r))) hs ay (most:=most) ap.2.1).use ?_;rintro _ a9 ⟨rfl,s⟩;have Z:=bN.ext s;refine⟨_,rfl,s,Z.ct rfl (qk _ _ _ _),rfl,cP Z (us:=[n.leaf,c,d,aF]) rfl rfl λg F j ba=>?_⟩;have bJ:=z.size;have a_:=s.size;obtain⟨aV,M⟩:=U6 a8.heap.size;rw[←M]at F j⊢;have x:=z.trans (r.trans s);have N:gB v.heap.size g n c d aF bX cd bL:=(X.ext (r.trans s)).ah j λq _ _ f e=>by
    subst e;rcases f with f|f|f
    .have:=(X.cm _ f).2.1;omega
    .have:=(X.bv _ f).2.1;omega
    .have:=(X.aO _ f).2;omega
   have E:Ext w g:=Ext.cp (S.trans x) j I;have T:=(aw.ext x).ah j I;have U:=(aB.ext x).ah j I;have W:=(aC.ext x).ah j I;subst M;exact fin g _ _ c d aF bX cd bL E ⟨I,I⟩ F N T U W rfl
 .refine a6 (vs:=[false,(),(),()]) rfl λa8 bO z ch=>⟨z,?_⟩
  refine(gb (h.ext (S.trans z)) I I I ab ao).use ?_;rintro _ aX ⟨c,d,aF,bX,cd,bL,rfl,bQ,r⟩;refine⟨n.leaf,c,d,aF,rfl,r,(oC (h.ext (S.trans (z.trans r))) hs ay (most:=most) ap.2.1).use ?_⟩;rintro _ a9 ⟨rfl,s⟩;have Z:=bO.ext (r.trans s);refine⟨_,rfl,s,Z.ct rfl (qk _ _ _ _),rfl,cP Z (us:=[n.leaf,c,d,aF]) rfl rfl λg F j ba=>?_⟩;have bK:=r.size;have a_:=s.size;obtain⟨aV,M⟩:=U6 v.drew.heap.size;rw[←M]at F j⊢;have x:=z.trans (r.trans s);have N:gB v.heap.size g n c d aF bX cd bL:=((bQ.ext s).ah j λq h1 _ _ e=>I).low I;have E:Ext w g:=Ext.cp (S.trans x) j I;have T:=(aw.ext x).ah j I;have U:=(aB.ext x).ah j I;have W:=(aC.ext x).ah j I;subst M;exact fin g _ _ c d aF bX cd bL E ⟨I,I⟩ F N T U W rfl
theorem A4{x:ad}{xs:O Key}(l:bD B w s ls)(hx:bW C w x xs)(hd:∀q,C q->¬aD s q)(v:ls.length<=100000)(y:xs.length<=100000):
 ∃ (d:ad) (w':J),Sem.run aj (Builtin.append_ #[93,93] 93 #[s,x]) w=.ok d w'/\bW (λq=>B q\/C q\/w<=q) w' d (ls++xs)/\ag (aD s) w w':=by
 have z:=bW.len hx;obtain⟨ts,h1,h2,m,n⟩:=l;obtain⟨us,ay,az,A,D,o⟩:=hx;have E:s.len=ls.length:=by have:=h2.1;rw[cU]at this;omega
 obtain⟨d,w',p,f,F,g,r⟩:=se.append (cB:=93) az h2 (yi us) I;refine⟨d,w',p,⟨ts++us,by simp[h1,ay],?_,f.2.1,?_,λi t G=>?_⟩,g⟩
 .rw[fP];exact f.src
 .intro k c
  refine⟨?_,f.lt k c⟩;rcases r k c with h|h
  .exact .inl (m k h).1
  .exact .inr (.inr h)
 .rcases dV i ts.length with h|h
  .have j:i<ls.length:=I
   rw[pd h,pd j];obtain⟨a,b⟩:=n i h j;exact bI.bg (bI.k3 a g b) λk _ c=>.inl c
  .have u:i-ts.length<us.length:=by rw[cz]at t;omega
   have H:i-ls.length<xs.length:=I
   rw[qL h,qL I];have e:i-ls.length=i-ts.length:=I
   have a:=o (i-ts.length) u I;simp only[e];exact bI.bg (bI.k3 a g λk c=>hd k (a.2.2 k c).1) λk _ c=>.inr (.inl c)
theorem Ew{x:ad}{es:O Nat}(d:cW B w s ds)(hx:c9 C w x es)(i:ds.length<=100000)(j:es.length<=100000):
 ∃ (a:ad) (w':J),Sem.run aj (Builtin.append_ #[72,72] 72 #[s,x]) w=.ok a w'/\c9 (λq=>B q\/C q\/w<=q) w' a (ds++es)/\ag (aD s) w w':=by
 have l:=c9.len hx;obtain⟨h1,h2⟩:=d;have m:s.len=ds.length:=by have:=h1.1;rw[oQ]at this;omega
 obtain⟨a,w',e,b,n,f,g⟩:=qf.append (cB:=72) hx.1 h1 (AO es) I;refine⟨a,w',e,⟨?_,b.2.1,?_⟩,f⟩
 .have:ej ds++ej es=ej (ds++es):=by simp[ej]
  rw[this]at b;exact b.src
 .intro k c
  refine⟨?_,b.lt k c⟩;rcases g k c with h|h
  .exact .inl (h2 k h).1
  .exact .inr (.inr h)
theorem Kb{wp aB aE aF:J}{pa d T:Nat}{key U r o ac af aj:ad}{c6:J}{a b:aG}{s:Key}{aH:O aa}(ba:c6.cell? pa=some (.bool a.leaf))
 (av:Var c6 d [a.leaf,U,r,o] 169) (aI:Var c6 aV [b.leaf,ac,af,aj] 169)
 (g:gB lo c6 a U r o bX cd bL) (bb:b7 C c6 b ac af aj) (f:∀q,C q->lo<=q/\q<c6/\q≠d/\q≠aV/\¬bX q/\¬cd q/\¬bL q) (E:∀q,bX q\/cd q\/bL q->q≠d/\q≠aV) (la:lo<=d) (lb:lo<=aV) (am:d≠aV)
 (bc:Var c6 T aH 169) (bd:aH.length=4) (bO:T<lo) (be:w<=T) (t:Src 1 c6 key (aC s)) (bQ:s.length<=1000) (bf:Ext w c6) (hs:cM (ed a s b)) (aJ:a.leaf=b.leaf) (an:cM a) (sb:cM b)
 (b6:a.keys.length<=10000) (bx:b.keys.length<=10000) (bh:wp.heap.size=pa) (bi:aB.heap.size=d) (bj:aE.heap.size=aV) (bk:aF.heap.size=T):ae.Af wp aB aE aF key c6 (oS (ed a s b) w):=by
 (delta ae.Af vZ aW Y ak al bH rk st bP ov rj db ri;dsimp only);rw[bh,bi,bj,bk];have bR:=av.lt;have bS:=aI.lt;have aK:∀ {n:aG},cM n->n.keys.length<=10000->n.vals.length<=10000/\n.kids.length<=10001:=λ{n} h1 h2=>by
  obtain h1|h1:=h1
  .rw[h1.len,h1.kids];exact⟨h2,cI _⟩
  .rw[h1.len,h1.vals];exact⟨cI _,I⟩
 obtain⟨bU,bV⟩:=aK an b6;obtain⟨nf,bY⟩:=aK sb bx;have aL:iK lo c6 d a U r o bX cd bL:=⟨av,g.keys,g.vals,g.kids,λq c=>⟨(g.cm q c).1,(g.cm q c).2.1,(E q (.inl c)).1,(g.cm q c).2.2⟩,λq c=>⟨(g.bv q c).1,(g.bv q c).2.1,(E q (.inr (.inl c))).1,(g.bv q c).2.2⟩,λq c=>⟨(g.aO q c).1,(g.aO q c).2,(E q (.inr (.inr c))).1⟩,la⟩;refine j2 (λw'=>∃ (K:ad) (W:U1),iK lo w' d ⟨a.leaf,if a.leaf then a.keys else a.keys++ [s],a.vals,a.kids⟩ K r o W cd bL/\ag (λq=>q=d\/bX q) c6 w'/\(∀q,W q->bX q\/c6<=q)) (λq c=>⟨_,ba,λu=>?_,λu=>c _ ⟨U,bX,?_,.refl _ _,λq h=>.inl h⟩⟩) ?_
 .have u:a.leaf=false:=by simpa using u
  refine A0 aL t I I λw' bl W h1 h2 G=>c _ ⟨bl,W,?_,h2,G⟩;rw[if_neg (by rw[u];simp)];exact h1
 .have u:a.leaf=true:=by simpa using u
  rw[if_pos u];exact aL
 rintro w1 ⟨fL,ao,h1,H,aM⟩;have bZ:=H.size;have aN:=aI.ah H (by
  rintro(h|h)
  .exact am h.symm
  .exact(E _ (.inl h)).2 rfl)
 have aP:=bb.ah H λq c h=>by
  have:=f q c;obtain h|h:=h
  .exact this.2.2.1 h
  .exact this.2.2.2.2.1 h
 have bm:=bc.ah H (by
  rintro(h|h)
  .omega
  .have:=(g.cm _ h).1;omega)
 have bn:Ext w w1:=Ext.d_ bf H λq c=>by
  obtain h|h:=c
  .omega
  .have:=(g.cm _ h).1;omega
 obtain⟨L,X⟩:∃l,l=(if a.leaf then a.keys else a.keys++ [s]):=⟨_,rfl⟩;rw[←X]at h1;have b0:L.length<=10001:=by
  rw[X];split
  .omega
  .rw[cz];simp;omega
 obtain⟨b9,aZ,bo,bt⟩:=bT h1.v;obtain⟨d0,d1,d2,d3⟩:=bT aN;have x:∀q,aD fL q->ao q:=λk t=>by obtain⟨ts,_,_,G,_⟩:=h1.keys;exact(G k t).1
 have ap:∀q,aD r q->cd q:=λk t=>by obtain⟨ts,_,_,G,_⟩:=h1.vals;exact(G k t).1
 have aQ:∀q,aD o q->bL q:=λk t=>(h1.kids.2 k t).1;have aR:∀q,C q->¬aD fL q:=λq c h=>by
  rcases aM q (x q h) with h2|h2
  .exact(f q c).2.2.2.2.1 h2
  .have:=(f q c).2.1;omega
 obtain⟨cV,ai,M,N,p⟩:=A4 h1.keys aP.keys aR (by show L.length<=_;omega) I;have aS:=h1.v.ah p λh=>(h1.cm _ (x _ h)).2.2.1 rfl;obtain⟨P,R⟩:=ez aS (i:=1) U9;refine⟨fL,aZ,ac,d1,cV,ai,M,?_⟩;rw[aA,aA];refine⟨P,R,aT ?_⟩;obtain⟨j,aq⟩:=U6 (ai.setCell ⟨d,0+1,none⟩ cV);rw[←aq];have aU:ag (λq=>q=d) ai j:=by rw[aq];exact dU _ _ _ _
 have aX:Var j d [a.leaf,cV,r,o] 169:=by rw[aq];exact eE aS _
 have y:ag (λq=>q=d\/aD fL q) w1 j:=(p.mono λq _ h=>.inr h).trans (aU.mono λq _ h=>.inl h);have aY:=aN.ah y (by
  rintro(h|h)
  .exact am h.symm
  .rcases aM _ (x _ h) with h2|h2
   .exact(E _ (.inl h2)).2 rfl
   .omega)
 have a0:=aP.ah y λq c h=>by
  obtain h|h:=h
  .exact(f q c).2.2.1 h
  .exact aR q c h
 have bp:=bD.ah h1.vals y λq c h=>by
  obtain h|h:=h
  .exact(h1.bv q c).2.2.1 h
  .exact(h1.cm q (x q h)).2.2.2.1 c
 have bq:=cW.ah h1.kids y λq c h=>by
  obtain h|h:=h
  .exact(h1.aO q c).2.2 h
  .exact(h1.cm q (x q h)).2.2.2.2 c
 have br:=bm.ah y (by
  rintro(h|h)
  .omega
  .have:=(h1.cm _ (x _ h)).1;omega)
 have bs:Ext w j:=Ext.d_ bn y λq c=>by
  obtain h|h:=c
  .omega
  .have:=(h1.cm _ (x _ h)).1;omega
 have bu:bW (λq=>(ao q\/C q\/w1<=q)/\q≠d) j cV (L++b.keys):=by
  have ar:bW (λq=>(ao q\/C q\/w1<=q)/\q≠d) ai cV (L++b.keys):=bW.bg N λq _ c=>⟨c,by
   obtain h|h|h:=c
   .exact(h1.cm _ h).2.2.1
   .exact(f _ h).2.2.1
   .omega⟩
  exact bW.ah ar aU λq c h=>c.2 h
 obtain⟨b9,aZ,bo,bt⟩:=bT aX;obtain⟨d0,d1,d2,d3⟩:=bT aY;have b1:=y.size
 obtain⟨cC,Z,M,N,p⟩:=A4 bp a0.vals (λq c h=>(f q c).2.2.2.2.2.1 (ap q h)) (by show a.vals.length<=_;omega) I;have a1:=aX.ah p λh=>(h1.bv _ (ap _ h)).2.2.1 rfl;obtain⟨P,R⟩:=ez a1 (i:=2) U9;rw[aA]at bo d2;refine⟨r,bo,af,d2,cC,Z,M,?_⟩;rw[aA,aA];refine⟨P,R,aT ?_⟩;obtain⟨m,au⟩:=U6 (Z.setCell ⟨d,0+2,none⟩ cC);rw[←au];have a2:ag (λq=>q=d) Z m:=by rw[au];exact dU _ _ _ _
 have a3:Var m d [a.leaf,cV,cC,o] 169:=by rw[au];exact eE a1 _
 have z:ag (λq=>q=d\/cd q) j m:=(p.mono λq _ h=>.inr (ap q h)).trans (a2.mono λq _ h=>.inl h);have bw:=aY.ah z (by
  rintro(h|h)
  .exact am h.symm
  .exact(E _ (.inr (.inl h))).2 rfl)
 have bz:=a0.ah z λq c h=>by
  obtain h|h:=h
  .exact(f q c).2.2.1 h
  .exact(f q c).2.2.2.2.2.1 h
 have bA:=bW.ah bu z λq c h=>by
  obtain h|h:=h
  .exact c.2 h
  .obtain h2|h2|h2:=c.1
   .exact(h1.cm _ h2).2.2.2.1 h
   .exact(f _ h2).2.2.2.2.2.1 h
   .have:=(h1.bv _ h).2.1;omega
 have bB:=cW.ah bq z λq c h=>by
  obtain h|h:=h
  .exact(h1.aO q c).2.2 h
  .exact(h1.bv q h).2.2.2 c
 have bC:=br.ah z (by
  rintro(h|h)
  .omega
  .have:=(h1.bv _ h).1;omega)
 have bE:Ext w m:=Ext.d_ bs z λq c=>by
  obtain h|h:=c
  .omega
  .have:=(h1.bv _ h).1;omega
 have bF:bW (λq=>(cd q\/C q\/j<=q)/\q≠d) m cC (a.vals++b.vals):=by
  have ar:bW (λq=>(cd q\/C q\/j<=q)/\q≠d) Z cC (a.vals++b.vals):=bW.bg N λq _ c=>⟨c,by
   obtain h|h|h:=c
   .exact(h1.bv _ h).2.2.1
   .exact(f _ h).2.2.1
   .omega⟩
  exact bW.ah ar a2 λq c h=>c.2 h
 obtain⟨b9,aZ,bo,bt⟩:=bT a3;obtain⟨d0,d1,d2,d3⟩:=bT bw;have b2:=z.size
 obtain⟨jM,aw,M,N,p⟩:=Ew bB bz.kids (by show a.kids.length<=_;omega) I;have a4:=a3.ah p λh=>(h1.aO _ (aQ _ h)).2.2 rfl;obtain⟨P,R⟩:=ez a4 (i:=3) U9;rw[aA]at bt d3;refine⟨o,bt,aj,d3,jM,aw,M,?_⟩;rw[aA,aA];refine⟨P,R,aT ?_⟩;obtain⟨A,ax⟩:=U6 (aw.setCell ⟨d,0+3,none⟩ jM);rw[←ax];have a5:ag (λq=>q=d) aw A:=by rw[ax];exact dU _ _ _ _
 have a6:Var A d [a.leaf,cV,cC,jM] 169:=by rw[ax];exact eE a4 _
 have S:ag (λq=>q=d\/bL q) m A:=(p.mono λq _ h=>.inr (aQ q h)).trans (a5.mono λq _ h=>.inl h);have bG:=bW.ah bA S λq c h=>by
  obtain h|h:=h
  .exact c.2 h
  .obtain h2|h2|h2:=c.1
   .exact(h1.cm _ h2).2.2.2.2 h
   .exact(f _ h2).2.2.2.2.2.2 h
   .have:=(h1.aO _ h).2.1;omega
 have bI:=bW.ah bF S λq c h=>by
  obtain h|h:=h
  .exact c.2 h
  .obtain h2|h2|h2:=c.1
   .exact(h1.bv _ h2).2.2.2 h
   .exact(f _ h2).2.2.2.2.2.2 h
   .have:=(h1.aO _ h).2.1;omega
 have bJ:=bC.ah S (by
  rintro(h|h)
  .omega
  .have:=(h1.aO _ h).1;omega)
 have bK:Ext w A:=Ext.d_ bE S λq c=>by
  obtain h|h:=c
  .omega
  .have:=(h1.aO _ h).1;omega
 have b3:=S.size;have a7:b7 (λq=>lo<=q) A (ed a s b) cV cC jM:=by
  have j_:ed a s b=⟨a.leaf,L++b.keys,a.vals++b.vals,a.kids++b.kids⟩:=by
   unfold ed
   cases F:a.leaf with
   |true=>
    have ay:a.kids=[]:=by
     obtain h|h:=an
     .exact h.kids
     .have:=h.inner;rw[F]at this;cases this
    have kb:b.kids=[]:=by
     obtain h|h:=sb
     .exact h.kids
     .have:=h.inner;rw[←aJ,F]at this;cases this
    rw[X,F,ay,kb];simp
   |false=>
    have ay:a.vals=[]:=by
     obtain h|h:=an
     .have:=h.leaf;rw[F]at this;cases this
     .exact h.vals
    have kb:b.vals=[]:=by
     obtain h|h:=sb
     .have:=h.leaf;rw[←aJ,F]at this;cases this
     .exact h.vals
    rw[X,F,ay,kb];simp
  rw[j_];refine⟨bW.bg bG λq _ c=>?_,bW.bg bI λq _ c=>?_,c9.bg (c9.ah (B:=λq=>(bL q\/C q\/m<=q)/\q≠d) (c9.bg N λq _ c=>⟨c,?_⟩) a5 λq c h=>c.2 h) λq _ c=>?_⟩
  .obtain h|h|h:=c.1
   .exact(h1.cm _ h).1
   .exact(f _ h).1
   .omega
  .obtain h|h|h:=c.1
   .exact(h1.bv _ h).1
   .exact(f _ h).1
   .omega
  .obtain h|h|h:=c
   .exact(h1.aO _ h).2.2
   .exact(f _ h).2.2.1
   .omega
  .obtain h|h|h:=c.1
   .exact(h1.aO _ h).1
   .exact(f _ h).1
   .omega
 obtain⟨b9,aZ,bo,bt⟩:=bT a6;rw[aA]at aZ bo bt;have b4:(ed a s b).keys.length<=20001:=by
  unfold ed;split
  .show(a.keys++b.keys).length<=_;rw[cz];omega
  .show(a.keys++s::b.keys).length<=_;rw[cz,fi];omega
 have b5:(ed a s b).vals.length<=20001:=by
  unfold ed;split
  .show(a.vals++b.vals).length<=_;rw[cz];omega
  .simp
 have b8:(ed a s b).kids.length<=20002:=by
  unfold ed;split
  .simp
  .show(a.kids++b.kids).length<=_;rw[cz];omega
 have a8:(ed a s b).leaf=a.leaf:=DV
 repeat rw[aA]
 refine⟨_,b9,cV,aZ,cC,bo,jM,bt,?_⟩;have az:=kZ a7 I I I;unfold dz at az;rw[a8]at az;refine az.use ?_;rintro _ b_ ⟨ca,rfl,bM,ab⟩;have:=bM.2 hs;subst this;obtain⟨b9,aZ,bo,bt⟩:=bT (a6.ext ab);rw[aA]at aZ bo bt;have a9:=jL a.leaf cV cC jM (bJ.ext ab) bd (Q:=λbN K V D ai=>oS (ed a s b) w (.tuple #[.agg #[bN,K,V,D],true]) ai) λcb a_=>⟨cV,cC,jM,by unfold dz;rw[a8],((a7.ext ab).ah a_ λq c e=>I).bg λq _ c=>I,Ext.cp (bK.trans ab) a_ be⟩
 repeat rw[aA]at a9
 exact⟨true,rfl,nofun,λ_=>⟨_,b9,cV,aZ,cC,bo,jM,bt,a9⟩⟩
theorem p1{bb bc:U1}{a b:aG}{R T U W key:ad}{s:Key}(aQ:b7 bb w a R S T)(aR:b7 bc w b U V W)(M:Src 1 w key (aC s))(bd:∀q,aD key q->q<w.heap.size)(be:s.length<=1000)(am:cM a)(sb:cM b)(aS:a.leaf=b.leaf)(hs:cM (ed a s b))
 (b6:a.keys.length<=10000) (bx:b.keys.length<=10000):
 aH aj 264 #[dz a R S T,key,dz b U V W] w (oS (ed a s b) w):=by
 have aU:∀ {n:aG},cM n->n.keys.length<=10000->n.vals.length<=10000/\n.kids.length<=10001:=λ{n} h1 h2=>by
  rcases h1 with h1|h1
  .rw[h1.len,h1.kids];exact⟨h2,cI _⟩
  .rw[h1.len,h1.vals];exact⟨cI _,I⟩
 obtain⟨bC,bD⟩:=aU am b6;obtain⟨nf,bE⟩:=aU sb bx;have ao:∀k∈a.keys,k.length<=100000:=λk M=>by have:=(am.keys.ok k M).2;omega
 have y:∀k∈b.keys,k.length<=100000:=λk M=>by have:=(sb.keys.ok k M).2;omega
 have ap:∀k∈a.vals,k.length<=100000:=λk M=>by have:=am.vals k M;omega
 have z:∀k∈b.vals,k.length<=100000:=λk M=>by have:=sb.vals k M;omega
 refine okF (ae.p1 a.leaf R S T key b.leaf U V W) ax.p1 func264 ?_;(delta ae.p1 z5 aW Y al bP rm ak ov rj gH bw vZ bH rk st ri pI;dsimp only);refine a6 (vs:=[a.leaf,R,S,T]) rfl λw1 aJ bf bF=>?_;refine a6 (vs:=[b.leaf,U,V,W]) rfl λai aK aw bG=>?_;refine a6 (vs:=[false,(),(),()]) rfl λbh bi X bI=>?_;have aX:=bf.trans (aw.trans X);obtain⟨b9,aZ,bo,bt⟩:=bT (aJ.ext (aw.trans X));refine⟨_,b9,R,aZ,S,bo,T,bt,(kZ (aQ.ext aX) I I I).use ?_⟩;rintro _ bj ⟨cH,rfl,bk,P⟩;have:=bk.2 am;subst this;have aY:=aX.trans P;obtain⟨d0,d1,d2,d3⟩:=bT (aK.ext (X.trans P));refine⟨true,rfl,cc (λb w'=>b=false/\Ext bj w') (λq o=>⟨nofun,λ_=>⟨_,d0,U,d1,V,d2,W,d3,(kZ (aR.ext aY) I I I).use ?_⟩⟩) ?_⟩
 .rintro _ aA ⟨ck,rfl,bl,N⟩
  have:=bl.2 sb;subst this;exact⟨true,rfl,o _ _ ⟨rfl,N⟩⟩
 rintro _ aA ⟨rfl,N⟩;have bm:=aY.trans N;obtain⟨b9,aZ,bo,bt⟩:=bT (aJ.ext (aw.trans (X.trans (P.trans N))));obtain⟨d0,d1,d2,d3⟩:=bT (aK.ext (X.trans (P.trans N)));refine cc (λb w'=>b=false/\aA=w') (λq o=>⟨nofun,λ_=>⟨_,b9,_,d0,o _ _ ⟨by rw[aS];simp,rfl⟩⟩⟩) ?_;rintro _ _ ⟨rfl,rfl⟩;have aq:=cw aA;have a0:=bm.trans aq;obtain⟨v,Z⟩:=U6 aA.drew;have a1:Var v w.heap.size [a.leaf,R,S,T] 169:=by rw[Z];exact(aJ.ext (aw.trans (X.trans (P.trans N)))).ext aq
 have bn:Var v w1.heap.size [b.leaf,U,V,W] 169:=by rw[Z];exact(aK.ext (X.trans (P.trans N))).ext aq
 have bq:Var v ai.heap.size [false,(),(),()] 169:=by rw[Z];exact(bi.ext (P.trans N)).ext aq
 have ar:Ext w v:=by rw[Z];exact a0
 have bJ:bh.heap.size<=v.heap.size:=by rw[Z];exact(P.trans N).size
 have au:=aQ.ext ar;have A:=aR.ext ar;have br:=M.ext ar;obtain⟨lo,bK⟩:=U6 v.heap.size;rw[←Z];clear b9 aZ bo bt d0 d1 d2 d3 Z a0 aq;have fin:∀ {la lb x aV:Nat}{Q ac p aL kc:J}{r t u f i j:ad}{fM aM aN a2 a3 a4:U1},gB la Q a r t u fM aM aN->gB lb ac b f i j a2 a3 a4->Ext Q p->Ext ac p->Ext v p->
  Var p x [false,(),(),()] 169->Var p aV [false,(),(),()] 169->
  (v.heap.size<=la/\la<=Q.heap.size/\Q.heap.size<=lb/\v.heap.size<=x/\v.heap.size<=aV/\x≠aV/\(x<la\/Q.heap.size<=x)/\(aV<la\/Q.heap.size<=aV)/\(x<lb\/ac.heap.size<=x)/\(aV<lb\/ac.heap.size<=aV))->aL.heap.size=x->kc.heap.size=aV->
  bp p x [a.leaf,r,t,u]/\(4:Nat)=4/\an (setCells p x 0 [a.leaf,r,t,u]) λaP=>
   bp aP aV [b.leaf,f,i,j]/\(4:Nat)=4/\an (setCells aP aV 0 [b.leaf,f,i,j]) λaB=>ae.Af w aL kc ai key aB (oS (ed a s b) w):=by
  intro la lb x aV Q ac p aL kc r t u f i j fM aM aN a2 a3 a4 m l a5 a7 g a8 bs bL bu bz;have fk:=a5.size;have gI:=a7.size;have z3:=g.size;refine⟨a8.ct rfl (qk _ _ _ _),rfl,cP a8 (us:=[a.leaf,r,t,u]) rfl rfl λaP bA gg t5=>?_⟩;have a9:=bs.ah gg I;refine⟨a9.ct rfl (qk _ _ _ _),rfl,cP a9 (us:=[b.leaf,f,i,j]) rfl rfl λaB bB a_ t6=>?_⟩;have aa:ag (λq=>q=x\/q=aV) p aB:=(gg.mono λq _ h=>.inl h).trans (a_.mono λq _ h=>.inr h);have av:∀q,fM q\/aM q\/aN q->la<=q/\q<Q.heap.size:=λq o=>by
   rcases o with o|o|o
   .exact⟨(m.cm q o).1,(m.cm q o).2.1⟩
   .exact⟨(m.bv q o).1,(m.bv q o).2.1⟩
   .exact m.aO q o
  have sz:=aa.size;exact Kb (lo:=lo) (c6:=aB) (C:=λq=>lb<=q/\q<ac.heap.size) ((a1.ext g).ah aa I).cell (bA.ah a_ I) bB (((m.ext a5).ah aa λq _ _ o e=>by have:=av q o;omega).low I)
   (((l.at.bg λq h1 h2=>⟨h2,h1⟩).ext a7).ah aa λq o e=>I) (λq o=>⟨I,I,I,I,λh=>(by have:=av q (.inl h);omega),λh=>(by have:=av q (.inr (.inl h));omega),λh=>(by have:=av q (.inr (.inr h));omega)⟩) (λq o=>(by have:=av q o;exact⟨I,I⟩)) I I I
   ((bq.ext g).ah aa I) rfl I I ((br.ext g).ah aa λq o e=>(by have:=bd q o;have:=ar.size;omega)) be (Ext.d_ (ar.trans g) aa λq o=>I) hs aS am sb b6 bx rfl bu bz rfl
 obtain⟨b9,aZ,bo,bt⟩:=bT a1;obtain⟨d0,d1,d2,d3⟩:=bT bn;refine⟨nofun,λ_=>aT ⟨λ_=>False,id,_,b9,R,aZ,S,bo,T,bt,id,_,d0,U,d1,V,d2,W,d3,?_⟩⟩;refine⟨?_,?_,?_⟩
 .refine(gb au I I I ao ap).use ?_
  rintro _ ba ⟨r,t,u,aE,aF,aI,rfl,m,ay⟩;refine⟨_,r,t,u,rfl,ay,?_⟩;have s1:=ay.size;refine⟨?_,?_,?_⟩
  .refine(gb (A.ext ay) I I I y z).use ?_
   rintro _ af ⟨f,i,j,H,K,L,rfl,l,az⟩;refine⟨_,f,i,j,rfl,az,?_⟩;have s2:=az.size;refine⟨?_,?_⟩
   .refine a6 (vs:=[false,(),(),()]) rfl λB D d z3=>⟨d,?_⟩
    have E:=d.size;refine a6 (vs:=[false,(),(),()]) rfl λp F c z4=>⟨c,?_⟩;have G:=c.size;exact fin m l (az.trans (d.trans (c))) (d.trans (c)) (ay.trans (az.trans (d.trans c))) (D.ext c) (F) I rfl rfl
   .refine a6 (vs:=[false,(),(),()]) rfl λB D d z3=>⟨d,?_⟩
    have E:=d.size;refine a6 (vs:=[false,(),(),()]) rfl λp F c z4=>⟨c,?_⟩;have G:=c.size;exact fin m l (az.trans (d.trans (c))) (d.trans (c)) (ay.trans (az.trans (d.trans c))) (F) (D.ext c) I rfl rfl
  .refine a6 (vs:=[false,(),(),()]) rfl λaf O az gI=>⟨az,?_⟩
   have s2:=az.size;refine⟨?_,?_⟩
   .refine(gb (A.ext (ay.trans (az))) I I I y z).use ?_
    rintro _ B ⟨f,i,j,H,K,L,rfl,l,d⟩;refine⟨_,f,i,j,rfl,d,?_⟩;have E:=d.size;refine a6 (vs:=[false,(),(),()]) rfl λp F c z4=>⟨c,?_⟩;have G:=c.size;exact fin m l (az.trans (d.trans (c))) (c) (ay.trans (az.trans (d.trans c))) (O.ext (d.trans (c))) (F) I rfl rfl
   .refine a6 (vs:=[false,(),(),()]) rfl λB D d z3=>⟨d,?_⟩
    have E:=d.size;refine(gb (A.ext (ay.trans (az.trans (d)))) I I I y z).use ?_;rintro _ p ⟨f,i,j,H,K,L,rfl,l,c⟩;refine⟨_,f,i,j,rfl,c,?_⟩;have G:=c.size;exact fin m l (az.trans (d.trans (c))) ((ag.refl _ _)) (ay.trans (az.trans (d.trans c))) (O.ext (d.trans (c))) (D.ext c) I rfl rfl
  .refine a6 (vs:=[false,(),(),()]) rfl λaf O az gI=>⟨az,?_⟩
   have s2:=az.size;refine⟨?_,?_⟩
   .refine(gb (A.ext (ay.trans (az))) I I I y z).use ?_
    rintro _ B ⟨f,i,j,H,K,L,rfl,l,d⟩;refine⟨_,f,i,j,rfl,d,?_⟩;have E:=d.size;refine a6 (vs:=[false,(),(),()]) rfl λp F c z4=>⟨c,?_⟩;have G:=c.size;exact fin m l (az.trans (d.trans (c))) (c) (ay.trans (az.trans (d.trans c))) (F) (O.ext (d.trans (c))) I rfl rfl
   .refine a6 (vs:=[false,(),(),()]) rfl λB D d z3=>⟨d,?_⟩
    have E:=d.size;refine(gb (A.ext (ay.trans (az.trans (d)))) I I I y z).use ?_;rintro _ p ⟨f,i,j,H,K,L,rfl,l,c⟩;refine⟨_,f,i,j,rfl,c,?_⟩;have G:=c.size;exact fin m l (az.trans (d.trans (c))) ((ag.refl _ _)) (ay.trans (az.trans (d.trans c))) (D.ext c) (O.ext (d.trans (c))) I rfl rfl
 .refine a6 (vs:=[false,(),(),()]) rfl λba ab ay fk=>⟨ay,?_⟩
  have s1:=ay.size;refine⟨?_,?_⟩
  .refine(gb (au.ext ay) I I I ao ap).use ?_
   rintro _ af ⟨r,t,u,aE,aF,aI,rfl,m,az⟩;refine⟨_,r,t,u,rfl,az,?_⟩;have s2:=az.size;refine⟨?_,?_⟩
   .refine(gb (A.ext (ay.trans (az))) I I I y z).use ?_
    rintro _ B ⟨f,i,j,H,K,L,rfl,l,d⟩;refine⟨_,f,i,j,rfl,d,?_⟩;have E:=d.size;refine a6 (vs:=[false,(),(),()]) rfl λp F c z4=>⟨c,?_⟩;have G:=c.size;exact fin m l (d.trans (c)) (c) (ay.trans (az.trans (d.trans c))) (ab.ext (az.trans (d.trans (c)))) (F) I rfl rfl
   .refine a6 (vs:=[false,(),(),()]) rfl λB D d z3=>⟨d,?_⟩
    have E:=d.size;refine(gb (A.ext (ay.trans (az.trans (d)))) I I I y z).use ?_;rintro _ p ⟨f,i,j,H,K,L,rfl,l,c⟩;refine⟨_,f,i,j,rfl,c,?_⟩;have G:=c.size;exact fin m l (d.trans (c)) ((ag.refl _ _)) (ay.trans (az.trans (d.trans c))) (ab.ext (az.trans (d.trans (c)))) (D.ext c) I rfl rfl
  .refine a6 (vs:=[false,(),(),()]) rfl λaf O az gI=>⟨az,?_⟩
   have s2:=az.size;refine(gb (au.ext (ay.trans (az))) I I I ao ap).use ?_;rintro _ B ⟨r,t,u,aE,aF,aI,rfl,m,d⟩;refine⟨_,r,t,u,rfl,d,?_⟩;have E:=d.size;refine(gb (A.ext (ay.trans (az.trans (d)))) I I I y z).use ?_;rintro _ p ⟨f,i,j,H,K,L,rfl,l,c⟩;refine⟨_,f,i,j,rfl,c,?_⟩;have G:=c.size;exact fin m l (c) ((ag.refl _ _)) (ay.trans (az.trans (d.trans c))) (ab.ext (az.trans (d.trans (c)))) (O.ext (d.trans (c))) I rfl rfl
 .refine a6 (vs:=[false,(),(),()]) rfl λba ab ay fk=>⟨ay,?_⟩
  have s1:=ay.size;refine⟨?_,?_⟩
  .refine(gb (au.ext ay) I I I ao ap).use ?_
   rintro _ af ⟨r,t,u,aE,aF,aI,rfl,m,az⟩;refine⟨_,r,t,u,rfl,az,?_⟩;have s2:=az.size;refine⟨?_,?_⟩
   .refine(gb (A.ext (ay.trans (az))) I I I y z).use ?_
    rintro _ B ⟨f,i,j,H,K,L,rfl,l,d⟩;refine⟨_,f,i,j,rfl,d,?_⟩;have E:=d.size;refine a6 (vs:=[false,(),(),()]) rfl λp F c z4=>⟨c,?_⟩;have G:=c.size;exact fin m l (d.trans (c)) (c) (ay.trans (az.trans (d.trans c))) (F) (ab.ext (az.trans (d.trans (c)))) I rfl rfl
   .refine a6 (vs:=[false,(),(),()]) rfl λB D d z3=>⟨d,?_⟩
    have E:=d.size;refine(gb (A.ext (ay.trans (az.trans (d)))) I I I y z).use ?_;rintro _ p ⟨f,i,j,H,K,L,rfl,l,c⟩;refine⟨_,f,i,j,rfl,c,?_⟩;have G:=c.size;exact fin m l (d.trans (c)) ((ag.refl _ _)) (ay.trans (az.trans (d.trans c))) (D.ext c) (ab.ext (az.trans (d.trans (c)))) I rfl rfl
  .refine a6 (vs:=[false,(),(),()]) rfl λaf O az gI=>⟨az,?_⟩
   have s2:=az.size;refine(gb (au.ext (ay.trans (az))) I I I ao ap).use ?_;rintro _ B ⟨r,t,u,aE,aF,aI,rfl,m,d⟩;refine⟨_,r,t,u,rfl,d,?_⟩;have E:=d.size;refine(gb (A.ext (ay.trans (az.trans (d)))) I I I y z).use ?_;rintro _ p ⟨f,i,j,H,K,L,rfl,l,c⟩;refine⟨_,f,i,j,rfl,c,?_⟩;have G:=c.size;exact fin m l (c) ((ag.refl _ _)) (ay.trans (az.trans (d.trans c))) (O.ext (d.trans (c))) (ab.ext (az.trans (d.trans (c)))) I rfl rfl
end Go.Proofs.YtcmgnhkpfllinaaGreat
