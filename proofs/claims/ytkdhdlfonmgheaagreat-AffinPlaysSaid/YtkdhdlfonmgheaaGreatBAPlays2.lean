/- Contracts of the functions that the statement reaches, and the plain laws over them; each theorem stands with its conditions. -/
import Derived.Test.YtkdhdlfonmgheaaGreatBAPlays1
namespace Go.Proofs.YtkdhdlfonmgheaaGreat
open Go aS Go.Proofs.Tryz
theorem Cy{w:J}{a b:ad}{la lb:O UInt8}(g:Src 1 w a (aD la))(h:Src 1 w b (aD lb))(j:la.length+lb.length<=1000):
 aK ai 92 #[.slice (some w.heap.size) 2 2] (w.alloc (.cells #[a,b] 48)) (λv w'=>∃c:ad,v=c/\aT 1 5 w' c (aD (la++lb))/\Ext w w'/\gO w c):=by
 have hx:=c8 w (.cells #[a,b] 48);refine(wS (s:=⟨some w.heap.size,2,2⟩) [(a,la),(b,lb)] (Src.new w _ 2 rfl) ?_ (by simp[eW];omega) (by simp)).mono ?_
 .intro p d
  simp only[de,fG,fQ]at d;rcases d with rfl|rfl
  .exact g.ext hx
  .exact h.ext hx
 .rintro _ w' ⟨c,rfl,f,i,hf⟩
  have e:eW [(a,la),(b,lb)]=la++lb:=by simp[eW]
  rw[e]at f;exact⟨c,rfl,f,hx.trans i,hf.mono hx.size⟩
theorem Cz{w:J}{a b c:ad}{la lb lc:O UInt8}(h:Src 1 w a (aD la))(i:Src 1 w b (aD lb))(hc:Src 1 w c (aD lc))(k:la.length+lb.length+lc.length<=1000):
 aK ai 92 #[.slice (some w.heap.size) 3 3] (w.alloc (.cells #[a,b,c] 48)) (λv w'=>∃d:ad,v=d/\aT 1 5 w' d (aD (la++(lb++lc)))/\Ext w w'/\gO w d):=by
 have hx:=c8 w (.cells #[a,b,c] 48);refine(wS (s:=⟨some w.heap.size,3,3⟩) [(a,la),(b,lb),(c,lc)] (Src.new w _ 3 rfl) ?_ (by simp[eW];omega) (by simp)).mono ?_
 .intro p f
  simp only[de,fG,fQ]at f;rcases f with rfl|rfl|rfl
  .exact h.ext hx
  .exact i.ext hx
  .exact hc.ext hx
 .rintro _ w' ⟨d,rfl,g,j,hf⟩
  have e:eW [(a,la),(b,lb),(c,lc)]=la++(lb++lc):=by simp[eW]
  rw[e]at g;exact⟨d,rfl,g,hx.trans j,hf.mono hx.size⟩
theorem CA(w:J){n:Nat}(a:n<=255):Src 1 (w.alloc (.cells #[.int .u8 (IntKind.wrap .u8 (n:Int))] 5)) ⟨some w.heap.size,1,1⟩ (aD [UInt8.ofNat n])/\Ext w (w.alloc (.cells #[.int .u8 (IntKind.wrap .u8 (n:Int))] 5)):=by
 have e:(#[.int .u8 (IntKind.wrap .u8 (n:Int))]:Array Y)=(aD [UInt8.ofNat n]).toArray:=by
  rw[uG I I];simp[aD,kl (show n<256 from I)]
 rw[e];exact⟨Src.new w _ 1 rfl,c8 _ _⟩
theorem fu{α:Type}{l:O α}{i:Nat}{d:α}(h:i<l.length):l.getD i d=l[i]:=by
 rw[gd,dU h];rfl
theorem cQ.lL{n:aG}(h:cQ n)(a:n.leaf=true):n.vals.length=n.keys.length:=by
 rcases h with h|h
 .exact h.len
 .have:=h.inner;rw[a]at this;cases this
theorem cQ.q7{n:aG}(h:cQ n)(a:n.leaf=false):n.kids.length=n.keys.length+1:=by
 rcases h with h|h
 .have:=h.leaf;rw[a]at this;cases this
 .exact h.len
theorem nK{B:Nat->Prop}{w:J}{n:aG}{K V D:ad}(h:bI B w n K V D)(hs:cQ n){i:Nat}(hi:i<n.keys.length)(ac:n.keys.length<=100000):
 aK ai 298 #[c9 n K V D,i] w (λv w'=>∃s:ad,v=s/\aT 1 5 w' s (aD (gS n i))/\Ext w w'/\gO w s):=by
 refine okF (ae.nK n.leaf K V D (i:Int)) ay.nK func298 ?_;(delta ae.nK aa r1 aM bK aY an ar aF;dsimp only);refine bc (vs:=[n.leaf,K,V,D]) rfl λw1 r e _=>?_;have u:=cE w1;have Q:=e.trans u;have R:=h.ext Q;obtain⟨b6,aZ,bf,bq⟩:=bP (r.ext u);obtain⟨A,t,aq,L,hc,ht,_⟩:=bw.at R.keys hi;have af:=(hs.keys.ok _ (cW hi)).2;have S:=len8 ht.1;obtain⟨T,x⟩:=CA w1.drew (n:=t.len) I;refine aX ⟨λ_=>False,id,K,aZ,A,aq,L,id,t,hc,id,K,aZ,A,aq,L,id,t,hc,aX ⟨x,aX ?_⟩⟩;refine(Cy (a:=⟨some w1.drew.heap.size,1,1⟩) (b:=t) T (ht.1.ext x) (by simp;omega)).use ?_;rintro _ y ⟨M,rfl,z,U,ag⟩;have d:=u.trans (x.trans U);obtain⟨d0,d1,d2,d3⟩:=bP (r.ext d);have W: [UInt8.ofNat t.len]++n.keys[i]=nR (n.keys.getD i []):=by rw[fu hi,S];rfl
 rw[W]at z;have N:=h.ext (e.trans d);refine⟨M,rfl,n.leaf,d0,λf=>?_,λf=>?_⟩
 .have ah:=hs.lL f
  have C:i<n.vals.length:=by omega
  have g:=cE y;have X:=N.ext g;obtain⟨aj,ak,O,al⟩:=bP (r.ext (d.trans g));obtain⟨m,t2,o,p,q,P,_⟩:=bw.at X.vals C;have am:=hs.vals _ (cW C);have Y:=len8 P.1;obtain⟨Z,j⟩:=CA y.drew (n:=t2.len) I;refine aX ⟨λ_=>False,id,V,O,m,o,p,id,t2,q,id,V,O,m,o,p,id,t2,q,aX ⟨j,aX ?_⟩⟩;refine(Cz (a:=M) (b:=⟨some y.drew.heap.size,1,1⟩) (c:=t2) (z.src.ext (g.trans j)) Z (P.1.ext j) (by rw[nS,fu hi];simp;omega)).use ?_;rintro _ ab ⟨l,rfl,E,F,G⟩;refine⟨l,rfl,l,rfl,?_,(e.trans d).trans (g.trans (j.trans F)),G.mono ((e.trans d).trans (g.trans j)).size⟩;have:nR (n.keys.getD i [])++([UInt8.ofNat t2.len]++n.vals[i])=gS n i:=by
   unfold gS;rw[f,if_pos rfl,fu C,Y];rfl
  rwa[this]at E
 .have ao:=hs.q7 f
  have H:i+1<n.kids.length:=by omega
  obtain⟨m,o,p,q⟩:=cZ.at N.kids H;have ap:=hs.kids _ (cW H);rw[bB (n:=(i:Int)+1) I I,show(i:Int)+1=((i+1:Nat):Int) from I];refine⟨D,d3,m,o,p,_,q,?_⟩;rw[gq (n:=((n.kids[i+1]:Nat):Int)) I I];refine(gV z.src (n:=n.kids[i+1]) (k:=2) (by rw[nS,fu hi];omega) (by show _<18446744073709551616;omega) ⟨by decide,by decide⟩).use ?_;rintro _ ab ⟨l,rfl,E,F,G⟩;refine⟨l,rfl,l,rfl,?_,(e.trans d).trans F,gO.mono G (e.trans d).size⟩;have:nR (n.keys.getD i [])++bL n.kids[i+1] 2=gS n i:=by
   unfold gS;rw[f,if_neg (by simp),fu H]
  rwa[this]at E
theorem wZ{n:aG}(hs:cQ n){i:Nat}(hi:i<n.keys.length):(gS n i).length<=100:=by
 unfold gS;have:=(hs.keys.ok _ (cW hi)).2;rw[cG,nS,fu hi];split
 .rename_i b
  have a:i<n.vals.length:=by have:=hs.lL b;omega
  have:=hs.vals _ (cW a);rw[nS,fu a];omega
 .rw[dH];omega
theorem za{n:aG}(hs:cQ n):∀m,m<=n.keys.length->(ie n 0 m).length<=100*m
 |0,_=>by simp[ie]
 |m+1,a=>by
  have:=za hs m I
  have:=wZ hs (i:=m) I
  rw[y2,cG];omega
theorem pe{B:Nat->Prop}{w:J}{n:aG}{K V D:ad}(h:bI B w n K V D)(hs:cQ n)(ah:n.keys.length<=255):
 aK ai 293 #[c9 n K V D] w (λv w'=>∃s:ad,v=s/\aT 1 5 w' s (aD (jK n))/\Ext w w'/\gO w s):=by
 refine okF (ae.pe n.leaf K V D) ay.pe func293 ?_;(delta ae.pe r1 aa aY an aM aF bK ar;dsimp only);refine bc (vs:=[n.leaf,K,V,D]) rfl λw1 g l _=>?_;obtain⟨b6,aZ,bf,bq⟩:=bP g;have u:=h.ext l;have E:=bw.len u.keys;have F:(#[.int .u8 (IntKind.wrap .u8 (K.len:Int))]:Array Y)=(aD [UInt8.ofNat n.keys.length]).toArray:=by
  rw[E,uG I I];simp[aD,kl (show n.keys.length<256 from I)]
 refine⟨K,aZ,?_⟩;rw[F];have m:=aT.new (T:=5) (sz:=1) w1 (aD [UInt8.ofNat n.keys.length]) 1 rfl (by decide);have c:=c8 w1 (.cells (aD [UInt8.ofNat n.keys.length]).toArray 5);obtain⟨aj,G⟩:∃aj,aj=w1.alloc (.cells (aD [UInt8.ofNat n.keys.length]).toArray 5):=⟨_,rfl⟩;rw[←G]at m c⊢;obtain⟨d0,d1,d2,d3⟩:=bP (g.ext c);have H:=l.trans c;refine aX (cq (λd w'=>aT 1 5 w' d (aD (preB n))/\Ext aj w'/\gO w1 d) (λq x=>⟨n.leaf,d0,λa=>?_,λa=>x _ _ ⟨?_,.refl _ _,?_⟩⟩) ?_)
 .have a:n.leaf=false:=by simpa using a
  have ak:=hs.q7 a;have o:0<n.kids.length:=by omega
  obtain⟨L,M,N,O⟩:=cZ.at (h.ext H).kids o;have al:=hs.kids _ (cW o);refine⟨D,d3,L,M,N,_,O,?_⟩;rw[gq (n:=((n.kids[0]:Nat):Int)) I I];refine(gV m.src (n:=n.kids[0]) (k:=2) (by simp) (by show _<18446744073709551616;omega) ⟨by decide,by decide⟩).use ?_;rintro _ P ⟨p,rfl,e,b,f⟩;refine⟨p,rfl,x _ _ ⟨?_,b,gO.mono f c.size⟩⟩;have: [UInt8.ofNat n.keys.length]++bL n.kids[0] 2=preB n:=by
   unfold preB;rw[a,if_neg (by simp),fu o];rfl
  rwa[this]at e
 .have a:n.leaf=true:=by simpa using a
  have:preB n=[UInt8.ofNat n.keys.length]:=by unfold preB;rw[a];rfl
  rw[this];exact m
 .rintro k ⟨A,aq,rfl⟩
  cases aq;exact bt _
 rintro am ao ⟨Q,R,S⟩;have y:=c.trans R;obtain⟨d0,d1,d2,d3⟩:=bP (g.ext y);have ap:(preB n).length<=3:=by
  unfold preB
  cases n.leaf<;>simp[dH]
 refine⟨K,d1,λd i w'=>∃j:Nat,i=j/\j<=n.keys.length/\aT 1 5 w' d (aD (preB n++ie n 0 j))/\Ext w1 w'/\gO w1 d,λ_ i _=>((n.keys.length:Int)-i).toNat,⟨0,rfl,cR _,by simpa[ie] using Q,y,S⟩,?_⟩;rintro p _ P ⟨j,rfl,U,e,b,f⟩;refine⟨λaJ=>?_,λr=>?_⟩
 .have aJ:j<n.keys.length:=by have:=cl aJ;omega
  obtain⟨f0,f1,f2,f3⟩:=bP (g.ext b);refine⟨n.leaf,f0,K,f1,V,f2,D,f3,(nK (u.ext b) hs aJ I).use ?_⟩;rintro _ au ⟨W,rfl,z,t,av⟩;have C:=mb e;have X:=mb z;have cr:=wZ hs aJ;have bX:=za hs j U;rw[cG]at C;obtain⟨Z,ab,aw,ax,az,ac,af⟩:=lG.append (cC:=48) z.src (e.ext t) (iG _) (by rw[C,X];omega);rw[bB (n:=(j:Int)+1) I I];refine⟨W,rfl,Z,ab,aw,⟨j+1,I,I,?_,Ext.df (b.trans t) ac f,λk ag=>?_⟩,?_⟩
  .rw[y2,←cM,mU];exact ax
  .rcases af k ag with h|h
   .exact f k h
   .exact eC (b.trans t).size h
  .show((n.keys.length:Int)-((j:Int)+1)).toNat<((n.keys.length:Int)-(j:Int)).toNat
   omega
 .have r:j=n.keys.length:=by have:=cw r;omega
  subst r;exact⟨p,rfl,e,l.trans b,f.mono l.size⟩
theorem pc{B:Nat->Prop}{w:J}{n:aG}{K V D:ad}(h:bI B w n K V D)(hs:cQ n)(f:n.keys.length<=255):
 aK ai 280 #[c9 n K V D] w (λv w'=>v=.int .i64 (bN n:Nat)/\Ext w w'):=by
 have g:n.vals.length<=100000:=by
  rcases hs with hs|hs
  .rw[hs.len];omega
  .rw[hs.vals];simp
 have i:n.kids.length<=100000:=by
  rcases hs with hs|hs
  .rw[hs.kids];simp
  .rw[hs.len];omega
 refine okF (ae.pc n.leaf K V D) ay.pc func280 ?_;(delta ae.pc aY aa r1 b8 an bK;dsimp only);refine bc (vs:=[n.leaf,K,V,D]) rfl λw1 d a _=>?_;obtain⟨b6,aZ,bf,bq⟩:=bP d;refine⟨n.leaf,b6,K,aZ,V,bf,D,bq,(kz (h.ext a) I g i).use ?_⟩;rintro _ aj ⟨b,rfl,j,c⟩;have k:=j.2 hs;subst k;obtain⟨b6,aZ,bf,bq⟩:=bP (d.ext c);refine⟨true,rfl,λh=>(by cases h),λ_=>⟨n.leaf,b6,K,aZ,V,bf,D,bq,(pe (h.ext (a.trans c)) hs f).use ?_⟩⟩;rintro _ p ⟨l,rfl,m,o,_⟩;have e:=mb m;rw[y5 hs]at e;exact⟨l,rfl,by rw[e],(a.trans c).trans o⟩
def CB(n:aG)(w w':J)(v:Y):Prop:=
 (∃s:ad,v=.tuple #[s,(0:Int)]/\aT 1 5 w' s (aD (jK n))/\gO w s/\cQ n/\bN n<=232)\/
 (∃e:Int,v=.tuple #[(),e]/\e≠0/\(cQ n->232<bN n))
theorem pb{B:Nat->Prop}{w:J}{n:aG}{K V D:ad}(h:bI B w n K V D)(m:n.keys.length<=100000)(o:n.vals.length<=100000)(p:n.kids.length<=100000):
 aK ai 274 #[c9 n K V D] w (λv w'=>CB n w w' v/\Ext w w'):=by
 refine okF (ae.pb n.leaf K V D) ay.pb func274 ?_;(delta ae.pb aY aa r1 b8 an bK;dsimp only);refine bc (vs:=[n.leaf,K,V,D]) rfl λw1 d e _=>?_;obtain⟨b6,aZ,bf,bq⟩:=bP d;refine⟨n.leaf,b6,K,aZ,V,bf,D,bq,(kz (h.ext e) m o p).use ?_⟩;rintro _ aj ⟨b,rfl,f,g⟩;have a:=e.trans g;obtain⟨b6,aZ,bf,bq⟩:=bP (d.ext g);have u:=bw.len h.keys;refine⟨b,rfl,cq (λc w'=>aj=w'/\(c=true->cQ n->255<n.keys.length)/\(c=false->cQ n/\n.keys.length<=255)) (λq i=>⟨λh1=>i _ _ ⟨rfl,λ_ hs=>?_,λh=>(by cases h)⟩,λh1=>⟨K,aZ,i _ _ ⟨rfl,λh2 hs=>?_,λh2=>?_⟩⟩⟩) ?_⟩
 .have h1:b=false:=by simpa using h1
  rw[f.2 hs]at h1;cases h1
 .have:=cl h2;omega
 .have h1:b=true:=by simpa using h1
  have:=cw h2;exact⟨f.1 h1,I⟩
 rintro c w' ⟨rfl,aw,ax⟩;refine⟨λh1=>⟨.inr ⟨4,rfl,by decide,λhs=>?_⟩,a⟩,λh1=>?_⟩
 .have:=aw h1 hs
  have:=wM hs;omega
 obtain⟨hs,r⟩:=ax h1;refine⟨n.leaf,b6,K,aZ,V,bf,D,bq,(pe (h.ext a) hs r).use ?_⟩;rintro _ x ⟨j,rfl,k,l,s⟩;have t:=mb k;rw[y5 hs]at t;refine⟨j,rfl,λh2=>⟨.inr ⟨10,rfl,by decide,λ_=>?_⟩,a.trans l⟩,λh2=>⟨.inl ⟨j,rfl,k,s.mono a.size,hs,?_⟩,a.trans l⟩⟩
 .have:=cl h2;omega
 .have:=cw h2;omega
theorem qP{B:Nat->Prop}{w:J}{n:aG}{K V D:ad}(h:bI B w n K V D)(d:n.keys.length<=100000)(f:n.vals.length<=100000)(g:n.kids.length<=100000):
 aK ai 295 #[c9 n K V D] w (λv w'=>CB n w w' v/\Ext w w'):=by
 refine okF (ae.qP n.leaf K V D) ay.qP func295 ?_;(delta ae.qP aY aa r1 ed;dsimp only);refine bc (vs:=[n.leaf,K,V,D]) rfl λw1 i a _=>?_;obtain⟨b6,aZ,bf,bq⟩:=bP i;refine⟨n.leaf,b6,K,aZ,V,bf,D,bq,(pb (h.ext a) d f g).use ?_⟩;rintro _ aj ⟨j,c⟩;rcases j with ⟨s,rfl,k,hf,hs,b⟩|⟨e,rfl,he,b⟩
 .exact⟨s,0,rfl,.inl ⟨s,rfl,k,hf.mono a.size,hs,b⟩,a.trans c⟩
 .exact⟨⟨none,0,0⟩,e,rfl,.inr ⟨e,rfl,he,b⟩,a.trans c⟩
def fM(n:Int):al:=decide (n>=0)&&decide (n<=65535)
theorem mO(n:Int)(w:J):aK ai 124 #[n] w (λv w'=>v=.bool (fM n)/\w=w'):=by
 refine okF (ae.mO n) ay.mO func124 ?_;unfold ae.mO;exact⟨rfl,rfl⟩
theorem nW{n:Int}(h:fM n=true):∃k:Nat,n=(k:Int)/\k<=65535:=by
 unfold fM at h;simp at h;exact⟨n.toNat,I,I⟩
def jM(b u:Nat):O UInt8:=bL b 2++bL u 8
theorem qu(b:Int){u:Nat}(hu:u<18446744073709551616)(w:J):aK ai 67 #[b,.int .u64 (u:Nat)] w (λv w'=>(fM b=false/\v=.tuple #[(),false]/\w=w')\/(fM b=true/\∃s:ad,v=.tuple #[s,true]/\aT 1 5 w' s (aD (jM b.toNat u))/\Ext w w'/\∀q,aE s q->w.heap.size<=q)):=by
 refine okF (ae.qu b (u:Nat)) ay.qu func67 ?_;delta ae.qu b8 an bK;refine(mO b w).use ?_;rintro _ _ ⟨rfl,rfl⟩;refine⟨_,rfl,λa=>.inl ⟨by simpa using a,rfl,rfl⟩,λa=>?_⟩;have a:fM b=true:=by simpa using a
 obtain⟨k,rfl,m⟩:=nW a;rw[gq (n:=(k:Int)) I I];refine(gV (s:=⟨none,0,0⟩) (l:=[]) (aT.none 1 5 w).src (by simp) (n:=k) (k:=2) I I).use ?_;rintro _ o ⟨e,rfl,f,c,p⟩;refine⟨e,rfl,(gV f.src (by rw[cG,dH];decide) (n:=u) (k:=8) hu I).use ?_⟩;rintro _ r ⟨d,rfl,g,h,i⟩;exact⟨d,rfl,.inr ⟨a,d,rfl,g,c.trans h,λq j=>by have:=i q j;have:=c.size;omega⟩⟩
def iJ(p:bl):UInt8:=if p.addr.ej then 6 else 4
def eE(s:Nat)(p:bl):O UInt8:=bL s 2++([iJ p,UInt8.ofNat p.bits.toNat]++p.addr.raw)
def db(s:Int)(p:bl):al:=decide (gu p.addr p.bits=some p)&&fM s
section
variable {w:J}{p:bl}{b:Nat}{T:TypeId}
theorem zb(h:Var w b p.c T):a8 w b 0 17=some p.addr.c:=by
 rw[h.qX (by rw[bl.bd];decide),iN,bl.c,ox (a_.bd _)]
theorem zc(h:Var w b p.c T):w.cell? (Addr.add b 17)=some (.int .i64 p.bits):=by
 rw[az,h.cell,bl.c,g3 (by simp[a_.bd])];simp[a_.bd]
theorem CC(h:Var w b p.c T):w.cell? b=some (.bool p.addr.ej):=by
 rw[h.cell,bl.c,tR (by simp[a_.bd])];rfl
theorem ta(h:gu p.addr p.bits=some p):0<=p.bits/\p.bits<=128:=by
 unfold gu at h;split at h
 .rename_i a
  have:=p.addr.jJ;split at this<;>omega
 .cases h
theorem l5(s:Int)(p:bl)(w:J):aK ai 66 #[s,.agg p.c.toArray] w (λv w'=>Ext w w'/\((db s p=false/\v=.tuple #[(),false])\/(db s p=true/\∃t:ad,v=.tuple #[t,true]/\aT 1 5 w' t (aD (eE s.toNat p))/\∀q,aE t q->w.heap.size<=q))):=by
 refine ae.F2 s _ w _ ?_;(delta ae.l5 aa aF hM z5 an b8 aY bK uY;dsimp only);refine bc (vs:=p.c) rfl λw1 f Y ay=>⟨p.addr.c,zb f,p.bits,zc f,(o0 p.addr p.bits w1).use ?_⟩;rintro _ az ⟨rfl,o⟩;refine⟨_,_,rfl,bc (vs:=bl.zero.c) rfl λaA H K aB=>⟨H.b3 (by simp[bl.bd]) (bl.plain _),by simp[bl.bd],cp H (us:=((gu p.addr p.bits).getD bl.zero).c) (by simp[bl.bd]) rfl λe Z L _=>?_⟩⟩;have M:=Y.trans o;have N:Ext w e:=Ext.cD (M.trans K) L M.size;have r:=((f.ext o).ext K).ah L (by have:=(f.ext o).lt;omega);refine cq (λb w'=>b= !decide (gu p.addr p.bits=some p)/\e=w') (λq d=>⟨λh=>d _ _ ⟨?_,rfl⟩,λh=>⟨_,Z.rd (bl.bd _),_,r.rd (bl.bd _),_,yJ _ _,d _ _ ⟨?_,rfl⟩⟩⟩) ?_
 .cases u:gu p.addr p.bits with
  |none=>simp
  |some m=>rw[u]at h;cases h
 .cases u:gu p.addr p.bits with
  |none=>rw[u]at h;cases h
  |some m=>simp
 rintro _ _ ⟨rfl,rfl⟩;refine cq (λb w'=>b= !db s p/\e=w') (λq d=>⟨λh=>d _ _ ⟨?_,rfl⟩,λh=>(mO s e).use ?_⟩) ?_
 .unfold db
  rw[jh]at h;rw[h];rfl
 .rintro _ _ ⟨rfl,rfl⟩
  refine⟨_,rfl,d _ _ ⟨?_,rfl⟩⟩;unfold db;rw[mz]at h;rw[h,g9]
 rintro _ _ ⟨rfl,rfl⟩;refine⟨λh=>⟨N,.inl ⟨by simpa using h,rfl⟩⟩,λh=>?_⟩;have hg:db s p=true:=by simpa using h
 have x:=hg;unfold db at x;rw[dh,b_]at x;obtain⟨ab,ac⟩:=x;obtain⟨k,rfl,aC⟩:=nW ac;have aG:=ta ab;have af:IntKind.wrap .u8 p.bits=(((UInt8.ofNat p.bits.toNat).toNat:Nat):Int):=by
  rw[oy];show p.bits%256=_;omega
 refine cq (λn w'=>n=(((iJ p).toNat:Nat):Int)/\e=w') (λq d=>⟨_,CC r,λh=>d _ _ ⟨by unfold iJ;rw[if_pos h];rfl,rfl⟩,λh=>d _ _ ⟨by unfold iJ;rw[if_neg (by rw[h];decide)];rfl,rfl⟩⟩) ?_;rintro _ _ ⟨rfl,rfl⟩;have O:=cE e;have y:=r.ext O;have z:=N.trans O;refine aX ?_;generalize e.drew=g at y z;refine⟨λ_=>False,id,_,zc y,id,_,zb y,?_⟩;rw[af,gq (n:=(k:Int)) I I];have fin:∀ (w':J) (a b c:ad),Ext g w'->Src 1 w' a (aD ([]++bL k 2))->Src 1 w' b (aD [iJ p,UInt8.ofNat p.bits.toNat])->Src 1 w' c (aD p.addr.raw)->
  ak (w'.alloc (.cells #[a,b,c] 48)) λag=>Calls ai 92 #[.slice (some w'.heap.size) 3 3] ag λaj A=>
   ∃B:ad,aj=.returned B/\(Ext w A/\((db (k:Int) p=false/\Value.tuple #[B,true]=.tuple #[(),false])\/(db (k:Int) p=true/\∃t:ad,Value.tuple #[B,true]=.tuple #[t,true]/\aT 1 5 A t (aD (eE (k:Int).toNat p))/\∀q,aE t q->w.heap.size<=q))):=λw' a b c hx al am hc=>by
  refine aX ((Cz al am hc ?_).use ?_)
  .have:=p.addr.jJ
   rw[hG,dH];show 2+2+p.addr.raw.length<=1000;split at this<;>omega
  .rintro _ A ⟨t,rfl,ao,ap,hf⟩
   have aH:=z.size;have aI:=hx.size;exact⟨t,rfl,z.trans (hx.trans ap),.inr ⟨hg,t,rfl,ao,λq d=>by have:w'.heap.size<=q:=hf q d;omega⟩⟩
 have put:∀ (w':J),aK ai 126 #[(),.int .u64 (k:Nat),(2:Int)] w' (λv P=>∃C:ad,v=C/\aT 1 5 P C (aD ([]++bL k 2))/\Ext w' P/\∀q,aE C q->w'.heap.size<=q):=λw'=>gV (s:=⟨none,0,0⟩) (l:=[]) (aT.none 1 5 w').src (by simp) (n:=k) (k:=2) I I;have lit:∀ (w':J),Src 1 (w'.alloc (.cells #[.int .u8 (((iJ p).toNat:Nat):Int),.int .u8 (((UInt8.ofNat p.bits.toNat).toNat:Nat):Int)] 5)) ⟨some w'.heap.size,2,2⟩ (aD [iJ p,UInt8.ofNat p.bits.toNat]):=λw'=>Src.new (T:=5) w' (aD [iJ p,UInt8.ofNat p.bits.toNat]) 2 rfl;refine⟨(put g).use ?_,aX ⟨c8 _ _,(put _).use ?_⟩⟩
 .rintro _ Q ⟨D,rfl,R,E,_⟩
  refine⟨D,rfl,E,aX ⟨c8 _ _,(l6 p.addr _).use ?_⟩,(l6 p.addr _).use ?_⟩
  .rintro _ aq ⟨S,rfl,ar,_,i,_⟩
   exact⟨S,rfl,i,fin aq D ⟨some Q.heap.size,2,2⟩ S (E.trans ((c8 _ _).trans i)) (R.src.ext ((c8 _ _).trans i)) ((lit Q).ext i) ar.src⟩
  .rintro _ U ⟨V,rfl,au,_,F,_⟩
   exact⟨V,rfl,F,aX ⟨c8 _ _,fin _ D ⟨some U.heap.size,2,2⟩ V (E.trans (F.trans (c8 _ _))) (R.src.ext (F.trans (c8 _ _))) (lit U) (au.src.ext (c8 _ _))⟩⟩
 .rintro _ aJ ⟨W,rfl,av,G,_⟩
  refine⟨W,rfl,G,(l6 p.addr _).use ?_⟩;rintro _ aw ⟨X,rfl,ax,_,j,_⟩;exact⟨X,rfl,j,fin aw W ⟨some g.heap.size,2,2⟩ X ((c8 _ _).trans (G.trans j)) (av.src.ext j) ((lit g).ext (G.trans j)) ax.src⟩
end
structure aB where
 s:Int
 p:bl
 b:Int
 u:Nat
def aB.c(t:aB):O Y:=.int .i64 t.s::(t.p.c++ [.int .i64 t.b,.int .u64 (t.u:Nat)])
theorem aB.bd(t:aB):t.c.length=21:=by simp[aB.c,bl.bd]
section
variable {w:J}{t:aB}{b:Nat}{T:TypeId}
theorem lM(h:Var w b t.c T):a8 w (Addr.add ⟨b,0,none⟩ 1) 0 18=some t.p.c:=by
 rw[az,h.qX (by rw[aB.bd];decide)];show some (List.take 18 (t.p.c++_))=_;rw[ox (bl.bd _)]
theorem tb(h:Var w b t.c T):w.cell? (Addr.add ⟨b,0,none⟩ 19)=some (.int .i64 t.b):=by
 rw[az,h.cell];show(t.p.c++_)[18]? =_;rw[g3 (by rw[bl.bd];decide),bl.bd];rfl
theorem zd(h:Var w b t.c T):w.cell? (Addr.add ⟨b,0,none⟩ 20)=some (.int .u64 (t.u:Nat)):=by
 rw[az,h.cell];show(t.p.c++_)[19]? =_;rw[g3 (by rw[bl.bd];decide),bl.bd];rfl
def aB.dZ(t:aB):al:=db t.s t.p&&fM t.b
theorem oY(t:aB)(w:J):aK ai 65 #[.agg t.c.toArray] w (λv w'=>v=t.dZ/\Ext w w'):=by
 refine ae.F1 _ w _ ?_;(delta ae.oY aF aa hL an b8;dsimp only);refine bc (vs:=t.c) rfl λw1 a i l=>⟨t.s,a.cell,t.p.c,lM a,(l5 t.s t.p w1).use ?_⟩;rintro v f ⟨g,j⟩;have k:=a.ext g;have key:∃ (d:ad),v=.tuple #[d,.bool (db t.s t.p)]:=by
  rcases j with ⟨hg,rfl⟩|⟨hg,s,rfl,_⟩
  .exact⟨⟨none,0,0⟩,by rw[hg]⟩
  .exact⟨s,by rw[hg]⟩
 obtain⟨d,rfl⟩:=key;refine⟨d,_,rfl,cq (λb w'=>b=t.dZ/\f=w') (λq h=>⟨λe=>⟨t.b,tb k,(mO t.b f).use ?_⟩,λe=>h _ _ ⟨?_,rfl⟩⟩) ?_⟩
 .rintro _ _ ⟨rfl,rfl⟩
  exact⟨_,rfl,h _ _ ⟨by unfold aB.dZ;rw[e,g9],rfl⟩⟩
 .unfold aB.dZ;rw[e,kn]
 .rintro _ _ ⟨rfl,rfl⟩
  exact⟨rfl,i.trans g⟩
def mZ(k:Nat):O UInt8:=if k<65535 then bL (k+1) 2 else []
theorem qF(s:Int)(w:J):aK ai 159 #[s] w (λv w'=>∃f t:ad,v=.tuple #[f,t]/\Ext w w'/\((fM s=false/\f=⟨none,0,0⟩/\t=⟨none,0,0⟩)\/(fM s=true/\aT 1 5 w' f (aD (bL s.toNat 2))/\aT 1 5 w' t (aD (mZ s.toNat))/\(∀q,aE f q->w.heap.size<=q)/\∀q,aE t q->w.heap.size<=q))):=by
 refine okF (ae.qF s) ay.qF func159 ?_;delta ae.qF b8 an bK;refine(mO s w).use ?_;rintro _ _ ⟨rfl,rfl⟩;refine⟨_,rfl,λa=>⟨⟨none,0,0⟩,⟨none,0,0⟩,rfl,.refl _ _,.inl ⟨by simpa using a,rfl,rfl⟩⟩,λa=>?_⟩;have a:fM s=true:=by simpa using a
 obtain⟨k,rfl,u⟩:=nW a;rw[gq (n:=(k:Int)) I I,gq (n:=(k:Int)+1) I I];refine(gV (s:=⟨none,0,0⟩) (l:=[]) (aT.none 1 5 w).src (by simp) (n:=k) (k:=2) I I).use ?_;rintro _ b ⟨d,rfl,g,e,i⟩;refine⟨d,rfl,cq (λ(t:ad) w'=>aT 1 5 w' t (aD (mZ k))/\Ext b w'/\∀q,aE t q->b.heap.size<=q) (λq c=>⟨λh=>?_,λh=>?_⟩) ?_⟩
 .have h:(k:Int)<65535:=cl h
  refine(gV (s:=⟨none,0,0⟩) (l:=[]) (aT.none 1 5 b).src (by simp) (n:=k+1) (k:=2) I I).use ?_;rintro _ x ⟨j,rfl,m,o,p⟩;exact⟨j,rfl,c _ _ ⟨by unfold mZ;rw[if_pos I];exact m,o,p⟩⟩
 .have h:¬(k:Int)<65535:=cw h
  exact c ⟨none,0,0⟩ _ ⟨by unfold mZ;rw[if_neg I];exact aT.none 1 5 b,.refl _ _,λq h=>(gy q h).elim⟩
 .rintro t y ⟨r,hx,hf⟩
  have z:=e.size;exact⟨d,t,rfl,e.trans hx,.inr ⟨a,g.ext hx,r,i,λq c=>by have:=hf q c;omega⟩⟩
end
theorem ze{a:a_}(h:a.dZ=true):ib a.raw=some a:=by
 have d:=a.jJ;obtain⟨c,e⟩:=B9 (l:=a.raw) (by split at d<;>omega);obtain⟨h1,h2⟩:=B8 e;have f:=B7 e;have hs:c.ej=a.ej:=by
  cases hx:a.ej with
  |true=>exact h2.2 (by rw[d,hx];rfl)
  |false=>
   cases g:c.ej with
   |false=>rfl
   |true=>
    have:=h2.1 g;rw[d,hx]at this;cases this
 have i:c.b=a.b:=by
  unfold a_.raw at h1;rw[hs]at h1
  cases hx:a.ej with
  |true=>rw[hx]at h1;exact h1
  |false=>
   rw[hx]at h1;have h1:c.b.drop 12=a.b.drop 12:=h1;unfold a_.dZ at h f;rw[hs,hx,lk,b_]at f;rw[hx,lk,b_]at h;rw[←fV 12 c.b,←fV 12 a.b,h1,f,h]
 rw[e,a_.ext' hs i]
def aB.zero:aB:=⟨0,bl.zero,0,0⟩
theorem tc(w:J):Sem.run ai (Instr.build 29 #[]) w=.ok (.agg aB.zero.c.toArray) w:=by kernel_rfl
theorem CD(w:J)(p:bl)(s b u:Int):Sem.run ai (Instr.build 29 #[(0,.int .i64 s),(1,.agg p.c.toArray),(2,.int .i64 b),(3,.int .u64 u)]) w=.ok (.agg (.int .i64 s::(p.c++ [.int .i64 b,.int .u64 u])).toArray) w:=by
 obtain⟨⟨ej,l,h⟩,n⟩:=p;obtain⟨bU,a,d,e,f,g,i,j,k,m,o,q,r,t,v,x,rfl⟩:=sZ l h
 kernel_rfl
theorem aB.plain(t:aB):∀v∈t.c,Plain v:=λv a=>by
 unfold aB.c at a
 rcases de.1 a with rfl|a
 .trivial
 .rcases c1.1 a with a|a
  .exact bl.plain _ v a
  .simp only[de,fG,fQ]at a
   rcases a with rfl|rfl<;>trivial
theorem w2(k:Nat)(p:bl):(eE k p).length=4+p.addr.raw.length:=by
 unfold eE;rw[cG,cG,dH];show 2+(2+p.addr.raw.length)=_;omega
theorem q8(b u:Nat):(jM b u).length=10:=by unfold jM;rw[cG,dH,dH]
theorem zf{k:Nat}(h:k<=65535)(p:bl):ic (((eE k p).drop 0).take 2)=k:=by
 rw[iN];unfold eE;rw[ox (dH k 2),q2 2 k I]
theorem zg(k:Nat)(p:bl):(eE k p)[3]? =some (UInt8.ofNat p.bits.toNat):=by
 unfold eE;rw[g3 (by rw[dH];decide),dH];rfl
theorem zh(k:Nat)(p:bl):(eE k p).drop 4=p.addr.raw:=by
 unfold eE;rw[show 4=2+2 from rfl,←kN,List.drop_left' (dH k 2)];exact List.drop_left' rfl
theorem HT{b:Nat}(h:b<=65535)(u:Nat):ic (((jM b u).drop 0).take 2)=b:=by
 rw[iN];unfold jM;rw[ox (dH b 2),q2 2 b I]
theorem HU(b:Nat){u:Nat}(h:u<18446744073709551616):ic (((jM b u).drop 2).take 8)=u:=by
 unfold jM;rw[List.drop_left' (dH b 2),dr (by rw[dH];exact bt _),q2 8 u I]
theorem qy{w:J}{d sv:ad}{k b u:Nat}{p:bl}(e:Src 1 w d (aD (eE k p)))(y:d.len<=d.cap)(f:Src 1 w sv (aD (jM b u)))(z:sv.len<=sv.cap)(hg:db (k:Int) p=true)(g:b<=65535)(hu:u<18446744073709551616):
 aK ai 88 #[.slice d.a d.len d.cap,.slice sv.a sv.len sv.cap] w (λv w'=>v=.tuple #[.agg (aB.mk (k:Nat) p (b:Nat) u).c.toArray,.bool true]/\Ext w w'):=by
 have j:=hg;unfold db at j;rw[dh,b_]at j;obtain⟨B,Q⟩:=j;have R:k<=65535:=by obtain⟨n,h1,h2⟩:=nW Q;omega
 have ax:=wE p.addr;have az:d.len=4+p.addr.raw.length:=by have:=e.len;rw[dm,w2]at this;omega
 have aA:sv.len=10:=by have:=f.len;rw[dm,q8]at this;omega
 have S:p.addr.dZ=true:=(yP B).2.1;have aC:=ta B;refine okF (ae.qy d sv) ay.qy func88 ?_;(delta ae.qy fc nF an aa hM l3 aM dF ar aF hL b8;dsimp only);refine bc (vs:=aB.zero.c) rfl λw1 T l aE=>(ky (e.ext l) y (a:=0) (k:=2) I (by rw[w2];omega) (by rw[w2];omega)).use ?_;rintro _ _ ⟨rfl,rfl⟩;rw[zf R];refine⟨_,true,rfl,λg=>?_,λ_=>⟨⟨by decide,I⟩,?_⟩⟩
 .exfalso
  simp only[Bool.not_true,lk,jy,b_,bne_iff_ne]at g;omega
 have C:=Src.sub (e.ext l) y (lo:=4) (hi:=d.len) I (bt _);have U:((aD (eE k p)).drop 4).take (d.len-4)=aD p.addr.raw:=by
  have h1:(aD (eE k p)).drop 4=aD p.addr.raw:=by rw[←zh k p];unfold aD;rw[mu]
  rw[h1,dr (by rw[dm];omega)]
 rw[U]at C;refine(qE C).use ?_;rintro _ V ⟨rfl,D⟩;rw[ze S];refine⟨_,_,rfl,bc (vs:=a_.zero.c) rfl λaG E W aH=>⟨E.b3 (by simp[a_.bd]) (a_.plain _),by simp[a_.bd],cp E (us:=p.addr.c) (by simp[a_.bd]) rfl λm X Y _=>?_⟩⟩;have Z:=l.trans D;have F:Ext V m:=Ext.cD W Y (bt _);have o:=Z.trans F;refine(ky (f.ext o) z (a:=0) (k:=2) I (by rw[q8];decide) (by rw[q8];decide)).use ?_;rintro _ _ ⟨rfl,rfl⟩;rw[HT g];refine⟨_,true,rfl,(ky (f.ext o) z (a:=2) (k:=8) I (by rw[q8];decide) (by rw[q8];decide)).use ?_⟩;rintro _ _ ⟨rfl,rfl⟩;rw[HU b hu];have r:=cE m;have s:=o.trans r;have G:=X.ext r;have H:=(T.ext D).ext (F.trans r);refine⟨_,true,rfl,aX ?_⟩;generalize m.drew=ab at s G H;obtain⟨A,aq,ac,af⟩:=(e.ext s).at (i:=3) (v:=.int .u8 (((UInt8.ofNat p.bits.toNat).toNat:Nat):Int)) (by unfold aD;rw[nq,zg];rfl);have ag:IntKind.wrap .i64 (((UInt8.ofNat p.bits.toNat).toNat:Nat):Int)=p.bits:=by
  rw[oy,bB I I];omega
 refine⟨λ_=>False,id,p.addr.c,G.rd (a_.bd _),A,aq,ac,id,_,af,?_⟩;rw[ag,bB (n:=(k:Int)) I I,bB (n:=(b:Int)) I I];refine⟨p.c.toArray,λah=>yK ah p.addr p.bits,(aB.mk (k:Nat) p (b:Nat) u).c.toArray,λaj=>CD aj p _ _ _,bc (vs:=aB.zero.c) rfl λaI K L aJ=>⟨L,K.b3 (by simp[aB.bd]) (aB.plain _),by simp[aB.bd],cp K (us:=(aB.mk (k:Nat) p (b:Nat) u).c) (by simp[aB.bd]) rfl λM t ak _=>?_⟩⟩;have N:Ext ab M:=Ext.cD L ak (bt _);refine⟨_,t.cell,_,lM t,(l5 (k:Nat) p M).use ?_⟩;rintro _ al ⟨x,⟨hf,_⟩|⟨_,am,rfl,ao,_⟩⟩
 .rw[hg]at hf;cases hf
 have O:=(s.trans N).trans x;have ap:=t.ext x;have P:=(H.ext N).ext x;refine⟨am,true,rfl,cq (λb w'=>b=false/\al=w') (λq au=>⟨λh=>(by cases h),λ_=>(oW ao.src (e.ext O)).use ?_⟩) ?_⟩
 .rintro _ _ ⟨rfl,rfl⟩
  exact⟨_,rfl,au _ _ ⟨by rw[di,dD rfl];rfl,rfl⟩⟩
 rintro _ _ ⟨rfl,rfl⟩;refine⟨λh=>(by cases h),λ_=>⟨_,ap.rd (aB.bd _),P.b3 (by simp[aB.bd]) (aB.plain _),by simp[aB.bd],cp P (us:=(aB.mk (k:Nat) p (b:Nat) u).c) (by simp[aB.bd]) rfl λaL av aw _=>⟨_,av.rd (aB.bd _),rfl,Ext.cD O aw (bt _)⟩⟩⟩
theorem pj(n:Int)(w:J):aK ai 166 #[n] w (λv w'=>v=.bool (fM n)/\w=w'):=by
 refine okF (ae.pj n) ay.pj func166 ?_;unfold ae.pj;exact⟨rfl,rfl⟩
section
variable {w:J}{t:aB}{b:Nat}{T:TypeId}
theorem HV(h:Var w b t.c T):a8 w (Addr.add ⟨b,0,none⟩ 1) 0 17=some t.p.addr.c:=by
 rw[az,h.qX (by rw[aB.bd];decide)];show some (List.take 17 (t.p.c++_))=_;rw[bl.c,cM,ox (a_.bd _)]
theorem HW(h:Var w b t.c T):w.cell? ((Addr.add ⟨b,0,none⟩ 1).add 17)=some (.int .i64 t.p.bits):=by
 rw[az,az,h.cell];show(t.p.c++_)[17]? =_;rw[tR (by rw[bl.bd];decide),bl.c,g3 (by rw[a_.bd];decide),a_.bd];rfl
theorem mR(t:aB)(w:J):aK ai 95 #[.agg t.c.toArray] w (λv w'=>v=t.dZ/\Ext w w'):=by
 refine ae.Gv _ w _ ?_;(delta ae.mR aa aF hM z5 b8 an;dsimp only);refine bc (vs:=t.c) rfl λw1 e o x=>⟨_,HV e,_,HW e,(ph t.p.addr t.p.bits w1).use ?_⟩;rintro _ y ⟨rfl,f⟩;refine⟨_,_,rfl,bc (vs:=bl.zero.c) rfl λz j k A=>⟨j.b3 (by simp[bl.bd]) (bl.plain _),by simp[bl.bd],cp j (us:=((gu t.p.addr t.p.bits).getD bl.zero).c) (by simp[bl.bd]) rfl λa r l _=>?_⟩⟩;have n:=o.trans f;have u:Ext w a:=Ext.cD (n.trans k) l n.size;have g:=((e.ext f).ext k).ah l (by have:=(e.ext f).lt;omega);refine⟨_,g.cell,(pj t.s a).use ?_⟩;rintro _ _ ⟨rfl,rfl⟩;refine⟨_,rfl,cq (λb w'=>b=(fM t.s&&fM t.b)/\a=w') (λq d=>⟨λh=>⟨_,tb g,(pj t.b a).use ?_⟩,λh=>d _ _ ⟨by rw[h,kn],rfl⟩⟩) ?_⟩
 .rintro _ _ ⟨rfl,rfl⟩
  exact⟨_,rfl,d _ _ ⟨by rw[h,g9],rfl⟩⟩
 rintro _ _ ⟨rfl,rfl⟩;refine cq (λb w'=>b=t.dZ/\a=w') (λq d=>⟨λh=>⟨_,r.rd (bl.bd _),_,lM g,_,yJ _ _,d _ _ ⟨?_,rfl⟩⟩,λh=>d _ _ ⟨?_,rfl⟩⟩) ?_
 .rw[dh,dh]at h
  unfold aB.dZ db;rw[h.1.1,h.1.2,pY,pY]
  cases i:gu t.p.addr t.p.bits with
  |none=>rw[i]at h;cases h.2
  |some m=>simp
 .unfold aB.dZ db
  cases i:gu t.p.addr t.p.bits with
  |none=>simp
  |some m=>
   rw[i]at h;have h:(fM t.s&&fM t.b)=false:=by simpa using h
   cases h1:fM t.s
   .simp
   .rw[h1,g9]at h;rw[h];simp
 .rintro _ _ ⟨rfl,rfl⟩
  exact⟨rfl,u⟩
end
theorem eO{w:J}{b i:Nat}{vs:O Y}{T:TypeId}(h:Var w b vs T)(v:Y):Var (w.setCell ⟨b,i,none⟩ v) b (vs.set i v) T:=by
 have:=bu.set h i v;have e:vs.toArray.setIfInBounds i v=(vs.set i v).toArray:=by simp
 rw[e]at this;exact this
theorem eP{w:J}{b i:Nat}{vs:O Y}{T:TypeId}(h:Var w b vs T)(hi:i<vs.length):(∃u:Y,w.cell? ⟨b,i,none⟩=some u)/\w.frozen? ⟨b,i,none⟩=false:=
 ⟨⟨vs[i],by rw[h.cell];simp[hi]⟩,bu.frozen h _ rfl⟩
theorem ek(w:J)(b i:Nat)(v:Y):af (λq=>q=b) w (w.setCell ⟨b,i,none⟩ v):=af.gS (.refl _ _) v
structure jN(w:J)(r:Nat)(s:ad)(rd:Rd):Prop where
 v:Var w r [s,rd.2] 354
 src:Src 1 w s (aD rd.1)
 le:s.len<=s.cap
 ne:∀k,aE s k->k≠r
theorem jN.ah{W:Nat->Prop}{w w':J}{r:Nat}{s:ad}{rd:Rd}(h:jN w r s rd)(hc:af W w w')(h1:¬W r)(h2:∀k,aE s k->¬W k):jN w' r s rd:=⟨h.v.ah hc h1,h.src.ah hc h2,h.le,h.ne⟩
theorem jN.ext{w w':J}{r:Nat}{s:ad}{rd:Rd}(h:jN w r s rd)(hc:Ext w w'):jN w' r s rd:=jN.ah h hc id λ_ _ h=>h
theorem w3{a:av ag}{z l m n c k:Nat}(h:aE ⟨aO a z l m,n,c⟩ k):∃A,a=some A/\A.block=k:=by
 obtain⟨A,aq,rfl⟩:=h;unfold aO at aq;split at aq
 .exact⟨A,aq,rfl⟩
 .cases b:a with
  |none=>rw[b]at aq;cases aq
  |some d=>
   rw[b]at aq;simp only[lT,Option.some.injEq]at aq;exact⟨d,rfl,by subst aq;unfold Addr.add;split<;>rfl⟩
theorem CE{w:J}{r:Nat}{s:ad}{rd:Rd}(h:jN w r s rd)(k:Nat)(z:k<=100000)(u:rd.1.length<=100000):
 aK ai 292 #[.pointer (some r),k] w (λv w'=>∃t m:ad,v=t/\bA (λq=>w.heap.size<=q) w' t (ig rd k).1/\jN w' r m (ig rd k).2/\af (λq=>q=r) w w'/\(∀q,aE m q->aE s q)):=by
 obtain⟨l,ok⟩:=rd;have f:=h.v;have x:=len8 h.src;simp only at x u f;have aJ:=f.lt;refine okF (ae.wu (some r) (k:Int)) ay.wu func292 ?_;(delta ae.wu aY an r1 st bK;dsimp only);refine⟨_,rfl,ok,by rw[az];exact f.cell,cq (λb w'=>w=w'/\b=decide (ok=false\/l.length<k)) (λq c=>⟨λh1=>c _ _ ⟨rfl,?_⟩,λh1=>⟨_,rfl,s,f.cell,c _ _ ⟨rfl,?_⟩⟩⟩) ?_⟩
 .have h1:ok=false:=by simpa using h1
  exact(dD (.inl h1)).symm
 .have h1:ok=true:=by simpa using h1
  subst h1;rw[eQ,b_,b_];constructor
  .intro h;exact .inr I
  .rintro(h|h)
   .cases h
   .omega
 rintro b w' ⟨rfl,rfl⟩;refine⟨λd=>⟨_,rfl,?_⟩,λd=>⟨_,rfl,s,f.cell,?_⟩⟩
 .have d:=cl d
  obtain⟨aw,ax⟩:=eP f (i:=1) (by simp);rw[az];have hc:=ek w r 1 false;have e:ig (l,ok) k=([],(l,false)):=by unfold ig;rw[if_pos d]
  rw[e];refine⟨aw,ax,aX ⟨⟨none,0,0⟩,s,rfl,⟨(aT.none 1 5 _).src,bt _,λq c=>(gy q c).elim⟩,⟨eO f _,h.src.ah hc λq c=>h.ne q c,h.le,h.ne⟩,hc,λq c=>c⟩⟩
 .have d:=cw d
  have e:ig (l,ok) k=(l.take k,(l.drop k,true)):=by unfold ig;rw[if_neg d]
  have C:k<=l.length:=by
   rcases eu l.length k with h1|h1
   .exact absurd (.inr h1) d
   .exact h1
  have y:ok=true:=by
   cases ok with
   |true=>rfl
   |false=>exact absurd (.inl rfl) d
  subst y;rw[e];have D:=h.le;refine⟨⟨I,I⟩,?_⟩;have n:=nV h.src h.le (lo:=0) (hi:=k) I I;rw[iN,nk]at n;rw[di,nk];refine(kZ (B:=λq=>w.heap.size<=q) (s:=⟨aO s.a 1 0 s.cap,k,s.cap-0⟩) n (by rw[cz];omega) (λq c=>c)).use ?_;rintro _ w1 ⟨t,rfl,ht,g,E⟩;have j:=f.ext g;obtain⟨aw,ax⟩:=eP j (i:=0) (by simp);have hc:=ek w1 r 0 (.slice (aO s.a 1 k s.cap) (s.len-k) (s.cap-k));have o:=nV (h.src.ext g) h.le (lo:=k) (hi:=s.len) I (bt _);rw[dr (l:=l.drop k) (by rw[dw];omega)]at o;have p:∀q,aE ⟨aO s.a 1 k s.cap,s.len-k,s.cap-k⟩ q->q≠r:=λq c=>by
   obtain⟨A,aq,d⟩:=w3 c;exact h.ne q ⟨A,aq,d⟩
  refine⟨t,rfl,_,rfl,s,j.cell,⟨I,I⟩,_,rfl,aw,ax,aX ⟨t,⟨aO s.a 1 k s.cap,s.len-k,s.cap-k⟩,rfl,bA.ah ht hc (λq c e=>by subst e;omega),⟨eO j _,o.ah hc λq c=>p q c,by show s.len-k<=s.cap-k;omega,p⟩,(af.cN g).trans hc,λq c=>?_⟩⟩;obtain⟨A,aq,d⟩:=w3 c;exact⟨A,aq,d⟩
theorem zi{w:J}{r:Nat}{s:ad}{rd:Rd}(h:jN w r s rd)(k:Nat)(c:1<=k/\k<=2)(g:rd.1.length<=100000):
 aK ai 272 #[.pointer (some r),k] w (λv w'=>∃b:ad,v=.int .i64 ((rdNum rd k).1:Nat)/\jN w' r b (rdNum rd k).2/\af (λq=>q=r) w w'/\(∀q,aE b q->aE s q)):=by
 refine okF (ae.wk (some r) (k:Int)) ay.wk func272 ?_;delta ae.wk bK nF ar;refine(CE h k I g).use ?_;rintro _ w1 ⟨t,b,rfl,ht,d,hc,e⟩;have hlen:(ig rd k).1.length=k\/(ig rd k).1=[]:=by
  unfold ig;split
  .exact .inr rfl
  .rename_i i
   left;rw[cz];have:¬rd.1.length<k:=λh=>i (.inr h);omega
 have f:=s0 k (ig rd k).1;have j:256^k<=65536:=eC (tS I c.2) (by decide);refine⟨t,rfl,?_⟩;rcases hlen with hlen|hlen
 .refine(ky (a:=0) (k:=k) ht.1 ht.2.1 ⟨c.1,I⟩ I I).use ?_
  rintro _ _ ⟨rfl,rfl⟩;have f:=f hlen;rw[iN,dr I];refine⟨_,_,rfl,b,?_,d,hc,e⟩;rw[bB I I];unfold rdNum;rw[if_pos hlen]
 .refine(HI (k:=k) ht.1 I (by rw[hlen];simp;omega)).use ?_
  rintro _ _ ⟨rfl,rfl⟩;refine⟨_,_,rfl,b,?_,d,hc,e⟩;unfold rdNum;rw[if_neg (by rw[hlen];simp;omega)];rfl
theorem zj(rd:Rd)(k:Nat):(rdNum rd k).1<256^k:=by
 unfold rdNum;split
 .exact s0 k _ (by assumption)
 .exact Nat.pow_pos I
theorem CF(rd:Rd)(k:Nat):(ig rd k).2.1.length<=rd.1.length/\(ig rd k).1.length<=k:=by
 unfold ig;split
 .exact⟨bt _,cR _⟩
 .exact⟨by rw[dw];omega,by rw[cz];omega⟩
theorem w4(rd:Rd)(k:Nat):(rdNum rd k).2.1.length<=rd.1.length:=(CF rd k).1
theorem CG(rd:Rd):(j9 rd).2.1.length<=rd.1.length/\(j9 rd).1.length<=255:=by
 unfold j9;have h1:=CF (rdNum rd 1).2 (rdNum rd 1).1;have h2:=w4 rd 1;have a:(rdNum rd 1).1<256:=zj rd 1;exact⟨I,I⟩
theorem CH{w:J}{r:Nat}{s:ad}{rd:Rd}(h:jN w r s rd)(d:rd.1.length<=100000):
 aK ai 273 #[.pointer (some r)] w (λv w'=>∃t b:ad,v=t/\bA (λq=>w.heap.size<=q) w' t (j9 rd).1/\jN w' r b (j9 rd).2/\af (λq=>q=r) w w'/\(∀q,aE b q->aE s q)):=by
 refine okF (ae.wm (some r)) ay.wm func273 ?_;delta ae.wm bS bK;refine(zi h 1 I d).use ?_;rintro _ w1 ⟨s1,rfl,e,c,f⟩;have k:(rdNum rd 1).1<256:=zj rd 1;have l:=w4 rd 1;refine⟨_,rfl,(CE e (rdNum rd 1).1 I I).use ?_⟩;rintro _ aj ⟨t,s2,rfl,ht,g,i,j⟩;exact⟨t,rfl,t,s2,rfl,bA.a7 ht λq _ a=>eC c.size a,g,c.trans i,λq a=>f q (j q a)⟩
theorem bx.a7{B C:Nat->Prop}{w:J}{s:ad}{ls:O Key}(h:bx B w s ls)(a:∀k,k<w.heap.size->B k->C k):bx C w s ls:=by
 obtain⟨ts,h1,h2,e,b⟩:=h;exact⟨ts,h1,h2,In.a7 e a,λi c d=>⟨bA.a7 (b i c d).1 a,(b i c d).2⟩⟩
theorem cX.a7{B C:Nat->Prop}{w:J}{s:ad}{ds:O Nat}(h:cX B w s ds)(a:∀k,k<w.heap.size->B k->C k):cX C w s ds:=⟨h.1,In.a7 h.2 a⟩
def Grow(B:Nat->Prop)(w w':J)(q:Nat):Prop:=B q\/(w.heap.size<=q/\q<w'.heap.size)
theorem w5{w:J}{nb o:Nat}{vs:O Y}{S t:ad}{ls:O Key}{l:Key}{B:Nat->Prop}{T:TypeId}{W:Nat->Prop}(d:Var w nb vs T)(p:o<vs.length)(f:bx B w S ls)(g:¬B nb)
 (ht:bA B w t l) (hd:∀k,aE t k->¬aE S k) (D:ls.length<=100000) {K:J->Prop}
 (r:∀ (w':J) (aA:ad),Var w' nb (vs.set o aA) T->bx (Grow B w w') w' aA (ls++ [l])->af (λq=>q=nb\/aE S q) w w'->K w'):
 ak (w.alloc (.cells #[t] 48)) λi=>af W w i/\∃j:ad,∃b:J,Sem.run ai (Builtin.append_ #[127,127] 127 #[S,.slice (some w.heap.size) 1 1]) i=.ok j b/\
  (∃u:Y,b.cell? (Addr.add nb o)=some u)/\b.frozen? (Addr.add nb o)=false/\ak (b.setCell (Addr.add nb o) j) λs=>K s:=by
 have v:=bx.a7 (C:=λq=>B q\/w.heap.size<=q) f λk _ h=>.inl h;have x:=bA.a7 (C:=λq=>B q\/w.heap.size<=q) ht λk _ h=>.inl h;obtain⟨c,w',aw,ax,m,E⟩:=Cw v x hd I λk a=>.inr a;have F:=d.lt;have y:¬aE S nb:=λh=>by
  obtain⟨ts,_,_,z,_⟩:=f;exact g (z nb h).1
 have n:=d.ah m y;obtain⟨aZ,bf⟩:=eP n p;refine aX ⟨af.cN (c8 _ _),c,w',aw,?_⟩;rw[az,cF];have hc:=ek w' nb o c;refine⟨aZ,bf,aX (r _ c (eO n _) ?_ ?_)⟩
 .have A:=bx.a7 (C:=Grow B w (w'.setCell ⟨nb,o,none⟩ c)) ax λk a h=>by
   rcases h with h|h
   .exact .inl h
   .exact .inr ⟨h,fP a hc.size⟩
  refine bx.ah A hc λk a e=>?_;subst e;rcases a with h|h
  .exact g h
  .omega
 .exact(m.mono λk _ h=>.inr h).trans (hc.mono λk _ h=>.inl h)
theorem CI{w:J}{nb o:Nat}{vs:O Y}{S:ad}{ds:O Nat}(d:Nat){B:Nat->Prop}{T:TypeId}{W:Nat->Prop}(f:Var w nb vs T)(p:o<vs.length)(g:cX B w S ds)(i:¬B nb)
 (y:ds.length<=100000) {K:J->Prop}
 (r:∀ (w':J) (aA:ad),Var w' nb (vs.set o aA) T->cX (Grow B w w') w' aA (ds++ [d])->af (λq=>q=nb\/aE S q) w w'->K w'):
 ak (w.alloc (.cells #[d] 3)) λj=>af W w j/\∃l:ad,∃b:J,Sem.run ai (Builtin.append_ #[58,58] 58 #[S,.slice (some w.heap.size) 1 1]) j=.ok l b/\
  (∃u:Y,b.cell? (Addr.add nb o)=some u)/\b.frozen? (Addr.add nb o)=false/\ak (b.setCell (Addr.add nb o) l) λs=>K s:=by
 have t:=cX.a7 (C:=λq=>B q\/w.heap.size<=q) g λk _ h=>.inl h;obtain⟨c,w',aw,ax,m,z⟩:=HQ d t I λk a=>.inr a;have A:=f.lt;have v:¬aE S nb:=λh=>i (g.2 nb h).1;have n:=f.ah m v;obtain⟨aZ,bf⟩:=eP n p;refine aX ⟨af.cN (c8 _ _),c,w',aw,?_⟩;rw[az,cF];have hc:=ek w' nb o c;refine⟨aZ,bf,aX (r _ c (eO n _) ?_ ?_)⟩
 .have x:=cX.a7 (C:=Grow B w (w'.setCell ⟨nb,o,none⟩ c)) ax λk a h=>by
   rcases h with h|h
   .exact .inl h
   .exact .inr ⟨h,fP a hc.size⟩
  refine cX.ah x hc λk a e=>?_;subst e;rcases a with h|h
  .exact i h
  .omega
 .exact(m.mono λk _ h=>.inr h).trans (hc.mono λk _ h=>.inl h)
structure kD(lo:Nat)(w:J)(r nb:Nat)(s:ad)(m:aG×Rd)(K V D:ad)(bY cj bO:Nat->Prop):Prop where
 v:Var w nb [m.1.leaf,K,V,D] 202
 rd:jN w r s m.2
 keys:bx bY w K m.1.keys
 vals:bx cj w V m.1.vals
 kids:cX bO w D m.1.kids
 bn:∀q,bY q->lo<=q/\q<w.heap.size/\¬cj q/\¬bO q
 bv:∀q,cj q->lo<=q/\q<w.heap.size/\¬bO q
 aM:∀q,bO q->lo<=q/\q<w.heap.size
 hs:∀q,aE s q->q<lo/\q≠nb
 pB:r<lo
 pC:nb<lo
 kE:r≠nb
 pD:m.2.1.length<=100000
def pE(lo r nb:Nat)(q:Nat):Prop:=q=r\/q=nb\/lo<=q
theorem kD.drew{lo:Nat}{w:J}{r nb:Nat}{s:ad}{m:aG×Rd}{K V D:ad}{bY cj bO:Nat->Prop}(h:kD lo w r nb s m K V D bY cj bO):kD lo w.drew r nb s m K V D bY cj bO:=
 ⟨h.v.ext (cE w),h.rd.ext (cE w),bx.ext h.keys (cE w),bx.ext h.vals (cE w),cX.ext h.kids (cE w),h.bn,h.bv,h.aM,h.hs,h.pB,h.pC,h.kE,h.pD⟩
theorem CJ{leaf:al}:∀ (s:aG×Rd) (i:Nat),s.1.leaf=leaf->(iI s i).1.leaf=leaf
 |_,0,h=>h
 |s,i+1,h=>by
  have a:=CJ s i h
  rw[iI]
  unfold pz
  split
  .exact a
  .exact a
theorem CK:∀ (s:aG×Rd) (i:Nat),(iI s i).1.keys.length=s.1.keys.length+i/\(iI s i).1.vals.length<=s.1.vals.length+i/\(iI s i).1.kids.length<=s.1.kids.length+i
 |_,0=>⟨rfl,bt _,bt _⟩
 |s,i+1=>by
  obtain⟨h1,h2,a⟩:=CK s i
  rw[iI]
  unfold pz
  split<;>simp<;>omega
theorem HX{lo:Nat}{w:J}{r nb:Nat}{s:ad}{m:aG×Rd}{K V D:ad}{bY cj bO:Nat->Prop}(h:kD lo w r nb s m K V D bY cj bO)(ab:lo<=w.heap.size)(G:m.1.keys.length<=100000){R:J->Prop}
 (H:∀ (w':J) (l n:ad) (L:Nat->Prop),kD lo w' r nb n (⟨m.1.leaf,m.1.keys++ [(j9 m.2).1],m.1.vals,m.1.kids⟩,(j9 m.2).2) l V D L cj bO->af (pE lo r nb) w w'->lo<=w'.heap.size->R w'):
 ak w.drew λp=>∃x:Nat->Prop,¬x (Addr.add nb 1).block/\∃i:ad,p.cell? (Addr.add nb 1)=some (.slice i.a i.len i.cap)/\
  Calls ai 273 #[.pointer (some r)] p λM d=>∃C:ad,M=.returned C/\af x p d/\
  ak (d.alloc (.cells #[C] 48)) λE=>af x d E/\∃F:ad,∃j:J,Sem.run ai (Builtin.append_ #[127,127] 127 #[i,.slice (some d.heap.size) 1 1]) E=.ok F j/\
  (∃u:Y,j.cell? (Addr.add nb 1)=some u)/\j.frozen? (Addr.add nb 1)=false/\ak (j.setCell (Addr.add nb 1) F) λN=>R N:=by
 have hd:=h.drew;have ac:=h.pB;have ae:=h.pC;obtain⟨b6,aZ,bf,bq⟩:=bP hd.v;refine aX ⟨λq=>q=r,λe=>h.kE (by rw[az]at e;exact e.symm),K,aZ,(CH hd.rd hd.pD).use ?_⟩;rintro _ d ⟨t,n,rfl,ht,O,hc,y⟩;have ag:w.drew.heap.size=w.heap.size:=rfl;have P:=hc.size;have z:∀ {B:Nat->Prop},(∀q,B q->lo<=q)->∀k,B k->¬(k=r):=λQ k c e=>by have:=Q k c;omega
 have S:=bx.ah hd.keys hc (z λq b=>(h.bn q b).1);have T:=bx.ah hd.vals hc (z λq b=>(h.bv q b).1);have U:=cX.ah hd.kids hc (z λq b=>(h.aM q b).1);have W:=hd.v.ah hc (λe=>h.kE e.symm);refine⟨t,rfl,hc,w5 (B:=Grow bY w.drew d) W (o:=1) (by simp) (bx.a7 S λk _ h=>.inl h) ?_ (bA.a7 ht λk c h=>.inr ⟨h,c⟩) ?_ G λw' l aw ax f=>?_⟩
 .rintro(h1|h1)
  .have:=(h.bn nb h1).1;omega
  .omega
 .intro k X Z
  obtain⟨ts,_,_,A,_⟩:=h.keys;have:=(A k Z).2;have:=(ht.2.2 k X).1;omega
 have aa:∀q,Grow (Grow bY w.drew d) d w' q->bY q\/(w.heap.size<=q/\q<w'.heap.size):=by
  rintro q ((h1|h1)|h1)
  .exact .inl h1
  .exact .inr ⟨h1.1,fP h1.2 f.size⟩
  .exact .inr ⟨eC P h1.1,h1.2⟩
 have hg:=f.size;have g:∀q,aE K q->bY q:=λq b=>by
  obtain⟨ts,_,_,A,_⟩:=h.keys;exact(A q b).1
 refine H w' l n (λq=>bY q\/(w.heap.size<=q/\q<w'.heap.size)) ⟨by simpa using aw,O.ah f ?_ ?_,bx.a7 ax λk _ c=>aa k c,bx.ah T f ?_,cX.ah U f ?_,?_,λq b=>?_,λq b=>?_,λq b=>h.hs q (y q b),h.pB,h.pC,h.kE,eC (CG m.2).1 h.pD⟩ ?_ I
 .rintro(h1|h1)
  .exact h.kE h1
  .have:=(h.bn r (g r h1)).1;omega
 .rintro q b (h1|h1)
  .exact(h.hs q (y q b)).2 h1
  .have:=(h.bn q (g q h1)).1
   have:=(h.hs q (y q b)).1;omega
 .rintro q b (h1|h1)
  .have:=(h.bv q b).1;omega
  .exact(h.bn q (g q h1)).2.2.1 b
 .rintro q b (h1|h1)
  .have:=(h.aM q b).1;omega
  .exact(h.bn q (g q h1)).2.2.2 b
 .rintro q (h1|h1)
  .have:=h.bn q h1;exact⟨this.1,I,this.2.2⟩
  .exact⟨I,h1.2,λh2=>by have:=h.bv q h2;omega,λh2=>by have:=h.aM q h2;omega⟩
 .have:=h.bv q b;exact⟨this.1,I,this.2.2⟩
 .have:=h.aM q b;exact⟨this.1,I⟩
 .refine((af.cN (cE w)).trans (hc.mono λk _ c=>.inl c)).trans (f.mono λk _ c=>?_)
  rcases c with c|c
  .exact .inr (.inl c)
  .exact .inr (.inr (h.bn k (g k c)).1)
theorem HY{lo:Nat}{w:J}{r nb:Nat}{s:ad}{m:aG×Rd}{K V D:ad}{bY cj bO:Nat->Prop}(h:kD lo w r nb s m K V D bY cj bO)(ab:lo<=w.heap.size)(G:m.1.vals.length<=100000){R:J->Prop}
 (H:∀ (w':J) (l n:ad) (L:Nat->Prop),kD lo w' r nb n (⟨m.1.leaf,m.1.keys,m.1.vals++ [(j9 m.2).1],m.1.kids⟩,(j9 m.2).2) K l D bY L bO->af (pE lo r nb) w w'->lo<=w'.heap.size->R w'):
 ak w.drew λp=>∃x:Nat->Prop,¬x (Addr.add nb 2).block/\∃i:ad,p.cell? (Addr.add nb 2)=some (.slice i.a i.len i.cap)/\
  Calls ai 273 #[.pointer (some r)] p λM d=>∃C:ad,M=.returned C/\af x p d/\
  ak (d.alloc (.cells #[C] 48)) λE=>af x d E/\∃F:ad,∃j:J,Sem.run ai (Builtin.append_ #[127,127] 127 #[i,.slice (some d.heap.size) 1 1]) E=.ok F j/\
  (∃u:Y,j.cell? (Addr.add nb 2)=some u)/\j.frozen? (Addr.add nb 2)=false/\ak (j.setCell (Addr.add nb 2) F) λN=>R N:=by
 have hd:=h.drew;have ac:=h.pB;have ae:=h.pC;obtain⟨b6,aZ,bf,bq⟩:=bP hd.v;refine aX ⟨λq=>q=r,λe=>h.kE (by rw[az]at e;exact e.symm),V,bf,(CH hd.rd hd.pD).use ?_⟩;rintro _ d ⟨t,n,rfl,ht,O,hc,y⟩;have ag:w.drew.heap.size=w.heap.size:=rfl;have P:=hc.size;have z:∀ {B:Nat->Prop},(∀q,B q->lo<=q)->∀k,B k->¬(k=r):=λQ k c e=>by have:=Q k c;omega
 have S:=bx.ah hd.keys hc (z λq b=>(h.bn q b).1);have T:=bx.ah hd.vals hc (z λq b=>(h.bv q b).1);have U:=cX.ah hd.kids hc (z λq b=>(h.aM q b).1);have W:=hd.v.ah hc (λe=>h.kE e.symm);refine⟨t,rfl,hc,w5 (B:=Grow cj w.drew d) W (o:=2) (by simp) (bx.a7 T λk _ h=>.inl h) ?_ (bA.a7 ht λk c h=>.inr ⟨h,c⟩) ?_ G λw' l aw ax f=>?_⟩
 .rintro(h1|h1)
  .have:=(h.bv nb h1).1;omega
  .omega
 .intro k X Z
  obtain⟨ts,_,_,A,_⟩:=h.vals;have:=(A k Z).2;have:=(ht.2.2 k X).1;omega
 have aa:∀q,Grow (Grow cj w.drew d) d w' q->cj q\/(w.heap.size<=q/\q<w'.heap.size):=by
  rintro q ((h1|h1)|h1)
  .exact .inl h1
  .exact .inr ⟨h1.1,fP h1.2 f.size⟩
  .exact .inr ⟨eC P h1.1,h1.2⟩
 have hg:=f.size;have g:∀q,aE V q->cj q:=λq b=>by
  obtain⟨ts,_,_,A,_⟩:=h.vals;exact(A q b).1
 refine H w' l n (λq=>cj q\/(w.heap.size<=q/\q<w'.heap.size)) ⟨by simpa using aw,O.ah f ?_ ?_,bx.ah S f ?_,bx.a7 ax λk _ c=>aa k c,cX.ah U f ?_,λq b=>?_,?_,λq b=>?_,λq b=>h.hs q (y q b),h.pB,h.pC,h.kE,eC (CG m.2).1 h.pD⟩ ?_ I
 .rintro(h1|h1)
  .exact h.kE h1
  .have:=(h.bv r (g r h1)).1;omega
 .rintro q b (h1|h1)
  .exact(h.hs q (y q b)).2 h1
  .have:=(h.bv q (g q h1)).1
   have:=(h.hs q (y q b)).1;omega
 .rintro q b (h1|h1)
  .have:=(h.bn q b).1;omega
  .exact(h.bn q b).2.2.1 (g q h1)
 .rintro q b (h1|h1)
  .have:=(h.aM q b).1;omega
  .exact(h.bv q (g q h1)).2.2 b
 .have:=h.bn q b
  refine⟨this.1,I,?_,this.2.2.2⟩;rintro(h1|h1)
  .exact this.2.2.1 h1
  .omega
 .rintro q (h1|h1)
  .have:=h.bv q h1;exact⟨this.1,I,this.2.2⟩
  .exact⟨I,h1.2,λh2=>by have:=h.aM q h2;omega⟩
 .have:=h.aM q b;exact⟨this.1,I⟩
 .refine((af.cN (cE w)).trans (hc.mono λk _ c=>.inl c)).trans (f.mono λk _ c=>?_)
  rcases c with c|c
  .exact .inr (.inl c)
  .exact .inr (.inr (h.bv k (g k c)).1)
theorem CL{lo:Nat}{w:J}{r nb:Nat}{s:ad}{m:aG×Rd}{K V D:ad}{bY cj bO:Nat->Prop}(h:kD lo w r nb s m K V D bY cj bO)(T:lo<=w.heap.size)(A:m.1.kids.length<=100000){R:J->Prop}
 (C:∀ (w':J) (aC l:ad) (E:Nat->Prop),kD lo w' r nb l (⟨m.1.leaf,m.1.keys,m.1.vals,m.1.kids++ [(rdNum m.2 2).1]⟩,(rdNum m.2 2).2) K V aC bY cj E->af (pE lo r nb) w w'->lo<=w'.heap.size->R w'):
 ak w.drew λn=>∃p:Nat->Prop,¬p (Addr.add nb 3).block/\∃i:ad,n.cell? (Addr.add nb 3)=some (.slice i.a i.len i.cap)/\
  Calls ai 272 #[.pointer (some r),(2:Int)] n λF d=>∃n30:Int,F=.returned n30/\af p n d/\
  ak (d.alloc (.cells #[n30] 3)) λy=>af p d y/\∃z:ad,∃j:J,Sem.run ai (Builtin.append_ #[58,58] 58 #[i,.slice (some d.heap.size) 1 1]) y=.ok z j/\
  (∃u:Y,j.cell? (Addr.add nb 3)=some u)/\j.frozen? (Addr.add nb 3)=false/\ak (j.setCell (Addr.add nb 3) z) λG=>R G:=by
 have hd:=h.drew;have U:=h.pB;have W:=h.pC;obtain⟨b6,aZ,bf,bq⟩:=bP hd.v;refine aX ⟨λq=>q=r,λe=>h.kE (by rw[az]at e;exact e.symm),D,bq,(zi hd.rd 2 (by decide) hd.pD).use ?_⟩;rintro _ d ⟨l,rfl,H,hc,t⟩;have X:w.drew.heap.size=w.heap.size:=rfl;have L:=hc.size;have x:∀ {B:Nat->Prop},(∀q,B q->lo<=q)->∀k,B k->¬(k=r):=λM k c e=>by have:=M k c;omega
 have N:=bx.ah hd.keys hc (x λq b=>(h.bn q b).1);have O:=bx.ah hd.vals hc (x λq b=>(h.bv q b).1);have P:=cX.ah hd.kids hc (x λq b=>(h.aM q b).1);have Q:=hd.v.ah hc (λe=>h.kE e.symm);refine⟨_,rfl,hc,CI (rdNum m.2 2).1 (B:=bO) Q (o:=3) (by simp) P (λh1=>by have:=(h.aM nb h1).1;omega) A λw' aC aw ax f=>?_⟩;have S:∀q,Grow bO d w' q->bO q\/(w.heap.size<=q/\q<w'.heap.size):=by
  rintro q (h1|h1)
  .exact .inl h1
  .exact .inr ⟨eC L h1.1,h1.2⟩
 have hg:=f.size;have g:∀q,aE D q->bO q:=λq b=>(h.kids.2 q b).1;refine C w' aC l (λq=>bO q\/(w.heap.size<=q/\q<w'.heap.size)) ⟨by simpa using aw,H.ah f ?_ ?_,bx.ah N f ?_,bx.ah O f ?_,cX.a7 ax λk _ c=>S k c,λq b=>?_,λq b=>?_,?_,λq b=>h.hs q (t q b),h.pB,h.pC,h.kE,eC (w4 m.2 2) h.pD⟩ ?_ I
 .rintro(h1|h1)
  .exact h.kE h1
  .have:=(h.aM r (g r h1)).1;omega
 .rintro q b (h1|h1)
  .exact(h.hs q (t q b)).2 h1
  .have:=(h.aM q (g q h1)).1
   have:=(h.hs q (t q b)).1;omega
 .rintro q b (h1|h1)
  .have:=(h.bn q b).1;omega
  .exact(h.bn q b).2.2.2 (g q h1)
 .rintro q b (h1|h1)
  .have:=(h.bv q b).1;omega
  .exact(h.bv q b).2.2 (g q h1)
 .have:=h.bn q b
  refine⟨this.1,I,this.2.2.1,?_⟩;rintro(h1|h1)
  .exact this.2.2.2 h1
  .omega
 .have:=h.bv q b
  refine⟨this.1,I,?_⟩;rintro(h1|h1)
  .exact this.2.2 h1
  .omega
 .rintro q (h1|h1)
  .have:=h.aM q h1;exact⟨this.1,I⟩
  .exact⟨I,h1.2⟩
 .refine((af.cN (cE w)).trans (hc.mono λk _ c=>.inl c)).trans (f.mono λk _ c=>?_)
  rcases c with c|c
  .exact .inr (.inl c)
  .exact .inr (.inr (h.aM k (g k c)).1)
def js:aG:=⟨false,[],[],[]⟩
def bG:ad:=⟨none,0,0⟩
def zk(leaf:al)(l:O UInt8)(w w':J)(v:Y):Prop:=
 (∃ (n:aG) (K V D:ad),v=.tuple #[c9 n K V D,(0:Int)]/\l_ leaf l n/\bI (λq=>w.heap.size<=q) w' n K V D)\/
 (v=.tuple #[c9 js bG bG bG,(4:Int)]/\∀n,¬l_ leaf l n)
theorem jt{w':J}{h:Nat}{vs:O Y}(b:al)(K V D:ad)(c:Var w' h vs 202)(g:vs.length=4){Q:al->ad->ad->ad->J->Prop}(j:∀aj,af (λq=>q=h) w' aj->Q b K V D aj):
 bk w' h [b,K,V,D]/\(4:Nat)=4/\ak (setCells w' h 0 [b,K,V,D]) λaj=>
  ∃i:al,aj.cell? h=some (.bool i)/\∃d:ad,aj.cell? (Addr.add h 1)=some (.slice d.a d.len d.cap)/\∃e:ad,aj.cell? (Addr.add h 2)=some (.slice e.a e.len e.cap)/\
   ∃f:ad,aj.cell? (Addr.add h 3)=some (.slice f.a f.len f.cap)/\Q i d e f aj:=by
 refine⟨c.b3 (by rw[g];rfl) ?_,rfl,cp c (us:=[b,K,V,D]) (by rw[g];rfl) rfl λaj k hc _=>?_⟩
 .intro v c
  simp only[de,fG,fQ]at c;rcases c with rfl|rfl|rfl|rfl<;>trivial
 .obtain⟨b6,aZ,bf,bq⟩:=bP k
  exact⟨b,b6,K,aZ,V,bf,D,bq,j aj hc⟩
theorem qK{w:J}{s:ad}{l:O UInt8}(hs:Src 1 w s (aD l))(hc:s.len<=s.cap)(T:∀k,aE s k->k<w.heap.size)(ak:l.length<=100000)(leaf:al):
 aK ai 233 #[leaf,s] w (λv w'=>zk leaf l w w' v/\Ext w w'):=by
 refine okF (ae.qK leaf s) ay.qK func233 ?_;(delta ae.qK cU aa bS an yu r1 st bK ar aY ed b8 sy;dsimp only);refine bc (vs:=[false,(),(),()]) rfl λw1 aP am bD=>?_;refine bc (vs:=[s,true]) rfl λaj aQ U bE=>?_;refine bc (vs:=[false,(),(),()]) rfl λbF ao F bH=>?_;refine⟨ao.b3 rfl (by
  intro v ap;simp only[de,fG,fQ]at ap;rcases ap with rfl|rfl|rfl|rfl<;>trivial),rfl,cp ao (us:=[leaf,(),(),()]) rfl rfl λm aR G bJ=>?_⟩
 obtain⟨lo,bL⟩:∃lo,lo=m.heap.size:=⟨_,rfl⟩;obtain⟨r,aq⟩:∃r,r=w1.heap.size:=⟨_,rfl⟩;obtain⟨nb,au⟩:∃nb,nb=aj.heap.size:=⟨_,rfl⟩;have aS:Ext w m:=Ext.cD (am.trans (U.trans F)) G I;have aU:jN m w1.heap.size s (l,true):=by
  refine⟨(aQ.ext F).ah G I,(hs.ext (am.trans (U.trans F))).ah G λk c e=>?_,hc,λk c=>?_⟩
  .have:=T k c;omega
  .have:=T k c;omega
 refine(zi aU 1 (by decide) ak).use ?_;rintro _ av ⟨aA,rfl,aV,W,aW⟩;have bM:(rdNum (l,true) 1).1<256:=zj _ 1;have bQ:=W.size;have aB:kD lo av r nb aA (⟨leaf,[],[],[]⟩,(rdNum (l,true) 1).2) bG bG bG (λ_=>False) (λ_=>False) (λ_=>False):=by
  refine⟨by rw[au];exact aR.ah W I,by rw[aq];exact aV,bx.none _ _,bx.none _ _,cX.none _ _,λq h=>h.elim,λq h=>h.elim,λq h=>h.elim,λq a=>?_,I,I,I,eC (w4 _ 1) ak⟩;have:=T q (aW q a);exact⟨I,I⟩
 have aF:af (pE lo r nb) m av:=W.mono λk _ c=>.inl I;rw[←aq,←au];refine⟨_,rfl,j4 (λw'=>∃ (u D:ad) (bO:Nat->Prop),kD lo w' r nb u (mX leaf (rdNum (l,true) 1).2) bG bG D (λ_=>False) (λ_=>False) bO/\af (pE lo r nb) m w'/\lo<=w'.heap.size) (λq a=>⟨λd=>?_,λd=>a _ ⟨aA,bG,λ_=>False,?_,aF,I⟩⟩) ?_⟩
 .have d:leaf=false:=by simpa using d
  subst d;refine CL aB I (by simp) λw' aC u aX h1 h2 o=>a _ ⟨u,aC,aX,?_,aF.trans h2,o⟩;have:mX false (rdNum (l,true) 1).2=(⟨false,[],[],[]++ [(rdNum (rdNum (l,true) 1).2 2).1]⟩,(rdNum (rdNum (l,true) 1).2 2).2):=by simp[mX]
  rw[this];exact h1
 .have d:leaf=true:=by simpa using d
  subst d;exact aB
 rintro bR ⟨a0,a1,a2,aG,a3,a4⟩;obtain⟨f,H⟩:∃f,f=mX leaf (rdNum (l,true) 1).2:=⟨_,rfl⟩;rw[←H]at aG;have a5:f.1.leaf=leaf:=by rw[H];unfold mX;cases leaf<;>rfl
 have bT:f.1.keys.length=0/\f.1.vals.length<=1/\f.1.kids.length<=1:=by rw[H];unfold mX;cases leaf<;>simp
 refine⟨λi w'=>∃ (j:Nat) (u K V D:ad) (bY cj bO:Nat->Prop),i=j/\j<=(rdNum (l,true) 1).1/\kD lo w' r nb u (iI f j) K V D bY cj bO/\af (pE lo r nb) m w'/\lo<=w'.heap.size,λi _=>(((rdNum (l,true) 1).1:Int)-i).toNat,⟨0,a0,bG,bG,a1,_,_,a2,rfl,cR _,aG,a3,a4⟩,?_⟩;rintro _ aH ⟨j,bU,K,V,D,bY,cj,bO,rfl,bV,g,L,a6⟩;obtain⟨a8,a9,a_⟩:=CK f j;have x:=CJ f j a5;refine⟨λaJ=>?_,λX=>?_⟩
 .have aJ:j<(rdNum (l,true) 1).1:=by have:=cl aJ;omega
  rw[bB (n:=(j:Int)+1) I I];refine j4 (λw'=>∃ (u K V D:ad) (bY cj bO:Nat->Prop),kD lo w' r nb u (iI f (j+1)) K V D bY cj bO/\af (pE lo r nb) m w'/\lo<=w'.heap.size) (λq a=>?_) ?_
  .refine HX g a6 I λy M cO N P R S=>⟨λd=>?_,λd=>?_⟩
   .refine HY P S (by show(iI f j).1.vals.length<=_;omega) λY ba Z bb B p ab=>a _ ⟨Z,M,ba,D,N,bb,bO,?_,L.trans (R.trans p),ab⟩
    rw[iI];unfold pz;rw[x,d,if_pos rfl];rw[x,d]at B;exact B
   .refine CL P S (by show(iI f j).1.kids.length<=_;omega) λY bd Z be B p ab=>a _ ⟨Z,M,V,bd,N,cj,be,?_,L.trans (R.trans p),ab⟩
    rw[iI];unfold pz;rw[x,d,if_neg (by simp)];rw[x,d]at B;exact B
  .rintro y ⟨cO,M,bg,bh,N,bi,bj,P,R,S⟩
   refine⟨⟨j+1,cO,M,bg,bh,N,bi,bj,I,I,P,R,S⟩,?_⟩;show(((rdNum (l,true) 1).1:Int)-((j:Int)+1)).toNat<(((rdNum (l,true) 1).1:Int)-(j:Int)).toNat;omega
 .have X:j=(rdNum (l,true) 1).1:=by have:=cw X;omega
  have bk:iI f j=iX leaf l:=by rw[X,H];rfl
  rw[bk]at g a8 a9 a_ x;obtain⟨b6,aZ,bf,bq⟩:=bP g.v;have eD:bI (λq=>lo<=q) aH (iX leaf l).1 K V D:=⟨bw.a7 (bx.iZ g.keys) λq _ a=>(g.bn q a).1,bw.a7 (bx.iZ g.vals) λq _ a=>(g.bv q a).1,cZ.a7 (cX.q5 g.kids) λq _ a=>(g.aM q a).1⟩;have bl:Ext w aH:=Ext.df aS L λk c=>by
   rcases c with c|c|c<;>omega
  refine⟨_,b6,K,aZ,V,bf,D,bq,(pb eD I I I).use ?_⟩;rintro bm y ⟨bo,C⟩;have ac:=bl.trans C;have bp:=g.v.ext C;have br:=g.rd.ext C;have aI:Var y w.heap.size [false,(),(),()] 202:=by
   refine(Var.ah (w:=m) ?_ L ?_).ext C
   .exact(((aP.ext U).ext F).ah G I)
   .rintro(c|c|c)<;>omega
  have bs:=eD.ext C;obtain⟨d0,d1,d2,d3⟩:=bP bp;have bu:∃ (z:ad) (e:Int),bm=Value.tuple #[z,e]/\(e=0->aT 1 5 y z (aD (jK (iX leaf l).1))/\cQ (iX leaf l).1/\bN (iX leaf l).1<=232)/\(e≠0->cQ (iX leaf l).1->232<bN (iX leaf l).1):=by
   rcases bo with ⟨z,rfl,h1,h2,o,A⟩|⟨e,rfl,h1,h2⟩
   .exact⟨z,0,rfl,λ_=>⟨h1,o,A⟩,λh=>absurd rfl h⟩
   .exact⟨bG,e,rfl,λh=>absurd h h1,λ_=>h2⟩
  obtain⟨z,e,rfl,bz,aL⟩:=bu;have bA:Src 1 y s (aD l):=hs.ext ac
  have aN:∀n,l_ leaf l n->iX leaf l=(n,([],true)):=by
   rintro n ⟨h1,h2,o,A⟩;have:=y7 h1 o;rw[h2,A]at this;exact this
  refine⟨z,e,rfl,_,rfl,(iX leaf l).2.2,by rw[az];exact br.v.cell,cq (λb w'=>y=w'/\(b=true->∀n,¬l_ leaf l n)/\(b=false->l_ leaf l (iX leaf l).1)) (λq a=>⟨λh1=>a _ _ ⟨rfl,λ_ n E=>?_,λh=>(by cases h)⟩,λh1=>?_⟩) ?_⟩
  .have hu:=aN n E
   obtain⟨h2,o,A,aO⟩:=E;rw[hu]at h1 aL;have h1:(e !=0)=true:=by simpa using h1
   have bW:232<bN n:=aL (by simpa using h1) h2;omega
  .have bC:(iX leaf l).2.2=true/\e=0:=by
    simp only[rL,mz,bne_eq_false_iff_eq]at h1;exact h1
   obtain⟨h2,rfl⟩:=bC;obtain⟨o,A,aO⟩:=bz rfl;refine(oW o.src bA).use ?_;rintro _ _ ⟨rfl,rfl⟩;refine⟨_,rfl,a _ _ ⟨rfl,λt n E=>?_,λt=>?_⟩⟩
   .have hu:=aN n E
    have t:¬jK (iX leaf l).1=l:=by simpa using t
    rw[hu]at t;exact t E.2.2.2
   .have t:jK (iX leaf l).1=l:=by simpa using t
    exact⟨A,x,aO,t⟩
  rintro b w' ⟨rfl,aw,ax⟩;refine⟨λag=>?_,λag=>⟨_,d0,K,d1,V,d2,D,d3,?_⟩⟩
  .refine jt false bG bG bG aI rfl (Q:=λb K V D aj=>(λv w'=>zk leaf l w w' v/\Ext w w') (.tuple #[.agg #[b,K,V,D],(4:Int)]) aj) λY p=>⟨.inr ⟨rfl,aw ag⟩,Ext.cD ac p (bt _)⟩
  .refine jt (iX leaf l).1.leaf K V D aI rfl (Q:=λb K V D aj=>(λv w'=>zk leaf l w w' v/\Ext w w') (.tuple #[.agg #[b,K,V,D],(0:Int)]) aj) λY p=>⟨.inl ⟨(iX leaf l).1,K,V,D,rfl,ax ag,?_⟩,Ext.cD ac p (bt _)⟩
   exact(bs.ah p λk c e=>I).a7 λk _ c=>by omega
theorem HZ{s v:ad}{vs xs:O Y}{i mE:Nat}{ak:Array Y}{al:TypeId}{w:J}(H:aT 1 48 w s vs)(N:Src 1 w v xs)(g:v.len=1)(am:v.a=some ⟨mE,0,none⟩)(T:bu w mE ak al)(ao:¬aE s mE)
 (U:∀u∈xs,Plain u) (aP:∀u∈vs,Plain u) (hi:i<=s.len) (a_:s.len<=1000000):
 aK ai 210 #[s,.int .i64 (i:Int),v] w (λu w'=>∃z:ad,u=z/\aT 1 48 w' z (vs.take (i*1)++xs++vs.drop (i*1))/\z.len=s.len+1/\af (aE s) w w'/\(∀k,aE z k->aE s k\/w.heap.size<=k)):=by
 obtain⟨h1,ba,bb,h2,ap,aQ,aR,E,au,aS⟩:=(q6).out;obtain⟨d0,K⟩:=kq _ ap;refine okF (ae.u7 s i v) ay.u7 func210 ?_;delta ae.u7 an ar gT;have bc:=H.2.1;have bd:=H.2.2.1;have be:maxLen=9223372036854775807:=rfl;have p:xs.length=1:=by have:=N.len;rw[g]at this;omega
 have V:=H.1;refine⟨⟨I,I⟩,λh=>by rw[g]at h;simp at h,λ_=>⟨λh=>?_,λh=>?_⟩⟩
 .have aU:i=s.len:=by have:=eq_of_beq h;omega
  subst aU;obtain⟨z,w',aw,ax,X,Q,F⟩:=(q6).append (cC:=127) N H U (by rw[g];omega);refine⟨z,w',aw,z,rfl,?_,by rw[X,g],Q,F⟩;rwa[dr I,tN I,fl]
 have aJ:i<s.len:=by
  have h:¬((i:Int)=(s.len:Int)):=λe=>by rw[e]at h;simp at h
  omega
 rcases H.2.2.2 with ⟨_,hc⟩|⟨b,c,r,G,av,az⟩
 .omega
 have aV:b≠mE:=λe=>ao ⟨_,r,e⟩;have aW:IntKind.wrap .i64 ((s.len:Int)+(v.len:Int))=((s.len+1:Nat):Int):=by rw[g,bB I I];rfl
 have aY:IntKind.wrap .i64 ((i:Int)+(v.len:Int))=((i+1:Nat):Int):=by rw[g,bB I I];rfl
 have aZ:IntKind.wrap .i64 (((s.len+1:Nat):Int)-(i:Int))=((s.len+1-i:Nat):Int):=by rw[bB I I];omega
 have bf:c.toList.length=s.cap*1:=by simpa using av
 have aA:∀k,k<=s.len->vs.take (k*1)=c.toList.take (k*1):=λk d=>by rw[←az,ov,iz I]
 have aB:vs.drop (i*1)=(c.toList.drop (i*1)).take ((s.len-i)*1):=by rw[←az,List.drop_take,show s.len*1-i*1=(s.len-i)*1 from I]
 have aC:∀u∈vs.drop (i*1),Plain u:=λu hu=>aP u (e6 hu);have B:(vs.drop (i*1)).length=(s.len-i)*1:=by rw[dw,V];omega
 have L:∀ (Z o l m:Nat),l<m->aO (some (Addr.mk Z o none)) 1 l m=some ⟨Z,o+l*1,none⟩:=λZ o l m bg=>mJ I;simp only[aW,aY,aZ,di,nk,yn];refine⟨λhg=>?_,λhg=>?_⟩
 .have bh:s.cap<s.len+1:=by have:=cl hg;omega
  have a0:Src 1 w ⟨some b,i,s.cap⟩ (vs.take (i*1)):=by
   have:=G.sq (sz:=1) (o:=0) (n:=i) (cap:=s.cap) I;rw[iN]at this;rwa[aA i I]
  obtain⟨j,zs,rest,aw,ax,X,Q,F⟩:=FN (P:=ai) (gH:= #[127,3]) (cC:=127) (kU:=3) (k:=.i64) (s:=⟨some b,i,s.cap⟩) (n:=s.len+1-i) rfl rfl h1 (by kernel_rfl) h2 ap aQ aR E (by rw[au];exact aS) a0 (by show s.cap<i+_;omega) (by rw[au];show(2*(i+_)+1000)*_<=_;omega);have a1:i+(s.len+1-i)=s.len+1:=by omega
  simp only[a1]at aw Q F;obtain⟨C,aa⟩:∃C,C=(vs.take (i*1)++zs++rest).toArray:=⟨_,rfl⟩;rw[←aa]at F;obtain⟨D,ab⟩:∃D,D=w.drew.alloc (.cells C 48):=⟨_,rfl⟩;rw[←ab]at F;have aD:bu D w.heap.size C 48:=by rw[ab];exact bu.new w.drew _ _
  have aF:Ext w D:=by rw[ab];exact af.alloc (af.drew (.refl _ _)) _
  have f:(vs.take (i*1)).length=i*1:=by rw[cz,V];omega
  have aG:C.size=j*1:=by rw[aa];simp[f,X,Q];omega
  have bi:C.toList.length=j*1:=by simpa using aG
  have M:=uK (P:=ai) (mN:=127) (cS:=127) (ty:=3) (A:=⟨w.heap.size,0+i*1,none⟩) (dl:=s.len+1-i) (oS:=j-i) (n:=1) h1 K E (x:=v) (by rw[g];exact iz I) (xs:=xs) (by have:=N.ext aF;have e:(⟨v.a,1,v.cap⟩:ad)=v:=(by rw[←g]);rw[e];exact this) (by rw[cF];exact aD.b3 _ _ I U);obtain⟨t,ac⟩:∃t,t=setCells D ⟨w.heap.size,0+i*1,none⟩ 0 xs:=⟨_,rfl⟩;rw[←ac]at M;have aH:bu t w.heap.size (gJ C (i*1) xs) 48:=by rw[ac,cF];exact aD.lB xs
  have a2:Ext w t:=by rw[ac];exact Ext.df aF (af.j6 (.refl _ _) xs 0) (λk d=>by subst d;exact bt _)
  have a3:Ext t t.drew:=af.drew (.refl _ _);have aI:=Ext.trans a2 a3;have ag:=uK (P:=ai) (w:=t.drew) (mN:=127) (cS:=127) (ty:=3) (A:=⟨w.heap.size,0+(i+1)*1,none⟩) (dl:=s.len+1-(i+1)) (oS:=j-(i+1)) (n:=s.len-i) h1 K E (x:=⟨some ⟨b,0+i*1,none⟩,s.len-i,s.cap-i⟩) (iz (by show s.len-i<=_;omega)) (xs:=vs.drop (i*1))
   (by have:=(G.ext aI).sq (sz:=1) (o:=i*1) (n:=s.len-i) (cap:=s.cap-i) I;rw[aB,cF];exact this) (by rw[cF];exact bu.b3 (bu.drew aH) _ _ (by rw[iE];omega) aC)
  have R:aO (some (Addr.mk w.heap.size 0 none)) 1 i j=some ⟨w.heap.size,0+i*1,none⟩:=L _ _ _ _ I;have S:aO (some (Addr.mk w.heap.size 0 none)) 1 (i+1) j=some ⟨w.heap.size,0+(i+1)*1,none⟩:=L _ _ _ _ I;have a4:aO s.a 1 i s.cap=some ⟨b,0+i*1,none⟩:=by rw[r];exact L _ _ _ _ I
  have a5:Sem.run ai (Builtin.append_ #[127,3] 127 #[.slice s.a i s.cap,.int .i64 ((s.len+1-i:Nat):Int)]) w=.ok (.slice (some w.heap.size) (s.len+1) j) D:=by rw[r];exact F
  refine⟨⟨I,I⟩,⟨some w.heap.size,s.len+1,j⟩,D,a5,⟨I,by show(i:Int)<=((s.len+1:Nat):Int);omega⟩,_,t,by rw[R];exact M,aX ⟨⟨I,by show((i+1:Nat):Int)<=((s.len+1:Nat):Int);omega⟩,⟨I,I⟩,_,_,by rw[S,a4];exact ag,⟨some w.heap.size,s.len+1,j⟩,rfl,?_,rfl,?_,?_⟩⟩
  .refine aT.mk' ((bu.drew aH).lB (o:=0+(i+1)*1) _) (by simp[f,p,B];omega) I I (by rw[iE,iE,aG]) ?_
   rw[lA _ _ _ (by rw[iE];omega),lA _ _ _ I];have t1:C.toList.take (i*1)=vs.take (i*1):=by rw[aa,rR,cM];exact ox f
   have t2:(C.toList.take (i*1)++xs++C.toList.drop (i*1+xs.length)).take (0+(i+1)*1)=vs.take (i*1)++xs:=by
    rw[t1,mA (by simp[f,p];omega),dr (by simp[f,p];omega)]
   rw[t2,mA (by simp[f,p,B];omega),dr (by simp[f,p,B];omega)]
  .exact af.cN (Ext.df aI (af.j6 (.refl _ _) _ 0) (λk d=>by subst d;exact bt _))
  .rintro k ⟨A,aq,d⟩
   cases aq;exact .inr (Nat.le_of_eq d)
 .have bj:s.len+1<=s.cap:=by have:=cw hg;omega
  have R:aO s.a 1 (i+1) s.cap=some ⟨b,0+(i+1)*1,none⟩:=by rw[r];exact L _ _ _ _ I
  have S:aO s.a 1 i s.cap=some ⟨b,0+i*1,none⟩:=by rw[r];exact L _ _ _ _ I
  have a6:Sem.run ai (callFunc 252 #[v,.slice (some ⟨b,0+(i+1)*1,none⟩) (s.len+1-(i+1)) (s.cap-(i+1))]) w=.ok (.value false) w:=by
   rw[am,run_callFunc_extern (e:=Extern.SlicesOverlaps.overlaps #[127,127] #[4]) func252 (by kernel_rfl) (by kernel_rfl) (by kernel_rfl) (by kernel_rfl)];have:=Lib.run_overlaps_apart (P:=ai) w 127 4 48 h1 1 (λw=>by have:=h6 (w:=w) K;rwa[E]at this) mE ⟨b,0+(i+1)*1,none⟩ v.len v.cap (s.len+1-(i+1)) (s.cap-(i+1)) (λe=>aV e.symm) al 48 ak.size c.size
    (by have:=T;unfold bu at this;simp[World.shape?,this]) (by have:=G;unfold bu at this;simp[World.shape?,this]) I (T.frozen _ rfl) (T.frozen _ rfl)
   rw[this];rfl
  have M:=uK (P:=ai) (w:=w.drew) (mN:=127) (cS:=127) (ty:=3) (A:=⟨b,0+(i+1)*1,none⟩) (dl:=s.len+1-(i+1)) (oS:=s.cap-(i+1)) (n:=s.len-i) h1 K E (x:=⟨some ⟨b,0+i*1,none⟩,s.len+1-i,s.cap-i⟩) ((Nat.min_eq_right (by show _<=s.len+1-i;omega)).trans I) (xs:=vs.drop (i*1))
   (by have:=(bu.drew G).sq (sz:=1) (o:=i*1) (n:=s.len-i) (cap:=s.cap-i) I;rw[aB,cF];exact this) (by rw[cF];exact bu.b3 (bu.drew G) _ _ I aC)
  obtain⟨y,aj⟩:∃y,y=setCells w.drew ⟨b,0+(i+1)*1,none⟩ 0 (vs.drop (i*1)):=⟨_,rfl⟩;rw[←aj]at M;have aL:bu y b (gJ c ((i+1)*1) (vs.drop (i*1))) 48:=by rw[aj,cF];exact(bu.drew G).lB _
  have aM:af (aE s) w y:=by
   rw[aj];exact af.mono (W:=λq=>q=b) (af.j6 (af.drew (.refl _ _)) _ 0) (λk _ d=>⟨_,r,d.symm⟩)
  have a7:Src 1 y v xs:=N.ah aM (λk d a8=>by obtain⟨A,aq,rfl⟩:=d;rw[am]at aq;cases aq;exact ao a8);have ag:=uK (P:=ai) (w:=y) (mN:=127) (cS:=127) (ty:=3) (A:=⟨b,0+i*1,none⟩) (dl:=s.len+1-i) (oS:=s.cap-i) (n:=1) h1 K E (x:=v) (by rw[g];exact iz I) (xs:=xs) (by have e:(⟨v.a,1,v.cap⟩:ad)=v:=(by rw[←g]);rw[e];exact a7) (by rw[cF];exact aL.b3 _ _ (by rw[iE];omega) U);refine⟨⟨I,I⟩,⟨I,I⟩,false,w,by rw[R];exact a6,λ_=>aX ⟨⟨I,I⟩,⟨I,I⟩,_,y,by rw[R,S];exact M,⟨I,I⟩,_,_,by rw[S];exact ag,⟨s.a,s.len+1,s.cap⟩,rfl,?_,rfl,?_,λk d=>.inl d⟩,λh=>by simp at h⟩
  .have aN:aT 1 48 (setCells y ⟨b,0+i*1,none⟩ 0 xs) ⟨some b,s.len+1,s.cap⟩ (vs.take (i*1)++xs++vs.drop (i*1)):=by
    have f:(vs.take (i*1)).length=i*1:=by rw[cz,V];omega
    refine aT.mk' (aL.lB (o:=0+i*1) _) (by simp[f,p,B];omega) I I (by rw[iE,iE,av]) ?_;rw[lA _ _ _ (by rw[iE];omega),lA _ _ _ I];have t1:(c.toList.take ((i+1)*1)++vs.drop (i*1)++c.toList.drop ((i+1)*1+(vs.drop (i*1)).length)).take (0+i*1)=vs.take (i*1):=by
     rw[cF,mA (by simp[B];omega),mA (by simp;omega),ov,aA i I,iz I]
    have t2:(c.toList.take ((i+1)*1)++vs.drop (i*1)++c.toList.drop ((i+1)*1+(vs.drop (i*1)).length)).drop (0+i*1+xs.length)=vs.drop (i*1)++c.toList.drop ((i+1)*1+(vs.drop (i*1)).length):=by
     have a9:(c.toList.take ((i+1)*1)).length=0+i*1+xs.length:=by simp;omega
     rw[cM,←a9,List.drop_left]
    rw[t1,t2,←cM,mA (by simp[f,p,B];omega),dr (by simp[f,p,B];omega)]
   rw[←r]at aN;exact aN
  .exact aM.trans (af.mono (W:=λq=>q=b) (af.j6 (.refl _ _) _ 0) (λk _ d=>⟨_,r,d.symm⟩))
theorem H0{s:ad}{vs:O Y}{i:Nat}{w:J}(m:aT 1 48 w s vs)(M:∀u∈vs,Plain u)(N:∀z,(Tryz.prog.info? 48).bind (·.zero)=some z->∀u∈z.cells.toList,Plain u)(hi:i<s.len)(am:s.len<=1000000):
 aK ai 205 #[s,.int .i64 (i:Int),.int .i64 ((i+1:Nat):Int)] w (λu w'=>∃p:ad,u=p/\aT 1 48 w' p (vs.take (i*1)++vs.drop ((i+1)*1))/\p.len=s.len-1/\p.a=s.a/\af (aE s) w w'):=by
 obtain⟨h1,ao,d,h2,Q,C,D,R,ap,aq⟩:=(q6).out;obtain⟨d0,S⟩:=kq _ Q;refine okF (ae.u6 s i ((i+1:Nat):Int)) ay.u6 func205 ?_;(delta ae.u6 an aY;dsimp only);have ar:=m.2.1;have U:=m.2.2.1;have E:=m.1;rcases m.2.2.2 with ⟨_,hc⟩|⟨b,c,f,V,F,G⟩
 .omega
 have au:c.toList.length=s.cap*1:=by simpa using F
 simp only[di,nk,yn];have X:vs.drop ((i+1)*1)=(c.toList.drop ((i+1)*1)).take ((s.len-(i+1))*1):=by rw[←G,List.drop_take,show s.len*1-(i+1)*1=(s.len-(i+1))*1 from I]
 have e:(vs.drop ((i+1)*1)).length=(s.len-(i+1))*1:=by rw[dw,E];omega
 have Z:vs.take (i*1)=c.toList.take (i*1):=by rw[←G,ov,iz I]
 have l:(vs.take (i*1)).length=i*1:=by rw[cz,E];omega
 have aa:∀u∈vs.drop ((i+1)*1),Plain u:=λu hu=>M u (e6 hu);have t:bu w.drew b c 48:=bu.drew V;have ab:Src 1 w.drew ⟨aO s.a 1 (i+1) s.cap,s.len-(i+1),s.cap-(i+1)⟩ (vs.drop ((i+1)*1)):=by
  by_cases he:i+1=s.cap
  .have v:s.len-(i+1)=0:=by omega
   refine⟨by rw[e],λ_=>mq.1 (by rw[e,v,pZ]),λa _=>?_⟩;have:vs.drop ((i+1)*1)=[]:=mq.1 (by rw[e,v,pZ]);rw[this];show a8 _ _ 0 ((s.len-(i+1))*1)=_;rw[v,pZ];rfl
  .rw[f,mJ I,X,cF]
   exact t.sq I
 have x:=ya (P:=ai) (gH:= #[127,127]) (cC:=127) (s:=⟨s.a,i,s.cap⟩) rfl rfl h1 h1 S R ab (by show i+(s.len-(i+1))<=s.cap;omega) (λa r=>by
  have r:s.a=some a:=r;rw[f]at r;cases r;rw[az,cF];exact t.b3 _ _ (by show i*1+_<=_;omega) aa)
 have ac:i+(s.len-(i+1))=s.len-1:=by omega
 simp only[f,az,cF,ac]at x;obtain⟨g,y⟩:∃g,g=setCells w.drew ⟨b,i*1,none⟩ 0 (vs.drop ((i+1)*1)):=⟨_,rfl⟩;rw[←y]at x;have H:bu g b (gJ c (i*1) (vs.drop ((i+1)*1))) 48:=by rw[y];exact t.lB _
 have ag:af (aE s) w g:=by
  rw[y];exact af.mono (W:=λq=>q=b) (af.j6 (af.drew (.refl _ _)) _ 0) (λk _ B=>⟨_,f,B.symm⟩)
 obtain⟨zs,av,ah⟩:=FO (P:=ai) (w:=g) (T:=127) (o:=0) (n:=1) (c:=s.cap-(s.len-1)) (A:=⟨b,(s.len-1)*1,none⟩) h1 h2 C D (by decide) (λzs K=>by
  refine H.b3 _ _ (by rw[K,iE];simp[Builtin.zeroCells,D];omega) λu hu=>?_;rw[K]at hu;simp only[Builtin.zeroCells,Array.toList_map,fy]at hu;obtain⟨j,L,rfl⟩:=hu;have L:j<1*d.cells.size:=by simpa using L
  have aj:j%d.cells.size<d.cells.size:=hZ _ I;have hg:d.cells[j%d.cells.size]! =d.cells[j%d.cells.size]:=getElem!_pos d.cells (j%d.cells.size) aj;rw[hg];exact N d (by rw[h2];exact C) _ (by simp))
 have ak:aO (some (Addr.mk b 0 none)) 1 (s.len-1) s.cap=some ⟨b,(s.len-1)*1,none⟩:=by rw[mJ I,cF]
 have al:s.len-(s.len-1)=1:=by omega
 refine⟨⟨I,I⟩,⟨I,I⟩,⟨I,I⟩,λh=>?_,λ_=>aX ⟨⟨I,I⟩,⟨I,I⟩,⟨some b,s.len-1,s.cap⟩,g,by rw[f];exact x,⟨I,by show(s.len:Int)<=(s.cap:Int);omega⟩,⟨I,by show((s.len-1:Nat):Int)<=(s.len:Int);omega⟩,_,_,by rw[al,ak];exact ah,⟨some b,s.len-1,s.cap⟩,rfl,?_,rfl,f.symm,?_⟩⟩
 .have:=eq_of_beq h;omega
 .refine aT.mk' (H.lB _) (by simp[l,e];omega) I U (by rw[iE,iE,F]) ?_
  rw[lA _ _ _ (by rw[iE];omega),lA _ _ _ I];have t1:(c.toList.take (i*1)++vs.drop ((i+1)*1)++c.toList.drop (i*1+(vs.drop ((i+1)*1)).length)).take ((s.len-1)*1)=vs.take (i*1)++vs.drop ((i+1)*1):=by
   rw[←Z,mA (by simp[l,e];omega),dr (by simp[l,e];omega)]
  rw[t1,cM,mA (by simp[l,e];omega),dr (by simp[l,e];omega)]
 .exact ag.trans (af.mono (W:=λq=>q=b) (af.j6 (.refl _ _) _ 0) (λk _ B=>⟨_,f,B.symm⟩))
theorem td{w:J}{s:ad}{ds:O Nat}(h:Src 1 w s (gl ds))(g:ds.length<=1000000):
 aK ai 245 #[s] w (λv w'=>∃b:ad,v=b/\aT 1 3 w' b (gl ds)/\Ext w w'/\gO w b):=by
 have i:s.len=ds.length:=by have:=h.len;rw[q4]at this;omega
 refine okF (ae.vb s) ay.vb func245 ?_;delta ae.vb an aa;refine⟨λc=>?_,λ_=>?_⟩
 .have c:s.a=none:=by simpa using c
  rw[h.nil c];exact⟨⟨none,0,0⟩,rfl,aT.none _ _ _,.refl _ _,λk d=>(gy k d).elim⟩
 .obtain⟨b,w',h1,h2,j,e,f,_⟩:=s_.clone (cC:=58) h (Cv ds) I
  exact aX ⟨b,w',h1,b,rfl,h2,e,f⟩
theorem H2{ks:O Key}{k:Key}{a:Nat}(d:a<=ks.length)(h1:∀ (j:Nat) (h:j<ks.length),j<a->bD ks[j] k)(h2:∀ (j:Nat) (h:j<ks.length),a<=j->¬bD ks[j] k):cT ks k=a:=by
 unfold cT;rcases eu a ks.length with h|h
 .exact(List.findIdx_eq h).2 ⟨dD (h2 a h (bt _)),λj b=>g_ λc=>c (h1 j I b)⟩
 .have:a=ks.length:=by omega
  subst this;refine List.findIdx_eq_length_of_false λx hx=>?_;obtain⟨j,b,rfl⟩:=fF hx;exact g_ λc=>c (h1 j b b)
def hO(ks:O Key)(k:Key):al:=decide (ks[cT ks k]? =some k)
theorem H3{B C:Nat->Prop}{s t:ad}{ks:O Key}{key:Key}{w:J}(hs:bw B w s ks)(ht:Src 1 w t (aD key))(x:ks.Pairwise bD)(N:ks.length<=100000):
 aK ai 240 #[s,t,.func (.func 176) #[] #[]] w (λv w'=>v=.tuple #[.int .i64 ((cT ks key:Nat):Int),.bool (hO ks key)]/\w=w'):=by
 refine okF (ae.u9 s t ⟨176,#[],#[]⟩) ay.u9 func240 ?_;(delta ae.u9 an ar r1 aM;dsimp only);have y:=bw.len hs;have o:h7 ai 176:=⟨_,(oo (show(Tryz.prog.funcs[176]?).isSome=true by kernel_rfl)).symm,by kernel_rfl,by kernel_rfl⟩;have aJ:=λ{i j:Nat} (hi:i<j) (e:j<ks.length)=>ln.1 x i j I e hi;refine⟨λlo hi w'=>∃a b:Nat,lo=a/\hi=b/\a<=b/\b<=ks.length/\w=w'/\(∀ (j:Nat) (h:j<ks.length),j<a->bD ks[j] key)/\(∀ (j:Nat) (h:j<ks.length),b<=j->¬bD ks[j] key),λlo hi _=>(hi-lo).toNat,
  ⟨0,ks.length,rfl,by rw[y],cR _,bt _,rfl,λj _ h=>I,λj h h2=>I⟩,?_⟩
 rintro _ _ _ ⟨a,b,rfl,rfl,P,p,rfl,h1,h2⟩;have z:=FP (a:=a) (b:=b) I;refine⟨λh=>?_,λh=>?_⟩
 .have D:(a:Int)<(b:Int):=cl h
  rw[z];obtain⟨m,E⟩:∃m,m=(a+b)/2:=⟨_,rfl⟩;rw[←E];have F:a<=m:=by omega
  have Q:m<b:=by omega
  obtain⟨A,t2,aq,f,g,k,_⟩:=bw.at hs (i:=m) I;refine⟨by decide,A,aq,f,t2,g,o,(l4 k.1 ht).use ?_⟩;rintro _ _ ⟨rfl,rfl⟩;have G:IntKind.wrap .i64 ((m:Int)+1)=((m+1:Nat):Int):=by rw[bB I I];rfl
  refine⟨_,rfl,λhc=>?_,λhc=>?_⟩
  .have hc:bD ks[m] key:=cl hc
   rw[G];have l:((b:Int)-((m+1:Nat):Int)).toNat<((b:Int)-(a:Int)).toNat:=by omega
   refine⟨⟨m+1,b,rfl,rfl,I,p,rfl,λj e H=>?_,h2⟩,l⟩;rcases eu j m with d|d
   .exact l7 (aJ d I) hc
   .have:j=m:=by omega
    subst this;exact hc
  .have hc:¬bD ks[m] key:=cw hc
   have l:((m:Int)-(a:Int)).toNat<((b:Int)-(a:Int)).toNat:=by omega
   refine⟨⟨a,m,rfl,rfl,F,I,rfl,h1,λj e H=>?_⟩,l⟩;rcases eu m j with d|d
   .exact λK=>hc (l7 (aJ d e) K)
   .have:j=m:=by omega
    subst this;exact hc
 .have L:¬(a:Int)<(b:Int):=cw h
  have M:b=a:=by omega
  subst M;have n:cT ks key=b:=H2 p h1 h2;refine cq (λc w'=>w=w'/\c=hO ks key) (λq r=>⟨λh=>?_,λh=>?_⟩) ?_
  .have D:(b:Int)<(s.len:Int):=cl h
   have u:b<ks.length:=by omega
   obtain⟨A,t2,aq,f,g,k,_⟩:=bw.at hs u;refine⟨A,aq,f,t2,g,o,(l4 k.1 ht).use ?_⟩;rintro _ _ ⟨rfl,rfl⟩;refine⟨_,rfl,r _ _ ⟨rfl,?_⟩⟩;unfold hO;rw[n,eQ,b_,jY,dU u,Hc];exact⟨λh=>by rw[h],λh=>Option.some.inj h⟩
  .have L:¬(b:Int)<(s.len:Int):=cw h
   refine r _ _ ⟨rfl,?_⟩;unfold hO;rw[n,oz I];simp
  .rintro _ _ ⟨rfl,rfl⟩
   exact⟨by rw[n],rfl⟩
theorem mP{B:Nat->Prop}{w:J}{n:aG}{K V D t:ad}{key:Key}(h:bI B w n K V D)(ht:Src 1 w t (aD key))(b:n.keys.Pairwise bD)(c:n.keys.length<=100000):
 aK ai 198 #[c9 n K V D,t] w (λv w'=>v=.tuple #[.int .i64 ((cT n.keys key:Nat):Int),.bool (hO n.keys key)]/\Ext w w'):=by
 refine okF (ae.mP n.leaf K V D t) ay.mP func198 ?_;(delta ae.mP r1 aa kW;dsimp only);refine bc (vs:=[n.leaf,K,V,D]) rfl λw1 d a _=>?_;obtain⟨b6,aZ,bf,bq⟩:=bP d;refine⟨K,aZ,(H3 (B:=B) (C:=B) (h.keys.ext a) (ht.ext a) b c).use ?_⟩;rintro _ _ ⟨rfl,rfl⟩;exact⟨_,_,rfl,rfl,a⟩
theorem qB{B:Nat->Prop}{w:J}{n:aG}{K V D t:ad}{key:Key}(h:bI B w n K V D)(ht:Src 1 w t (aD key))(b:n.keys.Pairwise bD)(c:n.keys.length<=100000):
 aK ai 143 #[c9 n K V D,t] w (λv w'=>v=.tuple #[.int .i64 ((cT n.keys key:Nat):Int),.bool (hO n.keys key)]/\Ext w w'):=by
 refine okF (ae.qB n.leaf K V D t) ay.qB func143 ?_;(delta ae.qB aY aa r1 kW;dsimp only);refine bc (vs:=[n.leaf,K,V,D]) rfl λw1 d a _=>?_;obtain⟨b6,aZ,bf,bq⟩:=bP d;refine⟨_,b6,K,aZ,V,bf,D,bq,(mP (h.ext a) (ht.ext a) b c).use ?_⟩;rintro _ _ ⟨rfl,e⟩;exact⟨_,_,rfl,rfl,a.trans e⟩
theorem H4{ks:O Key}(e:ks.Pairwise bD)(k:Key):dy ks k=if hO ks k then cT ks k+1 else cT ks k:=by
 have f:=q0 ks k;have key:∀a,a<=ks.length->(∀ (j:Nat) (h:j<ks.length),j<a->¬bD k ks[j])->(∀h:a<ks.length,bD k ks[a])->dy ks k=a:=by
  intro a g h1 h2;unfold dy;rcases eu a ks.length with h|h
  .exact(List.findIdx_eq h).2 ⟨dD (h2 h),λj b=>g_ (h1 j I b)⟩
  .have:a=ks.length:=by omega
   subst this;refine List.findIdx_eq_length_of_false λx hx=>?_;obtain⟨j,b,rfl⟩:=fF hx;exact g_ (h1 j b b)
 split
 .rename_i c
  have c:ks[cT ks k]? =some k:=cl c;obtain⟨aJ,he⟩:=jV.1 c;refine key _ aJ (λj b h=>?_) λh=>?_
  .rcases eu j (cT ks k) with d|d
   .exact j8 (py d b)
   .have:j=cT ks k:=by omega
    subst this;rw[he];exact kB _
  .have:=ln.1 e _ _ aJ h (Nat.lt_succ_self _)
   rwa[he]at this
 .rename_i c
  have c:¬ks[cT ks k]? =some k:=λh=>c (dD h);refine key _ f (λj b h=>j8 (py h b)) λh=>?_;rcases pw.1 (q1 e (bt _) h) with d|d
  .exact d
  .exact absurd ((dU h).trans (congrArg some d.symm)) c
theorem o5{B:Nat->Prop}{w:J}{n:aG}{K V D t:ad}{key:Key}(h:bI B w n K V D)(ht:Src 1 w t (aD key))(b:n.keys.Pairwise bD)(e:n.keys.length<=100000):
 aK ai 197 #[c9 n K V D,t] w (λv w'=>v=.int .i64 ((dy n.keys key:Nat):Int)/\Ext w w'):=by
 refine okF (ae.o5 n.leaf K V D t) ay.o5 func197 ?_;(delta ae.o5 aY aa r1 kW an ar;dsimp only);refine bc (vs:=[n.leaf,K,V,D]) rfl λw1 f a _=>?_;obtain⟨b6,aZ,bf,bq⟩:=bP f;have i:=q0 n.keys key;refine⟨_,b6,K,aZ,V,bf,D,bq,(mP (h.ext a) (ht.ext a) b e).use ?_⟩;rintro _ aj ⟨rfl,g⟩;rw[H4 b];refine⟨_,_,rfl,cq (λc w'=>aj=w'/\c=((if hO n.keys key then cT n.keys key+1 else cT n.keys key:Nat):Int)) (λq d=>⟨λh=>d _ _ ⟨rfl,?_⟩,λh=>d _ _ ⟨rfl,?_⟩⟩) ?_⟩
 .rw[if_pos h,bB I I];rfl
 .rw[if_neg (by simp[h])]
 .rintro _ _ ⟨rfl,rfl⟩
  exact⟨rfl,a.trans g⟩
structure ij(lo:Nat)(w:J)(aH:Nat)(n:aG)(K V D:ad)(bY cj bO:Nat->Prop):Prop where
 v:Var w aH [n.leaf,K,V,D] 202
 keys:bx bY w K n.keys
 vals:bx cj w V n.vals
 kids:cX bO w D n.kids
 bn:∀q,bY q->lo<=q/\q<w.heap.size/\q≠aH/\¬cj q/\¬bO q
 bv:∀q,cj q->lo<=q/\q<w.heap.size/\q≠aH/\¬bO q
 aM:∀q,bO q->lo<=q/\q<w.heap.size/\q≠aH
 m0:lo<=aH
structure e7(lo:Nat)(w:J)(n:aG)(K V D:ad)(bY cj bO:Nat->Prop):Prop where
 keys:bx bY w K n.keys
 vals:bx cj w V n.vals
 kids:cX bO w D n.kids
 bn:∀q,bY q->lo<=q/\q<w.heap.size/\¬cj q/\¬bO q
 bv:∀q,cj q->lo<=q/\q<w.heap.size/\¬bO q
 aM:∀q,bO q->lo<=q/\q<w.heap.size
section
variable {lo:Nat}{w w':J}{aH:Nat}{n:aG}{K V D:ad}{bY cj bO:Nat->Prop}
theorem ij.mem(h:ij lo w aH n K V D bY cj bO):e7 lo w n K V D bY cj bO:=⟨h.keys,h.vals,h.kids,λq a=>⟨(h.bn q a).1,(h.bn q a).2.1,(h.bn q a).2.2.2⟩,λq a=>⟨(h.bv q a).1,(h.bv q a).2.1,(h.bv q a).2.2.2⟩,λq a=>⟨(h.aM q a).1,(h.aM q a).2.1⟩⟩
theorem e7.ah{W:Nat->Prop}(h:e7 lo w n K V D bY cj bO)(hc:af W w w')(cK:∀q,lo<=q->q<w.heap.size->bY q\/cj q\/bO q->¬W q):e7 lo w' n K V D bY cj bO:=by
 have hs:=hc.size;refine⟨bx.ah h.keys hc λq a=>cK q (h.bn q a).1 (h.bn q a).2.1 (.inl a),bx.ah h.vals hc λq a=>cK q (h.bv q a).1 (h.bv q a).2.1 (.inr (.inl a)),cX.ah h.kids hc λq a=>cK q (h.aM q a).1 (h.aM q a).2 (.inr (.inr a)),λq a=>?_,λq a=>?_,λq a=>?_⟩
 .have:=h.bn q a;exact⟨this.1,I,this.2.2⟩
 .have:=h.bv q a;exact⟨this.1,I,this.2.2⟩
 .have:=h.aM q a;exact⟨this.1,I⟩
theorem e7.ext(h:e7 lo w n K V D bY cj bO)(hc:Ext w w'):e7 lo w' n K V D bY cj bO:=h.ah hc λ_ _ _ _ h=>h
theorem ij.ext(h:ij lo w aH n K V D bY cj bO)(hx:Ext w w'):ij lo w' aH n K V D bY cj bO:=
 ⟨h.v.ext hx,bx.ext h.keys hx,bx.ext h.vals hx,cX.ext h.kids hx,λq a=>⟨(h.bn q a).1,fP (h.bn q a).2.1 hx.size,(h.bn q a).2.2⟩,λq a=>⟨(h.bv q a).1,fP (h.bv q a).2.1 hx.size,(h.bv q a).2.2⟩,λq a=>⟨(h.aM q a).1,fP (h.aM q a).2.1 hx.size,(h.aM q a).2.2⟩,h.m0⟩
theorem e7.at(h:e7 lo w n K V D bY cj bO):bI (λq=>lo<=q) w n K V D:=
 ⟨bw.a7 (bx.iZ h.keys) λq _ a=>(h.bn q a).1,bw.a7 (bx.iZ h.vals) λq _ a=>(h.bv q a).1,cZ.a7 (cX.q5 h.kids) λq _ a=>(h.aM q a).1⟩
theorem e7.low{c:Nat}(h:e7 lo w n K V D bY cj bO)(b:c<=lo):e7 c w n K V D bY cj bO:=
 ⟨h.keys,h.vals,h.kids,λq a=>⟨eC b (h.bn q a).1,(h.bn q a).2⟩,λq a=>⟨eC b (h.bv q a).1,(h.bv q a).2⟩,λq a=>⟨eC b (h.aM q a).1,(h.aM q a).2⟩⟩
end
theorem zl{lo:Nat}{w:J}{aH:Nat}{n:aG}{K V D t:ad}{l:Key}{bY cj bO:Nat->Prop}(h:ij lo w aH n K V D bY cj bO)(ht:Src 1 w t (aD l))(U:l.length<=100000)(E:n.keys.length<=100000){R:J->Prop}
 (F:∀ (w':J) (G:ad) (x:Nat->Prop),ij lo w' aH {n with keys:=n.keys++ [l]} G V D x cj bO->af (λq=>q=aH\/bY q) w w'->(∀q,x q->bY q\/w.heap.size<=q)->R w'):
 ak w.drew λj=>∃m:Nat->Prop,¬m (Addr.add aH 1).block/\∃g:ad,j.cell? (Addr.add aH 1)=some (.slice g.a g.len g.cap)/\
  Calls ai 135 #[t] j λH d=>∃y:ad,H=.returned y/\af m j d/\
  ak (d.alloc (.cells #[y] 48)) λz=>af m d z/\∃A:ad,∃i:J,Sem.run ai (Builtin.append_ #[127,127] 127 #[g,.slice (some d.heap.size) 1 1]) z=.ok A i/\
  (∃u:Y,i.cell? (Addr.add aH 1)=some u)/\i.frozen? (Addr.add aH 1)=false/\ak (i.setCell (Addr.add aH 1) A) λL=>R L:=by
 have W:=h.m0;have X:=h.v.lt;have p:=cE w;obtain⟨b6,aZ,bf,bq⟩:=bP (h.v.ext p);refine aX ⟨λ_=>False,id,K,aZ,(kZ (B:=λq=>w.heap.size<=q) (ht.ext p) I (λq b=>b)).use ?_⟩;rintro _ d ⟨M,rfl,C,hx,hf⟩;have e:=p.trans hx;have Z:w.drew.heap.size=w.heap.size:=rfl;have N:=e.size;have O:=bx.ext h.keys e;have fR:=bx.ext h.vals e;have P:=cX.ext h.kids e;refine⟨M,rfl,hx,w5 (B:=Grow bY w.drew d) (h.v.ext e) (o:=1) (by simp) (bx.a7 O λk _ h=>.inl h) ?_ (bA.a7 C λk c h=>.inr ⟨h,c⟩) ?_ E λw' aA aw ax f=>?_⟩
 .rintro(h1|h1)
  .exact(h.bn aH h1).2.2.1 rfl
  .omega
 .intro k Q S
  obtain⟨ts,_,_,r,_⟩:=h.keys;have:=(r k S).2;have:=(C.2.2 k Q).1;omega
 have T:∀q,Grow (Grow bY w.drew d) d w' q->bY q\/(w.heap.size<=q/\q<w'.heap.size):=by
  rintro q ((h1|h1)|h1)
  .exact .inl h1
  .exact .inr ⟨h1.1,fP h1.2 f.size⟩
  .exact .inr ⟨eC N h1.1,h1.2⟩
 have hg:=f.size;have s:∀q,aE K q->bY q:=λq b=>by
  obtain⟨ts,_,_,r,_⟩:=h.keys;exact(r q b).1
 refine F w' aA (λq=>bY q\/(w.heap.size<=q/\q<w'.heap.size)) ⟨by simpa using aw,bx.a7 ax λk _ c=>T k c,bx.ah fR f ?_,cX.ah P f ?_,?_,λq b=>?_,λq b=>?_,h.m0⟩ ?_ ?_
 .rintro q b (h1|h1)
  .exact(h.bv q b).2.2.1 h1
  .exact(h.bn q (s q h1)).2.2.2.1 b
 .rintro q b (h1|h1)
  .exact(h.aM q b).2.2 h1
  .exact(h.bn q (s q h1)).2.2.2.2 b
 .rintro q (h1|h1)
  .have:=h.bn q h1;exact⟨this.1,I,this.2.2⟩
  .exact⟨I,h1.2,I,λh2=>by have:=h.bv q h2;omega,λh2=>by have:=h.aM q h2;omega⟩
 .have:=h.bv q b;exact⟨this.1,I,this.2.2⟩
 .have:=h.aM q b;exact⟨this.1,I,this.2.2⟩
 .refine(af.cN e).trans (f.mono λk _ c=>?_)
  rcases c with c|c
  .exact .inl c
  .exact .inr (s k c)
 .rintro q (h1|h1)
  .exact .inl h1
  .exact .inr h1.1
theorem CM{lo:Nat}{w:J}{aH:Nat}{n:aG}{K V D t:ad}{l:Key}{bY cj bO:Nat->Prop}(h:ij lo w aH n K V D bY cj bO)(ht:Src 1 w t (aD l))(U:l.length<=100000)(E:n.vals.length<=100000){R:J->Prop}
 (F:∀ (w':J) (G:ad) (x:Nat->Prop),ij lo w' aH {n with vals:=n.vals++ [l]} K G D bY x bO->af (λq=>q=aH\/cj q) w w'->(∀q,x q->cj q\/w.heap.size<=q)->R w'):
 ak w.drew λj=>∃m:Nat->Prop,¬m (Addr.add aH 2).block/\∃g:ad,j.cell? (Addr.add aH 2)=some (.slice g.a g.len g.cap)/\
  Calls ai 135 #[t] j λH d=>∃y:ad,H=.returned y/\af m j d/\
  ak (d.alloc (.cells #[y] 48)) λz=>af m d z/\∃A:ad,∃i:J,Sem.run ai (Builtin.append_ #[127,127] 127 #[g,.slice (some d.heap.size) 1 1]) z=.ok A i/\
  (∃u:Y,i.cell? (Addr.add aH 2)=some u)/\i.frozen? (Addr.add aH 2)=false/\ak (i.setCell (Addr.add aH 2) A) λL=>R L:=by
 have W:=h.m0;have X:=h.v.lt;have p:=cE w;obtain⟨b6,aZ,bf,bq⟩:=bP (h.v.ext p);refine aX ⟨λ_=>False,id,V,bf,(kZ (B:=λq=>w.heap.size<=q) (ht.ext p) I (λq b=>b)).use ?_⟩;rintro _ d ⟨M,rfl,C,hx,hf⟩;have e:=p.trans hx;have Z:w.drew.heap.size=w.heap.size:=rfl;have N:=e.size;have O:=bx.ext h.keys e;have fR:=bx.ext h.vals e;have P:=cX.ext h.kids e;refine⟨M,rfl,hx,w5 (B:=Grow cj w.drew d) (h.v.ext e) (o:=2) (by simp) (bx.a7 fR λk _ h=>.inl h) ?_ (bA.a7 C λk c h=>.inr ⟨h,c⟩) ?_ E λw' aA aw ax f=>?_⟩
 .rintro(h1|h1)
  .exact(h.bv aH h1).2.2.1 rfl
  .omega
 .intro k Q S
  obtain⟨ts,_,_,r,_⟩:=h.vals;have:=(r k S).2;have:=(C.2.2 k Q).1;omega
 have T:∀q,Grow (Grow cj w.drew d) d w' q->cj q\/(w.heap.size<=q/\q<w'.heap.size):=by
  rintro q ((h1|h1)|h1)
  .exact .inl h1
  .exact .inr ⟨h1.1,fP h1.2 f.size⟩
  .exact .inr ⟨eC N h1.1,h1.2⟩
 have hg:=f.size;have s:∀q,aE V q->cj q:=λq b=>by
  obtain⟨ts,_,_,r,_⟩:=h.vals;exact(r q b).1
 refine F w' aA (λq=>cj q\/(w.heap.size<=q/\q<w'.heap.size)) ⟨by simpa using aw,bx.ah O f ?_,bx.a7 ax λk _ c=>T k c,cX.ah P f ?_,λq b=>?_,?_,λq b=>?_,h.m0⟩ ?_ ?_
 .rintro q b (h1|h1)
  .exact(h.bn q b).2.2.1 h1
  .exact(h.bn q b).2.2.2.1 (s q h1)
 .rintro q b (h1|h1)
  .exact(h.aM q b).2.2 h1
  .exact(h.bv q (s q h1)).2.2.2 b
 .have:=h.bn q b
  refine⟨this.1,I,this.2.2.1,?_,this.2.2.2.2⟩;rintro(h1|h1)
  .exact this.2.2.2.1 h1
  .omega
 .rintro q (h1|h1)
  .have:=h.bv q h1;exact⟨this.1,I,this.2.2⟩
  .exact⟨I,h1.2,I,λh2=>by have:=h.aM q h2;omega⟩
 .have:=h.aM q b;exact⟨this.1,I,this.2.2⟩
 .refine(af.cN e).trans (f.mono λk _ c=>?_)
  rcases c with c|c
  .exact .inl c
  .exact .inr (s k c)
 .rintro q (h1|h1)
  .exact .inl h1
  .exact .inr h1.1
theorem eZ{B:Nat->Prop}{w0:J}{n:aG}{K V D:ad}(h:bI B w0 n K V D)(aR:n.keys.length<=100000)(aS:n.vals.length<=100000)(aT:n.kids.length<=100000)(au:∀k∈n.keys,k.length<=100000)(av:∀v∈n.vals,v.length<=100000):
 aK ai 204 #[c9 n K V D] w0 (λv w'=>∃ (K V D:ad) (bY cj bO:Nat->Prop),v=c9 n K V D/\e7 w0.heap.size w' n K V D bY cj bO/\Ext w0 w'):=by
 refine okF (ae.eZ n.leaf K V D) ay.eZ func204 ?_;(delta ae.eZ cU aa aY r1 bK yF an BT aM st ar BS BR uV;dsimp only);have aB:bI (λq=>q<w0.heap.size) w0 n K V D:=h.a7 λq a _=>a;have aU:=bw.len h.keys;have aV:=bw.len h.vals;refine bc (vs:=[n.leaf,K,V,D]) rfl λw1 aD aE aW=>?_;refine bc (vs:=[false,(),(),()]) rfl λaj aF aw a0=>aX ?_;have W:=cE aj;have a1:aj.drew.heap.size=aj.heap.size:=rfl;have L:=(aD.ext aw).ext W;have ax:=aF.ext W;have X:=aE.trans (aw.trans W);obtain⟨aI,a2,a3,aL⟩:=bP L;have T:=aB.ext X;obtain⟨lo,a4⟩:∃lo,lo=aj.heap.size:=⟨_,rfl⟩;refine⟨λ_=>False,id,_,aI,id,D,aL,⟨?_,?_⟩⟩
 .refine(td T.kids.1 I).use ?_
  rintro _ H ⟨aC,rfl,y,x,Y⟩;have aN:=x.size;refine⟨aC,rfl,x,#[n.leaf,(),(),aC],(λw=>by kernel_rfl),?_⟩;refine bc (vs:=[false,(),(),()]) rfl λaz U z aO=>?_;refine⟨z,U.b3 rfl ?_,rfl,cp U (us:=[n.leaf,(),(),aC]) rfl rfl λg M C aP=>?_⟩
  .intro v N
   simp only[de,fG,fQ]at N;rcases N with rfl|rfl|rfl|rfl<;>trivial
  obtain⟨aH,Z⟩:∃aH,aH=H.heap.size:=⟨_,rfl⟩;rw[←Z]at M C⊢;obtain⟨bO,r⟩:∃bO:Nat->Prop,bO=λq=>aj.heap.size<=q/\q<H.heap.size:=⟨_,rfl⟩;have ab:cX bO H aC n.kids:=by subst r;exact⟨y,λk l=>⟨⟨Y k l,y.lt k l⟩,y.lt k l⟩⟩
  have m:af (λq=>lo<=q) aj.drew g:=(af.cN (x.trans z)).trans (C.mono λk _ l=>I);have ac:ij lo g aH ⟨n.leaf,[],[],n.kids⟩ bG bG aC (λ_=>False) (λ_=>False) bO:=⟨M,bx.none _ _,bx.none _ _,cX.ah (cX.ext ab z) C (λq a e=>by subst r;have a:=a.2;omega),λq h=>h.elim,λq h=>h.elim,λq a=>(by subst r;obtain⟨h1,h2⟩:=a;exact⟨I,I,I⟩),I⟩;clear r;obtain⟨b6,aZ,bf,bq⟩:=bP (L.ah m I);have O:bI (λq=>q<w0.heap.size) g n K V D:=T.ah m λq a h=>by omega
  have ag:=ax.ah m I;refine⟨K,aZ,λi w'=>∃ (j:Nat) (d:ad) (bY:Nat->Prop),i=j/\j<=n.keys.length/\ij lo w' aH ⟨n.leaf,n.keys.take j,[],n.kids⟩ d bG aC bY (λ_=>False) bO/\af (λq=>lo<=q) g w',λi _=>((n.keys.length:Int)-i).toNat,⟨0,bG,_,rfl,cR _,ac,af.refl _ _⟩,?_⟩;rintro _ P ⟨j,d,bY,rfl,ak,o,s⟩;have al:bI (λq=>q<w0.heap.size) P n K V D:=O.ah s λq a h=>by omega
  refine⟨λaJ=>?_,λc=>?_⟩
  .have aJ:j<n.keys.length:=by have:=cl aJ;omega
   obtain⟨A,t,aq,E,hc,ht,_⟩:=bw.at al.keys aJ;refine⟨A,aq,E,t,hc,zl o ht.1 (au _ (cW aJ)) (by show(n.keys.take j).length<=_;rw[cz];omega) λw' cL am st F _=>?_⟩;have G:af (λq=>lo<=q) P w':=F.mono λq _ a=>by
    rcases a with a|a
    .have:=o.m0;omega
    .exact(o.bn q a).1
   rw[bB (n:=(j:Int)+1) I I];refine⟨⟨j+1,cL,am,I,I,?_,s.trans G⟩,?_⟩
   .rw[take_succ _ aJ];exact st
   .show((n.keys.length:Int)-((j:Int)+1)).toNat<((n.keys.length:Int)-(j:Int)).toNat
    omega
  have c:j=n.keys.length:=by have:=cw c;omega
  subst c;rw[h4]at o;obtain⟨b6,aZ,bf,bq⟩:=bP ((L.ah m I).ah s I);refine⟨V,bf,λi w'=>∃ (j:Nat) (p:ad) (cj:Nat->Prop),i=j/\j<=n.vals.length/\ij lo w' aH ⟨n.leaf,n.keys,n.vals.take j,n.kids⟩ d p aC bY cj bO/\af (λq=>lo<=q) g w',λi _=>((n.vals.length:Int)-i).toNat,⟨0,bG,_,rfl,cR _,o,s⟩,?_⟩;rintro _ R ⟨j,p,cj,rfl,ak,f,u⟩;have ao:bI (λq=>q<w0.heap.size) R n K V D:=O.ah u λq a h=>by omega
  refine⟨λaJ=>?_,λc=>?_⟩
  .have aJ:j<n.vals.length:=by have:=cl aJ;omega
   obtain⟨A,t,aq,E,hc,ht,_⟩:=bw.at ao.vals aJ;refine⟨A,aq,E,t,hc,CM f ht.1 (av _ (cW aJ)) (by show(n.vals.take j).length<=_;rw[cz];omega) λw' cV ap st F _=>?_⟩;have G:af (λq=>lo<=q) R w':=F.mono λq _ a=>by
    rcases a with a|a
    .have:=f.m0;omega
    .exact(f.bv q a).1
   rw[bB (n:=(j:Int)+1) I I];refine⟨⟨j+1,cV,ap,I,I,?_,u.trans G⟩,?_⟩
   .rw[take_succ _ aJ];exact st
   .show((n.vals.length:Int)-((j:Int)+1)).toNat<((n.vals.length:Int)-(j:Int)).toNat
    omega
  have c:j=n.vals.length:=by have:=cw c;omega
  subst c;rw[h4]at f;obtain⟨d0,d1,d2,d3⟩:=bP f.v;refine⟨_,d0,d,d1,p,d2,aC,d3,jt n.leaf d p aC (ag.ah u I) rfl (Q:=λb K V D aj=>(λv w'=>∃ (K V D:ad) (bY cj bO:Nat->Prop),v=c9 n K V D/\e7 w0.heap.size w' n K V D bY cj bO/\Ext w0 w') (.agg #[b,K,V,D]) aj) λaQ S=>⟨d,p,aC,bY,cj,bO,rfl,?_,?_⟩⟩
  .exact(e7.ah f.mem S λq a _ _ h=>I).low I
  .exact Ext.cD (Ext.df X (m.trans u) λk l=>I) S I
 .refine bc (vs:=[false,(),(),()]) rfl λaz U z aO=>⟨z,?_⟩
  refine(td (T.kids.ext z).1 I).use ?_;rintro _ H ⟨aC,rfl,y,x,Y⟩;have aN:=x.size;have aA:=U.ext x;refine⟨aC,rfl,x,#[n.leaf,(),(),aC],(λw=>by kernel_rfl),?_⟩;refine⟨aA.b3 rfl ?_,rfl,cp aA (us:=[n.leaf,(),(),aC]) rfl rfl λg M C aP=>?_⟩
  .intro v N
   simp only[de,fG,fQ]at N;rcases N with rfl|rfl|rfl|rfl<;>trivial
  obtain⟨aH,Z⟩:∃aH,aH=aj.drew.heap.size:=⟨_,rfl⟩;rw[←Z]at M C⊢;obtain⟨bO,r⟩:∃bO:Nat->Prop,bO=λq=>az.heap.size<=q/\q<H.heap.size:=⟨_,rfl⟩;have ab:cX bO H aC n.kids:=by subst r;exact⟨y,λk l=>⟨⟨Y k l,y.lt k l⟩,y.lt k l⟩⟩
  have m:af (λq=>lo<=q) aj.drew g:=(af.cN (z.trans x)).trans (C.mono λk _ l=>I);have ac:ij lo g aH ⟨n.leaf,[],[],n.kids⟩ bG bG aC (λ_=>False) (λ_=>False) bO:=⟨M,bx.none _ _,bx.none _ _,cX.ah ab C (λq a e=>by subst r;have a:=a.1;omega),λq h=>h.elim,λq h=>h.elim,λq a=>(by subst r;obtain⟨h1,h2⟩:=a;exact⟨I,I,I⟩),I⟩;clear r;obtain⟨b6,aZ,bf,bq⟩:=bP (L.ah m I);have O:bI (λq=>q<w0.heap.size) g n K V D:=T.ah m λq a h=>by omega
  have ag:=ax.ah m I;refine⟨K,aZ,λi w'=>∃ (j:Nat) (d:ad) (bY:Nat->Prop),i=j/\j<=n.keys.length/\ij lo w' aH ⟨n.leaf,n.keys.take j,[],n.kids⟩ d bG aC bY (λ_=>False) bO/\af (λq=>lo<=q) g w',λi _=>((n.keys.length:Int)-i).toNat,⟨0,bG,_,rfl,cR _,ac,af.refl _ _⟩,?_⟩;rintro _ P ⟨j,d,bY,rfl,ak,o,s⟩;have al:bI (λq=>q<w0.heap.size) P n K V D:=O.ah s λq a h=>by omega
  refine⟨λaJ=>?_,λc=>?_⟩
  .have aJ:j<n.keys.length:=by have:=cl aJ;omega
   obtain⟨A,t,aq,E,hc,ht,_⟩:=bw.at al.keys aJ;refine⟨A,aq,E,t,hc,zl o ht.1 (au _ (cW aJ)) (by show(n.keys.take j).length<=_;rw[cz];omega) λw' cL am st F _=>?_⟩;have G:af (λq=>lo<=q) P w':=F.mono λq _ a=>by
    rcases a with a|a
    .have:=o.m0;omega
    .exact(o.bn q a).1
   rw[bB (n:=(j:Int)+1) I I];refine⟨⟨j+1,cL,am,I,I,?_,s.trans G⟩,?_⟩
   .rw[take_succ _ aJ];exact st
   .show((n.keys.length:Int)-((j:Int)+1)).toNat<((n.keys.length:Int)-(j:Int)).toNat
    omega
  have c:j=n.keys.length:=by have:=cw c;omega
  subst c;rw[h4]at o;obtain⟨b6,aZ,bf,bq⟩:=bP ((L.ah m I).ah s I);refine⟨V,bf,λi w'=>∃ (j:Nat) (p:ad) (cj:Nat->Prop),i=j/\j<=n.vals.length/\ij lo w' aH ⟨n.leaf,n.keys,n.vals.take j,n.kids⟩ d p aC bY cj bO/\af (λq=>lo<=q) g w',λi _=>((n.vals.length:Int)-i).toNat,⟨0,bG,_,rfl,cR _,o,s⟩,?_⟩;rintro _ R ⟨j,p,cj,rfl,ak,f,u⟩;have ao:bI (λq=>q<w0.heap.size) R n K V D:=O.ah u λq a h=>by omega
  refine⟨λaJ=>?_,λc=>?_⟩
  .have aJ:j<n.vals.length:=by have:=cl aJ;omega
   obtain⟨A,t,aq,E,hc,ht,_⟩:=bw.at ao.vals aJ;refine⟨A,aq,E,t,hc,CM f ht.1 (av _ (cW aJ)) (by show(n.vals.take j).length<=_;rw[cz];omega) λw' cV ap st F _=>?_⟩;have G:af (λq=>lo<=q) R w':=F.mono λq _ a=>by
    rcases a with a|a
    .have:=f.m0;omega
    .exact(f.bv q a).1
   rw[bB (n:=(j:Int)+1) I I];refine⟨⟨j+1,cV,ap,I,I,?_,u.trans G⟩,?_⟩
   .rw[take_succ _ aJ];exact st
   .show((n.vals.length:Int)-((j:Int)+1)).toNat<((n.vals.length:Int)-(j:Int)).toNat
    omega
  have c:j=n.vals.length:=by have:=cw c;omega
  subst c;rw[h4]at f;obtain⟨d0,d1,d2,d3⟩:=bP f.v;refine⟨_,d0,d,d1,p,d2,aC,d3,jt n.leaf d p aC (ag.ah u I) rfl (Q:=λb K V D aj=>(λv w'=>∃ (K V D:ad) (bY cj bO:Nat->Prop),v=c9 n K V D/\e7 w0.heap.size w' n K V D bY cj bO/\Ext w0 w') (.agg #[b,K,V,D]) aj) λaQ S=>⟨d,p,aC,bY,cj,bO,rfl,?_,?_⟩⟩
  .exact(e7.ah f.mem S λq a _ _ h=>I).low I
  .exact Ext.cD (Ext.df X (m.trans u) λk l=>I) S I
theorem bx.mk'{B:Nat->Prop}{w:J}{s:ad}{ts:O ad}{ls:O Key}(a:ts.length=ls.length)(b:aT 1 48 w s (ts.map ih))(hi:In B w s)(c:∀p∈ts.zip ls,bA B w p.1 p.2/\∀k,aE p.1 k->¬aE s k):bx B w s ls:=by
 refine⟨ts,a,b,hi,λi h1 h2=>?_⟩;have:=c (ts[i],ls[i]) (by
  rw[tX];exact⟨i,by rw[ot];omega,by rw[tV]⟩)
 exact this
theorem bx.out{B:Nat->Prop}{w:J}{s:ad}{ls:O Key}(h:bx B w s ls):∃ts:O ad,ts.length=ls.length/\aT 1 48 w s (ts.map ih)/\In B w s/\∀p∈ts.zip ls,bA B w p.1 p.2/\∀k,aE p.1 k->¬aE s k:=by
 obtain⟨ts,h1,h2,a,b⟩:=h;refine⟨ts,h1,h2,a,λp c=>?_⟩;obtain⟨i,hi,rfl⟩:=tX.1 c;rw[ot]at hi;rw[tV];exact b i I I
theorem CN{α β:Type}(a:O α)(b:O β)(i:Nat):(a.take i).zip (b.take i)=(a.zip b).take i:=by
 rw[List.zip_eq_zipWith,List.zip_eq_zipWith,List.take_zipWith]
theorem CO{α β:Type}(a:O α)(b:O β)(i:Nat):(a.drop i).zip (b.drop i)=(a.zip b).drop i:=by
 rw[List.zip_eq_zipWith,List.zip_eq_zipWith,List.drop_zipWith]
theorem CP{B:Nat->Prop}{w:J}{s t:ad}{ls:O Key}{l:Key}{i:Nat}(q:bx B w s ls)(ht:bA B w t l)(hd:∀k,aE t k->¬aE s k)(F:ls.length<=100000)(hi:i<=ls.length):
 aK ai 210 #[s,.int .i64 (i:Int),.slice (some w.heap.size) 1 1] (w.alloc (.cells #[t] 48))
  (λu w'=>∃e:ad,u=e/\bx (Grow B w w') w' e (ls.take i++ [l]++ls.drop i)/\af (aE s) w w'):=by
 obtain⟨ts,h1,h2,j,m⟩:=bx.out q;have G:s.len=ls.length:=by have:=h2.1;rw[dk]at this;omega
 have hx:=c8 w (.cells #[t] 48);have r:=bu.new w #[t] 48;refine(HZ (v:=⟨some w.heap.size,1,1⟩) (xs:=[ih t]) (i:=i) (h2.ext hx) (Src.new (T:=48) w [ih t] 1 rfl) rfl rfl r (λh=>by have:=(j _ h).2;omega) (λv z=>by rw[fz.1 z];trivial) (wY ts) I I).mono ?_;rintro _ w' ⟨e,rfl,aw,ax,A,C⟩;rw[fE]at aw;have hc:af (aE s) w w':=(af.cN hx).trans A;have H:=hc.size;have K:(w.alloc (.cells #[t] 48)).heap.size=w.heap.size+1:=pA _ _;have n:∀k,aE e k->aE s k\/w.heap.size<=k:=λk d=>(C k d).imp id λh=>by omega
 have D:∀ (x:ad),In B w x->(∀k,aE x k->¬aE s k)->∀k,aE x k->¬aE e k:=λx hx f k d E=>by
  rcases n k E with h|h
  .exact f k d h
  .have:=(hx k d).2;omega
 have g:∀ (x:ad) (y:Key),bA B w x y->(∀k,aE x k->¬aE s k)->bA (Grow B w w') w' x y/\∀k,aE x k->¬aE e k:=λx y o f=>⟨bA.a7 (bA.jr o hc f) λk _ h=>.inl h,D x o.2.2 f⟩;refine⟨e,rfl,bx.mk' (ts:=ts.take i++ [t]++ts.drop i) ?_ ?_ ?_ ?_,hc⟩
 .simp only[cG,cz,dw,jC];omega
 .simpa[mv,mu] using aw
 .intro k d
  refine⟨?_,aw.lt k d⟩;rcases n k d with h|h
  .exact .inl (j k h).1
  .exact .inr ⟨h,aw.lt k d⟩
 .intro p c
  rw[List.zip_append (by simp only[cG,cz,jC];omega),List.zip_append (by simp only[cz];omega),CN,CO]at c;rcases c1.1 c with c|c
  .rcases c1.1 c with c|c
   .obtain⟨a,b⟩:=m p (eY c)
    exact g _ _ a b
   .simp only[List.zip_cons_cons,List.zip_nil_left,fz]at c
    subst c;exact g _ _ ht hd
  .obtain⟨a,b⟩:=m p (e6 c)
   exact g _ _ a b
theorem H5:(Tryz.prog.info? 48).bind (·.zero)=some (.slice none 0 0):=by kernel_rfl
theorem CQ{B:Nat->Prop}{w:J}{s:ad}{ls:O Key}{i:Nat}(j:bx B w s ls)(r:ls.length<=100000)(hi:i<ls.length):
 aK ai 205 #[s,.int .i64 (i:Int),.int .i64 ((i+1:Nat):Int)] w
  (λu w'=>∃e:ad,u=e/\bx B w' e (ls.take i++ls.drop (i+1))/\af (aE s) w w'):=by
 obtain⟨ts,h1,h2,l,m⟩:=bx.out j;have t:s.len=ls.length:=by have:=h2.1;rw[dk]at this;omega
 refine(H0 (i:=i) h2 (wY ts) (λz g u hu=>by
  rw[H5]at g
  cases g;simp[Value.cells]at hu;subst hu;trivial) I I).mono ?_
 rintro _ w' ⟨e,rfl,aw,ax,n,f⟩;rw[fE,fE]at aw;have v:=f.size;have h:∀k,aE e k->aE s k:=λk ⟨A,aq,c⟩=>⟨A,by rw[←n];exact aq,c⟩;refine⟨e,rfl,bx.mk' (ts:=ts.take i++ts.drop (i+1)) ?_ ?_ ?_ ?_,f⟩
 .simp only[cG,cz,dw];omega
 .simpa[mv,mu] using aw
 .exact λk c=>⟨(l k (h k c)).1,aw.lt k c⟩
 .intro p d
  rw[List.zip_append (by simp only[cz];omega),CN,CO]at d;have o:p∈ts.zip ls:=by
   rcases c1.1 d with d|d
   .exact eY d
   .exact e6 d
  obtain⟨a,b⟩:=m p o;exact⟨bA.jr a f b,λk c q=>b k c (h k q)⟩
theorem H6{B:Nat->Prop}{w:J}{s t:ad}{ls:O Key}{l:Key}{i:Nat}(g:bx B w s ls)(ht:bA B w t l)(hd:∀k,aE t k->¬aE s k)(hi:i<ls.length):
 ∃A:ag,s.a=some A/\((0:Int)<=(i:Int)/\(i:Int)<(s.len:Int))/\(∃u:Y,w.cell? (A.add (Int.toNat (i:Int)*1))=some u)/\w.frozen? (A.add (Int.toNat (i:Int)*1))=false/\
  bx B (w.setCell (A.add (Int.toNat (i:Int)*1)) (ih t)) s (ls.set i l)/\af (aE s) w (w.setCell (A.add (Int.toNat (i:Int)*1)) (ih t)):=by
 obtain⟨ts,h1,h2,h,m⟩:=g;obtain⟨A,aq,n,hc,hf,o,p⟩:=h2.at (i:=i) (v:=ih (ts[i]'I)) (by simp[h1,hi]);have c:af (aE s) w (w.setCell (A.add (Int.toNat (i:Int)*1)) (ih t)):=af.set (.refl _ _) (λ_=>o) _;refine⟨A,aq,n,⟨_,hc⟩,hf,⟨ts.set i t,by simp[h1],?_,In.ah h c,λj d f=>?_⟩,c⟩
 .have:=p (ih t)
  rwa[←List.map_set]at this
 .rw[dJ]at d f
  rw[oq,oq];by_cases e:i=j
  .rw[if_pos e,if_pos e]
   exact⟨bA.jr ht c hd,hd⟩
  .rw[if_neg e,if_neg e]
   obtain⟨a,b⟩:=m j d f;exact⟨bA.jr a c b,b⟩
def hT(n:aG)(k v:Key):aG:=
 if hO n.keys k then {n with vals:=n.vals.set (cT n.keys k) v}
 else {n with keys:=n.keys.take (cT n.keys k)++ [k]++n.keys.drop (cT n.keys k),vals:=n.vals.take (cT n.keys k)++ [v]++n.vals.drop (cT n.keys k)}
def mc(n:aG)(k:Key):aG:={n with keys:=n.keys.take (cT n.keys k)++n.keys.drop (cT n.keys k+1),vals:=n.vals.take (cT n.keys k)++n.vals.drop (cT n.keys k+1)}
theorem hC.eL{n:aG}(h:hC n):(∀k∈n.keys,k.length<=100000)/\(∀v∈n.vals,v.length<=100000):=⟨λk a=>by have:=(h.ok k a).2;omega,λv b=>by have:=h.vals v b;omega⟩
def pF(n:aG)(w:J)(v:Y)(w':J):Prop:=∃K V D:ad,v=.tuple #[c9 n K V D,true]/\bI (λq=>w.heap.size<=q) w' n K V D/\Ext w w'
theorem qD{B:Nat->Prop}{w:J}{n:aG}{K V D tk c2:ad}{key val:Key}(h:bI B w n K V D)(hs:hC n)(bM:n.keys.length<=10000)(c:Src 1 w tk (aD key))(G:Src 1 w c2 (aD val))(aN:cI key)(bN:val.length<=24):
 aK ai 151 #[c9 n K V D,tk,c2] w (pF (hT n key val) w):=by
 have bQ:=hs.len;have bR:n.kids.length=0:=by rw[hs.kids];rfl
 have bS:=len8 G;have bT:key.length<=24:=aN.2;refine okF (ae.qD n.leaf K V D tk c2) ay.qD func151 ?_;(delta ae.qD cU aY aa qq an r1 b8 gi sw gK kW bK aM st dg su;dsimp only);refine bc (vs:=[n.leaf,K,V,D]) rfl λw1 ar a9 bU=>?_;refine bc (vs:=[false,(),(),()]) rfl λaj a_ ac bV=>?_;have aO:=a9.trans ac;obtain⟨b6,aZ,bf,bq⟩:=bP (ar.ext ac);refine⟨n.leaf,b6,cq (λb w'=>b=false/\Ext aj w') (λq a=>⟨λp=>?_,λp=>⟨_,b6,K,aZ,V,bf,D,bq,(kz (h.ext aO) I I I).use ?_⟩⟩) ?_⟩
 .rw[hs.leaf]at p;cases p
 .rintro _ au ⟨b,rfl,ba,C⟩
  have:=ba.2 (.inl hs);subst this;exact⟨true,rfl,a _ _ ⟨rfl,C⟩⟩
 rintro _ au ⟨rfl,C⟩;have ag:=aO.trans C;refine cq (λb w'=>b=false/\au=w') (λq a=>⟨λh=>(by cases h),λ_=>(o7 (c.ext ag)).use ?_⟩) ?_
 .rintro _ _ ⟨rfl,rfl⟩
  exact⟨_,rfl,a _ _ ⟨by simp[aN],rfl⟩⟩
 rintro _ _ ⟨rfl,rfl⟩;obtain⟨b6,aZ,bf,bq⟩:=bP (ar.ext (ac.trans C));refine⟨λp=>?_,λ_=>⟨_,b6,K,aZ,V,bf,D,bq,(eZ (h.ext ag) I I I hs.eL.1 hs.eL.2).use ?_⟩⟩
 .have p:decide (((c2.len:Int):Int)>24)=true:=p
  have:=cl p;omega
 rintro _ bb ⟨l,g,aC,bY,cj,bO,rfl,r,ak⟩;have aP:=ag.trans ak;have bW:=aP.size;have bX:=ag.size;have bZ:=C.size;have b0:=ak.size;refine⟨n.leaf,l,g,aC,rfl,bc (vs:=[false,(),(),()]) rfl λb1 aQ al b2=>⟨aQ.b3 rfl ?_,rfl,cp aQ (us:=[n.leaf,l,g,aC]) rfl rfl λO P R b4=>?_⟩⟩
 .intro v G
  simp only[de,fG,fQ]at G;rcases G with rfl|rfl|rfl|rfl<;>trivial
 obtain⟨aH,bd⟩:∃aH,aH=bb.heap.size:=⟨_,rfl⟩;rw[←bd]at P R⊢;obtain⟨lo,be⟩:∃lo,lo=au.heap.size:=⟨_,rfl⟩;rw[←be]at r;have am:Ext w O:=Ext.cD (aP.trans al) R I;have bg:Var O w.heap.size [n.leaf,K,V,D] 202:=(((ar.ext (ac.trans C)).ext ak).ext al).ah R I;have aR:Var O w1.heap.size [false,(),(),()] 202:=(((a_.ext C).ext ak).ext al).ah R I;have f:e7 lo O n l g aC bY cj bO:=(r.ext al).ah R λq _ _ a e=>by
  subst e;rcases a with a|a|a
  .have:=(r.bn _ a).2.1;omega
  .have:=(r.bv _ a).2.1;omega
  .have:=(r.aM _ a).2;omega
 obtain⟨b6,aZ,bf,bq⟩:=bP bg;have bh:=q0 n.keys key;refine⟨_,b6,K,aZ,V,bf,D,bq,(mP (h.ext am) (c.ext am) hs.e9 I).use ?_⟩;rintro _ m ⟨rfl,ao⟩;have av:=am.trans ao;have b5:=ao.size;refine⟨_,_,rfl,λH=>?_,λH=>?_⟩
 .
  have E:=cE m;have L:=ao.trans E;have aJ:cT n.keys key<n.keys.length:=by
   have:=cl H;exact(jV.1 this).1
  obtain⟨d0,d1,d2,d3⟩:=bP (P.ext L);refine aX ⟨λ_=>False,id,g,d2,(kZ (B:=λq=>m.heap.size<=q) (G.ext (av.trans E)) I (λq a=>a)).use ?_⟩;rintro _ s ⟨t,rfl,ht,x,bi⟩;have T:=L.trans x;have aA:=f.ext T;have bj:=T.size;have bk:bx (Grow cj m s) s g n.vals:=bx.a7 aA.vals λk _ h=>.inl h;have y:∀k,aE g k->cj k:=λk c=>by obtain⟨ts,_,_,U,_⟩:=f.vals;exact(U k c).1
  obtain⟨A,aq,p,bl,q9,aS,aT⟩:=H6 (i:=cT n.keys key) bk (bA.a7 ht λk c h=>.inr ⟨h,c⟩) (λk W X=>by
   have:=(ht.2.2 k W).1;have:=(f.bv k (y k X)).2.1;omega) I
  refine⟨t,rfl,x,A,aq,p,bl,q9,aX ?_⟩;obtain⟨o,aU⟩:∃o,o=s.setCell (A.add (Int.toNat (cT n.keys key:Int)*1)) (ih t):=⟨_,rfl⟩;rw[←aU]at aS aT;have bm:s.setCell (A.add (Int.toNat (cT n.keys key:Int)*1)) t=o:=aU.symm;rw[bm];have Y:af (λq=>lo<=q/\q<O.heap.size/\cj q) s o:=aT.mono λk _ c=>⟨(f.bv k (y k c)).1,(f.bv k (y k c)).2.1,y k c⟩;have ap:=(P.ext T).ah Y (λe=>by
   have h1:=(r.bv _ e.2.2).2.1;omega)
  obtain⟨bo,bp,br,bs⟩:=bP ap;have bt:bI (λq=>lo<=q) o (hT n key val) l g aC:=by
   unfold hT;rw[if_pos H];refine⟨bw.a7 (bw.ah (bx.iZ aA.keys) Y λq a e=>(f.bn q a).2.2.1 e.2.2) λq _ a=>(f.bn q a).1,bw.a7 (bx.iZ aS) λq _ a=>?_,cZ.a7 (cZ.ah (cX.q5 aA.kids) Y λq a e=>(f.bv q e.2.2).2.2 a) λq _ a=>(f.aM q a).1⟩;rcases a with a|a
   .exact(f.bv q a).1
   .omega
  have bu:(hT n key val).leaf=n.leaf:=by unfold hT;rw[if_pos H]
  refine⟨_,bo,l,bp,g,br,aC,bs,jt n.leaf l g aC ((aR.ext T).ah Y (λe=>by have:=e.1;omega)) rfl (Q:=λb K V D aj=>pF (hT n key val) w (.tuple #[.agg #[b,K,V,D],true]) aj) λj u=>⟨l,g,aC,by unfold c9;rw[bu],?_,?_⟩⟩
  .exact(bt.ah u λq a e=>I).a7 λq _ a=>by omega
  .exact Ext.cD (Ext.df (am.trans T) Y λk c=>I) u I
 .
  have E:=cE m;have L:=ao.trans E;have aV:ij lo m.drew aH n l g aC bY cj bO:=by
   have M:=f.ext L;refine⟨P.ext L,M.keys,M.vals,M.kids,λq a=>?_,λq a=>?_,λq a=>?_,I⟩
   .have h1:=M.bn q a;have:=(r.bn q a).2.1;exact⟨h1.1,h1.2.1,I,h1.2.2⟩
   .have h1:=M.bv q a;have:=(r.bv q a).2.1;exact⟨h1.1,h1.2.1,I,h1.2.2⟩
   .have h1:=M.aM q a;have:=(r.aM q a).2;exact⟨h1.1,h1.2,I⟩
  obtain⟨d0,d1,d2,d3⟩:=bP aV.v;refine aX ⟨λ_=>False,id,l,d1,(kZ (B:=λq=>m.heap.size<=q) (c.ext (av.trans E)) I (λq a=>a)).use ?_⟩;rintro _ s ⟨t,rfl,ht,x,bi⟩;have bj:m.heap.size<=s.heap.size:=(E.trans x).size;have aB:∀k,aE l k->bY k:=λk c=>by obtain⟨ts,_,_,U,_⟩:=f.keys;exact(U k c).1
  have y:∀k,aE g k->cj k:=λk c=>by obtain⟨ts,_,_,U,_⟩:=f.vals;exact(U k c).1
  have d:=aV.ext x;refine⟨t,rfl,x,aX ⟨c8 _ _,(CP (B:=Grow bY m s) (i:=cT n.keys key) (bx.a7 d.keys λk _ h=>.inl h) (bA.a7 ht λk c h=>.inr ⟨h,c⟩) (λk W X=>by
   have:=(ht.2.2 k W).1;have:=(f.bn k (aB k X)).2.1;omega) I bh).use ?_⟩⟩
  rintro _ o ⟨S,rfl,bz,aW⟩;have b7:=aW.size;have Z:af (λq=>lo<=q/\bY q) s o:=aW.mono λk _ c=>⟨(f.bn k (aB k c)).1,aB k c⟩;have ap:=d.v.ah Z λe=>(d.bn _ e.2).2.2.1 rfl;obtain⟨s1,s2⟩:=eP ap (i:=1) (by simp);refine⟨S,rfl,?_⟩;rw[az,az];refine⟨s1,s2,aX (aX ?_)⟩;obtain⟨j,aF⟩:∃j,j=(o.setCell ⟨aH,0+1,none⟩ S).drew:=⟨_,rfl⟩;rw[←aF];have u:af (λq=>q=aH) o j:=by rw[aF];exact af.drew (ek _ _ _ _)
  have a0:Var j aH [n.leaf,S,g,aC] 202:=by rw[aF];exact(eO ap _).drew
  have b9:=u.size;have b_:aH<m.heap.size:=by have:=P.lt;omega
  have bB:bx (λq=>bY q\/(m.heap.size<=q/\q<o.heap.size)) j S (n.keys.take (cT n.keys key)++ [key]++n.keys.drop (cT n.keys key)):=by
   refine bx.ah (bx.a7 bz λk _ c=>?_) u λk c e=>?_
   .rcases c with (c|c)|c
    .exact .inl c
    .exact .inr ⟨c.1,I⟩
    .exact .inr ⟨I,c.2⟩
   .subst e
    rcases c with c|c
    .exact(d.bn _ c).2.2.1 rfl
    .omega
  have bC:bx cj j g n.vals:=bx.ah (bx.ah d.vals Z λq a e=>(d.bn q e.2).2.2.2.1 a) u λq a e=>(d.bv q a).2.2.1 e;have bD:cX bO j aC n.kids:=cX.ah (cX.ah d.kids Z λq a e=>(d.bn q e.2).2.2.2.2 a) u λq a e=>(d.aM q a).2.2 e;have a1:Ext w j:=Ext.df (Ext.df ((av.trans E).trans x) Z λk c=>I) u λk c=>by omega
  obtain⟨f0,f1,f2,f3⟩:=bP a0;rw[az]at f2;refine⟨λ_=>False,id,g,f2,(kZ (B:=λq=>j.heap.size<=q) (G.ext a1) I (λq a=>a)).use ?_⟩;rintro _ a2 ⟨t2,rfl,a3,z,ca⟩;have cb:=z.size;refine⟨t2,rfl,z,aX ⟨c8 _ _,(CP (B:=Grow cj j a2) (i:=cT n.keys key) (bx.a7 (bx.ext bC z) λk _ h=>.inl h) (bA.a7 a3 λk c h=>.inr ⟨h,c⟩) (λk W X=>by
   have:=(a3.2.2 k W).1;have:=(f.bv k (y k X)).2.1;omega) I I).use ?_⟩⟩
  rintro _ aI ⟨c_,rfl,bE,a4⟩;have cc:=a4.size;have ab:af (λq=>lo<=q/\cj q) a2 aI:=a4.mono λk _ c=>⟨(f.bv k (y k c)).1,y k c⟩;have a5:=(a0.ext z).ah ab λe=>(d.bv _ e.2).2.2.1 rfl;obtain⟨s1,s2⟩:=eP a5 (i:=2) (by simp);refine⟨c_,rfl,?_⟩;rw[az,az];refine⟨s1,s2,aX ?_⟩;obtain⟨F,aL⟩:∃F,F=aI.setCell ⟨aH,0+2,none⟩ c_:=⟨_,rfl⟩;rw[←aL];have N:af (λq=>q=aH) aI F:=by rw[aL];exact ek _ _ _ _
  have bF:Var F aH [n.leaf,S,c_,aC] 202:=by rw[aL];exact eO a5 _
  have cd:=N.size;obtain⟨te,aw,ax,a6⟩:=bP bF;rw[az]at aw ax a6;have bG:bI (λq=>lo<=q) F (hT n key val) S c_ aC:=by
   unfold hT;rw[if_neg (by rw[H];simp)];refine⟨?_,?_,?_⟩
   .refine bw.a7 (bx.iZ (bx.ah (bx.ah (bx.ext bB z) ab λq a e=>?_) N λq a e=>?_)) λq _ a=>?_
    .rcases a with a|a
     .exact(d.bn q a).2.2.2.1 e.2
     .have:=(f.bv q e.2).2.1;omega
    .subst e
     rcases a with a|a
     .exact(d.bn _ a).2.2.1 rfl
     .omega
    .rcases a with a|a
     .exact(d.bn q a).1
     .omega
   .refine bw.a7 (bx.iZ (bx.ah bE N λq a e=>?_)) λq _ a=>?_
    .subst e
     rcases a with (a|a)|a
     .exact(d.bv _ a).2.2.1 rfl
     .omega
     .omega
    .rcases a with (a|a)|a
     .exact(d.bv q a).1
     .omega
     .omega
   .exact cZ.a7 (cX.q5 (cX.ah (cX.ah (cX.ext bD z) ab λq a e=>(d.bv q e.2).2.2.2 a) N λq a e=>(d.aM q a).2.2 e)) λq _ a=>(d.aM q a).1
  have bH:(hT n key val).leaf=n.leaf:=by unfold hT;rw[if_neg (by rw[H];simp)]
  have bJ:Ext w F:=Ext.df (Ext.df (a1.trans z) ab λk c=>I) N λk c=>by omega
  have bL:Var F w1.heap.size [false,(),(),()] 202:=by
   have h1:=aR.ext (L.trans x);have h2:=(h1.ah Z (λe=>by have:=e.1;omega)).ah u I;exact((h2.ext z).ah ab (λe=>by have:=e.1;omega)).ah N I
  rw[az,az];refine⟨_,te,S,aw,c_,ax,aC,a6,?_⟩;have:=jt n.leaf S c_ aC bL rfl (Q:=λb K V D aj=>pF (hT n key val) w (.tuple #[.agg #[b,K,V,D],true]) aj) λce a8=>⟨S,c_,aC,by unfold c9;rw[bH],(bG.ah a8 λq a e=>I).a7 λq _ a=>I,Ext.cD bJ a8 I⟩;simpa only[az] using this
def q_(n:aG)(key:Key)(w:J)(v:Y)(w':J):Prop:=
 if hO n.keys key then pF (mc n key) w v w' else v=.tuple #[c9 js bG bG bG,false]/\Ext w w'
theorem qC{B:Nat->Prop}{w:J}{n:aG}{K V D tk:ad}{key:Key}(h:bI B w n K V D)(hs:hC n)(a4:n.keys.length<=10000)(d:Src 1 w tk (aD key)):
 aK ai 149 #[c9 n K V D,tk] w (q_ n key w):=by
 have a5:=hs.len;have a6:n.kids.length=0:=by rw[hs.kids];rfl
 refine okF (ae.qC n.leaf K V D tk) ay.qC func149 ?_;(delta ae.qC cU aY aa r1 kW qq an b8 gi sw gK bK ar st dg su;dsimp only);refine bc (vs:=[n.leaf,K,V,D]) rfl λw1 E aq a8=>?_;refine bc (vs:=[false,(),(),()]) rfl λaj au A a9=>?_;have F:=aq.trans A;obtain⟨b6,aZ,bf,bq⟩:=bP (E.ext A);refine⟨_,b6,K,aZ,V,bf,D,bq,(mP (h.ext F) (d.ext F) hs.e9 I).use ?_⟩;rintro _ av ⟨rfl,s⟩;have T:=F.trans s;obtain⟨b6,aZ,bf,bq⟩:=bP (E.ext (A.trans s));refine⟨_,_,rfl,n.leaf,b6,cq (λb w'=>b=false/\Ext av w') (λq a=>⟨λf=>?_,λf=>⟨_,b6,K,aZ,V,bf,D,bq,(kz (h.ext T) I I I).use ?_⟩⟩) ?_⟩
 .rw[hs.leaf]at f;cases f
 .rintro _ U ⟨b,rfl,aA,o⟩
  have:=aA.2 (.inl hs);subst this;exact⟨true,rfl,a _ _ ⟨rfl,o⟩⟩
 rintro _ U ⟨rfl,o⟩;have G:=T.trans o;have a_:=o.size;have ba:=s.size;have W:=au.ext (s.trans o);refine⟨λf=>?_,λf=>?_⟩
 .have f:hO n.keys key=false:=by simpa using f
  refine jt false bG bG bG W rfl (Q:=λb K V D aj=>q_ n key w (.tuple #[.agg #[b,K,V,D],false]) aj) λX aB=>?_;unfold q_;rw[if_neg (by rw[f];simp)];exact⟨rfl,Ext.cD G aB I⟩
 have Y:hO n.keys key=true:=by simpa using f
 have aJ:cT n.keys key<n.keys.length:=(jV.1 (cl Y)).1;obtain⟨b6,aZ,bf,bq⟩:=bP (E.ext (A.trans (s.trans o)));refine⟨_,b6,K,aZ,V,bf,D,bq,(eZ (h.ext G) I I I hs.eL.1 hs.eL.2).use ?_⟩;rintro _ X ⟨p,g,aC,bY,cj,bO,rfl,j,H⟩;have aF:=G.trans H;have bb:=H.size;refine⟨n.leaf,p,g,aC,rfl,bc (vs:=[false,(),(),()]) rfl λbd Z L be=>⟨Z.b3 rfl ?_,rfl,cp Z (us:=[n.leaf,p,g,aC]) rfl rfl λt ab C bg=>?_⟩⟩
 .intro v ac
  simp only[de,fG,fQ]at ac;rcases ac with rfl|rfl|rfl|rfl<;>trivial
 obtain⟨aH,aI⟩:∃aH,aH=X.heap.size:=⟨_,rfl⟩;rw[←aI]at ab C⊢;obtain⟨lo,aL⟩:∃lo,lo=U.heap.size:=⟨_,rfl⟩;rw[←aL]at j;have aN:Ext w t:=Ext.cD (aF.trans L) C I;have aO:Var t w1.heap.size [false,(),(),()] 202:=((W.ext H).ext L).ah C I;have c:ij lo t aH n p g aC bY cj bO:=by
  have r:e7 lo t n p g aC bY cj bO:=(j.ext L).ah C λq _ _ a e=>by
   subst e;rcases a with a|a|a
   .have:=(j.bn _ a).2.1;omega
   .have:=(j.bv _ a).2.1;omega
   .have:=(j.aM _ a).2;omega
  refine⟨ab,r.keys,r.vals,r.kids,λq a=>?_,λq a=>?_,λq a=>?_,I⟩
  .have h1:=r.bn q a;have:=(j.bn q a).2.1;exact⟨h1.1,h1.2.1,I,h1.2.2⟩
  .have h1:=r.bv q a;have:=(j.bv q a).2.1;exact⟨h1.1,h1.2.1,I,h1.2.2⟩
  .have h1:=r.aM q a;have:=(j.aM q a).2;exact⟨h1.1,h1.2,I⟩
 have ag:∀k,aE p k->bY k:=λk d=>by obtain⟨ts,_,_,M,_⟩:=c.keys;exact(M k d).1
 have ak:∀k,aE g k->cj k:=λk d=>by obtain⟨ts,_,_,M,_⟩:=c.vals;exact(M k d).1
 obtain⟨d0,d1,d2,d3⟩:=bP c.v;have bh:=c.v.lt;rw[bB (n:=((cT n.keys key:Nat):Int)+1) I I];refine⟨p,d1,(CQ c.keys I aJ).use ?_⟩;rintro _ N ⟨S,rfl,aP,aQ⟩;have u:af (λq=>lo<=q/\bY q) t N:=aQ.mono λk _ d=>⟨(c.bn k (ag k d)).1,ag k d⟩;have al:=c.v.ah u λe=>(c.bn _ e.2).2.2.1 rfl;obtain⟨s1,s2⟩:=eP al (i:=1) (by simp);refine⟨S,rfl,?_⟩;rw[az,az];refine⟨s1,s2,aX ?_⟩;obtain⟨l,O⟩:∃l,l=N.setCell ⟨aH,0+1,none⟩ S:=⟨_,rfl⟩;rw[←O];have x:af (λq=>q=aH) N l:=by rw[O];exact ek _ _ _ _
 have am:Var l aH [n.leaf,S,g,aC] 202:=by rw[O];exact eO al _
 have aR:bx bY l S (n.keys.take (cT n.keys key)++n.keys.drop (cT n.keys key+1)):=bx.ah aP x λq a e=>(c.bn q a).2.2.1 e;have aS:bx cj l g n.vals:=bx.ah (bx.ah c.vals u λq a e=>(c.bn q e.2).2.2.2.1 a) x λq a e=>(c.bv q a).2.2.1 e;have aT:cX bO l aC n.kids:=cX.ah (cX.ah c.kids u λq a e=>(c.bn q e.2).2.2.2.2 a) x λq a e=>(c.aM q a).2.2 e;obtain⟨f0,f1,f2,f3⟩:=bP am;rw[az]at f2;refine⟨g,f2,(CQ aS I I).use ?_⟩;rintro _ P ⟨c_,rfl,aU,aV⟩;have y:af (λq=>lo<=q/\cj q) l P:=aV.mono λk _ d=>⟨(c.bv k (ak k d)).1,ak k d⟩;have ao:=am.ah y λe=>(c.bv _ e.2).2.2.1 rfl;obtain⟨s1,s2⟩:=eP ao (i:=2) (by simp);refine⟨c_,rfl,?_⟩;rw[az,az];refine⟨s1,s2,aX ?_⟩;obtain⟨m,R⟩:∃m,m=P.setCell ⟨aH,0+2,none⟩ c_:=⟨_,rfl⟩;rw[←R];have z:af (λq=>q=aH) P m:=by rw[R];exact ek _ _ _ _
 have aW:Var m aH [n.leaf,S,c_,aC] 202:=by rw[R];exact eO ao _
 obtain⟨te,aw,ax,a0⟩:=bP aW;have a1:bI (λq=>lo<=q) m (mc n key) S c_ aC:=by
  refine⟨?_,?_,?_⟩
  .exact bw.a7 (bx.iZ (bx.ah (bx.ah aR y λq a e=>(c.bn q a).2.2.2.1 e.2) z λq a e=>(c.bn q a).2.2.1 e)) λq _ a=>(c.bn q a).1
  .exact bw.a7 (bx.iZ (bx.ah aU z λq a e=>(c.bv q a).2.2.1 e)) λq _ a=>(c.bv q a).1
  .exact cZ.a7 (cX.q5 (cX.ah (cX.ah aT y λq a e=>(c.bv q e.2).2.2.2 a) z λq a e=>(c.aM q a).2.2 e)) λq _ a=>(c.aM q a).1
 have a2:Ext w m:=Ext.df (Ext.df (Ext.df (Ext.df aN u λk d=>I) x λk d=>I) y λk d=>I) z λk d=>by omega
 have a3:Var m w1.heap.size [false,(),(),()] 202:=
  (((aO.ah u (λe=>by have:=e.1;omega)).ah x I).ah y (λe=>by have:=e.1;omega)).ah z I
 refine⟨_,te,S,aw,c_,ax,aC,a0,jt n.leaf S c_ aC a3 rfl (Q:=λb K V D aj=>q_ n key w (.tuple #[.agg #[b,K,V,D],true]) aj) λbi ap=>?_⟩;unfold q_;rw[if_pos Y];exact⟨S,c_,aC,rfl,(a1.ah ap λq a e=>I).a7 λq _ a=>I,Ext.cD a2 ap I⟩
theorem zm{n:aG}(hs:cQ n)(m:Nat):((cellsOf n).take m).sum<=100*n.keys.length:=by
 have h1:((cellsOf n).take m).sum<=(cellsOf n).sum:=by
  have:=yW (cellsOf n) m;omega
 have h2:=y4 hs n.keys.length (bt _);rw[dr (by rw[q3 hs];exact bt _)]at h2;have a:=za hs n.keys.length (bt _);omega
theorem nL{B:Nat->Prop}{w:J}{n:aG}{K V D:ad}(h:bI B w n K V D)(hs:cQ n)(G:n.keys.length<=10000){most:Nat}(H:most<=n.keys.length):
 aK ai 300 #[c9 n K V D,most] w (λv w'=>v=.int .i64 ((gA (cellsOf n) most:Nat):Int)/\Ext w w'):=by
 refine okF (ae.nL n.leaf K V D (most:Int)) ay.nL func300 ?_;(delta ae.nL r1 aa an aY bK ar;dsimp only);refine bc (vs:=[n.leaf,K,V,D]) rfl λw1 o d _=>?_;obtain⟨b6,aZ,bf,bq⟩:=bP o;have L:=bw.len h.keys;have M:=q3 hs;have x:∀ (j:Nat) (f:j<(cellsOf n).length),(cellsOf n)[j]=(gS n j).length:=λj f=>by
  have h1:=y3 hs (i:=j) I;rw[dU f]at h1;exact Option.some.inj h1
 refine⟨K,aZ,λa i w'=>∃j:Nat,i=j/\j<=n.keys.length/\a=((((cellsOf n).take j).sum:Nat):Int)/\Ext w1 w',λ_ i _=>((n.keys.length:Int)-i).toNat,⟨0,rfl,cR _,by simp,.refl _ _⟩,?_⟩;rintro _ _ aj ⟨j,rfl,f,rfl,g⟩;obtain⟨d0,d1,d2,d3⟩:=bP (o.ext g);refine⟨λaJ=>?_,λb=>?_⟩
 .have aJ:j<n.keys.length:=by have:=cl aJ;omega
  refine⟨_,d0,K,d1,V,d2,D,d3,(nK (h.ext (d.trans g)) hs aJ I).use ?_⟩;rintro _ N ⟨s,rfl,p,A,_⟩;have q:=mb p;have C:=zm hs j;have hc:=wZ hs aJ;have e:=qZ (l:=cellsOf n) (i:=j) I;rw[x j I]at e;refine⟨s,rfl,?_⟩;rw[q,bB (n:=((((cellsOf n).take j).sum:Nat):Int)+(((gS n j).length:Nat):Int)) I I,bB (n:=(j:Int)+1) I I];refine⟨⟨j+1,I,I,I,g.trans A⟩,?_⟩;show((n.keys.length:Int)-((j:Int)+1)).toNat<((n.keys.length:Int)-(j:Int)).toNat;omega
 have b:j=n.keys.length:=by have:=cw b;omega
 subst b;rw[dr (l:=cellsOf n) I];refine⟨λa i w'=>∃j:Nat,i=j/\j<=most/\a=((((cellsOf n).take j).sum:Nat):Int)/\Ext w1 w'/\∀k,k<j->2*((cellsOf n).take (k+1)).sum<(cellsOf n).sum,λ_ i _=>((most:Int)-i).toNat,⟨0,rfl,cR _,by simp,g,λk E=>I⟩,?_⟩;rintro _ _ O ⟨j,rfl,f,rfl,c,r⟩;obtain⟨d0,d1,d2,d3⟩:=bP (o.ext c);have F:=zm hs (cellsOf n).length;rw[h4]at F;refine⟨λaJ=>?_,λb=>?_⟩
 .have aJ:j<most:=by have:=cl aJ;omega
  refine⟨_,d0,K,d1,V,d2,D,d3,(nK (h.ext (d.trans c)) hs I I).use ?_⟩;rintro _ P ⟨s,rfl,p,y,_⟩;have q:=mb p;have C:=zm hs j;have hc:=wZ hs (i:=j) I;have e:=qZ (l:=cellsOf n) (i:=j) I;rw[x j I]at e;refine⟨s,rfl,?_⟩;rw[q,bB (n:=((((cellsOf n).take j).sum:Nat):Int)+(((gS n j).length:Nat):Int)) I I,bB (n:=2*(((((cellsOf n).take j).sum:Nat):Int)+(((gS n j).length:Nat):Int))) I I,bB (n:=(j:Int)+1) I I];refine⟨λhd=>⟨?_,d.trans (c.trans y)⟩,λhd=>⟨⟨j+1,I,I,I,c.trans y,λk E=>?_⟩,?_⟩⟩
  .have hd:=cl hd
   have t:(List.range most).find? (λi=>decide ((cellsOf n).sum<=2*((cellsOf n).take (i+1)).sum))=some j:=by
    have:=fP aJ (bt most);rw[List.find?_eq_some_iff_append];refine⟨dD I,List.range j,List.range' (j+1) (most-(j+1)),?_,λa u=>?_⟩
    .have z:=List.range'_append (s:=0) (m:=j) (n:=most-(j+1)+1) (step:=1)
     rw[tK,tK,←List.range'_succ];rw[Nat.one_mul,cF]at z;rw[z]
     congr 1
     omega
    .have:=r a (kj.1 u)
     simp;omega
   unfold gA;rw[t];rfl
  .have hd:=cw hd
   rcases eu k j with h1|h1
   .exact r k h1
   .have:k=j:=by omega
    subst this;omega
  .show((most:Int)-((j:Int)+1)).toNat<((most:Int)-(j:Int)).toNat
   omega
 .have b:j=most:=by have:=cw b;omega
  subst b;refine⟨?_,d.trans c⟩;have t:(List.range j).find? (λi=>decide ((cellsOf n).sum<=2*((cellsOf n).take (i+1)).sum))=none:=by
   rw[jZ];intro a u;have:=r a (kj.1 u);simp;omega
  unfold gA;rw[t]
theorem bw.sub{B:Nat->Prop}{w:J}{s:ad}{ls:O Key}{lo hi:Nat}(h:bw B w s ls)(h1:lo<=hi)(h2:hi<=ls.length):bw B w ⟨aO s.a 1 lo s.cap,hi-lo,s.cap-lo⟩ ((ls.drop lo).take (hi-lo)):=by
 have l:=bw.len h;obtain⟨ts,aw,ax,b,c,d⟩:=h;refine⟨(ts.drop lo).take (hi-lo),by simp[aw],?_,by show hi-lo<=s.cap-lo;omega,λk e=>?_,λi f g=>?_⟩
 .have:=Src.sub ax b h1 I
  simpa[mu,mv] using this
 .obtain⟨A,aq,j⟩:=w3 e
  exact c k ⟨A,aq,j⟩
 .simp only[ou,tU]
  rw[cz,dw]at f g;exact d (lo+i) I I
theorem bw.le{B:Nat->Prop}{w:J}{s:ad}{ls:O Key}(h:bw B w s ls):s.len<=s.cap:=by
 obtain⟨ts,_,_,a,_⟩:=h;exact a
theorem cZ.sub{B:Nat->Prop}{w:J}{s:ad}{ds:O Nat}{lo hi:Nat}(h:cZ B w s ds)(h1:lo<=hi)(h2:hi<=ds.length):cZ B w ⟨aO s.a 1 lo s.cap,hi-lo,s.cap-lo⟩ ((ds.drop lo).take (hi-lo)):=by
 have f:=cZ.len h;obtain⟨ax,b,c⟩:=h;have g:s.len<=s.cap:=b;refine⟨?_,by show hi-lo<=s.cap-lo;omega,λk d=>?_⟩
 .have:=Src.sub ax b h1 I
  simpa[gl,mu,mv] using this
 .obtain⟨A,aq,e⟩:=w3 d
  exact c k ⟨A,aq,e⟩
theorem fS(b:al)(K V D:ad):∀v∈([b,K,V,D]:O Y),Plain v:=by
 intro v a;simp only[de,fG,fQ]at a;rcases a with rfl|rfl|rfl|rfl<;>trivial
theorem ra{c:J}{r1 aF:Nat}{zn zo:O Y}{cr bX:al}{dn dI br cL cV cx:ad}(h1:Var c r1 zn 202)(h2:Var c aF zo 202)(iS:zn.length=4)(n:zo.length=4)(o:r1≠aF){W:Nat->Prop}(cK:∀q,q=r1->W q)
 {Q:al->ad->ad->ad->al->ad->ad->ad->J->Prop} (u:∀b,af (λq=>q=r1\/q=aF) c b->Q cr dn dI br bX cL cV cx b):
 bk c r1 [cr,dn,dI,br]/\(4:Nat)=4/\ak (setCells c r1 0 [cr,dn,dI,br]) λd=>
  af W c d/\bk d aF [bX,cL,cV,cx]/\(4:Nat)=4/\ak (setCells d aF 0 [bX,cL,cV,cx]) λb=>
  ∃p:al,b.cell? r1=some (.bool p)/\∃f:ad,b.cell? (Addr.add r1 1)=some (.slice f.a f.len f.cap)/\∃g:ad,b.cell? (Addr.add r1 2)=some (.slice g.a g.len g.cap)/\∃i:ad,b.cell? (Addr.add r1 3)=some (.slice i.a i.len i.cap)/\
  ∃r:al,b.cell? aF=some (.bool r)/\∃j:ad,b.cell? (Addr.add aF 1)=some (.slice j.a j.len j.cap)/\∃k:ad,b.cell? (Addr.add aF 2)=some (.slice k.a k.len k.cap)/\∃l:ad,b.cell? (Addr.add aF 3)=some (.slice l.a l.len l.cap)/\Q p f g i r j k l b:=by
 refine⟨h1.b3 (by rw[iS];rfl) (fS _ _ _ _),rfl,cp h1 (us:=[cr,dn,dI,br]) (by rw[iS];rfl) rfl λd v m _=>?_⟩;have s:=h2.ah m (λe=>o e.symm);refine⟨m.mono λq _ h=>cK q h,s.b3 (by rw[n];rfl) (fS _ _ _ _),rfl,cp s (us:=[bX,cL,cV,cx]) (by rw[n];rfl) rfl λb w t _=>?_⟩;obtain⟨b6,aZ,bf,bq⟩:=bP (v.ah t o);obtain⟨d0,d1,d2,d3⟩:=bP w;exact⟨cr,b6,dn,aZ,dI,bf,br,bq,bX,d0,cL,d1,cV,d2,cx,d3,u b ((m.mono λq _ h=>.inl h).trans (t.mono λq _ h=>.inr h))⟩
def pG(n:aG)(w:J)(v:Y)(w':J):Prop:=
 ∃ (dn dI br cL cV cx t:ad),v=.tuple #[c9 (n.left (ct n)) dn dI br,t,c9 (n.right (ct n)) cL cV cx,true]/\
  bI (λq=>w.heap.size<=q) w' (n.left (ct n)) dn dI br/\bI (λq=>w.heap.size<=q) w' (n.right (ct n)) cL cV cx/\bA (λq=>w.heap.size<=q) w' t (n.keys.getD (ct n) [])/\Ext w w'
theorem qQ{B:Nat->Prop}{w:J}{n:aG}{K V D:ad}(h:bI B w n K V D)(hs:cQ n)(bi:n.keys.length<=10000)(dR:1<=ct n)
 (L:if n.leaf then ct n<=n.keys.length-1/\1<=n.keys.length-1 else ct n<=n.keys.length-2/\1<=n.keys.length-2):
 aK ai 299 #[c9 n K V D] w (pG n w):=by
 have b4:n.vals.length<=10000:=by
  rcases hs with hs|hs
  .rw[hs.len];omega
  .rw[hs.vals];simp
 have b5:n.kids.length<=10001:=by
  rcases hs with hs|hs
  .rw[hs.kids];simp
  .rw[hs.len];omega
 have E:∀k∈n.keys,k.length<=100000:=λk l=>by have:=(hs.keys.ok k l).2;omega
 have ao:∀k∈n.vals,k.length<=100000:=λk l=>by have:=hs.vals k l;omega
 have b7:=bw.len h.keys;obtain⟨most,ap⟩:∃most,most=if n.leaf then n.keys.length-1 else n.keys.length-2:=⟨_,rfl⟩
 have aP:1<=most/\most<=n.keys.length/\ct n<=most:=by
  rw[ap]
  cases p:n.leaf<;>rw[p]at L<;>simp at L⊢<;>omega
 have O:ct n<n.keys.length:=by
  cases p:n.leaf<;>rw[p]at L<;>simp at L<;>omega
 refine okF (ae.qQ n.leaf K V D) ay.qQ func299 ?_;(delta ae.qQ cU r1 aa aY an ar b8 gK bS aM bK kx;dsimp only);refine bc (vs:=[n.leaf,K,V,D]) rfl λw1 bo bQ b9=>?_;refine bc (vs:=[false,(),(),()]) rfl λaj bR bj b_=>?_;refine bc (vs:=[false,(),(),()]) rfl λbT bU bg ca=>?_;have bp:=bQ.trans (bj.trans bg);obtain⟨b6,aZ,bf,bq⟩:=bP ((bo.ext bj).ext bg);refine⟨K,aZ,cq (λm w'=>m=(most:Int)/\bT=w') (λq f=>⟨n.leaf,b6,λam=>f _ _ ⟨?_,rfl⟩,λam=>f _ _ ⟨?_,rfl⟩⟩) ?_⟩
 .have am:n.leaf=false:=by simpa using am
  rw[am]at L ap;simp at L ap;rw[bB (n:=(K.len:Int)-1) I I,bB I I];omega
 .have am:n.leaf=true:=by simpa using am
  rw[am]at L ap;simp at L ap;rw[bB I I];omega
 rintro _ _ ⟨rfl,rfl⟩;refine⟨_,b6,K,aZ,V,bf,D,bq,(kz (h.ext bp) I I I).use ?_⟩;rintro _ y ⟨b,rfl,am,aQ⟩;have bV:=am.2 hs;subst bV;have aR:=cE y;have au:=bp.trans (aQ.trans aR);have bh:=((bo.ext bj).ext bg).ext (aQ.trans aR);have bk:=(bR.ext bg).ext (aQ.trans aR);have bl:=bU.ext (aQ.trans aR);have cb:=(aQ.trans aR).size;obtain⟨b6,aZ,bf,bq⟩:=bP bh;refine⟨true,rfl,λh=>?_,λ_=>aX ⟨λ_=>False,id,_,b6,K,aZ,V,bf,D,bq,id,_,b6,K,aZ,V,bf,D,bq,⟨?_,?_⟩⟩⟩
 .simp only[Bool.not_true,lk]at h
  have:=cl h;omega
 .refine(eZ (h.ext au) I I I E ao).use ?_
  rintro _ bs ⟨c,d,aC,bY,cj,bO,rfl,av,P⟩;refine⟨n.leaf,c,d,aC,rfl,P,⟨?_,?_⟩⟩
  .refine(nL (h.ext (au.trans P)) hs bi (most:=most) aP.2.1).use ?_
   rintro _ bm ⟨rfl,G⟩;refine⟨_,rfl,G,bc (vs:=[false,(),(),()]) rfl λbt aw H bu=>⟨H,aw.b3 rfl (fS _ _ _ _),rfl,cp aw (us:=[n.leaf,c,d,aC]) rfl rfl λF ax C bz=>?_⟩⟩;have bW:=P.size;have bZ:=G.size;obtain⟨aH,aS⟩:∃aH,aH=bm.heap.size:=⟨_,rfl⟩;rw[←aS]at ax C⊢;have M:=P.trans (G.trans H);have R:e7 y.heap.size F n c d aC bY cj bO:=(av.ext (G.trans H)).ah C λq _ _ f e=>by
    subst e;rcases f with f|f|f
    .have:=(av.bn _ f).2.1;omega
    .have:=(av.bv _ f).2.1;omega
    .have:=(av.aM _ f).2;omega
   have bC:y.drew.heap.size=y.heap.size:=rfl;have N:Ext w F:=Ext.cD (au.trans M) C I;have aA:=(bh.ext M).ah C I;have aB:=(bk.ext M).ah C I;have aD:=(bl.ext M).ah C I;have aT:gA (cellsOf n) most=ct n:=by unfold ct;rw[ap]
   rw[aT];obtain⟨i,hi⟩:∃i,i=ct n:=⟨_,rfl⟩;rw[←hi]at O aP dR;rw[←hi];obtain⟨aF,aI,aU,aV⟩:=bP aA;obtain⟨A,t,aq,aW,hc,ht,_⟩:=bw.at (h.ext N).keys O;refine⟨K,aI,A,aq,aW,t,hc,(kZ (B:=λq=>w.heap.size<=q) ht.1 (by have:=E _ (cW O);omega) (λq f=>eC N.size f)).use ?_⟩;rintro _ r ⟨tk,rfl,aJ,S,aL⟩;have T:=cE r;obtain⟨aF,aI,aU,aV⟩:=bP (aA.ext S);have s:=S.trans T;obtain⟨f0,f1,f2,f3⟩:=bP (ax.ext s);have o:=R.at.ext s;have bD:=bw.len o.keys;have bE:=bw.len o.vals;have bF:=cZ.len o.kids;have bH:=bw.le (bx.iZ R.keys);have bJ:=bw.le (bx.iZ R.vals);have bL:aC.len<=aC.cap:=o.kids.2.1;have bM:F.heap.size<=r.heap.size:=S.size;have aN:n.keys.getD i []=n.keys[i]:=fu O;refine⟨tk,rfl,n.leaf,aF,λp=>aX ⟨λq=>q=w1.heap.size,λe=>?_,c,f1,⟨I,I⟩,λe=>?_,d,f2,⟨I,?_⟩,#[true,.slice (aO c.a 1 0 c.cap) i c.cap,.slice (aO d.a 1 0 d.cap) i d.cap,()],(λw=>by kernel_rfl),λe=>?_,c,f1,⟨I,I⟩,λe=>?_,d,f2,⟨I,?_⟩,#[true,.slice (aO c.a 1 i c.cap) (c.len-i) (c.cap-i),.slice (aO d.a 1 i d.cap) (d.len-i) (d.cap-i),()],(λw=>by kernel_rfl),?_⟩,λp=>?_⟩
   .rw[az]at e;have e:aH=w1.heap.size:=e;omega
   .rw[az]at e;have e:aH=w1.heap.size:=e;omega
   .have:=hs.lL p;omega
   .rw[az]at e;have e:aH=w1.heap.size:=e;omega
   .rw[az]at e;have e:aH=w1.heap.size:=e;omega
   .have:=hs.lL p;omega
   .have a0:=hs.lL p
    have g:n.left i=⟨true,n.keys.take i,n.vals.take i,[]⟩:=by unfold aG.left;rw[p];rfl
    have j:n.right i=⟨true,n.keys.drop i,n.vals.drop i,[]⟩:=by unfold aG.right;rw[p];rfl
    have U:bI (λq=>y.heap.size<=q) r.drew (n.left i) ⟨aO c.a 1 0 c.cap,i,c.cap⟩ ⟨aO d.a 1 0 d.cap,i,d.cap⟩ bG:=by
     rw[g];refine⟨?_,?_,cZ.none _ _⟩
     .have:=bw.sub o.keys (lo:=0) (hi:=i) I I
      simpa using this
     .have:=bw.sub o.vals (lo:=0) (hi:=i) I I
      simpa using this
    have W:bI (λq=>y.heap.size<=q) r.drew (n.right i) ⟨aO c.a 1 i c.cap,c.len-i,c.cap-i⟩ ⟨aO d.a 1 i d.cap,d.len-i,d.cap-i⟩ bG:=by
     rw[j];refine⟨?_,?_,cZ.none _ _⟩
     .have:=bw.sub o.keys (lo:=i) (hi:=c.len) I I
      rwa[dr (by rw[dw];omega)]at this
     .have:=bw.sub o.vals (lo:=i) (hi:=d.len) I I
      rwa[dr (by rw[dw];omega)]at this
    have X:=eZ U (by rw[g];show(n.keys.take i).length<=_;rw[cz];omega) (by rw[g];show(n.vals.take i).length<=_;rw[cz];omega) (by rw[g];simp) (by rw[g];exact λk l=>E k (eY l)) (by rw[g];exact λk l=>ao k (eY l));have Z:(.agg #[true,.slice (aO c.a 1 0 c.cap) i c.cap,.slice (aO d.a 1 0 d.cap) i d.cap,()]:Y)=c9 (n.left i) ⟨aO c.a 1 0 c.cap,i,c.cap⟩ ⟨aO d.a 1 0 d.cap,i,d.cap⟩ bG:=by rw[g];rfl
    have ab:(.agg #[true,.slice (aO c.a 1 i c.cap) (c.len-i) (c.cap-i),.slice (aO d.a 1 i d.cap) (d.len-i) (d.cap-i),()]:Y)=c9 (n.right i) ⟨aO c.a 1 i c.cap,c.len-i,c.cap-i⟩ ⟨aO d.a 1 i d.cap,d.len-i,d.cap-i⟩ bG:=by rw[j];rfl
    rw[Z,ab];refine X.use ?_;rintro _ a1 ⟨dn,dI,br,a2,a3,a4,rfl,ac,u⟩;have ag:=eZ (W.ext u) (by rw[j];show(n.keys.drop i).length<=_;rw[dw];omega) (by rw[j];show(n.vals.drop i).length<=_;rw[dw];omega) (by rw[j];simp) (by rw[j];exact λk l=>E k (e6 l)) (by rw[j];exact λk l=>ao k (e6 l));refine⟨_,dn,dI,br,rfl,af.cN u,ag.use ?_⟩;rintro _ a5 ⟨cL,cV,cx,a6,a8,a9,rfl,ak,z⟩;have v:=u.trans z;have a_:=u.size;have ba:=s.size;refine⟨_,cL,cV,cx,rfl,af.cN z,ra (cr:=(n.left i).leaf) (bX:=(n.right i).leaf) (dn:=dn) (dI:=dI) (br:=br) (cL:=cL) (cV:=cV) (cx:=cx) ((aB.ext s).ext v) ((aD.ext s).ext v) rfl rfl I (λq f=>f) (Q:=λcr dn dI br bX cL cV cx w'=>pG n w (.tuple #[.agg #[cr,dn,dI,br],tk,.agg #[bX,cL,cV,cx],true]) w') λbb x=>?_⟩;have bd:r.drew.heap.size=r.heap.size:=rfl;refine⟨dn,dI,br,cL,cV,cx,tk,by rw[←hi];rfl,?_,?_,?_,?_⟩
    .rw[←hi];exact((ac.at.ext z).ah x λq f e=>I).a7 λq _ f=>by omega
    .rw[←hi];exact(ak.at.ah x λq f e=>I).a7 λq _ f=>by omega
    .rw[←hi,aN]
     have al:∀q,aE tk q->F.heap.size<=q:=aL;exact bA.jr (bA.ext (bA.ext aJ T) v) x λq f e=>by have:=al q f;omega
    .exact Ext.df (N.trans (s.trans v)) x λq f=>by omega
   .have a0:=hs.q7 p
    have bN:i<=n.keys.length-2/\1<=n.keys.length-2:=by rw[p,←hi]at L;simpa using L
    have be:IntKind.wrap .i64 ((i:Int)+1)=((i+1:Nat):Int):=by rw[bB I I];rfl
    rw[be];refine aX ⟨λq=>q=w1.heap.size,λe=>?_,c,f1,⟨I,I⟩,λe=>?_,aC,f3,⟨I,I⟩,#[false,.slice (aO c.a 1 0 c.cap) i c.cap,(),.slice (aO aC.a 1 0 aC.cap) (i+1) aC.cap],(λw=>by kernel_rfl),λe=>?_,c,f1,⟨I,I⟩,λe=>?_,aC,f3,⟨I,I⟩,#[false,.slice (aO c.a 1 (i+1) c.cap) (c.len-(i+1)) (c.cap-(i+1)),(),.slice (aO aC.a 1 (i+1) aC.cap) (aC.len-(i+1)) (aC.cap-(i+1))],(λw=>by kernel_rfl),?_⟩
    .rw[az]at e;have e:aH=w1.heap.size:=e;omega
    .rw[az]at e;have e:aH=w1.heap.size:=e;omega
    .rw[az]at e;have e:aH=w1.heap.size:=e;omega
    .rw[az]at e;have e:aH=w1.heap.size:=e;omega
    have g:n.left i=⟨false,n.keys.take i,[],n.kids.take (i+1)⟩:=by unfold aG.left;rw[p];rfl
    have j:n.right i=⟨false,n.keys.drop (i+1),[],n.kids.drop (i+1)⟩:=by unfold aG.right;rw[p];rfl
    have U:bI (λq=>y.heap.size<=q) r.drew (n.left i) ⟨aO c.a 1 0 c.cap,i,c.cap⟩ bG ⟨aO aC.a 1 0 aC.cap,i+1,aC.cap⟩:=by
     rw[g];refine⟨?_,bw.none _ _,?_⟩
     .have:=bw.sub o.keys (lo:=0) (hi:=i) I I
      simpa using this
     .have:=cZ.sub o.kids (lo:=0) (hi:=i+1) I I
      simpa using this
    have W:bI (λq=>y.heap.size<=q) r.drew (n.right i) ⟨aO c.a 1 (i+1) c.cap,c.len-(i+1),c.cap-(i+1)⟩ bG ⟨aO aC.a 1 (i+1) aC.cap,aC.len-(i+1),aC.cap-(i+1)⟩:=by
     rw[j];refine⟨?_,bw.none _ _,?_⟩
     .have:=bw.sub o.keys (lo:=i+1) (hi:=c.len) I I
      rwa[dr (by rw[dw];omega)]at this
     .have:=cZ.sub o.kids (lo:=i+1) (hi:=aC.len) I I
      rwa[dr (by rw[dw];omega)]at this
    have X:=eZ U (by rw[g];show(n.keys.take i).length<=_;rw[cz];omega) (by rw[g];simp) (by rw[g];show(n.kids.take (i+1)).length<=_;rw[cz];omega) (by rw[g];exact λk l=>E k (eY l)) (by rw[g];simp);have Z:(.agg #[false,.slice (aO c.a 1 0 c.cap) i c.cap,(),.slice (aO aC.a 1 0 aC.cap) (i+1) aC.cap]:Y)=c9 (n.left i) ⟨aO c.a 1 0 c.cap,i,c.cap⟩ bG ⟨aO aC.a 1 0 aC.cap,i+1,aC.cap⟩:=by rw[g];rfl
    have ab:(.agg #[false,.slice (aO c.a 1 (i+1) c.cap) (c.len-(i+1)) (c.cap-(i+1)),(),.slice (aO aC.a 1 (i+1) aC.cap) (aC.len-(i+1)) (aC.cap-(i+1))]:Y)=c9 (n.right i) ⟨aO c.a 1 (i+1) c.cap,c.len-(i+1),c.cap-(i+1)⟩ bG ⟨aO aC.a 1 (i+1) aC.cap,aC.len-(i+1),aC.cap-(i+1)⟩:=by rw[j];rfl
    rw[Z,ab];refine X.use ?_;rintro _ a1 ⟨dn,dI,br,a2,a3,a4,rfl,ac,u⟩;have ag:=eZ (W.ext u) (by rw[j];show(n.keys.drop (i+1)).length<=_;rw[dw];omega) (by rw[j];simp) (by rw[j];show(n.kids.drop (i+1)).length<=_;rw[dw];omega) (by rw[j];exact λk l=>E k (e6 l)) (by rw[j];simp);refine⟨_,dn,dI,br,rfl,af.cN u,ag.use ?_⟩;rintro _ a5 ⟨cL,cV,cx,a6,a8,a9,rfl,ak,z⟩;have v:=u.trans z;have a_:=u.size;have ba:=s.size;refine⟨_,cL,cV,cx,rfl,af.cN z,ra (cr:=(n.left i).leaf) (bX:=(n.right i).leaf) (dn:=dn) (dI:=dI) (br:=br) (cL:=cL) (cV:=cV) (cx:=cx) ((aB.ext s).ext v) ((aD.ext s).ext v) rfl rfl I (λq f=>f) (Q:=λcr dn dI br bX cL cV cx w'=>pG n w (.tuple #[.agg #[cr,dn,dI,br],tk,.agg #[bX,cL,cV,cx],true]) w') λbb x=>?_⟩;have bd:r.drew.heap.size=r.heap.size:=rfl;refine⟨dn,dI,br,cL,cV,cx,tk,by rw[←hi];rfl,?_,?_,?_,?_⟩
    .rw[←hi];exact((ac.at.ext z).ah x λq f e=>I).a7 λq _ f=>by omega
    .rw[←hi];exact(ak.at.ah x λq f e=>I).a7 λq _ f=>by omega
    .rw[←hi,aN]
     have al:∀q,aE tk q->F.heap.size<=q:=aL;exact bA.jr (bA.ext (bA.ext aJ T) v) x λq f e=>by have:=al q f;omega
    .exact Ext.df (N.trans (s.trans v)) x λq f=>by omega
  .refine bc (vs:=[false,(),(),()]) rfl λbm b0 G cc=>⟨G,?_⟩
   refine(nL (h.ext (au.trans (P.trans G))) hs bi (most:=most) aP.2.1).use ?_;rintro _ bt ⟨rfl,H⟩;have aw:=b0.ext H;refine⟨_,rfl,H,aw.b3 rfl (fS _ _ _ _),rfl,cp aw (us:=[n.leaf,c,d,aC]) rfl rfl λF ax C bz=>?_⟩;have bW:=P.size;have bu:=H.size;obtain⟨aH,aS⟩:∃aH,aH=bs.heap.size:=⟨_,rfl⟩;rw[←aS]at ax C⊢;have M:=P.trans (G.trans H);have R:e7 y.heap.size F n c d aC bY cj bO:=(av.ext (G.trans H)).ah C λq _ _ f e=>by
    subst e;rcases f with f|f|f
    .have:=(av.bn _ f).2.1;omega
    .have:=(av.bv _ f).2.1;omega
    .have:=(av.aM _ f).2;omega
   have bC:y.drew.heap.size=y.heap.size:=rfl;have N:Ext w F:=Ext.cD (au.trans M) C I;have aA:=(bh.ext M).ah C I;have aB:=(bk.ext M).ah C I;have aD:=(bl.ext M).ah C I;have aT:gA (cellsOf n) most=ct n:=by unfold ct;rw[ap]
   rw[aT];obtain⟨i,hi⟩:∃i,i=ct n:=⟨_,rfl⟩;rw[←hi]at O aP dR;rw[←hi];obtain⟨aF,aI,aU,aV⟩:=bP aA;obtain⟨A,t,aq,aW,hc,ht,_⟩:=bw.at (h.ext N).keys O;refine⟨K,aI,A,aq,aW,t,hc,(kZ (B:=λq=>w.heap.size<=q) ht.1 (by have:=E _ (cW O);omega) (λq f=>eC N.size f)).use ?_⟩;rintro _ r ⟨tk,rfl,aJ,S,aL⟩;have T:=cE r;obtain⟨aF,aI,aU,aV⟩:=bP (aA.ext S);have s:=S.trans T;obtain⟨f0,f1,f2,f3⟩:=bP (ax.ext s);have o:=R.at.ext s;have bD:=bw.len o.keys;have bE:=bw.len o.vals;have bF:=cZ.len o.kids;have bH:=bw.le (bx.iZ R.keys);have bJ:=bw.le (bx.iZ R.vals);have bL:aC.len<=aC.cap:=o.kids.2.1;have bM:F.heap.size<=r.heap.size:=S.size;have aN:n.keys.getD i []=n.keys[i]:=fu O;refine⟨tk,rfl,n.leaf,aF,λp=>aX ⟨λq=>q=w1.heap.size,λe=>?_,c,f1,⟨I,I⟩,λe=>?_,d,f2,⟨I,?_⟩,#[true,.slice (aO c.a 1 0 c.cap) i c.cap,.slice (aO d.a 1 0 d.cap) i d.cap,()],(λw=>by kernel_rfl),λe=>?_,c,f1,⟨I,I⟩,λe=>?_,d,f2,⟨I,?_⟩,#[true,.slice (aO c.a 1 i c.cap) (c.len-i) (c.cap-i),.slice (aO d.a 1 i d.cap) (d.len-i) (d.cap-i),()],(λw=>by kernel_rfl),?_⟩,λp=>?_⟩
   .rw[az]at e;have e:aH=w1.heap.size:=e;omega
   .rw[az]at e;have e:aH=w1.heap.size:=e;omega
   .have:=hs.lL p;omega
   .rw[az]at e;have e:aH=w1.heap.size:=e;omega
   .rw[az]at e;have e:aH=w1.heap.size:=e;omega
   .have:=hs.lL p;omega
   .have a0:=hs.lL p
    have g:n.left i=⟨true,n.keys.take i,n.vals.take i,[]⟩:=by unfold aG.left;rw[p];rfl
    have j:n.right i=⟨true,n.keys.drop i,n.vals.drop i,[]⟩:=by unfold aG.right;rw[p];rfl
    have U:bI (λq=>y.heap.size<=q) r.drew (n.left i) ⟨aO c.a 1 0 c.cap,i,c.cap⟩ ⟨aO d.a 1 0 d.cap,i,d.cap⟩ bG:=by
     rw[g];refine⟨?_,?_,cZ.none _ _⟩
     .have:=bw.sub o.keys (lo:=0) (hi:=i) I I
      simpa using this
     .have:=bw.sub o.vals (lo:=0) (hi:=i) I I
      simpa using this
    have W:bI (λq=>y.heap.size<=q) r.drew (n.right i) ⟨aO c.a 1 i c.cap,c.len-i,c.cap-i⟩ ⟨aO d.a 1 i d.cap,d.len-i,d.cap-i⟩ bG:=by
     rw[j];refine⟨?_,?_,cZ.none _ _⟩
     .have:=bw.sub o.keys (lo:=i) (hi:=c.len) I I
      rwa[dr (by rw[dw];omega)]at this
     .have:=bw.sub o.vals (lo:=i) (hi:=d.len) I I
      rwa[dr (by rw[dw];omega)]at this
    have X:=eZ U (by rw[g];show(n.keys.take i).length<=_;rw[cz];omega) (by rw[g];show(n.vals.take i).length<=_;rw[cz];omega) (by rw[g];simp) (by rw[g];exact λk l=>E k (eY l)) (by rw[g];exact λk l=>ao k (eY l));have Z:(.agg #[true,.slice (aO c.a 1 0 c.cap) i c.cap,.slice (aO d.a 1 0 d.cap) i d.cap,()]:Y)=c9 (n.left i) ⟨aO c.a 1 0 c.cap,i,c.cap⟩ ⟨aO d.a 1 0 d.cap,i,d.cap⟩ bG:=by rw[g];rfl
    have ab:(.agg #[true,.slice (aO c.a 1 i c.cap) (c.len-i) (c.cap-i),.slice (aO d.a 1 i d.cap) (d.len-i) (d.cap-i),()]:Y)=c9 (n.right i) ⟨aO c.a 1 i c.cap,c.len-i,c.cap-i⟩ ⟨aO d.a 1 i d.cap,d.len-i,d.cap-i⟩ bG:=by rw[j];rfl
    rw[Z,ab];refine X.use ?_;rintro _ a1 ⟨dn,dI,br,a2,a3,a4,rfl,ac,u⟩;have ag:=eZ (W.ext u) (by rw[j];show(n.keys.drop i).length<=_;rw[dw];omega) (by rw[j];show(n.vals.drop i).length<=_;rw[dw];omega) (by rw[j];simp) (by rw[j];exact λk l=>E k (e6 l)) (by rw[j];exact λk l=>ao k (e6 l));refine⟨_,dn,dI,br,rfl,af.cN u,ag.use ?_⟩;rintro _ a5 ⟨cL,cV,cx,a6,a8,a9,rfl,ak,z⟩;have v:=u.trans z;have a_:=u.size;have ba:=s.size;refine⟨_,cL,cV,cx,rfl,af.cN z,ra (cr:=(n.left i).leaf) (bX:=(n.right i).leaf) (dn:=dn) (dI:=dI) (br:=br) (cL:=cL) (cV:=cV) (cx:=cx) ((aB.ext s).ext v) ((aD.ext s).ext v) rfl rfl I (λq f=>f) (Q:=λcr dn dI br bX cL cV cx w'=>pG n w (.tuple #[.agg #[cr,dn,dI,br],tk,.agg #[bX,cL,cV,cx],true]) w') λbb x=>?_⟩;have bd:r.drew.heap.size=r.heap.size:=rfl;refine⟨dn,dI,br,cL,cV,cx,tk,by rw[←hi];rfl,?_,?_,?_,?_⟩
    .rw[←hi];exact((ac.at.ext z).ah x λq f e=>I).a7 λq _ f=>by omega
    .rw[←hi];exact(ak.at.ah x λq f e=>I).a7 λq _ f=>by omega
    .rw[←hi,aN]
     have al:∀q,aE tk q->F.heap.size<=q:=aL;exact bA.jr (bA.ext (bA.ext aJ T) v) x λq f e=>by have:=al q f;omega
    .exact Ext.df (N.trans (s.trans v)) x λq f=>by omega
   .have a0:=hs.q7 p
    have bN:i<=n.keys.length-2/\1<=n.keys.length-2:=by rw[p,←hi]at L;simpa using L
    have be:IntKind.wrap .i64 ((i:Int)+1)=((i+1:Nat):Int):=by rw[bB I I];rfl
    rw[be];refine aX ⟨λq=>q=w1.heap.size,λe=>?_,c,f1,⟨I,I⟩,λe=>?_,aC,f3,⟨I,I⟩,#[false,.slice (aO c.a 1 0 c.cap) i c.cap,(),.slice (aO aC.a 1 0 aC.cap) (i+1) aC.cap],(λw=>by kernel_rfl),λe=>?_,c,f1,⟨I,I⟩,λe=>?_,aC,f3,⟨I,I⟩,#[false,.slice (aO c.a 1 (i+1) c.cap) (c.len-(i+1)) (c.cap-(i+1)),(),.slice (aO aC.a 1 (i+1) aC.cap) (aC.len-(i+1)) (aC.cap-(i+1))],(λw=>by kernel_rfl),?_⟩
    .rw[az]at e;have e:aH=w1.heap.size:=e;omega
    .rw[az]at e;have e:aH=w1.heap.size:=e;omega
    .rw[az]at e;have e:aH=w1.heap.size:=e;omega
    .rw[az]at e;have e:aH=w1.heap.size:=e;omega
    have g:n.left i=⟨false,n.keys.take i,[],n.kids.take (i+1)⟩:=by unfold aG.left;rw[p];rfl
    have j:n.right i=⟨false,n.keys.drop (i+1),[],n.kids.drop (i+1)⟩:=by unfold aG.right;rw[p];rfl
    have U:bI (λq=>y.heap.size<=q) r.drew (n.left i) ⟨aO c.a 1 0 c.cap,i,c.cap⟩ bG ⟨aO aC.a 1 0 aC.cap,i+1,aC.cap⟩:=by
     rw[g];refine⟨?_,bw.none _ _,?_⟩
     .have:=bw.sub o.keys (lo:=0) (hi:=i) I I
      simpa using this
     .have:=cZ.sub o.kids (lo:=0) (hi:=i+1) I I
      simpa using this
    have W:bI (λq=>y.heap.size<=q) r.drew (n.right i) ⟨aO c.a 1 (i+1) c.cap,c.len-(i+1),c.cap-(i+1)⟩ bG ⟨aO aC.a 1 (i+1) aC.cap,aC.len-(i+1),aC.cap-(i+1)⟩:=by
     rw[j];refine⟨?_,bw.none _ _,?_⟩
     .have:=bw.sub o.keys (lo:=i+1) (hi:=c.len) I I
      rwa[dr (by rw[dw];omega)]at this
     .have:=cZ.sub o.kids (lo:=i+1) (hi:=aC.len) I I
      rwa[dr (by rw[dw];omega)]at this
    have X:=eZ U (by rw[g];show(n.keys.take i).length<=_;rw[cz];omega) (by rw[g];simp) (by rw[g];show(n.kids.take (i+1)).length<=_;rw[cz];omega) (by rw[g];exact λk l=>E k (eY l)) (by rw[g];simp);have Z:(.agg #[false,.slice (aO c.a 1 0 c.cap) i c.cap,(),.slice (aO aC.a 1 0 aC.cap) (i+1) aC.cap]:Y)=c9 (n.left i) ⟨aO c.a 1 0 c.cap,i,c.cap⟩ bG ⟨aO aC.a 1 0 aC.cap,i+1,aC.cap⟩:=by rw[g];rfl
    have ab:(.agg #[false,.slice (aO c.a 1 (i+1) c.cap) (c.len-(i+1)) (c.cap-(i+1)),(),.slice (aO aC.a 1 (i+1) aC.cap) (aC.len-(i+1)) (aC.cap-(i+1))]:Y)=c9 (n.right i) ⟨aO c.a 1 (i+1) c.cap,c.len-(i+1),c.cap-(i+1)⟩ bG ⟨aO aC.a 1 (i+1) aC.cap,aC.len-(i+1),aC.cap-(i+1)⟩:=by rw[j];rfl
    rw[Z,ab];refine X.use ?_;rintro _ a1 ⟨dn,dI,br,a2,a3,a4,rfl,ac,u⟩;have ag:=eZ (W.ext u) (by rw[j];show(n.keys.drop (i+1)).length<=_;rw[dw];omega) (by rw[j];simp) (by rw[j];show(n.kids.drop (i+1)).length<=_;rw[dw];omega) (by rw[j];exact λk l=>E k (e6 l)) (by rw[j];simp);refine⟨_,dn,dI,br,rfl,af.cN u,ag.use ?_⟩;rintro _ a5 ⟨cL,cV,cx,a6,a8,a9,rfl,ak,z⟩;have v:=u.trans z;have a_:=u.size;have ba:=s.size;refine⟨_,cL,cV,cx,rfl,af.cN z,ra (cr:=(n.left i).leaf) (bX:=(n.right i).leaf) (dn:=dn) (dI:=dI) (br:=br) (cL:=cL) (cV:=cV) (cx:=cx) ((aB.ext s).ext v) ((aD.ext s).ext v) rfl rfl I (λq f=>f) (Q:=λcr dn dI br bX cL cV cx w'=>pG n w (.tuple #[.agg #[cr,dn,dI,br],tk,.agg #[bX,cL,cV,cx],true]) w') λbb x=>?_⟩;have bd:r.drew.heap.size=r.heap.size:=rfl;refine⟨dn,dI,br,cL,cV,cx,tk,by rw[←hi];rfl,?_,?_,?_,?_⟩
    .rw[←hi];exact((ac.at.ext z).ah x λq f e=>I).a7 λq _ f=>by omega
    .rw[←hi];exact(ak.at.ah x λq f e=>I).a7 λq _ f=>by omega
    .rw[←hi,aN]
     have al:∀q,aE tk q->F.heap.size<=q:=aL;exact bA.jr (bA.ext (bA.ext aJ T) v) x λq f e=>by have:=al q f;omega
    .exact Ext.df (N.trans (s.trans v)) x λq f=>by omega
 .refine bc (vs:=[false,(),(),()]) rfl λbs b1 P cd=>⟨P,?_⟩
  refine(eZ (h.ext (au.trans P)) I I I E ao).use ?_;rintro _ bm ⟨c,d,aC,bY,cj,bO,rfl,b2,G⟩;refine⟨n.leaf,c,d,aC,rfl,G,(nL (h.ext (au.trans (P.trans G))) hs bi (most:=most) aP.2.1).use ?_⟩;rintro _ bt ⟨rfl,H⟩;have aw:=b1.ext (G.trans H);refine⟨_,rfl,H,aw.b3 rfl (fS _ _ _ _),rfl,cp aw (us:=[n.leaf,c,d,aC]) rfl rfl λF ax C bz=>?_⟩;have bZ:=G.size;have bu:=H.size;have bC:y.drew.heap.size=y.heap.size:=rfl;obtain⟨aH,aS⟩:∃aH,aH=y.drew.heap.size:=⟨_,rfl⟩;rw[←aS]at ax C⊢;have M:=P.trans (G.trans H);have R:e7 y.heap.size F n c d aC bY cj bO:=((b2.ext H).ah C λq h1 _ _ e=>I).low I;have N:Ext w F:=Ext.cD (au.trans M) C I;have aA:=(bh.ext M).ah C I;have aB:=(bk.ext M).ah C I;have aD:=(bl.ext M).ah C I;have aT:gA (cellsOf n) most=ct n:=by unfold ct;rw[ap]
  rw[aT];obtain⟨i,hi⟩:∃i,i=ct n:=⟨_,rfl⟩;rw[←hi]at O aP dR;rw[←hi];obtain⟨aF,aI,aU,aV⟩:=bP aA;obtain⟨A,t,aq,aW,hc,ht,_⟩:=bw.at (h.ext N).keys O;refine⟨K,aI,A,aq,aW,t,hc,(kZ (B:=λq=>w.heap.size<=q) ht.1 (by have:=E _ (cW O);omega) (λq f=>eC N.size f)).use ?_⟩;rintro _ r ⟨tk,rfl,aJ,S,aL⟩;have T:=cE r;obtain⟨aF,aI,aU,aV⟩:=bP (aA.ext S);have s:=S.trans T;obtain⟨f0,f1,f2,f3⟩:=bP (ax.ext s);have o:=R.at.ext s;have bD:=bw.len o.keys;have bE:=bw.len o.vals;have bF:=cZ.len o.kids;have bH:=bw.le (bx.iZ R.keys);have bJ:=bw.le (bx.iZ R.vals);have bL:aC.len<=aC.cap:=o.kids.2.1;have bM:F.heap.size<=r.heap.size:=S.size;have aN:n.keys.getD i []=n.keys[i]:=fu O;refine⟨tk,rfl,n.leaf,aF,λp=>aX ⟨λq=>q=w1.heap.size,λe=>?_,c,f1,⟨I,I⟩,λe=>?_,d,f2,⟨I,?_⟩,#[true,.slice (aO c.a 1 0 c.cap) i c.cap,.slice (aO d.a 1 0 d.cap) i d.cap,()],(λw=>by kernel_rfl),λe=>?_,c,f1,⟨I,I⟩,λe=>?_,d,f2,⟨I,?_⟩,#[true,.slice (aO c.a 1 i c.cap) (c.len-i) (c.cap-i),.slice (aO d.a 1 i d.cap) (d.len-i) (d.cap-i),()],(λw=>by kernel_rfl),?_⟩,λp=>?_⟩
  .rw[az]at e;have e:aH=w1.heap.size:=e;omega
  .rw[az]at e;have e:aH=w1.heap.size:=e;omega
  .have:=hs.lL p;omega
  .rw[az]at e;have e:aH=w1.heap.size:=e;omega
  .rw[az]at e;have e:aH=w1.heap.size:=e;omega
  .have:=hs.lL p;omega
  .have a0:=hs.lL p
   have g:n.left i=⟨true,n.keys.take i,n.vals.take i,[]⟩:=by unfold aG.left;rw[p];rfl
   have j:n.right i=⟨true,n.keys.drop i,n.vals.drop i,[]⟩:=by unfold aG.right;rw[p];rfl
   have U:bI (λq=>y.heap.size<=q) r.drew (n.left i) ⟨aO c.a 1 0 c.cap,i,c.cap⟩ ⟨aO d.a 1 0 d.cap,i,d.cap⟩ bG:=by
    rw[g];refine⟨?_,?_,cZ.none _ _⟩
    .have:=bw.sub o.keys (lo:=0) (hi:=i) I I
     simpa using this
    .have:=bw.sub o.vals (lo:=0) (hi:=i) I I
     simpa using this
   have W:bI (λq=>y.heap.size<=q) r.drew (n.right i) ⟨aO c.a 1 i c.cap,c.len-i,c.cap-i⟩ ⟨aO d.a 1 i d.cap,d.len-i,d.cap-i⟩ bG:=by
    rw[j];refine⟨?_,?_,cZ.none _ _⟩
    .have:=bw.sub o.keys (lo:=i) (hi:=c.len) I I
     rwa[dr (by rw[dw];omega)]at this
    .have:=bw.sub o.vals (lo:=i) (hi:=d.len) I I
     rwa[dr (by rw[dw];omega)]at this
   have X:=eZ U (by rw[g];show(n.keys.take i).length<=_;rw[cz];omega) (by rw[g];show(n.vals.take i).length<=_;rw[cz];omega) (by rw[g];simp) (by rw[g];exact λk l=>E k (eY l)) (by rw[g];exact λk l=>ao k (eY l));have Z:(.agg #[true,.slice (aO c.a 1 0 c.cap) i c.cap,.slice (aO d.a 1 0 d.cap) i d.cap,()]:Y)=c9 (n.left i) ⟨aO c.a 1 0 c.cap,i,c.cap⟩ ⟨aO d.a 1 0 d.cap,i,d.cap⟩ bG:=by rw[g];rfl
   have ab:(.agg #[true,.slice (aO c.a 1 i c.cap) (c.len-i) (c.cap-i),.slice (aO d.a 1 i d.cap) (d.len-i) (d.cap-i),()]:Y)=c9 (n.right i) ⟨aO c.a 1 i c.cap,c.len-i,c.cap-i⟩ ⟨aO d.a 1 i d.cap,d.len-i,d.cap-i⟩ bG:=by rw[j];rfl
   rw[Z,ab];refine X.use ?_;rintro _ a1 ⟨dn,dI,br,a2,a3,a4,rfl,ac,u⟩;have ag:=eZ (W.ext u) (by rw[j];show(n.keys.drop i).length<=_;rw[dw];omega) (by rw[j];show(n.vals.drop i).length<=_;rw[dw];omega) (by rw[j];simp) (by rw[j];exact λk l=>E k (e6 l)) (by rw[j];exact λk l=>ao k (e6 l));refine⟨_,dn,dI,br,rfl,af.cN u,ag.use ?_⟩;rintro _ a5 ⟨cL,cV,cx,a6,a8,a9,rfl,ak,z⟩;have v:=u.trans z;have a_:=u.size;have ba:=s.size;refine⟨_,cL,cV,cx,rfl,af.cN z,ra (cr:=(n.left i).leaf) (bX:=(n.right i).leaf) (dn:=dn) (dI:=dI) (br:=br) (cL:=cL) (cV:=cV) (cx:=cx) ((aB.ext s).ext v) ((aD.ext s).ext v) rfl rfl I (λq f=>f) (Q:=λcr dn dI br bX cL cV cx w'=>pG n w (.tuple #[.agg #[cr,dn,dI,br],tk,.agg #[bX,cL,cV,cx],true]) w') λbb x=>?_⟩;have bd:r.drew.heap.size=r.heap.size:=rfl;refine⟨dn,dI,br,cL,cV,cx,tk,by rw[←hi];rfl,?_,?_,?_,?_⟩
   .rw[←hi];exact((ac.at.ext z).ah x λq f e=>I).a7 λq _ f=>by omega
   .rw[←hi];exact(ak.at.ah x λq f e=>I).a7 λq _ f=>by omega
   .rw[←hi,aN]
    have al:∀q,aE tk q->F.heap.size<=q:=aL;exact bA.jr (bA.ext (bA.ext aJ T) v) x λq f e=>by have:=al q f;omega
   .exact Ext.df (N.trans (s.trans v)) x λq f=>by omega
  .have a0:=hs.q7 p
   have bN:i<=n.keys.length-2/\1<=n.keys.length-2:=by rw[p,←hi]at L;simpa using L
   have be:IntKind.wrap .i64 ((i:Int)+1)=((i+1:Nat):Int):=by rw[bB I I];rfl
   rw[be];refine aX ⟨λq=>q=w1.heap.size,λe=>?_,c,f1,⟨I,I⟩,λe=>?_,aC,f3,⟨I,I⟩,#[false,.slice (aO c.a 1 0 c.cap) i c.cap,(),.slice (aO aC.a 1 0 aC.cap) (i+1) aC.cap],(λw=>by kernel_rfl),λe=>?_,c,f1,⟨I,I⟩,λe=>?_,aC,f3,⟨I,I⟩,#[false,.slice (aO c.a 1 (i+1) c.cap) (c.len-(i+1)) (c.cap-(i+1)),(),.slice (aO aC.a 1 (i+1) aC.cap) (aC.len-(i+1)) (aC.cap-(i+1))],(λw=>by kernel_rfl),?_⟩
   .rw[az]at e;have e:aH=w1.heap.size:=e;omega
   .rw[az]at e;have e:aH=w1.heap.size:=e;omega
   .rw[az]at e;have e:aH=w1.heap.size:=e;omega
   .rw[az]at e;have e:aH=w1.heap.size:=e;omega
   have g:n.left i=⟨false,n.keys.take i,[],n.kids.take (i+1)⟩:=by unfold aG.left;rw[p];rfl
   have j:n.right i=⟨false,n.keys.drop (i+1),[],n.kids.drop (i+1)⟩:=by unfold aG.right;rw[p];rfl
   have U:bI (λq=>y.heap.size<=q) r.drew (n.left i) ⟨aO c.a 1 0 c.cap,i,c.cap⟩ bG ⟨aO aC.a 1 0 aC.cap,i+1,aC.cap⟩:=by
    rw[g];refine⟨?_,bw.none _ _,?_⟩
    .have:=bw.sub o.keys (lo:=0) (hi:=i) I I
     simpa using this
    .have:=cZ.sub o.kids (lo:=0) (hi:=i+1) I I
     simpa using this
   have W:bI (λq=>y.heap.size<=q) r.drew (n.right i) ⟨aO c.a 1 (i+1) c.cap,c.len-(i+1),c.cap-(i+1)⟩ bG ⟨aO aC.a 1 (i+1) aC.cap,aC.len-(i+1),aC.cap-(i+1)⟩:=by
    rw[j];refine⟨?_,bw.none _ _,?_⟩
    .have:=bw.sub o.keys (lo:=i+1) (hi:=c.len) I I
     rwa[dr (by rw[dw];omega)]at this
    .have:=cZ.sub o.kids (lo:=i+1) (hi:=aC.len) I I
     rwa[dr (by rw[dw];omega)]at this
   have X:=eZ U (by rw[g];show(n.keys.take i).length<=_;rw[cz];omega) (by rw[g];simp) (by rw[g];show(n.kids.take (i+1)).length<=_;rw[cz];omega) (by rw[g];exact λk l=>E k (eY l)) (by rw[g];simp);have Z:(.agg #[false,.slice (aO c.a 1 0 c.cap) i c.cap,(),.slice (aO aC.a 1 0 aC.cap) (i+1) aC.cap]:Y)=c9 (n.left i) ⟨aO c.a 1 0 c.cap,i,c.cap⟩ bG ⟨aO aC.a 1 0 aC.cap,i+1,aC.cap⟩:=by rw[g];rfl
   have ab:(.agg #[false,.slice (aO c.a 1 (i+1) c.cap) (c.len-(i+1)) (c.cap-(i+1)),(),.slice (aO aC.a 1 (i+1) aC.cap) (aC.len-(i+1)) (aC.cap-(i+1))]:Y)=c9 (n.right i) ⟨aO c.a 1 (i+1) c.cap,c.len-(i+1),c.cap-(i+1)⟩ bG ⟨aO aC.a 1 (i+1) aC.cap,aC.len-(i+1),aC.cap-(i+1)⟩:=by rw[j];rfl
   rw[Z,ab];refine X.use ?_;rintro _ a1 ⟨dn,dI,br,a2,a3,a4,rfl,ac,u⟩;have ag:=eZ (W.ext u) (by rw[j];show(n.keys.drop (i+1)).length<=_;rw[dw];omega) (by rw[j];simp) (by rw[j];show(n.kids.drop (i+1)).length<=_;rw[dw];omega) (by rw[j];exact λk l=>E k (e6 l)) (by rw[j];simp);refine⟨_,dn,dI,br,rfl,af.cN u,ag.use ?_⟩;rintro _ a5 ⟨cL,cV,cx,a6,a8,a9,rfl,ak,z⟩;have v:=u.trans z;have a_:=u.size;have ba:=s.size;refine⟨_,cL,cV,cx,rfl,af.cN z,ra (cr:=(n.left i).leaf) (bX:=(n.right i).leaf) (dn:=dn) (dI:=dI) (br:=br) (cL:=cL) (cV:=cV) (cx:=cx) ((aB.ext s).ext v) ((aD.ext s).ext v) rfl rfl I (λq f=>f) (Q:=λcr dn dI br bX cL cV cx w'=>pG n w (.tuple #[.agg #[cr,dn,dI,br],tk,.agg #[bX,cL,cV,cx],true]) w') λbb x=>?_⟩;have bd:r.drew.heap.size=r.heap.size:=rfl;refine⟨dn,dI,br,cL,cV,cx,tk,by rw[←hi];rfl,?_,?_,?_,?_⟩
   .rw[←hi];exact((ac.at.ext z).ah x λq f e=>I).a7 λq _ f=>by omega
   .rw[←hi];exact(ak.at.ah x λq f e=>I).a7 λq _ f=>by omega
   .rw[←hi,aN]
    have al:∀q,aE tk q->F.heap.size<=q:=aL;exact bA.jr (bA.ext (bA.ext aJ T) v) x λq f e=>by have:=al q f;omega
   .exact Ext.df (N.trans (s.trans v)) x λq f=>by omega
end Go.Proofs.YtkdhdlfonmgheaaGreat
