/- Contracts of the functions that the statement reaches, and the plain laws over them; each theorem stands with its conditions. -/
import Derived.Test.YtcmgnhkpfllinaaGreatBSNone5
namespace Go.Proofs.YtcmgnhkpfllinaaGreat
open Go aP Go.Proofs.Tryz
section
variable {w0 w w' w1 ai:J}{bR bE:Nat->Prop}{d n cT k c i:Nat}{l:eG}{S aC:cm}{pages dK aK fX bl:O Nat}{L kA bB oo a7:O aI}{v:aa}{az:aZ}{ls:ad}
def p7(b:Nat):eG:=⟨8,1+b%12,1+b/16%12⟩
theorem HC(b:Nat):oh ((p7 b).ak:Nat) ((p7 b).batch:Nat) ((p7 b).hX:Nat):=by
 unfold oh p7;have a:b%12<12:=g4 _ (by decide);have c:b/16%12<12:=g4 _ (by decide);show(8:Int)<=((8:Nat):Int)/\((8:Nat):Int)<=64/\(1:Int)<=((1+b%12:Nat):Int)/\((1+b%12:Nat):Int)<=1000/\(1:Int)<=((1+b/16%12:Nat):Int)/\((1+b/16%12:Nat):Int)<=1048576;omega
theorem HD{b:Nat}(a:b<256):IntKind.wrap .u8 (Int.tdiv (b:Int) 16)=((b/16:Nat):Int):=by
 rw[Int.tdiv_eq_ediv_of_nonneg I];have h:((b:Int)/16)=((b/16:Nat):Int):=by omega
 rw[h];have c:b/16<256:=by omega
 show((b/16:Nat):Int)%256=_;omega
end
section
variable {w:J}{ab st:Nat}{most:Int}
theorem o9{s:au ah}(w:J)(most:Int):aJ aj 37 #[.pointer s,most] w (λv w'=>Ext w w'/\(((s=none\/most<1\/400<most)/\v=.tuple #[.pointer none,(1:Int)])\/((s≠none/\1<=most/\most<=400)/\v=.tuple #[.pointer (some w.heap.size),(0:Int)]/\Var w' w.heap.size [.pointer s,most] 120))):=by
 refine okF (ae.o9 s most) aw.o9 func37 ?_;delta ae.o9 an Y;refine⟨λh=>⟨.refl _ _,.inl ⟨?_,rfl⟩⟩,λh=>a_ (vs:=[.pointer s,most]) rfl λw1 b hx _=>⟨hx,.inr ⟨?_,rfl,b⟩⟩⟩
 .cases s with
  |none=>exact .inl rfl
  |some a=>simp at h;exact .inr I
 .cases s with
  |none=>simp at h
  |some a=>simp at h;exact⟨by simp,I,I⟩
theorem HE(a:Var w ab [.pointer (some st),most] 120):aJ aj 38 #[.pointer (some ab)] w (λv w'=>v=.pointer (some st)/\w=w'):=by
 refine okF (ae.s_ (some ab)) aw.s_ func38 ?_;delta ae.s_ an;exact⟨λh=>(by cases h),λ_=>⟨_,rfl,_,a.cell,rfl,rfl⟩⟩
theorem B3{S:cm}{pages aK:O Nat}{L bB:O aI}(a:Var w ab [.pointer (some S.st),most] 120)(h:dB w S pages L aK bB):aJ aj 17 #[.pointer (some ab)] w (λv w'=>v=L.length/\w=w'):=by
 refine okF (ae.s7 (some ab)) aw.s7 func17 ?_;delta ae.s7 jo bW;refine(HE a).use ?_;rintro _ _ ⟨rfl,rfl⟩;refine⟨_,rfl,(Hq h).use ?_⟩;rintro _ _ ⟨rfl,rfl⟩;exact⟨_,rfl,by rw[h.keys],rfl⟩
end
theorem x8{s:Int}{p:cc}(h:eZ s p=true):∃k:Nat,s=(k:Int)/\k<=65535/\gK p.addr p.bits=some p:=by
 unfold eZ at h;rw[dk,cu]at h;obtain⟨k,a,b⟩:=rv h.2;exact⟨k,a,b,h.1⟩
theorem HF{s b:Int}{p a:cc}(h:eZ s p=true)(l:eZ b a=true)(he:eS s.toNat p=eS b.toNat a):s=b/\p=a:=by
 obtain⟨k,rfl,m,c⟩:=x8 h;obtain⟨d,rfl,n,f⟩:=x8 l;rw[dm,dm]at he;have o:=xe m p;rw[he,xe n a]at o;have g:=xf k p;rw[he,xf d a]at g;have i:=xg k p;rw[he,xg d a]at i;have q:p.addr=a.addr:=by
  have j:=xd (wN c).2.1;rw[←i,xd (wN f).2.1]at j;exact(Option.some.inj j).symm
 have cv:=uN c;have bS:=uN f;have r:p.bits=a.bits:=by
  have e:=congrArg UInt8.toNat (Option.some.inj g);rw[r2,r2]at e;omega
 refine⟨I,?_⟩
 cases p;cases a
 simp_all
def aW.kv(t:aW):aI:=(eS t.s.toNat t.p,iA t.b.toNat t.u)
section
variable {T:O aW}{s:Int}{p:cc}
theorem B4{t:aW}(ht:eZ t.s t.p=true)(hg:eZ s p=true):decide (t.kv.1=eS s.toNat p)=fW s p t:=by
 unfold fW;rw[fh,dk,cu,cu,cu];exact⟨λh=>HF ht hg h,λh=>by show eS t.s.toNat t.p=_;rw[h.1,h.2]⟩
theorem x9(c:∀t∈T,eZ t.s t.p=true)(hg:eZ s p=true):eJ (T.map aW.kv) (eS s.toNat p)=(T.find? (fW s p)).map λt=>iA t.b.toNat t.u:=by
 unfold eJ
 induction T with
 |nil=>rfl
 |cons t T a=>
  have a:=a λx hx=>c x (iJ _ hx);rw[g5,List.find?_cons,List.find?_cons,B4 (c t (qe)) hg]
  cases fW s p t with
  |true=>rfl
  |false=>exact a
theorem HG(b:∀t∈T,eZ t.s t.p=true)(hg:eZ s p=true):eu (T.map aW.kv) (eS s.toNat p)=(T.filter λt=> !fW s p t).map aW.kv:=by
 unfold eu
 induction T with
 |nil=>rfl
 |cons t T a=>
  have a:=a λx hx=>b x (iJ _ hx);have c:=B4 (b t (qe)) hg;rw[g5,lf,lf,a];have e:decide (t.kv.1≠eS s.toNat p)= !fW s p t:=by rw[←c];simp
  rw[e]
  cases fW s p t<;>rfl
end
def j8(T:O aW)(t:aW):O aW:=(T.filter λx=>decide (bz x.kv.1 t.kv.1))++t::T.filter λx=>decide (bz t.kv.1 x.kv.1)
theorem B5(T:O aW)(t:aW):fR (T.map aW.kv) t.kv.1 t.kv.2=(j8 T t).map aW.kv:=by
 unfold fR j8;rw[fG,g5,List.filter_map,List.filter_map];rfl
theorem HH{T:O aW}{t x:aW}(h:x∈j8 T t):x=t\/x∈T:=by
 unfold j8 at h;rcases cD.1 h with h|h
 .exact .inr (gk.1 h).1
 .rcases cN.1 h with h|h
  .exact .inl h
  .exact .inr (gk.1 h).1
theorem vk{k:Nat}{p:cc}:cq (eS k p):=by
 have h:=uO k p;have a:=wM p.addr;unfold cq;omega
section
variable {T A B:O aW}{t x:aW}{i m now:Nat}{fr:Key}
def kC(T:O aW):Prop:=T.Pairwise λa b=>bz a.kv.1 b.kv.1
theorem B6:gA (T.map aW.kv)↔kC T:=List.pairwise_map
theorem HI(h:fW t.s t.p x=true):x.kv.1=t.kv.1:=by
 unfold fW at h;rw[dk,cu,cu]at h;show eS _ _=eS _ _;rw[h.1,h.2]
def hO(T:O aW)(fr:Key):O aW:=T.filter λt=>decide (dR fr t.kv.1)
def gf(T:O aW)(fr:Key)(m:Nat):O aW:=(hO T fr).take m
def h_(T Q:O aW)(ch:aW->al):O aW:=T.filter λt=> !(decide (t∈Q)&&ch t)
def lS(T Q:O aW):Key:=match Q.getLast? with
 |none=> []
 |some t=>if T.getLast? =some t then [] else t.kv.1++ [0]
theorem kC.nodup(h:kC T):T.Nodup:=List.Pairwise.imp (λ{a b} c (e:a=b)=>by rw[e]at c;exact kU _ c) h
theorem HJ(h:kC T){Q:O aW}{ch:aW->al}(f:x∈T)(hx:x∉Q)(g:∀t∈T,eZ t.s t.p=true):(h_ T Q ch).filter (λt=> !fW x.s x.p t)=T.filter (λt=> !(decide (t∈Q)&&ch t)&& !decide (t=x)):=by
 unfold h_;rw[List.filter_filter];refine qm λt ht=>?_;rw[Bool.and_comm]
 congr 2
 rw[fh,cu];refine⟨λe=>?_,λe=>by rw[e];simp[fW]⟩;have b:=HI (t:=x) e;obtain⟨i,hi,rfl⟩:=r3.1 ht;obtain⟨j,c,rfl⟩:=r3.1 f;have d:=kI.1 h;rcases Nat.lt_trichotomy i j with a|rfl|a
 .have:=d i j hi c a;rw[b]at this;exact absurd this (kU _)
 .rfl
 .have:=d j i c hi a;rw[b]at this;exact absurd this (kU _)
end
def aW.ok(t:aW):Prop:=t.e6=true/\t.u<18446744073709551616
theorem aW.ok.k{t:aW}(h:t.ok):eZ t.s t.p=true:=by have:=h.1;unfold aW.e6 at this;rw[dk]at this;exact this.1
theorem aW.ok.b{t:aW}(h:t.ok):lJ t.b=true:=by have:=h.1;unfold aW.e6 at this;rw[dk]at this;exact this.2
def j9(S:cm)(b8:O aW)(aC:cm)(dS:O aW):Prop:=(aC.u.db=S.u.db/\dS=b8)\/S.u.db<aC.u.db
theorem j9.trans{S aC c:cm}{b8 dS d:O aW}(h:j9 S b8 aC dS)(e:j9 aC dS c d):j9 S b8 c d:=by
 rcases h with ⟨a,rfl⟩|a<;>rcases e with ⟨b,rfl⟩|b
 .exact .inl ⟨b.trans a,rfl⟩
 .exact .inr I
 .exact .inr I
 .exact .inr I
structure dx(w0 w:J)(bR:Nat->Prop)(d n:Nat)(l:eG)(ab most:Nat)(S:cm)(pages aK:O Nat)(T b8:O aW)(c:Nat):Prop where
 s:gx w0 w bR d n l S pages (T.map aW.kv) aK (b8.map aW.kv) c
 live:S.failed=false
 q:S.T.C.D.quiet
 x_:bR ab
 v:Var w ab [.pointer (some S.st),most] 120
 ok:∀t∈T,t.ok
 B7:∀t∈b8,t.ok
 vl:S.pending<l.batch
 B8:S.pending=0->T=b8
 eL:T.length<=most/\b8.length<=most
 oq:1<=most/\most<=400
 cg:n=4*most+64
 p8:kC T
section
variable {w0 w w':J}{bR:Nat->Prop}{d n ab most k c:Nat}{l:eG}{S aC:cm}{pages dK aK fX:O Nat}{T ao b8 dS:O aW}{tk cF:ad}{key:Key}{v:aa}{s:Int}{p:cc}
theorem dx.ext(h:dx w0 w bR d n l ab most S pages aK T b8 c)(hx:Ext w w'):dx w0 w' bR d n l ab most S pages aK T b8 c:={h with s:=h.s.ext hx,v:=h.v.ext hx}
theorem dx.mono{e:Nat}(h:dx w0 w bR d n l ab most S pages aK T b8 c)(he:c<=e):dx w0 w bR d n l ab most S pages aK T b8 e:={h with s:=h.s.mono he}
theorem dx.new(h:dx w0 w bR d n l ab most S pages aK T b8 c):∀q,w.heap.size<=q->¬S.T.M q:=λq b a=>by have:=h.s.at_.t.lt a;omega
theorem dx.keys(h:dx w0 w bR d n l ab most S pages aK T b8 c):∀t∈T,eZ t.s t.p=true:=λt ht=>(h.ok t ht).k
theorem dx.room(h:dx w0 w bR d n l ab most S pages aK T b8 c):g2 S≠0:=by
 have e:=h.eL;have f:=h.s.at_.room;have a:=h.s.at_.ok.low (by rw[c8];have:=h.oq;omega);have b:=h.s.at_.jb.low;have g:=h.s.n;have i:=h.cg;rw[c8]at a b;unfold g2;omega
theorem dx.step(h:dx w0 w bR d n l ab most S pages aK T b8 c)(hs:dB w' aC dK (ao.map aW.kv) fX (dS.map aW.kv))(hd:dL k S aC w w')(f:k<=20000)(u:ao.length<=T.length+1)(a:dS=b8\/dS=ao)(g:ao.length<=most)(hg:aC.gen<=S.gen+1)(i:aC.pending<=S.pending+1)(hf:aC.failed=false)(b:∀t∈ao,t.ok)(j:aC.pending<l.batch)(m:aC.pending=0->ao=dS):
 dx w0 w' bR d n l ab most aC dK fX ao dS (c+1):=by
 have o:=h.s.eL;rw[c8,c8]at o;have e:=h.s.p6 h.x_;have p:dS.length<=c+1/\dS.length<=most:=by
  have:=h.eL;rcases a with rfl|rfl<;>omega
 refine⟨h.s.step hs hd f (by rw[c8,c8];omega) hg i,hf,hd.q h.q,h.x_,?_,b,?_,j,m,⟨g,p.2⟩,h.oq,h.cg,B6.1 (hs.ok.rising)⟩
 .rw[hd.st]
  exact h.v.ag hd.ag λr=>e.2 (r.2 e.1)
 .rcases a with rfl|rfl
  .exact h.B7
  .exact b
theorem dx.read(h:dx w0 w bR d n l ab most S pages aK T b8 c)(hs:dB w' aC pages (T.map aW.kv) aK (b8.map aW.kv))(hd:dL k S aC w w')(b:k<=20000)(hg:aC.gen=S.gen)(a:aC.pending=S.pending)(hf:aC.failed=S.failed):dx w0 w' bR d n l ab most aC pages aK T b8 (c+1):=
 h.step hs hd b I (.inl rfl) h.eL.1 I I (hf.trans h.live) h.ok (by rw[a];exact h.vl) (by rw[a];exact h.B8)
def ia(w0:J)(bR:Nat->Prop)(d n:Nat)(l:eG)(ab most:Nat)(S:cm)(b8 ao:O aW)(w:J)(c:Nat)(w':J):Prop:=
 ∃ (k:Nat) (aC:cm) (dK fX:O Nat) (dS:O aW),dx w0 w' bR d n l ab most aC dK fX ao dS c/\dL k S aC w w'/\aC.now=S.now/\j9 S b8 aC dS
theorem dx.more(h:dx w0 w bR d n l ab most S pages aK T b8 c)(a:lR S aC dK (ao.map aW.kv) aK (b8.map aW.kv) v w')(hd:dL k S aC w w')(b:aC.now=S.now)(f:k<=20000)(g:ao.length<=T.length+1)(i:ao.length<=most)(j:∀t∈ao,t.ok):
 v=.int .i64 0/\ia w0 bR d n l ab most S b8 ao w (c+1) w':=by
 have p:=h.s.at_.num.2.2.2.2.2.2;have m:=h.s.lim;rcases a with ⟨rfl,r,hs,hf,hg,hu,o,_⟩|a
 .exact⟨rfl,k,aC,dK,aK,b8,h.step hs hd f g (.inl rfl) i I I hf j (by rw[←m];omega) (λe=>I),hd,b,.inl ⟨by rw[hu],rfl⟩⟩
 .obtain⟨rfl,_,hs,hf,hg,_,u,o⟩:=a.HA h.q
  exact⟨rfl,k,aC,dK,dK,ao,h.step hs hd f g (.inr rfl) i I I hf j (by rw[←m];omega) (λ_=>rfl),hd,b,.inr I⟩
theorem dx.put{t:aW}(h:dx w0 w bR d n l ab most S pages aK T b8 c)(ht:t.ok)(hlen:(j8 T t).length<=most/\(j8 T t).length<=T.length+1)(hc:c<=30000)(f:Src 1 w tk (ax (eS t.s.toNat t.p)))(g:∀q,ay tk q->q<w.heap.size/\¬S.T.M q)(i:Src 1 w cF (ax (iA t.b.toNat t.u)))(j:∀q,ay cF q->q<w.heap.size/\¬S.T.M q):
 aJ aj 27 #[.pointer (some S.st),tk,cF] w (λv w'=>v=.int .i64 0/\ia w0 bR d n l ab most S b8 (j8 T t) w (c+1) w'):=by
 have k:=h.s.at_.num.2.2.2.2.1;have m:=h.s.lim;have z:=h.vl;have A:=h.s.aT;have B:=h.s.gen;refine(Ht (key:=eS t.s.toNat t.p) (val:=iA t.b.toNat t.u) h.s.at_ (by rw[c8];have:=h.eL.1;have:=h.oq;omega) (by rw[m]at k;omega) I I h.q f g i j).mono ?_;rintro v w' (⟨_,o,_⟩|⟨_,⟨hf,_⟩|⟨_,aC,hd,r,⟨_,y,_⟩|⟨_,dK,a⟩⟩⟩)
 .exact absurd ⟨vk,by rw[pQ];decide⟩ o
 .rw[h.live]at hf;cases hf
 .exact absurd y h.room
 .rw[show fR (T.map aW.kv) (eS t.s.toNat t.p) (iA t.b.toNat t.u)=(j8 T t).map aW.kv from B5 T t]at a
  exact h.more a hd r I hlen.2 hlen.1 λx hx=>(HH hx).elim (λe=>e▸ht) (h.ok x)
theorem dx.del(h:dx w0 w bR d n l ab most S pages aK T b8 c)(hg:eZ s p=true)(hc:c<=30000)(j:Src 1 w tk (ax (eS s.toNat p)))(k:∀q,ay tk q->q<w.heap.size/\¬S.T.M q):
 aJ aj 23 #[.pointer (some S.st),tk] w (λv w'=>v=.tuple #[.bool (T.find? (fW s p)).isSome,(0:Int)]/\ia w0 bR d n l ab most S b8 (T.filter λt=> !fW s p t) w (c+1) w'):=by
 have m:=h.s.at_.num.2.2.2.2.1;have o:=h.s.lim;have D:=h.vl;have E:=h.s.aT;have F:=h.s.gen;have f:=x9 h.keys hg;have G:(T.filter λt=> !fW s p t).length<=T.length:=m_ _ _;refine(Hu (key:=eS s.toNat p) h.s.at_ (by rw[c8];have:=h.eL.1;have:=h.oq;omega) (by rw[o]at m;omega) I I h.q j k).mono ?_;rintro v w' (⟨_,r,_⟩|⟨_,⟨hf,_⟩|⟨_,aC,hd,g,⟨rfl,a,hs,he,y⟩|⟨_,_,z,_⟩|⟨e,rfl,a,_,dK,i⟩|⟨_,hx⟩⟩⟩)
 .exact absurd vk r
 .rw[h.live]at hf;cases hf
 .rw[f,Option.map_eq_none_iff]at a
  rw[a];refine⟨rfl,300,aC,pages,aK,b8,?_,hd,g,.inl ⟨by rw[he.u],rfl⟩⟩;rw[jJ.2 λt ht=>by rw[ib,←e9];exact jh.1 a t ht];exact h.read hs hd I he.gen he.pending (y.trans h.live.symm)
 .exact absurd z h.room
 .rw[HG h.keys hg]at i
  obtain⟨A,B⟩:=h.more i hd g I I (by have:=h.eL.1;omega) λx hx=>h.ok x (gk.1 hx).1;obtain rfl:e=0:=by cases A;rfl
  rw[f,ne_eq,Option.map_eq_none_iff]at a;refine⟨?_,B⟩
  cases C:T.find? (fW s p) with
  |none=>exact absurd C a
  |some t=>rfl
 .rcases hx True pages (T.map aW.kv) with ⟨b,_⟩|⟨_,b,_⟩
  .cases b
  .exact absurd h.q b
theorem dx.get(h:dx w0 w bR d n l ab most S pages aK T b8 c)(hg:eZ s p=true)(hc:c<=30000)(g:Src 1 w tk (ax (eS s.toNat p)))(i:∀q,ay tk q->q<w.heap.size/\¬S.T.M q):
 aJ aj 50 #[.pointer (some S.st),tk] w (λv w'=>(∃ (t:ad),v=.tuple #[t,.bool (T.find? (fW s p)).isSome,(0:Int)]/\∀x,T.find? (fW s p)=some x->Src 1 w' t (ax (iA x.b.toNat x.u))/\t.len<=t.cap)/\ia w0 bR d n l ab most S b8 T w (c+1) w'):=by
 have o:=h.s.aT;have f:=x9 h.keys hg;refine(Hs h.s.at_ I g i).mono ?_;rintro v w' ⟨aE,hs,hd,_,_,_,_,j⟩;have ar:ia w0 bR d n l ab most S b8 T w (c+1) w':=⟨30,_,pages,aK,b8,h.read hs hd I rfl rfl rfl,hd,rfl,.inl ⟨rfl,rfl⟩⟩;rcases j with ⟨rfl,a⟩|⟨t,x,rfl,_,a,ht⟩|⟨_,_,k⟩
 .have a:=a vk
  rw[f,Option.map_eq_none_iff]at a;rw[a];exact⟨⟨⟨none,0,0⟩,rfl,λx e=>(by cases e)⟩,ar⟩
 .rw[f]at a
  obtain⟨y,m,rfl⟩:=rT.1 a;rw[m];exact⟨⟨t,rfl,λz e=>by cases e;exact⟨ht.1,ht.2.1⟩⟩,ar⟩
 .exact absurd (h.q.1 30) k
end
section
variable {w0 w w' w1:J}{bR:Nat->Prop}{d n ab most k c q:Nat}{l:eG}{S aC en:cm}{pages dK aK fX:O Nat}{T ao b8 dS j_:O aW}{tk cF:ad}{key:Key}{v:aa}{s:Int}{p:cc}{vs:O aa}
theorem dx.B9(h:dx w0 w bR d n l ab most S pages aK T b8 c)(hx:Ext w w')(e:Nat):ia w0 bR d n l ab most S b8 T w (c+e) w':=⟨0,S,pages,aK,b8,(h.ext hx).mono (Nat.le_add_right _ _),.ext S hx,rfl,.inl ⟨rfl,rfl⟩⟩
theorem ia.cat(hd:dL k S en w w1)(a:en.now=S.now)(hg:j9 S b8 en j_)(h:ia w0 bR d n l ab most en j_ ao w1 c w'):ia w0 bR d n l ab most S b8 ao w c w':=by
 obtain⟨cA,dv,dd,bd,bN,b,d2,bp,e⟩:=h;exact⟨k+cA,dv,dd,bd,bN,b,hd.trans d2,bp.trans a,hg.trans e⟩
theorem ia.pre(hx:Ext w w1)(h:ia w0 bR d n l ab most S b8 ao w1 c w'):ia w0 bR d n l ab most S b8 ao w c w':=ia.cat (.ext S hx) rfl (.inl ⟨rfl,rfl⟩) h
theorem HK(t:aW){K:J->Prop}(d:∀w',Var w' w.heap.size t.c 57->Ext w w'->K w'):aq (w.alloc (.cells aW.zero.c.toArray 57)) λa=>bC a w.heap.size (Array.toList t.c.toArray)/\Array.size t.c.toArray=21/\aq (setCells a w.heap.size 0 (Array.toList t.c.toArray)) K:=
 a_ (vs:=aW.zero.c) rfl λw1 b hx _=>⟨b.cd (by simp[aW.cf]) (aW.plain t),by simp[aW.cf],cK b (us:=t.c) (by simp[aW.cf]) rfl λw' e f _=>d w' e (Ext.cx hx f (bk _))⟩
theorem HL{x:aW}(hx:x.ok)(a:Src 1 w tk (ax (eS x.s.toNat x.p)))(g:tk.len<=tk.cap)(d:Src 1 w cF (ax (iA x.b.toNat x.u)))(h:cF.len<=cF.cap):aJ aj 51 #[tk,cF] w (λv w'=>v=.tuple #[.agg x.c.toArray,true]/\Ext w w'):=by
 obtain⟨k,e,_⟩:=x8 hx.k;obtain⟨j,f,i⟩:=rv hx.b;have hg:=hx.k;have hu:=hx.2;obtain⟨s,p,b,u⟩:=x;dsimp only at e f hg hu a d;subst e f;rw[dm]at a d;exact o_ a g d h hg i hu
end
def kD(T:O aW)(most:Nat)(t:aW):Int:=if t.e6 then (if (T.find? (fW t.s t.p)).isSome then 0 else if most<=T.length then 2 else 0) else 1
def ot(T:O aW)(most:Nat)(t:aW):O aW:=if kD T most t=0 then j8 T t else T
theorem HM{T:O aW}{t:aW}(c:kC T)(d:∀t∈T,eZ t.s t.p=true)(hg:eZ t.s t.p=true):(j8 T t).length=if (T.find? (fW t.s t.p)).isSome then T.length else T.length+1:=by
 have b:=x7 t.kv.1 t.kv.2 (T.map aW.kv);have a:=vh (k:=t.kv.1) (B6.2 c);rw[B5,c8]at b;rw[c8,show eJ (T.map aW.kv) t.kv.1=_ from x9 d hg]at a;rw[b]
 cases hf:T.find? (fW t.s t.p) with
 |none=>rw[hf]at a;simp at a⊢;omega
 |some x=>rw[hf]at a;simp at a⊢;omega
section
variable {w0 w w' w1:J}{bR:Nat->Prop}{d n ab most k c q:Nat}{l:eG}{S aC en:cm}{pages dK aK fX:O Nat}{T ao b8 dS j_:O aW}{s:Int}{p:cc}
theorem HN(h:dx w0 w bR d n l ab most S pages aK T b8 c)(hc:c<=20000){t:aW}(hu:t.u<18446744073709551616):aJ aj 43 #[.pointer (some ab),.agg t.c.toArray] w (λv w'=>v=.int .i64 (kD T most t)/\ia w0 bR d n l ab most S b8 (ot T most t) w (c+2) w'):=by
 refine ae.De (some ab) _ w _ ?_;(delta ae.qU an Y b6 aD iQ cl ml bW;dsimp only);refine a_ (vs:=t.c) rfl λw1 D Q ai=>cz (λb w'=>b= !t.e6/\Ext w1 w') (λk R=>⟨λh=>(by cases h),λ_=>⟨t.c,D.rd (aW.cf t),(nC t w1).use λv w' a=>by obtain⟨rfl,hx⟩:=a;exact⟨t.e6,rfl,R _ _ ⟨rfl,hx⟩⟩⟩⟩) ?_;rintro _ U ⟨rfl,E⟩;have y:=Q.trans E;refine⟨λg=>?_,λg=>?_⟩
 .have hg:t.e6=false:=by rwa[ib]at g
  have e:kD T most t=1:=by unfold kD;rw[hg];rfl
  refine⟨by rw[e],?_⟩;unfold ot;rw[e];exact h.B9 y 2
 have hg:t.e6=true:=by rwa[l5]at g
 have ht:t.ok:=⟨hg,hu⟩;have z:=D.ext E;refine⟨_,z.cell,_,xc z,(lA t.s t.p U).use ?_⟩;rintro _ V ⟨F,⟨hf,_⟩|⟨_,tk,rfl,X,A⟩⟩
 .rw[ht.k]at hf;cases hf
 have G:=z.ext F;refine⟨tk,true,rfl,_,Ah G,_,Ai G,(pe t.b hu V).use ?_⟩;rintro _ Z (⟨hf,_⟩|⟨_,cF,rfl,B,m,H⟩)
 .rw[ht.b]at hf;cases hf
 have o:=y.trans F;have J:=h.ext (o.trans m);have ak:=y.size;have al:=o.size;have am:=(o.trans m).size;have r:=X.ext m;refine⟨cF,true,rfl,_,rfl,_,J.v.cell,(J.get ht.k I r.src λq a=>⟨r.lt q a,h.new q (by have:=A q a;omega)⟩).use ?_⟩;rintro _ K ⟨⟨aa,rfl,_⟩,k,en,ao,bl,bL,i,d1,b2,L⟩;have N:∀q,w.heap.size<=q->¬S.W q:=λq a ac=>h.new q a ac.1;have O:∀q,w.heap.size<=q->q<Z.heap.size->¬en.T.M q:=λq a j C=>(d1.cS q C).elim (h.new q a) λ_=>by omega
 have ad:=r.src.ag d1.ag λq a=>N q (by have:=A q a;omega);have af:=B.src.ag d1.ag λq a=>N q (by have:=H q a;omega);have ap:=d1.ag.size;have f:=cH K;have P:kD T most t=0->aJ aj 27 #[.pointer (some en.st),tk,cF] K.drew (λv w'=>v=.int .i64 (kD T most t)/\ia w0 bR d n l ab most S b8 (ot T most t) w (c+2) w'):=λhe=>by
  have j:=HM h.p8 h.keys ht.k;have C:(j8 T t).length<=most/\(j8 T t).length<=T.length+1:=by
   have:=h.eL.1;unfold kD at he;rw[hg,if_pos rfl]at he;rw[j];split
   .omega
   .rename_i hs
    rw[if_neg hs]at he;split at he
    .cases he
    .omega
  refine((i.ext f).put ht C I (ad.ext f) (λq a=>⟨?_,O q (by have:=A q a;omega) (r.lt q a)⟩) (af.ext f) λq a=>⟨?_,O q (by have:=H q a;omega) (B.lt q a)⟩).mono ?_
  .have:=r.lt q a;have:=f.size;omega
  .have:=B.lt q a;have:=f.size;omega
  .rintro _ w' ⟨rfl,x⟩
   rw[he];refine⟨rfl,?_⟩;unfold ot;rw[he,if_pos rfl];exact((x.pre f).cat d1 b2 L).pre (o.trans m)
 have he:kD T most t=if (T.find? (fW t.s t.p)).isSome then 0 else if most<=T.length then 2 else 0:=by unfold kD;rw[hg,if_pos rfl]
 refine⟨aa,_,0,rfl,λh=>(by cases h),λ_=>aY ⟨λ_=>False,λg=>?_,λg=>?_⟩⟩
 .have hs:(T.find? (fW t.s t.p)).isSome=false:=by rwa[ib]at g
  rw[hs]at he;refine⟨_,rfl,id,_,(i.ext f).v.cell,(B3 (i.ext f).v (i.ext f).s.at_).use ?_⟩;rintro _ _ ⟨rfl,rfl⟩;rw[c8];refine⟨_,rfl,.refl _ _,λj=>?_,λj=>⟨_,rfl,_,(i.ext f).v.cell,(P ?_).use ?_⟩⟩
  .have:most<=T.length:=by have:=ck j;omega
   have e:kD T most t=2:=by rw[he,if_neg (by decide),if_pos this]
   refine⟨by rw[e],?_⟩;unfold ot;rw[e];exact(((i.B9 f 1)).cat d1 b2 L).pre (o.trans m)
  .have:¬most<=T.length:=by have:=cG j;omega
   rw[he,if_neg (by decide),if_neg this]
  .rintro _ ah ⟨rfl,x⟩
   exact⟨_,rfl,rfl,x⟩
 .have hs:(T.find? (fW t.s t.p)).isSome=true:=by rwa[l5]at g
  rw[hs,if_pos rfl]at he;refine⟨λh=>(by cases h),λ_=>⟨_,rfl,_,(i.ext f).v.cell,(P he).use ?_⟩⟩;rintro _ ah ⟨rfl,x⟩;exact⟨_,rfl,rfl,x⟩
end
section
variable {w0 w w' w1:J}{bR B:Nat->Prop}{d n ab most k c q i:Nat}{l:eG}{S aC en:cm}{pages dK aK fX:O Nat}{T ao b8 dS j_ Q:O aW}{s:Int}{p:cc}{x:aW}{ch:aW->al}{tl:ad}
theorem dx.scan(h:dx w0 w bR d n l ab most S pages aK T b8 c)(hc:c<=20000){a tt:ad}{fr to:Key}{m:Int}(hf:Src 1 w a (ax fr))(b:∀q,ay a q->q<w.heap.size/\¬S.T.M q)(ht:Src 1 w tt (ax to))(e:∀q,ay tt q->q<w.heap.size/\¬S.T.M q)(f:to.length<=1000000):
 aJ aj 102 #[.pointer (some S.st),a,tt,m] w (λv w'=>∃ (t:ad) (aC:cm),v=.tuple #[t,(0:Int)]/\dx w0 w' bR d n l ab most aC pages aK T b8 (c+1)/\dL 20000 S aC w w'/\k5 S aC/\e2 (λq=>¬aC.T.M q) w' t ((gq (T.map aW.kv) fr to).take m.toNat)):=by
 have k:=h.eL.1;have o:=h.oq;have g:=(h.s.at_.ok.low (by rw[c8];omega)).2;rw[c8]at g;have p:=h.s.aT;refine(Hv h.s.at_ (by rw[c8];omega) I I hf b ht e f).mono ?_;rintro v w' ⟨ao,hs,hd,he,_,⟨t,rfl,i⟩|⟨_,j⟩⟩
 .exact⟨t,_,rfl,h.read hs hd I he.gen he.pending rfl,hd.mono I,he,i⟩
 .exact absurd (h.q.1 _) j
theorem HO{K:al->J->J->Prop}(y:e2 B w tl (Q.map aW.kv))(hi:i<Q.length)(z:∀t∈Q,t.ok)(C:∀ (b d:J) (tk cF:ad),Ext w b->Ext w d->w.heap.size<b.heap.size->Var d w.heap.size [tk,cF] 198->Var d b.heap.size (Q[i]).c 57->bg B w tk (eS (Q[i]).s.toNat (Q[i]).p)->K true b d):
 ∃cX:ah,tl.a=some cX/\((0:Int)<=(i:Int)/\(i:Int)<(tl.len:Int))/\
  ∃e:ad,w.cell? (cX.add (Int.toNat (i:Int)*2))=some (.slice e.a e.len e.cap)/\
  ∃f:ad,w.cell? ((cX.add (Int.toNat (i:Int)*2)).add 1)=some (.slice f.a f.len f.cap)/\
  aq (w.alloc (.cells #[(),()] 198)) λo=>
  bC o w.heap.size [e,f]/\
  (2:Nat)=2/\aq (setCells o w.heap.size 0 [e,f]) λg=>
  ∃j:ad,g.cell? w.heap.size=some (.slice j.a j.len j.cap)/\
  ∃k:ad,g.cell? (Addr.add w.heap.size 1)=some (.slice k.a k.len k.cap)/\
  Calls aj 51 #[j,k] g λD b=>
  ∃l:Array aa,∃r:al,D=.returned (.tuple #[.agg l,r])/\
  aq (b.alloc (.cells aW.zero.c.toArray 57)) λu=>bC u b.heap.size (Array.toList l)/\Array.size l=21/\
  aq (setCells u b.heap.size 0 (Array.toList l)) λd=>K r b d:=by
 obtain⟨A,tk,cF,ar,E,F,G,b7,cA⟩:=BN y (i:=i) (by rw[c8];exact hi);rw[List.getElem_map]at b7 cA;refine⟨A,ar,E,tk,F,cF,G,a_ (vs:=[(),()]) rfl λo h H N=>⟨h.cd rfl (λv h=>?_),rfl,cK h (us:=[tk,cF]) rfl rfl λg q L O=>?_⟩⟩
 .simp only[cN,e3,fb]at h
  rcases h with rfl|rfl<;>trivial
 have m:Ext w g:=Ext.cx H L (bk _);refine⟨tk,q.cell,cF,by rw[aB];exact q.cell,(HL (z _ (cJ hi)) (b7.1.ext m) b7.2.1 (cA.1.ext m) cA.2.1).use ?_⟩;rintro _ b ⟨rfl,n⟩;have P:=n.size;exact⟨_,true,rfl,HK Q[i] λd M x=>C b d tk cF (m.trans n) ((m.trans n).trans x) I ((q.ext n).ext x) M b7⟩
end
section
variable {w0 w w' w1:J}{bR B:Nat->Prop}{d n ab most k c q i:Nat}{l:eG}{S aC en:cm}{pages dK aK fX:O Nat}{T ao b8 dS j_ Q:O aW}{s:Int}{p:cc}{x:aW}{ch:aW->al}{tl:ad}
theorem HP(hc:ch x=false):h_ T (Q++ [x]) ch=h_ T Q ch:=by
 unfold h_;refine qm λt _=>?_
 congr 1
 by_cases e:t=x
 .subst e;rw[hc,Bool.and_false,Bool.and_false]
 .congr 1
  rw[fh,cu,cu];simp[e]
theorem HQ(h:kC T)(a:∀t∈T,eZ t.s t.p=true)(b:x∈T)(hx:x∉Q)(hc:ch x=true):h_ T (Q++ [x]) ch=(h_ T Q ch).filter λt=> !fW x.s x.p t:=by
 rw[HJ h b hx a];unfold h_;refine qm λt _=>?_;by_cases e:t=x
 .subst e;simp[hc]
 .rw[ih e,Bool.not_false,Bool.and_true]
  congr 2
  rw[fh,cu,cu];simp[e]
def HR(S:cm)(w:J)(f:g8)(ch:aW->al):Prop:=gW aj f.f/\∀ (t:aW) (w':J),af S.W w w'->aJ aj f.f (f.pre++ #[.agg t.c.toArray]++f.cap) w' (λv a=>v=.bool (ch t)/\Ext w' a)
theorem HS(h:dx w0 w bR d n l ab most S pages aK T b8 c)(hc:c<=10000)(G:e2 (λq=>¬S.T.M q) w tl (Q.map aW.kv))(y:∀t∈Q,t∈T)(H:Q.Nodup){f:g8}(hf:HR S w f ch):
 aJ aj 104 #[.pointer (some ab),tl,.func (.func f.f) f.pre f.cap] w (λv w'=>v=.tuple #[.int .i64 ((Q.filter ch).length:Nat),(0:Int)]/\ia w0 bR d n l ab most S b8 (h_ T Q ch) w (c+(Q.filter ch).length) w'):=by
 refine okF (ae.tv (some ab) tl f) aw.tv func104 ?_;(delta ae.tv an aN r1 Y jT hC mm av;dsimp only);have X:=G.len;rw[c8]at X;have aA:Q.length<=400:=by
  have:=(H.length_le_of_subset y);have:=h.eL.1;have:=h.oq;omega
 refine⟨λg m w'=>∃ (i k:Nat) (b:cm) (r s:O Nat) (iT:O aW),m=(i:Int)/\i<=Q.length/\g=(((Q.take i).filter ch).length:Nat)/\dx w0 w' bR d n l ab most b r s (h_ T (Q.take i) ch) iT (c+((Q.take i).filter ch).length)/\dL k S b w w'/\b.now=S.now/\j9 S b8 b iT,
  λ_ m _=>((Q.length:Int)-m).toNat,⟨0,0,S,pages,aK,b8,rfl,cO _,rfl,?_,.ext S (.refl _ _),rfl,.inl ⟨rfl,rfl⟩⟩,?_⟩
 .have e:h_ T (Q.take 0) ch=T:=jJ.2 λt _=>by simp
  rw[e];exact h
 rintro _ _ Z ⟨i,k,b,r,s,iT,rfl,hi,rfl,u,d5,n5,z⟩;have aa:e2 (λq=>¬b.T.M q) Z tl (Q.map aW.kv):=G.Hz d5;refine⟨λaH=>?_,λJ=>?_⟩
 rotate_left
 .have J:=cG J
  have e:i=Q.length:=by omega
  subst e;rw[jI]at u⊢;exact⟨rfl,k,b,r,s,iT,u,d5,n5,z⟩
 have aH:=ck aH;have A:i<Q.length:=by omega
 have hx:=y _ (cJ A);have ac:=h.ok _ hx;have o:Q.take (i+1)=Q.take i++ [Q[i]]:=kG A;have ad:Q[i]∉Q.take i:=λah=>by
  have K:(Q.take (i+1)).Nodup:=H.sublist (rY _ _);rw[o]at K;exact(rV.1 K).2.2 _ ah _ (fi.2 rfl) rfl
 have p:(Q.take (i+1)).filter ch=(Q.take i).filter ch++if ch Q[i] then [Q[i]] else []:=by rw[o,jK,lf,List.filter_nil]
 refine cz (λg w'=>∃ (k:Nat) (j:cm) (B C:O Nat) (jq:O aW),g=(((Q.take (i+1)).filter ch).length:Nat)/\dx w0 w' bR d n l ab most j B C (h_ T (Q.take (i+1)) ch) jq (c+((Q.take (i+1)).filter ch).length)/\dL k S j w w'/\j.now=S.now/\j9 S b8 j jq) (λaB D=>?_) ?_
 rotate_left
 .rintro _ aC ⟨ai,j,B,C,jq,rfl,ak,d6,n6,al⟩
  rw[xZ I];exact⟨⟨i+1,ai,j,B,C,jq,rfl,I,rfl,ak,d6,n6,al⟩,by show((Q.length:Int)-((i+1:Nat):Int)).toNat<((Q.length:Int)-(i:Nat)).toNat;omega⟩
 refine HO aa A (λt ht=>h.ok t (y t ht)) λaD am tk cF aE L aF ao ap E=>⟨λa=>(by cases a),λ_=>⟨_,ap.rd (aW.cf _),hf.1,((hf.2 Q[i] am (c5 d5.ag (af.c7 (W:=λ_=>False) L) λ_ _ h=>h.elim)).use ?_)⟩⟩;rintro _ aq ⟨rfl,N⟩;have F:=L.trans N;refine⟨_,rfl,λa=>?_,λa=>?_⟩
 .have a:ch Q[i]=false:=by rwa[ib]at a
  rw[a]at p;rw[o,HP a,←o,p,if_neg (by decide),fk]at D;exact D _ _ ⟨_,b,r,s,iT,rfl,u.ext F,d5.trans (.ext b F),n5,z⟩
 .have a:ch Q[i]=true:=by rwa[l5]at a
  rw[a,if_pos rfl]at p;have P:=cH aq;have x:=F.trans P;have R:=u.ext x;have ar:=m_ ch (Q.take i);rw[cE]at ar;refine aY ⟨λ_=>False,_,rfl,id,_,R.v.cell,id,tk,((ao.ext N).ext P).cell,((R.del ac.k I (E.1.ext x) λq U=>⟨?_,(E.2.2 q U).1⟩).use ?_)⟩
  .have:=(E.2.2 q U).2
   have:=x.size;omega
  rintro _ aG ⟨rfl,aI,au,ax,ay,o5,V,d7,n7,az⟩;refine⟨_,0,rfl,λa=>(by cases a),λ_=>?_⟩;rw[←HQ h.p8 h.keys hx ad a,←o]at V;rw[xZ I,show((Q.take i).filter ch).length+1=((Q.take (i+1)).filter ch).length by rw[p,cn];rfl];refine D _ _ ⟨_,au,ax,ay,o5,rfl,?_,(d5.trans (.ext b x)).trans d7,n7.trans n5,z.trans az⟩;rw[p,cn];exact V
end
def kc(now:Nat)(t:aW):al:=decide (t.u<=now)
section
variable {w0 w w' w1:J}{bR B:Nat->Prop}{d n ab most k c q i b5 m:Nat}{l:eG}{S aC en:cm}{pages dK aK fX:O Nat}{T ao b8 dS j_ Q:O aW}{s b:Int}{p:cc}{x t:aW}{ch:aW->al}{tl:ad}{fr:Key}{L:O aI}
theorem B_(h:kC T)(f:hO T fr≠ []):(hO T fr).getLast? =T.getLast? :=by
 obtain⟨x,hx⟩:=ox _ f;obtain⟨c,a⟩:=gk.1 hx;have d:T≠ []:=List.ne_nil_of_mem c;obtain⟨ao,z,e⟩:∃ao z,T=ao++ [z]:=⟨T.dropLast,T.getLast d,(List.dropLast_concat_getLast d).symm⟩;subst e;have g:decide (dR fr z.kv.1)=true:=by
  rcases cD.1 c with b|b
  .have i:=(l4.1 h).2.2 x b z (fi.2 rfl)
   exact dO (wR (ck a) (g0 i))
  .rw[fi.1 b]at a;exact a
 unfold hO;rw[jK,lf,g];simp
theorem HT(h:kC T)(b:(hO T fr).length<=m):lS T (gf T fr m)=[]:=by
 unfold lS gf;rw[dT b];by_cases a:hO T fr=[]
 .rw[a];rfl
 .rw[B_ h a]
  cases T.getLast? with
  |none=>rfl
  |some t=>simp
theorem HU(h:kC T)(j:1<=m)(b:m<(hO T fr).length)(a:m-1<(gf T fr m).length):lS T (gf T fr m)=((gf T fr m)[m-1]'a).kv.1++ [0]:=by
 have c:(gf T fr m)[m-1]'a=(hO T fr)[m-1]'I:=m4 ..;have hlen:(gf T fr m).length=m:=by unfold gf;rw[cE];omega
 have f:(gf T fr m).getLast? =some ((hO T fr)[m-1]'I):=by
  rw[List.getLast?_eq_getElem?,hlen,←c,dr a]
 have g:hO T fr≠ []:=λe=>by rw[e]at b;cases b
 have i:kC (hO T fr):=List.Pairwise.filter _ h;unfold lS;rw[f,c,←B_ h g];show(if _ then _ else _)=_;rw[if_neg];intro e;rw[List.getLast?_eq_getElem?,dr I]at e;have d:=kI.1 i (m-1) ((hO T fr).length-1) I I I;rw[Option.some.inj e]at d;exact kU _ d
theorem HV(T:O aW)(fr:Key):gq (T.map aW.kv) fr []=(hO T fr).map aW.kv:=by
 unfold gq hO;rw[List.filter_map];refine congrArg _ (qm λt _=>?_);show(decide (dR fr t.kv.1)&&(true||_))=_;rw[Bool.true_or,Bool.and_true]
theorem e2.head(h:e2 B w tl L)(j:m<=L.length):e2 B w ⟨aU tl.a 2 0 tl.cap,m-0,tl.cap-0⟩ (L.take m):=by
 have k:=h.len;obtain⟨ps,d,f,g,b⟩:=h;have c:=Src.GW d f (cO m) (by have:=b.1;omega);have e:(ps.drop 0).take (m-0)=ps.take m:=by rw[iK,mY]
 rw[e]at c;exact⟨ps.take m,c,by show m-0<=tl.cap-0;omega,λq i=>g q (Fj.1 i),b.take m⟩
theorem HW{now:Nat}(b:Var w b5 [.int .u64 (now:Nat)] 23)(t:aW):aJ aj 105 #[.agg t.c.toArray,.pointer (some b5)] w (λv w'=>v=.bool (kc now t)/\Ext w w'):=by
 refine ae.Dl _ b5 w _ ?_;(delta ae.qW cl Y;dsimp only);refine a_ (vs:=t.c) rfl λw1 d a _=>⟨_,Ai d,_,(b.ext a).cell,?_,a⟩;unfold kc
 congr 1
 rw[fh,cu,cu];omega
theorem HX:gW aj 105:=⟨_,(qf (show(Tryz.prog.funcs[105]?).isSome=true by kernel_rfl)).symm,by kernel_rfl,by kernel_rfl⟩
def stM(m:Int):Nat:=(min m 64).toNat
theorem HY(h:dx w0 w bR d n l ab most S pages aK T b8 c)(hc:c<=9000){x:ad}{fr:Key}{now:Nat}{m:Int}(D:m<=9223372036854775807)(hf:Src 1 w x (ax fr))(E:∀q,ay x q->q<w.heap.size/\¬S.T.M q):
 aJ aj 45 #[.pointer (some ab),x,.int .u64 (now:Nat),m] w (λv w'=>∃t:ad,v=.tuple #[t,.int .i64 (((gf T fr (stM m)).filter (kc now)).length:Nat),(0:Int)]/\
  aV 1 5 w' t (ax (lS T (gf T fr (stM m))))/\(∀q,ay t q->w.heap.size<=q)/\∃ (k:Nat) (aC:cm) (dK fX:O Nat) (dS:O aW),dx w0 w' bR d n l ab most aC dK fX (h_ T (gf T fr (stM m)) (kc now)) dS (c+1+((gf T fr (stM m)).filter (kc now)).length)/\dL k S aC w w'/\aC.now=S.now/\j9 S b8 aC dS/\∀q,ay t q->¬aC.T.M q):=by
 refine okF (ae.ta (some ab) x (now:Nat) m) aw.ta func45 ?_;(delta ae.ta an dZ av r1 Y bG fQ;dsimp only);refine a_ (vs:=[.int .u64 (now:Nat)]) rfl λw1 af p aO=>⟨λb=>(by cases b),λ_=>⟨min m 64,w1,Hw _ _ _ _ _,λaH=>?_,λF=>?_⟩⟩
 .have aH:=ck aH
  have e:stM m=0:=by unfold stM;omega
  have ah:gf T fr (stM m)=[]:=by unfold gf;rw[e,List.take_zero]
  have ai:h_ T [] (kc now)=T:=jJ.2 λt _=>by simp
  rw[ah,ai];exact⟨⟨none,0,0⟩,rfl,aV.none _ _ _,λq a=>(fZ q a).elim,0,S,pages,aK,b8,(h.ext p).mono I,.ext S p,rfl,.inl ⟨rfl,rfl⟩,λq a=>(fZ q a).elim⟩
 have F:=cG F;obtain⟨M,G⟩:∃M,M=stM m:=⟨_,rfl⟩;have ak:min m 64=(M:Int):=by rw[G];unfold stM;omega
 rw[←G,ak];have al:1<=M/\M<=64:=by omega
 rw[xZ I];have H:=h.ext p;refine⟨_,rfl,_,H.v.cell,(H.scan I (tt:=bu) (to:=[]) (hf.ext p) (λq a=>⟨by have:=(E q a).1;omega,(E q a).2⟩) (GX w1) (λq a=>(fZ q a).elim) (by decide)).use ?_⟩;rintro _ J ⟨t6,y,rfl,K,d6,L,j⟩;rw[HV,dm]at j;obtain⟨Q,g⟩:∃Q,Q=gf T fr M:=⟨_,rfl⟩;have am:¬y.W w.heap.size:=λr=>(d6.cS _ r.1).elim (h.new _ (bk _)) λaP=>by omega
 have ao:=af.ag d6.ag λr=>h.new _ (bk _) r.1;have aR:=d6.ag.size;have hlen:=j.len;rw[cE,c8]at hlen;have N:Q.map aW.kv=((hO T fr).map aW.kv).take M:=by rw[g];exact k_
 refine⟨t6,0,rfl,λb=>(by cases b),λ_=>sB (λs P w'=>Ext J w'/\e2 (λq=>¬y.T.M q) w' P (Q.map aW.kv)/\aV 1 5 w' s (ax (lS T Q))/\∀q,ay s q->J.heap.size<=q) (λaS R=>⟨λb=>?_,λb=>?_⟩) ?_⟩
 .have b:=ck b
  have B:M<(hO T fr).length:=by omega
  have C:=j.head (m:=M) (by rw[cE,c8];omega);rw[oz,iL I,←N]at C;have aT:Q.length=M:=by rw[g];unfold gf;rw[cE];omega
  have U:M-1<Q.length:=by omega
  obtain⟨A,tk,cF,ar,ap,aQ,_,b7,_⟩:=BN C (i:=M-1) (by rw[c8];exact U);rw[List.getElem_map]at b7;have aq:IntKind.wrap .i64 ((M:Int)-1)=((M-1:Nat):Int):=by rw[bw I I];omega
  rw[aq,dm];have aU:=j.choose_spec.2.1;refine⟨I,A,ar,ap,tk,aQ,a_ (vs:=[.int .u8 0]) rfl λaX au V aZ=>aY ((Ab (la:=Q[M-1].kv.1) (lb:=[0]) (b7.1.ext V) (au.q_ (o:=0) (n:=1) (c:=1) (l:=[0]) (by decide) rfl) ?_).use ?_)⟩
  .have az:cq Q[M-1].kv.1:=vk
   unfold cq at az;show _+1<=1000;omega
  rintro _ a0 ⟨aA,rfl,aB,aD,aE⟩;have X:=V.trans aD;refine⟨aA,rfl,R _ _ _ ⟨X,C.ext X,?_,λq a=>by have:=aE q a;omega⟩⟩;have e:lS T Q=Q[M-1].kv.1++ [0]:=by
   subst g;exact HU h.p8 al.1 B U
  rw[e];exact aB
 .have b:=cG b
  have B:(hO T fr).length<=M:=by omega
  have e:lS T Q=[]:=by rw[g];exact HT h.p8 B
  refine R _ _ _ ⟨.refl _ _,?_,?_,λq a=>(fZ q a).elim⟩
  .rw[N]
   rw[dT (by rw[c8];omega)]at j⊢;exact j
  .rw[e];exact aV.none _ _ _
 .rintro s P a1 ⟨z,aF,Z,aa⟩
  have a2:=z.size;refine(HS (f:=⟨105,#[],#[.pointer (some w.heap.size)]⟩) (ch:=kc now) (K.ext z) I aF (λt ht=>?_) ?_ ⟨HX,λt w' hc=>HW ((ao.ext z).ag hc am) t⟩).use ?_
  .rw[g]at ht
   exact(gk.1 (fu ht)).1
  .rw[g]
   exact(h.p8.nodup.filter _).sublist (rY _ _)
  rintro _ a3 ⟨rfl,a4,aG,aI,aL,o5,aM,d7,n7,aN⟩;rw[←g];have ac:∀q,ay s q->¬y.T.M q:=λq a=>K.new q (aa q a);exact⟨_,0,rfl,λb=>(by cases b),λ_=>⟨s,rfl,Z.ag d7.ag λq a r=>ac q a r.1,λq a=>by have:=aa q a;omega,_,aG,aI,aL,o5,aM,(((dL.ext S p).trans d6).trans (.ext y z)).trans d7,n7.trans L.now,j9.trans (.inl ⟨by rw[L.u],rfl⟩) aN,λq a D=>(d7.cS q D).elim (ac q a) λa5=>by have:=Z.lt q a;omega⟩⟩
end
section
variable {w0 w w' w1:J}{bR bE:Nat->Prop}{d n ab cT most k c q:Nat}{l:eG}{S aC en:cm}{pages dK aK fX:O Nat}{T ao b8 dS j_:O aW}{s:ad}
theorem dx.grow(h:dx w0 w bR d n l ab most S pages aK T b8 c)(hx:Ext w w')(a:∀q,bE q->bR q\/(w.heap.size<=q/\q<w'.heap.size))(b:bE ab):dx w0 w' bE d n l ab most (S.own bE) pages aK T b8 c:=
 ⟨h.s.grow hx a,h.live,h.q,b,h.v.ext hx,h.ok,h.B7,h.vl,h.B8,h.eL,h.oq,h.cg,h.p8⟩
theorem dx.j5(h:dx w0 w bR d n l ab most S pages aK T b8 c)(a:bR q)(b:ab≠q)(hc:af (λx=>x=q) w w'):dx w0 w' bR d n l ab most S pages aK T b8 c:={h with s:=h.s.j5 a hc,v:=h.v.ag hc b}
structure iH(cT:Nat)(S:cm)(b8:O aW)(w:J)(aC:cm)(dS:O aW)(w':J):Prop where
 now:aC.now=S.now
 g:j9 S b8 aC dS
 ag:af (λq=>S.W q\/q=cT) w w'
 cS:∀q,aC.T.M q->S.T.M q\/w.heap.size<=q
 E:aC.T.E=S.T.E
 st:aC.st=S.st
theorem iH.ext(hx:Ext w w'):iH cT S b8 w S b8 w':=⟨rfl,.inl ⟨rfl,rfl⟩,af.c7 hx,λ_ h=>.inl h,rfl,rfl⟩
theorem iH.of(hd:dL k S aC w w')(a:aC.now=S.now)(hg:j9 S b8 aC dS):iH cT S b8 w aC dS w':=⟨a,hg,hd.ag.mono λ_ _ h=>.inl h,hd.cS,hd.E,hd.st⟩
theorem iH.trans{c:cm}{d:O aW}{e:J}(h:iH cT S b8 w aC dS w')(a:iH cT aC dS w' c d e):iH cT S b8 w c d e:=
 ⟨a.now.trans h.now,h.g.trans a.g,c5 h.ag a.ag λq f b=>b.imp (λb=>⟨(h.cS q b.1).resolve_right I,λhe=>by rw[←h.st];exact b.2 (by rw[h.E];exact he)⟩) id,λq f=>(a.cS q f).elim (h.cS q) λi=>.inr (eH h.ag.size i),a.E.trans h.E,a.st.trans h.st⟩
theorem iH.HZ(h:iH cT S b8 w aC dS w'){a:J}(hc:af (λq=>q=cT) w' a):iH cT S b8 w aC dS a:={h with ag:=h.ag.trans (hc.mono λ_ _ h=>.inr h)}
end
section
variable {w0 w w' w1:J}{bR bE:Nat->Prop}{d n ab cT most k c q:Nat}{l:eG}{S aC en:cm}{pages dK aK fX:O Nat}{T ao b8 dS j_:O aW}
theorem pE{most b:Nat}(o:1<=most/\most<=350)(f:b<256)(w:J):aJ aj 36 #[most,.int .u8 (b:Nat)] w (λv w'=>∃ (ab d:Nat) (S:cm),v=.tuple #[.pointer (some ab),.pointer (some d),true]/\dx w w' (λq=>q=ab) d (4*most+64) (p7 b) ab most S [] [] [] [] 0/\S.u=iG/\S.now=iG.clock):=by
 refine okF (ae.pE (most:Nat) (b:Nat)) aw.pE func36 ?_;delta ae.pE gY av zt;have p:IntKind.wrap .i64 ((IntKind.wrap .i64 (4*(most:Int)))+64)=((4*most+64:Nat):Int):=by
  rw[bw (n:=4*(most:Int)) I I,bw I I];omega
 rw[p,HD f];refine(o8 (n:=4*most+64) I I w).use ?_;rintro _ w1 ⟨d,lb,mr,rfl,hd,r,s⟩;refine⟨_,0,rfl,by decide,(nR (b:=b) (d:=b/16) f I w1).use ?_⟩;rintro _ B ⟨rfl,g⟩;refine⟨_,_,_,rfl,(Hy (l:=p7 b) (bR:=λ_=>False) (hd.ext g) (HC b) (λk=>⟨.inl rfl,.inl rfl⟩) rfl (by show 0<=999999000;omega) (λq h=>h.elim)).use ?_⟩;rintro _ c ⟨e,rfl,x,a,hu,hg⟩;have i:=gx.new (w0:=w) (r.trans g) x a hu hg (λq j=>s q j) (λq h=>h.elim) rfl rfl;have y:(pY (4*most+64) d lb mr).n=4*most+64:=by show(List.replicate _ gR).length=_;rw[l7]
 rw[y]at i;refine⟨_,0,rfl,(o9 c (most:Nat)).use ?_⟩;rintro _ C ⟨z,⟨A,_⟩|⟨_,rfl,m⟩⟩
 .exfalso
  rcases A with h|h|h
  .cases h
  .omega
  .omega
 have D:=m.lt;refine⟨_,0,rfl,c.heap.size,d,e.own λq=>q=c.heap.size,rfl,⟨i.grow z λq j=>.inr I,a.live,a.q,rfl,m,λt ht=>(by cases ht),λt ht=>(by cases ht),?_,λ_=>rfl,⟨cO _,cO _⟩,⟨o.1,I⟩,rfl,List.Pairwise.nil⟩,hu,a.now.trans (by rw[hu])⟩;rw[show(e.own λq=>q=c.heap.size).pending=e.pending from rfl,a.om];show 0<1+b%12;omega
end
section
variable {w0 w w' w1:J}{bR bE:Nat->Prop}{d n ab cT b most eA k c q i a m:Nat}{l:eG}{S aC en:cm}{pages dK aK fX:O Nat}{T ao b8 dS j_ Ca Q:O aW}{s t:ad}{fr vm:Key}{kE:TypeId}{st:aW->al}
theorem H0(h:1<=eA/\eA<=64):stM (eA:Nat)=eA:=by unfold stM;omega
structure jc(S:cm)(w:J)(kE:TypeId)(b p eA:Nat)(s:ad)(fr:Key):Prop where
 v:Var w b [.pointer (some p),s,eA] kE
 rJ:Src 1 w s (ax fr)
 c:s.len<=s.cap
 lT:∀q,ay s q->¬S.T.M q/\q<w.heap.size
 e:S.T.E b/\b≠S.st
theorem jc.M{p:Nat}(h:jc S w kE b p eA s fr):S.T.M b:=.inr (.inr (.inr (.inl h.e.1)))
theorem jc.to{p:Nat}(h:jc S w kE b p eA s fr)(t:iH cT S b8 w aC dS w')(f:S.T.M cT)(g:b≠cT):jc aC w' kE b p eA s fr:=
 ⟨h.v.ag t.ag λa=>a.elim (λa=>h.e.2 (a.2 h.e.1)) g,h.rJ.ag t.ag λq d a=>a.elim (λa=>(h.lT q d).1 a.1) λe=>(h.lT q d).1 (e▸f),h.c,λq d=>⟨λi=>(t.cS q i).elim (h.lT q d).1 λj=>by have:=(h.lT q d).2;omega,by have:=(h.lT q d).2;have:=t.ag.size;omega⟩,by rw[t.E,t.st];exact h.e⟩
theorem jc.ext{p:Nat}(h:jc S w kE b p eA s fr)(hx:Ext w w'):jc S w' kE b p eA s fr:=⟨h.v.ext hx,h.rJ.ext hx,h.c,λq a=>⟨(h.lT q a).1,e_ (h.lT q a).2 hx.size⟩,h.e⟩
theorem jc.put{p:Nat}(h:jc S w kE b p eA s fr)(ht:Src 1 w t (ax vm))(hc:t.len<=t.cap)(c:∀q,ay t q->¬S.T.M q/\q<w.heap.size):
 (∃u:aa,w.cell? (Addr.add b 1)=some u)/\w.frozen? (Addr.add b 1)=false/\jc S (w.setCell (Addr.add b 1) t) kE b p eA t vm/\af (λq=>q=b) w (w.setCell (Addr.add b 1) t):=by
 rw[aB,cQ];obtain⟨b7,cA⟩:=ek h.v (i:=1) (by show 1<3;decide);have d:=dJ w b 1 t;exact⟨b7,cA,⟨ej h.v (i:=1) _,ht.ag d λq a e=>(c q a).1 (e▸h.M),hc,λq a=>⟨(c q a).1,e_ (c q a).2 d.size⟩,h.e⟩,d⟩
end
section
variable {w0 w w' w1:J}{bR bE:Nat->Prop}{d n ab cT b most eA k c q i a m now:Nat}{l:eG}{S aC en:cm}{pages dK aK fX:O Nat}{T ao b8 dS j_ Ca Q:O aW}{s t sl:ad}{fr vm:Key}{kE:TypeId}{st:aW->al}
theorem lz{p:ah}(b:1<=eA/\eA<=64)(w:J):aJ aj 10 #[.pointer (some p),eA] w (λv w'=>v=.tuple #[.pointer (some w.heap.size),(0:Int)]/\Ext w w'/\Var w' w.heap.size [.pointer (some p),(),eA] 110):=by
 refine okF (ae.lz (some p) (eA:Nat)) aw.lz func10 ?_;delta ae.lz an Y;refine⟨λh=>?_,λ_=>a_ (vs:=[.pointer (some p),(),eA]) rfl λw1 a hx _=>⟨rfl,hx,a⟩⟩;rw[ih I,ih I]at h;cases h
theorem H2{p:au ah}{m:Int}(h:((Option.isNone p||decide (m<1))||decide (m>64))=true)(w:J):aJ aj 10 #[.pointer p,m] w (λv w'=>v=.tuple #[.pointer none,(1:Int)]/\w=w'):=by
 refine okF (ae.lz p m) aw.lz func10 ?_;delta ae.lz an Y;exact⟨λ_=>⟨rfl,rfl⟩,λa=>by rw[h]at a;cases a⟩
theorem H3(h:dx w0 w bR d n l ab most S pages aK T b8 c)(hs:jc S w 110 b ab eA s fr)(x:bR b)(j:ab≠b)(hc:c<=9000)(y:1<=eA/\eA<=64):
 aJ aj 11 #[.pointer (some b),.int .u64 (now:Nat)] w (λv w'=>v=.tuple #[.int .i64 (((gf T fr eA).filter (kc now)).length:Nat),(0:Int)]/\∃ (aC:cm) (dd p:O Nat) (dS:O aW) (z:ad),
  dx w0 w' bR d n l ab most aC dd p (h_ T (gf T fr eA) (kc now)) dS (c+1+((gf T fr eA).filter (kc now)).length)/\iH b S b8 w aC dS w'/\jc aC w' 110 b ab eA z (lS T (gf T fr eA))):=by
 refine okF (ae.nz (some b) (now:Nat)) aw.nz func11 ?_;(delta ae.nz an r1 aD wa st;dsimp only);have f:=cH w;have e:=h.ext f;have s1:=hs.ext f;have xB:iH b S b8 w S b8 w.drew:=.ext f;refine⟨λg=>(by cases g),λ_=>aY ?_⟩;generalize w.drew=w1 at e s1 xB;refine⟨λ_=>False,_,rfl,id,_,s1.v.cell,_,rfl,id,s,by rw[aB];exact s1.v.cell,_,rfl,id,_,by rw[aB];exact s1.v.cell,?_⟩;have o:=HY (now:=now) (m:=(eA:Nat)) e hc I s1.rJ λq a=>⟨(s1.lT q a).2,(s1.lT q a).1⟩;rw[H0 y]at o;refine o.use ?_;rintro _ F ⟨t,rfl,i,hf,k,A,dd,p,fy,B,d9,n9,r,C⟩;have D:=s1.to (iH.of (cT:=ab) d9 n9 r) (.inr (.inr (.inr (.inl (e.s.p6 e.x_).1)))) j.symm;obtain⟨b7,cA,E,u⟩:=D.put i.src i.2.1 λq a=>⟨C q a,i.lt q a⟩;exact⟨t,_,_,rfl,λg=>(by cases g),λ_=>⟨_,rfl,b7,cA,aY ⟨rfl,A,dd,p,fy,t,B.j5 x j u,(xB.trans (.of d9 n9 r)).HZ u,E⟩⟩⟩
end
def H4(i:Nat):cc:=⟨⟨false,[0,0,0,0,0,0,0,0,0,0,0,0,10,0,0,UInt8.ofNat i],rfl⟩,32⟩
def jm(i b u:Nat):aW:=⟨7,H4 i,(b:Nat),u⟩
section
variable {w0 w w' w1:J}{bR bE:Nat->Prop}{d n ab cT most k c q i:Nat}{l:eG}{S aC en:cm}{pages dK aK fX:O Nat}{T ao b8 dS j_:O aW}{t x:aW}
end
section
variable {w0 w w' w1:J}{bR bE:Nat->Prop}{d n ab cT b nb most eA k c q i a m now:Nat}{l:eG}{S aC en:cm}{pages dK aK fX:O Nat}{T ao b8 dS j_ Ca Q L:O aW}{s t sl ls:ad}{fr vm:Key}{kE:TypeId}{st:aW->al}
def Cb:cc:=⟨⟨false,[0,0,0,0,0,0,0,0,0,0,0,0,0,0,0,0],rfl⟩,0⟩
def mW:aW:=⟨1,Cb,0,5⟩
theorem H5(w:J):aJ aj 13 #[] w (λv w'=>v=true/\Ext w w'):=by
 refine ae.DH w _ ?_;delta ae.q7 zr an bW gY fQ;refine(pE (most:=5) (b:=1) (by decide) (by decide) w).use ?_;rintro _ w1 ⟨ab,d,u,rfl,a0,_⟩;refine⟨_,_,_,rfl,λh=>(by cases h),λ_=>⟨Cb.c.toArray,by kernel_rfl,mW.c.toArray,by kernel_rfl,(HN a0 I (t:=mW) (by decide)).use ?_⟩⟩;have g:kD [] 5 mW=0:=by decide+kernel
 have m:ot [] 5 mW=[mW]:=by unfold ot;rw[g];rfl
 rw[g,m];rintro _ a ⟨rfl,b7,en,y,bl,bL,a1,_⟩;refine⟨_,rfl,(lz (eA:=3) (by decide) a).use ?_⟩;rintro _ i ⟨rfl,n,j⟩;have z:=j.lt;have A:=a1.v.lt;have d_:=a1.grow (bE:=λq=>q=ab\/q=a.heap.size) n (λq f=>f.imp id λe=>I) (.inl rfl);have o:jc _ i 110 a.heap.size ab 3 ⟨none,0,0⟩ []:=⟨j,(aV.none 1 5 i).src,bk _,λq f=>(fZ q f).elim,d_.s.p6 (.inr rfl)⟩;refine⟨_,_,rfl,(H3 (now:=5) d_ o (.inr rfl) I I (by decide)).use ?_⟩;have l:((gf [mW] [] 3).filter (kc 5)).length=1/\(h_ [mW] (gf [mW] [] 3) (kc 5)).length=0:=by decide+kernel
 rw[l.1];rintro _ p ⟨rfl,dv,B,bd,bN,s2,a2,_⟩;refine⟨_,_,rfl,cz (λb w'=>b=true/\p=w') (λk r=>⟨λ_=>(B3 a2.v a2.s.at_).use ?_,λh=>(by cases h)⟩) ?_⟩
 .rintro _ _ ⟨rfl,rfl⟩
  rw[c8,l.2];exact⟨_,rfl,r _ _ ⟨rfl,rfl⟩⟩
 .rintro _ _ ⟨rfl,rfl⟩
  exact⟨rfl,a2.s.x⟩
theorem H6(now:Int)(w:J):aJ aj 5 #[.int .u64 now] w (λv w'=>v=true/\Ext w w'):=by
 refine okF (ae.uk now) aw.uk func5 ?_;delta ae.uk fQ gY an bG b6;have c:aJ aj 11 #[.pointer none,.int .u64 now] w (λv w'=>v=.tuple #[(0:Int),(1:Int)]/\w=w'):=by
  refine okF (ae.nz none now) aw.nz func11 ?_;(delta ae.nz an r1 aD wa st;dsimp only);exact⟨λ_=>⟨rfl,rfl⟩,λh=>(by cases h)⟩
 have d:aJ aj 14 #[.pointer none,.int .u64 now] w (λv w'=>v=.tuple #[(0:Int),(1:Int)]/\w=w'):=by
  refine okF (ae.s6 none now) aw.s6 func14 ?_;(delta ae.s6 an st fQ r1 av;dsimp only);exact⟨λ_=>⟨rfl,rfl⟩,λh=>(by cases h)⟩
 have e:aJ aj 12 #[.pointer none] w (λv w'=>v=()/\w=w'):=by
  refine okF (ae.s5 none) aw.s5 func12 ?_;(delta ae.s5 sS an r1 bG;dsimp only);exact⟨λ_=>⟨rfl,rfl⟩,λh=>(by cases h)⟩
 refine c.use ?_;rintro _ _ ⟨rfl,rfl⟩;refine⟨_,_,rfl,d.use ?_⟩;rintro _ _ ⟨rfl,rfl⟩;refine⟨_,_,rfl,(H2 (p:=none) (m:=5) rfl w).use ?_⟩;rintro _ _ ⟨rfl,rfl⟩;refine⟨_,_,rfl,cz (λb w'=>b=true/\w=w') (λk a=>⟨λ_=>e.use ?_,λh=>(by cases h)⟩) ?_⟩
 .rintro _ _ ⟨rfl,rfl⟩
  exact⟨⟨none,0,0⟩,rfl,a _ _ ⟨rfl,rfl⟩⟩
 rintro _ _ ⟨rfl,rfl⟩;refine cz (λb w'=>b=true/\Ext w w') (λk a=>⟨λ_=>(H5 w).use ?_,λh=>(by cases h)⟩) ?_
 .rintro _ ai ⟨rfl,hx⟩
  exact⟨true,rfl,a _ _ ⟨rfl,hx⟩⟩
 .rintro _ ai ⟨rfl,hx⟩
  exact⟨rfl,hx⟩
end
end Go.Proofs.YtcmgnhkpfllinaaGreat
