/- Contracts of the functions that the statement reaches, and the plain laws over them; each theorem stands with its conditions. -/
import Derived.Laws.Externs
import Derived.Laws.Small
import Derived.Lib.Builder
import Derived.Lib.Bytealg
import Derived.Lib.ConvBytes
import Derived.Lib.MakeNoZero
import Derived.Lib.SlBytesConst
import Derived.Lib.UnsafeStr
import Derived.Test.YtcmgnhkpfllinaaGreatVFPlays2
namespace Go.Proofs.YtcmgnhkpfllinaaGreat
abbrev Key:=O UInt8
abbrev aY:=Key×Key
def e0:Key->Key->Int
 | [],[]=>0
 | [],_::_=> -1
 |_::_,[]=>1
 |a::x,b::y=>if a.toNat<b.toNat then -1 else if b.toNat<a.toNat then 1 else e0 x y
theorem Hn{a b:UInt8}(h1:¬a.toNat<b.toNat)(c:¬b.toNat<a.toNat):a=b:=qm.1 I
theorem zg:∀a:Key,e0 a a=0
 | []=>rfl
 |a::x=>by simp[e0,zg x]
theorem zh:∀ {a b:Key},e0 a b=0->a=b
 | [],[],_=>rfl
 | [],_::_,h=>by simp[e0]at h
 |_::_,[],h=>by simp[e0]at h
 |a::x,b::y,h=>by
  unfold e0 at h
  split at h
  .cases h
  .rename_i h1
   split at h
   .cases h
   .rename_i c
    rw[Hn h1 c,zh h]
theorem Ho{a b:Key}:e0 a b=0↔a=b:=⟨zh,λh=>h▸zg _⟩
theorem CD:∀a b:Key,e0 a b= -1\/e0 a b=0\/e0 a b=1
 | [],[]=>.inr (.inl rfl)
 | [],_::_=>.inl rfl
 |_::_,[]=>.inr (.inr rfl)
 |a::x,b::y=>by
  unfold e0
  split
  .exact .inl rfl
  .split
   .exact .inr (.inr rfl)
   .exact CD x y
theorem CE:∀a b:Key,e0 b a=-e0 a b
 | [],[]=>rfl
 | [],_::_=>rfl
 |_::_,[]=>rfl
 |a::x,b::y=>by
  unfold e0
  by_cases h1:a.toNat<b.toNat
  .have c:¬b.toNat<a.toNat:=I
   simp[h1,c]
  .by_cases c:b.toNat<a.toNat
   .simp[h1,c]
   .simp only[h1,c,if_false]
    exact CE x y
theorem CF:∀ {a b c:Key},e0 a b<0->e0 b c<0->e0 a c<0
 | [],[],_,h,_=>by simp[e0]at h
 | [],_::_,[],_,h=>by simp[e0]at h
 | [],_::_,_::_,_,_=>by simp[e0]
 |_::_,[],_,h,_=>by simp[e0]at h
 |_::_,_::_,[],_,h=>by simp[e0]at h
 |a::x,b::y,c::z,h1,d=>by
  unfold e0 at h1 d⊢
  by_cases a1:a.toNat<b.toNat
  .by_cases a2:b.toNat<c.toNat
   .rw[if_pos I];decide
   .rw[if_neg a2]at d
    by_cases a3:c.toNat<b.toNat
    .rw[if_pos a3]at d;omega
    .rw[if_pos I];decide
  .rw[if_neg a1]at h1
   by_cases a2:b.toNat<a.toNat
   .rw[if_pos a2]at h1;omega
   .rw[if_neg a2]at h1
    by_cases a3:b.toNat<c.toNat
    .rw[if_pos I];decide
    .rw[if_neg a3]at d
     by_cases a4:c.toNat<b.toNat
     .rw[if_pos a4]at d;omega
     .rw[if_neg a4]at d
      rw[if_neg I,if_neg I]
      exact CF h1 d
def b9(a b:Key):Prop:=e0 a b<0
def g6(a b:Key):Prop:=¬e0 b a<0
instance (a b:Key):Decidable (b9 a b):=by unfold b9;infer_instance
instance (a b:Key):Decidable (g6 a b):=by unfold g6;infer_instance
theorem nr{a b c:Key}(h1:b9 a b)(d:b9 b c):b9 a c:=CF h1 d
theorem rM(a:Key):¬b9 a a:=by unfold b9;rw[zg];decide
theorem l3{a b:Key}(h:b9 a b):¬b9 b a:=λc=>rM a (nr h c)
theorem zi(a b:Key):b9 a b\/a=b\/b9 b a:=by
 unfold b9;have h:=CE a b;rcases CD a b with h1|h1|h1
 .exact .inl I
 .exact .inr (.inl (zh h1))
 .exact .inr (.inr I)
theorem pP{a b:Key}:g6 a b↔b9 a b\/a=b:=by
 constructor
 .intro h
  rcases zi a b with h1|h1|h1
  .exact .inl h1
  .exact .inr h1
  .exact absurd h1 h
 .rintro(h|rfl)
  .exact l3 h
  .exact rM _
theorem Hp(a:Key):g6 a a:=rM a
theorem jU{a b:Key}(h:b9 a b):g6 a b:=pP.2 (.inl h)
theorem CG{a b:Key}:¬b9 a b↔g6 b a:=kO
theorem pQ{a b c:Key}(h1:b9 a b)(d:g6 b c):b9 a c:=by
 rcases pP.1 d with h|rfl
 .exact nr h1 h
 .exact h1
theorem lD{a b c:Key}(h1:g6 a b)(d:b9 b c):b9 a c:=by
 rcases pP.1 h1 with h|rfl
 .exact nr h d
 .exact d
theorem CH{a b c:Key}(h1:g6 a b)(d:g6 b c):g6 a c:=by
 rcases pP.1 h1 with h|rfl
 .exact jU (pQ h d)
 .exact d
def kA(l:O aY):Prop:=l.Pairwise λa b=>b9 a.1 b.1
def h3(l:O aY)(k v:Key):O aY:=(l.filter λp=>decide (b9 p.1 k))++(k,v)::l.filter λp=>decide (b9 k p.1)
def e7(l:O aY)(k:Key):O aY:=l.filter λp=>decide (p.1≠k)
def fP(l:O aY)(k:Key):an Key:=(l.find? λp=>decide (p.1=k)).map (·.2)
def fF(lo hi:an Key)(k:Key):Prop:=(∀a,lo=some a->g6 a k)/\(∀b,hi=some b->b9 k b)
theorem Hq{a b:O aY}{k v:Key}(h:∀p∈b,b9 k p.1):h3 (a++b) k v=h3 a k v++b:=by
 have d:b.filter (λp=>decide (b9 p.1 k))=[]:=sx.2 λp c=>by simpa using l3 (h p c)
 have e:b.filter (λp=>decide (b9 k p.1))=b:=mZ.2 λp c=>dm (h p c);unfold h3;rw[lR,lR,d,e,fO,cU,o0]
theorem Hr{a b:O aY}{k v:Key}(h:∀p∈a,b9 p.1 k):h3 (a++b) k v=a++h3 b k v:=by
 have d:a.filter (λp=>decide (b9 p.1 k))=a:=mZ.2 λp c=>dm (h p c);have e:a.filter (λp=>decide (b9 k p.1))=[]:=sx.2 λp c=>by simpa using l3 (h p c)
 unfold h3;rw[lR,lR,d,e,lh,cU]
theorem tJ(a b:O aY)(k:Key):e7 (a++b) k=e7 a k++e7 b k:=lR ..
theorem tK{a:O aY}{k:Key}(h:∀p∈a,p.1≠k):e7 a k=a:=mZ.2 λp b=>dm (h p b)
theorem oB{a b:Key}(h:b9 a b):a≠b:=λe=>rM b (e▸h)
theorem Hs{a b:O aY}:kA (a++b)↔kA a/\kA b/\∀p∈a,∀q∈b,b9 p.1 q.1:=m0
theorem Ht{l:O aY}{k v:Key}{p:aY}:p∈h3 l k v↔p=(k,v)\/(p∈l/\p.1≠k):=by
 unfold h3;rw[cE,cN,j4,j4,cq,cq];constructor
 .rintro(⟨h,a⟩|rfl|⟨h,a⟩)
  .exact .inr ⟨h,oB a⟩
  .exact .inl rfl
  .exact .inr ⟨h,(oB a).symm⟩
 .rintro(rfl|⟨h,a⟩)
  .exact .inr (.inl rfl)
  .rcases zi p.1 k with b|b|b
   .exact .inl ⟨h,b⟩
   .exact absurd b a
   .exact .inr (.inr ⟨h,b⟩)
end Go.Proofs.YtcmgnhkpfllinaaGreat
namespace Go.Proofs.YtcmgnhkpfllinaaGreat
variable{ks:O Key}{kids p:O Nat}{L:O aY}
structure aA where
 leaf:ag
 keys:O Key
 vals:O Key
 kids:O Nat
 deriving DecidableEq
abbrev Below:=an Key->an Key->Nat->O Nat->O aY->Prop
inductive ef (W:Below):an Key->an Key->O Key->O Nat->O Nat->O aY->Prop
 |one {lo hi:an Key}{k:Nat}{p:O Nat}{L:O aY} (h:W lo hi k p L):ef W lo hi [] [k] p L
 |cons {lo hi:an Key}{s:Key}{k:Nat}{bm bt:O Nat}{bC b8:O aY}{ks:O Key}{kids:O Nat} (h:W lo (some s) k bm bC) (t:ef W (some s) hi ks kids bt b8):
  ef W lo hi (s::ks) (k::kids) (bm++bt) (bC++b8)
variable {W:Below}{lo hi:an Key}
theorem ef.len(h:ef W lo hi ks kids p L):kids.length=ks.length+1:=by
 induction h with
 |one _=>rfl
 |cons _ _ a=>simp[a]
theorem ef.app{s:Key}{jC lE:O Key}{jV mH bm bt:O Nat}{bC b8:O aY}(h1:ef W lo (some s) jC jV bm bC)(b:ef W (some s) hi lE mH bt b8):
 ef W lo hi (jC++s::lE) (jV++mH) (bm++bt) (bC++b8):=by
 generalize a:some s=m at h1
 induction h1 with
 |one h=>subst a;exact .cons h b
 |cons h t c=>
  rw[cU,cU];exact .cons h (c a)
theorem ef.cut:∀ {jC:O Key}{s:Key}{lE:O Key}{lo:an Key}{kids p:O Nat}{L:O aY},ef W lo hi (jC++s::lE) kids p L->
 ∃ (jV mH bm bt:O Nat) (bC b8:O aY),kids=jV++mH/\p=bm++bt/\L=bC++b8/\ef W lo (some s) jC jV bm bC/\ef W (some s) hi lE mH bt b8
 | [],s,lE,lo,kids,p,L,h=>by
  cases h with
  |cons h t=>exact⟨_,_,_,_,_,_,rfl,rfl,rfl,.one h,t⟩
 |a::jC,s,lE,lo,kids,p,L,h=>by
  cases h with
  |cons h t=>
   obtain⟨bJ,b4,bm,bt,bC,b8,rfl,rfl,rfl,h1,b⟩:=ef.cut t
   exact⟨_::bJ,b4,_++bm,bt,_++bC,b8,rfl,by rw[cU],by rw[cU],.cons h h1,b⟩
theorem ef.mono{V:Below}(h:ef W lo hi ks kids p L)(a:∀lo hi k p L,(∀x∈p,x∈p)->W lo hi k p L->V lo hi k p L):ef V lo hi ks kids p L:=by
 induction h with
 |one h=>exact .one (a _ _ _ _ _ (λ_ h=>h) h)
 |cons h _ b=>exact .cons (a _ _ _ _ _ (λ_ h=>h) h) b
theorem ef.mI{V:Below}(h:ef W lo hi ks kids p L)(b:∀lo hi k a L,(∀x∈a,x∈p)->W lo hi k a L->V lo hi k a L):ef V lo hi ks kids p L:=by
 induction h with
 |one h=>exact .one (b _ _ _ _ _ (λ_ h=>h) h)
 |cons h _ c=>
  exact .cons (b _ _ _ _ _ (λx hx=>kl _ hx) h) (c λlo hi k a L hs=>b lo hi k a L λx hx=>iY _ (hs x hx))
def cP(k:Key):Prop:=1<=k.length/\k.length<=24
structure xk(n:aA):Prop where
 ok:∀k∈n.keys,cP k
 fG:n.keys.Pairwise b9
structure hJ(n:aA):Prop extends xk n where
 leaf:n.leaf=true
 len:n.vals.length=n.keys.length
 kids:n.kids=[]
 vals:∀v∈n.vals,v.length<=24
structure tL(n:aA):Prop extends xk n where
 inner:n.leaf=false
 some:n.keys≠ []
 len:n.kids.length=n.keys.length+1
 vals:n.vals=[]
 kids:∀k∈n.kids,k<1600
def aA.fx(n:aA):O aY:=n.keys.zip n.vals
def aA.within(n:aA)(lo hi:an Key):Prop:=∀k∈n.keys,fF lo hi k
def eK(P:Nat->an aA):Nat->Below
 |0=> λ_ _ _ _ _=>False
 |1=> λlo hi no p L=>∃n,P no=some n/\hJ n/\n.within lo hi/\n.keys≠ []/\p=[no]/\L=n.fx
 |h+2=> λlo hi no p L=>∃n a,P no=some n/\tL n/\n.within lo hi/\p=no::a/\
  ef (λlo hi k p L=>eK P (h+1) lo hi k p L/\∃m,P k=some m/\2<=m.keys.length) lo hi n.keys n.kids a L
theorem eK.agree{P Q:Nat->an aA}:∀ {h:Nat}{lo hi:an Key}{no:Nat}{p:O Nat}{L:O aY},eK P h lo hi no p L->(∀x∈p,P x=Q x)->eK Q h lo hi no p L/\no∈p
 |0,_,_,_,_,_,e,_=>e.elim
 |1,_,_,no,_,_,⟨n,h1,a,f,g,c,i⟩,b=>by
  have d:no∈ [no]:=by simp
  rw[c]
  exact⟨⟨n,by rw[←b no (c▸d)];exact h1,a,f,g,rfl,i⟩,d⟩
 |h+2,_,_,no,_,_,⟨n,j,h1,a,f,g,c⟩,b=>by
  subst g
  refine⟨⟨n,j,by rw[←b no U9];exact h1,a,f,rfl,c.mI λlo hi k q L hs ⟨e,m,d,a⟩=>?_⟩,by simp⟩
  have:=eK.agree e λx hx=>b x (jv _ (hs x hx))
  exact⟨this.1,m,by rw[←b k (jv _ (hs k this.2))];exact d,a⟩
end Go.Proofs.YtcmgnhkpfllinaaGreat
namespace Go.Proofs.YtcmgnhkpfllinaaGreat
variable{lo hi:an Key}{p:O Nat}{L:O aY}
variable {W:Below}{lo hi:an Key}{P:Nat->an aA}
theorem Hu{s k:Key}(h1:fF lo (some s) k)(a:fF lo hi s):fF lo hi k:=
 ⟨h1.1,λb c=>nr (h1.2 s rfl) (a.2 b c)⟩
theorem Hv{s k:Key}(h1:fF (some s) hi k)(b:fF lo hi s):fF lo hi k:=
 ⟨λa c=>CH (b.1 a c) (h1.1 s rfl),h1.2⟩
theorem ef.fG{ks:O Key}{kids:O Nat}(h:ef W lo hi ks kids p L)(cz:∀lo hi k p L,W lo hi k p L->kA L/\∀q∈L,fF lo hi q.1)(e:ks.Pairwise b9)(c:∀s∈ks,fF lo hi s):
 kA L/\∀q∈L,fF lo hi q.1:=by
 induction h with
 |one h=>exact cz _ _ _ _ _ h
 | @cons lo hi s k bm bt bC b8 ks kids h t f=>
  obtain⟨r1,c3⟩:=cz _ _ _ _ _ h;have d:=mq.1 e;obtain⟨bA,cu⟩:=f d.2 λx hx=>⟨λa g=>by cases g;exact jU (d.1 x hx),(c x (jv _ hx)).2⟩;have hs:=c s mo;refine⟨Hs.2 ⟨r1,bA,λx hx y i=>pQ ((c3 x hx).2 s rfl) ((cu y i).1 s rfl)⟩,λq b=>?_⟩;rcases cE.1 b with b|b
  .exact Hu (c3 q b) hs
  .exact Hv (cu q b) hs
theorem CI:∀ {ks vs:O Key},ks.Pairwise b9->kA (ks.zip vs)
 | [],vs,_=>by rw[List.zip_nil_left];exact List.Pairwise.nil
 |k::ks,[],_=>by rw[List.zip_nil_right];exact List.Pairwise.nil
 |k::ks,v::vs,h=>by
  rw[List.zip_cons_cons]
  have:=mq.1 h
  exact mq.2 ⟨λq a=>this.1 _ (sy a).1,CI this.2⟩
theorem hJ.fx{n:aA}(h:hJ n):kA n.fx/\n.fx.length=n.keys.length:=⟨CI h.fG,by unfold aA.fx;rw[qn,h.len,Nat.min_self]⟩
theorem eK.fG:∀ {h:Nat}{lo hi:an Key}{no:Nat}{p:O Nat}{L:O aY},eK P h lo hi no p L->kA L/\∀q∈L,fF lo hi q.1
 |0,_,_,_,_,_,a=>a.elim
 |1,_,_,_,_,_,⟨n,_,b,c,_,_,d⟩=>by
  subst d
  exact⟨b.fx.1,λq e=>c _ (sy e).1⟩
 |h+2,_,_,_,_,_,⟨n,_,_,b,c,_,f⟩=>f.fG (λ_ _ _ _ _ a=>eK.fG a.1) b.fG c
theorem ef.count{ks:O Key}{kids:O Nat}(h:ef W lo hi ks kids p L){c:Nat}(cz:∀lo hi k p L,W lo hi k p L->p.length+1<=L.length/\c<=L.length):
 p.length+kids.length<=L.length/\c*kids.length<=L.length:=by
 induction h with
 |one h=>have:=cz _ _ _ _ _ h;simp;omega
 |cons h _ a=>
  have:=cz _ _ _ _ _ h;simp only[b6,eE,Nat.mul_add,eY];omega
theorem eK.count:∀ {h:Nat}{lo hi:an Key}{no:Nat}{p:O Nat}{L:O aY},eK P h lo hi no p L->((∃m,P no=some m/\2<=m.keys.length)\/2<=h)->p.length+1<=L.length/\2^h<=L.length
 |0,_,_,_,_,_,d,_=>d.elim
 |1,_,_,_,_,_,⟨n,h1,b,_,_,f,g⟩,a=>by
  obtain⟨m,e,a⟩|a:=a
  .rw[h1]at e
   cases e
   subst f g
   have:=b.fx.2
   simp only[ia];omega
  .omega
 |h+2,_,_,_,_,_,⟨n,j,_,b,_,i,f⟩,_=>by
  have hc:=f.count (c:=2^(h+1)) λlo hi k p L ⟨d,a⟩=>eK.count d (.inl a)
  have l:=b.len
  have hs:1<=n.keys.length:=sA.2 b.some
  subst i
  have:2^(h+1)*2<=2^(h+1)*n.kids.length:=Nat.mul_le_mul_left _ I
  rw[Nat.pow_succ 2 (h+1)]
  simp only[eE]
  omega
theorem eK.pages{h:Nat}{no:Nat}(a:eK P h lo hi no p L):p.length<=L.length/\1<=L.length/\(2<=h->2^h<=L.length):=by
 match h with
 |0=>exact a.elim
 |1=>
  obtain⟨n,h1,b,_,c,d,e⟩:=a;subst d e;have:=b.fx.2;have f:=sA.2 c;simp only[ia];exact⟨I,I,I⟩
 |h+2=>
  have:=eK.count a (.inr I);exact⟨I,I,λ_=>this.2⟩
end Go.Proofs.YtcmgnhkpfllinaaGreat
namespace Go.Proofs.YtcmgnhkpfllinaaGreat
variable{p kids:O Nat}{L:O aY}
variable {W V:Below}{lo hi:an Key}
inductive fH (W:Below) (lo:an Key):an Key->O Key->O Nat->O Nat->O aY->Prop
 |nil:fH W lo lo [] [] [] []
 |more {s:Key}{ks:O Key}{kids p:O Nat}{L:O aY} (h:ef W lo (some s) ks kids p L):fH W lo (some s) (ks++ [s]) kids p L
inductive gU (W:Below) (hi:an Key):an Key->O Key->O Nat->O Nat->O aY->Prop
 |nil:gU W hi hi [] [] [] []
 |more {s:Key}{ks:O Key}{kids p:O Nat}{L:O aY} (h:ef W (some s) hi ks kids p L):gU W hi (some s) (s::ks) kids p L
variable {m:an Key}{jC lE:O Key}{jV mH bm bt:O Nat}{bC b8:O aY}
theorem fH.Hw(h1:fH W lo m jC jV bm bC)(a:ef W m hi lE mH bt b8):ef W lo hi (jC++lE) (jV++mH) (bm++bt) (bC++b8):=by
 cases h1 with
 |nil=>exact a
 |more h=>rw[cU];exact h.app a
theorem ef.post(h1:ef W lo m jC jV bm bC)(a:gU W hi m lE mH bt b8):ef W lo hi (jC++lE) (jV++mH) (bm++bt) (bC++b8):=by
 cases a with
 |nil=>simpa using h1
 |more h=>exact h1.app h
theorem fH.cons{s:Key}{k:Nat}(h:W lo (some s) k p L)(t:fH W (some s) m jC jV bm bC):fH W lo m (s::jC) (k::jV) (p++bm) (L++bC):=by
 cases t with
 |nil=>rw[fO,fO];exact fH.more (ks:=[]) (.one h)
 |more t=>exact fH.more (ks:=s::_) (.cons h t)
theorem fH.mI(h:fH W lo m jC jV bm bC)(b:∀lo hi k a L,(∀x∈a,x∈bm)->W lo hi k a L->V lo hi k a L):fH V lo m jC jV bm bC:=by
 cases h with
 |nil=>exact .nil
 |more h=>exact .more (h.mI b)
theorem gU.mI(h:gU W hi m jC jV bm bC)(b:∀lo hi k a L,(∀x∈a,x∈bm)->W lo hi k a L->V lo hi k a L):gU V hi m jC jV bm bC:=by
 cases h with
 |nil=>exact .nil
 |more h=>exact .more (h.mI b)
theorem ef.at{ks:O Key}(h:ef W lo hi ks kids p L):∀ (i:Nat) (c:i<kids.length),∃ (d e:an Key) (bm q bt:O Nat) (bC M b8:O aY),
 p=bm++(q++bt)/\L=bC++(M++b8)/\W d e kids[i] q M/\fH W lo d (ks.take i) (kids.take i) bm bC/\gU W hi e (ks.drop i) (kids.drop (i+1)) bt b8:=by
 induction h with
 | @one lo hi k p L h=>
  intro i c;have:i=0:=by simp at c;omega
  subst this;exact⟨lo,hi,[],p,[],[],L,[],by simp,by simp,h,.nil,.nil⟩
 | @cons lo hi s k bm bt bC b8 ks kids h t f=>
  intro i c
  cases i with
  |zero=>exact⟨lo,some s,[],bm,bt,[],bC,b8,rfl,rfl,h,.nil,.more t⟩
  |succ i=>
   obtain⟨d,e,a,q,b,A,M,B,rfl,rfl,h1,g,j⟩:=f i (by simpa using c);exact⟨d,e,bm++a,q,b,bC++A,M,B,by rw[cU],by rw[cU],h1,fH.cons h g,j⟩
theorem fH.inv(h:fH W lo m [] kids p L):m=lo/\kids=[]/\p=[]/\L=[]:=by
 generalize e:([]:O Key)=K at h
 cases h with
 |nil=>exact⟨rfl,rfl,rfl,rfl⟩
 |more h=>simp at e
theorem gU.head{ks:O Key}(h:gU W hi m ks kids p L)(b:0<kids.length):∃ (s:Key) (a:an Key) (q bt:O Nat) (M b8:O aY) (hs:0<ks.length),
 m=some s/\s=ks[0]/\p=q++bt/\L=M++b8/\W (some s) a (kids[0]) q M/\gU W hi a (ks.drop 1) (kids.drop 1) bt b8:=by
 cases h with
 |nil=>simp at b
 | @more s ks kids p L h=>
  obtain⟨e,a,bm,q,bt,bC,M,b8,rfl,rfl,h1,c,d⟩:=h.at 0 b;rw[sB]at c;obtain⟨rfl,_,rfl,rfl⟩:=c.inv;exact⟨s,a,q,bt,M,b8,by simp,rfl,rfl,rfl,rfl,h1,by simpa using d⟩
end Go.Proofs.YtcmgnhkpfllinaaGreat
namespace Go.Proofs.YtcmgnhkpfllinaaGreat
variable{ks:O Key}{k:Key}{i:Nat}{kids p:O Nat}{L:O aY}
variable {W V:Below}{lo hi m:an Key}
def fa(ks:O Key)(k:Key):Nat:=ks.findIdx λs=>decide (b9 k s)
theorem zj(ks:O Key)(k:Key):fa ks k<=ks.length:=List.findIdx_le_length
theorem Hx(h:i<fa ks k)(hi:i<ks.length):g6 ks[i] k:=by
 have:=List.not_of_lt_findIdx h;exact CG.1 (by simpa using this)
theorem Hy(h:fa ks k<ks.length):b9 k ks[fa ks k]:=by
 have:=List.findIdx_getElem (p:=λs=>decide (b9 k s)) (xs:=ks) (w:=h);exact bB this
theorem fH.Hz(h:fH W lo m (ks.take i) kids p L)(b:∀ (j:Nat) (c:j<ks.length),j<i->g6 ks[j] k)(d:∀a,lo=some a->g6 a k):∀a,m=some a->g6 a k:=by
 generalize e:ks.take i=K at h
 cases h with
 |nil=>exact d
 | @more s l kids p L h=>
  intro a f
  cases f;have g:s∈ks.take i:=by rw[e];simp
  obtain⟨j,c,rfl⟩:=List.mem_take_iff_getElem.1 g;exact b j I I
theorem gU.HA(h:gU W hi m (ks.drop i) kids p L)(b:∀ (h:i<ks.length),b9 k ks[i])(c:∀a,hi=some a->b9 k a):∀a,m=some a->b9 k a:=by
 generalize e:ks.drop i=K at h
 cases h with
 |nil=>exact c
 | @more s f kids p L h=>
  intro a d
  cases d;have aB:i<ks.length:=by
   have:=congrArg List.length e;simp at this;omega
  have:ks[i]=s:=by
   have:=j5 aB;rw[e]at this;exact(List.cons.inj this).1.symm
  rw[←this];exact b aB
theorem fH.below(h:fH W lo m ks kids p L)(cz:∀lo hi k p L,W lo hi k p L->kA L/\∀q∈L,fF lo hi q.1)(f:ks.Pairwise b9)(c:∀s∈ks,fF lo hi s)
  (g:∀a,m=some a->g6 a k):∀q∈L,b9 q.1 k:=by
 cases h with
 |nil=>intro q d;cases d
 | @more s i kids p L h=>
  have e:=m0.1 f;have:=h.fG cz e.1 λx hx=>⟨(c x (by simp[hx])).1,λb c=>by cases c;exact e.2.2 x hx s U9⟩;exact λq d=>pQ ((this.2 q d).2 s rfl) (g s rfl)
theorem gU.HB(h:gU W hi m ks kids p L)(cz:∀lo hi k p L,W lo hi k p L->kA L/\∀q∈L,fF lo hi q.1)(d:ks.Pairwise b9)(e:∀s∈ks,fF lo hi s)
  (f:∀a,m=some a->b9 k a):∀q∈L,b9 k q.1:=by
 cases h with
 |nil=>intro q b;cases b
 | @more s i kids p L h=>
  have c:=mq.1 d;have:=h.fG cz c.2 λx hx=>⟨λa g=>by cases g;exact jU (c.1 x hx),(e x (by simp[hx])).2⟩;exact λq b=>pQ (f s rfl) ((this.2 q b).1 s rfl)
def Loc(k:Key)(u:O aY->O aY):Prop:=∀bC M b8:O aY,(∀p∈bC,b9 p.1 k)->(∀p∈b8,b9 k p.1)->u (bC++(M++b8))=bC++(u M++b8)
theorem HC(k v:Key):Loc k λL=>h3 L k v:=λbC M b8 h1 a=>by
 show h3 _ _ _=_
 rw[Hr h1,Hq a]
theorem zk(k:Key):Loc k λL=>e7 L k:=λbC M b8 h1 b=>by
 show e7 _ _=_
 rw[tJ,tJ,tK λp a=>oB (h1 p a),tK λp a=>(oB (b p a)).symm]
end Go.Proofs.YtcmgnhkpfllinaaGreat
namespace Go.Proofs.YtcmgnhkpfllinaaGreat
variable{h:Nat}{p:O Nat}{L:O aY}
variable {W V:Below}{lo hi m:an Key}{P Q:Nat->an aA}
def fy(P:Nat->an aA)(h:Nat):Below:=λlo hi k p L=>eK P h lo hi k p L/\∃m,P k=some m/\2<=m.keys.length
theorem fy.agree{no:Nat}(b:fy P h lo hi no p L)(a:∀x∈p,P x=Q x):fy Q h lo hi no p L:=by
 obtain⟨h1,m,c,d⟩:=b;have:=h1.agree a;exact⟨this.1,m,by rw[←a no this.2];exact c,d⟩
theorem HD{α:Type}{l:O α}(h:1<=l.length):l≠ []:=λe=>by subst e;simp at h
theorem fy.in{no:Nat}(a:fy P h lo hi no p L):L≠ []/\kA L/\∀q∈L,fF lo hi q.1:=⟨HD a.1.pages.2.1,a.1.fG⟩
theorem ef.sorted{ks:O Key}{kids:O Nat}(h:ef W lo hi ks kids p L)(cz:∀lo hi k p L,W lo hi k p L->L≠ []/\kA L/\∀q∈L,fF lo hi q.1):
 L≠ []/\(∀q∈L,fF lo hi q.1)/\ks.Pairwise b9/\∀s∈ks,(∀a,lo=some a->b9 a s)/\∀b,hi=some b->b9 s b:=by
 induction h with
 |one h=>exact⟨(cz _ _ _ _ _ h).1,(cz _ _ _ _ _ h).2.2,.nil,by simp⟩
 | @cons lo hi s k bm bt bC b8 ks kids h t l=>
  obtain⟨bL,_,c3⟩:=cz _ _ _ _ _ h;obtain⟨bz,cu,bA,ah⟩:=l;obtain⟨x,hx⟩:=sC _ bL;obtain⟨y,i⟩:=sC _ bz;have f:∀a,lo=some a->b9 a s:=λa e=>lD ((c3 x hx).1 a e) ((c3 x hx).2 s rfl);have j:∀b,hi=some b->b9 s b:=λb g=>lD ((cu y i).1 s rfl) ((cu y i).2 b g);refine⟨by simp[bL],λq c=>?_,mq.2 ⟨λz d=>(ah z d).1 s rfl,bA⟩,λz d=>?_⟩
  .rcases cE.1 c with c|c
   .exact⟨(c3 q c).1,λb g=>nr ((c3 q c).2 s rfl) (j b g)⟩
   .exact⟨λa e=>jU (pQ (f a e) ((cu q c).1 s rfl)),(cu q c).2⟩
  .rcases cN.1 d with rfl|d
   .exact⟨f,j⟩
   .exact⟨λa e=>nr (f a e) ((ah z d).1 s rfl),(ah z d).2⟩
def dj(P:Nat->an aA):Nat->aA->an Key->an Key->O Nat->O aY->Prop
 |0,_,_,_,_,_=>False
 |1,n,lo,hi,p,L=>hJ n/\n.within lo hi/\p=[]/\L=n.fx
 |h+2,n,lo,hi,p,L=>n.leaf=false/\n.vals=[]/\(∀k∈n.keys,cP k)/\(∀k∈n.kids,k<1600)/\ef (fy P (h+1)) lo hi n.keys n.kids p L
theorem dj.agree:∀ {h:Nat}{n:aA}{p:O Nat}{L:O aY},dj P h n lo hi p L->(∀x∈p,P x=Q x)->dj Q h n lo hi p L
 |0,_,_,_,h,_=>h.elim
 |1,_,_,_,h,_=>h
 |_+2,_,_,_,⟨h1,a,b,c,d⟩,e=>⟨h1,a,b,c,d.mI λ_ _ _ _ _ hs f=>f.agree λx hx=>e x (hs x hx)⟩
theorem dj.lay:∀ {h:Nat}{n:aA}{x:Nat}{p:O Nat}{L:O aY},dj P h n lo hi p L->n.keys≠ []->Q x=some n->(∀y∈p,P y=Q y)->eK Q h lo hi x (x::p) L
 |0,_,_,_,_,h,_,_,_=>h.elim
 |1,n,x,p,L,⟨h1,b,c,d⟩,e,hx,_=>by
  subst c
  exact⟨n,hx,h1,b,e,rfl,d⟩
 |h+2,n,x,p,L,i,e,hx,j=>by
  obtain⟨h1,b,c,d,f⟩:=i.agree j
  have hs:=f.sorted λ_ _ _ _ _ k=>k.in
  exact⟨n,p,hx,⟨⟨c,hs.2.2.1⟩,h1,e,f.len,b,d⟩,λs g=>⟨λa l=>jU ((hs.2.2.2 s g).1 a l),(hs.2.2.2 s g).2⟩,rfl,f⟩
def aA.left(n:aA)(i:Nat):aA:=if n.leaf then ⟨true,n.keys.take i,n.vals.take i,[]⟩ else ⟨false,n.keys.take i,[],n.kids.take (i+1)⟩
def aA.right(n:aA)(i:Nat):aA:=if n.leaf then ⟨true,n.keys.drop i,n.vals.drop i,[]⟩ else ⟨false,n.keys.drop (i+1),[],n.kids.drop (i+1)⟩
theorem dj.leaf{n:aA}(a:dj P h n lo hi p L):n.leaf=decide (h=1):=by
 match h,a with
 |0,a=>exact a.elim
 |1,a=>rw[a.1.leaf];rfl
 |h+2,a=>rw[a.1];simp
theorem dj.zl{n:aA}(g:dj P h n lo hi p L){i:Nat}(h1:1<=i)(m:i<n.keys.length):
 ∃ (bm bt:O Nat) (bC b8:O aY),p=bm++bt/\L=bC++b8/\dj P h (n.left i) lo (some n.keys[i]) bm bC/\dj P h (n.right i) (some n.keys[i]) hi bt b8:=by
 match h,g with
 |0,g=>exact g.elim
 |1,⟨a,b,c,d⟩=>
  subst c d;have q:=a.fG;have fp:n.keys=n.keys.take i++n.keys.drop i:=(iW _ _).symm;have o:=q;rw[fp]at o;obtain⟨r1,bA,aJ⟩:=m0.1 o;have hd:n.keys.drop i=n.keys[i]::n.keys.drop (i+1):=j5 m;have hf:n.left i=⟨true,n.keys.take i,n.vals.take i,[]⟩:=by unfold aA.left;rw[a.leaf];rfl
  have hg:n.right i=⟨true,n.keys.drop i,n.vals.drop i,[]⟩:=by unfold aA.right;rw[a.leaf];rfl
  rw[hf,hg];refine⟨[],[],n.fx.take i,n.fx.drop i,rfl,(iW _ _).symm,⟨⟨⟨λk f=>a.ok k (gd f),r1⟩,rfl,by simp[a.len],rfl,λv g=>a.vals v (gd g)⟩,λk f=>⟨(b k (gd f)).1,λs hs=>?_⟩,rfl,?_⟩,
   ⟨⟨⟨λk f=>a.ok k (gb f),bA⟩,rfl,by simp[a.len],rfl,λv g=>a.vals v (gb g)⟩,λk f=>⟨λs hs=>?_,(b k (gb f)).2⟩,rfl,?_⟩⟩
  .cases hs
   exact aJ k f _ (hd▸mo)
  .exact List.take_zipWith
  .cases hs
   have f:k∈n.keys.drop i:=f;rw[hd]at f bA;rcases cN.1 f with rfl|f
   .exact Hp _
   .exact jU ((mq.1 bA).1 k f)
  .exact List.drop_zipWith
 |h+2,⟨a,b,c,d,e⟩=>
  have hf:n.left i=⟨false,n.keys.take i,[],n.kids.take (i+1)⟩:=by unfold aA.left;rw[a];rfl
  have hg:n.right i=⟨false,n.keys.drop (i+1),[],n.kids.drop (i+1)⟩:=by unfold aA.right;rw[a];rfl
  have fp:n.keys=n.keys.take i++n.keys[i]::n.keys.drop (i+1):=by rw[←j5 m,iW]
  rw[fp]at e;obtain⟨bJ,b4,bm,bt,bC,b8,j,rfl,rfl,s1,s2⟩:=e.cut;have l:=s1.len;rw[cQ,km I]at l;have r:n.kids.take (i+1)=bJ:=by rw[j,←l,List.take_left]
  have t:n.kids.drop (i+1)=b4:=by rw[j,←l,List.drop_left]
  rw[hf,hg,r,t];exact⟨bm,bt,bC,b8,rfl,rfl,⟨rfl,rfl,λk f=>c k (gd f),λk f=>d k (by rw[j];simp[f]),s1⟩,⟨rfl,rfl,λk f=>c k (gb f),λk f=>d k (by rw[j];simp[f]),s2⟩⟩
end Go.Proofs.YtcmgnhkpfllinaaGreat
namespace Go.Proofs.YtcmgnhkpfllinaaGreat
variable {lo hi:an Key}{P Q:Nat->an aA}
def dS(a:aA)(s:Key)(b:aA):aA:=if a.leaf then ⟨true,a.keys++b.keys,a.vals++b.vals,[]⟩ else ⟨false,a.keys++s::b.keys,[],a.kids++b.kids⟩
theorem pR{a b c d:O Key}(h:a.length=c.length):(a++b).zip (c++d)=a.zip c++b.zip d:=List.zip_append h
theorem dj.merge{h:Nat}{a b:aA}{s:Key}{pa l:O Nat}{m n:O aY}(g:dj P h a lo (some s) pa m)(o:dj P h b (some s) hi l n)(hs:cP s)(p:∀k,lo=some k->g6 k s)(q:∀k,hi=some k->g6 s k):
 dj P h (dS a s b) lo hi (pa++l) (m++n):=by
 match h,g,o with
 |0,g,_=>exact g.elim
 |1,⟨a1,a2,a3,a4⟩,⟨c3,cu,i,j⟩=>
  subst a3 a4 i j;have e:dS a s b=⟨true,a.keys++b.keys,a.vals++b.vals,[]⟩:=by unfold dS;rw[a1.leaf];rfl
  rw[e];refine⟨⟨⟨λk d=>?_,m0.2 ⟨a1.fG,c3.fG,λx hx y r=>pQ ((a2 x hx).2 s rfl) ((cu y r).1 s rfl)⟩⟩,rfl,by simp[a1.len,c3.len],rfl,λv f=>?_⟩,λk d=>?_,rfl,?_⟩
  .rcases cE.1 d with d|d
   .exact a1.ok k d
   .exact c3.ok k d
  .rcases cE.1 f with f|f
   .exact a1.vals v f
   .exact c3.vals v f
  .rcases cE.1 d with d|d
   .exact⟨(a2 k d).1,λc hc=>pQ ((a2 k d).2 s rfl) (q c hc)⟩
   .exact⟨λc hc=>CH (p c hc) ((cu k d).1 s rfl),(cu k d).2⟩
  .exact(pR a1.len.symm).symm
 |h+2,⟨a1,a2,a3,a4,a5⟩,⟨c3,cu,i,j,t⟩=>
  have e:dS a s b=⟨false,a.keys++s::b.keys,[],a.kids++b.kids⟩:=by unfold dS;rw[a1];rfl
  rw[e];refine⟨rfl,rfl,λk d=>?_,λk d=>?_,a5.app t⟩
  .rcases cE.1 d with d|d
   .exact a3 k d
   .rcases cN.1 d with rfl|d
    .exact hs
    .exact i k d
  .rcases cE.1 d with d|d
   .exact a4 k d
   .exact j k d
theorem eK.ke{h no:Nat}{p:O Nat}{L:O aY}(c:eK P h lo hi no p L):∃n b,P no=some n/\p=no::b/\n.keys≠ []/\dj P h n lo hi b L:=by
 match h,c with
 |0,c=>exact c.elim
 |1,⟨n,h1,a,f,d,e,g⟩=>exact⟨n,[],h1,e,d,a,f,rfl,g⟩
 |h+2,⟨n,b,h1,a,f,d,e⟩=>exact⟨n,b,h1,d,a.some,a.inner,a.vals,a.ok,a.kids,e⟩
def gn(n:aA)(fr to:Nat)(ks:O Key)(kids:O Nat):aA:=⟨false,n.keys.take fr++ks++n.keys.drop (to-1),[],n.kids.take fr++kids++n.kids.drop to⟩
end Go.Proofs.YtcmgnhkpfllinaaGreat
namespace Go.Proofs.YtcmgnhkpfllinaaGreat
variable{c:O Nat}
def cellsOf(n:aA):O Nat:=if n.leaf then List.zipWith (λk v=>2+k.length+v.length) n.keys n.vals else n.keys.map λk=>3+k.length
def bP(n:aA):Nat:=(if n.leaf then 1 else 3)+(cellsOf n).sum
def gV(c:O Nat)(most:Nat):Nat:=match (List.range most).find? λi=>decide (c.sum<=2*(c.take (i+1)).sum) with
 |some i=>i+1
 |none=>most
theorem oC{B:Nat}:∀ {l:O Nat},(∀x∈l,x<=B)->l.sum<=B*l.length
 | [],_=>by simp
 |a::l,h=>by
  have h1:=h a U9
  have b:=oC (l:=l) λx hx=>h x (by simp[hx])
  rw[qo,eE,Nat.mul_add,eY]
  omega
theorem zm(l:O Nat)(i:Nat):(l.take i).sum+(l.drop i).sum=l.sum:=by
 rw[←lS,iW]
theorem rN{l:O Nat}{i:Nat}(h:i<l.length):(l.take (i+1)).sum=(l.take i).sum+l[i]:=by
 rw[gv h,lS];simp
theorem CJ{most:Nat}(a:1<=most)(hs:0<c.sum):1<=gV c most/\gV c most<=most/\2*(c.take (gV c most-1)).sum<c.sum/\(gV c most=most\/c.sum<=2*(c.take (gV c most)).sum):=by
 unfold gV
 cases h:(List.range most).find? λi=>decide (c.sum<=2*(c.take (i+1)).sum) with
 |none=>
  have b:=kn.1 h;refine⟨a,a_ _,?_,.inl rfl⟩;by_cases h1:most=1
  .subst h1;simpa using hs
  .have:=b (most-2) (iV.2 I)
   have e:most-2+1=most-1:=I
   rw[e]at this;simp at this;exact this
 |some i=>
  have hi:i<most:=iV.1 (jL h);have d:=kP h;refine⟨by simp,by simp;omega,?_,.inr (by simpa using d)⟩;show 2*(c.take (i+1-1)).sum<c.sum;rw[sD]
  cases i with
  |zero=>simpa using hs
  |succ j=>
   have:=(List.find?_range_eq_some.1 h).2.2 j I;simpa using this
theorem HE(a:∀x∈c,x<=50)(h1:232<=c.sum)(e:c.sum<=309):
 2<=gV c (c.length-1)/\gV c (c.length-1)+2<=c.length/\(c.take (gV c (c.length-1))).sum<=231/\(c.drop (gV c (c.length-1))).sum<=231:=by
 have f:=oC a;have b:=CJ (c:=c) (most:=c.length-1) I I;generalize gV c (c.length-1)=i at b⊢;obtain⟨a1,a2,a3,a4⟩:=b;have hs:=zm c i;have ht:=rN (l:=c) (i:=i-1) I;rw[Nat.sub_add_cancel a1]at ht;have hc:=a c[i-1] (cg _);have hd:=oC (l:=c.drop i) λx hx=>a x (gb hx);have d:=oC (l:=c.take i) λx hx=>a x (gd hx);rw[dW]at hd;rw[cQ,km I]at d;have key:c.sum<=2*(c.take i).sum:=by
  obtain h|h:=a4
  .have:c.length-i=1:=I
   rw[this]at hd;omega
  .exact h
 refine⟨I,?_,I,I⟩;rcases dA (c.length-i) 2 with h|h
 .have:c.length-i=1:=I
  rw[this]at hd;omega
 .omega
theorem HF(a:∀x∈c,x<=27)(h1:230<=c.sum)(e:c.sum<=332):
 2<=gV c (c.length-2)/\gV c (c.length-2)+3<=c.length/\(c.take (gV c (c.length-2))).sum<=229/\(c.drop (gV c (c.length-2)+1)).sum<=229:=by
 have f:=oC a;have b:=CJ (c:=c) (most:=c.length-2) I I;generalize gV c (c.length-2)=i at b⊢;obtain⟨a1,a2,a3,a4⟩:=b;have hs:=zm c (i+1);have ht:=rN (l:=c) (i:=i-1) I;have hu:=rN (l:=c) (i:=i) I;rw[Nat.sub_add_cancel a1]at ht;have hc:=a c[i-1] (cg _);have g:=a c[i] (cg _);have hd:=oC (l:=c.drop (i+1)) λx hx=>a x (gb hx);have d:=oC (l:=c.take i) λx hx=>a x (gd hx);rw[dW]at hd;rw[cQ,km I]at d;have key:c.sum<=2*(c.take i).sum:=by
  obtain h|h:=a4
  .have:c.length-(i+1)=1:=I
   rw[this]at hd;omega
  .exact h
 refine⟨I,?_,I,I⟩;rcases dA (c.length-(i+1)) 2 with h|h
 .have:c.length-(i+1)<=1:=I
  have:27*(c.length-(i+1))<=27*1:=Nat.mul_le_mul_left _ this;omega
 .omega
end Go.Proofs.YtcmgnhkpfllinaaGreat
namespace Go.Proofs.YtcmgnhkpfllinaaGreat
variable{kids p:O Nat}{L:O aY}
variable {W:Below}{lo hi m:an Key}{P Q:Nat->an aA}
theorem gU.inv(h:gU W hi m [] kids p L):m=hi/\kids=[]/\p=[]/\L=[]:=by
 generalize e:([]:O Key)=K at h
 cases h with
 |nil=>exact⟨rfl,rfl,rfl,rfl⟩
 |more h=>simp at e
theorem fH.last{ks:O Key}(h:fH W lo m ks kids p L)(c:0<kids.length):∃ (s:Key) (a:an Key) (bm r:O Nat) (bC N:O aY) (hs:0<ks.length),
 m=some s/\s=ks[ks.length-1]/\p=bm++r/\L=bC++N/\W a (some s) (kids[kids.length-1]) r N/\fH W lo a (ks.take (ks.length-1)) (kids.take (kids.length-1)) bm bC/\kids.length=ks.length:=by
 cases h with
 |nil=>simp at c
 | @more s ks kids p L h=>
  have d:=h.len;obtain⟨a,g,bm,q,bt,bC,M,b8,rfl,rfl,h1,f,b⟩:=h.at (kids.length-1) I;rw[List.drop_of_length_le I]at b;obtain⟨rfl,_,rfl,rfl⟩:=b.inv;refine⟨s,a,bm,q,bC,M,by simp,rfl,by simp,by simp,by simp,h1,?_,by simp;omega⟩;have e:(ks++ [s]).take ((ks++ [s]).length-1)=ks.take (kids.length-1):=by
   rw[d];simp
  rw[e];exact f
theorem dj.at{h:Nat}{n:aA}(w:dj P (h+2) n lo hi p L){k:Key}(o:fF lo hi k):∃ (f g:an Key) (bm q bt:O Nat) (bC M b8:O aY) (C:fa n.keys k<n.kids.length),
 p=bm++(q++bt)/\L=bC++(M++b8)/\fy P (h+1) f g n.kids[fa n.keys k] q M/\fF f g k/\(∀u,Loc k u->u L=bC++(u M++b8))/\n.kids.length=n.keys.length+1/\
 fH (fy P (h+1)) lo f (n.keys.take (fa n.keys k)) (n.kids.take (fa n.keys k)) bm bC/\gU (fy P (h+1)) hi g (n.keys.drop (fa n.keys k)) (n.kids.drop (fa n.keys k+1)) bt b8:=by
 obtain⟨a,b,c,d,e⟩:=w;have x:=e.len;have D:=zj n.keys k;have hs:=e.sorted λ_ _ _ _ _ i=>i.in;have r:∀s∈n.keys,fF lo hi s:=λs h=>⟨λa y=>jU ((hs.2.2.2 s h).1 a y),(hs.2.2.2 s h).2⟩;obtain⟨f,g,bm,q,bt,bC,M,b8,rfl,rfl,h1,l,m⟩:=e.at (fa n.keys k) I;have t:=l.Hz (k:=k) (λj z h=>Hx h z) o.1;have v:=m.HA (k:=k) (λh=>Hy h) o.2;have A:(n.keys.take (fa n.keys k)).Pairwise b9:=hs.2.2.1.sublist (List.take_sublist _ _);have B:(n.keys.drop (fa n.keys k)).Pairwise b9:=hs.2.2.1.sublist (List.drop_sublist _ _);exact⟨f,g,bm,q,bt,bC,M,b8,I,rfl,rfl,h1,⟨t,v⟩,λu hu=>hu _ _ _ (l.below (hi:=hi) (λ_ _ _ _ _ i=>i.in.2) A (λs h=>r s (gd h)) t) (m.HB (lo:=lo) (λ_ _ _ _ _ i=>i.in.2) B (λs h=>r s (gb h)) v),
  x,l,m⟩
theorem dj.build{h:Nat}{d e:an Key}{a kb ks:O Key}{b c bm bt q:O Nat}{bC M b8:O aY}(h1:fH (fy P (h+1)) lo d a b bm bC)(i:gU (fy P (h+1)) hi e kb c bt b8)
 (hs:ef (fy Q (h+1)) d e ks kids q M) (g:∀x∈bm++bt,P x=Q x) (j:∀s∈a++ks++kb,cP s) (hd:∀x∈b++kids++c,x<1600):
 dj Q (h+2) ⟨false,a++ks++kb,[],b++kids++c⟩ lo hi (bm++(q++bt)) (bC++(M++b8)):=by
 have ao:fH (fy Q (h+1)) lo d a b bm bC:=h1.mI λ_ _ _ _ _ hs f=>f.agree λx hx=>g x (kl _ (hs x hx));have k:gU (fy Q (h+1)) hi e kb c bt b8:=i.mI λ_ _ _ _ _ hs f=>f.agree λx hx=>g x (iY _ (hs x hx));refine⟨rfl,rfl,j,hd,?_⟩;show ef _ lo hi (a++ks++kb) (b++kids++c) _ _;rw[cU,cU];exact ao.Hw (hs.post k)
end Go.Proofs.YtcmgnhkpfllinaaGreat
namespace Go.Proofs.YtcmgnhkpfllinaaGreat
variable{n:aA}
variable {lo hi:an Key}{P Q:Nat->an aA}
theorem dj.one{h x:Nat}{p:O Nat}{L:O aY}(b:dj P h n lo hi p L)(a:2<=n.keys.length)(hx:Q x=some n)(c:∀y∈p,P y=Q y):ef (fy Q h) lo hi [] [x] (x::p) L:=
 .one ⟨b.lay (λe=>by rw[e]at a;simp at a) hx c,n,hx,a⟩
theorem l4(h:n.leaf=true):cellsOf n=List.zipWith (λk v=>2+k.length+v.length) n.keys n.vals:=by unfold cellsOf;rw[h];rfl
theorem l5(h:n.leaf=false):cellsOf n=n.keys.map λk=>3+k.length:=by unfold cellsOf;rw[h];rfl
theorem zn{B:Nat}{f:Key->Key->Nat}:∀ {ks vs:O Key},(∀k∈ks,∀v∈vs,f k v<=B)->∀x∈List.zipWith f ks vs,x<=B
 | [],vs,_,x,hx=>by simp at hx
 |k::ks,[],_,x,hx=>by simp at hx
 |k::ks,v::vs,h,x,hx=>by
  rw[List.zipWith_cons_cons]at hx
  rcases cN.1 hx with rfl|hx
  .exact h k U9 v U9
  .exact zn (λk a v b=>h k (by simp[a]) v (by simp[b])) x hx
def cB(n:aA):Nat:=gV (cellsOf n) (if n.leaf then n.keys.length-1 else n.keys.length-2)
theorem dj.two{h x y:Nat}{p:O Nat}{L:O aY}(b:dj P h n lo hi p L)(h1:232<bP n)(r:n.leaf=true->bP n<=310)(s:n.leaf=false->bP n<=335):
 1<=cB n/\(if n.leaf then cB n<=n.keys.length-1/\1<=n.keys.length-1 else cB n<=n.keys.length-2/\1<=n.keys.length-2)/\bP (n.left (cB n))<=232/\bP (n.right (cB n))<=232/\
  ∃ (w:cB n<n.keys.length) (bm bt:O Nat) (bC b8:O aY),p=bm++bt/\L=bC++b8/\cP n.keys[cB n]/\
   (Q x=some (n.left (cB n))->Q y=some (n.right (cB n))->(∀z∈p,P z=Q z)->ef (fy Q h) lo hi [n.keys[cB n]] [x,y] ((x::bm)++(y::bt)) (bC++b8)):=by
 have main:∀ (i:Nat),2<=i->(H:i<n.keys.length)->2<=(n.left i).keys.length->2<=(n.right i).keys.length->∃ (w:i<n.keys.length) (bm bt:O Nat) (bC b8:O aY),p=bm++bt/\L=bC++b8/\cP n.keys[i]/\
  (Q x=some (n.left i)->Q y=some (n.right i)->(∀z∈p,P z=Q z)->ef (fy Q h) lo hi [n.keys[i]] [x,y] ((x::bm)++(y::bt)) (bC++b8)):=by
  intro i J t A B;obtain⟨bm,bt,bC,b8,rfl,rfl,v1,C⟩:=b.zl (by omega:1<=i) t;have D:cP n.keys[i]:=by
   match h,b with
   |0,b=>exact b.elim
   |1,b=>exact b.1.ok _ (cg _)
   |h+2,b=>exact b.2.2.1 _ (cg _)
  refine⟨t,bm,bt,bC,b8,rfl,rfl,D,λhx E u=>?_⟩;have s1:=v1.one A hx λz f=>u z (kl _ f);have s2:=C.one B E λz f=>u z (iY _ f);exact s1.app s2
 match h,b with
 |0,b=>exact b.elim
 |1,b=>
  have a:n.leaf=true:=b.1.leaf;have g:(cellsOf n).length=n.keys.length:=by rw[l4 a,List.length_zipWith,b.1.len,Nat.min_self]
  have j:∀c∈cellsOf n,c<=50:=by
   rw[l4 a];exact zn λk l v F=>U5 ((b.1.ok k l).2) (b.1.vals v F)
  have G:bP n=1+(cellsOf n).sum:=by unfold bP;rw[a];rfl
  have r:=r a;obtain⟨a1,a2,a3,a4⟩:=HE j I I;have m:cB n=gV (cellsOf n) ((cellsOf n).length-1):=by unfold cB;rw[a,g];rfl
  rw[←m]at a1 a2 a3 a4;have d:n.left (cB n)=⟨true,n.keys.take (cB n),n.vals.take (cB n),[]⟩:=by unfold aA.left;rw[a];rfl
  have e:n.right (cB n)=⟨true,n.keys.drop (cB n),n.vals.drop (cB n),[]⟩:=by unfold aA.right;rw[a];rfl
  have o:cellsOf (n.left (cB n))=(cellsOf n).take (cB n):=by rw[d,l4 rfl,l4 a];exact List.take_zipWith.symm
  have q:cellsOf (n.right (cB n))=(cellsOf n).drop (cB n):=by rw[e,l4 rfl,l4 a];exact List.drop_zipWith.symm
  refine⟨I,by rw[a];exact⟨I,I⟩,?_,?_,main _ a1 I (by rw[d];show 2<=(n.keys.take _).length;rw[cQ];omega) (by rw[e];show 2<=(n.keys.drop _).length;rw[dW];omega)⟩
  .unfold bP;rw[o,d];show 1+_<=_;omega
  .unfold bP;rw[q,e];show 1+_<=_;omega
 |h+2,b=>
  have a:n.leaf=false:=b.1;have g:(cellsOf n).length=n.keys.length:=by rw[l5 a,cV]
  have j:∀c∈cellsOf n,c<=27:=by
   rw[l5 a];intro c hc;obtain⟨k,l,rfl⟩:=df.1 hc;have:=(b.2.2.1 k l).2;omega
  have G:bP n=3+(cellsOf n).sum:=by unfold bP;rw[a];rfl
  have s:=s a;obtain⟨a1,a2,a3,a4⟩:=HF j I I;have m:cB n=gV (cellsOf n) ((cellsOf n).length-2):=by unfold cB;rw[a,g];rfl
  rw[←m]at a1 a2 a3 a4;have d:n.left (cB n)=⟨false,n.keys.take (cB n),[],n.kids.take (cB n+1)⟩:=by unfold aA.left;rw[a];rfl
  have e:n.right (cB n)=⟨false,n.keys.drop (cB n+1),[],n.kids.drop (cB n+1)⟩:=by unfold aA.right;rw[a];rfl
  have o:cellsOf (n.left (cB n))=(cellsOf n).take (cB n):=by rw[d,l5 rfl,l5 a];exact m3
  have q:cellsOf (n.right (cB n))=(cellsOf n).drop (cB n+1):=by rw[e,l5 rfl,l5 a];exact qp
  refine⟨I,by rw[a];exact⟨I,I⟩,?_,?_,main _ a1 I (by rw[d];show 2<=(n.keys.take _).length;rw[cQ];omega) (by rw[e];show 2<=(n.keys.drop _).length;rw[dW];omega)⟩
  .unfold bP;rw[o,d];show 3+_<=_;omega
  .unfold bP;rw[q,e];show 3+_<=_;omega
end Go.Proofs.YtcmgnhkpfllinaaGreat
namespace Go.Proofs.YtcmgnhkpfllinaaGreat
variable{n:aA}
variable {lo hi:an Key}{P Q:Nat->an aA}
theorem dj.cells{h:Nat}{p:O Nat}{L:O aY}(a:dj P h n lo hi p L):(cellsOf n).length=n.keys.length/\∀c∈cellsOf n,c<=if n.leaf then 50 else 27:=by
 match h,a with
 |0,a=>exact a.elim
 |1,a=>
  have b:n.leaf=true:=a.1.leaf;rw[l4 b,b];exact⟨by rw[List.length_zipWith,a.1.len,Nat.min_self],zn λk d v e=>by have:=(a.1.ok k d).2;have:=a.1.vals v e;simp only[if_true];omega⟩
 |h+2,a=>
  have b:n.leaf=false:=a.1;rw[l5 b,b];refine⟨by rw[cV],λc hc=>?_⟩;obtain⟨k,d,rfl⟩:=df.1 hc;have:=(a.2.2.1 k d).2;show 3+k.length<=27;omega
theorem dj.zo{h:Nat}{p:O Nat}{L:O aY}(b:dj P h n lo hi p L)(hs:80<=bP n):2<=n.keys.length:=by
 obtain⟨h1,c⟩:=b.cells;have:=oC c;rw[h1]at this;unfold bP at hs
 cases a:n.leaf with
 |true=>rw[a]at hs this;simp only[if_true]at hs this;omega
 |false=>rw[a]at hs this;simp only[gr,if_false]at hs this;omega
theorem HG{a b:aA}{s:Key}(h:a.leaf=b.leaf)(f:a.leaf=true->a.vals.length=a.keys.length):bP (dS a s b)=if a.leaf then bP a+bP b-1 else bP a+bP b+s.length:=by
 cases c:a.leaf with
 |true=>
  have e:dS a s b=⟨true,a.keys++b.keys,a.vals++b.vals,[]⟩:=by unfold dS;rw[c];rfl
  have d:b.leaf=true:=by rw[←h,c]
  unfold bP;rw[e,l4 rfl,l4 c,l4 d,c,d];simp only[if_true];rw[qq (f c).symm,lS];omega
 |false=>
  have e:dS a s b=⟨false,a.keys++s::b.keys,[],a.kids++b.kids⟩:=by unfold dS;rw[c];rfl
  have d:b.leaf=false:=by rw[←h,c]
  unfold bP;rw[e,l5 rfl,l5 c,l5 d,c,d];simp only[gr,if_false,eU,iX,lS,qo];omega
def jD(ks:O Key):Nat:=(ks.map λk=>3+k.length).sum
theorem xl(a b:O Key):jD (a++b)=jD a+jD b:=by unfold jD;rw[eU,lS]
theorem CK(h:n.leaf=false):bP n=3+jD n.keys:=by unfold bP jD;rw[h,l5 h];rfl
theorem HH(k:Key):jD [k]=3+k.length:=by simp[jD]
theorem zp{ks:O Key}{kids:O Nat}{fr j:Nat}(h:n.leaf=false)(a:ks.length<=1)(b:∀k∈ks,cP k)(c:fr<=j):
 bP ⟨false,n.keys.take fr++ks++n.keys.drop j,[],kids⟩<=bP n+27:=by
 rw[CK h,CK rfl];show 3+jD (n.keys.take fr++ks++n.keys.drop j)<=_;rw[xl,xl];have h1:jD ks<=27:=by
  match ks,a with
  | [],_=>simp[jD]
  | [k],_=>rw[HH];have:=(b k U9).2;omega
 have d:jD n.keys=jD (n.keys.take fr)+jD (n.keys.drop fr):=by rw[←xl,iW]
 have e:jD (n.keys.drop fr)=jD ((n.keys.drop fr).take (j-fr))+jD (n.keys.drop j):=by
  rw[←xl]
  congr 1
  have:n.keys.drop j=(n.keys.drop fr).drop (j-fr):=by rw[mm];congr 1;omega
  rw[this,iW]
 omega
end Go.Proofs.YtcmgnhkpfllinaaGreat
namespace Go.Proofs.YtcmgnhkpfllinaaGreat
variable {lo hi:an Key}{P Q:Nat->an aA}
def nt(Q:Nat->an aA)(n:aA)(ks:O Key)(kids:O Nat):Prop:=
 (bP n<=232/\∃x,ks=[]/\kids=[x]/\Q x=some n)\/
 (232<bP n/\∃ (x y:Nat) (a:cB n<n.keys.length),ks=[n.keys[cB n]]/\kids=[x,y]/\Q x=some (n.left (cB n))/\Q y=some (n.right (cB n)))
theorem dj.fits{h:Nat}{n:aA}{p:O Nat}{L:O aY}{ks:O Key}{kids:O Nat}(a:dj P h n lo hi p L)(d:2<=n.keys.length)(e:n.leaf=true->bP n<=310)(f:n.leaf=false->bP n<=335)
 (hf:nt Q n ks kids) (b:∀x∈p,P x=Q x):∃c,ef (fy Q h) lo hi ks kids c L/\c.Perm (kids++p)/\(∀s∈ks,cP s)/\ks.length<=1:=by
 obtain⟨_,x,rfl,rfl,hx⟩|⟨hs,x,y,k,rfl,rfl,hx,g⟩:=hf
 .exact⟨x::p,a.one d hx b,List.Perm.refl _,by simp,by simp⟩
 .obtain⟨_,_,_,_,_,bm,bt,bC,b8,rfl,rfl,i,j⟩:=a.two (Q:=Q) (x:=x) (y:=y) hs e f
  refine⟨_,j hx g b,?_,by simpa using i,by simp⟩;show((x::bm)++(y::bt)).Perm ([x,y]++(bm++bt));simp only[o0,lh];exact(nN).cons x
theorem HI{h:Nat}{ba b:aA}{d f:an Key}{i:Nat}{bm bt a:O Nat}{bC iK b8:O aY}{ks:O Key}{kids:O Nat}(h0:ba.leaf=false)(g:∀k∈ba.keys,cP k)(j:∀x∈ba.kids,x<1600)
 (p:fH (fy P (h+1)) lo d (ba.keys.take i) (ba.kids.take i) bm bC) (q:gU (fy P (h+1)) hi f (ba.keys.drop i) (ba.kids.drop (i+1)) bt b8) (l:dj P (h+1) b d f a iK) (h1:80<=bP b) (y:bP b<=282)
 (hf:nt Q b ks kids) (c:∀x∈bm++(a++bt),P x=Q x) (r:∀x∈kids,x<1600):
 ∃m,dj Q (h+2) (gn ba i (i+1) ks kids) lo hi m (bC++(iK++b8))/\m.Perm (kids++(bm++(a++bt)))/\bP (gn ba i (i+1) ks kids)<=bP ba+27/\ba.keys.length<=(gn ba i (i+1) ks kids).keys.length:=by
 obtain⟨t,hs,u,n,v⟩:=l.fits (l.zo h1) (λ_=>I) (λ_=>I) hf λx hx=>c x (iY _ (kl _ hx));have w:=dj.build p q hs (λx hx=>by
  rcases cE.1 hx with hx|hx
  .exact c x (kl _ hx)
  .exact c x (iY _ (iY _ hx)))
  (λs hs=>by
    rcases cE.1 hs with hs|hs
    .rcases cE.1 hs with hs|hs
     .exact g s (gd hs)
     .exact n s hs
    .exact g s (gb hs))
  (λx hx=>by
    rcases cE.1 hx with hx|hx
    .rcases cE.1 hx with hx|hx
     .exact j x (gd hx)
     .exact r x hx
    .exact j x (gb hx))
 have e:gn ba i (i+1) ks kids=⟨false,ba.keys.take i++ks++ba.keys.drop i,[],ba.kids.take i++kids++ba.kids.drop (i+1)⟩:=by unfold gn;rw[sD]
 rw[e];refine⟨_,w,?_,zp h0 v n (a_ _),?_⟩
 .have ao:(t++bt).Perm (kids++(a++bt)):=by
   rw[←cU];exact u.append_right _
  refine(List.Perm.append_left bm ao).trans ?_;have o:=(nP (l₁:=bm) (l₂:=kids)).append_right (a++bt);rw[cU,cU]at o;exact o
 .show ba.keys.length<=(ba.keys.take i++ks++ba.keys.drop i).length
  have:=congrArg List.length (iW i ba.keys);simp only[b6]at this⊢;omega
end Go.Proofs.YtcmgnhkpfllinaaGreat
namespace Go.Proofs.YtcmgnhkpfllinaaGreat
variable{a b:aA}{s:Key}
variable {lo hi:an Key}{P Q:Nat->an aA}
theorem xm:a.keys.length+b.keys.length<=(dS a s b).keys.length:=by
 unfold dS;split
 .show _<=(a.keys++b.keys).length
  rw[b6];omega
 .show _<=(a.keys++s::b.keys).length
  rw[b6,eE];omega
theorem CL:(dS a s b).leaf=a.leaf:=by
 unfold dS
 cases h:a.leaf<;>simp
theorem xn{h:Nat}{d f g i:an Key}{pa j:O Nat}{k l:O aY}(c:dj P h a d f pa k)(m:dj P h b g i j l)(hs:cP s)(h1:bP a+bP b<=311):
 ((dS a s b).leaf=true->bP (dS a s b)<=310)/\((dS a s b).leaf=false->bP (dS a s b)<=335):=by
 have n:a.leaf=b.leaf:=by rw[c.leaf,m.leaf]
 have o:a.leaf=true->a.vals.length=a.keys.length:=λh1=>by
  match h,c with
  |0,c=>exact c.elim
  |1,c=>exact c.1.len
  |h+2,c=>rw[c.1]at h1;cases h1
 rw[CL,HG n o];have:=hs.2;constructor
 .intro e;rw[e];simp only[if_true];omega
 .intro e;rw[e];simp only[gr,if_false];omega
theorem HJ{h:Nat}{ba f:aA}{t u:an Key}{i:Nat}{bm bt d:O Nat}{bC iK b8:O aY}{k:Key}(h0:ba.leaf=false)(v:∀k∈ba.keys,cP k)(B:∀x∈ba.kids,x<1600)(hlen:ba.kids.length=ba.keys.length+1)(R:∀x n,P x=some n->bP n<=232)
 (ah:1<=i) (ai:i<ba.kids.length) (C:fF t u k)
 (S:fH (fy P (h+1)) lo t (ba.keys.take i) (ba.kids.take i) bm bC) (T:gU (fy P (h+1)) hi u (ba.keys.drop i) (ba.kids.drop (i+1)) bt b8) (D:dj P (h+1) f t u d iK) (h1:bP f<80):
 ∃ (o:aA) (w:O Nat) (E:i-1<ba.kids.length) (aj:i-1<ba.keys.length),P ba.kids[i-1]=some o/\bm.Perm (ba.kids[i-1]::w)/\2<=o.keys.length/\
  ∀ (Q:Nat->an aA) (ks:O Key) (kids:O Nat),nt Q (dS o ba.keys[i-1] f) ks kids->(∀x∈w++(d++bt),P x=Q x)->(∀x∈kids,x<1600)->
   ∃F,dj Q (h+2) (gn ba (i-1) (i+1) ks kids) lo hi F (bC++(iK++b8))/\F.Perm (kids++(w++(d++bt)))/\bP (gn ba (i-1) (i+1) ks kids)<=bP ba+27/\ba.keys.length<=(gn ba (i-1) (i+1) ks kids).keys.length+1:=by
 obtain⟨s,U,bc,r,bH,N,hs,rfl,y,rfl,rfl,⟨z,m,g,j⟩,G,ak⟩:=S.last (by rw[cQ];omega);have V:(ba.keys.take i).length=i:=by rw[cQ];omega
 have W:(ba.kids.take i).length=i:=by rw[cQ];omega
 have y:s=ba.keys[i-1]'I:=by
  rw[y,mu];congr 1;omega
 have X:(ba.kids.take i)[(ba.kids.take i).length-1]'I=ba.kids[i-1]'I:=by
  rw[mu];congr 1;omega
 rw[X]at z g;obtain⟨o,p,q,rfl,_,H⟩:=z.ke;rw[q]at g;have j:2<=o.keys.length:=by rw[Option.some.inj g];exact j
 clear g;subst y;have A:=(show fy P (h+1) U (some (ba.keys[i-1]'I)) (ba.kids[i-1]'I) (ba.kids[i-1]'I::p) N from⟨z,o,q,j⟩).in;obtain⟨x,hx⟩:=sC _ A.1;have J:=v _ (cg (l:=ba.keys) (n:=i-1) I);have Y:=dj.merge H D J (λc hc=>jU (lD ((A.2.2 x hx).1 c hc) ((A.2.2 x hx).2 _ rfl))) (λc hc=>jU (lD (C.1 _ rfl) (C.2 c hc)));have K:=xn H D J (U4 (R _ _ q));have al:=xm (a:=o) (b:=f) (s:=ba.keys[i-1]'I);refine⟨o,bc++p,I,I,q,nN,j,λQ ks kids hf L Z=>?_⟩;obtain⟨aa,ab,ac,M,ad⟩:=Y.fits I K.1 K.2 hf λx hx=>L x (by
  rcases cE.1 hx with hx|hx
  .exact kl _ (iY _ hx)
  .exact iY _ (kl _ hx))
 have ae:(ba.keys.take i).take ((ba.keys.take i).length-1)=ba.keys.take (i-1):=by rw[V,o1];congr 1;omega
 have af:(ba.kids.take i).take ((ba.kids.take i).length-1)=ba.kids.take (i-1):=by rw[W,o1];congr 1;omega
 rw[ae,af]at G;have E:=dj.build G T ab (λx hx=>L x (by
  rcases cE.1 hx with hx|hx
  .exact kl _ (kl _ hx)
  .exact iY _ (iY _ hx)))
  (λs hs=>by
    rcases cE.1 hs with hs|hs
    .rcases cE.1 hs with hs|hs
     .exact v s (gd hs)
     .exact M s hs
    .exact v s (gb hs))
  (λx hx=>by
    rcases cE.1 hx with hx|hx
    .rcases cE.1 hx with hx|hx
     .exact B x (gd hx)
     .exact Z x hx
    .exact B x (gb hx))
 have e:gn ba (i-1) (i+1) ks kids=⟨false,ba.keys.take (i-1)++ks++ba.keys.drop i,[],ba.kids.take (i-1)++kids++ba.kids.drop (i+1)⟩:=by unfold gn;rw[sD]
 rw[e];refine⟨_,by simpa[cU] using E,?_,zp h0 ad M I,?_⟩
 .have ao:(aa++bt).Perm (kids++(p++(d++bt))):=by
   have:=ac.append_right bt;simpa[cU] using this
  refine(List.Perm.append_left bc ao).trans ?_;have ag:=(nP (l₁:=bc) (l₂:=kids)).append_right (p++(d++bt));simpa[cU] using ag
 .show ba.keys.length<=(ba.keys.take (i-1)++ks++ba.keys.drop i).length+1
  simp only[b6,cQ,dW];omega
end Go.Proofs.YtcmgnhkpfllinaaGreat
namespace Go.Proofs.YtcmgnhkpfllinaaGreat
variable {lo hi:an Key}{P Q:Nat->an aA}
theorem HK{h:Nat}{ba g:aA}{v w:an Key}{i:Nat}{bm bt d:O Nat}{bC iK b8:O aY}{k:Key}(h0:ba.leaf=false)(y:∀k∈ba.keys,cP k)(D:∀x∈ba.kids,x<1600)(hlen:ba.kids.length=ba.keys.length+1)(T:∀x n,P x=some n->bP n<=232)
 (j:i+1<ba.kids.length) (E:fF v w k)
 (U:fH (fy P (h+1)) lo v (ba.keys.take i) (ba.kids.take i) bm bC) (V:gU (fy P (h+1)) hi w (ba.keys.drop i) (ba.kids.drop (i+1)) bt b8) (F:dj P (h+1) g v w d iK) (h1:bP g<80):
 ∃ (o:aA) (z:O Nat) (G:i+1<ba.kids.length) (af:i<ba.keys.length),P ba.kids[i+1]=some o/\bt.Perm (ba.kids[i+1]::z)/\2<=o.keys.length/\
  ∀ (Q:Nat->an aA) (ks:O Key) (kids:O Nat),nt Q (dS g ba.keys[i] o) ks kids->(∀x∈bm++(d++z),P x=Q x)->(∀x∈kids,x<1600)->
   ∃H,dj Q (h+2) (gn ba i (i+2) ks kids) lo hi H (bC++(iK++b8))/\H.Perm (kids++(bm++(d++z)))/\bP (gn ba i (i+2) ks kids)<=bP ba+27/\ba.keys.length<=(gn ba i (i+2) ks kids).keys.length+1:=by
 obtain⟨s,W,r,f,N,ag,hs,rfl,A,rfl,rfl,⟨B,m,p,q⟩,J⟩:=V.head (by rw[dW];omega);have A:s=ba.keys[i]'I:=by rw[A,qs];rfl
 have X:(ba.kids.drop (i+1))[0]'(by rw[dW];omega)=ba.kids[i+1]'j:=by rw[qs]
 rw[X]at B p;obtain⟨o,t,u,rfl,_,K⟩:=B.ke;rw[u]at p;have q:2<=o.keys.length:=by rw[Option.some.inj p];exact q
 clear p;subst A;have C:=(show fy P (h+1) (some (ba.keys[i]'I)) W (ba.kids[i+1]'j) (ba.kids[i+1]'j::t) N from⟨B,o,u,q⟩).in;obtain⟨x,hx⟩:=sC _ C.1;have L:=y _ (cg (l:=ba.keys) (n:=i) I);have Y:=dj.merge F K L (λc hc=>jU (lD (E.1 c hc) (E.2 _ rfl))) (λc hc=>jU (lD ((C.2.2 x hx).1 _ rfl) ((C.2.2 x hx).2 c hc)));have M:=xn F K L (U4 (T _ _ u));have ah:=xm (a:=g) (b:=o) (s:=ba.keys[i]'I);refine⟨o,t++f,j,I,u,List.Perm.refl _,q,λQ ks kids hf R Z=>?_⟩;obtain⟨aa,ab,ac,S,ad⟩:=Y.fits I M.1 M.2 hf λx hx=>R x (by
  rcases cE.1 hx with hx|hx
  .exact iY _ (kl _ hx)
  .exact iY _ (iY _ (kl _ hx)))
 rw[mm,mm]at J;have G:=dj.build U J ab (λx hx=>R x (by
  rcases cE.1 hx with hx|hx
  .exact kl _ hx
  .exact iY _ (iY _ (iY _ hx))))
  (λs hs=>by
    rcases cE.1 hs with hs|hs
    .rcases cE.1 hs with hs|hs
     .exact y s (gd hs)
     .exact S s hs
    .exact y s (gb hs))
  (λx hx=>by
    rcases cE.1 hx with hx|hx
    .rcases cE.1 hx with hx|hx
     .exact D x (gd hx)
     .exact Z x hx
    .exact D x (gb hx))
 have e:gn ba i (i+2) ks kids=⟨false,ba.keys.take i++ks++ba.keys.drop (i+1),[],ba.kids.take i++kids++ba.kids.drop (i+1+1)⟩:=rfl;rw[e];refine⟨_,by simpa[cU] using G,?_,zp h0 ad S I,?_⟩
 .have ao:(aa++f).Perm (kids++(d++(t++f))):=by
   have:=ac.append_right f;simpa[cU] using this
  refine(List.Perm.append_left bm ao).trans ?_;have ae:=(nP (l₁:=bm) (l₂:=kids)).append_right (d++(t++f));simpa[cU] using ae
 .show ba.keys.length<=(ba.keys.take i++ks++ba.keys.drop (i+1)).length+1
  simp only[b6,cQ,dW];omega
end Go.Proofs.YtcmgnhkpfllinaaGreat
namespace Go.Proofs.YtcmgnhkpfllinaaGreat
variable{ks vs:O Key}{k:Key}{i:Nat}
variable {lo hi:an Key}{P:Nat->an aA}
def cX(ks:O Key)(k:Key):Nat:=ks.findIdx λs=>decide (¬b9 s k)
theorem rO(ks:O Key)(k:Key):cX ks k<=ks.length:=List.findIdx_le_length
theorem pS{j:Nat}(h:j<cX ks k)(a:j<ks.length):b9 ks[j] k:=by
 have:=List.not_of_lt_findIdx h;simpa using this
theorem rP(hs:ks.Pairwise b9){j:Nat}(h:cX ks k<=j)(c:j<ks.length):g6 k ks[j]:=by
 have h1:cX ks k<ks.length:=I
 have a:g6 k ks[cX ks k]:=by
  have:=List.findIdx_getElem (p:=λs=>decide (¬b9 s k)) (xs:=ks) (w:=h1);exact CG.1 (bB this)
 rcases dA (cX ks k) j with b|b
 .exact jU (lD a (lT.1 hs _ _ h1 c b))
 .have:cX ks k=j:=I
  subst this;exact a
theorem HL{α:Type}{f:α->ag}{L:O α}(h1:∀x∈L.take i,f x=true)(a:∀x∈L.drop i,f x=false):L.filter f=L.take i:=by
 conv=>lhs;rw[←iW i L]
 rw[lR,mZ.2 h1,sx.2 (λx hx=>by rw[a x hx];decide),fO]
theorem CM{α:Type}{f:α->ag}{L:O α}(h1:∀x∈L.take i,f x=false)(a:∀x∈L.drop i,f x=true):L.filter f=L.drop i:=by
 conv=>lhs;rw[←iW i L]
 rw[lR,sx.2 (λx hx=>by rw[h1 x hx];decide),mZ.2 a,lh]
theorem zq{x:aY}(h:x∈(ks.zip vs).take i):∃ (j:Nat) (a:j<ks.length),j<i/\x.1=ks[j]:=by
 obtain⟨j,a,rfl⟩:=List.mem_take_iff_getElem.1 h;have h1:j<(ks.zip vs).length:=I
 rw[qn]at h1;exact⟨j,I,I,by rw[List.getElem_zip]⟩
theorem zr{x:aY}(h:x∈(ks.zip vs).drop i):∃ (j:Nat) (a:j<ks.length),i<=j/\x.1=ks[j]:=by
 obtain⟨j,a,rfl⟩:=List.mem_drop_iff_getElem.1 h;have h1:i+j<(ks.zip vs).length:=I
 rw[qn]at h1;exact⟨i+j,I,I,by rw[List.getElem_zip]⟩
theorem HM{v:Key}(hs:ks.Pairwise b9):h3 (ks.zip vs) k v=(ks.zip vs).take (cX ks k)++(k,v)::(ks.zip vs).drop (if ks[cX ks k]? =some k then cX ks k+1 else cX ks k):=by
 unfold h3;rw[HL (f:=λp:aY=>decide (b9 p.1 k)) (i:=cX ks k) (λx hx=>by
  obtain⟨j,a,h1,e⟩:=zq hx;rw[e];exact dm (pS h1 a)) (λx hx=>by
  obtain⟨j,a,h1,e⟩:=zr hx;rw[e];exact ib (rP hs h1 a))]
 congr 2
 split
 .rename_i he
  obtain⟨aB,he⟩:=jK.1 he;refine CM (λx hx=>?_) (λx hx=>?_)
  .obtain⟨j,a,h1,e⟩:=zq hx
   rw[e];refine ib ?_;rcases dA j (cX ks k) with b|b
   .exact l3 (pS b a)
   .have:j=cX ks k:=I
    subst this;rw[he];exact rM _
  .obtain⟨j,a,h1,e⟩:=zr hx
   rw[e];refine dm ?_;have:=lT.1 hs _ j aB a I;rwa[he]at this
 .rename_i he
  refine CM (λx hx=>?_) (λx hx=>?_)
  .obtain⟨j,a,h1,e⟩:=zq hx
   rw[e];exact ib (l3 (pS h1 a))
  .obtain⟨j,a,h1,e⟩:=zr hx
   rw[e];refine dm ?_;rcases pP.1 (rP hs h1 a) with b|b
   .exact b
   .have aB:cX ks k<ks.length:=I
    rcases dA (cX ks k) j with c|c
    .exact lD (rP hs (a_ _) aB) (lT.1 hs _ _ aB a c)
    .have:j=cX ks k:=I
     subst this;exact absurd ((dB aB).trans (congrArg some b.symm)) he
end Go.Proofs.YtcmgnhkpfllinaaGreat
namespace Go.Proofs.YtcmgnhkpfllinaaGreat
open Go aU Go.Proofs.Tryz
variable{n:aA}{w w':J}{l:O UInt8}{i o b lo a k m r nb:Nat}{α:Type}{W V B bw bD br:U1}{K R:U2}{vs:O Y}{T:TypeId}{leaf:ag}{ls:O Key}{ds:O Nat}
theorem mJ{n:Nat}(h:n<256):((UInt8.ofNat n).toNat:Nat)=n:=by
 simp[jx h]
theorem CN{src dst:TypeId}{s:U}{ns:O Int}(hs:Tryz.prog.underlying src=some (.slice 5))(hd:Tryz.prog.underlying dst=some .string)(h:Src 1 w s (ns.map (.int .u8))):
 Sem.run aj (convert src dst s) w=.ok (.string (S (ns.map λn=>UInt8.ofNat n.toNat))) w:=by
 rw[Gq hs U3 hd h,Gt]
def tl(f:Nat->Int)(k m:Nat):O UInt8:=(List.range (m-k)).map λj=>UInt8.ofNat (f (k+j)).toNat
theorem zt{A:ax}:∀ (vs:O Y) (i:Nat),(∀j v,vs[j]? =some v->w.cell? (A.add (i+j))=some v)->cv w A i vs.length=some vs
 | [],_,_=>rfl
 |v::vs,i,h=>by
  have h0:=h 0 v rfl
  have a:=zt vs (i+1) (λj u b=>by rw[show i+1+j=i+(j+1) from I];exact h (j+1) u (by simpa using b))
  rw[lO]at h0
  simp[cv,h0,a]
def aC(l:O UInt8):O Y:=l.map λb=>Value.int .u8 (b.toNat:Int)
theorem dO(l:O UInt8):(aC l).length=l.length:=by simp[aC]
theorem oD(h:i<l.length):(aC l)[i]? =some (.int .u8 ((l[i].toNat:Nat):Int)):=by simp[aC,h]
def kW(c:Nat):an Nat:=if 48<=c/\c<=57 then some (c-48) else if 97<=c|||32/\c|||32<=122 then some ((c|||32)-97+10) else none
theorem HN(c:UInt8):((c.toNat:Int).toNat.toUInt8)=c:=by simp
theorem jE(l:O UInt8):∀v∈aC l,Plain v:=by
 intro v a;obtain⟨n,_,rfl⟩:=df.1 a;trivial
theorem l6(a b:O UInt8):aC (a++b)=aC a++aC b:=by simp[aC]
theorem take_succ(ls:O α)(h:i<ls.length):ls.take (i+1)=ls.take i++ [ls[i]]:=by
 rw[gv h]
structure CO where
 Mb:ag
 b:O UInt8
 h:b.length=16
 deriving DecidableEq
def Var(w:J)(b:Nat)(vs:O Y)(T:TypeId):Prop:=bp w b vs.toArray T
section
variable {w w':J}{b:Nat}{vs us:O Y}{T:TypeId}
theorem Var.new(w:J)(vs:O Y)(T:TypeId):Var (w.alloc (.cells vs.toArray T)) w vs T:=bp.new _ _ _
theorem Var.rd(h:Var w b vs T){n:Nat}(a:vs.length=n):cv w b 0 n=some vs:=by
 have:=qO h n 0 0 (by simp[a]);rw[this];simp[←a]
theorem Var.zu(h:Var w b vs T){n:Nat}(a:o+n<=vs.length):cv w ⟨b,o,none⟩ 0 n=some ((vs.drop o).take n):=by
 have:=qO h n o 0 (by simpa using a);rw[this];simp
theorem Var.cell(h:Var w b vs T):w.cell? ⟨b,i,none⟩=vs[i]? :=by
 rw[bp.cell h];simp
theorem Var.ext(h:Var w b vs T)(hx:Ext w w'):Var w' b vs T:=bp.ext h hx
theorem Var.ab(h:Var w b vs T)(hx:aa W w w')(a:¬W b):Var w' b vs T:=bp.ab h hx a
theorem Var.drew(h:Var w b vs T):Var w.drew b vs T:=bp.drew h
theorem Var.lt(h:Var w b vs T):b<w:=bp.lt h
theorem Var.cF(h:Var w b vs T)(a:us.length=vs.length)(c:∀v∈us,Plain v):c5 w b us:=bp.cF h 0 us (by simp[a]) c
theorem Var.put(h:Var w b vs T)(a:us.length=vs.length):Var (setCells w b 0 us) b us T:=by
 have:=bp.vd us 0 0 h;simp only[lO]at this;have e:(g4 vs.toArray 0 us)=us.toArray:=by
  have h1:=vf us vs.toArray 0 (by simp[a]);rw[cT,a,sB,lh,eZ (by rw[Array.length_toList,jb];simp)]at h1;apply Array.toList_inj.1;rw[h1]
 rwa[e]at this
end
theorem aH(h:K w):au w K:=h
theorem bg{c:Array Y}(hc:c=vs.toArray)(h:∀w',Var w' w vs T->Ext w w'->w'.heap.size=w+1->K w'):au (w.alloc (.cells c T)) K:=by
 subst hc;exact h _ (Var.new _ _ _) (aa.alloc (.refl _ _) _) U9
theorem c6{us l:O Y}(a:Var w b vs T)(c:us.length=vs.length)(d:l=us)(h:∀w',Var w' b us T->aa (λq=>q=b) w w'->w'.heap.size=w->K w'):au (setCells w b 0 l) K:=by
 subst d;refine h _ (a.put c) (aa.kT (.refl _ _) l 0) ?_;have:∀ (vs:O Y) (i:Nat) (w:J),(setCells w b i vs).heap.size=w:=by
  intro vs
  induction vs with
  |nil=>intro i w;rfl
  |cons v vs e=>intro i w;rw[setCells,e];simp[World.setCell]
 exact this _ _ _
theorem Ext.bQ{w0:J}(h:Ext w0 w)(hc:aa (λq=>q=b) w w')(a:w0<=b):Ext w0 w':=Ext.dH h hc (λk c=>by subst c;exact a)
theorem Var.CP{n c:Nat}(h:Var w b vs T)(e:o+n<=vs.length)(d:(vs.drop o).take n=aC l):Src 1 w ⟨some ⟨b,o,none⟩,n,c⟩ (aC l):=by
 have hlen:n=l.length:=by
  have:=congrArg List.length d;rw[cQ,dW,dO]at this;omega
 refine⟨by rw[dO];show _=n*1;omega,(λh=>by cases h),λa f=>?_⟩
 cases f;show cv w ⟨b,o,none⟩ 0 (n*1)=_;rw[eY,h.zu e,d]
theorem tM:hY aj 39 5 1 1:=⟨by kernel_rfl⟩
theorem HO{nh dN ty:TypeId}{dl pq:Nat}{s:U}(hu:Tryz.prog.underlying nh=some (.slice 5))(hs:Src 1 w s (aC l))(e:s.len<=dl)(a:c5 w ⟨b,o,none⟩ (aC l)):
 Sem.run aj (Builtin.copy_ #[nh,dN] ty #[.slice (some ⟨b,o,none⟩) dl pq,s]) w=.ok s.len (setCells w ⟨b,o,none⟩ 0 (aC l)):=by
 have f:Nat.min s.len dl=s.len:=km e;have c:=iH (P:=aj) (w:=w) (t:=5) (d:=.int .u8) U3;have hc:Tryz.prog.cellsOf 5=1:=by kernel_rfl
 rw[hc]at c;have hf:=qP (P:=aj) hs;have g:=qB (P:=aj) (A:=⟨b,o,none⟩) (aC l) 0 w (by simpa using a.1) a.2;simp[Builtin.copy_,dh hu,Builtin.lenOf,c,f,hf,g];rfl
def kb(n i:Nat):Nat:=min (n-8*i) 8
theorem Var.CQ(h:Var w b vs T)(i:Nat)(v:Y):Var (w.setCell ⟨b,i,none⟩ v) b (vs.set i v) T:=by
 have:=bp.set h i v;simpa[Var] using this
theorem Src.sub{s:U}{hi:Nat}(h:Src 1 w s vs)(hc:s.len<=s.cap)(h1:lo<=hi)(l:hi<=s.len):Src 1 w ⟨bj s.a 1 lo s.cap,hi-lo,s.cap-lo⟩ ((vs.drop lo).take (hi-lo)):=by
 have m:vs.length=s.len:=U4 h.len
 refine⟨by simp;omega,λc=>?_,λa b=>?_⟩
 .have f:s.a=none:=by
   unfold bj at c;split at c
   .exact c
   .simpa using c
  simp[h.nil f]
 .show cv w a 0 ((hi-lo)*1)=_
  by_cases e:hi=lo
  .rw[show hi-lo=0 from I];simp[cv]
  .have ak:∃A,s.a=some A/\a=A.add lo:=by
    unfold bj at b;rw[if_neg I]at b
    cases hs:s.a with
    |none=>rw[hs]at b;cases b
    |some A=>rw[hs]at b;exact⟨A,rfl,by simpa using b.symm⟩
   obtain⟨A,ak,rfl⟩:=ak;have g:=h.rd A ak;have:=zt (w:=w) (A:=A.add lo) ((vs.drop lo).take (hi-lo)) 0 (λj v d=>by
    rw[add_add];have i:j<hi-lo:=by have:=(jK.1 d).1;simp at this;omega
    rw[List.getElem?_take_of_lt i,sq]at d;have:=qQ g d;simpa using this)
   have k:((vs.drop lo).take (hi-lo)).length=hi-lo:=by simp;omega
   rw[k]at this;rw[eY];exact this
def jf(l:O UInt8):Nat:=l.foldl (λn c=>n*256+c.toNat) 0
theorem HP(l m:O UInt8):jf (l++m)=m.foldl (λn c=>n*256+c.toNat) (jf l):=by simp[jf,List.foldl_append]
theorem xo(l:O UInt8)(c:UInt8):jf (l++ [c])=jf l*256+c.toNat:=by rw[HP];rfl
theorem nu:∀ (k:Nat) (l:O UInt8),l.length=k->jf l<256^k:=by
 intro k
 induction k with
 |zero=>intro l h;rw[kN.1 h];simp[jf]
 |succ k a=>
  intro l h;obtain⟨m,c,rfl⟩:∃m c,l=m++ [c]:=by
   rcases List.eq_nil_or_concat l with rfl|⟨m,c,b⟩
   .simp at h
   .exact⟨m,c,by rw[b,List.concat_eq_append]⟩
  rw[xo,Nat.pow_succ];have:=a m (by simpa using h);have:=m4 c;omega
theorem HQ(c:a<2^64)(d:b<2^64):nX .u64 (a:Int) (b:Int)=((a|||b:Nat):Int):=by
 have e:BitVec.ofInt 64 (a:Int)=BitVec.ofNat 64 a:=by simp
 have f:BitVec.ofInt 64 (b:Int)=BitVec.ofNat 64 b:=by simp
 unfold nX;show IntKind.u64.wrap (((BitVec.ofInt 64 (a:Int)|||BitVec.ofInt 64 (b:Int)).toNat:Nat):Int)=_;rw[e,f,BitVec.toNat_or,BitVec.toNat_ofNat,BitVec.toNat_ofNat,jx c,jx d];have:a|||b<2^64:=Nat.or_lt_two_pow c d;have:a|||b<18446744073709551616:=this;rw[gl I I]
theorem HR(n c:Nat)(hc:c<256):n*256|||c=n*256+c:=by
 have:=Nat.shiftLeft_add_eq_or_of_lt (i:=8) (b:=c) (by simpa using hc) n;rw[Nat.shiftLeft_eq]at this;exact this.symm
theorem l1{s:U}(hs:Src 1 w s (aC l))(hc:s.len<=s.cap)(u:1<=k/\k<=8)(x:a+k<=l.length)(y:l.length<=1000000000000):
 aI aj 106 #[s,a,k] w (λv w'=>v=.tuple #[.int .u64 ((jf ((l.drop a).take k):Nat):Int),true]/\w=w'):=by
 refine okF (ad.l1 s a k) ay.l1 func106 ?_;(delta ad.l1 pt af bR aF gg aQ aO bA aV ai;dsimp only);have z:s.len=l.length:=by have:=hs.len;rw[dO]at this;omega
 refine Calls.mono (ad.G8 s a k w (λv w'=>v=.tuple #[.slice (bj s.a 1 a s.cap) k (s.cap-a),true]/\w=w') ?_) ?_
 .delta ad.l2 af ai
  rw[bl (n:=(s.len:Int)-(a:Int)) I I,bl (n:=(a:Int)+(k:Int)) I I];refine⟨λh=>?_,λ_=>⟨⟨I,I⟩,⟨I,I⟩,?_,rfl⟩⟩
  .simp only[fC,cq]at h;omega
  .rw[show Int.toNat ((a:Int)+(k:Int))-Int.toNat (a:Int)=k from I];rfl
 rintro _ _ ⟨_,rfl,rfl,rfl⟩;refine⟨⟨bj s.a 1 a s.cap,k,s.cap-a⟩,true,rfl,cx (λb w'=>b=false/\w=w') (λq g=>⟨λh=>by simp at h,λ_=>?_⟩) ?_⟩
 .refine Calls.mono (ad.CA k w (λv w'=>v=true/\w=w') ⟨?_,rfl⟩) ?_
  .have h1:decide ((k:Int)>=1)=true:=dm I
   have d:decide ((k:Int)<=8)=true:=dm I;rw[h1,d];rfl
  .rintro _ _ ⟨_,rfl,rfl,rfl⟩
   exact⟨_,rfl,g _ _ ⟨rfl,rfl⟩⟩
 rintro _ _ ⟨rfl,rfl⟩;have c:=Src.sub hs hc (lo:=a) (hi:=a+k) I I;rw[show a+k-a=k from I]at c;have c:Src 1 w ⟨bj s.a 1 a s.cap,k,s.cap-a⟩ (aC ((l.drop a).take k)):=by
  simpa[aC,qp,m3] using c
 obtain⟨m,f⟩:=U6 ((l.drop a).take k);have B:m.length=k:=by rw[f];simp;omega
 rw[←f]at c⊢;refine⟨λh=>by simp at h,λ_=>⟨λn i w'=>w=w'/\∃j:Nat,i=j/\j<=k/\n=((jf (m.take j):Nat):Int),λ_ i _=>((k:Int)-i).toNat,⟨rfl,0,rfl,cw _,rfl⟩,?_⟩⟩;rintro _ _ _ ⟨rfl,j,rfl,C,rfl⟩;refine⟨λaB=>?_,λe=>?_⟩
 .have aB:((j:Int)<(k:Int)):=bB aB
  have aB:j<k:=I
  obtain⟨A,ak,o,p⟩:=c.at (oD (l:=m) (i:=j) I);have h1:=nu j (m.take j) (by simp;omega);have d:256^j<=256^7:=sE I I;have d:256^j<=72057594037927936:=d;have r:(m[j]).toNat<256:=m4 _;have t:((jf (m.take j):Nat):Int)*2^(min (Int.toNat 8) 64)=((jf (m.take j)*256:Nat):Int):=by
   show((jf (m.take j):Nat):Int)*256=_;omega
  refine⟨A,ak,o,_,p,by decide,?_⟩;rw[t,gl (n:=((jf (m.take j)*256:Nat):Int)) I I,gl (n:=((m[j].toNat:Nat):Int)) I I,HQ (by show _<18446744073709551616;omega) (by show _<18446744073709551616;omega),HR _ _ r,bl (n:=(j:Int)+1) I I];refine⟨⟨rfl,j+1,I,I,?_⟩,?_⟩
  .rw[take_succ m I,xo]
  .show((k:Int)-((j:Int)+1)).toNat<((k:Int)-(j:Int)).toNat
   omega
 .have e:¬((j:Int)<(k:Int)):=bT e
  have e:j=k:=I
  subst e;exact⟨by rw[eZ I],rfl⟩
theorem zv{s:U}(h:Src 1 w s (aC l))(i:l.length<=1000000):
 aI aj 46 #[s] w (λv w'=>∃b:U,v=b/\aL 1 5 w' b (aC l)/\Ext w w'/\∀k,ar b k->w<=k):=by
 have j:s.len=l.length:=by have:=h.len;rw[dO]at this;omega
 refine okF (ad.py s) ay.py func46 ?_;(delta ad.py af ap ae;dsimp only);refine⟨λc=>?_,λ_=>?_⟩
 .have c:s.a=none:=by simpa using c
  rw[h.nil c];exact⟨⟨none,0,0⟩,rfl,aL.none _ _ _,.refl _ _,λk d=>(gE k d).elim⟩
 .obtain⟨b,w',h1,e,m,f,g,_⟩:=tM.clone (c7:=39) h (jE l) I
  exact aH ⟨b,w',h1,b,rfl,e,f,g⟩
theorem HS{s:U}(c:UInt8)(b:aL 1 5 w s (aC l))(h:l.length<=1000000):
 ∃ (a:U) (w':J),Sem.run aj (Builtin.append_ #[39,39] 39 #[s,.slice (some w) 1 1]) (w.alloc (.cells #[.int .u8 (c.toNat:Int)] 5))=.ok a w'/\
  aL 1 5 w' a (aC (l++ [c]))/\aa (ar s) w w'/\(∀k,ar a k->ar s k\/w<=k):=by
 have i:s.len=l.length:=by have:=b.1;rw[dO]at this;omega
 obtain⟨a,w',h1,d,j,e,f⟩:=tM.push (c7:=39) (w:=w) (s:=s) (xs:=[.int .u8 (c.toNat:Int)]) rfl b (λv g=>by rw[dV.1 g];trivial) I;exact⟨a,w',h1,by rw[l6];exact d,e,f⟩
def bV(n k:Nat):O UInt8:=(List.range k).map λj=>UInt8.ofNat (n/256^(k-1-j)%256)
theorem eB(n k:Nat):(bV n k).length=k:=by simp[bV]
theorem je{s:U}(hs:Src 1 w s (aC l))(D:l.length<=100000){n:Nat}(g:n<2^64)(E:1<=k/\k<=8):
 aI aj 115 #[s,.int .u64 n,k] w (λv w'=>∃a:U,v=a/\aL 1 5 w' a (aC (l++bV n k))/\Ext w w'/\∀q,ar a q->w<=q):=by
 have g:n<18446744073709551616:=g;refine okF (ad.je s n k) ay.je func115 ?_;(delta ad.je bU bR af jd ai ap ae;dsimp only);refine(zv hs I).use ?_;rintro _ w1 ⟨s1,rfl,m,o,p⟩;refine⟨s1,rfl,Calls.mono (ad.CA k w1 (λv w'=>v=true/\w1=w') ⟨?_,rfl⟩) ?_⟩
 .have h1:decide ((k:Int)>=1)=true:=dm I
  have b:decide ((k:Int)<=8)=true:=dm I;rw[h1,b];rfl
 rintro _ _ ⟨_,rfl,rfl,rfl⟩;rw[bl (n:=(k:Int)-1) I I];refine⟨_,rfl,λh=>by simp at h,λ_=>⟨λt i w'=>∃j:Nat,i=(k:Int)-1-j/\j<=k/\Ext w w'/\(∀q,ar t q->w<=q)/\aL 1 5 w' t (aC (l++(bV n k).take j)),λ_ i _=>(i+1).toNat,⟨0,I,I,o,p,by simpa using m⟩,?_⟩⟩;rintro t _ ah ⟨j,rfl,F,c,d,e⟩;refine⟨λaB=>?_,λf=>?_⟩
 .have aB:j<k:=U4 (bB aB)
  rw[bl (n:=8*((k:Int)-1-j)) I I,bl (n:=(k:Int)-1-j-1) I I];have r:IntKind.wrap .u8 (Int.fdiv (n:Int) (2^(min (Int.toNat (8*((k:Int)-1-j))) 64)))=((((UInt8.ofNat (n/256^(k-1-j)%256)).toNat:Nat)):Int):=by
   rw[mJ (gu _ I),show min (Int.toNat (8*((k:Int)-1-j))) 64=8*(k-1-j) from I,Gs];have u:((2:Int)^(8*(k-1-j)))=((256^(k-1-j):Nat):Int):=by
    rw[Int.pow_mul];simp
   rw[u,yh _ (Int.natCast_nonneg _)];generalize 256^(k-1-j)=z;rfl
  rw[r];obtain⟨x,y,h1,b,A,B⟩:=HS (UInt8.ofNat (n/256^(k-1-j)%256)) e (by simp[bV];omega);refine⟨I,aH ⟨x,y,h1,⟨j+1,I,I,Ext.dH c A d,λq C=>?_,?_⟩,?_⟩⟩
  .rcases B q C with h|h
   .exact d q h
   .exact fg c.size h
  .rw[take_succ _ (by rw[eB];exact aB),←cU]
   have:(bV n k)[j]'(by rw[eB];exact aB)=UInt8.ofNat (n/256^(k-1-j)%256):=by simp[bV]
   rw[this];exact b
  .show((k:Int)-1-j-1+1).toNat<((k:Int)-1-j+1).toNat
   omega
 .have f:j=k:=U4 (bT f)
  subst f;rw[eZ (by rw[eB];exact a_ _)]at e;exact⟨t,rfl,e,c,d⟩
theorem HT(n k:Nat):bV n (k+1)=bV (n/256) k++ [UInt8.ofNat (n%256)]:=by
 unfold bV;rw[sF,eU]
 congr 1
 .apply qt
  intro j a;have:=iV.1 a;rw[show k+1-1-j=(k-1-j)+1 from I,Nat.pow_succ,Nat.mul_comm,←Nat.div_div_eq_div_mul]
 .simp
theorem zw:∀ (k n:Nat),n<256^k->jf (bV n k)=n
 |0,n,h=>by
  have:n=0:=by simpa using h
  subst this;rfl
 |k+1,n,h=>by
  rw[Nat.pow_succ]at h
  rw[HT,xo,zw k (n/256) I,mJ (gu _ I)]
  omega
def cC(n:aA):Prop:=hJ n\/tL n
def gW(l:Key):O UInt8:=UInt8.ofNat l.length::l
def eF(n:aA)(i:Nat):O UInt8:=gW (n.keys.getD i [])++if n.leaf then gW (n.vals.getD i []) else bV (n.kids.getD (i+1) 0) 2
def fz(n:aA)(i m:Nat):O UInt8:=((List.range' i m).map (eF n)).flatten
theorem xp(n:aA)(i m:Nat):fz n i (m+1)=eF n i++fz n (i+1) m:=rfl
theorem pT(n:aA)(m:Nat):fz n 0 (m+1)=fz n 0 m++eF n m:=by
 unfold fz;rw[List.range'_concat,eU,uE];simp
def preB(n:aA):O UInt8:=UInt8.ofNat n.keys.length::if n.leaf then [] else bV (n.kids.getD 0 0) 2
def ew(n:aA):O UInt8:=preB n++fz n 0 n.keys.length
theorem ik(l:Key):(gW l).length=l.length+1:=rfl
theorem cC.keys(h:cC n):xk n:=by
 obtain h|h:=h
 .exact h.toxk
 .exact h.toxk
theorem cC.vals(h:cC n):∀v∈n.vals,v.length<=24:=by
 obtain h|h:=h
 .exact h.vals
 .rw[h.vals];simp
theorem cC.kids(h:cC n):∀k∈n.kids,k<1600:=by
 obtain h|h:=h
 .rw[h.kids];simp
 .exact h.kids
theorem xq{l:O α}{d:α}(h:i<l.length):l.getD i d∈l:=by
 rw[fi,dB h];exact cg h
theorem zx(h:cC n)(hi:i<n.keys.length):(cellsOf n)[i]? =some (eF n i).length:=by
 unfold cellsOf eF;obtain h|h:=h
 .rw[h.leaf]
  simp only[if_true];have a:i<n.vals.length:=by rw[h.len];exact hi
  rw[List.getElem?_zipWith,dB hi,dB a];simp[fi,dB hi,dB a,ik];omega
 .rw[h.inner]
  simp only[gr,if_false];rw[ko,dB hi];simp[fi,dB hi,ik,eB];omega
theorem rQ(h:cC n):(cellsOf n).length=n.keys.length:=by
 unfold cellsOf;obtain h|h:=h
 .rw[h.leaf];simp[h.len]
 .rw[h.inner];simp
theorem zy(h:cC n):∀m,m<=n.keys.length->(fz n 0 m).length=((cellsOf n).take m).sum
 |0,_=>by simp[fz]
 |m+1,b=>by
  have a:m<(cellsOf n).length:=by rw[rQ h];omega
  have h1:=zx h (i:=m) I
  rw[dB a]at h1
  have h1:(cellsOf n)[m]=(eF n m).length:=Option.some.inj h1
  rw[pT,b6,zy h m I,rN a,h1]
theorem tN(h:cC n):(ew n).length=bP n:=by
 have e:((cellsOf n).take n.keys.length).sum=(cellsOf n).sum:=by rw[eZ (by rw[rQ h];exact a_ _)]
 unfold ew bP preB;rw[b6,zy h _ (a_ _),e]
 cases n.leaf<;>simp[eB]
theorem tO(h:cC n):2*n.keys.length<=bP n:=by
 have h1:∀l:O Nat,(∀x∈l,2<=x)->2*l.length<=l.sum:=by
  intro l
  induction l with
  |nil=>simp
  |cons a l c=>
   intro h;have:=h a U9;have:=c λx hx=>h x (by simp[hx]);simp only[eE,qo];omega
 have d:=h1 (cellsOf n) (by
  intro x hx;obtain⟨i,hi,rfl⟩:=eO hx;have e:i<n.keys.length:=by rwa[←rQ h]
  have b:=zx h e;rw[dB hi]at b;rw[Option.some.inj b];unfold eF;rw[b6,ik];split
  .rw[ik];omega
  .rw[eB];omega)
 rw[rQ h]at d;unfold bP;omega
abbrev Rd:=O UInt8×ag
def iL(r:Rd)(k:Nat):O UInt8×Rd:=if r.2=false\/r.1.length<k then ([],(r.1,false)) else (r.1.take k,(r.1.drop k,true))
def rdNum(r:Rd)(k:Nat):Nat×Rd:=(if (iL r k).1.length=k then jf (iL r k).1 else 0,(iL r k).2)
def kB(r:Rd):O UInt8×Rd:=iL (rdNum r 1).2 (rdNum r 1).1
def pU(s:aA×Rd):aA×Rd:=
 let t:=kB s.2
 if s.1.leaf then (⟨s.1.leaf,s.1.keys++ [t.1],s.1.vals++ [(kB t.2).1],s.1.kids⟩,(kB t.2).2)
 else (⟨s.1.leaf,s.1.keys++ [t.1],s.1.vals,s.1.kids++ [(rdNum t.2 2).1]⟩,(rdNum t.2 2).2)
def jg(s:aA×Rd):Nat->aA×Rd
 |0=>s
 |i+1=>pU (jg s i)
def nv(leaf:ag)(r:Rd):aA×Rd:=if leaf then (⟨true,[],[],[]⟩,r) else (⟨false,[],[],[(rdNum r 2).1]⟩,(rdNum r 2).2)
def jF(leaf:ag)(b:O UInt8):aA×Rd:=jg (nv leaf (rdNum (b,true) 1).2) (rdNum (b,true) 1).1
def gX(leaf:ag)(b:O UInt8)(n:aA):Prop:=cC n/\n.leaf=leaf/\bP n<=232/\ew n=b
theorem CR(a b:O UInt8):iL (a++b,true) a.length=(a,(b,true)):=by
 unfold iL;rw[if_neg U9];simp
theorem xr{n:Nat}(b:O UInt8)(h:n<256^k):rdNum (bV n k++b,true) k=(n,(b,true)):=by
 unfold rdNum;have:=CR (bV n k) b;rw[eB]at this;rw[this];simp[eB,zw k n h]
theorem CS(n:Nat)(h:n<256): [UInt8.ofNat n]=bV n 1:=by
 simp[bV,jx h]
theorem zz(l:Key)(b:O UInt8)(h:l.length<256):kB (gW l++b,true)=(l,(b,true)):=by
 have e:gW l++b=bV l.length 1++(l++b):=by
  rw[←CS _ h];rfl
 unfold kB;rw[e,xr _ (by simpa using h)];exact CR l b
theorem HV(h:cC n)(hi:i<n.keys.length)(b:O UInt8):
 pU (⟨n.leaf,n.keys.take i,n.vals.take i,if n.leaf then [] else n.kids.take (i+1)⟩,(eF n i++b,true))=
  (⟨n.leaf,n.keys.take (i+1),n.vals.take (i+1),if n.leaf then [] else n.kids.take (i+2)⟩,(b,true)):=by
 have e:n.keys.getD i []∈n.keys:=xq hi;have f:=(h.keys.ok _ e).2;have d:n.keys.take (i+1)=n.keys.take i++ [n.keys.getD i []]:=by
  rw[take_succ _ hi,fi,dB hi];rfl
 unfold pU;unfold eF;obtain h|h:=h
 .have a:i<n.vals.length:=by rw[h.len];exact hi
  have c:n.vals.getD i []∈n.vals:=xq a;have ev:n.vals.take (i+1)=n.vals.take i++ [n.vals.getD i []]:=by
   rw[take_succ _ a,fi,dB a];rfl
  simp only[h.leaf,if_true];rw[cU,zz _ _ I];simp only;rw[zz _ _ (U4 (h.vals _ c)),d,ev]
 .have a:i+1<n.kids.length:=by rw[h.len];omega
  have c:n.kids.getD (i+1) 0∈n.kids:=xq a;have ev:n.kids.take (i+2)=n.kids.take (i+1)++ [n.kids.getD (i+1) 0]:=by
   rw[take_succ _ a,fi,dB a];rfl
  simp only[h.inner,gr,if_false,h.vals];rw[cU,zz _ _ I];simp only;rw[xr _ (by have:=h.kids _ c;show _<65536;omega),d,ev];simp
theorem CT(h:cC n):∀i,i<=n.keys.length->
 jg (⟨n.leaf,[],[],if n.leaf then [] else n.kids.take 1⟩,(fz n 0 n.keys.length,true)) i=(⟨n.leaf,n.keys.take i,n.vals.take i,if n.leaf then [] else n.kids.take (i+1)⟩,(fz n i (n.keys.length-i),true))
 |0,_=>by simp[jg]
 |i+1,hi=>by
  rw[jg,CT h i I,show n.keys.length-i=n.keys.length-(i+1)+1 from I,xp]
  exact HV h I _
theorem zA(h:cC n)(g:bP n<=232):jF n.leaf (ew n)=(n,([],true)):=by
 have i:=tO h;unfold jF;have b:rdNum (ew n,true) 1=(n.keys.length,((if n.leaf then [] else bV (n.kids.getD 0 0) 2)++fz n 0 n.keys.length,true)):=by
  have:ew n=bV n.keys.length 1++((if n.leaf then [] else bV (n.kids.getD 0 0) 2)++fz n 0 n.keys.length):=by
   rw[←CS _ I];rfl
  rw[this,xr _ (by show _<256;omega)]
 rw[b];simp only;have c:nv n.leaf ((if n.leaf then [] else bV (n.kids.getD 0 0) 2)++fz n 0 n.keys.length,true)=(⟨n.leaf,[],[],if n.leaf then [] else n.kids.take 1⟩,(fz n 0 n.keys.length,true)):=by
  unfold nv;obtain h|h:=h
  .simp[h.leaf]
  .have hd:0<n.kids.length:=by rw[h.len];omega
   have d:n.kids.getD 0 0∈n.kids:=xq hd;have:=h.kids _ d;simp only[h.inner,gr,if_false];rw[xr _ (by show _<65536;omega)]
   cases e:n.kids with
   |nil=>rw[e]at hd;simp at hd
   |cons a l=>simp
 rw[c,CT h _ (a_ _)];have f:fz n n.keys.length (n.keys.length-n.keys.length)=[]:=by rw[lQ];rfl
 rw[f,eZ (a_ _)];obtain h|h:=h
 .rw[eZ (by rw[h.len];exact a_ _)]
  have:=h.kids;have:=h.leaf
  cases n
  simp_all
 .rw[eZ (by rw[h.vals];simp),eZ (by rw[h.len];exact a_ _)]
  have:=h.inner
  cases n
  simp_all
theorem gX.uniq{b:O UInt8}{m:aA}(h1:gX leaf b n)(d:gX leaf b m):n=m:=by
 obtain⟨a1,a2,a3,a4⟩:=h1;obtain⟨c3,cu,e,f⟩:=d;have a:=zA a1 a3;have c:=zA c3 e;rw[a2,a4]at a;rw[cu,f,a]at c;exact congrArg Prod.fst c
def nw(n:Nat):Nat:=if n%2=1 then (n/2)^^^0x82f63b78 else n/2
def oE:Nat->Nat->Nat
 |0,n=>n
 |k+1,n=>nw (oE k n)
def CU(n:Nat)(c:UInt8):Nat:=oE 8 (n^^^c.toNat)
def kX(n:Nat)(l:O UInt8):Nat:=l.foldl CU n
def il(l:O UInt8):Nat:=4294967295-kX 4294967295 l
theorem HW{n:Nat}(h:n<4294967296):nw n<4294967296:=by
 unfold nw;split
 .exact o2 (n:=32) (by show _<4294967296;omega) (by decide)
 .omega
theorem xt{n:Nat}(h:n<4294967296):∀k,oE k n<4294967296
 |0=>h
 |k+1=>HW (xt h k)
theorem HX{n:Nat}(h:n<4294967296)(c:UInt8):CU n c<4294967296:=
 xt (o2 (n:=32) h (by have:=m4 c;show _<4294967296;omega)) 8
theorem tP:∀ (l:O UInt8) {n:Nat},n<4294967296->kX n l<4294967296
 | [],_,h=>h
 |c::l,_,h=>tP l (HX h c)
theorem zB(n:Nat)(a b:O UInt8):kX n (a++b)=kX (kX n a) b:=by simp[kX,List.foldl_append]
theorem xu(l:O UInt8):il l<4294967296:=by unfold il;omega
structure h4 where
 kind:Nat
 gen:Nat
 body:O UInt8
 deriving DecidableEq
structure oF(p:h4):Prop where
 bJ:1<=p.kind
 b4:p.kind<=4
 gen:p.gen<18446744073709551616
 body:p.body.length<=232
def gp:O UInt8:=[83,84,78,67]
def fb(no:Nat)(p:h4):O UInt8:=gp++([1,UInt8.ofNat p.kind]++(bV p.body.length 2++(bV no 4++bV p.gen 8)))
def fk(p:h4):O UInt8:=p.body++List.replicate (232-p.body.length) 0
def eA(no:Nat)(p:h4):O UInt8:=fb no p++(bV (il (fb no p++fk p)) 4++fk p)
theorem oG(no:Nat)(p:h4):(fb no p).length=20:=by simp[fb,gp,eB]
theorem xv{p:h4}(h:oF p):(fk p).length=232:=by
 have:=h.body;simp[fk];omega
theorem tQ{p:h4}(no:Nat)(h:oF p):(eA no p).length=256:=by simp[eA,oG,eB,xv h]
def sumOf(l:O UInt8):Nat:=il (l.take 20++l.drop 24)
def ct(l:O UInt8)(a k:Nat):Nat:=jf ((l.drop a).take k)
def cG(no:Int)(l:O UInt8):Except Int h4:=
 if l.length≠256 then .error 9
 else if l.take 4≠gp then .error 4
 else if l.getD 4 0≠1 then .error 12
 else if sumOf l≠ct l 20 4 then .error 5
 else if¬(1<=(l.getD 5 0).toNat/\(l.getD 5 0).toNat<=4)\/232<ct l 6 2\/(l.drop (24+ct l 6 2)).all (λc=>c==0)=false then .error 4
 else if¬(0<=no/\no<1600)\/(ct l 8 4:Int)≠no then .error 1
 else .ok ⟨(l.getD 5 0).toNat,ct l 12 8,(l.drop 24).take (ct l 6 2)⟩
theorem drop_left'{a b:O α}{n:Nat}(h:a.length=n):(a++b).drop n=b:=by subst h;exact List.drop_left
theorem nx{a b:O α}{n:Nat}(h:a.length=n):(a++b).take n=a:=by subst h;exact List.take_left
theorem tR{a b:O UInt8}{n:Nat}(c:a.length=m)(h:n<256^k):ct (a++(bV n k++b)) m k=n:=by
 unfold ct;rw[drop_left' c,nx (eB n k),zw k n h]
theorem tS{no:Nat}{p:h4}(o:no<1600)(h:oF p):cG no (eA no p)=.ok p:=by
 have q:=h.body;have e:=h.bJ;have f:=h.b4;have hg:=h.gen;have ht:=xv h;have b:=oG no p;have hc:=xu (fb no p++fk p);have bL:ct (eA no p) 20 4=il (fb no p++fk p):=tR b (by show _<4294967296;exact hc);have a:eA no p=(gp++ [1,UInt8.ofNat p.kind])++(bV p.body.length 2++((bV no 4++bV p.gen 8)++(bV (il (fb no p++fk p)) 4++fk p))):=by
  show fb no p++_=_;rw[show fb no p=(gp++ [1,UInt8.ofNat p.kind])++(bV p.body.length 2++(bV no 4++bV p.gen 8)) by simp[fb]];simp only[cU]
 have bz:ct (eA no p) 6 2=p.body.length:=by rw[a];exact tR rfl (by show _<65536;omega)
 have g:eA no p=((gp++ [1,UInt8.ofNat p.kind])++bV p.body.length 2)++(bV no 4++(bV p.gen 8++(bV (il (fb no p++fk p)) 4++fk p))):=by rw[a];simp only[cU]
 have i:ct (eA no p) 8 4=no:=by rw[g];exact tR (by simp[gp,eB]) (by show _<4294967296;omega)
 have j:eA no p=((gp++ [1,UInt8.ofNat p.kind])++(bV p.body.length 2++bV no 4))++(bV p.gen 8++(bV (il (fb no p++fk p)) 4++fk p)):=by rw[a];simp only[cU]
 have k:ct (eA no p) 12 8=p.gen:=by rw[j];exact tR (by simp[gp,eB]) (by show _<18446744073709551616;exact hg)
 have l:eA no p=(fb no p++bV (il (fb no p++fk p)) 4)++fk p:=by simp[eA]
 have m:(fb no p++bV (il (fb no p++fk p)) 4).length=24:=by simp[b,eB]
 have d24:(eA no p).drop 24=fk p:=by rw[l];exact drop_left' m
 have t4:(eA no p).take 4=gp:=by rw[a];rfl
 have n:(eA no p).getD 4 0=1:=by rw[a];rfl
 have d:((eA no p).getD 5 0).toNat=p.kind:=by rw[a];show(UInt8.ofNat p.kind).toNat=p.kind;exact mJ I
 have s:sumOf (eA no p)=il (fb no p++fk p):=by
  unfold sumOf;rw[d24,show(eA no p).take 20=fb no p from nx b]
 unfold cG;rw[if_neg (by rw[tQ no h];simp),if_neg (by rw[t4];simp),if_neg (by rw[n];simp),if_neg (by rw[s,bL];simp),if_neg (by
  rw[d,bz];rintro(h1|h1|h1)
  .exact h1 ⟨e,f⟩
  .omega
  .rw[List.all_eq_false]at h1
   obtain⟨c,hc,h1⟩:=h1;rw[←mm,d24]at hc;unfold fk at hc;rw[List.drop_left]at hc;exact h1 (by rw[uF hc];rfl)),if_neg (by rw[i];rintro(h1|h1)<;>omega),d,bz,k,d24]
 have:(fk p).take p.body.length=p.body:=by unfold fk;exact List.take_left
 rw[this]
def iM(s:U):Y:=s
abbrev fI(w:J)(s:U):Prop:=∀k,ar s k->w<=k
theorem fI.mono{s:U}(h:fI w' s)(hx:w.heap.size<=w'.heap.size):fI w s:=λk a=>fg hx (h k a)
theorem len8{s:U}(h:Src 1 w s (aC l)):s.len=l.length:=by have:=h.len;rw[dO]at this;omega
theorem kC{s:U}(h:aL 1 T w s (aC l)):s.len=l.length:=by have:=h.1;rw[dO]at this;omega
theorem lF{s:U}{hi:Nat}(h:Src 1 w s (aC l))(hc:s.len<=s.cap)(h1:lo<=hi)(b:hi<=s.len):Src 1 w ⟨bj s.a 1 lo s.cap,hi-lo,s.cap-lo⟩ (aC ((l.drop lo).take (hi-lo))):=by
 have:=Src.sub h hc h1 b;simpa[aC,qp,m3] using this
def eW(ps:O (U×O UInt8)):O UInt8:=(ps.map (·.2)).flatten
theorem CV(a:O (U×O UInt8))(p:U×O UInt8):eW (a++ [p])=eW a++p.2:=by simp[eW]
theorem HY(ps:O (U×O UInt8))(j:Nat):(eW (ps.take j)).length<=(eW ps).length:=by
 have h:ps=ps.take j++ps.drop j:=(iW j ps).symm;have:(eW ps).length=(eW (ps.take j)).length+(eW (ps.drop j)).length:=by
  conv=>lhs;rw[h]
  unfold eW;rw[eU,uE,b6]
 omega
theorem CW(ps:O (U×O UInt8)){j:Nat}(a:j<ps.length):(ps[j]).2.length<=(eW ps).length:=by
 have h:ps=ps.take j++ps[j]::ps.drop (j+1):=by rw[←j5 a,iW]
 have:(eW ps).length=(eW (ps.take j)).length+((ps[j]).2.length+(eW (ps.drop (j+1))).length):=by
  conv=>lhs;rw[h]
  unfold eW;rw[eU,uE,b6,iX,uG,b6]
 omega
theorem xw{s:U}(ps:O (U×O UInt8))(hs:Src 1 w s (ps.map λp=>iM p.1))(f:∀p∈ps,Src 1 w p.1 (aC p.2))(u:(eW ps).length<=100000)(x:ps.length<=100000):
 aI aj 103 #[s] w (λv w'=>∃a:U,v=a/\aL 1 5 w' a (aC (eW ps))/\Ext w w'/\fI w a):=by
 refine okF (ad.wA s) ay.wA func103 ?_;(delta ad.wA jd af aQ aO aJ aV ap ai;dsimp only);have y:s.len=ps.length:=by have:=hs.len;rw[cV]at this;omega
 refine⟨λa i w'=>∃j:Nat,i=j/\j<=ps.length/\aL 1 5 w' a (aC (eW (ps.take j)))/\Ext w w'/\fI w a,λ_ i _=>((ps.length:Int)-i).toNat,⟨0,rfl,cw _,aL.none 1 5 _,.refl _ _,λk c=>(gE k c).elim⟩,?_⟩;rintro a _ w1 ⟨j,rfl,z,b,hx,hf⟩;refine⟨λaB=>?_,λd=>?_⟩
 .have aB:j<ps.length:=U4 (bB aB)
  obtain⟨A,ak,g,l⟩:=(hs.ext hx).at (i:=j) (v:=iM (ps[j]).1) (by simp[aB]);have e:=(f _ (cg aB)).ext hx;have h1:=CW ps aB;have B:=HY ps j;have m:=len8 e;have o:=kC b;obtain⟨s2,ah,ao,q,C,r,t⟩:=tM.append (c7:=39) e b (jE _) (by rw[m,o];omega);rw[bl (n:=(j:Int)+1) I I];refine⟨A,ak,g,(ps[j]).1,l,s2,ah,ao,⟨j+1,I,I,?_,Ext.dH hx r hf,λk c=>?_⟩,?_⟩
  .rw[take_succ _ aB]
   rw[CV,l6];exact q
  .rcases t k c with h|h
   .exact hf k h
   .exact fg hx.size h
  .show((ps.length:Int)-((j:Int)+1)).toNat<((ps.length:Int)-(j:Int)).toNat
   omega
 .have d:j=ps.length:=U4 (bT d)
  subst d;rw[gD]at b;exact⟨a,rfl,b,hx,hf⟩
theorem HZ{s:U}(hs:Src 1 w s (aC l))(hc:s.len<=s.cap)(b:a+k<=l.length)(c:l.length<=1000000000000):
 aI aj 170 #[s,a,k] w (λv w'=>v=.tuple #[.slice (bj s.a 1 a s.cap) k (s.cap-a),true]/\w=w'):=by
 have d:=len8 hs;refine okF (ad.l2 s a k) ay.l2 func170 ?_;delta ad.l2 af ai;rw[bl (n:=(s.len:Int)-(a:Int)) I I,bl (n:=(a:Int)+(k:Int)) I I];refine⟨λh=>?_,λ_=>⟨⟨I,I⟩,⟨I,I⟩,?_,rfl⟩⟩
 .simp only[fC,cq]at h;omega
 .rw[show Int.toNat ((a:Int)+(k:Int))-Int.toNat (a:Int)=k from I];rfl
theorem H0{s:U}(hs:Src 1 w s (aC l))(b:l.length<a+k)(c:a<=l.length)(d:l.length<=1000000000000)(f:k<=1000000000000):
 aI aj 170 #[s,a,k] w (λv w'=>v=.tuple #[(),false]/\w=w'):=by
 have g:=len8 hs;refine okF (ad.l2 s a k) ay.l2 func170 ?_;delta ad.l2 af ai;rw[bl (n:=(s.len:Int)-(a:Int)) I I,bl (n:=(a:Int)+(k:Int)) I I];have e:(((decide ((a:Int)<0))||(decide ((k:Int)<0)))||(decide ((a:Int)>(s.len:Int)))||(decide ((k:Int)>((s.len:Int)-(a:Int)))))=true:=by
  simp only[fC,cq];omega
 exact⟨λ_=>⟨rfl,rfl⟩,λh=>(by rw[e]at h;cases h)⟩
theorem rp{s:U}(hs:Src 1 w s (aC l))(hc:s.len<=s.cap)(d:a+k<=l.length)(f:l.length<=100000):
 aI aj 194 #[s,a,k] w (λv w'=>∃b:U,v=.tuple #[b,true]/\aL 1 5 w' b (aC ((l.drop a).take k))/\Ext w w'/\fI w b):=by
 have g:=len8 hs;refine okF (ad.rp s a k) ay.rp func194 ?_;(delta ad.rp pt bU;dsimp only);refine(HZ hs hc d I).use ?_;rintro _ _ ⟨rfl,rfl⟩;have c:=lF hs hc (lo:=a) (hi:=a+k) I I;rw[show a+k-a=k from I]at c;refine⟨⟨bj s.a 1 a s.cap,k,s.cap-a⟩,true,rfl,(zv c (by simp;omega)).use ?_⟩;rintro _ w1 ⟨b,rfl,e,hx,hf⟩;exact⟨b,rfl,b,rfl,e,hx,hf⟩
theorem H2{s:U}(hs:Src 1 w s (aC l))(d:k<=8)(e:l.length<k):
 aI aj 106 #[s,.int .i64 (0:Nat),k] w (λv w'=>v=.tuple #[.int .u64 0,false]/\w=w'):=by
 refine okF (ad.l1 s (0:Nat) k) ay.l1 func106 ?_;(delta ad.l1 pt af bR aF gg aQ aO bA aV ai;dsimp only);refine(H0 hs (a:=0) I I I I).use ?_;rintro _ _ ⟨rfl,rfl⟩;refine⟨⟨none,0,0⟩,false,rfl,cx (λb w'=>b=true/\w=w') (λq c=>⟨λ_=>c _ _ ⟨rfl,rfl⟩,λh=>by simp at h⟩) ?_⟩;rintro _ _ ⟨rfl,rfl⟩;exact⟨λ_=>⟨rfl,rfl⟩,λh=>by simp at h⟩
theorem xx(b:a<4294967296):(BitVec.ofInt 32 (a:Int))=BitVec.ofNat 32 a:=by simp
theorem xy(c:a<4294967296)(d:b<4294967296):lk .u32 (a:Int) (b:Int)=((a^^^b:Nat):Int):=by
 unfold lk;show IntKind.u32.wrap (((BitVec.ofInt 32 (a:Int)^^^BitVec.ofInt 32 (b:Int)).toNat:Nat):Int)=_;rw[xx c,xx d,BitVec.toNat_xor,BitVec.toNat_ofNat,BitVec.toNat_ofNat,jx (by simpa using c),jx (by simpa using d)];have:a^^^b<4294967296:=o2 (n:=32) c d;rw[mB I I]
theorem H3(c:a<4294967296)(d:b<4294967296):kS .u32 (a:Int) (b:Int)=((a&&&b:Nat):Int):=by
 unfold kS;show IntKind.u32.wrap (((BitVec.ofInt 32 (a:Int)&&&BitVec.ofInt 32 (b:Int)).toNat:Nat):Int)=_;rw[xx c,xx d,BitVec.toNat_and,BitVec.toNat_ofNat,BitVec.toNat_ofNat,jx (by simpa using c),jx (by simpa using d)];have:a&&&b<=a:=Nat.and_le_left;rw[mB I I]
theorem H4{n:Nat}(b:n<4294967296):
 lk .u32 (Int.fdiv (n:Int) (2^(min (Int.toNat 1) 32))) (kS .u32 2197175160 (IntKind.wrap .u32 (0-(kS .u32 (n:Int) 1))))=((nw n:Nat):Int):=by
 have c:kS .u32 (n:Int) 1=((n%2:Nat):Int):=by
  have:=H3 b (show 1<4294967296 from I);rw[Nat.and_one_is_mod]at this;exact this
 have d:Int.fdiv (n:Int) (2^(min (Int.toNat 1) 32))=((n/2:Nat):Int):=by
  rw[yh _ (by decide)];rfl
 rw[c,d];unfold nw;rcases Nat.mod_two_eq_zero_or_one n with h|h
 .rw[h,if_neg I]
  have a:kS .u32 2197175160 (IntKind.wrap .u32 (0-((0:Nat):Int)))=((0:Nat):Int):=by decide+kernel
  rw[a,xy I I,Nat.xor_zero]
 .rw[h,if_pos rfl]
  have a:kS .u32 2197175160 (IntKind.wrap .u32 (0-((1:Nat):Int)))=((2197175160:Nat):Int):=by decide+kernel
  rw[a,xy I I]
theorem rq{s:U}{n:Nat}(hs:Src 1 w s (aC l))(e:n<4294967296)(h:l.length<=1000000):
 aI aj 221 #[.int .u32 n,s] w (λv w'=>v=.int .u32 (kX n l:Nat)/\w=w'):=by
 have o:=len8 hs;refine okF (ad.rq n s) ay.rq func221 ?_;(delta ad.rq gg af aQ aO bA aV ai;dsimp only);refine⟨λm i w'=>∃j:Nat,i=j/\j<=l.length/\m=((kX n (l.take j):Nat):Int)/\w=w',λ_ i _=>((l.length:Int)-i).toNat,⟨0,rfl,cw _,rfl,rfl⟩,?_⟩;rintro _ _ _ ⟨j,rfl,p,rfl,rfl⟩;refine⟨λaB=>?_,λa=>?_⟩
 .have aB:j<l.length:=U4 (bB aB)
  obtain⟨A,ak,f,g⟩:=hs.at (oD aB);have c:=tP (l.take j) e;have hc:=m4 (l[j]);have hx:=o2 (n:=32) c (show(l[j]).toNat<4294967296 from I);refine⟨A,ak,f,_,g,λm i w'=>∃k:Nat,i=k/\k<=8/\m=((oE k (kX n (l.take j)^^^(l[j]).toNat):Nat):Int)/\w=w',λ_ i _=>((8:Int)-i).toNat,⟨0,rfl,I,?_,rfl⟩,?_⟩
  .rw[mB I I,xy c I];rfl
  rintro _ _ _ ⟨k,rfl,q,rfl,rfl⟩;refine⟨λd=>?_,λb=>?_⟩
  .have d:k<8:=U4 (bB d)
   rw[H4 (xt hx k),bl (n:=(k:Int)+1) I I];refine⟨by decide,⟨k+1,I,I,rfl,rfl⟩,?_⟩;show((8:Int)-((k:Int)+1)).toNat<((8:Int)-(k:Int)).toNat;omega
  .have b:k=8:=U4 (bT b)
   subst b;rw[bl (n:=(j:Int)+1) I I];refine⟨⟨j+1,I,I,?_,rfl⟩,?_⟩
   .rw[take_succ _ aB,zB];rfl
   .show((l.length:Int)-((j:Int)+1)).toNat<((l.length:Int)-(j:Int)).toNat
    omega
 .have a:j=l.length:=U4 (bT a)
  subst a;rw[gD];exact⟨rfl,rfl⟩
theorem H5{n:Nat}(h:n<4294967296):4294967295^^^n=4294967295-n:=by
 apply Nat.eq_of_testBit_eq;intro i;have h1:(4294967295-n).testBit i=(decide (i<32)&& !n.testBit i):=by
  have:=Nat.testBit_two_pow_sub_succ (n:=32) (x:=n) (by simpa using h) i;rw[←this];congr 1;omega
 have a:(4294967295:Nat).testBit i=decide (i<32):=by
  have:=Nat.testBit_two_pow_sub_one 32 i;exact this
 rw[Nat.testBit_xor,h1,a];by_cases hi:i<32
 .simp[hi]
 .have:n.testBit i=false:=by
   apply Nat.testBit_lt_two_pow;exact ga h (sE (n:=2) I (show 32<=i from I))
  simp[hi,this]
theorem H6{s:U}(ps:O (U×O UInt8))(hs:Src 1 w s (ps.map λp=>iM p.1))(e:∀p∈ps,Src 1 w p.1 (aC p.2))(h:(eW ps).length<=100000)(k:ps.length<=100000):
 aI aj 174 #[s] w (λv w'=>v=.int .u32 (il (eW ps):Nat)/\w=w'):=by
 refine okF (ad.wS s) ay.wS func174 ?_;(delta ad.wS gg af aQ aO aJ aV kc ai;dsimp only);have l:s.len=ps.length:=by have:=hs.len;rw[cV]at this;omega
 refine⟨λm i w'=>∃j:Nat,i=j/\j<=ps.length/\m=((kX 4294967295 (eW (ps.take j)):Nat):Int)/\w=w',λ_ i _=>((ps.length:Int)-i).toNat,⟨0,rfl,cw _,rfl,rfl⟩,?_⟩;rintro _ _ _ ⟨j,rfl,o,rfl,rfl⟩;refine⟨λaB=>?_,λd=>?_⟩
 .have aB:j<ps.length:=U4 (bB aB)
  obtain⟨A,ak,f,g⟩:=hs.at (i:=j) (v:=iM (ps[j]).1) (by simp[aB]);have c:=tP (eW (ps.take j)) (n:=4294967295) (by decide);refine⟨A,ak,f,(ps[j]).1,g,(rq (e _ (cg aB)) c (U4 (CW ps aB))).use ?_⟩;rintro _ _ ⟨rfl,rfl⟩;rw[bl (n:=(j:Int)+1) I I];refine⟨_,rfl,⟨j+1,I,I,?_,rfl⟩,?_⟩
  .rw[take_succ _ aB,←zB,CV]
  .show((ps.length:Int)-((j:Int)+1)).toNat<((ps.length:Int)-(j:Int)).toNat
   omega
 .have d:j=ps.length:=U4 (bT d)
  subst d;rw[gD];have c:=tP (eW ps) (n:=4294967295) (by decide);refine⟨?_,rfl⟩;have:=xy (a:=4294967295) (b:=kX 4294967295 (eW ps)) (by decide) c;rw[H5 c]at this;exact congrArg _ this
theorem pC{s:U}(hs:Src 1 w s (aC l))(hc:s.len<=s.cap)(f:l.length=256):
 aI aj 116 #[s] w (λv w'=>v=.int .u32 (sumOf l:Nat)/\Ext w w'):=by
 have g:=len8 hs;refine okF (ad.pC s) ay.pC func116 ?_;(delta ad.pC au kc ae;dsimp only);have b:Ext w w.drew:=aa.drew (.refl _ _);refine⟨⟨by decide,I⟩,⟨by decide,I⟩,?_⟩;have h1:=lF (hs.ext b) hc (lo:=0) (hi:=20) I I;have e:=lF (hs.ext b) hc (lo:=24) (hi:=s.len) I I;have c:∀o,Ext w.drew (w.drew.alloc o):=λo=>aa.alloc (.refl _ _) o;refine(H6 [(⟨bj s.a 1 0 s.cap,20-0,s.cap-0⟩,(l.drop 0).take (20-0)),(⟨bj s.a 1 24 s.cap,s.len-24,s.cap-24⟩,(l.drop 24).take (s.len-24))] (s:=⟨some w.drew.heap.size,2,2⟩) (Src.new w.drew _ 2 rfl) ?_ ?_ ?_).use ?_
 .intro p d
  simp only[cN,er,ez]at d;obtain rfl|rfl:=d
  .exact h1.ext (c _)
  .exact e.ext (c _)
 .simp[eW];omega
 .simp
 rintro _ w1 ⟨rfl,rfl⟩;refine⟨_,rfl,?_,b.trans (c _)⟩;have:eW [((⟨bj s.a 1 0 s.cap,20-0,s.cap-0⟩:U),(l.drop 0).take (20-0)),(⟨bj s.a 1 24 s.cap,s.len-24,s.cap-24⟩,(l.drop 24).take (s.len-24))]=l.take 20++l.drop 24:=by
  simp only[eW,iX,o3,uG,List.flatten_nil,fO,mn];rw[eZ (l:=l.drop 24) (by rw[dW];omega)]
 rw[this];rfl
theorem aL.H7{s:U}{us:O Y}(h:aL 1 T w s vs)(d:s.a=some ⟨b,0,none⟩)(p:o+us.length<=s.len):
 aL 1 T (setCells w ⟨b,o,none⟩ 0 us) s (vs.take o++us++vs.drop (o+us.length)):=by
 obtain⟨h1,g,i,j⟩:=h;obtain⟨k,_⟩|⟨q,c,e,m,f,ht⟩:=j
 .rw[k]at d;cases d
 .rw[d]at e
  cases e;have r:c.toList.length=s.cap:=by simpa using f
  have n:o+us.length<=c.size:=I
  rw[eY]at h1 f;refine⟨by simp;omega,g,i,.inr ⟨b,_,d,bp.j9 m us,by rw[jb];omega,?_⟩⟩;rw[eY]at ht⊢;rw[lv _ _ _ n,←ht,o1,km I,cU,cU,List.take_append,List.take_append,cQ,km I,
   eZ (l:=c.toList.take o) (by rw[cQ];omega),eZ (l:=us) I,List.drop_take,show s.len-o-us.length=s.len-(o+us.length) from I]
theorem H8(w:J)(l:O UInt8):
 ∃w',Sem.run aj (convert 39 39 (.slice (some w) l.length l.length)) (w.alloc (.cells (aC l).toArray 5))=.ok (.slice (some w) l.length l.length) w'/\
  Src 1 w' ⟨some w.heap.size,l.length,l.length⟩ (aC l)/\Ext w w'/\w'.heap.size=w+1:=by
 refine⟨_,Go.Lib.run_convert_bytes_const (P:=aj) w 39 5 (aC l).toArray l.length l.length U3 U3,⟨by rw[dO,eY],(λh=>by cases h),λa b=>?_⟩,aa.alloc (.refl _ _) _,by simp⟩
 cases b;have:=zt (w:=w.alloc (.cells (aC l).toArray 5 ((aC l).toArray.size,(aC l).toArray.size+1))) (A:=w) (aC l) 0 (λj v c=>by
  rw[aw];show(World.cell? _ _)=_;have:(w.alloc (.cells (aC l).toArray 5 ((aC l).toArray.size,(aC l).toArray.size+1))).heap[w.heap.size]? =some (.cells (aC l).toArray 5 ((aC l).toArray.size,(aC l).toArray.size+1)):=by
   show(w.heap.push _)[w.heap.size]? =_;simp
  simp only[World.cell?,this];simpa using c)
 rw[dO]at this;rw[eY];exact this
theorem zC(n:Nat):ie aj 5 n=(aC (List.replicate n 0)).toArray:=by
 rw[B7 (v:=.int .u8 0) U3 U3];simp[aC]
theorem H9{A Z T C:O UInt8}{n:Nat}(ak:A.length=n)(a:Z.length=m):(aC (A++(Z++T))).take n++aC C++(aC (A++(Z++T))).drop (n+m)=aC (A++(C++T)):=by
 have b:(aC (A++(Z++T))).take n=aC A:=by rw[l6];exact nx (by rw[dO,ak])
 have c:(aC (A++(Z++T))).drop (n+m)=aC T:=by rw[←cU,l6];exact drop_left' (by rw[dO,b6,ak,a])
 rw[b,c,l6,l6,cU]
theorem cc(w:J):Ext w w.drew:=aa.drew (.refl _ _)
theorem dc(w:J)(o:Obj):Ext w (w.alloc o):=aa.alloc (.refl _ _) o
theorem iN(w:J)(o:Obj):(w.alloc o).heap.size=w+1:=by simp
theorem xz{s:U}{p:h4}{no:Nat}(hs:Src 1 w s (aC p.body))(a3:no<1600)(i:oF p):
 aI aj 56 #[no,.agg #[p.kind,.int .u64 p.gen,s]] w (λv w'=>∃E:U,v=.tuple #[E,U8]/\aL 1 5 w' E (aC (eA no p))/\Ext w w'/\fI w E):=by
 have a4:=i.bJ;have a5:=i.b4;have a6:=i.gen;have a8:=i.body;have O:=len8 hs;refine okF (ad.wg no p.kind p.gen s) ay.wg func56 ?_;(delta ad.wg aF bR af r1 ae av aJ bU bZ c0 b1 c2 dC ly y3 ai y4 kc;dsimp only);refine bg (vs:=[p.kind,.int .u64 p.gen,s]) rfl λw1 y F a9=>?_;have a7:∀ {w':J},Ext w1 w'->w'.cell? (Addr.add w 2)=some (.slice s.a s.len s.cap):=λhx=>by rw[aw];exact(y.ext hx).cell
 have aR:∀ {w':J},Ext w1 w'->w'.cell? (Addr.add w 1)=some (.int .u64 p.gen):=λhx=>by rw[aw];exact(y.ext hx).cell
 refine Calls.mono (ad.Cy no w1 (λv w'=>v=true/\w1=w') ⟨by simp;omega,rfl⟩) ?_;rintro _ _ ⟨_,rfl,rfl,rfl⟩;refine⟨_,rfl,cx (λb w'=>b=false/\w1=w') (λq j=>⟨λh1=>by simp at h1,λh1=>⟨p.kind,y.cell,?_⟩⟩) ?_⟩
 .refine Calls.mono (ad.Cz p.kind w1 (λv w'=>v=true/\w1=w') ⟨by simp;omega,rfl⟩) ?_
  rintro _ _ ⟨_,rfl,rfl,rfl⟩;exact⟨_,rfl,j _ _ ⟨rfl,rfl⟩⟩
 rintro b _ ⟨rfl,rfl⟩;refine⟨nofun,λ_=>⟨s,a7 (.refl _ _),λh=>(by have:=bB h;omega),λ_=>aH ?_⟩⟩
 obtain⟨ah,al,am,P,a_⟩:=H8 w1 gp;refine⟨⟨some w1.heap.size,4,4⟩,ah,al,p.kind,(y.ext P).cell,?_⟩;have an:IntKind.wrap .u8 (p.kind:Int)=(((UInt8.ofNat p.kind).toNat:Nat):Int):=by rw[mJ I,s7 I I]
 rw[an];have z:=Src.new (T:=5) (sz:=1) ah (aC [1,UInt8.ofNat p.kind]) 2 rfl;have G:=dc ah (.cells (aC [1,UInt8.ofNat p.kind]).toArray 5);obtain⟨f,ao⟩:=U6 (ah.alloc (.cells (aC [1,UInt8.ofNat p.kind]).toArray 5));show au (ah.alloc (.cells (aC [1,UInt8.ofNat p.kind]).toArray 5)) _;rw[←ao]at z G⊢;refine aH ?_;have H:=Src.new (T:=39) (sz:=1) f [.slice (some w1) 4 4,.slice (some ah) 2 2] 2 rfl;have A:=dc f (.cells #[.slice (some w1) 4 4,.slice (some ah) 2 2] 39);obtain⟨B,Q⟩:=U6 (f.alloc (.cells #[.slice (some w1) 4 4,.slice (some ah) 2 2] 39));have H:Src 1 B ⟨some f.heap.size,2,2⟩ [.slice (some w1) 4 4,.slice (some ah) 2 2]:=by rw[Q];exact H
 rw[←Q]at A⊢;have ap:Ext w1 B:=P.trans (G.trans A);refine aH ((xw (s:=⟨some f.heap.size,2,2⟩) [((⟨some w1.heap.size,4,4⟩:U),gp),(⟨some ah.heap.size,2,2⟩,[1,UInt8.ofNat p.kind])] H ?_ (by simp[eW,gp]) U9).use ?_)
 .intro q j
  simp only[cN,er,ez]at j;obtain rfl|rfl:=j
  .exact am.ext (G.trans A)
  .exact z.ext A
 rintro _ ba ⟨aq,rfl,R,ar,bb⟩;have S:=ap.trans ar;have ax:eW [((⟨some w1.heap.size,4,4⟩:U),gp),(⟨some ah.heap.size,2,2⟩,[1,UInt8.ofNat p.kind])]=gp++ [1,UInt8.ofNat p.kind]:=by simp[eW]
 rw[ax]at R;refine⟨aq,rfl,s,a7 S,?_⟩;rw[gl (n:=(s.len:Int)) I I,gl (n:=(no:Int)) I I];refine(je R.src (n:=s.len) (k:=2) (by simp[gp]) (by show _<18446744073709551616;omega) ⟨by decide,by decide⟩).use ?_;rintro _ bc ⟨az,rfl,aA,aB,bd⟩;have aD:=S.trans aB;refine⟨az,rfl,(je aA.src (n:=no) (k:=4) (by simp[gp,eB]) (by show _<18446744073709551616;omega) ⟨by decide,by decide⟩).use ?_⟩;rintro _ be ⟨aE,rfl,aG,aK,bf⟩;have V:=aD.trans aK;refine⟨aE,rfl,_,aR V,(je aG.src (n:=p.gen) (k:=8) (by simp[gp,eB]) (by show _<18446744073709551616;omega) ⟨by decide,by decide⟩).use ?_⟩;rintro _ d ⟨u,rfl,W,aM,bh⟩;have C:=V.trans aM;have aN:gp++ [1,UInt8.ofNat p.kind]++bV s.len 2++bV no 4++bV p.gen 8=fb no p:=by rw[O];simp[fb]
 rw[aN]at W;refine⟨u,rfl,cx (λt w'=>aL 1 5 w' t (aC (fb no p++(List.replicate 4 0++fk p)))/\Ext w1 w'/\fI w t) (λq j=>?_) ?_⟩
 .have m:=cc d
  have X:=C.trans m;have aO:IntKind.wrap .i64 (232-(s.len:Int))=((232-s.len:Nat):Int):=by rw[bl I I];omega
  refine aH ⟨λ_=>False,id,s,a7 X,id,s,a7 X,?_⟩;rw[aO];simp only[cS,show Int.toNat 4=4 from rfl];rw[zC,zC];have fin:∀ (K eS:J) (eo gh:U),Ext d eS->Src 1 eS eo (aC (List.replicate 4 0))->Src 1 eS gh (aC (List.replicate (232-s.len) 0))->
   Calls aj 103 #[.slice (some eS) 4 4] (eS.alloc (.cells #[u,eo,s,gh] 39)) λaP aQ=>∃Y:U,aP=.returned Y/\q Y aQ:=by
   intro K eS eo gh D h1 L;have r:=dc eS (.cells #[u,eo,s,gh] 39);refine(xw (s:=⟨some eS.heap.size,4,4⟩) [(u,fb no p),(eo,List.replicate 4 0),(s,p.body),(gh,List.replicate (232-s.len) 0)] (Src.new eS _ 4 rfl) ?_ (by simp[eW,oG];omega) U9).use ?_
   .intro x hx
    simp only[cN,er,ez]at hx;obtain rfl|rfl|rfl|rfl:=hx
    .exact W.src.ext (D.trans r)
    .exact h1.ext r
    .exact hs.ext ((F.trans (C.trans D)).trans r)
    .exact L.ext r
   .rintro _ Z ⟨aS,rfl,aT,hx,hf⟩
    refine⟨aS,rfl,j _ _ ⟨?_,(C.trans D).trans (r.trans hx),hf.mono (F.trans ((C.trans D).trans r)).size⟩⟩;have e:eW [(u,fb no p),(eo,List.replicate 4 0),(s,p.body),(gh,List.replicate (232-s.len) 0)]=fb no p++(List.replicate 4 0++fk p):=by simp[eW,fk,O]
    rwa[e]at aT
  refine⟨⟨⟨by decide,by decide,by decide,by decide⟩,aH ⟨dc _ _,⟨I,Int.le_refl _,I,I⟩,aH ⟨dc _ _,aH ?_⟩⟩⟩,⟨⟨I,Int.le_refl _,I,I⟩,aH ⟨dc _ _,⟨by decide,by decide,by decide,by decide⟩,aH ⟨dc _ _,aH ?_⟩⟩⟩⟩
  .refine fin d _ ⟨some d.drew.heap.size,4,4⟩ ⟨some ⟨(d.drew.alloc _).heap.size,0,none⟩,232-s.len,232-s.len⟩ (m.trans ((dc _ _).trans (dc _ _))) (Src.ext (Src.new _ _ _ (by simp[aC])) (dc _ _)) (Src.new _ _ _ (by simp[aC]))
  .refine fin d _ ⟨some ⟨(d.drew.alloc _).heap.size,0,none⟩,4,4⟩ ⟨some d.drew.heap.size,232-s.len,232-s.len⟩ (m.trans ((dc _ _).trans (dc _ _))) (Src.new _ _ _ (by simp[aC])) (Src.ext (Src.new _ _ _ (by simp[aC])) (dc _ _))
 rintro t K ⟨g,aU,ab⟩;have bi:t.len=256:=by
  have:=kC g;rw[this];simp[oG,xv i]
 have m:=cc K;refine aH ⟨λ_=>False,⟨by decide,I⟩,(pC (g.src.ext m) g.2.1 (by simp[oG,xv i])).use ?_⟩;rintro _ Z ⟨rfl,aV⟩;have es:sumOf (fb no p++(List.replicate 4 0++fk p))=il (fb no p++fk p):=by
  unfold sumOf;rw[nx (oG no p),←cU,drop_left' (by simp[oG])]
 rw[es];have bk:=xu (fb no p++fk p);refine⟨_,rfl,λ_=>False,?_⟩;rw[gl I I];refine(je (s:=⟨none,0,0⟩) (l:=[]) (n:=il (fb no p++fk p)) (k:=4) (aL.none 1 5 Z).src U9 (by show _<18446744073709551616;omega) ⟨by decide,by decide⟩).use ?_;rintro _ aW ⟨aX,rfl,M,aY,bm⟩;rw[lh]at M;have ac:=m.trans (aV.trans aY);have ag:=g.ext ac;have ak:=kC M;rw[eB]at ak;obtain⟨b,c,N,aZ,bn,_⟩:∃b c,t.a=some ⟨b,0,none⟩/\bp aW b c 5/\c.size=t.cap*1/\c.toList.take (t.len*1)=aC (fb no p++(List.replicate 4 0++fk p)):=by
  obtain⟨_,hc⟩|⟨b,c,h1,L,a0,a1⟩:=ag.2.2.2
  .have:=g.2.1;omega
  .exact⟨b,c,h1,L,a0,a1⟩
 have a2:bj t.a 1 (Int.toNat 20) t.cap=some ⟨b,20,none⟩:=by
  rw[N,show Int.toNat 20=20 from rfl,po (by have:=g.2.1;omega)]
 have bo:=g.2.1;refine⟨aX,rfl,_,_,by rw[a2];exact HO U3 M.src (by rw[ak];show 4<=t.len-20;omega) (aZ.cF _ _ (by rw[dO,eB];omega) (jE _)),t,rfl,?_,?_,ab⟩
 .have:=aL.H7 ag N (o:=20) (us:=aC (bV (il (fb no p++fk p)) 4)) (by rw[dO,eB];omega)
  have e:(aC (fb no p++(List.replicate 4 0++fk p))).take 20++aC (bV (il (fb no p++fk p)) 4)++(aC (fb no p++(List.replicate 4 0++fk p))).drop (20+(aC (bV (il (fb no p++fk p)) 4)).length)=aC (eA no p):=by
   rw[dO,eB];exact H9 (oG no p) U9
  rwa[e]at this
 .refine Ext.dH (F.trans (aU.trans ac)) (aa.kT (.refl _ _) _ 0) λk z=>?_
  subst z;exact ab _ ⟨_,N,rfl⟩
theorem np{s:U}(hs:Src 1 w s (aC l))(hc:s.len<=s.cap){e:Int}(he:e=((a+k:Nat):Int))(b:1<=k/\k<=8)(c:a+k<=l.length)(d:l.length<=1000):
 aI aj 192 #[s,a,e] w (λv w'=>v=.int .u64 (ct l a k:Nat)/\w=w'):=by
 subst he;refine okF (ad.np s a ((a+k:Nat):Int)) ay.np func192 ?_;(delta ad.np qX ai aF;dsimp only);rw[bl I I,show(((a+k:Nat):Int)-(a:Int))=(k:Int) from I];refine(l1 hs hc b c I).use ?_;rintro _ _ ⟨rfl,rfl⟩;exact⟨_,_,rfl,rfl,rfl⟩
theorem rn{s:U}(hs:Src 1 w s (aC l))(o:l.length<=1000):
 aI aj 193 #[s] w (λv w'=>v=.bool (l.all λc=>c==0)/\w=w'):=by
 have p:=len8 hs;refine okF (ad.rn s) ay.rn func193 ?_;(delta ad.rn vJ cW af aQ aO bA aV ai;dsimp only);refine⟨λi w'=>∃j:Nat,i=j/\j<=l.length/\w=w'/\∀ (k:Nat) (a:k<l.length),k<j->l[k]=0,λi _=>((l.length:Int)-i).toNat,⟨0,rfl,cw _,rfl,λk a h=>I⟩,?_⟩;rintro _ _ ⟨j,rfl,q,rfl,d⟩;refine⟨λaB=>?_,λb=>?_⟩
 .have aB:j<l.length:=U4 (bB aB)
  obtain⟨A,ak,f,g⟩:=hs.at (oD aB);refine⟨A,ak,f,_,g,λe=>?_,λm=>?_⟩
  .refine⟨?_,rfl⟩
   have:(l.all λc=>c==0)=false:=by
    rw[List.all_eq_false];refine⟨l[j],cg _,λh=>?_⟩;have h:=eq_of_beq h;rw[h]at e;simp at e
   rw[this]
  .have h0:l[j]=0:=by
    have:((l[j]).toNat:Int)=0:=by simpa using m
    exact qm.1 (by show(l[j]).toNat=0;omega)
   rw[bl (n:=(j:Int)+1) I I];refine⟨⟨j+1,I,I,rfl,λk a h=>?_⟩,?_⟩
   .rcases dA k j with h1|h1
    .exact d k a h1
    .have:k=j:=I
     subst this;exact h0
   .show((l.length:Int)-((j:Int)+1)).toNat<((l.length:Int)-(j:Int)).toNat
    omega
 .have b:j=l.length:=U4 (bT b)
  subst b;refine⟨?_,rfl⟩;have:(l.all λc=>c==0)=true:=by
   rw[kM];intro c hc;obtain⟨k,a,rfl⟩:=eO hc;rw[d k a a];rfl
  rw[this]
def zD(kind gen:Int)(s:U):Y:=.agg #[kind,.int .u64 gen,s]
def ny(r:Except Int h4)(w w':J)(v:Y):Prop:=
 match r with
 | .ok p=>∃s:U,v=.tuple #[zD p.kind p.gen s,U8]/\aL 1 5 w' s (aC p.body)/\fI w s
 | .error e=>v=.tuple #[zD 0 0 ⟨none,0,0⟩,e]
theorem CX{h:Nat}(n g:Int)(s:U)(b:Var w' h vs 137)(e:vs.length=3){K:Int->Int->U->U2}(j:∀ah,aa (λq=>q=h) w' ah->K n g s ah):
 c5 w' h [n,.int .u64 g,s]/\(3:Nat)=3/\au (setCells w' h 0 [n,.int .u64 g,s]) λah=>
  ∃f:Int,ah.cell? h=some (.int .i64 f)/\∃i:Int,ah.cell? (Addr.add h 1)=some (.int .u64 i)/\∃c:U,ah.cell? (Addr.add h 2)=some (.slice c.a c.len c.cap)/\K f i c ah:=by
 refine⟨b.cF (by rw[e];rfl) ?_,rfl,c6 b (us:=[n,.int .u64 g,s]) (by rw[e];rfl) rfl λah d hc _=>?_⟩
 .intro v b
  simp only[cN,er,ez]at b;rcases b with rfl|rfl|rfl<;>trivial
 .exact⟨n,d.cell,g,by rw[aw];exact d.cell,s,by rw[aw];exact d.cell,j ah hc⟩
theorem mG{s:U}(hs:Src 1 w s (aC l))(hc:s.len<=s.cap)(x:l.length<=1000)(no:Int):
 aI aj 137 #[no,s] w (λv w'=>ny (cG no l) w w' v/\Ext w w'):=by
 have ax:=len8 hs;refine okF (ad.mG no s) ay.mG func137 ?_;(delta ad.mG z4 af bf ae aF r1 bZ c0 av aJ pw aQ aO bA aV kc ed bR ai pt b1 ky th;dsimp only);refine bg (vs:=[U8,.int .u64 0,()]) rfl λw1 B y _=>?_
 have out:∀ (w':J) (e:Int),Ext w1 w'->cG no l=.error e->
  c5 w' w [U8,.int .u64 0,()]/\(3:Nat)=3/\au (setCells w' w 0 [U8,.int .u64 0,()]) λah=>
  ∃g:Int,ah.cell? w.heap.size=some (.int .i64 g)/\∃j:Int,ah.cell? (Addr.add w 1)=some (.int .u64 j)/\∃d:U,ah.cell? (Addr.add w 2)=some (.slice d.a d.len d.cap)/\
   (λv w'=>ny (cG no l) w w' v/\Ext w w') (.tuple #[.agg #[g,.int .u64 j,d],e]) ah:=by
  intro w' e hx he;refine CX 0 0 ⟨none,0,0⟩ (B.ext hx) rfl (K:=λg j d ah=>(λv w'=>ny (cG no l) w w' v/\Ext w w') (.tuple #[.agg #[g,.int .u64 j,d],e]) ah) λah z=>⟨?_,Ext.bQ (y.trans hx) z (a_ _)⟩;rw[he];rfl
 refine⟨λh=>out _ _ (.refl _ _) ?_,λh=>?_⟩
 .have h:(s.len:Int)≠256:=by simpa using h
  unfold cG;rw[if_pos I]
 have h:(s.len:Int)=256:=by simpa using h
 have P:l.length=256:=I
 have p:=hs.ext y;have Q:=lF p hc (lo:=0) (hi:=4) I I;have R:Src 1 w1 ⟨bj s.a 1 0 s.cap,4-0,s.cap-0⟩ (((l.take 4).map λb=>(b.toNat:Int)).map (.int .u8)):=by
  rw[g2];exact Q
 have F:=CN (src:=39) (dst:=9) U3 U3 R;have T:(((l.take 4).map λb=>(b.toNat:Int)).map λn=>UInt8.ofNat n.toNat)=l.take 4:=by
  rw[g2];have:((λn:Int=>UInt8.ofNat n.toNat)∘ λb:UInt8=>(b.toNat:Int))=id:=by funext b;simp
  rw[this,List.map_id]
 rw[T]at F;refine⟨⟨by decide,I⟩,S (l.take 4),w1,F,?_⟩;have V:(ByteArray.toList (S (l.take 4))==ByteArray.toList (ByteArray.mk #[83,84,78,67]))=decide (l.take 4=gp):=by
  rw[show(ByteArray.mk #[83,84,78,67])=S gp from rfl,Cc];rw[ek];simp
 rw[V];refine⟨λh=>out _ _ (.refl _ _) ?_,λh=>?_⟩
 .have h:l.take 4≠gp:=by simpa using h
  unfold cG;rw[if_neg I,if_pos h]
 have r:l.take 4=gp:=by simpa using h
 obtain⟨W,X,az,Y⟩:=p.at (oD (l:=l) (i:=4) I);have aA:s.len=256:=I
 refine⟨W,X,⟨by decide,I⟩,_,Y,λh=>out _ _ (.refl _ _) ?_,λh=>?_⟩
 .have h:(((l[4]'I).toNat:Nat):Int)≠1:=by simpa using h
  unfold cG;rw[if_neg I,if_neg (by simp[r]),if_pos (by
   intro e;apply h;rw[fi,dB I]at e;have e:(l[4]'I)=1:=e;rw[e];rfl)]
 have A:l.getD 4 0=1:=by
  have h:(((l[4]'I).toNat:Nat):Int)=1:=by simpa using h
  rw[fi,dB I];exact qm.1 (by show(l[4]'I).toNat=1;omega)
 refine(pC p hc P).use ?_;rintro _ ah ⟨rfl,f⟩;have m:=p.ext f;refine⟨_,rfl,(np m hc (a:=20) (k:=4) (e:=24) rfl (by decide) I x).use ?_⟩;rintro _ _ ⟨rfl,rfl⟩;have aB:sumOf l<4294967296:=xu _;rw[gl (n:=((sumOf l:Nat):Int)) I I];refine⟨_,rfl,λh=>out _ _ f ?_,λh=>?_⟩
 .have h:((sumOf l:Nat):Int)≠((ct l 20 4:Nat):Int):=by simpa using h
  unfold cG;rw[if_neg I,if_neg (by simp[r]),if_neg (λh=>h A),if_pos I]
 have aD:sumOf l=ct l 20 4:=by
  have h:((sumOf l:Nat):Int)=((ct l 20 4:Nat):Int):=by simpa using h
  omega
 refine(np m hc (a:=6) (k:=2) (e:=8) rfl (by decide) I x).use ?_;rintro _ _ ⟨rfl,rfl⟩;have aE:ct l 6 2<65536:=nu 2 _ (by simp;omega);obtain⟨Z,aa,aG,ac⟩:=m.at (oD (l:=l) (i:=5) I);have C:l.getD 5 0=l[5]'I:=by rw[fi,dB I];rfl
 have aK:=m4 (l[5]'I);refine⟨_,rfl,Z,aa,⟨by decide,I⟩,_,ac,?_⟩;rw[bl (n:=(((l[5]'I).toNat:Nat):Int)) I I,bl (n:=((ct l 6 2:Nat):Int)) I I];refine Calls.mono (ad.Cz (((l[5]'I).toNat:Nat):Int) ah (λv w'=>v=.bool (decide (1<=(l[5]'I).toNat/\(l[5]'I).toNat<=4))/\ah=w') ⟨?_,rfl⟩) ?_
 .have e:(decide ((((l[5]'I).toNat:Nat):Int)>=1)&&decide ((((l[5]'I).toNat:Nat):Int)<=4))=decide (1<=(l[5]'I).toNat/\(l[5]'I).toNat<=4):=by
   rw[ek];simp only[dM,cq];omega
  rw[e]
 rintro _ _ ⟨_,rfl,rfl,rfl⟩;have aL:24+ct l 6 2<=256->True:=λ_=>trivial;refine⟨_,rfl,cx (λb w'=>b=decide (¬(1<=(l[5]'I).toNat/\(l[5]'I).toNat<=4)\/232<ct l 6 2\/(l.drop (24+ct l 6 2)).all (λc=>c==0)=false)/\ah=w') (λq t=>⟨λh1=>t _ _ ⟨?_,rfl⟩,λh1=>?_⟩) ?_⟩
 .refine(dm ?_).symm
  simp only[fC,ju,fh,cq]at h1;obtain h1|h1:=h1
  .exact .inl h1
  .exact .inr (.inl I)
 .simp only[hV,mv,fh,cq]at h1
  have ag:ct l 6 2<=232:=I
  rw[bl (n:=24+((ct l 6 2:Nat):Int)) I I];refine⟨⟨I,I⟩,?_⟩;have ak:Int.toNat (24+((ct l 6 2:Nat):Int))=24+ct l 6 2:=I
  rw[ak];have G:=lF m hc (lo:=24+ct l 6 2) (hi:=s.len) I I;rw[eZ (l:=l.drop (24+ct l 6 2)) (by rw[dW];omega)]at G;refine(rn G (by rw[dW];omega)).use ?_;rintro _ _ ⟨rfl,rfl⟩;refine⟨_,rfl,t _ _ ⟨?_,rfl⟩⟩
  cases aM:(l.drop (24+ct l 6 2)).all (λc=>c==0) with
  |true=>exact(ib (by rintro(o|o|o)<;>first|exact o h1.1|omega|cases o)).symm
  |false=>exact(dm (.inr (.inr rfl))).symm
 rintro b _ ⟨rfl,rfl⟩;refine⟨λh=>out _ _ f ?_,λh=>?_⟩
 .have h:=bB h
  unfold cG;rw[if_neg I,if_neg (by simp[r]),if_neg (λh=>h A),if_neg I,if_pos (by rw[C];exact h)]
 have u:=bT h;have H:¬(¬(1<=(l.getD 5 0).toNat/\(l.getD 5 0).toNat<=4)\/232<ct l 6 2\/(l.drop (24+ct l 6 2)).all (λc=>c==0)=false):=by rw[C];exact u
 have ag:ct l 6 2<=232:=by
  rcases dA 232 (ct l 6 2) with h1|h1
  .exact absurd (.inr (.inl h1)) u
  .exact h1
 have aN:1<=(l[5]'I).toNat/\(l[5]'I).toNat<=4:=nQ λh=>u (.inl h);refine Calls.mono (ad.Cy no ah (λv w'=>v=.bool (decide (0<=no/\no<1600))/\ah=w') ⟨by simp[ge_iff_le],rfl⟩) ?_;rintro _ _ ⟨_,rfl,rfl,rfl⟩;have aP:ct l 8 4<4294967296:=nu 4 _ (by simp;omega);refine⟨_,rfl,cx (λb w'=>b=decide (¬(0<=no/\no<1600)\/(ct l 8 4:Int)≠no)/\ah=w') (λq t=>⟨λh1=>t _ _ ⟨?_,rfl⟩,λh1=>?_⟩) ?_⟩
 .refine(dm ?_).symm
  simp only[ju,fh]at h1;exact .inl h1
 .simp only[mv,cq]at h1
  refine(np m hc (a:=8) (k:=4) (e:=12) rfl (by decide) I x).use ?_;rintro _ _ ⟨rfl,rfl⟩;refine⟨_,rfl,t _ _ ⟨?_,rfl⟩⟩;rw[gl (n:=no) I I,ek,cq,bne_iff_ne];exact⟨λh=>.inr h,λh=>h.resolve_left (λo=>o h1)⟩
 rintro b _ ⟨rfl,rfl⟩;refine⟨λh=>out _ _ f ?_,λh=>?_⟩
 .have h:=bB h
  unfold cG;rw[if_neg I,if_neg (by simp[r]),if_neg (λh=>h A),if_neg I,if_neg H,if_pos h]
 have al:=bT h;have am:cG no l=.ok ⟨(l.getD 5 0).toNat,ct l 12 8,(l.drop 24).take (ct l 6 2)⟩:=by
  unfold cG;rw[if_neg I,if_neg (by simp[r]),if_neg (λh=>h A),if_neg I,if_neg H,if_neg al]
 refine(rp m hc (a:=24) (k:=ct l 6 2) I I).use ?_;rintro _ an ⟨D,rfl,ao,ap,L⟩;have M:=cc an;have E:=f.trans (ap.trans M);have N:=p.ext E;obtain⟨aq,ar,aR,aw⟩:=N.at (oD (l:=l) (i:=5) I);refine⟨D,true,rfl,aH ⟨λ_=>False,aq,ar,⟨by decide,I⟩,id,_,aw,(np N hc (a:=12) (k:=8) (e:=20) rfl (by decide) I x).use ?_⟩⟩;rintro _ _ ⟨rfl,rfl⟩;rw[bl (n:=(((l[5]'I).toNat:Nat):Int)) I I];refine⟨_,rfl,.refl _ _,CX _ _ D (B.ext E) rfl (K:=λg j d ah=>(λv w'=>ny (cG no l) w w' v/\Ext w w') (.tuple #[.agg #[g,.int .u64 j,d],U8]) ah) λaS z=>⟨?_,Ext.bQ (y.trans E) z (a_ _)⟩⟩;rw[am];refine⟨D,by rw[C];rfl,(ao.ext M).ab z λk u e=>?_,L.mono (y.trans f).size⟩;have:=L k u;have:=B.lt;have:=f.size;subst e;omega
theorem CY{P:Program}:∀ (l:O UInt8) (a:ax) (acc:ByteArray),(∀j x,l[j]? =some x->w.cell? (a.add j)=some (.int .u8 (x.toNat:Int)))->
 (Extern.Bytes.loadBytes a l.length acc).run P w=.ok ⟨acc.data++l.toArray⟩ w
 | [],a,acc,_=>by simp[Extern.Bytes.loadBytes]
 |x::l,a,acc,h=>by
  have h0:=h 0 x rfl
  rw[add_zero']at h0
  have b:=CY (P:=P) l (a.add 1) (acc.push x) (λj y c=>by
   rw[add_add,Nat.add_comm]
   exact h (j+1) y (by simpa using c))
  have hx:(x.toNat:Int).toNat.toUInt8=x:=HN x
  simp only[eE,Extern.Bytes.loadBytes,Sem.run_bind,yl h0,Result.andThen,hx]
  rw[b]
  congr 2
  simp[ByteArray.push]
theorem CZ{P:Program}{s:U}(h:Src 1 w s (aC l)):(Extern.Bytes.bytesOf s).run P w=.ok (S l) w:=by
 cases hs:s.a with
 |none=>
  have h0:l=[]:=by
   have:=h.nil hs
   cases l with
   |nil=>rfl
   |cons a l=>simp[aC]at this
  subst h0;rfl
 |some A=>
  have b:=h.rd A hs;rw[eY]at b;have:=CY (P:=P) (w:=w) l A .empty (λj x c=>by
   have:=qQ b (j:=j) (v:=.int .u8 (x.toNat:Int)) (by simp[aC,c]);simpa using this)
  show(Extern.Bytes.loadBytes A s.len .empty).run P w=_;rw[len8 h,this]
  congr 1
  show(ByteArray.mk (ByteArray.empty.data++l.toArray))=ByteArray.mk l.toArray
  congr 1
  exact Array.empty_append ..
theorem C0:∀a b:Key,Lib.compareBytes a b=e0 a b
 | [],[]=>rfl
 | [],_::_=>rfl
 |_::_,[]=>rfl
 |a::x,b::y=>by
  simp only[Lib.compareBytes,e0,UInt8.lt_iff_toNat_lt,C0 x y]
theorem mF{s t:U}{l m:Key}(hs:Src 1 w s (aC l))(ht:Src 1 w t (aC m)):
 aI aj 219 #[s,t] w (λv w'=>v=.int .i64 (e0 l m)/\w=w'):=by
 refine okF (ad.mF s t) ay.mF func219 ?_;unfold ad.mF;refine⟨e0 l m,w,?_,rfl,rfl⟩;rw[run_callFunc_extern func259 rfl rfl rfl rfl];have:(Extern.BytealgCompare.compare #[s,t]).run aj w=.ok (.int .i64 (e0 l m)) w:=by
  change Sem.run aj (do pure (goInt (Extern.BytealgCompare.cmp (←Extern.Bytes.bytesOf s) (←Extern.Bytes.bytesOf t)))) w=_
  simp only[Sem.run_bind,CZ hs,CZ ht,Result.andThen,Sem.run_pure];rw[Lib.cmp_eq];show Result.ok (goInt (Lib.compareBytes l m)) w=_;rw[C0];rfl
 rw[this];rfl
theorem xA{s:U}(h:Src 1 w s (aC l)):Sem.run aj (convert 39 9 s) w=.ok (.string (S l)) w:=by
 have a:Src 1 w s ((l.map λb=>(b.toNat:Int)).map (.int .u8)):=by rw[g2];exact h
 have:=CN (src:=39) (dst:=9) U3 U3 a;rw[g2]at this;have e:((λn:Int=>UInt8.ofNat n.toNat)∘ λb:UInt8=>(b.toNat:Int))=id:=by funext b;simp
 rw[e,List.map_id]at this;exact this
theorem q3{s t:U}{l m:Key}(hs:Src 1 w s (aC l))(ht:Src 1 w t (aC m)):
 aI aj 108 #[s,t] w (λv w'=>v=.bool (decide (l=m))/\w=w'):=by
 refine okF (ad.q3 s t) ay.q3 func108 ?_;unfold ad.q3;refine⟨_,_,xA hs,_,_,xA ht,?_,rfl⟩;rw[Cc]
 congr 1
 rw[ek];simp
def In(B:U1)(w:J)(s:U):Prop:=∀k,ar s k->B k/\k<w
def bI(B:U1)(w:J)(t:U)(l:Key):Prop:=Src 1 w t (aC l)/\t.len<=t.cap/\In B w t
def bo(B:U1)(w:J)(s:U)(ls:O Key):Prop:=
 ∃ts:O U,ts.length=ls.length/\Src 1 w s (ts.map iM)/\s.len<=s.cap/\In B w s/\∀ (i:Nat) (h1:i<ts.length) (a:i<ls.length),bI B w ts[i] ls[i]
def dv(ds:O Nat):O Y:=ds.map λd=>.int .i64 ((d:Nat):Int)
def cK(B:U1)(w:J)(s:U)(ds:O Nat):Prop:=Src 1 w s (dv ds)/\s.len<=s.cap/\In B w s
def bq(B:U1)(w:J)(s:U)(ls:O Key):Prop:=
 ∃ts:O U,ts.length=ls.length/\aL 1 39 w s (ts.map iM)/\In B w s/\∀ (i:Nat) (h1:i<ts.length) (a:i<ls.length),bI B w ts[i] ls[i]/\∀k,ar ts[i] k->¬ar s k
def cM(B:U1)(w:J)(s:U)(ds:O Nat):Prop:=aL 1 3 w s (dv ds)/\In B w s
section
variable {B C:U1}{w w':J}{s t:U}{l:Key}{ls:O Key}{ds:O Nat}
theorem In.ab(h:In B w s)(hc:aa V w w'):In B w' s:=λk a=>⟨(h k a).1,ga (h k a).2 hc.size⟩
theorem In.bh(h:In B w s)(b:∀k,k<w.heap.size->B k->C k):In C w s:=λk a=>⟨b k (h k a).2 (h k a).1,(h k a).2⟩
theorem bI.ab(h:bI B w t l)(hc:aa V w w')(a:∀k,B k->¬V k):bI B w' t l:=⟨h.1.ab hc λk b=>a k (h.2.2 k b).1,h.2.1,In.ab h.2.2 hc⟩
theorem bI.l7(h:bI B w t l)(hc:aa V w w')(a:∀k,ar t k->¬V k):bI B w' t l:=⟨h.1.ab hc a,h.2.1,In.ab h.2.2 hc⟩
theorem bI.ext(h:bI B w t l)(hc:Ext w w'):bI B w' t l:=bI.ab h hc λ_ _ h=>h
theorem bI.bh(h:bI B w t l)(a:∀k,k<w.heap.size->B k->C k):bI C w t l:=⟨h.1,h.2.1,In.bh h.2.2 a⟩
theorem bo.ab(h:bo B w s ls)(hc:aa V w w')(a:∀k,B k->¬V k):bo B w' s ls:=by
 obtain⟨ts,h1,c,d,b,e⟩:=h;exact⟨ts,h1,c.ab hc λk f=>a k (b k f).1,d,In.ab b hc,λi g j=>bI.ab (e i g j) hc a⟩
theorem bo.ext(h:bo B w s ls)(hc:Ext w w'):bo B w' s ls:=bo.ab h hc λ_ _ h=>h
theorem bo.bh(h:bo B w s ls)(a:∀k,k<w.heap.size->B k->C k):bo C w s ls:=by
 obtain⟨ts,h1,b,c,d,e⟩:=h;exact⟨ts,h1,b,c,In.bh d a,λi f g=>bI.bh (e i f g) a⟩
theorem cK.ab(h:cK B w s ds)(hc:aa V w w')(a:∀k,B k->¬V k):cK B w' s ds:=⟨h.1.ab hc λk b=>a k (h.2.2 k b).1,h.2.1,In.ab h.2.2 hc⟩
theorem cK.ext(h:cK B w s ds)(hc:Ext w w'):cK B w' s ds:=cK.ab h hc λ_ _ h=>h
theorem cK.bh(h:cK B w s ds)(a:∀k,k<w.heap.size->B k->C k):cK C w s ds:=⟨h.1,h.2.1,In.bh h.2.2 a⟩
theorem bo.len(h:bo B w s ls):s.len=ls.length:=by
 obtain⟨ts,h1,a,_⟩:=h;have:=a.len;rw[cV]at this;omega
theorem mK(ds:O Nat):(dv ds).length=ds.length:=by simp[dv]
theorem cK.len(h:cK B w s ds):s.len=ds.length:=by
 have:=h.1.len;rw[mK]at this;omega
theorem bo.at(h:bo B w s ls)(hi:i<ls.length):∃ (A:ax) (t:U),s.a=some A/\((0:Int)<=(i:Int)/\(i:Int)<(s.len:Int))/\w.cell? (A.add (Int.toNat (i:Int)*1))=some (.slice t.a t.len t.cap)/\bI B w t ls[i]/\B A.block:=by
 obtain⟨ts,h1,b,f,c,d⟩:=h;obtain⟨A,ak,e,hc⟩:=b.at (i:=i) (v:=iM (ts[i]'I)) (by simp[h1,hi]);exact⟨A,ts[i]'I,ak,e,hc,d i I hi,(c _ ⟨A,ak,rfl⟩).1⟩
theorem cK.at(h:cK B w s ds)(hi:i<ds.length):∃A:ax,s.a=some A/\((0:Int)<=(i:Int)/\(i:Int)<((s.len:Nat):Int))/\w.cell? (A.add (Int.toNat (i:Int)*1))=some (.int .i64 ((ds[i]:Nat):Int)):=by
 obtain⟨A,ak,b,hc⟩:=h.1.at (i:=i) (v:=.int .i64 ((ds[i]:Nat):Int)) (by simp[dv,hi]);exact⟨A,ak,b,hc⟩
theorem bq.im(h:bq B w s ls):bo B w s ls:=by
 obtain⟨ts,h1,a,b,c⟩:=h;exact⟨ts,h1,a.src,a.2.1,b,λi d e=>(c i d e).1⟩
theorem cM.pV(h:cM B w s ds):cK B w s ds:=⟨h.1.src,h.1.2.1,h.2⟩
theorem bq.none(B:U1)(w:J):bq B w ⟨.none,0,0⟩ []:=⟨[],rfl,aL.none _ _ _,λk a=>(gE k a).elim,λi h=>by simp at h⟩
theorem cM.none(B:U1)(w:J):cM B w ⟨.none,0,0⟩ []:=⟨aL.none _ _ _,λk a=>(gE k a).elim⟩
theorem bo.none(B:U1)(w:J):bo B w ⟨.none,0,0⟩ []:=bq.im (bq.none B w)
theorem cK.none(B:U1)(w:J):cK B w ⟨.none,0,0⟩ []:=cM.pV (cM.none B w)
theorem bq.ab(h:bq B w s ls)(hc:aa V w w')(a:∀k,B k->¬V k):bq B w' s ls:=by
 obtain⟨ts,h1,f,b,c⟩:=h;exact⟨ts,h1,f.ab hc λk g=>a k (b k g).1,In.ab b hc,λi d e=>⟨bI.ab (c i d e).1 hc a,(c i d e).2⟩⟩
theorem bq.ext(h:bq B w s ls)(hc:Ext w w'):bq B w' s ls:=bq.ab h hc λ_ _ h=>h
theorem cM.ab(h:cM B w s ds)(hc:aa V w w')(a:∀k,B k->¬V k):cM B w' s ds:=⟨h.1.ab hc λk b=>a k (h.2 k b).1,In.ab h.2 hc⟩
theorem cM.ext(h:cM B w s ds)(hc:Ext w w'):cM B w' s ds:=cM.ab h hc λ_ _ h=>h
theorem bI.some(h:bI B w t l)(b:l≠ []):∃A,t.a=some A:=by
 cases c:t.a with
 |none=>
  have:=h.1.nil c;exfalso;apply b
  cases l with
  |nil=>rfl
  |cons a l=>simp[aC]at this
 |some A=>exact⟨A,rfl⟩
end
theorem rR:hY aj 93 39 1 24:=⟨by kernel_rfl⟩
theorem mL:hY aj 72 3 1 8:=⟨by kernel_rfl⟩
theorem xB(ts:O U):∀v∈ts.map iM,Plain v:=by
 intro v a;obtain⟨n,_,rfl⟩:=df.1 a;trivial
theorem xC(ds:O Nat):∀v∈dv ds,Plain v:=by
 intro v a;obtain⟨n,_,rfl⟩:=df.1 a;trivial
theorem mM{s:U}(h:Src 1 w s (aC l))(d:l.length<=1000000)(e:∀k,w.heap.size<=k->B k):
 aI aj 46 #[s] w (λv w'=>∃a:U,v=a/\bI B w' a l/\Ext w w'/\fI w a):=by
 refine(zv h d).mono ?_;rintro _ w' ⟨a,rfl,b,hx,hf⟩;exact⟨a,rfl,⟨b.src,b.2.1,λk c=>⟨e k (hf k c),b.lt k c⟩⟩,hx,hf⟩
theorem xD{s t:U}{l:Key}(p:bq B w s ls)(ht:bI B w t l)(hd:∀k,ar t k->¬ar s k)(D:ls.length<=1000000)(q:∀k,w.heap.size<=k->B k):
 ∃ (b:U) (w':J),Sem.run aj (Builtin.append_ #[93,93] 93 #[s,.slice (some w) 1 1]) (w.alloc (.cells #[t] 39))=.ok b w'/\
  bq B w' b (ls++ [l])/\aa (ar s) w w'/\(∀k,ar b k->ar s k\/w<=k):=by
 obtain⟨ts,h1,f,r,u⟩:=p;have E:s.len=ls.length:=by have:=f.1;rw[cV]at this;omega
 obtain⟨b,w',ao,g,F,c,d⟩:=rR.push (c7:=93) (w:=w) (s:=s) (xs:=[iM t]) rfl f (λv y=>by rw[dV.1 y];trivial) I;refine⟨b,w',ao,⟨ts++ [t],by simp[h1],?_,?_,λi j z=>?_⟩,c,d⟩
 .rw[eU];exact g
 .intro k a
  refine⟨?_,g.lt k a⟩;rcases d k a with h|h
  .exact(r k h).1
  .exact q k h
 .have m:∀ (x:U),(∀k,ar x k->k<w)->(∀k,ar x k->¬ar s k)->∀k,ar x k->¬ar b k:=λx hx A k a C=>by
   rcases d k C with h|h
   .exact A k a h
   .have:=hx k a;omega
  have G:i<ts.length+1:=by simpa using j
  rcases dA i ts.length with h|h
  .obtain⟨n,o⟩:=u i h I
   simp only[sG h,sG (show i<ls.length from I)];exact⟨bI.l7 n c o,m _ (λk a=>(n.2.2 k a).2) o⟩
  .have:i=ts.length:=I
   subst this;have e:(ts++ [t])[ts.length]'j=t:=by simp
   have:(ls++ [l])[ts.length]'z=l:=by rw[uH I];simp
   rw[this,e];exact⟨bI.l7 ht c hd,m _ (λk a=>(ht.2.2 k a).2) hd⟩
theorem H_{s:U}(d:Nat)(c:cM B w s ds)(m:ds.length<=1000000)(i:∀k,w.heap.size<=k->B k):
 ∃ (b:U) (w':J),Sem.run aj (Builtin.append_ #[72,72] 72 #[.slice s.a s.len s.cap,.slice (some ⟨w,0,none⟩) 1 1]) (w.alloc (.cells #[.int .i64 ((d:Nat):Int)] 3))=.ok (.slice b.a b.len b.cap) w'/\
  cM B w' b (ds++ [d])/\aa (ar s) w w'/\(∀k,ar b k->ar s k\/w<=k):=by
 have n:s.len=ds.length:=by have:=c.1.1;rw[mK]at this;omega
 obtain⟨b,w',ao,e,o,j,f⟩:=mL.push (c7:=72) (w:=w) (s:=s) (xs:=[.int .i64 ((d:Nat):Int)]) rfl c.1 (λv l=>by rw[dV.1 l];trivial) I;refine⟨b,w',ao,⟨by simpa[dv] using e,λk g=>⟨?_,e.lt k g⟩⟩,j,f⟩;rcases f k g with h|h
 .exact(c.2 k h).1
 .exact i k h
structure b2(B:U1)(w:J)(n:aA)(K V D:U):Prop where
 keys:bo B w K n.keys
 vals:bo B w V n.vals
 kids:cK B w D n.kids
def dp(n:aA)(K V D:U):O Y:=[n.leaf,K,V,D]
def dg(n:aA)(K V D:U):Y:=.agg #[n.leaf,K,V,D]
section
variable {B C:U1}{w w':J}{n:aA}{K V D:U}
theorem b2.ab(h:b2 B w n K V D)(hc:aa W w w')(a:∀k,B k->¬W k):b2 B w' n K V D:=⟨bo.ab h.keys hc a,bo.ab h.vals hc a,cK.ab h.kids hc a⟩
theorem b2.ext(h:b2 B w n K V D)(hc:Ext w w'):b2 B w' n K V D:=b2.ab h hc λ_ _ h=>h
theorem b2.bh(h:b2 B w n K V D)(a:∀k,k<w.heap.size->B k->C k):b2 C w n K V D:=⟨bo.bh h.keys a,bo.bh h.vals a,cK.bh h.kids a⟩
theorem bS(h:Var w b [leaf,K,V,D] T):
 w.cell? b=some (.bool leaf)/\w.cell? (Addr.add b 1)=some (.slice K.a K.len K.cap)/\w.cell? (Addr.add b 2)=some (.slice V.a V.len V.cap)/\w.cell? (Addr.add b 3)=some (.slice D.a D.len D.cap):=by
 rw[aw,aw,aw];exact⟨h.cell,h.cell,h.cell,h.cell⟩
end
theorem Ia{s:U}(h:bo B w s ls)(f:ls.length<=1000000):
   aI aj 225 #[s,.func (.func 224) #[] #[]] w (λv w'=>v=.bool (ls.any λv=>decide (24<v.length))/\w=w'):=by
 refine okF (ad.vV s ⟨224,#[],#[]⟩) ay.vV func225 ?_
 (delta ad.vV b5;dsimp only)
 have g:=bo.len h
 have e:jN aj 224:=⟨_,(qu (show(Tryz.prog.funcs[224]?).isSome=true by kernel_rfl)).symm,by kernel_rfl,by kernel_rfl⟩
 refine Calls.mono (ad.GJ s ⟨224,#[],#[]⟩ w (λv w'=>(∃i:Int,v=i/\(decide (i>=0))=(ls.any λv=>decide (24<v.length)))/\w=w') ?_) ?_
 · (delta ad.ti cW af aQ aO aJ aV ai;dsimp only)
   refine⟨λi w'=>∃j:Nat,i=j/\j<=ls.length/\w=w'/\∀ (k:Nat) (a:k<ls.length),k<j->(ls[k]).length<=24,λi _=>((ls.length:Int)-i).toNat,⟨0,rfl,cw _,rfl,λk a h=>I⟩,?_⟩
   rintro _ _ ⟨j,rfl,l,rfl,d⟩
   refine⟨λaB=>?_,λc=>?_⟩
   · have aB:j<ls.length:=U4 (bB aB)
     obtain⟨A,t,ak,b,hc,ht,_⟩:=bo.at h aB
     refine⟨A,ak,b,t,hc,e,?_⟩
     have m:=len8 ht.1
     refine Calls.mono (ad.Hd t w (λv w'=>v=.bool (decide (24<(ls[j]).length))/\w=w') ⟨?_,rfl⟩) ?_
     · congr 1
       rw[ek,cq,cq];omega
     rintro _ _ ⟨_,rfl,rfl,rfl⟩
     refine⟨_,rfl,λb=>⟨⟨j,rfl,?_⟩,rfl⟩,λb=>?_⟩
     · have:(ls.any λv=>decide (24<v.length))=true:=List.any_eq_true.2 ⟨_,cg aB,b⟩
       rw[this];exact dm I
     · have b:=bT b
       rw[bl (n:=(j:Int)+1) I I]
       refine⟨⟨j+1,I,I,rfl,λk a h=>?_⟩,?_⟩
       · rcases dA k j with h1|h1
         · exact d k a h1
         · have:k=j:=I
           subst this;omega
       · show((ls.length:Int)-((j:Int)+1)).toNat<((ls.length:Int)-(j:Int)).toNat
         omega
   · have c:j=ls.length:=U4 (bT c)
     subst c
     refine⟨⟨-1,rfl,?_⟩,rfl⟩
     have:(ls.any λv=>decide (24<v.length))=false:=by
       rw[qk]
       intro x hx
       obtain⟨k,a,rfl⟩:=eO hx
       have:=d k a a
       simp;omega
     rw[this];rfl
 · rintro _ _ ⟨_,rfl,⟨i,rfl,hi⟩,rfl⟩
   exact⟨i,rfl,by rw[hi],rfl⟩
theorem Ib{s:U}(h:cK B w s ds)(g:ds.length<=1000000):
   aI aj 227 #[s,.func (.func 226) #[] #[]] w (λv w'=>v=.bool (ds.any λd=>decide (1600<=d))/\w=w'):=by
 refine okF (ad.vW s ⟨226,#[],#[]⟩) ay.vW func227 ?_
 (delta ad.vW b5;dsimp only)
 have l:=cK.len h
 have f:jN aj 226:=⟨_,(qu (show(Tryz.prog.funcs[226]?).isSome=true by kernel_rfl)).symm,by kernel_rfl,by kernel_rfl⟩
 refine Calls.mono (ad.GK s ⟨226,#[],#[]⟩ w (λv w'=>(∃i:Int,v=i/\(decide (i>=0))=(ds.any λd=>decide (1600<=d)))/\w=w') ?_) ?_
 · (delta ad.tj cW af aQ aO r1 aV ai;dsimp only)
   refine⟨λi w'=>∃j:Nat,i=j/\j<=ds.length/\w=w'/\∀ (k:Nat) (a:k<ds.length),k<j->ds[k]<1600,λi _=>((ds.length:Int)-i).toNat,⟨0,rfl,cw _,rfl,λk a h=>I⟩,?_⟩
   rintro _ _ ⟨j,rfl,m,rfl,e⟩
   refine⟨λaB=>?_,λc=>?_⟩
   · have aB:j<ds.length:=U4 (bB aB)
     obtain⟨A,ak,b,hc⟩:=cK.at h aB
     refine⟨A,ak,b,_,hc,f,?_⟩
     refine Calls.mono (ad.He ((ds[j]:Nat):Int) w (λv w'=>v=.bool (decide (1600<=ds[j]))/\w=w') ⟨?_,rfl⟩) ?_
     · congr 1
       rw[ek,fC,cq,cq,cq];omega
     rintro _ _ ⟨_,rfl,rfl,rfl⟩
     refine⟨_,rfl,λb=>⟨⟨j,rfl,?_⟩,rfl⟩,λb=>?_⟩
     · have:(ds.any λd=>decide (1600<=d))=true:=List.any_eq_true.2 ⟨_,cg aB,b⟩
       rw[this];exact dm I
     · have b:=bT b
       rw[bl (n:=(j:Int)+1) I I]
       refine⟨⟨j+1,I,I,rfl,λk a h=>?_⟩,?_⟩
       · rcases dA k j with h1|h1
         · exact e k a h1
         · have:k=j:=I
           subst this;omega
       · show((ds.length:Int)-((j:Int)+1)).toNat<((ds.length:Int)-(j:Int)).toNat
         omega
   · have c:j=ds.length:=U4 (bT c)
     subst c
     refine⟨⟨-1,rfl,?_⟩,rfl⟩
     have:(ds.any λd=>decide (1600<=d))=false:=by
       rw[qk]
       intro x hx
       obtain⟨k,a,rfl⟩:=eO hx
       have:=e k a a
       simp;omega
     rw[this];rfl
 · rintro _ _ ⟨_,rfl,⟨i,rfl,hi⟩,rfl⟩
   exact⟨i,rfl,by rw[hi],rfl⟩
theorem zE:∀ {l:O Key},(∀ (i:Nat) (h:i+1<l.length),b9 l[i] l[i+1])->l.Pairwise b9
 | [],_=>.nil
 |a::l,h=>by
  have e:=zE (l:=l) λi hi=>h (i+1) (by simpa using hi)
  refine mq.2 ⟨λb d=>?_,e⟩
  cases l with
  |nil=>simp at d
  |cons c l=>
   have h0:b9 a c:=h 0 U9
   rcases cN.1 d with rfl|d
   .exact h0
   .exact nr h0 ((mq.1 e).1 b d)
instance (k:Key):Decidable (cP k):=by unfold cP;infer_instance
theorem pF{t:U}{l:Key}(h:Src 1 w t (aC l)):aI aj 199 #[t] w (λv w'=>v=.bool (decide (cP l))/\w=w'):=by
 have a:=len8 h;refine okF (ad.pF t) ay.pF func199 ?_;unfold ad.pF;refine⟨?_,rfl⟩
 congr 1
 rw[ek,dM,cq,cq,cq];unfold cP;omega
theorem kV{K V D:U}(h:b2 B w n K V D)(h1:n.keys.length<=100000)(O:n.vals.length<=100000)(P:n.kids.length<=100000):
 aI aj 182 #[dg n K V D] w (λv w'=>∃b:ag,v=b/\(b=true↔cC n)/\Ext w w'):=by
 refine okF (ad.kV n.leaf K V D) ay.kV func182 ?_;(delta ad.kV av aJ ae cW af aQ aO aV bR ai b5 aW;dsimp only);refine bg (vs:=[n.leaf,K,V,D]) rfl λw1 d m _=>?_;obtain⟨bM,aR,a7,bx⟩:=bS d;have g:=h.ext m;have gK:=bo.len g.keys;have Q:=bo.len g.vals;have aZ:=cK.len g.kids;refine⟨K,aR,λi w'=>∃j:Nat,i=j/\j<=n.keys.length/\w1=w'/\(∀ (k:Nat) (f:k<n.keys.length),k<j->cP n.keys[k])/\∀ (k:Nat) (f:k+1<n.keys.length),k+1<j->b9 n.keys[k] n.keys[k+1],
  λi _=>((n.keys.length:Int)-i).toNat,⟨0,rfl,cw _,rfl,λk f h=>I,λk f h=>I⟩,?_⟩
 rintro _ _ ⟨j,rfl,o,rfl,y,z⟩;refine⟨λaB=>?_,λp=>?_⟩
 .have aB:j<n.keys.length:=U4 (bB aB)
  obtain⟨A,t,ak,a,hc,ht,_⟩:=bo.at g.keys aB;refine⟨A,ak,a,t,hc,(pF ht.1).use ?_⟩;rintro _ _ ⟨rfl,rfl⟩;refine⟨_,rfl,cx (λb w'=>w1=w'/\(b=true->¬cC n)/\(b=false->cP n.keys[j]/\∀ (o:1<=j),b9 (n.keys[j-1]'I) n.keys[j])) (λq c=>⟨λa=>?_,λa=>?_⟩) ?_⟩
  .have a:¬cP n.keys[j]:=by simpa using a
   exact c _ _ ⟨rfl,λ_ hs=>a (hs.keys.ok _ (cg aB)),λh=>by cases h⟩
  .have a:cP n.keys[j]:=by simpa using a
   refine cx (λb w'=>w1=w'/\(b=true->¬cC n)/\(b=false->∀ (o:1<=j),b9 (n.keys[j-1]'I) n.keys[j])) (λR C=>⟨λh0=>?_,λh0=>?_⟩) ?_
   .have h0:1<=j:=U4 (bB h0)
    rw[bl (n:=(j:Int)-1) I I,show(j:Int)-1=((j-1:Nat):Int) from I];obtain⟨F,t2,G,r,H,L,_⟩:=bo.at g.keys (i:=j-1) I;refine⟨K,aR,F,G,r,t2,H,(mF L.1 ht.1).use ?_⟩;rintro _ _ ⟨rfl,rfl⟩;refine⟨_,rfl,C _ _ ⟨rfl,λhc hs=>?_,λhc _=>?_⟩⟩
    .have hc:=bB hc
     have:b9 (n.keys[j-1]'I) n.keys[j]:=lT.1 hs.keys.fG (j-1) j I aB I;unfold b9 at this;omega
    .have hc:=bT hc
     unfold b9;omega
   .have h0:=bT h0
    exact C _ _ ⟨rfl,nofun,λ_ o=>I⟩
   .rintro b w' ⟨rfl,ao,s⟩
    exact c _ _ ⟨rfl,ao,λr=>⟨a,s r⟩⟩
  .rintro b w' ⟨rfl,ao,s⟩
   refine⟨λa=>⟨false,rfl,⟨nofun,λhs=>absurd hs (ao a)⟩,m⟩,λa=>?_⟩;obtain⟨M,N⟩:=s a;rw[bl (n:=(j:Int)+1) I I];refine⟨⟨j+1,I,I,rfl,λk f h=>?_,λk f h=>?_⟩,?_⟩
   .rcases dA k j with h1|h1
    .exact y k f h1
    .have:k=j:=I
     subst this;exact M
   .rcases dA (k+1) j with h1|h1
    .exact z k f h1
    .have:j=k+1:=I
     subst this;exact N I
   .show((n.keys.length:Int)-((j:Int)+1)).toNat<((n.keys.length:Int)-(j:Int)).toNat
    omega
 .have p:j=n.keys.length:=U4 (bT p)
  subst p;have E:xk n:=⟨λk f=>by
   obtain⟨i,hi,rfl⟩:=eO f;exact y i hi hi,zE λi hi=>z i hi hi⟩
  refine⟨n.leaf,bM,λl=>⟨V,a7,K,aR,?_⟩,λl=>⟨K,aR,?_⟩⟩
  .refine cx (λb w'=>w1=w'/\b=(decide (n.vals.length=n.keys.length)&&decide (n.kids=[]))) (λq c=>⟨λa=>⟨D,bx,c _ _ ⟨rfl,?_⟩⟩,λa=>c _ _ ⟨rfl,?_⟩⟩) ?_
   .have a:=eq_of_beq a
    rw[dm (show n.vals.length=n.keys.length from I),j3,ek,gP,cq,←kN];omega
   .have a:¬((V.len:Int)=(K.len:Int)):=λe=>by rw[e]at a;simp at a
    rw[ib I,m5]
   rintro b w' ⟨rfl,rfl⟩;refine cx (λb w'=>w1=w'/\(b=true↔cC n)) (λq c=>⟨λa=>⟨V,a7,(Ia g.vals I).use ?_⟩,λa=>c _ _ ⟨rfl,?_⟩⟩) ?_
   .rintro _ _ ⟨rfl,rfl⟩
    refine⟨_,rfl,c _ _ ⟨rfl,?_⟩⟩;simp only[dM,cq]at a;rw[ju,qk];constructor
    .intro u
     exact .inl ⟨E,l,a.1,a.2,λv d=>by have:=u v d;simp at this;omega⟩
    .rintro(hs|hs)
     .intro v d;have:=hs.vals v d;simp;omega
     .have:=hs.inner;rw[l]at this;cases this
   .have a:¬(n.vals.length=n.keys.length/\n.kids=[]):=by simpa using a
    refine⟨nofun,?_⟩;rintro(hs|hs)
    .exact absurd ⟨hs.len,hs.kids⟩ a
    .have:=hs.inner;rw[l]at this;cases this
   rintro b w' ⟨rfl,a⟩;exact⟨b,rfl,a,m⟩
  .refine cx (λb w'=>w1=w'/\b=(decide (n.keys≠ [])&&decide (n.kids.length=n.keys.length+1))) (λq c=>⟨λa=>⟨D,bx,K,aR,c _ _ ⟨rfl,?_⟩⟩,λa=>c _ _ ⟨rfl,?_⟩⟩) ?_
   .have a:=bB a
    have x:n.keys≠ []:=λe=>by rw[e]at gK;simp at gK;omega
    rw[dm x,j3,ek,gP,cq,bl I I];omega
   .have a:=bT a
    have x:n.keys=[]:=kN.1 I;rw[ib (λh=>h x),m5]
   rintro b w' ⟨rfl,rfl⟩;refine cx (λb w'=>w1=w'/\b=(decide (n.keys≠ [])&&decide (n.kids.length=n.keys.length+1)&&decide (n.vals=[]))) (λq c=>⟨λa=>⟨V,a7,c _ _ ⟨rfl,?_⟩⟩,λa=>c _ _ ⟨rfl,?_⟩⟩) ?_
   .rw[a,j3,ek,gP,cq,←kN]
    omega
   .rw[a,m5]
   rintro b w' ⟨rfl,rfl⟩;refine cx (λb w'=>w1=w'/\(b=true↔cC n)) (λq c=>⟨λa=>⟨D,bx,(Ib g.kids I).use ?_⟩,λa=>c _ _ ⟨rfl,?_⟩⟩) ?_
   .rintro _ _ ⟨rfl,rfl⟩
    refine⟨_,rfl,c _ _ ⟨rfl,?_⟩⟩;simp only[dM,cq]at a;rw[ju,qk];constructor
    .intro u
     exact .inr ⟨E,l,a.1.1,a.1.2,a.2,λv d=>by have:=u v d;simp at this;omega⟩
    .rintro(hs|hs)
     .have:=hs.leaf;rw[l]at this;cases this
     .intro v d;have:=hs.kids v d;simp;omega
   .have a:¬((n.keys≠ []/\n.kids.length=n.keys.length+1)/\n.vals=[]):=λe=>by
     rw[dm e.1.1,dm e.1.2,dm e.2]at a;cases a
    refine⟨nofun,?_⟩;rintro(hs|hs)
    .have:=hs.leaf;rw[l]at this;cases this
    .exact absurd ⟨⟨hs.some,hs.len⟩,hs.vals⟩ a
   rintro b w' ⟨rfl,a⟩;exact⟨b,rfl,a,m⟩
theorem Ic{a b:U}{c lb:O UInt8}(h:Src 1 w a (aC c))(i:Src 1 w b (aC lb))(k:c.length+lb.length<=1000):
 aI aj 103 #[.slice (some w) 2 2] (w.alloc (.cells #[a,b] 39)) (λv w'=>∃d:U,v=d/\aL 1 5 w' d (aC (c++lb))/\Ext w w'/\fI w d):=by
 have hx:=dc w (.cells #[a,b] 39);refine(xw (s:=⟨some w.heap.size,2,2⟩) [(a,c),(b,lb)] (Src.new w _ 2 rfl) ?_ (by simp[eW];omega) U9).mono ?_
 .intro p f
  simp only[cN,er,ez]at f;rcases f with rfl|rfl
  .exact h.ext hx
  .exact i.ext hx
 .rintro _ w' ⟨d,rfl,g,j,hf⟩
  have e:eW [(a,c),(b,lb)]=c++lb:=by simp[eW]
  rw[e]at g;exact⟨d,rfl,g,hx.trans j,hf.mono hx.size⟩
theorem Ie{a b c:U}{d lb lc:O UInt8}(i:Src 1 w a (aC d))(j:Src 1 w b (aC lb))(hc:Src 1 w c (aC lc))(l:d.length+lb.length+lc.length<=1000):
 aI aj 103 #[.slice (some w) 3 3] (w.alloc (.cells #[a,b,c] 39)) (λv w'=>∃f:U,v=f/\aL 1 5 w' f (aC (d++(lb++lc)))/\Ext w w'/\fI w f):=by
 have hx:=dc w (.cells #[a,b,c] 39);refine(xw (s:=⟨some w.heap.size,3,3⟩) [(a,d),(b,lb),(c,lc)] (Src.new w _ 3 rfl) ?_ (by simp[eW];omega) U9).mono ?_
 .intro p g
  simp only[cN,er,ez]at g;rcases g with rfl|rfl|rfl
  .exact i.ext hx
  .exact j.ext hx
  .exact hc.ext hx
 .rintro _ w' ⟨f,rfl,h,k,hf⟩
  have e:eW [(a,d),(b,lb),(c,lc)]=d++(lb++lc):=by simp[eW]
  rw[e]at h;exact⟨f,rfl,h,hx.trans k,hf.mono hx.size⟩
theorem C1(w:J){n:Nat}(a:n<=255):Src 1 (w.alloc (.cells #[.int .u8 (IntKind.wrap .u8 (n:Int))] 5)) ⟨some w.heap.size,1,1⟩ (aC [UInt8.ofNat n])/\Ext w (w.alloc (.cells #[.int .u8 (IntKind.wrap .u8 (n:Int))] 5)):=by
 have e:(#[.int .u8 (IntKind.wrap .u8 (n:Int))]:Array Y)=(aC [UInt8.ofNat n]).toArray:=by
  rw[s7 I I];simp[aC,jx (show n<256 from I)]
 rw[e];exact⟨Src.new w _ 1 rfl,dc _ _⟩
theorem c8{l:O α}{d:α}(h:i<l.length):l.getD i d=l[i]:=by
 rw[fi,dB h];rfl
theorem cC.tT(h:cC n)(a:n.leaf=true):n.vals.length=n.keys.length:=by
 obtain h|h:=h
 .exact h.len
 .have:=h.inner;rw[a]at this;cases this
theorem cC.xE(h:cC n)(a:n.leaf=false):n.kids.length=n.keys.length+1:=by
 obtain h|h:=h
 .have:=h.leaf;rw[a]at this;cases this
 .exact h.len
theorem ov{K V D:U}(h:b2 B w n K V D)(hs:cC n)(hi:i<n.keys.length)(ac:n.keys.length<=100000):
 aI aj 280 #[dg n K V D,i] w (λv w'=>∃s:U,v=s/\aL 1 5 w' s (aC (eF n i))/\Ext w w'/\fI w s):=by
 refine okF (ad.ov n.leaf K V D (i:Int)) ay.ov func280 ?_;(delta ad.ov b1 c2 dC aJ ae aQ aO aV bU aW af av ai r1 aF;dsimp only);refine bg (vs:=[n.leaf,K,V,D]) rfl λw1 r e _=>?_;have u:=cc w1;have Q:=e.trans u;have R:=h.ext Q;obtain⟨bM,aR,a7,bx⟩:=bS (r.ext u);obtain⟨A,t,ak,L,hc,ht,_⟩:=bo.at R.keys hi;have ag:=(hs.keys.ok _ (cg hi)).2;have S:=len8 ht.1;obtain⟨T,x⟩:=C1 w1.drew (n:=t.len) I;refine aH ⟨λ_=>False,id,K,aR,A,ak,L,id,t,hc,id,K,aR,A,ak,L,id,t,hc,aH ⟨x,aH ?_⟩⟩;refine(Ic (a:=⟨some w1.drew.heap.size,1,1⟩) (b:=t) T (ht.1.ext x) (by simp;omega)).use ?_;rintro _ y ⟨M,rfl,z,W,ah⟩;have d:=u.trans (x.trans W);obtain⟨d0,d1,d2,d3⟩:=bS (r.ext d);have X: [UInt8.ofNat t.len]++n.keys[i]=gW (n.keys.getD i []):=by rw[c8 hi,S];rfl
 rw[X]at z;have N:=h.ext (e.trans d);refine⟨M,rfl,n.leaf,d0,λf=>?_,λf=>?_⟩
 .have al:=hs.tT f
  have C:i<n.vals.length:=by omega
  have g:=cc y;have Y:=N.ext g;obtain⟨am,an,O,ao⟩:=bS (r.ext (d.trans g));obtain⟨m,t2,o,p,q,P,_⟩:=bo.at Y.vals C;have ap:=hs.vals _ (cg C);have Z:=len8 P.1;obtain⟨aa,j⟩:=C1 y.drew (n:=t2.len) I;refine aH ⟨λ_=>False,id,V,O,m,o,p,id,t2,q,id,V,O,m,o,p,id,t2,q,aH ⟨j,aH ?_⟩⟩;refine(Ie (a:=M) (b:=⟨some y.drew.heap.size,1,1⟩) (c:=t2) (z.src.ext (g.trans j)) aa (P.1.ext j) (by rw[ik,c8 hi];simp;omega)).use ?_;rintro _ ab ⟨l,rfl,E,F,G⟩;refine⟨l,rfl,l,rfl,?_,(e.trans d).trans (g.trans (j.trans F)),G.mono ((e.trans d).trans (g.trans j)).size⟩;have:gW (n.keys.getD i [])++([UInt8.ofNat t2.len]++n.vals[i])=eF n i:=by
   unfold eF;rw[f,if_pos rfl,c8 C,Z];rfl
  rwa[this]at E
 .have aq:=hs.xE f
  have H:i+1<n.kids.length:=by omega
  obtain⟨m,o,p,q⟩:=cK.at N.kids H;have ar:=hs.kids _ (cg H);rw[bl (n:=(i:Int)+1) I I,show(i:Int)+1=((i+1:Nat):Int) from I];refine⟨D,d3,m,o,p,_,q,?_⟩;rw[gl (n:=((n.kids[i+1]:Nat):Int)) I I];refine(je z.src (n:=n.kids[i+1]) (k:=2) (by rw[ik,c8 hi];omega) (by show _<18446744073709551616;omega) ⟨by decide,by decide⟩).use ?_;rintro _ ab ⟨l,rfl,E,F,G⟩;refine⟨l,rfl,l,rfl,?_,(e.trans d).trans F,fI.mono G (e.trans d).size⟩;have:gW (n.keys.getD i [])++bV n.kids[i+1] 2=eF n i:=by
   unfold eF;rw[f,if_neg U9,c8 H]
  rwa[this]at E
theorem xF(hs:cC n)(hi:i<n.keys.length):(eF n i).length<=100:=by
 unfold eF;have:=(hs.keys.ok _ (cg hi)).2;rw[b6,ik,c8 hi];split
 .rename_i b
  have a:i<n.vals.length:=U4 (hs.tT b)
  have:=hs.vals _ (cg a);rw[ik,c8 a];omega
 .rw[eB];omega
theorem zF(hs:cC n):∀m,m<=n.keys.length->(fz n 0 m).length<=100*m
 |0,_=>by simp[fz]
 |m+1,a=>by
  have:=zF hs m I
  have:=xF hs (i:=m) I
  rw[pT,b6];omega
theorem pK{K V D:U}(h:b2 B w n K V D)(hs:cC n)(am:n.keys.length<=255):
 aI aj 275 #[dg n K V D] w (λv w'=>∃s:U,v=s/\aL 1 5 w' s (aC (ew n))/\Ext w w'/\fI w s):=by
 refine okF (ad.pK n.leaf K V D) ay.pK func275 ?_;(delta ad.pK av aJ ae aW af aQ aO r1 aV bU aF jd ap ai;dsimp only);refine bg (vs:=[n.leaf,K,V,D]) rfl λw1 g l _=>?_;obtain⟨bM,aR,a7,bx⟩:=bS g;have u:=h.ext l;have gK:=bo.len u.keys;have E:(#[.int .u8 (IntKind.wrap .u8 (K.len:Int))]:Array Y)=(aC [UInt8.ofNat n.keys.length]).toArray:=by
  rw[gK,s7 I I];simp[aC,jx (show n.keys.length<256 from I)]
 refine⟨K,aR,?_⟩;rw[E];have m:=aL.new (T:=5) (sz:=1) w1 (aC [UInt8.ofNat n.keys.length]) 1 rfl (by decide);have c:=dc w1 (.cells (aC [UInt8.ofNat n.keys.length]).toArray 5);obtain⟨ah,F⟩:=U6 (w1.alloc (.cells (aC [UInt8.ofNat n.keys.length]).toArray 5));rw[←F]at m c⊢;obtain⟨d0,d1,d2,d3⟩:=bS (g.ext c);have G:=l.trans c;refine aH (cx (λd w'=>aL 1 5 w' d (aC (preB n))/\Ext ah w'/\fI w1 d) (λq x=>⟨n.leaf,d0,λa=>?_,λa=>x _ _ ⟨?_,.refl _ _,?_⟩⟩) ?_)
 .have a:n.leaf=false:=by simpa using a
  have an:=hs.xE a;have o:0<n.kids.length:=by omega
  obtain⟨H,L,M,N⟩:=cK.at (h.ext G).kids o;have aq:=hs.kids _ (cg o);refine⟨D,d3,H,L,M,_,N,?_⟩;rw[gl (n:=((n.kids[0]:Nat):Int)) I I];refine(je m.src (n:=n.kids[0]) (k:=2) U9 (by show _<18446744073709551616;omega) ⟨by decide,by decide⟩).use ?_;rintro _ O ⟨p,rfl,e,b,f⟩;refine⟨p,rfl,x _ _ ⟨?_,b,fI.mono f c.size⟩⟩;have: [UInt8.ofNat n.keys.length]++bV n.kids[0] 2=preB n:=by
   unfold preB;rw[a,if_neg U9,c8 o];rfl
  rwa[this]at e
 .have a:n.leaf=true:=by simpa using a
  have:preB n=[UInt8.ofNat n.keys.length]:=by unfold preB;rw[a];rfl
  rw[this];exact m
 .rintro k ⟨A,ak,rfl⟩
  cases ak;exact a_ _
 rintro ar au ⟨P,Q,R⟩;have y:=c.trans Q;obtain⟨d0,d1,d2,d3⟩:=bS (g.ext y);have aw:(preB n).length<=3:=by
  unfold preB
  cases n.leaf<;>simp[eB]
 refine⟨K,d1,λd i w'=>∃j:Nat,i=j/\j<=n.keys.length/\aL 1 5 w' d (aC (preB n++fz n 0 j))/\Ext w1 w'/\fI w1 d,λ_ i _=>((n.keys.length:Int)-i).toNat,⟨0,rfl,cw _,by simpa[fz] using P,y,R⟩,?_⟩;rintro p _ O ⟨j,rfl,S,e,b,f⟩;refine⟨λaB=>?_,λr=>?_⟩
 .have aB:j<n.keys.length:=by have:=bB aB;omega
  obtain⟨f0,f1,f2,f3⟩:=bS (g.ext b);refine⟨n.leaf,f0,K,f1,V,f2,D,f3,(ov (u.ext b) hs aB I).use ?_⟩;rintro _ ax ⟨W,rfl,z,t,az⟩;have C:=kC e;have X:=kC z;have c3:=xF hs aB;have cu:=zF hs j S;rw[b6]at C;obtain⟨Z,aa,ao,ab,aD,ac,ag⟩:=tM.append (c7:=39) z.src (e.ext t) (jE _) (by rw[C,X];omega);rw[bl (n:=(j:Int)+1) I I];refine⟨W,rfl,Z,aa,ao,⟨j+1,I,I,?_,Ext.dH (b.trans t) ac f,λk al=>?_⟩,?_⟩
  .rw[pT,←cU,l6];exact ab
  .rcases ag k al with h|h
   .exact f k h
   .exact fg (b.trans t).size h
  .show((n.keys.length:Int)-((j:Int)+1)).toNat<((n.keys.length:Int)-(j:Int)).toNat
   omega
 .have r:j=n.keys.length:=by have:=bT r;omega
  subst r;exact⟨p,rfl,e,l.trans b,f.mono l.size⟩
theorem pI{K V D:U}(h:b2 B w n K V D)(hs:cC n)(f:n.keys.length<=255):
 aI aj 262 #[dg n K V D] w (λv w'=>v=.int .i64 (bP n:Nat)/\Ext w w'):=by
 have g:n.vals.length<=100000:=by
  obtain hs|hs:=hs
  .rw[hs.len];omega
  .rw[hs.vals];simp
 have i:n.kids.length<=100000:=by
  obtain hs|hs:=hs
  .rw[hs.kids];simp
  .rw[hs.len];omega
 refine okF (ad.pI n.leaf K V D) ay.pI func262 ?_;(delta ad.pI aW ae av aJ bR af bU;dsimp only);refine bg (vs:=[n.leaf,K,V,D]) rfl λw1 d a _=>?_;obtain⟨bM,aR,a7,bx⟩:=bS d;refine⟨n.leaf,bM,K,aR,V,a7,D,bx,(kV (h.ext a) I g i).use ?_⟩;rintro _ ah ⟨b,rfl,j,c⟩;have k:=j.2 hs;subst k;obtain⟨bM,aR,a7,bx⟩:=bS (d.ext c);refine⟨true,rfl,nofun,λ_=>⟨n.leaf,bM,K,aR,V,a7,D,bx,(pK (h.ext (a.trans c)) hs f).use ?_⟩⟩;rintro _ p ⟨l,rfl,m,o,_⟩;have e:=kC m;rw[tN hs]at e;exact⟨l,rfl,by rw[e],(a.trans c).trans o⟩
def C2(n:aA)(w w':J)(v:Y):Prop:=
 (∃s:U,v=.tuple #[s,U8]/\aL 1 5 w' s (aC (ew n))/\fI w s/\cC n/\bP n<=232)\/
 (∃e:Int,v=.tuple #[(),e]/\e≠0/\(cC n->232<bP n))
theorem pH{B:U1}{w:J}{n:aA}{K V D:U}(h:b2 B w n K V D)(o:n.keys.length<=100000)(p:n.vals.length<=100000)(r:n.kids.length<=100000):
 aI aj 254 #[dg n K V D] w (λv w'=>C2 n w w' v/\Ext w w'):=by
 refine okF (ad.pH n.leaf K V D) ay.pH func254 ?_;(delta ad.pH aW ae av aJ bR af bU;dsimp only);refine bg (vs:=[n.leaf,K,V,D]) rfl λw1 e f _=>?_;obtain⟨bM,aR,a7,bx⟩:=bS e;refine⟨n.leaf,bM,K,aR,V,a7,D,bx,(kV (h.ext f) o p r).use ?_⟩;rintro _ ah ⟨b,rfl,g,i⟩;have d:=f.trans i;obtain⟨bM,aR,a7,bx⟩:=bS (e.ext i);have gK:=bo.len h.keys;refine⟨b,rfl,cx (λc w'=>ah=w'/\(c=true->cC n->255<n.keys.length)/\(c=false->cC n/\n.keys.length<=255)) (λq j=>⟨λh1=>j _ _ ⟨rfl,λ_ hs=>?_,nofun⟩,λh1=>⟨K,aR,j _ _ ⟨rfl,λa hs=>?_,λa=>?_⟩⟩⟩) ?_⟩
 .have h1:b=false:=by simpa using h1
  rw[g.2 hs]at h1;cases h1
 .have:=bB a;omega
 .have h1:b=true:=by simpa using h1
  have:=bT a;exact⟨g.1 h1,I⟩
 rintro c w' ⟨rfl,ao,s⟩;refine⟨λh1=>⟨.inr ⟨4,rfl,by decide,λhs=>?_⟩,d⟩,λh1=>?_⟩
 .have:=ao h1 hs
  have:=tO hs;omega
 obtain⟨hs,t⟩:=s h1;refine⟨n.leaf,bM,K,aR,V,a7,D,bx,(pK (h.ext d) hs t).use ?_⟩;rintro _ y ⟨k,rfl,l,m,u⟩;have x:=kC l;rw[tN hs]at x;refine⟨k,rfl,λa=>⟨.inr ⟨10,rfl,by decide,λ_=>?_⟩,d.trans m⟩,λa=>⟨.inl ⟨k,rfl,l,u.mono d.size,hs,?_⟩,d.trans m⟩⟩
 .have:=bB a;omega
 .have:=bT a;omega
theorem ry{K V D:U}(h:b2 B w n K V D)(d:n.keys.length<=100000)(f:n.vals.length<=100000)(g:n.kids.length<=100000):
 aI aj 277 #[dg n K V D] w (λv w'=>C2 n w w' v/\Ext w w'):=by
 refine okF (ad.ry n.leaf K V D) ay.ry func277 ?_;(delta ad.ry aW ae av aJ dY;dsimp only);refine bg (vs:=[n.leaf,K,V,D]) rfl λw1 i a _=>?_;obtain⟨bM,aR,a7,bx⟩:=bS i;refine⟨n.leaf,bM,K,aR,V,a7,D,bx,(pH (h.ext a) d f g).use ?_⟩;rintro _ ah ⟨j,c⟩;rcases j with ⟨s,rfl,k,hf,hs,b⟩|⟨e,rfl,he,b⟩
 .exact⟨s,0,rfl,.inl ⟨s,rfl,k,hf.mono a.size,hs,b⟩,a.trans c⟩
 .exact⟨⟨none,0,0⟩,e,rfl,.inr ⟨e,rfl,he,b⟩,a.trans c⟩
theorem ei(h:Var w b vs T)(v:Y):Var (w.setCell ⟨b,i,none⟩ v) b (vs.set i v) T:=by
 have:=bp.set h i v;have e:vs.toArray.setIfInBounds i v=(vs.set i v).toArray:=by simp
 rw[e]at this;exact this
theorem dT(h:Var w b vs T)(hi:i<vs.length):(∃u:Y,w.cell? ⟨b,i,none⟩=some u)/\w.frozen? ⟨b,i,none⟩=false:=
 ⟨⟨vs[i],by rw[h.cell];simp[hi]⟩,bp.frozen h _ rfl⟩
theorem dz(w:J)(b i:Nat)(v:Y):aa (λq=>q=b) w (w.setCell ⟨b,i,none⟩ v):=aa.eF (.refl _ _) v
structure kf(w:J)(r:Nat)(s:U)(rd:Rd):Prop where
 v:Var w r [s,rd.2] 342
 src:Src 1 w s (aC rd.1)
 le:s.len<=s.cap
 ne:∀k,ar s k->k≠r
theorem kf.ab{s:U}{rd:Rd}(h:kf w r s rd)(hc:aa W w w')(h1:¬W r)(a:∀k,ar s k->¬W k):kf w' r s rd:=⟨h.v.ab hc h1,h.src.ab hc a,h.le,h.ne⟩
theorem kf.ext{s:U}{rd:Rd}(h:kf w r s rd)(hc:Ext w w'):kf w' r s rd:=kf.ab h hc id λ_ _ h=>h
theorem xG{a:an ax}{z l n c:Nat}(h:ar ⟨bj a z l m,n,c⟩ k):∃A,a=some A/\A.block=k:=by
 obtain⟨A,ak,rfl⟩:=h;unfold bj at ak;split at ak
 .exact⟨A,ak,rfl⟩
 .cases b:a with
  |none=>rw[b]at ak;cases ak
  |some d=>
   rw[b]at ak;simp only[mX,Option.some.injEq]at ak;exact⟨d,rfl,by subst ak;unfold Addr.add;split<;>rfl⟩
theorem C3{s:U}{rd:Rd}(h:kf w r s rd)(k:Nat)(C:k<=100000)(x:rd.1.length<=100000):
 aI aj 274 #[.pointer (some r),k] w (λv w'=>∃t n:U,v=t/\bI (λq=>w<=q) w' t (iL rd k).1/\kf w' r n (iL rd k).2/\aa (λq=>q=r) w w'/\(∀q,ar n q->ar s q)):=by
 obtain⟨l,ok⟩:=rd;have f:=h.v;have y:=len8 h.src;simp only at y x f;have aB:=f.lt;refine okF (ad.xe (some r) (k:Int)) ay.xe func274 ?_;(delta ad.xe aE aW af aJ st bU;dsimp only);refine⟨_,rfl,ok,f.cell,cx (λb w'=>w=w'/\b=decide (ok=false\/l.length<k)) (λq c=>⟨λh1=>c _ _ ⟨rfl,?_⟩,λh1=>⟨_,rfl,s,f.cell,c _ _ ⟨rfl,?_⟩⟩⟩) ?_⟩
 .have h1:ok=false:=by simpa using h1
  exact(dm (.inl h1)).symm
 .have h1:ok=true:=by simpa using h1
  subst h1;rw[ek,cq,cq];constructor
  .intro h;exact .inr I
  .rintro(h|h)
   .cases h
   .omega
 rintro b w' ⟨rfl,rfl⟩;refine⟨λd=>⟨_,rfl,?_⟩,λd=>⟨_,rfl,s,f.cell,?_⟩⟩
 .have d:=bB d
  obtain⟨ao,g⟩:=dT f (i:=1) U9;rw[aw];have hc:=dz w r 1 false;have e:iL (l,ok) k=([],(l,false)):=by unfold iL;rw[if_pos d]
  rw[e];refine⟨ao,g,aH ⟨⟨none,0,0⟩,s,rfl,⟨(aL.none 1 5 _).src,a_ _,λq c=>(gE q c).elim⟩,⟨ei f _,h.src.ab hc λq c=>h.ne q c,h.le,h.ne⟩,hc,λq c=>c⟩⟩
 .have d:=bT d
  have e:iL (l,ok) k=(l.take k,(l.drop k,true)):=by unfold iL;rw[if_neg d]
  have D:k<=l.length:=by
   rcases dA l.length k with h1|h1
   .exact absurd (.inr h1) d
   .exact h1
  have z:ok=true:=by
   cases ok with
   |true=>rfl
   |false=>exact absurd (.inl rfl) d
  subst z;rw[e];have E:=h.le;refine⟨⟨I,I⟩,?_⟩;have o:=lF h.src h.le (lo:=0) (hi:=k) I I;rw[mn,ql]at o;rw[cS,ql];refine(mM (B:=λq=>w<=q) (s:=⟨bj s.a 1 0 s.cap,k,s.cap-0⟩) o (by rw[cQ];omega) (λq c=>c)).use ?_;rintro _ w1 ⟨t,rfl,ht,j,F⟩;have m:=f.ext j;obtain⟨ao,g⟩:=dT m (i:=0) U9;have hc:=dz w1 r 0 (.slice (bj s.a 1 k s.cap) (s.len-k) (s.cap-k));have p:=lF (h.src.ext j) h.le (lo:=k) (hi:=s.len) I (a_ _);rw[eZ (l:=l.drop k) (by rw[dW];omega)]at p;have u:∀q,ar ⟨bj s.a 1 k s.cap,s.len-k,s.cap-k⟩ q->q≠r:=λq c=>by
   obtain⟨A,ak,d⟩:=xG c;exact h.ne q ⟨A,ak,d⟩
  refine⟨t,rfl,_,rfl,s,m.cell,⟨I,I⟩,_,rfl,ao,g,aH ⟨t,⟨bj s.a 1 k s.cap,s.len-k,s.cap-k⟩,rfl,bI.ab ht hc (λq c e=>by subst e;omega),⟨ei m _,p.ab hc λq c=>u q c,by show s.len-k<=s.cap-k;omega,u⟩,(aa.da j).trans hc,λq c=>?_⟩⟩;obtain⟨A,ak,d⟩:=xG c;exact⟨A,ak,d⟩
theorem zG{s:U}{rd:Rd}(h:kf w r s rd)(k:Nat)(c:1<=k/\k<=2)(g:rd.1.length<=100000):
 aI aj 252 #[.pointer (some r),k] w (λv w'=>∃b:U,v=.int .i64 ((rdNum rd k).1:Nat)/\kf w' r b (rdNum rd k).2/\aa (λq=>q=r) w w'/\(∀q,ar b q->ar s q)):=by
 refine okF (ad.xa (some r) (k:Int)) ay.xa func252 ?_;(delta ad.xa bU qX ai;dsimp only);refine(C3 h k I g).use ?_;rintro _ w1 ⟨t,b,rfl,ht,d,hc,e⟩;have hlen:(iL rd k).1.length=k\/(iL rd k).1=[]:=by
  unfold iL;split
  .exact .inr rfl
  .rename_i i
   left;rw[cQ];have:¬rd.1.length<k:=λh=>i (.inr h);omega
 have f:=nu k (iL rd k).1;have j:256^k<=65536:=fg (sE I c.2) (by decide);refine⟨t,rfl,?_⟩;obtain hlen|hlen:=hlen
 .refine(l1 (a:=0) (k:=k) ht.1 ht.2.1 ⟨c.1,I⟩ I I).use ?_
  rintro _ _ ⟨rfl,rfl⟩;have f:=f hlen;rw[mn,eZ I];refine⟨_,_,rfl,b,?_,d,hc,e⟩;rw[bl I I];unfold rdNum;rw[if_pos hlen]
 .refine(H2 (k:=k) ht.1 I (by rw[hlen];simp;omega)).use ?_
  rintro _ _ ⟨rfl,rfl⟩;refine⟨_,_,rfl,b,?_,d,hc,e⟩;unfold rdNum;rw[if_neg (by rw[hlen];simp;omega)];rfl
theorem zH(rd:Rd)(k:Nat):(rdNum rd k).1<256^k:=by
 unfold rdNum;split
 .exact nu k _ (by assumption)
 .exact Nat.pow_pos I
theorem C4(rd:Rd)(k:Nat):(iL rd k).2.1.length<=rd.1.length/\(iL rd k).1.length<=k:=by
 unfold iL;split
 .exact⟨a_ _,cw _⟩
 .exact⟨by rw[dW];omega,by rw[cQ];omega⟩
theorem xH(rd:Rd)(k:Nat):(rdNum rd k).2.1.length<=rd.1.length:=(C4 rd k).1
theorem C5(rd:Rd):(kB rd).2.1.length<=rd.1.length/\(kB rd).1.length<=255:=by
 unfold kB;have h1:=C4 (rdNum rd 1).2 (rdNum rd 1).1;have a:=xH rd 1;have b:(rdNum rd 1).1<256:=zH rd 1;exact⟨I,I⟩
theorem C6{s:U}{rd:Rd}(h:kf w r s rd)(d:rd.1.length<=100000):
 aI aj 253 #[.pointer (some r)] w (λv w'=>∃t b:U,v=t/\bI (λq=>w<=q) w' t (kB rd).1/\kf w' r b (kB rd).2/\aa (λq=>q=r) w w'/\(∀q,ar b q->ar s q)):=by
 refine okF (ad.xb (some r)) ay.xb func253 ?_;(delta ad.xb b5 bU;dsimp only);refine(zG h 1 I d).use ?_;rintro _ w1 ⟨s1,rfl,e,c,f⟩;have k:(rdNum rd 1).1<256:=zH rd 1;have l:=xH rd 1;refine⟨_,rfl,(C3 e (rdNum rd 1).1 I I).use ?_⟩;rintro _ ah ⟨t,s2,rfl,ht,g,i,j⟩;exact⟨t,rfl,t,s2,rfl,bI.bh ht λq _ a=>fg c.size a,g,c.trans i,λq a=>f q (j q a)⟩
theorem bq.bh{C:U1}{s:U}(h:bq B w s ls)(a:∀k,k<w.heap.size->B k->C k):bq C w s ls:=by
 obtain⟨ts,h1,e,f,b⟩:=h;exact⟨ts,h1,e,In.bh f a,λi c d=>⟨bI.bh (b i c d).1 a,(b i c d).2⟩⟩
theorem cM.bh{C:U1}{s:U}(h:cM B w s ds)(a:∀k,k<w.heap.size->B k->C k):cM C w s ds:=⟨h.1,In.bh h.2 a⟩
def Grow(B:U1)(w w':J)(q:Nat):Prop:=B q\/(w<=q/\q<w')
theorem rS{S t:U}{l:Key}(d:Var w nb vs T)(p:o<vs.length)(f:bq B w S ls)(g:¬B nb)
 (ht:bI B w t l) (hd:∀k,ar t k->¬ar S k) (E:ls.length<=100000) 
 (r:∀ (w':J) (aP:U),Var w' nb (vs.set o aP) T->bq (Grow B w w') w' aP (ls++ [l])->aa (λq=>q=nb\/ar S q) w w'->K w'):
 au (w.alloc (.cells #[t] 39)) λi=>aa W w i/\∃j:U,∃b:J,Sem.run aj (Builtin.append_ #[93,93] 93 #[S,.slice (some w) 1 1]) i=.ok j b/\
  (∃u:Y,b.cell? (Addr.add nb o)=some u)/\b.frozen? (Addr.add nb o)=false/\au (b.setCell (Addr.add nb o) j) λs=>K s:=by
 have v:=bq.bh (C:=λq=>B q\/w<=q) f λk _ h=>.inl h;have x:=bI.bh (C:=λq=>B q\/w<=q) ht λk _ h=>.inl h;obtain⟨c,w',ao,y,m,F⟩:=xD v x hd I λk a=>.inr a;have G:=d.lt;have z:¬ar S nb:=λh=>by
  obtain⟨ts,_,_,A,_⟩:=f;exact g (A nb h).1
 have n:=d.ab m z;obtain⟨aR,a7⟩:=dT n p;refine aH ⟨aa.da (dc _ _),c,w',ao,?_⟩;rw[aw,cT];have hc:=dz w' nb o c;refine⟨aR,a7,aH (r _ c (ei n _) ?_ ?_)⟩
 .have D:=bq.bh (C:=Grow B w (w'.setCell ⟨nb,o,none⟩ c)) y λk a h=>by
   obtain h|h:=h
   .exact .inl h
   .exact .inr ⟨h,ga a hc.size⟩
  refine bq.ab D hc λk a e=>?_;subst e;obtain h|h:=a
  .exact g h
  .omega
 .exact(m.mono λk _ h=>.inr h).trans (hc.mono λk _ h=>.inl h)
theorem zI{S:U}(d:Nat)(f:Var w nb vs T)(p:o<vs.length)(g:cM B w S ds)(i:¬B nb)
 (z:ds.length<=100000) 
 (r:∀ (w':J) (aP:U),Var w' nb (vs.set o aP) T->cM (Grow B w w') w' aP (ds++ [d])->aa (λq=>q=nb\/ar S q) w w'->K w'):
 au (w.alloc (.cells #[d] 3)) λj=>aa W w j/\∃l:U,∃b:J,Sem.run aj (Builtin.append_ #[72,72] 72 #[S,.slice (some w) 1 1]) j=.ok l b/\
  (∃u:Y,b.cell? (Addr.add nb o)=some u)/\b.frozen? (Addr.add nb o)=false/\au (b.setCell (Addr.add nb o) l) λs=>K s:=by
 have t:=cM.bh (C:=λq=>B q\/w<=q) g λk _ h=>.inl h;obtain⟨c,w',ao,v,m,A⟩:=H_ d t I λk a=>.inr a;have D:=f.lt;have x:¬ar S nb:=λh=>i (g.2 nb h).1;have n:=f.ab m x;obtain⟨aR,a7⟩:=dT n p;refine aH ⟨aa.da (dc _ _),c,w',ao,?_⟩;rw[aw,cT];have hc:=dz w' nb o c;refine⟨aR,a7,aH (r _ c (ei n _) ?_ ?_)⟩
 .have y:=cM.bh (C:=Grow B w (w'.setCell ⟨nb,o,none⟩ c)) v λk a h=>by
   obtain h|h:=h
   .exact .inl h
   .exact .inr ⟨h,ga a hc.size⟩
  refine cM.ab y hc λk a e=>?_;subst e;obtain h|h:=a
  .exact i h
  .omega
 .exact(m.mono λk _ h=>.inr h).trans (hc.mono λk _ h=>.inl h)
structure kY(lo:Nat)(w:J)(r nb:Nat)(s:U)(m:aA×Rd)(K V D:U)(bw bD br:U1):Prop where
 v:Var w nb [m.1.leaf,K,V,D] 169
 rd:kf w r s m.2
 keys:bq bw w K m.1.keys
 vals:bq bD w V m.1.vals
 kids:cM br w D m.1.kids
 bW:∀q,bw q->lo<=q/\q<w/\¬bD q/\¬br q
 bv:∀q,bD q->lo<=q/\q<w/\¬br q
 aO:∀q,br q->lo<=q/\q<w
 hs:∀q,ar s q->q<lo/\q≠nb
 pW:r<lo
 kZ:nb<lo
 k0:r≠nb
 pX:m.2.1.length<=100000
def pY(lo r nb:Nat)(q:Nat):Prop:=q=r\/q=nb\/lo<=q
theorem kY.drew{s:U}{m:aA×Rd}{K V D:U}(h:kY lo w r nb s m K V D bw bD br):kY lo w.drew r nb s m K V D bw bD br:=
 ⟨h.v.ext (cc w),h.rd.ext (cc w),bq.ext h.keys (cc w),bq.ext h.vals (cc w),cM.ext h.kids (cc w),h.bW,h.bv,h.aO,h.hs,h.pW,h.kZ,h.k0,h.pX⟩
theorem C7:∀ (s:aA×Rd) (i:Nat),s.1.leaf=leaf->(jg s i).1.leaf=leaf
 |_,0,h=>h
 |s,i+1,h=>by
  have a:=C7 s i h
  rw[jg]
  unfold pU
  split
  .exact a
  .exact a
theorem C8:∀ (s:aA×Rd) (i:Nat),(jg s i).1.keys.length=s.1.keys.length+i/\(jg s i).1.vals.length<=s.1.vals.length+i/\(jg s i).1.kids.length<=s.1.kids.length+i
 |_,0=>⟨rfl,a_ _,a_ _⟩
 |s,i+1=>by
  obtain⟨h1,a,b⟩:=C8 s i
  rw[jg]
  unfold pU
  split<;>simp<;>omega
theorem Ig{s:U}{m:aA×Rd}{K V D:U}(h:kY lo w r nb s m K V D bw bD br)(ag:lo<=w)(H:m.1.keys.length<=100000)
 (L:∀ (w':J) (l n:U) (M:U1),kY lo w' r nb n (⟨m.1.leaf,m.1.keys++ [(kB m.2).1],m.1.vals,m.1.kids⟩,(kB m.2).2) l V D M bD br->aa (pY lo r nb) w w'->lo<=w'->R w'):
 au w.drew λp=>∃x:U1,¬x (Addr.add nb 1).block/\∃i:U,p.cell? (Addr.add nb 1)=some (.slice i.a i.len i.cap)/\
  Calls aj 253 #[.pointer (some r)] p λN d=>∃E:U,N=.returned E/\aa x p d/\
  au (d.alloc (.cells #[E] 39)) λF=>aa x d F/\∃G:U,∃j:J,Sem.run aj (Builtin.append_ #[93,93] 93 #[i,.slice (some d) 1 1]) F=.ok G j/\
  (∃u:Y,j.cell? (Addr.add nb 1)=some u)/\j.frozen? (Addr.add nb 1)=false/\au (j.setCell (Addr.add nb 1) G) λO=>R O:=by
 have hd:=h.drew;have ah:=h.pW;have ai:=h.kZ;obtain⟨bM,aR,a7,bx⟩:=bS hd.v;refine aH ⟨λq=>q=r,λe=>h.k0 (by rw[aw]at e;exact e.symm),K,aR,(C6 hd.rd hd.pX).use ?_⟩;rintro _ d ⟨t,n,rfl,ht,P,hc,y⟩;have ak:w.drew.heap.size=w:=rfl;have Q:=hc.size;have z:∀ {B:U1},(∀q,B q->lo<=q)->∀k,B k->¬(k=r):=λS k c e=>U4 (S k c)
 have T:=bq.ab hd.keys hc (z λq b=>(h.bW q b).1);have W:=bq.ab hd.vals hc (z λq b=>(h.bv q b).1);have X:=cM.ab hd.kids hc (z λq b=>(h.aO q b).1);have Z:=hd.v.ab hc (λe=>h.k0 e.symm);refine⟨t,rfl,hc,rS (B:=Grow bw w.drew d) Z (o:=1) U9 (bq.bh T λk _ h=>.inl h) ?_ (bI.bh ht λk c h=>.inr ⟨h,c⟩) ?_ H λw' l ao ac f=>?_⟩
 .rintro(h1|h1)
  .have:=(h.bW nb h1).1;omega
  .omega
 .intro k ad ae
  obtain⟨ts,_,_,A,_⟩:=h.keys;have:=(A k ae).2;have:=(ht.2.2 k ad).1;omega
 have af:∀q,Grow (Grow bw w.drew d) d w' q->bw q\/(w<=q/\q<w'):=by
  rintro q ((h1|h1)|h1)
  .exact .inl h1
  .exact .inr ⟨h1.1,ga h1.2 f.size⟩
  .exact .inr ⟨fg Q h1.1,h1.2⟩
 have hg:=f.size;have g:∀q,ar K q->bw q:=λq b=>by
  obtain⟨ts,_,_,A,_⟩:=h.keys;exact(A q b).1
 refine L w' l n (λq=>bw q\/(w<=q/\q<w')) ⟨by simpa using ao,P.ab f ?_ ?_,bq.bh ac λk _ c=>af k c,bq.ab W f ?_,cM.ab X f ?_,?_,λq b=>?_,λq b=>?_,λq b=>h.hs q (y q b),h.pW,h.kZ,h.k0,fg (C5 m.2).1 h.pX⟩ ?_ I
 .rintro(h1|h1)
  .exact h.k0 h1
  .have:=(h.bW r (g r h1)).1;omega
 .rintro q b (h1|h1)
  .exact(h.hs q (y q b)).2 h1
  .have:=(h.bW q (g q h1)).1
   have:=(h.hs q (y q b)).1;omega
 .rintro q b (h1|h1)
  .have:=(h.bv q b).1;omega
  .exact(h.bW q (g q h1)).2.2.1 b
 .rintro q b (h1|h1)
  .have:=(h.aO q b).1;omega
  .exact(h.bW q (g q h1)).2.2.2 b
 .rintro q (h1|h1)
  .have:=h.bW q h1;exact⟨this.1,I,this.2.2⟩
  .exact⟨I,h1.2,λC=>U4 (h.bv q C),λC=>U4 (h.aO q C)⟩
 .have:=h.bv q b;exact⟨this.1,I,this.2.2⟩
 .have:=h.aO q b;exact⟨this.1,I⟩
 .refine((aa.da (cc w)).trans (hc.mono λk _ c=>.inl c)).trans (f.mono λk _ c=>?_)
  obtain c|c:=c
  .exact .inr (.inl c)
  .exact .inr (.inr (h.bW k (g k c)).1)
theorem Ih{s:U}{m:aA×Rd}{K V D:U}(h:kY lo w r nb s m K V D bw bD br)(ag:lo<=w)(G:m.1.vals.length<=100000)
 (H:∀ (w':J) (l n:U) (L:U1),kY lo w' r nb n (⟨m.1.leaf,m.1.keys,m.1.vals++ [(kB m.2).1],m.1.kids⟩,(kB m.2).2) K l D bw L br->aa (pY lo r nb) w w'->lo<=w'->R w'):
 au w.drew λp=>∃x:U1,¬x (Addr.add nb 2).block/\∃i:U,p.cell? (Addr.add nb 2)=some (.slice i.a i.len i.cap)/\
  Calls aj 253 #[.pointer (some r)] p λM d=>∃C:U,M=.returned C/\aa x p d/\
  au (d.alloc (.cells #[C] 39)) λE=>aa x d E/\∃F:U,∃j:J,Sem.run aj (Builtin.append_ #[93,93] 93 #[i,.slice (some d) 1 1]) E=.ok F j/\
  (∃u:Y,j.cell? (Addr.add nb 2)=some u)/\j.frozen? (Addr.add nb 2)=false/\au (j.setCell (Addr.add nb 2) F) λN=>R N:=by
 have hd:=h.drew;have ah:=h.pW;have ai:=h.kZ;obtain⟨bM,aR,a7,bx⟩:=bS hd.v;refine aH ⟨λq=>q=r,λe=>h.k0 (by rw[aw]at e;exact e.symm),V,a7,(C6 hd.rd hd.pX).use ?_⟩;rintro _ d ⟨t,n,rfl,ht,O,hc,y⟩;have ak:w.drew.heap.size=w:=rfl;have P:=hc.size;have z:∀ {B:U1},(∀q,B q->lo<=q)->∀k,B k->¬(k=r):=λQ k c e=>U4 (Q k c)
 have S:=bq.ab hd.keys hc (z λq b=>(h.bW q b).1);have T:=bq.ab hd.vals hc (z λq b=>(h.bv q b).1);have W:=cM.ab hd.kids hc (z λq b=>(h.aO q b).1);have X:=hd.v.ab hc (λe=>h.k0 e.symm);refine⟨t,rfl,hc,rS (B:=Grow bD w.drew d) X (o:=2) U9 (bq.bh T λk _ h=>.inl h) ?_ (bI.bh ht λk c h=>.inr ⟨h,c⟩) ?_ G λw' l ao Z f=>?_⟩
 .rintro(h1|h1)
  .have:=(h.bv nb h1).1;omega
  .omega
 .intro k ac ad
  obtain⟨ts,_,_,A,_⟩:=h.vals;have:=(A k ad).2;have:=(ht.2.2 k ac).1;omega
 have ae:∀q,Grow (Grow bD w.drew d) d w' q->bD q\/(w<=q/\q<w'):=by
  rintro q ((h1|h1)|h1)
  .exact .inl h1
  .exact .inr ⟨h1.1,ga h1.2 f.size⟩
  .exact .inr ⟨fg P h1.1,h1.2⟩
 have hg:=f.size;have g:∀q,ar V q->bD q:=λq b=>by
  obtain⟨ts,_,_,A,_⟩:=h.vals;exact(A q b).1
 refine H w' l n (λq=>bD q\/(w<=q/\q<w')) ⟨by simpa using ao,O.ab f ?_ ?_,bq.ab S f ?_,bq.bh Z λk _ c=>ae k c,cM.ab W f ?_,λq b=>?_,?_,λq b=>?_,λq b=>h.hs q (y q b),h.pW,h.kZ,h.k0,fg (C5 m.2).1 h.pX⟩ ?_ I
 .rintro(h1|h1)
  .exact h.k0 h1
  .have:=(h.bv r (g r h1)).1;omega
 .rintro q b (h1|h1)
  .exact(h.hs q (y q b)).2 h1
  .have:=(h.bv q (g q h1)).1
   have:=(h.hs q (y q b)).1;omega
 .rintro q b (h1|h1)
  .have:=(h.bW q b).1;omega
  .exact(h.bW q b).2.2.1 (g q h1)
 .rintro q b (h1|h1)
  .have:=(h.aO q b).1;omega
  .exact(h.bv q (g q h1)).2.2 b
 .have:=h.bW q b
  refine⟨this.1,I,?_,this.2.2.2⟩;rintro(h1|h1)
  .exact this.2.2.1 h1
  .omega
 .rintro q (h1|h1)
  .have:=h.bv q h1;exact⟨this.1,I,this.2.2⟩
  .exact⟨I,h1.2,λaf=>U4 (h.aO q af)⟩
 .have:=h.aO q b;exact⟨this.1,I⟩
 .refine((aa.da (cc w)).trans (hc.mono λk _ c=>.inl c)).trans (f.mono λk _ c=>?_)
  obtain c|c:=c
  .exact .inr (.inl c)
  .exact .inr (.inr (h.bv k (g k c)).1)
theorem C9{s:U}{m:aA×Rd}{K V D:U}(h:kY lo w r nb s m K V D bw bD br)(W:lo<=w)(A:m.1.kids.length<=100000)
 (C:∀ (w':J) (az l:U) (E:U1),kY lo w' r nb l (⟨m.1.leaf,m.1.keys,m.1.vals,m.1.kids++ [(rdNum m.2 2).1]⟩,(rdNum m.2 2).2) K V az bw bD E->aa (pY lo r nb) w w'->lo<=w'->R w'):
 au w.drew λn=>∃p:U1,¬p (Addr.add nb 3).block/\∃i:U,n.cell? (Addr.add nb 3)=some (.slice i.a i.len i.cap)/\
  Calls aj 252 #[.pointer (some r),(2:Int)] n λF d=>∃n30:Int,F=.returned n30/\aa p n d/\
  au (d.alloc (.cells #[n30] 3)) λy=>aa p d y/\∃z:U,∃j:J,Sem.run aj (Builtin.append_ #[72,72] 72 #[i,.slice (some d) 1 1]) y=.ok z j/\
  (∃u:Y,j.cell? (Addr.add nb 3)=some u)/\j.frozen? (Addr.add nb 3)=false/\au (j.setCell (Addr.add nb 3) z) λG=>R G:=by
 have hd:=h.drew;have X:=h.pW;have Z:=h.kZ;obtain⟨bM,aR,a7,bx⟩:=bS hd.v;refine aH ⟨λq=>q=r,λe=>h.k0 (by rw[aw]at e;exact e.symm),D,bx,(zG hd.rd 2 (by decide) hd.pX).use ?_⟩;rintro _ d ⟨l,rfl,H,hc,t⟩;have ac:w.drew.heap.size=w:=rfl;have L:=hc.size;have x:∀ {B:U1},(∀q,B q->lo<=q)->∀k,B k->¬(k=r):=λM k c e=>U4 (M k c)
 have N:=bq.ab hd.keys hc (x λq b=>(h.bW q b).1);have O:=bq.ab hd.vals hc (x λq b=>(h.bv q b).1);have P:=cM.ab hd.kids hc (x λq b=>(h.aO q b).1);have Q:=hd.v.ab hc (λe=>h.k0 e.symm);refine⟨_,rfl,hc,zI (rdNum m.2 2).1 (B:=br) Q (o:=3) U9 P (λh1=>U4 ((h.aO nb h1).1)) A λw' az ao S f=>?_⟩;have T:∀q,Grow br d w' q->br q\/(w<=q/\q<w'):=by
  rintro q (h1|h1)
  .exact .inl h1
  .exact .inr ⟨fg L h1.1,h1.2⟩
 have hg:=f.size;have g:∀q,ar D q->br q:=λq b=>(h.kids.2 q b).1;refine C w' az l (λq=>br q\/(w<=q/\q<w')) ⟨by simpa using ao,H.ab f ?_ ?_,bq.ab N f ?_,bq.ab O f ?_,cM.bh S λk _ c=>T k c,λq b=>?_,λq b=>?_,?_,λq b=>h.hs q (t q b),h.pW,h.kZ,h.k0,fg (xH m.2 2) h.pX⟩ ?_ I
 .rintro(h1|h1)
  .exact h.k0 h1
  .have:=(h.aO r (g r h1)).1;omega
 .rintro q b (h1|h1)
  .exact(h.hs q (t q b)).2 h1
  .have:=(h.aO q (g q h1)).1
   have:=(h.hs q (t q b)).1;omega
 .rintro q b (h1|h1)
  .have:=(h.bW q b).1;omega
  .exact(h.bW q b).2.2.2 (g q h1)
 .rintro q b (h1|h1)
  .have:=(h.bv q b).1;omega
  .exact(h.bv q b).2.2 (g q h1)
 .have:=h.bW q b
  refine⟨this.1,I,this.2.2.1,?_⟩;rintro(h1|h1)
  .exact this.2.2.2 h1
  .omega
 .have:=h.bv q b
  refine⟨this.1,I,?_⟩;rintro(h1|h1)
  .exact this.2.2 h1
  .omega
 .rintro q (h1|h1)
  .have:=h.aO q h1;exact⟨this.1,I⟩
  .exact⟨I,h1.2⟩
 .refine((aa.da (cc w)).trans (hc.mono λk _ c=>.inl c)).trans (f.mono λk _ c=>?_)
  obtain c|c:=c
  .exact .inr (.inl c)
  .exact .inr (.inr (h.aO k (g k c)).1)
end Go.Proofs.YtcmgnhkpfllinaaGreat
