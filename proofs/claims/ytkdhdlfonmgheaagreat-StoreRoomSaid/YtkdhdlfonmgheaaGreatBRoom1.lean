/- Contracts of the functions that the statement reaches, and the plain laws over them; each theorem stands with its conditions. -/
import Derived.Laws.Externs
import Derived.Laws.Small
import Derived.Lib.Builder
import Derived.Lib.Bytealg
import Derived.Lib.ConvBytes
import Derived.Lib.MakeNoZero
import Derived.Lib.SlBytesConst
import Derived.Lib.UnsafeStr
import Derived.Test.YtkdhdlfonmgheaaGreatVRoom2
namespace Go.Proofs.YtkdhdlfonmgheaaGreat
abbrev Key:=O UInt8
abbrev aR:=Key×Key
def eO:Key->Key->Int
 | [],[]=>0
 | [],_::_=> -1
 |_::_,[]=>1
 |a::x,b::y=>if a.toNat<b.toNat then -1 else if b.toNat<a.toNat then 1 else eO x y
theorem CG{a b:UInt8}(h1:¬a.toNat<b.toNat)(h2:¬b.toNat<a.toNat):a=b:=UInt8.toNat_inj.1 I
theorem vu:∀a:Key,eO a a=0
 | []=>rfl
 |a::x=>by simp[eO,vu x]
theorem vv:∀ {a b:Key},eO a b=0->a=b
 | [],[],_=>rfl
 | [],_::_,h=>by simp[eO]at h
 |_::_,[],h=>by simp[eO]at h
 |a::x,b::y,h=>by
  unfold eO at h
  split at h
  .cases h
  .rename_i h1
   split at h
   .cases h
   .rename_i h2
    rw[CG h1 h2,vv h]
theorem CH{a b:Key}:eO a b=0↔a=b:=⟨vv,λh=>h▸vu _⟩
theorem yJ:∀a b:Key,eO a b= -1\/eO a b=0\/eO a b=1
 | [],[]=>.inr (.inl rfl)
 | [],_::_=>.inl rfl
 |_::_,[]=>.inr (.inr rfl)
 |a::x,b::y=>by
  unfold eO
  split
  .exact .inl rfl
  .split
   .exact .inr (.inr rfl)
   .exact yJ x y
theorem yK:∀a b:Key,eO b a=-eO a b
 | [],[]=>rfl
 | [],_::_=>rfl
 |_::_,[]=>rfl
 |a::x,b::y=>by
  unfold eO
  by_cases h1:a.toNat<b.toNat
  .have h2:¬b.toNat<a.toNat:=by omega
   simp[h1,h2]
  .by_cases h2:b.toNat<a.toNat
   .simp[h1,h2]
   .simp only[h1,h2,if_false]
    exact yK x y
theorem yL:∀ {a b c:Key},eO a b<0->eO b c<0->eO a c<0
 | [],[],_,h,_=>by simp[eO]at h
 | [],_::_,[],_,h=>by simp[eO]at h
 | [],_::_,_::_,_,_=>by simp[eO]
 |_::_,[],_,h,_=>by simp[eO]at h
 |_::_,_::_,[],_,h=>by simp[eO]at h
 |a::x,b::y,c::z,h1,h2=>by
  unfold eO at h1 h2⊢
  by_cases a1:a.toNat<b.toNat
  .by_cases a2:b.toNat<c.toNat
   .rw[if_pos I];decide
   .rw[if_neg a2]at h2
    by_cases a3:c.toNat<b.toNat
    .rw[if_pos a3]at h2;omega
    .rw[if_pos I];decide
  .rw[if_neg a1]at h1
   by_cases a2:b.toNat<a.toNat
   .rw[if_pos a2]at h1;omega
   .rw[if_neg a2]at h1
    by_cases a3:b.toNat<c.toNat
    .rw[if_pos I];decide
    .rw[if_neg a3]at h2
     by_cases a4:c.toNat<b.toNat
     .rw[if_pos a4]at h2;omega
     .rw[if_neg a4]at h2
      rw[if_neg I,if_neg I]
      exact yL h1 h2
def bX(a b:Key):Prop:=eO a b<0
def gb(a b:Key):Prop:=¬eO b a<0
instance (a b:Key):Decidable (bX a b):=by unfold bX;infer_instance
instance (a b:Key):Decidable (gb a b):=by unfold gb;infer_instance
theorem k6{a b c:Key}(h1:bX a b)(h2:bX b c):bX a c:=yL h1 h2
theorem mY(a:Key):¬bX a a:=by unfold bX;rw[vu];decide
theorem j1{a b:Key}(h:bX a b):¬bX b a:=λh2=>mY a (k6 h h2)
theorem vw(a b:Key):bX a b\/a=b\/bX b a:=by
 unfold bX;have h:=yK a b;rcases yJ a b with h1|h1|h1
 .exact .inl I
 .exact .inr (.inl (vv h1))
 .exact .inr (.inr I)
theorem mZ{a b:Key}:gb a b↔bX a b\/a=b:=by
 constructor
 .intro h
  rcases vw a b with h1|h1|h1
  .exact .inl h1
  .exact .inr h1
  .exact absurd h1 h
 .rintro(h|rfl)
  .exact j1 h
  .exact mY _
theorem CI(a:Key):gb a a:=mY a
theorem hZ{a b:Key}(h:bX a b):gb a b:=mZ.2 (.inl h)
theorem yM{a b:Key}:¬bX a b↔gb b a:=Iff.rfl
theorem m0{a b c:Key}(h1:bX a b)(h2:gb b c):bX a c:=by
 rcases mZ.1 h2 with h|rfl
 .exact k6 h1 h
 .exact h1
theorem jA{a b c:Key}(h1:gb a b)(h2:bX b c):bX a c:=by
 rcases mZ.1 h1 with h|rfl
 .exact k6 h h2
 .exact h2
theorem yN{a b c:Key}(h1:gb a b)(h2:gb b c):gb a c:=by
 rcases mZ.1 h1 with h|rfl
 .exact hZ (m0 h h2)
 .exact h2
def h3(l:O aR):Prop:=l.Pairwise λa b=>bX a.1 b.1
def gd(l:O aR)(k v:Key):O aR:=(l.filter λp=>decide (bX p.1 k))++(k,v)::l.filter λp=>decide (bX k p.1)
def eA(l:O aR)(k:Key):O aR:=l.filter λp=>decide (p.1≠k)
def eV(l:O aR)(k:Key):aq Key:=(l.find? λp=>decide (p.1=k)).map (·.2)
def e4(lo hi:aq Key)(k:Key):Prop:=(∀a,lo=some a->gb a k)/\(∀b,hi=some b->bX k b)
theorem CJ{a b:O aR}{k v:Key}(h:∀p∈b,bX k p.1):gd (a++b) k v=gd a k v++b:=by
 have d:b.filter (λp=>decide (bX p.1 k))=[]:=pk.2 λp c=>by simpa using j1 (h p c)
 have e:b.filter (λp=>decide (bX k p.1))=b:=kO.2 λp c=>dL (h p c);unfold gd;rw[kj,kj,d,e,gi,cV,qT]
theorem CK{a b:O aR}{k v:Key}(h:∀p∈a,bX p.1 k):gd (a++b) k v=a++gd b k v:=by
 have d:a.filter (λp=>decide (bX p.1 k))=a:=kO.2 λp c=>dL (h p c);have e:a.filter (λp=>decide (bX k p.1))=[]:=pk.2 λp c=>by simpa using j1 (h p c)
 unfold gd;rw[kj,kj,d,e,ki,cV]
theorem qm(a b:O aR)(k:Key):eA (a++b) k=eA a k++eA b k:=kj ..
theorem qn{a:O aR}{k:Key}(h:∀p∈a,p.1≠k):eA a k=a:=kO.2 λp b=>dL (h p b)
theorem lY{a b:Key}(h:bX a b):a≠b:=λe=>mY b (e▸h)
theorem CL{a b:O aR}:h3 (a++b)↔h3 a/\h3 b/\∀p∈a,∀q∈b,bX p.1 q.1:=lE
theorem yO{l:O aR}{k v:Key}{p:aR}:p∈gd l k v↔p=(k,v)\/(p∈l/\p.1≠k):=by
 unfold gd;rw[cH,cP,gI,gI,cR,cR];constructor
 .rintro(⟨h,h2⟩|rfl|⟨h,h2⟩)
  .exact .inr ⟨h,lY h2⟩
  .exact .inl rfl
  .exact .inr ⟨h,(lY h2).symm⟩
 .rintro(rfl|⟨h,h2⟩)
  .exact .inr (.inl rfl)
  .rcases vw p.1 k with a|a|a
   .exact .inl ⟨h,a⟩
   .exact absurd a h2
   .exact .inr (.inr ⟨h,a⟩)
end Go.Proofs.YtkdhdlfonmgheaaGreat
namespace Go.Proofs.YtkdhdlfonmgheaaGreat
structure aA where
 leaf:ai
 keys:O Key
 vals:O Key
 kids:O Nat
 deriving DecidableEq
abbrev Below:=aq Key->aq Key->Nat->O Nat->O aR->Prop
inductive dH (W:Below):aq Key->aq Key->O Key->O Nat->O Nat->O aR->Prop
 |one {lo hi:aq Key}{k:Nat}{p:O Nat}{L:O aR} (h:W lo hi k p L):dH W lo hi [] [k] p L
 |cons {lo hi:aq Key}{s:Key}{k:Nat}{bB bx:O Nat}{bq bM:O aR}{ks:O Key}{kids:O Nat} (h:W lo (some s) k bB bq) (t:dH W (some s) hi ks kids bx bM):
  dH W lo hi (s::ks) (k::kids) (bB++bx) (bq++bM)
variable {W:Below}{lo hi:aq Key}
theorem dH.len{ks:O Key}{kids p:O Nat}{L:O aR}(h:dH W lo hi ks kids p L):kids.length=ks.length+1:=by
 induction h with
 |one _=>rfl
 |cons _ _ a=>simp[a]
theorem dH.app{s:Key}{hC jB:O Key}{h4 ky bB bx:O Nat}{bq bM:O aR}(h1:dH W lo (some s) hC h4 bB bq)(h2:dH W (some s) hi jB ky bx bM):
 dH W lo hi (hC++s::jB) (h4++ky) (bB++bx) (bq++bM):=by
 generalize a:some s=m at h1
 induction h1 with
 |one h=>subst a;exact .cons h h2
 |cons h t b=>
  rw[cV,cV];exact .cons h (b a)
theorem dH.cut:∀ {hC:O Key}{s:Key}{jB:O Key}{lo:aq Key}{kids p:O Nat}{L:O aR},dH W lo hi (hC++s::jB) kids p L->
 ∃ (h4 ky bB bx:O Nat) (bq bM:O aR),kids=h4++ky/\p=bB++bx/\L=bq++bM/\dH W lo (some s) hC h4 bB bq/\dH W (some s) hi jB ky bx bM
 | [],s,jB,lo,kids,p,L,h=>by
  cases h with
  |cons h t=>exact⟨_,_,_,_,_,_,rfl,rfl,rfl,.one h,t⟩
 |a::hC,s,jB,lo,kids,p,L,h=>by
  cases h with
  |cons h t=>
   obtain⟨bN,bZ,bB,bx,bq,bM,rfl,rfl,rfl,h1,h2⟩:=dH.cut t
   exact⟨_::bN,bZ,_++bB,bx,_++bq,bM,rfl,by rw[cV],by rw[cV],.cons h h1,h2⟩
theorem dH.mono{V:Below}{ks:O Key}{kids p:O Nat}{L:O aR}(h:dH W lo hi ks kids p L)(a:∀lo hi k p L,(∀x∈p,x∈p)->W lo hi k p L->V lo hi k p L):dH V lo hi ks kids p L:=by
 induction h with
 |one h=>exact .one (a _ _ _ _ _ (λ_ h=>h) h)
 |cons h _ b=>exact .cons (a _ _ _ _ _ (λ_ h=>h) h) b
theorem dH.kz{V:Below}{ks:O Key}{kids p:O Nat}{L:O aR}(h:dH W lo hi ks kids p L)(b:∀lo hi k a L,(∀x∈a,x∈p)->W lo hi k a L->V lo hi k a L):dH V lo hi ks kids p L:=by
 induction h with
 |one h=>exact .one (b _ _ _ _ _ (λ_ h=>h) h)
 |cons h _ c=>
  exact .cons (b _ _ _ _ _ (λx hx=>iD _ hx) h) (c λlo hi k a L hs=>b lo hi k a L λx hx=>gV _ (hs x hx))
def cD(k:Key):Prop:=1<=k.length/\k.length<=24
structure tv(n:aA):Prop where
 ok:∀k∈n.keys,cD k
 e_:n.keys.Pairwise bX
structure gw(n:aA):Prop extends tv n where
 leaf:n.leaf=true
 len:n.vals.length=n.keys.length
 kids:n.kids=[]
 vals:∀v∈n.vals,v.length<=24
structure vx(n:aA):Prop extends tv n where
 inner:n.leaf=false
 some:n.keys≠ []
 len:n.kids.length=n.keys.length+1
 vals:n.vals=[]
 kids:∀k∈n.kids,k<1600
def aA.e5(n:aA):O aR:=n.keys.zip n.vals
def aA.within(n:aA)(lo hi:aq Key):Prop:=∀k∈n.keys,e4 lo hi k
def en(P:Nat->aq aA):Nat->Below
 |0=> λ_ _ _ _ _=>False
 |1=> λlo hi no p L=>∃n,P no=some n/\gw n/\n.within lo hi/\n.keys≠ []/\p=[no]/\L=n.e5
 |h+2=> λlo hi no p L=>∃n a,P no=some n/\vx n/\n.within lo hi/\p=no::a/\
  dH (λlo hi k p L=>en P (h+1) lo hi k p L/\∃m,P k=some m/\2<=m.keys.length) lo hi n.keys n.kids a L
theorem en.agree{P Q:Nat->aq aA}:∀ {h:Nat}{lo hi:aq Key}{no:Nat}{p:O Nat}{L:O aR},en P h lo hi no p L->(∀x∈p,P x=Q x)->en Q h lo hi no p L/\no∈p
 |0,_,_,_,_,_,d,_=>d.elim
 |1,_,_,no,_,_,⟨n,h1,h2,e,f,b,g⟩,a=>by
  have c:no∈ [no]:=by simp
  rw[b]
  exact⟨⟨n,by rw[←a no (by rw[b];exact c)];exact h1,h2,e,f,rfl,g⟩,c⟩
 |h+2,_,_,no,_,_,⟨n,i,h1,h2,e,f,b⟩,a=>by
  subst f
  refine⟨⟨n,i,by rw[←a no (by simp)];exact h1,h2,e,rfl,b.kz λlo hi k q L hs ⟨d,m,c,h2⟩=>?_⟩,by simp⟩
  have:=en.agree d λx hx=>a x (iV _ (hs x hx))
  exact⟨this.1,m,by rw[←a k (iV _ (hs k this.2))];exact c,h2⟩
end Go.Proofs.YtkdhdlfonmgheaaGreat
namespace Go.Proofs.YtkdhdlfonmgheaaGreat
variable {W:Below}{lo hi:aq Key}{P:Nat->aq aA}
theorem CM{lo hi:aq Key}{s k:Key}(h1:e4 lo (some s) k)(h2:e4 lo hi s):e4 lo hi k:=
 ⟨h1.1,λb a=>k6 (h1.2 s rfl) (h2.2 b a)⟩
theorem CN{lo hi:aq Key}{s k:Key}(h1:e4 (some s) hi k)(h2:e4 lo hi s):e4 lo hi k:=
 ⟨λa b=>yN (h2.1 a b) (h1.1 s rfl),h1.2⟩
theorem dH.e_{ks:O Key}{kids p:O Nat}{L:O aR}(h:dH W lo hi ks kids p L)(cj:∀lo hi k p L,W lo hi k p L->h3 L/\∀q∈L,e4 lo hi q.1)(e:ks.Pairwise bX)(c:∀s∈ks,e4 lo hi s):
 h3 L/\∀q∈L,e4 lo hi q.1:=by
 induction h with
 |one h=>exact cj _ _ _ _ _ h
 | @cons lo hi s k bB bx bq bM ks kids h t f=>
  obtain⟨r1,cd⟩:=cj _ _ _ _ _ h;have d:=kk.1 e;obtain⟨bW,bQ⟩:=f d.2 λx hx=>⟨λa g=>by cases g;exact hZ (d.1 x hx),(c x (iV _ hx)).2⟩;have hs:=c s List.mem_cons_self;refine⟨CL.2 ⟨r1,bW,λx hx y i=>m0 ((cd x hx).2 s rfl) ((bQ y i).1 s rfl)⟩,λq b=>?_⟩;rcases cH.1 b with b|b
  .exact CM (cd q b) hs
  .exact CN (bQ q b) hs
theorem yP:∀ {ks vs:O Key},ks.Pairwise bX->h3 (ks.zip vs)
 | [],vs,_=>by rw[List.zip_nil_left];exact List.Pairwise.nil
 |k::ks,[],_=>by rw[List.zip_nil_right];exact List.Pairwise.nil
 |k::ks,v::vs,h=>by
  rw[List.zip_cons_cons]
  have:=kk.1 h
  exact kk.2 ⟨λq a=>this.1 _ (pn a).1,yP this.2⟩
theorem gw.e5{n:aA}(h:gw n):h3 n.e5/\n.e5.length=n.keys.length:=⟨yP h.e_,by unfold aA.e5;rw[nF,h.len,Nat.min_self]⟩
theorem en.e_:∀ {h:Nat}{lo hi:aq Key}{no:Nat}{p:O Nat}{L:O aR},en P h lo hi no p L->h3 L/\∀q∈L,e4 lo hi q.1
 |0,_,_,_,_,_,a=>a.elim
 |1,_,_,_,_,_,⟨n,_,h2,b,_,_,c⟩=>by
  subst c
  exact⟨h2.e5.1,λq d=>b _ (pn d).1⟩
 |h+2,_,_,_,_,_,⟨n,_,_,h2,b,_,e⟩=>e.e_ (λ_ _ _ _ _ a=>en.e_ a.1) h2.e_ b
theorem dH.count{ks:O Key}{kids p:O Nat}{L:O aR}(h:dH W lo hi ks kids p L){c:Nat}(cj:∀lo hi k p L,W lo hi k p L->p.length+1<=L.length/\c<=L.length):
 p.length+kids.length<=L.length/\c*kids.length<=L.length:=by
 induction h with
 |one h=>have:=cj _ _ _ _ _ h;simp;omega
 |cons h _ a=>
  have:=cj _ _ _ _ _ h;simp only[cF,fy,Nat.mul_add,fz];omega
theorem en.count:∀ {h:Nat}{lo hi:aq Key}{no:Nat}{p:O Nat}{L:O aR},en P h lo hi no p L->((∃m,P no=some m/\2<=m.keys.length)\/2<=h)->p.length+1<=L.length/\2^h<=L.length
 |0,_,_,_,_,_,b,_=>b.elim
 |1,_,_,_,_,_,⟨n,h1,h2,_,_,d,f⟩,a=>by
  rcases a with ⟨m,e,a⟩|a
  .rw[h1]at e
   cases e
   subst d f
   have:=h2.e5.2
   simp only[ie];omega
  .omega
 |h+2,_,_,_,_,_,⟨n,i,_,h2,_,g,d⟩,_=>by
  have hc:=d.count (c:=2^(h+1)) λlo hi k p L ⟨b,a⟩=>en.count b (.inl a)
  have j:=h2.len
  have hs:1<=n.keys.length:=qW.2 h2.some
  subst g
  have:2^(h+1)*2<=2^(h+1)*n.kids.length:=Nat.mul_le_mul_left _ I
  rw[Nat.pow_succ 2 (h+1)]
  simp only[fy]
  omega
theorem en.pages{h:Nat}{lo hi:aq Key}{no:Nat}{p:O Nat}{L:O aR}(a:en P h lo hi no p L):p.length<=L.length/\1<=L.length/\(2<=h->2^h<=L.length):=by
 match h with
 |0=>exact a.elim
 |1=>
  obtain⟨n,h1,h2,_,b,c,d⟩:=a;subst c d;have:=h2.e5.2;have e:=qW.2 b;simp only[ie];exact⟨I,I,I⟩
 |h+2=>
  have:=en.count a (.inr I);exact⟨I,I,λ_=>this.2⟩
end Go.Proofs.YtkdhdlfonmgheaaGreat
namespace Go.Proofs.YtkdhdlfonmgheaaGreat
variable {W V:Below}{lo hi:aq Key}
inductive e6 (W:Below) (lo:aq Key):aq Key->O Key->O Nat->O Nat->O aR->Prop
 |nil:e6 W lo lo [] [] [] []
 |more {s:Key}{ks:O Key}{kids p:O Nat}{L:O aR} (h:dH W lo (some s) ks kids p L):e6 W lo (some s) (ks++ [s]) kids p L
inductive fQ (W:Below) (hi:aq Key):aq Key->O Key->O Nat->O Nat->O aR->Prop
 |nil:fQ W hi hi [] [] [] []
 |more {s:Key}{ks:O Key}{kids p:O Nat}{L:O aR} (h:dH W (some s) hi ks kids p L):fQ W hi (some s) (s::ks) kids p L
variable {m:aq Key}{hC jB:O Key}{h4 ky bB bx:O Nat}{bq bM:O aR}
theorem e6.CO(h1:e6 W lo m hC h4 bB bq)(h2:dH W m hi jB ky bx bM):dH W lo hi (hC++jB) (h4++ky) (bB++bx) (bq++bM):=by
 cases h1 with
 |nil=>exact h2
 |more h=>rw[cV];exact h.app h2
theorem dH.post(h1:dH W lo m hC h4 bB bq)(h2:fQ W hi m jB ky bx bM):dH W lo hi (hC++jB) (h4++ky) (bB++bx) (bq++bM):=by
 cases h2 with
 |nil=>simpa using h1
 |more h=>exact h1.app h
theorem e6.cons{s:Key}{k:Nat}{p:O Nat}{L:O aR}(h:W lo (some s) k p L)(t:e6 W (some s) m hC h4 bB bq):e6 W lo m (s::hC) (k::h4) (p++bB) (L++bq):=by
 cases t with
 |nil=>rw[gi,gi];exact e6.more (ks:=[]) (.one h)
 |more t=>exact e6.more (ks:=s::_) (.cons h t)
theorem e6.kz(h:e6 W lo m hC h4 bB bq)(b:∀lo hi k a L,(∀x∈a,x∈bB)->W lo hi k a L->V lo hi k a L):e6 V lo m hC h4 bB bq:=by
 cases h with
 |nil=>exact .nil
 |more h=>exact .more (h.kz b)
theorem fQ.kz(h:fQ W hi m hC h4 bB bq)(b:∀lo hi k a L,(∀x∈a,x∈bB)->W lo hi k a L->V lo hi k a L):fQ V hi m hC h4 bB bq:=by
 cases h with
 |nil=>exact .nil
 |more h=>exact .more (h.kz b)
theorem dH.at{ks:O Key}{kids p:O Nat}{L:O aR}(h:dH W lo hi ks kids p L):∀ (i:Nat) (c:i<kids.length),∃ (d e:aq Key) (bB q bx:O Nat) (bq M bM:O aR),
 p=bB++(q++bx)/\L=bq++(M++bM)/\W d e kids[i] q M/\e6 W lo d (ks.take i) (kids.take i) bB bq/\fQ W hi e (ks.drop i) (kids.drop (i+1)) bx bM:=by
 induction h with
 | @one lo hi k p L h=>
  intro i c;have:i=0:=by simp at c;omega
  subst this;exact⟨lo,hi,[],p,[],[],L,[],by simp,by simp,h,.nil,.nil⟩
 | @cons lo hi s k bB bx bq bM ks kids h t f=>
  intro i c
  cases i with
  |zero=>exact⟨lo,some s,[],bB,bx,[],bq,bM,rfl,rfl,h,.nil,.more t⟩
  |succ i=>
   obtain⟨d,e,a,q,b,A,M,B,rfl,rfl,h1,h2,g⟩:=f i (by simpa using c);exact⟨d,e,bB++a,q,b,bq++A,M,B,by rw[cV],by rw[cV],h1,e6.cons h h2,g⟩
theorem e6.inv{kids p:O Nat}{L:O aR}(h:e6 W lo m [] kids p L):m=lo/\kids=[]/\p=[]/\L=[]:=by
 generalize e:([]:O Key)=K at h
 cases h with
 |nil=>exact⟨rfl,rfl,rfl,rfl⟩
 |more h=>simp at e
theorem fQ.head{ks:O Key}{kids p:O Nat}{L:O aR}(h:fQ W hi m ks kids p L)(b:0<kids.length):∃ (s:Key) (a:aq Key) (q bx:O Nat) (M bM:O aR) (hs:0<ks.length),
 m=some s/\s=ks[0]/\p=q++bx/\L=M++bM/\W (some s) a (kids[0]) q M/\fQ W hi a (ks.drop 1) (kids.drop 1) bx bM:=by
 cases h with
 |nil=>simp at b
 | @more s ks kids p L h=>
  obtain⟨d,a,bB,q,bx,bq,M,bM,rfl,rfl,h1,h2,c⟩:=h.at 0 b;rw[List.take_zero]at h2;obtain⟨rfl,_,rfl,rfl⟩:=h2.inv;exact⟨s,a,q,bx,M,bM,by simp,rfl,rfl,rfl,rfl,h1,by simpa using c⟩
end Go.Proofs.YtkdhdlfonmgheaaGreat
namespace Go.Proofs.YtkdhdlfonmgheaaGreat
variable {W V:Below}{lo hi m:aq Key}
def eB(ks:O Key)(k:Key):Nat:=ks.findIdx λs=>decide (bX k s)
theorem vy(ks:O Key)(k:Key):eB ks k<=ks.length:=List.findIdx_le_length
theorem CP{ks:O Key}{k:Key}{i:Nat}(h:i<eB ks k)(hi:i<ks.length):gb ks[i] k:=by
 have:=List.not_of_lt_findIdx h;exact yM.1 (by simpa using this)
theorem CQ{ks:O Key}{k:Key}(h:eB ks k<ks.length):bX k ks[eB ks k]:=by
 have:=List.findIdx_getElem (p:=λs=>decide (bX k s)) (xs:=ks) (w:=h);exact b_ this
theorem e6.CR{i:Nat}{ks:O Key}{kids p:O Nat}{L:O aR}(h:e6 W lo m (ks.take i) kids p L){k:Key}(b:∀ (j:Nat) (c:j<ks.length),j<i->gb ks[j] k)(d:∀a,lo=some a->gb a k):∀a,m=some a->gb a k:=by
 generalize e:ks.take i=K at h
 cases h with
 |nil=>exact d
 | @more s l kids p L h=>
  intro a f
  cases f;have g:s∈ks.take i:=by rw[e];simp
  obtain⟨j,c,rfl⟩:=List.mem_take_iff_getElem.1 g;exact b j I I
theorem fQ.CS{i:Nat}{ks:O Key}{kids p:O Nat}{L:O aR}(h:fQ W hi m (ks.drop i) kids p L){k:Key}(b:∀ (h:i<ks.length),bX k ks[i])(c:∀a,hi=some a->bX k a):∀a,m=some a->bX k a:=by
 generalize e:ks.drop i=K at h
 cases h with
 |nil=>exact c
 | @more s f kids p L h=>
  intro a d
  cases d;have aK:i<ks.length:=by
   have:=congrArg List.length e;simp at this;omega
  have:ks[i]=s:=by
   have:=lB aK;rw[e]at this;exact(List.cons.inj this).1.symm
  rw[←this];exact b aK
theorem e6.below{ks:O Key}{kids p:O Nat}{L:O aR}(h:e6 W lo m ks kids p L)(cj:∀lo hi k p L,W lo hi k p L->h3 L/\∀q∈L,e4 lo hi q.1)(f:ks.Pairwise bX)(c:∀s∈ks,e4 lo hi s)
 {k:Key} (g:∀a,m=some a->gb a k):∀q∈L,bX q.1 k:=by
 cases h with
 |nil=>intro q d;cases d
 | @more s i kids p L h=>
  have e:=lE.1 f;have:=h.e_ cj e.1 λx hx=>⟨(c x (by simp[hx])).1,λb c=>by cases c;exact e.2.2 x hx s (by simp)⟩;exact λq d=>m0 ((this.2 q d).2 s rfl) (g s rfl)
theorem fQ.CT{ks:O Key}{kids p:O Nat}{L:O aR}(h:fQ W hi m ks kids p L)(cj:∀lo hi k p L,W lo hi k p L->h3 L/\∀q∈L,e4 lo hi q.1)(d:ks.Pairwise bX)(e:∀s∈ks,e4 lo hi s)
 {k:Key} (f:∀a,m=some a->bX k a):∀q∈L,bX k q.1:=by
 cases h with
 |nil=>intro q b;cases b
 | @more s i kids p L h=>
  have c:=kk.1 d;have:=h.e_ cj c.2 λx hx=>⟨λa g=>by cases g;exact hZ (c.1 x hx),(e x (by simp[hx])).2⟩;exact λq b=>m0 (f s rfl) ((this.2 q b).1 s rfl)
def Loc(k:Key)(u:O aR->O aR):Prop:=∀bq M bM:O aR,(∀p∈bq,bX p.1 k)->(∀p∈bM,bX k p.1)->u (bq++(M++bM))=bq++(u M++bM)
theorem CU(k v:Key):Loc k λL=>gd L k v:=λbq M bM h1 h2=>by
 show gd _ _ _=_
 rw[CK h1,CJ h2]
theorem vz(k:Key):Loc k λL=>eA L k:=λbq M bM h1 h2=>by
 show eA _ _=_
 rw[qm,qm,qn λp a=>lY (h1 p a),qn λp a=>(lY (h2 p a)).symm]
end Go.Proofs.YtkdhdlfonmgheaaGreat
namespace Go.Proofs.YtkdhdlfonmgheaaGreat
variable {W V:Below}{lo hi m:aq Key}{P Q:Nat->aq aA}
def eW(P:Nat->aq aA)(h:Nat):Below:=λlo hi k p L=>en P h lo hi k p L/\∃m,P k=some m/\2<=m.keys.length
theorem eW.agree{h no:Nat}{p:O Nat}{L:O aR}(b:eW P h lo hi no p L)(a:∀x∈p,P x=Q x):eW Q h lo hi no p L:=by
 obtain⟨h1,m,h2,c⟩:=b;have:=h1.agree a;exact⟨this.1,m,by rw[←a no this.2];exact h2,c⟩
theorem CV{α:Type}{l:O α}(h:1<=l.length):l≠ []:=λe=>by subst e;simp at h
theorem eW.in{h no:Nat}{p:O Nat}{L:O aR}(a:eW P h lo hi no p L):L≠ []/\h3 L/\∀q∈L,e4 lo hi q.1:=⟨CV a.1.pages.2.1,a.1.e_⟩
theorem dH.sorted{ks:O Key}{kids p:O Nat}{L:O aR}(h:dH W lo hi ks kids p L)(cj:∀lo hi k p L,W lo hi k p L->L≠ []/\h3 L/\∀q∈L,e4 lo hi q.1):
 L≠ []/\(∀q∈L,e4 lo hi q.1)/\ks.Pairwise bX/\∀s∈ks,(∀a,lo=some a->bX a s)/\∀b,hi=some b->bX s b:=by
 induction h with
 |one h=>exact⟨(cj _ _ _ _ _ h).1,(cj _ _ _ _ _ h).2.2,.nil,by simp⟩
 | @cons lo hi s k bB bx bq bM ks kids h t l=>
  obtain⟨bJ,_,cd⟩:=cj _ _ _ _ _ h;obtain⟨bp,bQ,bW,ah⟩:=l;obtain⟨x,hx⟩:=po _ bJ;obtain⟨y,i⟩:=po _ bp;have f:∀a,lo=some a->bX a s:=λa e=>jA ((cd x hx).1 a e) ((cd x hx).2 s rfl);have j:∀b,hi=some b->bX s b:=λb g=>jA ((bQ y i).1 s rfl) ((bQ y i).2 b g);refine⟨by simp[bJ],λq c=>?_,kk.2 ⟨λz d=>(ah z d).1 s rfl,bW⟩,λz d=>?_⟩
  .rcases cH.1 c with c|c
   .exact⟨(cd q c).1,λb g=>k6 ((cd q c).2 s rfl) (j b g)⟩
   .exact⟨λa e=>hZ (m0 (f a e) ((bQ q c).1 s rfl)),(bQ q c).2⟩
  .rcases cP.1 d with rfl|d
   .exact⟨f,j⟩
   .exact⟨λa e=>k6 (f a e) ((ah z d).1 s rfl),(ah z d).2⟩
def cZ(P:Nat->aq aA):Nat->aA->aq Key->aq Key->O Nat->O aR->Prop
 |0,_,_,_,_,_=>False
 |1,n,lo,hi,p,L=>gw n/\n.within lo hi/\p=[]/\L=n.e5
 |h+2,n,lo,hi,p,L=>n.leaf=false/\n.vals=[]/\(∀k∈n.keys,cD k)/\(∀k∈n.kids,k<1600)/\dH (eW P (h+1)) lo hi n.keys n.kids p L
theorem cZ.agree:∀ {h:Nat}{n:aA}{p:O Nat}{L:O aR},cZ P h n lo hi p L->(∀x∈p,P x=Q x)->cZ Q h n lo hi p L
 |0,_,_,_,h,_=>h.elim
 |1,_,_,_,h,_=>h
 |_+2,_,_,_,⟨h1,h2,a,b,c⟩,d=>⟨h1,h2,a,b,c.kz λ_ _ _ _ _ hs e=>e.agree λx hx=>d x (hs x hx)⟩
theorem cZ.lay:∀ {h:Nat}{n:aA}{x:Nat}{p:O Nat}{L:O aR},cZ P h n lo hi p L->n.keys≠ []->Q x=some n->(∀y∈p,P y=Q y)->en Q h lo hi x (x::p) L
 |0,_,_,_,_,h,_,_,_=>h.elim
 |1,n,x,p,L,⟨h1,h2,b,c⟩,d,hx,_=>by
  subst b
  exact⟨n,hx,h1,h2,d,rfl,c⟩
 |h+2,n,x,p,L,g,d,hx,i=>by
  obtain⟨h1,h2,b,c,e⟩:=g.agree i
  have hs:=e.sorted λ_ _ _ _ _ j=>j.in
  exact⟨n,p,hx,⟨⟨b,hs.2.2.1⟩,h1,d,e.len,h2,c⟩,λs f=>⟨λa k=>hZ ((hs.2.2.2 s f).1 a k),(hs.2.2.2 s f).2⟩,rfl,e⟩
def aA.left(n:aA)(i:Nat):aA:=if n.leaf then ⟨true,n.keys.take i,n.vals.take i,[]⟩ else ⟨false,n.keys.take i,[],n.kids.take (i+1)⟩
def aA.right(n:aA)(i:Nat):aA:=if n.leaf then ⟨true,n.keys.drop i,n.vals.drop i,[]⟩ else ⟨false,n.keys.drop (i+1),[],n.kids.drop (i+1)⟩
theorem cZ.leaf{h:Nat}{n:aA}{p:O Nat}{L:O aR}(a:cZ P h n lo hi p L):n.leaf=decide (h=1):=by
 match h,a with
 |0,a=>exact a.elim
 |1,a=>rw[a.1.leaf];rfl
 |h+2,a=>rw[a.1];simp
theorem cZ.vA{h:Nat}{n:aA}{p:O Nat}{L:O aR}(g:cZ P h n lo hi p L){i:Nat}(h1:1<=i)(m:i<n.keys.length):
 ∃ (bB bx:O Nat) (bq bM:O aR),p=bB++bx/\L=bq++bM/\cZ P h (n.left i) lo (some n.keys[i]) bB bq/\cZ P h (n.right i) (some n.keys[i]) hi bx bM:=by
 match h,g with
 |0,g=>exact g.elim
 |1,⟨a,b,c,d⟩=>
  subst c d;have q:=a.e_;have fA:n.keys=n.keys.take i++n.keys.drop i:=(hO _ _).symm;have o:=q;rw[fA]at o;obtain⟨r1,bW,ag⟩:=lE.1 o;have hd:n.keys.drop i=n.keys[i]::n.keys.drop (i+1):=lB m;have hf:n.left i=⟨true,n.keys.take i,n.vals.take i,[]⟩:=by unfold aA.left;rw[a.leaf];rfl
  have hg:n.right i=⟨true,n.keys.drop i,n.vals.drop i,[]⟩:=by unfold aA.right;rw[a.leaf];rfl
  rw[hf,hg];refine⟨[],[],n.e5.take i,n.e5.drop i,rfl,(hO _ _).symm,⟨⟨⟨λk f=>a.ok k (eS f),r1⟩,rfl,by simp[a.len],rfl,λv g=>a.vals v (eS g)⟩,λk f=>⟨(b k (eS f)).1,λs hs=>?_⟩,rfl,?_⟩,
   ⟨⟨⟨λk f=>a.ok k (eJ f),bW⟩,rfl,by simp[a.len],rfl,λv g=>a.vals v (eJ g)⟩,λk f=>⟨λs hs=>?_,(b k (eJ f)).2⟩,rfl,?_⟩⟩
  .cases hs
   exact ag k f _ (by rw[hd];exact List.mem_cons_self)
  .exact List.take_zipWith
  .cases hs
   have f:k∈n.keys.drop i:=f;rw[hd]at f bW;rcases cP.1 f with rfl|f
   .exact CI _
   .exact hZ ((kk.1 bW).1 k f)
  .exact List.drop_zipWith
 |h+2,⟨a,b,c,d,e⟩=>
  have hf:n.left i=⟨false,n.keys.take i,[],n.kids.take (i+1)⟩:=by unfold aA.left;rw[a];rfl
  have hg:n.right i=⟨false,n.keys.drop (i+1),[],n.kids.drop (i+1)⟩:=by unfold aA.right;rw[a];rfl
  have fA:n.keys=n.keys.take i++n.keys[i]::n.keys.drop (i+1):=by rw[←lB m,hO]
  rw[fA]at e;obtain⟨bN,bZ,bB,bx,bq,bM,j,rfl,rfl,s1,s2⟩:=e.cut;have l:=s1.len;rw[cC,iX I]at l;have r:n.kids.take (i+1)=bN:=by rw[j,←l,List.take_left]
  have t:n.kids.drop (i+1)=bZ:=by rw[j,←l,List.drop_left]
  rw[hf,hg,r,t];exact⟨bB,bx,bq,bM,rfl,rfl,⟨rfl,rfl,λk f=>c k (eS f),λk f=>d k (by rw[j];simp[f]),s1⟩,⟨rfl,rfl,λk f=>c k (eJ f),λk f=>d k (by rw[j];simp[f]),s2⟩⟩
end Go.Proofs.YtkdhdlfonmgheaaGreat
namespace Go.Proofs.YtkdhdlfonmgheaaGreat
variable {lo hi:aq Key}{P Q:Nat->aq aA}
def du(a:aA)(s:Key)(b:aA):aA:=if a.leaf then ⟨true,a.keys++b.keys,a.vals++b.vals,[]⟩ else ⟨false,a.keys++s::b.keys,[],a.kids++b.kids⟩
theorem m3{a b c d:O Key}(h:a.length=c.length):(a++b).zip (c++d)=a.zip c++b.zip d:=List.zip_append h
theorem cZ.merge{h:Nat}{a b:aA}{s:Key}{pa l:O Nat}{m n:O aR}(g:cZ P h a lo (some s) pa m)(o:cZ P h b (some s) hi l n)(hs:cD s)(p:∀k,lo=some k->gb k s)(q:∀k,hi=some k->gb s k):
 cZ P h (du a s b) lo hi (pa++l) (m++n):=by
 match h,g,o with
 |0,g,_=>exact g.elim
 |1,⟨a1,a2,a3,a4⟩,⟨cd,bQ,i,j⟩=>
  subst a3 a4 i j;have e:du a s b=⟨true,a.keys++b.keys,a.vals++b.vals,[]⟩:=by unfold du;rw[a1.leaf];rfl
  rw[e];refine⟨⟨⟨λk d=>?_,lE.2 ⟨a1.e_,cd.e_,λx hx y r=>m0 ((a2 x hx).2 s rfl) ((bQ y r).1 s rfl)⟩⟩,rfl,by simp[a1.len,cd.len],rfl,λv f=>?_⟩,λk d=>?_,rfl,?_⟩
  .rcases cH.1 d with d|d
   .exact a1.ok k d
   .exact cd.ok k d
  .rcases cH.1 f with f|f
   .exact a1.vals v f
   .exact cd.vals v f
  .rcases cH.1 d with d|d
   .exact⟨(a2 k d).1,λc hc=>m0 ((a2 k d).2 s rfl) (q c hc)⟩
   .exact⟨λc hc=>yN (p c hc) ((bQ k d).1 s rfl),(bQ k d).2⟩
  .exact(m3 a1.len.symm).symm
 |h+2,⟨a1,a2,a3,a4,a5⟩,⟨cd,bQ,i,j,t⟩=>
  have e:du a s b=⟨false,a.keys++s::b.keys,[],a.kids++b.kids⟩:=by unfold du;rw[a1];rfl
  rw[e];refine⟨rfl,rfl,λk d=>?_,λk d=>?_,a5.app t⟩
  .rcases cH.1 d with d|d
   .exact a3 k d
   .rcases cP.1 d with rfl|d
    .exact hs
    .exact i k d
  .rcases cH.1 d with d|d
   .exact a4 k d
   .exact j k d
theorem en.jC{h no:Nat}{p:O Nat}{L:O aR}(b:en P h lo hi no p L):∃n a,P no=some n/\p=no::a/\n.keys≠ []/\cZ P h n lo hi a L:=by
 match h,b with
 |0,b=>exact b.elim
 |1,⟨n,h1,h2,e,c,d,f⟩=>exact⟨n,[],h1,d,c,h2,e,rfl,f⟩
 |h+2,⟨n,a,h1,h2,e,c,d⟩=>exact⟨n,a,h1,c,h2.some,h2.inner,h2.vals,h2.ok,h2.kids,d⟩
def ft(n:aA)(fr to:Nat)(ks:O Key)(kids:O Nat):aA:=⟨false,n.keys.take fr++ks++n.keys.drop (to-1),[],n.kids.take fr++kids++n.kids.drop to⟩
end Go.Proofs.YtkdhdlfonmgheaaGreat
namespace Go.Proofs.YtkdhdlfonmgheaaGreat
def cellsOf(n:aA):O Nat:=if n.leaf then List.zipWith (λk v=>2+k.length+v.length) n.keys n.vals else n.keys.map λk=>3+k.length
def bz(n:aA):Nat:=(if n.leaf then 1 else 3)+(cellsOf n).sum
def fG(c:O Nat)(most:Nat):Nat:=match (List.range most).find? λi=>decide (c.sum<=2*(c.take (i+1)).sum) with
 |some i=>i+1
 |none=>most
theorem lZ{B:Nat}:∀ {l:O Nat},(∀x∈l,x<=B)->l.sum<=B*l.length
 | [],_=>by simp
 |a::l,h=>by
  have h1:=h a (by simp)
  have h2:=lZ (l:=l) λx hx=>h x (by simp[hx])
  rw[pq,fy,Nat.mul_add,fz]
  omega
theorem vB(l:O Nat)(i:Nat):(l.take i).sum+(l.drop i).sum=l.sum:=by
 rw[←kl,hO]
theorem oJ{l:O Nat}{i:Nat}(h:i<l.length):(l.take (i+1)).sum=(l.take i).sum+l[i]:=by
 rw[iW h,kl];simp
theorem yQ{c:O Nat}{most:Nat}(a:1<=most)(hs:0<c.sum):1<=fG c most/\fG c most<=most/\2*(c.take (fG c most-1)).sum<c.sum/\(fG c most=most\/c.sum<=2*(c.take (fG c most)).sum):=by
 unfold fG
 cases h:(List.range most).find? λi=>decide (c.sum<=2*(c.take (i+1)).sum) with
 |none=>
  have b:=iY.1 h;refine⟨a,bo _,?_,.inl rfl⟩;by_cases h1:most=1
  .subst h1;simpa using hs
  .have:=b (most-2) (iA.2 I)
   have e:most-2+1=most-1:=by omega
   rw[e]at this;simp at this;exact this
 |some i=>
  have hi:i<most:=iA.1 (iE h);have d:=jr h;refine⟨by simp,by simp;omega,?_,.inr (by simpa using d)⟩;show 2*(c.take (i+1-1)).sum<c.sum;rw[Nat.add_sub_cancel]
  cases i with
  |zero=>simpa using hs
  |succ j=>
   have:=(List.find?_range_eq_some.1 h).2.2 j I;simpa using this
theorem CW{c:O Nat}(a:∀x∈c,x<=50)(h1:232<=c.sum)(h2:c.sum<=309):
 2<=fG c (c.length-1)/\fG c (c.length-1)+2<=c.length/\(c.take (fG c (c.length-1))).sum<=231/\(c.drop (fG c (c.length-1))).sum<=231:=by
 have e:=lZ a;have b:=yQ (c:=c) (most:=c.length-1) I I;generalize fG c (c.length-1)=i at b⊢;obtain⟨a1,a2,a3,a4⟩:=b;have hs:=vB c i;have ht:=oJ (l:=c) (i:=i-1) I;rw[Nat.sub_add_cancel a1]at ht;have hc:=a c[i-1] (cr _);have hd:=lZ (l:=c.drop i) λx hx=>a x (eJ hx);have d:=lZ (l:=c.take i) λx hx=>a x (eS hx);rw[cX]at hd;rw[cC,iX I]at d;have key:c.sum<=2*(c.take i).sum:=by
  rcases a4 with h|h
  .have:c.length-i=1:=by omega
   rw[this]at hd;omega
  .exact h
 refine⟨I,?_,I,I⟩;rcases dR (c.length-i) 2 with h|h
 .have:c.length-i=1:=by omega
  rw[this]at hd;omega
 .omega
theorem CX{c:O Nat}(a:∀x∈c,x<=27)(h1:230<=c.sum)(h2:c.sum<=332):
 2<=fG c (c.length-2)/\fG c (c.length-2)+3<=c.length/\(c.take (fG c (c.length-2))).sum<=229/\(c.drop (fG c (c.length-2)+1)).sum<=229:=by
 have e:=lZ a;have b:=yQ (c:=c) (most:=c.length-2) I I;generalize fG c (c.length-2)=i at b⊢;obtain⟨a1,a2,a3,a4⟩:=b;have hs:=vB c (i+1);have ht:=oJ (l:=c) (i:=i-1) I;have hu:=oJ (l:=c) (i:=i) I;rw[Nat.sub_add_cancel a1]at ht;have hc:=a c[i-1] (cr _);have f:=a c[i] (cr _);have hd:=lZ (l:=c.drop (i+1)) λx hx=>a x (eJ hx);have d:=lZ (l:=c.take i) λx hx=>a x (eS hx);rw[cX]at hd;rw[cC,iX I]at d;have key:c.sum<=2*(c.take i).sum:=by
  rcases a4 with h|h
  .have:c.length-(i+1)=1:=by omega
   rw[this]at hd;omega
  .exact h
 refine⟨I,?_,I,I⟩;rcases dR (c.length-(i+1)) 2 with h|h
 .have:c.length-(i+1)<=1:=by omega
  have:27*(c.length-(i+1))<=27*1:=Nat.mul_le_mul_left _ this;omega
 .omega
end Go.Proofs.YtkdhdlfonmgheaaGreat
namespace Go.Proofs.YtkdhdlfonmgheaaGreat
variable {W:Below}{lo hi m:aq Key}{P Q:Nat->aq aA}
theorem fQ.inv{kids p:O Nat}{L:O aR}(h:fQ W hi m [] kids p L):m=hi/\kids=[]/\p=[]/\L=[]:=by
 generalize e:([]:O Key)=K at h
 cases h with
 |nil=>exact⟨rfl,rfl,rfl,rfl⟩
 |more h=>simp at e
theorem e6.last{ks:O Key}{kids p:O Nat}{L:O aR}(h:e6 W lo m ks kids p L)(c:0<kids.length):∃ (s:Key) (a:aq Key) (bB r:O Nat) (bq N:O aR) (hs:0<ks.length),
 m=some s/\s=ks[ks.length-1]/\p=bB++r/\L=bq++N/\W a (some s) (kids[kids.length-1]) r N/\e6 W lo a (ks.take (ks.length-1)) (kids.take (kids.length-1)) bB bq/\kids.length=ks.length:=by
 cases h with
 |nil=>simp at c
 | @more s ks kids p L h=>
  have d:=h.len;obtain⟨a,f,bB,q,bx,bq,M,bM,rfl,rfl,h1,h2,b⟩:=h.at (kids.length-1) I;rw[List.drop_of_length_le I]at b;obtain⟨rfl,_,rfl,rfl⟩:=b.inv;refine⟨s,a,bB,q,bq,M,by simp,rfl,by simp,by simp,by simp,h1,?_,by simp;omega⟩;have e:(ks++ [s]).take ((ks++ [s]).length-1)=ks.take (kids.length-1):=by
   rw[d];simp
  rw[e];exact h2
theorem cZ.at{h:Nat}{n:aA}{p:O Nat}{L:O aR}(v:cZ P (h+2) n lo hi p L){k:Key}(m:e4 lo hi k):∃ (f g:aq Key) (bB q bx:O Nat) (bq M bM:O aR) (B:eB n.keys k<n.kids.length),
 p=bB++(q++bx)/\L=bq++(M++bM)/\eW P (h+1) f g n.kids[eB n.keys k] q M/\e4 f g k/\(∀u,Loc k u->u L=bq++(u M++bM))/\n.kids.length=n.keys.length+1/\
 e6 (eW P (h+1)) lo f (n.keys.take (eB n.keys k)) (n.kids.take (eB n.keys k)) bB bq/\fQ (eW P (h+1)) hi g (n.keys.drop (eB n.keys k)) (n.kids.drop (eB n.keys k+1)) bx bM:=by
 obtain⟨a,b,c,d,e⟩:=v;have w:=e.len;have C:=vy n.keys k;have hs:=e.sorted λ_ _ _ _ _ i=>i.in;have o:∀s∈n.keys,e4 lo hi s:=λs h=>⟨λa x=>hZ ((hs.2.2.2 s h).1 a x),(hs.2.2.2 s h).2⟩;obtain⟨f,g,bB,q,bx,bq,M,bM,rfl,rfl,h1,h2,l⟩:=e.at (eB n.keys k) I;have r:=h2.CR (k:=k) (λj y h=>CP h y) m.1;have t:=l.CS (k:=k) (λh=>CQ h) m.2;have z:(n.keys.take (eB n.keys k)).Pairwise bX:=hs.2.2.1.sublist (List.take_sublist _ _);have A:(n.keys.drop (eB n.keys k)).Pairwise bX:=hs.2.2.1.sublist (List.drop_sublist _ _);exact⟨f,g,bB,q,bx,bq,M,bM,I,rfl,rfl,h1,⟨r,t⟩,λu hu=>hu _ _ _ (h2.below (hi:=hi) (λ_ _ _ _ _ i=>i.in.2) z (λs h=>o s (eS h)) r) (l.CT (lo:=lo) (λ_ _ _ _ _ i=>i.in.2) A (λs h=>o s (eJ h)) t),
  w,h2,l⟩
theorem cZ.build{h:Nat}{d e:aq Key}{a kb ks:O Key}{b c kids bB bx q:O Nat}{bq M bM:O aR}(h1:e6 (eW P (h+1)) lo d a b bB bq)(h2:fQ (eW P (h+1)) hi e kb c bx bM)
 (hs:dH (eW Q (h+1)) d e ks kids q M) (g:∀x∈bB++bx,P x=Q x) (i:∀s∈a++ks++kb,cD s) (hd:∀x∈b++kids++c,x<1600):
 cZ Q (h+2) ⟨false,a++ks++kb,[],b++kids++c⟩ lo hi (bB++(q++bx)) (bq++(M++bM)):=by
 have av:e6 (eW Q (h+1)) lo d a b bB bq:=h1.kz λ_ _ _ _ _ hs f=>f.agree λx hx=>g x (iD _ (hs x hx));have ax:fQ (eW Q (h+1)) hi e kb c bx bM:=h2.kz λ_ _ _ _ _ hs f=>f.agree λx hx=>g x (gV _ (hs x hx));refine⟨rfl,rfl,i,hd,?_⟩;show dH _ lo hi (a++ks++kb) (b++kids++c) _ _;rw[cV,cV];exact av.CO (hs.post ax)
end Go.Proofs.YtkdhdlfonmgheaaGreat
namespace Go.Proofs.YtkdhdlfonmgheaaGreat
variable {lo hi:aq Key}{P Q:Nat->aq aA}
theorem cZ.one{h x:Nat}{n:aA}{p:O Nat}{L:O aR}(a:cZ P h n lo hi p L)(h2:2<=n.keys.length)(hx:Q x=some n)(b:∀y∈p,P y=Q y):dH (eW Q h) lo hi [] [x] (x::p) L:=
 .one ⟨a.lay (λe=>by rw[e]at h2;simp at h2) hx b,n,hx,h2⟩
theorem j2{n:aA}(h:n.leaf=true):cellsOf n=List.zipWith (λk v=>2+k.length+v.length) n.keys n.vals:=by unfold cellsOf;rw[h];rfl
theorem j3{n:aA}(h:n.leaf=false):cellsOf n=n.keys.map λk=>3+k.length:=by unfold cellsOf;rw[h];rfl
theorem vC{B:Nat}{f:Key->Key->Nat}:∀ {ks vs:O Key},(∀k∈ks,∀v∈vs,f k v<=B)->∀x∈List.zipWith f ks vs,x<=B
 | [],vs,_,x,hx=>by simp at hx
 |k::ks,[],_,x,hx=>by simp at hx
 |k::ks,v::vs,h,x,hx=>by
  rw[List.zipWith_cons_cons]at hx
  rcases cP.1 hx with rfl|hx
  .exact h k (by simp) v (by simp)
  .exact vC (λk a v b=>h k (by simp[a]) v (by simp[b])) x hx
def b4(n:aA):Nat:=fG (cellsOf n) (if n.leaf then n.keys.length-1 else n.keys.length-2)
theorem cZ.two{h x y:Nat}{n:aA}{p:O Nat}{L:O aR}(b:cZ P h n lo hi p L)(h1:232<bz n)(h2:n.leaf=true->bz n<=310)(r:n.leaf=false->bz n<=335):
 1<=b4 n/\(if n.leaf then b4 n<=n.keys.length-1/\1<=n.keys.length-1 else b4 n<=n.keys.length-2/\1<=n.keys.length-2)/\bz (n.left (b4 n))<=232/\bz (n.right (b4 n))<=232/\
  ∃ (u:b4 n<n.keys.length) (bB bx:O Nat) (bq bM:O aR),p=bB++bx/\L=bq++bM/\cD n.keys[b4 n]/\
   (Q x=some (n.left (b4 n))->Q y=some (n.right (b4 n))->(∀z∈p,P z=Q z)->dH (eW Q h) lo hi [n.keys[b4 n]] [x,y] ((x::bB)++(y::bx)) (bq++bM)):=by
 have main:∀ (i:Nat),2<=i->(F:i<n.keys.length)->2<=(n.left i).keys.length->2<=(n.right i).keys.length->∃ (u:i<n.keys.length) (bB bx:O Nat) (bq bM:O aR),p=bB++bx/\L=bq++bM/\cD n.keys[i]/\
  (Q x=some (n.left i)->Q y=some (n.right i)->(∀z∈p,P z=Q z)->dH (eW Q h) lo hi [n.keys[i]] [x,y] ((x::bB)++(y::bx)) (bq++bM)):=by
  intro i G s w A;obtain⟨bB,bx,bq,bM,rfl,rfl,v1,v2⟩:=b.vA (by omega:1<=i) s;have B:cD n.keys[i]:=by
   match h,b with
   |0,b=>exact b.elim
   |1,b=>exact b.1.ok _ (cr _)
   |h+2,b=>exact b.2.2.1 _ (cr _)
  refine⟨s,bB,bx,bq,bM,rfl,rfl,B,λhx C t=>?_⟩;have s1:=v1.one w hx λz f=>t z (iD _ f);have s2:=v2.one A C λz f=>t z (gV _ f);exact s1.app s2
 match h,b with
 |0,b=>exact b.elim
 |1,b=>
  have a:n.leaf=true:=b.1.leaf;have g:(cellsOf n).length=n.keys.length:=by rw[j2 a,List.length_zipWith,b.1.len,Nat.min_self]
  have j:∀c∈cellsOf n,c<=50:=by
   rw[j2 a];exact vC λk l v D=>by have:=(b.1.ok k l).2;have:=b.1.vals v D;omega
  have E:bz n=1+(cellsOf n).sum:=by unfold bz;rw[a];rfl
  have h2:=h2 a;obtain⟨a1,a2,a3,a4⟩:=CW j I I;have m:b4 n=fG (cellsOf n) ((cellsOf n).length-1):=by unfold b4;rw[a,g];rfl
  rw[←m]at a1 a2 a3 a4;have d:n.left (b4 n)=⟨true,n.keys.take (b4 n),n.vals.take (b4 n),[]⟩:=by unfold aA.left;rw[a];rfl
  have e:n.right (b4 n)=⟨true,n.keys.drop (b4 n),n.vals.drop (b4 n),[]⟩:=by unfold aA.right;rw[a];rfl
  have o:cellsOf (n.left (b4 n))=(cellsOf n).take (b4 n):=by rw[d,j2 rfl,j2 a];exact List.take_zipWith.symm
  have q:cellsOf (n.right (b4 n))=(cellsOf n).drop (b4 n):=by rw[e,j2 rfl,j2 a];exact List.drop_zipWith.symm
  refine⟨I,by rw[a];exact⟨I,I⟩,?_,?_,main _ a1 I (by rw[d];show 2<=(n.keys.take _).length;rw[cC];omega) (by rw[e];show 2<=(n.keys.drop _).length;rw[cX];omega)⟩
  .unfold bz;rw[o,d];show 1+_<=_;omega
  .unfold bz;rw[q,e];show 1+_<=_;omega
 |h+2,b=>
  have a:n.leaf=false:=b.1;have g:(cellsOf n).length=n.keys.length:=by rw[j3 a,dr]
  have j:∀c∈cellsOf n,c<=27:=by
   rw[j3 a];intro c hc;obtain⟨k,l,rfl⟩:=dU.1 hc;have:=(b.2.2.1 k l).2;omega
  have E:bz n=3+(cellsOf n).sum:=by unfold bz;rw[a];rfl
  have r:=r a;obtain⟨a1,a2,a3,a4⟩:=CX j I I;have m:b4 n=fG (cellsOf n) ((cellsOf n).length-2):=by unfold b4;rw[a,g];rfl
  rw[←m]at a1 a2 a3 a4;have d:n.left (b4 n)=⟨false,n.keys.take (b4 n),[],n.kids.take (b4 n+1)⟩:=by unfold aA.left;rw[a];rfl
  have e:n.right (b4 n)=⟨false,n.keys.drop (b4 n+1),[],n.kids.drop (b4 n+1)⟩:=by unfold aA.right;rw[a];rfl
  have o:cellsOf (n.left (b4 n))=(cellsOf n).take (b4 n):=by rw[d,j3 rfl,j3 a];exact mm
  have q:cellsOf (n.right (b4 n))=(cellsOf n).drop (b4 n+1):=by rw[e,j3 rfl,j3 a];exact nG
  refine⟨I,by rw[a];exact⟨I,I⟩,?_,?_,main _ a1 I (by rw[d];show 2<=(n.keys.take _).length;rw[cC];omega) (by rw[e];show 2<=(n.keys.drop _).length;rw[cX];omega)⟩
  .unfold bz;rw[o,d];show 3+_<=_;omega
  .unfold bz;rw[q,e];show 3+_<=_;omega
end Go.Proofs.YtkdhdlfonmgheaaGreat
namespace Go.Proofs.YtkdhdlfonmgheaaGreat
variable {lo hi:aq Key}{P Q:Nat->aq aA}
theorem cZ.cells{h:Nat}{n:aA}{p:O Nat}{L:O aR}(a:cZ P h n lo hi p L):(cellsOf n).length=n.keys.length/\∀c∈cellsOf n,c<=if n.leaf then 50 else 27:=by
 match h,a with
 |0,a=>exact a.elim
 |1,a=>
  have b:n.leaf=true:=a.1.leaf;rw[j2 b,b];exact⟨by rw[List.length_zipWith,a.1.len,Nat.min_self],vC λk d v e=>by have:=(a.1.ok k d).2;have:=a.1.vals v e;simp only[if_true];omega⟩
 |h+2,a=>
  have b:n.leaf=false:=a.1;rw[j3 b,b];refine⟨by rw[dr],λc hc=>?_⟩;obtain⟨k,d,rfl⟩:=dU.1 hc;have:=(a.2.2.1 k d).2;show 3+k.length<=27;omega
theorem cZ.vD{h:Nat}{n:aA}{p:O Nat}{L:O aR}(b:cZ P h n lo hi p L)(hs:80<=bz n):2<=n.keys.length:=by
 obtain⟨h1,h2⟩:=b.cells;have:=lZ h2;rw[h1]at this;unfold bz at hs
 cases a:n.leaf with
 |true=>rw[a]at hs this;simp only[if_true]at hs this;omega
 |false=>rw[a]at hs this;simp only[fC,if_false]at hs this;omega
theorem CY{a b:aA}{s:Key}(h:a.leaf=b.leaf)(f:a.leaf=true->a.vals.length=a.keys.length):bz (du a s b)=if a.leaf then bz a+bz b-1 else bz a+bz b+s.length:=by
 cases c:a.leaf with
 |true=>
  have e:du a s b=⟨true,a.keys++b.keys,a.vals++b.vals,[]⟩:=by unfold du;rw[c];rfl
  have d:b.leaf=true:=by rw[←h,c]
  unfold bz;rw[e,j2 rfl,j2 c,j2 d,c,d];simp only[if_true];rw[nH (f c).symm,kl];omega
 |false=>
  have e:du a s b=⟨false,a.keys++s::b.keys,[],a.kids++b.kids⟩:=by unfold du;rw[c];rfl
  have d:b.leaf=false:=by rw[←h,c]
  unfold bz;rw[e,j3 rfl,j3 c,j3 d,c,d];simp only[fC,if_false,fm,iC,kl,pq];omega
def hD(ks:O Key):Nat:=(ks.map λk=>3+k.length).sum
theorem tw(a b:O Key):hD (a++b)=hD a+hD b:=by unfold hD;rw[fm,kl]
theorem yR{n:aA}(h:n.leaf=false):bz n=3+hD n.keys:=by unfold bz hD;rw[h,j3 h];rfl
theorem CZ(k:Key):hD [k]=3+k.length:=by simp[hD]
theorem vE{n:aA}{ks:O Key}{kids:O Nat}{fr j:Nat}(h:n.leaf=false)(a:ks.length<=1)(b:∀k∈ks,cD k)(c:fr<=j):
 bz ⟨false,n.keys.take fr++ks++n.keys.drop j,[],kids⟩<=bz n+27:=by
 rw[yR h,yR rfl];show 3+hD (n.keys.take fr++ks++n.keys.drop j)<=_;rw[tw,tw];have h1:hD ks<=27:=by
  match ks,a with
  | [],_=>simp[hD]
  | [k],_=>rw[CZ];have:=(b k (by simp)).2;omega
 have h2:hD n.keys=hD (n.keys.take fr)+hD (n.keys.drop fr):=by rw[←tw,hO]
 have d:hD (n.keys.drop fr)=hD ((n.keys.drop fr).take (j-fr))+hD (n.keys.drop j):=by
  rw[←tw]
  congr 1
  have:n.keys.drop j=(n.keys.drop fr).drop (j-fr):=by rw[List.drop_drop];congr 1;omega
  rw[this,hO]
 omega
end Go.Proofs.YtkdhdlfonmgheaaGreat
namespace Go.Proofs.YtkdhdlfonmgheaaGreat
variable {lo hi:aq Key}{P Q:Nat->aq aA}
def k7(Q:Nat->aq aA)(n:aA)(ks:O Key)(kids:O Nat):Prop:=
 (bz n<=232/\∃x,ks=[]/\kids=[x]/\Q x=some n)\/
 (232<bz n/\∃ (x y:Nat) (a:b4 n<n.keys.length),ks=[n.keys[b4 n]]/\kids=[x,y]/\Q x=some (n.left (b4 n))/\Q y=some (n.right (b4 n)))
theorem cZ.fits{h:Nat}{n:aA}{p:O Nat}{L:O aR}{ks:O Key}{kids:O Nat}(a:cZ P h n lo hi p L)(h2:2<=n.keys.length)(d:n.leaf=true->bz n<=310)(e:n.leaf=false->bz n<=335)
 (hf:k7 Q n ks kids) (b:∀x∈p,P x=Q x):∃c,dH (eW Q h) lo hi ks kids c L/\c.Perm (kids++p)/\(∀s∈ks,cD s)/\ks.length<=1:=by
 rcases hf with ⟨_,x,rfl,rfl,hx⟩|⟨hs,x,y,j,rfl,rfl,hx,f⟩
 .exact⟨x::p,a.one h2 hx b,List.Perm.refl _,by simp,by simp⟩
 .obtain⟨_,_,_,_,_,bB,bx,bq,bM,rfl,rfl,g,i⟩:=a.two (Q:=Q) (x:=x) (y:=y) hs d e
  refine⟨_,i hx f b,?_,by simpa using g,by simp⟩;show((x::bB)++(y::bx)).Perm ([x,y]++(bB++bx));simp only[qT,ki];exact(lD).cons x
theorem C0{h:Nat}{a c:aA}{f g:aq Key}{i:Nat}{bB bx b:O Nat}{bq gL bM:O aR}{ks:O Key}{kids:O Nat}(h0:a.leaf=false)(j:∀k∈a.keys,cD k)(l:∀x∈a.kids,x<1600)
 (p:e6 (eW P (h+1)) lo f (a.keys.take i) (a.kids.take i) bB bq) (q:fQ (eW P (h+1)) hi g (a.keys.drop i) (a.kids.drop (i+1)) bx bM) (m:cZ P (h+1) c f g b gL) (h1:80<=bz c) (h2:bz c<=282)
 (hf:k7 Q c ks kids) (d:∀x∈bB++(b++bx),P x=Q x) (r:∀x∈kids,x<1600):
 ∃n,cZ Q (h+2) (ft a i (i+1) ks kids) lo hi n (bq++(gL++bM))/\n.Perm (kids++(bB++(b++bx)))/\bz (ft a i (i+1) ks kids)<=bz a+27/\a.keys.length<=(ft a i (i+1) ks kids).keys.length:=by
 obtain⟨dZ,hs,t,o,u⟩:=m.fits (m.vD h1) (λ_=>I) (λ_=>I) hf λx hx=>d x (gV _ (iD _ hx));have v:=cZ.build p q hs (λx hx=>by
  rcases cH.1 hx with hx|hx
  .exact d x (iD _ hx)
  .exact d x (gV _ (gV _ hx)))
  (λs hs=>by
    rcases cH.1 hs with hs|hs
    .rcases cH.1 hs with hs|hs
     .exact j s (eS hs)
     .exact o s hs
    .exact j s (eJ hs))
  (λx hx=>by
    rcases cH.1 hx with hx|hx
    .rcases cH.1 hx with hx|hx
     .exact l x (eS hx)
     .exact r x hx
    .exact l x (eJ hx))
 have e:ft a i (i+1) ks kids=⟨false,a.keys.take i++ks++a.keys.drop i,[],a.kids.take i++kids++a.kids.drop (i+1)⟩:=by unfold ft;rw[Nat.add_sub_cancel]
 rw[e];refine⟨_,v,?_,vE h0 u o (bo _),?_⟩
 .have av:(dZ++bx).Perm (kids++(b++bx)):=by
   rw[←cV];exact t.append_right _
  refine(List.Perm.append_left bB av).trans ?_;have ax:=(pr (l₁:=bB) (l₂:=kids)).append_right (b++bx);rw[cV,cV]at ax;exact ax
 .show a.keys.length<=(a.keys.take i++ks++a.keys.drop i).length
  have:=congrArg List.length (hO i a.keys);simp only[cF]at this⊢;omega
end Go.Proofs.YtkdhdlfonmgheaaGreat
namespace Go.Proofs.YtkdhdlfonmgheaaGreat
variable {lo hi:aq Key}{P Q:Nat->aq aA}
theorem tx{a b:aA}{s:Key}:a.keys.length+b.keys.length<=(du a s b).keys.length:=by
 unfold du;split
 .show _<=(a.keys++b.keys).length
  rw[cF];omega
 .show _<=(a.keys++s::b.keys).length
  rw[cF,fy];omega
theorem yS{a b:aA}{s:Key}:(du a s b).leaf=a.leaf:=by
 unfold du
 cases h:a.leaf<;>simp
theorem tz{h:Nat}{a b:aA}{s:Key}{d f g i:aq Key}{pa j:O Nat}{k l:O aR}(c:cZ P h a d f pa k)(m:cZ P h b g i j l)(hs:cD s)(h1:bz a+bz b<=311):
 ((du a s b).leaf=true->bz (du a s b)<=310)/\((du a s b).leaf=false->bz (du a s b)<=335):=by
 have n:a.leaf=b.leaf:=by rw[c.leaf,m.leaf]
 have o:a.leaf=true->a.vals.length=a.keys.length:=λh1=>by
  match h,c with
  |0,c=>exact c.elim
  |1,c=>exact c.1.len
  |h+2,c=>rw[c.1]at h1;cases h1
 rw[yS,CY n o];have:=hs.2;constructor
 .intro e;rw[e];simp only[if_true];omega
 .intro e;rw[e];simp only[fC,if_false];omega
theorem C1{h:Nat}{d g:aA}{u v:aq Key}{i:Nat}{bB bx f:O Nat}{bq gL bM:O aR}{k:Key}(h0:d.leaf=false)(w:∀k∈d.keys,cD k)(C:∀x∈d.kids,x<1600)(hlen:d.kids.length=d.keys.length+1)(S:∀x n,P x=some n->bz n<=232)
 (ag:1<=i) (ah:i<d.kids.length) (D:e4 u v k)
 (T:e6 (eW P (h+1)) lo u (d.keys.take i) (d.kids.take i) bB bq) (U:fQ (eW P (h+1)) hi v (d.keys.drop i) (d.kids.drop (i+1)) bx bM) (E:cZ P (h+1) g u v f gL) (h1:bz g<80):
 ∃ (o:aA) (y:O Nat) (F:i-1<d.kids.length) (ai:i-1<d.keys.length),P d.kids[i-1]=some o/\bB.Perm (d.kids[i-1]::y)/\2<=o.keys.length/\
  ∀ (Q:Nat->aq aA) (ks:O Key) (kids:O Nat),k7 Q (du o d.keys[i-1] g) ks kids->(∀x∈y++(f++bx),P x=Q x)->(∀x∈kids,x<1600)->
   ∃G,cZ Q (h+2) (ft d (i-1) (i+1) ks kids) lo hi G (bq++(gL++bM))/\G.Perm (kids++(y++(f++bx)))/\bz (ft d (i-1) (i+1) ks kids)<=bz d+27/\d.keys.length<=(ft d (i-1) (i+1) ks kids).keys.length+1:=by
 obtain⟨s,V,aN,r,aZ,N,hs,rfl,z,rfl,rfl,⟨A,m,j,p⟩,H,aj⟩:=T.last (by rw[cC];omega);have W:(d.keys.take i).length=i:=by rw[cC];omega
 have X:(d.kids.take i).length=i:=by rw[cC];omega
 have z:s=d.keys[i-1]'I:=by
  rw[z,pt];congr 1;omega
 have Y:(d.kids.take i)[(d.kids.take i).length-1]'I=d.kids[i-1]'I:=by
  rw[pt];congr 1;omega
 rw[Y]at A j;obtain⟨o,q,t,rfl,_,J⟩:=A.jC;rw[t]at j;have p:2<=o.keys.length:=by rw[Option.some.inj j];exact p
 clear j;subst z;have B:=(show eW P (h+1) V (some (d.keys[i-1]'I)) (d.kids[i-1]'I) (d.kids[i-1]'I::q) N from⟨A,o,t,p⟩).in;obtain⟨x,hx⟩:=po _ B.1;have K:=w _ (cr (l:=d.keys) (n:=i-1) I);have Z:=cZ.merge J E K (λc hc=>hZ (jA ((B.2.2 x hx).1 c hc) ((B.2.2 x hx).2 _ rfl))) (λc hc=>hZ (jA (D.1 _ rfl) (D.2 c hc)));have L:=tz J E K (by have:=S _ _ t;omega);have ak:=tx (a:=o) (b:=g) (s:=d.keys[i-1]'I);refine⟨o,aN++q,I,I,t,lD,p,λQ ks kids hf M aa=>?_⟩;obtain⟨dZ,ab,ac,R,ad⟩:=Z.fits I L.1 L.2 hf λx hx=>M x (by
  rcases cH.1 hx with hx|hx
  .exact iD _ (gV _ hx)
  .exact gV _ (iD _ hx))
 have ae:(d.keys.take i).take ((d.keys.take i).length-1)=d.keys.take (i-1):=by rw[W,pv];congr 1;omega
 have af:(d.kids.take i).take ((d.kids.take i).length-1)=d.kids.take (i-1):=by rw[X,pv];congr 1;omega
 rw[ae,af]at H;have F:=cZ.build H U ab (λx hx=>M x (by
  rcases cH.1 hx with hx|hx
  .exact iD _ (iD _ hx)
  .exact gV _ (gV _ hx)))
  (λs hs=>by
    rcases cH.1 hs with hs|hs
    .rcases cH.1 hs with hs|hs
     .exact w s (eS hs)
     .exact R s hs
    .exact w s (eJ hs))
  (λx hx=>by
    rcases cH.1 hx with hx|hx
    .rcases cH.1 hx with hx|hx
     .exact C x (eS hx)
     .exact aa x hx
    .exact C x (eJ hx))
 have e:ft d (i-1) (i+1) ks kids=⟨false,d.keys.take (i-1)++ks++d.keys.drop i,[],d.kids.take (i-1)++kids++d.kids.drop (i+1)⟩:=by unfold ft;rw[Nat.add_sub_cancel]
 rw[e];refine⟨_,by simpa[cV] using F,?_,vE h0 ad R I,?_⟩
 .have av:(dZ++bx).Perm (kids++(q++(f++bx))):=by
   have:=ac.append_right bx;simpa[cV] using this
  refine(List.Perm.append_left aN av).trans ?_;have ax:=(pr (l₁:=aN) (l₂:=kids)).append_right (q++(f++bx));simpa[cV] using ax
 .show d.keys.length<=(d.keys.take (i-1)++ks++d.keys.drop i).length+1
  simp only[cF,cC,cX];omega
end Go.Proofs.YtkdhdlfonmgheaaGreat
namespace Go.Proofs.YtkdhdlfonmgheaaGreat
variable {lo hi:aq Key}{P Q:Nat->aq aA}
theorem C2{h:Nat}{d j:aA}{w y:aq Key}{i:Nat}{bB bx f:O Nat}{bq gL bM:O aR}{k:Key}(h0:d.leaf=false)(z:∀k∈d.keys,cD k)(E:∀x∈d.kids,x<1600)(hlen:d.kids.length=d.keys.length+1)(U:∀x n,P x=some n->bz n<=232)
 (p:i+1<d.kids.length) (F:e4 w y k)
 (V:e6 (eW P (h+1)) lo w (d.keys.take i) (d.kids.take i) bB bq) (W:fQ (eW P (h+1)) hi y (d.keys.drop i) (d.kids.drop (i+1)) bx bM) (G:cZ P (h+1) j w y f gL) (h1:bz j<80):
 ∃ (o:aA) (A:O Nat) (H:i+1<d.kids.length) (ae:i<d.keys.length),P d.kids[i+1]=some o/\bx.Perm (d.kids[i+1]::A)/\2<=o.keys.length/\
  ∀ (Q:Nat->aq aA) (ks:O Key) (kids:O Nat),k7 Q (du j d.keys[i] o) ks kids->(∀x∈bB++(f++A),P x=Q x)->(∀x∈kids,x<1600)->
   ∃J,cZ Q (h+2) (ft d i (i+2) ks kids) lo hi J (bq++(gL++bM))/\J.Perm (kids++(bB++(f++A)))/\bz (ft d i (i+2) ks kids)<=bz d+27/\d.keys.length<=(ft d i (i+2) ks kids).keys.length+1:=by
 obtain⟨s,X,r,g,N,af,hs,rfl,B,rfl,rfl,⟨C,m,q,t⟩,K⟩:=W.head (by rw[cX];omega);have B:s=d.keys[i]'I:=by rw[B,qX];rfl
 have Y:(d.kids.drop (i+1))[0]'(by rw[cX];omega)=d.kids[i+1]'p:=by rw[qX]
 rw[Y]at C q;obtain⟨o,u,v,rfl,_,L⟩:=C.jC;rw[v]at q;have t:2<=o.keys.length:=by rw[Option.some.inj q];exact t
 clear q;subst B;have D:=(show eW P (h+1) (some (d.keys[i]'I)) X (d.kids[i+1]'p) (d.kids[i+1]'p::u) N from⟨C,o,v,t⟩).in;obtain⟨x,hx⟩:=po _ D.1;have M:=z _ (cr (l:=d.keys) (n:=i) I);have Z:=cZ.merge G L M (λc hc=>hZ (jA (F.1 c hc) (F.2 _ rfl))) (λc hc=>hZ (jA ((D.2.2 x hx).1 _ rfl) ((D.2.2 x hx).2 c hc)));have R:=tz G L M (by have:=U _ _ v;omega);have ag:=tx (a:=j) (b:=o) (s:=d.keys[i]'I);refine⟨o,u++g,p,I,v,List.Perm.refl _,t,λQ ks kids hf S aa=>?_⟩;obtain⟨dZ,ab,ac,T,ad⟩:=Z.fits I R.1 R.2 hf λx hx=>S x (by
  rcases cH.1 hx with hx|hx
  .exact gV _ (iD _ hx)
  .exact gV _ (gV _ (iD _ hx)))
 rw[List.drop_drop,List.drop_drop]at K;have H:=cZ.build V K ab (λx hx=>S x (by
  rcases cH.1 hx with hx|hx
  .exact iD _ hx
  .exact gV _ (gV _ (gV _ hx))))
  (λs hs=>by
    rcases cH.1 hs with hs|hs
    .rcases cH.1 hs with hs|hs
     .exact z s (eS hs)
     .exact T s hs
    .exact z s (eJ hs))
  (λx hx=>by
    rcases cH.1 hx with hx|hx
    .rcases cH.1 hx with hx|hx
     .exact E x (eS hx)
     .exact aa x hx
    .exact E x (eJ hx))
 have e:ft d i (i+2) ks kids=⟨false,d.keys.take i++ks++d.keys.drop (i+1),[],d.kids.take i++kids++d.kids.drop (i+1+1)⟩:=rfl;rw[e];refine⟨_,by simpa[cV] using H,?_,vE h0 ad T I,?_⟩
 .have av:(dZ++g).Perm (kids++(f++(u++g))):=by
   have:=ac.append_right g;simpa[cV] using this
  refine(List.Perm.append_left bB av).trans ?_;have ax:=(pr (l₁:=bB) (l₂:=kids)).append_right (f++(u++g));simpa[cV] using ax
 .show d.keys.length<=(d.keys.take i++ks++d.keys.drop (i+1)).length+1
  simp only[cF,cC,cX];omega
end Go.Proofs.YtkdhdlfonmgheaaGreat
namespace Go.Proofs.YtkdhdlfonmgheaaGreat
variable {lo hi:aq Key}{P:Nat->aq aA}
def cu(ks:O Key)(k:Key):Nat:=ks.findIdx λs=>decide (¬bX s k)
theorem oK(ks:O Key)(k:Key):cu ks k<=ks.length:=List.findIdx_le_length
theorem m4{ks:O Key}{k:Key}{j:Nat}(h:j<cu ks k)(a:j<ks.length):bX ks[j] k:=by
 have:=List.not_of_lt_findIdx h;simpa using this
theorem oL{ks:O Key}{k:Key}(hs:ks.Pairwise bX){j:Nat}(h:cu ks k<=j)(b:j<ks.length):gb k ks[j]:=by
 have h1:cu ks k<ks.length:=by omega
 have h2:gb k ks[cu ks k]:=by
  have:=List.findIdx_getElem (p:=λs=>decide (¬bX s k)) (xs:=ks) (w:=h1);exact yM.1 (b_ this)
 rcases dR (cu ks k) j with a|a
 .exact hZ (jA h2 (lF.1 hs _ _ h1 b a))
 .have:cu ks k=j:=by omega
  subst this;exact h2
theorem C3{α:Type}{f:α->ai}{L:O α}{i:Nat}(h1:∀x∈L.take i,f x=true)(h2:∀x∈L.drop i,f x=false):L.filter f=L.take i:=by
 conv=>lhs;rw[←hO i L]
 rw[kj,kO.2 h1,pk.2 (λx hx=>by rw[h2 x hx];decide),gi]
theorem yT{α:Type}{f:α->ai}{L:O α}{i:Nat}(h1:∀x∈L.take i,f x=false)(h2:∀x∈L.drop i,f x=true):L.filter f=L.drop i:=by
 conv=>lhs;rw[←hO i L]
 rw[kj,pk.2 (λx hx=>by rw[h1 x hx];decide),kO.2 h2,ki]
theorem vF{ks vs:O Key}{i:Nat}{x:aR}(h:x∈(ks.zip vs).take i):∃ (j:Nat) (a:j<ks.length),j<i/\x.1=ks[j]:=by
 obtain⟨j,a,rfl⟩:=List.mem_take_iff_getElem.1 h;have h1:j<(ks.zip vs).length:=by omega
 rw[nF]at h1;exact⟨j,I,I,by rw[List.getElem_zip]⟩
theorem vG{ks vs:O Key}{i:Nat}{x:aR}(h:x∈(ks.zip vs).drop i):∃ (j:Nat) (a:j<ks.length),i<=j/\x.1=ks[j]:=by
 obtain⟨j,a,rfl⟩:=List.mem_drop_iff_getElem.1 h;have h1:i+j<(ks.zip vs).length:=by omega
 rw[nF]at h1;exact⟨i+j,I,I,by rw[List.getElem_zip]⟩
theorem C4{ks vs:O Key}{k v:Key}(hs:ks.Pairwise bX):gd (ks.zip vs) k v=(ks.zip vs).take (cu ks k)++(k,v)::(ks.zip vs).drop (if ks[cu ks k]? =some k then cu ks k+1 else cu ks k):=by
 unfold gd;rw[C3 (f:=λp:aR=>decide (bX p.1 k)) (i:=cu ks k) (λx hx=>by
  obtain⟨j,a,h1,e⟩:=vF hx;rw[e];exact dL (m4 h1 a)) (λx hx=>by
  obtain⟨j,a,h1,e⟩:=vG hx;rw[e];exact ig (oL hs h1 a))]
 congr 2
 split
 .rename_i he
  obtain⟨aK,he⟩:=iy.1 he;refine yT (λx hx=>?_) (λx hx=>?_)
  .obtain⟨j,a,h1,e⟩:=vF hx
   rw[e];refine ig ?_;rcases dR j (cu ks k) with h2|h2
   .exact j1 (m4 h2 a)
   .have:j=cu ks k:=by omega
    subst this;rw[he];exact mY _
  .obtain⟨j,a,h1,e⟩:=vG hx
   rw[e];refine dL ?_;have:=lF.1 hs _ j aK a I;rwa[he]at this
 .rename_i he
  refine yT (λx hx=>?_) (λx hx=>?_)
  .obtain⟨j,a,h1,e⟩:=vF hx
   rw[e];exact ig (j1 (m4 h1 a))
  .obtain⟨j,a,h1,e⟩:=vG hx
   rw[e];refine dL ?_;rcases mZ.1 (oL hs h1 a) with h2|h2
   .exact h2
   .have aK:cu ks k<ks.length:=by omega
    rcases dR (cu ks k) j with b|b
    .exact jA (oL hs (bo _) aK) (lF.1 hs _ _ aK a b)
    .have:j=cu ks k:=by omega
     subst this;exact absurd ((dE aK).trans (congrArg some h2.symm)) he
end Go.Proofs.YtkdhdlfonmgheaaGreat
namespace Go.Proofs.YtkdhdlfonmgheaaGreat
open Go a6 Go.Proofs.Tryz
theorem tA{n:Nat}(h:n<256):((UInt8.ofNat n).toNat:Nat)=n:=by
 simp[iF h]
theorem yU{src dst:TypeId}{w:J}{s:Y}{ns:O Int}(hs:Tryz.prog.underlying src=some (.slice 5))(hd:Tryz.prog.underlying dst=some .string)(h:Src 1 w s (ns.map (.int .u8))):
 Sem.run ak (convert src dst s) w=.ok (.string (S (ns.map λn=>UInt8.ofNat n.toNat))) w:=by
 rw[BW hs (by kernel_rfl) hd h,BY]
theorem vH{w:J}{A:ae}:∀ (vs:O aa) (i:Nat),(∀j v,vs[j]? =some v->w.cell? (A.add (i+j))=some v)->cz w A i vs.length=some vs
 | [],_,_=>rfl
 |v::vs,i,h=>by
  have h0:=h 0 v rfl
  have a:=vH vs (i+1) (λj u b=>by rw[show i+1+j=i+(j+1) from I];exact h (j+1) u (by simpa using b))
  rw[mj]at h0
  simp[cz,h0,a]
def aF(l:O UInt8):O aa:=l.map λb=>Value.int .u8 (b.toNat:Int)
theorem dA(l:O UInt8):(aF l).length=l.length:=by simp[aF]
theorem m5{l:O UInt8}{i:Nat}(h:i<l.length):(aF l)[i]? =some (.int .u8 ((l[i].toNat:Nat):Int)):=by simp[aF,h]
def oM(c:Nat):aq Nat:=if 48<=c/\c<=57 then some (c-48) else if 97<=c|||32/\c|||32<=122 then some ((c|||32)-97+10) else none
theorem C5(c:UInt8):((c.toNat:Int).toNat.toUInt8)=c:=by simp
theorem k8(l:O UInt8):∀v∈aF l,Plain v:=by
 intro v a;obtain⟨n,_,rfl⟩:=dU.1 a;trivial
theorem m6(a b:O UInt8):aF (a++b)=aF a++aF b:=by simp[aF]
theorem take_succ{α:Type}(ls:O α){i:Nat}(h:i<ls.length):ls.take (i+1)=ls.take i++ [ls[i]]:=by
 rw[iW h]
structure yV where
 Gz:ai
 b:O UInt8
 h:b.length=16
 deriving DecidableEq
def Var(w:J)(b:Nat)(vs:O aa)(T:TypeId):Prop:=bm w b vs.toArray T
section
variable {w w':J}{b:Nat}{vs us:O aa}{T:TypeId}
theorem Var.new(w:J)(vs:O aa)(T:TypeId):Var (w.alloc (.cells vs.toArray T)) w.heap.size vs T:=bm.new _ _ _
theorem Var.rd(h:Var w b vs T){n:Nat}(a:vs.length=n):cz w b 0 n=some vs:=by
 have:=nZ h n 0 0 (by simp[a]);rw[this];simp[←a]
theorem Var.C6(h:Var w b vs T){o n:Nat}(a:o+n<=vs.length):cz w ⟨b,o,none⟩ 0 n=some ((vs.drop o).take n):=by
 have:=nZ h n o 0 (by simpa using a);rw[this];simp
theorem Var.cell(h:Var w b vs T){i:Nat}:w.cell? ⟨b,i,none⟩=vs[i]? :=by
 rw[bm.cell h];simp
theorem Var.ext(h:Var w b vs T)(hx:Ext w w'):Var w' b vs T:=bm.ext h hx
theorem Var.ab{W:Nat->Prop}(h:Var w b vs T)(hx:ad W w w')(a:¬W b):Var w' b vs T:=bm.ab h hx a
theorem Var.drew(h:Var w b vs T):Var w.drew b vs T:=bm.drew h
theorem Var.lt(h:Var w b vs T):b<w.heap.size:=bm.lt h
theorem Var.b2(h:Var w b vs T)(a:us.length=vs.length)(c:∀v∈us,Plain v):bt w b us:=bm.b2 h 0 us (by simp[a]) c
theorem Var.put(h:Var w b vs T)(a:us.length=vs.length):Var (setCells w b 0 us) b us T:=by
 have:=bm.rD us 0 0 h;simp only[mj]at this;have e:(fZ vs.toArray 0 us)=us.toArray:=by
  have h1:=rF us vs.toArray 0 (by simp[a]);rw[cE,a,List.take_zero,ki,dP (by rw[Array.length_toList,hV];simp)]at h1;apply Array.toList_inj.1;rw[h1]
 rwa[e]at this
end
theorem aY{w:J}{K:J->Prop}(h:K w):an w K:=h
theorem bl{w:J}{c:Array aa}{vs:O aa}{T:TypeId}(hc:c=vs.toArray){K:J->Prop}(h:∀w',Var w' w.heap.size vs T->Ext w w'->w'.heap.size=w.heap.size+1->K w'):an (w.alloc (.cells c T)) K:=by
 subst hc;exact h _ (Var.new _ _ _) (ad.alloc (.refl _ _) _) (by simp)
theorem cp{w:J}{b:Nat}{vs us l:O aa}{T:TypeId}(a:Var w b vs T)(c:us.length=vs.length)(d:l=us){K:J->Prop}(h:∀w',Var w' b us T->ad (λq=>q=b) w w'->w'.heap.size=w.heap.size->K w'):an (setCells w b 0 l) K:=by
 subst d;refine h _ (a.put c) (ad.jW (.refl _ _) l 0) ?_;have:∀ (vs:O aa) (i:Nat) (w:J),(setCells w b i vs).heap.size=w.heap.size:=by
  intro vs
  induction vs with
  |nil=>intro i w;rfl
  |cons v vs e=>intro i w;rw[setCells,e];simp[World.setCell]
 exact this _ _ _
theorem Ext.ck{w0 w w':J}{b:Nat}(h:Ext w0 w)(hc:ad (λq=>q=b) w w')(a:w0.heap.size<=b):Ext w0 w':=Ext.dc h hc (λk c=>by subst c;exact a)
theorem Var.vI{w:J}{b o n c:Nat}{vs:O aa}{T:TypeId}{l:O UInt8}(h:Var w b vs T)(e:o+n<=vs.length)(d:(vs.drop o).take n=aF l):Src 1 w ⟨some ⟨b,o,none⟩,n,c⟩ (aF l):=by
 have hlen:n=l.length:=by
  have:=congrArg List.length d;rw[cC,cX,dA]at this;omega
 refine⟨by rw[dA];show _=n*1;omega,(λh=>by cases h),λa f=>?_⟩
 cases f;show cz w ⟨b,o,none⟩ 0 (n*1)=_;rw[fz,h.C6 e,d]
theorem qo:hW ak 48 5 1 1:=⟨by kernel_rfl⟩
theorem C7{k2 dX ty:TypeId}{w:J}{b o dl mH:Nat}{s:Y}{l:O UInt8}(hu:Tryz.prog.underlying k2=some (.slice 5))(hs:Src 1 w s (aF l))(e:s.len<=dl)(a:bt w ⟨b,o,none⟩ (aF l)):
 Sem.run ak (Builtin.copy_ #[k2,dX] ty #[.slice (some ⟨b,o,none⟩) dl mH,s]) w=.ok s.len (setCells w ⟨b,o,none⟩ 0 (aF l)):=by
 have f:Nat.min s.len dl=s.len:=iX e;have c:=g_ (P:=ak) (w:=w) (t:=5) (d:=.int .u8) (by kernel_rfl);have hc:Tryz.prog.cellsOf 5=1:=by kernel_rfl
 rw[hc]at c;have hf:=n0 (P:=ak) hs;have g:=nN (P:=ak) (A:=⟨b,o,none⟩) (aF l) 0 w (by simpa using a.1) a.2;simp[Builtin.copy_,c2 hu,Builtin.lenOf,c,f,hf,g];rfl
def ef(c k:Nat):Nat:=c/2^(8-k)*2^(8-k)
def kb(n i:Nat):Nat:=min (n-8*i) 8
theorem Src.sub{w:J}{s:Y}{vs:O aa}{lo hi:Nat}(h:Src 1 w s vs)(hc:s.len<=s.cap)(h1:lo<=hi)(h2:hi<=s.len):Src 1 w ⟨aO s.a 1 lo s.cap,hi-lo,s.cap-lo⟩ ((vs.drop lo).take (hi-lo)):=by
 have l:vs.length=s.len:=by have:=h.len;omega
 refine⟨by simp;omega,λc=>?_,λa b=>?_⟩
 .have f:s.a=none:=by
   unfold aO at c;split at c
   .exact c
   .simpa using c
  simp[h.nil f]
 .show cz w a 0 ((hi-lo)*1)=_
  by_cases e:hi=lo
  .rw[show hi-lo=0 from I];simp[cz]
  .have ar:∃A,s.a=some A/\a=A.add lo:=by
    unfold aO at b;rw[if_neg I]at b
    cases hs:s.a with
    |none=>rw[hs]at b;cases b
    |some A=>rw[hs]at b;exact⟨A,rfl,by simpa using b.symm⟩
   obtain⟨A,ar,rfl⟩:=ar;have g:=h.rd A ar;have:=vH (w:=w) (A:=A.add lo) ((vs.drop lo).take (hi-lo)) 0 (λj v d=>by
    rw[add_add];have i:j<hi-lo:=by have:=(iy.1 d).1;simp at this;omega
    rw[List.getElem?_take_of_lt i,List.getElem?_drop]at d;have:=pU g d;simpa using this)
   have k:((vs.drop lo).take (hi-lo)).length=hi-lo:=by simp;omega
   rw[k]at this;rw[fz];exact this
def h5(l:O UInt8):Nat:=l.foldl (λn c=>n*256+c.toNat) 0
theorem C8(l m:O UInt8):h5 (l++m)=m.foldl (λn c=>n*256+c.toNat) (h5 l):=by simp[h5,List.foldl_append]
theorem vJ(l:O UInt8)(c:UInt8):h5 (l++ [c])=h5 l*256+c.toNat:=by rw[C8];rfl
theorem l0:∀ (k:Nat) (l:O UInt8),l.length=k->h5 l<256^k:=by
 intro k
 induction k with
 |zero=>intro l h;rw[kM.1 h];simp[h5]
 |succ k a=>
  intro l h;obtain⟨m,c,rfl⟩:∃m c,l=m++ [c]:=by
   rcases List.eq_nil_or_concat l with rfl|⟨m,c,b⟩
   .simp at h
   .exact⟨m,c,by rw[b,List.concat_eq_append]⟩
  rw[vJ,Nat.pow_succ];have:=a m (by simpa using h);have:=UInt8.toNat_lt c;omega
theorem C9{a b:Nat}(c:a<2^64)(d:b<2^64):lJ .u64 (a:Int) (b:Int)=((a|||b:Nat):Int):=by
 have e:BitVec.ofInt 64 (a:Int)=BitVec.ofNat 64 a:=by simp
 have f:BitVec.ofInt 64 (b:Int)=BitVec.ofNat 64 b:=by simp
 unfold lJ;show IntKind.u64.wrap (((BitVec.ofInt 64 (a:Int)|||BitVec.ofInt 64 (b:Int)).toNat:Nat):Int)=_;rw[e,f,BitVec.toNat_or,BitVec.toNat_ofNat,BitVec.toNat_ofNat,iF c,iF d];have:a|||b<2^64:=Nat.or_lt_two_pow c d;have:a|||b<18446744073709551616:=this;rw[gJ I I]
theorem C_(n c:Nat)(hc:c<256):n*256|||c=n*256+c:=by
 have:=Nat.shiftLeft_add_eq_or_of_lt (i:=8) (b:=c) (by simpa using hc) n;rw[Nat.shiftLeft_eq]at this;exact this.symm
theorem jZ{s:Y}{l:O UInt8}{w:J}(hs:Src 1 w s (aF l))(hc:s.len<=s.cap){a k:Nat}(t:1<=k/\k<=8)(u:a+k<=l.length)(x:l.length<=1000000000000):
 aP ak 156 #[s,a,k] w (λv w'=>v=.tuple #[.int .u64 ((h5 ((l.drop a).take k):Nat):Int),true]/\w=w'):=by
 refine okF (af.jZ s a k) az.jZ func156 ?_;(delta af.jZ il al aH aI bW au;dsimp only);have y:s.len=l.length:=by have:=hs.len;rw[dA]at this;omega
 refine Calls.mono (af.Cx s a k w (λv w'=>v=.tuple #[.slice (aO s.a 1 a s.cap) k (s.cap-a),true]/\w=w') ?_) ?_
 .delta af.j0 al au
  rw[bu (n:=(s.len:Int)-(a:Int)) I I,bu (n:=(a:Int)+(k:Int)) I I];refine⟨λh=>?_,λ_=>⟨⟨I,I⟩,⟨I,I⟩,?_,rfl⟩⟩
  .simp only[ic,cR]at h;omega
  .rw[show Int.toNat ((a:Int)+(k:Int))-Int.toNat (a:Int)=k from I];rfl
 rintro _ _ ⟨_,rfl,rfl,rfl⟩;refine⟨⟨aO s.a 1 a s.cap,k,s.cap-a⟩,true,rfl,ct (λb w'=>b=false/\w=w') (λq f=>⟨λh=>by simp at h,λ_=>?_⟩) ?_⟩
 .refine Calls.mono (af.yH k w (λv w'=>v=true/\w=w') ⟨?_,rfl⟩) ?_
  .have h1:decide ((k:Int)>=1)=true:=dL I
   have h2:decide ((k:Int)<=8)=true:=dL I;rw[h1,h2];rfl
  .rintro _ _ ⟨_,rfl,rfl,rfl⟩
   exact⟨_,rfl,f _ _ ⟨rfl,rfl⟩⟩
 rintro _ _ ⟨rfl,rfl⟩;have c:=Src.sub hs hc (lo:=a) (hi:=a+k) I I;rw[show a+k-a=k from I]at c;have c:Src 1 w ⟨aO s.a 1 a s.cap,k,s.cap-a⟩ (aF ((l.drop a).take k)):=by
  simpa[aF,nG,mm] using c
 obtain⟨m,e⟩:∃m,m=(l.drop a).take k:=⟨_,rfl⟩;have z:m.length=k:=by rw[e];simp;omega
 rw[←e]at c⊢;refine⟨λh=>by simp at h,λ_=>⟨λn i w'=>w=w'/\∃j:Nat,i=j/\j<=k/\n=((h5 (m.take j):Nat):Int),λ_ i _=>((k:Int)-i).toNat,⟨rfl,0,rfl,cN _,rfl⟩,?_⟩⟩;rintro _ _ _ ⟨rfl,j,rfl,B,rfl⟩;refine⟨λaK=>?_,λd=>?_⟩
 .have aK:((j:Int)<(k:Int)):=b_ aK
  have aK:j<k:=by omega
  obtain⟨A,ar,g,o⟩:=c.at (m5 (l:=m) (i:=j) I);have h1:=l0 j (m.take j) (by simp;omega);have h2:256^j<=256^7:=qY I I;have h2:256^j<=72057594037927936:=h2;have p:(m[j]).toNat<256:=UInt8.toNat_lt _;have r:((h5 (m.take j):Nat):Int)*2^(min (Int.toNat 8) 64)=((h5 (m.take j)*256:Nat):Int):=by
   show((h5 (m.take j):Nat):Int)*256=_;omega
  refine⟨A,ar,g,_,o,by decide,?_⟩;rw[r,gJ (n:=((h5 (m.take j)*256:Nat):Int)) I I,gJ (n:=((m[j].toNat:Nat):Int)) I I,C9 (by show _<18446744073709551616;omega) (by show _<18446744073709551616;omega),C_ _ _ p,bu (n:=(j:Int)+1) I I];refine⟨⟨rfl,j+1,I,I,?_⟩,?_⟩
  .rw[take_succ m I,vJ]
  .show((k:Int)-((j:Int)+1)).toNat<((k:Int)-(j:Int)).toNat
   omega
 .have d:¬((j:Int)<(k:Int)):=cG d
  have d:j=k:=by omega
  subst d;exact⟨by rw[dP I],rfl⟩
theorem vK{w:J}{s:Y}{l:O UInt8}(h:Src 1 w s (aF l))(g:l.length<=1000000):
 aP ak 135 #[s] w (λv w'=>∃b:Y,v=b/\a7 1 5 w' b (aF l)/\Ext w w'/\∀k,aC b k->w.heap.size<=k):=by
 have i:s.len=l.length:=by have:=h.len;rw[dA]at this;omega
 refine okF (af.mL s) az.mL func135 ?_;delta af.mL al U;refine⟨λc=>?_,λ_=>?_⟩
 .have c:s.a=none:=by simpa using c
  rw[h.nil c];exact⟨⟨none,0,0⟩,rfl,a7.none _ _ _,.refl _ _,λk d=>(gu k d).elim⟩
 .obtain⟨b,w',h1,h2,j,e,f,_⟩:=qo.clone (dG:=48) h (k8 l) I
  exact aY ⟨b,w',h1,b,rfl,h2,e,f⟩
theorem Da{w:J}{s:Y}{l:O UInt8}(c:UInt8)(b:a7 1 5 w s (aF l))(g:l.length<=1000000):
 ∃ (a:Y) (w':J),Sem.run ak (Builtin.append_ #[48,48] 48 #[s,.slice (some w.heap.size) 1 1]) (w.alloc (.cells #[.int .u8 (c.toNat:Int)] 5))=.ok a w'/\
  a7 1 5 w' a (aF (l++ [c]))/\ad (aC s) w w'/\(∀k,aC a k->aC s k\/w.heap.size<=k):=by
 have h:s.len=l.length:=by have:=b.1;rw[dA]at this;omega
 obtain⟨a,w',h1,h2,i,d,e⟩:=qo.push (dG:=48) (w:=w) (s:=s) (xs:=[.int .u8 (c.toNat:Int)]) rfl b (λv f=>by rw[e0.1 f];trivial) I;exact⟨a,w',h1,by rw[m6];exact h2,d,e⟩
def bU(n k:Nat):O UInt8:=(List.range k).map λj=>UInt8.ofNat (n/256^(k-1-j)%256)
theorem eC(n k:Nat):(bU n k).length=k:=by simp[bU]
theorem g1{s:Y}{l:O UInt8}{w:J}(hs:Src 1 w s (aF l))(C:l.length<=100000){n k:Nat}(f:n<2^64)(D:1<=k/\k<=8):
 aP ak 126 #[s,.int .u64 n,k] w (λv w'=>∃a:Y,v=a/\a7 1 5 w' a (aF (l++bU n k))/\Ext w w'/\∀q,aC a q->w.heap.size<=q):=by
 have f:n<18446744073709551616:=f;refine okF (af.g1 s n k) az.g1 func126 ?_;(delta af.g1 aW aH al au U;dsimp only);refine(vK hs I).use ?_;rintro _ w1 ⟨s1,rfl,g,m,o⟩;refine⟨s1,rfl,Calls.mono (af.yH k w1 (λv w'=>v=true/\w1=w') ⟨?_,rfl⟩) ?_⟩
 .have h1:decide ((k:Int)>=1)=true:=dL I
  have h2:decide ((k:Int)<=8)=true:=dL I;rw[h1,h2];rfl
 rintro _ _ ⟨_,rfl,rfl,rfl⟩;rw[bu (n:=(k:Int)-1) I I];refine⟨_,rfl,λh=>by simp at h,λ_=>⟨λt i w'=>∃j:Nat,i=(k:Int)-1-j/\j<=k/\Ext w w'/\(∀q,aC t q->w.heap.size<=q)/\a7 1 5 w' t (aF (l++(bU n k).take j)),λ_ i _=>(i+1).toNat,⟨0,I,I,m,o,by simpa using g⟩,?_⟩⟩;rintro t _ ah ⟨j,rfl,E,b,c,d⟩;refine⟨λaK=>?_,λe=>?_⟩
 .have aK:j<k:=by have:=b_ aK;omega
  rw[bu (n:=8*((k:Int)-1-j)) I I,bu (n:=(k:Int)-1-j-1) I I];have p:IntKind.wrap .u8 (Int.fdiv (n:Int) (2^(min (Int.toNat (8*((k:Int)-1-j))) 64)))=((((UInt8.ofNat (n/256^(k-1-j)%256)).toNat:Nat)):Int):=by
   rw[tA (gB _ I),show min (Int.toNat (8*((k:Int)-1-j))) 64=8*(k-1-j) from I,BX];have r:((2:Int)^(8*(k-1-j)))=((256^(k-1-j):Nat):Int):=by
    rw[Int.pow_mul];simp
   rw[r,Int.fdiv_eq_ediv_of_nonneg _ (Int.natCast_nonneg _)];generalize 256^(k-1-j)=z;rfl
  rw[p];obtain⟨u,x,h1,h2,y,A⟩:=Da (UInt8.ofNat (n/256^(k-1-j)%256)) d (by simp[bU];omega);refine⟨I,aY ⟨u,x,h1,⟨j+1,I,I,Ext.dc b y c,λq B=>?_,?_⟩,?_⟩⟩
  .rcases A q B with h|h
   .exact c q h
   .exact eI b.size h
  .rw[take_succ _ (by rw[eC];exact aK),←cV]
   have:(bU n k)[j]'(by rw[eC];exact aK)=UInt8.ofNat (n/256^(k-1-j)%256):=by simp[bU]
   rw[this];exact h2
  .show((k:Int)-1-j-1+1).toNat<((k:Int)-1-j+1).toNat
   omega
 .have e:j=k:=by have:=cG e;omega
  subst e;rw[dP (by rw[eC];exact bo _)]at d;exact⟨t,rfl,d,b,c⟩
theorem Db(n k:Nat):bU n (k+1)=bU (n/256) k++ [UInt8.ofNat (n%256)]:=by
 unfold bU;rw[List.range_succ,fm]
 congr 1
 .apply List.map_congr_left
  intro j a;have:=iA.1 a;rw[show k+1-1-j=(k-1-j)+1 from I,Nat.pow_succ,Nat.mul_comm,←Nat.div_div_eq_div_mul]
 .simp
theorem vL:∀ (k n:Nat),n<256^k->h5 (bU n k)=n
 |0,n,h=>by
  have:n=0:=by simpa using h
  subst this;rfl
 |k+1,n,h=>by
  rw[Nat.pow_succ]at h
  rw[Db,vJ,vL k (n/256) I,tA (gB _ I)]
  omega
def cv(n:aA):Prop:=gw n\/vx n
def l1(l:Key):O UInt8:=UInt8.ofNat l.length::l
def gj(n:aA)(i:Nat):O UInt8:=l1 (n.keys.getD i [])++if n.leaf then l1 (n.vals.getD i []) else bU (n.kids.getD (i+1) 0) 2
def gM(n:aA)(i m:Nat):O UInt8:=((List.range' i m).map (gj n)).flatten
theorem Dc(n:aA)(i m:Nat):gM n i (m+1)=gj n i++gM n (i+1) m:=rfl
theorem vM(n:aA)(m:Nat):gM n 0 (m+1)=gM n 0 m++gj n m:=by
 unfold gM;rw[List.range'_concat,fm,qZ];simp
def preB(n:aA):O UInt8:=UInt8.ofNat n.keys.length::if n.leaf then [] else bU (n.kids.getD 0 0) 2
def im(n:aA):O UInt8:=preB n++gM n 0 n.keys.length
theorem l2(l:Key):(l1 l).length=l.length+1:=rfl
theorem cv.keys{n:aA}(h:cv n):tv n:=by
 rcases h with h|h
 .exact h.totv
 .exact h.totv
theorem cv.vals{n:aA}(h:cv n):∀v∈n.vals,v.length<=24:=by
 rcases h with h|h
 .exact h.vals
 .rw[h.vals];simp
theorem cv.kids{n:aA}(h:cv n):∀k∈n.kids,k<1600:=by
 rcases h with h|h
 .rw[h.kids];simp
 .exact h.kids
theorem tB{α:Type}{l:O α}{i:Nat}{d:α}(h:i<l.length):l.getD i d∈l:=by
 rw[fg,dE h];exact cr h
theorem vN{n:aA}(h:cv n){i:Nat}(hi:i<n.keys.length):(cellsOf n)[i]? =some (gj n i).length:=by
 unfold cellsOf gj;rcases h with h|h
 .rw[h.leaf]
  simp only[if_true];have a:i<n.vals.length:=by rw[h.len];exact hi
  rw[List.getElem?_zipWith,dE hi,dE a];simp[fg,dE hi,dE a,l2];omega
 .rw[h.inner]
  simp only[fC,if_false];rw[km,dE hi];simp[fg,dE hi,l2,eC];omega
theorem oN{n:aA}(h:cv n):(cellsOf n).length=n.keys.length:=by
 unfold cellsOf;rcases h with h|h
 .rw[h.leaf];simp[h.len]
 .rw[h.inner];simp
theorem vO{n:aA}(h:cv n):∀m,m<=n.keys.length->(gM n 0 m).length=((cellsOf n).take m).sum
 |0,_=>by simp[gM]
 |m+1,b=>by
  have a:m<(cellsOf n).length:=by rw[oN h];omega
  have h1:=vN h (i:=m) I
  rw[dE a]at h1
  have h1:(cellsOf n)[m]=(gj n m).length:=Option.some.inj h1
  rw[vM,cF,vO h m I,oJ a,h1]
theorem vP{n:aA}(h:cv n):(im n).length=bz n:=by
 have e:((cellsOf n).take n.keys.length).sum=(cellsOf n).sum:=by rw[dP (by rw[oN h];exact bo _)]
 unfold im bz preB;rw[cF,vO h _ (bo _),e]
 cases n.leaf<;>simp[eC]
theorem tC{n:aA}(h:cv n):2*n.keys.length<=bz n:=by
 have h1:∀l:O Nat,(∀x∈l,2<=x)->2*l.length<=l.sum:=by
  intro l
  induction l with
  |nil=>simp
  |cons a l c=>
   intro h;have:=h a (by simp);have:=c λx hx=>h x (by simp[hx]);simp only[fy,pq];omega
 have h2:=h1 (cellsOf n) (by
  intro x hx;obtain⟨i,hi,rfl⟩:=eK hx;have d:i<n.keys.length:=by rwa[←oN h]
  have b:=vN h d;rw[dE hi]at b;rw[Option.some.inj b];unfold gj;rw[cF,l2];split
  .rw[l2];omega
  .rw[eC];omega)
 rw[oN h]at h2;unfold bz;omega
abbrev Rd:=O UInt8×ai
def gN(r:Rd)(k:Nat):O UInt8×Rd:=if r.2=false\/r.1.length<k then ([],(r.1,false)) else (r.1.take k,(r.1.drop k,true))
def rdNum(r:Rd)(k:Nat):Nat×Rd:=(if (gN r k).1.length=k then h5 (gN r k).1 else 0,(gN r k).2)
def iK(r:Rd):O UInt8×Rd:=gN (rdNum r 1).2 (rdNum r 1).1
def m7(s:aA×Rd):aA×Rd:=
 let t:=iK s.2
 if s.1.leaf then (⟨s.1.leaf,s.1.keys++ [t.1],s.1.vals++ [(iK t.2).1],s.1.kids⟩,(iK t.2).2)
 else (⟨s.1.leaf,s.1.keys++ [t.1],s.1.vals,s.1.kids++ [(rdNum t.2 2).1]⟩,(rdNum t.2 2).2)
def g3(s:aA×Rd):Nat->aA×Rd
 |0=>s
 |i+1=>m7 (g3 s i)
def k9(leaf:ai)(r:Rd):aA×Rd:=if leaf then (⟨true,[],[],[]⟩,r) else (⟨false,[],[],[(rdNum r 2).1]⟩,(rdNum r 2).2)
def hE(leaf:ai)(b:O UInt8):aA×Rd:=g3 (k9 leaf (rdNum (b,true) 1).2) (rdNum (b,true) 1).1
def kA(leaf:ai)(b:O UInt8)(n:aA):Prop:=cv n/\n.leaf=leaf/\bz n<=232/\im n=b
theorem yW(a b:O UInt8):gN (a++b,true) a.length=(a,(b,true)):=by
 unfold gN;rw[if_neg (by simp)];simp
theorem tD{n k:Nat}(b:O UInt8)(h:n<256^k):rdNum (bU n k++b,true) k=(n,(b,true)):=by
 unfold rdNum;have:=yW (bU n k) b;rw[eC]at this;rw[this];simp[eC,vL k n h]
theorem yX(n:Nat)(h:n<256): [UInt8.ofNat n]=bU n 1:=by
 simp[bU,iF h]
theorem vQ(l:Key)(b:O UInt8)(h:l.length<256):iK (l1 l++b,true)=(l,(b,true)):=by
 have e:l1 l++b=bU l.length 1++(l++b):=by
  rw[←yX _ h];rfl
 unfold iK;rw[e,tD _ (by simpa using h)];exact yW l b
theorem De{n:aA}(h:cv n){i:Nat}(hi:i<n.keys.length)(b:O UInt8):
 m7 (⟨n.leaf,n.keys.take i,n.vals.take i,if n.leaf then [] else n.kids.take (i+1)⟩,(gj n i++b,true))=
  (⟨n.leaf,n.keys.take (i+1),n.vals.take (i+1),if n.leaf then [] else n.kids.take (i+2)⟩,(b,true)):=by
 have e:n.keys.getD i []∈n.keys:=tB hi;have f:=(h.keys.ok _ e).2;have d:n.keys.take (i+1)=n.keys.take i++ [n.keys.getD i []]:=by
  rw[take_succ _ hi,fg,dE hi];rfl
 unfold m7;unfold gj;rcases h with h|h
 .have a:i<n.vals.length:=by rw[h.len];exact hi
  have c:n.vals.getD i []∈n.vals:=tB a;have ev:n.vals.take (i+1)=n.vals.take i++ [n.vals.getD i []]:=by
   rw[take_succ _ a,fg,dE a];rfl
  simp only[h.leaf,if_true];rw[cV,vQ _ _ I];simp only;rw[vQ _ _ (by have:=h.vals _ c;omega),d,ev]
 .have a:i+1<n.kids.length:=by rw[h.len];omega
  have c:n.kids.getD (i+1) 0∈n.kids:=tB a;have ev:n.kids.take (i+2)=n.kids.take (i+1)++ [n.kids.getD (i+1) 0]:=by
   rw[take_succ _ a,fg,dE a];rfl
  simp only[h.inner,fC,if_false,h.vals];rw[cV,vQ _ _ I];simp only;rw[tD _ (by have:=h.kids _ c;show _<65536;omega),d,ev];simp
theorem yY{n:aA}(h:cv n):∀i,i<=n.keys.length->
 g3 (⟨n.leaf,[],[],if n.leaf then [] else n.kids.take 1⟩,(gM n 0 n.keys.length,true)) i=(⟨n.leaf,n.keys.take i,n.vals.take i,if n.leaf then [] else n.kids.take (i+1)⟩,(gM n i (n.keys.length-i),true))
 |0,_=>by simp[g3]
 |i+1,hi=>by
  rw[g3,yY h i I,show n.keys.length-i=n.keys.length-(i+1)+1 from I,Dc]
  exact De h I _
theorem vR{n:aA}(h:cv n)(g:bz n<=232):hE n.leaf (im n)=(n,([],true)):=by
 have i:=tC h;unfold hE;have b:rdNum (im n,true) 1=(n.keys.length,((if n.leaf then [] else bU (n.kids.getD 0 0) 2)++gM n 0 n.keys.length,true)):=by
  have:im n=bU n.keys.length 1++((if n.leaf then [] else bU (n.kids.getD 0 0) 2)++gM n 0 n.keys.length):=by
   rw[←yX _ I];rfl
  rw[this,tD _ (by show _<256;omega)]
 rw[b];simp only;have c:k9 n.leaf ((if n.leaf then [] else bU (n.kids.getD 0 0) 2)++gM n 0 n.keys.length,true)=(⟨n.leaf,[],[],if n.leaf then [] else n.kids.take 1⟩,(gM n 0 n.keys.length,true)):=by
  unfold k9;rcases h with h|h
  .simp[h.leaf]
  .have hd:0<n.kids.length:=by rw[h.len];omega
   have d:n.kids.getD 0 0∈n.kids:=tB hd;have:=h.kids _ d;simp only[h.inner,fC,if_false];rw[tD _ (by show _<65536;omega)]
   cases e:n.kids with
   |nil=>rw[e]at hd;simp at hd
   |cons a l=>simp
 rw[c,yY h _ (bo _)];have f:gM n n.keys.length (n.keys.length-n.keys.length)=[]:=by rw[ml];rfl
 rw[f,dP (bo _)];rcases h with h|h
 .rw[dP (by rw[h.len];exact bo _)]
  have:=h.kids;have:=h.leaf
  cases n
  simp_all
 .rw[dP (by rw[h.vals];simp),dP (by rw[h.len];exact bo _)]
  have:=h.inner
  cases n
  simp_all
theorem kA.uniq{leaf:ai}{b:O UInt8}{n m:aA}(h1:kA leaf b n)(h2:kA leaf b m):n=m:=by
 obtain⟨a1,a2,a3,a4⟩:=h1;obtain⟨cd,bQ,d,e⟩:=h2;have a:=vR a1 a3;have c:=vR cd d;rw[a2,a4]at a;rw[bQ,e,a]at c;exact congrArg Prod.fst c
def qp(n:Nat):Nat:=if n%2=1 then (n/2)^^^0x82f63b78 else n/2
def tE:Nat->Nat->Nat
 |0,n=>n
 |k+1,n=>qp (tE k n)
def yZ(n:Nat)(c:UInt8):Nat:=tE 8 (n^^^c.toNat)
def j4(n:Nat)(l:O UInt8):Nat:=l.foldl yZ n
def hF(l:O UInt8):Nat:=4294967295-j4 4294967295 l
theorem Df{n:Nat}(h:n<4294967296):qp n<4294967296:=by
 unfold qp;split
 .exact Nat.xor_lt_two_pow (n:=32) (by show _<4294967296;omega) (by decide)
 .omega
theorem vS{n:Nat}(h:n<4294967296):∀k,tE k n<4294967296
 |0=>h
 |k+1=>Df (vS h k)
theorem Dg{n:Nat}(h:n<4294967296)(c:UInt8):yZ n c<4294967296:=
 vS (Nat.xor_lt_two_pow (n:=32) h (by have:=UInt8.toNat_lt c;show _<4294967296;omega)) 8
theorem tF:∀ (l:O UInt8) {n:Nat},n<4294967296->j4 n l<4294967296
 | [],_,h=>h
 |c::l,_,h=>tF l (Dg h c)
theorem y0(n:Nat)(a b:O UInt8):j4 n (a++b)=j4 (j4 n a) b:=by simp[j4,List.foldl_append]
theorem vT(l:O UInt8):hF l<4294967296:=by unfold hF;omega
structure g4 where
 kind:Nat
 gen:Nat
 body:O UInt8
 deriving DecidableEq
structure l3(p:g4):Prop where
 bN:1<=p.kind
 bZ:p.kind<=4
 gen:p.gen<18446744073709551616
 body:p.body.length<=232
def gf:O UInt8:=[83,84,78,67]
def eH(no:Nat)(p:g4):O UInt8:=gf++([1,UInt8.ofNat p.kind]++(bU p.body.length 2++(bU no 4++bU p.gen 8)))
def eP(p:g4):O UInt8:=p.body++List.replicate (232-p.body.length) 0
def d_(no:Nat)(p:g4):O UInt8:=eH no p++(bU (hF (eH no p++eP p)) 4++eP p)
theorem l4(no:Nat)(p:g4):(eH no p).length=20:=by simp[eH,gf,eC]
theorem tG{p:g4}(h:l3 p):(eP p).length=232:=by
 have:=h.body;simp[eP];omega
theorem qq{p:g4}(no:Nat)(h:l3 p):(d_ no p).length=256:=by simp[d_,l4,eC,tG h]
def sumOf(l:O UInt8):Nat:=hF (l.take 20++l.drop 24)
def cW(l:O UInt8)(a k:Nat):Nat:=h5 ((l.drop a).take k)
def dk(no:Int)(l:O UInt8):Except Int g4:=
 if l.length≠256 then .error 9
 else if l.take 4≠gf then .error 4
 else if l.getD 4 0≠1 then .error 12
 else if sumOf l≠cW l 20 4 then .error 5
 else if¬(1<=(l.getD 5 0).toNat/\(l.getD 5 0).toNat<=4)\/232<cW l 6 2\/(l.drop (24+cW l 6 2)).all (λc=>c==0)=false then .error 4
 else if¬(0<=no/\no<1600)\/(cW l 8 4:Int)≠no then .error 1
 else .ok ⟨(l.getD 5 0).toNat,cW l 12 8,(l.drop 24).take (cW l 6 2)⟩
theorem drop_left'{α:Type}{a b:O α}{n:Nat}(h:a.length=n):(a++b).drop n=b:=by subst h;exact List.drop_left
theorem k_{α:Type}{a b:O α}{n:Nat}(h:a.length=n):(a++b).take n=a:=by subst h;exact List.take_left
theorem qs{a b:O UInt8}{n k m:Nat}(c:a.length=m)(h:n<256^k):cW (a++(bU n k++b)) m k=n:=by
 unfold cW;rw[drop_left' c,k_ (eC n k),vL k n h]
theorem tH{no:Nat}{p:g4}(o:no<1600)(h:l3 p):dk no (d_ no p)=.ok p:=by
 have q:=h.body;have e:=h.bN;have f:=h.bZ;have hg:=h.gen;have ht:=tG h;have b:=l4 no p;have hc:=vT (eH no p++eP p);have bJ:cW (d_ no p) 20 4=hF (eH no p++eP p):=qs b (by show _<4294967296;exact hc);have a:d_ no p=(gf++ [1,UInt8.ofNat p.kind])++(bU p.body.length 2++((bU no 4++bU p.gen 8)++(bU (hF (eH no p++eP p)) 4++eP p))):=by
  show eH no p++_=_;rw[show eH no p=(gf++ [1,UInt8.ofNat p.kind])++(bU p.body.length 2++(bU no 4++bU p.gen 8)) by simp[eH]];simp only[cV]
 have bp:cW (d_ no p) 6 2=p.body.length:=by rw[a];exact qs rfl (by show _<65536;omega)
 have g:d_ no p=((gf++ [1,UInt8.ofNat p.kind])++bU p.body.length 2)++(bU no 4++(bU p.gen 8++(bU (hF (eH no p++eP p)) 4++eP p))):=by rw[a];simp only[cV]
 have i:cW (d_ no p) 8 4=no:=by rw[g];exact qs (by simp[gf,eC]) (by show _<4294967296;omega)
 have j:d_ no p=((gf++ [1,UInt8.ofNat p.kind])++(bU p.body.length 2++bU no 4))++(bU p.gen 8++(bU (hF (eH no p++eP p)) 4++eP p)):=by rw[a];simp only[cV]
 have k:cW (d_ no p) 12 8=p.gen:=by rw[j];exact qs (by simp[gf,eC]) (by show _<18446744073709551616;exact hg)
 have l:d_ no p=(eH no p++bU (hF (eH no p++eP p)) 4)++eP p:=by simp[d_]
 have m:(eH no p++bU (hF (eH no p++eP p)) 4).length=24:=by simp[b,eC]
 have d24:(d_ no p).drop 24=eP p:=by rw[l];exact drop_left' m
 have t4:(d_ no p).take 4=gf:=by rw[a];rfl
 have n:(d_ no p).getD 4 0=1:=by rw[a];rfl
 have d:((d_ no p).getD 5 0).toNat=p.kind:=by rw[a];show(UInt8.ofNat p.kind).toNat=p.kind;exact tA I
 have s:sumOf (d_ no p)=hF (eH no p++eP p):=by
  unfold sumOf;rw[d24,show(d_ no p).take 20=eH no p from k_ b]
 unfold dk;rw[if_neg (by rw[qq no h];simp),if_neg (by rw[t4];simp),if_neg (by rw[n];simp),if_neg (by rw[s,bJ];simp),if_neg (by
  rw[d,bp];rintro(h1|h1|h1)
  .exact h1 ⟨e,f⟩
  .omega
  .rw[List.all_eq_false]at h1
   obtain⟨c,hc,h1⟩:=h1;rw[←List.drop_drop,d24]at hc;unfold eP at hc;rw[List.drop_left]at hc;exact h1 (by rw[q0 hc];rfl)),if_neg (by rw[i];rintro(h1|h1)<;>omega),d,bp,k,d24]
 have:(eP p).take p.body.length=p.body:=by unfold eP;exact List.take_left
 rw[this]
def gO(s:Y):aa:=s
abbrev gl(w:J)(s:Y):Prop:=∀k,aC s k->w.heap.size<=k
theorem gl.mono{w w':J}{s:Y}(h:gl w' s)(hx:w.heap.size<=w'.heap.size):gl w s:=λk a=>eI hx (h k a)
theorem len8{w:J}{s:Y}{l:O UInt8}(h:Src 1 w s (aF l)):s.len=l.length:=by have:=h.len;rw[dA]at this;omega
theorem ld{w:J}{T:TypeId}{s:Y}{l:O UInt8}(h:a7 1 T w s (aF l)):s.len=l.length:=by have:=h.1;rw[dA]at this;omega
theorem l5{w:J}{s:Y}{l:O UInt8}{lo hi:Nat}(h:Src 1 w s (aF l))(hc:s.len<=s.cap)(h1:lo<=hi)(h2:hi<=s.len):Src 1 w ⟨aO s.a 1 lo s.cap,hi-lo,s.cap-lo⟩ (aF ((l.drop lo).take (hi-lo))):=by
 have:=Src.sub h hc h1 h2;simpa[aF,nG,mm] using this
def ei(ps:O (Y×O UInt8)):O UInt8:=(ps.map (·.2)).flatten
theorem y1(a:O (Y×O UInt8))(p:Y×O UInt8):ei (a++ [p])=ei a++p.2:=by simp[ei]
theorem Dh(ps:O (Y×O UInt8))(j:Nat):(ei (ps.take j)).length<=(ei ps).length:=by
 have h:ps=ps.take j++ps.drop j:=(hO j ps).symm;have:(ei ps).length=(ei (ps.take j)).length+(ei (ps.drop j)).length:=by
  conv=>lhs;rw[h]
  unfold ei;rw[fm,qZ,cF]
 omega
theorem y2(ps:O (Y×O UInt8)){j:Nat}(a:j<ps.length):(ps[j]).2.length<=(ei ps).length:=by
 have h:ps=ps.take j++ps[j]::ps.drop (j+1):=by rw[←lB a,hO]
 have:(ei ps).length=(ei (ps.take j)).length+((ps[j]).2.length+(ei (ps.drop (j+1))).length):=by
  conv=>lhs;rw[h]
  unfold ei;rw[fm,qZ,cF,iC,List.flatten_cons,cF]
 omega
theorem tI{s:Y}{w:J}(ps:O (Y×O UInt8))(hs:Src 1 w s (ps.map λp=>gO p.1))(f:∀p∈ps,Src 1 w p.1 (aF p.2))(t:(ei ps).length<=100000)(u:ps.length<=100000):
 aP ak 92 #[s] w (λv w'=>∃a:Y,v=a/\a7 1 5 w' a (aF (ei ps))/\Ext w w'/\gl w a):=by
 refine okF (af.sH s) az.sH func92 ?_;(delta af.sH al aI ag au;dsimp only);have x:s.len=ps.length:=by have:=hs.len;rw[dr]at this;omega
 refine⟨λa i w'=>∃j:Nat,i=j/\j<=ps.length/\a7 1 5 w' a (aF (ei (ps.take j)))/\Ext w w'/\gl w a,λ_ i _=>((ps.length:Int)-i).toNat,⟨0,rfl,cN _,a7.none 1 5 _,.refl _ _,λk c=>(gu k c).elim⟩,?_⟩;rintro a _ w1 ⟨j,rfl,y,b,hx,hf⟩;refine⟨λaK=>?_,λd=>?_⟩
 .have aK:j<ps.length:=by have:=b_ aK;omega
  obtain⟨A,ar,g,l⟩:=(hs.ext hx).at (i:=j) (v:=gO (ps[j]).1) (by simp[aK]);have e:=(f _ (cr aK)).ext hx;have h1:=y2 ps aK;have h2:=Dh ps j;have m:=len8 e;have o:=ld b;obtain⟨s2,ah,av,ax,z,q,r⟩:=qo.append (dG:=48) e b (k8 _) (by rw[m,o];omega);rw[bu (n:=(j:Int)+1) I I];refine⟨A,ar,g,(ps[j]).1,l,s2,ah,av,⟨j+1,I,I,?_,Ext.dc hx q hf,λk c=>?_⟩,?_⟩
  .rw[take_succ _ aK]
   rw[y1,m6];exact ax
  .rcases r k c with h|h
   .exact hf k h
   .exact eI hx.size h
  .show((ps.length:Int)-((j:Int)+1)).toNat<((ps.length:Int)-(j:Int)).toNat
   omega
 .have d:j=ps.length:=by have:=cG d;omega
  subst d;rw[iB]at b;exact⟨a,rfl,b,hx,hf⟩
theorem Di{s:Y}{l:O UInt8}{w:J}(hs:Src 1 w s (aF l))(hc:s.len<=s.cap){a k:Nat}(b:a+k<=l.length)(c:l.length<=1000000000000):
 aP ak 215 #[s,a,k] w (λv w'=>v=.tuple #[.slice (aO s.a 1 a s.cap) k (s.cap-a),true]/\w=w'):=by
 have d:=len8 hs;refine okF (af.j0 s a k) az.j0 func215 ?_;delta af.j0 al au;rw[bu (n:=(s.len:Int)-(a:Int)) I I,bu (n:=(a:Int)+(k:Int)) I I];refine⟨λh=>?_,λ_=>⟨⟨I,I⟩,⟨I,I⟩,?_,rfl⟩⟩
 .simp only[ic,cR]at h;omega
 .rw[show Int.toNat ((a:Int)+(k:Int))-Int.toNat (a:Int)=k from I];rfl
theorem Dj{s:Y}{l:O UInt8}{w:J}(hs:Src 1 w s (aF l)){a k:Nat}(b:l.length<a+k)(c:a<=l.length)(d:l.length<=1000000000000)(f:k<=1000000000000):
 aP ak 215 #[s,a,k] w (λv w'=>v=.tuple #[(),false]/\w=w'):=by
 have g:=len8 hs;refine okF (af.j0 s a k) az.j0 func215 ?_;delta af.j0 al au;rw[bu (n:=(s.len:Int)-(a:Int)) I I,bu (n:=(a:Int)+(k:Int)) I I];have e:(((decide ((a:Int)<0))||(decide ((k:Int)<0)))||(decide ((a:Int)>(s.len:Int)))||(decide ((k:Int)>((s.len:Int)-(a:Int)))))=true:=by
  simp only[ic,cR];omega
 exact⟨λ_=>⟨rfl,rfl⟩,λh=>(by rw[e]at h;cases h)⟩
theorem oA{s:Y}{l:O UInt8}{w:J}(hs:Src 1 w s (aF l))(hc:s.len<=s.cap){a k:Nat}(d:a+k<=l.length)(f:l.length<=100000):
 aP ak 229 #[s,a,k] w (λv w'=>∃b:Y,v=.tuple #[b,true]/\a7 1 5 w' b (aF ((l.drop a).take k))/\Ext w w'/\gl w b):=by
 have g:=len8 hs;refine okF (af.oA s a k) az.oA func229 ?_;(delta af.oA il aW;dsimp only);refine(Di hs hc d I).use ?_;rintro _ _ ⟨rfl,rfl⟩;have c:=l5 hs hc (lo:=a) (hi:=a+k) I I;rw[show a+k-a=k from I]at c;refine⟨⟨aO s.a 1 a s.cap,k,s.cap-a⟩,true,rfl,(vK c (by simp;omega)).use ?_⟩;rintro _ w1 ⟨b,rfl,e,hx,hf⟩;exact⟨b,rfl,b,rfl,e,hx,hf⟩
theorem Dk{s:Y}{l:O UInt8}{w:J}(hs:Src 1 w s (aF l)){k:Nat}(d:k<=8)(e:l.length<k):
 aP ak 156 #[s,.int .i64 (0:Nat),k] w (λv w'=>v=.tuple #[.int .u64 0,false]/\w=w'):=by
 refine okF (af.jZ s (0:Nat) k) az.jZ func156 ?_;(delta af.jZ il al aH aI bW au;dsimp only);refine(Dj hs (a:=0) I I I I).use ?_;rintro _ _ ⟨rfl,rfl⟩;refine⟨⟨none,0,0⟩,false,rfl,ct (λb w'=>b=true/\w=w') (λq c=>⟨λ_=>c _ _ ⟨rfl,rfl⟩,λh=>by simp at h⟩) ?_⟩;rintro _ _ ⟨rfl,rfl⟩;exact⟨λ_=>⟨rfl,rfl⟩,λh=>by simp at h⟩
theorem tJ{a:Nat}(b:a<4294967296):(BitVec.ofInt 32 (a:Int))=BitVec.ofNat 32 a:=by simp
theorem tK{a b:Nat}(c:a<4294967296)(d:b<4294967296):mx .u32 (a:Int) (b:Int)=((a^^^b:Nat):Int):=by
 unfold mx;show IntKind.u32.wrap (((BitVec.ofInt 32 (a:Int)^^^BitVec.ofInt 32 (b:Int)).toNat:Nat):Int)=_;rw[tJ c,tJ d,BitVec.toNat_xor,BitVec.toNat_ofNat,BitVec.toNat_ofNat,iF (by simpa using c),iF (by simpa using d)];have:a^^^b<4294967296:=Nat.xor_lt_two_pow (n:=32) c d;rw[u9 I I]
theorem Dl{a b:Nat}(c:a<4294967296)(d:b<4294967296):jb .u32 (a:Int) (b:Int)=((a&&&b:Nat):Int):=by
 unfold jb;show IntKind.u32.wrap (((BitVec.ofInt 32 (a:Int)&&&BitVec.ofInt 32 (b:Int)).toNat:Nat):Int)=_;rw[tJ c,tJ d,BitVec.toNat_and,BitVec.toNat_ofNat,BitVec.toNat_ofNat,iF (by simpa using c),iF (by simpa using d)];have:a&&&b<=a:=Nat.and_le_left;rw[u9 I I]
theorem Dm{n:Nat}(b:n<4294967296):
 mx .u32 (Int.fdiv (n:Int) (2^(min (Int.toNat 1) 32))) (jb .u32 2197175160 (IntKind.wrap .u32 (0-(jb .u32 (n:Int) 1))))=((qp n:Nat):Int):=by
 have c:jb .u32 (n:Int) 1=((n%2:Nat):Int):=by
  have:=Dl b (show 1<4294967296 from I);rw[Nat.and_one_is_mod]at this;exact this
 have d:Int.fdiv (n:Int) (2^(min (Int.toNat 1) 32))=((n/2:Nat):Int):=by
  rw[Int.fdiv_eq_ediv_of_nonneg _ (by decide)];rfl
 rw[c,d];unfold qp;rcases Nat.mod_two_eq_zero_or_one n with h|h
 .rw[h,if_neg I]
  have a:jb .u32 2197175160 (IntKind.wrap .u32 (0-((0:Nat):Int)))=((0:Nat):Int):=by decide+kernel
  rw[a,tK I I,Nat.xor_zero]
 .rw[h,if_pos rfl]
  have a:jb .u32 2197175160 (IntKind.wrap .u32 (0-((1:Nat):Int)))=((2197175160:Nat):Int):=by decide+kernel
  rw[a,tK I I]
theorem oC{s:Y}{l:O UInt8}{w:J}{n:Nat}(hs:Src 1 w s (aF l))(e:n<4294967296)(h:l.length<=1000000):
 aP ak 238 #[.int .u32 n,s] w (λv w'=>v=.int .u32 (j4 n l:Nat)/\w=w'):=by
 have o:=len8 hs;refine okF (af.oC n s) az.oC func238 ?_;(delta af.oC al aI bW au;dsimp only);refine⟨λm i w'=>∃j:Nat,i=j/\j<=l.length/\m=((j4 n (l.take j):Nat):Int)/\w=w',λ_ i _=>((l.length:Int)-i).toNat,⟨0,rfl,cN _,rfl,rfl⟩,?_⟩;rintro _ _ _ ⟨j,rfl,p,rfl,rfl⟩;refine⟨λaK=>?_,λa=>?_⟩
 .have aK:j<l.length:=by have:=b_ aK;omega
  obtain⟨A,ar,f,g⟩:=hs.at (m5 aK);have c:=tF (l.take j) e;have hc:=UInt8.toNat_lt (l[j]);have hx:=Nat.xor_lt_two_pow (n:=32) c (show(l[j]).toNat<4294967296 from I);refine⟨A,ar,f,_,g,λm i w'=>∃k:Nat,i=k/\k<=8/\m=((tE k (j4 n (l.take j)^^^(l[j]).toNat):Nat):Int)/\w=w',λ_ i _=>((8:Int)-i).toNat,⟨0,rfl,I,?_,rfl⟩,?_⟩
  .rw[u9 I I,tK c I];rfl
  rintro _ _ _ ⟨k,rfl,q,rfl,rfl⟩;refine⟨λd=>?_,λb=>?_⟩
  .have d:k<8:=by have:=b_ d;omega
   rw[Dm (vS hx k),bu (n:=(k:Int)+1) I I];refine⟨by decide,⟨k+1,I,I,rfl,rfl⟩,?_⟩;show((8:Int)-((k:Int)+1)).toNat<((8:Int)-(k:Int)).toNat;omega
  .have b:k=8:=by have:=cG b;omega
   subst b;rw[bu (n:=(j:Int)+1) I I];refine⟨⟨j+1,I,I,?_,rfl⟩,?_⟩
   .rw[take_succ _ aK,y0];rfl
   .show((l.length:Int)-((j:Int)+1)).toNat<((l.length:Int)-(j:Int)).toNat
    omega
 .have a:j=l.length:=by have:=cG a;omega
  subst a;rw[iB];exact⟨rfl,rfl⟩
theorem Dn{n:Nat}(h:n<4294967296):4294967295^^^n=4294967295-n:=by
 apply Nat.eq_of_testBit_eq;intro i;have h1:(4294967295-n).testBit i=(decide (i<32)&& !n.testBit i):=by
  have:=Nat.testBit_two_pow_sub_succ (n:=32) (x:=n) (by simpa using h) i;rw[←this];congr 1;omega
 have h2:(4294967295:Nat).testBit i=decide (i<32):=by
  have:=Nat.testBit_two_pow_sub_one 32 i;exact this
 rw[Nat.testBit_xor,h1,h2];by_cases hi:i<32
 .simp[hi]
 .have:n.testBit i=false:=by
   apply Nat.testBit_lt_two_pow;exact fl h (qY (n:=2) I (show 32<=i from I))
  simp[hi,this]
theorem Dp{s:Y}{w:J}(ps:O (Y×O UInt8))(hs:Src 1 w s (ps.map λp=>gO p.1))(e:∀p∈ps,Src 1 w p.1 (aF p.2))(h:(ei ps).length<=100000)(k:ps.length<=100000):
 aP ak 195 #[s] w (λv w'=>v=.int .u32 (hF (ei ps):Nat)/\w=w'):=by
 refine okF (af.s4 s) az.s4 func195 ?_;(delta af.s4 al aI ag gv au;dsimp only);have l:s.len=ps.length:=by have:=hs.len;rw[dr]at this;omega
 refine⟨λm i w'=>∃j:Nat,i=j/\j<=ps.length/\m=((j4 4294967295 (ei (ps.take j)):Nat):Int)/\w=w',λ_ i _=>((ps.length:Int)-i).toNat,⟨0,rfl,cN _,rfl,rfl⟩,?_⟩;rintro _ _ _ ⟨j,rfl,o,rfl,rfl⟩;refine⟨λaK=>?_,λd=>?_⟩
 .have aK:j<ps.length:=by have:=b_ aK;omega
  obtain⟨A,ar,f,g⟩:=hs.at (i:=j) (v:=gO (ps[j]).1) (by simp[aK]);have c:=tF (ei (ps.take j)) (n:=4294967295) (by decide);refine⟨A,ar,f,(ps[j]).1,g,(oC (e _ (cr aK)) c (by have:=y2 ps aK;omega)).use ?_⟩;rintro _ _ ⟨rfl,rfl⟩;rw[bu (n:=(j:Int)+1) I I];refine⟨_,rfl,⟨j+1,I,I,?_,rfl⟩,?_⟩
  .rw[take_succ _ aK,←y0,y1]
  .show((ps.length:Int)-((j:Int)+1)).toNat<((ps.length:Int)-(j:Int)).toNat
   omega
 .have d:j=ps.length:=by have:=cG d;omega
  subst d;rw[iB];have c:=tF (ei ps) (n:=4294967295) (by decide);refine⟨?_,rfl⟩;have:=tK (a:=4294967295) (b:=j4 4294967295 (ei ps)) (by decide) c;rw[Dn c]at this;exact congrArg _ this
theorem mP{s:Y}{l:O UInt8}{w:J}(hs:Src 1 w s (aF l))(hc:s.len<=s.cap)(e:l.length=256):
 aP ak 134 #[s] w (λv w'=>v=.int .u32 (sumOf l:Nat)/\Ext w w'):=by
 have f:=len8 hs;refine okF (af.mP s) az.mP func134 ?_;(delta af.mP an gv U;dsimp only);have b:Ext w w.drew:=ad.drew (.refl _ _);refine⟨⟨by decide,I⟩,⟨by decide,I⟩,?_⟩;have h1:=l5 (hs.ext b) hc (lo:=0) (hi:=20) I I;have h2:=l5 (hs.ext b) hc (lo:=24) (hi:=s.len) I I;have c:∀o,Ext w.drew (w.drew.alloc o):=λo=>ad.alloc (.refl _ _) o;refine(Dp [(⟨aO s.a 1 0 s.cap,20-0,s.cap-0⟩,(l.drop 0).take (20-0)),(⟨aO s.a 1 24 s.cap,s.len-24,s.cap-24⟩,(l.drop 24).take (s.len-24))] (s:=⟨some w.drew.heap.size,2,2⟩) (Src.new w.drew _ 2 rfl) ?_ ?_ ?_).use ?_
 .intro p d
  simp only[cP,eE,eL]at d;rcases d with rfl|rfl
  .exact h1.ext (c _)
  .exact h2.ext (c _)
 .simp[ei];omega
 .simp
 rintro _ w1 ⟨rfl,rfl⟩;refine⟨_,rfl,?_,b.trans (c _)⟩;have:ei [((⟨aO s.a 1 0 s.cap,20-0,s.cap-0⟩:Y),(l.drop 0).take (20-0)),(⟨aO s.a 1 24 s.cap,s.len-24,s.cap-24⟩,(l.drop 24).take (s.len-24))]=l.take 20++l.drop 24:=by
  simp only[ei,iC,List.map_nil,List.flatten_cons,List.flatten_nil,gi,lG];rw[dP (l:=l.drop 24) (by rw[cX];omega)]
 rw[this];rfl
theorem a7.Dq{T:TypeId}{w:J}{s:Y}{vs us:O aa}{b o:Nat}(h:a7 1 T w s vs)(d:s.a=some ⟨b,0,none⟩)(n:o+us.length<=s.len):
 a7 1 T (setCells w ⟨b,o,none⟩ 0 us) s (vs.take o++us++vs.drop (o+us.length)):=by
 obtain⟨h1,h2,g,i⟩:=h;rcases i with ⟨j,_⟩|⟨p,c,e,k,f,ht⟩
 .rw[j]at d;cases d
 .rw[d]at e
  cases e;have q:c.toList.length=s.cap:=by simpa using f
  have m:o+us.length<=c.size:=by omega
  rw[fz]at h1 f;refine⟨by simp;omega,h2,g,.inr ⟨b,_,d,bm.je k us,by rw[hV];omega,?_⟩⟩;rw[fz]at ht⊢;rw[ku _ _ _ m,←ht,pv,iX I,cV,cV,List.take_append,List.take_append,cC,iX I,
   dP (l:=c.toList.take o) (by rw[cC];omega),dP (l:=us) I,List.drop_take,show s.len-o-us.length=s.len-(o+us.length) from I]
theorem tL(w:J)(l:O UInt8):
 ∃w',Sem.run ak (convert 48 48 (.slice (some w.heap.size) l.length l.length)) (w.alloc (.cells (aF l).toArray 5))=.ok (.slice (some w.heap.size) l.length l.length) w'/\
  Src 1 w' ⟨some w.heap.size,l.length,l.length⟩ (aF l)/\Ext w w'/\w'.heap.size=w.heap.size+1:=by
 refine⟨_,Go.Lib.run_convert_bytes_const (P:=ak) w 48 5 (aF l).toArray l.length l.length (by kernel_rfl) (by kernel_rfl),⟨by rw[dA,fz],(λh=>by cases h),λa b=>?_⟩,ad.alloc (.refl _ _) _,by simp⟩
 cases b;have:=vH (w:=w.alloc (.cells (aF l).toArray 5 ((aF l).toArray.size,(aF l).toArray.size+1))) (A:=w.heap.size) (aF l) 0 (λj v c=>by
  rw[ay];show(World.cell? _ _)=_;have:(w.alloc (.cells (aF l).toArray 5 ((aF l).toArray.size,(aF l).toArray.size+1))).heap[w.heap.size]? =some (.cells (aF l).toArray 5 ((aF l).toArray.size,(aF l).toArray.size+1)):=by
   show(w.heap.push _)[w.heap.size]? =_;simp
  simp only[World.cell?,this];simpa using c)
 rw[dA]at this;rw[fz];exact this
theorem vU(n:Nat):gC ak 5 n=(aF (List.replicate n 0)).toArray:=by
 rw[yl (v:=.int .u8 0) (by kernel_rfl) (by kernel_rfl)];simp[aF]
theorem Dr{A Z T C:O UInt8}{n m:Nat}(ar:A.length=n)(a:Z.length=m):(aF (A++(Z++T))).take n++aF C++(aF (A++(Z++T))).drop (n+m)=aF (A++(C++T)):=by
 have b:(aF (A++(Z++T))).take n=aF A:=by rw[m6];exact k_ (by rw[dA,ar])
 have c:(aF (A++(Z++T))).drop (n+m)=aF T:=by rw[←cV,m6];exact drop_left' (by rw[dA,cF,ar,a])
 rw[b,c,m6,m6,cV]
theorem cw(w:J):Ext w w.drew:=ad.drew (.refl _ _)
theorem eu(w:J)(o:Obj):Ext w (w.alloc o):=ad.alloc (.refl _ _) o
theorem qt(w:J)(o:Obj):(w.alloc o).heap.size=w.heap.size+1:=by simp
theorem tM{s:Y}{p:g4}{no:Nat}{w:J}(hs:Src 1 w s (aF p.body))(a3:no<1600)(i:l3 p):
 aP ak 73 #[no,.agg #[p.kind,.int .u64 p.gen,s]] w (λv w'=>∃E:Y,v=.tuple #[E,(0:Int)]/\a7 1 5 w' E (aF (d_ no p))/\Ext w w'/\gl w E):=by
 have a4:=i.bN;have a5:=i.bZ;have a6:=i.gen;have a8:=i.body;have N:=len8 hs;refine okF (af.sw no p.kind p.gen s) az.sw func73 ?_;(delta af.sw aH al r1 U ag aW bF jy vm au vn gv;dsimp only);refine bl (vs:=[p.kind,.int .u64 p.gen,s]) rfl λw1 y F a9=>?_;have aT:∀ {w':J},Ext w1 w'->w'.cell? (Addr.add w.heap.size 2)=some (.slice s.a s.len s.cap):=λhx=>by rw[ay];exact(y.ext hx).cell
 have aB:∀ {w':J},Ext w1 w'->w'.cell? (Addr.add w.heap.size 1)=some (.int .u64 p.gen):=λhx=>by rw[ay];exact(y.ext hx).cell
 refine Calls.mono (af.yF no w1 (λv w'=>v=true/\w1=w') ⟨by simp;omega,rfl⟩) ?_;rintro _ _ ⟨_,rfl,rfl,rfl⟩;refine⟨_,rfl,ct (λb w'=>b=false/\w1=w') (λq j=>⟨λh1=>by simp at h1,λh1=>⟨p.kind,y.cell,?_⟩⟩) ?_⟩
 .refine Calls.mono (af.yG p.kind w1 (λv w'=>v=true/\w1=w') ⟨by simp;omega,rfl⟩) ?_
  rintro _ _ ⟨_,rfl,rfl,rfl⟩;exact⟨_,rfl,j _ _ ⟨rfl,rfl⟩⟩
 rintro b _ ⟨rfl,rfl⟩;refine⟨λh=>(by cases h),λ_=>⟨s,aT (.refl _ _),λh=>(by have:=b_ h;omega),λ_=>aY ?_⟩⟩
 obtain⟨ah,ai,aj,O,a_⟩:=tL w1 gf;refine⟨⟨some w1.heap.size,4,4⟩,ah,ai,p.kind,(y.ext O).cell,?_⟩;have am:IntKind.wrap .u8 (p.kind:Int)=(((UInt8.ofNat p.kind).toNat:Nat):Int):=by rw[tA I,u7 I I]
 rw[am];have z:=Src.new (T:=5) (sz:=1) ah (aF [1,UInt8.ofNat p.kind]) 2 rfl;have G:=eu ah (.cells (aF [1,UInt8.ofNat p.kind]).toArray 5);obtain⟨f,ao⟩:∃f,f=ah.alloc (.cells (aF [1,UInt8.ofNat p.kind]).toArray 5):=⟨_,rfl⟩;show an (ah.alloc (.cells (aF [1,UInt8.ofNat p.kind]).toArray 5)) _;rw[←ao]at z G⊢;refine aY ?_;have H:=Src.new (T:=48) (sz:=1) f [.slice (some w1.heap.size) 4 4,.slice (some ah.heap.size) 2 2] 2 rfl;have A:=eu f (.cells #[.slice (some w1.heap.size) 4 4,.slice (some ah.heap.size) 2 2] 48);obtain⟨B,P⟩:∃B,B=f.alloc (.cells #[.slice (some w1.heap.size) 4 4,.slice (some ah.heap.size) 2 2] 48):=⟨_,rfl⟩;have H:Src 1 B ⟨some f.heap.size,2,2⟩ [.slice (some w1.heap.size) 4 4,.slice (some ah.heap.size) 2 2]:=by rw[P];exact H
 rw[←P]at A⊢;have ap:Ext w1 B:=O.trans (G.trans A);refine aY ((tI (s:=⟨some f.heap.size,2,2⟩) [((⟨some w1.heap.size,4,4⟩:Y),gf),(⟨some ah.heap.size,2,2⟩,[1,UInt8.ofNat p.kind])] H ?_ (by simp[ei,gf]) (by simp)).use ?_)
 .intro q j
  simp only[cP,eE,eL]at j;rcases j with rfl|rfl
  .exact aj.ext (G.trans A)
  .exact z.ext A
 rintro _ ba ⟨aq,rfl,Q,ar,bb⟩;have R:=ap.trans ar;have av:ei [((⟨some w1.heap.size,4,4⟩:Y),gf),(⟨some ah.heap.size,2,2⟩,[1,UInt8.ofNat p.kind])]=gf++ [1,UInt8.ofNat p.kind]:=by simp[ei]
 rw[av]at Q;refine⟨aq,rfl,s,aT R,?_⟩;rw[gJ (n:=(s.len:Int)) I I,gJ (n:=(no:Int)) I I];refine(g1 Q.src (n:=s.len) (k:=2) (by simp[gf]) (by show _<18446744073709551616;omega) ⟨by decide,by decide⟩).use ?_;rintro _ bc ⟨aw,rfl,ax,aA,bd⟩;have aC:=R.trans aA;refine⟨aw,rfl,(g1 ax.src (n:=no) (k:=4) (by simp[gf,eC]) (by show _<18446744073709551616;omega) ⟨by decide,by decide⟩).use ?_⟩;rintro _ be ⟨aD,rfl,aE,aG,bf⟩;have S:=aC.trans aG;refine⟨aD,rfl,_,aB S,(g1 aE.src (n:=p.gen) (k:=8) (by simp[gf,eC]) (by show _<18446744073709551616;omega) ⟨by decide,by decide⟩).use ?_⟩;rintro _ d ⟨u,rfl,V,aI,bg⟩;have C:=S.trans aI;have aJ:gf++ [1,UInt8.ofNat p.kind]++bU s.len 2++bU no 4++bU p.gen 8=eH no p:=by rw[N];simp[eH]
 rw[aJ]at V;refine⟨u,rfl,ct (λt w'=>a7 1 5 w' t (aF (eH no p++(List.replicate 4 0++eP p)))/\Ext w1 w'/\gl w t) (λq j=>?_) ?_⟩
 .have m:=cw d
  have W:=C.trans m;have aK:IntKind.wrap .i64 (232-(s.len:Int))=((232-s.len:Nat):Int):=by rw[bu I I];omega
  refine aY ⟨λ_=>False,id,s,aT W,id,s,aT W,?_⟩;rw[aK];simp only[di,show Int.toNat 4=4 from rfl];rw[vU,vU];have fin:∀ (K dS:J) (gD cc:Y),Ext d dS->Src 1 dS gD (aF (List.replicate 4 0))->Src 1 dS cc (aF (List.replicate (232-s.len) 0))->
   Calls ak 92 #[.slice (some dS.heap.size) 4 4] (dS.alloc (.cells #[u,gD,s,cc] 48)) λaL aM=>∃X:Y,aL=.returned X/\q X aM:=by
   intro K dS gD cc D h1 h2;have r:=eu dS (.cells #[u,gD,s,cc] 48);refine(tI (s:=⟨some dS.heap.size,4,4⟩) [(u,eH no p),(gD,List.replicate 4 0),(s,p.body),(cc,List.replicate (232-s.len) 0)] (Src.new dS _ 4 rfl) ?_ (by simp[ei,l4];omega) (by simp)).use ?_
   .intro x hx
    simp only[cP,eE,eL]at hx;rcases hx with rfl|rfl|rfl|rfl
    .exact V.src.ext (D.trans r)
    .exact h1.ext r
    .exact hs.ext ((F.trans (C.trans D)).trans r)
    .exact h2.ext r
   .rintro _ Z ⟨aN,rfl,aQ,hx,hf⟩
    refine⟨aN,rfl,j _ _ ⟨?_,(C.trans D).trans (r.trans hx),hf.mono (F.trans ((C.trans D).trans r)).size⟩⟩;have e:ei [(u,eH no p),(gD,List.replicate 4 0),(s,p.body),(cc,List.replicate (232-s.len) 0)]=eH no p++(List.replicate 4 0++eP p):=by simp[ei,eP,N]
    rwa[e]at aQ
  refine⟨⟨⟨by decide,by decide,by decide,by decide⟩,aY ⟨eu _ _,⟨I,Int.le_refl _,I,I⟩,aY ⟨eu _ _,aY ?_⟩⟩⟩,⟨⟨I,Int.le_refl _,I,I⟩,aY ⟨eu _ _,⟨by decide,by decide,by decide,by decide⟩,aY ⟨eu _ _,aY ?_⟩⟩⟩⟩
  .refine fin d _ ⟨some d.drew.heap.size,4,4⟩ ⟨some ⟨(d.drew.alloc _).heap.size,0,none⟩,232-s.len,232-s.len⟩ (m.trans ((eu _ _).trans (eu _ _))) (Src.ext (Src.new _ _ _ (by simp[aF])) (eu _ _)) (Src.new _ _ _ (by simp[aF]))
  .refine fin d _ ⟨some ⟨(d.drew.alloc _).heap.size,0,none⟩,4,4⟩ ⟨some d.drew.heap.size,232-s.len,232-s.len⟩ (m.trans ((eu _ _).trans (eu _ _))) (Src.new _ _ _ (by simp[aF])) (Src.ext (Src.new _ _ _ (by simp[aF])) (eu _ _))
 rintro t K ⟨g,aR,aa⟩;have bh:t.len=256:=by
  have:=ld g;rw[this];simp[l4,tG i]
 have m:=cw K;refine aY ⟨λ_=>False,⟨by decide,I⟩,(mP (g.src.ext m) g.2.1 (by simp[l4,tG i])).use ?_⟩;rintro _ Z ⟨rfl,aS⟩;have es:sumOf (eH no p++(List.replicate 4 0++eP p))=hF (eH no p++eP p):=by
  unfold sumOf;rw[k_ (l4 no p),←cV,drop_left' (by simp[l4])]
 rw[es];have bi:=vT (eH no p++eP p);refine⟨_,rfl,λ_=>False,?_⟩;rw[gJ I I];refine(g1 (s:=⟨none,0,0⟩) (l:=[]) (n:=hF (eH no p++eP p)) (k:=4) (a7.none 1 5 Z).src (by simp) (by show _<18446744073709551616;omega) ⟨by decide,by decide⟩).use ?_;rintro _ aU ⟨aV,rfl,L,aX,bj⟩;rw[ki]at L;have ab:=m.trans (aS.trans aX);have ac:=g.ext ab;have ae:=ld L;rw[eC]at ae;obtain⟨b,c,M,aZ,bk,_⟩:∃b c,t.a=some ⟨b,0,none⟩/\bm aU b c 5/\c.size=t.cap*1/\c.toList.take (t.len*1)=aF (eH no p++(List.replicate 4 0++eP p)):=by
  rcases ac.2.2.2 with ⟨_,hc⟩|⟨b,c,h1,h2,a0,a1⟩
  .have:=g.2.1;omega
  .exact⟨b,c,h1,h2,a0,a1⟩
 have a2:aO t.a 1 (Int.toNat 20) t.cap=some ⟨b,20,none⟩:=by
  rw[M,show Int.toNat 20=20 from rfl,rG (by have:=g.2.1;omega)]
 have bn:=g.2.1;refine⟨aV,rfl,_,_,by rw[a2];exact C7 (by kernel_rfl) L.src (by rw[ae];show 4<=t.len-20;omega) (aZ.b2 _ _ (by rw[dA,eC];omega) (k8 _)),t,rfl,?_,?_,aa⟩
 .have:=a7.Dq ac M (o:=20) (us:=aF (bU (hF (eH no p++eP p)) 4)) (by rw[dA,eC];omega)
  have e:(aF (eH no p++(List.replicate 4 0++eP p))).take 20++aF (bU (hF (eH no p++eP p)) 4)++(aF (eH no p++(List.replicate 4 0++eP p))).drop (20+(aF (bU (hF (eH no p++eP p)) 4)).length)=aF (d_ no p):=by
   rw[dA,eC];exact Dr (l4 no p) (by simp)
  rwa[e]at this
 .refine Ext.dc (F.trans (aR.trans ab)) (ad.jW (.refl _ _) _ 0) λk z=>?_
  subst z;exact aa _ ⟨_,M,rfl⟩
theorem k4{s:Y}{l:O UInt8}{w:J}(hs:Src 1 w s (aF l))(hc:s.len<=s.cap){a k:Nat}{e:Int}(he:e=((a+k:Nat):Int))(b:1<=k/\k<=8)(c:a+k<=l.length)(d:l.length<=1000):
 aP ak 227 #[s,a,e] w (λv w'=>v=.int .u64 (cW l a k:Nat)/\w=w'):=by
 subst he;refine okF (af.k4 s a ((a+k:Nat):Int)) az.k4 func227 ?_;(delta af.k4 n4 au;dsimp only);rw[bu I I,show(((a+k:Nat):Int)-(a:Int))=(k:Int) from I];refine(jZ hs hc b c I).use ?_;rintro _ _ ⟨rfl,rfl⟩;exact⟨_,_,rfl,rfl,rfl⟩
theorem oz{s:Y}{l:O UInt8}{w:J}(hs:Src 1 w s (aF l))(o:l.length<=1000):
 aP ak 228 #[s] w (λv w'=>v=.bool (l.all λc=>c==0)/\w=w'):=by
 have p:=len8 hs;refine okF (af.oz s) az.oz func228 ?_;(delta af.oz al aI bW au;dsimp only);refine⟨λi w'=>∃j:Nat,i=j/\j<=l.length/\w=w'/\∀ (k:Nat) (a:k<l.length),k<j->l[k]=0,λi _=>((l.length:Int)-i).toNat,⟨0,rfl,cN _,rfl,λk a h=>I⟩,?_⟩;rintro _ _ ⟨j,rfl,q,rfl,d⟩;refine⟨λaK=>?_,λb=>?_⟩
 .have aK:j<l.length:=by have:=b_ aK;omega
  obtain⟨A,ar,f,g⟩:=hs.at (m5 aK);refine⟨A,ar,f,_,g,λe=>?_,λm=>?_⟩
  .refine⟨?_,rfl⟩
   have:(l.all λc=>c==0)=false:=by
    rw[List.all_eq_false];refine⟨l[j],cr _,λh=>?_⟩;have h:=eq_of_beq h;rw[h]at e;simp at e
   rw[this]
  .have h0:l[j]=0:=by
    have:((l[j]).toNat:Int)=0:=by simpa using m
    exact UInt8.toNat_inj.1 (by show(l[j]).toNat=0;omega)
   rw[bu (n:=(j:Int)+1) I I];refine⟨⟨j+1,I,I,rfl,λk a h=>?_⟩,?_⟩
   .rcases dR k j with h1|h1
    .exact d k a h1
    .have:k=j:=by omega
     subst this;exact h0
   .show((l.length:Int)-((j:Int)+1)).toNat<((l.length:Int)-(j:Int)).toNat
    omega
 .have b:j=l.length:=by have:=cG b;omega
  subst b;refine⟨?_,rfl⟩;have:(l.all λc=>c==0)=true:=by
   rw[lv];intro c hc;obtain⟨k,a,rfl⟩:=eK hc;rw[d k a a];rfl
  rw[this]
def y3(kind gen:Int)(s:Y):aa:=.agg #[kind,.int .u64 gen,s]
def tN(r:Except Int g4)(w w':J)(v:aa):Prop:=
 match r with
 | .ok p=>∃s:Y,v=.tuple #[y3 p.kind p.gen s,(0:Int)]/\a7 1 5 w' s (aF p.body)/\gl w s
 | .error e=>v=.tuple #[y3 0 0 ⟨none,0,0⟩,e]
theorem y4{w':J}{h:Nat}{vs:O aa}(n g:Int)(s:Y)(b:Var w' h vs 150)(e:vs.length=3){K:Int->Int->Y->J->Prop}(j:∀ah,ad (λq=>q=h) w' ah->K n g s ah):
 bt w' h [n,.int .u64 g,s]/\(3:Nat)=3/\an (setCells w' h 0 [n,.int .u64 g,s]) λah=>
  ∃f:Int,ah.cell? h=some (.int .i64 f)/\∃i:Int,ah.cell? (Addr.add h 1)=some (.int .u64 i)/\∃c:Y,ah.cell? (Addr.add h 2)=some (.slice c.a c.len c.cap)/\K f i c ah:=by
 refine⟨b.b2 (by rw[e];rfl) ?_,rfl,cp b (us:=[n,.int .u64 g,s]) (by rw[e];rfl) rfl λah d hc _=>?_⟩
 .intro v b
  simp only[cP,eE,eL]at b;rcases b with rfl|rfl|rfl<;>trivial
 .exact⟨n,d.cell,g,by rw[ay];exact d.cell,s,by rw[ay];exact d.cell,j ah hc⟩
theorem lV{s:Y}{l:O UInt8}{w:J}(hs:Src 1 w s (aF l))(hc:s.len<=s.cap)(u:l.length<=1000)(no:Int):
 aP ak 172 #[no,s] w (λv w'=>tN (dk no l) w w' v/\Ext w w'):=by
 have aw:=len8 hs;refine okF (af.lV no s) az.lV func172 ?_;(delta af.lV z3 al U r1 bF ag vp aI bW gv fP aH au il;dsimp only);refine bl (vs:=[(0:Int),.int .u64 0,()]) rfl λw1 A x _=>?_
 have out:∀ (w':J) (e:Int),Ext w1 w'->dk no l=.error e->
  bt w' w.heap.size [(0:Int),.int .u64 0,()]/\(3:Nat)=3/\an (setCells w' w.heap.size 0 [(0:Int),.int .u64 0,()]) λah=>
  ∃g:Int,ah.cell? w.heap.size=some (.int .i64 g)/\∃j:Int,ah.cell? (Addr.add w.heap.size 1)=some (.int .u64 j)/\∃d:Y,ah.cell? (Addr.add w.heap.size 2)=some (.slice d.a d.len d.cap)/\
   (λv w'=>tN (dk no l) w w' v/\Ext w w') (.tuple #[.agg #[g,.int .u64 j,d],e]) ah:=by
  intro w' e hx he;refine y4 0 0 ⟨none,0,0⟩ (A.ext hx) rfl (K:=λg j d ah=>(λv w'=>tN (dk no l) w w' v/\Ext w w') (.tuple #[.agg #[g,.int .u64 j,d],e]) ah) λah y=>⟨?_,Ext.ck (x.trans hx) y (bo _)⟩;rw[he];rfl
 refine⟨λh=>out _ _ (.refl _ _) ?_,λh=>?_⟩
 .have h:(s.len:Int)≠256:=by simpa using h
  unfold dk;rw[if_pos I]
 have h:(s.len:Int)=256:=by simpa using h
 have N:l.length=256:=by omega
 have o:=hs.ext x;have P:=l5 o hc (lo:=0) (hi:=4) I I;have Q:Src 1 w1 ⟨aO s.a 1 0 s.cap,4-0,s.cap-0⟩ (((l.take 4).map λb=>(b.toNat:Int)).map (.int .u8)):=by
  rw[g8];exact P
 have E:=yU (src:=48) (dst:=9) (by kernel_rfl) (by kernel_rfl) Q;have R:(((l.take 4).map λb=>(b.toNat:Int)).map λn=>UInt8.ofNat n.toNat)=l.take 4:=by
  rw[g8];have:((λn:Int=>UInt8.ofNat n.toNat)∘ λb:UInt8=>(b.toNat:Int))=id:=by funext b;simp
  rw[this,List.map_id]
 rw[R]at E;refine⟨⟨by decide,I⟩,S (l.take 4),w1,E,?_⟩;have T:(ByteArray.toList (S (l.take 4))==ByteArray.toList (ByteArray.mk #[83,84,78,67]))=decide (l.take 4=gf):=by
  rw[show(ByteArray.mk #[83,84,78,67])=S gf from rfl,yo];rw[fD];simp
 rw[T];refine⟨λh=>out _ _ (.refl _ _) ?_,λh=>?_⟩
 .have h:l.take 4≠gf:=by simpa using h
  unfold dk;rw[if_neg I,if_pos h]
 have p:l.take 4=gf:=by simpa using h
 obtain⟨V,W,ax,X⟩:=o.at (m5 (l:=l) (i:=4) I);have ay:s.len=256:=by omega
 refine⟨V,W,⟨by decide,I⟩,_,X,λh=>out _ _ (.refl _ _) ?_,λh=>?_⟩
 .have h:(((l[4]'I).toNat:Nat):Int)≠1:=by simpa using h
  unfold dk;rw[if_neg I,if_neg (by simp[p]),if_pos (by
   intro e;apply h;rw[fg,dE I]at e;have e:(l[4]'I)=1:=e;rw[e];rfl)]
 have z:l.getD 4 0=1:=by
  have h:(((l[4]'I).toNat:Nat):Int)=1:=by simpa using h
  rw[fg,dE I];exact UInt8.toNat_inj.1 (by show(l[4]'I).toNat=1;omega)
 refine(mP o hc N).use ?_;rintro _ ah ⟨rfl,f⟩;have m:=o.ext f;refine⟨_,rfl,(k4 m hc (a:=20) (k:=4) (e:=24) rfl (by decide) I u).use ?_⟩;rintro _ _ ⟨rfl,rfl⟩;have aA:sumOf l<4294967296:=vT _;rw[gJ (n:=((sumOf l:Nat):Int)) I I];refine⟨_,rfl,λh=>out _ _ f ?_,λh=>?_⟩
 .have h:((sumOf l:Nat):Int)≠((cW l 20 4:Nat):Int):=by simpa using h
  unfold dk;rw[if_neg I,if_neg (by simp[p]),if_neg (λh=>h z),if_pos I]
 have aB:sumOf l=cW l 20 4:=by
  have h:((sumOf l:Nat):Int)=((cW l 20 4:Nat):Int):=by simpa using h
  omega
 refine(k4 m hc (a:=6) (k:=2) (e:=8) rfl (by decide) I u).use ?_;rintro _ _ ⟨rfl,rfl⟩;have aC:cW l 6 2<65536:=l0 2 _ (by simp;omega);obtain⟨Z,aa,aD,ac⟩:=m.at (m5 (l:=l) (i:=5) I);have B:l.getD 5 0=l[5]'I:=by rw[fg,dE I];rfl
 have aE:=UInt8.toNat_lt (l[5]'I);refine⟨_,rfl,Z,aa,⟨by decide,I⟩,_,ac,?_⟩;rw[bu (n:=(((l[5]'I).toNat:Nat):Int)) I I,bu (n:=((cW l 6 2:Nat):Int)) I I];refine Calls.mono (af.yG (((l[5]'I).toNat:Nat):Int) ah (λv w'=>v=.bool (decide (1<=(l[5]'I).toNat/\(l[5]'I).toNat<=4))/\ah=w') ⟨?_,rfl⟩) ?_
 .have e:(decide ((((l[5]'I).toNat:Nat):Int)>=1)&&decide ((((l[5]'I).toNat:Nat):Int)<=4))=decide (1<=(l[5]'I).toNat/\(l[5]'I).toNat<=4):=by
   rw[fD];simp only[dT,cR];omega
  rw[e]
 rintro _ _ ⟨_,rfl,rfl,rfl⟩;have aG:24+cW l 6 2<=256->True:=λ_=>trivial;refine⟨_,rfl,ct (λb w'=>b=decide (¬(1<=(l[5]'I).toNat/\(l[5]'I).toNat<=4)\/232<cW l 6 2\/(l.drop (24+cW l 6 2)).all (λc=>c==0)=false)/\ah=w') (λq r=>⟨λh1=>r _ _ ⟨?_,rfl⟩,λh1=>?_⟩) ?_⟩
 .refine(dL ?_).symm
  simp only[ic,kg,kh,cR]at h1;rcases h1 with h1|h1
  .exact .inl h1
  .exact .inr (.inl I)
 .simp only[nB,q1,kh,cR]at h1
  have ad:cW l 6 2<=232:=by omega
  rw[bu (n:=24+((cW l 6 2:Nat):Int)) I I];refine⟨⟨I,I⟩,?_⟩;have ae:Int.toNat (24+((cW l 6 2:Nat):Int))=24+cW l 6 2:=by omega
  rw[ae];have F:=l5 m hc (lo:=24+cW l 6 2) (hi:=s.len) I I;rw[dP (l:=l.drop (24+cW l 6 2)) (by rw[cX];omega)]at F;refine(oz F (by rw[cX];omega)).use ?_;rintro _ _ ⟨rfl,rfl⟩;refine⟨_,rfl,r _ _ ⟨?_,rfl⟩⟩
  cases aJ:(l.drop (24+cW l 6 2)).all (λc=>c==0) with
  |true=>exact(ig (by rintro(h2|h2|h2)<;>first|exact h2 h1.1|omega|cases h2)).symm
  |false=>exact(dL (.inr (.inr rfl))).symm
 rintro b _ ⟨rfl,rfl⟩;refine⟨λh=>out _ _ f ?_,λh=>?_⟩
 .have h:=b_ h
  unfold dk;rw[if_neg I,if_neg (by simp[p]),if_neg (λh=>h z),if_neg I,if_pos (by rw[B];exact h)]
 have t:=cG h;have G:¬(¬(1<=(l.getD 5 0).toNat/\(l.getD 5 0).toNat<=4)\/232<cW l 6 2\/(l.drop (24+cW l 6 2)).all (λc=>c==0)=false):=by rw[B];exact t
 have ad:cW l 6 2<=232:=by
  rcases dR 232 (cW l 6 2) with h1|h1
  .exact absurd (.inr (.inl h1)) t
  .exact h1
 have aK:1<=(l[5]'I).toNat/\(l[5]'I).toNat<=4:=pw λh=>t (.inl h);refine Calls.mono (af.yF no ah (λv w'=>v=.bool (decide (0<=no/\no<1600))/\ah=w') ⟨by simp[ge_iff_le],rfl⟩) ?_;rintro _ _ ⟨_,rfl,rfl,rfl⟩;have aL:cW l 8 4<4294967296:=l0 4 _ (by simp;omega);refine⟨_,rfl,ct (λb w'=>b=decide (¬(0<=no/\no<1600)\/(cW l 8 4:Int)≠no)/\ah=w') (λq r=>⟨λh1=>r _ _ ⟨?_,rfl⟩,λh1=>?_⟩) ?_⟩
 .refine(dL ?_).symm
  simp only[kg,kh]at h1;exact .inl h1
 .simp only[q1,cR]at h1
  refine(k4 m hc (a:=8) (k:=4) (e:=12) rfl (by decide) I u).use ?_;rintro _ _ ⟨rfl,rfl⟩;refine⟨_,rfl,r _ _ ⟨?_,rfl⟩⟩;rw[gJ (n:=no) I I,fD,cR,bne_iff_ne];exact⟨λh=>.inr h,λh=>h.resolve_left (λh2=>h2 h1)⟩
 rintro b _ ⟨rfl,rfl⟩;refine⟨λh=>out _ _ f ?_,λh=>?_⟩
 .have h:=b_ h
  unfold dk;rw[if_neg I,if_neg (by simp[p]),if_neg (λh=>h z),if_neg I,if_neg G,if_pos h]
 have ai:=cG h;have aj:dk no l=.ok ⟨(l.getD 5 0).toNat,cW l 12 8,(l.drop 24).take (cW l 6 2)⟩:=by
  unfold dk;rw[if_neg I,if_neg (by simp[p]),if_neg (λh=>h z),if_neg I,if_neg G,if_neg ai]
 refine(oA m hc (a:=24) (k:=cW l 6 2) I I).use ?_;rintro _ am ⟨C,rfl,ao,ap,H⟩;have L:=cw am;have D:=f.trans (ap.trans L);have M:=o.ext D;obtain⟨aq,ar,aM,av⟩:=M.at (m5 (l:=l) (i:=5) I);refine⟨C,true,rfl,aY ⟨λ_=>False,aq,ar,⟨by decide,I⟩,id,_,av,(k4 M hc (a:=12) (k:=8) (e:=20) rfl (by decide) I u).use ?_⟩⟩;rintro _ _ ⟨rfl,rfl⟩;rw[bu (n:=(((l[5]'I).toNat:Nat):Int)) I I];refine⟨_,rfl,.refl _ _,y4 _ _ C (A.ext D) rfl (K:=λg j d ah=>(λv w'=>tN (dk no l) w w' v/\Ext w w') (.tuple #[.agg #[g,.int .u64 j,d],(0:Int)]) ah) λaN y=>⟨?_,Ext.ck (x.trans D) y (bo _)⟩⟩;rw[aj];refine⟨C,by rw[B];rfl,(ao.ext L).ab y λk t e=>?_,H.mono (x.trans f).size⟩;have:=H k t;have:=A.lt;have:=f.size;subst e;omega
theorem y5{P:Program}{w:J}:∀ (l:O UInt8) (a:ae) (acc:ByteArray),(∀j x,l[j]? =some x->w.cell? (a.add j)=some (.int .u8 (x.toNat:Int)))->
 (Extern.Bytes.loadBytes a l.length acc).run P w=.ok ⟨acc.data++l.toArray⟩ w
 | [],a,acc,_=>by simp[Extern.Bytes.loadBytes]
 |x::l,a,acc,h=>by
  have h0:=h 0 x rfl
  rw[add_zero']at h0
  have b:=y5 (P:=P) l (a.add 1) (acc.push x) (λj y c=>by
   rw[add_add,Nat.add_comm]
   exact h (j+1) y (by simpa using c))
  have hx:(x.toNat:Int).toNat.toUInt8=x:=C5 x
  simp only[fy,Extern.Bytes.loadBytes,Sem.run_bind,uB h0,Result.andThen,hx]
  rw[b]
  congr 2
  simp[ByteArray.push]
theorem y6{P:Program}{w:J}{s:Y}{l:O UInt8}(h:Src 1 w s (aF l)):(Extern.Bytes.bytesOf s).run P w=.ok (S l) w:=by
 cases hs:s.a with
 |none=>
  have h0:l=[]:=by
   have:=h.nil hs
   cases l with
   |nil=>rfl
   |cons a l=>simp[aF]at this
  subst h0;rfl
 |some A=>
  have b:=h.rd A hs;rw[fz]at b;have:=y5 (P:=P) (w:=w) l A .empty (λj x c=>by
   have:=pU b (j:=j) (v:=.int .u8 (x.toNat:Int)) (by simp[aF,c]);simpa using this)
  show(Extern.Bytes.loadBytes A s.len .empty).run P w=_;rw[len8 h,this]
  congr 1
  show(ByteArray.mk (ByteArray.empty.data++l.toArray))=ByteArray.mk l.toArray
  congr 1
  exact Array.empty_append ..
theorem y7:∀a b:Key,Lib.compareBytes a b=eO a b
 | [],[]=>rfl
 | [],_::_=>rfl
 |_::_,[]=>rfl
 |a::x,b::y=>by
  simp only[Lib.compareBytes,eO,UInt8.lt_iff_toNat_lt,y7 x y]
theorem kx{s t:Y}{l m:Key}{w:J}(hs:Src 1 w s (aF l))(ht:Src 1 w t (aF m)):
 aP ak 176 #[s,t] w (λv w'=>v=.int .i64 (eO l m)/\w=w'):=by
 refine okF (af.kx s t) az.kx func176 ?_;unfold af.kx;refine⟨eO l m,w,?_,rfl,rfl⟩;rw[run_callFunc_extern func230 rfl rfl rfl rfl];have:(Extern.BytealgCompare.compare #[s,t]).run ak w=.ok (.int .i64 (eO l m)) w:=by
  change Sem.run ak (do pure (goInt (Extern.BytealgCompare.cmp (←Extern.Bytes.bytesOf s) (←Extern.Bytes.bytesOf t)))) w=_
  simp only[Sem.run_bind,y6 hs,y6 ht,Result.andThen,Sem.run_pure];rw[Lib.cmp_eq];show Result.ok (goInt (Lib.compareBytes l m)) w=_;rw[y7];rfl
 rw[this];rfl
theorem vV{s:Y}{l:O UInt8}{w:J}(h:Src 1 w s (aF l)):Sem.run ak (convert 48 9 s) w=.ok (.string (S l)) w:=by
 have a:Src 1 w s ((l.map λb=>(b.toNat:Int)).map (.int .u8)):=by rw[g8];exact h
 have:=yU (src:=48) (dst:=9) (by kernel_rfl) (by kernel_rfl) a;rw[g8]at this;have e:((λn:Int=>UInt8.ofNat n.toNat)∘ λb:UInt8=>(b.toNat:Int))=id:=by funext b;simp
 rw[e,List.map_id]at this;exact this
theorem ob{s t:Y}{l m:Key}{w:J}(hs:Src 1 w s (aF l))(ht:Src 1 w t (aF m)):
 aP ak 158 #[s,t] w (λv w'=>v=.bool (decide (l=m))/\w=w'):=by
 refine okF (af.ob s t) az.ob func158 ?_;unfold af.ob;refine⟨_,_,vV hs,_,_,vV ht,?_,rfl⟩;rw[yo]
 congr 1
 rw[fD];simp
def In(B:Nat->Prop)(w:J)(s:Y):Prop:=∀k,aC s k->B k/\k<w.heap.size
def bk(B:Nat->Prop)(w:J)(t:Y)(l:Key):Prop:=Src 1 w t (aF l)/\t.len<=t.cap/\In B w t
def bf(B:Nat->Prop)(w:J)(s:Y)(ls:O Key):Prop:=
 ∃ts:O Y,ts.length=ls.length/\Src 1 w s (ts.map gO)/\s.len<=s.cap/\In B w s/\∀ (i:Nat) (h1:i<ts.length) (h2:i<ls.length),bk B w ts[i] ls[i]
def dv(ds:O Nat):O aa:=ds.map λd=>.int .i64 ((d:Nat):Int)
def cx(B:Nat->Prop)(w:J)(s:Y)(ds:O Nat):Prop:=Src 1 w s (dv ds)/\s.len<=s.cap/\In B w s
def bh(B:Nat->Prop)(w:J)(s:Y)(ls:O Key):Prop:=
 ∃ts:O Y,ts.length=ls.length/\a7 1 48 w s (ts.map gO)/\In B w s/\∀ (i:Nat) (h1:i<ts.length) (h2:i<ls.length),bk B w ts[i] ls[i]/\∀k,aC ts[i] k->¬aC s k
def cB(B:Nat->Prop)(w:J)(s:Y)(ds:O Nat):Prop:=a7 1 3 w s (dv ds)/\In B w s
section
variable {B C:Nat->Prop}{w w':J}{s t:Y}{l:Key}{ls:O Key}{ds:O Nat}
theorem In.ab{V:Nat->Prop}(h:In B w s)(hc:ad V w w'):In B w' s:=λk a=>⟨(h k a).1,fl (h k a).2 hc.size⟩
theorem In.aV(h:In B w s)(b:∀k,k<w.heap.size->B k->C k):In C w s:=λk a=>⟨b k (h k a).2 (h k a).1,(h k a).2⟩
theorem bk.ab{V:Nat->Prop}(h:bk B w t l)(hc:ad V w w')(a:∀k,B k->¬V k):bk B w' t l:=⟨h.1.ab hc λk b=>a k (h.2.2 k b).1,h.2.1,In.ab h.2.2 hc⟩
theorem bk.hG{V:Nat->Prop}(h:bk B w t l)(hc:ad V w w')(a:∀k,aC t k->¬V k):bk B w' t l:=⟨h.1.ab hc a,h.2.1,In.ab h.2.2 hc⟩
theorem bk.ext(h:bk B w t l)(hc:Ext w w'):bk B w' t l:=bk.ab h hc λ_ _ h=>h
theorem bk.aV(h:bk B w t l)(a:∀k,k<w.heap.size->B k->C k):bk C w t l:=⟨h.1,h.2.1,In.aV h.2.2 a⟩
theorem bf.ab{V:Nat->Prop}(h:bf B w s ls)(hc:ad V w w')(a:∀k,B k->¬V k):bf B w' s ls:=by
 obtain⟨ts,h1,h2,c,b,d⟩:=h;exact⟨ts,h1,h2.ab hc λk e=>a k (b k e).1,c,In.ab b hc,λi f g=>bk.ab (d i f g) hc a⟩
theorem bf.ext(h:bf B w s ls)(hc:Ext w w'):bf B w' s ls:=bf.ab h hc λ_ _ h=>h
theorem bf.aV(h:bf B w s ls)(a:∀k,k<w.heap.size->B k->C k):bf C w s ls:=by
 obtain⟨ts,h1,h2,b,c,d⟩:=h;exact⟨ts,h1,h2,b,In.aV c a,λi e f=>bk.aV (d i e f) a⟩
theorem cx.ab{V:Nat->Prop}(h:cx B w s ds)(hc:ad V w w')(a:∀k,B k->¬V k):cx B w' s ds:=⟨h.1.ab hc λk b=>a k (h.2.2 k b).1,h.2.1,In.ab h.2.2 hc⟩
theorem cx.ext(h:cx B w s ds)(hc:Ext w w'):cx B w' s ds:=cx.ab h hc λ_ _ h=>h
theorem cx.aV(h:cx B w s ds)(a:∀k,k<w.heap.size->B k->C k):cx C w s ds:=⟨h.1,h.2.1,In.aV h.2.2 a⟩
theorem bf.len(h:bf B w s ls):s.len=ls.length:=by
 obtain⟨ts,h1,h2,_⟩:=h;have:=h2.len;rw[dr]at this;omega
theorem l6(ds:O Nat):(dv ds).length=ds.length:=by simp[dv]
theorem cx.len(h:cx B w s ds):s.len=ds.length:=by
 have:=h.1.len;rw[l6]at this;omega
theorem bf.at(h:bf B w s ls){i:Nat}(hi:i<ls.length):∃ (A:ae) (t:Y),s.a=some A/\((0:Int)<=(i:Int)/\(i:Int)<(s.len:Int))/\w.cell? (A.add (Int.toNat (i:Int)*1))=some (.slice t.a t.len t.cap)/\bk B w t ls[i]/\B A.block:=by
 obtain⟨ts,h1,h2,e,b,c⟩:=h;obtain⟨A,ar,d,hc⟩:=h2.at (i:=i) (v:=gO (ts[i]'I)) (by simp[h1,hi]);exact⟨A,ts[i]'I,ar,d,hc,c i I hi,(b _ ⟨A,ar,rfl⟩).1⟩
theorem cx.at(h:cx B w s ds){i:Nat}(hi:i<ds.length):∃A:ae,s.a=some A/\((0:Int)<=(i:Int)/\(i:Int)<((s.len:Nat):Int))/\w.cell? (A.add (Int.toNat (i:Int)*1))=some (.int .i64 ((ds[i]:Nat):Int)):=by
 obtain⟨A,ar,b,hc⟩:=h.1.at (i:=i) (v:=.int .i64 ((ds[i]:Nat):Int)) (by simp[dv,hi]);exact⟨A,ar,b,hc⟩
theorem bh.hJ(h:bh B w s ls):bf B w s ls:=by
 obtain⟨ts,h1,h2,a,b⟩:=h;exact⟨ts,h1,h2.src,h2.2.1,a,λi c d=>(b i c d).1⟩
theorem cB.oO(h:cB B w s ds):cx B w s ds:=⟨h.1.src,h.1.2.1,h.2⟩
theorem bh.none(B:Nat->Prop)(w:J):bh B w ⟨.none,0,0⟩ []:=⟨[],rfl,a7.none _ _ _,λk a=>(gu k a).elim,λi h=>by simp at h⟩
theorem cB.none(B:Nat->Prop)(w:J):cB B w ⟨.none,0,0⟩ []:=⟨a7.none _ _ _,λk a=>(gu k a).elim⟩
theorem bf.none(B:Nat->Prop)(w:J):bf B w ⟨.none,0,0⟩ []:=bh.hJ (bh.none B w)
theorem cx.none(B:Nat->Prop)(w:J):cx B w ⟨.none,0,0⟩ []:=cB.oO (cB.none B w)
theorem bh.ab{V:Nat->Prop}(h:bh B w s ls)(hc:ad V w w')(a:∀k,B k->¬V k):bh B w' s ls:=by
 obtain⟨ts,h1,h2,b,c⟩:=h;exact⟨ts,h1,h2.ab hc λk f=>a k (b k f).1,In.ab b hc,λi d e=>⟨bk.ab (c i d e).1 hc a,(c i d e).2⟩⟩
theorem bh.ext(h:bh B w s ls)(hc:Ext w w'):bh B w' s ls:=bh.ab h hc λ_ _ h=>h
theorem cB.ab{V:Nat->Prop}(h:cB B w s ds)(hc:ad V w w')(a:∀k,B k->¬V k):cB B w' s ds:=⟨h.1.ab hc λk b=>a k (h.2 k b).1,In.ab h.2 hc⟩
theorem cB.ext(h:cB B w s ds)(hc:Ext w w'):cB B w' s ds:=cB.ab h hc λ_ _ h=>h
theorem bk.some(h:bk B w t l)(b:l≠ []):∃A,t.a=some A:=by
 cases c:t.a with
 |none=>
  have:=h.1.nil c;exfalso;apply b
  cases l with
  |nil=>rfl
  |cons a l=>simp[aF]at this
 |some A=>exact⟨A,rfl⟩
end
theorem oP:hW ak 127 48 1 24:=⟨by kernel_rfl⟩
theorem oQ:hW ak 58 3 1 8:=⟨by kernel_rfl⟩
theorem tO(ts:O Y):∀v∈ts.map gO,Plain v:=by
 intro v a;obtain⟨n,_,rfl⟩:=dU.1 a;trivial
theorem vW(ds:O Nat):∀v∈dv ds,Plain v:=by
 intro v a;obtain⟨n,_,rfl⟩:=dU.1 a;trivial
theorem jD{B:Nat->Prop}{w:J}{s:Y}{l:O UInt8}(h:Src 1 w s (aF l))(d:l.length<=1000000)(e:∀k,w.heap.size<=k->B k):
 aP ak 135 #[s] w (λv w'=>∃a:Y,v=a/\bk B w' a l/\Ext w w'/\gl w a):=by
 refine(vK h d).mono ?_;rintro _ w' ⟨a,rfl,b,hx,hf⟩;exact⟨a,rfl,⟨b.src,b.2.1,λk c=>⟨e k (hf k c),b.lt k c⟩⟩,hx,hf⟩
theorem y8{B:Nat->Prop}{w:J}{s t:Y}{ls:O Key}{l:Key}(n:bh B w s ls)(ht:bk B w t l)(hd:∀k,aC t k->¬aC s k)(A:ls.length<=1000000)(o:∀k,w.heap.size<=k->B k):
 ∃ (b:Y) (w':J),Sem.run ak (Builtin.append_ #[127,127] 127 #[s,.slice (some w.heap.size) 1 1]) (w.alloc (.cells #[t] 48))=.ok b w'/\
  bh B w' b (ls++ [l])/\ad (aC s) w w'/\(∀k,aC b k->aC s k\/w.heap.size<=k):=by
 obtain⟨ts,h1,h2,p,q⟩:=n;have C:s.len=ls.length:=by have:=h2.1;rw[dr]at this;omega
 obtain⟨b,w',av,ax,D,c,d⟩:=oP.push (dG:=127) (w:=w) (s:=s) (xs:=[gO t]) rfl h2 (λv r=>by rw[e0.1 r];trivial) I;refine⟨b,w',av,⟨ts++ [t],by simp[h1],?_,?_,λi f u=>?_⟩,c,d⟩
 .rw[fm];exact ax
 .intro k a
  refine⟨?_,ax.lt k a⟩;rcases d k a with h|h
  .exact(p k h).1
  .exact o k h
 .have g:∀ (x:Y),(∀k,aC x k->k<w.heap.size)->(∀k,aC x k->¬aC s k)->∀k,aC x k->¬aC b k:=λx hx y k a z=>by
   rcases d k z with h|h
   .exact y k a h
   .have:=hx k a;omega
  have E:i<ts.length+1:=by simpa using f
  rcases dR i ts.length with h|h
  .obtain⟨j,m⟩:=q i h I
   simp only[px h,px (show i<ls.length from I)];exact⟨bk.hG j c m,g _ (λk a=>(j.2.2 k a).2) m⟩
  .have:i=ts.length:=by omega
   subst this;have e:(ts++ [t])[ts.length]'f=t:=by simp
   have:(ls++ [l])[ts.length]'u=l:=by rw[q2 I];simp
   rw[this,e];exact⟨bk.hG ht c hd,g _ (λk a=>(ht.2.2 k a).2) hd⟩
theorem Ds{B:Nat->Prop}{w:J}{s:Y}{ds:O Nat}(d:Nat)(b:cB B w s ds)(j:ds.length<=1000000)(f:∀k,w.heap.size<=k->B k):
 ∃ (a:Y) (w':J),Sem.run ak (Builtin.append_ #[58,58] 58 #[s,.slice (some w.heap.size) 1 1]) (w.alloc (.cells #[d] 3))=.ok a w'/\
  cB B w' a (ds++ [d])/\ad (aC s) w w'/\(∀k,aC a k->aC s k\/w.heap.size<=k):=by
 have l:s.len=ds.length:=by have:=b.1.1;rw[l6]at this;omega
 obtain⟨a,w',av,ax,m,g,c⟩:=oQ.push (dG:=58) (w:=w) (s:=s) (xs:=[d]) rfl b.1 (λv i=>by rw[e0.1 i];trivial) I;refine⟨a,w',av,⟨by simpa[dv] using ax,λk e=>⟨?_,ax.lt k e⟩⟩,g,c⟩;rcases c k e with h|h
 .exact(b.2 k h).1
 .exact f k h
structure br(B:Nat->Prop)(w:J)(n:aA)(K V D:Y):Prop where
 keys:bf B w K n.keys
 vals:bf B w V n.vals
 kids:cx B w D n.kids
def dO(n:aA)(K V D:Y):O aa:=[n.leaf,K,V,D]
def cQ(n:aA)(K V D:Y):aa:=.agg #[n.leaf,K,V,D]
section
variable {B C:Nat->Prop}{w w':J}{n:aA}{K V D:Y}
theorem br.ab{W:Nat->Prop}(h:br B w n K V D)(hc:ad W w w')(a:∀k,B k->¬W k):br B w' n K V D:=⟨bf.ab h.keys hc a,bf.ab h.vals hc a,cx.ab h.kids hc a⟩
theorem br.ext(h:br B w n K V D)(hc:Ext w w'):br B w' n K V D:=br.ab h hc λ_ _ h=>h
theorem br.aV(h:br B w n K V D)(a:∀k,k<w.heap.size->B k->C k):br C w n K V D:=⟨bf.aV h.keys a,bf.aV h.vals a,cx.aV h.kids a⟩
theorem bw{b:Nat}{T:TypeId}{leaf:ai}(h:Var w b [leaf,K,V,D] T):
 w.cell? b=some (.bool leaf)/\w.cell? (Addr.add b 1)=some (.slice K.a K.len K.cap)/\w.cell? (Addr.add b 2)=some (.slice V.a V.len V.cap)/\w.cell? (Addr.add b 3)=some (.slice D.a D.len D.cap):=by
 rw[ay,ay,ay];exact⟨h.cell,h.cell,h.cell,h.cell⟩
end
theorem Dt{B:Nat->Prop}{w:J}{s:Y}{ls:O Key}(h:bf B w s ls)(f:ls.length<=1000000):
   aP ak 242 #[s,.func (.func 241) #[] #[]] w (λv w'=>v=.bool (ls.any λv=>decide (24<v.length))/\w=w'):=by
 refine okF (af.sf s ⟨241,#[],#[]⟩) az.sf func242 ?_
 (delta af.sf aB;dsimp only)
 have g:=bf.len h
 have e:ih ak 241:=⟨_,(Option.some_get (show(Tryz.prog.funcs[241]?).isSome=true by kernel_rfl)).symm,by kernel_rfl,by kernel_rfl⟩
 refine Calls.mono (af.Ce s ⟨241,#[],#[]⟩ w (λv w'=>(∃i:Int,v=i/\(decide (i>=0))=(ls.any λv=>decide (24<v.length)))/\w=w') ?_) ?_
 · (delta af.p5 al aI ag au;dsimp only)
   refine⟨λi w'=>∃j:Nat,i=j/\j<=ls.length/\w=w'/\∀ (k:Nat) (a:k<ls.length),k<j->(ls[k]).length<=24,λi _=>((ls.length:Int)-i).toNat,⟨0,rfl,cN _,rfl,λk a h=>I⟩,?_⟩
   rintro _ _ ⟨j,rfl,l,rfl,d⟩
   refine⟨λaK=>?_,λc=>?_⟩
   · have aK:j<ls.length:=by have:=b_ aK;omega
     obtain⟨A,t,ar,b,hc,ht,_⟩:=bf.at h aK
     refine⟨A,ar,b,t,hc,e,?_⟩
     have m:=len8 ht.1
     refine Calls.mono (af.CB t w (λv w'=>v=.bool (decide (24<(ls[j]).length))/\w=w') ⟨?_,rfl⟩) ?_
     · congr 1
       rw[fD,cR,cR];omega
     rintro _ _ ⟨_,rfl,rfl,rfl⟩
     refine⟨_,rfl,λb=>⟨⟨j,rfl,?_⟩,rfl⟩,λb=>?_⟩
     · have:(ls.any λv=>decide (24<v.length))=true:=List.any_eq_true.2 ⟨_,cr aK,b⟩
       rw[this];exact dL I
     · have b:=cG b
       rw[bu (n:=(j:Int)+1) I I]
       refine⟨⟨j+1,I,I,rfl,λk a h=>?_⟩,?_⟩
       · rcases dR k j with h1|h1
         · exact d k a h1
         · have:k=j:=by omega
           subst this;omega
       · show((ls.length:Int)-((j:Int)+1)).toNat<((ls.length:Int)-(j:Int)).toNat
         omega
   · have c:j=ls.length:=by have:=cG c;omega
     subst c
     refine⟨⟨-1,rfl,?_⟩,rfl⟩
     have:(ls.any λv=>decide (24<v.length))=false:=by
       rw[nA]
       intro x hx
       obtain⟨k,a,rfl⟩:=eK hx
       have:=d k a a
       simp;omega
     rw[this];rfl
 · rintro _ _ ⟨_,rfl,⟨i,rfl,hi⟩,rfl⟩
   exact⟨i,rfl,by rw[hi],rfl⟩
theorem Du{B:Nat->Prop}{w:J}{s:Y}{ds:O Nat}(h:cx B w s ds)(g:ds.length<=1000000):
   aP ak 244 #[s,.func (.func 243) #[] #[]] w (λv w'=>v=.bool (ds.any λd=>decide (1600<=d))/\w=w'):=by
 refine okF (af.sg s ⟨243,#[],#[]⟩) az.sg func244 ?_
 (delta af.sg aB;dsimp only)
 have l:=cx.len h
 have f:ih ak 243:=⟨_,(Option.some_get (show(Tryz.prog.funcs[243]?).isSome=true by kernel_rfl)).symm,by kernel_rfl,by kernel_rfl⟩
 refine Calls.mono (af.Cf s ⟨243,#[],#[]⟩ w (λv w'=>(∃i:Int,v=i/\(decide (i>=0))=(ds.any λd=>decide (1600<=d)))/\w=w') ?_) ?_
 · (delta af.p6 al aI r1 au;dsimp only)
   refine⟨λi w'=>∃j:Nat,i=j/\j<=ds.length/\w=w'/\∀ (k:Nat) (a:k<ds.length),k<j->ds[k]<1600,λi _=>((ds.length:Int)-i).toNat,⟨0,rfl,cN _,rfl,λk a h=>I⟩,?_⟩
   rintro _ _ ⟨j,rfl,m,rfl,e⟩
   refine⟨λaK=>?_,λc=>?_⟩
   · have aK:j<ds.length:=by have:=b_ aK;omega
     obtain⟨A,ar,b,hc⟩:=cx.at h aK
     refine⟨A,ar,b,_,hc,f,?_⟩
     refine Calls.mono (af.CC ((ds[j]:Nat):Int) w (λv w'=>v=.bool (decide (1600<=ds[j]))/\w=w') ⟨?_,rfl⟩) ?_
     · congr 1
       rw[fD,ic,cR,cR,cR];omega
     rintro _ _ ⟨_,rfl,rfl,rfl⟩
     refine⟨_,rfl,λb=>⟨⟨j,rfl,?_⟩,rfl⟩,λb=>?_⟩
     · have:(ds.any λd=>decide (1600<=d))=true:=List.any_eq_true.2 ⟨_,cr aK,b⟩
       rw[this];exact dL I
     · have b:=cG b
       rw[bu (n:=(j:Int)+1) I I]
       refine⟨⟨j+1,I,I,rfl,λk a h=>?_⟩,?_⟩
       · rcases dR k j with h1|h1
         · exact e k a h1
         · have:k=j:=by omega
           subst this;omega
       · show((ds.length:Int)-((j:Int)+1)).toNat<((ds.length:Int)-(j:Int)).toNat
         omega
   · have c:j=ds.length:=by have:=cG c;omega
     subst c
     refine⟨⟨-1,rfl,?_⟩,rfl⟩
     have:(ds.any λd=>decide (1600<=d))=false:=by
       rw[nA]
       intro x hx
       obtain⟨k,a,rfl⟩:=eK hx
       have:=e k a a
       simp;omega
     rw[this];rfl
 · rintro _ _ ⟨_,rfl,⟨i,rfl,hi⟩,rfl⟩
   exact⟨i,rfl,by rw[hi],rfl⟩
theorem y9:∀ {l:O Key},(∀ (i:Nat) (h:i+1<l.length),bX l[i] l[i+1])->l.Pairwise bX
 | [],_=>.nil
 |a::l,h=>by
  have e:=y9 (l:=l) λi hi=>h (i+1) (by simpa using hi)
  refine kk.2 ⟨λb d=>?_,e⟩
  cases l with
  |nil=>simp at d
  |cons c l=>
   have h0:bX a c:=h 0 (by simp)
   rcases cP.1 d with rfl|d
   .exact h0
   .exact k6 h0 ((kk.1 e).1 b d)
instance (k:Key):Decidable (cD k):=by unfold cD;infer_instance
theorem mS{w:J}{t:Y}{l:Key}(h:Src 1 w t (aF l)):aP ak 209 #[t] w (λv w'=>v=.bool (decide (cD l))/\w=w'):=by
 have a:=len8 h;refine okF (af.mS t) az.mS func209 ?_;unfold af.mS;refine⟨?_,rfl⟩
 congr 1
 rw[fD,dT,cR,cR,cR];unfold cD;omega
theorem jf{B:Nat->Prop}{w:J}{n:aA}{K V D:Y}(h:br B w n K V D)(h1:n.keys.length<=100000)(h2:n.vals.length<=100000)(O:n.kids.length<=100000):
 aP ak 203 #[cQ n K V D] w (λv w'=>∃b:ai,v=b/\(b=true↔cv n)/\Ext w w'):=by
 refine okF (af.jf n.leaf K V D) az.jf func203 ?_;(delta af.jf ag U al aI aH au aB a8;dsimp only);refine bl (vs:=[n.leaf,K,V,D]) rfl λw1 d m _=>?_;obtain⟨bI,aB,aT,aH⟩:=bw d;have g:=h.ext m;have x:=bf.len g.keys;have P:=bf.len g.vals;have aM:=cx.len g.kids;refine⟨K,aB,λi w'=>∃j:Nat,i=j/\j<=n.keys.length/\w1=w'/\(∀ (k:Nat) (f:k<n.keys.length),k<j->cD n.keys[k])/\∀ (k:Nat) (f:k+1<n.keys.length),k+1<j->bX n.keys[k] n.keys[k+1],
  λi _=>((n.keys.length:Int)-i).toNat,⟨0,rfl,cN _,rfl,λk f h=>I,λk f h=>I⟩,?_⟩
 rintro _ _ ⟨j,rfl,o,rfl,y,z⟩;refine⟨λaK=>?_,λp=>?_⟩
 .have aK:j<n.keys.length:=by have:=b_ aK;omega
  obtain⟨A,t,ar,a,hc,ht,_⟩:=bf.at g.keys aK;refine⟨A,ar,a,t,hc,(mS ht.1).use ?_⟩;rintro _ _ ⟨rfl,rfl⟩;refine⟨_,rfl,ct (λb w'=>w1=w'/\(b=true->¬cv n)/\(b=false->cD n.keys[j]/\∀ (o:1<=j),bX (n.keys[j-1]'I) n.keys[j])) (λq c=>⟨λa=>?_,λa=>?_⟩) ?_⟩
  .have a:¬cD n.keys[j]:=by simpa using a
   exact c _ _ ⟨rfl,λ_ hs=>a (hs.keys.ok _ (cr aK)),λh=>by cases h⟩
  .have a:cD n.keys[j]:=by simpa using a
   refine ct (λb w'=>w1=w'/\(b=true->¬cv n)/\(b=false->∀ (o:1<=j),bX (n.keys[j-1]'I) n.keys[j])) (λdZ C=>⟨λh0=>?_,λh0=>?_⟩) ?_
   .have h0:1<=j:=by have:=b_ h0;omega
    rw[bu (n:=(j:Int)-1) I I,show(j:Int)-1=((j-1:Nat):Int) from I];obtain⟨F,t2,G,r,H,L,_⟩:=bf.at g.keys (i:=j-1) I;refine⟨K,aB,F,G,r,t2,H,(kx L.1 ht.1).use ?_⟩;rintro _ _ ⟨rfl,rfl⟩;refine⟨_,rfl,C _ _ ⟨rfl,λhc hs=>?_,λhc _=>?_⟩⟩
    .have hc:=b_ hc
     have:bX (n.keys[j-1]'I) n.keys[j]:=lF.1 hs.keys.e_ (j-1) j I aK I;unfold bX at this;omega
    .have hc:=cG hc
     unfold bX;omega
   .have h0:=cG h0
    exact C _ _ ⟨rfl,λh=>(by cases h),λ_ o=>I⟩
   .rintro b w' ⟨rfl,av,ax⟩
    exact c _ _ ⟨rfl,av,λr=>⟨a,ax r⟩⟩
  .rintro b w' ⟨rfl,av,ax⟩
   refine⟨λa=>⟨false,rfl,⟨λh=>(by cases h),λhs=>absurd hs (av a)⟩,m⟩,λa=>?_⟩;obtain⟨M,N⟩:=ax a;rw[bu (n:=(j:Int)+1) I I];refine⟨⟨j+1,I,I,rfl,λk f h=>?_,λk f h=>?_⟩,?_⟩
   .rcases dR k j with h1|h1
    .exact y k f h1
    .have:k=j:=by omega
     subst this;exact M
   .rcases dR (k+1) j with h1|h1
    .exact z k f h1
    .have:j=k+1:=by omega
     subst this;exact N I
   .show((n.keys.length:Int)-((j:Int)+1)).toNat<((n.keys.length:Int)-(j:Int)).toNat
    omega
 .have p:j=n.keys.length:=by have:=cG p;omega
  subst p;have E:tv n:=⟨λk f=>by
   obtain⟨i,hi,rfl⟩:=eK f;exact y i hi hi,y9 λi hi=>z i hi hi⟩
  refine⟨n.leaf,bI,λl=>⟨V,aT,K,aB,?_⟩,λl=>⟨K,aB,?_⟩⟩
  .refine ct (λb w'=>w1=w'/\b=(decide (n.vals.length=n.keys.length)&&decide (n.kids=[]))) (λq c=>⟨λa=>⟨D,aH,c _ _ ⟨rfl,?_⟩⟩,λa=>c _ _ ⟨rfl,?_⟩⟩) ?_
   .have a:=eq_of_beq a
    rw[dL (show n.vals.length=n.keys.length from I),iz,fD,jO,cR,←kM];omega
   .have a:¬((V.len:Int)=(K.len:Int)):=λe=>by rw[e]at a;simp at a
    rw[ig I,kP]
   rintro b w' ⟨rfl,rfl⟩;refine ct (λb w'=>w1=w'/\(b=true↔cv n)) (λq c=>⟨λa=>⟨V,aT,(Dt g.vals I).use ?_⟩,λa=>c _ _ ⟨rfl,?_⟩⟩) ?_
   .rintro _ _ ⟨rfl,rfl⟩
    refine⟨_,rfl,c _ _ ⟨rfl,?_⟩⟩;simp only[dT,cR]at a;rw[kg,nA];constructor
    .intro s
     exact .inl ⟨E,l,a.1,a.2,λv d=>by have:=s v d;simp at this;omega⟩
    .rintro(hs|hs)
     .intro v d;have:=hs.vals v d;simp;omega
     .have:=hs.inner;rw[l]at this;cases this
   .have a:¬(n.vals.length=n.keys.length/\n.kids=[]):=by simpa using a
    refine⟨λh=>(by cases h),?_⟩;rintro(hs|hs)
    .exact absurd ⟨hs.len,hs.kids⟩ a
    .have:=hs.inner;rw[l]at this;cases this
   rintro b w' ⟨rfl,a⟩;exact⟨b,rfl,a,m⟩
  .refine ct (λb w'=>w1=w'/\b=(decide (n.keys≠ [])&&decide (n.kids.length=n.keys.length+1))) (λq c=>⟨λa=>⟨D,aH,K,aB,c _ _ ⟨rfl,?_⟩⟩,λa=>c _ _ ⟨rfl,?_⟩⟩) ?_
   .have a:=b_ a
    have u:n.keys≠ []:=λe=>by rw[e]at x;simp at x;omega
    rw[dL u,iz,fD,jO,cR,bu I I];omega
   .have a:=cG a
    have u:n.keys=[]:=kM.1 I;rw[ig (λh=>h u),kP]
   rintro b w' ⟨rfl,rfl⟩;refine ct (λb w'=>w1=w'/\b=(decide (n.keys≠ [])&&decide (n.kids.length=n.keys.length+1)&&decide (n.vals=[]))) (λq c=>⟨λa=>⟨V,aT,c _ _ ⟨rfl,?_⟩⟩,λa=>c _ _ ⟨rfl,?_⟩⟩) ?_
   .rw[a,iz,fD,jO,cR,←kM]
    omega
   .rw[a,kP]
   rintro b w' ⟨rfl,rfl⟩;refine ct (λb w'=>w1=w'/\(b=true↔cv n)) (λq c=>⟨λa=>⟨D,aH,(Du g.kids I).use ?_⟩,λa=>c _ _ ⟨rfl,?_⟩⟩) ?_
   .rintro _ _ ⟨rfl,rfl⟩
    refine⟨_,rfl,c _ _ ⟨rfl,?_⟩⟩;simp only[dT,cR]at a;rw[kg,nA];constructor
    .intro s
     exact .inr ⟨E,l,a.1.1,a.1.2,a.2,λv d=>by have:=s v d;simp at this;omega⟩
    .rintro(hs|hs)
     .have:=hs.leaf;rw[l]at this;cases this
     .intro v d;have:=hs.kids v d;simp;omega
   .have a:¬((n.keys≠ []/\n.kids.length=n.keys.length+1)/\n.vals=[]):=λe=>by
     rw[dL e.1.1,dL e.1.2,dL e.2]at a;cases a
    refine⟨λh=>(by cases h),?_⟩;rintro(hs|hs)
    .have:=hs.leaf;rw[l]at this;cases this
    .exact absurd ⟨⟨hs.some,hs.len⟩,hs.vals⟩ a
   rintro b w' ⟨rfl,a⟩;exact⟨b,rfl,a,m⟩
theorem Dv{w:J}{a b:Y}{c lb:O UInt8}(h:Src 1 w a (aF c))(i:Src 1 w b (aF lb))(k:c.length+lb.length<=1000):
 aP ak 92 #[.slice (some w.heap.size) 2 2] (w.alloc (.cells #[a,b] 48)) (λv w'=>∃d:Y,v=d/\a7 1 5 w' d (aF (c++lb))/\Ext w w'/\gl w d):=by
 have hx:=eu w (.cells #[a,b] 48);refine(tI (s:=⟨some w.heap.size,2,2⟩) [(a,c),(b,lb)] (Src.new w _ 2 rfl) ?_ (by simp[ei];omega) (by simp)).mono ?_
 .intro p f
  simp only[cP,eE,eL]at f;rcases f with rfl|rfl
  .exact h.ext hx
  .exact i.ext hx
 .rintro _ w' ⟨d,rfl,g,j,hf⟩
  have e:ei [(a,c),(b,lb)]=c++lb:=by simp[ei]
  rw[e]at g;exact⟨d,rfl,g,hx.trans j,hf.mono hx.size⟩
theorem Dw{w:J}{a b c:Y}{d lb f:O UInt8}(j:Src 1 w a (aF d))(k:Src 1 w b (aF lb))(hc:Src 1 w c (aF f))(m:d.length+lb.length+f.length<=1000):
 aP ak 92 #[.slice (some w.heap.size) 3 3] (w.alloc (.cells #[a,b,c] 48)) (λv w'=>∃g:Y,v=g/\a7 1 5 w' g (aF (d++(lb++f)))/\Ext w w'/\gl w g):=by
 have hx:=eu w (.cells #[a,b,c] 48);refine(tI (s:=⟨some w.heap.size,3,3⟩) [(a,d),(b,lb),(c,f)] (Src.new w _ 3 rfl) ?_ (by simp[ei];omega) (by simp)).mono ?_
 .intro p h
  simp only[cP,eE,eL]at h;rcases h with rfl|rfl|rfl
  .exact j.ext hx
  .exact k.ext hx
  .exact hc.ext hx
 .rintro _ w' ⟨g,rfl,i,l,hf⟩
  have e:ei [(a,d),(b,lb),(c,f)]=d++(lb++f):=by simp[ei]
  rw[e]at i;exact⟨g,rfl,i,hx.trans l,hf.mono hx.size⟩
theorem y_(w:J){n:Nat}(a:n<=255):Src 1 (w.alloc (.cells #[.int .u8 (IntKind.wrap .u8 (n:Int))] 5)) ⟨some w.heap.size,1,1⟩ (aF [UInt8.ofNat n])/\Ext w (w.alloc (.cells #[.int .u8 (IntKind.wrap .u8 (n:Int))] 5)):=by
 have e:(#[.int .u8 (IntKind.wrap .u8 (n:Int))]:Array aa)=(aF [UInt8.ofNat n]).toArray:=by
  rw[u7 I I];simp[aF,iF (show n<256 from I)]
 rw[e];exact⟨Src.new w _ 1 rfl,eu _ _⟩
theorem eQ{α:Type}{l:O α}{i:Nat}{d:α}(h:i<l.length):l.getD i d=l[i]:=by
 rw[fg,dE h];rfl
theorem cv.j5{n:aA}(h:cv n)(a:n.leaf=true):n.vals.length=n.keys.length:=by
 rcases h with h|h
 .exact h.len
 .have:=h.inner;rw[a]at this;cases this
theorem cv.oR{n:aA}(h:cv n)(a:n.leaf=false):n.kids.length=n.keys.length+1:=by
 rcases h with h|h
 .have:=h.leaf;rw[a]at this;cases this
 .exact h.len
theorem lW{B:Nat->Prop}{w:J}{n:aA}{K V D:Y}(h:br B w n K V D)(hs:cv n){i:Nat}(hi:i<n.keys.length)(ad:n.keys.length<=100000):
 aP ak 298 #[cQ n K V D,i] w (λv w'=>∃s:Y,v=s/\a7 1 5 w' s (aF (gj n i))/\Ext w w'/\gl w s):=by
 refine okF (af.lW n.leaf K V D (i:Int)) az.lW func298 ?_;(delta af.lW U ag aI aW a8 al au r1;dsimp only);refine bl (vs:=[n.leaf,K,V,D]) rfl λw1 r e _=>?_;have u:=cw w1;have Q:=e.trans u;have R:=h.ext Q;obtain⟨bI,aB,aT,aH⟩:=bw (r.ext u);obtain⟨A,t,ar,L,hc,ht,_⟩:=bf.at R.keys hi;have ae:=(hs.keys.ok _ (cr hi)).2;have S:=len8 ht.1;obtain⟨T,x⟩:=y_ w1.drew (n:=t.len) I;refine aY ⟨λ_=>False,id,K,aB,A,ar,L,id,t,hc,id,K,aB,A,ar,L,id,t,hc,aY ⟨x,aY ?_⟩⟩;refine(Dv (a:=⟨some w1.drew.heap.size,1,1⟩) (b:=t) T (ht.1.ext x) (by simp;omega)).use ?_;rintro _ y ⟨M,rfl,z,W,ah⟩;have d:=u.trans (x.trans W);obtain⟨d0,d1,d2,d3⟩:=bw (r.ext d);have X: [UInt8.ofNat t.len]++n.keys[i]=l1 (n.keys.getD i []):=by rw[eQ hi,S];rfl
 rw[X]at z;have N:=h.ext (e.trans d);refine⟨M,rfl,n.leaf,d0,λf=>?_,λf=>?_⟩
 .have ai:=hs.j5 f
  have C:i<n.vals.length:=by omega
  have g:=cw y;have Z:=N.ext g;obtain⟨aj,am,O,an⟩:=bw (r.ext (d.trans g));obtain⟨m,t2,o,p,q,P,_⟩:=bf.at Z.vals C;have ao:=hs.vals _ (cr C);have aa:=len8 P.1;obtain⟨ab,j⟩:=y_ y.drew (n:=t2.len) I;refine aY ⟨λ_=>False,id,V,O,m,o,p,id,t2,q,id,V,O,m,o,p,id,t2,q,aY ⟨j,aY ?_⟩⟩;refine(Dw (a:=M) (b:=⟨some y.drew.heap.size,1,1⟩) (c:=t2) (z.src.ext (g.trans j)) ab (P.1.ext j) (by rw[l2,eQ hi];simp;omega)).use ?_;rintro _ ac ⟨l,rfl,E,F,G⟩;refine⟨l,rfl,l,rfl,?_,(e.trans d).trans (g.trans (j.trans F)),G.mono ((e.trans d).trans (g.trans j)).size⟩;have:l1 (n.keys.getD i [])++([UInt8.ofNat t2.len]++n.vals[i])=gj n i:=by
   unfold gj;rw[f,if_pos rfl,eQ C,aa];rfl
  rwa[this]at E
 .have ap:=hs.oR f
  have H:i+1<n.kids.length:=by omega
  obtain⟨m,o,p,q⟩:=cx.at N.kids H;have aq:=hs.kids _ (cr H);rw[bu (n:=(i:Int)+1) I I,show(i:Int)+1=((i+1:Nat):Int) from I];refine⟨D,d3,m,o,p,_,q,?_⟩;rw[gJ (n:=((n.kids[i+1]:Nat):Int)) I I];refine(g1 z.src (n:=n.kids[i+1]) (k:=2) (by rw[l2,eQ hi];omega) (by show _<18446744073709551616;omega) ⟨by decide,by decide⟩).use ?_;rintro _ ac ⟨l,rfl,E,F,G⟩;refine⟨l,rfl,l,rfl,?_,(e.trans d).trans F,gl.mono G (e.trans d).size⟩;have:l1 (n.keys.getD i [])++bU n.kids[i+1] 2=gj n i:=by
   unfold gj;rw[f,if_neg (by simp),eQ H]
  rwa[this]at E
theorem tP{n:aA}(hs:cv n){i:Nat}(hi:i<n.keys.length):(gj n i).length<=100:=by
 unfold gj;have:=(hs.keys.ok _ (cr hi)).2;rw[cF,l2,eQ hi];split
 .rename_i b
  have a:i<n.vals.length:=by have:=hs.j5 b;omega
  have:=hs.vals _ (cr a);rw[l2,eQ a];omega
 .rw[eC];omega
theorem vX{n:aA}(hs:cv n):∀m,m<=n.keys.length->(gM n 0 m).length<=100*m
 |0,_=>by simp[gM]
 |m+1,a=>by
  have:=vX hs m I
  have:=tP hs (i:=m) I
  rw[vM,cF];omega
theorem mX{B:Nat->Prop}{w:J}{n:aA}{K V D:Y}(h:br B w n K V D)(hs:cv n)(aj:n.keys.length<=255):
 aP ak 293 #[cQ n K V D] w (λv w'=>∃s:Y,v=s/\a7 1 5 w' s (aF (im n))/\Ext w w'/\gl w s):=by
 refine okF (af.mX n.leaf K V D) az.mX func293 ?_;(delta af.mX ag U a8 al aI r1 aW au;dsimp only);refine bl (vs:=[n.leaf,K,V,D]) rfl λw1 g l _=>?_;obtain⟨bI,aB,aT,aH⟩:=bw g;have u:=h.ext l;have E:=bf.len u.keys;have F:(#[.int .u8 (IntKind.wrap .u8 (K.len:Int))]:Array aa)=(aF [UInt8.ofNat n.keys.length]).toArray:=by
  rw[E,u7 I I];simp[aF,iF (show n.keys.length<256 from I)]
 refine⟨K,aB,?_⟩;rw[F];have m:=a7.new (T:=5) (sz:=1) w1 (aF [UInt8.ofNat n.keys.length]) 1 rfl (by decide);have c:=eu w1 (.cells (aF [UInt8.ofNat n.keys.length]).toArray 5);obtain⟨ah,G⟩:∃ah,ah=w1.alloc (.cells (aF [UInt8.ofNat n.keys.length]).toArray 5):=⟨_,rfl⟩;rw[←G]at m c⊢;obtain⟨d0,d1,d2,d3⟩:=bw (g.ext c);have H:=l.trans c;refine aY (ct (λd w'=>a7 1 5 w' d (aF (preB n))/\Ext ah w'/\gl w1 d) (λq x=>⟨n.leaf,d0,λa=>?_,λa=>x _ _ ⟨?_,.refl _ _,?_⟩⟩) ?_)
 .have a:n.leaf=false:=by simpa using a
  have am:=hs.oR a;have o:0<n.kids.length:=by omega
  obtain⟨L,M,N,O⟩:=cx.at (h.ext H).kids o;have an:=hs.kids _ (cr o);refine⟨D,d3,L,M,N,_,O,?_⟩;rw[gJ (n:=((n.kids[0]:Nat):Int)) I I];refine(g1 m.src (n:=n.kids[0]) (k:=2) (by simp) (by show _<18446744073709551616;omega) ⟨by decide,by decide⟩).use ?_;rintro _ P ⟨p,rfl,e,b,f⟩;refine⟨p,rfl,x _ _ ⟨?_,b,gl.mono f c.size⟩⟩;have: [UInt8.ofNat n.keys.length]++bU n.kids[0] 2=preB n:=by
   unfold preB;rw[a,if_neg (by simp),eQ o];rfl
  rwa[this]at e
 .have a:n.leaf=true:=by simpa using a
  have:preB n=[UInt8.ofNat n.keys.length]:=by unfold preB;rw[a];rfl
  rw[this];exact m
 .rintro k ⟨A,ar,rfl⟩
  cases ar;exact bo _
 rintro ao ap ⟨Q,R,S⟩;have y:=c.trans R;obtain⟨d0,d1,d2,d3⟩:=bw (g.ext y);have aq:(preB n).length<=3:=by
  unfold preB
  cases n.leaf<;>simp[eC]
 refine⟨K,d1,λd i w'=>∃j:Nat,i=j/\j<=n.keys.length/\a7 1 5 w' d (aF (preB n++gM n 0 j))/\Ext w1 w'/\gl w1 d,λ_ i _=>((n.keys.length:Int)-i).toNat,⟨0,rfl,cN _,by simpa[gM] using Q,y,S⟩,?_⟩;rintro p _ P ⟨j,rfl,W,e,b,f⟩;refine⟨λaK=>?_,λr=>?_⟩
 .have aK:j<n.keys.length:=by have:=b_ aK;omega
  obtain⟨f0,f1,f2,f3⟩:=bw (g.ext b);refine⟨n.leaf,f0,K,f1,V,f2,D,f3,(lW (u.ext b) hs aK I).use ?_⟩;rintro _ aw ⟨X,rfl,z,t,ay⟩;have C:=ld e;have Z:=ld z;have cd:=tP hs aK;have bQ:=vX hs j W;rw[cF]at C;obtain⟨ab,ac,av,ax,aC,ad,ae⟩:=qo.append (dG:=48) z.src (e.ext t) (k8 _) (by rw[C,Z];omega);rw[bu (n:=(j:Int)+1) I I];refine⟨X,rfl,ab,ac,av,⟨j+1,I,I,?_,Ext.dc (b.trans t) ad f,λk ai=>?_⟩,?_⟩
  .rw[vM,←cV,m6];exact ax
  .rcases ae k ai with h|h
   .exact f k h
   .exact eI (b.trans t).size h
  .show((n.keys.length:Int)-((j:Int)+1)).toNat<((n.keys.length:Int)-(j:Int)).toNat
   omega
 .have r:j=n.keys.length:=by have:=cG r;omega
  subst r;exact⟨p,rfl,e,l.trans b,f.mono l.size⟩
theorem mV{B:Nat->Prop}{w:J}{n:aA}{K V D:Y}(h:br B w n K V D)(hs:cv n)(f:n.keys.length<=255):
 aP ak 280 #[cQ n K V D] w (λv w'=>v=.int .i64 (bz n:Nat)/\Ext w w'):=by
 have g:n.vals.length<=100000:=by
  rcases hs with hs|hs
  .rw[hs.len];omega
  .rw[hs.vals];simp
 have i:n.kids.length<=100000:=by
  rcases hs with hs|hs
  .rw[hs.kids];simp
  .rw[hs.len];omega
 refine okF (af.mV n.leaf K V D) az.mV func280 ?_;(delta af.mV a8 U ag aH al aW;dsimp only);refine bl (vs:=[n.leaf,K,V,D]) rfl λw1 d a _=>?_;obtain⟨bI,aB,aT,aH⟩:=bw d;refine⟨n.leaf,bI,K,aB,V,aT,D,aH,(jf (h.ext a) I g i).use ?_⟩;rintro _ ah ⟨b,rfl,j,c⟩;have k:=j.2 hs;subst k;obtain⟨bI,aB,aT,aH⟩:=bw (d.ext c);refine⟨true,rfl,λh=>(by cases h),λ_=>⟨n.leaf,bI,K,aB,V,aT,D,aH,(mX (h.ext (a.trans c)) hs f).use ?_⟩⟩;rintro _ p ⟨l,rfl,m,o,_⟩;have e:=ld m;rw[vP hs]at e;exact⟨l,rfl,by rw[e],(a.trans c).trans o⟩
def za(n:aA)(w w':J)(v:aa):Prop:=
 (∃s:Y,v=.tuple #[s,(0:Int)]/\a7 1 5 w' s (aF (im n))/\gl w s/\cv n/\bz n<=232)\/
 (∃e:Int,v=.tuple #[(),e]/\e≠0/\(cv n->232<bz n))
theorem mU{B:Nat->Prop}{w:J}{n:aA}{K V D:Y}(h:br B w n K V D)(m:n.keys.length<=100000)(o:n.vals.length<=100000)(p:n.kids.length<=100000):
 aP ak 274 #[cQ n K V D] w (λv w'=>za n w w' v/\Ext w w'):=by
 refine okF (af.mU n.leaf K V D) az.mU func274 ?_;(delta af.mU a8 U ag aH al aW;dsimp only);refine bl (vs:=[n.leaf,K,V,D]) rfl λw1 d e _=>?_;obtain⟨bI,aB,aT,aH⟩:=bw d;refine⟨n.leaf,bI,K,aB,V,aT,D,aH,(jf (h.ext e) m o p).use ?_⟩;rintro _ ah ⟨b,rfl,f,g⟩;have a:=e.trans g;obtain⟨bI,aB,aT,aH⟩:=bw (d.ext g);have u:=bf.len h.keys;refine⟨b,rfl,ct (λc w'=>ah=w'/\(c=true->cv n->255<n.keys.length)/\(c=false->cv n/\n.keys.length<=255)) (λq i=>⟨λh1=>i _ _ ⟨rfl,λ_ hs=>?_,λh=>(by cases h)⟩,λh1=>⟨K,aB,i _ _ ⟨rfl,λh2 hs=>?_,λh2=>?_⟩⟩⟩) ?_⟩
 .have h1:b=false:=by simpa using h1
  rw[f.2 hs]at h1;cases h1
 .have:=b_ h2;omega
 .have h1:b=true:=by simpa using h1
  have:=cG h2;exact⟨f.1 h1,I⟩
 rintro c w' ⟨rfl,av,ax⟩;refine⟨λh1=>⟨.inr ⟨4,rfl,by decide,λhs=>?_⟩,a⟩,λh1=>?_⟩
 .have:=av h1 hs
  have:=tC hs;omega
 obtain⟨hs,r⟩:=ax h1;refine⟨n.leaf,bI,K,aB,V,aT,D,aH,(mX (h.ext a) hs r).use ?_⟩;rintro _ x ⟨j,rfl,k,l,s⟩;have t:=ld k;rw[vP hs]at t;refine⟨j,rfl,λh2=>⟨.inr ⟨10,rfl,by decide,λ_=>?_⟩,a.trans l⟩,λh2=>⟨.inl ⟨j,rfl,k,s.mono a.size,hs,?_⟩,a.trans l⟩⟩
 .have:=b_ h2;omega
 .have:=cG h2;omega
theorem oG{B:Nat->Prop}{w:J}{n:aA}{K V D:Y}(h:br B w n K V D)(d:n.keys.length<=100000)(f:n.vals.length<=100000)(g:n.kids.length<=100000):
 aP ak 295 #[cQ n K V D] w (λv w'=>za n w w' v/\Ext w w'):=by
 refine okF (af.oG n.leaf K V D) az.oG func295 ?_;(delta af.oG a8 U ag b8;dsimp only);refine bl (vs:=[n.leaf,K,V,D]) rfl λw1 i a _=>?_;obtain⟨bI,aB,aT,aH⟩:=bw i;refine⟨n.leaf,bI,K,aB,V,aT,D,aH,(mU (h.ext a) d f g).use ?_⟩;rintro _ ah ⟨j,c⟩;rcases j with ⟨s,rfl,k,hf,hs,b⟩|⟨e,rfl,he,b⟩
 .exact⟨s,0,rfl,.inl ⟨s,rfl,k,hf.mono a.size,hs,b⟩,a.trans c⟩
 .exact⟨⟨none,0,0⟩,e,rfl,.inr ⟨e,rfl,he,b⟩,a.trans c⟩
theorem dI{w:J}{b i:Nat}{vs:O aa}{T:TypeId}(h:Var w b vs T)(v:aa):Var (w.setCell ⟨b,i,none⟩ v) b (vs.set i v) T:=by
 have:=bm.set h i v;have e:vs.toArray.setIfInBounds i v=(vs.set i v).toArray:=by simp
 rw[e]at this;exact this
theorem dB{w:J}{b i:Nat}{vs:O aa}{T:TypeId}(h:Var w b vs T)(hi:i<vs.length):(∃u:aa,w.cell? ⟨b,i,none⟩=some u)/\w.frozen? ⟨b,i,none⟩=false:=
 ⟨⟨vs[i],by rw[h.cell];simp[hi]⟩,bm.frozen h _ rfl⟩
theorem dg(w:J)(b i:Nat)(v:aa):ad (λq=>q=b) w (w.setCell ⟨b,i,none⟩ v):=ad.gj (.refl _ _) v
structure iq(w:J)(r:Nat)(s:Y)(rd:Rd):Prop where
 v:Var w r [s,rd.2] 354
 src:Src 1 w s (aF rd.1)
 le:s.len<=s.cap
 ne:∀k,aC s k->k≠r
theorem iq.ab{W:Nat->Prop}{w w':J}{r:Nat}{s:Y}{rd:Rd}(h:iq w r s rd)(hc:ad W w w')(h1:¬W r)(h2:∀k,aC s k->¬W k):iq w' r s rd:=⟨h.v.ab hc h1,h.src.ab hc h2,h.le,h.ne⟩
theorem iq.ext{w w':J}{r:Nat}{s:Y}{rd:Rd}(h:iq w r s rd)(hc:Ext w w'):iq w' r s rd:=iq.ab h hc id λ_ _ h=>h
theorem tQ{a:aq ae}{z l m n c k:Nat}(h:aC ⟨aO a z l m,n,c⟩ k):∃A,a=some A/\A.block=k:=by
 obtain⟨A,ar,rfl⟩:=h;unfold aO at ar;split at ar
 .exact⟨A,ar,rfl⟩
 .cases b:a with
  |none=>rw[b]at ar;cases ar
  |some d=>
   rw[b]at ar;simp only[lC,Option.some.injEq]at ar;exact⟨d,rfl,by subst ar;unfold Addr.add;split<;>rfl⟩
theorem zb{w:J}{r:Nat}{s:Y}{rd:Rd}(h:iq w r s rd)(k:Nat)(z:k<=100000)(u:rd.1.length<=100000):
 aP ak 292 #[.pointer (some r),k] w (λv w'=>∃t m:Y,v=t/\bk (λq=>w.heap.size<=q) w' t (gN rd k).1/\iq w' r m (gN rd k).2/\ad (λq=>q=r) w w'/\(∀q,aC m q->aC s q)):=by
 obtain⟨l,ok⟩:=rd;have f:=h.v;have x:=len8 h.src;simp only at x u f;have aK:=f.lt;refine okF (af.tq (some r) (k:Int)) az.tq func292 ?_;(delta af.tq a8 al ag st aW;dsimp only);refine⟨_,rfl,ok,by rw[ay];exact f.cell,ct (λb w'=>w=w'/\b=decide (ok=false\/l.length<k)) (λq c=>⟨λh1=>c _ _ ⟨rfl,?_⟩,λh1=>⟨_,rfl,s,f.cell,c _ _ ⟨rfl,?_⟩⟩⟩) ?_⟩
 .have h1:ok=false:=by simpa using h1
  exact(dL (.inl h1)).symm
 .have h1:ok=true:=by simpa using h1
  subst h1;rw[fD,cR,cR];constructor
  .intro h;exact .inr I
  .rintro(h|h)
   .cases h
   .omega
 rintro b w' ⟨rfl,rfl⟩;refine⟨λd=>⟨_,rfl,?_⟩,λd=>⟨_,rfl,s,f.cell,?_⟩⟩
 .have d:=b_ d
  obtain⟨av,ax⟩:=dB f (i:=1) (by simp);rw[ay];have hc:=dg w r 1 false;have e:gN (l,ok) k=([],(l,false)):=by unfold gN;rw[if_pos d]
  rw[e];refine⟨av,ax,aY ⟨⟨none,0,0⟩,s,rfl,⟨(a7.none 1 5 _).src,bo _,λq c=>(gu q c).elim⟩,⟨dI f _,h.src.ab hc λq c=>h.ne q c,h.le,h.ne⟩,hc,λq c=>c⟩⟩
 .have d:=cG d
  have e:gN (l,ok) k=(l.take k,(l.drop k,true)):=by unfold gN;rw[if_neg d]
  have C:k<=l.length:=by
   rcases dR l.length k with h1|h1
   .exact absurd (.inr h1) d
   .exact h1
  have y:ok=true:=by
   cases ok with
   |true=>rfl
   |false=>exact absurd (.inl rfl) d
  subst y;rw[e];have D:=h.le;refine⟨⟨I,I⟩,?_⟩;have n:=l5 h.src h.le (lo:=0) (hi:=k) I I;rw[lG,nC]at n;rw[di,nC];refine(jD (B:=λq=>w.heap.size<=q) (s:=⟨aO s.a 1 0 s.cap,k,s.cap-0⟩) n (by rw[cC];omega) (λq c=>c)).use ?_;rintro _ w1 ⟨t,rfl,ht,g,E⟩;have j:=f.ext g;obtain⟨av,ax⟩:=dB j (i:=0) (by simp);have hc:=dg w1 r 0 (.slice (aO s.a 1 k s.cap) (s.len-k) (s.cap-k));have o:=l5 (h.src.ext g) h.le (lo:=k) (hi:=s.len) I (bo _);rw[dP (l:=l.drop k) (by rw[cX];omega)]at o;have p:∀q,aC ⟨aO s.a 1 k s.cap,s.len-k,s.cap-k⟩ q->q≠r:=λq c=>by
   obtain⟨A,ar,d⟩:=tQ c;exact h.ne q ⟨A,ar,d⟩
  refine⟨t,rfl,_,rfl,s,j.cell,⟨I,I⟩,_,rfl,av,ax,aY ⟨t,⟨aO s.a 1 k s.cap,s.len-k,s.cap-k⟩,rfl,bk.ab ht hc (λq c e=>by subst e;omega),⟨dI j _,o.ab hc λq c=>p q c,by show s.len-k<=s.cap-k;omega,p⟩,(ad.cK g).trans hc,λq c=>?_⟩⟩;obtain⟨A,ar,d⟩:=tQ c;exact⟨A,ar,d⟩
theorem vY{w:J}{r:Nat}{s:Y}{rd:Rd}(h:iq w r s rd)(k:Nat)(c:1<=k/\k<=2)(g:rd.1.length<=100000):
 aP ak 272 #[.pointer (some r),k] w (λv w'=>∃b:Y,v=.int .i64 ((rdNum rd k).1:Nat)/\iq w' r b (rdNum rd k).2/\ad (λq=>q=r) w w'/\(∀q,aC b q->aC s q)):=by
 refine okF (af.tl (some r) (k:Int)) az.tl func272 ?_;(delta af.tl aW n4 au;dsimp only);refine(zb h k I g).use ?_;rintro _ w1 ⟨t,b,rfl,ht,d,hc,e⟩;have hlen:(gN rd k).1.length=k\/(gN rd k).1=[]:=by
  unfold gN;split
  .exact .inr rfl
  .rename_i i
   left;rw[cC];have:¬rd.1.length<k:=λh=>i (.inr h);omega
 have f:=l0 k (gN rd k).1;have j:256^k<=65536:=eI (qY I c.2) (by decide);refine⟨t,rfl,?_⟩;rcases hlen with hlen|hlen
 .refine(jZ (a:=0) (k:=k) ht.1 ht.2.1 ⟨c.1,I⟩ I I).use ?_
  rintro _ _ ⟨rfl,rfl⟩;have f:=f hlen;rw[lG,dP I];refine⟨_,_,rfl,b,?_,d,hc,e⟩;rw[bu I I];unfold rdNum;rw[if_pos hlen]
 .refine(Dk (k:=k) ht.1 I (by rw[hlen];simp;omega)).use ?_
  rintro _ _ ⟨rfl,rfl⟩;refine⟨_,_,rfl,b,?_,d,hc,e⟩;unfold rdNum;rw[if_neg (by rw[hlen];simp;omega)];rfl
theorem vZ(rd:Rd)(k:Nat):(rdNum rd k).1<256^k:=by
 unfold rdNum;split
 .exact l0 k _ (by assumption)
 .exact Nat.pow_pos I
theorem zc(rd:Rd)(k:Nat):(gN rd k).2.1.length<=rd.1.length/\(gN rd k).1.length<=k:=by
 unfold gN;split
 .exact⟨bo _,cN _⟩
 .exact⟨by rw[cX];omega,by rw[cC];omega⟩
theorem tR(rd:Rd)(k:Nat):(rdNum rd k).2.1.length<=rd.1.length:=(zc rd k).1
theorem zd(rd:Rd):(iK rd).2.1.length<=rd.1.length/\(iK rd).1.length<=255:=by
 unfold iK;have h1:=zc (rdNum rd 1).2 (rdNum rd 1).1;have h2:=tR rd 1;have a:(rdNum rd 1).1<256:=vZ rd 1;exact⟨I,I⟩
theorem ze{w:J}{r:Nat}{s:Y}{rd:Rd}(h:iq w r s rd)(d:rd.1.length<=100000):
 aP ak 273 #[.pointer (some r)] w (λv w'=>∃t b:Y,v=t/\bk (λq=>w.heap.size<=q) w' t (iK rd).1/\iq w' r b (iK rd).2/\ad (λq=>q=r) w w'/\(∀q,aC b q->aC s q)):=by
 refine okF (af.tm (some r)) az.tm func273 ?_;(delta af.tm aB aW;dsimp only);refine(vY h 1 I d).use ?_;rintro _ w1 ⟨s1,rfl,e,c,f⟩;have k:(rdNum rd 1).1<256:=vZ rd 1;have l:=tR rd 1;refine⟨_,rfl,(zb e (rdNum rd 1).1 I I).use ?_⟩;rintro _ ah ⟨t,s2,rfl,ht,g,i,j⟩;exact⟨t,rfl,t,s2,rfl,bk.aV ht λq _ a=>eI c.size a,g,c.trans i,λq a=>f q (j q a)⟩
theorem bh.aV{B C:Nat->Prop}{w:J}{s:Y}{ls:O Key}(h:bh B w s ls)(a:∀k,k<w.heap.size->B k->C k):bh C w s ls:=by
 obtain⟨ts,h1,h2,e,b⟩:=h;exact⟨ts,h1,h2,In.aV e a,λi c d=>⟨bk.aV (b i c d).1 a,(b i c d).2⟩⟩
theorem cB.aV{B C:Nat->Prop}{w:J}{s:Y}{ds:O Nat}(h:cB B w s ds)(a:∀k,k<w.heap.size->B k->C k):cB C w s ds:=⟨h.1,In.aV h.2 a⟩
def Grow(B:Nat->Prop)(w w':J)(q:Nat):Prop:=B q\/(w.heap.size<=q/\q<w'.heap.size)
theorem tS{w:J}{nb o:Nat}{vs:O aa}{S t:Y}{ls:O Key}{l:Key}{B:Nat->Prop}{T:TypeId}{W:Nat->Prop}(d:Var w nb vs T)(p:o<vs.length)(f:bh B w S ls)(g:¬B nb)
 (ht:bk B w t l) (hd:∀k,aC t k->¬aC S k) (D:ls.length<=100000) {K:J->Prop}
 (r:∀ (w':J) (aJ:Y),Var w' nb (vs.set o aJ) T->bh (Grow B w w') w' aJ (ls++ [l])->ad (λq=>q=nb\/aC S q) w w'->K w'):
 an (w.alloc (.cells #[t] 48)) λi=>ad W w i/\∃j:Y,∃b:J,Sem.run ak (Builtin.append_ #[127,127] 127 #[S,.slice (some w.heap.size) 1 1]) i=.ok j b/\
  (∃u:aa,b.cell? (Addr.add nb o)=some u)/\b.frozen? (Addr.add nb o)=false/\an (b.setCell (Addr.add nb o) j) λs=>K s:=by
 have v:=bh.aV (C:=λq=>B q\/w.heap.size<=q) f λk _ h=>.inl h;have x:=bk.aV (C:=λq=>B q\/w.heap.size<=q) ht λk _ h=>.inl h;obtain⟨c,w',av,ax,m,E⟩:=y8 v x hd I λk a=>.inr a;have F:=d.lt;have y:¬aC S nb:=λh=>by
  obtain⟨ts,_,_,z,_⟩:=f;exact g (z nb h).1
 have n:=d.ab m y;obtain⟨aB,aT⟩:=dB n p;refine aY ⟨ad.cK (eu _ _),c,w',av,?_⟩;rw[ay,cE];have hc:=dg w' nb o c;refine⟨aB,aT,aY (r _ c (dI n _) ?_ ?_)⟩
 .have A:=bh.aV (C:=Grow B w (w'.setCell ⟨nb,o,none⟩ c)) ax λk a h=>by
   rcases h with h|h
   .exact .inl h
   .exact .inr ⟨h,fl a hc.size⟩
  refine bh.ab A hc λk a e=>?_;subst e;rcases a with h|h
  .exact g h
  .omega
 .exact(m.mono λk _ h=>.inr h).trans (hc.mono λk _ h=>.inl h)
theorem zf{w:J}{nb o:Nat}{vs:O aa}{S:Y}{ds:O Nat}(d:Nat){B:Nat->Prop}{T:TypeId}{W:Nat->Prop}(f:Var w nb vs T)(p:o<vs.length)(g:cB B w S ds)(i:¬B nb)
 (y:ds.length<=100000) {K:J->Prop}
 (r:∀ (w':J) (aJ:Y),Var w' nb (vs.set o aJ) T->cB (Grow B w w') w' aJ (ds++ [d])->ad (λq=>q=nb\/aC S q) w w'->K w'):
 an (w.alloc (.cells #[d] 3)) λj=>ad W w j/\∃l:Y,∃b:J,Sem.run ak (Builtin.append_ #[58,58] 58 #[S,.slice (some w.heap.size) 1 1]) j=.ok l b/\
  (∃u:aa,b.cell? (Addr.add nb o)=some u)/\b.frozen? (Addr.add nb o)=false/\an (b.setCell (Addr.add nb o) l) λs=>K s:=by
 have t:=cB.aV (C:=λq=>B q\/w.heap.size<=q) g λk _ h=>.inl h;obtain⟨c,w',av,ax,m,z⟩:=Ds d t I λk a=>.inr a;have A:=f.lt;have v:¬aC S nb:=λh=>i (g.2 nb h).1;have n:=f.ab m v;obtain⟨aB,aT⟩:=dB n p;refine aY ⟨ad.cK (eu _ _),c,w',av,?_⟩;rw[ay,cE];have hc:=dg w' nb o c;refine⟨aB,aT,aY (r _ c (dI n _) ?_ ?_)⟩
 .have x:=cB.aV (C:=Grow B w (w'.setCell ⟨nb,o,none⟩ c)) ax λk a h=>by
   rcases h with h|h
   .exact .inl h
   .exact .inr ⟨h,fl a hc.size⟩
  refine cB.ab x hc λk a e=>?_;subst e;rcases a with h|h
  .exact i h
  .omega
 .exact(m.mono λk _ h=>.inr h).trans (hc.mono λk _ h=>.inl h)
structure jg(lo:Nat)(w:J)(r nb:Nat)(s:Y)(m:aA×Rd)(K V D:Y)(bD bS bA:Nat->Prop):Prop where
 v:Var w nb [m.1.leaf,K,V,D] 202
 rd:iq w r s m.2
 keys:bh bD w K m.1.keys
 vals:bh bS w V m.1.vals
 kids:cB bA w D m.1.kids
 ba:∀q,bD q->lo<=q/\q<w.heap.size/\¬bS q/\¬bA q
 bv:∀q,bS q->lo<=q/\q<w.heap.size/\¬bA q
 aI:∀q,bA q->lo<=q/\q<w.heap.size
 hs:∀q,aC s q->q<lo/\q≠nb
 m8:r<lo
 m9:nb<lo
 jh:r≠nb
 m_:m.2.1.length<=100000
def na(lo r nb:Nat)(q:Nat):Prop:=q=r\/q=nb\/lo<=q
theorem jg.drew{lo:Nat}{w:J}{r nb:Nat}{s:Y}{m:aA×Rd}{K V D:Y}{bD bS bA:Nat->Prop}(h:jg lo w r nb s m K V D bD bS bA):jg lo w.drew r nb s m K V D bD bS bA:=
 ⟨h.v.ext (cw w),h.rd.ext (cw w),bh.ext h.keys (cw w),bh.ext h.vals (cw w),cB.ext h.kids (cw w),h.ba,h.bv,h.aI,h.hs,h.m8,h.m9,h.jh,h.m_⟩
theorem zg{leaf:ai}:∀ (s:aA×Rd) (i:Nat),s.1.leaf=leaf->(g3 s i).1.leaf=leaf
 |_,0,h=>h
 |s,i+1,h=>by
  have a:=zg s i h
  rw[g3]
  unfold m7
  split
  .exact a
  .exact a
theorem zh:∀ (s:aA×Rd) (i:Nat),(g3 s i).1.keys.length=s.1.keys.length+i/\(g3 s i).1.vals.length<=s.1.vals.length+i/\(g3 s i).1.kids.length<=s.1.kids.length+i
 |_,0=>⟨rfl,bo _,bo _⟩
 |s,i+1=>by
  obtain⟨h1,h2,a⟩:=zh s i
  rw[g3]
  unfold m7
  split<;>simp<;>omega
theorem Dx{lo:Nat}{w:J}{r nb:Nat}{s:Y}{m:aA×Rd}{K V D:Y}{bD bS bA:Nat->Prop}(h:jg lo w r nb s m K V D bD bS bA)(ae:lo<=w.heap.size)(G:m.1.keys.length<=100000){R:J->Prop}
 (H:∀ (w':J) (l n:Y) (L:Nat->Prop),jg lo w' r nb n (⟨m.1.leaf,m.1.keys++ [(iK m.2).1],m.1.vals,m.1.kids⟩,(iK m.2).2) l V D L bS bA->ad (na lo r nb) w w'->lo<=w'.heap.size->R w'):
 an w.drew λp=>∃x:Nat->Prop,¬x (Addr.add nb 1).block/\∃i:Y,p.cell? (Addr.add nb 1)=some (.slice i.a i.len i.cap)/\
  Calls ak 273 #[.pointer (some r)] p λM d=>∃C:Y,M=.returned C/\ad x p d/\
  an (d.alloc (.cells #[C] 48)) λE=>ad x d E/\∃F:Y,∃j:J,Sem.run ak (Builtin.append_ #[127,127] 127 #[i,.slice (some d.heap.size) 1 1]) E=.ok F j/\
  (∃u:aa,j.cell? (Addr.add nb 1)=some u)/\j.frozen? (Addr.add nb 1)=false/\an (j.setCell (Addr.add nb 1) F) λN=>R N:=by
 have hd:=h.drew;have af:=h.m8;have ag:=h.m9;obtain⟨bI,aB,aT,aH⟩:=bw hd.v;refine aY ⟨λq=>q=r,λe=>h.jh (by rw[ay]at e;exact e.symm),K,aB,(ze hd.rd hd.m_).use ?_⟩;rintro _ d ⟨t,n,rfl,ht,O,hc,y⟩;have ah:w.drew.heap.size=w.heap.size:=rfl;have P:=hc.size;have z:∀ {B:Nat->Prop},(∀q,B q->lo<=q)->∀k,B k->¬(k=r):=λQ k c e=>by have:=Q k c;omega
 have S:=bh.ab hd.keys hc (z λq b=>(h.ba q b).1);have T:=bh.ab hd.vals hc (z λq b=>(h.bv q b).1);have U:=cB.ab hd.kids hc (z λq b=>(h.aI q b).1);have W:=hd.v.ab hc (λe=>h.jh e.symm);refine⟨t,rfl,hc,tS (B:=Grow bD w.drew d) W (o:=1) (by simp) (bh.aV S λk _ h=>.inl h) ?_ (bk.aV ht λk c h=>.inr ⟨h,c⟩) ?_ G λw' l av ax f=>?_⟩
 .rintro(h1|h1)
  .have:=(h.ba nb h1).1;omega
  .omega
 .intro k X Z
  obtain⟨ts,_,_,A,_⟩:=h.keys;have:=(A k Z).2;have:=(ht.2.2 k X).1;omega
 have ac:∀q,Grow (Grow bD w.drew d) d w' q->bD q\/(w.heap.size<=q/\q<w'.heap.size):=by
  rintro q ((h1|h1)|h1)
  .exact .inl h1
  .exact .inr ⟨h1.1,fl h1.2 f.size⟩
  .exact .inr ⟨eI P h1.1,h1.2⟩
 have hg:=f.size;have g:∀q,aC K q->bD q:=λq b=>by
  obtain⟨ts,_,_,A,_⟩:=h.keys;exact(A q b).1
 refine H w' l n (λq=>bD q\/(w.heap.size<=q/\q<w'.heap.size)) ⟨by simpa using av,O.ab f ?_ ?_,bh.aV ax λk _ c=>ac k c,bh.ab T f ?_,cB.ab U f ?_,?_,λq b=>?_,λq b=>?_,λq b=>h.hs q (y q b),h.m8,h.m9,h.jh,eI (zd m.2).1 h.m_⟩ ?_ I
 .rintro(h1|h1)
  .exact h.jh h1
  .have:=(h.ba r (g r h1)).1;omega
 .rintro q b (h1|h1)
  .exact(h.hs q (y q b)).2 h1
  .have:=(h.ba q (g q h1)).1
   have:=(h.hs q (y q b)).1;omega
 .rintro q b (h1|h1)
  .have:=(h.bv q b).1;omega
  .exact(h.ba q (g q h1)).2.2.1 b
 .rintro q b (h1|h1)
  .have:=(h.aI q b).1;omega
  .exact(h.ba q (g q h1)).2.2.2 b
 .rintro q (h1|h1)
  .have:=h.ba q h1;exact⟨this.1,I,this.2.2⟩
  .exact⟨I,h1.2,λh2=>by have:=h.bv q h2;omega,λh2=>by have:=h.aI q h2;omega⟩
 .have:=h.bv q b;exact⟨this.1,I,this.2.2⟩
 .have:=h.aI q b;exact⟨this.1,I⟩
 .refine((ad.cK (cw w)).trans (hc.mono λk _ c=>.inl c)).trans (f.mono λk _ c=>?_)
  rcases c with c|c
  .exact .inr (.inl c)
  .exact .inr (.inr (h.ba k (g k c)).1)
theorem Dy{lo:Nat}{w:J}{r nb:Nat}{s:Y}{m:aA×Rd}{K V D:Y}{bD bS bA:Nat->Prop}(h:jg lo w r nb s m K V D bD bS bA)(ae:lo<=w.heap.size)(G:m.1.vals.length<=100000){R:J->Prop}
 (H:∀ (w':J) (l n:Y) (L:Nat->Prop),jg lo w' r nb n (⟨m.1.leaf,m.1.keys,m.1.vals++ [(iK m.2).1],m.1.kids⟩,(iK m.2).2) K l D bD L bA->ad (na lo r nb) w w'->lo<=w'.heap.size->R w'):
 an w.drew λp=>∃x:Nat->Prop,¬x (Addr.add nb 2).block/\∃i:Y,p.cell? (Addr.add nb 2)=some (.slice i.a i.len i.cap)/\
  Calls ak 273 #[.pointer (some r)] p λM d=>∃C:Y,M=.returned C/\ad x p d/\
  an (d.alloc (.cells #[C] 48)) λE=>ad x d E/\∃F:Y,∃j:J,Sem.run ak (Builtin.append_ #[127,127] 127 #[i,.slice (some d.heap.size) 1 1]) E=.ok F j/\
  (∃u:aa,j.cell? (Addr.add nb 2)=some u)/\j.frozen? (Addr.add nb 2)=false/\an (j.setCell (Addr.add nb 2) F) λN=>R N:=by
 have hd:=h.drew;have af:=h.m8;have ag:=h.m9;obtain⟨bI,aB,aT,aH⟩:=bw hd.v;refine aY ⟨λq=>q=r,λe=>h.jh (by rw[ay]at e;exact e.symm),V,aT,(ze hd.rd hd.m_).use ?_⟩;rintro _ d ⟨t,n,rfl,ht,O,hc,y⟩;have ah:w.drew.heap.size=w.heap.size:=rfl;have P:=hc.size;have z:∀ {B:Nat->Prop},(∀q,B q->lo<=q)->∀k,B k->¬(k=r):=λQ k c e=>by have:=Q k c;omega
 have S:=bh.ab hd.keys hc (z λq b=>(h.ba q b).1);have T:=bh.ab hd.vals hc (z λq b=>(h.bv q b).1);have U:=cB.ab hd.kids hc (z λq b=>(h.aI q b).1);have W:=hd.v.ab hc (λe=>h.jh e.symm);refine⟨t,rfl,hc,tS (B:=Grow bS w.drew d) W (o:=2) (by simp) (bh.aV T λk _ h=>.inl h) ?_ (bk.aV ht λk c h=>.inr ⟨h,c⟩) ?_ G λw' l av ax f=>?_⟩
 .rintro(h1|h1)
  .have:=(h.bv nb h1).1;omega
  .omega
 .intro k X Z
  obtain⟨ts,_,_,A,_⟩:=h.vals;have:=(A k Z).2;have:=(ht.2.2 k X).1;omega
 have ac:∀q,Grow (Grow bS w.drew d) d w' q->bS q\/(w.heap.size<=q/\q<w'.heap.size):=by
  rintro q ((h1|h1)|h1)
  .exact .inl h1
  .exact .inr ⟨h1.1,fl h1.2 f.size⟩
  .exact .inr ⟨eI P h1.1,h1.2⟩
 have hg:=f.size;have g:∀q,aC V q->bS q:=λq b=>by
  obtain⟨ts,_,_,A,_⟩:=h.vals;exact(A q b).1
 refine H w' l n (λq=>bS q\/(w.heap.size<=q/\q<w'.heap.size)) ⟨by simpa using av,O.ab f ?_ ?_,bh.ab S f ?_,bh.aV ax λk _ c=>ac k c,cB.ab U f ?_,λq b=>?_,?_,λq b=>?_,λq b=>h.hs q (y q b),h.m8,h.m9,h.jh,eI (zd m.2).1 h.m_⟩ ?_ I
 .rintro(h1|h1)
  .exact h.jh h1
  .have:=(h.bv r (g r h1)).1;omega
 .rintro q b (h1|h1)
  .exact(h.hs q (y q b)).2 h1
  .have:=(h.bv q (g q h1)).1
   have:=(h.hs q (y q b)).1;omega
 .rintro q b (h1|h1)
  .have:=(h.ba q b).1;omega
  .exact(h.ba q b).2.2.1 (g q h1)
 .rintro q b (h1|h1)
  .have:=(h.aI q b).1;omega
  .exact(h.bv q (g q h1)).2.2 b
 .have:=h.ba q b
  refine⟨this.1,I,?_,this.2.2.2⟩;rintro(h1|h1)
  .exact this.2.2.1 h1
  .omega
 .rintro q (h1|h1)
  .have:=h.bv q h1;exact⟨this.1,I,this.2.2⟩
  .exact⟨I,h1.2,λh2=>by have:=h.aI q h2;omega⟩
 .have:=h.aI q b;exact⟨this.1,I⟩
 .refine((ad.cK (cw w)).trans (hc.mono λk _ c=>.inl c)).trans (f.mono λk _ c=>?_)
  rcases c with c|c
  .exact .inr (.inl c)
  .exact .inr (.inr (h.bv k (g k c)).1)
theorem zi{lo:Nat}{w:J}{r nb:Nat}{s:Y}{m:aA×Rd}{K V D:Y}{bD bS bA:Nat->Prop}(h:jg lo w r nb s m K V D bD bS bA)(T:lo<=w.heap.size)(A:m.1.kids.length<=100000){R:J->Prop}
 (C:∀ (w':J) (aw l:Y) (E:Nat->Prop),jg lo w' r nb l (⟨m.1.leaf,m.1.keys,m.1.vals,m.1.kids++ [(rdNum m.2 2).1]⟩,(rdNum m.2 2).2) K V aw bD bS E->ad (na lo r nb) w w'->lo<=w'.heap.size->R w'):
 an w.drew λn=>∃p:Nat->Prop,¬p (Addr.add nb 3).block/\∃i:Y,n.cell? (Addr.add nb 3)=some (.slice i.a i.len i.cap)/\
  Calls ak 272 #[.pointer (some r),(2:Int)] n λF d=>∃n30:Int,F=.returned n30/\ad p n d/\
  an (d.alloc (.cells #[n30] 3)) λy=>ad p d y/\∃z:Y,∃j:J,Sem.run ak (Builtin.append_ #[58,58] 58 #[i,.slice (some d.heap.size) 1 1]) y=.ok z j/\
  (∃u:aa,j.cell? (Addr.add nb 3)=some u)/\j.frozen? (Addr.add nb 3)=false/\an (j.setCell (Addr.add nb 3) z) λG=>R G:=by
 have hd:=h.drew;have U:=h.m8;have W:=h.m9;obtain⟨bI,aB,aT,aH⟩:=bw hd.v;refine aY ⟨λq=>q=r,λe=>h.jh (by rw[ay]at e;exact e.symm),D,aH,(vY hd.rd 2 (by decide) hd.m_).use ?_⟩;rintro _ d ⟨l,rfl,H,hc,t⟩;have X:w.drew.heap.size=w.heap.size:=rfl;have L:=hc.size;have x:∀ {B:Nat->Prop},(∀q,B q->lo<=q)->∀k,B k->¬(k=r):=λM k c e=>by have:=M k c;omega
 have N:=bh.ab hd.keys hc (x λq b=>(h.ba q b).1);have O:=bh.ab hd.vals hc (x λq b=>(h.bv q b).1);have P:=cB.ab hd.kids hc (x λq b=>(h.aI q b).1);have Q:=hd.v.ab hc (λe=>h.jh e.symm);refine⟨_,rfl,hc,zf (rdNum m.2 2).1 (B:=bA) Q (o:=3) (by simp) P (λh1=>by have:=(h.aI nb h1).1;omega) A λw' aw av ax f=>?_⟩;have S:∀q,Grow bA d w' q->bA q\/(w.heap.size<=q/\q<w'.heap.size):=by
  rintro q (h1|h1)
  .exact .inl h1
  .exact .inr ⟨eI L h1.1,h1.2⟩
 have hg:=f.size;have g:∀q,aC D q->bA q:=λq b=>(h.kids.2 q b).1;refine C w' aw l (λq=>bA q\/(w.heap.size<=q/\q<w'.heap.size)) ⟨by simpa using av,H.ab f ?_ ?_,bh.ab N f ?_,bh.ab O f ?_,cB.aV ax λk _ c=>S k c,λq b=>?_,λq b=>?_,?_,λq b=>h.hs q (t q b),h.m8,h.m9,h.jh,eI (tR m.2 2) h.m_⟩ ?_ I
 .rintro(h1|h1)
  .exact h.jh h1
  .have:=(h.aI r (g r h1)).1;omega
 .rintro q b (h1|h1)
  .exact(h.hs q (t q b)).2 h1
  .have:=(h.aI q (g q h1)).1
   have:=(h.hs q (t q b)).1;omega
 .rintro q b (h1|h1)
  .have:=(h.ba q b).1;omega
  .exact(h.ba q b).2.2.2 (g q h1)
 .rintro q b (h1|h1)
  .have:=(h.bv q b).1;omega
  .exact(h.bv q b).2.2 (g q h1)
 .have:=h.ba q b
  refine⟨this.1,I,this.2.2.1,?_⟩;rintro(h1|h1)
  .exact this.2.2.2 h1
  .omega
 .have:=h.bv q b
  refine⟨this.1,I,?_⟩;rintro(h1|h1)
  .exact this.2.2 h1
  .omega
 .rintro q (h1|h1)
  .have:=h.aI q h1;exact⟨this.1,I⟩
  .exact⟨I,h1.2⟩
 .refine((ad.cK (cw w)).trans (hc.mono λk _ c=>.inl c)).trans (f.mono λk _ c=>?_)
  rcases c with c|c
  .exact .inr (.inl c)
  .exact .inr (.inr (h.aI k (g k c)).1)
end Go.Proofs.YtkdhdlfonmgheaaGreat
