/- Contracts of the functions that the statement reaches, and the plain laws over them; each theorem stands with its conditions. -/
import Derived.Laws.Externs
import Derived.Laws.Small
import Derived.Lib.Builder
import Derived.Lib.Bytealg
import Derived.Lib.ConvBytes
import Derived.Lib.MakeNoZero
import Derived.Lib.SlBytesConst
import Derived.Lib.UnsafeStr
import Derived.Test.YtkdhdlfonmgheaaGreatVPlays2
namespace Go.Proofs.YtkdhdlfonmgheaaGreat
abbrev Key:=O UInt8
abbrev aH:=Key×Key
def eu:Key->Key->Int
 | [],[]=>0
 | [],_::_=> -1
 |_::_,[]=>1
 |a::x,b::y=>if a.toNat<b.toNat then -1 else if b.toNat<a.toNat then 1 else eu x y
theorem EJ{a b:UInt8}(h1:¬a.toNat<b.toNat)(h2:¬b.toNat<a.toNat):a=b:=UInt8.toNat_inj.1 I
theorem xm:∀a:Key,eu a a=0
 | []=>rfl
 |a::x=>by simp[eu,xm x]
theorem xn:∀ {a b:Key},eu a b=0->a=b
 | [],[],_=>rfl
 | [],_::_,h=>by simp[eu]at h
 |_::_,[],h=>by simp[eu]at h
 |a::x,b::y,h=>by
  unfold eu at h
  split at h
  .cases h
  .rename_i h1
   split at h
   .cases h
   .rename_i h2
    rw[EJ h1 h2,xn h]
theorem EK{a b:Key}:eu a b=0↔a=b:=⟨xn,λh=>h▸xm _⟩
theorem Au:∀a b:Key,eu a b= -1\/eu a b=0\/eu a b=1
 | [],[]=>.inr (.inl rfl)
 | [],_::_=>.inl rfl
 |_::_,[]=>.inr (.inr rfl)
 |a::x,b::y=>by
  unfold eu
  split
  .exact .inl rfl
  .split
   .exact .inr (.inr rfl)
   .exact Au x y
theorem Av:∀a b:Key,eu b a=-eu a b
 | [],[]=>rfl
 | [],_::_=>rfl
 |_::_,[]=>rfl
 |a::x,b::y=>by
  unfold eu
  by_cases h1:a.toNat<b.toNat
  .have h2:¬b.toNat<a.toNat:=by omega
   simp[h1,h2]
  .by_cases h2:b.toNat<a.toNat
   .simp[h1,h2]
   .simp only[h1,h2,if_false]
    exact Av x y
theorem Aw:∀ {a b c:Key},eu a b<0->eu b c<0->eu a c<0
 | [],[],_,h,_=>by simp[eu]at h
 | [],_::_,[],_,h=>by simp[eu]at h
 | [],_::_,_::_,_,_=>by simp[eu]
 |_::_,[],_,h,_=>by simp[eu]at h
 |_::_,_::_,[],_,h=>by simp[eu]at h
 |a::x,b::y,c::z,h1,h2=>by
  unfold eu at h1 h2⊢
  by_cases a1:a.toNat<b.toNat
  .by_cases a2:b.toNat<c.toNat
   .rw[if_pos I];decide
   .rw[if_neg a2]at h2
    by_cases a3:c.toNat<b.toNat
    .rw[if_pos a3]at h2;omega
    .rw[if_pos I];decide
  .rw[if_neg a1]at h1
   by_cases a2:b.toNat<a.toNat
   .rw[if_pos a2]at h1;omega
   .rw[if_neg a2]at h1
    by_cases a3:b.toNat<c.toNat
    .rw[if_pos I];decide
    .rw[if_neg a3]at h2
     by_cases a4:c.toNat<b.toNat
     .rw[if_pos a4]at h2;omega
     .rw[if_neg a4]at h2
      rw[if_neg I,if_neg I]
      exact Aw h1 h2
def bD(a b:Key):Prop:=eu a b<0
def ef(a b:Key):Prop:=¬eu b a<0
instance (a b:Key):Decidable (bD a b):=by unfold bD;infer_instance
instance (a b:Key):Decidable (ef a b):=by unfold ef;infer_instance
theorem lA{a b c:Key}(h1:bD a b)(h2:bD b c):bD a c:=Aw h1 h2
theorem l9(a:Key):¬bD a a:=by unfold bD;rw[xm];decide
theorem jY{a b:Key}(h:bD a b):¬bD b a:=λh2=>l9 a (lA h h2)
theorem vd(a b:Key):bD a b\/a=b\/bD b a:=by
 unfold bD;have h:=Av a b;rcases Au a b with h1|h1|h1
 .exact .inl I
 .exact .inr (.inl (xn h1))
 .exact .inr (.inr I)
theorem oa{a b:Key}:ef a b↔bD a b\/a=b:=by
 constructor
 .intro h
  rcases vd a b with h1|h1|h1
  .exact .inl h1
  .exact .inr h1
  .exact absurd h1 h
 .rintro(h|rfl)
  .exact jY h
  .exact l9 _
theorem Ax(a:Key):ef a a:=l9 a
theorem iB{a b:Key}(h:bD a b):ef a b:=oa.2 (.inl h)
theorem Ay{a b:Key}:¬bD a b↔ef b a:=Iff.rfl
theorem m0{a b c:Key}(h1:bD a b)(h2:ef b c):bD a c:=by
 rcases oa.1 h2 with h|rfl
 .exact lA h1 h
 .exact h1
theorem jZ{a b c:Key}(h1:ef a b)(h2:bD b c):bD a c:=by
 rcases oa.1 h1 with h|rfl
 .exact lA h h2
 .exact h2
theorem Az{a b c:Key}(h1:ef a b)(h2:ef b c):ef a c:=by
 rcases oa.1 h1 with h|rfl
 .exact iB (m0 h h2)
 .exact h2
def gI(l:O aH):Prop:=l.Pairwise λa b=>bD a.1 b.1
def eN(l:O aH)(k v:Key):O aH:=(l.filter λp=>decide (bD p.1 k))++(k,v)::l.filter λp=>decide (bD k p.1)
def ei(l:O aH)(k:Key):O aH:=l.filter λp=>decide (p.1≠k)
def ec(l:O aH)(k:Key):ao Key:=(l.find? λp=>decide (p.1=k)).map (·.2)
def eO(l:O aH)(fr to:Key):O aH:=l.filter λp=>decide (ef fr p.1)&&(to.isEmpty||decide (bD p.1 to))
def fj(lo hi:ao Key)(k:Key):Prop:=(∀a,lo=some a->ef a k)/\(∀b,hi=some b->bD k b)
theorem EL{a b:O aH}{k v:Key}(h:∀p∈b,bD k p.1):eN (a++b) k v=eN a k v++b:=by
 have d:b.filter (λp=>decide (bD p.1 k))=[]:=lR.2 λp c=>by simpa using jY (h p c)
 have e:b.filter (λp=>decide (bD k p.1))=b:=jQ.2 λp c=>dm (h p c);unfold eN;rw[kK,kK,d,e,fO,cM,nr]
theorem AA{a b:O aH}{k v:Key}(h:∀p∈a,bD p.1 k):eN (a++b) k v=a++eN b k v:=by
 have d:a.filter (λp=>decide (bD p.1 k))=a:=jQ.2 λp c=>dm (h p c);have e:a.filter (λp=>decide (bD k p.1))=[]:=lR.2 λp c=>by simpa using jY (h p c)
 unfold eN;rw[kK,kK,d,e,iM,cM]
theorem pS(a b:O aH)(k:Key):ei (a++b) k=ei a k++ei b k:=kK ..
theorem ob{a:O aH}{k:Key}(h:∀p∈a,p.1≠k):ei a k=a:=jQ.2 λp b=>dm (h p b)
theorem ko{a b:Key}(h:bD a b):a≠b:=λe=>l9 b (e▸h)
theorem pT{a b:O aH}:gI (a++b)↔gI a/\gI b/\∀p∈a,∀q∈b,bD p.1 q.1:=mF
theorem AB{l:O aH}{k v:Key}{p:aH}:p∈eN l k v↔p=(k,v)\/(p∈l/\p.1≠k):=by
 unfold eN;rw[cP,cS,hC,hC,cQ,cQ];constructor
 .rintro(⟨h,h2⟩|rfl|⟨h,h2⟩)
  .exact .inr ⟨h,ko h2⟩
  .exact .inl rfl
  .exact .inr ⟨h,(ko h2).symm⟩
 .rintro(rfl|⟨h,h2⟩)
  .exact .inr (.inl rfl)
  .rcases vd p.1 k with a|a|a
   .exact .inl ⟨h,a⟩
   .exact absurd a h2
   .exact .inr (.inr ⟨h,a⟩)
end Go.Proofs.YtkdhdlfonmgheaaGreat
namespace Go.Proofs.YtkdhdlfonmgheaaGreat
structure aB where
 leaf:ah
 keys:O Key
 vals:O Key
 kids:O Nat
 deriving DecidableEq
abbrev Below:=ao Key->ao Key->Nat->O Nat->O aH->Prop
inductive dz (W:Below):ao Key->ao Key->O Key->O Nat->O Nat->O aH->Prop
 |one {lo hi:ao Key}{k:Nat}{p:O Nat}{L:O aH} (h:W lo hi k p L):dz W lo hi [] [k] p L
 |cons {lo hi:ao Key}{s:Key}{k:Nat}{bw br:O Nat}{ba bB:O aH}{ks:O Key}{kids:O Nat} (h:W lo (some s) k bw ba) (t:dz W (some s) hi ks kids br bB):
  dz W lo hi (s::ks) (k::kids) (bw++br) (ba++bB)
variable {W:Below}{lo hi:ao Key}
theorem dz.len{ks:O Key}{kids p:O Nat}{L:O aH}(h:dz W lo hi ks kids p L):kids.length=ks.length+1:=by
 induction h with
 |one _=>rfl
 |cons _ _ a=>simp[a]
theorem dz.app{s:Key}{iC kp:O Key}{iU lB bw br:O Nat}{ba bB:O aH}(h1:dz W lo (some s) iC iU bw ba)(h2:dz W (some s) hi kp lB br bB):
 dz W lo hi (iC++s::kp) (iU++lB) (bw++br) (ba++bB):=by
 generalize a:some s=m at h1
 induction h1 with
 |one h=>subst a;exact .cons h h2
 |cons h t b=>
  rw[cM,cM];exact .cons h (b a)
theorem dz.cut:∀ {iC:O Key}{s:Key}{kp:O Key}{lo:ao Key}{kids p:O Nat}{L:O aH},dz W lo hi (iC++s::kp) kids p L->
 ∃ (iU lB bw br:O Nat) (ba bB:O aH),kids=iU++lB/\p=bw++br/\L=ba++bB/\dz W lo (some s) iC iU bw ba/\dz W (some s) hi kp lB br bB
 | [],s,kp,lo,kids,p,L,h=>by
  cases h with
  |cons h t=>exact⟨_,_,_,_,_,_,rfl,rfl,rfl,.one h,t⟩
 |a::iC,s,kp,lo,kids,p,L,h=>by
  cases h with
  |cons h t=>
   obtain⟨bA,bO,bw,br,ba,bB,rfl,rfl,rfl,h1,h2⟩:=dz.cut t
   exact⟨_::bA,bO,_++bw,br,_++ba,bB,rfl,by rw[cM],by rw[cM],.cons h h1,h2⟩
theorem dz.mono{V:Below}{ks:O Key}{kids p:O Nat}{L:O aH}(h:dz W lo hi ks kids p L)(a:∀lo hi k p L,(∀x∈p,x∈p)->W lo hi k p L->V lo hi k p L):dz V lo hi ks kids p L:=by
 induction h with
 |one h=>exact .one (a _ _ _ _ _ (λ_ h=>h) h)
 |cons h _ b=>exact .cons (a _ _ _ _ _ (λ_ h=>h) h) b
theorem dz.lC{V:Below}{ks:O Key}{kids p:O Nat}{L:O aH}(h:dz W lo hi ks kids p L)(b:∀lo hi k a L,(∀x∈a,x∈p)->W lo hi k a L->V lo hi k a L):dz V lo hi ks kids p L:=by
 induction h with
 |one h=>exact .one (b _ _ _ _ _ (λ_ h=>h) h)
 |cons h _ c=>
  exact .cons (b _ _ _ _ _ (λx hx=>js _ hx) h) (c λlo hi k a L hs=>b lo hi k a L λx hx=>h4 _ (hs x hx))
def cz(k:Key):Prop:=1<=k.length/\k.length<=24
structure ve(n:aB):Prop where
 ok:∀k∈n.keys,cz k
 e4:n.keys.Pairwise bD
structure gQ(n:aB):Prop extends ve n where
 leaf:n.leaf=true
 len:n.vals.length=n.keys.length
 kids:n.kids=[]
 vals:∀v∈n.vals,v.length<=24
structure vf(n:aB):Prop extends ve n where
 inner:n.leaf=false
 some:n.keys≠ []
 len:n.kids.length=n.keys.length+1
 vals:n.vals=[]
 kids:∀k∈n.kids,k<1600
def aB.dF(n:aB):O aH:=n.keys.zip n.vals
def aB.within(n:aB)(lo hi:ao Key):Prop:=∀k∈n.keys,fj lo hi k
def dV(P:Nat->ao aB):Nat->Below
 |0=> λ_ _ _ _ _=>False
 |1=> λlo hi no p L=>∃n,P no=some n/\gQ n/\n.within lo hi/\n.keys≠ []/\p=[no]/\L=n.dF
 |h+2=> λlo hi no p L=>∃n a,P no=some n/\vf n/\n.within lo hi/\p=no::a/\
  dz (λlo hi k p L=>dV P (h+1) lo hi k p L/\∃m,P k=some m/\2<=m.keys.length) lo hi n.keys n.kids a L
theorem dV.agree{P Q:Nat->ao aB}:∀ {h:Nat}{lo hi:ao Key}{no:Nat}{p:O Nat}{L:O aH},dV P h lo hi no p L->(∀x∈p,P x=Q x)->dV Q h lo hi no p L/\no∈p
 |0,_,_,_,_,_,d,_=>d.elim
 |1,_,_,no,_,_,⟨n,h1,h2,e,f,b,g⟩,a=>by
  have c:no∈ [no]:=by simp
  rw[b]
  exact⟨⟨n,by rw[←a no (by rw[b];exact c)];exact h1,h2,e,f,rfl,g⟩,c⟩
 |h+2,_,_,no,_,_,⟨n,i,h1,h2,e,f,b⟩,a=>by
  subst f
  refine⟨⟨n,i,by rw[←a no (by simp)];exact h1,h2,e,rfl,b.lC λlo hi k q L hs ⟨d,m,c,h2⟩=>?_⟩,by simp⟩
  have:=dV.agree d λx hx=>a x (jO _ (hs x hx))
  exact⟨this.1,m,by rw[←a k (jO _ (hs k this.2))];exact c,h2⟩
end Go.Proofs.YtkdhdlfonmgheaaGreat
namespace Go.Proofs.YtkdhdlfonmgheaaGreat
variable {W:Below}{lo hi:ao Key}{P:Nat->ao aB}
theorem EM{lo hi:ao Key}{s k:Key}(h1:fj lo (some s) k)(h2:fj lo hi s):fj lo hi k:=
 ⟨h1.1,λb a=>lA (h1.2 s rfl) (h2.2 b a)⟩
theorem EN{lo hi:ao Key}{s k:Key}(h1:fj (some s) hi k)(h2:fj lo hi s):fj lo hi k:=
 ⟨λa b=>Az (h2.1 a b) (h1.1 s rfl),h1.2⟩
theorem dz.e4{ks:O Key}{kids p:O Nat}{L:O aH}(h:dz W lo hi ks kids p L)(b8:∀lo hi k p L,W lo hi k p L->gI L/\∀q∈L,fj lo hi q.1)(e:ks.Pairwise bD)(c:∀s∈ks,fj lo hi s):
 gI L/\∀q∈L,fj lo hi q.1:=by
 induction h with
 |one h=>exact b8 _ _ _ _ _ h
 | @cons lo hi s k bw br ba bB ks kids h t f=>
  obtain⟨r1,b5⟩:=b8 _ _ _ _ _ h;have d:=jt.1 e;obtain⟨bY,bM⟩:=f d.2 λx hx=>⟨λa g=>by cases g;exact iB (d.1 x hx),(c x (jO _ hx)).2⟩;have hs:=c s List.mem_cons_self;refine⟨pT.2 ⟨r1,bY,λx hx y i=>m0 ((b5 x hx).2 s rfl) ((bM y i).1 s rfl)⟩,λq b=>?_⟩;rcases cP.1 b with b|b
  .exact EM (b5 q b) hs
  .exact EN (bM q b) hs
theorem AD:∀ {ks vs:O Key},ks.Pairwise bD->gI (ks.zip vs)
 | [],vs,_=>by rw[List.zip_nil_left];exact List.Pairwise.nil
 |k::ks,[],_=>by rw[List.zip_nil_right];exact List.Pairwise.nil
 |k::ks,v::vs,h=>by
  rw[List.zip_cons_cons]
  have:=jt.1 h
  exact jt.2 ⟨λq a=>this.1 _ (qx a).1,AD this.2⟩
theorem gQ.dF{n:aB}(h:gQ n):gI n.dF/\n.dF.length=n.keys.length:=⟨AD h.e4,by unfold aB.dF;rw[mG,h.len,Nat.min_self]⟩
theorem dV.e4:∀ {h:Nat}{lo hi:ao Key}{no:Nat}{p:O Nat}{L:O aH},dV P h lo hi no p L->gI L/\∀q∈L,fj lo hi q.1
 |0,_,_,_,_,_,a=>a.elim
 |1,_,_,_,_,_,⟨n,_,h2,b,_,_,c⟩=>by
  subst c
  exact⟨h2.dF.1,λq d=>b _ (qx d).1⟩
 |h+2,_,_,_,_,_,⟨n,_,_,h2,b,_,e⟩=>e.e4 (λ_ _ _ _ _ a=>dV.e4 a.1) h2.e4 b
theorem dz.count{ks:O Key}{kids p:O Nat}{L:O aH}(h:dz W lo hi ks kids p L){c:Nat}(b8:∀lo hi k p L,W lo hi k p L->p.length+1<=L.length/\c<=L.length):
 p.length+kids.length<=L.length/\c*kids.length<=L.length:=by
 induction h with
 |one h=>have:=b8 _ _ _ _ _ h;simp;omega
 |cons h _ a=>
  have:=b8 _ _ _ _ _ h;simp only[ct,e1,Nat.mul_add,fF];omega
theorem dV.count:∀ {h:Nat}{lo hi:ao Key}{no:Nat}{p:O Nat}{L:O aH},dV P h lo hi no p L->((∃m,P no=some m/\2<=m.keys.length)\/2<=h)->p.length+1<=L.length/\2^h<=L.length
 |0,_,_,_,_,_,b,_=>b.elim
 |1,_,_,_,_,_,⟨n,h1,h2,_,_,d,f⟩,a=>by
  rcases a with ⟨m,e,a⟩|a
  .rw[h1]at e
   cases e
   subst d f
   have:=h2.dF.2
   simp only[iN];omega
  .omega
 |h+2,_,_,_,_,_,⟨n,i,_,h2,_,g,d⟩,_=>by
  have hc:=d.count (c:=2^(h+1)) λlo hi k p L ⟨b,a⟩=>dV.count b (.inl a)
  have j:=h2.len
  have hs:1<=n.keys.length:=sj.2 h2.some
  subst g
  have:2^(h+1)*2<=2^(h+1)*n.kids.length:=Nat.mul_le_mul_left _ I
  rw[Nat.pow_succ 2 (h+1)]
  simp only[e1]
  omega
theorem dV.pages{h:Nat}{lo hi:ao Key}{no:Nat}{p:O Nat}{L:O aH}(a:dV P h lo hi no p L):p.length<=L.length/\1<=L.length/\(2<=h->2^h<=L.length):=by
 match h with
 |0=>exact a.elim
 |1=>
  obtain⟨n,h1,h2,_,b,c,d⟩:=a;subst c d;have:=h2.dF.2;have e:=sj.2 b;simp only[iN];exact⟨I,I,I⟩
 |h+2=>
  have:=dV.count a (.inr I);exact⟨I,I,λ_=>this.2⟩
end Go.Proofs.YtkdhdlfonmgheaaGreat
namespace Go.Proofs.YtkdhdlfonmgheaaGreat
variable {W V:Below}{lo hi:ao Key}
inductive fx (W:Below) (lo:ao Key):ao Key->O Key->O Nat->O Nat->O aH->Prop
 |nil:fx W lo lo [] [] [] []
 |more {s:Key}{ks:O Key}{kids p:O Nat}{L:O aH} (h:dz W lo (some s) ks kids p L):fx W lo (some s) (ks++ [s]) kids p L
inductive gw (W:Below) (hi:ao Key):ao Key->O Key->O Nat->O Nat->O aH->Prop
 |nil:gw W hi hi [] [] [] []
 |more {s:Key}{ks:O Key}{kids p:O Nat}{L:O aH} (h:dz W (some s) hi ks kids p L):gw W hi (some s) (s::ks) kids p L
variable {m:ao Key}{iC kp:O Key}{iU lB bw br:O Nat}{ba bB:O aH}
theorem fx.EO(h1:fx W lo m iC iU bw ba)(h2:dz W m hi kp lB br bB):dz W lo hi (iC++kp) (iU++lB) (bw++br) (ba++bB):=by
 cases h1 with
 |nil=>exact h2
 |more h=>rw[cM];exact h.app h2
theorem dz.post(h1:dz W lo m iC iU bw ba)(h2:gw W hi m kp lB br bB):dz W lo hi (iC++kp) (iU++lB) (bw++br) (ba++bB):=by
 cases h2 with
 |nil=>simpa using h1
 |more h=>exact h1.app h
theorem fx.cons{s:Key}{k:Nat}{p:O Nat}{L:O aH}(h:W lo (some s) k p L)(t:fx W (some s) m iC iU bw ba):fx W lo m (s::iC) (k::iU) (p++bw) (L++ba):=by
 cases t with
 |nil=>rw[fO,fO];exact fx.more (ks:=[]) (.one h)
 |more t=>exact fx.more (ks:=s::_) (.cons h t)
theorem fx.lC(h:fx W lo m iC iU bw ba)(b:∀lo hi k a L,(∀x∈a,x∈bw)->W lo hi k a L->V lo hi k a L):fx V lo m iC iU bw ba:=by
 cases h with
 |nil=>exact .nil
 |more h=>exact .more (h.lC b)
theorem gw.lC(h:gw W hi m iC iU bw ba)(b:∀lo hi k a L,(∀x∈a,x∈bw)->W lo hi k a L->V lo hi k a L):gw V hi m iC iU bw ba:=by
 cases h with
 |nil=>exact .nil
 |more h=>exact .more (h.lC b)
theorem dz.at{ks:O Key}{kids p:O Nat}{L:O aH}(h:dz W lo hi ks kids p L):∀ (i:Nat) (c:i<kids.length),∃ (d e:ao Key) (bw q br:O Nat) (ba M bB:O aH),
 p=bw++(q++br)/\L=ba++(M++bB)/\W d e kids[i] q M/\fx W lo d (ks.take i) (kids.take i) bw ba/\gw W hi e (ks.drop i) (kids.drop (i+1)) br bB:=by
 induction h with
 | @one lo hi k p L h=>
  intro i c;have:i=0:=by simp at c;omega
  subst this;exact⟨lo,hi,[],p,[],[],L,[],by simp,by simp,h,.nil,.nil⟩
 | @cons lo hi s k bw br ba bB ks kids h t f=>
  intro i c
  cases i with
  |zero=>exact⟨lo,some s,[],bw,br,[],ba,bB,rfl,rfl,h,.nil,.more t⟩
  |succ i=>
   obtain⟨d,e,a,q,b,A,M,B,rfl,rfl,h1,h2,g⟩:=f i (by simpa using c);exact⟨d,e,bw++a,q,b,ba++A,M,B,by rw[cM],by rw[cM],h1,fx.cons h h2,g⟩
theorem fx.inv{kids p:O Nat}{L:O aH}(h:fx W lo m [] kids p L):m=lo/\kids=[]/\p=[]/\L=[]:=by
 generalize e:([]:O Key)=K at h
 cases h with
 |nil=>exact⟨rfl,rfl,rfl,rfl⟩
 |more h=>simp at e
theorem gw.head{ks:O Key}{kids p:O Nat}{L:O aH}(h:gw W hi m ks kids p L)(b:0<kids.length):∃ (s:Key) (a:ao Key) (q br:O Nat) (M bB:O aH) (hs:0<ks.length),
 m=some s/\s=ks[0]/\p=q++br/\L=M++bB/\W (some s) a (kids[0]) q M/\gw W hi a (ks.drop 1) (kids.drop 1) br bB:=by
 cases h with
 |nil=>simp at b
 | @more s ks kids p L h=>
  obtain⟨d,a,bw,q,br,ba,M,bB,rfl,rfl,h1,h2,c⟩:=h.at 0 b;rw[List.take_zero]at h2;obtain⟨rfl,_,rfl,rfl⟩:=h2.inv;exact⟨s,a,q,br,M,bB,by simp,rfl,rfl,rfl,rfl,h1,by simpa using c⟩
end Go.Proofs.YtkdhdlfonmgheaaGreat
namespace Go.Proofs.YtkdhdlfonmgheaaGreat
variable {W V:Below}{lo hi m:ao Key}
def di(ks:O Key)(k:Key):Nat:=ks.findIdx λs=>decide (bD k s)
theorem vg(ks:O Key)(k:Key):di ks k<=ks.length:=List.findIdx_le_length
theorem EP{ks:O Key}{k:Key}{i:Nat}(h:i<di ks k)(hi:i<ks.length):ef ks[i] k:=by
 have:=List.not_of_lt_findIdx h;exact Ay.1 (by simpa using this)
theorem ER{ks:O Key}{k:Key}(h:di ks k<ks.length):bD k ks[di ks k]:=by
 have:=List.findIdx_getElem (p:=λs=>decide (bD k s)) (xs:=ks) (w:=h);exact b1 this
theorem fx.ES{i:Nat}{ks:O Key}{kids p:O Nat}{L:O aH}(h:fx W lo m (ks.take i) kids p L){k:Key}(b:∀ (j:Nat) (c:j<ks.length),j<i->ef ks[j] k)(d:∀a,lo=some a->ef a k):∀a,m=some a->ef a k:=by
 generalize e:ks.take i=K at h
 cases h with
 |nil=>exact d
 | @more s l kids p L h=>
  intro a f
  cases f;have g:s∈ks.take i:=by rw[e];simp
  obtain⟨j,c,rfl⟩:=List.mem_take_iff_getElem.1 g;exact b j I I
theorem gw.ET{i:Nat}{ks:O Key}{kids p:O Nat}{L:O aH}(h:gw W hi m (ks.drop i) kids p L){k:Key}(b:∀ (h:i<ks.length),bD k ks[i])(c:∀a,hi=some a->bD k a):∀a,m=some a->bD k a:=by
 generalize e:ks.drop i=K at h
 cases h with
 |nil=>exact c
 | @more s f kids p L h=>
  intro a d
  cases d;have aJ:i<ks.length:=by
   have:=congrArg List.length e;simp at this;omega
  have:ks[i]=s:=by
   have:=jr aJ;rw[e]at this;exact(List.cons.inj this).1.symm
  rw[←this];exact b aJ
theorem fx.below{ks:O Key}{kids p:O Nat}{L:O aH}(h:fx W lo m ks kids p L)(b8:∀lo hi k p L,W lo hi k p L->gI L/\∀q∈L,fj lo hi q.1)(f:ks.Pairwise bD)(c:∀s∈ks,fj lo hi s)
 {k:Key} (g:∀a,m=some a->ef a k):∀q∈L,bD q.1 k:=by
 cases h with
 |nil=>intro q d;cases d
 | @more s i kids p L h=>
  have e:=mF.1 f;have:=h.e4 b8 e.1 λx hx=>⟨(c x (by simp[hx])).1,λb c=>by cases c;exact e.2.2 x hx s (by simp)⟩;exact λq d=>m0 ((this.2 q d).2 s rfl) (g s rfl)
theorem gw.EU{ks:O Key}{kids p:O Nat}{L:O aH}(h:gw W hi m ks kids p L)(b8:∀lo hi k p L,W lo hi k p L->gI L/\∀q∈L,fj lo hi q.1)(d:ks.Pairwise bD)(e:∀s∈ks,fj lo hi s)
 {k:Key} (f:∀a,m=some a->bD k a):∀q∈L,bD k q.1:=by
 cases h with
 |nil=>intro q b;cases b
 | @more s i kids p L h=>
  have c:=jt.1 d;have:=h.e4 b8 c.2 λx hx=>⟨λa g=>by cases g;exact iB (c.1 x hx),(e x (by simp[hx])).2⟩;exact λq b=>m0 (f s rfl) ((this.2 q b).1 s rfl)
def Loc(k:Key)(u:O aH->O aH):Prop:=∀ba M bB:O aH,(∀p∈ba,bD p.1 k)->(∀p∈bB,bD k p.1)->u (ba++(M++bB))=ba++(u M++bB)
theorem EV(k v:Key):Loc k λL=>eN L k v:=λba M bB h1 h2=>by
 show eN _ _ _=_
 rw[AA h1,EL h2]
theorem xo(k:Key):Loc k λL=>ei L k:=λba M bB h1 h2=>by
 show ei _ _=_
 rw[pS,pS,ob λp a=>ko (h1 p a),ob λp a=>(ko (h2 p a)).symm]
end Go.Proofs.YtkdhdlfonmgheaaGreat
namespace Go.Proofs.YtkdhdlfonmgheaaGreat
variable {W V:Below}{lo hi m:ao Key}{P Q:Nat->ao aB}
def fk(P:Nat->ao aB)(h:Nat):Below:=λlo hi k p L=>dV P h lo hi k p L/\∃m,P k=some m/\2<=m.keys.length
theorem fk.agree{h no:Nat}{p:O Nat}{L:O aH}(b:fk P h lo hi no p L)(a:∀x∈p,P x=Q x):fk Q h lo hi no p L:=by
 obtain⟨h1,m,h2,c⟩:=b;have:=h1.agree a;exact⟨this.1,m,by rw[←a no this.2];exact h2,c⟩
theorem EW{α:Type}{l:O α}(h:1<=l.length):l≠ []:=λe=>by subst e;simp at h
theorem fk.in{h no:Nat}{p:O Nat}{L:O aH}(a:fk P h lo hi no p L):L≠ []/\gI L/\∀q∈L,fj lo hi q.1:=⟨EW a.1.pages.2.1,a.1.e4⟩
theorem dz.sorted{ks:O Key}{kids p:O Nat}{L:O aH}(h:dz W lo hi ks kids p L)(b8:∀lo hi k p L,W lo hi k p L->L≠ []/\gI L/\∀q∈L,fj lo hi q.1):
 L≠ []/\(∀q∈L,fj lo hi q.1)/\ks.Pairwise bD/\∀s∈ks,(∀a,lo=some a->bD a s)/\∀b,hi=some b->bD s b:=by
 induction h with
 |one h=>exact⟨(b8 _ _ _ _ _ h).1,(b8 _ _ _ _ _ h).2.2,.nil,by simp⟩
 | @cons lo hi s k bw br ba bB ks kids h t l=>
  obtain⟨bR,_,b5⟩:=b8 _ _ _ _ _ h;obtain⟨bq,bM,bY,ag⟩:=l;obtain⟨x,hx⟩:=qy _ bR;obtain⟨y,i⟩:=qy _ bq;have f:∀a,lo=some a->bD a s:=λa e=>jZ ((b5 x hx).1 a e) ((b5 x hx).2 s rfl);have j:∀b,hi=some b->bD s b:=λb g=>jZ ((bM y i).1 s rfl) ((bM y i).2 b g);refine⟨by simp[bR],λq c=>?_,jt.2 ⟨λz d=>(ag z d).1 s rfl,bY⟩,λz d=>?_⟩
  .rcases cP.1 c with c|c
   .exact⟨(b5 q c).1,λb g=>lA ((b5 q c).2 s rfl) (j b g)⟩
   .exact⟨λa e=>iB (m0 (f a e) ((bM q c).1 s rfl)),(bM q c).2⟩
  .rcases cS.1 d with rfl|d
   .exact⟨f,j⟩
   .exact⟨λa e=>lA (f a e) ((ag z d).1 s rfl),(ag z d).2⟩
def dd(P:Nat->ao aB):Nat->aB->ao Key->ao Key->O Nat->O aH->Prop
 |0,_,_,_,_,_=>False
 |1,n,lo,hi,p,L=>gQ n/\n.within lo hi/\p=[]/\L=n.dF
 |h+2,n,lo,hi,p,L=>n.leaf=false/\n.vals=[]/\(∀k∈n.keys,cz k)/\(∀k∈n.kids,k<1600)/\dz (fk P (h+1)) lo hi n.keys n.kids p L
theorem dd.agree:∀ {h:Nat}{n:aB}{p:O Nat}{L:O aH},dd P h n lo hi p L->(∀x∈p,P x=Q x)->dd Q h n lo hi p L
 |0,_,_,_,h,_=>h.elim
 |1,_,_,_,h,_=>h
 |_+2,_,_,_,⟨h1,h2,a,b,c⟩,d=>⟨h1,h2,a,b,c.lC λ_ _ _ _ _ hs e=>e.agree λx hx=>d x (hs x hx)⟩
theorem dd.lay:∀ {h:Nat}{n:aB}{x:Nat}{p:O Nat}{L:O aH},dd P h n lo hi p L->n.keys≠ []->Q x=some n->(∀y∈p,P y=Q y)->dV Q h lo hi x (x::p) L
 |0,_,_,_,_,h,_,_,_=>h.elim
 |1,n,x,p,L,⟨h1,h2,b,c⟩,d,hx,_=>by
  subst b
  exact⟨n,hx,h1,h2,d,rfl,c⟩
 |h+2,n,x,p,L,g,d,hx,i=>by
  obtain⟨h1,h2,b,c,e⟩:=g.agree i
  have hs:=e.sorted λ_ _ _ _ _ j=>j.in
  exact⟨n,p,hx,⟨⟨b,hs.2.2.1⟩,h1,d,e.len,h2,c⟩,λs f=>⟨λa k=>iB ((hs.2.2.2 s f).1 a k),(hs.2.2.2 s f).2⟩,rfl,e⟩
def aB.left(n:aB)(i:Nat):aB:=if n.leaf then ⟨true,n.keys.take i,n.vals.take i,[]⟩ else ⟨false,n.keys.take i,[],n.kids.take (i+1)⟩
def aB.right(n:aB)(i:Nat):aB:=if n.leaf then ⟨true,n.keys.drop i,n.vals.drop i,[]⟩ else ⟨false,n.keys.drop (i+1),[],n.kids.drop (i+1)⟩
theorem dd.leaf{h:Nat}{n:aB}{p:O Nat}{L:O aH}(a:dd P h n lo hi p L):n.leaf=decide (h=1):=by
 match h,a with
 |0,a=>exact a.elim
 |1,a=>rw[a.1.leaf];rfl
 |h+2,a=>rw[a.1];simp
theorem dd.xp{h:Nat}{n:aB}{p:O Nat}{L:O aH}(g:dd P h n lo hi p L){i:Nat}(h1:1<=i)(m:i<n.keys.length):
 ∃ (bw br:O Nat) (ba bB:O aH),p=bw++br/\L=ba++bB/\dd P h (n.left i) lo (some n.keys[i]) bw ba/\dd P h (n.right i) (some n.keys[i]) hi br bB:=by
 match h,g with
 |0,g=>exact g.elim
 |1,⟨a,b,c,d⟩=>
  subst c d;have q:=a.e4;have gd:n.keys=n.keys.take i++n.keys.drop i:=(hZ _ _).symm;have o:=q;rw[gd]at o;obtain⟨r1,bY,af⟩:=mF.1 o;have hd:n.keys.drop i=n.keys[i]::n.keys.drop (i+1):=jr m;have hf:n.left i=⟨true,n.keys.take i,n.vals.take i,[]⟩:=by unfold aB.left;rw[a.leaf];rfl
  have hg:n.right i=⟨true,n.keys.drop i,n.vals.drop i,[]⟩:=by unfold aB.right;rw[a.leaf];rfl
  rw[hf,hg];refine⟨[],[],n.dF.take i,n.dF.drop i,rfl,(hZ _ _).symm,⟨⟨⟨λk f=>a.ok k (fa f),r1⟩,rfl,by simp[a.len],rfl,λv g=>a.vals v (fa g)⟩,λk f=>⟨(b k (fa f)).1,λs hs=>?_⟩,rfl,?_⟩,
   ⟨⟨⟨λk f=>a.ok k (e_ f),bY⟩,rfl,by simp[a.len],rfl,λv g=>a.vals v (e_ g)⟩,λk f=>⟨λs hs=>?_,(b k (e_ f)).2⟩,rfl,?_⟩⟩
  .cases hs
   exact af k f _ (by rw[hd];exact List.mem_cons_self)
  .exact List.take_zipWith
  .cases hs
   have f:k∈n.keys.drop i:=f;rw[hd]at f bY;rcases cS.1 f with rfl|f
   .exact Ax _
   .exact iB ((jt.1 bY).1 k f)
  .exact List.drop_zipWith
 |h+2,⟨a,b,c,d,e⟩=>
  have hf:n.left i=⟨false,n.keys.take i,[],n.kids.take (i+1)⟩:=by unfold aB.left;rw[a];rfl
  have hg:n.right i=⟨false,n.keys.drop (i+1),[],n.kids.drop (i+1)⟩:=by unfold aB.right;rw[a];rfl
  have gd:n.keys=n.keys.take i++n.keys[i]::n.keys.drop (i+1):=by rw[←jr m,hZ]
  rw[gd]at e;obtain⟨bA,bO,bw,br,ba,bB,j,rfl,rfl,s1,s2⟩:=e.cut;have l:=s1.len;rw[cy,je I]at l;have r:n.kids.take (i+1)=bA:=by rw[j,←l,List.take_left]
  have t:n.kids.drop (i+1)=bO:=by rw[j,←l,List.drop_left]
  rw[hf,hg,r,t];exact⟨bw,br,ba,bB,rfl,rfl,⟨rfl,rfl,λk f=>c k (fa f),λk f=>d k (by rw[j];simp[f]),s1⟩,⟨rfl,rfl,λk f=>c k (e_ f),λk f=>d k (by rw[j];simp[f]),s2⟩⟩
end Go.Proofs.YtkdhdlfonmgheaaGreat
namespace Go.Proofs.YtkdhdlfonmgheaaGreat
variable {lo hi:ao Key}{P Q:Nat->ao aB}
def dQ(a:aB)(s:Key)(b:aB):aB:=if a.leaf then ⟨true,a.keys++b.keys,a.vals++b.vals,[]⟩ else ⟨false,a.keys++s::b.keys,[],a.kids++b.kids⟩
theorem oc{a b c d:O Key}(h:a.length=c.length):(a++b).zip (c++d)=a.zip c++b.zip d:=List.zip_append h
theorem dd.merge{h:Nat}{a b:aB}{s:Key}{pa l:O Nat}{m n:O aH}(g:dd P h a lo (some s) pa m)(o:dd P h b (some s) hi l n)(hs:cz s)(p:∀k,lo=some k->ef k s)(q:∀k,hi=some k->ef s k):
 dd P h (dQ a s b) lo hi (pa++l) (m++n):=by
 match h,g,o with
 |0,g,_=>exact g.elim
 |1,⟨a1,a2,a3,a4⟩,⟨b5,bM,i,j⟩=>
  subst a3 a4 i j;have e:dQ a s b=⟨true,a.keys++b.keys,a.vals++b.vals,[]⟩:=by unfold dQ;rw[a1.leaf];rfl
  rw[e];refine⟨⟨⟨λk d=>?_,mF.2 ⟨a1.e4,b5.e4,λx hx y r=>m0 ((a2 x hx).2 s rfl) ((bM y r).1 s rfl)⟩⟩,rfl,by simp[a1.len,b5.len],rfl,λv f=>?_⟩,λk d=>?_,rfl,?_⟩
  .rcases cP.1 d with d|d
   .exact a1.ok k d
   .exact b5.ok k d
  .rcases cP.1 f with f|f
   .exact a1.vals v f
   .exact b5.vals v f
  .rcases cP.1 d with d|d
   .exact⟨(a2 k d).1,λc hc=>m0 ((a2 k d).2 s rfl) (q c hc)⟩
   .exact⟨λc hc=>Az (p c hc) ((bM k d).1 s rfl),(bM k d).2⟩
  .exact(oc a1.len.symm).symm
 |h+2,⟨a1,a2,a3,a4,a5⟩,⟨b5,bM,i,j,t⟩=>
  have e:dQ a s b=⟨false,a.keys++s::b.keys,[],a.kids++b.kids⟩:=by unfold dQ;rw[a1];rfl
  rw[e];refine⟨rfl,rfl,λk d=>?_,λk d=>?_,a5.app t⟩
  .rcases cP.1 d with d|d
   .exact a3 k d
   .rcases cS.1 d with rfl|d
    .exact hs
    .exact i k d
  .rcases cP.1 d with d|d
   .exact a4 k d
   .exact j k d
theorem dV.kq{h no:Nat}{p:O Nat}{L:O aH}(b:dV P h lo hi no p L):∃n a,P no=some n/\p=no::a/\n.keys≠ []/\dd P h n lo hi a L:=by
 match h,b with
 |0,b=>exact b.elim
 |1,⟨n,h1,h2,e,c,d,f⟩=>exact⟨n,[],h1,d,c,h2,e,rfl,f⟩
 |h+2,⟨n,a,h1,h2,e,c,d⟩=>exact⟨n,a,h1,c,h2.some,h2.inner,h2.vals,h2.ok,h2.kids,d⟩
def fZ(n:aB)(fr to:Nat)(ks:O Key)(kids:O Nat):aB:=⟨false,n.keys.take fr++ks++n.keys.drop (to-1),[],n.kids.take fr++kids++n.kids.drop to⟩
end Go.Proofs.YtkdhdlfonmgheaaGreat
namespace Go.Proofs.YtkdhdlfonmgheaaGreat
def cellsOf(n:aB):O Nat:=if n.leaf then List.zipWith (λk v=>2+k.length+v.length) n.keys n.vals else n.keys.map λk=>3+k.length
def bF(n:aB):Nat:=(if n.leaf then 1 else 3)+(cellsOf n).sum
def gl(c:O Nat)(most:Nat):Nat:=match (List.range most).find? λi=>decide (c.sum<=2*(c.take (i+1)).sum) with
 |some i=>i+1
 |none=>most
theorem m3{B:Nat}:∀ {l:O Nat},(∀x∈l,x<=B)->l.sum<=B*l.length
 | [],_=>by simp
 |a::l,h=>by
  have h1:=h a (by simp)
  have h2:=m3 (l:=l) λx hx=>h x (by simp[hx])
  rw[qz,e1,Nat.mul_add,fF]
  omega
theorem xq(l:O Nat)(i:Nat):(l.take i).sum+(l.drop i).sum=l.sum:=by
 rw[←lf,hZ]
theorem pU{l:O Nat}{i:Nat}(h:i<l.length):(l.take (i+1)).sum=(l.take i).sum+l[i]:=by
 rw[iq h,lf];simp
theorem AE{c:O Nat}{most:Nat}(a:1<=most)(hs:0<c.sum):1<=gl c most/\gl c most<=most/\2*(c.take (gl c most-1)).sum<c.sum/\(gl c most=most\/c.sum<=2*(c.take (gl c most)).sum):=by
 unfold gl
 cases h:(List.range most).find? λi=>decide (c.sum<=2*(c.take (i+1)).sum) with
 |none=>
  have b:=iO.1 h;refine⟨a,bn _,?_,.inl rfl⟩;by_cases h1:most=1
  .subst h1;simpa using hs
  .have:=b (most-2) (jq.2 I)
   have e:most-2+1=most-1:=by omega
   rw[e]at this;simp at this;exact this
 |some i=>
  have hi:i<most:=jq.1 (ju h);have d:=kc h;refine⟨by simp,by simp;omega,?_,.inr (by simpa using d)⟩;show 2*(c.take (i+1-1)).sum<c.sum;rw[Nat.add_sub_cancel]
  cases i with
  |zero=>simpa using hs
  |succ j=>
   have:=(List.find?_range_eq_some.1 h).2.2 j I;simpa using this
theorem EX{c:O Nat}(a:∀x∈c,x<=50)(h1:232<=c.sum)(h2:c.sum<=309):
 2<=gl c (c.length-1)/\gl c (c.length-1)+2<=c.length/\(c.take (gl c (c.length-1))).sum<=231/\(c.drop (gl c (c.length-1))).sum<=231:=by
 have e:=m3 a;have b:=AE (c:=c) (most:=c.length-1) I I;generalize gl c (c.length-1)=i at b⊢;obtain⟨a1,a2,a3,a4⟩:=b;have hs:=xq c i;have ht:=pU (l:=c) (i:=i-1) I;rw[Nat.sub_add_cancel a1]at ht;have hc:=a c[i-1] (cA _);have hd:=m3 (l:=c.drop i) λx hx=>a x (e_ hx);have d:=m3 (l:=c.take i) λx hx=>a x (fa hx);rw[c5]at hd;rw[cy,je I]at d;have key:c.sum<=2*(c.take i).sum:=by
  rcases a4 with h|h
  .have:c.length-i=1:=by omega
   rw[this]at hd;omega
  .exact h
 refine⟨I,?_,I,I⟩;rcases dC (c.length-i) 2 with h|h
 .have:c.length-i=1:=by omega
  rw[this]at hd;omega
 .omega
theorem EY{c:O Nat}(a:∀x∈c,x<=27)(h1:230<=c.sum)(h2:c.sum<=332):
 2<=gl c (c.length-2)/\gl c (c.length-2)+3<=c.length/\(c.take (gl c (c.length-2))).sum<=229/\(c.drop (gl c (c.length-2)+1)).sum<=229:=by
 have e:=m3 a;have b:=AE (c:=c) (most:=c.length-2) I I;generalize gl c (c.length-2)=i at b⊢;obtain⟨a1,a2,a3,a4⟩:=b;have hs:=xq c (i+1);have ht:=pU (l:=c) (i:=i-1) I;have hu:=pU (l:=c) (i:=i) I;rw[Nat.sub_add_cancel a1]at ht;have hc:=a c[i-1] (cA _);have f:=a c[i] (cA _);have hd:=m3 (l:=c.drop (i+1)) λx hx=>a x (e_ hx);have d:=m3 (l:=c.take i) λx hx=>a x (fa hx);rw[c5]at hd;rw[cy,je I]at d;have key:c.sum<=2*(c.take i).sum:=by
  rcases a4 with h|h
  .have:c.length-(i+1)=1:=by omega
   rw[this]at hd;omega
  .exact h
 refine⟨I,?_,I,I⟩;rcases dC (c.length-(i+1)) 2 with h|h
 .have:c.length-(i+1)<=1:=by omega
  have:27*(c.length-(i+1))<=27*1:=Nat.mul_le_mul_left _ this;omega
 .omega
end Go.Proofs.YtkdhdlfonmgheaaGreat
namespace Go.Proofs.YtkdhdlfonmgheaaGreat
variable {W:Below}{lo hi m:ao Key}{P Q:Nat->ao aB}
theorem gw.inv{kids p:O Nat}{L:O aH}(h:gw W hi m [] kids p L):m=hi/\kids=[]/\p=[]/\L=[]:=by
 generalize e:([]:O Key)=K at h
 cases h with
 |nil=>exact⟨rfl,rfl,rfl,rfl⟩
 |more h=>simp at e
theorem fx.last{ks:O Key}{kids p:O Nat}{L:O aH}(h:fx W lo m ks kids p L)(c:0<kids.length):∃ (s:Key) (a:ao Key) (bw r:O Nat) (ba N:O aH) (hs:0<ks.length),
 m=some s/\s=ks[ks.length-1]/\p=bw++r/\L=ba++N/\W a (some s) (kids[kids.length-1]) r N/\fx W lo a (ks.take (ks.length-1)) (kids.take (kids.length-1)) bw ba/\kids.length=ks.length:=by
 cases h with
 |nil=>simp at c
 | @more s ks kids p L h=>
  have d:=h.len;obtain⟨a,f,bw,q,br,ba,M,bB,rfl,rfl,h1,h2,b⟩:=h.at (kids.length-1) I;rw[List.drop_of_length_le I]at b;obtain⟨rfl,_,rfl,rfl⟩:=b.inv;refine⟨s,a,bw,q,ba,M,by simp,rfl,by simp,by simp,by simp,h1,?_,by simp;omega⟩;have e:(ks++ [s]).take ((ks++ [s]).length-1)=ks.take (kids.length-1):=by
   rw[d];simp
  rw[e];exact h2
theorem dd.at{h:Nat}{n:aB}{p:O Nat}{L:O aH}(v:dd P (h+2) n lo hi p L){k:Key}(m:fj lo hi k):∃ (f g:ao Key) (bw q br:O Nat) (ba M bB:O aH) (B:di n.keys k<n.kids.length),
 p=bw++(q++br)/\L=ba++(M++bB)/\fk P (h+1) f g n.kids[di n.keys k] q M/\fj f g k/\(∀u,Loc k u->u L=ba++(u M++bB))/\n.kids.length=n.keys.length+1/\
 fx (fk P (h+1)) lo f (n.keys.take (di n.keys k)) (n.kids.take (di n.keys k)) bw ba/\gw (fk P (h+1)) hi g (n.keys.drop (di n.keys k)) (n.kids.drop (di n.keys k+1)) br bB:=by
 obtain⟨a,b,c,d,e⟩:=v;have w:=e.len;have C:=vg n.keys k;have hs:=e.sorted λ_ _ _ _ _ i=>i.in;have o:∀s∈n.keys,fj lo hi s:=λs h=>⟨λa x=>iB ((hs.2.2.2 s h).1 a x),(hs.2.2.2 s h).2⟩;obtain⟨f,g,bw,q,br,ba,M,bB,rfl,rfl,h1,h2,l⟩:=e.at (di n.keys k) I;have r:=h2.ES (k:=k) (λj y h=>EP h y) m.1;have t:=l.ET (k:=k) (λh=>ER h) m.2;have z:(n.keys.take (di n.keys k)).Pairwise bD:=hs.2.2.1.sublist (List.take_sublist _ _);have A:(n.keys.drop (di n.keys k)).Pairwise bD:=hs.2.2.1.sublist (List.drop_sublist _ _);exact⟨f,g,bw,q,br,ba,M,bB,I,rfl,rfl,h1,⟨r,t⟩,λu hu=>hu _ _ _ (h2.below (hi:=hi) (λ_ _ _ _ _ i=>i.in.2) z (λs h=>o s (fa h)) r) (l.EU (lo:=lo) (λ_ _ _ _ _ i=>i.in.2) A (λs h=>o s (e_ h)) t),
  w,h2,l⟩
theorem dd.build{h:Nat}{d e:ao Key}{a kb ks:O Key}{b c kids bw br q:O Nat}{ba M bB:O aH}(h1:fx (fk P (h+1)) lo d a b bw ba)(h2:gw (fk P (h+1)) hi e kb c br bB)
 (hs:dz (fk Q (h+1)) d e ks kids q M) (g:∀x∈bw++br,P x=Q x) (i:∀s∈a++ks++kb,cz s) (hd:∀x∈b++kids++c,x<1600):
 dd Q (h+2) ⟨false,a++ks++kb,[],b++kids++c⟩ lo hi (bw++(q++br)) (ba++(M++bB)):=by
 have au:fx (fk Q (h+1)) lo d a b bw ba:=h1.lC λ_ _ _ _ _ hs f=>f.agree λx hx=>g x (js _ (hs x hx));have aw:gw (fk Q (h+1)) hi e kb c br bB:=h2.lC λ_ _ _ _ _ hs f=>f.agree λx hx=>g x (h4 _ (hs x hx));refine⟨rfl,rfl,i,hd,?_⟩;show dz _ lo hi (a++ks++kb) (b++kids++c) _ _;rw[cM,cM];exact au.EO (hs.post aw)
end Go.Proofs.YtkdhdlfonmgheaaGreat
namespace Go.Proofs.YtkdhdlfonmgheaaGreat
variable {lo hi:ao Key}{P Q:Nat->ao aB}
theorem dd.one{h x:Nat}{n:aB}{p:O Nat}{L:O aH}(a:dd P h n lo hi p L)(h2:2<=n.keys.length)(hx:Q x=some n)(b:∀y∈p,P y=Q y):dz (fk Q h) lo hi [] [x] (x::p) L:=
 .one ⟨a.lay (λe=>by rw[e]at h2;simp at h2) hx b,n,hx,h2⟩
theorem kX{n:aB}(h:n.leaf=true):cellsOf n=List.zipWith (λk v=>2+k.length+v.length) n.keys n.vals:=by unfold cellsOf;rw[h];rfl
theorem kY{n:aB}(h:n.leaf=false):cellsOf n=n.keys.map λk=>3+k.length:=by unfold cellsOf;rw[h];rfl
theorem xr{B:Nat}{f:Key->Key->Nat}:∀ {ks vs:O Key},(∀k∈ks,∀v∈vs,f k v<=B)->∀x∈List.zipWith f ks vs,x<=B
 | [],vs,_,x,hx=>by simp at hx
 |k::ks,[],_,x,hx=>by simp at hx
 |k::ks,v::vs,h,x,hx=>by
  rw[List.zipWith_cons_cons]at hx
  rcases cS.1 hx with rfl|hx
  .exact h k (by simp) v (by simp)
  .exact xr (λk a v b=>h k (by simp[a]) v (by simp[b])) x hx
def cf(n:aB):Nat:=gl (cellsOf n) (if n.leaf then n.keys.length-1 else n.keys.length-2)
theorem dd.two{h x y:Nat}{n:aB}{p:O Nat}{L:O aH}(b:dd P h n lo hi p L)(h1:232<bF n)(h2:n.leaf=true->bF n<=310)(r:n.leaf=false->bF n<=335):
 1<=cf n/\(if n.leaf then cf n<=n.keys.length-1/\1<=n.keys.length-1 else cf n<=n.keys.length-2/\1<=n.keys.length-2)/\bF (n.left (cf n))<=232/\bF (n.right (cf n))<=232/\
  ∃ (u:cf n<n.keys.length) (bw br:O Nat) (ba bB:O aH),p=bw++br/\L=ba++bB/\cz n.keys[cf n]/\
   (Q x=some (n.left (cf n))->Q y=some (n.right (cf n))->(∀z∈p,P z=Q z)->dz (fk Q h) lo hi [n.keys[cf n]] [x,y] ((x::bw)++(y::br)) (ba++bB)):=by
 have main:∀ (i:Nat),2<=i->(F:i<n.keys.length)->2<=(n.left i).keys.length->2<=(n.right i).keys.length->∃ (u:i<n.keys.length) (bw br:O Nat) (ba bB:O aH),p=bw++br/\L=ba++bB/\cz n.keys[i]/\
  (Q x=some (n.left i)->Q y=some (n.right i)->(∀z∈p,P z=Q z)->dz (fk Q h) lo hi [n.keys[i]] [x,y] ((x::bw)++(y::br)) (ba++bB)):=by
  intro i G s w A;obtain⟨bw,br,ba,bB,rfl,rfl,v1,v2⟩:=b.xp (by omega:1<=i) s;have B:cz n.keys[i]:=by
   match h,b with
   |0,b=>exact b.elim
   |1,b=>exact b.1.ok _ (cA _)
   |h+2,b=>exact b.2.2.1 _ (cA _)
  refine⟨s,bw,br,ba,bB,rfl,rfl,B,λhx C t=>?_⟩;have s1:=v1.one w hx λz f=>t z (js _ f);have s2:=v2.one A C λz f=>t z (h4 _ f);exact s1.app s2
 match h,b with
 |0,b=>exact b.elim
 |1,b=>
  have a:n.leaf=true:=b.1.leaf;have g:(cellsOf n).length=n.keys.length:=by rw[kX a,List.length_zipWith,b.1.len,Nat.min_self]
  have j:∀c∈cellsOf n,c<=50:=by
   rw[kX a];exact xr λk l v D=>by have:=(b.1.ok k l).2;have:=b.1.vals v D;omega
  have E:bF n=1+(cellsOf n).sum:=by unfold bF;rw[a];rfl
  have h2:=h2 a;obtain⟨a1,a2,a3,a4⟩:=EX j I I;have m:cf n=gl (cellsOf n) ((cellsOf n).length-1):=by unfold cf;rw[a,g];rfl
  rw[←m]at a1 a2 a3 a4;have d:n.left (cf n)=⟨true,n.keys.take (cf n),n.vals.take (cf n),[]⟩:=by unfold aB.left;rw[a];rfl
  have e:n.right (cf n)=⟨true,n.keys.drop (cf n),n.vals.drop (cf n),[]⟩:=by unfold aB.right;rw[a];rfl
  have o:cellsOf (n.left (cf n))=(cellsOf n).take (cf n):=by rw[d,kX rfl,kX a];exact List.take_zipWith.symm
  have q:cellsOf (n.right (cf n))=(cellsOf n).drop (cf n):=by rw[e,kX rfl,kX a];exact List.drop_zipWith.symm
  refine⟨I,by rw[a];exact⟨I,I⟩,?_,?_,main _ a1 I (by rw[d];show 2<=(n.keys.take _).length;rw[cy];omega) (by rw[e];show 2<=(n.keys.drop _).length;rw[c5];omega)⟩
  .unfold bF;rw[o,d];show 1+_<=_;omega
  .unfold bF;rw[q,e];show 1+_<=_;omega
 |h+2,b=>
  have a:n.leaf=false:=b.1;have g:(cellsOf n).length=n.keys.length:=by rw[kY a,dN]
  have j:∀c∈cellsOf n,c<=27:=by
   rw[kY a];intro c hc;obtain⟨k,l,rfl⟩:=ep.1 hc;have:=(b.2.2.1 k l).2;omega
  have E:bF n=3+(cellsOf n).sum:=by unfold bF;rw[a];rfl
  have r:=r a;obtain⟨a1,a2,a3,a4⟩:=EY j I I;have m:cf n=gl (cellsOf n) ((cellsOf n).length-2):=by unfold cf;rw[a,g];rfl
  rw[←m]at a1 a2 a3 a4;have d:n.left (cf n)=⟨false,n.keys.take (cf n),[],n.kids.take (cf n+1)⟩:=by unfold aB.left;rw[a];rfl
  have e:n.right (cf n)=⟨false,n.keys.drop (cf n+1),[],n.kids.drop (cf n+1)⟩:=by unfold aB.right;rw[a];rfl
  have o:cellsOf (n.left (cf n))=(cellsOf n).take (cf n):=by rw[d,kY rfl,kY a];exact mH
  have q:cellsOf (n.right (cf n))=(cellsOf n).drop (cf n+1):=by rw[e,kY rfl,kY a];exact oR
  refine⟨I,by rw[a];exact⟨I,I⟩,?_,?_,main _ a1 I (by rw[d];show 2<=(n.keys.take _).length;rw[cy];omega) (by rw[e];show 2<=(n.keys.drop _).length;rw[c5];omega)⟩
  .unfold bF;rw[o,d];show 3+_<=_;omega
  .unfold bF;rw[q,e];show 3+_<=_;omega
end Go.Proofs.YtkdhdlfonmgheaaGreat
namespace Go.Proofs.YtkdhdlfonmgheaaGreat
variable {lo hi:ao Key}{P Q:Nat->ao aB}
theorem dd.cells{h:Nat}{n:aB}{p:O Nat}{L:O aH}(a:dd P h n lo hi p L):(cellsOf n).length=n.keys.length/\∀c∈cellsOf n,c<=if n.leaf then 50 else 27:=by
 match h,a with
 |0,a=>exact a.elim
 |1,a=>
  have b:n.leaf=true:=a.1.leaf;rw[kX b,b];exact⟨by rw[List.length_zipWith,a.1.len,Nat.min_self],xr λk d v e=>by have:=(a.1.ok k d).2;have:=a.1.vals v e;simp only[if_true];omega⟩
 |h+2,a=>
  have b:n.leaf=false:=a.1;rw[kY b,b];refine⟨by rw[dN],λc hc=>?_⟩;obtain⟨k,d,rfl⟩:=ep.1 hc;have:=(a.2.2.1 k d).2;show 3+k.length<=27;omega
theorem dd.xt{h:Nat}{n:aB}{p:O Nat}{L:O aH}(b:dd P h n lo hi p L)(hs:80<=bF n):2<=n.keys.length:=by
 obtain⟨h1,h2⟩:=b.cells;have:=m3 h2;rw[h1]at this;unfold bF at hs
 cases a:n.leaf with
 |true=>rw[a]at hs this;simp only[if_true]at hs this;omega
 |false=>rw[a]at hs this;simp only[fL,if_false]at hs this;omega
theorem EZ{a b:aB}{s:Key}(h:a.leaf=b.leaf)(f:a.leaf=true->a.vals.length=a.keys.length):bF (dQ a s b)=if a.leaf then bF a+bF b-1 else bF a+bF b+s.length:=by
 cases c:a.leaf with
 |true=>
  have e:dQ a s b=⟨true,a.keys++b.keys,a.vals++b.vals,[]⟩:=by unfold dQ;rw[c];rfl
  have d:b.leaf=true:=by rw[←h,c]
  unfold bF;rw[e,kX rfl,kX c,kX d,c,d];simp only[if_true];rw[oS (f c).symm,lf];omega
 |false=>
  have e:dQ a s b=⟨false,a.keys++s::b.keys,[],a.kids++b.kids⟩:=by unfold dQ;rw[c];rfl
  have d:b.leaf=false:=by rw[←h,c]
  unfold bF;rw[e,kY rfl,kY c,kY d,c,d];simp only[fL,if_false,fV,jd,lf,qz];omega
def iD(ks:O Key):Nat:=(ks.map λk=>3+k.length).sum
theorem vh(a b:O Key):iD (a++b)=iD a+iD b:=by unfold iD;rw[fV,lf]
theorem AF{n:aB}(h:n.leaf=false):bF n=3+iD n.keys:=by unfold bF iD;rw[h,kY h];rfl
theorem E0(k:Key):iD [k]=3+k.length:=by simp[iD]
theorem xu{n:aB}{ks:O Key}{kids:O Nat}{fr j:Nat}(h:n.leaf=false)(a:ks.length<=1)(b:∀k∈ks,cz k)(c:fr<=j):
 bF ⟨false,n.keys.take fr++ks++n.keys.drop j,[],kids⟩<=bF n+27:=by
 rw[AF h,AF rfl];show 3+iD (n.keys.take fr++ks++n.keys.drop j)<=_;rw[vh,vh];have h1:iD ks<=27:=by
  match ks,a with
  | [],_=>simp[iD]
  | [k],_=>rw[E0];have:=(b k (by simp)).2;omega
 have h2:iD n.keys=iD (n.keys.take fr)+iD (n.keys.drop fr):=by rw[←vh,hZ]
 have d:iD (n.keys.drop fr)=iD ((n.keys.drop fr).take (j-fr))+iD (n.keys.drop j):=by
  rw[←vh]
  congr 1
  have:n.keys.drop j=(n.keys.drop fr).drop (j-fr):=by rw[qA];congr 1;omega
  rw[this,hZ]
 omega
end Go.Proofs.YtkdhdlfonmgheaaGreat
namespace Go.Proofs.YtkdhdlfonmgheaaGreat
variable {lo hi:ao Key}{P Q:Nat->ao aB}
def l_(Q:Nat->ao aB)(n:aB)(ks:O Key)(kids:O Nat):Prop:=
 (bF n<=232/\∃x,ks=[]/\kids=[x]/\Q x=some n)\/
 (232<bF n/\∃ (x y:Nat) (a:cf n<n.keys.length),ks=[n.keys[cf n]]/\kids=[x,y]/\Q x=some (n.left (cf n))/\Q y=some (n.right (cf n)))
theorem dd.fits{h:Nat}{n:aB}{p:O Nat}{L:O aH}{ks:O Key}{kids:O Nat}(a:dd P h n lo hi p L)(h2:2<=n.keys.length)(d:n.leaf=true->bF n<=310)(e:n.leaf=false->bF n<=335)
 (hf:l_ Q n ks kids) (b:∀x∈p,P x=Q x):∃c,dz (fk Q h) lo hi ks kids c L/\c.Perm (kids++p)/\(∀s∈ks,cz s)/\ks.length<=1:=by
 rcases hf with ⟨_,x,rfl,rfl,hx⟩|⟨hs,x,y,j,rfl,rfl,hx,f⟩
 .exact⟨x::p,a.one h2 hx b,List.Perm.refl _,by simp,by simp⟩
 .obtain⟨_,_,_,_,_,bw,br,ba,bB,rfl,rfl,g,i⟩:=a.two (Q:=Q) (x:=x) (y:=y) hs d e
  refine⟨_,i hx f b,?_,by simpa using g,by simp⟩;show((x::bw)++(y::br)).Perm ([x,y]++(bw++br));simp only[nr,iM];exact(mE).cons x
theorem E1{h:Nat}{a c:aB}{f g:ao Key}{i:Nat}{bw br b:O Nat}{ba hK bB:O aH}{ks:O Key}{kids:O Nat}(h0:a.leaf=false)(j:∀k∈a.keys,cz k)(l:∀x∈a.kids,x<1600)
 (p:fx (fk P (h+1)) lo f (a.keys.take i) (a.kids.take i) bw ba) (q:gw (fk P (h+1)) hi g (a.keys.drop i) (a.kids.drop (i+1)) br bB) (m:dd P (h+1) c f g b hK) (h1:80<=bF c) (h2:bF c<=282)
 (hf:l_ Q c ks kids) (d:∀x∈bw++(b++br),P x=Q x) (r:∀x∈kids,x<1600):
 ∃n,dd Q (h+2) (fZ a i (i+1) ks kids) lo hi n (ba++(hK++bB))/\n.Perm (kids++(bw++(b++br)))/\bF (fZ a i (i+1) ks kids)<=bF a+27/\a.keys.length<=(fZ a i (i+1) ks kids).keys.length:=by
 obtain⟨dA,hs,t,o,u⟩:=m.fits (m.xt h1) (λ_=>I) (λ_=>I) hf λx hx=>d x (h4 _ (js _ hx));have v:=dd.build p q hs (λx hx=>by
  rcases cP.1 hx with hx|hx
  .exact d x (js _ hx)
  .exact d x (h4 _ (h4 _ hx)))
  (λs hs=>by
    rcases cP.1 hs with hs|hs
    .rcases cP.1 hs with hs|hs
     .exact j s (fa hs)
     .exact o s hs
    .exact j s (e_ hs))
  (λx hx=>by
    rcases cP.1 hx with hx|hx
    .rcases cP.1 hx with hx|hx
     .exact l x (fa hx)
     .exact r x hx
    .exact l x (e_ hx))
 have e:fZ a i (i+1) ks kids=⟨false,a.keys.take i++ks++a.keys.drop i,[],a.kids.take i++kids++a.kids.drop (i+1)⟩:=by unfold fZ;rw[Nat.add_sub_cancel]
 rw[e];refine⟨_,v,?_,xu h0 u o (bn _),?_⟩
 .have au:(dA++br).Perm (kids++(b++br)):=by
   rw[←cM];exact t.append_right _
  refine(List.Perm.append_left bw au).trans ?_;have aw:=(qB (l₁:=bw) (l₂:=kids)).append_right (b++br);rw[cM,cM]at aw;exact aw
 .show a.keys.length<=(a.keys.take i++ks++a.keys.drop i).length
  have:=congrArg List.length (hZ i a.keys);simp only[ct]at this⊢;omega
end Go.Proofs.YtkdhdlfonmgheaaGreat
namespace Go.Proofs.YtkdhdlfonmgheaaGreat
variable {lo hi:ao Key}{P Q:Nat->ao aB}
theorem vi{a b:aB}{s:Key}:a.keys.length+b.keys.length<=(dQ a s b).keys.length:=by
 unfold dQ;split
 .show _<=(a.keys++b.keys).length
  rw[ct];omega
 .show _<=(a.keys++s::b.keys).length
  rw[ct,e1];omega
theorem AG{a b:aB}{s:Key}:(dQ a s b).leaf=a.leaf:=by
 unfold dQ
 cases h:a.leaf<;>simp
theorem vj{h:Nat}{a b:aB}{s:Key}{e5 dG d f:ao Key}{pa g:O Nat}{i j:O aH}(c:dd P h a e5 dG pa i)(k:dd P h b d f g j)(hs:cz s)(h1:bF a+bF b<=311):
 ((dQ a s b).leaf=true->bF (dQ a s b)<=310)/\((dQ a s b).leaf=false->bF (dQ a s b)<=335):=by
 have l:a.leaf=b.leaf:=by rw[c.leaf,k.leaf]
 have m:a.leaf=true->a.vals.length=a.keys.length:=λh1=>by
  match h,c with
  |0,c=>exact c.elim
  |1,c=>exact c.1.len
  |h+2,c=>rw[c.1]at h1;cases h1
 rw[AG,EZ l m];have:=hs.2;constructor
 .intro e;rw[e];simp only[if_true];omega
 .intro e;rw[e];simp only[fL,if_false];omega
theorem E2{h:Nat}{d g:aB}{u v:ao Key}{i:Nat}{bw br f:O Nat}{ba hK bB:O aH}{k:Key}(h0:d.leaf=false)(w:∀k∈d.keys,cz k)(C:∀x∈d.kids,x<1600)(hlen:d.kids.length=d.keys.length+1)(S:∀x n,P x=some n->bF n<=232)
 (dG:1<=i) (ag:i<d.kids.length) (D:fj u v k)
 (T:fx (fk P (h+1)) lo u (d.keys.take i) (d.kids.take i) bw ba) (U:gw (fk P (h+1)) hi v (d.keys.drop i) (d.kids.drop (i+1)) br bB) (E:dd P (h+1) g u v f hK) (h1:bF g<80):
 ∃ (o:aB) (y:O Nat) (F:i-1<d.kids.length) (ah:i-1<d.keys.length),P d.kids[i-1]=some o/\bw.Perm (d.kids[i-1]::y)/\2<=o.keys.length/\
  ∀ (Q:Nat->ao aB) (ks:O Key) (kids:O Nat),l_ Q (dQ o d.keys[i-1] g) ks kids->(∀x∈y++(f++br),P x=Q x)->(∀x∈kids,x<1600)->
   ∃G,dd Q (h+2) (fZ d (i-1) (i+1) ks kids) lo hi G (ba++(hK++bB))/\G.Perm (kids++(y++(f++br)))/\bF (fZ d (i-1) (i+1) ks kids)<=bF d+27/\d.keys.length<=(fZ d (i-1) (i+1) ks kids).keys.length+1:=by
 obtain⟨s,V,aI,r,aT,N,hs,rfl,z,rfl,rfl,⟨A,m,j,p⟩,H,ai⟩:=T.last (by rw[cy];omega);have W:(d.keys.take i).length=i:=by rw[cy];omega
 have X:(d.kids.take i).length=i:=by rw[cy];omega
 have z:s=d.keys[i-1]'I:=by
  rw[z,oT];congr 1;omega
 have Y:(d.kids.take i)[(d.kids.take i).length-1]'I=d.kids[i-1]'I:=by
  rw[oT];congr 1;omega
 rw[Y]at A j;obtain⟨o,q,t,rfl,_,J⟩:=A.kq;rw[t]at j;have p:2<=o.keys.length:=by rw[Option.some.inj j];exact p
 clear j;subst z;have B:=(show fk P (h+1) V (some (d.keys[i-1]'I)) (d.kids[i-1]'I) (d.kids[i-1]'I::q) N from⟨A,o,t,p⟩).in;obtain⟨x,hx⟩:=qy _ B.1;have K:=w _ (cA (l:=d.keys) (n:=i-1) I);have Z:=dd.merge J E K (λc hc=>iB (jZ ((B.2.2 x hx).1 c hc) ((B.2.2 x hx).2 _ rfl))) (λc hc=>iB (jZ (D.1 _ rfl) (D.2 c hc)));have L:=vj J E K (by have:=S _ _ t;omega);have aj:=vi (a:=o) (b:=g) (s:=d.keys[i-1]'I);refine⟨o,aI++q,I,I,t,mE,p,λQ ks kids hf M aa=>?_⟩;obtain⟨dA,ab,ac,R,ad⟩:=Z.fits I L.1 L.2 hf λx hx=>M x (by
  rcases cP.1 hx with hx|hx
  .exact js _ (h4 _ hx)
  .exact h4 _ (js _ hx))
 have ae:(d.keys.take i).take ((d.keys.take i).length-1)=d.keys.take (i-1):=by rw[W,qC];congr 1;omega
 have af:(d.kids.take i).take ((d.kids.take i).length-1)=d.kids.take (i-1):=by rw[X,qC];congr 1;omega
 rw[ae,af]at H;have F:=dd.build H U ab (λx hx=>M x (by
  rcases cP.1 hx with hx|hx
  .exact js _ (js _ hx)
  .exact h4 _ (h4 _ hx)))
  (λs hs=>by
    rcases cP.1 hs with hs|hs
    .rcases cP.1 hs with hs|hs
     .exact w s (fa hs)
     .exact R s hs
    .exact w s (e_ hs))
  (λx hx=>by
    rcases cP.1 hx with hx|hx
    .rcases cP.1 hx with hx|hx
     .exact C x (fa hx)
     .exact aa x hx
    .exact C x (e_ hx))
 have e:fZ d (i-1) (i+1) ks kids=⟨false,d.keys.take (i-1)++ks++d.keys.drop i,[],d.kids.take (i-1)++kids++d.kids.drop (i+1)⟩:=by unfold fZ;rw[Nat.add_sub_cancel]
 rw[e];refine⟨_,by simpa[cM] using F,?_,xu h0 ad R I,?_⟩
 .have au:(dA++br).Perm (kids++(q++(f++br))):=by
   have:=ac.append_right br;simpa[cM] using this
  refine(List.Perm.append_left aI au).trans ?_;have aw:=(qB (l₁:=aI) (l₂:=kids)).append_right (q++(f++br));simpa[cM] using aw
 .show d.keys.length<=(d.keys.take (i-1)++ks++d.keys.drop i).length+1
  simp only[ct,cy,c5];omega
end Go.Proofs.YtkdhdlfonmgheaaGreat
namespace Go.Proofs.YtkdhdlfonmgheaaGreat
variable {lo hi:ao Key}{P Q:Nat->ao aB}
theorem E3{h:Nat}{d j:aB}{w y:ao Key}{i:Nat}{bw br f:O Nat}{ba hK bB:O aH}{k:Key}(h0:d.leaf=false)(z:∀k∈d.keys,cz k)(E:∀x∈d.kids,x<1600)(hlen:d.kids.length=d.keys.length+1)(U:∀x n,P x=some n->bF n<=232)
 (p:i+1<d.kids.length) (F:fj w y k)
 (V:fx (fk P (h+1)) lo w (d.keys.take i) (d.kids.take i) bw ba) (W:gw (fk P (h+1)) hi y (d.keys.drop i) (d.kids.drop (i+1)) br bB) (G:dd P (h+1) j w y f hK) (h1:bF j<80):
 ∃ (o:aB) (A:O Nat) (H:i+1<d.kids.length) (ae:i<d.keys.length),P d.kids[i+1]=some o/\br.Perm (d.kids[i+1]::A)/\2<=o.keys.length/\
  ∀ (Q:Nat->ao aB) (ks:O Key) (kids:O Nat),l_ Q (dQ j d.keys[i] o) ks kids->(∀x∈bw++(f++A),P x=Q x)->(∀x∈kids,x<1600)->
   ∃J,dd Q (h+2) (fZ d i (i+2) ks kids) lo hi J (ba++(hK++bB))/\J.Perm (kids++(bw++(f++A)))/\bF (fZ d i (i+2) ks kids)<=bF d+27/\d.keys.length<=(fZ d i (i+2) ks kids).keys.length+1:=by
 obtain⟨s,X,r,g,N,af,hs,rfl,B,rfl,rfl,⟨C,m,q,t⟩,K⟩:=W.head (by rw[c5];omega);have B:s=d.keys[i]'I:=by rw[B,qD];rfl
 have Y:(d.kids.drop (i+1))[0]'(by rw[c5];omega)=d.kids[i+1]'p:=by rw[qD]
 rw[Y]at C q;obtain⟨o,u,v,rfl,_,L⟩:=C.kq;rw[v]at q;have t:2<=o.keys.length:=by rw[Option.some.inj q];exact t
 clear q;subst B;have D:=(show fk P (h+1) (some (d.keys[i]'I)) X (d.kids[i+1]'p) (d.kids[i+1]'p::u) N from⟨C,o,v,t⟩).in;obtain⟨x,hx⟩:=qy _ D.1;have M:=z _ (cA (l:=d.keys) (n:=i) I);have Z:=dd.merge G L M (λc hc=>iB (jZ (F.1 c hc) (F.2 _ rfl))) (λc hc=>iB (jZ ((D.2.2 x hx).1 _ rfl) ((D.2.2 x hx).2 c hc)));have R:=vj G L M (by have:=U _ _ v;omega);have ag:=vi (a:=j) (b:=o) (s:=d.keys[i]'I);refine⟨o,u++g,p,I,v,List.Perm.refl _,t,λQ ks kids hf S aa=>?_⟩;obtain⟨dA,ab,ac,T,ad⟩:=Z.fits I R.1 R.2 hf λx hx=>S x (by
  rcases cP.1 hx with hx|hx
  .exact h4 _ (js _ hx)
  .exact h4 _ (h4 _ (js _ hx)))
 rw[qA,qA]at K;have H:=dd.build V K ab (λx hx=>S x (by
  rcases cP.1 hx with hx|hx
  .exact js _ hx
  .exact h4 _ (h4 _ (h4 _ hx))))
  (λs hs=>by
    rcases cP.1 hs with hs|hs
    .rcases cP.1 hs with hs|hs
     .exact z s (fa hs)
     .exact T s hs
    .exact z s (e_ hs))
  (λx hx=>by
    rcases cP.1 hx with hx|hx
    .rcases cP.1 hx with hx|hx
     .exact E x (fa hx)
     .exact aa x hx
    .exact E x (e_ hx))
 have e:fZ d i (i+2) ks kids=⟨false,d.keys.take i++ks++d.keys.drop (i+1),[],d.kids.take i++kids++d.kids.drop (i+1+1)⟩:=rfl;rw[e];refine⟨_,by simpa[cM] using H,?_,xu h0 ad T I,?_⟩
 .have au:(dA++g).Perm (kids++(f++(u++g))):=by
   have:=ac.append_right g;simpa[cM] using this
  refine(List.Perm.append_left bw au).trans ?_;have aw:=(qB (l₁:=bw) (l₂:=kids)).append_right (f++(u++g));simpa[cM] using aw
 .show d.keys.length<=(d.keys.take i++ks++d.keys.drop (i+1)).length+1
  simp only[ct,cy,c5];omega
end Go.Proofs.YtkdhdlfonmgheaaGreat
namespace Go.Proofs.YtkdhdlfonmgheaaGreat
variable {lo hi:ao Key}{P:Nat->ao aB}
def cL(ks:O Key)(k:Key):Nat:=ks.findIdx λs=>decide (¬bD s k)
theorem pV(ks:O Key)(k:Key):cL ks k<=ks.length:=List.findIdx_le_length
theorem od{ks:O Key}{k:Key}{j:Nat}(h:j<cL ks k)(a:j<ks.length):bD ks[j] k:=by
 have:=List.not_of_lt_findIdx h;simpa using this
theorem pW{ks:O Key}{k:Key}(hs:ks.Pairwise bD){j:Nat}(h:cL ks k<=j)(b:j<ks.length):ef k ks[j]:=by
 have h1:cL ks k<ks.length:=by omega
 have h2:ef k ks[cL ks k]:=by
  have:=List.findIdx_getElem (p:=λs=>decide (¬bD s k)) (xs:=ks) (w:=h1);exact Ay.1 (b1 this)
 rcases dC (cL ks k) j with a|a
 .exact iB (jZ h2 (mI.1 hs _ _ h1 b a))
 .have:cL ks k=j:=by omega
  subst this;exact h2
theorem E4{α:Type}{f:α->ah}{L:O α}{i:Nat}(h1:∀x∈L.take i,f x=true)(h2:∀x∈L.drop i,f x=false):L.filter f=L.take i:=by
 conv=>lhs;rw[←hZ i L]
 rw[kK,jQ.2 h1,lR.2 (λx hx=>by rw[h2 x hx];decide),fO]
theorem AH{α:Type}{f:α->ah}{L:O α}{i:Nat}(h1:∀x∈L.take i,f x=false)(h2:∀x∈L.drop i,f x=true):L.filter f=L.drop i:=by
 conv=>lhs;rw[←hZ i L]
 rw[kK,lR.2 (λx hx=>by rw[h1 x hx];decide),jQ.2 h2,iM]
theorem xv{ks vs:O Key}{i:Nat}{x:aH}(h:x∈(ks.zip vs).take i):∃ (j:Nat) (a:j<ks.length),j<i/\x.1=ks[j]:=by
 obtain⟨j,a,rfl⟩:=List.mem_take_iff_getElem.1 h;have h1:j<(ks.zip vs).length:=by omega
 rw[mG]at h1;exact⟨j,I,I,by rw[sk]⟩
theorem xw{ks vs:O Key}{i:Nat}{x:aH}(h:x∈(ks.zip vs).drop i):∃ (j:Nat) (a:j<ks.length),i<=j/\x.1=ks[j]:=by
 obtain⟨j,a,rfl⟩:=List.mem_drop_iff_getElem.1 h;have h1:i+j<(ks.zip vs).length:=by omega
 rw[mG]at h1;exact⟨i+j,I,I,by rw[sk]⟩
theorem E5{ks vs:O Key}{k v:Key}(hs:ks.Pairwise bD):eN (ks.zip vs) k v=(ks.zip vs).take (cL ks k)++(k,v)::(ks.zip vs).drop (if ks[cL ks k]? =some k then cL ks k+1 else cL ks k):=by
 unfold eN;rw[E4 (f:=λp:aH=>decide (bD p.1 k)) (i:=cL ks k) (λx hx=>by
  obtain⟨j,a,h1,e⟩:=xv hx;rw[e];exact dm (od h1 a)) (λx hx=>by
  obtain⟨j,a,h1,e⟩:=xw hx;rw[e];exact hD (pW hs h1 a))]
 congr 2
 split
 .rename_i he
  obtain⟨aJ,he⟩:=im.1 he;refine AH (λx hx=>?_) (λx hx=>?_)
  .obtain⟨j,a,h1,e⟩:=xv hx
   rw[e];refine hD ?_;rcases dC j (cL ks k) with h2|h2
   .exact jY (od h2 a)
   .have:j=cL ks k:=by omega
    subst this;rw[he];exact l9 _
  .obtain⟨j,a,h1,e⟩:=xw hx
   rw[e];refine dm ?_;have:=mI.1 hs _ j aJ a I;rwa[he]at this
 .rename_i he
  refine AH (λx hx=>?_) (λx hx=>?_)
  .obtain⟨j,a,h1,e⟩:=xv hx
   rw[e];exact hD (jY (od h1 a))
  .obtain⟨j,a,h1,e⟩:=xw hx
   rw[e];refine dm ?_;rcases oa.1 (pW hs h1 a) with h2|h2
   .exact h2
   .have aJ:cL ks k<ks.length:=by omega
    rcases dC (cL ks k) j with b|b
    .exact jZ (pW hs (bn _) aJ) (mI.1 hs _ _ aJ a b)
    .have:j=cL ks k:=by omega
     subst this;exact absurd ((du aJ).trans (congrArg some h2.symm)) he
end Go.Proofs.YtkdhdlfonmgheaaGreat
namespace Go.Proofs.YtkdhdlfonmgheaaGreat
open Go a6 Go.Proofs.Tryz
theorem vk{n:Nat}(h:n<256):((UInt8.ofNat n).toNat:Nat)=n:=by
 simp[jv h]
theorem AI{src dst:TypeId}{w:J}{s:Y}{ns:O Int}(hs:Tryz.prog.underlying src=some (.slice 5))(hd:Tryz.prog.underlying dst=some .string)(h:Src 1 w s (ns.map (.int .u8))):
 Sem.run aj (convert src dst s) w=.ok (.string (S (ns.map λn=>UInt8.ofNat n.toNat))) w:=by
 rw[DV hs (by kernel_rfl) hd h,DY]
def tl(f:Nat->Int)(k m:Nat):O UInt8:=(List.range (m-k)).map λj=>UInt8.ofNat (f (k+j)).toNat
theorem xx{w:J}{A:ab}:∀ (vs:O aa) (i:Nat),(∀j v,vs[j]? =some v->w.cell? (A.add (i+j))=some v)->cJ w A i vs.length=some vs
 | [],_,_=>rfl
 |v::vs,i,h=>by
  have h0:=h 0 v rfl
  have a:=xx vs (i+1) (λj u b=>by rw[show i+1+j=i+(j+1) from I];exact h (j+1) u (by simpa using b))
  rw[kF]at h0
  simp[cJ,h0,a]
def aG(l:O UInt8):O aa:=l.map λb=>Value.int .u8 (b.toNat:Int)
theorem ej(l:O UInt8):(aG l).length=l.length:=by simp[aG]
theorem oe{l:O UInt8}{i:Nat}(h:i<l.length):(aG l)[i]? =some (.int .u8 ((l[i].toNat:Nat):Int)):=by simp[aG,h]
def pX(c:Nat):ao Nat:=if 48<=c/\c<=57 then some (c-48) else if 97<=c|||32/\c|||32<=122 then some ((c|||32)-97+10) else none
theorem E6(c:UInt8):((c.toNat:Int).toNat.toUInt8)=c:=by simp
theorem kZ(l:O UInt8):∀v∈aG l,Plain v:=by
 intro v a;obtain⟨n,_,rfl⟩:=ep.1 a;trivial
theorem og(a b:O UInt8):aG (a++b)=aG a++aG b:=by simp[aG]
theorem take_succ{α:Type}(ls:O α){i:Nat}(h:i<ls.length):ls.take (i+1)=ls.take i++ [ls[i]]:=by
 rw[iq h]
structure AJ where
 IX:ah
 b:O UInt8
 h:b.length=16
 deriving DecidableEq
def Var(w:J)(b:Nat)(vs:O aa)(T:TypeId):Prop:=bt w b vs.toArray T
section
variable {w w':J}{b:Nat}{vs us:O aa}{T:TypeId}
theorem Var.new(w:J)(vs:O aa)(T:TypeId):Var (w.alloc (.cells vs.toArray T)) w.heap.size vs T:=bt.new _ _ _
theorem Var.rd(h:Var w b vs T){n:Nat}(a:vs.length=n):cJ w b 0 n=some vs:=by
 have:=pc h n 0 0 (by simp[a]);rw[this];simp[←a]
theorem Var.E7(h:Var w b vs T){o n:Nat}(a:o+n<=vs.length):cJ w ⟨b,o,none⟩ 0 n=some ((vs.drop o).take n):=by
 have:=pc h n o 0 (by simpa using a);rw[this];simp
theorem Var.cell(h:Var w b vs T){i:Nat}:w.cell? ⟨b,i,none⟩=vs[i]? :=by
 rw[bt.cell h];simp
theorem Var.ext(h:Var w b vs T)(hx:Ext w w'):Var w' b vs T:=bt.ext h hx
theorem Var.ae{W:Nat->Prop}(h:Var w b vs T)(hx:ad W w w')(a:¬W b):Var w' b vs T:=bt.ae h hx a
theorem Var.drew(h:Var w b vs T):Var w.drew b vs T:=bt.drew h
theorem Var.lt(h:Var w b vs T):b<w.heap.size:=bt.lt h
theorem Var.b9(h:Var w b vs T)(a:us.length=vs.length)(c:∀v∈us,Plain v):bx w b us:=bt.b9 h 0 us (by simp[a]) c
theorem Var.put(h:Var w b vs T)(a:us.length=vs.length):Var (setCells w b 0 us) b us T:=by
 have:=bt.sX us 0 0 h;simp only[kF]at this;have e:(gE vs.toArray 0 us)=us.toArray:=by
  have h1:=sZ us vs.toArray 0 (by simp[a]);rw[cx,a,List.take_zero,iM,dD (by rw[Array.length_toList,iR];simp)]at h1;apply Array.toList_inj.1;rw[h1]
 rwa[e]at this
end
theorem aS{w:J}{K:J->Prop}(h:K w):ak w K:=h
theorem bd{w:J}{c:Array aa}{vs:O aa}{T:TypeId}(hc:c=vs.toArray){K:J->Prop}(h:∀w',Var w' w.heap.size vs T->Ext w w'->w'.heap.size=w.heap.size+1->K w'):ak (w.alloc (.cells c T)) K:=by
 subst hc;exact h _ (Var.new _ _ _) (ad.alloc (.refl _ _) _) (by simp)
theorem cu{w:J}{b:Nat}{vs us l:O aa}{T:TypeId}(a:Var w b vs T)(c:us.length=vs.length)(d:l=us){K:J->Prop}(h:∀w',Var w' b us T->ad (λq=>q=b) w w'->w'.heap.size=w.heap.size->K w'):ak (setCells w b 0 l) K:=by
 subst d;refine h _ (a.put c) (ad.kR (.refl _ _) l 0) ?_;have:∀ (vs:O aa) (i:Nat) (w:J),(setCells w b i vs).heap.size=w.heap.size:=by
  intro vs
  induction vs with
  |nil=>intro i w;rfl
  |cons v vs e=>intro i w;rw[setCells,e];simp[World.setCell]
 exact this _ _ _
theorem Ext.cm{w0 w w':J}{b:Nat}(h:Ext w0 w)(hc:ad (λq=>q=b) w w')(a:w0.heap.size<=b):Ext w0 w':=Ext.dr h hc (λk c=>by subst c;exact a)
theorem Var.AK{w:J}{b o n c:Nat}{vs:O aa}{T:TypeId}{l:O UInt8}(h:Var w b vs T)(e:o+n<=vs.length)(d:(vs.drop o).take n=aG l):Src 1 w ⟨some ⟨b,o,none⟩,n,c⟩ (aG l):=by
 have hlen:n=l.length:=by
  have:=congrArg List.length d;rw[cy,c5,ej]at this;omega
 refine⟨by rw[ej];show _=n*1;omega,(λh=>by cases h),λa f=>?_⟩
 cases f;show cJ w ⟨b,o,none⟩ 0 (n*1)=_;rw[fF,h.E7 e,d]
theorem oh:hG aj 48 5 1 1:=⟨by kernel_rfl⟩
theorem E8{l5 cK ty:TypeId}{w:J}{b o dl nL:Nat}{s:Y}{l:O UInt8}(hu:Tryz.prog.underlying l5=some (.slice 5))(hs:Src 1 w s (aG l))(e:s.len<=dl)(a:bx w ⟨b,o,none⟩ (aG l)):
 Sem.run aj (Builtin.copy_ #[l5,cK] ty #[.slice (some ⟨b,o,none⟩) dl nL,s]) w=.ok s.len (setCells w ⟨b,o,none⟩ 0 (aG l)):=by
 have f:Nat.min s.len dl=s.len:=je e;have c:=iw (P:=aj) (w:=w) (t:=5) (d:=.int .u8) (by kernel_rfl);have hc:Tryz.prog.cellsOf 5=1:=by kernel_rfl
 rw[hc]at c;have hf:=pd (P:=aj) hs;have g:=o0 (P:=aj) (A:=⟨b,o,none⟩) (aG l) 0 w (by simpa using a.1) a.2;simp[Builtin.copy_,dh hu,Builtin.lenOf,c,f,hf,g];rfl
def aP(c k:Nat):Nat:=c/2^(8-k)*2^(8-k)
def kb(n i:Nat):Nat:=min (n-8*i) 8
theorem Src.sub{w:J}{s:Y}{vs:O aa}{lo hi:Nat}(h:Src 1 w s vs)(hc:s.len<=s.cap)(h1:lo<=hi)(h2:hi<=s.len):Src 1 w ⟨aM s.a 1 lo s.cap,hi-lo,s.cap-lo⟩ ((vs.drop lo).take (hi-lo)):=by
 have l:vs.length=s.len:=by have:=h.len;omega
 refine⟨by simp;omega,λc=>?_,λa b=>?_⟩
 .have f:s.a=none:=by
   unfold aM at c;split at c
   .exact c
   .simpa using c
  simp[h.nil f]
 .show cJ w a 0 ((hi-lo)*1)=_
  by_cases e:hi=lo
  .rw[show hi-lo=0 from I];simp[cJ]
  .have aq:∃A,s.a=some A/\a=A.add lo:=by
    unfold aM at b;rw[if_neg I]at b
    cases hs:s.a with
    |none=>rw[hs]at b;cases b
    |some A=>rw[hs]at b;exact⟨A,rfl,by simpa using b.symm⟩
   obtain⟨A,aq,rfl⟩:=aq;have g:=h.rd A aq;have:=xx (w:=w) (A:=A.add lo) ((vs.drop lo).take (hi-lo)) 0 (λj v d=>by
    rw[add_add];have i:j<hi-lo:=by have:=(im.1 d).1;simp at this;omega
    rw[List.getElem?_take_of_lt i,sg]at d;have:=pe g d;simpa using this)
   have k:((vs.drop lo).take (hi-lo)).length=hi-lo:=by simp;omega
   rw[k]at this;rw[fF];exact this
def iV(l:O UInt8):Nat:=l.foldl (λn c=>n*256+c.toNat) 0
theorem E9(l m:O UInt8):iV (l++m)=m.foldl (λn c=>n*256+c.toNat) (iV l):=by simp[iV,List.foldl_append]
theorem xy(l:O UInt8)(c:UInt8):iV (l++ [c])=iV l*256+c.toNat:=by rw[E9];rfl
theorem m4:∀ (k:Nat) (l:O UInt8),l.length=k->iV l<256^k:=by
 intro k
 induction k with
 |zero=>intro l h;rw[kH.1 h];simp[iV]
 |succ k a=>
  intro l h;obtain⟨m,c,rfl⟩:∃m c,l=m++ [c]:=by
   rcases List.eq_nil_or_concat l with rfl|⟨m,c,b⟩
   .simp at h
   .exact⟨m,c,by rw[b,List.concat_eq_append]⟩
  rw[xy,Nat.pow_succ];have:=a m (by simpa using h);have:=oU c;omega
theorem E_{a b:Nat}(c:a<2^64)(d:b<2^64):mM .u64 (a:Int) (b:Int)=((a|||b:Nat):Int):=by
 have e:BitVec.ofInt 64 (a:Int)=BitVec.ofNat 64 a:=by simp
 have f:BitVec.ofInt 64 (b:Int)=BitVec.ofNat 64 b:=by simp
 unfold mM;show IntKind.u64.wrap (((BitVec.ofInt 64 (a:Int)|||BitVec.ofInt 64 (b:Int)).toNat:Nat):Int)=_;rw[e,f,BitVec.toNat_or,BitVec.toNat_ofNat,BitVec.toNat_ofNat,jv c,jv d];have:a|||b<2^64:=Nat.or_lt_two_pow c d;have:a|||b<18446744073709551616:=this;rw[gO I I]
theorem Fa(n c:Nat)(hc:c<256):n*256|||c=n*256+c:=by
 have:=Nat.shiftLeft_add_eq_or_of_lt (i:=8) (b:=c) (by simpa using hc) n;rw[Nat.shiftLeft_eq]at this;exact this.symm
theorem kV{s:Y}{l:O UInt8}{w:J}(hs:Src 1 w s (aG l))(hc:s.len<=s.cap){a k:Nat}(t:1<=k/\k<=8)(u:a+k<=l.length)(x:l.length<=1000000000000):
 aN aj 156 #[s,a,k] w (λv w'=>v=.tuple #[.int .u64 ((iV ((l.drop a).take k):Nat):Int),true]/\w=w'):=by
 refine okF (I7.kV s a k) I6.kV func156 ?_;(delta I7.kV ji ai aF aK bY ar;dsimp only);have y:s.len=l.length:=by have:=hs.len;rw[ej]at this;omega
 refine Calls.mono (I7.Ey s a k w (λv w'=>v=.tuple #[.slice (aM s.a 1 a s.cap) k (s.cap-a),true]/\w=w') ?_) ?_
 .delta I7.kW ai ar
  rw[bu (n:=(s.len:Int)-(a:Int)) I I,bu (n:=(a:Int)+(k:Int)) I I];refine⟨λh=>?_,λ_=>⟨⟨I,I⟩,⟨I,I⟩,?_,rfl⟩⟩
  .simp only[jc,cQ]at h;omega
  .rw[show Int.toNat ((a:Int)+(k:Int))-Int.toNat (a:Int)=k from I];rfl
 rintro _ _ ⟨_,rfl,rfl,rfl⟩;refine⟨⟨aM s.a 1 a s.cap,k,s.cap-a⟩,true,rfl,cj (λb w'=>b=false/\w=w') (λq f=>⟨λh=>by simp at h,λ_=>?_⟩) ?_⟩
 .refine Calls.mono (I7.Ar k w (λv w'=>v=true/\w=w') ⟨?_,rfl⟩) ?_
  .have h1:decide ((k:Int)>=1)=true:=dm I
   have h2:decide ((k:Int)<=8)=true:=dm I;rw[h1,h2];rfl
  .rintro _ _ ⟨_,rfl,rfl,rfl⟩
   exact⟨_,rfl,f _ _ ⟨rfl,rfl⟩⟩
 rintro _ _ ⟨rfl,rfl⟩;have c:=Src.sub hs hc (lo:=a) (hi:=a+k) I I;rw[show a+k-a=k from I]at c;have c:Src 1 w ⟨aM s.a 1 a s.cap,k,s.cap-a⟩ (aG ((l.drop a).take k)):=by
  simpa[aG,oR,mH] using c
 obtain⟨m,e⟩:∃m,m=(l.drop a).take k:=⟨_,rfl⟩;have z:m.length=k:=by rw[e];simp;omega
 rw[←e]at c⊢;refine⟨λh=>by simp at h,λ_=>⟨λn i w'=>w=w'/\∃j:Nat,i=j/\j<=k/\n=((iV (m.take j):Nat):Int),λ_ i _=>((k:Int)-i).toNat,⟨rfl,0,rfl,cE _,rfl⟩,?_⟩⟩;rintro _ _ _ ⟨rfl,j,rfl,B,rfl⟩;refine⟨λaJ=>?_,λd=>?_⟩
 .have aJ:((j:Int)<(k:Int)):=b1 aJ
  have aJ:j<k:=by omega
  obtain⟨A,aq,g,o⟩:=c.at (oe (l:=m) (i:=j) I);have h1:=m4 j (m.take j) (by simp;omega);have h2:256^j<=256^7:=sm I I;have h2:256^j<=72057594037927936:=h2;have p:(m[j]).toNat<256:=oU _;have r:((iV (m.take j):Nat):Int)*2^(min (Int.toNat 8) 64)=((iV (m.take j)*256:Nat):Int):=by
   show((iV (m.take j):Nat):Int)*256=_;omega
  refine⟨A,aq,g,_,o,by decide,?_⟩;rw[r,gO (n:=((iV (m.take j)*256:Nat):Int)) I I,gO (n:=((m[j].toNat:Nat):Int)) I I,E_ (by show _<18446744073709551616;omega) (by show _<18446744073709551616;omega),Fa _ _ p,bu (n:=(j:Int)+1) I I];refine⟨⟨rfl,j+1,I,I,?_⟩,?_⟩
  .rw[take_succ m I,xy]
  .show((k:Int)-((j:Int)+1)).toNat<((k:Int)-(j:Int)).toNat
   omega
 .have d:¬((j:Int)<(k:Int)):=cp d
  have d:j=k:=by omega
  subst d;exact⟨by rw[dD I],rfl⟩
theorem xz{w:J}{s:Y}{l:O UInt8}(h:Src 1 w s (aG l))(g:l.length<=1000000):
 aN aj 135 #[s] w (λv w'=>∃b:Y,v=b/\a8 1 5 w' b (aG l)/\Ext w w'/\∀k,az b k->w.heap.size<=k):=by
 have i:s.len=l.length:=by have:=h.len;rw[ej]at this;omega
 refine okF (I7.nP s) I6.nP func135 ?_;delta I7.nP ai U;refine⟨λc=>?_,λ_=>?_⟩
 .have c:s.a=none:=by simpa using c
  rw[h.nil c];exact⟨⟨none,0,0⟩,rfl,a8.none _ _ _,.refl _ _,λk d=>(gf k d).elim⟩
 .obtain⟨b,w',h1,h2,j,e,f,_⟩:=oh.clone (cG:=48) h (kZ l) I
  exact aS ⟨b,w',h1,b,rfl,h2,e,f⟩
theorem Fb{w:J}{s:Y}{l:O UInt8}(c:UInt8)(b:a8 1 5 w s (aG l))(g:l.length<=1000000):
 ∃ (a:Y) (w':J),Sem.run aj (Builtin.append_ #[48,48] 48 #[s,.slice (some w.heap.size) 1 1]) (w.alloc (.cells #[.int .u8 (c.toNat:Int)] 5))=.ok a w'/\
  a8 1 5 w' a (aG (l++ [c]))/\ad (az s) w w'/\(∀k,az a k->az s k\/w.heap.size<=k):=by
 have h:s.len=l.length:=by have:=b.1;rw[ej]at this;omega
 obtain⟨a,w',h1,h2,i,d,e⟩:=oh.push (cG:=48) (w:=w) (s:=s) (xs:=[.int .u8 (c.toNat:Int)]) rfl b (λv f=>by rw[fh.1 f];trivial) I;exact⟨a,w',h1,by rw[og];exact h2,d,e⟩
def b3(n k:Nat):O UInt8:=(List.range k).map λj=>UInt8.ofNat (n/256^(k-1-j)%256)
theorem eZ(n k:Nat):(b3 n k).length=k:=by simp[b3]
theorem ib{s:Y}{l:O UInt8}{w:J}(hs:Src 1 w s (aG l))(C:l.length<=100000){n k:Nat}(f:n<2^64)(D:1<=k/\k<=8):
 aN aj 126 #[s,.int .u64 n,k] w (λv w'=>∃a:Y,v=a/\a8 1 5 w' a (aG (l++b3 n k))/\Ext w w'/\∀q,az a q->w.heap.size<=q):=by
 have f:n<18446744073709551616:=f;refine okF (I7.ib s n k) I6.ib func126 ?_;(delta I7.ib aZ aF ai ar U;dsimp only);refine(xz hs I).use ?_;rintro _ w1 ⟨s1,rfl,g,m,o⟩;refine⟨s1,rfl,Calls.mono (I7.Ar k w1 (λv w'=>v=true/\w1=w') ⟨?_,rfl⟩) ?_⟩
 .have h1:decide ((k:Int)>=1)=true:=dm I
  have h2:decide ((k:Int)<=8)=true:=dm I;rw[h1,h2];rfl
 rintro _ _ ⟨_,rfl,rfl,rfl⟩;rw[bu (n:=(k:Int)-1) I I];refine⟨_,rfl,λh=>by simp at h,λ_=>⟨λt i w'=>∃j:Nat,i=(k:Int)-1-j/\j<=k/\Ext w w'/\(∀q,az t q->w.heap.size<=q)/\a8 1 5 w' t (aG (l++(b3 n k).take j)),λ_ i _=>(i+1).toNat,⟨0,I,I,m,o,by simpa using g⟩,?_⟩⟩;rintro t _ ag ⟨j,rfl,E,b,c,d⟩;refine⟨λaJ=>?_,λe=>?_⟩
 .have aJ:j<k:=by have:=b1 aJ;omega
  rw[bu (n:=8*((k:Int)-1-j)) I I,bu (n:=(k:Int)-1-j-1) I I];have p:IntKind.wrap .u8 (Int.fdiv (n:Int) (2^(min (Int.toNat (8*((k:Int)-1-j))) 64)))=((((UInt8.ofNat (n/256^(k-1-j)%256)).toNat:Nat)):Int):=by
   rw[vk (g6 _ I),show min (Int.toNat (8*((k:Int)-1-j))) 64=8*(k-1-j) from I,DW];have r:((2:Int)^(8*(k-1-j)))=((256^(k-1-j):Nat):Int):=by
    rw[Int.pow_mul];simp
   rw[r,Int.fdiv_eq_ediv_of_nonneg _ (Int.natCast_nonneg _)];generalize 256^(k-1-j)=z;rfl
  rw[p];obtain⟨u,x,h1,h2,y,A⟩:=Fb (UInt8.ofNat (n/256^(k-1-j)%256)) d (by simp[b3];omega);refine⟨I,aS ⟨u,x,h1,⟨j+1,I,I,Ext.dr b y c,λq B=>?_,?_⟩,?_⟩⟩
  .rcases A q B with h|h
   .exact c q h
   .exact ew b.size h
  .rw[take_succ _ (by rw[eZ];exact aJ),←cM]
   have:(b3 n k)[j]'(by rw[eZ];exact aJ)=UInt8.ofNat (n/256^(k-1-j)%256):=by simp[b3]
   rw[this];exact h2
  .show((k:Int)-1-j-1+1).toNat<((k:Int)-1-j+1).toNat
   omega
 .have e:j=k:=by have:=cp e;omega
  subst e;rw[dD (by rw[eZ];exact bn _)]at d;exact⟨t,rfl,d,b,c⟩
theorem Fc(n k:Nat):b3 n (k+1)=b3 (n/256) k++ [UInt8.ofNat (n%256)]:=by
 unfold b3;rw[List.range_succ,fV]
 congr 1
 .apply List.map_congr_left
  intro j a;have:=jq.1 a;rw[show k+1-1-j=(k-1-j)+1 from I,Nat.pow_succ,Nat.mul_comm,←Nat.div_div_eq_div_mul]
 .simp
theorem xA:∀ (k n:Nat),n<256^k->iV (b3 n k)=n
 |0,n,h=>by
  have:n=0:=by simpa using h
  subst this;rfl
 |k+1,n,h=>by
  rw[Nat.pow_succ]at h
  rw[Fc,xy,xA k (n/256) I,vk (g6 _ I)]
  omega
def cC(n:aB):Prop:=gQ n\/vf n
def m5(l:Key):O UInt8:=UInt8.ofNat l.length::l
def gP(n:aB)(i:Nat):O UInt8:=m5 (n.keys.getD i [])++if n.leaf then m5 (n.vals.getD i []) else b3 (n.kids.getD (i+1) 0) 2
def hL(n:aB)(i m:Nat):O UInt8:=((List.range' i m).map (gP n)).flatten
theorem Fe(n:aB)(i m:Nat):hL n i (m+1)=gP n i++hL n (i+1) m:=rfl
theorem xB(n:aB)(m:Nat):hL n 0 (m+1)=hL n 0 m++gP n m:=by
 unfold hL;rw[List.range'_concat,fV,sn];simp
def preB(n:aB):O UInt8:=UInt8.ofNat n.keys.length::if n.leaf then [] else b3 (n.kids.getD 0 0) 2
def jj(n:aB):O UInt8:=preB n++hL n 0 n.keys.length
theorem m6(l:Key):(m5 l).length=l.length+1:=rfl
theorem cC.keys{n:aB}(h:cC n):ve n:=by
 rcases h with h|h
 .exact h.tove
 .exact h.tove
theorem cC.vals{n:aB}(h:cC n):∀v∈n.vals,v.length<=24:=by
 rcases h with h|h
 .exact h.vals
 .rw[h.vals];simp
theorem cC.kids{n:aB}(h:cC n):∀k∈n.kids,k<1600:=by
 rcases h with h|h
 .rw[h.kids];simp
 .exact h.kids
theorem vl{α:Type}{l:O α}{i:Nat}{d:α}(h:i<l.length):l.getD i d∈l:=by
 rw[ft,du h];exact cA h
theorem xC{n:aB}(h:cC n){i:Nat}(hi:i<n.keys.length):(cellsOf n)[i]? =some (gP n i).length:=by
 unfold cellsOf gP;rcases h with h|h
 .rw[h.leaf]
  simp only[if_true];have a:i<n.vals.length:=by rw[h.len];exact hi
  rw[List.getElem?_zipWith,du hi,du a];simp[ft,du hi,du a,m6];omega
 .rw[h.inner]
  simp only[fL,if_false];rw[lg,du hi];simp[ft,du hi,m6,eZ];omega
theorem pY{n:aB}(h:cC n):(cellsOf n).length=n.keys.length:=by
 unfold cellsOf;rcases h with h|h
 .rw[h.leaf];simp[h.len]
 .rw[h.inner];simp
theorem xD{n:aB}(h:cC n):∀m,m<=n.keys.length->(hL n 0 m).length=((cellsOf n).take m).sum
 |0,_=>by simp[hL]
 |m+1,b=>by
  have a:m<(cellsOf n).length:=by rw[pY h];omega
  have h1:=xC h (i:=m) I
  rw[du a]at h1
  have h1:(cellsOf n)[m]=(gP n m).length:=Option.some.inj h1
  rw[xB,ct,xD h m I,pU a,h1]
theorem xE{n:aB}(h:cC n):(jj n).length=bF n:=by
 have e:((cellsOf n).take n.keys.length).sum=(cellsOf n).sum:=by rw[dD (by rw[pY h];exact bn _)]
 unfold jj bF preB;rw[ct,xD h _ (bn _),e]
 cases n.leaf<;>simp[eZ]
theorem vm{n:aB}(h:cC n):2*n.keys.length<=bF n:=by
 have h1:∀l:O Nat,(∀x∈l,2<=x)->2*l.length<=l.sum:=by
  intro l
  induction l with
  |nil=>simp
  |cons a l c=>
   intro h;have:=h a (by simp);have:=c λx hx=>h x (by simp[hx]);simp only[e1,qz];omega
 have h2:=h1 (cellsOf n) (by
  intro x hx;obtain⟨i,hi,rfl⟩:=fb hx;have d:i<n.keys.length:=by rwa[←pY h]
  have b:=xC h d;rw[du hi]at b;rw[Option.some.inj b];unfold gP;rw[ct,m6];split
  .rw[m6];omega
  .rw[eZ];omega)
 rw[pY h]at h2;unfold bF;omega
abbrev Rd:=O UInt8×ah
def hM(r:Rd)(k:Nat):O UInt8×Rd:=if r.2=false\/r.1.length<k then ([],(r.1,false)) else (r.1.take k,(r.1.drop k,true))
def rdNum(r:Rd)(k:Nat):Nat×Rd:=(if (hM r k).1.length=k then iV (hM r k).1 else 0,(hM r k).2)
def jB(r:Rd):O UInt8×Rd:=hM (rdNum r 1).2 (rdNum r 1).1
def om(s:aB×Rd):aB×Rd:=
 let t:=jB s.2
 if s.1.leaf then (⟨s.1.leaf,s.1.keys++ [t.1],s.1.vals++ [(jB t.2).1],s.1.kids⟩,(jB t.2).2)
 else (⟨s.1.leaf,s.1.keys++ [t.1],s.1.vals,s.1.kids++ [(rdNum t.2 2).1]⟩,(rdNum t.2 2).2)
def ie(s:aB×Rd):Nat->aB×Rd
 |0=>s
 |i+1=>om (ie s i)
def mb(leaf:ah)(r:Rd):aB×Rd:=if leaf then (⟨true,[],[],[]⟩,r) else (⟨false,[],[],[(rdNum r 2).1]⟩,(rdNum r 2).2)
def iE(leaf:ah)(b:O UInt8):aB×Rd:=ie (mb leaf (rdNum (b,true) 1).2) (rdNum (b,true) 1).1
def lD(leaf:ah)(b:O UInt8)(n:aB):Prop:=cC n/\n.leaf=leaf/\bF n<=232/\jj n=b
theorem AL(a b:O UInt8):hM (a++b,true) a.length=(a,(b,true)):=by
 unfold hM;rw[if_neg (by simp)];simp
theorem vn{n k:Nat}(b:O UInt8)(h:n<256^k):rdNum (b3 n k++b,true) k=(n,(b,true)):=by
 unfold rdNum;have:=AL (b3 n k) b;rw[eZ]at this;rw[this];simp[eZ,xA k n h]
theorem AM(n:Nat)(h:n<256): [UInt8.ofNat n]=b3 n 1:=by
 simp[b3,jv h]
theorem xF(l:Key)(b:O UInt8)(h:l.length<256):jB (m5 l++b,true)=(l,(b,true)):=by
 have e:m5 l++b=b3 l.length 1++(l++b):=by
  rw[←AM _ h];rfl
 unfold jB;rw[e,vn _ (by simpa using h)];exact AL l b
theorem Fg{n:aB}(h:cC n){i:Nat}(hi:i<n.keys.length)(b:O UInt8):
 om (⟨n.leaf,n.keys.take i,n.vals.take i,if n.leaf then [] else n.kids.take (i+1)⟩,(gP n i++b,true))=
  (⟨n.leaf,n.keys.take (i+1),n.vals.take (i+1),if n.leaf then [] else n.kids.take (i+2)⟩,(b,true)):=by
 have e:n.keys.getD i []∈n.keys:=vl hi;have f:=(h.keys.ok _ e).2;have d:n.keys.take (i+1)=n.keys.take i++ [n.keys.getD i []]:=by
  rw[take_succ _ hi,ft,du hi];rfl
 unfold om;unfold gP;rcases h with h|h
 .have a:i<n.vals.length:=by rw[h.len];exact hi
  have c:n.vals.getD i []∈n.vals:=vl a;have ev:n.vals.take (i+1)=n.vals.take i++ [n.vals.getD i []]:=by
   rw[take_succ _ a,ft,du a];rfl
  simp only[h.leaf,if_true];rw[cM,xF _ _ I];simp only;rw[xF _ _ (by have:=h.vals _ c;omega),d,ev]
 .have a:i+1<n.kids.length:=by rw[h.len];omega
  have c:n.kids.getD (i+1) 0∈n.kids:=vl a;have ev:n.kids.take (i+2)=n.kids.take (i+1)++ [n.kids.getD (i+1) 0]:=by
   rw[take_succ _ a,ft,du a];rfl
  simp only[h.inner,fL,if_false,h.vals];rw[cM,xF _ _ I];simp only;rw[vn _ (by have:=h.kids _ c;show _<65536;omega),d,ev];simp
theorem AN{n:aB}(h:cC n):∀i,i<=n.keys.length->
 ie (⟨n.leaf,[],[],if n.leaf then [] else n.kids.take 1⟩,(hL n 0 n.keys.length,true)) i=(⟨n.leaf,n.keys.take i,n.vals.take i,if n.leaf then [] else n.kids.take (i+1)⟩,(hL n i (n.keys.length-i),true))
 |0,_=>by simp[ie]
 |i+1,hi=>by
  rw[ie,AN h i I,show n.keys.length-i=n.keys.length-(i+1)+1 from I,Fe]
  exact Fg h I _
theorem xG{n:aB}(h:cC n)(g:bF n<=232):iE n.leaf (jj n)=(n,([],true)):=by
 have i:=vm h;unfold iE;have b:rdNum (jj n,true) 1=(n.keys.length,((if n.leaf then [] else b3 (n.kids.getD 0 0) 2)++hL n 0 n.keys.length,true)):=by
  have:jj n=b3 n.keys.length 1++((if n.leaf then [] else b3 (n.kids.getD 0 0) 2)++hL n 0 n.keys.length):=by
   rw[←AM _ I];rfl
  rw[this,vn _ (by show _<256;omega)]
 rw[b];simp only;have c:mb n.leaf ((if n.leaf then [] else b3 (n.kids.getD 0 0) 2)++hL n 0 n.keys.length,true)=(⟨n.leaf,[],[],if n.leaf then [] else n.kids.take 1⟩,(hL n 0 n.keys.length,true)):=by
  unfold mb;rcases h with h|h
  .simp[h.leaf]
  .have hd:0<n.kids.length:=by rw[h.len];omega
   have d:n.kids.getD 0 0∈n.kids:=vl hd;have:=h.kids _ d;simp only[h.inner,fL,if_false];rw[vn _ (by show _<65536;omega)]
   cases e:n.kids with
   |nil=>rw[e]at hd;simp at hd
   |cons a l=>simp
 rw[c,AN h _ (bn _)];have f:hL n n.keys.length (n.keys.length-n.keys.length)=[]:=by rw[nt];rfl
 rw[f,dD (bn _)];rcases h with h|h
 .rw[dD (by rw[h.len];exact bn _)]
  have:=h.kids;have:=h.leaf
  cases n
  simp_all
 .rw[dD (by rw[h.vals];simp),dD (by rw[h.len];exact bn _)]
  have:=h.inner
  cases n
  simp_all
theorem lD.uniq{leaf:ah}{b:O UInt8}{n m:aB}(h1:lD leaf b n)(h2:lD leaf b m):n=m:=by
 obtain⟨a1,a2,a3,a4⟩:=h1;obtain⟨b5,bM,d,e⟩:=h2;have a:=xG a1 a3;have c:=xG b5 d;rw[a2,a4]at a;rw[bM,e,a]at c;exact congrArg Prod.fst c
def rD(n:Nat):Nat:=if n%2=1 then (n/2)^^^0x82f63b78 else n/2
def vo:Nat->Nat->Nat
 |0,n=>n
 |k+1,n=>rD (vo k n)
def AO(n:Nat)(c:UInt8):Nat:=vo 8 (n^^^c.toNat)
def k0(n:Nat)(l:O UInt8):Nat:=l.foldl AO n
def iF(l:O UInt8):Nat:=4294967295-k0 4294967295 l
theorem Fh{n:Nat}(h:n<4294967296):rD n<4294967296:=by
 unfold rD;split
 .exact Nat.xor_lt_two_pow (n:=32) (by show _<4294967296;omega) (by decide)
 .omega
theorem xH{n:Nat}(h:n<4294967296):∀k,vo k n<4294967296
 |0=>h
 |k+1=>Fh (xH h k)
theorem Fi{n:Nat}(h:n<4294967296)(c:UInt8):AO n c<4294967296:=
 xH (Nat.xor_lt_two_pow (n:=32) h (by have:=oU c;show _<4294967296;omega)) 8
theorem vp:∀ (l:O UInt8) {n:Nat},n<4294967296->k0 n l<4294967296
 | [],_,h=>h
 |c::l,_,h=>vp l (Fi h c)
theorem AP(n:Nat)(a b:O UInt8):k0 n (a++b)=k0 (k0 n a) b:=by simp[k0,List.foldl_append]
theorem xI(l:O UInt8):iF l<4294967296:=by unfold iF;omega
structure ig where
 kind:Nat
 gen:Nat
 body:O UInt8
 deriving DecidableEq
structure m7(p:ig):Prop where
 bA:1<=p.kind
 bO:p.kind<=4
 gen:p.gen<18446744073709551616
 body:p.body.length<=232
def gJ:O UInt8:=[83,84,78,67]
def e6(no:Nat)(p:ig):O UInt8:=gJ++([1,UInt8.ofNat p.kind]++(b3 p.body.length 2++(b3 no 4++b3 p.gen 8)))
def fe(p:ig):O UInt8:=p.body++List.replicate (232-p.body.length) 0
def ez(no:Nat)(p:ig):O UInt8:=e6 no p++(b3 (iF (e6 no p++fe p)) 4++fe p)
theorem m8(no:Nat)(p:ig):(e6 no p).length=20:=by simp[e6,gJ,eZ]
theorem vq{p:ig}(h:m7 p):(fe p).length=232:=by
 have:=h.body;simp[fe];omega
theorem rE{p:ig}(no:Nat)(h:m7 p):(ez no p).length=256:=by simp[ez,m8,eZ,vq h]
def sumOf(l:O UInt8):Nat:=iF (l.take 20++l.drop 24)
def c_(l:O UInt8)(a k:Nat):Nat:=iV ((l.drop a).take k)
def dI(no:Int)(l:O UInt8):Except Int ig:=
 if l.length≠256 then .error 9
 else if l.take 4≠gJ then .error 4
 else if l.getD 4 0≠1 then .error 12
 else if sumOf l≠c_ l 20 4 then .error 5
 else if¬(1<=(l.getD 5 0).toNat/\(l.getD 5 0).toNat<=4)\/232<c_ l 6 2\/(l.drop (24+c_ l 6 2)).all (λc=>c==0)=false then .error 4
 else if¬(0<=no/\no<1600)\/(c_ l 8 4:Int)≠no then .error 1
 else .ok ⟨(l.getD 5 0).toNat,c_ l 12 8,(l.drop 24).take (c_ l 6 2)⟩
theorem drop_left'{α:Type}{a b:O α}{n:Nat}(h:a.length=n):(a++b).drop n=b:=by subst h;exact List.drop_left
theorem mc{α:Type}{a b:O α}{n:Nat}(h:a.length=n):(a++b).take n=a:=by subst h;exact List.take_left
theorem rF{a b:O UInt8}{n k m:Nat}(c:a.length=m)(h:n<256^k):c_ (a++(b3 n k++b)) m k=n:=by
 unfold c_;rw[drop_left' c,mc (eZ n k),xA k n h]
theorem vr{no:Nat}{p:ig}(o:no<1600)(h:m7 p):dI no (ez no p)=.ok p:=by
 have q:=h.body;have e:=h.bA;have f:=h.bO;have hg:=h.gen;have ht:=vq h;have b:=m8 no p;have hc:=xI (e6 no p++fe p);have bR:c_ (ez no p) 20 4=iF (e6 no p++fe p):=rF b (by show _<4294967296;exact hc);have a:ez no p=(gJ++ [1,UInt8.ofNat p.kind])++(b3 p.body.length 2++((b3 no 4++b3 p.gen 8)++(b3 (iF (e6 no p++fe p)) 4++fe p))):=by
  show e6 no p++_=_;rw[show e6 no p=(gJ++ [1,UInt8.ofNat p.kind])++(b3 p.body.length 2++(b3 no 4++b3 p.gen 8)) by simp[e6]];simp only[cM]
 have bq:c_ (ez no p) 6 2=p.body.length:=by rw[a];exact rF rfl (by show _<65536;omega)
 have g:ez no p=((gJ++ [1,UInt8.ofNat p.kind])++b3 p.body.length 2)++(b3 no 4++(b3 p.gen 8++(b3 (iF (e6 no p++fe p)) 4++fe p))):=by rw[a];simp only[cM]
 have i:c_ (ez no p) 8 4=no:=by rw[g];exact rF (by simp[gJ,eZ]) (by show _<4294967296;omega)
 have j:ez no p=((gJ++ [1,UInt8.ofNat p.kind])++(b3 p.body.length 2++b3 no 4))++(b3 p.gen 8++(b3 (iF (e6 no p++fe p)) 4++fe p)):=by rw[a];simp only[cM]
 have k:c_ (ez no p) 12 8=p.gen:=by rw[j];exact rF (by simp[gJ,eZ]) (by show _<18446744073709551616;exact hg)
 have l:ez no p=(e6 no p++b3 (iF (e6 no p++fe p)) 4)++fe p:=by simp[ez]
 have m:(e6 no p++b3 (iF (e6 no p++fe p)) 4).length=24:=by simp[b,eZ]
 have d24:(ez no p).drop 24=fe p:=by rw[l];exact drop_left' m
 have t4:(ez no p).take 4=gJ:=by rw[a];rfl
 have n:(ez no p).getD 4 0=1:=by rw[a];rfl
 have d:((ez no p).getD 5 0).toNat=p.kind:=by rw[a];show(UInt8.ofNat p.kind).toNat=p.kind;exact vk I
 have s:sumOf (ez no p)=iF (e6 no p++fe p):=by
  unfold sumOf;rw[d24,show(ez no p).take 20=e6 no p from mc b]
 unfold dI;rw[if_neg (by rw[rE no h];simp),if_neg (by rw[t4];simp),if_neg (by rw[n];simp),if_neg (by rw[s,bR];simp),if_neg (by
  rw[d,bq];rintro(h1|h1|h1)
  .exact h1 ⟨e,f⟩
  .omega
  .rw[List.all_eq_false]at h1
   obtain⟨c,hc,h1⟩:=h1;rw[←qA,d24]at hc;unfold fe at hc;rw[List.drop_left]at hc;exact h1 (by rw[so hc];rfl)),if_neg (by rw[i];rintro(h1|h1)<;>omega),d,bq,k,d24]
 have:(fe p).take p.body.length=p.body:=by unfold fe;exact List.take_left
 rw[this]
def hO(s:Y):aa:=s
abbrev gR(w:J)(s:Y):Prop:=∀k,az s k->w.heap.size<=k
theorem gR.mono{w w':J}{s:Y}(h:gR w' s)(hx:w.heap.size<=w'.heap.size):gR w s:=λk a=>ew hx (h k a)
theorem len8{w:J}{s:Y}{l:O UInt8}(h:Src 1 w s (aG l)):s.len=l.length:=by have:=h.len;rw[ej]at this;omega
theorem me{w:J}{T:TypeId}{s:Y}{l:O UInt8}(h:a8 1 T w s (aG l)):s.len=l.length:=by have:=h.1;rw[ej]at this;omega
theorem m9{w:J}{s:Y}{l:O UInt8}{lo hi:Nat}(h:Src 1 w s (aG l))(hc:s.len<=s.cap)(h1:lo<=hi)(h2:hi<=s.len):Src 1 w ⟨aM s.a 1 lo s.cap,hi-lo,s.cap-lo⟩ (aG ((l.drop lo).take (hi-lo))):=by
 have:=Src.sub h hc h1 h2;simpa[aG,oR,mH] using this
def eJ(ps:O (Y×O UInt8)):O UInt8:=(ps.map (·.2)).flatten
theorem AQ(a:O (Y×O UInt8))(p:Y×O UInt8):eJ (a++ [p])=eJ a++p.2:=by simp[eJ]
theorem Fj(ps:O (Y×O UInt8))(j:Nat):(eJ (ps.take j)).length<=(eJ ps).length:=by
 have h:ps=ps.take j++ps.drop j:=(hZ j ps).symm;have:(eJ ps).length=(eJ (ps.take j)).length+(eJ (ps.drop j)).length:=by
  conv=>lhs;rw[h]
  unfold eJ;rw[fV,sn,ct]
 omega
theorem AR(ps:O (Y×O UInt8)){j:Nat}(a:j<ps.length):(ps[j]).2.length<=(eJ ps).length:=by
 have h:ps=ps.take j++ps[j]::ps.drop (j+1):=by rw[←jr a,hZ]
 have:(eJ ps).length=(eJ (ps.take j)).length+((ps[j]).2.length+(eJ (ps.drop (j+1))).length):=by
  conv=>lhs;rw[h]
  unfold eJ;rw[fV,sn,ct,jd,sq,ct]
 omega
theorem vt{s:Y}{w:J}(ps:O (Y×O UInt8))(hs:Src 1 w s (ps.map λp=>hO p.1))(f:∀p∈ps,Src 1 w p.1 (aG p.2))(t:(eJ ps).length<=100000)(u:ps.length<=100000):
 aN aj 92 #[s] w (λv w'=>∃a:Y,v=a/\a8 1 5 w' a (aG (eJ ps))/\Ext w w'/\gR w a):=by
 refine okF (I7.uc s) I6.uc func92 ?_;(delta I7.uc ai aK af ar;dsimp only);have x:s.len=ps.length:=by have:=hs.len;rw[dN]at this;omega
 refine⟨λa i w'=>∃j:Nat,i=j/\j<=ps.length/\a8 1 5 w' a (aG (eJ (ps.take j)))/\Ext w w'/\gR w a,λ_ i _=>((ps.length:Int)-i).toNat,⟨0,rfl,cE _,a8.none 1 5 _,.refl _ _,λk c=>(gf k c).elim⟩,?_⟩;rintro a _ w1 ⟨j,rfl,y,b,hx,hf⟩;refine⟨λaJ=>?_,λd=>?_⟩
 .have aJ:j<ps.length:=by have:=b1 aJ;omega
  obtain⟨A,aq,g,l⟩:=(hs.ext hx).at (i:=j) (v:=hO (ps[j]).1) (by simp[aJ]);have e:=(f _ (cA aJ)).ext hx;have h1:=AR ps aJ;have h2:=Fj ps j;have m:=len8 e;have o:=me b;obtain⟨s2,ag,au,aw,z,q,r⟩:=oh.append (cG:=48) e b (kZ _) (by rw[m,o];omega);rw[bu (n:=(j:Int)+1) I I];refine⟨A,aq,g,(ps[j]).1,l,s2,ag,au,⟨j+1,I,I,?_,Ext.dr hx q hf,λk c=>?_⟩,?_⟩
  .rw[take_succ _ aJ]
   rw[AQ,og];exact aw
  .rcases r k c with h|h
   .exact hf k h
   .exact ew hx.size h
  .show((ps.length:Int)-((j:Int)+1)).toNat<((ps.length:Int)-(j:Int)).toNat
   omega
 .have d:j=ps.length:=by have:=cp d;omega
  subst d;rw[ir]at b;exact⟨a,rfl,b,hx,hf⟩
theorem Fk{s:Y}{l:O UInt8}{w:J}(hs:Src 1 w s (aG l))(hc:s.len<=s.cap){a k:Nat}(b:a+k<=l.length)(c:l.length<=1000000000000):
 aN aj 215 #[s,a,k] w (λv w'=>v=.tuple #[.slice (aM s.a 1 a s.cap) k (s.cap-a),true]/\w=w'):=by
 have d:=len8 hs;refine okF (I7.kW s a k) I6.kW func215 ?_;delta I7.kW ai ar;rw[bu (n:=(s.len:Int)-(a:Int)) I I,bu (n:=(a:Int)+(k:Int)) I I];refine⟨λh=>?_,λ_=>⟨⟨I,I⟩,⟨I,I⟩,?_,rfl⟩⟩
 .simp only[jc,cQ]at h;omega
 .rw[show Int.toNat ((a:Int)+(k:Int))-Int.toNat (a:Int)=k from I];rfl
theorem Fl{s:Y}{l:O UInt8}{w:J}(hs:Src 1 w s (aG l)){a k:Nat}(b:l.length<a+k)(c:a<=l.length)(d:l.length<=1000000000000)(f:k<=1000000000000):
 aN aj 215 #[s,a,k] w (λv w'=>v=.tuple #[(),false]/\w=w'):=by
 have g:=len8 hs;refine okF (I7.kW s a k) I6.kW func215 ?_;delta I7.kW ai ar;rw[bu (n:=(s.len:Int)-(a:Int)) I I,bu (n:=(a:Int)+(k:Int)) I I];have e:(((decide ((a:Int)<0))||(decide ((k:Int)<0)))||(decide ((a:Int)>(s.len:Int)))||(decide ((k:Int)>((s.len:Int)-(a:Int)))))=true:=by
  simp only[jc,cQ];omega
 exact⟨λ_=>⟨rfl,rfl⟩,λh=>(by rw[e]at h;cases h)⟩
theorem pJ{s:Y}{l:O UInt8}{w:J}(hs:Src 1 w s (aG l))(hc:s.len<=s.cap){a k:Nat}(d:a+k<=l.length)(f:l.length<=100000):
 aN aj 229 #[s,a,k] w (λv w'=>∃b:Y,v=.tuple #[b,true]/\a8 1 5 w' b (aG ((l.drop a).take k))/\Ext w w'/\gR w b):=by
 have g:=len8 hs;refine okF (I7.pJ s a k) I6.pJ func229 ?_;(delta I7.pJ ji aZ;dsimp only);refine(Fk hs hc d I).use ?_;rintro _ _ ⟨rfl,rfl⟩;have c:=m9 hs hc (lo:=a) (hi:=a+k) I I;rw[show a+k-a=k from I]at c;refine⟨⟨aM s.a 1 a s.cap,k,s.cap-a⟩,true,rfl,(xz c (by simp;omega)).use ?_⟩;rintro _ w1 ⟨b,rfl,e,hx,hf⟩;exact⟨b,rfl,b,rfl,e,hx,hf⟩
theorem Fm{s:Y}{l:O UInt8}{w:J}(hs:Src 1 w s (aG l)){k:Nat}(d:k<=8)(e:l.length<k):
 aN aj 156 #[s,.int .i64 (0:Nat),k] w (λv w'=>v=.tuple #[.int .u64 0,false]/\w=w'):=by
 refine okF (I7.kV s (0:Nat) k) I6.kV func156 ?_;(delta I7.kV ji ai aF aK bY ar;dsimp only);refine(Fl hs (a:=0) I I I I).use ?_;rintro _ _ ⟨rfl,rfl⟩;refine⟨⟨none,0,0⟩,false,rfl,cj (λb w'=>b=true/\w=w') (λq c=>⟨λ_=>c _ _ ⟨rfl,rfl⟩,λh=>by simp at h⟩) ?_⟩;rintro _ _ ⟨rfl,rfl⟩;exact⟨λ_=>⟨rfl,rfl⟩,λh=>by simp at h⟩
theorem vu{a:Nat}(b:a<4294967296):(BitVec.ofInt 32 (a:Int))=BitVec.ofNat 32 a:=by simp
theorem vv{a b:Nat}(c:a<4294967296)(d:b<4294967296):nC .u32 (a:Int) (b:Int)=((a^^^b:Nat):Int):=by
 unfold nC;show IntKind.u32.wrap (((BitVec.ofInt 32 (a:Int)^^^BitVec.ofInt 32 (b:Int)).toNat:Nat):Int)=_;rw[vu c,vu d,BitVec.toNat_xor,BitVec.toNat_ofNat,BitVec.toNat_ofNat,jv (by simpa using c),jv (by simpa using d)];have:a^^^b<4294967296:=Nat.xor_lt_two_pow (n:=32) c d;rw[wT I I]
theorem Fo{a b:Nat}(c:a<4294967296)(d:b<4294967296):jU .u32 (a:Int) (b:Int)=((a&&&b:Nat):Int):=by
 unfold jU;show IntKind.u32.wrap (((BitVec.ofInt 32 (a:Int)&&&BitVec.ofInt 32 (b:Int)).toNat:Nat):Int)=_;rw[vu c,vu d,BitVec.toNat_and,BitVec.toNat_ofNat,BitVec.toNat_ofNat,jv (by simpa using c),jv (by simpa using d)];have:a&&&b<=a:=Nat.and_le_left;rw[wT I I]
theorem Fp{n:Nat}(b:n<4294967296):
 nC .u32 (Int.fdiv (n:Int) (2^(min (Int.toNat 1) 32))) (jU .u32 2197175160 (IntKind.wrap .u32 (0-(jU .u32 (n:Int) 1))))=((rD n:Nat):Int):=by
 have c:jU .u32 (n:Int) 1=((n%2:Nat):Int):=by
  have:=Fo b (show 1<4294967296 from I);rw[Nat.and_one_is_mod]at this;exact this
 have d:Int.fdiv (n:Int) (2^(min (Int.toNat 1) 32))=((n/2:Nat):Int):=by
  rw[Int.fdiv_eq_ediv_of_nonneg _ (by decide)];rfl
 rw[c,d];unfold rD;rcases Nat.mod_two_eq_zero_or_one n with h|h
 .rw[h,if_neg I]
  have a:jU .u32 2197175160 (IntKind.wrap .u32 (0-((0:Nat):Int)))=((0:Nat):Int):=by decide+kernel
  rw[a,vv I I,Nat.xor_zero]
 .rw[h,if_pos rfl]
  have a:jU .u32 2197175160 (IntKind.wrap .u32 (0-((1:Nat):Int)))=((2197175160:Nat):Int):=by decide+kernel
  rw[a,vv I I]
theorem pL{s:Y}{l:O UInt8}{w:J}{n:Nat}(hs:Src 1 w s (aG l))(e:n<4294967296)(h:l.length<=1000000):
 aN aj 238 #[.int .u32 n,s] w (λv w'=>v=.int .u32 (k0 n l:Nat)/\w=w'):=by
 have o:=len8 hs;refine okF (I7.pL n s) I6.pL func238 ?_;(delta I7.pL ai aK bY ar;dsimp only);refine⟨λm i w'=>∃j:Nat,i=j/\j<=l.length/\m=((k0 n (l.take j):Nat):Int)/\w=w',λ_ i _=>((l.length:Int)-i).toNat,⟨0,rfl,cE _,rfl,rfl⟩,?_⟩;rintro _ _ _ ⟨j,rfl,p,rfl,rfl⟩;refine⟨λaJ=>?_,λa=>?_⟩
 .have aJ:j<l.length:=by have:=b1 aJ;omega
  obtain⟨A,aq,f,g⟩:=hs.at (oe aJ);have c:=vp (l.take j) e;have hc:=oU (l[j]);have hx:=Nat.xor_lt_two_pow (n:=32) c (show(l[j]).toNat<4294967296 from I);refine⟨A,aq,f,_,g,λm i w'=>∃k:Nat,i=k/\k<=8/\m=((vo k (k0 n (l.take j)^^^(l[j]).toNat):Nat):Int)/\w=w',λ_ i _=>((8:Int)-i).toNat,⟨0,rfl,I,?_,rfl⟩,?_⟩
  .rw[wT I I,vv c I];rfl
  rintro _ _ _ ⟨k,rfl,q,rfl,rfl⟩;refine⟨λd=>?_,λb=>?_⟩
  .have d:k<8:=by have:=b1 d;omega
   rw[Fp (xH hx k),bu (n:=(k:Int)+1) I I];refine⟨by decide,⟨k+1,I,I,rfl,rfl⟩,?_⟩;show((8:Int)-((k:Int)+1)).toNat<((8:Int)-(k:Int)).toNat;omega
  .have b:k=8:=by have:=cp b;omega
   subst b;rw[bu (n:=(j:Int)+1) I I];refine⟨⟨j+1,I,I,?_,rfl⟩,?_⟩
   .rw[take_succ _ aJ,AP];rfl
   .show((l.length:Int)-((j:Int)+1)).toNat<((l.length:Int)-(j:Int)).toNat
    omega
 .have a:j=l.length:=by have:=cp a;omega
  subst a;rw[ir];exact⟨rfl,rfl⟩
theorem Fq{n:Nat}(h:n<4294967296):4294967295^^^n=4294967295-n:=by
 apply Nat.eq_of_testBit_eq;intro i;have h1:(4294967295-n).testBit i=(decide (i<32)&& !n.testBit i):=by
  have:=Nat.testBit_two_pow_sub_succ (n:=32) (x:=n) (by simpa using h) i;rw[←this];congr 1;omega
 have h2:(4294967295:Nat).testBit i=decide (i<32):=by
  have:=Nat.testBit_two_pow_sub_one 32 i;exact this
 rw[Nat.testBit_xor,h1,h2];by_cases hi:i<32
 .simp[hi]
 .have:n.testBit i=false:=by
   apply Nat.testBit_lt_two_pow;exact fN h (sm (n:=2) I (show 32<=i from I))
  simp[hi,this]
theorem Fs{s:Y}{w:J}(ps:O (Y×O UInt8))(hs:Src 1 w s (ps.map λp=>hO p.1))(e:∀p∈ps,Src 1 w p.1 (aG p.2))(h:(eJ ps).length<=100000)(k:ps.length<=100000):
 aN aj 195 #[s] w (λv w'=>v=.int .u32 (iF (eJ ps):Nat)/\w=w'):=by
 refine okF (I7.uF s) I6.uF func195 ?_;(delta I7.uF ai aK af gF ar;dsimp only);have l:s.len=ps.length:=by have:=hs.len;rw[dN]at this;omega
 refine⟨λm i w'=>∃j:Nat,i=j/\j<=ps.length/\m=((k0 4294967295 (eJ (ps.take j)):Nat):Int)/\w=w',λ_ i _=>((ps.length:Int)-i).toNat,⟨0,rfl,cE _,rfl,rfl⟩,?_⟩;rintro _ _ _ ⟨j,rfl,o,rfl,rfl⟩;refine⟨λaJ=>?_,λd=>?_⟩
 .have aJ:j<ps.length:=by have:=b1 aJ;omega
  obtain⟨A,aq,f,g⟩:=hs.at (i:=j) (v:=hO (ps[j]).1) (by simp[aJ]);have c:=vp (eJ (ps.take j)) (n:=4294967295) (by decide);refine⟨A,aq,f,(ps[j]).1,g,(pL (e _ (cA aJ)) c (by have:=AR ps aJ;omega)).use ?_⟩;rintro _ _ ⟨rfl,rfl⟩;rw[bu (n:=(j:Int)+1) I I];refine⟨_,rfl,⟨j+1,I,I,?_,rfl⟩,?_⟩
  .rw[take_succ _ aJ,←AP,AQ]
  .show((ps.length:Int)-((j:Int)+1)).toNat<((ps.length:Int)-(j:Int)).toNat
   omega
 .have d:j=ps.length:=by have:=cp d;omega
  subst d;rw[ir];have c:=vp (eJ ps) (n:=4294967295) (by decide);refine⟨?_,rfl⟩;have:=vv (a:=4294967295) (b:=k0 4294967295 (eJ ps)) (by decide) c;rw[Fq c]at this;exact congrArg _ this
theorem nT{s:Y}{l:O UInt8}{w:J}(hs:Src 1 w s (aG l))(hc:s.len<=s.cap)(e:l.length=256):
 aN aj 134 #[s] w (λv w'=>v=.int .u32 (sumOf l:Nat)/\Ext w w'):=by
 have f:=len8 hs;refine okF (I7.nT s) I6.nT func134 ?_;(delta I7.nT ak gF U;dsimp only);have b:Ext w w.drew:=ad.drew (.refl _ _);refine⟨⟨by decide,I⟩,⟨by decide,I⟩,?_⟩;have h1:=m9 (hs.ext b) hc (lo:=0) (hi:=20) I I;have h2:=m9 (hs.ext b) hc (lo:=24) (hi:=s.len) I I;have c:∀o,Ext w.drew (w.drew.alloc o):=λo=>ad.alloc (.refl _ _) o;refine(Fs [(⟨aM s.a 1 0 s.cap,20-0,s.cap-0⟩,(l.drop 0).take (20-0)),(⟨aM s.a 1 24 s.cap,s.len-24,s.cap-24⟩,(l.drop 24).take (s.len-24))] (s:=⟨some w.drew.heap.size,2,2⟩) (Src.new w.drew _ 2 rfl) ?_ ?_ ?_).use ?_
 .intro p d
  simp only[cS,eS,eW]at d;rcases d with rfl|rfl
  .exact h1.ext (c _)
  .exact h2.ext (c _)
 .simp[eJ];omega
 .simp
 rintro _ w1 ⟨rfl,rfl⟩;refine⟨_,rfl,?_,b.trans (c _)⟩;have:eJ [((⟨aM s.a 1 0 s.cap,20-0,s.cap-0⟩:Y),(l.drop 0).take (20-0)),(⟨aM s.a 1 24 s.cap,s.len-24,s.cap-24⟩,(l.drop 24).take (s.len-24))]=l.take 20++l.drop 24:=by
  simp only[eJ,jd,List.map_nil,sq,List.flatten_nil,fO,lh];rw[dD (l:=l.drop 24) (by rw[c5];omega)]
 rw[this];rfl
theorem a8.Ft{T:TypeId}{w:J}{s:Y}{vs us:O aa}{b o:Nat}(h:a8 1 T w s vs)(d:s.a=some ⟨b,0,none⟩)(n:o+us.length<=s.len):
 a8 1 T (setCells w ⟨b,o,none⟩ 0 us) s (vs.take o++us++vs.drop (o+us.length)):=by
 obtain⟨h1,h2,g,i⟩:=h;rcases i with ⟨j,_⟩|⟨p,c,e,k,f,ht⟩
 .rw[j]at d;cases d
 .rw[d]at e
  cases e;have q:c.toList.length=s.cap:=by simpa using f
  have m:o+us.length<=c.size:=by omega
  rw[fF]at h1 f;refine⟨by simp;omega,h2,g,.inr ⟨b,_,d,bt.jV k us,by rw[iR];omega,?_⟩⟩;rw[fF]at ht⊢;rw[lu _ _ _ m,←ht,qC,je I,cM,cM,List.take_append,List.take_append,cy,je I,
   dD (l:=c.toList.take o) (by rw[cy];omega),dD (l:=us) I,List.drop_take,show s.len-o-us.length=s.len-(o+us.length) from I]
theorem vw(w:J)(l:O UInt8):
 ∃w',Sem.run aj (convert 48 48 (.slice (some w.heap.size) l.length l.length)) (w.alloc (.cells (aG l).toArray 5))=.ok (.slice (some w.heap.size) l.length l.length) w'/\
  Src 1 w' ⟨some w.heap.size,l.length,l.length⟩ (aG l)/\Ext w w'/\w'.heap.size=w.heap.size+1:=by
 refine⟨_,Go.Lib.run_convert_bytes_const (P:=aj) w 48 5 (aG l).toArray l.length l.length (by kernel_rfl) (by kernel_rfl),⟨by rw[ej,fF],(λh=>by cases h),λa b=>?_⟩,ad.alloc (.refl _ _) _,by simp⟩
 cases b;have:=xx (w:=w.alloc (.cells (aG l).toArray 5 ((aG l).toArray.size,(aG l).toArray.size+1))) (A:=w.heap.size) (aG l) 0 (λj v c=>by
  rw[av];show(World.cell? _ _)=_;have:(w.alloc (.cells (aG l).toArray 5 ((aG l).toArray.size,(aG l).toArray.size+1))).heap[w.heap.size]? =some (.cells (aG l).toArray 5 ((aG l).toArray.size,(aG l).toArray.size+1)):=by
   show(w.heap.push _)[w.heap.size]? =_;simp
  simp only[World.cell?,this];simpa using c)
 rw[ej]at this;rw[fF];exact this
theorem xJ(n:Nat):g7 aj 5 n=(aG (List.replicate n 0)).toArray:=by
 rw[z8 (v:=.int .u8 0) (by kernel_rfl) (by kernel_rfl)];simp[aG]
theorem Fu{A Z T C:O UInt8}{n m:Nat}(aq:A.length=n)(a:Z.length=m):(aG (A++(Z++T))).take n++aG C++(aG (A++(Z++T))).drop (n+m)=aG (A++(C++T)):=by
 have b:(aG (A++(Z++T))).take n=aG A:=by rw[og];exact mc (by rw[ej,aq])
 have c:(aG (A++(Z++T))).drop (n+m)=aG T:=by rw[←cM,og];exact drop_left' (by rw[ej,ct,aq,a])
 rw[b,c,og,og,cM]
theorem b4(w:J):Ext w w.drew:=ad.drew (.refl _ _)
theorem eA(w:J)(o:Obj):Ext w (w.alloc o):=ad.alloc (.refl _ _) o
theorem rG(w:J)(o:Obj):(w.alloc o).heap.size=w.heap.size+1:=by simp
theorem vx{s:Y}{p:ig}{no:Nat}{w:J}(hs:Src 1 w s (aG p.body))(a1:no<1600)(i:m7 p):
 aN aj 73 #[no,.agg #[p.kind,.int .u64 p.gen,s]] w (λv w'=>∃E:Y,v=.tuple #[E,(0:Int)]/\a8 1 5 w' E (aG (ez no p))/\Ext w w'/\gR w E):=by
 have a2:=i.bA;have a3:=i.bO;have a4:=i.gen;have a5:=i.body;have N:=len8 hs;refine okF (I7.tS no p.kind p.gen s) I6.tS func73 ?_;(delta I7.tS aF ai r1 U af aZ bl km xa ar xb gF;dsimp only);refine bd (vs:=[p.kind,.int .u64 p.gen,s]) rfl λw1 y F a6=>?_;have aR:∀ {w':J},Ext w1 w'->w'.cell? (Addr.add w.heap.size 2)=some (.slice s.a s.len s.cap):=λhx=>by rw[av];exact(y.ext hx).cell
 have ay:∀ {w':J},Ext w1 w'->w'.cell? (Addr.add w.heap.size 1)=some (.int .u64 p.gen):=λhx=>by rw[av];exact(y.ext hx).cell
 refine Calls.mono (I7.Ap no w1 (λv w'=>v=true/\w1=w') ⟨by simp;omega,rfl⟩) ?_;rintro _ _ ⟨_,rfl,rfl,rfl⟩;refine⟨_,rfl,cj (λb w'=>b=false/\w1=w') (λq j=>⟨λh1=>by simp at h1,λh1=>⟨p.kind,y.cell,?_⟩⟩) ?_⟩
 .refine Calls.mono (I7.Aq p.kind w1 (λv w'=>v=true/\w1=w') ⟨by simp;omega,rfl⟩) ?_
  rintro _ _ ⟨_,rfl,rfl,rfl⟩;exact⟨_,rfl,j _ _ ⟨rfl,rfl⟩⟩
 rintro b _ ⟨rfl,rfl⟩;refine⟨λh=>(by cases h),λ_=>⟨s,aR (.refl _ _),λh=>(by have:=b1 h;omega),λ_=>aS ?_⟩⟩
 obtain⟨ag,ah,al,O,a7⟩:=vw w1 gJ;refine⟨⟨some w1.heap.size,4,4⟩,ag,ah,p.kind,(y.ext O).cell,?_⟩;have am:IntKind.wrap .u8 (p.kind:Int)=(((UInt8.ofNat p.kind).toNat:Nat):Int):=by rw[vk I,wS I I]
 rw[am];have z:=Src.new (T:=5) (sz:=1) ag (aG [1,UInt8.ofNat p.kind]) 2 rfl;have G:=eA ag (.cells (aG [1,UInt8.ofNat p.kind]).toArray 5);obtain⟨f,an⟩:∃f,f=ag.alloc (.cells (aG [1,UInt8.ofNat p.kind]).toArray 5):=⟨_,rfl⟩;show ak (ag.alloc (.cells (aG [1,UInt8.ofNat p.kind]).toArray 5)) _;rw[←an]at z G⊢;refine aS ?_;have H:=Src.new (T:=48) (sz:=1) f [.slice (some w1.heap.size) 4 4,.slice (some ag.heap.size) 2 2] 2 rfl;have A:=eA f (.cells #[.slice (some w1.heap.size) 4 4,.slice (some ag.heap.size) 2 2] 48);obtain⟨B,P⟩:∃B,B=f.alloc (.cells #[.slice (some w1.heap.size) 4 4,.slice (some ag.heap.size) 2 2] 48):=⟨_,rfl⟩;have H:Src 1 B ⟨some f.heap.size,2,2⟩ [.slice (some w1.heap.size) 4 4,.slice (some ag.heap.size) 2 2]:=by rw[P];exact H
 rw[←P]at A⊢;have ao:Ext w1 B:=O.trans (G.trans A);refine aS ((vt (s:=⟨some f.heap.size,2,2⟩) [((⟨some w1.heap.size,4,4⟩:Y),gJ),(⟨some ag.heap.size,2,2⟩,[1,UInt8.ofNat p.kind])] H ?_ (by simp[eJ,gJ]) (by simp)).use ?_)
 .intro q j
  simp only[cS,eS,eW]at j;rcases j with rfl|rfl
  .exact al.ext (G.trans A)
  .exact z.ext A
 rintro _ a9 ⟨ap,rfl,Q,aq,a_⟩;have R:=ao.trans aq;have au:eJ [((⟨some w1.heap.size,4,4⟩:Y),gJ),(⟨some ag.heap.size,2,2⟩,[1,UInt8.ofNat p.kind])]=gJ++ [1,UInt8.ofNat p.kind]:=by simp[eJ]
 rw[au]at Q;refine⟨ap,rfl,s,aR R,?_⟩;rw[gO (n:=(s.len:Int)) I I,gO (n:=(no:Int)) I I];refine(ib Q.src (n:=s.len) (k:=2) (by simp[gJ]) (by show _<18446744073709551616;omega) ⟨by decide,by decide⟩).use ?_;rintro _ ba ⟨aw,rfl,ax,az,bb⟩;have aA:=R.trans az;refine⟨aw,rfl,(ib ax.src (n:=no) (k:=4) (by simp[gJ,eZ]) (by show _<18446744073709551616;omega) ⟨by decide,by decide⟩).use ?_⟩;rintro _ bc ⟨aB,rfl,aC,aD,be⟩;have S:=aA.trans aD;refine⟨aB,rfl,_,ay S,(ib aC.src (n:=p.gen) (k:=8) (by simp[gJ,eZ]) (by show _<18446744073709551616;omega) ⟨by decide,by decide⟩).use ?_⟩;rintro _ d ⟨u,rfl,V,aE,bf⟩;have C:=S.trans aE;have aH:gJ++ [1,UInt8.ofNat p.kind]++b3 s.len 2++b3 no 4++b3 p.gen 8=e6 no p:=by rw[N];simp[e6]
 rw[aH]at V;refine⟨u,rfl,cj (λt w'=>a8 1 5 w' t (aG (e6 no p++(List.replicate 4 0++fe p)))/\Ext w1 w'/\gR w t) (λq j=>?_) ?_⟩
 .have m:=b4 d
  have W:=C.trans m;have aI:IntKind.wrap .i64 (232-(s.len:Int))=((232-s.len:Nat):Int):=by rw[bu I I];omega
  refine aS ⟨λ_=>False,id,s,aR W,id,s,aR W,?_⟩;rw[aI];simp only[c8,show Int.toNat 4=4 from rfl];rw[xJ,xJ];have fin:∀ (K eo:J) (gv cl:Y),Ext d eo->Src 1 eo gv (aG (List.replicate 4 0))->Src 1 eo cl (aG (List.replicate (232-s.len) 0))->
   Calls aj 92 #[.slice (some eo.heap.size) 4 4] (eo.alloc (.cells #[u,gv,s,cl] 48)) λaJ aK=>∃X:Y,aJ=.returned X/\q X aK:=by
   intro K eo gv cl D h1 h2;have r:=eA eo (.cells #[u,gv,s,cl] 48);refine(vt (s:=⟨some eo.heap.size,4,4⟩) [(u,e6 no p),(gv,List.replicate 4 0),(s,p.body),(cl,List.replicate (232-s.len) 0)] (Src.new eo _ 4 rfl) ?_ (by simp[eJ,m8];omega) (by simp)).use ?_
   .intro x hx
    simp only[cS,eS,eW]at hx;rcases hx with rfl|rfl|rfl|rfl
    .exact V.src.ext (D.trans r)
    .exact h1.ext r
    .exact hs.ext ((F.trans (C.trans D)).trans r)
    .exact h2.ext r
   .rintro _ Z ⟨aL,rfl,aO,hx,hf⟩
    refine⟨aL,rfl,j _ _ ⟨?_,(C.trans D).trans (r.trans hx),hf.mono (F.trans ((C.trans D).trans r)).size⟩⟩;have e:eJ [(u,e6 no p),(gv,List.replicate 4 0),(s,p.body),(cl,List.replicate (232-s.len) 0)]=e6 no p++(List.replicate 4 0++fe p):=by simp[eJ,fe,N]
    rwa[e]at aO
  refine⟨⟨⟨by decide,by decide,by decide,by decide⟩,aS ⟨eA _ _,⟨I,Int.le_refl _,I,I⟩,aS ⟨eA _ _,aS ?_⟩⟩⟩,⟨⟨I,Int.le_refl _,I,I⟩,aS ⟨eA _ _,⟨by decide,by decide,by decide,by decide⟩,aS ⟨eA _ _,aS ?_⟩⟩⟩⟩
  .refine fin d _ ⟨some d.drew.heap.size,4,4⟩ ⟨some ⟨(d.drew.alloc _).heap.size,0,none⟩,232-s.len,232-s.len⟩ (m.trans ((eA _ _).trans (eA _ _))) (Src.ext (Src.new _ _ _ (by simp[aG])) (eA _ _)) (Src.new _ _ _ (by simp[aG]))
  .refine fin d _ ⟨some ⟨(d.drew.alloc _).heap.size,0,none⟩,4,4⟩ ⟨some d.drew.heap.size,232-s.len,232-s.len⟩ (m.trans ((eA _ _).trans (eA _ _))) (Src.new _ _ _ (by simp[aG])) (Src.ext (Src.new _ _ _ (by simp[aG])) (eA _ _))
 rintro t K ⟨g,aP,aa⟩;have bg:t.len=256:=by
  have:=me g;rw[this];simp[m8,vq i]
 have m:=b4 K;refine aS ⟨λ_=>False,⟨by decide,I⟩,(nT (g.src.ext m) g.2.1 (by simp[m8,vq i])).use ?_⟩;rintro _ Z ⟨rfl,aQ⟩;have es:sumOf (e6 no p++(List.replicate 4 0++fe p))=iF (e6 no p++fe p):=by
  unfold sumOf;rw[mc (m8 no p),←cM,drop_left' (by simp[m8])]
 rw[es];have bh:=xI (e6 no p++fe p);refine⟨_,rfl,λ_=>False,?_⟩;rw[gO I I];refine(ib (s:=⟨none,0,0⟩) (l:=[]) (n:=iF (e6 no p++fe p)) (k:=4) (a8.none 1 5 Z).src (by simp) (by show _<18446744073709551616;omega) ⟨by decide,by decide⟩).use ?_;rintro _ aT ⟨aU,rfl,L,aV,bi⟩;rw[iM]at L;have ab:=m.trans (aQ.trans aV);have ac:=g.ext ab;have ae:=me L;rw[eZ]at ae;obtain⟨b,c,M,aW,bj,_⟩:∃b c,t.a=some ⟨b,0,none⟩/\bt aT b c 5/\c.size=t.cap*1/\c.toList.take (t.len*1)=aG (e6 no p++(List.replicate 4 0++fe p)):=by
  rcases ac.2.2.2 with ⟨_,hc⟩|⟨b,c,h1,h2,aX,aY⟩
  .have:=g.2.1;omega
  .exact⟨b,c,h1,h2,aX,aY⟩
 have a0:aM t.a 1 (Int.toNat 20) t.cap=some ⟨b,20,none⟩:=by
  rw[M,show Int.toNat 20=20 from rfl,s3 (by have:=g.2.1;omega)]
 have bk:=g.2.1;refine⟨aU,rfl,_,_,by rw[a0];exact E8 (by kernel_rfl) L.src (by rw[ae];show 4<=t.len-20;omega) (aW.b9 _ _ (by rw[ej,eZ];omega) (kZ _)),t,rfl,?_,?_,aa⟩
 .have:=a8.Ft ac M (o:=20) (us:=aG (b3 (iF (e6 no p++fe p)) 4)) (by rw[ej,eZ];omega)
  have e:(aG (e6 no p++(List.replicate 4 0++fe p))).take 20++aG (b3 (iF (e6 no p++fe p)) 4)++(aG (e6 no p++(List.replicate 4 0++fe p))).drop (20+(aG (b3 (iF (e6 no p++fe p)) 4)).length)=aG (ez no p):=by
   rw[ej,eZ];exact Fu (m8 no p) (by simp)
  rwa[e]at this
 .refine Ext.dr (F.trans (aP.trans ab)) (ad.kR (.refl _ _) _ 0) λk z=>?_
  subst z;exact aa _ ⟨_,M,rfl⟩
theorem l7{s:Y}{l:O UInt8}{w:J}(hs:Src 1 w s (aG l))(hc:s.len<=s.cap){a k:Nat}{e:Int}(he:e=((a+k:Nat):Int))(b:1<=k/\k<=8)(c:a+k<=l.length)(d:l.length<=1000):
 aN aj 227 #[s,a,e] w (λv w'=>v=.int .u64 (c_ l a k:Nat)/\w=w'):=by
 subst he;refine okF (I7.l7 s a ((a+k:Nat):Int)) I6.l7 func227 ?_;(delta I7.l7 kU ar;dsimp only);rw[bu I I,show(((a+k:Nat):Int)-(a:Int))=(k:Int) from I];refine(kV hs hc b c I).use ?_;rintro _ _ ⟨rfl,rfl⟩;exact⟨_,_,rfl,rfl,rfl⟩
theorem pI{s:Y}{l:O UInt8}{w:J}(hs:Src 1 w s (aG l))(o:l.length<=1000):
 aN aj 228 #[s] w (λv w'=>v=.bool (l.all λc=>c==0)/\w=w'):=by
 have p:=len8 hs;refine okF (I7.pI s) I6.pI func228 ?_;(delta I7.pI ai aK bY ar;dsimp only);refine⟨λi w'=>∃j:Nat,i=j/\j<=l.length/\w=w'/\∀ (k:Nat) (a:k<l.length),k<j->l[k]=0,λi _=>((l.length:Int)-i).toNat,⟨0,rfl,cE _,rfl,λk a h=>I⟩,?_⟩;rintro _ _ ⟨j,rfl,q,rfl,d⟩;refine⟨λaJ=>?_,λb=>?_⟩
 .have aJ:j<l.length:=by have:=b1 aJ;omega
  obtain⟨A,aq,f,g⟩:=hs.at (oe aJ);refine⟨A,aq,f,_,g,λe=>?_,λm=>?_⟩
  .refine⟨?_,rfl⟩
   have:(l.all λc=>c==0)=false:=by
    rw[List.all_eq_false];refine⟨l[j],cA _,λh=>?_⟩;have h:=eq_of_beq h;rw[h]at e;simp at e
   rw[this]
  .have h0:l[j]=0:=by
    have:((l[j]).toNat:Int)=0:=by simpa using m
    exact UInt8.toNat_inj.1 (by show(l[j]).toNat=0;omega)
   rw[bu (n:=(j:Int)+1) I I];refine⟨⟨j+1,I,I,rfl,λk a h=>?_⟩,?_⟩
   .rcases dC k j with h1|h1
    .exact d k a h1
    .have:k=j:=by omega
     subst this;exact h0
   .show((l.length:Int)-((j:Int)+1)).toNat<((l.length:Int)-(j:Int)).toNat
    omega
 .have b:j=l.length:=by have:=cp b;omega
  subst b;refine⟨?_,rfl⟩;have:(l.all λc=>c==0)=true:=by
   rw[mA];intro c hc;obtain⟨k,a,rfl⟩:=fb hc;rw[d k a a];rfl
  rw[this]
def AS(kind gen:Int)(s:Y):aa:=.agg #[kind,.int .u64 gen,s]
def vy(r:Except Int ig)(w w':J)(v:aa):Prop:=
 match r with
 | .ok p=>∃s:Y,v=.tuple #[AS p.kind p.gen s,(0:Int)]/\a8 1 5 w' s (aG p.body)/\gR w s
 | .error e=>v=.tuple #[AS 0 0 ⟨none,0,0⟩,e]
theorem AT{w':J}{h:Nat}{vs:O aa}(n g:Int)(s:Y)(b:Var w' h vs 150)(e:vs.length=3){K:Int->Int->Y->J->Prop}(j:∀ag,ad (λq=>q=h) w' ag->K n g s ag):
 bx w' h [n,.int .u64 g,s]/\(3:Nat)=3/\ak (setCells w' h 0 [n,.int .u64 g,s]) λag=>
  ∃f:Int,ag.cell? h=some (.int .i64 f)/\∃i:Int,ag.cell? (Addr.add h 1)=some (.int .u64 i)/\∃c:Y,ag.cell? (Addr.add h 2)=some (.slice c.a c.len c.cap)/\K f i c ag:=by
 refine⟨b.b9 (by rw[e];rfl) ?_,rfl,cu b (us:=[n,.int .u64 g,s]) (by rw[e];rfl) rfl λag d hc _=>?_⟩
 .intro v b
  simp only[cS,eS,eW]at b;rcases b with rfl|rfl|rfl<;>trivial
 .exact⟨n,d.cell,g,by rw[av];exact d.cell,s,by rw[av];exact d.cell,j ag hc⟩
theorem mW{s:Y}{l:O UInt8}{w:J}(hs:Src 1 w s (aG l))(hc:s.len<=s.cap)(u:l.length<=1000)(no:Int):
 aN aj 172 #[no,s] w (λv w'=>vy (dI no l) w w' v/\Ext w w'):=by
 have av:=len8 hs;refine okF (I7.mW no s) I6.mW func172 ?_;(delta I7.mW z3 ai U r1 bl af xd aK bY gF gg aF ar ji;dsimp only);refine bd (vs:=[(0:Int),.int .u64 0,()]) rfl λw1 A x _=>?_
 have out:∀ (w':J) (e:Int),Ext w1 w'->dI no l=.error e->
  bx w' w.heap.size [(0:Int),.int .u64 0,()]/\(3:Nat)=3/\ak (setCells w' w.heap.size 0 [(0:Int),.int .u64 0,()]) λag=>
  ∃g:Int,ag.cell? w.heap.size=some (.int .i64 g)/\∃j:Int,ag.cell? (Addr.add w.heap.size 1)=some (.int .u64 j)/\∃d:Y,ag.cell? (Addr.add w.heap.size 2)=some (.slice d.a d.len d.cap)/\
   (λv w'=>vy (dI no l) w w' v/\Ext w w') (.tuple #[.agg #[g,.int .u64 j,d],e]) ag:=by
  intro w' e hx he;refine AT 0 0 ⟨none,0,0⟩ (A.ext hx) rfl (K:=λg j d ag=>(λv w'=>vy (dI no l) w w' v/\Ext w w') (.tuple #[.agg #[g,.int .u64 j,d],e]) ag) λag y=>⟨?_,Ext.cm (x.trans hx) y (bn _)⟩;rw[he];rfl
 refine⟨λh=>out _ _ (.refl _ _) ?_,λh=>?_⟩
 .have h:(s.len:Int)≠256:=by simpa using h
  unfold dI;rw[if_pos I]
 have h:(s.len:Int)=256:=by simpa using h
 have N:l.length=256:=by omega
 have o:=hs.ext x;have P:=m9 o hc (lo:=0) (hi:=4) I I;have Q:Src 1 w1 ⟨aM s.a 1 0 s.cap,4-0,s.cap-0⟩ (((l.take 4).map λb=>(b.toNat:Int)).map (.int .u8)):=by
  rw[iu];exact P
 have E:=AI (src:=48) (dst:=9) (by kernel_rfl) (by kernel_rfl) Q;have R:(((l.take 4).map λb=>(b.toNat:Int)).map λn=>UInt8.ofNat n.toNat)=l.take 4:=by
  rw[iu];have:((λn:Int=>UInt8.ofNat n.toNat)∘ λb:UInt8=>(b.toNat:Int))=id:=by funext b;simp
  rw[this,List.map_id]
 rw[R]at E;refine⟨⟨by decide,I⟩,S (l.take 4),w1,E,?_⟩;have T:(ByteArray.toList (S (l.take 4))==ByteArray.toList (ByteArray.mk #[83,84,78,67]))=decide (l.take 4=gJ):=by
  rw[show(ByteArray.mk #[83,84,78,67])=S gJ from rfl,nK];rw[fU];simp
 rw[T];refine⟨λh=>out _ _ (.refl _ _) ?_,λh=>?_⟩
 .have h:l.take 4≠gJ:=by simpa using h
  unfold dI;rw[if_neg I,if_pos h]
 have p:l.take 4=gJ:=by simpa using h
 obtain⟨V,W,aw,X⟩:=o.at (oe (l:=l) (i:=4) I);have ax:s.len=256:=by omega
 refine⟨V,W,⟨by decide,I⟩,_,X,λh=>out _ _ (.refl _ _) ?_,λh=>?_⟩
 .have h:(((l[4]'I).toNat:Nat):Int)≠1:=by simpa using h
  unfold dI;rw[if_neg I,if_neg (by simp[p]),if_pos (by
   intro e;apply h;rw[ft,du I]at e;have e:(l[4]'I)=1:=e;rw[e];rfl)]
 have z:l.getD 4 0=1:=by
  have h:(((l[4]'I).toNat:Nat):Int)=1:=by simpa using h
  rw[ft,du I];exact UInt8.toNat_inj.1 (by show(l[4]'I).toNat=1;omega)
 refine(nT o hc N).use ?_;rintro _ ag ⟨rfl,f⟩;have m:=o.ext f;refine⟨_,rfl,(l7 m hc (a:=20) (k:=4) (e:=24) rfl (by decide) I u).use ?_⟩;rintro _ _ ⟨rfl,rfl⟩;have ay:sumOf l<4294967296:=xI _;rw[gO (n:=((sumOf l:Nat):Int)) I I];refine⟨_,rfl,λh=>out _ _ f ?_,λh=>?_⟩
 .have h:((sumOf l:Nat):Int)≠((c_ l 20 4:Nat):Int):=by simpa using h
  unfold dI;rw[if_neg I,if_neg (by simp[p]),if_neg (λh=>h z),if_pos I]
 have az:sumOf l=c_ l 20 4:=by
  have h:((sumOf l:Nat):Int)=((c_ l 20 4:Nat):Int):=by simpa using h
  omega
 refine(l7 m hc (a:=6) (k:=2) (e:=8) rfl (by decide) I u).use ?_;rintro _ _ ⟨rfl,rfl⟩;have aA:c_ l 6 2<65536:=m4 2 _ (by simp;omega);obtain⟨Z,aa,aB,ab⟩:=m.at (oe (l:=l) (i:=5) I);have B:l.getD 5 0=l[5]'I:=by rw[ft,du I];rfl
 have aC:=oU (l[5]'I);refine⟨_,rfl,Z,aa,⟨by decide,I⟩,_,ab,?_⟩;rw[bu (n:=(((l[5]'I).toNat:Nat):Int)) I I,bu (n:=((c_ l 6 2:Nat):Int)) I I];refine Calls.mono (I7.Aq (((l[5]'I).toNat:Nat):Int) ag (λv w'=>v=.bool (decide (1<=(l[5]'I).toNat/\(l[5]'I).toNat<=4))/\ag=w') ⟨?_,rfl⟩) ?_
 .have e:(decide ((((l[5]'I).toNat:Nat):Int)>=1)&&decide ((((l[5]'I).toNat:Nat):Int)<=4))=decide (1<=(l[5]'I).toNat/\(l[5]'I).toNat<=4):=by
   rw[fU];simp only[dX,cQ];omega
  rw[e]
 rintro _ _ ⟨_,rfl,rfl,rfl⟩;have aD:24+c_ l 6 2<=256->True:=λ_=>trivial;refine⟨_,rfl,cj (λb w'=>b=decide (¬(1<=(l[5]'I).toNat/\(l[5]'I).toNat<=4)\/232<c_ l 6 2\/(l.drop (24+c_ l 6 2)).all (λc=>c==0)=false)/\ag=w') (λq r=>⟨λh1=>r _ _ ⟨?_,rfl⟩,λh1=>?_⟩) ?_⟩
 .refine(dm ?_).symm
  simp only[jc,k9,jP,cQ]at h1;rcases h1 with h1|h1
  .exact .inl h1
  .exact .inr (.inl I)
 .simp only[oO,sr,jP,cQ]at h1
  have ac:c_ l 6 2<=232:=by omega
  rw[bu (n:=24+((c_ l 6 2:Nat):Int)) I I];refine⟨⟨I,I⟩,?_⟩;have ad:Int.toNat (24+((c_ l 6 2:Nat):Int))=24+c_ l 6 2:=by omega
  rw[ad];have F:=m9 m hc (lo:=24+c_ l 6 2) (hi:=s.len) I I;rw[dD (l:=l.drop (24+c_ l 6 2)) (by rw[c5];omega)]at F;refine(pI F (by rw[c5];omega)).use ?_;rintro _ _ ⟨rfl,rfl⟩;refine⟨_,rfl,r _ _ ⟨?_,rfl⟩⟩
  cases aE:(l.drop (24+c_ l 6 2)).all (λc=>c==0) with
  |true=>exact(hD (by rintro(h2|h2|h2)<;>first|exact h2 h1.1|omega|cases h2)).symm
  |false=>exact(dm (.inr (.inr rfl))).symm
 rintro b _ ⟨rfl,rfl⟩;refine⟨λh=>out _ _ f ?_,λh=>?_⟩
 .have h:=b1 h
  unfold dI;rw[if_neg I,if_neg (by simp[p]),if_neg (λh=>h z),if_neg I,if_pos (by rw[B];exact h)]
 have t:=cp h;have G:¬(¬(1<=(l.getD 5 0).toNat/\(l.getD 5 0).toNat<=4)\/232<c_ l 6 2\/(l.drop (24+c_ l 6 2)).all (λc=>c==0)=false):=by rw[B];exact t
 have ac:c_ l 6 2<=232:=by
  rcases dC 232 (c_ l 6 2) with h1|h1
  .exact absurd (.inr (.inl h1)) t
  .exact h1
 have aH:1<=(l[5]'I).toNat/\(l[5]'I).toNat<=4:=oV λh=>t (.inl h);refine Calls.mono (I7.Ap no ag (λv w'=>v=.bool (decide (0<=no/\no<1600))/\ag=w') ⟨by simp[ge_iff_le],rfl⟩) ?_;rintro _ _ ⟨_,rfl,rfl,rfl⟩;have aI:c_ l 8 4<4294967296:=m4 4 _ (by simp;omega);refine⟨_,rfl,cj (λb w'=>b=decide (¬(0<=no/\no<1600)\/(c_ l 8 4:Int)≠no)/\ag=w') (λq r=>⟨λh1=>r _ _ ⟨?_,rfl⟩,λh1=>?_⟩) ?_⟩
 .refine(dm ?_).symm
  simp only[k9,jP]at h1;exact .inl h1
 .simp only[sr,cQ]at h1
  refine(l7 m hc (a:=8) (k:=4) (e:=12) rfl (by decide) I u).use ?_;rintro _ _ ⟨rfl,rfl⟩;refine⟨_,rfl,r _ _ ⟨?_,rfl⟩⟩;rw[gO (n:=no) I I,fU,cQ,bne_iff_ne];exact⟨λh=>.inr h,λh=>h.resolve_left (λh2=>h2 h1)⟩
 rintro b _ ⟨rfl,rfl⟩;refine⟨λh=>out _ _ f ?_,λh=>?_⟩
 .have h:=b1 h
  unfold dI;rw[if_neg I,if_neg (by simp[p]),if_neg (λh=>h z),if_neg I,if_neg G,if_pos h]
 have ah:=cp h;have al:dI no l=.ok ⟨(l.getD 5 0).toNat,c_ l 12 8,(l.drop 24).take (c_ l 6 2)⟩:=by
  unfold dI;rw[if_neg I,if_neg (by simp[p]),if_neg (λh=>h z),if_neg I,if_neg G,if_neg ah]
 refine(pJ m hc (a:=24) (k:=c_ l 6 2) I I).use ?_;rintro _ am ⟨C,rfl,an,ao,H⟩;have L:=b4 am;have D:=f.trans (ao.trans L);have M:=o.ext D;obtain⟨ap,aq,aJ,au⟩:=M.at (oe (l:=l) (i:=5) I);refine⟨C,true,rfl,aS ⟨λ_=>False,ap,aq,⟨by decide,I⟩,id,_,au,(l7 M hc (a:=12) (k:=8) (e:=20) rfl (by decide) I u).use ?_⟩⟩;rintro _ _ ⟨rfl,rfl⟩;rw[bu (n:=(((l[5]'I).toNat:Nat):Int)) I I];refine⟨_,rfl,.refl _ _,AT _ _ C (A.ext D) rfl (K:=λg j d ag=>(λv w'=>vy (dI no l) w w' v/\Ext w w') (.tuple #[.agg #[g,.int .u64 j,d],(0:Int)]) ag) λaL y=>⟨?_,Ext.cm (x.trans D) y (bn _)⟩⟩;rw[al];refine⟨C,by rw[B];rfl,(an.ext L).ae y λk t e=>?_,H.mono (x.trans f).size⟩;have:=H k t;have:=A.lt;have:=f.size;subst e;omega
theorem AU{P:Program}{w:J}:∀ (l:O UInt8) (a:ab) (acc:ByteArray),(∀j x,l[j]? =some x->w.cell? (a.add j)=some (.int .u8 (x.toNat:Int)))->
 (Extern.Bytes.loadBytes a l.length acc).run P w=.ok ⟨acc.data++l.toArray⟩ w
 | [],a,acc,_=>by simp[Extern.Bytes.loadBytes]
 |x::l,a,acc,h=>by
  have h0:=h 0 x rfl
  rw[add_zero']at h0
  have b:=AU (P:=P) l (a.add 1) (acc.push x) (λj y c=>by
   rw[add_add,Nat.add_comm]
   exact h (j+1) y (by simpa using c))
  have hx:(x.toNat:Int).toNat.toUInt8=x:=E6 x
  simp only[e1,Extern.Bytes.loadBytes,Sem.run_bind,wj h0,Result.andThen,hx]
  rw[b]
  congr 2
  simp[ByteArray.push]
theorem AV{P:Program}{w:J}{s:Y}{l:O UInt8}(h:Src 1 w s (aG l)):(Extern.Bytes.bytesOf s).run P w=.ok (S l) w:=by
 cases hs:s.a with
 |none=>
  have h0:l=[]:=by
   have:=h.nil hs
   cases l with
   |nil=>rfl
   |cons a l=>simp[aG]at this
  subst h0;rfl
 |some A=>
  have b:=h.rd A hs;rw[fF]at b;have:=AU (P:=P) (w:=w) l A .empty (λj x c=>by
   have:=pe b (j:=j) (v:=.int .u8 (x.toNat:Int)) (by simp[aG,c]);simpa using this)
  show(Extern.Bytes.loadBytes A s.len .empty).run P w=_;rw[len8 h,this]
  congr 1
  show(ByteArray.mk (ByteArray.empty.data++l.toArray))=ByteArray.mk l.toArray
  congr 1
  exact Array.empty_append ..
theorem AW:∀a b:Key,Lib.compareBytes a b=eu a b
 | [],[]=>rfl
 | [],_::_=>rfl
 |_::_,[]=>rfl
 |a::x,b::y=>by
  simp only[Lib.compareBytes,eu,UInt8.lt_iff_toNat_lt,AW x y]
theorem kn{s t:Y}{l m:Key}{w:J}(hs:Src 1 w s (aG l))(ht:Src 1 w t (aG m)):
 aN aj 176 #[s,t] w (λv w'=>v=.int .i64 (eu l m)/\w=w'):=by
 refine okF (I7.kn s t) I6.kn func176 ?_;unfold I7.kn;refine⟨eu l m,w,?_,rfl,rfl⟩;rw[run_callFunc_extern func230 rfl rfl rfl rfl];have:(Extern.BytealgCompare.compare #[s,t]).run aj w=.ok (.int .i64 (eu l m)) w:=by
  change Sem.run aj (do pure (goInt (Extern.BytealgCompare.cmp (←Extern.Bytes.bytesOf s) (←Extern.Bytes.bytesOf t)))) w=_
  simp only[Sem.run_bind,AV hs,AV ht,Result.andThen,Sem.run_pure];rw[Lib.cmp_eq];show Result.ok (goInt (Lib.compareBytes l m)) w=_;rw[AW];rfl
 rw[this];rfl
theorem k1{s:Y}{l:O UInt8}{w:J}(h:Src 1 w s (aG l)):Sem.run aj (convert 48 9 s) w=.ok (.string (S l)) w:=by
 have a:Src 1 w s ((l.map λb=>(b.toNat:Int)).map (.int .u8)):=by rw[iu];exact h
 have:=AI (src:=48) (dst:=9) (by kernel_rfl) (by kernel_rfl) a;rw[iu]at this;have e:((λn:Int=>UInt8.ofNat n.toNat)∘ λb:UInt8=>(b.toNat:Int))=id:=by funext b;simp
 rw[e,List.map_id]at this;exact this
theorem pt{s t:Y}{l m:Key}{w:J}(hs:Src 1 w s (aG l))(ht:Src 1 w t (aG m)):
 aN aj 158 #[s,t] w (λv w'=>v=.bool (decide (l=m))/\w=w'):=by
 refine okF (I7.pt s t) I6.pt func158 ?_;unfold I7.pt;refine⟨_,_,k1 hs,_,_,k1 ht,?_,rfl⟩;rw[nK]
 congr 1
 rw[fU];simp
def In(B:Nat->Prop)(w:J)(s:Y):Prop:=∀k,az s k->B k/\k<w.heap.size
def aY(B:Nat->Prop)(w:J)(t:Y)(l:Key):Prop:=Src 1 w t (aG l)/\t.len<=t.cap/\In B w t
def bj(B:Nat->Prop)(w:J)(s:Y)(ls:O Key):Prop:=
 ∃ts:O Y,ts.length=ls.length/\Src 1 w s (ts.map hO)/\s.len<=s.cap/\In B w s/\∀ (i:Nat) (h1:i<ts.length) (h2:i<ls.length),aY B w ts[i] ls[i]
def dR(ds:O Nat):O aa:=ds.map λd=>.int .i64 ((d:Nat):Int)
def cH(B:Nat->Prop)(w:J)(s:Y)(ds:O Nat):Prop:=Src 1 w s (dR ds)/\s.len<=s.cap/\In B w s
def bp(B:Nat->Prop)(w:J)(s:Y)(ls:O Key):Prop:=
 ∃ts:O Y,ts.length=ls.length/\a8 1 48 w s (ts.map hO)/\In B w s/\∀ (i:Nat) (h1:i<ts.length) (h2:i<ls.length),aY B w ts[i] ls[i]/\∀k,az ts[i] k->¬az s k
def cO(B:Nat->Prop)(w:J)(s:Y)(ds:O Nat):Prop:=a8 1 3 w s (dR ds)/\In B w s
section
variable {B C:Nat->Prop}{w w':J}{s t:Y}{l:Key}{ls:O Key}{ds:O Nat}
theorem In.ae{V:Nat->Prop}(h:In B w s)(hc:ad V w w'):In B w' s:=λk a=>⟨(h k a).1,fN (h k a).2 hc.size⟩
theorem In.aW(h:In B w s)(b:∀k,k<w.heap.size->B k->C k):In C w s:=λk a=>⟨b k (h k a).2 (h k a).1,(h k a).2⟩
theorem aY.ae{V:Nat->Prop}(h:aY B w t l)(hc:ad V w w')(a:∀k,B k->¬V k):aY B w' t l:=⟨h.1.ae hc λk b=>a k (h.2.2 k b).1,h.2.1,In.ae h.2.2 hc⟩
theorem aY.iG{V:Nat->Prop}(h:aY B w t l)(hc:ad V w w')(a:∀k,az t k->¬V k):aY B w' t l:=⟨h.1.ae hc a,h.2.1,In.ae h.2.2 hc⟩
theorem aY.ext(h:aY B w t l)(hc:Ext w w'):aY B w' t l:=aY.ae h hc λ_ _ h=>h
theorem aY.aW(h:aY B w t l)(a:∀k,k<w.heap.size->B k->C k):aY C w t l:=⟨h.1,h.2.1,In.aW h.2.2 a⟩
theorem bj.ae{V:Nat->Prop}(h:bj B w s ls)(hc:ad V w w')(a:∀k,B k->¬V k):bj B w' s ls:=by
 obtain⟨ts,h1,h2,c,b,d⟩:=h;exact⟨ts,h1,h2.ae hc λk e=>a k (b k e).1,c,In.ae b hc,λi f g=>aY.ae (d i f g) hc a⟩
theorem bj.ext(h:bj B w s ls)(hc:Ext w w'):bj B w' s ls:=bj.ae h hc λ_ _ h=>h
theorem bj.aW(h:bj B w s ls)(a:∀k,k<w.heap.size->B k->C k):bj C w s ls:=by
 obtain⟨ts,h1,h2,b,c,d⟩:=h;exact⟨ts,h1,h2,b,In.aW c a,λi e f=>aY.aW (d i e f) a⟩
theorem cH.ae{V:Nat->Prop}(h:cH B w s ds)(hc:ad V w w')(a:∀k,B k->¬V k):cH B w' s ds:=⟨h.1.ae hc λk b=>a k (h.2.2 k b).1,h.2.1,In.ae h.2.2 hc⟩
theorem cH.ext(h:cH B w s ds)(hc:Ext w w'):cH B w' s ds:=cH.ae h hc λ_ _ h=>h
theorem cH.aW(h:cH B w s ds)(a:∀k,k<w.heap.size->B k->C k):cH C w s ds:=⟨h.1,h.2.1,In.aW h.2.2 a⟩
theorem bj.len(h:bj B w s ls):s.len=ls.length:=by
 obtain⟨ts,h1,h2,_⟩:=h;have:=h2.len;rw[dN]at this;omega
theorem m_(ds:O Nat):(dR ds).length=ds.length:=by simp[dR]
theorem cH.len(h:cH B w s ds):s.len=ds.length:=by
 have:=h.1.len;rw[m_]at this;omega
theorem bj.at(h:bj B w s ls){i:Nat}(hi:i<ls.length):∃ (A:ab) (t:Y),s.a=some A/\((0:Int)<=(i:Int)/\(i:Int)<(s.len:Int))/\w.cell? (A.add (Int.toNat (i:Int)*1))=some (.slice t.a t.len t.cap)/\aY B w t ls[i]/\B A.block:=by
 obtain⟨ts,h1,h2,e,b,c⟩:=h;obtain⟨A,aq,d,hc⟩:=h2.at (i:=i) (v:=hO (ts[i]'I)) (by simp[h1,hi]);exact⟨A,ts[i]'I,aq,d,hc,c i I hi,(b _ ⟨A,aq,rfl⟩).1⟩
theorem cH.at(h:cH B w s ds){i:Nat}(hi:i<ds.length):∃A:ab,s.a=some A/\((0:Int)<=(i:Int)/\(i:Int)<((s.len:Nat):Int))/\w.cell? (A.add (Int.toNat (i:Int)*1))=some (.int .i64 ((ds[i]:Nat):Int)):=by
 obtain⟨A,aq,b,hc⟩:=h.1.at (i:=i) (v:=.int .i64 ((ds[i]:Nat):Int)) (by simp[dR,hi]);exact⟨A,aq,b,hc⟩
theorem bp.iH(h:bp B w s ls):bj B w s ls:=by
 obtain⟨ts,h1,h2,a,b⟩:=h;exact⟨ts,h1,h2.src,h2.2.1,a,λi c d=>(b i c d).1⟩
theorem cO.pZ(h:cO B w s ds):cH B w s ds:=⟨h.1.src,h.1.2.1,h.2⟩
theorem bp.none(B:Nat->Prop)(w:J):bp B w ⟨.none,0,0⟩ []:=⟨[],rfl,a8.none _ _ _,λk a=>(gf k a).elim,λi h=>by simp at h⟩
theorem cO.none(B:Nat->Prop)(w:J):cO B w ⟨.none,0,0⟩ []:=⟨a8.none _ _ _,λk a=>(gf k a).elim⟩
theorem bj.none(B:Nat->Prop)(w:J):bj B w ⟨.none,0,0⟩ []:=bp.iH (bp.none B w)
theorem cH.none(B:Nat->Prop)(w:J):cH B w ⟨.none,0,0⟩ []:=cO.pZ (cO.none B w)
theorem bp.ae{V:Nat->Prop}(h:bp B w s ls)(hc:ad V w w')(a:∀k,B k->¬V k):bp B w' s ls:=by
 obtain⟨ts,h1,h2,b,c⟩:=h;exact⟨ts,h1,h2.ae hc λk f=>a k (b k f).1,In.ae b hc,λi d e=>⟨aY.ae (c i d e).1 hc a,(c i d e).2⟩⟩
theorem bp.ext(h:bp B w s ls)(hc:Ext w w'):bp B w' s ls:=bp.ae h hc λ_ _ h=>h
theorem cO.ae{V:Nat->Prop}(h:cO B w s ds)(hc:ad V w w')(a:∀k,B k->¬V k):cO B w' s ds:=⟨h.1.ae hc λk b=>a k (h.2 k b).1,In.ae h.2 hc⟩
theorem cO.ext(h:cO B w s ds)(hc:Ext w w'):cO B w' s ds:=cO.ae h hc λ_ _ h=>h
theorem aY.some(h:aY B w t l)(b:l≠ []):∃A,t.a=some A:=by
 cases c:t.a with
 |none=>
  have:=h.1.nil c;exfalso;apply b
  cases l with
  |nil=>rfl
  |cons a l=>simp[aG]at this
 |some A=>exact⟨A,rfl⟩
end
theorem p0:hG aj 127 48 1 24:=⟨by kernel_rfl⟩
theorem p1:hG aj 58 3 1 8:=⟨by kernel_rfl⟩
theorem vz(ts:O Y):∀v∈ts.map hO,Plain v:=by
 intro v a;obtain⟨n,_,rfl⟩:=ep.1 a;trivial
theorem xK(ds:O Nat):∀v∈dR ds,Plain v:=by
 intro v a;obtain⟨n,_,rfl⟩:=ep.1 a;trivial
theorem kr{B:Nat->Prop}{w:J}{s:Y}{l:O UInt8}(h:Src 1 w s (aG l))(d:l.length<=1000000)(e:∀k,w.heap.size<=k->B k):
 aN aj 135 #[s] w (λv w'=>∃a:Y,v=a/\aY B w' a l/\Ext w w'/\gR w a):=by
 refine(xz h d).mono ?_;rintro _ w' ⟨a,rfl,b,hx,hf⟩;exact⟨a,rfl,⟨b.src,b.2.1,λk c=>⟨e k (hf k c),b.lt k c⟩⟩,hx,hf⟩
theorem AX{B:Nat->Prop}{w:J}{s t:Y}{ls:O Key}{l:Key}(n:bp B w s ls)(ht:aY B w t l)(hd:∀k,az t k->¬az s k)(A:ls.length<=1000000)(o:∀k,w.heap.size<=k->B k):
 ∃ (b:Y) (w':J),Sem.run aj (Builtin.append_ #[127,127] 127 #[s,.slice (some w.heap.size) 1 1]) (w.alloc (.cells #[t] 48))=.ok b w'/\
  bp B w' b (ls++ [l])/\ad (az s) w w'/\(∀k,az b k->az s k\/w.heap.size<=k):=by
 obtain⟨ts,h1,h2,p,q⟩:=n;have C:s.len=ls.length:=by have:=h2.1;rw[dN]at this;omega
 obtain⟨b,w',au,aw,D,c,d⟩:=p0.push (cG:=127) (w:=w) (s:=s) (xs:=[hO t]) rfl h2 (λv r=>by rw[fh.1 r];trivial) I;refine⟨b,w',au,⟨ts++ [t],by simp[h1],?_,?_,λi f u=>?_⟩,c,d⟩
 .rw[fV];exact aw
 .intro k a
  refine⟨?_,aw.lt k a⟩;rcases d k a with h|h
  .exact(p k h).1
  .exact o k h
 .have g:∀ (x:Y),(∀k,az x k->k<w.heap.size)->(∀k,az x k->¬az s k)->∀k,az x k->¬az b k:=λx hx y k a z=>by
   rcases d k z with h|h
   .exact y k a h
   .have:=hx k a;omega
  have E:i<ts.length+1:=by simpa using f
  rcases dC i ts.length with h|h
  .obtain⟨j,m⟩:=q i h I
   simp only[lS h,lS (show i<ls.length from I)];exact⟨aY.iG j c m,g _ (λk a=>(j.2.2 k a).2) m⟩
  .have:i=ts.length:=by omega
   subst this;have e:(ts++ [t])[ts.length]'f=t:=by simp
   have:(ls++ [l])[ts.length]'u=l:=by rw[nu I];simp
   rw[this,e];exact⟨aY.iG ht c hd,g _ (λk a=>(ht.2.2 k a).2) hd⟩
theorem Fv{B:Nat->Prop}{w:J}{s:Y}{ds:O Nat}(d:Nat)(b:cO B w s ds)(j:ds.length<=1000000)(f:∀k,w.heap.size<=k->B k):
 ∃ (a:Y) (w':J),Sem.run aj (Builtin.append_ #[58,58] 58 #[s,.slice (some w.heap.size) 1 1]) (w.alloc (.cells #[d] 3))=.ok a w'/\
  cO B w' a (ds++ [d])/\ad (az s) w w'/\(∀k,az a k->az s k\/w.heap.size<=k):=by
 have l:s.len=ds.length:=by have:=b.1.1;rw[m_]at this;omega
 obtain⟨a,w',au,aw,m,g,c⟩:=p1.push (cG:=58) (w:=w) (s:=s) (xs:=[d]) rfl b.1 (λv i=>by rw[fh.1 i];trivial) I;refine⟨a,w',au,⟨by simpa[dR] using aw,λk e=>⟨?_,aw.lt k e⟩⟩,g,c⟩;rcases c k e with h|h
 .exact(b.2 k h).1
 .exact f k h
structure bz(B:Nat->Prop)(w:J)(n:aB)(K V D:Y):Prop where
 keys:bj B w K n.keys
 vals:bj B w V n.vals
 kids:cH B w D n.kids
def dM(n:aB)(K V D:Y):O aa:=[n.leaf,K,V,D]
def cW(n:aB)(K V D:Y):aa:=.agg #[n.leaf,K,V,D]
section
variable {B C:Nat->Prop}{w w':J}{n:aB}{K V D:Y}
theorem bz.ae{W:Nat->Prop}(h:bz B w n K V D)(hc:ad W w w')(a:∀k,B k->¬W k):bz B w' n K V D:=⟨bj.ae h.keys hc a,bj.ae h.vals hc a,cH.ae h.kids hc a⟩
theorem bz.ext(h:bz B w n K V D)(hc:Ext w w'):bz B w' n K V D:=bz.ae h hc λ_ _ h=>h
theorem bz.aW(h:bz B w n K V D)(a:∀k,k<w.heap.size->B k->C k):bz C w n K V D:=⟨bj.aW h.keys a,bj.aW h.vals a,cH.aW h.kids a⟩
theorem bC{b:Nat}{T:TypeId}{leaf:ah}(h:Var w b [leaf,K,V,D] T):
 w.cell? b=some (.bool leaf)/\w.cell? (Addr.add b 1)=some (.slice K.a K.len K.cap)/\w.cell? (Addr.add b 2)=some (.slice V.a V.len V.cap)/\w.cell? (Addr.add b 3)=some (.slice D.a D.len D.cap):=by
 rw[av,av,av];exact⟨h.cell,h.cell,h.cell,h.cell⟩
end
theorem Fw{B:Nat->Prop}{w:J}{s:Y}{ls:O Key}(h:bj B w s ls)(f:ls.length<=1000000):
   aN aj 242 #[s,.func (.func 241) #[] #[]] w (λv w'=>v=.bool (ls.any λv=>decide (24<v.length))/\w=w'):=by
 refine okF (I7.tD s ⟨241,#[],#[]⟩) I6.tD func242 ?_
 (delta I7.tD ay;dsimp only)
 have g:=bj.len h
 have e:ix aj 241:=⟨_,(Option.some_get (show(Tryz.prog.funcs[241]?).isSome=true by kernel_rfl)).symm,by kernel_rfl,by kernel_rfl⟩
 refine Calls.mono (I7.Ee s ⟨241,#[],#[]⟩ w (λv w'=>(∃i:Int,v=i/\(decide (i>=0))=(ls.any λv=>decide (24<v.length)))/\w=w') ?_) ?_
 · (delta I7.ra ai aK af ar;dsimp only)
   refine⟨λi w'=>∃j:Nat,i=j/\j<=ls.length/\w=w'/\∀ (k:Nat) (a:k<ls.length),k<j->(ls[k]).length<=24,λi _=>((ls.length:Int)-i).toNat,⟨0,rfl,cE _,rfl,λk a h=>I⟩,?_⟩
   rintro _ _ ⟨j,rfl,l,rfl,d⟩
   refine⟨λaJ=>?_,λc=>?_⟩
   · have aJ:j<ls.length:=by have:=b1 aJ;omega
     obtain⟨A,t,aq,b,hc,ht,_⟩:=bj.at h aJ
     refine⟨A,aq,b,t,hc,e,?_⟩
     have m:=len8 ht.1
     refine Calls.mono (I7.EC t w (λv w'=>v=.bool (decide (24<(ls[j]).length))/\w=w') ⟨?_,rfl⟩) ?_
     · congr 1
       rw[fU,cQ,cQ];omega
     rintro _ _ ⟨_,rfl,rfl,rfl⟩
     refine⟨_,rfl,λb=>⟨⟨j,rfl,?_⟩,rfl⟩,λb=>?_⟩
     · have:(ls.any λv=>decide (24<v.length))=true:=List.any_eq_true.2 ⟨_,cA aJ,b⟩
       rw[this];exact dm I
     · have b:=cp b
       rw[bu (n:=(j:Int)+1) I I]
       refine⟨⟨j+1,I,I,rfl,λk a h=>?_⟩,?_⟩
       · rcases dC k j with h1|h1
         · exact d k a h1
         · have:k=j:=by omega
           subst this;omega
       · show((ls.length:Int)-((j:Int)+1)).toNat<((ls.length:Int)-(j:Int)).toNat
         omega
   · have c:j=ls.length:=by have:=cp c;omega
     subst c
     refine⟨⟨-1,rfl,?_⟩,rfl⟩
     have:(ls.any λv=>decide (24<v.length))=false:=by
       rw[oN]
       intro x hx
       obtain⟨k,a,rfl⟩:=fb hx
       have:=d k a a
       simp;omega
     rw[this];rfl
 · rintro _ _ ⟨_,rfl,⟨i,rfl,hi⟩,rfl⟩
   exact⟨i,rfl,by rw[hi],rfl⟩
theorem Fx{B:Nat->Prop}{w:J}{s:Y}{ds:O Nat}(h:cH B w s ds)(g:ds.length<=1000000):
   aN aj 244 #[s,.func (.func 243) #[] #[]] w (λv w'=>v=.bool (ds.any λd=>decide (1600<=d))/\w=w'):=by
 refine okF (I7.tE s ⟨243,#[],#[]⟩) I6.tE func244 ?_
 (delta I7.tE ay;dsimp only)
 have l:=cH.len h
 have f:ix aj 243:=⟨_,(Option.some_get (show(Tryz.prog.funcs[243]?).isSome=true by kernel_rfl)).symm,by kernel_rfl,by kernel_rfl⟩
 refine Calls.mono (I7.Ef s ⟨243,#[],#[]⟩ w (λv w'=>(∃i:Int,v=i/\(decide (i>=0))=(ds.any λd=>decide (1600<=d)))/\w=w') ?_) ?_
 · (delta I7.rf ai aK r1 ar;dsimp only)
   refine⟨λi w'=>∃j:Nat,i=j/\j<=ds.length/\w=w'/\∀ (k:Nat) (a:k<ds.length),k<j->ds[k]<1600,λi _=>((ds.length:Int)-i).toNat,⟨0,rfl,cE _,rfl,λk a h=>I⟩,?_⟩
   rintro _ _ ⟨j,rfl,m,rfl,e⟩
   refine⟨λaJ=>?_,λc=>?_⟩
   · have aJ:j<ds.length:=by have:=b1 aJ;omega
     obtain⟨A,aq,b,hc⟩:=cH.at h aJ
     refine⟨A,aq,b,_,hc,f,?_⟩
     refine Calls.mono (I7.ED ((ds[j]:Nat):Int) w (λv w'=>v=.bool (decide (1600<=ds[j]))/\w=w') ⟨?_,rfl⟩) ?_
     · congr 1
       rw[fU,jc,cQ,cQ,cQ];omega
     rintro _ _ ⟨_,rfl,rfl,rfl⟩
     refine⟨_,rfl,λb=>⟨⟨j,rfl,?_⟩,rfl⟩,λb=>?_⟩
     · have:(ds.any λd=>decide (1600<=d))=true:=List.any_eq_true.2 ⟨_,cA aJ,b⟩
       rw[this];exact dm I
     · have b:=cp b
       rw[bu (n:=(j:Int)+1) I I]
       refine⟨⟨j+1,I,I,rfl,λk a h=>?_⟩,?_⟩
       · rcases dC k j with h1|h1
         · exact e k a h1
         · have:k=j:=by omega
           subst this;omega
       · show((ds.length:Int)-((j:Int)+1)).toNat<((ds.length:Int)-(j:Int)).toNat
         omega
   · have c:j=ds.length:=by have:=cp c;omega
     subst c
     refine⟨⟨-1,rfl,?_⟩,rfl⟩
     have:(ds.any λd=>decide (1600<=d))=false:=by
       rw[oN]
       intro x hx
       obtain⟨k,a,rfl⟩:=fb hx
       have:=e k a a
       simp;omega
     rw[this];rfl
 · rintro _ _ ⟨_,rfl,⟨i,rfl,hi⟩,rfl⟩
   exact⟨i,rfl,by rw[hi],rfl⟩
theorem AY:∀ {l:O Key},(∀ (i:Nat) (h:i+1<l.length),bD l[i] l[i+1])->l.Pairwise bD
 | [],_=>.nil
 |a::l,h=>by
  have e:=AY (l:=l) λi hi=>h (i+1) (by simpa using hi)
  refine jt.2 ⟨λb d=>?_,e⟩
  cases l with
  |nil=>simp at d
  |cons c l=>
   have h0:bD a c:=h 0 (by simp)
   rcases cS.1 d with rfl|d
   .exact h0
   .exact lA h0 ((jt.1 e).1 b d)
instance (k:Key):Decidable (cz k):=by unfold cz;infer_instance
theorem nX{w:J}{t:Y}{l:Key}(h:Src 1 w t (aG l)):aN aj 209 #[t] w (λv w'=>v=.bool (decide (cz l))/\w=w'):=by
 have a:=len8 h;refine okF (I7.nX t) I6.nX func209 ?_;unfold I7.nX;refine⟨?_,rfl⟩
 congr 1
 rw[fU,dX,cQ,cQ,cQ];unfold cz;omega
theorem jX{B:Nat->Prop}{w:J}{n:aB}{K V D:Y}(h:bz B w n K V D)(h1:n.keys.length<=100000)(h2:n.vals.length<=100000)(O:n.kids.length<=100000):
 aN aj 203 #[cW n K V D] w (λv w'=>∃b:ah,v=b/\(b=true↔cC n)/\Ext w w'):=by
 refine okF (I7.jX n.leaf K V D) I6.jX func203 ?_;(delta I7.jX af U ai aK aF ar ay a7;dsimp only);refine bd (vs:=[n.leaf,K,V,D]) rfl λw1 d m _=>?_;obtain⟨bS,ay,aR,aF⟩:=bC d;have g:=h.ext m;have x:=bj.len g.keys;have P:=bj.len g.vals;have aO:=cH.len g.kids;refine⟨K,ay,λi w'=>∃j:Nat,i=j/\j<=n.keys.length/\w1=w'/\(∀ (k:Nat) (f:k<n.keys.length),k<j->cz n.keys[k])/\∀ (k:Nat) (f:k+1<n.keys.length),k+1<j->bD n.keys[k] n.keys[k+1],
  λi _=>((n.keys.length:Int)-i).toNat,⟨0,rfl,cE _,rfl,λk f h=>I,λk f h=>I⟩,?_⟩
 rintro _ _ ⟨j,rfl,o,rfl,y,z⟩;refine⟨λaJ=>?_,λp=>?_⟩
 .have aJ:j<n.keys.length:=by have:=b1 aJ;omega
  obtain⟨A,t,aq,a,hc,ht,_⟩:=bj.at g.keys aJ;refine⟨A,aq,a,t,hc,(nX ht.1).use ?_⟩;rintro _ _ ⟨rfl,rfl⟩;refine⟨_,rfl,cj (λb w'=>w1=w'/\(b=true->¬cC n)/\(b=false->cz n.keys[j]/\∀ (o:1<=j),bD (n.keys[j-1]'I) n.keys[j])) (λq c=>⟨λa=>?_,λa=>?_⟩) ?_⟩
  .have a:¬cz n.keys[j]:=by simpa using a
   exact c _ _ ⟨rfl,λ_ hs=>a (hs.keys.ok _ (cA aJ)),λh=>by cases h⟩
  .have a:cz n.keys[j]:=by simpa using a
   refine cj (λb w'=>w1=w'/\(b=true->¬cC n)/\(b=false->∀ (o:1<=j),bD (n.keys[j-1]'I) n.keys[j])) (λdA C=>⟨λh0=>?_,λh0=>?_⟩) ?_
   .have h0:1<=j:=by have:=b1 h0;omega
    rw[bu (n:=(j:Int)-1) I I,show(j:Int)-1=((j-1:Nat):Int) from I];obtain⟨F,t2,G,r,H,L,_⟩:=bj.at g.keys (i:=j-1) I;refine⟨K,ay,F,G,r,t2,H,(kn L.1 ht.1).use ?_⟩;rintro _ _ ⟨rfl,rfl⟩;refine⟨_,rfl,C _ _ ⟨rfl,λhc hs=>?_,λhc _=>?_⟩⟩
    .have hc:=b1 hc
     have:bD (n.keys[j-1]'I) n.keys[j]:=mI.1 hs.keys.e4 (j-1) j I aJ I;unfold bD at this;omega
    .have hc:=cp hc
     unfold bD;omega
   .have h0:=cp h0
    exact C _ _ ⟨rfl,λh=>(by cases h),λ_ o=>I⟩
   .rintro b w' ⟨rfl,au,aw⟩
    exact c _ _ ⟨rfl,au,λr=>⟨a,aw r⟩⟩
  .rintro b w' ⟨rfl,au,aw⟩
   refine⟨λa=>⟨false,rfl,⟨λh=>(by cases h),λhs=>absurd hs (au a)⟩,m⟩,λa=>?_⟩;obtain⟨M,N⟩:=aw a;rw[bu (n:=(j:Int)+1) I I];refine⟨⟨j+1,I,I,rfl,λk f h=>?_,λk f h=>?_⟩,?_⟩
   .rcases dC k j with h1|h1
    .exact y k f h1
    .have:k=j:=by omega
     subst this;exact M
   .rcases dC (k+1) j with h1|h1
    .exact z k f h1
    .have:j=k+1:=by omega
     subst this;exact N I
   .show((n.keys.length:Int)-((j:Int)+1)).toNat<((n.keys.length:Int)-(j:Int)).toNat
    omega
 .have p:j=n.keys.length:=by have:=cp p;omega
  subst p;have E:ve n:=⟨λk f=>by
   obtain⟨i,hi,rfl⟩:=fb f;exact y i hi hi,AY λi hi=>z i hi hi⟩
  refine⟨n.leaf,bS,λl=>⟨V,aR,K,ay,?_⟩,λl=>⟨K,ay,?_⟩⟩
  .refine cj (λb w'=>w1=w'/\b=(decide (n.vals.length=n.keys.length)&&decide (n.kids=[]))) (λq c=>⟨λa=>⟨D,aF,c _ _ ⟨rfl,?_⟩⟩,λa=>c _ _ ⟨rfl,?_⟩⟩) ?_
   .have a:=eq_of_beq a
    rw[dm (show n.vals.length=n.keys.length from I),jo,fU,kJ,cQ,←kH];omega
   .have a:¬((V.len:Int)=(K.len:Int)):=λe=>by rw[e]at a;simp at a
    rw[hD I,lT]
   rintro b w' ⟨rfl,rfl⟩;refine cj (λb w'=>w1=w'/\(b=true↔cC n)) (λq c=>⟨λa=>⟨V,aR,(Fw g.vals I).use ?_⟩,λa=>c _ _ ⟨rfl,?_⟩⟩) ?_
   .rintro _ _ ⟨rfl,rfl⟩
    refine⟨_,rfl,c _ _ ⟨rfl,?_⟩⟩;simp only[dX,cQ]at a;rw[k9,oN];constructor
    .intro s
     exact .inl ⟨E,l,a.1,a.2,λv d=>by have:=s v d;simp at this;omega⟩
    .rintro(hs|hs)
     .intro v d;have:=hs.vals v d;simp;omega
     .have:=hs.inner;rw[l]at this;cases this
   .have a:¬(n.vals.length=n.keys.length/\n.kids=[]):=by simpa using a
    refine⟨λh=>(by cases h),?_⟩;rintro(hs|hs)
    .exact absurd ⟨hs.len,hs.kids⟩ a
    .have:=hs.inner;rw[l]at this;cases this
   rintro b w' ⟨rfl,a⟩;exact⟨b,rfl,a,m⟩
  .refine cj (λb w'=>w1=w'/\b=(decide (n.keys≠ [])&&decide (n.kids.length=n.keys.length+1))) (λq c=>⟨λa=>⟨D,aF,K,ay,c _ _ ⟨rfl,?_⟩⟩,λa=>c _ _ ⟨rfl,?_⟩⟩) ?_
   .have a:=b1 a
    have u:n.keys≠ []:=λe=>by rw[e]at x;simp at x;omega
    rw[dm u,jo,fU,kJ,cQ,bu I I];omega
   .have a:=cp a
    have u:n.keys=[]:=kH.1 I;rw[hD (λh=>h u),lT]
   rintro b w' ⟨rfl,rfl⟩;refine cj (λb w'=>w1=w'/\b=(decide (n.keys≠ [])&&decide (n.kids.length=n.keys.length+1)&&decide (n.vals=[]))) (λq c=>⟨λa=>⟨V,aR,c _ _ ⟨rfl,?_⟩⟩,λa=>c _ _ ⟨rfl,?_⟩⟩) ?_
   .rw[a,jo,fU,kJ,cQ,←kH]
    omega
   .rw[a,lT]
   rintro b w' ⟨rfl,rfl⟩;refine cj (λb w'=>w1=w'/\(b=true↔cC n)) (λq c=>⟨λa=>⟨D,aF,(Fx g.kids I).use ?_⟩,λa=>c _ _ ⟨rfl,?_⟩⟩) ?_
   .rintro _ _ ⟨rfl,rfl⟩
    refine⟨_,rfl,c _ _ ⟨rfl,?_⟩⟩;simp only[dX,cQ]at a;rw[k9,oN];constructor
    .intro s
     exact .inr ⟨E,l,a.1.1,a.1.2,a.2,λv d=>by have:=s v d;simp at this;omega⟩
    .rintro(hs|hs)
     .have:=hs.leaf;rw[l]at this;cases this
     .intro v d;have:=hs.kids v d;simp;omega
   .have a:¬((n.keys≠ []/\n.kids.length=n.keys.length+1)/\n.vals=[]):=λe=>by
     rw[dm e.1.1,dm e.1.2,dm e.2]at a;cases a
    refine⟨λh=>(by cases h),?_⟩;rintro(hs|hs)
    .have:=hs.leaf;rw[l]at this;cases this
    .exact absurd ⟨⟨hs.some,hs.len⟩,hs.vals⟩ a
   rintro b w' ⟨rfl,a⟩;exact⟨b,rfl,a,m⟩
theorem Fy{w:J}{a b:Y}{c lb:O UInt8}(h:Src 1 w a (aG c))(i:Src 1 w b (aG lb))(k:c.length+lb.length<=1000):
 aN aj 92 #[.slice (some w.heap.size) 2 2] (w.alloc (.cells #[a,b] 48)) (λv w'=>∃d:Y,v=d/\a8 1 5 w' d (aG (c++lb))/\Ext w w'/\gR w d):=by
 have hx:=eA w (.cells #[a,b] 48);refine(vt (s:=⟨some w.heap.size,2,2⟩) [(a,c),(b,lb)] (Src.new w _ 2 rfl) ?_ (by simp[eJ];omega) (by simp)).mono ?_
 .intro p f
  simp only[cS,eS,eW]at f;rcases f with rfl|rfl
  .exact h.ext hx
  .exact i.ext hx
 .rintro _ w' ⟨d,rfl,g,j,hf⟩
  have e:eJ [(a,c),(b,lb)]=c++lb:=by simp[eJ]
  rw[e]at g;exact⟨d,rfl,g,hx.trans j,hf.mono hx.size⟩
theorem Fz{w:J}{a b c:Y}{d lb lc:O UInt8}(i:Src 1 w a (aG d))(j:Src 1 w b (aG lb))(hc:Src 1 w c (aG lc))(l:d.length+lb.length+lc.length<=1000):
 aN aj 92 #[.slice (some w.heap.size) 3 3] (w.alloc (.cells #[a,b,c] 48)) (λv w'=>∃f:Y,v=f/\a8 1 5 w' f (aG (d++(lb++lc)))/\Ext w w'/\gR w f):=by
 have hx:=eA w (.cells #[a,b,c] 48);refine(vt (s:=⟨some w.heap.size,3,3⟩) [(a,d),(b,lb),(c,lc)] (Src.new w _ 3 rfl) ?_ (by simp[eJ];omega) (by simp)).mono ?_
 .intro p g
  simp only[cS,eS,eW]at g;rcases g with rfl|rfl|rfl
  .exact i.ext hx
  .exact j.ext hx
  .exact hc.ext hx
 .rintro _ w' ⟨f,rfl,h,k,hf⟩
  have e:eJ [(a,d),(b,lb),(c,lc)]=d++(lb++lc):=by simp[eJ]
  rw[e]at h;exact⟨f,rfl,h,hx.trans k,hf.mono hx.size⟩
theorem AZ(w:J){n:Nat}(a:n<=255):Src 1 (w.alloc (.cells #[.int .u8 (IntKind.wrap .u8 (n:Int))] 5)) ⟨some w.heap.size,1,1⟩ (aG [UInt8.ofNat n])/\Ext w (w.alloc (.cells #[.int .u8 (IntKind.wrap .u8 (n:Int))] 5)):=by
 have e:(#[.int .u8 (IntKind.wrap .u8 (n:Int))]:Array aa)=(aG [UInt8.ofNat n]).toArray:=by
  rw[wS I I];simp[aG,jv (show n<256 from I)]
 rw[e];exact⟨Src.new w _ 1 rfl,eA _ _⟩
theorem ff{α:Type}{l:O α}{i:Nat}{d:α}(h:i<l.length):l.getD i d=l[i]:=by
 rw[ft,du h];rfl
theorem cC.k2{n:aB}(h:cC n)(a:n.leaf=true):n.vals.length=n.keys.length:=by
 rcases h with h|h
 .exact h.len
 .have:=h.inner;rw[a]at this;cases this
theorem cC.p2{n:aB}(h:cC n)(a:n.leaf=false):n.kids.length=n.keys.length+1:=by
 rcases h with h|h
 .have:=h.leaf;rw[a]at this;cases this
 .exact h.len
theorem mX{B:Nat->Prop}{w:J}{n:aB}{K V D:Y}(h:bz B w n K V D)(hs:cC n){i:Nat}(hi:i<n.keys.length)(ad:n.keys.length<=100000):
 aN aj 298 #[cW n K V D,i] w (λv w'=>∃s:Y,v=s/\a8 1 5 w' s (aG (gP n i))/\Ext w w'/\gR w s):=by
 refine okF (I7.mX n.leaf K V D (i:Int)) I6.mX func298 ?_;(delta I7.mX U af aK aZ a7 ai ar r1;dsimp only);refine bd (vs:=[n.leaf,K,V,D]) rfl λw1 r e _=>?_;have u:=b4 w1;have Q:=e.trans u;have R:=h.ext Q;obtain⟨bS,ay,aR,aF⟩:=bC (r.ext u);obtain⟨A,t,aq,L,hc,ht,_⟩:=bj.at R.keys hi;have ae:=(hs.keys.ok _ (cA hi)).2;have S:=len8 ht.1;obtain⟨T,x⟩:=AZ w1.drew (n:=t.len) I;refine aS ⟨λ_=>False,id,K,ay,A,aq,L,id,t,hc,id,K,ay,A,aq,L,id,t,hc,aS ⟨x,aS ?_⟩⟩;refine(Fy (a:=⟨some w1.drew.heap.size,1,1⟩) (b:=t) T (ht.1.ext x) (by simp;omega)).use ?_;rintro _ y ⟨M,rfl,z,W,ag⟩;have d:=u.trans (x.trans W);obtain⟨d0,d1,d2,d3⟩:=bC (r.ext d);have X: [UInt8.ofNat t.len]++n.keys[i]=m5 (n.keys.getD i []):=by rw[ff hi,S];rfl
 rw[X]at z;have N:=h.ext (e.trans d);refine⟨M,rfl,n.leaf,d0,λf=>?_,λf=>?_⟩
 .have ah:=hs.k2 f
  have C:i<n.vals.length:=by omega
  have g:=b4 y;have Z:=N.ext g;obtain⟨ak,al,O,am⟩:=bC (r.ext (d.trans g));obtain⟨m,t2,o,p,q,P,_⟩:=bj.at Z.vals C;have an:=hs.vals _ (cA C);have aa:=len8 P.1;obtain⟨ab,j⟩:=AZ y.drew (n:=t2.len) I;refine aS ⟨λ_=>False,id,V,O,m,o,p,id,t2,q,id,V,O,m,o,p,id,t2,q,aS ⟨j,aS ?_⟩⟩;refine(Fz (a:=M) (b:=⟨some y.drew.heap.size,1,1⟩) (c:=t2) (z.src.ext (g.trans j)) ab (P.1.ext j) (by rw[m6,ff hi];simp;omega)).use ?_;rintro _ ac ⟨l,rfl,E,F,G⟩;refine⟨l,rfl,l,rfl,?_,(e.trans d).trans (g.trans (j.trans F)),G.mono ((e.trans d).trans (g.trans j)).size⟩;have:m5 (n.keys.getD i [])++([UInt8.ofNat t2.len]++n.vals[i])=gP n i:=by
   unfold gP;rw[f,if_pos rfl,ff C,aa];rfl
  rwa[this]at E
 .have ao:=hs.p2 f
  have H:i+1<n.kids.length:=by omega
  obtain⟨m,o,p,q⟩:=cH.at N.kids H;have ap:=hs.kids _ (cA H);rw[bu (n:=(i:Int)+1) I I,show(i:Int)+1=((i+1:Nat):Int) from I];refine⟨D,d3,m,o,p,_,q,?_⟩;rw[gO (n:=((n.kids[i+1]:Nat):Int)) I I];refine(ib z.src (n:=n.kids[i+1]) (k:=2) (by rw[m6,ff hi];omega) (by show _<18446744073709551616;omega) ⟨by decide,by decide⟩).use ?_;rintro _ ac ⟨l,rfl,E,F,G⟩;refine⟨l,rfl,l,rfl,?_,(e.trans d).trans F,gR.mono G (e.trans d).size⟩;have:m5 (n.keys.getD i [])++b3 n.kids[i+1] 2=gP n i:=by
   unfold gP;rw[f,if_neg (by simp),ff H]
  rwa[this]at E
theorem vA{n:aB}(hs:cC n){i:Nat}(hi:i<n.keys.length):(gP n i).length<=100:=by
 unfold gP;have:=(hs.keys.ok _ (cA hi)).2;rw[ct,m6,ff hi];split
 .rename_i b
  have a:i<n.vals.length:=by have:=hs.k2 b;omega
  have:=hs.vals _ (cA a);rw[m6,ff a];omega
 .rw[eZ];omega
theorem xL{n:aB}(hs:cC n):∀m,m<=n.keys.length->(hL n 0 m).length<=100*m
 |0,_=>by simp[hL]
 |m+1,a=>by
  have:=xL hs m I
  have:=vA hs (i:=m) I
  rw[xB,ct];omega
theorem n2{B:Nat->Prop}{w:J}{n:aB}{K V D:Y}(h:bz B w n K V D)(hs:cC n)(ak:n.keys.length<=255):
 aN aj 293 #[cW n K V D] w (λv w'=>∃s:Y,v=s/\a8 1 5 w' s (aG (jj n))/\Ext w w'/\gR w s):=by
 refine okF (I7.n2 n.leaf K V D) I6.n2 func293 ?_;(delta I7.n2 af U a7 ai aK r1 aZ ar;dsimp only);refine bd (vs:=[n.leaf,K,V,D]) rfl λw1 g l _=>?_;obtain⟨bS,ay,aR,aF⟩:=bC g;have u:=h.ext l;have E:=bj.len u.keys;have F:(#[.int .u8 (IntKind.wrap .u8 (K.len:Int))]:Array aa)=(aG [UInt8.ofNat n.keys.length]).toArray:=by
  rw[E,wS I I];simp[aG,jv (show n.keys.length<256 from I)]
 refine⟨K,ay,?_⟩;rw[F];have m:=a8.new (T:=5) (sz:=1) w1 (aG [UInt8.ofNat n.keys.length]) 1 rfl (by decide);have c:=eA w1 (.cells (aG [UInt8.ofNat n.keys.length]).toArray 5);obtain⟨ag,G⟩:∃ag,ag=w1.alloc (.cells (aG [UInt8.ofNat n.keys.length]).toArray 5):=⟨_,rfl⟩;rw[←G]at m c⊢;obtain⟨d0,d1,d2,d3⟩:=bC (g.ext c);have H:=l.trans c;refine aS (cj (λd w'=>a8 1 5 w' d (aG (preB n))/\Ext ag w'/\gR w1 d) (λq x=>⟨n.leaf,d0,λa=>?_,λa=>x _ _ ⟨?_,.refl _ _,?_⟩⟩) ?_)
 .have a:n.leaf=false:=by simpa using a
  have al:=hs.p2 a;have o:0<n.kids.length:=by omega
  obtain⟨L,M,N,O⟩:=cH.at (h.ext H).kids o;have am:=hs.kids _ (cA o);refine⟨D,d3,L,M,N,_,O,?_⟩;rw[gO (n:=((n.kids[0]:Nat):Int)) I I];refine(ib m.src (n:=n.kids[0]) (k:=2) (by simp) (by show _<18446744073709551616;omega) ⟨by decide,by decide⟩).use ?_;rintro _ P ⟨p,rfl,e,b,f⟩;refine⟨p,rfl,x _ _ ⟨?_,b,gR.mono f c.size⟩⟩;have: [UInt8.ofNat n.keys.length]++b3 n.kids[0] 2=preB n:=by
   unfold preB;rw[a,if_neg (by simp),ff o];rfl
  rwa[this]at e
 .have a:n.leaf=true:=by simpa using a
  have:preB n=[UInt8.ofNat n.keys.length]:=by unfold preB;rw[a];rfl
  rw[this];exact m
 .rintro k ⟨A,aq,rfl⟩
  cases aq;exact bn _
 rintro an ao ⟨Q,R,S⟩;have y:=c.trans R;obtain⟨d0,d1,d2,d3⟩:=bC (g.ext y);have ap:(preB n).length<=3:=by
  unfold preB
  cases n.leaf<;>simp[eZ]
 refine⟨K,d1,λd i w'=>∃j:Nat,i=j/\j<=n.keys.length/\a8 1 5 w' d (aG (preB n++hL n 0 j))/\Ext w1 w'/\gR w1 d,λ_ i _=>((n.keys.length:Int)-i).toNat,⟨0,rfl,cE _,by simpa[hL] using Q,y,S⟩,?_⟩;rintro p _ P ⟨j,rfl,W,e,b,f⟩;refine⟨λaJ=>?_,λr=>?_⟩
 .have aJ:j<n.keys.length:=by have:=b1 aJ;omega
  obtain⟨f0,f1,f2,f3⟩:=bC (g.ext b);refine⟨n.leaf,f0,K,f1,V,f2,D,f3,(mX (u.ext b) hs aJ I).use ?_⟩;rintro _ av ⟨X,rfl,z,t,ax⟩;have C:=me e;have Z:=me z;have b5:=vA hs aJ;have bM:=xL hs j W;rw[ct]at C;obtain⟨ab,ac,au,aw,az,ad,ae⟩:=oh.append (cG:=48) z.src (e.ext t) (kZ _) (by rw[C,Z];omega);rw[bu (n:=(j:Int)+1) I I];refine⟨X,rfl,ab,ac,au,⟨j+1,I,I,?_,Ext.dr (b.trans t) ad f,λk ah=>?_⟩,?_⟩
  .rw[xB,←cM,og];exact aw
  .rcases ae k ah with h|h
   .exact f k h
   .exact ew (b.trans t).size h
  .show((n.keys.length:Int)-((j:Int)+1)).toNat<((n.keys.length:Int)-(j:Int)).toNat
   omega
 .have r:j=n.keys.length:=by have:=cp r;omega
  subst r;exact⟨p,rfl,e,l.trans b,f.mono l.size⟩
theorem n0{B:Nat->Prop}{w:J}{n:aB}{K V D:Y}(h:bz B w n K V D)(hs:cC n)(f:n.keys.length<=255):
 aN aj 280 #[cW n K V D] w (λv w'=>v=.int .i64 (bF n:Nat)/\Ext w w'):=by
 have g:n.vals.length<=100000:=by
  rcases hs with hs|hs
  .rw[hs.len];omega
  .rw[hs.vals];simp
 have i:n.kids.length<=100000:=by
  rcases hs with hs|hs
  .rw[hs.kids];simp
  .rw[hs.len];omega
 refine okF (I7.n0 n.leaf K V D) I6.n0 func280 ?_;(delta I7.n0 a7 U af aF ai aZ;dsimp only);refine bd (vs:=[n.leaf,K,V,D]) rfl λw1 d a _=>?_;obtain⟨bS,ay,aR,aF⟩:=bC d;refine⟨n.leaf,bS,K,ay,V,aR,D,aF,(jX (h.ext a) I g i).use ?_⟩;rintro _ ag ⟨b,rfl,j,c⟩;have k:=j.2 hs;subst k;obtain⟨bS,ay,aR,aF⟩:=bC (d.ext c);refine⟨true,rfl,λh=>(by cases h),λ_=>⟨n.leaf,bS,K,ay,V,aR,D,aF,(n2 (h.ext (a.trans c)) hs f).use ?_⟩⟩;rintro _ p ⟨l,rfl,m,o,_⟩;have e:=me m;rw[xE hs]at e;exact⟨l,rfl,by rw[e],(a.trans c).trans o⟩
def A0(n:aB)(w w':J)(v:aa):Prop:=
 (∃s:Y,v=.tuple #[s,(0:Int)]/\a8 1 5 w' s (aG (jj n))/\gR w s/\cC n/\bF n<=232)\/
 (∃e:Int,v=.tuple #[(),e]/\e≠0/\(cC n->232<bF n))
theorem nZ{B:Nat->Prop}{w:J}{n:aB}{K V D:Y}(h:bz B w n K V D)(m:n.keys.length<=100000)(o:n.vals.length<=100000)(p:n.kids.length<=100000):
 aN aj 274 #[cW n K V D] w (λv w'=>A0 n w w' v/\Ext w w'):=by
 refine okF (I7.nZ n.leaf K V D) I6.nZ func274 ?_;(delta I7.nZ a7 U af aF ai aZ;dsimp only);refine bd (vs:=[n.leaf,K,V,D]) rfl λw1 d e _=>?_;obtain⟨bS,ay,aR,aF⟩:=bC d;refine⟨n.leaf,bS,K,ay,V,aR,D,aF,(jX (h.ext e) m o p).use ?_⟩;rintro _ ag ⟨b,rfl,f,g⟩;have a:=e.trans g;obtain⟨bS,ay,aR,aF⟩:=bC (d.ext g);have u:=bj.len h.keys;refine⟨b,rfl,cj (λc w'=>ag=w'/\(c=true->cC n->255<n.keys.length)/\(c=false->cC n/\n.keys.length<=255)) (λq i=>⟨λh1=>i _ _ ⟨rfl,λ_ hs=>?_,λh=>(by cases h)⟩,λh1=>⟨K,ay,i _ _ ⟨rfl,λh2 hs=>?_,λh2=>?_⟩⟩⟩) ?_⟩
 .have h1:b=false:=by simpa using h1
  rw[f.2 hs]at h1;cases h1
 .have:=b1 h2;omega
 .have h1:b=true:=by simpa using h1
  have:=cp h2;exact⟨f.1 h1,I⟩
 rintro c w' ⟨rfl,au,aw⟩;refine⟨λh1=>⟨.inr ⟨4,rfl,by decide,λhs=>?_⟩,a⟩,λh1=>?_⟩
 .have:=au h1 hs
  have:=vm hs;omega
 obtain⟨hs,r⟩:=aw h1;refine⟨n.leaf,bS,K,ay,V,aR,D,aF,(n2 (h.ext a) hs r).use ?_⟩;rintro _ x ⟨j,rfl,k,l,s⟩;have t:=me k;rw[xE hs]at t;refine⟨j,rfl,λh2=>⟨.inr ⟨10,rfl,by decide,λ_=>?_⟩,a.trans l⟩,λh2=>⟨.inl ⟨j,rfl,k,s.mono a.size,hs,?_⟩,a.trans l⟩⟩
 .have:=b1 h2;omega
 .have:=cp h2;omega
theorem pP{B:Nat->Prop}{w:J}{n:aB}{K V D:Y}(h:bz B w n K V D)(d:n.keys.length<=100000)(f:n.vals.length<=100000)(g:n.kids.length<=100000):
 aN aj 295 #[cW n K V D] w (λv w'=>A0 n w w' v/\Ext w w'):=by
 refine okF (I7.pP n.leaf K V D) I6.pP func295 ?_;(delta I7.pP a7 U af b6;dsimp only);refine bd (vs:=[n.leaf,K,V,D]) rfl λw1 i a _=>?_;obtain⟨bS,ay,aR,aF⟩:=bC i;refine⟨n.leaf,bS,K,ay,V,aR,D,aF,(nZ (h.ext a) d f g).use ?_⟩;rintro _ ag ⟨j,c⟩;rcases j with ⟨s,rfl,k,hf,hs,b⟩|⟨e,rfl,he,b⟩
 .exact⟨s,0,rfl,.inl ⟨s,rfl,k,hf.mono a.size,hs,b⟩,a.trans c⟩
 .exact⟨⟨none,0,0⟩,e,rfl,.inr ⟨e,rfl,he,b⟩,a.trans c⟩
theorem dJ{w:J}{b i:Nat}{vs:O aa}{T:TypeId}(h:Var w b vs T)(v:aa):Var (w.setCell ⟨b,i,none⟩ v) b (vs.set i v) T:=by
 have:=bt.set h i v;have e:vs.toArray.setIfInBounds i v=(vs.set i v).toArray:=by simp
 rw[e]at this;exact this
theorem dH{w:J}{b i:Nat}{vs:O aa}{T:TypeId}(h:Var w b vs T)(hi:i<vs.length):(∃u:aa,w.cell? ⟨b,i,none⟩=some u)/\w.frozen? ⟨b,i,none⟩=false:=
 ⟨⟨vs[i],by rw[h.cell];simp[hi]⟩,bt.frozen h _ rfl⟩
theorem dn(w:J)(b i:Nat)(v:aa):ad (λq=>q=b) w (w.setCell ⟨b,i,none⟩ v):=ad.gP (.refl _ _) v
structure jk(w:J)(r:Nat)(s:Y)(rd:Rd):Prop where
 v:Var w r [s,rd.2] 354
 src:Src 1 w s (aG rd.1)
 le:s.len<=s.cap
 ne:∀k,az s k->k≠r
theorem jk.ae{W:Nat->Prop}{w w':J}{r:Nat}{s:Y}{rd:Rd}(h:jk w r s rd)(hc:ad W w w')(h1:¬W r)(h2:∀k,az s k->¬W k):jk w' r s rd:=⟨h.v.ae hc h1,h.src.ae hc h2,h.le,h.ne⟩
theorem jk.ext{w w':J}{r:Nat}{s:Y}{rd:Rd}(h:jk w r s rd)(hc:Ext w w'):jk w' r s rd:=jk.ae h hc id λ_ _ h=>h
theorem vB{a:ao ab}{z l m n c k:Nat}(h:az ⟨aM a z l m,n,c⟩ k):∃A,a=some A/\A.block=k:=by
 obtain⟨A,aq,rfl⟩:=h;unfold aM at aq;split at aq
 .exact⟨A,aq,rfl⟩
 .cases b:a with
  |none=>rw[b]at aq;cases aq
  |some d=>
   rw[b]at aq;simp only[ld,Option.some.injEq]at aq;exact⟨d,rfl,by subst aq;unfold Addr.add;split<;>rfl⟩
theorem A1{w:J}{r:Nat}{s:Y}{rd:Rd}(h:jk w r s rd)(k:Nat)(z:k<=100000)(u:rd.1.length<=100000):
 aN aj 292 #[.pointer (some r),k] w (λv w'=>∃t m:Y,v=t/\aY (λq=>w.heap.size<=q) w' t (hM rd k).1/\jk w' r m (hM rd k).2/\ad (λq=>q=r) w w'/\(∀q,az m q->az s q)):=by
 obtain⟨l,ok⟩:=rd;have f:=h.v;have x:=len8 h.src;simp only at x u f;have aJ:=f.lt;refine okF (I7.u0 (some r) (k:Int)) I6.u0 func292 ?_;(delta I7.u0 a7 ai af st aZ;dsimp only);refine⟨_,rfl,ok,by rw[av];exact f.cell,cj (λb w'=>w=w'/\b=decide (ok=false\/l.length<k)) (λq c=>⟨λh1=>c _ _ ⟨rfl,?_⟩,λh1=>⟨_,rfl,s,f.cell,c _ _ ⟨rfl,?_⟩⟩⟩) ?_⟩
 .have h1:ok=false:=by simpa using h1
  exact(dm (.inl h1)).symm
 .have h1:ok=true:=by simpa using h1
  subst h1;rw[fU,cQ,cQ];constructor
  .intro h;exact .inr I
  .rintro(h|h)
   .cases h
   .omega
 rintro b w' ⟨rfl,rfl⟩;refine⟨λd=>⟨_,rfl,?_⟩,λd=>⟨_,rfl,s,f.cell,?_⟩⟩
 .have d:=b1 d
  obtain⟨au,aw⟩:=dH f (i:=1) (by simp);rw[av];have hc:=dn w r 1 false;have e:hM (l,ok) k=([],(l,false)):=by unfold hM;rw[if_pos d]
  rw[e];refine⟨au,aw,aS ⟨⟨none,0,0⟩,s,rfl,⟨(a8.none 1 5 _).src,bn _,λq c=>(gf q c).elim⟩,⟨dJ f _,h.src.ae hc λq c=>h.ne q c,h.le,h.ne⟩,hc,λq c=>c⟩⟩
 .have d:=cp d
  have e:hM (l,ok) k=(l.take k,(l.drop k,true)):=by unfold hM;rw[if_neg d]
  have C:k<=l.length:=by
   rcases dC l.length k with h1|h1
   .exact absurd (.inr h1) d
   .exact h1
  have y:ok=true:=by
   cases ok with
   |true=>rfl
   |false=>exact absurd (.inl rfl) d
  subst y;rw[e];have D:=h.le;refine⟨⟨I,I⟩,?_⟩;have n:=m9 h.src h.le (lo:=0) (hi:=k) I I;rw[lh,oP]at n;rw[c8,oP];refine(kr (B:=λq=>w.heap.size<=q) (s:=⟨aM s.a 1 0 s.cap,k,s.cap-0⟩) n (by rw[cy];omega) (λq c=>c)).use ?_;rintro _ w1 ⟨t,rfl,ht,g,E⟩;have j:=f.ext g;obtain⟨au,aw⟩:=dH j (i:=0) (by simp);have hc:=dn w1 r 0 (.slice (aM s.a 1 k s.cap) (s.len-k) (s.cap-k));have o:=m9 (h.src.ext g) h.le (lo:=k) (hi:=s.len) I (bn _);rw[dD (l:=l.drop k) (by rw[c5];omega)]at o;have p:∀q,az ⟨aM s.a 1 k s.cap,s.len-k,s.cap-k⟩ q->q≠r:=λq c=>by
   obtain⟨A,aq,d⟩:=vB c;exact h.ne q ⟨A,aq,d⟩
  refine⟨t,rfl,_,rfl,s,j.cell,⟨I,I⟩,_,rfl,au,aw,aS ⟨t,⟨aM s.a 1 k s.cap,s.len-k,s.cap-k⟩,rfl,aY.ae ht hc (λq c e=>by subst e;omega),⟨dJ j _,o.ae hc λq c=>p q c,by show s.len-k<=s.cap-k;omega,p⟩,(ad.cF g).trans hc,λq c=>?_⟩⟩;obtain⟨A,aq,d⟩:=vB c;exact⟨A,aq,d⟩
theorem xM{w:J}{r:Nat}{s:Y}{rd:Rd}(h:jk w r s rd)(k:Nat)(c:1<=k/\k<=2)(g:rd.1.length<=100000):
 aN aj 272 #[.pointer (some r),k] w (λv w'=>∃b:Y,v=.int .i64 ((rdNum rd k).1:Nat)/\jk w' r b (rdNum rd k).2/\ad (λq=>q=r) w w'/\(∀q,az b q->az s q)):=by
 refine okF (I7.uW (some r) (k:Int)) I6.uW func272 ?_;(delta I7.uW aZ kU ar;dsimp only);refine(A1 h k I g).use ?_;rintro _ w1 ⟨t,b,rfl,ht,d,hc,e⟩;have hlen:(hM rd k).1.length=k\/(hM rd k).1=[]:=by
  unfold hM;split
  .exact .inr rfl
  .rename_i i
   left;rw[cy];have:¬rd.1.length<k:=λh=>i (.inr h);omega
 have f:=m4 k (hM rd k).1;have j:256^k<=65536:=ew (sm I c.2) (by decide);refine⟨t,rfl,?_⟩;rcases hlen with hlen|hlen
 .refine(kV (a:=0) (k:=k) ht.1 ht.2.1 ⟨c.1,I⟩ I I).use ?_
  rintro _ _ ⟨rfl,rfl⟩;have f:=f hlen;rw[lh,dD I];refine⟨_,_,rfl,b,?_,d,hc,e⟩;rw[bu I I];unfold rdNum;rw[if_pos hlen]
 .refine(Fm (k:=k) ht.1 I (by rw[hlen];simp;omega)).use ?_
  rintro _ _ ⟨rfl,rfl⟩;refine⟨_,_,rfl,b,?_,d,hc,e⟩;unfold rdNum;rw[if_neg (by rw[hlen];simp;omega)];rfl
theorem xN(rd:Rd)(k:Nat):(rdNum rd k).1<256^k:=by
 unfold rdNum;split
 .exact m4 k _ (by assumption)
 .exact Nat.pow_pos I
theorem A2(rd:Rd)(k:Nat):(hM rd k).2.1.length<=rd.1.length/\(hM rd k).1.length<=k:=by
 unfold hM;split
 .exact⟨bn _,cE _⟩
 .exact⟨by rw[c5];omega,by rw[cy];omega⟩
theorem vC(rd:Rd)(k:Nat):(rdNum rd k).2.1.length<=rd.1.length:=(A2 rd k).1
theorem A3(rd:Rd):(jB rd).2.1.length<=rd.1.length/\(jB rd).1.length<=255:=by
 unfold jB;have h1:=A2 (rdNum rd 1).2 (rdNum rd 1).1;have h2:=vC rd 1;have a:(rdNum rd 1).1<256:=xN rd 1;exact⟨I,I⟩
theorem A4{w:J}{r:Nat}{s:Y}{rd:Rd}(h:jk w r s rd)(d:rd.1.length<=100000):
 aN aj 273 #[.pointer (some r)] w (λv w'=>∃t b:Y,v=t/\aY (λq=>w.heap.size<=q) w' t (jB rd).1/\jk w' r b (jB rd).2/\ad (λq=>q=r) w w'/\(∀q,az b q->az s q)):=by
 refine okF (I7.uX (some r)) I6.uX func273 ?_;(delta I7.uX ay aZ;dsimp only);refine(xM h 1 I d).use ?_;rintro _ w1 ⟨s1,rfl,e,c,f⟩;have k:(rdNum rd 1).1<256:=xN rd 1;have l:=vC rd 1;refine⟨_,rfl,(A1 e (rdNum rd 1).1 I I).use ?_⟩;rintro _ ag ⟨t,s2,rfl,ht,g,i,j⟩;exact⟨t,rfl,t,s2,rfl,aY.aW ht λq _ a=>ew c.size a,g,c.trans i,λq a=>f q (j q a)⟩
theorem bp.aW{B C:Nat->Prop}{w:J}{s:Y}{ls:O Key}(h:bp B w s ls)(a:∀k,k<w.heap.size->B k->C k):bp C w s ls:=by
 obtain⟨ts,h1,h2,e,b⟩:=h;exact⟨ts,h1,h2,In.aW e a,λi c d=>⟨aY.aW (b i c d).1 a,(b i c d).2⟩⟩
theorem cO.aW{B C:Nat->Prop}{w:J}{s:Y}{ds:O Nat}(h:cO B w s ds)(a:∀k,k<w.heap.size->B k->C k):cO C w s ds:=⟨h.1,In.aW h.2 a⟩
def Grow(B:Nat->Prop)(w w':J)(q:Nat):Prop:=B q\/(w.heap.size<=q/\q<w'.heap.size)
theorem vD{w:J}{nb o:Nat}{vs:O aa}{S t:Y}{ls:O Key}{l:Key}{B:Nat->Prop}{T:TypeId}{W:Nat->Prop}(d:Var w nb vs T)(p:o<vs.length)(f:bp B w S ls)(g:¬B nb)
 (ht:aY B w t l) (hd:∀k,az t k->¬az S k) (D:ls.length<=100000) {K:J->Prop}
 (r:∀ (w':J) (aA:Y),Var w' nb (vs.set o aA) T->bp (Grow B w w') w' aA (ls++ [l])->ad (λq=>q=nb\/az S q) w w'->K w'):
 ak (w.alloc (.cells #[t] 48)) λi=>ad W w i/\∃j:Y,∃b:J,Sem.run aj (Builtin.append_ #[127,127] 127 #[S,.slice (some w.heap.size) 1 1]) i=.ok j b/\
  (∃u:aa,b.cell? (Addr.add nb o)=some u)/\b.frozen? (Addr.add nb o)=false/\ak (b.setCell (Addr.add nb o) j) λs=>K s:=by
 have v:=bp.aW (C:=λq=>B q\/w.heap.size<=q) f λk _ h=>.inl h;have x:=aY.aW (C:=λq=>B q\/w.heap.size<=q) ht λk _ h=>.inl h;obtain⟨c,w',au,aw,m,E⟩:=AX v x hd I λk a=>.inr a;have F:=d.lt;have y:¬az S nb:=λh=>by
  obtain⟨ts,_,_,z,_⟩:=f;exact g (z nb h).1
 have n:=d.ae m y;obtain⟨ay,aR⟩:=dH n p;refine aS ⟨ad.cF (eA _ _),c,w',au,?_⟩;rw[av,cx];have hc:=dn w' nb o c;refine⟨ay,aR,aS (r _ c (dJ n _) ?_ ?_)⟩
 .have A:=bp.aW (C:=Grow B w (w'.setCell ⟨nb,o,none⟩ c)) aw λk a h=>by
   rcases h with h|h
   .exact .inl h
   .exact .inr ⟨h,fN a hc.size⟩
  refine bp.ae A hc λk a e=>?_;subst e;rcases a with h|h
  .exact g h
  .omega
 .exact(m.mono λk _ h=>.inr h).trans (hc.mono λk _ h=>.inl h)
theorem A5{w:J}{nb o:Nat}{vs:O aa}{S:Y}{ds:O Nat}(d:Nat){B:Nat->Prop}{T:TypeId}{W:Nat->Prop}(f:Var w nb vs T)(p:o<vs.length)(g:cO B w S ds)(i:¬B nb)
 (y:ds.length<=100000) {K:J->Prop}
 (r:∀ (w':J) (aA:Y),Var w' nb (vs.set o aA) T->cO (Grow B w w') w' aA (ds++ [d])->ad (λq=>q=nb\/az S q) w w'->K w'):
 ak (w.alloc (.cells #[d] 3)) λj=>ad W w j/\∃l:Y,∃b:J,Sem.run aj (Builtin.append_ #[58,58] 58 #[S,.slice (some w.heap.size) 1 1]) j=.ok l b/\
  (∃u:aa,b.cell? (Addr.add nb o)=some u)/\b.frozen? (Addr.add nb o)=false/\ak (b.setCell (Addr.add nb o) l) λs=>K s:=by
 have t:=cO.aW (C:=λq=>B q\/w.heap.size<=q) g λk _ h=>.inl h;obtain⟨c,w',au,aw,m,z⟩:=Fv d t I λk a=>.inr a;have A:=f.lt;have v:¬az S nb:=λh=>i (g.2 nb h).1;have n:=f.ae m v;obtain⟨ay,aR⟩:=dH n p;refine aS ⟨ad.cF (eA _ _),c,w',au,?_⟩;rw[av,cx];have hc:=dn w' nb o c;refine⟨ay,aR,aS (r _ c (dJ n _) ?_ ?_)⟩
 .have x:=cO.aW (C:=Grow B w (w'.setCell ⟨nb,o,none⟩ c)) aw λk a h=>by
   rcases h with h|h
   .exact .inl h
   .exact .inr ⟨h,fN a hc.size⟩
  refine cO.ae x hc λk a e=>?_;subst e;rcases a with h|h
  .exact i h
  .omega
 .exact(m.mono λk _ h=>.inr h).trans (hc.mono λk _ h=>.inl h)
structure j0(lo:Nat)(w:J)(r nb:Nat)(s:Y)(m:aB×Rd)(K V D:Y)(bP b2 bG:Nat->Prop):Prop where
 v:Var w nb [m.1.leaf,K,V,D] 202
 rd:jk w r s m.2
 keys:bp bP w K m.1.keys
 vals:bp b2 w V m.1.vals
 kids:cO bG w D m.1.kids
 bf:∀q,bP q->lo<=q/\q<w.heap.size/\¬b2 q/\¬bG q
 bv:∀q,b2 q->lo<=q/\q<w.heap.size/\¬bG q
 aK:∀q,bG q->lo<=q/\q<w.heap.size
 hs:∀q,az s q->q<lo/\q≠nb
 oo:r<lo
 oq:nb<lo
 j1:r≠nb
 ot:m.2.1.length<=100000
def ou(lo r nb:Nat)(q:Nat):Prop:=q=r\/q=nb\/lo<=q
theorem j0.drew{lo:Nat}{w:J}{r nb:Nat}{s:Y}{m:aB×Rd}{K V D:Y}{bP b2 bG:Nat->Prop}(h:j0 lo w r nb s m K V D bP b2 bG):j0 lo w.drew r nb s m K V D bP b2 bG:=
 ⟨h.v.ext (b4 w),h.rd.ext (b4 w),bp.ext h.keys (b4 w),bp.ext h.vals (b4 w),cO.ext h.kids (b4 w),h.bf,h.bv,h.aK,h.hs,h.oo,h.oq,h.j1,h.ot⟩
theorem A6{leaf:ah}:∀ (s:aB×Rd) (i:Nat),s.1.leaf=leaf->(ie s i).1.leaf=leaf
 |_,0,h=>h
 |s,i+1,h=>by
  have a:=A6 s i h
  rw[ie]
  unfold om
  split
  .exact a
  .exact a
theorem A7:∀ (s:aB×Rd) (i:Nat),(ie s i).1.keys.length=s.1.keys.length+i/\(ie s i).1.vals.length<=s.1.vals.length+i/\(ie s i).1.kids.length<=s.1.kids.length+i
 |_,0=>⟨rfl,bn _,bn _⟩
 |s,i+1=>by
  obtain⟨h1,h2,a⟩:=A7 s i
  rw[ie]
  unfold om
  split<;>simp<;>omega
theorem FA{lo:Nat}{w:J}{r nb:Nat}{s:Y}{m:aB×Rd}{K V D:Y}{bP b2 bG:Nat->Prop}(h:j0 lo w r nb s m K V D bP b2 bG)(ac:lo<=w.heap.size)(G:m.1.keys.length<=100000){R:J->Prop}
 (H:∀ (w':J) (l n:Y) (L:Nat->Prop),j0 lo w' r nb n (⟨m.1.leaf,m.1.keys++ [(jB m.2).1],m.1.vals,m.1.kids⟩,(jB m.2).2) l V D L b2 bG->ad (ou lo r nb) w w'->lo<=w'.heap.size->R w'):
 ak w.drew λp=>∃x:Nat->Prop,¬x (Addr.add nb 1).block/\∃i:Y,p.cell? (Addr.add nb 1)=some (.slice i.a i.len i.cap)/\
  Calls aj 273 #[.pointer (some r)] p λM d=>∃C:Y,M=.returned C/\ad x p d/\
  ak (d.alloc (.cells #[C] 48)) λE=>ad x d E/\∃F:Y,∃j:J,Sem.run aj (Builtin.append_ #[127,127] 127 #[i,.slice (some d.heap.size) 1 1]) E=.ok F j/\
  (∃u:aa,j.cell? (Addr.add nb 1)=some u)/\j.frozen? (Addr.add nb 1)=false/\ak (j.setCell (Addr.add nb 1) F) λN=>R N:=by
 have hd:=h.drew;have af:=h.oo;have ag:=h.oq;obtain⟨bS,ay,aR,aF⟩:=bC hd.v;refine aS ⟨λq=>q=r,λe=>h.j1 (by rw[av]at e;exact e.symm),K,ay,(A4 hd.rd hd.ot).use ?_⟩;rintro _ d ⟨t,n,rfl,ht,O,hc,y⟩;have ah:w.drew.heap.size=w.heap.size:=rfl;have P:=hc.size;have z:∀ {B:Nat->Prop},(∀q,B q->lo<=q)->∀k,B k->¬(k=r):=λQ k c e=>by have:=Q k c;omega
 have S:=bp.ae hd.keys hc (z λq b=>(h.bf q b).1);have T:=bp.ae hd.vals hc (z λq b=>(h.bv q b).1);have U:=cO.ae hd.kids hc (z λq b=>(h.aK q b).1);have W:=hd.v.ae hc (λe=>h.j1 e.symm);refine⟨t,rfl,hc,vD (B:=Grow bP w.drew d) W (o:=1) (by simp) (bp.aW S λk _ h=>.inl h) ?_ (aY.aW ht λk c h=>.inr ⟨h,c⟩) ?_ G λw' l au aw f=>?_⟩
 .rintro(h1|h1)
  .have:=(h.bf nb h1).1;omega
  .omega
 .intro k X Z
  obtain⟨ts,_,_,A,_⟩:=h.keys;have:=(A k Z).2;have:=(ht.2.2 k X).1;omega
 have ab:∀q,Grow (Grow bP w.drew d) d w' q->bP q\/(w.heap.size<=q/\q<w'.heap.size):=by
  rintro q ((h1|h1)|h1)
  .exact .inl h1
  .exact .inr ⟨h1.1,fN h1.2 f.size⟩
  .exact .inr ⟨ew P h1.1,h1.2⟩
 have hg:=f.size;have g:∀q,az K q->bP q:=λq b=>by
  obtain⟨ts,_,_,A,_⟩:=h.keys;exact(A q b).1
 refine H w' l n (λq=>bP q\/(w.heap.size<=q/\q<w'.heap.size)) ⟨by simpa using au,O.ae f ?_ ?_,bp.aW aw λk _ c=>ab k c,bp.ae T f ?_,cO.ae U f ?_,?_,λq b=>?_,λq b=>?_,λq b=>h.hs q (y q b),h.oo,h.oq,h.j1,ew (A3 m.2).1 h.ot⟩ ?_ I
 .rintro(h1|h1)
  .exact h.j1 h1
  .have:=(h.bf r (g r h1)).1;omega
 .rintro q b (h1|h1)
  .exact(h.hs q (y q b)).2 h1
  .have:=(h.bf q (g q h1)).1
   have:=(h.hs q (y q b)).1;omega
 .rintro q b (h1|h1)
  .have:=(h.bv q b).1;omega
  .exact(h.bf q (g q h1)).2.2.1 b
 .rintro q b (h1|h1)
  .have:=(h.aK q b).1;omega
  .exact(h.bf q (g q h1)).2.2.2 b
 .rintro q (h1|h1)
  .have:=h.bf q h1;exact⟨this.1,I,this.2.2⟩
  .exact⟨I,h1.2,λh2=>by have:=h.bv q h2;omega,λh2=>by have:=h.aK q h2;omega⟩
 .have:=h.bv q b;exact⟨this.1,I,this.2.2⟩
 .have:=h.aK q b;exact⟨this.1,I⟩
 .refine((ad.cF (b4 w)).trans (hc.mono λk _ c=>.inl c)).trans (f.mono λk _ c=>?_)
  rcases c with c|c
  .exact .inr (.inl c)
  .exact .inr (.inr (h.bf k (g k c)).1)
theorem FB{lo:Nat}{w:J}{r nb:Nat}{s:Y}{m:aB×Rd}{K V D:Y}{bP b2 bG:Nat->Prop}(h:j0 lo w r nb s m K V D bP b2 bG)(ac:lo<=w.heap.size)(G:m.1.vals.length<=100000){R:J->Prop}
 (H:∀ (w':J) (l n:Y) (L:Nat->Prop),j0 lo w' r nb n (⟨m.1.leaf,m.1.keys,m.1.vals++ [(jB m.2).1],m.1.kids⟩,(jB m.2).2) K l D bP L bG->ad (ou lo r nb) w w'->lo<=w'.heap.size->R w'):
 ak w.drew λp=>∃x:Nat->Prop,¬x (Addr.add nb 2).block/\∃i:Y,p.cell? (Addr.add nb 2)=some (.slice i.a i.len i.cap)/\
  Calls aj 273 #[.pointer (some r)] p λM d=>∃C:Y,M=.returned C/\ad x p d/\
  ak (d.alloc (.cells #[C] 48)) λE=>ad x d E/\∃F:Y,∃j:J,Sem.run aj (Builtin.append_ #[127,127] 127 #[i,.slice (some d.heap.size) 1 1]) E=.ok F j/\
  (∃u:aa,j.cell? (Addr.add nb 2)=some u)/\j.frozen? (Addr.add nb 2)=false/\ak (j.setCell (Addr.add nb 2) F) λN=>R N:=by
 have hd:=h.drew;have af:=h.oo;have ag:=h.oq;obtain⟨bS,ay,aR,aF⟩:=bC hd.v;refine aS ⟨λq=>q=r,λe=>h.j1 (by rw[av]at e;exact e.symm),V,aR,(A4 hd.rd hd.ot).use ?_⟩;rintro _ d ⟨t,n,rfl,ht,O,hc,y⟩;have ah:w.drew.heap.size=w.heap.size:=rfl;have P:=hc.size;have z:∀ {B:Nat->Prop},(∀q,B q->lo<=q)->∀k,B k->¬(k=r):=λQ k c e=>by have:=Q k c;omega
 have S:=bp.ae hd.keys hc (z λq b=>(h.bf q b).1);have T:=bp.ae hd.vals hc (z λq b=>(h.bv q b).1);have U:=cO.ae hd.kids hc (z λq b=>(h.aK q b).1);have W:=hd.v.ae hc (λe=>h.j1 e.symm);refine⟨t,rfl,hc,vD (B:=Grow b2 w.drew d) W (o:=2) (by simp) (bp.aW T λk _ h=>.inl h) ?_ (aY.aW ht λk c h=>.inr ⟨h,c⟩) ?_ G λw' l au aw f=>?_⟩
 .rintro(h1|h1)
  .have:=(h.bv nb h1).1;omega
  .omega
 .intro k X Z
  obtain⟨ts,_,_,A,_⟩:=h.vals;have:=(A k Z).2;have:=(ht.2.2 k X).1;omega
 have ab:∀q,Grow (Grow b2 w.drew d) d w' q->b2 q\/(w.heap.size<=q/\q<w'.heap.size):=by
  rintro q ((h1|h1)|h1)
  .exact .inl h1
  .exact .inr ⟨h1.1,fN h1.2 f.size⟩
  .exact .inr ⟨ew P h1.1,h1.2⟩
 have hg:=f.size;have g:∀q,az V q->b2 q:=λq b=>by
  obtain⟨ts,_,_,A,_⟩:=h.vals;exact(A q b).1
 refine H w' l n (λq=>b2 q\/(w.heap.size<=q/\q<w'.heap.size)) ⟨by simpa using au,O.ae f ?_ ?_,bp.ae S f ?_,bp.aW aw λk _ c=>ab k c,cO.ae U f ?_,λq b=>?_,?_,λq b=>?_,λq b=>h.hs q (y q b),h.oo,h.oq,h.j1,ew (A3 m.2).1 h.ot⟩ ?_ I
 .rintro(h1|h1)
  .exact h.j1 h1
  .have:=(h.bv r (g r h1)).1;omega
 .rintro q b (h1|h1)
  .exact(h.hs q (y q b)).2 h1
  .have:=(h.bv q (g q h1)).1
   have:=(h.hs q (y q b)).1;omega
 .rintro q b (h1|h1)
  .have:=(h.bf q b).1;omega
  .exact(h.bf q b).2.2.1 (g q h1)
 .rintro q b (h1|h1)
  .have:=(h.aK q b).1;omega
  .exact(h.bv q (g q h1)).2.2 b
 .have:=h.bf q b
  refine⟨this.1,I,?_,this.2.2.2⟩;rintro(h1|h1)
  .exact this.2.2.1 h1
  .omega
 .rintro q (h1|h1)
  .have:=h.bv q h1;exact⟨this.1,I,this.2.2⟩
  .exact⟨I,h1.2,λh2=>by have:=h.aK q h2;omega⟩
 .have:=h.aK q b;exact⟨this.1,I⟩
 .refine((ad.cF (b4 w)).trans (hc.mono λk _ c=>.inl c)).trans (f.mono λk _ c=>?_)
  rcases c with c|c
  .exact .inr (.inl c)
  .exact .inr (.inr (h.bv k (g k c)).1)
theorem A8{lo:Nat}{w:J}{r nb:Nat}{s:Y}{m:aB×Rd}{K V D:Y}{bP b2 bG:Nat->Prop}(h:j0 lo w r nb s m K V D bP b2 bG)(T:lo<=w.heap.size)(A:m.1.kids.length<=100000){R:J->Prop}
 (C:∀ (w':J) (ax l:Y) (E:Nat->Prop),j0 lo w' r nb l (⟨m.1.leaf,m.1.keys,m.1.vals,m.1.kids++ [(rdNum m.2 2).1]⟩,(rdNum m.2 2).2) K V ax bP b2 E->ad (ou lo r nb) w w'->lo<=w'.heap.size->R w'):
 ak w.drew λn=>∃p:Nat->Prop,¬p (Addr.add nb 3).block/\∃i:Y,n.cell? (Addr.add nb 3)=some (.slice i.a i.len i.cap)/\
  Calls aj 272 #[.pointer (some r),(2:Int)] n λF d=>∃n30:Int,F=.returned n30/\ad p n d/\
  ak (d.alloc (.cells #[n30] 3)) λy=>ad p d y/\∃z:Y,∃j:J,Sem.run aj (Builtin.append_ #[58,58] 58 #[i,.slice (some d.heap.size) 1 1]) y=.ok z j/\
  (∃u:aa,j.cell? (Addr.add nb 3)=some u)/\j.frozen? (Addr.add nb 3)=false/\ak (j.setCell (Addr.add nb 3) z) λG=>R G:=by
 have hd:=h.drew;have U:=h.oo;have W:=h.oq;obtain⟨bS,ay,aR,aF⟩:=bC hd.v;refine aS ⟨λq=>q=r,λe=>h.j1 (by rw[av]at e;exact e.symm),D,aF,(xM hd.rd 2 (by decide) hd.ot).use ?_⟩;rintro _ d ⟨l,rfl,H,hc,t⟩;have X:w.drew.heap.size=w.heap.size:=rfl;have L:=hc.size;have x:∀ {B:Nat->Prop},(∀q,B q->lo<=q)->∀k,B k->¬(k=r):=λM k c e=>by have:=M k c;omega
 have N:=bp.ae hd.keys hc (x λq b=>(h.bf q b).1);have O:=bp.ae hd.vals hc (x λq b=>(h.bv q b).1);have P:=cO.ae hd.kids hc (x λq b=>(h.aK q b).1);have Q:=hd.v.ae hc (λe=>h.j1 e.symm);refine⟨_,rfl,hc,A5 (rdNum m.2 2).1 (B:=bG) Q (o:=3) (by simp) P (λh1=>by have:=(h.aK nb h1).1;omega) A λw' ax au aw f=>?_⟩;have S:∀q,Grow bG d w' q->bG q\/(w.heap.size<=q/\q<w'.heap.size):=by
  rintro q (h1|h1)
  .exact .inl h1
  .exact .inr ⟨ew L h1.1,h1.2⟩
 have hg:=f.size;have g:∀q,az D q->bG q:=λq b=>(h.kids.2 q b).1;refine C w' ax l (λq=>bG q\/(w.heap.size<=q/\q<w'.heap.size)) ⟨by simpa using au,H.ae f ?_ ?_,bp.ae N f ?_,bp.ae O f ?_,cO.aW aw λk _ c=>S k c,λq b=>?_,λq b=>?_,?_,λq b=>h.hs q (t q b),h.oo,h.oq,h.j1,ew (vC m.2 2) h.ot⟩ ?_ I
 .rintro(h1|h1)
  .exact h.j1 h1
  .have:=(h.aK r (g r h1)).1;omega
 .rintro q b (h1|h1)
  .exact(h.hs q (t q b)).2 h1
  .have:=(h.aK q (g q h1)).1
   have:=(h.hs q (t q b)).1;omega
 .rintro q b (h1|h1)
  .have:=(h.bf q b).1;omega
  .exact(h.bf q b).2.2.2 (g q h1)
 .rintro q b (h1|h1)
  .have:=(h.bv q b).1;omega
  .exact(h.bv q b).2.2 (g q h1)
 .have:=h.bf q b
  refine⟨this.1,I,this.2.2.1,?_⟩;rintro(h1|h1)
  .exact this.2.2.2 h1
  .omega
 .have:=h.bv q b
  refine⟨this.1,I,?_⟩;rintro(h1|h1)
  .exact this.2.2 h1
  .omega
 .rintro q (h1|h1)
  .have:=h.aK q h1;exact⟨this.1,I⟩
  .exact⟨I,h1.2⟩
 .refine((ad.cF (b4 w)).trans (hc.mono λk _ c=>.inl c)).trans (f.mono λk _ c=>?_)
  rcases c with c|c
  .exact .inr (.inl c)
  .exact .inr (.inr (h.aK k (g k c)).1)
end Go.Proofs.YtkdhdlfonmgheaaGreat
