/- Contracts of the functions that the statement reaches, and the plain laws over them; each theorem stands with its conditions. -/
import Derived.Laws.Externs
import Derived.Laws.Small
import Derived.Lib.Builder
import Derived.Lib.Bytealg
import Derived.Lib.ConvBytes
import Derived.Lib.MakeNoZero
import Derived.Lib.SlBytesConst
import Derived.Lib.UnsafeStr
import Derived.Test.YtkdhdlfonmgheaaGreatVCrash2
namespace Go.Proofs.YtkdhdlfonmgheaaGreat
abbrev Key:=O UInt8
abbrev aH:=Key×Key
def eE:Key->Key->Int
 | [],[]=>0
 | [],_::_=> -1
 |_::_,[]=>1
 |a::x,b::y=>if a.toNat<b.toNat then -1 else if b.toNat<a.toNat then 1 else eE x y
theorem EU{a b:UInt8}(h1:¬a.toNat<b.toNat)(h2:¬b.toNat<a.toNat):a=b:=UInt8.toNat_inj.1 I
theorem xo:∀a:Key,eE a a=0
 | []=>rfl
 |a::x=>by simp[eE,xo x]
theorem xp:∀ {a b:Key},eE a b=0->a=b
 | [],[],_=>rfl
 | [],_::_,h=>by simp[eE]at h
 |_::_,[],h=>by simp[eE]at h
 |a::x,b::y,h=>by
  unfold eE at h
  split at h
  .cases h
  .rename_i h1
   split at h
   .cases h
   .rename_i h2
    rw[EU h1 h2,xp h]
theorem EV{a b:Key}:eE a b=0↔a=b:=⟨xp,λh=>h▸xo _⟩
theorem AB:∀a b:Key,eE a b= -1\/eE a b=0\/eE a b=1
 | [],[]=>.inr (.inl rfl)
 | [],_::_=>.inl rfl
 |_::_,[]=>.inr (.inr rfl)
 |a::x,b::y=>by
  unfold eE
  split
  .exact .inl rfl
  .split
   .exact .inr (.inr rfl)
   .exact AB x y
theorem AD:∀a b:Key,eE b a=-eE a b
 | [],[]=>rfl
 | [],_::_=>rfl
 |_::_,[]=>rfl
 |a::x,b::y=>by
  unfold eE
  by_cases h1:a.toNat<b.toNat
  .have h2:¬b.toNat<a.toNat:=by omega
   simp[h1,h2]
  .by_cases h2:b.toNat<a.toNat
   .simp[h1,h2]
   .simp only[h1,h2,if_false]
    exact AD x y
theorem AE:∀ {a b c:Key},eE a b<0->eE b c<0->eE a c<0
 | [],[],_,h,_=>by simp[eE]at h
 | [],_::_,[],_,h=>by simp[eE]at h
 | [],_::_,_::_,_,_=>by simp[eE]
 |_::_,[],_,h,_=>by simp[eE]at h
 |_::_,_::_,[],_,h=>by simp[eE]at h
 |a::x,b::y,c::z,h1,h2=>by
  unfold eE at h1 h2⊢
  by_cases a1:a.toNat<b.toNat
  .by_cases a2:b.toNat<c.toNat
   .rw[if_pos I];decide
   .rw[if_neg a2]at h2
    by_cases a3:c.toNat<b.toNat
    .rw[if_pos a3]at h2;omega
    .rw[if_pos I];decide
  .rw[if_neg a1]at h1
   by_cases a2:b.toNat<a.toNat
   .rw[if_pos a2]at h1;omega
   .rw[if_neg a2]at h1
    by_cases a3:b.toNat<c.toNat
    .rw[if_pos I];decide
    .rw[if_neg a3]at h2
     by_cases a4:c.toNat<b.toNat
     .rw[if_pos a4]at h2;omega
     .rw[if_neg a4]at h2
      rw[if_neg I,if_neg I]
      exact AE h1 h2
def bK(a b:Key):Prop:=eE a b<0
def ez(a b:Key):Prop:=¬eE b a<0
instance (a b:Key):Decidable (bK a b):=by unfold bK;infer_instance
instance (a b:Key):Decidable (ez a b):=by unfold ez;infer_instance
theorem lH{a b c:Key}(h1:bK a b)(h2:bK b c):bK a c:=AE h1 h2
theorem l_(a:Key):¬bK a a:=by unfold bK;rw[xo];decide
theorem j6{a b:Key}(h:bK a b):¬bK b a:=λh2=>l_ a (lH h h2)
theorem vf(a b:Key):bK a b\/a=b\/bK b a:=by
 unfold bK;have h:=AD a b;rcases AB a b with h1|h1|h1
 .exact .inl I
 .exact .inr (.inl (xp h1))
 .exact .inr (.inr I)
theorem od{a b:Key}:ez a b↔bK a b\/a=b:=by
 constructor
 .intro h
  rcases vf a b with h1|h1|h1
  .exact .inl h1
  .exact .inr h1
  .exact absurd h1 h
 .rintro(h|rfl)
  .exact j6 h
  .exact l_ _
theorem AF(a:Key):ez a a:=l_ a
theorem iH{a b:Key}(h:bK a b):ez a b:=od.2 (.inl h)
theorem AG{a b:Key}:¬bK a b↔ez b a:=Iff.rfl
theorem m4{a b c:Key}(h1:bK a b)(h2:ez b c):bK a c:=by
 rcases od.1 h2 with h|rfl
 .exact lH h1 h
 .exact h1
theorem j7{a b c:Key}(h1:ez a b)(h2:bK b c):bK a c:=by
 rcases od.1 h1 with h|rfl
 .exact lH h h2
 .exact h2
theorem AH{a b c:Key}(h1:ez a b)(h2:ez b c):ez a c:=by
 rcases od.1 h1 with h|rfl
 .exact iH (m4 h h2)
 .exact h2
def gK(l:O aH):Prop:=l.Pairwise λa b=>bK a.1 b.1
def e3(l:O aH)(k v:Key):O aH:=(l.filter λp=>decide (bK p.1 k))++(k,v)::l.filter λp=>decide (bK k p.1)
def ec(l:O aH)(k:Key):O aH:=l.filter λp=>decide (p.1≠k)
def eA(l:O aH)(k:Key):aq Key:=(l.find? λp=>decide (p.1=k)).map (·.2)
def g9(l:O aH)(fr to:Key):O aH:=l.filter λp=>decide (ez fr p.1)&&(to.isEmpty||decide (bK p.1 to))
def fu(lo hi:aq Key)(k:Key):Prop:=(∀a,lo=some a->ez a k)/\(∀b,hi=some b->bK k b)
theorem EW{a b:O aH}{k v:Key}(h:∀p∈b,bK k p.1):e3 (a++b) k v=e3 a k v++b:=by
 have d:b.filter (λp=>decide (bK p.1 k))=[]:=lV.2 λp c=>by simpa using j6 (h p c)
 have e:b.filter (λp=>decide (bK k p.1))=b:=jZ.2 λp c=>dP (h p c);unfold e3;rw[kQ,kQ,d,e,f_,cP,nu]
theorem AI{a b:O aH}{k v:Key}(h:∀p∈a,bK p.1 k):e3 (a++b) k v=a++e3 b k v:=by
 have d:a.filter (λp=>decide (bK p.1 k))=a:=jZ.2 λp c=>dP (h p c);have e:a.filter (λp=>decide (bK k p.1))=[]:=lV.2 λp c=>by simpa using j6 (h p c)
 unfold e3;rw[kQ,kQ,d,e,iW,cP]
theorem pX(a b:O aH)(k:Key):ec (a++b) k=ec a k++ec b k:=kQ ..
theorem oe{a:O aH}{k:Key}(h:∀p∈a,p.1≠k):ec a k=a:=jZ.2 λp b=>dP (h p b)
theorem kC{a b:Key}(h:bK a b):a≠b:=λe=>l_ b (e▸h)
theorem pY{a b:O aH}:gK (a++b)↔gK a/\gK b/\∀p∈a,∀q∈b,bK p.1 q.1:=mH
theorem AJ{l:O aH}{k v:Key}{p:aH}:p∈e3 l k v↔p=(k,v)\/(p∈l/\p.1≠k):=by
 unfold e3;rw[cT,cU,hK,hK,cS,cS];constructor
 .rintro(⟨h,h2⟩|rfl|⟨h,h2⟩)
  .exact .inr ⟨h,kC h2⟩
  .exact .inl rfl
  .exact .inr ⟨h,(kC h2).symm⟩
 .rintro(rfl|⟨h,h2⟩)
  .exact .inr (.inl rfl)
  .rcases vf p.1 k with a|a|a
   .exact .inl ⟨h,a⟩
   .exact absurd a h2
   .exact .inr (.inr ⟨h,a⟩)
end Go.Proofs.YtkdhdlfonmgheaaGreat
namespace Go.Proofs.YtkdhdlfonmgheaaGreat
structure aD where
 leaf:ai
 keys:O Key
 vals:O Key
 kids:O Nat
 deriving DecidableEq
abbrev Below:=aq Key->aq Key->Nat->O Nat->O aH->Prop
inductive dF (W:Below):aq Key->aq Key->O Key->O Nat->O Nat->O aH->Prop
 |one {lo hi:aq Key}{k:Nat}{p:O Nat}{L:O aH} (h:W lo hi k p L):dF W lo hi [] [k] p L
 |cons {lo hi:aq Key}{s:Key}{k:Nat}{bn bp:O Nat}{a7 bB:O aH}{ks:O Key}{kids:O Nat} (h:W lo (some s) k bn a7) (t:dF W (some s) hi ks kids bp bB):
  dF W lo hi (s::ks) (k::kids) (bn++bp) (a7++bB)
variable {W:Below}{lo hi:aq Key}
theorem dF.len{ks:O Key}{kids p:O Nat}{L:O aH}(h:dF W lo hi ks kids p L):kids.length=ks.length+1:=by
 induction h with
 |one _=>rfl
 |cons _ _ a=>simp[a]
theorem dF.app{s:Key}{iI kD:O Key}{jc lI bn bp:O Nat}{a7 bB:O aH}(h1:dF W lo (some s) iI jc bn a7)(h2:dF W (some s) hi kD lI bp bB):
 dF W lo hi (iI++s::kD) (jc++lI) (bn++bp) (a7++bB):=by
 generalize a:some s=m at h1
 induction h1 with
 |one h=>subst a;exact .cons h h2
 |cons h t b=>
  rw[cP,cP];exact .cons h (b a)
theorem dF.cut:∀ {iI:O Key}{s:Key}{kD:O Key}{lo:aq Key}{kids p:O Nat}{L:O aH},dF W lo hi (iI++s::kD) kids p L->
 ∃ (jc lI bn bp:O Nat) (a7 bB:O aH),kids=jc++lI/\p=bn++bp/\L=a7++bB/\dF W lo (some s) iI jc bn a7/\dF W (some s) hi kD lI bp bB
 | [],s,kD,lo,kids,p,L,h=>by
  cases h with
  |cons h t=>exact⟨_,_,_,_,_,_,rfl,rfl,rfl,.one h,t⟩
 |a::iI,s,kD,lo,kids,p,L,h=>by
  cases h with
  |cons h t=>
   obtain⟨bG,bI,bn,bp,a7,bB,rfl,rfl,rfl,h1,h2⟩:=dF.cut t
   exact⟨_::bG,bI,_++bn,bp,_++a7,bB,rfl,by rw[cP],by rw[cP],.cons h h1,h2⟩
theorem dF.mono{V:Below}{ks:O Key}{kids p:O Nat}{L:O aH}(h:dF W lo hi ks kids p L)(a:∀lo hi k p L,(∀x∈p,x∈p)->W lo hi k p L->V lo hi k p L):dF V lo hi ks kids p L:=by
 induction h with
 |one h=>exact .one (a _ _ _ _ _ (λ_ h=>h) h)
 |cons h _ b=>exact .cons (a _ _ _ _ _ (λ_ h=>h) h) b
theorem dF.lJ{V:Below}{ks:O Key}{kids p:O Nat}{L:O aH}(h:dF W lo hi ks kids p L)(b:∀lo hi k a L,(∀x∈a,x∈p)->W lo hi k a L->V lo hi k a L):dF V lo hi ks kids p L:=by
 induction h with
 |one h=>exact .one (b _ _ _ _ _ (λ_ h=>h) h)
 |cons h _ c=>
  exact .cons (b _ _ _ _ _ (λx hx=>jE _ hx) h) (c λlo hi k a L hs=>b lo hi k a L λx hx=>ie _ (hs x hx))
def cw(k:Key):Prop:=1<=k.length/\k.length<=24
structure vg(n:aD):Prop where
 ok:∀k∈n.keys,cw k
 fb:n.keys.Pairwise bK
structure gT(n:aD):Prop extends vg n where
 leaf:n.leaf=true
 len:n.vals.length=n.keys.length
 kids:n.kids=[]
 vals:∀v∈n.vals,v.length<=24
structure vh(n:aD):Prop extends vg n where
 inner:n.leaf=false
 some:n.keys≠ []
 len:n.kids.length=n.keys.length+1
 vals:n.vals=[]
 kids:∀k∈n.kids,k<1600
def aD.dL(n:aD):O aH:=n.keys.zip n.vals
def aD.within(n:aD)(lo hi:aq Key):Prop:=∀k∈n.keys,fu lo hi k
def ej(P:Nat->aq aD):Nat->Below
 |0=> λ_ _ _ _ _=>False
 |1=> λlo hi no p L=>∃n,P no=some n/\gT n/\n.within lo hi/\n.keys≠ []/\p=[no]/\L=n.dL
 |h+2=> λlo hi no p L=>∃n a,P no=some n/\vh n/\n.within lo hi/\p=no::a/\
  dF (λlo hi k p L=>ej P (h+1) lo hi k p L/\∃m,P k=some m/\2<=m.keys.length) lo hi n.keys n.kids a L
theorem ej.agree{P Q:Nat->aq aD}:∀ {h:Nat}{lo hi:aq Key}{no:Nat}{p:O Nat}{L:O aH},ej P h lo hi no p L->(∀x∈p,P x=Q x)->ej Q h lo hi no p L/\no∈p
 |0,_,_,_,_,_,d,_=>d.elim
 |1,_,_,no,_,_,⟨n,h1,h2,e,f,b,g⟩,a=>by
  have c:no∈ [no]:=by simp
  rw[b]
  exact⟨⟨n,by rw[←a no (by rw[b];exact c)];exact h1,h2,e,f,rfl,g⟩,c⟩
 |h+2,_,_,no,_,_,⟨n,i,h1,h2,e,f,b⟩,a=>by
  subst f
  refine⟨⟨n,i,by rw[←a no (by simp)];exact h1,h2,e,rfl,b.lJ λlo hi k q L hs ⟨d,m,c,h2⟩=>?_⟩,by simp⟩
  have:=ej.agree d λx hx=>a x (jW _ (hs x hx))
  exact⟨this.1,m,by rw[←a k (jW _ (hs k this.2))];exact c,h2⟩
end Go.Proofs.YtkdhdlfonmgheaaGreat
namespace Go.Proofs.YtkdhdlfonmgheaaGreat
variable {W:Below}{lo hi:aq Key}{P:Nat->aq aD}
theorem EX{lo hi:aq Key}{s k:Key}(h1:fu lo (some s) k)(h2:fu lo hi s):fu lo hi k:=
 ⟨h1.1,λb a=>lH (h1.2 s rfl) (h2.2 b a)⟩
theorem EY{lo hi:aq Key}{s k:Key}(h1:fu (some s) hi k)(h2:fu lo hi s):fu lo hi k:=
 ⟨λa b=>AH (h2.1 a b) (h1.1 s rfl),h1.2⟩
theorem dF.fb{ks:O Key}{kids p:O Nat}{L:O aH}(h:dF W lo hi ks kids p L)(cd:∀lo hi k p L,W lo hi k p L->gK L/\∀q∈L,fu lo hi q.1)(e:ks.Pairwise bK)(c:∀s∈ks,fu lo hi s):
 gK L/\∀q∈L,fu lo hi q.1:=by
 induction h with
 |one h=>exact cd _ _ _ _ _ h
 | @cons lo hi s k bn bp a7 bB ks kids h t f=>
  obtain⟨r1,b_⟩:=cd _ _ _ _ _ h;have d:=jF.1 e;obtain⟨b3,bO⟩:=f d.2 λx hx=>⟨λa g=>by cases g;exact iH (d.1 x hx),(c x (jW _ hx)).2⟩;have hs:=c s List.mem_cons_self;refine⟨pY.2 ⟨r1,b3,λx hx y i=>m4 ((b_ x hx).2 s rfl) ((bO y i).1 s rfl)⟩,λq b=>?_⟩;rcases cT.1 b with b|b
  .exact EX (b_ q b) hs
  .exact EY (bO q b) hs
theorem AK:∀ {ks vs:O Key},ks.Pairwise bK->gK (ks.zip vs)
 | [],vs,_=>by rw[List.zip_nil_left];exact List.Pairwise.nil
 |k::ks,[],_=>by rw[List.zip_nil_right];exact List.Pairwise.nil
 |k::ks,v::vs,h=>by
  rw[List.zip_cons_cons]
  have:=jF.1 h
  exact jF.2 ⟨λq a=>this.1 _ (qA a).1,AK this.2⟩
theorem gT.dL{n:aD}(h:gT n):gK n.dL/\n.dL.length=n.keys.length:=⟨AK h.fb,by unfold aD.dL;rw[mI,h.len,Nat.min_self]⟩
theorem ej.fb:∀ {h:Nat}{lo hi:aq Key}{no:Nat}{p:O Nat}{L:O aH},ej P h lo hi no p L->gK L/\∀q∈L,fu lo hi q.1
 |0,_,_,_,_,_,a=>a.elim
 |1,_,_,_,_,_,⟨n,_,h2,b,_,_,c⟩=>by
  subst c
  exact⟨h2.dL.1,λq d=>b _ (qA d).1⟩
 |h+2,_,_,_,_,_,⟨n,_,_,h2,b,_,e⟩=>e.fb (λ_ _ _ _ _ a=>ej.fb a.1) h2.fb b
theorem dF.count{ks:O Key}{kids p:O Nat}{L:O aH}(h:dF W lo hi ks kids p L){c:Nat}(cd:∀lo hi k p L,W lo hi k p L->p.length+1<=L.length/\c<=L.length):
 p.length+kids.length<=L.length/\c*kids.length<=L.length:=by
 induction h with
 |one h=>have:=cd _ _ _ _ _ h;simp;omega
 |cons h _ a=>
  have:=cd _ _ _ _ _ h;simp only[cz,e8,Nat.mul_add,fG];omega
theorem ej.count:∀ {h:Nat}{lo hi:aq Key}{no:Nat}{p:O Nat}{L:O aH},ej P h lo hi no p L->((∃m,P no=some m/\2<=m.keys.length)\/2<=h)->p.length+1<=L.length/\2^h<=L.length
 |0,_,_,_,_,_,b,_=>b.elim
 |1,_,_,_,_,_,⟨n,h1,h2,_,_,d,f⟩,a=>by
  rcases a with ⟨m,e,a⟩|a
  .rw[h1]at e
   cases e
   subst d f
   have:=h2.dL.2
   simp only[jn];omega
  .omega
 |h+2,_,_,_,_,_,⟨n,i,_,h2,_,g,d⟩,_=>by
  have hc:=d.count (c:=2^(h+1)) λlo hi k p L ⟨b,a⟩=>ej.count b (.inl a)
  have j:=h2.len
  have hs:1<=n.keys.length:=sm.2 h2.some
  subst g
  have:2^(h+1)*2<=2^(h+1)*n.kids.length:=Nat.mul_le_mul_left _ I
  rw[Nat.pow_succ 2 (h+1)]
  simp only[e8]
  omega
theorem ej.pages{h:Nat}{lo hi:aq Key}{no:Nat}{p:O Nat}{L:O aH}(a:ej P h lo hi no p L):p.length<=L.length/\1<=L.length/\(2<=h->2^h<=L.length):=by
 match h with
 |0=>exact a.elim
 |1=>
  obtain⟨n,h1,h2,_,b,c,d⟩:=a;subst c d;have:=h2.dL.2;have e:=sm.2 b;simp only[jn];exact⟨I,I,I⟩
 |h+2=>
  have:=ej.count a (.inr I);exact⟨I,I,λ_=>this.2⟩
end Go.Proofs.YtkdhdlfonmgheaaGreat
namespace Go.Proofs.YtkdhdlfonmgheaaGreat
variable {W V:Below}{lo hi:aq Key}
inductive fE (W:Below) (lo:aq Key):aq Key->O Key->O Nat->O Nat->O aH->Prop
 |nil:fE W lo lo [] [] [] []
 |more {s:Key}{ks:O Key}{kids p:O Nat}{L:O aH} (h:dF W lo (some s) ks kids p L):fE W lo (some s) (ks++ [s]) kids p L
inductive gz (W:Below) (hi:aq Key):aq Key->O Key->O Nat->O Nat->O aH->Prop
 |nil:gz W hi hi [] [] [] []
 |more {s:Key}{ks:O Key}{kids p:O Nat}{L:O aH} (h:dF W (some s) hi ks kids p L):gz W hi (some s) (s::ks) kids p L
variable {m:aq Key}{iI kD:O Key}{jc lI bn bp:O Nat}{a7 bB:O aH}
theorem fE.EZ(h1:fE W lo m iI jc bn a7)(h2:dF W m hi kD lI bp bB):dF W lo hi (iI++kD) (jc++lI) (bn++bp) (a7++bB):=by
 cases h1 with
 |nil=>exact h2
 |more h=>rw[cP];exact h.app h2
theorem dF.post(h1:dF W lo m iI jc bn a7)(h2:gz W hi m kD lI bp bB):dF W lo hi (iI++kD) (jc++lI) (bn++bp) (a7++bB):=by
 cases h2 with
 |nil=>simpa using h1
 |more h=>exact h1.app h
theorem fE.cons{s:Key}{k:Nat}{p:O Nat}{L:O aH}(h:W lo (some s) k p L)(t:fE W (some s) m iI jc bn a7):fE W lo m (s::iI) (k::jc) (p++bn) (L++a7):=by
 cases t with
 |nil=>rw[f_,f_];exact fE.more (ks:=[]) (.one h)
 |more t=>exact fE.more (ks:=s::_) (.cons h t)
theorem fE.lJ(h:fE W lo m iI jc bn a7)(b:∀lo hi k a L,(∀x∈a,x∈bn)->W lo hi k a L->V lo hi k a L):fE V lo m iI jc bn a7:=by
 cases h with
 |nil=>exact .nil
 |more h=>exact .more (h.lJ b)
theorem gz.lJ(h:gz W hi m iI jc bn a7)(b:∀lo hi k a L,(∀x∈a,x∈bn)->W lo hi k a L->V lo hi k a L):gz V hi m iI jc bn a7:=by
 cases h with
 |nil=>exact .nil
 |more h=>exact .more (h.lJ b)
theorem dF.at{ks:O Key}{kids p:O Nat}{L:O aH}(h:dF W lo hi ks kids p L):∀ (i:Nat) (c:i<kids.length),∃ (d e:aq Key) (bn q bp:O Nat) (a7 M bB:O aH),
 p=bn++(q++bp)/\L=a7++(M++bB)/\W d e kids[i] q M/\fE W lo d (ks.take i) (kids.take i) bn a7/\gz W hi e (ks.drop i) (kids.drop (i+1)) bp bB:=by
 induction h with
 | @one lo hi k p L h=>
  intro i c;have:i=0:=by simp at c;omega
  subst this;exact⟨lo,hi,[],p,[],[],L,[],by simp,by simp,h,.nil,.nil⟩
 | @cons lo hi s k bn bp a7 bB ks kids h t f=>
  intro i c
  cases i with
  |zero=>exact⟨lo,some s,[],bn,bp,[],a7,bB,rfl,rfl,h,.nil,.more t⟩
  |succ i=>
   obtain⟨d,e,a,q,b,A,M,B,rfl,rfl,h1,h2,g⟩:=f i (by simpa using c);exact⟨d,e,bn++a,q,b,a7++A,M,B,by rw[cP],by rw[cP],h1,fE.cons h h2,g⟩
theorem fE.inv{kids p:O Nat}{L:O aH}(h:fE W lo m [] kids p L):m=lo/\kids=[]/\p=[]/\L=[]:=by
 generalize e:([]:O Key)=K at h
 cases h with
 |nil=>exact⟨rfl,rfl,rfl,rfl⟩
 |more h=>simp at e
theorem gz.head{ks:O Key}{kids p:O Nat}{L:O aH}(h:gz W hi m ks kids p L)(b:0<kids.length):∃ (s:Key) (a:aq Key) (q bp:O Nat) (M bB:O aH) (hs:0<ks.length),
 m=some s/\s=ks[0]/\p=q++bp/\L=M++bB/\W (some s) a (kids[0]) q M/\gz W hi a (ks.drop 1) (kids.drop 1) bp bB:=by
 cases h with
 |nil=>simp at b
 | @more s ks kids p L h=>
  obtain⟨d,a,bn,q,bp,a7,M,bB,rfl,rfl,h1,h2,c⟩:=h.at 0 b;rw[List.take_zero]at h2;obtain⟨rfl,_,rfl,rfl⟩:=h2.inv;exact⟨s,a,q,bp,M,bB,by simp,rfl,rfl,rfl,rfl,h1,by simpa using c⟩
end Go.Proofs.YtkdhdlfonmgheaaGreat
namespace Go.Proofs.YtkdhdlfonmgheaaGreat
variable {W V:Below}{lo hi m:aq Key}
def dt(ks:O Key)(k:Key):Nat:=ks.findIdx λs=>decide (bK k s)
theorem vi(ks:O Key)(k:Key):dt ks k<=ks.length:=List.findIdx_le_length
theorem E0{ks:O Key}{k:Key}{i:Nat}(h:i<dt ks k)(hi:i<ks.length):ez ks[i] k:=by
 have:=List.not_of_lt_findIdx h;exact AG.1 (by simpa using this)
theorem E1{ks:O Key}{k:Key}(h:dt ks k<ks.length):bK k ks[dt ks k]:=by
 have:=List.findIdx_getElem (p:=λs=>decide (bK k s)) (xs:=ks) (w:=h);exact b8 this
theorem fE.E2{i:Nat}{ks:O Key}{kids p:O Nat}{L:O aH}(h:fE W lo m (ks.take i) kids p L){k:Key}(b:∀ (j:Nat) (c:j<ks.length),j<i->ez ks[j] k)(d:∀a,lo=some a->ez a k):∀a,m=some a->ez a k:=by
 generalize e:ks.take i=K at h
 cases h with
 |nil=>exact d
 | @more s l kids p L h=>
  intro a f
  cases f;have g:s∈ks.take i:=by rw[e];simp
  obtain⟨j,c,rfl⟩:=List.mem_take_iff_getElem.1 g;exact b j I I
theorem gz.E3{i:Nat}{ks:O Key}{kids p:O Nat}{L:O aH}(h:gz W hi m (ks.drop i) kids p L){k:Key}(b:∀ (h:i<ks.length),bK k ks[i])(c:∀a,hi=some a->bK k a):∀a,m=some a->bK k a:=by
 generalize e:ks.drop i=K at h
 cases h with
 |nil=>exact c
 | @more s f kids p L h=>
  intro a d
  cases d;have aK:i<ks.length:=by
   have:=congrArg List.length e;simp at this;omega
  have:ks[i]=s:=by
   have:=jD aK;rw[e]at this;exact(List.cons.inj this).1.symm
  rw[←this];exact b aK
theorem fE.below{ks:O Key}{kids p:O Nat}{L:O aH}(h:fE W lo m ks kids p L)(cd:∀lo hi k p L,W lo hi k p L->gK L/\∀q∈L,fu lo hi q.1)(f:ks.Pairwise bK)(c:∀s∈ks,fu lo hi s)
 {k:Key} (g:∀a,m=some a->ez a k):∀q∈L,bK q.1 k:=by
 cases h with
 |nil=>intro q d;cases d
 | @more s i kids p L h=>
  have e:=mH.1 f;have:=h.fb cd e.1 λx hx=>⟨(c x (by simp[hx])).1,λb c=>by cases c;exact e.2.2 x hx s (by simp)⟩;exact λq d=>m4 ((this.2 q d).2 s rfl) (g s rfl)
theorem gz.E4{ks:O Key}{kids p:O Nat}{L:O aH}(h:gz W hi m ks kids p L)(cd:∀lo hi k p L,W lo hi k p L->gK L/\∀q∈L,fu lo hi q.1)(d:ks.Pairwise bK)(e:∀s∈ks,fu lo hi s)
 {k:Key} (f:∀a,m=some a->bK k a):∀q∈L,bK k q.1:=by
 cases h with
 |nil=>intro q b;cases b
 | @more s i kids p L h=>
  have c:=jF.1 d;have:=h.fb cd c.2 λx hx=>⟨λa g=>by cases g;exact iH (c.1 x hx),(e x (by simp[hx])).2⟩;exact λq b=>m4 (f s rfl) ((this.2 q b).1 s rfl)
def Loc(k:Key)(u:O aH->O aH):Prop:=∀a7 M bB:O aH,(∀p∈a7,bK p.1 k)->(∀p∈bB,bK k p.1)->u (a7++(M++bB))=a7++(u M++bB)
theorem E5(k v:Key):Loc k λL=>e3 L k v:=λa7 M bB h1 h2=>by
 show e3 _ _ _=_
 rw[AI h1,EW h2]
theorem xq(k:Key):Loc k λL=>ec L k:=λa7 M bB h1 h2=>by
 show ec _ _=_
 rw[pX,pX,oe λp a=>kC (h1 p a),oe λp a=>(kC (h2 p a)).symm]
end Go.Proofs.YtkdhdlfonmgheaaGreat
namespace Go.Proofs.YtkdhdlfonmgheaaGreat
variable {W V:Below}{lo hi m:aq Key}{P Q:Nat->aq aD}
def fw(P:Nat->aq aD)(h:Nat):Below:=λlo hi k p L=>ej P h lo hi k p L/\∃m,P k=some m/\2<=m.keys.length
theorem fw.agree{h no:Nat}{p:O Nat}{L:O aH}(b:fw P h lo hi no p L)(a:∀x∈p,P x=Q x):fw Q h lo hi no p L:=by
 obtain⟨h1,m,h2,c⟩:=b;have:=h1.agree a;exact⟨this.1,m,by rw[←a no this.2];exact h2,c⟩
theorem E6{α:Type}{l:O α}(h:1<=l.length):l≠ []:=λe=>by subst e;simp at h
theorem fw.in{h no:Nat}{p:O Nat}{L:O aH}(a:fw P h lo hi no p L):L≠ []/\gK L/\∀q∈L,fu lo hi q.1:=⟨E6 a.1.pages.2.1,a.1.fb⟩
theorem dF.sorted{ks:O Key}{kids p:O Nat}{L:O aH}(h:dF W lo hi ks kids p L)(cd:∀lo hi k p L,W lo hi k p L->L≠ []/\gK L/\∀q∈L,fu lo hi q.1):
 L≠ []/\(∀q∈L,fu lo hi q.1)/\ks.Pairwise bK/\∀s∈ks,(∀a,lo=some a->bK a s)/\∀b,hi=some b->bK s b:=by
 induction h with
 |one h=>exact⟨(cd _ _ _ _ _ h).1,(cd _ _ _ _ _ h).2.2,.nil,by simp⟩
 | @cons lo hi s k bn bp a7 bB ks kids h t l=>
  obtain⟨bW,_,b_⟩:=cd _ _ _ _ _ h;obtain⟨bC,bO,b3,ah⟩:=l;obtain⟨x,hx⟩:=qB _ bW;obtain⟨y,i⟩:=qB _ bC;have f:∀a,lo=some a->bK a s:=λa e=>j7 ((b_ x hx).1 a e) ((b_ x hx).2 s rfl);have j:∀b,hi=some b->bK s b:=λb g=>j7 ((bO y i).1 s rfl) ((bO y i).2 b g);refine⟨by simp[bW],λq c=>?_,jF.2 ⟨λz d=>(ah z d).1 s rfl,b3⟩,λz d=>?_⟩
  .rcases cT.1 c with c|c
   .exact⟨(b_ q c).1,λb g=>lH ((b_ q c).2 s rfl) (j b g)⟩
   .exact⟨λa e=>iH (m4 (f a e) ((bO q c).1 s rfl)),(bO q c).2⟩
  .rcases cU.1 d with rfl|d
   .exact⟨f,j⟩
   .exact⟨λa e=>lH (f a e) ((ah z d).1 s rfl),(ah z d).2⟩
def dj(P:Nat->aq aD):Nat->aD->aq Key->aq Key->O Nat->O aH->Prop
 |0,_,_,_,_,_=>False
 |1,n,lo,hi,p,L=>gT n/\n.within lo hi/\p=[]/\L=n.dL
 |h+2,n,lo,hi,p,L=>n.leaf=false/\n.vals=[]/\(∀k∈n.keys,cw k)/\(∀k∈n.kids,k<1600)/\dF (fw P (h+1)) lo hi n.keys n.kids p L
theorem dj.agree:∀ {h:Nat}{n:aD}{p:O Nat}{L:O aH},dj P h n lo hi p L->(∀x∈p,P x=Q x)->dj Q h n lo hi p L
 |0,_,_,_,h,_=>h.elim
 |1,_,_,_,h,_=>h
 |_+2,_,_,_,⟨h1,h2,a,b,c⟩,d=>⟨h1,h2,a,b,c.lJ λ_ _ _ _ _ hs e=>e.agree λx hx=>d x (hs x hx)⟩
theorem dj.lay:∀ {h:Nat}{n:aD}{x:Nat}{p:O Nat}{L:O aH},dj P h n lo hi p L->n.keys≠ []->Q x=some n->(∀y∈p,P y=Q y)->ej Q h lo hi x (x::p) L
 |0,_,_,_,_,h,_,_,_=>h.elim
 |1,n,x,p,L,⟨h1,h2,b,c⟩,d,hx,_=>by
  subst b
  exact⟨n,hx,h1,h2,d,rfl,c⟩
 |h+2,n,x,p,L,g,d,hx,i=>by
  obtain⟨h1,h2,b,c,e⟩:=g.agree i
  have hs:=e.sorted λ_ _ _ _ _ j=>j.in
  exact⟨n,p,hx,⟨⟨b,hs.2.2.1⟩,h1,d,e.len,h2,c⟩,λs f=>⟨λa k=>iH ((hs.2.2.2 s f).1 a k),(hs.2.2.2 s f).2⟩,rfl,e⟩
def aD.left(n:aD)(i:Nat):aD:=if n.leaf then ⟨true,n.keys.take i,n.vals.take i,[]⟩ else ⟨false,n.keys.take i,[],n.kids.take (i+1)⟩
def aD.right(n:aD)(i:Nat):aD:=if n.leaf then ⟨true,n.keys.drop i,n.vals.drop i,[]⟩ else ⟨false,n.keys.drop (i+1),[],n.kids.drop (i+1)⟩
theorem dj.leaf{h:Nat}{n:aD}{p:O Nat}{L:O aH}(a:dj P h n lo hi p L):n.leaf=decide (h=1):=by
 match h,a with
 |0,a=>exact a.elim
 |1,a=>rw[a.1.leaf];rfl
 |h+2,a=>rw[a.1];simp
theorem dj.xr{h:Nat}{n:aD}{p:O Nat}{L:O aH}(g:dj P h n lo hi p L){i:Nat}(h1:1<=i)(m:i<n.keys.length):
 ∃ (bn bp:O Nat) (a7 bB:O aH),p=bn++bp/\L=a7++bB/\dj P h (n.left i) lo (some n.keys[i]) bn a7/\dj P h (n.right i) (some n.keys[i]) hi bp bB:=by
 match h,g with
 |0,g=>exact g.elim
 |1,⟨a,b,c,d⟩=>
  subst c d;have q:=a.fb;have gj:n.keys=n.keys.take i++n.keys.drop i:=(ic _ _).symm;have o:=q;rw[gj]at o;obtain⟨r1,b3,ag⟩:=mH.1 o;have hd:n.keys.drop i=n.keys[i]::n.keys.drop (i+1):=jD m;have hf:n.left i=⟨true,n.keys.take i,n.vals.take i,[]⟩:=by unfold aD.left;rw[a.leaf];rfl
  have hg:n.right i=⟨true,n.keys.drop i,n.vals.drop i,[]⟩:=by unfold aD.right;rw[a.leaf];rfl
  rw[hf,hg];refine⟨[],[],n.dL.take i,n.dL.drop i,rfl,(ic _ _).symm,⟨⟨⟨λk f=>a.ok k (fh f),r1⟩,rfl,by simp[a.len],rfl,λv g=>a.vals v (fh g)⟩,λk f=>⟨(b k (fh f)).1,λs hs=>?_⟩,rfl,?_⟩,
   ⟨⟨⟨λk f=>a.ok k (fg f),b3⟩,rfl,by simp[a.len],rfl,λv g=>a.vals v (fg g)⟩,λk f=>⟨λs hs=>?_,(b k (fg f)).2⟩,rfl,?_⟩⟩
  .cases hs
   exact ag k f _ (by rw[hd];exact List.mem_cons_self)
  .exact List.take_zipWith
  .cases hs
   have f:k∈n.keys.drop i:=f;rw[hd]at f b3;rcases cU.1 f with rfl|f
   .exact AF _
   .exact iH ((jF.1 b3).1 k f)
  .exact List.drop_zipWith
 |h+2,⟨a,b,c,d,e⟩=>
  have hf:n.left i=⟨false,n.keys.take i,[],n.kids.take (i+1)⟩:=by unfold aD.left;rw[a];rfl
  have hg:n.right i=⟨false,n.keys.drop (i+1),[],n.kids.drop (i+1)⟩:=by unfold aD.right;rw[a];rfl
  have gj:n.keys=n.keys.take i++n.keys[i]::n.keys.drop (i+1):=by rw[←jD m,ic]
  rw[gj]at e;obtain⟨bG,bI,bn,bp,a7,bB,j,rfl,rfl,s1,s2⟩:=e.cut;have l:=s1.len;rw[cG,jG I]at l;have r:n.kids.take (i+1)=bG:=by rw[j,←l,List.take_left]
  have t:n.kids.drop (i+1)=bI:=by rw[j,←l,List.drop_left]
  rw[hf,hg,r,t];exact⟨bn,bp,a7,bB,rfl,rfl,⟨rfl,rfl,λk f=>c k (fh f),λk f=>d k (by rw[j];simp[f]),s1⟩,⟨rfl,rfl,λk f=>c k (fg f),λk f=>d k (by rw[j];simp[f]),s2⟩⟩
end Go.Proofs.YtkdhdlfonmgheaaGreat
namespace Go.Proofs.YtkdhdlfonmgheaaGreat
variable {lo hi:aq Key}{P Q:Nat->aq aD}
def ed(a:aD)(s:Key)(b:aD):aD:=if a.leaf then ⟨true,a.keys++b.keys,a.vals++b.vals,[]⟩ else ⟨false,a.keys++s::b.keys,[],a.kids++b.kids⟩
theorem og{a b c d:O Key}(h:a.length=c.length):(a++b).zip (c++d)=a.zip c++b.zip d:=List.zip_append h
theorem dj.merge{h:Nat}{a b:aD}{s:Key}{pa l:O Nat}{m n:O aH}(g:dj P h a lo (some s) pa m)(o:dj P h b (some s) hi l n)(hs:cw s)(p:∀k,lo=some k->ez k s)(q:∀k,hi=some k->ez s k):
 dj P h (ed a s b) lo hi (pa++l) (m++n):=by
 match h,g,o with
 |0,g,_=>exact g.elim
 |1,⟨a1,a2,a3,a4⟩,⟨b_,bO,i,j⟩=>
  subst a3 a4 i j;have e:ed a s b=⟨true,a.keys++b.keys,a.vals++b.vals,[]⟩:=by unfold ed;rw[a1.leaf];rfl
  rw[e];refine⟨⟨⟨λk d=>?_,mH.2 ⟨a1.fb,b_.fb,λx hx y r=>m4 ((a2 x hx).2 s rfl) ((bO y r).1 s rfl)⟩⟩,rfl,by simp[a1.len,b_.len],rfl,λv f=>?_⟩,λk d=>?_,rfl,?_⟩
  .rcases cT.1 d with d|d
   .exact a1.ok k d
   .exact b_.ok k d
  .rcases cT.1 f with f|f
   .exact a1.vals v f
   .exact b_.vals v f
  .rcases cT.1 d with d|d
   .exact⟨(a2 k d).1,λc hc=>m4 ((a2 k d).2 s rfl) (q c hc)⟩
   .exact⟨λc hc=>AH (p c hc) ((bO k d).1 s rfl),(bO k d).2⟩
  .exact(og a1.len.symm).symm
 |h+2,⟨a1,a2,a3,a4,a5⟩,⟨b_,bO,i,j,t⟩=>
  have e:ed a s b=⟨false,a.keys++s::b.keys,[],a.kids++b.kids⟩:=by unfold ed;rw[a1];rfl
  rw[e];refine⟨rfl,rfl,λk d=>?_,λk d=>?_,a5.app t⟩
  .rcases cT.1 d with d|d
   .exact a3 k d
   .rcases cU.1 d with rfl|d
    .exact hs
    .exact i k d
  .rcases cT.1 d with d|d
   .exact a4 k d
   .exact j k d
theorem ej.kE{h no:Nat}{p:O Nat}{L:O aH}(b:ej P h lo hi no p L):∃n a,P no=some n/\p=no::a/\n.keys≠ []/\dj P h n lo hi a L:=by
 match h,b with
 |0,b=>exact b.elim
 |1,⟨n,h1,h2,e,c,d,f⟩=>exact⟨n,[],h1,d,c,h2,e,rfl,f⟩
 |h+2,⟨n,a,h1,h2,e,c,d⟩=>exact⟨n,a,h1,c,h2.some,h2.inner,h2.vals,h2.ok,h2.kids,d⟩
def gf(n:aD)(fr to:Nat)(ks:O Key)(kids:O Nat):aD:=⟨false,n.keys.take fr++ks++n.keys.drop (to-1),[],n.kids.take fr++kids++n.kids.drop to⟩
end Go.Proofs.YtkdhdlfonmgheaaGreat
namespace Go.Proofs.YtkdhdlfonmgheaaGreat
def cellsOf(n:aD):O Nat:=if n.leaf then List.zipWith (λk v=>2+k.length+v.length) n.keys n.vals else n.keys.map λk=>3+k.length
def bM(n:aD):Nat:=(if n.leaf then 1 else 3)+(cellsOf n).sum
def gr(c:O Nat)(most:Nat):Nat:=match (List.range most).find? λi=>decide (c.sum<=2*(c.take (i+1)).sum) with
 |some i=>i+1
 |none=>most
theorem m5{B:Nat}:∀ {l:O Nat},(∀x∈l,x<=B)->l.sum<=B*l.length
 | [],_=>by simp
 |a::l,h=>by
  have h1:=h a (by simp)
  have h2:=m5 (l:=l) λx hx=>h x (by simp[hx])
  rw[qC,e8,Nat.mul_add,fG]
  omega
theorem xt(l:O Nat)(i:Nat):(l.take i).sum+(l.drop i).sum=l.sum:=by
 rw[←lr,ic]
theorem pZ{l:O Nat}{i:Nat}(h:i<l.length):(l.take (i+1)).sum=(l.take i).sum+l[i]:=by
 rw[iU h,lr];simp
theorem AL{c:O Nat}{most:Nat}(a:1<=most)(hs:0<c.sum):1<=gr c most/\gr c most<=most/\2*(c.take (gr c most-1)).sum<c.sum/\(gr c most=most\/c.sum<=2*(c.take (gr c most)).sum):=by
 unfold gr
 cases h:(List.range most).find? λi=>decide (c.sum<=2*(c.take (i+1)).sum) with
 |none=>
  have b:=jo.1 h;refine⟨a,bl _,?_,.inl rfl⟩;by_cases h1:most=1
  .subst h1;simpa using hs
  .have:=b (most-2) (jC.2 I)
   have e:most-2+1=most-1:=by omega
   rw[e]at this;simp at this;exact this
 |some i=>
  have hi:i<most:=jC.1 (jH h);have d:=ko h;refine⟨by simp,by simp;omega,?_,.inr (by simpa using d)⟩;show 2*(c.take (i+1-1)).sum<c.sum;rw[Nat.add_sub_cancel]
  cases i with
  |zero=>simpa using hs
  |succ j=>
   have:=(List.find?_range_eq_some.1 h).2.2 j I;simpa using this
theorem E7{c:O Nat}(a:∀x∈c,x<=50)(h1:232<=c.sum)(h2:c.sum<=309):
 2<=gr c (c.length-1)/\gr c (c.length-1)+2<=c.length/\(c.take (gr c (c.length-1))).sum<=231/\(c.drop (gr c (c.length-1))).sum<=231:=by
 have e:=m5 a;have b:=AL (c:=c) (most:=c.length-1) I I;generalize gr c (c.length-1)=i at b⊢;obtain⟨a1,a2,a3,a4⟩:=b;have hs:=xt c i;have ht:=pZ (l:=c) (i:=i-1) I;rw[Nat.sub_add_cancel a1]at ht;have hc:=a c[i-1] (cF _);have hd:=m5 (l:=c.drop i) λx hx=>a x (fg hx);have d:=m5 (l:=c.take i) λx hx=>a x (fh hx);rw[da]at hd;rw[cG,jG I]at d;have key:c.sum<=2*(c.take i).sum:=by
  rcases a4 with h|h
  .have:c.length-i=1:=by omega
   rw[this]at hd;omega
  .exact h
 refine⟨I,?_,I,I⟩;rcases dO (c.length-i) 2 with h|h
 .have:c.length-i=1:=by omega
  rw[this]at hd;omega
 .omega
theorem E8{c:O Nat}(a:∀x∈c,x<=27)(h1:230<=c.sum)(h2:c.sum<=332):
 2<=gr c (c.length-2)/\gr c (c.length-2)+3<=c.length/\(c.take (gr c (c.length-2))).sum<=229/\(c.drop (gr c (c.length-2)+1)).sum<=229:=by
 have e:=m5 a;have b:=AL (c:=c) (most:=c.length-2) I I;generalize gr c (c.length-2)=i at b⊢;obtain⟨a1,a2,a3,a4⟩:=b;have hs:=xt c (i+1);have ht:=pZ (l:=c) (i:=i-1) I;have hu:=pZ (l:=c) (i:=i) I;rw[Nat.sub_add_cancel a1]at ht;have hc:=a c[i-1] (cF _);have f:=a c[i] (cF _);have hd:=m5 (l:=c.drop (i+1)) λx hx=>a x (fg hx);have d:=m5 (l:=c.take i) λx hx=>a x (fh hx);rw[da]at hd;rw[cG,jG I]at d;have key:c.sum<=2*(c.take i).sum:=by
  rcases a4 with h|h
  .have:c.length-(i+1)=1:=by omega
   rw[this]at hd;omega
  .exact h
 refine⟨I,?_,I,I⟩;rcases dO (c.length-(i+1)) 2 with h|h
 .have:c.length-(i+1)<=1:=by omega
  have:27*(c.length-(i+1))<=27*1:=Nat.mul_le_mul_left _ this;omega
 .omega
end Go.Proofs.YtkdhdlfonmgheaaGreat
namespace Go.Proofs.YtkdhdlfonmgheaaGreat
variable {W:Below}{lo hi m:aq Key}{P Q:Nat->aq aD}
theorem gz.inv{kids p:O Nat}{L:O aH}(h:gz W hi m [] kids p L):m=hi/\kids=[]/\p=[]/\L=[]:=by
 generalize e:([]:O Key)=K at h
 cases h with
 |nil=>exact⟨rfl,rfl,rfl,rfl⟩
 |more h=>simp at e
theorem fE.last{ks:O Key}{kids p:O Nat}{L:O aH}(h:fE W lo m ks kids p L)(c:0<kids.length):∃ (s:Key) (a:aq Key) (bn r:O Nat) (a7 N:O aH) (hs:0<ks.length),
 m=some s/\s=ks[ks.length-1]/\p=bn++r/\L=a7++N/\W a (some s) (kids[kids.length-1]) r N/\fE W lo a (ks.take (ks.length-1)) (kids.take (kids.length-1)) bn a7/\kids.length=ks.length:=by
 cases h with
 |nil=>simp at c
 | @more s ks kids p L h=>
  have d:=h.len;obtain⟨a,f,bn,q,bp,a7,M,bB,rfl,rfl,h1,h2,b⟩:=h.at (kids.length-1) I;rw[List.drop_of_length_le I]at b;obtain⟨rfl,_,rfl,rfl⟩:=b.inv;refine⟨s,a,bn,q,a7,M,by simp,rfl,by simp,by simp,by simp,h1,?_,by simp;omega⟩;have e:(ks++ [s]).take ((ks++ [s]).length-1)=ks.take (kids.length-1):=by
   rw[d];simp
  rw[e];exact h2
theorem dj.at{h:Nat}{n:aD}{p:O Nat}{L:O aH}(v:dj P (h+2) n lo hi p L){k:Key}(m:fu lo hi k):∃ (f g:aq Key) (bn q bp:O Nat) (a7 M bB:O aH) (B:dt n.keys k<n.kids.length),
 p=bn++(q++bp)/\L=a7++(M++bB)/\fw P (h+1) f g n.kids[dt n.keys k] q M/\fu f g k/\(∀u,Loc k u->u L=a7++(u M++bB))/\n.kids.length=n.keys.length+1/\
 fE (fw P (h+1)) lo f (n.keys.take (dt n.keys k)) (n.kids.take (dt n.keys k)) bn a7/\gz (fw P (h+1)) hi g (n.keys.drop (dt n.keys k)) (n.kids.drop (dt n.keys k+1)) bp bB:=by
 obtain⟨a,b,c,d,e⟩:=v;have w:=e.len;have C:=vi n.keys k;have hs:=e.sorted λ_ _ _ _ _ i=>i.in;have o:∀s∈n.keys,fu lo hi s:=λs h=>⟨λa x=>iH ((hs.2.2.2 s h).1 a x),(hs.2.2.2 s h).2⟩;obtain⟨f,g,bn,q,bp,a7,M,bB,rfl,rfl,h1,h2,l⟩:=e.at (dt n.keys k) I;have r:=h2.E2 (k:=k) (λj y h=>E0 h y) m.1;have t:=l.E3 (k:=k) (λh=>E1 h) m.2;have z:(n.keys.take (dt n.keys k)).Pairwise bK:=hs.2.2.1.sublist (List.take_sublist _ _);have A:(n.keys.drop (dt n.keys k)).Pairwise bK:=hs.2.2.1.sublist (List.drop_sublist _ _);exact⟨f,g,bn,q,bp,a7,M,bB,I,rfl,rfl,h1,⟨r,t⟩,λu hu=>hu _ _ _ (h2.below (hi:=hi) (λ_ _ _ _ _ i=>i.in.2) z (λs h=>o s (fh h)) r) (l.E4 (lo:=lo) (λ_ _ _ _ _ i=>i.in.2) A (λs h=>o s (fg h)) t),
  w,h2,l⟩
theorem dj.build{h:Nat}{d e:aq Key}{a kb ks:O Key}{b c kids bn bp q:O Nat}{a7 M bB:O aH}(h1:fE (fw P (h+1)) lo d a b bn a7)(h2:gz (fw P (h+1)) hi e kb c bp bB)
 (hs:dF (fw Q (h+1)) d e ks kids q M) (g:∀x∈bn++bp,P x=Q x) (i:∀s∈a++ks++kb,cw s) (hd:∀x∈b++kids++c,x<1600):
 dj Q (h+2) ⟨false,a++ks++kb,[],b++kids++c⟩ lo hi (bn++(q++bp)) (a7++(M++bB)):=by
 have au:fE (fw Q (h+1)) lo d a b bn a7:=h1.lJ λ_ _ _ _ _ hs f=>f.agree λx hx=>g x (jE _ (hs x hx));have ay:gz (fw Q (h+1)) hi e kb c bp bB:=h2.lJ λ_ _ _ _ _ hs f=>f.agree λx hx=>g x (ie _ (hs x hx));refine⟨rfl,rfl,i,hd,?_⟩;show dF _ lo hi (a++ks++kb) (b++kids++c) _ _;rw[cP,cP];exact au.EZ (hs.post ay)
end Go.Proofs.YtkdhdlfonmgheaaGreat
namespace Go.Proofs.YtkdhdlfonmgheaaGreat
variable {lo hi:aq Key}{P Q:Nat->aq aD}
theorem dj.one{h x:Nat}{n:aD}{p:O Nat}{L:O aH}(a:dj P h n lo hi p L)(h2:2<=n.keys.length)(hx:Q x=some n)(b:∀y∈p,P y=Q y):dF (fw Q h) lo hi [] [x] (x::p) L:=
 .one ⟨a.lay (λe=>by rw[e]at h2;simp at h2) hx b,n,hx,h2⟩
theorem k4{n:aD}(h:n.leaf=true):cellsOf n=List.zipWith (λk v=>2+k.length+v.length) n.keys n.vals:=by unfold cellsOf;rw[h];rfl
theorem k5{n:aD}(h:n.leaf=false):cellsOf n=n.keys.map λk=>3+k.length:=by unfold cellsOf;rw[h];rfl
theorem xu{B:Nat}{f:Key->Key->Nat}:∀ {ks vs:O Key},(∀k∈ks,∀v∈vs,f k v<=B)->∀x∈List.zipWith f ks vs,x<=B
 | [],vs,_,x,hx=>by simp at hx
 |k::ks,[],_,x,hx=>by simp at hx
 |k::ks,v::vs,h,x,hx=>by
  rw[List.zipWith_cons_cons]at hx
  rcases cU.1 hx with rfl|hx
  .exact h k (by simp) v (by simp)
  .exact xu (λk a v b=>h k (by simp[a]) v (by simp[b])) x hx
def cm(n:aD):Nat:=gr (cellsOf n) (if n.leaf then n.keys.length-1 else n.keys.length-2)
theorem dj.two{h x y:Nat}{n:aD}{p:O Nat}{L:O aH}(b:dj P h n lo hi p L)(h1:232<bM n)(h2:n.leaf=true->bM n<=310)(r:n.leaf=false->bM n<=335):
 1<=cm n/\(if n.leaf then cm n<=n.keys.length-1/\1<=n.keys.length-1 else cm n<=n.keys.length-2/\1<=n.keys.length-2)/\bM (n.left (cm n))<=232/\bM (n.right (cm n))<=232/\
  ∃ (u:cm n<n.keys.length) (bn bp:O Nat) (a7 bB:O aH),p=bn++bp/\L=a7++bB/\cw n.keys[cm n]/\
   (Q x=some (n.left (cm n))->Q y=some (n.right (cm n))->(∀z∈p,P z=Q z)->dF (fw Q h) lo hi [n.keys[cm n]] [x,y] ((x::bn)++(y::bp)) (a7++bB)):=by
 have main:∀ (i:Nat),2<=i->(F:i<n.keys.length)->2<=(n.left i).keys.length->2<=(n.right i).keys.length->∃ (u:i<n.keys.length) (bn bp:O Nat) (a7 bB:O aH),p=bn++bp/\L=a7++bB/\cw n.keys[i]/\
  (Q x=some (n.left i)->Q y=some (n.right i)->(∀z∈p,P z=Q z)->dF (fw Q h) lo hi [n.keys[i]] [x,y] ((x::bn)++(y::bp)) (a7++bB)):=by
  intro i G s w A;obtain⟨bn,bp,a7,bB,rfl,rfl,v1,v2⟩:=b.xr (by omega:1<=i) s;have B:cw n.keys[i]:=by
   match h,b with
   |0,b=>exact b.elim
   |1,b=>exact b.1.ok _ (cF _)
   |h+2,b=>exact b.2.2.1 _ (cF _)
  refine⟨s,bn,bp,a7,bB,rfl,rfl,B,λhx C t=>?_⟩;have s1:=v1.one w hx λz f=>t z (jE _ f);have s2:=v2.one A C λz f=>t z (ie _ f);exact s1.app s2
 match h,b with
 |0,b=>exact b.elim
 |1,b=>
  have a:n.leaf=true:=b.1.leaf;have g:(cellsOf n).length=n.keys.length:=by rw[k4 a,List.length_zipWith,b.1.len,Nat.min_self]
  have j:∀c∈cellsOf n,c<=50:=by
   rw[k4 a];exact xu λk l v D=>by have:=(b.1.ok k l).2;have:=b.1.vals v D;omega
  have E:bM n=1+(cellsOf n).sum:=by unfold bM;rw[a];rfl
  have h2:=h2 a;obtain⟨a1,a2,a3,a4⟩:=E7 j I I;have m:cm n=gr (cellsOf n) ((cellsOf n).length-1):=by unfold cm;rw[a,g];rfl
  rw[←m]at a1 a2 a3 a4;have d:n.left (cm n)=⟨true,n.keys.take (cm n),n.vals.take (cm n),[]⟩:=by unfold aD.left;rw[a];rfl
  have e:n.right (cm n)=⟨true,n.keys.drop (cm n),n.vals.drop (cm n),[]⟩:=by unfold aD.right;rw[a];rfl
  have o:cellsOf (n.left (cm n))=(cellsOf n).take (cm n):=by rw[d,k4 rfl,k4 a];exact List.take_zipWith.symm
  have q:cellsOf (n.right (cm n))=(cellsOf n).drop (cm n):=by rw[e,k4 rfl,k4 a];exact List.drop_zipWith.symm
  refine⟨I,by rw[a];exact⟨I,I⟩,?_,?_,main _ a1 I (by rw[d];show 2<=(n.keys.take _).length;rw[cG];omega) (by rw[e];show 2<=(n.keys.drop _).length;rw[da];omega)⟩
  .unfold bM;rw[o,d];show 1+_<=_;omega
  .unfold bM;rw[q,e];show 1+_<=_;omega
 |h+2,b=>
  have a:n.leaf=false:=b.1;have g:(cellsOf n).length=n.keys.length:=by rw[k5 a,dU]
  have j:∀c∈cellsOf n,c<=27:=by
   rw[k5 a];intro c hc;obtain⟨k,l,rfl⟩:=eC.1 hc;have:=(b.2.2.1 k l).2;omega
  have E:bM n=3+(cellsOf n).sum:=by unfold bM;rw[a];rfl
  have r:=r a;obtain⟨a1,a2,a3,a4⟩:=E8 j I I;have m:cm n=gr (cellsOf n) ((cellsOf n).length-2):=by unfold cm;rw[a,g];rfl
  rw[←m]at a1 a2 a3 a4;have d:n.left (cm n)=⟨false,n.keys.take (cm n),[],n.kids.take (cm n+1)⟩:=by unfold aD.left;rw[a];rfl
  have e:n.right (cm n)=⟨false,n.keys.drop (cm n+1),[],n.kids.drop (cm n+1)⟩:=by unfold aD.right;rw[a];rfl
  have o:cellsOf (n.left (cm n))=(cellsOf n).take (cm n):=by rw[d,k5 rfl,k5 a];exact mJ
  have q:cellsOf (n.right (cm n))=(cellsOf n).drop (cm n+1):=by rw[e,k5 rfl,k5 a];exact oR
  refine⟨I,by rw[a];exact⟨I,I⟩,?_,?_,main _ a1 I (by rw[d];show 2<=(n.keys.take _).length;rw[cG];omega) (by rw[e];show 2<=(n.keys.drop _).length;rw[da];omega)⟩
  .unfold bM;rw[o,d];show 3+_<=_;omega
  .unfold bM;rw[q,e];show 3+_<=_;omega
end Go.Proofs.YtkdhdlfonmgheaaGreat
namespace Go.Proofs.YtkdhdlfonmgheaaGreat
variable {lo hi:aq Key}{P Q:Nat->aq aD}
theorem dj.cells{h:Nat}{n:aD}{p:O Nat}{L:O aH}(a:dj P h n lo hi p L):(cellsOf n).length=n.keys.length/\∀c∈cellsOf n,c<=if n.leaf then 50 else 27:=by
 match h,a with
 |0,a=>exact a.elim
 |1,a=>
  have b:n.leaf=true:=a.1.leaf;rw[k4 b,b];exact⟨by rw[List.length_zipWith,a.1.len,Nat.min_self],xu λk d v e=>by have:=(a.1.ok k d).2;have:=a.1.vals v e;simp only[if_true];omega⟩
 |h+2,a=>
  have b:n.leaf=false:=a.1;rw[k5 b,b];refine⟨by rw[dU],λc hc=>?_⟩;obtain⟨k,d,rfl⟩:=eC.1 hc;have:=(a.2.2.1 k d).2;show 3+k.length<=27;omega
theorem dj.xv{h:Nat}{n:aD}{p:O Nat}{L:O aH}(b:dj P h n lo hi p L)(hs:80<=bM n):2<=n.keys.length:=by
 obtain⟨h1,h2⟩:=b.cells;have:=m5 h2;rw[h1]at this;unfold bM at hs
 cases a:n.leaf with
 |true=>rw[a]at hs this;simp only[if_true]at hs this;omega
 |false=>rw[a]at hs this;simp only[fS,if_false]at hs this;omega
theorem E9{a b:aD}{s:Key}(h:a.leaf=b.leaf)(f:a.leaf=true->a.vals.length=a.keys.length):bM (ed a s b)=if a.leaf then bM a+bM b-1 else bM a+bM b+s.length:=by
 cases c:a.leaf with
 |true=>
  have e:ed a s b=⟨true,a.keys++b.keys,a.vals++b.vals,[]⟩:=by unfold ed;rw[c];rfl
  have d:b.leaf=true:=by rw[←h,c]
  unfold bM;rw[e,k4 rfl,k4 c,k4 d,c,d];simp only[if_true];rw[oS (f c).symm,lr];omega
 |false=>
  have e:ed a s b=⟨false,a.keys++s::b.keys,[],a.kids++b.kids⟩:=by unfold ed;rw[c];rfl
  have d:b.leaf=false:=by rw[←h,c]
  unfold bM;rw[e,k5 rfl,k5 c,k5 d,c,d];simp only[fS,if_false,fZ,jm,lr,qC];omega
def iJ(ks:O Key):Nat:=(ks.map λk=>3+k.length).sum
theorem vj(a b:O Key):iJ (a++b)=iJ a+iJ b:=by unfold iJ;rw[fZ,lr]
theorem AM{n:aD}(h:n.leaf=false):bM n=3+iJ n.keys:=by unfold bM iJ;rw[h,k5 h];rfl
theorem E_(k:Key):iJ [k]=3+k.length:=by simp[iJ]
theorem xw{n:aD}{ks:O Key}{kids:O Nat}{fr j:Nat}(h:n.leaf=false)(a:ks.length<=1)(b:∀k∈ks,cw k)(c:fr<=j):
 bM ⟨false,n.keys.take fr++ks++n.keys.drop j,[],kids⟩<=bM n+27:=by
 rw[AM h,AM rfl];show 3+iJ (n.keys.take fr++ks++n.keys.drop j)<=_;rw[vj,vj];have h1:iJ ks<=27:=by
  match ks,a with
  | [],_=>simp[iJ]
  | [k],_=>rw[E_];have:=(b k (by simp)).2;omega
 have h2:iJ n.keys=iJ (n.keys.take fr)+iJ (n.keys.drop fr):=by rw[←vj,ic]
 have d:iJ (n.keys.drop fr)=iJ ((n.keys.drop fr).take (j-fr))+iJ (n.keys.drop j):=by
  rw[←vj]
  congr 1
  have:n.keys.drop j=(n.keys.drop fr).drop (j-fr):=by rw[qD];congr 1;omega
  rw[this,ic]
 omega
end Go.Proofs.YtkdhdlfonmgheaaGreat
namespace Go.Proofs.YtkdhdlfonmgheaaGreat
variable {lo hi:aq Key}{P Q:Nat->aq aD}
def mb(Q:Nat->aq aD)(n:aD)(ks:O Key)(kids:O Nat):Prop:=
 (bM n<=232/\∃x,ks=[]/\kids=[x]/\Q x=some n)\/
 (232<bM n/\∃ (x y:Nat) (a:cm n<n.keys.length),ks=[n.keys[cm n]]/\kids=[x,y]/\Q x=some (n.left (cm n))/\Q y=some (n.right (cm n)))
theorem dj.fits{h:Nat}{n:aD}{p:O Nat}{L:O aH}{ks:O Key}{kids:O Nat}(a:dj P h n lo hi p L)(h2:2<=n.keys.length)(d:n.leaf=true->bM n<=310)(e:n.leaf=false->bM n<=335)
 (hf:mb Q n ks kids) (b:∀x∈p,P x=Q x):∃c,dF (fw Q h) lo hi ks kids c L/\c.Perm (kids++p)/\(∀s∈ks,cw s)/\ks.length<=1:=by
 rcases hf with ⟨_,x,rfl,rfl,hx⟩|⟨hs,x,y,j,rfl,rfl,hx,f⟩
 .exact⟨x::p,a.one h2 hx b,List.Perm.refl _,by simp,by simp⟩
 .obtain⟨_,_,_,_,_,bn,bp,a7,bB,rfl,rfl,g,i⟩:=a.two (Q:=Q) (x:=x) (y:=y) hs d e
  refine⟨_,i hx f b,?_,by simpa using g,by simp⟩;show((x::bn)++(y::bp)).Perm ([x,y]++(bn++bp));simp only[nu,iW];exact(mG).cons x
theorem Fa{h:Nat}{a c:aD}{f g:aq Key}{i:Nat}{bn bp b:O Nat}{a7 hT bB:O aH}{ks:O Key}{kids:O Nat}(h0:a.leaf=false)(j:∀k∈a.keys,cw k)(l:∀x∈a.kids,x<1600)
 (p:fE (fw P (h+1)) lo f (a.keys.take i) (a.kids.take i) bn a7) (q:gz (fw P (h+1)) hi g (a.keys.drop i) (a.kids.drop (i+1)) bp bB) (m:dj P (h+1) c f g b hT) (h1:80<=bM c) (h2:bM c<=282)
 (hf:mb Q c ks kids) (d:∀x∈bn++(b++bp),P x=Q x) (r:∀x∈kids,x<1600):
 ∃n,dj Q (h+2) (gf a i (i+1) ks kids) lo hi n (a7++(hT++bB))/\n.Perm (kids++(bn++(b++bp)))/\bM (gf a i (i+1) ks kids)<=bM a+27/\a.keys.length<=(gf a i (i+1) ks kids).keys.length:=by
 obtain⟨dG,hs,t,o,u⟩:=m.fits (m.xv h1) (λ_=>I) (λ_=>I) hf λx hx=>d x (ie _ (jE _ hx));have v:=dj.build p q hs (λx hx=>by
  rcases cT.1 hx with hx|hx
  .exact d x (jE _ hx)
  .exact d x (ie _ (ie _ hx)))
  (λs hs=>by
    rcases cT.1 hs with hs|hs
    .rcases cT.1 hs with hs|hs
     .exact j s (fh hs)
     .exact o s hs
    .exact j s (fg hs))
  (λx hx=>by
    rcases cT.1 hx with hx|hx
    .rcases cT.1 hx with hx|hx
     .exact l x (fh hx)
     .exact r x hx
    .exact l x (fg hx))
 have e:gf a i (i+1) ks kids=⟨false,a.keys.take i++ks++a.keys.drop i,[],a.kids.take i++kids++a.kids.drop (i+1)⟩:=by unfold gf;rw[Nat.add_sub_cancel]
 rw[e];refine⟨_,v,?_,xw h0 u o (bl _),?_⟩
 .have au:(dG++bp).Perm (kids++(b++bp)):=by
   rw[←cP];exact t.append_right _
  refine(List.Perm.append_left bn au).trans ?_;have ay:=(qE (l₁:=bn) (l₂:=kids)).append_right (b++bp);rw[cP,cP]at ay;exact ay
 .show a.keys.length<=(a.keys.take i++ks++a.keys.drop i).length
  have:=congrArg List.length (ic i a.keys);simp only[cz]at this⊢;omega
end Go.Proofs.YtkdhdlfonmgheaaGreat
namespace Go.Proofs.YtkdhdlfonmgheaaGreat
variable {lo hi:aq Key}{P Q:Nat->aq aD}
theorem vk{a b:aD}{s:Key}:a.keys.length+b.keys.length<=(ed a s b).keys.length:=by
 unfold ed;split
 .show _<=(a.keys++b.keys).length
  rw[cz];omega
 .show _<=(a.keys++s::b.keys).length
  rw[cz,e8];omega
theorem AN{a b:aD}{s:Key}:(ed a s b).leaf=a.leaf:=by
 unfold ed
 cases h:a.leaf<;>simp
theorem vl{h:Nat}{a b:aD}{s:Key}{fc dM d f:aq Key}{pa g:O Nat}{i j:O aH}(c:dj P h a fc dM pa i)(k:dj P h b d f g j)(hs:cw s)(h1:bM a+bM b<=311):
 ((ed a s b).leaf=true->bM (ed a s b)<=310)/\((ed a s b).leaf=false->bM (ed a s b)<=335):=by
 have l:a.leaf=b.leaf:=by rw[c.leaf,k.leaf]
 have m:a.leaf=true->a.vals.length=a.keys.length:=λh1=>by
  match h,c with
  |0,c=>exact c.elim
  |1,c=>exact c.1.len
  |h+2,c=>rw[c.1]at h1;cases h1
 rw[AN,E9 l m];have:=hs.2;constructor
 .intro e;rw[e];simp only[if_true];omega
 .intro e;rw[e];simp only[fS,if_false];omega
theorem Fb{h:Nat}{d g:aD}{u v:aq Key}{i:Nat}{bn bp f:O Nat}{a7 hT bB:O aH}{k:Key}(h0:d.leaf=false)(w:∀k∈d.keys,cw k)(C:∀x∈d.kids,x<1600)(hlen:d.kids.length=d.keys.length+1)(S:∀x n,P x=some n->bM n<=232)
 (dM:1<=i) (ag:i<d.kids.length) (D:fu u v k)
 (T:fE (fw P (h+1)) lo u (d.keys.take i) (d.kids.take i) bn a7) (U:gz (fw P (h+1)) hi v (d.keys.drop i) (d.kids.drop (i+1)) bp bB) (E:dj P (h+1) g u v f hT) (h1:bM g<80):
 ∃ (o:aD) (y:O Nat) (F:i-1<d.kids.length) (ah:i-1<d.keys.length),P d.kids[i-1]=some o/\bn.Perm (d.kids[i-1]::y)/\2<=o.keys.length/\
  ∀ (Q:Nat->aq aD) (ks:O Key) (kids:O Nat),mb Q (ed o d.keys[i-1] g) ks kids->(∀x∈y++(f++bp),P x=Q x)->(∀x∈kids,x<1600)->
   ∃G,dj Q (h+2) (gf d (i-1) (i+1) ks kids) lo hi G (a7++(hT++bB))/\G.Perm (kids++(y++(f++bp)))/\bM (gf d (i-1) (i+1) ks kids)<=bM d+27/\d.keys.length<=(gf d (i-1) (i+1) ks kids).keys.length+1:=by
 obtain⟨s,V,aG,r,aM,N,hs,rfl,z,rfl,rfl,⟨A,m,j,p⟩,H,ai⟩:=T.last (by rw[cG];omega);have W:(d.keys.take i).length=i:=by rw[cG];omega
 have X:(d.kids.take i).length=i:=by rw[cG];omega
 have z:s=d.keys[i-1]'I:=by
  rw[z,oT];congr 1;omega
 have Y:(d.kids.take i)[(d.kids.take i).length-1]'I=d.kids[i-1]'I:=by
  rw[oT];congr 1;omega
 rw[Y]at A j;obtain⟨o,q,t,rfl,_,J⟩:=A.kE;rw[t]at j;have p:2<=o.keys.length:=by rw[Option.some.inj j];exact p
 clear j;subst z;have B:=(show fw P (h+1) V (some (d.keys[i-1]'I)) (d.kids[i-1]'I) (d.kids[i-1]'I::q) N from⟨A,o,t,p⟩).in;obtain⟨x,hx⟩:=qB _ B.1;have K:=w _ (cF (l:=d.keys) (n:=i-1) I);have Z:=dj.merge J E K (λc hc=>iH (j7 ((B.2.2 x hx).1 c hc) ((B.2.2 x hx).2 _ rfl))) (λc hc=>iH (j7 (D.1 _ rfl) (D.2 c hc)));have L:=vl J E K (by have:=S _ _ t;omega);have aj:=vk (a:=o) (b:=g) (s:=d.keys[i-1]'I);refine⟨o,aG++q,I,I,t,mG,p,λQ ks kids hf M aa=>?_⟩;obtain⟨dG,ab,ac,R,ad⟩:=Z.fits I L.1 L.2 hf λx hx=>M x (by
  rcases cT.1 hx with hx|hx
  .exact jE _ (ie _ hx)
  .exact ie _ (jE _ hx))
 have ae:(d.keys.take i).take ((d.keys.take i).length-1)=d.keys.take (i-1):=by rw[W,qF];congr 1;omega
 have af:(d.kids.take i).take ((d.kids.take i).length-1)=d.kids.take (i-1):=by rw[X,qF];congr 1;omega
 rw[ae,af]at H;have F:=dj.build H U ab (λx hx=>M x (by
  rcases cT.1 hx with hx|hx
  .exact jE _ (jE _ hx)
  .exact ie _ (ie _ hx)))
  (λs hs=>by
    rcases cT.1 hs with hs|hs
    .rcases cT.1 hs with hs|hs
     .exact w s (fh hs)
     .exact R s hs
    .exact w s (fg hs))
  (λx hx=>by
    rcases cT.1 hx with hx|hx
    .rcases cT.1 hx with hx|hx
     .exact C x (fh hx)
     .exact aa x hx
    .exact C x (fg hx))
 have e:gf d (i-1) (i+1) ks kids=⟨false,d.keys.take (i-1)++ks++d.keys.drop i,[],d.kids.take (i-1)++kids++d.kids.drop (i+1)⟩:=by unfold gf;rw[Nat.add_sub_cancel]
 rw[e];refine⟨_,by simpa[cP] using F,?_,xw h0 ad R I,?_⟩
 .have au:(dG++bp).Perm (kids++(q++(f++bp))):=by
   have:=ac.append_right bp;simpa[cP] using this
  refine(List.Perm.append_left aG au).trans ?_;have ay:=(qE (l₁:=aG) (l₂:=kids)).append_right (q++(f++bp));simpa[cP] using ay
 .show d.keys.length<=(d.keys.take (i-1)++ks++d.keys.drop i).length+1
  simp only[cz,cG,da];omega
end Go.Proofs.YtkdhdlfonmgheaaGreat
namespace Go.Proofs.YtkdhdlfonmgheaaGreat
variable {lo hi:aq Key}{P Q:Nat->aq aD}
theorem Fc{h:Nat}{d j:aD}{w y:aq Key}{i:Nat}{bn bp f:O Nat}{a7 hT bB:O aH}{k:Key}(h0:d.leaf=false)(z:∀k∈d.keys,cw k)(E:∀x∈d.kids,x<1600)(hlen:d.kids.length=d.keys.length+1)(U:∀x n,P x=some n->bM n<=232)
 (p:i+1<d.kids.length) (F:fu w y k)
 (V:fE (fw P (h+1)) lo w (d.keys.take i) (d.kids.take i) bn a7) (W:gz (fw P (h+1)) hi y (d.keys.drop i) (d.kids.drop (i+1)) bp bB) (G:dj P (h+1) j w y f hT) (h1:bM j<80):
 ∃ (o:aD) (A:O Nat) (H:i+1<d.kids.length) (ae:i<d.keys.length),P d.kids[i+1]=some o/\bp.Perm (d.kids[i+1]::A)/\2<=o.keys.length/\
  ∀ (Q:Nat->aq aD) (ks:O Key) (kids:O Nat),mb Q (ed j d.keys[i] o) ks kids->(∀x∈bn++(f++A),P x=Q x)->(∀x∈kids,x<1600)->
   ∃J,dj Q (h+2) (gf d i (i+2) ks kids) lo hi J (a7++(hT++bB))/\J.Perm (kids++(bn++(f++A)))/\bM (gf d i (i+2) ks kids)<=bM d+27/\d.keys.length<=(gf d i (i+2) ks kids).keys.length+1:=by
 obtain⟨s,X,r,g,N,af,hs,rfl,B,rfl,rfl,⟨C,m,q,t⟩,K⟩:=W.head (by rw[da];omega);have B:s=d.keys[i]'I:=by rw[B,qG];rfl
 have Y:(d.kids.drop (i+1))[0]'(by rw[da];omega)=d.kids[i+1]'p:=by rw[qG]
 rw[Y]at C q;obtain⟨o,u,v,rfl,_,L⟩:=C.kE;rw[v]at q;have t:2<=o.keys.length:=by rw[Option.some.inj q];exact t
 clear q;subst B;have D:=(show fw P (h+1) (some (d.keys[i]'I)) X (d.kids[i+1]'p) (d.kids[i+1]'p::u) N from⟨C,o,v,t⟩).in;obtain⟨x,hx⟩:=qB _ D.1;have M:=z _ (cF (l:=d.keys) (n:=i) I);have Z:=dj.merge G L M (λc hc=>iH (j7 (F.1 c hc) (F.2 _ rfl))) (λc hc=>iH (j7 ((D.2.2 x hx).1 _ rfl) ((D.2.2 x hx).2 c hc)));have R:=vl G L M (by have:=U _ _ v;omega);have ag:=vk (a:=j) (b:=o) (s:=d.keys[i]'I);refine⟨o,u++g,p,I,v,List.Perm.refl _,t,λQ ks kids hf S aa=>?_⟩;obtain⟨dG,ab,ac,T,ad⟩:=Z.fits I R.1 R.2 hf λx hx=>S x (by
  rcases cT.1 hx with hx|hx
  .exact ie _ (jE _ hx)
  .exact ie _ (ie _ (jE _ hx)))
 rw[qD,qD]at K;have H:=dj.build V K ab (λx hx=>S x (by
  rcases cT.1 hx with hx|hx
  .exact jE _ hx
  .exact ie _ (ie _ (ie _ hx))))
  (λs hs=>by
    rcases cT.1 hs with hs|hs
    .rcases cT.1 hs with hs|hs
     .exact z s (fh hs)
     .exact T s hs
    .exact z s (fg hs))
  (λx hx=>by
    rcases cT.1 hx with hx|hx
    .rcases cT.1 hx with hx|hx
     .exact E x (fh hx)
     .exact aa x hx
    .exact E x (fg hx))
 have e:gf d i (i+2) ks kids=⟨false,d.keys.take i++ks++d.keys.drop (i+1),[],d.kids.take i++kids++d.kids.drop (i+1+1)⟩:=rfl;rw[e];refine⟨_,by simpa[cP] using H,?_,xw h0 ad T I,?_⟩
 .have au:(dG++g).Perm (kids++(f++(u++g))):=by
   have:=ac.append_right g;simpa[cP] using this
  refine(List.Perm.append_left bn au).trans ?_;have ay:=(qE (l₁:=bn) (l₂:=kids)).append_right (f++(u++g));simpa[cP] using ay
 .show d.keys.length<=(d.keys.take i++ks++d.keys.drop (i+1)).length+1
  simp only[cz,cG,da];omega
end Go.Proofs.YtkdhdlfonmgheaaGreat
namespace Go.Proofs.YtkdhdlfonmgheaaGreat
variable {lo hi:aq Key}{P:Nat->aq aD}
def cO(ks:O Key)(k:Key):Nat:=ks.findIdx λs=>decide (¬bK s k)
theorem p0(ks:O Key)(k:Key):cO ks k<=ks.length:=List.findIdx_le_length
theorem oh{ks:O Key}{k:Key}{j:Nat}(h:j<cO ks k)(a:j<ks.length):bK ks[j] k:=by
 have:=List.not_of_lt_findIdx h;simpa using this
theorem p1{ks:O Key}{k:Key}(hs:ks.Pairwise bK){j:Nat}(h:cO ks k<=j)(b:j<ks.length):ez k ks[j]:=by
 have h1:cO ks k<ks.length:=by omega
 have h2:ez k ks[cO ks k]:=by
  have:=List.findIdx_getElem (p:=λs=>decide (¬bK s k)) (xs:=ks) (w:=h1);exact AG.1 (b8 this)
 rcases dO (cO ks k) j with a|a
 .exact iH (j7 h2 (mK.1 hs _ _ h1 b a))
 .have:cO ks k=j:=by omega
  subst this;exact h2
theorem Fe{α:Type}{f:α->ai}{L:O α}{i:Nat}(h1:∀x∈L.take i,f x=true)(h2:∀x∈L.drop i,f x=false):L.filter f=L.take i:=by
 conv=>lhs;rw[←ic i L]
 rw[kQ,jZ.2 h1,lV.2 (λx hx=>by rw[h2 x hx];decide),f_]
theorem AO{α:Type}{f:α->ai}{L:O α}{i:Nat}(h1:∀x∈L.take i,f x=false)(h2:∀x∈L.drop i,f x=true):L.filter f=L.drop i:=by
 conv=>lhs;rw[←ic i L]
 rw[kQ,lV.2 (λx hx=>by rw[h1 x hx];decide),jZ.2 h2,iW]
theorem xx{ks vs:O Key}{i:Nat}{x:aH}(h:x∈(ks.zip vs).take i):∃ (j:Nat) (a:j<ks.length),j<i/\x.1=ks[j]:=by
 obtain⟨j,a,rfl⟩:=List.mem_take_iff_getElem.1 h;have h1:j<(ks.zip vs).length:=by omega
 rw[mI]at h1;exact⟨j,I,I,by rw[sn]⟩
theorem xy{ks vs:O Key}{i:Nat}{x:aH}(h:x∈(ks.zip vs).drop i):∃ (j:Nat) (a:j<ks.length),i<=j/\x.1=ks[j]:=by
 obtain⟨j,a,rfl⟩:=List.mem_drop_iff_getElem.1 h;have h1:i+j<(ks.zip vs).length:=by omega
 rw[mI]at h1;exact⟨i+j,I,I,by rw[sn]⟩
theorem Ff{ks vs:O Key}{k v:Key}(hs:ks.Pairwise bK):e3 (ks.zip vs) k v=(ks.zip vs).take (cO ks k)++(k,v)::(ks.zip vs).drop (if ks[cO ks k]? =some k then cO ks k+1 else cO ks k):=by
 unfold e3;rw[Fe (f:=λp:aH=>decide (bK p.1 k)) (i:=cO ks k) (λx hx=>by
  obtain⟨j,a,h1,e⟩:=xx hx;rw[e];exact dP (oh h1 a)) (λx hx=>by
  obtain⟨j,a,h1,e⟩:=xy hx;rw[e];exact jq (p1 hs h1 a))]
 congr 2
 split
 .rename_i he
  obtain⟨aK,he⟩:=iy.1 he;refine AO (λx hx=>?_) (λx hx=>?_)
  .obtain⟨j,a,h1,e⟩:=xx hx
   rw[e];refine jq ?_;rcases dO j (cO ks k) with h2|h2
   .exact j6 (oh h2 a)
   .have:j=cO ks k:=by omega
    subst this;rw[he];exact l_ _
  .obtain⟨j,a,h1,e⟩:=xy hx
   rw[e];refine dP ?_;have:=mK.1 hs _ j aK a I;rwa[he]at this
 .rename_i he
  refine AO (λx hx=>?_) (λx hx=>?_)
  .obtain⟨j,a,h1,e⟩:=xx hx
   rw[e];exact jq (j6 (oh h1 a))
  .obtain⟨j,a,h1,e⟩:=xy hx
   rw[e];refine dP ?_;rcases od.1 (p1 hs h1 a) with h2|h2
   .exact h2
   .have aK:cO ks k<ks.length:=by omega
    rcases dO (cO ks k) j with b|b
    .exact j7 (p1 hs (bl _) aK) (mK.1 hs _ _ aK a b)
    .have:j=cO ks k:=by omega
     subst this;exact absurd ((dE aK).trans (congrArg some h2.symm)) he
end Go.Proofs.YtkdhdlfonmgheaaGreat
namespace Go.Proofs.YtkdhdlfonmgheaaGreat
open Go a8 Go.Proofs.Tryz
theorem vm{n:Nat}(h:n<256):((UInt8.ofNat n).toNat:Nat)=n:=by
 simp[jI h]
theorem AP{src dst:TypeId}{w:J}{s:Y}{ns:O Int}(hs:Tryz.prog.underlying src=some (.slice 5))(hd:Tryz.prog.underlying dst=some .string)(h:Src 1 w s (ns.map (.int .u8))):
 Sem.run aj (convert src dst s) w=.ok (.string (S (ns.map λn=>UInt8.ofNat n.toNat))) w:=by
 rw[D8 hs (by kernel_rfl) hd h,D_]
def tl(f:Nat->Int)(k m:Nat):O UInt8:=(List.range (m-k)).map λj=>UInt8.ofNat (f (k+j)).toNat
theorem xz{w:J}{A:ae}:∀ (vs:O aa) (i:Nat),(∀j v,vs[j]? =some v->w.cell? (A.add (i+j))=some v)->cA w A i vs.length=some vs
 | [],_,_=>rfl
 |v::vs,i,h=>by
  have h0:=h 0 v rfl
  have a:=xz vs (i+1) (λj u b=>by rw[show i+1+j=i+(j+1) from I];exact h (j+1) u (by simpa using b))
  rw[kO]at h0
  simp[cA,h0,a]
def aJ(l:O UInt8):O aa:=l.map λb=>Value.int .u8 (b.toNat:Int)
theorem ey(l:O UInt8):(aJ l).length=l.length:=by simp[aJ]
theorem om{l:O UInt8}{i:Nat}(h:i<l.length):(aJ l)[i]? =some (.int .u8 ((l[i].toNat:Nat):Int)):=by simp[aJ,h]
def p2(c:Nat):aq Nat:=if 48<=c/\c<=57 then some (c-48) else if 97<=c|||32/\c|||32<=122 then some ((c|||32)-97+10) else none
theorem Fg(c:UInt8):((c.toNat:Int).toNat.toUInt8)=c:=by simp
theorem k6(l:O UInt8):∀v∈aJ l,Plain v:=by
 intro v a;obtain⟨n,_,rfl⟩:=eC.1 a;trivial
theorem oo(a b:O UInt8):aJ (a++b)=aJ a++aJ b:=by simp[aJ]
theorem take_succ{α:Type}(ls:O α){i:Nat}(h:i<ls.length):ls.take (i+1)=ls.take i++ [ls[i]]:=by
 rw[iU h]
structure AQ where
 I5:ai
 b:O UInt8
 h:b.length=16
 deriving DecidableEq
def Var(w:J)(b:Nat)(vs:O aa)(T:TypeId):Prop:=bz w b vs.toArray T
section
variable {w w':J}{b:Nat}{vs us:O aa}{T:TypeId}
theorem Var.new(w:J)(vs:O aa)(T:TypeId):Var (w.alloc (.cells vs.toArray T)) w.heap.size vs T:=bz.new _ _ _
theorem Var.rd(h:Var w b vs T){n:Nat}(a:vs.length=n):cA w b 0 n=some vs:=by
 have:=pd h n 0 0 (by simp[a]);rw[this];simp[←a]
theorem Var.Fh(h:Var w b vs T){o n:Nat}(a:o+n<=vs.length):cA w ⟨b,o,none⟩ 0 n=some ((vs.drop o).take n):=by
 have:=pd h n o 0 (by simpa using a);rw[this];simp
theorem Var.cell(h:Var w b vs T){i:Nat}:w.cell? ⟨b,i,none⟩=vs[i]? :=by
 rw[bz.cell h];simp
theorem Var.ext(h:Var w b vs T)(hx:Ext w w'):Var w' b vs T:=bz.ext h hx
theorem Var.ab{W:Nat->Prop}(h:Var w b vs T)(hx:ad W w w')(a:¬W b):Var w' b vs T:=bz.ab h hx a
theorem Var.drew(h:Var w b vs T):Var w.drew b vs T:=bz.drew h
theorem Var.lt(h:Var w b vs T):b<w.heap.size:=bz.lt h
theorem Var.b9(h:Var w b vs T)(a:us.length=vs.length)(c:∀v∈us,Plain v):bx w b us:=bz.b9 h 0 us (by simp[a]) c
theorem Var.put(h:Var w b vs T)(a:us.length=vs.length):Var (setCells w b 0 us) b us T:=by
 have:=bz.s0 us 0 0 h;simp only[kO]at this;have e:(gH vs.toArray 0 us)=us.toArray:=by
  have h1:=s4 us vs.toArray 0 (by simp[a]);rw[cy,a,List.take_zero,iW,dV (by rw[Array.length_toList,iZ];simp)]at h1;apply Array.toList_inj.1;rw[h1]
 rwa[e]at this
end
theorem aW{w:J}{K:J->Prop}(h:K w):al w K:=h
theorem bh{w:J}{c:Array aa}{vs:O aa}{T:TypeId}(hc:c=vs.toArray){K:J->Prop}(h:∀w',Var w' w.heap.size vs T->Ext w w'->w'.heap.size=w.heap.size+1->K w'):al (w.alloc (.cells c T)) K:=by
 subst hc;exact h _ (Var.new _ _ _) (ad.alloc (.refl _ _) _) (by simp)
theorem cr{w:J}{b:Nat}{vs us l:O aa}{T:TypeId}(a:Var w b vs T)(c:us.length=vs.length)(d:l=us){K:J->Prop}(h:∀w',Var w' b us T->ad (λq=>q=b) w w'->w'.heap.size=w.heap.size->K w'):al (setCells w b 0 l) K:=by
 subst d;refine h _ (a.put c) (ad.kY (.refl _ _) l 0) ?_;have:∀ (vs:O aa) (i:Nat) (w:J),(setCells w b i vs).heap.size=w.heap.size:=by
  intro vs
  induction vs with
  |nil=>intro i w;rfl
  |cons v vs e=>intro i w;rw[setCells,e];simp[World.setCell]
 exact this _ _ _
theorem Ext.cn{w0 w w':J}{b:Nat}(h:Ext w0 w)(hc:ad (λq=>q=b) w w')(a:w0.heap.size<=b):Ext w0 w':=Ext.dy h hc (λk c=>by subst c;exact a)
theorem Var.AR{w:J}{b o n c:Nat}{vs:O aa}{T:TypeId}{l:O UInt8}(h:Var w b vs T)(e:o+n<=vs.length)(d:(vs.drop o).take n=aJ l):Src 1 w ⟨some ⟨b,o,none⟩,n,c⟩ (aJ l):=by
 have hlen:n=l.length:=by
  have:=congrArg List.length d;rw[cG,da,ey]at this;omega
 refine⟨by rw[ey];show _=n*1;omega,(λh=>by cases h),λa f=>?_⟩
 cases f;show cA w ⟨b,o,none⟩ 0 (n*1)=_;rw[fG,h.Fh e,d]
theorem oq:hM aj 48 5 1 1:=⟨by kernel_rfl⟩
theorem Fi{l6 cN ty:TypeId}{w:J}{b o dl nO:Nat}{s:Y}{l:O UInt8}(hu:Tryz.prog.underlying l6=some (.slice 5))(hs:Src 1 w s (aJ l))(e:s.len<=dl)(a:bx w ⟨b,o,none⟩ (aJ l)):
 Sem.run aj (Builtin.copy_ #[l6,cN] ty #[.slice (some ⟨b,o,none⟩) dl nO,s]) w=.ok s.len (setCells w ⟨b,o,none⟩ 0 (aJ l)):=by
 have f:Nat.min s.len dl=s.len:=jG e;have c:=iB (P:=aj) (w:=w) (t:=5) (d:=.int .u8) (by kernel_rfl);have hc:Tryz.prog.cellsOf 5=1:=by kernel_rfl
 rw[hc]at c;have hf:=pe (P:=aj) hs;have g:=o1 (P:=aj) (A:=⟨b,o,none⟩) (aJ l) 0 w (by simpa using a.1) a.2;simp[Builtin.copy_,dr hu,Builtin.lenOf,c,f,hf,g];rfl
def aS(c k:Nat):Nat:=c/2^(8-k)*2^(8-k)
def kb(n i:Nat):Nat:=min (n-8*i) 8
theorem Src.sub{w:J}{s:Y}{vs:O aa}{lo hi:Nat}(h:Src 1 w s vs)(hc:s.len<=s.cap)(h1:lo<=hi)(h2:hi<=s.len):Src 1 w ⟨aP s.a 1 lo s.cap,hi-lo,s.cap-lo⟩ ((vs.drop lo).take (hi-lo)):=by
 have l:vs.length=s.len:=by have:=h.len;omega
 refine⟨by simp;omega,λc=>?_,λa b=>?_⟩
 .have f:s.a=none:=by
   unfold aP at c;split at c
   .exact c
   .simpa using c
  simp[h.nil f]
 .show cA w a 0 ((hi-lo)*1)=_
  by_cases e:hi=lo
  .rw[show hi-lo=0 from I];simp[cA]
  .have ar:∃A,s.a=some A/\a=A.add lo:=by
    unfold aP at b;rw[if_neg I]at b
    cases hs:s.a with
    |none=>rw[hs]at b;cases b
    |some A=>rw[hs]at b;exact⟨A,rfl,by simpa using b.symm⟩
   obtain⟨A,ar,rfl⟩:=ar;have g:=h.rd A ar;have:=xz (w:=w) (A:=A.add lo) ((vs.drop lo).take (hi-lo)) 0 (λj v d=>by
    rw[add_add];have i:j<hi-lo:=by have:=(iy.1 d).1;simp at this;omega
    rw[List.getElem?_take_of_lt i,si]at d;have:=pg g d;simpa using this)
   have k:((vs.drop lo).take (hi-lo)).length=hi-lo:=by simp;omega
   rw[k]at this;rw[fG];exact this
def jd(l:O UInt8):Nat:=l.foldl (λn c=>n*256+c.toNat) 0
theorem Fj(l m:O UInt8):jd (l++m)=m.foldl (λn c=>n*256+c.toNat) (jd l):=by simp[jd,List.foldl_append]
theorem xA(l:O UInt8)(c:UInt8):jd (l++ [c])=jd l*256+c.toNat:=by rw[Fj];rfl
theorem m6:∀ (k:Nat) (l:O UInt8),l.length=k->jd l<256^k:=by
 intro k
 induction k with
 |zero=>intro l h;rw[lp.1 h];simp[jd]
 |succ k a=>
  intro l h;obtain⟨m,c,rfl⟩:∃m c,l=m++ [c]:=by
   rcases List.eq_nil_or_concat l with rfl|⟨m,c,b⟩
   .simp at h
   .exact⟨m,c,by rw[b,List.concat_eq_append]⟩
  rw[xA,Nat.pow_succ];have:=a m (by simpa using h);have:=oU c;omega
theorem Fk{a b:Nat}(c:a<2^64)(d:b<2^64):mP .u64 (a:Int) (b:Int)=((a|||b:Nat):Int):=by
 have e:BitVec.ofInt 64 (a:Int)=BitVec.ofNat 64 a:=by simp
 have f:BitVec.ofInt 64 (b:Int)=BitVec.ofNat 64 b:=by simp
 unfold mP;show IntKind.u64.wrap (((BitVec.ofInt 64 (a:Int)|||BitVec.ofInt 64 (b:Int)).toNat:Nat):Int)=_;rw[e,f,BitVec.toNat_or,BitVec.toNat_ofNat,BitVec.toNat_ofNat,jI c,jI d];have:a|||b<2^64:=Nat.or_lt_two_pow c d;have:a|||b<18446744073709551616:=this;rw[gR I I]
theorem Fl(n c:Nat)(hc:c<256):n*256|||c=n*256+c:=by
 have:=Nat.shiftLeft_add_eq_or_of_lt (i:=8) (b:=c) (by simpa using hc) n;rw[Nat.shiftLeft_eq]at this;exact this.symm
theorem k2{s:Y}{l:O UInt8}{w:J}(hs:Src 1 w s (aJ l))(hc:s.len<=s.cap){a k:Nat}(t:1<=k/\k<=8)(u:a+k<=l.length)(x:l.length<=1000000000000):
 aR aj 156 #[s,a,k] w (λv w'=>v=.tuple #[.int .u64 ((jd ((l.drop a).take k):Nat):Int),true]/\w=w'):=by
 refine okF (af.k2 s a k) aA.k2 func156 ?_;(delta af.k2 ju ak aO aL b3 av;dsimp only);have y:s.len=l.length:=by have:=hs.len;rw[ey]at this;omega
 refine Calls.mono (af.EJ s a k w (λv w'=>v=.tuple #[.slice (aP s.a 1 a s.cap) k (s.cap-a),true]/\w=w') ?_) ?_
 .delta af.k3 ak av
  rw[bA (n:=(s.len:Int)-(a:Int)) I I,bA (n:=(a:Int)+(k:Int)) I I];refine⟨λh=>?_,λ_=>⟨⟨I,I⟩,⟨I,I⟩,?_,rfl⟩⟩
  .simp only[iT,cS]at h;omega
  .rw[show Int.toNat ((a:Int)+(k:Int))-Int.toNat (a:Int)=k from I];rfl
 rintro _ _ ⟨_,rfl,rfl,rfl⟩;refine⟨⟨aP s.a 1 a s.cap,k,s.cap-a⟩,true,rfl,cq (λb w'=>b=false/\w=w') (λq f=>⟨λh=>by simp at h,λ_=>?_⟩) ?_⟩
 .refine Calls.mono (af.Az k w (λv w'=>v=true/\w=w') ⟨?_,rfl⟩) ?_
  .have h1:decide ((k:Int)>=1)=true:=dP I
   have h2:decide ((k:Int)<=8)=true:=dP I;rw[h1,h2];rfl
  .rintro _ _ ⟨_,rfl,rfl,rfl⟩
   exact⟨_,rfl,f _ _ ⟨rfl,rfl⟩⟩
 rintro _ _ ⟨rfl,rfl⟩;have c:=Src.sub hs hc (lo:=a) (hi:=a+k) I I;rw[show a+k-a=k from I]at c;have c:Src 1 w ⟨aP s.a 1 a s.cap,k,s.cap-a⟩ (aJ ((l.drop a).take k)):=by
  simpa[aJ,oR,mJ] using c
 obtain⟨m,e⟩:∃m,m=(l.drop a).take k:=⟨_,rfl⟩;have z:m.length=k:=by rw[e];simp;omega
 rw[←e]at c⊢;refine⟨λh=>by simp at h,λ_=>⟨λn i w'=>w=w'/\∃j:Nat,i=j/\j<=k/\n=((jd (m.take j):Nat):Int),λ_ i _=>((k:Int)-i).toNat,⟨rfl,0,rfl,cL _,rfl⟩,?_⟩⟩;rintro _ _ _ ⟨rfl,j,rfl,B,rfl⟩;refine⟨λaK=>?_,λd=>?_⟩
 .have aK:((j:Int)<(k:Int)):=b8 aK
  have aK:j<k:=by omega
  obtain⟨A,ar,g,o⟩:=c.at (om (l:=m) (i:=j) I);have h1:=m6 j (m.take j) (by simp;omega);have h2:256^j<=256^7:=so I I;have h2:256^j<=72057594037927936:=h2;have p:(m[j]).toNat<256:=oU _;have r:((jd (m.take j):Nat):Int)*2^(min (Int.toNat 8) 64)=((jd (m.take j)*256:Nat):Int):=by
   show((jd (m.take j):Nat):Int)*256=_;omega
  refine⟨A,ar,g,_,o,by decide,?_⟩;rw[r,gR (n:=((jd (m.take j)*256:Nat):Int)) I I,gR (n:=((m[j].toNat:Nat):Int)) I I,Fk (by show _<18446744073709551616;omega) (by show _<18446744073709551616;omega),Fl _ _ p,bA (n:=(j:Int)+1) I I];refine⟨⟨rfl,j+1,I,I,?_⟩,?_⟩
  .rw[take_succ m I,xA]
  .show((k:Int)-((j:Int)+1)).toNat<((k:Int)-(j:Int)).toNat
   omega
 .have d:¬((j:Int)<(k:Int)):=cv d
  have d:j=k:=by omega
  subst d;exact⟨by rw[dV I],rfl⟩
theorem xB{w:J}{s:Y}{l:O UInt8}(h:Src 1 w s (aJ l))(g:l.length<=1000000):
 aR aj 135 #[s] w (λv w'=>∃b:Y,v=b/\bd 1 5 w' b (aJ l)/\Ext w w'/\∀k,aB b k->w.heap.size<=k):=by
 have i:s.len=l.length:=by have:=h.len;rw[ey]at this;omega
 refine okF (af.nS s) aA.nS func135 ?_;delta af.nS ak U;refine⟨λc=>?_,λ_=>?_⟩
 .have c:s.a=none:=by simpa using c
  rw[h.nil c];exact⟨⟨none,0,0⟩,rfl,bd.none _ _ _,.refl _ _,λk d=>(gk k d).elim⟩
 .obtain⟨b,w',h1,h2,j,e,f,_⟩:=oq.clone (cM:=48) h (k6 l) I
  exact aW ⟨b,w',h1,b,rfl,h2,e,f⟩
theorem Fm{w:J}{s:Y}{l:O UInt8}(c:UInt8)(b:bd 1 5 w s (aJ l))(g:l.length<=1000000):
 ∃ (a:Y) (w':J),Sem.run aj (Builtin.append_ #[48,48] 48 #[s,.slice (some w.heap.size) 1 1]) (w.alloc (.cells #[.int .u8 (c.toNat:Int)] 5))=.ok a w'/\
  bd 1 5 w' a (aJ (l++ [c]))/\ad (aB s) w w'/\(∀k,aB a k->aB s k\/w.heap.size<=k):=by
 have h:s.len=l.length:=by have:=b.1;rw[ey]at this;omega
 obtain⟨a,w',h1,h2,i,d,e⟩:=oq.push (cM:=48) (w:=w) (s:=s) (xs:=[.int .u8 (c.toNat:Int)]) rfl b (λv f=>by rw[ff.1 f];trivial) I;exact⟨a,w',h1,by rw[oo];exact h2,d,e⟩
def b7(n k:Nat):O UInt8:=(List.range k).map λj=>UInt8.ofNat (n/256^(k-1-j)%256)
theorem e4(n k:Nat):(b7 n k).length=k:=by simp[b7]
theorem il{s:Y}{l:O UInt8}{w:J}(hs:Src 1 w s (aJ l))(C:l.length<=100000){n k:Nat}(f:n<2^64)(D:1<=k/\k<=8):
 aR aj 126 #[s,.int .u64 n,k] w (λv w'=>∃a:Y,v=a/\bd 1 5 w' a (aJ (l++b7 n k))/\Ext w w'/\∀q,aB a q->w.heap.size<=q):=by
 have f:n<18446744073709551616:=f;refine okF (af.il s n k) aA.il func126 ?_;(delta af.il ba aO ak av U;dsimp only);refine(xB hs I).use ?_;rintro _ w1 ⟨s1,rfl,g,m,o⟩;refine⟨s1,rfl,Calls.mono (af.Az k w1 (λv w'=>v=true/\w1=w') ⟨?_,rfl⟩) ?_⟩
 .have h1:decide ((k:Int)>=1)=true:=dP I
  have h2:decide ((k:Int)<=8)=true:=dP I;rw[h1,h2];rfl
 rintro _ _ ⟨_,rfl,rfl,rfl⟩;rw[bA (n:=(k:Int)-1) I I];refine⟨_,rfl,λh=>by simp at h,λ_=>⟨λt i w'=>∃j:Nat,i=(k:Int)-1-j/\j<=k/\Ext w w'/\(∀q,aB t q->w.heap.size<=q)/\bd 1 5 w' t (aJ (l++(b7 n k).take j)),λ_ i _=>(i+1).toNat,⟨0,I,I,m,o,by simpa using g⟩,?_⟩⟩;rintro t _ ah ⟨j,rfl,E,b,c,d⟩;refine⟨λaK=>?_,λe=>?_⟩
 .have aK:j<k:=by have:=b8 aK;omega
  rw[bA (n:=8*((k:Int)-1-j)) I I,bA (n:=(k:Int)-1-j-1) I I];have p:IntKind.wrap .u8 (Int.fdiv (n:Int) (2^(min (Int.toNat (8*((k:Int)-1-j))) 64)))=((((UInt8.ofNat (n/256^(k-1-j)%256)).toNat:Nat)):Int):=by
   rw[vm (g7 _ I),show min (Int.toNat (8*((k:Int)-1-j))) 64=8*(k-1-j) from I,D9];have r:((2:Int)^(8*(k-1-j)))=((256^(k-1-j):Nat):Int):=by
    rw[Int.pow_mul];simp
   rw[r,Int.fdiv_eq_ediv_of_nonneg _ (Int.natCast_nonneg _)];generalize 256^(k-1-j)=z;rfl
  rw[p];obtain⟨u,x,h1,h2,y,A⟩:=Fm (UInt8.ofNat (n/256^(k-1-j)%256)) d (by simp[b7];omega);refine⟨I,aW ⟨u,x,h1,⟨j+1,I,I,Ext.dy b y c,λq B=>?_,?_⟩,?_⟩⟩
  .rcases A q B with h|h
   .exact c q h
   .exact eK b.size h
  .rw[take_succ _ (by rw[e4];exact aK),←cP]
   have:(b7 n k)[j]'(by rw[e4];exact aK)=UInt8.ofNat (n/256^(k-1-j)%256):=by simp[b7]
   rw[this];exact h2
  .show((k:Int)-1-j-1+1).toNat<((k:Int)-1-j+1).toNat
   omega
 .have e:j=k:=by have:=cv e;omega
  subst e;rw[dV (by rw[e4];exact bl _)]at d;exact⟨t,rfl,d,b,c⟩
theorem Fo(n k:Nat):b7 n (k+1)=b7 (n/256) k++ [UInt8.ofNat (n%256)]:=by
 unfold b7;rw[List.range_succ,fZ]
 congr 1
 .apply List.map_congr_left
  intro j a;have:=jC.1 a;rw[show k+1-1-j=(k-1-j)+1 from I,Nat.pow_succ,Nat.mul_comm,←Nat.div_div_eq_div_mul]
 .simp
theorem xC:∀ (k n:Nat),n<256^k->jd (b7 n k)=n
 |0,n,h=>by
  have:n=0:=by simpa using h
  subst this;rfl
 |k+1,n,h=>by
  rw[Nat.pow_succ]at h
  rw[Fo,xA,xC k (n/256) I,vm (g7 _ I)]
  omega
def cH(n:aD):Prop:=gT n\/vh n
def m7(l:Key):O UInt8:=UInt8.ofNat l.length::l
def gS(n:aD)(i:Nat):O UInt8:=m7 (n.keys.getD i [])++if n.leaf then m7 (n.vals.getD i []) else b7 (n.kids.getD (i+1) 0) 2
def hV(n:aD)(i m:Nat):O UInt8:=((List.range' i m).map (gS n)).flatten
theorem Fp(n:aD)(i m:Nat):hV n i (m+1)=gS n i++hV n (i+1) m:=rfl
theorem xD(n:aD)(m:Nat):hV n 0 (m+1)=hV n 0 m++gS n m:=by
 unfold hV;rw[List.range'_concat,fZ,sq];simp
def preB(n:aD):O UInt8:=UInt8.ofNat n.keys.length::if n.leaf then [] else b7 (n.kids.getD 0 0) 2
def jv(n:aD):O UInt8:=preB n++hV n 0 n.keys.length
theorem m8(l:Key):(m7 l).length=l.length+1:=rfl
theorem cH.keys{n:aD}(h:cH n):vg n:=by
 rcases h with h|h
 .exact h.tovg
 .exact h.tovg
theorem cH.vals{n:aD}(h:cH n):∀v∈n.vals,v.length<=24:=by
 rcases h with h|h
 .exact h.vals
 .rw[h.vals];simp
theorem cH.kids{n:aD}(h:cH n):∀k∈n.kids,k<1600:=by
 rcases h with h|h
 .rw[h.kids];simp
 .exact h.kids
theorem vn{α:Type}{l:O α}{i:Nat}{d:α}(h:i<l.length):l.getD i d∈l:=by
 rw[fC,dE h];exact cF h
theorem xE{n:aD}(h:cH n){i:Nat}(hi:i<n.keys.length):(cellsOf n)[i]? =some (gS n i).length:=by
 unfold cellsOf gS;rcases h with h|h
 .rw[h.leaf]
  simp only[if_true];have a:i<n.vals.length:=by rw[h.len];exact hi
  rw[List.getElem?_zipWith,dE hi,dE a];simp[fC,dE hi,dE a,m8];omega
 .rw[h.inner]
  simp only[fS,if_false];rw[lu,dE hi];simp[fC,dE hi,m8,e4];omega
theorem p3{n:aD}(h:cH n):(cellsOf n).length=n.keys.length:=by
 unfold cellsOf;rcases h with h|h
 .rw[h.leaf];simp[h.len]
 .rw[h.inner];simp
theorem xF{n:aD}(h:cH n):∀m,m<=n.keys.length->(hV n 0 m).length=((cellsOf n).take m).sum
 |0,_=>by simp[hV]
 |m+1,b=>by
  have a:m<(cellsOf n).length:=by rw[p3 h];omega
  have h1:=xE h (i:=m) I
  rw[dE a]at h1
  have h1:(cellsOf n)[m]=(gS n m).length:=Option.some.inj h1
  rw[xD,cz,xF h m I,pZ a,h1]
theorem xG{n:aD}(h:cH n):(jv n).length=bM n:=by
 have e:((cellsOf n).take n.keys.length).sum=(cellsOf n).sum:=by rw[dV (by rw[p3 h];exact bl _)]
 unfold jv bM preB;rw[cz,xF h _ (bl _),e]
 cases n.leaf<;>simp[e4]
theorem vo{n:aD}(h:cH n):2*n.keys.length<=bM n:=by
 have h1:∀l:O Nat,(∀x∈l,2<=x)->2*l.length<=l.sum:=by
  intro l
  induction l with
  |nil=>simp
  |cons a l c=>
   intro h;have:=h a (by simp);have:=c λx hx=>h x (by simp[hx]);simp only[e8,qC];omega
 have h2:=h1 (cellsOf n) (by
  intro x hx;obtain⟨i,hi,rfl⟩:=fi hx;have d:i<n.keys.length:=by rwa[←p3 h]
  have b:=xE h d;rw[dE hi]at b;rw[Option.some.inj b];unfold gS;rw[cz,m8];split
  .rw[m8];omega
  .rw[e4];omega)
 rw[p3 h]at h2;unfold bM;omega
abbrev Rd:=O UInt8×ai
def hW(r:Rd)(k:Nat):O UInt8×Rd:=if r.2=false\/r.1.length<k then ([],(r.1,false)) else (r.1.take k,(r.1.drop k,true))
def rdNum(r:Rd)(k:Nat):Nat×Rd:=(if (hW r k).1.length=k then jd (hW r k).1 else 0,(hW r k).2)
def jN(r:Rd):O UInt8×Rd:=hW (rdNum r 1).2 (rdNum r 1).1
def ot(s:aD×Rd):aD×Rd:=
 let t:=jN s.2
 if s.1.leaf then (⟨s.1.leaf,s.1.keys++ [t.1],s.1.vals++ [(jN t.2).1],s.1.kids⟩,(jN t.2).2)
 else (⟨s.1.leaf,s.1.keys++ [t.1],s.1.vals,s.1.kids++ [(rdNum t.2 2).1]⟩,(rdNum t.2 2).2)
def iq(s:aD×Rd):Nat->aD×Rd
 |0=>s
 |i+1=>ot (iq s i)
def mc(leaf:ai)(r:Rd):aD×Rd:=if leaf then (⟨true,[],[],[]⟩,r) else (⟨false,[],[],[(rdNum r 2).1]⟩,(rdNum r 2).2)
def iK(leaf:ai)(b:O UInt8):aD×Rd:=iq (mc leaf (rdNum (b,true) 1).2) (rdNum (b,true) 1).1
def lK(leaf:ai)(b:O UInt8)(n:aD):Prop:=cH n/\n.leaf=leaf/\bM n<=232/\jv n=b
theorem AS(a b:O UInt8):hW (a++b,true) a.length=(a,(b,true)):=by
 unfold hW;rw[if_neg (by simp)];simp
theorem vp{n k:Nat}(b:O UInt8)(h:n<256^k):rdNum (b7 n k++b,true) k=(n,(b,true)):=by
 unfold rdNum;have:=AS (b7 n k) b;rw[e4]at this;rw[this];simp[e4,xC k n h]
theorem AT(n:Nat)(h:n<256): [UInt8.ofNat n]=b7 n 1:=by
 simp[b7,jI h]
theorem xH(l:Key)(b:O UInt8)(h:l.length<256):jN (m7 l++b,true)=(l,(b,true)):=by
 have e:m7 l++b=b7 l.length 1++(l++b):=by
  rw[←AT _ h];rfl
 unfold jN;rw[e,vp _ (by simpa using h)];exact AS l b
theorem Fs{n:aD}(h:cH n){i:Nat}(hi:i<n.keys.length)(b:O UInt8):
 ot (⟨n.leaf,n.keys.take i,n.vals.take i,if n.leaf then [] else n.kids.take (i+1)⟩,(gS n i++b,true))=
  (⟨n.leaf,n.keys.take (i+1),n.vals.take (i+1),if n.leaf then [] else n.kids.take (i+2)⟩,(b,true)):=by
 have e:n.keys.getD i []∈n.keys:=vn hi;have f:=(h.keys.ok _ e).2;have d:n.keys.take (i+1)=n.keys.take i++ [n.keys.getD i []]:=by
  rw[take_succ _ hi,fC,dE hi];rfl
 unfold ot;unfold gS;rcases h with h|h
 .have a:i<n.vals.length:=by rw[h.len];exact hi
  have c:n.vals.getD i []∈n.vals:=vn a;have ev:n.vals.take (i+1)=n.vals.take i++ [n.vals.getD i []]:=by
   rw[take_succ _ a,fC,dE a];rfl
  simp only[h.leaf,if_true];rw[cP,xH _ _ I];simp only;rw[xH _ _ (by have:=h.vals _ c;omega),d,ev]
 .have a:i+1<n.kids.length:=by rw[h.len];omega
  have c:n.kids.getD (i+1) 0∈n.kids:=vn a;have ev:n.kids.take (i+2)=n.kids.take (i+1)++ [n.kids.getD (i+1) 0]:=by
   rw[take_succ _ a,fC,dE a];rfl
  simp only[h.inner,fS,if_false,h.vals];rw[cP,xH _ _ I];simp only;rw[vp _ (by have:=h.kids _ c;show _<65536;omega),d,ev];simp
theorem AU{n:aD}(h:cH n):∀i,i<=n.keys.length->
 iq (⟨n.leaf,[],[],if n.leaf then [] else n.kids.take 1⟩,(hV n 0 n.keys.length,true)) i=(⟨n.leaf,n.keys.take i,n.vals.take i,if n.leaf then [] else n.kids.take (i+1)⟩,(hV n i (n.keys.length-i),true))
 |0,_=>by simp[iq]
 |i+1,hi=>by
  rw[iq,AU h i I,show n.keys.length-i=n.keys.length-(i+1)+1 from I,Fp]
  exact Fs h I _
theorem xI{n:aD}(h:cH n)(g:bM n<=232):iK n.leaf (jv n)=(n,([],true)):=by
 have i:=vo h;unfold iK;have b:rdNum (jv n,true) 1=(n.keys.length,((if n.leaf then [] else b7 (n.kids.getD 0 0) 2)++hV n 0 n.keys.length,true)):=by
  have:jv n=b7 n.keys.length 1++((if n.leaf then [] else b7 (n.kids.getD 0 0) 2)++hV n 0 n.keys.length):=by
   rw[←AT _ I];rfl
  rw[this,vp _ (by show _<256;omega)]
 rw[b];simp only;have c:mc n.leaf ((if n.leaf then [] else b7 (n.kids.getD 0 0) 2)++hV n 0 n.keys.length,true)=(⟨n.leaf,[],[],if n.leaf then [] else n.kids.take 1⟩,(hV n 0 n.keys.length,true)):=by
  unfold mc;rcases h with h|h
  .simp[h.leaf]
  .have hd:0<n.kids.length:=by rw[h.len];omega
   have d:n.kids.getD 0 0∈n.kids:=vn hd;have:=h.kids _ d;simp only[h.inner,fS,if_false];rw[vp _ (by show _<65536;omega)]
   cases e:n.kids with
   |nil=>rw[e]at hd;simp at hd
   |cons a l=>simp
 rw[c,AU h _ (bl _)];have f:hV n n.keys.length (n.keys.length-n.keys.length)=[]:=by rw[nw];rfl
 rw[f,dV (bl _)];rcases h with h|h
 .rw[dV (by rw[h.len];exact bl _)]
  have:=h.kids;have:=h.leaf
  cases n
  simp_all
 .rw[dV (by rw[h.vals];simp),dV (by rw[h.len];exact bl _)]
  have:=h.inner
  cases n
  simp_all
theorem lK.uniq{leaf:ai}{b:O UInt8}{n m:aD}(h1:lK leaf b n)(h2:lK leaf b m):n=m:=by
 obtain⟨a1,a2,a3,a4⟩:=h1;obtain⟨b_,bO,d,e⟩:=h2;have a:=xI a1 a3;have c:=xI b_ d;rw[a2,a4]at a;rw[bO,e,a]at c;exact congrArg Prod.fst c
def rG(n:Nat):Nat:=if n%2=1 then (n/2)^^^0x82f63b78 else n/2
def vq:Nat->Nat->Nat
 |0,n=>n
 |k+1,n=>rG (vq k n)
def AV(n:Nat)(c:UInt8):Nat:=vq 8 (n^^^c.toNat)
def k7(n:Nat)(l:O UInt8):Nat:=l.foldl AV n
def iL(l:O UInt8):Nat:=4294967295-k7 4294967295 l
theorem Ft{n:Nat}(h:n<4294967296):rG n<4294967296:=by
 unfold rG;split
 .exact Nat.xor_lt_two_pow (n:=32) (by show _<4294967296;omega) (by decide)
 .omega
theorem xJ{n:Nat}(h:n<4294967296):∀k,vq k n<4294967296
 |0=>h
 |k+1=>Ft (xJ h k)
theorem Fu{n:Nat}(h:n<4294967296)(c:UInt8):AV n c<4294967296:=
 xJ (Nat.xor_lt_two_pow (n:=32) h (by have:=oU c;show _<4294967296;omega)) 8
theorem vr:∀ (l:O UInt8) {n:Nat},n<4294967296->k7 n l<4294967296
 | [],_,h=>h
 |c::l,_,h=>vr l (Fu h c)
theorem AW(n:Nat)(a b:O UInt8):k7 n (a++b)=k7 (k7 n a) b:=by simp[k7,List.foldl_append]
theorem xK(l:O UInt8):iL l<4294967296:=by unfold iL;omega
structure ir where
 kind:Nat
 gen:Nat
 body:O UInt8
 deriving DecidableEq
structure m9(p:ir):Prop where
 bG:1<=p.kind
 bI:p.kind<=4
 gen:p.gen<18446744073709551616
 body:p.body.length<=232
def gL:O UInt8:=[83,84,78,67]
def fe(no:Nat)(p:ir):O UInt8:=gL++([1,UInt8.ofNat p.kind]++(b7 p.body.length 2++(b7 no 4++b7 p.gen 8)))
def fl(p:ir):O UInt8:=p.body++List.replicate (232-p.body.length) 0
def eH(no:Nat)(p:ir):O UInt8:=fe no p++(b7 (iL (fe no p++fl p)) 4++fl p)
theorem m_(no:Nat)(p:ir):(fe no p).length=20:=by simp[fe,gL,e4]
theorem vt{p:ir}(h:m9 p):(fl p).length=232:=by
 have:=h.body;simp[fl];omega
theorem rH{p:ir}(no:Nat)(h:m9 p):(eH no p).length=256:=by simp[eH,m_,e4,vt h]
def sumOf(l:O UInt8):Nat:=iL (l.take 20++l.drop 24)
def di(l:O UInt8)(a k:Nat):Nat:=jd ((l.drop a).take k)
def dQ(no:Int)(l:O UInt8):Except Int ir:=
 if l.length≠256 then .error 9
 else if l.take 4≠gL then .error 4
 else if l.getD 4 0≠1 then .error 12
 else if sumOf l≠di l 20 4 then .error 5
 else if¬(1<=(l.getD 5 0).toNat/\(l.getD 5 0).toNat<=4)\/232<di l 6 2\/(l.drop (24+di l 6 2)).all (λc=>c==0)=false then .error 4
 else if¬(0<=no/\no<1600)\/(di l 8 4:Int)≠no then .error 1
 else .ok ⟨(l.getD 5 0).toNat,di l 12 8,(l.drop 24).take (di l 6 2)⟩
theorem drop_left'{α:Type}{a b:O α}{n:Nat}(h:a.length=n):(a++b).drop n=b:=by subst h;exact List.drop_left
theorem me{α:Type}{a b:O α}{n:Nat}(h:a.length=n):(a++b).take n=a:=by subst h;exact List.take_left
theorem rI{a b:O UInt8}{n k m:Nat}(c:a.length=m)(h:n<256^k):di (a++(b7 n k++b)) m k=n:=by
 unfold di;rw[drop_left' c,me (e4 n k),xC k n h]
theorem vu{no:Nat}{p:ir}(o:no<1600)(h:m9 p):dQ no (eH no p)=.ok p:=by
 have q:=h.body;have e:=h.bG;have f:=h.bI;have hg:=h.gen;have ht:=vt h;have b:=m_ no p;have hc:=xK (fe no p++fl p);have bW:di (eH no p) 20 4=iL (fe no p++fl p):=rI b (by show _<4294967296;exact hc);have a:eH no p=(gL++ [1,UInt8.ofNat p.kind])++(b7 p.body.length 2++((b7 no 4++b7 p.gen 8)++(b7 (iL (fe no p++fl p)) 4++fl p))):=by
  show fe no p++_=_;rw[show fe no p=(gL++ [1,UInt8.ofNat p.kind])++(b7 p.body.length 2++(b7 no 4++b7 p.gen 8)) by simp[fe]];simp only[cP]
 have bC:di (eH no p) 6 2=p.body.length:=by rw[a];exact rI rfl (by show _<65536;omega)
 have g:eH no p=((gL++ [1,UInt8.ofNat p.kind])++b7 p.body.length 2)++(b7 no 4++(b7 p.gen 8++(b7 (iL (fe no p++fl p)) 4++fl p))):=by rw[a];simp only[cP]
 have i:di (eH no p) 8 4=no:=by rw[g];exact rI (by simp[gL,e4]) (by show _<4294967296;omega)
 have j:eH no p=((gL++ [1,UInt8.ofNat p.kind])++(b7 p.body.length 2++b7 no 4))++(b7 p.gen 8++(b7 (iL (fe no p++fl p)) 4++fl p)):=by rw[a];simp only[cP]
 have k:di (eH no p) 12 8=p.gen:=by rw[j];exact rI (by simp[gL,e4]) (by show _<18446744073709551616;exact hg)
 have l:eH no p=(fe no p++b7 (iL (fe no p++fl p)) 4)++fl p:=by simp[eH]
 have m:(fe no p++b7 (iL (fe no p++fl p)) 4).length=24:=by simp[b,e4]
 have d24:(eH no p).drop 24=fl p:=by rw[l];exact drop_left' m
 have t4:(eH no p).take 4=gL:=by rw[a];rfl
 have n:(eH no p).getD 4 0=1:=by rw[a];rfl
 have d:((eH no p).getD 5 0).toNat=p.kind:=by rw[a];show(UInt8.ofNat p.kind).toNat=p.kind;exact vm I
 have s:sumOf (eH no p)=iL (fe no p++fl p):=by
  unfold sumOf;rw[d24,show(eH no p).take 20=fe no p from me b]
 unfold dQ;rw[if_neg (by rw[rH no h];simp),if_neg (by rw[t4];simp),if_neg (by rw[n];simp),if_neg (by rw[s,bW];simp),if_neg (by
  rw[d,bC];rintro(h1|h1|h1)
  .exact h1 ⟨e,f⟩
  .omega
  .rw[List.all_eq_false]at h1
   obtain⟨c,hc,h1⟩:=h1;rw[←qD,d24]at hc;unfold fl at hc;rw[List.drop_left]at hc;exact h1 (by rw[sr hc];rfl)),if_neg (by rw[i];rintro(h1|h1)<;>omega),d,bC,k,d24]
 have:(fl p).take p.body.length=p.body:=by unfold fl;exact List.take_left
 rw[this]
def hX(s:Y):aa:=s
abbrev gU(w:J)(s:Y):Prop:=∀k,aB s k->w.heap.size<=k
theorem gU.mono{w w':J}{s:Y}(h:gU w' s)(hx:w.heap.size<=w'.heap.size):gU w s:=λk a=>eK hx (h k a)
theorem len8{w:J}{s:Y}{l:O UInt8}(h:Src 1 w s (aJ l)):s.len=l.length:=by have:=h.len;rw[ey]at this;omega
theorem mf{w:J}{T:TypeId}{s:Y}{l:O UInt8}(h:bd 1 T w s (aJ l)):s.len=l.length:=by have:=h.1;rw[ey]at this;omega
theorem na{w:J}{s:Y}{l:O UInt8}{lo hi:Nat}(h:Src 1 w s (aJ l))(hc:s.len<=s.cap)(h1:lo<=hi)(h2:hi<=s.len):Src 1 w ⟨aP s.a 1 lo s.cap,hi-lo,s.cap-lo⟩ (aJ ((l.drop lo).take (hi-lo))):=by
 have:=Src.sub h hc h1 h2;simpa[aJ,oR,mJ] using this
def eR(ps:O (Y×O UInt8)):O UInt8:=(ps.map (·.2)).flatten
theorem AX(a:O (Y×O UInt8))(p:Y×O UInt8):eR (a++ [p])=eR a++p.2:=by simp[eR]
theorem Fv(ps:O (Y×O UInt8))(j:Nat):(eR (ps.take j)).length<=(eR ps).length:=by
 have h:ps=ps.take j++ps.drop j:=(ic j ps).symm;have:(eR ps).length=(eR (ps.take j)).length+(eR (ps.drop j)).length:=by
  conv=>lhs;rw[h]
  unfold eR;rw[fZ,sq,cz]
 omega
theorem AY(ps:O (Y×O UInt8)){j:Nat}(a:j<ps.length):(ps[j]).2.length<=(eR ps).length:=by
 have h:ps=ps.take j++ps[j]::ps.drop (j+1):=by rw[←jD a,ic]
 have:(eR ps).length=(eR (ps.take j)).length+((ps[j]).2.length+(eR (ps.drop (j+1))).length):=by
  conv=>lhs;rw[h]
  unfold eR;rw[fZ,sq,cz,jm,su,cz]
 omega
theorem vv{s:Y}{w:J}(ps:O (Y×O UInt8))(hs:Src 1 w s (ps.map λp=>hX p.1))(f:∀p∈ps,Src 1 w p.1 (aJ p.2))(t:(eR ps).length<=100000)(u:ps.length<=100000):
 aR aj 92 #[s] w (λv w'=>∃a:Y,v=a/\bd 1 5 w' a (aJ (eR ps))/\Ext w w'/\gU w a):=by
 refine okF (af.uf s) aA.uf func92 ?_;(delta af.uf ak aL ag av;dsimp only);have x:s.len=ps.length:=by have:=hs.len;rw[dU]at this;omega
 refine⟨λa i w'=>∃j:Nat,i=j/\j<=ps.length/\bd 1 5 w' a (aJ (eR (ps.take j)))/\Ext w w'/\gU w a,λ_ i _=>((ps.length:Int)-i).toNat,⟨0,rfl,cL _,bd.none 1 5 _,.refl _ _,λk c=>(gk k c).elim⟩,?_⟩;rintro a _ w1 ⟨j,rfl,y,b,hx,hf⟩;refine⟨λaK=>?_,λd=>?_⟩
 .have aK:j<ps.length:=by have:=b8 aK;omega
  obtain⟨A,ar,g,l⟩:=(hs.ext hx).at (i:=j) (v:=hX (ps[j]).1) (by simp[aK]);have e:=(f _ (cF aK)).ext hx;have h1:=AY ps aK;have h2:=Fv ps j;have m:=len8 e;have o:=mf b;obtain⟨s2,ah,au,ay,z,q,r⟩:=oq.append (cM:=48) e b (k6 _) (by rw[m,o];omega);rw[bA (n:=(j:Int)+1) I I];refine⟨A,ar,g,(ps[j]).1,l,s2,ah,au,⟨j+1,I,I,?_,Ext.dy hx q hf,λk c=>?_⟩,?_⟩
  .rw[take_succ _ aK]
   rw[AX,oo];exact ay
  .rcases r k c with h|h
   .exact hf k h
   .exact eK hx.size h
  .show((ps.length:Int)-((j:Int)+1)).toNat<((ps.length:Int)-(j:Int)).toNat
   omega
 .have d:j=ps.length:=by have:=cv d;omega
  subst d;rw[iV]at b;exact⟨a,rfl,b,hx,hf⟩
theorem Fw{s:Y}{l:O UInt8}{w:J}(hs:Src 1 w s (aJ l))(hc:s.len<=s.cap){a k:Nat}(b:a+k<=l.length)(c:l.length<=1000000000000):
 aR aj 215 #[s,a,k] w (λv w'=>v=.tuple #[.slice (aP s.a 1 a s.cap) k (s.cap-a),true]/\w=w'):=by
 have d:=len8 hs;refine okF (af.k3 s a k) aA.k3 func215 ?_;delta af.k3 ak av;rw[bA (n:=(s.len:Int)-(a:Int)) I I,bA (n:=(a:Int)+(k:Int)) I I];refine⟨λh=>?_,λ_=>⟨⟨I,I⟩,⟨I,I⟩,?_,rfl⟩⟩
 .simp only[iT,cS]at h;omega
 .rw[show Int.toNat ((a:Int)+(k:Int))-Int.toNat (a:Int)=k from I];rfl
theorem Fx{s:Y}{l:O UInt8}{w:J}(hs:Src 1 w s (aJ l)){a k:Nat}(b:l.length<a+k)(c:a<=l.length)(d:l.length<=1000000000000)(f:k<=1000000000000):
 aR aj 215 #[s,a,k] w (λv w'=>v=.tuple #[(),false]/\w=w'):=by
 have g:=len8 hs;refine okF (af.k3 s a k) aA.k3 func215 ?_;delta af.k3 ak av;rw[bA (n:=(s.len:Int)-(a:Int)) I I,bA (n:=(a:Int)+(k:Int)) I I];have e:(((decide ((a:Int)<0))||(decide ((k:Int)<0)))||(decide ((a:Int)>(s.len:Int)))||(decide ((k:Int)>((s.len:Int)-(a:Int)))))=true:=by
  simp only[iT,cS];omega
 exact⟨λ_=>⟨rfl,rfl⟩,λh=>(by rw[e]at h;cases h)⟩
theorem pM{s:Y}{l:O UInt8}{w:J}(hs:Src 1 w s (aJ l))(hc:s.len<=s.cap){a k:Nat}(d:a+k<=l.length)(f:l.length<=100000):
 aR aj 229 #[s,a,k] w (λv w'=>∃b:Y,v=.tuple #[b,true]/\bd 1 5 w' b (aJ ((l.drop a).take k))/\Ext w w'/\gU w b):=by
 have g:=len8 hs;refine okF (af.pM s a k) aA.pM func229 ?_;(delta af.pM ju ba;dsimp only);refine(Fw hs hc d I).use ?_;rintro _ _ ⟨rfl,rfl⟩;have c:=na hs hc (lo:=a) (hi:=a+k) I I;rw[show a+k-a=k from I]at c;refine⟨⟨aP s.a 1 a s.cap,k,s.cap-a⟩,true,rfl,(xB c (by simp;omega)).use ?_⟩;rintro _ w1 ⟨b,rfl,e,hx,hf⟩;exact⟨b,rfl,b,rfl,e,hx,hf⟩
theorem Fy{s:Y}{l:O UInt8}{w:J}(hs:Src 1 w s (aJ l)){k:Nat}(d:k<=8)(e:l.length<k):
 aR aj 156 #[s,.int .i64 (0:Nat),k] w (λv w'=>v=.tuple #[.int .u64 0,false]/\w=w'):=by
 refine okF (af.k2 s (0:Nat) k) aA.k2 func156 ?_;(delta af.k2 ju ak aO aL b3 av;dsimp only);refine(Fx hs (a:=0) I I I I).use ?_;rintro _ _ ⟨rfl,rfl⟩;refine⟨⟨none,0,0⟩,false,rfl,cq (λb w'=>b=true/\w=w') (λq c=>⟨λ_=>c _ _ ⟨rfl,rfl⟩,λh=>by simp at h⟩) ?_⟩;rintro _ _ ⟨rfl,rfl⟩;exact⟨λ_=>⟨rfl,rfl⟩,λh=>by simp at h⟩
theorem vw{a:Nat}(b:a<4294967296):(BitVec.ofInt 32 (a:Int))=BitVec.ofNat 32 a:=by simp
theorem vx{a b:Nat}(c:a<4294967296)(d:b<4294967296):nF .u32 (a:Int) (b:Int)=((a^^^b:Nat):Int):=by
 unfold nF;show IntKind.u32.wrap (((BitVec.ofInt 32 (a:Int)^^^BitVec.ofInt 32 (b:Int)).toNat:Nat):Int)=_;rw[vw c,vw d,BitVec.toNat_xor,BitVec.toNat_ofNat,BitVec.toNat_ofNat,jI (by simpa using c),jI (by simpa using d)];have:a^^^b<4294967296:=Nat.xor_lt_two_pow (n:=32) c d;rw[wX I I]
theorem Fz{a b:Nat}(c:a<4294967296)(d:b<4294967296):j3 .u32 (a:Int) (b:Int)=((a&&&b:Nat):Int):=by
 unfold j3;show IntKind.u32.wrap (((BitVec.ofInt 32 (a:Int)&&&BitVec.ofInt 32 (b:Int)).toNat:Nat):Int)=_;rw[vw c,vw d,BitVec.toNat_and,BitVec.toNat_ofNat,BitVec.toNat_ofNat,jI (by simpa using c),jI (by simpa using d)];have:a&&&b<=a:=Nat.and_le_left;rw[wX I I]
theorem FA{n:Nat}(b:n<4294967296):
 nF .u32 (Int.fdiv (n:Int) (2^(min (Int.toNat 1) 32))) (j3 .u32 2197175160 (IntKind.wrap .u32 (0-(j3 .u32 (n:Int) 1))))=((rG n:Nat):Int):=by
 have c:j3 .u32 (n:Int) 1=((n%2:Nat):Int):=by
  have:=Fz b (show 1<4294967296 from I);rw[Nat.and_one_is_mod]at this;exact this
 have d:Int.fdiv (n:Int) (2^(min (Int.toNat 1) 32))=((n/2:Nat):Int):=by
  rw[Int.fdiv_eq_ediv_of_nonneg _ (by decide)];rfl
 rw[c,d];unfold rG;rcases Nat.mod_two_eq_zero_or_one n with h|h
 .rw[h,if_neg I]
  have a:j3 .u32 2197175160 (IntKind.wrap .u32 (0-((0:Nat):Int)))=((0:Nat):Int):=by decide+kernel
  rw[a,vx I I,Nat.xor_zero]
 .rw[h,if_pos rfl]
  have a:j3 .u32 2197175160 (IntKind.wrap .u32 (0-((1:Nat):Int)))=((2197175160:Nat):Int):=by decide+kernel
  rw[a,vx I I]
theorem pO{s:Y}{l:O UInt8}{w:J}{n:Nat}(hs:Src 1 w s (aJ l))(e:n<4294967296)(h:l.length<=1000000):
 aR aj 238 #[.int .u32 n,s] w (λv w'=>v=.int .u32 (k7 n l:Nat)/\w=w'):=by
 have o:=len8 hs;refine okF (af.pO n s) aA.pO func238 ?_;(delta af.pO ak aL b3 av;dsimp only);refine⟨λm i w'=>∃j:Nat,i=j/\j<=l.length/\m=((k7 n (l.take j):Nat):Int)/\w=w',λ_ i _=>((l.length:Int)-i).toNat,⟨0,rfl,cL _,rfl,rfl⟩,?_⟩;rintro _ _ _ ⟨j,rfl,p,rfl,rfl⟩;refine⟨λaK=>?_,λa=>?_⟩
 .have aK:j<l.length:=by have:=b8 aK;omega
  obtain⟨A,ar,f,g⟩:=hs.at (om aK);have c:=vr (l.take j) e;have hc:=oU (l[j]);have hx:=Nat.xor_lt_two_pow (n:=32) c (show(l[j]).toNat<4294967296 from I);refine⟨A,ar,f,_,g,λm i w'=>∃k:Nat,i=k/\k<=8/\m=((vq k (k7 n (l.take j)^^^(l[j]).toNat):Nat):Int)/\w=w',λ_ i _=>((8:Int)-i).toNat,⟨0,rfl,I,?_,rfl⟩,?_⟩
  .rw[wX I I,vx c I];rfl
  rintro _ _ _ ⟨k,rfl,q,rfl,rfl⟩;refine⟨λd=>?_,λb=>?_⟩
  .have d:k<8:=by have:=b8 d;omega
   rw[FA (xJ hx k),bA (n:=(k:Int)+1) I I];refine⟨by decide,⟨k+1,I,I,rfl,rfl⟩,?_⟩;show((8:Int)-((k:Int)+1)).toNat<((8:Int)-(k:Int)).toNat;omega
  .have b:k=8:=by have:=cv b;omega
   subst b;rw[bA (n:=(j:Int)+1) I I];refine⟨⟨j+1,I,I,?_,rfl⟩,?_⟩
   .rw[take_succ _ aK,AW];rfl
   .show((l.length:Int)-((j:Int)+1)).toNat<((l.length:Int)-(j:Int)).toNat
    omega
 .have a:j=l.length:=by have:=cv a;omega
  subst a;rw[iV];exact⟨rfl,rfl⟩
theorem FB{n:Nat}(h:n<4294967296):4294967295^^^n=4294967295-n:=by
 apply Nat.eq_of_testBit_eq;intro i;have h1:(4294967295-n).testBit i=(decide (i<32)&& !n.testBit i):=by
  have:=Nat.testBit_two_pow_sub_succ (n:=32) (x:=n) (by simpa using h) i;rw[←this];congr 1;omega
 have h2:(4294967295:Nat).testBit i=decide (i<32):=by
  have:=Nat.testBit_two_pow_sub_one 32 i;exact this
 rw[Nat.testBit_xor,h1,h2];by_cases hi:i<32
 .simp[hi]
 .have:n.testBit i=false:=by
   apply Nat.testBit_lt_two_pow;exact fU h (so (n:=2) I (show 32<=i from I))
  simp[hi,this]
theorem FC{s:Y}{w:J}(ps:O (Y×O UInt8))(hs:Src 1 w s (ps.map λp=>hX p.1))(e:∀p∈ps,Src 1 w p.1 (aJ p.2))(h:(eR ps).length<=100000)(k:ps.length<=100000):
 aR aj 195 #[s] w (λv w'=>v=.int .u32 (iL (eR ps):Nat)/\w=w'):=by
 refine okF (af.uI s) aA.uI func195 ?_;(delta af.uI ak aL ag gI av;dsimp only);have l:s.len=ps.length:=by have:=hs.len;rw[dU]at this;omega
 refine⟨λm i w'=>∃j:Nat,i=j/\j<=ps.length/\m=((k7 4294967295 (eR (ps.take j)):Nat):Int)/\w=w',λ_ i _=>((ps.length:Int)-i).toNat,⟨0,rfl,cL _,rfl,rfl⟩,?_⟩;rintro _ _ _ ⟨j,rfl,o,rfl,rfl⟩;refine⟨λaK=>?_,λd=>?_⟩
 .have aK:j<ps.length:=by have:=b8 aK;omega
  obtain⟨A,ar,f,g⟩:=hs.at (i:=j) (v:=hX (ps[j]).1) (by simp[aK]);have c:=vr (eR (ps.take j)) (n:=4294967295) (by decide);refine⟨A,ar,f,(ps[j]).1,g,(pO (e _ (cF aK)) c (by have:=AY ps aK;omega)).use ?_⟩;rintro _ _ ⟨rfl,rfl⟩;rw[bA (n:=(j:Int)+1) I I];refine⟨_,rfl,⟨j+1,I,I,?_,rfl⟩,?_⟩
  .rw[take_succ _ aK,←AW,AX]
  .show((ps.length:Int)-((j:Int)+1)).toNat<((ps.length:Int)-(j:Int)).toNat
   omega
 .have d:j=ps.length:=by have:=cv d;omega
  subst d;rw[iV];have c:=vr (eR ps) (n:=4294967295) (by decide);refine⟨?_,rfl⟩;have:=vx (a:=4294967295) (b:=k7 4294967295 (eR ps)) (by decide) c;rw[FB c]at this;exact congrArg _ this
theorem nX{s:Y}{l:O UInt8}{w:J}(hs:Src 1 w s (aJ l))(hc:s.len<=s.cap)(e:l.length=256):
 aR aj 134 #[s] w (λv w'=>v=.int .u32 (sumOf l:Nat)/\Ext w w'):=by
 have f:=len8 hs;refine okF (af.nX s) aA.nX func134 ?_;(delta af.nX al gI U;dsimp only);have b:Ext w w.drew:=ad.drew (.refl _ _);refine⟨⟨by decide,I⟩,⟨by decide,I⟩,?_⟩;have h1:=na (hs.ext b) hc (lo:=0) (hi:=20) I I;have h2:=na (hs.ext b) hc (lo:=24) (hi:=s.len) I I;have c:∀o,Ext w.drew (w.drew.alloc o):=λo=>ad.alloc (.refl _ _) o;refine(FC [(⟨aP s.a 1 0 s.cap,20-0,s.cap-0⟩,(l.drop 0).take (20-0)),(⟨aP s.a 1 24 s.cap,s.len-24,s.cap-24⟩,(l.drop 24).take (s.len-24))] (s:=⟨some w.drew.heap.size,2,2⟩) (Src.new w.drew _ 2 rfl) ?_ ?_ ?_).use ?_
 .intro p d
  simp only[cU,eL,eO]at d;rcases d with rfl|rfl
  .exact h1.ext (c _)
  .exact h2.ext (c _)
 .simp[eR];omega
 .simp
 rintro _ w1 ⟨rfl,rfl⟩;refine⟨_,rfl,?_,b.trans (c _)⟩;have:eR [((⟨aP s.a 1 0 s.cap,20-0,s.cap-0⟩:Y),(l.drop 0).take (20-0)),(⟨aP s.a 1 24 s.cap,s.len-24,s.cap-24⟩,(l.drop 24).take (s.len-24))]=l.take 20++l.drop 24:=by
  simp only[eR,jm,List.map_nil,su,List.flatten_nil,f_,lv];rw[dV (l:=l.drop 24) (by rw[da];omega)]
 rw[this];rfl
theorem bd.FD{T:TypeId}{w:J}{s:Y}{vs us:O aa}{b o:Nat}(h:bd 1 T w s vs)(d:s.a=some ⟨b,0,none⟩)(n:o+us.length<=s.len):
 bd 1 T (setCells w ⟨b,o,none⟩ 0 us) s (vs.take o++us++vs.drop (o+us.length)):=by
 obtain⟨h1,h2,g,i⟩:=h;rcases i with ⟨j,_⟩|⟨p,c,e,k,f,ht⟩
 .rw[j]at d;cases d
 .rw[d]at e
  cases e;have q:c.toList.length=s.cap:=by simpa using f
  have m:o+us.length<=c.size:=by omega
  rw[fG]at h1 f;refine⟨by simp;omega,h2,g,.inr ⟨b,_,d,bz.j4 k us,by rw[iZ];omega,?_⟩⟩;rw[fG]at ht⊢;rw[lF _ _ _ m,←ht,qF,jG I,cP,cP,List.take_append,List.take_append,cG,jG I,
   dV (l:=c.toList.take o) (by rw[cG];omega),dV (l:=us) I,List.drop_take,show s.len-o-us.length=s.len-(o+us.length) from I]
theorem vy(w:J)(l:O UInt8):
 ∃w',Sem.run aj (convert 48 48 (.slice (some w.heap.size) l.length l.length)) (w.alloc (.cells (aJ l).toArray 5))=.ok (.slice (some w.heap.size) l.length l.length) w'/\
  Src 1 w' ⟨some w.heap.size,l.length,l.length⟩ (aJ l)/\Ext w w'/\w'.heap.size=w.heap.size+1:=by
 refine⟨_,Go.Lib.run_convert_bytes_const (P:=aj) w 48 5 (aJ l).toArray l.length l.length (by kernel_rfl) (by kernel_rfl),⟨by rw[ey,fG],(λh=>by cases h),λa b=>?_⟩,ad.alloc (.refl _ _) _,by simp⟩
 cases b;have:=xz (w:=w.alloc (.cells (aJ l).toArray 5 ((aJ l).toArray.size,(aJ l).toArray.size+1))) (A:=w.heap.size) (aJ l) 0 (λj v c=>by
  rw[aw];show(World.cell? _ _)=_;have:(w.alloc (.cells (aJ l).toArray 5 ((aJ l).toArray.size,(aJ l).toArray.size+1))).heap[w.heap.size]? =some (.cells (aJ l).toArray 5 ((aJ l).toArray.size,(aJ l).toArray.size+1)):=by
   show(w.heap.push _)[w.heap.size]? =_;simp
  simp only[World.cell?,this];simpa using c)
 rw[ey]at this;rw[fG];exact this
theorem xL(n:Nat):g8 aj 5 n=(aJ (List.replicate n 0)).toArray:=by
 rw[Ae (v:=.int .u8 0) (by kernel_rfl) (by kernel_rfl)];simp[aJ]
theorem FE{A Z T C:O UInt8}{n m:Nat}(ar:A.length=n)(a:Z.length=m):(aJ (A++(Z++T))).take n++aJ C++(aJ (A++(Z++T))).drop (n+m)=aJ (A++(C++T)):=by
 have b:(aJ (A++(Z++T))).take n=aJ A:=by rw[oo];exact me (by rw[ey,ar])
 have c:(aJ (A++(Z++T))).drop (n+m)=aJ T:=by rw[←cP,oo];exact drop_left' (by rw[ey,cz,ar,a])
 rw[b,c,oo,oo,cP]
theorem cf(w:J):Ext w w.drew:=ad.drew (.refl _ _)
theorem eS(w:J)(o:Obj):Ext w (w.alloc o):=ad.alloc (.refl _ _) o
theorem rJ(w:J)(o:Obj):(w.alloc o).heap.size=w.heap.size+1:=by simp
theorem vz{s:Y}{p:ir}{no:Nat}{w:J}(hs:Src 1 w s (aJ p.body))(a2:no<1600)(i:m9 p):
 aR aj 73 #[no,.agg #[p.kind,.int .u64 p.gen,s]] w (λv w'=>∃E:Y,v=.tuple #[E,(0:Int)]/\bd 1 5 w' E (aJ (eH no p))/\Ext w w'/\gU w E):=by
 have a3:=i.bG;have a4:=i.bI;have a5:=i.gen;have a6:=i.body;have N:=len8 hs;refine okF (af.tV no p.kind p.gen s) aA.tV func73 ?_;(delta af.tV aO ak r1 U ag ba br ky xe av xf gI;dsimp only);refine bh (vs:=[p.kind,.int .u64 p.gen,s]) rfl λw1 y F a7=>?_;have aU:∀ {w':J},Ext w1 w'->w'.cell? (Addr.add w.heap.size 2)=some (.slice s.a s.len s.cap):=λhx=>by rw[aw];exact(y.ext hx).cell
 have aC:∀ {w':J},Ext w1 w'->w'.cell? (Addr.add w.heap.size 1)=some (.int .u64 p.gen):=λhx=>by rw[aw];exact(y.ext hx).cell
 refine Calls.mono (af.Ax no w1 (λv w'=>v=true/\w1=w') ⟨by simp;omega,rfl⟩) ?_;rintro _ _ ⟨_,rfl,rfl,rfl⟩;refine⟨_,rfl,cq (λb w'=>b=false/\w1=w') (λq j=>⟨λh1=>by simp at h1,λh1=>⟨p.kind,y.cell,?_⟩⟩) ?_⟩
 .refine Calls.mono (af.Ay p.kind w1 (λv w'=>v=true/\w1=w') ⟨by simp;omega,rfl⟩) ?_
  rintro _ _ ⟨_,rfl,rfl,rfl⟩;exact⟨_,rfl,j _ _ ⟨rfl,rfl⟩⟩
 rintro b _ ⟨rfl,rfl⟩;refine⟨λh=>(by cases h),λ_=>⟨s,aU (.refl _ _),λh=>(by have:=b8 h;omega),λ_=>aW ?_⟩⟩
 obtain⟨ah,ai,am,O,a8⟩:=vy w1 gL;refine⟨⟨some w1.heap.size,4,4⟩,ah,ai,p.kind,(y.ext O).cell,?_⟩;have an:IntKind.wrap .u8 (p.kind:Int)=(((UInt8.ofNat p.kind).toNat:Nat):Int):=by rw[vm I,wW I I]
 rw[an];have z:=Src.new (T:=5) (sz:=1) ah (aJ [1,UInt8.ofNat p.kind]) 2 rfl;have G:=eS ah (.cells (aJ [1,UInt8.ofNat p.kind]).toArray 5);obtain⟨f,ao⟩:∃f,f=ah.alloc (.cells (aJ [1,UInt8.ofNat p.kind]).toArray 5):=⟨_,rfl⟩;show al (ah.alloc (.cells (aJ [1,UInt8.ofNat p.kind]).toArray 5)) _;rw[←ao]at z G⊢;refine aW ?_;have H:=Src.new (T:=48) (sz:=1) f [.slice (some w1.heap.size) 4 4,.slice (some ah.heap.size) 2 2] 2 rfl;have A:=eS f (.cells #[.slice (some w1.heap.size) 4 4,.slice (some ah.heap.size) 2 2] 48);obtain⟨B,P⟩:∃B,B=f.alloc (.cells #[.slice (some w1.heap.size) 4 4,.slice (some ah.heap.size) 2 2] 48):=⟨_,rfl⟩;have H:Src 1 B ⟨some f.heap.size,2,2⟩ [.slice (some w1.heap.size) 4 4,.slice (some ah.heap.size) 2 2]:=by rw[P];exact H
 rw[←P]at A⊢;have ap:Ext w1 B:=O.trans (G.trans A);refine aW ((vv (s:=⟨some f.heap.size,2,2⟩) [((⟨some w1.heap.size,4,4⟩:Y),gL),(⟨some ah.heap.size,2,2⟩,[1,UInt8.ofNat p.kind])] H ?_ (by simp[eR,gL]) (by simp)).use ?_)
 .intro q j
  simp only[cU,eL,eO]at j;rcases j with rfl|rfl
  .exact am.ext (G.trans A)
  .exact z.ext A
 rintro _ a9 ⟨aq,rfl,Q,ar,a_⟩;have R:=ap.trans ar;have au:eR [((⟨some w1.heap.size,4,4⟩:Y),gL),(⟨some ah.heap.size,2,2⟩,[1,UInt8.ofNat p.kind])]=gL++ [1,UInt8.ofNat p.kind]:=by simp[eR]
 rw[au]at Q;refine⟨aq,rfl,s,aU R,?_⟩;rw[gR (n:=(s.len:Int)) I I,gR (n:=(no:Int)) I I];refine(il Q.src (n:=s.len) (k:=2) (by simp[gL]) (by show _<18446744073709551616;omega) ⟨by decide,by decide⟩).use ?_;rintro _ bb ⟨ax,rfl,ay,az,bc⟩;have aB:=R.trans az;refine⟨ax,rfl,(il ay.src (n:=no) (k:=4) (by simp[gL,e4]) (by show _<18446744073709551616;omega) ⟨by decide,by decide⟩).use ?_⟩;rintro _ be ⟨aD,rfl,aE,aF,bf⟩;have S:=aB.trans aF;refine⟨aD,rfl,_,aC S,(il aE.src (n:=p.gen) (k:=8) (by simp[gL,e4]) (by show _<18446744073709551616;omega) ⟨by decide,by decide⟩).use ?_⟩;rintro _ d ⟨u,rfl,V,aG,bg⟩;have C:=S.trans aG;have aH:gL++ [1,UInt8.ofNat p.kind]++b7 s.len 2++b7 no 4++b7 p.gen 8=fe no p:=by rw[N];simp[fe]
 rw[aH]at V;refine⟨u,rfl,cq (λt w'=>bd 1 5 w' t (aJ (fe no p++(List.replicate 4 0++fl p)))/\Ext w1 w'/\gU w t) (λq j=>?_) ?_⟩
 .have m:=cf d
  have W:=C.trans m;have aI:IntKind.wrap .i64 (232-(s.len:Int))=((232-s.len:Nat):Int):=by rw[bA I I];omega
  refine aW ⟨λ_=>False,id,s,aU W,id,s,aU W,?_⟩;rw[aI];simp only[dd,show Int.toNat 4=4 from rfl];rw[xL,xL];have fin:∀ (K dH:J) (ft cj:Y),Ext d dH->Src 1 dH ft (aJ (List.replicate 4 0))->Src 1 dH cj (aJ (List.replicate (232-s.len) 0))->
   Calls aj 92 #[.slice (some dH.heap.size) 4 4] (dH.alloc (.cells #[u,ft,s,cj] 48)) λaK aL=>∃X:Y,aK=.returned X/\q X aL:=by
   intro K dH ft cj D h1 h2;have r:=eS dH (.cells #[u,ft,s,cj] 48);refine(vv (s:=⟨some dH.heap.size,4,4⟩) [(u,fe no p),(ft,List.replicate 4 0),(s,p.body),(cj,List.replicate (232-s.len) 0)] (Src.new dH _ 4 rfl) ?_ (by simp[eR,m_];omega) (by simp)).use ?_
   .intro x hx
    simp only[cU,eL,eO]at hx;rcases hx with rfl|rfl|rfl|rfl
    .exact V.src.ext (D.trans r)
    .exact h1.ext r
    .exact hs.ext ((F.trans (C.trans D)).trans r)
    .exact h2.ext r
   .rintro _ Z ⟨aM,rfl,aN,hx,hf⟩
    refine⟨aM,rfl,j _ _ ⟨?_,(C.trans D).trans (r.trans hx),hf.mono (F.trans ((C.trans D).trans r)).size⟩⟩;have e:eR [(u,fe no p),(ft,List.replicate 4 0),(s,p.body),(cj,List.replicate (232-s.len) 0)]=fe no p++(List.replicate 4 0++fl p):=by simp[eR,fl,N]
    rwa[e]at aN
  refine⟨⟨⟨by decide,by decide,by decide,by decide⟩,aW ⟨eS _ _,⟨I,Int.le_refl _,I,I⟩,aW ⟨eS _ _,aW ?_⟩⟩⟩,⟨⟨I,Int.le_refl _,I,I⟩,aW ⟨eS _ _,⟨by decide,by decide,by decide,by decide⟩,aW ⟨eS _ _,aW ?_⟩⟩⟩⟩
  .refine fin d _ ⟨some d.drew.heap.size,4,4⟩ ⟨some ⟨(d.drew.alloc _).heap.size,0,none⟩,232-s.len,232-s.len⟩ (m.trans ((eS _ _).trans (eS _ _))) (Src.ext (Src.new _ _ _ (by simp[aJ])) (eS _ _)) (Src.new _ _ _ (by simp[aJ]))
  .refine fin d _ ⟨some ⟨(d.drew.alloc _).heap.size,0,none⟩,4,4⟩ ⟨some d.drew.heap.size,232-s.len,232-s.len⟩ (m.trans ((eS _ _).trans (eS _ _))) (Src.new _ _ _ (by simp[aJ])) (Src.ext (Src.new _ _ _ (by simp[aJ])) (eS _ _))
 rintro t K ⟨g,aQ,aa⟩;have bi:t.len=256:=by
  have:=mf g;rw[this];simp[m_,vt i]
 have m:=cf K;refine aW ⟨λ_=>False,⟨by decide,I⟩,(nX (g.src.ext m) g.2.1 (by simp[m_,vt i])).use ?_⟩;rintro _ Z ⟨rfl,aS⟩;have es:sumOf (fe no p++(List.replicate 4 0++fl p))=iL (fe no p++fl p):=by
  unfold sumOf;rw[me (m_ no p),←cP,drop_left' (by simp[m_])]
 rw[es];have bj:=xK (fe no p++fl p);refine⟨_,rfl,λ_=>False,?_⟩;rw[gR I I];refine(il (s:=⟨none,0,0⟩) (l:=[]) (n:=iL (fe no p++fl p)) (k:=4) (bd.none 1 5 Z).src (by simp) (by show _<18446744073709551616;omega) ⟨by decide,by decide⟩).use ?_;rintro _ aT ⟨aV,rfl,L,aX,bk⟩;rw[iW]at L;have ab:=m.trans (aS.trans aX);have ac:=g.ext ab;have ae:=mf L;rw[e4]at ae;obtain⟨b,c,M,aY,bl,_⟩:∃b c,t.a=some ⟨b,0,none⟩/\bz aT b c 5/\c.size=t.cap*1/\c.toList.take (t.len*1)=aJ (fe no p++(List.replicate 4 0++fl p)):=by
  rcases ac.2.2.2 with ⟨_,hc⟩|⟨b,c,h1,h2,aZ,a0⟩
  .have:=g.2.1;omega
  .exact⟨b,c,h1,h2,aZ,a0⟩
 have a1:aP t.a 1 (Int.toNat 20) t.cap=some ⟨b,20,none⟩:=by
  rw[M,show Int.toNat 20=20 from rfl,s6 (by have:=g.2.1;omega)]
 have bm:=g.2.1;refine⟨aV,rfl,_,_,by rw[a1];exact Fi (by kernel_rfl) L.src (by rw[ae];show 4<=t.len-20;omega) (aY.b9 _ _ (by rw[ey,e4];omega) (k6 _)),t,rfl,?_,?_,aa⟩
 .have:=bd.FD ac M (o:=20) (us:=aJ (b7 (iL (fe no p++fl p)) 4)) (by rw[ey,e4];omega)
  have e:(aJ (fe no p++(List.replicate 4 0++fl p))).take 20++aJ (b7 (iL (fe no p++fl p)) 4)++(aJ (fe no p++(List.replicate 4 0++fl p))).drop (20+(aJ (b7 (iL (fe no p++fl p)) 4)).length)=aJ (eH no p):=by
   rw[ey,e4];exact FE (m_ no p) (by simp)
  rwa[e]at this
 .refine Ext.dy (F.trans (aQ.trans ab)) (ad.kY (.refl _ _) _ 0) λk z=>?_
  subst z;exact aa _ ⟨_,M,rfl⟩
theorem l8{s:Y}{l:O UInt8}{w:J}(hs:Src 1 w s (aJ l))(hc:s.len<=s.cap){a k:Nat}{e:Int}(he:e=((a+k:Nat):Int))(b:1<=k/\k<=8)(c:a+k<=l.length)(d:l.length<=1000):
 aR aj 227 #[s,a,e] w (λv w'=>v=.int .u64 (di l a k:Nat)/\w=w'):=by
 subst he;refine okF (af.l8 s a ((a+k:Nat):Int)) aA.l8 func227 ?_;(delta af.l8 k1 av;dsimp only);rw[bA I I,show(((a+k:Nat):Int)-(a:Int))=(k:Int) from I];refine(k2 hs hc b c I).use ?_;rintro _ _ ⟨rfl,rfl⟩;exact⟨_,_,rfl,rfl,rfl⟩
theorem pL{s:Y}{l:O UInt8}{w:J}(hs:Src 1 w s (aJ l))(o:l.length<=1000):
 aR aj 228 #[s] w (λv w'=>v=.bool (l.all λc=>c==0)/\w=w'):=by
 have p:=len8 hs;refine okF (af.pL s) aA.pL func228 ?_;(delta af.pL ak aL b3 av;dsimp only);refine⟨λi w'=>∃j:Nat,i=j/\j<=l.length/\w=w'/\∀ (k:Nat) (a:k<l.length),k<j->l[k]=0,λi _=>((l.length:Int)-i).toNat,⟨0,rfl,cL _,rfl,λk a h=>I⟩,?_⟩;rintro _ _ ⟨j,rfl,q,rfl,d⟩;refine⟨λaK=>?_,λb=>?_⟩
 .have aK:j<l.length:=by have:=b8 aK;omega
  obtain⟨A,ar,f,g⟩:=hs.at (om aK);refine⟨A,ar,f,_,g,λe=>?_,λm=>?_⟩
  .refine⟨?_,rfl⟩
   have:(l.all λc=>c==0)=false:=by
    rw[List.all_eq_false];refine⟨l[j],cF _,λh=>?_⟩;have h:=eq_of_beq h;rw[h]at e;simp at e
   rw[this]
  .have h0:l[j]=0:=by
    have:((l[j]).toNat:Int)=0:=by simpa using m
    exact UInt8.toNat_inj.1 (by show(l[j]).toNat=0;omega)
   rw[bA (n:=(j:Int)+1) I I];refine⟨⟨j+1,I,I,rfl,λk a h=>?_⟩,?_⟩
   .rcases dO k j with h1|h1
    .exact d k a h1
    .have:k=j:=by omega
     subst this;exact h0
   .show((l.length:Int)-((j:Int)+1)).toNat<((l.length:Int)-(j:Int)).toNat
    omega
 .have b:j=l.length:=by have:=cv b;omega
  subst b;refine⟨?_,rfl⟩;have:(l.all λc=>c==0)=true:=by
   rw[mC];intro c hc;obtain⟨k,a,rfl⟩:=fi hc;rw[d k a a];rfl
  rw[this]
def AZ(kind gen:Int)(s:Y):aa:=.agg #[kind,.int .u64 gen,s]
def vA(r:Except Int ir)(w w':J)(v:aa):Prop:=
 match r with
 | .ok p=>∃s:Y,v=.tuple #[AZ p.kind p.gen s,(0:Int)]/\bd 1 5 w' s (aJ p.body)/\gU w s
 | .error e=>v=.tuple #[AZ 0 0 ⟨none,0,0⟩,e]
theorem A0{w':J}{h:Nat}{vs:O aa}(n g:Int)(s:Y)(b:Var w' h vs 150)(e:vs.length=3){K:Int->Int->Y->J->Prop}(j:∀ah,ad (λq=>q=h) w' ah->K n g s ah):
 bx w' h [n,.int .u64 g,s]/\(3:Nat)=3/\al (setCells w' h 0 [n,.int .u64 g,s]) λah=>
  ∃f:Int,ah.cell? h=some (.int .i64 f)/\∃i:Int,ah.cell? (Addr.add h 1)=some (.int .u64 i)/\∃c:Y,ah.cell? (Addr.add h 2)=some (.slice c.a c.len c.cap)/\K f i c ah:=by
 refine⟨b.b9 (by rw[e];rfl) ?_,rfl,cr b (us:=[n,.int .u64 g,s]) (by rw[e];rfl) rfl λah d hc _=>?_⟩
 .intro v b
  simp only[cU,eL,eO]at b;rcases b with rfl|rfl|rfl<;>trivial
 .exact⟨n,d.cell,g,by rw[aw];exact d.cell,s,by rw[aw];exact d.cell,j ah hc⟩
theorem mZ{s:Y}{l:O UInt8}{w:J}(hs:Src 1 w s (aJ l))(hc:s.len<=s.cap)(u:l.length<=1000)(no:Int):
 aR aj 172 #[no,s] w (λv w'=>vA (dQ no l) w w' v/\Ext w w'):=by
 have aw:=len8 hs;refine okF (af.mZ no s) aA.mZ func172 ?_;(delta af.mZ z3 ak U r1 br ag xi aL b3 gI gy aO av ju;dsimp only);refine bh (vs:=[(0:Int),.int .u64 0,()]) rfl λw1 A x _=>?_
 have out:∀ (w':J) (e:Int),Ext w1 w'->dQ no l=.error e->
  bx w' w.heap.size [(0:Int),.int .u64 0,()]/\(3:Nat)=3/\al (setCells w' w.heap.size 0 [(0:Int),.int .u64 0,()]) λah=>
  ∃g:Int,ah.cell? w.heap.size=some (.int .i64 g)/\∃j:Int,ah.cell? (Addr.add w.heap.size 1)=some (.int .u64 j)/\∃d:Y,ah.cell? (Addr.add w.heap.size 2)=some (.slice d.a d.len d.cap)/\
   (λv w'=>vA (dQ no l) w w' v/\Ext w w') (.tuple #[.agg #[g,.int .u64 j,d],e]) ah:=by
  intro w' e hx he;refine A0 0 0 ⟨none,0,0⟩ (A.ext hx) rfl (K:=λg j d ah=>(λv w'=>vA (dQ no l) w w' v/\Ext w w') (.tuple #[.agg #[g,.int .u64 j,d],e]) ah) λah y=>⟨?_,Ext.cn (x.trans hx) y (bl _)⟩;rw[he];rfl
 refine⟨λh=>out _ _ (.refl _ _) ?_,λh=>?_⟩
 .have h:(s.len:Int)≠256:=by simpa using h
  unfold dQ;rw[if_pos I]
 have h:(s.len:Int)=256:=by simpa using h
 have N:l.length=256:=by omega
 have o:=hs.ext x;have P:=na o hc (lo:=0) (hi:=4) I I;have Q:Src 1 w1 ⟨aP s.a 1 0 s.cap,4-0,s.cap-0⟩ (((l.take 4).map λb=>(b.toNat:Int)).map (.int .u8)):=by
  rw[iz];exact P
 have E:=AP (src:=48) (dst:=9) (by kernel_rfl) (by kernel_rfl) Q;have R:(((l.take 4).map λb=>(b.toNat:Int)).map λn=>UInt8.ofNat n.toNat)=l.take 4:=by
  rw[iz];have:((λn:Int=>UInt8.ofNat n.toNat)∘ λb:UInt8=>(b.toNat:Int))=id:=by funext b;simp
  rw[this,List.map_id]
 rw[R]at E;refine⟨⟨by decide,I⟩,S (l.take 4),w1,E,?_⟩;have T:(ByteArray.toList (S (l.take 4))==ByteArray.toList (ByteArray.mk #[83,84,78,67]))=decide (l.take 4=gL):=by
  rw[show(ByteArray.mk #[83,84,78,67])=S gL from rfl,nN];rw[fY];simp
 rw[T];refine⟨λh=>out _ _ (.refl _ _) ?_,λh=>?_⟩
 .have h:l.take 4≠gL:=by simpa using h
  unfold dQ;rw[if_neg I,if_pos h]
 have p:l.take 4=gL:=by simpa using h
 obtain⟨V,W,ax,X⟩:=o.at (om (l:=l) (i:=4) I);have ay:s.len=256:=by omega
 refine⟨V,W,⟨by decide,I⟩,_,X,λh=>out _ _ (.refl _ _) ?_,λh=>?_⟩
 .have h:(((l[4]'I).toNat:Nat):Int)≠1:=by simpa using h
  unfold dQ;rw[if_neg I,if_neg (by simp[p]),if_pos (by
   intro e;apply h;rw[fC,dE I]at e;have e:(l[4]'I)=1:=e;rw[e];rfl)]
 have z:l.getD 4 0=1:=by
  have h:(((l[4]'I).toNat:Nat):Int)=1:=by simpa using h
  rw[fC,dE I];exact UInt8.toNat_inj.1 (by show(l[4]'I).toNat=1;omega)
 refine(nX o hc N).use ?_;rintro _ ah ⟨rfl,f⟩;have m:=o.ext f;refine⟨_,rfl,(l8 m hc (a:=20) (k:=4) (e:=24) rfl (by decide) I u).use ?_⟩;rintro _ _ ⟨rfl,rfl⟩;have az:sumOf l<4294967296:=xK _;rw[gR (n:=((sumOf l:Nat):Int)) I I];refine⟨_,rfl,λh=>out _ _ f ?_,λh=>?_⟩
 .have h:((sumOf l:Nat):Int)≠((di l 20 4:Nat):Int):=by simpa using h
  unfold dQ;rw[if_neg I,if_neg (by simp[p]),if_neg (λh=>h z),if_pos I]
 have aB:sumOf l=di l 20 4:=by
  have h:((sumOf l:Nat):Int)=((di l 20 4:Nat):Int):=by simpa using h
  omega
 refine(l8 m hc (a:=6) (k:=2) (e:=8) rfl (by decide) I u).use ?_;rintro _ _ ⟨rfl,rfl⟩;have aC:di l 6 2<65536:=m6 2 _ (by simp;omega);obtain⟨Z,aa,aD,ac⟩:=m.at (om (l:=l) (i:=5) I);have B:l.getD 5 0=l[5]'I:=by rw[fC,dE I];rfl
 have aE:=oU (l[5]'I);refine⟨_,rfl,Z,aa,⟨by decide,I⟩,_,ac,?_⟩;rw[bA (n:=(((l[5]'I).toNat:Nat):Int)) I I,bA (n:=((di l 6 2:Nat):Int)) I I];refine Calls.mono (af.Ay (((l[5]'I).toNat:Nat):Int) ah (λv w'=>v=.bool (decide (1<=(l[5]'I).toNat/\(l[5]'I).toNat<=4))/\ah=w') ⟨?_,rfl⟩) ?_
 .have e:(decide ((((l[5]'I).toNat:Nat):Int)>=1)&&decide ((((l[5]'I).toNat:Nat):Int)<=4))=decide (1<=(l[5]'I).toNat/\(l[5]'I).toNat<=4):=by
   rw[fY];simp only[er,cS];omega
  rw[e]
 rintro _ _ ⟨_,rfl,rfl,rfl⟩;have aF:24+di l 6 2<=256->True:=λ_=>trivial;refine⟨_,rfl,cq (λb w'=>b=decide (¬(1<=(l[5]'I).toNat/\(l[5]'I).toNat<=4)\/232<di l 6 2\/(l.drop (24+di l 6 2)).all (λc=>c==0)=false)/\ah=w') (λq r=>⟨λh1=>r _ _ ⟨?_,rfl⟩,λh1=>?_⟩) ?_⟩
 .refine(dP ?_).symm
  simp only[iT,lk,jY,cS]at h1;rcases h1 with h1|h1
  .exact .inl h1
  .exact .inr (.inl I)
 .simp only[nv,sw,jY,cS]at h1
  have ad:di l 6 2<=232:=by omega
  rw[bA (n:=24+((di l 6 2:Nat):Int)) I I];refine⟨⟨I,I⟩,?_⟩;have ae:Int.toNat (24+((di l 6 2:Nat):Int))=24+di l 6 2:=by omega
  rw[ae];have F:=na m hc (lo:=24+di l 6 2) (hi:=s.len) I I;rw[dV (l:=l.drop (24+di l 6 2)) (by rw[da];omega)]at F;refine(pL F (by rw[da];omega)).use ?_;rintro _ _ ⟨rfl,rfl⟩;refine⟨_,rfl,r _ _ ⟨?_,rfl⟩⟩
  cases aG:(l.drop (24+di l 6 2)).all (λc=>c==0) with
  |true=>exact(jq (by rintro(h2|h2|h2)<;>first|exact h2 h1.1|omega|cases h2)).symm
  |false=>exact(dP (.inr (.inr rfl))).symm
 rintro b _ ⟨rfl,rfl⟩;refine⟨λh=>out _ _ f ?_,λh=>?_⟩
 .have h:=b8 h
  unfold dQ;rw[if_neg I,if_neg (by simp[p]),if_neg (λh=>h z),if_neg I,if_pos (by rw[B];exact h)]
 have t:=cv h;have G:¬(¬(1<=(l.getD 5 0).toNat/\(l.getD 5 0).toNat<=4)\/232<di l 6 2\/(l.drop (24+di l 6 2)).all (λc=>c==0)=false):=by rw[B];exact t
 have ad:di l 6 2<=232:=by
  rcases dO 232 (di l 6 2) with h1|h1
  .exact absurd (.inr (.inl h1)) t
  .exact h1
 have aH:1<=(l[5]'I).toNat/\(l[5]'I).toNat<=4:=oV λh=>t (.inl h);refine Calls.mono (af.Ax no ah (λv w'=>v=.bool (decide (0<=no/\no<1600))/\ah=w') ⟨by simp[ge_iff_le],rfl⟩) ?_;rintro _ _ ⟨_,rfl,rfl,rfl⟩;have aI:di l 8 4<4294967296:=m6 4 _ (by simp;omega);refine⟨_,rfl,cq (λb w'=>b=decide (¬(0<=no/\no<1600)\/(di l 8 4:Int)≠no)/\ah=w') (λq r=>⟨λh1=>r _ _ ⟨?_,rfl⟩,λh1=>?_⟩) ?_⟩
 .refine(dP ?_).symm
  simp only[lk,jY]at h1;exact .inl h1
 .simp only[sw,cS]at h1
  refine(l8 m hc (a:=8) (k:=4) (e:=12) rfl (by decide) I u).use ?_;rintro _ _ ⟨rfl,rfl⟩;refine⟨_,rfl,r _ _ ⟨?_,rfl⟩⟩;rw[gR (n:=no) I I,fY,cS,bne_iff_ne];exact⟨λh=>.inr h,λh=>h.resolve_left (λh2=>h2 h1)⟩
 rintro b _ ⟨rfl,rfl⟩;refine⟨λh=>out _ _ f ?_,λh=>?_⟩
 .have h:=b8 h
  unfold dQ;rw[if_neg I,if_neg (by simp[p]),if_neg (λh=>h z),if_neg I,if_neg G,if_pos h]
 have ai:=cv h;have am:dQ no l=.ok ⟨(l.getD 5 0).toNat,di l 12 8,(l.drop 24).take (di l 6 2)⟩:=by
  unfold dQ;rw[if_neg I,if_neg (by simp[p]),if_neg (λh=>h z),if_neg I,if_neg G,if_neg ai]
 refine(pM m hc (a:=24) (k:=di l 6 2) I I).use ?_;rintro _ an ⟨C,rfl,ao,ap,H⟩;have L:=cf an;have D:=f.trans (ap.trans L);have M:=o.ext D;obtain⟨aq,ar,aK,au⟩:=M.at (om (l:=l) (i:=5) I);refine⟨C,true,rfl,aW ⟨λ_=>False,aq,ar,⟨by decide,I⟩,id,_,au,(l8 M hc (a:=12) (k:=8) (e:=20) rfl (by decide) I u).use ?_⟩⟩;rintro _ _ ⟨rfl,rfl⟩;rw[bA (n:=(((l[5]'I).toNat:Nat):Int)) I I];refine⟨_,rfl,.refl _ _,A0 _ _ C (A.ext D) rfl (K:=λg j d ah=>(λv w'=>vA (dQ no l) w w' v/\Ext w w') (.tuple #[.agg #[g,.int .u64 j,d],(0:Int)]) ah) λaM y=>⟨?_,Ext.cn (x.trans D) y (bl _)⟩⟩;rw[am];refine⟨C,by rw[B];rfl,(ao.ext L).ab y λk t e=>?_,H.mono (x.trans f).size⟩;have:=H k t;have:=A.lt;have:=f.size;subst e;omega
theorem A1{P:Program}{w:J}:∀ (l:O UInt8) (a:ae) (acc:ByteArray),(∀j x,l[j]? =some x->w.cell? (a.add j)=some (.int .u8 (x.toNat:Int)))->
 (Extern.Bytes.loadBytes a l.length acc).run P w=.ok ⟨acc.data++l.toArray⟩ w
 | [],a,acc,_=>by simp[Extern.Bytes.loadBytes]
 |x::l,a,acc,h=>by
  have h0:=h 0 x rfl
  rw[add_zero']at h0
  have b:=A1 (P:=P) l (a.add 1) (acc.push x) (λj y c=>by
   rw[add_add,Nat.add_comm]
   exact h (j+1) y (by simpa using c))
  have hx:(x.toNat:Int).toNat.toUInt8=x:=Fg x
  simp only[e8,Extern.Bytes.loadBytes,Sem.run_bind,wq h0,Result.andThen,hx]
  rw[b]
  congr 2
  simp[ByteArray.push]
theorem A2{P:Program}{w:J}{s:Y}{l:O UInt8}(h:Src 1 w s (aJ l)):(Extern.Bytes.bytesOf s).run P w=.ok (S l) w:=by
 cases hs:s.a with
 |none=>
  have h0:l=[]:=by
   have:=h.nil hs
   cases l with
   |nil=>rfl
   |cons a l=>simp[aJ]at this
  subst h0;rfl
 |some A=>
  have b:=h.rd A hs;rw[fG]at b;have:=A1 (P:=P) (w:=w) l A .empty (λj x c=>by
   have:=pg b (j:=j) (v:=.int .u8 (x.toNat:Int)) (by simp[aJ,c]);simpa using this)
  show(Extern.Bytes.loadBytes A s.len .empty).run P w=_;rw[len8 h,this]
  congr 1
  show(ByteArray.mk (ByteArray.empty.data++l.toArray))=ByteArray.mk l.toArray
  congr 1
  exact Array.empty_append ..
theorem A3:∀a b:Key,Lib.compareBytes a b=eE a b
 | [],[]=>rfl
 | [],_::_=>rfl
 |_::_,[]=>rfl
 |a::x,b::y=>by
  simp only[Lib.compareBytes,eE,UInt8.lt_iff_toNat_lt,A3 x y]
theorem kB{s t:Y}{l m:Key}{w:J}(hs:Src 1 w s (aJ l))(ht:Src 1 w t (aJ m)):
 aR aj 176 #[s,t] w (λv w'=>v=.int .i64 (eE l m)/\w=w'):=by
 refine okF (af.kB s t) aA.kB func176 ?_;unfold af.kB;refine⟨eE l m,w,?_,rfl,rfl⟩;rw[run_callFunc_extern func230 rfl rfl rfl rfl];have:(Extern.BytealgCompare.compare #[s,t]).run aj w=.ok (.int .i64 (eE l m)) w:=by
  change Sem.run aj (do pure (goInt (Extern.BytealgCompare.cmp (←Extern.Bytes.bytesOf s) (←Extern.Bytes.bytesOf t)))) w=_
  simp only[Sem.run_bind,A2 hs,A2 ht,Result.andThen,Sem.run_pure];rw[Lib.cmp_eq];show Result.ok (goInt (Lib.compareBytes l m)) w=_;rw[A3];rfl
 rw[this];rfl
theorem mg{s:Y}{l:O UInt8}{w:J}(h:Src 1 w s (aJ l)):Sem.run aj (convert 48 9 s) w=.ok (.string (S l)) w:=by
 have a:Src 1 w s ((l.map λb=>(b.toNat:Int)).map (.int .u8)):=by rw[iz];exact h
 have:=AP (src:=48) (dst:=9) (by kernel_rfl) (by kernel_rfl) a;rw[iz]at this;have e:((λn:Int=>UInt8.ofNat n.toNat)∘ λb:UInt8=>(b.toNat:Int))=id:=by funext b;simp
 rw[e,List.map_id]at this;exact this
theorem px{s t:Y}{l m:Key}{w:J}(hs:Src 1 w s (aJ l))(ht:Src 1 w t (aJ m)):
 aR aj 158 #[s,t] w (λv w'=>v=.bool (decide (l=m))/\w=w'):=by
 refine okF (af.px s t) aA.px func158 ?_;unfold af.px;refine⟨_,_,mg hs,_,_,mg ht,?_,rfl⟩;rw[nN]
 congr 1
 rw[fY];simp
def In(B:Nat->Prop)(w:J)(s:Y):Prop:=∀k,aB s k->B k/\k<w.heap.size
def a_(B:Nat->Prop)(w:J)(t:Y)(l:Key):Prop:=Src 1 w t (aJ l)/\t.len<=t.cap/\In B w t
def bq(B:Nat->Prop)(w:J)(s:Y)(ls:O Key):Prop:=
 ∃ts:O Y,ts.length=ls.length/\Src 1 w s (ts.map hX)/\s.len<=s.cap/\In B w s/\∀ (i:Nat) (h1:i<ts.length) (h2:i<ls.length),a_ B w ts[i] ls[i]
def ee(ds:O Nat):O aa:=ds.map λd=>.int .i64 ((d:Nat):Int)
def cK(B:Nat->Prop)(w:J)(s:Y)(ds:O Nat):Prop:=Src 1 w s (ee ds)/\s.len<=s.cap/\In B w s
def bu(B:Nat->Prop)(w:J)(s:Y)(ls:O Key):Prop:=
 ∃ts:O Y,ts.length=ls.length/\bd 1 48 w s (ts.map hX)/\In B w s/\∀ (i:Nat) (h1:i<ts.length) (h2:i<ls.length),a_ B w ts[i] ls[i]/\∀k,aB ts[i] k->¬aB s k
def cR(B:Nat->Prop)(w:J)(s:Y)(ds:O Nat):Prop:=bd 1 3 w s (ee ds)/\In B w s
section
variable {B C:Nat->Prop}{w w':J}{s t:Y}{l:Key}{ls:O Key}{ds:O Nat}
theorem In.ab{V:Nat->Prop}(h:In B w s)(hc:ad V w w'):In B w' s:=λk a=>⟨(h k a).1,fU (h k a).2 hc.size⟩
theorem In.aY(h:In B w s)(b:∀k,k<w.heap.size->B k->C k):In C w s:=λk a=>⟨b k (h k a).2 (h k a).1,(h k a).2⟩
theorem a_.ab{V:Nat->Prop}(h:a_ B w t l)(hc:ad V w w')(a:∀k,B k->¬V k):a_ B w' t l:=⟨h.1.ab hc λk b=>a k (h.2.2 k b).1,h.2.1,In.ab h.2.2 hc⟩
theorem a_.iM{V:Nat->Prop}(h:a_ B w t l)(hc:ad V w w')(a:∀k,aB t k->¬V k):a_ B w' t l:=⟨h.1.ab hc a,h.2.1,In.ab h.2.2 hc⟩
theorem a_.ext(h:a_ B w t l)(hc:Ext w w'):a_ B w' t l:=a_.ab h hc λ_ _ h=>h
theorem a_.aY(h:a_ B w t l)(a:∀k,k<w.heap.size->B k->C k):a_ C w t l:=⟨h.1,h.2.1,In.aY h.2.2 a⟩
theorem bq.ab{V:Nat->Prop}(h:bq B w s ls)(hc:ad V w w')(a:∀k,B k->¬V k):bq B w' s ls:=by
 obtain⟨ts,h1,h2,c,b,d⟩:=h;exact⟨ts,h1,h2.ab hc λk e=>a k (b k e).1,c,In.ab b hc,λi f g=>a_.ab (d i f g) hc a⟩
theorem bq.ext(h:bq B w s ls)(hc:Ext w w'):bq B w' s ls:=bq.ab h hc λ_ _ h=>h
theorem bq.aY(h:bq B w s ls)(a:∀k,k<w.heap.size->B k->C k):bq C w s ls:=by
 obtain⟨ts,h1,h2,b,c,d⟩:=h;exact⟨ts,h1,h2,b,In.aY c a,λi e f=>a_.aY (d i e f) a⟩
theorem cK.ab{V:Nat->Prop}(h:cK B w s ds)(hc:ad V w w')(a:∀k,B k->¬V k):cK B w' s ds:=⟨h.1.ab hc λk b=>a k (h.2.2 k b).1,h.2.1,In.ab h.2.2 hc⟩
theorem cK.ext(h:cK B w s ds)(hc:Ext w w'):cK B w' s ds:=cK.ab h hc λ_ _ h=>h
theorem cK.aY(h:cK B w s ds)(a:∀k,k<w.heap.size->B k->C k):cK C w s ds:=⟨h.1,h.2.1,In.aY h.2.2 a⟩
theorem bq.len(h:bq B w s ls):s.len=ls.length:=by
 obtain⟨ts,h1,h2,_⟩:=h;have:=h2.len;rw[dU]at this;omega
theorem nc(ds:O Nat):(ee ds).length=ds.length:=by simp[ee]
theorem cK.len(h:cK B w s ds):s.len=ds.length:=by
 have:=h.1.len;rw[nc]at this;omega
theorem bq.at(h:bq B w s ls){i:Nat}(hi:i<ls.length):∃ (A:ae) (t:Y),s.a=some A/\((0:Int)<=(i:Int)/\(i:Int)<(s.len:Int))/\w.cell? (A.add (Int.toNat (i:Int)*1))=some (.slice t.a t.len t.cap)/\a_ B w t ls[i]/\B A.block:=by
 obtain⟨ts,h1,h2,e,b,c⟩:=h;obtain⟨A,ar,d,hc⟩:=h2.at (i:=i) (v:=hX (ts[i]'I)) (by simp[h1,hi]);exact⟨A,ts[i]'I,ar,d,hc,c i I hi,(b _ ⟨A,ar,rfl⟩).1⟩
theorem cK.at(h:cK B w s ds){i:Nat}(hi:i<ds.length):∃A:ae,s.a=some A/\((0:Int)<=(i:Int)/\(i:Int)<((s.len:Nat):Int))/\w.cell? (A.add (Int.toNat (i:Int)*1))=some (.int .i64 ((ds[i]:Nat):Int)):=by
 obtain⟨A,ar,b,hc⟩:=h.1.at (i:=i) (v:=.int .i64 ((ds[i]:Nat):Int)) (by simp[ee,hi]);exact⟨A,ar,b,hc⟩
theorem bu.iN(h:bu B w s ls):bq B w s ls:=by
 obtain⟨ts,h1,h2,a,b⟩:=h;exact⟨ts,h1,h2.src,h2.2.1,a,λi c d=>(b i c d).1⟩
theorem cR.p4(h:cR B w s ds):cK B w s ds:=⟨h.1.src,h.1.2.1,h.2⟩
theorem bu.none(B:Nat->Prop)(w:J):bu B w ⟨.none,0,0⟩ []:=⟨[],rfl,bd.none _ _ _,λk a=>(gk k a).elim,λi h=>by simp at h⟩
theorem cR.none(B:Nat->Prop)(w:J):cR B w ⟨.none,0,0⟩ []:=⟨bd.none _ _ _,λk a=>(gk k a).elim⟩
theorem bq.none(B:Nat->Prop)(w:J):bq B w ⟨.none,0,0⟩ []:=bu.iN (bu.none B w)
theorem cK.none(B:Nat->Prop)(w:J):cK B w ⟨.none,0,0⟩ []:=cR.p4 (cR.none B w)
theorem bu.ab{V:Nat->Prop}(h:bu B w s ls)(hc:ad V w w')(a:∀k,B k->¬V k):bu B w' s ls:=by
 obtain⟨ts,h1,h2,b,c⟩:=h;exact⟨ts,h1,h2.ab hc λk f=>a k (b k f).1,In.ab b hc,λi d e=>⟨a_.ab (c i d e).1 hc a,(c i d e).2⟩⟩
theorem bu.ext(h:bu B w s ls)(hc:Ext w w'):bu B w' s ls:=bu.ab h hc λ_ _ h=>h
theorem cR.ab{V:Nat->Prop}(h:cR B w s ds)(hc:ad V w w')(a:∀k,B k->¬V k):cR B w' s ds:=⟨h.1.ab hc λk b=>a k (h.2 k b).1,In.ab h.2 hc⟩
theorem cR.ext(h:cR B w s ds)(hc:Ext w w'):cR B w' s ds:=cR.ab h hc λ_ _ h=>h
theorem a_.some(h:a_ B w t l)(b:l≠ []):∃A,t.a=some A:=by
 cases c:t.a with
 |none=>
  have:=h.1.nil c;exfalso;apply b
  cases l with
  |nil=>rfl
  |cons a l=>simp[aJ]at this
 |some A=>exact⟨A,rfl⟩
end
theorem p5:hM aj 127 48 1 24:=⟨by kernel_rfl⟩
theorem p6:hM aj 58 3 1 8:=⟨by kernel_rfl⟩
theorem vB(ts:O Y):∀v∈ts.map hX,Plain v:=by
 intro v a;obtain⟨n,_,rfl⟩:=eC.1 a;trivial
theorem xM(ds:O Nat):∀v∈ee ds,Plain v:=by
 intro v a;obtain⟨n,_,rfl⟩:=eC.1 a;trivial
theorem kF{B:Nat->Prop}{w:J}{s:Y}{l:O UInt8}(h:Src 1 w s (aJ l))(d:l.length<=1000000)(e:∀k,w.heap.size<=k->B k):
 aR aj 135 #[s] w (λv w'=>∃a:Y,v=a/\a_ B w' a l/\Ext w w'/\gU w a):=by
 refine(xB h d).mono ?_;rintro _ w' ⟨a,rfl,b,hx,hf⟩;exact⟨a,rfl,⟨b.src,b.2.1,λk c=>⟨e k (hf k c),b.lt k c⟩⟩,hx,hf⟩
theorem A4{B:Nat->Prop}{w:J}{s t:Y}{ls:O Key}{l:Key}(n:bu B w s ls)(ht:a_ B w t l)(hd:∀k,aB t k->¬aB s k)(A:ls.length<=1000000)(o:∀k,w.heap.size<=k->B k):
 ∃ (b:Y) (w':J),Sem.run aj (Builtin.append_ #[127,127] 127 #[s,.slice (some w.heap.size) 1 1]) (w.alloc (.cells #[t] 48))=.ok b w'/\
  bu B w' b (ls++ [l])/\ad (aB s) w w'/\(∀k,aB b k->aB s k\/w.heap.size<=k):=by
 obtain⟨ts,h1,h2,p,q⟩:=n;have C:s.len=ls.length:=by have:=h2.1;rw[dU]at this;omega
 obtain⟨b,w',au,ay,D,c,d⟩:=p5.push (cM:=127) (w:=w) (s:=s) (xs:=[hX t]) rfl h2 (λv r=>by rw[ff.1 r];trivial) I;refine⟨b,w',au,⟨ts++ [t],by simp[h1],?_,?_,λi f u=>?_⟩,c,d⟩
 .rw[fZ];exact ay
 .intro k a
  refine⟨?_,ay.lt k a⟩;rcases d k a with h|h
  .exact(p k h).1
  .exact o k h
 .have g:∀ (x:Y),(∀k,aB x k->k<w.heap.size)->(∀k,aB x k->¬aB s k)->∀k,aB x k->¬aB b k:=λx hx y k a z=>by
   rcases d k z with h|h
   .exact y k a h
   .have:=hx k a;omega
  have E:i<ts.length+1:=by simpa using f
  rcases dO i ts.length with h|h
  .obtain⟨j,m⟩:=q i h I
   simp only[lW h,lW (show i<ls.length from I)];exact⟨a_.iM j c m,g _ (λk a=>(j.2.2 k a).2) m⟩
  .have:i=ts.length:=by omega
   subst this;have e:(ts++ [t])[ts.length]'f=t:=by simp
   have:(ls++ [l])[ts.length]'u=l:=by rw[nx I];simp
   rw[this,e];exact⟨a_.iM ht c hd,g _ (λk a=>(ht.2.2 k a).2) hd⟩
theorem FF{B:Nat->Prop}{w:J}{s:Y}{ds:O Nat}(d:Nat)(b:cR B w s ds)(j:ds.length<=1000000)(f:∀k,w.heap.size<=k->B k):
 ∃ (a:Y) (w':J),Sem.run aj (Builtin.append_ #[58,58] 58 #[s,.slice (some w.heap.size) 1 1]) (w.alloc (.cells #[d] 3))=.ok a w'/\
  cR B w' a (ds++ [d])/\ad (aB s) w w'/\(∀k,aB a k->aB s k\/w.heap.size<=k):=by
 have l:s.len=ds.length:=by have:=b.1.1;rw[nc]at this;omega
 obtain⟨a,w',au,ay,m,g,c⟩:=p6.push (cM:=58) (w:=w) (s:=s) (xs:=[d]) rfl b.1 (λv i=>by rw[ff.1 i];trivial) I;refine⟨a,w',au,⟨by simpa[ee] using ay,λk e=>⟨?_,ay.lt k e⟩⟩,g,c⟩;rcases c k e with h|h
 .exact(b.2 k h).1
 .exact f k h
structure bF(B:Nat->Prop)(w:J)(n:aD)(K V D:Y):Prop where
 keys:bq B w K n.keys
 vals:bq B w V n.vals
 kids:cK B w D n.kids
def dZ(n:aD)(K V D:Y):O aa:=[n.leaf,K,V,D]
def c2(n:aD)(K V D:Y):aa:=.agg #[n.leaf,K,V,D]
section
variable {B C:Nat->Prop}{w w':J}{n:aD}{K V D:Y}
theorem bF.ab{W:Nat->Prop}(h:bF B w n K V D)(hc:ad W w w')(a:∀k,B k->¬W k):bF B w' n K V D:=⟨bq.ab h.keys hc a,bq.ab h.vals hc a,cK.ab h.kids hc a⟩
theorem bF.ext(h:bF B w n K V D)(hc:Ext w w'):bF B w' n K V D:=bF.ab h hc λ_ _ h=>h
theorem bF.aY(h:bF B w n K V D)(a:∀k,k<w.heap.size->B k->C k):bF C w n K V D:=⟨bq.aY h.keys a,bq.aY h.vals a,cK.aY h.kids a⟩
theorem bH{b:Nat}{T:TypeId}{leaf:ai}(h:Var w b [leaf,K,V,D] T):
 w.cell? b=some (.bool leaf)/\w.cell? (Addr.add b 1)=some (.slice K.a K.len K.cap)/\w.cell? (Addr.add b 2)=some (.slice V.a V.len V.cap)/\w.cell? (Addr.add b 3)=some (.slice D.a D.len D.cap):=by
 rw[aw,aw,aw];exact⟨h.cell,h.cell,h.cell,h.cell⟩
end
theorem FG{B:Nat->Prop}{w:J}{s:Y}{ls:O Key}(h:bq B w s ls)(f:ls.length<=1000000):
   aR aj 242 #[s,.func (.func 241) #[] #[]] w (λv w'=>v=.bool (ls.any λv=>decide (24<v.length))/\w=w'):=by
 refine okF (af.tG s ⟨241,#[],#[]⟩) aA.tG func242 ?_
 (delta af.tG aC;dsimp only)
 have g:=bq.len h
 have e:iC aj 241:=⟨_,(Option.some_get (show(Tryz.prog.funcs[241]?).isSome=true by kernel_rfl)).symm,by kernel_rfl,by kernel_rfl⟩
 refine Calls.mono (af.Ep s ⟨241,#[],#[]⟩ w (λv w'=>(∃i:Int,v=i/\(decide (i>=0))=(ls.any λv=>decide (24<v.length)))/\w=w') ?_) ?_
 · (delta af.ri ak aL ag av;dsimp only)
   refine⟨λi w'=>∃j:Nat,i=j/\j<=ls.length/\w=w'/\∀ (k:Nat) (a:k<ls.length),k<j->(ls[k]).length<=24,λi _=>((ls.length:Int)-i).toNat,⟨0,rfl,cL _,rfl,λk a h=>I⟩,?_⟩
   rintro _ _ ⟨j,rfl,l,rfl,d⟩
   refine⟨λaK=>?_,λc=>?_⟩
   · have aK:j<ls.length:=by have:=b8 aK;omega
     obtain⟨A,t,ar,b,hc,ht,_⟩:=bq.at h aK
     refine⟨A,ar,b,t,hc,e,?_⟩
     have m:=len8 ht.1
     refine Calls.mono (af.EN t w (λv w'=>v=.bool (decide (24<(ls[j]).length))/\w=w') ⟨?_,rfl⟩) ?_
     · congr 1
       rw[fY,cS,cS];omega
     rintro _ _ ⟨_,rfl,rfl,rfl⟩
     refine⟨_,rfl,λb=>⟨⟨j,rfl,?_⟩,rfl⟩,λb=>?_⟩
     · have:(ls.any λv=>decide (24<v.length))=true:=List.any_eq_true.2 ⟨_,cF aK,b⟩
       rw[this];exact dP I
     · have b:=cv b
       rw[bA (n:=(j:Int)+1) I I]
       refine⟨⟨j+1,I,I,rfl,λk a h=>?_⟩,?_⟩
       · rcases dO k j with h1|h1
         · exact d k a h1
         · have:k=j:=by omega
           subst this;omega
       · show((ls.length:Int)-((j:Int)+1)).toNat<((ls.length:Int)-(j:Int)).toNat
         omega
   · have c:j=ls.length:=by have:=cv c;omega
     subst c
     refine⟨⟨-1,rfl,?_⟩,rfl⟩
     have:(ls.any λv=>decide (24<v.length))=false:=by
       rw[oO]
       intro x hx
       obtain⟨k,a,rfl⟩:=fi hx
       have:=d k a a
       simp;omega
     rw[this];rfl
 · rintro _ _ ⟨_,rfl,⟨i,rfl,hi⟩,rfl⟩
   exact⟨i,rfl,by rw[hi],rfl⟩
theorem FH{B:Nat->Prop}{w:J}{s:Y}{ds:O Nat}(h:cK B w s ds)(g:ds.length<=1000000):
   aR aj 244 #[s,.func (.func 243) #[] #[]] w (λv w'=>v=.bool (ds.any λd=>decide (1600<=d))/\w=w'):=by
 refine okF (af.tH s ⟨243,#[],#[]⟩) aA.tH func244 ?_
 (delta af.tH aC;dsimp only)
 have l:=cK.len h
 have f:iC aj 243:=⟨_,(Option.some_get (show(Tryz.prog.funcs[243]?).isSome=true by kernel_rfl)).symm,by kernel_rfl,by kernel_rfl⟩
 refine Calls.mono (af.Er s ⟨243,#[],#[]⟩ w (λv w'=>(∃i:Int,v=i/\(decide (i>=0))=(ds.any λd=>decide (1600<=d)))/\w=w') ?_) ?_
 · (delta af.rj ak aL r1 av;dsimp only)
   refine⟨λi w'=>∃j:Nat,i=j/\j<=ds.length/\w=w'/\∀ (k:Nat) (a:k<ds.length),k<j->ds[k]<1600,λi _=>((ds.length:Int)-i).toNat,⟨0,rfl,cL _,rfl,λk a h=>I⟩,?_⟩
   rintro _ _ ⟨j,rfl,m,rfl,e⟩
   refine⟨λaK=>?_,λc=>?_⟩
   · have aK:j<ds.length:=by have:=b8 aK;omega
     obtain⟨A,ar,b,hc⟩:=cK.at h aK
     refine⟨A,ar,b,_,hc,f,?_⟩
     refine Calls.mono (af.EO ((ds[j]:Nat):Int) w (λv w'=>v=.bool (decide (1600<=ds[j]))/\w=w') ⟨?_,rfl⟩) ?_
     · congr 1
       rw[fY,iT,cS,cS,cS];omega
     rintro _ _ ⟨_,rfl,rfl,rfl⟩
     refine⟨_,rfl,λb=>⟨⟨j,rfl,?_⟩,rfl⟩,λb=>?_⟩
     · have:(ds.any λd=>decide (1600<=d))=true:=List.any_eq_true.2 ⟨_,cF aK,b⟩
       rw[this];exact dP I
     · have b:=cv b
       rw[bA (n:=(j:Int)+1) I I]
       refine⟨⟨j+1,I,I,rfl,λk a h=>?_⟩,?_⟩
       · rcases dO k j with h1|h1
         · exact e k a h1
         · have:k=j:=by omega
           subst this;omega
       · show((ds.length:Int)-((j:Int)+1)).toNat<((ds.length:Int)-(j:Int)).toNat
         omega
   · have c:j=ds.length:=by have:=cv c;omega
     subst c
     refine⟨⟨-1,rfl,?_⟩,rfl⟩
     have:(ds.any λd=>decide (1600<=d))=false:=by
       rw[oO]
       intro x hx
       obtain⟨k,a,rfl⟩:=fi hx
       have:=e k a a
       simp;omega
     rw[this];rfl
 · rintro _ _ ⟨_,rfl,⟨i,rfl,hi⟩,rfl⟩
   exact⟨i,rfl,by rw[hi],rfl⟩
theorem A5:∀ {l:O Key},(∀ (i:Nat) (h:i+1<l.length),bK l[i] l[i+1])->l.Pairwise bK
 | [],_=>.nil
 |a::l,h=>by
  have e:=A5 (l:=l) λi hi=>h (i+1) (by simpa using hi)
  refine jF.2 ⟨λb d=>?_,e⟩
  cases l with
  |nil=>simp at d
  |cons c l=>
   have h0:bK a c:=h 0 (by simp)
   rcases cU.1 d with rfl|d
   .exact h0
   .exact lH h0 ((jF.1 e).1 b d)
instance (k:Key):Decidable (cw k):=by unfold cw;infer_instance
theorem n1{w:J}{t:Y}{l:Key}(h:Src 1 w t (aJ l)):aR aj 209 #[t] w (λv w'=>v=.bool (decide (cw l))/\w=w'):=by
 have a:=len8 h;refine okF (af.n1 t) aA.n1 func209 ?_;unfold af.n1;refine⟨?_,rfl⟩
 congr 1
 rw[fY,er,cS,cS,cS];unfold cw;omega
theorem j5{B:Nat->Prop}{w:J}{n:aD}{K V D:Y}(h:bF B w n K V D)(h1:n.keys.length<=100000)(h2:n.vals.length<=100000)(O:n.kids.length<=100000):
 aR aj 203 #[c2 n K V D] w (λv w'=>∃b:ai,v=b/\(b=true↔cH n)/\Ext w w'):=by
 refine okF (af.j5 n.leaf K V D) aA.j5 func203 ?_;(delta af.j5 ag U ak aL aO av aC bc;dsimp only);refine bh (vs:=[n.leaf,K,V,D]) rfl λw1 d m _=>?_;obtain⟨bX,aC,aU,aO⟩:=bH d;have g:=h.ext m;have x:=bq.len g.keys;have P:=bq.len g.vals;have aQ:=cK.len g.kids;refine⟨K,aC,λi w'=>∃j:Nat,i=j/\j<=n.keys.length/\w1=w'/\(∀ (k:Nat) (f:k<n.keys.length),k<j->cw n.keys[k])/\∀ (k:Nat) (f:k+1<n.keys.length),k+1<j->bK n.keys[k] n.keys[k+1],
  λi _=>((n.keys.length:Int)-i).toNat,⟨0,rfl,cL _,rfl,λk f h=>I,λk f h=>I⟩,?_⟩
 rintro _ _ ⟨j,rfl,o,rfl,y,z⟩;refine⟨λaK=>?_,λp=>?_⟩
 .have aK:j<n.keys.length:=by have:=b8 aK;omega
  obtain⟨A,t,ar,a,hc,ht,_⟩:=bq.at g.keys aK;refine⟨A,ar,a,t,hc,(n1 ht.1).use ?_⟩;rintro _ _ ⟨rfl,rfl⟩;refine⟨_,rfl,cq (λb w'=>w1=w'/\(b=true->¬cH n)/\(b=false->cw n.keys[j]/\∀ (o:1<=j),bK (n.keys[j-1]'I) n.keys[j])) (λq c=>⟨λa=>?_,λa=>?_⟩) ?_⟩
  .have a:¬cw n.keys[j]:=by simpa using a
   exact c _ _ ⟨rfl,λ_ hs=>a (hs.keys.ok _ (cF aK)),λh=>by cases h⟩
  .have a:cw n.keys[j]:=by simpa using a
   refine cq (λb w'=>w1=w'/\(b=true->¬cH n)/\(b=false->∀ (o:1<=j),bK (n.keys[j-1]'I) n.keys[j])) (λdG C=>⟨λh0=>?_,λh0=>?_⟩) ?_
   .have h0:1<=j:=by have:=b8 h0;omega
    rw[bA (n:=(j:Int)-1) I I,show(j:Int)-1=((j-1:Nat):Int) from I];obtain⟨F,t2,G,r,H,L,_⟩:=bq.at g.keys (i:=j-1) I;refine⟨K,aC,F,G,r,t2,H,(kB L.1 ht.1).use ?_⟩;rintro _ _ ⟨rfl,rfl⟩;refine⟨_,rfl,C _ _ ⟨rfl,λhc hs=>?_,λhc _=>?_⟩⟩
    .have hc:=b8 hc
     have:bK (n.keys[j-1]'I) n.keys[j]:=mK.1 hs.keys.fb (j-1) j I aK I;unfold bK at this;omega
    .have hc:=cv hc
     unfold bK;omega
   .have h0:=cv h0
    exact C _ _ ⟨rfl,λh=>(by cases h),λ_ o=>I⟩
   .rintro b w' ⟨rfl,au,ay⟩
    exact c _ _ ⟨rfl,au,λr=>⟨a,ay r⟩⟩
  .rintro b w' ⟨rfl,au,ay⟩
   refine⟨λa=>⟨false,rfl,⟨λh=>(by cases h),λhs=>absurd hs (au a)⟩,m⟩,λa=>?_⟩;obtain⟨M,N⟩:=ay a;rw[bA (n:=(j:Int)+1) I I];refine⟨⟨j+1,I,I,rfl,λk f h=>?_,λk f h=>?_⟩,?_⟩
   .rcases dO k j with h1|h1
    .exact y k f h1
    .have:k=j:=by omega
     subst this;exact M
   .rcases dO (k+1) j with h1|h1
    .exact z k f h1
    .have:j=k+1:=by omega
     subst this;exact N I
   .show((n.keys.length:Int)-((j:Int)+1)).toNat<((n.keys.length:Int)-(j:Int)).toNat
    omega
 .have p:j=n.keys.length:=by have:=cv p;omega
  subst p;have E:vg n:=⟨λk f=>by
   obtain⟨i,hi,rfl⟩:=fi f;exact y i hi hi,A5 λi hi=>z i hi hi⟩
  refine⟨n.leaf,bX,λl=>⟨V,aU,K,aC,?_⟩,λl=>⟨K,aC,?_⟩⟩
  .refine cq (λb w'=>w1=w'/\b=(decide (n.vals.length=n.keys.length)&&decide (n.kids=[]))) (λq c=>⟨λa=>⟨D,aO,c _ _ ⟨rfl,?_⟩⟩,λa=>c _ _ ⟨rfl,?_⟩⟩) ?_
   .have a:=eq_of_beq a
    rw[dP (show n.vals.length=n.keys.length from I),jX,fY,kn,cS,←lp];omega
   .have a:¬((V.len:Int)=(K.len:Int)):=λe=>by rw[e]at a;simp at a
    rw[jq I,mL]
   rintro b w' ⟨rfl,rfl⟩;refine cq (λb w'=>w1=w'/\(b=true↔cH n)) (λq c=>⟨λa=>⟨V,aU,(FG g.vals I).use ?_⟩,λa=>c _ _ ⟨rfl,?_⟩⟩) ?_
   .rintro _ _ ⟨rfl,rfl⟩
    refine⟨_,rfl,c _ _ ⟨rfl,?_⟩⟩;simp only[er,cS]at a;rw[lk,oO];constructor
    .intro s
     exact .inl ⟨E,l,a.1,a.2,λv d=>by have:=s v d;simp at this;omega⟩
    .rintro(hs|hs)
     .intro v d;have:=hs.vals v d;simp;omega
     .have:=hs.inner;rw[l]at this;cases this
   .have a:¬(n.vals.length=n.keys.length/\n.kids=[]):=by simpa using a
    refine⟨λh=>(by cases h),?_⟩;rintro(hs|hs)
    .exact absurd ⟨hs.len,hs.kids⟩ a
    .have:=hs.inner;rw[l]at this;cases this
   rintro b w' ⟨rfl,a⟩;exact⟨b,rfl,a,m⟩
  .refine cq (λb w'=>w1=w'/\b=(decide (n.keys≠ [])&&decide (n.kids.length=n.keys.length+1))) (λq c=>⟨λa=>⟨D,aO,K,aC,c _ _ ⟨rfl,?_⟩⟩,λa=>c _ _ ⟨rfl,?_⟩⟩) ?_
   .have a:=b8 a
    have u:n.keys≠ []:=λe=>by rw[e]at x;simp at x;omega
    rw[dP u,jX,fY,kn,cS,bA I I];omega
   .have a:=cv a
    have u:n.keys=[]:=lp.1 I;rw[jq (λh=>h u),mL]
   rintro b w' ⟨rfl,rfl⟩;refine cq (λb w'=>w1=w'/\b=(decide (n.keys≠ [])&&decide (n.kids.length=n.keys.length+1)&&decide (n.vals=[]))) (λq c=>⟨λa=>⟨V,aU,c _ _ ⟨rfl,?_⟩⟩,λa=>c _ _ ⟨rfl,?_⟩⟩) ?_
   .rw[a,jX,fY,kn,cS,←lp]
    omega
   .rw[a,mL]
   rintro b w' ⟨rfl,rfl⟩;refine cq (λb w'=>w1=w'/\(b=true↔cH n)) (λq c=>⟨λa=>⟨D,aO,(FH g.kids I).use ?_⟩,λa=>c _ _ ⟨rfl,?_⟩⟩) ?_
   .rintro _ _ ⟨rfl,rfl⟩
    refine⟨_,rfl,c _ _ ⟨rfl,?_⟩⟩;simp only[er,cS]at a;rw[lk,oO];constructor
    .intro s
     exact .inr ⟨E,l,a.1.1,a.1.2,a.2,λv d=>by have:=s v d;simp at this;omega⟩
    .rintro(hs|hs)
     .have:=hs.leaf;rw[l]at this;cases this
     .intro v d;have:=hs.kids v d;simp;omega
   .have a:¬((n.keys≠ []/\n.kids.length=n.keys.length+1)/\n.vals=[]):=λe=>by
     rw[dP e.1.1,dP e.1.2,dP e.2]at a;cases a
    refine⟨λh=>(by cases h),?_⟩;rintro(hs|hs)
    .have:=hs.leaf;rw[l]at this;cases this
    .exact absurd ⟨⟨hs.some,hs.len⟩,hs.vals⟩ a
   rintro b w' ⟨rfl,a⟩;exact⟨b,rfl,a,m⟩
theorem FI{w:J}{a b:Y}{c lb:O UInt8}(h:Src 1 w a (aJ c))(i:Src 1 w b (aJ lb))(k:c.length+lb.length<=1000):
 aR aj 92 #[.slice (some w.heap.size) 2 2] (w.alloc (.cells #[a,b] 48)) (λv w'=>∃d:Y,v=d/\bd 1 5 w' d (aJ (c++lb))/\Ext w w'/\gU w d):=by
 have hx:=eS w (.cells #[a,b] 48);refine(vv (s:=⟨some w.heap.size,2,2⟩) [(a,c),(b,lb)] (Src.new w _ 2 rfl) ?_ (by simp[eR];omega) (by simp)).mono ?_
 .intro p f
  simp only[cU,eL,eO]at f;rcases f with rfl|rfl
  .exact h.ext hx
  .exact i.ext hx
 .rintro _ w' ⟨d,rfl,g,j,hf⟩
  have e:eR [(a,c),(b,lb)]=c++lb:=by simp[eR]
  rw[e]at g;exact⟨d,rfl,g,hx.trans j,hf.mono hx.size⟩
theorem FJ{w:J}{a b c:Y}{d lb lc:O UInt8}(i:Src 1 w a (aJ d))(j:Src 1 w b (aJ lb))(hc:Src 1 w c (aJ lc))(l:d.length+lb.length+lc.length<=1000):
 aR aj 92 #[.slice (some w.heap.size) 3 3] (w.alloc (.cells #[a,b,c] 48)) (λv w'=>∃f:Y,v=f/\bd 1 5 w' f (aJ (d++(lb++lc)))/\Ext w w'/\gU w f):=by
 have hx:=eS w (.cells #[a,b,c] 48);refine(vv (s:=⟨some w.heap.size,3,3⟩) [(a,d),(b,lb),(c,lc)] (Src.new w _ 3 rfl) ?_ (by simp[eR];omega) (by simp)).mono ?_
 .intro p g
  simp only[cU,eL,eO]at g;rcases g with rfl|rfl|rfl
  .exact i.ext hx
  .exact j.ext hx
  .exact hc.ext hx
 .rintro _ w' ⟨f,rfl,h,k,hf⟩
  have e:eR [(a,d),(b,lb),(c,lc)]=d++(lb++lc):=by simp[eR]
  rw[e]at h;exact⟨f,rfl,h,hx.trans k,hf.mono hx.size⟩
theorem A6(w:J){n:Nat}(a:n<=255):Src 1 (w.alloc (.cells #[.int .u8 (IntKind.wrap .u8 (n:Int))] 5)) ⟨some w.heap.size,1,1⟩ (aJ [UInt8.ofNat n])/\Ext w (w.alloc (.cells #[.int .u8 (IntKind.wrap .u8 (n:Int))] 5)):=by
 have e:(#[.int .u8 (IntKind.wrap .u8 (n:Int))]:Array aa)=(aJ [UInt8.ofNat n]).toArray:=by
  rw[wW I I];simp[aJ,jI (show n<256 from I)]
 rw[e];exact⟨Src.new w _ 1 rfl,eS _ _⟩
theorem fm{α:Type}{l:O α}{i:Nat}{d:α}(h:i<l.length):l.getD i d=l[i]:=by
 rw[fC,dE h];rfl
theorem cH.k8{n:aD}(h:cH n)(a:n.leaf=true):n.vals.length=n.keys.length:=by
 rcases h with h|h
 .exact h.len
 .have:=h.inner;rw[a]at this;cases this
theorem cH.p7{n:aD}(h:cH n)(a:n.leaf=false):n.kids.length=n.keys.length+1:=by
 rcases h with h|h
 .have:=h.leaf;rw[a]at this;cases this
 .exact h.len
theorem m0{B:Nat->Prop}{w:J}{n:aD}{K V D:Y}(h:bF B w n K V D)(hs:cH n){i:Nat}(hi:i<n.keys.length)(ad:n.keys.length<=100000):
 aR aj 298 #[c2 n K V D,i] w (λv w'=>∃s:Y,v=s/\bd 1 5 w' s (aJ (gS n i))/\Ext w w'/\gU w s):=by
 refine okF (af.m0 n.leaf K V D (i:Int)) aA.m0 func298 ?_;(delta af.m0 U ag aL ba bc ak av r1;dsimp only);refine bh (vs:=[n.leaf,K,V,D]) rfl λw1 r e _=>?_;have u:=cf w1;have Q:=e.trans u;have R:=h.ext Q;obtain⟨bX,aC,aU,aO⟩:=bH (r.ext u);obtain⟨A,t,ar,L,hc,ht,_⟩:=bq.at R.keys hi;have ae:=(hs.keys.ok _ (cF hi)).2;have S:=len8 ht.1;obtain⟨T,x⟩:=A6 w1.drew (n:=t.len) I;refine aW ⟨λ_=>False,id,K,aC,A,ar,L,id,t,hc,id,K,aC,A,ar,L,id,t,hc,aW ⟨x,aW ?_⟩⟩;refine(FI (a:=⟨some w1.drew.heap.size,1,1⟩) (b:=t) T (ht.1.ext x) (by simp;omega)).use ?_;rintro _ y ⟨M,rfl,z,W,ah⟩;have d:=u.trans (x.trans W);obtain⟨d0,d1,d2,d3⟩:=bH (r.ext d);have X: [UInt8.ofNat t.len]++n.keys[i]=m7 (n.keys.getD i []):=by rw[fm hi,S];rfl
 rw[X]at z;have N:=h.ext (e.trans d);refine⟨M,rfl,n.leaf,d0,λf=>?_,λf=>?_⟩
 .have ai:=hs.k8 f
  have C:i<n.vals.length:=by omega
  have g:=cf y;have Z:=N.ext g;obtain⟨al,am,O,an⟩:=bH (r.ext (d.trans g));obtain⟨m,t2,o,p,q,P,_⟩:=bq.at Z.vals C;have ao:=hs.vals _ (cF C);have aa:=len8 P.1;obtain⟨ab,j⟩:=A6 y.drew (n:=t2.len) I;refine aW ⟨λ_=>False,id,V,O,m,o,p,id,t2,q,id,V,O,m,o,p,id,t2,q,aW ⟨j,aW ?_⟩⟩;refine(FJ (a:=M) (b:=⟨some y.drew.heap.size,1,1⟩) (c:=t2) (z.src.ext (g.trans j)) ab (P.1.ext j) (by rw[m8,fm hi];simp;omega)).use ?_;rintro _ ac ⟨l,rfl,E,F,G⟩;refine⟨l,rfl,l,rfl,?_,(e.trans d).trans (g.trans (j.trans F)),G.mono ((e.trans d).trans (g.trans j)).size⟩;have:m7 (n.keys.getD i [])++([UInt8.ofNat t2.len]++n.vals[i])=gS n i:=by
   unfold gS;rw[f,if_pos rfl,fm C,aa];rfl
  rwa[this]at E
 .have ap:=hs.p7 f
  have H:i+1<n.kids.length:=by omega
  obtain⟨m,o,p,q⟩:=cK.at N.kids H;have aq:=hs.kids _ (cF H);rw[bA (n:=(i:Int)+1) I I,show(i:Int)+1=((i+1:Nat):Int) from I];refine⟨D,d3,m,o,p,_,q,?_⟩;rw[gR (n:=((n.kids[i+1]:Nat):Int)) I I];refine(il z.src (n:=n.kids[i+1]) (k:=2) (by rw[m8,fm hi];omega) (by show _<18446744073709551616;omega) ⟨by decide,by decide⟩).use ?_;rintro _ ac ⟨l,rfl,E,F,G⟩;refine⟨l,rfl,l,rfl,?_,(e.trans d).trans F,gU.mono G (e.trans d).size⟩;have:m7 (n.keys.getD i [])++b7 n.kids[i+1] 2=gS n i:=by
   unfold gS;rw[f,if_neg (by simp),fm H]
  rwa[this]at E
theorem vC{n:aD}(hs:cH n){i:Nat}(hi:i<n.keys.length):(gS n i).length<=100:=by
 unfold gS;have:=(hs.keys.ok _ (cF hi)).2;rw[cz,m8,fm hi];split
 .rename_i b
  have a:i<n.vals.length:=by have:=hs.k8 b;omega
  have:=hs.vals _ (cF a);rw[m8,fm a];omega
 .rw[e4];omega
theorem xN{n:aD}(hs:cH n):∀m,m<=n.keys.length->(hV n 0 m).length<=100*m
 |0,_=>by simp[hV]
 |m+1,a=>by
  have:=xN hs m I
  have:=vC hs (i:=m) I
  rw[xD,cz];omega
theorem oa{B:Nat->Prop}{w:J}{n:aD}{K V D:Y}(h:bF B w n K V D)(hs:cH n)(al:n.keys.length<=255):
 aR aj 293 #[c2 n K V D] w (λv w'=>∃s:Y,v=s/\bd 1 5 w' s (aJ (jv n))/\Ext w w'/\gU w s):=by
 refine okF (af.oa n.leaf K V D) aA.oa func293 ?_;(delta af.oa ag U bc ak aL r1 ba av;dsimp only);refine bh (vs:=[n.leaf,K,V,D]) rfl λw1 g l _=>?_;obtain⟨bX,aC,aU,aO⟩:=bH g;have u:=h.ext l;have E:=bq.len u.keys;have F:(#[.int .u8 (IntKind.wrap .u8 (K.len:Int))]:Array aa)=(aJ [UInt8.ofNat n.keys.length]).toArray:=by
  rw[E,wW I I];simp[aJ,jI (show n.keys.length<256 from I)]
 refine⟨K,aC,?_⟩;rw[F];have m:=bd.new (T:=5) (sz:=1) w1 (aJ [UInt8.ofNat n.keys.length]) 1 rfl (by decide);have c:=eS w1 (.cells (aJ [UInt8.ofNat n.keys.length]).toArray 5);obtain⟨ah,G⟩:∃ah,ah=w1.alloc (.cells (aJ [UInt8.ofNat n.keys.length]).toArray 5):=⟨_,rfl⟩;rw[←G]at m c⊢;obtain⟨d0,d1,d2,d3⟩:=bH (g.ext c);have H:=l.trans c;refine aW (cq (λd w'=>bd 1 5 w' d (aJ (preB n))/\Ext ah w'/\gU w1 d) (λq x=>⟨n.leaf,d0,λa=>?_,λa=>x _ _ ⟨?_,.refl _ _,?_⟩⟩) ?_)
 .have a:n.leaf=false:=by simpa using a
  have am:=hs.p7 a;have o:0<n.kids.length:=by omega
  obtain⟨L,M,N,O⟩:=cK.at (h.ext H).kids o;have an:=hs.kids _ (cF o);refine⟨D,d3,L,M,N,_,O,?_⟩;rw[gR (n:=((n.kids[0]:Nat):Int)) I I];refine(il m.src (n:=n.kids[0]) (k:=2) (by simp) (by show _<18446744073709551616;omega) ⟨by decide,by decide⟩).use ?_;rintro _ P ⟨p,rfl,e,b,f⟩;refine⟨p,rfl,x _ _ ⟨?_,b,gU.mono f c.size⟩⟩;have: [UInt8.ofNat n.keys.length]++b7 n.kids[0] 2=preB n:=by
   unfold preB;rw[a,if_neg (by simp),fm o];rfl
  rwa[this]at e
 .have a:n.leaf=true:=by simpa using a
  have:preB n=[UInt8.ofNat n.keys.length]:=by unfold preB;rw[a];rfl
  rw[this];exact m
 .rintro k ⟨A,ar,rfl⟩
  cases ar;exact bl _
 rintro ao ap ⟨Q,R,S⟩;have y:=c.trans R;obtain⟨d0,d1,d2,d3⟩:=bH (g.ext y);have aq:(preB n).length<=3:=by
  unfold preB
  cases n.leaf<;>simp[e4]
 refine⟨K,d1,λd i w'=>∃j:Nat,i=j/\j<=n.keys.length/\bd 1 5 w' d (aJ (preB n++hV n 0 j))/\Ext w1 w'/\gU w1 d,λ_ i _=>((n.keys.length:Int)-i).toNat,⟨0,rfl,cL _,by simpa[hV] using Q,y,S⟩,?_⟩;rintro p _ P ⟨j,rfl,W,e,b,f⟩;refine⟨λaK=>?_,λr=>?_⟩
 .have aK:j<n.keys.length:=by have:=b8 aK;omega
  obtain⟨f0,f1,f2,f3⟩:=bH (g.ext b);refine⟨n.leaf,f0,K,f1,V,f2,D,f3,(m0 (u.ext b) hs aK I).use ?_⟩;rintro _ aw ⟨X,rfl,z,t,ax⟩;have C:=mf e;have Z:=mf z;have b_:=vC hs aK;have bO:=xN hs j W;rw[cz]at C;obtain⟨ab,ac,au,ay,az,ad,ae⟩:=oq.append (cM:=48) z.src (e.ext t) (k6 _) (by rw[C,Z];omega);rw[bA (n:=(j:Int)+1) I I];refine⟨X,rfl,ab,ac,au,⟨j+1,I,I,?_,Ext.dy (b.trans t) ad f,λk ai=>?_⟩,?_⟩
  .rw[xD,←cP,oo];exact ay
  .rcases ae k ai with h|h
   .exact f k h
   .exact eK (b.trans t).size h
  .show((n.keys.length:Int)-((j:Int)+1)).toNat<((n.keys.length:Int)-(j:Int)).toNat
   omega
 .have r:j=n.keys.length:=by have:=cv r;omega
  subst r;exact⟨p,rfl,e,l.trans b,f.mono l.size⟩
theorem n4{B:Nat->Prop}{w:J}{n:aD}{K V D:Y}(h:bF B w n K V D)(hs:cH n)(f:n.keys.length<=255):
 aR aj 280 #[c2 n K V D] w (λv w'=>v=.int .i64 (bM n:Nat)/\Ext w w'):=by
 have g:n.vals.length<=100000:=by
  rcases hs with hs|hs
  .rw[hs.len];omega
  .rw[hs.vals];simp
 have i:n.kids.length<=100000:=by
  rcases hs with hs|hs
  .rw[hs.kids];simp
  .rw[hs.len];omega
 refine okF (af.n4 n.leaf K V D) aA.n4 func280 ?_;(delta af.n4 bc U ag aO ak ba;dsimp only);refine bh (vs:=[n.leaf,K,V,D]) rfl λw1 d a _=>?_;obtain⟨bX,aC,aU,aO⟩:=bH d;refine⟨n.leaf,bX,K,aC,V,aU,D,aO,(j5 (h.ext a) I g i).use ?_⟩;rintro _ ah ⟨b,rfl,j,c⟩;have k:=j.2 hs;subst k;obtain⟨bX,aC,aU,aO⟩:=bH (d.ext c);refine⟨true,rfl,λh=>(by cases h),λ_=>⟨n.leaf,bX,K,aC,V,aU,D,aO,(oa (h.ext (a.trans c)) hs f).use ?_⟩⟩;rintro _ p ⟨l,rfl,m,o,_⟩;have e:=mf m;rw[xG hs]at e;exact⟨l,rfl,by rw[e],(a.trans c).trans o⟩
def A7(n:aD)(w w':J)(v:aa):Prop:=
 (∃s:Y,v=.tuple #[s,(0:Int)]/\bd 1 5 w' s (aJ (jv n))/\gU w s/\cH n/\bM n<=232)\/
 (∃e:Int,v=.tuple #[(),e]/\e≠0/\(cH n->232<bM n))
theorem n3{B:Nat->Prop}{w:J}{n:aD}{K V D:Y}(h:bF B w n K V D)(m:n.keys.length<=100000)(o:n.vals.length<=100000)(p:n.kids.length<=100000):
 aR aj 274 #[c2 n K V D] w (λv w'=>A7 n w w' v/\Ext w w'):=by
 refine okF (af.n3 n.leaf K V D) aA.n3 func274 ?_;(delta af.n3 bc U ag aO ak ba;dsimp only);refine bh (vs:=[n.leaf,K,V,D]) rfl λw1 d e _=>?_;obtain⟨bX,aC,aU,aO⟩:=bH d;refine⟨n.leaf,bX,K,aC,V,aU,D,aO,(j5 (h.ext e) m o p).use ?_⟩;rintro _ ah ⟨b,rfl,f,g⟩;have a:=e.trans g;obtain⟨bX,aC,aU,aO⟩:=bH (d.ext g);have u:=bq.len h.keys;refine⟨b,rfl,cq (λc w'=>ah=w'/\(c=true->cH n->255<n.keys.length)/\(c=false->cH n/\n.keys.length<=255)) (λq i=>⟨λh1=>i _ _ ⟨rfl,λ_ hs=>?_,λh=>(by cases h)⟩,λh1=>⟨K,aC,i _ _ ⟨rfl,λh2 hs=>?_,λh2=>?_⟩⟩⟩) ?_⟩
 .have h1:b=false:=by simpa using h1
  rw[f.2 hs]at h1;cases h1
 .have:=b8 h2;omega
 .have h1:b=true:=by simpa using h1
  have:=cv h2;exact⟨f.1 h1,I⟩
 rintro c w' ⟨rfl,au,ay⟩;refine⟨λh1=>⟨.inr ⟨4,rfl,by decide,λhs=>?_⟩,a⟩,λh1=>?_⟩
 .have:=au h1 hs
  have:=vo hs;omega
 obtain⟨hs,r⟩:=ay h1;refine⟨n.leaf,bX,K,aC,V,aU,D,aO,(oa (h.ext a) hs r).use ?_⟩;rintro _ x ⟨j,rfl,k,l,s⟩;have t:=mf k;rw[xG hs]at t;refine⟨j,rfl,λh2=>⟨.inr ⟨10,rfl,by decide,λ_=>?_⟩,a.trans l⟩,λh2=>⟨.inl ⟨j,rfl,k,s.mono a.size,hs,?_⟩,a.trans l⟩⟩
 .have:=b8 h2;omega
 .have:=cv h2;omega
theorem pS{B:Nat->Prop}{w:J}{n:aD}{K V D:Y}(h:bF B w n K V D)(d:n.keys.length<=100000)(f:n.vals.length<=100000)(g:n.kids.length<=100000):
 aR aj 295 #[c2 n K V D] w (λv w'=>A7 n w w' v/\Ext w w'):=by
 refine okF (af.pS n.leaf K V D) aA.pS func295 ?_;(delta af.pS bc U ag cc;dsimp only);refine bh (vs:=[n.leaf,K,V,D]) rfl λw1 i a _=>?_;obtain⟨bX,aC,aU,aO⟩:=bH i;refine⟨n.leaf,bX,K,aC,V,aU,D,aO,(n3 (h.ext a) d f g).use ?_⟩;rintro _ ah ⟨j,c⟩;rcases j with ⟨s,rfl,k,hf,hs,b⟩|⟨e,rfl,he,b⟩
 .exact⟨s,0,rfl,.inl ⟨s,rfl,k,hf.mono a.size,hs,b⟩,a.trans c⟩
 .exact⟨⟨none,0,0⟩,e,rfl,.inr ⟨e,rfl,he,b⟩,a.trans c⟩
theorem dN{w:J}{b i:Nat}{vs:O aa}{T:TypeId}(h:Var w b vs T)(v:aa):Var (w.setCell ⟨b,i,none⟩ v) b (vs.set i v) T:=by
 have:=bz.set h i v;have e:vs.toArray.setIfInBounds i v=(vs.set i v).toArray:=by simp
 rw[e]at this;exact this
theorem dI{w:J}{b i:Nat}{vs:O aa}{T:TypeId}(h:Var w b vs T)(hi:i<vs.length):(∃u:aa,w.cell? ⟨b,i,none⟩=some u)/\w.frozen? ⟨b,i,none⟩=false:=
 ⟨⟨vs[i],by rw[h.cell];simp[hi]⟩,bz.frozen h _ rfl⟩
theorem dk(w:J)(b i:Nat)(v:aa):ad (λq=>q=b) w (w.setCell ⟨b,i,none⟩ v):=ad.gS (.refl _ _) v
structure jw(w:J)(r:Nat)(s:Y)(rd:Rd):Prop where
 v:Var w r [s,rd.2] 354
 src:Src 1 w s (aJ rd.1)
 le:s.len<=s.cap
 ne:∀k,aB s k->k≠r
theorem jw.ab{W:Nat->Prop}{w w':J}{r:Nat}{s:Y}{rd:Rd}(h:jw w r s rd)(hc:ad W w w')(h1:¬W r)(h2:∀k,aB s k->¬W k):jw w' r s rd:=⟨h.v.ab hc h1,h.src.ab hc h2,h.le,h.ne⟩
theorem jw.ext{w w':J}{r:Nat}{s:Y}{rd:Rd}(h:jw w r s rd)(hc:Ext w w'):jw w' r s rd:=jw.ab h hc id λ_ _ h=>h
theorem vD{a:aq ae}{z l m n c k:Nat}(h:aB ⟨aP a z l m,n,c⟩ k):∃A,a=some A/\A.block=k:=by
 obtain⟨A,ar,rfl⟩:=h;unfold aP at ar;split at ar
 .exact⟨A,ar,rfl⟩
 .cases b:a with
  |none=>rw[b]at ar;cases ar
  |some d=>
   rw[b]at ar;simp only[lq,Option.some.injEq]at ar;exact⟨d,rfl,by subst ar;unfold Addr.add;split<;>rfl⟩
theorem A8{w:J}{r:Nat}{s:Y}{rd:Rd}(h:jw w r s rd)(k:Nat)(z:k<=100000)(u:rd.1.length<=100000):
 aR aj 292 #[.pointer (some r),k] w (λv w'=>∃t m:Y,v=t/\a_ (λq=>w.heap.size<=q) w' t (hW rd k).1/\jw w' r m (hW rd k).2/\ad (λq=>q=r) w w'/\(∀q,aB m q->aB s q)):=by
 obtain⟨l,ok⟩:=rd;have f:=h.v;have x:=len8 h.src;simp only at x u f;have aK:=f.lt;refine okF (af.u5 (some r) (k:Int)) aA.u5 func292 ?_;(delta af.u5 bc ak ag st ba;dsimp only);refine⟨_,rfl,ok,by rw[aw];exact f.cell,cq (λb w'=>w=w'/\b=decide (ok=false\/l.length<k)) (λq c=>⟨λh1=>c _ _ ⟨rfl,?_⟩,λh1=>⟨_,rfl,s,f.cell,c _ _ ⟨rfl,?_⟩⟩⟩) ?_⟩
 .have h1:ok=false:=by simpa using h1
  exact(dP (.inl h1)).symm
 .have h1:ok=true:=by simpa using h1
  subst h1;rw[fY,cS,cS];constructor
  .intro h;exact .inr I
  .rintro(h|h)
   .cases h
   .omega
 rintro b w' ⟨rfl,rfl⟩;refine⟨λd=>⟨_,rfl,?_⟩,λd=>⟨_,rfl,s,f.cell,?_⟩⟩
 .have d:=b8 d
  obtain⟨au,ay⟩:=dI f (i:=1) (by simp);rw[aw];have hc:=dk w r 1 false;have e:hW (l,ok) k=([],(l,false)):=by unfold hW;rw[if_pos d]
  rw[e];refine⟨au,ay,aW ⟨⟨none,0,0⟩,s,rfl,⟨(bd.none 1 5 _).src,bl _,λq c=>(gk q c).elim⟩,⟨dN f _,h.src.ab hc λq c=>h.ne q c,h.le,h.ne⟩,hc,λq c=>c⟩⟩
 .have d:=cv d
  have e:hW (l,ok) k=(l.take k,(l.drop k,true)):=by unfold hW;rw[if_neg d]
  have C:k<=l.length:=by
   rcases dO l.length k with h1|h1
   .exact absurd (.inr h1) d
   .exact h1
  have y:ok=true:=by
   cases ok with
   |true=>rfl
   |false=>exact absurd (.inl rfl) d
  subst y;rw[e];have D:=h.le;refine⟨⟨I,I⟩,?_⟩;have n:=na h.src h.le (lo:=0) (hi:=k) I I;rw[lv,oP]at n;rw[dd,oP];refine(kF (B:=λq=>w.heap.size<=q) (s:=⟨aP s.a 1 0 s.cap,k,s.cap-0⟩) n (by rw[cG];omega) (λq c=>c)).use ?_;rintro _ w1 ⟨t,rfl,ht,g,E⟩;have j:=f.ext g;obtain⟨au,ay⟩:=dI j (i:=0) (by simp);have hc:=dk w1 r 0 (.slice (aP s.a 1 k s.cap) (s.len-k) (s.cap-k));have o:=na (h.src.ext g) h.le (lo:=k) (hi:=s.len) I (bl _);rw[dV (l:=l.drop k) (by rw[da];omega)]at o;have p:∀q,aB ⟨aP s.a 1 k s.cap,s.len-k,s.cap-k⟩ q->q≠r:=λq c=>by
   obtain⟨A,ar,d⟩:=vD c;exact h.ne q ⟨A,ar,d⟩
  refine⟨t,rfl,_,rfl,s,j.cell,⟨I,I⟩,_,rfl,au,ay,aW ⟨t,⟨aP s.a 1 k s.cap,s.len-k,s.cap-k⟩,rfl,a_.ab ht hc (λq c e=>by subst e;omega),⟨dN j _,o.ab hc λq c=>p q c,by show s.len-k<=s.cap-k;omega,p⟩,(ad.cJ g).trans hc,λq c=>?_⟩⟩;obtain⟨A,ar,d⟩:=vD c;exact⟨A,ar,d⟩
theorem xO{w:J}{r:Nat}{s:Y}{rd:Rd}(h:jw w r s rd)(k:Nat)(c:1<=k/\k<=2)(g:rd.1.length<=100000):
 aR aj 272 #[.pointer (some r),k] w (λv w'=>∃b:Y,v=.int .i64 ((rdNum rd k).1:Nat)/\jw w' r b (rdNum rd k).2/\ad (λq=>q=r) w w'/\(∀q,aB b q->aB s q)):=by
 refine okF (af.uZ (some r) (k:Int)) aA.uZ func272 ?_;(delta af.uZ ba k1 av;dsimp only);refine(A8 h k I g).use ?_;rintro _ w1 ⟨t,b,rfl,ht,d,hc,e⟩;have hlen:(hW rd k).1.length=k\/(hW rd k).1=[]:=by
  unfold hW;split
  .exact .inr rfl
  .rename_i i
   left;rw[cG];have:¬rd.1.length<k:=λh=>i (.inr h);omega
 have f:=m6 k (hW rd k).1;have j:256^k<=65536:=eK (so I c.2) (by decide);refine⟨t,rfl,?_⟩;rcases hlen with hlen|hlen
 .refine(k2 (a:=0) (k:=k) ht.1 ht.2.1 ⟨c.1,I⟩ I I).use ?_
  rintro _ _ ⟨rfl,rfl⟩;have f:=f hlen;rw[lv,dV I];refine⟨_,_,rfl,b,?_,d,hc,e⟩;rw[bA I I];unfold rdNum;rw[if_pos hlen]
 .refine(Fy (k:=k) ht.1 I (by rw[hlen];simp;omega)).use ?_
  rintro _ _ ⟨rfl,rfl⟩;refine⟨_,_,rfl,b,?_,d,hc,e⟩;unfold rdNum;rw[if_neg (by rw[hlen];simp;omega)];rfl
theorem xP(rd:Rd)(k:Nat):(rdNum rd k).1<256^k:=by
 unfold rdNum;split
 .exact m6 k _ (by assumption)
 .exact Nat.pow_pos I
theorem A9(rd:Rd)(k:Nat):(hW rd k).2.1.length<=rd.1.length/\(hW rd k).1.length<=k:=by
 unfold hW;split
 .exact⟨bl _,cL _⟩
 .exact⟨by rw[da];omega,by rw[cG];omega⟩
theorem vE(rd:Rd)(k:Nat):(rdNum rd k).2.1.length<=rd.1.length:=(A9 rd k).1
theorem A_(rd:Rd):(jN rd).2.1.length<=rd.1.length/\(jN rd).1.length<=255:=by
 unfold jN;have h1:=A9 (rdNum rd 1).2 (rdNum rd 1).1;have h2:=vE rd 1;have a:(rdNum rd 1).1<256:=xP rd 1;exact⟨I,I⟩
theorem Ba{w:J}{r:Nat}{s:Y}{rd:Rd}(h:jw w r s rd)(d:rd.1.length<=100000):
 aR aj 273 #[.pointer (some r)] w (λv w'=>∃t b:Y,v=t/\a_ (λq=>w.heap.size<=q) w' t (jN rd).1/\jw w' r b (jN rd).2/\ad (λq=>q=r) w w'/\(∀q,aB b q->aB s q)):=by
 refine okF (af.u0 (some r)) aA.u0 func273 ?_;(delta af.u0 aC ba;dsimp only);refine(xO h 1 I d).use ?_;rintro _ w1 ⟨s1,rfl,e,c,f⟩;have k:(rdNum rd 1).1<256:=xP rd 1;have l:=vE rd 1;refine⟨_,rfl,(A8 e (rdNum rd 1).1 I I).use ?_⟩;rintro _ ah ⟨t,s2,rfl,ht,g,i,j⟩;exact⟨t,rfl,t,s2,rfl,a_.aY ht λq _ a=>eK c.size a,g,c.trans i,λq a=>f q (j q a)⟩
theorem bu.aY{B C:Nat->Prop}{w:J}{s:Y}{ls:O Key}(h:bu B w s ls)(a:∀k,k<w.heap.size->B k->C k):bu C w s ls:=by
 obtain⟨ts,h1,h2,e,b⟩:=h;exact⟨ts,h1,h2,In.aY e a,λi c d=>⟨a_.aY (b i c d).1 a,(b i c d).2⟩⟩
theorem cR.aY{B C:Nat->Prop}{w:J}{s:Y}{ds:O Nat}(h:cR B w s ds)(a:∀k,k<w.heap.size->B k->C k):cR C w s ds:=⟨h.1,In.aY h.2 a⟩
def Grow(B:Nat->Prop)(w w':J)(q:Nat):Prop:=B q\/(w.heap.size<=q/\q<w'.heap.size)
theorem vF{w:J}{nb o:Nat}{vs:O aa}{S t:Y}{ls:O Key}{l:Key}{B:Nat->Prop}{T:TypeId}{W:Nat->Prop}(d:Var w nb vs T)(p:o<vs.length)(f:bu B w S ls)(g:¬B nb)
 (ht:a_ B w t l) (hd:∀k,aB t k->¬aB S k) (D:ls.length<=100000) {K:J->Prop}
 (r:∀ (w':J) (ax:Y),Var w' nb (vs.set o ax) T->bu (Grow B w w') w' ax (ls++ [l])->ad (λq=>q=nb\/aB S q) w w'->K w'):
 al (w.alloc (.cells #[t] 48)) λi=>ad W w i/\∃j:Y,∃b:J,Sem.run aj (Builtin.append_ #[127,127] 127 #[S,.slice (some w.heap.size) 1 1]) i=.ok j b/\
  (∃u:aa,b.cell? (Addr.add nb o)=some u)/\b.frozen? (Addr.add nb o)=false/\al (b.setCell (Addr.add nb o) j) λs=>K s:=by
 have v:=bu.aY (C:=λq=>B q\/w.heap.size<=q) f λk _ h=>.inl h;have x:=a_.aY (C:=λq=>B q\/w.heap.size<=q) ht λk _ h=>.inl h;obtain⟨c,w',au,ay,m,E⟩:=A4 v x hd I λk a=>.inr a;have F:=d.lt;have y:¬aB S nb:=λh=>by
  obtain⟨ts,_,_,z,_⟩:=f;exact g (z nb h).1
 have n:=d.ab m y;obtain⟨aC,aU⟩:=dI n p;refine aW ⟨ad.cJ (eS _ _),c,w',au,?_⟩;rw[aw,cy];have hc:=dk w' nb o c;refine⟨aC,aU,aW (r _ c (dN n _) ?_ ?_)⟩
 .have A:=bu.aY (C:=Grow B w (w'.setCell ⟨nb,o,none⟩ c)) ay λk a h=>by
   rcases h with h|h
   .exact .inl h
   .exact .inr ⟨h,fU a hc.size⟩
  refine bu.ab A hc λk a e=>?_;subst e;rcases a with h|h
  .exact g h
  .omega
 .exact(m.mono λk _ h=>.inr h).trans (hc.mono λk _ h=>.inl h)
theorem Bb{w:J}{nb o:Nat}{vs:O aa}{S:Y}{ds:O Nat}(d:Nat){B:Nat->Prop}{T:TypeId}{W:Nat->Prop}(f:Var w nb vs T)(p:o<vs.length)(g:cR B w S ds)(i:¬B nb)
 (y:ds.length<=100000) {K:J->Prop}
 (r:∀ (w':J) (ax:Y),Var w' nb (vs.set o ax) T->cR (Grow B w w') w' ax (ds++ [d])->ad (λq=>q=nb\/aB S q) w w'->K w'):
 al (w.alloc (.cells #[d] 3)) λj=>ad W w j/\∃l:Y,∃b:J,Sem.run aj (Builtin.append_ #[58,58] 58 #[S,.slice (some w.heap.size) 1 1]) j=.ok l b/\
  (∃u:aa,b.cell? (Addr.add nb o)=some u)/\b.frozen? (Addr.add nb o)=false/\al (b.setCell (Addr.add nb o) l) λs=>K s:=by
 have t:=cR.aY (C:=λq=>B q\/w.heap.size<=q) g λk _ h=>.inl h;obtain⟨c,w',au,ay,m,z⟩:=FF d t I λk a=>.inr a;have A:=f.lt;have v:¬aB S nb:=λh=>i (g.2 nb h).1;have n:=f.ab m v;obtain⟨aC,aU⟩:=dI n p;refine aW ⟨ad.cJ (eS _ _),c,w',au,?_⟩;rw[aw,cy];have hc:=dk w' nb o c;refine⟨aC,aU,aW (r _ c (dN n _) ?_ ?_)⟩
 .have x:=cR.aY (C:=Grow B w (w'.setCell ⟨nb,o,none⟩ c)) ay λk a h=>by
   rcases h with h|h
   .exact .inl h
   .exact .inr ⟨h,fU a hc.size⟩
  refine cR.ab x hc λk a e=>?_;subst e;rcases a with h|h
  .exact i h
  .omega
 .exact(m.mono λk _ h=>.inr h).trans (hc.mono λk _ h=>.inl h)
structure j8(lo:Nat)(w:J)(r nb:Nat)(s:Y)(m:aD×Rd)(K V D:Y)(bT b6 bN:Nat->Prop):Prop where
 v:Var w nb [m.1.leaf,K,V,D] 202
 rd:jw w r s m.2
 keys:bu bT w K m.1.keys
 vals:bu b6 w V m.1.vals
 kids:cR bN w D m.1.kids
 bo:∀q,bT q->lo<=q/\q<w.heap.size/\¬b6 q/\¬bN q
 bv:∀q,b6 q->lo<=q/\q<w.heap.size/\¬bN q
 aL:∀q,bN q->lo<=q/\q<w.heap.size
 hs:∀q,aB s q->q<lo/\q≠nb
 ou:r<lo
 ov:nb<lo
 j9:r≠nb
 ow:m.2.1.length<=100000
def ox(lo r nb:Nat)(q:Nat):Prop:=q=r\/q=nb\/lo<=q
theorem j8.drew{lo:Nat}{w:J}{r nb:Nat}{s:Y}{m:aD×Rd}{K V D:Y}{bT b6 bN:Nat->Prop}(h:j8 lo w r nb s m K V D bT b6 bN):j8 lo w.drew r nb s m K V D bT b6 bN:=
 ⟨h.v.ext (cf w),h.rd.ext (cf w),bu.ext h.keys (cf w),bu.ext h.vals (cf w),cR.ext h.kids (cf w),h.bo,h.bv,h.aL,h.hs,h.ou,h.ov,h.j9,h.ow⟩
theorem Bc{leaf:ai}:∀ (s:aD×Rd) (i:Nat),s.1.leaf=leaf->(iq s i).1.leaf=leaf
 |_,0,h=>h
 |s,i+1,h=>by
  have a:=Bc s i h
  rw[iq]
  unfold ot
  split
  .exact a
  .exact a
theorem Bd:∀ (s:aD×Rd) (i:Nat),(iq s i).1.keys.length=s.1.keys.length+i/\(iq s i).1.vals.length<=s.1.vals.length+i/\(iq s i).1.kids.length<=s.1.kids.length+i
 |_,0=>⟨rfl,bl _,bl _⟩
 |s,i+1=>by
  obtain⟨h1,h2,a⟩:=Bd s i
  rw[iq]
  unfold ot
  split<;>simp<;>omega
theorem FK{lo:Nat}{w:J}{r nb:Nat}{s:Y}{m:aD×Rd}{K V D:Y}{bT b6 bN:Nat->Prop}(h:j8 lo w r nb s m K V D bT b6 bN)(ae:lo<=w.heap.size)(G:m.1.keys.length<=100000){R:J->Prop}
 (H:∀ (w':J) (l n:Y) (L:Nat->Prop),j8 lo w' r nb n (⟨m.1.leaf,m.1.keys++ [(jN m.2).1],m.1.vals,m.1.kids⟩,(jN m.2).2) l V D L b6 bN->ad (ox lo r nb) w w'->lo<=w'.heap.size->R w'):
 al w.drew λp=>∃x:Nat->Prop,¬x (Addr.add nb 1).block/\∃i:Y,p.cell? (Addr.add nb 1)=some (.slice i.a i.len i.cap)/\
  Calls aj 273 #[.pointer (some r)] p λM d=>∃C:Y,M=.returned C/\ad x p d/\
  al (d.alloc (.cells #[C] 48)) λE=>ad x d E/\∃F:Y,∃j:J,Sem.run aj (Builtin.append_ #[127,127] 127 #[i,.slice (some d.heap.size) 1 1]) E=.ok F j/\
  (∃u:aa,j.cell? (Addr.add nb 1)=some u)/\j.frozen? (Addr.add nb 1)=false/\al (j.setCell (Addr.add nb 1) F) λN=>R N:=by
 have hd:=h.drew;have af:=h.ou;have ag:=h.ov;obtain⟨bX,aC,aU,aO⟩:=bH hd.v;refine aW ⟨λq=>q=r,λe=>h.j9 (by rw[aw]at e;exact e.symm),K,aC,(Ba hd.rd hd.ow).use ?_⟩;rintro _ d ⟨t,n,rfl,ht,O,hc,y⟩;have ah:w.drew.heap.size=w.heap.size:=rfl;have P:=hc.size;have z:∀ {B:Nat->Prop},(∀q,B q->lo<=q)->∀k,B k->¬(k=r):=λQ k c e=>by have:=Q k c;omega
 have S:=bu.ab hd.keys hc (z λq b=>(h.bo q b).1);have T:=bu.ab hd.vals hc (z λq b=>(h.bv q b).1);have U:=cR.ab hd.kids hc (z λq b=>(h.aL q b).1);have W:=hd.v.ab hc (λe=>h.j9 e.symm);refine⟨t,rfl,hc,vF (B:=Grow bT w.drew d) W (o:=1) (by simp) (bu.aY S λk _ h=>.inl h) ?_ (a_.aY ht λk c h=>.inr ⟨h,c⟩) ?_ G λw' l au ay f=>?_⟩
 .rintro(h1|h1)
  .have:=(h.bo nb h1).1;omega
  .omega
 .intro k X Z
  obtain⟨ts,_,_,A,_⟩:=h.keys;have:=(A k Z).2;have:=(ht.2.2 k X).1;omega
 have ac:∀q,Grow (Grow bT w.drew d) d w' q->bT q\/(w.heap.size<=q/\q<w'.heap.size):=by
  rintro q ((h1|h1)|h1)
  .exact .inl h1
  .exact .inr ⟨h1.1,fU h1.2 f.size⟩
  .exact .inr ⟨eK P h1.1,h1.2⟩
 have hg:=f.size;have g:∀q,aB K q->bT q:=λq b=>by
  obtain⟨ts,_,_,A,_⟩:=h.keys;exact(A q b).1
 refine H w' l n (λq=>bT q\/(w.heap.size<=q/\q<w'.heap.size)) ⟨by simpa using au,O.ab f ?_ ?_,bu.aY ay λk _ c=>ac k c,bu.ab T f ?_,cR.ab U f ?_,?_,λq b=>?_,λq b=>?_,λq b=>h.hs q (y q b),h.ou,h.ov,h.j9,eK (A_ m.2).1 h.ow⟩ ?_ I
 .rintro(h1|h1)
  .exact h.j9 h1
  .have:=(h.bo r (g r h1)).1;omega
 .rintro q b (h1|h1)
  .exact(h.hs q (y q b)).2 h1
  .have:=(h.bo q (g q h1)).1
   have:=(h.hs q (y q b)).1;omega
 .rintro q b (h1|h1)
  .have:=(h.bv q b).1;omega
  .exact(h.bo q (g q h1)).2.2.1 b
 .rintro q b (h1|h1)
  .have:=(h.aL q b).1;omega
  .exact(h.bo q (g q h1)).2.2.2 b
 .rintro q (h1|h1)
  .have:=h.bo q h1;exact⟨this.1,I,this.2.2⟩
  .exact⟨I,h1.2,λh2=>by have:=h.bv q h2;omega,λh2=>by have:=h.aL q h2;omega⟩
 .have:=h.bv q b;exact⟨this.1,I,this.2.2⟩
 .have:=h.aL q b;exact⟨this.1,I⟩
 .refine((ad.cJ (cf w)).trans (hc.mono λk _ c=>.inl c)).trans (f.mono λk _ c=>?_)
  rcases c with c|c
  .exact .inr (.inl c)
  .exact .inr (.inr (h.bo k (g k c)).1)
theorem FL{lo:Nat}{w:J}{r nb:Nat}{s:Y}{m:aD×Rd}{K V D:Y}{bT b6 bN:Nat->Prop}(h:j8 lo w r nb s m K V D bT b6 bN)(ae:lo<=w.heap.size)(G:m.1.vals.length<=100000){R:J->Prop}
 (H:∀ (w':J) (l n:Y) (L:Nat->Prop),j8 lo w' r nb n (⟨m.1.leaf,m.1.keys,m.1.vals++ [(jN m.2).1],m.1.kids⟩,(jN m.2).2) K l D bT L bN->ad (ox lo r nb) w w'->lo<=w'.heap.size->R w'):
 al w.drew λp=>∃x:Nat->Prop,¬x (Addr.add nb 2).block/\∃i:Y,p.cell? (Addr.add nb 2)=some (.slice i.a i.len i.cap)/\
  Calls aj 273 #[.pointer (some r)] p λM d=>∃C:Y,M=.returned C/\ad x p d/\
  al (d.alloc (.cells #[C] 48)) λE=>ad x d E/\∃F:Y,∃j:J,Sem.run aj (Builtin.append_ #[127,127] 127 #[i,.slice (some d.heap.size) 1 1]) E=.ok F j/\
  (∃u:aa,j.cell? (Addr.add nb 2)=some u)/\j.frozen? (Addr.add nb 2)=false/\al (j.setCell (Addr.add nb 2) F) λN=>R N:=by
 have hd:=h.drew;have af:=h.ou;have ag:=h.ov;obtain⟨bX,aC,aU,aO⟩:=bH hd.v;refine aW ⟨λq=>q=r,λe=>h.j9 (by rw[aw]at e;exact e.symm),V,aU,(Ba hd.rd hd.ow).use ?_⟩;rintro _ d ⟨t,n,rfl,ht,O,hc,y⟩;have ah:w.drew.heap.size=w.heap.size:=rfl;have P:=hc.size;have z:∀ {B:Nat->Prop},(∀q,B q->lo<=q)->∀k,B k->¬(k=r):=λQ k c e=>by have:=Q k c;omega
 have S:=bu.ab hd.keys hc (z λq b=>(h.bo q b).1);have T:=bu.ab hd.vals hc (z λq b=>(h.bv q b).1);have U:=cR.ab hd.kids hc (z λq b=>(h.aL q b).1);have W:=hd.v.ab hc (λe=>h.j9 e.symm);refine⟨t,rfl,hc,vF (B:=Grow b6 w.drew d) W (o:=2) (by simp) (bu.aY T λk _ h=>.inl h) ?_ (a_.aY ht λk c h=>.inr ⟨h,c⟩) ?_ G λw' l au ay f=>?_⟩
 .rintro(h1|h1)
  .have:=(h.bv nb h1).1;omega
  .omega
 .intro k X Z
  obtain⟨ts,_,_,A,_⟩:=h.vals;have:=(A k Z).2;have:=(ht.2.2 k X).1;omega
 have ac:∀q,Grow (Grow b6 w.drew d) d w' q->b6 q\/(w.heap.size<=q/\q<w'.heap.size):=by
  rintro q ((h1|h1)|h1)
  .exact .inl h1
  .exact .inr ⟨h1.1,fU h1.2 f.size⟩
  .exact .inr ⟨eK P h1.1,h1.2⟩
 have hg:=f.size;have g:∀q,aB V q->b6 q:=λq b=>by
  obtain⟨ts,_,_,A,_⟩:=h.vals;exact(A q b).1
 refine H w' l n (λq=>b6 q\/(w.heap.size<=q/\q<w'.heap.size)) ⟨by simpa using au,O.ab f ?_ ?_,bu.ab S f ?_,bu.aY ay λk _ c=>ac k c,cR.ab U f ?_,λq b=>?_,?_,λq b=>?_,λq b=>h.hs q (y q b),h.ou,h.ov,h.j9,eK (A_ m.2).1 h.ow⟩ ?_ I
 .rintro(h1|h1)
  .exact h.j9 h1
  .have:=(h.bv r (g r h1)).1;omega
 .rintro q b (h1|h1)
  .exact(h.hs q (y q b)).2 h1
  .have:=(h.bv q (g q h1)).1
   have:=(h.hs q (y q b)).1;omega
 .rintro q b (h1|h1)
  .have:=(h.bo q b).1;omega
  .exact(h.bo q b).2.2.1 (g q h1)
 .rintro q b (h1|h1)
  .have:=(h.aL q b).1;omega
  .exact(h.bv q (g q h1)).2.2 b
 .have:=h.bo q b
  refine⟨this.1,I,?_,this.2.2.2⟩;rintro(h1|h1)
  .exact this.2.2.1 h1
  .omega
 .rintro q (h1|h1)
  .have:=h.bv q h1;exact⟨this.1,I,this.2.2⟩
  .exact⟨I,h1.2,λh2=>by have:=h.aL q h2;omega⟩
 .have:=h.aL q b;exact⟨this.1,I⟩
 .refine((ad.cJ (cf w)).trans (hc.mono λk _ c=>.inl c)).trans (f.mono λk _ c=>?_)
  rcases c with c|c
  .exact .inr (.inl c)
  .exact .inr (.inr (h.bv k (g k c)).1)
theorem Be{lo:Nat}{w:J}{r nb:Nat}{s:Y}{m:aD×Rd}{K V D:Y}{bT b6 bN:Nat->Prop}(h:j8 lo w r nb s m K V D bT b6 bN)(T:lo<=w.heap.size)(A:m.1.kids.length<=100000){R:J->Prop}
 (C:∀ (w':J) (az l:Y) (E:Nat->Prop),j8 lo w' r nb l (⟨m.1.leaf,m.1.keys,m.1.vals,m.1.kids++ [(rdNum m.2 2).1]⟩,(rdNum m.2 2).2) K V az bT b6 E->ad (ox lo r nb) w w'->lo<=w'.heap.size->R w'):
 al w.drew λn=>∃p:Nat->Prop,¬p (Addr.add nb 3).block/\∃i:Y,n.cell? (Addr.add nb 3)=some (.slice i.a i.len i.cap)/\
  Calls aj 272 #[.pointer (some r),(2:Int)] n λF d=>∃n30:Int,F=.returned n30/\ad p n d/\
  al (d.alloc (.cells #[n30] 3)) λy=>ad p d y/\∃z:Y,∃j:J,Sem.run aj (Builtin.append_ #[58,58] 58 #[i,.slice (some d.heap.size) 1 1]) y=.ok z j/\
  (∃u:aa,j.cell? (Addr.add nb 3)=some u)/\j.frozen? (Addr.add nb 3)=false/\al (j.setCell (Addr.add nb 3) z) λG=>R G:=by
 have hd:=h.drew;have U:=h.ou;have W:=h.ov;obtain⟨bX,aC,aU,aO⟩:=bH hd.v;refine aW ⟨λq=>q=r,λe=>h.j9 (by rw[aw]at e;exact e.symm),D,aO,(xO hd.rd 2 (by decide) hd.ow).use ?_⟩;rintro _ d ⟨l,rfl,H,hc,t⟩;have X:w.drew.heap.size=w.heap.size:=rfl;have L:=hc.size;have x:∀ {B:Nat->Prop},(∀q,B q->lo<=q)->∀k,B k->¬(k=r):=λM k c e=>by have:=M k c;omega
 have N:=bu.ab hd.keys hc (x λq b=>(h.bo q b).1);have O:=bu.ab hd.vals hc (x λq b=>(h.bv q b).1);have P:=cR.ab hd.kids hc (x λq b=>(h.aL q b).1);have Q:=hd.v.ab hc (λe=>h.j9 e.symm);refine⟨_,rfl,hc,Bb (rdNum m.2 2).1 (B:=bN) Q (o:=3) (by simp) P (λh1=>by have:=(h.aL nb h1).1;omega) A λw' az au ay f=>?_⟩;have S:∀q,Grow bN d w' q->bN q\/(w.heap.size<=q/\q<w'.heap.size):=by
  rintro q (h1|h1)
  .exact .inl h1
  .exact .inr ⟨eK L h1.1,h1.2⟩
 have hg:=f.size;have g:∀q,aB D q->bN q:=λq b=>(h.kids.2 q b).1;refine C w' az l (λq=>bN q\/(w.heap.size<=q/\q<w'.heap.size)) ⟨by simpa using au,H.ab f ?_ ?_,bu.ab N f ?_,bu.ab O f ?_,cR.aY ay λk _ c=>S k c,λq b=>?_,λq b=>?_,?_,λq b=>h.hs q (t q b),h.ou,h.ov,h.j9,eK (vE m.2 2) h.ow⟩ ?_ I
 .rintro(h1|h1)
  .exact h.j9 h1
  .have:=(h.aL r (g r h1)).1;omega
 .rintro q b (h1|h1)
  .exact(h.hs q (t q b)).2 h1
  .have:=(h.aL q (g q h1)).1
   have:=(h.hs q (t q b)).1;omega
 .rintro q b (h1|h1)
  .have:=(h.bo q b).1;omega
  .exact(h.bo q b).2.2.2 (g q h1)
 .rintro q b (h1|h1)
  .have:=(h.bv q b).1;omega
  .exact(h.bv q b).2.2 (g q h1)
 .have:=h.bo q b
  refine⟨this.1,I,this.2.2.1,?_⟩;rintro(h1|h1)
  .exact this.2.2.2 h1
  .omega
 .have:=h.bv q b
  refine⟨this.1,I,?_⟩;rintro(h1|h1)
  .exact this.2.2 h1
  .omega
 .rintro q (h1|h1)
  .have:=h.aL q h1;exact⟨this.1,I⟩
  .exact⟨I,h1.2⟩
 .refine((ad.cJ (cf w)).trans (hc.mono λk _ c=>.inl c)).trans (f.mono λk _ c=>?_)
  rcases c with c|c
  .exact .inr (.inl c)
  .exact .inr (.inr (h.aL k (g k c)).1)
end Go.Proofs.YtkdhdlfonmgheaaGreat
