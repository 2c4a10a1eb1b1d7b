/- Contracts of the functions that the statement reaches, and the plain laws over them; each theorem stands with its conditions. -/
import Derived.Laws.Externs
import Derived.Laws.Small
import Derived.Lib.Builder
import Derived.Lib.Bytealg
import Derived.Lib.ConvBytes
import Derived.Lib.MakeNoZero
import Derived.Lib.SlBytesConst
import Derived.Lib.UnsafeStr
import Derived.Test.YtkdhdlfonmgheaaGreatVFails2
namespace Go.Proofs.YtkdhdlfonmgheaaGreat
abbrev Key:=O UInt8
abbrev aI:=Key×Key
def eH:Key->Key->Int
 | [],[]=>0
 | [],_::_=> -1
 |_::_,[]=>1
 |a::x,b::y=>if a.toNat<b.toNat then -1 else if b.toNat<a.toNat then 1 else eH x y
theorem EU{a b:UInt8}(h1:¬a.toNat<b.toNat)(h2:¬b.toNat<a.toNat):a=b:=UInt8.toNat_inj.1 I
theorem xl:∀a:Key,eH a a=0
 | []=>rfl
 |a::x=>by simp[eH,xl x]
theorem xm:∀ {a b:Key},eH a b=0->a=b
 | [],[],_=>rfl
 | [],_::_,h=>by simp[eH]at h
 |_::_,[],h=>by simp[eH]at h
 |a::x,b::y,h=>by
  unfold eH at h
  split at h
  .cases h
  .rename_i h1
   split at h
   .cases h
   .rename_i h2
    rw[EU h1 h2,xm h]
theorem EV{a b:Key}:eH a b=0↔a=b:=⟨xm,λh=>h▸xl _⟩
theorem Av:∀a b:Key,eH a b= -1\/eH a b=0\/eH a b=1
 | [],[]=>.inr (.inl rfl)
 | [],_::_=>.inl rfl
 |_::_,[]=>.inr (.inr rfl)
 |a::x,b::y=>by
  unfold eH
  split
  .exact .inl rfl
  .split
   .exact .inr (.inr rfl)
   .exact Av x y
theorem Aw:∀a b:Key,eH b a=-eH a b
 | [],[]=>rfl
 | [],_::_=>rfl
 |_::_,[]=>rfl
 |a::x,b::y=>by
  unfold eH
  by_cases h1:a.toNat<b.toNat
  .have h2:¬b.toNat<a.toNat:=by omega
   simp[h1,h2]
  .by_cases h2:b.toNat<a.toNat
   .simp[h1,h2]
   .simp only[h1,h2,if_false]
    exact Aw x y
theorem Ax:∀ {a b c:Key},eH a b<0->eH b c<0->eH a c<0
 | [],[],_,h,_=>by simp[eH]at h
 | [],_::_,[],_,h=>by simp[eH]at h
 | [],_::_,_::_,_,_=>by simp[eH]
 |_::_,[],_,h,_=>by simp[eH]at h
 |_::_,_::_,[],_,h=>by simp[eH]at h
 |a::x,b::y,c::z,h1,h2=>by
  unfold eH at h1 h2⊢
  by_cases a1:a.toNat<b.toNat
  .by_cases a2:b.toNat<c.toNat
   .rw[if_pos I];decide
   .rw[if_neg a2]at h2
    by_cases a3:c.toNat<b.toNat
    .rw[if_pos a3]at h2;omega
    .rw[if_pos I];decide
  .rw[if_neg a1]at h1
   by_cases a2:b.toNat<a.toNat
   .rw[if_pos a2]at h1;omega
   .rw[if_neg a2]at h1
    by_cases a3:b.toNat<c.toNat
    .rw[if_pos I];decide
    .rw[if_neg a3]at h2
     by_cases a4:c.toNat<b.toNat
     .rw[if_pos a4]at h2;omega
     .rw[if_neg a4]at h2
      rw[if_neg I,if_neg I]
      exact Ax h1 h2
def bH(a b:Key):Prop:=eH a b<0
def ey(a b:Key):Prop:=¬eH b a<0
instance (a b:Key):Decidable (bH a b):=by unfold bH;infer_instance
instance (a b:Key):Decidable (ey a b):=by unfold ey;infer_instance
theorem lC{a b c:Key}(h1:bH a b)(h2:bH b c):bH a c:=Ax h1 h2
theorem mb(a:Key):¬bH a a:=by unfold bH;rw[xl];decide
theorem j2{a b:Key}(h:bH a b):¬bH b a:=λh2=>mb a (lC h h2)
theorem vc(a b:Key):bH a b\/a=b\/bH b a:=by
 unfold bH;have h:=Aw a b;rcases Av a b with h1|h1|h1
 .exact .inl I
 .exact .inr (.inl (xm h1))
 .exact .inr (.inr I)
theorem oe{a b:Key}:ey a b↔bH a b\/a=b:=by
 constructor
 .intro h
  rcases vc a b with h1|h1|h1
  .exact .inl h1
  .exact .inr h1
  .exact absurd h1 h
 .rintro(h|rfl)
  .exact j2 h
  .exact mb _
theorem Ay(a:Key):ey a a:=mb a
theorem iG{a b:Key}(h:bH a b):ey a b:=oe.2 (.inl h)
theorem Az{a b:Key}:¬bH a b↔ey b a:=Iff.rfl
theorem m4{a b c:Key}(h1:bH a b)(h2:ey b c):bH a c:=by
 rcases oe.1 h2 with h|rfl
 .exact lC h1 h
 .exact h1
theorem j3{a b c:Key}(h1:ey a b)(h2:bH b c):bH a c:=by
 rcases oe.1 h1 with h|rfl
 .exact lC h h2
 .exact h2
theorem AA{a b c:Key}(h1:ey a b)(h2:ey b c):ey a c:=by
 rcases oe.1 h1 with h|rfl
 .exact iG (m4 h h2)
 .exact h2
def gJ(l:O aI):Prop:=l.Pairwise λa b=>bH a.1 b.1
def e4(l:O aI)(k v:Key):O aI:=(l.filter λp=>decide (bH p.1 k))++(k,v)::l.filter λp=>decide (bH k p.1)
def ed(l:O aI)(k:Key):O aI:=l.filter λp=>decide (p.1≠k)
def eB(l:O aI)(k:Key):aq Key:=(l.find? λp=>decide (p.1=k)).map (·.2)
def eY(l:O aI)(fr to:Key):O aI:=l.filter λp=>decide (ey fr p.1)&&(to.isEmpty||decide (bH p.1 to))
def fw(lo hi:aq Key)(k:Key):Prop:=(∀a,lo=some a->ey a k)/\(∀b,hi=some b->bH k b)
theorem EW{a b:O aI}{k v:Key}(h:∀p∈b,bH k p.1):e4 (a++b) k v=e4 a k v++b:=by
 have d:b.filter (λp=>decide (bH p.1 k))=[]:=lT.2 λp c=>by simpa using j2 (h p c)
 have e:b.filter (λp=>decide (bH k p.1))=b:=jT.2 λp c=>dK (h p c);unfold e4;rw[kQ,kQ,d,e,fQ,cO,nv]
theorem AB{a b:O aI}{k v:Key}(h:∀p∈a,bH p.1 k):e4 (a++b) k v=a++e4 b k v:=by
 have d:a.filter (λp=>decide (bH p.1 k))=a:=jT.2 λp c=>dK (h p c);have e:a.filter (λp=>decide (bH k p.1))=[]:=lT.2 λp c=>by simpa using j2 (h p c)
 unfold e4;rw[kQ,kQ,d,e,iT,cO]
theorem pU(a b:O aI)(k:Key):ed (a++b) k=ed a k++ed b k:=kQ ..
theorem og{a:O aI}{k:Key}(h:∀p∈a,p.1≠k):ed a k=a:=jT.2 λp b=>dK (h p b)
theorem kz{a b:Key}(h:bH a b):a≠b:=λe=>mb b (e▸h)
theorem pV{a b:O aI}:gJ (a++b)↔gJ a/\gJ b/\∀p∈a,∀q∈b,bH p.1 q.1:=mH
theorem AD{l:O aI}{k v:Key}{p:aI}:p∈e4 l k v↔p=(k,v)\/(p∈l/\p.1≠k):=by
 unfold e4;rw[cT,cU,hJ,hJ,cQ,cQ];constructor
 .rintro(⟨h,h2⟩|rfl|⟨h,h2⟩)
  .exact .inr ⟨h,kz h2⟩
  .exact .inl rfl
  .exact .inr ⟨h,(kz h2).symm⟩
 .rintro(rfl|⟨h,h2⟩)
  .exact .inr (.inl rfl)
  .rcases vc p.1 k with a|a|a
   .exact .inl ⟨h,a⟩
   .exact absurd a h2
   .exact .inr (.inr ⟨h,a⟩)
end Go.Proofs.YtkdhdlfonmgheaaGreat
namespace Go.Proofs.YtkdhdlfonmgheaaGreat
structure aD where
 leaf:ai
 keys:O Key
 vals:O Key
 kids:O Nat
 deriving DecidableEq
abbrev Below:=aq Key->aq Key->Nat->O Nat->O aI->Prop
inductive dG (W:Below):aq Key->aq Key->O Key->O Nat->O Nat->O aI->Prop
 |one {lo hi:aq Key}{k:Nat}{p:O Nat}{L:O aI} (h:W lo hi k p L):dG W lo hi [] [k] p L
 |cons {lo hi:aq Key}{s:Key}{k:Nat}{bB bq:O Nat}{bf bz:O aI}{ks:O Key}{kids:O Nat} (h:W lo (some s) k bB bf) (t:dG W (some s) hi ks kids bq bz):
  dG W lo hi (s::ks) (k::kids) (bB++bq) (bf++bz)
variable {W:Below}{lo hi:aq Key}
theorem dG.len{ks:O Key}{kids p:O Nat}{L:O aI}(h:dG W lo hi ks kids p L):kids.length=ks.length+1:=by
 induction h with
 |one _=>rfl
 |cons _ _ a=>simp[a]
theorem dG.app{s:Key}{iH kA:O Key}{i_ lD bB bq:O Nat}{bf bz:O aI}(h1:dG W lo (some s) iH i_ bB bf)(h2:dG W (some s) hi kA lD bq bz):
 dG W lo hi (iH++s::kA) (i_++lD) (bB++bq) (bf++bz):=by
 generalize a:some s=m at h1
 induction h1 with
 |one h=>subst a;exact .cons h h2
 |cons h t b=>
  rw[cO,cO];exact .cons h (b a)
theorem dG.cut:∀ {iH:O Key}{s:Key}{kA:O Key}{lo:aq Key}{kids p:O Nat}{L:O aI},dG W lo hi (iH++s::kA) kids p L->
 ∃ (i_ lD bB bq:O Nat) (bf bz:O aI),kids=i_++lD/\p=bB++bq/\L=bf++bz/\dG W lo (some s) iH i_ bB bf/\dG W (some s) hi kA lD bq bz
 | [],s,kA,lo,kids,p,L,h=>by
  cases h with
  |cons h t=>exact⟨_,_,_,_,_,_,rfl,rfl,rfl,.one h,t⟩
 |a::iH,s,kA,lo,kids,p,L,h=>by
  cases h with
  |cons h t=>
   obtain⟨bE,bG,bB,bq,bf,bz,rfl,rfl,rfl,h1,h2⟩:=dG.cut t
   exact⟨_::bE,bG,_++bB,bq,_++bf,bz,rfl,by rw[cO],by rw[cO],.cons h h1,h2⟩
theorem dG.mono{V:Below}{ks:O Key}{kids p:O Nat}{L:O aI}(h:dG W lo hi ks kids p L)(a:∀lo hi k p L,(∀x∈p,x∈p)->W lo hi k p L->V lo hi k p L):dG V lo hi ks kids p L:=by
 induction h with
 |one h=>exact .one (a _ _ _ _ _ (λ_ h=>h) h)
 |cons h _ b=>exact .cons (a _ _ _ _ _ (λ_ h=>h) h) b
theorem dG.lE{V:Below}{ks:O Key}{kids p:O Nat}{L:O aI}(h:dG W lo hi ks kids p L)(b:∀lo hi k a L,(∀x∈a,x∈p)->W lo hi k a L->V lo hi k a L):dG V lo hi ks kids p L:=by
 induction h with
 |one h=>exact .one (b _ _ _ _ _ (λ_ h=>h) h)
 |cons h _ c=>
  exact .cons (b _ _ _ _ _ (λx hx=>jz _ hx) h) (c λlo hi k a L hs=>b lo hi k a L λx hx=>ic _ (hs x hx))
def cv(k:Key):Prop:=1<=k.length/\k.length<=24
structure vd(n:aD):Prop where
 ok:∀k∈n.keys,cv k
 fb:n.keys.Pairwise bH
structure gS(n:aD):Prop extends vd n where
 leaf:n.leaf=true
 len:n.vals.length=n.keys.length
 kids:n.kids=[]
 vals:∀v∈n.vals,v.length<=24
structure ve(n:aD):Prop extends vd n where
 inner:n.leaf=false
 some:n.keys≠ []
 len:n.kids.length=n.keys.length+1
 vals:n.vals=[]
 kids:∀k∈n.kids,k<1600
def aD.dN(n:aD):O aI:=n.keys.zip n.vals
def aD.within(n:aD)(lo hi:aq Key):Prop:=∀k∈n.keys,fw lo hi k
def eo(P:Nat->aq aD):Nat->Below
 |0=> λ_ _ _ _ _=>False
 |1=> λlo hi no p L=>∃n,P no=some n/\gS n/\n.within lo hi/\n.keys≠ []/\p=[no]/\L=n.dN
 |h+2=> λlo hi no p L=>∃n a,P no=some n/\ve n/\n.within lo hi/\p=no::a/\
  dG (λlo hi k p L=>eo P (h+1) lo hi k p L/\∃m,P k=some m/\2<=m.keys.length) lo hi n.keys n.kids a L
theorem eo.agree{P Q:Nat->aq aD}:∀ {h:Nat}{lo hi:aq Key}{no:Nat}{p:O Nat}{L:O aI},eo P h lo hi no p L->(∀x∈p,P x=Q x)->eo Q h lo hi no p L/\no∈p
 |0,_,_,_,_,_,d,_=>d.elim
 |1,_,_,no,_,_,⟨n,h1,h2,e,f,b,g⟩,a=>by
  have c:no∈ [no]:=by simp
  rw[b]
  exact⟨⟨n,by rw[←a no (by rw[b];exact c)];exact h1,h2,e,f,rfl,g⟩,c⟩
 |h+2,_,_,no,_,_,⟨n,i,h1,h2,e,f,b⟩,a=>by
  subst f
  refine⟨⟨n,i,by rw[←a no (by simp)];exact h1,h2,e,rfl,b.lE λlo hi k q L hs ⟨d,m,c,h2⟩=>?_⟩,by simp⟩
  have:=eo.agree d λx hx=>a x (jR _ (hs x hx))
  exact⟨this.1,m,by rw[←a k (jR _ (hs k this.2))];exact c,h2⟩
end Go.Proofs.YtkdhdlfonmgheaaGreat
namespace Go.Proofs.YtkdhdlfonmgheaaGreat
variable {W:Below}{lo hi:aq Key}{P:Nat->aq aD}
theorem EX{lo hi:aq Key}{s k:Key}(h1:fw lo (some s) k)(h2:fw lo hi s):fw lo hi k:=
 ⟨h1.1,λb a=>lC (h1.2 s rfl) (h2.2 b a)⟩
theorem EY{lo hi:aq Key}{s k:Key}(h1:fw (some s) hi k)(h2:fw lo hi s):fw lo hi k:=
 ⟨λa b=>AA (h2.1 a b) (h1.1 s rfl),h1.2⟩
theorem dG.fb{ks:O Key}{kids p:O Nat}{L:O aI}(h:dG W lo hi ks kids p L)(cg:∀lo hi k p L,W lo hi k p L->gJ L/\∀q∈L,fw lo hi q.1)(e:ks.Pairwise bH)(c:∀s∈ks,fw lo hi s):
 gJ L/\∀q∈L,fw lo hi q.1:=by
 induction h with
 |one h=>exact cg _ _ _ _ _ h
 | @cons lo hi s k bB bq bf bz ks kids h t f=>
  obtain⟨r1,cf⟩:=cg _ _ _ _ _ h;have d:=jA.1 e;obtain⟨b5,bS⟩:=f d.2 λx hx=>⟨λa g=>by cases g;exact iG (d.1 x hx),(c x (jR _ hx)).2⟩;have hs:=c s List.mem_cons_self;refine⟨pV.2 ⟨r1,b5,λx hx y i=>m4 ((cf x hx).2 s rfl) ((bS y i).1 s rfl)⟩,λq b=>?_⟩;rcases cT.1 b with b|b
  .exact EX (cf q b) hs
  .exact EY (bS q b) hs
theorem AE:∀ {ks vs:O Key},ks.Pairwise bH->gJ (ks.zip vs)
 | [],vs,_=>by rw[List.zip_nil_left];exact List.Pairwise.nil
 |k::ks,[],_=>by rw[List.zip_nil_right];exact List.Pairwise.nil
 |k::ks,v::vs,h=>by
  rw[List.zip_cons_cons]
  have:=jA.1 h
  exact jA.2 ⟨λq a=>this.1 _ (qy a).1,AE this.2⟩
theorem gS.dN{n:aD}(h:gS n):gJ n.dN/\n.dN.length=n.keys.length:=⟨AE h.fb,by unfold aD.dN;rw[mI,h.len,Nat.min_self]⟩
theorem eo.fb:∀ {h:Nat}{lo hi:aq Key}{no:Nat}{p:O Nat}{L:O aI},eo P h lo hi no p L->gJ L/\∀q∈L,fw lo hi q.1
 |0,_,_,_,_,_,a=>a.elim
 |1,_,_,_,_,_,⟨n,_,h2,b,_,_,c⟩=>by
  subst c
  exact⟨h2.dN.1,λq d=>b _ (qy d).1⟩
 |h+2,_,_,_,_,_,⟨n,_,_,h2,b,_,e⟩=>e.fb (λ_ _ _ _ _ a=>eo.fb a.1) h2.fb b
theorem dG.count{ks:O Key}{kids p:O Nat}{L:O aI}(h:dG W lo hi ks kids p L){c:Nat}(cg:∀lo hi k p L,W lo hi k p L->p.length+1<=L.length/\c<=L.length):
 p.length+kids.length<=L.length/\c*kids.length<=L.length:=by
 induction h with
 |one h=>have:=cg _ _ _ _ _ h;simp;omega
 |cons h _ a=>
  have:=cg _ _ _ _ _ h;simp only[cz,e8,Nat.mul_add,fF];omega
theorem eo.count:∀ {h:Nat}{lo hi:aq Key}{no:Nat}{p:O Nat}{L:O aI},eo P h lo hi no p L->((∃m,P no=some m/\2<=m.keys.length)\/2<=h)->p.length+1<=L.length/\2^h<=L.length
 |0,_,_,_,_,_,b,_=>b.elim
 |1,_,_,_,_,_,⟨n,h1,h2,_,_,d,f⟩,a=>by
  rcases a with ⟨m,e,a⟩|a
  .rw[h1]at e
   cases e
   subst d f
   have:=h2.dN.2
   simp only[iU];omega
  .omega
 |h+2,_,_,_,_,_,⟨n,i,_,h2,_,g,d⟩,_=>by
  have hc:=d.count (c:=2^(h+1)) λlo hi k p L ⟨b,a⟩=>eo.count b (.inl a)
  have j:=h2.len
  have hs:1<=n.keys.length:=sk.2 h2.some
  subst g
  have:2^(h+1)*2<=2^(h+1)*n.kids.length:=Nat.mul_le_mul_left _ I
  rw[Nat.pow_succ 2 (h+1)]
  simp only[e8]
  omega
theorem eo.pages{h:Nat}{lo hi:aq Key}{no:Nat}{p:O Nat}{L:O aI}(a:eo P h lo hi no p L):p.length<=L.length/\1<=L.length/\(2<=h->2^h<=L.length):=by
 match h with
 |0=>exact a.elim
 |1=>
  obtain⟨n,h1,h2,_,b,c,d⟩:=a;subst c d;have:=h2.dN.2;have e:=sk.2 b;simp only[iU];exact⟨I,I,I⟩
 |h+2=>
  have:=eo.count a (.inr I);exact⟨I,I,λ_=>this.2⟩
end Go.Proofs.YtkdhdlfonmgheaaGreat
namespace Go.Proofs.YtkdhdlfonmgheaaGreat
variable {W V:Below}{lo hi:aq Key}
inductive fE (W:Below) (lo:aq Key):aq Key->O Key->O Nat->O Nat->O aI->Prop
 |nil:fE W lo lo [] [] [] []
 |more {s:Key}{ks:O Key}{kids p:O Nat}{L:O aI} (h:dG W lo (some s) ks kids p L):fE W lo (some s) (ks++ [s]) kids p L
inductive gx (W:Below) (hi:aq Key):aq Key->O Key->O Nat->O Nat->O aI->Prop
 |nil:gx W hi hi [] [] [] []
 |more {s:Key}{ks:O Key}{kids p:O Nat}{L:O aI} (h:dG W (some s) hi ks kids p L):gx W hi (some s) (s::ks) kids p L
variable {m:aq Key}{iH kA:O Key}{i_ lD bB bq:O Nat}{bf bz:O aI}
theorem fE.EZ(h1:fE W lo m iH i_ bB bf)(h2:dG W m hi kA lD bq bz):dG W lo hi (iH++kA) (i_++lD) (bB++bq) (bf++bz):=by
 cases h1 with
 |nil=>exact h2
 |more h=>rw[cO];exact h.app h2
theorem dG.post(h1:dG W lo m iH i_ bB bf)(h2:gx W hi m kA lD bq bz):dG W lo hi (iH++kA) (i_++lD) (bB++bq) (bf++bz):=by
 cases h2 with
 |nil=>simpa using h1
 |more h=>exact h1.app h
theorem fE.cons{s:Key}{k:Nat}{p:O Nat}{L:O aI}(h:W lo (some s) k p L)(t:fE W (some s) m iH i_ bB bf):fE W lo m (s::iH) (k::i_) (p++bB) (L++bf):=by
 cases t with
 |nil=>rw[fQ,fQ];exact fE.more (ks:=[]) (.one h)
 |more t=>exact fE.more (ks:=s::_) (.cons h t)
theorem fE.lE(h:fE W lo m iH i_ bB bf)(b:∀lo hi k a L,(∀x∈a,x∈bB)->W lo hi k a L->V lo hi k a L):fE V lo m iH i_ bB bf:=by
 cases h with
 |nil=>exact .nil
 |more h=>exact .more (h.lE b)
theorem gx.lE(h:gx W hi m iH i_ bB bf)(b:∀lo hi k a L,(∀x∈a,x∈bB)->W lo hi k a L->V lo hi k a L):gx V hi m iH i_ bB bf:=by
 cases h with
 |nil=>exact .nil
 |more h=>exact .more (h.lE b)
theorem dG.at{ks:O Key}{kids p:O Nat}{L:O aI}(h:dG W lo hi ks kids p L):∀ (i:Nat) (c:i<kids.length),∃ (d e:aq Key) (bB q bq:O Nat) (bf M bz:O aI),
 p=bB++(q++bq)/\L=bf++(M++bz)/\W d e kids[i] q M/\fE W lo d (ks.take i) (kids.take i) bB bf/\gx W hi e (ks.drop i) (kids.drop (i+1)) bq bz:=by
 induction h with
 | @one lo hi k p L h=>
  intro i c;have:i=0:=by simp at c;omega
  subst this;exact⟨lo,hi,[],p,[],[],L,[],by simp,by simp,h,.nil,.nil⟩
 | @cons lo hi s k bB bq bf bz ks kids h t f=>
  intro i c
  cases i with
  |zero=>exact⟨lo,some s,[],bB,bq,[],bf,bz,rfl,rfl,h,.nil,.more t⟩
  |succ i=>
   obtain⟨d,e,a,q,b,A,M,B,rfl,rfl,h1,h2,g⟩:=f i (by simpa using c);exact⟨d,e,bB++a,q,b,bf++A,M,B,by rw[cO],by rw[cO],h1,fE.cons h h2,g⟩
theorem fE.inv{kids p:O Nat}{L:O aI}(h:fE W lo m [] kids p L):m=lo/\kids=[]/\p=[]/\L=[]:=by
 generalize e:([]:O Key)=K at h
 cases h with
 |nil=>exact⟨rfl,rfl,rfl,rfl⟩
 |more h=>simp at e
theorem gx.head{ks:O Key}{kids p:O Nat}{L:O aI}(h:gx W hi m ks kids p L)(b:0<kids.length):∃ (s:Key) (a:aq Key) (q bq:O Nat) (M bz:O aI) (hs:0<ks.length),
 m=some s/\s=ks[0]/\p=q++bq/\L=M++bz/\W (some s) a (kids[0]) q M/\gx W hi a (ks.drop 1) (kids.drop 1) bq bz:=by
 cases h with
 |nil=>simp at b
 | @more s ks kids p L h=>
  obtain⟨d,a,bB,q,bq,bf,M,bz,rfl,rfl,h1,h2,c⟩:=h.at 0 b;rw[List.take_zero]at h2;obtain⟨rfl,_,rfl,rfl⟩:=h2.inv;exact⟨s,a,q,bq,M,bz,by simp,rfl,rfl,rfl,rfl,h1,by simpa using c⟩
end Go.Proofs.YtkdhdlfonmgheaaGreat
namespace Go.Proofs.YtkdhdlfonmgheaaGreat
variable {W V:Below}{lo hi m:aq Key}
def dn(ks:O Key)(k:Key):Nat:=ks.findIdx λs=>decide (bH k s)
theorem vf(ks:O Key)(k:Key):dn ks k<=ks.length:=List.findIdx_le_length
theorem E0{ks:O Key}{k:Key}{i:Nat}(h:i<dn ks k)(hi:i<ks.length):ey ks[i] k:=by
 have:=List.not_of_lt_findIdx h;exact Az.1 (by simpa using this)
theorem E1{ks:O Key}{k:Key}(h:dn ks k<ks.length):bH k ks[dn ks k]:=by
 have:=List.findIdx_getElem (p:=λs=>decide (bH k s)) (xs:=ks) (w:=h);exact b1 this
theorem fE.E2{i:Nat}{ks:O Key}{kids p:O Nat}{L:O aI}(h:fE W lo m (ks.take i) kids p L){k:Key}(b:∀ (j:Nat) (c:j<ks.length),j<i->ey ks[j] k)(d:∀a,lo=some a->ey a k):∀a,m=some a->ey a k:=by
 generalize e:ks.take i=K at h
 cases h with
 |nil=>exact d
 | @more s l kids p L h=>
  intro a f
  cases f;have g:s∈ks.take i:=by rw[e];simp
  obtain⟨j,c,rfl⟩:=List.mem_take_iff_getElem.1 g;exact b j I I
theorem gx.E3{i:Nat}{ks:O Key}{kids p:O Nat}{L:O aI}(h:gx W hi m (ks.drop i) kids p L){k:Key}(b:∀ (h:i<ks.length),bH k ks[i])(c:∀a,hi=some a->bH k a):∀a,m=some a->bH k a:=by
 generalize e:ks.drop i=K at h
 cases h with
 |nil=>exact c
 | @more s f kids p L h=>
  intro a d
  cases d;have aK:i<ks.length:=by
   have:=congrArg List.length e;simp at this;omega
  have:ks[i]=s:=by
   have:=jy aK;rw[e]at this;exact(List.cons.inj this).1.symm
  rw[←this];exact b aK
theorem fE.below{ks:O Key}{kids p:O Nat}{L:O aI}(h:fE W lo m ks kids p L)(cg:∀lo hi k p L,W lo hi k p L->gJ L/\∀q∈L,fw lo hi q.1)(f:ks.Pairwise bH)(c:∀s∈ks,fw lo hi s)
 {k:Key} (g:∀a,m=some a->ey a k):∀q∈L,bH q.1 k:=by
 cases h with
 |nil=>intro q d;cases d
 | @more s i kids p L h=>
  have e:=mH.1 f;have:=h.fb cg e.1 λx hx=>⟨(c x (by simp[hx])).1,λb c=>by cases c;exact e.2.2 x hx s (by simp)⟩;exact λq d=>m4 ((this.2 q d).2 s rfl) (g s rfl)
theorem gx.E4{ks:O Key}{kids p:O Nat}{L:O aI}(h:gx W hi m ks kids p L)(cg:∀lo hi k p L,W lo hi k p L->gJ L/\∀q∈L,fw lo hi q.1)(d:ks.Pairwise bH)(e:∀s∈ks,fw lo hi s)
 {k:Key} (f:∀a,m=some a->bH k a):∀q∈L,bH k q.1:=by
 cases h with
 |nil=>intro q b;cases b
 | @more s i kids p L h=>
  have c:=jA.1 d;have:=h.fb cg c.2 λx hx=>⟨λa g=>by cases g;exact iG (c.1 x hx),(e x (by simp[hx])).2⟩;exact λq b=>m4 (f s rfl) ((this.2 q b).1 s rfl)
def Loc(k:Key)(u:O aI->O aI):Prop:=∀bf M bz:O aI,(∀p∈bf,bH p.1 k)->(∀p∈bz,bH k p.1)->u (bf++(M++bz))=bf++(u M++bz)
theorem E5(k v:Key):Loc k λL=>e4 L k v:=λbf M bz h1 h2=>by
 show e4 _ _ _=_
 rw[AB h1,EW h2]
theorem xn(k:Key):Loc k λL=>ed L k:=λbf M bz h1 h2=>by
 show ed _ _=_
 rw[pU,pU,og λp a=>kz (h1 p a),og λp a=>(kz (h2 p a)).symm]
end Go.Proofs.YtkdhdlfonmgheaaGreat
namespace Go.Proofs.YtkdhdlfonmgheaaGreat
variable {W V:Below}{lo hi m:aq Key}{P Q:Nat->aq aD}
def fx(P:Nat->aq aD)(h:Nat):Below:=λlo hi k p L=>eo P h lo hi k p L/\∃m,P k=some m/\2<=m.keys.length
theorem fx.agree{h no:Nat}{p:O Nat}{L:O aI}(b:fx P h lo hi no p L)(a:∀x∈p,P x=Q x):fx Q h lo hi no p L:=by
 obtain⟨h1,m,h2,c⟩:=b;have:=h1.agree a;exact⟨this.1,m,by rw[←a no this.2];exact h2,c⟩
theorem E6{α:Type}{l:O α}(h:1<=l.length):l≠ []:=λe=>by subst e;simp at h
theorem fx.in{h no:Nat}{p:O Nat}{L:O aI}(a:fx P h lo hi no p L):L≠ []/\gJ L/\∀q∈L,fw lo hi q.1:=⟨E6 a.1.pages.2.1,a.1.fb⟩
theorem dG.sorted{ks:O Key}{kids p:O Nat}{L:O aI}(h:dG W lo hi ks kids p L)(cg:∀lo hi k p L,W lo hi k p L->L≠ []/\gJ L/\∀q∈L,fw lo hi q.1):
 L≠ []/\(∀q∈L,fw lo hi q.1)/\ks.Pairwise bH/\∀s∈ks,(∀a,lo=some a->bH a s)/\∀b,hi=some b->bH s b:=by
 induction h with
 |one h=>exact⟨(cg _ _ _ _ _ h).1,(cg _ _ _ _ _ h).2.2,.nil,by simp⟩
 | @cons lo hi s k bB bq bf bz ks kids h t l=>
  obtain⟨bW,_,cf⟩:=cg _ _ _ _ _ h;obtain⟨bw,bS,b5,ah⟩:=l;obtain⟨x,hx⟩:=qz _ bW;obtain⟨y,i⟩:=qz _ bw;have f:∀a,lo=some a->bH a s:=λa e=>j3 ((cf x hx).1 a e) ((cf x hx).2 s rfl);have j:∀b,hi=some b->bH s b:=λb g=>j3 ((bS y i).1 s rfl) ((bS y i).2 b g);refine⟨by simp[bW],λq c=>?_,jA.2 ⟨λz d=>(ah z d).1 s rfl,b5⟩,λz d=>?_⟩
  .rcases cT.1 c with c|c
   .exact⟨(cf q c).1,λb g=>lC ((cf q c).2 s rfl) (j b g)⟩
   .exact⟨λa e=>iG (m4 (f a e) ((bS q c).1 s rfl)),(bS q c).2⟩
  .rcases cU.1 d with rfl|d
   .exact⟨f,j⟩
   .exact⟨λa e=>lC (f a e) ((ah z d).1 s rfl),(ah z d).2⟩
def dh(P:Nat->aq aD):Nat->aD->aq Key->aq Key->O Nat->O aI->Prop
 |0,_,_,_,_,_=>False
 |1,n,lo,hi,p,L=>gS n/\n.within lo hi/\p=[]/\L=n.dN
 |h+2,n,lo,hi,p,L=>n.leaf=false/\n.vals=[]/\(∀k∈n.keys,cv k)/\(∀k∈n.kids,k<1600)/\dG (fx P (h+1)) lo hi n.keys n.kids p L
theorem dh.agree:∀ {h:Nat}{n:aD}{p:O Nat}{L:O aI},dh P h n lo hi p L->(∀x∈p,P x=Q x)->dh Q h n lo hi p L
 |0,_,_,_,h,_=>h.elim
 |1,_,_,_,h,_=>h
 |_+2,_,_,_,⟨h1,h2,a,b,c⟩,d=>⟨h1,h2,a,b,c.lE λ_ _ _ _ _ hs e=>e.agree λx hx=>d x (hs x hx)⟩
theorem dh.lay:∀ {h:Nat}{n:aD}{x:Nat}{p:O Nat}{L:O aI},dh P h n lo hi p L->n.keys≠ []->Q x=some n->(∀y∈p,P y=Q y)->eo Q h lo hi x (x::p) L
 |0,_,_,_,_,h,_,_,_=>h.elim
 |1,n,x,p,L,⟨h1,h2,b,c⟩,d,hx,_=>by
  subst b
  exact⟨n,hx,h1,h2,d,rfl,c⟩
 |h+2,n,x,p,L,g,d,hx,i=>by
  obtain⟨h1,h2,b,c,e⟩:=g.agree i
  have hs:=e.sorted λ_ _ _ _ _ j=>j.in
  exact⟨n,p,hx,⟨⟨b,hs.2.2.1⟩,h1,d,e.len,h2,c⟩,λs f=>⟨λa k=>iG ((hs.2.2.2 s f).1 a k),(hs.2.2.2 s f).2⟩,rfl,e⟩
def aD.left(n:aD)(i:Nat):aD:=if n.leaf then ⟨true,n.keys.take i,n.vals.take i,[]⟩ else ⟨false,n.keys.take i,[],n.kids.take (i+1)⟩
def aD.right(n:aD)(i:Nat):aD:=if n.leaf then ⟨true,n.keys.drop i,n.vals.drop i,[]⟩ else ⟨false,n.keys.drop (i+1),[],n.kids.drop (i+1)⟩
theorem dh.leaf{h:Nat}{n:aD}{p:O Nat}{L:O aI}(a:dh P h n lo hi p L):n.leaf=decide (h=1):=by
 match h,a with
 |0,a=>exact a.elim
 |1,a=>rw[a.1.leaf];rfl
 |h+2,a=>rw[a.1];simp
theorem dh.xo{h:Nat}{n:aD}{p:O Nat}{L:O aI}(g:dh P h n lo hi p L){i:Nat}(h1:1<=i)(m:i<n.keys.length):
 ∃ (bB bq:O Nat) (bf bz:O aI),p=bB++bq/\L=bf++bz/\dh P h (n.left i) lo (some n.keys[i]) bB bf/\dh P h (n.right i) (some n.keys[i]) hi bq bz:=by
 match h,g with
 |0,g=>exact g.elim
 |1,⟨a,b,c,d⟩=>
  subst c d;have q:=a.fb;have gf:n.keys=n.keys.take i++n.keys.drop i:=(ib _ _).symm;have o:=q;rw[gf]at o;obtain⟨r1,b5,ag⟩:=mH.1 o;have hd:n.keys.drop i=n.keys[i]::n.keys.drop (i+1):=jy m;have hf:n.left i=⟨true,n.keys.take i,n.vals.take i,[]⟩:=by unfold aD.left;rw[a.leaf];rfl
  have hg:n.right i=⟨true,n.keys.drop i,n.vals.drop i,[]⟩:=by unfold aD.right;rw[a.leaf];rfl
  rw[hf,hg];refine⟨[],[],n.dN.take i,n.dN.drop i,rfl,(ib _ _).symm,⟨⟨⟨λk f=>a.ok k (fp f),r1⟩,rfl,by simp[a.len],rfl,λv g=>a.vals v (fp g)⟩,λk f=>⟨(b k (fp f)).1,λs hs=>?_⟩,rfl,?_⟩,
   ⟨⟨⟨λk f=>a.ok k (fg f),b5⟩,rfl,by simp[a.len],rfl,λv g=>a.vals v (fg g)⟩,λk f=>⟨λs hs=>?_,(b k (fg f)).2⟩,rfl,?_⟩⟩
  .cases hs
   exact ag k f _ (by rw[hd];exact List.mem_cons_self)
  .exact List.take_zipWith
  .cases hs
   have f:k∈n.keys.drop i:=f;rw[hd]at f b5;rcases cU.1 f with rfl|f
   .exact Ay _
   .exact iG ((jA.1 b5).1 k f)
  .exact List.drop_zipWith
 |h+2,⟨a,b,c,d,e⟩=>
  have hf:n.left i=⟨false,n.keys.take i,[],n.kids.take (i+1)⟩:=by unfold aD.left;rw[a];rfl
  have hg:n.right i=⟨false,n.keys.drop (i+1),[],n.kids.drop (i+1)⟩:=by unfold aD.right;rw[a];rfl
  have gf:n.keys=n.keys.take i++n.keys[i]::n.keys.drop (i+1):=by rw[←jy m,ib]
  rw[gf]at e;obtain⟨bE,bG,bB,bq,bf,bz,j,rfl,rfl,s1,s2⟩:=e.cut;have l:=s1.len;rw[cC,jj I]at l;have r:n.kids.take (i+1)=bE:=by rw[j,←l,List.take_left]
  have t:n.kids.drop (i+1)=bG:=by rw[j,←l,List.drop_left]
  rw[hf,hg,r,t];exact⟨bB,bq,bf,bz,rfl,rfl,⟨rfl,rfl,λk f=>c k (fp f),λk f=>d k (by rw[j];simp[f]),s1⟩,⟨rfl,rfl,λk f=>c k (fg f),λk f=>d k (by rw[j];simp[f]),s2⟩⟩
end Go.Proofs.YtkdhdlfonmgheaaGreat
namespace Go.Proofs.YtkdhdlfonmgheaaGreat
variable {lo hi:aq Key}{P Q:Nat->aq aD}
def ee(a:aD)(s:Key)(b:aD):aD:=if a.leaf then ⟨true,a.keys++b.keys,a.vals++b.vals,[]⟩ else ⟨false,a.keys++s::b.keys,[],a.kids++b.kids⟩
theorem oh{a b c d:O Key}(h:a.length=c.length):(a++b).zip (c++d)=a.zip c++b.zip d:=List.zip_append h
theorem dh.merge{h:Nat}{a b:aD}{s:Key}{pa l:O Nat}{m n:O aI}(g:dh P h a lo (some s) pa m)(o:dh P h b (some s) hi l n)(hs:cv s)(p:∀k,lo=some k->ey k s)(q:∀k,hi=some k->ey s k):
 dh P h (ee a s b) lo hi (pa++l) (m++n):=by
 match h,g,o with
 |0,g,_=>exact g.elim
 |1,⟨a1,a2,a3,a4⟩,⟨cf,bS,i,j⟩=>
  subst a3 a4 i j;have e:ee a s b=⟨true,a.keys++b.keys,a.vals++b.vals,[]⟩:=by unfold ee;rw[a1.leaf];rfl
  rw[e];refine⟨⟨⟨λk d=>?_,mH.2 ⟨a1.fb,cf.fb,λx hx y r=>m4 ((a2 x hx).2 s rfl) ((bS y r).1 s rfl)⟩⟩,rfl,by simp[a1.len,cf.len],rfl,λv f=>?_⟩,λk d=>?_,rfl,?_⟩
  .rcases cT.1 d with d|d
   .exact a1.ok k d
   .exact cf.ok k d
  .rcases cT.1 f with f|f
   .exact a1.vals v f
   .exact cf.vals v f
  .rcases cT.1 d with d|d
   .exact⟨(a2 k d).1,λc hc=>m4 ((a2 k d).2 s rfl) (q c hc)⟩
   .exact⟨λc hc=>AA (p c hc) ((bS k d).1 s rfl),(bS k d).2⟩
  .exact(oh a1.len.symm).symm
 |h+2,⟨a1,a2,a3,a4,a5⟩,⟨cf,bS,i,j,t⟩=>
  have e:ee a s b=⟨false,a.keys++s::b.keys,[],a.kids++b.kids⟩:=by unfold ee;rw[a1];rfl
  rw[e];refine⟨rfl,rfl,λk d=>?_,λk d=>?_,a5.app t⟩
  .rcases cT.1 d with d|d
   .exact a3 k d
   .rcases cU.1 d with rfl|d
    .exact hs
    .exact i k d
  .rcases cT.1 d with d|d
   .exact a4 k d
   .exact j k d
theorem eo.kB{h no:Nat}{p:O Nat}{L:O aI}(b:eo P h lo hi no p L):∃n a,P no=some n/\p=no::a/\n.keys≠ []/\dh P h n lo hi a L:=by
 match h,b with
 |0,b=>exact b.elim
 |1,⟨n,h1,h2,e,c,d,f⟩=>exact⟨n,[],h1,d,c,h2,e,rfl,f⟩
 |h+2,⟨n,a,h1,h2,e,c,d⟩=>exact⟨n,a,h1,c,h2.some,h2.inner,h2.vals,h2.ok,h2.kids,d⟩
def ga(n:aD)(fr to:Nat)(ks:O Key)(kids:O Nat):aD:=⟨false,n.keys.take fr++ks++n.keys.drop (to-1),[],n.kids.take fr++kids++n.kids.drop to⟩
end Go.Proofs.YtkdhdlfonmgheaaGreat
namespace Go.Proofs.YtkdhdlfonmgheaaGreat
def cellsOf(n:aD):O Nat:=if n.leaf then List.zipWith (λk v=>2+k.length+v.length) n.keys n.vals else n.keys.map λk=>3+k.length
def bJ(n:aD):Nat:=(if n.leaf then 1 else 3)+(cellsOf n).sum
def gm(c:O Nat)(most:Nat):Nat:=match (List.range most).find? λi=>decide (c.sum<=2*(c.take (i+1)).sum) with
 |some i=>i+1
 |none=>most
theorem m5{B:Nat}:∀ {l:O Nat},(∀x∈l,x<=B)->l.sum<=B*l.length
 | [],_=>by simp
 |a::l,h=>by
  have h1:=h a (by simp)
  have h2:=m5 (l:=l) λx hx=>h x (by simp[hx])
  rw[qA,e8,Nat.mul_add,fF]
  omega
theorem xp(l:O Nat)(i:Nat):(l.take i).sum+(l.drop i).sum=l.sum:=by
 rw[←lj,ib]
theorem pW{l:O Nat}{i:Nat}(h:i<l.length):(l.take (i+1)).sum=(l.take i).sum+l[i]:=by
 rw[iy h,lj];simp
theorem AF{c:O Nat}{most:Nat}(a:1<=most)(hs:0<c.sum):1<=gm c most/\gm c most<=most/\2*(c.take (gm c most-1)).sum<c.sum/\(gm c most=most\/c.sum<=2*(c.take (gm c most)).sum):=by
 unfold gm
 cases h:(List.range most).find? λi=>decide (c.sum<=2*(c.take (i+1)).sum) with
 |none=>
  have b:=jk.1 h;refine⟨a,bp _,?_,.inl rfl⟩;by_cases h1:most=1
  .subst h1;simpa using hs
  .have:=b (most-2) (jx.2 I)
   have e:most-2+1=most-1:=by omega
   rw[e]at this;simp at this;exact this
 |some i=>
  have hi:i<most:=jx.1 (jB h);have d:=kj h;refine⟨by simp,by simp;omega,?_,.inr (by simpa using d)⟩;show 2*(c.take (i+1-1)).sum<c.sum;rw[Nat.add_sub_cancel]
  cases i with
  |zero=>simpa using hs
  |succ j=>
   have:=(List.find?_range_eq_some.1 h).2.2 j I;simpa using this
theorem E7{c:O Nat}(hB:∀x∈c,x<=50)(h1:232<=c.sum)(h2:c.sum<=309):
 2<=gm c (c.length-1)/\gm c (c.length-1)+2<=c.length/\(c.take (gm c (c.length-1))).sum<=231/\(c.drop (gm c (c.length-1))).sum<=231:=by
 have d:=m5 hB;have a:=AF (c:=c) (most:=c.length-1) I I;generalize gm c (c.length-1)=i at a⊢;obtain⟨a1,a2,a3,a4⟩:=a;have hs:=xp c i;have ht:=pW (l:=c) (i:=i-1) I;rw[Nat.sub_add_cancel a1]at ht;have hc:=hB c[i-1] (cE _);have hd:=m5 (l:=c.drop i) λx hx=>hB x (fg hx);have b:=m5 (l:=c.take i) λx hx=>hB x (fp hx);rw[c_]at hd;rw[cC,jj I]at b;have key:c.sum<=2*(c.take i).sum:=by
  rcases a4 with h|h
  .have:c.length-i=1:=by omega
   rw[this]at hd;omega
  .exact h
 refine⟨I,?_,I,I⟩;rcases dJ (c.length-i) 2 with h|h
 .have:c.length-i=1:=by omega
  rw[this]at hd;omega
 .omega
theorem E8{c:O Nat}(hB:∀x∈c,x<=27)(h1:230<=c.sum)(h2:c.sum<=332):
 2<=gm c (c.length-2)/\gm c (c.length-2)+3<=c.length/\(c.take (gm c (c.length-2))).sum<=229/\(c.drop (gm c (c.length-2)+1)).sum<=229:=by
 have d:=m5 hB;have a:=AF (c:=c) (most:=c.length-2) I I;generalize gm c (c.length-2)=i at a⊢;obtain⟨a1,a2,a3,a4⟩:=a;have hs:=xp c (i+1);have ht:=pW (l:=c) (i:=i-1) I;have hu:=pW (l:=c) (i:=i) I;rw[Nat.sub_add_cancel a1]at ht;have hc:=hB c[i-1] (cE _);have e:=hB c[i] (cE _);have hd:=m5 (l:=c.drop (i+1)) λx hx=>hB x (fg hx);have b:=m5 (l:=c.take i) λx hx=>hB x (fp hx);rw[c_]at hd;rw[cC,jj I]at b;have key:c.sum<=2*(c.take i).sum:=by
  rcases a4 with h|h
  .have:c.length-(i+1)=1:=by omega
   rw[this]at hd;omega
  .exact h
 refine⟨I,?_,I,I⟩;rcases dJ (c.length-(i+1)) 2 with h|h
 .have:c.length-(i+1)<=1:=by omega
  have:27*(c.length-(i+1))<=27*1:=Nat.mul_le_mul_left _ this;omega
 .omega
end Go.Proofs.YtkdhdlfonmgheaaGreat
namespace Go.Proofs.YtkdhdlfonmgheaaGreat
variable {W:Below}{lo hi m:aq Key}{P Q:Nat->aq aD}
theorem gx.inv{kids p:O Nat}{L:O aI}(h:gx W hi m [] kids p L):m=hi/\kids=[]/\p=[]/\L=[]:=by
 generalize e:([]:O Key)=K at h
 cases h with
 |nil=>exact⟨rfl,rfl,rfl,rfl⟩
 |more h=>simp at e
theorem fE.last{ks:O Key}{kids p:O Nat}{L:O aI}(h:fE W lo m ks kids p L)(c:0<kids.length):∃ (s:Key) (a:aq Key) (bB r:O Nat) (bf N:O aI) (hs:0<ks.length),
 m=some s/\s=ks[ks.length-1]/\p=bB++r/\L=bf++N/\W a (some s) (kids[kids.length-1]) r N/\fE W lo a (ks.take (ks.length-1)) (kids.take (kids.length-1)) bB bf/\kids.length=ks.length:=by
 cases h with
 |nil=>simp at c
 | @more s ks kids p L h=>
  have d:=h.len;obtain⟨a,f,bB,q,bq,bf,M,bz,rfl,rfl,h1,h2,b⟩:=h.at (kids.length-1) I;rw[List.drop_of_length_le I]at b;obtain⟨rfl,_,rfl,rfl⟩:=b.inv;refine⟨s,a,bB,q,bf,M,by simp,rfl,by simp,by simp,by simp,h1,?_,by simp;omega⟩;have e:(ks++ [s]).take ((ks++ [s]).length-1)=ks.take (kids.length-1):=by
   rw[d];simp
  rw[e];exact h2
theorem dh.at{h:Nat}{n:aD}{p:O Nat}{L:O aI}(v:dh P (h+2) n lo hi p L){k:Key}(m:fw lo hi k):∃ (f g:aq Key) (bB q bq:O Nat) (bf M bz:O aI) (B:dn n.keys k<n.kids.length),
 p=bB++(q++bq)/\L=bf++(M++bz)/\fx P (h+1) f g n.kids[dn n.keys k] q M/\fw f g k/\(∀u,Loc k u->u L=bf++(u M++bz))/\n.kids.length=n.keys.length+1/\
 fE (fx P (h+1)) lo f (n.keys.take (dn n.keys k)) (n.kids.take (dn n.keys k)) bB bf/\gx (fx P (h+1)) hi g (n.keys.drop (dn n.keys k)) (n.kids.drop (dn n.keys k+1)) bq bz:=by
 obtain⟨a,b,c,d,e⟩:=v;have w:=e.len;have C:=vf n.keys k;have hs:=e.sorted λ_ _ _ _ _ i=>i.in;have o:∀s∈n.keys,fw lo hi s:=λs h=>⟨λa x=>iG ((hs.2.2.2 s h).1 a x),(hs.2.2.2 s h).2⟩;obtain⟨f,g,bB,q,bq,bf,M,bz,rfl,rfl,h1,h2,l⟩:=e.at (dn n.keys k) I;have r:=h2.E2 (k:=k) (λj y h=>E0 h y) m.1;have t:=l.E3 (k:=k) (λh=>E1 h) m.2;have z:(n.keys.take (dn n.keys k)).Pairwise bH:=hs.2.2.1.sublist (List.take_sublist _ _);have A:(n.keys.drop (dn n.keys k)).Pairwise bH:=hs.2.2.1.sublist (List.drop_sublist _ _);exact⟨f,g,bB,q,bq,bf,M,bz,I,rfl,rfl,h1,⟨r,t⟩,λu hu=>hu _ _ _ (h2.below (hi:=hi) (λ_ _ _ _ _ i=>i.in.2) z (λs h=>o s (fp h)) r) (l.E4 (lo:=lo) (λ_ _ _ _ _ i=>i.in.2) A (λs h=>o s (fg h)) t),
  w,h2,l⟩
theorem dh.build{h:Nat}{d e:aq Key}{a kb ks:O Key}{b c kids bB bq q:O Nat}{bf M bz:O aI}(h1:fE (fx P (h+1)) lo d a b bB bf)(h2:gx (fx P (h+1)) hi e kb c bq bz)
 (hs:dG (fx Q (h+1)) d e ks kids q M) (g:∀x∈bB++bq,P x=Q x) (i:∀s∈a++ks++kb,cv s) (hd:∀x∈b++kids++c,x<1600):
 dh Q (h+2) ⟨false,a++ks++kb,[],b++kids++c⟩ lo hi (bB++(q++bq)) (bf++(M++bz)):=by
 have av:fE (fx Q (h+1)) lo d a b bB bf:=h1.lE λ_ _ _ _ _ hs f=>f.agree λx hx=>g x (jz _ (hs x hx));have ax:gx (fx Q (h+1)) hi e kb c bq bz:=h2.lE λ_ _ _ _ _ hs f=>f.agree λx hx=>g x (ic _ (hs x hx));refine⟨rfl,rfl,i,hd,?_⟩;show dG _ lo hi (a++ks++kb) (b++kids++c) _ _;rw[cO,cO];exact av.EZ (hs.post ax)
end Go.Proofs.YtkdhdlfonmgheaaGreat
namespace Go.Proofs.YtkdhdlfonmgheaaGreat
variable {lo hi:aq Key}{P Q:Nat->aq aD}
theorem dh.one{h x:Nat}{n:aD}{p:O Nat}{L:O aI}(a:dh P h n lo hi p L)(h2:2<=n.keys.length)(hx:Q x=some n)(b:∀y∈p,P y=Q y):dG (fx Q h) lo hi [] [x] (x::p) L:=
 .one ⟨a.lay (λe=>by rw[e]at h2;simp at h2) hx b,n,hx,h2⟩
theorem k1{n:aD}(h:n.leaf=true):cellsOf n=List.zipWith (λk v=>2+k.length+v.length) n.keys n.vals:=by unfold cellsOf;rw[h];rfl
theorem k2{n:aD}(h:n.leaf=false):cellsOf n=n.keys.map λk=>3+k.length:=by unfold cellsOf;rw[h];rfl
theorem xq{B:Nat}{f:Key->Key->Nat}:∀ {ks vs:O Key},(∀k∈ks,∀v∈vs,f k v<=B)->∀x∈List.zipWith f ks vs,x<=B
 | [],vs,_,x,hx=>by simp at hx
 |k::ks,[],_,x,hx=>by simp at hx
 |k::ks,v::vs,h,x,hx=>by
  rw[List.zipWith_cons_cons]at hx
  rcases cU.1 hx with rfl|hx
  .exact h k (by simp) v (by simp)
  .exact xq (λk a v b=>h k (by simp[a]) v (by simp[b])) x hx
def cm(n:aD):Nat:=gm (cellsOf n) (if n.leaf then n.keys.length-1 else n.keys.length-2)
theorem dh.two{h x y:Nat}{n:aD}{p:O Nat}{L:O aI}(b:dh P h n lo hi p L)(h1:232<bJ n)(h2:n.leaf=true->bJ n<=310)(q:n.leaf=false->bJ n<=335):
 1<=cm n/\(if n.leaf then cm n<=n.keys.length-1/\1<=n.keys.length-1 else cm n<=n.keys.length-2/\1<=n.keys.length-2)/\bJ (n.left (cm n))<=232/\bJ (n.right (cm n))<=232/\
  ∃ (t:cm n<n.keys.length) (bB bq:O Nat) (bf bz:O aI),p=bB++bq/\L=bf++bz/\cv n.keys[cm n]/\
   (Q x=some (n.left (cm n))->Q y=some (n.right (cm n))->(∀z∈p,P z=Q z)->dG (fx Q h) lo hi [n.keys[cm n]] [x,y] ((x::bB)++(y::bq)) (bf++bz)):=by
 have main:∀ (i:Nat),2<=i->(E:i<n.keys.length)->2<=(n.left i).keys.length->2<=(n.right i).keys.length->∃ (t:i<n.keys.length) (bB bq:O Nat) (bf bz:O aI),p=bB++bq/\L=bf++bz/\cv n.keys[i]/\
  (Q x=some (n.left i)->Q y=some (n.right i)->(∀z∈p,P z=Q z)->dG (fx Q h) lo hi [n.keys[i]] [x,y] ((x::bB)++(y::bq)) (bf++bz)):=by
  intro i F r u w;obtain⟨bB,bq,bf,bz,rfl,rfl,v1,v2⟩:=b.xo (by omega:1<=i) r;have A:cv n.keys[i]:=by
   match h,b with
   |0,b=>exact b.elim
   |1,b=>exact b.1.ok _ (cE _)
   |h+2,b=>exact b.2.2.1 _ (cE _)
  refine⟨r,bB,bq,bf,bz,rfl,rfl,A,λhx B s=>?_⟩;have s1:=v1.one u hx λz f=>s z (jz _ f);have s2:=v2.one w B λz f=>s z (ic _ f);exact s1.app s2
 match h,b with
 |0,b=>exact b.elim
 |1,b=>
  have a:n.leaf=true:=b.1.leaf;have g:(cellsOf n).length=n.keys.length:=by rw[k1 a,List.length_zipWith,b.1.len,Nat.min_self]
  have hB:∀c∈cellsOf n,c<=50:=by
   rw[k1 a];exact xq λk j v C=>by have:=(b.1.ok k j).2;have:=b.1.vals v C;omega
  have D:bJ n=1+(cellsOf n).sum:=by unfold bJ;rw[a];rfl
  have h2:=h2 a;obtain⟨a1,a2,a3,a4⟩:=E7 hB I I;have l:cm n=gm (cellsOf n) ((cellsOf n).length-1):=by unfold cm;rw[a,g];rfl
  rw[←l]at a1 a2 a3 a4;have d:n.left (cm n)=⟨true,n.keys.take (cm n),n.vals.take (cm n),[]⟩:=by unfold aD.left;rw[a];rfl
  have e:n.right (cm n)=⟨true,n.keys.drop (cm n),n.vals.drop (cm n),[]⟩:=by unfold aD.right;rw[a];rfl
  have m:cellsOf (n.left (cm n))=(cellsOf n).take (cm n):=by rw[d,k1 rfl,k1 a];exact List.take_zipWith.symm
  have o:cellsOf (n.right (cm n))=(cellsOf n).drop (cm n):=by rw[e,k1 rfl,k1 a];exact List.drop_zipWith.symm
  refine⟨I,by rw[a];exact⟨I,I⟩,?_,?_,main _ a1 I (by rw[d];show 2<=(n.keys.take _).length;rw[cC];omega) (by rw[e];show 2<=(n.keys.drop _).length;rw[c_];omega)⟩
  .unfold bJ;rw[m,d];show 1+_<=_;omega
  .unfold bJ;rw[o,e];show 1+_<=_;omega
 |h+2,b=>
  have a:n.leaf=false:=b.1;have g:(cellsOf n).length=n.keys.length:=by rw[k2 a,dL]
  have hB:∀c∈cellsOf n,c<=27:=by
   rw[k2 a];intro c hc;obtain⟨k,j,rfl⟩:=eE.1 hc;have:=(b.2.2.1 k j).2;omega
  have D:bJ n=3+(cellsOf n).sum:=by unfold bJ;rw[a];rfl
  have q:=q a;obtain⟨a1,a2,a3,a4⟩:=E8 hB I I;have l:cm n=gm (cellsOf n) ((cellsOf n).length-2):=by unfold cm;rw[a,g];rfl
  rw[←l]at a1 a2 a3 a4;have d:n.left (cm n)=⟨false,n.keys.take (cm n),[],n.kids.take (cm n+1)⟩:=by unfold aD.left;rw[a];rfl
  have e:n.right (cm n)=⟨false,n.keys.drop (cm n+1),[],n.kids.drop (cm n+1)⟩:=by unfold aD.right;rw[a];rfl
  have m:cellsOf (n.left (cm n))=(cellsOf n).take (cm n):=by rw[d,k2 rfl,k2 a];exact mJ
  have o:cellsOf (n.right (cm n))=(cellsOf n).drop (cm n+1):=by rw[e,k2 rfl,k2 a];exact oT
  refine⟨I,by rw[a];exact⟨I,I⟩,?_,?_,main _ a1 I (by rw[d];show 2<=(n.keys.take _).length;rw[cC];omega) (by rw[e];show 2<=(n.keys.drop _).length;rw[c_];omega)⟩
  .unfold bJ;rw[m,d];show 3+_<=_;omega
  .unfold bJ;rw[o,e];show 3+_<=_;omega
end Go.Proofs.YtkdhdlfonmgheaaGreat
namespace Go.Proofs.YtkdhdlfonmgheaaGreat
variable {lo hi:aq Key}{P Q:Nat->aq aD}
theorem dh.cells{h:Nat}{n:aD}{p:O Nat}{L:O aI}(a:dh P h n lo hi p L):(cellsOf n).length=n.keys.length/\∀c∈cellsOf n,c<=if n.leaf then 50 else 27:=by
 match h,a with
 |0,a=>exact a.elim
 |1,a=>
  have b:n.leaf=true:=a.1.leaf;rw[k1 b,b];exact⟨by rw[List.length_zipWith,a.1.len,Nat.min_self],xq λk d v e=>by have:=(a.1.ok k d).2;have:=a.1.vals v e;simp only[if_true];omega⟩
 |h+2,a=>
  have b:n.leaf=false:=a.1;rw[k2 b,b];refine⟨by rw[dL],λc hc=>?_⟩;obtain⟨k,d,rfl⟩:=eE.1 hc;have:=(a.2.2.1 k d).2;show 3+k.length<=27;omega
theorem dh.xr{h:Nat}{n:aD}{p:O Nat}{L:O aI}(b:dh P h n lo hi p L)(hs:80<=bJ n):2<=n.keys.length:=by
 obtain⟨h1,h2⟩:=b.cells;have:=m5 h2;rw[h1]at this;unfold bJ at hs
 cases a:n.leaf with
 |true=>rw[a]at hs this;simp only[if_true]at hs this;omega
 |false=>rw[a]at hs this;simp only[fN,if_false]at hs this;omega
theorem E9{a b:aD}{s:Key}(h:a.leaf=b.leaf)(f:a.leaf=true->a.vals.length=a.keys.length):bJ (ee a s b)=if a.leaf then bJ a+bJ b-1 else bJ a+bJ b+s.length:=by
 cases c:a.leaf with
 |true=>
  have e:ee a s b=⟨true,a.keys++b.keys,a.vals++b.vals,[]⟩:=by unfold ee;rw[c];rfl
  have d:b.leaf=true:=by rw[←h,c]
  unfold bJ;rw[e,k1 rfl,k1 c,k1 d,c,d];simp only[if_true];rw[oU (f c).symm,lj];omega
 |false=>
  have e:ee a s b=⟨false,a.keys++s::b.keys,[],a.kids++b.kids⟩:=by unfold ee;rw[c];rfl
  have d:b.leaf=false:=by rw[←h,c]
  unfold bJ;rw[e,k2 rfl,k2 c,k2 d,c,d];simp only[fN,if_false,fW,ji,lj,qA];omega
def iI(ks:O Key):Nat:=(ks.map λk=>3+k.length).sum
theorem vg(a b:O Key):iI (a++b)=iI a+iI b:=by unfold iI;rw[fW,lj]
theorem AG{n:aD}(h:n.leaf=false):bJ n=3+iI n.keys:=by unfold bJ iI;rw[h,k2 h];rfl
theorem E_(k:Key):iI [k]=3+k.length:=by simp[iI]
theorem xt{n:aD}{ks:O Key}{kids:O Nat}{fr j:Nat}(h:n.leaf=false)(a:ks.length<=1)(b:∀k∈ks,cv k)(c:fr<=j):
 bJ ⟨false,n.keys.take fr++ks++n.keys.drop j,[],kids⟩<=bJ n+27:=by
 rw[AG h,AG rfl];show 3+iI (n.keys.take fr++ks++n.keys.drop j)<=_;rw[vg,vg];have h1:iI ks<=27:=by
  match ks,a with
  | [],_=>simp[iI]
  | [k],_=>rw[E_];have:=(b k (by simp)).2;omega
 have h2:iI n.keys=iI (n.keys.take fr)+iI (n.keys.drop fr):=by rw[←vg,ib]
 have d:iI (n.keys.drop fr)=iI ((n.keys.drop fr).take (j-fr))+iI (n.keys.drop j):=by
  rw[←vg]
  congr 1
  have:n.keys.drop j=(n.keys.drop fr).drop (j-fr):=by rw[qB];congr 1;omega
  rw[this,ib]
 omega
end Go.Proofs.YtkdhdlfonmgheaaGreat
namespace Go.Proofs.YtkdhdlfonmgheaaGreat
variable {lo hi:aq Key}{P Q:Nat->aq aD}
def mc(Q:Nat->aq aD)(n:aD)(ks:O Key)(kids:O Nat):Prop:=
 (bJ n<=232/\∃x,ks=[]/\kids=[x]/\Q x=some n)\/
 (232<bJ n/\∃ (x y:Nat) (a:cm n<n.keys.length),ks=[n.keys[cm n]]/\kids=[x,y]/\Q x=some (n.left (cm n))/\Q y=some (n.right (cm n)))
theorem dh.fits{h:Nat}{n:aD}{p:O Nat}{L:O aI}{ks:O Key}{kids:O Nat}(a:dh P h n lo hi p L)(h2:2<=n.keys.length)(d:n.leaf=true->bJ n<=310)(e:n.leaf=false->bJ n<=335)
 (hf:mc Q n ks kids) (b:∀x∈p,P x=Q x):∃c,dG (fx Q h) lo hi ks kids c L/\c.Perm (kids++p)/\(∀s∈ks,cv s)/\ks.length<=1:=by
 rcases hf with ⟨_,x,rfl,rfl,hx⟩|⟨hs,x,y,j,rfl,rfl,hx,f⟩
 .exact⟨x::p,a.one h2 hx b,List.Perm.refl _,by simp,by simp⟩
 .obtain⟨_,_,_,_,_,bB,bq,bf,bz,rfl,rfl,g,i⟩:=a.two (Q:=Q) (x:=x) (y:=y) hs d e
  refine⟨_,i hx f b,?_,by simpa using g,by simp⟩;show((x::bB)++(y::bq)).Perm ([x,y]++(bB++bq));simp only[nv,iT];exact(mG).cons x
theorem Fa{h:Nat}{a c:aD}{f g:aq Key}{i:Nat}{bB bq b:O Nat}{bf hT bz:O aI}{ks:O Key}{kids:O Nat}(h0:a.leaf=false)(j:∀k∈a.keys,cv k)(l:∀x∈a.kids,x<1600)
 (p:fE (fx P (h+1)) lo f (a.keys.take i) (a.kids.take i) bB bf) (q:gx (fx P (h+1)) hi g (a.keys.drop i) (a.kids.drop (i+1)) bq bz) (m:dh P (h+1) c f g b hT) (h1:80<=bJ c) (h2:bJ c<=282)
 (hf:mc Q c ks kids) (d:∀x∈bB++(b++bq),P x=Q x) (r:∀x∈kids,x<1600):
 ∃n,dh Q (h+2) (ga a i (i+1) ks kids) lo hi n (bf++(hT++bz))/\n.Perm (kids++(bB++(b++bq)))/\bJ (ga a i (i+1) ks kids)<=bJ a+27/\a.keys.length<=(ga a i (i+1) ks kids).keys.length:=by
 obtain⟨dH,hs,t,o,u⟩:=m.fits (m.xr h1) (λ_=>I) (λ_=>I) hf λx hx=>d x (ic _ (jz _ hx));have v:=dh.build p q hs (λx hx=>by
  rcases cT.1 hx with hx|hx
  .exact d x (jz _ hx)
  .exact d x (ic _ (ic _ hx)))
  (λs hs=>by
    rcases cT.1 hs with hs|hs
    .rcases cT.1 hs with hs|hs
     .exact j s (fp hs)
     .exact o s hs
    .exact j s (fg hs))
  (λx hx=>by
    rcases cT.1 hx with hx|hx
    .rcases cT.1 hx with hx|hx
     .exact l x (fp hx)
     .exact r x hx
    .exact l x (fg hx))
 have e:ga a i (i+1) ks kids=⟨false,a.keys.take i++ks++a.keys.drop i,[],a.kids.take i++kids++a.kids.drop (i+1)⟩:=by unfold ga;rw[Nat.add_sub_cancel]
 rw[e];refine⟨_,v,?_,xt h0 u o (bp _),?_⟩
 .have av:(dH++bq).Perm (kids++(b++bq)):=by
   rw[←cO];exact t.append_right _
  refine(List.Perm.append_left bB av).trans ?_;have ax:=(qC (l₁:=bB) (l₂:=kids)).append_right (b++bq);rw[cO,cO]at ax;exact ax
 .show a.keys.length<=(a.keys.take i++ks++a.keys.drop i).length
  have:=congrArg List.length (ib i a.keys);simp only[cz]at this⊢;omega
end Go.Proofs.YtkdhdlfonmgheaaGreat
namespace Go.Proofs.YtkdhdlfonmgheaaGreat
variable {lo hi:aq Key}{P Q:Nat->aq aD}
theorem vh{a b:aD}{s:Key}:a.keys.length+b.keys.length<=(ee a s b).keys.length:=by
 unfold ee;split
 .show _<=(a.keys++b.keys).length
  rw[cz];omega
 .show _<=(a.keys++s::b.keys).length
  rw[cz,e8];omega
theorem AH{a b:aD}{s:Key}:(ee a s b).leaf=a.leaf:=by
 unfold ee
 cases h:a.leaf<;>simp
theorem vi{h:Nat}{a b:aD}{s:Key}{fc dO d f:aq Key}{pa g:O Nat}{i j:O aI}(c:dh P h a fc dO pa i)(k:dh P h b d f g j)(hs:cv s)(h1:bJ a+bJ b<=311):
 ((ee a s b).leaf=true->bJ (ee a s b)<=310)/\((ee a s b).leaf=false->bJ (ee a s b)<=335):=by
 have l:a.leaf=b.leaf:=by rw[c.leaf,k.leaf]
 have m:a.leaf=true->a.vals.length=a.keys.length:=λh1=>by
  match h,c with
  |0,c=>exact c.elim
  |1,c=>exact c.1.len
  |h+2,c=>rw[c.1]at h1;cases h1
 rw[AH,E9 l m];have:=hs.2;constructor
 .intro e;rw[e];simp only[if_true];omega
 .intro e;rw[e];simp only[fN,if_false];omega
theorem Fb{h:Nat}{d g:aD}{u v:aq Key}{i:Nat}{bB bq f:O Nat}{bf hT bz:O aI}{k:Key}(h0:d.leaf=false)(w:∀k∈d.keys,cv k)(C:∀x∈d.kids,x<1600)(hlen:d.kids.length=d.keys.length+1)(S:∀x n,P x=some n->bJ n<=232)
 (dO:1<=i) (ag:i<d.kids.length) (D:fw u v k)
 (T:fE (fx P (h+1)) lo u (d.keys.take i) (d.kids.take i) bB bf) (U:gx (fx P (h+1)) hi v (d.keys.drop i) (d.kids.drop (i+1)) bq bz) (E:dh P (h+1) g u v f hT) (h1:bJ g<80):
 ∃ (o:aD) (y:O Nat) (F:i-1<d.kids.length) (ah:i-1<d.keys.length),P d.kids[i-1]=some o/\bB.Perm (d.kids[i-1]::y)/\2<=o.keys.length/\
  ∀ (Q:Nat->aq aD) (ks:O Key) (kids:O Nat),mc Q (ee o d.keys[i-1] g) ks kids->(∀x∈y++(f++bq),P x=Q x)->(∀x∈kids,x<1600)->
   ∃G,dh Q (h+2) (ga d (i-1) (i+1) ks kids) lo hi G (bf++(hT++bz))/\G.Perm (kids++(y++(f++bq)))/\bJ (ga d (i-1) (i+1) ks kids)<=bJ d+27/\d.keys.length<=(ga d (i-1) (i+1) ks kids).keys.length+1:=by
 obtain⟨s,V,aG,r,aP,N,hs,rfl,z,rfl,rfl,⟨A,m,j,p⟩,H,ai⟩:=T.last (by rw[cC];omega);have W:(d.keys.take i).length=i:=by rw[cC];omega
 have X:(d.kids.take i).length=i:=by rw[cC];omega
 have z:s=d.keys[i-1]'I:=by
  rw[z,oV];congr 1;omega
 have Y:(d.kids.take i)[(d.kids.take i).length-1]'I=d.kids[i-1]'I:=by
  rw[oV];congr 1;omega
 rw[Y]at A j;obtain⟨o,q,t,rfl,_,J⟩:=A.kB;rw[t]at j;have p:2<=o.keys.length:=by rw[Option.some.inj j];exact p
 clear j;subst z;have B:=(show fx P (h+1) V (some (d.keys[i-1]'I)) (d.kids[i-1]'I) (d.kids[i-1]'I::q) N from⟨A,o,t,p⟩).in;obtain⟨x,hx⟩:=qz _ B.1;have K:=w _ (cE (l:=d.keys) (n:=i-1) I);have Z:=dh.merge J E K (λc hc=>iG (j3 ((B.2.2 x hx).1 c hc) ((B.2.2 x hx).2 _ rfl))) (λc hc=>iG (j3 (D.1 _ rfl) (D.2 c hc)));have L:=vi J E K (by have:=S _ _ t;omega);have aj:=vh (a:=o) (b:=g) (s:=d.keys[i-1]'I);refine⟨o,aG++q,I,I,t,mG,p,λQ ks kids hf M aa=>?_⟩;obtain⟨dH,ab,ac,R,ad⟩:=Z.fits I L.1 L.2 hf λx hx=>M x (by
  rcases cT.1 hx with hx|hx
  .exact jz _ (ic _ hx)
  .exact ic _ (jz _ hx))
 have ae:(d.keys.take i).take ((d.keys.take i).length-1)=d.keys.take (i-1):=by rw[W,qD];congr 1;omega
 have af:(d.kids.take i).take ((d.kids.take i).length-1)=d.kids.take (i-1):=by rw[X,qD];congr 1;omega
 rw[ae,af]at H;have F:=dh.build H U ab (λx hx=>M x (by
  rcases cT.1 hx with hx|hx
  .exact jz _ (jz _ hx)
  .exact ic _ (ic _ hx)))
  (λs hs=>by
    rcases cT.1 hs with hs|hs
    .rcases cT.1 hs with hs|hs
     .exact w s (fp hs)
     .exact R s hs
    .exact w s (fg hs))
  (λx hx=>by
    rcases cT.1 hx with hx|hx
    .rcases cT.1 hx with hx|hx
     .exact C x (fp hx)
     .exact aa x hx
    .exact C x (fg hx))
 have e:ga d (i-1) (i+1) ks kids=⟨false,d.keys.take (i-1)++ks++d.keys.drop i,[],d.kids.take (i-1)++kids++d.kids.drop (i+1)⟩:=by unfold ga;rw[Nat.add_sub_cancel]
 rw[e];refine⟨_,by simpa[cO] using F,?_,xt h0 ad R I,?_⟩
 .have av:(dH++bq).Perm (kids++(q++(f++bq))):=by
   have:=ac.append_right bq;simpa[cO] using this
  refine(List.Perm.append_left aG av).trans ?_;have ax:=(qC (l₁:=aG) (l₂:=kids)).append_right (q++(f++bq));simpa[cO] using ax
 .show d.keys.length<=(d.keys.take (i-1)++ks++d.keys.drop i).length+1
  simp only[cz,cC,c_];omega
end Go.Proofs.YtkdhdlfonmgheaaGreat
namespace Go.Proofs.YtkdhdlfonmgheaaGreat
variable {lo hi:aq Key}{P Q:Nat->aq aD}
theorem Fc{h:Nat}{d j:aD}{w y:aq Key}{i:Nat}{bB bq f:O Nat}{bf hT bz:O aI}{k:Key}(h0:d.leaf=false)(z:∀k∈d.keys,cv k)(E:∀x∈d.kids,x<1600)(hlen:d.kids.length=d.keys.length+1)(U:∀x n,P x=some n->bJ n<=232)
 (p:i+1<d.kids.length) (F:fw w y k)
 (V:fE (fx P (h+1)) lo w (d.keys.take i) (d.kids.take i) bB bf) (W:gx (fx P (h+1)) hi y (d.keys.drop i) (d.kids.drop (i+1)) bq bz) (G:dh P (h+1) j w y f hT) (h1:bJ j<80):
 ∃ (o:aD) (A:O Nat) (H:i+1<d.kids.length) (ae:i<d.keys.length),P d.kids[i+1]=some o/\bq.Perm (d.kids[i+1]::A)/\2<=o.keys.length/\
  ∀ (Q:Nat->aq aD) (ks:O Key) (kids:O Nat),mc Q (ee j d.keys[i] o) ks kids->(∀x∈bB++(f++A),P x=Q x)->(∀x∈kids,x<1600)->
   ∃J,dh Q (h+2) (ga d i (i+2) ks kids) lo hi J (bf++(hT++bz))/\J.Perm (kids++(bB++(f++A)))/\bJ (ga d i (i+2) ks kids)<=bJ d+27/\d.keys.length<=(ga d i (i+2) ks kids).keys.length+1:=by
 obtain⟨s,X,r,g,N,af,hs,rfl,B,rfl,rfl,⟨C,m,q,t⟩,K⟩:=W.head (by rw[c_];omega);have B:s=d.keys[i]'I:=by rw[B,qE];rfl
 have Y:(d.kids.drop (i+1))[0]'(by rw[c_];omega)=d.kids[i+1]'p:=by rw[qE]
 rw[Y]at C q;obtain⟨o,u,v,rfl,_,L⟩:=C.kB;rw[v]at q;have t:2<=o.keys.length:=by rw[Option.some.inj q];exact t
 clear q;subst B;have D:=(show fx P (h+1) (some (d.keys[i]'I)) X (d.kids[i+1]'p) (d.kids[i+1]'p::u) N from⟨C,o,v,t⟩).in;obtain⟨x,hx⟩:=qz _ D.1;have M:=z _ (cE (l:=d.keys) (n:=i) I);have Z:=dh.merge G L M (λc hc=>iG (j3 (F.1 c hc) (F.2 _ rfl))) (λc hc=>iG (j3 ((D.2.2 x hx).1 _ rfl) ((D.2.2 x hx).2 c hc)));have R:=vi G L M (by have:=U _ _ v;omega);have ag:=vh (a:=j) (b:=o) (s:=d.keys[i]'I);refine⟨o,u++g,p,I,v,List.Perm.refl _,t,λQ ks kids hf S aa=>?_⟩;obtain⟨dH,ab,ac,T,ad⟩:=Z.fits I R.1 R.2 hf λx hx=>S x (by
  rcases cT.1 hx with hx|hx
  .exact ic _ (jz _ hx)
  .exact ic _ (ic _ (jz _ hx)))
 rw[qB,qB]at K;have H:=dh.build V K ab (λx hx=>S x (by
  rcases cT.1 hx with hx|hx
  .exact jz _ hx
  .exact ic _ (ic _ (ic _ hx))))
  (λs hs=>by
    rcases cT.1 hs with hs|hs
    .rcases cT.1 hs with hs|hs
     .exact z s (fp hs)
     .exact T s hs
    .exact z s (fg hs))
  (λx hx=>by
    rcases cT.1 hx with hx|hx
    .rcases cT.1 hx with hx|hx
     .exact E x (fp hx)
     .exact aa x hx
    .exact E x (fg hx))
 have e:ga d i (i+2) ks kids=⟨false,d.keys.take i++ks++d.keys.drop (i+1),[],d.kids.take i++kids++d.kids.drop (i+1+1)⟩:=rfl;rw[e];refine⟨_,by simpa[cO] using H,?_,xt h0 ad T I,?_⟩
 .have av:(dH++g).Perm (kids++(f++(u++g))):=by
   have:=ac.append_right g;simpa[cO] using this
  refine(List.Perm.append_left bB av).trans ?_;have ax:=(qC (l₁:=bB) (l₂:=kids)).append_right (f++(u++g));simpa[cO] using ax
 .show d.keys.length<=(d.keys.take i++ks++d.keys.drop (i+1)).length+1
  simp only[cz,cC,c_];omega
end Go.Proofs.YtkdhdlfonmgheaaGreat
namespace Go.Proofs.YtkdhdlfonmgheaaGreat
variable {lo hi:aq Key}{P:Nat->aq aD}
def cN(ks:O Key)(k:Key):Nat:=ks.findIdx λs=>decide (¬bH s k)
theorem pX(ks:O Key)(k:Key):cN ks k<=ks.length:=List.findIdx_le_length
theorem om{ks:O Key}{k:Key}{j:Nat}(h:j<cN ks k)(a:j<ks.length):bH ks[j] k:=by
 have:=List.not_of_lt_findIdx h;simpa using this
theorem pY{ks:O Key}{k:Key}(hs:ks.Pairwise bH){j:Nat}(h:cN ks k<=j)(b:j<ks.length):ey k ks[j]:=by
 have h1:cN ks k<ks.length:=by omega
 have h2:ey k ks[cN ks k]:=by
  have:=List.findIdx_getElem (p:=λs=>decide (¬bH s k)) (xs:=ks) (w:=h1);exact Az.1 (b1 this)
 rcases dJ (cN ks k) j with a|a
 .exact iG (j3 h2 (mK.1 hs _ _ h1 b a))
 .have:cN ks k=j:=by omega
  subst this;exact h2
theorem Fe{α:Type}{f:α->ai}{L:O α}{i:Nat}(h1:∀x∈L.take i,f x=true)(h2:∀x∈L.drop i,f x=false):L.filter f=L.take i:=by
 conv=>lhs;rw[←ib i L]
 rw[kQ,jT.2 h1,lT.2 (λx hx=>by rw[h2 x hx];decide),fQ]
theorem AI{α:Type}{f:α->ai}{L:O α}{i:Nat}(h1:∀x∈L.take i,f x=false)(h2:∀x∈L.drop i,f x=true):L.filter f=L.drop i:=by
 conv=>lhs;rw[←ib i L]
 rw[kQ,lT.2 (λx hx=>by rw[h1 x hx];decide),jT.2 h2,iT]
theorem xu{ks vs:O Key}{i:Nat}{x:aI}(h:x∈(ks.zip vs).take i):∃ (j:Nat) (a:j<ks.length),j<i/\x.1=ks[j]:=by
 obtain⟨j,a,rfl⟩:=List.mem_take_iff_getElem.1 h;have h1:j<(ks.zip vs).length:=by omega
 rw[mI]at h1;exact⟨j,I,I,by rw[sm]⟩
theorem xv{ks vs:O Key}{i:Nat}{x:aI}(h:x∈(ks.zip vs).drop i):∃ (j:Nat) (a:j<ks.length),i<=j/\x.1=ks[j]:=by
 obtain⟨j,a,rfl⟩:=List.mem_drop_iff_getElem.1 h;have h1:i+j<(ks.zip vs).length:=by omega
 rw[mI]at h1;exact⟨i+j,I,I,by rw[sm]⟩
theorem Ff{ks vs:O Key}{k v:Key}(hs:ks.Pairwise bH):e4 (ks.zip vs) k v=(ks.zip vs).take (cN ks k)++(k,v)::(ks.zip vs).drop (if ks[cN ks k]? =some k then cN ks k+1 else cN ks k):=by
 unfold e4;rw[Fe (f:=λp:aI=>decide (bH p.1 k)) (i:=cN ks k) (λx hx=>by
  obtain⟨j,a,h1,e⟩:=xu hx;rw[e];exact dK (om h1 a)) (λx hx=>by
  obtain⟨j,a,h1,e⟩:=xv hx;rw[e];exact iV (pY hs h1 a))]
 congr 2
 split
 .rename_i he
  obtain⟨aK,he⟩:=ix.1 he;refine AI (λx hx=>?_) (λx hx=>?_)
  .obtain⟨j,a,h1,e⟩:=xu hx
   rw[e];refine iV ?_;rcases dJ j (cN ks k) with h2|h2
   .exact j2 (om h2 a)
   .have:j=cN ks k:=by omega
    subst this;rw[he];exact mb _
  .obtain⟨j,a,h1,e⟩:=xv hx
   rw[e];refine dK ?_;have:=mK.1 hs _ j aK a I;rwa[he]at this
 .rename_i he
  refine AI (λx hx=>?_) (λx hx=>?_)
  .obtain⟨j,a,h1,e⟩:=xu hx
   rw[e];exact iV (j2 (om h1 a))
  .obtain⟨j,a,h1,e⟩:=xv hx
   rw[e];refine dK ?_;rcases oe.1 (pY hs h1 a) with h2|h2
   .exact h2
   .have aK:cN ks k<ks.length:=by omega
    rcases dJ (cN ks k) j with b|b
    .exact j3 (pY hs (bp _) aK) (mK.1 hs _ _ aK a b)
    .have:j=cN ks k:=by omega
     subst this;exact absurd ((dE aK).trans (congrArg some h2.symm)) he
end Go.Proofs.YtkdhdlfonmgheaaGreat
namespace Go.Proofs.YtkdhdlfonmgheaaGreat
open Go a7 Go.Proofs.Tryz
theorem vj{n:Nat}(h:n<256):((UInt8.ofNat n).toNat:Nat)=n:=by
 simp[jC h]
theorem AJ{src dst:TypeId}{w:J}{s:Y}{ns:O Int}(hs:Tryz.prog.underlying src=some (.slice 5))(hd:Tryz.prog.underlying dst=some .string)(h:Src 1 w s (ns.map (.int .u8))):
 Sem.run aj (convert src dst s) w=.ok (.string (S (ns.map λn=>UInt8.ofNat n.toNat))) w:=by
 rw[D8 hs (by kernel_rfl) hd h,D_]
def tl(f:Nat->Int)(k m:Nat):O UInt8:=(List.range (m-k)).map λj=>UInt8.ofNat (f (k+j)).toNat
theorem xw{w:J}{A:ae}:∀ (vs:O aa) (i:Nat),(∀j v,vs[j]? =some v->w.cell? (A.add (i+j))=some v)->cD w A i vs.length=some vs
 | [],_,_=>rfl
 |v::vs,i,h=>by
  have h0:=h 0 v rfl
  have a:=xw vs (i+1) (λj u b=>by rw[show i+1+j=i+(j+1) from I];exact h (j+1) u (by simpa using b))
  rw[kN]at h0
  simp[cD,h0,a]
def aJ(l:O UInt8):O aa:=l.map λb=>Value.int .u8 (b.toNat:Int)
theorem ez(l:O UInt8):(aJ l).length=l.length:=by simp[aJ]
theorem oo{l:O UInt8}{i:Nat}(h:i<l.length):(aJ l)[i]? =some (.int .u8 ((l[i].toNat:Nat):Int)):=by simp[aJ,h]
def pZ(c:Nat):aq Nat:=if 48<=c/\c<=57 then some (c-48) else if 97<=c|||32/\c|||32<=122 then some ((c|||32)-97+10) else none
theorem Fg(c:UInt8):((c.toNat:Int).toNat.toUInt8)=c:=by simp
theorem k3(l:O UInt8):∀v∈aJ l,Plain v:=by
 intro v a;obtain⟨n,_,rfl⟩:=eE.1 a;trivial
theorem oq(a b:O UInt8):aJ (a++b)=aJ a++aJ b:=by simp[aJ]
theorem take_succ{α:Type}(ls:O α){i:Nat}(h:i<ls.length):ls.take (i+1)=ls.take i++ [ls[i]]:=by
 rw[iy h]
structure AK where
 IX:ai
 b:O UInt8
 h:b.length=16
 deriving DecidableEq
def Var(w:J)(b:Nat)(vs:O aa)(T:TypeId):Prop:=bu w b vs.toArray T
section
variable {w w':J}{b:Nat}{vs us:O aa}{T:TypeId}
theorem Var.new(w:J)(vs:O aa)(T:TypeId):Var (w.alloc (.cells vs.toArray T)) w.heap.size vs T:=bu.new _ _ _
theorem Var.rd(h:Var w b vs T){n:Nat}(a:vs.length=n):cD w b 0 n=some vs:=by
 have:=pe h n 0 0 (by simp[a]);rw[this];simp[←a]
theorem Var.Fh(h:Var w b vs T){o n:Nat}(a:o+n<=vs.length):cD w ⟨b,o,none⟩ 0 n=some ((vs.drop o).take n):=by
 have:=pe h n o 0 (by simpa using a);rw[this];simp
theorem Var.cell(h:Var w b vs T){i:Nat}:w.cell? ⟨b,i,none⟩=vs[i]? :=by
 rw[bu.cell h];simp
theorem Var.ext(h:Var w b vs T)(hx:Ext w w'):Var w' b vs T:=bu.ext h hx
theorem Var.ab{W:Nat->Prop}(h:Var w b vs T)(hx:ad W w w')(a:¬W b):Var w' b vs T:=bu.ab h hx a
theorem Var.drew(h:Var w b vs T):Var w.drew b vs T:=bu.drew h
theorem Var.lt(h:Var w b vs T):b<w.heap.size:=bu.lt h
theorem Var.cc(h:Var w b vs T)(a:us.length=vs.length)(c:∀v∈us,Plain v):bA w b us:=bu.cc h 0 us (by simp[a]) c
theorem Var.put(h:Var w b vs T)(a:us.length=vs.length):Var (setCells w b 0 us) b us T:=by
 have:=bu.sZ us 0 0 h;simp only[kN]at this;have e:(gF vs.toArray 0 us)=us.toArray:=by
  have h1:=s3 us vs.toArray 0 (by simp[a]);rw[cB,a,List.take_zero,iT,dM (by rw[Array.length_toList,iY];simp)]at h1;apply Array.toList_inj.1;rw[h1]
 rwa[e]at this
end
theorem aW{w:J}{K:J->Prop}(h:K w):al w K:=h
theorem bj{w:J}{c:Array aa}{vs:O aa}{T:TypeId}(hc:c=vs.toArray){K:J->Prop}(h:∀w',Var w' w.heap.size vs T->Ext w w'->w'.heap.size=w.heap.size+1->K w'):al (w.alloc (.cells c T)) K:=by
 subst hc;exact h _ (Var.new _ _ _) (ad.alloc (.refl _ _) _) (by simp)
theorem cw{w:J}{b:Nat}{vs us l:O aa}{T:TypeId}(a:Var w b vs T)(c:us.length=vs.length)(d:l=us){K:J->Prop}(h:∀w',Var w' b us T->ad (λq=>q=b) w w'->w'.heap.size=w.heap.size->K w'):al (setCells w b 0 l) K:=by
 subst d;refine h _ (a.put c) (ad.kW (.refl _ _) l 0) ?_;have:∀ (vs:O aa) (i:Nat) (w:J),(setCells w b i vs).heap.size=w.heap.size:=by
  intro vs
  induction vs with
  |nil=>intro i w;rfl
  |cons v vs e=>intro i w;rw[setCells,e];simp[World.setCell]
 exact this _ _ _
theorem Ext.cn{w0 w w':J}{b:Nat}(h:Ext w0 w)(hc:ad (λq=>q=b) w w')(a:w0.heap.size<=b):Ext w0 w':=Ext.dy h hc (λk c=>by subst c;exact a)
theorem Var.AL{w:J}{b o n c:Nat}{vs:O aa}{T:TypeId}{l:O UInt8}(h:Var w b vs T)(e:o+n<=vs.length)(d:(vs.drop o).take n=aJ l):Src 1 w ⟨some ⟨b,o,none⟩,n,c⟩ (aJ l):=by
 have hlen:n=l.length:=by
  have:=congrArg List.length d;rw[cC,c_,ez]at this;omega
 refine⟨by rw[ez];show _=n*1;omega,(λh=>by cases h),λa f=>?_⟩
 cases f;show cD w ⟨b,o,none⟩ 0 (n*1)=_;rw[fF,h.Fh e,d]
theorem ot:hM aj 48 5 1 1:=⟨by kernel_rfl⟩
theorem Fi{l6 cM ty:TypeId}{w:J}{b o dl nP:Nat}{s:Y}{l:O UInt8}(hu:Tryz.prog.underlying l6=some (.slice 5))(hs:Src 1 w s (aJ l))(e:s.len<=dl)(a:bA w ⟨b,o,none⟩ (aJ l)):
 Sem.run aj (Builtin.copy_ #[l6,cM] ty #[.slice (some ⟨b,o,none⟩) dl nP,s]) w=.ok s.len (setCells w ⟨b,o,none⟩ 0 (aJ l)):=by
 have f:Nat.min s.len dl=s.len:=jj e;have c:=iC (P:=aj) (w:=w) (t:=5) (d:=.int .u8) (by kernel_rfl);have hc:Tryz.prog.cellsOf 5=1:=by kernel_rfl
 rw[hc]at c;have hf:=pg (P:=aj) hs;have g:=o2 (P:=aj) (A:=⟨b,o,none⟩) (aJ l) 0 w (by simpa using a.1) a.2;simp[Builtin.copy_,dm hu,Builtin.lenOf,c,f,hf,g];rfl
def a8(c k:Nat):Nat:=c/2^(8-k)*2^(8-k)
def kb(n i:Nat):Nat:=min (n-8*i) 8
theorem Src.sub{w:J}{s:Y}{vs:O aa}{lo hi:Nat}(h:Src 1 w s vs)(hc:s.len<=s.cap)(h1:lo<=hi)(h2:hi<=s.len):Src 1 w ⟨aO s.a 1 lo s.cap,hi-lo,s.cap-lo⟩ ((vs.drop lo).take (hi-lo)):=by
 have l:vs.length=s.len:=by have:=h.len;omega
 refine⟨by simp;omega,λc=>?_,λa b=>?_⟩
 .have f:s.a=none:=by
   unfold aO at c;split at c
   .exact c
   .simpa using c
  simp[h.nil f]
 .show cD w a 0 ((hi-lo)*1)=_
  by_cases e:hi=lo
  .rw[show hi-lo=0 from I];simp[cD]
  .have ar:∃A,s.a=some A/\a=A.add lo:=by
    unfold aO at b;rw[if_neg I]at b
    cases hs:s.a with
    |none=>rw[hs]at b;cases b
    |some A=>rw[hs]at b;exact⟨A,rfl,by simpa using b.symm⟩
   obtain⟨A,ar,rfl⟩:=ar;have g:=h.rd A ar;have:=xw (w:=w) (A:=A.add lo) ((vs.drop lo).take (hi-lo)) 0 (λj v d=>by
    rw[add_add];have i:j<hi-lo:=by have:=(ix.1 d).1;simp at this;omega
    rw[List.getElem?_take_of_lt i,sh]at d;have:=ph g d;simpa using this)
   have k:((vs.drop lo).take (hi-lo)).length=hi-lo:=by simp;omega
   rw[k]at this;rw[fF];exact this
def ja(l:O UInt8):Nat:=l.foldl (λn c=>n*256+c.toNat) 0
theorem Fj(l m:O UInt8):ja (l++m)=m.foldl (λn c=>n*256+c.toNat) (ja l):=by simp[ja,List.foldl_append]
theorem xx(l:O UInt8)(c:UInt8):ja (l++ [c])=ja l*256+c.toNat:=by rw[Fj];rfl
theorem m6:∀ (k:Nat) (l:O UInt8),l.length=k->ja l<256^k:=by
 intro k
 induction k with
 |zero=>intro l h;rw[kO.1 h];simp[ja]
 |succ k a=>
  intro l h;obtain⟨m,c,rfl⟩:∃m c,l=m++ [c]:=by
   rcases List.eq_nil_or_concat l with rfl|⟨m,c,b⟩
   .simp at h
   .exact⟨m,c,by rw[b,List.concat_eq_append]⟩
  rw[xx,Nat.pow_succ];have:=a m (by simpa using h);have:=oW c;omega
theorem Fk{a b:Nat}(c:a<2^64)(d:b<2^64):mO .u64 (a:Int) (b:Int)=((a|||b:Nat):Int):=by
 have e:BitVec.ofInt 64 (a:Int)=BitVec.ofNat 64 a:=by simp
 have f:BitVec.ofInt 64 (b:Int)=BitVec.ofNat 64 b:=by simp
 unfold mO;show IntKind.u64.wrap (((BitVec.ofInt 64 (a:Int)|||BitVec.ofInt 64 (b:Int)).toNat:Nat):Int)=_;rw[e,f,BitVec.toNat_or,BitVec.toNat_ofNat,BitVec.toNat_ofNat,jC c,jC d];have:a|||b<2^64:=Nat.or_lt_two_pow c d;have:a|||b<18446744073709551616:=this;rw[gQ I I]
theorem Fl(n c:Nat)(hc:c<256):n*256|||c=n*256+c:=by
 have:=Nat.shiftLeft_add_eq_or_of_lt (i:=8) (b:=c) (by simpa using hc) n;rw[Nat.shiftLeft_eq]at this;exact this.symm
theorem kZ{s:Y}{l:O UInt8}{w:J}(hs:Src 1 w s (aJ l))(hc:s.len<=s.cap){a k:Nat}(t:1<=k/\k<=8)(u:a+k<=l.length)(x:l.length<=1000000000000):
 aQ aj 156 #[s,a,k] w (λv w'=>v=.tuple #[.int .u64 ((ja ((l.drop a).take k):Nat):Int),true]/\w=w'):=by
 refine okF (af.kZ s a k) aA.kZ func156 ?_;(delta af.kZ jo ak aM aL b5 au;dsimp only);have y:s.len=l.length:=by have:=hs.len;rw[ez]at this;omega
 refine Calls.mono (af.EJ s a k w (λv w'=>v=.tuple #[.slice (aO s.a 1 a s.cap) k (s.cap-a),true]/\w=w') ?_) ?_
 .delta af.k0 ak au
  rw[bx (n:=(s.len:Int)-(a:Int)) I I,bx (n:=(a:Int)+(k:Int)) I I];refine⟨λh=>?_,λ_=>⟨⟨I,I⟩,⟨I,I⟩,?_,rfl⟩⟩
  .simp only[iS,cQ]at h;omega
  .rw[show Int.toNat ((a:Int)+(k:Int))-Int.toNat (a:Int)=k from I];rfl
 rintro _ _ ⟨_,rfl,rfl,rfl⟩;refine⟨⟨aO s.a 1 a s.cap,k,s.cap-a⟩,true,rfl,cd (λb w'=>b=false/\w=w') (λq f=>⟨λh=>by simp at h,λ_=>?_⟩) ?_⟩
 .refine Calls.mono (af.As k w (λv w'=>v=true/\w=w') ⟨?_,rfl⟩) ?_
  .have h1:decide ((k:Int)>=1)=true:=dK I
   have h2:decide ((k:Int)<=8)=true:=dK I;rw[h1,h2];rfl
  .rintro _ _ ⟨_,rfl,rfl,rfl⟩
   exact⟨_,rfl,f _ _ ⟨rfl,rfl⟩⟩
 rintro _ _ ⟨rfl,rfl⟩;have c:=Src.sub hs hc (lo:=a) (hi:=a+k) I I;rw[show a+k-a=k from I]at c;have c:Src 1 w ⟨aO s.a 1 a s.cap,k,s.cap-a⟩ (aJ ((l.drop a).take k)):=by
  simpa[aJ,oT,mJ] using c
 obtain⟨m,e⟩:∃m,m=(l.drop a).take k:=⟨_,rfl⟩;have z:m.length=k:=by rw[e];simp;omega
 rw[←e]at c⊢;refine⟨λh=>by simp at h,λ_=>⟨λn i w'=>w=w'/\∃j:Nat,i=j/\j<=k/\n=((ja (m.take j):Nat):Int),λ_ i _=>((k:Int)-i).toNat,⟨rfl,0,rfl,cG _,rfl⟩,?_⟩⟩;rintro _ _ _ ⟨rfl,j,rfl,B,rfl⟩;refine⟨λaK=>?_,λd=>?_⟩
 .have aK:((j:Int)<(k:Int)):=b1 aK
  have aK:j<k:=by omega
  obtain⟨A,ar,g,o⟩:=c.at (oo (l:=m) (i:=j) I);have h1:=m6 j (m.take j) (by simp;omega);have h2:256^j<=256^7:=sn I I;have h2:256^j<=72057594037927936:=h2;have p:(m[j]).toNat<256:=oW _;have r:((ja (m.take j):Nat):Int)*2^(min (Int.toNat 8) 64)=((ja (m.take j)*256:Nat):Int):=by
   show((ja (m.take j):Nat):Int)*256=_;omega
  refine⟨A,ar,g,_,o,by decide,?_⟩;rw[r,gQ (n:=((ja (m.take j)*256:Nat):Int)) I I,gQ (n:=((m[j].toNat:Nat):Int)) I I,Fk (by show _<18446744073709551616;omega) (by show _<18446744073709551616;omega),Fl _ _ p,bx (n:=(j:Int)+1) I I];refine⟨⟨rfl,j+1,I,I,?_⟩,?_⟩
  .rw[take_succ m I,xx]
  .show((k:Int)-((j:Int)+1)).toNat<((k:Int)-(j:Int)).toNat
   omega
 .have d:¬((j:Int)<(k:Int)):=cu d
  have d:j=k:=by omega
  subst d;exact⟨by rw[dM I],rfl⟩
theorem xy{w:J}{s:Y}{l:O UInt8}(h:Src 1 w s (aJ l))(g:l.length<=1000000):
 aQ aj 135 #[s] w (λv w'=>∃b:Y,v=b/\ba 1 5 w' b (aJ l)/\Ext w w'/\∀k,aB b k->w.heap.size<=k):=by
 have i:s.len=l.length:=by have:=h.len;rw[ez]at this;omega
 refine okF (af.nT s) aA.nT func135 ?_;delta af.nT ak U;refine⟨λc=>?_,λ_=>?_⟩
 .have c:s.a=none:=by simpa using c
  rw[h.nil c];exact⟨⟨none,0,0⟩,rfl,ba.none _ _ _,.refl _ _,λk d=>(fZ k d).elim⟩
 .obtain⟨b,w',h1,h2,j,e,f,_⟩:=ot.clone (cK:=48) h (k3 l) I
  exact aW ⟨b,w',h1,b,rfl,h2,e,f⟩
theorem Fm{w:J}{s:Y}{l:O UInt8}(c:UInt8)(b:ba 1 5 w s (aJ l))(g:l.length<=1000000):
 ∃ (a:Y) (w':J),Sem.run aj (Builtin.append_ #[48,48] 48 #[s,.slice (some w.heap.size) 1 1]) (w.alloc (.cells #[.int .u8 (c.toNat:Int)] 5))=.ok a w'/\
  ba 1 5 w' a (aJ (l++ [c]))/\ad (aB s) w w'/\(∀k,aB a k->aB s k\/w.heap.size<=k):=by
 have h:s.len=l.length:=by have:=b.1;rw[ez]at this;omega
 obtain⟨a,w',h1,h2,i,d,e⟩:=ot.push (cK:=48) (w:=w) (s:=s) (xs:=[.int .u8 (c.toNat:Int)]) rfl b (λv f=>by rw[fo.1 f];trivial) I;exact⟨a,w',h1,by rw[oq];exact h2,d,e⟩
def b9(n k:Nat):O UInt8:=(List.range k).map λj=>UInt8.ofNat (n/256^(k-1-j)%256)
theorem e5(n k:Nat):(b9 n k).length=k:=by simp[b9]
theorem ik{s:Y}{l:O UInt8}{w:J}(hs:Src 1 w s (aJ l))(C:l.length<=100000){n k:Nat}(f:n<2^64)(D:1<=k/\k<=8):
 aQ aj 126 #[s,.int .u64 n,k] w (λv w'=>∃a:Y,v=a/\ba 1 5 w' a (aJ (l++b9 n k))/\Ext w w'/\∀q,aB a q->w.heap.size<=q):=by
 have f:n<18446744073709551616:=f;refine okF (af.ik s n k) aA.ik func126 ?_;(delta af.ik bc aM ak au U;dsimp only);refine(xy hs I).use ?_;rintro _ w1 ⟨s1,rfl,g,m,o⟩;refine⟨s1,rfl,Calls.mono (af.As k w1 (λv w'=>v=true/\w1=w') ⟨?_,rfl⟩) ?_⟩
 .have h1:decide ((k:Int)>=1)=true:=dK I
  have h2:decide ((k:Int)<=8)=true:=dK I;rw[h1,h2];rfl
 rintro _ _ ⟨_,rfl,rfl,rfl⟩;rw[bx (n:=(k:Int)-1) I I];refine⟨_,rfl,λh=>by simp at h,λ_=>⟨λt i w'=>∃j:Nat,i=(k:Int)-1-j/\j<=k/\Ext w w'/\(∀q,aB t q->w.heap.size<=q)/\ba 1 5 w' t (aJ (l++(b9 n k).take j)),λ_ i _=>(i+1).toNat,⟨0,I,I,m,o,by simpa using g⟩,?_⟩⟩;rintro t _ ah ⟨j,rfl,E,b,c,d⟩;refine⟨λaK=>?_,λe=>?_⟩
 .have aK:j<k:=by have:=b1 aK;omega
  rw[bx (n:=8*((k:Int)-1-j)) I I,bx (n:=(k:Int)-1-j-1) I I];have p:IntKind.wrap .u8 (Int.fdiv (n:Int) (2^(min (Int.toNat (8*((k:Int)-1-j))) 64)))=((((UInt8.ofNat (n/256^(k-1-j)%256)).toNat:Nat)):Int):=by
   rw[vj (g6 _ I),show min (Int.toNat (8*((k:Int)-1-j))) 64=8*(k-1-j) from I,D9];have r:((2:Int)^(8*(k-1-j)))=((256^(k-1-j):Nat):Int):=by
    rw[Int.pow_mul];simp
   rw[r,Int.fdiv_eq_ediv_of_nonneg _ (Int.natCast_nonneg _)];generalize 256^(k-1-j)=z;rfl
  rw[p];obtain⟨u,x,h1,h2,y,A⟩:=Fm (UInt8.ofNat (n/256^(k-1-j)%256)) d (by simp[b9];omega);refine⟨I,aW ⟨u,x,h1,⟨j+1,I,I,Ext.dy b y c,λq B=>?_,?_⟩,?_⟩⟩
  .rcases A q B with h|h
   .exact c q h
   .exact eD b.size h
  .rw[take_succ _ (by rw[e5];exact aK),←cO]
   have:(b9 n k)[j]'(by rw[e5];exact aK)=UInt8.ofNat (n/256^(k-1-j)%256):=by simp[b9]
   rw[this];exact h2
  .show((k:Int)-1-j-1+1).toNat<((k:Int)-1-j+1).toNat
   omega
 .have e:j=k:=by have:=cu e;omega
  subst e;rw[dM (by rw[e5];exact bp _)]at d;exact⟨t,rfl,d,b,c⟩
theorem Fo(n k:Nat):b9 n (k+1)=b9 (n/256) k++ [UInt8.ofNat (n%256)]:=by
 unfold b9;rw[List.range_succ,fW]
 congr 1
 .apply List.map_congr_left
  intro j a;have:=jx.1 a;rw[show k+1-1-j=(k-1-j)+1 from I,Nat.pow_succ,Nat.mul_comm,←Nat.div_div_eq_div_mul]
 .simp
theorem xz:∀ (k n:Nat),n<256^k->ja (b9 n k)=n
 |0,n,h=>by
  have:n=0:=by simpa using h
  subst this;rfl
 |k+1,n,h=>by
  rw[Nat.pow_succ]at h
  rw[Fo,xx,xz k (n/256) I,vj (g6 _ I)]
  omega
def cH(n:aD):Prop:=gS n\/ve n
def m7(l:Key):O UInt8:=UInt8.ofNat l.length::l
def gR(n:aD)(i:Nat):O UInt8:=m7 (n.keys.getD i [])++if n.leaf then m7 (n.vals.getD i []) else b9 (n.kids.getD (i+1) 0) 2
def hV(n:aD)(i m:Nat):O UInt8:=((List.range' i m).map (gR n)).flatten
theorem Fp(n:aD)(i m:Nat):hV n i (m+1)=gR n i++hV n (i+1) m:=rfl
theorem xA(n:aD)(m:Nat):hV n 0 (m+1)=hV n 0 m++gR n m:=by
 unfold hV;rw[List.range'_concat,fW,so];simp
def preB(n:aD):O UInt8:=UInt8.ofNat n.keys.length::if n.leaf then [] else b9 (n.kids.getD 0 0) 2
def jq(n:aD):O UInt8:=preB n++hV n 0 n.keys.length
theorem m8(l:Key):(m7 l).length=l.length+1:=rfl
theorem cH.keys{n:aD}(h:cH n):vd n:=by
 rcases h with h|h
 .exact h.tovd
 .exact h.tovd
theorem cH.vals{n:aD}(h:cH n):∀v∈n.vals,v.length<=24:=by
 rcases h with h|h
 .exact h.vals
 .rw[h.vals];simp
theorem cH.kids{n:aD}(h:cH n):∀k∈n.kids,k<1600:=by
 rcases h with h|h
 .rw[h.kids];simp
 .exact h.kids
theorem vk{α:Type}{l:O α}{i:Nat}{d:α}(h:i<l.length):l.getD i d∈l:=by
 rw[fq,dE h];exact cE h
theorem xB{n:aD}(h:cH n){i:Nat}(hi:i<n.keys.length):(cellsOf n)[i]? =some (gR n i).length:=by
 unfold cellsOf gR;rcases h with h|h
 .rw[h.leaf]
  simp only[if_true];have a:i<n.vals.length:=by rw[h.len];exact hi
  rw[List.getElem?_zipWith,dE hi,dE a];simp[fq,dE hi,dE a,m8];omega
 .rw[h.inner]
  simp only[fN,if_false];rw[lk,dE hi];simp[fq,dE hi,m8,e5];omega
theorem p0{n:aD}(h:cH n):(cellsOf n).length=n.keys.length:=by
 unfold cellsOf;rcases h with h|h
 .rw[h.leaf];simp[h.len]
 .rw[h.inner];simp
theorem xC{n:aD}(h:cH n):∀m,m<=n.keys.length->(hV n 0 m).length=((cellsOf n).take m).sum
 |0,_=>by simp[hV]
 |m+1,b=>by
  have a:m<(cellsOf n).length:=by rw[p0 h];omega
  have h1:=xB h (i:=m) I
  rw[dE a]at h1
  have h1:(cellsOf n)[m]=(gR n m).length:=Option.some.inj h1
  rw[xA,cz,xC h m I,pW a,h1]
theorem xD{n:aD}(h:cH n):(jq n).length=bJ n:=by
 have e:((cellsOf n).take n.keys.length).sum=(cellsOf n).sum:=by rw[dM (by rw[p0 h];exact bp _)]
 unfold jq bJ preB;rw[cz,xC h _ (bp _),e]
 cases n.leaf<;>simp[e5]
theorem vl{n:aD}(h:cH n):2*n.keys.length<=bJ n:=by
 have h1:∀l:O Nat,(∀x∈l,2<=x)->2*l.length<=l.sum:=by
  intro l
  induction l with
  |nil=>simp
  |cons a l c=>
   intro h;have:=h a (by simp);have:=c λx hx=>h x (by simp[hx]);simp only[e8,qA];omega
 have h2:=h1 (cellsOf n) (by
  intro x hx;obtain⟨i,hi,rfl⟩:=fh hx;have d:i<n.keys.length:=by rwa[←p0 h]
  have b:=xB h d;rw[dE hi]at b;rw[Option.some.inj b];unfold gR;rw[cz,m8];split
  .rw[m8];omega
  .rw[e5];omega)
 rw[p0 h]at h2;unfold bJ;omega
abbrev Rd:=O UInt8×ai
def hW(r:Rd)(k:Nat):O UInt8×Rd:=if r.2=false\/r.1.length<k then ([],(r.1,false)) else (r.1.take k,(r.1.drop k,true))
def rdNum(r:Rd)(k:Nat):Nat×Rd:=(if (hW r k).1.length=k then ja (hW r k).1 else 0,(hW r k).2)
def jH(r:Rd):O UInt8×Rd:=hW (rdNum r 1).2 (rdNum r 1).1
def ou(s:aD×Rd):aD×Rd:=
 let t:=jH s.2
 if s.1.leaf then (⟨s.1.leaf,s.1.keys++ [t.1],s.1.vals++ [(jH t.2).1],s.1.kids⟩,(jH t.2).2)
 else (⟨s.1.leaf,s.1.keys++ [t.1],s.1.vals,s.1.kids++ [(rdNum t.2 2).1]⟩,(rdNum t.2 2).2)
def im(s:aD×Rd):Nat->aD×Rd
 |0=>s
 |i+1=>ou (im s i)
def me(leaf:ai)(r:Rd):aD×Rd:=if leaf then (⟨true,[],[],[]⟩,r) else (⟨false,[],[],[(rdNum r 2).1]⟩,(rdNum r 2).2)
def iJ(leaf:ai)(b:O UInt8):aD×Rd:=im (me leaf (rdNum (b,true) 1).2) (rdNum (b,true) 1).1
def lF(leaf:ai)(b:O UInt8)(n:aD):Prop:=cH n/\n.leaf=leaf/\bJ n<=232/\jq n=b
theorem AM(a b:O UInt8):hW (a++b,true) a.length=(a,(b,true)):=by
 unfold hW;rw[if_neg (by simp)];simp
theorem vm{n k:Nat}(b:O UInt8)(h:n<256^k):rdNum (b9 n k++b,true) k=(n,(b,true)):=by
 unfold rdNum;have:=AM (b9 n k) b;rw[e5]at this;rw[this];simp[e5,xz k n h]
theorem AN(n:Nat)(h:n<256): [UInt8.ofNat n]=b9 n 1:=by
 simp[b9,jC h]
theorem xE(l:Key)(b:O UInt8)(h:l.length<256):jH (m7 l++b,true)=(l,(b,true)):=by
 have e:m7 l++b=b9 l.length 1++(l++b):=by
  rw[←AN _ h];rfl
 unfold jH;rw[e,vm _ (by simpa using h)];exact AM l b
theorem Fs{n:aD}(h:cH n){i:Nat}(hi:i<n.keys.length)(b:O UInt8):
 ou (⟨n.leaf,n.keys.take i,n.vals.take i,if n.leaf then [] else n.kids.take (i+1)⟩,(gR n i++b,true))=
  (⟨n.leaf,n.keys.take (i+1),n.vals.take (i+1),if n.leaf then [] else n.kids.take (i+2)⟩,(b,true)):=by
 have e:n.keys.getD i []∈n.keys:=vk hi;have f:=(h.keys.ok _ e).2;have d:n.keys.take (i+1)=n.keys.take i++ [n.keys.getD i []]:=by
  rw[take_succ _ hi,fq,dE hi];rfl
 unfold ou;unfold gR;rcases h with h|h
 .have a:i<n.vals.length:=by rw[h.len];exact hi
  have c:n.vals.getD i []∈n.vals:=vk a;have ev:n.vals.take (i+1)=n.vals.take i++ [n.vals.getD i []]:=by
   rw[take_succ _ a,fq,dE a];rfl
  simp only[h.leaf,if_true];rw[cO,xE _ _ I];simp only;rw[xE _ _ (by have:=h.vals _ c;omega),d,ev]
 .have a:i+1<n.kids.length:=by rw[h.len];omega
  have c:n.kids.getD (i+1) 0∈n.kids:=vk a;have ev:n.kids.take (i+2)=n.kids.take (i+1)++ [n.kids.getD (i+1) 0]:=by
   rw[take_succ _ a,fq,dE a];rfl
  simp only[h.inner,fN,if_false,h.vals];rw[cO,xE _ _ I];simp only;rw[vm _ (by have:=h.kids _ c;show _<65536;omega),d,ev];simp
theorem AO{n:aD}(h:cH n):∀i,i<=n.keys.length->
 im (⟨n.leaf,[],[],if n.leaf then [] else n.kids.take 1⟩,(hV n 0 n.keys.length,true)) i=(⟨n.leaf,n.keys.take i,n.vals.take i,if n.leaf then [] else n.kids.take (i+1)⟩,(hV n i (n.keys.length-i),true))
 |0,_=>by simp[im]
 |i+1,hi=>by
  rw[im,AO h i I,show n.keys.length-i=n.keys.length-(i+1)+1 from I,Fp]
  exact Fs h I _
theorem xF{n:aD}(h:cH n)(g:bJ n<=232):iJ n.leaf (jq n)=(n,([],true)):=by
 have i:=vl h;unfold iJ;have b:rdNum (jq n,true) 1=(n.keys.length,((if n.leaf then [] else b9 (n.kids.getD 0 0) 2)++hV n 0 n.keys.length,true)):=by
  have:jq n=b9 n.keys.length 1++((if n.leaf then [] else b9 (n.kids.getD 0 0) 2)++hV n 0 n.keys.length):=by
   rw[←AN _ I];rfl
  rw[this,vm _ (by show _<256;omega)]
 rw[b];simp only;have c:me n.leaf ((if n.leaf then [] else b9 (n.kids.getD 0 0) 2)++hV n 0 n.keys.length,true)=(⟨n.leaf,[],[],if n.leaf then [] else n.kids.take 1⟩,(hV n 0 n.keys.length,true)):=by
  unfold me;rcases h with h|h
  .simp[h.leaf]
  .have hd:0<n.kids.length:=by rw[h.len];omega
   have d:n.kids.getD 0 0∈n.kids:=vk hd;have:=h.kids _ d;simp only[h.inner,fN,if_false];rw[vm _ (by show _<65536;omega)]
   cases e:n.kids with
   |nil=>rw[e]at hd;simp at hd
   |cons a l=>simp
 rw[c,AO h _ (bp _)];have f:hV n n.keys.length (n.keys.length-n.keys.length)=[]:=by rw[nx];rfl
 rw[f,dM (bp _)];rcases h with h|h
 .rw[dM (by rw[h.len];exact bp _)]
  have:=h.kids;have:=h.leaf
  cases n
  simp_all
 .rw[dM (by rw[h.vals];simp),dM (by rw[h.len];exact bp _)]
  have:=h.inner
  cases n
  simp_all
theorem lF.uniq{leaf:ai}{b:O UInt8}{n m:aD}(h1:lF leaf b n)(h2:lF leaf b m):n=m:=by
 obtain⟨a1,a2,a3,a4⟩:=h1;obtain⟨cf,bS,d,e⟩:=h2;have a:=xF a1 a3;have c:=xF cf d;rw[a2,a4]at a;rw[bS,e,a]at c;exact congrArg Prod.fst c
def rG(n:Nat):Nat:=if n%2=1 then (n/2)^^^0x82f63b78 else n/2
def vn:Nat->Nat->Nat
 |0,n=>n
 |k+1,n=>rG (vn k n)
def AP(n:Nat)(c:UInt8):Nat:=vn 8 (n^^^c.toNat)
def k4(n:Nat)(l:O UInt8):Nat:=l.foldl AP n
def iK(l:O UInt8):Nat:=4294967295-k4 4294967295 l
theorem Ft{n:Nat}(h:n<4294967296):rG n<4294967296:=by
 unfold rG;split
 .exact Nat.xor_lt_two_pow (n:=32) (by show _<4294967296;omega) (by decide)
 .omega
theorem xG{n:Nat}(h:n<4294967296):∀k,vn k n<4294967296
 |0=>h
 |k+1=>Ft (xG h k)
theorem Fu{n:Nat}(h:n<4294967296)(c:UInt8):AP n c<4294967296:=
 xG (Nat.xor_lt_two_pow (n:=32) h (by have:=oW c;show _<4294967296;omega)) 8
theorem vo:∀ (l:O UInt8) {n:Nat},n<4294967296->k4 n l<4294967296
 | [],_,h=>h
 |c::l,_,h=>vo l (Fu h c)
theorem AQ(n:Nat)(a b:O UInt8):k4 n (a++b)=k4 (k4 n a) b:=by simp[k4,List.foldl_append]
theorem xH(l:O UInt8):iK l<4294967296:=by unfold iK;omega
structure iq where
 kind:Nat
 gen:Nat
 body:O UInt8
 deriving DecidableEq
structure m9(p:iq):Prop where
 bE:1<=p.kind
 bG:p.kind<=4
 gen:p.gen<18446744073709551616
 body:p.body.length<=232
def gK:O UInt8:=[83,84,78,67]
def fe(no:Nat)(p:iq):O UInt8:=gK++([1,UInt8.ofNat p.kind]++(b9 p.body.length 2++(b9 no 4++b9 p.gen 8)))
def fk(p:iq):O UInt8:=p.body++List.replicate (232-p.body.length) 0
def eI(no:Nat)(p:iq):O UInt8:=fe no p++(b9 (iK (fe no p++fk p)) 4++fk p)
theorem m_(no:Nat)(p:iq):(fe no p).length=20:=by simp[fe,gK,e5]
theorem vp{p:iq}(h:m9 p):(fk p).length=232:=by
 have:=h.body;simp[fk];omega
theorem rH{p:iq}(no:Nat)(h:m9 p):(eI no p).length=256:=by simp[eI,m_,e5,vp h]
def sumOf(l:O UInt8):Nat:=iK (l.take 20++l.drop 24)
def dg(l:O UInt8)(a k:Nat):Nat:=ja ((l.drop a).take k)
def dS(no:Int)(l:O UInt8):Except Int iq:=
 if l.length≠256 then .error 9
 else if l.take 4≠gK then .error 4
 else if l.getD 4 0≠1 then .error 12
 else if sumOf l≠dg l 20 4 then .error 5
 else if¬(1<=(l.getD 5 0).toNat/\(l.getD 5 0).toNat<=4)\/232<dg l 6 2\/(l.drop (24+dg l 6 2)).all (λc=>c==0)=false then .error 4
 else if¬(0<=no/\no<1600)\/(dg l 8 4:Int)≠no then .error 1
 else .ok ⟨(l.getD 5 0).toNat,dg l 12 8,(l.drop 24).take (dg l 6 2)⟩
theorem drop_left'{α:Type}{a b:O α}{n:Nat}(h:a.length=n):(a++b).drop n=b:=by subst h;exact List.drop_left
theorem mf{α:Type}{a b:O α}{n:Nat}(h:a.length=n):(a++b).take n=a:=by subst h;exact List.take_left
theorem rI{a b:O UInt8}{n k m:Nat}(c:a.length=m)(h:n<256^k):dg (a++(b9 n k++b)) m k=n:=by
 unfold dg;rw[drop_left' c,mf (e5 n k),xz k n h]
theorem vq{no:Nat}{p:iq}(o:no<1600)(h:m9 p):dS no (eI no p)=.ok p:=by
 have q:=h.body;have e:=h.bE;have f:=h.bG;have hg:=h.gen;have ht:=vp h;have b:=m_ no p;have hc:=xH (fe no p++fk p);have bW:dg (eI no p) 20 4=iK (fe no p++fk p):=rI b (by show _<4294967296;exact hc);have a:eI no p=(gK++ [1,UInt8.ofNat p.kind])++(b9 p.body.length 2++((b9 no 4++b9 p.gen 8)++(b9 (iK (fe no p++fk p)) 4++fk p))):=by
  show fe no p++_=_;rw[show fe no p=(gK++ [1,UInt8.ofNat p.kind])++(b9 p.body.length 2++(b9 no 4++b9 p.gen 8)) by simp[fe]];simp only[cO]
 have bw:dg (eI no p) 6 2=p.body.length:=by rw[a];exact rI rfl (by show _<65536;omega)
 have g:eI no p=((gK++ [1,UInt8.ofNat p.kind])++b9 p.body.length 2)++(b9 no 4++(b9 p.gen 8++(b9 (iK (fe no p++fk p)) 4++fk p))):=by rw[a];simp only[cO]
 have i:dg (eI no p) 8 4=no:=by rw[g];exact rI (by simp[gK,e5]) (by show _<4294967296;omega)
 have j:eI no p=((gK++ [1,UInt8.ofNat p.kind])++(b9 p.body.length 2++b9 no 4))++(b9 p.gen 8++(b9 (iK (fe no p++fk p)) 4++fk p)):=by rw[a];simp only[cO]
 have k:dg (eI no p) 12 8=p.gen:=by rw[j];exact rI (by simp[gK,e5]) (by show _<18446744073709551616;exact hg)
 have l:eI no p=(fe no p++b9 (iK (fe no p++fk p)) 4)++fk p:=by simp[eI]
 have m:(fe no p++b9 (iK (fe no p++fk p)) 4).length=24:=by simp[b,e5]
 have d24:(eI no p).drop 24=fk p:=by rw[l];exact drop_left' m
 have t4:(eI no p).take 4=gK:=by rw[a];rfl
 have n:(eI no p).getD 4 0=1:=by rw[a];rfl
 have d:((eI no p).getD 5 0).toNat=p.kind:=by rw[a];show(UInt8.ofNat p.kind).toNat=p.kind;exact vj I
 have s:sumOf (eI no p)=iK (fe no p++fk p):=by
  unfold sumOf;rw[d24,show(eI no p).take 20=fe no p from mf b]
 unfold dS;rw[if_neg (by rw[rH no h];simp),if_neg (by rw[t4];simp),if_neg (by rw[n];simp),if_neg (by rw[s,bW];simp),if_neg (by
  rw[d,bw];rintro(h1|h1|h1)
  .exact h1 ⟨e,f⟩
  .omega
  .rw[List.all_eq_false]at h1
   obtain⟨c,hc,h1⟩:=h1;rw[←qB,d24]at hc;unfold fk at hc;rw[List.drop_left]at hc;exact h1 (by rw[sq hc];rfl)),if_neg (by rw[i];rintro(h1|h1)<;>omega),d,bw,k,d24]
 have:(fk p).take p.body.length=p.body:=by unfold fk;exact List.take_left
 rw[this]
def hX(s:Y):aa:=s
abbrev gT(w:J)(s:Y):Prop:=∀k,aB s k->w.heap.size<=k
theorem gT.mono{w w':J}{s:Y}(h:gT w' s)(hx:w.heap.size<=w'.heap.size):gT w s:=λk a=>eD hx (h k a)
theorem len8{w:J}{s:Y}{l:O UInt8}(h:Src 1 w s (aJ l)):s.len=l.length:=by have:=h.len;rw[ez]at this;omega
theorem mg{w:J}{T:TypeId}{s:Y}{l:O UInt8}(h:ba 1 T w s (aJ l)):s.len=l.length:=by have:=h.1;rw[ez]at this;omega
theorem na{w:J}{s:Y}{l:O UInt8}{lo hi:Nat}(h:Src 1 w s (aJ l))(hc:s.len<=s.cap)(h1:lo<=hi)(h2:hi<=s.len):Src 1 w ⟨aO s.a 1 lo s.cap,hi-lo,s.cap-lo⟩ (aJ ((l.drop lo).take (hi-lo))):=by
 have:=Src.sub h hc h1 h2;simpa[aJ,oT,mJ] using this
def eR(ps:O (Y×O UInt8)):O UInt8:=(ps.map (·.2)).flatten
theorem AR(a:O (Y×O UInt8))(p:Y×O UInt8):eR (a++ [p])=eR a++p.2:=by simp[eR]
theorem Fv(ps:O (Y×O UInt8))(j:Nat):(eR (ps.take j)).length<=(eR ps).length:=by
 have h:ps=ps.take j++ps.drop j:=(ib j ps).symm;have:(eR ps).length=(eR (ps.take j)).length+(eR (ps.drop j)).length:=by
  conv=>lhs;rw[h]
  unfold eR;rw[fW,so,cz]
 omega
theorem AS(ps:O (Y×O UInt8)){j:Nat}(a:j<ps.length):(ps[j]).2.length<=(eR ps).length:=by
 have h:ps=ps.take j++ps[j]::ps.drop (j+1):=by rw[←jy a,ib]
 have:(eR ps).length=(eR (ps.take j)).length+((ps[j]).2.length+(eR (ps.drop (j+1))).length):=by
  conv=>lhs;rw[h]
  unfold eR;rw[fW,so,cz,ji,sr,cz]
 omega
theorem vr{s:Y}{w:J}(ps:O (Y×O UInt8))(hs:Src 1 w s (ps.map λp=>hX p.1))(f:∀p∈ps,Src 1 w p.1 (aJ p.2))(t:(eR ps).length<=100000)(u:ps.length<=100000):
 aQ aj 92 #[s] w (λv w'=>∃a:Y,v=a/\ba 1 5 w' a (aJ (eR ps))/\Ext w w'/\gT w a):=by
 refine okF (af.ua s) aA.ua func92 ?_;(delta af.ua ak aL ag au;dsimp only);have x:s.len=ps.length:=by have:=hs.len;rw[dL]at this;omega
 refine⟨λa i w'=>∃j:Nat,i=j/\j<=ps.length/\ba 1 5 w' a (aJ (eR (ps.take j)))/\Ext w w'/\gT w a,λ_ i _=>((ps.length:Int)-i).toNat,⟨0,rfl,cG _,ba.none 1 5 _,.refl _ _,λk c=>(fZ k c).elim⟩,?_⟩;rintro a _ w1 ⟨j,rfl,y,b,hx,hf⟩;refine⟨λaK=>?_,λd=>?_⟩
 .have aK:j<ps.length:=by have:=b1 aK;omega
  obtain⟨A,ar,g,l⟩:=(hs.ext hx).at (i:=j) (v:=hX (ps[j]).1) (by simp[aK]);have e:=(f _ (cE aK)).ext hx;have h1:=AS ps aK;have h2:=Fv ps j;have m:=len8 e;have o:=mg b;obtain⟨s2,ah,av,ax,z,q,r⟩:=ot.append (cK:=48) e b (k3 _) (by rw[m,o];omega);rw[bx (n:=(j:Int)+1) I I];refine⟨A,ar,g,(ps[j]).1,l,s2,ah,av,⟨j+1,I,I,?_,Ext.dy hx q hf,λk c=>?_⟩,?_⟩
  .rw[take_succ _ aK]
   rw[AR,oq];exact ax
  .rcases r k c with h|h
   .exact hf k h
   .exact eD hx.size h
  .show((ps.length:Int)-((j:Int)+1)).toNat<((ps.length:Int)-(j:Int)).toNat
   omega
 .have d:j=ps.length:=by have:=cu d;omega
  subst d;rw[iz]at b;exact⟨a,rfl,b,hx,hf⟩
theorem Fw{s:Y}{l:O UInt8}{w:J}(hs:Src 1 w s (aJ l))(hc:s.len<=s.cap){a k:Nat}(b:a+k<=l.length)(c:l.length<=1000000000000):
 aQ aj 215 #[s,a,k] w (λv w'=>v=.tuple #[.slice (aO s.a 1 a s.cap) k (s.cap-a),true]/\w=w'):=by
 have d:=len8 hs;refine okF (af.k0 s a k) aA.k0 func215 ?_;delta af.k0 ak au;rw[bx (n:=(s.len:Int)-(a:Int)) I I,bx (n:=(a:Int)+(k:Int)) I I];refine⟨λh=>?_,λ_=>⟨⟨I,I⟩,⟨I,I⟩,?_,rfl⟩⟩
 .simp only[iS,cQ]at h;omega
 .rw[show Int.toNat ((a:Int)+(k:Int))-Int.toNat (a:Int)=k from I];rfl
theorem Fx{s:Y}{l:O UInt8}{w:J}(hs:Src 1 w s (aJ l)){a k:Nat}(b:l.length<a+k)(c:a<=l.length)(d:l.length<=1000000000000)(f:k<=1000000000000):
 aQ aj 215 #[s,a,k] w (λv w'=>v=.tuple #[(),false]/\w=w'):=by
 have g:=len8 hs;refine okF (af.k0 s a k) aA.k0 func215 ?_;delta af.k0 ak au;rw[bx (n:=(s.len:Int)-(a:Int)) I I,bx (n:=(a:Int)+(k:Int)) I I];have e:(((decide ((a:Int)<0))||(decide ((k:Int)<0)))||(decide ((a:Int)>(s.len:Int)))||(decide ((k:Int)>((s.len:Int)-(a:Int)))))=true:=by
  simp only[iS,cQ];omega
 exact⟨λ_=>⟨rfl,rfl⟩,λh=>(by rw[e]at h;cases h)⟩
theorem pL{s:Y}{l:O UInt8}{w:J}(hs:Src 1 w s (aJ l))(hc:s.len<=s.cap){a k:Nat}(d:a+k<=l.length)(f:l.length<=100000):
 aQ aj 229 #[s,a,k] w (λv w'=>∃b:Y,v=.tuple #[b,true]/\ba 1 5 w' b (aJ ((l.drop a).take k))/\Ext w w'/\gT w b):=by
 have g:=len8 hs;refine okF (af.pL s a k) aA.pL func229 ?_;(delta af.pL jo bc;dsimp only);refine(Fw hs hc d I).use ?_;rintro _ _ ⟨rfl,rfl⟩;have c:=na hs hc (lo:=a) (hi:=a+k) I I;rw[show a+k-a=k from I]at c;refine⟨⟨aO s.a 1 a s.cap,k,s.cap-a⟩,true,rfl,(xy c (by simp;omega)).use ?_⟩;rintro _ w1 ⟨b,rfl,e,hx,hf⟩;exact⟨b,rfl,b,rfl,e,hx,hf⟩
theorem Fy{s:Y}{l:O UInt8}{w:J}(hs:Src 1 w s (aJ l)){k:Nat}(d:k<=8)(e:l.length<k):
 aQ aj 156 #[s,.int .i64 (0:Nat),k] w (λv w'=>v=.tuple #[.int .u64 0,false]/\w=w'):=by
 refine okF (af.kZ s (0:Nat) k) aA.kZ func156 ?_;(delta af.kZ jo ak aM aL b5 au;dsimp only);refine(Fx hs (a:=0) I I I I).use ?_;rintro _ _ ⟨rfl,rfl⟩;refine⟨⟨none,0,0⟩,false,rfl,cd (λb w'=>b=true/\w=w') (λq c=>⟨λ_=>c _ _ ⟨rfl,rfl⟩,λh=>by simp at h⟩) ?_⟩;rintro _ _ ⟨rfl,rfl⟩;exact⟨λ_=>⟨rfl,rfl⟩,λh=>by simp at h⟩
theorem vt{a:Nat}(b:a<4294967296):(BitVec.ofInt 32 (a:Int))=BitVec.ofNat 32 a:=by simp
theorem vu{a b:Nat}(c:a<4294967296)(d:b<4294967296):nG .u32 (a:Int) (b:Int)=((a^^^b:Nat):Int):=by
 unfold nG;show IntKind.u32.wrap (((BitVec.ofInt 32 (a:Int)^^^BitVec.ofInt 32 (b:Int)).toNat:Nat):Int)=_;rw[vt c,vt d,BitVec.toNat_xor,BitVec.toNat_ofNat,BitVec.toNat_ofNat,jC (by simpa using c),jC (by simpa using d)];have:a^^^b<4294967296:=Nat.xor_lt_two_pow (n:=32) c d;rw[wS I I]
theorem Fz{a b:Nat}(c:a<4294967296)(d:b<4294967296):jX .u32 (a:Int) (b:Int)=((a&&&b:Nat):Int):=by
 unfold jX;show IntKind.u32.wrap (((BitVec.ofInt 32 (a:Int)&&&BitVec.ofInt 32 (b:Int)).toNat:Nat):Int)=_;rw[vt c,vt d,BitVec.toNat_and,BitVec.toNat_ofNat,BitVec.toNat_ofNat,jC (by simpa using c),jC (by simpa using d)];have:a&&&b<=a:=Nat.and_le_left;rw[wS I I]
theorem FA{n:Nat}(b:n<4294967296):
 nG .u32 (Int.fdiv (n:Int) (2^(min (Int.toNat 1) 32))) (jX .u32 2197175160 (IntKind.wrap .u32 (0-(jX .u32 (n:Int) 1))))=((rG n:Nat):Int):=by
 have c:jX .u32 (n:Int) 1=((n%2:Nat):Int):=by
  have:=Fz b (show 1<4294967296 from I);rw[Nat.and_one_is_mod]at this;exact this
 have d:Int.fdiv (n:Int) (2^(min (Int.toNat 1) 32))=((n/2:Nat):Int):=by
  rw[Int.fdiv_eq_ediv_of_nonneg _ (by decide)];rfl
 rw[c,d];unfold rG;rcases Nat.mod_two_eq_zero_or_one n with h|h
 .rw[h,if_neg I]
  have a:jX .u32 2197175160 (IntKind.wrap .u32 (0-((0:Nat):Int)))=((0:Nat):Int):=by decide+kernel
  rw[a,vu I I,Nat.xor_zero]
 .rw[h,if_pos rfl]
  have a:jX .u32 2197175160 (IntKind.wrap .u32 (0-((1:Nat):Int)))=((2197175160:Nat):Int):=by decide+kernel
  rw[a,vu I I]
theorem pN{s:Y}{l:O UInt8}{w:J}{n:Nat}(hs:Src 1 w s (aJ l))(e:n<4294967296)(h:l.length<=1000000):
 aQ aj 238 #[.int .u32 n,s] w (λv w'=>v=.int .u32 (k4 n l:Nat)/\w=w'):=by
 have o:=len8 hs;refine okF (af.pN n s) aA.pN func238 ?_;(delta af.pN ak aL b5 au;dsimp only);refine⟨λm i w'=>∃j:Nat,i=j/\j<=l.length/\m=((k4 n (l.take j):Nat):Int)/\w=w',λ_ i _=>((l.length:Int)-i).toNat,⟨0,rfl,cG _,rfl,rfl⟩,?_⟩;rintro _ _ _ ⟨j,rfl,p,rfl,rfl⟩;refine⟨λaK=>?_,λa=>?_⟩
 .have aK:j<l.length:=by have:=b1 aK;omega
  obtain⟨A,ar,f,g⟩:=hs.at (oo aK);have c:=vo (l.take j) e;have hc:=oW (l[j]);have hx:=Nat.xor_lt_two_pow (n:=32) c (show(l[j]).toNat<4294967296 from I);refine⟨A,ar,f,_,g,λm i w'=>∃k:Nat,i=k/\k<=8/\m=((vn k (k4 n (l.take j)^^^(l[j]).toNat):Nat):Int)/\w=w',λ_ i _=>((8:Int)-i).toNat,⟨0,rfl,I,?_,rfl⟩,?_⟩
  .rw[wS I I,vu c I];rfl
  rintro _ _ _ ⟨k,rfl,q,rfl,rfl⟩;refine⟨λd=>?_,λb=>?_⟩
  .have d:k<8:=by have:=b1 d;omega
   rw[FA (xG hx k),bx (n:=(k:Int)+1) I I];refine⟨by decide,⟨k+1,I,I,rfl,rfl⟩,?_⟩;show((8:Int)-((k:Int)+1)).toNat<((8:Int)-(k:Int)).toNat;omega
  .have b:k=8:=by have:=cu b;omega
   subst b;rw[bx (n:=(j:Int)+1) I I];refine⟨⟨j+1,I,I,?_,rfl⟩,?_⟩
   .rw[take_succ _ aK,AQ];rfl
   .show((l.length:Int)-((j:Int)+1)).toNat<((l.length:Int)-(j:Int)).toNat
    omega
 .have a:j=l.length:=by have:=cu a;omega
  subst a;rw[iz];exact⟨rfl,rfl⟩
theorem FB{n:Nat}(h:n<4294967296):4294967295^^^n=4294967295-n:=by
 apply Nat.eq_of_testBit_eq;intro i;have h1:(4294967295-n).testBit i=(decide (i<32)&& !n.testBit i):=by
  have:=Nat.testBit_two_pow_sub_succ (n:=32) (x:=n) (by simpa using h) i;rw[←this];congr 1;omega
 have h2:(4294967295:Nat).testBit i=decide (i<32):=by
  have:=Nat.testBit_two_pow_sub_one 32 i;exact this
 rw[Nat.testBit_xor,h1,h2];by_cases hi:i<32
 .simp[hi]
 .have:n.testBit i=false:=by
   apply Nat.testBit_lt_two_pow;exact fP h (sn (n:=2) I (show 32<=i from I))
  simp[hi,this]
theorem FC{s:Y}{w:J}(ps:O (Y×O UInt8))(hs:Src 1 w s (ps.map λp=>hX p.1))(e:∀p∈ps,Src 1 w p.1 (aJ p.2))(h:(eR ps).length<=100000)(k:ps.length<=100000):
 aQ aj 195 #[s] w (λv w'=>v=.int .u32 (iK (eR ps):Nat)/\w=w'):=by
 refine okF (af.uE s) aA.uE func195 ?_;(delta af.uE ak aL ag gG au;dsimp only);have l:s.len=ps.length:=by have:=hs.len;rw[dL]at this;omega
 refine⟨λm i w'=>∃j:Nat,i=j/\j<=ps.length/\m=((k4 4294967295 (eR (ps.take j)):Nat):Int)/\w=w',λ_ i _=>((ps.length:Int)-i).toNat,⟨0,rfl,cG _,rfl,rfl⟩,?_⟩;rintro _ _ _ ⟨j,rfl,o,rfl,rfl⟩;refine⟨λaK=>?_,λd=>?_⟩
 .have aK:j<ps.length:=by have:=b1 aK;omega
  obtain⟨A,ar,f,g⟩:=hs.at (i:=j) (v:=hX (ps[j]).1) (by simp[aK]);have c:=vo (eR (ps.take j)) (n:=4294967295) (by decide);refine⟨A,ar,f,(ps[j]).1,g,(pN (e _ (cE aK)) c (by have:=AS ps aK;omega)).use ?_⟩;rintro _ _ ⟨rfl,rfl⟩;rw[bx (n:=(j:Int)+1) I I];refine⟨_,rfl,⟨j+1,I,I,?_,rfl⟩,?_⟩
  .rw[take_succ _ aK,←AQ,AR]
  .show((ps.length:Int)-((j:Int)+1)).toNat<((ps.length:Int)-(j:Int)).toNat
   omega
 .have d:j=ps.length:=by have:=cu d;omega
  subst d;rw[iz];have c:=vo (eR ps) (n:=4294967295) (by decide);refine⟨?_,rfl⟩;have:=vu (a:=4294967295) (b:=k4 4294967295 (eR ps)) (by decide) c;rw[FB c]at this;exact congrArg _ this
theorem nY{s:Y}{l:O UInt8}{w:J}(hs:Src 1 w s (aJ l))(hc:s.len<=s.cap)(e:l.length=256):
 aQ aj 134 #[s] w (λv w'=>v=.int .u32 (sumOf l:Nat)/\Ext w w'):=by
 have f:=len8 hs;refine okF (af.nY s) aA.nY func134 ?_;(delta af.nY al gG U;dsimp only);have b:Ext w w.drew:=ad.drew (.refl _ _);refine⟨⟨by decide,I⟩,⟨by decide,I⟩,?_⟩;have h1:=na (hs.ext b) hc (lo:=0) (hi:=20) I I;have h2:=na (hs.ext b) hc (lo:=24) (hi:=s.len) I I;have c:∀o,Ext w.drew (w.drew.alloc o):=λo=>ad.alloc (.refl _ _) o;refine(FC [(⟨aO s.a 1 0 s.cap,20-0,s.cap-0⟩,(l.drop 0).take (20-0)),(⟨aO s.a 1 24 s.cap,s.len-24,s.cap-24⟩,(l.drop 24).take (s.len-24))] (s:=⟨some w.drew.heap.size,2,2⟩) (Src.new w.drew _ 2 rfl) ?_ ?_ ?_).use ?_
 .intro p d
  simp only[cU,eL,eO]at d;rcases d with rfl|rfl
  .exact h1.ext (c _)
  .exact h2.ext (c _)
 .simp[eR];omega
 .simp
 rintro _ w1 ⟨rfl,rfl⟩;refine⟨_,rfl,?_,b.trans (c _)⟩;have:eR [((⟨aO s.a 1 0 s.cap,20-0,s.cap-0⟩:Y),(l.drop 0).take (20-0)),(⟨aO s.a 1 24 s.cap,s.len-24,s.cap-24⟩,(l.drop 24).take (s.len-24))]=l.take 20++l.drop 24:=by
  simp only[eR,ji,List.map_nil,sr,List.flatten_nil,fQ,ln];rw[dM (l:=l.drop 24) (by rw[c_];omega)]
 rw[this];rfl
theorem ba.FD{T:TypeId}{w:J}{s:Y}{vs us:O aa}{b o:Nat}(h:ba 1 T w s vs)(d:s.a=some ⟨b,0,none⟩)(n:o+us.length<=s.len):
 ba 1 T (setCells w ⟨b,o,none⟩ 0 us) s (vs.take o++us++vs.drop (o+us.length)):=by
 obtain⟨h1,h2,g,i⟩:=h;rcases i with ⟨j,_⟩|⟨p,c,e,k,f,ht⟩
 .rw[j]at d;cases d
 .rw[d]at e
  cases e;have q:c.toList.length=s.cap:=by simpa using f
  have m:o+us.length<=c.size:=by omega
  rw[fF]at h1 f;refine⟨by simp;omega,h2,g,.inr ⟨b,_,d,bu.jY k us,by rw[iY];omega,?_⟩⟩;rw[fF]at ht⊢;rw[lA _ _ _ m,←ht,qD,jj I,cO,cO,List.take_append,List.take_append,cC,jj I,
   dM (l:=c.toList.take o) (by rw[cC];omega),dM (l:=us) I,List.drop_take,show s.len-o-us.length=s.len-(o+us.length) from I]
theorem vv(w:J)(l:O UInt8):
 ∃w',Sem.run aj (convert 48 48 (.slice (some w.heap.size) l.length l.length)) (w.alloc (.cells (aJ l).toArray 5))=.ok (.slice (some w.heap.size) l.length l.length) w'/\
  Src 1 w' ⟨some w.heap.size,l.length,l.length⟩ (aJ l)/\Ext w w'/\w'.heap.size=w.heap.size+1:=by
 refine⟨_,Go.Lib.run_convert_bytes_const (P:=aj) w 48 5 (aJ l).toArray l.length l.length (by kernel_rfl) (by kernel_rfl),⟨by rw[ez,fF],(λh=>by cases h),λa b=>?_⟩,ad.alloc (.refl _ _) _,by simp⟩
 cases b;have:=xw (w:=w.alloc (.cells (aJ l).toArray 5 ((aJ l).toArray.size,(aJ l).toArray.size+1))) (A:=w.heap.size) (aJ l) 0 (λj v c=>by
  rw[aw];show(World.cell? _ _)=_;have:(w.alloc (.cells (aJ l).toArray 5 ((aJ l).toArray.size,(aJ l).toArray.size+1))).heap[w.heap.size]? =some (.cells (aJ l).toArray 5 ((aJ l).toArray.size,(aJ l).toArray.size+1)):=by
   show(w.heap.push _)[w.heap.size]? =_;simp
  simp only[World.cell?,this];simpa using c)
 rw[ez]at this;rw[fF];exact this
theorem xI(n:Nat):g7 aj 5 n=(aJ (List.replicate n 0)).toArray:=by
 rw[Aa (v:=.int .u8 0) (by kernel_rfl) (by kernel_rfl)];simp[aJ]
theorem FE{A Z T C:O UInt8}{n m:Nat}(ar:A.length=n)(a:Z.length=m):(aJ (A++(Z++T))).take n++aJ C++(aJ (A++(Z++T))).drop (n+m)=aJ (A++(C++T)):=by
 have b:(aJ (A++(Z++T))).take n=aJ A:=by rw[oq];exact mf (by rw[ez,ar])
 have c:(aJ (A++(Z++T))).drop (n+m)=aJ T:=by rw[←cO,oq];exact drop_left' (by rw[ez,cz,ar,a])
 rw[b,c,oq,oq,cO]
theorem cj(w:J):Ext w w.drew:=ad.drew (.refl _ _)
theorem eJ(w:J)(o:Obj):Ext w (w.alloc o):=ad.alloc (.refl _ _) o
theorem rJ(w:J)(o:Obj):(w.alloc o).heap.size=w.heap.size+1:=by simp
theorem vw{s:Y}{p:iq}{no:Nat}{w:J}(hs:Src 1 w s (aJ p.body))(a2:no<1600)(i:m9 p):
 aQ aj 73 #[no,.agg #[p.kind,.int .u64 p.gen,s]] w (λv w'=>∃E:Y,v=.tuple #[E,(0:Int)]/\ba 1 5 w' E (aJ (eI no p))/\Ext w w'/\gT w E):=by
 have a3:=i.bE;have a4:=i.bG;have a5:=i.gen;have a6:=i.body;have N:=len8 hs;refine okF (af.tR no p.kind p.gen s) aA.tR func73 ?_;(delta af.tR aM ak r1 U ag bc bD ku w_ au xa gG;dsimp only);refine bj (vs:=[p.kind,.int .u64 p.gen,s]) rfl λw1 y F a7=>?_;have aU:∀ {w':J},Ext w1 w'->w'.cell? (Addr.add w.heap.size 2)=some (.slice s.a s.len s.cap):=λhx=>by rw[aw];exact(y.ext hx).cell
 have aC:∀ {w':J},Ext w1 w'->w'.cell? (Addr.add w.heap.size 1)=some (.int .u64 p.gen):=λhx=>by rw[aw];exact(y.ext hx).cell
 refine Calls.mono (af.Aq no w1 (λv w'=>v=true/\w1=w') ⟨by simp;omega,rfl⟩) ?_;rintro _ _ ⟨_,rfl,rfl,rfl⟩;refine⟨_,rfl,cd (λb w'=>b=false/\w1=w') (λq j=>⟨λh1=>by simp at h1,λh1=>⟨p.kind,y.cell,?_⟩⟩) ?_⟩
 .refine Calls.mono (af.Ar p.kind w1 (λv w'=>v=true/\w1=w') ⟨by simp;omega,rfl⟩) ?_
  rintro _ _ ⟨_,rfl,rfl,rfl⟩;exact⟨_,rfl,j _ _ ⟨rfl,rfl⟩⟩
 rintro b _ ⟨rfl,rfl⟩;refine⟨λh=>(by cases h),λ_=>⟨s,aU (.refl _ _),λh=>(by have:=b1 h;omega),λ_=>aW ?_⟩⟩
 obtain⟨ah,ai,am,O,a8⟩:=vv w1 gK;refine⟨⟨some w1.heap.size,4,4⟩,ah,ai,p.kind,(y.ext O).cell,?_⟩;have an:IntKind.wrap .u8 (p.kind:Int)=(((UInt8.ofNat p.kind).toNat:Nat):Int):=by rw[vj I,wR I I]
 rw[an];have z:=Src.new (T:=5) (sz:=1) ah (aJ [1,UInt8.ofNat p.kind]) 2 rfl;have G:=eJ ah (.cells (aJ [1,UInt8.ofNat p.kind]).toArray 5);obtain⟨f,ao⟩:∃f,f=ah.alloc (.cells (aJ [1,UInt8.ofNat p.kind]).toArray 5):=⟨_,rfl⟩;show al (ah.alloc (.cells (aJ [1,UInt8.ofNat p.kind]).toArray 5)) _;rw[←ao]at z G⊢;refine aW ?_;have H:=Src.new (T:=48) (sz:=1) f [.slice (some w1.heap.size) 4 4,.slice (some ah.heap.size) 2 2] 2 rfl;have A:=eJ f (.cells #[.slice (some w1.heap.size) 4 4,.slice (some ah.heap.size) 2 2] 48);obtain⟨B,P⟩:∃B,B=f.alloc (.cells #[.slice (some w1.heap.size) 4 4,.slice (some ah.heap.size) 2 2] 48):=⟨_,rfl⟩;have H:Src 1 B ⟨some f.heap.size,2,2⟩ [.slice (some w1.heap.size) 4 4,.slice (some ah.heap.size) 2 2]:=by rw[P];exact H
 rw[←P]at A⊢;have ap:Ext w1 B:=O.trans (G.trans A);refine aW ((vr (s:=⟨some f.heap.size,2,2⟩) [((⟨some w1.heap.size,4,4⟩:Y),gK),(⟨some ah.heap.size,2,2⟩,[1,UInt8.ofNat p.kind])] H ?_ (by simp[eR,gK]) (by simp)).use ?_)
 .intro q j
  simp only[cU,eL,eO]at j;rcases j with rfl|rfl
  .exact am.ext (G.trans A)
  .exact z.ext A
 rintro _ a9 ⟨aq,rfl,Q,ar,a_⟩;have R:=ap.trans ar;have av:eR [((⟨some w1.heap.size,4,4⟩:Y),gK),(⟨some ah.heap.size,2,2⟩,[1,UInt8.ofNat p.kind])]=gK++ [1,UInt8.ofNat p.kind]:=by simp[eR]
 rw[av]at Q;refine⟨aq,rfl,s,aU R,?_⟩;rw[gQ (n:=(s.len:Int)) I I,gQ (n:=(no:Int)) I I];refine(ik Q.src (n:=s.len) (k:=2) (by simp[gK]) (by show _<18446744073709551616;omega) ⟨by decide,by decide⟩).use ?_;rintro _ bb ⟨ax,rfl,ay,az,bd⟩;have aB:=R.trans az;refine⟨ax,rfl,(ik ay.src (n:=no) (k:=4) (by simp[gK,e5]) (by show _<18446744073709551616;omega) ⟨by decide,by decide⟩).use ?_⟩;rintro _ be ⟨aD,rfl,aE,aF,bf⟩;have S:=aB.trans aF;refine⟨aD,rfl,_,aC S,(ik aE.src (n:=p.gen) (k:=8) (by simp[gK,e5]) (by show _<18446744073709551616;omega) ⟨by decide,by decide⟩).use ?_⟩;rintro _ d ⟨u,rfl,V,aG,bg⟩;have C:=S.trans aG;have aH:gK++ [1,UInt8.ofNat p.kind]++b9 s.len 2++b9 no 4++b9 p.gen 8=fe no p:=by rw[N];simp[fe]
 rw[aH]at V;refine⟨u,rfl,cd (λt w'=>ba 1 5 w' t (aJ (fe no p++(List.replicate 4 0++fk p)))/\Ext w1 w'/\gT w t) (λq j=>?_) ?_⟩
 .have m:=cj d
  have W:=C.trans m;have aI:IntKind.wrap .i64 (232-(s.len:Int))=((232-s.len:Nat):Int):=by rw[bx I I];omega
  refine aW ⟨λ_=>False,id,s,aU W,id,s,aU W,?_⟩;rw[aI];simp only[dc,show Int.toNat 4=4 from rfl];rw[xI,xI];have fin:∀ (K ep:J) (g8 ct:Y),Ext d ep->Src 1 ep g8 (aJ (List.replicate 4 0))->Src 1 ep ct (aJ (List.replicate (232-s.len) 0))->
   Calls aj 92 #[.slice (some ep.heap.size) 4 4] (ep.alloc (.cells #[u,g8,s,ct] 48)) λaK aL=>∃X:Y,aK=.returned X/\q X aL:=by
   intro K ep g8 ct D h1 h2;have r:=eJ ep (.cells #[u,g8,s,ct] 48);refine(vr (s:=⟨some ep.heap.size,4,4⟩) [(u,fe no p),(g8,List.replicate 4 0),(s,p.body),(ct,List.replicate (232-s.len) 0)] (Src.new ep _ 4 rfl) ?_ (by simp[eR,m_];omega) (by simp)).use ?_
   .intro x hx
    simp only[cU,eL,eO]at hx;rcases hx with rfl|rfl|rfl|rfl
    .exact V.src.ext (D.trans r)
    .exact h1.ext r
    .exact hs.ext ((F.trans (C.trans D)).trans r)
    .exact h2.ext r
   .rintro _ Z ⟨aN,rfl,aP,hx,hf⟩
    refine⟨aN,rfl,j _ _ ⟨?_,(C.trans D).trans (r.trans hx),hf.mono (F.trans ((C.trans D).trans r)).size⟩⟩;have e:eR [(u,fe no p),(g8,List.replicate 4 0),(s,p.body),(ct,List.replicate (232-s.len) 0)]=fe no p++(List.replicate 4 0++fk p):=by simp[eR,fk,N]
    rwa[e]at aP
  refine⟨⟨⟨by decide,by decide,by decide,by decide⟩,aW ⟨eJ _ _,⟨I,Int.le_refl _,I,I⟩,aW ⟨eJ _ _,aW ?_⟩⟩⟩,⟨⟨I,Int.le_refl _,I,I⟩,aW ⟨eJ _ _,⟨by decide,by decide,by decide,by decide⟩,aW ⟨eJ _ _,aW ?_⟩⟩⟩⟩
  .refine fin d _ ⟨some d.drew.heap.size,4,4⟩ ⟨some ⟨(d.drew.alloc _).heap.size,0,none⟩,232-s.len,232-s.len⟩ (m.trans ((eJ _ _).trans (eJ _ _))) (Src.ext (Src.new _ _ _ (by simp[aJ])) (eJ _ _)) (Src.new _ _ _ (by simp[aJ]))
  .refine fin d _ ⟨some ⟨(d.drew.alloc _).heap.size,0,none⟩,4,4⟩ ⟨some d.drew.heap.size,232-s.len,232-s.len⟩ (m.trans ((eJ _ _).trans (eJ _ _))) (Src.new _ _ _ (by simp[aJ])) (Src.ext (Src.new _ _ _ (by simp[aJ])) (eJ _ _))
 rintro t K ⟨g,aR,aa⟩;have bh:t.len=256:=by
  have:=mg g;rw[this];simp[m_,vp i]
 have m:=cj K;refine aW ⟨λ_=>False,⟨by decide,I⟩,(nY (g.src.ext m) g.2.1 (by simp[m_,vp i])).use ?_⟩;rintro _ Z ⟨rfl,aS⟩;have es:sumOf (fe no p++(List.replicate 4 0++fk p))=iK (fe no p++fk p):=by
  unfold sumOf;rw[mf (m_ no p),←cO,drop_left' (by simp[m_])]
 rw[es];have bi:=xH (fe no p++fk p);refine⟨_,rfl,λ_=>False,?_⟩;rw[gQ I I];refine(ik (s:=⟨none,0,0⟩) (l:=[]) (n:=iK (fe no p++fk p)) (k:=4) (ba.none 1 5 Z).src (by simp) (by show _<18446744073709551616;omega) ⟨by decide,by decide⟩).use ?_;rintro _ aT ⟨aV,rfl,L,aX,bk⟩;rw[iT]at L;have ab:=m.trans (aS.trans aX);have ac:=g.ext ab;have ae:=mg L;rw[e5]at ae;obtain⟨b,c,M,aY,bl,_⟩:∃b c,t.a=some ⟨b,0,none⟩/\bu aT b c 5/\c.size=t.cap*1/\c.toList.take (t.len*1)=aJ (fe no p++(List.replicate 4 0++fk p)):=by
  rcases ac.2.2.2 with ⟨_,hc⟩|⟨b,c,h1,h2,aZ,a0⟩
  .have:=g.2.1;omega
  .exact⟨b,c,h1,h2,aZ,a0⟩
 have a1:aO t.a 1 (Int.toNat 20) t.cap=some ⟨b,20,none⟩:=by
  rw[M,show Int.toNat 20=20 from rfl,s5 (by have:=g.2.1;omega)]
 have bm:=g.2.1;refine⟨aV,rfl,_,_,by rw[a1];exact Fi (by kernel_rfl) L.src (by rw[ae];show 4<=t.len-20;omega) (aY.cc _ _ (by rw[ez,e5];omega) (k3 _)),t,rfl,?_,?_,aa⟩
 .have:=ba.FD ac M (o:=20) (us:=aJ (b9 (iK (fe no p++fk p)) 4)) (by rw[ez,e5];omega)
  have e:(aJ (fe no p++(List.replicate 4 0++fk p))).take 20++aJ (b9 (iK (fe no p++fk p)) 4)++(aJ (fe no p++(List.replicate 4 0++fk p))).drop (20+(aJ (b9 (iK (fe no p++fk p)) 4)).length)=aJ (eI no p):=by
   rw[ez,e5];exact FE (m_ no p) (by simp)
  rwa[e]at this
 .refine Ext.dy (F.trans (aR.trans ab)) (ad.kW (.refl _ _) _ 0) λk z=>?_
  subst z;exact aa _ ⟨_,M,rfl⟩
theorem l8{s:Y}{l:O UInt8}{w:J}(hs:Src 1 w s (aJ l))(hc:s.len<=s.cap){a k:Nat}{e:Int}(he:e=((a+k:Nat):Int))(b:1<=k/\k<=8)(c:a+k<=l.length)(d:l.length<=1000):
 aQ aj 227 #[s,a,e] w (λv w'=>v=.int .u64 (dg l a k:Nat)/\w=w'):=by
 subst he;refine okF (af.l8 s a ((a+k:Nat):Int)) aA.l8 func227 ?_;(delta af.l8 kY au;dsimp only);rw[bx I I,show(((a+k:Nat):Int)-(a:Int))=(k:Int) from I];refine(kZ hs hc b c I).use ?_;rintro _ _ ⟨rfl,rfl⟩;exact⟨_,_,rfl,rfl,rfl⟩
theorem pK{s:Y}{l:O UInt8}{w:J}(hs:Src 1 w s (aJ l))(o:l.length<=1000):
 aQ aj 228 #[s] w (λv w'=>v=.bool (l.all λc=>c==0)/\w=w'):=by
 have p:=len8 hs;refine okF (af.pK s) aA.pK func228 ?_;(delta af.pK ak aL b5 au;dsimp only);refine⟨λi w'=>∃j:Nat,i=j/\j<=l.length/\w=w'/\∀ (k:Nat) (a:k<l.length),k<j->l[k]=0,λi _=>((l.length:Int)-i).toNat,⟨0,rfl,cG _,rfl,λk a h=>I⟩,?_⟩;rintro _ _ ⟨j,rfl,q,rfl,d⟩;refine⟨λaK=>?_,λb=>?_⟩
 .have aK:j<l.length:=by have:=b1 aK;omega
  obtain⟨A,ar,f,g⟩:=hs.at (oo aK);refine⟨A,ar,f,_,g,λe=>?_,λm=>?_⟩
  .refine⟨?_,rfl⟩
   have:(l.all λc=>c==0)=false:=by
    rw[List.all_eq_false];refine⟨l[j],cE _,λh=>?_⟩;have h:=eq_of_beq h;rw[h]at e;simp at e
   rw[this]
  .have h0:l[j]=0:=by
    have:((l[j]).toNat:Int)=0:=by simpa using m
    exact UInt8.toNat_inj.1 (by show(l[j]).toNat=0;omega)
   rw[bx (n:=(j:Int)+1) I I];refine⟨⟨j+1,I,I,rfl,λk a h=>?_⟩,?_⟩
   .rcases dJ k j with h1|h1
    .exact d k a h1
    .have:k=j:=by omega
     subst this;exact h0
   .show((l.length:Int)-((j:Int)+1)).toNat<((l.length:Int)-(j:Int)).toNat
    omega
 .have b:j=l.length:=by have:=cu b;omega
  subst b;refine⟨?_,rfl⟩;have:(l.all λc=>c==0)=true:=by
   rw[mC];intro c hc;obtain⟨k,a,rfl⟩:=fh hc;rw[d k a a];rfl
  rw[this]
def AT(kind gen:Int)(s:Y):aa:=.agg #[kind,.int .u64 gen,s]
def vx(r:Except Int iq)(w w':J)(v:aa):Prop:=
 match r with
 | .ok p=>∃s:Y,v=.tuple #[AT p.kind p.gen s,(0:Int)]/\ba 1 5 w' s (aJ p.body)/\gT w s
 | .error e=>v=.tuple #[AT 0 0 ⟨none,0,0⟩,e]
theorem AU{w':J}{h:Nat}{vs:O aa}(n g:Int)(s:Y)(b:Var w' h vs 150)(e:vs.length=3){K:Int->Int->Y->J->Prop}(j:∀ah,ad (λq=>q=h) w' ah->K n g s ah):
 bA w' h [n,.int .u64 g,s]/\(3:Nat)=3/\al (setCells w' h 0 [n,.int .u64 g,s]) λah=>
  ∃f:Int,ah.cell? h=some (.int .i64 f)/\∃i:Int,ah.cell? (Addr.add h 1)=some (.int .u64 i)/\∃c:Y,ah.cell? (Addr.add h 2)=some (.slice c.a c.len c.cap)/\K f i c ah:=by
 refine⟨b.cc (by rw[e];rfl) ?_,rfl,cw b (us:=[n,.int .u64 g,s]) (by rw[e];rfl) rfl λah d hc _=>?_⟩
 .intro v b
  simp only[cU,eL,eO]at b;rcases b with rfl|rfl|rfl<;>trivial
 .exact⟨n,d.cell,g,by rw[aw];exact d.cell,s,by rw[aw];exact d.cell,j ah hc⟩
theorem mY{s:Y}{l:O UInt8}{w:J}(hs:Src 1 w s (aJ l))(hc:s.len<=s.cap)(u:l.length<=1000)(no:Int):
 aQ aj 172 #[no,s] w (λv w'=>vx (dS no l) w w' v/\Ext w w'):=by
 have aw:=len8 hs;refine okF (af.mY no s) aA.mY func172 ?_;(delta af.mY z3 ak U r1 bD ag xd aL b5 gG gw aM au jo;dsimp only);refine bj (vs:=[(0:Int),.int .u64 0,()]) rfl λw1 A x _=>?_
 have out:∀ (w':J) (e:Int),Ext w1 w'->dS no l=.error e->
  bA w' w.heap.size [(0:Int),.int .u64 0,()]/\(3:Nat)=3/\al (setCells w' w.heap.size 0 [(0:Int),.int .u64 0,()]) λah=>
  ∃g:Int,ah.cell? w.heap.size=some (.int .i64 g)/\∃j:Int,ah.cell? (Addr.add w.heap.size 1)=some (.int .u64 j)/\∃d:Y,ah.cell? (Addr.add w.heap.size 2)=some (.slice d.a d.len d.cap)/\
   (λv w'=>vx (dS no l) w w' v/\Ext w w') (.tuple #[.agg #[g,.int .u64 j,d],e]) ah:=by
  intro w' e hx he;refine AU 0 0 ⟨none,0,0⟩ (A.ext hx) rfl (K:=λg j d ah=>(λv w'=>vx (dS no l) w w' v/\Ext w w') (.tuple #[.agg #[g,.int .u64 j,d],e]) ah) λah y=>⟨?_,Ext.cn (x.trans hx) y (bp _)⟩;rw[he];rfl
 refine⟨λh=>out _ _ (.refl _ _) ?_,λh=>?_⟩
 .have h:(s.len:Int)≠256:=by simpa using h
  unfold dS;rw[if_pos I]
 have h:(s.len:Int)=256:=by simpa using h
 have N:l.length=256:=by omega
 have o:=hs.ext x;have P:=na o hc (lo:=0) (hi:=4) I I;have Q:Src 1 w1 ⟨aO s.a 1 0 s.cap,4-0,s.cap-0⟩ (((l.take 4).map λb=>(b.toNat:Int)).map (.int .u8)):=by
  rw[iA];exact P
 have E:=AJ (src:=48) (dst:=9) (by kernel_rfl) (by kernel_rfl) Q;have R:(((l.take 4).map λb=>(b.toNat:Int)).map λn=>UInt8.ofNat n.toNat)=l.take 4:=by
  rw[iA];have:((λn:Int=>UInt8.ofNat n.toNat)∘ λb:UInt8=>(b.toNat:Int))=id:=by funext b;simp
  rw[this,List.map_id]
 rw[R]at E;refine⟨⟨by decide,I⟩,S (l.take 4),w1,E,?_⟩;have T:(ByteArray.toList (S (l.take 4))==ByteArray.toList (ByteArray.mk #[83,84,78,67]))=decide (l.take 4=gK):=by
  rw[show(ByteArray.mk #[83,84,78,67])=S gK from rfl,nO];rw[fV];simp
 rw[T];refine⟨λh=>out _ _ (.refl _ _) ?_,λh=>?_⟩
 .have h:l.take 4≠gK:=by simpa using h
  unfold dS;rw[if_neg I,if_pos h]
 have p:l.take 4=gK:=by simpa using h
 obtain⟨V,W,ax,X⟩:=o.at (oo (l:=l) (i:=4) I);have ay:s.len=256:=by omega
 refine⟨V,W,⟨by decide,I⟩,_,X,λh=>out _ _ (.refl _ _) ?_,λh=>?_⟩
 .have h:(((l[4]'I).toNat:Nat):Int)≠1:=by simpa using h
  unfold dS;rw[if_neg I,if_neg (by simp[p]),if_pos (by
   intro e;apply h;rw[fq,dE I]at e;have e:(l[4]'I)=1:=e;rw[e];rfl)]
 have z:l.getD 4 0=1:=by
  have h:(((l[4]'I).toNat:Nat):Int)=1:=by simpa using h
  rw[fq,dE I];exact UInt8.toNat_inj.1 (by show(l[4]'I).toNat=1;omega)
 refine(nY o hc N).use ?_;rintro _ ah ⟨rfl,f⟩;have m:=o.ext f;refine⟨_,rfl,(l8 m hc (a:=20) (k:=4) (e:=24) rfl (by decide) I u).use ?_⟩;rintro _ _ ⟨rfl,rfl⟩;have az:sumOf l<4294967296:=xH _;rw[gQ (n:=((sumOf l:Nat):Int)) I I];refine⟨_,rfl,λh=>out _ _ f ?_,λh=>?_⟩
 .have h:((sumOf l:Nat):Int)≠((dg l 20 4:Nat):Int):=by simpa using h
  unfold dS;rw[if_neg I,if_neg (by simp[p]),if_neg (λh=>h z),if_pos I]
 have aB:sumOf l=dg l 20 4:=by
  have h:((sumOf l:Nat):Int)=((dg l 20 4:Nat):Int):=by simpa using h
  omega
 refine(l8 m hc (a:=6) (k:=2) (e:=8) rfl (by decide) I u).use ?_;rintro _ _ ⟨rfl,rfl⟩;have aC:dg l 6 2<65536:=m6 2 _ (by simp;omega);obtain⟨Z,aa,aD,ac⟩:=m.at (oo (l:=l) (i:=5) I);have B:l.getD 5 0=l[5]'I:=by rw[fq,dE I];rfl
 have aE:=oW (l[5]'I);refine⟨_,rfl,Z,aa,⟨by decide,I⟩,_,ac,?_⟩;rw[bx (n:=(((l[5]'I).toNat:Nat):Int)) I I,bx (n:=((dg l 6 2:Nat):Int)) I I];refine Calls.mono (af.Ar (((l[5]'I).toNat:Nat):Int) ah (λv w'=>v=.bool (decide (1<=(l[5]'I).toNat/\(l[5]'I).toNat<=4))/\ah=w') ⟨?_,rfl⟩) ?_
 .have e:(decide ((((l[5]'I).toNat:Nat):Int)>=1)&&decide ((((l[5]'I).toNat:Nat):Int)<=4))=decide (1<=(l[5]'I).toNat/\(l[5]'I).toNat<=4):=by
   rw[fV];simp only[dZ,cQ];omega
  rw[e]
 rintro _ _ ⟨_,rfl,rfl,rfl⟩;have aF:24+dg l 6 2<=256->True:=λ_=>trivial;refine⟨_,rfl,cd (λb w'=>b=decide (¬(1<=(l[5]'I).toNat/\(l[5]'I).toNat<=4)\/232<dg l 6 2\/(l.drop (24+dg l 6 2)).all (λc=>c==0)=false)/\ah=w') (λq r=>⟨λh1=>r _ _ ⟨?_,rfl⟩,λh1=>?_⟩) ?_⟩
 .refine(dK ?_).symm
  simp only[iS,lf,jw,cQ]at h1;rcases h1 with h1|h1
  .exact .inl h1
  .exact .inr (.inl I)
 .simp only[nw,su,jw,cQ]at h1
  have ad:dg l 6 2<=232:=by omega
  rw[bx (n:=24+((dg l 6 2:Nat):Int)) I I];refine⟨⟨I,I⟩,?_⟩;have ae:Int.toNat (24+((dg l 6 2:Nat):Int))=24+dg l 6 2:=by omega
  rw[ae];have F:=na m hc (lo:=24+dg l 6 2) (hi:=s.len) I I;rw[dM (l:=l.drop (24+dg l 6 2)) (by rw[c_];omega)]at F;refine(pK F (by rw[c_];omega)).use ?_;rintro _ _ ⟨rfl,rfl⟩;refine⟨_,rfl,r _ _ ⟨?_,rfl⟩⟩
  cases aG:(l.drop (24+dg l 6 2)).all (λc=>c==0) with
  |true=>exact(iV (by rintro(h2|h2|h2)<;>first|exact h2 h1.1|omega|cases h2)).symm
  |false=>exact(dK (.inr (.inr rfl))).symm
 rintro b _ ⟨rfl,rfl⟩;refine⟨λh=>out _ _ f ?_,λh=>?_⟩
 .have h:=b1 h
  unfold dS;rw[if_neg I,if_neg (by simp[p]),if_neg (λh=>h z),if_neg I,if_pos (by rw[B];exact h)]
 have t:=cu h;have G:¬(¬(1<=(l.getD 5 0).toNat/\(l.getD 5 0).toNat<=4)\/232<dg l 6 2\/(l.drop (24+dg l 6 2)).all (λc=>c==0)=false):=by rw[B];exact t
 have ad:dg l 6 2<=232:=by
  rcases dJ 232 (dg l 6 2) with h1|h1
  .exact absurd (.inr (.inl h1)) t
  .exact h1
 have aH:1<=(l[5]'I).toNat/\(l[5]'I).toNat<=4:=oX λh=>t (.inl h);refine Calls.mono (af.Aq no ah (λv w'=>v=.bool (decide (0<=no/\no<1600))/\ah=w') ⟨by simp[ge_iff_le],rfl⟩) ?_;rintro _ _ ⟨_,rfl,rfl,rfl⟩;have aI:dg l 8 4<4294967296:=m6 4 _ (by simp;omega);refine⟨_,rfl,cd (λb w'=>b=decide (¬(0<=no/\no<1600)\/(dg l 8 4:Int)≠no)/\ah=w') (λq r=>⟨λh1=>r _ _ ⟨?_,rfl⟩,λh1=>?_⟩) ?_⟩
 .refine(dK ?_).symm
  simp only[lf,jw]at h1;exact .inl h1
 .simp only[su,cQ]at h1
  refine(l8 m hc (a:=8) (k:=4) (e:=12) rfl (by decide) I u).use ?_;rintro _ _ ⟨rfl,rfl⟩;refine⟨_,rfl,r _ _ ⟨?_,rfl⟩⟩;rw[gQ (n:=no) I I,fV,cQ,bne_iff_ne];exact⟨λh=>.inr h,λh=>h.resolve_left (λh2=>h2 h1)⟩
 rintro b _ ⟨rfl,rfl⟩;refine⟨λh=>out _ _ f ?_,λh=>?_⟩
 .have h:=b1 h
  unfold dS;rw[if_neg I,if_neg (by simp[p]),if_neg (λh=>h z),if_neg I,if_neg G,if_pos h]
 have ai:=cu h;have am:dS no l=.ok ⟨(l.getD 5 0).toNat,dg l 12 8,(l.drop 24).take (dg l 6 2)⟩:=by
  unfold dS;rw[if_neg I,if_neg (by simp[p]),if_neg (λh=>h z),if_neg I,if_neg G,if_neg ai]
 refine(pL m hc (a:=24) (k:=dg l 6 2) I I).use ?_;rintro _ an ⟨C,rfl,ao,ap,H⟩;have L:=cj an;have D:=f.trans (ap.trans L);have M:=o.ext D;obtain⟨aq,ar,aK,av⟩:=M.at (oo (l:=l) (i:=5) I);refine⟨C,true,rfl,aW ⟨λ_=>False,aq,ar,⟨by decide,I⟩,id,_,av,(l8 M hc (a:=12) (k:=8) (e:=20) rfl (by decide) I u).use ?_⟩⟩;rintro _ _ ⟨rfl,rfl⟩;rw[bx (n:=(((l[5]'I).toNat:Nat):Int)) I I];refine⟨_,rfl,.refl _ _,AU _ _ C (A.ext D) rfl (K:=λg j d ah=>(λv w'=>vx (dS no l) w w' v/\Ext w w') (.tuple #[.agg #[g,.int .u64 j,d],(0:Int)]) ah) λaN y=>⟨?_,Ext.cn (x.trans D) y (bp _)⟩⟩;rw[am];refine⟨C,by rw[B];rfl,(ao.ext L).ab y λk t e=>?_,H.mono (x.trans f).size⟩;have:=H k t;have:=A.lt;have:=f.size;subst e;omega
theorem AV{P:Program}{w:J}:∀ (l:O UInt8) (a:ae) (acc:ByteArray),(∀j x,l[j]? =some x->w.cell? (a.add j)=some (.int .u8 (x.toNat:Int)))->
 (Extern.Bytes.loadBytes a l.length acc).run P w=.ok ⟨acc.data++l.toArray⟩ w
 | [],a,acc,_=>by simp[Extern.Bytes.loadBytes]
 |x::l,a,acc,h=>by
  have h0:=h 0 x rfl
  rw[add_zero']at h0
  have b:=AV (P:=P) l (a.add 1) (acc.push x) (λj y c=>by
   rw[add_add,Nat.add_comm]
   exact h (j+1) y (by simpa using c))
  have hx:(x.toNat:Int).toNat.toUInt8=x:=Fg x
  simp only[e8,Extern.Bytes.loadBytes,Sem.run_bind,wj h0,Result.andThen,hx]
  rw[b]
  congr 2
  simp[ByteArray.push]
theorem AW{P:Program}{w:J}{s:Y}{l:O UInt8}(h:Src 1 w s (aJ l)):(Extern.Bytes.bytesOf s).run P w=.ok (S l) w:=by
 cases hs:s.a with
 |none=>
  have h0:l=[]:=by
   have:=h.nil hs
   cases l with
   |nil=>rfl
   |cons a l=>simp[aJ]at this
  subst h0;rfl
 |some A=>
  have b:=h.rd A hs;rw[fF]at b;have:=AV (P:=P) (w:=w) l A .empty (λj x c=>by
   have:=ph b (j:=j) (v:=.int .u8 (x.toNat:Int)) (by simp[aJ,c]);simpa using this)
  show(Extern.Bytes.loadBytes A s.len .empty).run P w=_;rw[len8 h,this]
  congr 1
  show(ByteArray.mk (ByteArray.empty.data++l.toArray))=ByteArray.mk l.toArray
  congr 1
  exact Array.empty_append ..
theorem AX:∀a b:Key,Lib.compareBytes a b=eH a b
 | [],[]=>rfl
 | [],_::_=>rfl
 |_::_,[]=>rfl
 |a::x,b::y=>by
  simp only[Lib.compareBytes,eH,UInt8.lt_iff_toNat_lt,AX x y]
theorem ky{s t:Y}{l m:Key}{w:J}(hs:Src 1 w s (aJ l))(ht:Src 1 w t (aJ m)):
 aQ aj 176 #[s,t] w (λv w'=>v=.int .i64 (eH l m)/\w=w'):=by
 refine okF (af.ky s t) aA.ky func176 ?_;unfold af.ky;refine⟨eH l m,w,?_,rfl,rfl⟩;rw[run_callFunc_extern func230 rfl rfl rfl rfl];have:(Extern.BytealgCompare.compare #[s,t]).run aj w=.ok (.int .i64 (eH l m)) w:=by
  change Sem.run aj (do pure (goInt (Extern.BytealgCompare.cmp (←Extern.Bytes.bytesOf s) (←Extern.Bytes.bytesOf t)))) w=_
  simp only[Sem.run_bind,AW hs,AW ht,Result.andThen,Sem.run_pure];rw[Lib.cmp_eq];show Result.ok (goInt (Lib.compareBytes l m)) w=_;rw[AX];rfl
 rw[this];rfl
theorem mh{s:Y}{l:O UInt8}{w:J}(h:Src 1 w s (aJ l)):Sem.run aj (convert 48 9 s) w=.ok (.string (S l)) w:=by
 have a:Src 1 w s ((l.map λb=>(b.toNat:Int)).map (.int .u8)):=by rw[iA];exact h
 have:=AJ (src:=48) (dst:=9) (by kernel_rfl) (by kernel_rfl) a;rw[iA]at this;have e:((λn:Int=>UInt8.ofNat n.toNat)∘ λb:UInt8=>(b.toNat:Int))=id:=by funext b;simp
 rw[e,List.map_id]at this;exact this
theorem pw{s t:Y}{l m:Key}{w:J}(hs:Src 1 w s (aJ l))(ht:Src 1 w t (aJ m)):
 aQ aj 158 #[s,t] w (λv w'=>v=.bool (decide (l=m))/\w=w'):=by
 refine okF (af.pw s t) aA.pw func158 ?_;unfold af.pw;refine⟨_,_,mh hs,_,_,mh ht,?_,rfl⟩;rw[nO]
 congr 1
 rw[fV];simp
def In(B:Nat->Prop)(w:J)(s:Y):Prop:=∀k,aB s k->B k/\k<w.heap.size
def a6(B:Nat->Prop)(w:J)(t:Y)(l:Key):Prop:=Src 1 w t (aJ l)/\t.len<=t.cap/\In B w t
def bo(B:Nat->Prop)(w:J)(s:Y)(ls:O Key):Prop:=
 ∃ts:O Y,ts.length=ls.length/\Src 1 w s (ts.map hX)/\s.len<=s.cap/\In B w s/\∀ (i:Nat) (h1:i<ts.length) (h2:i<ls.length),a6 B w ts[i] ls[i]
def ef(ds:O Nat):O aa:=ds.map λd=>.int .i64 ((d:Nat):Int)
def cL(B:Nat->Prop)(w:J)(s:Y)(ds:O Nat):Prop:=Src 1 w s (ef ds)/\s.len<=s.cap/\In B w s
def br(B:Nat->Prop)(w:J)(s:Y)(ls:O Key):Prop:=
 ∃ts:O Y,ts.length=ls.length/\ba 1 48 w s (ts.map hX)/\In B w s/\∀ (i:Nat) (h1:i<ts.length) (h2:i<ls.length),a6 B w ts[i] ls[i]/\∀k,aB ts[i] k->¬aB s k
def cR(B:Nat->Prop)(w:J)(s:Y)(ds:O Nat):Prop:=ba 1 3 w s (ef ds)/\In B w s
section
variable {B C:Nat->Prop}{w w':J}{s t:Y}{l:Key}{ls:O Key}{ds:O Nat}
theorem In.ab{V:Nat->Prop}(h:In B w s)(hc:ad V w w'):In B w' s:=λk a=>⟨(h k a).1,fP (h k a).2 hc.size⟩
theorem In.aX(h:In B w s)(b:∀k,k<w.heap.size->B k->C k):In C w s:=λk a=>⟨b k (h k a).2 (h k a).1,(h k a).2⟩
theorem a6.ab{V:Nat->Prop}(h:a6 B w t l)(hc:ad V w w')(a:∀k,B k->¬V k):a6 B w' t l:=⟨h.1.ab hc λk b=>a k (h.2.2 k b).1,h.2.1,In.ab h.2.2 hc⟩
theorem a6.iL{V:Nat->Prop}(h:a6 B w t l)(hc:ad V w w')(a:∀k,aB t k->¬V k):a6 B w' t l:=⟨h.1.ab hc a,h.2.1,In.ab h.2.2 hc⟩
theorem a6.ext(h:a6 B w t l)(hc:Ext w w'):a6 B w' t l:=a6.ab h hc λ_ _ h=>h
theorem a6.aX(h:a6 B w t l)(a:∀k,k<w.heap.size->B k->C k):a6 C w t l:=⟨h.1,h.2.1,In.aX h.2.2 a⟩
theorem bo.ab{V:Nat->Prop}(h:bo B w s ls)(hc:ad V w w')(a:∀k,B k->¬V k):bo B w' s ls:=by
 obtain⟨ts,h1,h2,c,b,d⟩:=h;exact⟨ts,h1,h2.ab hc λk e=>a k (b k e).1,c,In.ab b hc,λi f g=>a6.ab (d i f g) hc a⟩
theorem bo.ext(h:bo B w s ls)(hc:Ext w w'):bo B w' s ls:=bo.ab h hc λ_ _ h=>h
theorem bo.aX(h:bo B w s ls)(a:∀k,k<w.heap.size->B k->C k):bo C w s ls:=by
 obtain⟨ts,h1,h2,b,c,d⟩:=h;exact⟨ts,h1,h2,b,In.aX c a,λi e f=>a6.aX (d i e f) a⟩
theorem cL.ab{V:Nat->Prop}(h:cL B w s ds)(hc:ad V w w')(a:∀k,B k->¬V k):cL B w' s ds:=⟨h.1.ab hc λk b=>a k (h.2.2 k b).1,h.2.1,In.ab h.2.2 hc⟩
theorem cL.ext(h:cL B w s ds)(hc:Ext w w'):cL B w' s ds:=cL.ab h hc λ_ _ h=>h
theorem cL.aX(h:cL B w s ds)(a:∀k,k<w.heap.size->B k->C k):cL C w s ds:=⟨h.1,h.2.1,In.aX h.2.2 a⟩
theorem bo.len(h:bo B w s ls):s.len=ls.length:=by
 obtain⟨ts,h1,h2,_⟩:=h;have:=h2.len;rw[dL]at this;omega
theorem nc(ds:O Nat):(ef ds).length=ds.length:=by simp[ef]
theorem cL.len(h:cL B w s ds):s.len=ds.length:=by
 have:=h.1.len;rw[nc]at this;omega
theorem bo.at(h:bo B w s ls){i:Nat}(hi:i<ls.length):∃ (A:ae) (t:Y),s.a=some A/\((0:Int)<=(i:Int)/\(i:Int)<(s.len:Int))/\w.cell? (A.add (Int.toNat (i:Int)*1))=some (.slice t.a t.len t.cap)/\a6 B w t ls[i]/\B A.block:=by
 obtain⟨ts,h1,h2,e,b,c⟩:=h;obtain⟨A,ar,d,hc⟩:=h2.at (i:=i) (v:=hX (ts[i]'I)) (by simp[h1,hi]);exact⟨A,ts[i]'I,ar,d,hc,c i I hi,(b _ ⟨A,ar,rfl⟩).1⟩
theorem cL.at(h:cL B w s ds){i:Nat}(hi:i<ds.length):∃A:ae,s.a=some A/\((0:Int)<=(i:Int)/\(i:Int)<((s.len:Nat):Int))/\w.cell? (A.add (Int.toNat (i:Int)*1))=some (.int .i64 ((ds[i]:Nat):Int)):=by
 obtain⟨A,ar,b,hc⟩:=h.1.at (i:=i) (v:=.int .i64 ((ds[i]:Nat):Int)) (by simp[ef,hi]);exact⟨A,ar,b,hc⟩
theorem br.iM(h:br B w s ls):bo B w s ls:=by
 obtain⟨ts,h1,h2,a,b⟩:=h;exact⟨ts,h1,h2.src,h2.2.1,a,λi c d=>(b i c d).1⟩
theorem cR.p1(h:cR B w s ds):cL B w s ds:=⟨h.1.src,h.1.2.1,h.2⟩
theorem br.none(B:Nat->Prop)(w:J):br B w ⟨.none,0,0⟩ []:=⟨[],rfl,ba.none _ _ _,λk a=>(fZ k a).elim,λi h=>by simp at h⟩
theorem cR.none(B:Nat->Prop)(w:J):cR B w ⟨.none,0,0⟩ []:=⟨ba.none _ _ _,λk a=>(fZ k a).elim⟩
theorem bo.none(B:Nat->Prop)(w:J):bo B w ⟨.none,0,0⟩ []:=br.iM (br.none B w)
theorem cL.none(B:Nat->Prop)(w:J):cL B w ⟨.none,0,0⟩ []:=cR.p1 (cR.none B w)
theorem br.ab{V:Nat->Prop}(h:br B w s ls)(hc:ad V w w')(a:∀k,B k->¬V k):br B w' s ls:=by
 obtain⟨ts,h1,h2,b,c⟩:=h;exact⟨ts,h1,h2.ab hc λk f=>a k (b k f).1,In.ab b hc,λi d e=>⟨a6.ab (c i d e).1 hc a,(c i d e).2⟩⟩
theorem br.ext(h:br B w s ls)(hc:Ext w w'):br B w' s ls:=br.ab h hc λ_ _ h=>h
theorem cR.ab{V:Nat->Prop}(h:cR B w s ds)(hc:ad V w w')(a:∀k,B k->¬V k):cR B w' s ds:=⟨h.1.ab hc λk b=>a k (h.2 k b).1,In.ab h.2 hc⟩
theorem cR.ext(h:cR B w s ds)(hc:Ext w w'):cR B w' s ds:=cR.ab h hc λ_ _ h=>h
theorem a6.some(h:a6 B w t l)(b:l≠ []):∃A,t.a=some A:=by
 cases c:t.a with
 |none=>
  have:=h.1.nil c;exfalso;apply b
  cases l with
  |nil=>rfl
  |cons a l=>simp[aJ]at this
 |some A=>exact⟨A,rfl⟩
end
theorem p2:hM aj 127 48 1 24:=⟨by kernel_rfl⟩
theorem p3:hM aj 58 3 1 8:=⟨by kernel_rfl⟩
theorem vy(ts:O Y):∀v∈ts.map hX,Plain v:=by
 intro v a;obtain⟨n,_,rfl⟩:=eE.1 a;trivial
theorem xJ(ds:O Nat):∀v∈ef ds,Plain v:=by
 intro v a;obtain⟨n,_,rfl⟩:=eE.1 a;trivial
theorem kC{B:Nat->Prop}{w:J}{s:Y}{l:O UInt8}(h:Src 1 w s (aJ l))(d:l.length<=1000000)(hB:∀k,w.heap.size<=k->B k):
 aQ aj 135 #[s] w (λv w'=>∃a:Y,v=a/\a6 B w' a l/\Ext w w'/\gT w a):=by
 refine(xy h d).mono ?_;rintro _ w' ⟨a,rfl,b,hx,hf⟩;exact⟨a,rfl,⟨b.src,b.2.1,λk c=>⟨hB k (hf k c),b.lt k c⟩⟩,hx,hf⟩
theorem AY{B:Nat->Prop}{w:J}{s t:Y}{ls:O Key}{l:Key}(n:br B w s ls)(ht:a6 B w t l)(hd:∀k,aB t k->¬aB s k)(z:ls.length<=1000000)(hB:∀k,w.heap.size<=k->B k):
 ∃ (b:Y) (w':J),Sem.run aj (Builtin.append_ #[127,127] 127 #[s,.slice (some w.heap.size) 1 1]) (w.alloc (.cells #[t] 48))=.ok b w'/\
  br B w' b (ls++ [l])/\ad (aB s) w w'/\(∀k,aB b k->aB s k\/w.heap.size<=k):=by
 obtain⟨ts,h1,h2,o,p⟩:=n;have A:s.len=ls.length:=by have:=h2.1;rw[dL]at this;omega
 obtain⟨b,w',av,ax,C,c,d⟩:=p2.push (cK:=127) (w:=w) (s:=s) (xs:=[hX t]) rfl h2 (λv q=>by rw[fo.1 q];trivial) I;refine⟨b,w',av,⟨ts++ [t],by simp[h1],?_,?_,λi f r=>?_⟩,c,d⟩
 .rw[fW];exact ax
 .intro k a
  refine⟨?_,ax.lt k a⟩;rcases d k a with h|h
  .exact(o k h).1
  .exact hB k h
 .have g:∀ (x:Y),(∀k,aB x k->k<w.heap.size)->(∀k,aB x k->¬aB s k)->∀k,aB x k->¬aB b k:=λx hx u k a y=>by
   rcases d k y with h|h
   .exact u k a h
   .have:=hx k a;omega
  have D:i<ts.length+1:=by simpa using f
  rcases dJ i ts.length with h|h
  .obtain⟨j,m⟩:=p i h I
   simp only[lU h,lU (show i<ls.length from I)];exact⟨a6.iL j c m,g _ (λk a=>(j.2.2 k a).2) m⟩
  .have:i=ts.length:=by omega
   subst this;have e:(ts++ [t])[ts.length]'f=t:=by simp
   have:(ls++ [l])[ts.length]'r=l:=by rw[ny I];simp
   rw[this,e];exact⟨a6.iL ht c hd,g _ (λk a=>(ht.2.2 k a).2) hd⟩
theorem FF{B:Nat->Prop}{w:J}{s:Y}{ds:O Nat}(d:Nat)(b:cR B w s ds)(i:ds.length<=1000000)(hB:∀k,w.heap.size<=k->B k):
 ∃ (a:Y) (w':J),Sem.run aj (Builtin.append_ #[58,58] 58 #[s,.slice (some w.heap.size) 1 1]) (w.alloc (.cells #[d] 3))=.ok a w'/\
  cR B w' a (ds++ [d])/\ad (aB s) w w'/\(∀k,aB a k->aB s k\/w.heap.size<=k):=by
 have j:s.len=ds.length:=by have:=b.1.1;rw[nc]at this;omega
 obtain⟨a,w',av,ax,l,f,c⟩:=p3.push (cK:=58) (w:=w) (s:=s) (xs:=[d]) rfl b.1 (λv g=>by rw[fo.1 g];trivial) I;refine⟨a,w',av,⟨by simpa[ef] using ax,λk e=>⟨?_,ax.lt k e⟩⟩,f,c⟩;rcases c k e with h|h
 .exact(b.2 k h).1
 .exact hB k h
structure bC(B:Nat->Prop)(w:J)(n:aD)(K V D:Y):Prop where
 keys:bo B w K n.keys
 vals:bo B w V n.vals
 kids:cL B w D n.kids
def dY(n:aD)(K V D:Y):O aa:=[n.leaf,K,V,D]
def c0(n:aD)(K V D:Y):aa:=.agg #[n.leaf,K,V,D]
section
variable {B C:Nat->Prop}{w w':J}{n:aD}{K V D:Y}
theorem bC.ab{W:Nat->Prop}(h:bC B w n K V D)(hc:ad W w w')(a:∀k,B k->¬W k):bC B w' n K V D:=⟨bo.ab h.keys hc a,bo.ab h.vals hc a,cL.ab h.kids hc a⟩
theorem bC.ext(h:bC B w n K V D)(hc:Ext w w'):bC B w' n K V D:=bC.ab h hc λ_ _ h=>h
theorem bC.aX(h:bC B w n K V D)(a:∀k,k<w.heap.size->B k->C k):bC C w n K V D:=⟨bo.aX h.keys a,bo.aX h.vals a,cL.aX h.kids a⟩
theorem bF{b:Nat}{T:TypeId}{leaf:ai}(h:Var w b [leaf,K,V,D] T):
 w.cell? b=some (.bool leaf)/\w.cell? (Addr.add b 1)=some (.slice K.a K.len K.cap)/\w.cell? (Addr.add b 2)=some (.slice V.a V.len V.cap)/\w.cell? (Addr.add b 3)=some (.slice D.a D.len D.cap):=by
 rw[aw,aw,aw];exact⟨h.cell,h.cell,h.cell,h.cell⟩
end
theorem FG{B:Nat->Prop}{w:J}{s:Y}{ls:O Key}(h:bo B w s ls)(f:ls.length<=1000000):
   aQ aj 242 #[s,.func (.func 241) #[] #[]] w (λv w'=>v=.bool (ls.any λv=>decide (24<v.length))/\w=w'):=by
 refine okF (af.tE s ⟨241,#[],#[]⟩) aA.tE func242 ?_
 (delta af.tE aC;dsimp only)
 have g:=bo.len h
 have e:iD aj 241:=⟨_,(Option.some_get (show(Tryz.prog.funcs[241]?).isSome=true by kernel_rfl)).symm,by kernel_rfl,by kernel_rfl⟩
 refine Calls.mono (af.Ep s ⟨241,#[],#[]⟩ w (λv w'=>(∃i:Int,v=i/\(decide (i>=0))=(ls.any λv=>decide (24<v.length)))/\w=w') ?_) ?_
 · (delta af.ri ak aL ag au;dsimp only)
   refine⟨λi w'=>∃j:Nat,i=j/\j<=ls.length/\w=w'/\∀ (k:Nat) (a:k<ls.length),k<j->(ls[k]).length<=24,λi _=>((ls.length:Int)-i).toNat,⟨0,rfl,cG _,rfl,λk a h=>I⟩,?_⟩
   rintro _ _ ⟨j,rfl,l,rfl,d⟩
   refine⟨λaK=>?_,λc=>?_⟩
   · have aK:j<ls.length:=by have:=b1 aK;omega
     obtain⟨A,t,ar,b,hc,ht,_⟩:=bo.at h aK
     refine⟨A,ar,b,t,hc,e,?_⟩
     have m:=len8 ht.1
     refine Calls.mono (af.EN t w (λv w'=>v=.bool (decide (24<(ls[j]).length))/\w=w') ⟨?_,rfl⟩) ?_
     · congr 1
       rw[fV,cQ,cQ];omega
     rintro _ _ ⟨_,rfl,rfl,rfl⟩
     refine⟨_,rfl,λb=>⟨⟨j,rfl,?_⟩,rfl⟩,λb=>?_⟩
     · have:(ls.any λv=>decide (24<v.length))=true:=List.any_eq_true.2 ⟨_,cE aK,b⟩
       rw[this];exact dK I
     · have b:=cu b
       rw[bx (n:=(j:Int)+1) I I]
       refine⟨⟨j+1,I,I,rfl,λk a h=>?_⟩,?_⟩
       · rcases dJ k j with h1|h1
         · exact d k a h1
         · have:k=j:=by omega
           subst this;omega
       · show((ls.length:Int)-((j:Int)+1)).toNat<((ls.length:Int)-(j:Int)).toNat
         omega
   · have c:j=ls.length:=by have:=cu c;omega
     subst c
     refine⟨⟨-1,rfl,?_⟩,rfl⟩
     have:(ls.any λv=>decide (24<v.length))=false:=by
       rw[oQ]
       intro x hx
       obtain⟨k,a,rfl⟩:=fh hx
       have:=d k a a
       simp;omega
     rw[this];rfl
 · rintro _ _ ⟨_,rfl,⟨i,rfl,hi⟩,rfl⟩
   exact⟨i,rfl,by rw[hi],rfl⟩
theorem FH{B:Nat->Prop}{w:J}{s:Y}{ds:O Nat}(h:cL B w s ds)(g:ds.length<=1000000):
   aQ aj 244 #[s,.func (.func 243) #[] #[]] w (λv w'=>v=.bool (ds.any λd=>decide (1600<=d))/\w=w'):=by
 refine okF (af.tF s ⟨243,#[],#[]⟩) aA.tF func244 ?_
 (delta af.tF aC;dsimp only)
 have l:=cL.len h
 have f:iD aj 243:=⟨_,(Option.some_get (show(Tryz.prog.funcs[243]?).isSome=true by kernel_rfl)).symm,by kernel_rfl,by kernel_rfl⟩
 refine Calls.mono (af.Er s ⟨243,#[],#[]⟩ w (λv w'=>(∃i:Int,v=i/\(decide (i>=0))=(ds.any λd=>decide (1600<=d)))/\w=w') ?_) ?_
 · (delta af.rj ak aL r1 au;dsimp only)
   refine⟨λi w'=>∃j:Nat,i=j/\j<=ds.length/\w=w'/\∀ (k:Nat) (a:k<ds.length),k<j->ds[k]<1600,λi _=>((ds.length:Int)-i).toNat,⟨0,rfl,cG _,rfl,λk a h=>I⟩,?_⟩
   rintro _ _ ⟨j,rfl,m,rfl,e⟩
   refine⟨λaK=>?_,λc=>?_⟩
   · have aK:j<ds.length:=by have:=b1 aK;omega
     obtain⟨A,ar,b,hc⟩:=cL.at h aK
     refine⟨A,ar,b,_,hc,f,?_⟩
     refine Calls.mono (af.EO ((ds[j]:Nat):Int) w (λv w'=>v=.bool (decide (1600<=ds[j]))/\w=w') ⟨?_,rfl⟩) ?_
     · congr 1
       rw[fV,iS,cQ,cQ,cQ];omega
     rintro _ _ ⟨_,rfl,rfl,rfl⟩
     refine⟨_,rfl,λb=>⟨⟨j,rfl,?_⟩,rfl⟩,λb=>?_⟩
     · have:(ds.any λd=>decide (1600<=d))=true:=List.any_eq_true.2 ⟨_,cE aK,b⟩
       rw[this];exact dK I
     · have b:=cu b
       rw[bx (n:=(j:Int)+1) I I]
       refine⟨⟨j+1,I,I,rfl,λk a h=>?_⟩,?_⟩
       · rcases dJ k j with h1|h1
         · exact e k a h1
         · have:k=j:=by omega
           subst this;omega
       · show((ds.length:Int)-((j:Int)+1)).toNat<((ds.length:Int)-(j:Int)).toNat
         omega
   · have c:j=ds.length:=by have:=cu c;omega
     subst c
     refine⟨⟨-1,rfl,?_⟩,rfl⟩
     have:(ds.any λd=>decide (1600<=d))=false:=by
       rw[oQ]
       intro x hx
       obtain⟨k,a,rfl⟩:=fh hx
       have:=e k a a
       simp;omega
     rw[this];rfl
 · rintro _ _ ⟨_,rfl,⟨i,rfl,hi⟩,rfl⟩
   exact⟨i,rfl,by rw[hi],rfl⟩
theorem AZ:∀ {l:O Key},(∀ (i:Nat) (h:i+1<l.length),bH l[i] l[i+1])->l.Pairwise bH
 | [],_=>.nil
 |a::l,h=>by
  have e:=AZ (l:=l) λi hi=>h (i+1) (by simpa using hi)
  refine jA.2 ⟨λb d=>?_,e⟩
  cases l with
  |nil=>simp at d
  |cons c l=>
   have h0:bH a c:=h 0 (by simp)
   rcases cU.1 d with rfl|d
   .exact h0
   .exact lC h0 ((jA.1 e).1 b d)
instance (k:Key):Decidable (cv k):=by unfold cv;infer_instance
theorem n2{w:J}{t:Y}{l:Key}(h:Src 1 w t (aJ l)):aQ aj 209 #[t] w (λv w'=>v=.bool (decide (cv l))/\w=w'):=by
 have a:=len8 h;refine okF (af.n2 t) aA.n2 func209 ?_;unfold af.n2;refine⟨?_,rfl⟩
 congr 1
 rw[fV,dZ,cQ,cQ,cQ];unfold cv;omega
theorem j1{B:Nat->Prop}{w:J}{n:aD}{K V D:Y}(h:bC B w n K V D)(h1:n.keys.length<=100000)(h2:n.vals.length<=100000)(O:n.kids.length<=100000):
 aQ aj 203 #[c0 n K V D] w (λv w'=>∃b:ai,v=b/\(b=true↔cH n)/\Ext w w'):=by
 refine okF (af.j1 n.leaf K V D) aA.j1 func203 ?_;(delta af.j1 ag U ak aL aM au aC a_;dsimp only);refine bj (vs:=[n.leaf,K,V,D]) rfl λw1 d m _=>?_;obtain⟨bT,aC,aU,aM⟩:=bF d;have g:=h.ext m;have x:=bo.len g.keys;have P:=bo.len g.vals;have aR:=cL.len g.kids;refine⟨K,aC,λi w'=>∃j:Nat,i=j/\j<=n.keys.length/\w1=w'/\(∀ (k:Nat) (f:k<n.keys.length),k<j->cv n.keys[k])/\∀ (k:Nat) (f:k+1<n.keys.length),k+1<j->bH n.keys[k] n.keys[k+1],
  λi _=>((n.keys.length:Int)-i).toNat,⟨0,rfl,cG _,rfl,λk f h=>I,λk f h=>I⟩,?_⟩
 rintro _ _ ⟨j,rfl,o,rfl,y,z⟩;refine⟨λaK=>?_,λp=>?_⟩
 .have aK:j<n.keys.length:=by have:=b1 aK;omega
  obtain⟨A,t,ar,a,hc,ht,_⟩:=bo.at g.keys aK;refine⟨A,ar,a,t,hc,(n2 ht.1).use ?_⟩;rintro _ _ ⟨rfl,rfl⟩;refine⟨_,rfl,cd (λb w'=>w1=w'/\(b=true->¬cH n)/\(b=false->cv n.keys[j]/\∀ (o:1<=j),bH (n.keys[j-1]'I) n.keys[j])) (λq c=>⟨λa=>?_,λa=>?_⟩) ?_⟩
  .have a:¬cv n.keys[j]:=by simpa using a
   exact c _ _ ⟨rfl,λ_ hs=>a (hs.keys.ok _ (cE aK)),λh=>by cases h⟩
  .have a:cv n.keys[j]:=by simpa using a
   refine cd (λb w'=>w1=w'/\(b=true->¬cH n)/\(b=false->∀ (o:1<=j),bH (n.keys[j-1]'I) n.keys[j])) (λdH C=>⟨λh0=>?_,λh0=>?_⟩) ?_
   .have h0:1<=j:=by have:=b1 h0;omega
    rw[bx (n:=(j:Int)-1) I I,show(j:Int)-1=((j-1:Nat):Int) from I];obtain⟨F,t2,G,r,H,L,_⟩:=bo.at g.keys (i:=j-1) I;refine⟨K,aC,F,G,r,t2,H,(ky L.1 ht.1).use ?_⟩;rintro _ _ ⟨rfl,rfl⟩;refine⟨_,rfl,C _ _ ⟨rfl,λhc hs=>?_,λhc _=>?_⟩⟩
    .have hc:=b1 hc
     have:bH (n.keys[j-1]'I) n.keys[j]:=mK.1 hs.keys.fb (j-1) j I aK I;unfold bH at this;omega
    .have hc:=cu hc
     unfold bH;omega
   .have h0:=cu h0
    exact C _ _ ⟨rfl,λh=>(by cases h),λ_ o=>I⟩
   .rintro b w' ⟨rfl,av,ax⟩
    exact c _ _ ⟨rfl,av,λr=>⟨a,ax r⟩⟩
  .rintro b w' ⟨rfl,av,ax⟩
   refine⟨λa=>⟨false,rfl,⟨λh=>(by cases h),λhs=>absurd hs (av a)⟩,m⟩,λa=>?_⟩;obtain⟨M,N⟩:=ax a;rw[bx (n:=(j:Int)+1) I I];refine⟨⟨j+1,I,I,rfl,λk f h=>?_,λk f h=>?_⟩,?_⟩
   .rcases dJ k j with h1|h1
    .exact y k f h1
    .have:k=j:=by omega
     subst this;exact M
   .rcases dJ (k+1) j with h1|h1
    .exact z k f h1
    .have:j=k+1:=by omega
     subst this;exact N I
   .show((n.keys.length:Int)-((j:Int)+1)).toNat<((n.keys.length:Int)-(j:Int)).toNat
    omega
 .have p:j=n.keys.length:=by have:=cu p;omega
  subst p;have E:vd n:=⟨λk f=>by
   obtain⟨i,hi,rfl⟩:=fh f;exact y i hi hi,AZ λi hi=>z i hi hi⟩
  refine⟨n.leaf,bT,λl=>⟨V,aU,K,aC,?_⟩,λl=>⟨K,aC,?_⟩⟩
  .refine cd (λb w'=>w1=w'/\b=(decide (n.vals.length=n.keys.length)&&decide (n.kids=[]))) (λq c=>⟨λa=>⟨D,aM,c _ _ ⟨rfl,?_⟩⟩,λa=>c _ _ ⟨rfl,?_⟩⟩) ?_
   .have a:=eq_of_beq a
    rw[dK (show n.vals.length=n.keys.length from I),jh,fV,ki,cQ,←kO];omega
   .have a:¬((V.len:Int)=(K.len:Int)):=λe=>by rw[e]at a;simp at a
    rw[iV I,lV]
   rintro b w' ⟨rfl,rfl⟩;refine cd (λb w'=>w1=w'/\(b=true↔cH n)) (λq c=>⟨λa=>⟨V,aU,(FG g.vals I).use ?_⟩,λa=>c _ _ ⟨rfl,?_⟩⟩) ?_
   .rintro _ _ ⟨rfl,rfl⟩
    refine⟨_,rfl,c _ _ ⟨rfl,?_⟩⟩;simp only[dZ,cQ]at a;rw[lf,oQ];constructor
    .intro s
     exact .inl ⟨E,l,a.1,a.2,λv d=>by have:=s v d;simp at this;omega⟩
    .rintro(hs|hs)
     .intro v d;have:=hs.vals v d;simp;omega
     .have:=hs.inner;rw[l]at this;cases this
   .have a:¬(n.vals.length=n.keys.length/\n.kids=[]):=by simpa using a
    refine⟨λh=>(by cases h),?_⟩;rintro(hs|hs)
    .exact absurd ⟨hs.len,hs.kids⟩ a
    .have:=hs.inner;rw[l]at this;cases this
   rintro b w' ⟨rfl,a⟩;exact⟨b,rfl,a,m⟩
  .refine cd (λb w'=>w1=w'/\b=(decide (n.keys≠ [])&&decide (n.kids.length=n.keys.length+1))) (λq c=>⟨λa=>⟨D,aM,K,aC,c _ _ ⟨rfl,?_⟩⟩,λa=>c _ _ ⟨rfl,?_⟩⟩) ?_
   .have a:=b1 a
    have u:n.keys≠ []:=λe=>by rw[e]at x;simp at x;omega
    rw[dK u,jh,fV,ki,cQ,bx I I];omega
   .have a:=cu a
    have u:n.keys=[]:=kO.1 I;rw[iV (λh=>h u),lV]
   rintro b w' ⟨rfl,rfl⟩;refine cd (λb w'=>w1=w'/\b=(decide (n.keys≠ [])&&decide (n.kids.length=n.keys.length+1)&&decide (n.vals=[]))) (λq c=>⟨λa=>⟨V,aU,c _ _ ⟨rfl,?_⟩⟩,λa=>c _ _ ⟨rfl,?_⟩⟩) ?_
   .rw[a,jh,fV,ki,cQ,←kO]
    omega
   .rw[a,lV]
   rintro b w' ⟨rfl,rfl⟩;refine cd (λb w'=>w1=w'/\(b=true↔cH n)) (λq c=>⟨λa=>⟨D,aM,(FH g.kids I).use ?_⟩,λa=>c _ _ ⟨rfl,?_⟩⟩) ?_
   .rintro _ _ ⟨rfl,rfl⟩
    refine⟨_,rfl,c _ _ ⟨rfl,?_⟩⟩;simp only[dZ,cQ]at a;rw[lf,oQ];constructor
    .intro s
     exact .inr ⟨E,l,a.1.1,a.1.2,a.2,λv d=>by have:=s v d;simp at this;omega⟩
    .rintro(hs|hs)
     .have:=hs.leaf;rw[l]at this;cases this
     .intro v d;have:=hs.kids v d;simp;omega
   .have a:¬((n.keys≠ []/\n.kids.length=n.keys.length+1)/\n.vals=[]):=λe=>by
     rw[dK e.1.1,dK e.1.2,dK e.2]at a;cases a
    refine⟨λh=>(by cases h),?_⟩;rintro(hs|hs)
    .have:=hs.leaf;rw[l]at this;cases this
    .exact absurd ⟨⟨hs.some,hs.len⟩,hs.vals⟩ a
   rintro b w' ⟨rfl,a⟩;exact⟨b,rfl,a,m⟩
theorem FI{w:J}{a b:Y}{c lb:O UInt8}(h:Src 1 w a (aJ c))(i:Src 1 w b (aJ lb))(k:c.length+lb.length<=1000):
 aQ aj 92 #[.slice (some w.heap.size) 2 2] (w.alloc (.cells #[a,b] 48)) (λv w'=>∃d:Y,v=d/\ba 1 5 w' d (aJ (c++lb))/\Ext w w'/\gT w d):=by
 have hx:=eJ w (.cells #[a,b] 48);refine(vr (s:=⟨some w.heap.size,2,2⟩) [(a,c),(b,lb)] (Src.new w _ 2 rfl) ?_ (by simp[eR];omega) (by simp)).mono ?_
 .intro p f
  simp only[cU,eL,eO]at f;rcases f with rfl|rfl
  .exact h.ext hx
  .exact i.ext hx
 .rintro _ w' ⟨d,rfl,g,j,hf⟩
  have e:eR [(a,c),(b,lb)]=c++lb:=by simp[eR]
  rw[e]at g;exact⟨d,rfl,g,hx.trans j,hf.mono hx.size⟩
theorem FJ{w:J}{a b c:Y}{d lb lc:O UInt8}(i:Src 1 w a (aJ d))(j:Src 1 w b (aJ lb))(hc:Src 1 w c (aJ lc))(l:d.length+lb.length+lc.length<=1000):
 aQ aj 92 #[.slice (some w.heap.size) 3 3] (w.alloc (.cells #[a,b,c] 48)) (λv w'=>∃f:Y,v=f/\ba 1 5 w' f (aJ (d++(lb++lc)))/\Ext w w'/\gT w f):=by
 have hx:=eJ w (.cells #[a,b,c] 48);refine(vr (s:=⟨some w.heap.size,3,3⟩) [(a,d),(b,lb),(c,lc)] (Src.new w _ 3 rfl) ?_ (by simp[eR];omega) (by simp)).mono ?_
 .intro p g
  simp only[cU,eL,eO]at g;rcases g with rfl|rfl|rfl
  .exact i.ext hx
  .exact j.ext hx
  .exact hc.ext hx
 .rintro _ w' ⟨f,rfl,h,k,hf⟩
  have e:eR [(a,d),(b,lb),(c,lc)]=d++(lb++lc):=by simp[eR]
  rw[e]at h;exact⟨f,rfl,h,hx.trans k,hf.mono hx.size⟩
theorem A0(w:J){n:Nat}(a:n<=255):Src 1 (w.alloc (.cells #[.int .u8 (IntKind.wrap .u8 (n:Int))] 5)) ⟨some w.heap.size,1,1⟩ (aJ [UInt8.ofNat n])/\Ext w (w.alloc (.cells #[.int .u8 (IntKind.wrap .u8 (n:Int))] 5)):=by
 have e:(#[.int .u8 (IntKind.wrap .u8 (n:Int))]:Array aa)=(aJ [UInt8.ofNat n]).toArray:=by
  rw[wR I I];simp[aJ,jC (show n<256 from I)]
 rw[e];exact⟨Src.new w _ 1 rfl,eJ _ _⟩
theorem fl{α:Type}{l:O α}{i:Nat}{d:α}(h:i<l.length):l.getD i d=l[i]:=by
 rw[fq,dE h];rfl
theorem cH.k5{n:aD}(h:cH n)(a:n.leaf=true):n.vals.length=n.keys.length:=by
 rcases h with h|h
 .exact h.len
 .have:=h.inner;rw[a]at this;cases this
theorem cH.p4{n:aD}(h:cH n)(a:n.leaf=false):n.kids.length=n.keys.length+1:=by
 rcases h with h|h
 .have:=h.leaf;rw[a]at this;cases this
 .exact h.len
theorem mZ{B:Nat->Prop}{w:J}{n:aD}{K V D:Y}(h:bC B w n K V D)(hs:cH n){i:Nat}(hi:i<n.keys.length)(ad:n.keys.length<=100000):
 aQ aj 298 #[c0 n K V D,i] w (λv w'=>∃s:Y,v=s/\ba 1 5 w' s (aJ (gR n i))/\Ext w w'/\gT w s):=by
 refine okF (af.mZ n.leaf K V D (i:Int)) aA.mZ func298 ?_;(delta af.mZ U ag aL bc a_ ak au r1;dsimp only);refine bj (vs:=[n.leaf,K,V,D]) rfl λw1 r e _=>?_;have u:=cj w1;have Q:=e.trans u;have R:=h.ext Q;obtain⟨bT,aC,aU,aM⟩:=bF (r.ext u);obtain⟨A,t,ar,L,hc,ht,_⟩:=bo.at R.keys hi;have ae:=(hs.keys.ok _ (cE hi)).2;have S:=len8 ht.1;obtain⟨T,x⟩:=A0 w1.drew (n:=t.len) I;refine aW ⟨λ_=>False,id,K,aC,A,ar,L,id,t,hc,id,K,aC,A,ar,L,id,t,hc,aW ⟨x,aW ?_⟩⟩;refine(FI (a:=⟨some w1.drew.heap.size,1,1⟩) (b:=t) T (ht.1.ext x) (by simp;omega)).use ?_;rintro _ y ⟨M,rfl,z,W,ah⟩;have d:=u.trans (x.trans W);obtain⟨d0,d1,d2,d3⟩:=bF (r.ext d);have X: [UInt8.ofNat t.len]++n.keys[i]=m7 (n.keys.getD i []):=by rw[fl hi,S];rfl
 rw[X]at z;have N:=h.ext (e.trans d);refine⟨M,rfl,n.leaf,d0,λf=>?_,λf=>?_⟩
 .have ai:=hs.k5 f
  have C:i<n.vals.length:=by omega
  have g:=cj y;have Z:=N.ext g;obtain⟨al,am,O,an⟩:=bF (r.ext (d.trans g));obtain⟨m,t2,o,p,q,P,_⟩:=bo.at Z.vals C;have ao:=hs.vals _ (cE C);have aa:=len8 P.1;obtain⟨ab,j⟩:=A0 y.drew (n:=t2.len) I;refine aW ⟨λ_=>False,id,V,O,m,o,p,id,t2,q,id,V,O,m,o,p,id,t2,q,aW ⟨j,aW ?_⟩⟩;refine(FJ (a:=M) (b:=⟨some y.drew.heap.size,1,1⟩) (c:=t2) (z.src.ext (g.trans j)) ab (P.1.ext j) (by rw[m8,fl hi];simp;omega)).use ?_;rintro _ ac ⟨l,rfl,E,F,G⟩;refine⟨l,rfl,l,rfl,?_,(e.trans d).trans (g.trans (j.trans F)),G.mono ((e.trans d).trans (g.trans j)).size⟩;have:m7 (n.keys.getD i [])++([UInt8.ofNat t2.len]++n.vals[i])=gR n i:=by
   unfold gR;rw[f,if_pos rfl,fl C,aa];rfl
  rwa[this]at E
 .have ap:=hs.p4 f
  have H:i+1<n.kids.length:=by omega
  obtain⟨m,o,p,q⟩:=cL.at N.kids H;have aq:=hs.kids _ (cE H);rw[bx (n:=(i:Int)+1) I I,show(i:Int)+1=((i+1:Nat):Int) from I];refine⟨D,d3,m,o,p,_,q,?_⟩;rw[gQ (n:=((n.kids[i+1]:Nat):Int)) I I];refine(ik z.src (n:=n.kids[i+1]) (k:=2) (by rw[m8,fl hi];omega) (by show _<18446744073709551616;omega) ⟨by decide,by decide⟩).use ?_;rintro _ ac ⟨l,rfl,E,F,G⟩;refine⟨l,rfl,l,rfl,?_,(e.trans d).trans F,gT.mono G (e.trans d).size⟩;have:m7 (n.keys.getD i [])++b9 n.kids[i+1] 2=gR n i:=by
   unfold gR;rw[f,if_neg (by simp),fl H]
  rwa[this]at E
theorem vz{n:aD}(hs:cH n){i:Nat}(hi:i<n.keys.length):(gR n i).length<=100:=by
 unfold gR;have:=(hs.keys.ok _ (cE hi)).2;rw[cz,m8,fl hi];split
 .rename_i b
  have a:i<n.vals.length:=by have:=hs.k5 b;omega
  have:=hs.vals _ (cE a);rw[m8,fl a];omega
 .rw[e5];omega
theorem xK{n:aD}(hs:cH n):∀m,m<=n.keys.length->(hV n 0 m).length<=100*m
 |0,_=>by simp[hV]
 |m+1,a=>by
  have:=xK hs m I
  have:=vz hs (i:=m) I
  rw[xA,cz];omega
theorem ob{B:Nat->Prop}{w:J}{n:aD}{K V D:Y}(h:bC B w n K V D)(hs:cH n)(al:n.keys.length<=255):
 aQ aj 293 #[c0 n K V D] w (λv w'=>∃s:Y,v=s/\ba 1 5 w' s (aJ (jq n))/\Ext w w'/\gT w s):=by
 refine okF (af.ob n.leaf K V D) aA.ob func293 ?_;(delta af.ob ag U a_ ak aL r1 bc au;dsimp only);refine bj (vs:=[n.leaf,K,V,D]) rfl λw1 g l _=>?_;obtain⟨bT,aC,aU,aM⟩:=bF g;have u:=h.ext l;have E:=bo.len u.keys;have F:(#[.int .u8 (IntKind.wrap .u8 (K.len:Int))]:Array aa)=(aJ [UInt8.ofNat n.keys.length]).toArray:=by
  rw[E,wR I I];simp[aJ,jC (show n.keys.length<256 from I)]
 refine⟨K,aC,?_⟩;rw[F];have m:=ba.new (T:=5) (sz:=1) w1 (aJ [UInt8.ofNat n.keys.length]) 1 rfl (by decide);have c:=eJ w1 (.cells (aJ [UInt8.ofNat n.keys.length]).toArray 5);obtain⟨ah,G⟩:∃ah,ah=w1.alloc (.cells (aJ [UInt8.ofNat n.keys.length]).toArray 5):=⟨_,rfl⟩;rw[←G]at m c⊢;obtain⟨d0,d1,d2,d3⟩:=bF (g.ext c);have H:=l.trans c;refine aW (cd (λd w'=>ba 1 5 w' d (aJ (preB n))/\Ext ah w'/\gT w1 d) (λq x=>⟨n.leaf,d0,λa=>?_,λa=>x _ _ ⟨?_,.refl _ _,?_⟩⟩) ?_)
 .have a:n.leaf=false:=by simpa using a
  have am:=hs.p4 a;have o:0<n.kids.length:=by omega
  obtain⟨L,M,N,O⟩:=cL.at (h.ext H).kids o;have an:=hs.kids _ (cE o);refine⟨D,d3,L,M,N,_,O,?_⟩;rw[gQ (n:=((n.kids[0]:Nat):Int)) I I];refine(ik m.src (n:=n.kids[0]) (k:=2) (by simp) (by show _<18446744073709551616;omega) ⟨by decide,by decide⟩).use ?_;rintro _ P ⟨p,rfl,e,b,f⟩;refine⟨p,rfl,x _ _ ⟨?_,b,gT.mono f c.size⟩⟩;have: [UInt8.ofNat n.keys.length]++b9 n.kids[0] 2=preB n:=by
   unfold preB;rw[a,if_neg (by simp),fl o];rfl
  rwa[this]at e
 .have a:n.leaf=true:=by simpa using a
  have:preB n=[UInt8.ofNat n.keys.length]:=by unfold preB;rw[a];rfl
  rw[this];exact m
 .rintro k ⟨A,ar,rfl⟩
  cases ar;exact bp _
 rintro ao ap ⟨Q,R,S⟩;have y:=c.trans R;obtain⟨d0,d1,d2,d3⟩:=bF (g.ext y);have aq:(preB n).length<=3:=by
  unfold preB
  cases n.leaf<;>simp[e5]
 refine⟨K,d1,λd i w'=>∃j:Nat,i=j/\j<=n.keys.length/\ba 1 5 w' d (aJ (preB n++hV n 0 j))/\Ext w1 w'/\gT w1 d,λ_ i _=>((n.keys.length:Int)-i).toNat,⟨0,rfl,cG _,by simpa[hV] using Q,y,S⟩,?_⟩;rintro p _ P ⟨j,rfl,W,e,b,f⟩;refine⟨λaK=>?_,λr=>?_⟩
 .have aK:j<n.keys.length:=by have:=b1 aK;omega
  obtain⟨f0,f1,f2,f3⟩:=bF (g.ext b);refine⟨n.leaf,f0,K,f1,V,f2,D,f3,(mZ (u.ext b) hs aK I).use ?_⟩;rintro _ aw ⟨X,rfl,z,t,ay⟩;have C:=mg e;have Z:=mg z;have cf:=vz hs aK;have bS:=xK hs j W;rw[cz]at C;obtain⟨ab,ac,av,ax,az,ad,ae⟩:=ot.append (cK:=48) z.src (e.ext t) (k3 _) (by rw[C,Z];omega);rw[bx (n:=(j:Int)+1) I I];refine⟨X,rfl,ab,ac,av,⟨j+1,I,I,?_,Ext.dy (b.trans t) ad f,λk ai=>?_⟩,?_⟩
  .rw[xA,←cO,oq];exact ax
  .rcases ae k ai with h|h
   .exact f k h
   .exact eD (b.trans t).size h
  .show((n.keys.length:Int)-((j:Int)+1)).toNat<((n.keys.length:Int)-(j:Int)).toNat
   omega
 .have r:j=n.keys.length:=by have:=cu r;omega
  subst r;exact⟨p,rfl,e,l.trans b,f.mono l.size⟩
theorem n_{B:Nat->Prop}{w:J}{n:aD}{K V D:Y}(h:bC B w n K V D)(hs:cH n)(f:n.keys.length<=255):
 aQ aj 280 #[c0 n K V D] w (λv w'=>v=.int .i64 (bJ n:Nat)/\Ext w w'):=by
 have g:n.vals.length<=100000:=by
  rcases hs with hs|hs
  .rw[hs.len];omega
  .rw[hs.vals];simp
 have i:n.kids.length<=100000:=by
  rcases hs with hs|hs
  .rw[hs.kids];simp
  .rw[hs.len];omega
 refine okF (af.n_ n.leaf K V D) aA.n_ func280 ?_;(delta af.n_ a_ U ag aM ak bc;dsimp only);refine bj (vs:=[n.leaf,K,V,D]) rfl λw1 d a _=>?_;obtain⟨bT,aC,aU,aM⟩:=bF d;refine⟨n.leaf,bT,K,aC,V,aU,D,aM,(j1 (h.ext a) I g i).use ?_⟩;rintro _ ah ⟨b,rfl,j,c⟩;have k:=j.2 hs;subst k;obtain⟨bT,aC,aU,aM⟩:=bF (d.ext c);refine⟨true,rfl,λh=>(by cases h),λ_=>⟨n.leaf,bT,K,aC,V,aU,D,aM,(ob (h.ext (a.trans c)) hs f).use ?_⟩⟩;rintro _ p ⟨l,rfl,m,o,_⟩;have e:=mg m;rw[xD hs]at e;exact⟨l,rfl,by rw[e],(a.trans c).trans o⟩
def A1(n:aD)(w w':J)(v:aa):Prop:=
 (∃s:Y,v=.tuple #[s,(0:Int)]/\ba 1 5 w' s (aJ (jq n))/\gT w s/\cH n/\bJ n<=232)\/
 (∃e:Int,v=.tuple #[(),e]/\e≠0/\(cH n->232<bJ n))
theorem n4{B:Nat->Prop}{w:J}{n:aD}{K V D:Y}(h:bC B w n K V D)(m:n.keys.length<=100000)(o:n.vals.length<=100000)(p:n.kids.length<=100000):
 aQ aj 274 #[c0 n K V D] w (λv w'=>A1 n w w' v/\Ext w w'):=by
 refine okF (af.n4 n.leaf K V D) aA.n4 func274 ?_;(delta af.n4 a_ U ag aM ak bc;dsimp only);refine bj (vs:=[n.leaf,K,V,D]) rfl λw1 d e _=>?_;obtain⟨bT,aC,aU,aM⟩:=bF d;refine⟨n.leaf,bT,K,aC,V,aU,D,aM,(j1 (h.ext e) m o p).use ?_⟩;rintro _ ah ⟨b,rfl,f,g⟩;have a:=e.trans g;obtain⟨bT,aC,aU,aM⟩:=bF (d.ext g);have u:=bo.len h.keys;refine⟨b,rfl,cd (λc w'=>ah=w'/\(c=true->cH n->255<n.keys.length)/\(c=false->cH n/\n.keys.length<=255)) (λq i=>⟨λh1=>i _ _ ⟨rfl,λ_ hs=>?_,λh=>(by cases h)⟩,λh1=>⟨K,aC,i _ _ ⟨rfl,λh2 hs=>?_,λh2=>?_⟩⟩⟩) ?_⟩
 .have h1:b=false:=by simpa using h1
  rw[f.2 hs]at h1;cases h1
 .have:=b1 h2;omega
 .have h1:b=true:=by simpa using h1
  have:=cu h2;exact⟨f.1 h1,I⟩
 rintro c w' ⟨rfl,av,ax⟩;refine⟨λh1=>⟨.inr ⟨4,rfl,by decide,λhs=>?_⟩,a⟩,λh1=>?_⟩
 .have:=av h1 hs
  have:=vl hs;omega
 obtain⟨hs,r⟩:=ax h1;refine⟨n.leaf,bT,K,aC,V,aU,D,aM,(ob (h.ext a) hs r).use ?_⟩;rintro _ x ⟨j,rfl,k,l,s⟩;have t:=mg k;rw[xD hs]at t;refine⟨j,rfl,λh2=>⟨.inr ⟨10,rfl,by decide,λ_=>?_⟩,a.trans l⟩,λh2=>⟨.inl ⟨j,rfl,k,s.mono a.size,hs,?_⟩,a.trans l⟩⟩
 .have:=b1 h2;omega
 .have:=cu h2;omega
theorem pR{B:Nat->Prop}{w:J}{n:aD}{K V D:Y}(h:bC B w n K V D)(d:n.keys.length<=100000)(f:n.vals.length<=100000)(g:n.kids.length<=100000):
 aQ aj 295 #[c0 n K V D] w (λv w'=>A1 n w w' v/\Ext w w'):=by
 refine okF (af.pR n.leaf K V D) aA.pR func295 ?_;(delta af.pR a_ U ag b_;dsimp only);refine bj (vs:=[n.leaf,K,V,D]) rfl λw1 i a _=>?_;obtain⟨bT,aC,aU,aM⟩:=bF i;refine⟨n.leaf,bT,K,aC,V,aU,D,aM,(n4 (h.ext a) d f g).use ?_⟩;rintro _ ah ⟨j,c⟩;rcases j with ⟨s,rfl,k,hf,hs,b⟩|⟨e,rfl,he,b⟩
 .exact⟨s,0,rfl,.inl ⟨s,rfl,k,hf.mono a.size,hs,b⟩,a.trans c⟩
 .exact⟨⟨none,0,0⟩,e,rfl,.inr ⟨e,rfl,he,b⟩,a.trans c⟩
theorem dT{w:J}{b i:Nat}{vs:O aa}{T:TypeId}(h:Var w b vs T)(v:aa):Var (w.setCell ⟨b,i,none⟩ v) b (vs.set i v) T:=by
 have:=bu.set h i v;have e:vs.toArray.setIfInBounds i v=(vs.set i v).toArray:=by simp
 rw[e]at this;exact this
theorem dP{w:J}{b i:Nat}{vs:O aa}{T:TypeId}(h:Var w b vs T)(hi:i<vs.length):(∃u:aa,w.cell? ⟨b,i,none⟩=some u)/\w.frozen? ⟨b,i,none⟩=false:=
 ⟨⟨vs[i],by rw[h.cell];simp[hi]⟩,bu.frozen h _ rfl⟩
theorem dp(w:J)(b i:Nat)(v:aa):ad (λq=>q=b) w (w.setCell ⟨b,i,none⟩ v):=ad.gR (.refl _ _) v
structure jr(w:J)(r:Nat)(s:Y)(rd:Rd):Prop where
 v:Var w r [s,rd.2] 354
 src:Src 1 w s (aJ rd.1)
 le:s.len<=s.cap
 ne:∀k,aB s k->k≠r
theorem jr.ab{W:Nat->Prop}{w w':J}{r:Nat}{s:Y}{rd:Rd}(h:jr w r s rd)(hc:ad W w w')(h1:¬W r)(h2:∀k,aB s k->¬W k):jr w' r s rd:=⟨h.v.ab hc h1,h.src.ab hc h2,h.le,h.ne⟩
theorem jr.ext{w w':J}{r:Nat}{s:Y}{rd:Rd}(h:jr w r s rd)(hc:Ext w w'):jr w' r s rd:=jr.ab h hc id λ_ _ h=>h
theorem vA{a:aq ae}{z l m n c k:Nat}(h:aB ⟨aO a z l m,n,c⟩ k):∃A,a=some A/\A.block=k:=by
 obtain⟨A,ar,rfl⟩:=h;unfold aO at ar;split at ar
 .exact⟨A,ar,rfl⟩
 .cases b:a with
  |none=>rw[b]at ar;cases ar
  |some d=>
   rw[b]at ar;simp only[lh,Option.some.injEq]at ar;exact⟨d,rfl,by subst ar;unfold Addr.add;split<;>rfl⟩
theorem A2{w:J}{r:Nat}{s:Y}{rd:Rd}(h:jr w r s rd)(k:Nat)(z:k<=100000)(u:rd.1.length<=100000):
 aQ aj 292 #[.pointer (some r),k] w (λv w'=>∃t m:Y,v=t/\a6 (λq=>w.heap.size<=q) w' t (hW rd k).1/\jr w' r m (hW rd k).2/\ad (λq=>q=r) w w'/\(∀q,aB m q->aB s q)):=by
 obtain⟨l,ok⟩:=rd;have f:=h.v;have x:=len8 h.src;simp only at x u f;have aK:=f.lt;refine okF (af.uZ (some r) (k:Int)) aA.uZ func292 ?_;(delta af.uZ a_ ak ag st bc;dsimp only);refine⟨_,rfl,ok,by rw[aw];exact f.cell,cd (λb w'=>w=w'/\b=decide (ok=false\/l.length<k)) (λq c=>⟨λh1=>c _ _ ⟨rfl,?_⟩,λh1=>⟨_,rfl,s,f.cell,c _ _ ⟨rfl,?_⟩⟩⟩) ?_⟩
 .have h1:ok=false:=by simpa using h1
  exact(dK (.inl h1)).symm
 .have h1:ok=true:=by simpa using h1
  subst h1;rw[fV,cQ,cQ];constructor
  .intro h;exact .inr I
  .rintro(h|h)
   .cases h
   .omega
 rintro b w' ⟨rfl,rfl⟩;refine⟨λd=>⟨_,rfl,?_⟩,λd=>⟨_,rfl,s,f.cell,?_⟩⟩
 .have d:=b1 d
  obtain⟨av,ax⟩:=dP f (i:=1) (by simp);rw[aw];have hc:=dp w r 1 false;have e:hW (l,ok) k=([],(l,false)):=by unfold hW;rw[if_pos d]
  rw[e];refine⟨av,ax,aW ⟨⟨none,0,0⟩,s,rfl,⟨(ba.none 1 5 _).src,bp _,λq c=>(fZ q c).elim⟩,⟨dT f _,h.src.ab hc λq c=>h.ne q c,h.le,h.ne⟩,hc,λq c=>c⟩⟩
 .have d:=cu d
  have e:hW (l,ok) k=(l.take k,(l.drop k,true)):=by unfold hW;rw[if_neg d]
  have C:k<=l.length:=by
   rcases dJ l.length k with h1|h1
   .exact absurd (.inr h1) d
   .exact h1
  have y:ok=true:=by
   cases ok with
   |true=>rfl
   |false=>exact absurd (.inl rfl) d
  subst y;rw[e];have D:=h.le;refine⟨⟨I,I⟩,?_⟩;have n:=na h.src h.le (lo:=0) (hi:=k) I I;rw[ln,oR]at n;rw[dc,oR];refine(kC (B:=λq=>w.heap.size<=q) (s:=⟨aO s.a 1 0 s.cap,k,s.cap-0⟩) n (by rw[cC];omega) (λq c=>c)).use ?_;rintro _ w1 ⟨t,rfl,ht,g,E⟩;have j:=f.ext g;obtain⟨av,ax⟩:=dP j (i:=0) (by simp);have hc:=dp w1 r 0 (.slice (aO s.a 1 k s.cap) (s.len-k) (s.cap-k));have o:=na (h.src.ext g) h.le (lo:=k) (hi:=s.len) I (bp _);rw[dM (l:=l.drop k) (by rw[c_];omega)]at o;have p:∀q,aB ⟨aO s.a 1 k s.cap,s.len-k,s.cap-k⟩ q->q≠r:=λq c=>by
   obtain⟨A,ar,d⟩:=vA c;exact h.ne q ⟨A,ar,d⟩
  refine⟨t,rfl,_,rfl,s,j.cell,⟨I,I⟩,_,rfl,av,ax,aW ⟨t,⟨aO s.a 1 k s.cap,s.len-k,s.cap-k⟩,rfl,a6.ab ht hc (λq c e=>by subst e;omega),⟨dT j _,o.ab hc λq c=>p q c,by show s.len-k<=s.cap-k;omega,p⟩,(ad.cF g).trans hc,λq c=>?_⟩⟩;obtain⟨A,ar,d⟩:=vA c;exact⟨A,ar,d⟩
theorem xL{w:J}{r:Nat}{s:Y}{rd:Rd}(h:jr w r s rd)(k:Nat)(c:1<=k/\k<=2)(g:rd.1.length<=100000):
 aQ aj 272 #[.pointer (some r),k] w (λv w'=>∃b:Y,v=.int .i64 ((rdNum rd k).1:Nat)/\jr w' r b (rdNum rd k).2/\ad (λq=>q=r) w w'/\(∀q,aB b q->aB s q)):=by
 refine okF (af.uV (some r) (k:Int)) aA.uV func272 ?_;(delta af.uV bc kY au;dsimp only);refine(A2 h k I g).use ?_;rintro _ w1 ⟨t,b,rfl,ht,d,hc,e⟩;have hlen:(hW rd k).1.length=k\/(hW rd k).1=[]:=by
  unfold hW;split
  .exact .inr rfl
  .rename_i i
   left;rw[cC];have:¬rd.1.length<k:=λh=>i (.inr h);omega
 have f:=m6 k (hW rd k).1;have j:256^k<=65536:=eD (sn I c.2) (by decide);refine⟨t,rfl,?_⟩;rcases hlen with hlen|hlen
 .refine(kZ (a:=0) (k:=k) ht.1 ht.2.1 ⟨c.1,I⟩ I I).use ?_
  rintro _ _ ⟨rfl,rfl⟩;have f:=f hlen;rw[ln,dM I];refine⟨_,_,rfl,b,?_,d,hc,e⟩;rw[bx I I];unfold rdNum;rw[if_pos hlen]
 .refine(Fy (k:=k) ht.1 I (by rw[hlen];simp;omega)).use ?_
  rintro _ _ ⟨rfl,rfl⟩;refine⟨_,_,rfl,b,?_,d,hc,e⟩;unfold rdNum;rw[if_neg (by rw[hlen];simp;omega)];rfl
theorem xM(rd:Rd)(k:Nat):(rdNum rd k).1<256^k:=by
 unfold rdNum;split
 .exact m6 k _ (by assumption)
 .exact Nat.pow_pos I
theorem A3(rd:Rd)(k:Nat):(hW rd k).2.1.length<=rd.1.length/\(hW rd k).1.length<=k:=by
 unfold hW;split
 .exact⟨bp _,cG _⟩
 .exact⟨by rw[c_];omega,by rw[cC];omega⟩
theorem vB(rd:Rd)(k:Nat):(rdNum rd k).2.1.length<=rd.1.length:=(A3 rd k).1
theorem A4(rd:Rd):(jH rd).2.1.length<=rd.1.length/\(jH rd).1.length<=255:=by
 unfold jH;have h1:=A3 (rdNum rd 1).2 (rdNum rd 1).1;have h2:=vB rd 1;have a:(rdNum rd 1).1<256:=xM rd 1;exact⟨I,I⟩
theorem A5{w:J}{r:Nat}{s:Y}{rd:Rd}(h:jr w r s rd)(d:rd.1.length<=100000):
 aQ aj 273 #[.pointer (some r)] w (λv w'=>∃t b:Y,v=t/\a6 (λq=>w.heap.size<=q) w' t (jH rd).1/\jr w' r b (jH rd).2/\ad (λq=>q=r) w w'/\(∀q,aB b q->aB s q)):=by
 refine okF (af.uW (some r)) aA.uW func273 ?_;(delta af.uW aC bc;dsimp only);refine(xL h 1 I d).use ?_;rintro _ w1 ⟨s1,rfl,e,c,f⟩;have k:(rdNum rd 1).1<256:=xM rd 1;have l:=vB rd 1;refine⟨_,rfl,(A2 e (rdNum rd 1).1 I I).use ?_⟩;rintro _ ah ⟨t,s2,rfl,ht,g,i,j⟩;exact⟨t,rfl,t,s2,rfl,a6.aX ht λq _ a=>eD c.size a,g,c.trans i,λq a=>f q (j q a)⟩
theorem br.aX{B C:Nat->Prop}{w:J}{s:Y}{ls:O Key}(h:br B w s ls)(a:∀k,k<w.heap.size->B k->C k):br C w s ls:=by
 obtain⟨ts,h1,h2,e,b⟩:=h;exact⟨ts,h1,h2,In.aX e a,λi c d=>⟨a6.aX (b i c d).1 a,(b i c d).2⟩⟩
theorem cR.aX{B C:Nat->Prop}{w:J}{s:Y}{ds:O Nat}(h:cR B w s ds)(a:∀k,k<w.heap.size->B k->C k):cR C w s ds:=⟨h.1,In.aX h.2 a⟩
def Grow(B:Nat->Prop)(w w':J)(q:Nat):Prop:=B q\/(w.heap.size<=q/\q<w'.heap.size)
theorem vC{w:J}{nb o:Nat}{vs:O aa}{S t:Y}{ls:O Key}{l:Key}{B:Nat->Prop}{T:TypeId}{W:Nat->Prop}(d:Var w nb vs T)(p:o<vs.length)(f:br B w S ls)(g:¬B nb)
 (ht:a6 B w t l) (hd:∀k,aB t k->¬aB S k) (D:ls.length<=100000) {K:J->Prop}
 (r:∀ (w':J) (ay:Y),Var w' nb (vs.set o ay) T->br (Grow B w w') w' ay (ls++ [l])->ad (λq=>q=nb\/aB S q) w w'->K w'):
 al (w.alloc (.cells #[t] 48)) λi=>ad W w i/\∃j:Y,∃b:J,Sem.run aj (Builtin.append_ #[127,127] 127 #[S,.slice (some w.heap.size) 1 1]) i=.ok j b/\
  (∃u:aa,b.cell? (Addr.add nb o)=some u)/\b.frozen? (Addr.add nb o)=false/\al (b.setCell (Addr.add nb o) j) λs=>K s:=by
 have v:=br.aX (C:=λq=>B q\/w.heap.size<=q) f λk _ h=>.inl h;have x:=a6.aX (C:=λq=>B q\/w.heap.size<=q) ht λk _ h=>.inl h;obtain⟨c,w',av,ax,m,E⟩:=AY v x hd I λk a=>.inr a;have F:=d.lt;have y:¬aB S nb:=λh=>by
  obtain⟨ts,_,_,z,_⟩:=f;exact g (z nb h).1
 have n:=d.ab m y;obtain⟨aC,aU⟩:=dP n p;refine aW ⟨ad.cF (eJ _ _),c,w',av,?_⟩;rw[aw,cB];have hc:=dp w' nb o c;refine⟨aC,aU,aW (r _ c (dT n _) ?_ ?_)⟩
 .have A:=br.aX (C:=Grow B w (w'.setCell ⟨nb,o,none⟩ c)) ax λk a h=>by
   rcases h with h|h
   .exact .inl h
   .exact .inr ⟨h,fP a hc.size⟩
  refine br.ab A hc λk a e=>?_;subst e;rcases a with h|h
  .exact g h
  .omega
 .exact(m.mono λk _ h=>.inr h).trans (hc.mono λk _ h=>.inl h)
theorem A6{w:J}{nb o:Nat}{vs:O aa}{S:Y}{ds:O Nat}(d:Nat){B:Nat->Prop}{T:TypeId}{W:Nat->Prop}(f:Var w nb vs T)(p:o<vs.length)(g:cR B w S ds)(i:¬B nb)
 (y:ds.length<=100000) {K:J->Prop}
 (r:∀ (w':J) (ay:Y),Var w' nb (vs.set o ay) T->cR (Grow B w w') w' ay (ds++ [d])->ad (λq=>q=nb\/aB S q) w w'->K w'):
 al (w.alloc (.cells #[d] 3)) λj=>ad W w j/\∃l:Y,∃b:J,Sem.run aj (Builtin.append_ #[58,58] 58 #[S,.slice (some w.heap.size) 1 1]) j=.ok l b/\
  (∃u:aa,b.cell? (Addr.add nb o)=some u)/\b.frozen? (Addr.add nb o)=false/\al (b.setCell (Addr.add nb o) l) λs=>K s:=by
 have t:=cR.aX (C:=λq=>B q\/w.heap.size<=q) g λk _ h=>.inl h;obtain⟨c,w',av,ax,m,z⟩:=FF d t I λk a=>.inr a;have A:=f.lt;have v:¬aB S nb:=λh=>i (g.2 nb h).1;have n:=f.ab m v;obtain⟨aC,aU⟩:=dP n p;refine aW ⟨ad.cF (eJ _ _),c,w',av,?_⟩;rw[aw,cB];have hc:=dp w' nb o c;refine⟨aC,aU,aW (r _ c (dT n _) ?_ ?_)⟩
 .have x:=cR.aX (C:=Grow B w (w'.setCell ⟨nb,o,none⟩ c)) ax λk a h=>by
   rcases h with h|h
   .exact .inl h
   .exact .inr ⟨h,fP a hc.size⟩
  refine cR.ab x hc λk a e=>?_;subst e;rcases a with h|h
  .exact i h
  .omega
 .exact(m.mono λk _ h=>.inr h).trans (hc.mono λk _ h=>.inl h)
structure j4(lo:Nat)(w:J)(r nb:Nat)(s:Y)(m:aD×Rd)(K V D:Y)(bU b8 bK:Nat->Prop):Prop where
 v:Var w nb [m.1.leaf,K,V,D] 202
 rd:jr w r s m.2
 keys:br bU w K m.1.keys
 vals:br b8 w V m.1.vals
 kids:cR bK w D m.1.kids
 bl:∀q,bU q->lo<=q/\q<w.heap.size/\¬b8 q/\¬bK q
 bv:∀q,b8 q->lo<=q/\q<w.heap.size/\¬bK q
 aL:∀q,bK q->lo<=q/\q<w.heap.size
 hs:∀q,aB s q->q<lo/\q≠nb
 ov:r<lo
 ow:nb<lo
 j5:r≠nb
 ox:m.2.1.length<=100000
def oy(lo r nb:Nat)(q:Nat):Prop:=q=r\/q=nb\/lo<=q
theorem j4.drew{lo:Nat}{w:J}{r nb:Nat}{s:Y}{m:aD×Rd}{K V D:Y}{bU b8 bK:Nat->Prop}(h:j4 lo w r nb s m K V D bU b8 bK):j4 lo w.drew r nb s m K V D bU b8 bK:=
 ⟨h.v.ext (cj w),h.rd.ext (cj w),br.ext h.keys (cj w),br.ext h.vals (cj w),cR.ext h.kids (cj w),h.bl,h.bv,h.aL,h.hs,h.ov,h.ow,h.j5,h.ox⟩
theorem A7{leaf:ai}:∀ (s:aD×Rd) (i:Nat),s.1.leaf=leaf->(im s i).1.leaf=leaf
 |_,0,h=>h
 |s,i+1,h=>by
  have a:=A7 s i h
  rw[im]
  unfold ou
  split
  .exact a
  .exact a
theorem A8:∀ (s:aD×Rd) (i:Nat),(im s i).1.keys.length=s.1.keys.length+i/\(im s i).1.vals.length<=s.1.vals.length+i/\(im s i).1.kids.length<=s.1.kids.length+i
 |_,0=>⟨rfl,bp _,bp _⟩
 |s,i+1=>by
  obtain⟨h1,h2,a⟩:=A8 s i
  rw[im]
  unfold ou
  split<;>simp<;>omega
theorem FK{lo:Nat}{w:J}{r nb:Nat}{s:Y}{m:aD×Rd}{K V D:Y}{bU b8 bK:Nat->Prop}(h:j4 lo w r nb s m K V D bU b8 bK)(ac:lo<=w.heap.size)(G:m.1.keys.length<=100000){R:J->Prop}
 (H:∀ (w':J) (l n:Y) (L:Nat->Prop),j4 lo w' r nb n (⟨m.1.leaf,m.1.keys++ [(jH m.2).1],m.1.vals,m.1.kids⟩,(jH m.2).2) l V D L b8 bK->ad (oy lo r nb) w w'->lo<=w'.heap.size->R w'):
 al w.drew λp=>∃x:Nat->Prop,¬x (Addr.add nb 1).block/\∃i:Y,p.cell? (Addr.add nb 1)=some (.slice i.a i.len i.cap)/\
  Calls aj 273 #[.pointer (some r)] p λM d=>∃C:Y,M=.returned C/\ad x p d/\
  al (d.alloc (.cells #[C] 48)) λE=>ad x d E/\∃F:Y,∃j:J,Sem.run aj (Builtin.append_ #[127,127] 127 #[i,.slice (some d.heap.size) 1 1]) E=.ok F j/\
  (∃u:aa,j.cell? (Addr.add nb 1)=some u)/\j.frozen? (Addr.add nb 1)=false/\al (j.setCell (Addr.add nb 1) F) λN=>R N:=by
 have hd:=h.drew;have ae:=h.ov;have af:=h.ow;obtain⟨bT,aC,aU,aM⟩:=bF hd.v;refine aW ⟨λq=>q=r,λe=>h.j5 (by rw[aw]at e;exact e.symm),K,aC,(A5 hd.rd hd.ox).use ?_⟩;rintro _ d ⟨t,n,rfl,ht,O,hc,y⟩;have ag:w.drew.heap.size=w.heap.size:=rfl;have P:=hc.size;have z:∀ {B:Nat->Prop},(∀q,B q->lo<=q)->∀k,B k->¬(k=r):=λhB k c e=>by have:=hB k c;omega
 have Q:=br.ab hd.keys hc (z λq b=>(h.bl q b).1);have S:=br.ab hd.vals hc (z λq b=>(h.bv q b).1);have T:=cR.ab hd.kids hc (z λq b=>(h.aL q b).1);have U:=hd.v.ab hc (λe=>h.j5 e.symm);refine⟨t,rfl,hc,vC (B:=Grow bU w.drew d) U (o:=1) (by simp) (br.aX Q λk _ h=>.inl h) ?_ (a6.aX ht λk c h=>.inr ⟨h,c⟩) ?_ G λw' l av ax f=>?_⟩
 .rintro(h1|h1)
  .have:=(h.bl nb h1).1;omega
  .omega
 .intro k W X
  obtain⟨ts,_,_,A,_⟩:=h.keys;have:=(A k X).2;have:=(ht.2.2 k W).1;omega
 have Z:∀q,Grow (Grow bU w.drew d) d w' q->bU q\/(w.heap.size<=q/\q<w'.heap.size):=by
  rintro q ((h1|h1)|h1)
  .exact .inl h1
  .exact .inr ⟨h1.1,fP h1.2 f.size⟩
  .exact .inr ⟨eD P h1.1,h1.2⟩
 have hg:=f.size;have g:∀q,aB K q->bU q:=λq b=>by
  obtain⟨ts,_,_,A,_⟩:=h.keys;exact(A q b).1
 refine H w' l n (λq=>bU q\/(w.heap.size<=q/\q<w'.heap.size)) ⟨by simpa using av,O.ab f ?_ ?_,br.aX ax λk _ c=>Z k c,br.ab S f ?_,cR.ab T f ?_,?_,λq b=>?_,λq b=>?_,λq b=>h.hs q (y q b),h.ov,h.ow,h.j5,eD (A4 m.2).1 h.ox⟩ ?_ I
 .rintro(h1|h1)
  .exact h.j5 h1
  .have:=(h.bl r (g r h1)).1;omega
 .rintro q b (h1|h1)
  .exact(h.hs q (y q b)).2 h1
  .have:=(h.bl q (g q h1)).1
   have:=(h.hs q (y q b)).1;omega
 .rintro q b (h1|h1)
  .have:=(h.bv q b).1;omega
  .exact(h.bl q (g q h1)).2.2.1 b
 .rintro q b (h1|h1)
  .have:=(h.aL q b).1;omega
  .exact(h.bl q (g q h1)).2.2.2 b
 .rintro q (h1|h1)
  .have:=h.bl q h1;exact⟨this.1,I,this.2.2⟩
  .exact⟨I,h1.2,λh2=>by have:=h.bv q h2;omega,λh2=>by have:=h.aL q h2;omega⟩
 .have:=h.bv q b;exact⟨this.1,I,this.2.2⟩
 .have:=h.aL q b;exact⟨this.1,I⟩
 .refine((ad.cF (cj w)).trans (hc.mono λk _ c=>.inl c)).trans (f.mono λk _ c=>?_)
  rcases c with c|c
  .exact .inr (.inl c)
  .exact .inr (.inr (h.bl k (g k c)).1)
theorem FL{lo:Nat}{w:J}{r nb:Nat}{s:Y}{m:aD×Rd}{K V D:Y}{bU b8 bK:Nat->Prop}(h:j4 lo w r nb s m K V D bU b8 bK)(ac:lo<=w.heap.size)(G:m.1.vals.length<=100000){R:J->Prop}
 (H:∀ (w':J) (l n:Y) (L:Nat->Prop),j4 lo w' r nb n (⟨m.1.leaf,m.1.keys,m.1.vals++ [(jH m.2).1],m.1.kids⟩,(jH m.2).2) K l D bU L bK->ad (oy lo r nb) w w'->lo<=w'.heap.size->R w'):
 al w.drew λp=>∃x:Nat->Prop,¬x (Addr.add nb 2).block/\∃i:Y,p.cell? (Addr.add nb 2)=some (.slice i.a i.len i.cap)/\
  Calls aj 273 #[.pointer (some r)] p λM d=>∃C:Y,M=.returned C/\ad x p d/\
  al (d.alloc (.cells #[C] 48)) λE=>ad x d E/\∃F:Y,∃j:J,Sem.run aj (Builtin.append_ #[127,127] 127 #[i,.slice (some d.heap.size) 1 1]) E=.ok F j/\
  (∃u:aa,j.cell? (Addr.add nb 2)=some u)/\j.frozen? (Addr.add nb 2)=false/\al (j.setCell (Addr.add nb 2) F) λN=>R N:=by
 have hd:=h.drew;have ae:=h.ov;have af:=h.ow;obtain⟨bT,aC,aU,aM⟩:=bF hd.v;refine aW ⟨λq=>q=r,λe=>h.j5 (by rw[aw]at e;exact e.symm),V,aU,(A5 hd.rd hd.ox).use ?_⟩;rintro _ d ⟨t,n,rfl,ht,O,hc,y⟩;have ag:w.drew.heap.size=w.heap.size:=rfl;have P:=hc.size;have z:∀ {B:Nat->Prop},(∀q,B q->lo<=q)->∀k,B k->¬(k=r):=λhB k c e=>by have:=hB k c;omega
 have Q:=br.ab hd.keys hc (z λq b=>(h.bl q b).1);have S:=br.ab hd.vals hc (z λq b=>(h.bv q b).1);have T:=cR.ab hd.kids hc (z λq b=>(h.aL q b).1);have U:=hd.v.ab hc (λe=>h.j5 e.symm);refine⟨t,rfl,hc,vC (B:=Grow b8 w.drew d) U (o:=2) (by simp) (br.aX S λk _ h=>.inl h) ?_ (a6.aX ht λk c h=>.inr ⟨h,c⟩) ?_ G λw' l av ax f=>?_⟩
 .rintro(h1|h1)
  .have:=(h.bv nb h1).1;omega
  .omega
 .intro k W X
  obtain⟨ts,_,_,A,_⟩:=h.vals;have:=(A k X).2;have:=(ht.2.2 k W).1;omega
 have Z:∀q,Grow (Grow b8 w.drew d) d w' q->b8 q\/(w.heap.size<=q/\q<w'.heap.size):=by
  rintro q ((h1|h1)|h1)
  .exact .inl h1
  .exact .inr ⟨h1.1,fP h1.2 f.size⟩
  .exact .inr ⟨eD P h1.1,h1.2⟩
 have hg:=f.size;have g:∀q,aB V q->b8 q:=λq b=>by
  obtain⟨ts,_,_,A,_⟩:=h.vals;exact(A q b).1
 refine H w' l n (λq=>b8 q\/(w.heap.size<=q/\q<w'.heap.size)) ⟨by simpa using av,O.ab f ?_ ?_,br.ab Q f ?_,br.aX ax λk _ c=>Z k c,cR.ab T f ?_,λq b=>?_,?_,λq b=>?_,λq b=>h.hs q (y q b),h.ov,h.ow,h.j5,eD (A4 m.2).1 h.ox⟩ ?_ I
 .rintro(h1|h1)
  .exact h.j5 h1
  .have:=(h.bv r (g r h1)).1;omega
 .rintro q b (h1|h1)
  .exact(h.hs q (y q b)).2 h1
  .have:=(h.bv q (g q h1)).1
   have:=(h.hs q (y q b)).1;omega
 .rintro q b (h1|h1)
  .have:=(h.bl q b).1;omega
  .exact(h.bl q b).2.2.1 (g q h1)
 .rintro q b (h1|h1)
  .have:=(h.aL q b).1;omega
  .exact(h.bv q (g q h1)).2.2 b
 .have:=h.bl q b
  refine⟨this.1,I,?_,this.2.2.2⟩;rintro(h1|h1)
  .exact this.2.2.1 h1
  .omega
 .rintro q (h1|h1)
  .have:=h.bv q h1;exact⟨this.1,I,this.2.2⟩
  .exact⟨I,h1.2,λh2=>by have:=h.aL q h2;omega⟩
 .have:=h.aL q b;exact⟨this.1,I⟩
 .refine((ad.cF (cj w)).trans (hc.mono λk _ c=>.inl c)).trans (f.mono λk _ c=>?_)
  rcases c with c|c
  .exact .inr (.inl c)
  .exact .inr (.inr (h.bv k (g k c)).1)
theorem A9{lo:Nat}{w:J}{r nb:Nat}{s:Y}{m:aD×Rd}{K V D:Y}{bU b8 bK:Nat->Prop}(h:j4 lo w r nb s m K V D bU b8 bK)(S:lo<=w.heap.size)(A:m.1.kids.length<=100000){R:J->Prop}
 (C:∀ (w':J) (az l:Y) (E:Nat->Prop),j4 lo w' r nb l (⟨m.1.leaf,m.1.keys,m.1.vals,m.1.kids++ [(rdNum m.2 2).1]⟩,(rdNum m.2 2).2) K V az bU b8 E->ad (oy lo r nb) w w'->lo<=w'.heap.size->R w'):
 al w.drew λn=>∃p:Nat->Prop,¬p (Addr.add nb 3).block/\∃i:Y,n.cell? (Addr.add nb 3)=some (.slice i.a i.len i.cap)/\
  Calls aj 272 #[.pointer (some r),(2:Int)] n λF d=>∃n30:Int,F=.returned n30/\ad p n d/\
  al (d.alloc (.cells #[n30] 3)) λy=>ad p d y/\∃z:Y,∃j:J,Sem.run aj (Builtin.append_ #[58,58] 58 #[i,.slice (some d.heap.size) 1 1]) y=.ok z j/\
  (∃u:aa,j.cell? (Addr.add nb 3)=some u)/\j.frozen? (Addr.add nb 3)=false/\al (j.setCell (Addr.add nb 3) z) λG=>R G:=by
 have hd:=h.drew;have T:=h.ov;have U:=h.ow;obtain⟨bT,aC,aU,aM⟩:=bF hd.v;refine aW ⟨λq=>q=r,λe=>h.j5 (by rw[aw]at e;exact e.symm),D,aM,(xL hd.rd 2 (by decide) hd.ox).use ?_⟩;rintro _ d ⟨l,rfl,H,hc,t⟩;have W:w.drew.heap.size=w.heap.size:=rfl;have L:=hc.size;have x:∀ {B:Nat->Prop},(∀q,B q->lo<=q)->∀k,B k->¬(k=r):=λhB k c e=>by have:=hB k c;omega
 have M:=br.ab hd.keys hc (x λq b=>(h.bl q b).1);have N:=br.ab hd.vals hc (x λq b=>(h.bv q b).1);have O:=cR.ab hd.kids hc (x λq b=>(h.aL q b).1);have P:=hd.v.ab hc (λe=>h.j5 e.symm);refine⟨_,rfl,hc,A6 (rdNum m.2 2).1 (B:=bK) P (o:=3) (by simp) O (λh1=>by have:=(h.aL nb h1).1;omega) A λw' az av ax f=>?_⟩;have Q:∀q,Grow bK d w' q->bK q\/(w.heap.size<=q/\q<w'.heap.size):=by
  rintro q (h1|h1)
  .exact .inl h1
  .exact .inr ⟨eD L h1.1,h1.2⟩
 have hg:=f.size;have g:∀q,aB D q->bK q:=λq b=>(h.kids.2 q b).1;refine C w' az l (λq=>bK q\/(w.heap.size<=q/\q<w'.heap.size)) ⟨by simpa using av,H.ab f ?_ ?_,br.ab M f ?_,br.ab N f ?_,cR.aX ax λk _ c=>Q k c,λq b=>?_,λq b=>?_,?_,λq b=>h.hs q (t q b),h.ov,h.ow,h.j5,eD (vB m.2 2) h.ox⟩ ?_ I
 .rintro(h1|h1)
  .exact h.j5 h1
  .have:=(h.aL r (g r h1)).1;omega
 .rintro q b (h1|h1)
  .exact(h.hs q (t q b)).2 h1
  .have:=(h.aL q (g q h1)).1
   have:=(h.hs q (t q b)).1;omega
 .rintro q b (h1|h1)
  .have:=(h.bl q b).1;omega
  .exact(h.bl q b).2.2.2 (g q h1)
 .rintro q b (h1|h1)
  .have:=(h.bv q b).1;omega
  .exact(h.bv q b).2.2 (g q h1)
 .have:=h.bl q b
  refine⟨this.1,I,this.2.2.1,?_⟩;rintro(h1|h1)
  .exact this.2.2.2 h1
  .omega
 .have:=h.bv q b
  refine⟨this.1,I,?_⟩;rintro(h1|h1)
  .exact this.2.2 h1
  .omega
 .rintro q (h1|h1)
  .have:=h.aL q h1;exact⟨this.1,I⟩
  .exact⟨I,h1.2⟩
 .refine((ad.cF (cj w)).trans (hc.mono λk _ c=>.inl c)).trans (f.mono λk _ c=>?_)
  rcases c with c|c
  .exact .inr (.inl c)
  .exact .inr (.inr (h.aL k (g k c)).1)
end Go.Proofs.YtkdhdlfonmgheaaGreat
