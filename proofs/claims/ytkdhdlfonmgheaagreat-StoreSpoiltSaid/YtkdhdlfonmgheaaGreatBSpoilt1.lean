/- Contracts of the functions that the statement reaches, and the plain laws over them; each theorem stands with its conditions. -/
import Derived.Laws.Externs
import Derived.Laws.Small
import Derived.Lib.Builder
import Derived.Lib.Bytealg
import Derived.Lib.ConvBytes
import Derived.Lib.MakeNoZero
import Derived.Lib.SlBytesConst
import Derived.Lib.UnsafeStr
import Derived.Test.YtkdhdlfonmgheaaGreatVSpoilt2
namespace Go.Proofs.YtkdhdlfonmgheaaGreat
abbrev Key:=O UInt8
abbrev aJ:=Key×Key
def ew:Key->Key->Int
 | [],[]=>0
 | [],_::_=> -1
 |_::_,[]=>1
 |a::x,b::y=>if a.toNat<b.toNat then -1 else if b.toNat<a.toNat then 1 else ew x y
theorem EX{a b:UInt8}(h1:¬a.toNat<b.toNat)(c:¬b.toNat<a.toNat):a=b:=o7.1 I
theorem xx:∀a:Key,ew a a=0
 | []=>rfl
 |a::x=>by simp[ew,xx x]
theorem xy:∀ {a b:Key},ew a b=0->a=b
 | [],[],_=>rfl
 | [],_::_,h=>by simp[ew]at h
 |_::_,[],h=>by simp[ew]at h
 |a::x,b::y,h=>by
  unfold ew at h
  split at h
  .cases h
  .rename_i h1
   split at h
   .cases h
   .rename_i c
    rw[EX h1 c,xy h]
theorem EY{a b:Key}:ew a b=0↔a=b:=⟨xy,λh=>h▸xx _⟩
theorem AG:∀a b:Key,ew a b= -1\/ew a b=0\/ew a b=1
 | [],[]=>.inr (.inl rfl)
 | [],_::_=>.inl rfl
 |_::_,[]=>.inr (.inr rfl)
 |a::x,b::y=>by
  unfold ew
  split
  .exact .inl rfl
  .split
   .exact .inr (.inr rfl)
   .exact AG x y
theorem AH:∀a b:Key,ew b a=-ew a b
 | [],[]=>rfl
 | [],_::_=>rfl
 |_::_,[]=>rfl
 |a::x,b::y=>by
  unfold ew
  by_cases h1:a.toNat<b.toNat
  .have c:¬b.toNat<a.toNat:=by omega
   simp[h1,c]
  .by_cases c:b.toNat<a.toNat
   .simp[h1,c]
   .simp only[h1,c,if_false]
    exact AH x y
theorem AI:∀ {a b c:Key},ew a b<0->ew b c<0->ew a c<0
 | [],[],_,h,_=>by simp[ew]at h
 | [],_::_,[],_,h=>by simp[ew]at h
 | [],_::_,_::_,_,_=>by simp[ew]
 |_::_,[],_,h,_=>by simp[ew]at h
 |_::_,_::_,[],_,h=>by simp[ew]at h
 |a::x,b::y,c::z,h1,d=>by
  unfold ew at h1 d⊢
  by_cases a1:a.toNat<b.toNat
  .by_cases a2:b.toNat<c.toNat
   .rw[if_pos I];decide
   .rw[if_neg a2]at d
    by_cases a3:c.toNat<b.toNat
    .rw[if_pos a3]at d;omega
    .rw[if_pos I];decide
  .rw[if_neg a1]at h1
   by_cases a2:b.toNat<a.toNat
   .rw[if_pos a2]at h1;omega
   .rw[if_neg a2]at h1
    by_cases a3:b.toNat<c.toNat
    .rw[if_pos I];decide
    .rw[if_neg a3]at d
     by_cases a4:c.toNat<b.toNat
     .rw[if_pos a4]at d;omega
     .rw[if_neg a4]at d
      rw[if_neg I,if_neg I]
      exact AI h1 d
def bH(a b:Key):Prop:=ew a b<0
def ek(a b:Key):Prop:=¬ew b a<0
instance (a b:Key):Decidable (bH a b):=by unfold bH;infer_instance
instance (a b:Key):Decidable (ek a b):=by unfold ek;infer_instance
theorem lH{a b c:Key}(h1:bH a b)(d:bH b c):bH a c:=AI h1 d
theorem ml(a:Key):¬bH a a:=by unfold bH;rw[xx];decide
theorem j4{a b:Key}(h:bH a b):¬bH b a:=λc=>ml a (lH h c)
theorem vr(a b:Key):bH a b\/a=b\/bH b a:=by
 unfold bH;have h:=AH a b;rcases AG a b with h1|h1|h1
 .exact .inl I
 .exact .inr (.inl (xy h1))
 .exact .inr (.inr I)
theorem ow{a b:Key}:ek a b↔bH a b\/a=b:=by
 constructor
 .intro h
  rcases vr a b with h1|h1|h1
  .exact .inl h1
  .exact .inr h1
  .exact absurd h1 h
 .rintro(h|rfl)
  .exact j4 h
  .exact ml _
theorem AJ(a:Key):ek a a:=ml a
theorem iH{a b:Key}(h:bH a b):ek a b:=ow.2 (.inl h)
theorem AK{a b:Key}:¬bH a b↔ek b a:=Iff.rfl
theorem m_{a b c:Key}(h1:bH a b)(d:ek b c):bH a c:=by
 rcases ow.1 d with h|rfl
 .exact lH h1 h
 .exact h1
theorem j5{a b c:Key}(h1:ek a b)(d:bH b c):bH a c:=by
 rcases ow.1 h1 with h|rfl
 .exact lH h d
 .exact d
theorem AL{a b c:Key}(h1:ek a b)(d:ek b c):ek a c:=by
 rcases ow.1 h1 with h|rfl
 .exact iH (m_ h d)
 .exact d
def gJ(l:O aJ):Prop:=l.Pairwise λa b=>bH a.1 b.1
def eO(l:O aJ)(k v:Key):O aJ:=(l.filter λp=>decide (bH p.1 k))++(k,v)::l.filter λp=>decide (bH k p.1)
def en(l:O aJ)(k:Key):O aJ:=l.filter λp=>decide (p.1≠k)
def ei(l:O aJ)(k:Key):aq Key:=(l.find? λp=>decide (p.1=k)).map (·.2)
def eP(l:O aJ)(fr to:Key):O aJ:=l.filter λp=>decide (ek fr p.1)&&(to.isEmpty||decide (bH p.1 to))
def fk(lo hi:aq Key)(k:Key):Prop:=(∀a,lo=some a->ek a k)/\(∀b,hi=some b->bH k b)
theorem EZ{a b:O aJ}{k v:Key}(h:∀p∈b,bH k p.1):eO (a++b) k v=eO a k v++b:=by
 have d:b.filter (λp=>decide (bH p.1 k))=[]:=lY.2 λp c=>by simpa using j4 (h p c)
 have e:b.filter (λp=>decide (bH k p.1))=b:=jW.2 λp c=>dw (h p c);unfold eO;rw[kV,kV,d,e,fQ,cD,nC]
theorem AM{a b:O aJ}{k v:Key}(h:∀p∈a,bH p.1 k):eO (a++b) k v=a++eO b k v:=by
 have d:a.filter (λp=>decide (bH p.1 k))=a:=jW.2 λp c=>dw (h p c);have e:a.filter (λp=>decide (bH k p.1))=[]:=lY.2 λp c=>by simpa using j4 (h p c)
 unfold eO;rw[kV,kV,d,e,iR,cD]
theorem p5(a b:O aJ)(k:Key):en (a++b) k=en a k++en b k:=kV ..
theorem ox{a:O aJ}{k:Key}(h:∀p∈a,p.1≠k):en a k=a:=jW.2 λp b=>dw (h p b)
theorem kB{a b:Key}(h:bH a b):a≠b:=λe=>ml b (e▸h)
theorem p6{a b:O aJ}:gJ (a++b)↔gJ a/\gJ b/\∀p∈a,∀q∈b,bH p.1 q.1:=mL
theorem AN{l:O aJ}{k v:Key}{p:aJ}:p∈eO l k v↔p=(k,v)\/(p∈l/\p.1≠k):=by
 unfold eO;rw[cR,cU,hE,hE,cS,cS];constructor
 .rintro(⟨h,a⟩|rfl|⟨h,a⟩)
  .exact .inr ⟨h,kB a⟩
  .exact .inl rfl
  .exact .inr ⟨h,(kB a).symm⟩
 .rintro(rfl|⟨h,a⟩)
  .exact .inr (.inl rfl)
  .rcases vr p.1 k with b|b|b
   .exact .inl ⟨h,b⟩
   .exact absurd b a
   .exact .inr (.inr ⟨h,b⟩)
end Go.Proofs.YtkdhdlfonmgheaaGreat
namespace Go.Proofs.YtkdhdlfonmgheaaGreat
structure aB where
 leaf:aj
 keys:O Key
 vals:O Key
 kids:O Nat
 deriving DecidableEq
abbrev Below:=aq Key->aq Key->Nat->O Nat->O aJ->Prop
inductive dE (W:Below):aq Key->aq Key->O Key->O Nat->O Nat->O aJ->Prop
 |one {lo hi:aq Key}{k:Nat}{p:O Nat}{L:O aJ} (h:W lo hi k p L):dE W lo hi [] [k] p L
 |cons {lo hi:aq Key}{s:Key}{k:Nat}{br bt:O Nat}{bf bB:O aJ}{ks:O Key}{kids:O Nat} (h:W lo (some s) k br bf) (t:dE W (some s) hi ks kids bt bB):
  dE W lo hi (s::ks) (k::kids) (br++bt) (bf++bB)
variable {W:Below}{lo hi:aq Key}
theorem dE.len{ks:O Key}{kids p:O Nat}{L:O aJ}(h:dE W lo hi ks kids p L):kids.length=ks.length+1:=by
 induction h with
 |one _=>rfl
 |cons _ _ a=>simp[a]
theorem dE.app{s:Key}{iI kC:O Key}{i_ lI br bt:O Nat}{bf bB:O aJ}(h1:dE W lo (some s) iI i_ br bf)(b:dE W (some s) hi kC lI bt bB):
 dE W lo hi (iI++s::kC) (i_++lI) (br++bt) (bf++bB):=by
 generalize a:some s=m at h1
 induction h1 with
 |one h=>subst a;exact .cons h b
 |cons h t c=>
  rw[cD,cD];exact .cons h (c a)
theorem dE.cut:∀ {iI:O Key}{s:Key}{kC:O Key}{lo:aq Key}{kids p:O Nat}{L:O aJ},dE W lo hi (iI++s::kC) kids p L->
 ∃ (i_ lI br bt:O Nat) (bf bB:O aJ),kids=i_++lI/\p=br++bt/\L=bf++bB/\dE W lo (some s) iI i_ br bf/\dE W (some s) hi kC lI bt bB
 | [],s,kC,lo,kids,p,L,h=>by
  cases h with
  |cons h t=>exact⟨_,_,_,_,_,_,rfl,rfl,rfl,.one h,t⟩
 |a::iI,s,kC,lo,kids,p,L,h=>by
  cases h with
  |cons h t=>
   obtain⟨bx,bG,br,bt,bf,bB,rfl,rfl,rfl,h1,b⟩:=dE.cut t
   exact⟨_::bx,bG,_++br,bt,_++bf,bB,rfl,by rw[cD],by rw[cD],.cons h h1,b⟩
theorem dE.mono{V:Below}{ks:O Key}{kids p:O Nat}{L:O aJ}(h:dE W lo hi ks kids p L)(a:∀lo hi k p L,(∀x∈p,x∈p)->W lo hi k p L->V lo hi k p L):dE V lo hi ks kids p L:=by
 induction h with
 |one h=>exact .one (a _ _ _ _ _ (λ_ h=>h) h)
 |cons h _ b=>exact .cons (a _ _ _ _ _ (λ_ h=>h) h) b
theorem dE.lJ{V:Below}{ks:O Key}{kids p:O Nat}{L:O aJ}(h:dE W lo hi ks kids p L)(b:∀lo hi k a L,(∀x∈a,x∈p)->W lo hi k a L->V lo hi k a L):dE V lo hi ks kids p L:=by
 induction h with
 |one h=>exact .one (b _ _ _ _ _ (λ_ h=>h) h)
 |cons h _ c=>
  exact .cons (b _ _ _ _ _ (λx hx=>jC _ hx) h) (c λlo hi k a L hs=>b lo hi k a L λx hx=>ie _ (hs x hx))
def cB(k:Key):Prop:=1<=k.length/\k.length<=24
structure vt(n:aB):Prop where
 ok:∀k∈n.keys,cB k
 e_:n.keys.Pairwise bH
structure gP(n:aB):Prop extends vt n where
 leaf:n.leaf=true
 len:n.vals.length=n.keys.length
 kids:n.kids=[]
 vals:∀v∈n.vals,v.length<=24
structure vu(n:aB):Prop extends vt n where
 inner:n.leaf=false
 some:n.keys≠ []
 len:n.kids.length=n.keys.length+1
 vals:n.vals=[]
 kids:∀k∈n.kids,k<1600
def aB.dJ(n:aB):O aJ:=n.keys.zip n.vals
def aB.within(n:aB)(lo hi:aq Key):Prop:=∀k∈n.keys,fk lo hi k
def d_(P:Nat->aq aB):Nat->Below
 |0=> λ_ _ _ _ _=>False
 |1=> λlo hi no p L=>∃n,P no=some n/\gP n/\n.within lo hi/\n.keys≠ []/\p=[no]/\L=n.dJ
 |h+2=> λlo hi no p L=>∃n a,P no=some n/\vu n/\n.within lo hi/\p=no::a/\
  dE (λlo hi k p L=>d_ P (h+1) lo hi k p L/\∃m,P k=some m/\2<=m.keys.length) lo hi n.keys n.kids a L
theorem d_.agree{P Q:Nat->aq aB}:∀ {h:Nat}{lo hi:aq Key}{no:Nat}{p:O Nat}{L:O aJ},d_ P h lo hi no p L->(∀x∈p,P x=Q x)->d_ Q h lo hi no p L/\no∈p
 |0,_,_,_,_,_,e,_=>e.elim
 |1,_,_,no,_,_,⟨n,h1,a,f,g,c,i⟩,b=>by
  have d:no∈ [no]:=by simp
  rw[c]
  exact⟨⟨n,by rw[←b no (by rw[c];exact d)];exact h1,a,f,g,rfl,i⟩,d⟩
 |h+2,_,_,no,_,_,⟨n,j,h1,a,f,g,c⟩,b=>by
  subst g
  refine⟨⟨n,j,by rw[←b no (by simp)];exact h1,a,f,rfl,c.lJ λlo hi k q L hs ⟨e,m,d,a⟩=>?_⟩,by simp⟩
  have:=d_.agree e λx hx=>b x (jV _ (hs x hx))
  exact⟨this.1,m,by rw[←b k (jV _ (hs k this.2))];exact d,a⟩
end Go.Proofs.YtkdhdlfonmgheaaGreat
namespace Go.Proofs.YtkdhdlfonmgheaaGreat
variable {W:Below}{lo hi:aq Key}{P:Nat->aq aB}
theorem E0{lo hi:aq Key}{s k:Key}(h1:fk lo (some s) k)(a:fk lo hi s):fk lo hi k:=
 ⟨h1.1,λb c=>lH (h1.2 s rfl) (a.2 b c)⟩
theorem E1{lo hi:aq Key}{s k:Key}(h1:fk (some s) hi k)(b:fk lo hi s):fk lo hi k:=
 ⟨λa c=>AL (b.1 a c) (h1.1 s rfl),h1.2⟩
theorem dE.e_{ks:O Key}{kids p:O Nat}{L:O aJ}(h:dE W lo hi ks kids p L)(cd:∀lo hi k p L,W lo hi k p L->gJ L/\∀q∈L,fk lo hi q.1)(e:ks.Pairwise bH)(c:∀s∈ks,fk lo hi s):
 gJ L/\∀q∈L,fk lo hi q.1:=by
 induction h with
 |one h=>exact cd _ _ _ _ _ h
 | @cons lo hi s k br bt bf bB ks kids h t f=>
  obtain⟨r1,b9⟩:=cd _ _ _ _ _ h;have d:=jD.1 e;obtain⟨bX,bQ⟩:=f d.2 λx hx=>⟨λa g=>by cases g;exact iH (d.1 x hx),(c x (jV _ hx)).2⟩;have hs:=c s List.mem_cons_self;refine⟨p6.2 ⟨r1,bX,λx hx y i=>m_ ((b9 x hx).2 s rfl) ((bQ y i).1 s rfl)⟩,λq b=>?_⟩;rcases cR.1 b with b|b
  .exact E0 (b9 q b) hs
  .exact E1 (bQ q b) hs
theorem AO:∀ {ks vs:O Key},ks.Pairwise bH->gJ (ks.zip vs)
 | [],vs,_=>by rw[List.zip_nil_left];exact List.Pairwise.nil
 |k::ks,[],_=>by rw[List.zip_nil_right];exact List.Pairwise.nil
 |k::ks,v::vs,h=>by
  rw[List.zip_cons_cons]
  have:=jD.1 h
  exact jD.2 ⟨λq a=>this.1 _ (qO a).1,AO this.2⟩
theorem gP.dJ{n:aB}(h:gP n):gJ n.dJ/\n.dJ.length=n.keys.length:=⟨AO h.e_,by unfold aB.dJ;rw[mM,h.len,Nat.min_self]⟩
theorem d_.e_:∀ {h:Nat}{lo hi:aq Key}{no:Nat}{p:O Nat}{L:O aJ},d_ P h lo hi no p L->gJ L/\∀q∈L,fk lo hi q.1
 |0,_,_,_,_,_,a=>a.elim
 |1,_,_,_,_,_,⟨n,_,b,c,_,_,d⟩=>by
  subst d
  exact⟨b.dJ.1,λq e=>c _ (qO e).1⟩
 |h+2,_,_,_,_,_,⟨n,_,_,b,c,_,f⟩=>f.e_ (λ_ _ _ _ _ a=>d_.e_ a.1) b.e_ c
theorem dE.count{ks:O Key}{kids p:O Nat}{L:O aJ}(h:dE W lo hi ks kids p L){c:Nat}(cd:∀lo hi k p L,W lo hi k p L->p.length+1<=L.length/\c<=L.length):
 p.length+kids.length<=L.length/\c*kids.length<=L.length:=by
 induction h with
 |one h=>have:=cd _ _ _ _ _ h;simp;omega
 |cons h _ a=>
  have:=cd _ _ _ _ _ h;simp only[cx,eU,Nat.mul_add,fz];omega
theorem d_.count:∀ {h:Nat}{lo hi:aq Key}{no:Nat}{p:O Nat}{L:O aJ},d_ P h lo hi no p L->((∃m,P no=some m/\2<=m.keys.length)\/2<=h)->p.length+1<=L.length/\2^h<=L.length
 |0,_,_,_,_,_,d,_=>d.elim
 |1,_,_,_,_,_,⟨n,h1,b,_,_,f,g⟩,a=>by
  rcases a with ⟨m,e,a⟩|a
  .rw[h1]at e
   cases e
   subst f g
   have:=b.dJ.2
   simp only[iS];omega
  .omega
 |h+2,_,_,_,_,_,⟨n,j,_,b,_,i,f⟩,_=>by
  have hc:=f.count (c:=2^(h+1)) λlo hi k p L ⟨d,a⟩=>d_.count d (.inl a)
  have l:=b.len
  have hs:1<=n.keys.length:=sC.2 b.some
  subst i
  have:2^(h+1)*2<=2^(h+1)*n.kids.length:=Nat.mul_le_mul_left _ I
  rw[Nat.pow_succ 2 (h+1)]
  simp only[eU]
  omega
theorem d_.pages{h:Nat}{lo hi:aq Key}{no:Nat}{p:O Nat}{L:O aJ}(a:d_ P h lo hi no p L):p.length<=L.length/\1<=L.length/\(2<=h->2^h<=L.length):=by
 match h with
 |0=>exact a.elim
 |1=>
  obtain⟨n,h1,b,_,c,d,e⟩:=a;subst d e;have:=b.dJ.2;have f:=sC.2 c;simp only[iS];exact⟨I,I,I⟩
 |h+2=>
  have:=d_.count a (.inr I);exact⟨I,I,λ_=>this.2⟩
end Go.Proofs.YtkdhdlfonmgheaaGreat
namespace Go.Proofs.YtkdhdlfonmgheaaGreat
variable {W V:Below}{lo hi:aq Key}
inductive fw (W:Below) (lo:aq Key):aq Key->O Key->O Nat->O Nat->O aJ->Prop
 |nil:fw W lo lo [] [] [] []
 |more {s:Key}{ks:O Key}{kids p:O Nat}{L:O aJ} (h:dE W lo (some s) ks kids p L):fw W lo (some s) (ks++ [s]) kids p L
inductive gx (W:Below) (hi:aq Key):aq Key->O Key->O Nat->O Nat->O aJ->Prop
 |nil:gx W hi hi [] [] [] []
 |more {s:Key}{ks:O Key}{kids p:O Nat}{L:O aJ} (h:dE W (some s) hi ks kids p L):gx W hi (some s) (s::ks) kids p L
variable {m:aq Key}{iI kC:O Key}{i_ lI br bt:O Nat}{bf bB:O aJ}
theorem fw.E2(h1:fw W lo m iI i_ br bf)(a:dE W m hi kC lI bt bB):dE W lo hi (iI++kC) (i_++lI) (br++bt) (bf++bB):=by
 cases h1 with
 |nil=>exact a
 |more h=>rw[cD];exact h.app a
theorem dE.post(h1:dE W lo m iI i_ br bf)(a:gx W hi m kC lI bt bB):dE W lo hi (iI++kC) (i_++lI) (br++bt) (bf++bB):=by
 cases a with
 |nil=>simpa using h1
 |more h=>exact h1.app h
theorem fw.cons{s:Key}{k:Nat}{p:O Nat}{L:O aJ}(h:W lo (some s) k p L)(t:fw W (some s) m iI i_ br bf):fw W lo m (s::iI) (k::i_) (p++br) (L++bf):=by
 cases t with
 |nil=>rw[fQ,fQ];exact fw.more (ks:=[]) (.one h)
 |more t=>exact fw.more (ks:=s::_) (.cons h t)
theorem fw.lJ(h:fw W lo m iI i_ br bf)(b:∀lo hi k a L,(∀x∈a,x∈br)->W lo hi k a L->V lo hi k a L):fw V lo m iI i_ br bf:=by
 cases h with
 |nil=>exact .nil
 |more h=>exact .more (h.lJ b)
theorem gx.lJ(h:gx W hi m iI i_ br bf)(b:∀lo hi k a L,(∀x∈a,x∈br)->W lo hi k a L->V lo hi k a L):gx V hi m iI i_ br bf:=by
 cases h with
 |nil=>exact .nil
 |more h=>exact .more (h.lJ b)
theorem dE.at{ks:O Key}{kids p:O Nat}{L:O aJ}(h:dE W lo hi ks kids p L):∀ (i:Nat) (c:i<kids.length),∃ (d e:aq Key) (br q bt:O Nat) (bf M bB:O aJ),
 p=br++(q++bt)/\L=bf++(M++bB)/\W d e kids[i] q M/\fw W lo d (ks.take i) (kids.take i) br bf/\gx W hi e (ks.drop i) (kids.drop (i+1)) bt bB:=by
 induction h with
 | @one lo hi k p L h=>
  intro i c;have:i=0:=by simp at c;omega
  subst this;exact⟨lo,hi,[],p,[],[],L,[],by simp,by simp,h,.nil,.nil⟩
 | @cons lo hi s k br bt bf bB ks kids h t f=>
  intro i c
  cases i with
  |zero=>exact⟨lo,some s,[],br,bt,[],bf,bB,rfl,rfl,h,.nil,.more t⟩
  |succ i=>
   obtain⟨d,e,a,q,b,A,M,B,rfl,rfl,h1,g,j⟩:=f i (by simpa using c);exact⟨d,e,br++a,q,b,bf++A,M,B,by rw[cD],by rw[cD],h1,fw.cons h g,j⟩
theorem fw.inv{kids p:O Nat}{L:O aJ}(h:fw W lo m [] kids p L):m=lo/\kids=[]/\p=[]/\L=[]:=by
 generalize e:([]:O Key)=K at h
 cases h with
 |nil=>exact⟨rfl,rfl,rfl,rfl⟩
 |more h=>simp at e
theorem gx.head{ks:O Key}{kids p:O Nat}{L:O aJ}(h:gx W hi m ks kids p L)(b:0<kids.length):∃ (s:Key) (a:aq Key) (q bt:O Nat) (M bB:O aJ) (hs:0<ks.length),
 m=some s/\s=ks[0]/\p=q++bt/\L=M++bB/\W (some s) a (kids[0]) q M/\gx W hi a (ks.drop 1) (kids.drop 1) bt bB:=by
 cases h with
 |nil=>simp at b
 | @more s ks kids p L h=>
  obtain⟨e,a,br,q,bt,bf,M,bB,rfl,rfl,h1,c,d⟩:=h.at 0 b;rw[List.take_zero]at c;obtain⟨rfl,_,rfl,rfl⟩:=c.inv;exact⟨s,a,q,bt,M,bB,by simp,rfl,rfl,rfl,rfl,h1,by simpa using d⟩
end Go.Proofs.YtkdhdlfonmgheaaGreat
namespace Go.Proofs.YtkdhdlfonmgheaaGreat
variable {W V:Below}{lo hi m:aq Key}
def dn(ks:O Key)(k:Key):Nat:=ks.findIdx λs=>decide (bH k s)
theorem vv(ks:O Key)(k:Key):dn ks k<=ks.length:=List.findIdx_le_length
theorem E3{ks:O Key}{k:Key}{i:Nat}(h:i<dn ks k)(hi:i<ks.length):ek ks[i] k:=by
 have:=List.not_of_lt_findIdx h;exact AK.1 (by simpa using this)
theorem E4{ks:O Key}{k:Key}(h:dn ks k<ks.length):bH k ks[dn ks k]:=by
 have:=List.findIdx_getElem (p:=λs=>decide (bH k s)) (xs:=ks) (w:=h);exact b2 this
theorem fw.E5{i:Nat}{ks:O Key}{kids p:O Nat}{L:O aJ}(h:fw W lo m (ks.take i) kids p L){k:Key}(b:∀ (j:Nat) (c:j<ks.length),j<i->ek ks[j] k)(d:∀a,lo=some a->ek a k):∀a,m=some a->ek a k:=by
 generalize e:ks.take i=K at h
 cases h with
 |nil=>exact d
 | @more s l kids p L h=>
  intro a f
  cases f;have g:s∈ks.take i:=by rw[e];simp
  obtain⟨j,c,rfl⟩:=List.mem_take_iff_getElem.1 g;exact b j I I
theorem gx.E6{i:Nat}{ks:O Key}{kids p:O Nat}{L:O aJ}(h:gx W hi m (ks.drop i) kids p L){k:Key}(b:∀ (h:i<ks.length),bH k ks[i])(c:∀a,hi=some a->bH k a):∀a,m=some a->bH k a:=by
 generalize e:ks.drop i=K at h
 cases h with
 |nil=>exact c
 | @more s f kids p L h=>
  intro a d
  cases d;have aH:i<ks.length:=by
   have:=congrArg List.length e;simp at this;omega
  have:ks[i]=s:=by
   have:=iQ aH;rw[e]at this;exact(List.cons.inj this).1.symm
  rw[←this];exact b aH
theorem fw.below{ks:O Key}{kids p:O Nat}{L:O aJ}(h:fw W lo m ks kids p L)(cd:∀lo hi k p L,W lo hi k p L->gJ L/\∀q∈L,fk lo hi q.1)(f:ks.Pairwise bH)(c:∀s∈ks,fk lo hi s)
 {k:Key} (g:∀a,m=some a->ek a k):∀q∈L,bH q.1 k:=by
 cases h with
 |nil=>intro q d;cases d
 | @more s i kids p L h=>
  have e:=mL.1 f;have:=h.e_ cd e.1 λx hx=>⟨(c x (by simp[hx])).1,λb c=>by cases c;exact e.2.2 x hx s (by simp)⟩;exact λq d=>m_ ((this.2 q d).2 s rfl) (g s rfl)
theorem gx.E7{ks:O Key}{kids p:O Nat}{L:O aJ}(h:gx W hi m ks kids p L)(cd:∀lo hi k p L,W lo hi k p L->gJ L/\∀q∈L,fk lo hi q.1)(d:ks.Pairwise bH)(e:∀s∈ks,fk lo hi s)
 {k:Key} (f:∀a,m=some a->bH k a):∀q∈L,bH k q.1:=by
 cases h with
 |nil=>intro q b;cases b
 | @more s i kids p L h=>
  have c:=jD.1 d;have:=h.e_ cd c.2 λx hx=>⟨λa g=>by cases g;exact iH (c.1 x hx),(e x (by simp[hx])).2⟩;exact λq b=>m_ (f s rfl) ((this.2 q b).1 s rfl)
def Loc(k:Key)(u:O aJ->O aJ):Prop:=∀bf M bB:O aJ,(∀p∈bf,bH p.1 k)->(∀p∈bB,bH k p.1)->u (bf++(M++bB))=bf++(u M++bB)
theorem E8(k v:Key):Loc k λL=>eO L k v:=λbf M bB h1 a=>by
 show eO _ _ _=_
 rw[AM h1,EZ a]
theorem xz(k:Key):Loc k λL=>en L k:=λbf M bB h1 b=>by
 show en _ _=_
 rw[p5,p5,ox λp a=>kB (h1 p a),ox λp a=>(kB (b p a)).symm]
end Go.Proofs.YtkdhdlfonmgheaaGreat
namespace Go.Proofs.YtkdhdlfonmgheaaGreat
variable {W V:Below}{lo hi m:aq Key}{P Q:Nat->aq aB}
def fl(P:Nat->aq aB)(h:Nat):Below:=λlo hi k p L=>d_ P h lo hi k p L/\∃m,P k=some m/\2<=m.keys.length
theorem fl.agree{h no:Nat}{p:O Nat}{L:O aJ}(b:fl P h lo hi no p L)(a:∀x∈p,P x=Q x):fl Q h lo hi no p L:=by
 obtain⟨h1,m,c,d⟩:=b;have:=h1.agree a;exact⟨this.1,m,by rw[←a no this.2];exact c,d⟩
theorem E9{α:Type}{l:O α}(h:1<=l.length):l≠ []:=λe=>by subst e;simp at h
theorem fl.in{h no:Nat}{p:O Nat}{L:O aJ}(a:fl P h lo hi no p L):L≠ []/\gJ L/\∀q∈L,fk lo hi q.1:=⟨E9 a.1.pages.2.1,a.1.e_⟩
theorem dE.sorted{ks:O Key}{kids p:O Nat}{L:O aJ}(h:dE W lo hi ks kids p L)(cd:∀lo hi k p L,W lo hi k p L->L≠ []/\gJ L/\∀q∈L,fk lo hi q.1):
 L≠ []/\(∀q∈L,fk lo hi q.1)/\ks.Pairwise bH/\∀s∈ks,(∀a,lo=some a->bH a s)/\∀b,hi=some b->bH s b:=by
 induction h with
 |one h=>exact⟨(cd _ _ _ _ _ h).1,(cd _ _ _ _ _ h).2.2,.nil,by simp⟩
 | @cons lo hi s k br bt bf bB ks kids h t l=>
  obtain⟨bS,_,b9⟩:=cd _ _ _ _ _ h;obtain⟨bp,bQ,bX,ah⟩:=l;obtain⟨x,hx⟩:=qP _ bS;obtain⟨y,i⟩:=qP _ bp;have f:∀a,lo=some a->bH a s:=λa e=>j5 ((b9 x hx).1 a e) ((b9 x hx).2 s rfl);have j:∀b,hi=some b->bH s b:=λb g=>j5 ((bQ y i).1 s rfl) ((bQ y i).2 b g);refine⟨by simp[bS],λq c=>?_,jD.2 ⟨λz d=>(ah z d).1 s rfl,bX⟩,λz d=>?_⟩
  .rcases cR.1 c with c|c
   .exact⟨(b9 q c).1,λb g=>lH ((b9 q c).2 s rfl) (j b g)⟩
   .exact⟨λa e=>iH (m_ (f a e) ((bQ q c).1 s rfl)),(bQ q c).2⟩
  .rcases cU.1 d with rfl|d
   .exact⟨f,j⟩
   .exact⟨λa e=>lH (f a e) ((ah z d).1 s rfl),(ah z d).2⟩
def df(P:Nat->aq aB):Nat->aB->aq Key->aq Key->O Nat->O aJ->Prop
 |0,_,_,_,_,_=>False
 |1,n,lo,hi,p,L=>gP n/\n.within lo hi/\p=[]/\L=n.dJ
 |h+2,n,lo,hi,p,L=>n.leaf=false/\n.vals=[]/\(∀k∈n.keys,cB k)/\(∀k∈n.kids,k<1600)/\dE (fl P (h+1)) lo hi n.keys n.kids p L
theorem df.agree:∀ {h:Nat}{n:aB}{p:O Nat}{L:O aJ},df P h n lo hi p L->(∀x∈p,P x=Q x)->df Q h n lo hi p L
 |0,_,_,_,h,_=>h.elim
 |1,_,_,_,h,_=>h
 |_+2,_,_,_,⟨h1,a,b,c,d⟩,e=>⟨h1,a,b,c,d.lJ λ_ _ _ _ _ hs f=>f.agree λx hx=>e x (hs x hx)⟩
theorem df.lay:∀ {h:Nat}{n:aB}{x:Nat}{p:O Nat}{L:O aJ},df P h n lo hi p L->n.keys≠ []->Q x=some n->(∀y∈p,P y=Q y)->d_ Q h lo hi x (x::p) L
 |0,_,_,_,_,h,_,_,_=>h.elim
 |1,n,x,p,L,⟨h1,b,c,d⟩,e,hx,_=>by
  subst c
  exact⟨n,hx,h1,b,e,rfl,d⟩
 |h+2,n,x,p,L,i,e,hx,j=>by
  obtain⟨h1,b,c,d,f⟩:=i.agree j
  have hs:=f.sorted λ_ _ _ _ _ k=>k.in
  exact⟨n,p,hx,⟨⟨c,hs.2.2.1⟩,h1,e,f.len,b,d⟩,λs g=>⟨λa l=>iH ((hs.2.2.2 s g).1 a l),(hs.2.2.2 s g).2⟩,rfl,f⟩
def aB.left(n:aB)(i:Nat):aB:=if n.leaf then ⟨true,n.keys.take i,n.vals.take i,[]⟩ else ⟨false,n.keys.take i,[],n.kids.take (i+1)⟩
def aB.right(n:aB)(i:Nat):aB:=if n.leaf then ⟨true,n.keys.drop i,n.vals.drop i,[]⟩ else ⟨false,n.keys.drop (i+1),[],n.kids.drop (i+1)⟩
theorem df.leaf{h:Nat}{n:aB}{p:O Nat}{L:O aJ}(a:df P h n lo hi p L):n.leaf=decide (h=1):=by
 match h,a with
 |0,a=>exact a.elim
 |1,a=>rw[a.1.leaf];rfl
 |h+2,a=>rw[a.1];simp
theorem df.xA{h:Nat}{n:aB}{p:O Nat}{L:O aJ}(g:df P h n lo hi p L){i:Nat}(h1:1<=i)(m:i<n.keys.length):
 ∃ (br bt:O Nat) (bf bB:O aJ),p=br++bt/\L=bf++bB/\df P h (n.left i) lo (some n.keys[i]) br bf/\df P h (n.right i) (some n.keys[i]) hi bt bB:=by
 match h,g with
 |0,g=>exact g.elim
 |1,⟨a,b,c,d⟩=>
  subst c d;have q:=a.e_;have fR:n.keys=n.keys.take i++n.keys.drop i:=(hF _ _).symm;have o:=q;rw[fR]at o;obtain⟨r1,bX,ag⟩:=mL.1 o;have hd:n.keys.drop i=n.keys[i]::n.keys.drop (i+1):=iQ m;have hf:n.left i=⟨true,n.keys.take i,n.vals.take i,[]⟩:=by unfold aB.left;rw[a.leaf];rfl
  have hg:n.right i=⟨true,n.keys.drop i,n.vals.drop i,[]⟩:=by unfold aB.right;rw[a.leaf];rfl
  rw[hf,hg];refine⟨[],[],n.dJ.take i,n.dJ.drop i,rfl,(hF _ _).symm,⟨⟨⟨λk f=>a.ok k (fe f),r1⟩,rfl,by simp[a.len],rfl,λv g=>a.vals v (fe g)⟩,λk f=>⟨(b k (fe f)).1,λs hs=>?_⟩,rfl,?_⟩,
   ⟨⟨⟨λk f=>a.ok k (e6 f),bX⟩,rfl,by simp[a.len],rfl,λv g=>a.vals v (e6 g)⟩,λk f=>⟨λs hs=>?_,(b k (e6 f)).2⟩,rfl,?_⟩⟩
  .cases hs
   exact ag k f _ (by rw[hd];exact List.mem_cons_self)
  .exact List.take_zipWith
  .cases hs
   have f:k∈n.keys.drop i:=f;rw[hd]at f bX;rcases cU.1 f with rfl|f
   .exact AJ _
   .exact iH ((jD.1 bX).1 k f)
  .exact List.drop_zipWith
 |h+2,⟨a,b,c,d,e⟩=>
  have hf:n.left i=⟨false,n.keys.take i,[],n.kids.take (i+1)⟩:=by unfold aB.left;rw[a];rfl
  have hg:n.right i=⟨false,n.keys.drop (i+1),[],n.kids.drop (i+1)⟩:=by unfold aB.right;rw[a];rfl
  have fR:n.keys=n.keys.take i++n.keys[i]::n.keys.drop (i+1):=by rw[←iQ m,hF]
  rw[fR]at e;obtain⟨bx,bG,br,bt,bf,bB,j,rfl,rfl,s1,s2⟩:=e.cut;have l:=s1.len;rw[cv,jn I]at l;have r:n.kids.take (i+1)=bx:=by rw[j,←l,List.take_left]
  have t:n.kids.drop (i+1)=bG:=by rw[j,←l,List.drop_left]
  rw[hf,hg,r,t];exact⟨br,bt,bf,bB,rfl,rfl,⟨rfl,rfl,λk f=>c k (fe f),λk f=>d k (by rw[j];simp[f]),s1⟩,⟨rfl,rfl,λk f=>c k (e6 f),λk f=>d k (by rw[j];simp[f]),s2⟩⟩
end Go.Proofs.YtkdhdlfonmgheaaGreat
namespace Go.Proofs.YtkdhdlfonmgheaaGreat
variable {lo hi:aq Key}{P Q:Nat->aq aB}
def dU(a:aB)(s:Key)(b:aB):aB:=if a.leaf then ⟨true,a.keys++b.keys,a.vals++b.vals,[]⟩ else ⟨false,a.keys++s::b.keys,[],a.kids++b.kids⟩
theorem oy{a b c d:O Key}(h:a.length=c.length):(a++b).zip (c++d)=a.zip c++b.zip d:=List.zip_append h
theorem df.merge{h:Nat}{a b:aB}{s:Key}{pa l:O Nat}{m n:O aJ}(g:df P h a lo (some s) pa m)(o:df P h b (some s) hi l n)(hs:cB s)(p:∀k,lo=some k->ek k s)(q:∀k,hi=some k->ek s k):
 df P h (dU a s b) lo hi (pa++l) (m++n):=by
 match h,g,o with
 |0,g,_=>exact g.elim
 |1,⟨a1,a2,a3,a4⟩,⟨b9,bQ,i,j⟩=>
  subst a3 a4 i j;have e:dU a s b=⟨true,a.keys++b.keys,a.vals++b.vals,[]⟩:=by unfold dU;rw[a1.leaf];rfl
  rw[e];refine⟨⟨⟨λk d=>?_,mL.2 ⟨a1.e_,b9.e_,λx hx y r=>m_ ((a2 x hx).2 s rfl) ((bQ y r).1 s rfl)⟩⟩,rfl,by simp[a1.len,b9.len],rfl,λv f=>?_⟩,λk d=>?_,rfl,?_⟩
  .rcases cR.1 d with d|d
   .exact a1.ok k d
   .exact b9.ok k d
  .rcases cR.1 f with f|f
   .exact a1.vals v f
   .exact b9.vals v f
  .rcases cR.1 d with d|d
   .exact⟨(a2 k d).1,λc hc=>m_ ((a2 k d).2 s rfl) (q c hc)⟩
   .exact⟨λc hc=>AL (p c hc) ((bQ k d).1 s rfl),(bQ k d).2⟩
  .exact(oy a1.len.symm).symm
 |h+2,⟨a1,a2,a3,a4,a5⟩,⟨b9,bQ,i,j,t⟩=>
  have e:dU a s b=⟨false,a.keys++s::b.keys,[],a.kids++b.kids⟩:=by unfold dU;rw[a1];rfl
  rw[e];refine⟨rfl,rfl,λk d=>?_,λk d=>?_,a5.app t⟩
  .rcases cR.1 d with d|d
   .exact a3 k d
   .rcases cU.1 d with rfl|d
    .exact hs
    .exact i k d
  .rcases cR.1 d with d|d
   .exact a4 k d
   .exact j k d
theorem d_.kD{h no:Nat}{p:O Nat}{L:O aJ}(c:d_ P h lo hi no p L):∃n b,P no=some n/\p=no::b/\n.keys≠ []/\df P h n lo hi b L:=by
 match h,c with
 |0,c=>exact c.elim
 |1,⟨n,h1,a,f,d,e,g⟩=>exact⟨n,[],h1,e,d,a,f,rfl,g⟩
 |h+2,⟨n,b,h1,a,f,d,e⟩=>exact⟨n,b,h1,d,a.some,a.inner,a.vals,a.ok,a.kids,e⟩
def f_(n:aB)(fr to:Nat)(ks:O Key)(kids:O Nat):aB:=⟨false,n.keys.take fr++ks++n.keys.drop (to-1),[],n.kids.take fr++kids++n.kids.drop to⟩
end Go.Proofs.YtkdhdlfonmgheaaGreat
namespace Go.Proofs.YtkdhdlfonmgheaaGreat
def cellsOf(n:aB):O Nat:=if n.leaf then List.zipWith (λk v=>2+k.length+v.length) n.keys n.vals else n.keys.map λk=>3+k.length
def bI(n:aB):Nat:=(if n.leaf then 1 else 3)+(cellsOf n).sum
def gm(c:O Nat)(most:Nat):Nat:=match (List.range most).find? λi=>decide (c.sum<=2*(c.take (i+1)).sum) with
 |some i=>i+1
 |none=>most
theorem na{B:Nat}:∀ {l:O Nat},(∀x∈l,x<=B)->l.sum<=B*l.length
 | [],_=>by simp
 |a::l,h=>by
  have h1:=h a (by simp)
  have b:=na (l:=l) λx hx=>h x (by simp[hx])
  rw[qQ,eU,Nat.mul_add,fz]
  omega
theorem xB(l:O Nat)(i:Nat):(l.take i).sum+(l.drop i).sum=l.sum:=by
 rw[←lr,hF]
theorem p7{l:O Nat}{i:Nat}(h:i<l.length):(l.take (i+1)).sum=(l.take i).sum+l[i]:=by
 rw[iy h,lr];simp
theorem AP{c:O Nat}{most:Nat}(a:1<=most)(hs:0<c.sum):1<=gm c most/\gm c most<=most/\2*(c.take (gm c most-1)).sum<c.sum/\(gm c most=most\/c.sum<=2*(c.take (gm c most)).sum):=by
 unfold gm
 cases h:(List.range most).find? λi=>decide (c.sum<=2*(c.take (i+1)).sum) with
 |none=>
  have b:=ig.1 h;refine⟨a,bo _,?_,.inl rfl⟩;by_cases h1:most=1
  .subst h1;simpa using hs
  .have:=b (most-2) (jB.2 I)
   have e:most-2+1=most-1:=by omega
   rw[e]at this;simp at this;exact this
 |some i=>
  have hi:i<most:=jB.1 (iA h);have d:=jX h;refine⟨by simp,by simp;omega,?_,.inr (by simpa using d)⟩;show 2*(c.take (i+1-1)).sum<c.sum;rw[Nat.add_sub_cancel]
  cases i with
  |zero=>simpa using hs
  |succ j=>
   have:=(List.find?_range_eq_some.1 h).2.2 j I;simpa using this
theorem E_{c:O Nat}(a:∀x∈c,x<=50)(h1:232<=c.sum)(e:c.sum<=309):
 2<=gm c (c.length-1)/\gm c (c.length-1)+2<=c.length/\(c.take (gm c (c.length-1))).sum<=231/\(c.drop (gm c (c.length-1))).sum<=231:=by
 have f:=na a;have b:=AP (c:=c) (most:=c.length-1) I I;generalize gm c (c.length-1)=i at b⊢;obtain⟨a1,a2,a3,a4⟩:=b;have hs:=xB c i;have ht:=p7 (l:=c) (i:=i-1) I;rw[Nat.sub_add_cancel a1]at ht;have hc:=a c[i-1] (cw _);have hd:=na (l:=c.drop i) λx hx=>a x (e6 hx);have d:=na (l:=c.take i) λx hx=>a x (fe hx);rw[c5]at hd;rw[cv,jn I]at d;have key:c.sum<=2*(c.take i).sum:=by
  rcases a4 with h|h
  .have:c.length-i=1:=by omega
   rw[this]at hd;omega
  .exact h
 refine⟨I,?_,I,I⟩;rcases dH (c.length-i) 2 with h|h
 .have:c.length-i=1:=by omega
  rw[this]at hd;omega
 .omega
theorem Fa{c:O Nat}(a:∀x∈c,x<=27)(h1:230<=c.sum)(e:c.sum<=332):
 2<=gm c (c.length-2)/\gm c (c.length-2)+3<=c.length/\(c.take (gm c (c.length-2))).sum<=229/\(c.drop (gm c (c.length-2)+1)).sum<=229:=by
 have f:=na a;have b:=AP (c:=c) (most:=c.length-2) I I;generalize gm c (c.length-2)=i at b⊢;obtain⟨a1,a2,a3,a4⟩:=b;have hs:=xB c (i+1);have ht:=p7 (l:=c) (i:=i-1) I;have hu:=p7 (l:=c) (i:=i) I;rw[Nat.sub_add_cancel a1]at ht;have hc:=a c[i-1] (cw _);have g:=a c[i] (cw _);have hd:=na (l:=c.drop (i+1)) λx hx=>a x (e6 hx);have d:=na (l:=c.take i) λx hx=>a x (fe hx);rw[c5]at hd;rw[cv,jn I]at d;have key:c.sum<=2*(c.take i).sum:=by
  rcases a4 with h|h
  .have:c.length-(i+1)=1:=by omega
   rw[this]at hd;omega
  .exact h
 refine⟨I,?_,I,I⟩;rcases dH (c.length-(i+1)) 2 with h|h
 .have:c.length-(i+1)<=1:=by omega
  have:27*(c.length-(i+1))<=27*1:=Nat.mul_le_mul_left _ this;omega
 .omega
end Go.Proofs.YtkdhdlfonmgheaaGreat
namespace Go.Proofs.YtkdhdlfonmgheaaGreat
variable {W:Below}{lo hi m:aq Key}{P Q:Nat->aq aB}
theorem gx.inv{kids p:O Nat}{L:O aJ}(h:gx W hi m [] kids p L):m=hi/\kids=[]/\p=[]/\L=[]:=by
 generalize e:([]:O Key)=K at h
 cases h with
 |nil=>exact⟨rfl,rfl,rfl,rfl⟩
 |more h=>simp at e
theorem fw.last{ks:O Key}{kids p:O Nat}{L:O aJ}(h:fw W lo m ks kids p L)(c:0<kids.length):∃ (s:Key) (a:aq Key) (br r:O Nat) (bf N:O aJ) (hs:0<ks.length),
 m=some s/\s=ks[ks.length-1]/\p=br++r/\L=bf++N/\W a (some s) (kids[kids.length-1]) r N/\fw W lo a (ks.take (ks.length-1)) (kids.take (kids.length-1)) br bf/\kids.length=ks.length:=by
 cases h with
 |nil=>simp at c
 | @more s ks kids p L h=>
  have d:=h.len;obtain⟨a,g,br,q,bt,bf,M,bB,rfl,rfl,h1,f,b⟩:=h.at (kids.length-1) I;rw[List.drop_of_length_le I]at b;obtain⟨rfl,_,rfl,rfl⟩:=b.inv;refine⟨s,a,br,q,bf,M,by simp,rfl,by simp,by simp,by simp,h1,?_,by simp;omega⟩;have e:(ks++ [s]).take ((ks++ [s]).length-1)=ks.take (kids.length-1):=by
   rw[d];simp
  rw[e];exact f
theorem df.at{h:Nat}{n:aB}{p:O Nat}{L:O aJ}(w:df P (h+2) n lo hi p L){k:Key}(o:fk lo hi k):∃ (f g:aq Key) (br q bt:O Nat) (bf M bB:O aJ) (C:dn n.keys k<n.kids.length),
 p=br++(q++bt)/\L=bf++(M++bB)/\fl P (h+1) f g n.kids[dn n.keys k] q M/\fk f g k/\(∀u,Loc k u->u L=bf++(u M++bB))/\n.kids.length=n.keys.length+1/\
 fw (fl P (h+1)) lo f (n.keys.take (dn n.keys k)) (n.kids.take (dn n.keys k)) br bf/\gx (fl P (h+1)) hi g (n.keys.drop (dn n.keys k)) (n.kids.drop (dn n.keys k+1)) bt bB:=by
 obtain⟨a,b,c,d,e⟩:=w;have x:=e.len;have D:=vv n.keys k;have hs:=e.sorted λ_ _ _ _ _ i=>i.in;have r:∀s∈n.keys,fk lo hi s:=λs h=>⟨λa y=>iH ((hs.2.2.2 s h).1 a y),(hs.2.2.2 s h).2⟩;obtain⟨f,g,br,q,bt,bf,M,bB,rfl,rfl,h1,l,m⟩:=e.at (dn n.keys k) I;have t:=l.E5 (k:=k) (λj z h=>E3 h z) o.1;have v:=m.E6 (k:=k) (λh=>E4 h) o.2;have A:(n.keys.take (dn n.keys k)).Pairwise bH:=hs.2.2.1.sublist (List.take_sublist _ _);have B:(n.keys.drop (dn n.keys k)).Pairwise bH:=hs.2.2.1.sublist (List.drop_sublist _ _);exact⟨f,g,br,q,bt,bf,M,bB,I,rfl,rfl,h1,⟨t,v⟩,λu hu=>hu _ _ _ (l.below (hi:=hi) (λ_ _ _ _ _ i=>i.in.2) A (λs h=>r s (fe h)) t) (m.E7 (lo:=lo) (λ_ _ _ _ _ i=>i.in.2) B (λs h=>r s (e6 h)) v),
  x,l,m⟩
theorem df.build{h:Nat}{d e:aq Key}{a kb ks:O Key}{b c kids br bt q:O Nat}{bf M bB:O aJ}(h1:fw (fl P (h+1)) lo d a b br bf)(i:gx (fl P (h+1)) hi e kb c bt bB)
 (hs:dE (fl Q (h+1)) d e ks kids q M) (g:∀x∈br++bt,P x=Q x) (j:∀s∈a++ks++kb,cB s) (hd:∀x∈b++kids++c,x<1600):
 df Q (h+2) ⟨false,a++ks++kb,[],b++kids++c⟩ lo hi (br++(q++bt)) (bf++(M++bB)):=by
 have au:fw (fl Q (h+1)) lo d a b br bf:=h1.lJ λ_ _ _ _ _ hs f=>f.agree λx hx=>g x (jC _ (hs x hx));have k:gx (fl Q (h+1)) hi e kb c bt bB:=i.lJ λ_ _ _ _ _ hs f=>f.agree λx hx=>g x (ie _ (hs x hx));refine⟨rfl,rfl,j,hd,?_⟩;show dE _ lo hi (a++ks++kb) (b++kids++c) _ _;rw[cD,cD];exact au.E2 (hs.post k)
end Go.Proofs.YtkdhdlfonmgheaaGreat
namespace Go.Proofs.YtkdhdlfonmgheaaGreat
variable {lo hi:aq Key}{P Q:Nat->aq aB}
theorem df.one{h x:Nat}{n:aB}{p:O Nat}{L:O aJ}(b:df P h n lo hi p L)(a:2<=n.keys.length)(hx:Q x=some n)(c:∀y∈p,P y=Q y):dE (fl Q h) lo hi [] [x] (x::p) L:=
 .one ⟨b.lay (λe=>by rw[e]at a;simp at a) hx c,n,hx,a⟩
theorem k6{n:aB}(h:n.leaf=true):cellsOf n=List.zipWith (λk v=>2+k.length+v.length) n.keys n.vals:=by unfold cellsOf;rw[h];rfl
theorem k7{n:aB}(h:n.leaf=false):cellsOf n=n.keys.map λk=>3+k.length:=by unfold cellsOf;rw[h];rfl
theorem xC{B:Nat}{f:Key->Key->Nat}:∀ {ks vs:O Key},(∀k∈ks,∀v∈vs,f k v<=B)->∀x∈List.zipWith f ks vs,x<=B
 | [],vs,_,x,hx=>by simp at hx
 |k::ks,[],_,x,hx=>by simp at hx
 |k::ks,v::vs,h,x,hx=>by
  rw[List.zipWith_cons_cons]at hx
  rcases cU.1 hx with rfl|hx
  .exact h k (by simp) v (by simp)
  .exact xC (λk a v b=>h k (by simp[a]) v (by simp[b])) x hx
def ck(n:aB):Nat:=gm (cellsOf n) (if n.leaf then n.keys.length-1 else n.keys.length-2)
theorem df.two{h x y:Nat}{n:aB}{p:O Nat}{L:O aJ}(b:df P h n lo hi p L)(h1:232<bI n)(r:n.leaf=true->bI n<=310)(s:n.leaf=false->bI n<=335):
 1<=ck n/\(if n.leaf then ck n<=n.keys.length-1/\1<=n.keys.length-1 else ck n<=n.keys.length-2/\1<=n.keys.length-2)/\bI (n.left (ck n))<=232/\bI (n.right (ck n))<=232/\
  ∃ (w:ck n<n.keys.length) (br bt:O Nat) (bf bB:O aJ),p=br++bt/\L=bf++bB/\cB n.keys[ck n]/\
   (Q x=some (n.left (ck n))->Q y=some (n.right (ck n))->(∀z∈p,P z=Q z)->dE (fl Q h) lo hi [n.keys[ck n]] [x,y] ((x::br)++(y::bt)) (bf++bB)):=by
 have main:∀ (i:Nat),2<=i->(H:i<n.keys.length)->2<=(n.left i).keys.length->2<=(n.right i).keys.length->∃ (w:i<n.keys.length) (br bt:O Nat) (bf bB:O aJ),p=br++bt/\L=bf++bB/\cB n.keys[i]/\
  (Q x=some (n.left i)->Q y=some (n.right i)->(∀z∈p,P z=Q z)->dE (fl Q h) lo hi [n.keys[i]] [x,y] ((x::br)++(y::bt)) (bf++bB)):=by
  intro i J t A B;obtain⟨br,bt,bf,bB,rfl,rfl,v1,C⟩:=b.xA (by omega:1<=i) t;have D:cB n.keys[i]:=by
   match h,b with
   |0,b=>exact b.elim
   |1,b=>exact b.1.ok _ (cw _)
   |h+2,b=>exact b.2.2.1 _ (cw _)
  refine⟨t,br,bt,bf,bB,rfl,rfl,D,λhx E u=>?_⟩;have s1:=v1.one A hx λz f=>u z (jC _ f);have s2:=C.one B E λz f=>u z (ie _ f);exact s1.app s2
 match h,b with
 |0,b=>exact b.elim
 |1,b=>
  have a:n.leaf=true:=b.1.leaf;have g:(cellsOf n).length=n.keys.length:=by rw[k6 a,List.length_zipWith,b.1.len,Nat.min_self]
  have j:∀c∈cellsOf n,c<=50:=by
   rw[k6 a];exact xC λk l v F=>by have:=(b.1.ok k l).2;have:=b.1.vals v F;omega
  have G:bI n=1+(cellsOf n).sum:=by unfold bI;rw[a];rfl
  have r:=r a;obtain⟨a1,a2,a3,a4⟩:=E_ j I I;have m:ck n=gm (cellsOf n) ((cellsOf n).length-1):=by unfold ck;rw[a,g];rfl
  rw[←m]at a1 a2 a3 a4;have d:n.left (ck n)=⟨true,n.keys.take (ck n),n.vals.take (ck n),[]⟩:=by unfold aB.left;rw[a];rfl
  have e:n.right (ck n)=⟨true,n.keys.drop (ck n),n.vals.drop (ck n),[]⟩:=by unfold aB.right;rw[a];rfl
  have o:cellsOf (n.left (ck n))=(cellsOf n).take (ck n):=by rw[d,k6 rfl,k6 a];exact List.take_zipWith.symm
  have q:cellsOf (n.right (ck n))=(cellsOf n).drop (ck n):=by rw[e,k6 rfl,k6 a];exact List.drop_zipWith.symm
  refine⟨I,by rw[a];exact⟨I,I⟩,?_,?_,main _ a1 I (by rw[d];show 2<=(n.keys.take _).length;rw[cv];omega) (by rw[e];show 2<=(n.keys.drop _).length;rw[c5];omega)⟩
  .unfold bI;rw[o,d];show 1+_<=_;omega
  .unfold bI;rw[q,e];show 1+_<=_;omega
 |h+2,b=>
  have a:n.leaf=false:=b.1;have g:(cellsOf n).length=n.keys.length:=by rw[k7 a,dL]
  have j:∀c∈cellsOf n,c<=27:=by
   rw[k7 a];intro c hc;obtain⟨k,l,rfl⟩:=dv.1 hc;have:=(b.2.2.1 k l).2;omega
  have G:bI n=3+(cellsOf n).sum:=by unfold bI;rw[a];rfl
  have s:=s a;obtain⟨a1,a2,a3,a4⟩:=Fa j I I;have m:ck n=gm (cellsOf n) ((cellsOf n).length-2):=by unfold ck;rw[a,g];rfl
  rw[←m]at a1 a2 a3 a4;have d:n.left (ck n)=⟨false,n.keys.take (ck n),[],n.kids.take (ck n+1)⟩:=by unfold aB.left;rw[a];rfl
  have e:n.right (ck n)=⟨false,n.keys.drop (ck n+1),[],n.kids.drop (ck n+1)⟩:=by unfold aB.right;rw[a];rfl
  have o:cellsOf (n.left (ck n))=(cellsOf n).take (ck n):=by rw[d,k7 rfl,k7 a];exact mN
  have q:cellsOf (n.right (ck n))=(cellsOf n).drop (ck n+1):=by rw[e,k7 rfl,k7 a];exact o8
  refine⟨I,by rw[a];exact⟨I,I⟩,?_,?_,main _ a1 I (by rw[d];show 2<=(n.keys.take _).length;rw[cv];omega) (by rw[e];show 2<=(n.keys.drop _).length;rw[c5];omega)⟩
  .unfold bI;rw[o,d];show 3+_<=_;omega
  .unfold bI;rw[q,e];show 3+_<=_;omega
end Go.Proofs.YtkdhdlfonmgheaaGreat
namespace Go.Proofs.YtkdhdlfonmgheaaGreat
variable {lo hi:aq Key}{P Q:Nat->aq aB}
theorem df.cells{h:Nat}{n:aB}{p:O Nat}{L:O aJ}(a:df P h n lo hi p L):(cellsOf n).length=n.keys.length/\∀c∈cellsOf n,c<=if n.leaf then 50 else 27:=by
 match h,a with
 |0,a=>exact a.elim
 |1,a=>
  have b:n.leaf=true:=a.1.leaf;rw[k6 b,b];exact⟨by rw[List.length_zipWith,a.1.len,Nat.min_self],xC λk d v e=>by have:=(a.1.ok k d).2;have:=a.1.vals v e;simp only[if_true];omega⟩
 |h+2,a=>
  have b:n.leaf=false:=a.1;rw[k7 b,b];refine⟨by rw[dL],λc hc=>?_⟩;obtain⟨k,d,rfl⟩:=dv.1 hc;have:=(a.2.2.1 k d).2;show 3+k.length<=27;omega
theorem df.xD{h:Nat}{n:aB}{p:O Nat}{L:O aJ}(b:df P h n lo hi p L)(hs:80<=bI n):2<=n.keys.length:=by
 obtain⟨h1,c⟩:=b.cells;have:=na c;rw[h1]at this;unfold bI at hs
 cases a:n.leaf with
 |true=>rw[a]at hs this;simp only[if_true]at hs this;omega
 |false=>rw[a]at hs this;simp only[fM,if_false]at hs this;omega
theorem Fb{a b:aB}{s:Key}(h:a.leaf=b.leaf)(f:a.leaf=true->a.vals.length=a.keys.length):bI (dU a s b)=if a.leaf then bI a+bI b-1 else bI a+bI b+s.length:=by
 cases c:a.leaf with
 |true=>
  have e:dU a s b=⟨true,a.keys++b.keys,a.vals++b.vals,[]⟩:=by unfold dU;rw[c];rfl
  have d:b.leaf=true:=by rw[←h,c]
  unfold bI;rw[e,k6 rfl,k6 c,k6 d,c,d];simp only[if_true];rw[o9 (f c).symm,lr];omega
 |false=>
  have e:dU a s b=⟨false,a.keys++s::b.keys,[],a.kids++b.kids⟩:=by unfold dU;rw[c];rfl
  have d:b.leaf=false:=by rw[←h,c]
  unfold bI;rw[e,k7 rfl,k7 c,k7 d,c,d];simp only[fM,if_false,fP,jm,lr,qQ];omega
def iJ(ks:O Key):Nat:=(ks.map λk=>3+k.length).sum
theorem vw(a b:O Key):iJ (a++b)=iJ a+iJ b:=by unfold iJ;rw[fP,lr]
theorem AQ{n:aB}(h:n.leaf=false):bI n=3+iJ n.keys:=by unfold bI iJ;rw[h,k7 h];rfl
theorem Fc(k:Key):iJ [k]=3+k.length:=by simp[iJ]
theorem xE{n:aB}{ks:O Key}{kids:O Nat}{fr j:Nat}(h:n.leaf=false)(a:ks.length<=1)(b:∀k∈ks,cB k)(c:fr<=j):
 bI ⟨false,n.keys.take fr++ks++n.keys.drop j,[],kids⟩<=bI n+27:=by
 rw[AQ h,AQ rfl];show 3+iJ (n.keys.take fr++ks++n.keys.drop j)<=_;rw[vw,vw];have h1:iJ ks<=27:=by
  match ks,a with
  | [],_=>simp[iJ]
  | [k],_=>rw[Fc];have:=(b k (by simp)).2;omega
 have d:iJ n.keys=iJ (n.keys.take fr)+iJ (n.keys.drop fr):=by rw[←vw,hF]
 have e:iJ (n.keys.drop fr)=iJ ((n.keys.drop fr).take (j-fr))+iJ (n.keys.drop j):=by
  rw[←vw]
  congr 1
  have:n.keys.drop j=(n.keys.drop fr).drop (j-fr):=by rw[qR];congr 1;omega
  rw[this,hF]
 omega
end Go.Proofs.YtkdhdlfonmgheaaGreat
namespace Go.Proofs.YtkdhdlfonmgheaaGreat
variable {lo hi:aq Key}{P Q:Nat->aq aB}
def mm(Q:Nat->aq aB)(n:aB)(ks:O Key)(kids:O Nat):Prop:=
 (bI n<=232/\∃x,ks=[]/\kids=[x]/\Q x=some n)\/
 (232<bI n/\∃ (x y:Nat) (a:ck n<n.keys.length),ks=[n.keys[ck n]]/\kids=[x,y]/\Q x=some (n.left (ck n))/\Q y=some (n.right (ck n)))
theorem df.fits{h:Nat}{n:aB}{p:O Nat}{L:O aJ}{ks:O Key}{kids:O Nat}(a:df P h n lo hi p L)(d:2<=n.keys.length)(e:n.leaf=true->bI n<=310)(f:n.leaf=false->bI n<=335)
 (hf:mm Q n ks kids) (b:∀x∈p,P x=Q x):∃c,dE (fl Q h) lo hi ks kids c L/\c.Perm (kids++p)/\(∀s∈ks,cB s)/\ks.length<=1:=by
 rcases hf with ⟨_,x,rfl,rfl,hx⟩|⟨hs,x,y,k,rfl,rfl,hx,g⟩
 .exact⟨x::p,a.one d hx b,List.Perm.refl _,by simp,by simp⟩
 .obtain⟨_,_,_,_,_,br,bt,bf,bB,rfl,rfl,i,j⟩:=a.two (Q:=Q) (x:=x) (y:=y) hs e f
  refine⟨_,j hx g b,?_,by simpa using i,by simp⟩;show((x::br)++(y::bt)).Perm ([x,y]++(br++bt));simp only[nC,iR];exact(mK).cons x
theorem Fe{h:Nat}{a c:aB}{f g:aq Key}{i:Nat}{br bt b:O Nat}{bf hT bB:O aJ}{ks:O Key}{kids:O Nat}(h0:a.leaf=false)(j:∀k∈a.keys,cB k)(l:∀x∈a.kids,x<1600)
 (q:fw (fl P (h+1)) lo f (a.keys.take i) (a.kids.take i) br bf) (r:gx (fl P (h+1)) hi g (a.keys.drop i) (a.kids.drop (i+1)) bt bB) (m:df P (h+1) c f g b hT) (h1:80<=bI c) (z:bI c<=282)
 (hf:mm Q c ks kids) (d:∀x∈br++(b++bt),P x=Q x) (t:∀x∈kids,x<1600):
 ∃n,df Q (h+2) (f_ a i (i+1) ks kids) lo hi n (bf++(hT++bB))/\n.Perm (kids++(br++(b++bt)))/\bI (f_ a i (i+1) ks kids)<=bI a+27/\a.keys.length<=(f_ a i (i+1) ks kids).keys.length:=by
 obtain⟨u,hs,v,o,w⟩:=m.fits (m.xD h1) (λ_=>I) (λ_=>I) hf λx hx=>d x (ie _ (jC _ hx));have y:=df.build q r hs (λx hx=>by
  rcases cR.1 hx with hx|hx
  .exact d x (jC _ hx)
  .exact d x (ie _ (ie _ hx)))
  (λs hs=>by
    rcases cR.1 hs with hs|hs
    .rcases cR.1 hs with hs|hs
     .exact j s (fe hs)
     .exact o s hs
    .exact j s (e6 hs))
  (λx hx=>by
    rcases cR.1 hx with hx|hx
    .rcases cR.1 hx with hx|hx
     .exact l x (fe hx)
     .exact t x hx
    .exact l x (e6 hx))
 have e:f_ a i (i+1) ks kids=⟨false,a.keys.take i++ks++a.keys.drop i,[],a.kids.take i++kids++a.kids.drop (i+1)⟩:=by unfold f_;rw[Nat.add_sub_cancel]
 rw[e];refine⟨_,y,?_,xE h0 w o (bo _),?_⟩
 .have au:(u++bt).Perm (kids++(b++bt)):=by
   rw[←cD];exact v.append_right _
  refine(List.Perm.append_left br au).trans ?_;have p:=(qS (l₁:=br) (l₂:=kids)).append_right (b++bt);rw[cD,cD]at p;exact p
 .show a.keys.length<=(a.keys.take i++ks++a.keys.drop i).length
  have:=congrArg List.length (hF i a.keys);simp only[cx]at this⊢;omega
end Go.Proofs.YtkdhdlfonmgheaaGreat
namespace Go.Proofs.YtkdhdlfonmgheaaGreat
variable {lo hi:aq Key}{P Q:Nat->aq aB}
theorem vx{a b:aB}{s:Key}:a.keys.length+b.keys.length<=(dU a s b).keys.length:=by
 unfold dU;split
 .show _<=(a.keys++b.keys).length
  rw[cx];omega
 .show _<=(a.keys++s::b.keys).length
  rw[cx,eU];omega
theorem AR{a b:aB}{s:Key}:(dU a s b).leaf=a.leaf:=by
 unfold dU
 cases h:a.leaf<;>simp
theorem vy{h:Nat}{a b:aB}{s:Key}{fa dK d f:aq Key}{pa g:O Nat}{i j:O aJ}(c:df P h a fa dK pa i)(k:df P h b d f g j)(hs:cB s)(h1:bI a+bI b<=311):
 ((dU a s b).leaf=true->bI (dU a s b)<=310)/\((dU a s b).leaf=false->bI (dU a s b)<=335):=by
 have l:a.leaf=b.leaf:=by rw[c.leaf,k.leaf]
 have m:a.leaf=true->a.vals.length=a.keys.length:=λh1=>by
  match h,c with
  |0,c=>exact c.elim
  |1,c=>exact c.1.len
  |h+2,c=>rw[c.1]at h1;cases h1
 rw[AR,Fb l m];have:=hs.2;constructor
 .intro e;rw[e];simp only[if_true];omega
 .intro e;rw[e];simp only[fM,if_false];omega
theorem Ff{h:Nat}{d g:aB}{u v:aq Key}{i:Nat}{br bt f:O Nat}{bf hT bB:O aJ}{k:Key}(h0:d.leaf=false)(w:∀k∈d.keys,cB k)(C:∀x∈d.kids,x<1600)(hlen:d.kids.length=d.keys.length+1)(S:∀x n,P x=some n->bI n<=232)
 (dK:1<=i) (ai:i<d.kids.length) (D:fk u v k)
 (T:fw (fl P (h+1)) lo u (d.keys.take i) (d.kids.take i) br bf) (U:gx (fl P (h+1)) hi v (d.keys.drop i) (d.kids.drop (i+1)) bt bB) (E:df P (h+1) g u v f hT) (h1:bI g<80):
 ∃ (o:aB) (y:O Nat) (F:i-1<d.kids.length) (aj:i-1<d.keys.length),P d.kids[i-1]=some o/\br.Perm (d.kids[i-1]::y)/\2<=o.keys.length/\
  ∀ (Q:Nat->aq aB) (ks:O Key) (kids:O Nat),mm Q (dU o d.keys[i-1] g) ks kids->(∀x∈y++(f++bt),P x=Q x)->(∀x∈kids,x<1600)->
   ∃G,df Q (h+2) (f_ d (i-1) (i+1) ks kids) lo hi G (bf++(hT++bB))/\G.Perm (kids++(y++(f++bt)))/\bI (f_ d (i-1) (i+1) ks kids)<=bI d+27/\d.keys.length<=(f_ d (i-1) (i+1) ks kids).keys.length+1:=by
 obtain⟨s,V,aL,r,aX,N,hs,rfl,z,rfl,rfl,⟨A,m,j,p⟩,H,ak⟩:=T.last (by rw[cv];omega);have W:(d.keys.take i).length=i:=by rw[cv];omega
 have X:(d.kids.take i).length=i:=by rw[cv];omega
 have z:s=d.keys[i-1]'I:=by
  rw[z,mO];congr 1;omega
 have Y:(d.kids.take i)[(d.kids.take i).length-1]'I=d.kids[i-1]'I:=by
  rw[mO];congr 1;omega
 rw[Y]at A j;obtain⟨o,q,t,rfl,_,J⟩:=A.kD;rw[t]at j;have p:2<=o.keys.length:=by rw[Option.some.inj j];exact p
 clear j;subst z;have B:=(show fl P (h+1) V (some (d.keys[i-1]'I)) (d.kids[i-1]'I) (d.kids[i-1]'I::q) N from⟨A,o,t,p⟩).in;obtain⟨x,hx⟩:=qP _ B.1;have K:=w _ (cw (l:=d.keys) (n:=i-1) I);have Z:=df.merge J E K (λc hc=>iH (j5 ((B.2.2 x hx).1 c hc) ((B.2.2 x hx).2 _ rfl))) (λc hc=>iH (j5 (D.1 _ rfl) (D.2 c hc)));have L:=vy J E K (by have:=S _ _ t;omega);have al:=vx (a:=o) (b:=g) (s:=d.keys[i-1]'I);refine⟨o,aL++q,I,I,t,mK,p,λQ ks kids hf M aa=>?_⟩;obtain⟨ab,ac,ad,R,ae⟩:=Z.fits I L.1 L.2 hf λx hx=>M x (by
  rcases cR.1 hx with hx|hx
  .exact jC _ (ie _ hx)
  .exact ie _ (jC _ hx))
 have af:(d.keys.take i).take ((d.keys.take i).length-1)=d.keys.take (i-1):=by rw[W,qT];congr 1;omega
 have ag:(d.kids.take i).take ((d.kids.take i).length-1)=d.kids.take (i-1):=by rw[X,qT];congr 1;omega
 rw[af,ag]at H;have F:=df.build H U ac (λx hx=>M x (by
  rcases cR.1 hx with hx|hx
  .exact jC _ (jC _ hx)
  .exact ie _ (ie _ hx)))
  (λs hs=>by
    rcases cR.1 hs with hs|hs
    .rcases cR.1 hs with hs|hs
     .exact w s (fe hs)
     .exact R s hs
    .exact w s (e6 hs))
  (λx hx=>by
    rcases cR.1 hx with hx|hx
    .rcases cR.1 hx with hx|hx
     .exact C x (fe hx)
     .exact aa x hx
    .exact C x (e6 hx))
 have e:f_ d (i-1) (i+1) ks kids=⟨false,d.keys.take (i-1)++ks++d.keys.drop i,[],d.kids.take (i-1)++kids++d.kids.drop (i+1)⟩:=by unfold f_;rw[Nat.add_sub_cancel]
 rw[e];refine⟨_,by simpa[cD] using F,?_,xE h0 ae R I,?_⟩
 .have au:(ab++bt).Perm (kids++(q++(f++bt))):=by
   have:=ad.append_right bt;simpa[cD] using this
  refine(List.Perm.append_left aL au).trans ?_;have ah:=(qS (l₁:=aL) (l₂:=kids)).append_right (q++(f++bt));simpa[cD] using ah
 .show d.keys.length<=(d.keys.take (i-1)++ks++d.keys.drop i).length+1
  simp only[cx,cv,c5];omega
end Go.Proofs.YtkdhdlfonmgheaaGreat
namespace Go.Proofs.YtkdhdlfonmgheaaGreat
variable {lo hi:aq Key}{P Q:Nat->aq aB}
theorem Fg{h:Nat}{d j:aB}{w y:aq Key}{i:Nat}{br bt f:O Nat}{bf hT bB:O aJ}{k:Key}(h0:d.leaf=false)(z:∀k∈d.keys,cB k)(E:∀x∈d.kids,x<1600)(hlen:d.kids.length=d.keys.length+1)(U:∀x n,P x=some n->bI n<=232)
 (p:i+1<d.kids.length) (F:fk w y k)
 (V:fw (fl P (h+1)) lo w (d.keys.take i) (d.kids.take i) br bf) (W:gx (fl P (h+1)) hi y (d.keys.drop i) (d.kids.drop (i+1)) bt bB) (G:df P (h+1) j w y f hT) (h1:bI j<80):
 ∃ (o:aB) (A:O Nat) (H:i+1<d.kids.length) (ag:i<d.keys.length),P d.kids[i+1]=some o/\bt.Perm (d.kids[i+1]::A)/\2<=o.keys.length/\
  ∀ (Q:Nat->aq aB) (ks:O Key) (kids:O Nat),mm Q (dU j d.keys[i] o) ks kids->(∀x∈br++(f++A),P x=Q x)->(∀x∈kids,x<1600)->
   ∃J,df Q (h+2) (f_ d i (i+2) ks kids) lo hi J (bf++(hT++bB))/\J.Perm (kids++(br++(f++A)))/\bI (f_ d i (i+2) ks kids)<=bI d+27/\d.keys.length<=(f_ d i (i+2) ks kids).keys.length+1:=by
 obtain⟨s,X,r,g,N,ah,hs,rfl,B,rfl,rfl,⟨C,m,q,t⟩,K⟩:=W.head (by rw[c5];omega);have B:s=d.keys[i]'I:=by rw[B,nF];rfl
 have Y:(d.kids.drop (i+1))[0]'(by rw[c5];omega)=d.kids[i+1]'p:=by rw[nF]
 rw[Y]at C q;obtain⟨o,u,v,rfl,_,L⟩:=C.kD;rw[v]at q;have t:2<=o.keys.length:=by rw[Option.some.inj q];exact t
 clear q;subst B;have D:=(show fl P (h+1) (some (d.keys[i]'I)) X (d.kids[i+1]'p) (d.kids[i+1]'p::u) N from⟨C,o,v,t⟩).in;obtain⟨x,hx⟩:=qP _ D.1;have M:=z _ (cw (l:=d.keys) (n:=i) I);have Z:=df.merge G L M (λc hc=>iH (j5 (F.1 c hc) (F.2 _ rfl))) (λc hc=>iH (j5 ((D.2.2 x hx).1 _ rfl) ((D.2.2 x hx).2 c hc)));have R:=vy G L M (by have:=U _ _ v;omega);have ai:=vx (a:=j) (b:=o) (s:=d.keys[i]'I);refine⟨o,u++g,p,I,v,List.Perm.refl _,t,λQ ks kids hf S aa=>?_⟩;obtain⟨ab,ac,ad,T,ae⟩:=Z.fits I R.1 R.2 hf λx hx=>S x (by
  rcases cR.1 hx with hx|hx
  .exact ie _ (jC _ hx)
  .exact ie _ (ie _ (jC _ hx)))
 rw[qR,qR]at K;have H:=df.build V K ac (λx hx=>S x (by
  rcases cR.1 hx with hx|hx
  .exact jC _ hx
  .exact ie _ (ie _ (ie _ hx))))
  (λs hs=>by
    rcases cR.1 hs with hs|hs
    .rcases cR.1 hs with hs|hs
     .exact z s (fe hs)
     .exact T s hs
    .exact z s (e6 hs))
  (λx hx=>by
    rcases cR.1 hx with hx|hx
    .rcases cR.1 hx with hx|hx
     .exact E x (fe hx)
     .exact aa x hx
    .exact E x (e6 hx))
 have e:f_ d i (i+2) ks kids=⟨false,d.keys.take i++ks++d.keys.drop (i+1),[],d.kids.take i++kids++d.kids.drop (i+1+1)⟩:=rfl;rw[e];refine⟨_,by simpa[cD] using H,?_,xE h0 ae T I,?_⟩
 .have au:(ab++g).Perm (kids++(f++(u++g))):=by
   have:=ad.append_right g;simpa[cD] using this
  refine(List.Perm.append_left br au).trans ?_;have af:=(qS (l₁:=br) (l₂:=kids)).append_right (f++(u++g));simpa[cD] using af
 .show d.keys.length<=(d.keys.take i++ks++d.keys.drop (i+1)).length+1
  simp only[cx,cv,c5];omega
end Go.Proofs.YtkdhdlfonmgheaaGreat
namespace Go.Proofs.YtkdhdlfonmgheaaGreat
variable {lo hi:aq Key}{P:Nat->aq aB}
def cN(ks:O Key)(k:Key):Nat:=ks.findIdx λs=>decide (¬bH s k)
theorem p8(ks:O Key)(k:Key):cN ks k<=ks.length:=List.findIdx_le_length
theorem oz{ks:O Key}{k:Key}{j:Nat}(h:j<cN ks k)(a:j<ks.length):bH ks[j] k:=by
 have:=List.not_of_lt_findIdx h;simpa using this
theorem p9{ks:O Key}{k:Key}(hs:ks.Pairwise bH){j:Nat}(h:cN ks k<=j)(c:j<ks.length):ek k ks[j]:=by
 have h1:cN ks k<ks.length:=by omega
 have a:ek k ks[cN ks k]:=by
  have:=List.findIdx_getElem (p:=λs=>decide (¬bH s k)) (xs:=ks) (w:=h1);exact AK.1 (b2 this)
 rcases dH (cN ks k) j with b|b
 .exact iH (j5 a (mP.1 hs _ _ h1 c b))
 .have:cN ks k=j:=by omega
  subst this;exact a
theorem Fh{α:Type}{f:α->aj}{L:O α}{i:Nat}(h1:∀x∈L.take i,f x=true)(a:∀x∈L.drop i,f x=false):L.filter f=L.take i:=by
 conv=>lhs;rw[←hF i L]
 rw[kV,jW.2 h1,lY.2 (λx hx=>by rw[a x hx];decide),fQ]
theorem AS{α:Type}{f:α->aj}{L:O α}{i:Nat}(h1:∀x∈L.take i,f x=false)(a:∀x∈L.drop i,f x=true):L.filter f=L.drop i:=by
 conv=>lhs;rw[←hF i L]
 rw[kV,lY.2 (λx hx=>by rw[h1 x hx];decide),jW.2 a,iR]
theorem xF{ks vs:O Key}{i:Nat}{x:aJ}(h:x∈(ks.zip vs).take i):∃ (j:Nat) (a:j<ks.length),j<i/\x.1=ks[j]:=by
 obtain⟨j,a,rfl⟩:=List.mem_take_iff_getElem.1 h;have h1:j<(ks.zip vs).length:=by omega
 rw[mM]at h1;exact⟨j,I,I,by rw[sD]⟩
theorem xG{ks vs:O Key}{i:Nat}{x:aJ}(h:x∈(ks.zip vs).drop i):∃ (j:Nat) (a:j<ks.length),i<=j/\x.1=ks[j]:=by
 obtain⟨j,a,rfl⟩:=List.mem_drop_iff_getElem.1 h;have h1:i+j<(ks.zip vs).length:=by omega
 rw[mM]at h1;exact⟨i+j,I,I,by rw[sD]⟩
theorem Fi{ks vs:O Key}{k v:Key}(hs:ks.Pairwise bH):eO (ks.zip vs) k v=(ks.zip vs).take (cN ks k)++(k,v)::(ks.zip vs).drop (if ks[cN ks k]? =some k then cN ks k+1 else cN ks k):=by
 unfold eO;rw[Fh (f:=λp:aJ=>decide (bH p.1 k)) (i:=cN ks k) (λx hx=>by
  obtain⟨j,a,h1,e⟩:=xF hx;rw[e];exact dw (oz h1 a)) (λx hx=>by
  obtain⟨j,a,h1,e⟩:=xG hx;rw[e];exact hG (p9 hs h1 a))]
 congr 2
 split
 .rename_i he
  obtain⟨aH,he⟩:=ib.1 he;refine AS (λx hx=>?_) (λx hx=>?_)
  .obtain⟨j,a,h1,e⟩:=xF hx
   rw[e];refine hG ?_;rcases dH j (cN ks k) with b|b
   .exact j4 (oz b a)
   .have:j=cN ks k:=by omega
    subst this;rw[he];exact ml _
  .obtain⟨j,a,h1,e⟩:=xG hx
   rw[e];refine dw ?_;have:=mP.1 hs _ j aH a I;rwa[he]at this
 .rename_i he
  refine AS (λx hx=>?_) (λx hx=>?_)
  .obtain⟨j,a,h1,e⟩:=xF hx
   rw[e];exact hG (j4 (oz h1 a))
  .obtain⟨j,a,h1,e⟩:=xG hx
   rw[e];refine dw ?_;rcases ow.1 (p9 hs h1 a) with b|b
   .exact b
   .have aH:cN ks k<ks.length:=by omega
    rcases dH (cN ks k) j with c|c
    .exact j5 (p9 hs (bo _) aH) (mP.1 hs _ _ aH a c)
    .have:j=cN ks k:=by omega
     subst this;exact absurd ((c_ aH).trans (congrArg some b.symm)) he
end Go.Proofs.YtkdhdlfonmgheaaGreat
namespace Go.Proofs.YtkdhdlfonmgheaaGreat
open Go a_ Go.Proofs.Tryz
theorem vz{n:Nat}(h:n<256):((UInt8.ofNat n).toNat:Nat)=n:=by
 simp[iT h]
theorem AT{src dst:TypeId}{w:J}{s:U}{ns:O Int}(hs:Tryz.prog.underlying src=some (.slice 5))(hd:Tryz.prog.underlying dst=some .string)(h:Src 1 w s (ns.map (.int .u8))):
 Sem.run ai (convert src dst s) w=.ok (.string (S (ns.map λn=>UInt8.ofNat n.toNat))) w:=by
 rw[D9 hs (by kernel_rfl) hd h,Eb]
def tl(f:Nat->Int)(k m:Nat):O UInt8:=(List.range (m-k)).map λj=>UInt8.ofNat (f (k+j)).toNat
theorem xH{w:J}{A:ae}:∀ (vs:O aa) (i:Nat),(∀j v,vs[j]? =some v->w.cell? (A.add (i+j))=some v)->cL w A i vs.length=some vs
 | [],_,_=>rfl
 |v::vs,i,h=>by
  have h0:=h 0 v rfl
  have a:=xH vs (i+1) (λj u b=>by rw[show i+1+j=i+(j+1) from I];exact h (j+1) u (by simpa using b))
  rw[kk]at h0
  simp[cL,h0,a]
def aF(l:O UInt8):O aa:=l.map λb=>Value.int .u8 (b.toNat:Int)
theorem dV(l:O UInt8):(aF l).length=l.length:=by simp[aF]
theorem oA{l:O UInt8}{i:Nat}(h:i<l.length):(aF l)[i]? =some (.int .u8 ((l[i].toNat:Nat):Int)):=by simp[aF,h]
def p_(c:Nat):aq Nat:=if 48<=c/\c<=57 then some (c-48) else if 97<=c|||32/\c|||32<=122 then some ((c|||32)-97+10) else none
theorem Fj(c:UInt8):((c.toNat:Int).toNat.toUInt8)=c:=by simp
theorem k8(l:O UInt8):∀v∈aF l,Plain v:=by
 intro v a;obtain⟨n,_,rfl⟩:=dv.1 a;trivial
theorem oB(a b:O UInt8):aF (a++b)=aF a++aF b:=by simp[aF]
theorem take_succ{α:Type}(ls:O α){i:Nat}(h:i<ls.length):ls.take (i+1)=ls.take i++ [ls[i]]:=by
 rw[iy h]
structure AU where
 Jj:aj
 b:O UInt8
 h:b.length=16
 deriving DecidableEq
def Var(w:J)(b:Nat)(vs:O aa)(T:TypeId):Prop:=bq w b vs.toArray T
section
variable {w w':J}{b:Nat}{vs us:O aa}{T:TypeId}
theorem Var.new(w:J)(vs:O aa)(T:TypeId):Var (w.alloc (.cells vs.toArray T)) w.heap.size vs T:=bq.new _ _ _
theorem Var.rd(h:Var w b vs T){n:Nat}(a:vs.length=n):cL w b 0 n=some vs:=by
 have:=pz h n 0 0 (by simp[a]);rw[this];simp[←a]
theorem Var.Fk(h:Var w b vs T){o n:Nat}(a:o+n<=vs.length):cL w ⟨b,o,none⟩ 0 n=some ((vs.drop o).take n):=by
 have:=pz h n o 0 (by simpa using a);rw[this];simp
theorem Var.cell(h:Var w b vs T){i:Nat}:w.cell? ⟨b,i,none⟩=vs[i]? :=by
 rw[bq.cell h];simp
theorem Var.ext(h:Var w b vs T)(hx:Ext w w'):Var w' b vs T:=bq.ext h hx
theorem Var.ad{W:Nat->Prop}(h:Var w b vs T)(hx:ab W w w')(a:¬W b):Var w' b vs T:=bq.ad h hx a
theorem Var.drew(h:Var w b vs T):Var w.drew b vs T:=bq.drew h
theorem Var.lt(h:Var w b vs T):b<w.heap.size:=bq.lt h
theorem Var.cc(h:Var w b vs T)(a:us.length=vs.length)(c:∀v∈us,Plain v):bA w b us:=bq.cc h 0 us (by simp[a]) c
theorem Var.put(h:Var w b vs T)(a:us.length=vs.length):Var (setCells w b 0 us) b us T:=by
 have:=bq.tc us 0 0 h;simp only[kk]at this;have e:(gH vs.toArray 0 us)=us.toArray:=by
  have h1:=te us vs.toArray 0 (by simp[a]);rw[cA,a,List.take_zero,iR,dI (by rw[Array.length_toList,iX];simp)]at h1;apply Array.toList_inj.1;rw[h1]
 rwa[e]at this
end
theorem aS{w:J}{K:J->Prop}(h:K w):al w K:=h
theorem bh{w:J}{c:Array aa}{vs:O aa}{T:TypeId}(hc:c=vs.toArray){K:J->Prop}(h:∀w',Var w' w.heap.size vs T->Ext w w'->w'.heap.size=w.heap.size+1->K w'):al (w.alloc (.cells c T)) K:=by
 subst hc;exact h _ (Var.new _ _ _) (ab.alloc (.refl _ _) _) (by simp)
theorem cy{w:J}{b:Nat}{vs us l:O aa}{T:TypeId}(a:Var w b vs T)(c:us.length=vs.length)(d:l=us){K:J->Prop}(h:∀w',Var w' b us T->ab (λq=>q=b) w w'->w'.heap.size=w.heap.size->K w'):al (setCells w b 0 l) K:=by
 subst d;refine h _ (a.put c) (ab.k1 (.refl _ _) l 0) ?_;have:∀ (vs:O aa) (i:Nat) (w:J),(setCells w b i vs).heap.size=w.heap.size:=by
  intro vs
  induction vs with
  |nil=>intro i w;rfl
  |cons v vs e=>intro i w;rw[setCells,e];simp[World.setCell]
 exact this _ _ _
theorem Ext.cu{w0 w w':J}{b:Nat}(h:Ext w0 w)(hc:ab (λq=>q=b) w w')(a:w0.heap.size<=b):Ext w0 w':=Ext.dd h hc (λk c=>by subst c;exact a)
theorem Var.AV{w:J}{b o n c:Nat}{vs:O aa}{T:TypeId}{l:O UInt8}(h:Var w b vs T)(e:o+n<=vs.length)(d:(vs.drop o).take n=aF l):Src 1 w ⟨some ⟨b,o,none⟩,n,c⟩ (aF l):=by
 have hlen:n=l.length:=by
  have:=congrArg List.length d;rw[cv,c5,dV]at this;omega
 refine⟨by rw[dV];show _=n*1;omega,(λh=>by cases h),λa f=>?_⟩
 cases f;show cL w ⟨b,o,none⟩ 0 (n*1)=_;rw[fz,h.Fk e,d]
theorem oC:hM ai 48 5 1 1:=⟨by kernel_rfl⟩
theorem Fl{me cM ty:TypeId}{w:J}{b o dl nY:Nat}{s:U}{l:O UInt8}(hu:Tryz.prog.underlying me=some (.slice 5))(hs:Src 1 w s (aF l))(e:s.len<=dl)(a:bA w ⟨b,o,none⟩ (aF l)):
 Sem.run ai (Builtin.copy_ #[me,cM] ty #[.slice (some ⟨b,o,none⟩) dl nY,s]) w=.ok s.len (setCells w ⟨b,o,none⟩ 0 (aF l)):=by
 have f:Nat.min s.len dl=s.len:=jn e;have c:=iC (P:=ai) (w:=w) (t:=5) (d:=.int .u8) (by kernel_rfl);have hc:Tryz.prog.cellsOf 5=1:=by kernel_rfl
 rw[hc]at c;have hf:=pA (P:=ai) hs;have g:=ph (P:=ai) (A:=⟨b,o,none⟩) (aF l) 0 w (by simpa using a.1) a.2;simp[Builtin.copy_,dm hu,Builtin.lenOf,c,f,hf,g];rfl
def aT(c k:Nat):Nat:=c/2^(8-k)*2^(8-k)
def kb(n i:Nat):Nat:=min (n-8*i) 8
theorem Src.sub{w:J}{s:U}{vs:O aa}{lo hi:Nat}(h:Src 1 w s vs)(hc:s.len<=s.cap)(h1:lo<=hi)(l:hi<=s.len):Src 1 w ⟨aO s.a 1 lo s.cap,hi-lo,s.cap-lo⟩ ((vs.drop lo).take (hi-lo)):=by
 have m:vs.length=s.len:=by have:=h.len;omega
 refine⟨by simp;omega,λc=>?_,λa b=>?_⟩
 .have f:s.a=none:=by
   unfold aO at c;split at c
   .exact c
   .simpa using c
  simp[h.nil f]
 .show cL w a 0 ((hi-lo)*1)=_
  by_cases e:hi=lo
  .rw[show hi-lo=0 from I];simp[cL]
  .have ar:∃A,s.a=some A/\a=A.add lo:=by
    unfold aO at b;rw[if_neg I]at b
    cases hs:s.a with
    |none=>rw[hs]at b;cases b
    |some A=>rw[hs]at b;exact⟨A,rfl,by simpa using b.symm⟩
   obtain⟨A,ar,rfl⟩:=ar;have g:=h.rd A ar;have:=xH (w:=w) (A:=A.add lo) ((vs.drop lo).take (hi-lo)) 0 (λj v d=>by
    rw[add_add];have i:j<hi-lo:=by have:=(ib.1 d).1;simp at this;omega
    rw[nG i,nE]at d;have:=pB g d;simpa using this)
   have k:((vs.drop lo).take (hi-lo)).length=hi-lo:=by simp;omega
   rw[k]at this;rw[fz];exact this
def fH(l:O UInt8):Nat:=l.foldl (λn c=>n*256+c.toNat) 0
theorem AW(l m:O UInt8):fH (l++m)=m.foldl (λn c=>n*256+c.toNat) (fH l):=by simp[fH,List.foldl_append]
theorem xI(l:O UInt8)(c:UInt8):fH (l++ [c])=fH l*256+c.toNat:=by rw[AW];rfl
theorem nc:∀ (k:Nat) (l:O UInt8),l.length=k->fH l<256^k:=by
 intro k
 induction k with
 |zero=>intro l h;rw[kl.1 h];simp[fH]
 |succ k a=>
  intro l h;obtain⟨m,c,rfl⟩:∃m c,l=m++ [c]:=by
   rcases List.eq_nil_or_concat l with rfl|⟨m,c,b⟩
   .simp at h
   .exact⟨m,c,by rw[b,List.concat_eq_append]⟩
  rw[xI,Nat.pow_succ];have:=a m (by simpa using h);have:=lZ c;omega
theorem Fm{a b:Nat}(c:a<2^64)(d:b<2^64):mT .u64 (a:Int) (b:Int)=((a|||b:Nat):Int):=by
 have e:BitVec.ofInt 64 (a:Int)=BitVec.ofNat 64 a:=by simp
 have f:BitVec.ofInt 64 (b:Int)=BitVec.ofNat 64 b:=by simp
 unfold mT;show IntKind.u64.wrap (((BitVec.ofInt 64 (a:Int)|||BitVec.ofInt 64 (b:Int)).toNat:Nat):Int)=_;rw[e,f,BitVec.toNat_or,BitVec.toNat_ofNat,BitVec.toNat_ofNat,iT c,iT d];have:a|||b<2^64:=Nat.or_lt_two_pow c d;have:a|||b<18446744073709551616:=this;rw[gN I I]
theorem Fo(n c:Nat)(hc:c<256):n*256|||c=n*256+c:=by
 have:=Nat.shiftLeft_add_eq_or_of_lt (i:=8) (b:=c) (by simpa using hc) n;rw[Nat.shiftLeft_eq]at this;exact this.symm
theorem k4{s:U}{l:O UInt8}{w:J}(hs:Src 1 w s (aF l))(hc:s.len<=s.cap){a k:Nat}(u:1<=k/\k<=8)(x:a+k<=l.length)(y:l.length<=1000000000000):
 aP ai 156 #[s,a,k] w (λv w'=>v=.tuple #[.int .u64 ((fH ((l.drop a).take k):Nat):Int),true]/\w=w'):=by
 refine okF (af.k4 s a k) ay.k4 func156 ?_;(delta af.k4 jt ak aK aI bX av;dsimp only);have z:s.len=l.length:=by have:=hs.len;rw[dV]at this;omega
 refine Calls.mono (af.EM s a k w (λv w'=>v=.tuple #[.slice (aO s.a 1 a s.cap) k (s.cap-a),true]/\w=w') ?_) ?_
 .delta af.k5 ak av
  rw[bu (n:=(s.len:Int)-(a:Int)) I I,bu (n:=(a:Int)+(k:Int)) I I];refine⟨λh=>?_,λ_=>⟨⟨I,I⟩,⟨I,I⟩,?_,rfl⟩⟩
  .simp only[jl,cS]at h;omega
  .rw[show Int.toNat ((a:Int)+(k:Int))-Int.toNat (a:Int)=k from I];rfl
 rintro _ _ ⟨_,rfl,rfl,rfl⟩;refine⟨⟨aO s.a 1 a s.cap,k,s.cap-a⟩,true,rfl,cm (λb w'=>b=false/\w=w') (λq g=>⟨λh=>by simp at h,λ_=>?_⟩) ?_⟩
 .refine Calls.mono (af.AE k w (λv w'=>v=true/\w=w') ⟨?_,rfl⟩) ?_
  .have h1:decide ((k:Int)>=1)=true:=dw I
   have d:decide ((k:Int)<=8)=true:=dw I;rw[h1,d];rfl
  .rintro _ _ ⟨_,rfl,rfl,rfl⟩
   exact⟨_,rfl,g _ _ ⟨rfl,rfl⟩⟩
 rintro _ _ ⟨rfl,rfl⟩;have c:=Src.sub hs hc (lo:=a) (hi:=a+k) I I;rw[show a+k-a=k from I]at c;have c:Src 1 w ⟨aO s.a 1 a s.cap,k,s.cap-a⟩ (aF ((l.drop a).take k)):=by
  simpa[aF,o8,mN] using c
 obtain⟨m,f⟩:∃m,m=(l.drop a).take k:=⟨_,rfl⟩;have B:m.length=k:=by rw[f];simp;omega
 rw[←f]at c⊢;refine⟨λh=>by simp at h,λ_=>⟨λn i w'=>w=w'/\∃j:Nat,i=j/\j<=k/\n=((fH (m.take j):Nat):Int),λ_ i _=>((k:Int)-i).toNat,⟨rfl,0,rfl,cE _,rfl⟩,?_⟩⟩;rintro _ _ _ ⟨rfl,j,rfl,C,rfl⟩;refine⟨λaH=>?_,λe=>?_⟩
 .have aH:((j:Int)<(k:Int)):=b2 aH
  have aH:j<k:=by omega
  obtain⟨A,ar,o,p⟩:=c.at (oA (l:=m) (i:=j) I);have h1:=nc j (m.take j) (by simp;omega);have d:256^j<=256^7:=sE I I;have d:256^j<=72057594037927936:=d;have r:(m[j]).toNat<256:=lZ _;have t:((fH (m.take j):Nat):Int)*2^(min (Int.toNat 8) 64)=((fH (m.take j)*256:Nat):Int):=by
   show((fH (m.take j):Nat):Int)*256=_;omega
  refine⟨A,ar,o,_,p,by decide,?_⟩;rw[t,gN (n:=((fH (m.take j)*256:Nat):Int)) I I,gN (n:=((m[j].toNat:Nat):Int)) I I,Fm (by show _<18446744073709551616;omega) (by show _<18446744073709551616;omega),Fo _ _ r,bu (n:=(j:Int)+1) I I];refine⟨⟨rfl,j+1,I,I,?_⟩,?_⟩
  .rw[take_succ m I,xI]
  .show((k:Int)-((j:Int)+1)).toNat<((k:Int)-(j:Int)).toNat
   omega
 .have e:¬((j:Int)<(k:Int)):=cr e
  have e:j=k:=by omega
  subst e;exact⟨by rw[dI I],rfl⟩
theorem xJ{w:J}{s:U}{l:O UInt8}(h:Src 1 w s (aF l))(i:l.length<=1000000):
 aP ai 135 #[s] w (λv w'=>∃b:U,v=b/\a8 1 5 w' b (aF l)/\Ext w w'/\∀k,az b k->w.heap.size<=k):=by
 have j:s.len=l.length:=by have:=h.len;rw[dV]at this;omega
 refine okF (af.n2 s) ay.n2 func135 ?_;delta af.n2 ak Y;refine⟨λc=>?_,λ_=>?_⟩
 .have c:s.a=none:=by simpa using c
  rw[h.nil c];exact⟨⟨none,0,0⟩,rfl,a8.none _ _ _,.refl _ _,λk d=>(gg k d).elim⟩
 .obtain⟨b,w',h1,e,m,f,g,_⟩:=oC.clone (cH:=48) h (k8 l) I
  exact aS ⟨b,w',h1,b,rfl,e,f,g⟩
theorem Fp{w:J}{s:U}{l:O UInt8}(c:UInt8)(b:a8 1 5 w s (aF l))(h:l.length<=1000000):
 ∃ (a:U) (w':J),Sem.run ai (Builtin.append_ #[48,48] 48 #[s,.slice (some w.heap.size) 1 1]) (w.alloc (.cells #[.int .u8 (c.toNat:Int)] 5))=.ok a w'/\
  a8 1 5 w' a (aF (l++ [c]))/\ab (az s) w w'/\(∀k,az a k->az s k\/w.heap.size<=k):=by
 have i:s.len=l.length:=by have:=b.1;rw[dV]at this;omega
 obtain⟨a,w',h1,d,j,e,f⟩:=oC.push (cH:=48) (w:=w) (s:=s) (xs:=[.int .u8 (c.toNat:Int)]) rfl b (λv g=>by rw[fi.1 g];trivial) I;exact⟨a,w',h1,by rw[oB];exact d,e,f⟩
def b4(n k:Nat):O UInt8:=(List.range k).map λj=>UInt8.ofNat (n/256^(k-1-j)%256)
theorem e2(n k:Nat):(b4 n k).length=k:=by simp[b4]
theorem ik{s:U}{l:O UInt8}{w:J}(hs:Src 1 w s (aF l))(D:l.length<=100000){n k:Nat}(g:n<2^64)(E:1<=k/\k<=8):
 aP ai 126 #[s,.int .u64 n,k] w (λv w'=>∃a:U,v=a/\a8 1 5 w' a (aF (l++b4 n k))/\Ext w w'/\∀q,az a q->w.heap.size<=q):=by
 have g:n<18446744073709551616:=g;refine okF (af.ik s n k) ay.ik func126 ?_;(delta af.ik ba aK ak av Y;dsimp only);refine(xJ hs I).use ?_;rintro _ w1 ⟨s1,rfl,m,o,p⟩;refine⟨s1,rfl,Calls.mono (af.AE k w1 (λv w'=>v=true/\w1=w') ⟨?_,rfl⟩) ?_⟩
 .have h1:decide ((k:Int)>=1)=true:=dw I
  have b:decide ((k:Int)<=8)=true:=dw I;rw[h1,b];rfl
 rintro _ _ ⟨_,rfl,rfl,rfl⟩;rw[bu (n:=(k:Int)-1) I I];refine⟨_,rfl,λh=>by simp at h,λ_=>⟨λt i w'=>∃j:Nat,i=(k:Int)-1-j/\j<=k/\Ext w w'/\(∀q,az t q->w.heap.size<=q)/\a8 1 5 w' t (aF (l++(b4 n k).take j)),λ_ i _=>(i+1).toNat,⟨0,I,I,o,p,by simpa using m⟩,?_⟩⟩;rintro t _ ah ⟨j,rfl,F,c,d,e⟩;refine⟨λaH=>?_,λf=>?_⟩
 .have aH:j<k:=by have:=b2 aH;omega
  rw[bu (n:=8*((k:Int)-1-j)) I I,bu (n:=(k:Int)-1-j-1) I I];have r:IntKind.wrap .u8 (Int.fdiv (n:Int) (2^(min (Int.toNat (8*((k:Int)-1-j))) 64)))=((((UInt8.ofNat (n/256^(k-1-j)%256)).toNat:Nat)):Int):=by
   rw[vz (g4 _ I),show min (Int.toNat (8*((k:Int)-1-j))) 64=8*(k-1-j) from I,D_];have u:((2:Int)^(8*(k-1-j)))=((256^(k-1-j):Nat):Int):=by
    rw[Int.pow_mul];simp
   rw[u,Int.fdiv_eq_ediv_of_nonneg _ (Int.natCast_nonneg _)];generalize 256^(k-1-j)=z;rfl
  rw[r];obtain⟨x,y,h1,b,A,B⟩:=Fp (UInt8.ofNat (n/256^(k-1-j)%256)) e (by simp[b4];omega);refine⟨I,aS ⟨x,y,h1,⟨j+1,I,I,Ext.dd c A d,λq C=>?_,?_⟩,?_⟩⟩
  .rcases B q C with h|h
   .exact d q h
   .exact ey c.size h
  .rw[take_succ _ (by rw[e2];exact aH),←cD]
   have:(b4 n k)[j]'(by rw[e2];exact aH)=UInt8.ofNat (n/256^(k-1-j)%256):=by simp[b4]
   rw[this];exact b
  .show((k:Int)-1-j-1+1).toNat<((k:Int)-1-j+1).toNat
   omega
 .have f:j=k:=by have:=cr f;omega
  subst f;rw[dI (by rw[e2];exact bo _)]at e;exact⟨t,rfl,e,c,d⟩
theorem Fq(n k:Nat):b4 n (k+1)=b4 (n/256) k++ [UInt8.ofNat (n%256)]:=by
 unfold b4;rw[List.range_succ,fP]
 congr 1
 .apply qU
  intro j a;have:=jB.1 a;rw[show k+1-1-j=(k-1-j)+1 from I,Nat.pow_succ,Nat.mul_comm,←Nat.div_div_eq_div_mul]
 .simp
theorem xK:∀ (k n:Nat),n<256^k->fH (b4 n k)=n
 |0,n,h=>by
  have:n=0:=by simpa using h
  subst this;rfl
 |k+1,n,h=>by
  rw[Nat.pow_succ]at h
  rw[Fq,xI,xK k (n/256) I,vz (g4 _ I)]
  omega
def cF(n:aB):Prop:=gP n\/vu n
def nd(l:Key):O UInt8:=UInt8.ofNat l.length::l
def gO(n:aB)(i:Nat):O UInt8:=nd (n.keys.getD i [])++if n.leaf then nd (n.vals.getD i []) else b4 (n.kids.getD (i+1) 0) 2
def hV(n:aB)(i m:Nat):O UInt8:=((List.range' i m).map (gO n)).flatten
theorem Fs(n:aB)(i m:Nat):hV n i (m+1)=gO n i++hV n (i+1) m:=rfl
theorem xL(n:aB)(m:Nat):hV n 0 (m+1)=hV n 0 m++gO n m:=by
 unfold hV;rw[List.range'_concat,fP,sF];simp
def preB(n:aB):O UInt8:=UInt8.ofNat n.keys.length::if n.leaf then [] else b4 (n.kids.getD 0 0) 2
def ju(n:aB):O UInt8:=preB n++hV n 0 n.keys.length
theorem nf(l:Key):(nd l).length=l.length+1:=rfl
theorem cF.keys{n:aB}(h:cF n):vt n:=by
 rcases h with h|h
 .exact h.tovt
 .exact h.tovt
theorem cF.vals{n:aB}(h:cF n):∀v∈n.vals,v.length<=24:=by
 rcases h with h|h
 .exact h.vals
 .rw[h.vals];simp
theorem cF.kids{n:aB}(h:cF n):∀k∈n.kids,k<1600:=by
 rcases h with h|h
 .rw[h.kids];simp
 .exact h.kids
theorem vA{α:Type}{l:O α}{i:Nat}{d:α}(h:i<l.length):l.getD i d∈l:=by
 rw[eX,c_ h];exact cw h
theorem xM{n:aB}(h:cF n){i:Nat}(hi:i<n.keys.length):(cellsOf n)[i]? =some (gO n i).length:=by
 unfold cellsOf gO;rcases h with h|h
 .rw[h.leaf]
  simp only[if_true];have a:i<n.vals.length:=by rw[h.len];exact hi
  rw[List.getElem?_zipWith,c_ hi,c_ a];simp[eX,c_ hi,c_ a,nf];omega
 .rw[h.inner]
  simp only[fM,if_false];rw[kn,c_ hi];simp[eX,c_ hi,nf,e2];omega
theorem qa{n:aB}(h:cF n):(cellsOf n).length=n.keys.length:=by
 unfold cellsOf;rcases h with h|h
 .rw[h.leaf];simp[h.len]
 .rw[h.inner];simp
theorem xN{n:aB}(h:cF n):∀m,m<=n.keys.length->(hV n 0 m).length=((cellsOf n).take m).sum
 |0,_=>by simp[hV]
 |m+1,b=>by
  have a:m<(cellsOf n).length:=by rw[qa h];omega
  have h1:=xM h (i:=m) I
  rw[c_ a]at h1
  have h1:(cellsOf n)[m]=(gO n m).length:=Option.some.inj h1
  rw[xL,cx,xN h m I,p7 a,h1]
theorem xO{n:aB}(h:cF n):(ju n).length=bI n:=by
 have e:((cellsOf n).take n.keys.length).sum=(cellsOf n).sum:=by rw[dI (by rw[qa h];exact bo _)]
 unfold ju bI preB;rw[cx,xN h _ (bo _),e]
 cases n.leaf<;>simp[e2]
theorem vB{n:aB}(h:cF n):2*n.keys.length<=bI n:=by
 have h1:∀l:O Nat,(∀x∈l,2<=x)->2*l.length<=l.sum:=by
  intro l
  induction l with
  |nil=>simp
  |cons a l c=>
   intro h;have:=h a (by simp);have:=c λx hx=>h x (by simp[hx]);simp only[eU,qQ];omega
 have d:=h1 (cellsOf n) (by
  intro x hx;obtain⟨i,hi,rfl⟩:=eY hx;have e:i<n.keys.length:=by rwa[←qa h]
  have b:=xM h e;rw[c_ hi]at b;rw[Option.some.inj b];unfold gO;rw[cx,nf];split
  .rw[nf];omega
  .rw[e2];omega)
 rw[qa h]at d;unfold bI;omega
abbrev Rd:=O UInt8×aj
def hW(r:Rd)(k:Nat):O UInt8×Rd:=if r.2=false\/r.1.length<k then ([],(r.1,false)) else (r.1.take k,(r.1.drop k,true))
def rdNum(r:Rd)(k:Nat):Nat×Rd:=(if (hW r k).1.length=k then fH (hW r k).1 else 0,(hW r k).2)
def jK(r:Rd):O UInt8×Rd:=hW (rdNum r 1).2 (rdNum r 1).1
def oD(s:aB×Rd):aB×Rd:=
 let t:=jK s.2
 if s.1.leaf then (⟨s.1.leaf,s.1.keys++ [t.1],s.1.vals++ [(jK t.2).1],s.1.kids⟩,(jK t.2).2)
 else (⟨s.1.leaf,s.1.keys++ [t.1],s.1.vals,s.1.kids++ [(rdNum t.2 2).1]⟩,(rdNum t.2 2).2)
def im(s:aB×Rd):Nat->aB×Rd
 |0=>s
 |i+1=>oD (im s i)
def mn(leaf:aj)(r:Rd):aB×Rd:=if leaf then (⟨true,[],[],[]⟩,r) else (⟨false,[],[],[(rdNum r 2).1]⟩,(rdNum r 2).2)
def iK(leaf:aj)(b:O UInt8):aB×Rd:=im (mn leaf (rdNum (b,true) 1).2) (rdNum (b,true) 1).1
def lK(leaf:aj)(b:O UInt8)(n:aB):Prop:=cF n/\n.leaf=leaf/\bI n<=232/\ju n=b
theorem AX(a b:O UInt8):hW (a++b,true) a.length=(a,(b,true)):=by
 unfold hW;rw[if_neg (by simp)];simp
theorem vC{n k:Nat}(b:O UInt8)(h:n<256^k):rdNum (b4 n k++b,true) k=(n,(b,true)):=by
 unfold rdNum;have:=AX (b4 n k) b;rw[e2]at this;rw[this];simp[e2,xK k n h]
theorem AY(n:Nat)(h:n<256): [UInt8.ofNat n]=b4 n 1:=by
 simp[b4,iT h]
theorem xP(l:Key)(b:O UInt8)(h:l.length<256):jK (nd l++b,true)=(l,(b,true)):=by
 have e:nd l++b=b4 l.length 1++(l++b):=by
  rw[←AY _ h];rfl
 unfold jK;rw[e,vC _ (by simpa using h)];exact AX l b
theorem Fu{n:aB}(h:cF n){i:Nat}(hi:i<n.keys.length)(b:O UInt8):
 oD (⟨n.leaf,n.keys.take i,n.vals.take i,if n.leaf then [] else n.kids.take (i+1)⟩,(gO n i++b,true))=
  (⟨n.leaf,n.keys.take (i+1),n.vals.take (i+1),if n.leaf then [] else n.kids.take (i+2)⟩,(b,true)):=by
 have e:n.keys.getD i []∈n.keys:=vA hi;have f:=(h.keys.ok _ e).2;have d:n.keys.take (i+1)=n.keys.take i++ [n.keys.getD i []]:=by
  rw[take_succ _ hi,eX,c_ hi];rfl
 unfold oD;unfold gO;rcases h with h|h
 .have a:i<n.vals.length:=by rw[h.len];exact hi
  have c:n.vals.getD i []∈n.vals:=vA a;have ev:n.vals.take (i+1)=n.vals.take i++ [n.vals.getD i []]:=by
   rw[take_succ _ a,eX,c_ a];rfl
  simp only[h.leaf,if_true];rw[cD,xP _ _ I];simp only;rw[xP _ _ (by have:=h.vals _ c;omega),d,ev]
 .have a:i+1<n.kids.length:=by rw[h.len];omega
  have c:n.kids.getD (i+1) 0∈n.kids:=vA a;have ev:n.kids.take (i+2)=n.kids.take (i+1)++ [n.kids.getD (i+1) 0]:=by
   rw[take_succ _ a,eX,c_ a];rfl
  simp only[h.inner,fM,if_false,h.vals];rw[cD,xP _ _ I];simp only;rw[vC _ (by have:=h.kids _ c;show _<65536;omega),d,ev];simp
theorem AZ{n:aB}(h:cF n):∀i,i<=n.keys.length->
 im (⟨n.leaf,[],[],if n.leaf then [] else n.kids.take 1⟩,(hV n 0 n.keys.length,true)) i=(⟨n.leaf,n.keys.take i,n.vals.take i,if n.leaf then [] else n.kids.take (i+1)⟩,(hV n i (n.keys.length-i),true))
 |0,_=>by simp[im]
 |i+1,hi=>by
  rw[im,AZ h i I,show n.keys.length-i=n.keys.length-(i+1)+1 from I,Fs]
  exact Fu h I _
theorem xQ{n:aB}(h:cF n)(g:bI n<=232):iK n.leaf (ju n)=(n,([],true)):=by
 have i:=vB h;unfold iK;have b:rdNum (ju n,true) 1=(n.keys.length,((if n.leaf then [] else b4 (n.kids.getD 0 0) 2)++hV n 0 n.keys.length,true)):=by
  have:ju n=b4 n.keys.length 1++((if n.leaf then [] else b4 (n.kids.getD 0 0) 2)++hV n 0 n.keys.length):=by
   rw[←AY _ I];rfl
  rw[this,vC _ (by show _<256;omega)]
 rw[b];simp only;have c:mn n.leaf ((if n.leaf then [] else b4 (n.kids.getD 0 0) 2)++hV n 0 n.keys.length,true)=(⟨n.leaf,[],[],if n.leaf then [] else n.kids.take 1⟩,(hV n 0 n.keys.length,true)):=by
  unfold mn;rcases h with h|h
  .simp[h.leaf]
  .have hd:0<n.kids.length:=by rw[h.len];omega
   have d:n.kids.getD 0 0∈n.kids:=vA hd;have:=h.kids _ d;simp only[h.inner,fM,if_false];rw[vC _ (by show _<65536;omega)]
   cases e:n.kids with
   |nil=>rw[e]at hd;simp at hd
   |cons a l=>simp
 rw[c,AZ h _ (bo _)];have f:hV n n.keys.length (n.keys.length-n.keys.length)=[]:=by rw[lW];rfl
 rw[f,dI (bo _)];rcases h with h|h
 .rw[dI (by rw[h.len];exact bo _)]
  have:=h.kids;have:=h.leaf
  cases n
  simp_all
 .rw[dI (by rw[h.vals];simp),dI (by rw[h.len];exact bo _)]
  have:=h.inner
  cases n
  simp_all
theorem lK.uniq{leaf:aj}{b:O UInt8}{n m:aB}(h1:lK leaf b n)(d:lK leaf b m):n=m:=by
 obtain⟨a1,a2,a3,a4⟩:=h1;obtain⟨b9,bQ,e,f⟩:=d;have a:=xQ a1 a3;have c:=xQ b9 e;rw[a2,a4]at a;rw[bQ,f,a]at c;exact congrArg Prod.fst c
def ng(n:Nat):Nat:=if n%2=1 then (n/2)^^^0x82f63b78 else n/2
def qb:Nat->Nat->Nat
 |0,n=>n
 |k+1,n=>ng (qb k n)
def A0(n:Nat)(c:UInt8):Nat:=qb 8 (n^^^c.toNat)
def ja(n:Nat)(l:O UInt8):Nat:=l.foldl A0 n
def gy(l:O UInt8):Nat:=4294967295-ja 4294967295 l
theorem Fv{n:Nat}(h:n<4294967296):ng n<4294967296:=by
 unfold ng;split
 .exact qV (n:=32) (by show _<4294967296;omega) (by decide)
 .omega
theorem rV{n:Nat}(h:n<4294967296):∀k,qb k n<4294967296
 |0=>h
 |k+1=>Fv (rV h k)
theorem rW{n:Nat}(h:n<4294967296)(c:UInt8):A0 n c<4294967296:=
 rV (qV (n:=32) h (by have:=lZ c;show _<4294967296;omega)) 8
theorem oE:∀ (l:O UInt8) {n:Nat},n<4294967296->ja n l<4294967296
 | [],_,h=>h
 |c::l,_,h=>oE l (rW h c)
theorem vD(n:Nat)(a b:O UInt8):ja n (a++b)=ja (ja n a) b:=by simp[ja,List.foldl_append]
theorem xR(l:O UInt8):gy l<4294967296:=by unfold gy;omega
structure hX where
 kind:Nat
 gen:Nat
 body:O UInt8
 deriving DecidableEq
structure nh(p:hX):Prop where
 bx:1<=p.kind
 bG:p.kind<=4
 gen:p.gen<18446744073709551616
 body:p.body.length<=232
def gz:O UInt8:=[83,84,78,67]
def fb(no:Nat)(p:hX):O UInt8:=gz++([1,UInt8.ofNat p.kind]++(b4 p.body.length 2++(b4 no 4++b4 p.gen 8)))
def fg(p:hX):O UInt8:=p.body++List.replicate (232-p.body.length) 0
def eA(no:Nat)(p:hX):O UInt8:=fb no p++(b4 (gy (fb no p++fg p)) 4++fg p)
theorem ni(no:Nat)(p:hX):(fb no p).length=20:=by simp[fb,gz,e2]
theorem vE{p:hX}(h:nh p):(fg p).length=232:=by
 have:=h.body;simp[fg];omega
theorem rX{p:hX}(no:Nat)(h:nh p):(eA no p).length=256:=by simp[eA,ni,e2,vE h]
def sumOf(l:O UInt8):Nat:=gy (l.take 20++l.drop 24)
def cZ(l:O UInt8)(a k:Nat):Nat:=fH ((l.drop a).take k)
def da(no:Int)(l:O UInt8):Except Int hX:=
 if l.length≠256 then .error 9
 else if l.take 4≠gz then .error 4
 else if l.getD 4 0≠1 then .error 12
 else if sumOf l≠cZ l 20 4 then .error 5
 else if¬(1<=(l.getD 5 0).toNat/\(l.getD 5 0).toNat<=4)\/232<cZ l 6 2\/(l.drop (24+cZ l 6 2)).all (λc=>c==0)=false then .error 4
 else if¬(0<=no/\no<1600)\/(cZ l 8 4:Int)≠no then .error 1
 else .ok ⟨(l.getD 5 0).toNat,cZ l 12 8,(l.drop 24).take (cZ l 6 2)⟩
theorem drop_left'{α:Type}{a b:O α}{n:Nat}(h:a.length=n):(a++b).drop n=b:=by subst h;exact List.drop_left
theorem mo{α:Type}{a b:O α}{n:Nat}(h:a.length=n):(a++b).take n=a:=by subst h;exact List.take_left
theorem rY{a b:O UInt8}{n k m:Nat}(c:a.length=m)(h:n<256^k):cZ (a++(b4 n k++b)) m k=n:=by
 unfold cZ;rw[drop_left' c,mo (e2 n k),xK k n h]
theorem vF{no:Nat}{p:hX}(o:no<1600)(h:nh p):da no (eA no p)=.ok p:=by
 have q:=h.body;have e:=h.bx;have f:=h.bG;have hg:=h.gen;have ht:=vE h;have b:=ni no p;have hc:=xR (fb no p++fg p);have bS:cZ (eA no p) 20 4=gy (fb no p++fg p):=rY b (by show _<4294967296;exact hc);have a:eA no p=(gz++ [1,UInt8.ofNat p.kind])++(b4 p.body.length 2++((b4 no 4++b4 p.gen 8)++(b4 (gy (fb no p++fg p)) 4++fg p))):=by
  show fb no p++_=_;rw[show fb no p=(gz++ [1,UInt8.ofNat p.kind])++(b4 p.body.length 2++(b4 no 4++b4 p.gen 8)) by simp[fb]];simp only[cD]
 have bp:cZ (eA no p) 6 2=p.body.length:=by rw[a];exact rY rfl (by show _<65536;omega)
 have g:eA no p=((gz++ [1,UInt8.ofNat p.kind])++b4 p.body.length 2)++(b4 no 4++(b4 p.gen 8++(b4 (gy (fb no p++fg p)) 4++fg p))):=by rw[a];simp only[cD]
 have i:cZ (eA no p) 8 4=no:=by rw[g];exact rY (by simp[gz,e2]) (by show _<4294967296;omega)
 have j:eA no p=((gz++ [1,UInt8.ofNat p.kind])++(b4 p.body.length 2++b4 no 4))++(b4 p.gen 8++(b4 (gy (fb no p++fg p)) 4++fg p)):=by rw[a];simp only[cD]
 have k:cZ (eA no p) 12 8=p.gen:=by rw[j];exact rY (by simp[gz,e2]) (by show _<18446744073709551616;exact hg)
 have l:eA no p=(fb no p++b4 (gy (fb no p++fg p)) 4)++fg p:=by simp[eA]
 have m:(fb no p++b4 (gy (fb no p++fg p)) 4).length=24:=by simp[b,e2]
 have d24:(eA no p).drop 24=fg p:=by rw[l];exact drop_left' m
 have t4:(eA no p).take 4=gz:=by rw[a];rfl
 have n:(eA no p).getD 4 0=1:=by rw[a];rfl
 have d:((eA no p).getD 5 0).toNat=p.kind:=by rw[a];show(UInt8.ofNat p.kind).toNat=p.kind;exact vz I
 have s:sumOf (eA no p)=gy (fb no p++fg p):=by
  unfold sumOf;rw[d24,show(eA no p).take 20=fb no p from mo b]
 unfold da;rw[if_neg (by rw[rX no h];simp),if_neg (by rw[t4];simp),if_neg (by rw[n];simp),if_neg (by rw[s,bS];simp),if_neg (by
  rw[d,bp];rintro(h1|h1|h1)
  .exact h1 ⟨e,f⟩
  .omega
  .rw[List.all_eq_false]at h1
   obtain⟨c,hc,h1⟩:=h1;rw[←qR,d24]at hc;unfold fg at hc;rw[List.drop_left]at hc;exact h1 (by rw[o_ hc];rfl)),if_neg (by rw[i];rintro(h1|h1)<;>omega),d,bp,k,d24]
 have:(fg p).take p.body.length=p.body:=by unfold fg;exact List.take_left
 rw[this]
def hY(s:U):aa:=s
abbrev gQ(w:J)(s:U):Prop:=∀k,az s k->w.heap.size<=k
theorem gQ.mono{w w':J}{s:U}(h:gQ w' s)(hx:w.heap.size<=w'.heap.size):gQ w s:=λk a=>ey hx (h k a)
theorem len8{w:J}{s:U}{l:O UInt8}(h:Src 1 w s (aF l)):s.len=l.length:=by have:=h.len;rw[dV]at this;omega
theorem mq{w:J}{T:TypeId}{s:U}{l:O UInt8}(h:a8 1 T w s (aF l)):s.len=l.length:=by have:=h.1;rw[dV]at this;omega
theorem nj{w:J}{s:U}{l:O UInt8}{lo hi:Nat}(h:Src 1 w s (aF l))(hc:s.len<=s.cap)(h1:lo<=hi)(b:hi<=s.len):Src 1 w ⟨aO s.a 1 lo s.cap,hi-lo,s.cap-lo⟩ (aF ((l.drop lo).take (hi-lo))):=by
 have:=Src.sub h hc h1 b;simpa[aF,o8,mN] using this
def eJ(ps:O (U×O UInt8)):O UInt8:=(ps.map (·.2)).flatten
theorem A1(a:O (U×O UInt8))(p:U×O UInt8):eJ (a++ [p])=eJ a++p.2:=by simp[eJ]
theorem Fw(ps:O (U×O UInt8))(j:Nat):(eJ (ps.take j)).length<=(eJ ps).length:=by
 have h:ps=ps.take j++ps.drop j:=(hF j ps).symm;have:(eJ ps).length=(eJ (ps.take j)).length+(eJ (ps.drop j)).length:=by
  conv=>lhs;rw[h]
  unfold eJ;rw[fP,sF,cx]
 omega
theorem A2(ps:O (U×O UInt8)){j:Nat}(a:j<ps.length):(ps[j]).2.length<=(eJ ps).length:=by
 have h:ps=ps.take j++ps[j]::ps.drop (j+1):=by rw[←iQ a,hF]
 have:(eJ ps).length=(eJ (ps.take j)).length+((ps[j]).2.length+(eJ (ps.drop (j+1))).length):=by
  conv=>lhs;rw[h]
  unfold eJ;rw[fP,sF,cx,jm,sG,cx]
 omega
theorem vG{s:U}{w:J}(ps:O (U×O UInt8))(hs:Src 1 w s (ps.map λp=>hY p.1))(f:∀p∈ps,Src 1 w p.1 (aF p.2))(u:(eJ ps).length<=100000)(x:ps.length<=100000):
 aP ai 92 #[s] w (λv w'=>∃a:U,v=a/\a8 1 5 w' a (aF (eJ ps))/\Ext w w'/\gQ w a):=by
 refine okF (af.uv s) ay.uv func92 ?_;(delta af.uv ak aI ag av;dsimp only);have y:s.len=ps.length:=by have:=hs.len;rw[dL]at this;omega
 refine⟨λa i w'=>∃j:Nat,i=j/\j<=ps.length/\a8 1 5 w' a (aF (eJ (ps.take j)))/\Ext w w'/\gQ w a,λ_ i _=>((ps.length:Int)-i).toNat,⟨0,rfl,cE _,a8.none 1 5 _,.refl _ _,λk c=>(gg k c).elim⟩,?_⟩;rintro a _ w1 ⟨j,rfl,z,b,hx,hf⟩;refine⟨λaH=>?_,λd=>?_⟩
 .have aH:j<ps.length:=by have:=b2 aH;omega
  obtain⟨A,ar,g,l⟩:=(hs.ext hx).at (i:=j) (v:=hY (ps[j]).1) (by simp[aH]);have e:=(f _ (cw aH)).ext hx;have h1:=A2 ps aH;have B:=Fw ps j;have m:=len8 e;have o:=mq b;obtain⟨s2,ah,au,q,C,r,t⟩:=oC.append (cH:=48) e b (k8 _) (by rw[m,o];omega);rw[bu (n:=(j:Int)+1) I I];refine⟨A,ar,g,(ps[j]).1,l,s2,ah,au,⟨j+1,I,I,?_,Ext.dd hx r hf,λk c=>?_⟩,?_⟩
  .rw[take_succ _ aH]
   rw[A1,oB];exact q
  .rcases t k c with h|h
   .exact hf k h
   .exact ey hx.size h
  .show((ps.length:Int)-((j:Int)+1)).toNat<((ps.length:Int)-(j:Int)).toNat
   omega
 .have d:j=ps.length:=by have:=cr d;omega
  subst d;rw[iz]at b;exact⟨a,rfl,b,hx,hf⟩
theorem Fx{s:U}{l:O UInt8}{w:J}(hs:Src 1 w s (aF l))(hc:s.len<=s.cap){a k:Nat}(b:a+k<=l.length)(c:l.length<=1000000000000):
 aP ai 215 #[s,a,k] w (λv w'=>v=.tuple #[.slice (aO s.a 1 a s.cap) k (s.cap-a),true]/\w=w'):=by
 have d:=len8 hs;refine okF (af.k5 s a k) ay.k5 func215 ?_;delta af.k5 ak av;rw[bu (n:=(s.len:Int)-(a:Int)) I I,bu (n:=(a:Int)+(k:Int)) I I];refine⟨λh=>?_,λ_=>⟨⟨I,I⟩,⟨I,I⟩,?_,rfl⟩⟩
 .simp only[jl,cS]at h;omega
 .rw[show Int.toNat ((a:Int)+(k:Int))-Int.toNat (a:Int)=k from I];rfl
theorem Fy{s:U}{l:O UInt8}{w:J}(hs:Src 1 w s (aF l)){a k:Nat}(b:l.length<a+k)(c:a<=l.length)(d:l.length<=1000000000000)(f:k<=1000000000000):
 aP ai 215 #[s,a,k] w (λv w'=>v=.tuple #[(),false]/\w=w'):=by
 have g:=len8 hs;refine okF (af.k5 s a k) ay.k5 func215 ?_;delta af.k5 ak av;rw[bu (n:=(s.len:Int)-(a:Int)) I I,bu (n:=(a:Int)+(k:Int)) I I];have e:(((decide ((a:Int)<0))||(decide ((k:Int)<0)))||(decide ((a:Int)>(s.len:Int)))||(decide ((k:Int)>((s.len:Int)-(a:Int)))))=true:=by
  simp only[jl,cS];omega
 exact⟨λ_=>⟨rfl,rfl⟩,λh=>(by rw[e]at h;cases h)⟩
theorem pW{s:U}{l:O UInt8}{w:J}(hs:Src 1 w s (aF l))(hc:s.len<=s.cap){a k:Nat}(d:a+k<=l.length)(f:l.length<=100000):
 aP ai 229 #[s,a,k] w (λv w'=>∃b:U,v=.tuple #[b,true]/\a8 1 5 w' b (aF ((l.drop a).take k))/\Ext w w'/\gQ w b):=by
 have g:=len8 hs;refine okF (af.pW s a k) ay.pW func229 ?_;(delta af.pW jt ba;dsimp only);refine(Fx hs hc d I).use ?_;rintro _ _ ⟨rfl,rfl⟩;have c:=nj hs hc (lo:=a) (hi:=a+k) I I;rw[show a+k-a=k from I]at c;refine⟨⟨aO s.a 1 a s.cap,k,s.cap-a⟩,true,rfl,(xJ c (by simp;omega)).use ?_⟩;rintro _ w1 ⟨b,rfl,e,hx,hf⟩;exact⟨b,rfl,b,rfl,e,hx,hf⟩
theorem Fz{s:U}{l:O UInt8}{w:J}(hs:Src 1 w s (aF l)){k:Nat}(d:k<=8)(e:l.length<k):
 aP ai 156 #[s,.int .i64 (0:Nat),k] w (λv w'=>v=.tuple #[.int .u64 0,false]/\w=w'):=by
 refine okF (af.k4 s (0:Nat) k) ay.k4 func156 ?_;(delta af.k4 jt ak aK aI bX av;dsimp only);refine(Fy hs (a:=0) I I I I).use ?_;rintro _ _ ⟨rfl,rfl⟩;refine⟨⟨none,0,0⟩,false,rfl,cm (λb w'=>b=true/\w=w') (λq c=>⟨λ_=>c _ _ ⟨rfl,rfl⟩,λh=>by simp at h⟩) ?_⟩;rintro _ _ ⟨rfl,rfl⟩;exact⟨λ_=>⟨rfl,rfl⟩,λh=>by simp at h⟩
theorem vH{a:Nat}(b:a<4294967296):(BitVec.ofInt 32 (a:Int))=BitVec.ofNat 32 a:=by simp
theorem vI{a b:Nat}(c:a<4294967296)(d:b<4294967296):kq .u32 (a:Int) (b:Int)=((a^^^b:Nat):Int):=by
 unfold kq;show IntKind.u32.wrap (((BitVec.ofInt 32 (a:Int)^^^BitVec.ofInt 32 (b:Int)).toNat:Nat):Int)=_;rw[vH c,vH d,BitVec.toNat_xor,BitVec.toNat_ofNat,BitVec.toNat_ofNat,iT (by simpa using c),iT (by simpa using d)];have:a^^^b<4294967296:=qV (n:=32) c d;rw[w_ I I]
theorem FA{a b:Nat}(c:a<4294967296)(d:b<4294967296):j1 .u32 (a:Int) (b:Int)=((a&&&b:Nat):Int):=by
 unfold j1;show IntKind.u32.wrap (((BitVec.ofInt 32 (a:Int)&&&BitVec.ofInt 32 (b:Int)).toNat:Nat):Int)=_;rw[vH c,vH d,BitVec.toNat_and,BitVec.toNat_ofNat,BitVec.toNat_ofNat,iT (by simpa using c),iT (by simpa using d)];have:a&&&b<=a:=Nat.and_le_left;rw[w_ I I]
theorem FB{n:Nat}(b:n<4294967296):
 kq .u32 (Int.fdiv (n:Int) (2^(min (Int.toNat 1) 32))) (j1 .u32 2197175160 (IntKind.wrap .u32 (0-(j1 .u32 (n:Int) 1))))=((ng n:Nat):Int):=by
 have c:j1 .u32 (n:Int) 1=((n%2:Nat):Int):=by
  have:=FA b (show 1<4294967296 from I);rw[Nat.and_one_is_mod]at this;exact this
 have d:Int.fdiv (n:Int) (2^(min (Int.toNat 1) 32))=((n/2:Nat):Int):=by
  rw[Int.fdiv_eq_ediv_of_nonneg _ (by decide)];rfl
 rw[c,d];unfold ng;rcases Nat.mod_two_eq_zero_or_one n with h|h
 .rw[h,if_neg I]
  have a:j1 .u32 2197175160 (IntKind.wrap .u32 (0-((0:Nat):Int)))=((0:Nat):Int):=by decide+kernel
  rw[a,vI I I,Nat.xor_zero]
 .rw[h,if_pos rfl]
  have a:j1 .u32 2197175160 (IntKind.wrap .u32 (0-((1:Nat):Int)))=((2197175160:Nat):Int):=by decide+kernel
  rw[a,vI I I]
theorem pY{s:U}{l:O UInt8}{w:J}{n:Nat}(hs:Src 1 w s (aF l))(e:n<4294967296)(h:l.length<=1000000):
 aP ai 238 #[.int .u32 n,s] w (λv w'=>v=.int .u32 (ja n l:Nat)/\w=w'):=by
 have o:=len8 hs;refine okF (af.pY n s) ay.pY func238 ?_;(delta af.pY ak aI bX av;dsimp only);refine⟨λm i w'=>∃j:Nat,i=j/\j<=l.length/\m=((ja n (l.take j):Nat):Int)/\w=w',λ_ i _=>((l.length:Int)-i).toNat,⟨0,rfl,cE _,rfl,rfl⟩,?_⟩;rintro _ _ _ ⟨j,rfl,p,rfl,rfl⟩;refine⟨λaH=>?_,λa=>?_⟩
 .have aH:j<l.length:=by have:=b2 aH;omega
  obtain⟨A,ar,f,g⟩:=hs.at (oA aH);have c:=oE (l.take j) e;have hc:=lZ (l[j]);have hx:=qV (n:=32) c (show(l[j]).toNat<4294967296 from I);refine⟨A,ar,f,_,g,λm i w'=>∃k:Nat,i=k/\k<=8/\m=((qb k (ja n (l.take j)^^^(l[j]).toNat):Nat):Int)/\w=w',λ_ i _=>((8:Int)-i).toNat,⟨0,rfl,I,?_,rfl⟩,?_⟩
  .rw[w_ I I,vI c I];rfl
  rintro _ _ _ ⟨k,rfl,q,rfl,rfl⟩;refine⟨λd=>?_,λb=>?_⟩
  .have d:k<8:=by have:=b2 d;omega
   rw[FB (rV hx k),bu (n:=(k:Int)+1) I I];refine⟨by decide,⟨k+1,I,I,rfl,rfl⟩,?_⟩;show((8:Int)-((k:Int)+1)).toNat<((8:Int)-(k:Int)).toNat;omega
  .have b:k=8:=by have:=cr b;omega
   subst b;rw[bu (n:=(j:Int)+1) I I];refine⟨⟨j+1,I,I,?_,rfl⟩,?_⟩
   .rw[take_succ _ aH,vD];rfl
   .show((l.length:Int)-((j:Int)+1)).toNat<((l.length:Int)-(j:Int)).toNat
    omega
 .have a:j=l.length:=by have:=cr a;omega
  subst a;rw[iz];exact⟨rfl,rfl⟩
theorem FC{n:Nat}(h:n<4294967296):4294967295^^^n=4294967295-n:=by
 apply Nat.eq_of_testBit_eq;intro i;have h1:(4294967295-n).testBit i=(decide (i<32)&& !n.testBit i):=by
  have:=Nat.testBit_two_pow_sub_succ (n:=32) (x:=n) (by simpa using h) i;rw[←this];congr 1;omega
 have a:(4294967295:Nat).testBit i=decide (i<32):=by
  have:=Nat.testBit_two_pow_sub_one 32 i;exact this
 rw[Nat.testBit_xor,h1,a];by_cases hi:i<32
 .simp[hi]
 .have:n.testBit i=false:=by
   apply sH;exact fO h (sE (n:=2) I (show 32<=i from I))
  simp[hi,this]
theorem FD{s:U}{w:J}(ps:O (U×O UInt8))(hs:Src 1 w s (ps.map λp=>hY p.1))(e:∀p∈ps,Src 1 w p.1 (aF p.2))(h:(eJ ps).length<=100000)(k:ps.length<=100000):
 aP ai 195 #[s] w (λv w'=>v=.int .u32 (gy (eJ ps):Nat)/\w=w'):=by
 refine okF (af.uT s) ay.uT func195 ?_;(delta af.uT ak aI ag gl av;dsimp only);have l:s.len=ps.length:=by have:=hs.len;rw[dL]at this;omega
 refine⟨λm i w'=>∃j:Nat,i=j/\j<=ps.length/\m=((ja 4294967295 (eJ (ps.take j)):Nat):Int)/\w=w',λ_ i _=>((ps.length:Int)-i).toNat,⟨0,rfl,cE _,rfl,rfl⟩,?_⟩;rintro _ _ _ ⟨j,rfl,o,rfl,rfl⟩;refine⟨λaH=>?_,λd=>?_⟩
 .have aH:j<ps.length:=by have:=b2 aH;omega
  obtain⟨A,ar,f,g⟩:=hs.at (i:=j) (v:=hY (ps[j]).1) (by simp[aH]);have c:=oE (eJ (ps.take j)) (n:=4294967295) (by decide);refine⟨A,ar,f,(ps[j]).1,g,(pY (e _ (cw aH)) c (by have:=A2 ps aH;omega)).use ?_⟩;rintro _ _ ⟨rfl,rfl⟩;rw[bu (n:=(j:Int)+1) I I];refine⟨_,rfl,⟨j+1,I,I,?_,rfl⟩,?_⟩
  .rw[take_succ _ aH,←vD,A1]
  .show((ps.length:Int)-((j:Int)+1)).toNat<((ps.length:Int)-(j:Int)).toNat
   omega
 .have d:j=ps.length:=by have:=cr d;omega
  subst d;rw[iz];have c:=oE (eJ ps) (n:=4294967295) (by decide);refine⟨?_,rfl⟩;have:=vI (a:=4294967295) (b:=ja 4294967295 (eJ ps)) (by decide) c;rw[FC c]at this;exact congrArg _ this
theorem ob{s:U}{l:O UInt8}{w:J}(hs:Src 1 w s (aF l))(hc:s.len<=s.cap)(f:l.length=256):
 aP ai 134 #[s] w (λv w'=>v=.int .u32 (sumOf l:Nat)/\Ext w w'):=by
 have g:=len8 hs;refine okF (af.ob s) ay.ob func134 ?_;(delta af.ob al gl Y;dsimp only);have b:Ext w w.drew:=ab.drew (.refl _ _);refine⟨⟨by decide,I⟩,⟨by decide,I⟩,?_⟩;have h1:=nj (hs.ext b) hc (lo:=0) (hi:=20) I I;have e:=nj (hs.ext b) hc (lo:=24) (hi:=s.len) I I;have c:∀o,Ext w.drew (w.drew.alloc o):=λo=>ab.alloc (.refl _ _) o;refine(FD [(⟨aO s.a 1 0 s.cap,20-0,s.cap-0⟩,(l.drop 0).take (20-0)),(⟨aO s.a 1 24 s.cap,s.len-24,s.cap-24⟩,(l.drop 24).take (s.len-24))] (s:=⟨some w.drew.heap.size,2,2⟩) (Src.new w.drew _ 2 rfl) ?_ ?_ ?_).use ?_
 .intro p d
  simp only[cU,eV,eZ]at d;rcases d with rfl|rfl
  .exact h1.ext (c _)
  .exact e.ext (c _)
 .simp[eJ];omega
 .simp
 rintro _ w1 ⟨rfl,rfl⟩;refine⟨_,rfl,?_,b.trans (c _)⟩;have:eJ [((⟨aO s.a 1 0 s.cap,20-0,s.cap-0⟩:U),(l.drop 0).take (20-0)),(⟨aO s.a 1 24 s.cap,s.len-24,s.cap-24⟩,(l.drop 24).take (s.len-24))]=l.take 20++l.drop 24:=by
  simp only[eJ,jm,List.map_nil,sG,List.flatten_nil,fQ,lu];rw[dI (l:=l.drop 24) (by rw[c5];omega)]
 rw[this];rfl
theorem a8.FE{T:TypeId}{w:J}{s:U}{vs us:O aa}{b o:Nat}(h:a8 1 T w s vs)(d:s.a=some ⟨b,0,none⟩)(p:o+us.length<=s.len):
 a8 1 T (setCells w ⟨b,o,none⟩ 0 us) s (vs.take o++us++vs.drop (o+us.length)):=by
 obtain⟨h1,g,i,j⟩:=h;rcases j with ⟨k,_⟩|⟨q,c,e,m,f,ht⟩
 .rw[k]at d;cases d
 .rw[d]at e
  cases e;have r:c.toList.length=s.cap:=by simpa using f
  have n:o+us.length<=c.size:=by omega
  rw[fz]at h1 f;refine⟨by simp;omega,g,i,.inr ⟨b,_,d,bq.j2 m us,by rw[iX];omega,?_⟩⟩;rw[fz]at ht⊢;rw[lD _ _ _ n,←ht,qT,jn I,cD,cD,List.take_append,List.take_append,cv,jn I,
   dI (l:=c.toList.take o) (by rw[cv];omega),dI (l:=us) I,List.drop_take,show s.len-o-us.length=s.len-(o+us.length) from I]
theorem vJ(w:J)(l:O UInt8):
 ∃w',Sem.run ai (convert 48 48 (.slice (some w.heap.size) l.length l.length)) (w.alloc (.cells (aF l).toArray 5))=.ok (.slice (some w.heap.size) l.length l.length) w'/\
  Src 1 w' ⟨some w.heap.size,l.length,l.length⟩ (aF l)/\Ext w w'/\w'.heap.size=w.heap.size+1:=by
 refine⟨_,Go.Lib.run_convert_bytes_const (P:=ai) w 48 5 (aF l).toArray l.length l.length (by kernel_rfl) (by kernel_rfl),⟨by rw[dV,fz],(λh=>by cases h),λa b=>?_⟩,ab.alloc (.refl _ _) _,by simp⟩
 cases b;have:=xH (w:=w.alloc (.cells (aF l).toArray 5 ((aF l).toArray.size,(aF l).toArray.size+1))) (A:=w.heap.size) (aF l) 0 (λj v c=>by
  rw[aw];show(World.cell? _ _)=_;have:(w.alloc (.cells (aF l).toArray 5 ((aF l).toArray.size,(aF l).toArray.size+1))).heap[w.heap.size]? =some (.cells (aF l).toArray 5 ((aF l).toArray.size,(aF l).toArray.size+1)):=by
   show(w.heap.push _)[w.heap.size]? =_;simp
  simp only[World.cell?,this];simpa using c)
 rw[dV]at this;rw[fz];exact this
theorem xS(n:Nat):g5 ai 5 n=(aF (List.replicate n 0)).toArray:=by
 rw[An (v:=.int .u8 0) (by kernel_rfl) (by kernel_rfl)];simp[aF]
theorem FF{A Z T C:O UInt8}{n m:Nat}(ar:A.length=n)(a:Z.length=m):(aF (A++(Z++T))).take n++aF C++(aF (A++(Z++T))).drop (n+m)=aF (A++(C++T)):=by
 have b:(aF (A++(Z++T))).take n=aF A:=by rw[oB];exact mo (by rw[dV,ar])
 have c:(aF (A++(Z++T))).drop (n+m)=aF T:=by rw[←cD,oB];exact drop_left' (by rw[dV,cx,ar,a])
 rw[b,c,oB,oB,cD]
theorem b6(w:J):Ext w w.drew:=ab.drew (.refl _ _)
theorem eB(w:J)(o:Obj):Ext w (w.alloc o):=ab.alloc (.refl _ _) o
theorem rZ(w:J)(o:Obj):(w.alloc o).heap.size=w.heap.size+1:=by simp
theorem vK{s:U}{p:hX}{no:Nat}{w:J}(hs:Src 1 w s (aF p.body))(a3:no<1600)(i:nh p):
 aP ai 73 #[no,.agg #[p.kind,.int .u64 p.gen,s]] w (λv w'=>∃E:U,v=.tuple #[E,(0:Int)]/\a8 1 5 w' E (aF (eA no p))/\Ext w w'/\gQ w E):=by
 have a4:=i.bx;have a5:=i.bG;have a6:=i.gen;have a7:=i.body;have O:=len8 hs;refine okF (af.ug no p.kind p.gen s) ay.ug func73 ?_;(delta af.ug aK ak r1 Y ag ba bw kz xo av xp gl;dsimp only);refine bh (vs:=[p.kind,.int .u64 p.gen,s]) rfl λw1 y F a9=>?_;have aR:∀ {w':J},Ext w1 w'->w'.cell? (Addr.add w.heap.size 2)=some (.slice s.a s.len s.cap):=λhx=>by rw[aw];exact(y.ext hx).cell
 have aA:∀ {w':J},Ext w1 w'->w'.cell? (Addr.add w.heap.size 1)=some (.int .u64 p.gen):=λhx=>by rw[aw];exact(y.ext hx).cell
 refine Calls.mono (af.AB no w1 (λv w'=>v=true/\w1=w') ⟨by simp;omega,rfl⟩) ?_;rintro _ _ ⟨_,rfl,rfl,rfl⟩;refine⟨_,rfl,cm (λb w'=>b=false/\w1=w') (λq j=>⟨λh1=>by simp at h1,λh1=>⟨p.kind,y.cell,?_⟩⟩) ?_⟩
 .refine Calls.mono (af.AD p.kind w1 (λv w'=>v=true/\w1=w') ⟨by simp;omega,rfl⟩) ?_
  rintro _ _ ⟨_,rfl,rfl,rfl⟩;exact⟨_,rfl,j _ _ ⟨rfl,rfl⟩⟩
 rintro b _ ⟨rfl,rfl⟩;refine⟨λh=>(by cases h),λ_=>⟨s,aR (.refl _ _),λh=>(by have:=b2 h;omega),λ_=>aS ?_⟩⟩
 obtain⟨ah,am,an,P,a_⟩:=vJ w1 gz;refine⟨⟨some w1.heap.size,4,4⟩,ah,am,p.kind,(y.ext P).cell,?_⟩;have ao:IntKind.wrap .u8 (p.kind:Int)=(((UInt8.ofNat p.kind).toNat:Nat):Int):=by rw[vz I,w9 I I]
 rw[ao];have z:=Src.new (T:=5) (sz:=1) ah (aF [1,UInt8.ofNat p.kind]) 2 rfl;have G:=eB ah (.cells (aF [1,UInt8.ofNat p.kind]).toArray 5);obtain⟨f,ap⟩:∃f,f=ah.alloc (.cells (aF [1,UInt8.ofNat p.kind]).toArray 5):=⟨_,rfl⟩;show al (ah.alloc (.cells (aF [1,UInt8.ofNat p.kind]).toArray 5)) _;rw[←ap]at z G⊢;refine aS ?_;have H:=Src.new (T:=48) (sz:=1) f [.slice (some w1.heap.size) 4 4,.slice (some ah.heap.size) 2 2] 2 rfl;have A:=eB f (.cells #[.slice (some w1.heap.size) 4 4,.slice (some ah.heap.size) 2 2] 48);obtain⟨B,Q⟩:∃B,B=f.alloc (.cells #[.slice (some w1.heap.size) 4 4,.slice (some ah.heap.size) 2 2] 48):=⟨_,rfl⟩;have H:Src 1 B ⟨some f.heap.size,2,2⟩ [.slice (some w1.heap.size) 4 4,.slice (some ah.heap.size) 2 2]:=by rw[Q];exact H
 rw[←Q]at A⊢;have aq:Ext w1 B:=P.trans (G.trans A);refine aS ((vG (s:=⟨some f.heap.size,2,2⟩) [((⟨some w1.heap.size,4,4⟩:U),gz),(⟨some ah.heap.size,2,2⟩,[1,UInt8.ofNat p.kind])] H ?_ (by simp[eJ,gz]) (by simp)).use ?_)
 .intro q j
  simp only[cU,eV,eZ]at j;rcases j with rfl|rfl
  .exact an.ext (G.trans A)
  .exact z.ext A
 rintro _ bb ⟨ar,rfl,R,au,bc⟩;have S:=aq.trans au;have ax:eJ [((⟨some w1.heap.size,4,4⟩:U),gz),(⟨some ah.heap.size,2,2⟩,[1,UInt8.ofNat p.kind])]=gz++ [1,UInt8.ofNat p.kind]:=by simp[eJ]
 rw[ax]at R;refine⟨ar,rfl,s,aR S,?_⟩;rw[gN (n:=(s.len:Int)) I I,gN (n:=(no:Int)) I I];refine(ik R.src (n:=s.len) (k:=2) (by simp[gz]) (by show _<18446744073709551616;omega) ⟨by decide,by decide⟩).use ?_;rintro _ bd ⟨az,rfl,aB,aC,be⟩;have aD:=S.trans aC;refine⟨az,rfl,(ik aB.src (n:=no) (k:=4) (by simp[gz,e2]) (by show _<18446744073709551616;omega) ⟨by decide,by decide⟩).use ?_⟩;rintro _ bf ⟨aE,rfl,aG,aH,bg⟩;have V:=aD.trans aH;refine⟨aE,rfl,_,aA V,(ik aG.src (n:=p.gen) (k:=8) (by simp[gz,e2]) (by show _<18446744073709551616;omega) ⟨by decide,by decide⟩).use ?_⟩;rintro _ d ⟨u,rfl,W,aI,bi⟩;have C:=V.trans aI;have aJ:gz++ [1,UInt8.ofNat p.kind]++b4 s.len 2++b4 no 4++b4 p.gen 8=fb no p:=by rw[O];simp[fb]
 rw[aJ]at W;refine⟨u,rfl,cm (λt w'=>a8 1 5 w' t (aF (fb no p++(List.replicate 4 0++fg p)))/\Ext w1 w'/\gQ w t) (λq j=>?_) ?_⟩
 .have m:=b6 d
  have X:=C.trans m;have aL:IntKind.wrap .i64 (232-(s.len:Int))=((232-s.len:Nat):Int):=by rw[bu I I];omega
  refine aS ⟨λ_=>False,id,s,aR X,id,s,aR X,?_⟩;rw[aL];simp only[c8,show Int.toNat 4=4 from rfl];rw[xS,xS];have fin:∀ (K er:J) (g7 cp:U),Ext d er->Src 1 er g7 (aF (List.replicate 4 0))->Src 1 er cp (aF (List.replicate (232-s.len) 0))->
   Calls ai 92 #[.slice (some er.heap.size) 4 4] (er.alloc (.cells #[u,g7,s,cp] 48)) λaM aN=>∃Z:U,aM=.returned Z/\q Z aN:=by
   intro K er g7 cp D h1 L;have r:=eB er (.cells #[u,g7,s,cp] 48);refine(vG (s:=⟨some er.heap.size,4,4⟩) [(u,fb no p),(g7,List.replicate 4 0),(s,p.body),(cp,List.replicate (232-s.len) 0)] (Src.new er _ 4 rfl) ?_ (by simp[eJ,ni];omega) (by simp)).use ?_
   .intro x hx
    simp only[cU,eV,eZ]at hx;rcases hx with rfl|rfl|rfl|rfl
    .exact W.src.ext (D.trans r)
    .exact h1.ext r
    .exact hs.ext ((F.trans (C.trans D)).trans r)
    .exact L.ext r
   .rintro _ aa ⟨aQ,rfl,aT,hx,hf⟩
    refine⟨aQ,rfl,j _ _ ⟨?_,(C.trans D).trans (r.trans hx),hf.mono (F.trans ((C.trans D).trans r)).size⟩⟩;have e:eJ [(u,fb no p),(g7,List.replicate 4 0),(s,p.body),(cp,List.replicate (232-s.len) 0)]=fb no p++(List.replicate 4 0++fg p):=by simp[eJ,fg,O]
    rwa[e]at aT
  refine⟨⟨⟨by decide,by decide,by decide,by decide⟩,aS ⟨eB _ _,⟨I,Int.le_refl _,I,I⟩,aS ⟨eB _ _,aS ?_⟩⟩⟩,⟨⟨I,Int.le_refl _,I,I⟩,aS ⟨eB _ _,⟨by decide,by decide,by decide,by decide⟩,aS ⟨eB _ _,aS ?_⟩⟩⟩⟩
  .refine fin d _ ⟨some d.drew.heap.size,4,4⟩ ⟨some ⟨(d.drew.alloc _).heap.size,0,none⟩,232-s.len,232-s.len⟩ (m.trans ((eB _ _).trans (eB _ _))) (Src.ext (Src.new _ _ _ (by simp[aF])) (eB _ _)) (Src.new _ _ _ (by simp[aF]))
  .refine fin d _ ⟨some ⟨(d.drew.alloc _).heap.size,0,none⟩,4,4⟩ ⟨some d.drew.heap.size,232-s.len,232-s.len⟩ (m.trans ((eB _ _).trans (eB _ _))) (Src.new _ _ _ (by simp[aF])) (Src.ext (Src.new _ _ _ (by simp[aF])) (eB _ _))
 rintro t K ⟨g,aU,ac⟩;have bj:t.len=256:=by
  have:=mq g;rw[this];simp[ni,vE i]
 have m:=b6 K;refine aS ⟨λ_=>False,⟨by decide,I⟩,(ob (g.src.ext m) g.2.1 (by simp[ni,vE i])).use ?_⟩;rintro _ aa ⟨rfl,aV⟩;have es:sumOf (fb no p++(List.replicate 4 0++fg p))=gy (fb no p++fg p):=by
  unfold sumOf;rw[mo (ni no p),←cD,drop_left' (by simp[ni])]
 rw[es];have bk:=xR (fb no p++fg p);refine⟨_,rfl,λ_=>False,?_⟩;rw[gN I I];refine(ik (s:=⟨none,0,0⟩) (l:=[]) (n:=gy (fb no p++fg p)) (k:=4) (a8.none 1 5 aa).src (by simp) (by show _<18446744073709551616;omega) ⟨by decide,by decide⟩).use ?_;rintro _ aW ⟨aX,rfl,M,aY,bl⟩;rw[iR]at M;have ad:=m.trans (aV.trans aY);have ae:=g.ext ad;have aj:=mq M;rw[e2]at aj;obtain⟨b,c,N,aZ,bm,_⟩:∃b c,t.a=some ⟨b,0,none⟩/\bq aW b c 5/\c.size=t.cap*1/\c.toList.take (t.len*1)=aF (fb no p++(List.replicate 4 0++fg p)):=by
  rcases ae.2.2.2 with ⟨_,hc⟩|⟨b,c,h1,L,a0,a1⟩
  .have:=g.2.1;omega
  .exact⟨b,c,h1,L,a0,a1⟩
 have a2:aO t.a 1 (Int.toNat 20) t.cap=some ⟨b,20,none⟩:=by
  rw[N,show Int.toNat 20=20 from rfl,tg (by have:=g.2.1;omega)]
 have bn:=g.2.1;refine⟨aX,rfl,_,_,by rw[a2];exact Fl (by kernel_rfl) M.src (by rw[aj];show 4<=t.len-20;omega) (aZ.cc _ _ (by rw[dV,e2];omega) (k8 _)),t,rfl,?_,?_,ac⟩
 .have:=a8.FE ae N (o:=20) (us:=aF (b4 (gy (fb no p++fg p)) 4)) (by rw[dV,e2];omega)
  have e:(aF (fb no p++(List.replicate 4 0++fg p))).take 20++aF (b4 (gy (fb no p++fg p)) 4)++(aF (fb no p++(List.replicate 4 0++fg p))).drop (20+(aF (b4 (gy (fb no p++fg p)) 4)).length)=aF (eA no p):=by
   rw[dV,e2];exact FF (ni no p) (by simp)
  rwa[e]at this
 .refine Ext.dd (F.trans (aU.trans ad)) (ab.k1 (.refl _ _) _ 0) λk z=>?_
  subst z;exact ac _ ⟨_,N,rfl⟩
theorem mi{s:U}{l:O UInt8}{w:J}(hs:Src 1 w s (aF l))(hc:s.len<=s.cap){a k:Nat}{e:Int}(he:e=((a+k:Nat):Int))(b:1<=k/\k<=8)(c:a+k<=l.length)(d:l.length<=1000):
 aP ai 227 #[s,a,e] w (λv w'=>v=.int .u64 (cZ l a k:Nat)/\w=w'):=by
 subst he;refine okF (af.mi s a ((a+k:Nat):Int)) ay.mi func227 ?_;(delta af.mi k3 av;dsimp only);rw[bu I I,show(((a+k:Nat):Int)-(a:Int))=(k:Int) from I];refine(k4 hs hc b c I).use ?_;rintro _ _ ⟨rfl,rfl⟩;exact⟨_,_,rfl,rfl,rfl⟩
theorem pV{s:U}{l:O UInt8}{w:J}(hs:Src 1 w s (aF l))(o:l.length<=1000):
 aP ai 228 #[s] w (λv w'=>v=.bool (l.all λc=>c==0)/\w=w'):=by
 have p:=len8 hs;refine okF (af.pV s) ay.pV func228 ?_;(delta af.pV ak aI bX av;dsimp only);refine⟨λi w'=>∃j:Nat,i=j/\j<=l.length/\w=w'/\∀ (k:Nat) (a:k<l.length),k<j->l[k]=0,λi _=>((l.length:Int)-i).toNat,⟨0,rfl,cE _,rfl,λk a h=>I⟩,?_⟩;rintro _ _ ⟨j,rfl,q,rfl,d⟩;refine⟨λaH=>?_,λb=>?_⟩
 .have aH:j<l.length:=by have:=b2 aH;omega
  obtain⟨A,ar,f,g⟩:=hs.at (oA aH);refine⟨A,ar,f,_,g,λe=>?_,λm=>?_⟩
  .refine⟨?_,rfl⟩
   have:(l.all λc=>c==0)=false:=by
    rw[List.all_eq_false];refine⟨l[j],cw _,λh=>?_⟩;have h:=eq_of_beq h;rw[h]at e;simp at e
   rw[this]
  .have h0:l[j]=0:=by
    have:((l[j]).toNat:Int)=0:=by simpa using m
    exact o7.1 (by show(l[j]).toNat=0;omega)
   rw[bu (n:=(j:Int)+1) I I];refine⟨⟨j+1,I,I,rfl,λk a h=>?_⟩,?_⟩
   .rcases dH k j with h1|h1
    .exact d k a h1
    .have:k=j:=by omega
     subst this;exact h0
   .show((l.length:Int)-((j:Int)+1)).toNat<((l.length:Int)-(j:Int)).toNat
    omega
 .have b:j=l.length:=by have:=cr b;omega
  subst b;refine⟨?_,rfl⟩;have:(l.all λc=>c==0)=true:=by
   rw[lk];intro c hc;obtain⟨k,a,rfl⟩:=eY hc;rw[d k a a];rfl
  rw[this]
def A3(kind gen:Int)(s:U):aa:=.agg #[kind,.int .u64 gen,s]
def vL(r:Except Int hX)(w w':J)(v:aa):Prop:=
 match r with
 | .ok p=>∃s:U,v=.tuple #[A3 p.kind p.gen s,(0:Int)]/\a8 1 5 w' s (aF p.body)/\gQ w s
 | .error e=>v=.tuple #[A3 0 0 ⟨none,0,0⟩,e]
theorem A4{w':J}{h:Nat}{vs:O aa}(n g:Int)(s:U)(b:Var w' h vs 150)(e:vs.length=3){K:Int->Int->U->J->Prop}(j:∀ah,ab (λq=>q=h) w' ah->K n g s ah):
 bA w' h [n,.int .u64 g,s]/\(3:Nat)=3/\al (setCells w' h 0 [n,.int .u64 g,s]) λah=>
  ∃f:Int,ah.cell? h=some (.int .i64 f)/\∃i:Int,ah.cell? (Addr.add h 1)=some (.int .u64 i)/\∃c:U,ah.cell? (Addr.add h 2)=some (.slice c.a c.len c.cap)/\K f i c ah:=by
 refine⟨b.cc (by rw[e];rfl) ?_,rfl,cy b (us:=[n,.int .u64 g,s]) (by rw[e];rfl) rfl λah d hc _=>?_⟩
 .intro v b
  simp only[cU,eV,eZ]at b;rcases b with rfl|rfl|rfl<;>trivial
 .exact⟨n,d.cell,g,by rw[aw];exact d.cell,s,by rw[aw];exact d.cell,j ah hc⟩
theorem m6{s:U}{l:O UInt8}{w:J}(hs:Src 1 w s (aF l))(hc:s.len<=s.cap)(x:l.length<=1000)(no:Int):
 aP ai 172 #[no,s] w (λv w'=>vL (da no l) w w' v/\Ext w w'):=by
 have ax:=len8 hs;refine okF (af.m6 no s) ay.m6 func172 ?_;(delta af.m6 z3 ak Y r1 bw ag xr aI bX gl gw aK av jt;dsimp only);refine bh (vs:=[(0:Int),.int .u64 0,()]) rfl λw1 B y _=>?_
 have out:∀ (w':J) (e:Int),Ext w1 w'->da no l=.error e->
  bA w' w.heap.size [(0:Int),.int .u64 0,()]/\(3:Nat)=3/\al (setCells w' w.heap.size 0 [(0:Int),.int .u64 0,()]) λah=>
  ∃g:Int,ah.cell? w.heap.size=some (.int .i64 g)/\∃j:Int,ah.cell? (Addr.add w.heap.size 1)=some (.int .u64 j)/\∃d:U,ah.cell? (Addr.add w.heap.size 2)=some (.slice d.a d.len d.cap)/\
   (λv w'=>vL (da no l) w w' v/\Ext w w') (.tuple #[.agg #[g,.int .u64 j,d],e]) ah:=by
  intro w' e hx he;refine A4 0 0 ⟨none,0,0⟩ (B.ext hx) rfl (K:=λg j d ah=>(λv w'=>vL (da no l) w w' v/\Ext w w') (.tuple #[.agg #[g,.int .u64 j,d],e]) ah) λah z=>⟨?_,Ext.cu (y.trans hx) z (bo _)⟩;rw[he];rfl
 refine⟨λh=>out _ _ (.refl _ _) ?_,λh=>?_⟩
 .have h:(s.len:Int)≠256:=by simpa using h
  unfold da;rw[if_pos I]
 have h:(s.len:Int)=256:=by simpa using h
 have P:l.length=256:=by omega
 have p:=hs.ext y;have Q:=nj p hc (lo:=0) (hi:=4) I I;have R:Src 1 w1 ⟨aO s.a 1 0 s.cap,4-0,s.cap-0⟩ (((l.take 4).map λb=>(b.toNat:Int)).map (.int .u8)):=by
  rw[ic];exact Q
 have F:=AT (src:=48) (dst:=9) (by kernel_rfl) (by kernel_rfl) R;have T:(((l.take 4).map λb=>(b.toNat:Int)).map λn=>UInt8.ofNat n.toNat)=l.take 4:=by
  rw[ic];have:((λn:Int=>UInt8.ofNat n.toNat)∘ λb:UInt8=>(b.toNat:Int))=id:=by funext b;simp
  rw[this,List.map_id]
 rw[T]at F;refine⟨⟨by decide,I⟩,S (l.take 4),w1,F,?_⟩;have V:(ByteArray.toList (S (l.take 4))==ByteArray.toList (ByteArray.mk #[83,84,78,67]))=decide (l.take 4=gz):=by
  rw[show(ByteArray.mk #[83,84,78,67])=S gz from rfl,nX];rw[fW];simp
 rw[V];refine⟨λh=>out _ _ (.refl _ _) ?_,λh=>?_⟩
 .have h:l.take 4≠gz:=by simpa using h
  unfold da;rw[if_neg I,if_pos h]
 have r:l.take 4=gz:=by simpa using h
 obtain⟨W,X,az,Z⟩:=p.at (oA (l:=l) (i:=4) I);have aA:s.len=256:=by omega
 refine⟨W,X,⟨by decide,I⟩,_,Z,λh=>out _ _ (.refl _ _) ?_,λh=>?_⟩
 .have h:(((l[4]'I).toNat:Nat):Int)≠1:=by simpa using h
  unfold da;rw[if_neg I,if_neg (by simp[r]),if_pos (by
   intro e;apply h;rw[eX,c_ I]at e;have e:(l[4]'I)=1:=e;rw[e];rfl)]
 have A:l.getD 4 0=1:=by
  have h:(((l[4]'I).toNat:Nat):Int)=1:=by simpa using h
  rw[eX,c_ I];exact o7.1 (by show(l[4]'I).toNat=1;omega)
 refine(ob p hc P).use ?_;rintro _ ah ⟨rfl,f⟩;have m:=p.ext f;refine⟨_,rfl,(mi m hc (a:=20) (k:=4) (e:=24) rfl (by decide) I x).use ?_⟩;rintro _ _ ⟨rfl,rfl⟩;have aB:sumOf l<4294967296:=xR _;rw[gN (n:=((sumOf l:Nat):Int)) I I];refine⟨_,rfl,λh=>out _ _ f ?_,λh=>?_⟩
 .have h:((sumOf l:Nat):Int)≠((cZ l 20 4:Nat):Int):=by simpa using h
  unfold da;rw[if_neg I,if_neg (by simp[r]),if_neg (λh=>h A),if_pos I]
 have aC:sumOf l=cZ l 20 4:=by
  have h:((sumOf l:Nat):Int)=((cZ l 20 4:Nat):Int):=by simpa using h
  omega
 refine(mi m hc (a:=6) (k:=2) (e:=8) rfl (by decide) I x).use ?_;rintro _ _ ⟨rfl,rfl⟩;have aD:cZ l 6 2<65536:=nc 2 _ (by simp;omega);obtain⟨aa,ab,aE,ac⟩:=m.at (oA (l:=l) (i:=5) I);have C:l.getD 5 0=l[5]'I:=by rw[eX,c_ I];rfl
 have aG:=lZ (l[5]'I);refine⟨_,rfl,aa,ab,⟨by decide,I⟩,_,ac,?_⟩;rw[bu (n:=(((l[5]'I).toNat:Nat):Int)) I I,bu (n:=((cZ l 6 2:Nat):Int)) I I];refine Calls.mono (af.AD (((l[5]'I).toNat:Nat):Int) ah (λv w'=>v=.bool (decide (1<=(l[5]'I).toNat/\(l[5]'I).toNat<=4))/\ah=w') ⟨?_,rfl⟩) ?_
 .have e:(decide ((((l[5]'I).toNat:Nat):Int)>=1)&&decide ((((l[5]'I).toNat:Nat):Int)<=4))=decide (1<=(l[5]'I).toNat/\(l[5]'I).toNat<=4):=by
   rw[fW];simp only[ed,cS];omega
  rw[e]
 rintro _ _ ⟨_,rfl,rfl,rfl⟩;have aH:24+cZ l 6 2<=256->True:=λ_=>trivial;refine⟨_,rfl,cm (λb w'=>b=decide (¬(1<=(l[5]'I).toNat/\(l[5]'I).toNat<=4)\/232<cZ l 6 2\/(l.drop (24+cZ l 6 2)).all (λc=>c==0)=false)/\ah=w') (λq t=>⟨λh1=>t _ _ ⟨?_,rfl⟩,λh1=>?_⟩) ?_⟩
 .refine(dw ?_).symm
  simp only[jl,ln,jA,cS]at h1;rcases h1 with h1|h1
  .exact .inl h1
  .exact .inr (.inl I)
 .simp only[nD,qW,jA,cS]at h1
  have ae:cZ l 6 2<=232:=by omega
  rw[bu (n:=24+((cZ l 6 2:Nat):Int)) I I];refine⟨⟨I,I⟩,?_⟩;have aj:Int.toNat (24+((cZ l 6 2:Nat):Int))=24+cZ l 6 2:=by omega
  rw[aj];have G:=nj m hc (lo:=24+cZ l 6 2) (hi:=s.len) I I;rw[dI (l:=l.drop (24+cZ l 6 2)) (by rw[c5];omega)]at G;refine(pV G (by rw[c5];omega)).use ?_;rintro _ _ ⟨rfl,rfl⟩;refine⟨_,rfl,t _ _ ⟨?_,rfl⟩⟩
  cases aJ:(l.drop (24+cZ l 6 2)).all (λc=>c==0) with
  |true=>exact(hG (by rintro(o|o|o)<;>first|exact o h1.1|omega|cases o)).symm
  |false=>exact(dw (.inr (.inr rfl))).symm
 rintro b _ ⟨rfl,rfl⟩;refine⟨λh=>out _ _ f ?_,λh=>?_⟩
 .have h:=b2 h
  unfold da;rw[if_neg I,if_neg (by simp[r]),if_neg (λh=>h A),if_neg I,if_pos (by rw[C];exact h)]
 have u:=cr h;have H:¬(¬(1<=(l.getD 5 0).toNat/\(l.getD 5 0).toNat<=4)\/232<cZ l 6 2\/(l.drop (24+cZ l 6 2)).all (λc=>c==0)=false):=by rw[C];exact u
 have ae:cZ l 6 2<=232:=by
  rcases dH 232 (cZ l 6 2) with h1|h1
  .exact absurd (.inr (.inl h1)) u
  .exact h1
 have aL:1<=(l[5]'I).toNat/\(l[5]'I).toNat<=4:=pb λh=>u (.inl h);refine Calls.mono (af.AB no ah (λv w'=>v=.bool (decide (0<=no/\no<1600))/\ah=w') ⟨by simp[ge_iff_le],rfl⟩) ?_;rintro _ _ ⟨_,rfl,rfl,rfl⟩;have aM:cZ l 8 4<4294967296:=nc 4 _ (by simp;omega);refine⟨_,rfl,cm (λb w'=>b=decide (¬(0<=no/\no<1600)\/(cZ l 8 4:Int)≠no)/\ah=w') (λq t=>⟨λh1=>t _ _ ⟨?_,rfl⟩,λh1=>?_⟩) ?_⟩
 .refine(dw ?_).symm
  simp only[ln,jA]at h1;exact .inl h1
 .simp only[qW,cS]at h1
  refine(mi m hc (a:=8) (k:=4) (e:=12) rfl (by decide) I x).use ?_;rintro _ _ ⟨rfl,rfl⟩;refine⟨_,rfl,t _ _ ⟨?_,rfl⟩⟩;rw[gN (n:=no) I I,fW,cS,bne_iff_ne];exact⟨λh=>.inr h,λh=>h.resolve_left (λo=>o h1)⟩
 rintro b _ ⟨rfl,rfl⟩;refine⟨λh=>out _ _ f ?_,λh=>?_⟩
 .have h:=b2 h
  unfold da;rw[if_neg I,if_neg (by simp[r]),if_neg (λh=>h A),if_neg I,if_neg H,if_pos h]
 have am:=cr h;have an:da no l=.ok ⟨(l.getD 5 0).toNat,cZ l 12 8,(l.drop 24).take (cZ l 6 2)⟩:=by
  unfold da;rw[if_neg I,if_neg (by simp[r]),if_neg (λh=>h A),if_neg I,if_neg H,if_neg am]
 refine(pW m hc (a:=24) (k:=cZ l 6 2) I I).use ?_;rintro _ ao ⟨D,rfl,ap,aq,L⟩;have M:=b6 ao;have E:=f.trans (aq.trans M);have N:=p.ext E;obtain⟨ar,au,aN,aw⟩:=N.at (oA (l:=l) (i:=5) I);refine⟨D,true,rfl,aS ⟨λ_=>False,ar,au,⟨by decide,I⟩,id,_,aw,(mi N hc (a:=12) (k:=8) (e:=20) rfl (by decide) I x).use ?_⟩⟩;rintro _ _ ⟨rfl,rfl⟩;rw[bu (n:=(((l[5]'I).toNat:Nat):Int)) I I];refine⟨_,rfl,.refl _ _,A4 _ _ D (B.ext E) rfl (K:=λg j d ah=>(λv w'=>vL (da no l) w w' v/\Ext w w') (.tuple #[.agg #[g,.int .u64 j,d],(0:Int)]) ah) λaQ z=>⟨?_,Ext.cu (y.trans E) z (bo _)⟩⟩;rw[an];refine⟨D,by rw[C];rfl,(ap.ext M).ad z λk u e=>?_,L.mono (y.trans f).size⟩;have:=L k u;have:=B.lt;have:=f.size;subst e;omega
theorem A5{P:Program}{w:J}:∀ (l:O UInt8) (a:ae) (acc:ByteArray),(∀j x,l[j]? =some x->w.cell? (a.add j)=some (.int .u8 (x.toNat:Int)))->
 (Extern.Bytes.loadBytes a l.length acc).run P w=.ok ⟨acc.data++l.toArray⟩ w
 | [],a,acc,_=>by simp[Extern.Bytes.loadBytes]
 |x::l,a,acc,h=>by
  have h0:=h 0 x rfl
  rw[add_zero']at h0
  have b:=A5 (P:=P) l (a.add 1) (acc.push x) (λj y c=>by
   rw[add_add,Nat.add_comm]
   exact h (j+1) y (by simpa using c))
  have hx:(x.toNat:Int).toNat.toUInt8=x:=Fj x
  simp only[eU,Extern.Bytes.loadBytes,Sem.run_bind,wH h0,Result.andThen,hx]
  rw[b]
  congr 2
  simp[ByteArray.push]
theorem A6{P:Program}{w:J}{s:U}{l:O UInt8}(h:Src 1 w s (aF l)):(Extern.Bytes.bytesOf s).run P w=.ok (S l) w:=by
 cases hs:s.a with
 |none=>
  have h0:l=[]:=by
   have:=h.nil hs
   cases l with
   |nil=>rfl
   |cons a l=>simp[aF]at this
  subst h0;rfl
 |some A=>
  have b:=h.rd A hs;rw[fz]at b;have:=A5 (P:=P) (w:=w) l A .empty (λj x c=>by
   have:=pB b (j:=j) (v:=.int .u8 (x.toNat:Int)) (by simp[aF,c]);simpa using this)
  show(Extern.Bytes.loadBytes A s.len .empty).run P w=_;rw[len8 h,this]
  congr 1
  show(ByteArray.mk (ByteArray.empty.data++l.toArray))=ByteArray.mk l.toArray
  congr 1
  exact Array.empty_append ..
theorem A7:∀a b:Key,Lib.compareBytes a b=ew a b
 | [],[]=>rfl
 | [],_::_=>rfl
 |_::_,[]=>rfl
 |a::x,b::y=>by
  simp only[Lib.compareBytes,ew,UInt8.lt_iff_toNat_lt,A7 x y]
theorem kA{s t:U}{l m:Key}{w:J}(hs:Src 1 w s (aF l))(ht:Src 1 w t (aF m)):
 aP ai 176 #[s,t] w (λv w'=>v=.int .i64 (ew l m)/\w=w'):=by
 refine okF (af.kA s t) ay.kA func176 ?_;unfold af.kA;refine⟨ew l m,w,?_,rfl,rfl⟩;rw[run_callFunc_extern func230 rfl rfl rfl rfl];have:(Extern.BytealgCompare.compare #[s,t]).run ai w=.ok (.int .i64 (ew l m)) w:=by
  change Sem.run ai (do pure (goInt (Extern.BytealgCompare.cmp (←Extern.Bytes.bytesOf s) (←Extern.Bytes.bytesOf t)))) w=_
  simp only[Sem.run_bind,A6 hs,A6 ht,Result.andThen,Sem.run_pure];rw[Lib.cmp_eq];show Result.ok (goInt (Lib.compareBytes l m)) w=_;rw[A7];rfl
 rw[this];rfl
theorem k9{s:U}{l:O UInt8}{w:J}(h:Src 1 w s (aF l)):Sem.run ai (convert 48 9 s) w=.ok (.string (S l)) w:=by
 have a:Src 1 w s ((l.map λb=>(b.toNat:Int)).map (.int .u8)):=by rw[ic];exact h
 have:=AT (src:=48) (dst:=9) (by kernel_rfl) (by kernel_rfl) a;rw[ic]at this;have e:((λn:Int=>UInt8.ofNat n.toNat)∘ λb:UInt8=>(b.toNat:Int))=id:=by funext b;simp
 rw[e,List.map_id]at this;exact this
theorem pI{s t:U}{l m:Key}{w:J}(hs:Src 1 w s (aF l))(ht:Src 1 w t (aF m)):
 aP ai 158 #[s,t] w (λv w'=>v=.bool (decide (l=m))/\w=w'):=by
 refine okF (af.pI s t) ay.pI func158 ?_;unfold af.pI;refine⟨_,_,k9 hs,_,_,k9 ht,?_,rfl⟩;rw[nX]
 congr 1
 rw[fW];simp
def In(B:Nat->Prop)(w:J)(s:U):Prop:=∀k,az s k->B k/\k<w.heap.size
def a7(B:Nat->Prop)(w:J)(t:U)(l:Key):Prop:=Src 1 w t (aF l)/\t.len<=t.cap/\In B w t
def bl(B:Nat->Prop)(w:J)(s:U)(ls:O Key):Prop:=
 ∃ts:O U,ts.length=ls.length/\Src 1 w s (ts.map hY)/\s.len<=s.cap/\In B w s/\∀ (i:Nat) (h1:i<ts.length) (a:i<ls.length),a7 B w ts[i] ls[i]
def dW(ds:O Nat):O aa:=ds.map λd=>.int .i64 ((d:Nat):Int)
def cI(B:Nat->Prop)(w:J)(s:U)(ds:O Nat):Prop:=Src 1 w s (dW ds)/\s.len<=s.cap/\In B w s
def bn(B:Nat->Prop)(w:J)(s:U)(ls:O Key):Prop:=
 ∃ts:O U,ts.length=ls.length/\a8 1 48 w s (ts.map hY)/\In B w s/\∀ (i:Nat) (h1:i<ts.length) (a:i<ls.length),a7 B w ts[i] ls[i]/\∀k,az ts[i] k->¬az s k
def cQ(B:Nat->Prop)(w:J)(s:U)(ds:O Nat):Prop:=a8 1 3 w s (dW ds)/\In B w s
section
variable {B C:Nat->Prop}{w w':J}{s t:U}{l:Key}{ls:O Key}{ds:O Nat}
theorem In.ad{V:Nat->Prop}(h:In B w s)(hc:ab V w w'):In B w' s:=λk a=>⟨(h k a).1,fO (h k a).2 hc.size⟩
theorem In.aW(h:In B w s)(b:∀k,k<w.heap.size->B k->C k):In C w s:=λk a=>⟨b k (h k a).2 (h k a).1,(h k a).2⟩
theorem a7.ad{V:Nat->Prop}(h:a7 B w t l)(hc:ab V w w')(a:∀k,B k->¬V k):a7 B w' t l:=⟨h.1.ad hc λk b=>a k (h.2.2 k b).1,h.2.1,In.ad h.2.2 hc⟩
theorem a7.iL{V:Nat->Prop}(h:a7 B w t l)(hc:ab V w w')(a:∀k,az t k->¬V k):a7 B w' t l:=⟨h.1.ad hc a,h.2.1,In.ad h.2.2 hc⟩
theorem a7.ext(h:a7 B w t l)(hc:Ext w w'):a7 B w' t l:=a7.ad h hc λ_ _ h=>h
theorem a7.aW(h:a7 B w t l)(a:∀k,k<w.heap.size->B k->C k):a7 C w t l:=⟨h.1,h.2.1,In.aW h.2.2 a⟩
theorem bl.ad{V:Nat->Prop}(h:bl B w s ls)(hc:ab V w w')(a:∀k,B k->¬V k):bl B w' s ls:=by
 obtain⟨ts,h1,c,d,b,e⟩:=h;exact⟨ts,h1,c.ad hc λk f=>a k (b k f).1,d,In.ad b hc,λi g j=>a7.ad (e i g j) hc a⟩
theorem bl.ext(h:bl B w s ls)(hc:Ext w w'):bl B w' s ls:=bl.ad h hc λ_ _ h=>h
theorem bl.aW(h:bl B w s ls)(a:∀k,k<w.heap.size->B k->C k):bl C w s ls:=by
 obtain⟨ts,h1,b,c,d,e⟩:=h;exact⟨ts,h1,b,c,In.aW d a,λi f g=>a7.aW (e i f g) a⟩
theorem cI.ad{V:Nat->Prop}(h:cI B w s ds)(hc:ab V w w')(a:∀k,B k->¬V k):cI B w' s ds:=⟨h.1.ad hc λk b=>a k (h.2.2 k b).1,h.2.1,In.ad h.2.2 hc⟩
theorem cI.ext(h:cI B w s ds)(hc:Ext w w'):cI B w' s ds:=cI.ad h hc λ_ _ h=>h
theorem cI.aW(h:cI B w s ds)(a:∀k,k<w.heap.size->B k->C k):cI C w s ds:=⟨h.1,h.2.1,In.aW h.2.2 a⟩
theorem bl.len(h:bl B w s ls):s.len=ls.length:=by
 obtain⟨ts,h1,a,_⟩:=h;have:=a.len;rw[dL]at this;omega
theorem nk(ds:O Nat):(dW ds).length=ds.length:=by simp[dW]
theorem cI.len(h:cI B w s ds):s.len=ds.length:=by
 have:=h.1.len;rw[nk]at this;omega
theorem bl.at(h:bl B w s ls){i:Nat}(hi:i<ls.length):∃ (A:ae) (t:U),s.a=some A/\((0:Int)<=(i:Int)/\(i:Int)<(s.len:Int))/\w.cell? (A.add (Int.toNat (i:Int)*1))=some (.slice t.a t.len t.cap)/\a7 B w t ls[i]/\B A.block:=by
 obtain⟨ts,h1,b,f,c,d⟩:=h;obtain⟨A,ar,e,hc⟩:=b.at (i:=i) (v:=hY (ts[i]'I)) (by simp[h1,hi]);exact⟨A,ts[i]'I,ar,e,hc,d i I hi,(c _ ⟨A,ar,rfl⟩).1⟩
theorem cI.at(h:cI B w s ds){i:Nat}(hi:i<ds.length):∃A:ae,s.a=some A/\((0:Int)<=(i:Int)/\(i:Int)<((s.len:Nat):Int))/\w.cell? (A.add (Int.toNat (i:Int)*1))=some (.int .i64 ((ds[i]:Nat):Int)):=by
 obtain⟨A,ar,b,hc⟩:=h.1.at (i:=i) (v:=.int .i64 ((ds[i]:Nat):Int)) (by simp[dW,hi]);exact⟨A,ar,b,hc⟩
theorem bn.iM(h:bn B w s ls):bl B w s ls:=by
 obtain⟨ts,h1,a,b,c⟩:=h;exact⟨ts,h1,a.src,a.2.1,b,λi d e=>(c i d e).1⟩
theorem cQ.qc(h:cQ B w s ds):cI B w s ds:=⟨h.1.src,h.1.2.1,h.2⟩
theorem bn.none(B:Nat->Prop)(w:J):bn B w ⟨.none,0,0⟩ []:=⟨[],rfl,a8.none _ _ _,λk a=>(gg k a).elim,λi h=>by simp at h⟩
theorem cQ.none(B:Nat->Prop)(w:J):cQ B w ⟨.none,0,0⟩ []:=⟨a8.none _ _ _,λk a=>(gg k a).elim⟩
theorem bl.none(B:Nat->Prop)(w:J):bl B w ⟨.none,0,0⟩ []:=bn.iM (bn.none B w)
theorem cI.none(B:Nat->Prop)(w:J):cI B w ⟨.none,0,0⟩ []:=cQ.qc (cQ.none B w)
theorem bn.ad{V:Nat->Prop}(h:bn B w s ls)(hc:ab V w w')(a:∀k,B k->¬V k):bn B w' s ls:=by
 obtain⟨ts,h1,f,b,c⟩:=h;exact⟨ts,h1,f.ad hc λk g=>a k (b k g).1,In.ad b hc,λi d e=>⟨a7.ad (c i d e).1 hc a,(c i d e).2⟩⟩
theorem bn.ext(h:bn B w s ls)(hc:Ext w w'):bn B w' s ls:=bn.ad h hc λ_ _ h=>h
theorem cQ.ad{V:Nat->Prop}(h:cQ B w s ds)(hc:ab V w w')(a:∀k,B k->¬V k):cQ B w' s ds:=⟨h.1.ad hc λk b=>a k (h.2 k b).1,In.ad h.2 hc⟩
theorem cQ.ext(h:cQ B w s ds)(hc:Ext w w'):cQ B w' s ds:=cQ.ad h hc λ_ _ h=>h
theorem a7.some(h:a7 B w t l)(b:l≠ []):∃A,t.a=some A:=by
 cases c:t.a with
 |none=>
  have:=h.1.nil c;exfalso;apply b
  cases l with
  |nil=>rfl
  |cons a l=>simp[aF]at this
 |some A=>exact⟨A,rfl⟩
end
theorem qd:hM ai 127 48 1 24:=⟨by kernel_rfl⟩
theorem qe:hM ai 58 3 1 8:=⟨by kernel_rfl⟩
theorem vM(ts:O U):∀v∈ts.map hY,Plain v:=by
 intro v a;obtain⟨n,_,rfl⟩:=dv.1 a;trivial
theorem xT(ds:O Nat):∀v∈dW ds,Plain v:=by
 intro v a;obtain⟨n,_,rfl⟩:=dv.1 a;trivial
theorem kE{B:Nat->Prop}{w:J}{s:U}{l:O UInt8}(h:Src 1 w s (aF l))(d:l.length<=1000000)(e:∀k,w.heap.size<=k->B k):
 aP ai 135 #[s] w (λv w'=>∃a:U,v=a/\a7 B w' a l/\Ext w w'/\gQ w a):=by
 refine(xJ h d).mono ?_;rintro _ w' ⟨a,rfl,b,hx,hf⟩;exact⟨a,rfl,⟨b.src,b.2.1,λk c=>⟨e k (hf k c),b.lt k c⟩⟩,hx,hf⟩
theorem A8{B:Nat->Prop}{w:J}{s t:U}{ls:O Key}{l:Key}(p:bn B w s ls)(ht:a7 B w t l)(hd:∀k,az t k->¬az s k)(D:ls.length<=1000000)(q:∀k,w.heap.size<=k->B k):
 ∃ (b:U) (w':J),Sem.run ai (Builtin.append_ #[127,127] 127 #[s,.slice (some w.heap.size) 1 1]) (w.alloc (.cells #[t] 48))=.ok b w'/\
  bn B w' b (ls++ [l])/\ab (az s) w w'/\(∀k,az b k->az s k\/w.heap.size<=k):=by
 obtain⟨ts,h1,f,r,u⟩:=p;have E:s.len=ls.length:=by have:=f.1;rw[dL]at this;omega
 obtain⟨b,w',au,g,F,c,d⟩:=qd.push (cH:=127) (w:=w) (s:=s) (xs:=[hY t]) rfl f (λv y=>by rw[fi.1 y];trivial) I;refine⟨b,w',au,⟨ts++ [t],by simp[h1],?_,?_,λi j z=>?_⟩,c,d⟩
 .rw[fP];exact g
 .intro k a
  refine⟨?_,g.lt k a⟩;rcases d k a with h|h
  .exact(r k h).1
  .exact q k h
 .have m:∀ (x:U),(∀k,az x k->k<w.heap.size)->(∀k,az x k->¬az s k)->∀k,az x k->¬az b k:=λx hx A k a C=>by
   rcases d k C with h|h
   .exact A k a h
   .have:=hx k a;omega
  have G:i<ts.length+1:=by simpa using j
  rcases dH i ts.length with h|h
  .obtain⟨n,o⟩:=u i h I
   simp only[l0 h,l0 (show i<ls.length from I)];exact⟨a7.iL n c o,m _ (λk a=>(n.2.2 k a).2) o⟩
  .have:i=ts.length:=by omega
   subst this;have e:(ts++ [t])[ts.length]'j=t:=by simp
   have:(ls++ [l])[ts.length]'z=l:=by rw[nH I];simp
   rw[this,e];exact⟨a7.iL ht c hd,m _ (λk a=>(ht.2.2 k a).2) hd⟩
theorem FG{B:Nat->Prop}{w:J}{s:U}{ds:O Nat}(d:Nat)(b:cQ B w s ds)(l:ds.length<=1000000)(g:∀k,w.heap.size<=k->B k):
 ∃ (a:U) (w':J),Sem.run ai (Builtin.append_ #[58,58] 58 #[s,.slice (some w.heap.size) 1 1]) (w.alloc (.cells #[d] 3))=.ok a w'/\
  cQ B w' a (ds++ [d])/\ab (az s) w w'/\(∀k,az a k->az s k\/w.heap.size<=k):=by
 have m:s.len=ds.length:=by have:=b.1.1;rw[nk]at this;omega
 obtain⟨a,w',au,c,n,i,e⟩:=qe.push (cH:=58) (w:=w) (s:=s) (xs:=[d]) rfl b.1 (λv j=>by rw[fi.1 j];trivial) I;refine⟨a,w',au,⟨by simpa[dW] using c,λk f=>⟨?_,c.lt k f⟩⟩,i,e⟩;rcases e k f with h|h
 .exact(b.2 k h).1
 .exact g k h
structure bz(B:Nat->Prop)(w:J)(n:aB)(K V D:U):Prop where
 keys:bl B w K n.keys
 vals:bl B w V n.vals
 kids:cI B w D n.kids
def dQ(n:aB)(K V D:U):O aa:=[n.leaf,K,V,D]
def cX(n:aB)(K V D:U):aa:=.agg #[n.leaf,K,V,D]
section
variable {B C:Nat->Prop}{w w':J}{n:aB}{K V D:U}
theorem bz.ad{W:Nat->Prop}(h:bz B w n K V D)(hc:ab W w w')(a:∀k,B k->¬W k):bz B w' n K V D:=⟨bl.ad h.keys hc a,bl.ad h.vals hc a,cI.ad h.kids hc a⟩
theorem bz.ext(h:bz B w n K V D)(hc:Ext w w'):bz B w' n K V D:=bz.ad h hc λ_ _ h=>h
theorem bz.aW(h:bz B w n K V D)(a:∀k,k<w.heap.size->B k->C k):bz C w n K V D:=⟨bl.aW h.keys a,bl.aW h.vals a,cI.aW h.kids a⟩
theorem bC{b:Nat}{T:TypeId}{leaf:aj}(h:Var w b [leaf,K,V,D] T):
 w.cell? b=some (.bool leaf)/\w.cell? (Addr.add b 1)=some (.slice K.a K.len K.cap)/\w.cell? (Addr.add b 2)=some (.slice V.a V.len V.cap)/\w.cell? (Addr.add b 3)=some (.slice D.a D.len D.cap):=by
 rw[aw,aw,aw];exact⟨h.cell,h.cell,h.cell,h.cell⟩
end
theorem FH{B:Nat->Prop}{w:J}{s:U}{ls:O Key}(h:bl B w s ls)(f:ls.length<=1000000):
   aP ai 242 #[s,.func (.func 241) #[] #[]] w (λv w'=>v=.bool (ls.any λv=>decide (24<v.length))/\w=w'):=by
 refine okF (af.tT s ⟨241,#[],#[]⟩) ay.tT func242 ?_
 (delta af.tT aA;dsimp only)
 have g:=bl.len h
 have e:iD ai 241:=⟨_,(Option.some_get (show(Tryz.prog.funcs[241]?).isSome=true by kernel_rfl)).symm,by kernel_rfl,by kernel_rfl⟩
 refine Calls.mono (af.Es s ⟨241,#[],#[]⟩ w (λv w'=>(∃i:Int,v=i/\(decide (i>=0))=(ls.any λv=>decide (24<v.length)))/\w=w') ?_) ?_
 · (delta af.rC ak aI ag av;dsimp only)
   refine⟨λi w'=>∃j:Nat,i=j/\j<=ls.length/\w=w'/\∀ (k:Nat) (a:k<ls.length),k<j->(ls[k]).length<=24,λi _=>((ls.length:Int)-i).toNat,⟨0,rfl,cE _,rfl,λk a h=>I⟩,?_⟩
   rintro _ _ ⟨j,rfl,l,rfl,d⟩
   refine⟨λaH=>?_,λc=>?_⟩
   · have aH:j<ls.length:=by have:=b2 aH;omega
     obtain⟨A,t,ar,b,hc,ht,_⟩:=bl.at h aH
     refine⟨A,ar,b,t,hc,e,?_⟩
     have m:=len8 ht.1
     refine Calls.mono (af.ER t w (λv w'=>v=.bool (decide (24<(ls[j]).length))/\w=w') ⟨?_,rfl⟩) ?_
     · congr 1
       rw[fW,cS,cS];omega
     rintro _ _ ⟨_,rfl,rfl,rfl⟩
     refine⟨_,rfl,λb=>⟨⟨j,rfl,?_⟩,rfl⟩,λb=>?_⟩
     · have:(ls.any λv=>decide (24<v.length))=true:=List.any_eq_true.2 ⟨_,cw aH,b⟩
       rw[this];exact dw I
     · have b:=cr b
       rw[bu (n:=(j:Int)+1) I I]
       refine⟨⟨j+1,I,I,rfl,λk a h=>?_⟩,?_⟩
       · rcases dH k j with h1|h1
         · exact d k a h1
         · have:k=j:=by omega
           subst this;omega
       · show((ls.length:Int)-((j:Int)+1)).toNat<((ls.length:Int)-(j:Int)).toNat
         omega
   · have c:j=ls.length:=by have:=cr c;omega
     subst c
     refine⟨⟨-1,rfl,?_⟩,rfl⟩
     have:(ls.any λv=>decide (24<v.length))=false:=by
       rw[o3]
       intro x hx
       obtain⟨k,a,rfl⟩:=eY hx
       have:=d k a a
       simp;omega
     rw[this];rfl
 · rintro _ _ ⟨_,rfl,⟨i,rfl,hi⟩,rfl⟩
   exact⟨i,rfl,by rw[hi],rfl⟩
theorem FI{B:Nat->Prop}{w:J}{s:U}{ds:O Nat}(h:cI B w s ds)(g:ds.length<=1000000):
   aP ai 244 #[s,.func (.func 243) #[] #[]] w (λv w'=>v=.bool (ds.any λd=>decide (1600<=d))/\w=w'):=by
 refine okF (af.tU s ⟨243,#[],#[]⟩) ay.tU func244 ?_
 (delta af.tU aA;dsimp only)
 have l:=cI.len h
 have f:iD ai 243:=⟨_,(Option.some_get (show(Tryz.prog.funcs[243]?).isSome=true by kernel_rfl)).symm,by kernel_rfl,by kernel_rfl⟩
 refine Calls.mono (af.Et s ⟨243,#[],#[]⟩ w (λv w'=>(∃i:Int,v=i/\(decide (i>=0))=(ds.any λd=>decide (1600<=d)))/\w=w') ?_) ?_
 · (delta af.rD ak aI r1 av;dsimp only)
   refine⟨λi w'=>∃j:Nat,i=j/\j<=ds.length/\w=w'/\∀ (k:Nat) (a:k<ds.length),k<j->ds[k]<1600,λi _=>((ds.length:Int)-i).toNat,⟨0,rfl,cE _,rfl,λk a h=>I⟩,?_⟩
   rintro _ _ ⟨j,rfl,m,rfl,e⟩
   refine⟨λaH=>?_,λc=>?_⟩
   · have aH:j<ds.length:=by have:=b2 aH;omega
     obtain⟨A,ar,b,hc⟩:=cI.at h aH
     refine⟨A,ar,b,_,hc,f,?_⟩
     refine Calls.mono (af.ES ((ds[j]:Nat):Int) w (λv w'=>v=.bool (decide (1600<=ds[j]))/\w=w') ⟨?_,rfl⟩) ?_
     · congr 1
       rw[fW,jl,cS,cS,cS];omega
     rintro _ _ ⟨_,rfl,rfl,rfl⟩
     refine⟨_,rfl,λb=>⟨⟨j,rfl,?_⟩,rfl⟩,λb=>?_⟩
     · have:(ds.any λd=>decide (1600<=d))=true:=List.any_eq_true.2 ⟨_,cw aH,b⟩
       rw[this];exact dw I
     · have b:=cr b
       rw[bu (n:=(j:Int)+1) I I]
       refine⟨⟨j+1,I,I,rfl,λk a h=>?_⟩,?_⟩
       · rcases dH k j with h1|h1
         · exact e k a h1
         · have:k=j:=by omega
           subst this;omega
       · show((ds.length:Int)-((j:Int)+1)).toNat<((ds.length:Int)-(j:Int)).toNat
         omega
   · have c:j=ds.length:=by have:=cr c;omega
     subst c
     refine⟨⟨-1,rfl,?_⟩,rfl⟩
     have:(ds.any λd=>decide (1600<=d))=false:=by
       rw[o3]
       intro x hx
       obtain⟨k,a,rfl⟩:=eY hx
       have:=e k a a
       simp;omega
     rw[this];rfl
 · rintro _ _ ⟨_,rfl,⟨i,rfl,hi⟩,rfl⟩
   exact⟨i,rfl,by rw[hi],rfl⟩
theorem A9:∀ {l:O Key},(∀ (i:Nat) (h:i+1<l.length),bH l[i] l[i+1])->l.Pairwise bH
 | [],_=>.nil
 |a::l,h=>by
  have e:=A9 (l:=l) λi hi=>h (i+1) (by simpa using hi)
  refine jD.2 ⟨λb d=>?_,e⟩
  cases l with
  |nil=>simp at d
  |cons c l=>
   have h0:bH a c:=h 0 (by simp)
   rcases cU.1 d with rfl|d
   .exact h0
   .exact lH h0 ((jD.1 e).1 b d)
instance (k:Key):Decidable (cB k):=by unfold cB;infer_instance
theorem og{w:J}{t:U}{l:Key}(h:Src 1 w t (aF l)):aP ai 209 #[t] w (λv w'=>v=.bool (decide (cB l))/\w=w'):=by
 have a:=len8 h;refine okF (af.og t) ay.og func209 ?_;unfold af.og;refine⟨?_,rfl⟩
 congr 1
 rw[fW,ed,cS,cS,cS];unfold cB;omega
theorem j3{B:Nat->Prop}{w:J}{n:aB}{K V D:U}(h:bz B w n K V D)(h1:n.keys.length<=100000)(P:n.vals.length<=100000)(Q:n.kids.length<=100000):
 aP ai 203 #[cX n K V D] w (λv w'=>∃b:aj,v=b/\(b=true↔cF n)/\Ext w w'):=by
 refine okF (af.j3 n.leaf K V D) ay.j3 func203 ?_;(delta af.j3 ag Y ak aI aK av aA bc;dsimp only);refine bh (vs:=[n.leaf,K,V,D]) rfl λw1 d m _=>?_;obtain⟨bU,aA,aR,aK⟩:=bC d;have g:=h.ext m;have y:=bl.len g.keys;have R:=bl.len g.vals;have aN:=cI.len g.kids;refine⟨K,aA,λi w'=>∃j:Nat,i=j/\j<=n.keys.length/\w1=w'/\(∀ (k:Nat) (f:k<n.keys.length),k<j->cB n.keys[k])/\∀ (k:Nat) (f:k+1<n.keys.length),k+1<j->bH n.keys[k] n.keys[k+1],
  λi _=>((n.keys.length:Int)-i).toNat,⟨0,rfl,cE _,rfl,λk f h=>I,λk f h=>I⟩,?_⟩
 rintro _ _ ⟨j,rfl,o,rfl,z,C⟩;refine⟨λaH=>?_,λp=>?_⟩
 .have aH:j<n.keys.length:=by have:=b2 aH;omega
  obtain⟨A,t,ar,a,hc,ht,_⟩:=bl.at g.keys aH;refine⟨A,ar,a,t,hc,(og ht.1).use ?_⟩;rintro _ _ ⟨rfl,rfl⟩;refine⟨_,rfl,cm (λb w'=>w1=w'/\(b=true->¬cF n)/\(b=false->cB n.keys[j]/\∀ (o:1<=j),bH (n.keys[j-1]'I) n.keys[j])) (λq c=>⟨λa=>?_,λa=>?_⟩) ?_⟩
  .have a:¬cB n.keys[j]:=by simpa using a
   exact c _ _ ⟨rfl,λ_ hs=>a (hs.keys.ok _ (cw aH)),λh=>by cases h⟩
  .have a:cB n.keys[j]:=by simpa using a
   refine cm (λb w'=>w1=w'/\(b=true->¬cF n)/\(b=false->∀ (o:1<=j),bH (n.keys[j-1]'I) n.keys[j])) (λS E=>⟨λh0=>?_,λh0=>?_⟩) ?_
   .have h0:1<=j:=by have:=b2 h0;omega
    rw[bu (n:=(j:Int)-1) I I,show(j:Int)-1=((j-1:Nat):Int) from I];obtain⟨G,t2,H,r,L,M,_⟩:=bl.at g.keys (i:=j-1) I;refine⟨K,aA,G,H,r,t2,L,(kA M.1 ht.1).use ?_⟩;rintro _ _ ⟨rfl,rfl⟩;refine⟨_,rfl,E _ _ ⟨rfl,λhc hs=>?_,λhc _=>?_⟩⟩
    .have hc:=b2 hc
     have:bH (n.keys[j-1]'I) n.keys[j]:=mP.1 hs.keys.e_ (j-1) j I aH I;unfold bH at this;omega
    .have hc:=cr hc
     unfold bH;omega
   .have h0:=cr h0
    exact E _ _ ⟨rfl,λh=>(by cases h),λ_ o=>I⟩
   .rintro b w' ⟨rfl,au,s⟩
    exact c _ _ ⟨rfl,au,λr=>⟨a,s r⟩⟩
  .rintro b w' ⟨rfl,au,s⟩
   refine⟨λa=>⟨false,rfl,⟨λh=>(by cases h),λhs=>absurd hs (au a)⟩,m⟩,λa=>?_⟩;obtain⟨N,O⟩:=s a;rw[bu (n:=(j:Int)+1) I I];refine⟨⟨j+1,I,I,rfl,λk f h=>?_,λk f h=>?_⟩,?_⟩
   .rcases dH k j with h1|h1
    .exact z k f h1
    .have:k=j:=by omega
     subst this;exact N
   .rcases dH (k+1) j with h1|h1
    .exact C k f h1
    .have:j=k+1:=by omega
     subst this;exact O I
   .show((n.keys.length:Int)-((j:Int)+1)).toNat<((n.keys.length:Int)-(j:Int)).toNat
    omega
 .have p:j=n.keys.length:=by have:=cr p;omega
  subst p;have F:vt n:=⟨λk f=>by
   obtain⟨i,hi,rfl⟩:=eY f;exact z i hi hi,A9 λi hi=>C i hi hi⟩
  refine⟨n.leaf,bU,λl=>⟨V,aR,K,aA,?_⟩,λl=>⟨K,aA,?_⟩⟩
  .refine cm (λb w'=>w1=w'/\b=(decide (n.vals.length=n.keys.length)&&decide (n.kids=[]))) (λq c=>⟨λa=>⟨D,aK,c _ _ ⟨rfl,?_⟩⟩,λa=>c _ _ ⟨rfl,?_⟩⟩) ?_
   .have a:=eq_of_beq a
    rw[dw (show n.vals.length=n.keys.length from I),jz,fW,kU,cS,←kl];omega
   .have a:¬((V.len:Int)=(K.len:Int)):=λe=>by rw[e]at a;simp at a
    rw[hG I,l1]
   rintro b w' ⟨rfl,rfl⟩;refine cm (λb w'=>w1=w'/\(b=true↔cF n)) (λq c=>⟨λa=>⟨V,aR,(FH g.vals I).use ?_⟩,λa=>c _ _ ⟨rfl,?_⟩⟩) ?_
   .rintro _ _ ⟨rfl,rfl⟩
    refine⟨_,rfl,c _ _ ⟨rfl,?_⟩⟩;simp only[ed,cS]at a;rw[ln,o3];constructor
    .intro u
     exact .inl ⟨F,l,a.1,a.2,λv d=>by have:=u v d;simp at this;omega⟩
    .rintro(hs|hs)
     .intro v d;have:=hs.vals v d;simp;omega
     .have:=hs.inner;rw[l]at this;cases this
   .have a:¬(n.vals.length=n.keys.length/\n.kids=[]):=by simpa using a
    refine⟨λh=>(by cases h),?_⟩;rintro(hs|hs)
    .exact absurd ⟨hs.len,hs.kids⟩ a
    .have:=hs.inner;rw[l]at this;cases this
   rintro b w' ⟨rfl,a⟩;exact⟨b,rfl,a,m⟩
  .refine cm (λb w'=>w1=w'/\b=(decide (n.keys≠ [])&&decide (n.kids.length=n.keys.length+1))) (λq c=>⟨λa=>⟨D,aK,K,aA,c _ _ ⟨rfl,?_⟩⟩,λa=>c _ _ ⟨rfl,?_⟩⟩) ?_
   .have a:=b2 a
    have x:n.keys≠ []:=λe=>by rw[e]at y;simp at y;omega
    rw[dw x,jz,fW,kU,cS,bu I I];omega
   .have a:=cr a
    have x:n.keys=[]:=kl.1 I;rw[hG (λh=>h x),l1]
   rintro b w' ⟨rfl,rfl⟩;refine cm (λb w'=>w1=w'/\b=(decide (n.keys≠ [])&&decide (n.kids.length=n.keys.length+1)&&decide (n.vals=[]))) (λq c=>⟨λa=>⟨V,aR,c _ _ ⟨rfl,?_⟩⟩,λa=>c _ _ ⟨rfl,?_⟩⟩) ?_
   .rw[a,jz,fW,kU,cS,←kl]
    omega
   .rw[a,l1]
   rintro b w' ⟨rfl,rfl⟩;refine cm (λb w'=>w1=w'/\(b=true↔cF n)) (λq c=>⟨λa=>⟨D,aK,(FI g.kids I).use ?_⟩,λa=>c _ _ ⟨rfl,?_⟩⟩) ?_
   .rintro _ _ ⟨rfl,rfl⟩
    refine⟨_,rfl,c _ _ ⟨rfl,?_⟩⟩;simp only[ed,cS]at a;rw[ln,o3];constructor
    .intro u
     exact .inr ⟨F,l,a.1.1,a.1.2,a.2,λv d=>by have:=u v d;simp at this;omega⟩
    .rintro(hs|hs)
     .have:=hs.leaf;rw[l]at this;cases this
     .intro v d;have:=hs.kids v d;simp;omega
   .have a:¬((n.keys≠ []/\n.kids.length=n.keys.length+1)/\n.vals=[]):=λe=>by
     rw[dw e.1.1,dw e.1.2,dw e.2]at a;cases a
    refine⟨λh=>(by cases h),?_⟩;rintro(hs|hs)
    .have:=hs.leaf;rw[l]at this;cases this
    .exact absurd ⟨⟨hs.some,hs.len⟩,hs.vals⟩ a
   rintro b w' ⟨rfl,a⟩;exact⟨b,rfl,a,m⟩
theorem FJ{w:J}{a b:U}{c lb:O UInt8}(h:Src 1 w a (aF c))(i:Src 1 w b (aF lb))(k:c.length+lb.length<=1000):
 aP ai 92 #[.slice (some w.heap.size) 2 2] (w.alloc (.cells #[a,b] 48)) (λv w'=>∃d:U,v=d/\a8 1 5 w' d (aF (c++lb))/\Ext w w'/\gQ w d):=by
 have hx:=eB w (.cells #[a,b] 48);refine(vG (s:=⟨some w.heap.size,2,2⟩) [(a,c),(b,lb)] (Src.new w _ 2 rfl) ?_ (by simp[eJ];omega) (by simp)).mono ?_
 .intro p f
  simp only[cU,eV,eZ]at f;rcases f with rfl|rfl
  .exact h.ext hx
  .exact i.ext hx
 .rintro _ w' ⟨d,rfl,g,j,hf⟩
  have e:eJ [(a,c),(b,lb)]=c++lb:=by simp[eJ]
  rw[e]at g;exact⟨d,rfl,g,hx.trans j,hf.mono hx.size⟩
theorem FK{w:J}{a b c:U}{d lb lc:O UInt8}(i:Src 1 w a (aF d))(j:Src 1 w b (aF lb))(hc:Src 1 w c (aF lc))(l:d.length+lb.length+lc.length<=1000):
 aP ai 92 #[.slice (some w.heap.size) 3 3] (w.alloc (.cells #[a,b,c] 48)) (λv w'=>∃f:U,v=f/\a8 1 5 w' f (aF (d++(lb++lc)))/\Ext w w'/\gQ w f):=by
 have hx:=eB w (.cells #[a,b,c] 48);refine(vG (s:=⟨some w.heap.size,3,3⟩) [(a,d),(b,lb),(c,lc)] (Src.new w _ 3 rfl) ?_ (by simp[eJ];omega) (by simp)).mono ?_
 .intro p g
  simp only[cU,eV,eZ]at g;rcases g with rfl|rfl|rfl
  .exact i.ext hx
  .exact j.ext hx
  .exact hc.ext hx
 .rintro _ w' ⟨f,rfl,h,k,hf⟩
  have e:eJ [(a,d),(b,lb),(c,lc)]=d++(lb++lc):=by simp[eJ]
  rw[e]at h;exact⟨f,rfl,h,hx.trans k,hf.mono hx.size⟩
theorem A_(w:J){n:Nat}(a:n<=255):Src 1 (w.alloc (.cells #[.int .u8 (IntKind.wrap .u8 (n:Int))] 5)) ⟨some w.heap.size,1,1⟩ (aF [UInt8.ofNat n])/\Ext w (w.alloc (.cells #[.int .u8 (IntKind.wrap .u8 (n:Int))] 5)):=by
 have e:(#[.int .u8 (IntKind.wrap .u8 (n:Int))]:Array aa)=(aF [UInt8.ofNat n]).toArray:=by
  rw[w9 I I];simp[aF,iT (show n<256 from I)]
 rw[e];exact⟨Src.new w _ 1 rfl,eB _ _⟩
theorem eu{α:Type}{l:O α}{i:Nat}{d:α}(h:i<l.length):l.getD i d=l[i]:=by
 rw[eX,c_ h];rfl
theorem cF.k_{n:aB}(h:cF n)(a:n.leaf=true):n.vals.length=n.keys.length:=by
 rcases h with h|h
 .exact h.len
 .have:=h.inner;rw[a]at this;cases this
theorem cF.qf{n:aB}(h:cF n)(a:n.leaf=false):n.kids.length=n.keys.length+1:=by
 rcases h with h|h
 .have:=h.leaf;rw[a]at this;cases this
 .exact h.len
theorem m7{B:Nat->Prop}{w:J}{n:aB}{K V D:U}(h:bz B w n K V D)(hs:cF n){i:Nat}(hi:i<n.keys.length)(ad:n.keys.length<=100000):
 aP ai 298 #[cX n K V D,i] w (λv w'=>∃s:U,v=s/\a8 1 5 w' s (aF (gO n i))/\Ext w w'/\gQ w s):=by
 refine okF (af.m7 n.leaf K V D (i:Int)) ay.m7 func298 ?_;(delta af.m7 Y ag aI ba bc ak av r1;dsimp only);refine bh (vs:=[n.leaf,K,V,D]) rfl λw1 r e _=>?_;have u:=b6 w1;have Q:=e.trans u;have R:=h.ext Q;obtain⟨bU,aA,aR,aK⟩:=bC (r.ext u);obtain⟨A,t,ar,L,hc,ht,_⟩:=bl.at R.keys hi;have ae:=(hs.keys.ok _ (cw hi)).2;have S:=len8 ht.1;obtain⟨T,x⟩:=A_ w1.drew (n:=t.len) I;refine aS ⟨λ_=>False,id,K,aA,A,ar,L,id,t,hc,id,K,aA,A,ar,L,id,t,hc,aS ⟨x,aS ?_⟩⟩;refine(FJ (a:=⟨some w1.drew.heap.size,1,1⟩) (b:=t) T (ht.1.ext x) (by simp;omega)).use ?_;rintro _ y ⟨M,rfl,z,W,ah⟩;have d:=u.trans (x.trans W);obtain⟨d0,d1,d2,d3⟩:=bC (r.ext d);have X: [UInt8.ofNat t.len]++n.keys[i]=nd (n.keys.getD i []):=by rw[eu hi,S];rfl
 rw[X]at z;have N:=h.ext (e.trans d);refine⟨M,rfl,n.leaf,d0,λf=>?_,λf=>?_⟩
 .have aj:=hs.k_ f
  have C:i<n.vals.length:=by omega
  have g:=b6 y;have Z:=N.ext g;obtain⟨al,am,O,an⟩:=bC (r.ext (d.trans g));obtain⟨m,t2,o,p,q,P,_⟩:=bl.at Z.vals C;have ao:=hs.vals _ (cw C);have aa:=len8 P.1;obtain⟨ab,j⟩:=A_ y.drew (n:=t2.len) I;refine aS ⟨λ_=>False,id,V,O,m,o,p,id,t2,q,id,V,O,m,o,p,id,t2,q,aS ⟨j,aS ?_⟩⟩;refine(FK (a:=M) (b:=⟨some y.drew.heap.size,1,1⟩) (c:=t2) (z.src.ext (g.trans j)) ab (P.1.ext j) (by rw[nf,eu hi];simp;omega)).use ?_;rintro _ ac ⟨l,rfl,E,F,G⟩;refine⟨l,rfl,l,rfl,?_,(e.trans d).trans (g.trans (j.trans F)),G.mono ((e.trans d).trans (g.trans j)).size⟩;have:nd (n.keys.getD i [])++([UInt8.ofNat t2.len]++n.vals[i])=gO n i:=by
   unfold gO;rw[f,if_pos rfl,eu C,aa];rfl
  rwa[this]at E
 .have ap:=hs.qf f
  have H:i+1<n.kids.length:=by omega
  obtain⟨m,o,p,q⟩:=cI.at N.kids H;have aq:=hs.kids _ (cw H);rw[bu (n:=(i:Int)+1) I I,show(i:Int)+1=((i+1:Nat):Int) from I];refine⟨D,d3,m,o,p,_,q,?_⟩;rw[gN (n:=((n.kids[i+1]:Nat):Int)) I I];refine(ik z.src (n:=n.kids[i+1]) (k:=2) (by rw[nf,eu hi];omega) (by show _<18446744073709551616;omega) ⟨by decide,by decide⟩).use ?_;rintro _ ac ⟨l,rfl,E,F,G⟩;refine⟨l,rfl,l,rfl,?_,(e.trans d).trans F,gQ.mono G (e.trans d).size⟩;have:nd (n.keys.getD i [])++b4 n.kids[i+1] 2=gO n i:=by
   unfold gO;rw[f,if_neg (by simp),eu H]
  rwa[this]at E
theorem vN{n:aB}(hs:cF n){i:Nat}(hi:i<n.keys.length):(gO n i).length<=100:=by
 unfold gO;have:=(hs.keys.ok _ (cw hi)).2;rw[cx,nf,eu hi];split
 .rename_i b
  have a:i<n.vals.length:=by have:=hs.k_ b;omega
  have:=hs.vals _ (cw a);rw[nf,eu a];omega
 .rw[e2];omega
theorem xU{n:aB}(hs:cF n):∀m,m<=n.keys.length->(hV n 0 m).length<=100*m
 |0,_=>by simp[hV]
 |m+1,a=>by
  have:=xU hs m I
  have:=vN hs (i:=m) I
  rw[xL,cx];omega
theorem ot{B:Nat->Prop}{w:J}{n:aB}{K V D:U}(h:bz B w n K V D)(hs:cF n)(am:n.keys.length<=255):
 aP ai 293 #[cX n K V D] w (λv w'=>∃s:U,v=s/\a8 1 5 w' s (aF (ju n))/\Ext w w'/\gQ w s):=by
 refine okF (af.ot n.leaf K V D) ay.ot func293 ?_;(delta af.ot ag Y bc ak aI r1 ba av;dsimp only);refine bh (vs:=[n.leaf,K,V,D]) rfl λw1 g l _=>?_;obtain⟨bU,aA,aR,aK⟩:=bC g;have u:=h.ext l;have E:=bl.len u.keys;have F:(#[.int .u8 (IntKind.wrap .u8 (K.len:Int))]:Array aa)=(aF [UInt8.ofNat n.keys.length]).toArray:=by
  rw[E,w9 I I];simp[aF,iT (show n.keys.length<256 from I)]
 refine⟨K,aA,?_⟩;rw[F];have m:=a8.new (T:=5) (sz:=1) w1 (aF [UInt8.ofNat n.keys.length]) 1 rfl (by decide);have c:=eB w1 (.cells (aF [UInt8.ofNat n.keys.length]).toArray 5);obtain⟨ah,G⟩:∃ah,ah=w1.alloc (.cells (aF [UInt8.ofNat n.keys.length]).toArray 5):=⟨_,rfl⟩;rw[←G]at m c⊢;obtain⟨d0,d1,d2,d3⟩:=bC (g.ext c);have H:=l.trans c;refine aS (cm (λd w'=>a8 1 5 w' d (aF (preB n))/\Ext ah w'/\gQ w1 d) (λq x=>⟨n.leaf,d0,λa=>?_,λa=>x _ _ ⟨?_,.refl _ _,?_⟩⟩) ?_)
 .have a:n.leaf=false:=by simpa using a
  have an:=hs.qf a;have o:0<n.kids.length:=by omega
  obtain⟨L,M,N,O⟩:=cI.at (h.ext H).kids o;have ao:=hs.kids _ (cw o);refine⟨D,d3,L,M,N,_,O,?_⟩;rw[gN (n:=((n.kids[0]:Nat):Int)) I I];refine(ik m.src (n:=n.kids[0]) (k:=2) (by simp) (by show _<18446744073709551616;omega) ⟨by decide,by decide⟩).use ?_;rintro _ P ⟨p,rfl,e,b,f⟩;refine⟨p,rfl,x _ _ ⟨?_,b,gQ.mono f c.size⟩⟩;have: [UInt8.ofNat n.keys.length]++b4 n.kids[0] 2=preB n:=by
   unfold preB;rw[a,if_neg (by simp),eu o];rfl
  rwa[this]at e
 .have a:n.leaf=true:=by simpa using a
  have:preB n=[UInt8.ofNat n.keys.length]:=by unfold preB;rw[a];rfl
  rw[this];exact m
 .rintro k ⟨A,ar,rfl⟩
  cases ar;exact bo _
 rintro ap aq ⟨Q,R,S⟩;have y:=c.trans R;obtain⟨d0,d1,d2,d3⟩:=bC (g.ext y);have aw:(preB n).length<=3:=by
  unfold preB
  cases n.leaf<;>simp[e2]
 refine⟨K,d1,λd i w'=>∃j:Nat,i=j/\j<=n.keys.length/\a8 1 5 w' d (aF (preB n++hV n 0 j))/\Ext w1 w'/\gQ w1 d,λ_ i _=>((n.keys.length:Int)-i).toNat,⟨0,rfl,cE _,by simpa[hV] using Q,y,S⟩,?_⟩;rintro p _ P ⟨j,rfl,W,e,b,f⟩;refine⟨λaH=>?_,λr=>?_⟩
 .have aH:j<n.keys.length:=by have:=b2 aH;omega
  obtain⟨f0,f1,f2,f3⟩:=bC (g.ext b);refine⟨n.leaf,f0,K,f1,V,f2,D,f3,(m7 (u.ext b) hs aH I).use ?_⟩;rintro _ ax ⟨X,rfl,z,t,az⟩;have C:=mq e;have Z:=mq z;have b9:=vN hs aH;have bQ:=xU hs j W;rw[cx]at C;obtain⟨ab,ac,au,ad,aC,ae,aj⟩:=oC.append (cH:=48) z.src (e.ext t) (k8 _) (by rw[C,Z];omega);rw[bu (n:=(j:Int)+1) I I];refine⟨X,rfl,ab,ac,au,⟨j+1,I,I,?_,Ext.dd (b.trans t) ae f,λk al=>?_⟩,?_⟩
  .rw[xL,←cD,oB];exact ad
  .rcases aj k al with h|h
   .exact f k h
   .exact ey (b.trans t).size h
  .show((n.keys.length:Int)-((j:Int)+1)).toNat<((n.keys.length:Int)-(j:Int)).toNat
   omega
 .have r:j=n.keys.length:=by have:=cr r;omega
  subst r;exact⟨p,rfl,e,l.trans b,f.mono l.size⟩
theorem oo{B:Nat->Prop}{w:J}{n:aB}{K V D:U}(h:bz B w n K V D)(hs:cF n)(f:n.keys.length<=255):
 aP ai 280 #[cX n K V D] w (λv w'=>v=.int .i64 (bI n:Nat)/\Ext w w'):=by
 have g:n.vals.length<=100000:=by
  rcases hs with hs|hs
  .rw[hs.len];omega
  .rw[hs.vals];simp
 have i:n.kids.length<=100000:=by
  rcases hs with hs|hs
  .rw[hs.kids];simp
  .rw[hs.len];omega
 refine okF (af.oo n.leaf K V D) ay.oo func280 ?_;(delta af.oo bc Y ag aK ak ba;dsimp only);refine bh (vs:=[n.leaf,K,V,D]) rfl λw1 d a _=>?_;obtain⟨bU,aA,aR,aK⟩:=bC d;refine⟨n.leaf,bU,K,aA,V,aR,D,aK,(j3 (h.ext a) I g i).use ?_⟩;rintro _ ah ⟨b,rfl,j,c⟩;have k:=j.2 hs;subst k;obtain⟨bU,aA,aR,aK⟩:=bC (d.ext c);refine⟨true,rfl,λh=>(by cases h),λ_=>⟨n.leaf,bU,K,aA,V,aR,D,aK,(ot (h.ext (a.trans c)) hs f).use ?_⟩⟩;rintro _ p ⟨l,rfl,m,o,_⟩;have e:=mq m;rw[xO hs]at e;exact⟨l,rfl,by rw[e],(a.trans c).trans o⟩
def Ba(n:aB)(w w':J)(v:aa):Prop:=
 (∃s:U,v=.tuple #[s,(0:Int)]/\a8 1 5 w' s (aF (ju n))/\gQ w s/\cF n/\bI n<=232)\/
 (∃e:Int,v=.tuple #[(),e]/\e≠0/\(cF n->232<bI n))
theorem om{B:Nat->Prop}{w:J}{n:aB}{K V D:U}(h:bz B w n K V D)(o:n.keys.length<=100000)(p:n.vals.length<=100000)(r:n.kids.length<=100000):
 aP ai 274 #[cX n K V D] w (λv w'=>Ba n w w' v/\Ext w w'):=by
 refine okF (af.om n.leaf K V D) ay.om func274 ?_;(delta af.om bc Y ag aK ak ba;dsimp only);refine bh (vs:=[n.leaf,K,V,D]) rfl λw1 e f _=>?_;obtain⟨bU,aA,aR,aK⟩:=bC e;refine⟨n.leaf,bU,K,aA,V,aR,D,aK,(j3 (h.ext f) o p r).use ?_⟩;rintro _ ah ⟨b,rfl,g,i⟩;have d:=f.trans i;obtain⟨bU,aA,aR,aK⟩:=bC (e.ext i);have y:=bl.len h.keys;refine⟨b,rfl,cm (λc w'=>ah=w'/\(c=true->cF n->255<n.keys.length)/\(c=false->cF n/\n.keys.length<=255)) (λq j=>⟨λh1=>j _ _ ⟨rfl,λ_ hs=>?_,λh=>(by cases h)⟩,λh1=>⟨K,aA,j _ _ ⟨rfl,λa hs=>?_,λa=>?_⟩⟩⟩) ?_⟩
 .have h1:b=false:=by simpa using h1
  rw[g.2 hs]at h1;cases h1
 .have:=b2 a;omega
 .have h1:b=true:=by simpa using h1
  have:=cr a;exact⟨g.1 h1,I⟩
 rintro c w' ⟨rfl,au,s⟩;refine⟨λh1=>⟨.inr ⟨4,rfl,by decide,λhs=>?_⟩,d⟩,λh1=>?_⟩
 .have:=au h1 hs
  have:=vB hs;omega
 obtain⟨hs,t⟩:=s h1;refine⟨n.leaf,bU,K,aA,V,aR,D,aK,(ot (h.ext d) hs t).use ?_⟩;rintro _ z ⟨k,rfl,l,m,u⟩;have x:=mq l;rw[xO hs]at x;refine⟨k,rfl,λa=>⟨.inr ⟨10,rfl,by decide,λ_=>?_⟩,d.trans m⟩,λa=>⟨.inl ⟨k,rfl,l,u.mono d.size,hs,?_⟩,d.trans m⟩⟩
 .have:=b2 a;omega
 .have:=cr a;omega
theorem p2{B:Nat->Prop}{w:J}{n:aB}{K V D:U}(h:bz B w n K V D)(d:n.keys.length<=100000)(f:n.vals.length<=100000)(g:n.kids.length<=100000):
 aP ai 295 #[cX n K V D] w (λv w'=>Ba n w w' v/\Ext w w'):=by
 refine okF (af.p2 n.leaf K V D) ay.p2 func295 ?_;(delta af.p2 bc Y ag b8;dsimp only);refine bh (vs:=[n.leaf,K,V,D]) rfl λw1 i a _=>?_;obtain⟨bU,aA,aR,aK⟩:=bC i;refine⟨n.leaf,bU,K,aA,V,aR,D,aK,(om (h.ext a) d f g).use ?_⟩;rintro _ ah ⟨j,c⟩;rcases j with ⟨s,rfl,k,hf,hs,b⟩|⟨e,rfl,he,b⟩
 .exact⟨s,0,rfl,.inl ⟨s,rfl,k,hf.mono a.size,hs,b⟩,a.trans c⟩
 .exact⟨⟨none,0,0⟩,e,rfl,.inr ⟨e,rfl,he,b⟩,a.trans c⟩
theorem dM{w:J}{b i:Nat}{vs:O aa}{T:TypeId}(h:Var w b vs T)(v:aa):Var (w.setCell ⟨b,i,none⟩ v) b (vs.set i v) T:=by
 have:=bq.set h i v;have e:vs.toArray.setIfInBounds i v=(vs.set i v).toArray:=by simp
 rw[e]at this;exact this
theorem dF{w:J}{b i:Nat}{vs:O aa}{T:TypeId}(h:Var w b vs T)(hi:i<vs.length):(∃u:aa,w.cell? ⟨b,i,none⟩=some u)/\w.frozen? ⟨b,i,none⟩=false:=
 ⟨⟨vs[i],by rw[h.cell];simp[hi]⟩,bq.frozen h _ rfl⟩
theorem dp(w:J)(b i:Nat)(v:aa):ab (λq=>q=b) w (w.setCell ⟨b,i,none⟩ v):=ab.gO (.refl _ _) v
structure jv(w:J)(r:Nat)(s:U)(rd:Rd):Prop where
 v:Var w r [s,rd.2] 354
 src:Src 1 w s (aF rd.1)
 le:s.len<=s.cap
 ne:∀k,az s k->k≠r
theorem jv.ad{W:Nat->Prop}{w w':J}{r:Nat}{s:U}{rd:Rd}(h:jv w r s rd)(hc:ab W w w')(h1:¬W r)(a:∀k,az s k->¬W k):jv w' r s rd:=⟨h.v.ad hc h1,h.src.ad hc a,h.le,h.ne⟩
theorem jv.ext{w w':J}{r:Nat}{s:U}{rd:Rd}(h:jv w r s rd)(hc:Ext w w'):jv w' r s rd:=jv.ad h hc id λ_ _ h=>h
theorem vO{a:aq ae}{z l m n c k:Nat}(h:az ⟨aO a z l m,n,c⟩ k):∃A,a=some A/\A.block=k:=by
 obtain⟨A,ar,rfl⟩:=h;unfold aO at ar;split at ar
 .exact⟨A,ar,rfl⟩
 .cases b:a with
  |none=>rw[b]at ar;cases ar
  |some d=>
   rw[b]at ar;simp only[lq,Option.some.injEq]at ar;exact⟨d,rfl,by subst ar;unfold Addr.add;split<;>rfl⟩
theorem Bb{w:J}{r:Nat}{s:U}{rd:Rd}(h:jv w r s rd)(k:Nat)(C:k<=100000)(x:rd.1.length<=100000):
 aP ai 292 #[.pointer (some r),k] w (λv w'=>∃t n:U,v=t/\a7 (λq=>w.heap.size<=q) w' t (hW rd k).1/\jv w' r n (hW rd k).2/\ab (λq=>q=r) w w'/\(∀q,az n q->az s q)):=by
 obtain⟨l,ok⟩:=rd;have f:=h.v;have y:=len8 h.src;simp only at y x f;have aH:=f.lt;refine okF (af.vg (some r) (k:Int)) ay.vg func292 ?_;(delta af.vg bc ak ag st ba;dsimp only);refine⟨_,rfl,ok,by rw[aw];exact f.cell,cm (λb w'=>w=w'/\b=decide (ok=false\/l.length<k)) (λq c=>⟨λh1=>c _ _ ⟨rfl,?_⟩,λh1=>⟨_,rfl,s,f.cell,c _ _ ⟨rfl,?_⟩⟩⟩) ?_⟩
 .have h1:ok=false:=by simpa using h1
  exact(dw (.inl h1)).symm
 .have h1:ok=true:=by simpa using h1
  subst h1;rw[fW,cS,cS];constructor
  .intro h;exact .inr I
  .rintro(h|h)
   .cases h
   .omega
 rintro b w' ⟨rfl,rfl⟩;refine⟨λd=>⟨_,rfl,?_⟩,λd=>⟨_,rfl,s,f.cell,?_⟩⟩
 .have d:=b2 d
  obtain⟨au,g⟩:=dF f (i:=1) (by simp);rw[aw];have hc:=dp w r 1 false;have e:hW (l,ok) k=([],(l,false)):=by unfold hW;rw[if_pos d]
  rw[e];refine⟨au,g,aS ⟨⟨none,0,0⟩,s,rfl,⟨(a8.none 1 5 _).src,bo _,λq c=>(gg q c).elim⟩,⟨dM f _,h.src.ad hc λq c=>h.ne q c,h.le,h.ne⟩,hc,λq c=>c⟩⟩
 .have d:=cr d
  have e:hW (l,ok) k=(l.take k,(l.drop k,true)):=by unfold hW;rw[if_neg d]
  have D:k<=l.length:=by
   rcases dH l.length k with h1|h1
   .exact absurd (.inr h1) d
   .exact h1
  have z:ok=true:=by
   cases ok with
   |true=>rfl
   |false=>exact absurd (.inl rfl) d
  subst z;rw[e];have E:=h.le;refine⟨⟨I,I⟩,?_⟩;have o:=nj h.src h.le (lo:=0) (hi:=k) I I;rw[lu,o4]at o;rw[c8,o4];refine(kE (B:=λq=>w.heap.size<=q) (s:=⟨aO s.a 1 0 s.cap,k,s.cap-0⟩) o (by rw[cv];omega) (λq c=>c)).use ?_;rintro _ w1 ⟨t,rfl,ht,j,F⟩;have m:=f.ext j;obtain⟨au,g⟩:=dF m (i:=0) (by simp);have hc:=dp w1 r 0 (.slice (aO s.a 1 k s.cap) (s.len-k) (s.cap-k));have p:=nj (h.src.ext j) h.le (lo:=k) (hi:=s.len) I (bo _);rw[dI (l:=l.drop k) (by rw[c5];omega)]at p;have u:∀q,az ⟨aO s.a 1 k s.cap,s.len-k,s.cap-k⟩ q->q≠r:=λq c=>by
   obtain⟨A,ar,d⟩:=vO c;exact h.ne q ⟨A,ar,d⟩
  refine⟨t,rfl,_,rfl,s,m.cell,⟨I,I⟩,_,rfl,au,g,aS ⟨t,⟨aO s.a 1 k s.cap,s.len-k,s.cap-k⟩,rfl,a7.ad ht hc (λq c e=>by subst e;omega),⟨dM m _,p.ad hc λq c=>u q c,by show s.len-k<=s.cap-k;omega,u⟩,(ab.cK j).trans hc,λq c=>?_⟩⟩;obtain⟨A,ar,d⟩:=vO c;exact⟨A,ar,d⟩
theorem xV{w:J}{r:Nat}{s:U}{rd:Rd}(h:jv w r s rd)(k:Nat)(c:1<=k/\k<=2)(g:rd.1.length<=100000):
 aP ai 272 #[.pointer (some r),k] w (λv w'=>∃b:U,v=.int .i64 ((rdNum rd k).1:Nat)/\jv w' r b (rdNum rd k).2/\ab (λq=>q=r) w w'/\(∀q,az b q->az s q)):=by
 refine okF (af.vc (some r) (k:Int)) ay.vc func272 ?_;(delta af.vc ba k3 av;dsimp only);refine(Bb h k I g).use ?_;rintro _ w1 ⟨t,b,rfl,ht,d,hc,e⟩;have hlen:(hW rd k).1.length=k\/(hW rd k).1=[]:=by
  unfold hW;split
  .exact .inr rfl
  .rename_i i
   left;rw[cv];have:¬rd.1.length<k:=λh=>i (.inr h);omega
 have f:=nc k (hW rd k).1;have j:256^k<=65536:=ey (sE I c.2) (by decide);refine⟨t,rfl,?_⟩;rcases hlen with hlen|hlen
 .refine(k4 (a:=0) (k:=k) ht.1 ht.2.1 ⟨c.1,I⟩ I I).use ?_
  rintro _ _ ⟨rfl,rfl⟩;have f:=f hlen;rw[lu,dI I];refine⟨_,_,rfl,b,?_,d,hc,e⟩;rw[bu I I];unfold rdNum;rw[if_pos hlen]
 .refine(Fz (k:=k) ht.1 I (by rw[hlen];simp;omega)).use ?_
  rintro _ _ ⟨rfl,rfl⟩;refine⟨_,_,rfl,b,?_,d,hc,e⟩;unfold rdNum;rw[if_neg (by rw[hlen];simp;omega)];rfl
theorem xW(rd:Rd)(k:Nat):(rdNum rd k).1<256^k:=by
 unfold rdNum;split
 .exact nc k _ (by assumption)
 .exact Nat.pow_pos I
theorem Bc(rd:Rd)(k:Nat):(hW rd k).2.1.length<=rd.1.length/\(hW rd k).1.length<=k:=by
 unfold hW;split
 .exact⟨bo _,cE _⟩
 .exact⟨by rw[c5];omega,by rw[cv];omega⟩
theorem vP(rd:Rd)(k:Nat):(rdNum rd k).2.1.length<=rd.1.length:=(Bc rd k).1
theorem Bd(rd:Rd):(jK rd).2.1.length<=rd.1.length/\(jK rd).1.length<=255:=by
 unfold jK;have h1:=Bc (rdNum rd 1).2 (rdNum rd 1).1;have a:=vP rd 1;have b:(rdNum rd 1).1<256:=xW rd 1;exact⟨I,I⟩
theorem Be{w:J}{r:Nat}{s:U}{rd:Rd}(h:jv w r s rd)(d:rd.1.length<=100000):
 aP ai 273 #[.pointer (some r)] w (λv w'=>∃t b:U,v=t/\a7 (λq=>w.heap.size<=q) w' t (jK rd).1/\jv w' r b (jK rd).2/\ab (λq=>q=r) w w'/\(∀q,az b q->az s q)):=by
 refine okF (af.vd (some r)) ay.vd func273 ?_;(delta af.vd aA ba;dsimp only);refine(xV h 1 I d).use ?_;rintro _ w1 ⟨s1,rfl,e,c,f⟩;have k:(rdNum rd 1).1<256:=xW rd 1;have l:=vP rd 1;refine⟨_,rfl,(Bb e (rdNum rd 1).1 I I).use ?_⟩;rintro _ ah ⟨t,s2,rfl,ht,g,i,j⟩;exact⟨t,rfl,t,s2,rfl,a7.aW ht λq _ a=>ey c.size a,g,c.trans i,λq a=>f q (j q a)⟩
theorem bn.aW{B C:Nat->Prop}{w:J}{s:U}{ls:O Key}(h:bn B w s ls)(a:∀k,k<w.heap.size->B k->C k):bn C w s ls:=by
 obtain⟨ts,h1,e,f,b⟩:=h;exact⟨ts,h1,e,In.aW f a,λi c d=>⟨a7.aW (b i c d).1 a,(b i c d).2⟩⟩
theorem cQ.aW{B C:Nat->Prop}{w:J}{s:U}{ds:O Nat}(h:cQ B w s ds)(a:∀k,k<w.heap.size->B k->C k):cQ C w s ds:=⟨h.1,In.aW h.2 a⟩
def Grow(B:Nat->Prop)(w w':J)(q:Nat):Prop:=B q\/(w.heap.size<=q/\q<w'.heap.size)
theorem vQ{w:J}{nb o:Nat}{vs:O aa}{S t:U}{ls:O Key}{l:Key}{B:Nat->Prop}{T:TypeId}{W:Nat->Prop}(d:Var w nb vs T)(p:o<vs.length)(f:bn B w S ls)(g:¬B nb)
 (ht:a7 B w t l) (hd:∀k,az t k->¬az S k) (E:ls.length<=100000) {K:J->Prop}
 (r:∀ (w':J) (aC:U),Var w' nb (vs.set o aC) T->bn (Grow B w w') w' aC (ls++ [l])->ab (λq=>q=nb\/az S q) w w'->K w'):
 al (w.alloc (.cells #[t] 48)) λi=>ab W w i/\∃j:U,∃b:J,Sem.run ai (Builtin.append_ #[127,127] 127 #[S,.slice (some w.heap.size) 1 1]) i=.ok j b/\
  (∃u:aa,b.cell? (Addr.add nb o)=some u)/\b.frozen? (Addr.add nb o)=false/\al (b.setCell (Addr.add nb o) j) λs=>K s:=by
 have v:=bn.aW (C:=λq=>B q\/w.heap.size<=q) f λk _ h=>.inl h;have x:=a7.aW (C:=λq=>B q\/w.heap.size<=q) ht λk _ h=>.inl h;obtain⟨c,w',au,y,m,F⟩:=A8 v x hd I λk a=>.inr a;have G:=d.lt;have z:¬az S nb:=λh=>by
  obtain⟨ts,_,_,A,_⟩:=f;exact g (A nb h).1
 have n:=d.ad m z;obtain⟨aA,aR⟩:=dF n p;refine aS ⟨ab.cK (eB _ _),c,w',au,?_⟩;rw[aw,cA];have hc:=dp w' nb o c;refine⟨aA,aR,aS (r _ c (dM n _) ?_ ?_)⟩
 .have D:=bn.aW (C:=Grow B w (w'.setCell ⟨nb,o,none⟩ c)) y λk a h=>by
   rcases h with h|h
   .exact .inl h
   .exact .inr ⟨h,fO a hc.size⟩
  refine bn.ad D hc λk a e=>?_;subst e;rcases a with h|h
  .exact g h
  .omega
 .exact(m.mono λk _ h=>.inr h).trans (hc.mono λk _ h=>.inl h)
theorem Bf{w:J}{nb o:Nat}{vs:O aa}{S:U}{ds:O Nat}(d:Nat){B:Nat->Prop}{T:TypeId}{W:Nat->Prop}(f:Var w nb vs T)(p:o<vs.length)(g:cQ B w S ds)(i:¬B nb)
 (z:ds.length<=100000) {K:J->Prop}
 (r:∀ (w':J) (aC:U),Var w' nb (vs.set o aC) T->cQ (Grow B w w') w' aC (ds++ [d])->ab (λq=>q=nb\/az S q) w w'->K w'):
 al (w.alloc (.cells #[d] 3)) λj=>ab W w j/\∃l:U,∃b:J,Sem.run ai (Builtin.append_ #[58,58] 58 #[S,.slice (some w.heap.size) 1 1]) j=.ok l b/\
  (∃u:aa,b.cell? (Addr.add nb o)=some u)/\b.frozen? (Addr.add nb o)=false/\al (b.setCell (Addr.add nb o) l) λs=>K s:=by
 have t:=cQ.aW (C:=λq=>B q\/w.heap.size<=q) g λk _ h=>.inl h;obtain⟨c,w',au,v,m,A⟩:=FG d t I λk a=>.inr a;have D:=f.lt;have x:¬az S nb:=λh=>i (g.2 nb h).1;have n:=f.ad m x;obtain⟨aA,aR⟩:=dF n p;refine aS ⟨ab.cK (eB _ _),c,w',au,?_⟩;rw[aw,cA];have hc:=dp w' nb o c;refine⟨aA,aR,aS (r _ c (dM n _) ?_ ?_)⟩
 .have y:=cQ.aW (C:=Grow B w (w'.setCell ⟨nb,o,none⟩ c)) v λk a h=>by
   rcases h with h|h
   .exact .inl h
   .exact .inr ⟨h,fO a hc.size⟩
  refine cQ.ad y hc λk a e=>?_;subst e;rcases a with h|h
  .exact i h
  .omega
 .exact(m.mono λk _ h=>.inr h).trans (hc.mono λk _ h=>.inl h)
structure j6(lo:Nat)(w:J)(r nb:Nat)(s:U)(m:aB×Rd)(K V D:U)(bR b3 bJ:Nat->Prop):Prop where
 v:Var w nb [m.1.leaf,K,V,D] 202
 rd:jv w r s m.2
 keys:bn bR w K m.1.keys
 vals:bn b3 w V m.1.vals
 kids:cQ bJ w D m.1.kids
 bj:∀q,bR q->lo<=q/\q<w.heap.size/\¬b3 q/\¬bJ q
 bv:∀q,b3 q->lo<=q/\q<w.heap.size/\¬bJ q
 aI:∀q,bJ q->lo<=q/\q<w.heap.size
 hs:∀q,az s q->q<lo/\q≠nb
 oF:r<lo
 oG:nb<lo
 j7:r≠nb
 oH:m.2.1.length<=100000
def oI(lo r nb:Nat)(q:Nat):Prop:=q=r\/q=nb\/lo<=q
theorem j6.drew{lo:Nat}{w:J}{r nb:Nat}{s:U}{m:aB×Rd}{K V D:U}{bR b3 bJ:Nat->Prop}(h:j6 lo w r nb s m K V D bR b3 bJ):j6 lo w.drew r nb s m K V D bR b3 bJ:=
 ⟨h.v.ext (b6 w),h.rd.ext (b6 w),bn.ext h.keys (b6 w),bn.ext h.vals (b6 w),cQ.ext h.kids (b6 w),h.bj,h.bv,h.aI,h.hs,h.oF,h.oG,h.j7,h.oH⟩
theorem Bg{leaf:aj}:∀ (s:aB×Rd) (i:Nat),s.1.leaf=leaf->(im s i).1.leaf=leaf
 |_,0,h=>h
 |s,i+1,h=>by
  have a:=Bg s i h
  rw[im]
  unfold oD
  split
  .exact a
  .exact a
theorem Bh:∀ (s:aB×Rd) (i:Nat),(im s i).1.keys.length=s.1.keys.length+i/\(im s i).1.vals.length<=s.1.vals.length+i/\(im s i).1.kids.length<=s.1.kids.length+i
 |_,0=>⟨rfl,bo _,bo _⟩
 |s,i+1=>by
  obtain⟨h1,a,b⟩:=Bh s i
  rw[im]
  unfold oD
  split<;>simp<;>omega
theorem FL{lo:Nat}{w:J}{r nb:Nat}{s:U}{m:aB×Rd}{K V D:U}{bR b3 bJ:Nat->Prop}(h:j6 lo w r nb s m K V D bR b3 bJ)(ag:lo<=w.heap.size)(H:m.1.keys.length<=100000){R:J->Prop}
 (L:∀ (w':J) (l n:U) (M:Nat->Prop),j6 lo w' r nb n (⟨m.1.leaf,m.1.keys++ [(jK m.2).1],m.1.vals,m.1.kids⟩,(jK m.2).2) l V D M b3 bJ->ab (oI lo r nb) w w'->lo<=w'.heap.size->R w'):
 al w.drew λp=>∃x:Nat->Prop,¬x (Addr.add nb 1).block/\∃i:U,p.cell? (Addr.add nb 1)=some (.slice i.a i.len i.cap)/\
  Calls ai 273 #[.pointer (some r)] p λN d=>∃E:U,N=.returned E/\ab x p d/\
  al (d.alloc (.cells #[E] 48)) λF=>ab x d F/\∃G:U,∃j:J,Sem.run ai (Builtin.append_ #[127,127] 127 #[i,.slice (some d.heap.size) 1 1]) F=.ok G j/\
  (∃u:aa,j.cell? (Addr.add nb 1)=some u)/\j.frozen? (Addr.add nb 1)=false/\al (j.setCell (Addr.add nb 1) G) λO=>R O:=by
 have hd:=h.drew;have ah:=h.oF;have aj:=h.oG;obtain⟨bU,aA,aR,aK⟩:=bC hd.v;refine aS ⟨λq=>q=r,λe=>h.j7 (by rw[aw]at e;exact e.symm),K,aA,(Be hd.rd hd.oH).use ?_⟩;rintro _ d ⟨t,n,rfl,ht,P,hc,y⟩;have ak:w.drew.heap.size=w.heap.size:=rfl;have Q:=hc.size;have z:∀ {B:Nat->Prop},(∀q,B q->lo<=q)->∀k,B k->¬(k=r):=λS k c e=>by have:=S k c;omega
 have T:=bn.ad hd.keys hc (z λq b=>(h.bj q b).1);have W:=bn.ad hd.vals hc (z λq b=>(h.bv q b).1);have X:=cQ.ad hd.kids hc (z λq b=>(h.aI q b).1);have Y:=hd.v.ad hc (λe=>h.j7 e.symm);refine⟨t,rfl,hc,vQ (B:=Grow bR w.drew d) Y (o:=1) (by simp) (bn.aW T λk _ h=>.inl h) ?_ (a7.aW ht λk c h=>.inr ⟨h,c⟩) ?_ H λw' l au Z f=>?_⟩
 .rintro(h1|h1)
  .have:=(h.bj nb h1).1;omega
  .omega
 .intro k ac ae
  obtain⟨ts,_,_,A,_⟩:=h.keys;have:=(A k ae).2;have:=(ht.2.2 k ac).1;omega
 have af:∀q,Grow (Grow bR w.drew d) d w' q->bR q\/(w.heap.size<=q/\q<w'.heap.size):=by
  rintro q ((h1|h1)|h1)
  .exact .inl h1
  .exact .inr ⟨h1.1,fO h1.2 f.size⟩
  .exact .inr ⟨ey Q h1.1,h1.2⟩
 have hg:=f.size;have g:∀q,az K q->bR q:=λq b=>by
  obtain⟨ts,_,_,A,_⟩:=h.keys;exact(A q b).1
 refine L w' l n (λq=>bR q\/(w.heap.size<=q/\q<w'.heap.size)) ⟨by simpa using au,P.ad f ?_ ?_,bn.aW Z λk _ c=>af k c,bn.ad W f ?_,cQ.ad X f ?_,?_,λq b=>?_,λq b=>?_,λq b=>h.hs q (y q b),h.oF,h.oG,h.j7,ey (Bd m.2).1 h.oH⟩ ?_ I
 .rintro(h1|h1)
  .exact h.j7 h1
  .have:=(h.bj r (g r h1)).1;omega
 .rintro q b (h1|h1)
  .exact(h.hs q (y q b)).2 h1
  .have:=(h.bj q (g q h1)).1
   have:=(h.hs q (y q b)).1;omega
 .rintro q b (h1|h1)
  .have:=(h.bv q b).1;omega
  .exact(h.bj q (g q h1)).2.2.1 b
 .rintro q b (h1|h1)
  .have:=(h.aI q b).1;omega
  .exact(h.bj q (g q h1)).2.2.2 b
 .rintro q (h1|h1)
  .have:=h.bj q h1;exact⟨this.1,I,this.2.2⟩
  .exact⟨I,h1.2,λC=>by have:=h.bv q C;omega,λC=>by have:=h.aI q C;omega⟩
 .have:=h.bv q b;exact⟨this.1,I,this.2.2⟩
 .have:=h.aI q b;exact⟨this.1,I⟩
 .refine((ab.cK (b6 w)).trans (hc.mono λk _ c=>.inl c)).trans (f.mono λk _ c=>?_)
  rcases c with c|c
  .exact .inr (.inl c)
  .exact .inr (.inr (h.bj k (g k c)).1)
theorem FM{lo:Nat}{w:J}{r nb:Nat}{s:U}{m:aB×Rd}{K V D:U}{bR b3 bJ:Nat->Prop}(h:j6 lo w r nb s m K V D bR b3 bJ)(ag:lo<=w.heap.size)(G:m.1.vals.length<=100000){R:J->Prop}
 (H:∀ (w':J) (l n:U) (L:Nat->Prop),j6 lo w' r nb n (⟨m.1.leaf,m.1.keys,m.1.vals++ [(jK m.2).1],m.1.kids⟩,(jK m.2).2) K l D bR L bJ->ab (oI lo r nb) w w'->lo<=w'.heap.size->R w'):
 al w.drew λp=>∃x:Nat->Prop,¬x (Addr.add nb 2).block/\∃i:U,p.cell? (Addr.add nb 2)=some (.slice i.a i.len i.cap)/\
  Calls ai 273 #[.pointer (some r)] p λM d=>∃C:U,M=.returned C/\ab x p d/\
  al (d.alloc (.cells #[C] 48)) λE=>ab x d E/\∃F:U,∃j:J,Sem.run ai (Builtin.append_ #[127,127] 127 #[i,.slice (some d.heap.size) 1 1]) E=.ok F j/\
  (∃u:aa,j.cell? (Addr.add nb 2)=some u)/\j.frozen? (Addr.add nb 2)=false/\al (j.setCell (Addr.add nb 2) F) λN=>R N:=by
 have hd:=h.drew;have ah:=h.oF;have aj:=h.oG;obtain⟨bU,aA,aR,aK⟩:=bC hd.v;refine aS ⟨λq=>q=r,λe=>h.j7 (by rw[aw]at e;exact e.symm),V,aR,(Be hd.rd hd.oH).use ?_⟩;rintro _ d ⟨t,n,rfl,ht,O,hc,y⟩;have ak:w.drew.heap.size=w.heap.size:=rfl;have P:=hc.size;have z:∀ {B:Nat->Prop},(∀q,B q->lo<=q)->∀k,B k->¬(k=r):=λQ k c e=>by have:=Q k c;omega
 have S:=bn.ad hd.keys hc (z λq b=>(h.bj q b).1);have T:=bn.ad hd.vals hc (z λq b=>(h.bv q b).1);have W:=cQ.ad hd.kids hc (z λq b=>(h.aI q b).1);have X:=hd.v.ad hc (λe=>h.j7 e.symm);refine⟨t,rfl,hc,vQ (B:=Grow b3 w.drew d) X (o:=2) (by simp) (bn.aW T λk _ h=>.inl h) ?_ (a7.aW ht λk c h=>.inr ⟨h,c⟩) ?_ G λw' l au Y f=>?_⟩
 .rintro(h1|h1)
  .have:=(h.bv nb h1).1;omega
  .omega
 .intro k Z ac
  obtain⟨ts,_,_,A,_⟩:=h.vals;have:=(A k ac).2;have:=(ht.2.2 k Z).1;omega
 have ae:∀q,Grow (Grow b3 w.drew d) d w' q->b3 q\/(w.heap.size<=q/\q<w'.heap.size):=by
  rintro q ((h1|h1)|h1)
  .exact .inl h1
  .exact .inr ⟨h1.1,fO h1.2 f.size⟩
  .exact .inr ⟨ey P h1.1,h1.2⟩
 have hg:=f.size;have g:∀q,az V q->b3 q:=λq b=>by
  obtain⟨ts,_,_,A,_⟩:=h.vals;exact(A q b).1
 refine H w' l n (λq=>b3 q\/(w.heap.size<=q/\q<w'.heap.size)) ⟨by simpa using au,O.ad f ?_ ?_,bn.ad S f ?_,bn.aW Y λk _ c=>ae k c,cQ.ad W f ?_,λq b=>?_,?_,λq b=>?_,λq b=>h.hs q (y q b),h.oF,h.oG,h.j7,ey (Bd m.2).1 h.oH⟩ ?_ I
 .rintro(h1|h1)
  .exact h.j7 h1
  .have:=(h.bv r (g r h1)).1;omega
 .rintro q b (h1|h1)
  .exact(h.hs q (y q b)).2 h1
  .have:=(h.bv q (g q h1)).1
   have:=(h.hs q (y q b)).1;omega
 .rintro q b (h1|h1)
  .have:=(h.bj q b).1;omega
  .exact(h.bj q b).2.2.1 (g q h1)
 .rintro q b (h1|h1)
  .have:=(h.aI q b).1;omega
  .exact(h.bv q (g q h1)).2.2 b
 .have:=h.bj q b
  refine⟨this.1,I,?_,this.2.2.2⟩;rintro(h1|h1)
  .exact this.2.2.1 h1
  .omega
 .rintro q (h1|h1)
  .have:=h.bv q h1;exact⟨this.1,I,this.2.2⟩
  .exact⟨I,h1.2,λaf=>by have:=h.aI q af;omega⟩
 .have:=h.aI q b;exact⟨this.1,I⟩
 .refine((ab.cK (b6 w)).trans (hc.mono λk _ c=>.inl c)).trans (f.mono λk _ c=>?_)
  rcases c with c|c
  .exact .inr (.inl c)
  .exact .inr (.inr (h.bv k (g k c)).1)
theorem Bi{lo:Nat}{w:J}{r nb:Nat}{s:U}{m:aB×Rd}{K V D:U}{bR b3 bJ:Nat->Prop}(h:j6 lo w r nb s m K V D bR b3 bJ)(W:lo<=w.heap.size)(A:m.1.kids.length<=100000){R:J->Prop}
 (C:∀ (w':J) (ax l:U) (E:Nat->Prop),j6 lo w' r nb l (⟨m.1.leaf,m.1.keys,m.1.vals,m.1.kids++ [(rdNum m.2 2).1]⟩,(rdNum m.2 2).2) K V ax bR b3 E->ab (oI lo r nb) w w'->lo<=w'.heap.size->R w'):
 al w.drew λn=>∃p:Nat->Prop,¬p (Addr.add nb 3).block/\∃i:U,n.cell? (Addr.add nb 3)=some (.slice i.a i.len i.cap)/\
  Calls ai 272 #[.pointer (some r),(2:Int)] n λF d=>∃n30:Int,F=.returned n30/\ab p n d/\
  al (d.alloc (.cells #[n30] 3)) λy=>ab p d y/\∃z:U,∃j:J,Sem.run ai (Builtin.append_ #[58,58] 58 #[i,.slice (some d.heap.size) 1 1]) y=.ok z j/\
  (∃u:aa,j.cell? (Addr.add nb 3)=some u)/\j.frozen? (Addr.add nb 3)=false/\al (j.setCell (Addr.add nb 3) z) λG=>R G:=by
 have hd:=h.drew;have X:=h.oF;have Y:=h.oG;obtain⟨bU,aA,aR,aK⟩:=bC hd.v;refine aS ⟨λq=>q=r,λe=>h.j7 (by rw[aw]at e;exact e.symm),D,aK,(xV hd.rd 2 (by decide) hd.oH).use ?_⟩;rintro _ d ⟨l,rfl,H,hc,t⟩;have Z:w.drew.heap.size=w.heap.size:=rfl;have L:=hc.size;have x:∀ {B:Nat->Prop},(∀q,B q->lo<=q)->∀k,B k->¬(k=r):=λM k c e=>by have:=M k c;omega
 have N:=bn.ad hd.keys hc (x λq b=>(h.bj q b).1);have O:=bn.ad hd.vals hc (x λq b=>(h.bv q b).1);have P:=cQ.ad hd.kids hc (x λq b=>(h.aI q b).1);have Q:=hd.v.ad hc (λe=>h.j7 e.symm);refine⟨_,rfl,hc,Bf (rdNum m.2 2).1 (B:=bJ) Q (o:=3) (by simp) P (λh1=>by have:=(h.aI nb h1).1;omega) A λw' ax au S f=>?_⟩;have T:∀q,Grow bJ d w' q->bJ q\/(w.heap.size<=q/\q<w'.heap.size):=by
  rintro q (h1|h1)
  .exact .inl h1
  .exact .inr ⟨ey L h1.1,h1.2⟩
 have hg:=f.size;have g:∀q,az D q->bJ q:=λq b=>(h.kids.2 q b).1;refine C w' ax l (λq=>bJ q\/(w.heap.size<=q/\q<w'.heap.size)) ⟨by simpa using au,H.ad f ?_ ?_,bn.ad N f ?_,bn.ad O f ?_,cQ.aW S λk _ c=>T k c,λq b=>?_,λq b=>?_,?_,λq b=>h.hs q (t q b),h.oF,h.oG,h.j7,ey (vP m.2 2) h.oH⟩ ?_ I
 .rintro(h1|h1)
  .exact h.j7 h1
  .have:=(h.aI r (g r h1)).1;omega
 .rintro q b (h1|h1)
  .exact(h.hs q (t q b)).2 h1
  .have:=(h.aI q (g q h1)).1
   have:=(h.hs q (t q b)).1;omega
 .rintro q b (h1|h1)
  .have:=(h.bj q b).1;omega
  .exact(h.bj q b).2.2.2 (g q h1)
 .rintro q b (h1|h1)
  .have:=(h.bv q b).1;omega
  .exact(h.bv q b).2.2 (g q h1)
 .have:=h.bj q b
  refine⟨this.1,I,this.2.2.1,?_⟩;rintro(h1|h1)
  .exact this.2.2.2 h1
  .omega
 .have:=h.bv q b
  refine⟨this.1,I,?_⟩;rintro(h1|h1)
  .exact this.2.2 h1
  .omega
 .rintro q (h1|h1)
  .have:=h.aI q h1;exact⟨this.1,I⟩
  .exact⟨I,h1.2⟩
 .refine((ab.cK (b6 w)).trans (hc.mono λk _ c=>.inl c)).trans (f.mono λk _ c=>?_)
  rcases c with c|c
  .exact .inr (.inl c)
  .exact .inr (.inr (h.aI k (g k c)).1)
end Go.Proofs.YtkdhdlfonmgheaaGreat
