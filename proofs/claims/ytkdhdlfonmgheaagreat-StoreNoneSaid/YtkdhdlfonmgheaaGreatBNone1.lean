/- Contracts of the functions that the statement reaches, and the plain laws over them; each theorem stands with its conditions. -/
import Derived.Laws.Externs
import Derived.Laws.Small
import Derived.Lib.Builder
import Derived.Lib.Bytealg
import Derived.Lib.ConvBytes
import Derived.Lib.MakeNoZero
import Derived.Lib.SlBytesConst
import Derived.Lib.UnsafeStr
import Derived.Test.YtkdhdlfonmgheaaGreatVNone2
namespace Go.Proofs.YtkdhdlfonmgheaaGreat
abbrev Key:=O UInt8
abbrev aQ:=Key×Key
def eF:Key->Key->Int
 | [],[]=>0
 | [],_::_=> -1
 |_::_,[]=>1
 |a::x,b::y=>if a.toNat<b.toNat then -1 else if b.toNat<a.toNat then 1 else eF x y
theorem CE{a b:UInt8}(h1:¬a.toNat<b.toNat)(c:¬b.toNat<a.toNat):a=b:=UInt8.toNat_inj.1 I
theorem vc:∀a:Key,eF a a=0
 | []=>rfl
 |a::x=>by simp[eF,vc x]
theorem vd:∀ {a b:Key},eF a b=0->a=b
 | [],[],_=>rfl
 | [],_::_,h=>by simp[eF]at h
 |_::_,[],h=>by simp[eF]at h
 |a::x,b::y,h=>by
  unfold eF at h
  split at h
  .cases h
  .rename_i h1
   split at h
   .cases h
   .rename_i c
    rw[CE h1 c,vd h]
theorem CF{a b:Key}:eF a b=0↔a=b:=⟨vd,λh=>h▸vc _⟩
theorem yu:∀a b:Key,eF a b= -1\/eF a b=0\/eF a b=1
 | [],[]=>.inr (.inl rfl)
 | [],_::_=>.inl rfl
 |_::_,[]=>.inr (.inr rfl)
 |a::x,b::y=>by
  unfold eF
  split
  .exact .inl rfl
  .split
   .exact .inr (.inr rfl)
   .exact yu x y
theorem yw:∀a b:Key,eF b a=-eF a b
 | [],[]=>rfl
 | [],_::_=>rfl
 |_::_,[]=>rfl
 |a::x,b::y=>by
  unfold eF
  by_cases h1:a.toNat<b.toNat
  .have c:¬b.toNat<a.toNat:=by omega
   simp[h1,c]
  .by_cases c:b.toNat<a.toNat
   .simp[h1,c]
   .simp only[h1,c,if_false]
    exact yw x y
theorem yx:∀ {a b c:Key},eF a b<0->eF b c<0->eF a c<0
 | [],[],_,h,_=>by simp[eF]at h
 | [],_::_,[],_,h=>by simp[eF]at h
 | [],_::_,_::_,_,_=>by simp[eF]
 |_::_,[],_,h,_=>by simp[eF]at h
 |_::_,_::_,[],_,h=>by simp[eF]at h
 |a::x,b::y,c::z,h1,d=>by
  unfold eF at h1 d⊢
  by_cases a1:a.toNat<b.toNat
  .by_cases a2:b.toNat<c.toNat
   .rw[if_pos I];decide
   .rw[if_neg a2]at d
    by_cases a3:c.toNat<b.toNat
    .rw[if_pos a3]at d;omega
    .rw[if_pos I];decide
  .rw[if_neg a1]at h1
   by_cases a2:b.toNat<a.toNat
   .rw[if_pos a2]at h1;omega
   .rw[if_neg a2]at h1
    by_cases a3:b.toNat<c.toNat
    .rw[if_pos I];decide
    .rw[if_neg a3]at d
     by_cases a4:c.toNat<b.toNat
     .rw[if_pos a4]at d;omega
     .rw[if_neg a4]at d
      rw[if_neg I,if_neg I]
      exact yx h1 d
def bU(a b:Key):Prop:=eF a b<0
def fQ(a b:Key):Prop:=¬eF b a<0
instance (a b:Key):Decidable (bU a b):=by unfold bU;infer_instance
instance (a b:Key):Decidable (fQ a b):=by unfold fQ;infer_instance
theorem kQ{a b c:Key}(h1:bU a b)(d:bU b c):bU a c:=yx h1 d
theorem ot(a:Key):¬bU a a:=by unfold bU;rw[vc];decide
theorem jN{a b:Key}(h:bU a b):¬bU b a:=λc=>ot a (kQ h c)
theorem ve(a b:Key):bU a b\/a=b\/bU b a:=by
 unfold bU;have h:=yw a b;rcases yu a b with h1|h1|h1
 .exact .inl I
 .exact .inr (.inl (vd h1))
 .exact .inr (.inr I)
theorem mM{a b:Key}:fQ a b↔bU a b\/a=b:=by
 constructor
 .intro h
  rcases ve a b with h1|h1|h1
  .exact .inl h1
  .exact .inr h1
  .exact absurd h1 h
 .rintro(h|rfl)
  .exact jN h
  .exact ot _
theorem CG(a:Key):fQ a a:=ot a
theorem hK{a b:Key}(h:bU a b):fQ a b:=mM.2 (.inl h)
theorem yy{a b:Key}:¬bU a b↔fQ b a:=Iff.rfl
theorem mN{a b c:Key}(h1:bU a b)(d:fQ b c):bU a c:=by
 rcases mM.1 d with h|rfl
 .exact kQ h1 h
 .exact h1
theorem jq{a b c:Key}(h1:fQ a b)(d:bU b c):bU a c:=by
 rcases mM.1 h1 with h|rfl
 .exact kQ h d
 .exact d
theorem yz{a b c:Key}(h1:fQ a b)(d:fQ b c):fQ a c:=by
 rcases mM.1 h1 with h|rfl
 .exact hK (mN h d)
 .exact d
def iy(l:O aQ):Prop:=l.Pairwise λa b=>bU a.1 b.1
def gb(l:O aQ)(k v:Key):O aQ:=(l.filter λp=>decide (bU p.1 k))++(k,v)::l.filter λp=>decide (bU k p.1)
def fR(l:O aQ)(k:Key):O aQ:=l.filter λp=>decide (p.1≠k)
def gC(l:O aQ)(k:Key):an Key:=(l.find? λp=>decide (p.1=k)).map (·.2)
def eV(lo hi:an Key)(k:Key):Prop:=(∀a,lo=some a->fQ a k)/\(∀b,hi=some b->bU k b)
theorem CH{a b:O aQ}{k v:Key}(h:∀p∈b,bU k p.1):gb (a++b) k v=gb a k v++b:=by
 have d:b.filter (λp=>decide (bU p.1 k))=[]:=oY.2 λp c=>by simpa using jN (h p c)
 have e:b.filter (λp=>decide (bU k p.1))=b:=ku.2 λp c=>dv (h p c);unfold gb;rw[j2,j2,d,e,fX,cW,oT]
theorem CI{a b:O aQ}{k v:Key}(h:∀p∈a,bU p.1 k):gb (a++b) k v=a++gb b k v:=by
 have d:a.filter (λp=>decide (bU p.1 k))=a:=ku.2 λp c=>dv (h p c);have e:a.filter (λp=>decide (bU k p.1))=[]:=oY.2 λp c=>by simpa using jN (h p c)
 unfold gb;rw[j2,j2,d,e,j1,cW]
theorem tf(a b:O aQ)(k:Key):fR (a++b) k=fR a k++fR b k:=j2 ..
theorem vf{a:O aQ}{k:Key}(h:∀p∈a,p.1≠k):fR a k=a:=ku.2 λp b=>dv (h p b)
theorem ou{a b:Key}(h:bU a b):a≠b:=λe=>ot b (e▸h)
theorem CJ{a b:O aQ}:iy (a++b)↔iy a/\iy b/\∀p∈a,∀q∈b,bU p.1 q.1:=nr
theorem CK{l:O aQ}{k v:Key}{p:aQ}:p∈gb l k v↔p=(k,v)\/(p∈l/\p.1≠k):=by
 unfold gb;rw[cG,cR,g0,g0,cO,cO];constructor
 .rintro(⟨h,a⟩|rfl|⟨h,a⟩)
  .exact .inr ⟨h,ou a⟩
  .exact .inl rfl
  .exact .inr ⟨h,(ou a).symm⟩
 .rintro(rfl|⟨h,a⟩)
  .exact .inr (.inl rfl)
  .rcases ve p.1 k with b|b|b
   .exact .inl ⟨h,b⟩
   .exact absurd b a
   .exact .inr (.inr ⟨h,b⟩)
end Go.Proofs.YtkdhdlfonmgheaaGreat
namespace Go.Proofs.YtkdhdlfonmgheaaGreat
structure az where
 leaf:ag
 keys:O Key
 vals:O Key
 kids:O Nat
 deriving DecidableEq
abbrev Below:=an Key->an Key->Nat->O Nat->O aQ->Prop
inductive dB (W:Below):an Key->an Key->O Key->O Nat->O Nat->O aQ->Prop
 |one {lo hi:an Key}{k:Nat}{p:O Nat}{L:O aQ} (h:W lo hi k p L):dB W lo hi [] [k] p L
 |cons {lo hi:an Key}{s:Key}{k:Nat}{bo bj:O Nat}{bl bJ:O aQ}{ks:O Key}{kids:O Nat} (h:W lo (some s) k bo bl) (t:dB W (some s) hi ks kids bj bJ):
  dB W lo hi (s::ks) (k::kids) (bo++bj) (bl++bJ)
variable {W:Below}{lo hi:an Key}
theorem dB.len{ks:O Key}{kids p:O Nat}{L:O aQ}(h:dB W lo hi ks kids p L):kids.length=ks.length+1:=by
 induction h with
 |one _=>rfl
 |cons _ _ a=>simp[a]
theorem dB.app{s:Key}{g5 jr:O Key}{hL kf bo bj:O Nat}{bl bJ:O aQ}(h1:dB W lo (some s) g5 hL bo bl)(b:dB W (some s) hi jr kf bj bJ):
 dB W lo hi (g5++s::jr) (hL++kf) (bo++bj) (bl++bJ):=by
 generalize a:some s=m at h1
 induction h1 with
 |one h=>subst a;exact .cons h b
 |cons h t c=>
  rw[cW,cW];exact .cons h (c a)
theorem dB.cut:∀ {g5:O Key}{s:Key}{jr:O Key}{lo:an Key}{kids p:O Nat}{L:O aQ},dB W lo hi (g5++s::jr) kids p L->
 ∃ (hL kf bo bj:O Nat) (bl bJ:O aQ),kids=hL++kf/\p=bo++bj/\L=bl++bJ/\dB W lo (some s) g5 hL bo bl/\dB W (some s) hi jr kf bj bJ
 | [],s,jr,lo,kids,p,L,h=>by
  cases h with
  |cons h t=>exact⟨_,_,_,_,_,_,rfl,rfl,rfl,.one h,t⟩
 |a::g5,s,jr,lo,kids,p,L,h=>by
  cases h with
  |cons h t=>
   obtain⟨bR,b3,bo,bj,bl,bJ,rfl,rfl,rfl,h1,b⟩:=dB.cut t
   exact⟨_::bR,b3,_++bo,bj,_++bl,bJ,rfl,by rw[cW],by rw[cW],.cons h h1,b⟩
theorem dB.mono{V:Below}{ks:O Key}{kids p:O Nat}{L:O aQ}(h:dB W lo hi ks kids p L)(a:∀lo hi k p L,(∀x∈p,x∈p)->W lo hi k p L->V lo hi k p L):dB V lo hi ks kids p L:=by
 induction h with
 |one h=>exact .one (a _ _ _ _ _ (λ_ h=>h) h)
 |cons h _ b=>exact .cons (a _ _ _ _ _ (λ_ h=>h) h) b
theorem dB.kg{V:Below}{ks:O Key}{kids p:O Nat}{L:O aQ}(h:dB W lo hi ks kids p L)(b:∀lo hi k a L,(∀x∈a,x∈p)->W lo hi k a L->V lo hi k a L):dB V lo hi ks kids p L:=by
 induction h with
 |one h=>exact .one (b _ _ _ _ _ (λ_ h=>h) h)
 |cons h _ c=>
  exact .cons (b _ _ _ _ _ (λx hx=>im _ hx) h) (c λlo hi k a L hs=>b lo hi k a L λx hx=>gL _ (hs x hx))
def cT(k:Key):Prop:=1<=k.length/\k.length<=24
structure tg(n:az):Prop where
 ok:∀k∈n.keys,cT k
 e8:n.keys.Pairwise bU
structure gT(n:az):Prop extends tg n where
 leaf:n.leaf=true
 len:n.vals.length=n.keys.length
 kids:n.kids=[]
 vals:∀v∈n.vals,v.length<=24
structure vg(n:az):Prop extends tg n where
 inner:n.leaf=false
 some:n.keys≠ []
 len:n.kids.length=n.keys.length+1
 vals:n.vals=[]
 kids:∀k∈n.kids,k<1600
def az.fi(n:az):O aQ:=n.keys.zip n.vals
def az.within(n:az)(lo hi:an Key):Prop:=∀k∈n.keys,eV lo hi k
def ek(P:Nat->an az):Nat->Below
 |0=> λ_ _ _ _ _=>False
 |1=> λlo hi no p L=>∃n,P no=some n/\gT n/\n.within lo hi/\n.keys≠ []/\p=[no]/\L=n.fi
 |h+2=> λlo hi no p L=>∃n a,P no=some n/\vg n/\n.within lo hi/\p=no::a/\
  dB (λlo hi k p L=>ek P (h+1) lo hi k p L/\∃m,P k=some m/\2<=m.keys.length) lo hi n.keys n.kids a L
theorem ek.agree{P Q:Nat->an az}:∀ {h:Nat}{lo hi:an Key}{no:Nat}{p:O Nat}{L:O aQ},ek P h lo hi no p L->(∀x∈p,P x=Q x)->ek Q h lo hi no p L/\no∈p
 |0,_,_,_,_,_,e,_=>e.elim
 |1,_,_,no,_,_,⟨n,h1,a,f,g,c,i⟩,b=>by
  have d:no∈ [no]:=by simp
  rw[c]
  exact⟨⟨n,by rw[←b no (by rw[c];exact d)];exact h1,a,f,g,rfl,i⟩,d⟩
 |h+2,_,_,no,_,_,⟨n,j,h1,a,f,g,c⟩,b=>by
  subst g
  refine⟨⟨n,j,by rw[←b no (by simp)];exact h1,a,f,rfl,c.kg λlo hi k q L hs ⟨e,m,d,a⟩=>?_⟩,by simp⟩
  have:=ek.agree e λx hx=>b x (jb _ (hs x hx))
  exact⟨this.1,m,by rw[←b k (jb _ (hs k this.2))];exact d,a⟩
end Go.Proofs.YtkdhdlfonmgheaaGreat
namespace Go.Proofs.YtkdhdlfonmgheaaGreat
variable {W:Below}{lo hi:an Key}{P:Nat->an az}
theorem CL{lo hi:an Key}{s k:Key}(h1:eV lo (some s) k)(a:eV lo hi s):eV lo hi k:=
 ⟨h1.1,λb c=>kQ (h1.2 s rfl) (a.2 b c)⟩
theorem CM{lo hi:an Key}{s k:Key}(h1:eV (some s) hi k)(b:eV lo hi s):eV lo hi k:=
 ⟨λa c=>yz (b.1 a c) (h1.1 s rfl),h1.2⟩
theorem dB.e8{ks:O Key}{kids p:O Nat}{L:O aQ}(h:dB W lo hi ks kids p L)(cd:∀lo hi k p L,W lo hi k p L->iy L/\∀q∈L,eV lo hi q.1)(e:ks.Pairwise bU)(c:∀s∈ks,eV lo hi s):
 iy L/\∀q∈L,eV lo hi q.1:=by
 induction h with
 |one h=>exact cd _ _ _ _ _ h
 | @cons lo hi s k bo bj bl bJ ks kids h t f=>
  obtain⟨r1,b8⟩:=cd _ _ _ _ _ h;have d:=kx.1 e;obtain⟨b4,bM⟩:=f d.2 λx hx=>⟨λa g=>by cases g;exact hK (d.1 x hx),(c x (jb _ hx)).2⟩;have hs:=c s List.mem_cons_self;refine⟨CJ.2 ⟨r1,b4,λx hx y i=>mN ((b8 x hx).2 s rfl) ((bM y i).1 s rfl)⟩,λq b=>?_⟩;rcases cG.1 b with b|b
  .exact CL (b8 q b) hs
  .exact CM (bM q b) hs
theorem yA:∀ {ks vs:O Key},ks.Pairwise bU->iy (ks.zip vs)
 | [],vs,_=>by rw[List.zip_nil_left];exact List.Pairwise.nil
 |k::ks,[],_=>by rw[List.zip_nil_right];exact List.Pairwise.nil
 |k::ks,v::vs,h=>by
  rw[List.zip_cons_cons]
  have:=kx.1 h
  exact kx.2 ⟨λq a=>this.1 _ (List.of_mem_zip a).1,yA this.2⟩
theorem gT.fi{n:az}(h:gT n):iy n.fi/\n.fi.length=n.keys.length:=⟨yA h.e8,by unfold az.fi;rw[nt,h.len,Nat.min_self]⟩
theorem ek.e8:∀ {h:Nat}{lo hi:an Key}{no:Nat}{p:O Nat}{L:O aQ},ek P h lo hi no p L->iy L/\∀q∈L,eV lo hi q.1
 |0,_,_,_,_,_,a=>a.elim
 |1,_,_,_,_,_,⟨n,_,b,c,_,_,d⟩=>by
  subst d
  exact⟨b.fi.1,λq e=>c _ (List.of_mem_zip e).1⟩
 |h+2,_,_,_,_,_,⟨n,_,_,b,c,_,f⟩=>f.e8 (λ_ _ _ _ _ a=>ek.e8 a.1) b.e8 c
theorem dB.count{ks:O Key}{kids p:O Nat}{L:O aQ}(h:dB W lo hi ks kids p L){c:Nat}(cd:∀lo hi k p L,W lo hi k p L->p.length+1<=L.length/\c<=L.length):
 p.length+kids.length<=L.length/\c*kids.length<=L.length:=by
 induction h with
 |one h=>have:=cd _ _ _ _ _ h;simp;omega
 |cons h _ a=>
  have:=cd _ _ _ _ _ h;simp only[cE,fD,Nat.mul_add,fu];omega
theorem ek.count:∀ {h:Nat}{lo hi:an Key}{no:Nat}{p:O Nat}{L:O aQ},ek P h lo hi no p L->((∃m,P no=some m/\2<=m.keys.length)\/2<=h)->p.length+1<=L.length/\2^h<=L.length
 |0,_,_,_,_,_,d,_=>d.elim
 |1,_,_,_,_,_,⟨n,h1,b,_,_,f,g⟩,a=>by
  rcases a with ⟨m,e,a⟩|a
  .rw[h1]at e
   cases e
   subst f g
   have:=b.fi.2
   simp only[hX];omega
  .omega
 |h+2,_,_,_,_,_,⟨n,j,_,b,_,i,f⟩,_=>by
  have hc:=f.count (c:=2^(h+1)) λlo hi k p L ⟨d,a⟩=>ek.count d (.inl a)
  have hl:=b.len
  have hs:1<=n.keys.length:=qC.2 b.some
  subst i
  have:2^(h+1)*2<=2^(h+1)*n.kids.length:=Nat.mul_le_mul_left _ I
  rw[Nat.pow_succ 2 (h+1)]
  simp only[fD]
  omega
theorem ek.pages{h:Nat}{lo hi:an Key}{no:Nat}{p:O Nat}{L:O aQ}(a:ek P h lo hi no p L):p.length<=L.length/\1<=L.length/\(2<=h->2^h<=L.length):=by
 match h with
 |0=>exact a.elim
 |1=>
  obtain⟨n,h1,b,_,c,d,e⟩:=a;subst d e;have:=b.fi.2;have f:=qC.2 c;simp only[hX];exact⟨I,I,I⟩
 |h+2=>
  have:=ek.count a (.inr I);exact⟨I,I,λ_=>this.2⟩
end Go.Proofs.YtkdhdlfonmgheaaGreat
namespace Go.Proofs.YtkdhdlfonmgheaaGreat
variable {W V:Below}{lo hi:an Key}
inductive eW (W:Below) (lo:an Key):an Key->O Key->O Nat->O Nat->O aQ->Prop
 |nil:eW W lo lo [] [] [] []
 |more {s:Key}{ks:O Key}{kids p:O Nat}{L:O aQ} (h:dB W lo (some s) ks kids p L):eW W lo (some s) (ks++ [s]) kids p L
inductive fF (W:Below) (hi:an Key):an Key->O Key->O Nat->O Nat->O aQ->Prop
 |nil:fF W hi hi [] [] [] []
 |more {s:Key}{ks:O Key}{kids p:O Nat}{L:O aQ} (h:dB W (some s) hi ks kids p L):fF W hi (some s) (s::ks) kids p L
variable {m:an Key}{g5 jr:O Key}{hL kf bo bj:O Nat}{bl bJ:O aQ}
theorem eW.CN(h1:eW W lo m g5 hL bo bl)(a:dB W m hi jr kf bj bJ):dB W lo hi (g5++jr) (hL++kf) (bo++bj) (bl++bJ):=by
 cases h1 with
 |nil=>exact a
 |more h=>rw[cW];exact h.app a
theorem dB.post(h1:dB W lo m g5 hL bo bl)(a:fF W hi m jr kf bj bJ):dB W lo hi (g5++jr) (hL++kf) (bo++bj) (bl++bJ):=by
 cases a with
 |nil=>simpa using h1
 |more h=>exact h1.app h
theorem eW.cons{s:Key}{k:Nat}{p:O Nat}{L:O aQ}(h:W lo (some s) k p L)(t:eW W (some s) m g5 hL bo bl):eW W lo m (s::g5) (k::hL) (p++bo) (L++bl):=by
 cases t with
 |nil=>rw[fX,fX];exact eW.more (ks:=[]) (.one h)
 |more t=>exact eW.more (ks:=s::_) (.cons h t)
theorem eW.kg(h:eW W lo m g5 hL bo bl)(b:∀lo hi k a L,(∀x∈a,x∈bo)->W lo hi k a L->V lo hi k a L):eW V lo m g5 hL bo bl:=by
 cases h with
 |nil=>exact .nil
 |more h=>exact .more (h.kg b)
theorem fF.kg(h:fF W hi m g5 hL bo bl)(b:∀lo hi k a L,(∀x∈a,x∈bo)->W lo hi k a L->V lo hi k a L):fF V hi m g5 hL bo bl:=by
 cases h with
 |nil=>exact .nil
 |more h=>exact .more (h.kg b)
theorem dB.at{ks:O Key}{kids p:O Nat}{L:O aQ}(h:dB W lo hi ks kids p L):∀ (i:Nat) (c:i<kids.length),∃ (d e:an Key) (bo q bj:O Nat) (bl M bJ:O aQ),
 p=bo++(q++bj)/\L=bl++(M++bJ)/\W d e kids[i] q M/\eW W lo d (ks.take i) (kids.take i) bo bl/\fF W hi e (ks.drop i) (kids.drop (i+1)) bj bJ:=by
 induction h with
 | @one lo hi k p L h=>
  intro i c;have:i=0:=by simp at c;omega
  subst this;exact⟨lo,hi,[],p,[],[],L,[],by simp,by simp,h,.nil,.nil⟩
 | @cons lo hi s k bo bj bl bJ ks kids h t f=>
  intro i c
  cases i with
  |zero=>exact⟨lo,some s,[],bo,bj,[],bl,bJ,rfl,rfl,h,.nil,.more t⟩
  |succ i=>
   obtain⟨d,e,a,q,b,A,M,B,rfl,rfl,h1,g,j⟩:=f i (by simpa using c);exact⟨d,e,bo++a,q,b,bl++A,M,B,by rw[cW],by rw[cW],h1,eW.cons h g,j⟩
theorem eW.inv{kids p:O Nat}{L:O aQ}(h:eW W lo m [] kids p L):m=lo/\kids=[]/\p=[]/\L=[]:=by
 generalize e:([]:O Key)=K at h
 cases h with
 |nil=>exact⟨rfl,rfl,rfl,rfl⟩
 |more h=>simp at e
theorem fF.head{ks:O Key}{kids p:O Nat}{L:O aQ}(h:fF W hi m ks kids p L)(b:0<kids.length):∃ (s:Key) (a:an Key) (q bj:O Nat) (M bJ:O aQ) (hs:0<ks.length),
 m=some s/\s=ks[0]/\p=q++bj/\L=M++bJ/\W (some s) a (kids[0]) q M/\fF W hi a (ks.drop 1) (kids.drop 1) bj bJ:=by
 cases h with
 |nil=>simp at b
 | @more s ks kids p L h=>
  obtain⟨e,a,bo,q,bj,bl,M,bJ,rfl,rfl,h1,c,d⟩:=h.at 0 b;rw[List.take_zero]at c;obtain⟨rfl,_,rfl,rfl⟩:=c.inv;exact⟨s,a,q,bj,M,bJ,by simp,rfl,rfl,rfl,rfl,h1,by simpa using d⟩
end Go.Proofs.YtkdhdlfonmgheaaGreat
namespace Go.Proofs.YtkdhdlfonmgheaaGreat
variable {W V:Below}{lo hi m:an Key}
def ew(ks:O Key)(k:Key):Nat:=ks.findIdx λs=>decide (bU k s)
theorem vh(ks:O Key)(k:Key):ew ks k<=ks.length:=List.findIdx_le_length
theorem CO{ks:O Key}{k:Key}{i:Nat}(h:i<ew ks k)(hi:i<ks.length):fQ ks[i] k:=by
 have:=List.not_of_lt_findIdx h;exact yy.1 (by simpa using this)
theorem CP{ks:O Key}{k:Key}(h:ew ks k<ks.length):bU k ks[ew ks k]:=by
 have:=List.findIdx_getElem (p:=λs=>decide (bU k s)) (xs:=ks) (w:=h);exact cf this
theorem eW.CQ{i:Nat}{ks:O Key}{kids p:O Nat}{L:O aQ}(h:eW W lo m (ks.take i) kids p L){k:Key}(hl:∀ (j:Nat) (b:j<ks.length),j<i->fQ ks[j] k)(c:∀a,lo=some a->fQ a k):∀a,m=some a->fQ a k:=by
 generalize e:ks.take i=K at h
 cases h with
 |nil=>exact c
 | @more s g kids p L h=>
  intro a d
  cases d;have f:s∈ks.take i:=by rw[e];simp
  obtain⟨j,b,rfl⟩:=List.mem_take_iff_getElem.1 f;exact hl j I I
theorem fF.CR{i:Nat}{ks:O Key}{kids p:O Nat}{L:O aQ}(h:fF W hi m (ks.drop i) kids p L){k:Key}(hl:∀ (h:i<ks.length),bU k ks[i])(b:∀a,hi=some a->bU k a):∀a,m=some a->bU k a:=by
 generalize e:ks.drop i=K at h
 cases h with
 |nil=>exact b
 | @more s d kids p L h=>
  intro a c
  cases c;have aJ:i<ks.length:=by
   have:=congrArg List.length e;simp at this;omega
  have:ks[i]=s:=by
   have:=k_ aJ;rw[e]at this;exact(List.cons.inj this).1.symm
  rw[←this];exact hl aJ
theorem eW.below{ks:O Key}{kids p:O Nat}{L:O aQ}(h:eW W lo m ks kids p L)(cd:∀lo hi k p L,W lo hi k p L->iy L/\∀q∈L,eV lo hi q.1)(f:ks.Pairwise bU)(c:∀s∈ks,eV lo hi s)
 {k:Key} (g:∀a,m=some a->fQ a k):∀q∈L,bU q.1 k:=by
 cases h with
 |nil=>intro q d;cases d
 | @more s i kids p L h=>
  have e:=nr.1 f;have:=h.e8 cd e.1 λx hx=>⟨(c x (by simp[hx])).1,λb c=>by cases c;exact e.2.2 x hx s (by simp)⟩;exact λq d=>mN ((this.2 q d).2 s rfl) (g s rfl)
theorem fF.CS{ks:O Key}{kids p:O Nat}{L:O aQ}(h:fF W hi m ks kids p L)(cd:∀lo hi k p L,W lo hi k p L->iy L/\∀q∈L,eV lo hi q.1)(d:ks.Pairwise bU)(e:∀s∈ks,eV lo hi s)
 {k:Key} (f:∀a,m=some a->bU k a):∀q∈L,bU k q.1:=by
 cases h with
 |nil=>intro q b;cases b
 | @more s i kids p L h=>
  have c:=kx.1 d;have:=h.e8 cd c.2 λx hx=>⟨λa g=>by cases g;exact hK (c.1 x hx),(e x (by simp[hx])).2⟩;exact λq b=>mN (f s rfl) ((this.2 q b).1 s rfl)
def Loc(k:Key)(u:O aQ->O aQ):Prop:=∀bl M bJ:O aQ,(∀p∈bl,bU p.1 k)->(∀p∈bJ,bU k p.1)->u (bl++(M++bJ))=bl++(u M++bJ)
theorem CT(k v:Key):Loc k λL=>gb L k v:=λbl M bJ h1 a=>by
 show gb _ _ _=_
 rw[CI h1,CH a]
theorem CU(k:Key):Loc k λL=>fR L k:=λbl M bJ h1 b=>by
 show fR _ _=_
 rw[tf,tf,vf λp a=>ou (h1 p a),vf λp a=>(ou (b p a)).symm]
end Go.Proofs.YtkdhdlfonmgheaaGreat
namespace Go.Proofs.YtkdhdlfonmgheaaGreat
variable {W V:Below}{lo hi m:an Key}{P Q:Nat->an az}
def eL(P:Nat->an az)(h:Nat):Below:=λlo hi k p L=>ek P h lo hi k p L/\∃m,P k=some m/\2<=m.keys.length
theorem eL.agree{h no:Nat}{p:O Nat}{L:O aQ}(b:eL P h lo hi no p L)(a:∀x∈p,P x=Q x):eL Q h lo hi no p L:=by
 obtain⟨h1,m,c,d⟩:=b;have:=h1.agree a;exact⟨this.1,m,by rw[←a no this.2];exact c,d⟩
theorem CV{α:Type}{l:O α}(h:1<=l.length):l≠ []:=λe=>by subst e;simp at h
theorem eL.in{h no:Nat}{p:O Nat}{L:O aQ}(a:eL P h lo hi no p L):L≠ []/\iy L/\∀q∈L,eV lo hi q.1:=⟨CV a.1.pages.2.1,a.1.e8⟩
theorem dB.sorted{ks:O Key}{kids p:O Nat}{L:O aQ}(h:dB W lo hi ks kids p L)(cd:∀lo hi k p L,W lo hi k p L->L≠ []/\iy L/\∀q∈L,eV lo hi q.1):
 L≠ []/\(∀q∈L,eV lo hi q.1)/\ks.Pairwise bU/\∀s∈ks,(∀a,lo=some a->bU a s)/\∀b,hi=some b->bU s b:=by
 induction h with
 |one h=>exact⟨(cd _ _ _ _ _ h).1,(cd _ _ _ _ _ h).2.2,.nil,by simp⟩
 | @cons lo hi s k bo bj bl bJ ks kids h t l=>
  obtain⟨bG,_,b8⟩:=cd _ _ _ _ _ h;obtain⟨bc,bM,b4,ah⟩:=l;obtain⟨x,hx⟩:=oZ _ bG;obtain⟨y,i⟩:=oZ _ bc;have f:∀a,lo=some a->bU a s:=λa e=>jq ((b8 x hx).1 a e) ((b8 x hx).2 s rfl);have j:∀b,hi=some b->bU s b:=λb g=>jq ((bM y i).1 s rfl) ((bM y i).2 b g);refine⟨by simp[bG],λq c=>?_,kx.2 ⟨λz d=>(ah z d).1 s rfl,b4⟩,λz d=>?_⟩
  .rcases cG.1 c with c|c
   .exact⟨(b8 q c).1,λb g=>kQ ((b8 q c).2 s rfl) (j b g)⟩
   .exact⟨λa e=>hK (mN (f a e) ((bM q c).1 s rfl)),(bM q c).2⟩
  .rcases cR.1 d with rfl|d
   .exact⟨f,j⟩
   .exact⟨λa e=>kQ (f a e) ((ah z d).1 s rfl),(ah z d).2⟩
def cY(P:Nat->an az):Nat->az->an Key->an Key->O Nat->O aQ->Prop
 |0,_,_,_,_,_=>False
 |1,n,lo,hi,p,L=>gT n/\n.within lo hi/\p=[]/\L=n.fi
 |h+2,n,lo,hi,p,L=>n.leaf=false/\n.vals=[]/\(∀k∈n.keys,cT k)/\(∀k∈n.kids,k<1600)/\dB (eL P (h+1)) lo hi n.keys n.kids p L
theorem cY.agree:∀ {h:Nat}{n:az}{p:O Nat}{L:O aQ},cY P h n lo hi p L->(∀x∈p,P x=Q x)->cY Q h n lo hi p L
 |0,_,_,_,h,_=>h.elim
 |1,_,_,_,h,_=>h
 |_+2,_,_,_,⟨h1,a,b,c,d⟩,e=>⟨h1,a,b,c,d.kg λ_ _ _ _ _ hs f=>f.agree λx hx=>e x (hs x hx)⟩
theorem cY.lay:∀ {h:Nat}{n:az}{x:Nat}{p:O Nat}{L:O aQ},cY P h n lo hi p L->n.keys≠ []->Q x=some n->(∀y∈p,P y=Q y)->ek Q h lo hi x (x::p) L
 |0,_,_,_,_,h,_,_,_=>h.elim
 |1,n,x,p,L,⟨h1,b,c,d⟩,e,hx,_=>by
  subst c
  exact⟨n,hx,h1,b,e,rfl,d⟩
 |h+2,n,x,p,L,i,e,hx,j=>by
  obtain⟨h1,b,c,d,f⟩:=i.agree j
  have hs:=f.sorted λ_ _ _ _ _ k=>k.in
  exact⟨n,p,hx,⟨⟨c,hs.2.2.1⟩,h1,e,f.len,b,d⟩,λs g=>⟨λa l=>hK ((hs.2.2.2 s g).1 a l),(hs.2.2.2 s g).2⟩,rfl,f⟩
def az.left(n:az)(i:Nat):az:=if n.leaf then ⟨true,n.keys.take i,n.vals.take i,[]⟩ else ⟨false,n.keys.take i,[],n.kids.take (i+1)⟩
def az.right(n:az)(i:Nat):az:=if n.leaf then ⟨true,n.keys.drop i,n.vals.drop i,[]⟩ else ⟨false,n.keys.drop (i+1),[],n.kids.drop (i+1)⟩
theorem cY.leaf{h:Nat}{n:az}{p:O Nat}{L:O aQ}(a:cY P h n lo hi p L):n.leaf=decide (h=1):=by
 match h,a with
 |0,a=>exact a.elim
 |1,a=>rw[a.1.leaf];rfl
 |h+2,a=>rw[a.1];simp
theorem cY.vi{h:Nat}{n:az}{p:O Nat}{L:O aQ}(g:cY P h n lo hi p L){i:Nat}(h1:1<=i)(l:i<n.keys.length):
 ∃ (bo bj:O Nat) (bl bJ:O aQ),p=bo++bj/\L=bl++bJ/\cY P h (n.left i) lo (some n.keys[i]) bo bl/\cY P h (n.right i) (some n.keys[i]) hi bj bJ:=by
 match h,g with
 |0,g=>exact g.elim
 |1,⟨a,b,c,d⟩=>
  subst c d;have o:=a.e8;have fv:n.keys=n.keys.take i++n.keys.drop i:=(gJ _ _).symm;have m:=o;rw[fv]at m;obtain⟨r1,b4,ak⟩:=nr.1 m;have hd:n.keys.drop i=n.keys[i]::n.keys.drop (i+1):=k_ l;have hf:n.left i=⟨true,n.keys.take i,n.vals.take i,[]⟩:=by unfold az.left;rw[a.leaf];rfl
  have hg:n.right i=⟨true,n.keys.drop i,n.vals.drop i,[]⟩:=by unfold az.right;rw[a.leaf];rfl
  rw[hf,hg];refine⟨[],[],n.fi.take i,n.fi.drop i,rfl,(gJ _ _).symm,⟨⟨⟨λk f=>a.ok k (eQ f),r1⟩,rfl,by simp[a.len],rfl,λv g=>a.vals v (eQ g)⟩,λk f=>⟨(b k (eQ f)).1,λs hs=>?_⟩,rfl,?_⟩,
   ⟨⟨⟨λk f=>a.ok k (eP f),b4⟩,rfl,by simp[a.len],rfl,λv g=>a.vals v (eP g)⟩,λk f=>⟨λs hs=>?_,(b k (eP f)).2⟩,rfl,?_⟩⟩
  .cases hs
   exact ak k f _ (by rw[hd];exact List.mem_cons_self)
  .exact List.take_zipWith
  .cases hs
   have f:k∈n.keys.drop i:=f;rw[hd]at f b4;rcases cR.1 f with rfl|f
   .exact CG _
   .exact hK ((kx.1 b4).1 k f)
  .exact List.drop_zipWith
 |h+2,⟨a,b,c,d,e⟩=>
  have hf:n.left i=⟨false,n.keys.take i,[],n.kids.take (i+1)⟩:=by unfold az.left;rw[a];rfl
  have hg:n.right i=⟨false,n.keys.drop (i+1),[],n.kids.drop (i+1)⟩:=by unfold az.right;rw[a];rfl
  have fv:n.keys=n.keys.take i++n.keys[i]::n.keys.drop (i+1):=by rw[←k_ l,gJ]
  rw[fv]at e;obtain⟨bR,b3,bo,bj,bl,bJ,j,rfl,rfl,s1,s2⟩:=e.cut;have hl:=s1.len;rw[cC,jd I]at hl;have q:n.kids.take (i+1)=bR:=by rw[j,←hl,List.take_left]
  have r:n.kids.drop (i+1)=b3:=by rw[j,←hl,List.drop_left]
  rw[hf,hg,q,r];exact⟨bo,bj,bl,bJ,rfl,rfl,⟨rfl,rfl,λk f=>c k (eQ f),λk f=>d k (by rw[j];simp[f]),s1⟩,⟨rfl,rfl,λk f=>c k (eP f),λk f=>d k (by rw[j];simp[f]),s2⟩⟩
end Go.Proofs.YtkdhdlfonmgheaaGreat
namespace Go.Proofs.YtkdhdlfonmgheaaGreat
variable {lo hi:an Key}{P Q:Nat->an az}
def dp(a:az)(s:Key)(b:az):az:=if a.leaf then ⟨true,a.keys++b.keys,a.vals++b.vals,[]⟩ else ⟨false,a.keys++s::b.keys,[],a.kids++b.kids⟩
theorem pZ{a b c d:O Key}(h:a.length=c.length):(a++b).zip (c++d)=a.zip c++b.zip d:=List.zip_append h
theorem cY.merge{h:Nat}{a b:az}{s:Key}{pa l:O Nat}{m n:O aQ}(g:cY P h a lo (some s) pa m)(o:cY P h b (some s) hi l n)(hs:cT s)(p:∀k,lo=some k->fQ k s)(q:∀k,hi=some k->fQ s k):
 cY P h (dp a s b) lo hi (pa++l) (m++n):=by
 match h,g,o with
 |0,g,_=>exact g.elim
 |1,⟨a1,a2,a3,a4⟩,⟨b8,bM,i,j⟩=>
  subst a3 a4 i j;have e:dp a s b=⟨true,a.keys++b.keys,a.vals++b.vals,[]⟩:=by unfold dp;rw[a1.leaf];rfl
  rw[e];refine⟨⟨⟨λk d=>?_,nr.2 ⟨a1.e8,b8.e8,λx hx y r=>mN ((a2 x hx).2 s rfl) ((bM y r).1 s rfl)⟩⟩,rfl,by simp[a1.len,b8.len],rfl,λv f=>?_⟩,λk d=>?_,rfl,?_⟩
  .rcases cG.1 d with d|d
   .exact a1.ok k d
   .exact b8.ok k d
  .rcases cG.1 f with f|f
   .exact a1.vals v f
   .exact b8.vals v f
  .rcases cG.1 d with d|d
   .exact⟨(a2 k d).1,λc hc=>mN ((a2 k d).2 s rfl) (q c hc)⟩
   .exact⟨λc hc=>yz (p c hc) ((bM k d).1 s rfl),(bM k d).2⟩
  .exact(pZ a1.len.symm).symm
 |h+2,⟨a1,a2,a3,a4,a5⟩,⟨b8,bM,i,j,t⟩=>
  have e:dp a s b=⟨false,a.keys++s::b.keys,[],a.kids++b.kids⟩:=by unfold dp;rw[a1];rfl
  rw[e];refine⟨rfl,rfl,λk d=>?_,λk d=>?_,a5.app t⟩
  .rcases cG.1 d with d|d
   .exact a3 k d
   .rcases cR.1 d with rfl|d
    .exact hs
    .exact i k d
  .rcases cG.1 d with d|d
   .exact a4 k d
   .exact j k d
theorem ek.js{h no:Nat}{p:O Nat}{L:O aQ}(c:ek P h lo hi no p L):∃n b,P no=some n/\p=no::b/\n.keys≠ []/\cY P h n lo hi b L:=by
 match h,c with
 |0,c=>exact c.elim
 |1,⟨n,h1,a,f,d,e,g⟩=>exact⟨n,[],h1,e,d,a,f,rfl,g⟩
 |h+2,⟨n,b,h1,a,f,d,e⟩=>exact⟨n,b,h1,d,a.some,a.inner,a.vals,a.ok,a.kids,e⟩
def fj(n:az)(fr to:Nat)(ks:O Key)(kids:O Nat):az:=⟨false,n.keys.take fr++ks++n.keys.drop (to-1),[],n.kids.take fr++kids++n.kids.drop to⟩
end Go.Proofs.YtkdhdlfonmgheaaGreat
namespace Go.Proofs.YtkdhdlfonmgheaaGreat
def cellsOf(n:az):O Nat:=if n.leaf then List.zipWith (λk v=>2+k.length+v.length) n.keys n.vals else n.keys.map λk=>3+k.length
def bx(n:az):Nat:=(if n.leaf then 1 else 3)+(cellsOf n).sum
def fz(c:O Nat)(most:Nat):Nat:=match (List.range most).find? λi=>decide (c.sum<=2*(c.take (i+1)).sum) with
 |some i=>i+1
 |none=>most
theorem lH{B:Nat}:∀ {l:O Nat},(∀x∈l,x<=B)->l.sum<=B*l.length
 | [],_=>by simp
 |a::l,h=>by
  have h1:=h a (by simp)
  have b:=lH (l:=l) λx hx=>h x (by simp[hx])
  rw[List.sum_cons,fD,Nat.mul_add,fu]
  omega
theorem vj(l:O Nat)(i:Nat):(l.take i).sum+(l.drop i).sum=l.sum:=by
 rw[←lg,gJ]
theorem ov{l:O Nat}{i:Nat}(h:i<l.length):(l.take (i+1)).sum=(l.take i).sum+l[i]:=by
 rw[iL h,lg];simp
theorem yB{c:O Nat}{most:Nat}(a:1<=most)(hs:0<c.sum):1<=fz c most/\fz c most<=most/\2*(c.take (fz c most-1)).sum<c.sum/\(fz c most=most\/c.sum<=2*(c.take (fz c most)).sum):=by
 unfold fz
 cases h:(List.range most).find? λi=>decide (c.sum<=2*(c.take (i+1)).sum) with
 |none=>
  have b:=iN.1 h;refine⟨a,br _,?_,.inl rfl⟩;by_cases h1:most=1
  .subst h1;simpa using hs
  .have:=b (most-2) (ik.2 I)
   have e:most-2+1=most-1:=by omega
   rw[e]at this;simp at this;exact this
 |some i=>
  have hi:i<most:=ik.1 (iq h);have d:=je h;refine⟨by simp,by simp;omega,?_,.inr (by simpa using d)⟩;show 2*(c.take (i+1-1)).sum<c.sum;rw[Nat.add_sub_cancel]
  cases i with
  |zero=>simpa using hs
  |succ j=>
   have:=(List.find?_range_eq_some.1 h).2.2 j I;simpa using this
theorem CW{c:O Nat}(a:∀x∈c,x<=50)(h1:232<=c.sum)(e:c.sum<=309):
 2<=fz c (c.length-1)/\fz c (c.length-1)+2<=c.length/\(c.take (fz c (c.length-1))).sum<=231/\(c.drop (fz c (c.length-1))).sum<=231:=by
 have hl:=lH a;have b:=yB (c:=c) (most:=c.length-1) I I;generalize fz c (c.length-1)=i at b⊢;obtain⟨a1,a2,a3,a4⟩:=b;have hs:=vj c i;have ht:=ov (l:=c) (i:=i-1) I;rw[Nat.sub_add_cancel a1]at ht;have hc:=a c[i-1] (cm _);have hd:=lH (l:=c.drop i) λx hx=>a x (eP hx);have d:=lH (l:=c.take i) λx hx=>a x (eQ hx);rw[c5]at hd;rw[cC,jd I]at d;have key:c.sum<=2*(c.take i).sum:=by
  rcases a4 with h|h
  .have:c.length-i=1:=by omega
   rw[this]at hd;omega
  .exact h
 refine⟨I,?_,I,I⟩;rcases dJ (c.length-i) 2 with h|h
 .have:c.length-i=1:=by omega
  rw[this]at hd;omega
 .omega
theorem CX{c:O Nat}(a:∀x∈c,x<=27)(h1:230<=c.sum)(e:c.sum<=332):
 2<=fz c (c.length-2)/\fz c (c.length-2)+3<=c.length/\(c.take (fz c (c.length-2))).sum<=229/\(c.drop (fz c (c.length-2)+1)).sum<=229:=by
 have hl:=lH a;have b:=yB (c:=c) (most:=c.length-2) I I;generalize fz c (c.length-2)=i at b⊢;obtain⟨a1,a2,a3,a4⟩:=b;have hs:=vj c (i+1);have ht:=ov (l:=c) (i:=i-1) I;have hu:=ov (l:=c) (i:=i) I;rw[Nat.sub_add_cancel a1]at ht;have hc:=a c[i-1] (cm _);have f:=a c[i] (cm _);have hd:=lH (l:=c.drop (i+1)) λx hx=>a x (eP hx);have d:=lH (l:=c.take i) λx hx=>a x (eQ hx);rw[c5]at hd;rw[cC,jd I]at d;have key:c.sum<=2*(c.take i).sum:=by
  rcases a4 with h|h
  .have:c.length-(i+1)=1:=by omega
   rw[this]at hd;omega
  .exact h
 refine⟨I,?_,I,I⟩;rcases dJ (c.length-(i+1)) 2 with h|h
 .have:c.length-(i+1)<=1:=by omega
  have:27*(c.length-(i+1))<=27*1:=Nat.mul_le_mul_left _ this;omega
 .omega
end Go.Proofs.YtkdhdlfonmgheaaGreat
namespace Go.Proofs.YtkdhdlfonmgheaaGreat
variable {W:Below}{lo hi m:an Key}{P Q:Nat->an az}
theorem fF.inv{kids p:O Nat}{L:O aQ}(h:fF W hi m [] kids p L):m=hi/\kids=[]/\p=[]/\L=[]:=by
 generalize e:([]:O Key)=K at h
 cases h with
 |nil=>exact⟨rfl,rfl,rfl,rfl⟩
 |more h=>simp at e
theorem eW.last{ks:O Key}{kids p:O Nat}{L:O aQ}(h:eW W lo m ks kids p L)(c:0<kids.length):∃ (s:Key) (a:an Key) (bo r:O Nat) (bl N:O aQ) (hs:0<ks.length),
 m=some s/\s=ks[ks.length-1]/\p=bo++r/\L=bl++N/\W a (some s) (kids[kids.length-1]) r N/\eW W lo a (ks.take (ks.length-1)) (kids.take (kids.length-1)) bo bl/\kids.length=ks.length:=by
 cases h with
 |nil=>simp at c
 | @more s ks kids p L h=>
  have hl:=h.len;obtain⟨a,f,bo,q,bj,bl,M,bJ,rfl,rfl,h1,d,b⟩:=h.at (kids.length-1) I;rw[List.drop_of_length_le I]at b;obtain⟨rfl,_,rfl,rfl⟩:=b.inv;refine⟨s,a,bo,q,bl,M,by simp,rfl,by simp,by simp,by simp,h1,?_,by simp;omega⟩;have e:(ks++ [s]).take ((ks++ [s]).length-1)=ks.take (kids.length-1):=by
   rw[hl];simp
  rw[e];exact d
theorem cY.at{h:Nat}{n:az}{p:O Nat}{L:O aQ}(w:cY P (h+2) n lo hi p L){k:Key}(o:eV lo hi k):∃ (f g:an Key) (bo q bj:O Nat) (bl M bJ:O aQ) (B:ew n.keys k<n.kids.length),
 p=bo++(q++bj)/\L=bl++(M++bJ)/\eL P (h+1) f g n.kids[ew n.keys k] q M/\eV f g k/\(∀u,Loc k u->u L=bl++(u M++bJ))/\n.kids.length=n.keys.length+1/\
 eW (eL P (h+1)) lo f (n.keys.take (ew n.keys k)) (n.kids.take (ew n.keys k)) bo bl/\fF (eL P (h+1)) hi g (n.keys.drop (ew n.keys k)) (n.kids.drop (ew n.keys k+1)) bj bJ:=by
 obtain⟨a,b,c,d,e⟩:=w;have hl:=e.len;have C:=vh n.keys k;have hs:=e.sorted λ_ _ _ _ _ i=>i.in;have r:∀s∈n.keys,eV lo hi s:=λs h=>⟨λa x=>hK ((hs.2.2.2 s h).1 a x),(hs.2.2.2 s h).2⟩;obtain⟨f,g,bo,q,bj,bl,M,bJ,rfl,rfl,h1,l,m⟩:=e.at (ew n.keys k) I;have t:=l.CQ (k:=k) (λj y h=>CO h y) o.1;have v:=m.CR (k:=k) (λh=>CP h) o.2;have z:(n.keys.take (ew n.keys k)).Pairwise bU:=hs.2.2.1.sublist (List.take_sublist _ _);have A:(n.keys.drop (ew n.keys k)).Pairwise bU:=hs.2.2.1.sublist (List.drop_sublist _ _);exact⟨f,g,bo,q,bj,bl,M,bJ,I,rfl,rfl,h1,⟨t,v⟩,λu hu=>hu _ _ _ (l.below (hi:=hi) (λ_ _ _ _ _ i=>i.in.2) z (λs h=>r s (eQ h)) t) (m.CS (lo:=lo) (λ_ _ _ _ _ i=>i.in.2) A (λs h=>r s (eP h)) v),
  hl,l,m⟩
theorem cY.build{h:Nat}{d e:an Key}{a kb ks:O Key}{b c kids bo bj q:O Nat}{bl M bJ:O aQ}(h1:eW (eL P (h+1)) lo d a b bo bl)(i:fF (eL P (h+1)) hi e kb c bj bJ)
 (hs:dB (eL Q (h+1)) d e ks kids q M) (g:∀x∈bo++bj,P x=Q x) (j:∀s∈a++ks++kb,cT s) (hd:∀x∈b++kids++c,x<1600):
 cY Q (h+2) ⟨false,a++ks++kb,[],b++kids++c⟩ lo hi (bo++(q++bj)) (bl++(M++bJ)):=by
 have av:eW (eL Q (h+1)) lo d a b bo bl:=h1.kg λ_ _ _ _ _ hs f=>f.agree λx hx=>g x (im _ (hs x hx));have k:fF (eL Q (h+1)) hi e kb c bj bJ:=i.kg λ_ _ _ _ _ hs f=>f.agree λx hx=>g x (gL _ (hs x hx));refine⟨rfl,rfl,j,hd,?_⟩;show dB _ lo hi (a++ks++kb) (b++kids++c) _ _;rw[cW,cW];exact av.CN (hs.post k)
end Go.Proofs.YtkdhdlfonmgheaaGreat
namespace Go.Proofs.YtkdhdlfonmgheaaGreat
variable {lo hi:an Key}{P Q:Nat->an az}
theorem cY.one{h x:Nat}{n:az}{p:O Nat}{L:O aQ}(b:cY P h n lo hi p L)(a:2<=n.keys.length)(hx:Q x=some n)(c:∀y∈p,P y=Q y):dB (eL Q h) lo hi [] [x] (x::p) L:=
 .one ⟨b.lay (λe=>by rw[e]at a;simp at a) hx c,n,hx,a⟩
theorem jO{n:az}(h:n.leaf=true):cellsOf n=List.zipWith (λk v=>2+k.length+v.length) n.keys n.vals:=by unfold cellsOf;rw[h];rfl
theorem jP{n:az}(h:n.leaf=false):cellsOf n=n.keys.map λk=>3+k.length:=by unfold cellsOf;rw[h];rfl
theorem vk{B:Nat}{f:Key->Key->Nat}:∀ {ks vs:O Key},(∀k∈ks,∀v∈vs,f k v<=B)->∀x∈List.zipWith f ks vs,x<=B
 | [],vs,_,x,hx=>by simp at hx
 |k::ks,[],_,x,hx=>by simp at hx
 |k::ks,v::vs,h,x,hx=>by
  rw[List.zipWith_cons_cons]at hx
  rcases cR.1 hx with rfl|hx
  .exact h k (by simp) v (by simp)
  .exact vk (λk a v b=>h k (by simp[a]) v (by simp[b])) x hx
def bX(n:az):Nat:=fz (cellsOf n) (if n.leaf then n.keys.length-1 else n.keys.length-2)
theorem cY.two{h x y:Nat}{n:az}{p:O Nat}{L:O aQ}(b:cY P h n lo hi p L)(h1:232<bx n)(r:n.leaf=true->bx n<=310)(s:n.leaf=false->bx n<=335):
 1<=bX n/\(if n.leaf then bX n<=n.keys.length-1/\1<=n.keys.length-1 else bX n<=n.keys.length-2/\1<=n.keys.length-2)/\bx (n.left (bX n))<=232/\bx (n.right (bX n))<=232/\
  ∃ (w:bX n<n.keys.length) (bo bj:O Nat) (bl bJ:O aQ),p=bo++bj/\L=bl++bJ/\cT n.keys[bX n]/\
   (Q x=some (n.left (bX n))->Q y=some (n.right (bX n))->(∀z∈p,P z=Q z)->dB (eL Q h) lo hi [n.keys[bX n]] [x,y] ((x::bo)++(y::bj)) (bl++bJ)):=by
 have main:∀ (i:Nat),2<=i->(G:i<n.keys.length)->2<=(n.left i).keys.length->2<=(n.right i).keys.length->∃ (w:i<n.keys.length) (bo bj:O Nat) (bl bJ:O aQ),p=bo++bj/\L=bl++bJ/\cT n.keys[i]/\
  (Q x=some (n.left i)->Q y=some (n.right i)->(∀z∈p,P z=Q z)->dB (eL Q h) lo hi [n.keys[i]] [x,y] ((x::bo)++(y::bj)) (bl++bJ)):=by
  intro i H t hl A;obtain⟨bo,bj,bl,bJ,rfl,rfl,v1,B⟩:=b.vi (by omega:1<=i) t;have C:cT n.keys[i]:=by
   match h,b with
   |0,b=>exact b.elim
   |1,b=>exact b.1.ok _ (cm _)
   |h+2,b=>exact b.2.2.1 _ (cm _)
  refine⟨t,bo,bj,bl,bJ,rfl,rfl,C,λhx D u=>?_⟩;have s1:=v1.one hl hx λz f=>u z (im _ f);have s2:=B.one A D λz f=>u z (gL _ f);exact s1.app s2
 match h,b with
 |0,b=>exact b.elim
 |1,b=>
  have a:n.leaf=true:=b.1.leaf;have g:(cellsOf n).length=n.keys.length:=by rw[jO a,List.length_zipWith,b.1.len,Nat.min_self]
  have j:∀c∈cellsOf n,c<=50:=by
   rw[jO a];exact vk λk l v E=>by have:=(b.1.ok k l).2;have:=b.1.vals v E;omega
  have F:bx n=1+(cellsOf n).sum:=by unfold bx;rw[a];rfl
  have r:=r a;obtain⟨a1,a2,a3,a4⟩:=CW j I I;have m:bX n=fz (cellsOf n) ((cellsOf n).length-1):=by unfold bX;rw[a,g];rfl
  rw[←m]at a1 a2 a3 a4;have d:n.left (bX n)=⟨true,n.keys.take (bX n),n.vals.take (bX n),[]⟩:=by unfold az.left;rw[a];rfl
  have e:n.right (bX n)=⟨true,n.keys.drop (bX n),n.vals.drop (bX n),[]⟩:=by unfold az.right;rw[a];rfl
  have o:cellsOf (n.left (bX n))=(cellsOf n).take (bX n):=by rw[d,jO rfl,jO a];exact List.take_zipWith.symm
  have q:cellsOf (n.right (bX n))=(cellsOf n).drop (bX n):=by rw[e,jO rfl,jO a];exact List.drop_zipWith.symm
  refine⟨I,by rw[a];exact⟨I,I⟩,?_,?_,main _ a1 I (by rw[d];show 2<=(n.keys.take _).length;rw[cC];omega) (by rw[e];show 2<=(n.keys.drop _).length;rw[c5];omega)⟩
  .unfold bx;rw[o,d];show 1+_<=_;omega
  .unfold bx;rw[q,e];show 1+_<=_;omega
 |h+2,b=>
  have a:n.leaf=false:=b.1;have g:(cellsOf n).length=n.keys.length:=by rw[jP a,dE]
  have j:∀c∈cellsOf n,c<=27:=by
   rw[jP a];intro c hc;obtain⟨k,l,rfl⟩:=dZ.1 hc;have:=(b.2.2.1 k l).2;omega
  have F:bx n=3+(cellsOf n).sum:=by unfold bx;rw[a];rfl
  have s:=s a;obtain⟨a1,a2,a3,a4⟩:=CX j I I;have m:bX n=fz (cellsOf n) ((cellsOf n).length-2):=by unfold bX;rw[a,g];rfl
  rw[←m]at a1 a2 a3 a4;have d:n.left (bX n)=⟨false,n.keys.take (bX n),[],n.kids.take (bX n+1)⟩:=by unfold az.left;rw[a];rfl
  have e:n.right (bX n)=⟨false,n.keys.drop (bX n+1),[],n.kids.drop (bX n+1)⟩:=by unfold az.right;rw[a];rfl
  have o:cellsOf (n.left (bX n))=(cellsOf n).take (bX n):=by rw[d,jP rfl,jP a];exact nu
  have q:cellsOf (n.right (bX n))=(cellsOf n).drop (bX n+1):=by rw[e,jP rfl,jP a];exact o0
  refine⟨I,by rw[a];exact⟨I,I⟩,?_,?_,main _ a1 I (by rw[d];show 2<=(n.keys.take _).length;rw[cC];omega) (by rw[e];show 2<=(n.keys.drop _).length;rw[c5];omega)⟩
  .unfold bx;rw[o,d];show 3+_<=_;omega
  .unfold bx;rw[q,e];show 3+_<=_;omega
end Go.Proofs.YtkdhdlfonmgheaaGreat
namespace Go.Proofs.YtkdhdlfonmgheaaGreat
variable {lo hi:an Key}{P Q:Nat->an az}
theorem cY.cells{h:Nat}{n:az}{p:O Nat}{L:O aQ}(a:cY P h n lo hi p L):(cellsOf n).length=n.keys.length/\∀c∈cellsOf n,c<=if n.leaf then 50 else 27:=by
 match h,a with
 |0,a=>exact a.elim
 |1,a=>
  have b:n.leaf=true:=a.1.leaf;rw[jO b,b];exact⟨by rw[List.length_zipWith,a.1.len,Nat.min_self],vk λk d v e=>by have:=(a.1.ok k d).2;have:=a.1.vals v e;simp only[if_true];omega⟩
 |h+2,a=>
  have b:n.leaf=false:=a.1;rw[jP b,b];refine⟨by rw[dE],λc hc=>?_⟩;obtain⟨k,d,rfl⟩:=dZ.1 hc;have:=(a.2.2.1 k d).2;show 3+k.length<=27;omega
theorem cY.vl{h:Nat}{n:az}{p:O Nat}{L:O aQ}(a:cY P h n lo hi p L)(hs:80<=bx n):2<=n.keys.length:=by
 obtain⟨h1,b⟩:=a.cells;have:=lH b;rw[h1]at this;unfold bx at hs
 cases hl:n.leaf with
 |true=>rw[hl]at hs this;simp only[if_true]at hs this;omega
 |false=>rw[hl]at hs this;simp only[ft,if_false]at hs this;omega
theorem CY{a b:az}{s:Key}(h:a.leaf=b.leaf)(d:a.leaf=true->a.vals.length=a.keys.length):bx (dp a s b)=if a.leaf then bx a+bx b-1 else bx a+bx b+s.length:=by
 cases hl:a.leaf with
 |true=>
  have e:dp a s b=⟨true,a.keys++b.keys,a.vals++b.vals,[]⟩:=by unfold dp;rw[hl];rfl
  have c:b.leaf=true:=by rw[←h,hl]
  unfold bx;rw[e,jO rfl,jO hl,jO c,hl,c];simp only[if_true];rw[qD (d hl).symm,lg];omega
 |false=>
  have e:dp a s b=⟨false,a.keys++s::b.keys,[],a.kids++b.kids⟩:=by unfold dp;rw[hl];rfl
  have c:b.leaf=false:=by rw[←h,hl]
  unfold bx;rw[e,jP rfl,jP hl,jP c,hl,c];simp only[ft,if_false,fe,iM,lg,List.sum_cons];omega
def g6(ks:O Key):Nat:=(ks.map λk=>3+k.length).sum
theorem th(a b:O Key):g6 (a++b)=g6 a+g6 b:=by unfold g6;rw[fe,lg]
theorem yC{n:az}(h:n.leaf=false):bx n=3+g6 n.keys:=by unfold bx g6;rw[h,jP h];rfl
theorem CZ(k:Key):g6 [k]=3+k.length:=by simp[g6]
theorem vm{n:az}{ks:O Key}{kids:O Nat}{fr j:Nat}(h:n.leaf=false)(a:ks.length<=1)(b:∀k∈ks,cT k)(c:fr<=j):
 bx ⟨false,n.keys.take fr++ks++n.keys.drop j,[],kids⟩<=bx n+27:=by
 rw[yC h,yC rfl];show 3+g6 (n.keys.take fr++ks++n.keys.drop j)<=_;rw[th,th];have h1:g6 ks<=27:=by
  match ks,a with
  | [],_=>simp[g6]
  | [k],_=>rw[CZ];have:=(b k (by simp)).2;omega
 have d:g6 n.keys=g6 (n.keys.take fr)+g6 (n.keys.drop fr):=by rw[←th,gJ]
 have e:g6 (n.keys.drop fr)=g6 ((n.keys.drop fr).take (j-fr))+g6 (n.keys.drop j):=by
  rw[←th]
  congr 1
  have:n.keys.drop j=(n.keys.drop fr).drop (j-fr):=by rw[ld];congr 1;omega
  rw[this,gJ]
 omega
end Go.Proofs.YtkdhdlfonmgheaaGreat
namespace Go.Proofs.YtkdhdlfonmgheaaGreat
variable {lo hi:an Key}{P Q:Nat->an az}
def kR(Q:Nat->an az)(n:az)(ks:O Key)(kids:O Nat):Prop:=
 (bx n<=232/\∃x,ks=[]/\kids=[x]/\Q x=some n)\/
 (232<bx n/\∃ (x y:Nat) (a:bX n<n.keys.length),ks=[n.keys[bX n]]/\kids=[x,y]/\Q x=some (n.left (bX n))/\Q y=some (n.right (bX n)))
theorem cY.fits{h:Nat}{n:az}{p:O Nat}{L:O aQ}{ks:O Key}{kids:O Nat}(a:cY P h n lo hi p L)(d:2<=n.keys.length)(hl:n.leaf=true->bx n<=310)(e:n.leaf=false->bx n<=335)
 (hf:kR Q n ks kids) (b:∀x∈p,P x=Q x):∃c,dB (eL Q h) lo hi ks kids c L/\c.Perm (kids++p)/\(∀s∈ks,cT s)/\ks.length<=1:=by
 rcases hf with ⟨_,x,rfl,rfl,hx⟩|⟨hs,x,y,j,rfl,rfl,hx,f⟩
 .exact⟨x::p,a.one d hx b,List.Perm.refl _,by simp,by simp⟩
 .obtain⟨_,_,_,_,_,bo,bj,bl,bJ,rfl,rfl,g,i⟩:=a.two (Q:=Q) (x:=x) (y:=y) hs hl e
  refine⟨_,i hx f b,?_,by simpa using g,by simp⟩;show((x::bo)++(y::bj)).Perm ([x,y]++(bo++bj));simp only[oT,j1];exact(lf).cons x
theorem C0{h:Nat}{a c:az}{f g:an Key}{i:Nat}{bo bj b:O Nat}{bl gB bJ:O aQ}{ks:O Key}{kids:O Nat}(h0:a.leaf=false)(j:∀k∈a.keys,cT k)(l:∀x∈a.kids,x<1600)
 (q:eW (eL P (h+1)) lo f (a.keys.take i) (a.kids.take i) bo bl) (r:fF (eL P (h+1)) hi g (a.keys.drop i) (a.kids.drop (i+1)) bj bJ) (m:cY P (h+1) c f g b gB) (h1:80<=bx c) (z:bx c<=282)
 (hf:kR Q c ks kids) (d:∀x∈bo++(b++bj),P x=Q x) (t:∀x∈kids,x<1600):
 ∃n,cY Q (h+2) (fj a i (i+1) ks kids) lo hi n (bl++(gB++bJ))/\n.Perm (kids++(bo++(b++bj)))/\bx (fj a i (i+1) ks kids)<=bx a+27/\a.keys.length<=(fj a i (i+1) ks kids).keys.length:=by
 obtain⟨u,hs,v,o,w⟩:=m.fits (m.vl h1) (λ_=>I) (λ_=>I) hf λx hx=>d x (gL _ (im _ hx));have y:=cY.build q r hs (λx hx=>by
  rcases cG.1 hx with hx|hx
  .exact d x (im _ hx)
  .exact d x (gL _ (gL _ hx)))
  (λs hs=>by
    rcases cG.1 hs with hs|hs
    .rcases cG.1 hs with hs|hs
     .exact j s (eQ hs)
     .exact o s hs
    .exact j s (eP hs))
  (λx hx=>by
    rcases cG.1 hx with hx|hx
    .rcases cG.1 hx with hx|hx
     .exact l x (eQ hx)
     .exact t x hx
    .exact l x (eP hx))
 have e:fj a i (i+1) ks kids=⟨false,a.keys.take i++ks++a.keys.drop i,[],a.kids.take i++kids++a.kids.drop (i+1)⟩:=by unfold fj;rw[Nat.add_sub_cancel]
 rw[e];refine⟨_,y,?_,vm h0 w o (br _),?_⟩
 .have av:(u++bj).Perm (kids++(b++bj)):=by
   rw[←cW];exact v.append_right _
  refine(List.Perm.append_left bo av).trans ?_;have p:=(o1 (l₁:=bo) (l₂:=kids)).append_right (b++bj);rw[cW,cW]at p;exact p
 .show a.keys.length<=(a.keys.take i++ks++a.keys.drop i).length
  have:=congrArg List.length (gJ i a.keys);simp only[cE]at this⊢;omega
end Go.Proofs.YtkdhdlfonmgheaaGreat
namespace Go.Proofs.YtkdhdlfonmgheaaGreat
variable {lo hi:an Key}{P Q:Nat->an az}
theorem ti{a b:az}{s:Key}:a.keys.length+b.keys.length<=(dp a s b).keys.length:=by
 unfold dp;split
 .show _<=(a.keys++b.keys).length
  rw[cE];omega
 .show _<=(a.keys++s::b.keys).length
  rw[cE,fD];omega
theorem yD{a b:az}{s:Key}:(dp a s b).leaf=a.leaf:=by
 unfold dp
 cases h:a.leaf<;>simp
theorem tj{h:Nat}{a b:az}{s:Key}{d f g i:an Key}{pa j:O Nat}{k l:O aQ}(c:cY P h a d f pa k)(m:cY P h b g i j l)(hs:cT s)(h1:bx a+bx b<=311):
 ((dp a s b).leaf=true->bx (dp a s b)<=310)/\((dp a s b).leaf=false->bx (dp a s b)<=335):=by
 have hl:a.leaf=b.leaf:=by rw[c.leaf,m.leaf]
 have n:a.leaf=true->a.vals.length=a.keys.length:=λh1=>by
  match h,c with
  |0,c=>exact c.elim
  |1,c=>exact c.1.len
  |h+2,c=>rw[c.1]at h1;cases h1
 rw[yD,CY hl n];have:=hs.2;constructor
 .intro e;rw[e];simp only[if_true];omega
 .intro e;rw[e];simp only[ft,if_false];omega
theorem C1{h:Nat}{d g:az}{u v:an Key}{i:Nat}{bo bj f:O Nat}{bl gB bJ:O aQ}{k:Key}(h0:d.leaf=false)(w:∀k∈d.keys,cT k)(C:∀x∈d.kids,x<1600)(hlen:d.kids.length=d.keys.length+1)(S:∀x n,P x=some n->bx n<=232)
 (ai:1<=i) (aj:i<d.kids.length) (D:eV u v k)
 (T:eW (eL P (h+1)) lo u (d.keys.take i) (d.kids.take i) bo bl) (U:fF (eL P (h+1)) hi v (d.keys.drop i) (d.kids.drop (i+1)) bj bJ) (E:cY P (h+1) g u v f gB) (h1:bx g<80):
 ∃ (o:az) (y:O Nat) (F:i-1<d.kids.length) (ak:i-1<d.keys.length),P d.kids[i-1]=some o/\bo.Perm (d.kids[i-1]::y)/\2<=o.keys.length/\
  ∀ (Q:Nat->an az) (ks:O Key) (kids:O Nat),kR Q (dp o d.keys[i-1] g) ks kids->(∀x∈y++(f++bj),P x=Q x)->(∀x∈kids,x<1600)->
   ∃G,cY Q (h+2) (fj d (i-1) (i+1) ks kids) lo hi G (bl++(gB++bJ))/\G.Perm (kids++(y++(f++bj)))/\bx (fj d (i-1) (i+1) ks kids)<=bx d+27/\d.keys.length<=(fj d (i-1) (i+1) ks kids).keys.length+1:=by
 obtain⟨s,V,aS,r,bm,N,hs,rfl,z,rfl,rfl,⟨A,m,j,p⟩,H,al⟩:=T.last (by rw[cC];omega);have W:(d.keys.take i).length=i:=by rw[cC];omega
 have X:(d.kids.take i).length=i:=by rw[cC];omega
 have z:s=d.keys[i-1]'I:=by
  rw[z,o2];congr 1;omega
 have Y:(d.kids.take i)[(d.kids.take i).length-1]'I=d.kids[i-1]'I:=by
  rw[o2];congr 1;omega
 rw[Y]at A j;obtain⟨o,q,t,rfl,_,J⟩:=A.js;rw[t]at j;have p:2<=o.keys.length:=by rw[Option.some.inj j];exact p
 clear j;subst z;have B:=(show eL P (h+1) V (some (d.keys[i-1]'I)) (d.kids[i-1]'I) (d.kids[i-1]'I::q) N from⟨A,o,t,p⟩).in;obtain⟨x,hx⟩:=oZ _ B.1;have K:=w _ (cm (l:=d.keys) (n:=i-1) I);have Z:=cY.merge J E K (λc hc=>hK (jq ((B.2.2 x hx).1 c hc) ((B.2.2 x hx).2 _ rfl))) (λc hc=>hK (jq (D.1 _ rfl) (D.2 c hc)));have L:=tj J E K (by have:=S _ _ t;omega);have am:=ti (a:=o) (b:=g) (s:=d.keys[i-1]'I);refine⟨o,aS++q,I,I,t,lf,p,λQ ks kids hf M aa=>?_⟩;obtain⟨ab,ac,ad,R,ae⟩:=Z.fits I L.1 L.2 hf λx hx=>M x (by
  rcases cG.1 hx with hx|hx
  .exact im _ (gL _ hx)
  .exact gL _ (im _ hx))
 have af:(d.keys.take i).take ((d.keys.take i).length-1)=d.keys.take (i-1):=by rw[W,List.take_take];congr 1;omega
 have ag:(d.kids.take i).take ((d.kids.take i).length-1)=d.kids.take (i-1):=by rw[X,List.take_take];congr 1;omega
 rw[af,ag]at H;have F:=cY.build H U ac (λx hx=>M x (by
  rcases cG.1 hx with hx|hx
  .exact im _ (im _ hx)
  .exact gL _ (gL _ hx)))
  (λs hs=>by
    rcases cG.1 hs with hs|hs
    .rcases cG.1 hs with hs|hs
     .exact w s (eQ hs)
     .exact R s hs
    .exact w s (eP hs))
  (λx hx=>by
    rcases cG.1 hx with hx|hx
    .rcases cG.1 hx with hx|hx
     .exact C x (eQ hx)
     .exact aa x hx
    .exact C x (eP hx))
 have e:fj d (i-1) (i+1) ks kids=⟨false,d.keys.take (i-1)++ks++d.keys.drop i,[],d.kids.take (i-1)++kids++d.kids.drop (i+1)⟩:=by unfold fj;rw[Nat.add_sub_cancel]
 rw[e];refine⟨_,by simpa[cW] using F,?_,vm h0 ae R I,?_⟩
 .have av:(ab++bj).Perm (kids++(q++(f++bj))):=by
   have:=ad.append_right bj;simpa[cW] using this
  refine(List.Perm.append_left aS av).trans ?_;have ah:=(o1 (l₁:=aS) (l₂:=kids)).append_right (q++(f++bj));simpa[cW] using ah
 .show d.keys.length<=(d.keys.take (i-1)++ks++d.keys.drop i).length+1
  simp only[cE,cC,c5];omega
end Go.Proofs.YtkdhdlfonmgheaaGreat
namespace Go.Proofs.YtkdhdlfonmgheaaGreat
variable {lo hi:an Key}{P Q:Nat->an az}
theorem C2{h:Nat}{d j:az}{w y:an Key}{i:Nat}{bo bj f:O Nat}{bl gB bJ:O aQ}{k:Key}(h0:d.leaf=false)(z:∀k∈d.keys,cT k)(E:∀x∈d.kids,x<1600)(hlen:d.kids.length=d.keys.length+1)(U:∀x n,P x=some n->bx n<=232)
 (p:i+1<d.kids.length) (F:eV w y k)
 (V:eW (eL P (h+1)) lo w (d.keys.take i) (d.kids.take i) bo bl) (W:fF (eL P (h+1)) hi y (d.keys.drop i) (d.kids.drop (i+1)) bj bJ) (G:cY P (h+1) j w y f gB) (h1:bx j<80):
 ∃ (o:az) (A:O Nat) (H:i+1<d.kids.length) (ag:i<d.keys.length),P d.kids[i+1]=some o/\bj.Perm (d.kids[i+1]::A)/\2<=o.keys.length/\
  ∀ (Q:Nat->an az) (ks:O Key) (kids:O Nat),kR Q (dp j d.keys[i] o) ks kids->(∀x∈bo++(f++A),P x=Q x)->(∀x∈kids,x<1600)->
   ∃J,cY Q (h+2) (fj d i (i+2) ks kids) lo hi J (bl++(gB++bJ))/\J.Perm (kids++(bo++(f++A)))/\bx (fj d i (i+2) ks kids)<=bx d+27/\d.keys.length<=(fj d i (i+2) ks kids).keys.length+1:=by
 obtain⟨s,X,r,g,N,ah,hs,rfl,B,rfl,rfl,⟨C,m,q,t⟩,K⟩:=W.head (by rw[c5];omega);have B:s=d.keys[i]'I:=by rw[B,qE];rfl
 have Y:(d.kids.drop (i+1))[0]'(by rw[c5];omega)=d.kids[i+1]'p:=by rw[qE]
 rw[Y]at C q;obtain⟨o,u,v,rfl,_,L⟩:=C.js;rw[v]at q;have t:2<=o.keys.length:=by rw[Option.some.inj q];exact t
 clear q;subst B;have D:=(show eL P (h+1) (some (d.keys[i]'I)) X (d.kids[i+1]'p) (d.kids[i+1]'p::u) N from⟨C,o,v,t⟩).in;obtain⟨x,hx⟩:=oZ _ D.1;have M:=z _ (cm (l:=d.keys) (n:=i) I);have Z:=cY.merge G L M (λc hc=>hK (jq (F.1 c hc) (F.2 _ rfl))) (λc hc=>hK (jq ((D.2.2 x hx).1 _ rfl) ((D.2.2 x hx).2 c hc)));have R:=tj G L M (by have:=U _ _ v;omega);have ai:=ti (a:=j) (b:=o) (s:=d.keys[i]'I);refine⟨o,u++g,p,I,v,List.Perm.refl _,t,λQ ks kids hf S aa=>?_⟩;obtain⟨ab,ac,ad,T,ae⟩:=Z.fits I R.1 R.2 hf λx hx=>S x (by
  rcases cG.1 hx with hx|hx
  .exact gL _ (im _ hx)
  .exact gL _ (gL _ (im _ hx)))
 rw[ld,ld]at K;have H:=cY.build V K ac (λx hx=>S x (by
  rcases cG.1 hx with hx|hx
  .exact im _ hx
  .exact gL _ (gL _ (gL _ hx))))
  (λs hs=>by
    rcases cG.1 hs with hs|hs
    .rcases cG.1 hs with hs|hs
     .exact z s (eQ hs)
     .exact T s hs
    .exact z s (eP hs))
  (λx hx=>by
    rcases cG.1 hx with hx|hx
    .rcases cG.1 hx with hx|hx
     .exact E x (eQ hx)
     .exact aa x hx
    .exact E x (eP hx))
 have e:fj d i (i+2) ks kids=⟨false,d.keys.take i++ks++d.keys.drop (i+1),[],d.kids.take i++kids++d.kids.drop (i+1+1)⟩:=rfl;rw[e];refine⟨_,by simpa[cW] using H,?_,vm h0 ae T I,?_⟩
 .have av:(ab++g).Perm (kids++(f++(u++g))):=by
   have:=ad.append_right g;simpa[cW] using this
  refine(List.Perm.append_left bo av).trans ?_;have af:=(o1 (l₁:=bo) (l₂:=kids)).append_right (f++(u++g));simpa[cW] using af
 .show d.keys.length<=(d.keys.take i++ks++d.keys.drop (i+1)).length+1
  simp only[cE,cC,c5];omega
end Go.Proofs.YtkdhdlfonmgheaaGreat
namespace Go.Proofs.YtkdhdlfonmgheaaGreat
variable {lo hi:an Key}{P:Nat->an az}
def cL(ks:O Key)(k:Key):Nat:=ks.findIdx λs=>decide (¬bU s k)
theorem p0(ks:O Key)(k:Key):cL ks k<=ks.length:=List.findIdx_le_length
theorem mO{ks:O Key}{k:Key}{j:Nat}(h:j<cL ks k)(a:j<ks.length):bU ks[j] k:=by
 have:=List.not_of_lt_findIdx h;simpa using this
theorem ow{ks:O Key}{k:Key}(hs:ks.Pairwise bU){j:Nat}(h:cL ks k<=j)(c:j<ks.length):fQ k ks[j]:=by
 have h1:cL ks k<ks.length:=by omega
 have a:fQ k ks[cL ks k]:=by
  have:=List.findIdx_getElem (p:=λs=>decide (¬bU s k)) (xs:=ks) (w:=h1);exact yy.1 (cf this)
 rcases dJ (cL ks k) j with b|b
 .exact hK (jq a (lh.1 hs _ _ h1 c b))
 .have:cL ks k=j:=by omega
  subst this;exact a
theorem C3{α:Type}{f:α->ag}{L:O α}{i:Nat}(h1:∀x∈L.take i,f x=true)(a:∀x∈L.drop i,f x=false):L.filter f=L.take i:=by
 conv=>lhs;rw[←gJ i L]
 rw[j2,ku.2 h1,oY.2 (λx hx=>by rw[a x hx];decide),fX]
theorem yE{α:Type}{f:α->ag}{L:O α}{i:Nat}(h1:∀x∈L.take i,f x=false)(a:∀x∈L.drop i,f x=true):L.filter f=L.drop i:=by
 conv=>lhs;rw[←gJ i L]
 rw[j2,oY.2 (λx hx=>by rw[h1 x hx];decide),ku.2 a,j1]
theorem vn{ks vs:O Key}{i:Nat}{x:aQ}(h:x∈(ks.zip vs).take i):∃ (j:Nat) (a:j<ks.length),j<i/\x.1=ks[j]:=by
 obtain⟨j,a,rfl⟩:=List.mem_take_iff_getElem.1 h;have h1:j<(ks.zip vs).length:=by omega
 rw[nt]at h1;exact⟨j,I,I,by rw[List.getElem_zip]⟩
theorem vo{ks vs:O Key}{i:Nat}{x:aQ}(h:x∈(ks.zip vs).drop i):∃ (j:Nat) (a:j<ks.length),i<=j/\x.1=ks[j]:=by
 obtain⟨j,a,rfl⟩:=List.mem_drop_iff_getElem.1 h;have h1:i+j<(ks.zip vs).length:=by omega
 rw[nt]at h1;exact⟨i+j,I,I,by rw[List.getElem_zip]⟩
theorem C4{ks vs:O Key}{k v:Key}(hs:ks.Pairwise bU):gb (ks.zip vs) k v=(ks.zip vs).take (cL ks k)++(k,v)::(ks.zip vs).drop (if ks[cL ks k]? =some k then cL ks k+1 else cL ks k):=by
 unfold gb;rw[C3 (f:=λp:aQ=>decide (bU p.1 k)) (i:=cL ks k) (λx hx=>by
  obtain⟨j,a,h1,e⟩:=vn hx;rw[e];exact dv (mO h1 a)) (λx hx=>by
  obtain⟨j,a,h1,e⟩:=vo hx;rw[e];exact gM (ow hs h1 a))]
 congr 2
 split
 .rename_i he
  obtain⟨aJ,he⟩:=jA.1 he;refine yE (λx hx=>?_) (λx hx=>?_)
  .obtain⟨j,a,h1,e⟩:=vn hx
   rw[e];refine gM ?_;rcases dJ j (cL ks k) with b|b
   .exact jN (mO b a)
   .have:j=cL ks k:=by omega
    subst this;rw[he];exact ot _
  .obtain⟨j,a,h1,e⟩:=vo hx
   rw[e];refine dv ?_;have:=lh.1 hs _ j aJ a I;rwa[he]at this
 .rename_i he
  refine yE (λx hx=>?_) (λx hx=>?_)
  .obtain⟨j,a,h1,e⟩:=vn hx
   rw[e];exact gM (jN (mO h1 a))
  .obtain⟨j,a,h1,e⟩:=vo hx
   rw[e];refine dv ?_;rcases mM.1 (ow hs h1 a) with b|b
   .exact b
   .have aJ:cL ks k<ks.length:=by omega
    rcases dJ (cL ks k) j with c|c
    .exact jq (ow hs (br _) aJ) (lh.1 hs _ _ aJ a c)
    .have:j=cL ks k:=by omega
     subst this;exact absurd ((dD aJ).trans (congrArg some b.symm)) he
end Go.Proofs.YtkdhdlfonmgheaaGreat
namespace Go.Proofs.YtkdhdlfonmgheaaGreat
open Go aX Go.Proofs.Tryz
theorem tl{n:Nat}(h:n<256):((UInt8.ofNat n).toNat:Nat)=n:=by
 simp[ir h]
theorem yF{src dst:TypeId}{w:J}{s:Y}{ns:O Int}(hs:Tryz.prog.underlying src=some (.slice 5))(hd:Tryz.prog.underlying dst=some .string)(h:Src 1 w s (ns.map (.int .u8))):
 Sem.run ai (convert src dst s) w=.ok (.string (S (ns.map λn=>UInt8.ofNat n.toNat))) w:=by
 rw[BG hs (by kernel_rfl) hd h,BJ]
theorem vp{w:J}{A:ab}:∀ (vs:O aa) (i:Nat),(∀j v,vs[j]? =some v->w.cell? (A.add (i+j))=some v)->cy w A i vs.length=some vs
 | [],_,_=>rfl
 |v::vs,i,h=>by
  have h0:=h 0 v rfl
  have a:=vp vs (i+1) (λj u b=>by rw[show i+1+j=i+(j+1) from I];exact h (j+1) u (by simpa using b))
  rw[l0]at h0
  simp[cy,h0,a]
def aF(l:O UInt8):O aa:=l.map λb=>Value.int .u8 (b.toNat:Int)
theorem dI(l:O UInt8):(aF l).length=l.length:=by simp[aF]
theorem mP{l:O UInt8}{i:Nat}(h:i<l.length):(aF l)[i]? =some (.int .u8 ((l[i].toNat:Nat):Int)):=by simp[aF,h]
def mQ(c:Nat):an Nat:=if 48<=c/\c<=57 then some (c-48) else if 97<=c|||32/\c|||32<=122 then some ((c|||32)-97+10) else none
theorem C5(c:UInt8):((c.toNat:Int).toNat.toUInt8)=c:=by simp
theorem kS(l:O UInt8):∀v∈aF l,Plain v:=by
 intro v a;obtain⟨n,_,rfl⟩:=dZ.1 a;trivial
theorem mR(a b:O UInt8):aF (a++b)=aF a++aF b:=by simp[aF]
theorem take_succ{α:Type}(ls:O α){i:Nat}(h:i<ls.length):ls.take (i+1)=ls.take i++ [ls[i]]:=by
 rw[iL h]
structure yG where
 GB:ag
 b:O UInt8
 h:b.length=16
 deriving DecidableEq
def Var(w:J)(b:Nat)(vs:O aa)(T:TypeId):Prop:=bh w b vs.toArray T
section
variable {w w':J}{b:Nat}{vs us:O aa}{T:TypeId}
theorem Var.new(w:J)(vs:O aa)(T:TypeId):Var (w.alloc (.cells vs.toArray T)) w.heap.size vs T:=bh.new _ _ _
theorem Var.rd(h:Var w b vs T){n:Nat}(a:vs.length=n):cy w b 0 n=some vs:=by
 have:=nL h n 0 0 (by simp[a]);rw[this];simp[←a]
theorem Var.C6(h:Var w b vs T){o n:Nat}(a:o+n<=vs.length):cy w ⟨b,o,none⟩ 0 n=some ((vs.drop o).take n):=by
 have:=nL h n o 0 (by simpa using a);rw[this];simp
theorem Var.cell(h:Var w b vs T){i:Nat}:w.cell? ⟨b,i,none⟩=vs[i]? :=by
 rw[bh.cell h];simp
theorem Var.ext(h:Var w b vs T)(hx:Ext w w'):Var w' b vs T:=bh.ext h hx
theorem Var.ad{W:Nat->Prop}(h:Var w b vs T)(hx:ae W w w')(a:¬W b):Var w' b vs T:=bh.ad h hx a
theorem Var.drew(h:Var w b vs T):Var w.drew b vs T:=bh.drew h
theorem Var.lt(h:Var w b vs T):b<w.heap.size:=bh.lt h
theorem Var.b5(h:Var w b vs T)(a:us.length=vs.length)(c:∀v∈us,Plain v):bz w b us:=bh.b5 h 0 us (by simp[a]) c
theorem Var.put(h:Var w b vs T)(a:us.length=vs.length):Var (setCells w b 0 us) b us T:=by
 have:=bh.rf us 0 0 h;simp only[l0]at this;have e:(fY vs.toArray 0 us)=us.toArray:=by
  have h1:=ri us vs.toArray 0 (by simp[a]);rw[cH,a,List.take_zero,j1,dT (by rw[Array.length_toList,jl];simp)]at h1;apply Array.toList_inj.1;rw[h1]
 rwa[e]at this
end
theorem aY{w:J}{K:J->Prop}(h:K w):ao w K:=h
theorem bk{w:J}{c:Array aa}{vs:O aa}{T:TypeId}(hc:c=vs.toArray){K:J->Prop}(h:∀w',Var w' w.heap.size vs T->Ext w w'->w'.heap.size=w.heap.size+1->K w'):ao (w.alloc (.cells c T)) K:=by
 subst hc;exact h _ (Var.new _ _ _) (ae.alloc (.refl _ _) _) (by simp)
theorem cn{w:J}{b:Nat}{vs us l:O aa}{T:TypeId}(a:Var w b vs T)(c:us.length=vs.length)(hl:l=us){K:J->Prop}(h:∀w',Var w' b us T->ae (λq=>q=b) w w'->w'.heap.size=w.heap.size->K w'):ao (setCells w b 0 l) K:=by
 subst hl;refine h _ (a.put c) (ae.kJ (.refl _ _) l 0) ?_;have:∀ (vs:O aa) (i:Nat) (w:J),(setCells w b i vs).heap.size=w.heap.size:=by
  intro vs
  induction vs with
  |nil=>intro i w;rfl
  |cons v vs d=>intro i w;rw[setCells,d];simp[World.setCell]
 exact this _ _ _
theorem Ext.cv{w0 w w':J}{b:Nat}(h:Ext w0 w)(hc:ae (λq=>q=b) w w')(a:w0.heap.size<=b):Ext w0 w':=Ext.dj h hc (λk c=>by subst c;exact a)
theorem Var.yH{w:J}{b o n c:Nat}{vs:O aa}{T:TypeId}{l:O UInt8}(h:Var w b vs T)(d:o+n<=vs.length)(hl:(vs.drop o).take n=aF l):Src 1 w ⟨some ⟨b,o,none⟩,n,c⟩ (aF l):=by
 have hlen:n=l.length:=by
  have:=congrArg List.length hl;rw[cC,c5,dI]at this;omega
 refine⟨by rw[dI];show _=n*1;omega,(λh=>by cases h),λa e=>?_⟩
 cases e;show cy w ⟨b,o,none⟩ 0 (n*1)=_;rw[fu,h.C6 d,hl]
theorem p1:hF ai 48 5 1 1:=⟨by kernel_rfl⟩
theorem C7{kM dU ty:TypeId}{w:J}{b o dl mo:Nat}{s:Y}{l:O UInt8}(hu:Tryz.prog.underlying kM=some (.slice 5))(hs:Src 1 w s (aF l))(e:s.len<=dl)(a:bz w ⟨b,o,none⟩ (aF l)):
 Sem.run ai (Builtin.copy_ #[kM,dU] ty #[.slice (some ⟨b,o,none⟩) dl mo,s]) w=.ok s.len (setCells w ⟨b,o,none⟩ 0 (aF l)):=by
 have f:Nat.min s.len dl=s.len:=jd e;have c:=gx (P:=ai) (w:=w) (t:=5) (d:=.int .u8) (by kernel_rfl);have hc:Tryz.prog.cellsOf 5=1:=by kernel_rfl
 rw[hc]at c;have hf:=nM (P:=ai) hs;have g:=o8 (P:=ai) (A:=⟨b,o,none⟩) (aF l) 0 w (by simpa using a.1) a.2;simp[Builtin.copy_,cP hu,Builtin.lenOf,c,f,hf,g];rfl
def ed(c k:Nat):Nat:=c/2^(8-k)*2^(8-k)
def kb(n i:Nat):Nat:=min (n-8*i) 8
theorem Src.sub{w:J}{s:Y}{vs:O aa}{lo hi:Nat}(h:Src 1 w s vs)(hc:s.len<=s.cap)(h1:lo<=hi)(l:hi<=s.len):Src 1 w ⟨aL s.a 1 lo s.cap,hi-lo,s.cap-lo⟩ ((vs.drop lo).take (hi-lo)):=by
 have hl:vs.length=s.len:=by have:=h.len;omega
 refine⟨by simp;omega,λc=>?_,λa b=>?_⟩
 .have f:s.a=none:=by
   unfold aL at c;split at c
   .exact c
   .simpa using c
  simp[h.nil f]
 .show cy w a 0 ((hi-lo)*1)=_
  by_cases e:hi=lo
  .rw[show hi-lo=0 from I];simp[cy]
  .have ar:∃A,s.a=some A/\a=A.add lo:=by
    unfold aL at b;rw[if_neg I]at b
    cases hs:s.a with
    |none=>rw[hs]at b;cases b
    |some A=>rw[hs]at b;exact⟨A,rfl,by simpa using b.symm⟩
   obtain⟨A,ar,rfl⟩:=ar;have g:=h.rd A ar;have:=vp (w:=w) (A:=A.add lo) ((vs.drop lo).take (hi-lo)) 0 (λj v d=>by
    rw[add_add];have i:j<hi-lo:=by have:=(jA.1 d).1;simp at this;omega
    rw[List.getElem?_take_of_lt i,qy]at d;have:=rj g d;simpa using this)
   have k:((vs.drop lo).take (hi-lo)).length=hi-lo:=by simp;omega
   rw[k]at this;rw[fu];exact this
def hM(l:O UInt8):Nat:=l.foldl (λn c=>n*256+c.toNat) 0
theorem C8(l m:O UInt8):hM (l++m)=m.foldl (λn c=>n*256+c.toNat) (hM l):=by simp[hM,List.foldl_append]
theorem vq(l:O UInt8)(c:UInt8):hM (l++ [c])=hM l*256+c.toNat:=by rw[C8];rfl
theorem lI:∀ (k:Nat) (l:O UInt8),l.length=k->hM l<256^k:=by
 intro k
 induction k with
 |zero=>intro l h;rw[l2.1 h];simp[hM]
 |succ k a=>
  intro l h;obtain⟨m,c,rfl⟩:∃m c,l=m++ [c]:=by
   rcases List.eq_nil_or_concat l with rfl|⟨m,c,b⟩
   .simp at h
   .exact⟨m,c,by rw[b,List.concat_eq_append]⟩
  rw[vq,Nat.pow_succ];have:=a m (by simpa using h);have:=UInt8.toNat_lt c;omega
theorem C9{a b:Nat}(c:a<2^64)(d:b<2^64):ll .u64 (a:Int) (b:Int)=((a|||b:Nat):Int):=by
 have e:BitVec.ofInt 64 (a:Int)=BitVec.ofNat 64 a:=by simp
 have f:BitVec.ofInt 64 (b:Int)=BitVec.ofNat 64 b:=by simp
 unfold ll;show IntKind.u64.wrap (((BitVec.ofInt 64 (a:Int)|||BitVec.ofInt 64 (b:Int)).toNat:Nat):Int)=_;rw[e,f,BitVec.toNat_or,BitVec.toNat_ofNat,BitVec.toNat_ofNat,ir c,ir d];have:a|||b<2^64:=Nat.or_lt_two_pow c d;have:a|||b<18446744073709551616:=this;rw[gz I I]
theorem C_(n c:Nat)(hc:c<256):n*256|||c=n*256+c:=by
 have:=Nat.shiftLeft_add_eq_or_of_lt (i:=8) (b:=c) (by simpa using hc) n;rw[Nat.shiftLeft_eq]at this;exact this.symm
theorem jL{s:Y}{l:O UInt8}{w:J}(hs:Src 1 w s (aF l))(hc:s.len<=s.cap){a k:Nat}(u:1<=k/\k<=8)(x:a+k<=l.length)(hl:l.length<=1000000000000):
 aH ai 156 #[s,a,k] w (λv w'=>v=.tuple #[.int .u64 ((hM ((l.drop a).take k):Nat):Int),true]/\w=w'):=by
 refine okF (af.jL s a k) ay.jL func156 ?_;(delta af.jL hG al aG aI b4 au;dsimp only);have y:s.len=l.length:=by have:=hs.len;rw[dI]at this;omega
 refine Calls.mono (af.Cv s a k w (λv w'=>v=.tuple #[.slice (aL s.a 1 a s.cap) k (s.cap-a),true]/\w=w') ?_) ?_
 .delta af.jM al au
  rw[bB (n:=(s.len:Int)-(a:Int)) I I,bB (n:=(a:Int)+(k:Int)) I I];refine⟨λh=>?_,λ_=>⟨⟨I,I⟩,⟨I,I⟩,?_,rfl⟩⟩
  .simp only[hW,cO]at h;omega
  .rw[show Int.toNat ((a:Int)+(k:Int))-Int.toNat (a:Int)=k from I];rfl
 rintro _ _ ⟨_,rfl,rfl,rfl⟩;refine⟨⟨aL s.a 1 a s.cap,k,s.cap-a⟩,true,rfl,cl (λb w'=>b=false/\w=w') (λq g=>⟨λh=>by simp at h,λ_=>?_⟩) ?_⟩
 .refine Calls.mono (af.yr k w (λv w'=>v=true/\w=w') ⟨?_,rfl⟩) ?_
  .have h1:decide ((k:Int)>=1)=true:=dv I
   have d:decide ((k:Int)<=8)=true:=dv I;rw[h1,d];rfl
  .rintro _ _ ⟨_,rfl,rfl,rfl⟩
   exact⟨_,rfl,g _ _ ⟨rfl,rfl⟩⟩
 rintro _ _ ⟨rfl,rfl⟩;have c:=Src.sub hs hc (lo:=a) (hi:=a+k) I I;rw[show a+k-a=k from I]at c;have c:Src 1 w ⟨aL s.a 1 a s.cap,k,s.cap-a⟩ (aF ((l.drop a).take k)):=by
  simpa[aF,o0,nu] using c
 obtain⟨m,f⟩:∃m,m=(l.drop a).take k:=⟨_,rfl⟩;have z:m.length=k:=by rw[f];simp;omega
 rw[←f]at c⊢;refine⟨λh=>by simp at h,λ_=>⟨λn i w'=>w=w'/\∃j:Nat,i=j/\j<=k/\n=((hM (m.take j):Nat):Int),λ_ i _=>((k:Int)-i).toNat,⟨rfl,0,rfl,cI _,rfl⟩,?_⟩⟩;rintro _ _ _ ⟨rfl,j,rfl,B,rfl⟩;refine⟨λaJ=>?_,λe=>?_⟩
 .have aJ:((j:Int)<(k:Int)):=cf aJ
  have aJ:j<k:=by omega
  obtain⟨A,ar,o,p⟩:=c.at (mP (l:=m) (i:=j) I);have h1:=lI j (m.take j) (by simp;omega);have d:256^j<=256^7:=qF I I;have d:256^j<=72057594037927936:=d;have r:(m[j]).toNat<256:=UInt8.toNat_lt _;have t:((hM (m.take j):Nat):Int)*2^(min (Int.toNat 8) 64)=((hM (m.take j)*256:Nat):Int):=by
   show((hM (m.take j):Nat):Int)*256=_;omega
  refine⟨A,ar,o,_,p,by decide,?_⟩;rw[t,gz (n:=((hM (m.take j)*256:Nat):Int)) I I,gz (n:=((m[j].toNat:Nat):Int)) I I,C9 (by show _<18446744073709551616;omega) (by show _<18446744073709551616;omega),C_ _ _ r,bB (n:=(j:Int)+1) I I];refine⟨⟨rfl,j+1,I,I,?_⟩,?_⟩
  .rw[take_succ m I,vq]
  .show((k:Int)-((j:Int)+1)).toNat<((k:Int)-(j:Int)).toNat
   omega
 .have e:¬((j:Int)<(k:Int)):=cx e
  have e:j=k:=by omega
  subst e;exact⟨by rw[dT I],rfl⟩
theorem vr{w:J}{s:Y}{l:O UInt8}(h:Src 1 w s (aF l))(hl:l.length<=1000000):
 aH ai 135 #[s] w (λv w'=>∃b:Y,v=b/\aZ 1 5 w' b (aF l)/\Ext w w'/\∀k,aB b k->w.heap.size<=k):=by
 have i:s.len=l.length:=by have:=h.len;rw[dI]at this;omega
 refine okF (af.mw s) ay.mw func135 ?_;delta af.mw al U;refine⟨λc=>?_,λ_=>?_⟩
 .have c:s.a=none:=by simpa using c
  rw[h.nil c];exact⟨⟨none,0,0⟩,rfl,aZ.none _ _ _,.refl _ _,λk d=>(gi k d).elim⟩
 .obtain⟨b,w',h1,e,j,f,g,_⟩:=p1.clone (dG:=48) h (kS l) I
  exact aY ⟨b,w',h1,b,rfl,e,f,g⟩
theorem Da{w:J}{s:Y}{l:O UInt8}(c:UInt8)(b:aZ 1 5 w s (aF l))(h:l.length<=1000000):
 ∃ (a:Y) (w':J),Sem.run ai (Builtin.append_ #[48,48] 48 #[s,.slice (some w.heap.size) 1 1]) (w.alloc (.cells #[.int .u8 (c.toNat:Int)] 5))=.ok a w'/\
  aZ 1 5 w' a (aF (l++ [c]))/\ae (aB s) w w'/\(∀k,aB a k->aB s k\/w.heap.size<=k):=by
 have i:s.len=l.length:=by have:=b.1;rw[dI]at this;omega
 obtain⟨a,w',h1,d,j,e,f⟩:=p1.push (dG:=48) (w:=w) (s:=s) (xs:=[.int .u8 (c.toNat:Int)]) rfl b (λv g=>by rw[eX.1 g];trivial) I;exact⟨a,w',h1,by rw[mR];exact d,e,f⟩
def bQ(n k:Nat):O UInt8:=(List.range k).map λj=>UInt8.ofNat (n/256^(k-1-j)%256)
theorem ey(n k:Nat):(bQ n k).length=k:=by simp[bQ]
theorem gR{s:Y}{l:O UInt8}{w:J}(hs:Src 1 w s (aF l))(hl:l.length<=100000){n k:Nat}(g:n<2^64)(D:1<=k/\k<=8):
 aH ai 126 #[s,.int .u64 n,k] w (λv w'=>∃a:Y,v=a/\aZ 1 5 w' a (aF (l++bQ n k))/\Ext w w'/\∀q,aB a q->w.heap.size<=q):=by
 have g:n<18446744073709551616:=g;refine okF (af.gR s n k) ay.gR func126 ?_;(delta af.gR aW aG al au U;dsimp only);refine(vr hs I).use ?_;rintro _ w1 ⟨s1,rfl,m,o,p⟩;refine⟨s1,rfl,Calls.mono (af.yr k w1 (λv w'=>v=true/\w1=w') ⟨?_,rfl⟩) ?_⟩
 .have h1:decide ((k:Int)>=1)=true:=dv I
  have b:decide ((k:Int)<=8)=true:=dv I;rw[h1,b];rfl
 rintro _ _ ⟨_,rfl,rfl,rfl⟩;rw[bB (n:=(k:Int)-1) I I];refine⟨_,rfl,λh=>by simp at h,λ_=>⟨λt i w'=>∃j:Nat,i=(k:Int)-1-j/\j<=k/\Ext w w'/\(∀q,aB t q->w.heap.size<=q)/\aZ 1 5 w' t (aF (l++(bQ n k).take j)),λ_ i _=>(i+1).toNat,⟨0,I,I,o,p,by simpa using m⟩,?_⟩⟩;rintro t _ ah ⟨j,rfl,E,c,d,e⟩;refine⟨λaJ=>?_,λf=>?_⟩
 .have aJ:j<k:=by have:=cf aJ;omega
  rw[bB (n:=8*((k:Int)-1-j)) I I,bB (n:=(k:Int)-1-j-1) I I];have r:IntKind.wrap .u8 (Int.fdiv (n:Int) (2^(min (Int.toNat (8*((k:Int)-1-j))) 64)))=((((UInt8.ofNat (n/256^(k-1-j)%256)).toNat:Nat)):Int):=by
   rw[tl (g1 _ I),show min (Int.toNat (8*((k:Int)-1-j))) 64=8*(k-1-j) from I,BI];have u:((2:Int)^(8*(k-1-j)))=((256^(k-1-j):Nat):Int):=by
    rw[Int.pow_mul];simp
   rw[u,Int.fdiv_eq_ediv_of_nonneg _ (Int.natCast_nonneg _)];generalize 256^(k-1-j)=z;rfl
  rw[r];obtain⟨x,y,h1,b,A,B⟩:=Da (UInt8.ofNat (n/256^(k-1-j)%256)) e (by simp[bQ];omega);refine⟨I,aY ⟨x,y,h1,⟨j+1,I,I,Ext.dj c A d,λq C=>?_,?_⟩,?_⟩⟩
  .rcases B q C with h|h
   .exact d q h
   .exact eC c.size h
  .rw[take_succ _ (by rw[ey];exact aJ),←cW]
   have:(bQ n k)[j]'(by rw[ey];exact aJ)=UInt8.ofNat (n/256^(k-1-j)%256):=by simp[bQ]
   rw[this];exact b
  .show((k:Int)-1-j-1+1).toNat<((k:Int)-1-j+1).toNat
   omega
 .have f:j=k:=by have:=cx f;omega
  subst f;rw[dT (by rw[ey];exact br _)]at e;exact⟨t,rfl,e,c,d⟩
theorem Db(n k:Nat):bQ n (k+1)=bQ (n/256) k++ [UInt8.ofNat (n%256)]:=by
 unfold bQ;rw[List.range_succ,fe]
 congr 1
 .apply qG
  intro j a;have:=ik.1 a;rw[show k+1-1-j=(k-1-j)+1 from I,Nat.pow_succ,Nat.mul_comm,←Nat.div_div_eq_div_mul]
 .simp
theorem vt:∀ (k n:Nat),n<256^k->hM (bQ n k)=n
 |0,n,h=>by
  have:n=0:=by simpa using h
  subst this;rfl
 |k+1,n,h=>by
  rw[Nat.pow_succ]at h
  rw[Db,vq,vt k (n/256) I,tl (g1 _ I)]
  omega
def cp(n:az):Prop:=gT n\/vg n
def lJ(l:Key):O UInt8:=UInt8.ofNat l.length::l
def fZ(n:az)(i:Nat):O UInt8:=lJ (n.keys.getD i [])++if n.leaf then lJ (n.vals.getD i []) else bQ (n.kids.getD (i+1) 0) 2
def gD(n:az)(i m:Nat):O UInt8:=((List.range' i m).map (fZ n)).flatten
theorem Dc(n:az)(i m:Nat):gD n i (m+1)=fZ n i++gD n (i+1) m:=rfl
theorem vu(n:az)(m:Nat):gD n 0 (m+1)=gD n 0 m++fZ n m:=by
 unfold gD;rw[List.range'_concat,fe,qH];simp
def preB(n:az):O UInt8:=UInt8.ofNat n.keys.length::if n.leaf then [] else bQ (n.kids.getD 0 0) 2
def h5(n:az):O UInt8:=preB n++gD n 0 n.keys.length
theorem lK(l:Key):(lJ l).length=l.length+1:=rfl
theorem cp.keys{n:az}(h:cp n):tg n:=by
 rcases h with h|h
 .exact h.totg
 .exact h.totg
theorem cp.vals{n:az}(h:cp n):∀v∈n.vals,v.length<=24:=by
 rcases h with h|h
 .exact h.vals
 .rw[h.vals];simp
theorem cp.kids{n:az}(h:cp n):∀k∈n.kids,k<1600:=by
 rcases h with h|h
 .rw[h.kids];simp
 .exact h.kids
theorem tm{α:Type}{l:O α}{i:Nat}{d:α}(h:i<l.length):l.getD i d∈l:=by
 rw[e6,dD h];exact cm h
theorem vv{n:az}(h:cp n){i:Nat}(hi:i<n.keys.length):(cellsOf n)[i]? =some (fZ n i).length:=by
 unfold cellsOf fZ;rcases h with h|h
 .rw[h.leaf]
  simp only[if_true];have a:i<n.vals.length:=by rw[h.len];exact hi
  rw[List.getElem?_zipWith,dD hi,dD a];simp[e6,dD hi,dD a,lK];omega
 .rw[h.inner]
  simp only[ft,if_false];rw[j3,dD hi];simp[e6,dD hi,lK,ey];omega
theorem ox{n:az}(h:cp n):(cellsOf n).length=n.keys.length:=by
 unfold cellsOf;rcases h with h|h
 .rw[h.leaf];simp[h.len]
 .rw[h.inner];simp
theorem vw{n:az}(h:cp n):∀m,m<=n.keys.length->(gD n 0 m).length=((cellsOf n).take m).sum
 |0,_=>by simp[gD]
 |m+1,a=>by
  have hl:m<(cellsOf n).length:=by rw[ox h];omega
  have h1:=vv h (i:=m) I
  rw[dD hl]at h1
  have h1:(cellsOf n)[m]=(fZ n m).length:=Option.some.inj h1
  rw[vu,cE,vw h m I,ov hl,h1]
theorem vx{n:az}(h:cp n):(h5 n).length=bx n:=by
 have e:((cellsOf n).take n.keys.length).sum=(cellsOf n).sum:=by rw[dT (by rw[ox h];exact br _)]
 unfold h5 bx preB;rw[cE,vw h _ (br _),e]
 cases n.leaf<;>simp[ey]
theorem tn{n:az}(h:cp n):2*n.keys.length<=bx n:=by
 have h1:∀l:O Nat,(∀x∈l,2<=x)->2*l.length<=l.sum:=by
  intro l
  induction l with
  |nil=>simp
  |cons a l c=>
   intro h;have:=h a (by simp);have:=c λx hx=>h x (by simp[hx]);simp only[fD,List.sum_cons];omega
 have d:=h1 (cellsOf n) (by
  intro x hx;obtain⟨i,hi,rfl⟩:=eD hx;have e:i<n.keys.length:=by rwa[←ox h]
  have b:=vv h e;rw[dD hi]at b;rw[Option.some.inj b];unfold fZ;rw[cE,lK];split
  .rw[lK];omega
  .rw[ey];omega)
 rw[ox h]at d;unfold bx;omega
abbrev Rd:=O UInt8×ag
def gE(r:Rd)(k:Nat):O UInt8×Rd:=if r.2=false\/r.1.length<k then ([],(r.1,false)) else (r.1.take k,(r.1.drop k,true))
def rdNum(r:Rd)(k:Nat):Nat×Rd:=(if (gE r k).1.length=k then hM (gE r k).1 else 0,(gE r k).2)
def iz(r:Rd):O UInt8×Rd:=gE (rdNum r 1).2 (rdNum r 1).1
def mS(s:az×Rd):az×Rd:=
 let t:=iz s.2
 if s.1.leaf then (⟨s.1.leaf,s.1.keys++ [t.1],s.1.vals++ [(iz t.2).1],s.1.kids⟩,(iz t.2).2)
 else (⟨s.1.leaf,s.1.keys++ [t.1],s.1.vals,s.1.kids++ [(rdNum t.2 2).1]⟩,(rdNum t.2 2).2)
def gU(s:az×Rd):Nat->az×Rd
 |0=>s
 |i+1=>mS (gU s i)
def kT(leaf:ag)(r:Rd):az×Rd:=if leaf then (⟨true,[],[],[]⟩,r) else (⟨false,[],[],[(rdNum r 2).1]⟩,(rdNum r 2).2)
def g7(leaf:ag)(b:O UInt8):az×Rd:=gU (kT leaf (rdNum (b,true) 1).2) (rdNum (b,true) 1).1
def kh(leaf:ag)(b:O UInt8)(n:az):Prop:=cp n/\n.leaf=leaf/\bx n<=232/\h5 n=b
theorem yI(a b:O UInt8):gE (a++b,true) a.length=(a,(b,true)):=by
 unfold gE;rw[if_neg (by simp)];simp
theorem tp{n k:Nat}(b:O UInt8)(h:n<256^k):rdNum (bQ n k++b,true) k=(n,(b,true)):=by
 unfold rdNum;have:=yI (bQ n k) b;rw[ey]at this;rw[this];simp[ey,vt k n h]
theorem yJ(n:Nat)(h:n<256): [UInt8.ofNat n]=bQ n 1:=by
 simp[bQ,ir h]
theorem vy(l:Key)(b:O UInt8)(h:l.length<256):iz (lJ l++b,true)=(l,(b,true)):=by
 have e:lJ l++b=bQ l.length 1++(l++b):=by
  rw[←yJ _ h];rfl
 unfold iz;rw[e,tp _ (by simpa using h)];exact yI l b
theorem De{n:az}(h:cp n){i:Nat}(hi:i<n.keys.length)(b:O UInt8):
 mS (⟨n.leaf,n.keys.take i,n.vals.take i,if n.leaf then [] else n.kids.take (i+1)⟩,(fZ n i++b,true))=
  (⟨n.leaf,n.keys.take (i+1),n.vals.take (i+1),if n.leaf then [] else n.kids.take (i+2)⟩,(b,true)):=by
 have e:n.keys.getD i []∈n.keys:=tm hi;have f:=(h.keys.ok _ e).2;have d:n.keys.take (i+1)=n.keys.take i++ [n.keys.getD i []]:=by
  rw[take_succ _ hi,e6,dD hi];rfl
 unfold mS;unfold fZ;rcases h with h|h
 .have a:i<n.vals.length:=by rw[h.len];exact hi
  have c:n.vals.getD i []∈n.vals:=tm a;have ev:n.vals.take (i+1)=n.vals.take i++ [n.vals.getD i []]:=by
   rw[take_succ _ a,e6,dD a];rfl
  simp only[h.leaf,if_true];rw[cW,vy _ _ I];simp only;rw[vy _ _ (by have:=h.vals _ c;omega),d,ev]
 .have a:i+1<n.kids.length:=by rw[h.len];omega
  have c:n.kids.getD (i+1) 0∈n.kids:=tm a;have ev:n.kids.take (i+2)=n.kids.take (i+1)++ [n.kids.getD (i+1) 0]:=by
   rw[take_succ _ a,e6,dD a];rfl
  simp only[h.inner,ft,if_false,h.vals];rw[cW,vy _ _ I];simp only;rw[tp _ (by have:=h.kids _ c;show _<65536;omega),d,ev];simp
theorem yK{n:az}(h:cp n):∀i,i<=n.keys.length->
 gU (⟨n.leaf,[],[],if n.leaf then [] else n.kids.take 1⟩,(gD n 0 n.keys.length,true)) i=(⟨n.leaf,n.keys.take i,n.vals.take i,if n.leaf then [] else n.kids.take (i+1)⟩,(gD n i (n.keys.length-i),true))
 |0,_=>by simp[gU]
 |i+1,hi=>by
  rw[gU,yK h i I,show n.keys.length-i=n.keys.length-(i+1)+1 from I,Dc]
  exact De h I _
theorem vz{n:az}(h:cp n)(g:bx n<=232):g7 n.leaf (h5 n)=(n,([],true)):=by
 have i:=tn h;unfold g7;have b:rdNum (h5 n,true) 1=(n.keys.length,((if n.leaf then [] else bQ (n.kids.getD 0 0) 2)++gD n 0 n.keys.length,true)):=by
  have:h5 n=bQ n.keys.length 1++((if n.leaf then [] else bQ (n.kids.getD 0 0) 2)++gD n 0 n.keys.length):=by
   rw[←yJ _ I];rfl
  rw[this,tp _ (by show _<256;omega)]
 rw[b];simp only;have c:kT n.leaf ((if n.leaf then [] else bQ (n.kids.getD 0 0) 2)++gD n 0 n.keys.length,true)=(⟨n.leaf,[],[],if n.leaf then [] else n.kids.take 1⟩,(gD n 0 n.keys.length,true)):=by
  unfold kT;rcases h with h|h
  .simp[h.leaf]
  .have hd:0<n.kids.length:=by rw[h.len];omega
   have d:n.kids.getD 0 0∈n.kids:=tm hd;have:=h.kids _ d;simp only[h.inner,ft,if_false];rw[tp _ (by show _<65536;omega)]
   cases e:n.kids with
   |nil=>rw[e]at hd;simp at hd
   |cons a l=>simp
 rw[c,yK h _ (br _)];have f:gD n n.keys.length (n.keys.length-n.keys.length)=[]:=by rw[nn];rfl
 rw[f,dT (br _)];rcases h with h|h
 .rw[dT (by rw[h.len];exact br _)]
  have:=h.kids;have:=h.leaf
  cases n
  simp_all
 .rw[dT (by rw[h.vals];simp),dT (by rw[h.len];exact br _)]
  have:=h.inner
  cases n
  simp_all
theorem kh.uniq{leaf:ag}{b:O UInt8}{n m:az}(h1:kh leaf b n)(d:kh leaf b m):n=m:=by
 obtain⟨a1,a2,a3,a4⟩:=h1;obtain⟨b8,bM,e,f⟩:=d;have a:=vz a1 a3;have c:=vz b8 e;rw[a2,a4]at a;rw[bM,f,a]at c;exact congrArg Prod.fst c
def p2(n:Nat):Nat:=if n%2=1 then (n/2)^^^0x82f63b78 else n/2
def tq:Nat->Nat->Nat
 |0,n=>n
 |k+1,n=>p2 (tq k n)
def yL(n:Nat)(c:UInt8):Nat:=tq 8 (n^^^c.toNat)
def jQ(n:Nat)(l:O UInt8):Nat:=l.foldl yL n
def g8(l:O UInt8):Nat:=4294967295-jQ 4294967295 l
theorem Df{n:Nat}(h:n<4294967296):p2 n<4294967296:=by
 unfold p2;split
 .exact Nat.xor_lt_two_pow (n:=32) (by show _<4294967296;omega) (by decide)
 .omega
theorem vA{n:Nat}(h:n<4294967296):∀k,tq k n<4294967296
 |0=>h
 |k+1=>Df (vA h k)
theorem Dg{n:Nat}(h:n<4294967296)(c:UInt8):yL n c<4294967296:=
 vA (Nat.xor_lt_two_pow (n:=32) h (by have:=UInt8.toNat_lt c;show _<4294967296;omega)) 8
theorem tr:∀ (l:O UInt8) {n:Nat},n<4294967296->jQ n l<4294967296
 | [],_,h=>h
 |c::l,_,h=>tr l (Dg h c)
theorem yM(n:Nat)(a b:O UInt8):jQ n (a++b)=jQ (jQ n a) b:=by simp[jQ,List.foldl_append]
theorem vB(l:O UInt8):g8 l<4294967296:=by unfold g8;omega
structure gV where
 kind:Nat
 gen:Nat
 body:O UInt8
 deriving DecidableEq
structure lL(p:gV):Prop where
 bR:1<=p.kind
 b3:p.kind<=4
 gen:p.gen<18446744073709551616
 body:p.body.length<=232
def fS:O UInt8:=[83,84,78,67]
def eA(no:Nat)(p:gV):O UInt8:=fS++([1,UInt8.ofNat p.kind]++(bQ p.body.length 2++(bQ no 4++bQ p.gen 8)))
def eG(p:gV):O UInt8:=p.body++List.replicate (232-p.body.length) 0
def dW(no:Nat)(p:gV):O UInt8:=eA no p++(bQ (g8 (eA no p++eG p)) 4++eG p)
theorem lM(no:Nat)(p:gV):(eA no p).length=20:=by simp[eA,fS,ey]
theorem tt{p:gV}(h:lL p):(eG p).length=232:=by
 have:=h.body;simp[eG];omega
theorem p3{p:gV}(no:Nat)(h:lL p):(dW no p).length=256:=by simp[dW,lM,ey,tt h]
def sumOf(l:O UInt8):Nat:=g8 (l.take 20++l.drop 24)
def cU(l:O UInt8)(a k:Nat):Nat:=hM ((l.drop a).take k)
def dh(no:Int)(l:O UInt8):Except Int gV:=
 if l.length≠256 then .error 9
 else if l.take 4≠fS then .error 4
 else if l.getD 4 0≠1 then .error 12
 else if sumOf l≠cU l 20 4 then .error 5
 else if¬(1<=(l.getD 5 0).toNat/\(l.getD 5 0).toNat<=4)\/232<cU l 6 2\/(l.drop (24+cU l 6 2)).all (λc=>c==0)=false then .error 4
 else if¬(0<=no/\no<1600)\/(cU l 8 4:Int)≠no then .error 1
 else .ok ⟨(l.getD 5 0).toNat,cU l 12 8,(l.drop 24).take (cU l 6 2)⟩
theorem drop_left'{α:Type}{a b:O α}{n:Nat}(h:a.length=n):(a++b).drop n=b:=by subst h;exact List.drop_left
theorem kU{α:Type}{a b:O α}{n:Nat}(h:a.length=n):(a++b).take n=a:=by subst h;exact List.take_left
theorem p4{a b:O UInt8}{n k m:Nat}(c:a.length=m)(h:n<256^k):cU (a++(bQ n k++b)) m k=n:=by
 unfold cU;rw[drop_left' c,kU (ey n k),vt k n h]
theorem tu{no:Nat}{p:gV}(o:no<1600)(h:lL p):dh no (dW no p)=.ok p:=by
 have q:=h.body;have e:=h.bR;have f:=h.b3;have hg:=h.gen;have ht:=tt h;have b:=lM no p;have hc:=vB (eA no p++eG p);have bG:cU (dW no p) 20 4=g8 (eA no p++eG p):=p4 b (by show _<4294967296;exact hc);have a:dW no p=(fS++ [1,UInt8.ofNat p.kind])++(bQ p.body.length 2++((bQ no 4++bQ p.gen 8)++(bQ (g8 (eA no p++eG p)) 4++eG p))):=by
  show eA no p++_=_;rw[show eA no p=(fS++ [1,UInt8.ofNat p.kind])++(bQ p.body.length 2++(bQ no 4++bQ p.gen 8)) by simp[eA]];simp only[cW]
 have bc:cU (dW no p) 6 2=p.body.length:=by rw[a];exact p4 rfl (by show _<65536;omega)
 have g:dW no p=((fS++ [1,UInt8.ofNat p.kind])++bQ p.body.length 2)++(bQ no 4++(bQ p.gen 8++(bQ (g8 (eA no p++eG p)) 4++eG p))):=by rw[a];simp only[cW]
 have i:cU (dW no p) 8 4=no:=by rw[g];exact p4 (by simp[fS,ey]) (by show _<4294967296;omega)
 have j:dW no p=((fS++ [1,UInt8.ofNat p.kind])++(bQ p.body.length 2++bQ no 4))++(bQ p.gen 8++(bQ (g8 (eA no p++eG p)) 4++eG p)):=by rw[a];simp only[cW]
 have k:cU (dW no p) 12 8=p.gen:=by rw[j];exact p4 (by simp[fS,ey]) (by show _<18446744073709551616;exact hg)
 have l:dW no p=(eA no p++bQ (g8 (eA no p++eG p)) 4)++eG p:=by simp[dW]
 have m:(eA no p++bQ (g8 (eA no p++eG p)) 4).length=24:=by simp[b,ey]
 have d24:(dW no p).drop 24=eG p:=by rw[l];exact drop_left' m
 have t4:(dW no p).take 4=fS:=by rw[a];rfl
 have n:(dW no p).getD 4 0=1:=by rw[a];rfl
 have d:((dW no p).getD 5 0).toNat=p.kind:=by rw[a];show(UInt8.ofNat p.kind).toNat=p.kind;exact tl I
 have s:sumOf (dW no p)=g8 (eA no p++eG p):=by
  unfold sumOf;rw[d24,show(dW no p).take 20=eA no p from kU b]
 unfold dh;rw[if_neg (by rw[p3 no h];simp),if_neg (by rw[t4];simp),if_neg (by rw[n];simp),if_neg (by rw[s,bG];simp),if_neg (by
  rw[d,bc];rintro(h1|h1|h1)
  .exact h1 ⟨e,f⟩
  .omega
  .rw[List.all_eq_false]at h1
   obtain⟨c,hc,h1⟩:=h1;rw[←ld,d24]at hc;unfold eG at hc;rw[List.drop_left]at hc;exact h1 (by rw[qI hc];rfl)),if_neg (by rw[i];rintro(h1|h1)<;>omega),d,bc,k,d24]
 have:(eG p).take p.body.length=p.body:=by unfold eG;exact List.take_left
 rw[this]
def gF(s:Y):aa:=s
abbrev gd(w:J)(s:Y):Prop:=∀k,aB s k->w.heap.size<=k
theorem gd.mono{w w':J}{s:Y}(h:gd w' s)(hx:w.heap.size<=w'.heap.size):gd w s:=λk a=>eC hx (h k a)
theorem len8{w:J}{s:Y}{l:O UInt8}(h:Src 1 w s (aF l)):s.len=l.length:=by have:=h.len;rw[dI]at this;omega
theorem kV{w:J}{T:TypeId}{s:Y}{l:O UInt8}(h:aZ 1 T w s (aF l)):s.len=l.length:=by have:=h.1;rw[dI]at this;omega
theorem lN{w:J}{s:Y}{l:O UInt8}{lo hi:Nat}(h:Src 1 w s (aF l))(hc:s.len<=s.cap)(h1:lo<=hi)(b:hi<=s.len):Src 1 w ⟨aL s.a 1 lo s.cap,hi-lo,s.cap-lo⟩ (aF ((l.drop lo).take (hi-lo))):=by
 have:=Src.sub h hc h1 b;simpa[aF,o0,nu] using this
def ee(ps:O (Y×O UInt8)):O UInt8:=(ps.map (·.2)).flatten
theorem yN(a:O (Y×O UInt8))(p:Y×O UInt8):ee (a++ [p])=ee a++p.2:=by simp[ee]
theorem Dh(ps:O (Y×O UInt8))(j:Nat):(ee (ps.take j)).length<=(ee ps).length:=by
 have h:ps=ps.take j++ps.drop j:=(gJ j ps).symm;have:(ee ps).length=(ee (ps.take j)).length+(ee (ps.drop j)).length:=by
  conv=>lhs;rw[h]
  unfold ee;rw[fe,qH,cE]
 omega
theorem yO(ps:O (Y×O UInt8)){j:Nat}(a:j<ps.length):(ps[j]).2.length<=(ee ps).length:=by
 have h:ps=ps.take j++ps[j]::ps.drop (j+1):=by rw[←k_ a,gJ]
 have:(ee ps).length=(ee (ps.take j)).length+((ps[j]).2.length+(ee (ps.drop (j+1))).length):=by
  conv=>lhs;rw[h]
  unfold ee;rw[fe,qH,cE,iM,List.flatten_cons,cE]
 omega
theorem tv{s:Y}{w:J}(ps:O (Y×O UInt8))(hs:Src 1 w s (ps.map λp=>gF p.1))(f:∀p∈ps,Src 1 w p.1 (aF p.2))(hl:(ee ps).length<=100000)(u:ps.length<=100000):
 aH ai 92 #[s] w (λv w'=>∃a:Y,v=a/\aZ 1 5 w' a (aF (ee ps))/\Ext w w'/\gd w a):=by
 refine okF (af.sq s) ay.sq func92 ?_;(delta af.sq al aI ak au;dsimp only);have x:s.len=ps.length:=by have:=hs.len;rw[dE]at this;omega
 refine⟨λa i w'=>∃j:Nat,i=j/\j<=ps.length/\aZ 1 5 w' a (aF (ee (ps.take j)))/\Ext w w'/\gd w a,λ_ i _=>((ps.length:Int)-i).toNat,⟨0,rfl,cI _,aZ.none 1 5 _,.refl _ _,λk c=>(gi k c).elim⟩,?_⟩;rintro a _ w1 ⟨j,rfl,y,b,hx,hf⟩;refine⟨λaJ=>?_,λd=>?_⟩
 .have aJ:j<ps.length:=by have:=cf aJ;omega
  obtain⟨A,ar,g,l⟩:=(hs.ext hx).at (i:=j) (v:=gF (ps[j]).1) (by simp[aJ]);have e:=(f _ (cm aJ)).ext hx;have h1:=yO ps aJ;have z:=Dh ps j;have m:=len8 e;have o:=kV b;obtain⟨s2,ah,av,q,B,r,t⟩:=p1.append (dG:=48) e b (kS _) (by rw[m,o];omega);rw[bB (n:=(j:Int)+1) I I];refine⟨A,ar,g,(ps[j]).1,l,s2,ah,av,⟨j+1,I,I,?_,Ext.dj hx r hf,λk c=>?_⟩,?_⟩
  .rw[take_succ _ aJ]
   rw[yN,mR];exact q
  .rcases t k c with h|h
   .exact hf k h
   .exact eC hx.size h
  .show((ps.length:Int)-((j:Int)+1)).toNat<((ps.length:Int)-(j:Int)).toNat
   omega
 .have d:j=ps.length:=by have:=cx d;omega
  subst d;rw[il]at b;exact⟨a,rfl,b,hx,hf⟩
theorem Di{s:Y}{l:O UInt8}{w:J}(hs:Src 1 w s (aF l))(hc:s.len<=s.cap){a k:Nat}(b:a+k<=l.length)(hl:l.length<=1000000000000):
 aH ai 215 #[s,a,k] w (λv w'=>v=.tuple #[.slice (aL s.a 1 a s.cap) k (s.cap-a),true]/\w=w'):=by
 have c:=len8 hs;refine okF (af.jM s a k) ay.jM func215 ?_;delta af.jM al au;rw[bB (n:=(s.len:Int)-(a:Int)) I I,bB (n:=(a:Int)+(k:Int)) I I];refine⟨λh=>?_,λ_=>⟨⟨I,I⟩,⟨I,I⟩,?_,rfl⟩⟩
 .simp only[hW,cO]at h;omega
 .rw[show Int.toNat ((a:Int)+(k:Int))-Int.toNat (a:Int)=k from I];rfl
theorem Dj{s:Y}{l:O UInt8}{w:J}(hs:Src 1 w s (aF l)){a k:Nat}(b:l.length<a+k)(c:a<=l.length)(hl:l.length<=1000000000000)(d:k<=1000000000000):
 aH ai 215 #[s,a,k] w (λv w'=>v=.tuple #[(),false]/\w=w'):=by
 have f:=len8 hs;refine okF (af.jM s a k) ay.jM func215 ?_;delta af.jM al au;rw[bB (n:=(s.len:Int)-(a:Int)) I I,bB (n:=(a:Int)+(k:Int)) I I];have e:(((decide ((a:Int)<0))||(decide ((k:Int)<0)))||(decide ((a:Int)>(s.len:Int)))||(decide ((k:Int)>((s.len:Int)-(a:Int)))))=true:=by
  simp only[hW,cO];omega
 exact⟨λ_=>⟨rfl,rfl⟩,λh=>(by rw[e]at h;cases h)⟩
theorem oc{s:Y}{l:O UInt8}{w:J}(hs:Src 1 w s (aF l))(hc:s.len<=s.cap){a k:Nat}(d:a+k<=l.length)(hl:l.length<=100000):
 aH ai 229 #[s,a,k] w (λv w'=>∃b:Y,v=.tuple #[b,true]/\aZ 1 5 w' b (aF ((l.drop a).take k))/\Ext w w'/\gd w b):=by
 have f:=len8 hs;refine okF (af.oc s a k) ay.oc func229 ?_;(delta af.oc hG aW;dsimp only);refine(Di hs hc d I).use ?_;rintro _ _ ⟨rfl,rfl⟩;have c:=lN hs hc (lo:=a) (hi:=a+k) I I;rw[show a+k-a=k from I]at c;refine⟨⟨aL s.a 1 a s.cap,k,s.cap-a⟩,true,rfl,(vr c (by simp;omega)).use ?_⟩;rintro _ w1 ⟨b,rfl,e,hx,hf⟩;exact⟨b,rfl,b,rfl,e,hx,hf⟩
theorem Dk{s:Y}{l:O UInt8}{w:J}(hs:Src 1 w s (aF l)){k:Nat}(d:k<=8)(e:l.length<k):
 aH ai 156 #[s,.int .i64 (0:Nat),k] w (λv w'=>v=.tuple #[.int .u64 0,false]/\w=w'):=by
 refine okF (af.jL s (0:Nat) k) ay.jL func156 ?_;(delta af.jL hG al aG aI b4 au;dsimp only);refine(Dj hs (a:=0) I I I I).use ?_;rintro _ _ ⟨rfl,rfl⟩;refine⟨⟨none,0,0⟩,false,rfl,cl (λb w'=>b=true/\w=w') (λq c=>⟨λ_=>c _ _ ⟨rfl,rfl⟩,λh=>by simp at h⟩) ?_⟩;rintro _ _ ⟨rfl,rfl⟩;exact⟨λ_=>⟨rfl,rfl⟩,λh=>by simp at h⟩
theorem tw{a:Nat}(b:a<4294967296):(BitVec.ofInt 32 (a:Int))=BitVec.ofNat 32 a:=by simp
theorem tx{a b:Nat}(c:a<4294967296)(d:b<4294967296):mb .u32 (a:Int) (b:Int)=((a^^^b:Nat):Int):=by
 unfold mb;show IntKind.u32.wrap (((BitVec.ofInt 32 (a:Int)^^^BitVec.ofInt 32 (b:Int)).toNat:Nat):Int)=_;rw[tw c,tw d,BitVec.toNat_xor,BitVec.toNat_ofNat,BitVec.toNat_ofNat,ir (by simpa using c),ir (by simpa using d)];have:a^^^b<4294967296:=Nat.xor_lt_two_pow (n:=32) c d;rw[uN I I]
theorem Dl{a b:Nat}(c:a<4294967296)(d:b<4294967296):iQ .u32 (a:Int) (b:Int)=((a&&&b:Nat):Int):=by
 unfold iQ;show IntKind.u32.wrap (((BitVec.ofInt 32 (a:Int)&&&BitVec.ofInt 32 (b:Int)).toNat:Nat):Int)=_;rw[tw c,tw d,BitVec.toNat_and,BitVec.toNat_ofNat,BitVec.toNat_ofNat,ir (by simpa using c),ir (by simpa using d)];have:a&&&b<=a:=Nat.and_le_left;rw[uN I I]
theorem Dm{n:Nat}(b:n<4294967296):
 mb .u32 (Int.fdiv (n:Int) (2^(min (Int.toNat 1) 32))) (iQ .u32 2197175160 (IntKind.wrap .u32 (0-(iQ .u32 (n:Int) 1))))=((p2 n:Nat):Int):=by
 have c:iQ .u32 (n:Int) 1=((n%2:Nat):Int):=by
  have:=Dl b (show 1<4294967296 from I);rw[Nat.and_one_is_mod]at this;exact this
 have d:Int.fdiv (n:Int) (2^(min (Int.toNat 1) 32))=((n/2:Nat):Int):=by
  rw[Int.fdiv_eq_ediv_of_nonneg _ (by decide)];rfl
 rw[c,d];unfold p2;rcases Nat.mod_two_eq_zero_or_one n with h|h
 .rw[h,if_neg I]
  have a:iQ .u32 2197175160 (IntKind.wrap .u32 (0-((0:Nat):Int)))=((0:Nat):Int):=by decide+kernel
  rw[a,tx I I,Nat.xor_zero]
 .rw[h,if_pos rfl]
  have a:iQ .u32 2197175160 (IntKind.wrap .u32 (0-((1:Nat):Int)))=((2197175160:Nat):Int):=by decide+kernel
  rw[a,tx I I]
theorem oe{s:Y}{l:O UInt8}{w:J}{n:Nat}(hs:Src 1 w s (aF l))(e:n<4294967296)(hl:l.length<=1000000):
 aH ai 238 #[.int .u32 n,s] w (λv w'=>v=.int .u32 (jQ n l:Nat)/\w=w'):=by
 have h:=len8 hs;refine okF (af.oe n s) ay.oe func238 ?_;(delta af.oe al aI b4 au;dsimp only);refine⟨λm i w'=>∃j:Nat,i=j/\j<=l.length/\m=((jQ n (l.take j):Nat):Int)/\w=w',λ_ i _=>((l.length:Int)-i).toNat,⟨0,rfl,cI _,rfl,rfl⟩,?_⟩;rintro _ _ _ ⟨j,rfl,o,rfl,rfl⟩;refine⟨λaJ=>?_,λa=>?_⟩
 .have aJ:j<l.length:=by have:=cf aJ;omega
  obtain⟨A,ar,f,g⟩:=hs.at (mP aJ);have c:=tr (l.take j) e;have hc:=UInt8.toNat_lt (l[j]);have hx:=Nat.xor_lt_two_pow (n:=32) c (show(l[j]).toNat<4294967296 from I);refine⟨A,ar,f,_,g,λm i w'=>∃k:Nat,i=k/\k<=8/\m=((tq k (jQ n (l.take j)^^^(l[j]).toNat):Nat):Int)/\w=w',λ_ i _=>((8:Int)-i).toNat,⟨0,rfl,I,?_,rfl⟩,?_⟩
  .rw[uN I I,tx c I];rfl
  rintro _ _ _ ⟨k,rfl,p,rfl,rfl⟩;refine⟨λd=>?_,λb=>?_⟩
  .have d:k<8:=by have:=cf d;omega
   rw[Dm (vA hx k),bB (n:=(k:Int)+1) I I];refine⟨by decide,⟨k+1,I,I,rfl,rfl⟩,?_⟩;show((8:Int)-((k:Int)+1)).toNat<((8:Int)-(k:Int)).toNat;omega
  .have b:k=8:=by have:=cx b;omega
   subst b;rw[bB (n:=(j:Int)+1) I I];refine⟨⟨j+1,I,I,?_,rfl⟩,?_⟩
   .rw[take_succ _ aJ,yM];rfl
   .show((l.length:Int)-((j:Int)+1)).toNat<((l.length:Int)-(j:Int)).toNat
    omega
 .have a:j=l.length:=by have:=cx a;omega
  subst a;rw[il];exact⟨rfl,rfl⟩
theorem Dn{n:Nat}(h:n<4294967296):4294967295^^^n=4294967295-n:=by
 apply Nat.eq_of_testBit_eq;intro i;have h1:(4294967295-n).testBit i=(decide (i<32)&& !n.testBit i):=by
  have:=Nat.testBit_two_pow_sub_succ (n:=32) (x:=n) (by simpa using h) i;rw[←this];congr 1;omega
 have a:(4294967295:Nat).testBit i=decide (i<32):=by
  have:=Nat.testBit_two_pow_sub_one 32 i;exact this
 rw[Nat.testBit_xor,h1,a];by_cases hi:i<32
 .simp[hi]
 .have:n.testBit i=false:=by
   apply Nat.testBit_lt_two_pow;exact fc h (qF (n:=2) I (show 32<=i from I))
  simp[hi,this]
theorem Dp{s:Y}{w:J}(ps:O (Y×O UInt8))(hs:Src 1 w s (ps.map λp=>gF p.1))(e:∀p∈ps,Src 1 w p.1 (aF p.2))(hl:(ee ps).length<=100000)(h:ps.length<=100000):
 aH ai 195 #[s] w (λv w'=>v=.int .u32 (g8 (ee ps):Nat)/\w=w'):=by
 refine okF (af.sP s) ay.sP func195 ?_;(delta af.sP al aI ak gj au;dsimp only);have k:s.len=ps.length:=by have:=hs.len;rw[dE]at this;omega
 refine⟨λm i w'=>∃j:Nat,i=j/\j<=ps.length/\m=((jQ 4294967295 (ee (ps.take j)):Nat):Int)/\w=w',λ_ i _=>((ps.length:Int)-i).toNat,⟨0,rfl,cI _,rfl,rfl⟩,?_⟩;rintro _ _ _ ⟨j,rfl,l,rfl,rfl⟩;refine⟨λaJ=>?_,λd=>?_⟩
 .have aJ:j<ps.length:=by have:=cf aJ;omega
  obtain⟨A,ar,f,g⟩:=hs.at (i:=j) (v:=gF (ps[j]).1) (by simp[aJ]);have c:=tr (ee (ps.take j)) (n:=4294967295) (by decide);refine⟨A,ar,f,(ps[j]).1,g,(oe (e _ (cm aJ)) c (by have:=yO ps aJ;omega)).use ?_⟩;rintro _ _ ⟨rfl,rfl⟩;rw[bB (n:=(j:Int)+1) I I];refine⟨_,rfl,⟨j+1,I,I,?_,rfl⟩,?_⟩
  .rw[take_succ _ aJ,←yM,yN]
  .show((ps.length:Int)-((j:Int)+1)).toNat<((ps.length:Int)-(j:Int)).toNat
   omega
 .have d:j=ps.length:=by have:=cx d;omega
  subst d;rw[il];have c:=tr (ee ps) (n:=4294967295) (by decide);refine⟨?_,rfl⟩;have:=tx (a:=4294967295) (b:=jQ 4294967295 (ee ps)) (by decide) c;rw[Dn c]at this;exact congrArg _ this
theorem mB{s:Y}{l:O UInt8}{w:J}(hs:Src 1 w s (aF l))(hc:s.len<=s.cap)(hl:l.length=256):
 aH ai 134 #[s] w (λv w'=>v=.int .u32 (sumOf l:Nat)/\Ext w w'):=by
 have f:=len8 hs;refine okF (af.mB s) ay.mB func134 ?_;(delta af.mB ao gj U;dsimp only);have b:Ext w w.drew:=ae.drew (.refl _ _);refine⟨⟨by decide,I⟩,⟨by decide,I⟩,?_⟩;have h1:=lN (hs.ext b) hc (lo:=0) (hi:=20) I I;have e:=lN (hs.ext b) hc (lo:=24) (hi:=s.len) I I;have c:∀o,Ext w.drew (w.drew.alloc o):=λo=>ae.alloc (.refl _ _) o;refine(Dp [(⟨aL s.a 1 0 s.cap,20-0,s.cap-0⟩,(l.drop 0).take (20-0)),(⟨aL s.a 1 24 s.cap,s.len-24,s.cap-24⟩,(l.drop 24).take (s.len-24))] (s:=⟨some w.drew.heap.size,2,2⟩) (Src.new w.drew _ 2 rfl) ?_ ?_ ?_).use ?_
 .intro p d
  simp only[cR,eR,eY]at d;rcases d with rfl|rfl
  .exact h1.ext (c _)
  .exact e.ext (c _)
 .simp[ee];omega
 .simp
 rintro _ w1 ⟨rfl,rfl⟩;refine⟨_,rfl,?_,b.trans (c _)⟩;have:ee [((⟨aL s.a 1 0 s.cap,20-0,s.cap-0⟩:Y),(l.drop 0).take (20-0)),(⟨aL s.a 1 24 s.cap,s.len-24,s.cap-24⟩,(l.drop 24).take (s.len-24))]=l.take 20++l.drop 24:=by
  simp only[ee,iM,List.map_nil,List.flatten_cons,List.flatten_nil,fX,kt];rw[dT (l:=l.drop 24) (by rw[c5];omega)]
 rw[this];rfl
theorem aZ.Dq{T:TypeId}{w:J}{s:Y}{vs us:O aa}{b o:Nat}(h:aZ 1 T w s vs)(d:s.a=some ⟨b,0,none⟩)(p:o+us.length<=s.len):
 aZ 1 T (setCells w ⟨b,o,none⟩ 0 us) s (vs.take o++us++vs.drop (o+us.length)):=by
 obtain⟨h1,g,i,j⟩:=h;rcases j with ⟨k,_⟩|⟨q,c,e,m,f,ht⟩
 .rw[k]at d;cases d
 .rw[d]at e
  cases e;have r:c.toList.length=s.cap:=by simpa using f
  have n:o+us.length<=c.size:=by omega
  rw[fu]at h1 f;refine⟨by simp;omega,g,i,.inr ⟨b,_,d,bh.jI m us,by rw[jl];omega,?_⟩⟩;rw[fu]at ht⊢;rw[ly _ _ _ n,←ht,List.take_take,jd I,cW,cW,List.take_append,List.take_append,cC,jd I,
   dT (l:=c.toList.take o) (by rw[cC];omega),dT (l:=us) I,List.drop_take,show s.len-o-us.length=s.len-(o+us.length) from I]
theorem tz(w:J)(l:O UInt8):
 ∃w',Sem.run ai (convert 48 48 (.slice (some w.heap.size) l.length l.length)) (w.alloc (.cells (aF l).toArray 5))=.ok (.slice (some w.heap.size) l.length l.length) w'/\
  Src 1 w' ⟨some w.heap.size,l.length,l.length⟩ (aF l)/\Ext w w'/\w'.heap.size=w.heap.size+1:=by
 refine⟨_,Go.Lib.run_convert_bytes_const (P:=ai) w 48 5 (aF l).toArray l.length l.length (by kernel_rfl) (by kernel_rfl),⟨by rw[dI,fu],(λh=>by cases h),λa b=>?_⟩,ae.alloc (.refl _ _) _,by simp⟩
 cases b;have:=vp (w:=w.alloc (.cells (aF l).toArray 5 ((aF l).toArray.size,(aF l).toArray.size+1))) (A:=w.heap.size) (aF l) 0 (λj v c=>by
  rw[ax];show(World.cell? _ _)=_;have:(w.alloc (.cells (aF l).toArray 5 ((aF l).toArray.size,(aF l).toArray.size+1))).heap[w.heap.size]? =some (.cells (aF l).toArray 5 ((aF l).toArray.size,(aF l).toArray.size+1)):=by
   show(w.heap.push _)[w.heap.size]? =_;simp
  simp only[World.cell?,this];simpa using c)
 rw[dI]at this;rw[fu];exact this
theorem vC(n:Nat):gq ai 5 n=(aF (List.replicate n 0)).toArray:=by
 rw[x2 (v:=.int .u8 0) (by kernel_rfl) (by kernel_rfl)];simp[aF]
theorem Dr{A Z T C:O UInt8}{n m:Nat}(ar:A.length=n)(a:Z.length=m):(aF (A++(Z++T))).take n++aF C++(aF (A++(Z++T))).drop (n+m)=aF (A++(C++T)):=by
 have b:(aF (A++(Z++T))).take n=aF A:=by rw[mR];exact kU (by rw[dI,ar])
 have c:(aF (A++(Z++T))).drop (n+m)=aF T:=by rw[←cW,mR];exact drop_left' (by rw[dI,cE,ar,a])
 rw[b,c,mR,mR,cW]
theorem cr(w:J):Ext w w.drew:=ae.drew (.refl _ _)
theorem er(w:J)(o:Obj):Ext w (w.alloc o):=ae.alloc (.refl _ _) o
theorem p5(w:J)(o:Obj):(w.alloc o).heap.size=w.heap.size+1:=by simp
theorem tA{s:Y}{p:gV}{no:Nat}{w:J}(hs:Src 1 w s (aF p.body))(a5:no<1600)(i:lL p):
 aH ai 73 #[no,.agg #[p.kind,.int .u64 p.gen,s]] w (λv w'=>∃E:Y,v=.tuple #[E,(0:Int)]/\aZ 1 5 w' E (aF (dW no p))/\Ext w w'/\gd w E):=by
 have a6:=i.bR;have a7:=i.b3;have a8:=i.gen;have a9:=i.body;have O:=len8 hs;refine okF (af.sf no p.kind p.gen s) ay.sf func73 ?_;(delta af.sf aG al r1 U ak aW bt iR u5 au u6 gj;dsimp only);refine bk (vs:=[p.kind,.int .u64 p.gen,s]) rfl λw1 y F a_=>?_;have aT:∀ {w':J},Ext w1 w'->w'.cell? (Addr.add w.heap.size 2)=some (.slice s.a s.len s.cap):=λhx=>by rw[ax];exact(y.ext hx).cell
 have aA:∀ {w':J},Ext w1 w'->w'.cell? (Addr.add w.heap.size 1)=some (.int .u64 p.gen):=λhx=>by rw[ax];exact(y.ext hx).cell
 refine Calls.mono (af.yp no w1 (λv w'=>v=true/\w1=w') ⟨by simp;omega,rfl⟩) ?_;rintro _ _ ⟨_,rfl,rfl,rfl⟩;refine⟨_,rfl,cl (λb w'=>b=false/\w1=w') (λq j=>⟨λh1=>by simp at h1,λh1=>⟨p.kind,y.cell,?_⟩⟩) ?_⟩
 .refine Calls.mono (af.yq p.kind w1 (λv w'=>v=true/\w1=w') ⟨by simp;omega,rfl⟩) ?_
  rintro _ _ ⟨_,rfl,rfl,rfl⟩;exact⟨_,rfl,j _ _ ⟨rfl,rfl⟩⟩
 rintro b _ ⟨rfl,rfl⟩;refine⟨λh=>(by cases h),λ_=>⟨s,aT (.refl _ _),λh=>(by have:=cf h;omega),λ_=>aY ?_⟩⟩
 obtain⟨ah,aj,am,P,ba⟩:=tz w1 fS;refine⟨⟨some w1.heap.size,4,4⟩,ah,aj,p.kind,(y.ext P).cell,?_⟩;have an:IntKind.wrap .u8 (p.kind:Int)=(((UInt8.ofNat p.kind).toNat:Nat):Int):=by rw[tl I,uM I I]
 rw[an];have z:=Src.new (T:=5) (sz:=1) ah (aF [1,UInt8.ofNat p.kind]) 2 rfl;have G:=er ah (.cells (aF [1,UInt8.ofNat p.kind]).toArray 5);obtain⟨f,ap⟩:∃f,f=ah.alloc (.cells (aF [1,UInt8.ofNat p.kind]).toArray 5):=⟨_,rfl⟩;show ao (ah.alloc (.cells (aF [1,UInt8.ofNat p.kind]).toArray 5)) _;rw[←ap]at z G⊢;refine aY ?_;have H:=Src.new (T:=48) (sz:=1) f [.slice (some w1.heap.size) 4 4,.slice (some ah.heap.size) 2 2] 2 rfl;have A:=er f (.cells #[.slice (some w1.heap.size) 4 4,.slice (some ah.heap.size) 2 2] 48);obtain⟨B,Q⟩:∃B,B=f.alloc (.cells #[.slice (some w1.heap.size) 4 4,.slice (some ah.heap.size) 2 2] 48):=⟨_,rfl⟩;have H:Src 1 B ⟨some f.heap.size,2,2⟩ [.slice (some w1.heap.size) 4 4,.slice (some ah.heap.size) 2 2]:=by rw[Q];exact H
 rw[←Q]at A⊢;have aq:Ext w1 B:=P.trans (G.trans A);refine aY ((tv (s:=⟨some f.heap.size,2,2⟩) [((⟨some w1.heap.size,4,4⟩:Y),fS),(⟨some ah.heap.size,2,2⟩,[1,UInt8.ofNat p.kind])] H ?_ (by simp[ee,fS]) (by simp)).use ?_)
 .intro q j
  simp only[cR,eR,eY]at j;rcases j with rfl|rfl
  .exact am.ext (G.trans A)
  .exact z.ext A
 rintro _ bb ⟨ar,rfl,R,av,bc⟩;have S:=aq.trans av;have aw:ee [((⟨some w1.heap.size,4,4⟩:Y),fS),(⟨some ah.heap.size,2,2⟩,[1,UInt8.ofNat p.kind])]=fS++ [1,UInt8.ofNat p.kind]:=by simp[ee]
 rw[aw]at R;refine⟨ar,rfl,s,aT S,?_⟩;rw[gz (n:=(s.len:Int)) I I,gz (n:=(no:Int)) I I];refine(gR R.src (n:=s.len) (k:=2) (by simp[fS]) (by show _<18446744073709551616;omega) ⟨by decide,by decide⟩).use ?_;rintro _ bd ⟨az,rfl,aB,aC,be⟩;have aD:=S.trans aC;refine⟨az,rfl,(gR aB.src (n:=no) (k:=4) (by simp[fS,ey]) (by show _<18446744073709551616;omega) ⟨by decide,by decide⟩).use ?_⟩;rintro _ bf ⟨aE,rfl,aI,aJ,bg⟩;have V:=aD.trans aJ;refine⟨aE,rfl,_,aA V,(gR aI.src (n:=p.gen) (k:=8) (by simp[fS,ey]) (by show _<18446744073709551616;omega) ⟨by decide,by decide⟩).use ?_⟩;rintro _ d ⟨u,rfl,W,aK,bi⟩;have C:=V.trans aK;have aM:fS++ [1,UInt8.ofNat p.kind]++bQ s.len 2++bQ no 4++bQ p.gen 8=eA no p:=by rw[O];simp[eA]
 rw[aM]at W;refine⟨u,rfl,cl (λt w'=>aZ 1 5 w' t (aF (eA no p++(List.replicate 4 0++eG p)))/\Ext w1 w'/\gd w t) (λq j=>?_) ?_⟩
 .have m:=cr d
  have X:=C.trans m;have aN:IntKind.wrap .i64 (232-(s.len:Int))=((232-s.len:Nat):Int):=by rw[bB I I];omega
  refine aY ⟨λ_=>False,id,s,aT X,id,s,aT X,?_⟩;rw[aN];simp only[du,show Int.toNat 4=4 from rfl];rw[vC,vC];have fin:∀ (K dQ:J) (ga cg:Y),Ext d dQ->Src 1 dQ ga (aF (List.replicate 4 0))->Src 1 dQ cg (aF (List.replicate (232-s.len) 0))->
   Calls ai 92 #[.slice (some dQ.heap.size) 4 4] (dQ.alloc (.cells #[u,ga,s,cg] 48)) λaO aP=>∃Z:Y,aO=.returned Z/\q Z aP:=by
   intro K dQ ga cg D h1 L;have r:=er dQ (.cells #[u,ga,s,cg] 48);refine(tv (s:=⟨some dQ.heap.size,4,4⟩) [(u,eA no p),(ga,List.replicate 4 0),(s,p.body),(cg,List.replicate (232-s.len) 0)] (Src.new dQ _ 4 rfl) ?_ (by simp[ee,lM];omega) (by simp)).use ?_
   .intro x hx
    simp only[cR,eR,eY]at hx;rcases hx with rfl|rfl|rfl|rfl
    .exact W.src.ext (D.trans r)
    .exact h1.ext r
    .exact hs.ext ((F.trans (C.trans D)).trans r)
    .exact L.ext r
   .rintro _ aa ⟨aQ,rfl,aR,hx,hf⟩
    refine⟨aQ,rfl,j _ _ ⟨?_,(C.trans D).trans (r.trans hx),hf.mono (F.trans ((C.trans D).trans r)).size⟩⟩;have e:ee [(u,eA no p),(ga,List.replicate 4 0),(s,p.body),(cg,List.replicate (232-s.len) 0)]=eA no p++(List.replicate 4 0++eG p):=by simp[ee,eG,O]
    rwa[e]at aR
  refine⟨⟨⟨by decide,by decide,by decide,by decide⟩,aY ⟨er _ _,⟨I,Int.le_refl _,I,I⟩,aY ⟨er _ _,aY ?_⟩⟩⟩,⟨⟨I,Int.le_refl _,I,I⟩,aY ⟨er _ _,⟨by decide,by decide,by decide,by decide⟩,aY ⟨er _ _,aY ?_⟩⟩⟩⟩
  .refine fin d _ ⟨some d.drew.heap.size,4,4⟩ ⟨some ⟨(d.drew.alloc _).heap.size,0,none⟩,232-s.len,232-s.len⟩ (m.trans ((er _ _).trans (er _ _))) (Src.ext (Src.new _ _ _ (by simp[aF])) (er _ _)) (Src.new _ _ _ (by simp[aF]))
  .refine fin d _ ⟨some ⟨(d.drew.alloc _).heap.size,0,none⟩,4,4⟩ ⟨some d.drew.heap.size,232-s.len,232-s.len⟩ (m.trans ((er _ _).trans (er _ _))) (Src.new _ _ _ (by simp[aF])) (Src.ext (Src.new _ _ _ (by simp[aF])) (er _ _))
 rintro t K ⟨g,aS,ab⟩;have bj:t.len=256:=by
  have:=kV g;rw[this];simp[lM,tt i]
 have m:=cr K;refine aY ⟨λ_=>False,⟨by decide,I⟩,(mB (g.src.ext m) g.2.1 (by simp[lM,tt i])).use ?_⟩;rintro _ aa ⟨rfl,aU⟩;have es:sumOf (eA no p++(List.replicate 4 0++eG p))=g8 (eA no p++eG p):=by
  unfold sumOf;rw[kU (lM no p),←cW,drop_left' (by simp[lM])]
 rw[es];have bl:=vB (eA no p++eG p);refine⟨_,rfl,λ_=>False,?_⟩;rw[gz I I];refine(gR (s:=⟨none,0,0⟩) (l:=[]) (n:=g8 (eA no p++eG p)) (k:=4) (aZ.none 1 5 aa).src (by simp) (by show _<18446744073709551616;omega) ⟨by decide,by decide⟩).use ?_;rintro _ aV ⟨aX,rfl,M,a0,bm⟩;rw[j1]at M;have ac:=m.trans (aU.trans a0);have ad:=g.ext ac;have ag:=kV M;rw[ey]at ag;obtain⟨b,c,N,a1,bn,_⟩:∃b c,t.a=some ⟨b,0,none⟩/\bh aV b c 5/\c.size=t.cap*1/\c.toList.take (t.len*1)=aF (eA no p++(List.replicate 4 0++eG p)):=by
  rcases ad.2.2.2 with ⟨_,hc⟩|⟨b,c,h1,L,a2,a3⟩
  .have:=g.2.1;omega
  .exact⟨b,c,h1,L,a2,a3⟩
 have a4:aL t.a 1 (Int.toNat 20) t.cap=some ⟨b,20,none⟩:=by
  rw[N,show Int.toNat 20=20 from rfl,x_ (by have:=g.2.1;omega)]
 have bo:=g.2.1;refine⟨aX,rfl,_,_,by rw[a4];exact C7 (by kernel_rfl) M.src (by rw[ag];show 4<=t.len-20;omega) (a1.b5 _ _ (by rw[dI,ey];omega) (kS _)),t,rfl,?_,?_,ab⟩
 .have:=aZ.Dq ad N (o:=20) (us:=aF (bQ (g8 (eA no p++eG p)) 4)) (by rw[dI,ey];omega)
  have e:(aF (eA no p++(List.replicate 4 0++eG p))).take 20++aF (bQ (g8 (eA no p++eG p)) 4)++(aF (eA no p++(List.replicate 4 0++eG p))).drop (20+(aF (bQ (g8 (eA no p++eG p)) 4)).length)=aF (dW no p):=by
   rw[dI,ey];exact Dr (lM no p) (by simp)
  rwa[e]at this
 .refine Ext.dj (F.trans (aS.trans ac)) (ae.kJ (.refl _ _) _ 0) λk z=>?_
  subst z;exact ab _ ⟨_,N,rfl⟩
theorem kO{s:Y}{l:O UInt8}{w:J}(hs:Src 1 w s (aF l))(hc:s.len<=s.cap){a k:Nat}{e:Int}(he:e=((a+k:Nat):Int))(b:1<=k/\k<=8)(c:a+k<=l.length)(hl:l.length<=1000):
 aH ai 227 #[s,a,e] w (λv w'=>v=.int .u64 (cU l a k:Nat)/\w=w'):=by
 subst he;refine okF (af.kO s a ((a+k:Nat):Int)) ay.kO func227 ?_;(delta af.kO nS au;dsimp only);rw[bB I I,show(((a+k:Nat):Int)-(a:Int))=(k:Int) from I];refine(jL hs hc b c I).use ?_;rintro _ _ ⟨rfl,rfl⟩;exact⟨_,_,rfl,rfl,rfl⟩
theorem ob{s:Y}{l:O UInt8}{w:J}(hs:Src 1 w s (aF l))(hl:l.length<=1000):
 aH ai 228 #[s] w (λv w'=>v=.bool (l.all λc=>c==0)/\w=w'):=by
 have o:=len8 hs;refine okF (af.ob s) ay.ob func228 ?_;(delta af.ob al aI b4 au;dsimp only);refine⟨λi w'=>∃j:Nat,i=j/\j<=l.length/\w=w'/\∀ (k:Nat) (a:k<l.length),k<j->l[k]=0,λi _=>((l.length:Int)-i).toNat,⟨0,rfl,cI _,rfl,λk a h=>I⟩,?_⟩;rintro _ _ ⟨j,rfl,p,rfl,d⟩;refine⟨λaJ=>?_,λb=>?_⟩
 .have aJ:j<l.length:=by have:=cf aJ;omega
  obtain⟨A,ar,f,g⟩:=hs.at (mP aJ);refine⟨A,ar,f,_,g,λe=>?_,λm=>?_⟩
  .refine⟨?_,rfl⟩
   have:(l.all λc=>c==0)=false:=by
    rw[List.all_eq_false];refine⟨l[j],cm _,λh=>?_⟩;have h:=eq_of_beq h;rw[h]at e;simp at e
   rw[this]
  .have h0:l[j]=0:=by
    have:((l[j]).toNat:Int)=0:=by simpa using m
    exact UInt8.toNat_inj.1 (by show(l[j]).toNat=0;omega)
   rw[bB (n:=(j:Int)+1) I I];refine⟨⟨j+1,I,I,rfl,λk a h=>?_⟩,?_⟩
   .rcases dJ k j with h1|h1
    .exact d k a h1
    .have:k=j:=by omega
     subst this;exact h0
   .show((l.length:Int)-((j:Int)+1)).toNat<((l.length:Int)-(j:Int)).toNat
    omega
 .have b:j=l.length:=by have:=cx b;omega
  subst b;refine⟨?_,rfl⟩;have:(l.all λc=>c==0)=true:=by
   rw[k7];intro c hc;obtain⟨k,a,rfl⟩:=eD hc;rw[d k a a];rfl
  rw[this]
def yP(kind gen:Int)(s:Y):aa:=.agg #[kind,.int .u64 gen,s]
def tB(r:Except Int gV)(w w':J)(v:aa):Prop:=
 match r with
 | .ok p=>∃s:Y,v=.tuple #[yP p.kind p.gen s,(0:Int)]/\aZ 1 5 w' s (aF p.body)/\gd w s
 | .error e=>v=.tuple #[yP 0 0 ⟨none,0,0⟩,e]
theorem yQ{w':J}{h:Nat}{vs:O aa}(n g:Int)(s:Y)(b:Var w' h vs 150)(hl:vs.length=3){K:Int->Int->Y->J->Prop}(i:∀ah,ae (λq=>q=h) w' ah->K n g s ah):
 bz w' h [n,.int .u64 g,s]/\(3:Nat)=3/\ao (setCells w' h 0 [n,.int .u64 g,s]) λah=>
  ∃e:Int,ah.cell? h=some (.int .i64 e)/\∃f:Int,ah.cell? (Addr.add h 1)=some (.int .u64 f)/\∃c:Y,ah.cell? (Addr.add h 2)=some (.slice c.a c.len c.cap)/\K e f c ah:=by
 refine⟨b.b5 (by rw[hl];rfl) ?_,rfl,cn b (us:=[n,.int .u64 g,s]) (by rw[hl];rfl) rfl λah d hc _=>?_⟩
 .intro v b
  simp only[cR,eR,eY]at b;rcases b with rfl|rfl|rfl<;>trivial
 .exact⟨n,d.cell,g,by rw[ax];exact d.cell,s,by rw[ax];exact d.cell,i ah hc⟩
theorem lD{s:Y}{l:O UInt8}{w:J}(hs:Src 1 w s (aF l))(hc:s.len<=s.cap)(hl:l.length<=1000)(no:Int):
 aH ai 172 #[no,s] w (λv w'=>tB (dh no l) w w' v/\Ext w w'):=by
 have aw:=len8 hs;refine okF (af.lD no s) ay.lD func172 ?_;(delta af.lD z3 al U r1 bt ak u9 aI b4 gj fo aG au hG;dsimp only);refine bk (vs:=[(0:Int),.int .u64 0,()]) rfl λw1 A x _=>?_
 have out:∀ (w':J) (e:Int),Ext w1 w'->dh no l=.error e->
  bz w' w.heap.size [(0:Int),.int .u64 0,()]/\(3:Nat)=3/\ao (setCells w' w.heap.size 0 [(0:Int),.int .u64 0,()]) λah=>
  ∃g:Int,ah.cell? w.heap.size=some (.int .i64 g)/\∃j:Int,ah.cell? (Addr.add w.heap.size 1)=some (.int .u64 j)/\∃d:Y,ah.cell? (Addr.add w.heap.size 2)=some (.slice d.a d.len d.cap)/\
   (λv w'=>tB (dh no l) w w' v/\Ext w w') (.tuple #[.agg #[g,.int .u64 j,d],e]) ah:=by
  intro w' e hx he;refine yQ 0 0 ⟨none,0,0⟩ (A.ext hx) rfl (K:=λg j d ah=>(λv w'=>tB (dh no l) w w' v/\Ext w w') (.tuple #[.agg #[g,.int .u64 j,d],e]) ah) λah y=>⟨?_,Ext.cv (x.trans hx) y (br _)⟩;rw[he];rfl
 refine⟨λh=>out _ _ (.refl _ _) ?_,λh=>?_⟩
 .have h:(s.len:Int)≠256:=by simpa using h
  unfold dh;rw[if_pos I]
 have h:(s.len:Int)=256:=by simpa using h
 have N:l.length=256:=by omega
 have p:=hs.ext x;have P:=lN p hc (lo:=0) (hi:=4) I I;have Q:Src 1 w1 ⟨aL s.a 1 0 s.cap,4-0,s.cap-0⟩ (((l.take 4).map λb=>(b.toNat:Int)).map (.int .u8)):=by
  rw[gK];exact P
 have E:=yF (src:=48) (dst:=9) (by kernel_rfl) (by kernel_rfl) Q;have R:(((l.take 4).map λb=>(b.toNat:Int)).map λn=>UInt8.ofNat n.toNat)=l.take 4:=by
  rw[gK];have:((λn:Int=>UInt8.ofNat n.toNat)∘ λb:UInt8=>(b.toNat:Int))=id:=by funext b;simp
  rw[this,List.map_id]
 rw[R]at E;refine⟨⟨by decide,I⟩,S (l.take 4),w1,E,?_⟩;have T:(ByteArray.toList (S (l.take 4))==ByteArray.toList (ByteArray.mk #[83,84,78,67]))=decide (l.take 4=fS):=by
  rw[show(ByteArray.mk #[83,84,78,67])=S fS from rfl,x9];rw[fm];simp
 rw[T];refine⟨λh=>out _ _ (.refl _ _) ?_,λh=>?_⟩
 .have h:l.take 4≠fS:=by simpa using h
  unfold dh;rw[if_neg I,if_pos h]
 have r:l.take 4=fS:=by simpa using h
 obtain⟨V,W,ax,X⟩:=p.at (mP (l:=l) (i:=4) I);have az:s.len=256:=by omega
 refine⟨V,W,⟨by decide,I⟩,_,X,λh=>out _ _ (.refl _ _) ?_,λh=>?_⟩
 .have h:(((l[4]'I).toNat:Nat):Int)≠1:=by simpa using h
  unfold dh;rw[if_neg I,if_neg (by simp[r]),if_pos (by
   intro e;apply h;rw[e6,dD I]at e;have e:(l[4]'I)=1:=e;rw[e];rfl)]
 have z:l.getD 4 0=1:=by
  have h:(((l[4]'I).toNat:Nat):Int)=1:=by simpa using h
  rw[e6,dD I];exact UInt8.toNat_inj.1 (by show(l[4]'I).toNat=1;omega)
 refine(mB p hc N).use ?_;rintro _ ah ⟨rfl,f⟩;have m:=p.ext f;refine⟨_,rfl,(kO m hc (a:=20) (k:=4) (e:=24) rfl (by decide) I hl).use ?_⟩;rintro _ _ ⟨rfl,rfl⟩;have aA:sumOf l<4294967296:=vB _;rw[gz (n:=((sumOf l:Nat):Int)) I I];refine⟨_,rfl,λh=>out _ _ f ?_,λh=>?_⟩
 .have h:((sumOf l:Nat):Int)≠((cU l 20 4:Nat):Int):=by simpa using h
  unfold dh;rw[if_neg I,if_neg (by simp[r]),if_neg (λh=>h z),if_pos I]
 have aB:sumOf l=cU l 20 4:=by
  have h:((sumOf l:Nat):Int)=((cU l 20 4:Nat):Int):=by simpa using h
  omega
 refine(kO m hc (a:=6) (k:=2) (e:=8) rfl (by decide) I hl).use ?_;rintro _ _ ⟨rfl,rfl⟩;have aC:cU l 6 2<65536:=lI 2 _ (by simp;omega);obtain⟨Z,aa,aD,ab⟩:=m.at (mP (l:=l) (i:=5) I);have B:l.getD 5 0=l[5]'I:=by rw[e6,dD I];rfl
 have aE:=UInt8.toNat_lt (l[5]'I);refine⟨_,rfl,Z,aa,⟨by decide,I⟩,_,ab,?_⟩;rw[bB (n:=(((l[5]'I).toNat:Nat):Int)) I I,bB (n:=((cU l 6 2:Nat):Int)) I I];refine Calls.mono (af.yq (((l[5]'I).toNat:Nat):Int) ah (λv w'=>v=.bool (decide (1<=(l[5]'I).toNat/\(l[5]'I).toNat<=4))/\ah=w') ⟨?_,rfl⟩) ?_
 .have e:(decide ((((l[5]'I).toNat:Nat):Int)>=1)&&decide ((((l[5]'I).toNat:Nat):Int)<=4))=decide (1<=(l[5]'I).toNat/\(l[5]'I).toNat<=4):=by
   rw[fm];simp only[dO,cO];omega
  rw[e]
 rintro _ _ ⟨_,rfl,rfl,rfl⟩;have aJ:24+cU l 6 2<=256->True:=λ_=>trivial;refine⟨_,rfl,cl (λb w'=>b=decide (¬(1<=(l[5]'I).toNat/\(l[5]'I).toNat<=4)\/232<cU l 6 2\/(l.drop (24+cU l 6 2)).all (λc=>c==0)=false)/\ah=w') (λq t=>⟨λh1=>t _ _ ⟨?_,rfl⟩,λh1=>?_⟩) ?_⟩
 .refine(dv ?_).symm
  simp only[hW,jY,jZ,cO]at h1;rcases h1 with h1|h1
  .exact .inl h1
  .exact .inr (.inl I)
 .simp only[nm,Bool.not_eq_false',jZ,cO]at h1
  have ac:cU l 6 2<=232:=by omega
  rw[bB (n:=24+((cU l 6 2:Nat):Int)) I I];refine⟨⟨I,I⟩,?_⟩;have ae:Int.toNat (24+((cU l 6 2:Nat):Int))=24+cU l 6 2:=by omega
  rw[ae];have F:=lN m hc (lo:=24+cU l 6 2) (hi:=s.len) I I;rw[dT (l:=l.drop (24+cU l 6 2)) (by rw[c5];omega)]at F;refine(ob F (by rw[c5];omega)).use ?_;rintro _ _ ⟨rfl,rfl⟩;refine⟨_,rfl,t _ _ ⟨?_,rfl⟩⟩
  cases aK:(l.drop (24+cU l 6 2)).all (λc=>c==0) with
  |true=>exact(gM (by rintro(o|o|o)<;>first|exact o h1.1|omega|cases o)).symm
  |false=>exact(dv (.inr (.inr rfl))).symm
 rintro b _ ⟨rfl,rfl⟩;refine⟨λh=>out _ _ f ?_,λh=>?_⟩
 .have h:=cf h
  unfold dh;rw[if_neg I,if_neg (by simp[r]),if_neg (λh=>h z),if_neg I,if_pos (by rw[B];exact h)]
 have u:=cx h;have G:¬(¬(1<=(l.getD 5 0).toNat/\(l.getD 5 0).toNat<=4)\/232<cU l 6 2\/(l.drop (24+cU l 6 2)).all (λc=>c==0)=false):=by rw[B];exact u
 have ac:cU l 6 2<=232:=by
  rcases dJ 232 (cU l 6 2) with h1|h1
  .exact absurd (.inr (.inl h1)) u
  .exact h1
 have aM:1<=(l[5]'I).toNat/\(l[5]'I).toNat<=4:=o3 λh=>u (.inl h);refine Calls.mono (af.yp no ah (λv w'=>v=.bool (decide (0<=no/\no<1600))/\ah=w') ⟨by simp[ge_iff_le],rfl⟩) ?_;rintro _ _ ⟨_,rfl,rfl,rfl⟩;have aN:cU l 8 4<4294967296:=lI 4 _ (by simp;omega);refine⟨_,rfl,cl (λb w'=>b=decide (¬(0<=no/\no<1600)\/(cU l 8 4:Int)≠no)/\ah=w') (λq t=>⟨λh1=>t _ _ ⟨?_,rfl⟩,λh1=>?_⟩) ?_⟩
 .refine(dv ?_).symm
  simp only[jY,jZ]at h1;exact .inl h1
 .simp only[Bool.not_eq_false',cO]at h1
  refine(kO m hc (a:=8) (k:=4) (e:=12) rfl (by decide) I hl).use ?_;rintro _ _ ⟨rfl,rfl⟩;refine⟨_,rfl,t _ _ ⟨?_,rfl⟩⟩;rw[gz (n:=no) I I,fm,cO,bne_iff_ne];exact⟨λh=>.inr h,λh=>h.resolve_left (λo=>o h1)⟩
 rintro b _ ⟨rfl,rfl⟩;refine⟨λh=>out _ _ f ?_,λh=>?_⟩
 .have h:=cf h
  unfold dh;rw[if_neg I,if_neg (by simp[r]),if_neg (λh=>h z),if_neg I,if_neg G,if_pos h]
 have ag:=cx h;have aj:dh no l=.ok ⟨(l.getD 5 0).toNat,cU l 12 8,(l.drop 24).take (cU l 6 2)⟩:=by
  unfold dh;rw[if_neg I,if_neg (by simp[r]),if_neg (λh=>h z),if_neg I,if_neg G,if_neg ag]
 refine(oc m hc (a:=24) (k:=cU l 6 2) I I).use ?_;rintro _ am ⟨C,rfl,an,ap,H⟩;have L:=cr am;have D:=f.trans (ap.trans L);have M:=p.ext D;obtain⟨aq,ar,aO,av⟩:=M.at (mP (l:=l) (i:=5) I);refine⟨C,true,rfl,aY ⟨λ_=>False,aq,ar,⟨by decide,I⟩,id,_,av,(kO M hc (a:=12) (k:=8) (e:=20) rfl (by decide) I hl).use ?_⟩⟩;rintro _ _ ⟨rfl,rfl⟩;rw[bB (n:=(((l[5]'I).toNat:Nat):Int)) I I];refine⟨_,rfl,.refl _ _,yQ _ _ C (A.ext D) rfl (K:=λg j d ah=>(λv w'=>tB (dh no l) w w' v/\Ext w w') (.tuple #[.agg #[g,.int .u64 j,d],(0:Int)]) ah) λaP y=>⟨?_,Ext.cv (x.trans D) y (br _)⟩⟩;rw[aj];refine⟨C,by rw[B];rfl,(an.ext L).ad y λk u e=>?_,H.mono (x.trans f).size⟩;have:=H k u;have:=A.lt;have:=f.size;subst e;omega
theorem yR{P:Program}{w:J}:∀ (l:O UInt8) (a:ab) (acc:ByteArray),(∀j x,l[j]? =some x->w.cell? (a.add j)=some (.int .u8 (x.toNat:Int)))->
 (Extern.Bytes.loadBytes a l.length acc).run P w=.ok ⟨acc.data++l.toArray⟩ w
 | [],a,acc,_=>by simp[Extern.Bytes.loadBytes]
 |x::l,a,acc,h=>by
  have h0:=h 0 x rfl
  rw[add_zero']at h0
  have b:=yR (P:=P) l (a.add 1) (acc.push x) (λj y c=>by
   rw[add_add,Nat.add_comm]
   exact h (j+1) y (by simpa using c))
  have hx:(x.toNat:Int).toNat.toUInt8=x:=C5 x
  simp only[fD,Extern.Bytes.loadBytes,Sem.run_bind,uh h0,Result.andThen,hx]
  rw[b]
  congr 2
  simp[ByteArray.push]
theorem yS{P:Program}{w:J}{s:Y}{l:O UInt8}(h:Src 1 w s (aF l)):(Extern.Bytes.bytesOf s).run P w=.ok (S l) w:=by
 cases hs:s.a with
 |none=>
  have h0:l=[]:=by
   have:=h.nil hs
   cases l with
   |nil=>rfl
   |cons a l=>simp[aF]at this
  subst h0;rfl
 |some A=>
  have b:=h.rd A hs;rw[fu]at b;have:=yR (P:=P) (w:=w) l A .empty (λj x c=>by
   have:=rj b (j:=j) (v:=.int .u8 (x.toNat:Int)) (by simp[aF,c]);simpa using this)
  show(Extern.Bytes.loadBytes A s.len .empty).run P w=_;rw[len8 h,this]
  congr 1
  show(ByteArray.mk (ByteArray.empty.data++l.toArray))=ByteArray.mk l.toArray
  congr 1
  exact Array.empty_append ..
theorem yT:∀a b:Key,Lib.compareBytes a b=eF a b
 | [],[]=>rfl
 | [],_::_=>rfl
 |_::_,[]=>rfl
 |a::x,b::y=>by
  simp only[Lib.compareBytes,eF,UInt8.lt_iff_toNat_lt,yT x y]
theorem kc{s t:Y}{l m:Key}{w:J}(hs:Src 1 w s (aF l))(ht:Src 1 w t (aF m)):
 aH ai 176 #[s,t] w (λv w'=>v=.int .i64 (eF l m)/\w=w'):=by
 refine okF (af.kc s t) ay.kc func176 ?_;unfold af.kc;refine⟨eF l m,w,?_,rfl,rfl⟩;rw[run_callFunc_extern func230 rfl rfl rfl rfl];have:(Extern.BytealgCompare.compare #[s,t]).run ai w=.ok (.int .i64 (eF l m)) w:=by
  change Sem.run ai (do pure (goInt (Extern.BytealgCompare.cmp (←Extern.Bytes.bytesOf s) (←Extern.Bytes.bytesOf t)))) w=_
  simp only[Sem.run_bind,yS hs,yS ht,Result.andThen,Sem.run_pure];rw[Lib.cmp_eq];show Result.ok (goInt (Lib.compareBytes l m)) w=_;rw[yT];rfl
 rw[this];rfl
theorem vD{s:Y}{l:O UInt8}{w:J}(h:Src 1 w s (aF l)):Sem.run ai (convert 48 9 s) w=.ok (.string (S l)) w:=by
 have a:Src 1 w s ((l.map λb=>(b.toNat:Int)).map (.int .u8)):=by rw[gK];exact h
 have:=yF (src:=48) (dst:=9) (by kernel_rfl) (by kernel_rfl) a;rw[gK]at this;have e:((λn:Int=>UInt8.ofNat n.toNat)∘ λb:UInt8=>(b.toNat:Int))=id:=by funext b;simp
 rw[e,List.map_id]at this;exact this
theorem nU{s t:Y}{l m:Key}{w:J}(hs:Src 1 w s (aF l))(ht:Src 1 w t (aF m)):
 aH ai 158 #[s,t] w (λv w'=>v=.bool (decide (l=m))/\w=w'):=by
 refine okF (af.nU s t) ay.nU func158 ?_;unfold af.nU;refine⟨_,_,vD hs,_,_,vD ht,?_,rfl⟩;rw[x9]
 congr 1
 rw[fm];simp
def In(B:Nat->Prop)(w:J)(s:Y):Prop:=∀k,aB s k->B k/\k<w.heap.size
def bg(B:Nat->Prop)(w:J)(t:Y)(l:Key):Prop:=Src 1 w t (aF l)/\t.len<=t.cap/\In B w t
def ba(B:Nat->Prop)(w:J)(s:Y)(ls:O Key):Prop:=
 ∃ts:O Y,ts.length=ls.length/\Src 1 w s (ts.map gF)/\s.len<=s.cap/\In B w s/\∀ (i:Nat) (h1:i<ts.length) (a:i<ls.length),bg B w ts[i] ls[i]
def dr(ds:O Nat):O aa:=ds.map λd=>.int .i64 ((d:Nat):Int)
def cq(B:Nat->Prop)(w:J)(s:Y)(ds:O Nat):Prop:=Src 1 w s (dr ds)/\s.len<=s.cap/\In B w s
def bn(B:Nat->Prop)(w:J)(s:Y)(ls:O Key):Prop:=
 ∃ts:O Y,ts.length=ls.length/\aZ 1 48 w s (ts.map gF)/\In B w s/\∀ (i:Nat) (h1:i<ts.length) (a:i<ls.length),bg B w ts[i] ls[i]/\∀k,aB ts[i] k->¬aB s k
def cD(B:Nat->Prop)(w:J)(s:Y)(ds:O Nat):Prop:=aZ 1 3 w s (dr ds)/\In B w s
section
variable {B C:Nat->Prop}{w w':J}{s t:Y}{l:Key}{ls:O Key}{ds:O Nat}
theorem In.ad{V:Nat->Prop}(h:In B w s)(hc:ae V w w'):In B w' s:=λk a=>⟨(h k a).1,fc (h k a).2 hc.size⟩
theorem In.aU(h:In B w s)(b:∀k,k<w.heap.size->B k->C k):In C w s:=λk a=>⟨b k (h k a).2 (h k a).1,(h k a).2⟩
theorem bg.ad{V:Nat->Prop}(h:bg B w t l)(hc:ae V w w')(a:∀k,B k->¬V k):bg B w' t l:=⟨h.1.ad hc λk b=>a k (h.2.2 k b).1,h.2.1,In.ad h.2.2 hc⟩
theorem bg.hO{V:Nat->Prop}(h:bg B w t l)(hc:ae V w w')(a:∀k,aB t k->¬V k):bg B w' t l:=⟨h.1.ad hc a,h.2.1,In.ad h.2.2 hc⟩
theorem bg.ext(h:bg B w t l)(hc:Ext w w'):bg B w' t l:=bg.ad h hc λ_ _ h=>h
theorem bg.aU(h:bg B w t l)(a:∀k,k<w.heap.size->B k->C k):bg C w t l:=⟨h.1,h.2.1,In.aU h.2.2 a⟩
theorem ba.ad{V:Nat->Prop}(h:ba B w s ls)(hc:ae V w w')(a:∀k,B k->¬V k):ba B w' s ls:=by
 obtain⟨ts,h1,c,d,b,e⟩:=h;exact⟨ts,h1,c.ad hc λk f=>a k (b k f).1,d,In.ad b hc,λi g j=>bg.ad (e i g j) hc a⟩
theorem ba.ext(h:ba B w s ls)(hc:Ext w w'):ba B w' s ls:=ba.ad h hc λ_ _ h=>h
theorem ba.aU(h:ba B w s ls)(a:∀k,k<w.heap.size->B k->C k):ba C w s ls:=by
 obtain⟨ts,h1,b,c,d,e⟩:=h;exact⟨ts,h1,b,c,In.aU d a,λi f g=>bg.aU (e i f g) a⟩
theorem cq.ad{V:Nat->Prop}(h:cq B w s ds)(hc:ae V w w')(a:∀k,B k->¬V k):cq B w' s ds:=⟨h.1.ad hc λk b=>a k (h.2.2 k b).1,h.2.1,In.ad h.2.2 hc⟩
theorem cq.ext(h:cq B w s ds)(hc:Ext w w'):cq B w' s ds:=cq.ad h hc λ_ _ h=>h
theorem cq.aU(h:cq B w s ds)(a:∀k,k<w.heap.size->B k->C k):cq C w s ds:=⟨h.1,h.2.1,In.aU h.2.2 a⟩
theorem ba.len(h:ba B w s ls):s.len=ls.length:=by
 obtain⟨ts,h1,a,_⟩:=h;have:=a.len;rw[dE]at this;omega
theorem lO(ds:O Nat):(dr ds).length=ds.length:=by simp[dr]
theorem cq.len(h:cq B w s ds):s.len=ds.length:=by
 have:=h.1.len;rw[lO]at this;omega
theorem ba.at(h:ba B w s ls){i:Nat}(hi:i<ls.length):∃ (A:ab) (t:Y),s.a=some A/\((0:Int)<=(i:Int)/\(i:Int)<(s.len:Int))/\w.cell? (A.add (Int.toNat (i:Int)*1))=some (.slice t.a t.len t.cap)/\bg B w t ls[i]/\B A.block:=by
 obtain⟨ts,h1,b,f,c,d⟩:=h;obtain⟨A,ar,e,hc⟩:=b.at (i:=i) (v:=gF (ts[i]'I)) (by simp[h1,hi]);exact⟨A,ts[i]'I,ar,e,hc,d i I hi,(c _ ⟨A,ar,rfl⟩).1⟩
theorem cq.at(h:cq B w s ds){i:Nat}(hi:i<ds.length):∃A:ab,s.a=some A/\((0:Int)<=(i:Int)/\(i:Int)<((s.len:Nat):Int))/\w.cell? (A.add (Int.toNat (i:Int)*1))=some (.int .i64 ((ds[i]:Nat):Int)):=by
 obtain⟨A,ar,b,hc⟩:=h.1.at (i:=i) (v:=.int .i64 ((ds[i]:Nat):Int)) (by simp[dr,hi]);exact⟨A,ar,b,hc⟩
theorem bn.h7(h:bn B w s ls):ba B w s ls:=by
 obtain⟨ts,h1,a,b,c⟩:=h;exact⟨ts,h1,a.src,a.2.1,b,λi d e=>(c i d e).1⟩
theorem cD.p6(h:cD B w s ds):cq B w s ds:=⟨h.1.src,h.1.2.1,h.2⟩
theorem bn.none(B:Nat->Prop)(w:J):bn B w ⟨.none,0,0⟩ []:=⟨[],rfl,aZ.none _ _ _,λk a=>(gi k a).elim,λi h=>by simp at h⟩
theorem cD.none(B:Nat->Prop)(w:J):cD B w ⟨.none,0,0⟩ []:=⟨aZ.none _ _ _,λk a=>(gi k a).elim⟩
theorem ba.none(B:Nat->Prop)(w:J):ba B w ⟨.none,0,0⟩ []:=bn.h7 (bn.none B w)
theorem cq.none(B:Nat->Prop)(w:J):cq B w ⟨.none,0,0⟩ []:=cD.p6 (cD.none B w)
theorem bn.ad{V:Nat->Prop}(h:bn B w s ls)(hc:ae V w w')(a:∀k,B k->¬V k):bn B w' s ls:=by
 obtain⟨ts,h1,f,b,c⟩:=h;exact⟨ts,h1,f.ad hc λk g=>a k (b k g).1,In.ad b hc,λi d e=>⟨bg.ad (c i d e).1 hc a,(c i d e).2⟩⟩
theorem bn.ext(h:bn B w s ls)(hc:Ext w w'):bn B w' s ls:=bn.ad h hc λ_ _ h=>h
theorem cD.ad{V:Nat->Prop}(h:cD B w s ds)(hc:ae V w w')(a:∀k,B k->¬V k):cD B w' s ds:=⟨h.1.ad hc λk b=>a k (h.2 k b).1,In.ad h.2 hc⟩
theorem cD.ext(h:cD B w s ds)(hc:Ext w w'):cD B w' s ds:=cD.ad h hc λ_ _ h=>h
theorem bg.some(h:bg B w t l)(hl:l≠ []):∃A,t.a=some A:=by
 cases b:t.a with
 |none=>
  have:=h.1.nil b;exfalso;apply hl
  cases l with
  |nil=>rfl
  |cons a l=>simp[aF]at this
 |some A=>exact⟨A,rfl⟩
end
theorem p7:hF ai 127 48 1 24:=⟨by kernel_rfl⟩
theorem oy:hF ai 58 3 1 8:=⟨by kernel_rfl⟩
theorem vE(ts:O Y):∀v∈ts.map gF,Plain v:=by
 intro v a;obtain⟨n,_,rfl⟩:=dZ.1 a;trivial
theorem vF(ds:O Nat):∀v∈dr ds,Plain v:=by
 intro v a;obtain⟨n,_,rfl⟩:=dZ.1 a;trivial
theorem jt{B:Nat->Prop}{w:J}{s:Y}{l:O UInt8}(h:Src 1 w s (aF l))(hl:l.length<=1000000)(d:∀k,w.heap.size<=k->B k):
 aH ai 135 #[s] w (λv w'=>∃a:Y,v=a/\bg B w' a l/\Ext w w'/\gd w a):=by
 refine(vr h hl).mono ?_;rintro _ w' ⟨a,rfl,b,hx,hf⟩;exact⟨a,rfl,⟨b.src,b.2.1,λk c=>⟨d k (hf k c),b.lt k c⟩⟩,hx,hf⟩
theorem yU{B:Nat->Prop}{w:J}{s t:Y}{ls:O Key}{l:Key}(p:bn B w s ls)(ht:bg B w t l)(hd:∀k,aB t k->¬aB s k)(D:ls.length<=1000000)(q:∀k,w.heap.size<=k->B k):
 ∃ (b:Y) (w':J),Sem.run ai (Builtin.append_ #[127,127] 127 #[s,.slice (some w.heap.size) 1 1]) (w.alloc (.cells #[t] 48))=.ok b w'/\
  bn B w' b (ls++ [l])/\ae (aB s) w w'/\(∀k,aB b k->aB s k\/w.heap.size<=k):=by
 obtain⟨ts,h1,f,r,u⟩:=p;have E:s.len=ls.length:=by have:=f.1;rw[dE]at this;omega
 obtain⟨b,w',av,g,F,c,d⟩:=p7.push (dG:=127) (w:=w) (s:=s) (xs:=[gF t]) rfl f (λv y=>by rw[eX.1 y];trivial) I;refine⟨b,w',av,⟨ts++ [t],by simp[h1],?_,?_,λi j z=>?_⟩,c,d⟩
 .rw[fe];exact g
 .intro k a
  refine⟨?_,g.lt k a⟩;rcases d k a with h|h
  .exact(r k h).1
  .exact q k h
 .have m:∀ (x:Y),(∀k,aB x k->k<w.heap.size)->(∀k,aB x k->¬aB s k)->∀k,aB x k->¬aB b k:=λx hx A k a C=>by
   rcases d k C with h|h
   .exact A k a h
   .have:=hx k a;omega
  have G:i<ts.length+1:=by simpa using j
  rcases dJ i ts.length with h|h
  .obtain⟨n,o⟩:=u i h I
   simp only[o4 h,o4 (show i<ls.length from I)];exact⟨bg.hO n c o,m _ (λk a=>(n.2.2 k a).2) o⟩
  .have:i=ts.length:=by omega
   subst this;have e:(ts++ [t])[ts.length]'j=t:=by simp
   have:(ls++ [l])[ts.length]'z=l:=by rw[qJ I];simp
   rw[this,e];exact⟨bg.hO ht c hd,m _ (λk a=>(ht.2.2 k a).2) hd⟩
theorem Ds{B:Nat->Prop}{w:J}{s:Y}{ds:O Nat}(d:Nat)(b:cD B w s ds)(l:ds.length<=1000000)(g:∀k,w.heap.size<=k->B k):
 ∃ (a:Y) (w':J),Sem.run ai (Builtin.append_ #[58,58] 58 #[s,.slice (some w.heap.size) 1 1]) (w.alloc (.cells #[d] 3))=.ok a w'/\
  cD B w' a (ds++ [d])/\ae (aB s) w w'/\(∀k,aB a k->aB s k\/w.heap.size<=k):=by
 have m:s.len=ds.length:=by have:=b.1.1;rw[lO]at this;omega
 obtain⟨a,w',av,c,n,i,e⟩:=oy.push (dG:=58) (w:=w) (s:=s) (xs:=[d]) rfl b.1 (λv j=>by rw[eX.1 j];trivial) I;refine⟨a,w',av,⟨by simpa[dr] using c,λk f=>⟨?_,c.lt k f⟩⟩,i,e⟩;rcases e k f with h|h
 .exact(b.2 k h).1
 .exact g k h
structure bp(B:Nat->Prop)(w:J)(n:az)(K V D:Y):Prop where
 keys:ba B w K n.keys
 vals:ba B w V n.vals
 kids:cq B w D n.kids
def dL(n:az)(K V D:Y):O aa:=[n.leaf,K,V,D]
def cM(n:az)(K V D:Y):aa:=.agg #[n.leaf,K,V,D]
section
variable {B C:Nat->Prop}{w w':J}{n:az}{K V D:Y}
theorem bp.ad{W:Nat->Prop}(h:bp B w n K V D)(hc:ae W w w')(a:∀k,B k->¬W k):bp B w' n K V D:=⟨ba.ad h.keys hc a,ba.ad h.vals hc a,cq.ad h.kids hc a⟩
theorem bp.ext(h:bp B w n K V D)(hc:Ext w w'):bp B w' n K V D:=bp.ad h hc λ_ _ h=>h
theorem bp.aU(h:bp B w n K V D)(a:∀k,k<w.heap.size->B k->C k):bp C w n K V D:=⟨ba.aU h.keys a,ba.aU h.vals a,cq.aU h.kids a⟩
theorem bC{b:Nat}{T:TypeId}{leaf:ag}(h:Var w b [leaf,K,V,D] T):
 w.cell? b=some (.bool leaf)/\w.cell? (Addr.add b 1)=some (.slice K.a K.len K.cap)/\w.cell? (Addr.add b 2)=some (.slice V.a V.len V.cap)/\w.cell? (Addr.add b 3)=some (.slice D.a D.len D.cap):=by
 rw[ax,ax,ax];exact⟨h.cell,h.cell,h.cell,h.cell⟩
end
theorem Dt{B:Nat->Prop}{w:J}{s:Y}{ls:O Key}(h:ba B w s ls)(f:ls.length<=1000000):
   aH ai 242 #[s,.func (.func 241) #[] #[]] w (λv w'=>v=.bool (ls.any λv=>decide (24<v.length))/\w=w'):=by
 refine okF (af.rV s ⟨241,#[],#[]⟩) ay.rV func242 ?_
 (delta af.rV aA;dsimp only)
 have hl:=ba.len h
 have e:hY ai 241:=⟨_,(Option.some_get (show(Tryz.prog.funcs[241]?).isSome=true by kernel_rfl)).symm,by kernel_rfl,by kernel_rfl⟩
 refine Calls.mono (af.B0 s ⟨241,#[],#[]⟩ w (λv w'=>(∃i:Int,v=i/\(decide (i>=0))=(ls.any λv=>decide (24<v.length)))/\w=w') ?_) ?_
 · (delta af.pG al aI ak au;dsimp only)
   refine⟨λi w'=>∃j:Nat,i=j/\j<=ls.length/\w=w'/\∀ (k:Nat) (a:k<ls.length),k<j->(ls[k]).length<=24,λi _=>((ls.length:Int)-i).toNat,⟨0,rfl,cI _,rfl,λk a h=>I⟩,?_⟩
   rintro _ _ ⟨j,rfl,g,rfl,d⟩
   refine⟨λaJ=>?_,λc=>?_⟩
   · have aJ:j<ls.length:=by have:=cf aJ;omega
     obtain⟨A,t,ar,b,hc,ht,_⟩:=ba.at h aJ
     refine⟨A,ar,b,t,hc,e,?_⟩
     have l:=len8 ht.1
     refine Calls.mono (af.Cz t w (λv w'=>v=.bool (decide (24<(ls[j]).length))/\w=w') ⟨?_,rfl⟩) ?_
     · congr 1
       rw[fm,cO,cO];omega
     rintro _ _ ⟨_,rfl,rfl,rfl⟩
     refine⟨_,rfl,λb=>⟨⟨j,rfl,?_⟩,rfl⟩,λb=>?_⟩
     · have:(ls.any λv=>decide (24<v.length))=true:=List.any_eq_true.2 ⟨_,cm aJ,b⟩
       rw[this];exact dv I
     · have b:=cx b
       rw[bB (n:=(j:Int)+1) I I]
       refine⟨⟨j+1,I,I,rfl,λk a h=>?_⟩,?_⟩
       · rcases dJ k j with h1|h1
         · exact d k a h1
         · have:k=j:=by omega
           subst this;omega
       · show((ls.length:Int)-((j:Int)+1)).toNat<((ls.length:Int)-(j:Int)).toNat
         omega
   · have c:j=ls.length:=by have:=cx c;omega
     subst c
     refine⟨⟨-1,rfl,?_⟩,rfl⟩
     have:(ls.any λv=>decide (24<v.length))=false:=by
       rw[nk]
       intro x hx
       obtain⟨k,a,rfl⟩:=eD hx
       have:=d k a a
       simp;omega
     rw[this];rfl
 · rintro _ _ ⟨_,rfl,⟨i,rfl,hi⟩,rfl⟩
   exact⟨i,rfl,by rw[hi],rfl⟩
theorem Du{B:Nat->Prop}{w:J}{s:Y}{ds:O Nat}(h:cq B w s ds)(g:ds.length<=1000000):
   aH ai 244 #[s,.func (.func 243) #[] #[]] w (λv w'=>v=.bool (ds.any λd=>decide (1600<=d))/\w=w'):=by
 refine okF (af.rW s ⟨243,#[],#[]⟩) ay.rW func244 ?_
 (delta af.rW aA;dsimp only)
 have hl:=cq.len h
 have f:hY ai 243:=⟨_,(Option.some_get (show(Tryz.prog.funcs[243]?).isSome=true by kernel_rfl)).symm,by kernel_rfl,by kernel_rfl⟩
 refine Calls.mono (af.B1 s ⟨243,#[],#[]⟩ w (λv w'=>(∃i:Int,v=i/\(decide (i>=0))=(ds.any λd=>decide (1600<=d)))/\w=w') ?_) ?_
 · (delta af.pH al aI r1 au;dsimp only)
   refine⟨λi w'=>∃j:Nat,i=j/\j<=ds.length/\w=w'/\∀ (k:Nat) (a:k<ds.length),k<j->ds[k]<1600,λi _=>((ds.length:Int)-i).toNat,⟨0,rfl,cI _,rfl,λk a h=>I⟩,?_⟩
   rintro _ _ ⟨j,rfl,l,rfl,e⟩
   refine⟨λaJ=>?_,λc=>?_⟩
   · have aJ:j<ds.length:=by have:=cf aJ;omega
     obtain⟨A,ar,b,hc⟩:=cq.at h aJ
     refine⟨A,ar,b,_,hc,f,?_⟩
     refine Calls.mono (af.CA ((ds[j]:Nat):Int) w (λv w'=>v=.bool (decide (1600<=ds[j]))/\w=w') ⟨?_,rfl⟩) ?_
     · congr 1
       rw[fm,hW,cO,cO,cO];omega
     rintro _ _ ⟨_,rfl,rfl,rfl⟩
     refine⟨_,rfl,λb=>⟨⟨j,rfl,?_⟩,rfl⟩,λb=>?_⟩
     · have:(ds.any λd=>decide (1600<=d))=true:=List.any_eq_true.2 ⟨_,cm aJ,b⟩
       rw[this];exact dv I
     · have b:=cx b
       rw[bB (n:=(j:Int)+1) I I]
       refine⟨⟨j+1,I,I,rfl,λk a h=>?_⟩,?_⟩
       · rcases dJ k j with h1|h1
         · exact e k a h1
         · have:k=j:=by omega
           subst this;omega
       · show((ds.length:Int)-((j:Int)+1)).toNat<((ds.length:Int)-(j:Int)).toNat
         omega
   · have c:j=ds.length:=by have:=cx c;omega
     subst c
     refine⟨⟨-1,rfl,?_⟩,rfl⟩
     have:(ds.any λd=>decide (1600<=d))=false:=by
       rw[nk]
       intro x hx
       obtain⟨k,a,rfl⟩:=eD hx
       have:=e k a a
       simp;omega
     rw[this];rfl
 · rintro _ _ ⟨_,rfl,⟨i,rfl,hi⟩,rfl⟩
   exact⟨i,rfl,by rw[hi],rfl⟩
theorem yV:∀ {l:O Key},(∀ (i:Nat) (h:i+1<l.length),bU l[i] l[i+1])->l.Pairwise bU
 | [],_=>.nil
 |a::l,h=>by
  have e:=yV (l:=l) λi hi=>h (i+1) (by simpa using hi)
  refine kx.2 ⟨λb d=>?_,e⟩
  cases l with
  |nil=>simp at d
  |cons c l=>
   have h0:bU a c:=h 0 (by simp)
   rcases cR.1 d with rfl|d
   .exact h0
   .exact kQ h0 ((kx.1 e).1 b d)
instance (k:Key):Decidable (cT k):=by unfold cT;infer_instance
theorem mF{w:J}{t:Y}{l:Key}(h:Src 1 w t (aF l)):aH ai 209 #[t] w (λv w'=>v=.bool (decide (cT l))/\w=w'):=by
 have hl:=len8 h;refine okF (af.mF t) ay.mF func209 ?_;unfold af.mF;refine⟨?_,rfl⟩
 congr 1
 rw[fm,dO,cO,cO,cO];unfold cT;omega
theorem jo{B:Nat->Prop}{w:J}{n:az}{K V D:Y}(h:bp B w n K V D)(h1:n.keys.length<=100000)(O:n.vals.length<=100000)(P:n.kids.length<=100000):
 aH ai 203 #[cM n K V D] w (λv w'=>∃b:ag,v=b/\(b=true↔cp n)/\Ext w w'):=by
 refine okF (af.jo n.leaf K V D) ay.jo func203 ?_;(delta af.jo ak U al aI aG au aA a7;dsimp only);refine bk (vs:=[n.leaf,K,V,D]) rfl λw1 d l _=>?_;obtain⟨bS,aA,aT,aG⟩:=bC d;have g:=h.ext l;have x:=ba.len g.keys;have Q:=ba.len g.vals;have aO:=cq.len g.kids;refine⟨K,aA,λi w'=>∃j:Nat,i=j/\j<=n.keys.length/\w1=w'/\(∀ (k:Nat) (f:k<n.keys.length),k<j->cT n.keys[k])/\∀ (k:Nat) (f:k+1<n.keys.length),k+1<j->bU n.keys[k] n.keys[k+1],
  λi _=>((n.keys.length:Int)-i).toNat,⟨0,rfl,cI _,rfl,λk f h=>I,λk f h=>I⟩,?_⟩
 rintro _ _ ⟨j,rfl,m,rfl,y,z⟩;refine⟨λaJ=>?_,λo=>?_⟩
 .have aJ:j<n.keys.length:=by have:=cf aJ;omega
  obtain⟨A,t,ar,a,hc,ht,_⟩:=ba.at g.keys aJ;refine⟨A,ar,a,t,hc,(mF ht.1).use ?_⟩;rintro _ _ ⟨rfl,rfl⟩;refine⟨_,rfl,cl (λb w'=>w1=w'/\(b=true->¬cp n)/\(b=false->cT n.keys[j]/\∀ (m:1<=j),bU (n.keys[j-1]'I) n.keys[j])) (λq c=>⟨λa=>?_,λa=>?_⟩) ?_⟩
  .have a:¬cT n.keys[j]:=by simpa using a
   exact c _ _ ⟨rfl,λ_ hs=>a (hs.keys.ok _ (cm aJ)),λh=>by cases h⟩
  .have a:cT n.keys[j]:=by simpa using a
   refine cl (λb w'=>w1=w'/\(b=true->¬cp n)/\(b=false->∀ (m:1<=j),bU (n.keys[j-1]'I) n.keys[j])) (λR C=>⟨λh0=>?_,λh0=>?_⟩) ?_
   .have h0:1<=j:=by have:=cf h0;omega
    rw[bB (n:=(j:Int)-1) I I,show(j:Int)-1=((j-1:Nat):Int) from I];obtain⟨F,t2,G,p,H,L,_⟩:=ba.at g.keys (i:=j-1) I;refine⟨K,aA,F,G,p,t2,H,(kc L.1 ht.1).use ?_⟩;rintro _ _ ⟨rfl,rfl⟩;refine⟨_,rfl,C _ _ ⟨rfl,λhc hs=>?_,λhc _=>?_⟩⟩
    .have hc:=cf hc
     have:bU (n.keys[j-1]'I) n.keys[j]:=lh.1 hs.keys.e8 (j-1) j I aJ I;unfold bU at this;omega
    .have hc:=cx hc
     unfold bU;omega
   .have h0:=cx h0
    exact C _ _ ⟨rfl,λh=>(by cases h),λ_ m=>I⟩
   .rintro b w' ⟨rfl,av,r⟩
    exact c _ _ ⟨rfl,av,λp=>⟨a,r p⟩⟩
  .rintro b w' ⟨rfl,av,r⟩
   refine⟨λa=>⟨false,rfl,⟨λh=>(by cases h),λhs=>absurd hs (av a)⟩,l⟩,λa=>?_⟩;obtain⟨M,N⟩:=r a;rw[bB (n:=(j:Int)+1) I I];refine⟨⟨j+1,I,I,rfl,λk f h=>?_,λk f h=>?_⟩,?_⟩
   .rcases dJ k j with h1|h1
    .exact y k f h1
    .have:k=j:=by omega
     subst this;exact M
   .rcases dJ (k+1) j with h1|h1
    .exact z k f h1
    .have:j=k+1:=by omega
     subst this;exact N I
   .show((n.keys.length:Int)-((j:Int)+1)).toNat<((n.keys.length:Int)-(j:Int)).toNat
    omega
 .have o:j=n.keys.length:=by have:=cx o;omega
  subst o;have E:tg n:=⟨λk f=>by
   obtain⟨i,hi,rfl⟩:=eD f;exact y i hi hi,yV λi hi=>z i hi hi⟩
  refine⟨n.leaf,bS,λhl=>⟨V,aT,K,aA,?_⟩,λhl=>⟨K,aA,?_⟩⟩
  .refine cl (λb w'=>w1=w'/\b=(decide (n.vals.length=n.keys.length)&&decide (n.kids=[]))) (λq c=>⟨λa=>⟨D,aG,c _ _ ⟨rfl,?_⟩⟩,λa=>c _ _ ⟨rfl,?_⟩⟩) ?_
   .have a:=eq_of_beq a
    rw[dv (show n.vals.length=n.keys.length from I),ij,fm,jc,cO,←l2];omega
   .have a:¬((V.len:Int)=(K.len:Int)):=λe=>by rw[e]at a;simp at a
    rw[gM I,ky]
   rintro b w' ⟨rfl,rfl⟩;refine cl (λb w'=>w1=w'/\(b=true↔cp n)) (λq c=>⟨λa=>⟨V,aT,(Dt g.vals I).use ?_⟩,λa=>c _ _ ⟨rfl,?_⟩⟩) ?_
   .rintro _ _ ⟨rfl,rfl⟩
    refine⟨_,rfl,c _ _ ⟨rfl,?_⟩⟩;simp only[dO,cO]at a;rw[jY,nk];constructor
    .intro s
     exact .inl ⟨E,hl,a.1,a.2,λv d=>by have:=s v d;simp at this;omega⟩
    .rintro(hs|hs)
     .intro v d;have:=hs.vals v d;simp;omega
     .have:=hs.inner;rw[hl]at this;cases this
   .have a:¬(n.vals.length=n.keys.length/\n.kids=[]):=by simpa using a
    refine⟨λh=>(by cases h),?_⟩;rintro(hs|hs)
    .exact absurd ⟨hs.len,hs.kids⟩ a
    .have:=hs.inner;rw[hl]at this;cases this
   rintro b w' ⟨rfl,a⟩;exact⟨b,rfl,a,l⟩
  .refine cl (λb w'=>w1=w'/\b=(decide (n.keys≠ [])&&decide (n.kids.length=n.keys.length+1))) (λq c=>⟨λa=>⟨D,aG,K,aA,c _ _ ⟨rfl,?_⟩⟩,λa=>c _ _ ⟨rfl,?_⟩⟩) ?_
   .have a:=cf a
    have u:n.keys≠ []:=λe=>by rw[e]at x;simp at x;omega
    rw[dv u,ij,fm,jc,cO,bB I I];omega
   .have a:=cx a
    have u:n.keys=[]:=l2.1 I;rw[gM (λh=>h u),ky]
   rintro b w' ⟨rfl,rfl⟩;refine cl (λb w'=>w1=w'/\b=(decide (n.keys≠ [])&&decide (n.kids.length=n.keys.length+1)&&decide (n.vals=[]))) (λq c=>⟨λa=>⟨V,aT,c _ _ ⟨rfl,?_⟩⟩,λa=>c _ _ ⟨rfl,?_⟩⟩) ?_
   .rw[a,ij,fm,jc,cO,←l2]
    omega
   .rw[a,ky]
   rintro b w' ⟨rfl,rfl⟩;refine cl (λb w'=>w1=w'/\(b=true↔cp n)) (λq c=>⟨λa=>⟨D,aG,(Du g.kids I).use ?_⟩,λa=>c _ _ ⟨rfl,?_⟩⟩) ?_
   .rintro _ _ ⟨rfl,rfl⟩
    refine⟨_,rfl,c _ _ ⟨rfl,?_⟩⟩;simp only[dO,cO]at a;rw[jY,nk];constructor
    .intro s
     exact .inr ⟨E,hl,a.1.1,a.1.2,a.2,λv d=>by have:=s v d;simp at this;omega⟩
    .rintro(hs|hs)
     .have:=hs.leaf;rw[hl]at this;cases this
     .intro v d;have:=hs.kids v d;simp;omega
   .have a:¬((n.keys≠ []/\n.kids.length=n.keys.length+1)/\n.vals=[]):=λe=>by
     rw[dv e.1.1,dv e.1.2,dv e.2]at a;cases a
    refine⟨λh=>(by cases h),?_⟩;rintro(hs|hs)
    .have:=hs.leaf;rw[hl]at this;cases this
    .exact absurd ⟨⟨hs.some,hs.len⟩,hs.vals⟩ a
   rintro b w' ⟨rfl,a⟩;exact⟨b,rfl,a,l⟩
theorem Dv{w:J}{a b:Y}{c lb:O UInt8}(h:Src 1 w a (aF c))(i:Src 1 w b (aF lb))(hl:c.length+lb.length<=1000):
 aH ai 92 #[.slice (some w.heap.size) 2 2] (w.alloc (.cells #[a,b] 48)) (λv w'=>∃d:Y,v=d/\aZ 1 5 w' d (aF (c++lb))/\Ext w w'/\gd w d):=by
 have hx:=er w (.cells #[a,b] 48);refine(tv (s:=⟨some w.heap.size,2,2⟩) [(a,c),(b,lb)] (Src.new w _ 2 rfl) ?_ (by simp[ee];omega) (by simp)).mono ?_
 .intro p f
  simp only[cR,eR,eY]at f;rcases f with rfl|rfl
  .exact h.ext hx
  .exact i.ext hx
 .rintro _ w' ⟨d,rfl,g,j,hf⟩
  have e:ee [(a,c),(b,lb)]=c++lb:=by simp[ee]
  rw[e]at g;exact⟨d,rfl,g,hx.trans j,hf.mono hx.size⟩
theorem Dw{w:J}{a b c:Y}{d lb f:O UInt8}(j:Src 1 w a (aF d))(k:Src 1 w b (aF lb))(hc:Src 1 w c (aF f))(hl:d.length+lb.length+f.length<=1000):
 aH ai 92 #[.slice (some w.heap.size) 3 3] (w.alloc (.cells #[a,b,c] 48)) (λv w'=>∃g:Y,v=g/\aZ 1 5 w' g (aF (d++(lb++f)))/\Ext w w'/\gd w g):=by
 have hx:=er w (.cells #[a,b,c] 48);refine(tv (s:=⟨some w.heap.size,3,3⟩) [(a,d),(b,lb),(c,f)] (Src.new w _ 3 rfl) ?_ (by simp[ee];omega) (by simp)).mono ?_
 .intro p h
  simp only[cR,eR,eY]at h;rcases h with rfl|rfl|rfl
  .exact j.ext hx
  .exact k.ext hx
  .exact hc.ext hx
 .rintro _ w' ⟨g,rfl,i,l,hf⟩
  have e:ee [(a,d),(b,lb),(c,f)]=d++(lb++f):=by simp[ee]
  rw[e]at i;exact⟨g,rfl,i,hx.trans l,hf.mono hx.size⟩
theorem yW(w:J){n:Nat}(a:n<=255):Src 1 (w.alloc (.cells #[.int .u8 (IntKind.wrap .u8 (n:Int))] 5)) ⟨some w.heap.size,1,1⟩ (aF [UInt8.ofNat n])/\Ext w (w.alloc (.cells #[.int .u8 (IntKind.wrap .u8 (n:Int))] 5)):=by
 have e:(#[.int .u8 (IntKind.wrap .u8 (n:Int))]:Array aa)=(aF [UInt8.ofNat n]).toArray:=by
  rw[uM I I];simp[aF,ir (show n<256 from I)]
 rw[e];exact⟨Src.new w _ 1 rfl,er _ _⟩
theorem eH{α:Type}{l:O α}{i:Nat}{d:α}(h:i<l.length):l.getD i d=l[i]:=by
 rw[e6,dD h];rfl
theorem cp.jR{n:az}(h:cp n)(hl:n.leaf=true):n.vals.length=n.keys.length:=by
 rcases h with h|h
 .exact h.len
 .have:=h.inner;rw[hl]at this;cases this
theorem cp.oz{n:az}(h:cp n)(hl:n.leaf=false):n.kids.length=n.keys.length+1:=by
 rcases h with h|h
 .have:=h.leaf;rw[hl]at this;cases this
 .exact h.len
theorem lF{B:Nat->Prop}{w:J}{n:az}{K V D:Y}(h:bp B w n K V D)(hs:cp n){i:Nat}(hi:i<n.keys.length)(ac:n.keys.length<=100000):
 aH ai 298 #[cM n K V D,i] w (λv w'=>∃s:Y,v=s/\aZ 1 5 w' s (aF (fZ n i))/\Ext w w'/\gd w s):=by
 refine okF (af.lF n.leaf K V D (i:Int)) ay.lF func298 ?_;(delta af.lF U ak aI aW a7 al au r1;dsimp only);refine bk (vs:=[n.leaf,K,V,D]) rfl λw1 q e _=>?_;have r:=cr w1;have P:=e.trans r;have Q:=h.ext P;obtain⟨bS,aA,aT,aG⟩:=bC (q.ext r);obtain⟨A,t,ar,H,hc,ht,_⟩:=ba.at Q.keys hi;have ad:=(hs.keys.ok _ (cm hi)).2;have R:=len8 ht.1;obtain⟨S,u⟩:=yW w1.drew (n:=t.len) I;refine aY ⟨λ_=>False,id,K,aA,A,ar,H,id,t,hc,id,K,aA,A,ar,H,id,t,hc,aY ⟨u,aY ?_⟩⟩;refine(Dv (a:=⟨some w1.drew.heap.size,1,1⟩) (b:=t) S (ht.1.ext u) (by simp;omega)).use ?_;rintro _ x ⟨L,rfl,y,T,ae⟩;have d:=r.trans (u.trans T);obtain⟨d0,d1,d2,d3⟩:=bC (q.ext d);have W: [UInt8.ofNat t.len]++n.keys[i]=lJ (n.keys.getD i []):=by rw[eH hi,R];rfl
 rw[W]at y;have M:=h.ext (e.trans d);refine⟨L,rfl,n.leaf,d0,λhl=>?_,λhl=>?_⟩
 .have ag:=hs.jR hl
  have z:i<n.vals.length:=by omega
  have f:=cr x;have X:=M.ext f;obtain⟨ah,aj,N,am⟩:=bC (q.ext (d.trans f));obtain⟨l,t2,m,o,p,O,_⟩:=ba.at X.vals z;have an:=hs.vals _ (cm z);have Z:=len8 O.1;obtain⟨aa,g⟩:=yW x.drew (n:=t2.len) I;refine aY ⟨λ_=>False,id,V,N,l,m,o,id,t2,p,id,V,N,l,m,o,id,t2,p,aY ⟨g,aY ?_⟩⟩;refine(Dw (a:=L) (b:=⟨some x.drew.heap.size,1,1⟩) (c:=t2) (y.src.ext (f.trans g)) aa (O.1.ext g) (by rw[lK,eH hi];simp;omega)).use ?_;rintro _ ab ⟨j,rfl,C,E,F⟩;refine⟨j,rfl,j,rfl,?_,(e.trans d).trans (f.trans (g.trans E)),F.mono ((e.trans d).trans (f.trans g)).size⟩;have:lJ (n.keys.getD i [])++([UInt8.ofNat t2.len]++n.vals[i])=fZ n i:=by
   unfold fZ;rw[hl,if_pos rfl,eH z,Z];rfl
  rwa[this]at C
 .have ao:=hs.oz hl
  have G:i+1<n.kids.length:=by omega
  obtain⟨l,m,o,p⟩:=cq.at M.kids G;have ap:=hs.kids _ (cm G);rw[bB (n:=(i:Int)+1) I I,show(i:Int)+1=((i+1:Nat):Int) from I];refine⟨D,d3,l,m,o,_,p,?_⟩;rw[gz (n:=((n.kids[i+1]:Nat):Int)) I I];refine(gR y.src (n:=n.kids[i+1]) (k:=2) (by rw[lK,eH hi];omega) (by show _<18446744073709551616;omega) ⟨by decide,by decide⟩).use ?_;rintro _ ab ⟨j,rfl,C,E,F⟩;refine⟨j,rfl,j,rfl,?_,(e.trans d).trans E,gd.mono F (e.trans d).size⟩;have:lJ (n.keys.getD i [])++bQ n.kids[i+1] 2=fZ n i:=by
   unfold fZ;rw[hl,if_neg (by simp),eH G]
  rwa[this]at C
theorem tC{n:az}(hs:cp n){i:Nat}(hi:i<n.keys.length):(fZ n i).length<=100:=by
 unfold fZ;have:=(hs.keys.ok _ (cm hi)).2;rw[cE,lK,eH hi];split
 .rename_i hl
  have a:i<n.vals.length:=by have:=hs.jR hl;omega
  have:=hs.vals _ (cm a);rw[lK,eH a];omega
 .rw[ey];omega
theorem vG{n:az}(hs:cp n):∀m,m<=n.keys.length->(gD n 0 m).length<=100*m
 |0,_=>by simp[gD]
 |m+1,a=>by
  have:=vG hs m I
  have:=tC hs (i:=m) I
  rw[vu,cE];omega
theorem mK{B:Nat->Prop}{w:J}{n:az}{K V D:Y}(h:bp B w n K V D)(hs:cp n)(aj:n.keys.length<=255):
 aH ai 293 #[cM n K V D] w (λv w'=>∃s:Y,v=s/\aZ 1 5 w' s (aF (h5 n))/\Ext w w'/\gd w s):=by
 refine okF (af.mK n.leaf K V D) ay.mK func293 ?_;(delta af.mK ak U a7 al aI r1 aW au;dsimp only);refine bk (vs:=[n.leaf,K,V,D]) rfl λw1 f g _=>?_;obtain⟨bS,aA,aT,aG⟩:=bC f;have t:=h.ext g;have C:=ba.len t.keys;have E:(#[.int .u8 (IntKind.wrap .u8 (K.len:Int))]:Array aa)=(aF [UInt8.ofNat n.keys.length]).toArray:=by
  rw[C,uM I I];simp[aF,ir (show n.keys.length<256 from I)]
 refine⟨K,aA,?_⟩;rw[E];have l:=aZ.new (T:=5) (sz:=1) w1 (aF [UInt8.ofNat n.keys.length]) 1 rfl (by decide);have b:=er w1 (.cells (aF [UInt8.ofNat n.keys.length]).toArray 5);obtain⟨ah,F⟩:∃ah,ah=w1.alloc (.cells (aF [UInt8.ofNat n.keys.length]).toArray 5):=⟨_,rfl⟩;rw[←F]at l b⊢;obtain⟨d0,d1,d2,d3⟩:=bC (f.ext b);have G:=g.trans b;refine aY (cl (λc w'=>aZ 1 5 w' c (aF (preB n))/\Ext ah w'/\gd w1 c) (λq u=>⟨n.leaf,d0,λhl=>?_,λhl=>u _ _ ⟨?_,.refl _ _,?_⟩⟩) ?_)
 .have hl:n.leaf=false:=by simpa using hl
  have am:=hs.oz hl;have m:0<n.kids.length:=by omega
  obtain⟨H,L,M,N⟩:=cq.at (h.ext G).kids m;have an:=hs.kids _ (cm m);refine⟨D,d3,H,L,M,_,N,?_⟩;rw[gz (n:=((n.kids[0]:Nat):Int)) I I];refine(gR l.src (n:=n.kids[0]) (k:=2) (by simp) (by show _<18446744073709551616;omega) ⟨by decide,by decide⟩).use ?_;rintro _ O ⟨o,rfl,d,a,e⟩;refine⟨o,rfl,u _ _ ⟨?_,a,gd.mono e b.size⟩⟩;have: [UInt8.ofNat n.keys.length]++bQ n.kids[0] 2=preB n:=by
   unfold preB;rw[hl,if_neg (by simp),eH m];rfl
  rwa[this]at d
 .have hl:n.leaf=true:=by simpa using hl
  have:preB n=[UInt8.ofNat n.keys.length]:=by unfold preB;rw[hl];rfl
  rw[this];exact l
 .rintro k ⟨A,ar,rfl⟩
  cases ar;exact br _
 rintro ao ap ⟨P,Q,R⟩;have x:=b.trans Q;obtain⟨d0,d1,d2,d3⟩:=bC (f.ext x);have aq:(preB n).length<=3:=by
  unfold preB
  cases n.leaf<;>simp[ey]
 refine⟨K,d1,λc i w'=>∃j:Nat,i=j/\j<=n.keys.length/\aZ 1 5 w' c (aF (preB n++gD n 0 j))/\Ext w1 w'/\gd w1 c,λ_ i _=>((n.keys.length:Int)-i).toNat,⟨0,rfl,cI _,by simpa[gD] using P,x,R⟩,?_⟩;rintro o _ O ⟨j,rfl,S,d,a,e⟩;refine⟨λaJ=>?_,λp=>?_⟩
 .have aJ:j<n.keys.length:=by have:=cf aJ;omega
  obtain⟨f0,f1,f2,f3⟩:=bC (f.ext a);refine⟨n.leaf,f0,K,f1,V,f2,D,f3,(lF (t.ext a) hs aJ I).use ?_⟩;rintro _ aw ⟨W,rfl,y,r,ax⟩;have z:=kV d;have X:=kV y;have b8:=tC hs aJ;have bM:=vG hs j S;rw[cE]at z;obtain⟨Z,ab,av,ac,aB,ad,ae⟩:=p1.append (dG:=48) y.src (d.ext r) (kS _) (by rw[z,X];omega);rw[bB (n:=(j:Int)+1) I I];refine⟨W,rfl,Z,ab,av,⟨j+1,I,I,?_,Ext.dj (a.trans r) ad e,λk ag=>?_⟩,?_⟩
  .rw[vu,←cW,mR];exact ac
  .rcases ae k ag with h|h
   .exact e k h
   .exact eC (a.trans r).size h
  .show((n.keys.length:Int)-((j:Int)+1)).toNat<((n.keys.length:Int)-(j:Int)).toNat
   omega
 .have p:j=n.keys.length:=by have:=cx p;omega
  subst p;exact⟨o,rfl,d,g.trans a,e.mono g.size⟩
theorem mI{B:Nat->Prop}{w:J}{n:az}{K V D:Y}(h:bp B w n K V D)(hs:cp n)(e:n.keys.length<=255):
 aH ai 280 #[cM n K V D] w (λv w'=>v=.int .i64 (bx n:Nat)/\Ext w w'):=by
 have f:n.vals.length<=100000:=by
  rcases hs with hs|hs
  .rw[hs.len];omega
  .rw[hs.vals];simp
 have g:n.kids.length<=100000:=by
  rcases hs with hs|hs
  .rw[hs.kids];simp
  .rw[hs.len];omega
 refine okF (af.mI n.leaf K V D) ay.mI func280 ?_;(delta af.mI a7 U ak aG al aW;dsimp only);refine bk (vs:=[n.leaf,K,V,D]) rfl λw1 d a _=>?_;obtain⟨bS,aA,aT,aG⟩:=bC d;refine⟨n.leaf,bS,K,aA,V,aT,D,aG,(jo (h.ext a) I f g).use ?_⟩;rintro _ ah ⟨b,rfl,i,c⟩;have j:=i.2 hs;subst j;obtain⟨bS,aA,aT,aG⟩:=bC (d.ext c);refine⟨true,rfl,λh=>(by cases h),λ_=>⟨n.leaf,bS,K,aA,V,aT,D,aG,(mK (h.ext (a.trans c)) hs e).use ?_⟩⟩;rintro _ o ⟨k,rfl,l,m,_⟩;have hl:=kV l;rw[vx hs]at hl;exact⟨k,rfl,by rw[hl],(a.trans c).trans m⟩
def yX(n:az)(w w':J)(v:aa):Prop:=
 (∃s:Y,v=.tuple #[s,(0:Int)]/\aZ 1 5 w' s (aF (h5 n))/\gd w s/\cp n/\bx n<=232)\/
 (∃e:Int,v=.tuple #[(),e]/\e≠0/\(cp n->232<bx n))
theorem mH{B:Nat->Prop}{w:J}{n:az}{K V D:Y}(h:bp B w n K V D)(o:n.keys.length<=100000)(p:n.vals.length<=100000)(r:n.kids.length<=100000):
 aH ai 274 #[cM n K V D] w (λv w'=>yX n w w' v/\Ext w w'):=by
 refine okF (af.mH n.leaf K V D) ay.mH func274 ?_;(delta af.mH a7 U ak aG al aW;dsimp only);refine bk (vs:=[n.leaf,K,V,D]) rfl λw1 e f _=>?_;obtain⟨bS,aA,aT,aG⟩:=bC e;refine⟨n.leaf,bS,K,aA,V,aT,D,aG,(jo (h.ext f) o p r).use ?_⟩;rintro _ ah ⟨b,rfl,g,i⟩;have d:=f.trans i;obtain⟨bS,aA,aT,aG⟩:=bC (e.ext i);have x:=ba.len h.keys;refine⟨b,rfl,cl (λc w'=>ah=w'/\(c=true->cp n->255<n.keys.length)/\(c=false->cp n/\n.keys.length<=255)) (λq j=>⟨λh1=>j _ _ ⟨rfl,λ_ hs=>?_,λh=>(by cases h)⟩,λh1=>⟨K,aA,j _ _ ⟨rfl,λa hs=>?_,λa=>?_⟩⟩⟩) ?_⟩
 .have h1:b=false:=by simpa using h1
  rw[g.2 hs]at h1;cases h1
 .have:=cf a;omega
 .have h1:b=true:=by simpa using h1
  have:=cx a;exact⟨g.1 h1,I⟩
 rintro c w' ⟨rfl,av,s⟩;refine⟨λh1=>⟨.inr ⟨4,rfl,by decide,λhs=>?_⟩,d⟩,λh1=>?_⟩
 .have:=av h1 hs
  have:=tn hs;omega
 obtain⟨hs,t⟩:=s h1;refine⟨n.leaf,bS,K,aA,V,aT,D,aG,(mK (h.ext d) hs t).use ?_⟩;rintro _ y ⟨k,rfl,l,m,u⟩;have hl:=kV l;rw[vx hs]at hl;refine⟨k,rfl,λa=>⟨.inr ⟨10,rfl,by decide,λ_=>?_⟩,d.trans m⟩,λa=>⟨.inl ⟨k,rfl,l,u.mono d.size,hs,?_⟩,d.trans m⟩⟩
 .have:=cf a;omega
 .have:=cx a;omega
theorem oo{B:Nat->Prop}{w:J}{n:az}{K V D:Y}(h:bp B w n K V D)(d:n.keys.length<=100000)(f:n.vals.length<=100000)(g:n.kids.length<=100000):
 aH ai 295 #[cM n K V D] w (λv w'=>yX n w w' v/\Ext w w'):=by
 refine okF (af.oo n.leaf K V D) ay.oo func295 ?_;(delta af.oo a7 U ak bW;dsimp only);refine bk (vs:=[n.leaf,K,V,D]) rfl λw1 i a _=>?_;obtain⟨bS,aA,aT,aG⟩:=bC i;refine⟨n.leaf,bS,K,aA,V,aT,D,aG,(mH (h.ext a) d f g).use ?_⟩;rintro _ ah ⟨j,c⟩;rcases j with ⟨s,rfl,k,hf,hs,b⟩|⟨e,rfl,he,b⟩
 .exact⟨s,0,rfl,.inl ⟨s,rfl,k,hf.mono a.size,hs,b⟩,a.trans c⟩
 .exact⟨⟨none,0,0⟩,e,rfl,.inr ⟨e,rfl,he,b⟩,a.trans c⟩
theorem dX{w:J}{b i:Nat}{vs:O aa}{T:TypeId}(h:Var w b vs T)(v:aa):Var (w.setCell ⟨b,i,none⟩ v) b (vs.set i v) T:=by
 have:=bh.set h i v;have e:vs.toArray.setIfInBounds i v=(vs.set i v).toArray:=by simp
 rw[e]at this;exact this
theorem dR{w:J}{b i:Nat}{vs:O aa}{T:TypeId}(h:Var w b vs T)(hi:i<vs.length):(∃u:aa,w.cell? ⟨b,i,none⟩=some u)/\w.frozen? ⟨b,i,none⟩=false:=
 ⟨⟨vs[i],by rw[h.cell];simp[hi]⟩,bh.frozen h _ rfl⟩
theorem dx(w:J)(b i:Nat)(v:aa):ae (λq=>q=b) w (w.setCell ⟨b,i,none⟩ v):=ae.fZ (.refl _ _) v
structure h_(w:J)(r:Nat)(s:Y)(rd:Rd):Prop where
 v:Var w r [s,rd.2] 354
 src:Src 1 w s (aF rd.1)
 le:s.len<=s.cap
 ne:∀k,aB s k->k≠r
theorem h_.ad{W:Nat->Prop}{w w':J}{r:Nat}{s:Y}{rd:Rd}(h:h_ w r s rd)(hc:ae W w w')(h1:¬W r)(a:∀k,aB s k->¬W k):h_ w' r s rd:=⟨h.v.ad hc h1,h.src.ad hc a,h.le,h.ne⟩
theorem h_.ext{w w':J}{r:Nat}{s:Y}{rd:Rd}(h:h_ w r s rd)(hc:Ext w w'):h_ w' r s rd:=h_.ad h hc id λ_ _ h=>h
theorem tD{a:an ab}{z l m n c k:Nat}(h:aB ⟨aL a z l m,n,c⟩ k):∃A,a=some A/\A.block=k:=by
 obtain⟨A,ar,rfl⟩:=h;unfold aL at ar;split at ar
 .exact⟨A,ar,rfl⟩
 .cases b:a with
  |none=>rw[b]at ar;cases ar
  |some d=>
   rw[b]at ar;simp only[kr,Option.some.injEq]at ar;exact⟨d,rfl,by subst ar;unfold Addr.add;split<;>rfl⟩
theorem yY{w:J}{r:Nat}{s:Y}{rd:Rd}(h:h_ w r s rd)(k:Nat)(z:k<=100000)(hl:rd.1.length<=100000):
 aH ai 292 #[.pointer (some r),k] w (λv w'=>∃t n:Y,v=t/\bg (λq=>w.heap.size<=q) w' t (gE rd k).1/\h_ w' r n (gE rd k).2/\ae (λq=>q=r) w w'/\(∀q,aB n q->aB s q)):=by
 obtain⟨l,ok⟩:=rd;have f:=h.v;have x:=len8 h.src;simp only at x hl f;have aJ:=f.lt;refine okF (af.tb (some r) (k:Int)) ay.tb func292 ?_;(delta af.tb a7 al ak st aW;dsimp only);refine⟨_,rfl,ok,by rw[ax];exact f.cell,cl (λb w'=>w=w'/\b=decide (ok=false\/l.length<k)) (λq c=>⟨λh1=>c _ _ ⟨rfl,?_⟩,λh1=>⟨_,rfl,s,f.cell,c _ _ ⟨rfl,?_⟩⟩⟩) ?_⟩
 .have h1:ok=false:=by simpa using h1
  exact(dv (.inl h1)).symm
 .have h1:ok=true:=by simpa using h1
  subst h1;rw[fm,cO,cO];constructor
  .intro h;exact .inr I
  .rintro(h|h)
   .cases h
   .omega
 rintro b w' ⟨rfl,rfl⟩;refine⟨λd=>⟨_,rfl,?_⟩,λd=>⟨_,rfl,s,f.cell,?_⟩⟩
 .have d:=cf d
  obtain⟨av,g⟩:=dR f (i:=1) (by simp);rw[ax];have hc:=dx w r 1 false;have e:gE (l,ok) k=([],(l,false)):=by unfold gE;rw[if_pos d]
  rw[e];refine⟨av,g,aY ⟨⟨none,0,0⟩,s,rfl,⟨(aZ.none 1 5 _).src,br _,λq c=>(gi q c).elim⟩,⟨dX f _,h.src.ad hc λq c=>h.ne q c,h.le,h.ne⟩,hc,λq c=>c⟩⟩
 .have d:=cx d
  have e:gE (l,ok) k=(l.take k,(l.drop k,true)):=by unfold gE;rw[if_neg d]
  have C:k<=l.length:=by
   rcases dJ l.length k with h1|h1
   .exact absurd (.inr h1) d
   .exact h1
  have y:ok=true:=by
   cases ok with
   |true=>rfl
   |false=>exact absurd (.inl rfl) d
  subst y;rw[e];have D:=h.le;refine⟨⟨I,I⟩,?_⟩;have o:=lN h.src h.le (lo:=0) (hi:=k) I I;rw[kt,Nat.sub_zero]at o;rw[du,Nat.sub_zero];refine(jt (B:=λq=>w.heap.size<=q) (s:=⟨aL s.a 1 0 s.cap,k,s.cap-0⟩) o (by rw[cC];omega) (λq c=>c)).use ?_;rintro _ w1 ⟨t,rfl,ht,j,E⟩;have m:=f.ext j;obtain⟨av,g⟩:=dR m (i:=0) (by simp);have hc:=dx w1 r 0 (.slice (aL s.a 1 k s.cap) (s.len-k) (s.cap-k));have p:=lN (h.src.ext j) h.le (lo:=k) (hi:=s.len) I (br _);rw[dT (l:=l.drop k) (by rw[c5];omega)]at p;have u:∀q,aB ⟨aL s.a 1 k s.cap,s.len-k,s.cap-k⟩ q->q≠r:=λq c=>by
   obtain⟨A,ar,d⟩:=tD c;exact h.ne q ⟨A,ar,d⟩
  refine⟨t,rfl,_,rfl,s,m.cell,⟨I,I⟩,_,rfl,av,g,aY ⟨t,⟨aL s.a 1 k s.cap,s.len-k,s.cap-k⟩,rfl,bg.ad ht hc (λq c e=>by subst e;omega),⟨dX m _,p.ad hc λq c=>u q c,by show s.len-k<=s.cap-k;omega,u⟩,(ae.cJ j).trans hc,λq c=>?_⟩⟩;obtain⟨A,ar,d⟩:=tD c;exact⟨A,ar,d⟩
theorem vH{w:J}{r:Nat}{s:Y}{rd:Rd}(h:h_ w r s rd)(k:Nat)(c:1<=k/\k<=2)(hl:rd.1.length<=100000):
 aH ai 272 #[.pointer (some r),k] w (λv w'=>∃b:Y,v=.int .i64 ((rdNum rd k).1:Nat)/\h_ w' r b (rdNum rd k).2/\ae (λq=>q=r) w w'/\(∀q,aB b q->aB s q)):=by
 refine okF (af.s8 (some r) (k:Int)) ay.s8 func272 ?_;(delta af.s8 aW nS au;dsimp only);refine(yY h k I hl).use ?_;rintro _ w1 ⟨t,b,rfl,ht,d,hc,e⟩;have hlen:(gE rd k).1.length=k\/(gE rd k).1=[]:=by
  unfold gE;split
  .exact .inr rfl
  .rename_i g
   left;rw[cC];have:¬rd.1.length<k:=λh=>g (.inr h);omega
 have f:=lI k (gE rd k).1;have i:256^k<=65536:=eC (qF I c.2) (by decide);refine⟨t,rfl,?_⟩;rcases hlen with hlen|hlen
 .refine(jL (a:=0) (k:=k) ht.1 ht.2.1 ⟨c.1,I⟩ I I).use ?_
  rintro _ _ ⟨rfl,rfl⟩;have f:=f hlen;rw[kt,dT I];refine⟨_,_,rfl,b,?_,d,hc,e⟩;rw[bB I I];unfold rdNum;rw[if_pos hlen]
 .refine(Dk (k:=k) ht.1 I (by rw[hlen];simp;omega)).use ?_
  rintro _ _ ⟨rfl,rfl⟩;refine⟨_,_,rfl,b,?_,d,hc,e⟩;unfold rdNum;rw[if_neg (by rw[hlen];simp;omega)];rfl
theorem vI(rd:Rd)(k:Nat):(rdNum rd k).1<256^k:=by
 unfold rdNum;split
 .exact lI k _ (by assumption)
 .exact Nat.pow_pos I
theorem yZ(rd:Rd)(k:Nat):(gE rd k).2.1.length<=rd.1.length/\(gE rd k).1.length<=k:=by
 unfold gE;split
 .exact⟨br _,cI _⟩
 .exact⟨by rw[c5];omega,by rw[cC];omega⟩
theorem tE(rd:Rd)(k:Nat):(rdNum rd k).2.1.length<=rd.1.length:=(yZ rd k).1
theorem y0(rd:Rd):(iz rd).2.1.length<=rd.1.length/\(iz rd).1.length<=255:=by
 unfold iz;have h1:=yZ (rdNum rd 1).2 (rdNum rd 1).1;have a:=tE rd 1;have b:(rdNum rd 1).1<256:=vI rd 1;exact⟨I,I⟩
theorem y1{w:J}{r:Nat}{s:Y}{rd:Rd}(h:h_ w r s rd)(hl:rd.1.length<=100000):
 aH ai 273 #[.pointer (some r)] w (λv w'=>∃t b:Y,v=t/\bg (λq=>w.heap.size<=q) w' t (iz rd).1/\h_ w' r b (iz rd).2/\ae (λq=>q=r) w w'/\(∀q,aB b q->aB s q)):=by
 refine okF (af.s9 (some r)) ay.s9 func273 ?_;(delta af.s9 aA aW;dsimp only);refine(vH h 1 I hl).use ?_;rintro _ w1 ⟨s1,rfl,d,c,e⟩;have j:(rdNum rd 1).1<256:=vI rd 1;have k:=tE rd 1;refine⟨_,rfl,(yY d (rdNum rd 1).1 I I).use ?_⟩;rintro _ ah ⟨t,s2,rfl,ht,f,g,i⟩;exact⟨t,rfl,t,s2,rfl,bg.aU ht λq _ a=>eC c.size a,f,c.trans g,λq a=>e q (i q a)⟩
theorem bn.aU{B C:Nat->Prop}{w:J}{s:Y}{ls:O Key}(h:bn B w s ls)(a:∀k,k<w.heap.size->B k->C k):bn C w s ls:=by
 obtain⟨ts,h1,e,f,b⟩:=h;exact⟨ts,h1,e,In.aU f a,λi c d=>⟨bg.aU (b i c d).1 a,(b i c d).2⟩⟩
theorem cD.aU{B C:Nat->Prop}{w:J}{s:Y}{ds:O Nat}(h:cD B w s ds)(a:∀k,k<w.heap.size->B k->C k):cD C w s ds:=⟨h.1,In.aU h.2 a⟩
def Grow(B:Nat->Prop)(w w':J)(q:Nat):Prop:=B q\/(w.heap.size<=q/\q<w'.heap.size)
theorem tF{w:J}{nb o:Nat}{vs:O aa}{S t:Y}{ls:O Key}{l:Key}{B:Nat->Prop}{T:TypeId}{W:Nat->Prop}(d:Var w nb vs T)(p:o<vs.length)(f:bn B w S ls)(g:¬B nb)
 (ht:bg B w t l) (hd:∀k,aB t k->¬aB S k) (E:ls.length<=100000) {K:J->Prop}
 (r:∀ (w':J) (aM:Y),Var w' nb (vs.set o aM) T->bn (Grow B w w') w' aM (ls++ [l])->ae (λq=>q=nb\/aB S q) w w'->K w'):
 ao (w.alloc (.cells #[t] 48)) λi=>ae W w i/\∃j:Y,∃b:J,Sem.run ai (Builtin.append_ #[127,127] 127 #[S,.slice (some w.heap.size) 1 1]) i=.ok j b/\
  (∃u:aa,b.cell? (Addr.add nb o)=some u)/\b.frozen? (Addr.add nb o)=false/\ao (b.setCell (Addr.add nb o) j) λs=>K s:=by
 have v:=bn.aU (C:=λq=>B q\/w.heap.size<=q) f λk _ h=>.inl h;have x:=bg.aU (C:=λq=>B q\/w.heap.size<=q) ht λk _ h=>.inl h;obtain⟨c,w',av,y,m,F⟩:=yU v x hd I λk a=>.inr a;have G:=d.lt;have z:¬aB S nb:=λh=>by
  obtain⟨ts,_,_,A,_⟩:=f;exact g (A nb h).1
 have n:=d.ad m z;obtain⟨aA,aT⟩:=dR n p;refine aY ⟨ae.cJ (er _ _),c,w',av,?_⟩;rw[ax,cH];have hc:=dx w' nb o c;refine⟨aA,aT,aY (r _ c (dX n _) ?_ ?_)⟩
 .have D:=bn.aU (C:=Grow B w (w'.setCell ⟨nb,o,none⟩ c)) y λk a h=>by
   rcases h with h|h
   .exact .inl h
   .exact .inr ⟨h,fc a hc.size⟩
  refine bn.ad D hc λk a e=>?_;subst e;rcases a with h|h
  .exact g h
  .omega
 .exact(m.mono λk _ h=>.inr h).trans (hc.mono λk _ h=>.inl h)
theorem y2{w:J}{nb o:Nat}{vs:O aa}{S:Y}{ds:O Nat}(d:Nat){B:Nat->Prop}{T:TypeId}{W:Nat->Prop}(f:Var w nb vs T)(p:o<vs.length)(g:cD B w S ds)(i:¬B nb)
 (z:ds.length<=100000) {K:J->Prop}
 (r:∀ (w':J) (aM:Y),Var w' nb (vs.set o aM) T->cD (Grow B w w') w' aM (ds++ [d])->ae (λq=>q=nb\/aB S q) w w'->K w'):
 ao (w.alloc (.cells #[d] 3)) λj=>ae W w j/\∃l:Y,∃b:J,Sem.run ai (Builtin.append_ #[58,58] 58 #[S,.slice (some w.heap.size) 1 1]) j=.ok l b/\
  (∃u:aa,b.cell? (Addr.add nb o)=some u)/\b.frozen? (Addr.add nb o)=false/\ao (b.setCell (Addr.add nb o) l) λs=>K s:=by
 have t:=cD.aU (C:=λq=>B q\/w.heap.size<=q) g λk _ h=>.inl h;obtain⟨c,w',av,v,m,A⟩:=Ds d t I λk a=>.inr a;have D:=f.lt;have x:¬aB S nb:=λh=>i (g.2 nb h).1;have n:=f.ad m x;obtain⟨aA,aT⟩:=dR n p;refine aY ⟨ae.cJ (er _ _),c,w',av,?_⟩;rw[ax,cH];have hc:=dx w' nb o c;refine⟨aA,aT,aY (r _ c (dX n _) ?_ ?_)⟩
 .have y:=cD.aU (C:=Grow B w (w'.setCell ⟨nb,o,none⟩ c)) v λk a h=>by
   rcases h with h|h
   .exact .inl h
   .exact .inr ⟨h,fc a hc.size⟩
  refine cD.ad y hc λk a e=>?_;subst e;rcases a with h|h
  .exact i h
  .omega
 .exact(m.mono λk _ h=>.inr h).trans (hc.mono λk _ h=>.inl h)
structure iS(lo:Nat)(w:J)(r nb:Nat)(s:Y)(m:az×Rd)(K V D:Y)(bI bV bA:Nat->Prop):Prop where
 v:Var w nb [m.1.leaf,K,V,D] 202
 rd:h_ w r s m.2
 keys:bn bI w K m.1.keys
 vals:bn bV w V m.1.vals
 kids:cD bA w D m.1.kids
 bd:∀q,bI q->lo<=q/\q<w.heap.size/\¬bV q/\¬bA q
 bv:∀q,bV q->lo<=q/\q<w.heap.size/\¬bA q
 aI:∀q,bA q->lo<=q/\q<w.heap.size
 hs:∀q,aB s q->q<lo/\q≠nb
 mT:r<lo
 mU:nb<lo
 iT:r≠nb
 mV:m.2.1.length<=100000
def mW(lo r nb:Nat)(q:Nat):Prop:=q=r\/q=nb\/lo<=q
theorem iS.drew{lo:Nat}{w:J}{r nb:Nat}{s:Y}{m:az×Rd}{K V D:Y}{bI bV bA:Nat->Prop}(h:iS lo w r nb s m K V D bI bV bA):iS lo w.drew r nb s m K V D bI bV bA:=
 ⟨h.v.ext (cr w),h.rd.ext (cr w),bn.ext h.keys (cr w),bn.ext h.vals (cr w),cD.ext h.kids (cr w),h.bd,h.bv,h.aI,h.hs,h.mT,h.mU,h.iT,h.mV⟩
theorem y3{leaf:ag}:∀ (s:az×Rd) (i:Nat),s.1.leaf=leaf->(gU s i).1.leaf=leaf
 |_,0,h=>h
 |s,i+1,h=>by
  have a:=y3 s i h
  rw[gU]
  unfold mS
  split
  .exact a
  .exact a
theorem y4:∀ (s:az×Rd) (i:Nat),(gU s i).1.keys.length=s.1.keys.length+i/\(gU s i).1.vals.length<=s.1.vals.length+i/\(gU s i).1.kids.length<=s.1.kids.length+i
 |_,0=>⟨rfl,br _,br _⟩
 |s,i+1=>by
  obtain⟨h1,a,b⟩:=y4 s i
  rw[gU]
  unfold mS
  split<;>simp<;>omega
theorem Dx{lo:Nat}{w:J}{r nb:Nat}{s:Y}{m:az×Rd}{K V D:Y}{bI bV bA:Nat->Prop}(h:iS lo w r nb s m K V D bI bV bA)(ag:lo<=w.heap.size)(H:m.1.keys.length<=100000){R:J->Prop}
 (L:∀ (w':J) (l n:Y) (M:Nat->Prop),iS lo w' r nb n (⟨m.1.leaf,m.1.keys++ [(iz m.2).1],m.1.vals,m.1.kids⟩,(iz m.2).2) l V D M bV bA->ae (mW lo r nb) w w'->lo<=w'.heap.size->R w'):
 ao w.drew λp=>∃x:Nat->Prop,¬x (Addr.add nb 1).block/\∃i:Y,p.cell? (Addr.add nb 1)=some (.slice i.a i.len i.cap)/\
  Calls ai 273 #[.pointer (some r)] p λN d=>∃E:Y,N=.returned E/\ae x p d/\
  ao (d.alloc (.cells #[E] 48)) λF=>ae x d F/\∃G:Y,∃j:J,Sem.run ai (Builtin.append_ #[127,127] 127 #[i,.slice (some d.heap.size) 1 1]) F=.ok G j/\
  (∃u:aa,j.cell? (Addr.add nb 1)=some u)/\j.frozen? (Addr.add nb 1)=false/\ao (j.setCell (Addr.add nb 1) G) λO=>R O:=by
 have hd:=h.drew;have ah:=h.mT;have aj:=h.mU;obtain⟨bS,aA,aT,aG⟩:=bC hd.v;refine aY ⟨λq=>q=r,λe=>h.iT (by rw[ax]at e;exact e.symm),K,aA,(y1 hd.rd hd.mV).use ?_⟩;rintro _ d ⟨t,n,rfl,ht,P,hc,y⟩;have ak:w.drew.heap.size=w.heap.size:=rfl;have Q:=hc.size;have z:∀ {B:Nat->Prop},(∀q,B q->lo<=q)->∀k,B k->¬(k=r):=λS k c e=>by have:=S k c;omega
 have T:=bn.ad hd.keys hc (z λq b=>(h.bd q b).1);have U:=bn.ad hd.vals hc (z λq b=>(h.bv q b).1);have W:=cD.ad hd.kids hc (z λq b=>(h.aI q b).1);have X:=hd.v.ad hc (λe=>h.iT e.symm);refine⟨t,rfl,hc,tF (B:=Grow bI w.drew d) X (o:=1) (by simp) (bn.aU T λk _ h=>.inl h) ?_ (bg.aU ht λk c h=>.inr ⟨h,c⟩) ?_ H λw' l av Z f=>?_⟩
 .rintro(h1|h1)
  .have:=(h.bd nb h1).1;omega
  .omega
 .intro k ab ac
  obtain⟨ts,_,_,A,_⟩:=h.keys;have:=(A k ac).2;have:=(ht.2.2 k ab).1;omega
 have af:∀q,Grow (Grow bI w.drew d) d w' q->bI q\/(w.heap.size<=q/\q<w'.heap.size):=by
  rintro q ((h1|h1)|h1)
  .exact .inl h1
  .exact .inr ⟨h1.1,fc h1.2 f.size⟩
  .exact .inr ⟨eC Q h1.1,h1.2⟩
 have hg:=f.size;have g:∀q,aB K q->bI q:=λq b=>by
  obtain⟨ts,_,_,A,_⟩:=h.keys;exact(A q b).1
 refine L w' l n (λq=>bI q\/(w.heap.size<=q/\q<w'.heap.size)) ⟨by simpa using av,P.ad f ?_ ?_,bn.aU Z λk _ c=>af k c,bn.ad U f ?_,cD.ad W f ?_,?_,λq b=>?_,λq b=>?_,λq b=>h.hs q (y q b),h.mT,h.mU,h.iT,eC (y0 m.2).1 h.mV⟩ ?_ I
 .rintro(h1|h1)
  .exact h.iT h1
  .have:=(h.bd r (g r h1)).1;omega
 .rintro q b (h1|h1)
  .exact(h.hs q (y q b)).2 h1
  .have:=(h.bd q (g q h1)).1
   have:=(h.hs q (y q b)).1;omega
 .rintro q b (h1|h1)
  .have:=(h.bv q b).1;omega
  .exact(h.bd q (g q h1)).2.2.1 b
 .rintro q b (h1|h1)
  .have:=(h.aI q b).1;omega
  .exact(h.bd q (g q h1)).2.2.2 b
 .rintro q (h1|h1)
  .have:=h.bd q h1;exact⟨this.1,I,this.2.2⟩
  .exact⟨I,h1.2,λC=>by have:=h.bv q C;omega,λC=>by have:=h.aI q C;omega⟩
 .have:=h.bv q b;exact⟨this.1,I,this.2.2⟩
 .have:=h.aI q b;exact⟨this.1,I⟩
 .refine((ae.cJ (cr w)).trans (hc.mono λk _ c=>.inl c)).trans (f.mono λk _ c=>?_)
  rcases c with c|c
  .exact .inr (.inl c)
  .exact .inr (.inr (h.bd k (g k c)).1)
theorem Dy{lo:Nat}{w:J}{r nb:Nat}{s:Y}{m:az×Rd}{K V D:Y}{bI bV bA:Nat->Prop}(h:iS lo w r nb s m K V D bI bV bA)(ag:lo<=w.heap.size)(G:m.1.vals.length<=100000){R:J->Prop}
 (H:∀ (w':J) (l n:Y) (L:Nat->Prop),iS lo w' r nb n (⟨m.1.leaf,m.1.keys,m.1.vals++ [(iz m.2).1],m.1.kids⟩,(iz m.2).2) K l D bI L bA->ae (mW lo r nb) w w'->lo<=w'.heap.size->R w'):
 ao w.drew λp=>∃x:Nat->Prop,¬x (Addr.add nb 2).block/\∃i:Y,p.cell? (Addr.add nb 2)=some (.slice i.a i.len i.cap)/\
  Calls ai 273 #[.pointer (some r)] p λM d=>∃C:Y,M=.returned C/\ae x p d/\
  ao (d.alloc (.cells #[C] 48)) λE=>ae x d E/\∃F:Y,∃j:J,Sem.run ai (Builtin.append_ #[127,127] 127 #[i,.slice (some d.heap.size) 1 1]) E=.ok F j/\
  (∃u:aa,j.cell? (Addr.add nb 2)=some u)/\j.frozen? (Addr.add nb 2)=false/\ao (j.setCell (Addr.add nb 2) F) λN=>R N:=by
 have hd:=h.drew;have ah:=h.mT;have aj:=h.mU;obtain⟨bS,aA,aT,aG⟩:=bC hd.v;refine aY ⟨λq=>q=r,λe=>h.iT (by rw[ax]at e;exact e.symm),V,aT,(y1 hd.rd hd.mV).use ?_⟩;rintro _ d ⟨t,n,rfl,ht,O,hc,y⟩;have ak:w.drew.heap.size=w.heap.size:=rfl;have P:=hc.size;have z:∀ {B:Nat->Prop},(∀q,B q->lo<=q)->∀k,B k->¬(k=r):=λQ k c e=>by have:=Q k c;omega
 have S:=bn.ad hd.keys hc (z λq b=>(h.bd q b).1);have T:=bn.ad hd.vals hc (z λq b=>(h.bv q b).1);have U:=cD.ad hd.kids hc (z λq b=>(h.aI q b).1);have W:=hd.v.ad hc (λe=>h.iT e.symm);refine⟨t,rfl,hc,tF (B:=Grow bV w.drew d) W (o:=2) (by simp) (bn.aU T λk _ h=>.inl h) ?_ (bg.aU ht λk c h=>.inr ⟨h,c⟩) ?_ G λw' l av X f=>?_⟩
 .rintro(h1|h1)
  .have:=(h.bv nb h1).1;omega
  .omega
 .intro k Z ab
  obtain⟨ts,_,_,A,_⟩:=h.vals;have:=(A k ab).2;have:=(ht.2.2 k Z).1;omega
 have ac:∀q,Grow (Grow bV w.drew d) d w' q->bV q\/(w.heap.size<=q/\q<w'.heap.size):=by
  rintro q ((h1|h1)|h1)
  .exact .inl h1
  .exact .inr ⟨h1.1,fc h1.2 f.size⟩
  .exact .inr ⟨eC P h1.1,h1.2⟩
 have hg:=f.size;have g:∀q,aB V q->bV q:=λq b=>by
  obtain⟨ts,_,_,A,_⟩:=h.vals;exact(A q b).1
 refine H w' l n (λq=>bV q\/(w.heap.size<=q/\q<w'.heap.size)) ⟨by simpa using av,O.ad f ?_ ?_,bn.ad S f ?_,bn.aU X λk _ c=>ac k c,cD.ad U f ?_,λq b=>?_,?_,λq b=>?_,λq b=>h.hs q (y q b),h.mT,h.mU,h.iT,eC (y0 m.2).1 h.mV⟩ ?_ I
 .rintro(h1|h1)
  .exact h.iT h1
  .have:=(h.bv r (g r h1)).1;omega
 .rintro q b (h1|h1)
  .exact(h.hs q (y q b)).2 h1
  .have:=(h.bv q (g q h1)).1
   have:=(h.hs q (y q b)).1;omega
 .rintro q b (h1|h1)
  .have:=(h.bd q b).1;omega
  .exact(h.bd q b).2.2.1 (g q h1)
 .rintro q b (h1|h1)
  .have:=(h.aI q b).1;omega
  .exact(h.bv q (g q h1)).2.2 b
 .have:=h.bd q b
  refine⟨this.1,I,?_,this.2.2.2⟩;rintro(h1|h1)
  .exact this.2.2.1 h1
  .omega
 .rintro q (h1|h1)
  .have:=h.bv q h1;exact⟨this.1,I,this.2.2⟩
  .exact⟨I,h1.2,λaf=>by have:=h.aI q af;omega⟩
 .have:=h.aI q b;exact⟨this.1,I⟩
 .refine((ae.cJ (cr w)).trans (hc.mono λk _ c=>.inl c)).trans (f.mono λk _ c=>?_)
  rcases c with c|c
  .exact .inr (.inl c)
  .exact .inr (.inr (h.bv k (g k c)).1)
theorem y5{lo:Nat}{w:J}{r nb:Nat}{s:Y}{m:az×Rd}{K V D:Y}{bI bV bA:Nat->Prop}(h:iS lo w r nb s m K V D bI bV bA)(U:lo<=w.heap.size)(A:m.1.kids.length<=100000){R:J->Prop}
 (C:∀ (w':J) (aw l:Y) (E:Nat->Prop),iS lo w' r nb l (⟨m.1.leaf,m.1.keys,m.1.vals,m.1.kids++ [(rdNum m.2 2).1]⟩,(rdNum m.2 2).2) K V aw bI bV E->ae (mW lo r nb) w w'->lo<=w'.heap.size->R w'):
 ao w.drew λn=>∃p:Nat->Prop,¬p (Addr.add nb 3).block/\∃i:Y,n.cell? (Addr.add nb 3)=some (.slice i.a i.len i.cap)/\
  Calls ai 272 #[.pointer (some r),(2:Int)] n λF d=>∃n30:Int,F=.returned n30/\ae p n d/\
  ao (d.alloc (.cells #[n30] 3)) λy=>ae p d y/\∃z:Y,∃j:J,Sem.run ai (Builtin.append_ #[58,58] 58 #[i,.slice (some d.heap.size) 1 1]) y=.ok z j/\
  (∃u:aa,j.cell? (Addr.add nb 3)=some u)/\j.frozen? (Addr.add nb 3)=false/\ao (j.setCell (Addr.add nb 3) z) λG=>R G:=by
 have hd:=h.drew;have W:=h.mT;have X:=h.mU;obtain⟨bS,aA,aT,aG⟩:=bC hd.v;refine aY ⟨λq=>q=r,λe=>h.iT (by rw[ax]at e;exact e.symm),D,aG,(vH hd.rd 2 (by decide) hd.mV).use ?_⟩;rintro _ d ⟨l,rfl,H,hc,t⟩;have Z:w.drew.heap.size=w.heap.size:=rfl;have L:=hc.size;have x:∀ {B:Nat->Prop},(∀q,B q->lo<=q)->∀k,B k->¬(k=r):=λM k c e=>by have:=M k c;omega
 have N:=bn.ad hd.keys hc (x λq b=>(h.bd q b).1);have O:=bn.ad hd.vals hc (x λq b=>(h.bv q b).1);have P:=cD.ad hd.kids hc (x λq b=>(h.aI q b).1);have Q:=hd.v.ad hc (λe=>h.iT e.symm);refine⟨_,rfl,hc,y2 (rdNum m.2 2).1 (B:=bA) Q (o:=3) (by simp) P (λh1=>by have:=(h.aI nb h1).1;omega) A λw' aw av S f=>?_⟩;have T:∀q,Grow bA d w' q->bA q\/(w.heap.size<=q/\q<w'.heap.size):=by
  rintro q (h1|h1)
  .exact .inl h1
  .exact .inr ⟨eC L h1.1,h1.2⟩
 have hg:=f.size;have g:∀q,aB D q->bA q:=λq b=>(h.kids.2 q b).1;refine C w' aw l (λq=>bA q\/(w.heap.size<=q/\q<w'.heap.size)) ⟨by simpa using av,H.ad f ?_ ?_,bn.ad N f ?_,bn.ad O f ?_,cD.aU S λk _ c=>T k c,λq b=>?_,λq b=>?_,?_,λq b=>h.hs q (t q b),h.mT,h.mU,h.iT,eC (tE m.2 2) h.mV⟩ ?_ I
 .rintro(h1|h1)
  .exact h.iT h1
  .have:=(h.aI r (g r h1)).1;omega
 .rintro q b (h1|h1)
  .exact(h.hs q (t q b)).2 h1
  .have:=(h.aI q (g q h1)).1
   have:=(h.hs q (t q b)).1;omega
 .rintro q b (h1|h1)
  .have:=(h.bd q b).1;omega
  .exact(h.bd q b).2.2.2 (g q h1)
 .rintro q b (h1|h1)
  .have:=(h.bv q b).1;omega
  .exact(h.bv q b).2.2 (g q h1)
 .have:=h.bd q b
  refine⟨this.1,I,this.2.2.1,?_⟩;rintro(h1|h1)
  .exact this.2.2.2 h1
  .omega
 .have:=h.bv q b
  refine⟨this.1,I,?_⟩;rintro(h1|h1)
  .exact this.2.2 h1
  .omega
 .rintro q (h1|h1)
  .have:=h.aI q h1;exact⟨this.1,I⟩
  .exact⟨I,h1.2⟩
 .refine((ae.cJ (cr w)).trans (hc.mono λk _ c=>.inl c)).trans (f.mono λk _ c=>?_)
  rcases c with c|c
  .exact .inr (.inl c)
  .exact .inr (.inr (h.aI k (g k c)).1)
end Go.Proofs.YtkdhdlfonmgheaaGreat
