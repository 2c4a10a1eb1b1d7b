/- Contracts of the functions that the statement reaches, and the plain laws over them; each theorem stands with its conditions. -/
import Derived.Laws.Externs
import Derived.Laws.Small
import Derived.Lib.Builder
import Derived.Lib.Bytealg
import Derived.Lib.ConvBytes
import Derived.Lib.MakeNoZero
import Derived.Lib.SlBytesConst
import Derived.Lib.UnsafeStr
import Derived.Test.YtplieiecebljmaaGreatVElder2
namespace Go.Proofs.YtplieiecebljmaaGreat
abbrev Key:=List UInt8
abbrev bf:=Key×Key
def iI:Key→Key→Int
 | [],[]=>0
 | [],_::_=> -1
 |_::_,[]=>1
 |a::x,b::y=>if a.toNat<b.toNat then -1 else if b.toNat<a.toNat then 1 else iI x y
theorem agp {a b:UInt8} (U:¬a.toNat<b.toNat) (ad:¬b.toNat<a.toNat):a=b:=UInt8.toNat_inj.1 (by omega)
theorem QO:∀a:Key,iI a a=0
 | []=>rfl
 |a::x=>by simp[iI,QO x]
theorem QP:∀ {a b:Key},iI a b=0→a=b
 | [],[],_=>rfl
 | [],_::_,h=>by simp[iI] at h
 |_::_,[],h=>by simp[iI] at h
 |a::x,b::y,h=>by
   unfold iI at h
   split at h
   · cases h
   · rename_i U
     split at h
     · cases h
     · rename_i ad
       rw[agp U ad,QP h]
theorem agq {a b:Key}:iI a b=0↔a=b:=⟨QP,fun h=>h▸QO _⟩
theorem WU:∀a b:Key,iI a b= -1∨iI a b=0∨iI a b=1
 | [],[]=> .inr (.inl rfl)
 | [],_::_=> .inl rfl
 |_::_,[]=> .inr (.inr rfl)
 |a::x,b::y=>by
   unfold iI
   split
   · exact .inl rfl
   · split
     · exact .inr (.inr rfl)
     · exact WU x y
theorem WV:∀a b:Key,iI b a=-iI a b
 | [],[]=>rfl
 | [],_::_=>rfl
 |_::_,[]=>rfl
 |a::x,b::y=>by
   unfold iI
   by_cases U:a.toNat<b.toNat
   · have ad:¬b.toNat<a.toNat:=by omega
     simp[U,ad]
   · by_cases ad:b.toNat<a.toNat
     · simp[U,ad]
     · simp only[U,ad,if_false]
       exact WV x y
theorem WW:∀ {a b c:Key},iI a b<0→iI b c<0→iI a c<0
 | [],[],_,h,_=>by simp[iI] at h
 | [],_::_,[],_,h=>by simp[iI] at h
 | [],_::_,_::_,_,_=>by simp[iI]
 |_::_,[],_,h,_=>by simp[iI] at h
 |_::_,_::_,[],_,h=>by simp[iI] at h
 |a::x,b::y,c::z,U,ad=>by
   unfold iI at U ad⊢
   by_cases bj:a.toNat<b.toNat
   · by_cases cL:b.toNat<c.toNat
     · rw[if_pos (by omega)];decide
     · rw[if_neg cL] at ad
       by_cases e6:c.toNat<b.toNat
       · rw[if_pos e6] at ad;omega
       · rw[if_pos (by omega)];decide
   · rw[if_neg bj] at U
     by_cases cL:b.toNat<a.toNat
     · rw[if_pos cL] at U;omega
     · rw[if_neg cL] at U
       by_cases e6:b.toNat<c.toNat
       · rw[if_pos (by omega)];decide
       · rw[if_neg e6] at ad
         by_cases dQ:c.toNat<b.toNat
         · rw[if_pos dQ] at ad;omega
         · rw[if_neg dQ] at ad
           rw[if_neg (by omega),if_neg (by omega)]
           exact WW U ad
def ck (a b:Key):Prop:=iI a b<0
def ic (a b:Key):Prop:=¬iI b a<0
instance (a b:Key):Decidable (ck a b):=by unfold ck;infer_instance
instance (a b:Key):Decidable (ic a b):=by unfold ic;infer_instance
theorem x1 {a b c:Key} (U:ck a b) (ad:ck b c):ck a c:=WW U ad
theorem zM (a:Key):¬ck a a:=by unfold ck;rw[QO];decide
theorem zN {a b:Key} (h:ck a b):¬ck b a:=fun ad=>zM a (x1 h ad)
theorem QQ (a b:Key):ck a b∨a=b∨ck b a:=by
 unfold ck
 have h:=WV a b
 rcases WU a b with U|U|U
 · exact .inl (by omega)
 · exact .inr (.inl (QP U))
 · exact .inr (.inr (by omega))
theorem El {a b:Key}:ic a b↔ck a b∨a=b:=by
 constructor
 · intro h
   rcases QQ a b with U|U|U
   · exact .inl U
   · exact .inr U
   · exact absurd U h
 · rintro (h|rfl)
   · exact zN h
   · exact zM _
theorem WX (a:Key):ic a a:=zM a
theorem qu {a b:Key} (h:ck a b):ic a b:=El.2 (.inl h)
theorem WY {a b:Key}:¬ck a b↔ic b a:=Iff.rfl
theorem BU {a b c:Key} (U:ck a b) (ad:ic b c):ck a c:=by
 rcases El.1 ad with h|rfl
 · exact x1 U h
 · exact U
theorem tG {a b c:Key} (U:ic a b) (ad:ck b c):ck a c:=by
 rcases El.1 U with h|rfl
 · exact x1 h ad
 · exact ad
theorem WZ {a b c:Key} (U:ic a b) (ad:ic b c):ic a c:=by
 rcases El.1 U with h|rfl
 · exact qu (BU h ad)
 · exact ad
def n4 (l:List bf):Prop:=l.Pairwise fun a b=>ck a.1 b.1
def jY (l:List bf) (k v:Key):List bf:=(l.filter fun p=>decide (ck p.1 k))++(k,v)::l.filter fun p=>decide (ck k p.1)
def jH (l:List bf) (k:Key):List bf:=l.filter fun p=>decide (p.1≠k)
def jZ (l:List bf) (k:Key):Option Key:=(l.find? fun p=>decide (p.1=k)).map (·.2)
def jI (l:List bf) (fr to:Key):List bf:=l.filter fun p=>decide (ic fr p.1)&&(to.isEmpty||decide (ck p.1 to))
def kY (lo hi:Option Key) (k:Key):Prop:=(∀a,lo=some a→ic a k)∧(∀b,hi=some b→ck k b)
theorem agr {a b:List bf} {k v:Key} (h:∀p∈b,ck k p.1):jY (a++b) k v=jY a k v++b:=by
 have aY:b.filter (fun p=>decide (ck p.1 k))=[]:=D_.2 fun p aT=>by simpa using zN (h p aT)
 have bm:b.filter (fun p=>decide (ck k p.1))=b:=uH.2 fun p aT=>il (h p aT)
 unfold jY
 rw[BN,BN,aY,bm,l2,er,Ea]
theorem W0 {a b:List bf} {k v:Key} (h:∀p∈a,ck p.1 k):jY (a++b) k v=a++jY b k v:=by
 have aY:a.filter (fun p=>decide (ck p.1 k))=a:=uH.2 fun p aT=>il (h p aT)
 have bm:a.filter (fun p=>decide (ck k p.1))=[]:=D_.2 fun p aT=>by simpa using zN (h p aT)
 unfold jY
 rw[BN,BN,aY,bm,rZ,er]
theorem Gx (a b:List bf) (k:Key):jH (a++b) k=jH a k++jH b k:=BN ..
theorem Em {a:List bf} {k:Key} (h:∀p∈a,p.1≠k):jH a k=a:=uH.2 fun p aT=>il (h p aT)
theorem uN {a b:Key} (h:ck a b):a≠b:=fun e=>zM b (e▸h)
theorem Gy {a b:List bf}:n4 (a++b)↔n4 a∧n4 b∧∀p∈a,∀q∈b,ck p.1 q.1:=Eb
theorem W1 {l:List bf} {k v:Key} {p:bf}:p∈jY l k v↔p=(k,v)∨(p∈l∧p.1≠k):=by
 unfold jY
 rw[fe,gp,Gi,Gi,fI,fI]
 constructor
 · rintro (⟨h,ad⟩|rfl|⟨h,ad⟩)
   · exact .inr ⟨h,uN ad⟩
   · exact .inl rfl
   · exact .inr ⟨h,(uN ad).symm⟩
 · rintro (rfl|⟨h,ad⟩)
   · exact .inr (.inl rfl)
   · rcases QQ p.1 k with ar|ar|ar
     · exact .inl ⟨h,ar⟩
     · exact absurd ar ad
     · exact .inr (.inr ⟨h,ar⟩)
end Go.Proofs.YtplieiecebljmaaGreat
namespace Go.Proofs.YtplieiecebljmaaGreat
structure aL where
 leaf:Bool
 keys:List Key
 vals:List Key
 kids:List Nat
 deriving DecidableEq
abbrev Below:=Option Key→Option Key→Nat→List Nat→List bf→Prop
inductive gG (W:Below):Option Key→Option Key→List Key→List Nat→List Nat→List bf→Prop
 |one {lo hi:Option Key} {k:Nat} {p:List Nat} {L:List bf} (h:W lo hi k p L):gG W lo hi [] [k] p L
 |cons {lo hi:Option Key} {s:Key} {k:Nat} {cl cr:List Nat} {bT b_:List bf} {ks:List Key} {kids:List Nat} (h:W lo (some s) k cl bT) (t:gG W (some s) hi ks kids cr b_):
     gG W lo hi (s::ks) (k::kids) (cl++cr) (bT++b_)
variable {W:Below} {lo hi:Option Key}
theorem gG.len {ks:List Key} {kids p:List Nat} {L:List bf} (h:gG W lo hi ks kids p L):kids.length=ks.length+1:=by
 induction h with
 |one _=>rfl
 |cons _ _ dw=>simp[dw]
theorem gG.app {s:Key} {qv uO:List Key} {ri x2 cl cr:List Nat} {bT b_:List bf} (U:gG W lo (some s) qv ri cl bT) (ad:gG W (some s) hi uO x2 cr b_):
   gG W lo hi (qv++s::uO) (ri++x2) (cl++cr) (bT++b_):=by
 generalize hm:some s=m at U
 induction U with
 |one h=>subst hm;exact .cons h ad
 |cons h t dw=>
   rw[er,er]
   exact .cons h (dw hm)
theorem gG.cut:∀ {qv:List Key} {s:Key} {uO:List Key} {lo:Option Key} {kids p:List Nat} {L:List bf},gG W lo hi (qv++s::uO) kids p L→
   ∃ (ri x2 cl cr:List Nat) (bT b_:List bf),kids=ri++x2∧p=cl++cr∧L=bT++b_∧gG W lo (some s) qv ri cl bT∧gG W (some s) hi uO x2 cr b_
 | [],s,uO,lo,kids,p,L,h=>by
   cases h with
   |cons h t=>exact ⟨_,_,_,_,_,_,rfl,rfl,rfl, .one h,t⟩
 |a::qv,s,uO,lo,kids,p,L,h=>by
   cases h with
   |cons h t=>
     obtain ⟨dR,e0,cl,cr,bT,b_,rfl,rfl,rfl,U,ad⟩:=gG.cut t
     exact ⟨_::dR,e0,_++cl,cr,_++bT,b_,rfl,by rw[er],by rw[er], .cons h U,ad⟩
theorem gG.mono {V:Below} {ks:List Key} {kids p:List Nat} {L:List bf} (h:gG W lo hi ks kids p L) (hm:∀lo hi k p L,(∀x∈p,x∈p)→W lo hi k p L→V lo hi k p L):gG V lo hi ks kids p L:=by
 induction h with
 |one h=>exact .one (hm _ _ _ _ _ (fun _ h=>h) h)
 |cons h _ dw=>exact .cons (hm _ _ _ _ _ (fun _ h=>h) h) dw
theorem gG.x3 {V:Below} {ks:List Key} {kids p:List Nat} {L:List bf} (h:gG W lo hi ks kids p L) (hm:∀lo hi k fi L,(∀x∈fi,x∈p)→W lo hi k fi L→V lo hi k fi L):gG V lo hi ks kids p L:=by
 induction h with
 |one h=>exact .one (hm _ _ _ _ _ (fun _ h=>h) h)
 |cons h _ dw=>
   exact .cons (hm _ _ _ _ _ (fun x af=>uI _ af) h) (dw fun lo hi k fi L aj=>hm lo hi k fi L fun x af=>qp _ (aj x af))
def ew (k:Key):Prop:=1≤k.length∧k.length≤24
structure MQ (n:aL):Prop where
 ok:∀k∈n.keys,ew k
 j0:n.keys.Pairwise ck
structure oC (n:aL):Prop extends MQ n where
 leaf:n.leaf=true
 len:n.vals.length=n.keys.length
 kids:n.kids=[]
 vals:∀v∈n.vals,v.length≤24
structure QR (n:aL):Prop extends MQ n where
 inner:n.leaf=false
 some:n.keys≠ []
 len:n.kids.length=n.keys.length+1
 vals:n.vals=[]
 kids:∀k∈n.kids,k<1600
def aL.gH (n:aL):List bf:=n.keys.zip n.vals
def aL.within (n:aL) (lo hi:Option Key):Prop:=∀k∈n.keys,kY lo hi k
def jf (P:Nat→Option aL):Nat→Below
 |0=>fun _ _ _ _ _=>False
 |1=>fun lo hi no p L=>∃n,P no=some n∧oC n∧n.within lo hi∧n.keys≠ []∧p=[no]∧L=n.gH
 |h+2=>fun lo hi no p L=>∃n fi,P no=some n∧QR n∧n.within lo hi∧p=no::fi∧
     gG (fun lo hi k p L=>jf P (h+1) lo hi k p L∧∃m,P k=some m∧2≤m.keys.length) lo hi n.keys n.kids fi L
theorem jf.pt {P Q:Nat→Option aL}:∀ {h:Nat} {lo hi:Option Key} {no:Nat} {p:List Nat} {L:List bf},jf P h lo hi no p L→(∀x∈p,P x=Q x)→jf Q h lo hi no p L∧no∈p
 |0,_,_,_,_,_,hw,_=>hw.elim
 |1,_,_,no,_,_,⟨n,U,ad,ar,aI,aW,b5⟩,J=>by
   have hm:no∈ [no]:=by simp
   rw[aW]
   exact ⟨⟨n,by rw[←J no (by rw[aW];exact hm)];exact U,ad,ar,aI,rfl,b5⟩,hm⟩
 |h+2,_,_,no,_,_,⟨n,fi,U,ad,ar,aI,aW⟩,J=>by
   subst aI
   refine ⟨⟨n,fi,by rw[←J no (by simp)];exact U,ad,ar,rfl,aW.x3 fun lo hi k q L aj ⟨hw,m,hm,ad⟩=> ?_⟩,by simp⟩
   have:=jf.pt hw fun x af=>J x (v5 _ (aj x af))
   exact ⟨this.1,m,by rw[←J k (v5 _ (aj k this.2))];exact hm,ad⟩
end Go.Proofs.YtplieiecebljmaaGreat
namespace Go.Proofs.YtplieiecebljmaaGreat
variable {W:Below} {lo hi:Option Key} {P:Nat→Option aL}
theorem ags {lo hi:Option Key} {s k:Key} (U:kY lo (some s) k) (ad:kY lo hi s):kY lo hi k:=
 ⟨U.1,fun b ab=>x1 (U.2 s rfl) (ad.2 b ab)⟩
theorem agt {lo hi:Option Key} {s k:Key} (U:kY (some s) hi k) (ad:kY lo hi s):kY lo hi k:=
 ⟨fun a aS=>WZ (ad.1 a aS) (U.1 s rfl),U.2⟩
theorem gG.j0 {ks:List Key} {kids p:List Nat} {L:List bf} (h:gG W lo hi ks kids p L) (dK:∀lo hi k p L,W lo hi k p L→n4 L∧∀q∈L,kY lo hi q.1) (ae:ks.Pairwise ck) (ab:∀s∈ks,kY lo hi s):
   n4 L∧∀q∈L,kY lo hi q.1:=by
 induction h with
 |one h=>exact dK _ _ _ _ _ h
 | @cons lo hi s k cl cr bT b_ ks kids h t dw=>
   obtain ⟨aq,cX⟩:=dK _ _ _ _ _ h
   have tH:=tB.1 ae
   obtain ⟨bA,cy⟩:=dw tH.2 fun x af=>⟨fun a aS=>by cases aS;exact qu (tH.1 x af),(ab x (v5 _ af)).2⟩
   have aj:=ab s List.mem_cons_self
   refine ⟨Gy.2 ⟨aq,bA,fun x af y b2=>BU ((cX x af).2 s rfl) ((cy y b2).1 s rfl)⟩,fun q J=> ?_⟩
   rcases fe.1 J with J|J
   · exact ags (cX q J) aj
   · exact agt (cy q J) aj
theorem W2:∀ {ks vs:List Key},ks.Pairwise ck→n4 (ks.zip vs)
 | [],vs,_=>by rw[List.zip_nil_left];exact List.Pairwise.nil
 |k::ks,[],_=>by rw[List.zip_nil_right];exact List.Pairwise.nil
 |k::ks,v::vs,h=>by
   rw[List.zip_cons_cons]
   have:=tB.1 h
   exact tB.2 ⟨fun q J=>this.1 _ (I6 J).1,W2 this.2⟩
theorem oC.gH {n:aL} (h:oC n):n4 n.gH∧n.gH.length=n.keys.length:=⟨W2 h.j0,by unfold aL.gH;rw[Ec,h.len,Nat.min_self]⟩
theorem jf.j0:∀ {h:Nat} {lo hi:Option Key} {no:Nat} {p:List Nat} {L:List bf},jf P h lo hi no p L→n4 L∧∀q∈L,kY lo hi q.1
 |0,_,_,_,_,_,hw=>hw.elim
 |1,_,_,_,_,_,⟨n,_,ad,ar,_,_,b5⟩=>by
   subst b5
   exact ⟨ad.gH.1,fun q J=>ar _ (I6 J).1⟩
 |h+2,_,_,_,_,_,⟨n,_,_,ad,ar,_,aW⟩=>aW.j0 (fun _ _ _ _ _ hw=>jf.j0 hw.1) ad.j0 ar
theorem gG.count {ks:List Key} {kids p:List Nat} {L:List bf} (h:gG W lo hi ks kids p L) {c:Nat} (dK:∀lo hi k p L,W lo hi k p L→p.length+1≤L.length∧c≤L.length):
   p.length+kids.length≤L.length∧c*kids.length≤L.length:=by
 induction h with
 |one h=>have:=dK _ _ _ _ _ h;simp;omega
 |cons h _ dw=>
   have:=dK _ _ _ _ _ h
   simp only[eu,oB,Nat.mul_add,ml]
   omega
theorem jf.count:∀ {h:Nat} {lo hi:Option Key} {no:Nat} {p:List Nat} {L:List bf},jf P h lo hi no p L→((∃m,P no=some m∧2≤m.keys.length)∨2≤h)→p.length+1≤L.length∧2^h≤L.length
 |0,_,_,_,_,_,hw,_=>hw.elim
 |1,_,_,_,_,_,⟨n,U,ad,_,_,aW,b5⟩,hm=>by
   rcases hm with ⟨m,e,hm⟩|hm
   · rw[U] at e
     cases e
     subst aW b5
     have:=ad.gH.2
     simp only[rh];omega
   · omega
 |h+2,_,_,_,_,_,⟨n,fi,_,ad,_,aI,aW⟩,_=>by
   have al:=aW.count (c:=2^(h+1)) fun lo hi k p L ⟨hw,hm⟩=>jf.count hw (.inl hm)
   have az:=ad.len
   have aj:1≤n.keys.length:=List.length_pos_iff.2 ad.some
   subst aI
   have:2^(h+1)*2≤2^(h+1)*n.kids.length:=Nat.mul_le_mul_left _ (by omega)
   rw[Nat.pow_succ 2 (h+1)]
   simp only[oB]
   omega
theorem jf.pages {h:Nat} {lo hi:Option Key} {no:Nat} {p:List Nat} {L:List bf} (hw:jf P h lo hi no p L):p.length≤L.length∧1≤L.length∧(2≤h→2^h≤L.length):=by
 match h with
 |0=>exact hw.elim
 |1=>
   obtain ⟨n,U,ad,_,aI,aW,b5⟩:=hw
   subst aW b5
   have:=ad.gH.2
   have im:=List.length_pos_iff.2 aI
   simp only[rh]
   exact ⟨by omega,by omega,by omega⟩
 |h+2=>
   have:=jf.count hw (.inr (by omega))
   exact ⟨by omega,by omega,fun _=>this.2⟩
end Go.Proofs.YtplieiecebljmaaGreat
namespace Go.Proofs.YtplieiecebljmaaGreat
variable {W V:Below} {lo hi:Option Key}
inductive kL (W:Below) (lo:Option Key):Option Key→List Key→List Nat→List Nat→List bf→Prop
 |nil:kL W lo lo [] [] [] []
 |more {s:Key} {ks:List Key} {kids p:List Nat} {L:List bf} (h:gG W lo (some s) ks kids p L):kL W lo (some s) (ks++ [s]) kids p L
inductive nc (W:Below) (hi:Option Key):Option Key→List Key→List Nat→List Nat→List bf→Prop
 |nil:nc W hi hi [] [] [] []
 |more {s:Key} {ks:List Key} {kids p:List Nat} {L:List bf} (h:gG W (some s) hi ks kids p L):nc W hi (some s) (s::ks) kids p L
variable {m:Option Key} {qv uO:List Key} {ri x2 cl cr:List Nat} {bT b_:List bf}
theorem kL.agu (U:kL W lo m qv ri cl bT) (ad:gG W m hi uO x2 cr b_):gG W lo hi (qv++uO) (ri++x2) (cl++cr) (bT++b_):=by
 cases U with
 |nil=>exact ad
 |more h=>rw[er];exact h.app ad
theorem gG.post (U:gG W lo m qv ri cl bT) (ad:nc W hi m uO x2 cr b_):gG W lo hi (qv++uO) (ri++x2) (cl++cr) (bT++b_):=by
 cases ad with
 |nil=>simpa using U
 |more h=>exact U.app h
theorem kL.cons {s:Key} {k:Nat} {p:List Nat} {L:List bf} (h:W lo (some s) k p L) (t:kL W (some s) m qv ri cl bT):kL W lo m (s::qv) (k::ri) (p++cl) (L++bT):=by
 cases t with
 |nil=>rw[l2,l2];exact kL.more (ks:=[]) (.one h)
 |more t=>exact kL.more (ks:=s::_) (.cons h t)
theorem kL.x3 (h:kL W lo m qv ri cl bT) (hm:∀lo hi k fi L,(∀x∈fi,x∈cl)→W lo hi k fi L→V lo hi k fi L):kL V lo m qv ri cl bT:=by
 cases h with
 |nil=>exact .nil
 |more h=>exact .more (h.x3 hm)
theorem nc.x3 (h:nc W hi m qv ri cl bT) (hm:∀lo hi k fi L,(∀x∈fi,x∈cl)→W lo hi k fi L→V lo hi k fi L):nc V hi m qv ri cl bT:=by
 cases h with
 |nil=>exact .nil
 |more h=>exact .more (h.x3 hm)
theorem gG.at {ks:List Key} {kids p:List Nat} {L:List bf} (h:gG W lo hi ks kids p L):∀ (i:Nat) (ae:i<kids.length),∃ (gY fa:Option Key) (cl q cr:List Nat) (bT M b_:List bf),
   p=cl++(q++cr)∧L=bT++(M++b_)∧W gY fa kids[i] q M∧kL W lo gY (ks.take i) (kids.take i) cl bT∧nc W hi fa (ks.drop i) (kids.drop (i+1)) cr b_:=by
 induction h with
 | @one lo hi k p L h=>
   intro i ae
   have:i=0:=by simp at ae;omega
   subst this
   exact ⟨lo,hi,[],p,[],[],L,[],by simp,by simp,h, .nil, .nil⟩
 | @cons lo hi s k cl cr bT b_ ks kids h t dw=>
   intro i ae
   cases i with
   |zero=>exact ⟨lo,some s,[],cl,cr,[],bT,b_,rfl,rfl,h, .nil, .more t⟩
   |succ i=>
     obtain ⟨gY,fa,a,q,b,A,M,B,rfl,rfl,U,ad,ar⟩:=dw i (by simpa using ae)
     exact ⟨gY,fa,cl++a,q,b,bT++A,M,B,by rw[er],by rw[er],U,kL.cons h ad,ar⟩
theorem kL.inv {kids p:List Nat} {L:List bf} (h:kL W lo m [] kids p L):m=lo∧kids=[]∧p=[]∧L=[]:=by
 generalize e:([]:List Key)=K at h
 cases h with
 |nil=>exact ⟨rfl,rfl,rfl,rfl⟩
 |more h=>simp at e
theorem nc.head {ks:List Key} {kids p:List Nat} {L:List bf} (h:nc W hi m ks kids p L) (ae:0<kids.length):∃ (s:Key) (fa:Option Key) (q cr:List Nat) (M b_:List bf) (aj:0<ks.length),
   m=some s∧s=ks[0]∧p=q++cr∧L=M++b_∧W (some s) fa (kids[0]) q M∧nc W hi fa (ks.drop 1) (kids.drop 1) cr b_:=by
 cases h with
 |nil=>simp at ae
 | @more s ks kids p L h=>
   obtain ⟨gY,fa,cl,q,cr,bT,M,b_,rfl,rfl,U,ad,ar⟩:=h.at 0 ae
   rw[List.take_zero] at ad
   obtain ⟨rfl,_,rfl,rfl⟩:=ad.inv
   exact ⟨s,fa,q,cr,M,b_,by simp,rfl,rfl,rfl,rfl,U,by simpa using ar⟩
end Go.Proofs.YtplieiecebljmaaGreat
namespace Go.Proofs.YtplieiecebljmaaGreat
variable {W V:Below} {lo hi m:Option Key}
def fJ (ks:List Key) (k:Key):Nat:=ks.findIdx fun s=>decide (ck k s)
theorem MR (ks:List Key) (k:Key):fJ ks k≤ks.length:=List.findIdx_le_length
theorem agv {ks:List Key} {k:Key} {i:Nat} (h:i<fJ ks k) (hi:i<ks.length):ic ks[i] k:=by
 have:=List.not_of_lt_findIdx h
 exact WY.1 (by simpa using this)
theorem agw {ks:List Key} {k:Key} (h:fJ ks k<ks.length):ck k ks[fJ ks k]:=by
 have:=List.findIdx_getElem (p:=fun s=>decide (ck k s)) (xs:=ks) (w:=h)
 exact dU this
theorem kL.agx {i:Nat} {ks:List Key} {kids p:List Nat} {L:List bf} (h:kL W lo m (ks.take i) kids p L) {k:Key} (az:∀ (j:Nat) (a6:j<ks.length),j<i→ic ks[j] k) (ae:∀a,lo=some a→ic a k):∀a,m=some a→ic a k:=by
 generalize e:ks.take i=K at h
 cases h with
 |nil=>exact ae
 | @more s QS kids p L h=>
   intro a aS
   cases aS
   have hm:s∈ks.take i:=by rw[e];simp
   obtain ⟨j,a6,rfl⟩:=List.mem_take_iff_getElem.1 hm
   exact az j (by omega) (by omega)
theorem nc.agy {i:Nat} {ks:List Key} {kids p:List Nat} {L:List bf} (h:nc W hi m (ks.drop i) kids p L) {k:Key} (az:∀ (h:i<ks.length),ck k ks[i]) (ae:∀a,hi=some a→ck k a):∀a,m=some a→ck k a:=by
 generalize e:ks.drop i=K at h
 cases h with
 |nil=>exact ae
 | @more s QS kids p L h=>
   intro a aS
   cases aS
   have a9:i<ks.length:=by
     have:=congrArg List.length e
     simp at this;omega
   have:ks[i]=s:=by
     have:=uJ a9
     rw[e] at this
     exact (List.cons.inj this).1.symm
   rw[←this];exact az a9
theorem kL.below {ks:List Key} {kids p:List Nat} {L:List bf} (h:kL W lo m ks kids p L) (dK:∀lo hi k p L,W lo hi k p L→n4 L∧∀q∈L,kY lo hi q.1) (ae:ks.Pairwise ck) (ab:∀s∈ks,kY lo hi s)
   {k:Key} (hm:∀a,m=some a→ic a k):∀q∈L,ck q.1 k:=by
 cases h with
 |nil=>intro q J;cases J
 | @more s QS kids p L h=>
   have jJ:=Eb.1 ae
   have:=h.j0 dK jJ.1 fun x af=>⟨(ab x (by simp[af])).1,fun b ab=>by cases ab;exact jJ.2.2 x af s (by simp)⟩
   exact fun q J=>BU ((this.2 q J).2 s rfl) (hm s rfl)
theorem nc.agz {ks:List Key} {kids p:List Nat} {L:List bf} (h:nc W hi m ks kids p L) (dK:∀lo hi k p L,W lo hi k p L→n4 L∧∀q∈L,kY lo hi q.1) (ae:ks.Pairwise ck) (ab:∀s∈ks,kY lo hi s)
   {k:Key} (hm:∀a,m=some a→ck k a):∀q∈L,ck k q.1:=by
 cases h with
 |nil=>intro q J;cases J
 | @more s QS kids p L h=>
   have jJ:=tB.1 ae
   have:=h.j0 dK jJ.2 fun x af=>⟨fun a aS=>by cases aS;exact qu (jJ.1 x af),(ab x (by simp[af])).2⟩
   exact fun q J=>BU (hm s rfl) ((this.2 q J).1 s rfl)
def Loc (k:Key) (u:List bf→List bf):Prop:=∀bT M b_:List bf,(∀p∈bT,ck p.1 k)→(∀p∈b_,ck k p.1)→u (bT++(M++b_))=bT++(u M++b_)
theorem agA (k v:Key):Loc k fun L=>jY L k v:=fun bT M b_ U ad=>by
 show jY _ _ _=_
 rw[W0 U,agr ad]
theorem QT (k:Key):Loc k fun L=>jH L k:=fun bT M b_ U ad=>by
 show jH _ _=_
 rw[Gx,Gx,Em fun p aT=>uN (U p aT),Em fun p aT=>(uN (ad p aT)).symm]
end Go.Proofs.YtplieiecebljmaaGreat
namespace Go.Proofs.YtplieiecebljmaaGreat
variable {W V:Below} {lo hi m:Option Key} {P Q:Nat→Option aL}
def kB (P:Nat→Option aL) (h:Nat):Below:=fun lo hi k p L=>jf P h lo hi k p L∧∃m,P k=some m∧2≤m.keys.length
theorem kB.pt {h no:Nat} {p:List Nat} {L:List bf} (hw:kB P h lo hi no p L) (J:∀x∈p,P x=Q x):kB Q h lo hi no p L:=by
 obtain ⟨U,m,ad,ar⟩:=hw
 have:=U.pt J
 exact ⟨this.1,m,by rw[←J no this.2];exact ad,ar⟩
theorem agB {α:Type} {l:List α} (h:1≤l.length):l≠ []:=fun e=>by subst e;simp at h
theorem kB.in {h no:Nat} {p:List Nat} {L:List bf} (hw:kB P h lo hi no p L):L≠ []∧n4 L∧∀q∈L,kY lo hi q.1:=⟨agB hw.1.pages.2.1,hw.1.j0⟩
theorem gG.sorted {ks:List Key} {kids p:List Nat} {L:List bf} (h:gG W lo hi ks kids p L) (dK:∀lo hi k p L,W lo hi k p L→L≠ []∧n4 L∧∀q∈L,kY lo hi q.1):
   L≠ []∧(∀q∈L,kY lo hi q.1)∧ks.Pairwise ck∧∀s∈ks,(∀a,lo=some a→ck a s)∧∀b,hi=some b→ck s b:=by
 induction h with
 |one h=>exact ⟨(dK _ _ _ _ _ h).1,(dK _ _ _ _ _ h).2.2, .nil,by simp⟩
 | @cons lo hi s k cl cr bT b_ ks kids h t dw=>
   obtain ⟨di,_,cX⟩:=dK _ _ _ _ _ h
   obtain ⟨c_,cy,bA,aw⟩:=dw
   obtain ⟨x,af⟩:=I7 _ di
   obtain ⟨y,b2⟩:=I7 _ c_
   have kM:∀a,lo=some a→ck a s:=fun a aS=>tG ((cX x af).1 a aS) ((cX x af).2 s rfl)
   have mo:∀b,hi=some b→ck s b:=fun b ab=>tG ((cy y b2).1 s rfl) ((cy y b2).2 b ab)
   refine ⟨by simp[di],fun q J=> ?_,tB.2 ⟨fun z bI=>(aw z bI).1 s rfl,bA⟩,fun z bI=> ?_⟩
   · rcases fe.1 J with J|J
     · exact ⟨(cX q J).1,fun b ab=>x1 ((cX q J).2 s rfl) (mo b ab)⟩
     · exact ⟨fun a aS=>qu (BU (kM a aS) ((cy q J).1 s rfl)),(cy q J).2⟩
   · rcases gp.1 bI with rfl|bI
     · exact ⟨kM,mo⟩
     · exact ⟨fun a aS=>x1 (kM a aS) ((aw z bI).1 s rfl),(aw z bI).2⟩
def fC (P:Nat→Option aL):Nat→aL→Option Key→Option Key→List Nat→List bf→Prop
 |0,_,_,_,_,_=>False
 |1,n,lo,hi,p,L=>oC n∧n.within lo hi∧p=[]∧L=n.gH
 |h+2,n,lo,hi,p,L=>n.leaf=false∧n.vals=[]∧(∀k∈n.keys,ew k)∧(∀k∈n.kids,k<1600)∧gG (kB P (h+1)) lo hi n.keys n.kids p L
theorem fC.pt:∀ {h:Nat} {n:aL} {p:List Nat} {L:List bf},fC P h n lo hi p L→(∀x∈p,P x=Q x)→fC Q h n lo hi p L
 |0,_,_,_,h,_=>h.elim
 |1,_,_,_,h,_=>h
 |_+2,_,_,_,⟨U,ad,ar,aI,aW⟩,J=>⟨U,ad,ar,aI,aW.x3 fun _ _ _ _ _ aj hw=>hw.pt fun x af=>J x (aj x af)⟩
theorem fC.lay:∀ {h:Nat} {n:aL} {x:Nat} {p:List Nat} {L:List bf},fC P h n lo hi p L→n.keys≠ []→Q x=some n→(∀y∈p,P y=Q y)→jf Q h lo hi x (x::p) L
 |0,_,_,_,_,h,_,_,_=>h.elim
 |1,n,x,p,L,⟨U,ad,ar,aI⟩,ae,af,_=>by
   subst ar
   exact ⟨n,af,U,ad,ae,rfl,aI⟩
 |h+2,n,x,p,L,ak,ae,af,J=>by
   obtain ⟨U,ad,ar,aI,aW⟩:=ak.pt J
   have aj:=aW.sorted fun _ _ _ _ _ hw=>hw.in
   exact ⟨n,p,af,⟨⟨ar,aj.2.2.1⟩,U,ae,aW.len,ad,aI⟩,fun s mo=>⟨fun a aS=>qu ((aj.2.2.2 s mo).1 a aS),(aj.2.2.2 s mo).2⟩,rfl,aW⟩
def aL.left (n:aL) (i:Nat):aL:=if n.leaf then ⟨true,n.keys.take i,n.vals.take i,[]⟩ else ⟨false,n.keys.take i,[],n.kids.take (i+1)⟩
def aL.right (n:aL) (i:Nat):aL:=if n.leaf then ⟨true,n.keys.drop i,n.vals.drop i,[]⟩ else ⟨false,n.keys.drop (i+1),[],n.kids.drop (i+1)⟩
theorem fC.leaf {h:Nat} {n:aL} {p:List Nat} {L:List bf} (ak:fC P h n lo hi p L):n.leaf=decide (h=1):=by
 match h,ak with
 |0,ak=>exact ak.elim
 |1,ak=>rw[ak.1.leaf];rfl
 |h+2,ak=>rw[ak.1];simp
theorem fC.QU {h:Nat} {n:aL} {p:List Nat} {L:List bf} (ak:fC P h n lo hi p L) {i:Nat} (U:1≤i) (gZ:i<n.keys.length):
   ∃ (cl cr:List Nat) (bT b_:List bf),p=cl++cr∧L=bT++b_∧fC P h (n.left i) lo (some n.keys[i]) cl bT∧fC P h (n.right i) (some n.keys[i]) hi cr b_:=by
 match h,ak with
 |0,ak=>exact ak.elim
 |1,⟨a,b,c,d⟩=>
   subst c d
   have aU:=a.j0
   have p6:n.keys=n.keys.take i++n.keys.drop i:=(qq _ _).symm
   have fK:=aU
   rw[p6] at fK
   obtain ⟨aq,bA,bP⟩:=Eb.1 fK
   have hd:n.keys.drop i=n.keys[i]::n.keys.drop (i+1):=uJ gZ
   have aG:n.left i=⟨true,n.keys.take i,n.vals.take i,[]⟩:=by unfold aL.left;rw[a.leaf];rfl
   have a7:n.right i=⟨true,n.keys.drop i,n.vals.drop i,[]⟩:=by unfold aL.right;rw[a.leaf];rfl
   rw[aG,a7]
   refine ⟨[],[],n.gH.take i,n.gH.drop i,rfl,(qq _ _).symm,⟨⟨⟨fun k ae=>a.ok k (kA ae),aq⟩,rfl,by simp[a.len],rfl,fun v ak=>a.vals v (kA ak)⟩,fun k ae=>⟨(b k (kA ae)).1,fun s aj=> ?_⟩,rfl,?_⟩,
     ⟨⟨⟨fun k ae=>a.ok k (kk ae),bA⟩,rfl,by simp[a.len],rfl,fun v ak=>a.vals v (kk ak)⟩,fun k ae=>⟨fun s aj=> ?_,(b k (kk ae)).2⟩,rfl,?_⟩⟩
   · cases aj
     exact bP k ae _ (by rw[hd];exact List.mem_cons_self)
   · exact List.take_zipWith
   · cases aj
     have ae:k∈n.keys.drop i:=ae
     rw[hd] at ae bA
     rcases gp.1 ae with rfl|ae
     · exact WX _
     · exact qu ((tB.1 bA).1 k ae)
   · exact List.drop_zipWith
 |h+2,⟨a,b,c,d,e⟩=>
   have aG:n.left i=⟨false,n.keys.take i,[],n.kids.take (i+1)⟩:=by unfold aL.left;rw[a];rfl
   have a7:n.right i=⟨false,n.keys.drop (i+1),[],n.kids.drop (i+1)⟩:=by unfold aL.right;rw[a];rfl
   have p6:n.keys=n.keys.take i++n.keys[i]::n.keys.drop (i+1):=by rw[←uJ gZ,qq]
   rw[p6] at e
   obtain ⟨dR,e0,cl,cr,bT,b_,aY,rfl,rfl,s1,s2⟩:=e.cut
   have az:=s1.len
   rw[dV,r0 (by omega)] at az
   have agC:n.kids.take (i+1)=dR:=by rw[aY,←az,List.take_left]
   have agD:n.kids.drop (i+1)=e0:=by rw[aY,←az,List.drop_left]
   rw[aG,a7,agC,agD]
   exact ⟨cl,cr,bT,b_,rfl,rfl,⟨rfl,rfl,fun k ae=>c k (kA ae),fun k ae=>d k (by rw[aY];simp[ae]),s1⟩,⟨rfl,rfl,fun k ae=>c k (kk ae),fun k ae=>d k (by rw[aY];simp[ae]),s2⟩⟩
end Go.Proofs.YtplieiecebljmaaGreat
namespace Go.Proofs.YtplieiecebljmaaGreat
variable {lo hi:Option Key} {P Q:Nat→Option aL}
def g0 (a:aL) (s:Key) (b:aL):aL:=if a.leaf then ⟨true,a.keys++b.keys,a.vals++b.vals,[]⟩ else ⟨false,a.keys++s::b.keys,[],a.kids++b.kids⟩
theorem En {a b c d:List Key} (h:a.length=c.length):(a++b).zip (c++d)=a.zip c++b.zip d:=List.zip_append h
theorem fC.merge {h:Nat} {a b:aL} {s:Key} {pa MS:List Nat} {MT MU:List bf} (aS:fC P h a lo (some s) pa MT) (ab:fC P h b (some s) hi MS MU) (aj:ew s) (agE:∀k,lo=some k→ic k s) (agF:∀k,hi=some k→ic s k):
   fC P h (g0 a s b) lo hi (pa++MS) (MT++MU):=by
 match h,aS,ab with
 |0,aS,_=>exact aS.elim
 |1,⟨bj,cL,e6,dQ⟩,⟨cX,cy,eJ,eW⟩=>
   subst e6 dQ eJ eW
   have e:g0 a s b=⟨true,a.keys++b.keys,a.vals++b.vals,[]⟩:=by unfold g0;rw[bj.leaf];rfl
   rw[e]
   refine ⟨⟨⟨fun k ae=> ?_,Eb.2 ⟨bj.j0,cX.j0,fun x af y b2=>BU ((cL x af).2 s rfl) ((cy y b2).1 s rfl)⟩⟩,rfl,by simp[bj.len,cX.len],rfl,fun v ak=> ?_⟩,fun k ae=> ?_,rfl,?_⟩
   · rcases fe.1 ae with ae|ae
     · exact bj.ok k ae
     · exact cX.ok k ae
   · rcases fe.1 ak with ak|ak
     · exact bj.vals v ak
     · exact cX.vals v ak
   · rcases fe.1 ae with ae|ae
     · exact ⟨(cL k ae).1,fun c al=>BU ((cL k ae).2 s rfl) (agF c al)⟩
     · exact ⟨fun c al=>WZ (agE c al) ((cy k ae).1 s rfl),(cy k ae).2⟩
   · exact (En bj.len.symm).symm
 |h+2,⟨bj,cL,e6,dQ,gS⟩,⟨cX,cy,eJ,eW,iJ⟩=>
   have e:g0 a s b=⟨false,a.keys++s::b.keys,[],a.kids++b.kids⟩:=by unfold g0;rw[bj];rfl
   rw[e]
   refine ⟨rfl,rfl,fun k ae=> ?_,fun k ae=> ?_,gS.app iJ⟩
   · rcases fe.1 ae with ae|ae
     · exact e6 k ae
     · rcases gp.1 ae with rfl|ae
       · exact aj
       · exact eJ k ae
   · rcases fe.1 ae with ae|ae
     · exact dQ k ae
     · exact eW k ae
theorem jf.v_ {h no:Nat} {p:List Nat} {L:List bf} (hw:jf P h lo hi no p L):∃n fi,P no=some n∧p=no::fi∧n.keys≠ []∧fC P h n lo hi fi L:=by
 match h,hw with
 |0,hw=>exact hw.elim
 |1,⟨n,U,ad,ar,aI,aW,b5⟩=>exact ⟨n,[],U,aW,aI,ad,ar,rfl,b5⟩
 |h+2,⟨n,fi,U,ad,ar,aI,aW⟩=>exact ⟨n,fi,U,aI,ad.some,ad.inner,ad.vals,ad.ok,ad.kids,aW⟩
def l3 (n:aL) (fr to:Nat) (ks:List Key) (kids:List Nat):aL:=⟨false,n.keys.take fr++ks++n.keys.drop (to-1),[],n.kids.take fr++kids++n.kids.drop to⟩
end Go.Proofs.YtplieiecebljmaaGreat
namespace Go.Proofs.YtplieiecebljmaaGreat
def cellsOf (n:aL):List Nat:=if n.leaf then List.zipWith (fun k v=>2+k.length+v.length) n.keys n.vals else n.keys.map fun k=>3+k.length
def cf (n:aL):Nat:=(if n.leaf then 1 else 3)+(cellsOf n).sum
def mP (c:List Nat) (most:Nat):Nat:=match (List.range most).find? fun i=>decide (c.sum≤2*(c.take (i+1)).sum) with
 |some i=>i+1
 |none=>most
theorem BV {B:Nat}:∀ {l:List Nat},(∀x∈l,x≤B)→l.sum≤B*l.length
 | [],_=>by simp
 |a::l,h=>by
   have U:=h a (by simp)
   have ad:=BV (l:=l) fun x af=>h x (by simp[af])
   rw[I8,oB,Nat.mul_add,ml]
   omega
theorem QV (l:List Nat) (i:Nat):(l.take i).sum+(l.drop i).sum=l.sum:=by
 rw[←xY,qq]
theorem Gz {l:List Nat} {i:Nat} (h:i<l.length):(l.take (i+1)).sum=(l.take i).sum+l[i]:=by
 rw[uK h,xY];simp
theorem W3 {c:List Nat} {most:Nat} (hm:1≤most) (aj:0<c.sum):1≤mP c most∧mP c most≤most∧2*(c.take (mP c most-1)).sum<c.sum∧(mP c most=most∨c.sum≤2*(c.take (mP c most)).sum):=by
 unfold mP
 cases h:(List.range most).find? fun i=>decide (c.sum≤2*(c.take (i+1)).sum) with
 |none=>
   have aD:=r2.1 h
   refine ⟨hm,cP _,?_, .inl rfl⟩
   by_cases U:most=1
   · subst U;simpa using aj
   · have:=aD (most-2) (v7.2 (by omega))
     have e:most-2+1=most-1:=by omega
     rw[e] at this
     simp at this
     exact this
 |some i=>
   have hi:i<most:=v7.1 (Ed h)
   have aT:=Gj h
   refine ⟨by simp,by simp;omega,?_, .inr (by simpa using aT)⟩
   show 2*(c.take (i+1-1)).sum<c.sum
   rw[Nat.add_sub_cancel]
   cases i with
   |zero=>simpa using aj
   |succ j=>
     have:=(List.find?_range_eq_some.1 h).2.2 j (by omega)
     simpa using this
theorem agG {c:List Nat} (e1:∀x∈c,x≤50) (U:232≤c.sum) (ad:c.sum≤309):
   2≤mP c (c.length-1)∧mP c (c.length-1)+2≤c.length∧(c.take (mP c (c.length-1))).sum≤231∧(c.drop (mP c (c.length-1))).sum≤231:=by
 have az:=BV e1
 have dq:=W3 (c:=c) (most:=c.length-1) (by omega) (by omega)
 generalize mP c (c.length-1)=i at dq⊢
 obtain ⟨bj,cL,e6,dQ⟩:=dq
 have aj:=QV c i
 have aN:=Gz (l:=c) (i:=i-1) (by omega)
 rw[Nat.sub_add_cancel bj] at aN
 have al:=e1 c[i-1] (fv _)
 have hd:=BV (l:=c.drop i) fun x af=>e1 x (kk af)
 have ae:=BV (l:=c.take i) fun x af=>e1 x (kA af)
 rw[fw] at hd
 rw[dV,r0 (by omega)] at ae
 have key:c.sum≤2*(c.take i).sum:=by
   rcases dQ with h|h
   · have:c.length-i=1:=by omega
     rw[this] at hd
     omega
   · exact h
 refine ⟨by omega,?_,by omega,by omega⟩
 rcases hE (c.length-i) 2 with h|h
 · have:c.length-i=1:=by omega
   rw[this] at hd;omega
 · omega
theorem agH {c:List Nat} (e1:∀x∈c,x≤27) (U:230≤c.sum) (ad:c.sum≤332):
   2≤mP c (c.length-2)∧mP c (c.length-2)+3≤c.length∧(c.take (mP c (c.length-2))).sum≤229∧(c.drop (mP c (c.length-2)+1)).sum≤229:=by
 have az:=BV e1
 have dq:=W3 (c:=c) (most:=c.length-2) (by omega) (by omega)
 generalize mP c (c.length-2)=i at dq⊢
 obtain ⟨bj,cL,e6,dQ⟩:=dq
 have aj:=QV c (i+1)
 have aN:=Gz (l:=c) (i:=i-1) (by omega)
 have hu:=Gz (l:=c) (i:=i) (by omega)
 rw[Nat.sub_add_cancel bj] at aN
 have al:=e1 c[i-1] (fv _)
 have dS:=e1 c[i] (fv _)
 have hd:=BV (l:=c.drop (i+1)) fun x af=>e1 x (kk af)
 have ae:=BV (l:=c.take i) fun x af=>e1 x (kA af)
 rw[fw] at hd
 rw[dV,r0 (by omega)] at ae
 have key:c.sum≤2*(c.take i).sum:=by
   rcases dQ with h|h
   · have:c.length-(i+1)=1:=by omega
     rw[this] at hd
     omega
   · exact h
 refine ⟨by omega,?_,by omega,by omega⟩
 rcases hE (c.length-(i+1)) 2 with h|h
 · have:c.length-(i+1)≤1:=by omega
   have:27*(c.length-(i+1))≤27*1:=Nat.mul_le_mul_left _ this
   omega
 · omega
end Go.Proofs.YtplieiecebljmaaGreat
namespace Go.Proofs.YtplieiecebljmaaGreat
variable {W:Below} {lo hi m:Option Key} {P Q:Nat→Option aL}
theorem nc.inv {kids p:List Nat} {L:List bf} (h:nc W hi m [] kids p L):m=hi∧kids=[]∧p=[]∧L=[]:=by
 generalize e:([]:List Key)=K at h
 cases h with
 |nil=>exact ⟨rfl,rfl,rfl,rfl⟩
 |more h=>simp at e
theorem kL.last {ks:List Key} {kids p:List Nat} {L:List bf} (h:kL W lo m ks kids p L) (ae:0<kids.length):∃ (s:Key) (gY:Option Key) (cl r:List Nat) (bT N:List bf) (aj:0<ks.length),
   m=some s∧s=ks[ks.length-1]∧p=cl++r∧L=bT++N∧W gY (some s) (kids[kids.length-1]) r N∧kL W lo gY (ks.take (ks.length-1)) (kids.take (kids.length-1)) cl bT∧kids.length=ks.length:=by
 cases h with
 |nil=>simp at ae
 | @more s ks kids p L h=>
   have az:=h.len
   obtain ⟨gY,fa,cl,q,cr,bT,M,b_,rfl,rfl,U,ad,ar⟩:=h.at (kids.length-1) (by omega)
   rw[List.drop_of_length_le (by omega)] at ar
   obtain ⟨rfl,_,rfl,rfl⟩:=ar.inv
   refine ⟨s,gY,cl,q,bT,M,by simp,rfl,by simp,by simp,by simp,U,?_,by simp;omega⟩
   have e:(ks++ [s]).take ((ks++ [s]).length-1)=ks.take (kids.length-1):=by
     rw[az];simp
   rw[e];exact ad
theorem fC.at {h:Nat} {n:aL} {p:List Nat} {L:List bf} (ak:fC P (h+2) n lo hi p L) {k:Key} (ae:kY lo hi k):∃ (gY fa:Option Key) (cl q cr:List Nat) (bT M b_:List bf) (ab:fJ n.keys k<n.kids.length),
   p=cl++(q++cr)∧L=bT++(M++b_)∧kB P (h+1) gY fa n.kids[fJ n.keys k] q M∧kY gY fa k∧(∀u,Loc k u→u L=bT++(u M++b_))∧n.kids.length=n.keys.length+1∧
   kL (kB P (h+1)) lo gY (n.keys.take (fJ n.keys k)) (n.kids.take (fJ n.keys k)) cl bT∧nc (kB P (h+1)) hi fa (n.keys.drop (fJ n.keys k)) (n.kids.drop (fJ n.keys k+1)) cr b_:=by
 obtain ⟨a,b,c,d,e⟩:=ak
 have az:=e.len
 have hle:=MR n.keys k
 have aj:=e.sorted fun _ _ _ _ _ hw=>hw.in
 have fy:∀s∈n.keys,kY lo hi s:=fun s h=>⟨fun a aS=>qu ((aj.2.2.2 s h).1 a aS),(aj.2.2.2 s h).2⟩
 obtain ⟨gY,fa,cl,q,cr,bT,M,b_,rfl,rfl,U,ad,ar⟩:=e.at (fJ n.keys k) (by omega)
 have mq:=ad.agx (k:=k) (fun j a6 h=>agv h a6) ae.1
 have GA:=ar.agy (k:=k) (fun h=>agw h) ae.2
 have agI:(n.keys.take (fJ n.keys k)).Pairwise ck:=aj.2.2.1.sublist (List.take_sublist _ _)
 have dm:(n.keys.drop (fJ n.keys k)).Pairwise ck:=aj.2.2.1.sublist (List.drop_sublist _ _)
 exact ⟨gY,fa,cl,q,cr,bT,M,b_,by omega,rfl,rfl,U,⟨mq,GA⟩,fun u hu=>hu _ _ _ (ad.below (hi:=hi) (fun _ _ _ _ _ hw=>hw.in.2) agI (fun s h=>fy s (kA h)) mq) (ar.agz (lo:=lo) (fun _ _ _ _ _ hw=>hw.in.2) dm (fun s h=>fy s (kk h)) GA),
   az,ad,ar⟩
theorem fC.build {h:Nat} {gY fa:Option Key} {zO x4 ks:List Key} {Eo Ep kids cl cr q:List Nat} {bT M b_:List bf} (U:kL (kB P (h+1)) lo gY zO Eo cl bT) (ad:nc (kB P (h+1)) hi fa x4 Ep cr b_)
   (aj:gG (kB Q (h+1)) gY fa ks kids q M) (J:∀x∈cl++cr,P x=Q x) (ae:∀s∈zO++ks++x4,ew s) (hd:∀x∈Eo++kids++Ep,x<1600):
   fC Q (h+2) ⟨false,zO++ks++x4,[],Eo++kids++Ep⟩ lo hi (cl++(q++cr)) (bT++(M++b_)):=by
 have aA:kL (kB Q (h+1)) lo gY zO Eo cl bT:=U.x3 fun _ _ _ _ _ aj hw=>hw.pt fun x af=>J x (uI _ (aj x af))
 have aF:nc (kB Q (h+1)) hi fa x4 Ep cr b_:=ad.x3 fun _ _ _ _ _ aj hw=>hw.pt fun x af=>J x (qp _ (aj x af))
 refine ⟨rfl,rfl,ae,hd,?_⟩
 show gG _ lo hi (zO++ks++x4) (Eo++kids++Ep) _ _
 rw[er,er]
 exact aA.agu (aj.post aF)
end Go.Proofs.YtplieiecebljmaaGreat
namespace Go.Proofs.YtplieiecebljmaaGreat
variable {lo hi:Option Key} {P Q:Nat→Option aL}
theorem fC.one {h x:Nat} {n:aL} {p:List Nat} {L:List bf} (ak:fC P h n lo hi p L) (ad:2≤n.keys.length) (af:Q x=some n) (J:∀y∈p,P y=Q y):gG (kB Q h) lo hi [] [x] (x::p) L:=
 .one ⟨ak.lay (fun e=>by rw[e] at ad;simp at ad) af J,n,af,ad⟩
theorem wa {n:aL} (h:n.leaf=true):cellsOf n=List.zipWith (fun k v=>2+k.length+v.length) n.keys n.vals:=by unfold cellsOf;rw[h];rfl
theorem wb {n:aL} (h:n.leaf=false):cellsOf n=n.keys.map fun k=>3+k.length:=by unfold cellsOf;rw[h];rfl
theorem QW {B:Nat} {f:Key→Key→Nat}:∀ {ks vs:List Key},(∀k∈ks,∀v∈vs,f k v≤B)→∀x∈List.zipWith f ks vs,x≤B
 | [],vs,_,x,af=>by simp at af
 |k::ks,[],_,x,af=>by simp at af
 |k::ks,v::vs,h,x,af=>by
   rw[List.zipWith_cons_cons] at af
   rcases gp.1 af with rfl|af
   · exact h k (by simp) v (by simp)
   · exact QW (fun k ae v ak=>h k (by simp[ae]) v (by simp[ak])) x af
def da (n:aL):Nat:=mP (cellsOf n) (if n.leaf then n.keys.length-1 else n.keys.length-2)
theorem fC.two {h x y:Nat} {n:aL} {p:List Nat} {L:List bf} (ak:fC P h n lo hi p L) (U:232<cf n) (ad:n.leaf=true→cf n≤310) (ar:n.leaf=false→cf n≤335):
   1≤da n∧(if n.leaf then da n≤n.keys.length-1∧1≤n.keys.length-1 else da n≤n.keys.length-2∧1≤n.keys.length-2)∧cf (n.left (da n))≤232∧cf (n.right (da n))≤232∧
     ∃ (ab:da n<n.keys.length) (cl cr:List Nat) (bT b_:List bf),p=cl++cr∧L=bT++b_∧ew n.keys[da n]∧
       (Q x=some (n.left (da n))→Q y=some (n.right (da n))→(∀z∈p,P z=Q z)→gG (kB Q h) lo hi [n.keys[da n]] [x,y] ((x::cl)++(y::cr)) (bT++b_)):=by
 have main:∀ (i:Nat),2≤i→(aI:i<n.keys.length)→2≤(n.left i).keys.length→2≤(n.right i).keys.length→∃ (ab:i<n.keys.length) (cl cr:List Nat) (bT b_:List bf),p=cl++cr∧L=bT++b_∧ew n.keys[i]∧
     (Q x=some (n.left i)→Q y=some (n.right i)→(∀z∈p,P z=Q z)→gG (kB Q h) lo hi [n.keys[i]] [x,y] ((x::cl)++(y::cr)) (bT++b_)):=by
   intro i gZ r3 az aU
   obtain ⟨cl,cr,bT,b_,rfl,rfl,v1,v2⟩:=ak.QU (by omega:1≤i) r3
   have iU:ew n.keys[i]:=by
     match h,ak with
     |0,ak=>exact ak.elim
     |1,ak=>exact ak.1.ok _ (fv _)
     |h+2,ak=>exact ak.2.2.1 _ (fv _)
   refine ⟨r3,cl,cr,bT,b_,rfl,rfl,iU,fun af b2 J=> ?_⟩
   have s1:=v1.one az af fun z bI=>J z (uI _ bI)
   have s2:=v2.one aU b2 fun z bI=>J z (qp _ bI)
   exact s1.app s2
 match h,ak with
 |0,ak=>exact ak.elim
 |1,ak=>
   have df:n.leaf=true:=ak.1.leaf
   have BW:(cellsOf n).length=n.keys.length:=by rw[wa df,List.length_zipWith,ak.1.len,Nat.min_self]
   have e1:∀c∈cellsOf n,c≤50:=by
     rw[wa df]
     exact QW fun k ae v g1=>by have:=(ak.1.ok k ae).2;have:=ak.1.vals v g1;omega
   have agJ:cf n=1+(cellsOf n).sum:=by unfold cf;rw[df];rfl
   have ad:=ad df
   obtain ⟨bj,cL,e6,dQ⟩:=agG e1 (by omega) (by omega)
   have QX:da n=mP (cellsOf n) ((cellsOf n).length-1):=by unfold da;rw[df,BW];rfl
   rw[←QX] at bj cL e6 dQ
   have dn:n.left (da n)=⟨true,n.keys.take (da n),n.vals.take (da n),[]⟩:=by unfold aL.left;rw[df];rfl
   have cU:n.right (da n)=⟨true,n.keys.drop (da n),n.vals.drop (da n),[]⟩:=by unfold aL.right;rw[df];rfl
   have QY:cellsOf (n.left (da n))=(cellsOf n).take (da n):=by rw[dn,wa rfl,wa df];exact List.take_zipWith.symm
   have QZ:cellsOf (n.right (da n))=(cellsOf n).drop (da n):=by rw[cU,wa rfl,wa df];exact List.drop_zipWith.symm
   refine ⟨by omega,by rw[df];exact ⟨by omega,by omega⟩,?_,?_,main _ bj (by omega) (by rw[dn];show 2≤(n.keys.take _).length;rw[dV];omega) (by rw[cU];show 2≤(n.keys.drop _).length;rw[fw];omega)⟩
   · unfold cf;rw[QY,dn];show 1+_≤_;omega
   · unfold cf;rw[QZ,cU];show 1+_≤_;omega
 |h+2,ak=>
   have df:n.leaf=false:=ak.1
   have BW:(cellsOf n).length=n.keys.length:=by rw[wb df,mN]
   have e1:∀c∈cellsOf n,c≤27:=by
     rw[wb df]
     intro c al
     obtain ⟨k,ae,rfl⟩:=p4.1 al
     have:=(ak.2.2.1 k ae).2;omega
   have agJ:cf n=3+(cellsOf n).sum:=by unfold cf;rw[df];rfl
   have ar:=ar df
   obtain ⟨bj,cL,e6,dQ⟩:=agH e1 (by omega) (by omega)
   have QX:da n=mP (cellsOf n) ((cellsOf n).length-2):=by unfold da;rw[df,BW];rfl
   rw[←QX] at bj cL e6 dQ
   have dn:n.left (da n)=⟨false,n.keys.take (da n),[],n.kids.take (da n+1)⟩:=by unfold aL.left;rw[df];rfl
   have cU:n.right (da n)=⟨false,n.keys.drop (da n+1),[],n.kids.drop (da n+1)⟩:=by unfold aL.right;rw[df];rfl
   have QY:cellsOf (n.left (da n))=(cellsOf n).take (da n):=by rw[dn,wb rfl,wb df];exact Ee
   have QZ:cellsOf (n.right (da n))=(cellsOf n).drop (da n+1):=by rw[cU,wb rfl,wb df];exact Gk
   refine ⟨by omega,by rw[df];exact ⟨by omega,by omega⟩,?_,?_,main _ bj (by omega) (by rw[dn];show 2≤(n.keys.take _).length;rw[dV];omega) (by rw[cU];show 2≤(n.keys.drop _).length;rw[fw];omega)⟩
   · unfold cf;rw[QY,dn];show 3+_≤_;omega
   · unfold cf;rw[QZ,cU];show 3+_≤_;omega
end Go.Proofs.YtplieiecebljmaaGreat
namespace Go.Proofs.YtplieiecebljmaaGreat
variable {lo hi:Option Key} {P Q:Nat→Option aL}
theorem fC.cells {h:Nat} {n:aL} {p:List Nat} {L:List bf} (ak:fC P h n lo hi p L):(cellsOf n).length=n.keys.length∧∀c∈cellsOf n,c≤if n.leaf then 50 else 27:=by
 match h,ak with
 |0,ak=>exact ak.elim
 |1,ak=>
   have df:n.leaf=true:=ak.1.leaf
   rw[wa df,df]
   exact ⟨by rw[List.length_zipWith,ak.1.len,Nat.min_self],QW fun k ae v g1=>by have:=(ak.1.ok k ae).2;have:=ak.1.vals v g1;simp only[if_true];omega⟩
 |h+2,ak=>
   have df:n.leaf=false:=ak.1
   rw[wb df,df]
   refine ⟨by rw[mN],fun c al=> ?_⟩
   obtain ⟨k,ae,rfl⟩:=p4.1 al
   have:=(ak.2.2.1 k ae).2
   show 3+k.length≤27
   omega
theorem fC.Q0 {h:Nat} {n:aL} {p:List Nat} {L:List bf} (ak:fC P h n lo hi p L) (aj:80≤cf n):2≤n.keys.length:=by
 obtain ⟨U,ad⟩:=ak.cells
 have:=BV ad
 rw[U] at this
 unfold cf at aj
 cases az:n.leaf with
 |true=>rw[az] at aj this;simp only[if_true] at aj this;omega
 |false=>rw[az] at aj this;simp only[n2,if_false] at aj this;omega
theorem agK {a b:aL} {s:Key} (h:a.leaf=b.leaf) (aS:a.leaf=true→a.vals.length=a.keys.length):cf (g0 a s b)=if a.leaf then cf a+cf b-1 else cf a+cf b+s.length:=by
 cases az:a.leaf with
 |true=>
   have e:g0 a s b=⟨true,a.keys++b.keys,a.vals++b.vals,[]⟩:=by unfold g0;rw[az];rfl
   have ab:b.leaf=true:=by rw[←h,az]
   unfold cf
   rw[e,wa rfl,wa az,wa ab,az,ab]
   simp only[if_true]
   rw[Gl (aS az).symm,xY]
   omega
 |false=>
   have e:g0 a s b=⟨false,a.keys++s::b.keys,[],a.kids++b.kids⟩:=by unfold g0;rw[az];rfl
   have ab:b.leaf=false:=by rw[←h,az]
   unfold cf
   rw[e,wb rfl,wb az,wb ab,az,ab]
   simp only[n2,if_false,n3,tC,xY,I8]
   omega
def qw (ks:List Key):Nat:=(ks.map fun k=>3+k.length).sum
theorem MV (a b:List Key):qw (a++b)=qw a+qw b:=by unfold qw;rw[n3,xY]
theorem W4 {n:aL} (h:n.leaf=false):cf n=3+qw n.keys:=by unfold cf qw;rw[h,wb h];rfl
theorem agL (k:Key):qw [k]=3+k.length:=by simp[qw]
theorem Q1 {n:aL} {ks:List Key} {kids:List Nat} {fr j:Nat} (h:n.leaf=false) (tH:ks.length≤1) (ae:∀k∈ks,ew k) (a6:fr≤j):
   cf ⟨false,n.keys.take fr++ks++n.keys.drop j,[],kids⟩≤cf n+27:=by
 rw[W4 h,W4 rfl]
 show 3+qw (n.keys.take fr++ks++n.keys.drop j)≤_
 rw[MV,MV]
 have U:qw ks≤27:=by
   match ks,tH with
   | [],_=>simp[qw]
   | [k],_=>rw[agL];have:=(ae k (by simp)).2;omega
 have ad:qw n.keys=qw (n.keys.take fr)+qw (n.keys.drop fr):=by rw[←MV,qq]
 have ar:qw (n.keys.drop fr)=qw ((n.keys.drop fr).take (j-fr))+qw (n.keys.drop j):=by
   rw[←MV]
   congr 1
   have:n.keys.drop j=(n.keys.drop fr).drop (j-fr):=by rw[I9];congr 1;omega
   rw[this,qq]
 omega
end Go.Proofs.YtplieiecebljmaaGreat
namespace Go.Proofs.YtplieiecebljmaaGreat
variable {lo hi:Option Key} {P Q:Nat→Option aL}
def zP (Q:Nat→Option aL) (n:aL) (ks:List Key) (kids:List Nat):Prop:=
 (cf n≤232∧∃x,ks=[]∧kids=[x]∧Q x=some n)∨
 (232<cf n∧∃ (x y:Nat) (ab:da n<n.keys.length),ks=[n.keys[da n]]∧kids=[x,y]∧Q x=some (n.left (da n))∧Q y=some (n.right (da n)))
theorem fC.fits {h:Nat} {n:aL} {p:List Nat} {L:List bf} {ks:List Key} {kids:List Nat} (ak:fC P h n lo hi p L) (ad:2≤n.keys.length) (az:n.leaf=true→cf n≤310) (gZ:n.leaf=false→cf n≤335)
   (aG:zP Q n ks kids) (J:∀x∈p,P x=Q x):∃fi,gG (kB Q h) lo hi ks kids fi L∧fi.Perm (kids++p)∧(∀s∈ks,ew s)∧ks.length≤1:=by
 rcases aG with ⟨_,x,rfl,rfl,af⟩|⟨aj,x,y,ab,rfl,rfl,af,b2⟩
 · exact ⟨x::p,ak.one ad af J,List.Perm.refl _,by simp,by simp⟩
 · obtain ⟨_,_,_,_,_,cl,cr,bT,b_,rfl,rfl,iU,agM⟩:=ak.two (Q:=Q) (x:=x) (y:=y) aj az gZ
   refine ⟨_,agM af b2 J,?_,by simpa using iU,by simp⟩
   show ((x::cl)++(y::cr)).Perm ([x,y]++(cl++cr))
   simp only[Ea,rZ]
   exact (BO).cons x
theorem agN {h:Nat} {bE e2:aL} {gY fa:Option Key} {i:Nat} {cl cr oD:List Nat} {bT pv b_:List bf} {ks:List Key} {kids:List Nat} (b3:bE.leaf=false) (kZ:∀k∈bE.keys,ew k) (pw:∀x∈bE.kids,x<1600)
   (aT:kL (kB P (h+1)) lo gY (bE.keys.take i) (bE.kids.take i) cl bT) (bJ:nc (kB P (h+1)) hi fa (bE.keys.drop i) (bE.kids.drop (i+1)) cr b_) (ak:fC P (h+1) e2 gY fa oD pv) (U:80≤cf e2) (ad:cf e2≤282)
   (aG:zP Q e2 ks kids) (J:∀x∈cl++(oD++cr),P x=Q x) (rj:∀x∈kids,x<1600):
   ∃fi,fC Q (h+2) (l3 bE i (i+1) ks kids) lo hi fi (bT++(pv++b_))∧fi.Perm (kids++(cl++(oD++cr)))∧cf (l3 bE i (i+1) ks kids)≤cf bE+27∧bE.keys.length≤(l3 bE i (i+1) ks kids).keys.length:=by
 obtain ⟨iB,aj,BX,iU,r4⟩:=ak.fits (ak.Q0 U) (fun _=>by omega) (fun _=>by omega) aG fun x af=>J x (qp _ (uI _ af))
 have ab:=fC.build aT bJ aj (fun x af=>by
     rcases fe.1 af with af|af
     · exact J x (uI _ af)
     · exact J x (qp _ (qp _ af)))
   (fun s aj=>by
     rcases fe.1 aj with aj|aj
     · rcases fe.1 aj with aj|aj
       · exact kZ s (kA aj)
       · exact iU s aj
     · exact kZ s (kk aj))
   (fun x af=>by
     rcases fe.1 af with af|af
     · rcases fe.1 af with af|af
       · exact pw x (kA af)
       · exact rj x af
     · exact pw x (kk af))
 have e:l3 bE i (i+1) ks kids=⟨false,bE.keys.take i++ks++bE.keys.drop i,[],bE.kids.take i++kids++bE.kids.drop (i+1)⟩:=by unfold l3;rw[Nat.add_sub_cancel]
 rw[e]
 refine ⟨_,ab,?_,Q1 b3 r4 iU (cP _),?_⟩
 · have aA:(iB++cr).Perm (kids++(oD++cr)):=by
     rw[←er];exact BX.append_right _
   refine (List.Perm.append_left cl aA).trans ?_
   have aF:=(I_ (l₁:=cl) (l₂:=kids)).append_right (oD++cr)
   rw[er,er] at aF
   exact aF
 · show bE.keys.length≤(bE.keys.take i++ks++bE.keys.drop i).length
   have:=congrArg List.length (qq i bE.keys)
   simp only[eu] at this⊢
   omega
end Go.Proofs.YtplieiecebljmaaGreat
namespace Go.Proofs.YtplieiecebljmaaGreat
variable {lo hi:Option Key} {P Q:Nat→Option aL}
theorem MW {a b:aL} {s:Key}:a.keys.length+b.keys.length≤(g0 a s b).keys.length:=by
 unfold g0
 split
 · show _≤(a.keys++b.keys).length
   rw[eu];omega
 · show _≤(a.keys++s::b.keys).length
   rw[eu,oB];omega
theorem W5 {a b:aL} {s:Key}:(g0 a s b).leaf=a.leaf:=by
 unfold g0
 cases h:a.leaf<;>simp
theorem MX {h:Nat} {a b:aL} {s:Key} {kC hG Jk gZ:Option Key} {pa MS:List Nat} {MT MU:List bf} (aS:fC P h a kC hG pa MT) (ab:fC P h b Jk gZ MS MU) (aj:ew s) (U:cf a+cf b≤311):
   ((g0 a s b).leaf=true→cf (g0 a s b)≤310)∧((g0 a s b).leaf=false→cf (g0 a s b)≤335):=by
 have az:a.leaf=b.leaf:=by rw[aS.leaf,ab.leaf]
 have ak:a.leaf=true→a.vals.length=a.keys.length:=fun U=>by
   match h,aS with
   |0,aS=>exact aS.elim
   |1,aS=>exact aS.1.len
   |h+2,aS=>rw[aS.1] at U;cases U
 rw[W5,agK az ak]
 have:=aj.2
 constructor
 · intro e;rw[e];simp only[if_true];omega
 · intro e;rw[e];simp only[n2,if_false];omega
theorem agO {h:Nat} {bE e2:aL} {gY fa:Option Key} {i:Nat} {cl cr oD:List Nat} {bT pv b_:List bf} {k:Key} (b3:bE.leaf=false) (kZ:∀k∈bE.keys,ew k) (pw:∀x∈bE.kids,x<1600) (hlen:bE.kids.length=bE.keys.length+1) (hY:∀x n,P x=some n→cf n≤232)
   (hG:1≤i) (n5:i<bE.kids.length) (fy:kY gY fa k)
   (aT:kL (kB P (h+1)) lo gY (bE.keys.take i) (bE.kids.take i) cl bT) (bJ:nc (kB P (h+1)) hi fa (bE.keys.drop i) (bE.kids.drop (i+1)) cr b_) (ak:fC P (h+1) e2 gY fa oD pv) (U:cf e2<80):
   ∃ (o:aL) (GB:List Nat) (ab:i-1<bE.kids.length) (g2:i-1<bE.keys.length),P bE.kids[i-1]=some o∧cl.Perm (bE.kids[i-1]::GB)∧2≤o.keys.length∧
     ∀ (Q:Nat→Option aL) (ks:List Key) (kids:List Nat),zP Q (g0 o bE.keys[i-1] e2) ks kids→(∀x∈GB++(oD++cr),P x=Q x)→(∀x∈kids,x<1600)→
       ∃fi,fC Q (h+2) (l3 bE (i-1) (i+1) ks kids) lo hi fi (bT++(pv++b_))∧fi.Perm (kids++(GB++(oD++cr)))∧cf (l3 bE (i-1) (i+1) ks kids)≤cf bE+27∧bE.keys.length≤(l3 bE (i-1) (i+1) ks kids).keys.length+1:=by
 obtain ⟨s,Jk,cZ,r,hH,N,aj,rfl,r5,rfl,rfl,⟨hw,m,hm,kD⟩,GC,zQ⟩:=aT.last (by rw[dV];omega)
 have fm:(bE.keys.take i).length=i:=by rw[dV];omega
 have lD:(bE.kids.take i).length=i:=by rw[dV];omega
 have r5:s=bE.keys[i-1]'(by omega):=by
   rw[r5,Gm];congr 1;omega
 have Er:(bE.kids.take i)[(bE.kids.take i).length-1]'(by omega)=bE.kids[i-1]'(by omega):=by
   rw[Gm];congr 1;omega
 rw[Er] at hw hm
 obtain ⟨o,sJ,k0,rfl,_,p7⟩:=hw.v_
 rw[k0] at hm
 have kD:2≤o.keys.length:=by rw[Option.some.inj hm];exact kD
 clear hm
 subst r5
 have j1:=(show kB P (h+1) Jk (some (bE.keys[i-1]'(by omega))) (bE.kids[i-1]'(by omega)) (bE.kids[i-1]'(by omega)::sJ) N from ⟨hw,o,k0,kD⟩).in
 obtain ⟨x,af⟩:=I7 _ j1.1
 have r6:=kZ _ (fv (l:=bE.keys) (n:=i-1) (by omega))
 have BY:=fC.merge p7 ak r6 (fun c al=>qu (tG ((j1.2.2 x af).1 c al) ((j1.2.2 x af).2 _ rfl))) (fun c al=>qu (tG (fy.1 _ rfl) (fy.2 c al)))
 have dB:=MX p7 ak r6 (by have:=hY _ _ k0;omega)
 have GD:=MW (a:=o) (b:=e2) (s:=bE.keys[i-1]'(by omega))
 refine ⟨o,cZ++sJ,by omega,by omega,k0,BO,kD,fun Q ks kids aG J rj=> ?_⟩
 obtain ⟨iB,Q2,BX,iU,r4⟩:=BY.fits (by omega) dB.1 dB.2 aG fun x af=>J x (by
   rcases fe.1 af with af|af
   · exact uI _ (qp _ af)
   · exact qp _ (uI _ af))
 have sK:(bE.keys.take i).take ((bE.keys.take i).length-1)=bE.keys.take (i-1):=by rw[fm,Ja];congr 1;omega
 have agP:(bE.kids.take i).take ((bE.kids.take i).length-1)=bE.kids.take (i-1):=by rw[lD,Ja];congr 1;omega
 rw[sK,agP] at GC
 have ab:=fC.build GC bJ Q2 (fun x af=>J x (by
     rcases fe.1 af with af|af
     · exact uI _ (uI _ af)
     · exact qp _ (qp _ af)))
   (fun s aj=>by
     rcases fe.1 aj with aj|aj
     · rcases fe.1 aj with aj|aj
       · exact kZ s (kA aj)
       · exact iU s aj
     · exact kZ s (kk aj))
   (fun x af=>by
     rcases fe.1 af with af|af
     · rcases fe.1 af with af|af
       · exact pw x (kA af)
       · exact rj x af
     · exact pw x (kk af))
 have e:l3 bE (i-1) (i+1) ks kids=⟨false,bE.keys.take (i-1)++ks++bE.keys.drop i,[],bE.kids.take (i-1)++kids++bE.kids.drop (i+1)⟩:=by unfold l3;rw[Nat.add_sub_cancel]
 rw[e]
 refine ⟨_,by simpa[er] using ab,?_,Q1 b3 r4 iU (by omega),?_⟩
 · have aA:(iB++cr).Perm (kids++(sJ++(oD++cr))):=by
     have:=BX.append_right cr
     simpa[er] using this
   refine (List.Perm.append_left cZ aA).trans ?_
   have aF:=(I_ (l₁:=cZ) (l₂:=kids)).append_right (sJ++(oD++cr))
   simpa[er] using aF
 · show bE.keys.length≤(bE.keys.take (i-1)++ks++bE.keys.drop i).length+1
   simp only[eu,dV,fw]
   omega
end Go.Proofs.YtplieiecebljmaaGreat
namespace Go.Proofs.YtplieiecebljmaaGreat
variable {lo hi:Option Key} {P Q:Nat→Option aL}
theorem agQ {h:Nat} {bE e2:aL} {gY fa:Option Key} {i:Nat} {cl cr oD:List Nat} {bT pv b_:List bf} {k:Key} (b3:bE.leaf=false) (kZ:∀k∈bE.keys,ew k) (pw:∀x∈bE.kids,x<1600) (hlen:bE.kids.length=bE.keys.length+1) (hY:∀x n,P x=some n→cf n≤232)
   (n5:i+1<bE.kids.length) (fy:kY gY fa k)
   (aT:kL (kB P (h+1)) lo gY (bE.keys.take i) (bE.kids.take i) cl bT) (bJ:nc (kB P (h+1)) hi fa (bE.keys.drop i) (bE.kids.drop (i+1)) cr b_) (ak:fC P (h+1) e2 gY fa oD pv) (U:cf e2<80):
   ∃ (o:aL) (GF:List Nat) (ab:i+1<bE.kids.length) (g2:i<bE.keys.length),P bE.kids[i+1]=some o∧cr.Perm (bE.kids[i+1]::GF)∧2≤o.keys.length∧
     ∀ (Q:Nat→Option aL) (ks:List Key) (kids:List Nat),zP Q (g0 e2 bE.keys[i] o) ks kids→(∀x∈cl++(oD++GF),P x=Q x)→(∀x∈kids,x<1600)→
       ∃fi,fC Q (h+2) (l3 bE i (i+2) ks kids) lo hi fi (bT++(pv++b_))∧fi.Perm (kids++(cl++(oD++GF)))∧cf (l3 bE i (i+2) ks kids)≤cf bE+27∧bE.keys.length≤(l3 bE i (i+2) ks kids).keys.length+1:=by
 obtain ⟨s,gZ,r,gq,N,W6,aj,rfl,r5,rfl,rfl,⟨hw,m,hm,kD⟩,Jl⟩:=bJ.head (by rw[fw];omega)
 have r5:s=bE.keys[i]'(by omega):=by rw[r5,Jb];rfl
 have Er:(bE.kids.drop (i+1))[0]'(by rw[fw];omega)=bE.kids[i+1]'n5:=by rw[Jb]
 rw[Er] at hw hm
 obtain ⟨o,sJ,k0,rfl,_,p7⟩:=hw.v_
 rw[k0] at hm
 have kD:2≤o.keys.length:=by rw[Option.some.inj hm];exact kD
 clear hm
 subst r5
 have j1:=(show kB P (h+1) (some (bE.keys[i]'(by omega))) gZ (bE.kids[i+1]'n5) (bE.kids[i+1]'n5::sJ) N from ⟨hw,o,k0,kD⟩).in
 obtain ⟨x,af⟩:=I7 _ j1.1
 have r6:=kZ _ (fv (l:=bE.keys) (n:=i) (by omega))
 have BY:=fC.merge ak p7 r6 (fun c al=>qu (tG (fy.1 c al) (fy.2 _ rfl))) (fun c al=>qu (tG ((j1.2.2 x af).1 _ rfl) ((j1.2.2 x af).2 c al)))
 have dB:=MX ak p7 r6 (by have:=hY _ _ k0;omega)
 have GD:=MW (a:=e2) (b:=o) (s:=bE.keys[i]'(by omega))
 refine ⟨o,sJ++gq,n5,by omega,k0,List.Perm.refl _,kD,fun Q ks kids aG J rj=> ?_⟩
 obtain ⟨iB,Q2,BX,iU,r4⟩:=BY.fits (by omega) dB.1 dB.2 aG fun x af=>J x (by
   rcases fe.1 af with af|af
   · exact qp _ (uI _ af)
   · exact qp _ (qp _ (uI _ af)))
 rw[I9,I9] at Jl
 have ab:=fC.build aT Jl Q2 (fun x af=>J x (by
     rcases fe.1 af with af|af
     · exact uI _ af
     · exact qp _ (qp _ (qp _ af))))
   (fun s aj=>by
     rcases fe.1 aj with aj|aj
     · rcases fe.1 aj with aj|aj
       · exact kZ s (kA aj)
       · exact iU s aj
     · exact kZ s (kk aj))
   (fun x af=>by
     rcases fe.1 af with af|af
     · rcases fe.1 af with af|af
       · exact pw x (kA af)
       · exact rj x af
     · exact pw x (kk af))
 have e:l3 bE i (i+2) ks kids=⟨false,bE.keys.take i++ks++bE.keys.drop (i+1),[],bE.kids.take i++kids++bE.kids.drop (i+1+1)⟩:=rfl
 rw[e]
 refine ⟨_,by simpa[er] using ab,?_,Q1 b3 r4 iU (by omega),?_⟩
 · have aA:(iB++gq).Perm (kids++(oD++(sJ++gq))):=by
     have:=BX.append_right gq
     simpa[er] using this
   refine (List.Perm.append_left cl aA).trans ?_
   have aF:=(I_ (l₁:=cl) (l₂:=kids)).append_right (oD++(sJ++gq))
   simpa[er] using aF
 · show bE.keys.length≤(bE.keys.take i++ks++bE.keys.drop (i+1)).length+1
   simp only[eu,dV,fw]
   omega
end Go.Proofs.YtplieiecebljmaaGreat
namespace Go.Proofs.YtplieiecebljmaaGreat
variable {lo hi:Option Key} {P:Nat→Option aL}
def d_ (ks:List Key) (k:Key):Nat:=ks.findIdx fun s=>decide (¬ck s k)
theorem GG (ks:List Key) (k:Key):d_ ks k≤ks.length:=List.findIdx_le_length
theorem Es {ks:List Key} {k:Key} {j:Nat} (h:j<d_ ks k) (a6:j<ks.length):ck ks[j] k:=by
 have:=List.not_of_lt_findIdx h
 simpa using this
theorem GH {ks:List Key} {k:Key} (aj:ks.Pairwise ck) {j:Nat} (h:d_ ks k≤j) (a6:j<ks.length):ic k ks[j]:=by
 have U:d_ ks k<ks.length:=by omega
 have ad:ic k ks[d_ ks k]:=by
   have:=List.findIdx_getElem (p:=fun s=>decide (¬ck s k)) (xs:=ks) (w:=U)
   exact WY.1 (dU this)
 rcases hE (d_ ks k) j with ar|ar
 · exact qu (tG ad (Gn.1 aj _ _ U a6 ar))
 · have:d_ ks k=j:=by omega
   subst this;exact ad
theorem agR {α:Type} {f:α→Bool} {L:List α} {i:Nat} (U:∀x∈L.take i,f x=true) (ad:∀x∈L.drop i,f x=false):L.filter f=L.take i:=by
 conv=>lhs;rw[←qq i L]
 rw[BN,uH.2 U,D_.2 (fun x af=>by rw[ad x af];decide),l2]
theorem W7 {α:Type} {f:α→Bool} {L:List α} {i:Nat} (U:∀x∈L.take i,f x=false) (ad:∀x∈L.drop i,f x=true):L.filter f=L.drop i:=by
 conv=>lhs;rw[←qq i L]
 rw[BN,D_.2 (fun x af=>by rw[U x af];decide),uH.2 ad,rZ]
theorem Q3 {ks vs:List Key} {i:Nat} {x:bf} (h:x∈(ks.zip vs).take i):∃ (j:Nat) (a6:j<ks.length),j<i∧x.1=ks[j]:=by
 obtain ⟨j,a6,rfl⟩:=List.mem_take_iff_getElem.1 h
 have U:j<(ks.zip vs).length:=by omega
 rw[Ec] at U
 exact ⟨j,by omega,by omega,by rw[MJ]⟩
theorem Q4 {ks vs:List Key} {i:Nat} {x:bf} (h:x∈(ks.zip vs).drop i):∃ (j:Nat) (a6:j<ks.length),i≤j∧x.1=ks[j]:=by
 obtain ⟨j,a6,rfl⟩:=List.mem_drop_iff_getElem.1 h
 have U:i+j<(ks.zip vs).length:=by omega
 rw[Ec] at U
 exact ⟨i+j,by omega,by omega,by rw[MJ]⟩
theorem agS {ks vs:List Key} {k v:Key} (aj:ks.Pairwise ck):jY (ks.zip vs) k v=(ks.zip vs).take (d_ ks k)++(k,v)::(ks.zip vs).drop (if ks[d_ ks k]? =some k then d_ ks k+1 else d_ ks k):=by
 unfold jY
 rw[agR (f:=fun p:bf=>decide (ck p.1 k)) (i:=d_ ks k) (fun x af=>by
     obtain ⟨j,a6,U,e⟩:=Q3 af
     rw[e];exact il (Es U a6)) (fun x af=>by
     obtain ⟨j,a6,U,e⟩:=Q4 af
     rw[e];exact sH (GH aj U a6))]
 congr 2
 split
 · rename_i he
   obtain ⟨a9,he⟩:=qs.1 he
   refine W7 (fun x af=> ?_) (fun x af=> ?_)
   · obtain ⟨j,a6,U,e⟩:=Q3 af
     rw[e]
     refine sH ?_
     rcases hE j (d_ ks k) with ad|ad
     · exact zN (Es ad a6)
     · have:j=d_ ks k:=by omega
       subst this;rw[he];exact zM _
   · obtain ⟨j,a6,U,e⟩:=Q4 af
     rw[e]
     refine il ?_
     have:=Gn.1 aj _ j a9 a6 (by omega)
     rwa[he] at this
 · rename_i he
   refine W7 (fun x af=> ?_) (fun x af=> ?_)
   · obtain ⟨j,a6,U,e⟩:=Q3 af
     rw[e]
     exact sH (zN (Es U a6))
   · obtain ⟨j,a6,U,e⟩:=Q4 af
     rw[e]
     refine il ?_
     rcases El.1 (GH aj U a6) with ad|ad
     · exact ad
     · have a9:d_ ks k<ks.length:=by omega
       rcases hE (d_ ks k) j with ar|ar
       · exact tG (GH aj (cP _) a9) (Gn.1 aj _ _ a9 a6 ar)
       · have:j=d_ ks k:=by omega
         subst this
         exact absurd ((g8 a9).trans (congrArg some ad.symm)) he
end Go.Proofs.YtplieiecebljmaaGreat
namespace Go.Proofs.YtplieiecebljmaaGreat
open Go b7
section
theorem MY {n:Nat} (h:n<256):((UInt8.ofNat n).toNat:Nat)=n:=by
 simp[uL h]
end
section
theorem W8 {src dst:TypeId} {w:World} {s:aa} {px:List Int} (aj:Tryz.prog.underlying src=some (.slice ah.uint8)) (hd:Tryz.prog.underlying dst=some .string) (h:Src 1 w s (px.map (.int .u8))):
   Sem.run Tryz.prog (convert src dst (.slice s.a s.len s.cap)) w= .ok (.string (S (px.map fun n=>UInt8.ofNat n.toNat))) w:=by
 rw[agT aj (by kernel_rfl) hd h,agU]
end
section
theorem Q5 {w:World} {A:Addr}:∀ (vs:List Value) (i:Nat),(∀j v,vs[j]? =some v→w.cell? (A.add (i+j))=some v)→ey w A i vs.length=some vs
 | [],_,_=>rfl
 |v::vs,i,h=>by
   have b3:=h 0 v rfl
   have dw:=Q5 vs (i+1) (fun j u a6=>by rw[show i+1+j=i+(j+1) by omega];exact h (j+1) u (by simpa using a6))
   rw[zE] at b3
   simp[ey,b3,dw]
def bg (l:List UInt8):List Value:=l.map fun b=>Value.int .u8 ((b.toNat:Nat):Int)
theorem kl (l:List UInt8):(bg l).length=l.length:=by simp[bg]
theorem GI {l:List UInt8} {i:Nat} (h:i<l.length):(bg l)[i]? =some (.int .u8 ((l[i].toNat:Nat):Int)):=by simp[bg,h]
end
section
theorem agV (c:UInt8):(((c.toNat:Nat):Int).toNat.toUInt8)=c:=by simp
end
section
theorem x5 (l:List UInt8):∀v∈bg l,Plain v:=by
 intro v ak
 obtain ⟨n,_,rfl⟩:=p4.1 ak
 trivial
theorem Et (a b:List UInt8):bg (a++b)=bg a++bg b:=by simp[bg]
theorem take_succ {α:Type} (ls:List α) {i:Nat} (h:i<ls.length):ls.take (i+1)=ls.take i++ [ls[i]]:=by
 rw[uK h]
end
section
structure W9 where
 atk:Bool
 b:List UInt8
 h:b.length=16
 deriving DecidableEq
def Var (w:World) (b:Nat) (vs:List Value) (T:TypeId):Prop:=cn w b vs.toArray T
section
variable {w w':World} {b:Nat} {vs us:List Value} {T:TypeId}
theorem Var.new (w:World) (vs:List Value) (T:TypeId):Var (w.alloc (.cells vs.toArray T)) w.heap.size vs T:=cn.new _ _ _
theorem Var.rd (h:Var w b vs T) {n:Nat} (aD:vs.length=n):ey w ⟨b,0,none⟩ 0 n=some vs:=by
 have:=GJ h n 0 0 (by simp[aD])
 rw[this]
 simp[←aD]
theorem Var.agW (h:Var w b vs T) {o n:Nat} (aD:o+n≤vs.length):ey w ⟨b,o,none⟩ 0 n=some ((vs.drop o).take n):=by
 have:=GJ h n o 0 (by simpa using aD)
 rw[this]
 simp
theorem Var.cell (h:Var w b vs T) {i:Nat}:w.cell? ⟨b,i,none⟩=vs[i]? :=by
 rw[cn.cell h];simp
theorem Var.ext (h:Var w b vs T) (af:Ext w w'):Var w' b vs T:=cn.ext h af
theorem Var.an {W:Nat→Prop} (h:Var w b vs T) (af:ao W w w') (ab:¬W b):Var w' b vs T:=cn.an h af ab
theorem Var.drew (h:Var w b vs T):Var w.drew b vs T:=cn.drew h
theorem Var.lt (h:Var w b vs T):b<w.heap.size:=cn.lt h
theorem Var.dr (h:Var w b vs T) (aD:us.length=vs.length) (aT:∀v∈us,Plain v):cM w ⟨b,0,none⟩ us:=cn.dr h 0 us (by simp[aD]) aT
theorem Var.put (h:Var w b vs T) (aD:us.length=vs.length):Var (setCells w ⟨b,0,none⟩ 0 us) b us T:=by
 have:=cn.Jm us 0 0 h
 simp only[zE] at this
 have e:(oE vs.toArray 0 us)=us.toArray:=by
   have U:=MZ us vs.toArray 0 (by simp[aD])
   rw[gR,aD,List.take_zero,rZ,gX (by rw[Array.length_toList,rk];simp)] at U
   apply Array.toList_inj.1
   rw[U]
 rwa[e] at this
end
theorem bM {w:World} {K:World→Prop} (h:K w):ay w K:=h
theorem cp {w:World} {c:Array Value} {vs:List Value} {T:TypeId} (al:c=vs.toArray) {K:World→Prop} (h:∀w',Var w' w.heap.size vs T→Ext w w'→w'.heap.size=w.heap.size+1→K w'):ay (w.alloc (.cells c T)) K:=by
 subst al
 exact h _ (Var.new _ _ _) (ao.alloc (.refl _ _) _) (by simp)
theorem ec {w:World} {b:Nat} {vs us l:List Value} {T:TypeId} (ak:Var w b vs T) (aD:us.length=vs.length) (az:l=us) {K:World→Prop} (h:∀w',Var w' b us T→ao (fun q=>q=b) w w'→w'.heap.size=w.heap.size→K w'):ay (setCells w ⟨b,0,none⟩ 0 l) K:=by
 subst az
 refine h _ (ak.put aD) (ao.zR (.refl _ _) l 0) ?_
 have:∀ (vs:List Value) (i:Nat) (w:World),(setCells w ⟨b,0,none⟩ i vs).heap.size=w.heap.size:=by
   intro vs
   induction vs with
   |nil=>intro i w;rfl
   |cons v vs dw=>intro i w;rw[setCells,dw];simp[World.setCell]
 exact this _ _ _
theorem Ext.e3 {bB w w':World} {b:Nat} (h:Ext bB w) (al:ao (fun q=>q=b) w w') (ab:bB.heap.size≤b):Ext bB w':=Ext.gr h al (fun k ae=>by subst ae;exact ab)
theorem Var.agX {w:World} {b o n c:Nat} {vs:List Value} {T:TypeId} {l:List UInt8} (h:Var w b vs T) (aD:o+n≤vs.length) (az:(vs.drop o).take n=bg l):Src 1 w ⟨some ⟨b,o,none⟩,n,c⟩ (bg l):=by
 have hlen:n=l.length:=by
   have:=congrArg List.length az
   rw[dV,fw,kl] at this
   omega
 refine ⟨by rw[kl];show _=n*1;omega,(fun h=>by cases h),fun a aS=> ?_⟩
 cases aS
 show ey w ⟨b,o,none⟩ 0 (n*1)=_
 rw[ml,h.agW aD,az]
theorem Eu:qx Tryz.prog ah.cd ah.uint8 1 1:=⟨by kernel_rfl⟩
theorem agY {zS ed ty:TypeId} {w:World} {b o dl Ev:Nat} {s:aa} {l:List UInt8} (hu:Tryz.prog.underlying zS=some (.slice ah.uint8)) (aj:Src 1 w s (bg l)) (hle:s.len≤dl) (gI:cM w ⟨b,o,none⟩ (bg l)):
   Sem.run Tryz.prog (Builtin.copy_ #[zS,ed] ty #[.slice (some ⟨b,o,none⟩) dl Ev, .slice s.a s.len s.cap]) w= .ok (.int .i64 ((s.len:Nat):Int)) (setCells w ⟨b,o,none⟩ 0 (bg l)):=by
 have agZ:Nat.min s.len dl=s.len:=r0 hle
 have bI:=qy (P:=Tryz.prog) (w:=w) (t:=ah.uint8) (d:= .int .u8) (by kernel_rfl)
 have al:Tryz.prog.cellsOf ah.uint8=1:=by kernel_rfl
 rw[al] at bI
 have aG:=GK (P:=Tryz.prog) aj
 have BZ:=GL (P:=Tryz.prog) (A:=⟨b,o,none⟩) (bg l) 0 w (by simpa using gI.1) gI.2
 simp[Builtin.copy_,fX hu,Builtin.lenOf,bI,agZ,aG,BZ]
 rfl
end
section
def bZ (c k:Nat):Nat:=c/2^(8-k)*2^(8-k)
def x4 (n i:Nat):Nat:=min (n-8*i) 8
end
section
theorem Src.sub {w:World} {s:aa} {vs:List Value} {lo hi:Nat} (h:Src 1 w s vs) (al:s.len≤s.cap) (U:lo≤hi) (ad:hi≤s.len):Src 1 w ⟨a3 s.a 1 lo s.cap,hi-lo,s.cap-lo⟩ ((vs.drop lo).take (hi-lo)):=by
 have az:vs.length=s.len:=by have:=h.len;omega
 refine ⟨by simp;omega,fun aD=> ?_,fun a aS=> ?_⟩
 · have sL:s.a=none:=by
     unfold a3 at aD
     split at aD
     · exact aD
     · simpa using aD
   simp[h.nil sL]
 · show ey w a 0 ((hi-lo)*1)=_
   by_cases e:hi=lo
   · rw[show hi-lo=0 by omega];simp[ey]
   · have ax:∃A,s.a=some A∧a=A.add lo:=by
       unfold a3 at aS
       rw[if_neg (by omega)] at aS
       cases aj:s.a with
       |none=>rw[aj] at aS;cases aS
       |some A=>rw[aj] at aS;exact ⟨A,rfl,by simpa using aS.symm⟩
     obtain ⟨A,ax,rfl⟩:=ax
     have aU:=h.rd A ax
     have:=Q5 (w:=w) (A:=A.add lo) ((vs.drop lo).take (hi-lo)) 0 (fun j v a6=>by
       rw[add_add]
       have Ew:j<hi-lo:=by have:=(qs.1 a6).1;simp at this;omega
       rw[List.getElem?_take_of_lt Ew,MK] at a6
       have:=GM aU a6
       simpa using this)
     have bm:((vs.drop lo).take (hi-lo)).length=hi-lo:=by simp;omega
     rw[bm] at this
     rw[ml]
     exact this
def rl (l:List UInt8):Nat:=l.foldl (fun n c=>n*256+c.toNat) 0
theorem ag0 (l m:List UInt8):rl (l++m)=m.foldl (fun n c=>n*256+c.toNat) (rl l):=by simp[rl,List.foldl_append]
theorem Q6 (l:List UInt8) (c:UInt8):rl (l++ [c])=rl l*256+c.toNat:=by rw[ag0];rfl
theorem Jn:∀ (k:Nat) (l:List UInt8),l.length=k→rl l<256^k:=by
 intro k
 induction k with
 |zero=>intro l h;rw[zF.1 h];simp[rl]
 |succ k dw=>
   intro l h
   obtain ⟨m,c,rfl⟩:∃m c,l=m++ [c]:=by
     rcases List.eq_nil_or_concat l with rfl|⟨m,c,hm⟩
     · simp at h
     · exact ⟨m,c,by rw[hm,List.concat_eq_append]⟩
   rw[Q6,Nat.pow_succ]
   have:=dw m (by simpa using h)
   have:=Gp c
   omega
theorem ag1 {a b:Nat} (aS:a<2^64) (ab:b<2^64):B0 .u64 (a:Int) (b:Int)=((a|||b:Nat):Int):=by
 have aY:BitVec.ofInt 64 (a:Int)=BitVec.ofNat 64 a:=by simp
 have bm:BitVec.ofInt 64 (b:Int)=BitVec.ofNat 64 b:=by simp
 unfold B0
 show IntKind.u64.wrap (((BitVec.ofInt 64 (a:Int)|||BitVec.ofInt 64 (b:Int)).toNat:Nat):Int)=_
 rw[aY,bm,BitVec.toNat_or,BitVec.toNat_ofNat,BitVec.toNat_ofNat,uL aS,uL ab]
 have:a|||b<2^64:=Nat.or_lt_two_pow aS ab
 have:a|||b<18446744073709551616:=this
 rw[wc (by omega) (by omega)]
theorem ag2 (n c:Nat) (al:c<256):n*256|||c=n*256+c:=by
 have:=Nat.shiftLeft_add_eq_or_of_lt (i:=8) (b:=c) (by simpa using al) n
 rw[Nat.shiftLeft_eq] at this
 exact this.symm
theorem sM {s:aa} {l:List UInt8} {w:World} (aj:Src 1 w s (bg l)) (al:s.len≤s.cap) {a k:Nat} (ae:1≤k∧k≤8) (aS:a+k≤l.length) (az:l.length≤1000000000000):
   aQ Tryz.prog F.sM #[.slice s.a s.len s.cap, .int .i64 a, .int .i64 k] w (fun v w'=>v= .tuple #[.int .u64 ((rl ((l.drop a).take k):Nat):Int), .bool true]∧w=w'):=by
 refine W.W_ s a k w _ ?_
 (delta W.sM Ex aE a_ a8 iq aC;dsimp only)
 have gA:s.len=l.length:=by have:=aj.len;rw[kl] at this;omega
 refine Calls.mono (W.Q7 s a k w (fun v w'=>v= .tuple #[.slice (a3 s.a 1 a s.cap) k (s.cap-a), .bool true]∧w=w') ?_) ?_
 · delta W.uP aE aC
   rw[cE (n:=((s.len:Nat):Int)-(a:Int)) (by omega) (by omega),cE (n:=(a:Int)+(k:Int)) (by omega) (by omega)]
   refine ⟨fun h=> ?_,fun _=>⟨⟨by omega,by omega⟩,⟨by omega,by omega⟩,?_,rfl⟩⟩
   · simp only[xZ,fI] at h;omega
   · rw[show Int.toNat ((a:Int)+(k:Int))-Int.toNat (a:Int)=k by omega];rfl
 rintro _ _ ⟨_,rfl,rfl,rfl⟩
 refine ⟨⟨a3 s.a 1 a s.cap,k,s.cap-a⟩,true,rfl,e4 (fun b w'=>b=false∧w=w') (fun q J=>⟨fun h=>by simp at h,fun _=> ?_⟩) ?_⟩
 · refine Calls.mono (W.Xa k w (fun v w'=>v= .bool true∧w=w') ⟨?_,rfl⟩) ?_
   · have U:decide ((k:Int)≥1)=true:=il (by omega)
     have ad:decide ((k:Int)≤8)=true:=il (by omega)
     rw[U,ad];rfl
   · rintro _ _ ⟨_,rfl,rfl,rfl⟩
     exact ⟨_,rfl,J _ _ ⟨rfl,rfl⟩⟩
 rintro _ _ ⟨rfl,rfl⟩
 have iK:=Src.sub aj al (lo:=a) (hi:=a+k) (by omega) (by omega)
 rw[show a+k-a=k by omega] at iK
 have iK:Src 1 w ⟨a3 s.a 1 a s.cap,k,s.cap-a⟩ (bg ((l.drop a).take k)):=by
   simpa[bg,Gk,Ee] using iK
 obtain ⟨m,hm⟩:∃m,m=(l.drop a).take k:=⟨_,rfl⟩
 have n6:m.length=k:=by rw[hm];simp;omega
 rw[←hm] at iK⊢
 refine ⟨fun h=>by simp at h,fun _=>⟨fun n i w'=>w=w'∧∃j:Nat,i=j∧j≤k∧n=((rl (m.take j):Nat):Int),fun _ i _=>((k:Int)-i).toNat,⟨rfl,0,rfl,fx _,rfl⟩,?_⟩⟩
 rintro _ _ _ ⟨rfl,j,rfl,a6,rfl⟩
 refine ⟨fun a9=> ?_,fun cm=> ?_⟩
 · have a9:((j:Int)<((k:Nat):Int)):=dU a9
   have a9:j<k:=by omega
   obtain ⟨A,ax,ab,k1⟩:=iK.at (GI (l:=m) (i:=j) (by omega))
   have U:=Jn j (m.take j) (by simp;omega)
   have ad:256^j≤256^7:=ML (by omega) (by omega)
   have ad:256^j≤72057594037927936:=ad
   have ag3:(m[j]).toNat<256:=Gp _
   have aY:((rl (m.take j):Nat):Int)*2^(min (Int.toNat 8) 64)=((rl (m.take j)*256:Nat):Int):=by
     show ((rl (m.take j):Nat):Int)*256=_;omega
   refine ⟨A,ax,ab,_,k1,by decide,?_⟩
   rw[aY,wc (n:=((rl (m.take j)*256:Nat):Int)) (by omega) (by omega),wc (n:=((m[j].toNat:Nat):Int)) (by omega) (by omega),ag1 (by show _<18446744073709551616;omega) (by show _<18446744073709551616;omega),ag2 _ _ ag3,cE (n:=(j:Int)+1) (by omega) (by omega)]
   refine ⟨⟨rfl,j+1,by omega,by omega,?_⟩,?_⟩
   · rw[take_succ m (by omega),Q6]
   · show ((k:Int)-((j:Int)+1)).toNat<((k:Int)-(j:Int)).toNat
     omega
 · have cm:¬((j:Int)<((k:Nat):Int)):=ff cm
   have cm:j=k:=by omega
   subst cm
   exact ⟨by rw[gX (by omega)],rfl⟩
end
section
theorem Q8 {w:World} {s:aa} {l:List UInt8} (h:Src 1 w s (bg l)) (az:l.length≤1000000):
   aQ Tryz.prog F.l4 #[.slice s.a s.len s.cap] w (fun v w'=>∃au:aa,v= .slice au.a au.len au.cap∧b6 1 ah.uint8 w' au (bg l)∧Ext w w'∧∀k,aR au k→w.heap.size≤k):=by
 have gA:s.len=l.length:=by have:=h.len;rw[kl] at this;omega
 refine W.ag4 s w _ ?_
 delta W.l4 aE ai
 refine ⟨fun aS=> ?_,fun _=> ?_⟩
 · have aS:s.a=none:=by simpa using aS
   rw[h.nil aS]
   exact ⟨⟨none,0,0⟩,rfl,b6.none _ _ _, .refl _ _,fun k ae=>(r7 k ae).elim⟩
 · obtain ⟨au,w',U,ad,ar,aI,aW,_⟩:=Eu.clone (ez:=ah.cd) h (x5 l) (by omega)
   exact bM ⟨au,w',U,au,rfl,ad,aI,aW⟩
theorem ag5 {w:World} {s:aa} {l:List UInt8} (c:UInt8) (bJ:b6 1 ah.uint8 w s (bg l)) (aD:l.length≤1000000):
   ∃ (au:aa) (w':World),Sem.run Tryz.prog (Builtin.append_ #[ah.cd,ah.cd] ah.cd #[.slice s.a s.len s.cap, .slice (some ⟨w.heap.size,0,none⟩) 1 1]) (w.alloc (.cells #[.int .u8 ((c.toNat:Nat):Int)] ah.uint8))= .ok (.slice au.a au.len au.cap) w'∧
     b6 1 ah.uint8 w' au (bg (l++ [c]))∧ao (aR s) w w'∧(∀k,aR au k→aR s k∨w.heap.size≤k):=by
 have gA:s.len=l.length:=by have:=bJ.1;rw[kl] at this;omega
 obtain ⟨au,w',U,ad,ar,aI,aW⟩:=Eu.push (ez:=ah.cd) (w:=w) (s:=s) (xs:=[.int .u8 ((c.toNat:Nat):Int)]) rfl bJ (fun v ak=>by rw[nC.1 ak];trivial) (by omega)
 exact ⟨au,w',U,by rw[Et];exact ad,aI,aW⟩
def gh (n k:Nat):List UInt8:=(List.range k).map fun j=>UInt8.ofNat (n/256^(k-1-j)%256)
theorem n7 (n k:Nat):(gh n k).length=k:=by simp[gh]
theorem o2 {s:aa} {l:List UInt8} {w:World} (aj:Src 1 w s (bg l)) (az:l.length≤100000) {n k:Nat} (aD:n<2^64) (ae:1≤k∧k≤8):
   aQ Tryz.prog F.o2 #[.slice s.a s.len s.cap, .int .u64 n, .int .i64 k] w (fun v w'=>∃au:aa,v= .slice au.a au.len au.cap∧b6 1 ah.uint8 w' au (bg (l++gh n k))∧Ext w w'∧∀q,aR au q→w.heap.size≤q):=by
 have aD:n<18446744073709551616:=aD
 refine W.ag6 s n k w _ ?_
 (delta W.o2 dL a_ aE aC ai;dsimp only)
 refine (Q8 aj (by omega)).use ?_
 rintro _ ag ⟨s1,rfl,k0,bz,qz⟩
 refine ⟨s1,rfl,Calls.mono (W.Xa k ag (fun v w'=>v= .bool true∧ag=w') ⟨?_,rfl⟩) ?_⟩
 · have U:decide ((k:Int)≥1)=true:=il (by omega)
   have ad:decide ((k:Int)≤8)=true:=il (by omega)
   rw[U,ad];rfl
 rintro _ _ ⟨_,rfl,rfl,rfl⟩
 rw[cE (n:=(k:Int)-1) (by omega) (by omega)]
 refine ⟨_,rfl,fun h=>by simp at h,fun _=>⟨fun t i w'=>∃j:Nat,i=(k:Int)-1-j∧j≤k∧Ext w w'∧(∀q,aR t q→w.heap.size≤q)∧b6 1 ah.uint8 w' t (bg (l++(gh n k).take j)),fun _ i _=>(i+1).toNat,⟨0,by omega,by omega,bz,qz,by simpa using k0⟩,?_⟩⟩
 rintro t _ aw ⟨j,rfl,a6,cv,py,uQ⟩
 refine ⟨fun a9=> ?_,fun cm=> ?_⟩
 · have a9:j<k:=by have:=dU a9;omega
   rw[cE (n:=8*((k:Int)-1-j)) (by omega) (by omega),cE (n:=(k:Int)-1-j-1) (by omega) (by omega)]
   have ak:IntKind.wrap .u8 (Int.fdiv (n:Int) (2^(min (Int.toNat (8*((k:Int)-1-j))) 64)))=((((UInt8.ofNat (n/256^(k-1-j)%256)).toNat:Nat)):Int):=by
     rw[MY (sI _ (by omega)),show min (Int.toNat (8*((k:Int)-1-j))) 64=8*(k-1-j) by omega,ag7]
     have aY:((2:Int)^(8*(k-1-j)))=((256^(k-1-j):Nat):Int):=by
       rw[Int.pow_mul]
       simp
     rw[aY,Int.fdiv_eq_ediv_of_nonneg _ (Int.natCast_nonneg _)]
     generalize 256^(k-1-j)=z
     rfl
   rw[ak]
   obtain ⟨bQ,aZ,U,ad,ar,aI⟩:=ag5 (UInt8.ofNat (n/256^(k-1-j)%256)) uQ (by simp[gh];omega)
   refine ⟨by omega,bM ⟨bQ,aZ,U,⟨j+1,by omega,by omega,Ext.gr cv ar py,fun q J=> ?_,?_⟩,?_⟩⟩
   · rcases aI q J with h|h
     · exact py q h
     · exact iT cv.size h
   · rw[take_succ _ (by rw[n7];exact a9),←er]
     have:(gh n k)[j]'(by rw[n7];exact a9)=UInt8.ofNat (n/256^(k-1-j)%256):=by simp[gh]
     rw[this];exact ad
   · show ((k:Int)-1-j-1+1).toNat<((k:Int)-1-j+1).toNat
     omega
 · have cm:j=k:=by have:=ff cm;omega
   subst cm
   rw[gX (by rw[n7];exact cP _)] at uQ
   exact ⟨t,rfl,uQ,cv,py⟩
end
section
theorem ag8 (n k:Nat):gh n (k+1)=gh (n/256) k++ [UInt8.ofNat (n%256)]:=by
 unfold gh
 rw[List.range_succ,n3]
 congr 1
 · apply List.map_congr_left
   intro j a6
   have:=v7.1 a6
   rw[show k+1-1-j=(k-1-j)+1 by omega,Nat.pow_succ,Nat.mul_comm,←Nat.div_div_eq_div_mul]
 · simp
theorem Q9:∀ (k n:Nat),n<256^k→rl (gh n k)=n
 |0,n,h=>by
   have:n=0:=by simpa using h
   subst this;rfl
 |k+1,n,h=>by
   rw[Nat.pow_succ] at h
   rw[ag8,Q6,Q9 k (n/256) (by omega),MY (sI _ (by omega))]
   omega
def dX (n:aL):Prop:=oC n∨QR n
def B1 (l:Key):List UInt8:=UInt8.ofNat l.length::l
def n8 (n:aL) (i:Nat):List UInt8:=B1 (n.keys.getD i [])++if n.leaf then B1 (n.vals.getD i []) else gh (n.kids.getD (i+1) 0) 2
def pz (n:aL) (i m:Nat):List UInt8:=((List.range' i m).map (n8 n)).flatten
theorem ag9 (n:aL) (i m:Nat):pz n i (m+1)=n8 n i++pz n (i+1) m:=rfl
theorem Q_ (n:aL) (m:Nat):pz n 0 (m+1)=pz n 0 m++n8 n m:=by
 unfold pz
 rw[List.range'_concat,n3,List.flatten_append]
 simp
def preB (n:aL):List UInt8:=UInt8.ofNat n.keys.length::if n.leaf then [] else gh (n.kids.getD 0 0) 2
def r8 (n:aL):List UInt8:=preB n++pz n 0 n.keys.length
theorem B2 (l:Key):(B1 l).length=l.length+1:=rfl
theorem dX.keys {n:aL} (h:dX n):MQ n:=by
 rcases h with h|h
 · exact h.toMQ
 · exact h.toMQ
theorem dX.vals {n:aL} (h:dX n):∀v∈n.vals,v.length≤24:=by
 rcases h with h|h
 · exact h.vals
 · rw[h.vals];simp
theorem dX.kids {n:aL} (h:dX n):∀k∈n.kids,k<1600:=by
 rcases h with h|h
 · rw[h.kids];simp
 · exact h.kids
theorem M0 {α:Type} {l:List α} {i:Nat} {d:α} (h:i<l.length):l.getD i d∈l:=by
 rw[p5,g8 h]
 exact fv h
theorem Ra {n:aL} (h:dX n) {i:Nat} (hi:i<n.keys.length):(cellsOf n)[i]? =some (n8 n i).length:=by
 unfold cellsOf n8
 rcases h with h|h
 · rw[h.leaf]
   simp only[if_true]
   have ak:i<n.vals.length:=by rw[h.len];exact hi
   rw[List.getElem?_zipWith,g8 hi,g8 ak]
   simp[p5,g8 hi,g8 ak,B2]
   omega
 · rw[h.inner]
   simp only[n2,if_false]
   rw[List.getElem?_map,g8 hi]
   simp[p5,g8 hi,B2,n7]
   omega
theorem GN {n:aL} (h:dX n):(cellsOf n).length=n.keys.length:=by
 unfold cellsOf
 rcases h with h|h
 · rw[h.leaf];simp[h.len]
 · rw[h.inner];simp
theorem Rb {n:aL} (h:dX n):∀m,m≤n.keys.length→(pz n 0 m).length=((cellsOf n).take m).sum
 |0,_=>by simp[pz]
 |m+1,hm=>by
   have az:m<(cellsOf n).length:=by rw[GN h];omega
   have U:=Ra h (i:=m) (by omega)
   rw[g8 az] at U
   have U:(cellsOf n)[m]=(n8 n m).length:=Option.some.inj U
   rw[Q_,eu,Rb h m (by omega),Gz az,U]
theorem Rc {n:aL} (h:dX n):(r8 n).length=cf n:=by
 have e:((cellsOf n).take n.keys.length).sum=(cellsOf n).sum:=by rw[gX (by rw[GN h];exact cP _)]
 unfold r8 cf preB
 rw[eu,Rb h _ (cP _),e]
 cases n.leaf<;>simp[n7]
theorem M1 {n:aL} (h:dX n):2*n.keys.length≤cf n:=by
 have U:∀l:List Nat,(∀x∈l,2≤x)→2*l.length≤l.sum:=by
   intro l
   induction l with
   |nil=>simp
   |cons a l dw=>
     intro h
     have:=h a (by simp)
     have:=dw fun x af=>h x (by simp[af])
     simp only[oB,I8];omega
 have ad:=U (cellsOf n) (by
   intro x af
   obtain ⟨i,hi,rfl⟩:=na af
   have fa:i<n.keys.length:=by rwa[←GN h]
   have ar:=Ra h fa
   rw[g8 hi] at ar
   rw[Option.some.inj ar]
   unfold n8
   rw[eu,B2]
   split
   · rw[B2];omega
   · rw[n7];omega)
 rw[GN h] at ad
 unfold cf
 omega
abbrev k2:=List UInt8×Bool
def pA (r:k2) (k:Nat):List UInt8×k2:=if r.2=false∨r.1.length<k then ([],(r.1,false)) else (r.1.take k,(r.1.drop k,true))
def rdNum (r:k2) (k:Nat):Nat×k2:=(if (pA r k).1.length=k then rl (pA r k).1 else 0,(pA r k).2)
def sN (r:k2):List UInt8×k2:=pA (rdNum r 1).2 (rdNum r 1).1
def Ey (s:aL×k2):aL×k2:=
 let t:=sN s.2
 if s.1.leaf then (⟨s.1.leaf,s.1.keys++ [t.1],s.1.vals++ [(sN t.2).1],s.1.kids⟩,(sN t.2).2)
 else (⟨s.1.leaf,s.1.keys++ [t.1],s.1.vals,s.1.kids++ [(rdNum t.2 2).1]⟩,(rdNum t.2 2).2)
def p8 (s:aL×k2):Nat→aL×k2
 |0=>s
 |i+1=>Ey (p8 s i)
def zT (leaf:Bool) (r:k2):aL×k2:=if leaf then (⟨true,[],[],[]⟩,r) else (⟨false,[],[],[(rdNum r 2).1]⟩,(rdNum r 2).2)
def qA (leaf:Bool) (b:List UInt8):aL×k2:=p8 (zT leaf (rdNum (b,true) 1).2) (rdNum (b,true) 1).1
def x6 (leaf:Bool) (b:List UInt8) (n:aL):Prop:=dX n∧n.leaf=leaf∧cf n≤232∧r8 n=b
theorem Xb (a b:List UInt8):pA (a++b,true) a.length=(a,(b,true)):=by
 unfold pA
 rw[if_neg (by simp)]
 simp
theorem M3 {n k:Nat} (b:List UInt8) (h:n<256^k):rdNum (gh n k++b,true) k=(n,(b,true)):=by
 unfold rdNum
 have:=Xb (gh n k) b
 rw[n7] at this
 rw[this]
 simp[n7,Q9 k n h]
theorem Xc (n:Nat) (h:n<256): [UInt8.ofNat n]=gh n 1:=by
 simp[gh,uL h]
theorem Rd (l:Key) (b:List UInt8) (h:l.length<256):sN (B1 l++b,true)=(l,(b,true)):=by
 have e:B1 l++b=gh l.length 1++(l++b):=by
   rw[←Xc _ h];rfl
 unfold sN
 rw[e,M3 _ (by simpa using h)]
 exact Xb l b
theorem aha {n:aL} (h:dX n) {i:Nat} (hi:i<n.keys.length) (b:List UInt8):
   Ey (⟨n.leaf,n.keys.take i,n.vals.take i,if n.leaf then [] else n.kids.take (i+1)⟩,(n8 n i++b,true))=
     (⟨n.leaf,n.keys.take (i+1),n.vals.take (i+1),if n.leaf then [] else n.kids.take (i+2)⟩,(b,true)):=by
 have ae:n.keys.getD i []∈n.keys:=M0 hi
 have fm:=(h.keys.ok _ ae).2
 have sK:n.keys.take (i+1)=n.keys.take i++ [n.keys.getD i []]:=by
   rw[take_succ _ hi,p5,g8 hi];rfl
 unfold Ey
 unfold n8
 rcases h with h|h
 · have ak:i<n.vals.length:=by rw[h.len];exact hi
   have Re:n.vals.getD i []∈n.vals:=M0 ak
   have bu:n.vals.take (i+1)=n.vals.take i++ [n.vals.getD i []]:=by
     rw[take_succ _ ak,p5,g8 ak];rfl
   simp only[h.leaf,if_true]
   rw[er,Rd _ _ (by omega)]
   simp only
   rw[Rd _ _ (by have:=h.vals _ Re;omega),sK,bu]
 · have ak:i+1<n.kids.length:=by rw[h.len];omega
   have Re:n.kids.getD (i+1) 0∈n.kids:=M0 ak
   have bu:n.kids.take (i+2)=n.kids.take (i+1)++ [n.kids.getD (i+1) 0]:=by
     rw[take_succ _ ak,p5,g8 ak];rfl
   simp only[h.inner,n2,if_false,h.vals]
   rw[er,Rd _ _ (by omega)]
   simp only
   rw[M3 _ (by have:=h.kids _ Re;show _<65536;omega),sK,bu]
   simp
theorem Xd {n:aL} (h:dX n):∀i,i≤n.keys.length→
   p8 (⟨n.leaf,[],[],if n.leaf then [] else n.kids.take 1⟩,(pz n 0 n.keys.length,true)) i=(⟨n.leaf,n.keys.take i,n.vals.take i,if n.leaf then [] else n.kids.take (i+1)⟩,(pz n i (n.keys.length-i),true))
 |0,_=>by simp[p8]
 |i+1,hi=>by
   rw[p8,Xd h i (by omega),show n.keys.length-i=n.keys.length-(i+1)+1 by omega,ag9]
   exact aha h (by omega) _
theorem Rf {n:aL} (h:dX n) (aD:cf n≤232):qA n.leaf (r8 n)=(n,([],true)):=by
 have ae:=M1 h
 unfold qA
 have aY:rdNum (r8 n,true) 1=(n.keys.length,((if n.leaf then [] else gh (n.kids.getD 0 0) 2)++pz n 0 n.keys.length,true)):=by
   have:r8 n=gh n.keys.length 1++((if n.leaf then [] else gh (n.kids.getD 0 0) 2)++pz n 0 n.keys.length):=by
     rw[←Xc _ (by omega)];rfl
   rw[this,M3 _ (by show _<256;omega)]
 rw[aY]
 simp only
 have bm:zT n.leaf ((if n.leaf then [] else gh (n.kids.getD 0 0) 2)++pz n 0 n.keys.length,true)=(⟨n.leaf,[],[],if n.leaf then [] else n.kids.take 1⟩,(pz n 0 n.keys.length,true)):=by
   unfold zT
   rcases h with h|h
   · simp[h.leaf]
   · have hd:0<n.kids.length:=by rw[h.len];omega
     have hm:n.kids.getD 0 0∈n.kids:=M0 hd
     have:=h.kids _ hm
     simp only[h.inner,n2,if_false]
     rw[M3 _ (by show _<65536;omega)]
     cases Jo:n.kids with
     |nil=>rw[Jo] at hd;simp at hd
     |cons a l=>simp
 rw[bm,Xd h _ (cP _)]
 have dM:pz n n.keys.length (n.keys.length-n.keys.length)=[]:=by rw[Ef];rfl
 rw[dM,gX (cP _)]
 rcases h with h|h
 · rw[gX (by rw[h.len];exact cP _)]
   have:=h.kids
   have:=h.leaf
   cases n
   simp_all
 · rw[gX (by rw[h.vals];simp),gX (by rw[h.len];exact cP _)]
   have:=h.inner
   cases n
   simp_all
theorem x6.uniq {leaf:Bool} {b:List UInt8} {n m:aL} (U:x6 leaf b n) (ad:x6 leaf b m):n=m:=by
 obtain ⟨bj,cL,e6,dQ⟩:=U
 obtain ⟨cX,cy,eJ,eW⟩:=ad
 have aY:=Rf bj e6
 have bm:=Rf cX eJ
 rw[cL,dQ] at aY
 rw[cy,eW,aY] at bm
 exact congrArg Prod.fst bm
end
section
def Jp (n:Nat):Nat:=if n%2=1 then (n/2)^^^0x82f63b78 else n/2
def M4:Nat→Nat→Nat
 |0,n=>n
 |k+1,n=>Jp (M4 k n)
def Xe (n:Nat) (c:UInt8):Nat:=M4 8 (n^^^c.toNat)
def we (n:Nat) (l:List UInt8):Nat:=l.foldl Xe n
def qB (l:List UInt8):Nat:=4294967295-we 4294967295 l
theorem ahb {n:Nat} (h:n<4294967296):Jp n<4294967296:=by
 unfold Jp
 split
 · exact Nat.xor_lt_two_pow (n:=32) (by show _<4294967296;omega) (by decide)
 · omega
theorem Rg {n:Nat} (h:n<4294967296):∀k,M4 k n<4294967296
 |0=>h
 |k+1=>ahb (Rg h k)
theorem ahc {n:Nat} (h:n<4294967296) (c:UInt8):Xe n c<4294967296:=
 Rg (Nat.xor_lt_two_pow (n:=32) h (by have:=Gp c;show _<4294967296;omega)) 8
theorem M5:∀ (l:List UInt8) {n:Nat},n<4294967296→we n l<4294967296
 | [],_,h=>h
 |c::l,_,h=>M5 l (ahc h c)
theorem Xf (n:Nat) (a b:List UInt8):we n (a++b)=we (we n a) b:=by simp[we,List.foldl_append]
theorem Rh (l:List UInt8):qB l<4294967296:=by unfold qB;omega
structure tI where
 kind:Nat
 gen:Nat
 body:List UInt8
 deriving DecidableEq
structure Jq (p:tI):Prop where
 dR:1≤p.kind
 e0:p.kind≤4
 gen:p.gen<18446744073709551616
 body:p.body.length≤232
def nD:List UInt8:=[83,84,78,67]
def j2 (no:Nat) (p:tI):List UInt8:=nD++([1,UInt8.ofNat p.kind]++(gh p.body.length 2++(gh no 4++gh p.gen 8)))
def km (p:tI):List UInt8:=p.body++List.replicate (232-p.body.length) 0
def o3 (no:Nat) (p:tI):List UInt8:=j2 no p++(gh (qB (j2 no p++km p)) 4++km p)
theorem B3 (no:Nat) (p:tI):(j2 no p).length=20:=by simp[j2,nD,n7]
theorem M6 {p:tI} (h:Jq p):(km p).length=232:=by
 have:=h.body
 simp[km];omega
theorem Xg {p:tI} (no:Nat) (h:Jq p):(o3 no p).length=256:=by simp[o3,B3,n7,M6 h]
def wg (l:List UInt8):Nat:=qB (l.take 20++l.drop 24)
def jg (l:List UInt8) (a k:Nat):Nat:=rl ((l.drop a).take k)
def l5 (no:Int) (l:List UInt8):Except Int tI:=
 if l.length≠256 then .error 9
 else if l.take 4≠nD then .error 4
 else if l.getD 4 0≠1 then .error 12
 else if wg l≠jg l 20 4 then .error 5
 else if¬(1≤(l.getD 5 0).toNat∧(l.getD 5 0).toNat≤4)∨232<jg l 6 2∨(l.drop (24+jg l 6 2)).all (fun c=>c==0)=false then .error 4
 else if¬(0≤no∧no<1600)∨(jg l 8 4:Int)≠no then .error 1
 else .ok ⟨(l.getD 5 0).toNat,jg l 12 8,(l.drop 24).take (jg l 6 2)⟩
theorem drop_left' {α:Type} {a b:List α} {n:Nat} (h:a.length=n):(a++b).drop n=b:=by subst h;exact List.drop_left
theorem zU {α:Type} {a b:List α} {n:Nat} (h:a.length=n):(a++b).take n=a:=by subst h;exact List.take_left
theorem M7 {a b:List UInt8} {n k m:Nat} (aS:a.length=m) (h:n<256^k):jg (a++(gh n k++b)) m k=n:=by
 unfold jg
 rw[drop_left' aS,zU (n7 n k),Q9 k n h]
theorem ahd {no:Nat} {p:tI} (dg:no<1600) (h:Jq p):l5 no (o3 no p)= .ok p:=by
 have ab:=h.body
 have jK:=h.dR
 have dW:=h.e0
 have a7:=h.gen
 have aN:=M6 h
 have dq:=B3 no p
 have al:=Rh (j2 no p++km p)
 have di:jg (o3 no p) 20 4=qB (j2 no p++km p):=M7 dq (by show _<4294967296;exact al)
 have bm:o3 no p=(nD++ [1,UInt8.ofNat p.kind])++(gh p.body.length 2++((gh no 4++gh p.gen 8)++(gh (qB (j2 no p++km p)) 4++km p))):=by
   show j2 no p++_=_
   rw[show j2 no p=(nD++ [1,UInt8.ofNat p.kind])++(gh p.body.length 2++(gh no 4++gh p.gen 8)) by simp[j2]]
   simp only[er]
 have c_:jg (o3 no p) 6 2=p.body.length:=by rw[bm];exact M7 rfl (by show _<65536;omega)
 have dM:o3 no p=((nD++ [1,UInt8.ofNat p.kind])++gh p.body.length 2)++(gh no 4++(gh p.gen 8++(gh (qB (j2 no p++km p)) 4++km p))):=by rw[bm];simp only[er]
 have bq:jg (o3 no p) 8 4=no:=by rw[dM];exact M7 (by simp[nD,n7]) (by show _<4294967296;omega)
 have kE:o3 no p=((nD++ [1,UInt8.ofNat p.kind])++(gh p.body.length 2++gh no 4))++(gh p.gen 8++(gh (qB (j2 no p++km p)) 4++km p)):=by rw[bm];simp only[er]
 have fT:jg (o3 no p) 12 8=p.gen:=by rw[kE];exact M7 (by simp[nD,n7]) (by show _<18446744073709551616;exact a7)
 have lE:o3 no p=(j2 no p++gh (qB (j2 no p++km p)) 4)++km p:=by simp[o3]
 have Ri:(j2 no p++gh (qB (j2 no p++km p)) 4).length=24:=by simp[dq,n7]
 have d24:(o3 no p).drop 24=km p:=by rw[lE];exact drop_left' Ri
 have t4:(o3 no p).take 4=nD:=by rw[bm];rfl
 have aO:(o3 no p).getD 4 0=1:=by rw[bm];rfl
 have cS:((o3 no p).getD 5 0).toNat=p.kind:=by rw[bm];show (UInt8.ofNat p.kind).toNat=p.kind;exact MY (by omega)
 have s:wg (o3 no p)=qB (j2 no p++km p):=by
   unfold wg
   rw[d24,show (o3 no p).take 20=j2 no p from zU dq]
 unfold l5
 rw[if_neg (by rw[Xg no h];simp),if_neg (by rw[t4];simp),if_neg (by rw[aO];simp),if_neg (by rw[s,di];simp),if_neg (by
   rw[cS,c_]
   rintro (U|U|U)
   · exact U ⟨jK,dW⟩
   · omega
   · rw[List.all_eq_false] at U
     obtain ⟨c,al,U⟩:=U
     rw[←I9,d24] at al
     unfold km at al
     rw[List.drop_left] at al
     exact U (by rw[QM al];rfl)),if_neg (by rw[bq];rintro (U|U)<;>omega),cS,c_,fT,d24]
 have:(km p).take p.body.length=p.body:=by unfold km;exact List.take_left
 rw[this]
end
section
def pB (s:aa):Value:= .slice s.a s.len s.cap
abbrev oF (w:World) (s:aa):Prop:=∀k,aR s k→w.heap.size≤k
theorem oF.mono {w w':World} {s:aa} (h:oF w' s) (af:w.heap.size≤w'.heap.size):oF w s:=fun k ae=>iT af (h k ae)
theorem kN {w:World} {s:aa} {l:List UInt8} (h:Src 1 w s (bg l)):s.len=l.length:=by have:=h.len;rw[kl] at this;omega
theorem zV {w:World} {T:TypeId} {s:aa} {l:List UInt8} (h:b6 1 T w s (bg l)):s.len=l.length:=by have:=h.1;rw[kl] at this;omega
theorem B4 {w:World} {s:aa} {l:List UInt8} {lo hi:Nat} (h:Src 1 w s (bg l)) (al:s.len≤s.cap) (U:lo≤hi) (ad:hi≤s.len):Src 1 w ⟨a3 s.a 1 lo s.cap,hi-lo,s.cap-lo⟩ (bg ((l.drop lo).take (hi-lo))):=by
 have:=Src.sub h al U ad
 simpa[bg,Gk,Ee] using this
def iV (ps:List (aa×List UInt8)):List UInt8:=(ps.map (·.2)).flatten
theorem Xh (a:List (aa×List UInt8)) (p:aa×List UInt8):iV (a++ [p])=iV a++p.2:=by simp[iV]
theorem ahe (ps:List (aa×List UInt8)) (j:Nat):(iV (ps.take j)).length≤(iV ps).length:=by
 have h:ps=ps.take j++ps.drop j:=(qq j ps).symm
 have:(iV ps).length=(iV (ps.take j)).length+(iV (ps.drop j)).length:=by
   conv=>lhs;rw[h]
   unfold iV
   rw[n3,List.flatten_append,eu]
 omega
theorem Xi (ps:List (aa×List UInt8)) {j:Nat} (a6:j<ps.length):(ps[j]).2.length≤(iV ps).length:=by
 have h:ps=ps.take j++ps[j]::ps.drop (j+1):=by rw[←uJ a6,qq]
 have:(iV ps).length=(iV (ps.take j)).length+((ps[j]).2.length+(iV (ps.drop (j+1))).length):=by
   conv=>lhs;rw[h]
   unfold iV
   rw[n3,List.flatten_append,eu,tC,List.flatten_cons,eu]
 omega
theorem M8 {s:aa} {w:World} (ps:List (aa×List UInt8)) (aj:Src 1 w s (ps.map fun p=>pB p.1)) (aT:∀p∈ps,Src 1 w p.1 (bg p.2)) (az:(iV ps).length≤100000) (aD:ps.length≤100000):
   aQ Tryz.prog F.sO #[.slice s.a s.len s.cap] w (fun v w'=>∃au:aa,v= .slice au.a au.len au.cap∧b6 1 ah.uint8 w' au (bg (iV ps))∧Ext w w'∧oF w au):=by
 refine W.ahf s w _ ?_
 (delta W.sO aE a8 aq aC;dsimp only)
 have gA:s.len=ps.length:=by have:=aj.len;rw[mN] at this;omega
 refine ⟨fun au i w'=>∃j:Nat,i=j∧j≤ps.length∧b6 1 ah.uint8 w' au (bg (iV (ps.take j)))∧Ext w w'∧oF w au,fun _ i _=>((ps.length:Int)-i).toNat,⟨0,rfl,fx _,b6.none 1 ah.uint8 _, .refl _ _,fun k ae=>(r7 k ae).elim⟩,?_⟩
 rintro au _ ag ⟨j,rfl,a6,bJ,af,aG⟩
 refine ⟨fun a9=> ?_,fun cm=> ?_⟩
 · have a9:j<ps.length:=by have:=dU a9;omega
   obtain ⟨A,ax,ab,k1⟩:=(aj.ext af).at (i:=j) (v:=pB (ps[j]).1) (by simp[a9])
   have Xj:=(aT _ (fv a9)).ext af
   have U:=Xi ps a9
   have ad:=ahe ps j
   have ar:=kN Xj
   have aI:=zV bJ
   obtain ⟨s2,aw,aA,aF,aJ,aO,cS⟩:=Eu.append (ez:=ah.cd) Xj bJ (x5 _) (by rw[ar,aI];omega)
   rw[cE (n:=(j:Int)+1) (by omega) (by omega)]
   refine ⟨A,ax,ab,(ps[j]).1,k1,s2,aw,aA,⟨j+1,by omega,by omega,?_,Ext.gr af aO aG,fun k ae=> ?_⟩,?_⟩
   · rw[take_succ _ a9]
     rw[Xh,Et];exact aF
   · rcases cS k ae with h|h
     · exact aG k h
     · exact iT af.size h
   · show ((ps.length:Int)-((j:Int)+1)).toNat<((ps.length:Int)-(j:Int)).toNat
     omega
 · have cm:j=ps.length:=by have:=ff cm;omega
   subst cm
   rw[tD] at bJ
   exact ⟨au,rfl,bJ,af,aG⟩
theorem ahg {s:aa} {l:List UInt8} {w:World} (aj:Src 1 w s (bg l)) (al:s.len≤s.cap) {a k:Nat} (aS:a+k≤l.length) (az:l.length≤1000000000000):
   aQ Tryz.prog F.uP #[.slice s.a s.len s.cap, .int .i64 a, .int .i64 k] w (fun v w'=>v= .tuple #[.slice (a3 s.a 1 a s.cap) k (s.cap-a), .bool true]∧w=w'):=by
 have gA:=kN aj
 refine W.Q7 s a k w _ ?_
 delta W.uP aE aC
 rw[cE (n:=((s.len:Nat):Int)-(a:Int)) (by omega) (by omega),cE (n:=(a:Int)+(k:Int)) (by omega) (by omega)]
 refine ⟨fun h=> ?_,fun _=>⟨⟨by omega,by omega⟩,⟨by omega,by omega⟩,?_,rfl⟩⟩
 · simp only[xZ,fI] at h;omega
 · rw[show Int.toNat ((a:Int)+(k:Int))-Int.toNat (a:Int)=k by omega];rfl
theorem ahh {s:aa} {l:List UInt8} {w:World} (aj:Src 1 w s (bg l)) {a k:Nat} (aS:l.length<a+k) (atl:a≤l.length) (az:l.length≤1000000000000) (ae:k≤1000000000000):
   aQ Tryz.prog F.uP #[.slice s.a s.len s.cap, .int .i64 a, .int .i64 k] w (fun v w'=>v= .tuple #[.slice none 0 0, .bool false]∧w=w'):=by
 have gA:=kN aj
 refine W.Q7 s a k w _ ?_
 delta W.uP aE aC
 rw[cE (n:=((s.len:Nat):Int)-(a:Int)) (by omega) (by omega),cE (n:=(a:Int)+(k:Int)) (by omega) (by omega)]
 have e:(((decide ((a:Int)<0))||(decide ((k:Int)<0)))||(decide ((a:Int)>((s.len:Nat):Int)))||(decide ((k:Int)>(((s.len:Nat):Int)-(a:Int)))))=true:=by
   simp only[xZ,fI];omega
 exact ⟨fun _=>⟨rfl,rfl⟩,fun h=>(by rw[e] at h;cases h)⟩
theorem x7 {s:aa} {l:List UInt8} {w:World} (aj:Src 1 w s (bg l)) (al:s.len≤s.cap) {a k:Nat} (aS:a+k≤l.length) (az:l.length≤100000):
   aQ Tryz.prog F.x7 #[.slice s.a s.len s.cap, .int .i64 a, .int .i64 k] w (fun v w'=>∃au:aa,v= .tuple #[.slice au.a au.len au.cap, .bool true]∧b6 1 ah.uint8 w' au (bg ((l.drop a).take k))∧Ext w w'∧oF w au):=by
 have gA:=kN aj
 refine W.ahi s a k w _ ?_
 (delta W.x7 Ex dL;dsimp only)
 refine (ahg aj al aS (by omega)).use ?_
 rintro _ _ ⟨rfl,rfl⟩
 have iK:=B4 aj al (lo:=a) (hi:=a+k) (by omega) (by omega)
 rw[show a+k-a=k by omega] at iK
 refine ⟨⟨a3 s.a 1 a s.cap,k,s.cap-a⟩,true,rfl,(Q8 iK (by simp;omega)).use ?_⟩
 rintro _ ag ⟨au,rfl,bJ,af,aG⟩
 exact ⟨au,rfl,au,rfl,bJ,af,aG⟩
theorem ahj {s:aa} {l:List UInt8} {w:World} (aj:Src 1 w s (bg l)) {k:Nat} (ae:k≤8) (aS:l.length<k):
   aQ Tryz.prog F.sM #[.slice s.a s.len s.cap, .int .i64 (0:Nat), .int .i64 k] w (fun v w'=>v= .tuple #[.int .u64 0, .bool false]∧w=w'):=by
 refine W.W_ s (0:Nat) k w _ ?_
 (delta W.sM Ex aE a_ a8 iq aC;dsimp only)
 refine (ahh aj (a:=0) (by omega) (by omega) (by omega) (by omega)).use ?_
 rintro _ _ ⟨rfl,rfl⟩
 refine ⟨⟨none,0,0⟩,false,rfl,e4 (fun b w'=>b=true∧w=w') (fun q J=>⟨fun _=>J _ _ ⟨rfl,rfl⟩,fun h=>by simp at h⟩) ?_⟩
 rintro _ _ ⟨rfl,rfl⟩
 exact ⟨fun _=>⟨rfl,rfl⟩,fun h=>by simp at h⟩
theorem M9 {a:Nat} (aS:a<4294967296):(BitVec.ofInt 32 (a:Int))=BitVec.ofNat 32 a:=by simp
theorem M_ {a b:Nat} (aS:a<4294967296) (ab:b<4294967296):Ez .u32 (a:Int) (b:Int)=((a^^^b:Nat):Int):=by
 unfold Ez
 show IntKind.u32.wrap (((BitVec.ofInt 32 (a:Int)^^^BitVec.ofInt 32 (b:Int)).toNat:Nat):Int)=_
 rw[M9 aS,M9 ab,BitVec.toNat_xor,BitVec.toNat_ofNat,BitVec.toNat_ofNat,uL (by simpa using aS),uL (by simpa using ab)]
 have:a^^^b<4294967296:=Nat.xor_lt_two_pow (n:=32) aS ab
 rw[Rj (by omega) (by omega)]
theorem ahk {a b:Nat} (aS:a<4294967296) (ab:b<4294967296):tJ .u32 (a:Int) (b:Int)=((a&&&b:Nat):Int):=by
 unfold tJ
 show IntKind.u32.wrap (((BitVec.ofInt 32 (a:Int)&&&BitVec.ofInt 32 (b:Int)).toNat:Nat):Int)=_
 rw[M9 aS,M9 ab,BitVec.toNat_and,BitVec.toNat_ofNat,BitVec.toNat_ofNat,uL (by simpa using aS),uL (by simpa using ab)]
 have:a&&&b≤a:=Nat.and_le_left
 rw[Rj (by omega) (by omega)]
theorem ahl {n:Nat} (aD:n<4294967296):
   Ez .u32 (Int.fdiv (n:Int) (2^(min (Int.toNat 1) 32))) (tJ .u32 2197175160 (IntKind.wrap .u32 (0-(tJ .u32 (n:Int) 1))))=((Jp n:Nat):Int):=by
 have aY:tJ .u32 (n:Int) 1=((n%2:Nat):Int):=by
   have:=ahk aD (show 1<4294967296 by omega)
   rw[Nat.and_one_is_mod] at this
   exact this
 have bm:Int.fdiv (n:Int) (2^(min (Int.toNat 1) 32))=((n/2:Nat):Int):=by
   rw[Int.fdiv_eq_ediv_of_nonneg _ (by decide)];rfl
 rw[aY,bm]
 unfold Jp
 rcases Nat.mod_two_eq_zero_or_one n with h|h
 · rw[h,if_neg (by omega)]
   have dM:tJ .u32 2197175160 (IntKind.wrap .u32 (0-((0:Nat):Int)))=((0:Nat):Int):=by decide+kernel
   rw[dM,M_ (by omega) (by omega),Nat.xor_zero]
 · rw[h,if_pos rfl]
   have dM:tJ .u32 2197175160 (IntKind.wrap .u32 (0-((1:Nat):Int)))=((2197175160:Nat):Int):=by decide+kernel
   rw[dM,M_ (by omega) (by omega)]
theorem x8 {s:aa} {l:List UInt8} {w:World} {n:Nat} (aj:Src 1 w s (bg l)) (aD:n<4294967296) (az:l.length≤1000000):
   aQ Tryz.prog F.x8 #[.int .u32 n, .slice s.a s.len s.cap] w (fun v w'=>v= .int .u32 (we n l:Nat)∧w=w'):=by
 have gA:=kN aj
 refine W.ahm n s w _ ?_
 (delta W.x8 aE a8 iq aC;dsimp only)
 refine ⟨fun m i w'=>∃j:Nat,i=j∧j≤l.length∧m=((we n (l.take j):Nat):Int)∧w=w',fun _ i _=>((l.length:Int)-i).toNat,⟨0,rfl,fx _,rfl,rfl⟩,?_⟩
 rintro _ _ _ ⟨j,rfl,a6,rfl,rfl⟩
 refine ⟨fun a9=> ?_,fun cm=> ?_⟩
 · have a9:j<l.length:=by have:=dU a9;omega
   obtain ⟨A,ax,ab,k1⟩:=aj.at (GI a9)
   have hm:=M5 (l.take j) aD
   have al:=Gp (l[j])
   have af:=Nat.xor_lt_two_pow (n:=32) hm (show (l[j]).toNat<4294967296 by omega)
   refine ⟨A,ax,ab,_,k1,fun m i w'=>∃k:Nat,i=k∧k≤8∧m=((M4 k (we n (l.take j)^^^(l[j]).toNat):Nat):Int)∧w=w',fun _ i _=>((8:Int)-i).toNat,⟨0,rfl,by omega,?_,rfl⟩,?_⟩
   · rw[Rj (by omega) (by omega),M_ hm (by omega)];rfl
   rintro _ _ _ ⟨k,rfl,ae,rfl,rfl⟩
   refine ⟨fun Rk=> ?_,fun Rl=> ?_⟩
   · have Rk:k<8:=by have:=dU Rk;omega
     rw[ahl (Rg af k),cE (n:=(k:Int)+1) (by omega) (by omega)]
     refine ⟨by decide,⟨k+1,by omega,by omega,rfl,rfl⟩,?_⟩
     show ((8:Int)-((k:Int)+1)).toNat<((8:Int)-(k:Int)).toNat
     omega
   · have Rl:k=8:=by have:=ff Rl;omega
     subst Rl
     rw[cE (n:=(j:Int)+1) (by omega) (by omega)]
     refine ⟨⟨j+1,by omega,by omega,?_,rfl⟩,?_⟩
     · rw[take_succ _ a9,Xf];rfl
     · show ((l.length:Int)-((j:Int)+1)).toNat<((l.length:Int)-(j:Int)).toNat
       omega
 · have cm:j=l.length:=by have:=ff cm;omega
   subst cm
   rw[tD]
   exact ⟨rfl,rfl⟩
theorem ahn {n:Nat} (h:n<4294967296):4294967295^^^n=4294967295-n:=by
 apply Nat.eq_of_testBit_eq
 intro i
 have U:(4294967295-n).testBit i=(decide (i<32)&& !n.testBit i):=by
   have:=Nat.testBit_two_pow_sub_succ (n:=32) (x:=n) (by simpa using h) i
   rw[←this];congr 1;omega
 have ad:(4294967295:Nat).testBit i=decide (i<32):=by
   have:=Nat.testBit_two_pow_sub_one 32 i
   exact this
 rw[Nat.testBit_xor,U,ad]
 by_cases hi:i<32
 · simp[hi]
 · have:n.testBit i=false:=by
     apply Nat.testBit_lt_two_pow
     exact lg h (ML (n:=2) (by omega) (show 32≤i by omega))
   simp[hi,this]
theorem aho {s:aa} {w:World} (ps:List (aa×List UInt8)) (aj:Src 1 w s (ps.map fun p=>pB p.1)) (aT:∀p∈ps,Src 1 w p.1 (bg p.2)) (az:(iV ps).length≤100000) (aD:ps.length≤100000):
   aQ Tryz.prog F.B5 #[.slice s.a s.len s.cap] w (fun v w'=>v= .int .u32 (qB (iV ps):Nat)∧w=w'):=by
 refine W.ahp s w _ ?_
 (delta W.B5 aE a8 aq nd aC;dsimp only)
 have gA:s.len=ps.length:=by have:=aj.len;rw[mN] at this;omega
 refine ⟨fun m i w'=>∃j:Nat,i=j∧j≤ps.length∧m=((we 4294967295 (iV (ps.take j)):Nat):Int)∧w=w',fun _ i _=>((ps.length:Int)-i).toNat,⟨0,rfl,fx _,rfl,rfl⟩,?_⟩
 rintro _ _ _ ⟨j,rfl,a6,rfl,rfl⟩
 refine ⟨fun a9=> ?_,fun cm=> ?_⟩
 · have a9:j<ps.length:=by have:=dU a9;omega
   obtain ⟨A,ax,ab,k1⟩:=aj.at (i:=j) (v:=pB (ps[j]).1) (by simp[a9])
   have hm:=M5 (iV (ps.take j)) (n:=4294967295) (by decide)
   refine ⟨A,ax,ab,(ps[j]).1,k1,(x8 (aT _ (fv a9)) hm (by have:=Xi ps a9;omega)).use ?_⟩
   rintro _ _ ⟨rfl,rfl⟩
   rw[cE (n:=(j:Int)+1) (by omega) (by omega)]
   refine ⟨_,rfl,⟨j+1,by omega,by omega,?_,rfl⟩,?_⟩
   · rw[take_succ _ a9,←Xf,Xh]
   · show ((ps.length:Int)-((j:Int)+1)).toNat<((ps.length:Int)-(j:Int)).toNat
     omega
 · have cm:j=ps.length:=by have:=ff cm;omega
   subst cm
   rw[tD]
   have hm:=M5 (iV ps) (n:=4294967295) (by decide)
   refine ⟨?_,rfl⟩
   have:=M_ (a:=4294967295) (b:=we 4294967295 (iV ps)) (by decide) hm
   rw[ahn hm] at this
   exact congrArg _ this
theorem uR {s:aa} {l:List UInt8} {w:World} (aj:Src 1 w s (bg l)) (al:s.len≤s.cap) (az:l.length=256):
   aQ Tryz.prog F.uR #[.slice s.a s.len s.cap] w (fun v w'=>v= .int .u32 (wg l:Nat)∧Ext w w'):=by
 have gA:=kN aj
 refine W.ahq s w _ ?_
 (delta W.uR ay nd ai;dsimp only)
 have bz:Ext w w.drew:=ao.drew (.refl _ _)
 refine ⟨⟨by decide,by omega⟩,⟨by decide,by omega⟩,?_⟩
 have U:=B4 (aj.ext bz) al (lo:=0) (hi:=20) (by omega) (by omega)
 have ad:=B4 (aj.ext bz) al (lo:=24) (hi:=s.len) (by omega) (by omega)
 have cv:∀o,Ext w.drew (w.drew.alloc o):=fun o=>ao.alloc (.refl _ _) o
 refine (aho [(⟨a3 s.a 1 0 s.cap,20-0,s.cap-0⟩,(l.drop 0).take (20-0)),(⟨a3 s.a 1 24 s.cap,s.len-24,s.cap-24⟩,(l.drop 24).take (s.len-24))] (s:=⟨some ⟨w.drew.heap.size,0,none⟩,2,2⟩) (Src.new w.drew _ 2 rfl) ?_ ?_ ?_).use ?_
 · intro p aT
   simp only[gp,mm,mn] at aT
   rcases aT with rfl|rfl
   · exact U.ext (cv _)
   · exact ad.ext (cv _)
 · simp[iV];omega
 · simp
 rintro _ ag ⟨rfl,rfl⟩
 refine ⟨_,rfl,?_,bz.trans (cv _)⟩
 have:iV [((⟨a3 s.a 1 0 s.cap,20-0,s.cap-0⟩:aa),(l.drop 0).take (20-0)),(⟨a3 s.a 1 24 s.cap,s.len-24,s.cap-24⟩,(l.drop 24).take (s.len-24))]=l.take 20++l.drop 24:=by
   simp only[iV,tC,List.map_nil,List.flatten_cons,List.flatten_nil,l2,zG]
   rw[gX (l:=l.drop 24) (by rw[fw];omega)]
 rw[this];rfl
end
section
theorem b6.ahr {T:TypeId} {w:World} {s:aa} {vs us:List Value} {b o:Nat} (h:b6 1 T w s vs) (ab:s.a=some ⟨b,0,none⟩) (bJ:o+us.length≤s.len):
   b6 1 T (setCells w ⟨b,o,none⟩ 0 us) s (vs.take o++us++vs.drop (o+us.length)):=by
 obtain ⟨U,ad,ar,aI⟩:=h
 rcases aI with ⟨aD,_⟩|⟨jh,c,kn,iW,fj,aN⟩
 · rw[aD] at ab;cases ab
 · rw[ab] at kn
   cases kn
   have BW:c.toList.length=s.cap:=by simpa using fj
   have hle:o+us.length≤c.size:=by omega
   rw[ml] at U fj
   refine ⟨by simp;omega,ad,ar, .inr ⟨b,_,ab,cn.B6 iW us,by rw[rk];omega,?_⟩⟩
   rw[ml] at aN⊢
   rw[zW _ _ _ hle,←aN,Ja,r0 (by omega),er,er,List.take_append,List.take_append,dV,r0 (by omega),
     gX (l:=c.toList.take o) (by rw[dV];omega),gX (l:=us) (by omega),List.drop_take,show s.len-o-us.length=s.len-(o+us.length) by omega]
theorem Na (w:World) (l:List UInt8):
   ∃w',Sem.run Tryz.prog (convert ah.cd ah.cd (.slice (some ⟨w.heap.size,0,none⟩) l.length l.length)) (w.alloc (.cells (bg l).toArray ah.uint8))= .ok (.slice (some ⟨w.heap.size,0,none⟩) l.length l.length) w'∧
     Src 1 w' ⟨some ⟨w.heap.size,0,none⟩,l.length,l.length⟩ (bg l)∧Ext w w'∧w'.heap.size=w.heap.size+1:=by
 refine ⟨_,Go.Lib.run_convert_bytes_const (P:=Tryz.prog) w ah.cd ah.uint8 (bg l).toArray l.length l.length (by kernel_rfl) (by kernel_rfl),⟨by rw[kl,ml],(fun h=>by cases h),fun a aS=> ?_⟩,ao.alloc (.refl _ _) _,by simp⟩
 cases aS
 have:=Q5 (w:=w.alloc (.cells (bg l).toArray ah.uint8 ((bg l).toArray.size,(bg l).toArray.size+1))) (A:=⟨w.heap.size,0,none⟩) (bg l) 0 (fun j v a6=>by
   rw[aV]
   show (World.cell? _ _)=_
   have:(w.alloc (.cells (bg l).toArray ah.uint8 ((bg l).toArray.size,(bg l).toArray.size+1))).heap[w.heap.size]? =some (.cells (bg l).toArray ah.uint8 ((bg l).toArray.size,(bg l).toArray.size+1)):=by
     show (w.heap.push _)[w.heap.size]? =_
     simp
   simp only[World.cell?,this]
   simpa using a6)
 rw[kl] at this
 rw[ml]
 exact this
theorem Xk (n:Nat):pC Tryz.prog ah.uint8 n=(bg (List.replicate n 0)).toArray:=by
 rw[Xl (v:= .int .u8 0) (by kernel_rfl) (by kernel_rfl)]
 simp[bg]
theorem ahs {A Z T C:List UInt8} {n m:Nat} (ax:A.length=n) (uS:Z.length=m):(bg (A++(Z++T))).take n++bg C++(bg (A++(Z++T))).drop (n+m)=bg (A++(C++T)):=by
 have aY:(bg (A++(Z++T))).take n=bg A:=by rw[Et];exact zU (by rw[kl,ax])
 have bm:(bg (A++(Z++T))).drop (n+m)=bg T:=by rw[←er,Et];exact drop_left' (by rw[kl,eu,ax,uS])
 rw[aY,bm,Et,Et,er]
theorem eE (w:World):Ext w w.drew:=ao.drew (.refl _ _)
theorem iX (w:World) (o:Obj):Ext w (w.alloc o):=ao.alloc (.refl _ _) o
theorem Jr (w:World) (o:Obj):(w.alloc o).heap.size=w.heap.size+1:=by simp
theorem aht {s:aa} {p:tI} {no:Nat} {w:World} (aj:Src 1 w s (bg p.body)) (dg:no<1600) (aT:Jq p):
   aQ Tryz.prog F.B7 #[.int .i64 no, .agg #[.int .i64 p.kind, .int .u64 p.gen, .slice s.a s.len s.cap]] w (fun v w'=>∃au:aa,v= .tuple #[.slice au.a au.len au.cap, .int .i64 0]∧b6 1 ah.uint8 w' au (bg (o3 no p))∧Ext w w'∧oF w au):=by
 have jK:=aT.dR
 have dW:=aT.e0
 have atm:=aT.gen
 have x9:=aT.body
 have gA:=kN aj
 refine W.ahu no p.kind p.gen s w _ ?_
 (delta W.B7 a_ aE bA ai aq dL kF x_ Rm aC Rn nd;dsimp only)
 refine cp (vs:=[.int .i64 p.kind, .int .u64 p.gen, .slice s.a s.len s.cap]) rfl fun ag ak bz nf=> ?_
 have bc:∀ {w':World},Ext ag w'→w'.cell? (Addr.add ⟨w.heap.size,0,none⟩ 2)=some (.slice s.a s.len s.cap):=fun af=>by rw[aV];exact (ak.ext af).cell
 have bd:∀ {w':World},Ext ag w'→w'.cell? (Addr.add ⟨w.heap.size,0,none⟩ 1)=some (.int .u64 p.gen):=fun af=>by rw[aV];exact (ak.ext af).cell
 refine Calls.mono (W.Xm no ag (fun v w'=>v= .bool true∧ag=w') ⟨by simp;omega,rfl⟩) ?_
 rintro _ _ ⟨_,rfl,rfl,rfl⟩
 refine ⟨_,rfl,e4 (fun b w'=>b=false∧ag=w') (fun q J=>⟨fun U=>by simp at U,fun U=>⟨p.kind,ak.cell,?_⟩⟩) ?_⟩
 · refine Calls.mono (W.Xn p.kind ag (fun v w'=>v= .bool true∧ag=w') ⟨by simp;omega,rfl⟩) ?_
   rintro _ _ ⟨_,rfl,rfl,rfl⟩
   exact ⟨_,rfl,J _ _ ⟨rfl,rfl⟩⟩
 rintro b _ ⟨rfl,rfl⟩
 refine ⟨fun h=>(by cases h),fun _=>⟨s,bc (.refl _ _),fun h=>(by have:=dU h;omega),fun _=>bM ?_⟩⟩
 obtain ⟨aw,zX,hm,zY,uT⟩:=Na ag nD
 refine ⟨⟨some ⟨ag.heap.size,0,none⟩,4,4⟩,aw,zX,p.kind,(ak.ext zY).cell,?_⟩
 have sK:IntKind.wrap .u8 (p.kind:Int)=(((UInt8.ofNat p.kind).toNat:Nat):Int):=by rw[MY (by omega),Ro (by omega) (by omega)]
 rw[sK]
 have ae:=Src.new (T:=ah.uint8) (sz:=1) aw (bg [1,UInt8.ofNat p.kind]) 2 rfl
 have Rp:=iX aw (.cells (bg [1,UInt8.ofNat p.kind]).toArray ah.uint8)
 obtain ⟨aZ,ng⟩:∃aZ,aZ=aw.alloc (.cells (bg [1,UInt8.ofNat p.kind]).toArray ah.uint8):=⟨_,rfl⟩
 show ay (aw.alloc (.cells (bg [1,UInt8.ofNat p.kind]).toArray ah.uint8)) _
 rw[←ng] at ae Rp⊢
 refine bM ?_
 have B8:=Src.new (T:=ah.cd) (sz:=1) aZ [.slice (some ⟨ag.heap.size,0,none⟩) 4 4, .slice (some ⟨aw.heap.size,0,none⟩) 2 2] 2 rfl
 have ya:=iX aZ (.cells #[.slice (some ⟨ag.heap.size,0,none⟩) 4 4, .slice (some ⟨aw.heap.size,0,none⟩) 2 2] ah.cd)
 obtain ⟨br,GO⟩:∃br,br=aZ.alloc (.cells #[.slice (some ⟨ag.heap.size,0,none⟩) 4 4, .slice (some ⟨aw.heap.size,0,none⟩) 2 2] ah.cd):=⟨_,rfl⟩
 have B8:Src 1 br ⟨some ⟨aZ.heap.size,0,none⟩,2,2⟩ [.slice (some ⟨ag.heap.size,0,none⟩) 4 4, .slice (some ⟨aw.heap.size,0,none⟩) 2 2]:=by rw[GO];exact B8
 rw[←GO] at ya⊢
 have tK:Ext ag br:=zY.trans (Rp.trans ya)
 refine bM ((M8 (s:=⟨some ⟨aZ.heap.size,0,none⟩,2,2⟩) [((⟨some ⟨ag.heap.size,0,none⟩,4,4⟩:aa),nD),(⟨some ⟨aw.heap.size,0,none⟩,2,2⟩,[1,UInt8.ofNat p.kind])] B8 ?_ (by simp[iV,nD]) (by simp)).use ?_)
 · intro q J
   simp only[gp,mm,mn] at J
   rcases J with rfl|rfl
   · exact hm.ext (Rp.trans ya)
   · exact ae.ext ya
 rintro _ bF ⟨bL,rfl,yb,kG,ahv⟩
 have qC:=tK.trans kG
 have lE:iV [((⟨some ⟨ag.heap.size,0,none⟩,4,4⟩:aa),nD),(⟨some ⟨aw.heap.size,0,none⟩,2,2⟩,[1,UInt8.ofNat p.kind])]=nD++ [1,UInt8.ofNat p.kind]:=by simp[iV]
 rw[lE] at yb
 refine ⟨bL,rfl,s,bc qC,?_⟩
 rw[wc (n:=((s.len:Nat):Int)) (by omega) (by omega),wc (n:=(no:Int)) (by omega) (by omega)]
 refine (o2 yb.src (n:=s.len) (k:=2) (by simp[nD]) (by show _<18446744073709551616;omega) ⟨by decide,by decide⟩).use ?_
 rintro _ a4 ⟨c8,rfl,uU,ko,B9⟩
 have nE:=qC.trans ko
 refine ⟨c8,rfl,(o2 uU.src (n:=no) (k:=4) (by simp[nD,n7]) (by show _<18446744073709551616;omega) ⟨by decide,by decide⟩).use ?_⟩
 rintro _ a5 ⟨iY,rfl,GP,eN,yc⟩
 have r9:=nE.trans eN
 refine ⟨iY,rfl,_,bd r9,(o2 GP.src (n:=p.gen) (k:=8) (by simp[nD,n7]) (by show _<18446744073709551616;omega) ⟨by decide,by decide⟩).use ?_⟩
 rintro _ b9 ⟨fk,rfl,sP,g3,Xo⟩
 have B_:=r9.trans g3
 have uV:nD++ [1,UInt8.ofNat p.kind]++gh s.len 2++gh no 4++gh p.gen 8=j2 no p:=by rw[gA];simp[j2]
 rw[uV] at sP
 refine ⟨fk,rfl,e4 (fun t w'=>b6 1 ah.uint8 w' t (bg (j2 no p++(List.replicate 4 0++km p)))∧Ext ag w'∧oF w t) (fun q J=> ?_) ?_⟩
 · have bx:=eE b9
   have Xp:=B_.trans bx
   have zZ:IntKind.wrap .i64 (232-((s.len:Nat):Int))=((232-s.len:Nat):Int):=by rw[cE (by omega) (by omega)];omega
   refine bM ⟨fun _=>False,id,s,bc Xp,id,s,bc Xp,?_⟩
   rw[zZ]
   simp only[hF,show Int.toNat 4=4 from rfl]
   rw[Xk,Xk]
   have fin:∀ (bR z0:World) (dt pD:aa),Ext b9 z0→Src 1 z0 dt (bg (List.replicate 4 0))→Src 1 z0 pD (bg (List.replicate (232-s.len) 0))→
       Calls Tryz.prog F.sO #[.slice (some ⟨z0.heap.size,0,none⟩) 4 4] (z0.alloc (.cells #[.slice fk.a fk.len fk.cap, .slice dt.a dt.len dt.cap, .slice s.a s.len s.cap, .slice pD.a pD.len pD.cap] ah.cd)) fun ahw du=>∃hJ:aa,ahw= .returned (.slice hJ.a hJ.len hJ.cap)∧q hJ du:=by
     intro bR z0 dt pD Nb U ad
     have mQ:=iX z0 (.cells #[.slice fk.a fk.len fk.cap, .slice dt.a dt.len dt.cap, .slice s.a s.len s.cap, .slice pD.a pD.len pD.cap] ah.cd)
     refine (M8 (s:=⟨some ⟨z0.heap.size,0,none⟩,4,4⟩) [(fk,j2 no p),(dt,List.replicate 4 0),(s,p.body),(pD,List.replicate (232-s.len) 0)] (Src.new z0 _ 4 rfl) ?_ (by simp[iV,B3];omega) (by simp)).use ?_
     · intro x af
       simp only[gp,mm,mn] at af
       rcases af with rfl|rfl|rfl|rfl
       · exact sP.src.ext (Nb.trans mQ)
       · exact U.ext mQ
       · exact aj.ext ((bz.trans (B_.trans Nb)).trans mQ)
       · exact ad.ext mQ
     · rintro _ bV ⟨gi,rfl,bJ,af,aG⟩
       refine ⟨gi,rfl,J _ _ ⟨?_,(B_.trans Nb).trans (mQ.trans af),aG.mono (bz.trans ((B_.trans Nb).trans mQ)).size⟩⟩
       have e:iV [(fk,j2 no p),(dt,List.replicate 4 0),(s,p.body),(pD,List.replicate (232-s.len) 0)]=j2 no p++(List.replicate 4 0++km p):=by simp[iV,km,gA]
       rwa[e] at bJ
   refine ⟨⟨⟨by decide,by decide,by decide,by decide⟩,bM ⟨iX _ _,⟨by omega,Int.le_refl _,by omega,by omega⟩,bM ⟨iX _ _,bM ?_⟩⟩⟩,⟨⟨by omega,Int.le_refl _,by omega,by omega⟩,bM ⟨iX _ _,⟨by decide,by decide,by decide,by decide⟩,bM ⟨iX _ _,bM ?_⟩⟩⟩⟩
   · refine fin b9 _ ⟨some ⟨b9.drew.heap.size,0,none⟩,4,4⟩ ⟨some ⟨(b9.drew.alloc _).heap.size,0,none⟩,232-s.len,232-s.len⟩ (bx.trans ((iX _ _).trans (iX _ _))) (Src.ext (Src.new _ _ _ (by simp[bg])) (iX _ _)) (Src.new _ _ _ (by simp[bg]))
   · refine fin b9 _ ⟨some ⟨(b9.drew.alloc _).heap.size,0,none⟩,4,4⟩ ⟨some ⟨b9.drew.heap.size,0,none⟩,232-s.len,232-s.len⟩ (bx.trans ((iX _ _).trans (iX _ _))) (Src.new _ _ _ (by simp[bg])) (Src.ext (Src.new _ _ _ (by simp[bg])) (iX _ _))
 rintro t bR ⟨oG,Js,Ca⟩
 have nF:t.len=256:=by
   have:=zV oG
   rw[this];simp[B3,M6 aT]
 have bx:=eE bR
 refine bM ⟨fun _=>False,⟨by decide,by omega⟩,(uR (oG.src.ext bx) oG.2.1 (by simp[B3,M6 aT])).use ?_⟩
 rintro _ bV ⟨rfl,j3⟩
 have es:wg (j2 no p++(List.replicate 4 0++km p))=qB (j2 no p++km p):=by
   unfold wg
   rw[zU (B3 no p),←er,drop_left' (by simp[B3])]
 rw[es]
 have BW:=Rh (j2 no p++km p)
 refine ⟨_,rfl,fun _=>False,?_⟩
 rw[wc (by omega) (by omega)]
 refine (o2 (s:=⟨none,0,0⟩) (l:=[]) (n:=qB (j2 no p++km p)) (k:=4) (b6.none 1 ah.uint8 bV).src (by simp) (by show _<18446744073709551616;omega) ⟨by decide,by decide⟩).use ?_
 rintro _ cq ⟨dN,rfl,GQ,qD,ahx⟩
 rw[rZ] at GQ
 have Xq:=bx.trans (j3.trans qD)
 have Xr:=oG.ext Xq
 have Xs:=zV GQ
 rw[n7] at Xs
 obtain ⟨b,c,ab,iW,fj,_⟩:∃b c,t.a=some ⟨b,0,none⟩∧cn cq b c ah.uint8∧c.size=t.cap*1∧c.toList.take (t.len*1)=bg (j2 no p++(List.replicate 4 0++km p)):=by
   rcases Xr.2.2.2 with ⟨_,al⟩|⟨b,c,U,ad,ar,aI⟩
   · have:=oG.2.1;omega
   · exact ⟨b,c,U,ad,ar,aI⟩
 have ahy:a3 t.a 1 (Int.toNat 20) t.cap=some ⟨b,20,none⟩:=by
   rw[ab,show Int.toNat 20=20 from rfl,Nc (by have:=oG.2.1;omega)]
 have atn:=oG.2.1
 refine ⟨dN,rfl,_,_,by rw[ahy];exact agY (by kernel_rfl) GQ.src (by rw[Xs];show 4≤t.len-20;omega) (iW.dr _ _ (by rw[kl,n7];omega) (x5 _)),t,rfl,?_,?_,Ca⟩
 · have:=b6.ahr Xr ab (o:=20) (us:=bg (gh (qB (j2 no p++km p)) 4)) (by rw[kl,n7];omega)
   have e:(bg (j2 no p++(List.replicate 4 0++km p))).take 20++bg (gh (qB (j2 no p++km p)) 4)++(bg (j2 no p++(List.replicate 4 0++km p))).drop (20+(bg (gh (qB (j2 no p++km p)) 4)).length)=bg (o3 no p):=by
     rw[kl,n7]
     exact ahs (B3 no p) (by simp)
   rwa[e] at this
 · refine Ext.gr (bz.trans (Js.trans Xq)) (ao.zR (.refl _ _) _ 0) fun k ae=> ?_
   subst ae
   exact Ca _ ⟨_,ab,rfl⟩
end
section
theorem rm {s:aa} {l:List UInt8} {w:World} (aj:Src 1 w s (bg l)) (al:s.len≤s.cap) {a k:Nat} {e:Int} (he:e=((a+k:Nat):Int)) (ae:1≤k∧k≤8) (aS:a+k≤l.length) (az:l.length≤1000):
   aQ Tryz.prog F.rm #[.slice s.a s.len s.cap, .int .i64 a, .int .i64 e] w (fun v w'=>v= .int .u64 (jg l a k:Nat)∧w=w'):=by
 subst he
 refine W.ahz s a ((a+k:Nat):Int) w _ ?_
 (delta W.rm Nd aC;dsimp only)
 rw[cE (by omega) (by omega),show (((a+k:Nat):Int)-(a:Int))=(k:Int) by omega]
 refine (sM aj al ae aS (by omega)).use ?_
 rintro _ _ ⟨rfl,rfl⟩
 exact ⟨_,_,rfl,rfl,rfl⟩
theorem yd {s:aa} {l:List UInt8} {w:World} (aj:Src 1 w s (bg l)) (az:l.length≤1000):
   aQ Tryz.prog F.yd #[.slice s.a s.len s.cap] w (fun v w'=>v= .bool (l.all fun c=>c==0)∧w=w'):=by
 have gA:=kN aj
 refine W.ahA s w _ ?_
 (delta W.yd aE a8 iq aC;dsimp only)
 refine ⟨fun i w'=>∃j:Nat,i=j∧j≤l.length∧w=w'∧∀ (k:Nat) (ae:k<l.length),k<j→l[k]=0,fun i _=>((l.length:Int)-i).toNat,⟨0,rfl,fx _,rfl,fun k ae h=>by omega⟩,?_⟩
 rintro _ _ ⟨j,rfl,a6,rfl,gJ⟩
 refine ⟨fun a9=> ?_,fun cm=> ?_⟩
 · have a9:j<l.length:=by have:=dU a9;omega
   obtain ⟨A,ax,ab,k1⟩:=aj.at (GI a9)
   refine ⟨A,ax,ab,_,k1,fun en=> ?_,fun heq=> ?_⟩
   · refine ⟨?_,rfl⟩
     have:(l.all fun c=>c==0)=false:=by
       rw[List.all_eq_false]
       refine ⟨l[j],fv _,fun h=> ?_⟩
       have h:=eq_of_beq h
       rw[h] at en
       simp at en
     rw[this]
   · have b3:l[j]=0:=by
       have:(((l[j]).toNat:Nat):Int)=0:=by simpa using heq
       exact UInt8.toNat_inj.1 (by show (l[j]).toNat=0;omega)
     rw[cE (n:=(j:Int)+1) (by omega) (by omega)]
     refine ⟨⟨j+1,by omega,by omega,rfl,fun k ae h=> ?_⟩,?_⟩
     · rcases hE k j with U|U
       · exact gJ k ae U
       · have:k=j:=by omega
         subst this;exact b3
     · show ((l.length:Int)-((j:Int)+1)).toNat<((l.length:Int)-(j:Int)).toNat
       omega
 · have cm:j=l.length:=by have:=ff cm;omega
   subst cm
   refine ⟨?_,rfl⟩
   have:(l.all fun c=>c==0)=true:=by
     rw[Gq]
     intro c al
     obtain ⟨k,ae,rfl⟩:=na al
     rw[gJ k ae ae];rfl
   rw[this]
def Xt (kind gen:Int) (s:aa):Value:= .agg #[.int .i64 kind, .int .u64 gen, .slice s.a s.len s.cap]
def Nf (r:Except Int tI) (w w':World) (v:Value):Prop:=
 match r with
 | .ok p=>∃s:aa,v= .tuple #[Xt p.kind p.gen s, .int .i64 0]∧b6 1 ah.uint8 w' s (bg p.body)∧oF w s
 | .error e=>v= .tuple #[Xt 0 0 ⟨none,0,0⟩, .int .i64 e]
theorem Xu {w':World} {h:Nat} {vs:List Value} (n g:Int) (s:aa) (ak:Var w' h vs ah.Jt) (az:vs.length=3) {K:Int→Int→aa→World→Prop} (bk:∀aw,ao (fun q=>q=h) w' aw→K n g s aw):
   cM w' ⟨h,0,none⟩ [.int .i64 n, .int .u64 g, .slice s.a s.len s.cap]∧(3:Nat)=3∧ay (setCells w' ⟨h,0,none⟩ 0 [.int .i64 n, .int .u64 g, .slice s.a s.len s.cap]) fun aw=>
     ∃bq:Int,aw.cell? ⟨h,0,none⟩=some (.int .i64 bq)∧∃fT:Int,aw.cell? (Addr.add ⟨h,0,none⟩ 1)=some (.int .u64 fT)∧∃bL:aa,aw.cell? (Addr.add ⟨h,0,none⟩ 2)=some (.slice bL.a bL.len bL.cap)∧K bq fT bL aw:=by
 refine ⟨ak.dr (by rw[az];rfl) ?_,rfl,ec ak (us:=[.int .i64 n, .int .u64 g, .slice s.a s.len s.cap]) (by rw[az];rfl) rfl fun aw g1 al _=> ?_⟩
 · intro v ak
   simp only[gp,mm,mn] at ak
   rcases ak with rfl|rfl|rfl<;>trivial
 · exact ⟨n,g1.cell,g,by rw[aV];exact g1.cell,s,by rw[aV];exact g1.cell,bk aw al⟩
theorem ye {s:aa} {l:List UInt8} {w:World} (aj:Src 1 w s (bg l)) (al:s.len≤s.cap) (az:l.length≤1000) (no:Int):
   aQ Tryz.prog F.ye #[.int .i64 no, .slice s.a s.len s.cap] w (fun v w'=>Nf (l5 no l) w w' v∧Ext w w'):=by
 have gA:=kN aj
 refine W.ahB no s w _ ?_
 (delta W.ye yf aE ai bA kF aq Rq a8 iq nd Ju a_ aC Ex;dsimp only)
 refine cp (vs:=[.int .i64 0, .int .u64 0, .slice none 0 0]) rfl fun ag ak bz _=> ?_
 have out:∀ (w':World) (e:Int),Ext ag w'→l5 no l= .error e→
     cM w' ⟨w.heap.size,0,none⟩ [.int .i64 0, .int .u64 0, .slice none 0 0]∧(3:Nat)=3∧ay (setCells w' ⟨w.heap.size,0,none⟩ 0 [.int .i64 0, .int .u64 0, .slice none 0 0]) fun aw=>
     ∃bq:Int,aw.cell? ⟨w.heap.size,0,none⟩=some (.int .i64 bq)∧∃fT:Int,aw.cell? (Addr.add ⟨w.heap.size,0,none⟩ 1)=some (.int .u64 fT)∧∃bL:aa,aw.cell? (Addr.add ⟨w.heap.size,0,none⟩ 2)=some (.slice bL.a bL.len bL.cap)∧
       (fun v w'=>Nf (l5 no l) w w' v∧Ext w w') (.tuple #[.agg #[.int .i64 bq, .int .u64 fT, .slice bL.a bL.len bL.cap], .int .i64 e]) aw:=by
   intro w' e af he
   refine Xu 0 0 ⟨none,0,0⟩ (ak.ext af) rfl (K:=fun bq fT bL aw=>(fun v w'=>Nf (l5 no l) w w' v∧Ext w w') (.tuple #[.agg #[.int .i64 bq, .int .u64 fT, .slice bL.a bL.len bL.cap], .int .i64 e]) aw) fun aw uW=>⟨?_,Ext.e3 (bz.trans af) uW (cP _)⟩
   rw[he];rfl
 refine ⟨fun h=>out _ _ (.refl _ _) ?_,fun h=> ?_⟩
 · have h:(s.len:Int)≠256:=by simpa using h
   unfold l5
   rw[if_pos (by omega)]
 have h:(s.len:Int)=256:=by simpa using h
 have ahC:l.length=256:=by omega
 have kM:=aj.ext bz
 have ahD:=B4 kM al (lo:=0) (hi:=4) (by omega) (by omega)
 have ahE:Src 1 ag ⟨a3 s.a 1 0 s.cap,4-0,s.cap-0⟩ (((l.take 4).map fun b=>((b.toNat:Nat):Int)).map (.int .u8)):=by
   rw[List.map_map];exact ahD
 have Xv:=W8 (src:=ah.cd) (dst:=ah.string) (by kernel_rfl) (by kernel_rfl) ahE
 have o4:(((l.take 4).map fun b=>((b.toNat:Nat):Int)).map fun n=>UInt8.ofNat n.toNat)=l.take 4:=by
   rw[List.map_map]
   have:((fun n:Int=>UInt8.ofNat n.toNat)∘fun b:UInt8=>((b.toNat:Nat):Int))=id:=by funext b;simp
   rw[this,List.map_id]
 rw[o4] at Xv
 refine ⟨⟨by decide,by omega⟩,S (l.take 4),ag,Xv,?_⟩
 have ahF:(ByteArray.toList (S (l.take 4))==ByteArray.toList (ByteArray.mk #[83,84,78,67]))=decide (l.take 4=nD):=by
   rw[show (ByteArray.mk #[83,84,78,67])=S nD from rfl,Cb]
   rw[o1];simp
 rw[ahF]
 refine ⟨fun h=>out _ _ (.refl _ _) ?_,fun h=> ?_⟩
 · have h:l.take 4≠nD:=by simpa using h
   unfold l5
   rw[if_neg (by omega),if_pos h]
 have hm:l.take 4=nD:=by simpa using h
 obtain ⟨ahG,Ng,ato,yg⟩:=kM.at (GI (l:=l) (i:=4) (by omega))
 have atp:s.len=256:=by omega
 refine ⟨ahG,Ng,⟨by decide,by omega⟩,_,yg,fun h=>out _ _ (.refl _ _) ?_,fun h=> ?_⟩
 · have h:(((l[4]'(by omega)).toNat:Nat):Int)≠1:=by simpa using h
   unfold l5
   rw[if_neg (by omega),if_neg (by simp[hm]),if_pos (by
     intro e
     apply h
     rw[p5,g8 (by omega)] at e
     have e:(l[4]'(by omega))=1:=e
     rw[e];rfl)]
 have aI:l.getD 4 0=1:=by
   have h:(((l[4]'(by omega)).toNat:Nat):Int)=1:=by simpa using h
   rw[p5,g8 (by omega)]
   exact UInt8.toNat_inj.1 (by show (l[4]'(by omega)).toNat=1;omega)
 refine (uR kM al ahC).use ?_
 rintro _ aw ⟨rfl,cv⟩
 have mo:=kM.ext cv
 refine ⟨_,rfl,(rm mo al (a:=20) (k:=4) (e:=24) rfl (by decide) (by omega) az).use ?_⟩
 rintro _ _ ⟨rfl,rfl⟩
 have Xw:wg l<4294967296:=Rh _
 rw[wc (n:=((wg l:Nat):Int)) (by omega) (by omega)]
 refine ⟨_,rfl,fun h=>out _ _ cv ?_,fun h=> ?_⟩
 · have h:((wg l:Nat):Int)≠((jg l 20 4:Nat):Int):=by simpa using h
   unfold l5
   rw[if_neg (by omega),if_neg (by simp[hm]),if_neg (fun h=>h aI),if_pos (by omega)]
 have Cc:wg l=jg l 20 4:=by
   have h:((wg l:Nat):Int)=((jg l 20 4:Nat):Int):=by simpa using h
   omega
 refine (rm mo al (a:=6) (k:=2) (e:=8) rfl (by decide) (by omega) az).use ?_
 rintro _ _ ⟨rfl,rfl⟩
 have atq:jg l 6 2<65536:=Jn 2 _ (by simp;omega)
 obtain ⟨ahH,iC,Nh,lF⟩:=mo.at (GI (l:=l) (i:=5) (by omega))
 have cS:l.getD 5 0=l[5]'(by omega):=by rw[p5,g8 (by omega)];rfl
 have atr:=Gp (l[5]'(by omega))
 refine ⟨_,rfl,ahH,iC,⟨by decide,by omega⟩,_,lF,?_⟩
 rw[cE (n:=(((l[5]'(by omega)).toNat:Nat):Int)) (by omega) (by omega),cE (n:=((jg l 6 2:Nat):Int)) (by omega) (by omega)]
 refine Calls.mono (W.Xn (((l[5]'(by omega)).toNat:Nat):Int) aw (fun v w'=>v= .bool (decide (1≤(l[5]'(by omega)).toNat∧(l[5]'(by omega)).toNat≤4))∧aw=w') ⟨?_,rfl⟩) ?_
 · have e:(decide ((((l[5]'(by omega)).toNat:Nat):Int)≥1)&&decide ((((l[5]'(by omega)).toNat:Nat):Int)≤4))=decide (1≤(l[5]'(by omega)).toNat∧(l[5]'(by omega)).toNat≤4):=by
     rw[o1]
     simp only[jw,fI]
     omega
   rw[e]
 rintro _ _ ⟨_,rfl,rfl,rfl⟩
 have oH:24+jg l 6 2≤256→True:=fun _=>trivial
 refine ⟨_,rfl,e4 (fun b w'=>b=decide (¬(1≤(l[5]'(by omega)).toNat∧(l[5]'(by omega)).toNat≤4)∨232<jg l 6 2∨(l.drop (24+jg l 6 2)).all (fun c=>c==0)=false)∧aw=w') (fun q J=>⟨fun U=>J _ _ ⟨?_,rfl⟩,fun U=> ?_⟩) ?_⟩
 · refine (il ?_).symm
   simp only[xZ,zH,tE,fI] at U
   rcases U with U|U
   · exact .inl U
   · exact .inr (.inl (by omega))
 · simp only[MM,Bool.not_eq_false',tE,fI] at U
   have ahI:jg l 6 2≤232:=by omega
   rw[cE (n:=24+((jg l 6 2:Nat):Int)) (by omega) (by omega)]
   refine ⟨⟨by omega,by omega⟩,?_⟩
   have Rr:Int.toNat (24+((jg l 6 2:Nat):Int))=24+jg l 6 2:=by omega
   rw[Rr]
   have z1:=B4 mo al (lo:=24+jg l 6 2) (hi:=s.len) (by omega) (by omega)
   rw[gX (l:=l.drop (24+jg l 6 2)) (by rw[fw];omega)] at z1
   refine (yd z1 (by rw[fw];omega)).use ?_
   rintro _ _ ⟨rfl,rfl⟩
   refine ⟨_,rfl,J _ _ ⟨?_,rfl⟩⟩
   cases gJ:(l.drop (24+jg l 6 2)).all (fun c=>c==0) with
   |true=>exact (sH (by rintro (ad|ad|ad)<;>first|exact ad U.1|omega|cases ad)).symm
   |false=>exact (il (.inr (.inr rfl))).symm
 rintro b _ ⟨rfl,rfl⟩
 refine ⟨fun h=>out _ _ cv ?_,fun h=> ?_⟩
 · have h:=dU h
   unfold l5
   rw[if_neg (by omega),if_neg (by simp[hm]),if_neg (fun h=>h aI),if_neg (by omega),if_pos (by rw[cS];exact h)]
 have ae:=ff h
 have lE:¬(¬(1≤(l.getD 5 0).toNat∧(l.getD 5 0).toNat≤4)∨232<jg l 6 2∨(l.drop (24+jg l 6 2)).all (fun c=>c==0)=false):=by rw[cS];exact ae
 have ahI:jg l 6 2≤232:=by
   rcases hE 232 (jg l 6 2) with U|U
   · exact absurd (.inr (.inl U)) ae
   · exact U
 have ats:1≤(l[5]'(by omega)).toNat∧(l[5]'(by omega)).toNat≤4:=Decidable.byContradiction fun h=>ae (.inl h)
 refine Calls.mono (W.Xm no aw (fun v w'=>v= .bool (decide (0≤no∧no<1600))∧aw=w') ⟨by simp[ge_iff_le],rfl⟩) ?_
 rintro _ _ ⟨_,rfl,rfl,rfl⟩
 have att:jg l 8 4<4294967296:=Jn 4 _ (by simp;omega)
 refine ⟨_,rfl,e4 (fun b w'=>b=decide (¬(0≤no∧no<1600)∨(jg l 8 4:Int)≠no)∧aw=w') (fun q J=>⟨fun U=>J _ _ ⟨?_,rfl⟩,fun U=> ?_⟩) ?_⟩
 · refine (il ?_).symm
   simp only[zH,tE] at U
   exact .inl U
 · simp only[Bool.not_eq_false',fI] at U
   refine (rm mo al (a:=8) (k:=4) (e:=12) rfl (by decide) (by omega) az).use ?_
   rintro _ _ ⟨rfl,rfl⟩
   refine ⟨_,rfl,J _ _ ⟨?_,rfl⟩⟩
   rw[wc (n:=no) (by omega) (by omega),o1,fI,bne_iff_ne]
   exact ⟨fun h=> .inr h,fun h=>h.resolve_left (fun ad=>ad U)⟩
 rintro b _ ⟨rfl,rfl⟩
 refine ⟨fun h=>out _ _ cv ?_,fun h=> ?_⟩
 · have h:=dU h
   unfold l5
   rw[if_neg (by omega),if_neg (by simp[hm]),if_neg (fun h=>h aI),if_neg (by omega),if_neg lE,if_pos h]
 have ahJ:=ff h
 have eA:l5 no l= .ok ⟨(l.getD 5 0).toNat,jg l 12 8,(l.drop 24).take (jg l 6 2)⟩:=by
   unfold l5
   rw[if_neg (by omega),if_neg (by simp[hm]),if_neg (fun h=>h aI),if_neg (by omega),if_neg lE,if_neg ahJ]
 refine (x7 mo al (a:=24) (k:=jg l 6 2) (by omega) (by omega)).use ?_
 rintro _ aZ ⟨bQ,rfl,r_,eO,wh⟩
 have bx:=eE aZ
 have dC:=cv.trans (eO.trans bx)
 have Cd:=kM.ext dC
 obtain ⟨ahK,Ni,atu,qE⟩:=Cd.at (GI (l:=l) (i:=5) (by omega))
 refine ⟨bQ,true,rfl,bM ⟨fun _=>False,ahK,Ni,⟨by decide,by omega⟩,id,_,qE,(rm Cd al (a:=12) (k:=8) (e:=20) rfl (by decide) (by omega) az).use ?_⟩⟩
 rintro _ _ ⟨rfl,rfl⟩
 rw[cE (n:=(((l[5]'(by omega)).toNat:Nat):Int)) (by omega) (by omega)]
 refine ⟨_,rfl, .refl _ _,Xu _ _ bQ (ak.ext dC) rfl (K:=fun bq fT bL aw=>(fun v w'=>Nf (l5 no l) w w' v∧Ext w w') (.tuple #[.agg #[.int .i64 bq, .int .u64 fT, .slice bL.a bL.len bL.cap], .int .i64 0]) aw) fun br uW=>⟨?_,Ext.e3 (bz.trans dC) uW (cP _)⟩⟩
 rw[eA]
 refine ⟨bQ,by rw[cS];rfl,(r_.ext bx).an uW fun k ae e=> ?_,wh.mono (bz.trans cv).size⟩
 have:=wh k ae
 have:=ak.lt
 have:=cv.size
 subst e
 omega
end
section
theorem Xx {P:Program} {w:World}:∀ (l:List UInt8) (a:Addr) (acc:ByteArray),(∀j x,l[j]? =some x→w.cell? (a.add j)=some (.int .u8 ((x.toNat:Nat):Int)))→
   (Extern.Bytes.loadBytes a l.length acc).run P w= .ok ⟨acc.data++l.toArray⟩ w
 | [],a,acc,_=>by simp[Extern.Bytes.loadBytes]
 |x::l,a,acc,h=>by
   have b3:=h 0 x rfl
   rw[add_zero'] at b3
   have dw:=Xx (P:=P) l (a.add 1) (acc.push x) (fun j y b2=>by
     rw[add_add,Nat.add_comm]
     exact h (j+1) y (by simpa using b2))
   have af:((x.toNat:Nat):Int).toNat.toUInt8=x:=agV x
   simp only[oB,Extern.Bytes.loadBytes,Sem.run_bind,Rs b3,Result.andThen,af]
   rw[dw]
   congr 2
   simp[ByteArray.push]
theorem Xy {P:Program} {w:World} {s:aa} {l:List UInt8} (h:Src 1 w s (bg l)):(Extern.Bytes.bytesOf (.slice s.a s.len s.cap)).run P w= .ok (S l) w:=by
 cases aj:s.a with
 |none=>
   have b3:l=[]:=by
     have:=h.nil aj
     cases l with
     |nil=>rfl
     |cons a l=>simp[bg] at this
   subst b3
   rfl
 |some A=>
   have aU:=h.rd A aj
   rw[ml] at aU
   have:=Xx (P:=P) (w:=w) l A .empty (fun j x a6=>by
     have:=GM aU (j:=j) (v:= .int .u8 ((x.toNat:Nat):Int)) (by simp[bg,a6])
     simpa using this)
   show (Extern.Bytes.loadBytes A s.len .empty).run P w=_
   rw[kN h,this]
   congr 1
   show (ByteArray.mk (ByteArray.empty.data++l.toArray))=ByteArray.mk l.toArray
   congr 1
   exact Array.empty_append ..
theorem Xz:∀a b:Key,Lib.compareBytes a b=iI a b
 | [],[]=>rfl
 | [],_::_=>rfl
 |_::_,[]=>rfl
 |a::x,b::y=>by
   simp only[Lib.compareBytes,iI,UInt8.lt_iff_toNat_lt,Xz x y]
theorem oI {s t:aa} {l m:Key} {w:World} (aj:Src 1 w s (bg l)) (aN:Src 1 w t (bg m)):
   aQ Tryz.prog F.oI #[.slice s.a s.len s.cap, .slice t.a t.len t.cap] w (fun v w'=>v= .int .i64 (iI l m)∧w=w'):=by
 refine W.ahL s t w _ ?_
 unfold W.oI
 refine ⟨iI l m,w,?_,rfl,rfl⟩
 rw[run_callFunc_extern Tryz.func113 rfl rfl rfl rfl]
 have:(Extern.BytealgCompare.compare #[.slice s.a s.len s.cap, .slice t.a t.len t.cap]).run Tryz.prog w= .ok (.int .i64 (iI l m)) w:=by
   change Sem.run Tryz.prog (do pure (goInt (Extern.BytealgCompare.cmp (←Extern.Bytes.bytesOf (.slice s.a s.len s.cap)) (←Extern.Bytes.bytesOf (.slice t.a t.len t.cap))))) w=_
   simp only[Sem.run_bind,Xy aj,Xy aN,Result.andThen,Sem.run_pure]
   rw[Lib.cmp_eq]
   show Result.ok (goInt (Lib.compareBytes l m)) w=_
   rw[Xz];rfl
 rw[this]
 rfl
theorem wi {s:aa} {l:List UInt8} {w:World} (h:Src 1 w s (bg l)):Sem.run Tryz.prog (convert ah.cd ah.string (.slice s.a s.len s.cap)) w= .ok (.string (S l)) w:=by
 have p9:Src 1 w s ((l.map fun b=>((b.toNat:Nat):Int)).map (.int .u8)):=by rw[List.map_map];exact h
 have:=W8 (src:=ah.cd) (dst:=ah.string) (by kernel_rfl) (by kernel_rfl) p9
 rw[List.map_map] at this
 have e:((fun n:Int=>UInt8.ofNat n.toNat)∘fun b:UInt8=>((b.toNat:Nat):Int))=id:=by funext b;simp
 rw[e,List.map_id] at this
 exact this
theorem yh {s t:aa} {l m:Key} {w:World} (aj:Src 1 w s (bg l)) (aN:Src 1 w t (bg m)):
   aQ Tryz.prog F.yh #[.slice s.a s.len s.cap, .slice t.a t.len t.cap] w (fun v w'=>v= .bool (decide (l=m))∧w=w'):=by
 refine W.ahM s t w _ ?_
 unfold W.yh
 refine ⟨_,_,wi aj,_,_,wi aN,?_,rfl⟩
 rw[Cb]
 congr 1
 rw[o1];simp
def In (B:Nat→Prop) (w:World) (s:aa):Prop:=∀k,aR s k→B k∧k<w.heap.size
def bD (B:Nat→Prop) (w:World) (t:aa) (l:Key):Prop:=Src 1 w t (bg l)∧t.len≤t.cap∧In B w t
def bU (B:Nat→Prop) (w:World) (s:aa) (ls:List Key):Prop:=
 ∃ts:List aa,ts.length=ls.length∧Src 1 w s (ts.map pB)∧s.len≤s.cap∧In B w s∧∀ (i:Nat) (U:i<ts.length) (ad:i<ls.length),bD B w ts[i] ls[i]
def l6 (ds:List Nat):List Value:=ds.map fun d=> .int .i64 ((d:Nat):Int)
def eF (B:Nat→Prop) (w:World) (s:aa) (ds:List Nat):Prop:=Src 1 w s (l6 ds)∧s.len≤s.cap∧In B w s
def bW (B:Nat→Prop) (w:World) (s:aa) (ls:List Key):Prop:=
 ∃ts:List aa,ts.length=ls.length∧b6 1 ah.cd w s (ts.map pB)∧In B w s∧∀ (i:Nat) (U:i<ts.length) (ad:i<ls.length),bD B w ts[i] ls[i]∧∀k,aR ts[i] k→¬aR s k
def eB (B:Nat→Prop) (w:World) (s:aa) (ds:List Nat):Prop:=b6 1 ah.int w s (l6 ds)∧In B w s
section
variable {B C:Nat→Prop} {w w':World} {s t:aa} {l:Key} {ls:List Key} {ds:List Nat}
theorem In.an {V:Nat→Prop} (h:In B w s) (al:ao V w w'):In B w' s:=fun k ae=>⟨(h k ae).1,lg (h k ae).2 al.size⟩
theorem In.bw (h:In B w s) (ab:∀k,k<w.heap.size→B k→C k):In C w s:=fun k ae=>⟨ab k (h k ae).2 (h k ae).1,(h k ae).2⟩
theorem bD.an {V:Nat→Prop} (h:bD B w t l) (al:ao V w w') (ab:∀k,B k→¬V k):bD B w' t l:=⟨h.1.an al fun k ae=>ab k (h.2.2 k ae).1,h.2.1,In.an h.2.2 al⟩
theorem bD.rn {V:Nat→Prop} (h:bD B w t l) (al:ao V w w') (ab:∀k,aR t k→¬V k):bD B w' t l:=⟨h.1.an al ab,h.2.1,In.an h.2.2 al⟩
theorem bD.ext (h:bD B w t l) (al:Ext w w'):bD B w' t l:=bD.an h al fun _ _ h=>h
theorem bD.bw (h:bD B w t l) (ab:∀k,k<w.heap.size→B k→C k):bD C w t l:=⟨h.1,h.2.1,In.bw h.2.2 ab⟩
theorem bU.an {V:Nat→Prop} (h:bU B w s ls) (al:ao V w w') (ab:∀k,B k→¬V k):bU B w' s ls:=by
 obtain ⟨ts,U,ad,ar,aI,aW⟩:=h
 exact ⟨ts,U,ad.an al fun k ae=>ab k (aI k ae).1,ar,In.an aI al,fun i b5 im=>bD.an (aW i b5 im) al ab⟩
theorem bU.ext (h:bU B w s ls) (al:Ext w w'):bU B w' s ls:=bU.an h al fun _ _ h=>h
theorem bU.bw (h:bU B w s ls) (ab:∀k,k<w.heap.size→B k→C k):bU C w s ls:=by
 obtain ⟨ts,U,ad,ar,aI,aW⟩:=h
 exact ⟨ts,U,ad,ar,In.bw aI ab,fun i b5 im=>bD.bw (aW i b5 im) ab⟩
theorem eF.an {V:Nat→Prop} (h:eF B w s ds) (al:ao V w w') (ab:∀k,B k→¬V k):eF B w' s ds:=⟨h.1.an al fun k ae=>ab k (h.2.2 k ae).1,h.2.1,In.an h.2.2 al⟩
theorem eF.ext (h:eF B w s ds) (al:Ext w w'):eF B w' s ds:=eF.an h al fun _ _ h=>h
theorem eF.bw (h:eF B w s ds) (ab:∀k,k<w.heap.size→B k→C k):eF C w s ds:=⟨h.1,h.2.1,In.bw h.2.2 ab⟩
theorem bU.len (h:bU B w s ls):s.len=ls.length:=by
 obtain ⟨ts,U,ad,_⟩:=h
 have:=ad.len
 rw[mN] at this;omega
theorem GR (ds:List Nat):(l6 ds).length=ds.length:=by simp[l6]
theorem eF.len (h:eF B w s ds):s.len=ds.length:=by
 have:=h.1.len
 rw[GR] at this;omega
theorem bU.at (h:bU B w s ls) {i:Nat} (hi:i<ls.length):∃ (A:Addr) (t:aa),s.a=some A∧((0:Int)≤(i:Int)∧(i:Int)<((s.len:Nat):Int))∧w.cell? (A.add (Int.toNat (i:Int)*1))=some (.slice t.a t.len t.cap)∧bD B w t ls[i]∧B A.block:=by
 obtain ⟨ts,U,ad,ar,aI,aW⟩:=h
 obtain ⟨A,ax,ab,al⟩:=ad.at (i:=i) (v:=pB (ts[i]'(by omega))) (by simp[U,hi])
 exact ⟨A,ts[i]'(by omega),ax,ab,al,aW i (by omega) hi,(aI _ ⟨A,ax,rfl⟩).1⟩
theorem eF.at (h:eF B w s ds) {i:Nat} (hi:i<ds.length):∃A:Addr,s.a=some A∧((0:Int)≤(i:Int)∧(i:Int)<((s.len:Nat):Int))∧w.cell? (A.add (Int.toNat (i:Int)*1))=some (.int .i64 ((ds[i]:Nat):Int)):=by
 obtain ⟨A,ax,ab,al⟩:=h.1.at (i:=i) (v:= .int .i64 ((ds[i]:Nat):Int)) (by simp[l6,hi])
 exact ⟨A,ax,ab,al⟩
theorem bW.qF (h:bW B w s ls):bU B w s ls:=by
 obtain ⟨ts,U,ad,ar,aI⟩:=h
 exact ⟨ts,U,ad.src,ad.2.1,ar,fun i aW b5=>(aI i aW b5).1⟩
theorem eB.GS (h:eB B w s ds):eF B w s ds:=⟨h.1.src,h.1.2.1,h.2⟩
theorem bW.none (B:Nat→Prop) (w:World):bW B w ⟨.none,0,0⟩ []:=⟨[],rfl,b6.none _ _ _,fun k ae=>(r7 k ae).elim,fun i h=>by simp at h⟩
theorem eB.none (B:Nat→Prop) (w:World):eB B w ⟨.none,0,0⟩ []:=⟨b6.none _ _ _,fun k ae=>(r7 k ae).elim⟩
theorem bU.none (B:Nat→Prop) (w:World):bU B w ⟨.none,0,0⟩ []:=bW.qF (bW.none B w)
theorem eF.none (B:Nat→Prop) (w:World):eF B w ⟨.none,0,0⟩ []:=eB.GS (eB.none B w)
theorem bW.an {V:Nat→Prop} (h:bW B w s ls) (al:ao V w w') (ab:∀k,B k→¬V k):bW B w' s ls:=by
 obtain ⟨ts,U,ad,ar,aI⟩:=h
 exact ⟨ts,U,ad.an al fun k ae=>ab k (ar k ae).1,In.an ar al,fun i aW b5=>⟨bD.an (aI i aW b5).1 al ab,(aI i aW b5).2⟩⟩
theorem bW.ext (h:bW B w s ls) (al:Ext w w'):bW B w' s ls:=bW.an h al fun _ _ h=>h
theorem eB.an {V:Nat→Prop} (h:eB B w s ds) (al:ao V w w') (ab:∀k,B k→¬V k):eB B w' s ds:=⟨h.1.an al fun k ae=>ab k (h.2 k ae).1,In.an h.2 al⟩
theorem eB.ext (h:eB B w s ds) (al:Ext w w'):eB B w' s ds:=eB.an h al fun _ _ h=>h
theorem bD.some (h:bD B w t l) (az:l≠ []):∃A,t.a=some A:=by
 cases aS:t.a with
 |none=>
   have:=h.1.nil aS
   exfalso
   apply az
   cases l with
   |nil=>rfl
   |cons a l=>simp[bg] at this
 |some A=>exact ⟨A,rfl⟩
end
theorem GU:qx Tryz.prog ah.cC ah.cd 1 24:=⟨by kernel_rfl⟩
theorem Nj:qx Tryz.prog ah.fb ah.int 1 8:=⟨by kernel_rfl⟩
theorem Nk (ts:List aa):∀v∈ts.map pB,Plain v:=by
 intro v ak
 obtain ⟨n,_,rfl⟩:=p4.1 ak
 trivial
theorem XA (ds:List Nat):∀v∈l6 ds,Plain v:=by
 intro v ak
 obtain ⟨n,_,rfl⟩:=p4.1 ak
 trivial
theorem uX {B:Nat→Prop} {w:World} {s:aa} {l:List UInt8} (h:Src 1 w s (bg l)) (az:l.length≤1000000) (e1:∀k,w.heap.size≤k→B k):
   aQ Tryz.prog F.l4 #[.slice s.a s.len s.cap] w (fun v w'=>∃au:aa,v= .slice au.a au.len au.cap∧bD B w' au l∧Ext w w'∧oF w au):=by
 refine (Q8 h az).mono ?_
 rintro _ w' ⟨au,rfl,bJ,af,aG⟩
 exact ⟨au,rfl,⟨bJ.src,bJ.2.1,fun k ae=>⟨e1 k (aG k ae),bJ.lt k ae⟩⟩,af,aG⟩
theorem XB {B:Nat→Prop} {w:World} {s t:aa} {ls:List Key} {l:Key} (bJ:bW B w s ls) (aN:bD B w t l) (hd:∀k,aR t k→¬aR s k) (aD:ls.length≤1000000) (e1:∀k,w.heap.size≤k→B k):
   ∃ (au:aa) (w':World),Sem.run Tryz.prog (Builtin.append_ #[ah.cC,ah.cC] ah.cC #[.slice s.a s.len s.cap, .slice (some ⟨w.heap.size,0,none⟩) 1 1]) (w.alloc (.cells #[.slice t.a t.len t.cap] ah.cd))= .ok (.slice au.a au.len au.cap) w'∧
     bW B w' au (ls++ [l])∧ao (aR s) w w'∧(∀k,aR au k→aR s k∨w.heap.size≤k):=by
 obtain ⟨ts,U,ad,ar,aI⟩:=bJ
 have gA:s.len=ls.length:=by have:=ad.1;rw[mN] at this;omega
 obtain ⟨au,w',aA,aF,aJ,aO,cS⟩:=GU.push (ez:=ah.cC) (w:=w) (s:=s) (xs:=[pB t]) rfl ad (fun v ak=>by rw[nC.1 ak];trivial) (by omega)
 refine ⟨au,w',aA,⟨ts++ [t],by simp[U],?_,?_,fun i aW b5=> ?_⟩,aO,cS⟩
 · rw[n3];exact aF
 · intro k ae
   refine ⟨?_,aF.lt k ae⟩
   rcases cS k ae with h|h
   · exact (ar k h).1
   · exact e1 k h
 · have mu:∀ (x:aa),(∀k,aR x k→k<w.heap.size)→(∀k,aR x k→¬aR s k)→∀k,aR x k→¬aR au k:=fun x af cv k ae dW=>by
     rcases cS k dW with h|h
     · exact cv k ae h
     · have:=af k ae;omega
   have ahN:i<ts.length+1:=by simpa using aW
   rcases hE i ts.length with h|h
   · obtain ⟨im,n9⟩:=aI i h (by omega)
     simp only[zI h,zI (show i<ls.length by omega)]
     exact ⟨bD.rn im aO n9,mu _ (fun k ae=>(im.2.2 k ae).2) n9⟩
   · have:i=ts.length:=by omega
     subst this
     have e:(ts++ [t])[ts.length]'aW=t:=by simp
     have:(ls++ [l])[ts.length]'b5=l:=by rw[Eg (by omega)];simp
     rw[this,e]
     exact ⟨bD.rn aN aO hd,mu _ (fun k ae=>(aN.2.2 k ae).2) hd⟩
theorem ahO {B:Nat→Prop} {w:World} {s:aa} {ds:List Nat} (d:Nat) (bJ:eB B w s ds) (aD:ds.length≤1000000) (e1:∀k,w.heap.size≤k→B k):
   ∃ (au:aa) (w':World),Sem.run Tryz.prog (Builtin.append_ #[ah.fb,ah.fb] ah.fb #[.slice s.a s.len s.cap, .slice (some ⟨w.heap.size,0,none⟩) 1 1]) (w.alloc (.cells #[.int .i64 ((d:Nat):Int)] ah.int))= .ok (.slice au.a au.len au.cap) w'∧
     eB B w' au (ds++ [d])∧ao (aR s) w w'∧(∀k,aR au k→aR s k∨w.heap.size≤k):=by
 have gA:s.len=ds.length:=by have:=bJ.1.1;rw[GR] at this;omega
 obtain ⟨au,w',aA,aF,aJ,aO,cS⟩:=Nj.push (ez:=ah.fb) (w:=w) (s:=s) (xs:=[.int .i64 ((d:Nat):Int)]) rfl bJ.1 (fun v ak=>by rw[nC.1 ak];trivial) (by omega)
 refine ⟨au,w',aA,⟨by simpa[l6] using aF,fun k ae=>⟨?_,aF.lt k ae⟩⟩,aO,cS⟩
 rcases cS k ae with h|h
 · exact (bJ.2 k h).1
 · exact e1 k h
structure b8 (B:Nat→Prop) (w:World) (n:aL) (K V D:aa):Prop where
 keys:bU B w K n.keys
 vals:bU B w V n.vals
 kids:eF B w D n.kids
def hK (n:aL) (K V D:aa):List Value:=[.bool n.leaf, .slice K.a K.len K.cap, .slice V.a V.len V.cap, .slice D.a D.len D.cap]
def e5 (n:aL) (K V D:aa):Value:= .agg #[.bool n.leaf, .slice K.a K.len K.cap, .slice V.a V.len V.cap, .slice D.a D.len D.cap]
section
variable {B C:Nat→Prop} {w w':World} {n:aL} {K V D:aa}
theorem b8.an {W:Nat→Prop} (h:b8 B w n K V D) (al:ao W w w') (ab:∀k,B k→¬W k):b8 B w' n K V D:=⟨bU.an h.keys al ab,bU.an h.vals al ab,eF.an h.kids al ab⟩
theorem b8.ext (h:b8 B w n K V D) (al:Ext w w'):b8 B w' n K V D:=b8.an h al fun _ _ h=>h
theorem b8.bw (h:b8 B w n K V D) (ab:∀k,k<w.heap.size→B k→C k):b8 C w n K V D:=⟨bU.bw h.keys ab,bU.bw h.vals ab,eF.bw h.kids ab⟩
theorem cj {b:Nat} {T:TypeId} {leaf:Bool} (h:Var w b [.bool leaf, .slice K.a K.len K.cap, .slice V.a V.len V.cap, .slice D.a D.len D.cap] T):
   w.cell? ⟨b,0,none⟩=some (.bool leaf)∧w.cell? (Addr.add ⟨b,0,none⟩ 1)=some (.slice K.a K.len K.cap)∧w.cell? (Addr.add ⟨b,0,none⟩ 2)=some (.slice V.a V.len V.cap)∧w.cell? (Addr.add ⟨b,0,none⟩ 3)=some (.slice D.a D.len D.cap):=by
 rw[aV,aV,aV]
 exact ⟨h.cell,h.cell,h.cell,h.cell⟩
end
end
section
theorem ahP {B:Nat→Prop} {w:World} {s:aa} {ls:List Key} (h:bU B w s ls) (aD:ls.length≤1000000):
   aQ Tryz.prog F.Ce #[.slice s.a s.len s.cap, .func (.func F.wj) #[] #[]] w (fun v w'=>v= .bool (ls.any fun v=>decide (24<v.length))∧w=w'):=by
 refine W.ahQ s ⟨F.wj, #[], #[]⟩ w _ ?_
 (delta W.Ce bc;dsimp only)
 have az:=bU.len h
 have yi:tL Tryz.prog F.wj:=⟨_,(Option.some_get (show (Tryz.prog.funcs[F.wj]?).isSome=true by kernel_rfl)).symm,by kernel_rfl,by kernel_rfl⟩
 refine Calls.mono (W.ahR s ⟨F.wj, #[], #[]⟩ w (fun v w'=>(∃i:Int,v= .int .i64 i∧(decide (i≥0))=(ls.any fun v=>decide (24<v.length)))∧w=w') ?_) ?_
 · (delta W.EA aE a8 aq aC;dsimp only)
   refine ⟨fun i w'=>∃j:Nat,i=j∧j≤ls.length∧w=w'∧∀ (k:Nat) (ae:k<ls.length),k<j→(ls[k]).length≤24,fun i _=>((ls.length:Int)-i).toNat,⟨0,rfl,fx _,rfl,fun k ae h=>by omega⟩,?_⟩
   rintro _ _ ⟨j,rfl,a6,rfl,gJ⟩
   refine ⟨fun a9=> ?_,fun cm=> ?_⟩
   · have a9:j<ls.length:=by have:=dU a9;omega
     obtain ⟨A,t,ax,ab,al,aN,_⟩:=bU.at h a9
     refine ⟨A,ax,ab,t,al,yi,?_⟩
     have nF:=kN aN.1
     refine Calls.mono (W.ahS t w (fun v w'=>v= .bool (decide (24<(ls[j]).length))∧w=w') ⟨?_,rfl⟩) ?_
     · congr 1
       rw[o1,fI,fI];omega
     rintro _ _ ⟨_,rfl,rfl,rfl⟩
     refine ⟨_,rfl,fun ab=>⟨⟨j,rfl,?_⟩,rfl⟩,fun ab=> ?_⟩
     · have:(ls.any fun v=>decide (24<v.length))=true:=List.any_eq_true.2 ⟨_,fv a9,ab⟩
       rw[this];exact il (by omega)
     · have ab:=ff ab
       rw[cE (n:=(j:Int)+1) (by omega) (by omega)]
       refine ⟨⟨j+1,by omega,by omega,rfl,fun k ae h=> ?_⟩,?_⟩
       · rcases hE k j with U|U
         · exact gJ k ae U
         · have:k=j:=by omega
           subst this;omega
       · show ((ls.length:Int)-((j:Int)+1)).toNat<((ls.length:Int)-(j:Int)).toNat
         omega
   · have cm:j=ls.length:=by have:=ff cm;omega
     subst cm
     refine ⟨⟨-1,rfl,?_⟩,rfl⟩
     have:(ls.any fun v=>decide (24<v.length))=false:=by
       rw[Jc]
       intro x af
       obtain ⟨k,ae,rfl⟩:=na af
       have:=gJ k ae ae
       simp;omega
     rw[this];rfl
 · rintro _ _ ⟨_,rfl,⟨i,rfl,hi⟩,rfl⟩
   exact ⟨i,rfl,by rw[hi],rfl⟩
theorem ahT {B:Nat→Prop} {w:World} {s:aa} {ds:List Nat} (h:eF B w s ds) (aD:ds.length≤1000000):
   aQ Tryz.prog F.Cf #[.slice s.a s.len s.cap, .func (.func F.wk) #[] #[]] w (fun v w'=>v= .bool (ds.any fun d=>decide (1600≤d))∧w=w'):=by
 refine W.ahU s ⟨F.wk, #[], #[]⟩ w _ ?_
 (delta W.Cf bc;dsimp only)
 have az:=eF.len h
 have yi:tL Tryz.prog F.wk:=⟨_,(Option.some_get (show (Tryz.prog.funcs[F.wk]?).isSome=true by kernel_rfl)).symm,by kernel_rfl,by kernel_rfl⟩
 refine Calls.mono (W.ahV s ⟨F.wk, #[], #[]⟩ w (fun v w'=>(∃i:Int,v= .int .i64 i∧(decide (i≥0))=(ds.any fun d=>decide (1600≤d)))∧w=w') ?_) ?_
 · (delta W.EB aE a8 bA aC;dsimp only)
   refine ⟨fun i w'=>∃j:Nat,i=j∧j≤ds.length∧w=w'∧∀ (k:Nat) (ae:k<ds.length),k<j→ds[k]<1600,fun i _=>((ds.length:Int)-i).toNat,⟨0,rfl,fx _,rfl,fun k ae h=>by omega⟩,?_⟩
   rintro _ _ ⟨j,rfl,a6,rfl,gJ⟩
   refine ⟨fun a9=> ?_,fun cm=> ?_⟩
   · have a9:j<ds.length:=by have:=dU a9;omega
     obtain ⟨A,ax,ab,al⟩:=eF.at h a9
     refine ⟨A,ax,ab,_,al,yi,?_⟩
     refine Calls.mono (W.ahW ((ds[j]:Nat):Int) w (fun v w'=>v= .bool (decide (1600≤ds[j]))∧w=w') ⟨?_,rfl⟩) ?_
     · congr 1
       rw[o1,xZ,fI,fI,fI];omega
     rintro _ _ ⟨_,rfl,rfl,rfl⟩
     refine ⟨_,rfl,fun ab=>⟨⟨j,rfl,?_⟩,rfl⟩,fun ab=> ?_⟩
     · have:(ds.any fun d=>decide (1600≤d))=true:=List.any_eq_true.2 ⟨_,fv a9,ab⟩
       rw[this];exact il (by omega)
     · have ab:=ff ab
       rw[cE (n:=(j:Int)+1) (by omega) (by omega)]
       refine ⟨⟨j+1,by omega,by omega,rfl,fun k ae h=> ?_⟩,?_⟩
       · rcases hE k j with U|U
         · exact gJ k ae U
         · have:k=j:=by omega
           subst this;omega
       · show ((ds.length:Int)-((j:Int)+1)).toNat<((ds.length:Int)-(j:Int)).toNat
         omega
   · have cm:j=ds.length:=by have:=ff cm;omega
     subst cm
     refine ⟨⟨-1,rfl,?_⟩,rfl⟩
     have:(ds.any fun d=>decide (1600≤d))=false:=by
       rw[Jc]
       intro x af
       obtain ⟨k,ae,rfl⟩:=na af
       have:=gJ k ae ae
       simp;omega
     rw[this];rfl
 · rintro _ _ ⟨_,rfl,⟨i,rfl,hi⟩,rfl⟩
   exact ⟨i,rfl,by rw[hi],rfl⟩
theorem XC:∀ {l:List Key},(∀ (i:Nat) (h:i+1<l.length),ck l[i] l[i+1])→l.Pairwise ck
 | [],_=> .nil
 |a::l,h=>by
   have dw:=XC (l:=l) fun i hi=>h (i+1) (by simpa using hi)
   refine tB.2 ⟨fun b ab=> ?_,dw⟩
   cases l with
   |nil=>simp at ab
   |cons c l=>
     have b3:ck a c:=h 0 (by simp)
     rcases gp.1 ab with rfl|ab
     · exact b3
     · exact x1 b3 ((tB.1 dw).1 b ab)
instance (k:Key):Decidable (ew k):=by unfold ew;infer_instance
theorem uY {w:World} {t:aa} {l:Key} (h:Src 1 w t (bg l)):aQ Tryz.prog F.uY #[.slice t.a t.len t.cap] w (fun v w'=>v= .bool (decide (ew l))∧w=w'):=by
 have az:=kN h
 refine W.ahX t w _ ?_
 unfold W.uY
 refine ⟨?_,rfl⟩
 congr 1
 rw[o1,jw,fI,fI,fI]
 unfold ew
 omega
theorem nG {B:Nat→Prop} {w:World} {n:aL} {K V D:aa} (h:b8 B w n K V D) (U:n.keys.length≤100000) (ad:n.vals.length≤100000) (ar:n.kids.length≤100000):
   aQ Tryz.prog F.nG #[e5 n K V D] w (fun v w'=>∃b:Bool,v= .bool b∧(b=true↔dX n)∧Ext w w'):=by
 refine W.ahY n.leaf K V D w _ ?_
 (delta W.nG aq ai aE a8 a_ aC bc bP;dsimp only)
 refine cp (vs:=[.bool n.leaf, .slice K.a K.len K.cap, .slice V.a V.len V.cap, .slice D.a D.len D.cap]) rfl fun ag ak bz _=> ?_
 obtain ⟨cA,bd,bc,a_⟩:=cj ak
 have aD:=h.ext bz
 have Cg:=bU.len aD.keys
 have dD:=bU.len aD.vals
 have cI:=eF.len aD.kids
 refine ⟨K,bd,fun i w'=>∃j:Nat,i=j∧j≤n.keys.length∧ag=w'∧(∀ (k:Nat) (ae:k<n.keys.length),k<j→ew n.keys[k])∧∀ (k:Nat) (ae:k+1<n.keys.length),k+1<j→ck n.keys[k] n.keys[k+1],
   fun i _=>((n.keys.length:Int)-i).toNat,⟨0,rfl,fx _,rfl,fun k ae h=>by omega,fun k ae h=>by omega⟩,?_⟩
 rintro _ _ ⟨j,rfl,a6,rfl,eA,XD⟩
 refine ⟨fun a9=> ?_,fun cm=> ?_⟩
 · have a9:j<n.keys.length:=by have:=dU a9;omega
   obtain ⟨A,t,ax,ab,al,aN,_⟩:=bU.at aD.keys a9
   refine ⟨A,ax,ab,t,al,(uY aN.1).use ?_⟩
   rintro _ _ ⟨rfl,rfl⟩
   refine ⟨_,rfl,e4 (fun b w'=>ag=w'∧(b=true→¬dX n)∧(b=false→ew n.keys[j]∧∀ (a6:1≤j),ck (n.keys[j-1]'(by omega)) n.keys[j])) (fun q J=>⟨fun ab=> ?_,fun ab=> ?_⟩) ?_⟩
   · have ab:¬ew n.keys[j]:=by simpa using ab
     exact J _ _ ⟨rfl,fun _ aj=>ab (aj.keys.ok _ (fv a9)),fun h=>by cases h⟩
   · have ab:ew n.keys[j]:=by simpa using ab
     refine e4 (fun b w'=>ag=w'∧(b=true→¬dX n)∧(b=false→∀ (a6:1≤j),ck (n.keys[j-1]'(by omega)) n.keys[j])) (fun iB g9=>⟨fun b3=> ?_,fun b3=> ?_⟩) ?_
     · have b3:1≤j:=by have:=dU b3;omega
       rw[cE (n:=(j:Int)-1) (by omega) (by omega),show (j:Int)-1=((j-1:Nat):Int) by omega]
       obtain ⟨z2,t2,lh,g2,dS,nH,_⟩:=bU.at aD.keys (i:=j-1) (by omega)
       refine ⟨K,bd,z2,lh,g2,t2,dS,(oI nH.1 aN.1).use ?_⟩
       rintro _ _ ⟨rfl,rfl⟩
       refine ⟨_,rfl,g9 _ _ ⟨rfl,fun al aj=> ?_,fun al _=> ?_⟩⟩
       · have al:=dU al
         have:ck (n.keys[j-1]'(by omega)) n.keys[j]:=Gn.1 aj.keys.j0 (j-1) j (by omega) a9 (by omega)
         unfold ck at this
         omega
       · have al:=ff al
         unfold ck;omega
     · have b3:=ff b3
       exact g9 _ _ ⟨rfl,fun h=>(by cases h),fun _ a6=>by omega⟩
     · rintro b w' ⟨rfl,aA,aF⟩
       exact J _ _ ⟨rfl,aA,fun g2=>⟨ab,aF g2⟩⟩
   · rintro b w' ⟨rfl,aA,aF⟩
     refine ⟨fun ab=>⟨false,rfl,⟨fun h=>(by cases h),fun aj=>absurd aj (aA ab)⟩,bz⟩,fun ab=> ?_⟩
     obtain ⟨aJ,aO⟩:=aF ab
     rw[cE (n:=(j:Int)+1) (by omega) (by omega)]
     refine ⟨⟨j+1,by omega,by omega,rfl,fun k ae h=> ?_,fun k ae h=> ?_⟩,?_⟩
     · rcases hE k j with U|U
       · exact eA k ae U
       · have:k=j:=by omega
         subst this;exact aJ
     · rcases hE (k+1) j with U|U
       · exact XD k ae U
       · have:j=k+1:=by omega
         subst this
         exact aO (by omega)
     · show ((n.keys.length:Int)-((j:Int)+1)).toNat<((n.keys.length:Int)-(j:Int)).toNat
       omega
 · have cm:j=n.keys.length:=by have:=ff cm;omega
   subst cm
   have iU:MQ n:=⟨fun k ae=>by
     obtain ⟨i,hi,rfl⟩:=na ae
     exact eA i hi hi,XC fun i hi=>XD i hi hi⟩
   refine ⟨n.leaf,cA,fun az=>⟨V,bc,K,bd,?_⟩,fun az=>⟨K,bd,?_⟩⟩
   · refine e4 (fun b w'=>ag=w'∧b=(decide (n.vals.length=n.keys.length)&&decide (n.kids=[]))) (fun q J=>⟨fun ab=>⟨D,a_,J _ _ ⟨rfl,?_⟩⟩,fun ab=>J _ _ ⟨rfl,?_⟩⟩) ?_
     · have ab:=eq_of_beq ab
       rw[il (show n.vals.length=n.keys.length by omega),Eh,o1,zJ,fI,←zF]
       omega
     · have ab:¬(((V.len:Nat):Int)=((K.len:Nat):Int)):=fun e=>by rw[e] at ab;simp at ab
       rw[sH (by omega),Bool.false_and]
     rintro b w' ⟨rfl,rfl⟩
     refine e4 (fun b w'=>ag=w'∧(b=true↔dX n)) (fun q J=>⟨fun ab=>⟨V,bc,(ahP aD.vals (by omega)).use ?_⟩,fun ab=>J _ _ ⟨rfl,?_⟩⟩) ?_
     · rintro _ _ ⟨rfl,rfl⟩
       refine ⟨_,rfl,J _ _ ⟨rfl,?_⟩⟩
       simp only[jw,fI] at ab
       rw[zH,Jc]
       constructor
       · intro gJ
         exact .inl ⟨iU,az,ab.1,ab.2,fun v ak=>by have:=gJ v ak;simp at this;omega⟩
       · rintro (aj|aj)
         · intro v ak;have:=aj.vals v ak;simp;omega
         · have:=aj.inner;rw[az] at this;cases this
     · have ab:¬(n.vals.length=n.keys.length∧n.kids=[]):=by simpa using ab
       refine ⟨fun h=>(by cases h),?_⟩
       rintro (aj|aj)
       · exact absurd ⟨aj.len,aj.kids⟩ ab
       · have:=aj.inner;rw[az] at this;cases this
     rintro b w' ⟨rfl,ab⟩
     exact ⟨b,rfl,ab,bz⟩
   · refine e4 (fun b w'=>ag=w'∧b=(decide (n.keys≠ [])&&decide (n.kids.length=n.keys.length+1))) (fun q J=>⟨fun ab=>⟨D,a_,K,bd,J _ _ ⟨rfl,?_⟩⟩,fun ab=>J _ _ ⟨rfl,?_⟩⟩) ?_
     · have ab:=dU ab
       have en:n.keys≠ []:=fun e=>by rw[e] at Cg;simp at Cg;omega
       rw[il en,Eh,o1,zJ,fI,cE (by omega) (by omega)]
       omega
     · have ab:=ff ab
       have en:n.keys=[]:=zF.1 (by omega)
       rw[sH (fun h=>h en),Bool.false_and]
     rintro b w' ⟨rfl,rfl⟩
     refine e4 (fun b w'=>ag=w'∧b=(decide (n.keys≠ [])&&decide (n.kids.length=n.keys.length+1)&&decide (n.vals=[]))) (fun q J=>⟨fun ab=>⟨V,bc,J _ _ ⟨rfl,?_⟩⟩,fun ab=>J _ _ ⟨rfl,?_⟩⟩) ?_
     · rw[ab,Eh,o1,zJ,fI,←zF]
       omega
     · rw[ab,Bool.false_and]
     rintro b w' ⟨rfl,rfl⟩
     refine e4 (fun b w'=>ag=w'∧(b=true↔dX n)) (fun q J=>⟨fun ab=>⟨D,a_,(ahT aD.kids (by omega)).use ?_⟩,fun ab=>J _ _ ⟨rfl,?_⟩⟩) ?_
     · rintro _ _ ⟨rfl,rfl⟩
       refine ⟨_,rfl,J _ _ ⟨rfl,?_⟩⟩
       simp only[jw,fI] at ab
       rw[zH,Jc]
       constructor
       · intro gJ
         exact .inr ⟨iU,az,ab.1.1,ab.1.2,ab.2,fun v ak=>by have:=gJ v ak;simp at this;omega⟩
       · rintro (aj|aj)
         · have:=aj.leaf;rw[az] at this;cases this
         · intro v ak;have:=aj.kids v ak;simp;omega
     · have ab:¬((n.keys≠ []∧n.kids.length=n.keys.length+1)∧n.vals=[]):=fun e=>by
         rw[il e.1.1,il e.1.2,il e.2] at ab;cases ab
       refine ⟨fun h=>(by cases h),?_⟩
       rintro (aj|aj)
       · have:=aj.leaf;rw[az] at this;cases this
       · exact absurd ⟨⟨aj.some,aj.len⟩,aj.vals⟩ ab
     rintro b w' ⟨rfl,ab⟩
     exact ⟨b,rfl,ab,bz⟩
end
section
theorem ahZ {w:World} {a b:aa} {pE h7:List UInt8} (aS:Src 1 w a (bg pE)) (ab:Src 1 w b (bg h7)) (az:pE.length+h7.length≤1000):
   aQ Tryz.prog F.sO #[.slice (some ⟨w.heap.size,0,none⟩) 2 2] (w.alloc (.cells #[.slice a.a a.len a.cap, .slice b.a b.len b.cap] ah.cd)) (fun v w'=>∃au:aa,v= .slice au.a au.len au.cap∧b6 1 ah.uint8 w' au (bg (pE++h7))∧Ext w w'∧oF w au):=by
 have af:=iX w (.cells #[.slice a.a a.len a.cap, .slice b.a b.len b.cap] ah.cd)
 refine (M8 (s:=⟨some ⟨w.heap.size,0,none⟩,2,2⟩) [(a,pE),(b,h7)] (Src.new w _ 2 rfl) ?_ (by simp[iV];omega) (by simp)).mono ?_
 · intro p aT
   simp only[gp,mm,mn] at aT
   rcases aT with rfl|rfl
   · exact aS.ext af
   · exact ab.ext af
 · rintro _ w' ⟨au,rfl,bJ,Rt,aG⟩
   have e:iV [(a,pE),(b,h7)]=pE++h7:=by simp[iV]
   rw[e] at bJ
   exact ⟨au,rfl,bJ,af.trans Rt,aG.mono af.size⟩
theorem ah0 {w:World} {a b c:aa} {pE h7 lc:List UInt8} (aS:Src 1 w a (bg pE)) (ab:Src 1 w b (bg h7)) (al:Src 1 w c (bg lc)) (az:pE.length+h7.length+lc.length≤1000):
   aQ Tryz.prog F.sO #[.slice (some ⟨w.heap.size,0,none⟩) 3 3] (w.alloc (.cells #[.slice a.a a.len a.cap, .slice b.a b.len b.cap, .slice c.a c.len c.cap] ah.cd)) (fun v w'=>∃au:aa,v= .slice au.a au.len au.cap∧b6 1 ah.uint8 w' au (bg (pE++(h7++lc)))∧Ext w w'∧oF w au):=by
 have af:=iX w (.cells #[.slice a.a a.len a.cap, .slice b.a b.len b.cap, .slice c.a c.len c.cap] ah.cd)
 refine (M8 (s:=⟨some ⟨w.heap.size,0,none⟩,3,3⟩) [(a,pE),(b,h7),(c,lc)] (Src.new w _ 3 rfl) ?_ (by simp[iV];omega) (by simp)).mono ?_
 · intro p aT
   simp only[gp,mm,mn] at aT
   rcases aT with rfl|rfl|rfl
   · exact aS.ext af
   · exact ab.ext af
   · exact al.ext af
 · rintro _ w' ⟨au,rfl,bJ,Rt,aG⟩
   have e:iV [(a,pE),(b,h7),(c,lc)]=pE++(h7++lc):=by simp[iV]
   rw[e] at bJ
   exact ⟨au,rfl,bJ,af.trans Rt,aG.mono af.size⟩
theorem XE (w:World) {n:Nat} (aD:n≤255):Src 1 (w.alloc (.cells #[.int .u8 (IntKind.wrap .u8 ((n:Nat):Int))] ah.uint8)) ⟨some ⟨w.heap.size,0,none⟩,1,1⟩ (bg [UInt8.ofNat n])∧Ext w (w.alloc (.cells #[.int .u8 (IntKind.wrap .u8 ((n:Nat):Int))] ah.uint8)):=by
 have e:(#[.int .u8 (IntKind.wrap .u8 ((n:Nat):Int))]:Array Value)=(bg [UInt8.ofNat n]).toArray:=by
   rw[Ro (by omega) (by omega)]
   simp[bg,uL (show n<256 by omega)]
 rw[e]
 exact ⟨Src.new w _ 1 rfl,iX _ _⟩
theorem n_ {α:Type} {l:List α} {i:Nat} {d:α} (h:i<l.length):l.getD i d=l[i]:=by
 rw[p5,g8 h];rfl
theorem dX.wm {n:aL} (h:dX n) (az:n.leaf=true):n.vals.length=n.keys.length:=by
 rcases h with h|h
 · exact h.len
 · have:=h.inner;rw[az] at this;cases this
theorem dX.GV {n:aL} (h:dX n) (az:n.leaf=false):n.kids.length=n.keys.length+1:=by
 rcases h with h|h
 · have:=h.leaf;rw[az] at this;cases this
 · exact h.len
theorem sQ {B:Nat→Prop} {w:World} {n:aL} {K V D:aa} (h:b8 B w n K V D) (aj:dX n) {i:Nat} (hi:i<n.keys.length) (aD:n.keys.length≤100000):
   aQ Tryz.prog F.sQ #[e5 n K V D, .int .i64 ((i:Nat):Int)] w (fun v w'=>∃s:aa,v= .slice s.a s.len s.cap∧b6 1 ah.uint8 w' s (bg (n8 n i))∧Ext w w'∧oF w s):=by
 refine W.ah1 n.leaf K V D ((i:Nat):Int) w _ ?_
 (delta W.sQ ai aq a8 dL bP aE aC bA;dsimp only)
 refine cp (vs:=[.bool n.leaf, .slice K.a K.len K.cap, .slice V.a V.len V.cap, .slice D.a D.len D.cap]) rfl fun ag ak bz _=> ?_
 have bx:=eE ag
 have pF:=bz.trans bx
 have o5:=h.ext pF
 obtain ⟨cA,bd,bc,a_⟩:=cj (ak.ext bx)
 obtain ⟨A,t,ax,ab,al,aN,_⟩:=bU.at o5.keys hi
 have iU:=(aj.keys.ok _ (fv hi)).2
 have nF:=kN aN.1
 obtain ⟨aU,Ru⟩:=XE ag.drew (n:=t.len) (by omega)
 refine bM ⟨fun _=>False,id,K,bd,A,ax,ab,id,t,al,id,K,bd,A,ax,ab,id,t,al,bM ⟨Ru,bM ?_⟩⟩
 refine (ahZ (a:=⟨some ⟨ag.drew.heap.size,0,none⟩,1,1⟩) (b:=t) aU (aN.1.ext Ru) (by simp;omega)).use ?_
 rintro _ aZ ⟨bQ,rfl,r_,eO,wh⟩
 have hL:=bx.trans (Ru.trans eO)
 obtain ⟨d0,d1,d2,d3⟩:=cj (ak.ext hL)
 have ae: [UInt8.ofNat t.len]++n.keys[i]=B1 (n.keys.getD i []):=by rw[n_ hi,nF];rfl
 rw[ae] at r_
 have qG:=h.ext (bz.trans hL)
 refine ⟨bQ,rfl,n.leaf,d0,fun az=> ?_,fun az=> ?_⟩
 · have jx:=aj.wm az
   have GW:i<n.vals.length:=by omega
   have lG:=eE aZ
   have Rv:=qG.ext lG
   obtain ⟨gK,aY,bm,dM⟩:=cj (ak.ext (hL.trans lG))
   obtain ⟨z2,t2,lh,g2,dS,nH,_⟩:=bU.at Rv.vals GW
   have p7:=aj.vals _ (fv GW)
   have ah2:=kN nH.1
   obtain ⟨fK,Jv⟩:=XE aZ.drew (n:=t2.len) (by omega)
   refine bM ⟨fun _=>False,id,V,bm,z2,lh,g2,id,t2,dS,id,V,bm,z2,lh,g2,id,t2,dS,bM ⟨Jv,bM ?_⟩⟩
   refine (ah0 (a:=bQ) (b:=⟨some ⟨aZ.drew.heap.size,0,none⟩,1,1⟩) (c:=t2) (r_.src.ext (lG.trans Jv)) fK (nH.1.ext Jv) (by rw[B2,n_ hi];simp;omega)).use ?_
   rintro _ br ⟨cB,rfl,z3,fo,z4⟩
   refine ⟨cB,rfl,cB,rfl,?_,(bz.trans hL).trans (lG.trans (Jv.trans fo)),z4.mono ((bz.trans hL).trans (lG.trans Jv)).size⟩
   have:B1 (n.keys.getD i [])++([UInt8.ofNat t2.len]++n.vals[i])=n8 n i:=by
     unfold n8
     rw[az,if_pos rfl,n_ GW,ah2];rfl
   rwa[this] at z3
 · have fm:=aj.GV az
   have n5:i+1<n.kids.length:=by omega
   obtain ⟨z2,lh,g2,dS⟩:=eF.at qG.kids n5
   have ah3:=aj.kids _ (fv n5)
   rw[cE (n:=(i:Int)+1) (by omega) (by omega),show (i:Int)+1=((i+1:Nat):Int) by omega]
   refine ⟨D,d3,z2,lh,g2,_,dS,?_⟩
   rw[wc (n:=((n.kids[i+1]:Nat):Int)) (by omega) (by omega)]
   refine (o2 r_.src (n:=n.kids[i+1]) (k:=2) (by rw[B2,n_ hi];omega) (by show _<18446744073709551616;omega) ⟨by decide,by decide⟩).use ?_
   rintro _ br ⟨cB,rfl,z3,fo,z4⟩
   refine ⟨cB,rfl,cB,rfl,?_,(bz.trans hL).trans fo,oF.mono z4 (bz.trans hL).size⟩
   have:B1 (n.keys.getD i [])++gh n.kids[i+1] 2=n8 n i:=by
     unfold n8
     rw[az,if_neg (by simp),n_ n5]
   rwa[this] at z3
theorem Nl {n:aL} (aj:dX n) {i:Nat} (hi:i<n.keys.length):(n8 n i).length≤100:=by
 unfold n8
 have:=(aj.keys.ok _ (fv hi)).2
 rw[eu,B2,n_ hi]
 split
 · rename_i az
   have GW:i<n.vals.length:=by have:=aj.wm az;omega
   have:=aj.vals _ (fv GW)
   rw[B2,n_ GW];omega
 · rw[n7];omega
theorem Rw {n:aL} (aj:dX n):∀m,m≤n.keys.length→(pz n 0 m).length≤100*m
 |0,_=>by simp[pz]
 |m+1,hm=>by
   have:=Rw aj m (by omega)
   have:=Nl aj (i:=m) (by omega)
   rw[Q_,eu];omega
theorem uZ {B:Nat→Prop} {w:World} {n:aL} {K V D:aa} (h:b8 B w n K V D) (aj:dX n) (aD:n.keys.length≤255):
   aQ Tryz.prog F.uZ #[e5 n K V D] w (fun v w'=>∃s:aa,v= .slice s.a s.len s.cap∧b6 1 ah.uint8 w' s (bg (r8 n))∧Ext w w'∧oF w s):=by
 refine W.ah4 n.leaf K V D w _ ?_
 (delta W.uZ aq ai bP aE a8 bA dL aC;dsimp only)
 refine cp (vs:=[.bool n.leaf, .slice K.a K.len K.cap, .slice V.a V.len V.cap, .slice D.a D.len D.cap]) rfl fun ag ak bz _=> ?_
 obtain ⟨cA,bd,bc,a_⟩:=cj ak
 have mR:=h.ext bz
 have Cg:=bU.len mR.keys
 have gK:(#[.int .u8 (IntKind.wrap .u8 ((K.len:Nat):Int))]:Array Value)=(bg [UInt8.ofNat n.keys.length]).toArray:=by
   rw[Cg,Ro (by omega) (by omega)]
   simp[bg,uL (show n.keys.length<256 by omega)]
 refine ⟨K,bd,?_⟩
 rw[gK]
 have uQ:=b6.new (T:=ah.uint8) (sz:=1) ag (bg [UInt8.ofNat n.keys.length]) 1 rfl (by decide)
 have cv:=iX ag (.cells (bg [UInt8.ofNat n.keys.length]).toArray ah.uint8)
 obtain ⟨aw,tM⟩:∃aw,aw=ag.alloc (.cells (bg [UInt8.ofNat n.keys.length]).toArray ah.uint8):=⟨_,rfl⟩
 rw[←tM] at uQ cv⊢
 obtain ⟨d0,d1,d2,d3⟩:=cj (ak.ext cv)
 have pF:=bz.trans cv
 refine bM (e4 (fun au w'=>b6 1 ah.uint8 w' au (bg (preB n))∧Ext aw w'∧oF ag au) (fun q J=>⟨n.leaf,d0,fun az=> ?_,fun az=>J _ _ ⟨?_, .refl _ _,?_⟩⟩) ?_)
 · have az:n.leaf=false:=by simpa using az
   have fm:=aj.GV az
   have n5:0<n.kids.length:=by omega
   obtain ⟨z2,lh,g2,dS⟩:=eF.at (h.ext pF).kids n5
   have ah3:=aj.kids _ (fv n5)
   refine ⟨D,d3,z2,lh,g2,_,dS,?_⟩
   rw[wc (n:=((n.kids[0]:Nat):Int)) (by omega) (by omega)]
   refine (o2 uQ.src (n:=n.kids[0]) (k:=2) (by simp) (by show _<18446744073709551616;omega) ⟨by decide,by decide⟩).use ?_
   rintro _ br ⟨cB,rfl,z3,fo,z4⟩
   refine ⟨cB,rfl,J _ _ ⟨?_,fo,oF.mono z4 cv.size⟩⟩
   have: [UInt8.ofNat n.keys.length]++gh n.kids[0] 2=preB n:=by
     unfold preB
     rw[az,if_neg (by simp),n_ n5];rfl
   rwa[this] at z3
 · have az:n.leaf=true:=by simpa using az
   have:preB n=[UInt8.ofNat n.keys.length]:=by unfold preB;rw[az];rfl
   rw[this];exact uQ
 · rintro k ⟨A,ax,rfl⟩
   cases ax
   exact cP _
 rintro bQ aZ ⟨r_,eO,wh⟩
 have hL:=cv.trans eO
 obtain ⟨d0,d1,d2,d3⟩:=cj (ak.ext hL)
 have GC:(preB n).length≤3:=by
   unfold preB
   cases n.leaf<;>simp[n7]
 refine ⟨K,d1,fun au i w'=>∃j:Nat,i=j∧j≤n.keys.length∧b6 1 ah.uint8 w' au (bg (preB n++pz n 0 j))∧Ext ag w'∧oF ag au,fun _ i _=>((n.keys.length:Int)-i).toNat,⟨0,rfl,fx _,by simpa[pz] using r_,hL,wh⟩,?_⟩
 rintro cB _ br ⟨j,rfl,a6,z3,fo,z4⟩
 refine ⟨fun a9=> ?_,fun cm=> ?_⟩
 · have a9:j<n.keys.length:=by have:=dU a9;omega
   obtain ⟨f0,f1,f2,f3⟩:=cj (ak.ext fo)
   refine ⟨n.leaf,f0,K,f1,V,f2,D,f3,(sQ (mR.ext fo) aj a9 (by omega)).use ?_⟩
   rintro _ bF ⟨bL,rfl,yb,kG,ahv⟩
   have XF:=zV z3
   have Ri:=zV yb
   have cX:=Nl aj a9
   have cy:=Rw aj j a6
   rw[eu] at XF
   obtain ⟨c8,a4,aA,aF,aJ,aO,cS⟩:=Eu.append (ez:=ah.cd) yb.src (z3.ext kG) (x5 _) (by rw[XF,Ri];omega)
   rw[cE (n:=(j:Int)+1) (by omega) (by omega)]
   refine ⟨bL,rfl,c8,a4,aA,⟨j+1,by omega,by omega,?_,Ext.gr (fo.trans kG) aO z4,fun k ae=> ?_⟩,?_⟩
   · rw[Q_,←er,Et];exact aF
   · rcases cS k ae with h|h
     · exact z4 k h
     · exact iT (fo.trans kG).size h
   · show ((n.keys.length:Int)-((j:Int)+1)).toNat<((n.keys.length:Int)-(j:Int)).toNat
     omega
 · have cm:j=n.keys.length:=by have:=ff cm;omega
   subst cm
   exact ⟨cB,rfl,z3,bz.trans fo,z4.mono bz.size⟩
theorem u0 {B:Nat→Prop} {w:World} {n:aL} {K V D:aa} (h:b8 B w n K V D) (aj:dX n) (aD:n.keys.length≤255):
   aQ Tryz.prog F.u0 #[e5 n K V D] w (fun v w'=>v= .int .i64 (cf n:Nat)∧Ext w w'):=by
 have jx:n.vals.length≤100000:=by
   rcases aj with aj|aj
   · rw[aj.len];omega
   · rw[aj.vals];simp
 have lD:n.kids.length≤100000:=by
   rcases aj with aj|aj
   · rw[aj.kids];simp
   · rw[aj.len];omega
 refine W.ah5 n.leaf K V D w _ ?_
 (delta W.u0 bP ai aq a_ aE dL;dsimp only)
 refine cp (vs:=[.bool n.leaf, .slice K.a K.len K.cap, .slice V.a V.len V.cap, .slice D.a D.len D.cap]) rfl fun ag ak bz _=> ?_
 obtain ⟨cA,bd,bc,a_⟩:=cj ak
 refine ⟨n.leaf,cA,K,bd,V,bc,D,a_,(nG (h.ext bz) (by omega) jx lD).use ?_⟩
 rintro _ aw ⟨b,rfl,ab,cv⟩
 have Rx:=ab.2 aj
 subst Rx
 obtain ⟨cA,bd,bc,a_⟩:=cj (ak.ext cv)
 refine ⟨true,rfl,fun h=>(by cases h),fun _=>⟨n.leaf,cA,K,bd,V,bc,D,a_,(uZ (h.ext (bz.trans cv)) aj aD).use ?_⟩⟩
 rintro _ aZ ⟨bQ,rfl,r_,eO,_⟩
 have az:=zV r_
 rw[Rc aj] at az
 exact ⟨bQ,rfl,by rw[az],(bz.trans cv).trans eO⟩
def XG (n:aL) (w w':World) (v:Value):Prop:=
 (∃s:aa,v= .tuple #[.slice s.a s.len s.cap, .int .i64 0]∧b6 1 ah.uint8 w' s (bg (r8 n))∧oF w s∧dX n∧cf n≤232)∨
 (∃e:Int,v= .tuple #[.slice none 0 0, .int .i64 e]∧e≠0∧(dX n→232<cf n))
theorem u3 {B:Nat→Prop} {w:World} {n:aL} {K V D:aa} (h:b8 B w n K V D) (fm:n.keys.length≤100000) (jx:n.vals.length≤100000) (lD:n.kids.length≤100000):
   aQ Tryz.prog F.u3 #[e5 n K V D] w (fun v w'=>XG n w w' v∧Ext w w'):=by
 refine W.ah6 n.leaf K V D w _ ?_
 (delta W.u3 bP ai aq a_ aE dL;dsimp only)
 refine cp (vs:=[.bool n.leaf, .slice K.a K.len K.cap, .slice V.a V.len V.cap, .slice D.a D.len D.cap]) rfl fun ag ak bz _=> ?_
 obtain ⟨cA,bd,bc,a_⟩:=cj ak
 refine ⟨n.leaf,cA,K,bd,V,bc,D,a_,(nG (h.ext bz) fm jx lD).use ?_⟩
 rintro _ aw ⟨b,rfl,ab,cv⟩
 have pF:=bz.trans cv
 obtain ⟨cA,bd,bc,a_⟩:=cj (ak.ext cv)
 have Cg:=bU.len h.keys
 refine ⟨b,rfl,e4 (fun c w'=>aw=w'∧(c=true→dX n→255<n.keys.length)∧(c=false→dX n∧n.keys.length≤255)) (fun q J=>⟨fun U=>J _ _ ⟨rfl,fun _ aj=> ?_,fun h=>(by cases h)⟩,fun U=>⟨K,bd,J _ _ ⟨rfl,fun ad aj=> ?_,fun ad=> ?_⟩⟩⟩) ?_⟩
 · have U:b=false:=by simpa using U
   rw[ab.2 aj] at U;cases U
 · have:=dU ad;omega
 · have U:b=true:=by simpa using U
   have:=ff ad
   exact ⟨ab.1 U,by omega⟩
 rintro c w' ⟨rfl,aA,aF⟩
 refine ⟨fun U=>⟨.inr ⟨4,rfl,by decide,fun aj=> ?_⟩,pF⟩,fun U=> ?_⟩
 · have:=aA U aj
   have:=M1 aj
   omega
 obtain ⟨aj,ae⟩:=aF U
 refine ⟨n.leaf,cA,K,bd,V,bc,D,a_,(uZ (h.ext pF) aj ae).use ?_⟩
 rintro _ aZ ⟨bQ,rfl,r_,eO,wh⟩
 have az:=zV r_
 rw[Rc aj] at az
 refine ⟨bQ,rfl,fun ad=>⟨.inr ⟨10,rfl,by decide,fun _=> ?_⟩,pF.trans eO⟩,fun ad=>⟨.inl ⟨bQ,rfl,r_,wh.mono pF.size,aj,?_⟩,pF.trans eO⟩⟩
 · have:=dU ad;omega
 · have:=ff ad;omega
theorem yj {B:Nat→Prop} {w:World} {n:aL} {K V D:aa} (h:b8 B w n K V D) (fm:n.keys.length≤100000) (jx:n.vals.length≤100000) (lD:n.kids.length≤100000):
   aQ Tryz.prog F.yj #[e5 n K V D] w (fun v w'=>XG n w w' v∧Ext w w'):=by
 refine W.ah7 n.leaf K V D w _ ?_
 (delta W.yj bP ai aq gu;dsimp only)
 refine cp (vs:=[.bool n.leaf, .slice K.a K.len K.cap, .slice V.a V.len V.cap, .slice D.a D.len D.cap]) rfl fun ag ak bz _=> ?_
 obtain ⟨cA,bd,bc,a_⟩:=cj ak
 refine ⟨n.leaf,cA,K,bd,V,bc,D,a_,(u3 (h.ext bz) fm jx lD).use ?_⟩
 rintro _ aw ⟨g1,cv⟩
 rcases g1 with ⟨s,rfl,bJ,aG,aj,aD⟩|⟨e,rfl,he,aD⟩
 · exact ⟨s,0,rfl, .inl ⟨s,rfl,bJ,aG.mono bz.size,aj,aD⟩,bz.trans cv⟩
 · exact ⟨⟨none,0,0⟩,e,rfl, .inr ⟨e,rfl,he,aD⟩,bz.trans cv⟩
end
section
theorem j4 {w:World} {b i:Nat} {vs:List Value} {T:TypeId} (h:Var w b vs T) (v:Value):Var (w.setCell ⟨b,i,none⟩ v) b (vs.set i v) T:=by
 have:=cn.set h i v
 have e:vs.toArray.setIfInBounds i v=(vs.set i v).toArray:=by simp
 rw[e] at this
 exact this
theorem j5 {w:World} {b i:Nat} {vs:List Value} {T:TypeId} (h:Var w b vs T) (hi:i<vs.length):(∃u:Value,w.cell? ⟨b,i,none⟩=some u)∧w.frozen? ⟨b,i,none⟩=false:=
 ⟨⟨vs[i],by rw[h.cell];simp[hi]⟩,cn.frozen h _ rfl⟩
theorem iL (w:World) (b i:Nat) (v:Value):ao (fun q=>q=b) w (w.setCell ⟨b,i,none⟩ v):=ao.n8 (.refl _ _) v
structure sd (w:World) (r:Nat) (s:aa) (rd:k2):Prop where
 v:Var w r [.slice s.a s.len s.cap, .bool rd.2] ah.XH
 src:Src 1 w s (bg rd.1)
 le:s.len≤s.cap
 ne:∀k,aR s k→k≠r
theorem sd.an {W:Nat→Prop} {w w':World} {r:Nat} {s:aa} {rd:k2} (h:sd w r s rd) (al:ao W w w') (U:¬W r) (ad:∀k,aR s k→¬W k):sd w' r s rd:=⟨h.v.an al U,h.src.an al ad,h.le,h.ne⟩
theorem sd.ext {w w':World} {r:Nat} {s:aa} {rd:k2} (h:sd w r s rd) (al:Ext w w'):sd w' r s rd:=sd.an h al id fun _ _ h=>h
theorem Nm {a:Option Addr} {z l m n c k:Nat} (h:aR ⟨a3 a z l m,n,c⟩ k):∃A,a=some A∧A.block=k:=by
 obtain ⟨A,ax,rfl⟩:=h
 unfold a3 at ax
 split at ax
 · exact ⟨A,ax,rfl⟩
 · cases aS:a with
   |none=>rw[aS] at ax;cases ax
   |some yk=>
     rw[aS] at ax
     simp only[BP,Option.some.injEq] at ax
     exact ⟨yk,rfl,by subst ax;unfold Addr.add;split<;>rfl⟩
theorem XI {w:World} {r:Nat} {s:aa} {rd:k2} (h:sd w r s rd) (k:Nat) (ae:k≤100000) (az:rd.1.length≤100000):
   aQ Tryz.prog F.z5 #[.pointer (some ⟨r,0,none⟩), .int .i64 ((k:Nat):Int)] w (fun v w'=>∃t au:aa,v= .slice t.a t.len t.cap∧bD (fun q=>w.heap.size≤q) w' t (pA rd k).1∧sd w' r au (pA rd k).2∧ao (fun q=>q=r) w w'∧(∀q,aR au q→aR s q)):=by
 obtain ⟨l,ok⟩:=rd
 have ak:=h.v
 have gA:=kN h.src
 simp only at gA az ak
 have a9:=ak.lt
 refine W.ah8 (some ⟨r,0,none⟩) ((k:Nat):Int) w _ ?_
 (delta W.z5 bP aE aq st dL;dsimp only)
 refine ⟨_,rfl,ok,by rw[aV];exact ak.cell,e4 (fun b w'=>w=w'∧b=decide (ok=false∨l.length<k)) (fun q J=>⟨fun U=>J _ _ ⟨rfl,?_⟩,fun U=>⟨_,rfl,s,ak.cell,J _ _ ⟨rfl,?_⟩⟩⟩) ?_⟩
 · have U:ok=false:=by simpa using U
   exact (il (.inl U)).symm
 · have U:ok=true:=by simpa using U
   subst U
   rw[o1,fI,fI]
   constructor
   · intro h;exact .inr (by omega)
   · rintro (h|h)
     · cases h
     · omega
 rintro b w' ⟨rfl,rfl⟩
 refine ⟨fun ab=>⟨_,rfl,?_⟩,fun ab=>⟨_,rfl,s,ak.cell,?_⟩⟩
 · have ab:=dU ab
   obtain ⟨aA,aF⟩:=j5 ak (i:=1) (by simp)
   rw[aV]
   have al:=iL w r 1 (.bool false)
   have e:pA (l,ok) k=([],(l,false)):=by unfold pA;rw[if_pos ab]
   rw[e]
   refine ⟨aA,aF,bM ⟨⟨none,0,0⟩,s,rfl,⟨(b6.none 1 ah.uint8 _).src,cP _,fun q J=>(r7 q J).elim⟩,⟨j4 ak _,h.src.an al fun q J=>h.ne q J,h.le,h.ne⟩,al,fun q J=>J⟩⟩
 · have ab:=ff ab
   have e:pA (l,ok) k=(l.take k,(l.drop k,true)):=by unfold pA;rw[if_neg ab]
   have fm:k≤l.length:=by
     rcases hE l.length k with U|U
     · exact absurd (.inr U) ab
     · exact U
   have eA:ok=true:=by
     cases ok with
     |true=>rfl
     |false=>exact absurd (.inl rfl) ab
   subst eA
   rw[e]
   have hle:=h.le
   refine ⟨⟨by omega,by omega⟩,?_⟩
   have iK:=B4 h.src h.le (lo:=0) (hi:=k) (by omega) (by omega)
   rw[zG,Gr] at iK
   rw[hF,Gr]
   refine (uX (B:=fun q=>w.heap.size≤q) (s:=⟨a3 s.a 1 0 s.cap,k,s.cap-0⟩) iK (by rw[dV];omega) (fun q J=>J)).use ?_
   rintro _ ag ⟨t,rfl,aN,bz,qz⟩
   have lj:=ak.ext bz
   obtain ⟨aA,aF⟩:=j5 lj (i:=0) (by simp)
   have al:=iL ag r 0 (.slice (a3 s.a 1 k s.cap) (s.len-k) (s.cap-k))
   have oH:=B4 (h.src.ext bz) h.le (lo:=k) (hi:=s.len) (by omega) (cP _)
   rw[gX (l:=l.drop k) (by rw[fw];omega)] at oH
   have en:∀q,aR ⟨a3 s.a 1 k s.cap,s.len-k,s.cap-k⟩ q→q≠r:=fun q J=>by
     obtain ⟨A,ax,ab⟩:=Nm J
     exact h.ne q ⟨A,ax,ab⟩
   refine ⟨t,rfl,_,rfl,s,lj.cell,⟨by omega,by omega⟩,_,rfl,aA,aF,bM ⟨t,⟨a3 s.a 1 k s.cap,s.len-k,s.cap-k⟩,rfl,bD.an aN al (fun q J e=>by subst e;omega),⟨j4 lj _,oH.an al fun q J=>en q J,by show s.len-k≤s.cap-k;omega,en⟩,(ao.eK bz).trans al,fun q J=> ?_⟩⟩
   obtain ⟨A,ax,ab⟩:=Nm J
   exact ⟨A,ax,ab⟩
theorem Ry {w:World} {r:Nat} {s:aa} {rd:k2} (h:sd w r s rd) (k:Nat) (ae:1≤k∧k≤2) (az:rd.1.length≤100000):
   aQ Tryz.prog F.wo #[.pointer (some ⟨r,0,none⟩), .int .i64 ((k:Nat):Int)] w (fun v w'=>∃au:aa,v= .int .i64 ((rdNum rd k).1:Nat)∧sd w' r au (rdNum rd k).2∧ao (fun q=>q=r) w w'∧(∀q,aR au q→aR s q)):=by
 refine W.ah9 (some ⟨r,0,none⟩) ((k:Nat):Int) w _ ?_
 (delta W.wo dL Nd aC;dsimp only)
 refine (XI h k (by omega) az).use ?_
 rintro _ ag ⟨t,au,rfl,aN,aU,al,bJ⟩
 have hlen:(pA rd k).1.length=k∨(pA rd k).1=[]:=by
   unfold pA
   split
   · exact .inr rfl
   · rename_i dq
     left
     rw[dV]
     have:¬rd.1.length<k:=fun h=>dq (.inr h)
     omega
 have ab:=Jn k (pA rd k).1
 have aT:256^k≤65536:=iT (ML (by omega) ae.2) (by decide)
 refine ⟨t,rfl,?_⟩
 rcases hlen with hlen|hlen
 · refine (sM (a:=0) (k:=k) aN.1 aN.2.1 ⟨ae.1,by omega⟩ (by omega) (by omega)).use ?_
   rintro _ _ ⟨rfl,rfl⟩
   have ab:=ab hlen
   rw[zG,gX (by omega)]
   refine ⟨_,_,rfl,au,?_,aU,al,bJ⟩
   rw[cE (by omega) (by omega)]
   unfold rdNum
   rw[if_pos hlen]
 · refine (ahj (k:=k) aN.1 (by omega) (by rw[hlen];simp;omega)).use ?_
   rintro _ _ ⟨rfl,rfl⟩
   refine ⟨_,_,rfl,au,?_,aU,al,bJ⟩
   unfold rdNum
   rw[if_neg (by rw[hlen];simp;omega)]
   rfl
theorem Rz (rd:k2) (k:Nat):(rdNum rd k).1<256^k:=by
 unfold rdNum
 split
 · exact Jn k _ (by assumption)
 · exact Nat.pow_pos (by omega)
theorem XJ (rd:k2) (k:Nat):(pA rd k).2.1.length≤rd.1.length∧(pA rd k).1.length≤k:=by
 unfold pA
 split
 · exact ⟨cP _,fx _⟩
 · exact ⟨by rw[fw];omega,by rw[dV];omega⟩
theorem Nn (rd:k2) (k:Nat):(rdNum rd k).2.1.length≤rd.1.length:=(XJ rd k).1
theorem XK (rd:k2):(sN rd).2.1.length≤rd.1.length∧(sN rd).1.length≤255:=by
 unfold sN
 have U:=XJ (rdNum rd 1).2 (rdNum rd 1).1
 have ad:=Nn rd 1
 have ar:(rdNum rd 1).1<256:=Rz rd 1
 exact ⟨by omega,by omega⟩
theorem XL {w:World} {r:Nat} {s:aa} {rd:k2} (h:sd w r s rd) (az:rd.1.length≤100000):
   aQ Tryz.prog F.wq #[.pointer (some ⟨r,0,none⟩)] w (fun v w'=>∃t au:aa,v= .slice t.a t.len t.cap∧bD (fun q=>w.heap.size≤q) w' t (sN rd).1∧sd w' r au (sN rd).2∧ao (fun q=>q=r) w w'∧(∀q,aR au q→aR s q)):=by
 refine W.ah_ (some ⟨r,0,none⟩) w _ ?_
 (delta W.wq bc dL;dsimp only)
 refine (Ry h 1 (by omega) az).use ?_
 rintro _ ag ⟨s1,rfl,k3,iZ,k0⟩
 have ar:(rdNum rd 1).1<256:=Rz rd 1
 have aI:=Nn rd 1
 refine ⟨_,rfl,(XI k3 (rdNum rd 1).1 (by omega) (by omega)).use ?_⟩
 rintro _ aw ⟨t,s2,rfl,aN,fK,dS,uQ⟩
 exact ⟨t,rfl,t,s2,rfl,bD.bw aN fun q _ J=>iT iZ.size J,fK,iZ.trans dS,fun q J=>k0 q (uQ q J)⟩
end
section
theorem bW.bw {B C:Nat→Prop} {w:World} {s:aa} {ls:List Key} (h:bW B w s ls) (ab:∀k,k<w.heap.size→B k→C k):bW C w s ls:=by
 obtain ⟨ts,U,ad,ar,aI⟩:=h
 exact ⟨ts,U,ad,In.bw ar ab,fun i b5 im=>⟨bD.bw (aI i b5 im).1 ab,(aI i b5 im).2⟩⟩
theorem eB.bw {B C:Nat→Prop} {w:World} {s:aa} {ds:List Nat} (h:eB B w s ds) (ab:∀k,k<w.heap.size→B k→C k):eB C w s ds:=⟨h.1,In.bw h.2 ab⟩
def mv (B:Nat→Prop) (w w':World) (q:Nat):Prop:=B q∨(w.heap.size≤q∧q<w'.heap.size)
theorem No {w:World} {bC o:Nat} {vs:List Value} {S t:aa} {ls:List Key} {l:Key} {B:Nat→Prop} {T:TypeId} {W:Nat→Prop} (ak:Var w bC vs T) (z6:o<vs.length) (o4:bW B w S ls) (Ch:¬B bC)
   (aN:bD B w t l) (hd:∀k,aR t k→¬aR S k) (aD:ls.length≤100000) {K:World→Prop}
   (bk:∀ (w':World) (gB:aa),Var w' bC (vs.set o (.slice gB.a gB.len gB.cap)) T→bW (mv B w w') w' gB (ls++ [l])→ao (fun q=>q=bC∨aR S q) w w'→K w'):
   ay (w.alloc (.cells #[.slice t.a t.len t.cap] ah.cd)) fun fU=>ao W w fU∧∃c1:aa,∃eC:World,Sem.run Tryz.prog (Builtin.append_ #[ah.cC,ah.cC] ah.cC #[.slice S.a S.len S.cap, .slice (some ⟨w.heap.size,0,none⟩) 1 1]) fU= .ok (.slice c1.a c1.len c1.cap) eC∧
     (∃u:Value,eC.cell? (Addr.add ⟨bC,0,none⟩ o)=some u)∧eC.frozen? (Addr.add ⟨bC,0,none⟩ o)=false∧ay (eC.setCell (Addr.add ⟨bC,0,none⟩ o) (.slice c1.a c1.len c1.cap)) fun eG=>K eG:=by
 have z7:=bW.bw (C:=fun q=>B q∨w.heap.size≤q) o4 fun k _ h=> .inl h
 have nH:=bD.bw (C:=fun q=>B q∨w.heap.size≤q) aN fun k _ h=> .inl h
 obtain ⟨au,w',aA,aF,aJ,aO⟩:=XB z7 nH hd (by omega) fun k ae=> .inr ae
 have kO:=ak.lt
 have Jw:¬aR S bC:=fun h=>by
   obtain ⟨ts,_,_,ar,_⟩:=o4
   exact Ch (ar bC h).1
 have qH:=ak.an aJ Jw
 obtain ⟨bd,bc⟩:=j5 qH z6
 refine bM ⟨ao.eK (iX _ _),au,w',aA,?_⟩
 rw[aV,gR]
 have al:=iL w' bC o (.slice au.a au.len au.cap)
 refine ⟨bd,bc,bM (bk _ au (j4 qH _) ?_ ?_)⟩
 · have aW:=bW.bw (C:=mv B w (w'.setCell ⟨bC,o,none⟩ (.slice au.a au.len au.cap))) aF fun k ae h=>by
     rcases h with h|h
     · exact .inl h
     · exact .inr ⟨h,lg ae al.size⟩
   refine bW.an aW al fun k ae e=> ?_
   subst e
   rcases ae with h|h
   · exact Ch h
   · omega
 · exact (aJ.mono fun k _ h=> .inr h).trans (al.mono fun k _ h=> .inl h)
theorem XM {w:World} {bC o:Nat} {vs:List Value} {S:aa} {ds:List Nat} (d:Nat) {B:Nat→Prop} {T:TypeId} {W:Nat→Prop} (ak:Var w bC vs T) (z6:o<vs.length) (o4:eB B w S ds) (Ch:¬B bC)
   (aD:ds.length≤100000) {K:World→Prop}
   (bk:∀ (w':World) (gB:aa),Var w' bC (vs.set o (.slice gB.a gB.len gB.cap)) T→eB (mv B w w') w' gB (ds++ [d])→ao (fun q=>q=bC∨aR S q) w w'→K w'):
   ay (w.alloc (.cells #[.int .i64 ((d:Nat):Int)] ah.int)) fun fU=>ao W w fU∧∃c1:aa,∃eC:World,Sem.run Tryz.prog (Builtin.append_ #[ah.fb,ah.fb] ah.fb #[.slice S.a S.len S.cap, .slice (some ⟨w.heap.size,0,none⟩) 1 1]) fU= .ok (.slice c1.a c1.len c1.cap) eC∧
     (∃u:Value,eC.cell? (Addr.add ⟨bC,0,none⟩ o)=some u)∧eC.frozen? (Addr.add ⟨bC,0,none⟩ o)=false∧ay (eC.setCell (Addr.add ⟨bC,0,none⟩ o) (.slice c1.a c1.len c1.cap)) fun eG=>K eG:=by
 have z7:=eB.bw (C:=fun q=>B q∨w.heap.size≤q) o4 fun k _ h=> .inl h
 obtain ⟨au,w',aA,aF,aJ,aO⟩:=ahO d z7 (by omega) fun k ae=> .inr ae
 have kO:=ak.lt
 have Jw:¬aR S bC:=fun h=>Ch (o4.2 bC h).1
 have qH:=ak.an aJ Jw
 obtain ⟨bd,bc⟩:=j5 qH z6
 refine bM ⟨ao.eK (iX _ _),au,w',aA,?_⟩
 rw[aV,gR]
 have al:=iL w' bC o (.slice au.a au.len au.cap)
 refine ⟨bd,bc,bM (bk _ au (j4 qH _) ?_ ?_)⟩
 · have aW:=eB.bw (C:=mv B w (w'.setCell ⟨bC,o,none⟩ (.slice au.a au.len au.cap))) aF fun k ae h=>by
     rcases h with h|h
     · exact .inl h
     · exact .inr ⟨h,lg ae al.size⟩
   refine eB.an aW al fun k ae e=> ?_
   subst e
   rcases ae with h|h
   · exact Ch h
   · omega
 · exact (aJ.mono fun k _ h=> .inr h).trans (al.mono fun k _ h=> .inl h)
structure tN (lo:Nat) (w:World) (r bC:Nat) (s:aa) (m:aL×k2) (K V D:aa) (cw cN cg:Nat→Prop):Prop where
 v:Var w bC [.bool m.1.leaf, .slice K.a K.len K.cap, .slice V.a V.len V.cap, .slice D.a D.len D.cap] ah.cF
 rd:sd w r s m.2
 keys:bW cw w K m.1.keys
 vals:bW cN w V m.1.vals
 kids:eB cg w D m.1.kids
 bO:∀q,cw q→lo≤q∧q<w.heap.size∧¬cN q∧¬cg q
 bv:∀q,cN q→lo≤q∧q<w.heap.size∧¬cg q
 a8:∀q,cg q→lo≤q∧q<w.heap.size
 aj:∀q,aR s q→q<lo∧q≠bC
 EC:r<lo
 ED:bC<lo
 tO:r≠bC
 EE:m.2.1.length≤100000
def EF (lo r bC:Nat) (q:Nat):Prop:=q=r∨q=bC∨lo≤q
theorem tN.drew {lo:Nat} {w:World} {r bC:Nat} {s:aa} {m:aL×k2} {K V D:aa} {cw cN cg:Nat→Prop} (h:tN lo w r bC s m K V D cw cN cg):tN lo w.drew r bC s m K V D cw cN cg:=
 ⟨h.v.ext (eE w),h.rd.ext (eE w),bW.ext h.keys (eE w),bW.ext h.vals (eE w),eB.ext h.kids (eE w),h.bO,h.bv,h.a8,h.aj,h.EC,h.ED,h.tO,h.EE⟩
theorem XN {leaf:Bool}:∀ (s:aL×k2) (i:Nat),s.1.leaf=leaf→(p8 s i).1.leaf=leaf
 |_,0,h=>h
 |s,i+1,h=>by
   have dw:=XN s i h
   rw[p8]
   unfold Ey
   split
   · exact dw
   · exact dw
theorem XO:∀ (s:aL×k2) (i:Nat),(p8 s i).1.keys.length=s.1.keys.length+i∧(p8 s i).1.vals.length≤s.1.vals.length+i∧(p8 s i).1.kids.length≤s.1.kids.length+i
 |_,0=>⟨rfl,cP _,cP _⟩
 |s,i+1=>by
   obtain ⟨U,ad,ar⟩:=XO s i
   rw[p8]
   unfold Ey
   split<;>simp<;>omega
theorem aia {lo:Nat} {w:World} {r bC:Nat} {s:aa} {m:aL×k2} {K V D:aa} {cw cN cg:Nat→Prop} (h:tN lo w r bC s m K V D cw cN cg) (mq:lo≤w.heap.size) (aD:m.1.keys.length≤100000) {R:World→Prop}
   (cU:∀ (w':World) (aP au:aa) (z8:Nat→Prop),tN lo w' r bC au (⟨m.1.leaf,m.1.keys++ [(sN m.2).1],m.1.vals,m.1.kids⟩,(sN m.2).2) aP V D z8 cN cg→ao (EF lo r bC) w w'→lo≤w'.heap.size→R w'):
   ay w.drew fun fV=>∃se:Nat→Prop,¬se (Addr.add ⟨bC,0,none⟩ 1).block∧∃c4:aa,fV.cell? (Addr.add ⟨bC,0,none⟩ 1)=some (.slice c4.a c4.len c4.cap)∧
     Calls Tryz.prog F.wq #[.pointer (some ⟨r,0,none⟩)] fV fun Jx fp=>∃iD:aa,Jx= .returned (.slice iD.a iD.len iD.cap)∧ao se fV fp∧
     ay (fp.alloc (.cells #[.slice iD.a iD.len iD.cap] ah.cd)) fun fU=>ao se fp fU∧∃c1:aa,∃eC:World,Sem.run Tryz.prog (Builtin.append_ #[ah.cC,ah.cC] ah.cC #[.slice c4.a c4.len c4.cap, .slice (some ⟨fp.heap.size,0,none⟩) 1 1]) fU= .ok (.slice c1.a c1.len c1.cap) eC∧
     (∃u:Value,eC.cell? (Addr.add ⟨bC,0,none⟩ 1)=some u)∧eC.frozen? (Addr.add ⟨bC,0,none⟩ 1)=false∧ay (eC.setCell (Addr.add ⟨bC,0,none⟩ 1) (.slice c1.a c1.len c1.cap)) fun eG=>R eG:=by
 have hd:=h.drew
 have aU:=h.EC
 have kO:=h.ED
 obtain ⟨cA,bd,bc,a_⟩:=cj hd.v
 refine bM ⟨fun q=>q=r,fun e=>h.tO (by rw[aV] at e;exact e.symm),K,bd,(XL hd.rd hd.EE).use ?_⟩
 rintro _ fp ⟨t,au,rfl,aN,dm,al,l7⟩
 have bI:w.drew.heap.size=w.heap.size:=rfl
 have dB:=al.size
 have wu:∀ {B:Nat→Prop},(∀q,B q→lo≤q)→∀k,B k→¬(k=r):=fun e1 k ae e=>by have:=e1 k ae;omega
 have dW:=bW.an hd.keys al (wu fun q J=>(h.bO q J).1)
 have g1:=bW.an hd.vals al (wu fun q J=>(h.bv q J).1)
 have lH:=eB.an hd.kids al (wu fun q J=>(h.a8 q J).1)
 have Jy:=hd.v.an al (fun e=>h.tO e.symm)
 refine ⟨t,rfl,al,No (B:=mv cw w.drew fp) Jy (o:=1) (by simp) (bW.bw dW fun k _ h=> .inl h) ?_ (bD.bw aN fun k ae h=> .inr ⟨h,ae⟩) ?_ aD fun w' aP aA aF aJ=> ?_⟩
 · rintro (U|U)
   · have:=(h.bO bC U).1;omega
   · omega
 · intro k jK EG
   obtain ⟨ts,_,_,ar,_⟩:=h.keys
   have:=(ar k EG).2
   have:=(aN.2.2 k jK).1
   omega
 have gC:∀q,mv (mv cw w.drew fp) fp w' q→cw q∨(w.heap.size≤q∧q<w'.heap.size):=by
   rintro q ((U|U)|U)
   · exact .inl U
   · exact .inr ⟨U.1,lg U.2 aJ.size⟩
   · exact .inr ⟨iT dB U.1,U.2⟩
 have a7:=aJ.size
 have kH:∀q,aR K q→cw q:=fun q J=>by
   obtain ⟨ts,_,_,ar,_⟩:=h.keys
   exact (ar q J).1
 refine cU w' aP au (fun q=>cw q∨(w.heap.size≤q∧q<w'.heap.size)) ⟨by simpa using aA,dm.an aJ ?_ ?_,bW.bw aF fun k _ ae=>gC k ae,bW.an g1 aJ ?_,eB.an lH aJ ?_,?_,fun q J=> ?_,fun q J=> ?_,fun q J=>h.aj q (l7 q J),h.EC,h.ED,h.tO,iT (XK m.2).1 h.EE⟩ ?_ (by omega)
 · rintro (U|U)
   · exact h.tO U
   · have:=(h.bO r (kH r U)).1;omega
 · rintro q J (U|U)
   · exact (h.aj q (l7 q J)).2 U
   · have:=(h.bO q (kH q U)).1
     have:=(h.aj q (l7 q J)).1;omega
 · rintro q J (U|U)
   · have:=(h.bv q J).1;omega
   · exact (h.bO q (kH q U)).2.2.1 J
 · rintro q J (U|U)
   · have:=(h.a8 q J).1;omega
   · exact (h.bO q (kH q U)).2.2.2 J
 · rintro q (U|U)
   · have:=h.bO q U;exact ⟨this.1,by omega,this.2.2⟩
   · exact ⟨by omega,U.2,fun ad=>by have:=h.bv q ad;omega,fun ad=>by have:=h.a8 q ad;omega⟩
 · have:=h.bv q J;exact ⟨this.1,by omega,this.2.2⟩
 · have:=h.a8 q J;exact ⟨this.1,by omega⟩
 · refine ((ao.eK (eE w)).trans (al.mono fun k _ ae=> .inl ae)).trans (aJ.mono fun k _ ae=> ?_)
   rcases ae with ae|ae
   · exact .inr (.inl ae)
   · exact .inr (.inr (h.bO k (kH k ae)).1)
theorem aib {lo:Nat} {w:World} {r bC:Nat} {s:aa} {m:aL×k2} {K V D:aa} {cw cN cg:Nat→Prop} (h:tN lo w r bC s m K V D cw cN cg) (mq:lo≤w.heap.size) (aD:m.1.vals.length≤100000) {R:World→Prop}
   (cU:∀ (w':World) (bG au:aa) (Np:Nat→Prop),tN lo w' r bC au (⟨m.1.leaf,m.1.keys,m.1.vals++ [(sN m.2).1],m.1.kids⟩,(sN m.2).2) K bG D cw Np cg→ao (EF lo r bC) w w'→lo≤w'.heap.size→R w'):
   ay w.drew fun fV=>∃se:Nat→Prop,¬se (Addr.add ⟨bC,0,none⟩ 2).block∧∃c4:aa,fV.cell? (Addr.add ⟨bC,0,none⟩ 2)=some (.slice c4.a c4.len c4.cap)∧
     Calls Tryz.prog F.wq #[.pointer (some ⟨r,0,none⟩)] fV fun Jx fp=>∃iD:aa,Jx= .returned (.slice iD.a iD.len iD.cap)∧ao se fV fp∧
     ay (fp.alloc (.cells #[.slice iD.a iD.len iD.cap] ah.cd)) fun fU=>ao se fp fU∧∃c1:aa,∃eC:World,Sem.run Tryz.prog (Builtin.append_ #[ah.cC,ah.cC] ah.cC #[.slice c4.a c4.len c4.cap, .slice (some ⟨fp.heap.size,0,none⟩) 1 1]) fU= .ok (.slice c1.a c1.len c1.cap) eC∧
     (∃u:Value,eC.cell? (Addr.add ⟨bC,0,none⟩ 2)=some u)∧eC.frozen? (Addr.add ⟨bC,0,none⟩ 2)=false∧ay (eC.setCell (Addr.add ⟨bC,0,none⟩ 2) (.slice c1.a c1.len c1.cap)) fun eG=>R eG:=by
 have hd:=h.drew
 have aU:=h.EC
 have kO:=h.ED
 obtain ⟨cA,bd,bc,a_⟩:=cj hd.v
 refine bM ⟨fun q=>q=r,fun e=>h.tO (by rw[aV] at e;exact e.symm),V,bc,(XL hd.rd hd.EE).use ?_⟩
 rintro _ fp ⟨t,au,rfl,aN,dm,al,l7⟩
 have bI:w.drew.heap.size=w.heap.size:=rfl
 have dB:=al.size
 have wu:∀ {B:Nat→Prop},(∀q,B q→lo≤q)→∀k,B k→¬(k=r):=fun e1 k ae e=>by have:=e1 k ae;omega
 have dW:=bW.an hd.keys al (wu fun q J=>(h.bO q J).1)
 have g1:=bW.an hd.vals al (wu fun q J=>(h.bv q J).1)
 have lH:=eB.an hd.kids al (wu fun q J=>(h.a8 q J).1)
 have Jy:=hd.v.an al (fun e=>h.tO e.symm)
 refine ⟨t,rfl,al,No (B:=mv cN w.drew fp) Jy (o:=2) (by simp) (bW.bw g1 fun k _ h=> .inl h) ?_ (bD.bw aN fun k ae h=> .inr ⟨h,ae⟩) ?_ aD fun w' bG aA aF aJ=> ?_⟩
 · rintro (U|U)
   · have:=(h.bv bC U).1;omega
   · omega
 · intro k jK EG
   obtain ⟨ts,_,_,ar,_⟩:=h.vals
   have:=(ar k EG).2
   have:=(aN.2.2 k jK).1
   omega
 have gC:∀q,mv (mv cN w.drew fp) fp w' q→cN q∨(w.heap.size≤q∧q<w'.heap.size):=by
   rintro q ((U|U)|U)
   · exact .inl U
   · exact .inr ⟨U.1,lg U.2 aJ.size⟩
   · exact .inr ⟨iT dB U.1,U.2⟩
 have a7:=aJ.size
 have kH:∀q,aR V q→cN q:=fun q J=>by
   obtain ⟨ts,_,_,ar,_⟩:=h.vals
   exact (ar q J).1
 refine cU w' bG au (fun q=>cN q∨(w.heap.size≤q∧q<w'.heap.size)) ⟨by simpa using aA,dm.an aJ ?_ ?_,bW.an dW aJ ?_,bW.bw aF fun k _ ae=>gC k ae,eB.an lH aJ ?_,fun q J=> ?_,?_,fun q J=> ?_,fun q J=>h.aj q (l7 q J),h.EC,h.ED,h.tO,iT (XK m.2).1 h.EE⟩ ?_ (by omega)
 · rintro (U|U)
   · exact h.tO U
   · have:=(h.bv r (kH r U)).1;omega
 · rintro q J (U|U)
   · exact (h.aj q (l7 q J)).2 U
   · have:=(h.bv q (kH q U)).1
     have:=(h.aj q (l7 q J)).1;omega
 · rintro q J (U|U)
   · have:=(h.bO q J).1;omega
   · exact (h.bO q J).2.2.1 (kH q U)
 · rintro q J (U|U)
   · have:=(h.a8 q J).1;omega
   · exact (h.bv q (kH q U)).2.2 J
 · have:=h.bO q J
   refine ⟨this.1,by omega,?_,this.2.2.2⟩
   rintro (U|U)
   · exact this.2.2.1 U
   · omega
 · rintro q (U|U)
   · have:=h.bv q U;exact ⟨this.1,by omega,this.2.2⟩
   · exact ⟨by omega,U.2,fun ad=>by have:=h.a8 q ad;omega⟩
 · have:=h.a8 q J;exact ⟨this.1,by omega⟩
 · refine ((ao.eK (eE w)).trans (al.mono fun k _ ae=> .inl ae)).trans (aJ.mono fun k _ ae=> ?_)
   rcases ae with ae|ae
   · exact .inr (.inl ae)
   · exact .inr (.inr (h.bv k (kH k ae)).1)
theorem XP {lo:Nat} {w:World} {r bC:Nat} {s:aa} {m:aL×k2} {K V D:aa} {cw cN cg:Nat→Prop} (h:tN lo w r bC s m K V D cw cN cg) (mq:lo≤w.heap.size) (aD:m.1.kids.length≤100000) {R:World→Prop}
   (cU:∀ (w':World) (aM au:aa) (RA:Nat→Prop),tN lo w' r bC au (⟨m.1.leaf,m.1.keys,m.1.vals,m.1.kids++ [(rdNum m.2 2).1]⟩,(rdNum m.2 2).2) K V aM cw cN RA→ao (EF lo r bC) w w'→lo≤w'.heap.size→R w'):
   ay w.drew fun fV=>∃se:Nat→Prop,¬se (Addr.add ⟨bC,0,none⟩ 3).block∧∃c4:aa,fV.cell? (Addr.add ⟨bC,0,none⟩ 3)=some (.slice c4.a c4.len c4.cap)∧
     Calls Tryz.prog F.wo #[.pointer (some ⟨r,0,none⟩), .int .i64 2] fV fun Jx fp=>∃u4:Int,Jx= .returned (.int .i64 u4)∧ao se fV fp∧
     ay (fp.alloc (.cells #[.int .i64 u4] ah.int)) fun fU=>ao se fp fU∧∃c1:aa,∃eC:World,Sem.run Tryz.prog (Builtin.append_ #[ah.fb,ah.fb] ah.fb #[.slice c4.a c4.len c4.cap, .slice (some ⟨fp.heap.size,0,none⟩) 1 1]) fU= .ok (.slice c1.a c1.len c1.cap) eC∧
     (∃u:Value,eC.cell? (Addr.add ⟨bC,0,none⟩ 3)=some u)∧eC.frozen? (Addr.add ⟨bC,0,none⟩ 3)=false∧ay (eC.setCell (Addr.add ⟨bC,0,none⟩ 3) (.slice c1.a c1.len c1.cap)) fun eG=>R eG:=by
 have hd:=h.drew
 have aU:=h.EC
 have kO:=h.ED
 obtain ⟨cA,bd,bc,a_⟩:=cj hd.v
 refine bM ⟨fun q=>q=r,fun e=>h.tO (by rw[aV] at e;exact e.symm),D,a_,(Ry hd.rd 2 (by decide) hd.EE).use ?_⟩
 rintro _ fp ⟨au,rfl,dm,al,l7⟩
 have bI:w.drew.heap.size=w.heap.size:=rfl
 have dB:=al.size
 have wu:∀ {B:Nat→Prop},(∀q,B q→lo≤q)→∀k,B k→¬(k=r):=fun e1 k ae e=>by have:=e1 k ae;omega
 have dW:=bW.an hd.keys al (wu fun q J=>(h.bO q J).1)
 have g1:=bW.an hd.vals al (wu fun q J=>(h.bv q J).1)
 have lH:=eB.an hd.kids al (wu fun q J=>(h.a8 q J).1)
 have Jy:=hd.v.an al (fun e=>h.tO e.symm)
 refine ⟨_,rfl,al,XM (rdNum m.2 2).1 (B:=cg) Jy (o:=3) (by simp) lH (fun U=>by have:=(h.a8 bC U).1;omega) aD fun w' aM aA aF aJ=> ?_⟩
 have gC:∀q,mv cg fp w' q→cg q∨(w.heap.size≤q∧q<w'.heap.size):=by
   rintro q (U|U)
   · exact .inl U
   · exact .inr ⟨iT dB U.1,U.2⟩
 have a7:=aJ.size
 have kH:∀q,aR D q→cg q:=fun q J=>(h.kids.2 q J).1
 refine cU w' aM au (fun q=>cg q∨(w.heap.size≤q∧q<w'.heap.size)) ⟨by simpa using aA,dm.an aJ ?_ ?_,bW.an dW aJ ?_,bW.an g1 aJ ?_,eB.bw aF fun k _ ae=>gC k ae,fun q J=> ?_,fun q J=> ?_,?_,fun q J=>h.aj q (l7 q J),h.EC,h.ED,h.tO,iT (Nn m.2 2) h.EE⟩ ?_ (by omega)
 · rintro (U|U)
   · exact h.tO U
   · have:=(h.a8 r (kH r U)).1;omega
 · rintro q J (U|U)
   · exact (h.aj q (l7 q J)).2 U
   · have:=(h.a8 q (kH q U)).1
     have:=(h.aj q (l7 q J)).1;omega
 · rintro q J (U|U)
   · have:=(h.bO q J).1;omega
   · exact (h.bO q J).2.2.2 (kH q U)
 · rintro q J (U|U)
   · have:=(h.bv q J).1;omega
   · exact (h.bv q J).2.2 (kH q U)
 · have:=h.bO q J
   refine ⟨this.1,by omega,this.2.2.1,?_⟩
   rintro (U|U)
   · exact this.2.2.2 U
   · omega
 · have:=h.bv q J
   refine ⟨this.1,by omega,?_⟩
   rintro (U|U)
   · exact this.2.2 U
   · omega
 · rintro q (U|U)
   · have:=h.a8 q U;exact ⟨this.1,by omega⟩
   · exact ⟨by omega,U.2⟩
 · refine ((ao.eK (eE w)).trans (al.mono fun k _ ae=> .inl ae)).trans (aJ.mono fun k _ ae=> ?_)
   rcases ae with ae|ae
   · exact .inr (.inl ae)
   · exact .inr (.inr (h.a8 k (kH k ae)).1)
end
end Go.Proofs.YtplieiecebljmaaGreat
