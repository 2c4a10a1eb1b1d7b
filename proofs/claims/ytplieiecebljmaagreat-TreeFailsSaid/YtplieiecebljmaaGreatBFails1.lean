/- Contracts of the functions that the statement reaches, and the plain laws over them; each theorem stands with its conditions. -/
import Derived.Laws.Externs
import Derived.Laws.Small
import Derived.Lib.Builder
import Derived.Lib.Bytealg
import Derived.Lib.ConvBytes
import Derived.Lib.MakeNoZero
import Derived.Lib.SlBytesConst
import Derived.Lib.UnsafeStr
import Derived.Test.YtplieiecebljmaaGreatVFails2
namespace Go.Proofs.YtplieiecebljmaaGreat
abbrev Key:=List UInt8
abbrev bl:=Key×Key
def iz:Key→Key→Int
 | [],[]=>0
 | [],_::_=> -1
 |_::_,[]=>1
 |a::x,b::y=>if a.toNat<b.toNat then -1 else if b.toNat<a.toNat then 1 else iz x y
theorem ahP {a b:UInt8} (U:¬a.toNat<b.toNat) (ad:¬b.toNat<a.toNat):a=b:=UInt8.toNat_inj.1 (by omega)
theorem RL:∀a:Key,iz a a=0
 | []=>rfl
 |a::x=>by simp[iz,RL x]
theorem RM:∀ {a b:Key},iz a b=0→a=b
 | [],[],_=>rfl
 | [],_::_,h=>by simp[iz] at h
 |_::_,[],h=>by simp[iz] at h
 |a::x,b::y,h=>by
   unfold iz at h
   split at h
   · cases h
   · rename_i U
     split at h
     · cases h
     · rename_i ad
       rw[ahP U ad,RM h]
theorem ahQ {a b:Key}:iz a b=0↔a=b:=⟨RM,fun h=>h▸RL _⟩
theorem Yc:∀a b:Key,iz a b= -1∨iz a b=0∨iz a b=1
 | [],[]=> .inr (.inl rfl)
 | [],_::_=> .inl rfl
 |_::_,[]=> .inr (.inr rfl)
 |a::x,b::y=>by
   unfold iz
   split
   · exact .inl rfl
   · split
     · exact .inr (.inr rfl)
     · exact Yc x y
theorem Yd:∀a b:Key,iz b a=-iz a b
 | [],[]=>rfl
 | [],_::_=>rfl
 |_::_,[]=>rfl
 |a::x,b::y=>by
   unfold iz
   by_cases U:a.toNat<b.toNat
   · have ad:¬b.toNat<a.toNat:=by omega
     simp[U,ad]
   · by_cases ad:b.toNat<a.toNat
     · simp[U,ad]
     · simp only[U,ad,if_false]
       exact Yd x y
theorem Ye:∀ {a b c:Key},iz a b<0→iz b c<0→iz a c<0
 | [],[],_,h,_=>by simp[iz] at h
 | [],_::_,[],_,h=>by simp[iz] at h
 | [],_::_,_::_,_,_=>by simp[iz]
 |_::_,[],_,h,_=>by simp[iz] at h
 |_::_,_::_,[],_,h=>by simp[iz] at h
 |a::x,b::y,c::z,U,ad=>by
   unfold iz at U ad⊢
   by_cases bc:a.toNat<b.toNat
   · by_cases cS:b.toNat<c.toNat
     · rw[if_pos (by omega)];decide
     · rw[if_neg cS] at ad
       by_cases a3:c.toNat<b.toNat
       · rw[if_pos a3] at ad;omega
       · rw[if_pos (by omega)];decide
   · rw[if_neg bc] at U
     by_cases cS:b.toNat<a.toNat
     · rw[if_pos cS] at U;omega
     · rw[if_neg cS] at U
       by_cases a3:b.toNat<c.toNat
       · rw[if_pos (by omega)];decide
       · rw[if_neg a3] at ad
         by_cases a4:c.toNat<b.toNat
         · rw[if_pos a4] at ad;omega
         · rw[if_neg a4] at ad
           rw[if_neg (by omega),if_neg (by omega)]
           exact Ye U ad
def cw (a b:Key):Prop:=iz a b<0
def h6 (a b:Key):Prop:=¬iz b a<0
instance (a b:Key):Decidable (cw a b):=by unfold cw;infer_instance
instance (a b:Key):Decidable (h6 a b):=by unfold h6;infer_instance
theorem yh {a b c:Key} (U:cw a b) (ad:cw b c):cw a c:=Ye U ad
theorem z6 (a:Key):¬cw a a:=by unfold cw;rw[RL];decide
theorem z7 {a b:Key} (h:cw a b):¬cw b a:=fun ad=>z6 a (yh h ad)
theorem RN (a b:Key):cw a b∨a=b∨cw b a:=by
 unfold cw
 have h:=Yd a b
 rcases Yc a b with U|U|U
 · exact .inl (by omega)
 · exact .inr (.inl (RM U))
 · exact .inr (.inr (by omega))
theorem EM {a b:Key}:h6 a b↔cw a b∨a=b:=by
 constructor
 · intro h
   rcases RN a b with U|U|U
   · exact .inl U
   · exact .inr U
   · exact absurd U h
 · rintro (h|rfl)
   · exact z7 h
   · exact z6 _
theorem Yf (a:Key):h6 a a:=z6 a
theorem qD {a b:Key} (h:cw a b):h6 a b:=EM.2 (.inl h)
theorem Yg {a b:Key}:¬cw a b↔h6 b a:=Iff.rfl
theorem Cj {a b c:Key} (U:cw a b) (ad:h6 b c):cw a c:=by
 rcases EM.1 ad with h|rfl
 · exact yh U h
 · exact U
theorem tU {a b c:Key} (U:h6 a b) (ad:cw b c):cw a c:=by
 rcases EM.1 U with h|rfl
 · exact yh h ad
 · exact ad
theorem Yh {a b c:Key} (U:h6 a b) (ad:h6 b c):h6 a c:=by
 rcases EM.1 U with h|rfl
 · exact qD (Cj h ad)
 · exact ad
def oo (l:List bl):Prop:=l.Pairwise fun a b=>cw a.1 b.1
def ke (l:List bl) (k v:Key):List bl:=(l.filter fun p=>decide (cw p.1 k))++(k,v)::l.filter fun p=>decide (cw k p.1)
def jN (l:List bl) (k:Key):List bl:=l.filter fun p=>decide (p.1≠k)
def kf (l:List bl) (k:Key):Option Key:=(l.find? fun p=>decide (p.1=k)).map (·.2)
def jO (l:List bl) (fr to:Key):List bl:=l.filter fun p=>decide (h6 fr p.1)&&(to.isEmpty||decide (cw p.1 to))
def kN (lo hi:Option Key) (k:Key):Prop:=(∀a,lo=some a→h6 a k)∧(∀b,hi=some b→cw k b)
theorem ahR {a b:List bl} {k v:Key} (h:∀p∈b,cw k p.1):ke (a++b) k v=ke a k v++b:=by
 have aY:b.filter (fun p=>decide (cw p.1 k))=[]:=EB.2 fun p aZ=>by simpa using z7 (h p aZ)
 have bo:b.filter (fun p=>decide (cw k p.1))=b:=u6.2 fun p aZ=>iy (h p aZ)
 unfold ke
 rw[Ca,Ca,aY,bo,mn,eL,EC]
theorem Yi {a b:List bl} {k v:Key} (h:∀p∈a,cw p.1 k):ke (a++b) k v=a++ke b k v:=by
 have aY:a.filter (fun p=>decide (cw p.1 k))=a:=u6.2 fun p aZ=>iy (h p aZ)
 have bo:a.filter (fun p=>decide (cw k p.1))=[]:=EB.2 fun p aZ=>by simpa using z7 (h p aZ)
 unfold ke
 rw[Ca,Ca,aY,bo,rq,eL]
theorem G6 (a b:List bl) (k:Key):jN (a++b) k=jN a k++jN b k:=Ca ..
theorem EN {a:List bl} {k:Key} (h:∀p∈a,p.1≠k):jN a k=a:=u6.2 fun p aZ=>iy (h p aZ)
theorem vc {a b:Key} (h:cw a b):a≠b:=fun e=>z6 b (e▸h)
theorem G7 {a b:List bl}:oo (a++b)↔oo a∧oo b∧∀p∈a,∀q∈b,cw p.1 q.1:=Cb
theorem Yj {l:List bl} {k v:Key} {p:bl}:p∈ke l k v↔p=(k,v)∨(p∈l∧p.1≠k):=by
 unfold ke
 rw[e8,gb,GR,GR,fu,fu]
 constructor
 · rintro (⟨h,ad⟩|rfl|⟨h,ad⟩)
   · exact .inr ⟨h,vc ad⟩
   · exact .inl rfl
   · exact .inr ⟨h,(vc ad).symm⟩
 · rintro (rfl|⟨h,ad⟩)
   · exact .inr (.inl rfl)
   · rcases RN p.1 k with au|au|au
     · exact .inl ⟨h,au⟩
     · exact absurd au ad
     · exact .inr (.inr ⟨h,au⟩)
end Go.Proofs.YtplieiecebljmaaGreat
namespace Go.Proofs.YtplieiecebljmaaGreat
structure aM where
 leaf:Bool
 keys:List Key
 vals:List Key
 kids:List Nat
 deriving DecidableEq
abbrev Below:=Option Key→Option Key→Nat→List Nat→List bl→Prop
inductive gG (W:Below):Option Key→Option Key→List Key→List Nat→List Nat→List bl→Prop
 |one {lo hi:Option Key} {k:Nat} {p:List Nat} {L:List bl} (h:W lo hi k p L):gG W lo hi [] [k] p L
 |cons {lo hi:Option Key} {s:Key} {k:Nat} {cq cx:List Nat} {bX cf:List bl} {ks:List Key} {kids:List Nat} (h:W lo (some s) k cq bX) (t:gG W (some s) hi ks kids cx cf):
     gG W lo hi (s::ks) (k::kids) (cq++cx) (bX++cf)
variable {W:Below} {lo hi:Option Key}
theorem gG.len {ks:List Key} {kids p:List Nat} {L:List bl} (h:gG W lo hi ks kids p L):kids.length=ks.length+1:=by
 induction h with
 |one _=>rfl
 |cons _ _ du=>simp[du]
theorem gG.app {s:Key} {qE vd:List Key} {rv yi cq cx:List Nat} {bX cf:List bl} (U:gG W lo (some s) qE rv cq bX) (ad:gG W (some s) hi vd yi cx cf):
   gG W lo hi (qE++s::vd) (rv++yi) (cq++cx) (bX++cf):=by
 generalize hm:some s=m at U
 induction U with
 |one h=>subst hm;exact .cons h ad
 |cons h t du=>
   rw[eL,eL]
   exact .cons h (du hm)
theorem gG.cut:∀ {qE:List Key} {s:Key} {vd:List Key} {lo:Option Key} {kids p:List Nat} {L:List bl},gG W lo hi (qE++s::vd) kids p L→
   ∃ (rv yi cq cx:List Nat) (bX cf:List bl),kids=rv++yi∧p=cq++cx∧L=bX++cf∧gG W lo (some s) qE rv cq bX∧gG W (some s) hi vd yi cx cf
 | [],s,vd,lo,kids,p,L,h=>by
   cases h with
   |cons h t=>exact ⟨_,_,_,_,_,_,rfl,rfl,rfl, .one h,t⟩
 |a::qE,s,vd,lo,kids,p,L,h=>by
   cases h with
   |cons h t=>
     obtain ⟨dI,ew,cq,cx,bX,cf,rfl,rfl,rfl,U,ad⟩:=gG.cut t
     exact ⟨_::dI,ew,_++cq,cx,_++bX,cf,rfl,by rw[eL],by rw[eL], .cons h U,ad⟩
theorem gG.mono {V:Below} {ks:List Key} {kids p:List Nat} {L:List bl} (h:gG W lo hi ks kids p L) (hm:∀lo hi k p L,(∀x∈p,x∈p)→W lo hi k p L→V lo hi k p L):gG V lo hi ks kids p L:=by
 induction h with
 |one h=>exact .one (hm _ _ _ _ _ (fun _ h=>h) h)
 |cons h _ du=>exact .cons (hm _ _ _ _ _ (fun _ h=>h) h) du
theorem gG.yj {V:Below} {ks:List Key} {kids p:List Nat} {L:List bl} (h:gG W lo hi ks kids p L) (hm:∀lo hi k e0 L,(∀x∈e0,x∈p)→W lo hi k e0 L→V lo hi k e0 L):gG V lo hi ks kids p L:=by
 induction h with
 |one h=>exact .one (hm _ _ _ _ _ (fun _ h=>h) h)
 |cons h _ du=>
   exact .cons (hm _ _ _ _ _ (fun x af=>tP _ af) h) (du fun lo hi k e0 L aj=>hm lo hi k e0 L fun x af=>qc _ (aj x af))
def eM (k:Key):Prop:=1≤k.length∧k.length≤24
structure ND (n:aM):Prop where
 ok:∀k∈n.keys,eM k
 kg:n.keys.Pairwise cw
structure oq (n:aM):Prop extends ND n where
 leaf:n.leaf=true
 len:n.vals.length=n.keys.length
 kids:n.kids=[]
 vals:∀v∈n.vals,v.length≤24
structure NF (n:aM):Prop extends ND n where
 inner:n.leaf=false
 some:n.keys≠ []
 len:n.kids.length=n.keys.length+1
 vals:n.vals=[]
 kids:∀k∈n.kids,k<1600
def aM.gL (n:aM):List bl:=n.keys.zip n.vals
def aM.within (n:aM) (lo hi:Option Key):Prop:=∀k∈n.keys,kN lo hi k
def hO (P:Nat→Option aM):Nat→Below
 |0=>fun _ _ _ _ _=>False
 |1=>fun lo hi no p L=>∃n,P no=some n∧oq n∧n.within lo hi∧n.keys≠ []∧p=[no]∧L=n.gL
 |h+2=>fun lo hi no p L=>∃n e0,P no=some n∧NF n∧n.within lo hi∧p=no::e0∧
     gG (fun lo hi k p L=>hO P (h+1) lo hi k p L∧∃m,P k=some m∧2≤m.keys.length) lo hi n.keys n.kids e0 L
theorem hO.agree {P Q:Nat→Option aM}:∀ {h:Nat} {lo hi:Option Key} {no:Nat} {p:List Nat} {L:List bl},hO P h lo hi no p L→(∀x∈p,P x=Q x)→hO Q h lo hi no p L∧no∈p
 |0,_,_,_,_,_,hw,_=>hw.elim
 |1,_,_,no,_,_,⟨n,U,ad,au,aJ,a6,b8⟩,J=>by
   have hm:no∈ [no]:=by simp
   rw[a6]
   exact ⟨⟨n,by rw[←J no (by rw[a6];exact hm)];exact U,ad,au,aJ,rfl,b8⟩,hm⟩
 |h+2,_,_,no,_,_,⟨n,e0,U,ad,au,aJ,a6⟩,J=>by
   subst aJ
   refine ⟨⟨n,e0,by rw[←J no (by simp)];exact U,ad,au,rfl,a6.yj fun lo hi k q L aj ⟨hw,m,hm,ad⟩=> ?_⟩,by simp⟩
   have:=hO.agree hw fun x af=>J x (u7 _ (aj x af))
   exact ⟨this.1,m,by rw[←J k (u7 _ (aj k this.2))];exact hm,ad⟩
end Go.Proofs.YtplieiecebljmaaGreat
namespace Go.Proofs.YtplieiecebljmaaGreat
variable {W:Below} {lo hi:Option Key} {P:Nat→Option aM}
theorem ahS {lo hi:Option Key} {s k:Key} (U:kN lo (some s) k) (ad:kN lo hi s):kN lo hi k:=
 ⟨U.1,fun b ab=>yh (U.2 s rfl) (ad.2 b ab)⟩
theorem ahT {lo hi:Option Key} {s k:Key} (U:kN (some s) hi k) (ad:kN lo hi s):kN lo hi k:=
 ⟨fun a aR=>Yh (ad.1 a aR) (U.1 s rfl),U.2⟩
theorem gG.kg {ks:List Key} {kids p:List Nat} {L:List bl} (h:gG W lo hi ks kids p L) (dq:∀lo hi k p L,W lo hi k p L→oo L∧∀q∈L,kN lo hi q.1) (ae:ks.Pairwise cw) (ab:∀s∈ks,kN lo hi s):
   oo L∧∀q∈L,kN lo hi q.1:=by
 induction h with
 |one h=>exact dq _ _ _ _ _ h
 | @cons lo hi s k cq cx bX cf ks kids h t du=>
   obtain ⟨bI,c3⟩:=dq _ _ _ _ _ h
   have qF:=r9.1 ae
   obtain ⟨aq,cG⟩:=du qF.2 fun x af=>⟨fun a aR=>by cases aR;exact qD (qF.1 x af),(ab x (u7 _ af)).2⟩
   have aj:=ab s List.mem_cons_self
   refine ⟨G7.2 ⟨bI,aq,fun x af y b3=>Cj ((c3 x af).2 s rfl) ((cG y b3).1 s rfl)⟩,fun q J=> ?_⟩
   rcases e8.1 J with J|J
   · exact ahS (c3 q J) aj
   · exact ahT (cG q J) aj
theorem Yk:∀ {ks vs:List Key},ks.Pairwise cw→oo (ks.zip vs)
 | [],vs,_=>by rw[List.zip_nil_left];exact List.Pairwise.nil
 |k::ks,[],_=>by rw[List.zip_nil_right];exact List.Pairwise.nil
 |k::ks,v::vs,h=>by
   rw[List.zip_cons_cons]
   have:=r9.1 h
   exact r9.2 ⟨fun q J=>this.1 _ (Jy J).1,Yk this.2⟩
theorem oq.gL {n:aM} (h:oq n):oo n.gL∧n.gL.length=n.keys.length:=⟨Yk h.kg,by unfold aM.gL;rw[Cc,h.len,Nat.min_self]⟩
theorem hO.kg:∀ {h:Nat} {lo hi:Option Key} {no:Nat} {p:List Nat} {L:List bl},hO P h lo hi no p L→oo L∧∀q∈L,kN lo hi q.1
 |0,_,_,_,_,_,hw=>hw.elim
 |1,_,_,_,_,_,⟨n,_,ad,au,_,_,b8⟩=>by
   subst b8
   exact ⟨ad.gL.1,fun q J=>au _ (Jy J).1⟩
 |h+2,_,_,_,_,_,⟨n,_,_,ad,au,_,a6⟩=>a6.kg (fun _ _ _ _ _ hw=>hO.kg hw.1) ad.kg au
theorem gG.count {ks:List Key} {kids p:List Nat} {L:List bl} (h:gG W lo hi ks kids p L) {c:Nat} (dq:∀lo hi k p L,W lo hi k p L→p.length+1≤L.length∧c≤L.length):
   p.length+kids.length≤L.length∧c*kids.length≤L.length:=by
 induction h with
 |one h=>have:=dq _ _ _ _ _ h;simp;omega
 |cons h _ du=>
   have:=dq _ _ _ _ _ h
   simp only[dU,ld,Nat.mul_add,lU]
   omega
theorem hO.count:∀ {h:Nat} {lo hi:Option Key} {no:Nat} {p:List Nat} {L:List bl},hO P h lo hi no p L→((∃m,P no=some m∧2≤m.keys.length)∨2≤h)→p.length+1≤L.length∧2^h≤L.length
 |0,_,_,_,_,_,hw,_=>hw.elim
 |1,_,_,_,_,_,⟨n,U,ad,_,_,a6,b8⟩,hm=>by
   rcases hm with ⟨m,e,hm⟩|hm
   · rw[U] at e
     cases e
     subst a6 b8
     have:=ad.gL.2
     simp only[ru];omega
   · omega
 |h+2,_,_,_,_,_,⟨n,e0,_,ad,_,aJ,a6⟩,_=>by
   have al:=a6.count (c:=2^(h+1)) fun lo hi k p L ⟨hw,hm⟩=>hO.count hw (.inl hm)
   have az:=ad.len
   have aj:1≤n.keys.length:=List.length_pos_iff.2 ad.some
   subst aJ
   have:2^(h+1)*2≤2^(h+1)*n.kids.length:=Nat.mul_le_mul_left _ (by omega)
   rw[Nat.pow_succ 2 (h+1)]
   simp only[ld]
   omega
theorem hO.pages {h:Nat} {lo hi:Option Key} {no:Nat} {p:List Nat} {L:List bl} (hw:hO P h lo hi no p L):p.length≤L.length∧1≤L.length∧(2≤h→2^h≤L.length):=by
 match h with
 |0=>exact hw.elim
 |1=>
   obtain ⟨n,U,ad,_,aJ,a6,b8⟩:=hw
   subst a6 b8
   have:=ad.gL.2
   have iA:=List.length_pos_iff.2 aJ
   simp only[ru]
   exact ⟨by omega,by omega,by omega⟩
 |h+2=>
   have:=hO.count hw (.inr (by omega))
   exact ⟨by omega,by omega,fun _=>this.2⟩
end Go.Proofs.YtplieiecebljmaaGreat
namespace Go.Proofs.YtplieiecebljmaaGreat
variable {W V:Below} {lo hi:Option Key}
inductive k2 (W:Below) (lo:Option Key):Option Key→List Key→List Nat→List Nat→List bl→Prop
 |nil:k2 W lo lo [] [] [] []
 |more {s:Key} {ks:List Key} {kids p:List Nat} {L:List bl} (h:gG W lo (some s) ks kids p L):k2 W lo (some s) (ks++ [s]) kids p L
inductive nr (W:Below) (hi:Option Key):Option Key→List Key→List Nat→List Nat→List bl→Prop
 |nil:nr W hi hi [] [] [] []
 |more {s:Key} {ks:List Key} {kids p:List Nat} {L:List bl} (h:gG W (some s) hi ks kids p L):nr W hi (some s) (s::ks) kids p L
variable {m:Option Key} {qE vd:List Key} {rv yi cq cx:List Nat} {bX cf:List bl}
theorem k2.ahU (U:k2 W lo m qE rv cq bX) (ad:gG W m hi vd yi cx cf):gG W lo hi (qE++vd) (rv++yi) (cq++cx) (bX++cf):=by
 cases U with
 |nil=>exact ad
 |more h=>rw[eL];exact h.app ad
theorem gG.post (U:gG W lo m qE rv cq bX) (ad:nr W hi m vd yi cx cf):gG W lo hi (qE++vd) (rv++yi) (cq++cx) (bX++cf):=by
 cases ad with
 |nil=>simpa using U
 |more h=>exact U.app h
theorem k2.cons {s:Key} {k:Nat} {p:List Nat} {L:List bl} (h:W lo (some s) k p L) (t:k2 W (some s) m qE rv cq bX):k2 W lo m (s::qE) (k::rv) (p++cq) (L++bX):=by
 cases t with
 |nil=>rw[mn,mn];exact k2.more (ks:=[]) (.one h)
 |more t=>exact k2.more (ks:=s::_) (.cons h t)
theorem k2.yj (h:k2 W lo m qE rv cq bX) (hm:∀lo hi k e0 L,(∀x∈e0,x∈cq)→W lo hi k e0 L→V lo hi k e0 L):k2 V lo m qE rv cq bX:=by
 cases h with
 |nil=>exact .nil
 |more h=>exact .more (h.yj hm)
theorem nr.yj (h:nr W hi m qE rv cq bX) (hm:∀lo hi k e0 L,(∀x∈e0,x∈cq)→W lo hi k e0 L→V lo hi k e0 L):nr V hi m qE rv cq bX:=by
 cases h with
 |nil=>exact .nil
 |more h=>exact .more (h.yj hm)
theorem gG.at {ks:List Key} {kids p:List Nat} {L:List bl} (h:gG W lo hi ks kids p L):∀ (i:Nat) (ae:i<kids.length),∃ (g7 fm:Option Key) (cq q cx:List Nat) (bX M cf:List bl),
   p=cq++(q++cx)∧L=bX++(M++cf)∧W g7 fm kids[i] q M∧k2 W lo g7 (ks.take i) (kids.take i) cq bX∧nr W hi fm (ks.drop i) (kids.drop (i+1)) cx cf:=by
 induction h with
 | @one lo hi k p L h=>
   intro i ae
   have:i=0:=by simp at ae;omega
   subst this
   exact ⟨lo,hi,[],p,[],[],L,[],by simp,by simp,h, .nil, .nil⟩
 | @cons lo hi s k cq cx bX cf ks kids h t du=>
   intro i ae
   cases i with
   |zero=>exact ⟨lo,some s,[],cq,cx,[],bX,cf,rfl,rfl,h, .nil, .more t⟩
   |succ i=>
     obtain ⟨g7,fm,a,q,b,A,M,B,rfl,rfl,U,ad,au⟩:=du i (by simpa using ae)
     exact ⟨g7,fm,cq++a,q,b,bX++A,M,B,by rw[eL],by rw[eL],U,k2.cons h ad,au⟩
theorem k2.inv {kids p:List Nat} {L:List bl} (h:k2 W lo m [] kids p L):m=lo∧kids=[]∧p=[]∧L=[]:=by
 generalize e:([]:List Key)=K at h
 cases h with
 |nil=>exact ⟨rfl,rfl,rfl,rfl⟩
 |more h=>simp at e
theorem nr.head {ks:List Key} {kids p:List Nat} {L:List bl} (h:nr W hi m ks kids p L) (ae:0<kids.length):∃ (s:Key) (fm:Option Key) (q cx:List Nat) (M cf:List bl) (aj:0<ks.length),
   m=some s∧s=ks[0]∧p=q++cx∧L=M++cf∧W (some s) fm (kids[0]) q M∧nr W hi fm (ks.drop 1) (kids.drop 1) cx cf:=by
 cases h with
 |nil=>simp at ae
 | @more s ks kids p L h=>
   obtain ⟨g7,fm,cq,q,cx,bX,M,cf,rfl,rfl,U,ad,au⟩:=h.at 0 ae
   rw[List.take_zero] at ad
   obtain ⟨rfl,_,rfl,rfl⟩:=ad.inv
   exact ⟨s,fm,q,cx,M,cf,by simp,rfl,rfl,rfl,rfl,U,by simpa using au⟩
end Go.Proofs.YtplieiecebljmaaGreat
namespace Go.Proofs.YtplieiecebljmaaGreat
variable {W V:Below} {lo hi m:Option Key}
def fR (ks:List Key) (k:Key):Nat:=ks.findIdx fun s=>decide (cw k s)
theorem NG (ks:List Key) (k:Key):fR ks k≤ks.length:=List.findIdx_le_length
theorem ahV {ks:List Key} {k:Key} {i:Nat} (h:i<fR ks k) (hi:i<ks.length):h6 ks[i] k:=by
 have:=List.not_of_lt_findIdx h
 exact Yg.1 (by simpa using this)
theorem ahW {ks:List Key} {k:Key} (h:fR ks k<ks.length):cw k ks[fR ks k]:=by
 have:=List.findIdx_getElem (p:=fun s=>decide (cw k s)) (xs:=ks) (w:=h)
 exact dD this
theorem k2.ahX {i:Nat} {ks:List Key} {kids p:List Nat} {L:List bl} (h:k2 W lo m (ks.take i) kids p L) {k:Key} (az:∀ (j:Nat) (a_:j<ks.length),j<i→h6 ks[j] k) (ae:∀a,lo=some a→h6 a k):∀a,m=some a→h6 a k:=by
 generalize e:ks.take i=K at h
 cases h with
 |nil=>exact ae
 | @more s RO kids p L h=>
   intro a aR
   cases aR
   have hm:s∈ks.take i:=by rw[e];simp
   obtain ⟨j,a_,rfl⟩:=List.mem_take_iff_getElem.1 hm
   exact az j (by omega) (by omega)
theorem nr.ahY {i:Nat} {ks:List Key} {kids p:List Nat} {L:List bl} (h:nr W hi m (ks.drop i) kids p L) {k:Key} (az:∀ (h:i<ks.length),cw k ks[i]) (ae:∀a,hi=some a→cw k a):∀a,m=some a→cw k a:=by
 generalize e:ks.drop i=K at h
 cases h with
 |nil=>exact ae
 | @more s RO kids p L h=>
   intro a aR
   cases aR
   have bd:i<ks.length:=by
     have:=congrArg List.length e
     simp at this;omega
   have:ks[i]=s:=by
     have:=tQ bd
     rw[e] at this
     exact (List.cons.inj this).1.symm
   rw[←this];exact az bd
theorem k2.below {ks:List Key} {kids p:List Nat} {L:List bl} (h:k2 W lo m ks kids p L) (dq:∀lo hi k p L,W lo hi k p L→oo L∧∀q∈L,kN lo hi q.1) (ae:ks.Pairwise cw) (ab:∀s∈ks,kN lo hi s)
   {k:Key} (hm:∀a,m=some a→h6 a k):∀q∈L,cw q.1 k:=by
 cases h with
 |nil=>intro q J;cases J
 | @more s RO kids p L h=>
   have jP:=Cb.1 ae
   have:=h.kg dq jP.1 fun x af=>⟨(ab x (by simp[af])).1,fun b ab=>by cases ab;exact jP.2.2 x af s (by simp)⟩
   exact fun q J=>Cj ((this.2 q J).2 s rfl) (hm s rfl)
theorem nr.ahZ {ks:List Key} {kids p:List Nat} {L:List bl} (h:nr W hi m ks kids p L) (dq:∀lo hi k p L,W lo hi k p L→oo L∧∀q∈L,kN lo hi q.1) (ae:ks.Pairwise cw) (ab:∀s∈ks,kN lo hi s)
   {k:Key} (hm:∀a,m=some a→cw k a):∀q∈L,cw k q.1:=by
 cases h with
 |nil=>intro q J;cases J
 | @more s RO kids p L h=>
   have jP:=r9.1 ae
   have:=h.kg dq jP.2 fun x af=>⟨fun a aR=>by cases aR;exact qD (jP.1 x af),(ab x (by simp[af])).2⟩
   exact fun q J=>Cj (hm s rfl) ((this.2 q J).1 s rfl)
def Loc (k:Key) (u:List bl→List bl):Prop:=∀bX M cf:List bl,(∀p∈bX,cw p.1 k)→(∀p∈cf,cw k p.1)→u (bX++(M++cf))=bX++(u M++cf)
theorem ah0 (k v:Key):Loc k fun L=>ke L k v:=fun bX M cf U ad=>by
 show ke _ _ _=_
 rw[Yi U,ahR ad]
theorem RP (k:Key):Loc k fun L=>jN L k:=fun bX M cf U ad=>by
 show jN _ _=_
 rw[G6,G6,EN fun p aZ=>vc (U p aZ),EN fun p aZ=>(vc (ad p aZ)).symm]
end Go.Proofs.YtplieiecebljmaaGreat
namespace Go.Proofs.YtplieiecebljmaaGreat
variable {W V:Below} {lo hi m:Option Key} {P Q:Nat→Option aM}
def kO (P:Nat→Option aM) (h:Nat):Below:=fun lo hi k p L=>hO P h lo hi k p L∧∃m,P k=some m∧2≤m.keys.length
theorem kO.agree {h no:Nat} {p:List Nat} {L:List bl} (hw:kO P h lo hi no p L) (J:∀x∈p,P x=Q x):kO Q h lo hi no p L:=by
 obtain ⟨U,m,ad,au⟩:=hw
 have:=U.agree J
 exact ⟨this.1,m,by rw[←J no this.2];exact ad,au⟩
theorem ah1 {α:Type} {l:List α} (h:1≤l.length):l≠ []:=fun e=>by subst e;simp at h
theorem kO.in {h no:Nat} {p:List Nat} {L:List bl} (hw:kO P h lo hi no p L):L≠ []∧oo L∧∀q∈L,kN lo hi q.1:=⟨ah1 hw.1.pages.2.1,hw.1.kg⟩
theorem gG.sorted {ks:List Key} {kids p:List Nat} {L:List bl} (h:gG W lo hi ks kids p L) (dq:∀lo hi k p L,W lo hi k p L→L≠ []∧oo L∧∀q∈L,kN lo hi q.1):
   L≠ []∧(∀q∈L,kN lo hi q.1)∧ks.Pairwise cw∧∀s∈ks,(∀a,lo=some a→cw a s)∧∀b,hi=some b→cw s b:=by
 induction h with
 |one h=>exact ⟨(dq _ _ _ _ _ h).1,(dq _ _ _ _ _ h).2.2, .nil,by simp⟩
 | @cons lo hi s k cq cx bX cf ks kids h t du=>
   obtain ⟨dk,_,c3⟩:=dq _ _ _ _ _ h
   obtain ⟨db,cG,aq,aw⟩:=du
   obtain ⟨x,af⟩:=Jz _ dk
   obtain ⟨y,b3⟩:=Jz _ db
   have ky:∀a,lo=some a→cw a s:=fun a aR=>tU ((c3 x af).1 a aR) ((c3 x af).2 s rfl)
   have mo:∀b,hi=some b→cw s b:=fun b ab=>tU ((cG y b3).1 s rfl) ((cG y b3).2 b ab)
   refine ⟨by simp[dk],fun q J=> ?_,r9.2 ⟨fun z bN=>(aw z bN).1 s rfl,aq⟩,fun z bN=> ?_⟩
   · rcases e8.1 J with J|J
     · exact ⟨(c3 q J).1,fun b ab=>yh ((c3 q J).2 s rfl) (mo b ab)⟩
     · exact ⟨fun a aR=>qD (Cj (ky a aR) ((cG q J).1 s rfl)),(cG q J).2⟩
   · rcases gb.1 bN with rfl|bN
     · exact ⟨ky,mo⟩
     · exact ⟨fun a aR=>yh (ky a aR) ((aw z bN).1 s rfl),(aw z bN).2⟩
def fK (P:Nat→Option aM):Nat→aM→Option Key→Option Key→List Nat→List bl→Prop
 |0,_,_,_,_,_=>False
 |1,n,lo,hi,p,L=>oq n∧n.within lo hi∧p=[]∧L=n.gL
 |h+2,n,lo,hi,p,L=>n.leaf=false∧n.vals=[]∧(∀k∈n.keys,eM k)∧(∀k∈n.kids,k<1600)∧gG (kO P (h+1)) lo hi n.keys n.kids p L
theorem fK.agree:∀ {h:Nat} {n:aM} {p:List Nat} {L:List bl},fK P h n lo hi p L→(∀x∈p,P x=Q x)→fK Q h n lo hi p L
 |0,_,_,_,h,_=>h.elim
 |1,_,_,_,h,_=>h
 |_+2,_,_,_,⟨U,ad,au,aJ,a6⟩,J=>⟨U,ad,au,aJ,a6.yj fun _ _ _ _ _ aj hw=>hw.agree fun x af=>J x (aj x af)⟩
theorem fK.lay:∀ {h:Nat} {n:aM} {x:Nat} {p:List Nat} {L:List bl},fK P h n lo hi p L→n.keys≠ []→Q x=some n→(∀y∈p,P y=Q y)→hO Q h lo hi x (x::p) L
 |0,_,_,_,_,h,_,_,_=>h.elim
 |1,n,x,p,L,⟨U,ad,au,aJ⟩,ae,af,_=>by
   subst au
   exact ⟨n,af,U,ad,ae,rfl,aJ⟩
 |h+2,n,x,p,L,ak,ae,af,J=>by
   obtain ⟨U,ad,au,aJ,a6⟩:=ak.agree J
   have aj:=a6.sorted fun _ _ _ _ _ hw=>hw.in
   exact ⟨n,p,af,⟨⟨au,aj.2.2.1⟩,U,ae,a6.len,ad,aJ⟩,fun s mo=>⟨fun a aR=>qD ((aj.2.2.2 s mo).1 a aR),(aj.2.2.2 s mo).2⟩,rfl,a6⟩
def aM.left (n:aM) (i:Nat):aM:=if n.leaf then ⟨true,n.keys.take i,n.vals.take i,[]⟩ else ⟨false,n.keys.take i,[],n.kids.take (i+1)⟩
def aM.right (n:aM) (i:Nat):aM:=if n.leaf then ⟨true,n.keys.drop i,n.vals.drop i,[]⟩ else ⟨false,n.keys.drop (i+1),[],n.kids.drop (i+1)⟩
theorem fK.leaf {h:Nat} {n:aM} {p:List Nat} {L:List bl} (ak:fK P h n lo hi p L):n.leaf=decide (h=1):=by
 match h,ak with
 |0,ak=>exact ak.elim
 |1,ak=>rw[ak.1.leaf];rfl
 |h+2,ak=>rw[ak.1];simp
theorem fK.RQ {h:Nat} {n:aM} {p:List Nat} {L:List bl} (ak:fK P h n lo hi p L) {i:Nat} (U:1≤i) (fv:i<n.keys.length):
   ∃ (cq cx:List Nat) (bX cf:List bl),p=cq++cx∧L=bX++cf∧fK P h (n.left i) lo (some n.keys[i]) cq bX∧fK P h (n.right i) (some n.keys[i]) hi cx cf:=by
 match h,ak with
 |0,ak=>exact ak.elim
 |1,⟨a,b,c,d⟩=>
   subst c d
   have aN:=a.kg
   have qG:n.keys=n.keys.take i++n.keys.drop i:=(qd _ _).symm
   have fS:=aN
   rw[qG] at fS
   obtain ⟨bI,aq,bS⟩:=Cb.1 fS
   have hd:n.keys.drop i=n.keys[i]::n.keys.drop (i+1):=tQ fv
   have aH:n.left i=⟨true,n.keys.take i,n.vals.take i,[]⟩:=by unfold aM.left;rw[a.leaf];rfl
   have bf:n.right i=⟨true,n.keys.drop i,n.vals.drop i,[]⟩:=by unfold aM.right;rw[a.leaf];rfl
   rw[aH,bf]
   refine ⟨[],[],n.gL.take i,n.gL.drop i,rfl,(qd _ _).symm,⟨⟨⟨fun k ae=>a.ok k (kM ae),bI⟩,rfl,by simp[a.len],rfl,fun v ak=>a.vals v (kM ak)⟩,fun k ae=>⟨(b k (kM ae)).1,fun s aj=> ?_⟩,rfl,?_⟩,
     ⟨⟨⟨fun k ae=>a.ok k (kx ae),aq⟩,rfl,by simp[a.len],rfl,fun v ak=>a.vals v (kx ak)⟩,fun k ae=>⟨fun s aj=> ?_,(b k (kx ae)).2⟩,rfl,?_⟩⟩
   · cases aj
     exact bS k ae _ (by rw[hd];exact List.mem_cons_self)
   · exact List.take_zipWith
   · cases aj
     have ae:k∈n.keys.drop i:=ae
     rw[hd] at ae aq
     rcases gb.1 ae with rfl|ae
     · exact Yf _
     · exact qD ((r9.1 aq).1 k ae)
   · exact List.drop_zipWith
 |h+2,⟨a,b,c,d,e⟩=>
   have aH:n.left i=⟨false,n.keys.take i,[],n.kids.take (i+1)⟩:=by unfold aM.left;rw[a];rfl
   have bf:n.right i=⟨false,n.keys.drop (i+1),[],n.kids.drop (i+1)⟩:=by unfold aM.right;rw[a];rfl
   have qG:n.keys=n.keys.take i++n.keys[i]::n.keys.drop (i+1):=by rw[←tQ fv,qd]
   rw[qG] at e
   obtain ⟨dI,ew,cq,cx,bX,cf,aY,rfl,rfl,s1,s2⟩:=e.cut
   have az:=s1.len
   rw[d_,r_ (by omega)] at az
   have ah2:n.kids.take (i+1)=dI:=by rw[aY,←az,List.take_left]
   have ah3:n.kids.drop (i+1)=ew:=by rw[aY,←az,List.drop_left]
   rw[aH,bf,ah2,ah3]
   exact ⟨cq,cx,bX,cf,rfl,rfl,⟨rfl,rfl,fun k ae=>c k (kM ae),fun k ae=>d k (by rw[aY];simp[ae]),s1⟩,⟨rfl,rfl,fun k ae=>c k (kx ae),fun k ae=>d k (by rw[aY];simp[ae]),s2⟩⟩
end Go.Proofs.YtplieiecebljmaaGreat
namespace Go.Proofs.YtplieiecebljmaaGreat
variable {lo hi:Option Key} {P Q:Nat→Option aM}
def g8 (a:aM) (s:Key) (b:aM):aM:=if a.leaf then ⟨true,a.keys++b.keys,a.vals++b.vals,[]⟩ else ⟨false,a.keys++s::b.keys,[],a.kids++b.kids⟩
theorem EO {a b c d:List Key} (h:a.length=c.length):(a++b).zip (c++d)=a.zip c++b.zip d:=List.zip_append h
theorem fK.merge {h:Nat} {a b:aM} {s:Key} {pa NH:List Nat} {NI NJ:List bl} (aR:fK P h a lo (some s) pa NI) (ab:fK P h b (some s) hi NH NJ) (aj:eM s) (ah4:∀k,lo=some k→h6 k s) (ah5:∀k,hi=some k→h6 s k):
   fK P h (g8 a s b) lo hi (pa++NH) (NI++NJ):=by
 match h,aR,ab with
 |0,aR,_=>exact aR.elim
 |1,⟨bc,cS,a3,a4⟩,⟨c3,cG,eP,fa⟩=>
   subst a3 a4 eP fa
   have e:g8 a s b=⟨true,a.keys++b.keys,a.vals++b.vals,[]⟩:=by unfold g8;rw[bc.leaf];rfl
   rw[e]
   refine ⟨⟨⟨fun k ae=> ?_,Cb.2 ⟨bc.kg,c3.kg,fun x af y b3=>Cj ((cS x af).2 s rfl) ((cG y b3).1 s rfl)⟩⟩,rfl,by simp[bc.len,c3.len],rfl,fun v ak=> ?_⟩,fun k ae=> ?_,rfl,?_⟩
   · rcases e8.1 ae with ae|ae
     · exact bc.ok k ae
     · exact c3.ok k ae
   · rcases e8.1 ak with ak|ak
     · exact bc.vals v ak
     · exact c3.vals v ak
   · rcases e8.1 ae with ae|ae
     · exact ⟨(cS k ae).1,fun c al=>Cj ((cS k ae).2 s rfl) (ah5 c al)⟩
     · exact ⟨fun c al=>Yh (ah4 c al) ((cG k ae).1 s rfl),(cG k ae).2⟩
   · exact (EO bc.len.symm).symm
 |h+2,⟨bc,cS,a3,a4,a5⟩,⟨c3,cG,eP,fa,h7⟩=>
   have e:g8 a s b=⟨false,a.keys++s::b.keys,[],a.kids++b.kids⟩:=by unfold g8;rw[bc];rfl
   rw[e]
   refine ⟨rfl,rfl,fun k ae=> ?_,fun k ae=> ?_,a5.app h7⟩
   · rcases e8.1 ae with ae|ae
     · exact a3 k ae
     · rcases gb.1 ae with rfl|ae
       · exact aj
       · exact eP k ae
   · rcases e8.1 ae with ae|ae
     · exact a4 k ae
     · exact fa k ae
theorem hO.wG {h no:Nat} {p:List Nat} {L:List bl} (hw:hO P h lo hi no p L):∃n e0,P no=some n∧p=no::e0∧n.keys≠ []∧fK P h n lo hi e0 L:=by
 match h,hw with
 |0,hw=>exact hw.elim
 |1,⟨n,U,ad,au,aJ,a6,b8⟩=>exact ⟨n,[],U,a6,aJ,ad,au,rfl,b8⟩
 |h+2,⟨n,e0,U,ad,au,aJ,a6⟩=>exact ⟨n,e0,U,aJ,ad.some,ad.inner,ad.vals,ad.ok,ad.kids,a6⟩
def mq (n:aM) (fr to:Nat) (ks:List Key) (kids:List Nat):aM:=⟨false,n.keys.take fr++ks++n.keys.drop (to-1),[],n.kids.take fr++kids++n.kids.drop to⟩
end Go.Proofs.YtplieiecebljmaaGreat
namespace Go.Proofs.YtplieiecebljmaaGreat
def cellsOf (n:aM):List Nat:=if n.leaf then List.zipWith (fun k v=>2+k.length+v.length) n.keys n.vals else n.keys.map fun k=>3+k.length
def cr (n:aM):Nat:=(if n.leaf then 1 else 3)+(cellsOf n).sum
def m7 (c:List Nat) (most:Nat):Nat:=match (List.range most).find? fun i=>decide (c.sum≤2*(c.take (i+1)).sum) with
 |some i=>i+1
 |none=>most
theorem Ck {B:Nat}:∀ {l:List Nat},(∀x∈l,x≤B)→l.sum≤B*l.length
 | [],_=>by simp
 |a::l,h=>by
   have U:=h a (by simp)
   have ad:=Ck (l:=l) fun x af=>h x (by simp[af])
   rw[JA,ld,Nat.mul_add,lU]
   omega
theorem RR (l:List Nat) (i:Nat):(l.take i).sum+(l.drop i).sum=l.sum:=by
 rw[←ye,qd]
theorem G8 {l:List Nat} {i:Nat} (h:i<l.length):(l.take (i+1)).sum=(l.take i).sum+l[i]:=by
 rw[qz h,ye];simp
theorem Yl {c:List Nat} {most:Nat} (hm:1≤most) (aj:0<c.sum):1≤m7 c most∧m7 c most≤most∧2*(c.take (m7 c most-1)).sum<c.sum∧(m7 c most=most∨c.sum≤2*(c.take (m7 c most)).sum):=by
 unfold m7
 cases h:(List.range most).find? fun i=>decide (c.sum≤2*(c.take (i+1)).sum) with
 |none=>
   have aD:=sd.1 h
   refine ⟨hm,cV _,?_, .inl rfl⟩
   by_cases U:most=1
   · subst U;simpa using aj
   · have:=aD (most-2) (wD.2 (by omega))
     have e:most-2+1=most-1:=by omega
     rw[e] at this
     simp at this
     exact this
 |some i=>
   have hi:i<most:=wD.1 (ED h)
   have aZ:=GS h
   refine ⟨by simp,by simp;omega,?_, .inr (by simpa using aZ)⟩
   show 2*(c.take (i+1-1)).sum<c.sum
   rw[Nat.add_sub_cancel]
   cases i with
   |zero=>simpa using aj
   |succ j=>
     have:=(List.find?_range_eq_some.1 h).2.2 j (by omega)
     simpa using this
theorem ah6 {c:List Nat} (fw:∀x∈c,x≤50) (U:232≤c.sum) (ad:c.sum≤309):
   2≤m7 c (c.length-1)∧m7 c (c.length-1)+2≤c.length∧(c.take (m7 c (c.length-1))).sum≤231∧(c.drop (m7 c (c.length-1))).sum≤231:=by
 have az:=Ck fw
 have cT:=Yl (c:=c) (most:=c.length-1) (by omega) (by omega)
 generalize m7 c (c.length-1)=i at cT⊢
 obtain ⟨bc,cS,a3,a4⟩:=cT
 have aj:=RR c i
 have aV:=G8 (l:=c) (i:=i-1) (by omega)
 rw[Nat.sub_add_cancel bc] at aV
 have al:=fw c[i-1] (fg _)
 have hd:=Ck (l:=c.drop i) fun x af=>fw x (kx af)
 have ae:=Ck (l:=c.take i) fun x af=>fw x (kM af)
 rw[fG] at hd
 rw[d_,r_ (by omega)] at ae
 have key:c.sum≤2*(c.take i).sum:=by
   rcases a4 with h|h
   · have:c.length-i=1:=by omega
     rw[this] at hd
     omega
   · exact h
 refine ⟨by omega,?_,by omega,by omega⟩
 rcases g6 (c.length-i) 2 with h|h
 · have:c.length-i=1:=by omega
   rw[this] at hd;omega
 · omega
theorem ah7 {c:List Nat} (fw:∀x∈c,x≤27) (U:230≤c.sum) (ad:c.sum≤332):
   2≤m7 c (c.length-2)∧m7 c (c.length-2)+3≤c.length∧(c.take (m7 c (c.length-2))).sum≤229∧(c.drop (m7 c (c.length-2)+1)).sum≤229:=by
 have az:=Ck fw
 have cT:=Yl (c:=c) (most:=c.length-2) (by omega) (by omega)
 generalize m7 c (c.length-2)=i at cT⊢
 obtain ⟨bc,cS,a3,a4⟩:=cT
 have aj:=RR c (i+1)
 have aV:=G8 (l:=c) (i:=i-1) (by omega)
 have hu:=G8 (l:=c) (i:=i) (by omega)
 rw[Nat.sub_add_cancel bc] at aV
 have al:=fw c[i-1] (fg _)
 have dY:=fw c[i] (fg _)
 have hd:=Ck (l:=c.drop (i+1)) fun x af=>fw x (kx af)
 have ae:=Ck (l:=c.take i) fun x af=>fw x (kM af)
 rw[fG] at hd
 rw[d_,r_ (by omega)] at ae
 have key:c.sum≤2*(c.take i).sum:=by
   rcases a4 with h|h
   · have:c.length-(i+1)=1:=by omega
     rw[this] at hd
     omega
   · exact h
 refine ⟨by omega,?_,by omega,by omega⟩
 rcases g6 (c.length-(i+1)) 2 with h|h
 · have:c.length-(i+1)≤1:=by omega
   have:27*(c.length-(i+1))≤27*1:=Nat.mul_le_mul_left _ this
   omega
 · omega
end Go.Proofs.YtplieiecebljmaaGreat
namespace Go.Proofs.YtplieiecebljmaaGreat
variable {W:Below} {lo hi m:Option Key} {P Q:Nat→Option aM}
theorem nr.inv {kids p:List Nat} {L:List bl} (h:nr W hi m [] kids p L):m=hi∧kids=[]∧p=[]∧L=[]:=by
 generalize e:([]:List Key)=K at h
 cases h with
 |nil=>exact ⟨rfl,rfl,rfl,rfl⟩
 |more h=>simp at e
theorem k2.last {ks:List Key} {kids p:List Nat} {L:List bl} (h:k2 W lo m ks kids p L) (ae:0<kids.length):∃ (s:Key) (g7:Option Key) (cq r:List Nat) (bX N:List bl) (aj:0<ks.length),
   m=some s∧s=ks[ks.length-1]∧p=cq++r∧L=bX++N∧W g7 (some s) (kids[kids.length-1]) r N∧k2 W lo g7 (ks.take (ks.length-1)) (kids.take (kids.length-1)) cq bX∧kids.length=ks.length:=by
 cases h with
 |nil=>simp at ae
 | @more s ks kids p L h=>
   have az:=h.len
   obtain ⟨g7,fm,cq,q,cx,bX,M,cf,rfl,rfl,U,ad,au⟩:=h.at (kids.length-1) (by omega)
   rw[List.drop_of_length_le (by omega)] at au
   obtain ⟨rfl,_,rfl,rfl⟩:=au.inv
   refine ⟨s,g7,cq,q,bX,M,by simp,rfl,by simp,by simp,by simp,U,?_,by simp;omega⟩
   have e:(ks++ [s]).take ((ks++ [s]).length-1)=ks.take (kids.length-1):=by
     rw[az];simp
   rw[e];exact ad
theorem fK.at {h:Nat} {n:aM} {p:List Nat} {L:List bl} (ak:fK P (h+2) n lo hi p L) {k:Key} (ae:kN lo hi k):∃ (g7 fm:Option Key) (cq q cx:List Nat) (bX M cf:List bl) (ab:fR n.keys k<n.kids.length),
   p=cq++(q++cx)∧L=bX++(M++cf)∧kO P (h+1) g7 fm n.kids[fR n.keys k] q M∧kN g7 fm k∧(∀u,Loc k u→u L=bX++(u M++cf))∧n.kids.length=n.keys.length+1∧
   k2 (kO P (h+1)) lo g7 (n.keys.take (fR n.keys k)) (n.kids.take (fR n.keys k)) cq bX∧nr (kO P (h+1)) hi fm (n.keys.drop (fR n.keys k)) (n.kids.drop (fR n.keys k+1)) cx cf:=by
 obtain ⟨a,b,c,d,e⟩:=ak
 have az:=e.len
 have hle:=NG n.keys k
 have aj:=e.sorted fun _ _ _ _ _ hw=>hw.in
 have fo:∀s∈n.keys,kN lo hi s:=fun s h=>⟨fun a aR=>qD ((aj.2.2.2 s h).1 a aR),(aj.2.2.2 s h).2⟩
 obtain ⟨g7,fm,cq,q,cx,bX,M,cf,rfl,rfl,U,ad,au⟩:=e.at (fR n.keys k) (by omega)
 have lX:=ad.ahX (k:=k) (fun j a_ h=>ahV h a_) ae.1
 have Cl:=au.ahY (k:=k) (fun h=>ahW h) ae.2
 have ah8:(n.keys.take (fR n.keys k)).Pairwise cw:=aj.2.2.1.sublist (List.take_sublist _ _)
 have dQ:(n.keys.drop (fR n.keys k)).Pairwise cw:=aj.2.2.1.sublist (List.drop_sublist _ _)
 exact ⟨g7,fm,cq,q,cx,bX,M,cf,by omega,rfl,rfl,U,⟨lX,Cl⟩,fun u hu=>hu _ _ _ (ad.below (hi:=hi) (fun _ _ _ _ _ hw=>hw.in.2) ah8 (fun s h=>fo s (kM h)) lX) (au.ahZ (lo:=lo) (fun _ _ _ _ _ hw=>hw.in.2) dQ (fun s h=>fo s (kx h)) Cl),
   az,ad,au⟩
theorem fK.build {h:Nat} {g7 fm:Option Key} {z8 yk ks:List Key} {EP ER kids cq cx q:List Nat} {bX M cf:List bl} (U:k2 (kO P (h+1)) lo g7 z8 EP cq bX) (ad:nr (kO P (h+1)) hi fm yk ER cx cf)
   (aj:gG (kO Q (h+1)) g7 fm ks kids q M) (J:∀x∈cq++cx,P x=Q x) (ae:∀s∈z8++ks++yk,eM s) (hd:∀x∈EP++kids++ER,x<1600):
   fK Q (h+2) ⟨false,z8++ks++yk,[],EP++kids++ER⟩ lo hi (cq++(q++cx)) (bX++(M++cf)):=by
 have aA:k2 (kO Q (h+1)) lo g7 z8 EP cq bX:=U.yj fun _ _ _ _ _ aj hw=>hw.agree fun x af=>J x (tP _ (aj x af))
 have aE:nr (kO Q (h+1)) hi fm yk ER cx cf:=ad.yj fun _ _ _ _ _ aj hw=>hw.agree fun x af=>J x (qc _ (aj x af))
 refine ⟨rfl,rfl,ae,hd,?_⟩
 show gG _ lo hi (z8++ks++yk) (EP++kids++ER) _ _
 rw[eL,eL]
 exact aA.ahU (aj.post aE)
end Go.Proofs.YtplieiecebljmaaGreat
namespace Go.Proofs.YtplieiecebljmaaGreat
variable {lo hi:Option Key} {P Q:Nat→Option aM}
theorem fK.one {h x:Nat} {n:aM} {p:List Nat} {L:List bl} (ak:fK P h n lo hi p L) (ad:2≤n.keys.length) (af:Q x=some n) (J:∀y∈p,P y=Q y):gG (kO Q h) lo hi [] [x] (x::p) L:=
 .one ⟨ak.lay (fun e=>by rw[e] at ad;simp at ad) af J,n,af,ad⟩
theorem wH {n:aM} (h:n.leaf=true):cellsOf n=List.zipWith (fun k v=>2+k.length+v.length) n.keys n.vals:=by unfold cellsOf;rw[h];rfl
theorem wI {n:aM} (h:n.leaf=false):cellsOf n=n.keys.map fun k=>3+k.length:=by unfold cellsOf;rw[h];rfl
theorem RS {B:Nat} {f:Key→Key→Nat}:∀ {ks vs:List Key},(∀k∈ks,∀v∈vs,f k v≤B)→∀x∈List.zipWith f ks vs,x≤B
 | [],vs,_,x,af=>by simp at af
 |k::ks,[],_,x,af=>by simp at af
 |k::ks,v::vs,h,x,af=>by
   rw[List.zipWith_cons_cons] at af
   rcases gb.1 af with rfl|af
   · exact h k (by simp) v (by simp)
   · exact RS (fun k ae v ak=>h k (by simp[ae]) v (by simp[ak])) x af
def dr (n:aM):Nat:=m7 (cellsOf n) (if n.leaf then n.keys.length-1 else n.keys.length-2)
theorem fK.two {h x y:Nat} {n:aM} {p:List Nat} {L:List bl} (ak:fK P h n lo hi p L) (U:232<cr n) (ad:n.leaf=true→cr n≤310) (au:n.leaf=false→cr n≤335):
   1≤dr n∧(if n.leaf then dr n≤n.keys.length-1∧1≤n.keys.length-1 else dr n≤n.keys.length-2∧1≤n.keys.length-2)∧cr (n.left (dr n))≤232∧cr (n.right (dr n))≤232∧
     ∃ (ab:dr n<n.keys.length) (cq cx:List Nat) (bX cf:List bl),p=cq++cx∧L=bX++cf∧eM n.keys[dr n]∧
       (Q x=some (n.left (dr n))→Q y=some (n.right (dr n))→(∀z∈p,P z=Q z)→gG (kO Q h) lo hi [n.keys[dr n]] [x,y] ((x::cq)++(y::cx)) (bX++cf)):=by
 have main:∀ (i:Nat),2≤i→(aJ:i<n.keys.length)→2≤(n.left i).keys.length→2≤(n.right i).keys.length→∃ (ab:i<n.keys.length) (cq cx:List Nat) (bX cf:List bl),p=cq++cx∧L=bX++cf∧eM n.keys[i]∧
     (Q x=some (n.left i)→Q y=some (n.right i)→(∀z∈p,P z=Q z)→gG (kO Q h) lo hi [n.keys[i]] [x,y] ((x::cq)++(y::cx)) (bX++cf)):=by
   intro i fv se az aN
   obtain ⟨cq,cx,bX,cf,rfl,rfl,v1,v2⟩:=ak.RQ (by omega:1≤i) se
   have jd:eM n.keys[i]:=by
     match h,ak with
     |0,ak=>exact ak.elim
     |1,ak=>exact ak.1.ok _ (fg _)
     |h+2,ak=>exact ak.2.2.1 _ (fg _)
   refine ⟨se,cq,cx,bX,cf,rfl,rfl,jd,fun af b3 J=> ?_⟩
   have s1:=v1.one az af fun z bN=>J z (tP _ bN)
   have s2:=v2.one aN b3 fun z bN=>J z (qc _ bN)
   exact s1.app s2
 match h,ak with
 |0,ak=>exact ak.elim
 |1,ak=>
   have dm:n.leaf=true:=ak.1.leaf
   have Cm:(cellsOf n).length=n.keys.length:=by rw[wH dm,List.length_zipWith,ak.1.len,Nat.min_self]
   have fw:∀c∈cellsOf n,c≤50:=by
     rw[wH dm]
     exact RS fun k ae v gM=>by have:=(ak.1.ok k ae).2;have:=ak.1.vals v gM;omega
   have ah9:cr n=1+(cellsOf n).sum:=by unfold cr;rw[dm];rfl
   have ad:=ad dm
   obtain ⟨bc,cS,a3,a4⟩:=ah6 fw (by omega) (by omega)
   have RT:dr n=m7 (cellsOf n) ((cellsOf n).length-1):=by unfold dr;rw[dm,Cm];rfl
   rw[←RT] at bc cS a3 a4
   have dz:n.left (dr n)=⟨true,n.keys.take (dr n),n.vals.take (dr n),[]⟩:=by unfold aM.left;rw[dm];rfl
   have c8:n.right (dr n)=⟨true,n.keys.drop (dr n),n.vals.drop (dr n),[]⟩:=by unfold aM.right;rw[dm];rfl
   have RU:cellsOf (n.left (dr n))=(cellsOf n).take (dr n):=by rw[dz,wH rfl,wH dm];exact List.take_zipWith.symm
   have RV:cellsOf (n.right (dr n))=(cellsOf n).drop (dr n):=by rw[c8,wH rfl,wH dm];exact List.drop_zipWith.symm
   refine ⟨by omega,by rw[dm];exact ⟨by omega,by omega⟩,?_,?_,main _ bc (by omega) (by rw[dz];show 2≤(n.keys.take _).length;rw[d_];omega) (by rw[c8];show 2≤(n.keys.drop _).length;rw[fG];omega)⟩
   · unfold cr;rw[RU,dz];show 1+_≤_;omega
   · unfold cr;rw[RV,c8];show 1+_≤_;omega
 |h+2,ak=>
   have dm:n.leaf=false:=ak.1
   have Cm:(cellsOf n).length=n.keys.length:=by rw[wI dm,lf]
   have fw:∀c∈cellsOf n,c≤27:=by
     rw[wI dm]
     intro c al
     obtain ⟨k,ae,rfl⟩:=nq.1 al
     have:=(ak.2.2.1 k ae).2;omega
   have ah9:cr n=3+(cellsOf n).sum:=by unfold cr;rw[dm];rfl
   have au:=au dm
   obtain ⟨bc,cS,a3,a4⟩:=ah7 fw (by omega) (by omega)
   have RT:dr n=m7 (cellsOf n) ((cellsOf n).length-2):=by unfold dr;rw[dm,Cm];rfl
   rw[←RT] at bc cS a3 a4
   have dz:n.left (dr n)=⟨false,n.keys.take (dr n),[],n.kids.take (dr n+1)⟩:=by unfold aM.left;rw[dm];rfl
   have c8:n.right (dr n)=⟨false,n.keys.drop (dr n+1),[],n.kids.drop (dr n+1)⟩:=by unfold aM.right;rw[dm];rfl
   have RU:cellsOf (n.left (dr n))=(cellsOf n).take (dr n):=by rw[dz,wI rfl,wI dm];exact EE
   have RV:cellsOf (n.right (dr n))=(cellsOf n).drop (dr n+1):=by rw[c8,wI rfl,wI dm];exact GU
   refine ⟨by omega,by rw[dm];exact ⟨by omega,by omega⟩,?_,?_,main _ bc (by omega) (by rw[dz];show 2≤(n.keys.take _).length;rw[d_];omega) (by rw[c8];show 2≤(n.keys.drop _).length;rw[fG];omega)⟩
   · unfold cr;rw[RU,dz];show 3+_≤_;omega
   · unfold cr;rw[RV,c8];show 3+_≤_;omega
end Go.Proofs.YtplieiecebljmaaGreat
namespace Go.Proofs.YtplieiecebljmaaGreat
variable {lo hi:Option Key} {P Q:Nat→Option aM}
theorem fK.cells {h:Nat} {n:aM} {p:List Nat} {L:List bl} (ak:fK P h n lo hi p L):(cellsOf n).length=n.keys.length∧∀c∈cellsOf n,c≤if n.leaf then 50 else 27:=by
 match h,ak with
 |0,ak=>exact ak.elim
 |1,ak=>
   have dm:n.leaf=true:=ak.1.leaf
   rw[wH dm,dm]
   exact ⟨by rw[List.length_zipWith,ak.1.len,Nat.min_self],RS fun k ae v gM=>by have:=(ak.1.ok k ae).2;have:=ak.1.vals v gM;simp only[if_true];omega⟩
 |h+2,ak=>
   have dm:n.leaf=false:=ak.1
   rw[wI dm,dm]
   refine ⟨by rw[lf],fun c al=> ?_⟩
   obtain ⟨k,ae,rfl⟩:=nq.1 al
   have:=(ak.2.2.1 k ae).2
   show 3+k.length≤27
   omega
theorem fK.RW {h:Nat} {n:aM} {p:List Nat} {L:List bl} (ak:fK P h n lo hi p L) (aj:80≤cr n):2≤n.keys.length:=by
 obtain ⟨U,ad⟩:=ak.cells
 have:=Ck ad
 rw[U] at this
 unfold cr at aj
 cases az:n.leaf with
 |true=>rw[az] at aj this;simp only[if_true] at aj this;omega
 |false=>rw[az] at aj this;simp only[oh,if_false] at aj this;omega
theorem ah_ {a b:aM} {s:Key} (h:a.leaf=b.leaf) (aR:a.leaf=true→a.vals.length=a.keys.length):cr (g8 a s b)=if a.leaf then cr a+cr b-1 else cr a+cr b+s.length:=by
 cases az:a.leaf with
 |true=>
   have e:g8 a s b=⟨true,a.keys++b.keys,a.vals++b.vals,[]⟩:=by unfold g8;rw[az];rfl
   have ab:b.leaf=true:=by rw[←h,az]
   unfold cr
   rw[e,wH rfl,wH az,wH ab,az,ab]
   simp only[if_true]
   rw[GV (aR az).symm,ye]
   omega
 |false=>
   have e:g8 a s b=⟨false,a.keys++s::b.keys,[],a.kids++b.kids⟩:=by unfold g8;rw[az];rfl
   have ab:b.leaf=false:=by rw[←h,az]
   unfold cr
   rw[e,wI rfl,wI az,wI ab,az,ab]
   simp only[oh,if_false,om,tR,ye,JA]
   omega
def qH (ks:List Key):Nat:=(ks.map fun k=>3+k.length).sum
theorem NK (a b:List Key):qH (a++b)=qH a+qH b:=by unfold qH;rw[om,ye]
theorem Ym {n:aM} (h:n.leaf=false):cr n=3+qH n.keys:=by unfold cr qH;rw[h,wI h];rfl
theorem aia (k:Key):qH [k]=3+k.length:=by simp[qH]
theorem RX {n:aM} {ks:List Key} {kids:List Nat} {fr j:Nat} (h:n.leaf=false) (qF:ks.length≤1) (ae:∀k∈ks,eM k) (a_:fr≤j):
   cr ⟨false,n.keys.take fr++ks++n.keys.drop j,[],kids⟩≤cr n+27:=by
 rw[Ym h,Ym rfl]
 show 3+qH (n.keys.take fr++ks++n.keys.drop j)≤_
 rw[NK,NK]
 have U:qH ks≤27:=by
   match ks,qF with
   | [],_=>simp[qH]
   | [k],_=>rw[aia];have:=(ae k (by simp)).2;omega
 have ad:qH n.keys=qH (n.keys.take fr)+qH (n.keys.drop fr):=by rw[←NK,qd]
 have au:qH (n.keys.drop fr)=qH ((n.keys.drop fr).take (j-fr))+qH (n.keys.drop j):=by
   rw[←NK]
   congr 1
   have:n.keys.drop j=(n.keys.drop fr).drop (j-fr):=by rw[JB];congr 1;omega
   rw[this,qd]
 omega
end Go.Proofs.YtplieiecebljmaaGreat
namespace Go.Proofs.YtplieiecebljmaaGreat
variable {lo hi:Option Key} {P Q:Nat→Option aM}
def z_ (Q:Nat→Option aM) (n:aM) (ks:List Key) (kids:List Nat):Prop:=
 (cr n≤232∧∃x,ks=[]∧kids=[x]∧Q x=some n)∨
 (232<cr n∧∃ (x y:Nat) (ab:dr n<n.keys.length),ks=[n.keys[dr n]]∧kids=[x,y]∧Q x=some (n.left (dr n))∧Q y=some (n.right (dr n)))
theorem fK.fits {h:Nat} {n:aM} {p:List Nat} {L:List bl} {ks:List Key} {kids:List Nat} (ak:fK P h n lo hi p L) (ad:2≤n.keys.length) (az:n.leaf=true→cr n≤310) (fv:n.leaf=false→cr n≤335)
   (aH:z_ Q n ks kids) (J:∀x∈p,P x=Q x):∃e0,gG (kO Q h) lo hi ks kids e0 L∧e0.Perm (kids++p)∧(∀s∈ks,eM s)∧ks.length≤1:=by
 rcases aH with ⟨_,x,rfl,rfl,af⟩|⟨aj,x,y,ab,rfl,rfl,af,b3⟩
 · exact ⟨x::p,ak.one ad af J,List.Perm.refl _,by simp,by simp⟩
 · obtain ⟨_,_,_,_,_,cq,cx,bX,cf,rfl,rfl,jd,aib⟩:=ak.two (Q:=Q) (x:=x) (y:=y) aj az fv
   refine ⟨_,aib af b3 J,?_,by simpa using jd,by simp⟩
   show ((x::cq)++(y::cx)).Perm ([x,y]++(cq++cx))
   simp only[EC,rq]
   exact (Cd).cons x
theorem aic {h:Nat} {bM fb:aM} {g7 fm:Option Key} {i:Nat} {cq cx oS:List Nat} {bX pE cf:List bl} {ks:List Key} {kids:List Nat} (b7:bM.leaf=false) (lg:∀k∈bM.keys,eM k) (pF:∀x∈bM.kids,x<1600)
   (aZ:k2 (kO P (h+1)) lo g7 (bM.keys.take i) (bM.kids.take i) cq bX) (bQ:nr (kO P (h+1)) hi fm (bM.keys.drop i) (bM.kids.drop (i+1)) cx cf) (ak:fK P (h+1) fb g7 fm oS pE) (U:80≤cr fb) (ad:cr fb≤282)
   (aH:z_ Q fb ks kids) (J:∀x∈cq++(oS++cx),P x=Q x) (ry:∀x∈kids,x<1600):
   ∃e0,fK Q (h+2) (mq bM i (i+1) ks kids) lo hi e0 (bX++(pE++cf))∧e0.Perm (kids++(cq++(oS++cx)))∧cr (mq bM i (i+1) ks kids)≤cr bM+27∧bM.keys.length≤(mq bM i (i+1) ks kids).keys.length:=by
 obtain ⟨iB,aj,ot,jd,rz⟩:=ak.fits (ak.RW U) (fun _=>by omega) (fun _=>by omega) aH fun x af=>J x (qc _ (tP _ af))
 have ab:=fK.build aZ bQ aj (fun x af=>by
     rcases e8.1 af with af|af
     · exact J x (tP _ af)
     · exact J x (qc _ (qc _ af)))
   (fun s aj=>by
     rcases e8.1 aj with aj|aj
     · rcases e8.1 aj with aj|aj
       · exact lg s (kM aj)
       · exact jd s aj
     · exact lg s (kx aj))
   (fun x af=>by
     rcases e8.1 af with af|af
     · rcases e8.1 af with af|af
       · exact pF x (kM af)
       · exact ry x af
     · exact pF x (kx af))
 have e:mq bM i (i+1) ks kids=⟨false,bM.keys.take i++ks++bM.keys.drop i,[],bM.kids.take i++kids++bM.kids.drop (i+1)⟩:=by unfold mq;rw[Nat.add_sub_cancel]
 rw[e]
 refine ⟨_,ab,?_,RX b7 rz jd (cV _),?_⟩
 · have aA:(iB++cx).Perm (kids++(oS++cx)):=by
     rw[←eL];exact ot.append_right _
   refine (List.Perm.append_left cq aA).trans ?_
   have aE:=(JC (l₁:=cq) (l₂:=kids)).append_right (oS++cx)
   rw[eL,eL] at aE
   exact aE
 · show bM.keys.length≤(bM.keys.take i++ks++bM.keys.drop i).length
   have:=congrArg List.length (qd i bM.keys)
   simp only[dU] at this⊢
   omega
end Go.Proofs.YtplieiecebljmaaGreat
namespace Go.Proofs.YtplieiecebljmaaGreat
variable {lo hi:Option Key} {P Q:Nat→Option aM}
theorem NL {a b:aM} {s:Key}:a.keys.length+b.keys.length≤(g8 a s b).keys.length:=by
 unfold g8
 split
 · show _≤(a.keys++b.keys).length
   rw[dU];omega
 · show _≤(a.keys++s::b.keys).length
   rw[dU,ld];omega
theorem Yn {a b:aM} {s:Key}:(g8 a s b).leaf=a.leaf:=by
 unfold g8
 cases h:a.leaf<;>simp
theorem NM {h:Nat} {a b:aM} {s:Key} {kP hT JO fv:Option Key} {pa NH:List Nat} {NI NJ:List bl} (aR:fK P h a kP hT pa NI) (ab:fK P h b JO fv NH NJ) (aj:eM s) (U:cr a+cr b≤311):
   ((g8 a s b).leaf=true→cr (g8 a s b)≤310)∧((g8 a s b).leaf=false→cr (g8 a s b)≤335):=by
 have az:a.leaf=b.leaf:=by rw[aR.leaf,ab.leaf]
 have ak:a.leaf=true→a.vals.length=a.keys.length:=fun U=>by
   match h,aR with
   |0,aR=>exact aR.elim
   |1,aR=>exact aR.1.len
   |h+2,aR=>rw[aR.1] at U;cases U
 rw[Yn,ah_ az ak]
 have:=aj.2
 constructor
 · intro e;rw[e];simp only[if_true];omega
 · intro e;rw[e];simp only[oh,if_false];omega
theorem aid {h:Nat} {bM fb:aM} {g7 fm:Option Key} {i:Nat} {cq cx oS:List Nat} {bX pE cf:List bl} {k:Key} (b7:bM.leaf=false) (lg:∀k∈bM.keys,eM k) (pF:∀x∈bM.kids,x<1600) (hlen:bM.kids.length=bM.keys.length+1) (gA:∀x n,P x=some n→cr n≤232)
   (hT:1≤i) (ou:i<bM.kids.length) (fo:kN g7 fm k)
   (aZ:k2 (kO P (h+1)) lo g7 (bM.keys.take i) (bM.kids.take i) cq bX) (bQ:nr (kO P (h+1)) hi fm (bM.keys.drop i) (bM.kids.drop (i+1)) cx cf) (ak:fK P (h+1) fb g7 fm oS pE) (U:cr fb<80):
   ∃ (o:aM) (G9:List Nat) (ab:i-1<bM.kids.length) (gT:i-1<bM.keys.length),P bM.kids[i-1]=some o∧cq.Perm (bM.kids[i-1]::G9)∧2≤o.keys.length∧
     ∀ (Q:Nat→Option aM) (ks:List Key) (kids:List Nat),z_ Q (g8 o bM.keys[i-1] fb) ks kids→(∀x∈G9++(oS++cx),P x=Q x)→(∀x∈kids,x<1600)→
       ∃e0,fK Q (h+2) (mq bM (i-1) (i+1) ks kids) lo hi e0 (bX++(pE++cf))∧e0.Perm (kids++(G9++(oS++cx)))∧cr (mq bM (i-1) (i+1) ks kids)≤cr bM+27∧bM.keys.length≤(mq bM (i-1) (i+1) ks kids).keys.length+1:=by
 obtain ⟨s,JO,dK,r,kQ,N,aj,rfl,sf,rfl,rfl,⟨hw,m,hm,kR⟩,G_,wJ⟩:=aZ.last (by rw[d_];omega)
 have fp:(bM.keys.take i).length=i:=by rw[d_];omega
 have lY:(bM.kids.take i).length=i:=by rw[d_];omega
 have sf:s=bM.keys[i-1]'(by omega):=by
   rw[sf,GW];congr 1;omega
 have ES:(bM.kids.take i)[(bM.kids.take i).length-1]'(by omega)=bM.kids[i-1]'(by omega):=by
   rw[GW];congr 1;omega
 rw[ES] at hw hm
 obtain ⟨o,sY,lh,rfl,_,qe⟩:=hw.wG
 rw[lh] at hm
 have kR:2≤o.keys.length:=by rw[Option.some.inj hm];exact kR
 clear hm
 subst sf
 have kh:=(show kO P (h+1) JO (some (bM.keys[i-1]'(by omega))) (bM.kids[i-1]'(by omega)) (bM.kids[i-1]'(by omega)::sY) N from ⟨hw,o,lh,kR⟩).in
 obtain ⟨x,af⟩:=Jz _ kh.1
 have sg:=lg _ (fg (l:=bM.keys) (n:=i-1) (by omega))
 have Cn:=fK.merge qe ak sg (fun c al=>qD (tU ((kh.2.2 x af).1 c al) ((kh.2.2 x af).2 _ rfl))) (fun c al=>qD (tU (fo.1 _ rfl) (fo.2 c al)))
 have dR:=NM qe ak sg (by have:=gA _ _ lh;omega)
 have Ha:=NL (a:=o) (b:=fb) (s:=bM.keys[i-1]'(by omega))
 refine ⟨o,dK++sY,by omega,by omega,lh,Cd,kR,fun Q ks kids aH J ry=> ?_⟩
 obtain ⟨iB,RY,ot,jd,rz⟩:=Cn.fits (by omega) dR.1 dR.2 aH fun x af=>J x (by
   rcases e8.1 af with af|af
   · exact tP _ (qc _ af)
   · exact qc _ (tP _ af))
 have sZ:(bM.keys.take i).take ((bM.keys.take i).length-1)=bM.keys.take (i-1):=by rw[fp,JD];congr 1;omega
 have aie:(bM.kids.take i).take ((bM.kids.take i).length-1)=bM.kids.take (i-1):=by rw[lY,JD];congr 1;omega
 rw[sZ,aie] at G_
 have ab:=fK.build G_ bQ RY (fun x af=>J x (by
     rcases e8.1 af with af|af
     · exact tP _ (tP _ af)
     · exact qc _ (qc _ af)))
   (fun s aj=>by
     rcases e8.1 aj with aj|aj
     · rcases e8.1 aj with aj|aj
       · exact lg s (kM aj)
       · exact jd s aj
     · exact lg s (kx aj))
   (fun x af=>by
     rcases e8.1 af with af|af
     · rcases e8.1 af with af|af
       · exact pF x (kM af)
       · exact ry x af
     · exact pF x (kx af))
 have e:mq bM (i-1) (i+1) ks kids=⟨false,bM.keys.take (i-1)++ks++bM.keys.drop i,[],bM.kids.take (i-1)++kids++bM.kids.drop (i+1)⟩:=by unfold mq;rw[Nat.add_sub_cancel]
 rw[e]
 refine ⟨_,by simpa[eL] using ab,?_,RX b7 rz jd (by omega),?_⟩
 · have aA:(iB++cx).Perm (kids++(sY++(oS++cx))):=by
     have:=ot.append_right cx
     simpa[eL] using this
   refine (List.Perm.append_left dK aA).trans ?_
   have aE:=(JC (l₁:=dK) (l₂:=kids)).append_right (sY++(oS++cx))
   simpa[eL] using aE
 · show bM.keys.length≤(bM.keys.take (i-1)++ks++bM.keys.drop i).length+1
   simp only[dU,d_,fG]
   omega
end Go.Proofs.YtplieiecebljmaaGreat
namespace Go.Proofs.YtplieiecebljmaaGreat
variable {lo hi:Option Key} {P Q:Nat→Option aM}
theorem aif {h:Nat} {bM fb:aM} {g7 fm:Option Key} {i:Nat} {cq cx oS:List Nat} {bX pE cf:List bl} {k:Key} (b7:bM.leaf=false) (lg:∀k∈bM.keys,eM k) (pF:∀x∈bM.kids,x<1600) (hlen:bM.kids.length=bM.keys.length+1) (gA:∀x n,P x=some n→cr n≤232)
   (ou:i+1<bM.kids.length) (fo:kN g7 fm k)
   (aZ:k2 (kO P (h+1)) lo g7 (bM.keys.take i) (bM.kids.take i) cq bX) (bQ:nr (kO P (h+1)) hi fm (bM.keys.drop i) (bM.kids.drop (i+1)) cx cf) (ak:fK P (h+1) fb g7 fm oS pE) (U:cr fb<80):
   ∃ (o:aM) (Hb:List Nat) (ab:i+1<bM.kids.length) (gT:i<bM.keys.length),P bM.kids[i+1]=some o∧cx.Perm (bM.kids[i+1]::Hb)∧2≤o.keys.length∧
     ∀ (Q:Nat→Option aM) (ks:List Key) (kids:List Nat),z_ Q (g8 fb bM.keys[i] o) ks kids→(∀x∈cq++(oS++Hb),P x=Q x)→(∀x∈kids,x<1600)→
       ∃e0,fK Q (h+2) (mq bM i (i+2) ks kids) lo hi e0 (bX++(pE++cf))∧e0.Perm (kids++(cq++(oS++Hb)))∧cr (mq bM i (i+2) ks kids)≤cr bM+27∧bM.keys.length≤(mq bM i (i+2) ks kids).keys.length+1:=by
 obtain ⟨s,fv,r,iK,N,aig,aj,rfl,sf,rfl,rfl,⟨hw,m,hm,kR⟩,JP⟩:=bQ.head (by rw[fG];omega)
 have sf:s=bM.keys[i]'(by omega):=by rw[sf,JE];rfl
 have ES:(bM.kids.drop (i+1))[0]'(by rw[fG];omega)=bM.kids[i+1]'ou:=by rw[JE]
 rw[ES] at hw hm
 obtain ⟨o,sY,lh,rfl,_,qe⟩:=hw.wG
 rw[lh] at hm
 have kR:2≤o.keys.length:=by rw[Option.some.inj hm];exact kR
 clear hm
 subst sf
 have kh:=(show kO P (h+1) (some (bM.keys[i]'(by omega))) fv (bM.kids[i+1]'ou) (bM.kids[i+1]'ou::sY) N from ⟨hw,o,lh,kR⟩).in
 obtain ⟨x,af⟩:=Jz _ kh.1
 have sg:=lg _ (fg (l:=bM.keys) (n:=i) (by omega))
 have Cn:=fK.merge ak qe sg (fun c al=>qD (tU (fo.1 c al) (fo.2 _ rfl))) (fun c al=>qD (tU ((kh.2.2 x af).1 _ rfl) ((kh.2.2 x af).2 c al)))
 have dR:=NM ak qe sg (by have:=gA _ _ lh;omega)
 have Ha:=NL (a:=fb) (b:=o) (s:=bM.keys[i]'(by omega))
 refine ⟨o,sY++iK,ou,by omega,lh,List.Perm.refl _,kR,fun Q ks kids aH J ry=> ?_⟩
 obtain ⟨iB,RY,ot,jd,rz⟩:=Cn.fits (by omega) dR.1 dR.2 aH fun x af=>J x (by
   rcases e8.1 af with af|af
   · exact qc _ (tP _ af)
   · exact qc _ (qc _ (tP _ af)))
 rw[JB,JB] at JP
 have ab:=fK.build aZ JP RY (fun x af=>J x (by
     rcases e8.1 af with af|af
     · exact tP _ af
     · exact qc _ (qc _ (qc _ af))))
   (fun s aj=>by
     rcases e8.1 aj with aj|aj
     · rcases e8.1 aj with aj|aj
       · exact lg s (kM aj)
       · exact jd s aj
     · exact lg s (kx aj))
   (fun x af=>by
     rcases e8.1 af with af|af
     · rcases e8.1 af with af|af
       · exact pF x (kM af)
       · exact ry x af
     · exact pF x (kx af))
 have e:mq bM i (i+2) ks kids=⟨false,bM.keys.take i++ks++bM.keys.drop (i+1),[],bM.kids.take i++kids++bM.kids.drop (i+1+1)⟩:=rfl
 rw[e]
 refine ⟨_,by simpa[eL] using ab,?_,RX b7 rz jd (by omega),?_⟩
 · have aA:(iB++iK).Perm (kids++(oS++(sY++iK))):=by
     have:=ot.append_right iK
     simpa[eL] using this
   refine (List.Perm.append_left cq aA).trans ?_
   have aE:=(JC (l₁:=cq) (l₂:=kids)).append_right (oS++(sY++iK))
   simpa[eL] using aE
 · show bM.keys.length≤(bM.keys.take i++ks++bM.keys.drop (i+1)).length+1
   simp only[dU,d_,fG]
   omega
end Go.Proofs.YtplieiecebljmaaGreat
namespace Go.Proofs.YtplieiecebljmaaGreat
variable {lo hi:Option Key} {P:Nat→Option aM}
def ey (ks:List Key) (k:Key):Nat:=ks.findIdx fun s=>decide (¬cw s k)
theorem Hc (ks:List Key) (k:Key):ey ks k≤ks.length:=List.findIdx_le_length
theorem ET {ks:List Key} {k:Key} {j:Nat} (h:j<ey ks k) (a_:j<ks.length):cw ks[j] k:=by
 have:=List.not_of_lt_findIdx h
 simpa using this
theorem Hd {ks:List Key} {k:Key} (aj:ks.Pairwise cw) {j:Nat} (h:ey ks k≤j) (a_:j<ks.length):h6 k ks[j]:=by
 have U:ey ks k<ks.length:=by omega
 have ad:h6 k ks[ey ks k]:=by
   have:=List.findIdx_getElem (p:=fun s=>decide (¬cw s k)) (xs:=ks) (w:=U)
   exact Yg.1 (dD this)
 rcases g6 (ey ks k) j with au|au
 · exact qD (tU ad (GX.1 aj _ _ U a_ au))
 · have:ey ks k=j:=by omega
   subst this;exact ad
theorem aih {α:Type} {f:α→Bool} {L:List α} {i:Nat} (U:∀x∈L.take i,f x=true) (ad:∀x∈L.drop i,f x=false):L.filter f=L.take i:=by
 conv=>lhs;rw[←qd i L]
 rw[Ca,u6.2 U,EB.2 (fun x af=>by rw[ad x af];decide),mn]
theorem Yo {α:Type} {f:α→Bool} {L:List α} {i:Nat} (U:∀x∈L.take i,f x=false) (ad:∀x∈L.drop i,f x=true):L.filter f=L.drop i:=by
 conv=>lhs;rw[←qd i L]
 rw[Ca,EB.2 (fun x af=>by rw[U x af];decide),u6.2 ad,rq]
theorem RZ {ks vs:List Key} {i:Nat} {x:bl} (h:x∈(ks.zip vs).take i):∃ (j:Nat) (a_:j<ks.length),j<i∧x.1=ks[j]:=by
 obtain ⟨j,a_,rfl⟩:=List.mem_take_iff_getElem.1 h
 have U:j<(ks.zip vs).length:=by omega
 rw[Cc] at U
 exact ⟨j,by omega,by omega,by rw[Nr]⟩
theorem R0 {ks vs:List Key} {i:Nat} {x:bl} (h:x∈(ks.zip vs).drop i):∃ (j:Nat) (a_:j<ks.length),i≤j∧x.1=ks[j]:=by
 obtain ⟨j,a_,rfl⟩:=List.mem_drop_iff_getElem.1 h
 have U:i+j<(ks.zip vs).length:=by omega
 rw[Cc] at U
 exact ⟨i+j,by omega,by omega,by rw[Nr]⟩
theorem aii {ks vs:List Key} {k v:Key} (aj:ks.Pairwise cw):ke (ks.zip vs) k v=(ks.zip vs).take (ey ks k)++(k,v)::(ks.zip vs).drop (if ks[ey ks k]? =some k then ey ks k+1 else ey ks k):=by
 unfold ke
 rw[aih (f:=fun p:bl=>decide (cw p.1 k)) (i:=ey ks k) (fun x af=>by
     obtain ⟨j,a_,U,e⟩:=RZ af
     rw[e];exact iy (ET U a_)) (fun x af=>by
     obtain ⟨j,a_,U,e⟩:=R0 af
     rw[e];exact sW (Hd aj U a_))]
 congr 2
 split
 · rename_i he
   obtain ⟨bd,he⟩:=qA.1 he
   refine Yo (fun x af=> ?_) (fun x af=> ?_)
   · obtain ⟨j,a_,U,e⟩:=RZ af
     rw[e]
     refine sW ?_
     rcases g6 j (ey ks k) with ad|ad
     · exact z7 (ET ad a_)
     · have:j=ey ks k:=by omega
       subst this;rw[he];exact z6 _
   · obtain ⟨j,a_,U,e⟩:=R0 af
     rw[e]
     refine iy ?_
     have:=GX.1 aj _ j bd a_ (by omega)
     rwa[he] at this
 · rename_i he
   refine Yo (fun x af=> ?_) (fun x af=> ?_)
   · obtain ⟨j,a_,U,e⟩:=RZ af
     rw[e]
     exact sW (z7 (ET U a_))
   · obtain ⟨j,a_,U,e⟩:=R0 af
     rw[e]
     refine iy ?_
     rcases EM.1 (Hd aj U a_) with ad|ad
     · exact ad
     · have bd:ey ks k<ks.length:=by omega
       rcases g6 (ey ks k) j with au|au
       · exact tU (Hd aj (cV _) bd) (GX.1 aj _ _ bd a_ au)
       · have:j=ey ks k:=by omega
         subst this
         exact absurd ((gF bd).trans (congrArg some ad.symm)) he
end Go.Proofs.YtplieiecebljmaaGreat
namespace Go.Proofs.YtplieiecebljmaaGreat
open Go b_
section
theorem NN {n:Nat} (h:n<256):((UInt8.ofNat n).toNat:Nat)=n:=by
 simp[u9 h]
end
section
theorem Yp {src dst:TypeId} {w:World} {s:aa} {pG:List Int} (aj:Tryz.prog.underlying src=some (.slice ah.uint8)) (hd:Tryz.prog.underlying dst=some .string) (h:Src 1 w s (pG.map (.int .u8))):
   Sem.run Tryz.prog (convert src dst (.slice s.a s.len s.cap)) w= .ok (.string (S (pG.map fun n=>UInt8.ofNat n.toNat))) w:=by
 rw[aij aj (by kernel_rfl) hd h,aik]
end
section
theorem R1 {w:World} {A:Addr}:∀ (vs:List Value) (i:Nat),(∀j v,vs[j]? =some v→w.cell? (A.add (i+j))=some v)→eN w A i vs.length=some vs
 | [],_,_=>rfl
 |v::vs,i,h=>by
   have b7:=h 0 v rfl
   have du:=R1 vs (i+1) (fun j u a_=>by rw[show i+1+j=i+(j+1) by omega];exact h (j+1) u (by simpa using a_))
   rw[zV] at b7
   simp[eN,b7,du]
def bn (l:List UInt8):List Value:=l.map fun b=>Value.int .u8 ((b.toNat:Nat):Int)
theorem kz (l:List UInt8):(bn l).length=l.length:=by simp[bn]
theorem He {l:List UInt8} {i:Nat} (h:i<l.length):(bn l)[i]? =some (.int .u8 ((l[i].toNat:Nat):Int)):=by simp[bn,h]
end
section
theorem ail (c:UInt8):(((c.toNat:Nat):Int).toNat.toUInt8)=c:=by simp
end
section
theorem yl (l:List UInt8):∀v∈bn l,Plain v:=by
 intro v ak
 obtain ⟨n,_,rfl⟩:=nq.1 ak
 trivial
theorem EU (a b:List UInt8):bn (a++b)=bn a++bn b:=by simp[bn]
theorem take_succ {α:Type} (ls:List α) {i:Nat} (h:i<ls.length):ls.take (i+1)=ls.take i++ [ls[i]]:=by
 rw[qz h]
end
section
structure Yq where
 avv:Bool
 b:List UInt8
 h:b.length=16
 deriving DecidableEq
def Var (w:World) (b:Nat) (vs:List Value) (T:TypeId):Prop:=ct w b vs.toArray T
section
variable {w w':World} {b:Nat} {vs us:List Value} {T:TypeId}
theorem Var.new (w:World) (vs:List Value) (T:TypeId):Var (w.alloc (.cells vs.toArray T)) w.heap.size vs T:=ct.new _ _ _
theorem Var.rd (h:Var w b vs T) {n:Nat} (aD:vs.length=n):eN w ⟨b,0,none⟩ 0 n=some vs:=by
 have:=Hf h n 0 0 (by simp[aD])
 rw[this]
 simp[←aD]
theorem Var.aim (h:Var w b vs T) {o n:Nat} (aD:o+n≤vs.length):eN w ⟨b,o,none⟩ 0 n=some ((vs.drop o).take n):=by
 have:=Hf h n o 0 (by simpa using aD)
 rw[this]
 simp
theorem Var.cell (h:Var w b vs T) {i:Nat}:w.cell? ⟨b,i,none⟩=vs[i]? :=by
 rw[ct.cell h];simp
theorem Var.ext (h:Var w b vs T) (af:Ext w w'):Var w' b vs T:=ct.ext h af
theorem Var.an {W:Nat→Prop} (h:Var w b vs T) (af:ao W w w') (ab:¬W b):Var w' b vs T:=ct.an h af ab
theorem Var.drew (h:Var w b vs T):Var w.drew b vs T:=ct.drew h
theorem Var.lt (h:Var w b vs T):b<w.heap.size:=ct.lt h
theorem Var.dA (h:Var w b vs T) (aD:us.length=vs.length) (aZ:∀v∈us,Plain v):cZ w ⟨b,0,none⟩ us:=ct.dA h 0 us (by simp[aD]) aZ
theorem Var.put (h:Var w b vs T) (aD:us.length=vs.length):Var (setCells w ⟨b,0,none⟩ 0 us) b us T:=by
 have:=ct.NO us 0 0 h
 simp only[zV] at this
 have e:(oT vs.toArray 0 us)=us.toArray:=by
   have U:=NP us vs.toArray 0 (by simp[aD])
   rw[gz,aD,List.take_zero,rq,gX (by rw[Array.length_toList,rA];simp)] at U
   apply Array.toList_inj.1
   rw[U]
 rwa[e] at this
end
theorem bL {w:World} {K:World→Prop} (h:K w):ay w K:=h
theorem cn {w:World} {c:Array Value} {vs:List Value} {T:TypeId} (al:c=vs.toArray) {K:World→Prop} (h:∀w',Var w' w.heap.size vs T→Ext w w'→w'.heap.size=w.heap.size+1→K w'):ay (w.alloc (.cells c T)) K:=by
 subst al
 exact h _ (Var.new _ _ _) (ao.alloc (.refl _ _) _) (by simp)
theorem ek {w:World} {b:Nat} {vs us l:List Value} {T:TypeId} (ak:Var w b vs T) (aD:us.length=vs.length) (az:l=us) {K:World→Prop} (h:∀w',Var w' b us T→ao (fun q=>q=b) w w'→w'.heap.size=w.heap.size→K w'):ay (setCells w ⟨b,0,none⟩ 0 l) K:=by
 subst az
 refine h _ (ak.put aD) (ao.Aa (.refl _ _) l 0) ?_
 have:∀ (vs:List Value) (i:Nat) (w:World),(setCells w ⟨b,0,none⟩ i vs).heap.size=w.heap.size:=by
   intro vs
   induction vs with
   |nil=>intro i w;rfl
   |cons v vs du=>intro i w;rw[setCells,du];simp[World.setCell]
 exact this _ _ _
theorem Ext.eX {bO w w':World} {b:Nat} (h:Ext bO w) (al:ao (fun q=>q=b) w w') (ab:bO.heap.size≤b):Ext bO w':=Ext.gN h al (fun k ae=>by subst ae;exact ab)
theorem Var.ain {w:World} {b o n c:Nat} {vs:List Value} {T:TypeId} {l:List UInt8} (h:Var w b vs T) (aD:o+n≤vs.length) (az:(vs.drop o).take n=bn l):Src 1 w ⟨some ⟨b,o,none⟩,n,c⟩ (bn l):=by
 have hlen:n=l.length:=by
   have:=congrArg List.length az
   rw[d_,fG,kz] at this
   omega
 refine ⟨by rw[kz];show _=n*1;omega,(fun h=>by cases h),fun a aR=> ?_⟩
 cases aR
 show eN w ⟨b,o,none⟩ 0 (n*1)=_
 rw[lU,h.aim aD,az]
theorem EV:qf Tryz.prog ah.cm ah.uint8 1 1:=⟨by kernel_rfl⟩
theorem aio {Ab ez ty:TypeId} {w:World} {b o dl EW:Nat} {s:aa} {l:List UInt8} (hu:Tryz.prog.underlying Ab=some (.slice ah.uint8)) (aj:Src 1 w s (bn l)) (hle:s.len≤dl) (g9:cZ w ⟨b,o,none⟩ (bn l)):
   Sem.run Tryz.prog (Builtin.copy_ #[Ab,ez] ty #[.slice (some ⟨b,o,none⟩) dl EW, .slice s.a s.len s.cap]) w= .ok (.int .i64 ((s.len:Nat):Int)) (setCells w ⟨b,o,none⟩ 0 (bn l)):=by
 have aip:Nat.min s.len dl=s.len:=r_ hle
 have bN:=qI (P:=Tryz.prog) (w:=w) (t:=ah.uint8) (d:= .int .u8) (by kernel_rfl)
 have al:Tryz.prog.cellsOf ah.uint8=1:=by kernel_rfl
 rw[al] at bN
 have aH:=Hg (P:=Tryz.prog) aj
 have Co:=Hh (P:=Tryz.prog) (A:=⟨b,o,none⟩) (bn l) 0 w (by simpa using g9.1) g9.2
 simp[Builtin.copy_,gj hu,Builtin.lenOf,bN,aip,aH,Co]
 rfl
end
section
def cp (c k:Nat):Nat:=c/2^(8-k)*2^(8-k)
def yk (n i:Nat):Nat:=min (n-8*i) 8
end
section
theorem Src.sub {w:World} {s:aa} {vs:List Value} {lo hi:Nat} (h:Src 1 w s vs) (al:s.len≤s.cap) (U:lo≤hi) (ad:hi≤s.len):Src 1 w ⟨bg s.a 1 lo s.cap,hi-lo,s.cap-lo⟩ ((vs.drop lo).take (hi-lo)):=by
 have az:vs.length=s.len:=by have:=h.len;omega
 refine ⟨by simp;omega,fun aD=> ?_,fun a aR=> ?_⟩
 · have sh:s.a=none:=by
     unfold bg at aD
     split at aD
     · exact aD
     · simpa using aD
   simp[h.nil sh]
 · show eN w a 0 ((hi-lo)*1)=_
   by_cases e:hi=lo
   · rw[show hi-lo=0 by omega];simp[eN]
   · have ax:∃A,s.a=some A∧a=A.add lo:=by
       unfold bg at aR
       rw[if_neg (by omega)] at aR
       cases aj:s.a with
       |none=>rw[aj] at aR;cases aR
       |some A=>rw[aj] at aR;exact ⟨A,rfl,by simpa using aR.symm⟩
     obtain ⟨A,ax,rfl⟩:=ax
     have aN:=h.rd A ax
     have:=R1 (w:=w) (A:=A.add lo) ((vs.drop lo).take (hi-lo)) 0 (fun j v a_=>by
       rw[add_add]
       have EX:j<hi-lo:=by have:=(qA.1 a_).1;simp at this;omega
       rw[List.getElem?_take_of_lt EX,Ns] at a_
       have:=Hi aN a_
       simpa using this)
     have bo:((vs.drop lo).take (hi-lo)).length=hi-lo:=by simp;omega
     rw[bo] at this
     rw[lU]
     exact this
def rB (l:List UInt8):Nat:=l.foldl (fun n c=>n*256+c.toNat) 0
theorem aiq (l m:List UInt8):rB (l++m)=m.foldl (fun n c=>n*256+c.toNat) (rB l):=by simp[rB,List.foldl_append]
theorem R2 (l:List UInt8) (c:UInt8):rB (l++ [c])=rB l*256+c.toNat:=by rw[aiq];rfl
theorem JQ:∀ (k:Nat) (l:List UInt8),l.length=k→rB l<256^k:=by
 intro k
 induction k with
 |zero=>intro l h;rw[yf.1 h];simp[rB]
 |succ k du=>
   intro l h
   obtain ⟨m,c,rfl⟩:∃m c,l=m++ [c]:=by
     rcases List.eq_nil_or_concat l with rfl|⟨m,c,hm⟩
     · simp at h
     · exact ⟨m,c,by rw[hm,List.concat_eq_append]⟩
   rw[R2,Nat.pow_succ]
   have:=du m (by simpa using h)
   have:=GY c
   omega
theorem air {a b:Nat} (aR:a<2^64) (ab:b<2^64):Cp .u64 (a:Int) (b:Int)=((a|||b:Nat):Int):=by
 have aY:BitVec.ofInt 64 (a:Int)=BitVec.ofNat 64 a:=by simp
 have bo:BitVec.ofInt 64 (b:Int)=BitVec.ofNat 64 b:=by simp
 unfold Cp
 show IntKind.u64.wrap (((BitVec.ofInt 64 (a:Int)|||BitVec.ofInt 64 (b:Int)).toNat:Nat):Int)=_
 rw[aY,bo,BitVec.toNat_or,BitVec.toNat_ofNat,BitVec.toNat_ofNat,u9 aR,u9 ab]
 have:a|||b<2^64:=Nat.or_lt_two_pow aR ab
 have:a|||b<18446744073709551616:=this
 rw[wK (by omega) (by omega)]
theorem ais (n c:Nat) (al:c<256):n*256|||c=n*256+c:=by
 have:=Nat.shiftLeft_add_eq_or_of_lt (i:=8) (b:=c) (by simpa using al) n
 rw[Nat.shiftLeft_eq] at this
 exact this.symm
theorem s0 {s:aa} {l:List UInt8} {w:World} (aj:Src 1 w s (bn l)) (al:s.len≤s.cap) {a k:Nat} (ae:1≤k∧k≤8) (aR:a+k≤l.length) (az:l.length≤1000000000000):
   aQ Tryz.prog F.s0 #[.slice s.a s.len s.cap, .int .i64 a, .int .i64 k] w (fun v w'=>v= .tuple #[.int .u64 ((rB ((l.drop a).take k):Nat):Int), .bool true]∧w=w'):=by
 refine W.Yr s a k w _ ?_
 (delta W.s0 EY aB ba a7 h8 aC;dsimp only)
 have gw:s.len=l.length:=by have:=aj.len;rw[kz] at this;omega
 refine Calls.mono (W.R3 s a k w (fun v w'=>v= .tuple #[.slice (bg s.a 1 a s.cap) k (s.cap-a), .bool true]∧w=w') ?_) ?_
 · delta W.ve aB aC
   rw[cz (n:=((s.len:Nat):Int)-(a:Int)) (by omega) (by omega),cz (n:=(a:Int)+(k:Int)) (by omega) (by omega)]
   refine ⟨fun h=> ?_,fun _=>⟨⟨by omega,by omega⟩,⟨by omega,by omega⟩,?_,rfl⟩⟩
   · simp only[u_,fu] at h;omega
   · rw[show Int.toNat ((a:Int)+(k:Int))-Int.toNat (a:Int)=k by omega];rfl
 rintro _ _ ⟨_,rfl,rfl,rfl⟩
 refine ⟨⟨bg s.a 1 a s.cap,k,s.cap-a⟩,true,rfl,eA (fun b w'=>b=false∧w=w') (fun q J=>⟨fun h=>by simp at h,fun _=> ?_⟩) ?_⟩
 · refine Calls.mono (W.Ys k w (fun v w'=>v= .bool true∧w=w') ⟨?_,rfl⟩) ?_
   · have U:decide ((k:Int)≥1)=true:=iy (by omega)
     have ad:decide ((k:Int)≤8)=true:=iy (by omega)
     rw[U,ad];rfl
   · rintro _ _ ⟨_,rfl,rfl,rfl⟩
     exact ⟨_,rfl,J _ _ ⟨rfl,rfl⟩⟩
 rintro _ _ ⟨rfl,rfl⟩
 have ic:=Src.sub aj al (lo:=a) (hi:=a+k) (by omega) (by omega)
 rw[show a+k-a=k by omega] at ic
 have ic:Src 1 w ⟨bg s.a 1 a s.cap,k,s.cap-a⟩ (bn ((l.drop a).take k)):=by
   simpa[bn,GU,EE] using ic
 obtain ⟨m,hm⟩:∃m,m=(l.drop a).take k:=⟨_,rfl⟩
 have pd:m.length=k:=by rw[hm];simp;omega
 rw[←hm] at ic⊢
 refine ⟨fun h=>by simp at h,fun _=>⟨fun n i w'=>w=w'∧∃j:Nat,i=j∧j≤k∧n=((rB (m.take j):Nat):Int),fun _ i _=>((k:Int)-i).toNat,⟨rfl,0,rfl,fl _,rfl⟩,?_⟩⟩
 rintro _ _ _ ⟨rfl,j,rfl,a_,rfl⟩
 refine ⟨fun bd=> ?_,fun cg=> ?_⟩
 · have bd:((j:Int)<((k:Nat):Int)):=dD bd
   have bd:j<k:=by omega
   obtain ⟨A,ax,ab,kS⟩:=ic.at (He (l:=m) (i:=j) (by omega))
   have U:=JQ j (m.take j) (by simp;omega)
   have ad:256^j≤256^7:=Nt (by omega) (by omega)
   have ad:256^j≤72057594037927936:=ad
   have ait:(m[j]).toNat<256:=GY _
   have aY:((rB (m.take j):Nat):Int)*2^(min (Int.toNat 8) 64)=((rB (m.take j)*256:Nat):Int):=by
     show ((rB (m.take j):Nat):Int)*256=_;omega
   refine ⟨A,ax,ab,_,kS,by decide,?_⟩
   rw[aY,wK (n:=((rB (m.take j)*256:Nat):Int)) (by omega) (by omega),wK (n:=((m[j].toNat:Nat):Int)) (by omega) (by omega),air (by show _<18446744073709551616;omega) (by show _<18446744073709551616;omega),ais _ _ ait,cz (n:=(j:Int)+1) (by omega) (by omega)]
   refine ⟨⟨rfl,j+1,by omega,by omega,?_⟩,?_⟩
   · rw[take_succ m (by omega),R2]
   · show ((k:Int)-((j:Int)+1)).toNat<((k:Int)-(j:Int)).toNat
     omega
 · have cg:¬((j:Int)<((k:Nat):Int)):=eW cg
   have cg:j=k:=by omega
   subst cg
   exact ⟨by rw[gX (by omega)],rfl⟩
end
section
theorem R4 {w:World} {s:aa} {l:List UInt8} (h:Src 1 w s (bn l)) (az:l.length≤1000000):
   aQ Tryz.prog F.mu #[.slice s.a s.len s.cap] w (fun v w'=>∃ar:aa,v= .slice ar.a ar.len ar.cap∧bV 1 ah.uint8 w' ar (bn l)∧Ext w w'∧∀k,aO ar k→w.heap.size≤k):=by
 have gw:s.len=l.length:=by have:=h.len;rw[kz] at this;omega
 refine W.aiu s w _ ?_
 delta W.mu aB ai
 refine ⟨fun aR=> ?_,fun _=> ?_⟩
 · have aR:s.a=none:=by simpa using aR
   rw[h.nil aR]
   exact ⟨⟨none,0,0⟩,rfl,bV.none _ _ _, .refl _ _,fun k ae=>(qJ k ae).elim⟩
 · obtain ⟨ar,w',U,ad,au,aJ,a6,_⟩:=EV.clone (eB:=ah.cm) h (yl l) (by omega)
   exact bL ⟨ar,w',U,ar,rfl,ad,aJ,a6⟩
theorem aiv {w:World} {s:aa} {l:List UInt8} (c:UInt8) (bQ:bV 1 ah.uint8 w s (bn l)) (aD:l.length≤1000000):
   ∃ (ar:aa) (w':World),Sem.run Tryz.prog (Builtin.append_ #[ah.cm,ah.cm] ah.cm #[.slice s.a s.len s.cap, .slice (some ⟨w.heap.size,0,none⟩) 1 1]) (w.alloc (.cells #[.int .u8 ((c.toNat:Nat):Int)] ah.uint8))= .ok (.slice ar.a ar.len ar.cap) w'∧
     bV 1 ah.uint8 w' ar (bn (l++ [c]))∧ao (aO s) w w'∧(∀k,aO ar k→aO s k∨w.heap.size≤k):=by
 have gw:s.len=l.length:=by have:=bQ.1;rw[kz] at this;omega
 obtain ⟨ar,w',U,ad,au,aJ,a6⟩:=EV.push (eB:=ah.cm) (w:=w) (s:=s) (xs:=[.int .u8 ((c.toNat:Nat):Int)]) rfl bQ (fun v ak=>by rw[lV.1 ak];trivial) (by omega)
 exact ⟨ar,w',U,by rw[EU];exact ad,aJ,a6⟩
def gB (n k:Nat):List UInt8:=(List.range k).map fun j=>UInt8.ofNat (n/256^(k-1-j)%256)
theorem ov (n k:Nat):(gB n k).length=k:=by simp[gB]
theorem pe {s:aa} {l:List UInt8} {w:World} (aj:Src 1 w s (bn l)) (az:l.length≤100000) {n k:Nat} (aD:n<2^64) (ae:1≤k∧k≤8):
   aQ Tryz.prog F.pe #[.slice s.a s.len s.cap, .int .u64 n, .int .i64 k] w (fun v w'=>∃ar:aa,v= .slice ar.a ar.len ar.cap∧bV 1 ah.uint8 w' ar (bn (l++gB n k))∧Ext w w'∧∀q,aO ar q→w.heap.size≤q):=by
 have aD:n<18446744073709551616:=aD
 refine W.aiw s n k w _ ?_
 (delta W.pe ee ba aB aC ai;dsimp only)
 refine (R4 aj (by omega)).use ?_
 rintro _ ag ⟨s1,rfl,lh,bD,pH⟩
 refine ⟨s1,rfl,Calls.mono (W.Ys k ag (fun v w'=>v= .bool true∧ag=w') ⟨?_,rfl⟩) ?_⟩
 · have U:decide ((k:Int)≥1)=true:=iy (by omega)
   have ad:decide ((k:Int)≤8)=true:=iy (by omega)
   rw[U,ad];rfl
 rintro _ _ ⟨_,rfl,rfl,rfl⟩
 rw[cz (n:=(k:Int)-1) (by omega) (by omega)]
 refine ⟨_,rfl,fun h=>by simp at h,fun _=>⟨fun t i w'=>∃j:Nat,i=(k:Int)-1-j∧j≤k∧Ext w w'∧(∀q,aO t q→w.heap.size≤q)∧bV 1 ah.uint8 w' t (bn (l++(gB n k).take j)),fun _ i _=>(i+1).toNat,⟨0,by omega,by omega,bD,pH,by simpa using lh⟩,?_⟩⟩
 rintro t _ aw ⟨j,rfl,a_,cA,pI,vf⟩
 refine ⟨fun bd=> ?_,fun cg=> ?_⟩
 · have bd:j<k:=by have:=dD bd;omega
   rw[cz (n:=8*((k:Int)-1-j)) (by omega) (by omega),cz (n:=(k:Int)-1-j-1) (by omega) (by omega)]
   have ak:IntKind.wrap .u8 (Int.fdiv (n:Int) (2^(min (Int.toNat (8*((k:Int)-1-j))) 64)))=((((UInt8.ofNat (n/256^(k-1-j)%256)).toNat:Nat)):Int):=by
     rw[NN (sX _ (by omega)),show min (Int.toNat (8*((k:Int)-1-j))) 64=8*(k-1-j) by omega,aix]
     have aY:((2:Int)^(8*(k-1-j)))=((256^(k-1-j):Nat):Int):=by
       rw[Int.pow_mul]
       simp
     rw[aY,Int.fdiv_eq_ediv_of_nonneg _ (Int.natCast_nonneg _)]
     generalize 256^(k-1-j)=z
     rfl
   rw[ak]
   obtain ⟨bY,aS,U,ad,au,aJ⟩:=aiv (UInt8.ofNat (n/256^(k-1-j)%256)) vf (by simp[gB];omega)
   refine ⟨by omega,bL ⟨bY,aS,U,⟨j+1,by omega,by omega,Ext.gN cA au pI,fun q J=> ?_,?_⟩,?_⟩⟩
   · rcases aJ q J with h|h
     · exact pI q h
     · exact jb cA.size h
   · rw[take_succ _ (by rw[ov];exact bd),←eL]
     have:(gB n k)[j]'(by rw[ov];exact bd)=UInt8.ofNat (n/256^(k-1-j)%256):=by simp[gB]
     rw[this];exact ad
   · show ((k:Int)-1-j-1+1).toNat<((k:Int)-1-j+1).toNat
     omega
 · have cg:j=k:=by have:=eW cg;omega
   subst cg
   rw[gX (by rw[ov];exact cV _)] at vf
   exact ⟨t,rfl,vf,cA,pI⟩
end
section
theorem aiy (n k:Nat):gB n (k+1)=gB (n/256) k++ [UInt8.ofNat (n%256)]:=by
 unfold gB
 rw[List.range_succ,om]
 congr 1
 · apply List.map_congr_left
   intro j a_
   have:=wD.1 a_
   rw[show k+1-1-j=(k-1-j)+1 by omega,Nat.pow_succ,Nat.mul_comm,←Nat.div_div_eq_div_mul]
 · simp
theorem R5:∀ (k n:Nat),n<256^k→rB (gB n k)=n
 |0,n,h=>by
   have:n=0:=by simpa using h
   subst this;rfl
 |k+1,n,h=>by
   rw[Nat.pow_succ] at h
   rw[aiy,R2,R5 k (n/256) (by omega),NN (sX _ (by omega))]
   omega
def ef (n:aM):Prop:=oq n∨NF n
def Cq (l:Key):List UInt8:=UInt8.ofNat l.length::l
def ow (n:aM) (i:Nat):List UInt8:=Cq (n.keys.getD i [])++if n.leaf then Cq (n.vals.getD i []) else gB (n.kids.getD (i+1) 0) 2
def pJ (n:aM) (i m:Nat):List UInt8:=((List.range' i m).map (ow n)).flatten
theorem aiz (n:aM) (i m:Nat):pJ n i (m+1)=ow n i++pJ n (i+1) m:=rfl
theorem R6 (n:aM) (m:Nat):pJ n 0 (m+1)=pJ n 0 m++ow n m:=by
 unfold pJ
 rw[List.range'_concat,om,Nu]
 simp
def preB (n:aM):List UInt8:=UInt8.ofNat n.keys.length::if n.leaf then [] else gB (n.kids.getD 0 0) 2
def si (n:aM):List UInt8:=preB n++pJ n 0 n.keys.length
theorem Cr (l:Key):(Cq l).length=l.length+1:=rfl
theorem ef.keys {n:aM} (h:ef n):ND n:=by
 rcases h with h|h
 · exact h.toND
 · exact h.toND
theorem ef.vals {n:aM} (h:ef n):∀v∈n.vals,v.length≤24:=by
 rcases h with h|h
 · exact h.vals
 · rw[h.vals];simp
theorem ef.kids {n:aM} (h:ef n):∀k∈n.kids,k<1600:=by
 rcases h with h|h
 · rw[h.kids];simp
 · exact h.kids
theorem NQ {α:Type} {l:List α} {i:Nat} {d:α} (h:i<l.length):l.getD i d∈l:=by
 rw[pD,gF h]
 exact fg h
theorem R7 {n:aM} (h:ef n) {i:Nat} (hi:i<n.keys.length):(cellsOf n)[i]? =some (ow n i).length:=by
 unfold cellsOf ow
 rcases h with h|h
 · rw[h.leaf]
   simp only[if_true]
   have ak:i<n.vals.length:=by rw[h.len];exact hi
   rw[List.getElem?_zipWith,gF hi,gF ak]
   simp[pD,gF hi,gF ak,Cr]
   omega
 · rw[h.inner]
   simp only[oh,if_false]
   rw[JF,gF hi]
   simp[pD,gF hi,Cr,ov]
   omega
theorem Hj {n:aM} (h:ef n):(cellsOf n).length=n.keys.length:=by
 unfold cellsOf
 rcases h with h|h
 · rw[h.leaf];simp[h.len]
 · rw[h.inner];simp
theorem R8 {n:aM} (h:ef n):∀m,m≤n.keys.length→(pJ n 0 m).length=((cellsOf n).take m).sum
 |0,_=>by simp[pJ]
 |m+1,hm=>by
   have az:m<(cellsOf n).length:=by rw[Hj h];omega
   have U:=R7 h (i:=m) (by omega)
   rw[gF az] at U
   have U:(cellsOf n)[m]=(ow n m).length:=Option.some.inj U
   rw[R6,dU,R8 h m (by omega),G8 az,U]
theorem R9 {n:aM} (h:ef n):(si n).length=cr n:=by
 have e:((cellsOf n).take n.keys.length).sum=(cellsOf n).sum:=by rw[gX (by rw[Hj h];exact cV _)]
 unfold si cr preB
 rw[dU,R8 h _ (cV _),e]
 cases n.leaf<;>simp[ov]
theorem NR {n:aM} (h:ef n):2*n.keys.length≤cr n:=by
 have U:∀l:List Nat,(∀x∈l,2≤x)→2*l.length≤l.sum:=by
   intro l
   induction l with
   |nil=>simp
   |cons a l du=>
     intro h
     have:=h a (by simp)
     have:=du fun x af=>h x (by simp[af])
     simp only[ld,JA];omega
 have ad:=U (cellsOf n) (by
   intro x af
   obtain ⟨i,hi,rfl⟩:=m3 af
   have fm:i<n.keys.length:=by rwa[←Hj h]
   have au:=R7 h fm
   rw[gF hi] at au
   rw[Option.some.inj au]
   unfold ow
   rw[dU,Cr]
   split
   · rw[Cr];omega
   · rw[ov];omega)
 rw[Hj h] at ad
 unfold cr
 omega
abbrev Rd:=List UInt8×Bool
def pK (r:Rd) (k:Nat):List UInt8×Rd:=if r.2=false∨r.1.length<k then ([],(r.1,false)) else (r.1.take k,(r.1.drop k,true))
def rdNum (r:Rd) (k:Nat):Nat×Rd:=(if (pK r k).1.length=k then rB (pK r k).1 else 0,(pK r k).2)
def s3 (r:Rd):List UInt8×Rd:=pK (rdNum r 1).2 (rdNum r 1).1
def EZ (s:aM×Rd):aM×Rd:=
 let t:=s3 s.2
 if s.1.leaf then (⟨s.1.leaf,s.1.keys++ [t.1],s.1.vals++ [(s3 t.2).1],s.1.kids⟩,(s3 t.2).2)
 else (⟨s.1.leaf,s.1.keys++ [t.1],s.1.vals,s.1.kids++ [(rdNum t.2 2).1]⟩,(rdNum t.2 2).2)
def qg (s:aM×Rd):Nat→aM×Rd
 |0=>s
 |i+1=>EZ (qg s i)
def Ac (leaf:Bool) (r:Rd):aM×Rd:=if leaf then (⟨true,[],[],[]⟩,r) else (⟨false,[],[],[(rdNum r 2).1]⟩,(rdNum r 2).2)
def qK (leaf:Bool) (b:List UInt8):aM×Rd:=qg (Ac leaf (rdNum (b,true) 1).2) (rdNum (b,true) 1).1
def ym (leaf:Bool) (b:List UInt8) (n:aM):Prop:=ef n∧n.leaf=leaf∧cr n≤232∧si n=b
theorem Yt (a b:List UInt8):pK (a++b,true) a.length=(a,(b,true)):=by
 unfold pK
 rw[if_neg (by simp)]
 simp
theorem NS {n k:Nat} (b:List UInt8) (h:n<256^k):rdNum (gB n k++b,true) k=(n,(b,true)):=by
 unfold rdNum
 have:=Yt (gB n k) b
 rw[ov] at this
 rw[this]
 simp[ov,R5 k n h]
theorem Yu (n:Nat) (h:n<256): [UInt8.ofNat n]=gB n 1:=by
 simp[gB,u9 h]
theorem R_ (l:Key) (b:List UInt8) (h:l.length<256):s3 (Cq l++b,true)=(l,(b,true)):=by
 have e:Cq l++b=gB l.length 1++(l++b):=by
   rw[←Yu _ h];rfl
 unfold s3
 rw[e,NS _ (by simpa using h)]
 exact Yt l b
theorem aiB {n:aM} (h:ef n) {i:Nat} (hi:i<n.keys.length) (b:List UInt8):
   EZ (⟨n.leaf,n.keys.take i,n.vals.take i,if n.leaf then [] else n.kids.take (i+1)⟩,(ow n i++b,true))=
     (⟨n.leaf,n.keys.take (i+1),n.vals.take (i+1),if n.leaf then [] else n.kids.take (i+2)⟩,(b,true)):=by
 have ae:n.keys.getD i []∈n.keys:=NQ hi
 have fp:=(h.keys.ok _ ae).2
 have sZ:n.keys.take (i+1)=n.keys.take i++ [n.keys.getD i []]:=by
   rw[take_succ _ hi,pD,gF hi];rfl
 unfold EZ
 unfold ow
 rcases h with h|h
 · have ak:i<n.vals.length:=by rw[h.len];exact hi
   have Sa:n.vals.getD i []∈n.vals:=NQ ak
   have bB:n.vals.take (i+1)=n.vals.take i++ [n.vals.getD i []]:=by
     rw[take_succ _ ak,pD,gF ak];rfl
   simp only[h.leaf,if_true]
   rw[eL,R_ _ _ (by omega)]
   simp only
   rw[R_ _ _ (by have:=h.vals _ Sa;omega),sZ,bB]
 · have ak:i+1<n.kids.length:=by rw[h.len];omega
   have Sa:n.kids.getD (i+1) 0∈n.kids:=NQ ak
   have bB:n.kids.take (i+2)=n.kids.take (i+1)++ [n.kids.getD (i+1) 0]:=by
     rw[take_succ _ ak,pD,gF ak];rfl
   simp only[h.inner,oh,if_false,h.vals]
   rw[eL,R_ _ _ (by omega)]
   simp only
   rw[NS _ (by have:=h.kids _ Sa;show _<65536;omega),sZ,bB]
   simp
theorem Yv {n:aM} (h:ef n):∀i,i≤n.keys.length→
   qg (⟨n.leaf,[],[],if n.leaf then [] else n.kids.take 1⟩,(pJ n 0 n.keys.length,true)) i=(⟨n.leaf,n.keys.take i,n.vals.take i,if n.leaf then [] else n.kids.take (i+1)⟩,(pJ n i (n.keys.length-i),true))
 |0,_=>by simp[qg]
 |i+1,hi=>by
   rw[qg,Yv h i (by omega),show n.keys.length-i=n.keys.length-(i+1)+1 by omega,aiz]
   exact aiB h (by omega) _
theorem Sb {n:aM} (h:ef n) (aD:cr n≤232):qK n.leaf (si n)=(n,([],true)):=by
 have ae:=NR h
 unfold qK
 have aY:rdNum (si n,true) 1=(n.keys.length,((if n.leaf then [] else gB (n.kids.getD 0 0) 2)++pJ n 0 n.keys.length,true)):=by
   have:si n=gB n.keys.length 1++((if n.leaf then [] else gB (n.kids.getD 0 0) 2)++pJ n 0 n.keys.length):=by
     rw[←Yu _ (by omega)];rfl
   rw[this,NS _ (by show _<256;omega)]
 rw[aY]
 simp only
 have bo:Ac n.leaf ((if n.leaf then [] else gB (n.kids.getD 0 0) 2)++pJ n 0 n.keys.length,true)=(⟨n.leaf,[],[],if n.leaf then [] else n.kids.take 1⟩,(pJ n 0 n.keys.length,true)):=by
   unfold Ac
   rcases h with h|h
   · simp[h.leaf]
   · have hd:0<n.kids.length:=by rw[h.len];omega
     have hm:n.kids.getD 0 0∈n.kids:=NQ hd
     have:=h.kids _ hm
     simp only[h.inner,oh,if_false]
     rw[NS _ (by show _<65536;omega)]
     cases JR:n.kids with
     |nil=>rw[JR] at hd;simp at hd
     |cons a l=>simp
 rw[bo,Yv h _ (cV _)]
 have en:pJ n n.keys.length (n.keys.length-n.keys.length)=[]:=by rw[EF];rfl
 rw[en,gX (cV _)]
 rcases h with h|h
 · rw[gX (by rw[h.len];exact cV _)]
   have:=h.kids
   have:=h.leaf
   cases n
   simp_all
 · rw[gX (by rw[h.vals];simp),gX (by rw[h.len];exact cV _)]
   have:=h.inner
   cases n
   simp_all
theorem ym.uniq {leaf:Bool} {b:List UInt8} {n m:aM} (U:ym leaf b n) (ad:ym leaf b m):n=m:=by
 obtain ⟨bc,cS,a3,a4⟩:=U
 obtain ⟨c3,cG,eP,fa⟩:=ad
 have aY:=Sb bc a3
 have bo:=Sb c3 eP
 rw[cS,a4] at aY
 rw[cG,fa,aY] at bo
 exact congrArg Prod.fst bo
end
section
def JS (n:Nat):Nat:=if n%2=1 then (n/2)^^^0x82f63b78 else n/2
def NT:Nat→Nat→Nat
 |0,n=>n
 |k+1,n=>JS (NT k n)
def Yw (n:Nat) (c:UInt8):Nat:=NT 8 (n^^^c.toNat)
def wL (n:Nat) (l:List UInt8):Nat:=l.foldl Yw n
def qL (l:List UInt8):Nat:=4294967295-wL 4294967295 l
theorem aiC {n:Nat} (h:n<4294967296):JS n<4294967296:=by
 unfold JS
 split
 · exact Nat.xor_lt_two_pow (n:=32) (by show _<4294967296;omega) (by decide)
 · omega
theorem Sc {n:Nat} (h:n<4294967296):∀k,NT k n<4294967296
 |0=>h
 |k+1=>aiC (Sc h k)
theorem aiD {n:Nat} (h:n<4294967296) (c:UInt8):Yw n c<4294967296:=
 Sc (Nat.xor_lt_two_pow (n:=32) h (by have:=GY c;show _<4294967296;omega)) 8
theorem NU:∀ (l:List UInt8) {n:Nat},n<4294967296→wL n l<4294967296
 | [],_,h=>h
 |c::l,_,h=>NU l (aiD h c)
theorem Yx (n:Nat) (a b:List UInt8):wL n (a++b)=wL (wL n a) b:=by simp[wL,List.foldl_append]
theorem Sd (l:List UInt8):qL l<4294967296:=by unfold qL;omega
structure tV where
 kind:Nat
 gen:Nat
 body:List UInt8
 deriving DecidableEq
structure JT (p:tV):Prop where
 dI:1≤p.kind
 ew:p.kind≤4
 gen:p.gen<18446744073709551616
 body:p.body.length≤232
def nQ:List UInt8:=[83,84,78,67]
def ki (no:Nat) (p:tV):List UInt8:=nQ++([1,UInt8.ofNat p.kind]++(gB p.body.length 2++(gB no 4++gB p.gen 8)))
def kA (p:tV):List UInt8:=p.body++List.replicate (232-p.body.length) 0
def pg (no:Nat) (p:tV):List UInt8:=ki no p++(gB (qL (ki no p++kA p)) 4++kA p)
theorem Cs (no:Nat) (p:tV):(ki no p).length=20:=by simp[ki,nQ,ov]
theorem NV {p:tV} (h:JT p):(kA p).length=232:=by
 have:=h.body
 simp[kA];omega
theorem Yy {p:tV} (no:Nat) (h:JT p):(pg no p).length=256:=by simp[pg,Cs,ov,NV h]
def sumOf (l:List UInt8):Nat:=qL (l.take 20++l.drop 24)
def jn (l:List UInt8) (a k:Nat):Nat:=rB ((l.drop a).take k)
def mv (no:Int) (l:List UInt8):Except Int tV:=
 if l.length≠256 then .error 9
 else if l.take 4≠nQ then .error 4
 else if l.getD 4 0≠1 then .error 12
 else if sumOf l≠jn l 20 4 then .error 5
 else if¬(1≤(l.getD 5 0).toNat∧(l.getD 5 0).toNat≤4)∨232<jn l 6 2∨(l.drop (24+jn l 6 2)).all (fun c=>c==0)=false then .error 4
 else if¬(0≤no∧no<1600)∨(jn l 8 4:Int)≠no then .error 1
 else .ok ⟨(l.getD 5 0).toNat,jn l 12 8,(l.drop 24).take (jn l 6 2)⟩
theorem drop_left' {α:Type} {a b:List α} {n:Nat} (h:a.length=n):(a++b).drop n=b:=by subst h;exact List.drop_left
theorem Ad {α:Type} {a b:List α} {n:Nat} (h:a.length=n):(a++b).take n=a:=by subst h;exact List.take_left
theorem NW {a b:List UInt8} {n k m:Nat} (aR:a.length=m) (h:n<256^k):jn (a++(gB n k++b)) m k=n:=by
 unfold jn
 rw[drop_left' aR,Ad (ov n k),R5 k n h]
theorem aiE {no:Nat} {p:tV} (dd:no<1600) (h:JT p):mv no (pg no p)= .ok p:=by
 have ab:=h.body
 have jQ:=h.dI
 have eC:=h.ew
 have bf:=h.gen
 have aV:=NV h
 have cT:=Cs no p
 have al:=Sd (ki no p++kA p)
 have dk:jn (pg no p) 20 4=qL (ki no p++kA p):=NW cT (by show _<4294967296;exact al)
 have bo:pg no p=(nQ++ [1,UInt8.ofNat p.kind])++(gB p.body.length 2++((gB no 4++gB p.gen 8)++(gB (qL (ki no p++kA p)) 4++kA p))):=by
   show ki no p++_=_
   rw[show ki no p=(nQ++ [1,UInt8.ofNat p.kind])++(gB p.body.length 2++(gB no 4++gB p.gen 8)) by simp[ki]]
   simp only[eL]
 have db:jn (pg no p) 6 2=p.body.length:=by rw[bo];exact NW rfl (by show _<65536;omega)
 have en:pg no p=((nQ++ [1,UInt8.ofNat p.kind])++gB p.body.length 2)++(gB no 4++(gB p.gen 8++(gB (qL (ki no p++kA p)) 4++kA p))):=by rw[bo];simp only[eL]
 have bk:jn (pg no p) 8 4=no:=by rw[en];exact NW (by simp[nQ,ov]) (by show _<4294967296;omega)
 have kT:pg no p=((nQ++ [1,UInt8.ofNat p.kind])++(gB p.body.length 2++gB no 4))++(gB p.gen 8++(gB (qL (ki no p++kA p)) 4++kA p)):=by rw[bo];simp only[eL]
 have fL:jn (pg no p) 12 8=p.gen:=by rw[kT];exact NW (by simp[nQ,ov]) (by show _<18446744073709551616;exact bf)
 have lZ:pg no p=(ki no p++gB (qL (ki no p++kA p)) 4)++kA p:=by simp[pg]
 have Se:(ki no p++gB (qL (ki no p++kA p)) 4).length=24:=by simp[cT,ov]
 have d24:(pg no p).drop 24=kA p:=by rw[lZ];exact drop_left' Se
 have t4:(pg no p).take 4=nQ:=by rw[bo];rfl
 have aL:(pg no p).getD 4 0=1:=by rw[bo];rfl
 have cQ:((pg no p).getD 5 0).toNat=p.kind:=by rw[bo];show (UInt8.ofNat p.kind).toNat=p.kind;exact NN (by omega)
 have s:sumOf (pg no p)=qL (ki no p++kA p):=by
   unfold sumOf
   rw[d24,show (pg no p).take 20=ki no p from Ad cT]
 unfold mv
 rw[if_neg (by rw[Yy no h];simp),if_neg (by rw[t4];simp),if_neg (by rw[aL];simp),if_neg (by rw[s,dk];simp),if_neg (by
   rw[cQ,db]
   rintro (U|U|U)
   · exact U ⟨jQ,eC⟩
   · omega
   · rw[List.all_eq_false] at U
     obtain ⟨c,al,U⟩:=U
     rw[←JB,d24] at al
     unfold kA at al
     rw[List.drop_left] at al
     exact U (by rw[RH al];rfl)),if_neg (by rw[bk];rintro (U|U)<;>omega),cQ,db,fL,d24]
 have:(kA p).take p.body.length=p.body:=by unfold kA;exact List.take_left
 rw[this]
end
section
def pL (s:aa):Value:= .slice s.a s.len s.cap
abbrev oU (w:World) (s:aa):Prop:=∀k,aO s k→w.heap.size≤k
theorem oU.mono {w w':World} {s:aa} (h:oU w' s) (af:w.heap.size≤w'.heap.size):oU w s:=fun k ae=>jb af (h k ae)
theorem len8 {w:World} {s:aa} {l:List UInt8} (h:Src 1 w s (bn l)):s.len=l.length:=by have:=h.len;rw[kz] at this;omega
theorem Ae {w:World} {T:TypeId} {s:aa} {l:List UInt8} (h:bV 1 T w s (bn l)):s.len=l.length:=by have:=h.1;rw[kz] at this;omega
theorem Ct {w:World} {s:aa} {l:List UInt8} {lo hi:Nat} (h:Src 1 w s (bn l)) (al:s.len≤s.cap) (U:lo≤hi) (ad:hi≤s.len):Src 1 w ⟨bg s.a 1 lo s.cap,hi-lo,s.cap-lo⟩ (bn ((l.drop lo).take (hi-lo))):=by
 have:=Src.sub h al U ad
 simpa[bn,GU,EE] using this
def je (ps:List (aa×List UInt8)):List UInt8:=(ps.map (·.2)).flatten
theorem Yz (a:List (aa×List UInt8)) (p:aa×List UInt8):je (a++ [p])=je a++p.2:=by simp[je]
theorem aiF (ps:List (aa×List UInt8)) (j:Nat):(je (ps.take j)).length≤(je ps).length:=by
 have h:ps=ps.take j++ps.drop j:=(qd j ps).symm
 have:(je ps).length=(je (ps.take j)).length+(je (ps.drop j)).length:=by
   conv=>lhs;rw[h]
   unfold je
   rw[om,Nu,dU]
 omega
theorem YA (ps:List (aa×List UInt8)) {j:Nat} (a_:j<ps.length):(ps[j]).2.length≤(je ps).length:=by
 have h:ps=ps.take j++ps[j]::ps.drop (j+1):=by rw[←tQ a_,qd]
 have:(je ps).length=(je (ps.take j)).length+((ps[j]).2.length+(je (ps.drop (j+1))).length):=by
   conv=>lhs;rw[h]
   unfold je
   rw[om,Nu,dU,tR,List.flatten_cons,dU]
 omega
theorem NX {s:aa} {w:World} (ps:List (aa×List UInt8)) (aj:Src 1 w s (ps.map fun p=>pL p.1)) (aZ:∀p∈ps,Src 1 w p.1 (bn p.2)) (az:(je ps).length≤100000) (aD:ps.length≤100000):
   aQ Tryz.prog F.s4 #[.slice s.a s.len s.cap] w (fun v w'=>∃ar:aa,v= .slice ar.a ar.len ar.cap∧bV 1 ah.uint8 w' ar (bn (je ps))∧Ext w w'∧oU w ar):=by
 refine W.aiG s w _ ?_
 (delta W.s4 aB a7 aq aC;dsimp only)
 have gw:s.len=ps.length:=by have:=aj.len;rw[lf] at this;omega
 refine ⟨fun ar i w'=>∃j:Nat,i=j∧j≤ps.length∧bV 1 ah.uint8 w' ar (bn (je (ps.take j)))∧Ext w w'∧oU w ar,fun _ i _=>((ps.length:Int)-i).toNat,⟨0,rfl,fl _,bV.none 1 ah.uint8 _, .refl _ _,fun k ae=>(qJ k ae).elim⟩,?_⟩
 rintro ar _ ag ⟨j,rfl,a_,bQ,af,aH⟩
 refine ⟨fun bd=> ?_,fun cg=> ?_⟩
 · have bd:j<ps.length:=by have:=dD bd;omega
   obtain ⟨A,ax,ab,kS⟩:=(aj.ext af).at (i:=j) (v:=pL (ps[j]).1) (by simp[bd])
   have YB:=(aZ _ (fg bd)).ext af
   have U:=YA ps bd
   have ad:=aiF ps j
   have au:=len8 YB
   have aJ:=Ae bQ
   obtain ⟨s2,aw,aA,aE,aI,aL,cQ⟩:=EV.append (eB:=ah.cm) YB bQ (yl _) (by rw[au,aJ];omega)
   rw[cz (n:=(j:Int)+1) (by omega) (by omega)]
   refine ⟨A,ax,ab,(ps[j]).1,kS,s2,aw,aA,⟨j+1,by omega,by omega,?_,Ext.gN af aL aH,fun k ae=> ?_⟩,?_⟩
   · rw[take_succ _ bd]
     rw[Yz,EU];exact aE
   · rcases cQ k ae with h|h
     · exact aH k h
     · exact jb af.size h
   · show ((ps.length:Int)-((j:Int)+1)).toNat<((ps.length:Int)-(j:Int)).toNat
     omega
 · have cg:j=ps.length:=by have:=eW cg;omega
   subst cg
   rw[qB] at bQ
   exact ⟨ar,rfl,bQ,af,aH⟩
theorem aiH {s:aa} {l:List UInt8} {w:World} (aj:Src 1 w s (bn l)) (al:s.len≤s.cap) {a k:Nat} (aR:a+k≤l.length) (az:l.length≤1000000000000):
   aQ Tryz.prog F.ve #[.slice s.a s.len s.cap, .int .i64 a, .int .i64 k] w (fun v w'=>v= .tuple #[.slice (bg s.a 1 a s.cap) k (s.cap-a), .bool true]∧w=w'):=by
 have gw:=len8 aj
 refine W.R3 s a k w _ ?_
 delta W.ve aB aC
 rw[cz (n:=((s.len:Nat):Int)-(a:Int)) (by omega) (by omega),cz (n:=(a:Int)+(k:Int)) (by omega) (by omega)]
 refine ⟨fun h=> ?_,fun _=>⟨⟨by omega,by omega⟩,⟨by omega,by omega⟩,?_,rfl⟩⟩
 · simp only[u_,fu] at h;omega
 · rw[show Int.toNat ((a:Int)+(k:Int))-Int.toNat (a:Int)=k by omega];rfl
theorem aiI {s:aa} {l:List UInt8} {w:World} (aj:Src 1 w s (bn l)) {a k:Nat} (aR:l.length<a+k) (YC:a≤l.length) (az:l.length≤1000000000000) (ae:k≤1000000000000):
   aQ Tryz.prog F.ve #[.slice s.a s.len s.cap, .int .i64 a, .int .i64 k] w (fun v w'=>v= .tuple #[.slice none 0 0, .bool false]∧w=w'):=by
 have gw:=len8 aj
 refine W.R3 s a k w _ ?_
 delta W.ve aB aC
 rw[cz (n:=((s.len:Nat):Int)-(a:Int)) (by omega) (by omega),cz (n:=(a:Int)+(k:Int)) (by omega) (by omega)]
 have e:(((decide ((a:Int)<0))||(decide ((k:Int)<0)))||(decide ((a:Int)>((s.len:Nat):Int)))||(decide ((k:Int)>(((s.len:Nat):Int)-(a:Int)))))=true:=by
   simp only[u_,fu];omega
 exact ⟨fun _=>⟨rfl,rfl⟩,fun h=>(by rw[e] at h;cases h)⟩
theorem yn {s:aa} {l:List UInt8} {w:World} (aj:Src 1 w s (bn l)) (al:s.len≤s.cap) {a k:Nat} (aR:a+k≤l.length) (az:l.length≤100000):
   aQ Tryz.prog F.yn #[.slice s.a s.len s.cap, .int .i64 a, .int .i64 k] w (fun v w'=>∃ar:aa,v= .tuple #[.slice ar.a ar.len ar.cap, .bool true]∧bV 1 ah.uint8 w' ar (bn ((l.drop a).take k))∧Ext w w'∧oU w ar):=by
 have gw:=len8 aj
 refine W.aiJ s a k w _ ?_
 (delta W.yn EY ee;dsimp only)
 refine (aiH aj al aR (by omega)).use ?_
 rintro _ _ ⟨rfl,rfl⟩
 have ic:=Ct aj al (lo:=a) (hi:=a+k) (by omega) (by omega)
 rw[show a+k-a=k by omega] at ic
 refine ⟨⟨bg s.a 1 a s.cap,k,s.cap-a⟩,true,rfl,(R4 ic (by simp;omega)).use ?_⟩
 rintro _ ag ⟨ar,rfl,bQ,af,aH⟩
 exact ⟨ar,rfl,ar,rfl,bQ,af,aH⟩
theorem aiK {s:aa} {l:List UInt8} {w:World} (aj:Src 1 w s (bn l)) {k:Nat} (ae:k≤8) (aR:l.length<k):
   aQ Tryz.prog F.s0 #[.slice s.a s.len s.cap, .int .i64 (0:Nat), .int .i64 k] w (fun v w'=>v= .tuple #[.int .u64 0, .bool false]∧w=w'):=by
 refine W.Yr s (0:Nat) k w _ ?_
 (delta W.s0 EY aB ba a7 h8 aC;dsimp only)
 refine (aiI aj (a:=0) (by omega) (by omega) (by omega) (by omega)).use ?_
 rintro _ _ ⟨rfl,rfl⟩
 refine ⟨⟨none,0,0⟩,false,rfl,eA (fun b w'=>b=true∧w=w') (fun q J=>⟨fun _=>J _ _ ⟨rfl,rfl⟩,fun h=>by simp at h⟩) ?_⟩
 rintro _ _ ⟨rfl,rfl⟩
 exact ⟨fun _=>⟨rfl,rfl⟩,fun h=>by simp at h⟩
theorem NY {a:Nat} (aR:a<4294967296):(BitVec.ofInt 32 (a:Int))=BitVec.ofNat 32 a:=by simp
theorem NZ {a b:Nat} (aR:a<4294967296) (ab:b<4294967296):E0 .u32 (a:Int) (b:Int)=((a^^^b:Nat):Int):=by
 unfold E0
 show IntKind.u32.wrap (((BitVec.ofInt 32 (a:Int)^^^BitVec.ofInt 32 (b:Int)).toNat:Nat):Int)=_
 rw[NY aR,NY ab,BitVec.toNat_xor,BitVec.toNat_ofNat,BitVec.toNat_ofNat,u9 (by simpa using aR),u9 (by simpa using ab)]
 have:a^^^b<4294967296:=Nat.xor_lt_two_pow (n:=32) aR ab
 rw[Sf (by omega) (by omega)]
theorem aiL {a b:Nat} (aR:a<4294967296) (ab:b<4294967296):tW .u32 (a:Int) (b:Int)=((a&&&b:Nat):Int):=by
 unfold tW
 show IntKind.u32.wrap (((BitVec.ofInt 32 (a:Int)&&&BitVec.ofInt 32 (b:Int)).toNat:Nat):Int)=_
 rw[NY aR,NY ab,BitVec.toNat_and,BitVec.toNat_ofNat,BitVec.toNat_ofNat,u9 (by simpa using aR),u9 (by simpa using ab)]
 have:a&&&b≤a:=Nat.and_le_left
 rw[Sf (by omega) (by omega)]
theorem aiM {n:Nat} (aD:n<4294967296):
   E0 .u32 (Int.fdiv (n:Int) (2^(min (Int.toNat 1) 32))) (tW .u32 2197175160 (IntKind.wrap .u32 (0-(tW .u32 (n:Int) 1))))=((JS n:Nat):Int):=by
 have aY:tW .u32 (n:Int) 1=((n%2:Nat):Int):=by
   have:=aiL aD (show 1<4294967296 by omega)
   rw[Nat.and_one_is_mod] at this
   exact this
 have bo:Int.fdiv (n:Int) (2^(min (Int.toNat 1) 32))=((n/2:Nat):Int):=by
   rw[Int.fdiv_eq_ediv_of_nonneg _ (by decide)];rfl
 rw[aY,bo]
 unfold JS
 rcases Nat.mod_two_eq_zero_or_one n with h|h
 · rw[h,if_neg (by omega)]
   have en:tW .u32 2197175160 (IntKind.wrap .u32 (0-((0:Nat):Int)))=((0:Nat):Int):=by decide+kernel
   rw[en,NZ (by omega) (by omega),Nat.xor_zero]
 · rw[h,if_pos rfl]
   have en:tW .u32 2197175160 (IntKind.wrap .u32 (0-((1:Nat):Int)))=((2197175160:Nat):Int):=by decide+kernel
   rw[en,NZ (by omega) (by omega)]
theorem yo {s:aa} {l:List UInt8} {w:World} {n:Nat} (aj:Src 1 w s (bn l)) (aD:n<4294967296) (az:l.length≤1000000):
   aQ Tryz.prog F.yo #[.int .u32 n, .slice s.a s.len s.cap] w (fun v w'=>v= .int .u32 (wL n l:Nat)∧w=w'):=by
 have gw:=len8 aj
 refine W.aiN n s w _ ?_
 (delta W.yo aB a7 h8 aC;dsimp only)
 refine ⟨fun m i w'=>∃j:Nat,i=j∧j≤l.length∧m=((wL n (l.take j):Nat):Int)∧w=w',fun _ i _=>((l.length:Int)-i).toNat,⟨0,rfl,fl _,rfl,rfl⟩,?_⟩
 rintro _ _ _ ⟨j,rfl,a_,rfl,rfl⟩
 refine ⟨fun bd=> ?_,fun cg=> ?_⟩
 · have bd:j<l.length:=by have:=dD bd;omega
   obtain ⟨A,ax,ab,kS⟩:=aj.at (He bd)
   have hm:=NU (l.take j) aD
   have al:=GY (l[j])
   have af:=Nat.xor_lt_two_pow (n:=32) hm (show (l[j]).toNat<4294967296 by omega)
   refine ⟨A,ax,ab,_,kS,fun m i w'=>∃k:Nat,i=k∧k≤8∧m=((NT k (wL n (l.take j)^^^(l[j]).toNat):Nat):Int)∧w=w',fun _ i _=>((8:Int)-i).toNat,⟨0,rfl,by omega,?_,rfl⟩,?_⟩
   · rw[Sf (by omega) (by omega),NZ hm (by omega)];rfl
   rintro _ _ _ ⟨k,rfl,ae,rfl,rfl⟩
   refine ⟨fun Sg=> ?_,fun Sh=> ?_⟩
   · have Sg:k<8:=by have:=dD Sg;omega
     rw[aiM (Sc af k),cz (n:=(k:Int)+1) (by omega) (by omega)]
     refine ⟨by decide,⟨k+1,by omega,by omega,rfl,rfl⟩,?_⟩
     show ((8:Int)-((k:Int)+1)).toNat<((8:Int)-(k:Int)).toNat
     omega
   · have Sh:k=8:=by have:=eW Sh;omega
     subst Sh
     rw[cz (n:=(j:Int)+1) (by omega) (by omega)]
     refine ⟨⟨j+1,by omega,by omega,?_,rfl⟩,?_⟩
     · rw[take_succ _ bd,Yx];rfl
     · show ((l.length:Int)-((j:Int)+1)).toNat<((l.length:Int)-(j:Int)).toNat
       omega
 · have cg:j=l.length:=by have:=eW cg;omega
   subst cg
   rw[qB]
   exact ⟨rfl,rfl⟩
theorem aiO {n:Nat} (h:n<4294967296):4294967295^^^n=4294967295-n:=by
 apply Nat.eq_of_testBit_eq
 intro i
 have U:(4294967295-n).testBit i=(decide (i<32)&& !n.testBit i):=by
   have:=Nat.testBit_two_pow_sub_succ (n:=32) (x:=n) (by simpa using h) i
   rw[←this];congr 1;omega
 have ad:(4294967295:Nat).testBit i=decide (i<32):=by
   have:=Nat.testBit_two_pow_sub_one 32 i
   exact this
 rw[Nat.testBit_xor,U,ad]
 by_cases hi:i<32
 · simp[hi]
 · have:n.testBit i=false:=by
     apply Nat.testBit_lt_two_pow
     exact lE h (Nt (n:=2) (by omega) (show 32≤i by omega))
   simp[hi,this]
theorem aiP {s:aa} {w:World} (ps:List (aa×List UInt8)) (aj:Src 1 w s (ps.map fun p=>pL p.1)) (aZ:∀p∈ps,Src 1 w p.1 (bn p.2)) (az:(je ps).length≤100000) (aD:ps.length≤100000):
   aQ Tryz.prog F.Cu #[.slice s.a s.len s.cap] w (fun v w'=>v= .int .u32 (qL (je ps):Nat)∧w=w'):=by
 refine W.aiQ s w _ ?_
 (delta W.Cu aB a7 aq nt aC;dsimp only)
 have gw:s.len=ps.length:=by have:=aj.len;rw[lf] at this;omega
 refine ⟨fun m i w'=>∃j:Nat,i=j∧j≤ps.length∧m=((wL 4294967295 (je (ps.take j)):Nat):Int)∧w=w',fun _ i _=>((ps.length:Int)-i).toNat,⟨0,rfl,fl _,rfl,rfl⟩,?_⟩
 rintro _ _ _ ⟨j,rfl,a_,rfl,rfl⟩
 refine ⟨fun bd=> ?_,fun cg=> ?_⟩
 · have bd:j<ps.length:=by have:=dD bd;omega
   obtain ⟨A,ax,ab,kS⟩:=aj.at (i:=j) (v:=pL (ps[j]).1) (by simp[bd])
   have hm:=NU (je (ps.take j)) (n:=4294967295) (by decide)
   refine ⟨A,ax,ab,(ps[j]).1,kS,(yo (aZ _ (fg bd)) hm (by have:=YA ps bd;omega)).use ?_⟩
   rintro _ _ ⟨rfl,rfl⟩
   rw[cz (n:=(j:Int)+1) (by omega) (by omega)]
   refine ⟨_,rfl,⟨j+1,by omega,by omega,?_,rfl⟩,?_⟩
   · rw[take_succ _ bd,←Yx,Yz]
   · show ((ps.length:Int)-((j:Int)+1)).toNat<((ps.length:Int)-(j:Int)).toNat
     omega
 · have cg:j=ps.length:=by have:=eW cg;omega
   subst cg
   rw[qB]
   have hm:=NU (je ps) (n:=4294967295) (by decide)
   refine ⟨?_,rfl⟩
   have:=NZ (a:=4294967295) (b:=wL 4294967295 (je ps)) (by decide) hm
   rw[aiO hm] at this
   exact congrArg _ this
theorem vg {s:aa} {l:List UInt8} {w:World} (aj:Src 1 w s (bn l)) (al:s.len≤s.cap) (az:l.length=256):
   aQ Tryz.prog F.vg #[.slice s.a s.len s.cap] w (fun v w'=>v= .int .u32 (sumOf l:Nat)∧Ext w w'):=by
 have gw:=len8 aj
 refine W.aiR s w _ ?_
 (delta W.vg ay nt ai;dsimp only)
 have bD:Ext w w.drew:=ao.drew (.refl _ _)
 refine ⟨⟨by decide,by omega⟩,⟨by decide,by omega⟩,?_⟩
 have U:=Ct (aj.ext bD) al (lo:=0) (hi:=20) (by omega) (by omega)
 have ad:=Ct (aj.ext bD) al (lo:=24) (hi:=s.len) (by omega) (by omega)
 have cA:∀o,Ext w.drew (w.drew.alloc o):=fun o=>ao.alloc (.refl _ _) o
 refine (aiP [(⟨bg s.a 1 0 s.cap,20-0,s.cap-0⟩,(l.drop 0).take (20-0)),(⟨bg s.a 1 24 s.cap,s.len-24,s.cap-24⟩,(l.drop 24).take (s.len-24))] (s:=⟨some ⟨w.drew.heap.size,0,none⟩,2,2⟩) (Src.new w.drew _ 2 rfl) ?_ ?_ ?_).use ?_
 · intro p aZ
   simp only[gb,m4,m5] at aZ
   rcases aZ with rfl|rfl
   · exact U.ext (cA _)
   · exact ad.ext (cA _)
 · simp[je];omega
 · simp
 rintro _ ag ⟨rfl,rfl⟩
 refine ⟨_,rfl,?_,bD.trans (cA _)⟩
 have:je [((⟨bg s.a 1 0 s.cap,20-0,s.cap-0⟩:aa),(l.drop 0).take (20-0)),(⟨bg s.a 1 24 s.cap,s.len-24,s.cap-24⟩,(l.drop 24).take (s.len-24))]=l.take 20++l.drop 24:=by
   simp only[je,tR,List.map_nil,List.flatten_cons,List.flatten_nil,mn,zW]
   rw[gX (l:=l.drop 24) (by rw[fG];omega)]
 rw[this];rfl
end
section
theorem bV.aiS {T:TypeId} {w:World} {s:aa} {vs us:List Value} {b o:Nat} (h:bV 1 T w s vs) (ab:s.a=some ⟨b,0,none⟩) (bQ:o+us.length≤s.len):
   bV 1 T (setCells w ⟨b,o,none⟩ 0 us) s (vs.take o++us++vs.drop (o+us.length)):=by
 obtain ⟨U,ad,au,aJ⟩:=h
 rcases aJ with ⟨aD,_⟩|⟨jo,c,kB,jf,fc,aV⟩
 · rw[aD] at ab;cases ab
 · rw[ab] at kB
   cases kB
   have Cm:c.toList.length=s.cap:=by simpa using fc
   have hle:o+us.length≤c.size:=by omega
   rw[lU] at U fc
   refine ⟨by simp;omega,ad,au, .inr ⟨b,_,ab,ct.Cv jf us,by rw[rA];omega,?_⟩⟩
   rw[lU] at aV⊢
   rw[Af _ _ _ hle,←aV,JD,r_ (by omega),eL,eL,List.take_append,List.take_append,d_,r_ (by omega),
     gX (l:=c.toList.take o) (by rw[d_];omega),gX (l:=us) (by omega),List.drop_take,show s.len-o-us.length=s.len-(o+us.length) by omega]
theorem N0 (w:World) (l:List UInt8):
   ∃w',Sem.run Tryz.prog (convert ah.cm ah.cm (.slice (some ⟨w.heap.size,0,none⟩) l.length l.length)) (w.alloc (.cells (bn l).toArray ah.uint8))= .ok (.slice (some ⟨w.heap.size,0,none⟩) l.length l.length) w'∧
     Src 1 w' ⟨some ⟨w.heap.size,0,none⟩,l.length,l.length⟩ (bn l)∧Ext w w'∧w'.heap.size=w.heap.size+1:=by
 refine ⟨_,Go.Lib.run_convert_bytes_const (P:=Tryz.prog) w ah.cm ah.uint8 (bn l).toArray l.length l.length (by kernel_rfl) (by kernel_rfl),⟨by rw[kz,lU],(fun h=>by cases h),fun a aR=> ?_⟩,ao.alloc (.refl _ _) _,by simp⟩
 cases aR
 have:=R1 (w:=w.alloc (.cells (bn l).toArray ah.uint8 ((bn l).toArray.size,(bn l).toArray.size+1))) (A:=⟨w.heap.size,0,none⟩) (bn l) 0 (fun j v a_=>by
   rw[aW]
   show (World.cell? _ _)=_
   have:(w.alloc (.cells (bn l).toArray ah.uint8 ((bn l).toArray.size,(bn l).toArray.size+1))).heap[w.heap.size]? =some (.cells (bn l).toArray ah.uint8 ((bn l).toArray.size,(bn l).toArray.size+1)):=by
     show (w.heap.push _)[w.heap.size]? =_
     simp
   simp only[World.cell?,this]
   simpa using a_)
 rw[kz] at this
 rw[lU]
 exact this
theorem YD (n:Nat):pM Tryz.prog ah.uint8 n=(bn (List.replicate n 0)).toArray:=by
 rw[YE (v:= .int .u8 0) (by kernel_rfl) (by kernel_rfl)]
 simp[bn]
theorem aiT {A Z T C:List UInt8} {n m:Nat} (ax:A.length=n) (vh:Z.length=m):(bn (A++(Z++T))).take n++bn C++(bn (A++(Z++T))).drop (n+m)=bn (A++(C++T)):=by
 have aY:(bn (A++(Z++T))).take n=bn A:=by rw[EU];exact Ad (by rw[kz,ax])
 have bo:(bn (A++(Z++T))).drop (n+m)=bn T:=by rw[←eL,EU];exact drop_left' (by rw[kz,dU,ax,vh])
 rw[aY,bo,EU,EU,eL]
theorem dL (w:World):Ext w w.drew:=ao.drew (.refl _ _)
theorem iR (w:World) (o:Obj):Ext w (w.alloc o):=ao.alloc (.refl _ _) o
theorem JU (w:World) (o:Obj):(w.alloc o).heap.size=w.heap.size+1:=by simp
theorem aiU {s:aa} {p:tV} {no:Nat} {w:World} (aj:Src 1 w s (bn p.body)) (dd:no<1600) (aZ:JT p):
   aQ Tryz.prog F.Cw #[.int .i64 no, .agg #[.int .i64 p.kind, .int .u64 p.gen, .slice s.a s.len s.cap]] w (fun v w'=>∃ar:aa,v= .tuple #[.slice ar.a ar.len ar.cap, .int .i64 0]∧bV 1 ah.uint8 w' ar (bn (pg no p))∧Ext w w'∧oU w ar):=by
 have jQ:=aZ.dI
 have eC:=aZ.ew
 have avw:=aZ.gen
 have wM:=aZ.body
 have gw:=len8 aj
 refine W.aiV no p.kind p.gen s w _ ?_
 (delta W.Cw ba aB bI ai aq ee kU yp Si aC Sj nt;dsimp only)
 refine cn (vs:=[.int .i64 p.kind, .int .u64 p.gen, .slice s.a s.len s.cap]) rfl fun ag ak bD m8=> ?_
 have bC:∀ {w':World},Ext ag w'→w'.cell? (Addr.add ⟨w.heap.size,0,none⟩ 2)=some (.slice s.a s.len s.cap):=fun af=>by rw[aW];exact (ak.ext af).cell
 have aT:∀ {w':World},Ext ag w'→w'.cell? (Addr.add ⟨w.heap.size,0,none⟩ 1)=some (.int .u64 p.gen):=fun af=>by rw[aW];exact (ak.ext af).cell
 refine Calls.mono (W.YF no ag (fun v w'=>v= .bool true∧ag=w') ⟨by simp;omega,rfl⟩) ?_
 rintro _ _ ⟨_,rfl,rfl,rfl⟩
 refine ⟨_,rfl,eA (fun b w'=>b=false∧ag=w') (fun q J=>⟨fun U=>by simp at U,fun U=>⟨p.kind,ak.cell,?_⟩⟩) ?_⟩
 · refine Calls.mono (W.YG p.kind ag (fun v w'=>v= .bool true∧ag=w') ⟨by simp;omega,rfl⟩) ?_
   rintro _ _ ⟨_,rfl,rfl,rfl⟩
   exact ⟨_,rfl,J _ _ ⟨rfl,rfl⟩⟩
 rintro b _ ⟨rfl,rfl⟩
 refine ⟨fun h=>(by cases h),fun _=>⟨s,bC (.refl _ _),fun h=>(by have:=dD h;omega),fun _=>bL ?_⟩⟩
 obtain ⟨aw,Ag,hm,Ah,vi⟩:=N0 ag nQ
 refine ⟨⟨some ⟨ag.heap.size,0,none⟩,4,4⟩,aw,Ag,p.kind,(ak.ext Ah).cell,?_⟩
 have sZ:IntKind.wrap .u8 (p.kind:Int)=(((UInt8.ofNat p.kind).toNat:Nat):Int):=by rw[NN (by omega),Sk (by omega) (by omega)]
 rw[sZ]
 have ae:=Src.new (T:=ah.uint8) (sz:=1) aw (bn [1,UInt8.ofNat p.kind]) 2 rfl
 have Sl:=iR aw (.cells (bn [1,UInt8.ofNat p.kind]).toArray ah.uint8)
 obtain ⟨aS,mw⟩:∃aS,aS=aw.alloc (.cells (bn [1,UInt8.ofNat p.kind]).toArray ah.uint8):=⟨_,rfl⟩
 show ay (aw.alloc (.cells (bn [1,UInt8.ofNat p.kind]).toArray ah.uint8)) _
 rw[←mw] at ae Sl⊢
 refine bL ?_
 have vj:=Src.new (T:=ah.cm) (sz:=1) aS [.slice (some ⟨ag.heap.size,0,none⟩) 4 4, .slice (some ⟨aw.heap.size,0,none⟩) 2 2] 2 rfl
 have yq:=iR aS (.cells #[.slice (some ⟨ag.heap.size,0,none⟩) 4 4, .slice (some ⟨aw.heap.size,0,none⟩) 2 2] ah.cm)
 obtain ⟨bp,Hk⟩:∃bp,bp=aS.alloc (.cells #[.slice (some ⟨ag.heap.size,0,none⟩) 4 4, .slice (some ⟨aw.heap.size,0,none⟩) 2 2] ah.cm):=⟨_,rfl⟩
 have vj:Src 1 bp ⟨some ⟨aS.heap.size,0,none⟩,2,2⟩ [.slice (some ⟨ag.heap.size,0,none⟩) 4 4, .slice (some ⟨aw.heap.size,0,none⟩) 2 2]:=by rw[Hk];exact vj
 rw[←Hk] at yq⊢
 have tX:Ext ag bp:=Ah.trans (Sl.trans yq)
 refine bL ((NX (s:=⟨some ⟨aS.heap.size,0,none⟩,2,2⟩) [((⟨some ⟨ag.heap.size,0,none⟩,4,4⟩:aa),nQ),(⟨some ⟨aw.heap.size,0,none⟩,2,2⟩,[1,UInt8.ofNat p.kind])] vj ?_ (by simp[je,nQ]) (by simp)).use ?_)
 · intro q J
   simp only[gb,m4,m5] at J
   rcases J with rfl|rfl
   · exact hm.ext (Sl.trans yq)
   · exact ae.ext yq
 rintro _ bH ⟨bJ,rfl,yr,lj,Sm⟩
 have qM:=tX.trans lj
 have lZ:je [((⟨some ⟨ag.heap.size,0,none⟩,4,4⟩:aa),nQ),(⟨some ⟨aw.heap.size,0,none⟩,2,2⟩,[1,UInt8.ofNat p.kind])]=nQ++ [1,UInt8.ofNat p.kind]:=by simp[je]
 rw[lZ] at yr
 refine ⟨bJ,rfl,s,bC qM,?_⟩
 rw[wK (n:=((s.len:Nat):Int)) (by omega) (by omega),wK (n:=(no:Int)) (by omega) (by omega)]
 refine (pe yr.src (n:=s.len) (k:=2) (by simp[nQ]) (by show _<18446744073709551616;omega) ⟨by decide,by decide⟩).use ?_
 rintro _ a8 ⟨cM,rfl,vk,jR,Cx⟩
 have nR:=qM.trans jR
 refine ⟨cM,rfl,(pe vk.src (n:=no) (k:=4) (by simp[nQ,ov]) (by show _<18446744073709551616;omega) ⟨by decide,by decide⟩).use ?_⟩
 rintro _ bh ⟨g_,rfl,Hl,fe,yt⟩
 have sj:=nR.trans fe
 refine ⟨g_,rfl,_,aT sj,(pe Hl.src (n:=p.gen) (k:=8) (by simp[nQ,ov]) (by show _<18446744073709551616;omega) ⟨by decide,by decide⟩).use ?_⟩
 rintro _ bW ⟨ec,rfl,s5,gd,YH⟩
 have Cy:=sj.trans gd
 have vl:nQ++ [1,UInt8.ofNat p.kind]++gB s.len 2++gB no 4++gB p.gen 8=ki no p:=by rw[gw];simp[ki]
 rw[vl] at s5
 refine ⟨ec,rfl,eA (fun t w'=>bV 1 ah.uint8 w' t (bn (ki no p++(List.replicate 4 0++kA p)))∧Ext ag w'∧oU w t) (fun q J=> ?_) ?_⟩
 · have bA:=dL bW
   have YI:=Cy.trans bA
   have Ai:IntKind.wrap .i64 (232-((s.len:Nat):Int))=((232-s.len:Nat):Int):=by rw[cz (by omega) (by omega)];omega
   refine bL ⟨fun _=>False,id,s,bC YI,id,s,bC YI,?_⟩
   rw[Ai]
   simp only[gY,show Int.toNat 4=4 from rfl]
   rw[YD,YD]
   have fin:∀ (b6 Aj:World) (dx pN:aa),Ext bW Aj→Src 1 Aj dx (bn (List.replicate 4 0))→Src 1 Aj pN (bn (List.replicate (232-s.len) 0))→
       Calls Tryz.prog F.s4 #[.slice (some ⟨Aj.heap.size,0,none⟩) 4 4] (Aj.alloc (.cells #[.slice ec.a ec.len ec.cap, .slice dx.a dx.len dx.cap, .slice s.a s.len s.cap, .slice pN.a pN.len pN.cap] ah.cm)) fun aiW dE=>∃hU:aa,aiW= .returned (.slice hU.a hU.len hU.cap)∧q hU dE:=by
     intro b6 Aj dx pN N1 U ad
     have jE:=iR Aj (.cells #[.slice ec.a ec.len ec.cap, .slice dx.a dx.len dx.cap, .slice s.a s.len s.cap, .slice pN.a pN.len pN.cap] ah.cm)
     refine (NX (s:=⟨some ⟨Aj.heap.size,0,none⟩,4,4⟩) [(ec,ki no p),(dx,List.replicate 4 0),(s,p.body),(pN,List.replicate (232-s.len) 0)] (Src.new Aj _ 4 rfl) ?_ (by simp[je,Cs];omega) (by simp)).use ?_
     · intro x af
       simp only[gb,m4,m5] at af
       rcases af with rfl|rfl|rfl|rfl
       · exact s5.src.ext (N1.trans jE)
       · exact U.ext jE
       · exact aj.ext ((bD.trans (Cy.trans N1)).trans jE)
       · exact ad.ext jE
     · rintro _ bK ⟨fT,rfl,bQ,af,aH⟩
       refine ⟨fT,rfl,J _ _ ⟨?_,(Cy.trans N1).trans (jE.trans af),aH.mono (bD.trans ((Cy.trans N1).trans jE)).size⟩⟩
       have e:je [(ec,ki no p),(dx,List.replicate 4 0),(s,p.body),(pN,List.replicate (232-s.len) 0)]=ki no p++(List.replicate 4 0++kA p):=by simp[je,kA,gw]
       rwa[e] at bQ
   refine ⟨⟨⟨by decide,by decide,by decide,by decide⟩,bL ⟨iR _ _,⟨by omega,Int.le_refl _,by omega,by omega⟩,bL ⟨iR _ _,bL ?_⟩⟩⟩,⟨⟨by omega,Int.le_refl _,by omega,by omega⟩,bL ⟨iR _ _,⟨by decide,by decide,by decide,by decide⟩,bL ⟨iR _ _,bL ?_⟩⟩⟩⟩
   · refine fin bW _ ⟨some ⟨bW.drew.heap.size,0,none⟩,4,4⟩ ⟨some ⟨(bW.drew.alloc _).heap.size,0,none⟩,232-s.len,232-s.len⟩ (bA.trans ((iR _ _).trans (iR _ _))) (Src.ext (Src.new _ _ _ (by simp[bn])) (iR _ _)) (Src.new _ _ _ (by simp[bn]))
   · refine fin bW _ ⟨some ⟨(bW.drew.alloc _).heap.size,0,none⟩,4,4⟩ ⟨some ⟨bW.drew.heap.size,0,none⟩,232-s.len,232-s.len⟩ (bA.trans ((iR _ _).trans (iR _ _))) (Src.new _ _ _ (by simp[bn])) (Src.ext (Src.new _ _ _ (by simp[bn])) (iR _ _))
 rintro t b6 ⟨oV,JV,Cz⟩
 have nu:t.len=256:=by
   have:=Ae oV
   rw[this];simp[Cs,NV aZ]
 have bA:=dL b6
 refine bL ⟨fun _=>False,⟨by decide,by omega⟩,(vg (oV.src.ext bA) oV.2.1 (by simp[Cs,NV aZ])).use ?_⟩
 rintro _ bK ⟨rfl,kj⟩
 have es:sumOf (ki no p++(List.replicate 4 0++kA p))=qL (ki no p++kA p):=by
   unfold sumOf
   rw[Ad (Cs no p),←eL,drop_left' (by simp[Cs])]
 rw[es]
 have Cm:=Sd (ki no p++kA p)
 refine ⟨_,rfl,fun _=>False,?_⟩
 rw[wK (by omega) (by omega)]
 refine (pe (s:=⟨none,0,0⟩) (l:=[]) (n:=qL (ki no p++kA p)) (k:=4) (bV.none 1 ah.uint8 bK).src (by simp) (by show _<18446744073709551616;omega) ⟨by decide,by decide⟩).use ?_
 rintro _ b9 ⟨ed,rfl,Hm,mx,aiX⟩
 rw[rq] at Hm
 have YJ:=bA.trans (kj.trans mx)
 have YK:=oV.ext YJ
 have YL:=Ae Hm
 rw[ov] at YL
 obtain ⟨b,c,ab,jf,fc,_⟩:∃b c,t.a=some ⟨b,0,none⟩∧ct b9 b c ah.uint8∧c.size=t.cap*1∧c.toList.take (t.len*1)=bn (ki no p++(List.replicate 4 0++kA p)):=by
   rcases YK.2.2.2 with ⟨_,al⟩|⟨b,c,U,ad,au,aJ⟩
   · have:=oV.2.1;omega
   · exact ⟨b,c,U,ad,au,aJ⟩
 have aiY:bg t.a 1 (Int.toNat 20) t.cap=some ⟨b,20,none⟩:=by
   rw[ab,show Int.toNat 20=20 from rfl,N2 (by have:=oV.2.1;omega)]
 have avx:=oV.2.1
 refine ⟨ed,rfl,_,_,by rw[aiY];exact aio (by kernel_rfl) Hm.src (by rw[YL];show 4≤t.len-20;omega) (jf.dA _ _ (by rw[kz,ov];omega) (yl _)),t,rfl,?_,?_,Cz⟩
 · have:=bV.aiS YK ab (o:=20) (us:=bn (gB (qL (ki no p++kA p)) 4)) (by rw[kz,ov];omega)
   have e:(bn (ki no p++(List.replicate 4 0++kA p))).take 20++bn (gB (qL (ki no p++kA p)) 4)++(bn (ki no p++(List.replicate 4 0++kA p))).drop (20+(bn (gB (qL (ki no p++kA p)) 4)).length)=bn (pg no p):=by
     rw[kz,ov]
     exact aiT (Cs no p) (by simp)
   rwa[e] at this
 · refine Ext.gN (bD.trans (JV.trans YJ)) (ao.Aa (.refl _ _) _ 0) fun k ae=> ?_
   subst ae
   exact Cz _ ⟨_,ab,rfl⟩
end
section
theorem rC {s:aa} {l:List UInt8} {w:World} (aj:Src 1 w s (bn l)) (al:s.len≤s.cap) {a k:Nat} {e:Int} (he:e=((a+k:Nat):Int)) (ae:1≤k∧k≤8) (aR:a+k≤l.length) (az:l.length≤1000):
   aQ Tryz.prog F.rC #[.slice s.a s.len s.cap, .int .i64 a, .int .i64 e] w (fun v w'=>v= .int .u64 (jn l a k:Nat)∧w=w'):=by
 subst he
 refine W.aiZ s a ((a+k:Nat):Int) w _ ?_
 (delta W.rC N3 aC;dsimp only)
 rw[cz (by omega) (by omega),show (((a+k:Nat):Int)-(a:Int))=(k:Int) by omega]
 refine (s0 aj al ae aR (by omega)).use ?_
 rintro _ _ ⟨rfl,rfl⟩
 exact ⟨_,_,rfl,rfl,rfl⟩
theorem yu {s:aa} {l:List UInt8} {w:World} (aj:Src 1 w s (bn l)) (az:l.length≤1000):
   aQ Tryz.prog F.yu #[.slice s.a s.len s.cap] w (fun v w'=>v= .bool (l.all fun c=>c==0)∧w=w'):=by
 have gw:=len8 aj
 refine W.ai0 s w _ ?_
 (delta W.yu aB a7 h8 aC;dsimp only)
 refine ⟨fun i w'=>∃j:Nat,i=j∧j≤l.length∧w=w'∧∀ (k:Nat) (ae:k<l.length),k<j→l[k]=0,fun i _=>((l.length:Int)-i).toNat,⟨0,rfl,fl _,rfl,fun k ae h=>by omega⟩,?_⟩
 rintro _ _ ⟨j,rfl,a_,rfl,fx⟩
 refine ⟨fun bd=> ?_,fun cg=> ?_⟩
 · have bd:j<l.length:=by have:=dD bd;omega
   obtain ⟨A,ax,ab,kS⟩:=aj.at (He bd)
   refine ⟨A,ax,ab,_,kS,fun c4=> ?_,fun heq=> ?_⟩
   · refine ⟨?_,rfl⟩
     have:(l.all fun c=>c==0)=false:=by
       rw[List.all_eq_false]
       refine ⟨l[j],fg _,fun h=> ?_⟩
       have h:=eq_of_beq h
       rw[h] at c4
       simp at c4
     rw[this]
   · have b7:l[j]=0:=by
       have:(((l[j]).toNat:Nat):Int)=0:=by simpa using heq
       exact UInt8.toNat_inj.1 (by show (l[j]).toNat=0;omega)
     rw[cz (n:=(j:Int)+1) (by omega) (by omega)]
     refine ⟨⟨j+1,by omega,by omega,rfl,fun k ae h=> ?_⟩,?_⟩
     · rcases g6 k j with U|U
       · exact fx k ae U
       · have:k=j:=by omega
         subst this;exact b7
     · show ((l.length:Int)-((j:Int)+1)).toNat<((l.length:Int)-(j:Int)).toNat
       omega
 · have cg:j=l.length:=by have:=eW cg;omega
   subst cg
   refine ⟨?_,rfl⟩
   have:(l.all fun c=>c==0)=true:=by
     rw[GZ]
     intro c al
     obtain ⟨k,ae,rfl⟩:=m3 al
     rw[fx k ae ae];rfl
   rw[this]
def YM (kind gen:Int) (s:aa):Value:= .agg #[.int .i64 kind, .int .u64 gen, .slice s.a s.len s.cap]
def N4 (r:Except Int tV) (w w':World) (v:Value):Prop:=
 match r with
 | .ok p=>∃s:aa,v= .tuple #[YM p.kind p.gen s, .int .i64 0]∧bV 1 ah.uint8 w' s (bn p.body)∧oU w s
 | .error e=>v= .tuple #[YM 0 0 ⟨none,0,0⟩, .int .i64 e]
theorem YN {w':World} {h:Nat} {vs:List Value} (n g:Int) (s:aa) (ak:Var w' h vs ah.JW) (az:vs.length=3) {K:Int→Int→aa→World→Prop} (bu:∀aw,ao (fun q=>q=h) w' aw→K n g s aw):
   cZ w' ⟨h,0,none⟩ [.int .i64 n, .int .u64 g, .slice s.a s.len s.cap]∧(3:Nat)=3∧ay (setCells w' ⟨h,0,none⟩ 0 [.int .i64 n, .int .u64 g, .slice s.a s.len s.cap]) fun aw=>
     ∃bk:Int,aw.cell? ⟨h,0,none⟩=some (.int .i64 bk)∧∃fL:Int,aw.cell? (Addr.add ⟨h,0,none⟩ 1)=some (.int .u64 fL)∧∃bJ:aa,aw.cell? (Addr.add ⟨h,0,none⟩ 2)=some (.slice bJ.a bJ.len bJ.cap)∧K bk fL bJ aw:=by
 refine ⟨ak.dA (by rw[az];rfl) ?_,rfl,ek ak (us:=[.int .i64 n, .int .u64 g, .slice s.a s.len s.cap]) (by rw[az];rfl) rfl fun aw gM al _=> ?_⟩
 · intro v ak
   simp only[gb,m4,m5] at ak
   rcases ak with rfl|rfl|rfl<;>trivial
 · exact ⟨n,gM.cell,g,by rw[aW];exact gM.cell,s,by rw[aW];exact gM.cell,bu aw al⟩
theorem yv {s:aa} {l:List UInt8} {w:World} (aj:Src 1 w s (bn l)) (al:s.len≤s.cap) (az:l.length≤1000) (no:Int):
   aQ Tryz.prog F.yv #[.int .i64 no, .slice s.a s.len s.cap] w (fun v w'=>N4 (mv no l) w w' v∧Ext w w'):=by
 have gw:=len8 aj
 refine W.ai1 no s w _ ?_
 (delta W.yv z3 aB ai bI kU aq Sn a7 h8 nt JX ba aC EY;dsimp only)
 refine cn (vs:=[.int .i64 0, .int .u64 0, .slice none 0 0]) rfl fun ag ak bD _=> ?_
 have out:∀ (w':World) (e:Int),Ext ag w'→mv no l= .error e→
     cZ w' ⟨w.heap.size,0,none⟩ [.int .i64 0, .int .u64 0, .slice none 0 0]∧(3:Nat)=3∧ay (setCells w' ⟨w.heap.size,0,none⟩ 0 [.int .i64 0, .int .u64 0, .slice none 0 0]) fun aw=>
     ∃bk:Int,aw.cell? ⟨w.heap.size,0,none⟩=some (.int .i64 bk)∧∃fL:Int,aw.cell? (Addr.add ⟨w.heap.size,0,none⟩ 1)=some (.int .u64 fL)∧∃bJ:aa,aw.cell? (Addr.add ⟨w.heap.size,0,none⟩ 2)=some (.slice bJ.a bJ.len bJ.cap)∧
       (fun v w'=>N4 (mv no l) w w' v∧Ext w w') (.tuple #[.agg #[.int .i64 bk, .int .u64 fL, .slice bJ.a bJ.len bJ.cap], .int .i64 e]) aw:=by
   intro w' e af he
   refine YN 0 0 ⟨none,0,0⟩ (ak.ext af) rfl (K:=fun bk fL bJ aw=>(fun v w'=>N4 (mv no l) w w' v∧Ext w w') (.tuple #[.agg #[.int .i64 bk, .int .u64 fL, .slice bJ.a bJ.len bJ.cap], .int .i64 e]) aw) fun aw vm=>⟨?_,Ext.eX (bD.trans af) vm (cV _)⟩
   rw[he];rfl
 refine ⟨fun h=>out _ _ (.refl _ _) ?_,fun h=> ?_⟩
 · have h:(s.len:Int)≠256:=by simpa using h
   unfold mv
   rw[if_pos (by omega)]
 have h:(s.len:Int)=256:=by simpa using h
 have ai2:l.length=256:=by omega
 have ky:=aj.ext bD
 have ai3:=Ct ky al (lo:=0) (hi:=4) (by omega) (by omega)
 have ai4:Src 1 ag ⟨bg s.a 1 0 s.cap,4-0,s.cap-0⟩ (((l.take 4).map fun b=>((b.toNat:Nat):Int)).map (.int .u8)):=by
   rw[EG];exact ai3
 have YO:=Yp (src:=ah.cm) (dst:=ah.string) (by kernel_rfl) (by kernel_rfl) ai4
 have ph:(((l.take 4).map fun b=>((b.toNat:Nat):Int)).map fun n=>UInt8.ofNat n.toNat)=l.take 4:=by
   rw[EG]
   have:((fun n:Int=>UInt8.ofNat n.toNat)∘fun b:UInt8=>((b.toNat:Nat):Int))=id:=by funext b;simp
   rw[this,List.map_id]
 rw[ph] at YO
 refine ⟨⟨by decide,by omega⟩,S (l.take 4),ag,YO,?_⟩
 have ai5:(ByteArray.toList (S (l.take 4))==ByteArray.toList (ByteArray.mk #[83,84,78,67]))=decide (l.take 4=nQ):=by
   rw[show (ByteArray.mk #[83,84,78,67])=S nQ from rfl,CA]
   rw[pc];simp
 rw[ai5]
 refine ⟨fun h=>out _ _ (.refl _ _) ?_,fun h=> ?_⟩
 · have h:l.take 4≠nQ:=by simpa using h
   unfold mv
   rw[if_neg (by omega),if_pos h]
 have hm:l.take 4=nQ:=by simpa using h
 obtain ⟨ai6,N5,avy,yw⟩:=ky.at (He (l:=l) (i:=4) (by omega))
 have avz:s.len=256:=by omega
 refine ⟨ai6,N5,⟨by decide,by omega⟩,_,yw,fun h=>out _ _ (.refl _ _) ?_,fun h=> ?_⟩
 · have h:(((l[4]'(by omega)).toNat:Nat):Int)≠1:=by simpa using h
   unfold mv
   rw[if_neg (by omega),if_neg (by simp[hm]),if_pos (by
     intro e
     apply h
     rw[pD,gF (by omega)] at e
     have e:(l[4]'(by omega))=1:=e
     rw[e];rfl)]
 have aJ:l.getD 4 0=1:=by
   have h:(((l[4]'(by omega)).toNat:Nat):Int)=1:=by simpa using h
   rw[pD,gF (by omega)]
   exact UInt8.toNat_inj.1 (by show (l[4]'(by omega)).toNat=1;omega)
 refine (vg ky al ai2).use ?_
 rintro _ aw ⟨rfl,cA⟩
 have mo:=ky.ext cA
 refine ⟨_,rfl,(rC mo al (a:=20) (k:=4) (e:=24) rfl (by decide) (by omega) az).use ?_⟩
 rintro _ _ ⟨rfl,rfl⟩
 have YP:sumOf l<4294967296:=Sd _
 rw[wK (n:=((sumOf l:Nat):Int)) (by omega) (by omega)]
 refine ⟨_,rfl,fun h=>out _ _ cA ?_,fun h=> ?_⟩
 · have h:((sumOf l:Nat):Int)≠((jn l 20 4:Nat):Int):=by simpa using h
   unfold mv
   rw[if_neg (by omega),if_neg (by simp[hm]),if_neg (fun h=>h aJ),if_pos (by omega)]
 have CB:sumOf l=jn l 20 4:=by
   have h:((sumOf l:Nat):Int)=((jn l 20 4:Nat):Int):=by simpa using h
   omega
 refine (rC mo al (a:=6) (k:=2) (e:=8) rfl (by decide) (by omega) az).use ?_
 rintro _ _ ⟨rfl,rfl⟩
 have avA:jn l 6 2<65536:=JQ 2 _ (by simp;omega)
 obtain ⟨ai7,iL,N6,l0⟩:=mo.at (He (l:=l) (i:=5) (by omega))
 have cQ:l.getD 5 0=l[5]'(by omega):=by rw[pD,gF (by omega)];rfl
 have avB:=GY (l[5]'(by omega))
 refine ⟨_,rfl,ai7,iL,⟨by decide,by omega⟩,_,l0,?_⟩
 rw[cz (n:=(((l[5]'(by omega)).toNat:Nat):Int)) (by omega) (by omega),cz (n:=((jn l 6 2:Nat):Int)) (by omega) (by omega)]
 refine Calls.mono (W.YG (((l[5]'(by omega)).toNat:Nat):Int) aw (fun v w'=>v= .bool (decide (1≤(l[5]'(by omega)).toNat∧(l[5]'(by omega)).toNat≤4))∧aw=w') ⟨?_,rfl⟩) ?_
 · have e:(decide ((((l[5]'(by omega)).toNat:Nat):Int)≥1)&&decide ((((l[5]'(by omega)).toNat:Nat):Int)≤4))=decide (1≤(l[5]'(by omega)).toNat∧(l[5]'(by omega)).toNat≤4):=by
     rw[pc]
     simp only[jD,fu]
     omega
   rw[e]
 rintro _ _ ⟨_,rfl,rfl,rfl⟩
 have oW:24+jn l 6 2≤256→True:=fun _=>trivial
 refine ⟨_,rfl,eA (fun b w'=>b=decide (¬(1≤(l[5]'(by omega)).toNat∧(l[5]'(by omega)).toNat≤4)∨232<jn l 6 2∨(l.drop (24+jn l 6 2)).all (fun c=>c==0)=false)∧aw=w') (fun q J=>⟨fun U=>J _ _ ⟨?_,rfl⟩,fun U=> ?_⟩) ?_⟩
 · refine (iy ?_).symm
   simp only[u_,zX,tS,fu] at U
   rcases U with U|U
   · exact .inl U
   · exact .inr (.inl (by omega))
 · simp only[Nv,Bool.not_eq_false',tS,fu] at U
   have ai8:jn l 6 2≤232:=by omega
   rw[cz (n:=24+((jn l 6 2:Nat):Int)) (by omega) (by omega)]
   refine ⟨⟨by omega,by omega⟩,?_⟩
   have Sp:Int.toNat (24+((jn l 6 2:Nat):Int))=24+jn l 6 2:=by omega
   rw[Sp]
   have Ak:=Ct mo al (lo:=24+jn l 6 2) (hi:=s.len) (by omega) (by omega)
   rw[gX (l:=l.drop (24+jn l 6 2)) (by rw[fG];omega)] at Ak
   refine (yu Ak (by rw[fG];omega)).use ?_
   rintro _ _ ⟨rfl,rfl⟩
   refine ⟨_,rfl,J _ _ ⟨?_,rfl⟩⟩
   cases fx:(l.drop (24+jn l 6 2)).all (fun c=>c==0) with
   |true=>exact (sW (by rintro (ad|ad|ad)<;>first|exact ad U.1|omega|cases ad)).symm
   |false=>exact (iy (.inr (.inr rfl))).symm
 rintro b _ ⟨rfl,rfl⟩
 refine ⟨fun h=>out _ _ cA ?_,fun h=> ?_⟩
 · have h:=dD h
   unfold mv
   rw[if_neg (by omega),if_neg (by simp[hm]),if_neg (fun h=>h aJ),if_neg (by omega),if_pos (by rw[cQ];exact h)]
 have ae:=eW h
 have lZ:¬(¬(1≤(l.getD 5 0).toNat∧(l.getD 5 0).toNat≤4)∨232<jn l 6 2∨(l.drop (24+jn l 6 2)).all (fun c=>c==0)=false):=by rw[cQ];exact ae
 have ai8:jn l 6 2≤232:=by
   rcases g6 232 (jn l 6 2) with U|U
   · exact absurd (.inr (.inl U)) ae
   · exact U
 have avC:1≤(l[5]'(by omega)).toNat∧(l[5]'(by omega)).toNat≤4:=RI fun h=>ae (.inl h)
 refine Calls.mono (W.YF no aw (fun v w'=>v= .bool (decide (0≤no∧no<1600))∧aw=w') ⟨by simp[ge_iff_le],rfl⟩) ?_
 rintro _ _ ⟨_,rfl,rfl,rfl⟩
 have avD:jn l 8 4<4294967296:=JQ 4 _ (by simp;omega)
 refine ⟨_,rfl,eA (fun b w'=>b=decide (¬(0≤no∧no<1600)∨(jn l 8 4:Int)≠no)∧aw=w') (fun q J=>⟨fun U=>J _ _ ⟨?_,rfl⟩,fun U=> ?_⟩) ?_⟩
 · refine (iy ?_).symm
   simp only[zX,tS] at U
   exact .inl U
 · simp only[Bool.not_eq_false',fu] at U
   refine (rC mo al (a:=8) (k:=4) (e:=12) rfl (by decide) (by omega) az).use ?_
   rintro _ _ ⟨rfl,rfl⟩
   refine ⟨_,rfl,J _ _ ⟨?_,rfl⟩⟩
   rw[wK (n:=no) (by omega) (by omega),pc,fu,bne_iff_ne]
   exact ⟨fun h=> .inr h,fun h=>h.resolve_left (fun ad=>ad U)⟩
 rintro b _ ⟨rfl,rfl⟩
 refine ⟨fun h=>out _ _ cA ?_,fun h=> ?_⟩
 · have h:=dD h
   unfold mv
   rw[if_neg (by omega),if_neg (by simp[hm]),if_neg (fun h=>h aJ),if_neg (by omega),if_neg lZ,if_pos h]
 have ai9:=eW h
 have dM:mv no l= .ok ⟨(l.getD 5 0).toNat,jn l 12 8,(l.drop 24).take (jn l 6 2)⟩:=by
   unfold mv
   rw[if_neg (by omega),if_neg (by simp[hm]),if_neg (fun h=>h aJ),if_neg (by omega),if_neg lZ,if_neg ai9]
 refine (yn mo al (a:=24) (k:=jn l 6 2) (by omega) (by omega)).use ?_
 rintro _ aS ⟨bY,rfl,sk,eU,sm⟩
 have bA:=dL aS
 have dS:=cA.trans (eU.trans bA)
 have vn:=ky.ext dS
 obtain ⟨ai_,N7,avE,qN⟩:=vn.at (He (l:=l) (i:=5) (by omega))
 refine ⟨bY,true,rfl,bL ⟨fun _=>False,ai_,N7,⟨by decide,by omega⟩,id,_,qN,(rC vn al (a:=12) (k:=8) (e:=20) rfl (by decide) (by omega) az).use ?_⟩⟩
 rintro _ _ ⟨rfl,rfl⟩
 rw[cz (n:=(((l[5]'(by omega)).toNat:Nat):Int)) (by omega) (by omega)]
 refine ⟨_,rfl, .refl _ _,YN _ _ bY (ak.ext dS) rfl (K:=fun bk fL bJ aw=>(fun v w'=>N4 (mv no l) w w' v∧Ext w w') (.tuple #[.agg #[.int .i64 bk, .int .u64 fL, .slice bJ.a bJ.len bJ.cap], .int .i64 0]) aw) fun bp vm=>⟨?_,Ext.eX (bD.trans dS) vm (cV _)⟩⟩
 rw[dM]
 refine ⟨bY,by rw[cQ];rfl,(sk.ext bA).an vm fun k ae e=> ?_,sm.mono (bD.trans cA).size⟩
 have:=sm k ae
 have:=ak.lt
 have:=cA.size
 subst e
 omega
end
section
theorem YQ {P:Program} {w:World}:∀ (l:List UInt8) (a:Addr) (acc:ByteArray),(∀j x,l[j]? =some x→w.cell? (a.add j)=some (.int .u8 ((x.toNat:Nat):Int)))→
   (Extern.Bytes.loadBytes a l.length acc).run P w= .ok ⟨acc.data++l.toArray⟩ w
 | [],a,acc,_=>by simp[Extern.Bytes.loadBytes]
 |x::l,a,acc,h=>by
   have b7:=h 0 x rfl
   rw[add_zero'] at b7
   have du:=YQ (P:=P) l (a.add 1) (acc.push x) (fun j y b3=>by
     rw[add_add,Nat.add_comm]
     exact h (j+1) y (by simpa using b3))
   have af:((x.toNat:Nat):Int).toNat.toUInt8=x:=ail x
   simp only[ld,Extern.Bytes.loadBytes,Sem.run_bind,Sq b7,Result.andThen,af]
   rw[du]
   congr 2
   simp[ByteArray.push]
theorem YR {P:Program} {w:World} {s:aa} {l:List UInt8} (h:Src 1 w s (bn l)):(Extern.Bytes.bytesOf (.slice s.a s.len s.cap)).run P w= .ok (S l) w:=by
 cases aj:s.a with
 |none=>
   have b7:l=[]:=by
     have:=h.nil aj
     cases l with
     |nil=>rfl
     |cons a l=>simp[bn] at this
   subst b7
   rfl
 |some A=>
   have aN:=h.rd A aj
   rw[lU] at aN
   have:=YQ (P:=P) (w:=w) l A .empty (fun j x a_=>by
     have:=Hi aN (j:=j) (v:= .int .u8 ((x.toNat:Nat):Int)) (by simp[bn,a_])
     simpa using this)
   show (Extern.Bytes.loadBytes A s.len .empty).run P w=_
   rw[len8 h,this]
   congr 1
   show (ByteArray.mk (ByteArray.empty.data++l.toArray))=ByteArray.mk l.toArray
   congr 1
   exact Array.empty_append ..
theorem YS:∀a b:Key,Lib.compareBytes a b=iz a b
 | [],[]=>rfl
 | [],_::_=>rfl
 |_::_,[]=>rfl
 |a::x,b::y=>by
   simp only[Lib.compareBytes,iz,UInt8.lt_iff_toNat_lt,YS x y]
theorem m9 {s t:aa} {l m:Key} {w:World} (aj:Src 1 w s (bn l)) (aV:Src 1 w t (bn m)):
   aQ Tryz.prog F.m9 #[.slice s.a s.len s.cap, .slice t.a t.len t.cap] w (fun v w'=>v= .int .i64 (iz l m)∧w=w'):=by
 refine W.aja s t w _ ?_
 unfold W.m9
 refine ⟨iz l m,w,?_,rfl,rfl⟩
 rw[run_callFunc_extern Tryz.func113 rfl rfl rfl rfl]
 have:(Extern.BytealgCompare.compare #[.slice s.a s.len s.cap, .slice t.a t.len t.cap]).run Tryz.prog w= .ok (.int .i64 (iz l m)) w:=by
   change Sem.run Tryz.prog (do pure (goInt (Extern.BytealgCompare.cmp (←Extern.Bytes.bytesOf (.slice s.a s.len s.cap)) (←Extern.Bytes.bytesOf (.slice t.a t.len t.cap))))) w=_
   simp only[Sem.run_bind,YR aj,YR aV,Result.andThen,Sem.run_pure]
   rw[Lib.cmp_eq]
   show Result.ok (goInt (Lib.compareBytes l m)) w=_
   rw[YS];rfl
 rw[this]
 rfl
theorem wN {s:aa} {l:List UInt8} {w:World} (h:Src 1 w s (bn l)):Sem.run Tryz.prog (convert ah.cm ah.string (.slice s.a s.len s.cap)) w= .ok (.string (S l)) w:=by
 have qh:Src 1 w s ((l.map fun b=>((b.toNat:Nat):Int)).map (.int .u8)):=by rw[EG];exact h
 have:=Yp (src:=ah.cm) (dst:=ah.string) (by kernel_rfl) (by kernel_rfl) qh
 rw[EG] at this
 have e:((fun n:Int=>UInt8.ofNat n.toNat)∘fun b:UInt8=>((b.toNat:Nat):Int))=id:=by funext b;simp
 rw[e,List.map_id] at this
 exact this
theorem yx {s t:aa} {l m:Key} {w:World} (aj:Src 1 w s (bn l)) (aV:Src 1 w t (bn m)):
   aQ Tryz.prog F.yx #[.slice s.a s.len s.cap, .slice t.a t.len t.cap] w (fun v w'=>v= .bool (decide (l=m))∧w=w'):=by
 refine W.ajb s t w _ ?_
 unfold W.yx
 refine ⟨_,_,wN aj,_,_,wN aV,?_,rfl⟩
 rw[CA]
 congr 1
 rw[pc];simp
def In (B:Nat→Prop) (w:World) (s:aa):Prop:=∀k,aO s k→B k∧k<w.heap.size
def bF (B:Nat→Prop) (w:World) (t:aa) (l:Key):Prop:=Src 1 w t (bn l)∧t.len≤t.cap∧In B w t
def bZ (B:Nat→Prop) (w:World) (s:aa) (ls:List Key):Prop:=
 ∃ts:List aa,ts.length=ls.length∧Src 1 w s (ts.map pL)∧s.len≤s.cap∧In B w s∧∀ (i:Nat) (U:i<ts.length) (ad:i<ls.length),bF B w ts[i] ls[i]
def gU (ds:List Nat):List Value:=ds.map fun d=> .int .i64 ((d:Nat):Int)
def eo (B:Nat→Prop) (w:World) (s:aa) (ds:List Nat):Prop:=Src 1 w s (gU ds)∧s.len≤s.cap∧In B w s
def b4 (B:Nat→Prop) (w:World) (s:aa) (ls:List Key):Prop:=
 ∃ts:List aa,ts.length=ls.length∧bV 1 ah.cm w s (ts.map pL)∧In B w s∧∀ (i:Nat) (U:i<ts.length) (ad:i<ls.length),bF B w ts[i] ls[i]∧∀k,aO ts[i] k→¬aO s k
def eO (B:Nat→Prop) (w:World) (s:aa) (ds:List Nat):Prop:=bV 1 ah.int w s (gU ds)∧In B w s
section
variable {B C:Nat→Prop} {w w':World} {s t:aa} {l:Key} {ls:List Key} {ds:List Nat}
theorem In.an {V:Nat→Prop} (h:In B w s) (al:ao V w w'):In B w' s:=fun k ae=>⟨(h k ae).1,lE (h k ae).2 al.size⟩
theorem In.bz (h:In B w s) (ab:∀k,k<w.heap.size→B k→C k):In C w s:=fun k ae=>⟨ab k (h k ae).2 (h k ae).1,(h k ae).2⟩
theorem bF.an {V:Nat→Prop} (h:bF B w t l) (al:ao V w w') (ab:∀k,B k→¬V k):bF B w' t l:=⟨h.1.an al fun k ae=>ab k (h.2.2 k ae).1,h.2.1,In.an h.2.2 al⟩
theorem bF.qO {V:Nat→Prop} (h:bF B w t l) (al:ao V w w') (ab:∀k,aO t k→¬V k):bF B w' t l:=⟨h.1.an al ab,h.2.1,In.an h.2.2 al⟩
theorem bF.ext (h:bF B w t l) (al:Ext w w'):bF B w' t l:=bF.an h al fun _ _ h=>h
theorem bF.bz (h:bF B w t l) (ab:∀k,k<w.heap.size→B k→C k):bF C w t l:=⟨h.1,h.2.1,In.bz h.2.2 ab⟩
theorem bZ.an {V:Nat→Prop} (h:bZ B w s ls) (al:ao V w w') (ab:∀k,B k→¬V k):bZ B w' s ls:=by
 obtain ⟨ts,U,ad,au,aJ,a6⟩:=h
 exact ⟨ts,U,ad.an al fun k ae=>ab k (aJ k ae).1,au,In.an aJ al,fun i b8 iA=>bF.an (a6 i b8 iA) al ab⟩
theorem bZ.ext (h:bZ B w s ls) (al:Ext w w'):bZ B w' s ls:=bZ.an h al fun _ _ h=>h
theorem bZ.bz (h:bZ B w s ls) (ab:∀k,k<w.heap.size→B k→C k):bZ C w s ls:=by
 obtain ⟨ts,U,ad,au,aJ,a6⟩:=h
 exact ⟨ts,U,ad,au,In.bz aJ ab,fun i b8 iA=>bF.bz (a6 i b8 iA) ab⟩
theorem eo.an {V:Nat→Prop} (h:eo B w s ds) (al:ao V w w') (ab:∀k,B k→¬V k):eo B w' s ds:=⟨h.1.an al fun k ae=>ab k (h.2.2 k ae).1,h.2.1,In.an h.2.2 al⟩
theorem eo.ext (h:eo B w s ds) (al:Ext w w'):eo B w' s ds:=eo.an h al fun _ _ h=>h
theorem eo.bz (h:eo B w s ds) (ab:∀k,k<w.heap.size→B k→C k):eo C w s ds:=⟨h.1,h.2.1,In.bz h.2.2 ab⟩
theorem bZ.len (h:bZ B w s ls):s.len=ls.length:=by
 obtain ⟨ts,U,ad,_⟩:=h
 have:=ad.len
 rw[lf] at this;omega
theorem Al (ds:List Nat):(gU ds).length=ds.length:=by simp[gU]
theorem eo.len (h:eo B w s ds):s.len=ds.length:=by
 have:=h.1.len
 rw[Al] at this;omega
theorem bZ.at (h:bZ B w s ls) {i:Nat} (hi:i<ls.length):∃ (A:Addr) (t:aa),s.a=some A∧((0:Int)≤(i:Int)∧(i:Int)<((s.len:Nat):Int))∧w.cell? (A.add (Int.toNat (i:Int)*1))=some (.slice t.a t.len t.cap)∧bF B w t ls[i]∧B A.block:=by
 obtain ⟨ts,U,ad,au,aJ,a6⟩:=h
 obtain ⟨A,ax,ab,al⟩:=ad.at (i:=i) (v:=pL (ts[i]'(by omega))) (by simp[U,hi])
 exact ⟨A,ts[i]'(by omega),ax,ab,al,a6 i (by omega) hi,(aJ _ ⟨A,ax,rfl⟩).1⟩
theorem eo.at (h:eo B w s ds) {i:Nat} (hi:i<ds.length):∃A:Addr,s.a=some A∧((0:Int)≤(i:Int)∧(i:Int)<((s.len:Nat):Int))∧w.cell? (A.add (Int.toNat (i:Int)*1))=some (.int .i64 ((ds[i]:Nat):Int)):=by
 obtain ⟨A,ax,ab,al⟩:=h.1.at (i:=i) (v:= .int .i64 ((ds[i]:Nat):Int)) (by simp[gU,hi])
 exact ⟨A,ax,ab,al⟩
theorem b4.qP (h:b4 B w s ls):bZ B w s ls:=by
 obtain ⟨ts,U,ad,au,aJ⟩:=h
 exact ⟨ts,U,ad.src,ad.2.1,au,fun i a6 b8=>(aJ i a6 b8).1⟩
theorem eO.Hn (h:eO B w s ds):eo B w s ds:=⟨h.1.src,h.1.2.1,h.2⟩
theorem b4.none (B:Nat→Prop) (w:World):b4 B w ⟨.none,0,0⟩ []:=⟨[],rfl,bV.none _ _ _,fun k ae=>(qJ k ae).elim,fun i h=>by simp at h⟩
theorem eO.none (B:Nat→Prop) (w:World):eO B w ⟨.none,0,0⟩ []:=⟨bV.none _ _ _,fun k ae=>(qJ k ae).elim⟩
theorem bZ.none (B:Nat→Prop) (w:World):bZ B w ⟨.none,0,0⟩ []:=b4.qP (b4.none B w)
theorem eo.none (B:Nat→Prop) (w:World):eo B w ⟨.none,0,0⟩ []:=eO.Hn (eO.none B w)
theorem b4.an {V:Nat→Prop} (h:b4 B w s ls) (al:ao V w w') (ab:∀k,B k→¬V k):b4 B w' s ls:=by
 obtain ⟨ts,U,ad,au,aJ⟩:=h
 exact ⟨ts,U,ad.an al fun k ae=>ab k (au k ae).1,In.an au al,fun i a6 b8=>⟨bF.an (aJ i a6 b8).1 al ab,(aJ i a6 b8).2⟩⟩
theorem b4.ext (h:b4 B w s ls) (al:Ext w w'):b4 B w' s ls:=b4.an h al fun _ _ h=>h
theorem eO.an {V:Nat→Prop} (h:eO B w s ds) (al:ao V w w') (ab:∀k,B k→¬V k):eO B w' s ds:=⟨h.1.an al fun k ae=>ab k (h.2 k ae).1,In.an h.2 al⟩
theorem eO.ext (h:eO B w s ds) (al:Ext w w'):eO B w' s ds:=eO.an h al fun _ _ h=>h
theorem bF.some (h:bF B w t l) (az:l≠ []):∃A,t.a=some A:=by
 cases aR:t.a with
 |none=>
   have:=h.1.nil aR
   exfalso
   apply az
   cases l with
   |nil=>rfl
   |cons a l=>simp[bn] at this
 |some A=>exact ⟨A,rfl⟩
end
theorem Ho:qf Tryz.prog ah.cL ah.cm 1 24:=⟨by kernel_rfl⟩
theorem JY:qf Tryz.prog ah.eg ah.int 1 8:=⟨by kernel_rfl⟩
theorem N8 (ts:List aa):∀v∈ts.map pL,Plain v:=by
 intro v ak
 obtain ⟨n,_,rfl⟩:=nq.1 ak
 trivial
theorem Sr (ds:List Nat):∀v∈gU ds,Plain v:=by
 intro v ak
 obtain ⟨n,_,rfl⟩:=nq.1 ak
 trivial
theorem vo {B:Nat→Prop} {w:World} {s:aa} {l:List UInt8} (h:Src 1 w s (bn l)) (az:l.length≤1000000) (fw:∀k,w.heap.size≤k→B k):
   aQ Tryz.prog F.mu #[.slice s.a s.len s.cap] w (fun v w'=>∃ar:aa,v= .slice ar.a ar.len ar.cap∧bF B w' ar l∧Ext w w'∧oU w ar):=by
 refine (R4 h az).mono ?_
 rintro _ w' ⟨ar,rfl,bQ,af,aH⟩
 exact ⟨ar,rfl,⟨bQ.src,bQ.2.1,fun k ae=>⟨fw k (aH k ae),bQ.lt k ae⟩⟩,af,aH⟩
theorem YT {B:Nat→Prop} {w:World} {s t:aa} {ls:List Key} {l:Key} (bQ:b4 B w s ls) (aV:bF B w t l) (hd:∀k,aO t k→¬aO s k) (aD:ls.length≤1000000) (fw:∀k,w.heap.size≤k→B k):
   ∃ (ar:aa) (w':World),Sem.run Tryz.prog (Builtin.append_ #[ah.cL,ah.cL] ah.cL #[.slice s.a s.len s.cap, .slice (some ⟨w.heap.size,0,none⟩) 1 1]) (w.alloc (.cells #[.slice t.a t.len t.cap] ah.cm))= .ok (.slice ar.a ar.len ar.cap) w'∧
     b4 B w' ar (ls++ [l])∧ao (aO s) w w'∧(∀k,aO ar k→aO s k∨w.heap.size≤k):=by
 obtain ⟨ts,U,ad,au,aJ⟩:=bQ
 have gw:s.len=ls.length:=by have:=ad.1;rw[lf] at this;omega
 obtain ⟨ar,w',aA,aE,aI,aL,cQ⟩:=Ho.push (eB:=ah.cL) (w:=w) (s:=s) (xs:=[pL t]) rfl ad (fun v ak=>by rw[lV.1 ak];trivial) (by omega)
 refine ⟨ar,w',aA,⟨ts++ [t],by simp[U],?_,?_,fun i a6 b8=> ?_⟩,aL,cQ⟩
 · rw[om];exact aE
 · intro k ae
   refine ⟨?_,aE.lt k ae⟩
   rcases cQ k ae with h|h
   · exact (au k h).1
   · exact fw k h
 · have my:∀ (x:aa),(∀k,aO x k→k<w.heap.size)→(∀k,aO x k→¬aO s k)→∀k,aO x k→¬aO ar k:=fun x af cA k ae eC=>by
     rcases cQ k eC with h|h
     · exact cA k ae h
     · have:=af k ae;omega
   have ajc:i<ts.length+1:=by simpa using a6
   rcases g6 i ts.length with h|h
   · obtain ⟨iA,ox⟩:=aJ i h (by omega)
     simp only[zY h,zY (show i<ls.length by omega)]
     exact ⟨bF.qO iA aL ox,my _ (fun k ae=>(iA.2.2 k ae).2) ox⟩
   · have:i=ts.length:=by omega
     subst this
     have e:(ts++ [t])[ts.length]'a6=t:=by simp
     have:(ls++ [l])[ts.length]'b8=l:=by rw[EH (by omega)];simp
     rw[this,e]
     exact ⟨bF.qO aV aL hd,my _ (fun k ae=>(aV.2.2 k ae).2) hd⟩
theorem ajd {B:Nat→Prop} {w:World} {s:aa} {ds:List Nat} (d:Nat) (bQ:eO B w s ds) (aD:ds.length≤1000000) (fw:∀k,w.heap.size≤k→B k):
   ∃ (ar:aa) (w':World),Sem.run Tryz.prog (Builtin.append_ #[ah.eg,ah.eg] ah.eg #[.slice s.a s.len s.cap, .slice (some ⟨w.heap.size,0,none⟩) 1 1]) (w.alloc (.cells #[.int .i64 ((d:Nat):Int)] ah.int))= .ok (.slice ar.a ar.len ar.cap) w'∧
     eO B w' ar (ds++ [d])∧ao (aO s) w w'∧(∀k,aO ar k→aO s k∨w.heap.size≤k):=by
 have gw:s.len=ds.length:=by have:=bQ.1.1;rw[Al] at this;omega
 obtain ⟨ar,w',aA,aE,aI,aL,cQ⟩:=JY.push (eB:=ah.eg) (w:=w) (s:=s) (xs:=[.int .i64 ((d:Nat):Int)]) rfl bQ.1 (fun v ak=>by rw[lV.1 ak];trivial) (by omega)
 refine ⟨ar,w',aA,⟨by simpa[gU] using aE,fun k ae=>⟨?_,aE.lt k ae⟩⟩,aL,cQ⟩
 rcases cQ k ae with h|h
 · exact (bQ.2 k h).1
 · exact fw k h
structure cd (B:Nat→Prop) (w:World) (n:aM) (K V D:aa):Prop where
 keys:bZ B w K n.keys
 vals:bZ B w V n.vals
 kids:eo B w D n.kids
def gZ (n:aM) (K V D:aa):List Value:=[.bool n.leaf, .slice K.a K.len K.cap, .slice V.a V.len V.cap, .slice D.a D.len D.cap]
def e9 (n:aM) (K V D:aa):Value:= .agg #[.bool n.leaf, .slice K.a K.len K.cap, .slice V.a V.len V.cap, .slice D.a D.len D.cap]
section
variable {B C:Nat→Prop} {w w':World} {n:aM} {K V D:aa}
theorem cd.an {W:Nat→Prop} (h:cd B w n K V D) (al:ao W w w') (ab:∀k,B k→¬W k):cd B w' n K V D:=⟨bZ.an h.keys al ab,bZ.an h.vals al ab,eo.an h.kids al ab⟩
theorem cd.ext (h:cd B w n K V D) (al:Ext w w'):cd B w' n K V D:=cd.an h al fun _ _ h=>h
theorem cd.bz (h:cd B w n K V D) (ab:∀k,k<w.heap.size→B k→C k):cd C w n K V D:=⟨bZ.bz h.keys ab,bZ.bz h.vals ab,eo.bz h.kids ab⟩
theorem cj {b:Nat} {T:TypeId} {leaf:Bool} (h:Var w b [.bool leaf, .slice K.a K.len K.cap, .slice V.a V.len V.cap, .slice D.a D.len D.cap] T):
   w.cell? ⟨b,0,none⟩=some (.bool leaf)∧w.cell? (Addr.add ⟨b,0,none⟩ 1)=some (.slice K.a K.len K.cap)∧w.cell? (Addr.add ⟨b,0,none⟩ 2)=some (.slice V.a V.len V.cap)∧w.cell? (Addr.add ⟨b,0,none⟩ 3)=some (.slice D.a D.len D.cap):=by
 rw[aW,aW,aW]
 exact ⟨h.cell,h.cell,h.cell,h.cell⟩
end
end
section
theorem aje {B:Nat→Prop} {w:World} {s:aa} {ls:List Key} (h:bZ B w s ls) (aD:ls.length≤1000000):
   aQ Tryz.prog F.CC #[.slice s.a s.len s.cap, .func (.func F.wO) #[] #[]] w (fun v w'=>v= .bool (ls.any fun v=>decide (24<v.length))∧w=w'):=by
 refine W.ajf s ⟨F.wO, #[], #[]⟩ w _ ?_
 (delta W.CC aT;dsimp only)
 have az:=bZ.len h
 have vp:tY Tryz.prog F.wO:=⟨_,(Option.some_get (show (Tryz.prog.funcs[F.wO]?).isSome=true by kernel_rfl)).symm,by kernel_rfl,by kernel_rfl⟩
 refine Calls.mono (W.ajg s ⟨F.wO, #[], #[]⟩ w (fun v w'=>(∃i:Int,v= .int .i64 i∧(decide (i≥0))=(ls.any fun v=>decide (24<v.length)))∧w=w') ?_) ?_
 · (delta W.E1 aB a7 aq aC;dsimp only)
   refine ⟨fun i w'=>∃j:Nat,i=j∧j≤ls.length∧w=w'∧∀ (k:Nat) (ae:k<ls.length),k<j→(ls[k]).length≤24,fun i _=>((ls.length:Int)-i).toNat,⟨0,rfl,fl _,rfl,fun k ae h=>by omega⟩,?_⟩
   rintro _ _ ⟨j,rfl,a_,rfl,fx⟩
   refine ⟨fun bd=> ?_,fun cg=> ?_⟩
   · have bd:j<ls.length:=by have:=dD bd;omega
     obtain ⟨A,t,ax,ab,al,aV,_⟩:=bZ.at h bd
     refine ⟨A,ax,ab,t,al,vp,?_⟩
     have nu:=len8 aV.1
     refine Calls.mono (W.ajh t w (fun v w'=>v= .bool (decide (24<(ls[j]).length))∧w=w') ⟨?_,rfl⟩) ?_
     · congr 1
       rw[pc,fu,fu];omega
     rintro _ _ ⟨_,rfl,rfl,rfl⟩
     refine ⟨_,rfl,fun ab=>⟨⟨j,rfl,?_⟩,rfl⟩,fun ab=> ?_⟩
     · have:(ls.any fun v=>decide (24<v.length))=true:=List.any_eq_true.2 ⟨_,fg bd,ab⟩
       rw[this];exact iy (by omega)
     · have ab:=eW ab
       rw[cz (n:=(j:Int)+1) (by omega) (by omega)]
       refine ⟨⟨j+1,by omega,by omega,rfl,fun k ae h=> ?_⟩,?_⟩
       · rcases g6 k j with U|U
         · exact fx k ae U
         · have:k=j:=by omega
           subst this;omega
       · show ((ls.length:Int)-((j:Int)+1)).toNat<((ls.length:Int)-(j:Int)).toNat
         omega
   · have cg:j=ls.length:=by have:=eW cg;omega
     subst cg
     refine ⟨⟨-1,rfl,?_⟩,rfl⟩
     have:(ls.any fun v=>decide (24<v.length))=false:=by
       rw[JG]
       intro x af
       obtain ⟨k,ae,rfl⟩:=m3 af
       have:=fx k ae ae
       simp;omega
     rw[this];rfl
 · rintro _ _ ⟨_,rfl,⟨i,rfl,hi⟩,rfl⟩
   exact ⟨i,rfl,by rw[hi],rfl⟩
theorem aji {B:Nat→Prop} {w:World} {s:aa} {ds:List Nat} (h:eo B w s ds) (aD:ds.length≤1000000):
   aQ Tryz.prog F.CD #[.slice s.a s.len s.cap, .func (.func F.wP) #[] #[]] w (fun v w'=>v= .bool (ds.any fun d=>decide (1600≤d))∧w=w'):=by
 refine W.ajj s ⟨F.wP, #[], #[]⟩ w _ ?_
 (delta W.CD aT;dsimp only)
 have az:=eo.len h
 have vp:tY Tryz.prog F.wP:=⟨_,(Option.some_get (show (Tryz.prog.funcs[F.wP]?).isSome=true by kernel_rfl)).symm,by kernel_rfl,by kernel_rfl⟩
 refine Calls.mono (W.ajk s ⟨F.wP, #[], #[]⟩ w (fun v w'=>(∃i:Int,v= .int .i64 i∧(decide (i≥0))=(ds.any fun d=>decide (1600≤d)))∧w=w') ?_) ?_
 · (delta W.E2 aB a7 bI aC;dsimp only)
   refine ⟨fun i w'=>∃j:Nat,i=j∧j≤ds.length∧w=w'∧∀ (k:Nat) (ae:k<ds.length),k<j→ds[k]<1600,fun i _=>((ds.length:Int)-i).toNat,⟨0,rfl,fl _,rfl,fun k ae h=>by omega⟩,?_⟩
   rintro _ _ ⟨j,rfl,a_,rfl,fx⟩
   refine ⟨fun bd=> ?_,fun cg=> ?_⟩
   · have bd:j<ds.length:=by have:=dD bd;omega
     obtain ⟨A,ax,ab,al⟩:=eo.at h bd
     refine ⟨A,ax,ab,_,al,vp,?_⟩
     refine Calls.mono (W.ajl ((ds[j]:Nat):Int) w (fun v w'=>v= .bool (decide (1600≤ds[j]))∧w=w') ⟨?_,rfl⟩) ?_
     · congr 1
       rw[pc,u_,fu,fu,fu];omega
     rintro _ _ ⟨_,rfl,rfl,rfl⟩
     refine ⟨_,rfl,fun ab=>⟨⟨j,rfl,?_⟩,rfl⟩,fun ab=> ?_⟩
     · have:(ds.any fun d=>decide (1600≤d))=true:=List.any_eq_true.2 ⟨_,fg bd,ab⟩
       rw[this];exact iy (by omega)
     · have ab:=eW ab
       rw[cz (n:=(j:Int)+1) (by omega) (by omega)]
       refine ⟨⟨j+1,by omega,by omega,rfl,fun k ae h=> ?_⟩,?_⟩
       · rcases g6 k j with U|U
         · exact fx k ae U
         · have:k=j:=by omega
           subst this;omega
       · show ((ds.length:Int)-((j:Int)+1)).toNat<((ds.length:Int)-(j:Int)).toNat
         omega
   · have cg:j=ds.length:=by have:=eW cg;omega
     subst cg
     refine ⟨⟨-1,rfl,?_⟩,rfl⟩
     have:(ds.any fun d=>decide (1600≤d))=false:=by
       rw[JG]
       intro x af
       obtain ⟨k,ae,rfl⟩:=m3 af
       have:=fx k ae ae
       simp;omega
     rw[this];rfl
 · rintro _ _ ⟨_,rfl,⟨i,rfl,hi⟩,rfl⟩
   exact ⟨i,rfl,by rw[hi],rfl⟩
theorem YU:∀ {l:List Key},(∀ (i:Nat) (h:i+1<l.length),cw l[i] l[i+1])→l.Pairwise cw
 | [],_=> .nil
 |a::l,h=>by
   have du:=YU (l:=l) fun i hi=>h (i+1) (by simpa using hi)
   refine r9.2 ⟨fun b ab=> ?_,du⟩
   cases l with
   |nil=>simp at ab
   |cons c l=>
     have b7:cw a c:=h 0 (by simp)
     rcases gb.1 ab with rfl|ab
     · exact b7
     · exact yh b7 ((r9.1 du).1 b ab)
instance (k:Key):Decidable (eM k):=by unfold eM;infer_instance
theorem vq {w:World} {t:aa} {l:Key} (h:Src 1 w t (bn l)):aQ Tryz.prog F.vq #[.slice t.a t.len t.cap] w (fun v w'=>v= .bool (decide (eM l))∧w=w'):=by
 have az:=len8 h
 refine W.ajm t w _ ?_
 unfold W.vq
 refine ⟨?_,rfl⟩
 congr 1
 rw[pc,jD,fu,fu,fu]
 unfold eM
 omega
theorem nS {B:Nat→Prop} {w:World} {n:aM} {K V D:aa} (h:cd B w n K V D) (U:n.keys.length≤100000) (ad:n.vals.length≤100000) (au:n.kids.length≤100000):
   aQ Tryz.prog F.nS #[e9 n K V D] w (fun v w'=>∃b:Bool,v= .bool b∧(b=true↔ef n)∧Ext w w'):=by
 refine W.ajn n.leaf K V D w _ ?_
 (delta W.nS aq ai aB a7 ba aC aT bS;dsimp only)
 refine cn (vs:=[.bool n.leaf, .slice K.a K.len K.cap, .slice V.a V.len V.cap, .slice D.a D.len D.cap]) rfl fun ag ak bD _=> ?_
 obtain ⟨cH,aT,bC,ba⟩:=cj ak
 have aD:=h.ext bD
 have CE:=bZ.len aD.keys
 have iM:=bZ.len aD.vals
 have cR:=eo.len aD.kids
 refine ⟨K,aT,fun i w'=>∃j:Nat,i=j∧j≤n.keys.length∧ag=w'∧(∀ (k:Nat) (ae:k<n.keys.length),k<j→eM n.keys[k])∧∀ (k:Nat) (ae:k+1<n.keys.length),k+1<j→cw n.keys[k] n.keys[k+1],
   fun i _=>((n.keys.length:Int)-i).toNat,⟨0,rfl,fl _,rfl,fun k ae h=>by omega,fun k ae h=>by omega⟩,?_⟩
 rintro _ _ ⟨j,rfl,a_,rfl,dM,YV⟩
 refine ⟨fun bd=> ?_,fun cg=> ?_⟩
 · have bd:j<n.keys.length:=by have:=dD bd;omega
   obtain ⟨A,t,ax,ab,al,aV,_⟩:=bZ.at aD.keys bd
   refine ⟨A,ax,ab,t,al,(vq aV.1).use ?_⟩
   rintro _ _ ⟨rfl,rfl⟩
   refine ⟨_,rfl,eA (fun b w'=>ag=w'∧(b=true→¬ef n)∧(b=false→eM n.keys[j]∧∀ (a_:1≤j),cw (n.keys[j-1]'(by omega)) n.keys[j])) (fun q J=>⟨fun ab=> ?_,fun ab=> ?_⟩) ?_⟩
   · have ab:¬eM n.keys[j]:=by simpa using ab
     exact J _ _ ⟨rfl,fun _ aj=>ab (aj.keys.ok _ (fg bd)),fun h=>by cases h⟩
   · have ab:eM n.keys[j]:=by simpa using ab
     refine eA (fun b w'=>ag=w'∧(b=true→¬ef n)∧(b=false→∀ (a_:1≤j),cw (n.keys[j-1]'(by omega)) n.keys[j])) (fun iB hF=>⟨fun b7=> ?_,fun b7=> ?_⟩) ?_
     · have b7:1≤j:=by have:=dD b7;omega
       rw[cz (n:=(j:Int)-1) (by omega) (by omega),show (j:Int)-1=((j-1:Nat):Int) by omega]
       obtain ⟨Am,t2,lF,gT,dY,nT,_⟩:=bZ.at aD.keys (i:=j-1) (by omega)
       refine ⟨K,aT,Am,lF,gT,t2,dY,(m9 nT.1 aV.1).use ?_⟩
       rintro _ _ ⟨rfl,rfl⟩
       refine ⟨_,rfl,hF _ _ ⟨rfl,fun al aj=> ?_,fun al _=> ?_⟩⟩
       · have al:=dD al
         have:cw (n.keys[j-1]'(by omega)) n.keys[j]:=GX.1 aj.keys.kg (j-1) j (by omega) bd (by omega)
         unfold cw at this
         omega
       · have al:=eW al
         unfold cw;omega
     · have b7:=eW b7
       exact hF _ _ ⟨rfl,fun h=>(by cases h),fun _ a_=>by omega⟩
     · rintro b w' ⟨rfl,aA,aE⟩
       exact J _ _ ⟨rfl,aA,fun gT=>⟨ab,aE gT⟩⟩
   · rintro b w' ⟨rfl,aA,aE⟩
     refine ⟨fun ab=>⟨false,rfl,⟨fun h=>(by cases h),fun aj=>absurd aj (aA ab)⟩,bD⟩,fun ab=> ?_⟩
     obtain ⟨aI,aL⟩:=aE ab
     rw[cz (n:=(j:Int)+1) (by omega) (by omega)]
     refine ⟨⟨j+1,by omega,by omega,rfl,fun k ae h=> ?_,fun k ae h=> ?_⟩,?_⟩
     · rcases g6 k j with U|U
       · exact dM k ae U
       · have:k=j:=by omega
         subst this;exact aI
     · rcases g6 (k+1) j with U|U
       · exact YV k ae U
       · have:j=k+1:=by omega
         subst this
         exact aL (by omega)
     · show ((n.keys.length:Int)-((j:Int)+1)).toNat<((n.keys.length:Int)-(j:Int)).toNat
       omega
 · have cg:j=n.keys.length:=by have:=eW cg;omega
   subst cg
   have jd:ND n:=⟨fun k ae=>by
     obtain ⟨i,hi,rfl⟩:=m3 ae
     exact dM i hi hi,YU fun i hi=>YV i hi hi⟩
   refine ⟨n.leaf,cH,fun az=>⟨V,bC,K,aT,?_⟩,fun az=>⟨K,aT,?_⟩⟩
   · refine eA (fun b w'=>ag=w'∧b=(decide (n.vals.length=n.keys.length)&&decide (n.kids=[]))) (fun q J=>⟨fun ab=>⟨D,ba,J _ _ ⟨rfl,?_⟩⟩,fun ab=>J _ _ ⟨rfl,?_⟩⟩) ?_
     · have ab:=eq_of_beq ab
       rw[iy (show n.vals.length=n.keys.length by omega),EI,pc,zZ,fu,←yf]
       omega
     · have ab:¬(((V.len:Nat):Int)=((K.len:Nat):Int)):=fun e=>by rw[e] at ab;simp at ab
       rw[sW (by omega),Bool.false_and]
     rintro b w' ⟨rfl,rfl⟩
     refine eA (fun b w'=>ag=w'∧(b=true↔ef n)) (fun q J=>⟨fun ab=>⟨V,bC,(aje aD.vals (by omega)).use ?_⟩,fun ab=>J _ _ ⟨rfl,?_⟩⟩) ?_
     · rintro _ _ ⟨rfl,rfl⟩
       refine ⟨_,rfl,J _ _ ⟨rfl,?_⟩⟩
       simp only[jD,fu] at ab
       rw[zX,JG]
       constructor
       · intro fx
         exact .inl ⟨jd,az,ab.1,ab.2,fun v ak=>by have:=fx v ak;simp at this;omega⟩
       · rintro (aj|aj)
         · intro v ak;have:=aj.vals v ak;simp;omega
         · have:=aj.inner;rw[az] at this;cases this
     · have ab:¬(n.vals.length=n.keys.length∧n.kids=[]):=by simpa using ab
       refine ⟨fun h=>(by cases h),?_⟩
       rintro (aj|aj)
       · exact absurd ⟨aj.len,aj.kids⟩ ab
       · have:=aj.inner;rw[az] at this;cases this
     rintro b w' ⟨rfl,ab⟩
     exact ⟨b,rfl,ab,bD⟩
   · refine eA (fun b w'=>ag=w'∧b=(decide (n.keys≠ [])&&decide (n.kids.length=n.keys.length+1))) (fun q J=>⟨fun ab=>⟨D,ba,K,aT,J _ _ ⟨rfl,?_⟩⟩,fun ab=>J _ _ ⟨rfl,?_⟩⟩) ?_
     · have ab:=dD ab
       have c4:n.keys≠ []:=fun e=>by rw[e] at CE;simp at CE;omega
       rw[iy c4,EI,pc,zZ,fu,cz (by omega) (by omega)]
       omega
     · have ab:=eW ab
       have c4:n.keys=[]:=yf.1 (by omega)
       rw[sW (fun h=>h c4),Bool.false_and]
     rintro b w' ⟨rfl,rfl⟩
     refine eA (fun b w'=>ag=w'∧b=(decide (n.keys≠ [])&&decide (n.kids.length=n.keys.length+1)&&decide (n.vals=[]))) (fun q J=>⟨fun ab=>⟨V,bC,J _ _ ⟨rfl,?_⟩⟩,fun ab=>J _ _ ⟨rfl,?_⟩⟩) ?_
     · rw[ab,EI,pc,zZ,fu,←yf]
       omega
     · rw[ab,Bool.false_and]
     rintro b w' ⟨rfl,rfl⟩
     refine eA (fun b w'=>ag=w'∧(b=true↔ef n)) (fun q J=>⟨fun ab=>⟨D,ba,(aji aD.kids (by omega)).use ?_⟩,fun ab=>J _ _ ⟨rfl,?_⟩⟩) ?_
     · rintro _ _ ⟨rfl,rfl⟩
       refine ⟨_,rfl,J _ _ ⟨rfl,?_⟩⟩
       simp only[jD,fu] at ab
       rw[zX,JG]
       constructor
       · intro fx
         exact .inr ⟨jd,az,ab.1.1,ab.1.2,ab.2,fun v ak=>by have:=fx v ak;simp at this;omega⟩
       · rintro (aj|aj)
         · have:=aj.leaf;rw[az] at this;cases this
         · intro v ak;have:=aj.kids v ak;simp;omega
     · have ab:¬((n.keys≠ []∧n.kids.length=n.keys.length+1)∧n.vals=[]):=fun e=>by
         rw[iy e.1.1,iy e.1.2,iy e.2] at ab;cases ab
       refine ⟨fun h=>(by cases h),?_⟩
       rintro (aj|aj)
       · have:=aj.leaf;rw[az] at this;cases this
       · exact absurd ⟨⟨aj.some,aj.len⟩,aj.vals⟩ ab
     rintro b w' ⟨rfl,ab⟩
     exact ⟨b,rfl,ab,bD⟩
end
section
theorem ajo {w:World} {a b:aa} {pO ie:List UInt8} (aR:Src 1 w a (bn pO)) (ab:Src 1 w b (bn ie)) (az:pO.length+ie.length≤1000):
   aQ Tryz.prog F.s4 #[.slice (some ⟨w.heap.size,0,none⟩) 2 2] (w.alloc (.cells #[.slice a.a a.len a.cap, .slice b.a b.len b.cap] ah.cm)) (fun v w'=>∃ar:aa,v= .slice ar.a ar.len ar.cap∧bV 1 ah.uint8 w' ar (bn (pO++ie))∧Ext w w'∧oU w ar):=by
 have af:=iR w (.cells #[.slice a.a a.len a.cap, .slice b.a b.len b.cap] ah.cm)
 refine (NX (s:=⟨some ⟨w.heap.size,0,none⟩,2,2⟩) [(a,pO),(b,ie)] (Src.new w _ 2 rfl) ?_ (by simp[je];omega) (by simp)).mono ?_
 · intro p aZ
   simp only[gb,m4,m5] at aZ
   rcases aZ with rfl|rfl
   · exact aR.ext af
   · exact ab.ext af
 · rintro _ w' ⟨ar,rfl,bQ,JZ,aH⟩
   have e:je [(a,pO),(b,ie)]=pO++ie:=by simp[je]
   rw[e] at bQ
   exact ⟨ar,rfl,bQ,af.trans JZ,aH.mono af.size⟩
theorem ajp {w:World} {a b c:aa} {pO ie lc:List UInt8} (aR:Src 1 w a (bn pO)) (ab:Src 1 w b (bn ie)) (al:Src 1 w c (bn lc)) (az:pO.length+ie.length+lc.length≤1000):
   aQ Tryz.prog F.s4 #[.slice (some ⟨w.heap.size,0,none⟩) 3 3] (w.alloc (.cells #[.slice a.a a.len a.cap, .slice b.a b.len b.cap, .slice c.a c.len c.cap] ah.cm)) (fun v w'=>∃ar:aa,v= .slice ar.a ar.len ar.cap∧bV 1 ah.uint8 w' ar (bn (pO++(ie++lc)))∧Ext w w'∧oU w ar):=by
 have af:=iR w (.cells #[.slice a.a a.len a.cap, .slice b.a b.len b.cap, .slice c.a c.len c.cap] ah.cm)
 refine (NX (s:=⟨some ⟨w.heap.size,0,none⟩,3,3⟩) [(a,pO),(b,ie),(c,lc)] (Src.new w _ 3 rfl) ?_ (by simp[je];omega) (by simp)).mono ?_
 · intro p aZ
   simp only[gb,m4,m5] at aZ
   rcases aZ with rfl|rfl|rfl
   · exact aR.ext af
   · exact ab.ext af
   · exact al.ext af
 · rintro _ w' ⟨ar,rfl,bQ,JZ,aH⟩
   have e:je [(a,pO),(b,ie),(c,lc)]=pO++(ie++lc):=by simp[je]
   rw[e] at bQ
   exact ⟨ar,rfl,bQ,af.trans JZ,aH.mono af.size⟩
theorem YW (w:World) {n:Nat} (aD:n≤255):Src 1 (w.alloc (.cells #[.int .u8 (IntKind.wrap .u8 ((n:Nat):Int))] ah.uint8)) ⟨some ⟨w.heap.size,0,none⟩,1,1⟩ (bn [UInt8.ofNat n])∧Ext w (w.alloc (.cells #[.int .u8 (IntKind.wrap .u8 ((n:Nat):Int))] ah.uint8)):=by
 have e:(#[.int .u8 (IntKind.wrap .u8 ((n:Nat):Int))]:Array Value)=(bn [UInt8.ofNat n]).toArray:=by
   rw[Sk (by omega) (by omega)]
   simp[bn,u9 (show n<256 by omega)]
 rw[e]
 exact ⟨Src.new w _ 1 rfl,iR _ _⟩
theorem oy {α:Type} {l:List α} {i:Nat} {d:α} (h:i<l.length):l.getD i d=l[i]:=by
 rw[pD,gF h];rfl
theorem ef.wQ {n:aM} (h:ef n) (az:n.leaf=true):n.vals.length=n.keys.length:=by
 rcases h with h|h
 · exact h.len
 · have:=h.inner;rw[az] at this;cases this
theorem ef.Hp {n:aM} (h:ef n) (az:n.leaf=false):n.kids.length=n.keys.length+1:=by
 rcases h with h|h
 · have:=h.leaf;rw[az] at this;cases this
 · exact h.len
theorem s6 {B:Nat→Prop} {w:World} {n:aM} {K V D:aa} (h:cd B w n K V D) (aj:ef n) {i:Nat} (hi:i<n.keys.length) (aD:n.keys.length≤100000):
   aQ Tryz.prog F.s6 #[e9 n K V D, .int .i64 ((i:Nat):Int)] w (fun v w'=>∃s:aa,v= .slice s.a s.len s.cap∧bV 1 ah.uint8 w' s (bn (ow n i))∧Ext w w'∧oU w s):=by
 refine W.ajq n.leaf K V D ((i:Nat):Int) w _ ?_
 (delta W.s6 ai aq a7 ee bS aB aC bI;dsimp only)
 refine cn (vs:=[.bool n.leaf, .slice K.a K.len K.cap, .slice V.a V.len V.cap, .slice D.a D.len D.cap]) rfl fun ag ak bD _=> ?_
 have bA:=dL ag
 have pP:=bD.trans bA
 have oz:=h.ext pP
 obtain ⟨cH,aT,bC,ba⟩:=cj (ak.ext bA)
 obtain ⟨A,t,ax,ab,al,aV,_⟩:=bZ.at oz.keys hi
 have jd:=(aj.keys.ok _ (fg hi)).2
 have nu:=len8 aV.1
 obtain ⟨aN,Ss⟩:=YW ag.drew (n:=t.len) (by omega)
 refine bL ⟨fun _=>False,id,K,aT,A,ax,ab,id,t,al,id,K,aT,A,ax,ab,id,t,al,bL ⟨Ss,bL ?_⟩⟩
 refine (ajo (a:=⟨some ⟨ag.drew.heap.size,0,none⟩,1,1⟩) (b:=t) aN (aV.1.ext Ss) (by simp;omega)).use ?_
 rintro _ aS ⟨bY,rfl,sk,eU,sm⟩
 have g0:=bA.trans (Ss.trans eU)
 obtain ⟨d0,d1,d2,d3⟩:=cj (ak.ext g0)
 have ae: [UInt8.ofNat t.len]++n.keys[i]=Cq (n.keys.getD i []):=by rw[oy hi,nu];rfl
 rw[ae] at sk
 have qQ:=h.ext (bD.trans g0)
 refine ⟨bY,rfl,n.leaf,d0,fun az=> ?_,fun az=> ?_⟩
 · have jq:=aj.wQ az
   have Hq:i<n.vals.length:=by omega
   have l1:=dL aS
   have St:=qQ.ext l1
   obtain ⟨gk,aY,bo,en⟩:=cj (ak.ext (g0.trans l1))
   obtain ⟨Am,t2,lF,gT,dY,nT,_⟩:=bZ.at St.vals Hq
   have qe:=aj.vals _ (fg Hq)
   have ajr:=len8 nT.1
   obtain ⟨fS,J0⟩:=YW aS.drew (n:=t2.len) (by omega)
   refine bL ⟨fun _=>False,id,V,bo,Am,lF,gT,id,t2,dY,id,V,bo,Am,lF,gT,id,t2,dY,bL ⟨J0,bL ?_⟩⟩
   refine (ajp (a:=bY) (b:=⟨some ⟨aS.drew.heap.size,0,none⟩,1,1⟩) (c:=t2) (sk.src.ext (l1.trans J0)) fS (nT.1.ext J0) (by rw[Cr,oy hi];simp;omega)).use ?_
   rintro _ bp ⟨cN,rfl,An,fB,Ao⟩
   refine ⟨cN,rfl,cN,rfl,?_,(bD.trans g0).trans (l1.trans (J0.trans fB)),Ao.mono ((bD.trans g0).trans (l1.trans J0)).size⟩
   have:Cq (n.keys.getD i [])++([UInt8.ofNat t2.len]++n.vals[i])=ow n i:=by
     unfold ow
     rw[az,if_pos rfl,oy Hq,ajr];rfl
   rwa[this] at An
 · have fp:=aj.Hp az
   have ou:i+1<n.kids.length:=by omega
   obtain ⟨Am,lF,gT,dY⟩:=eo.at qQ.kids ou
   have ajs:=aj.kids _ (fg ou)
   rw[cz (n:=(i:Int)+1) (by omega) (by omega),show (i:Int)+1=((i+1:Nat):Int) by omega]
   refine ⟨D,d3,Am,lF,gT,_,dY,?_⟩
   rw[wK (n:=((n.kids[i+1]:Nat):Int)) (by omega) (by omega)]
   refine (pe sk.src (n:=n.kids[i+1]) (k:=2) (by rw[Cr,oy hi];omega) (by show _<18446744073709551616;omega) ⟨by decide,by decide⟩).use ?_
   rintro _ bp ⟨cN,rfl,An,fB,Ao⟩
   refine ⟨cN,rfl,cN,rfl,?_,(bD.trans g0).trans fB,oU.mono Ao (bD.trans g0).size⟩
   have:Cq (n.keys.getD i [])++gB n.kids[i+1] 2=ow n i:=by
     unfold ow
     rw[az,if_neg (by simp),oy ou]
   rwa[this] at An
theorem N9 {n:aM} (aj:ef n) {i:Nat} (hi:i<n.keys.length):(ow n i).length≤100:=by
 unfold ow
 have:=(aj.keys.ok _ (fg hi)).2
 rw[dU,Cr,oy hi]
 split
 · rename_i az
   have Hq:i<n.vals.length:=by have:=aj.wQ az;omega
   have:=aj.vals _ (fg Hq)
   rw[Cr,oy Hq];omega
 · rw[ov];omega
theorem Su {n:aM} (aj:ef n):∀m,m≤n.keys.length→(pJ n 0 m).length≤100*m
 |0,_=>by simp[pJ]
 |m+1,hm=>by
   have:=Su aj m (by omega)
   have:=N9 aj (i:=m) (by omega)
   rw[R6,dU];omega
theorem vr {B:Nat→Prop} {w:World} {n:aM} {K V D:aa} (h:cd B w n K V D) (aj:ef n) (aD:n.keys.length≤255):
   aQ Tryz.prog F.vr #[e9 n K V D] w (fun v w'=>∃s:aa,v= .slice s.a s.len s.cap∧bV 1 ah.uint8 w' s (bn (si n))∧Ext w w'∧oU w s):=by
 refine W.ajt n.leaf K V D w _ ?_
 (delta W.vr aq ai bS aB a7 bI ee aC;dsimp only)
 refine cn (vs:=[.bool n.leaf, .slice K.a K.len K.cap, .slice V.a V.len V.cap, .slice D.a D.len D.cap]) rfl fun ag ak bD _=> ?_
 obtain ⟨cH,aT,bC,ba⟩:=cj ak
 have mz:=h.ext bD
 have CE:=bZ.len mz.keys
 have gk:(#[.int .u8 (IntKind.wrap .u8 ((K.len:Nat):Int))]:Array Value)=(bn [UInt8.ofNat n.keys.length]).toArray:=by
   rw[CE,Sk (by omega) (by omega)]
   simp[bn,u9 (show n.keys.length<256 by omega)]
 refine ⟨K,aT,?_⟩
 rw[gk]
 have vf:=bV.new (T:=ah.uint8) (sz:=1) ag (bn [UInt8.ofNat n.keys.length]) 1 rfl (by decide)
 have cA:=iR ag (.cells (bn [UInt8.ofNat n.keys.length]).toArray ah.uint8)
 obtain ⟨aw,tZ⟩:∃aw,aw=ag.alloc (.cells (bn [UInt8.ofNat n.keys.length]).toArray ah.uint8):=⟨_,rfl⟩
 rw[←tZ] at vf cA⊢
 obtain ⟨d0,d1,d2,d3⟩:=cj (ak.ext cA)
 have pP:=bD.trans cA
 refine bL (eA (fun ar w'=>bV 1 ah.uint8 w' ar (bn (preB n))∧Ext aw w'∧oU ag ar) (fun q J=>⟨n.leaf,d0,fun az=> ?_,fun az=>J _ _ ⟨?_, .refl _ _,?_⟩⟩) ?_)
 · have az:n.leaf=false:=by simpa using az
   have fp:=aj.Hp az
   have ou:0<n.kids.length:=by omega
   obtain ⟨Am,lF,gT,dY⟩:=eo.at (h.ext pP).kids ou
   have ajs:=aj.kids _ (fg ou)
   refine ⟨D,d3,Am,lF,gT,_,dY,?_⟩
   rw[wK (n:=((n.kids[0]:Nat):Int)) (by omega) (by omega)]
   refine (pe vf.src (n:=n.kids[0]) (k:=2) (by simp) (by show _<18446744073709551616;omega) ⟨by decide,by decide⟩).use ?_
   rintro _ bp ⟨cN,rfl,An,fB,Ao⟩
   refine ⟨cN,rfl,J _ _ ⟨?_,fB,oU.mono Ao cA.size⟩⟩
   have: [UInt8.ofNat n.keys.length]++gB n.kids[0] 2=preB n:=by
     unfold preB
     rw[az,if_neg (by simp),oy ou];rfl
   rwa[this] at An
 · have az:n.leaf=true:=by simpa using az
   have:preB n=[UInt8.ofNat n.keys.length]:=by unfold preB;rw[az];rfl
   rw[this];exact vf
 · rintro k ⟨A,ax,rfl⟩
   cases ax
   exact cV _
 rintro bY aS ⟨sk,eU,sm⟩
 have g0:=cA.trans eU
 obtain ⟨d0,d1,d2,d3⟩:=cj (ak.ext g0)
 have G_:(preB n).length≤3:=by
   unfold preB
   cases n.leaf<;>simp[ov]
 refine ⟨K,d1,fun ar i w'=>∃j:Nat,i=j∧j≤n.keys.length∧bV 1 ah.uint8 w' ar (bn (preB n++pJ n 0 j))∧Ext ag w'∧oU ag ar,fun _ i _=>((n.keys.length:Int)-i).toNat,⟨0,rfl,fl _,by simpa[pJ] using sk,g0,sm⟩,?_⟩
 rintro cN _ bp ⟨j,rfl,a_,An,fB,Ao⟩
 refine ⟨fun bd=> ?_,fun cg=> ?_⟩
 · have bd:j<n.keys.length:=by have:=dD bd;omega
   obtain ⟨f0,f1,f2,f3⟩:=cj (ak.ext fB)
   refine ⟨n.leaf,f0,K,f1,V,f2,D,f3,(s6 (mz.ext fB) aj bd (by omega)).use ?_⟩
   rintro _ bH ⟨bJ,rfl,yr,lj,Sm⟩
   have YX:=Ae An
   have Se:=Ae yr
   have c3:=N9 aj bd
   have cG:=Su aj j a_
   rw[dU] at YX
   obtain ⟨cM,a8,aA,aE,aI,aL,cQ⟩:=EV.append (eB:=ah.cm) yr.src (An.ext lj) (yl _) (by rw[YX,Se];omega)
   rw[cz (n:=(j:Int)+1) (by omega) (by omega)]
   refine ⟨bJ,rfl,cM,a8,aA,⟨j+1,by omega,by omega,?_,Ext.gN (fB.trans lj) aL Ao,fun k ae=> ?_⟩,?_⟩
   · rw[R6,←eL,EU];exact aE
   · rcases cQ k ae with h|h
     · exact Ao k h
     · exact jb (fB.trans lj).size h
   · show ((n.keys.length:Int)-((j:Int)+1)).toNat<((n.keys.length:Int)-(j:Int)).toNat
     omega
 · have cg:j=n.keys.length:=by have:=eW cg;omega
   subst cg
   exact ⟨cN,rfl,An,bD.trans fB,Ao.mono bD.size⟩
theorem vt {B:Nat→Prop} {w:World} {n:aM} {K V D:aa} (h:cd B w n K V D) (aj:ef n) (aD:n.keys.length≤255):
   aQ Tryz.prog F.vt #[e9 n K V D] w (fun v w'=>v= .int .i64 (cr n:Nat)∧Ext w w'):=by
 have jq:n.vals.length≤100000:=by
   rcases aj with aj|aj
   · rw[aj.len];omega
   · rw[aj.vals];simp
 have lY:n.kids.length≤100000:=by
   rcases aj with aj|aj
   · rw[aj.kids];simp
   · rw[aj.len];omega
 refine W.aju n.leaf K V D w _ ?_
 (delta W.vt bS ai aq ba aB ee;dsimp only)
 refine cn (vs:=[.bool n.leaf, .slice K.a K.len K.cap, .slice V.a V.len V.cap, .slice D.a D.len D.cap]) rfl fun ag ak bD _=> ?_
 obtain ⟨cH,aT,bC,ba⟩:=cj ak
 refine ⟨n.leaf,cH,K,aT,V,bC,D,ba,(nS (h.ext bD) (by omega) jq lY).use ?_⟩
 rintro _ aw ⟨b,rfl,ab,cA⟩
 have Sv:=ab.2 aj
 subst Sv
 obtain ⟨cH,aT,bC,ba⟩:=cj (ak.ext cA)
 refine ⟨true,rfl,fun h=>(by cases h),fun _=>⟨n.leaf,cH,K,aT,V,bC,D,ba,(vr (h.ext (bD.trans cA)) aj aD).use ?_⟩⟩
 rintro _ aS ⟨bY,rfl,sk,eU,_⟩
 have az:=Ae sk
 rw[R9 aj] at az
 exact ⟨bY,rfl,by rw[az],(bD.trans cA).trans eU⟩
def YY (n:aM) (w w':World) (v:Value):Prop:=
 (∃s:aa,v= .tuple #[.slice s.a s.len s.cap, .int .i64 0]∧bV 1 ah.uint8 w' s (bn (si n))∧oU w s∧ef n∧cr n≤232)∨
 (∃e:Int,v= .tuple #[.slice none 0 0, .int .i64 e]∧e≠0∧(ef n→232<cr n))
theorem vu {B:Nat→Prop} {w:World} {n:aM} {K V D:aa} (h:cd B w n K V D) (fp:n.keys.length≤100000) (jq:n.vals.length≤100000) (lY:n.kids.length≤100000):
   aQ Tryz.prog F.vu #[e9 n K V D] w (fun v w'=>YY n w w' v∧Ext w w'):=by
 refine W.ajv n.leaf K V D w _ ?_
 (delta W.vu bS ai aq ba aB ee;dsimp only)
 refine cn (vs:=[.bool n.leaf, .slice K.a K.len K.cap, .slice V.a V.len V.cap, .slice D.a D.len D.cap]) rfl fun ag ak bD _=> ?_
 obtain ⟨cH,aT,bC,ba⟩:=cj ak
 refine ⟨n.leaf,cH,K,aT,V,bC,D,ba,(nS (h.ext bD) fp jq lY).use ?_⟩
 rintro _ aw ⟨b,rfl,ab,cA⟩
 have pP:=bD.trans cA
 obtain ⟨cH,aT,bC,ba⟩:=cj (ak.ext cA)
 have CE:=bZ.len h.keys
 refine ⟨b,rfl,eA (fun c w'=>aw=w'∧(c=true→ef n→255<n.keys.length)∧(c=false→ef n∧n.keys.length≤255)) (fun q J=>⟨fun U=>J _ _ ⟨rfl,fun _ aj=> ?_,fun h=>(by cases h)⟩,fun U=>⟨K,aT,J _ _ ⟨rfl,fun ad aj=> ?_,fun ad=> ?_⟩⟩⟩) ?_⟩
 · have U:b=false:=by simpa using U
   rw[ab.2 aj] at U;cases U
 · have:=dD ad;omega
 · have U:b=true:=by simpa using U
   have:=eW ad
   exact ⟨ab.1 U,by omega⟩
 rintro c w' ⟨rfl,aA,aE⟩
 refine ⟨fun U=>⟨.inr ⟨4,rfl,by decide,fun aj=> ?_⟩,pP⟩,fun U=> ?_⟩
 · have:=aA U aj
   have:=NR aj
   omega
 obtain ⟨aj,ae⟩:=aE U
 refine ⟨n.leaf,cH,K,aT,V,bC,D,ba,(vr (h.ext pP) aj ae).use ?_⟩
 rintro _ aS ⟨bY,rfl,sk,eU,sm⟩
 have az:=Ae sk
 rw[R9 aj] at az
 refine ⟨bY,rfl,fun ad=>⟨.inr ⟨10,rfl,by decide,fun _=> ?_⟩,pP.trans eU⟩,fun ad=>⟨.inl ⟨bY,rfl,sk,sm.mono pP.size,aj,?_⟩,pP.trans eU⟩⟩
 · have:=dD ad;omega
 · have:=eW ad;omega
theorem yy {B:Nat→Prop} {w:World} {n:aM} {K V D:aa} (h:cd B w n K V D) (fp:n.keys.length≤100000) (jq:n.vals.length≤100000) (lY:n.kids.length≤100000):
   aQ Tryz.prog F.yy #[e9 n K V D] w (fun v w'=>YY n w w' v∧Ext w w'):=by
 refine W.ajw n.leaf K V D w _ ?_
 (delta W.yy bS ai aq gl;dsimp only)
 refine cn (vs:=[.bool n.leaf, .slice K.a K.len K.cap, .slice V.a V.len V.cap, .slice D.a D.len D.cap]) rfl fun ag ak bD _=> ?_
 obtain ⟨cH,aT,bC,ba⟩:=cj ak
 refine ⟨n.leaf,cH,K,aT,V,bC,D,ba,(vu (h.ext bD) fp jq lY).use ?_⟩
 rintro _ aw ⟨gM,cA⟩
 rcases gM with ⟨s,rfl,bQ,aH,aj,aD⟩|⟨e,rfl,he,aD⟩
 · exact ⟨s,0,rfl, .inl ⟨s,rfl,bQ,aH.mono bD.size,aj,aD⟩,bD.trans cA⟩
 · exact ⟨⟨none,0,0⟩,e,rfl, .inr ⟨e,rfl,he,aD⟩,bD.trans cA⟩
end
section
theorem jr {w:World} {b i:Nat} {vs:List Value} {T:TypeId} (h:Var w b vs T) (v:Value):Var (w.setCell ⟨b,i,none⟩ v) b (vs.set i v) T:=by
 have:=ct.set h i v
 have e:vs.toArray.setIfInBounds i v=(vs.set i v).toArray:=by simp
 rw[e] at this
 exact this
theorem js {w:World} {b i:Nat} {vs:List Value} {T:TypeId} (h:Var w b vs T) (hi:i<vs.length):(∃u:Value,w.cell? ⟨b,i,none⟩=some u)∧w.frozen? ⟨b,i,none⟩=false:=
 ⟨⟨vs[i],by rw[h.cell];simp[hi]⟩,ct.frozen h _ rfl⟩
theorem ig (w:World) (b i:Nat) (v:Value):ao (fun q=>q=b) w (w.setCell ⟨b,i,none⟩ v):=ao.ow (.refl _ _) v
structure sn (w:World) (r:Nat) (s:aa) (rd:Rd):Prop where
 v:Var w r [.slice s.a s.len s.cap, .bool rd.2] ah.YZ
 src:Src 1 w s (bn rd.1)
 le:s.len≤s.cap
 ne:∀k,aO s k→k≠r
theorem sn.an {W:Nat→Prop} {w w':World} {r:Nat} {s:aa} {rd:Rd} (h:sn w r s rd) (al:ao W w w') (U:¬W r) (ad:∀k,aO s k→¬W k):sn w' r s rd:=⟨h.v.an al U,h.src.an al ad,h.le,h.ne⟩
theorem sn.ext {w w':World} {r:Nat} {s:aa} {rd:Rd} (h:sn w r s rd) (al:Ext w w'):sn w' r s rd:=sn.an h al id fun _ _ h=>h
theorem N_ {a:Option Addr} {z l m n c k:Nat} (h:aO ⟨bg a z l m,n,c⟩ k):∃A,a=some A∧A.block=k:=by
 obtain ⟨A,ax,rfl⟩:=h
 unfold bg at ax
 split at ax
 · exact ⟨A,ax,rfl⟩
 · cases aR:a with
   |none=>rw[aR] at ax;cases ax
   |some yz=>
     rw[aR] at ax
     simp only[yg,Option.some.injEq] at ax
     exact ⟨yz,rfl,by subst ax;unfold Addr.add;split<;>rfl⟩
theorem Y0 {w:World} {r:Nat} {s:aa} {rd:Rd} (h:sn w r s rd) (k:Nat) (ae:k≤100000) (az:rd.1.length≤100000):
   aQ Tryz.prog F.Ap #[.pointer (some ⟨r,0,none⟩), .int .i64 ((k:Nat):Int)] w (fun v w'=>∃t ar:aa,v= .slice t.a t.len t.cap∧bF (fun q=>w.heap.size≤q) w' t (pK rd k).1∧sn w' r ar (pK rd k).2∧ao (fun q=>q=r) w w'∧(∀q,aO ar q→aO s q)):=by
 obtain ⟨l,ok⟩:=rd
 have ak:=h.v
 have gw:=len8 h.src
 simp only at gw az ak
 have bd:=ak.lt
 refine W.ajx (some ⟨r,0,none⟩) ((k:Nat):Int) w _ ?_
 (delta W.Ap bS aB aq st ee;dsimp only)
 refine ⟨_,rfl,ok,by rw[aW];exact ak.cell,eA (fun b w'=>w=w'∧b=decide (ok=false∨l.length<k)) (fun q J=>⟨fun U=>J _ _ ⟨rfl,?_⟩,fun U=>⟨_,rfl,s,ak.cell,J _ _ ⟨rfl,?_⟩⟩⟩) ?_⟩
 · have U:ok=false:=by simpa using U
   exact (iy (.inl U)).symm
 · have U:ok=true:=by simpa using U
   subst U
   rw[pc,fu,fu]
   constructor
   · intro h;exact .inr (by omega)
   · rintro (h|h)
     · cases h
     · omega
 rintro b w' ⟨rfl,rfl⟩
 refine ⟨fun ab=>⟨_,rfl,?_⟩,fun ab=>⟨_,rfl,s,ak.cell,?_⟩⟩
 · have ab:=dD ab
   obtain ⟨aA,aE⟩:=js ak (i:=1) (by simp)
   rw[aW]
   have al:=ig w r 1 (.bool false)
   have e:pK (l,ok) k=([],(l,false)):=by unfold pK;rw[if_pos ab]
   rw[e]
   refine ⟨aA,aE,bL ⟨⟨none,0,0⟩,s,rfl,⟨(bV.none 1 ah.uint8 _).src,cV _,fun q J=>(qJ q J).elim⟩,⟨jr ak _,h.src.an al fun q J=>h.ne q J,h.le,h.ne⟩,al,fun q J=>J⟩⟩
 · have ab:=eW ab
   have e:pK (l,ok) k=(l.take k,(l.drop k,true)):=by unfold pK;rw[if_neg ab]
   have fp:k≤l.length:=by
     rcases g6 l.length k with U|U
     · exact absurd (.inr U) ab
     · exact U
   have dM:ok=true:=by
     cases ok with
     |true=>rfl
     |false=>exact absurd (.inl rfl) ab
   subst dM
   rw[e]
   have hle:=h.le
   refine ⟨⟨by omega,by omega⟩,?_⟩
   have ic:=Ct h.src h.le (lo:=0) (hi:=k) (by omega) (by omega)
   rw[zW,G0] at ic
   rw[gY,G0]
   refine (vo (B:=fun q=>w.heap.size≤q) (s:=⟨bg s.a 1 0 s.cap,k,s.cap-0⟩) ic (by rw[d_];omega) (fun q J=>J)).use ?_
   rintro _ ag ⟨t,rfl,aV,bD,pH⟩
   have mL:=ak.ext bD
   obtain ⟨aA,aE⟩:=js mL (i:=0) (by simp)
   have al:=ig ag r 0 (.slice (bg s.a 1 k s.cap) (s.len-k) (s.cap-k))
   have oW:=Ct (h.src.ext bD) h.le (lo:=k) (hi:=s.len) (by omega) (cV _)
   rw[gX (l:=l.drop k) (by rw[fG];omega)] at oW
   have c4:∀q,aO ⟨bg s.a 1 k s.cap,s.len-k,s.cap-k⟩ q→q≠r:=fun q J=>by
     obtain ⟨A,ax,ab⟩:=N_ J
     exact h.ne q ⟨A,ax,ab⟩
   refine ⟨t,rfl,_,rfl,s,mL.cell,⟨by omega,by omega⟩,_,rfl,aA,aE,bL ⟨t,⟨bg s.a 1 k s.cap,s.len-k,s.cap-k⟩,rfl,bF.an aV al (fun q J e=>by subst e;omega),⟨jr mL _,oW.an al fun q J=>c4 q J,by show s.len-k≤s.cap-k;omega,c4⟩,(ao.eQ bD).trans al,fun q J=> ?_⟩⟩
   obtain ⟨A,ax,ab⟩:=N_ J
   exact ⟨A,ax,ab⟩
theorem Sw {w:World} {r:Nat} {s:aa} {rd:Rd} (h:sn w r s rd) (k:Nat) (ae:1≤k∧k≤2) (az:rd.1.length≤100000):
   aQ Tryz.prog F.wR #[.pointer (some ⟨r,0,none⟩), .int .i64 ((k:Nat):Int)] w (fun v w'=>∃ar:aa,v= .int .i64 ((rdNum rd k).1:Nat)∧sn w' r ar (rdNum rd k).2∧ao (fun q=>q=r) w w'∧(∀q,aO ar q→aO s q)):=by
 refine W.ajy (some ⟨r,0,none⟩) ((k:Nat):Int) w _ ?_
 (delta W.wR ee N3 aC;dsimp only)
 refine (Y0 h k (by omega) az).use ?_
 rintro _ ag ⟨t,ar,rfl,aV,aN,al,bQ⟩
 have hlen:(pK rd k).1.length=k∨(pK rd k).1=[]:=by
   unfold pK
   split
   · exact .inr rfl
   · rename_i cT
     left
     rw[d_]
     have:¬rd.1.length<k:=fun h=>cT (.inr h)
     omega
 have ab:=JQ k (pK rd k).1
 have aZ:256^k≤65536:=jb (Nt (by omega) ae.2) (by decide)
 refine ⟨t,rfl,?_⟩
 rcases hlen with hlen|hlen
 · refine (s0 (a:=0) (k:=k) aV.1 aV.2.1 ⟨ae.1,by omega⟩ (by omega) (by omega)).use ?_
   rintro _ _ ⟨rfl,rfl⟩
   have ab:=ab hlen
   rw[zW,gX (by omega)]
   refine ⟨_,_,rfl,ar,?_,aN,al,bQ⟩
   rw[cz (by omega) (by omega)]
   unfold rdNum
   rw[if_pos hlen]
 · refine (aiK (k:=k) aV.1 (by omega) (by rw[hlen];simp;omega)).use ?_
   rintro _ _ ⟨rfl,rfl⟩
   refine ⟨_,_,rfl,ar,?_,aN,al,bQ⟩
   unfold rdNum
   rw[if_neg (by rw[hlen];simp;omega)]
   rfl
theorem Sx (rd:Rd) (k:Nat):(rdNum rd k).1<256^k:=by
 unfold rdNum
 split
 · exact JQ k _ (by assumption)
 · exact Nat.pow_pos (by omega)
theorem Y1 (rd:Rd) (k:Nat):(pK rd k).2.1.length≤rd.1.length∧(pK rd k).1.length≤k:=by
 unfold pK
 split
 · exact ⟨cV _,fl _⟩
 · exact ⟨by rw[fG];omega,by rw[d_];omega⟩
theorem Oa (rd:Rd) (k:Nat):(rdNum rd k).2.1.length≤rd.1.length:=(Y1 rd k).1
theorem Y2 (rd:Rd):(s3 rd).2.1.length≤rd.1.length∧(s3 rd).1.length≤255:=by
 unfold s3
 have U:=Y1 (rdNum rd 1).2 (rdNum rd 1).1
 have ad:=Oa rd 1
 have au:(rdNum rd 1).1<256:=Sx rd 1
 exact ⟨by omega,by omega⟩
theorem Y3 {w:World} {r:Nat} {s:aa} {rd:Rd} (h:sn w r s rd) (az:rd.1.length≤100000):
   aQ Tryz.prog F.wS #[.pointer (some ⟨r,0,none⟩)] w (fun v w'=>∃t ar:aa,v= .slice t.a t.len t.cap∧bF (fun q=>w.heap.size≤q) w' t (s3 rd).1∧sn w' r ar (s3 rd).2∧ao (fun q=>q=r) w w'∧(∀q,aO ar q→aO s q)):=by
 refine W.ajz (some ⟨r,0,none⟩) w _ ?_
 (delta W.wS aT ee;dsimp only)
 refine (Sw h 1 (by omega) az).use ?_
 rintro _ ag ⟨s1,rfl,lk,iN,lh⟩
 have au:(rdNum rd 1).1<256:=Sx rd 1
 have aJ:=Oa rd 1
 refine ⟨_,rfl,(Y0 lk (rdNum rd 1).1 (by omega) (by omega)).use ?_⟩
 rintro _ aw ⟨t,s2,rfl,aV,fS,dY,vf⟩
 exact ⟨t,rfl,t,s2,rfl,bF.bz aV fun q _ J=>jb iN.size J,fS,iN.trans dY,fun q J=>lh q (vf q J)⟩
end
section
theorem b4.bz {B C:Nat→Prop} {w:World} {s:aa} {ls:List Key} (h:b4 B w s ls) (ab:∀k,k<w.heap.size→B k→C k):b4 C w s ls:=by
 obtain ⟨ts,U,ad,au,aJ⟩:=h
 exact ⟨ts,U,ad,In.bz au ab,fun i b8 iA=>⟨bF.bz (aJ i b8 iA).1 ab,(aJ i b8 iA).2⟩⟩
theorem eO.bz {B C:Nat→Prop} {w:World} {s:aa} {ds:List Nat} (h:eO B w s ds) (ab:∀k,k<w.heap.size→B k→C k):eO C w s ds:=⟨h.1,In.bz h.2 ab⟩
def Grow (B:Nat→Prop) (w w':World) (q:Nat):Prop:=B q∨(w.heap.size≤q∧q<w'.heap.size)
theorem Ob {w:World} {bE o:Nat} {vs:List Value} {S t:aa} {ls:List Key} {l:Key} {B:Nat→Prop} {T:TypeId} {W:Nat→Prop} (ak:Var w bE vs T) (Aq:o<vs.length) (ph:b4 B w S ls) (CF:¬B bE)
   (aV:bF B w t l) (hd:∀k,aO t k→¬aO S k) (aD:ls.length≤100000) {K:World→Prop}
   (bu:∀ (w':World) (gO:aa),Var w' bE (vs.set o (.slice gO.a gO.len gO.cap)) T→b4 (Grow B w w') w' gO (ls++ [l])→ao (fun q=>q=bE∨aO S q) w w'→K w'):
   ay (w.alloc (.cells #[.slice t.a t.len t.cap] ah.cm)) fun gf=>ao W w gf∧∃de:aa,∃e1:World,Sem.run Tryz.prog (Builtin.append_ #[ah.cL,ah.cL] ah.cL #[.slice S.a S.len S.cap, .slice (some ⟨w.heap.size,0,none⟩) 1 1]) gf= .ok (.slice de.a de.len de.cap) e1∧
     (∃u:Value,e1.cell? (Addr.add ⟨bE,0,none⟩ o)=some u)∧e1.frozen? (Addr.add ⟨bE,0,none⟩ o)=false∧ay (e1.setCell (Addr.add ⟨bE,0,none⟩ o) (.slice de.a de.len de.cap)) fun eR=>K eR:=by
 have Ar:=b4.bz (C:=fun q=>B q∨w.heap.size≤q) ph fun k _ h=> .inl h
 have nT:=bF.bz (C:=fun q=>B q∨w.heap.size≤q) aV fun k _ h=> .inl h
 obtain ⟨ar,w',aA,aE,aI,aL⟩:=YT Ar nT hd (by omega) fun k ae=> .inr ae
 have kC:=ak.lt
 have J1:¬aO S bE:=fun h=>by
   obtain ⟨ts,_,_,au,_⟩:=ph
   exact CF (au bE h).1
 have qR:=ak.an aI J1
 obtain ⟨aT,bC⟩:=js qR Aq
 refine bL ⟨ao.eQ (iR _ _),ar,w',aA,?_⟩
 rw[aW,gz]
 have al:=ig w' bE o (.slice ar.a ar.len ar.cap)
 refine ⟨aT,bC,bL (bu _ ar (jr qR _) ?_ ?_)⟩
 · have a6:=b4.bz (C:=Grow B w (w'.setCell ⟨bE,o,none⟩ (.slice ar.a ar.len ar.cap))) aE fun k ae h=>by
     rcases h with h|h
     · exact .inl h
     · exact .inr ⟨h,lE ae al.size⟩
   refine b4.an a6 al fun k ae e=> ?_
   subst e
   rcases ae with h|h
   · exact CF h
   · omega
 · exact (aI.mono fun k _ h=> .inr h).trans (al.mono fun k _ h=> .inl h)
theorem Y4 {w:World} {bE o:Nat} {vs:List Value} {S:aa} {ds:List Nat} (d:Nat) {B:Nat→Prop} {T:TypeId} {W:Nat→Prop} (ak:Var w bE vs T) (Aq:o<vs.length) (ph:eO B w S ds) (CF:¬B bE)
   (aD:ds.length≤100000) {K:World→Prop}
   (bu:∀ (w':World) (gO:aa),Var w' bE (vs.set o (.slice gO.a gO.len gO.cap)) T→eO (Grow B w w') w' gO (ds++ [d])→ao (fun q=>q=bE∨aO S q) w w'→K w'):
   ay (w.alloc (.cells #[.int .i64 ((d:Nat):Int)] ah.int)) fun gf=>ao W w gf∧∃de:aa,∃e1:World,Sem.run Tryz.prog (Builtin.append_ #[ah.eg,ah.eg] ah.eg #[.slice S.a S.len S.cap, .slice (some ⟨w.heap.size,0,none⟩) 1 1]) gf= .ok (.slice de.a de.len de.cap) e1∧
     (∃u:Value,e1.cell? (Addr.add ⟨bE,0,none⟩ o)=some u)∧e1.frozen? (Addr.add ⟨bE,0,none⟩ o)=false∧ay (e1.setCell (Addr.add ⟨bE,0,none⟩ o) (.slice de.a de.len de.cap)) fun eR=>K eR:=by
 have Ar:=eO.bz (C:=fun q=>B q∨w.heap.size≤q) ph fun k _ h=> .inl h
 obtain ⟨ar,w',aA,aE,aI,aL⟩:=ajd d Ar (by omega) fun k ae=> .inr ae
 have kC:=ak.lt
 have J1:¬aO S bE:=fun h=>CF (ph.2 bE h).1
 have qR:=ak.an aI J1
 obtain ⟨aT,bC⟩:=js qR Aq
 refine bL ⟨ao.eQ (iR _ _),ar,w',aA,?_⟩
 rw[aW,gz]
 have al:=ig w' bE o (.slice ar.a ar.len ar.cap)
 refine ⟨aT,bC,bL (bu _ ar (jr qR _) ?_ ?_)⟩
 · have a6:=eO.bz (C:=Grow B w (w'.setCell ⟨bE,o,none⟩ (.slice ar.a ar.len ar.cap))) aE fun k ae h=>by
     rcases h with h|h
     · exact .inl h
     · exact .inr ⟨h,lE ae al.size⟩
   refine eO.an a6 al fun k ae e=> ?_
   subst e
   rcases ae with h|h
   · exact CF h
   · omega
 · exact (aI.mono fun k _ h=> .inr h).trans (al.mono fun k _ h=> .inl h)
structure t_ (lo:Nat) (w:World) (r bE:Nat) (s:aa) (m:aM×Rd) (K V D:aa) (cC cX cu:Nat→Prop):Prop where
 v:Var w bE [.bool m.1.leaf, .slice K.a K.len K.cap, .slice V.a V.len V.cap, .slice D.a D.len D.cap] ah.cO
 rd:sn w r s m.2
 keys:b4 cC w K m.1.keys
 vals:b4 cX w V m.1.vals
 kids:eO cu w D m.1.kids
 bT:∀q,cC q→lo≤q∧q<w.heap.size∧¬cX q∧¬cu q
 bv:∀q,cX q→lo≤q∧q<w.heap.size∧¬cu q
 a7:∀q,cu q→lo≤q∧q<w.heap.size
 aj:∀q,aO s q→q<lo∧q≠bE
 E3:r<lo
 E4:bE<lo
 ua:r≠bE
 E5:m.2.1.length≤100000
def E6 (lo r bE:Nat) (q:Nat):Prop:=q=r∨q=bE∨lo≤q
theorem t_.drew {lo:Nat} {w:World} {r bE:Nat} {s:aa} {m:aM×Rd} {K V D:aa} {cC cX cu:Nat→Prop} (h:t_ lo w r bE s m K V D cC cX cu):t_ lo w.drew r bE s m K V D cC cX cu:=
 ⟨h.v.ext (dL w),h.rd.ext (dL w),b4.ext h.keys (dL w),b4.ext h.vals (dL w),eO.ext h.kids (dL w),h.bT,h.bv,h.a7,h.aj,h.E3,h.E4,h.ua,h.E5⟩
theorem Y5 {leaf:Bool}:∀ (s:aM×Rd) (i:Nat),s.1.leaf=leaf→(qg s i).1.leaf=leaf
 |_,0,h=>h
 |s,i+1,h=>by
   have du:=Y5 s i h
   rw[qg]
   unfold EZ
   split
   · exact du
   · exact du
theorem Y6:∀ (s:aM×Rd) (i:Nat),(qg s i).1.keys.length=s.1.keys.length+i∧(qg s i).1.vals.length≤s.1.vals.length+i∧(qg s i).1.kids.length≤s.1.kids.length+i
 |_,0=>⟨rfl,cV _,cV _⟩
 |s,i+1=>by
   obtain ⟨U,ad,au⟩:=Y6 s i
   rw[qg]
   unfold EZ
   split<;>simp<;>omega
theorem ajA {lo:Nat} {w:World} {r bE:Nat} {s:aa} {m:aM×Rd} {K V D:aa} {cC cX cu:Nat→Prop} (h:t_ lo w r bE s m K V D cC cX cu) (lX:lo≤w.heap.size) (aD:m.1.keys.length≤100000) {R:World→Prop}
   (c8:∀ (w':World) (aU ar:aa) (As:Nat→Prop),t_ lo w' r bE ar (⟨m.1.leaf,m.1.keys++ [(s3 m.2).1],m.1.vals,m.1.kids⟩,(s3 m.2).2) aU V D As cX cu→ao (E6 lo r bE) w w'→lo≤w'.heap.size→R w'):
   ay w.drew fun fH=>∃so:Nat→Prop,¬so (Addr.add ⟨bE,0,none⟩ 1).block∧∃dh:aa,fH.cell? (Addr.add ⟨bE,0,none⟩ 1)=some (.slice dh.a dh.len dh.cap)∧
     Calls Tryz.prog F.wS #[.pointer (some ⟨r,0,none⟩)] fH fun J2 fC=>∃h9:aa,J2= .returned (.slice h9.a h9.len h9.cap)∧ao so fH fC∧
     ay (fC.alloc (.cells #[.slice h9.a h9.len h9.cap] ah.cm)) fun gf=>ao so fC gf∧∃de:aa,∃e1:World,Sem.run Tryz.prog (Builtin.append_ #[ah.cL,ah.cL] ah.cL #[.slice dh.a dh.len dh.cap, .slice (some ⟨fC.heap.size,0,none⟩) 1 1]) gf= .ok (.slice de.a de.len de.cap) e1∧
     (∃u:Value,e1.cell? (Addr.add ⟨bE,0,none⟩ 1)=some u)∧e1.frozen? (Addr.add ⟨bE,0,none⟩ 1)=false∧ay (e1.setCell (Addr.add ⟨bE,0,none⟩ 1) (.slice de.a de.len de.cap)) fun eR=>R eR:=by
 have hd:=h.drew
 have aN:=h.E3
 have kC:=h.E4
 obtain ⟨cH,aT,bC,ba⟩:=cj hd.v
 refine bL ⟨fun q=>q=r,fun e=>h.ua (by rw[aW] at e;exact e.symm),K,aT,(Y3 hd.rd hd.E5).use ?_⟩
 rintro _ fC ⟨t,ar,rfl,aV,dQ,al,mA⟩
 have bN:w.drew.heap.size=w.heap.size:=rfl
 have dR:=al.size
 have wT:∀ {B:Nat→Prop},(∀q,B q→lo≤q)→∀k,B k→¬(k=r):=fun fw k ae e=>by have:=fw k ae;omega
 have eC:=b4.an hd.keys al (wT fun q J=>(h.bT q J).1)
 have gM:=b4.an hd.vals al (wT fun q J=>(h.bv q J).1)
 have l2:=eO.an hd.kids al (wT fun q J=>(h.a7 q J).1)
 have J3:=hd.v.an al (fun e=>h.ua e.symm)
 refine ⟨t,rfl,al,Ob (B:=Grow cC w.drew fC) J3 (o:=1) (by simp) (b4.bz eC fun k _ h=> .inl h) ?_ (bF.bz aV fun k ae h=> .inr ⟨h,ae⟩) ?_ aD fun w' aU aA aE aI=> ?_⟩
 · rintro (U|U)
   · have:=(h.bT bE U).1;omega
   · omega
 · intro k jQ E7
   obtain ⟨ts,_,_,au,_⟩:=h.keys
   have:=(au k E7).2
   have:=(aV.2.2 k jQ).1
   omega
 have gg:∀q,Grow (Grow cC w.drew fC) fC w' q→cC q∨(w.heap.size≤q∧q<w'.heap.size):=by
   rintro q ((U|U)|U)
   · exact .inl U
   · exact .inr ⟨U.1,lE U.2 aI.size⟩
   · exact .inr ⟨jb dR U.1,U.2⟩
 have bf:=aI.size
 have kV:∀q,aO K q→cC q:=fun q J=>by
   obtain ⟨ts,_,_,au,_⟩:=h.keys
   exact (au q J).1
 refine c8 w' aU ar (fun q=>cC q∨(w.heap.size≤q∧q<w'.heap.size)) ⟨by simpa using aA,dQ.an aI ?_ ?_,b4.bz aE fun k _ ae=>gg k ae,b4.an gM aI ?_,eO.an l2 aI ?_,?_,fun q J=> ?_,fun q J=> ?_,fun q J=>h.aj q (mA q J),h.E3,h.E4,h.ua,jb (Y2 m.2).1 h.E5⟩ ?_ (by omega)
 · rintro (U|U)
   · exact h.ua U
   · have:=(h.bT r (kV r U)).1;omega
 · rintro q J (U|U)
   · exact (h.aj q (mA q J)).2 U
   · have:=(h.bT q (kV q U)).1
     have:=(h.aj q (mA q J)).1;omega
 · rintro q J (U|U)
   · have:=(h.bv q J).1;omega
   · exact (h.bT q (kV q U)).2.2.1 J
 · rintro q J (U|U)
   · have:=(h.a7 q J).1;omega
   · exact (h.bT q (kV q U)).2.2.2 J
 · rintro q (U|U)
   · have:=h.bT q U;exact ⟨this.1,by omega,this.2.2⟩
   · exact ⟨by omega,U.2,fun ad=>by have:=h.bv q ad;omega,fun ad=>by have:=h.a7 q ad;omega⟩
 · have:=h.bv q J;exact ⟨this.1,by omega,this.2.2⟩
 · have:=h.a7 q J;exact ⟨this.1,by omega⟩
 · refine ((ao.eQ (dL w)).trans (al.mono fun k _ ae=> .inl ae)).trans (aI.mono fun k _ ae=> ?_)
   rcases ae with ae|ae
   · exact .inr (.inl ae)
   · exact .inr (.inr (h.bT k (kV k ae)).1)
theorem ajB {lo:Nat} {w:World} {r bE:Nat} {s:aa} {m:aM×Rd} {K V D:aa} {cC cX cu:Nat→Prop} (h:t_ lo w r bE s m K V D cC cX cu) (lX:lo≤w.heap.size) (aD:m.1.vals.length≤100000) {R:World→Prop}
   (c8:∀ (w':World) (bP ar:aa) (Oc:Nat→Prop),t_ lo w' r bE ar (⟨m.1.leaf,m.1.keys,m.1.vals++ [(s3 m.2).1],m.1.kids⟩,(s3 m.2).2) K bP D cC Oc cu→ao (E6 lo r bE) w w'→lo≤w'.heap.size→R w'):
   ay w.drew fun fH=>∃so:Nat→Prop,¬so (Addr.add ⟨bE,0,none⟩ 2).block∧∃dh:aa,fH.cell? (Addr.add ⟨bE,0,none⟩ 2)=some (.slice dh.a dh.len dh.cap)∧
     Calls Tryz.prog F.wS #[.pointer (some ⟨r,0,none⟩)] fH fun J2 fC=>∃h9:aa,J2= .returned (.slice h9.a h9.len h9.cap)∧ao so fH fC∧
     ay (fC.alloc (.cells #[.slice h9.a h9.len h9.cap] ah.cm)) fun gf=>ao so fC gf∧∃de:aa,∃e1:World,Sem.run Tryz.prog (Builtin.append_ #[ah.cL,ah.cL] ah.cL #[.slice dh.a dh.len dh.cap, .slice (some ⟨fC.heap.size,0,none⟩) 1 1]) gf= .ok (.slice de.a de.len de.cap) e1∧
     (∃u:Value,e1.cell? (Addr.add ⟨bE,0,none⟩ 2)=some u)∧e1.frozen? (Addr.add ⟨bE,0,none⟩ 2)=false∧ay (e1.setCell (Addr.add ⟨bE,0,none⟩ 2) (.slice de.a de.len de.cap)) fun eR=>R eR:=by
 have hd:=h.drew
 have aN:=h.E3
 have kC:=h.E4
 obtain ⟨cH,aT,bC,ba⟩:=cj hd.v
 refine bL ⟨fun q=>q=r,fun e=>h.ua (by rw[aW] at e;exact e.symm),V,bC,(Y3 hd.rd hd.E5).use ?_⟩
 rintro _ fC ⟨t,ar,rfl,aV,dQ,al,mA⟩
 have bN:w.drew.heap.size=w.heap.size:=rfl
 have dR:=al.size
 have wT:∀ {B:Nat→Prop},(∀q,B q→lo≤q)→∀k,B k→¬(k=r):=fun fw k ae e=>by have:=fw k ae;omega
 have eC:=b4.an hd.keys al (wT fun q J=>(h.bT q J).1)
 have gM:=b4.an hd.vals al (wT fun q J=>(h.bv q J).1)
 have l2:=eO.an hd.kids al (wT fun q J=>(h.a7 q J).1)
 have J3:=hd.v.an al (fun e=>h.ua e.symm)
 refine ⟨t,rfl,al,Ob (B:=Grow cX w.drew fC) J3 (o:=2) (by simp) (b4.bz gM fun k _ h=> .inl h) ?_ (bF.bz aV fun k ae h=> .inr ⟨h,ae⟩) ?_ aD fun w' bP aA aE aI=> ?_⟩
 · rintro (U|U)
   · have:=(h.bv bE U).1;omega
   · omega
 · intro k jQ E7
   obtain ⟨ts,_,_,au,_⟩:=h.vals
   have:=(au k E7).2
   have:=(aV.2.2 k jQ).1
   omega
 have gg:∀q,Grow (Grow cX w.drew fC) fC w' q→cX q∨(w.heap.size≤q∧q<w'.heap.size):=by
   rintro q ((U|U)|U)
   · exact .inl U
   · exact .inr ⟨U.1,lE U.2 aI.size⟩
   · exact .inr ⟨jb dR U.1,U.2⟩
 have bf:=aI.size
 have kV:∀q,aO V q→cX q:=fun q J=>by
   obtain ⟨ts,_,_,au,_⟩:=h.vals
   exact (au q J).1
 refine c8 w' bP ar (fun q=>cX q∨(w.heap.size≤q∧q<w'.heap.size)) ⟨by simpa using aA,dQ.an aI ?_ ?_,b4.an eC aI ?_,b4.bz aE fun k _ ae=>gg k ae,eO.an l2 aI ?_,fun q J=> ?_,?_,fun q J=> ?_,fun q J=>h.aj q (mA q J),h.E3,h.E4,h.ua,jb (Y2 m.2).1 h.E5⟩ ?_ (by omega)
 · rintro (U|U)
   · exact h.ua U
   · have:=(h.bv r (kV r U)).1;omega
 · rintro q J (U|U)
   · exact (h.aj q (mA q J)).2 U
   · have:=(h.bv q (kV q U)).1
     have:=(h.aj q (mA q J)).1;omega
 · rintro q J (U|U)
   · have:=(h.bT q J).1;omega
   · exact (h.bT q J).2.2.1 (kV q U)
 · rintro q J (U|U)
   · have:=(h.a7 q J).1;omega
   · exact (h.bv q (kV q U)).2.2 J
 · have:=h.bT q J
   refine ⟨this.1,by omega,?_,this.2.2.2⟩
   rintro (U|U)
   · exact this.2.2.1 U
   · omega
 · rintro q (U|U)
   · have:=h.bv q U;exact ⟨this.1,by omega,this.2.2⟩
   · exact ⟨by omega,U.2,fun ad=>by have:=h.a7 q ad;omega⟩
 · have:=h.a7 q J;exact ⟨this.1,by omega⟩
 · refine ((ao.eQ (dL w)).trans (al.mono fun k _ ae=> .inl ae)).trans (aI.mono fun k _ ae=> ?_)
   rcases ae with ae|ae
   · exact .inr (.inl ae)
   · exact .inr (.inr (h.bv k (kV k ae)).1)
theorem Y7 {lo:Nat} {w:World} {r bE:Nat} {s:aa} {m:aM×Rd} {K V D:aa} {cC cX cu:Nat→Prop} (h:t_ lo w r bE s m K V D cC cX cu) (lX:lo≤w.heap.size) (aD:m.1.kids.length≤100000) {R:World→Prop}
   (c8:∀ (w':World) (aP ar:aa) (Sy:Nat→Prop),t_ lo w' r bE ar (⟨m.1.leaf,m.1.keys,m.1.vals,m.1.kids++ [(rdNum m.2 2).1]⟩,(rdNum m.2 2).2) K V aP cC cX Sy→ao (E6 lo r bE) w w'→lo≤w'.heap.size→R w'):
   ay w.drew fun fH=>∃so:Nat→Prop,¬so (Addr.add ⟨bE,0,none⟩ 3).block∧∃dh:aa,fH.cell? (Addr.add ⟨bE,0,none⟩ 3)=some (.slice dh.a dh.len dh.cap)∧
     Calls Tryz.prog F.wR #[.pointer (some ⟨r,0,none⟩), .int .i64 2] fH fun J2 fC=>∃n30:Int,J2= .returned (.int .i64 n30)∧ao so fH fC∧
     ay (fC.alloc (.cells #[.int .i64 n30] ah.int)) fun gf=>ao so fC gf∧∃de:aa,∃e1:World,Sem.run Tryz.prog (Builtin.append_ #[ah.eg,ah.eg] ah.eg #[.slice dh.a dh.len dh.cap, .slice (some ⟨fC.heap.size,0,none⟩) 1 1]) gf= .ok (.slice de.a de.len de.cap) e1∧
     (∃u:Value,e1.cell? (Addr.add ⟨bE,0,none⟩ 3)=some u)∧e1.frozen? (Addr.add ⟨bE,0,none⟩ 3)=false∧ay (e1.setCell (Addr.add ⟨bE,0,none⟩ 3) (.slice de.a de.len de.cap)) fun eR=>R eR:=by
 have hd:=h.drew
 have aN:=h.E3
 have kC:=h.E4
 obtain ⟨cH,aT,bC,ba⟩:=cj hd.v
 refine bL ⟨fun q=>q=r,fun e=>h.ua (by rw[aW] at e;exact e.symm),D,ba,(Sw hd.rd 2 (by decide) hd.E5).use ?_⟩
 rintro _ fC ⟨ar,rfl,dQ,al,mA⟩
 have bN:w.drew.heap.size=w.heap.size:=rfl
 have dR:=al.size
 have wT:∀ {B:Nat→Prop},(∀q,B q→lo≤q)→∀k,B k→¬(k=r):=fun fw k ae e=>by have:=fw k ae;omega
 have eC:=b4.an hd.keys al (wT fun q J=>(h.bT q J).1)
 have gM:=b4.an hd.vals al (wT fun q J=>(h.bv q J).1)
 have l2:=eO.an hd.kids al (wT fun q J=>(h.a7 q J).1)
 have J3:=hd.v.an al (fun e=>h.ua e.symm)
 refine ⟨_,rfl,al,Y4 (rdNum m.2 2).1 (B:=cu) J3 (o:=3) (by simp) l2 (fun U=>by have:=(h.a7 bE U).1;omega) aD fun w' aP aA aE aI=> ?_⟩
 have gg:∀q,Grow cu fC w' q→cu q∨(w.heap.size≤q∧q<w'.heap.size):=by
   rintro q (U|U)
   · exact .inl U
   · exact .inr ⟨jb dR U.1,U.2⟩
 have bf:=aI.size
 have kV:∀q,aO D q→cu q:=fun q J=>(h.kids.2 q J).1
 refine c8 w' aP ar (fun q=>cu q∨(w.heap.size≤q∧q<w'.heap.size)) ⟨by simpa using aA,dQ.an aI ?_ ?_,b4.an eC aI ?_,b4.an gM aI ?_,eO.bz aE fun k _ ae=>gg k ae,fun q J=> ?_,fun q J=> ?_,?_,fun q J=>h.aj q (mA q J),h.E3,h.E4,h.ua,jb (Oa m.2 2) h.E5⟩ ?_ (by omega)
 · rintro (U|U)
   · exact h.ua U
   · have:=(h.a7 r (kV r U)).1;omega
 · rintro q J (U|U)
   · exact (h.aj q (mA q J)).2 U
   · have:=(h.a7 q (kV q U)).1
     have:=(h.aj q (mA q J)).1;omega
 · rintro q J (U|U)
   · have:=(h.bT q J).1;omega
   · exact (h.bT q J).2.2.2 (kV q U)
 · rintro q J (U|U)
   · have:=(h.bv q J).1;omega
   · exact (h.bv q J).2.2 (kV q U)
 · have:=h.bT q J
   refine ⟨this.1,by omega,this.2.2.1,?_⟩
   rintro (U|U)
   · exact this.2.2.2 U
   · omega
 · have:=h.bv q J
   refine ⟨this.1,by omega,?_⟩
   rintro (U|U)
   · exact this.2.2 U
   · omega
 · rintro q (U|U)
   · have:=h.a7 q U;exact ⟨this.1,by omega⟩
   · exact ⟨by omega,U.2⟩
 · refine ((ao.eQ (dL w)).trans (al.mono fun k _ ae=> .inl ae)).trans (aI.mono fun k _ ae=> ?_)
   rcases ae with ae|ae
   · exact .inr (.inl ae)
   · exact .inr (.inr (h.a7 k (kV k ae)).1)
end
end Go.Proofs.YtplieiecebljmaaGreat
