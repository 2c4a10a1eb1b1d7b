/- Contracts of the functions that the statement reaches, and the plain laws over them; each theorem stands with its conditions. -/
import Derived.Laws.Externs
import Derived.Laws.Small
import Derived.Lib.Builder
import Derived.Lib.Bytealg
import Derived.Lib.ConvBytes
import Derived.Lib.MakeNoZero
import Derived.Lib.SlBytesConst
import Derived.Lib.UnsafeStr
import Derived.Test.YtplieiecebljmaaGreatVPlays2
namespace Go.Proofs.YtplieiecebljmaaGreat
abbrev Key:=List UInt8
abbrev bl:=Key×Key
def iC:Key→Key→Int
 | [],[]=>0
 | [],_::_=> -1
 |_::_,[]=>1
 |a::x,b::y=>if a.toNat<b.toNat then -1 else if b.toNat<a.toNat then 1 else iC x y
theorem ahc {a b:UInt8} (U:¬a.toNat<b.toNat) (ad:¬b.toNat<a.toNat):a=b:=UInt8.toNat_inj.1 (by omega)
theorem Rr:∀a:Key,iC a a=0
 | []=>rfl
 |a::x=>by simp[iC,Rr x]
theorem Rs:∀ {a b:Key},iC a b=0→a=b
 | [],[],_=>rfl
 | [],_::_,h=>by simp[iC] at h
 |_::_,[],h=>by simp[iC] at h
 |a::x,b::y,h=>by
   unfold iC at h
   split at h
   · cases h
   · rename_i U
     split at h
     · cases h
     · rename_i ad
       rw[ahc U ad,Rs h]
theorem ahd {a b:Key}:iC a b=0↔a=b:=⟨Rs,fun h=>h▸Rr _⟩
theorem XB:∀a b:Key,iC a b= -1∨iC a b=0∨iC a b=1
 | [],[]=> .inr (.inl rfl)
 | [],_::_=> .inl rfl
 |_::_,[]=> .inr (.inr rfl)
 |a::x,b::y=>by
   unfold iC
   split
   · exact .inl rfl
   · split
     · exact .inr (.inr rfl)
     · exact XB x y
theorem XC:∀a b:Key,iC b a=-iC a b
 | [],[]=>rfl
 | [],_::_=>rfl
 |_::_,[]=>rfl
 |a::x,b::y=>by
   unfold iC
   by_cases U:a.toNat<b.toNat
   · have ad:¬b.toNat<a.toNat:=by omega
     simp[U,ad]
   · by_cases ad:b.toNat<a.toNat
     · simp[U,ad]
     · simp only[U,ad,if_false]
       exact XC x y
theorem XD:∀ {a b c:Key},iC a b<0→iC b c<0→iC a c<0
 | [],[],_,h,_=>by simp[iC] at h
 | [],_::_,[],_,h=>by simp[iC] at h
 | [],_::_,_::_,_,_=>by simp[iC]
 |_::_,[],_,h,_=>by simp[iC] at h
 |_::_,_::_,[],_,h=>by simp[iC] at h
 |a::x,b::y,c::z,U,ad=>by
   unfold iC at U ad⊢
   by_cases bc:a.toNat<b.toNat
   · by_cases cW:b.toNat<c.toNat
     · rw[if_pos (by omega)];decide
     · rw[if_neg cW] at ad
       by_cases a3:c.toNat<b.toNat
       · rw[if_pos a3] at ad;omega
       · rw[if_pos (by omega)];decide
   · rw[if_neg bc] at U
     by_cases cW:b.toNat<a.toNat
     · rw[if_pos cW] at U;omega
     · rw[if_neg cW] at U
       by_cases a3:b.toNat<c.toNat
       · rw[if_pos (by omega)];decide
       · rw[if_neg a3] at ad
         by_cases a4:c.toNat<b.toNat
         · rw[if_pos a4] at ad;omega
         · rw[if_neg a4] at ad
           rw[if_neg (by omega),if_neg (by omega)]
           exact XD U ad
def cv (a b:Key):Prop:=iC a b<0
def ib (a b:Key):Prop:=¬iC b a<0
instance (a b:Key):Decidable (cv a b):=by unfold cv;infer_instance
instance (a b:Key):Decidable (ib a b):=by unfold ib;infer_instance
theorem yg {a b c:Key} (U:cv a b) (ad:cv b c):cv a c:=XD U ad
theorem z6 (a:Key):¬cv a a:=by unfold cv;rw[Rr];decide
theorem z7 {a b:Key} (h:cv a b):¬cv b a:=fun ad=>z6 a (yg h ad)
theorem Rt (a b:Key):cv a b∨a=b∨cv b a:=by
 unfold cv
 have h:=XC a b
 rcases XB a b with U|U|U
 · exact .inl (by omega)
 · exact .inr (.inl (Rs U))
 · exact .inr (.inr (by omega))
theorem EW {a b:Key}:ib a b↔cv a b∨a=b:=by
 constructor
 · intro h
   rcases Rt a b with U|U|U
   · exact .inl U
   · exact .inr U
   · exact absurd U h
 · rintro (h|rfl)
   · exact z7 h
   · exact z6 _
theorem XE (a:Key):ib a a:=z6 a
theorem qB {a b:Key} (h:cv a b):ib a b:=EW.2 (.inl h)
theorem XF {a b:Key}:¬cv a b↔ib b a:=Iff.rfl
theorem Ci {a b c:Key} (U:cv a b) (ad:ib b c):cv a c:=by
 rcases EW.1 ad with h|rfl
 · exact yg U h
 · exact U
theorem tN {a b c:Key} (U:ib a b) (ad:cv b c):cv a c:=by
 rcases EW.1 U with h|rfl
 · exact yg h ad
 · exact ad
theorem XG {a b c:Key} (U:ib a b) (ad:ib b c):ib a c:=by
 rcases EW.1 U with h|rfl
 · exact qB (Ci h ad)
 · exact ad
def od (l:List bl):Prop:=l.Pairwise fun a b=>cv a.1 b.1
def ke (l:List bl) (k v:Key):List bl:=(l.filter fun p=>decide (cv p.1 k))++(k,v)::l.filter fun p=>decide (cv k p.1)
def jU (l:List bl) (k:Key):List bl:=l.filter fun p=>decide (p.1≠k)
def kf (l:List bl) (k:Key):Option Key:=(l.find? fun p=>decide (p.1=k)).map (·.2)
def jV (l:List bl) (fr to:Key):List bl:=l.filter fun p=>decide (ib fr p.1)&&(to.isEmpty||decide (cv p.1 to))
def kM (lo hi:Option Key) (k:Key):Prop:=(∀a,lo=some a→ib a k)∧(∀b,hi=some b→cv k b)
theorem ahe {a b:List bl} {k v:Key} (h:∀p∈b,cv k p.1):ke (a++b) k v=ke a k v++b:=by
 have a_:b.filter (fun p=>decide (cv p.1 k))=[]:=EK.2 fun p aW=>by simpa using z7 (h p aW)
 have bw:b.filter (fun p=>decide (cv k p.1))=b:=uS.2 fun p aW=>iB (h p aW)
 unfold ke
 rw[Ca,Ca,a_,bw,mh,eI,EL]
theorem XH {a b:List bl} {k v:Key} (h:∀p∈a,cv p.1 k):ke (a++b) k v=a++ke b k v:=by
 have a_:a.filter (fun p=>decide (cv p.1 k))=a:=uS.2 fun p aW=>iB (h p aW)
 have bw:a.filter (fun p=>decide (cv k p.1))=[]:=EK.2 fun p aW=>by simpa using z7 (h p aW)
 unfold ke
 rw[Ca,Ca,a_,bw,rl,eI]
theorem Hb (a b:List bl) (k:Key):jU (a++b) k=jU a k++jU b k:=Ca ..
theorem EX {a:List bl} {k:Key} (h:∀p∈a,p.1≠k):jU a k=a:=uS.2 fun p aW=>iB (h p aW)
theorem uX {a b:Key} (h:cv a b):a≠b:=fun e=>z6 b (e▸h)
theorem Hc {a b:List bl}:od (a++b)↔od a∧od b∧∀p∈a,∀q∈b,cv p.1 q.1:=Cb
theorem XI {l:List bl} {k v:Key} {p:bl}:p∈ke l k v↔p=(k,v)∨(p∈l∧p.1≠k):=by
 unfold ke
 rw[fa,fZ,GX,GX,fx,fx]
 constructor
 · rintro (⟨h,ad⟩|rfl|⟨h,ad⟩)
   · exact .inr ⟨h,uX ad⟩
   · exact .inl rfl
   · exact .inr ⟨h,(uX ad).symm⟩
 · rintro (rfl|⟨h,ad⟩)
   · exact .inr (.inl rfl)
   · rcases Rt p.1 k with au|au|au
     · exact .inl ⟨h,au⟩
     · exact absurd au ad
     · exact .inr (.inr ⟨h,au⟩)
end Go.Proofs.YtplieiecebljmaaGreat
namespace Go.Proofs.YtplieiecebljmaaGreat
structure aL where
 leaf:Bool
 keys:List Key
 vals:List Key
 kids:List Nat
 deriving DecidableEq
abbrev Below:=Option Key→Option Key→Nat→List Nat→List bl→Prop
inductive gI (W:Below):Option Key→Option Key→List Key→List Nat→List Nat→List bl→Prop
 |one {lo hi:Option Key} {k:Nat} {p:List Nat} {L:List bl} (h:W lo hi k p L):gI W lo hi [] [k] p L
 |cons {lo hi:Option Key} {s:Key} {k:Nat} {cp cm:List Nat} {bU cj:List bl} {ks:List Key} {kids:List Nat} (h:W lo (some s) k cp bU) (t:gI W (some s) hi ks kids cm cj):
     gI W lo hi (s::ks) (k::kids) (cp++cm) (bU++cj)
variable {W:Below} {lo hi:Option Key}
theorem gI.len {ks:List Key} {kids p:List Nat} {L:List bl} (h:gI W lo hi ks kids p L):kids.length=ks.length+1:=by
 induction h with
 |one _=>rfl
 |cons _ _ dr=>simp[dr]
theorem gI.app {s:Key} {qC uY:List Key} {rn yh cp cm:List Nat} {bU cj:List bl} (U:gI W lo (some s) qC rn cp bU) (ad:gI W (some s) hi uY yh cm cj):
   gI W lo hi (qC++s::uY) (rn++yh) (cp++cm) (bU++cj):=by
 generalize hm:some s=m at U
 induction U with
 |one h=>subst hm;exact .cons h ad
 |cons h t dr=>
   rw[eI,eI]
   exact .cons h (dr hm)
theorem gI.cut:∀ {qC:List Key} {s:Key} {uY:List Key} {lo:Option Key} {kids p:List Nat} {L:List bl},gI W lo hi (qC++s::uY) kids p L→
   ∃ (rn yh cp cm:List Nat) (bU cj:List bl),kids=rn++yh∧p=cp++cm∧L=bU++cj∧gI W lo (some s) qC rn cp bU∧gI W (some s) hi uY yh cm cj
 | [],s,uY,lo,kids,p,L,h=>by
   cases h with
   |cons h t=>exact ⟨_,_,_,_,_,_,rfl,rfl,rfl, .one h,t⟩
 |a::qC,s,uY,lo,kids,p,L,h=>by
   cases h with
   |cons h t=>
     obtain ⟨dB,dZ,cp,cm,bU,cj,rfl,rfl,rfl,U,ad⟩:=gI.cut t
     exact ⟨_::dB,dZ,_++cp,cm,_++bU,cj,rfl,by rw[eI],by rw[eI], .cons h U,ad⟩
theorem gI.mono {V:Below} {ks:List Key} {kids p:List Nat} {L:List bl} (h:gI W lo hi ks kids p L) (hm:∀lo hi k p L,(∀x∈p,x∈p)→W lo hi k p L→V lo hi k p L):gI V lo hi ks kids p L:=by
 induction h with
 |one h=>exact .one (hm _ _ _ _ _ (fun _ h=>h) h)
 |cons h _ dr=>exact .cons (hm _ _ _ _ _ (fun _ h=>h) h) dr
theorem gI.yi {V:Below} {ks:List Key} {kids p:List Nat} {L:List bl} (h:gI W lo hi ks kids p L) (hm:∀lo hi k e2 L,(∀x∈e2,x∈p)→W lo hi k e2 L→V lo hi k e2 L):gI V lo hi ks kids p L:=by
 induction h with
 |one h=>exact .one (hm _ _ _ _ _ (fun _ h=>h) h)
 |cons h _ dr=>
   exact .cons (hm _ _ _ _ _ (fun x af=>tI _ af) h) (dr fun lo hi k e2 L aj=>hm lo hi k e2 L fun x af=>p4 _ (aj x af))
def eJ (k:Key):Prop:=1≤k.length∧k.length≤24
structure Nr (n:aL):Prop where
 ok:∀k∈n.keys,eJ k
 kg:n.keys.Pairwise cv
structure oe (n:aL):Prop extends Nr n where
 leaf:n.leaf=true
 len:n.vals.length=n.keys.length
 kids:n.kids=[]
 vals:∀v∈n.vals,v.length≤24
structure Ns (n:aL):Prop extends Nr n where
 inner:n.leaf=false
 some:n.keys≠ []
 len:n.kids.length=n.keys.length+1
 vals:n.vals=[]
 kids:∀k∈n.kids,k<1600
def aL.gQ (n:aL):List bl:=n.keys.zip n.vals
def aL.within (n:aL) (lo hi:Option Key):Prop:=∀k∈n.keys,kM lo hi k
def hN (P:Nat→Option aL):Nat→Below
 |0=>fun _ _ _ _ _=>False
 |1=>fun lo hi no p L=>∃n,P no=some n∧oe n∧n.within lo hi∧n.keys≠ []∧p=[no]∧L=n.gQ
 |h+2=>fun lo hi no p L=>∃n e2,P no=some n∧Ns n∧n.within lo hi∧p=no::e2∧
     gI (fun lo hi k p L=>hN P (h+1) lo hi k p L∧∃m,P k=some m∧2≤m.keys.length) lo hi n.keys n.kids e2 L
theorem hN.agree {P Q:Nat→Option aL}:∀ {h:Nat} {lo hi:Option Key} {no:Nat} {p:List Nat} {L:List bl},hN P h lo hi no p L→(∀x∈p,P x=Q x)→hN Q h lo hi no p L∧no∈p
 |0,_,_,_,_,_,hw,_=>hw.elim
 |1,_,_,no,_,_,⟨n,U,ad,au,aH,aY,b9⟩,J=>by
   have hm:no∈ [no]:=by simp
   rw[aY]
   exact ⟨⟨n,by rw[←J no (by rw[aY];exact hm)];exact U,ad,au,aH,rfl,b9⟩,hm⟩
 |h+2,_,_,no,_,_,⟨n,e2,U,ad,au,aH,aY⟩,J=>by
   subst aH
   refine ⟨⟨n,e2,by rw[←J no (by simp)];exact U,ad,au,rfl,aY.yi fun lo hi k q L aj ⟨hw,m,hm,ad⟩=> ?_⟩,by simp⟩
   have:=hN.agree hw fun x af=>J x (uT _ (aj x af))
   exact ⟨this.1,m,by rw[←J k (uT _ (aj k this.2))];exact hm,ad⟩
end Go.Proofs.YtplieiecebljmaaGreat
namespace Go.Proofs.YtplieiecebljmaaGreat
variable {W:Below} {lo hi:Option Key} {P:Nat→Option aL}
theorem ahf {lo hi:Option Key} {s k:Key} (U:kM lo (some s) k) (ad:kM lo hi s):kM lo hi k:=
 ⟨U.1,fun b ab=>yg (U.2 s rfl) (ad.2 b ab)⟩
theorem ahg {lo hi:Option Key} {s k:Key} (U:kM (some s) hi k) (ad:kM lo hi s):kM lo hi k:=
 ⟨fun a aU=>XG (ad.1 a aU) (U.1 s rfl),U.2⟩
theorem gI.kg {ks:List Key} {kids p:List Nat} {L:List bl} (h:gI W lo hi ks kids p L) (dk:∀lo hi k p L,W lo hi k p L→od L∧∀q∈L,kM lo hi q.1) (ae:ks.Pairwise cv) (ab:∀s∈ks,kM lo hi s):
   od L∧∀q∈L,kM lo hi q.1:=by
 induction h with
 |one h=>exact dk _ _ _ _ _ h
 | @cons lo hi s k cp cm bU cj ks kids h t dr=>
   obtain ⟨bK,da⟩:=dk _ _ _ _ _ h
   have sU:=r7.1 ae
   obtain ⟨aq,cI⟩:=dr sU.2 fun x af=>⟨fun a aU=>by cases aU;exact qB (sU.1 x af),(ab x (uT _ af)).2⟩
   have aj:=ab s List.mem_cons_self
   refine ⟨Hc.2 ⟨bK,aq,fun x af y b8=>Ci ((da x af).2 s rfl) ((cI y b8).1 s rfl)⟩,fun q J=> ?_⟩
   rcases fa.1 J with J|J
   · exact ahf (da q J) aj
   · exact ahg (cI q J) aj
theorem XJ:∀ {ks vs:List Key},ks.Pairwise cv→od (ks.zip vs)
 | [],vs,_=>by rw[List.zip_nil_left];exact List.Pairwise.nil
 |k::ks,[],_=>by rw[List.zip_nil_right];exact List.Pairwise.nil
 |k::ks,v::vs,h=>by
   rw[List.zip_cons_cons]
   have:=r7.1 h
   exact r7.2 ⟨fun q J=>this.1 _ (JE J).1,XJ this.2⟩
theorem oe.gQ {n:aL} (h:oe n):od n.gQ∧n.gQ.length=n.keys.length:=⟨XJ h.kg,by unfold aL.gQ;rw[Cc,h.len,Nat.min_self]⟩
theorem hN.kg:∀ {h:Nat} {lo hi:Option Key} {no:Nat} {p:List Nat} {L:List bl},hN P h lo hi no p L→od L∧∀q∈L,kM lo hi q.1
 |0,_,_,_,_,_,hw=>hw.elim
 |1,_,_,_,_,_,⟨n,_,ad,au,_,_,b9⟩=>by
   subst b9
   exact ⟨ad.gQ.1,fun q J=>au _ (JE J).1⟩
 |h+2,_,_,_,_,_,⟨n,_,_,ad,au,_,aY⟩=>aY.kg (fun _ _ _ _ _ hw=>hN.kg hw.1) ad.kg au
theorem gI.count {ks:List Key} {kids p:List Nat} {L:List bl} (h:gI W lo hi ks kids p L) {c:Nat} (dk:∀lo hi k p L,W lo hi k p L→p.length+1≤L.length∧c≤L.length):
   p.length+kids.length≤L.length∧c*kids.length≤L.length:=by
 induction h with
 |one h=>have:=dk _ _ _ _ _ h;simp;omega
 |cons h _ dr=>
   have:=dk _ _ _ _ _ h
   simp only[dO,k8,Nat.mul_add,mi]
   omega
theorem hN.count:∀ {h:Nat} {lo hi:Option Key} {no:Nat} {p:List Nat} {L:List bl},hN P h lo hi no p L→((∃m,P no=some m∧2≤m.keys.length)∨2≤h)→p.length+1≤L.length∧2^h≤L.length
 |0,_,_,_,_,_,hw,_=>hw.elim
 |1,_,_,_,_,_,⟨n,U,ad,_,_,aY,b9⟩,hm=>by
   rcases hm with ⟨m,e,hm⟩|hm
   · rw[U] at e
     cases e
     subst aY b9
     have:=ad.gQ.2
     simp only[rm];omega
   · omega
 |h+2,_,_,_,_,_,⟨n,e2,_,ad,_,aH,aY⟩,_=>by
   have al:=aY.count (c:=2^(h+1)) fun lo hi k p L ⟨hw,hm⟩=>hN.count hw (.inl hm)
   have az:=ad.len
   have aj:1≤n.keys.length:=List.length_pos_iff.2 ad.some
   subst aH
   have:2^(h+1)*2≤2^(h+1)*n.kids.length:=Nat.mul_le_mul_left _ (by omega)
   rw[Nat.pow_succ 2 (h+1)]
   simp only[k8]
   omega
theorem hN.pages {h:Nat} {lo hi:Option Key} {no:Nat} {p:List Nat} {L:List bl} (hw:hN P h lo hi no p L):p.length≤L.length∧1≤L.length∧(2≤h→2^h≤L.length):=by
 match h with
 |0=>exact hw.elim
 |1=>
   obtain ⟨n,U,ad,_,aH,aY,b9⟩:=hw
   subst aY b9
   have:=ad.gQ.2
   have iD:=List.length_pos_iff.2 aH
   simp only[rm]
   exact ⟨by omega,by omega,by omega⟩
 |h+2=>
   have:=hN.count hw (.inr (by omega))
   exact ⟨by omega,by omega,fun _=>this.2⟩
end Go.Proofs.YtplieiecebljmaaGreat
namespace Go.Proofs.YtplieiecebljmaaGreat
variable {W V:Below} {lo hi:Option Key}
inductive k0 (W:Below) (lo:Option Key):Option Key→List Key→List Nat→List Nat→List bl→Prop
 |nil:k0 W lo lo [] [] [] []
 |more {s:Key} {ks:List Key} {kids p:List Nat} {L:List bl} (h:gI W lo (some s) ks kids p L):k0 W lo (some s) (ks++ [s]) kids p L
inductive nf (W:Below) (hi:Option Key):Option Key→List Key→List Nat→List Nat→List bl→Prop
 |nil:nf W hi hi [] [] [] []
 |more {s:Key} {ks:List Key} {kids p:List Nat} {L:List bl} (h:gI W (some s) hi ks kids p L):nf W hi (some s) (s::ks) kids p L
variable {m:Option Key} {qC uY:List Key} {rn yh cp cm:List Nat} {bU cj:List bl}
theorem k0.ahh (U:k0 W lo m qC rn cp bU) (ad:gI W m hi uY yh cm cj):gI W lo hi (qC++uY) (rn++yh) (cp++cm) (bU++cj):=by
 cases U with
 |nil=>exact ad
 |more h=>rw[eI];exact h.app ad
theorem gI.post (U:gI W lo m qC rn cp bU) (ad:nf W hi m uY yh cm cj):gI W lo hi (qC++uY) (rn++yh) (cp++cm) (bU++cj):=by
 cases ad with
 |nil=>simpa using U
 |more h=>exact U.app h
theorem k0.cons {s:Key} {k:Nat} {p:List Nat} {L:List bl} (h:W lo (some s) k p L) (t:k0 W (some s) m qC rn cp bU):k0 W lo m (s::qC) (k::rn) (p++cp) (L++bU):=by
 cases t with
 |nil=>rw[mh,mh];exact k0.more (ks:=[]) (.one h)
 |more t=>exact k0.more (ks:=s::_) (.cons h t)
theorem k0.yi (h:k0 W lo m qC rn cp bU) (hm:∀lo hi k e2 L,(∀x∈e2,x∈cp)→W lo hi k e2 L→V lo hi k e2 L):k0 V lo m qC rn cp bU:=by
 cases h with
 |nil=>exact .nil
 |more h=>exact .more (h.yi hm)
theorem nf.yi (h:nf W hi m qC rn cp bU) (hm:∀lo hi k e2 L,(∀x∈e2,x∈cp)→W lo hi k e2 L→V lo hi k e2 L):nf V hi m qC rn cp bU:=by
 cases h with
 |nil=>exact .nil
 |more h=>exact .more (h.yi hm)
theorem gI.at {ks:List Key} {kids p:List Nat} {L:List bl} (h:gI W lo hi ks kids p L):∀ (i:Nat) (ae:i<kids.length),∃ (g_ fo:Option Key) (cp q cm:List Nat) (bU M cj:List bl),
   p=cp++(q++cm)∧L=bU++(M++cj)∧W g_ fo kids[i] q M∧k0 W lo g_ (ks.take i) (kids.take i) cp bU∧nf W hi fo (ks.drop i) (kids.drop (i+1)) cm cj:=by
 induction h with
 | @one lo hi k p L h=>
   intro i ae
   have:i=0:=by simp at ae;omega
   subst this
   exact ⟨lo,hi,[],p,[],[],L,[],by simp,by simp,h, .nil, .nil⟩
 | @cons lo hi s k cp cm bU cj ks kids h t dr=>
   intro i ae
   cases i with
   |zero=>exact ⟨lo,some s,[],cp,cm,[],bU,cj,rfl,rfl,h, .nil, .more t⟩
   |succ i=>
     obtain ⟨g_,fo,a,q,b,A,M,B,rfl,rfl,U,ad,au⟩:=dr i (by simpa using ae)
     exact ⟨g_,fo,cp++a,q,b,bU++A,M,B,by rw[eI],by rw[eI],U,k0.cons h ad,au⟩
theorem k0.inv {kids p:List Nat} {L:List bl} (h:k0 W lo m [] kids p L):m=lo∧kids=[]∧p=[]∧L=[]:=by
 generalize e:([]:List Key)=K at h
 cases h with
 |nil=>exact ⟨rfl,rfl,rfl,rfl⟩
 |more h=>simp at e
theorem nf.head {ks:List Key} {kids p:List Nat} {L:List bl} (h:nf W hi m ks kids p L) (ae:0<kids.length):∃ (s:Key) (fo:Option Key) (q cm:List Nat) (M cj:List bl) (aj:0<ks.length),
   m=some s∧s=ks[0]∧p=q++cm∧L=M++cj∧W (some s) fo (kids[0]) q M∧nf W hi fo (ks.drop 1) (kids.drop 1) cm cj:=by
 cases h with
 |nil=>simp at ae
 | @more s ks kids p L h=>
   obtain ⟨g_,fo,cp,q,cm,bU,M,cj,rfl,rfl,U,ad,au⟩:=h.at 0 ae
   rw[List.take_zero] at ad
   obtain ⟨rfl,_,rfl,rfl⟩:=ad.inv
   exact ⟨s,fo,q,cm,M,cj,by simp,rfl,rfl,rfl,rfl,U,by simpa using au⟩
end Go.Proofs.YtplieiecebljmaaGreat
namespace Go.Proofs.YtplieiecebljmaaGreat
variable {W V:Below} {lo hi m:Option Key}
def fR (ks:List Key) (k:Key):Nat:=ks.findIdx fun s=>decide (cv k s)
theorem Nt (ks:List Key) (k:Key):fR ks k≤ks.length:=List.findIdx_le_length
theorem ahi {ks:List Key} {k:Key} {i:Nat} (h:i<fR ks k) (hi:i<ks.length):ib ks[i] k:=by
 have:=List.not_of_lt_findIdx h
 exact XF.1 (by simpa using this)
theorem ahj {ks:List Key} {k:Key} (h:fR ks k<ks.length):cv k ks[fR ks k]:=by
 have:=List.findIdx_getElem (p:=fun s=>decide (cv k s)) (xs:=ks) (w:=h)
 exact dG this
theorem k0.ahk {i:Nat} {ks:List Key} {kids p:List Nat} {L:List bl} (h:k0 W lo m (ks.take i) kids p L) {k:Key} (az:∀ (j:Nat) (a8:j<ks.length),j<i→ib ks[j] k) (ae:∀a,lo=some a→ib a k):∀a,m=some a→ib a k:=by
 generalize e:ks.take i=K at h
 cases h with
 |nil=>exact ae
 | @more s Ru kids p L h=>
   intro a aU
   cases aU
   have hm:s∈ks.take i:=by rw[e];simp
   obtain ⟨j,a8,rfl⟩:=List.mem_take_iff_getElem.1 hm
   exact az j (by omega) (by omega)
theorem nf.ahl {i:Nat} {ks:List Key} {kids p:List Nat} {L:List bl} (h:nf W hi m (ks.drop i) kids p L) {k:Key} (az:∀ (h:i<ks.length),cv k ks[i]) (ae:∀a,hi=some a→cv k a):∀a,m=some a→cv k a:=by
 generalize e:ks.drop i=K at h
 cases h with
 |nil=>exact ae
 | @more s Ru kids p L h=>
   intro a aU
   cases aU
   have ba:i<ks.length:=by
     have:=congrArg List.length e
     simp at this;omega
   have:ks[i]=s:=by
     have:=tJ ba
     rw[e] at this
     exact (List.cons.inj this).1.symm
   rw[←this];exact az ba
theorem k0.below {ks:List Key} {kids p:List Nat} {L:List bl} (h:k0 W lo m ks kids p L) (dk:∀lo hi k p L,W lo hi k p L→od L∧∀q∈L,kM lo hi q.1) (ae:ks.Pairwise cv) (ab:∀s∈ks,kM lo hi s)
   {k:Key} (hm:∀a,m=some a→ib a k):∀q∈L,cv q.1 k:=by
 cases h with
 |nil=>intro q J;cases J
 | @more s Ru kids p L h=>
   have jW:=Cb.1 ae
   have:=h.kg dk jW.1 fun x af=>⟨(ab x (by simp[af])).1,fun b ab=>by cases ab;exact jW.2.2 x af s (by simp)⟩
   exact fun q J=>Ci ((this.2 q J).2 s rfl) (hm s rfl)
theorem nf.ahm {ks:List Key} {kids p:List Nat} {L:List bl} (h:nf W hi m ks kids p L) (dk:∀lo hi k p L,W lo hi k p L→od L∧∀q∈L,kM lo hi q.1) (ae:ks.Pairwise cv) (ab:∀s∈ks,kM lo hi s)
   {k:Key} (hm:∀a,m=some a→cv k a):∀q∈L,cv k q.1:=by
 cases h with
 |nil=>intro q J;cases J
 | @more s Ru kids p L h=>
   have jW:=r7.1 ae
   have:=h.kg dk jW.2 fun x af=>⟨fun a aU=>by cases aU;exact qB (jW.1 x af),(ab x (by simp[af])).2⟩
   exact fun q J=>Ci (hm s rfl) ((this.2 q J).1 s rfl)
def Loc (k:Key) (u:List bl→List bl):Prop:=∀bU M cj:List bl,(∀p∈bU,cv p.1 k)→(∀p∈cj,cv k p.1)→u (bU++(M++cj))=bU++(u M++cj)
theorem ahn (k v:Key):Loc k fun L=>ke L k v:=fun bU M cj U ad=>by
 show ke _ _ _=_
 rw[XH U,ahe ad]
theorem Rv (k:Key):Loc k fun L=>jU L k:=fun bU M cj U ad=>by
 show jU _ _=_
 rw[Hb,Hb,EX fun p aW=>uX (U p aW),EX fun p aW=>(uX (ad p aW)).symm]
end Go.Proofs.YtplieiecebljmaaGreat
namespace Go.Proofs.YtplieiecebljmaaGreat
variable {W V:Below} {lo hi m:Option Key} {P Q:Nat→Option aL}
def kN (P:Nat→Option aL) (h:Nat):Below:=fun lo hi k p L=>hN P h lo hi k p L∧∃m,P k=some m∧2≤m.keys.length
theorem kN.agree {h no:Nat} {p:List Nat} {L:List bl} (hw:kN P h lo hi no p L) (J:∀x∈p,P x=Q x):kN Q h lo hi no p L:=by
 obtain ⟨U,m,ad,au⟩:=hw
 have:=U.agree J
 exact ⟨this.1,m,by rw[←J no this.2];exact ad,au⟩
theorem aho {α:Type} {l:List α} (h:1≤l.length):l≠ []:=fun e=>by subst e;simp at h
theorem kN.in {h no:Nat} {p:List Nat} {L:List bl} (hw:kN P h lo hi no p L):L≠ []∧od L∧∀q∈L,kM lo hi q.1:=⟨aho hw.1.pages.2.1,hw.1.kg⟩
theorem gI.sorted {ks:List Key} {kids p:List Nat} {L:List bl} (h:gI W lo hi ks kids p L) (dk:∀lo hi k p L,W lo hi k p L→L≠ []∧od L∧∀q∈L,kM lo hi q.1):
   L≠ []∧(∀q∈L,kM lo hi q.1)∧ks.Pairwise cv∧∀s∈ks,(∀a,lo=some a→cv a s)∧∀b,hi=some b→cv s b:=by
 induction h with
 |one h=>exact ⟨(dk _ _ _ _ _ h).1,(dk _ _ _ _ _ h).2.2, .nil,by simp⟩
 | @cons lo hi s k cp cm bU cj ks kids h t dr=>
   obtain ⟨dt,_,da⟩:=dk _ _ _ _ _ h
   obtain ⟨db,cI,aq,aw⟩:=dr
   obtain ⟨x,af⟩:=JF _ dt
   obtain ⟨y,b8⟩:=JF _ db
   have kO:∀a,lo=some a→cv a s:=fun a aU=>tN ((da x af).1 a aU) ((da x af).2 s rfl)
   have mB:∀b,hi=some b→cv s b:=fun b ab=>tN ((cI y b8).1 s rfl) ((cI y b8).2 b ab)
   refine ⟨by simp[dt],fun q J=> ?_,r7.2 ⟨fun z bO=>(aw z bO).1 s rfl,aq⟩,fun z bO=> ?_⟩
   · rcases fa.1 J with J|J
     · exact ⟨(da q J).1,fun b ab=>yg ((da q J).2 s rfl) (mB b ab)⟩
     · exact ⟨fun a aU=>qB (Ci (kO a aU) ((cI q J).1 s rfl)),(cI q J).2⟩
   · rcases fZ.1 bO with rfl|bO
     · exact ⟨kO,mB⟩
     · exact ⟨fun a aU=>yg (kO a aU) ((aw z bO).1 s rfl),(aw z bO).2⟩
def fH (P:Nat→Option aL):Nat→aL→Option Key→Option Key→List Nat→List bl→Prop
 |0,_,_,_,_,_=>False
 |1,n,lo,hi,p,L=>oe n∧n.within lo hi∧p=[]∧L=n.gQ
 |h+2,n,lo,hi,p,L=>n.leaf=false∧n.vals=[]∧(∀k∈n.keys,eJ k)∧(∀k∈n.kids,k<1600)∧gI (kN P (h+1)) lo hi n.keys n.kids p L
theorem fH.agree:∀ {h:Nat} {n:aL} {p:List Nat} {L:List bl},fH P h n lo hi p L→(∀x∈p,P x=Q x)→fH Q h n lo hi p L
 |0,_,_,_,h,_=>h.elim
 |1,_,_,_,h,_=>h
 |_+2,_,_,_,⟨U,ad,au,aH,aY⟩,J=>⟨U,ad,au,aH,aY.yi fun _ _ _ _ _ aj hw=>hw.agree fun x af=>J x (aj x af)⟩
theorem fH.lay:∀ {h:Nat} {n:aL} {x:Nat} {p:List Nat} {L:List bl},fH P h n lo hi p L→n.keys≠ []→Q x=some n→(∀y∈p,P y=Q y)→hN Q h lo hi x (x::p) L
 |0,_,_,_,_,h,_,_,_=>h.elim
 |1,n,x,p,L,⟨U,ad,au,aH⟩,ae,af,_=>by
   subst au
   exact ⟨n,af,U,ad,ae,rfl,aH⟩
 |h+2,n,x,p,L,ak,ae,af,J=>by
   obtain ⟨U,ad,au,aH,aY⟩:=ak.agree J
   have aj:=aY.sorted fun _ _ _ _ _ hw=>hw.in
   exact ⟨n,p,af,⟨⟨au,aj.2.2.1⟩,U,ae,aY.len,ad,aH⟩,fun s mB=>⟨fun a aU=>qB ((aj.2.2.2 s mB).1 a aU),(aj.2.2.2 s mB).2⟩,rfl,aY⟩
def aL.left (n:aL) (i:Nat):aL:=if n.leaf then ⟨true,n.keys.take i,n.vals.take i,[]⟩ else ⟨false,n.keys.take i,[],n.kids.take (i+1)⟩
def aL.right (n:aL) (i:Nat):aL:=if n.leaf then ⟨true,n.keys.drop i,n.vals.drop i,[]⟩ else ⟨false,n.keys.drop (i+1),[],n.kids.drop (i+1)⟩
theorem fH.leaf {h:Nat} {n:aL} {p:List Nat} {L:List bl} (ak:fH P h n lo hi p L):n.leaf=decide (h=1):=by
 match h,ak with
 |0,ak=>exact ak.elim
 |1,ak=>rw[ak.1.leaf];rfl
 |h+2,ak=>rw[ak.1];simp
theorem fH.Rw {h:Nat} {n:aL} {p:List Nat} {L:List bl} (ak:fH P h n lo hi p L) {i:Nat} (U:1≤i) (ft:i<n.keys.length):
   ∃ (cp cm:List Nat) (bU cj:List bl),p=cp++cm∧L=bU++cj∧fH P h (n.left i) lo (some n.keys[i]) cp bU∧fH P h (n.right i) (some n.keys[i]) hi cm cj:=by
 match h,ak with
 |0,ak=>exact ak.elim
 |1,⟨a,b,c,d⟩=>
   subst c d
   have aN:=a.kg
   have oY:n.keys=n.keys.take i++n.keys.drop i:=(p5 _ _).symm
   have fS:=aN
   rw[oY] at fS
   obtain ⟨bK,aq,bV⟩:=Cb.1 fS
   have hd:n.keys.drop i=n.keys[i]::n.keys.drop (i+1):=tJ ft
   have aG:n.left i=⟨true,n.keys.take i,n.vals.take i,[]⟩:=by unfold aL.left;rw[a.leaf];rfl
   have bg:n.right i=⟨true,n.keys.drop i,n.vals.drop i,[]⟩:=by unfold aL.right;rw[a.leaf];rfl
   rw[aG,bg]
   refine ⟨[],[],n.gQ.take i,n.gQ.drop i,rfl,(p5 _ _).symm,⟨⟨⟨fun k ae=>a.ok k (kL ae),bK⟩,rfl,by simp[a.len],rfl,fun v ak=>a.vals v (kL ak)⟩,fun k ae=>⟨(b k (kL ae)).1,fun s aj=> ?_⟩,rfl,?_⟩,
     ⟨⟨⟨fun k ae=>a.ok k (kt ae),aq⟩,rfl,by simp[a.len],rfl,fun v ak=>a.vals v (kt ak)⟩,fun k ae=>⟨fun s aj=> ?_,(b k (kt ae)).2⟩,rfl,?_⟩⟩
   · cases aj
     exact bV k ae _ (by rw[hd];exact List.mem_cons_self)
   · exact List.take_zipWith
   · cases aj
     have ae:k∈n.keys.drop i:=ae
     rw[hd] at ae aq
     rcases fZ.1 ae with rfl|ae
     · exact XE _
     · exact qB ((r7.1 aq).1 k ae)
   · exact List.drop_zipWith
 |h+2,⟨a,b,c,d,e⟩=>
   have aG:n.left i=⟨false,n.keys.take i,[],n.kids.take (i+1)⟩:=by unfold aL.left;rw[a];rfl
   have bg:n.right i=⟨false,n.keys.drop (i+1),[],n.kids.drop (i+1)⟩:=by unfold aL.right;rw[a];rfl
   have oY:n.keys=n.keys.take i++n.keys[i]::n.keys.drop (i+1):=by rw[←tJ ft,p5]
   rw[oY] at e
   obtain ⟨dB,dZ,cp,cm,bU,cj,a_,rfl,rfl,s1,s2⟩:=e.cut
   have az:=s1.len
   rw[ej,r8 (by omega)] at az
   have ahp:n.kids.take (i+1)=dB:=by rw[a_,←az,List.take_left]
   have ahq:n.kids.drop (i+1)=dZ:=by rw[a_,←az,List.drop_left]
   rw[aG,bg,ahp,ahq]
   exact ⟨cp,cm,bU,cj,rfl,rfl,⟨rfl,rfl,fun k ae=>c k (kL ae),fun k ae=>d k (by rw[a_];simp[ae]),s1⟩,⟨rfl,rfl,fun k ae=>c k (kt ae),fun k ae=>d k (by rw[a_];simp[ae]),s2⟩⟩
end Go.Proofs.YtplieiecebljmaaGreat
namespace Go.Proofs.YtplieiecebljmaaGreat
variable {lo hi:Option Key} {P Q:Nat→Option aL}
def hA (a:aL) (s:Key) (b:aL):aL:=if a.leaf then ⟨true,a.keys++b.keys,a.vals++b.vals,[]⟩ else ⟨false,a.keys++s::b.keys,[],a.kids++b.kids⟩
theorem EY {a b c d:List Key} (h:a.length=c.length):(a++b).zip (c++d)=a.zip c++b.zip d:=List.zip_append h
theorem fH.merge {h:Nat} {a b:aL} {s:Key} {pa Nu:List Nat} {Nv Nw:List bl} (aU:fH P h a lo (some s) pa Nv) (ab:fH P h b (some s) hi Nu Nw) (aj:eJ s) (ahr:∀k,lo=some k→ib k s) (ahs:∀k,hi=some k→ib s k):
   fH P h (hA a s b) lo hi (pa++Nu) (Nv++Nw):=by
 match h,aU,ab with
 |0,aU,_=>exact aU.elim
 |1,⟨bc,cW,a3,a4⟩,⟨da,cI,eM,e7⟩=>
   subst a3 a4 eM e7
   have e:hA a s b=⟨true,a.keys++b.keys,a.vals++b.vals,[]⟩:=by unfold hA;rw[bc.leaf];rfl
   rw[e]
   refine ⟨⟨⟨fun k ae=> ?_,Cb.2 ⟨bc.kg,da.kg,fun x af y b8=>Ci ((cW x af).2 s rfl) ((cI y b8).1 s rfl)⟩⟩,rfl,by simp[bc.len,da.len],rfl,fun v ak=> ?_⟩,fun k ae=> ?_,rfl,?_⟩
   · rcases fa.1 ae with ae|ae
     · exact bc.ok k ae
     · exact da.ok k ae
   · rcases fa.1 ak with ak|ak
     · exact bc.vals v ak
     · exact da.vals v ak
   · rcases fa.1 ae with ae|ae
     · exact ⟨(cW k ae).1,fun c al=>Ci ((cW k ae).2 s rfl) (ahs c al)⟩
     · exact ⟨fun c al=>XG (ahr c al) ((cI k ae).1 s rfl),(cI k ae).2⟩
   · exact (EY bc.len.symm).symm
 |h+2,⟨bc,cW,a3,a4,a5⟩,⟨da,cI,eM,e7,iu⟩=>
   have e:hA a s b=⟨false,a.keys++s::b.keys,[],a.kids++b.kids⟩:=by unfold hA;rw[bc];rfl
   rw[e]
   refine ⟨rfl,rfl,fun k ae=> ?_,fun k ae=> ?_,a5.app iu⟩
   · rcases fa.1 ae with ae|ae
     · exact a3 k ae
     · rcases fZ.1 ae with rfl|ae
       · exact aj
       · exact eM k ae
   · rcases fa.1 ae with ae|ae
     · exact a4 k ae
     · exact e7 k ae
theorem hN.wy {h no:Nat} {p:List Nat} {L:List bl} (hw:hN P h lo hi no p L):∃n e2,P no=some n∧p=no::e2∧n.keys≠ []∧fH P h n lo hi e2 L:=by
 match h,hw with
 |0,hw=>exact hw.elim
 |1,⟨n,U,ad,au,aH,aY,b9⟩=>exact ⟨n,[],U,aY,aH,ad,au,rfl,b9⟩
 |h+2,⟨n,e2,U,ad,au,aH,aY⟩=>exact ⟨n,e2,U,aH,ad.some,ad.inner,ad.vals,ad.ok,ad.kids,aY⟩
def ml (n:aL) (fr to:Nat) (ks:List Key) (kids:List Nat):aL:=⟨false,n.keys.take fr++ks++n.keys.drop (to-1),[],n.kids.take fr++kids++n.kids.drop to⟩
end Go.Proofs.YtplieiecebljmaaGreat
namespace Go.Proofs.YtplieiecebljmaaGreat
def cellsOf (n:aL):List Nat:=if n.leaf then List.zipWith (fun k v=>2+k.length+v.length) n.keys n.vals else n.keys.map fun k=>3+k.length
def cq (n:aL):Nat:=(if n.leaf then 1 else 3)+(cellsOf n).sum
def mW (c:List Nat) (most:Nat):Nat:=match (List.range most).find? fun i=>decide (c.sum≤2*(c.take (i+1)).sum) with
 |some i=>i+1
 |none=>most
theorem Cj {B:Nat}:∀ {l:List Nat},(∀x∈l,x≤B)→l.sum≤B*l.length
 | [],_=>by simp
 |a::l,h=>by
   have U:=h a (by simp)
   have ad:=Cj (l:=l) fun x af=>h x (by simp[af])
   rw[JG,k8,Nat.mul_add,mi]
   omega
theorem Rx (l:List Nat) (i:Nat):(l.take i).sum+(l.drop i).sum=l.sum:=by
 rw[←yd,p5]
theorem Hd {l:List Nat} {i:Nat} (h:i<l.length):(l.take (i+1)).sum=(l.take i).sum+l[i]:=by
 rw[qx h,yd];simp
theorem XK {c:List Nat} {most:Nat} (hm:1≤most) (aj:0<c.sum):1≤mW c most∧mW c most≤most∧2*(c.take (mW c most-1)).sum<c.sum∧(mW c most=most∨c.sum≤2*(c.take (mW c most)).sum):=by
 unfold mW
 cases h:(List.range most).find? fun i=>decide (c.sum≤2*(c.take (i+1)).sum) with
 |none=>
   have aC:=r9.1 h
   refine ⟨hm,cR _,?_, .inl rfl⟩
   by_cases U:most=1
   · subst U;simpa using aj
   · have:=aC (most-2) (wq.2 (by omega))
     have e:most-2+1=most-1:=by omega
     rw[e] at this
     simp at this
     exact this
 |some i=>
   have hi:i<most:=wq.1 (EM h)
   have aW:=GY h
   refine ⟨by simp,by simp;omega,?_, .inr (by simpa using aW)⟩
   show 2*(c.take (i+1-1)).sum<c.sum
   rw[Nat.add_sub_cancel]
   cases i with
   |zero=>simpa using aj
   |succ j=>
     have:=(List.find?_range_eq_some.1 h).2.2 j (by omega)
     simpa using this
theorem aht {c:List Nat} (fu:∀x∈c,x≤50) (U:232≤c.sum) (ad:c.sum≤309):
   2≤mW c (c.length-1)∧mW c (c.length-1)+2≤c.length∧(c.take (mW c (c.length-1))).sum≤231∧(c.drop (mW c (c.length-1))).sum≤231:=by
 have az:=Cj fu
 have cS:=XK (c:=c) (most:=c.length-1) (by omega) (by omega)
 generalize mW c (c.length-1)=i at cS⊢
 obtain ⟨bc,cW,a3,a4⟩:=cS
 have aj:=Rx c i
 have aR:=Hd (l:=c) (i:=i-1) (by omega)
 rw[Nat.sub_add_cancel bc] at aR
 have al:=fu c[i-1] (fh _)
 have hd:=Cj (l:=c.drop i) fun x af=>fu x (kt af)
 have ae:=Cj (l:=c.take i) fun x af=>fu x (kL af)
 rw[fF] at hd
 rw[ej,r8 (by omega)] at ae
 have key:c.sum≤2*(c.take i).sum:=by
   rcases a4 with h|h
   · have:c.length-i=1:=by omega
     rw[this] at hd
     omega
   · exact h
 refine ⟨by omega,?_,by omega,by omega⟩
 rcases g8 (c.length-i) 2 with h|h
 · have:c.length-i=1:=by omega
   rw[this] at hd;omega
 · omega
theorem ahu {c:List Nat} (fu:∀x∈c,x≤27) (U:230≤c.sum) (ad:c.sum≤332):
   2≤mW c (c.length-2)∧mW c (c.length-2)+3≤c.length∧(c.take (mW c (c.length-2))).sum≤229∧(c.drop (mW c (c.length-2)+1)).sum≤229:=by
 have az:=Cj fu
 have cS:=XK (c:=c) (most:=c.length-2) (by omega) (by omega)
 generalize mW c (c.length-2)=i at cS⊢
 obtain ⟨bc,cW,a3,a4⟩:=cS
 have aj:=Rx c (i+1)
 have aR:=Hd (l:=c) (i:=i-1) (by omega)
 have hu:=Hd (l:=c) (i:=i) (by omega)
 rw[Nat.sub_add_cancel bc] at aR
 have al:=fu c[i-1] (fh _)
 have dS:=fu c[i] (fh _)
 have hd:=Cj (l:=c.drop (i+1)) fun x af=>fu x (kt af)
 have ae:=Cj (l:=c.take i) fun x af=>fu x (kL af)
 rw[fF] at hd
 rw[ej,r8 (by omega)] at ae
 have key:c.sum≤2*(c.take i).sum:=by
   rcases a4 with h|h
   · have:c.length-(i+1)=1:=by omega
     rw[this] at hd
     omega
   · exact h
 refine ⟨by omega,?_,by omega,by omega⟩
 rcases g8 (c.length-(i+1)) 2 with h|h
 · have:c.length-(i+1)≤1:=by omega
   have:27*(c.length-(i+1))≤27*1:=Nat.mul_le_mul_left _ this
   omega
 · omega
end Go.Proofs.YtplieiecebljmaaGreat
namespace Go.Proofs.YtplieiecebljmaaGreat
variable {W:Below} {lo hi m:Option Key} {P Q:Nat→Option aL}
theorem nf.inv {kids p:List Nat} {L:List bl} (h:nf W hi m [] kids p L):m=hi∧kids=[]∧p=[]∧L=[]:=by
 generalize e:([]:List Key)=K at h
 cases h with
 |nil=>exact ⟨rfl,rfl,rfl,rfl⟩
 |more h=>simp at e
theorem k0.last {ks:List Key} {kids p:List Nat} {L:List bl} (h:k0 W lo m ks kids p L) (ae:0<kids.length):∃ (s:Key) (g_:Option Key) (cp r:List Nat) (bU N:List bl) (aj:0<ks.length),
   m=some s∧s=ks[ks.length-1]∧p=cp++r∧L=bU++N∧W g_ (some s) (kids[kids.length-1]) r N∧k0 W lo g_ (ks.take (ks.length-1)) (kids.take (kids.length-1)) cp bU∧kids.length=ks.length:=by
 cases h with
 |nil=>simp at ae
 | @more s ks kids p L h=>
   have az:=h.len
   obtain ⟨g_,fo,cp,q,cm,bU,M,cj,rfl,rfl,U,ad,au⟩:=h.at (kids.length-1) (by omega)
   rw[List.drop_of_length_le (by omega)] at au
   obtain ⟨rfl,_,rfl,rfl⟩:=au.inv
   refine ⟨s,g_,cp,q,bU,M,by simp,rfl,by simp,by simp,by simp,U,?_,by simp;omega⟩
   have e:(ks++ [s]).take ((ks++ [s]).length-1)=ks.take (kids.length-1):=by
     rw[az];simp
   rw[e];exact ad
theorem fH.at {h:Nat} {n:aL} {p:List Nat} {L:List bl} (ak:fH P (h+2) n lo hi p L) {k:Key} (ae:kM lo hi k):∃ (g_ fo:Option Key) (cp q cm:List Nat) (bU M cj:List bl) (ab:fR n.keys k<n.kids.length),
   p=cp++(q++cm)∧L=bU++(M++cj)∧kN P (h+1) g_ fo n.kids[fR n.keys k] q M∧kM g_ fo k∧(∀u,Loc k u→u L=bU++(u M++cj))∧n.kids.length=n.keys.length+1∧
   k0 (kN P (h+1)) lo g_ (n.keys.take (fR n.keys k)) (n.kids.take (fR n.keys k)) cp bU∧nf (kN P (h+1)) hi fo (n.keys.drop (fR n.keys k)) (n.kids.drop (fR n.keys k+1)) cm cj:=by
 obtain ⟨a,b,c,d,e⟩:=ak
 have az:=e.len
 have hle:=Nt n.keys k
 have aj:=e.sorted fun _ _ _ _ _ hw=>hw.in
 have fp:∀s∈n.keys,kM lo hi s:=fun s h=>⟨fun a aU=>qB ((aj.2.2.2 s h).1 a aU),(aj.2.2.2 s h).2⟩
 obtain ⟨g_,fo,cp,q,cm,bU,M,cj,rfl,rfl,U,ad,au⟩:=e.at (fR n.keys k) (by omega)
 have lT:=ad.ahk (k:=k) (fun j a8 h=>ahi h a8) ae.1
 have Ck:=au.ahl (k:=k) (fun h=>ahj h) ae.2
 have ahv:(n.keys.take (fR n.keys k)).Pairwise cv:=aj.2.2.1.sublist (List.take_sublist _ _)
 have c4:(n.keys.drop (fR n.keys k)).Pairwise cv:=aj.2.2.1.sublist (List.drop_sublist _ _)
 exact ⟨g_,fo,cp,q,cm,bU,M,cj,by omega,rfl,rfl,U,⟨lT,Ck⟩,fun u hu=>hu _ _ _ (ad.below (hi:=hi) (fun _ _ _ _ _ hw=>hw.in.2) ahv (fun s h=>fp s (kL h)) lT) (au.ahm (lo:=lo) (fun _ _ _ _ _ hw=>hw.in.2) c4 (fun s h=>fp s (kt h)) Ck),
   az,ad,au⟩
theorem fH.build {h:Nat} {g_ fo:Option Key} {z8 yj ks:List Key} {EZ E0 kids cp cm q:List Nat} {bU M cj:List bl} (U:k0 (kN P (h+1)) lo g_ z8 EZ cp bU) (ad:nf (kN P (h+1)) hi fo yj E0 cm cj)
   (aj:gI (kN Q (h+1)) g_ fo ks kids q M) (J:∀x∈cp++cm,P x=Q x) (ae:∀s∈z8++ks++yj,eJ s) (hd:∀x∈EZ++kids++E0,x<1600):
   fH Q (h+2) ⟨false,z8++ks++yj,[],EZ++kids++E0⟩ lo hi (cp++(q++cm)) (bU++(M++cj)):=by
 have aB:k0 (kN Q (h+1)) lo g_ z8 EZ cp bU:=U.yi fun _ _ _ _ _ aj hw=>hw.agree fun x af=>J x (tI _ (aj x af))
 have aF:nf (kN Q (h+1)) hi fo yj E0 cm cj:=ad.yi fun _ _ _ _ _ aj hw=>hw.agree fun x af=>J x (p4 _ (aj x af))
 refine ⟨rfl,rfl,ae,hd,?_⟩
 show gI _ lo hi (z8++ks++yj) (EZ++kids++E0) _ _
 rw[eI,eI]
 exact aB.ahh (aj.post aF)
end Go.Proofs.YtplieiecebljmaaGreat
namespace Go.Proofs.YtplieiecebljmaaGreat
variable {lo hi:Option Key} {P Q:Nat→Option aL}
theorem fH.one {h x:Nat} {n:aL} {p:List Nat} {L:List bl} (ak:fH P h n lo hi p L) (ad:2≤n.keys.length) (af:Q x=some n) (J:∀y∈p,P y=Q y):gI (kN Q h) lo hi [] [x] (x::p) L:=
 .one ⟨ak.lay (fun e=>by rw[e] at ad;simp at ad) af J,n,af,ad⟩
theorem wz {n:aL} (h:n.leaf=true):cellsOf n=List.zipWith (fun k v=>2+k.length+v.length) n.keys n.vals:=by unfold cellsOf;rw[h];rfl
theorem wA {n:aL} (h:n.leaf=false):cellsOf n=n.keys.map fun k=>3+k.length:=by unfold cellsOf;rw[h];rfl
theorem Ry {B:Nat} {f:Key→Key→Nat}:∀ {ks vs:List Key},(∀k∈ks,∀v∈vs,f k v≤B)→∀x∈List.zipWith f ks vs,x≤B
 | [],vs,_,x,af=>by simp at af
 |k::ks,[],_,x,af=>by simp at af
 |k::ks,v::vs,h,x,af=>by
   rw[List.zipWith_cons_cons] at af
   rcases fZ.1 af with rfl|af
   · exact h k (by simp) v (by simp)
   · exact Ry (fun k ae v ak=>h k (by simp[ae]) v (by simp[ak])) x af
def dm (n:aL):Nat:=mW (cellsOf n) (if n.leaf then n.keys.length-1 else n.keys.length-2)
theorem fH.two {h x y:Nat} {n:aL} {p:List Nat} {L:List bl} (ak:fH P h n lo hi p L) (U:232<cq n) (ad:n.leaf=true→cq n≤310) (au:n.leaf=false→cq n≤335):
   1≤dm n∧(if n.leaf then dm n≤n.keys.length-1∧1≤n.keys.length-1 else dm n≤n.keys.length-2∧1≤n.keys.length-2)∧cq (n.left (dm n))≤232∧cq (n.right (dm n))≤232∧
     ∃ (ab:dm n<n.keys.length) (cp cm:List Nat) (bU cj:List bl),p=cp++cm∧L=bU++cj∧eJ n.keys[dm n]∧
       (Q x=some (n.left (dm n))→Q y=some (n.right (dm n))→(∀z∈p,P z=Q z)→gI (kN Q h) lo hi [n.keys[dm n]] [x,y] ((x::cp)++(y::cm)) (bU++cj)):=by
 have main:∀ (i:Nat),2≤i→(aH:i<n.keys.length)→2≤(n.left i).keys.length→2≤(n.right i).keys.length→∃ (ab:i<n.keys.length) (cp cm:List Nat) (bU cj:List bl),p=cp++cm∧L=bU++cj∧eJ n.keys[i]∧
     (Q x=some (n.left i)→Q y=some (n.right i)→(∀z∈p,P z=Q z)→gI (kN Q h) lo hi [n.keys[i]] [x,y] ((x::cp)++(y::cm)) (bU++cj)):=by
   intro i ft r_ az aN
   obtain ⟨cp,cm,bU,cj,rfl,rfl,v1,v2⟩:=ak.Rw (by omega:1≤i) r_
   have jf:eJ n.keys[i]:=by
     match h,ak with
     |0,ak=>exact ak.elim
     |1,ak=>exact ak.1.ok _ (fh _)
     |h+2,ak=>exact ak.2.2.1 _ (fh _)
   refine ⟨r_,cp,cm,bU,cj,rfl,rfl,jf,fun af b8 J=> ?_⟩
   have s1:=v1.one az af fun z bO=>J z (tI _ bO)
   have s2:=v2.one aN b8 fun z bO=>J z (p4 _ bO)
   exact s1.app s2
 match h,ak with
 |0,ak=>exact ak.elim
 |1,ak=>
   have di:n.leaf=true:=ak.1.leaf
   have Cl:(cellsOf n).length=n.keys.length:=by rw[wz di,List.length_zipWith,ak.1.len,Nat.min_self]
   have fu:∀c∈cellsOf n,c≤50:=by
     rw[wz di]
     exact Ry fun k ae v gR=>by have:=(ak.1.ok k ae).2;have:=ak.1.vals v gR;omega
   have ahw:cq n=1+(cellsOf n).sum:=by unfold cq;rw[di];rfl
   have ad:=ad di
   obtain ⟨bc,cW,a3,a4⟩:=aht fu (by omega) (by omega)
   have Rz:dm n=mW (cellsOf n) ((cellsOf n).length-1):=by unfold dm;rw[di,Cl];rfl
   rw[←Rz] at bc cW a3 a4
   have du:n.left (dm n)=⟨true,n.keys.take (dm n),n.vals.take (dm n),[]⟩:=by unfold aL.left;rw[di];rfl
   have c9:n.right (dm n)=⟨true,n.keys.drop (dm n),n.vals.drop (dm n),[]⟩:=by unfold aL.right;rw[di];rfl
   have RA:cellsOf (n.left (dm n))=(cellsOf n).take (dm n):=by rw[du,wz rfl,wz di];exact List.take_zipWith.symm
   have RB:cellsOf (n.right (dm n))=(cellsOf n).drop (dm n):=by rw[c9,wz rfl,wz di];exact List.drop_zipWith.symm
   refine ⟨by omega,by rw[di];exact ⟨by omega,by omega⟩,?_,?_,main _ bc (by omega) (by rw[du];show 2≤(n.keys.take _).length;rw[ej];omega) (by rw[c9];show 2≤(n.keys.drop _).length;rw[fF];omega)⟩
   · unfold cq;rw[RA,du];show 1+_≤_;omega
   · unfold cq;rw[RB,c9];show 1+_≤_;omega
 |h+2,ak=>
   have di:n.leaf=false:=ak.1
   have Cl:(cellsOf n).length=n.keys.length:=by rw[wA di,mj]
   have fu:∀c∈cellsOf n,c≤27:=by
     rw[wA di]
     intro c al
     obtain ⟨k,ae,rfl⟩:=oa.1 al
     have:=(ak.2.2.1 k ae).2;omega
   have ahw:cq n=3+(cellsOf n).sum:=by unfold cq;rw[di];rfl
   have au:=au di
   obtain ⟨bc,cW,a3,a4⟩:=ahu fu (by omega) (by omega)
   have Rz:dm n=mW (cellsOf n) ((cellsOf n).length-2):=by unfold dm;rw[di,Cl];rfl
   rw[←Rz] at bc cW a3 a4
   have du:n.left (dm n)=⟨false,n.keys.take (dm n),[],n.kids.take (dm n+1)⟩:=by unfold aL.left;rw[di];rfl
   have c9:n.right (dm n)=⟨false,n.keys.drop (dm n+1),[],n.kids.drop (dm n+1)⟩:=by unfold aL.right;rw[di];rfl
   have RA:cellsOf (n.left (dm n))=(cellsOf n).take (dm n):=by rw[du,wA rfl,wA di];exact EN
   have RB:cellsOf (n.right (dm n))=(cellsOf n).drop (dm n+1):=by rw[c9,wA rfl,wA di];exact GZ
   refine ⟨by omega,by rw[di];exact ⟨by omega,by omega⟩,?_,?_,main _ bc (by omega) (by rw[du];show 2≤(n.keys.take _).length;rw[ej];omega) (by rw[c9];show 2≤(n.keys.drop _).length;rw[fF];omega)⟩
   · unfold cq;rw[RA,du];show 3+_≤_;omega
   · unfold cq;rw[RB,c9];show 3+_≤_;omega
end Go.Proofs.YtplieiecebljmaaGreat
namespace Go.Proofs.YtplieiecebljmaaGreat
variable {lo hi:Option Key} {P Q:Nat→Option aL}
theorem fH.cells {h:Nat} {n:aL} {p:List Nat} {L:List bl} (ak:fH P h n lo hi p L):(cellsOf n).length=n.keys.length∧∀c∈cellsOf n,c≤if n.leaf then 50 else 27:=by
 match h,ak with
 |0,ak=>exact ak.elim
 |1,ak=>
   have di:n.leaf=true:=ak.1.leaf
   rw[wz di,di]
   exact ⟨by rw[List.length_zipWith,ak.1.len,Nat.min_self],Ry fun k ae v gR=>by have:=(ak.1.ok k ae).2;have:=ak.1.vals v gR;simp only[if_true];omega⟩
 |h+2,ak=>
   have di:n.leaf=false:=ak.1
   rw[wA di,di]
   refine ⟨by rw[mj],fun c al=> ?_⟩
   obtain ⟨k,ae,rfl⟩:=oa.1 al
   have:=(ak.2.2.1 k ae).2
   show 3+k.length≤27
   omega
theorem fH.RC {h:Nat} {n:aL} {p:List Nat} {L:List bl} (ak:fH P h n lo hi p L) (aj:80≤cq n):2≤n.keys.length:=by
 obtain ⟨U,ad⟩:=ak.cells
 have:=Cj ad
 rw[U] at this
 unfold cq at aj
 cases az:n.leaf with
 |true=>rw[az] at aj this;simp only[if_true] at aj this;omega
 |false=>rw[az] at aj this;simp only[ob,if_false] at aj this;omega
theorem ahx {a b:aL} {s:Key} (h:a.leaf=b.leaf) (aU:a.leaf=true→a.vals.length=a.keys.length):cq (hA a s b)=if a.leaf then cq a+cq b-1 else cq a+cq b+s.length:=by
 cases az:a.leaf with
 |true=>
   have e:hA a s b=⟨true,a.keys++b.keys,a.vals++b.vals,[]⟩:=by unfold hA;rw[az];rfl
   have ab:b.leaf=true:=by rw[←h,az]
   unfold cq
   rw[e,wz rfl,wz az,wz ab,az,ab]
   simp only[if_true]
   rw[G0 (aU az).symm,yd]
   omega
 |false=>
   have e:hA a s b=⟨false,a.keys++s::b.keys,[],a.kids++b.kids⟩:=by unfold hA;rw[az];rfl
   have ab:b.leaf=false:=by rw[←h,az]
   unfold cq
   rw[e,wA rfl,wA az,wA ab,az,ab]
   simp only[ob,if_false,oc,tK,yd,JG]
   omega
def qD (ks:List Key):Nat:=(ks.map fun k=>3+k.length).sum
theorem Nx (a b:List Key):qD (a++b)=qD a+qD b:=by unfold qD;rw[oc,yd]
theorem XL {n:aL} (h:n.leaf=false):cq n=3+qD n.keys:=by unfold cq qD;rw[h,wA h];rfl
theorem ahy (k:Key):qD [k]=3+k.length:=by simp[qD]
theorem RD {n:aL} {ks:List Key} {kids:List Nat} {fr j:Nat} (h:n.leaf=false) (sU:ks.length≤1) (ae:∀k∈ks,eJ k) (a8:fr≤j):
   cq ⟨false,n.keys.take fr++ks++n.keys.drop j,[],kids⟩≤cq n+27:=by
 rw[XL h,XL rfl]
 show 3+qD (n.keys.take fr++ks++n.keys.drop j)≤_
 rw[Nx,Nx]
 have U:qD ks≤27:=by
   match ks,sU with
   | [],_=>simp[qD]
   | [k],_=>rw[ahy];have:=(ae k (by simp)).2;omega
 have ad:qD n.keys=qD (n.keys.take fr)+qD (n.keys.drop fr):=by rw[←Nx,p5]
 have au:qD (n.keys.drop fr)=qD ((n.keys.drop fr).take (j-fr))+qD (n.keys.drop j):=by
   rw[←Nx]
   congr 1
   have:n.keys.drop j=(n.keys.drop fr).drop (j-fr):=by rw[JH];congr 1;omega
   rw[this,p5]
 omega
end Go.Proofs.YtplieiecebljmaaGreat
namespace Go.Proofs.YtplieiecebljmaaGreat
variable {lo hi:Option Key} {P Q:Nat→Option aL}
def z_ (Q:Nat→Option aL) (n:aL) (ks:List Key) (kids:List Nat):Prop:=
 (cq n≤232∧∃x,ks=[]∧kids=[x]∧Q x=some n)∨
 (232<cq n∧∃ (x y:Nat) (ab:dm n<n.keys.length),ks=[n.keys[dm n]]∧kids=[x,y]∧Q x=some (n.left (dm n))∧Q y=some (n.right (dm n)))
theorem fH.fits {h:Nat} {n:aL} {p:List Nat} {L:List bl} {ks:List Key} {kids:List Nat} (ak:fH P h n lo hi p L) (ad:2≤n.keys.length) (az:n.leaf=true→cq n≤310) (ft:n.leaf=false→cq n≤335)
   (aG:z_ Q n ks kids) (J:∀x∈p,P x=Q x):∃e2,gI (kN Q h) lo hi ks kids e2 L∧e2.Perm (kids++p)∧(∀s∈ks,eJ s)∧ks.length≤1:=by
 rcases aG with ⟨_,x,rfl,rfl,af⟩|⟨aj,x,y,ab,rfl,rfl,af,b8⟩
 · exact ⟨x::p,ak.one ad af J,List.Perm.refl _,by simp,by simp⟩
 · obtain ⟨_,_,_,_,_,cp,cm,bU,cj,rfl,rfl,jf,ahz⟩:=ak.two (Q:=Q) (x:=x) (y:=y) aj az ft
   refine ⟨_,ahz af b8 J,?_,by simpa using jf,by simp⟩
   show ((x::cp)++(y::cm)).Perm ([x,y]++(cp++cm))
   simp only[EL,rl]
   exact (Cd).cons x
theorem ahA {h:Nat} {bP ff:aL} {g_ fo:Option Key} {i:Nat} {cp cm oE:List Nat} {bU pv cj:List bl} {ks:List Key} {kids:List Nat} (b7:bP.leaf=false) (k9:∀k∈bP.keys,eJ k) (pw:∀x∈bP.kids,x<1600)
   (aW:k0 (kN P (h+1)) lo g_ (bP.keys.take i) (bP.kids.take i) cp bU) (bE:nf (kN P (h+1)) hi fo (bP.keys.drop i) (bP.kids.drop (i+1)) cm cj) (ak:fH P (h+1) ff g_ fo oE pv) (U:80≤cq ff) (ad:cq ff≤282)
   (aG:z_ Q ff ks kids) (J:∀x∈cp++(oE++cm),P x=Q x) (rp:∀x∈kids,x<1600):
   ∃e2,fH Q (h+2) (ml bP i (i+1) ks kids) lo hi e2 (bU++(pv++cj))∧e2.Perm (kids++(cp++(oE++cm)))∧cq (ml bP i (i+1) ks kids)≤cq bP+27∧bP.keys.length≤(ml bP i (i+1) ks kids).keys.length:=by
 obtain ⟨iO,aj,oZ,jf,sd⟩:=ak.fits (ak.RC U) (fun _=>by omega) (fun _=>by omega) aG fun x af=>J x (p4 _ (tI _ af))
 have ab:=fH.build aW bE aj (fun x af=>by
     rcases fa.1 af with af|af
     · exact J x (tI _ af)
     · exact J x (p4 _ (p4 _ af)))
   (fun s aj=>by
     rcases fa.1 aj with aj|aj
     · rcases fa.1 aj with aj|aj
       · exact k9 s (kL aj)
       · exact jf s aj
     · exact k9 s (kt aj))
   (fun x af=>by
     rcases fa.1 af with af|af
     · rcases fa.1 af with af|af
       · exact pw x (kL af)
       · exact rp x af
     · exact pw x (kt af))
 have e:ml bP i (i+1) ks kids=⟨false,bP.keys.take i++ks++bP.keys.drop i,[],bP.kids.take i++kids++bP.kids.drop (i+1)⟩:=by unfold ml;rw[Nat.add_sub_cancel]
 rw[e]
 refine ⟨_,ab,?_,RD b7 sd jf (cR _),?_⟩
 · have aB:(iO++cm).Perm (kids++(oE++cm)):=by
     rw[←eI];exact oZ.append_right _
   refine (List.Perm.append_left cp aB).trans ?_
   have aF:=(JI (l₁:=cp) (l₂:=kids)).append_right (oE++cm)
   rw[eI,eI] at aF
   exact aF
 · show bP.keys.length≤(bP.keys.take i++ks++bP.keys.drop i).length
   have:=congrArg List.length (p5 i bP.keys)
   simp only[dO] at this⊢
   omega
end Go.Proofs.YtplieiecebljmaaGreat
namespace Go.Proofs.YtplieiecebljmaaGreat
variable {lo hi:Option Key} {P Q:Nat→Option aL}
theorem Ny {a b:aL} {s:Key}:a.keys.length+b.keys.length≤(hA a s b).keys.length:=by
 unfold hA
 split
 · show _≤(a.keys++b.keys).length
   rw[dO];omega
 · show _≤(a.keys++s::b.keys).length
   rw[dO,k8];omega
theorem XM {a b:aL} {s:Key}:(hA a s b).leaf=a.leaf:=by
 unfold hA
 cases h:a.leaf<;>simp
theorem Nz {h:Nat} {a b:aL} {s:Key} {kP h4 JU ft:Option Key} {pa Nu:List Nat} {Nv Nw:List bl} (aU:fH P h a kP h4 pa Nv) (ab:fH P h b JU ft Nu Nw) (aj:eJ s) (U:cq a+cq b≤311):
   ((hA a s b).leaf=true→cq (hA a s b)≤310)∧((hA a s b).leaf=false→cq (hA a s b)≤335):=by
 have az:a.leaf=b.leaf:=by rw[aU.leaf,ab.leaf]
 have ak:a.leaf=true→a.vals.length=a.keys.length:=fun U=>by
   match h,aU with
   |0,aU=>exact aU.elim
   |1,aU=>exact aU.1.len
   |h+2,aU=>rw[aU.1] at U;cases U
 rw[XM,ahx az ak]
 have:=aj.2
 constructor
 · intro e;rw[e];simp only[if_true];omega
 · intro e;rw[e];simp only[ob,if_false];omega
theorem ahB {h:Nat} {bP ff:aL} {g_ fo:Option Key} {i:Nat} {cp cm oE:List Nat} {bU pv cj:List bl} {k:Key} (b7:bP.leaf=false) (k9:∀k∈bP.keys,eJ k) (pw:∀x∈bP.kids,x<1600) (hlen:bP.kids.length=bP.keys.length+1) (gz:∀x n,P x=some n→cq n≤232)
   (h4:1≤i) (og:i<bP.kids.length) (fp:kM g_ fo k)
   (aW:k0 (kN P (h+1)) lo g_ (bP.keys.take i) (bP.kids.take i) cp bU) (bE:nf (kN P (h+1)) hi fo (bP.keys.drop i) (bP.kids.drop (i+1)) cm cj) (ak:fH P (h+1) ff g_ fo oE pv) (U:cq ff<80):
   ∃ (o:aL) (He:List Nat) (ab:i-1<bP.kids.length) (gu:i-1<bP.keys.length),P bP.kids[i-1]=some o∧cp.Perm (bP.kids[i-1]::He)∧2≤o.keys.length∧
     ∀ (Q:Nat→Option aL) (ks:List Key) (kids:List Nat),z_ Q (hA o bP.keys[i-1] ff) ks kids→(∀x∈He++(oE++cm),P x=Q x)→(∀x∈kids,x<1600)→
       ∃e2,fH Q (h+2) (ml bP (i-1) (i+1) ks kids) lo hi e2 (bU++(pv++cj))∧e2.Perm (kids++(He++(oE++cm)))∧cq (ml bP (i-1) (i+1) ks kids)≤cq bP+27∧bP.keys.length≤(ml bP (i-1) (i+1) ks kids).keys.length+1:=by
 obtain ⟨s,JU,de,r,gJ,N,aj,rfl,se,rfl,rfl,⟨hw,m,hm,kQ⟩,Hf,wB⟩:=aW.last (by rw[ej];omega)
 have fv:(bP.keys.take i).length=i:=by rw[ej];omega
 have lU:(bP.kids.take i).length=i:=by rw[ej];omega
 have se:s=bP.keys[i-1]'(by omega):=by
   rw[se,G1];congr 1;omega
 have E1:(bP.kids.take i)[(bP.kids.take i).length-1]'(by omega)=bP.kids[i-1]'(by omega):=by
   rw[G1];congr 1;omega
 rw[E1] at hw hm
 obtain ⟨o,p7,k_,rfl,_,p8⟩:=hw.wy
 rw[k_] at hm
 have kQ:2≤o.keys.length:=by rw[Option.some.inj hm];exact kQ
 clear hm
 subst se
 have kh:=(show kN P (h+1) JU (some (bP.keys[i-1]'(by omega))) (bP.kids[i-1]'(by omega)) (bP.kids[i-1]'(by omega)::p7) N from ⟨hw,o,k_,kQ⟩).in
 obtain ⟨x,af⟩:=JF _ kh.1
 have sf:=k9 _ (fh (l:=bP.keys) (n:=i-1) (by omega))
 have Cm:=fH.merge p8 ak sf (fun c al=>qB (tN ((kh.2.2 x af).1 c al) ((kh.2.2 x af).2 _ rfl))) (fun c al=>qB (tN (fp.1 _ rfl) (fp.2 c al)))
 have dH:=Nz p8 ak sf (by have:=gz _ _ k_;omega)
 have Hg:=Ny (a:=o) (b:=ff) (s:=bP.keys[i-1]'(by omega))
 refine ⟨o,de++p7,by omega,by omega,k_,Cd,kQ,fun Q ks kids aG J rp=> ?_⟩
 obtain ⟨iO,RE,oZ,jf,sd⟩:=Cm.fits (by omega) dH.1 dH.2 aG fun x af=>J x (by
   rcases fa.1 af with af|af
   · exact tI _ (p4 _ af)
   · exact p4 _ (tI _ af))
 have sV:(bP.keys.take i).take ((bP.keys.take i).length-1)=bP.keys.take (i-1):=by rw[fv,JJ];congr 1;omega
 have ahC:(bP.kids.take i).take ((bP.kids.take i).length-1)=bP.kids.take (i-1):=by rw[lU,JJ];congr 1;omega
 rw[sV,ahC] at Hf
 have ab:=fH.build Hf bE RE (fun x af=>J x (by
     rcases fa.1 af with af|af
     · exact tI _ (tI _ af)
     · exact p4 _ (p4 _ af)))
   (fun s aj=>by
     rcases fa.1 aj with aj|aj
     · rcases fa.1 aj with aj|aj
       · exact k9 s (kL aj)
       · exact jf s aj
     · exact k9 s (kt aj))
   (fun x af=>by
     rcases fa.1 af with af|af
     · rcases fa.1 af with af|af
       · exact pw x (kL af)
       · exact rp x af
     · exact pw x (kt af))
 have e:ml bP (i-1) (i+1) ks kids=⟨false,bP.keys.take (i-1)++ks++bP.keys.drop i,[],bP.kids.take (i-1)++kids++bP.kids.drop (i+1)⟩:=by unfold ml;rw[Nat.add_sub_cancel]
 rw[e]
 refine ⟨_,by simpa[eI] using ab,?_,RD b7 sd jf (by omega),?_⟩
 · have aB:(iO++cm).Perm (kids++(p7++(oE++cm))):=by
     have:=oZ.append_right cm
     simpa[eI] using this
   refine (List.Perm.append_left de aB).trans ?_
   have aF:=(JI (l₁:=de) (l₂:=kids)).append_right (p7++(oE++cm))
   simpa[eI] using aF
 · show bP.keys.length≤(bP.keys.take (i-1)++ks++bP.keys.drop i).length+1
   simp only[dO,ej,fF]
   omega
end Go.Proofs.YtplieiecebljmaaGreat
namespace Go.Proofs.YtplieiecebljmaaGreat
variable {lo hi:Option Key} {P Q:Nat→Option aL}
theorem ahD {h:Nat} {bP ff:aL} {g_ fo:Option Key} {i:Nat} {cp cm oE:List Nat} {bU pv cj:List bl} {k:Key} (b7:bP.leaf=false) (k9:∀k∈bP.keys,eJ k) (pw:∀x∈bP.kids,x<1600) (hlen:bP.kids.length=bP.keys.length+1) (gz:∀x n,P x=some n→cq n≤232)
   (og:i+1<bP.kids.length) (fp:kM g_ fo k)
   (aW:k0 (kN P (h+1)) lo g_ (bP.keys.take i) (bP.kids.take i) cp bU) (bE:nf (kN P (h+1)) hi fo (bP.keys.drop i) (bP.kids.drop (i+1)) cm cj) (ak:fH P (h+1) ff g_ fo oE pv) (U:cq ff<80):
   ∃ (o:aL) (Hh:List Nat) (ab:i+1<bP.kids.length) (gu:i<bP.keys.length),P bP.kids[i+1]=some o∧cm.Perm (bP.kids[i+1]::Hh)∧2≤o.keys.length∧
     ∀ (Q:Nat→Option aL) (ks:List Key) (kids:List Nat),z_ Q (hA ff bP.keys[i] o) ks kids→(∀x∈cp++(oE++Hh),P x=Q x)→(∀x∈kids,x<1600)→
       ∃e2,fH Q (h+2) (ml bP i (i+2) ks kids) lo hi e2 (bU++(pv++cj))∧e2.Perm (kids++(cp++(oE++Hh)))∧cq (ml bP i (i+2) ks kids)≤cq bP+27∧bP.keys.length≤(ml bP i (i+2) ks kids).keys.length+1:=by
 obtain ⟨s,ft,r,hO,N,JV,aj,rfl,se,rfl,rfl,⟨hw,m,hm,kQ⟩,JW⟩:=bE.head (by rw[fF];omega)
 have se:s=bP.keys[i]'(by omega):=by rw[se,JK];rfl
 have E1:(bP.kids.drop (i+1))[0]'(by rw[fF];omega)=bP.kids[i+1]'og:=by rw[JK]
 rw[E1] at hw hm
 obtain ⟨o,p7,k_,rfl,_,p8⟩:=hw.wy
 rw[k_] at hm
 have kQ:2≤o.keys.length:=by rw[Option.some.inj hm];exact kQ
 clear hm
 subst se
 have kh:=(show kN P (h+1) (some (bP.keys[i]'(by omega))) ft (bP.kids[i+1]'og) (bP.kids[i+1]'og::p7) N from ⟨hw,o,k_,kQ⟩).in
 obtain ⟨x,af⟩:=JF _ kh.1
 have sf:=k9 _ (fh (l:=bP.keys) (n:=i) (by omega))
 have Cm:=fH.merge ak p8 sf (fun c al=>qB (tN (fp.1 c al) (fp.2 _ rfl))) (fun c al=>qB (tN ((kh.2.2 x af).1 _ rfl) ((kh.2.2 x af).2 c al)))
 have dH:=Nz ak p8 sf (by have:=gz _ _ k_;omega)
 have Hg:=Ny (a:=ff) (b:=o) (s:=bP.keys[i]'(by omega))
 refine ⟨o,p7++hO,og,by omega,k_,List.Perm.refl _,kQ,fun Q ks kids aG J rp=> ?_⟩
 obtain ⟨iO,RE,oZ,jf,sd⟩:=Cm.fits (by omega) dH.1 dH.2 aG fun x af=>J x (by
   rcases fa.1 af with af|af
   · exact p4 _ (tI _ af)
   · exact p4 _ (p4 _ (tI _ af)))
 rw[JH,JH] at JW
 have ab:=fH.build aW JW RE (fun x af=>J x (by
     rcases fa.1 af with af|af
     · exact tI _ af
     · exact p4 _ (p4 _ (p4 _ af))))
   (fun s aj=>by
     rcases fa.1 aj with aj|aj
     · rcases fa.1 aj with aj|aj
       · exact k9 s (kL aj)
       · exact jf s aj
     · exact k9 s (kt aj))
   (fun x af=>by
     rcases fa.1 af with af|af
     · rcases fa.1 af with af|af
       · exact pw x (kL af)
       · exact rp x af
     · exact pw x (kt af))
 have e:ml bP i (i+2) ks kids=⟨false,bP.keys.take i++ks++bP.keys.drop (i+1),[],bP.kids.take i++kids++bP.kids.drop (i+1+1)⟩:=rfl
 rw[e]
 refine ⟨_,by simpa[eI] using ab,?_,RD b7 sd jf (by omega),?_⟩
 · have aB:(iO++hO).Perm (kids++(oE++(p7++hO))):=by
     have:=oZ.append_right hO
     simpa[eI] using this
   refine (List.Perm.append_left cp aB).trans ?_
   have aF:=(JI (l₁:=cp) (l₂:=kids)).append_right (oE++(p7++hO))
   simpa[eI] using aF
 · show bP.keys.length≤(bP.keys.take i++ks++bP.keys.drop (i+1)).length+1
   simp only[dO,ej,fF]
   omega
end Go.Proofs.YtplieiecebljmaaGreat
namespace Go.Proofs.YtplieiecebljmaaGreat
variable {lo hi:Option Key} {P:Nat→Option aL}
def eu (ks:List Key) (k:Key):Nat:=ks.findIdx fun s=>decide (¬cv s k)
theorem Hi (ks:List Key) (k:Key):eu ks k≤ks.length:=List.findIdx_le_length
theorem E2 {ks:List Key} {k:Key} {j:Nat} (h:j<eu ks k) (a8:j<ks.length):cv ks[j] k:=by
 have:=List.not_of_lt_findIdx h
 simpa using this
theorem Hj {ks:List Key} {k:Key} (aj:ks.Pairwise cv) {j:Nat} (h:eu ks k≤j) (a8:j<ks.length):ib k ks[j]:=by
 have U:eu ks k<ks.length:=by omega
 have ad:ib k ks[eu ks k]:=by
   have:=List.findIdx_getElem (p:=fun s=>decide (¬cv s k)) (xs:=ks) (w:=U)
   exact XF.1 (dG this)
 rcases g8 (eu ks k) j with au|au
 · exact qB (tN ad (G2.1 aj _ _ U a8 au))
 · have:eu ks k=j:=by omega
   subst this;exact ad
theorem ahE {α:Type} {f:α→Bool} {L:List α} {i:Nat} (U:∀x∈L.take i,f x=true) (ad:∀x∈L.drop i,f x=false):L.filter f=L.take i:=by
 conv=>lhs;rw[←p5 i L]
 rw[Ca,uS.2 U,EK.2 (fun x af=>by rw[ad x af];decide),mh]
theorem XN {α:Type} {f:α→Bool} {L:List α} {i:Nat} (U:∀x∈L.take i,f x=false) (ad:∀x∈L.drop i,f x=true):L.filter f=L.drop i:=by
 conv=>lhs;rw[←p5 i L]
 rw[Ca,EK.2 (fun x af=>by rw[U x af];decide),uS.2 ad,rl]
theorem RF {ks vs:List Key} {i:Nat} {x:bl} (h:x∈(ks.zip vs).take i):∃ (j:Nat) (a8:j<ks.length),j<i∧x.1=ks[j]:=by
 obtain ⟨j,a8,rfl⟩:=List.mem_take_iff_getElem.1 h
 have U:j<(ks.zip vs).length:=by omega
 rw[Cc] at U
 exact ⟨j,by omega,by omega,by rw[Nf]⟩
theorem RG {ks vs:List Key} {i:Nat} {x:bl} (h:x∈(ks.zip vs).drop i):∃ (j:Nat) (a8:j<ks.length),i≤j∧x.1=ks[j]:=by
 obtain ⟨j,a8,rfl⟩:=List.mem_drop_iff_getElem.1 h
 have U:i+j<(ks.zip vs).length:=by omega
 rw[Cc] at U
 exact ⟨i+j,by omega,by omega,by rw[Nf]⟩
theorem ahF {ks vs:List Key} {k v:Key} (aj:ks.Pairwise cv):ke (ks.zip vs) k v=(ks.zip vs).take (eu ks k)++(k,v)::(ks.zip vs).drop (if ks[eu ks k]? =some k then eu ks k+1 else eu ks k):=by
 unfold ke
 rw[ahE (f:=fun p:bl=>decide (cv p.1 k)) (i:=eu ks k) (fun x af=>by
     obtain ⟨j,a8,U,e⟩:=RF af
     rw[e];exact iB (E2 U a8)) (fun x af=>by
     obtain ⟨j,a8,U,e⟩:=RG af
     rw[e];exact sS (Hj aj U a8))]
 congr 2
 split
 · rename_i he
   obtain ⟨ba,he⟩:=qy.1 he
   refine XN (fun x af=> ?_) (fun x af=> ?_)
   · obtain ⟨j,a8,U,e⟩:=RF af
     rw[e]
     refine sS ?_
     rcases g8 j (eu ks k) with ad|ad
     · exact z7 (E2 ad a8)
     · have:j=eu ks k:=by omega
       subst this;rw[he];exact z6 _
   · obtain ⟨j,a8,U,e⟩:=RG af
     rw[e]
     refine iB ?_
     have:=G2.1 aj _ j ba a8 (by omega)
     rwa[he] at this
 · rename_i he
   refine XN (fun x af=> ?_) (fun x af=> ?_)
   · obtain ⟨j,a8,U,e⟩:=RF af
     rw[e]
     exact sS (z7 (E2 U a8))
   · obtain ⟨j,a8,U,e⟩:=RG af
     rw[e]
     refine iB ?_
     rcases EW.1 (Hj aj U a8) with ad|ad
     · exact ad
     · have ba:eu ks k<ks.length:=by omega
       rcases g8 (eu ks k) j with au|au
       · exact tN (Hj aj (cR _) ba) (G2.1 aj _ _ ba a8 au)
       · have:j=eu ks k:=by omega
         subst this
         exact absurd ((gH ba).trans (congrArg some ad.symm)) he
end Go.Proofs.YtplieiecebljmaaGreat
namespace Go.Proofs.YtplieiecebljmaaGreat
open Go cd
section
theorem NA {n:Nat} (h:n<256):((UInt8.ofNat n).toNat:Nat)=n:=by
 simp[uU h]
end
section
theorem XO {src dst:TypeId} {w:World} {s:aa} {px:List Int} (aj:Tryz.prog.underlying src=some (.slice ah.uint8)) (hd:Tryz.prog.underlying dst=some .string) (h:Src 1 w s (px.map (.int .u8))):
   Sem.run Tryz.prog (convert src dst (.slice s.a s.len s.cap)) w= .ok (.string (S (px.map fun n=>UInt8.ofNat n.toNat))) w:=by
 rw[ahG aj (by kernel_rfl) hd h,ahH]
end
section
theorem RH {w:World} {A:Addr}:∀ (vs:List Value) (i:Nat),(∀j v,vs[j]? =some v→w.cell? (A.add (i+j))=some v)→eK w A i vs.length=some vs
 | [],_,_=>rfl
 |v::vs,i,h=>by
   have b7:=h 0 v rfl
   have dr:=RH vs (i+1) (fun j u a8=>by rw[show i+1+j=i+(j+1) by omega];exact h (j+1) u (by simpa using a8))
   rw[zV] at b7
   simp[eK,b7,dr]
def bo (l:List UInt8):List Value:=l.map fun b=>Value.int .u8 ((b.toNat:Nat):Int)
theorem ku (l:List UInt8):(bo l).length=l.length:=by simp[bo]
theorem Hk {l:List UInt8} {i:Nat} (h:i<l.length):(bo l)[i]? =some (.int .u8 ((l[i].toNat:Nat):Int)):=by simp[bo,h]
end
section
theorem ahI (c:UInt8):(((c.toNat:Nat):Int).toNat.toUInt8)=c:=by simp
end
section
theorem yk (l:List UInt8):∀v∈bo l,Plain v:=by
 intro v ak
 obtain ⟨n,_,rfl⟩:=oa.1 ak
 trivial
theorem E3 (a b:List UInt8):bo (a++b)=bo a++bo b:=by simp[bo]
theorem take_succ {α:Type} (ls:List α) {i:Nat} (h:i<ls.length):ls.take (i+1)=ls.take i++ [ls[i]]:=by
 rw[qx h]
end
section
structure XP where
 auK:Bool
 b:List UInt8
 h:b.length=16
 deriving DecidableEq
def Var (w:World) (b:Nat) (vs:List Value) (T:TypeId):Prop:=cr w b vs.toArray T
section
variable {w w':World} {b:Nat} {vs us:List Value} {T:TypeId}
theorem Var.new (w:World) (vs:List Value) (T:TypeId):Var (w.alloc (.cells vs.toArray T)) w.heap.size vs T:=cr.new _ _ _
theorem Var.rd (h:Var w b vs T) {n:Nat} (aC:vs.length=n):eK w ⟨b,0,none⟩ 0 n=some vs:=by
 have:=Hl h n 0 0 (by simp[aC])
 rw[this]
 simp[←aC]
theorem Var.ahJ (h:Var w b vs T) {o n:Nat} (aC:o+n≤vs.length):eK w ⟨b,o,none⟩ 0 n=some ((vs.drop o).take n):=by
 have:=Hl h n o 0 (by simpa using aC)
 rw[this]
 simp
theorem Var.cell (h:Var w b vs T) {i:Nat}:w.cell? ⟨b,i,none⟩=vs[i]? :=by
 rw[cr.cell h];simp
theorem Var.ext (h:Var w b vs T) (af:Ext w w'):Var w' b vs T:=cr.ext h af
theorem Var.an {W:Nat→Prop} (h:Var w b vs T) (af:ao W w w') (ab:¬W b):Var w' b vs T:=cr.an h af ab
theorem Var.drew (h:Var w b vs T):Var w.drew b vs T:=cr.drew h
theorem Var.lt (h:Var w b vs T):b<w.heap.size:=cr.lt h
theorem Var.dC (h:Var w b vs T) (aC:us.length=vs.length) (aW:∀v∈us,Plain v):c2 w ⟨b,0,none⟩ us:=cr.dC h 0 us (by simp[aC]) aW
theorem Var.put (h:Var w b vs T) (aC:us.length=vs.length):Var (setCells w ⟨b,0,none⟩ 0 us) b us T:=by
 have:=cr.JX us 0 0 h
 simp only[zV] at this
 have e:(oF vs.toArray 0 us)=us.toArray:=by
   have U:=NB us vs.toArray 0 (by simp[aC])
   rw[gy,aC,List.take_zero,rl,g3 (by rw[Array.length_toList,rq];simp)] at U
   apply Array.toList_inj.1
   rw[U]
 rwa[e] at this
end
theorem bN {w:World} {K:World→Prop} (h:K w):ay w K:=h
theorem cx {w:World} {c:Array Value} {vs:List Value} {T:TypeId} (al:c=vs.toArray) {K:World→Prop} (h:∀w',Var w' w.heap.size vs T→Ext w w'→w'.heap.size=w.heap.size+1→K w'):ay (w.alloc (.cells c T)) K:=by
 subst al
 exact h _ (Var.new _ _ _) (ao.alloc (.refl _ _) _) (by simp)
theorem eo {w:World} {b:Nat} {vs us l:List Value} {T:TypeId} (ak:Var w b vs T) (aC:us.length=vs.length) (az:l=us) {K:World→Prop} (h:∀w',Var w' b us T→ao (fun q=>q=b) w w'→w'.heap.size=w.heap.size→K w'):ay (setCells w ⟨b,0,none⟩ 0 l) K:=by
 subst az
 refine h _ (ak.put aC) (ao.Aa (.refl _ _) l 0) ?_
 have:∀ (vs:List Value) (i:Nat) (w:World),(setCells w ⟨b,0,none⟩ i vs).heap.size=w.heap.size:=by
   intro vs
   induction vs with
   |nil=>intro i w;rfl
   |cons v vs dr=>intro i w;rw[setCells,dr];simp[World.setCell]
 exact this _ _ _
theorem Ext.fb {bJ w w':World} {b:Nat} (h:Ext bJ w) (al:ao (fun q=>q=b) w w') (ab:bJ.heap.size≤b):Ext bJ w':=Ext.gA h al (fun k ae=>by subst ae;exact ab)
theorem Var.ahK {w:World} {b o n c:Nat} {vs:List Value} {T:TypeId} {l:List UInt8} (h:Var w b vs T) (aC:o+n≤vs.length) (az:(vs.drop o).take n=bo l):Src 1 w ⟨some ⟨b,o,none⟩,n,c⟩ (bo l):=by
 have hlen:n=l.length:=by
   have:=congrArg List.length az
   rw[ej,fF,ku] at this
   omega
 refine ⟨by rw[ku];show _=n*1;omega,(fun h=>by cases h),fun a aU=> ?_⟩
 cases aU
 show eK w ⟨b,o,none⟩ 0 (n*1)=_
 rw[mi,h.ahJ aC,az]
theorem E4:p9 Tryz.prog ah.cn ah.uint8 1 1:=⟨by kernel_rfl⟩
theorem ahL {Ab ew ty:TypeId} {w:World} {b o dl E5:Nat} {s:aa} {l:List UInt8} (hu:Tryz.prog.underlying Ab=some (.slice ah.uint8)) (aj:Src 1 w s (bo l)) (hle:s.len≤dl) (gW:c2 w ⟨b,o,none⟩ (bo l)):
   Sem.run Tryz.prog (Builtin.copy_ #[Ab,ew] ty #[.slice (some ⟨b,o,none⟩) dl E5, .slice s.a s.len s.cap]) w= .ok (.int .i64 ((s.len:Nat):Int)) (setCells w ⟨b,o,none⟩ 0 (bo l)):=by
 have ahM:Nat.min s.len dl=s.len:=r8 hle
 have bO:=qE (P:=Tryz.prog) (w:=w) (t:=ah.uint8) (d:= .int .u8) (by kernel_rfl)
 have al:Tryz.prog.cellsOf ah.uint8=1:=by kernel_rfl
 rw[al] at bO
 have aG:=Hm (P:=Tryz.prog) aj
 have Cn:=Hn (P:=Tryz.prog) (A:=⟨b,o,none⟩) (bo l) 0 w (by simpa using gW.1) gW.2
 simp[Builtin.copy_,gj hu,Builtin.lenOf,bO,ahM,aG,Cn]
 rfl
end
section
def b5 (c k:Nat):Nat:=c/2^(8-k)*2^(8-k)
def yj (n i:Nat):Nat:=min (n-8*i) 8
end
section
theorem Src.sub {w:World} {s:aa} {vs:List Value} {lo hi:Nat} (h:Src 1 w s vs) (al:s.len≤s.cap) (U:lo≤hi) (ad:hi≤s.len):Src 1 w ⟨bh s.a 1 lo s.cap,hi-lo,s.cap-lo⟩ ((vs.drop lo).take (hi-lo)):=by
 have az:vs.length=s.len:=by have:=h.len;omega
 refine ⟨by simp;omega,fun aC=> ?_,fun a aU=> ?_⟩
 · have sW:s.a=none:=by
     unfold bh at aC
     split at aC
     · exact aC
     · simpa using aC
   simp[h.nil sW]
 · show eK w a 0 ((hi-lo)*1)=_
   by_cases e:hi=lo
   · rw[show hi-lo=0 by omega];simp[eK]
   · have ax:∃A,s.a=some A∧a=A.add lo:=by
       unfold bh at aU
       rw[if_neg (by omega)] at aU
       cases aj:s.a with
       |none=>rw[aj] at aU;cases aU
       |some A=>rw[aj] at aU;exact ⟨A,rfl,by simpa using aU.symm⟩
     obtain ⟨A,ax,rfl⟩:=ax
     have aN:=h.rd A ax
     have:=RH (w:=w) (A:=A.add lo) ((vs.drop lo).take (hi-lo)) 0 (fun j v a8=>by
       rw[add_add]
       have E6:j<hi-lo:=by have:=(qy.1 a8).1;simp at this;omega
       rw[List.getElem?_take_of_lt E6,Ng] at a8
       have:=Ho aN a8
       simpa using this)
     have bw:((vs.drop lo).take (hi-lo)).length=hi-lo:=by simp;omega
     rw[bw] at this
     rw[mi]
     exact this
def ru (l:List UInt8):Nat:=l.foldl (fun n c=>n*256+c.toNat) 0
theorem ahN (l m:List UInt8):ru (l++m)=m.foldl (fun n c=>n*256+c.toNat) (ru l):=by simp[ru,List.foldl_append]
theorem RI (l:List UInt8) (c:UInt8):ru (l++ [c])=ru l*256+c.toNat:=by rw[ahN];rfl
theorem JY:∀ (k:Nat) (l:List UInt8),l.length=k→ru l<256^k:=by
 intro k
 induction k with
 |zero=>intro l h;rw[ye.1 h];simp[ru]
 |succ k dr=>
   intro l h
   obtain ⟨m,c,rfl⟩:∃m c,l=m++ [c]:=by
     rcases List.eq_nil_or_concat l with rfl|⟨m,c,hm⟩
     · simp at h
     · exact ⟨m,c,by rw[hm,List.concat_eq_append]⟩
   rw[RI,Nat.pow_succ]
   have:=dr m (by simpa using h)
   have:=G3 c
   omega
theorem ahO {a b:Nat} (aU:a<2^64) (ab:b<2^64):Co .u64 (a:Int) (b:Int)=((a|||b:Nat):Int):=by
 have a_:BitVec.ofInt 64 (a:Int)=BitVec.ofNat 64 a:=by simp
 have bw:BitVec.ofInt 64 (b:Int)=BitVec.ofNat 64 b:=by simp
 unfold Co
 show IntKind.u64.wrap (((BitVec.ofInt 64 (a:Int)|||BitVec.ofInt 64 (b:Int)).toNat:Nat):Int)=_
 rw[a_,bw,BitVec.toNat_or,BitVec.toNat_ofNat,BitVec.toNat_ofNat,uU aU,uU ab]
 have:a|||b<2^64:=Nat.or_lt_two_pow aU ab
 have:a|||b<18446744073709551616:=this
 rw[wC (by omega) (by omega)]
theorem ahP (n c:Nat) (al:c<256):n*256|||c=n*256+c:=by
 have:=Nat.shiftLeft_add_eq_or_of_lt (i:=8) (b:=c) (by simpa using al) n
 rw[Nat.shiftLeft_eq] at this
 exact this.symm
theorem sX {s:aa} {l:List UInt8} {w:World} (aj:Src 1 w s (bo l)) (al:s.len≤s.cap) {a k:Nat} (ae:1≤k∧k≤8) (aU:a+k≤l.length) (az:l.length≤1000000000000):
   aO Tryz.prog F.sX #[.slice s.a s.len s.cap, .int .i64 a, .int .i64 k] w (fun v w'=>v= .tuple #[.int .u64 ((ru ((l.drop a).take k):Nat):Int), .bool true]∧w=w'):=by
 refine W.XQ s a k w _ ?_
 (delta W.sX E7 aA bd a6 iE aD;dsimp only)
 have gv:s.len=l.length:=by have:=aj.len;rw[ku] at this;omega
 refine Calls.mono (W.RJ s a k w (fun v w'=>v= .tuple #[.slice (bh s.a 1 a s.cap) k (s.cap-a), .bool true]∧w=w') ?_) ?_
 · delta W.uZ aA aD
   rw[cz (n:=((s.len:Nat):Int)-(a:Int)) (by omega) (by omega),cz (n:=(a:Int)+(k:Int)) (by omega) (by omega)]
   refine ⟨fun h=> ?_,fun _=>⟨⟨by omega,by omega⟩,⟨by omega,by omega⟩,?_,rfl⟩⟩
   · simp only[wu,fx] at h;omega
   · rw[show Int.toNat ((a:Int)+(k:Int))-Int.toNat (a:Int)=k by omega];rfl
 rintro _ _ ⟨_,rfl,rfl,rfl⟩
 refine ⟨⟨bh s.a 1 a s.cap,k,s.cap-a⟩,true,rfl,eN (fun b w'=>b=false∧w=w') (fun q J=>⟨fun h=>by simp at h,fun _=> ?_⟩) ?_⟩
 · refine Calls.mono (W.XR k w (fun v w'=>v= .bool true∧w=w') ⟨?_,rfl⟩) ?_
   · have U:decide ((k:Int)≥1)=true:=iB (by omega)
     have ad:decide ((k:Int)≤8)=true:=iB (by omega)
     rw[U,ad];rfl
   · rintro _ _ ⟨_,rfl,rfl,rfl⟩
     exact ⟨_,rfl,J _ _ ⟨rfl,rfl⟩⟩
 rintro _ _ ⟨rfl,rfl⟩
 have ij:=Src.sub aj al (lo:=a) (hi:=a+k) (by omega) (by omega)
 rw[show a+k-a=k by omega] at ij
 have ij:Src 1 w ⟨bh s.a 1 a s.cap,k,s.cap-a⟩ (bo ((l.drop a).take k)):=by
   simpa[bo,GZ,EN] using ij
 obtain ⟨m,hm⟩:∃m,m=(l.drop a).take k:=⟨_,rfl⟩
 have o0:m.length=k:=by rw[hm];simp;omega
 rw[←hm] at ij⊢
 refine ⟨fun h=>by simp at h,fun _=>⟨fun n i w'=>w=w'∧∃j:Nat,i=j∧j≤k∧n=((ru (m.take j):Nat):Int),fun _ i _=>((k:Int)-i).toNat,⟨rfl,0,rfl,fm _,rfl⟩,?_⟩⟩
 rintro _ _ _ ⟨rfl,j,rfl,a8,rfl⟩
 refine ⟨fun ba=> ?_,fun ck=> ?_⟩
 · have ba:((j:Int)<((k:Nat):Int)):=dG ba
   have ba:j<k:=by omega
   obtain ⟨A,ax,ab,kR⟩:=ij.at (Hk (l:=m) (i:=j) (by omega))
   have U:=JY j (m.take j) (by simp;omega)
   have ad:256^j≤256^7:=Nh (by omega) (by omega)
   have ad:256^j≤72057594037927936:=ad
   have ahQ:(m[j]).toNat<256:=G3 _
   have a_:((ru (m.take j):Nat):Int)*2^(min (Int.toNat 8) 64)=((ru (m.take j)*256:Nat):Int):=by
     show ((ru (m.take j):Nat):Int)*256=_;omega
   refine ⟨A,ax,ab,_,kR,by decide,?_⟩
   rw[a_,wC (n:=((ru (m.take j)*256:Nat):Int)) (by omega) (by omega),wC (n:=((m[j].toNat:Nat):Int)) (by omega) (by omega),ahO (by show _<18446744073709551616;omega) (by show _<18446744073709551616;omega),ahP _ _ ahQ,cz (n:=(j:Int)+1) (by omega) (by omega)]
   refine ⟨⟨rfl,j+1,by omega,by omega,?_⟩,?_⟩
   · rw[take_succ m (by omega),RI]
   · show ((k:Int)-((j:Int)+1)).toNat<((k:Int)-(j:Int)).toNat
     omega
 · have ck:¬((j:Int)<((k:Nat):Int)):=eW ck
   have ck:j=k:=by omega
   subst ck
   exact ⟨by rw[g3 (by omega)],rfl⟩
end
section
theorem RK {w:World} {s:aa} {l:List UInt8} (h:Src 1 w s (bo l)) (az:l.length≤1000000):
   aO Tryz.prog F.mm #[.slice s.a s.len s.cap] w (fun v w'=>∃ar:aa,v= .slice ar.a ar.len ar.cap∧b3 1 ah.uint8 w' ar (bo l)∧Ext w w'∧∀k,aQ ar k→w.heap.size≤k):=by
 have gv:s.len=l.length:=by have:=h.len;rw[ku] at this;omega
 refine W.ahR s w _ ?_
 delta W.mm aA ai
 refine ⟨fun aU=> ?_,fun _=> ?_⟩
 · have aU:s.a=none:=by simpa using aU
   rw[h.nil aU]
   exact ⟨⟨none,0,0⟩,rfl,b3.none _ _ _, .refl _ _,fun k ae=>(qF k ae).elim⟩
 · obtain ⟨ar,w',U,ad,au,aH,aY,_⟩:=E4.clone (ey:=ah.cn) h (yk l) (by omega)
   exact bN ⟨ar,w',U,ar,rfl,ad,aH,aY⟩
theorem ahS {w:World} {s:aa} {l:List UInt8} (c:UInt8) (bE:b3 1 ah.uint8 w s (bo l)) (aC:l.length≤1000000):
   ∃ (ar:aa) (w':World),Sem.run Tryz.prog (Builtin.append_ #[ah.cn,ah.cn] ah.cn #[.slice s.a s.len s.cap, .slice (some ⟨w.heap.size,0,none⟩) 1 1]) (w.alloc (.cells #[.int .u8 ((c.toNat:Nat):Int)] ah.uint8))= .ok (.slice ar.a ar.len ar.cap) w'∧
     b3 1 ah.uint8 w' ar (bo (l++ [c]))∧ao (aQ s) w w'∧(∀k,aQ ar k→aQ s k∨w.heap.size≤k):=by
 have gv:s.len=l.length:=by have:=bE.1;rw[ku] at this;omega
 obtain ⟨ar,w',U,ad,au,aH,aY⟩:=E4.push (ey:=ah.cn) (w:=w) (s:=s) (xs:=[.int .u8 ((c.toNat:Nat):Int)]) rfl bE (fun v ak=>by rw[lR.1 ak];trivial) (by omega)
 exact ⟨ar,w',U,by rw[E3];exact ad,aH,aY⟩
def gB (n k:Nat):List UInt8:=(List.range k).map fun j=>UInt8.ofNat (n/256^(k-1-j)%256)
theorem oh (n k:Nat):(gB n k).length=k:=by simp[gB]
theorem o1 {s:aa} {l:List UInt8} {w:World} (aj:Src 1 w s (bo l)) (az:l.length≤100000) {n k:Nat} (aC:n<2^64) (ae:1≤k∧k≤8):
   aO Tryz.prog F.o1 #[.slice s.a s.len s.cap, .int .u64 n, .int .i64 k] w (fun v w'=>∃ar:aa,v= .slice ar.a ar.len ar.cap∧b3 1 ah.uint8 w' ar (bo (l++gB n k))∧Ext w w'∧∀q,aQ ar q→w.heap.size≤q):=by
 have aC:n<18446744073709551616:=aC
 refine W.ahT s n k w _ ?_
 (delta W.o1 dK bd aA aD ai;dsimp only)
 refine (RK aj (by omega)).use ?_
 rintro _ ag ⟨s1,rfl,k_,bG,qG⟩
 refine ⟨s1,rfl,Calls.mono (W.XR k ag (fun v w'=>v= .bool true∧ag=w') ⟨?_,rfl⟩) ?_⟩
 · have U:decide ((k:Int)≥1)=true:=iB (by omega)
   have ad:decide ((k:Int)≤8)=true:=iB (by omega)
   rw[U,ad];rfl
 rintro _ _ ⟨_,rfl,rfl,rfl⟩
 rw[cz (n:=(k:Int)-1) (by omega) (by omega)]
 refine ⟨_,rfl,fun h=>by simp at h,fun _=>⟨fun t i w'=>∃j:Nat,i=(k:Int)-1-j∧j≤k∧Ext w w'∧(∀q,aQ t q→w.heap.size≤q)∧b3 1 ah.uint8 w' t (bo (l++(gB n k).take j)),fun _ i _=>(i+1).toNat,⟨0,by omega,by omega,bG,qG,by simpa using k_⟩,?_⟩⟩
 rintro t _ aw ⟨j,rfl,a8,cB,py,u0⟩
 refine ⟨fun ba=> ?_,fun ck=> ?_⟩
 · have ba:j<k:=by have:=dG ba;omega
   rw[cz (n:=8*((k:Int)-1-j)) (by omega) (by omega),cz (n:=(k:Int)-1-j-1) (by omega) (by omega)]
   have ak:IntKind.wrap .u8 (Int.fdiv (n:Int) (2^(min (Int.toNat (8*((k:Int)-1-j))) 64)))=((((UInt8.ofNat (n/256^(k-1-j)%256)).toNat:Nat)):Int):=by
     rw[NA (sT _ (by omega)),show min (Int.toNat (8*((k:Int)-1-j))) 64=8*(k-1-j) by omega,ahU]
     have a_:((2:Int)^(8*(k-1-j)))=((256^(k-1-j):Nat):Int):=by
       rw[Int.pow_mul]
       simp
     rw[a_,Int.fdiv_eq_ediv_of_nonneg _ (Int.natCast_nonneg _)]
     generalize 256^(k-1-j)=z
     rfl
   rw[ak]
   obtain ⟨b1,aS,U,ad,au,aH⟩:=ahS (UInt8.ofNat (n/256^(k-1-j)%256)) u0 (by simp[gB];omega)
   refine ⟨by omega,bN ⟨b1,aS,U,⟨j+1,by omega,by omega,Ext.gA cB au py,fun q J=> ?_,?_⟩,?_⟩⟩
   · rcases aH q J with h|h
     · exact py q h
     · exact ju cB.size h
   · rw[take_succ _ (by rw[oh];exact ba),←eI]
     have:(gB n k)[j]'(by rw[oh];exact ba)=UInt8.ofNat (n/256^(k-1-j)%256):=by simp[gB]
     rw[this];exact ad
   · show ((k:Int)-1-j-1+1).toNat<((k:Int)-1-j+1).toNat
     omega
 · have ck:j=k:=by have:=eW ck;omega
   subst ck
   rw[g3 (by rw[oh];exact cR _)] at u0
   exact ⟨t,rfl,u0,cB,py⟩
end
section
theorem ahV (n k:Nat):gB n (k+1)=gB (n/256) k++ [UInt8.ofNat (n%256)]:=by
 unfold gB
 rw[List.range_succ,oc]
 congr 1
 · apply List.map_congr_left
   intro j a8
   have:=wq.1 a8
   rw[show k+1-1-j=(k-1-j)+1 by omega,Nat.pow_succ,Nat.mul_comm,←Nat.div_div_eq_div_mul]
 · simp
theorem RL:∀ (k n:Nat),n<256^k→ru (gB n k)=n
 |0,n,h=>by
   have:n=0:=by simpa using h
   subst this;rfl
 |k+1,n,h=>by
   rw[Nat.pow_succ] at h
   rw[ahV,RI,RL k (n/256) (by omega),NA (sT _ (by omega))]
   omega
def d_ (n:aL):Prop:=oe n∨Ns n
def Cp (l:Key):List UInt8:=UInt8.ofNat l.length::l
def om (n:aL) (i:Nat):List UInt8:=Cp (n.keys.getD i [])++if n.leaf then Cp (n.vals.getD i []) else gB (n.kids.getD (i+1) 0) 2
def pz (n:aL) (i m:Nat):List UInt8:=((List.range' i m).map (om n)).flatten
theorem ahW (n:aL) (i m:Nat):pz n i (m+1)=om n i++pz n (i+1) m:=rfl
theorem RM (n:aL) (m:Nat):pz n 0 (m+1)=pz n 0 m++om n m:=by
 unfold pz
 rw[List.range'_concat,oc,Ni]
 simp
def preB (n:aL):List UInt8:=UInt8.ofNat n.keys.length::if n.leaf then [] else gB (n.kids.getD 0 0) 2
def sg (n:aL):List UInt8:=preB n++pz n 0 n.keys.length
theorem Cq (l:Key):(Cp l).length=l.length+1:=rfl
theorem d_.keys {n:aL} (h:d_ n):Nr n:=by
 rcases h with h|h
 · exact h.toNr
 · exact h.toNr
theorem d_.vals {n:aL} (h:d_ n):∀v∈n.vals,v.length≤24:=by
 rcases h with h|h
 · exact h.vals
 · rw[h.vals];simp
theorem d_.kids {n:aL} (h:d_ n):∀k∈n.kids,k<1600:=by
 rcases h with h|h
 · rw[h.kids];simp
 · exact h.kids
theorem NC {α:Type} {l:List α} {i:Nat} {d:α} (h:i<l.length):l.getD i d∈l:=by
 rw[p6,gH h]
 exact fh h
theorem RN {n:aL} (h:d_ n) {i:Nat} (hi:i<n.keys.length):(cellsOf n)[i]? =some (om n i).length:=by
 unfold cellsOf om
 rcases h with h|h
 · rw[h.leaf]
   simp only[if_true]
   have ak:i<n.vals.length:=by rw[h.len];exact hi
   rw[List.getElem?_zipWith,gH hi,gH ak]
   simp[p6,gH hi,gH ak,Cq]
   omega
 · rw[h.inner]
   simp only[ob,if_false]
   rw[JL,gH hi]
   simp[p6,gH hi,Cq,oh]
   omega
theorem Hp {n:aL} (h:d_ n):(cellsOf n).length=n.keys.length:=by
 unfold cellsOf
 rcases h with h|h
 · rw[h.leaf];simp[h.len]
 · rw[h.inner];simp
theorem RO {n:aL} (h:d_ n):∀m,m≤n.keys.length→(pz n 0 m).length=((cellsOf n).take m).sum
 |0,_=>by simp[pz]
 |m+1,hm=>by
   have az:m<(cellsOf n).length:=by rw[Hp h];omega
   have U:=RN h (i:=m) (by omega)
   rw[gH az] at U
   have U:(cellsOf n)[m]=(om n m).length:=Option.some.inj U
   rw[RM,dO,RO h m (by omega),Hd az,U]
theorem RP {n:aL} (h:d_ n):(sg n).length=cq n:=by
 have e:((cellsOf n).take n.keys.length).sum=(cellsOf n).sum:=by rw[g3 (by rw[Hp h];exact cR _)]
 unfold sg cq preB
 rw[dO,RO h _ (cR _),e]
 cases n.leaf<;>simp[oh]
theorem ND {n:aL} (h:d_ n):2*n.keys.length≤cq n:=by
 have U:∀l:List Nat,(∀x∈l,2≤x)→2*l.length≤l.sum:=by
   intro l
   induction l with
   |nil=>simp
   |cons a l dr=>
     intro h
     have:=h a (by simp)
     have:=dr fun x af=>h x (by simp[af])
     simp only[k8,JG];omega
 have ad:=U (cellsOf n) (by
   intro x af
   obtain ⟨i,hi,rfl⟩:=mS af
   have fo:i<n.keys.length:=by rwa[←Hp h]
   have au:=RN h fo
   rw[gH hi] at au
   rw[Option.some.inj au]
   unfold om
   rw[dO,Cq]
   split
   · rw[Cq];omega
   · rw[oh];omega)
 rw[Hp h] at ad
 unfold cq
 omega
abbrev Rd:=List UInt8×Bool
def pA (r:Rd) (k:Nat):List UInt8×Rd:=if r.2=false∨r.1.length<k then ([],(r.1,false)) else (r.1.take k,(r.1.drop k,true))
def rdNum (r:Rd) (k:Nat):Nat×Rd:=(if (pA r k).1.length=k then ru (pA r k).1 else 0,(pA r k).2)
def sY (r:Rd):List UInt8×Rd:=pA (rdNum r 1).2 (rdNum r 1).1
def E8 (s:aL×Rd):aL×Rd:=
 let t:=sY s.2
 if s.1.leaf then (⟨s.1.leaf,s.1.keys++ [t.1],s.1.vals++ [(sY t.2).1],s.1.kids⟩,(sY t.2).2)
 else (⟨s.1.leaf,s.1.keys++ [t.1],s.1.vals,s.1.kids++ [(rdNum t.2 2).1]⟩,(rdNum t.2 2).2)
def p_ (s:aL×Rd):Nat→aL×Rd
 |0=>s
 |i+1=>E8 (p_ s i)
def Ac (leaf:Bool) (r:Rd):aL×Rd:=if leaf then (⟨true,[],[],[]⟩,r) else (⟨false,[],[],[(rdNum r 2).1]⟩,(rdNum r 2).2)
def qH (leaf:Bool) (b:List UInt8):aL×Rd:=p_ (Ac leaf (rdNum (b,true) 1).2) (rdNum (b,true) 1).1
def yl (leaf:Bool) (b:List UInt8) (n:aL):Prop:=d_ n∧n.leaf=leaf∧cq n≤232∧sg n=b
theorem XS (a b:List UInt8):pA (a++b,true) a.length=(a,(b,true)):=by
 unfold pA
 rw[if_neg (by simp)]
 simp
theorem NF {n k:Nat} (b:List UInt8) (h:n<256^k):rdNum (gB n k++b,true) k=(n,(b,true)):=by
 unfold rdNum
 have:=XS (gB n k) b
 rw[oh] at this
 rw[this]
 simp[oh,RL k n h]
theorem XT (n:Nat) (h:n<256): [UInt8.ofNat n]=gB n 1:=by
 simp[gB,uU h]
theorem RQ (l:Key) (b:List UInt8) (h:l.length<256):sY (Cp l++b,true)=(l,(b,true)):=by
 have e:Cp l++b=gB l.length 1++(l++b):=by
   rw[←XT _ h];rfl
 unfold sY
 rw[e,NF _ (by simpa using h)]
 exact XS l b
theorem ahY {n:aL} (h:d_ n) {i:Nat} (hi:i<n.keys.length) (b:List UInt8):
   E8 (⟨n.leaf,n.keys.take i,n.vals.take i,if n.leaf then [] else n.kids.take (i+1)⟩,(om n i++b,true))=
     (⟨n.leaf,n.keys.take (i+1),n.vals.take (i+1),if n.leaf then [] else n.kids.take (i+2)⟩,(b,true)):=by
 have ae:n.keys.getD i []∈n.keys:=NC hi
 have fv:=(h.keys.ok _ ae).2
 have sV:n.keys.take (i+1)=n.keys.take i++ [n.keys.getD i []]:=by
   rw[take_succ _ hi,p6,gH hi];rfl
 unfold E8
 unfold om
 rcases h with h|h
 · have ak:i<n.vals.length:=by rw[h.len];exact hi
   have RR:n.vals.getD i []∈n.vals:=NC ak
   have bC:n.vals.take (i+1)=n.vals.take i++ [n.vals.getD i []]:=by
     rw[take_succ _ ak,p6,gH ak];rfl
   simp only[h.leaf,if_true]
   rw[eI,RQ _ _ (by omega)]
   simp only
   rw[RQ _ _ (by have:=h.vals _ RR;omega),sV,bC]
 · have ak:i+1<n.kids.length:=by rw[h.len];omega
   have RR:n.kids.getD (i+1) 0∈n.kids:=NC ak
   have bC:n.kids.take (i+2)=n.kids.take (i+1)++ [n.kids.getD (i+1) 0]:=by
     rw[take_succ _ ak,p6,gH ak];rfl
   simp only[h.inner,ob,if_false,h.vals]
   rw[eI,RQ _ _ (by omega)]
   simp only
   rw[NF _ (by have:=h.kids _ RR;show _<65536;omega),sV,bC]
   simp
theorem XU {n:aL} (h:d_ n):∀i,i≤n.keys.length→
   p_ (⟨n.leaf,[],[],if n.leaf then [] else n.kids.take 1⟩,(pz n 0 n.keys.length,true)) i=(⟨n.leaf,n.keys.take i,n.vals.take i,if n.leaf then [] else n.kids.take (i+1)⟩,(pz n i (n.keys.length-i),true))
 |0,_=>by simp[p_]
 |i+1,hi=>by
   rw[p_,XU h i (by omega),show n.keys.length-i=n.keys.length-(i+1)+1 by omega,ahW]
   exact ahY h (by omega) _
theorem RS {n:aL} (h:d_ n) (aC:cq n≤232):qH n.leaf (sg n)=(n,([],true)):=by
 have ae:=ND h
 unfold qH
 have a_:rdNum (sg n,true) 1=(n.keys.length,((if n.leaf then [] else gB (n.kids.getD 0 0) 2)++pz n 0 n.keys.length,true)):=by
   have:sg n=gB n.keys.length 1++((if n.leaf then [] else gB (n.kids.getD 0 0) 2)++pz n 0 n.keys.length):=by
     rw[←XT _ (by omega)];rfl
   rw[this,NF _ (by show _<256;omega)]
 rw[a_]
 simp only
 have bw:Ac n.leaf ((if n.leaf then [] else gB (n.kids.getD 0 0) 2)++pz n 0 n.keys.length,true)=(⟨n.leaf,[],[],if n.leaf then [] else n.kids.take 1⟩,(pz n 0 n.keys.length,true)):=by
   unfold Ac
   rcases h with h|h
   · simp[h.leaf]
   · have hd:0<n.kids.length:=by rw[h.len];omega
     have hm:n.kids.getD 0 0∈n.kids:=NC hd
     have:=h.kids _ hm
     simp only[h.inner,ob,if_false]
     rw[NF _ (by show _<65536;omega)]
     cases JZ:n.kids with
     |nil=>rw[JZ] at hd;simp at hd
     |cons a l=>simp
 rw[bw,XU h _ (cR _)]
 have ek:pz n n.keys.length (n.keys.length-n.keys.length)=[]:=by rw[EO];rfl
 rw[ek,g3 (cR _)]
 rcases h with h|h
 · rw[g3 (by rw[h.len];exact cR _)]
   have:=h.kids
   have:=h.leaf
   cases n
   simp_all
 · rw[g3 (by rw[h.vals];simp),g3 (by rw[h.len];exact cR _)]
   have:=h.inner
   cases n
   simp_all
theorem yl.uniq {leaf:Bool} {b:List UInt8} {n m:aL} (U:yl leaf b n) (ad:yl leaf b m):n=m:=by
 obtain ⟨bc,cW,a3,a4⟩:=U
 obtain ⟨da,cI,eM,e7⟩:=ad
 have a_:=RS bc a3
 have bw:=RS da eM
 rw[cW,a4] at a_
 rw[cI,e7,a_] at bw
 exact congrArg Prod.fst bw
end
section
def J0 (n:Nat):Nat:=if n%2=1 then (n/2)^^^0x82f63b78 else n/2
def NG:Nat→Nat→Nat
 |0,n=>n
 |k+1,n=>J0 (NG k n)
def XV (n:Nat) (c:UInt8):Nat:=NG 8 (n^^^c.toNat)
def wD (n:Nat) (l:List UInt8):Nat:=l.foldl XV n
def qI (l:List UInt8):Nat:=4294967295-wD 4294967295 l
theorem ahZ {n:Nat} (h:n<4294967296):J0 n<4294967296:=by
 unfold J0
 split
 · exact Nat.xor_lt_two_pow (n:=32) (by show _<4294967296;omega) (by decide)
 · omega
theorem RT {n:Nat} (h:n<4294967296):∀k,NG k n<4294967296
 |0=>h
 |k+1=>ahZ (RT h k)
theorem ah0 {n:Nat} (h:n<4294967296) (c:UInt8):XV n c<4294967296:=
 RT (Nat.xor_lt_two_pow (n:=32) h (by have:=G3 c;show _<4294967296;omega)) 8
theorem NH:∀ (l:List UInt8) {n:Nat},n<4294967296→wD n l<4294967296
 | [],_,h=>h
 |c::l,_,h=>NH l (ah0 h c)
theorem XW (n:Nat) (a b:List UInt8):wD n (a++b)=wD (wD n a) b:=by simp[wD,List.foldl_append]
theorem RU (l:List UInt8):qI l<4294967296:=by unfold qI;omega
structure tO where
 kind:Nat
 gen:Nat
 body:List UInt8
 deriving DecidableEq
structure J1 (p:tO):Prop where
 dB:1≤p.kind
 dZ:p.kind≤4
 gen:p.gen<18446744073709551616
 body:p.body.length≤232
def nG:List UInt8:=[83,84,78,67]
def ki (no:Nat) (p:tO):List UInt8:=nG++([1,UInt8.ofNat p.kind]++(gB p.body.length 2++(gB no 4++gB p.gen 8)))
def kv (p:tO):List UInt8:=p.body++List.replicate (232-p.body.length) 0
def o2 (no:Nat) (p:tO):List UInt8:=ki no p++(gB (qI (ki no p++kv p)) 4++kv p)
theorem Cr (no:Nat) (p:tO):(ki no p).length=20:=by simp[ki,nG,oh]
theorem NI {p:tO} (h:J1 p):(kv p).length=232:=by
 have:=h.body
 simp[kv];omega
theorem XX {p:tO} (no:Nat) (h:J1 p):(o2 no p).length=256:=by simp[o2,Cr,oh,NI h]
def sumOf (l:List UInt8):Nat:=qI (l.take 20++l.drop 24)
def jw (l:List UInt8) (a k:Nat):Nat:=ru ((l.drop a).take k)
def mn (no:Int) (l:List UInt8):Except Int tO:=
 if l.length≠256 then .error 9
 else if l.take 4≠nG then .error 4
 else if l.getD 4 0≠1 then .error 12
 else if sumOf l≠jw l 20 4 then .error 5
 else if¬(1≤(l.getD 5 0).toNat∧(l.getD 5 0).toNat≤4)∨232<jw l 6 2∨(l.drop (24+jw l 6 2)).all (fun c=>c==0)=false then .error 4
 else if¬(0≤no∧no<1600)∨(jw l 8 4:Int)≠no then .error 1
 else .ok ⟨(l.getD 5 0).toNat,jw l 12 8,(l.drop 24).take (jw l 6 2)⟩
theorem drop_left' {α:Type} {a b:List α} {n:Nat} (h:a.length=n):(a++b).drop n=b:=by subst h;exact List.drop_left
theorem Ad {α:Type} {a b:List α} {n:Nat} (h:a.length=n):(a++b).take n=a:=by subst h;exact List.take_left
theorem NJ {a b:List UInt8} {n k m:Nat} (aU:a.length=m) (h:n<256^k):jw (a++(gB n k++b)) m k=n:=by
 unfold jw
 rw[drop_left' aU,Ad (oh n k),RL k n h]
theorem ah1 {no:Nat} {p:tO} (dc:no<1600) (h:J1 p):mn no (o2 no p)= .ok p:=by
 have ab:=h.body
 have jX:=h.dB
 have dW:=h.dZ
 have bg:=h.gen
 have aR:=NI h
 have cS:=Cr no p
 have al:=RU (ki no p++kv p)
 have dt:jw (o2 no p) 20 4=qI (ki no p++kv p):=NJ cS (by show _<4294967296;exact al)
 have bw:o2 no p=(nG++ [1,UInt8.ofNat p.kind])++(gB p.body.length 2++((gB no 4++gB p.gen 8)++(gB (qI (ki no p++kv p)) 4++kv p))):=by
   show ki no p++_=_
   rw[show ki no p=(nG++ [1,UInt8.ofNat p.kind])++(gB p.body.length 2++(gB no 4++gB p.gen 8)) by simp[ki]]
   simp only[eI]
 have db:jw (o2 no p) 6 2=p.body.length:=by rw[bw];exact NJ rfl (by show _<65536;omega)
 have ek:o2 no p=((nG++ [1,UInt8.ofNat p.kind])++gB p.body.length 2)++(gB no 4++(gB p.gen 8++(gB (qI (ki no p++kv p)) 4++kv p))):=by rw[bw];simp only[eI]
 have bm:jw (o2 no p) 8 4=no:=by rw[ek];exact NJ (by simp[nG,oh]) (by show _<4294967296;omega)
 have kS:o2 no p=((nG++ [1,UInt8.ofNat p.kind])++(gB p.body.length 2++gB no 4))++(gB p.gen 8++(gB (qI (ki no p++kv p)) 4++kv p)):=by rw[bw];simp only[eI]
 have fI:jw (o2 no p) 12 8=p.gen:=by rw[kS];exact NJ (by simp[nG,oh]) (by show _<18446744073709551616;exact bg)
 have lV:o2 no p=(ki no p++gB (qI (ki no p++kv p)) 4)++kv p:=by simp[o2]
 have RV:(ki no p++gB (qI (ki no p++kv p)) 4).length=24:=by simp[cS,oh]
 have d24:(o2 no p).drop 24=kv p:=by rw[lV];exact drop_left' RV
 have t4:(o2 no p).take 4=nG:=by rw[bw];rfl
 have aM:(o2 no p).getD 4 0=1:=by rw[bw];rfl
 have cU:((o2 no p).getD 5 0).toNat=p.kind:=by rw[bw];show (UInt8.ofNat p.kind).toNat=p.kind;exact NA (by omega)
 have s:sumOf (o2 no p)=qI (ki no p++kv p):=by
   unfold sumOf
   rw[d24,show (o2 no p).take 20=ki no p from Ad cS]
 unfold mn
 rw[if_neg (by rw[XX no h];simp),if_neg (by rw[t4];simp),if_neg (by rw[aM];simp),if_neg (by rw[s,dt];simp),if_neg (by
   rw[cU,db]
   rintro (U|U|U)
   · exact U ⟨jX,dW⟩
   · omega
   · rw[List.all_eq_false] at U
     obtain ⟨c,al,U⟩:=U
     rw[←JH,d24] at al
     unfold kv at al
     rw[List.drop_left] at al
     exact U (by rw[Ro al];rfl)),if_neg (by rw[bm];rintro (U|U)<;>omega),cU,db,fI,d24]
 have:(kv p).take p.body.length=p.body:=by unfold kv;exact List.take_left
 rw[this]
end
section
def pB (s:aa):Value:= .slice s.a s.len s.cap
abbrev oG (w:World) (s:aa):Prop:=∀k,aQ s k→w.heap.size≤k
theorem oG.mono {w w':World} {s:aa} (h:oG w' s) (af:w.heap.size≤w'.heap.size):oG w s:=fun k ae=>ju af (h k ae)
theorem len8 {w:World} {s:aa} {l:List UInt8} (h:Src 1 w s (bo l)):s.len=l.length:=by have:=h.len;rw[ku] at this;omega
theorem Ae {w:World} {T:TypeId} {s:aa} {l:List UInt8} (h:b3 1 T w s (bo l)):s.len=l.length:=by have:=h.1;rw[ku] at this;omega
theorem Cs {w:World} {s:aa} {l:List UInt8} {lo hi:Nat} (h:Src 1 w s (bo l)) (al:s.len≤s.cap) (U:lo≤hi) (ad:hi≤s.len):Src 1 w ⟨bh s.a 1 lo s.cap,hi-lo,s.cap-lo⟩ (bo ((l.drop lo).take (hi-lo))):=by
 have:=Src.sub h al U ad
 simpa[bo,GZ,EN] using this
def jg (ps:List (aa×List UInt8)):List UInt8:=(ps.map (·.2)).flatten
theorem XY (a:List (aa×List UInt8)) (p:aa×List UInt8):jg (a++ [p])=jg a++p.2:=by simp[jg]
theorem ah2 (ps:List (aa×List UInt8)) (j:Nat):(jg (ps.take j)).length≤(jg ps).length:=by
 have h:ps=ps.take j++ps.drop j:=(p5 j ps).symm
 have:(jg ps).length=(jg (ps.take j)).length+(jg (ps.drop j)).length:=by
   conv=>lhs;rw[h]
   unfold jg
   rw[oc,Ni,dO]
 omega
theorem XZ (ps:List (aa×List UInt8)) {j:Nat} (a8:j<ps.length):(ps[j]).2.length≤(jg ps).length:=by
 have h:ps=ps.take j++ps[j]::ps.drop (j+1):=by rw[←tJ a8,p5]
 have:(jg ps).length=(jg (ps.take j)).length+((ps[j]).2.length+(jg (ps.drop (j+1))).length):=by
   conv=>lhs;rw[h]
   unfold jg
   rw[oc,Ni,dO,tK,List.flatten_cons,dO]
 omega
theorem NK {s:aa} {w:World} (ps:List (aa×List UInt8)) (aj:Src 1 w s (ps.map fun p=>pB p.1)) (aW:∀p∈ps,Src 1 w p.1 (bo p.2)) (az:(jg ps).length≤100000) (aC:ps.length≤100000):
   aO Tryz.prog F.sZ #[.slice s.a s.len s.cap] w (fun v w'=>∃ar:aa,v= .slice ar.a ar.len ar.cap∧b3 1 ah.uint8 w' ar (bo (jg ps))∧Ext w w'∧oG w ar):=by
 refine W.ah3 s w _ ?_
 (delta W.sZ aA a6 aq aD;dsimp only)
 have gv:s.len=ps.length:=by have:=aj.len;rw[mj] at this;omega
 refine ⟨fun ar i w'=>∃j:Nat,i=j∧j≤ps.length∧b3 1 ah.uint8 w' ar (bo (jg (ps.take j)))∧Ext w w'∧oG w ar,fun _ i _=>((ps.length:Int)-i).toNat,⟨0,rfl,fm _,b3.none 1 ah.uint8 _, .refl _ _,fun k ae=>(qF k ae).elim⟩,?_⟩
 rintro ar _ ag ⟨j,rfl,a8,bE,af,aG⟩
 refine ⟨fun ba=> ?_,fun ck=> ?_⟩
 · have ba:j<ps.length:=by have:=dG ba;omega
   obtain ⟨A,ax,ab,kR⟩:=(aj.ext af).at (i:=j) (v:=pB (ps[j]).1) (by simp[ba])
   have X0:=(aW _ (fh ba)).ext af
   have U:=XZ ps ba
   have ad:=ah2 ps j
   have au:=len8 X0
   have aH:=Ae bE
   obtain ⟨s2,aw,aB,aF,aJ,aM,cU⟩:=E4.append (ey:=ah.cn) X0 bE (yk _) (by rw[au,aH];omega)
   rw[cz (n:=(j:Int)+1) (by omega) (by omega)]
   refine ⟨A,ax,ab,(ps[j]).1,kR,s2,aw,aB,⟨j+1,by omega,by omega,?_,Ext.gA af aM aG,fun k ae=> ?_⟩,?_⟩
   · rw[take_succ _ ba]
     rw[XY,E3];exact aF
   · rcases cU k ae with h|h
     · exact aG k h
     · exact ju af.size h
   · show ((ps.length:Int)-((j:Int)+1)).toNat<((ps.length:Int)-(j:Int)).toNat
     omega
 · have ck:j=ps.length:=by have:=eW ck;omega
   subst ck
   rw[qz] at bE
   exact ⟨ar,rfl,bE,af,aG⟩
theorem ah4 {s:aa} {l:List UInt8} {w:World} (aj:Src 1 w s (bo l)) (al:s.len≤s.cap) {a k:Nat} (aU:a+k≤l.length) (az:l.length≤1000000000000):
   aO Tryz.prog F.uZ #[.slice s.a s.len s.cap, .int .i64 a, .int .i64 k] w (fun v w'=>v= .tuple #[.slice (bh s.a 1 a s.cap) k (s.cap-a), .bool true]∧w=w'):=by
 have gv:=len8 aj
 refine W.RJ s a k w _ ?_
 delta W.uZ aA aD
 rw[cz (n:=((s.len:Nat):Int)-(a:Int)) (by omega) (by omega),cz (n:=(a:Int)+(k:Int)) (by omega) (by omega)]
 refine ⟨fun h=> ?_,fun _=>⟨⟨by omega,by omega⟩,⟨by omega,by omega⟩,?_,rfl⟩⟩
 · simp only[wu,fx] at h;omega
 · rw[show Int.toNat ((a:Int)+(k:Int))-Int.toNat (a:Int)=k by omega];rfl
theorem ah5 {s:aa} {l:List UInt8} {w:World} (aj:Src 1 w s (bo l)) {a k:Nat} (aU:l.length<a+k) (auL:a≤l.length) (az:l.length≤1000000000000) (ae:k≤1000000000000):
   aO Tryz.prog F.uZ #[.slice s.a s.len s.cap, .int .i64 a, .int .i64 k] w (fun v w'=>v= .tuple #[.slice none 0 0, .bool false]∧w=w'):=by
 have gv:=len8 aj
 refine W.RJ s a k w _ ?_
 delta W.uZ aA aD
 rw[cz (n:=((s.len:Nat):Int)-(a:Int)) (by omega) (by omega),cz (n:=(a:Int)+(k:Int)) (by omega) (by omega)]
 have e:(((decide ((a:Int)<0))||(decide ((k:Int)<0)))||(decide ((a:Int)>((s.len:Nat):Int)))||(decide ((k:Int)>(((s.len:Nat):Int)-(a:Int)))))=true:=by
   simp only[wu,fx];omega
 exact ⟨fun _=>⟨rfl,rfl⟩,fun h=>(by rw[e] at h;cases h)⟩
theorem ym {s:aa} {l:List UInt8} {w:World} (aj:Src 1 w s (bo l)) (al:s.len≤s.cap) {a k:Nat} (aU:a+k≤l.length) (az:l.length≤100000):
   aO Tryz.prog F.ym #[.slice s.a s.len s.cap, .int .i64 a, .int .i64 k] w (fun v w'=>∃ar:aa,v= .tuple #[.slice ar.a ar.len ar.cap, .bool true]∧b3 1 ah.uint8 w' ar (bo ((l.drop a).take k))∧Ext w w'∧oG w ar):=by
 have gv:=len8 aj
 refine W.ah6 s a k w _ ?_
 (delta W.ym E7 dK;dsimp only)
 refine (ah4 aj al aU (by omega)).use ?_
 rintro _ _ ⟨rfl,rfl⟩
 have ij:=Cs aj al (lo:=a) (hi:=a+k) (by omega) (by omega)
 rw[show a+k-a=k by omega] at ij
 refine ⟨⟨bh s.a 1 a s.cap,k,s.cap-a⟩,true,rfl,(RK ij (by simp;omega)).use ?_⟩
 rintro _ ag ⟨ar,rfl,bE,af,aG⟩
 exact ⟨ar,rfl,ar,rfl,bE,af,aG⟩
theorem ah7 {s:aa} {l:List UInt8} {w:World} (aj:Src 1 w s (bo l)) {k:Nat} (ae:k≤8) (aU:l.length<k):
   aO Tryz.prog F.sX #[.slice s.a s.len s.cap, .int .i64 (0:Nat), .int .i64 k] w (fun v w'=>v= .tuple #[.int .u64 0, .bool false]∧w=w'):=by
 refine W.XQ s (0:Nat) k w _ ?_
 (delta W.sX E7 aA bd a6 iE aD;dsimp only)
 refine (ah5 aj (a:=0) (by omega) (by omega) (by omega) (by omega)).use ?_
 rintro _ _ ⟨rfl,rfl⟩
 refine ⟨⟨none,0,0⟩,false,rfl,eN (fun b w'=>b=true∧w=w') (fun q J=>⟨fun _=>J _ _ ⟨rfl,rfl⟩,fun h=>by simp at h⟩) ?_⟩
 rintro _ _ ⟨rfl,rfl⟩
 exact ⟨fun _=>⟨rfl,rfl⟩,fun h=>by simp at h⟩
theorem NL {a:Nat} (aU:a<4294967296):(BitVec.ofInt 32 (a:Int))=BitVec.ofNat 32 a:=by simp
theorem NM {a b:Nat} (aU:a<4294967296) (ab:b<4294967296):E9 .u32 (a:Int) (b:Int)=((a^^^b:Nat):Int):=by
 unfold E9
 show IntKind.u32.wrap (((BitVec.ofInt 32 (a:Int)^^^BitVec.ofInt 32 (b:Int)).toNat:Nat):Int)=_
 rw[NL aU,NL ab,BitVec.toNat_xor,BitVec.toNat_ofNat,BitVec.toNat_ofNat,uU (by simpa using aU),uU (by simpa using ab)]
 have:a^^^b<4294967296:=Nat.xor_lt_two_pow (n:=32) aU ab
 rw[RW (by omega) (by omega)]
theorem ah8 {a b:Nat} (aU:a<4294967296) (ab:b<4294967296):tP .u32 (a:Int) (b:Int)=((a&&&b:Nat):Int):=by
 unfold tP
 show IntKind.u32.wrap (((BitVec.ofInt 32 (a:Int)&&&BitVec.ofInt 32 (b:Int)).toNat:Nat):Int)=_
 rw[NL aU,NL ab,BitVec.toNat_and,BitVec.toNat_ofNat,BitVec.toNat_ofNat,uU (by simpa using aU),uU (by simpa using ab)]
 have:a&&&b≤a:=Nat.and_le_left
 rw[RW (by omega) (by omega)]
theorem ah9 {n:Nat} (aC:n<4294967296):
   E9 .u32 (Int.fdiv (n:Int) (2^(min (Int.toNat 1) 32))) (tP .u32 2197175160 (IntKind.wrap .u32 (0-(tP .u32 (n:Int) 1))))=((J0 n:Nat):Int):=by
 have a_:tP .u32 (n:Int) 1=((n%2:Nat):Int):=by
   have:=ah8 aC (show 1<4294967296 by omega)
   rw[Nat.and_one_is_mod] at this
   exact this
 have bw:Int.fdiv (n:Int) (2^(min (Int.toNat 1) 32))=((n/2:Nat):Int):=by
   rw[Int.fdiv_eq_ediv_of_nonneg _ (by decide)];rfl
 rw[a_,bw]
 unfold J0
 rcases Nat.mod_two_eq_zero_or_one n with h|h
 · rw[h,if_neg (by omega)]
   have ek:tP .u32 2197175160 (IntKind.wrap .u32 (0-((0:Nat):Int)))=((0:Nat):Int):=by decide+kernel
   rw[ek,NM (by omega) (by omega),Nat.xor_zero]
 · rw[h,if_pos rfl]
   have ek:tP .u32 2197175160 (IntKind.wrap .u32 (0-((1:Nat):Int)))=((2197175160:Nat):Int):=by decide+kernel
   rw[ek,NM (by omega) (by omega)]
theorem yn {s:aa} {l:List UInt8} {w:World} {n:Nat} (aj:Src 1 w s (bo l)) (aC:n<4294967296) (az:l.length≤1000000):
   aO Tryz.prog F.yn #[.int .u32 n, .slice s.a s.len s.cap] w (fun v w'=>v= .int .u32 (wD n l:Nat)∧w=w'):=by
 have gv:=len8 aj
 refine W.ah_ n s w _ ?_
 (delta W.yn aA a6 iE aD;dsimp only)
 refine ⟨fun m i w'=>∃j:Nat,i=j∧j≤l.length∧m=((wD n (l.take j):Nat):Int)∧w=w',fun _ i _=>((l.length:Int)-i).toNat,⟨0,rfl,fm _,rfl,rfl⟩,?_⟩
 rintro _ _ _ ⟨j,rfl,a8,rfl,rfl⟩
 refine ⟨fun ba=> ?_,fun ck=> ?_⟩
 · have ba:j<l.length:=by have:=dG ba;omega
   obtain ⟨A,ax,ab,kR⟩:=aj.at (Hk ba)
   have hm:=NH (l.take j) aC
   have al:=G3 (l[j])
   have af:=Nat.xor_lt_two_pow (n:=32) hm (show (l[j]).toNat<4294967296 by omega)
   refine ⟨A,ax,ab,_,kR,fun m i w'=>∃k:Nat,i=k∧k≤8∧m=((NG k (wD n (l.take j)^^^(l[j]).toNat):Nat):Int)∧w=w',fun _ i _=>((8:Int)-i).toNat,⟨0,rfl,by omega,?_,rfl⟩,?_⟩
   · rw[RW (by omega) (by omega),NM hm (by omega)];rfl
   rintro _ _ _ ⟨k,rfl,ae,rfl,rfl⟩
   refine ⟨fun RX=> ?_,fun RY=> ?_⟩
   · have RX:k<8:=by have:=dG RX;omega
     rw[ah9 (RT af k),cz (n:=(k:Int)+1) (by omega) (by omega)]
     refine ⟨by decide,⟨k+1,by omega,by omega,rfl,rfl⟩,?_⟩
     show ((8:Int)-((k:Int)+1)).toNat<((8:Int)-(k:Int)).toNat
     omega
   · have RY:k=8:=by have:=eW RY;omega
     subst RY
     rw[cz (n:=(j:Int)+1) (by omega) (by omega)]
     refine ⟨⟨j+1,by omega,by omega,?_,rfl⟩,?_⟩
     · rw[take_succ _ ba,XW];rfl
     · show ((l.length:Int)-((j:Int)+1)).toNat<((l.length:Int)-(j:Int)).toNat
       omega
 · have ck:j=l.length:=by have:=eW ck;omega
   subst ck
   rw[qz]
   exact ⟨rfl,rfl⟩
theorem aia {n:Nat} (h:n<4294967296):4294967295^^^n=4294967295-n:=by
 apply Nat.eq_of_testBit_eq
 intro i
 have U:(4294967295-n).testBit i=(decide (i<32)&& !n.testBit i):=by
   have:=Nat.testBit_two_pow_sub_succ (n:=32) (x:=n) (by simpa using h) i
   rw[←this];congr 1;omega
 have ad:(4294967295:Nat).testBit i=decide (i<32):=by
   have:=Nat.testBit_two_pow_sub_one 32 i
   exact this
 rw[Nat.testBit_xor,U,ad]
 by_cases hi:i<32
 · simp[hi]
 · have:n.testBit i=false:=by
     apply Nat.testBit_lt_two_pow
     exact lv h (Nh (n:=2) (by omega) (show 32≤i by omega))
   simp[hi,this]
theorem aib {s:aa} {w:World} (ps:List (aa×List UInt8)) (aj:Src 1 w s (ps.map fun p=>pB p.1)) (aW:∀p∈ps,Src 1 w p.1 (bo p.2)) (az:(jg ps).length≤100000) (aC:ps.length≤100000):
   aO Tryz.prog F.Ct #[.slice s.a s.len s.cap] w (fun v w'=>v= .int .u32 (qI (jg ps):Nat)∧w=w'):=by
 refine W.aic s w _ ?_
 (delta W.Ct aA a6 aq ng aD;dsimp only)
 have gv:s.len=ps.length:=by have:=aj.len;rw[mj] at this;omega
 refine ⟨fun m i w'=>∃j:Nat,i=j∧j≤ps.length∧m=((wD 4294967295 (jg (ps.take j)):Nat):Int)∧w=w',fun _ i _=>((ps.length:Int)-i).toNat,⟨0,rfl,fm _,rfl,rfl⟩,?_⟩
 rintro _ _ _ ⟨j,rfl,a8,rfl,rfl⟩
 refine ⟨fun ba=> ?_,fun ck=> ?_⟩
 · have ba:j<ps.length:=by have:=dG ba;omega
   obtain ⟨A,ax,ab,kR⟩:=aj.at (i:=j) (v:=pB (ps[j]).1) (by simp[ba])
   have hm:=NH (jg (ps.take j)) (n:=4294967295) (by decide)
   refine ⟨A,ax,ab,(ps[j]).1,kR,(yn (aW _ (fh ba)) hm (by have:=XZ ps ba;omega)).use ?_⟩
   rintro _ _ ⟨rfl,rfl⟩
   rw[cz (n:=(j:Int)+1) (by omega) (by omega)]
   refine ⟨_,rfl,⟨j+1,by omega,by omega,?_,rfl⟩,?_⟩
   · rw[take_succ _ ba,←XW,XY]
   · show ((ps.length:Int)-((j:Int)+1)).toNat<((ps.length:Int)-(j:Int)).toNat
     omega
 · have ck:j=ps.length:=by have:=eW ck;omega
   subst ck
   rw[qz]
   have hm:=NH (jg ps) (n:=4294967295) (by decide)
   refine ⟨?_,rfl⟩
   have:=NM (a:=4294967295) (b:=wD 4294967295 (jg ps)) (by decide) hm
   rw[aia hm] at this
   exact congrArg _ this
theorem u3 {s:aa} {l:List UInt8} {w:World} (aj:Src 1 w s (bo l)) (al:s.len≤s.cap) (az:l.length=256):
   aO Tryz.prog F.u3 #[.slice s.a s.len s.cap] w (fun v w'=>v= .int .u32 (sumOf l:Nat)∧Ext w w'):=by
 have gv:=len8 aj
 refine W.aid s w _ ?_
 (delta W.u3 ay ng ai;dsimp only)
 have bG:Ext w w.drew:=ao.drew (.refl _ _)
 refine ⟨⟨by decide,by omega⟩,⟨by decide,by omega⟩,?_⟩
 have U:=Cs (aj.ext bG) al (lo:=0) (hi:=20) (by omega) (by omega)
 have ad:=Cs (aj.ext bG) al (lo:=24) (hi:=s.len) (by omega) (by omega)
 have cB:∀o,Ext w.drew (w.drew.alloc o):=fun o=>ao.alloc (.refl _ _) o
 refine (aib [(⟨bh s.a 1 0 s.cap,20-0,s.cap-0⟩,(l.drop 0).take (20-0)),(⟨bh s.a 1 24 s.cap,s.len-24,s.cap-24⟩,(l.drop 24).take (s.len-24))] (s:=⟨some ⟨w.drew.heap.size,0,none⟩,2,2⟩) (Src.new w.drew _ 2 rfl) ?_ ?_ ?_).use ?_
 · intro p aW
   simp only[fZ,mT,mU] at aW
   rcases aW with rfl|rfl
   · exact U.ext (cB _)
   · exact ad.ext (cB _)
 · simp[jg];omega
 · simp
 rintro _ ag ⟨rfl,rfl⟩
 refine ⟨_,rfl,?_,bG.trans (cB _)⟩
 have:jg [((⟨bh s.a 1 0 s.cap,20-0,s.cap-0⟩:aa),(l.drop 0).take (20-0)),(⟨bh s.a 1 24 s.cap,s.len-24,s.cap-24⟩,(l.drop 24).take (s.len-24))]=l.take 20++l.drop 24:=by
   simp only[jg,tK,List.map_nil,List.flatten_cons,List.flatten_nil,mh,zW]
   rw[g3 (l:=l.drop 24) (by rw[fF];omega)]
 rw[this];rfl
end
section
theorem b3.aie {T:TypeId} {w:World} {s:aa} {vs us:List Value} {b o:Nat} (h:b3 1 T w s vs) (ab:s.a=some ⟨b,0,none⟩) (bE:o+us.length≤s.len):
   b3 1 T (setCells w ⟨b,o,none⟩ 0 us) s (vs.take o++us++vs.drop (o+us.length)):=by
 obtain ⟨U,ad,au,aH⟩:=h
 rcases aH with ⟨aC,_⟩|⟨jx,c,kx,jh,ec,aR⟩
 · rw[aC] at ab;cases ab
 · rw[ab] at kx
   cases kx
   have Cl:c.toList.length=s.cap:=by simpa using ec
   have hle:o+us.length≤c.size:=by omega
   rw[mi] at U ec
   refine ⟨by simp;omega,ad,au, .inr ⟨b,_,ab,cr.Cu jh us,by rw[rq];omega,?_⟩⟩
   rw[mi] at aR⊢
   rw[Af _ _ _ hle,←aR,JJ,r8 (by omega),eI,eI,List.take_append,List.take_append,ej,r8 (by omega),
     g3 (l:=c.toList.take o) (by rw[ej];omega),g3 (l:=us) (by omega),List.drop_take,show s.len-o-us.length=s.len-(o+us.length) by omega]
theorem NN (w:World) (l:List UInt8):
   ∃w',Sem.run Tryz.prog (convert ah.cn ah.cn (.slice (some ⟨w.heap.size,0,none⟩) l.length l.length)) (w.alloc (.cells (bo l).toArray ah.uint8))= .ok (.slice (some ⟨w.heap.size,0,none⟩) l.length l.length) w'∧
     Src 1 w' ⟨some ⟨w.heap.size,0,none⟩,l.length,l.length⟩ (bo l)∧Ext w w'∧w'.heap.size=w.heap.size+1:=by
 refine ⟨_,Go.Lib.run_convert_bytes_const (P:=Tryz.prog) w ah.cn ah.uint8 (bo l).toArray l.length l.length (by kernel_rfl) (by kernel_rfl),⟨by rw[ku,mi],(fun h=>by cases h),fun a aU=> ?_⟩,ao.alloc (.refl _ _) _,by simp⟩
 cases aU
 have:=RH (w:=w.alloc (.cells (bo l).toArray ah.uint8 ((bo l).toArray.size,(bo l).toArray.size+1))) (A:=⟨w.heap.size,0,none⟩) (bo l) 0 (fun j v a8=>by
   rw[aX]
   show (World.cell? _ _)=_
   have:(w.alloc (.cells (bo l).toArray ah.uint8 ((bo l).toArray.size,(bo l).toArray.size+1))).heap[w.heap.size]? =some (.cells (bo l).toArray ah.uint8 ((bo l).toArray.size,(bo l).toArray.size+1)):=by
     show (w.heap.push _)[w.heap.size]? =_
     simp
   simp only[World.cell?,this]
   simpa using a8)
 rw[ku] at this
 rw[mi]
 exact this
theorem X1 (n:Nat):pC Tryz.prog ah.uint8 n=(bo (List.replicate n 0)).toArray:=by
 rw[X2 (v:= .int .u8 0) (by kernel_rfl) (by kernel_rfl)]
 simp[bo]
theorem aif {A Z T C:List UInt8} {n m:Nat} (ax:A.length=n) (u4:Z.length=m):(bo (A++(Z++T))).take n++bo C++(bo (A++(Z++T))).drop (n+m)=bo (A++(C++T)):=by
 have a_:(bo (A++(Z++T))).take n=bo A:=by rw[E3];exact Ad (by rw[ku,ax])
 have bw:(bo (A++(Z++T))).drop (n+m)=bo T:=by rw[←eI,E3];exact drop_left' (by rw[ku,dO,ax,u4])
 rw[a_,bw,E3,E3,eI]
theorem dT (w:World):Ext w w.drew:=ao.drew (.refl _ _)
theorem iP (w:World) (o:Obj):Ext w (w.alloc o):=ao.alloc (.refl _ _) o
theorem J2 (w:World) (o:Obj):(w.alloc o).heap.size=w.heap.size+1:=by simp
theorem aig {s:aa} {p:tO} {no:Nat} {w:World} (aj:Src 1 w s (bo p.body)) (dc:no<1600) (aW:J1 p):
   aO Tryz.prog F.Cv #[.int .i64 no, .agg #[.int .i64 p.kind, .int .u64 p.gen, .slice s.a s.len s.cap]] w (fun v w'=>∃ar:aa,v= .tuple #[.slice ar.a ar.len ar.cap, .int .i64 0]∧b3 1 ah.uint8 w' ar (bo (o2 no p))∧Ext w w'∧oG w ar):=by
 have jX:=aW.dB
 have dW:=aW.dZ
 have auM:=aW.gen
 have wE:=aW.body
 have gv:=len8 aj
 refine W.aih no p.kind p.gen s w _ ?_
 (delta W.Cv bd aA bK ai aq dK kT yo RZ aD R0 ng;dsimp only)
 refine cx (vs:=[.int .i64 p.kind, .int .u64 p.gen, .slice s.a s.len s.cap]) rfl fun ag ak bG nH=> ?_
 have bA:∀ {w':World},Ext ag w'→w'.cell? (Addr.add ⟨w.heap.size,0,none⟩ 2)=some (.slice s.a s.len s.cap):=fun af=>by rw[aX];exact (ak.ext af).cell
 have aV:∀ {w':World},Ext ag w'→w'.cell? (Addr.add ⟨w.heap.size,0,none⟩ 1)=some (.int .u64 p.gen):=fun af=>by rw[aX];exact (ak.ext af).cell
 refine Calls.mono (W.X3 no ag (fun v w'=>v= .bool true∧ag=w') ⟨by simp;omega,rfl⟩) ?_
 rintro _ _ ⟨_,rfl,rfl,rfl⟩
 refine ⟨_,rfl,eN (fun b w'=>b=false∧ag=w') (fun q J=>⟨fun U=>by simp at U,fun U=>⟨p.kind,ak.cell,?_⟩⟩) ?_⟩
 · refine Calls.mono (W.X4 p.kind ag (fun v w'=>v= .bool true∧ag=w') ⟨by simp;omega,rfl⟩) ?_
   rintro _ _ ⟨_,rfl,rfl,rfl⟩
   exact ⟨_,rfl,J _ _ ⟨rfl,rfl⟩⟩
 rintro b _ ⟨rfl,rfl⟩
 refine ⟨fun h=>(by cases h),fun _=>⟨s,bA (.refl _ _),fun h=>(by have:=dG h;omega),fun _=>bN ?_⟩⟩
 obtain ⟨aw,Ag,hm,Ah,u5⟩:=NN ag nG
 refine ⟨⟨some ⟨ag.heap.size,0,none⟩,4,4⟩,aw,Ag,p.kind,(ak.ext Ah).cell,?_⟩
 have sV:IntKind.wrap .u8 (p.kind:Int)=(((UInt8.ofNat p.kind).toNat:Nat):Int):=by rw[NA (by omega),R1 (by omega) (by omega)]
 rw[sV]
 have ae:=Src.new (T:=ah.uint8) (sz:=1) aw (bo [1,UInt8.ofNat p.kind]) 2 rfl
 have R2:=iP aw (.cells (bo [1,UInt8.ofNat p.kind]).toArray ah.uint8)
 obtain ⟨aS,nh⟩:∃aS,aS=aw.alloc (.cells (bo [1,UInt8.ofNat p.kind]).toArray ah.uint8):=⟨_,rfl⟩
 show ay (aw.alloc (.cells (bo [1,UInt8.ofNat p.kind]).toArray ah.uint8)) _
 rw[←nh] at ae R2⊢
 refine bN ?_
 have u6:=Src.new (T:=ah.cn) (sz:=1) aS [.slice (some ⟨ag.heap.size,0,none⟩) 4 4, .slice (some ⟨aw.heap.size,0,none⟩) 2 2] 2 rfl
 have yp:=iP aS (.cells #[.slice (some ⟨ag.heap.size,0,none⟩) 4 4, .slice (some ⟨aw.heap.size,0,none⟩) 2 2] ah.cn)
 obtain ⟨bp,Hq⟩:∃bp,bp=aS.alloc (.cells #[.slice (some ⟨ag.heap.size,0,none⟩) 4 4, .slice (some ⟨aw.heap.size,0,none⟩) 2 2] ah.cn):=⟨_,rfl⟩
 have u6:Src 1 bp ⟨some ⟨aS.heap.size,0,none⟩,2,2⟩ [.slice (some ⟨ag.heap.size,0,none⟩) 4 4, .slice (some ⟨aw.heap.size,0,none⟩) 2 2]:=by rw[Hq];exact u6
 rw[←Hq] at yp⊢
 have tQ:Ext ag bp:=Ah.trans (R2.trans yp)
 refine bN ((NK (s:=⟨some ⟨aS.heap.size,0,none⟩,2,2⟩) [((⟨some ⟨ag.heap.size,0,none⟩,4,4⟩:aa),nG),(⟨some ⟨aw.heap.size,0,none⟩,2,2⟩,[1,UInt8.ofNat p.kind])] u6 ?_ (by simp[jg,nG]) (by simp)).use ?_)
 · intro q J
   simp only[fZ,mT,mU] at J
   rcases J with rfl|rfl
   · exact hm.ext (R2.trans yp)
   · exact ae.ext yp
 rintro _ bB ⟨bH,rfl,yq,ji,aii⟩
 have qJ:=tQ.trans ji
 have lV:jg [((⟨some ⟨ag.heap.size,0,none⟩,4,4⟩:aa),nG),(⟨some ⟨aw.heap.size,0,none⟩,2,2⟩,[1,UInt8.ofNat p.kind])]=nG++ [1,UInt8.ofNat p.kind]:=by simp[jg]
 rw[lV] at yq
 refine ⟨bH,rfl,s,bA qJ,?_⟩
 rw[wC (n:=((s.len:Nat):Int)) (by omega) (by omega),wC (n:=(no:Int)) (by omega) (by omega)]
 refine (o1 yq.src (n:=s.len) (k:=2) (by simp[nG]) (by show _<18446744073709551616;omega) ⟨by decide,by decide⟩).use ?_
 rintro _ bf ⟨cK,rfl,u7,ky,Cw⟩
 have nI:=qJ.trans ky
 refine ⟨cK,rfl,(o1 u7.src (n:=no) (k:=4) (by simp[nG,oh]) (by show _<18446744073709551616;omega) ⟨by decide,by decide⟩).use ?_⟩
 rintro _ a7 ⟨hC,rfl,Hr,eR,yr⟩
 have sh:=nI.trans eR
 refine ⟨hC,rfl,_,aV sh,(o1 Hr.src (n:=p.gen) (k:=8) (by simp[nG,oh]) (by show _<18446744073709551616;omega) ⟨by decide,by decide⟩).use ?_⟩
 rintro _ bS ⟨ez,rfl,s0,f_,X5⟩
 have Cx:=sh.trans f_
 have u9:nG++ [1,UInt8.ofNat p.kind]++gB s.len 2++gB no 4++gB p.gen 8=ki no p:=by rw[gv];simp[ki]
 rw[u9] at s0
 refine ⟨ez,rfl,eN (fun t w'=>b3 1 ah.uint8 w' t (bo (ki no p++(List.replicate 4 0++kv p)))∧Ext ag w'∧oG w t) (fun q J=> ?_) ?_⟩
 · have bD:=dT bS
   have X6:=Cx.trans bD
   have Ai:IntKind.wrap .i64 (232-((s.len:Nat):Int))=((232-s.len:Nat):Int):=by rw[cz (by omega) (by omega)];omega
   refine bN ⟨fun _=>False,id,s,bA X6,id,s,bA X6,?_⟩
   rw[Ai]
   simp only[g9,show Int.toNat 4=4 from rfl]
   rw[X1,X1]
   have fin:∀ (bY Aj:World) (dx pD:aa),Ext bS Aj→Src 1 Aj dx (bo (List.replicate 4 0))→Src 1 Aj pD (bo (List.replicate (232-s.len) 0))→
       Calls Tryz.prog F.sZ #[.slice (some ⟨Aj.heap.size,0,none⟩) 4 4] (Aj.alloc (.cells #[.slice ez.a ez.len ez.cap, .slice dx.a dx.len dx.cap, .slice s.a s.len s.cap, .slice pD.a pD.len pD.cap] ah.cn)) fun R3 dy=>∃h5:aa,R3= .returned (.slice h5.a h5.len h5.cap)∧q h5 dy:=by
     intro bY Aj dx pD NO U ad
     have ly:=iP Aj (.cells #[.slice ez.a ez.len ez.cap, .slice dx.a dx.len dx.cap, .slice s.a s.len s.cap, .slice pD.a pD.len pD.cap] ah.cn)
     refine (NK (s:=⟨some ⟨Aj.heap.size,0,none⟩,4,4⟩) [(ez,ki no p),(dx,List.replicate 4 0),(s,p.body),(pD,List.replicate (232-s.len) 0)] (Src.new Aj _ 4 rfl) ?_ (by simp[jg,Cr];omega) (by simp)).use ?_
     · intro x af
       simp only[fZ,mT,mU] at af
       rcases af with rfl|rfl|rfl|rfl
       · exact s0.src.ext (NO.trans ly)
       · exact U.ext ly
       · exact aj.ext ((bG.trans (Cx.trans NO)).trans ly)
       · exact ad.ext ly
     · rintro _ bR ⟨fi,rfl,bE,af,aG⟩
       refine ⟨fi,rfl,J _ _ ⟨?_,(Cx.trans NO).trans (ly.trans af),aG.mono (bG.trans ((Cx.trans NO).trans ly)).size⟩⟩
       have e:jg [(ez,ki no p),(dx,List.replicate 4 0),(s,p.body),(pD,List.replicate (232-s.len) 0)]=ki no p++(List.replicate 4 0++kv p):=by simp[jg,kv,gv]
       rwa[e] at bE
   refine ⟨⟨⟨by decide,by decide,by decide,by decide⟩,bN ⟨iP _ _,⟨by omega,Int.le_refl _,by omega,by omega⟩,bN ⟨iP _ _,bN ?_⟩⟩⟩,⟨⟨by omega,Int.le_refl _,by omega,by omega⟩,bN ⟨iP _ _,⟨by decide,by decide,by decide,by decide⟩,bN ⟨iP _ _,bN ?_⟩⟩⟩⟩
   · refine fin bS _ ⟨some ⟨bS.drew.heap.size,0,none⟩,4,4⟩ ⟨some ⟨(bS.drew.alloc _).heap.size,0,none⟩,232-s.len,232-s.len⟩ (bD.trans ((iP _ _).trans (iP _ _))) (Src.ext (Src.new _ _ _ (by simp[bo])) (iP _ _)) (Src.new _ _ _ (by simp[bo]))
   · refine fin bS _ ⟨some ⟨(bS.drew.alloc _).heap.size,0,none⟩,4,4⟩ ⟨some ⟨bS.drew.heap.size,0,none⟩,232-s.len,232-s.len⟩ (bD.trans ((iP _ _).trans (iP _ _))) (Src.new _ _ _ (by simp[bo])) (Src.ext (Src.new _ _ _ (by simp[bo])) (iP _ _))
 rintro t bY ⟨oH,J3,Cy⟩
 have ni:t.len=256:=by
   have:=Ae oH
   rw[this];simp[Cr,NI aW]
 have bD:=dT bY
 refine bN ⟨fun _=>False,⟨by decide,by omega⟩,(u3 (oH.src.ext bD) oH.2.1 (by simp[Cr,NI aW])).use ?_⟩
 rintro _ bR ⟨rfl,kj⟩
 have es:sumOf (ki no p++(List.replicate 4 0++kv p))=qI (ki no p++kv p):=by
   unfold sumOf
   rw[Ad (Cr no p),←eI,drop_left' (by simp[Cr])]
 rw[es]
 have Cl:=RU (ki no p++kv p)
 refine ⟨_,rfl,fun _=>False,?_⟩
 rw[wC (by omega) (by omega)]
 refine (o1 (s:=⟨none,0,0⟩) (l:=[]) (n:=qI (ki no p++kv p)) (k:=4) (b3.none 1 ah.uint8 bR).src (by simp) (by show _<18446744073709551616;omega) ⟨by decide,by decide⟩).use ?_
 rintro _ cf ⟨dX,rfl,Hs,nj,aij⟩
 rw[rl] at Hs
 have X7:=bD.trans (kj.trans nj)
 have X8:=oH.ext X7
 have X9:=Ae Hs
 rw[oh] at X9
 obtain ⟨b,c,ab,jh,ec,_⟩:∃b c,t.a=some ⟨b,0,none⟩∧cr cf b c ah.uint8∧c.size=t.cap*1∧c.toList.take (t.len*1)=bo (ki no p++(List.replicate 4 0++kv p)):=by
   rcases X8.2.2.2 with ⟨_,al⟩|⟨b,c,U,ad,au,aH⟩
   · have:=oH.2.1;omega
   · exact ⟨b,c,U,ad,au,aH⟩
 have aik:bh t.a 1 (Int.toNat 20) t.cap=some ⟨b,20,none⟩:=by
   rw[ab,show Int.toNat 20=20 from rfl,NP (by have:=oH.2.1;omega)]
 have auN:=oH.2.1
 refine ⟨dX,rfl,_,_,by rw[aik];exact ahL (by kernel_rfl) Hs.src (by rw[X9];show 4≤t.len-20;omega) (jh.dC _ _ (by rw[ku,oh];omega) (yk _)),t,rfl,?_,?_,Cy⟩
 · have:=b3.aie X8 ab (o:=20) (us:=bo (gB (qI (ki no p++kv p)) 4)) (by rw[ku,oh];omega)
   have e:(bo (ki no p++(List.replicate 4 0++kv p))).take 20++bo (gB (qI (ki no p++kv p)) 4)++(bo (ki no p++(List.replicate 4 0++kv p))).drop (20+(bo (gB (qI (ki no p++kv p)) 4)).length)=bo (o2 no p):=by
     rw[ku,oh]
     exact aif (Cr no p) (by simp)
   rwa[e] at this
 · refine Ext.gA (bG.trans (J3.trans X7)) (ao.Aa (.refl _ _) _ 0) fun k ae=> ?_
   subst ae
   exact Cy _ ⟨_,ab,rfl⟩
end
section
theorem rv {s:aa} {l:List UInt8} {w:World} (aj:Src 1 w s (bo l)) (al:s.len≤s.cap) {a k:Nat} {e:Int} (he:e=((a+k:Nat):Int)) (ae:1≤k∧k≤8) (aU:a+k≤l.length) (az:l.length≤1000):
   aO Tryz.prog F.rv #[.slice s.a s.len s.cap, .int .i64 a, .int .i64 e] w (fun v w'=>v= .int .u64 (jw l a k:Nat)∧w=w'):=by
 subst he
 refine W.ail s a ((a+k:Nat):Int) w _ ?_
 (delta W.rv NQ aD;dsimp only)
 rw[cz (by omega) (by omega),show (((a+k:Nat):Int)-(a:Int))=(k:Int) by omega]
 refine (sX aj al ae aU (by omega)).use ?_
 rintro _ _ ⟨rfl,rfl⟩
 exact ⟨_,_,rfl,rfl,rfl⟩
theorem yt {s:aa} {l:List UInt8} {w:World} (aj:Src 1 w s (bo l)) (az:l.length≤1000):
   aO Tryz.prog F.yt #[.slice s.a s.len s.cap] w (fun v w'=>v= .bool (l.all fun c=>c==0)∧w=w'):=by
 have gv:=len8 aj
 refine W.aim s w _ ?_
 (delta W.yt aA a6 iE aD;dsimp only)
 refine ⟨fun i w'=>∃j:Nat,i=j∧j≤l.length∧w=w'∧∀ (k:Nat) (ae:k<l.length),k<j→l[k]=0,fun i _=>((l.length:Int)-i).toNat,⟨0,rfl,fm _,rfl,fun k ae h=>by omega⟩,?_⟩
 rintro _ _ ⟨j,rfl,a8,rfl,fw⟩
 refine ⟨fun ba=> ?_,fun ck=> ?_⟩
 · have ba:j<l.length:=by have:=dG ba;omega
   obtain ⟨A,ax,ab,kR⟩:=aj.at (Hk ba)
   refine ⟨A,ax,ab,_,kR,fun c5=> ?_,fun heq=> ?_⟩
   · refine ⟨?_,rfl⟩
     have:(l.all fun c=>c==0)=false:=by
       rw[List.all_eq_false]
       refine ⟨l[j],fh _,fun h=> ?_⟩
       have h:=eq_of_beq h
       rw[h] at c5
       simp at c5
     rw[this]
   · have b7:l[j]=0:=by
       have:(((l[j]).toNat:Nat):Int)=0:=by simpa using heq
       exact UInt8.toNat_inj.1 (by show (l[j]).toNat=0;omega)
     rw[cz (n:=(j:Int)+1) (by omega) (by omega)]
     refine ⟨⟨j+1,by omega,by omega,rfl,fun k ae h=> ?_⟩,?_⟩
     · rcases g8 k j with U|U
       · exact fw k ae U
       · have:k=j:=by omega
         subst this;exact b7
     · show ((l.length:Int)-((j:Int)+1)).toNat<((l.length:Int)-(j:Int)).toNat
       omega
 · have ck:j=l.length:=by have:=eW ck;omega
   subst ck
   refine ⟨?_,rfl⟩
   have:(l.all fun c=>c==0)=true:=by
     rw[G4]
     intro c al
     obtain ⟨k,ae,rfl⟩:=mS al
     rw[fw k ae ae];rfl
   rw[this]
def X_ (kind gen:Int) (s:aa):Value:= .agg #[.int .i64 kind, .int .u64 gen, .slice s.a s.len s.cap]
def NR (r:Except Int tO) (w w':World) (v:Value):Prop:=
 match r with
 | .ok p=>∃s:aa,v= .tuple #[X_ p.kind p.gen s, .int .i64 0]∧b3 1 ah.uint8 w' s (bo p.body)∧oG w s
 | .error e=>v= .tuple #[X_ 0 0 ⟨none,0,0⟩, .int .i64 e]
theorem Ya {w':World} {h:Nat} {vs:List Value} (n g:Int) (s:aa) (ak:Var w' h vs ah.J4) (az:vs.length=3) {K:Int→Int→aa→World→Prop} (bu:∀aw,ao (fun q=>q=h) w' aw→K n g s aw):
   c2 w' ⟨h,0,none⟩ [.int .i64 n, .int .u64 g, .slice s.a s.len s.cap]∧(3:Nat)=3∧ay (setCells w' ⟨h,0,none⟩ 0 [.int .i64 n, .int .u64 g, .slice s.a s.len s.cap]) fun aw=>
     ∃bm:Int,aw.cell? ⟨h,0,none⟩=some (.int .i64 bm)∧∃fI:Int,aw.cell? (Addr.add ⟨h,0,none⟩ 1)=some (.int .u64 fI)∧∃bH:aa,aw.cell? (Addr.add ⟨h,0,none⟩ 2)=some (.slice bH.a bH.len bH.cap)∧K bm fI bH aw:=by
 refine ⟨ak.dC (by rw[az];rfl) ?_,rfl,eo ak (us:=[.int .i64 n, .int .u64 g, .slice s.a s.len s.cap]) (by rw[az];rfl) rfl fun aw gR al _=> ?_⟩
 · intro v ak
   simp only[fZ,mT,mU] at ak
   rcases ak with rfl|rfl|rfl<;>trivial
 · exact ⟨n,gR.cell,g,by rw[aX];exact gR.cell,s,by rw[aX];exact gR.cell,bu aw al⟩
theorem yu {s:aa} {l:List UInt8} {w:World} (aj:Src 1 w s (bo l)) (al:s.len≤s.cap) (az:l.length≤1000) (no:Int):
   aO Tryz.prog F.yu #[.int .i64 no, .slice s.a s.len s.cap] w (fun v w'=>NR (mn no l) w w' v∧Ext w w'):=by
 have gv:=len8 aj
 refine W.ain no s w _ ?_
 (delta W.yu z3 aA ai bK kT aq R4 a6 iE ng J5 bd aD E7;dsimp only)
 refine cx (vs:=[.int .i64 0, .int .u64 0, .slice none 0 0]) rfl fun ag ak bG _=> ?_
 have out:∀ (w':World) (e:Int),Ext ag w'→mn no l= .error e→
     c2 w' ⟨w.heap.size,0,none⟩ [.int .i64 0, .int .u64 0, .slice none 0 0]∧(3:Nat)=3∧ay (setCells w' ⟨w.heap.size,0,none⟩ 0 [.int .i64 0, .int .u64 0, .slice none 0 0]) fun aw=>
     ∃bm:Int,aw.cell? ⟨w.heap.size,0,none⟩=some (.int .i64 bm)∧∃fI:Int,aw.cell? (Addr.add ⟨w.heap.size,0,none⟩ 1)=some (.int .u64 fI)∧∃bH:aa,aw.cell? (Addr.add ⟨w.heap.size,0,none⟩ 2)=some (.slice bH.a bH.len bH.cap)∧
       (fun v w'=>NR (mn no l) w w' v∧Ext w w') (.tuple #[.agg #[.int .i64 bm, .int .u64 fI, .slice bH.a bH.len bH.cap], .int .i64 e]) aw:=by
   intro w' e af he
   refine Ya 0 0 ⟨none,0,0⟩ (ak.ext af) rfl (K:=fun bm fI bH aw=>(fun v w'=>NR (mn no l) w w' v∧Ext w w') (.tuple #[.agg #[.int .i64 bm, .int .u64 fI, .slice bH.a bH.len bH.cap], .int .i64 e]) aw) fun aw u_=>⟨?_,Ext.fb (bG.trans af) u_ (cR _)⟩
   rw[he];rfl
 refine ⟨fun h=>out _ _ (.refl _ _) ?_,fun h=> ?_⟩
 · have h:(s.len:Int)≠256:=by simpa using h
   unfold mn
   rw[if_pos (by omega)]
 have h:(s.len:Int)=256:=by simpa using h
 have aio:l.length=256:=by omega
 have kO:=aj.ext bG
 have aip:=Cs kO al (lo:=0) (hi:=4) (by omega) (by omega)
 have aiq:Src 1 ag ⟨bh s.a 1 0 s.cap,4-0,s.cap-0⟩ (((l.take 4).map fun b=>((b.toNat:Nat):Int)).map (.int .u8)):=by
   rw[EP];exact aip
 have Yb:=XO (src:=ah.cn) (dst:=ah.string) (by kernel_rfl) (by kernel_rfl) aiq
 have o3:(((l.take 4).map fun b=>((b.toNat:Nat):Int)).map fun n=>UInt8.ofNat n.toNat)=l.take 4:=by
   rw[EP]
   have:((fun n:Int=>UInt8.ofNat n.toNat)∘fun b:UInt8=>((b.toNat:Nat):Int))=id:=by funext b;simp
   rw[this,List.map_id]
 rw[o3] at Yb
 refine ⟨⟨by decide,by omega⟩,S (l.take 4),ag,Yb,?_⟩
 have air:(ByteArray.toList (S (l.take 4))==ByteArray.toList (ByteArray.mk #[83,84,78,67]))=decide (l.take 4=nG):=by
   rw[show (ByteArray.mk #[83,84,78,67])=S nG from rfl,Cz]
   rw[oX];simp
 rw[air]
 refine ⟨fun h=>out _ _ (.refl _ _) ?_,fun h=> ?_⟩
 · have h:l.take 4≠nG:=by simpa using h
   unfold mn
   rw[if_neg (by omega),if_pos h]
 have hm:l.take 4=nG:=by simpa using h
 obtain ⟨ais,NS,auO,yv⟩:=kO.at (Hk (l:=l) (i:=4) (by omega))
 have auP:s.len=256:=by omega
 refine ⟨ais,NS,⟨by decide,by omega⟩,_,yv,fun h=>out _ _ (.refl _ _) ?_,fun h=> ?_⟩
 · have h:(((l[4]'(by omega)).toNat:Nat):Int)≠1:=by simpa using h
   unfold mn
   rw[if_neg (by omega),if_neg (by simp[hm]),if_pos (by
     intro e
     apply h
     rw[p6,gH (by omega)] at e
     have e:(l[4]'(by omega))=1:=e
     rw[e];rfl)]
 have aH:l.getD 4 0=1:=by
   have h:(((l[4]'(by omega)).toNat:Nat):Int)=1:=by simpa using h
   rw[p6,gH (by omega)]
   exact UInt8.toNat_inj.1 (by show (l[4]'(by omega)).toNat=1;omega)
 refine (u3 kO al aio).use ?_
 rintro _ aw ⟨rfl,cB⟩
 have mB:=kO.ext cB
 refine ⟨_,rfl,(rv mB al (a:=20) (k:=4) (e:=24) rfl (by decide) (by omega) az).use ?_⟩
 rintro _ _ ⟨rfl,rfl⟩
 have Yc:sumOf l<4294967296:=RU _
 rw[wC (n:=((sumOf l:Nat):Int)) (by omega) (by omega)]
 refine ⟨_,rfl,fun h=>out _ _ cB ?_,fun h=> ?_⟩
 · have h:((sumOf l:Nat):Int)≠((jw l 20 4:Nat):Int):=by simpa using h
   unfold mn
   rw[if_neg (by omega),if_neg (by simp[hm]),if_neg (fun h=>h aH),if_pos (by omega)]
 have CA:sumOf l=jw l 20 4:=by
   have h:((sumOf l:Nat):Int)=((jw l 20 4:Nat):Int):=by simpa using h
   omega
 refine (rv mB al (a:=6) (k:=2) (e:=8) rfl (by decide) (by omega) az).use ?_
 rintro _ _ ⟨rfl,rfl⟩
 have auQ:jw l 6 2<65536:=JY 2 _ (by simp;omega)
 obtain ⟨ait,iQ,NT,lW⟩:=mB.at (Hk (l:=l) (i:=5) (by omega))
 have cU:l.getD 5 0=l[5]'(by omega):=by rw[p6,gH (by omega)];rfl
 have auR:=G3 (l[5]'(by omega))
 refine ⟨_,rfl,ait,iQ,⟨by decide,by omega⟩,_,lW,?_⟩
 rw[cz (n:=(((l[5]'(by omega)).toNat:Nat):Int)) (by omega) (by omega),cz (n:=((jw l 6 2:Nat):Int)) (by omega) (by omega)]
 refine Calls.mono (W.X4 (((l[5]'(by omega)).toNat:Nat):Int) aw (fun v w'=>v= .bool (decide (1≤(l[5]'(by omega)).toNat∧(l[5]'(by omega)).toNat≤4))∧aw=w') ⟨?_,rfl⟩) ?_
 · have e:(decide ((((l[5]'(by omega)).toNat:Nat):Int)≥1)&&decide ((((l[5]'(by omega)).toNat:Nat):Int)≤4))=decide (1≤(l[5]'(by omega)).toNat∧(l[5]'(by omega)).toNat≤4):=by
     rw[oX]
     simp only[jL,fx]
     omega
   rw[e]
 rintro _ _ ⟨_,rfl,rfl,rfl⟩
 have oI:24+jw l 6 2≤256→True:=fun _=>trivial
 refine ⟨_,rfl,eN (fun b w'=>b=decide (¬(1≤(l[5]'(by omega)).toNat∧(l[5]'(by omega)).toNat≤4)∨232<jw l 6 2∨(l.drop (24+jw l 6 2)).all (fun c=>c==0)=false)∧aw=w') (fun q J=>⟨fun U=>J _ _ ⟨?_,rfl⟩,fun U=> ?_⟩) ?_⟩
 · refine (iB ?_).symm
   simp only[wu,zX,tL,fx] at U
   rcases U with U|U
   · exact .inl U
   · exact .inr (.inl (by omega))
 · simp only[Nj,Bool.not_eq_false',tL,fx] at U
   have aiu:jw l 6 2≤232:=by omega
   rw[cz (n:=24+((jw l 6 2:Nat):Int)) (by omega) (by omega)]
   refine ⟨⟨by omega,by omega⟩,?_⟩
   have R5:Int.toNat (24+((jw l 6 2:Nat):Int))=24+jw l 6 2:=by omega
   rw[R5]
   have Ak:=Cs mB al (lo:=24+jw l 6 2) (hi:=s.len) (by omega) (by omega)
   rw[g3 (l:=l.drop (24+jw l 6 2)) (by rw[fF];omega)] at Ak
   refine (yt Ak (by rw[fF];omega)).use ?_
   rintro _ _ ⟨rfl,rfl⟩
   refine ⟨_,rfl,J _ _ ⟨?_,rfl⟩⟩
   cases fw:(l.drop (24+jw l 6 2)).all (fun c=>c==0) with
   |true=>exact (sS (by rintro (ad|ad|ad)<;>first|exact ad U.1|omega|cases ad)).symm
   |false=>exact (iB (.inr (.inr rfl))).symm
 rintro b _ ⟨rfl,rfl⟩
 refine ⟨fun h=>out _ _ cB ?_,fun h=> ?_⟩
 · have h:=dG h
   unfold mn
   rw[if_neg (by omega),if_neg (by simp[hm]),if_neg (fun h=>h aH),if_neg (by omega),if_pos (by rw[cU];exact h)]
 have ae:=eW h
 have lV:¬(¬(1≤(l.getD 5 0).toNat∧(l.getD 5 0).toNat≤4)∨232<jw l 6 2∨(l.drop (24+jw l 6 2)).all (fun c=>c==0)=false):=by rw[cU];exact ae
 have aiu:jw l 6 2≤232:=by
   rcases g8 232 (jw l 6 2) with U|U
   · exact absurd (.inr (.inl U)) ae
   · exact U
 have auS:1≤(l[5]'(by omega)).toNat∧(l[5]'(by omega)).toNat≤4:=Rp fun h=>ae (.inl h)
 refine Calls.mono (W.X3 no aw (fun v w'=>v= .bool (decide (0≤no∧no<1600))∧aw=w') ⟨by simp[ge_iff_le],rfl⟩) ?_
 rintro _ _ ⟨_,rfl,rfl,rfl⟩
 have auT:jw l 8 4<4294967296:=JY 4 _ (by simp;omega)
 refine ⟨_,rfl,eN (fun b w'=>b=decide (¬(0≤no∧no<1600)∨(jw l 8 4:Int)≠no)∧aw=w') (fun q J=>⟨fun U=>J _ _ ⟨?_,rfl⟩,fun U=> ?_⟩) ?_⟩
 · refine (iB ?_).symm
   simp only[zX,tL] at U
   exact .inl U
 · simp only[Bool.not_eq_false',fx] at U
   refine (rv mB al (a:=8) (k:=4) (e:=12) rfl (by decide) (by omega) az).use ?_
   rintro _ _ ⟨rfl,rfl⟩
   refine ⟨_,rfl,J _ _ ⟨?_,rfl⟩⟩
   rw[wC (n:=no) (by omega) (by omega),oX,fx,bne_iff_ne]
   exact ⟨fun h=> .inr h,fun h=>h.resolve_left (fun ad=>ad U)⟩
 rintro b _ ⟨rfl,rfl⟩
 refine ⟨fun h=>out _ _ cB ?_,fun h=> ?_⟩
 · have h:=dG h
   unfold mn
   rw[if_neg (by omega),if_neg (by simp[hm]),if_neg (fun h=>h aH),if_neg (by omega),if_neg lV,if_pos h]
 have aiv:=eW h
 have ed:mn no l= .ok ⟨(l.getD 5 0).toNat,jw l 12 8,(l.drop 24).take (jw l 6 2)⟩:=by
   unfold mn
   rw[if_neg (by omega),if_neg (by simp[hm]),if_neg (fun h=>h aH),if_neg (by omega),if_neg lV,if_neg aiv]
 refine (ym mB al (a:=24) (k:=jw l 6 2) (by omega) (by omega)).use ?_
 rintro _ aS ⟨b1,rfl,si,eS,wF⟩
 have bD:=dT aS
 have ee:=cB.trans (eS.trans bD)
 have va:=kO.ext ee
 obtain ⟨aiw,NU,auU,qK⟩:=va.at (Hk (l:=l) (i:=5) (by omega))
 refine ⟨b1,true,rfl,bN ⟨fun _=>False,aiw,NU,⟨by decide,by omega⟩,id,_,qK,(rv va al (a:=12) (k:=8) (e:=20) rfl (by decide) (by omega) az).use ?_⟩⟩
 rintro _ _ ⟨rfl,rfl⟩
 rw[cz (n:=(((l[5]'(by omega)).toNat:Nat):Int)) (by omega) (by omega)]
 refine ⟨_,rfl, .refl _ _,Ya _ _ b1 (ak.ext ee) rfl (K:=fun bm fI bH aw=>(fun v w'=>NR (mn no l) w w' v∧Ext w w') (.tuple #[.agg #[.int .i64 bm, .int .u64 fI, .slice bH.a bH.len bH.cap], .int .i64 0]) aw) fun bp u_=>⟨?_,Ext.fb (bG.trans ee) u_ (cR _)⟩⟩
 rw[ed]
 refine ⟨b1,by rw[cU];rfl,(si.ext bD).an u_ fun k ae e=> ?_,wF.mono (bG.trans cB).size⟩
 have:=wF k ae
 have:=ak.lt
 have:=cB.size
 subst e
 omega
end
section
theorem Yd {P:Program} {w:World}:∀ (l:List UInt8) (a:Addr) (acc:ByteArray),(∀j x,l[j]? =some x→w.cell? (a.add j)=some (.int .u8 ((x.toNat:Nat):Int)))→
   (Extern.Bytes.loadBytes a l.length acc).run P w= .ok ⟨acc.data++l.toArray⟩ w
 | [],a,acc,_=>by simp[Extern.Bytes.loadBytes]
 |x::l,a,acc,h=>by
   have b7:=h 0 x rfl
   rw[add_zero'] at b7
   have dr:=Yd (P:=P) l (a.add 1) (acc.push x) (fun j y b8=>by
     rw[add_add,Nat.add_comm]
     exact h (j+1) y (by simpa using b8))
   have af:((x.toNat:Nat):Int).toNat.toUInt8=x:=ahI x
   simp only[k8,Extern.Bytes.loadBytes,Sem.run_bind,R6 b7,Result.andThen,af]
   rw[dr]
   congr 2
   simp[ByteArray.push]
theorem Ye {P:Program} {w:World} {s:aa} {l:List UInt8} (h:Src 1 w s (bo l)):(Extern.Bytes.bytesOf (.slice s.a s.len s.cap)).run P w= .ok (S l) w:=by
 cases aj:s.a with
 |none=>
   have b7:l=[]:=by
     have:=h.nil aj
     cases l with
     |nil=>rfl
     |cons a l=>simp[bo] at this
   subst b7
   rfl
 |some A=>
   have aN:=h.rd A aj
   rw[mi] at aN
   have:=Yd (P:=P) (w:=w) l A .empty (fun j x a8=>by
     have:=Ho aN (j:=j) (v:= .int .u8 ((x.toNat:Nat):Int)) (by simp[bo,a8])
     simpa using this)
   show (Extern.Bytes.loadBytes A s.len .empty).run P w=_
   rw[len8 h,this]
   congr 1
   show (ByteArray.mk (ByteArray.empty.data++l.toArray))=ByteArray.mk l.toArray
   congr 1
   exact Array.empty_append ..
theorem Yf:∀a b:Key,Lib.compareBytes a b=iC a b
 | [],[]=>rfl
 | [],_::_=>rfl
 |_::_,[]=>rfl
 |a::x,b::y=>by
   simp only[Lib.compareBytes,iC,UInt8.lt_iff_toNat_lt,Yf x y]
theorem mX {s t:aa} {l m:Key} {w:World} (aj:Src 1 w s (bo l)) (aR:Src 1 w t (bo m)):
   aO Tryz.prog F.mX #[.slice s.a s.len s.cap, .slice t.a t.len t.cap] w (fun v w'=>v= .int .i64 (iC l m)∧w=w'):=by
 refine W.aix s t w _ ?_
 unfold W.mX
 refine ⟨iC l m,w,?_,rfl,rfl⟩
 rw[run_callFunc_extern Tryz.func113 rfl rfl rfl rfl]
 have:(Extern.BytealgCompare.compare #[.slice s.a s.len s.cap, .slice t.a t.len t.cap]).run Tryz.prog w= .ok (.int .i64 (iC l m)) w:=by
   change Sem.run Tryz.prog (do pure (goInt (Extern.BytealgCompare.cmp (←Extern.Bytes.bytesOf (.slice s.a s.len s.cap)) (←Extern.Bytes.bytesOf (.slice t.a t.len t.cap))))) w=_
   simp only[Sem.run_bind,Ye aj,Ye aR,Result.andThen,Sem.run_pure]
   rw[Lib.cmp_eq]
   show Result.ok (goInt (Lib.compareBytes l m)) w=_
   rw[Yf];rfl
 rw[this]
 rfl
theorem wG {s:aa} {l:List UInt8} {w:World} (h:Src 1 w s (bo l)):Sem.run Tryz.prog (convert ah.cn ah.string (.slice s.a s.len s.cap)) w= .ok (.string (S l)) w:=by
 have oo:Src 1 w s ((l.map fun b=>((b.toNat:Nat):Int)).map (.int .u8)):=by rw[EP];exact h
 have:=XO (src:=ah.cn) (dst:=ah.string) (by kernel_rfl) (by kernel_rfl) oo
 rw[EP] at this
 have e:((fun n:Int=>UInt8.ofNat n.toNat)∘fun b:UInt8=>((b.toNat:Nat):Int))=id:=by funext b;simp
 rw[e,List.map_id] at this
 exact this
theorem yw {s t:aa} {l m:Key} {w:World} (aj:Src 1 w s (bo l)) (aR:Src 1 w t (bo m)):
   aO Tryz.prog F.yw #[.slice s.a s.len s.cap, .slice t.a t.len t.cap] w (fun v w'=>v= .bool (decide (l=m))∧w=w'):=by
 refine W.aiy s t w _ ?_
 unfold W.yw
 refine ⟨_,_,wG aj,_,_,wG aR,?_,rfl⟩
 rw[Cz]
 congr 1
 rw[oX];simp
def In (B:Nat→Prop) (w:World) (s:aa):Prop:=∀k,aQ s k→B k∧k<w.heap.size
def bL (B:Nat→Prop) (w:World) (t:aa) (l:Key):Prop:=Src 1 w t (bo l)∧t.len≤t.cap∧In B w t
def b2 (B:Nat→Prop) (w:World) (s:aa) (ls:List Key):Prop:=
 ∃ts:List aa,ts.length=ls.length∧Src 1 w s (ts.map pB)∧s.len≤s.cap∧In B w s∧∀ (i:Nat) (U:i<ts.length) (ad:i<ls.length),bL B w ts[i] ls[i]
def gX (ds:List Nat):List Value:=ds.map fun d=> .int .i64 ((d:Nat):Int)
def en (B:Nat→Prop) (w:World) (s:aa) (ds:List Nat):Prop:=Src 1 w s (gX ds)∧s.len≤s.cap∧In B w s
def b6 (B:Nat→Prop) (w:World) (s:aa) (ls:List Key):Prop:=
 ∃ts:List aa,ts.length=ls.length∧b3 1 ah.cn w s (ts.map pB)∧In B w s∧∀ (i:Nat) (U:i<ts.length) (ad:i<ls.length),bL B w ts[i] ls[i]∧∀k,aQ ts[i] k→¬aQ s k
def eL (B:Nat→Prop) (w:World) (s:aa) (ds:List Nat):Prop:=b3 1 ah.int w s (gX ds)∧In B w s
section
variable {B C:Nat→Prop} {w w':World} {s t:aa} {l:Key} {ls:List Key} {ds:List Nat}
theorem In.an {V:Nat→Prop} (h:In B w s) (al:ao V w w'):In B w' s:=fun k ae=>⟨(h k ae).1,lv (h k ae).2 al.size⟩
theorem In.bz (h:In B w s) (ab:∀k,k<w.heap.size→B k→C k):In C w s:=fun k ae=>⟨ab k (h k ae).2 (h k ae).1,(h k ae).2⟩
theorem bL.an {V:Nat→Prop} (h:bL B w t l) (al:ao V w w') (ab:∀k,B k→¬V k):bL B w' t l:=⟨h.1.an al fun k ae=>ab k (h.2.2 k ae).1,h.2.1,In.an h.2.2 al⟩
theorem bL.qL {V:Nat→Prop} (h:bL B w t l) (al:ao V w w') (ab:∀k,aQ t k→¬V k):bL B w' t l:=⟨h.1.an al ab,h.2.1,In.an h.2.2 al⟩
theorem bL.ext (h:bL B w t l) (al:Ext w w'):bL B w' t l:=bL.an h al fun _ _ h=>h
theorem bL.bz (h:bL B w t l) (ab:∀k,k<w.heap.size→B k→C k):bL C w t l:=⟨h.1,h.2.1,In.bz h.2.2 ab⟩
theorem b2.an {V:Nat→Prop} (h:b2 B w s ls) (al:ao V w w') (ab:∀k,B k→¬V k):b2 B w' s ls:=by
 obtain ⟨ts,U,ad,au,aH,aY⟩:=h
 exact ⟨ts,U,ad.an al fun k ae=>ab k (aH k ae).1,au,In.an aH al,fun i b9 iD=>bL.an (aY i b9 iD) al ab⟩
theorem b2.ext (h:b2 B w s ls) (al:Ext w w'):b2 B w' s ls:=b2.an h al fun _ _ h=>h
theorem b2.bz (h:b2 B w s ls) (ab:∀k,k<w.heap.size→B k→C k):b2 C w s ls:=by
 obtain ⟨ts,U,ad,au,aH,aY⟩:=h
 exact ⟨ts,U,ad,au,In.bz aH ab,fun i b9 iD=>bL.bz (aY i b9 iD) ab⟩
theorem en.an {V:Nat→Prop} (h:en B w s ds) (al:ao V w w') (ab:∀k,B k→¬V k):en B w' s ds:=⟨h.1.an al fun k ae=>ab k (h.2.2 k ae).1,h.2.1,In.an h.2.2 al⟩
theorem en.ext (h:en B w s ds) (al:Ext w w'):en B w' s ds:=en.an h al fun _ _ h=>h
theorem en.bz (h:en B w s ds) (ab:∀k,k<w.heap.size→B k→C k):en C w s ds:=⟨h.1,h.2.1,In.bz h.2.2 ab⟩
theorem b2.len (h:b2 B w s ls):s.len=ls.length:=by
 obtain ⟨ts,U,ad,_⟩:=h
 have:=ad.len
 rw[mj] at this;omega
theorem yx (ds:List Nat):(gX ds).length=ds.length:=by simp[gX]
theorem en.len (h:en B w s ds):s.len=ds.length:=by
 have:=h.1.len
 rw[yx] at this;omega
theorem b2.at (h:b2 B w s ls) {i:Nat} (hi:i<ls.length):∃ (A:Addr) (t:aa),s.a=some A∧((0:Int)≤(i:Int)∧(i:Int)<((s.len:Nat):Int))∧w.cell? (A.add (Int.toNat (i:Int)*1))=some (.slice t.a t.len t.cap)∧bL B w t ls[i]∧B A.block:=by
 obtain ⟨ts,U,ad,au,aH,aY⟩:=h
 obtain ⟨A,ax,ab,al⟩:=ad.at (i:=i) (v:=pB (ts[i]'(by omega))) (by simp[U,hi])
 exact ⟨A,ts[i]'(by omega),ax,ab,al,aY i (by omega) hi,(aH _ ⟨A,ax,rfl⟩).1⟩
theorem en.at (h:en B w s ds) {i:Nat} (hi:i<ds.length):∃A:Addr,s.a=some A∧((0:Int)≤(i:Int)∧(i:Int)<((s.len:Nat):Int))∧w.cell? (A.add (Int.toNat (i:Int)*1))=some (.int .i64 ((ds[i]:Nat):Int)):=by
 obtain ⟨A,ax,ab,al⟩:=h.1.at (i:=i) (v:= .int .i64 ((ds[i]:Nat):Int)) (by simp[gX,hi])
 exact ⟨A,ax,ab,al⟩
theorem b6.qM (h:b6 B w s ls):b2 B w s ls:=by
 obtain ⟨ts,U,ad,au,aH⟩:=h
 exact ⟨ts,U,ad.src,ad.2.1,au,fun i aY b9=>(aH i aY b9).1⟩
theorem eL.Ht (h:eL B w s ds):en B w s ds:=⟨h.1.src,h.1.2.1,h.2⟩
theorem b6.none (B:Nat→Prop) (w:World):b6 B w ⟨.none,0,0⟩ []:=⟨[],rfl,b3.none _ _ _,fun k ae=>(qF k ae).elim,fun i h=>by simp at h⟩
theorem eL.none (B:Nat→Prop) (w:World):eL B w ⟨.none,0,0⟩ []:=⟨b3.none _ _ _,fun k ae=>(qF k ae).elim⟩
theorem b2.none (B:Nat→Prop) (w:World):b2 B w ⟨.none,0,0⟩ []:=b6.qM (b6.none B w)
theorem en.none (B:Nat→Prop) (w:World):en B w ⟨.none,0,0⟩ []:=eL.Ht (eL.none B w)
theorem b6.an {V:Nat→Prop} (h:b6 B w s ls) (al:ao V w w') (ab:∀k,B k→¬V k):b6 B w' s ls:=by
 obtain ⟨ts,U,ad,au,aH⟩:=h
 exact ⟨ts,U,ad.an al fun k ae=>ab k (au k ae).1,In.an au al,fun i aY b9=>⟨bL.an (aH i aY b9).1 al ab,(aH i aY b9).2⟩⟩
theorem b6.ext (h:b6 B w s ls) (al:Ext w w'):b6 B w' s ls:=b6.an h al fun _ _ h=>h
theorem eL.an {V:Nat→Prop} (h:eL B w s ds) (al:ao V w w') (ab:∀k,B k→¬V k):eL B w' s ds:=⟨h.1.an al fun k ae=>ab k (h.2 k ae).1,In.an h.2 al⟩
theorem eL.ext (h:eL B w s ds) (al:Ext w w'):eL B w' s ds:=eL.an h al fun _ _ h=>h
theorem bL.some (h:bL B w t l) (az:l≠ []):∃A,t.a=some A:=by
 cases aU:t.a with
 |none=>
   have:=h.1.nil aU
   exfalso
   apply az
   cases l with
   |nil=>rfl
   |cons a l=>simp[bo] at this
 |some A=>exact ⟨A,rfl⟩
end
theorem Hu:p9 Tryz.prog ah.cM ah.cn 1 24:=⟨by kernel_rfl⟩
theorem J6:p9 Tryz.prog ah.ef ah.int 1 8:=⟨by kernel_rfl⟩
theorem NV (ts:List aa):∀v∈ts.map pB,Plain v:=by
 intro v ak
 obtain ⟨n,_,rfl⟩:=oa.1 ak
 trivial
theorem R7 (ds:List Nat):∀v∈gX ds,Plain v:=by
 intro v ak
 obtain ⟨n,_,rfl⟩:=oa.1 ak
 trivial
theorem vb {B:Nat→Prop} {w:World} {s:aa} {l:List UInt8} (h:Src 1 w s (bo l)) (az:l.length≤1000000) (fu:∀k,w.heap.size≤k→B k):
   aO Tryz.prog F.mm #[.slice s.a s.len s.cap] w (fun v w'=>∃ar:aa,v= .slice ar.a ar.len ar.cap∧bL B w' ar l∧Ext w w'∧oG w ar):=by
 refine (RK h az).mono ?_
 rintro _ w' ⟨ar,rfl,bE,af,aG⟩
 exact ⟨ar,rfl,⟨bE.src,bE.2.1,fun k ae=>⟨fu k (aG k ae),bE.lt k ae⟩⟩,af,aG⟩
theorem Yg {B:Nat→Prop} {w:World} {s t:aa} {ls:List Key} {l:Key} (bE:b6 B w s ls) (aR:bL B w t l) (hd:∀k,aQ t k→¬aQ s k) (aC:ls.length≤1000000) (fu:∀k,w.heap.size≤k→B k):
   ∃ (ar:aa) (w':World),Sem.run Tryz.prog (Builtin.append_ #[ah.cM,ah.cM] ah.cM #[.slice s.a s.len s.cap, .slice (some ⟨w.heap.size,0,none⟩) 1 1]) (w.alloc (.cells #[.slice t.a t.len t.cap] ah.cn))= .ok (.slice ar.a ar.len ar.cap) w'∧
     b6 B w' ar (ls++ [l])∧ao (aQ s) w w'∧(∀k,aQ ar k→aQ s k∨w.heap.size≤k):=by
 obtain ⟨ts,U,ad,au,aH⟩:=bE
 have gv:s.len=ls.length:=by have:=ad.1;rw[mj] at this;omega
 obtain ⟨ar,w',aB,aF,aJ,aM,cU⟩:=Hu.push (ey:=ah.cM) (w:=w) (s:=s) (xs:=[pB t]) rfl ad (fun v ak=>by rw[lR.1 ak];trivial) (by omega)
 refine ⟨ar,w',aB,⟨ts++ [t],by simp[U],?_,?_,fun i aY b9=> ?_⟩,aM,cU⟩
 · rw[oc];exact aF
 · intro k ae
   refine ⟨?_,aF.lt k ae⟩
   rcases cU k ae with h|h
   · exact (au k h).1
   · exact fu k h
 · have lz:∀ (x:aa),(∀k,aQ x k→k<w.heap.size)→(∀k,aQ x k→¬aQ s k)→∀k,aQ x k→¬aQ ar k:=fun x af cB k ae dW=>by
     rcases cU k dW with h|h
     · exact cB k ae h
     · have:=af k ae;omega
   have aiz:i<ts.length+1:=by simpa using aY
   rcases g8 i ts.length with h|h
   · obtain ⟨iD,oq⟩:=aH i h (by omega)
     simp only[zY h,zY (show i<ls.length by omega)]
     exact ⟨bL.qL iD aM oq,lz _ (fun k ae=>(iD.2.2 k ae).2) oq⟩
   · have:i=ts.length:=by omega
     subst this
     have e:(ts++ [t])[ts.length]'aY=t:=by simp
     have:(ls++ [l])[ts.length]'b9=l:=by rw[ER (by omega)];simp
     rw[this,e]
     exact ⟨bL.qL aR aM hd,lz _ (fun k ae=>(aR.2.2 k ae).2) hd⟩
theorem aiA {B:Nat→Prop} {w:World} {s:aa} {ds:List Nat} (d:Nat) (bE:eL B w s ds) (aC:ds.length≤1000000) (fu:∀k,w.heap.size≤k→B k):
   ∃ (ar:aa) (w':World),Sem.run Tryz.prog (Builtin.append_ #[ah.ef,ah.ef] ah.ef #[.slice s.a s.len s.cap, .slice (some ⟨w.heap.size,0,none⟩) 1 1]) (w.alloc (.cells #[.int .i64 ((d:Nat):Int)] ah.int))= .ok (.slice ar.a ar.len ar.cap) w'∧
     eL B w' ar (ds++ [d])∧ao (aQ s) w w'∧(∀k,aQ ar k→aQ s k∨w.heap.size≤k):=by
 have gv:s.len=ds.length:=by have:=bE.1.1;rw[yx] at this;omega
 obtain ⟨ar,w',aB,aF,aJ,aM,cU⟩:=J6.push (ey:=ah.ef) (w:=w) (s:=s) (xs:=[.int .i64 ((d:Nat):Int)]) rfl bE.1 (fun v ak=>by rw[lR.1 ak];trivial) (by omega)
 refine ⟨ar,w',aB,⟨by simpa[gX] using aF,fun k ae=>⟨?_,aF.lt k ae⟩⟩,aM,cU⟩
 rcases cU k ae with h|h
 · exact (bE.2 k h).1
 · exact fu k h
structure cg (B:Nat→Prop) (w:World) (n:aL) (K V D:aa):Prop where
 keys:b2 B w K n.keys
 vals:b2 B w V n.vals
 kids:en B w D n.kids
def g4 (n:aL) (K V D:aa):List Value:=[.bool n.leaf, .slice K.a K.len K.cap, .slice V.a V.len V.cap, .slice D.a D.len D.cap]
def fc (n:aL) (K V D:aa):Value:= .agg #[.bool n.leaf, .slice K.a K.len K.cap, .slice V.a V.len V.cap, .slice D.a D.len D.cap]
section
variable {B C:Nat→Prop} {w w':World} {n:aL} {K V D:aa}
theorem cg.an {W:Nat→Prop} (h:cg B w n K V D) (al:ao W w w') (ab:∀k,B k→¬W k):cg B w' n K V D:=⟨b2.an h.keys al ab,b2.an h.vals al ab,en.an h.kids al ab⟩
theorem cg.ext (h:cg B w n K V D) (al:Ext w w'):cg B w' n K V D:=cg.an h al fun _ _ h=>h
theorem cg.bz (h:cg B w n K V D) (ab:∀k,k<w.heap.size→B k→C k):cg C w n K V D:=⟨b2.bz h.keys ab,b2.bz h.vals ab,en.bz h.kids ab⟩
theorem cl {b:Nat} {T:TypeId} {leaf:Bool} (h:Var w b [.bool leaf, .slice K.a K.len K.cap, .slice V.a V.len V.cap, .slice D.a D.len D.cap] T):
   w.cell? ⟨b,0,none⟩=some (.bool leaf)∧w.cell? (Addr.add ⟨b,0,none⟩ 1)=some (.slice K.a K.len K.cap)∧w.cell? (Addr.add ⟨b,0,none⟩ 2)=some (.slice V.a V.len V.cap)∧w.cell? (Addr.add ⟨b,0,none⟩ 3)=some (.slice D.a D.len D.cap):=by
 rw[aX,aX,aX]
 exact ⟨h.cell,h.cell,h.cell,h.cell⟩
end
end
section
theorem aiB {B:Nat→Prop} {w:World} {s:aa} {ls:List Key} (h:b2 B w s ls) (aC:ls.length≤1000000):
   aO Tryz.prog F.CB #[.slice s.a s.len s.cap, .func (.func F.wH) #[] #[]] w (fun v w'=>v= .bool (ls.any fun v=>decide (24<v.length))∧w=w'):=by
 refine W.aiC s ⟨F.wH, #[], #[]⟩ w _ ?_
 (delta W.CB aV;dsimp only)
 have az:=b2.len h
 have vc:tR Tryz.prog F.wH:=⟨_,(Option.some_get (show (Tryz.prog.funcs[F.wH]?).isSome=true by kernel_rfl)).symm,by kernel_rfl,by kernel_rfl⟩
 refine Calls.mono (W.aiD s ⟨F.wH, #[], #[]⟩ w (fun v w'=>(∃i:Int,v= .int .i64 i∧(decide (i≥0))=(ls.any fun v=>decide (24<v.length)))∧w=w') ?_) ?_
 · (delta W.E_ aA a6 aq aD;dsimp only)
   refine ⟨fun i w'=>∃j:Nat,i=j∧j≤ls.length∧w=w'∧∀ (k:Nat) (ae:k<ls.length),k<j→(ls[k]).length≤24,fun i _=>((ls.length:Int)-i).toNat,⟨0,rfl,fm _,rfl,fun k ae h=>by omega⟩,?_⟩
   rintro _ _ ⟨j,rfl,a8,rfl,fw⟩
   refine ⟨fun ba=> ?_,fun ck=> ?_⟩
   · have ba:j<ls.length:=by have:=dG ba;omega
     obtain ⟨A,t,ax,ab,al,aR,_⟩:=b2.at h ba
     refine ⟨A,ax,ab,t,al,vc,?_⟩
     have ni:=len8 aR.1
     refine Calls.mono (W.aiE t w (fun v w'=>v= .bool (decide (24<(ls[j]).length))∧w=w') ⟨?_,rfl⟩) ?_
     · congr 1
       rw[oX,fx,fx];omega
     rintro _ _ ⟨_,rfl,rfl,rfl⟩
     refine ⟨_,rfl,fun ab=>⟨⟨j,rfl,?_⟩,rfl⟩,fun ab=> ?_⟩
     · have:(ls.any fun v=>decide (24<v.length))=true:=List.any_eq_true.2 ⟨_,fh ba,ab⟩
       rw[this];exact iB (by omega)
     · have ab:=eW ab
       rw[cz (n:=(j:Int)+1) (by omega) (by omega)]
       refine ⟨⟨j+1,by omega,by omega,rfl,fun k ae h=> ?_⟩,?_⟩
       · rcases g8 k j with U|U
         · exact fw k ae U
         · have:k=j:=by omega
           subst this;omega
       · show ((ls.length:Int)-((j:Int)+1)).toNat<((ls.length:Int)-(j:Int)).toNat
         omega
   · have ck:j=ls.length:=by have:=eW ck;omega
     subst ck
     refine ⟨⟨-1,rfl,?_⟩,rfl⟩
     have:(ls.any fun v=>decide (24<v.length))=false:=by
       rw[JM]
       intro x af
       obtain ⟨k,ae,rfl⟩:=mS af
       have:=fw k ae ae
       simp;omega
     rw[this];rfl
 · rintro _ _ ⟨_,rfl,⟨i,rfl,hi⟩,rfl⟩
   exact ⟨i,rfl,by rw[hi],rfl⟩
theorem aiF {B:Nat→Prop} {w:World} {s:aa} {ds:List Nat} (h:en B w s ds) (aC:ds.length≤1000000):
   aO Tryz.prog F.CC #[.slice s.a s.len s.cap, .func (.func F.wI) #[] #[]] w (fun v w'=>v= .bool (ds.any fun d=>decide (1600≤d))∧w=w'):=by
 refine W.aiG s ⟨F.wI, #[], #[]⟩ w _ ?_
 (delta W.CC aV;dsimp only)
 have az:=en.len h
 have vc:tR Tryz.prog F.wI:=⟨_,(Option.some_get (show (Tryz.prog.funcs[F.wI]?).isSome=true by kernel_rfl)).symm,by kernel_rfl,by kernel_rfl⟩
 refine Calls.mono (W.aiH s ⟨F.wI, #[], #[]⟩ w (fun v w'=>(∃i:Int,v= .int .i64 i∧(decide (i≥0))=(ds.any fun d=>decide (1600≤d)))∧w=w') ?_) ?_
 · (delta W.Fa aA a6 bK aD;dsimp only)
   refine ⟨fun i w'=>∃j:Nat,i=j∧j≤ds.length∧w=w'∧∀ (k:Nat) (ae:k<ds.length),k<j→ds[k]<1600,fun i _=>((ds.length:Int)-i).toNat,⟨0,rfl,fm _,rfl,fun k ae h=>by omega⟩,?_⟩
   rintro _ _ ⟨j,rfl,a8,rfl,fw⟩
   refine ⟨fun ba=> ?_,fun ck=> ?_⟩
   · have ba:j<ds.length:=by have:=dG ba;omega
     obtain ⟨A,ax,ab,al⟩:=en.at h ba
     refine ⟨A,ax,ab,_,al,vc,?_⟩
     refine Calls.mono (W.aiI ((ds[j]:Nat):Int) w (fun v w'=>v= .bool (decide (1600≤ds[j]))∧w=w') ⟨?_,rfl⟩) ?_
     · congr 1
       rw[oX,wu,fx,fx,fx];omega
     rintro _ _ ⟨_,rfl,rfl,rfl⟩
     refine ⟨_,rfl,fun ab=>⟨⟨j,rfl,?_⟩,rfl⟩,fun ab=> ?_⟩
     · have:(ds.any fun d=>decide (1600≤d))=true:=List.any_eq_true.2 ⟨_,fh ba,ab⟩
       rw[this];exact iB (by omega)
     · have ab:=eW ab
       rw[cz (n:=(j:Int)+1) (by omega) (by omega)]
       refine ⟨⟨j+1,by omega,by omega,rfl,fun k ae h=> ?_⟩,?_⟩
       · rcases g8 k j with U|U
         · exact fw k ae U
         · have:k=j:=by omega
           subst this;omega
       · show ((ds.length:Int)-((j:Int)+1)).toNat<((ds.length:Int)-(j:Int)).toNat
         omega
   · have ck:j=ds.length:=by have:=eW ck;omega
     subst ck
     refine ⟨⟨-1,rfl,?_⟩,rfl⟩
     have:(ds.any fun d=>decide (1600≤d))=false:=by
       rw[JM]
       intro x af
       obtain ⟨k,ae,rfl⟩:=mS af
       have:=fw k ae ae
       simp;omega
     rw[this];rfl
 · rintro _ _ ⟨_,rfl,⟨i,rfl,hi⟩,rfl⟩
   exact ⟨i,rfl,by rw[hi],rfl⟩
theorem Yh:∀ {l:List Key},(∀ (i:Nat) (h:i+1<l.length),cv l[i] l[i+1])→l.Pairwise cv
 | [],_=> .nil
 |a::l,h=>by
   have dr:=Yh (l:=l) fun i hi=>h (i+1) (by simpa using hi)
   refine r7.2 ⟨fun b ab=> ?_,dr⟩
   cases l with
   |nil=>simp at ab
   |cons c l=>
     have b7:cv a c:=h 0 (by simp)
     rcases fZ.1 ab with rfl|ab
     · exact b7
     · exact yg b7 ((r7.1 dr).1 b ab)
instance (k:Key):Decidable (eJ k):=by unfold eJ;infer_instance
theorem vd {w:World} {t:aa} {l:Key} (h:Src 1 w t (bo l)):aO Tryz.prog F.vd #[.slice t.a t.len t.cap] w (fun v w'=>v= .bool (decide (eJ l))∧w=w'):=by
 have az:=len8 h
 refine W.aiJ t w _ ?_
 unfold W.vd
 refine ⟨?_,rfl⟩
 congr 1
 rw[oX,jL,fx,fx,fx]
 unfold eJ
 omega
theorem nJ {B:Nat→Prop} {w:World} {n:aL} {K V D:aa} (h:cg B w n K V D) (U:n.keys.length≤100000) (ad:n.vals.length≤100000) (au:n.kids.length≤100000):
   aO Tryz.prog F.nJ #[fc n K V D] w (fun v w'=>∃b:Bool,v= .bool b∧(b=true↔d_ n)∧Ext w w'):=by
 refine W.aiK n.leaf K V D w _ ?_
 (delta W.nJ aq ai aA a6 bd aD aV bV;dsimp only)
 refine cx (vs:=[.bool n.leaf, .slice K.a K.len K.cap, .slice V.a V.len V.cap, .slice D.a D.len D.cap]) rfl fun ag ak bG _=> ?_
 obtain ⟨cJ,aV,bA,bd⟩:=cl ak
 have aC:=h.ext bG
 have CD:=b2.len aC.keys
 have ga:=b2.len aC.vals
 have cX:=en.len aC.kids
 refine ⟨K,aV,fun i w'=>∃j:Nat,i=j∧j≤n.keys.length∧ag=w'∧(∀ (k:Nat) (ae:k<n.keys.length),k<j→eJ n.keys[k])∧∀ (k:Nat) (ae:k+1<n.keys.length),k+1<j→cv n.keys[k] n.keys[k+1],
   fun i _=>((n.keys.length:Int)-i).toNat,⟨0,rfl,fm _,rfl,fun k ae h=>by omega,fun k ae h=>by omega⟩,?_⟩
 rintro _ _ ⟨j,rfl,a8,rfl,ed,Yi⟩
 refine ⟨fun ba=> ?_,fun ck=> ?_⟩
 · have ba:j<n.keys.length:=by have:=dG ba;omega
   obtain ⟨A,t,ax,ab,al,aR,_⟩:=b2.at aC.keys ba
   refine ⟨A,ax,ab,t,al,(vd aR.1).use ?_⟩
   rintro _ _ ⟨rfl,rfl⟩
   refine ⟨_,rfl,eN (fun b w'=>ag=w'∧(b=true→¬d_ n)∧(b=false→eJ n.keys[j]∧∀ (a8:1≤j),cv (n.keys[j-1]'(by omega)) n.keys[j])) (fun q J=>⟨fun ab=> ?_,fun ab=> ?_⟩) ?_⟩
   · have ab:¬eJ n.keys[j]:=by simpa using ab
     exact J _ _ ⟨rfl,fun _ aj=>ab (aj.keys.ok _ (fh ba)),fun h=>by cases h⟩
   · have ab:eJ n.keys[j]:=by simpa using ab
     refine eN (fun b w'=>ag=w'∧(b=true→¬d_ n)∧(b=false→∀ (a8:1≤j),cv (n.keys[j-1]'(by omega)) n.keys[j])) (fun iO hT=>⟨fun b7=> ?_,fun b7=> ?_⟩) ?_
     · have b7:1≤j:=by have:=dG b7;omega
       rw[cz (n:=(j:Int)-1) (by omega) (by omega),show (j:Int)-1=((j-1:Nat):Int) by omega]
       obtain ⟨Al,t2,kU,gu,dS,nK,_⟩:=b2.at aC.keys (i:=j-1) (by omega)
       refine ⟨K,aV,Al,kU,gu,t2,dS,(mX nK.1 aR.1).use ?_⟩
       rintro _ _ ⟨rfl,rfl⟩
       refine ⟨_,rfl,hT _ _ ⟨rfl,fun al aj=> ?_,fun al _=> ?_⟩⟩
       · have al:=dG al
         have:cv (n.keys[j-1]'(by omega)) n.keys[j]:=G2.1 aj.keys.kg (j-1) j (by omega) ba (by omega)
         unfold cv at this
         omega
       · have al:=eW al
         unfold cv;omega
     · have b7:=eW b7
       exact hT _ _ ⟨rfl,fun h=>(by cases h),fun _ a8=>by omega⟩
     · rintro b w' ⟨rfl,aB,aF⟩
       exact J _ _ ⟨rfl,aB,fun gu=>⟨ab,aF gu⟩⟩
   · rintro b w' ⟨rfl,aB,aF⟩
     refine ⟨fun ab=>⟨false,rfl,⟨fun h=>(by cases h),fun aj=>absurd aj (aB ab)⟩,bG⟩,fun ab=> ?_⟩
     obtain ⟨aJ,aM⟩:=aF ab
     rw[cz (n:=(j:Int)+1) (by omega) (by omega)]
     refine ⟨⟨j+1,by omega,by omega,rfl,fun k ae h=> ?_,fun k ae h=> ?_⟩,?_⟩
     · rcases g8 k j with U|U
       · exact ed k ae U
       · have:k=j:=by omega
         subst this;exact aJ
     · rcases g8 (k+1) j with U|U
       · exact Yi k ae U
       · have:j=k+1:=by omega
         subst this
         exact aM (by omega)
     · show ((n.keys.length:Int)-((j:Int)+1)).toNat<((n.keys.length:Int)-(j:Int)).toNat
       omega
 · have ck:j=n.keys.length:=by have:=eW ck;omega
   subst ck
   have jf:Nr n:=⟨fun k ae=>by
     obtain ⟨i,hi,rfl⟩:=mS ae
     exact ed i hi hi,Yh fun i hi=>Yi i hi hi⟩
   refine ⟨n.leaf,cJ,fun az=>⟨V,bA,K,aV,?_⟩,fun az=>⟨K,aV,?_⟩⟩
   · refine eN (fun b w'=>ag=w'∧b=(decide (n.vals.length=n.keys.length)&&decide (n.kids=[]))) (fun q J=>⟨fun ab=>⟨D,bd,J _ _ ⟨rfl,?_⟩⟩,fun ab=>J _ _ ⟨rfl,?_⟩⟩) ?_
     · have ab:=eq_of_beq ab
       rw[iB (show n.vals.length=n.keys.length by omega),ES,oX,zZ,fx,←ye]
       omega
     · have ab:¬(((V.len:Nat):Int)=((K.len:Nat):Int)):=fun e=>by rw[e] at ab;simp at ab
       rw[sS (by omega),Bool.false_and]
     rintro b w' ⟨rfl,rfl⟩
     refine eN (fun b w'=>ag=w'∧(b=true↔d_ n)) (fun q J=>⟨fun ab=>⟨V,bA,(aiB aC.vals (by omega)).use ?_⟩,fun ab=>J _ _ ⟨rfl,?_⟩⟩) ?_
     · rintro _ _ ⟨rfl,rfl⟩
       refine ⟨_,rfl,J _ _ ⟨rfl,?_⟩⟩
       simp only[jL,fx] at ab
       rw[zX,JM]
       constructor
       · intro fw
         exact .inl ⟨jf,az,ab.1,ab.2,fun v ak=>by have:=fw v ak;simp at this;omega⟩
       · rintro (aj|aj)
         · intro v ak;have:=aj.vals v ak;simp;omega
         · have:=aj.inner;rw[az] at this;cases this
     · have ab:¬(n.vals.length=n.keys.length∧n.kids=[]):=by simpa using ab
       refine ⟨fun h=>(by cases h),?_⟩
       rintro (aj|aj)
       · exact absurd ⟨aj.len,aj.kids⟩ ab
       · have:=aj.inner;rw[az] at this;cases this
     rintro b w' ⟨rfl,ab⟩
     exact ⟨b,rfl,ab,bG⟩
   · refine eN (fun b w'=>ag=w'∧b=(decide (n.keys≠ [])&&decide (n.kids.length=n.keys.length+1))) (fun q J=>⟨fun ab=>⟨D,bd,K,aV,J _ _ ⟨rfl,?_⟩⟩,fun ab=>J _ _ ⟨rfl,?_⟩⟩) ?_
     · have ab:=dG ab
       have c5:n.keys≠ []:=fun e=>by rw[e] at CD;simp at CD;omega
       rw[iB c5,ES,oX,zZ,fx,cz (by omega) (by omega)]
       omega
     · have ab:=eW ab
       have c5:n.keys=[]:=ye.1 (by omega)
       rw[sS (fun h=>h c5),Bool.false_and]
     rintro b w' ⟨rfl,rfl⟩
     refine eN (fun b w'=>ag=w'∧b=(decide (n.keys≠ [])&&decide (n.kids.length=n.keys.length+1)&&decide (n.vals=[]))) (fun q J=>⟨fun ab=>⟨V,bA,J _ _ ⟨rfl,?_⟩⟩,fun ab=>J _ _ ⟨rfl,?_⟩⟩) ?_
     · rw[ab,ES,oX,zZ,fx,←ye]
       omega
     · rw[ab,Bool.false_and]
     rintro b w' ⟨rfl,rfl⟩
     refine eN (fun b w'=>ag=w'∧(b=true↔d_ n)) (fun q J=>⟨fun ab=>⟨D,bd,(aiF aC.kids (by omega)).use ?_⟩,fun ab=>J _ _ ⟨rfl,?_⟩⟩) ?_
     · rintro _ _ ⟨rfl,rfl⟩
       refine ⟨_,rfl,J _ _ ⟨rfl,?_⟩⟩
       simp only[jL,fx] at ab
       rw[zX,JM]
       constructor
       · intro fw
         exact .inr ⟨jf,az,ab.1.1,ab.1.2,ab.2,fun v ak=>by have:=fw v ak;simp at this;omega⟩
       · rintro (aj|aj)
         · have:=aj.leaf;rw[az] at this;cases this
         · intro v ak;have:=aj.kids v ak;simp;omega
     · have ab:¬((n.keys≠ []∧n.kids.length=n.keys.length+1)∧n.vals=[]):=fun e=>by
         rw[iB e.1.1,iB e.1.2,iB e.2] at ab;cases ab
       refine ⟨fun h=>(by cases h),?_⟩
       rintro (aj|aj)
       · have:=aj.leaf;rw[az] at this;cases this
       · exact absurd ⟨⟨aj.some,aj.len⟩,aj.vals⟩ ab
     rintro b w' ⟨rfl,ab⟩
     exact ⟨b,rfl,ab,bG⟩
end
section
theorem aiL {w:World} {a b:aa} {pE ik:List UInt8} (aU:Src 1 w a (bo pE)) (ab:Src 1 w b (bo ik)) (az:pE.length+ik.length≤1000):
   aO Tryz.prog F.sZ #[.slice (some ⟨w.heap.size,0,none⟩) 2 2] (w.alloc (.cells #[.slice a.a a.len a.cap, .slice b.a b.len b.cap] ah.cn)) (fun v w'=>∃ar:aa,v= .slice ar.a ar.len ar.cap∧b3 1 ah.uint8 w' ar (bo (pE++ik))∧Ext w w'∧oG w ar):=by
 have af:=iP w (.cells #[.slice a.a a.len a.cap, .slice b.a b.len b.cap] ah.cn)
 refine (NK (s:=⟨some ⟨w.heap.size,0,none⟩,2,2⟩) [(a,pE),(b,ik)] (Src.new w _ 2 rfl) ?_ (by simp[jg];omega) (by simp)).mono ?_
 · intro p aW
   simp only[fZ,mT,mU] at aW
   rcases aW with rfl|rfl
   · exact aU.ext af
   · exact ab.ext af
 · rintro _ w' ⟨ar,rfl,bE,J7,aG⟩
   have e:jg [(a,pE),(b,ik)]=pE++ik:=by simp[jg]
   rw[e] at bE
   exact ⟨ar,rfl,bE,af.trans J7,aG.mono af.size⟩
theorem aiM {w:World} {a b c:aa} {pE ik lc:List UInt8} (aU:Src 1 w a (bo pE)) (ab:Src 1 w b (bo ik)) (al:Src 1 w c (bo lc)) (az:pE.length+ik.length+lc.length≤1000):
   aO Tryz.prog F.sZ #[.slice (some ⟨w.heap.size,0,none⟩) 3 3] (w.alloc (.cells #[.slice a.a a.len a.cap, .slice b.a b.len b.cap, .slice c.a c.len c.cap] ah.cn)) (fun v w'=>∃ar:aa,v= .slice ar.a ar.len ar.cap∧b3 1 ah.uint8 w' ar (bo (pE++(ik++lc)))∧Ext w w'∧oG w ar):=by
 have af:=iP w (.cells #[.slice a.a a.len a.cap, .slice b.a b.len b.cap, .slice c.a c.len c.cap] ah.cn)
 refine (NK (s:=⟨some ⟨w.heap.size,0,none⟩,3,3⟩) [(a,pE),(b,ik),(c,lc)] (Src.new w _ 3 rfl) ?_ (by simp[jg];omega) (by simp)).mono ?_
 · intro p aW
   simp only[fZ,mT,mU] at aW
   rcases aW with rfl|rfl|rfl
   · exact aU.ext af
   · exact ab.ext af
   · exact al.ext af
 · rintro _ w' ⟨ar,rfl,bE,J7,aG⟩
   have e:jg [(a,pE),(b,ik),(c,lc)]=pE++(ik++lc):=by simp[jg]
   rw[e] at bE
   exact ⟨ar,rfl,bE,af.trans J7,aG.mono af.size⟩
theorem Yj (w:World) {n:Nat} (aC:n≤255):Src 1 (w.alloc (.cells #[.int .u8 (IntKind.wrap .u8 ((n:Nat):Int))] ah.uint8)) ⟨some ⟨w.heap.size,0,none⟩,1,1⟩ (bo [UInt8.ofNat n])∧Ext w (w.alloc (.cells #[.int .u8 (IntKind.wrap .u8 ((n:Nat):Int))] ah.uint8)):=by
 have e:(#[.int .u8 (IntKind.wrap .u8 ((n:Nat):Int))]:Array Value)=(bo [UInt8.ofNat n]).toArray:=by
   rw[R1 (by omega) (by omega)]
   simp[bo,uU (show n<256 by omega)]
 rw[e]
 exact ⟨Src.new w _ 1 rfl,iP _ _⟩
theorem ot {α:Type} {l:List α} {i:Nat} {d:α} (h:i<l.length):l.getD i d=l[i]:=by
 rw[p6,gH h];rfl
theorem d_.wJ {n:aL} (h:d_ n) (az:n.leaf=true):n.vals.length=n.keys.length:=by
 rcases h with h|h
 · exact h.len
 · have:=h.inner;rw[az] at this;cases this
theorem d_.Hv {n:aL} (h:d_ n) (az:n.leaf=false):n.kids.length=n.keys.length+1:=by
 rcases h with h|h
 · have:=h.leaf;rw[az] at this;cases this
 · exact h.len
theorem s3 {B:Nat→Prop} {w:World} {n:aL} {K V D:aa} (h:cg B w n K V D) (aj:d_ n) {i:Nat} (hi:i<n.keys.length) (aC:n.keys.length≤100000):
   aO Tryz.prog F.s3 #[fc n K V D, .int .i64 ((i:Nat):Int)] w (fun v w'=>∃s:aa,v= .slice s.a s.len s.cap∧b3 1 ah.uint8 w' s (bo (om n i))∧Ext w w'∧oG w s):=by
 refine W.aiN n.leaf K V D ((i:Nat):Int) w _ ?_
 (delta W.s3 ai aq a6 dK bV aA aD bK;dsimp only)
 refine cx (vs:=[.bool n.leaf, .slice K.a K.len K.cap, .slice V.a V.len V.cap, .slice D.a D.len D.cap]) rfl fun ag ak bG _=> ?_
 have bD:=dT ag
 have pF:=bG.trans bD
 have nk:=h.ext pF
 obtain ⟨cJ,aV,bA,bd⟩:=cl (ak.ext bD)
 obtain ⟨A,t,ax,ab,al,aR,_⟩:=b2.at nk.keys hi
 have jf:=(aj.keys.ok _ (fh hi)).2
 have ni:=len8 aR.1
 obtain ⟨aN,R8⟩:=Yj ag.drew (n:=t.len) (by omega)
 refine bN ⟨fun _=>False,id,K,aV,A,ax,ab,id,t,al,id,K,aV,A,ax,ab,id,t,al,bN ⟨R8,bN ?_⟩⟩
 refine (aiL (a:=⟨some ⟨ag.drew.heap.size,0,none⟩,1,1⟩) (b:=t) aN (aR.1.ext R8) (by simp;omega)).use ?_
 rintro _ aS ⟨b1,rfl,si,eS,wF⟩
 have h6:=bD.trans (R8.trans eS)
 obtain ⟨d0,d1,d2,d3⟩:=cl (ak.ext h6)
 have ae: [UInt8.ofNat t.len]++n.keys[i]=Cp (n.keys.getD i []):=by rw[ot hi,ni];rfl
 rw[ae] at si
 have qN:=h.ext (bG.trans h6)
 refine ⟨b1,rfl,n.leaf,d0,fun az=> ?_,fun az=> ?_⟩
 · have jM:=aj.wJ az
   have Hw:i<n.vals.length:=by omega
   have lX:=dT aS
   have R9:=qN.ext lX
   obtain ⟨gY,a_,bw,ek⟩:=cl (ak.ext (h6.trans lX))
   obtain ⟨Al,t2,kU,gu,dS,nK,_⟩:=b2.at R9.vals Hw
   have p8:=aj.vals _ (fh Hw)
   have aiO:=len8 nK.1
   obtain ⟨fS,J8⟩:=Yj aS.drew (n:=t2.len) (by omega)
   refine bN ⟨fun _=>False,id,V,bw,Al,kU,gu,id,t2,dS,id,V,bw,Al,kU,gu,id,t2,dS,bN ⟨J8,bN ?_⟩⟩
   refine (aiM (a:=b1) (b:=⟨some ⟨aS.drew.heap.size,0,none⟩,1,1⟩) (c:=t2) (si.src.ext (lX.trans J8)) fS (nK.1.ext J8) (by rw[Cq,ot hi];simp;omega)).use ?_
   rintro _ bp ⟨cN,rfl,Am,fz,An⟩
   refine ⟨cN,rfl,cN,rfl,?_,(bG.trans h6).trans (lX.trans (J8.trans fz)),An.mono ((bG.trans h6).trans (lX.trans J8)).size⟩
   have:Cp (n.keys.getD i [])++([UInt8.ofNat t2.len]++n.vals[i])=om n i:=by
     unfold om
     rw[az,if_pos rfl,ot Hw,aiO];rfl
   rwa[this] at Am
 · have fv:=aj.Hv az
   have og:i+1<n.kids.length:=by omega
   obtain ⟨Al,kU,gu,dS⟩:=en.at qN.kids og
   have aiP:=aj.kids _ (fh og)
   rw[cz (n:=(i:Int)+1) (by omega) (by omega),show (i:Int)+1=((i+1:Nat):Int) by omega]
   refine ⟨D,d3,Al,kU,gu,_,dS,?_⟩
   rw[wC (n:=((n.kids[i+1]:Nat):Int)) (by omega) (by omega)]
   refine (o1 si.src (n:=n.kids[i+1]) (k:=2) (by rw[Cq,ot hi];omega) (by show _<18446744073709551616;omega) ⟨by decide,by decide⟩).use ?_
   rintro _ bp ⟨cN,rfl,Am,fz,An⟩
   refine ⟨cN,rfl,cN,rfl,?_,(bG.trans h6).trans fz,oG.mono An (bG.trans h6).size⟩
   have:Cp (n.keys.getD i [])++gB n.kids[i+1] 2=om n i:=by
     unfold om
     rw[az,if_neg (by simp),ot og]
   rwa[this] at Am
theorem NW {n:aL} (aj:d_ n) {i:Nat} (hi:i<n.keys.length):(om n i).length≤100:=by
 unfold om
 have:=(aj.keys.ok _ (fh hi)).2
 rw[dO,Cq,ot hi]
 split
 · rename_i az
   have Hw:i<n.vals.length:=by have:=aj.wJ az;omega
   have:=aj.vals _ (fh Hw)
   rw[Cq,ot Hw];omega
 · rw[oh];omega
theorem R_ {n:aL} (aj:d_ n):∀m,m≤n.keys.length→(pz n 0 m).length≤100*m
 |0,_=>by simp[pz]
 |m+1,hm=>by
   have:=R_ aj m (by omega)
   have:=NW aj (i:=m) (by omega)
   rw[RM,dO];omega
theorem ve {B:Nat→Prop} {w:World} {n:aL} {K V D:aa} (h:cg B w n K V D) (aj:d_ n) (aC:n.keys.length≤255):
   aO Tryz.prog F.ve #[fc n K V D] w (fun v w'=>∃s:aa,v= .slice s.a s.len s.cap∧b3 1 ah.uint8 w' s (bo (sg n))∧Ext w w'∧oG w s):=by
 refine W.aiQ n.leaf K V D w _ ?_
 (delta W.ve aq ai bV aA a6 bK dK aD;dsimp only)
 refine cx (vs:=[.bool n.leaf, .slice K.a K.len K.cap, .slice V.a V.len V.cap, .slice D.a D.len D.cap]) rfl fun ag ak bG _=> ?_
 obtain ⟨cJ,aV,bA,bd⟩:=cl ak
 have ld:=h.ext bG
 have CD:=b2.len ld.keys
 have gY:(#[.int .u8 (IntKind.wrap .u8 ((K.len:Nat):Int))]:Array Value)=(bo [UInt8.ofNat n.keys.length]).toArray:=by
   rw[CD,R1 (by omega) (by omega)]
   simp[bo,uU (show n.keys.length<256 by omega)]
 refine ⟨K,aV,?_⟩
 rw[gY]
 have u0:=b3.new (T:=ah.uint8) (sz:=1) ag (bo [UInt8.ofNat n.keys.length]) 1 rfl (by decide)
 have cB:=iP ag (.cells (bo [UInt8.ofNat n.keys.length]).toArray ah.uint8)
 obtain ⟨aw,tS⟩:∃aw,aw=ag.alloc (.cells (bo [UInt8.ofNat n.keys.length]).toArray ah.uint8):=⟨_,rfl⟩
 rw[←tS] at u0 cB⊢
 obtain ⟨d0,d1,d2,d3⟩:=cl (ak.ext cB)
 have pF:=bG.trans cB
 refine bN (eN (fun ar w'=>b3 1 ah.uint8 w' ar (bo (preB n))∧Ext aw w'∧oG ag ar) (fun q J=>⟨n.leaf,d0,fun az=> ?_,fun az=>J _ _ ⟨?_, .refl _ _,?_⟩⟩) ?_)
 · have az:n.leaf=false:=by simpa using az
   have fv:=aj.Hv az
   have og:0<n.kids.length:=by omega
   obtain ⟨Al,kU,gu,dS⟩:=en.at (h.ext pF).kids og
   have aiP:=aj.kids _ (fh og)
   refine ⟨D,d3,Al,kU,gu,_,dS,?_⟩
   rw[wC (n:=((n.kids[0]:Nat):Int)) (by omega) (by omega)]
   refine (o1 u0.src (n:=n.kids[0]) (k:=2) (by simp) (by show _<18446744073709551616;omega) ⟨by decide,by decide⟩).use ?_
   rintro _ bp ⟨cN,rfl,Am,fz,An⟩
   refine ⟨cN,rfl,J _ _ ⟨?_,fz,oG.mono An cB.size⟩⟩
   have: [UInt8.ofNat n.keys.length]++gB n.kids[0] 2=preB n:=by
     unfold preB
     rw[az,if_neg (by simp),ot og];rfl
   rwa[this] at Am
 · have az:n.leaf=true:=by simpa using az
   have:preB n=[UInt8.ofNat n.keys.length]:=by unfold preB;rw[az];rfl
   rw[this];exact u0
 · rintro k ⟨A,ax,rfl⟩
   cases ax
   exact cR _
 rintro b1 aS ⟨si,eS,wF⟩
 have h6:=cB.trans eS
 obtain ⟨d0,d1,d2,d3⟩:=cl (ak.ext h6)
 have Hf:(preB n).length≤3:=by
   unfold preB
   cases n.leaf<;>simp[oh]
 refine ⟨K,d1,fun ar i w'=>∃j:Nat,i=j∧j≤n.keys.length∧b3 1 ah.uint8 w' ar (bo (preB n++pz n 0 j))∧Ext ag w'∧oG ag ar,fun _ i _=>((n.keys.length:Int)-i).toNat,⟨0,rfl,fm _,by simpa[pz] using si,h6,wF⟩,?_⟩
 rintro cN _ bp ⟨j,rfl,a8,Am,fz,An⟩
 refine ⟨fun ba=> ?_,fun ck=> ?_⟩
 · have ba:j<n.keys.length:=by have:=dG ba;omega
   obtain ⟨f0,f1,f2,f3⟩:=cl (ak.ext fz)
   refine ⟨n.leaf,f0,K,f1,V,f2,D,f3,(s3 (ld.ext fz) aj ba (by omega)).use ?_⟩
   rintro _ bB ⟨bH,rfl,yq,ji,aii⟩
   have Yk:=Ae Am
   have RV:=Ae yq
   have da:=NW aj ba
   have cI:=R_ aj j a8
   rw[dO] at Yk
   obtain ⟨cK,bf,aB,aF,aJ,aM,cU⟩:=E4.append (ey:=ah.cn) yq.src (Am.ext ji) (yk _) (by rw[Yk,RV];omega)
   rw[cz (n:=(j:Int)+1) (by omega) (by omega)]
   refine ⟨bH,rfl,cK,bf,aB,⟨j+1,by omega,by omega,?_,Ext.gA (fz.trans ji) aM An,fun k ae=> ?_⟩,?_⟩
   · rw[RM,←eI,E3];exact aF
   · rcases cU k ae with h|h
     · exact An k h
     · exact ju (fz.trans ji).size h
   · show ((n.keys.length:Int)-((j:Int)+1)).toNat<((n.keys.length:Int)-(j:Int)).toNat
     omega
 · have ck:j=n.keys.length:=by have:=eW ck;omega
   subst ck
   exact ⟨cN,rfl,Am,bG.trans fz,An.mono bG.size⟩
theorem vf {B:Nat→Prop} {w:World} {n:aL} {K V D:aa} (h:cg B w n K V D) (aj:d_ n) (aC:n.keys.length≤255):
   aO Tryz.prog F.vf #[fc n K V D] w (fun v w'=>v= .int .i64 (cq n:Nat)∧Ext w w'):=by
 have jM:n.vals.length≤100000:=by
   rcases aj with aj|aj
   · rw[aj.len];omega
   · rw[aj.vals];simp
 have lU:n.kids.length≤100000:=by
   rcases aj with aj|aj
   · rw[aj.kids];simp
   · rw[aj.len];omega
 refine W.aiR n.leaf K V D w _ ?_
 (delta W.vf bV ai aq bd aA dK;dsimp only)
 refine cx (vs:=[.bool n.leaf, .slice K.a K.len K.cap, .slice V.a V.len V.cap, .slice D.a D.len D.cap]) rfl fun ag ak bG _=> ?_
 obtain ⟨cJ,aV,bA,bd⟩:=cl ak
 refine ⟨n.leaf,cJ,K,aV,V,bA,D,bd,(nJ (h.ext bG) (by omega) jM lU).use ?_⟩
 rintro _ aw ⟨b,rfl,ab,cB⟩
 have Sa:=ab.2 aj
 subst Sa
 obtain ⟨cJ,aV,bA,bd⟩:=cl (ak.ext cB)
 refine ⟨true,rfl,fun h=>(by cases h),fun _=>⟨n.leaf,cJ,K,aV,V,bA,D,bd,(ve (h.ext (bG.trans cB)) aj aC).use ?_⟩⟩
 rintro _ aS ⟨b1,rfl,si,eS,_⟩
 have az:=Ae si
 rw[RP aj] at az
 exact ⟨b1,rfl,by rw[az],(bG.trans cB).trans eS⟩
def Yl (n:aL) (w w':World) (v:Value):Prop:=
 (∃s:aa,v= .tuple #[.slice s.a s.len s.cap, .int .i64 0]∧b3 1 ah.uint8 w' s (bo (sg n))∧oG w s∧d_ n∧cq n≤232)∨
 (∃e:Int,v= .tuple #[.slice none 0 0, .int .i64 e]∧e≠0∧(d_ n→232<cq n))
theorem vg {B:Nat→Prop} {w:World} {n:aL} {K V D:aa} (h:cg B w n K V D) (fv:n.keys.length≤100000) (jM:n.vals.length≤100000) (lU:n.kids.length≤100000):
   aO Tryz.prog F.vg #[fc n K V D] w (fun v w'=>Yl n w w' v∧Ext w w'):=by
 refine W.aiS n.leaf K V D w _ ?_
 (delta W.vg bV ai aq bd aA dK;dsimp only)
 refine cx (vs:=[.bool n.leaf, .slice K.a K.len K.cap, .slice V.a V.len V.cap, .slice D.a D.len D.cap]) rfl fun ag ak bG _=> ?_
 obtain ⟨cJ,aV,bA,bd⟩:=cl ak
 refine ⟨n.leaf,cJ,K,aV,V,bA,D,bd,(nJ (h.ext bG) fv jM lU).use ?_⟩
 rintro _ aw ⟨b,rfl,ab,cB⟩
 have pF:=bG.trans cB
 obtain ⟨cJ,aV,bA,bd⟩:=cl (ak.ext cB)
 have CD:=b2.len h.keys
 refine ⟨b,rfl,eN (fun c w'=>aw=w'∧(c=true→d_ n→255<n.keys.length)∧(c=false→d_ n∧n.keys.length≤255)) (fun q J=>⟨fun U=>J _ _ ⟨rfl,fun _ aj=> ?_,fun h=>(by cases h)⟩,fun U=>⟨K,aV,J _ _ ⟨rfl,fun ad aj=> ?_,fun ad=> ?_⟩⟩⟩) ?_⟩
 · have U:b=false:=by simpa using U
   rw[ab.2 aj] at U;cases U
 · have:=dG ad;omega
 · have U:b=true:=by simpa using U
   have:=eW ad
   exact ⟨ab.1 U,by omega⟩
 rintro c w' ⟨rfl,aB,aF⟩
 refine ⟨fun U=>⟨.inr ⟨4,rfl,by decide,fun aj=> ?_⟩,pF⟩,fun U=> ?_⟩
 · have:=aB U aj
   have:=ND aj
   omega
 obtain ⟨aj,ae⟩:=aF U
 refine ⟨n.leaf,cJ,K,aV,V,bA,D,bd,(ve (h.ext pF) aj ae).use ?_⟩
 rintro _ aS ⟨b1,rfl,si,eS,wF⟩
 have az:=Ae si
 rw[RP aj] at az
 refine ⟨b1,rfl,fun ad=>⟨.inr ⟨10,rfl,by decide,fun _=> ?_⟩,pF.trans eS⟩,fun ad=>⟨.inl ⟨b1,rfl,si,wF.mono pF.size,aj,?_⟩,pF.trans eS⟩⟩
 · have:=dG ad;omega
 · have:=eW ad;omega
theorem yy {B:Nat→Prop} {w:World} {n:aL} {K V D:aa} (h:cg B w n K V D) (fv:n.keys.length≤100000) (jM:n.vals.length≤100000) (lU:n.kids.length≤100000):
   aO Tryz.prog F.yy #[fc n K V D] w (fun v w'=>Yl n w w' v∧Ext w w'):=by
 refine W.aiT n.leaf K V D w _ ?_
 (delta W.yy bV ai aq gk;dsimp only)
 refine cx (vs:=[.bool n.leaf, .slice K.a K.len K.cap, .slice V.a V.len V.cap, .slice D.a D.len D.cap]) rfl fun ag ak bG _=> ?_
 obtain ⟨cJ,aV,bA,bd⟩:=cl ak
 refine ⟨n.leaf,cJ,K,aV,V,bA,D,bd,(vg (h.ext bG) fv jM lU).use ?_⟩
 rintro _ aw ⟨gR,cB⟩
 rcases gR with ⟨s,rfl,bE,aG,aj,aC⟩|⟨e,rfl,he,aC⟩
 · exact ⟨s,0,rfl, .inl ⟨s,rfl,bE,aG.mono bG.size,aj,aC⟩,bG.trans cB⟩
 · exact ⟨⟨none,0,0⟩,e,rfl, .inr ⟨e,rfl,he,aC⟩,bG.trans cB⟩
end
section
theorem jj {w:World} {b i:Nat} {vs:List Value} {T:TypeId} (h:Var w b vs T) (v:Value):Var (w.setCell ⟨b,i,none⟩ v) b (vs.set i v) T:=by
 have:=cr.set h i v
 have e:vs.toArray.setIfInBounds i v=(vs.set i v).toArray:=by simp
 rw[e] at this
 exact this
theorem jk {w:World} {b i:Nat} {vs:List Value} {T:TypeId} (h:Var w b vs T) (hi:i<vs.length):(∃u:Value,w.cell? ⟨b,i,none⟩=some u)∧w.frozen? ⟨b,i,none⟩=false:=
 ⟨⟨vs[i],by rw[h.cell];simp[hi]⟩,cr.frozen h _ rfl⟩
theorem il (w:World) (b i:Nat) (v:Value):ao (fun q=>q=b) w (w.setCell ⟨b,i,none⟩ v):=ao.om (.refl _ _) v
structure sj (w:World) (r:Nat) (s:aa) (rd:Rd):Prop where
 v:Var w r [.slice s.a s.len s.cap, .bool rd.2] ah.Ym
 src:Src 1 w s (bo rd.1)
 le:s.len≤s.cap
 ne:∀k,aQ s k→k≠r
theorem sj.an {W:Nat→Prop} {w w':World} {r:Nat} {s:aa} {rd:Rd} (h:sj w r s rd) (al:ao W w w') (U:¬W r) (ad:∀k,aQ s k→¬W k):sj w' r s rd:=⟨h.v.an al U,h.src.an al ad,h.le,h.ne⟩
theorem sj.ext {w w':World} {r:Nat} {s:aa} {rd:Rd} (h:sj w r s rd) (al:Ext w w'):sj w' r s rd:=sj.an h al id fun _ _ h=>h
theorem NX {a:Option Addr} {z l m n c k:Nat} (h:aQ ⟨bh a z l m,n,c⟩ k):∃A,a=some A∧A.block=k:=by
 obtain ⟨A,ax,rfl⟩:=h
 unfold bh at ax
 split at ax
 · exact ⟨A,ax,rfl⟩
 · cases aU:a with
   |none=>rw[aU] at ax;cases ax
   |some yz=>
     rw[aU] at ax
     simp only[yf,Option.some.injEq] at ax
     exact ⟨yz,rfl,by subst ax;unfold Addr.add;split<;>rfl⟩
theorem Yn {w:World} {r:Nat} {s:aa} {rd:Rd} (h:sj w r s rd) (k:Nat) (ae:k≤100000) (az:rd.1.length≤100000):
   aO Tryz.prog F.Ao #[.pointer (some ⟨r,0,none⟩), .int .i64 ((k:Nat):Int)] w (fun v w'=>∃t ar:aa,v= .slice t.a t.len t.cap∧bL (fun q=>w.heap.size≤q) w' t (pA rd k).1∧sj w' r ar (pA rd k).2∧ao (fun q=>q=r) w w'∧(∀q,aQ ar q→aQ s q)):=by
 obtain ⟨l,ok⟩:=rd
 have ak:=h.v
 have gv:=len8 h.src
 simp only at gv az ak
 have ba:=ak.lt
 refine W.aiU (some ⟨r,0,none⟩) ((k:Nat):Int) w _ ?_
 (delta W.Ao bV aA aq st dK;dsimp only)
 refine ⟨_,rfl,ok,by rw[aX];exact ak.cell,eN (fun b w'=>w=w'∧b=decide (ok=false∨l.length<k)) (fun q J=>⟨fun U=>J _ _ ⟨rfl,?_⟩,fun U=>⟨_,rfl,s,ak.cell,J _ _ ⟨rfl,?_⟩⟩⟩) ?_⟩
 · have U:ok=false:=by simpa using U
   exact (iB (.inl U)).symm
 · have U:ok=true:=by simpa using U
   subst U
   rw[oX,fx,fx]
   constructor
   · intro h;exact .inr (by omega)
   · rintro (h|h)
     · cases h
     · omega
 rintro b w' ⟨rfl,rfl⟩
 refine ⟨fun ab=>⟨_,rfl,?_⟩,fun ab=>⟨_,rfl,s,ak.cell,?_⟩⟩
 · have ab:=dG ab
   obtain ⟨aB,aF⟩:=jk ak (i:=1) (by simp)
   rw[aX]
   have al:=il w r 1 (.bool false)
   have e:pA (l,ok) k=([],(l,false)):=by unfold pA;rw[if_pos ab]
   rw[e]
   refine ⟨aB,aF,bN ⟨⟨none,0,0⟩,s,rfl,⟨(b3.none 1 ah.uint8 _).src,cR _,fun q J=>(qF q J).elim⟩,⟨jj ak _,h.src.an al fun q J=>h.ne q J,h.le,h.ne⟩,al,fun q J=>J⟩⟩
 · have ab:=eW ab
   have e:pA (l,ok) k=(l.take k,(l.drop k,true)):=by unfold pA;rw[if_neg ab]
   have fv:k≤l.length:=by
     rcases g8 l.length k with U|U
     · exact absurd (.inr U) ab
     · exact U
   have ed:ok=true:=by
     cases ok with
     |true=>rfl
     |false=>exact absurd (.inl rfl) ab
   subst ed
   rw[e]
   have hle:=h.le
   refine ⟨⟨by omega,by omega⟩,?_⟩
   have ij:=Cs h.src h.le (lo:=0) (hi:=k) (by omega) (by omega)
   rw[zW,G5] at ij
   rw[g9,G5]
   refine (vb (B:=fun q=>w.heap.size≤q) (s:=⟨bh s.a 1 0 s.cap,k,s.cap-0⟩) ij (by rw[ej];omega) (fun q J=>J)).use ?_
   rintro _ ag ⟨t,rfl,aR,bG,qG⟩
   have mC:=ak.ext bG
   obtain ⟨aB,aF⟩:=jk mC (i:=0) (by simp)
   have al:=il ag r 0 (.slice (bh s.a 1 k s.cap) (s.len-k) (s.cap-k))
   have oI:=Cs (h.src.ext bG) h.le (lo:=k) (hi:=s.len) (by omega) (cR _)
   rw[g3 (l:=l.drop k) (by rw[fF];omega)] at oI
   have c5:∀q,aQ ⟨bh s.a 1 k s.cap,s.len-k,s.cap-k⟩ q→q≠r:=fun q J=>by
     obtain ⟨A,ax,ab⟩:=NX J
     exact h.ne q ⟨A,ax,ab⟩
   refine ⟨t,rfl,_,rfl,s,mC.cell,⟨by omega,by omega⟩,_,rfl,aB,aF,bN ⟨t,⟨bh s.a 1 k s.cap,s.len-k,s.cap-k⟩,rfl,bL.an aR al (fun q J e=>by subst e;omega),⟨jj mC _,oI.an al fun q J=>c5 q J,by show s.len-k≤s.cap-k;omega,c5⟩,(ao.eT bG).trans al,fun q J=> ?_⟩⟩
   obtain ⟨A,ax,ab⟩:=NX J
   exact ⟨A,ax,ab⟩
theorem Sb {w:World} {r:Nat} {s:aa} {rd:Rd} (h:sj w r s rd) (k:Nat) (ae:1≤k∧k≤2) (az:rd.1.length≤100000):
   aO Tryz.prog F.wK #[.pointer (some ⟨r,0,none⟩), .int .i64 ((k:Nat):Int)] w (fun v w'=>∃ar:aa,v= .int .i64 ((rdNum rd k).1:Nat)∧sj w' r ar (rdNum rd k).2∧ao (fun q=>q=r) w w'∧(∀q,aQ ar q→aQ s q)):=by
 refine W.aiV (some ⟨r,0,none⟩) ((k:Nat):Int) w _ ?_
 (delta W.wK dK NQ aD;dsimp only)
 refine (Yn h k (by omega) az).use ?_
 rintro _ ag ⟨t,ar,rfl,aR,aN,al,bE⟩
 have hlen:(pA rd k).1.length=k∨(pA rd k).1=[]:=by
   unfold pA
   split
   · exact .inr rfl
   · rename_i cS
     left
     rw[ej]
     have:¬rd.1.length<k:=fun h=>cS (.inr h)
     omega
 have ab:=JY k (pA rd k).1
 have aW:256^k≤65536:=ju (Nh (by omega) ae.2) (by decide)
 refine ⟨t,rfl,?_⟩
 rcases hlen with hlen|hlen
 · refine (sX (a:=0) (k:=k) aR.1 aR.2.1 ⟨ae.1,by omega⟩ (by omega) (by omega)).use ?_
   rintro _ _ ⟨rfl,rfl⟩
   have ab:=ab hlen
   rw[zW,g3 (by omega)]
   refine ⟨_,_,rfl,ar,?_,aN,al,bE⟩
   rw[cz (by omega) (by omega)]
   unfold rdNum
   rw[if_pos hlen]
 · refine (ah7 (k:=k) aR.1 (by omega) (by rw[hlen];simp;omega)).use ?_
   rintro _ _ ⟨rfl,rfl⟩
   refine ⟨_,_,rfl,ar,?_,aN,al,bE⟩
   unfold rdNum
   rw[if_neg (by rw[hlen];simp;omega)]
   rfl
theorem Sc (rd:Rd) (k:Nat):(rdNum rd k).1<256^k:=by
 unfold rdNum
 split
 · exact JY k _ (by assumption)
 · exact Nat.pow_pos (by omega)
theorem Yo (rd:Rd) (k:Nat):(pA rd k).2.1.length≤rd.1.length∧(pA rd k).1.length≤k:=by
 unfold pA
 split
 · exact ⟨cR _,fm _⟩
 · exact ⟨by rw[fF];omega,by rw[ej];omega⟩
theorem NY (rd:Rd) (k:Nat):(rdNum rd k).2.1.length≤rd.1.length:=(Yo rd k).1
theorem Yp (rd:Rd):(sY rd).2.1.length≤rd.1.length∧(sY rd).1.length≤255:=by
 unfold sY
 have U:=Yo (rdNum rd 1).2 (rdNum rd 1).1
 have ad:=NY rd 1
 have au:(rdNum rd 1).1<256:=Sc rd 1
 exact ⟨by omega,by omega⟩
theorem Yq {w:World} {r:Nat} {s:aa} {rd:Rd} (h:sj w r s rd) (az:rd.1.length≤100000):
   aO Tryz.prog F.wL #[.pointer (some ⟨r,0,none⟩)] w (fun v w'=>∃t ar:aa,v= .slice t.a t.len t.cap∧bL (fun q=>w.heap.size≤q) w' t (sY rd).1∧sj w' r ar (sY rd).2∧ao (fun q=>q=r) w w'∧(∀q,aQ ar q→aQ s q)):=by
 refine W.aiW (some ⟨r,0,none⟩) w _ ?_
 (delta W.wL aV dK;dsimp only)
 refine (Sb h 1 (by omega) az).use ?_
 rintro _ ag ⟨s1,rfl,lf,iR,k_⟩
 have au:(rdNum rd 1).1<256:=Sc rd 1
 have aH:=NY rd 1
 refine ⟨_,rfl,(Yn lf (rdNum rd 1).1 (by omega) (by omega)).use ?_⟩
 rintro _ aw ⟨t,s2,rfl,aR,fS,dS,u0⟩
 exact ⟨t,rfl,t,s2,rfl,bL.bz aR fun q _ J=>ju iR.size J,fS,iR.trans dS,fun q J=>k_ q (u0 q J)⟩
end
section
theorem b6.bz {B C:Nat→Prop} {w:World} {s:aa} {ls:List Key} (h:b6 B w s ls) (ab:∀k,k<w.heap.size→B k→C k):b6 C w s ls:=by
 obtain ⟨ts,U,ad,au,aH⟩:=h
 exact ⟨ts,U,ad,In.bz au ab,fun i b9 iD=>⟨bL.bz (aH i b9 iD).1 ab,(aH i b9 iD).2⟩⟩
theorem eL.bz {B C:Nat→Prop} {w:World} {s:aa} {ds:List Nat} (h:eL B w s ds) (ab:∀k,k<w.heap.size→B k→C k):eL C w s ds:=⟨h.1,In.bz h.2 ab⟩
def Grow (B:Nat→Prop) (w w':World) (q:Nat):Prop:=B q∨(w.heap.size≤q∧q<w'.heap.size)
theorem NZ {w:World} {bF o:Nat} {vs:List Value} {S t:aa} {ls:List Key} {l:Key} {B:Nat→Prop} {T:TypeId} {W:Nat→Prop} (ak:Var w bF vs T) (Ap:o<vs.length) (o3:b6 B w S ls) (CE:¬B bF)
   (aR:bL B w t l) (hd:∀k,aQ t k→¬aQ S k) (aC:ls.length≤100000) {K:World→Prop}
   (bu:∀ (w':World) (gS:aa),Var w' bF (vs.set o (.slice gS.a gS.len gS.cap)) T→b6 (Grow B w w') w' gS (ls++ [l])→ao (fun q=>q=bF∨aQ S q) w w'→K w'):
   ay (w.alloc (.cells #[.slice t.a t.len t.cap] ah.cn)) fun gb=>ao W w gb∧∃dh:aa,∃e8:World,Sem.run Tryz.prog (Builtin.append_ #[ah.cM,ah.cM] ah.cM #[.slice S.a S.len S.cap, .slice (some ⟨w.heap.size,0,none⟩) 1 1]) gb= .ok (.slice dh.a dh.len dh.cap) e8∧
     (∃u:Value,e8.cell? (Addr.add ⟨bF,0,none⟩ o)=some u)∧e8.frozen? (Addr.add ⟨bF,0,none⟩ o)=false∧ay (e8.setCell (Addr.add ⟨bF,0,none⟩ o) (.slice dh.a dh.len dh.cap)) fun e4=>K e4:=by
 have Aq:=b6.bz (C:=fun q=>B q∨w.heap.size≤q) o3 fun k _ h=> .inl h
 have nK:=bL.bz (C:=fun q=>B q∨w.heap.size≤q) aR fun k _ h=> .inl h
 obtain ⟨ar,w',aB,aF,aJ,aM⟩:=Yg Aq nK hd (by omega) fun k ae=> .inr ae
 have jY:=ak.lt
 have J9:¬aQ S bF:=fun h=>by
   obtain ⟨ts,_,_,au,_⟩:=o3
   exact CE (au bF h).1
 have qO:=ak.an aJ J9
 obtain ⟨aV,bA⟩:=jk qO Ap
 refine bN ⟨ao.eT (iP _ _),ar,w',aB,?_⟩
 rw[aX,gy]
 have al:=il w' bF o (.slice ar.a ar.len ar.cap)
 refine ⟨aV,bA,bN (bu _ ar (jj qO _) ?_ ?_)⟩
 · have aY:=b6.bz (C:=Grow B w (w'.setCell ⟨bF,o,none⟩ (.slice ar.a ar.len ar.cap))) aF fun k ae h=>by
     rcases h with h|h
     · exact .inl h
     · exact .inr ⟨h,lv ae al.size⟩
   refine b6.an aY al fun k ae e=> ?_
   subst e
   rcases ae with h|h
   · exact CE h
   · omega
 · exact (aJ.mono fun k _ h=> .inr h).trans (al.mono fun k _ h=> .inl h)
theorem Yr {w:World} {bF o:Nat} {vs:List Value} {S:aa} {ds:List Nat} (d:Nat) {B:Nat→Prop} {T:TypeId} {W:Nat→Prop} (ak:Var w bF vs T) (Ap:o<vs.length) (o3:eL B w S ds) (CE:¬B bF)
   (aC:ds.length≤100000) {K:World→Prop}
   (bu:∀ (w':World) (gS:aa),Var w' bF (vs.set o (.slice gS.a gS.len gS.cap)) T→eL (Grow B w w') w' gS (ds++ [d])→ao (fun q=>q=bF∨aQ S q) w w'→K w'):
   ay (w.alloc (.cells #[.int .i64 ((d:Nat):Int)] ah.int)) fun gb=>ao W w gb∧∃dh:aa,∃e8:World,Sem.run Tryz.prog (Builtin.append_ #[ah.ef,ah.ef] ah.ef #[.slice S.a S.len S.cap, .slice (some ⟨w.heap.size,0,none⟩) 1 1]) gb= .ok (.slice dh.a dh.len dh.cap) e8∧
     (∃u:Value,e8.cell? (Addr.add ⟨bF,0,none⟩ o)=some u)∧e8.frozen? (Addr.add ⟨bF,0,none⟩ o)=false∧ay (e8.setCell (Addr.add ⟨bF,0,none⟩ o) (.slice dh.a dh.len dh.cap)) fun e4=>K e4:=by
 have Aq:=eL.bz (C:=fun q=>B q∨w.heap.size≤q) o3 fun k _ h=> .inl h
 obtain ⟨ar,w',aB,aF,aJ,aM⟩:=aiA d Aq (by omega) fun k ae=> .inr ae
 have jY:=ak.lt
 have J9:¬aQ S bF:=fun h=>CE (o3.2 bF h).1
 have qO:=ak.an aJ J9
 obtain ⟨aV,bA⟩:=jk qO Ap
 refine bN ⟨ao.eT (iP _ _),ar,w',aB,?_⟩
 rw[aX,gy]
 have al:=il w' bF o (.slice ar.a ar.len ar.cap)
 refine ⟨aV,bA,bN (bu _ ar (jj qO _) ?_ ?_)⟩
 · have aY:=eL.bz (C:=Grow B w (w'.setCell ⟨bF,o,none⟩ (.slice ar.a ar.len ar.cap))) aF fun k ae h=>by
     rcases h with h|h
     · exact .inl h
     · exact .inr ⟨h,lv ae al.size⟩
   refine eL.an aY al fun k ae e=> ?_
   subst e
   rcases ae with h|h
   · exact CE h
   · omega
 · exact (aJ.mono fun k _ h=> .inr h).trans (al.mono fun k _ h=> .inl h)
structure tT (lo:Nat) (w:World) (r bF:Nat) (s:aa) (m:aL×Rd) (K V D:aa) (cC cY ct:Nat→Prop):Prop where
 v:Var w bF [.bool m.1.leaf, .slice K.a K.len K.cap, .slice V.a V.len V.cap, .slice D.a D.len D.cap] ah.cO
 rd:sj w r s m.2
 keys:b6 cC w K m.1.keys
 vals:b6 cY w V m.1.vals
 kids:eL ct w D m.1.kids
 bW:∀q,cC q→lo≤q∧q<w.heap.size∧¬cY q∧¬ct q
 bv:∀q,cY q→lo≤q∧q<w.heap.size∧¬ct q
 a6:∀q,ct q→lo≤q∧q<w.heap.size
 aj:∀q,aQ s q→q<lo∧q≠bF
 Fb:r<lo
 Fc:bF<lo
 tU:r≠bF
 Fe:m.2.1.length≤100000
def Ff (lo r bF:Nat) (q:Nat):Prop:=q=r∨q=bF∨lo≤q
theorem tT.drew {lo:Nat} {w:World} {r bF:Nat} {s:aa} {m:aL×Rd} {K V D:aa} {cC cY ct:Nat→Prop} (h:tT lo w r bF s m K V D cC cY ct):tT lo w.drew r bF s m K V D cC cY ct:=
 ⟨h.v.ext (dT w),h.rd.ext (dT w),b6.ext h.keys (dT w),b6.ext h.vals (dT w),eL.ext h.kids (dT w),h.bW,h.bv,h.a6,h.aj,h.Fb,h.Fc,h.tU,h.Fe⟩
theorem Ys {leaf:Bool}:∀ (s:aL×Rd) (i:Nat),s.1.leaf=leaf→(p_ s i).1.leaf=leaf
 |_,0,h=>h
 |s,i+1,h=>by
   have dr:=Ys s i h
   rw[p_]
   unfold E8
   split
   · exact dr
   · exact dr
theorem Yt:∀ (s:aL×Rd) (i:Nat),(p_ s i).1.keys.length=s.1.keys.length+i∧(p_ s i).1.vals.length≤s.1.vals.length+i∧(p_ s i).1.kids.length≤s.1.kids.length+i
 |_,0=>⟨rfl,cR _,cR _⟩
 |s,i+1=>by
   obtain ⟨U,ad,au⟩:=Yt s i
   rw[p_]
   unfold E8
   split<;>simp<;>omega
theorem aiX {lo:Nat} {w:World} {r bF:Nat} {s:aa} {m:aL×Rd} {K V D:aa} {cC cY ct:Nat→Prop} (h:tT lo w r bF s m K V D cC cY ct) (lT:lo≤w.heap.size) (aC:m.1.keys.length≤100000) {R:World→Prop}
   (c9:∀ (w':World) (aT ar:aa) (Ar:Nat→Prop),tT lo w' r bF ar (⟨m.1.leaf,m.1.keys++ [(sY m.2).1],m.1.vals,m.1.kids⟩,(sY m.2).2) aT V D Ar cY ct→ao (Ff lo r bF) w w'→lo≤w'.heap.size→R w'):
   ay w.drew fun gd=>∃sk:Nat→Prop,¬sk (Addr.add ⟨bF,0,none⟩ 1).block∧∃dM:aa,gd.cell? (Addr.add ⟨bF,0,none⟩ 1)=some (.slice dM.a dM.len dM.cap)∧
     Calls Tryz.prog F.wL #[.pointer (some ⟨r,0,none⟩)] gd fun J_ fA=>∃ic:aa,J_= .returned (.slice ic.a ic.len ic.cap)∧ao sk gd fA∧
     ay (fA.alloc (.cells #[.slice ic.a ic.len ic.cap] ah.cn)) fun gb=>ao sk fA gb∧∃dh:aa,∃e8:World,Sem.run Tryz.prog (Builtin.append_ #[ah.cM,ah.cM] ah.cM #[.slice dM.a dM.len dM.cap, .slice (some ⟨fA.heap.size,0,none⟩) 1 1]) gb= .ok (.slice dh.a dh.len dh.cap) e8∧
     (∃u:Value,e8.cell? (Addr.add ⟨bF,0,none⟩ 1)=some u)∧e8.frozen? (Addr.add ⟨bF,0,none⟩ 1)=false∧ay (e8.setCell (Addr.add ⟨bF,0,none⟩ 1) (.slice dh.a dh.len dh.cap)) fun e4=>R e4:=by
 have hd:=h.drew
 have aN:=h.Fb
 have jY:=h.Fc
 obtain ⟨cJ,aV,bA,bd⟩:=cl hd.v
 refine bN ⟨fun q=>q=r,fun e=>h.tU (by rw[aX] at e;exact e.symm),K,aV,(Yq hd.rd hd.Fe).use ?_⟩
 rintro _ fA ⟨t,ar,rfl,aR,c4,al,mo⟩
 have bO:w.drew.heap.size=w.heap.size:=rfl
 have dH:=al.size
 have wM:∀ {B:Nat→Prop},(∀q,B q→lo≤q)→∀k,B k→¬(k=r):=fun fu k ae e=>by have:=fu k ae;omega
 have dW:=b6.an hd.keys al (wM fun q J=>(h.bW q J).1)
 have gR:=b6.an hd.vals al (wM fun q J=>(h.bv q J).1)
 have lY:=eL.an hd.kids al (wM fun q J=>(h.a6 q J).1)
 have Ka:=hd.v.an al (fun e=>h.tU e.symm)
 refine ⟨t,rfl,al,NZ (B:=Grow cC w.drew fA) Ka (o:=1) (by simp) (b6.bz dW fun k _ h=> .inl h) ?_ (bL.bz aR fun k ae h=> .inr ⟨h,ae⟩) ?_ aC fun w' aT aB aF aJ=> ?_⟩
 · rintro (U|U)
   · have:=(h.bW bF U).1;omega
   · omega
 · intro k jX Fg
   obtain ⟨ts,_,_,au,_⟩:=h.keys
   have:=(au k Fg).2
   have:=(aR.2.2 k jX).1
   omega
 have gf:∀q,Grow (Grow cC w.drew fA) fA w' q→cC q∨(w.heap.size≤q∧q<w'.heap.size):=by
   rintro q ((U|U)|U)
   · exact .inl U
   · exact .inr ⟨U.1,lv U.2 aJ.size⟩
   · exact .inr ⟨ju dH U.1,U.2⟩
 have bg:=aJ.size
 have kV:∀q,aQ K q→cC q:=fun q J=>by
   obtain ⟨ts,_,_,au,_⟩:=h.keys
   exact (au q J).1
 refine c9 w' aT ar (fun q=>cC q∨(w.heap.size≤q∧q<w'.heap.size)) ⟨by simpa using aB,c4.an aJ ?_ ?_,b6.bz aF fun k _ ae=>gf k ae,b6.an gR aJ ?_,eL.an lY aJ ?_,?_,fun q J=> ?_,fun q J=> ?_,fun q J=>h.aj q (mo q J),h.Fb,h.Fc,h.tU,ju (Yp m.2).1 h.Fe⟩ ?_ (by omega)
 · rintro (U|U)
   · exact h.tU U
   · have:=(h.bW r (kV r U)).1;omega
 · rintro q J (U|U)
   · exact (h.aj q (mo q J)).2 U
   · have:=(h.bW q (kV q U)).1
     have:=(h.aj q (mo q J)).1;omega
 · rintro q J (U|U)
   · have:=(h.bv q J).1;omega
   · exact (h.bW q (kV q U)).2.2.1 J
 · rintro q J (U|U)
   · have:=(h.a6 q J).1;omega
   · exact (h.bW q (kV q U)).2.2.2 J
 · rintro q (U|U)
   · have:=h.bW q U;exact ⟨this.1,by omega,this.2.2⟩
   · exact ⟨by omega,U.2,fun ad=>by have:=h.bv q ad;omega,fun ad=>by have:=h.a6 q ad;omega⟩
 · have:=h.bv q J;exact ⟨this.1,by omega,this.2.2⟩
 · have:=h.a6 q J;exact ⟨this.1,by omega⟩
 · refine ((ao.eT (dT w)).trans (al.mono fun k _ ae=> .inl ae)).trans (aJ.mono fun k _ ae=> ?_)
   rcases ae with ae|ae
   · exact .inr (.inl ae)
   · exact .inr (.inr (h.bW k (kV k ae)).1)
theorem aiY {lo:Nat} {w:World} {r bF:Nat} {s:aa} {m:aL×Rd} {K V D:aa} {cC cY ct:Nat→Prop} (h:tT lo w r bF s m K V D cC cY ct) (lT:lo≤w.heap.size) (aC:m.1.vals.length≤100000) {R:World→Prop}
   (c9:∀ (w':World) (bM ar:aa) (N0:Nat→Prop),tT lo w' r bF ar (⟨m.1.leaf,m.1.keys,m.1.vals++ [(sY m.2).1],m.1.kids⟩,(sY m.2).2) K bM D cC N0 ct→ao (Ff lo r bF) w w'→lo≤w'.heap.size→R w'):
   ay w.drew fun gd=>∃sk:Nat→Prop,¬sk (Addr.add ⟨bF,0,none⟩ 2).block∧∃dM:aa,gd.cell? (Addr.add ⟨bF,0,none⟩ 2)=some (.slice dM.a dM.len dM.cap)∧
     Calls Tryz.prog F.wL #[.pointer (some ⟨r,0,none⟩)] gd fun J_ fA=>∃ic:aa,J_= .returned (.slice ic.a ic.len ic.cap)∧ao sk gd fA∧
     ay (fA.alloc (.cells #[.slice ic.a ic.len ic.cap] ah.cn)) fun gb=>ao sk fA gb∧∃dh:aa,∃e8:World,Sem.run Tryz.prog (Builtin.append_ #[ah.cM,ah.cM] ah.cM #[.slice dM.a dM.len dM.cap, .slice (some ⟨fA.heap.size,0,none⟩) 1 1]) gb= .ok (.slice dh.a dh.len dh.cap) e8∧
     (∃u:Value,e8.cell? (Addr.add ⟨bF,0,none⟩ 2)=some u)∧e8.frozen? (Addr.add ⟨bF,0,none⟩ 2)=false∧ay (e8.setCell (Addr.add ⟨bF,0,none⟩ 2) (.slice dh.a dh.len dh.cap)) fun e4=>R e4:=by
 have hd:=h.drew
 have aN:=h.Fb
 have jY:=h.Fc
 obtain ⟨cJ,aV,bA,bd⟩:=cl hd.v
 refine bN ⟨fun q=>q=r,fun e=>h.tU (by rw[aX] at e;exact e.symm),V,bA,(Yq hd.rd hd.Fe).use ?_⟩
 rintro _ fA ⟨t,ar,rfl,aR,c4,al,mo⟩
 have bO:w.drew.heap.size=w.heap.size:=rfl
 have dH:=al.size
 have wM:∀ {B:Nat→Prop},(∀q,B q→lo≤q)→∀k,B k→¬(k=r):=fun fu k ae e=>by have:=fu k ae;omega
 have dW:=b6.an hd.keys al (wM fun q J=>(h.bW q J).1)
 have gR:=b6.an hd.vals al (wM fun q J=>(h.bv q J).1)
 have lY:=eL.an hd.kids al (wM fun q J=>(h.a6 q J).1)
 have Ka:=hd.v.an al (fun e=>h.tU e.symm)
 refine ⟨t,rfl,al,NZ (B:=Grow cY w.drew fA) Ka (o:=2) (by simp) (b6.bz gR fun k _ h=> .inl h) ?_ (bL.bz aR fun k ae h=> .inr ⟨h,ae⟩) ?_ aC fun w' bM aB aF aJ=> ?_⟩
 · rintro (U|U)
   · have:=(h.bv bF U).1;omega
   · omega
 · intro k jX Fg
   obtain ⟨ts,_,_,au,_⟩:=h.vals
   have:=(au k Fg).2
   have:=(aR.2.2 k jX).1
   omega
 have gf:∀q,Grow (Grow cY w.drew fA) fA w' q→cY q∨(w.heap.size≤q∧q<w'.heap.size):=by
   rintro q ((U|U)|U)
   · exact .inl U
   · exact .inr ⟨U.1,lv U.2 aJ.size⟩
   · exact .inr ⟨ju dH U.1,U.2⟩
 have bg:=aJ.size
 have kV:∀q,aQ V q→cY q:=fun q J=>by
   obtain ⟨ts,_,_,au,_⟩:=h.vals
   exact (au q J).1
 refine c9 w' bM ar (fun q=>cY q∨(w.heap.size≤q∧q<w'.heap.size)) ⟨by simpa using aB,c4.an aJ ?_ ?_,b6.an dW aJ ?_,b6.bz aF fun k _ ae=>gf k ae,eL.an lY aJ ?_,fun q J=> ?_,?_,fun q J=> ?_,fun q J=>h.aj q (mo q J),h.Fb,h.Fc,h.tU,ju (Yp m.2).1 h.Fe⟩ ?_ (by omega)
 · rintro (U|U)
   · exact h.tU U
   · have:=(h.bv r (kV r U)).1;omega
 · rintro q J (U|U)
   · exact (h.aj q (mo q J)).2 U
   · have:=(h.bv q (kV q U)).1
     have:=(h.aj q (mo q J)).1;omega
 · rintro q J (U|U)
   · have:=(h.bW q J).1;omega
   · exact (h.bW q J).2.2.1 (kV q U)
 · rintro q J (U|U)
   · have:=(h.a6 q J).1;omega
   · exact (h.bv q (kV q U)).2.2 J
 · have:=h.bW q J
   refine ⟨this.1,by omega,?_,this.2.2.2⟩
   rintro (U|U)
   · exact this.2.2.1 U
   · omega
 · rintro q (U|U)
   · have:=h.bv q U;exact ⟨this.1,by omega,this.2.2⟩
   · exact ⟨by omega,U.2,fun ad=>by have:=h.a6 q ad;omega⟩
 · have:=h.a6 q J;exact ⟨this.1,by omega⟩
 · refine ((ao.eT (dT w)).trans (al.mono fun k _ ae=> .inl ae)).trans (aJ.mono fun k _ ae=> ?_)
   rcases ae with ae|ae
   · exact .inr (.inl ae)
   · exact .inr (.inr (h.bv k (kV k ae)).1)
theorem Yu {lo:Nat} {w:World} {r bF:Nat} {s:aa} {m:aL×Rd} {K V D:aa} {cC cY ct:Nat→Prop} (h:tT lo w r bF s m K V D cC cY ct) (lT:lo≤w.heap.size) (aC:m.1.kids.length≤100000) {R:World→Prop}
   (c9:∀ (w':World) (aP ar:aa) (Sd:Nat→Prop),tT lo w' r bF ar (⟨m.1.leaf,m.1.keys,m.1.vals,m.1.kids++ [(rdNum m.2 2).1]⟩,(rdNum m.2 2).2) K V aP cC cY Sd→ao (Ff lo r bF) w w'→lo≤w'.heap.size→R w'):
   ay w.drew fun gd=>∃sk:Nat→Prop,¬sk (Addr.add ⟨bF,0,none⟩ 3).block∧∃dM:aa,gd.cell? (Addr.add ⟨bF,0,none⟩ 3)=some (.slice dM.a dM.len dM.cap)∧
     Calls Tryz.prog F.wK #[.pointer (some ⟨r,0,none⟩), .int .i64 2] gd fun J_ fA=>∃n30:Int,J_= .returned (.int .i64 n30)∧ao sk gd fA∧
     ay (fA.alloc (.cells #[.int .i64 n30] ah.int)) fun gb=>ao sk fA gb∧∃dh:aa,∃e8:World,Sem.run Tryz.prog (Builtin.append_ #[ah.ef,ah.ef] ah.ef #[.slice dM.a dM.len dM.cap, .slice (some ⟨fA.heap.size,0,none⟩) 1 1]) gb= .ok (.slice dh.a dh.len dh.cap) e8∧
     (∃u:Value,e8.cell? (Addr.add ⟨bF,0,none⟩ 3)=some u)∧e8.frozen? (Addr.add ⟨bF,0,none⟩ 3)=false∧ay (e8.setCell (Addr.add ⟨bF,0,none⟩ 3) (.slice dh.a dh.len dh.cap)) fun e4=>R e4:=by
 have hd:=h.drew
 have aN:=h.Fb
 have jY:=h.Fc
 obtain ⟨cJ,aV,bA,bd⟩:=cl hd.v
 refine bN ⟨fun q=>q=r,fun e=>h.tU (by rw[aX] at e;exact e.symm),D,bd,(Sb hd.rd 2 (by decide) hd.Fe).use ?_⟩
 rintro _ fA ⟨ar,rfl,c4,al,mo⟩
 have bO:w.drew.heap.size=w.heap.size:=rfl
 have dH:=al.size
 have wM:∀ {B:Nat→Prop},(∀q,B q→lo≤q)→∀k,B k→¬(k=r):=fun fu k ae e=>by have:=fu k ae;omega
 have dW:=b6.an hd.keys al (wM fun q J=>(h.bW q J).1)
 have gR:=b6.an hd.vals al (wM fun q J=>(h.bv q J).1)
 have lY:=eL.an hd.kids al (wM fun q J=>(h.a6 q J).1)
 have Ka:=hd.v.an al (fun e=>h.tU e.symm)
 refine ⟨_,rfl,al,Yr (rdNum m.2 2).1 (B:=ct) Ka (o:=3) (by simp) lY (fun U=>by have:=(h.a6 bF U).1;omega) aC fun w' aP aB aF aJ=> ?_⟩
 have gf:∀q,Grow ct fA w' q→ct q∨(w.heap.size≤q∧q<w'.heap.size):=by
   rintro q (U|U)
   · exact .inl U
   · exact .inr ⟨ju dH U.1,U.2⟩
 have bg:=aJ.size
 have kV:∀q,aQ D q→ct q:=fun q J=>(h.kids.2 q J).1
 refine c9 w' aP ar (fun q=>ct q∨(w.heap.size≤q∧q<w'.heap.size)) ⟨by simpa using aB,c4.an aJ ?_ ?_,b6.an dW aJ ?_,b6.an gR aJ ?_,eL.bz aF fun k _ ae=>gf k ae,fun q J=> ?_,fun q J=> ?_,?_,fun q J=>h.aj q (mo q J),h.Fb,h.Fc,h.tU,ju (NY m.2 2) h.Fe⟩ ?_ (by omega)
 · rintro (U|U)
   · exact h.tU U
   · have:=(h.a6 r (kV r U)).1;omega
 · rintro q J (U|U)
   · exact (h.aj q (mo q J)).2 U
   · have:=(h.a6 q (kV q U)).1
     have:=(h.aj q (mo q J)).1;omega
 · rintro q J (U|U)
   · have:=(h.bW q J).1;omega
   · exact (h.bW q J).2.2.2 (kV q U)
 · rintro q J (U|U)
   · have:=(h.bv q J).1;omega
   · exact (h.bv q J).2.2 (kV q U)
 · have:=h.bW q J
   refine ⟨this.1,by omega,this.2.2.1,?_⟩
   rintro (U|U)
   · exact this.2.2.2 U
   · omega
 · have:=h.bv q J
   refine ⟨this.1,by omega,?_⟩
   rintro (U|U)
   · exact this.2.2 U
   · omega
 · rintro q (U|U)
   · have:=h.a6 q U;exact ⟨this.1,by omega⟩
   · exact ⟨by omega,U.2⟩
 · refine ((ao.eT (dT w)).trans (al.mono fun k _ ae=> .inl ae)).trans (aJ.mono fun k _ ae=> ?_)
   rcases ae with ae|ae
   · exact .inr (.inl ae)
   · exact .inr (.inr (h.a6 k (kV k ae)).1)
end
end Go.Proofs.YtplieiecebljmaaGreat
