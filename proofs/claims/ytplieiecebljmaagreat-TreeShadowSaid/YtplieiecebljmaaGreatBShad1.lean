/- Contracts of the functions that the statement reaches, and the plain laws over them; each theorem stands with its conditions. -/
import Derived.Laws.Externs
import Derived.Laws.Small
import Derived.Lib.Builder
import Derived.Lib.Bytealg
import Derived.Lib.ConvBytes
import Derived.Lib.MakeNoZero
import Derived.Lib.SlBytesConst
import Derived.Lib.UnsafeStr
import Derived.Test.YtplieiecebljmaaGreatVShad2
namespace Go.Proofs.YtplieiecebljmaaGreat
abbrev Key:=List UInt8
abbrev bo:=Key×Key
def iT:Key→Key→Int
 | [],[]=>0
 | [],_::_=> -1
 |_::_,[]=>1
 |a::x,b::y=>if a.toNat<b.toNat then -1 else if b.toNat<a.toNat then 1 else iT x y
theorem ahP {a b:UInt8} (U:¬a.toNat<b.toNat) (ad:¬b.toNat<a.toNat):a=b:=UInt8.toNat_inj.1 (by omega)
theorem RM:∀a:Key,iT a a=0
 | []=>rfl
 |a::x=>by simp[iT,RM x]
theorem RN:∀ {a b:Key},iT a b=0→a=b
 | [],[],_=>rfl
 | [],_::_,h=>by simp[iT] at h
 |_::_,[],h=>by simp[iT] at h
 |a::x,b::y,h=>by
   unfold iT at h
   split at h
   · cases h
   · rename_i U
     split at h
     · cases h
     · rename_i ad
       rw[ahP U ad,RN h]
theorem ahQ {a b:Key}:iT a b=0↔a=b:=⟨RN,fun h=>h▸RM _⟩
theorem XY:∀a b:Key,iT a b= -1∨iT a b=0∨iT a b=1
 | [],[]=> .inr (.inl rfl)
 | [],_::_=> .inl rfl
 |_::_,[]=> .inr (.inr rfl)
 |a::x,b::y=>by
   unfold iT
   split
   · exact .inl rfl
   · split
     · exact .inr (.inr rfl)
     · exact XY x y
theorem XZ:∀a b:Key,iT b a=-iT a b
 | [],[]=>rfl
 | [],_::_=>rfl
 |_::_,[]=>rfl
 |a::x,b::y=>by
   unfold iT
   by_cases U:a.toNat<b.toNat
   · have ad:¬b.toNat<a.toNat:=by omega
     simp[U,ad]
   · by_cases ad:b.toNat<a.toNat
     · simp[U,ad]
     · simp only[U,ad,if_false]
       exact XZ x y
theorem X0:∀ {a b c:Key},iT a b<0→iT b c<0→iT a c<0
 | [],[],_,h,_=>by simp[iT] at h
 | [],_::_,[],_,h=>by simp[iT] at h
 | [],_::_,_::_,_,_=>by simp[iT]
 |_::_,[],_,h,_=>by simp[iT] at h
 |_::_,_::_,[],_,h=>by simp[iT] at h
 |a::x,b::y,c::z,U,ad=>by
   unfold iT at U ad⊢
   by_cases a7:a.toNat<b.toNat
   · by_cases cQ:b.toNat<c.toNat
     · rw[if_pos (by omega)];decide
     · rw[if_neg cQ] at ad
       by_cases a3:c.toNat<b.toNat
       · rw[if_pos a3] at ad;omega
       · rw[if_pos (by omega)];decide
   · rw[if_neg a7] at U
     by_cases cQ:b.toNat<a.toNat
     · rw[if_pos cQ] at U;omega
     · rw[if_neg cQ] at U
       by_cases a3:b.toNat<c.toNat
       · rw[if_pos (by omega)];decide
       · rw[if_neg a3] at ad
         by_cases a4:c.toNat<b.toNat
         · rw[if_pos a4] at ad;omega
         · rw[if_neg a4] at ad
           rw[if_neg (by omega),if_neg (by omega)]
           exact X0 U ad
def cw (a b:Key):Prop:=iT a b<0
def iy (a b:Key):Prop:=¬iT b a<0
instance (a b:Key):Decidable (cw a b):=by unfold cw;infer_instance
instance (a b:Key):Decidable (iy a b):=by unfold iy;infer_instance
theorem yg {a b c:Key} (U:cw a b) (ad:cw b c):cw a c:=X0 U ad
theorem Cu (a:Key):¬cw a a:=by unfold cw;rw[RM];decide
theorem Ab {a b:Key} (h:cw a b):¬cw b a:=fun ad=>Cu a (yg h ad)
theorem RO (a b:Key):cw a b∨a=b∨cw b a:=by
 unfold cw
 have h:=XZ a b
 rcases XY a b with U|U|U
 · exact .inl (by omega)
 · exact .inr (.inl (RN U))
 · exact .inr (.inr (by omega))
theorem EV {a b:Key}:iy a b↔cw a b∨a=b:=by
 constructor
 · intro h
   rcases RO a b with U|U|U
   · exact .inl U
   · exact .inr U
   · exact absurd U h
 · rintro (h|rfl)
   · exact Ab h
   · exact Cu _
theorem X1 (a:Key):iy a a:=Cu a
theorem qL {a b:Key} (h:cw a b):iy a b:=EV.2 (.inl h)
theorem X2 {a b:Key}:¬cw a b↔iy b a:=Iff.rfl
theorem Cv {a b c:Key} (U:cw a b) (ad:iy b c):cw a c:=by
 rcases EV.1 ad with h|rfl
 · exact yg U h
 · exact U
theorem tM {a b c:Key} (U:iy a b) (ad:cw b c):cw a c:=by
 rcases EV.1 U with h|rfl
 · exact yg h ad
 · exact ad
theorem X3 {a b c:Key} (U:iy a b) (ad:iy b c):iy a c:=by
 rcases EV.1 U with h|rfl
 · exact qL (Cv h ad)
 · exact ad
def oe (l:List bo):Prop:=l.Pairwise fun a b=>cw a.1 b.1
def j2 (l:List bo) (k v:Key):List bo:=(l.filter fun p=>decide (cw p.1 k))++(k,v)::l.filter fun p=>decide (cw k p.1)
def jP (l:List bo) (k:Key):List bo:=l.filter fun p=>decide (p.1≠k)
def j3 (l:List bo) (k:Key):Option Key:=(l.find? fun p=>decide (p.1=k)).map (·.2)
def j4 (l:List bo) (fr to:Key):List bo:=l.filter fun p=>decide (iy fr p.1)&&(to.isEmpty||decide (cw p.1 to))
def k9 (lo hi:Option Key) (k:Key):Prop:=(∀a,lo=some a→iy a k)∧(∀b,hi=some b→cw k b)
theorem ahR {a b:List bo} {k v:Key} (h:∀p∈b,cw k p.1):j2 (a++b) k v=j2 a k v++b:=by
 have ba:b.filter (fun p=>decide (cw p.1 k))=[]:=z1.2 fun p aV=>by simpa using Ab (h p aV)
 have bp:b.filter (fun p=>decide (cw k p.1))=b:=uV.2 fun p aV=>ik (h p aV)
 unfold j2
 rw[z2,z2,ba,bp,lP,eF,EN]
theorem X4 {a b:List bo} {k v:Key} (h:∀p∈a,cw p.1 k):j2 (a++b) k v=a++j2 b k v:=by
 have ba:a.filter (fun p=>decide (cw p.1 k))=a:=uV.2 fun p aV=>ik (h p aV)
 have bp:a.filter (fun p=>decide (cw k p.1))=[]:=z1.2 fun p aV=>by simpa using Ab (h p aV)
 unfold j2
 rw[z2,z2,ba,bp,r6,eF]
theorem G7 (a b:List bo) (k:Key):jP (a++b) k=jP a k++jP b k:=z2 ..
theorem EW {a:List bo} {k:Key} (h:∀p∈a,p.1≠k):jP a k=a:=uV.2 fun p aV=>ik (h p aV)
theorem uX {a b:Key} (h:cw a b):a≠b:=fun e=>Cu b (e▸h)
theorem G8 {a b:List bo}:oe (a++b)↔oe a∧oe b∧∀p∈a,∀q∈b,cw p.1 q.1:=Cl
theorem X5 {l:List bo} {k v:Key} {p:bo}:p∈j2 l k v↔p=(k,v)∨(p∈l∧p.1≠k):=by
 unfold j2
 rw[fa,gg,tH,tH,fE,fE]
 constructor
 · rintro (⟨h,ad⟩|rfl|⟨h,ad⟩)
   · exact .inr ⟨h,uX ad⟩
   · exact .inl rfl
   · exact .inr ⟨h,(uX ad).symm⟩
 · rintro (rfl|⟨h,ad⟩)
   · exact .inr (.inl rfl)
   · rcases RO p.1 k with aq|aq|aq
     · exact .inl ⟨h,aq⟩
     · exact absurd aq ad
     · exact .inr (.inr ⟨h,aq⟩)
end Go.Proofs.YtplieiecebljmaaGreat
namespace Go.Proofs.YtplieiecebljmaaGreat
structure aO where
 leaf:Bool
 keys:List Key
 vals:List Key
 kids:List Nat
 deriving DecidableEq
abbrev Below:=Option Key→Option Key→Nat→List Nat→List bo→Prop
inductive gU (W:Below):Option Key→Option Key→List Key→List Nat→List Nat→List bo→Prop
 |one {lo hi:Option Key} {k:Nat} {p:List Nat} {L:List bo} (h:W lo hi k p L):gU W lo hi [] [k] p L
 |cons {lo hi:Option Key} {s:Key} {k:Nat} {cq cA:List Nat} {b1 cn:List bo} {ks:List Key} {kids:List Nat} (h:W lo (some s) k cq b1) (t:gU W (some s) hi ks kids cA cn):
     gU W lo hi (s::ks) (k::kids) (cq++cA) (b1++cn)
variable {W:Below} {lo hi:Option Key}
theorem gU.len {ks:List Key} {kids p:List Nat} {L:List bo} (h:gU W lo hi ks kids p L):kids.length=ks.length+1:=by
 induction h with
 |one _=>rfl
 |cons _ _ dx=>simp[dx]
theorem gU.app {s:Key} {qM uY:List Key} {ry yh cq cA:List Nat} {b1 cn:List bo} (U:gU W lo (some s) qM ry cq b1) (ad:gU W (some s) hi uY yh cA cn):
   gU W lo hi (qM++s::uY) (ry++yh) (cq++cA) (b1++cn):=by
 generalize hm:some s=m at U
 induction U with
 |one h=>subst hm;exact .cons h ad
 |cons h t dx=>
   rw[eF,eF]
   exact .cons h (dx hm)
theorem gU.cut:∀ {qM:List Key} {s:Key} {uY:List Key} {lo:Option Key} {kids p:List Nat} {L:List bo},gU W lo hi (qM++s::uY) kids p L→
   ∃ (ry yh cq cA:List Nat) (b1 cn:List bo),kids=ry++yh∧p=cq++cA∧L=b1++cn∧gU W lo (some s) qM ry cq b1∧gU W (some s) hi uY yh cA cn
 | [],s,uY,lo,kids,p,L,h=>by
   cases h with
   |cons h t=>exact ⟨_,_,_,_,_,_,rfl,rfl,rfl, .one h,t⟩
 |a::qM,s,uY,lo,kids,p,L,h=>by
   cases h with
   |cons h t=>
     obtain ⟨dJ,eM,cq,cA,b1,cn,rfl,rfl,rfl,U,ad⟩:=gU.cut t
     exact ⟨_::dJ,eM,_++cq,cA,_++b1,cn,rfl,by rw[eF],by rw[eF], .cons h U,ad⟩
theorem gU.mono {V:Below} {ks:List Key} {kids p:List Nat} {L:List bo} (h:gU W lo hi ks kids p L) (hm:∀lo hi k p L,(∀x∈p,x∈p)→W lo hi k p L→V lo hi k p L):gU V lo hi ks kids p L:=by
 induction h with
 |one h=>exact .one (hm _ _ _ _ _ (fun _ h=>h) h)
 |cons h _ dx=>exact .cons (hm _ _ _ _ _ (fun _ h=>h) h) dx
theorem gU.yi {V:Below} {ks:List Key} {kids p:List Nat} {L:List bo} (h:gU W lo hi ks kids p L) (hm:∀lo hi k fv L,(∀x∈fv,x∈p)→W lo hi k fv L→V lo hi k fv L):gU V lo hi ks kids p L:=by
 induction h with
 |one h=>exact .one (hm _ _ _ _ _ (fun _ h=>h) h)
 |cons h _ dx=>
   exact .cons (hm _ _ _ _ _ (fun x af=>tI _ af) h) (dx fun lo hi k fv L aj=>hm lo hi k fv L fun x af=>qH _ (aj x af))
def eG (k:Key):Prop:=1≤k.length∧k.length≤24
structure NG (n:aO):Prop where
 ok:∀k∈n.keys,eG k
 j5:n.keys.Pairwise cw
structure oU (n:aO):Prop extends NG n where
 leaf:n.leaf=true
 len:n.vals.length=n.keys.length
 kids:n.kids=[]
 vals:∀v∈n.vals,v.length≤24
structure RP (n:aO):Prop extends NG n where
 inner:n.leaf=false
 some:n.keys≠ []
 len:n.kids.length=n.keys.length+1
 vals:n.vals=[]
 kids:∀k∈n.kids,k<1600
def aO.gV (n:aO):List bo:=n.keys.zip n.vals
def aO.within (n:aO) (lo hi:Option Key):Prop:=∀k∈n.keys,k9 lo hi k
def jD (P:Nat→Option aO):Nat→Below
 |0=>fun _ _ _ _ _=>False
 |1=>fun lo hi no p L=>∃n,P no=some n∧oU n∧n.within lo hi∧n.keys≠ []∧p=[no]∧L=n.gV
 |h+2=>fun lo hi no p L=>∃n fv,P no=some n∧RP n∧n.within lo hi∧p=no::fv∧
     gU (fun lo hi k p L=>jD P (h+1) lo hi k p L∧∃m,P k=some m∧2≤m.keys.length) lo hi n.keys n.kids fv L
theorem jD.agree {P Q:Nat→Option aO}:∀ {h:Nat} {lo hi:Option Key} {no:Nat} {p:List Nat} {L:List bo},jD P h lo hi no p L→(∀x∈p,P x=Q x)→jD Q h lo hi no p L∧no∈p
 |0,_,_,_,_,_,hw,_=>hw.elim
 |1,_,_,no,_,_,⟨n,U,ad,aq,aK,aW,b7⟩,J=>by
   have hm:no∈ [no]:=by simp
   rw[aW]
   exact ⟨⟨n,by rw[←J no (by rw[aW];exact hm)];exact U,ad,aq,aK,rfl,b7⟩,hm⟩
 |h+2,_,_,no,_,_,⟨n,fv,U,ad,aq,aK,aW⟩,J=>by
   subst aK
   refine ⟨⟨n,fv,by rw[←J no (by simp)];exact U,ad,aq,rfl,aW.yi fun lo hi k q L aj ⟨hw,m,hm,ad⟩=> ?_⟩,by simp⟩
   have:=jD.agree hw fun x af=>J x (wh _ (aj x af))
   exact ⟨this.1,m,by rw[←J k (wh _ (aj k this.2))];exact hm,ad⟩
end Go.Proofs.YtplieiecebljmaaGreat
namespace Go.Proofs.YtplieiecebljmaaGreat
variable {W:Below} {lo hi:Option Key} {P:Nat→Option aO}
theorem ahS {lo hi:Option Key} {s k:Key} (U:k9 lo (some s) k) (ad:k9 lo hi s):k9 lo hi k:=
 ⟨U.1,fun b aa=>yg (U.2 s rfl) (ad.2 b aa)⟩
theorem ahT {lo hi:Option Key} {s k:Key} (U:k9 (some s) hi k) (ad:k9 lo hi s):k9 lo hi k:=
 ⟨fun a aR=>X3 (ad.1 a aR) (U.1 s rfl),U.2⟩
theorem gU.j5 {ks:List Key} {kids p:List Nat} {L:List bo} (h:gU W lo hi ks kids p L) (dY:∀lo hi k p L,W lo hi k p L→oe L∧∀q∈L,k9 lo hi q.1) (ae:ks.Pairwise cw) (aa:∀s∈ks,k9 lo hi s):
   oe L∧∀q∈L,k9 lo hi q.1:=by
 induction h with
 |one h=>exact dY _ _ _ _ _ h
 | @cons lo hi s k cq cA b1 cn ks kids h t dx=>
   obtain ⟨ar,c3⟩:=dY _ _ _ _ _ h
   have tN:=tJ.1 ae
   obtain ⟨bD,cG⟩:=dx tN.2 fun x af=>⟨fun a aR=>by cases aR;exact qL (tN.1 x af),(aa x (wh _ af)).2⟩
   have aj:=aa s List.mem_cons_self
   refine ⟨G8.2 ⟨ar,bD,fun x af y b2=>Cv ((c3 x af).2 s rfl) ((cG y b2).1 s rfl)⟩,fun q J=> ?_⟩
   rcases fa.1 J with J|J
   · exact ahS (c3 q J) aj
   · exact ahT (cG q J) aj
theorem X6:∀ {ks vs:List Key},ks.Pairwise cw→oe (ks.zip vs)
 | [],vs,_=>by rw[List.zip_nil_left];exact List.Pairwise.nil
 |k::ks,[],_=>by rw[List.zip_nil_right];exact List.Pairwise.nil
 |k::ks,v::vs,h=>by
   rw[List.zip_cons_cons]
   have:=tJ.1 h
   exact tJ.2 ⟨fun q J=>this.1 _ (JF J).1,X6 this.2⟩
theorem oU.gV {n:aO} (h:oU n):oe n.gV∧n.gV.length=n.keys.length:=⟨X6 h.j5,by unfold aO.gV;rw[EO,h.len,Nat.min_self]⟩
theorem jD.j5:∀ {h:Nat} {lo hi:Option Key} {no:Nat} {p:List Nat} {L:List bo},jD P h lo hi no p L→oe L∧∀q∈L,k9 lo hi q.1
 |0,_,_,_,_,_,hw=>hw.elim
 |1,_,_,_,_,_,⟨n,_,ad,aq,_,_,b7⟩=>by
   subst b7
   exact ⟨ad.gV.1,fun q J=>aq _ (JF J).1⟩
 |h+2,_,_,_,_,_,⟨n,_,_,ad,aq,_,aW⟩=>aW.j5 (fun _ _ _ _ _ hw=>jD.j5 hw.1) ad.j5 aq
theorem gU.count {ks:List Key} {kids p:List Nat} {L:List bo} (h:gU W lo hi ks kids p L) {c:Nat} (dY:∀lo hi k p L,W lo hi k p L→p.length+1≤L.length∧c≤L.length):
   p.length+kids.length≤L.length∧c*kids.length≤L.length:=by
 induction h with
 |one h=>have:=dY _ _ _ _ _ h;simp;omega
 |cons h _ dx=>
   have:=dY _ _ _ _ _ h
   simp only[eC,oS,Nat.mul_add,lQ]
   omega
theorem jD.count:∀ {h:Nat} {lo hi:Option Key} {no:Nat} {p:List Nat} {L:List bo},jD P h lo hi no p L→((∃m,P no=some m∧2≤m.keys.length)∨2≤h)→p.length+1≤L.length∧2^h≤L.length
 |0,_,_,_,_,_,hw,_=>hw.elim
 |1,_,_,_,_,_,⟨n,U,ad,_,_,aW,b7⟩,hm=>by
   rcases hm with ⟨m,e,hm⟩|hm
   · rw[U] at e
     cases e
     subst aW b7
     have:=ad.gV.2
     simp only[ru];omega
   · omega
 |h+2,_,_,_,_,_,⟨n,fv,_,ad,_,aK,aW⟩,_=>by
   have ak:=aW.count (c:=2^(h+1)) fun lo hi k p L ⟨hw,hm⟩=>jD.count hw (.inl hm)
   have aB:=ad.len
   have aj:1≤n.keys.length:=List.length_pos_iff.2 ad.some
   subst aK
   have:2^(h+1)*2≤2^(h+1)*n.kids.length:=Nat.mul_le_mul_left _ (by omega)
   rw[Nat.pow_succ 2 (h+1)]
   simp only[oS]
   omega
theorem jD.pages {h:Nat} {lo hi:Option Key} {no:Nat} {p:List Nat} {L:List bo} (hw:jD P h lo hi no p L):p.length≤L.length∧1≤L.length∧(2≤h→2^h≤L.length):=by
 match h with
 |0=>exact hw.elim
 |1=>
   obtain ⟨n,U,ad,_,aK,aW,b7⟩:=hw
   subst aW b7
   have:=ad.gV.2
   have hV:=List.length_pos_iff.2 aK
   simp only[ru]
   exact ⟨by omega,by omega,by omega⟩
 |h+2=>
   have:=jD.count hw (.inr (by omega))
   exact ⟨by omega,by omega,fun _=>this.2⟩
end Go.Proofs.YtplieiecebljmaaGreat
namespace Go.Proofs.YtplieiecebljmaaGreat
variable {W V:Below} {lo hi:Option Key}
inductive kW (W:Below) (lo:Option Key):Option Key→List Key→List Nat→List Nat→List bo→Prop
 |nil:kW W lo lo [] [] [] []
 |more {s:Key} {ks:List Key} {kids p:List Nat} {L:List bo} (h:gU W lo (some s) ks kids p L):kW W lo (some s) (ks++ [s]) kids p L
inductive nk (W:Below) (hi:Option Key):Option Key→List Key→List Nat→List Nat→List bo→Prop
 |nil:nk W hi hi [] [] [] []
 |more {s:Key} {ks:List Key} {kids p:List Nat} {L:List bo} (h:gU W (some s) hi ks kids p L):nk W hi (some s) (s::ks) kids p L
variable {m:Option Key} {qM uY:List Key} {ry yh cq cA:List Nat} {b1 cn:List bo}
theorem kW.ahU (U:kW W lo m qM ry cq b1) (ad:gU W m hi uY yh cA cn):gU W lo hi (qM++uY) (ry++yh) (cq++cA) (b1++cn):=by
 cases U with
 |nil=>exact ad
 |more h=>rw[eF];exact h.app ad
theorem gU.post (U:gU W lo m qM ry cq b1) (ad:nk W hi m uY yh cA cn):gU W lo hi (qM++uY) (ry++yh) (cq++cA) (b1++cn):=by
 cases ad with
 |nil=>simpa using U
 |more h=>exact U.app h
theorem kW.cons {s:Key} {k:Nat} {p:List Nat} {L:List bo} (h:W lo (some s) k p L) (t:kW W (some s) m qM ry cq b1):kW W lo m (s::qM) (k::ry) (p++cq) (L++b1):=by
 cases t with
 |nil=>rw[lP,lP];exact kW.more (ks:=[]) (.one h)
 |more t=>exact kW.more (ks:=s::_) (.cons h t)
theorem kW.yi (h:kW W lo m qM ry cq b1) (hm:∀lo hi k fv L,(∀x∈fv,x∈cq)→W lo hi k fv L→V lo hi k fv L):kW V lo m qM ry cq b1:=by
 cases h with
 |nil=>exact .nil
 |more h=>exact .more (h.yi hm)
theorem nk.yi (h:nk W hi m qM ry cq b1) (hm:∀lo hi k fv L,(∀x∈fv,x∈cq)→W lo hi k fv L→V lo hi k fv L):nk V hi m qM ry cq b1:=by
 cases h with
 |nil=>exact .nil
 |more h=>exact .more (h.yi hm)
theorem gU.at {ks:List Key} {kids p:List Nat} {L:List bo} (h:gU W lo hi ks kids p L):∀ (i:Nat) (ae:i<kids.length),∃ (hA eV:Option Key) (cq q cA:List Nat) (b1 M cn:List bo),
   p=cq++(q++cA)∧L=b1++(M++cn)∧W hA eV kids[i] q M∧kW W lo hA (ks.take i) (kids.take i) cq b1∧nk W hi eV (ks.drop i) (kids.drop (i+1)) cA cn:=by
 induction h with
 | @one lo hi k p L h=>
   intro i ae
   have:i=0:=by simp at ae;omega
   subst this
   exact ⟨lo,hi,[],p,[],[],L,[],by simp,by simp,h, .nil, .nil⟩
 | @cons lo hi s k cq cA b1 cn ks kids h t dx=>
   intro i ae
   cases i with
   |zero=>exact ⟨lo,some s,[],cq,cA,[],b1,cn,rfl,rfl,h, .nil, .more t⟩
   |succ i=>
     obtain ⟨hA,eV,a,q,b,A,M,B,rfl,rfl,U,ad,aq⟩:=dx i (by simpa using ae)
     exact ⟨hA,eV,cq++a,q,b,b1++A,M,B,by rw[eF],by rw[eF],U,kW.cons h ad,aq⟩
theorem kW.inv {kids p:List Nat} {L:List bo} (h:kW W lo m [] kids p L):m=lo∧kids=[]∧p=[]∧L=[]:=by
 generalize e:([]:List Key)=K at h
 cases h with
 |nil=>exact ⟨rfl,rfl,rfl,rfl⟩
 |more h=>simp at e
theorem nk.head {ks:List Key} {kids p:List Nat} {L:List bo} (h:nk W hi m ks kids p L) (ae:0<kids.length):∃ (s:Key) (eV:Option Key) (q cA:List Nat) (M cn:List bo) (aj:0<ks.length),
   m=some s∧s=ks[0]∧p=q++cA∧L=M++cn∧W (some s) eV (kids[0]) q M∧nk W hi eV (ks.drop 1) (kids.drop 1) cA cn:=by
 cases h with
 |nil=>simp at ae
 | @more s ks kids p L h=>
   obtain ⟨hA,eV,cq,q,cA,b1,M,cn,rfl,rfl,U,ad,aq⟩:=h.at 0 ae
   rw[List.take_zero] at ad
   obtain ⟨rfl,_,rfl,rfl⟩:=ad.inv
   exact ⟨s,eV,q,cA,M,cn,by simp,rfl,rfl,rfl,rfl,U,by simpa using aq⟩
end Go.Proofs.YtplieiecebljmaaGreat
namespace Go.Proofs.YtplieiecebljmaaGreat
variable {W V:Below} {lo hi m:Option Key}
def fT (ks:List Key) (k:Key):Nat:=ks.findIdx fun s=>decide (cw k s)
theorem NH (ks:List Key) (k:Key):fT ks k≤ks.length:=List.findIdx_le_length
theorem ahV {ks:List Key} {k:Key} {i:Nat} (h:i<fT ks k) (hi:i<ks.length):iy ks[i] k:=by
 have:=List.not_of_lt_findIdx h
 exact X2.1 (by simpa using this)
theorem ahW {ks:List Key} {k:Key} (h:fT ks k<ks.length):cw k ks[fT ks k]:=by
 have:=List.findIdx_getElem (p:=fun s=>decide (cw k s)) (xs:=ks) (w:=h)
 exact dL this
theorem kW.ahX {i:Nat} {ks:List Key} {kids p:List Nat} {L:List bo} (h:kW W lo m (ks.take i) kids p L) {k:Key} (aB:∀ (j:Nat) (aZ:j<ks.length),j<i→iy ks[j] k) (ae:∀a,lo=some a→iy a k):∀a,m=some a→iy a k:=by
 generalize e:ks.take i=K at h
 cases h with
 |nil=>exact ae
 | @more s RQ kids p L h=>
   intro a aR
   cases aR
   have hm:s∈ks.take i:=by rw[e];simp
   obtain ⟨j,aZ,rfl⟩:=List.mem_take_iff_getElem.1 hm
   exact aB j (by omega) (by omega)
theorem nk.ahY {i:Nat} {ks:List Key} {kids p:List Nat} {L:List bo} (h:nk W hi m (ks.drop i) kids p L) {k:Key} (aB:∀ (h:i<ks.length),cw k ks[i]) (ae:∀a,hi=some a→cw k a):∀a,m=some a→cw k a:=by
 generalize e:ks.drop i=K at h
 cases h with
 |nil=>exact ae
 | @more s RQ kids p L h=>
   intro a aR
   cases aR
   have a6:i<ks.length:=by
     have:=congrArg List.length e
     simp at this;omega
   have:ks[i]=s:=by
     have:=tK a6
     rw[e] at this
     exact (List.cons.inj this).1.symm
   rw[←this];exact aB a6
theorem kW.below {ks:List Key} {kids p:List Nat} {L:List bo} (h:kW W lo m ks kids p L) (dY:∀lo hi k p L,W lo hi k p L→oe L∧∀q∈L,k9 lo hi q.1) (ae:ks.Pairwise cw) (aa:∀s∈ks,k9 lo hi s)
   {k:Key} (hm:∀a,m=some a→iy a k):∀q∈L,cw q.1 k:=by
 cases h with
 |nil=>intro q J;cases J
 | @more s RQ kids p L h=>
   have iz:=Cl.1 ae
   have:=h.j5 dY iz.1 fun x af=>⟨(aa x (by simp[af])).1,fun b aa=>by cases aa;exact iz.2.2 x af s (by simp)⟩
   exact fun q J=>Cv ((this.2 q J).2 s rfl) (hm s rfl)
theorem nk.ahZ {ks:List Key} {kids p:List Nat} {L:List bo} (h:nk W hi m ks kids p L) (dY:∀lo hi k p L,W lo hi k p L→oe L∧∀q∈L,k9 lo hi q.1) (ae:ks.Pairwise cw) (aa:∀s∈ks,k9 lo hi s)
   {k:Key} (hm:∀a,m=some a→cw k a):∀q∈L,cw k q.1:=by
 cases h with
 |nil=>intro q J;cases J
 | @more s RQ kids p L h=>
   have iz:=tJ.1 ae
   have:=h.j5 dY iz.2 fun x af=>⟨fun a aR=>by cases aR;exact qL (iz.1 x af),(aa x (by simp[af])).2⟩
   exact fun q J=>Cv (hm s rfl) ((this.2 q J).1 s rfl)
def Loc (k:Key) (u:List bo→List bo):Prop:=∀b1 M cn:List bo,(∀p∈b1,cw p.1 k)→(∀p∈cn,cw k p.1)→u (b1++(M++cn))=b1++(u M++cn)
theorem ah0 (k v:Key):Loc k fun L=>j2 L k v:=fun b1 M cn U ad=>by
 show j2 _ _ _=_
 rw[X4 U,ahR ad]
theorem RR (k:Key):Loc k fun L=>jP L k:=fun b1 M cn U ad=>by
 show jP _ _=_
 rw[G7,G7,EW fun p aV=>uX (U p aV),EW fun p aV=>(uX (ad p aV)).symm]
end Go.Proofs.YtplieiecebljmaaGreat
namespace Go.Proofs.YtplieiecebljmaaGreat
variable {W V:Below} {lo hi m:Option Key} {P Q:Nat→Option aO}
def kG (P:Nat→Option aO) (h:Nat):Below:=fun lo hi k p L=>jD P h lo hi k p L∧∃m,P k=some m∧2≤m.keys.length
theorem kG.agree {h no:Nat} {p:List Nat} {L:List bo} (hw:kG P h lo hi no p L) (J:∀x∈p,P x=Q x):kG Q h lo hi no p L:=by
 obtain ⟨U,m,ad,aq⟩:=hw
 have:=U.agree J
 exact ⟨this.1,m,by rw[←J no this.2];exact ad,aq⟩
theorem ah1 {α:Type} {l:List α} (h:1≤l.length):l≠ []:=fun e=>by subst e;simp at h
theorem kG.in {h no:Nat} {p:List Nat} {L:List bo} (hw:kG P h lo hi no p L):L≠ []∧oe L∧∀q∈L,k9 lo hi q.1:=⟨ah1 hw.1.pages.2.1,hw.1.j5⟩
theorem gU.sorted {ks:List Key} {kids p:List Nat} {L:List bo} (h:gU W lo hi ks kids p L) (dY:∀lo hi k p L,W lo hi k p L→L≠ []∧oe L∧∀q∈L,k9 lo hi q.1):
   L≠ []∧(∀q∈L,k9 lo hi q.1)∧ks.Pairwise cw∧∀s∈ks,(∀a,lo=some a→cw a s)∧∀b,hi=some b→cw s b:=by
 induction h with
 |one h=>exact ⟨(dY _ _ _ _ _ h).1,(dY _ _ _ _ _ h).2.2, .nil,by simp⟩
 | @cons lo hi s k cq cA b1 cn ks kids h t dx=>
   obtain ⟨dc,_,c3⟩:=dY _ _ _ _ _ h
   obtain ⟨c7,cG,bD,aw⟩:=dx
   obtain ⟨x,af⟩:=JG _ dc
   obtain ⟨y,b2⟩:=JG _ c7
   have k_:∀a,lo=some a→cw a s:=fun a aR=>tM ((c3 x af).1 a aR) ((c3 x af).2 s rfl)
   have mD:∀b,hi=some b→cw s b:=fun b aa=>tM ((cG y b2).1 s rfl) ((cG y b2).2 b aa)
   refine ⟨by simp[dc],fun q J=> ?_,tJ.2 ⟨fun z bF=>(aw z bF).1 s rfl,bD⟩,fun z bF=> ?_⟩
   · rcases fa.1 J with J|J
     · exact ⟨(c3 q J).1,fun b aa=>yg ((c3 q J).2 s rfl) (mD b aa)⟩
     · exact ⟨fun a aR=>qL (Cv (k_ a aR) ((cG q J).1 s rfl)),(cG q J).2⟩
   · rcases gg.1 bF with rfl|bF
     · exact ⟨k_,mD⟩
     · exact ⟨fun a aR=>yg (k_ a aR) ((aw z bF).1 s rfl),(aw z bF).2⟩
def fK (P:Nat→Option aO):Nat→aO→Option Key→Option Key→List Nat→List bo→Prop
 |0,_,_,_,_,_=>False
 |1,n,lo,hi,p,L=>oU n∧n.within lo hi∧p=[]∧L=n.gV
 |h+2,n,lo,hi,p,L=>n.leaf=false∧n.vals=[]∧(∀k∈n.keys,eG k)∧(∀k∈n.kids,k<1600)∧gU (kG P (h+1)) lo hi n.keys n.kids p L
theorem fK.agree:∀ {h:Nat} {n:aO} {p:List Nat} {L:List bo},fK P h n lo hi p L→(∀x∈p,P x=Q x)→fK Q h n lo hi p L
 |0,_,_,_,h,_=>h.elim
 |1,_,_,_,h,_=>h
 |_+2,_,_,_,⟨U,ad,aq,aK,aW⟩,J=>⟨U,ad,aq,aK,aW.yi fun _ _ _ _ _ aj hw=>hw.agree fun x af=>J x (aj x af)⟩
theorem fK.lay:∀ {h:Nat} {n:aO} {x:Nat} {p:List Nat} {L:List bo},fK P h n lo hi p L→n.keys≠ []→Q x=some n→(∀y∈p,P y=Q y)→jD Q h lo hi x (x::p) L
 |0,_,_,_,_,h,_,_,_=>h.elim
 |1,n,x,p,L,⟨U,ad,aq,aK⟩,ae,af,_=>by
   subst aq
   exact ⟨n,af,U,ad,ae,rfl,aK⟩
 |h+2,n,x,p,L,al,ae,af,J=>by
   obtain ⟨U,ad,aq,aK,aW⟩:=al.agree J
   have aj:=aW.sorted fun _ _ _ _ _ hw=>hw.in
   exact ⟨n,p,af,⟨⟨aq,aj.2.2.1⟩,U,ae,aW.len,ad,aK⟩,fun s mD=>⟨fun a aR=>qL ((aj.2.2.2 s mD).1 a aR),(aj.2.2.2 s mD).2⟩,rfl,aW⟩
def aO.left (n:aO) (i:Nat):aO:=if n.leaf then ⟨true,n.keys.take i,n.vals.take i,[]⟩ else ⟨false,n.keys.take i,[],n.kids.take (i+1)⟩
def aO.right (n:aO) (i:Nat):aO:=if n.leaf then ⟨true,n.keys.drop i,n.vals.drop i,[]⟩ else ⟨false,n.keys.drop (i+1),[],n.kids.drop (i+1)⟩
theorem fK.leaf {h:Nat} {n:aO} {p:List Nat} {L:List bo} (al:fK P h n lo hi p L):n.leaf=decide (h=1):=by
 match h,al with
 |0,al=>exact al.elim
 |1,al=>rw[al.1.leaf];rfl
 |h+2,al=>rw[al.1];simp
theorem fK.RS {h:Nat} {n:aO} {p:List Nat} {L:List bo} (al:fK P h n lo hi p L) {i:Nat} (U:1≤i) (gW:i<n.keys.length):
   ∃ (cq cA:List Nat) (b1 cn:List bo),p=cq++cA∧L=b1++cn∧fK P h (n.left i) lo (some n.keys[i]) cq b1∧fK P h (n.right i) (some n.keys[i]) hi cA cn:=by
 match h,al with
 |0,al=>exact al.elim
 |1,⟨a,b,c,d⟩=>
   subst c d
   have aY:=a.j5
   have qf:n.keys=n.keys.take i++n.keys.drop i:=(qI _ _).symm
   have fU:=aY
   rw[qf] at fU
   obtain ⟨ar,bD,bR⟩:=Cl.1 fU
   have hd:n.keys.drop i=n.keys[i]::n.keys.drop (i+1):=tK gW
   have aA:n.left i=⟨true,n.keys.take i,n.vals.take i,[]⟩:=by unfold aO.left;rw[a.leaf];rfl
   have bl:n.right i=⟨true,n.keys.drop i,n.vals.drop i,[]⟩:=by unfold aO.right;rw[a.leaf];rfl
   rw[aA,bl]
   refine ⟨[],[],n.gV.take i,n.gV.drop i,rfl,(qI _ _).symm,⟨⟨⟨fun k ae=>a.ok k (kE ae),ar⟩,rfl,by simp[a.len],rfl,fun v al=>a.vals v (kE al)⟩,fun k ae=>⟨(b k (kE ae)).1,fun s aj=> ?_⟩,rfl,?_⟩,
     ⟨⟨⟨fun k ae=>a.ok k (kp ae),bD⟩,rfl,by simp[a.len],rfl,fun v al=>a.vals v (kp al)⟩,fun k ae=>⟨fun s aj=> ?_,(b k (kp ae)).2⟩,rfl,?_⟩⟩
   · cases aj
     exact bR k ae _ (by rw[hd];exact List.mem_cons_self)
   · exact List.take_zipWith
   · cases aj
     have ae:k∈n.keys.drop i:=ae
     rw[hd] at ae bD
     rcases gg.1 ae with rfl|ae
     · exact X1 _
     · exact qL ((tJ.1 bD).1 k ae)
   · exact List.drop_zipWith
 |h+2,⟨a,b,c,d,e⟩=>
   have aA:n.left i=⟨false,n.keys.take i,[],n.kids.take (i+1)⟩:=by unfold aO.left;rw[a];rfl
   have bl:n.right i=⟨false,n.keys.drop (i+1),[],n.kids.drop (i+1)⟩:=by unfold aO.right;rw[a];rfl
   have qf:n.keys=n.keys.take i++n.keys[i]::n.keys.drop (i+1):=by rw[←tK gW,qI]
   rw[qf] at e
   obtain ⟨dJ,eM,cq,cA,b1,cn,ba,rfl,rfl,s1,s2⟩:=e.cut
   have aB:=s1.len
   rw[ee,r7 (by omega)] at aB
   have ah2:n.kids.take (i+1)=dJ:=by rw[ba,←aB,List.take_left]
   have ah3:n.kids.drop (i+1)=eM:=by rw[ba,←aB,List.drop_left]
   rw[aA,bl,ah2,ah3]
   exact ⟨cq,cA,b1,cn,rfl,rfl,⟨rfl,rfl,fun k ae=>c k (kE ae),fun k ae=>d k (by rw[ba];simp[ae]),s1⟩,⟨rfl,rfl,fun k ae=>c k (kp ae),fun k ae=>d k (by rw[ba];simp[ae]),s2⟩⟩
end Go.Proofs.YtplieiecebljmaaGreat
namespace Go.Proofs.YtplieiecebljmaaGreat
variable {lo hi:Option Key} {P Q:Nat→Option aO}
def hC (a:aO) (s:Key) (b:aO):aO:=if a.leaf then ⟨true,a.keys++b.keys,a.vals++b.vals,[]⟩ else ⟨false,a.keys++s::b.keys,[],a.kids++b.kids⟩
theorem EX {a b c d:List Key} (h:a.length=c.length):(a++b).zip (c++d)=a.zip c++b.zip d:=List.zip_append h
theorem fK.merge {h:Nat} {a b:aO} {s:Key} {pa NI:List Nat} {NJ NK:List bo} (aR:fK P h a lo (some s) pa NJ) (aa:fK P h b (some s) hi NI NK) (aj:eG s) (Ac:∀k,lo=some k→iy k s) (ah4:∀k,hi=some k→iy s k):
   fK P h (hC a s b) lo hi (pa++NI) (NJ++NK):=by
 match h,aR,aa with
 |0,aR,_=>exact aR.elim
 |1,⟨a7,cQ,a3,a4⟩,⟨c3,cG,eT,eQ⟩=>
   subst a3 a4 eT eQ
   have e:hC a s b=⟨true,a.keys++b.keys,a.vals++b.vals,[]⟩:=by unfold hC;rw[a7.leaf];rfl
   rw[e]
   refine ⟨⟨⟨fun k ae=> ?_,Cl.2 ⟨a7.j5,c3.j5,fun x af y b2=>Cv ((cQ x af).2 s rfl) ((cG y b2).1 s rfl)⟩⟩,rfl,by simp[a7.len,c3.len],rfl,fun v al=> ?_⟩,fun k ae=> ?_,rfl,?_⟩
   · rcases fa.1 ae with ae|ae
     · exact a7.ok k ae
     · exact c3.ok k ae
   · rcases fa.1 al with al|al
     · exact a7.vals v al
     · exact c3.vals v al
   · rcases fa.1 ae with ae|ae
     · exact ⟨(cQ k ae).1,fun c ak=>Cv ((cQ k ae).2 s rfl) (ah4 c ak)⟩
     · exact ⟨fun c ak=>X3 (Ac c ak) ((cG k ae).1 s rfl),(cG k ae).2⟩
   · exact (EX a7.len.symm).symm
 |h+2,⟨a7,cQ,a3,a4,a5⟩,⟨c3,cG,eT,eQ,iA⟩=>
   have e:hC a s b=⟨false,a.keys++s::b.keys,[],a.kids++b.kids⟩:=by unfold hC;rw[a7];rfl
   rw[e]
   refine ⟨rfl,rfl,fun k ae=> ?_,fun k ae=> ?_,a5.app iA⟩
   · rcases fa.1 ae with ae|ae
     · exact a3 k ae
     · rcases gg.1 ae with rfl|ae
       · exact aj
       · exact eT k ae
   · rcases fa.1 ae with ae|ae
     · exact a4 k ae
     · exact eQ k ae
theorem jD.wq {h no:Nat} {p:List Nat} {L:List bo} (hw:jD P h lo hi no p L):∃n fv,P no=some n∧p=no::fv∧n.keys≠ []∧fK P h n lo hi fv L:=by
 match h,hw with
 |0,hw=>exact hw.elim
 |1,⟨n,U,ad,aq,aK,aW,b7⟩=>exact ⟨n,[],U,aW,aK,ad,aq,rfl,b7⟩
 |h+2,⟨n,fv,U,ad,aq,aK,aW⟩=>exact ⟨n,fv,U,aK,ad.some,ad.inner,ad.vals,ad.ok,ad.kids,aW⟩
def mn (n:aO) (fr to:Nat) (ks:List Key) (kids:List Nat):aO:=⟨false,n.keys.take fr++ks++n.keys.drop (to-1),[],n.kids.take fr++kids++n.kids.drop to⟩
end Go.Proofs.YtplieiecebljmaaGreat
namespace Go.Proofs.YtplieiecebljmaaGreat
def cellsOf (n:aO):List Nat:=if n.leaf then List.zipWith (fun k v=>2+k.length+v.length) n.keys n.vals else n.keys.map fun k=>3+k.length
def cr (n:aO):Nat:=(if n.leaf then 1 else 3)+(cellsOf n).sum
def mW (c:List Nat) (most:Nat):Nat:=match (List.range most).find? fun i=>decide (c.sum≤2*(c.take (i+1)).sum) with
 |some i=>i+1
 |none=>most
theorem Cw {B:Nat}:∀ {l:List Nat},(∀x∈l,x≤B)→l.sum≤B*l.length
 | [],_=>by simp
 |a::l,h=>by
   have U:=h a (by simp)
   have ad:=Cw (l:=l) fun x af=>h x (by simp[af])
   rw[JH,oS,Nat.mul_add,lQ]
   omega
theorem RT (l:List Nat) (i:Nat):(l.take i).sum+(l.drop i).sum=l.sum:=by
 rw[←x8,qI]
theorem G9 {l:List Nat} {i:Nat} (h:i<l.length):(l.take (i+1)).sum=(l.take i).sum+l[i]:=by
 rw[sL h,x8];simp
theorem X7 {c:List Nat} {most:Nat} (hm:1≤most) (aj:0<c.sum):1≤mW c most∧mW c most≤most∧2*(c.take (mW c most-1)).sum<c.sum∧(mW c most=most∨c.sum≤2*(c.take (mW c most)).sum):=by
 unfold mW
 cases h:(List.range most).find? fun i=>decide (c.sum≤2*(c.take (i+1)).sum) with
 |none=>
   have aD:=rv.1 h
   refine ⟨hm,cP _,?_, .inl rfl⟩
   by_cases U:most=1
   · subst U;simpa using aj
   · have:=aD (most-2) (wi.2 (by omega))
     have e:most-2+1=most-1:=by omega
     rw[e] at this
     simp at this
     exact this
 |some i=>
   have hi:i<most:=wi.1 (x9 h)
   have aV:=z6 h
   refine ⟨by simp,by simp;omega,?_, .inr (by simpa using aV)⟩
   show 2*(c.take (i+1-1)).sum<c.sum
   rw[Nat.add_sub_cancel]
   cases i with
   |zero=>simpa using aj
   |succ j=>
     have:=(List.find?_range_eq_some.1 h).2.2 j (by omega)
     simpa using this
theorem ah5 {c:List Nat} (fc:∀x∈c,x≤50) (U:232≤c.sum) (ad:c.sum≤309):
   2≤mW c (c.length-1)∧mW c (c.length-1)+2≤c.length∧(c.take (mW c (c.length-1))).sum≤231∧(c.drop (mW c (c.length-1))).sum≤231:=by
 have aB:=Cw fc
 have c4:=X7 (c:=c) (most:=c.length-1) (by omega) (by omega)
 generalize mW c (c.length-1)=i at c4⊢
 obtain ⟨a7,cQ,a3,a4⟩:=c4
 have aj:=RT c i
 have aU:=G9 (l:=c) (i:=i-1) (by omega)
 rw[Nat.sub_add_cancel a7] at aU
 have ak:=fc c[i-1] (e3 _)
 have hd:=Cw (l:=c.drop i) fun x af=>fc x (kp af)
 have ae:=Cw (l:=c.take i) fun x af=>fc x (kE af)
 rw[fF] at hd
 rw[ee,r7 (by omega)] at ae
 have key:c.sum≤2*(c.take i).sum:=by
   rcases a4 with h|h
   · have:c.length-i=1:=by omega
     rw[this] at hd
     omega
   · exact h
 refine ⟨by omega,?_,by omega,by omega⟩
 rcases hJ (c.length-i) 2 with h|h
 · have:c.length-i=1:=by omega
   rw[this] at hd;omega
 · omega
theorem ah6 {c:List Nat} (fc:∀x∈c,x≤27) (U:230≤c.sum) (ad:c.sum≤332):
   2≤mW c (c.length-2)∧mW c (c.length-2)+3≤c.length∧(c.take (mW c (c.length-2))).sum≤229∧(c.drop (mW c (c.length-2)+1)).sum≤229:=by
 have aB:=Cw fc
 have c4:=X7 (c:=c) (most:=c.length-2) (by omega) (by omega)
 generalize mW c (c.length-2)=i at c4⊢
 obtain ⟨a7,cQ,a3,a4⟩:=c4
 have aj:=RT c (i+1)
 have aU:=G9 (l:=c) (i:=i-1) (by omega)
 have hu:=G9 (l:=c) (i:=i) (by omega)
 rw[Nat.sub_add_cancel a7] at aU
 have ak:=fc c[i-1] (e3 _)
 have dh:=fc c[i] (e3 _)
 have hd:=Cw (l:=c.drop (i+1)) fun x af=>fc x (kp af)
 have ae:=Cw (l:=c.take i) fun x af=>fc x (kE af)
 rw[fF] at hd
 rw[ee,r7 (by omega)] at ae
 have key:c.sum≤2*(c.take i).sum:=by
   rcases a4 with h|h
   · have:c.length-(i+1)=1:=by omega
     rw[this] at hd
     omega
   · exact h
 refine ⟨by omega,?_,by omega,by omega⟩
 rcases hJ (c.length-(i+1)) 2 with h|h
 · have:c.length-(i+1)≤1:=by omega
   have:27*(c.length-(i+1))≤27*1:=Nat.mul_le_mul_left _ this
   omega
 · omega
end Go.Proofs.YtplieiecebljmaaGreat
namespace Go.Proofs.YtplieiecebljmaaGreat
variable {W:Below} {lo hi m:Option Key} {P Q:Nat→Option aO}
theorem nk.inv {kids p:List Nat} {L:List bo} (h:nk W hi m [] kids p L):m=hi∧kids=[]∧p=[]∧L=[]:=by
 generalize e:([]:List Key)=K at h
 cases h with
 |nil=>exact ⟨rfl,rfl,rfl,rfl⟩
 |more h=>simp at e
theorem kW.last {ks:List Key} {kids p:List Nat} {L:List bo} (h:kW W lo m ks kids p L) (ae:0<kids.length):∃ (s:Key) (hA:Option Key) (cq r:List Nat) (b1 N:List bo) (aj:0<ks.length),
   m=some s∧s=ks[ks.length-1]∧p=cq++r∧L=b1++N∧W hA (some s) (kids[kids.length-1]) r N∧kW W lo hA (ks.take (ks.length-1)) (kids.take (kids.length-1)) cq b1∧kids.length=ks.length:=by
 cases h with
 |nil=>simp at ae
 | @more s ks kids p L h=>
   have aB:=h.len
   obtain ⟨hA,eV,cq,q,cA,b1,M,cn,rfl,rfl,U,ad,aq⟩:=h.at (kids.length-1) (by omega)
   rw[List.drop_of_length_le (by omega)] at aq
   obtain ⟨rfl,_,rfl,rfl⟩:=aq.inv
   refine ⟨s,hA,cq,q,b1,M,by simp,rfl,by simp,by simp,by simp,U,?_,by simp;omega⟩
   have e:(ks++ [s]).take ((ks++ [s]).length-1)=ks.take (kids.length-1):=by
     rw[aB];simp
   rw[e];exact ad
theorem fK.at {h:Nat} {n:aO} {p:List Nat} {L:List bo} (al:fK P (h+2) n lo hi p L) {k:Key} (ae:k9 lo hi k):∃ (hA eV:Option Key) (cq q cA:List Nat) (b1 M cn:List bo) (aa:fT n.keys k<n.kids.length),
   p=cq++(q++cA)∧L=b1++(M++cn)∧kG P (h+1) hA eV n.kids[fT n.keys k] q M∧k9 hA eV k∧(∀u,Loc k u→u L=b1++(u M++cn))∧n.kids.length=n.keys.length+1∧
   kW (kG P (h+1)) lo hA (n.keys.take (fT n.keys k)) (n.kids.take (fT n.keys k)) cq b1∧nk (kG P (h+1)) hi eV (n.keys.drop (fT n.keys k)) (n.kids.drop (fT n.keys k+1)) cA cn:=by
 obtain ⟨a,b,c,d,e⟩:=al
 have aB:=e.len
 have hle:=NH n.keys k
 have aj:=e.sorted fun _ _ _ _ _ hw=>hw.in
 have fG:∀s∈n.keys,k9 lo hi s:=fun s h=>⟨fun a aR=>qL ((aj.2.2.2 s h).1 a aR),(aj.2.2.2 s h).2⟩
 obtain ⟨hA,eV,cq,q,cA,b1,M,cn,rfl,rfl,U,ad,aq⟩:=e.at (fT n.keys k) (by omega)
 have mE:=ad.ahX (k:=k) (fun j aZ h=>ahV h aZ) ae.1
 have G_:=aq.ahY (k:=k) (fun h=>ahW h) ae.2
 have ah7:(n.keys.take (fT n.keys k)).Pairwise cw:=aj.2.2.1.sublist (List.take_sublist _ _)
 have fL:(n.keys.drop (fT n.keys k)).Pairwise cw:=aj.2.2.1.sublist (List.drop_sublist _ _)
 exact ⟨hA,eV,cq,q,cA,b1,M,cn,by omega,rfl,rfl,U,⟨mE,G_⟩,fun u hu=>hu _ _ _ (ad.below (hi:=hi) (fun _ _ _ _ _ hw=>hw.in.2) ah7 (fun s h=>fG s (kE h)) mE) (aq.ahZ (lo:=lo) (fun _ _ _ _ _ hw=>hw.in.2) fL (fun s h=>fG s (kp h)) G_),
   aB,ad,aq⟩
theorem fK.build {h:Nat} {hA eV:Option Key} {Ad yj ks:List Key} {EY EZ kids cq cA q:List Nat} {b1 M cn:List bo} (U:kW (kG P (h+1)) lo hA Ad EY cq b1) (ad:nk (kG P (h+1)) hi eV yj EZ cA cn)
   (aj:gU (kG Q (h+1)) hA eV ks kids q M) (J:∀x∈cq++cA,P x=Q x) (ae:∀s∈Ad++ks++yj,eG s) (hd:∀x∈EY++kids++EZ,x<1600):
   fK Q (h+2) ⟨false,Ad++ks++yj,[],EY++kids++EZ⟩ lo hi (cq++(q++cA)) (b1++(M++cn)):=by
 have aC:kW (kG Q (h+1)) lo hA Ad EY cq b1:=U.yi fun _ _ _ _ _ aj hw=>hw.agree fun x af=>J x (tI _ (aj x af))
 have aG:nk (kG Q (h+1)) hi eV yj EZ cA cn:=ad.yi fun _ _ _ _ _ aj hw=>hw.agree fun x af=>J x (qH _ (aj x af))
 refine ⟨rfl,rfl,ae,hd,?_⟩
 show gU _ lo hi (Ad++ks++yj) (EY++kids++EZ) _ _
 rw[eF,eF]
 exact aC.ahU (aj.post aG)
end Go.Proofs.YtplieiecebljmaaGreat
namespace Go.Proofs.YtplieiecebljmaaGreat
variable {lo hi:Option Key} {P Q:Nat→Option aO}
theorem fK.one {h x:Nat} {n:aO} {p:List Nat} {L:List bo} (al:fK P h n lo hi p L) (ad:2≤n.keys.length) (af:Q x=some n) (J:∀y∈p,P y=Q y):gU (kG Q h) lo hi [] [x] (x::p) L:=
 .one ⟨al.lay (fun e=>by rw[e] at ad;simp at ad) af J,n,af,ad⟩
theorem wu {n:aO} (h:n.leaf=true):cellsOf n=List.zipWith (fun k v=>2+k.length+v.length) n.keys n.vals:=by unfold cellsOf;rw[h];rfl
theorem wv {n:aO} (h:n.leaf=false):cellsOf n=n.keys.map fun k=>3+k.length:=by unfold cellsOf;rw[h];rfl
theorem RU {B:Nat} {f:Key→Key→Nat}:∀ {ks vs:List Key},(∀k∈ks,∀v∈vs,f k v≤B)→∀x∈List.zipWith f ks vs,x≤B
 | [],vs,_,x,af=>by simp at af
 |k::ks,[],_,x,af=>by simp at af
 |k::ks,v::vs,h,x,af=>by
   rw[List.zipWith_cons_cons] at af
   rcases gg.1 af with rfl|af
   · exact h k (by simp) v (by simp)
   · exact RU (fun k ae v al=>h k (by simp[ae]) v (by simp[al])) x af
def dm (n:aO):Nat:=mW (cellsOf n) (if n.leaf then n.keys.length-1 else n.keys.length-2)
theorem fK.two {h x y:Nat} {n:aO} {p:List Nat} {L:List bo} (al:fK P h n lo hi p L) (U:232<cr n) (ad:n.leaf=true→cr n≤310) (aq:n.leaf=false→cr n≤335):
   1≤dm n∧(if n.leaf then dm n≤n.keys.length-1∧1≤n.keys.length-1 else dm n≤n.keys.length-2∧1≤n.keys.length-2)∧cr (n.left (dm n))≤232∧cr (n.right (dm n))≤232∧
     ∃ (aa:dm n<n.keys.length) (cq cA:List Nat) (b1 cn:List bo),p=cq++cA∧L=b1++cn∧eG n.keys[dm n]∧
       (Q x=some (n.left (dm n))→Q y=some (n.right (dm n))→(∀z∈p,P z=Q z)→gU (kG Q h) lo hi [n.keys[dm n]] [x,y] ((x::cq)++(y::cA)) (b1++cn)):=by
 have main:∀ (i:Nat),2≤i→(aK:i<n.keys.length)→2≤(n.left i).keys.length→2≤(n.right i).keys.length→∃ (aa:i<n.keys.length) (cq cA:List Nat) (b1 cn:List bo),p=cq++cA∧L=b1++cn∧eG n.keys[i]∧
     (Q x=some (n.left i)→Q y=some (n.right i)→(∀z∈p,P z=Q z)→gU (kG Q h) lo hi [n.keys[i]] [x,y] ((x::cq)++(y::cA)) (b1++cn)):=by
   intro i gW r_ aB aY
   obtain ⟨cq,cA,b1,cn,rfl,rfl,v1,v2⟩:=al.RS (by omega:1≤i) r_
   have jc:eG n.keys[i]:=by
     match h,al with
     |0,al=>exact al.elim
     |1,al=>exact al.1.ok _ (e3 _)
     |h+2,al=>exact al.2.2.1 _ (e3 _)
   refine ⟨r_,cq,cA,b1,cn,rfl,rfl,jc,fun af b2 J=> ?_⟩
   have s1:=v1.one aB af fun z bF=>J z (tI _ bF)
   have s2:=v2.one aY b2 fun z bF=>J z (qH _ bF)
   exact s1.app s2
 match h,al with
 |0,al=>exact al.elim
 |1,al=>
   have dt:n.leaf=true:=al.1.leaf
   have qg:(cellsOf n).length=n.keys.length:=by rw[wu dt,List.length_zipWith,al.1.len,Nat.min_self]
   have fc:∀c∈cellsOf n,c≤50:=by
     rw[wu dt]
     exact RU fun k ae v hD=>by have:=(al.1.ok k ae).2;have:=al.1.vals v hD;omega
   have ah8:cr n=1+(cellsOf n).sum:=by unfold cr;rw[dt];rfl
   have ad:=ad dt
   obtain ⟨a7,cQ,a3,a4⟩:=ah5 fc (by omega) (by omega)
   have RV:dm n=mW (cellsOf n) ((cellsOf n).length-1):=by unfold dm;rw[dt,qg];rfl
   rw[←RV] at a7 cQ a3 a4
   have dy:n.left (dm n)=⟨true,n.keys.take (dm n),n.vals.take (dm n),[]⟩:=by unfold aO.left;rw[dt];rfl
   have c5:n.right (dm n)=⟨true,n.keys.drop (dm n),n.vals.drop (dm n),[]⟩:=by unfold aO.right;rw[dt];rfl
   have RW:cellsOf (n.left (dm n))=(cellsOf n).take (dm n):=by rw[dy,wu rfl,wu dt];exact List.take_zipWith.symm
   have RX:cellsOf (n.right (dm n))=(cellsOf n).drop (dm n):=by rw[c5,wu rfl,wu dt];exact List.drop_zipWith.symm
   refine ⟨by omega,by rw[dt];exact ⟨by omega,by omega⟩,?_,?_,main _ a7 (by omega) (by rw[dy];show 2≤(n.keys.take _).length;rw[ee];omega) (by rw[c5];show 2≤(n.keys.drop _).length;rw[fF];omega)⟩
   · unfold cr;rw[RW,dy];show 1+_≤_;omega
   · unfold cr;rw[RX,c5];show 1+_≤_;omega
 |h+2,al=>
   have dt:n.leaf=false:=al.1
   have qg:(cellsOf n).length=n.keys.length:=by rw[wv dt,kF]
   have fc:∀c∈cellsOf n,c≤27:=by
     rw[wv dt]
     intro c ak
     obtain ⟨k,ae,rfl⟩:=lR.1 ak
     have:=(al.2.2.1 k ae).2;omega
   have ah8:cr n=3+(cellsOf n).sum:=by unfold cr;rw[dt];rfl
   have aq:=aq dt
   obtain ⟨a7,cQ,a3,a4⟩:=ah6 fc (by omega) (by omega)
   have RV:dm n=mW (cellsOf n) ((cellsOf n).length-2):=by unfold dm;rw[dt,qg];rfl
   rw[←RV] at a7 cQ a3 a4
   have dy:n.left (dm n)=⟨false,n.keys.take (dm n),[],n.kids.take (dm n+1)⟩:=by unfold aO.left;rw[dt];rfl
   have c5:n.right (dm n)=⟨false,n.keys.drop (dm n+1),[],n.kids.drop (dm n+1)⟩:=by unfold aO.right;rw[dt];rfl
   have RW:cellsOf (n.left (dm n))=(cellsOf n).take (dm n):=by rw[dy,wv rfl,wv dt];exact EP
   have RX:cellsOf (n.right (dm n))=(cellsOf n).drop (dm n+1):=by rw[c5,wv rfl,wv dt];exact GU
   refine ⟨by omega,by rw[dt];exact ⟨by omega,by omega⟩,?_,?_,main _ a7 (by omega) (by rw[dy];show 2≤(n.keys.take _).length;rw[ee];omega) (by rw[c5];show 2≤(n.keys.drop _).length;rw[fF];omega)⟩
   · unfold cr;rw[RW,dy];show 3+_≤_;omega
   · unfold cr;rw[RX,c5];show 3+_≤_;omega
end Go.Proofs.YtplieiecebljmaaGreat
namespace Go.Proofs.YtplieiecebljmaaGreat
variable {lo hi:Option Key} {P Q:Nat→Option aO}
theorem fK.cells {h:Nat} {n:aO} {p:List Nat} {L:List bo} (al:fK P h n lo hi p L):(cellsOf n).length=n.keys.length∧∀c∈cellsOf n,c≤if n.leaf then 50 else 27:=by
 match h,al with
 |0,al=>exact al.elim
 |1,al=>
   have dt:n.leaf=true:=al.1.leaf
   rw[wu dt,dt]
   exact ⟨by rw[List.length_zipWith,al.1.len,Nat.min_self],RU fun k ae v hD=>by have:=(al.1.ok k ae).2;have:=al.1.vals v hD;simp only[if_true];omega⟩
 |h+2,al=>
   have dt:n.leaf=false:=al.1
   rw[wv dt,dt]
   refine ⟨by rw[kF],fun c ak=> ?_⟩
   obtain ⟨k,ae,rfl⟩:=lR.1 ak
   have:=(al.2.2.1 k ae).2
   show 3+k.length≤27
   omega
theorem fK.RY {h:Nat} {n:aO} {p:List Nat} {L:List bo} (al:fK P h n lo hi p L) (aj:80≤cr n):2≤n.keys.length:=by
 obtain ⟨U,ad⟩:=al.cells
 have:=Cw ad
 rw[U] at this
 unfold cr at aj
 cases aB:n.leaf with
 |true=>rw[aB] at aj this;simp only[if_true] at aj this;omega
 |false=>rw[aB] at aj this;simp only[lS,if_false] at aj this;omega
theorem ah9 {a b:aO} {s:Key} (h:a.leaf=b.leaf) (aR:a.leaf=true→a.vals.length=a.keys.length):cr (hC a s b)=if a.leaf then cr a+cr b-1 else cr a+cr b+s.length:=by
 cases aB:a.leaf with
 |true=>
   have e:hC a s b=⟨true,a.keys++b.keys,a.vals++b.vals,[]⟩:=by unfold hC;rw[aB];rfl
   have aa:b.leaf=true:=by rw[←h,aB]
   unfold cr
   rw[e,wu rfl,wu aB,wu aa,aB,aa]
   simp only[if_true]
   rw[GV (aR aB).symm,x8]
   omega
 |false=>
   have e:hC a s b=⟨false,a.keys++s::b.keys,[],a.kids++b.kids⟩:=by unfold hC;rw[aB];rfl
   have aa:b.leaf=false:=by rw[←h,aB]
   unfold cr
   rw[e,wv rfl,wv aB,wv aa,aB,aa]
   simp only[lS,if_false,mV,sM,x8,JH]
   omega
def qN (ks:List Key):Nat:=(ks.map fun k=>3+k.length).sum
theorem NL (a b:List Key):qN (a++b)=qN a+qN b:=by unfold qN;rw[mV,x8]
theorem X8 {n:aO} (h:n.leaf=false):cr n=3+qN n.keys:=by unfold cr qN;rw[h,wv h];rfl
theorem ah_ (k:Key):qN [k]=3+k.length:=by simp[qN]
theorem RZ {n:aO} {ks:List Key} {kids:List Nat} {fr j:Nat} (h:n.leaf=false) (tN:ks.length≤1) (ae:∀k∈ks,eG k) (aZ:fr≤j):
   cr ⟨false,n.keys.take fr++ks++n.keys.drop j,[],kids⟩≤cr n+27:=by
 rw[X8 h,X8 rfl]
 show 3+qN (n.keys.take fr++ks++n.keys.drop j)≤_
 rw[NL,NL]
 have U:qN ks≤27:=by
   match ks,tN with
   | [],_=>simp[qN]
   | [k],_=>rw[ah_];have:=(ae k (by simp)).2;omega
 have ad:qN n.keys=qN (n.keys.take fr)+qN (n.keys.drop fr):=by rw[←NL,qI]
 have aq:qN (n.keys.drop fr)=qN ((n.keys.drop fr).take (j-fr))+qN (n.keys.drop j):=by
   rw[←NL]
   congr 1
   have:n.keys.drop j=(n.keys.drop fr).drop (j-fr):=by rw[JI];congr 1;omega
   rw[this,qI]
 omega
end Go.Proofs.YtplieiecebljmaaGreat
namespace Go.Proofs.YtplieiecebljmaaGreat
variable {lo hi:Option Key} {P Q:Nat→Option aO}
def Ae (Q:Nat→Option aO) (n:aO) (ks:List Key) (kids:List Nat):Prop:=
 (cr n≤232∧∃x,ks=[]∧kids=[x]∧Q x=some n)∨
 (232<cr n∧∃ (x y:Nat) (aa:dm n<n.keys.length),ks=[n.keys[dm n]]∧kids=[x,y]∧Q x=some (n.left (dm n))∧Q y=some (n.right (dm n)))
theorem fK.fits {h:Nat} {n:aO} {p:List Nat} {L:List bo} {ks:List Key} {kids:List Nat} (al:fK P h n lo hi p L) (ad:2≤n.keys.length) (aB:n.leaf=true→cr n≤310) (gW:n.leaf=false→cr n≤335)
   (aA:Ae Q n ks kids) (J:∀x∈p,P x=Q x):∃fv,gU (kG Q h) lo hi ks kids fv L∧fv.Perm (kids++p)∧(∀s∈ks,eG s)∧ks.length≤1:=by
 rcases aA with ⟨_,x,rfl,rfl,af⟩|⟨aj,x,y,aa,rfl,rfl,af,b2⟩
 · exact ⟨x::p,al.one ad af J,List.Perm.refl _,by simp,by simp⟩
 · obtain ⟨_,_,_,_,_,cq,cA,b1,cn,rfl,rfl,jc,aia⟩:=al.two (Q:=Q) (x:=x) (y:=y) aj aB gW
   refine ⟨_,aia af b2 J,?_,by simpa using jc,by simp⟩
   show ((x::cq)++(y::cA)).Perm ([x,y]++(cq++cA))
   simp only[EN,r6]
   exact (Cm).cons x
theorem aib {h:Nat} {bM fe:aO} {hA eV:Option Key} {i:Nat} {cq cA oV:List Nat} {b1 pJ cn:List bo} {ks:List Key} {kids:List Nat} (b5:bM.leaf=false) (kq:∀k∈bM.keys,eG k) (pK:∀x∈bM.kids,x<1600)
   (aV:kW (kG P (h+1)) lo hA (bM.keys.take i) (bM.kids.take i) cq b1) (bG:nk (kG P (h+1)) hi eV (bM.keys.drop i) (bM.kids.drop (i+1)) cA cn) (al:fK P (h+1) fe hA eV oV pJ) (U:80≤cr fe) (ad:cr fe≤282)
   (aA:Ae Q fe ks kids) (J:∀x∈cq++(oV++cA),P x=Q x) (rz:∀x∈kids,x<1600):
   ∃fv,fK Q (h+2) (mn bM i (i+1) ks kids) lo hi fv (b1++(pJ++cn))∧fv.Perm (kids++(cq++(oV++cA)))∧cr (mn bM i (i+1) ks kids)≤cr bM+27∧bM.keys.length≤(mn bM i (i+1) ks kids).keys.length:=by
 obtain ⟨g3,aj,sd,jc,rA⟩:=al.fits (al.RY U) (fun _=>by omega) (fun _=>by omega) aA fun x af=>J x (qH _ (tI _ af))
 have aa:=fK.build aV bG aj (fun x af=>by
     rcases fa.1 af with af|af
     · exact J x (tI _ af)
     · exact J x (qH _ (qH _ af)))
   (fun s aj=>by
     rcases fa.1 aj with aj|aj
     · rcases fa.1 aj with aj|aj
       · exact kq s (kE aj)
       · exact jc s aj
     · exact kq s (kp aj))
   (fun x af=>by
     rcases fa.1 af with af|af
     · rcases fa.1 af with af|af
       · exact pK x (kE af)
       · exact rz x af
     · exact pK x (kp af))
 have e:mn bM i (i+1) ks kids=⟨false,bM.keys.take i++ks++bM.keys.drop i,[],bM.kids.take i++kids++bM.kids.drop (i+1)⟩:=by unfold mn;rw[Nat.add_sub_cancel]
 rw[e]
 refine ⟨_,aa,?_,RZ b5 rA jc (cP _),?_⟩
 · have aC:(g3++cA).Perm (kids++(oV++cA)):=by
     rw[←eF];exact sd.append_right _
   refine (List.Perm.append_left cq aC).trans ?_
   have aG:=(JJ (l₁:=cq) (l₂:=kids)).append_right (oV++cA)
   rw[eF,eF] at aG
   exact aG
 · show bM.keys.length≤(bM.keys.take i++ks++bM.keys.drop i).length
   have:=congrArg List.length (qI i bM.keys)
   simp only[eC] at this⊢
   omega
end Go.Proofs.YtplieiecebljmaaGreat
namespace Go.Proofs.YtplieiecebljmaaGreat
variable {lo hi:Option Key} {P Q:Nat→Option aO}
theorem NM {a b:aO} {s:Key}:a.keys.length+b.keys.length≤(hC a s b).keys.length:=by
 unfold hC
 split
 · show _≤(a.keys++b.keys).length
   rw[eC];omega
 · show _≤(a.keys++s::b.keys).length
   rw[eC,oS];omega
theorem X9 {a b:aO} {s:Key}:(hC a s b).leaf=a.leaf:=by
 unfold hC
 cases h:a.leaf<;>simp
theorem NN {h:Nat} {a b:aO} {s:Key} {kH g4 JT gW:Option Key} {pa NI:List Nat} {NJ NK:List bo} (aR:fK P h a kH g4 pa NJ) (aa:fK P h b JT gW NI NK) (aj:eG s) (U:cr a+cr b≤311):
   ((hC a s b).leaf=true→cr (hC a s b)≤310)∧((hC a s b).leaf=false→cr (hC a s b)≤335):=by
 have aB:a.leaf=b.leaf:=by rw[aR.leaf,aa.leaf]
 have al:a.leaf=true→a.vals.length=a.keys.length:=fun U=>by
   match h,aR with
   |0,aR=>exact aR.elim
   |1,aR=>exact aR.1.len
   |h+2,aR=>rw[aR.1] at U;cases U
 rw[X9,ah9 aB al]
 have:=aj.2
 constructor
 · intro e;rw[e];simp only[if_true];omega
 · intro e;rw[e];simp only[lS,if_false];omega
theorem aic {h:Nat} {bM fe:aO} {hA eV:Option Key} {i:Nat} {cq cA oV:List Nat} {b1 pJ cn:List bo} {k:Key} (b5:bM.leaf=false) (kq:∀k∈bM.keys,eG k) (pK:∀x∈bM.kids,x<1600) (hlen:bM.kids.length=bM.keys.length+1) (h8:∀x n,P x=some n→cr n≤232)
   (g4:1≤i) (og:i<bM.kids.length) (fG:k9 hA eV k)
   (aV:kW (kG P (h+1)) lo hA (bM.keys.take i) (bM.kids.take i) cq b1) (bG:nk (kG P (h+1)) hi eV (bM.keys.drop i) (bM.kids.drop (i+1)) cA cn) (al:fK P (h+1) fe hA eV oV pJ) (U:cr fe<80):
   ∃ (o:aO) (Ha:List Nat) (aa:i-1<bM.kids.length) (gO:i-1<bM.keys.length),P bM.kids[i-1]=some o∧cq.Perm (bM.kids[i-1]::Ha)∧2≤o.keys.length∧
     ∀ (Q:Nat→Option aO) (ks:List Key) (kids:List Nat),Ae Q (hC o bM.keys[i-1] fe) ks kids→(∀x∈Ha++(oV++cA),P x=Q x)→(∀x∈kids,x<1600)→
       ∃fv,fK Q (h+2) (mn bM (i-1) (i+1) ks kids) lo hi fv (b1++(pJ++cn))∧fv.Perm (kids++(Ha++(oV++cA)))∧cr (mn bM (i-1) (i+1) ks kids)≤cr bM+27∧bM.keys.length≤(mn bM (i-1) (i+1) ks kids).keys.length+1:=by
 obtain ⟨s,JT,di,r,iB,N,aj,rfl,se,rfl,rfl,⟨hw,m,hm,kI⟩,Hb,Af⟩:=aV.last (by rw[ee];omega)
 have fy:(bM.keys.take i).length=i:=by rw[ee];omega
 have ld:(bM.kids.take i).length=i:=by rw[ee];omega
 have se:s=bM.keys[i-1]'(by omega):=by
   rw[se,GW];congr 1;omega
 have E0:(bM.kids.take i)[(bM.kids.take i).length-1]'(by omega)=bM.kids[i-1]'(by omega):=by
   rw[GW];congr 1;omega
 rw[E0] at hw hm
 obtain ⟨o,sQ,lf,rfl,_,qh⟩:=hw.wq
 rw[lf] at hm
 have kI:2≤o.keys.length:=by rw[Option.some.inj hm];exact kI
 clear hm
 subst se
 have j6:=(show kG P (h+1) JT (some (bM.keys[i-1]'(by omega))) (bM.kids[i-1]'(by omega)) (bM.kids[i-1]'(by omega)::sQ) N from ⟨hw,o,lf,kI⟩).in
 obtain ⟨x,af⟩:=JG _ j6.1
 have sf:=kq _ (e3 (l:=bM.keys) (n:=i-1) (by omega))
 have Cx:=fK.merge qh al sf (fun c ak=>qL (tM ((j6.2.2 x af).1 c ak) ((j6.2.2 x af).2 _ rfl))) (fun c ak=>qL (tM (fG.1 _ rfl) (fG.2 c ak)))
 have dE:=NN qh al sf (by have:=h8 _ _ lf;omega)
 have Hc:=NM (a:=o) (b:=fe) (s:=bM.keys[i-1]'(by omega))
 refine ⟨o,di++sQ,by omega,by omega,lf,Cm,kI,fun Q ks kids aA J rz=> ?_⟩
 obtain ⟨g3,R0,sd,jc,rA⟩:=Cx.fits (by omega) dE.1 dE.2 aA fun x af=>J x (by
   rcases fa.1 af with af|af
   · exact tI _ (qH _ af)
   · exact qH _ (tI _ af))
 have sR:(bM.keys.take i).take ((bM.keys.take i).length-1)=bM.keys.take (i-1):=by rw[fy,JK];congr 1;omega
 have aid:(bM.kids.take i).take ((bM.kids.take i).length-1)=bM.kids.take (i-1):=by rw[ld,JK];congr 1;omega
 rw[sR,aid] at Hb
 have aa:=fK.build Hb bG R0 (fun x af=>J x (by
     rcases fa.1 af with af|af
     · exact tI _ (tI _ af)
     · exact qH _ (qH _ af)))
   (fun s aj=>by
     rcases fa.1 aj with aj|aj
     · rcases fa.1 aj with aj|aj
       · exact kq s (kE aj)
       · exact jc s aj
     · exact kq s (kp aj))
   (fun x af=>by
     rcases fa.1 af with af|af
     · rcases fa.1 af with af|af
       · exact pK x (kE af)
       · exact rz x af
     · exact pK x (kp af))
 have e:mn bM (i-1) (i+1) ks kids=⟨false,bM.keys.take (i-1)++ks++bM.keys.drop i,[],bM.kids.take (i-1)++kids++bM.kids.drop (i+1)⟩:=by unfold mn;rw[Nat.add_sub_cancel]
 rw[e]
 refine ⟨_,by simpa[eF] using aa,?_,RZ b5 rA jc (by omega),?_⟩
 · have aC:(g3++cA).Perm (kids++(sQ++(oV++cA))):=by
     have:=sd.append_right cA
     simpa[eF] using this
   refine (List.Perm.append_left di aC).trans ?_
   have aG:=(JJ (l₁:=di) (l₂:=kids)).append_right (sQ++(oV++cA))
   simpa[eF] using aG
 · show bM.keys.length≤(bM.keys.take (i-1)++ks++bM.keys.drop i).length+1
   simp only[eC,ee,fF]
   omega
end Go.Proofs.YtplieiecebljmaaGreat
namespace Go.Proofs.YtplieiecebljmaaGreat
variable {lo hi:Option Key} {P Q:Nat→Option aO}
theorem aie {h:Nat} {bM fe:aO} {hA eV:Option Key} {i:Nat} {cq cA oV:List Nat} {b1 pJ cn:List bo} {k:Key} (b5:bM.leaf=false) (kq:∀k∈bM.keys,eG k) (pK:∀x∈bM.kids,x<1600) (hlen:bM.kids.length=bM.keys.length+1) (h8:∀x n,P x=some n→cr n≤232)
   (og:i+1<bM.kids.length) (fG:k9 hA eV k)
   (aV:kW (kG P (h+1)) lo hA (bM.keys.take i) (bM.kids.take i) cq b1) (bG:nk (kG P (h+1)) hi eV (bM.keys.drop i) (bM.kids.drop (i+1)) cA cn) (al:fK P (h+1) fe hA eV oV pJ) (U:cr fe<80):
   ∃ (o:aO) (Hd:List Nat) (aa:i+1<bM.kids.length) (gO:i<bM.keys.length),P bM.kids[i+1]=some o∧cA.Perm (bM.kids[i+1]::Hd)∧2≤o.keys.length∧
     ∀ (Q:Nat→Option aO) (ks:List Key) (kids:List Nat),Ae Q (hC fe bM.keys[i] o) ks kids→(∀x∈cq++(oV++Hd),P x=Q x)→(∀x∈kids,x<1600)→
       ∃fv,fK Q (h+2) (mn bM i (i+2) ks kids) lo hi fv (b1++(pJ++cn))∧fv.Perm (kids++(cq++(oV++Hd)))∧cr (mn bM i (i+2) ks kids)≤cr bM+27∧bM.keys.length≤(mn bM i (i+2) ks kids).keys.length+1:=by
 obtain ⟨s,gW,r,gl,N,aif,aj,rfl,se,rfl,rfl,⟨hw,m,hm,kI⟩,JU⟩:=bG.head (by rw[fF];omega)
 have se:s=bM.keys[i]'(by omega):=by rw[se,JL];rfl
 have E0:(bM.kids.drop (i+1))[0]'(by rw[fF];omega)=bM.kids[i+1]'og:=by rw[JL]
 rw[E0] at hw hm
 obtain ⟨o,sQ,lf,rfl,_,qh⟩:=hw.wq
 rw[lf] at hm
 have kI:2≤o.keys.length:=by rw[Option.some.inj hm];exact kI
 clear hm
 subst se
 have j6:=(show kG P (h+1) (some (bM.keys[i]'(by omega))) gW (bM.kids[i+1]'og) (bM.kids[i+1]'og::sQ) N from ⟨hw,o,lf,kI⟩).in
 obtain ⟨x,af⟩:=JG _ j6.1
 have sf:=kq _ (e3 (l:=bM.keys) (n:=i) (by omega))
 have Cx:=fK.merge al qh sf (fun c ak=>qL (tM (fG.1 c ak) (fG.2 _ rfl))) (fun c ak=>qL (tM ((j6.2.2 x af).1 _ rfl) ((j6.2.2 x af).2 c ak)))
 have dE:=NN al qh sf (by have:=h8 _ _ lf;omega)
 have Hc:=NM (a:=fe) (b:=o) (s:=bM.keys[i]'(by omega))
 refine ⟨o,sQ++gl,og,by omega,lf,List.Perm.refl _,kI,fun Q ks kids aA J rz=> ?_⟩
 obtain ⟨g3,R0,sd,jc,rA⟩:=Cx.fits (by omega) dE.1 dE.2 aA fun x af=>J x (by
   rcases fa.1 af with af|af
   · exact qH _ (tI _ af)
   · exact qH _ (qH _ (tI _ af)))
 rw[JI,JI] at JU
 have aa:=fK.build aV JU R0 (fun x af=>J x (by
     rcases fa.1 af with af|af
     · exact tI _ af
     · exact qH _ (qH _ (qH _ af))))
   (fun s aj=>by
     rcases fa.1 aj with aj|aj
     · rcases fa.1 aj with aj|aj
       · exact kq s (kE aj)
       · exact jc s aj
     · exact kq s (kp aj))
   (fun x af=>by
     rcases fa.1 af with af|af
     · rcases fa.1 af with af|af
       · exact pK x (kE af)
       · exact rz x af
     · exact pK x (kp af))
 have e:mn bM i (i+2) ks kids=⟨false,bM.keys.take i++ks++bM.keys.drop (i+1),[],bM.kids.take i++kids++bM.kids.drop (i+1+1)⟩:=rfl
 rw[e]
 refine ⟨_,by simpa[eF] using aa,?_,RZ b5 rA jc (by omega),?_⟩
 · have aC:(g3++gl).Perm (kids++(oV++(sQ++gl))):=by
     have:=sd.append_right gl
     simpa[eF] using this
   refine (List.Perm.append_left cq aC).trans ?_
   have aG:=(JJ (l₁:=cq) (l₂:=kids)).append_right (oV++(sQ++gl))
   simpa[eF] using aG
 · show bM.keys.length≤(bM.keys.take i++ks++bM.keys.drop (i+1)).length+1
   simp only[eC,ee,fF]
   omega
end Go.Proofs.YtplieiecebljmaaGreat
namespace Go.Proofs.YtplieiecebljmaaGreat
variable {lo hi:Option Key} {P:Nat→Option aO}
def er (ks:List Key) (k:Key):Nat:=ks.findIdx fun s=>decide (¬cw s k)
theorem He (ks:List Key) (k:Key):er ks k≤ks.length:=List.findIdx_le_length
theorem E1 {ks:List Key} {k:Key} {j:Nat} (h:j<er ks k) (aZ:j<ks.length):cw ks[j] k:=by
 have:=List.not_of_lt_findIdx h
 simpa using this
theorem Hf {ks:List Key} {k:Key} (aj:ks.Pairwise cw) {j:Nat} (h:er ks k≤j) (aZ:j<ks.length):iy k ks[j]:=by
 have U:er ks k<ks.length:=by omega
 have ad:iy k ks[er ks k]:=by
   have:=List.findIdx_getElem (p:=fun s=>decide (¬cw s k)) (xs:=ks) (w:=U)
   exact X2.1 (dL this)
 rcases hJ (er ks k) j with aq|aq
 · exact qL (tM ad (Cn.1 aj _ _ U aZ aq))
 · have:er ks k=j:=by omega
   subst this;exact ad
theorem aig {α:Type} {f:α→Bool} {L:List α} {i:Nat} (U:∀x∈L.take i,f x=true) (ad:∀x∈L.drop i,f x=false):L.filter f=L.take i:=by
 conv=>lhs;rw[←qI i L]
 rw[z2,uV.2 U,z1.2 (fun x af=>by rw[ad x af];decide),lP]
theorem X_ {α:Type} {f:α→Bool} {L:List α} {i:Nat} (U:∀x∈L.take i,f x=false) (ad:∀x∈L.drop i,f x=true):L.filter f=L.drop i:=by
 conv=>lhs;rw[←qI i L]
 rw[z2,z1.2 (fun x af=>by rw[U x af];decide),uV.2 ad,r6]
theorem R1 {ks vs:List Key} {i:Nat} {x:bo} (h:x∈(ks.zip vs).take i):∃ (j:Nat) (aZ:j<ks.length),j<i∧x.1=ks[j]:=by
 obtain ⟨j,aZ,rfl⟩:=List.mem_take_iff_getElem.1 h
 have U:j<(ks.zip vs).length:=by omega
 rw[EO] at U
 exact ⟨j,by omega,by omega,by rw[Nv]⟩
theorem R2 {ks vs:List Key} {i:Nat} {x:bo} (h:x∈(ks.zip vs).drop i):∃ (j:Nat) (aZ:j<ks.length),i≤j∧x.1=ks[j]:=by
 obtain ⟨j,aZ,rfl⟩:=List.mem_drop_iff_getElem.1 h
 have U:i+j<(ks.zip vs).length:=by omega
 rw[EO] at U
 exact ⟨i+j,by omega,by omega,by rw[Nv]⟩
theorem aih {ks vs:List Key} {k v:Key} (aj:ks.Pairwise cw):j2 (ks.zip vs) k v=(ks.zip vs).take (er ks k)++(k,v)::(ks.zip vs).drop (if ks[er ks k]? =some k then er ks k+1 else er ks k):=by
 unfold j2
 rw[aig (f:=fun p:bo=>decide (cw p.1 k)) (i:=er ks k) (fun x af=>by
     obtain ⟨j,aZ,U,e⟩:=R1 af
     rw[e];exact ik (E1 U aZ)) (fun x af=>by
     obtain ⟨j,aZ,U,e⟩:=R2 af
     rw[e];exact sN (Hf aj U aZ))]
 congr 2
 split
 · rename_i he
   obtain ⟨a6,he⟩:=qJ.1 he
   refine X_ (fun x af=> ?_) (fun x af=> ?_)
   · obtain ⟨j,aZ,U,e⟩:=R1 af
     rw[e]
     refine sN ?_
     rcases hJ j (er ks k) with ad|ad
     · exact Ab (E1 ad aZ)
     · have:j=er ks k:=by omega
       subst this;rw[he];exact Cu _
   · obtain ⟨j,aZ,U,e⟩:=R2 af
     rw[e]
     refine ik ?_
     have:=Cn.1 aj _ j a6 aZ (by omega)
     rwa[he] at this
 · rename_i he
   refine X_ (fun x af=> ?_) (fun x af=> ?_)
   · obtain ⟨j,aZ,U,e⟩:=R1 af
     rw[e]
     exact sN (Ab (E1 U aZ))
   · obtain ⟨j,aZ,U,e⟩:=R2 af
     rw[e]
     refine ik ?_
     rcases EV.1 (Hf aj U aZ) with ad|ad
     · exact ad
     · have a6:er ks k<ks.length:=by omega
       rcases hJ (er ks k) j with aq|aq
       · exact tM (Hf aj (cP _) a6) (Cn.1 aj _ _ a6 aZ aq)
       · have:j=er ks k:=by omega
         subst this
         exact absurd ((gT a6).trans (congrArg some ad.symm)) he
end Go.Proofs.YtplieiecebljmaaGreat
namespace Go.Proofs.YtplieiecebljmaaGreat
open Go b8
section
theorem NO {n:Nat} (h:n<256):((UInt8.ofNat n).toNat:Nat)=n:=by
 simp[uW h]
end
section
theorem Ya {src dst:TypeId} {w:World} {s:ab} {pL:List Int} (aj:Tryz.prog.underlying src=some (.slice ah.uint8)) (hd:Tryz.prog.underlying dst=some .string) (h:Src 1 w s (pL.map (.int .u8))):
   Sem.run Tryz.prog (convert src dst (.slice s.a s.len s.cap)) w= .ok (.string (S (pL.map fun n=>UInt8.ofNat n.toNat))) w:=by
 rw[aii aj (by kernel_rfl) hd h,aij]
end
section
theorem R3 {w:World} {A:Addr}:∀ (vs:List Value) (i:Nat),(∀j v,vs[j]? =some v→w.cell? (A.add (i+j))=some v)→eH w A i vs.length=some vs
 | [],_,_=>rfl
 |v::vs,i,h=>by
   have b5:=h 0 v rfl
   have dx:=R3 vs (i+1) (fun j u aZ=>by rw[show i+1+j=i+(j+1) by omega];exact h (j+1) u (by simpa using aZ))
   rw[z7] at b5
   simp[eH,b5,dx]
def a_ (l:List UInt8):List Value:=l.map fun b=>Value.int .u8 ((b.toNat:Nat):Int)
theorem jE (l:List UInt8):(a_ l).length=l.length:=by simp[a_]
theorem Hg {l:List UInt8} {i:Nat} (h:i<l.length):(a_ l)[i]? =some (.int .u8 ((l[i].toNat:Nat):Int)):=by simp[a_,h]
end
section
theorem aik (c:UInt8):(((c.toNat:Nat):Int).toNat.toUInt8)=c:=by simp
end
section
theorem wx (l:List UInt8):∀v∈a_ l,Plain v:=by
 intro v al
 obtain ⟨n,_,rfl⟩:=lR.1 al
 trivial
theorem E2 (a b:List UInt8):a_ (a++b)=a_ a++a_ b:=by simp[a_]
theorem take_succ {α:Type} (ls:List α) {i:Nat} (h:i<ls.length):ls.take (i+1)=ls.take i++ [ls[i]]:=by
 rw[sL h]
end
section
structure Yb where
 avp:Bool
 b:List UInt8
 h:b.length=16
 deriving DecidableEq
def Var (w:World) (b:Nat) (vs:List Value) (T:TypeId):Prop:=cj w b vs.toArray T
section
variable {w w':World} {b:Nat} {vs us:List Value} {T:TypeId}
theorem Var.new (w:World) (vs:List Value) (T:TypeId):Var (w.alloc (.cells vs.toArray T)) w.heap.size vs T:=cj.new _ _ _
theorem Var.rd (h:Var w b vs T) {n:Nat} (aD:vs.length=n):eH w ⟨b,0,none⟩ 0 n=some vs:=by
 have:=Hh h n 0 0 (by simp[aD])
 rw[this]
 simp[←aD]
theorem Var.ail (h:Var w b vs T) {o n:Nat} (aD:o+n≤vs.length):eH w ⟨b,o,none⟩ 0 n=some ((vs.drop o).take n):=by
 have:=Hh h n o 0 (by simpa using aD)
 rw[this]
 simp
theorem Var.cell (h:Var w b vs T) {i:Nat}:w.cell? ⟨b,i,none⟩=vs[i]? :=by
 rw[cj.cell h];simp
theorem Var.ext (h:Var w b vs T) (af:Ext w w'):Var w' b vs T:=cj.ext h af
theorem Var.an {W:Nat→Prop} (h:Var w b vs T) (af:ao W w w') (aa:¬W b):Var w' b vs T:=cj.an h af aa
theorem Var.drew (h:Var w b vs T):Var w.drew b vs T:=cj.drew h
theorem Var.lt (h:Var w b vs T):b<w.heap.size:=cj.lt h
theorem Var.du (h:Var w b vs T) (aD:us.length=vs.length) (aV:∀v∈us,Plain v):cT w ⟨b,0,none⟩ us:=cj.du h 0 us (by simp[aD]) aV
theorem Var.put (h:Var w b vs T) (aD:us.length=vs.length):Var (setCells w ⟨b,0,none⟩ 0 us) b us T:=by
 have:=cj.JV us 0 0 h
 simp only[z7] at this
 have e:(nK vs.toArray 0 us)=us.toArray:=by
   have U:=NP us vs.toArray 0 (by simp[aD])
   rw[gJ,aD,List.take_zero,r6,hU (by rw[Array.length_toList,rB];simp)] at U
   apply Array.toList_inj.1
   rw[U]
 rwa[e] at this
end
theorem bN {w:World} {K:World→Prop} (h:K w):az w K:=h
theorem cx {w:World} {c:Array Value} {vs:List Value} {T:TypeId} (ak:c=vs.toArray) {K:World→Prop} (h:∀w',Var w' w.heap.size vs T→Ext w w'→w'.heap.size=w.heap.size+1→K w'):az (w.alloc (.cells c T)) K:=by
 subst ak
 exact h _ (Var.new _ _ _) (ao.alloc (.refl _ _) _) (by simp)
theorem eg {w:World} {b:Nat} {vs us l:List Value} {T:TypeId} (al:Var w b vs T) (aD:us.length=vs.length) (aB:l=us) {K:World→Prop} (h:∀w',Var w' b us T→ao (fun q=>q=b) w w'→w'.heap.size=w.heap.size→K w'):az (setCells w ⟨b,0,none⟩ 0 l) K:=by
 subst aB
 refine h _ (al.put aD) (ao.yk (.refl _ _) l 0) ?_
 have:∀ (vs:List Value) (i:Nat) (w:World),(setCells w ⟨b,0,none⟩ i vs).heap.size=w.heap.size:=by
   intro vs
   induction vs with
   |nil=>intro i w;rfl
   |cons v vs dx=>intro i w;rw[setCells,dx];simp[World.setCell]
 exact this _ _ _
theorem Ext.e_ {bI w w':World} {b:Nat} (h:Ext bI w) (ak:ao (fun q=>q=b) w w') (aa:bI.heap.size≤b):Ext bI w':=Ext.gv h ak (fun k ae=>by subst ae;exact aa)
theorem Var.aim {w:World} {b o n c:Nat} {vs:List Value} {T:TypeId} {l:List UInt8} (h:Var w b vs T) (aD:o+n≤vs.length) (aB:(vs.drop o).take n=a_ l):Src 1 w ⟨some ⟨b,o,none⟩,n,c⟩ (a_ l):=by
 have hlen:n=l.length:=by
   have:=congrArg List.length aB
   rw[ee,fF,jE] at this
   omega
 refine ⟨by rw[jE];show _=n*1;omega,(fun h=>by cases h),fun a aR=> ?_⟩
 cases aR
 show eH w ⟨b,o,none⟩ 0 (n*1)=_
 rw[lQ,h.ail aD,aB]
theorem E3:qi Tryz.prog ah.cc ah.uint8 1 1:=⟨by kernel_rfl⟩
theorem ain {Ag eu ty:TypeId} {w:World} {b o dl E4:Nat} {s:ab} {l:List UInt8} (hu:Tryz.prog.underlying Ag=some (.slice ah.uint8)) (aj:Src 1 w s (a_ l)) (hle:s.len≤dl) (hE:cT w ⟨b,o,none⟩ (a_ l)):
   Sem.run Tryz.prog (Builtin.copy_ #[Ag,eu] ty #[.slice (some ⟨b,o,none⟩) dl E4, .slice s.a s.len s.cap]) w= .ok (.int .i64 ((s.len:Nat):Int)) (setCells w ⟨b,o,none⟩ 0 (a_ l)):=by
 have aio:Nat.min s.len dl=s.len:=r7 hle
 have bF:=qO (P:=Tryz.prog) (w:=w) (t:=ah.uint8) (d:= .int .u8) (by kernel_rfl)
 have ak:Tryz.prog.cellsOf ah.uint8=1:=by kernel_rfl
 rw[ak] at bF
 have aA:=Hi (P:=Tryz.prog) aj
 have Cy:=Hj (P:=Tryz.prog) (A:=⟨b,o,none⟩) (a_ l) 0 w (by simpa using hE.1) hE.2
 simp[Builtin.copy_,fV hu,Builtin.lenOf,bF,aio,aA,Cy]
 rfl
end
section
def b6 (c k:Nat):Nat:=c/2^(8-k)*2^(8-k)
def yj (n i:Nat):Nat:=min (n-8*i) 8
end
section
theorem Src.sub {w:World} {s:ab} {vs:List Value} {lo hi:Nat} (h:Src 1 w s vs) (ak:s.len≤s.cap) (U:lo≤hi) (ad:hi≤s.len):Src 1 w ⟨bh s.a 1 lo s.cap,hi-lo,s.cap-lo⟩ ((vs.drop lo).take (hi-lo)):=by
 have aB:vs.length=s.len:=by have:=h.len;omega
 refine ⟨by simp;omega,fun aD=> ?_,fun a aR=> ?_⟩
 · have sS:s.a=none:=by
     unfold bh at aD
     split at aD
     · exact aD
     · simpa using aD
   simp[h.nil sS]
 · show eH w a 0 ((hi-lo)*1)=_
   by_cases e:hi=lo
   · rw[show hi-lo=0 by omega];simp[eH]
   · have ay:∃A,s.a=some A∧a=A.add lo:=by
       unfold bh at aR
       rw[if_neg (by omega)] at aR
       cases aj:s.a with
       |none=>rw[aj] at aR;cases aR
       |some A=>rw[aj] at aR;exact ⟨A,rfl,by simpa using aR.symm⟩
     obtain ⟨A,ay,rfl⟩:=ay
     have aY:=h.rd A ay
     have:=R3 (w:=w) (A:=A.add lo) ((vs.drop lo).take (hi-lo)) 0 (fun j v aZ=>by
       rw[add_add]
       have E5:j<hi-lo:=by have:=(qJ.1 aZ).1;simp at this;omega
       rw[List.getElem?_take_of_lt E5,Nw] at aZ
       have:=Hk aY aZ
       simpa using this)
     have bp:((vs.drop lo).take (hi-lo)).length=hi-lo:=by simp;omega
     rw[bp] at this
     rw[lQ]
     exact this
def rC (l:List UInt8):Nat:=l.foldl (fun n c=>n*256+c.toNat) 0
theorem aip (l m:List UInt8):rC (l++m)=m.foldl (fun n c=>n*256+c.toNat) (rC l):=by simp[rC,List.foldl_append]
theorem R4 (l:List UInt8) (c:UInt8):rC (l++ [c])=rC l*256+c.toNat:=by rw[aip];rfl
theorem JW:∀ (k:Nat) (l:List UInt8),l.length=k→rC l<256^k:=by
 intro k
 induction k with
 |zero=>intro l h;rw[x_.1 h];simp[rC]
 |succ k dx=>
   intro l h
   obtain ⟨m,c,rfl⟩:∃m c,l=m++ [c]:=by
     rcases List.eq_nil_or_concat l with rfl|⟨m,c,hm⟩
     · simp at h
     · exact ⟨m,c,by rw[hm,List.concat_eq_append]⟩
   rw[R4,Nat.pow_succ]
   have:=dx m (by simpa using h)
   have:=GX c
   omega
theorem aiq {a b:Nat} (aR:a<2^64) (aa:b<2^64):Cz .u64 (a:Int) (b:Int)=((a|||b:Nat):Int):=by
 have ba:BitVec.ofInt 64 (a:Int)=BitVec.ofNat 64 a:=by simp
 have bp:BitVec.ofInt 64 (b:Int)=BitVec.ofNat 64 b:=by simp
 unfold Cz
 show IntKind.u64.wrap (((BitVec.ofInt 64 (a:Int)|||BitVec.ofInt 64 (b:Int)).toNat:Nat):Int)=_
 rw[ba,bp,BitVec.toNat_or,BitVec.toNat_ofNat,BitVec.toNat_ofNat,uW aR,uW aa]
 have:a|||b<2^64:=Nat.or_lt_two_pow aR aa
 have:a|||b<18446744073709551616:=this
 rw[wy (by omega) (by omega)]
theorem air (n c:Nat) (ak:c<256):n*256|||c=n*256+c:=by
 have:=Nat.shiftLeft_add_eq_or_of_lt (i:=8) (b:=c) (by simpa using ak) n
 rw[Nat.shiftLeft_eq] at this
 exact this.symm
theorem sT {s:ab} {l:List UInt8} {w:World} (aj:Src 1 w s (a_ l)) (ak:s.len≤s.cap) {a k:Nat} (ae:1≤k∧k≤8) (aR:a+k≤l.length) (aB:l.length≤1000000000000):
   aP Tryz.prog F.sT #[.slice s.a s.len s.cap, .int .i64 a, .int .i64 k] w (fun v w'=>v= .tuple #[.int .u64 ((rC ((l.drop a).take k):Nat):Int), .bool true]∧w=w'):=by
 refine W.Yc s a k w _ ?_
 (delta W.sT E6 aF bk bc iC aE;dsimp only)
 have gh:s.len=l.length:=by have:=aj.len;rw[jE] at this;omega
 refine Calls.mono (W.R5 s a k w (fun v w'=>v= .tuple #[.slice (bh s.a 1 a s.cap) k (s.cap-a), .bool true]∧w=w') ?_) ?_
 · delta W.uZ aF aE
   rw[cL (n:=((s.len:Nat):Int)-(a:Int)) (by omega) (by omega),cL (n:=(a:Int)+(k:Int)) (by omega) (by omega)]
   refine ⟨fun h=> ?_,fun _=>⟨⟨by omega,by omega⟩,⟨by omega,by omega⟩,?_,rfl⟩⟩
   · simp only[wj,fE] at h;omega
   · rw[show Int.toNat ((a:Int)+(k:Int))-Int.toNat (a:Int)=k by omega];rfl
 rintro _ _ ⟨_,rfl,rfl,rfl⟩
 refine ⟨⟨bh s.a 1 a s.cap,k,s.cap-a⟩,true,rfl,ff (fun b w'=>b=false∧w=w') (fun q J=>⟨fun h=>by simp at h,fun _=> ?_⟩) ?_⟩
 · refine Calls.mono (W.Yd k w (fun v w'=>v= .bool true∧w=w') ⟨?_,rfl⟩) ?_
   · have U:decide ((k:Int)≥1)=true:=ik (by omega)
     have ad:decide ((k:Int)≤8)=true:=ik (by omega)
     rw[U,ad];rfl
   · rintro _ _ ⟨_,rfl,rfl,rfl⟩
     exact ⟨_,rfl,J _ _ ⟨rfl,rfl⟩⟩
 rintro _ _ ⟨rfl,rfl⟩
 have iU:=Src.sub aj ak (lo:=a) (hi:=a+k) (by omega) (by omega)
 rw[show a+k-a=k by omega] at iU
 have iU:Src 1 w ⟨bh s.a 1 a s.cap,k,s.cap-a⟩ (a_ ((l.drop a).take k)):=by
   simpa[a_,GU,EP] using iU
 obtain ⟨m,hm⟩:∃m,m=(l.drop a).take k:=⟨_,rfl⟩
 have oh:m.length=k:=by rw[hm];simp;omega
 rw[←hm] at iU⊢
 refine ⟨fun h=>by simp at h,fun _=>⟨fun n i w'=>w=w'∧∃j:Nat,i=j∧j≤k∧n=((rC (m.take j):Nat):Int),fun _ i _=>((k:Int)-i).toNat,⟨rfl,0,rfl,fi _,rfl⟩,?_⟩⟩
 rintro _ _ _ ⟨rfl,j,rfl,aZ,rfl⟩
 refine ⟨fun a6=> ?_,fun cm=> ?_⟩
 · have a6:((j:Int)<((k:Nat):Int)):=dL a6
   have a6:j<k:=by omega
   obtain ⟨A,ay,aa,jF⟩:=iU.at (Hg (l:=m) (i:=j) (by omega))
   have U:=JW j (m.take j) (by simp;omega)
   have ad:256^j≤256^7:=Nx (by omega) (by omega)
   have ad:256^j≤72057594037927936:=ad
   have ais:(m[j]).toNat<256:=GX _
   have ba:((rC (m.take j):Nat):Int)*2^(min (Int.toNat 8) 64)=((rC (m.take j)*256:Nat):Int):=by
     show ((rC (m.take j):Nat):Int)*256=_;omega
   refine ⟨A,ay,aa,_,jF,by decide,?_⟩
   rw[ba,wy (n:=((rC (m.take j)*256:Nat):Int)) (by omega) (by omega),wy (n:=((m[j].toNat:Nat):Int)) (by omega) (by omega),aiq (by show _<18446744073709551616;omega) (by show _<18446744073709551616;omega),air _ _ ais,cL (n:=(j:Int)+1) (by omega) (by omega)]
   refine ⟨⟨rfl,j+1,by omega,by omega,?_⟩,?_⟩
   · rw[take_succ m (by omega),R4]
   · show ((k:Int)-((j:Int)+1)).toNat<((k:Int)-(j:Int)).toNat
     omega
 · have cm:¬((j:Int)<((k:Nat):Int)):=fb cm
   have cm:j=k:=by omega
   subst cm
   exact ⟨by rw[hU (by omega)],rfl⟩
end
section
theorem R6 {w:World} {s:ab} {l:List UInt8} (h:Src 1 w s (a_ l)) (aB:l.length≤1000000):
   aP Tryz.prog F.mo #[.slice s.a s.len s.cap] w (fun v w'=>∃au:ab,v= .slice au.a au.len au.cap∧bX 1 ah.uint8 w' au (a_ l)∧Ext w w'∧∀k,aQ au k→w.heap.size≤k):=by
 have gh:s.len=l.length:=by have:=h.len;rw[jE] at this;omega
 refine W.ait s w _ ?_
 delta W.mo aF ai
 refine ⟨fun aR=> ?_,fun _=> ?_⟩
 · have aR:s.a=none:=by simpa using aR
   rw[h.nil aR]
   exact ⟨⟨none,0,0⟩,rfl,bX.none _ _ _, .refl _ _,fun k ae=>(rD k ae).elim⟩
 · obtain ⟨au,w',U,ad,aq,aK,aW,_⟩:=E3.clone (ew:=ah.cc) h (wx l) (by omega)
   exact bN ⟨au,w',U,au,rfl,ad,aK,aW⟩
theorem aiu {w:World} {s:ab} {l:List UInt8} (c:UInt8) (bG:bX 1 ah.uint8 w s (a_ l)) (aD:l.length≤1000000):
   ∃ (au:ab) (w':World),Sem.run Tryz.prog (Builtin.append_ #[ah.cc,ah.cc] ah.cc #[.slice s.a s.len s.cap, .slice (some ⟨w.heap.size,0,none⟩) 1 1]) (w.alloc (.cells #[.int .u8 ((c.toNat:Nat):Int)] ah.uint8))= .ok (.slice au.a au.len au.cap) w'∧
     bX 1 ah.uint8 w' au (a_ (l++ [c]))∧ao (aQ s) w w'∧(∀k,aQ au k→aQ s k∨w.heap.size≤k):=by
 have gh:s.len=l.length:=by have:=bG.1;rw[jE] at this;omega
 obtain ⟨au,w',U,ad,aq,aK,aW⟩:=E3.push (ew:=ah.cc) (w:=w) (s:=s) (xs:=[.int .u8 ((c.toNat:Nat):Int)]) rfl bG (fun v al=>by rw[lT.1 al];trivial) (by omega)
 exact ⟨au,w',U,by rw[E2];exact ad,aK,aW⟩
def gD (n k:Nat):List UInt8:=(List.range k).map fun j=>UInt8.ofNat (n/256^(k-1-j)%256)
theorem om (n k:Nat):(gD n k).length=k:=by simp[gD]
theorem pk {s:ab} {l:List UInt8} {w:World} (aj:Src 1 w s (a_ l)) (aB:l.length≤100000) {n k:Nat} (aD:n<2^64) (ae:1≤k∧k≤8):
   aP Tryz.prog F.pk #[.slice s.a s.len s.cap, .int .u64 n, .int .i64 k] w (fun v w'=>∃au:ab,v= .slice au.a au.len au.cap∧bX 1 ah.uint8 w' au (a_ (l++gD n k))∧Ext w w'∧∀q,aQ au q→w.heap.size≤q):=by
 have aD:n<18446744073709551616:=aD
 refine W.aiv s n k w _ ?_
 (delta W.pk dZ bk aF aE ai;dsimp only)
 refine (R6 aj (by omega)).use ?_
 rintro _ ag ⟨s1,rfl,lf,bK,pM⟩
 refine ⟨s1,rfl,Calls.mono (W.Yd k ag (fun v w'=>v= .bool true∧ag=w') ⟨?_,rfl⟩) ?_⟩
 · have U:decide ((k:Int)≥1)=true:=ik (by omega)
   have ad:decide ((k:Int)≤8)=true:=ik (by omega)
   rw[U,ad];rfl
 rintro _ _ ⟨_,rfl,rfl,rfl⟩
 rw[cL (n:=(k:Int)-1) (by omega) (by omega)]
 refine ⟨_,rfl,fun h=>by simp at h,fun _=>⟨fun t i w'=>∃j:Nat,i=(k:Int)-1-j∧j≤k∧Ext w w'∧(∀q,aQ t q→w.heap.size≤q)∧bX 1 ah.uint8 w' t (a_ (l++(gD n k).take j)),fun _ i _=>(i+1).toNat,⟨0,by omega,by omega,bK,pM,by simpa using lf⟩,?_⟩⟩
 rintro t _ aw ⟨j,rfl,aZ,cD,oW,sU⟩
 refine ⟨fun a6=> ?_,fun cm=> ?_⟩
 · have a6:j<k:=by have:=dL a6;omega
   rw[cL (n:=8*((k:Int)-1-j)) (by omega) (by omega),cL (n:=(k:Int)-1-j-1) (by omega) (by omega)]
   have al:IntKind.wrap .u8 (Int.fdiv (n:Int) (2^(min (Int.toNat (8*((k:Int)-1-j))) 64)))=((((UInt8.ofNat (n/256^(k-1-j)%256)).toNat:Nat)):Int):=by
     rw[NO (r8 _ (by omega)),show min (Int.toNat (8*((k:Int)-1-j))) 64=8*(k-1-j) by omega,aiw]
     have ba:((2:Int)^(8*(k-1-j)))=((256^(k-1-j):Nat):Int):=by
       rw[Int.pow_mul]
       simp
     rw[ba,Int.fdiv_eq_ediv_of_nonneg _ (Int.natCast_nonneg _)]
     generalize 256^(k-1-j)=z
     rfl
   rw[al]
   obtain ⟨bS,a8,U,ad,aq,aK⟩:=aiu (UInt8.ofNat (n/256^(k-1-j)%256)) sU (by simp[gD];omega)
   refine ⟨by omega,bN ⟨bS,a8,U,⟨j+1,by omega,by omega,Ext.gv cD aq oW,fun q J=> ?_,?_⟩,?_⟩⟩
   · rcases aK q J with h|h
     · exact oW q h
     · exact jb cD.size h
   · rw[take_succ _ (by rw[om];exact a6),←eF]
     have:(gD n k)[j]'(by rw[om];exact a6)=UInt8.ofNat (n/256^(k-1-j)%256):=by simp[gD]
     rw[this];exact ad
   · show ((k:Int)-1-j-1+1).toNat<((k:Int)-1-j+1).toNat
     omega
 · have cm:j=k:=by have:=fb cm;omega
   subst cm
   rw[hU (by rw[om];exact cP _)] at sU
   exact ⟨t,rfl,sU,cD,oW⟩
end
section
theorem aix (n k:Nat):gD n (k+1)=gD (n/256) k++ [UInt8.ofNat (n%256)]:=by
 unfold gD
 rw[List.range_succ,mV]
 congr 1
 · apply List.map_congr_left
   intro j aZ
   have:=wi.1 aZ
   rw[show k+1-1-j=(k-1-j)+1 by omega,Nat.pow_succ,Nat.mul_comm,←Nat.div_div_eq_div_mul]
 · simp
theorem R7:∀ (k n:Nat),n<256^k→rC (gD n k)=n
 |0,n,h=>by
   have:n=0:=by simpa using h
   subst this;rfl
 |k+1,n,h=>by
   rw[Nat.pow_succ] at h
   rw[aix,R4,R7 k (n/256) (by omega),NO (r8 _ (by omega))]
   omega
def ei (n:aO):Prop:=oU n∨RP n
def CA (l:Key):List UInt8:=UInt8.ofNat l.length::l
def oo (n:aO) (i:Nat):List UInt8:=CA (n.keys.getD i [])++if n.leaf then CA (n.vals.getD i []) else gD (n.kids.getD (i+1) 0) 2
def pN (n:aO) (i m:Nat):List UInt8:=((List.range' i m).map (oo n)).flatten
theorem aiy (n:aO) (i m:Nat):pN n i (m+1)=oo n i++pN n (i+1) m:=rfl
theorem R8 (n:aO) (m:Nat):pN n 0 (m+1)=pN n 0 m++oo n m:=by
 unfold pN
 rw[List.range'_concat,mV,List.flatten_append]
 simp
def preB (n:aO):List UInt8:=UInt8.ofNat n.keys.length::if n.leaf then [] else gD (n.kids.getD 0 0) 2
def sg (n:aO):List UInt8:=preB n++pN n 0 n.keys.length
theorem CB (l:Key):(CA l).length=l.length+1:=rfl
theorem ei.keys {n:aO} (h:ei n):NG n:=by
 rcases h with h|h
 · exact h.toNG
 · exact h.toNG
theorem ei.vals {n:aO} (h:ei n):∀v∈n.vals,v.length≤24:=by
 rcases h with h|h
 · exact h.vals
 · rw[h.vals];simp
theorem ei.kids {n:aO} (h:ei n):∀k∈n.kids,k<1600:=by
 rcases h with h|h
 · rw[h.kids];simp
 · exact h.kids
theorem NQ {α:Type} {l:List α} {i:Nat} {d:α} (h:i<l.length):l.getD i d∈l:=by
 rw[od,gT h]
 exact e3 h
theorem R9 {n:aO} (h:ei n) {i:Nat} (hi:i<n.keys.length):(cellsOf n)[i]? =some (oo n i).length:=by
 unfold cellsOf oo
 rcases h with h|h
 · rw[h.leaf]
   simp only[if_true]
   have al:i<n.vals.length:=by rw[h.len];exact hi
   rw[List.getElem?_zipWith,gT hi,gT al]
   simp[od,gT hi,gT al,CB]
   omega
 · rw[h.inner]
   simp only[lS,if_false]
   rw[GY,gT hi]
   simp[od,gT hi,CB,om]
   omega
theorem Hl {n:aO} (h:ei n):(cellsOf n).length=n.keys.length:=by
 unfold cellsOf
 rcases h with h|h
 · rw[h.leaf];simp[h.len]
 · rw[h.inner];simp
theorem R_ {n:aO} (h:ei n):∀m,m≤n.keys.length→(pN n 0 m).length=((cellsOf n).take m).sum
 |0,_=>by simp[pN]
 |m+1,hm=>by
   have aB:m<(cellsOf n).length:=by rw[Hl h];omega
   have U:=R9 h (i:=m) (by omega)
   rw[gT aB] at U
   have U:(cellsOf n)[m]=(oo n m).length:=Option.some.inj U
   rw[R8,eC,R_ h m (by omega),G9 aB,U]
theorem Sa {n:aO} (h:ei n):(sg n).length=cr n:=by
 have e:((cellsOf n).take n.keys.length).sum=(cellsOf n).sum:=by rw[hU (by rw[Hl h];exact cP _)]
 unfold sg cr preB
 rw[eC,R_ h _ (cP _),e]
 cases n.leaf<;>simp[om]
theorem NR {n:aO} (h:ei n):2*n.keys.length≤cr n:=by
 have U:∀l:List Nat,(∀x∈l,2≤x)→2*l.length≤l.sum:=by
   intro l
   induction l with
   |nil=>simp
   |cons a l dx=>
     intro h
     have:=h a (by simp)
     have:=dx fun x af=>h x (by simp[af])
     simp only[oS,JH];omega
 have ad:=U (cellsOf n) (by
   intro x af
   obtain ⟨i,hi,rfl⟩:=lU af
   have eV:i<n.keys.length:=by rwa[←Hl h]
   have aq:=R9 h eV
   rw[gT hi] at aq
   rw[Option.some.inj aq]
   unfold oo
   rw[eC,CB]
   split
   · rw[CB];omega
   · rw[om];omega)
 rw[Hl h] at ad
 unfold cr
 omega
abbrev Rd:=List UInt8×Bool
def pO (r:Rd) (k:Nat):List UInt8×Rd:=if r.2=false∨r.1.length<k then ([],(r.1,false)) else (r.1.take k,(r.1.drop k,true))
def rdNum (r:Rd) (k:Nat):Nat×Rd:=(if (pO r k).1.length=k then rC (pO r k).1 else 0,(pO r k).2)
def sV (r:Rd):List UInt8×Rd:=pO (rdNum r 1).2 (rdNum r 1).1
def E7 (s:aO×Rd):aO×Rd:=
 let t:=sV s.2
 if s.1.leaf then (⟨s.1.leaf,s.1.keys++ [t.1],s.1.vals++ [(sV t.2).1],s.1.kids⟩,(sV t.2).2)
 else (⟨s.1.leaf,s.1.keys++ [t.1],s.1.vals,s.1.kids++ [(rdNum t.2 2).1]⟩,(rdNum t.2 2).2)
def qj (s:aO×Rd):Nat→aO×Rd
 |0=>s
 |i+1=>E7 (qj s i)
def Ah (leaf:Bool) (r:Rd):aO×Rd:=if leaf then (⟨true,[],[],[]⟩,r) else (⟨false,[],[],[(rdNum r 2).1]⟩,(rdNum r 2).2)
def qP (leaf:Bool) (b:List UInt8):aO×Rd:=qj (Ah leaf (rdNum (b,true) 1).2) (rdNum (b,true) 1).1
def yl (leaf:Bool) (b:List UInt8) (n:aO):Prop:=ei n∧n.leaf=leaf∧cr n≤232∧sg n=b
theorem Ye (a b:List UInt8):pO (a++b,true) a.length=(a,(b,true)):=by
 unfold pO
 rw[if_neg (by simp)]
 simp
theorem NS {n k:Nat} (b:List UInt8) (h:n<256^k):rdNum (gD n k++b,true) k=(n,(b,true)):=by
 unfold rdNum
 have:=Ye (gD n k) b
 rw[om] at this
 rw[this]
 simp[om,R7 k n h]
theorem Yf (n:Nat) (h:n<256): [UInt8.ofNat n]=gD n 1:=by
 simp[gD,uW h]
theorem Sb (l:Key) (b:List UInt8) (h:l.length<256):sV (CA l++b,true)=(l,(b,true)):=by
 have e:CA l++b=gD l.length 1++(l++b):=by
   rw[←Yf _ h];rfl
 unfold sV
 rw[e,NS _ (by simpa using h)]
 exact Ye l b
theorem aiA {n:aO} (h:ei n) {i:Nat} (hi:i<n.keys.length) (b:List UInt8):
   E7 (⟨n.leaf,n.keys.take i,n.vals.take i,if n.leaf then [] else n.kids.take (i+1)⟩,(oo n i++b,true))=
     (⟨n.leaf,n.keys.take (i+1),n.vals.take (i+1),if n.leaf then [] else n.kids.take (i+2)⟩,(b,true)):=by
 have ae:n.keys.getD i []∈n.keys:=NQ hi
 have fy:=(h.keys.ok _ ae).2
 have sR:n.keys.take (i+1)=n.keys.take i++ [n.keys.getD i []]:=by
   rw[take_succ _ hi,od,gT hi];rfl
 unfold E7
 unfold oo
 rcases h with h|h
 · have al:i<n.vals.length:=by rw[h.len];exact hi
   have Sc:n.vals.getD i []∈n.vals:=NQ al
   have bC:n.vals.take (i+1)=n.vals.take i++ [n.vals.getD i []]:=by
     rw[take_succ _ al,od,gT al];rfl
   simp only[h.leaf,if_true]
   rw[eF,Sb _ _ (by omega)]
   simp only
   rw[Sb _ _ (by have:=h.vals _ Sc;omega),sR,bC]
 · have al:i+1<n.kids.length:=by rw[h.len];omega
   have Sc:n.kids.getD (i+1) 0∈n.kids:=NQ al
   have bC:n.kids.take (i+2)=n.kids.take (i+1)++ [n.kids.getD (i+1) 0]:=by
     rw[take_succ _ al,od,gT al];rfl
   simp only[h.inner,lS,if_false,h.vals]
   rw[eF,Sb _ _ (by omega)]
   simp only
   rw[NS _ (by have:=h.kids _ Sc;show _<65536;omega),sR,bC]
   simp
theorem Yg {n:aO} (h:ei n):∀i,i≤n.keys.length→
   qj (⟨n.leaf,[],[],if n.leaf then [] else n.kids.take 1⟩,(pN n 0 n.keys.length,true)) i=(⟨n.leaf,n.keys.take i,n.vals.take i,if n.leaf then [] else n.kids.take (i+1)⟩,(pN n i (n.keys.length-i),true))
 |0,_=>by simp[qj]
 |i+1,hi=>by
   rw[qj,Yg h i (by omega),show n.keys.length-i=n.keys.length-(i+1)+1 by omega,aiy]
   exact aiA h (by omega) _
theorem Sd {n:aO} (h:ei n) (aD:cr n≤232):qP n.leaf (sg n)=(n,([],true)):=by
 have ae:=NR h
 unfold qP
 have ba:rdNum (sg n,true) 1=(n.keys.length,((if n.leaf then [] else gD (n.kids.getD 0 0) 2)++pN n 0 n.keys.length,true)):=by
   have:sg n=gD n.keys.length 1++((if n.leaf then [] else gD (n.kids.getD 0 0) 2)++pN n 0 n.keys.length):=by
     rw[←Yf _ (by omega)];rfl
   rw[this,NS _ (by show _<256;omega)]
 rw[ba]
 simp only
 have bp:Ah n.leaf ((if n.leaf then [] else gD (n.kids.getD 0 0) 2)++pN n 0 n.keys.length,true)=(⟨n.leaf,[],[],if n.leaf then [] else n.kids.take 1⟩,(pN n 0 n.keys.length,true)):=by
   unfold Ah
   rcases h with h|h
   · simp[h.leaf]
   · have hd:0<n.kids.length:=by rw[h.len];omega
     have hm:n.kids.getD 0 0∈n.kids:=NQ hd
     have:=h.kids _ hm
     simp only[h.inner,lS,if_false]
     rw[NS _ (by show _<65536;omega)]
     cases JX:n.kids with
     |nil=>rw[JX] at hd;simp at hd
     |cons a l=>simp
 rw[bp,Yg h _ (cP _)]
 have dM:pN n n.keys.length (n.keys.length-n.keys.length)=[]:=by rw[ER];rfl
 rw[dM,hU (cP _)]
 rcases h with h|h
 · rw[hU (by rw[h.len];exact cP _)]
   have:=h.kids
   have:=h.leaf
   cases n
   simp_all
 · rw[hU (by rw[h.vals];simp),hU (by rw[h.len];exact cP _)]
   have:=h.inner
   cases n
   simp_all
theorem yl.uniq {leaf:Bool} {b:List UInt8} {n m:aO} (U:yl leaf b n) (ad:yl leaf b m):n=m:=by
 obtain ⟨a7,cQ,a3,a4⟩:=U
 obtain ⟨c3,cG,eT,eQ⟩:=ad
 have ba:=Sd a7 a3
 have bp:=Sd c3 eT
 rw[cQ,a4] at ba
 rw[cG,eQ,ba] at bp
 exact congrArg Prod.fst bp
end
section
def JY (n:Nat):Nat:=if n%2=1 then (n/2)^^^0x82f63b78 else n/2
def NT:Nat→Nat→Nat
 |0,n=>n
 |k+1,n=>JY (NT k n)
def Yh (n:Nat) (c:UInt8):Nat:=NT 8 (n^^^c.toNat)
def wz (n:Nat) (l:List UInt8):Nat:=l.foldl Yh n
def qQ (l:List UInt8):Nat:=4294967295-wz 4294967295 l
theorem aiB {n:Nat} (h:n<4294967296):JY n<4294967296:=by
 unfold JY
 split
 · exact Nat.xor_lt_two_pow (n:=32) (by show _<4294967296;omega) (by decide)
 · omega
theorem Se {n:Nat} (h:n<4294967296):∀k,NT k n<4294967296
 |0=>h
 |k+1=>aiB (Se h k)
theorem aiC {n:Nat} (h:n<4294967296) (c:UInt8):Yh n c<4294967296:=
 Se (Nat.xor_lt_two_pow (n:=32) h (by have:=GX c;show _<4294967296;omega)) 8
theorem NU:∀ (l:List UInt8) {n:Nat},n<4294967296→wz n l<4294967296
 | [],_,h=>h
 |c::l,_,h=>NU l (aiC h c)
theorem Yi (n:Nat) (a b:List UInt8):wz n (a++b)=wz (wz n a) b:=by simp[wz,List.foldl_append]
theorem Sf (l:List UInt8):qQ l<4294967296:=by unfold qQ;omega
structure tO where
 kind:Nat
 gen:Nat
 body:List UInt8
 deriving DecidableEq
structure JZ (p:tO):Prop where
 dJ:1≤p.kind
 eM:p.kind≤4
 gen:p.gen<18446744073709551616
 body:p.body.length≤232
def nL:List UInt8:=[83,84,78,67]
def j7 (no:Nat) (p:tO):List UInt8:=nL++([1,UInt8.ofNat p.kind]++(gD p.body.length 2++(gD no 4++gD p.gen 8)))
def kr (p:tO):List UInt8:=p.body++List.replicate (232-p.body.length) 0
def pn (no:Nat) (p:tO):List UInt8:=j7 no p++(gD (qQ (j7 no p++kr p)) 4++kr p)
theorem CC (no:Nat) (p:tO):(j7 no p).length=20:=by simp[j7,nL,om]
theorem NV {p:tO} (h:JZ p):(kr p).length=232:=by
 have:=h.body
 simp[kr];omega
theorem Yj {p:tO} (no:Nat) (h:JZ p):(pn no p).length=256:=by simp[pn,CC,om,NV h]
def sumOf (l:List UInt8):Nat:=qQ (l.take 20++l.drop 24)
def jm (l:List UInt8) (a k:Nat):Nat:=rC ((l.drop a).take k)
def mq (no:Int) (l:List UInt8):Except Int tO:=
 if l.length≠256 then .error 9
 else if l.take 4≠nL then .error 4
 else if l.getD 4 0≠1 then .error 12
 else if sumOf l≠jm l 20 4 then .error 5
 else if¬(1≤(l.getD 5 0).toNat∧(l.getD 5 0).toNat≤4)∨232<jm l 6 2∨(l.drop (24+jm l 6 2)).all (fun c=>c==0)=false then .error 4
 else if¬(0≤no∧no<1600)∨(jm l 8 4:Int)≠no then .error 1
 else .ok ⟨(l.getD 5 0).toNat,jm l 12 8,(l.drop 24).take (jm l 6 2)⟩
theorem drop_left' {α:Type} {a b:List α} {n:Nat} (h:a.length=n):(a++b).drop n=b:=by subst h;exact List.drop_left
theorem Ai {α:Type} {a b:List α} {n:Nat} (h:a.length=n):(a++b).take n=a:=by subst h;exact List.take_left
theorem NW {a b:List UInt8} {n k m:Nat} (aR:a.length=m) (h:n<256^k):jm (a++(gD n k++b)) m k=n:=by
 unfold jm
 rw[drop_left' aR,Ai (om n k),R7 k n h]
theorem aiD {no:Nat} {p:tO} (c8:no<1600) (h:JZ p):mq no (pn no p)= .ok p:=by
 have aa:=h.body
 have jd:=h.dJ
 have dW:=h.eM
 have bl:=h.gen
 have aU:=NV h
 have c4:=CC no p
 have ak:=Sf (j7 no p++kr p)
 have dc:jm (pn no p) 20 4=qQ (j7 no p++kr p):=NW c4 (by show _<4294967296;exact ak)
 have bp:pn no p=(nL++ [1,UInt8.ofNat p.kind])++(gD p.body.length 2++((gD no 4++gD p.gen 8)++(gD (qQ (j7 no p++kr p)) 4++kr p))):=by
   show j7 no p++_=_
   rw[show j7 no p=(nL++ [1,UInt8.ofNat p.kind])++(gD p.body.length 2++(gD no 4++gD p.gen 8)) by simp[j7]]
   simp only[eF]
 have c7:jm (pn no p) 6 2=p.body.length:=by rw[bp];exact NW rfl (by show _<65536;omega)
 have dM:pn no p=((nL++ [1,UInt8.ofNat p.kind])++gD p.body.length 2)++(gD no 4++(gD p.gen 8++(gD (qQ (j7 no p++kr p)) 4++kr p))):=by rw[bp];simp only[eF]
 have bw:jm (pn no p) 8 4=no:=by rw[dM];exact NW (by simp[nL,om]) (by show _<4294967296;omega)
 have j8:pn no p=((nL++ [1,UInt8.ofNat p.kind])++(gD p.body.length 2++gD no 4))++(gD p.gen 8++(gD (qQ (j7 no p++kr p)) 4++kr p)):=by rw[bp];simp only[eF]
 have gi:jm (pn no p) 12 8=p.gen:=by rw[j8];exact NW (by simp[nL,om]) (by show _<18446744073709551616;exact bl)
 have lX:pn no p=(j7 no p++gD (qQ (j7 no p++kr p)) 4)++kr p:=by simp[pn]
 have Sg:(j7 no p++gD (qQ (j7 no p++kr p)) 4).length=24:=by simp[c4,om]
 have d24:(pn no p).drop 24=kr p:=by rw[lX];exact drop_left' Sg
 have t4:(pn no p).take 4=nL:=by rw[bp];rfl
 have aN:(pn no p).getD 4 0=1:=by rw[bp];rfl
 have cX:((pn no p).getD 5 0).toNat=p.kind:=by rw[bp];show (UInt8.ofNat p.kind).toNat=p.kind;exact NO (by omega)
 have s:sumOf (pn no p)=qQ (j7 no p++kr p):=by
   unfold sumOf
   rw[d24,show (pn no p).take 20=j7 no p from Ai c4]
 unfold mq
 rw[if_neg (by rw[Yj no h];simp),if_neg (by rw[t4];simp),if_neg (by rw[aN];simp),if_neg (by rw[s,dc];simp),if_neg (by
   rw[cX,c7]
   rintro (U|U|U)
   · exact U ⟨jd,dW⟩
   · omega
   · rw[List.all_eq_false] at U
     obtain ⟨c,ak,U⟩:=U
     rw[←JI,d24] at ak
     unfold kr at ak
     rw[List.drop_left] at ak
     exact U (by rw[RK ak];rfl)),if_neg (by rw[bw];rintro (U|U)<;>omega),cX,c7,gi,d24]
 have:(kr p).take p.body.length=p.body:=by unfold kr;exact List.take_left
 rw[this]
end
section
def pP (s:ab):Value:= .slice s.a s.len s.cap
abbrev oX (w:World) (s:ab):Prop:=∀k,aQ s k→w.heap.size≤k
theorem oX.mono {w w':World} {s:ab} (h:oX w' s) (af:w.heap.size≤w'.heap.size):oX w s:=fun k ae=>jb af (h k ae)
theorem len8 {w:World} {s:ab} {l:List UInt8} (h:Src 1 w s (a_ l)):s.len=l.length:=by have:=h.len;rw[jE] at this;omega
theorem Aj {w:World} {T:TypeId} {s:ab} {l:List UInt8} (h:bX 1 T w s (a_ l)):s.len=l.length:=by have:=h.1;rw[jE] at this;omega
theorem CD {w:World} {s:ab} {l:List UInt8} {lo hi:Nat} (h:Src 1 w s (a_ l)) (ak:s.len≤s.cap) (U:lo≤hi) (ad:hi≤s.len):Src 1 w ⟨bh s.a 1 lo s.cap,hi-lo,s.cap-lo⟩ (a_ ((l.drop lo).take (hi-lo))):=by
 have:=Src.sub h ak U ad
 simpa[a_,GU,EP] using this
def je (ps:List (ab×List UInt8)):List UInt8:=(ps.map (·.2)).flatten
theorem Yk (a:List (ab×List UInt8)) (p:ab×List UInt8):je (a++ [p])=je a++p.2:=by simp[je]
theorem aiE (ps:List (ab×List UInt8)) (j:Nat):(je (ps.take j)).length≤(je ps).length:=by
 have h:ps=ps.take j++ps.drop j:=(qI j ps).symm
 have:(je ps).length=(je (ps.take j)).length+(je (ps.drop j)).length:=by
   conv=>lhs;rw[h]
   unfold je
   rw[mV,List.flatten_append,eC]
 omega
theorem Yl (ps:List (ab×List UInt8)) {j:Nat} (aZ:j<ps.length):(ps[j]).2.length≤(je ps).length:=by
 have h:ps=ps.take j++ps[j]::ps.drop (j+1):=by rw[←tK aZ,qI]
 have:(je ps).length=(je (ps.take j)).length+((ps[j]).2.length+(je (ps.drop (j+1))).length):=by
   conv=>lhs;rw[h]
   unfold je
   rw[mV,List.flatten_append,eC,sM,List.flatten_cons,eC]
 omega
theorem NX {s:ab} {w:World} (ps:List (ab×List UInt8)) (aj:Src 1 w s (ps.map fun p=>pP p.1)) (aV:∀p∈ps,Src 1 w p.1 (a_ p.2)) (aB:(je ps).length≤100000) (aD:ps.length≤100000):
   aP Tryz.prog F.sW #[.slice s.a s.len s.cap] w (fun v w'=>∃au:ab,v= .slice au.a au.len au.cap∧bX 1 ah.uint8 w' au (a_ (je ps))∧Ext w w'∧oX w au):=by
 refine W.aiF s w _ ?_
 (delta W.sW aF bc ar aE;dsimp only)
 have gh:s.len=ps.length:=by have:=aj.len;rw[kF] at this;omega
 refine ⟨fun au i w'=>∃j:Nat,i=j∧j≤ps.length∧bX 1 ah.uint8 w' au (a_ (je (ps.take j)))∧Ext w w'∧oX w au,fun _ i _=>((ps.length:Int)-i).toNat,⟨0,rfl,fi _,bX.none 1 ah.uint8 _, .refl _ _,fun k ae=>(rD k ae).elim⟩,?_⟩
 rintro au _ ag ⟨j,rfl,aZ,bG,af,aA⟩
 refine ⟨fun a6=> ?_,fun cm=> ?_⟩
 · have a6:j<ps.length:=by have:=dL a6;omega
   obtain ⟨A,ay,aa,jF⟩:=(aj.ext af).at (i:=j) (v:=pP (ps[j]).1) (by simp[a6])
   have Ym:=(aV _ (e3 a6)).ext af
   have U:=Yl ps a6
   have ad:=aiE ps j
   have aq:=len8 Ym
   have aK:=Aj bG
   obtain ⟨s2,aw,aC,aG,aJ,aN,cX⟩:=E3.append (ew:=ah.cc) Ym bG (wx _) (by rw[aq,aK];omega)
   rw[cL (n:=(j:Int)+1) (by omega) (by omega)]
   refine ⟨A,ay,aa,(ps[j]).1,jF,s2,aw,aC,⟨j+1,by omega,by omega,?_,Ext.gv af aN aA,fun k ae=> ?_⟩,?_⟩
   · rw[take_succ _ a6]
     rw[Yk,E2];exact aG
   · rcases cX k ae with h|h
     · exact aA k h
     · exact jb af.size h
   · show ((ps.length:Int)-((j:Int)+1)).toNat<((ps.length:Int)-(j:Int)).toNat
     omega
 · have cm:j=ps.length:=by have:=fb cm;omega
   subst cm
   rw[r9] at bG
   exact ⟨au,rfl,bG,af,aA⟩
theorem aiG {s:ab} {l:List UInt8} {w:World} (aj:Src 1 w s (a_ l)) (ak:s.len≤s.cap) {a k:Nat} (aR:a+k≤l.length) (aB:l.length≤1000000000000):
   aP Tryz.prog F.uZ #[.slice s.a s.len s.cap, .int .i64 a, .int .i64 k] w (fun v w'=>v= .tuple #[.slice (bh s.a 1 a s.cap) k (s.cap-a), .bool true]∧w=w'):=by
 have gh:=len8 aj
 refine W.R5 s a k w _ ?_
 delta W.uZ aF aE
 rw[cL (n:=((s.len:Nat):Int)-(a:Int)) (by omega) (by omega),cL (n:=(a:Int)+(k:Int)) (by omega) (by omega)]
 refine ⟨fun h=> ?_,fun _=>⟨⟨by omega,by omega⟩,⟨by omega,by omega⟩,?_,rfl⟩⟩
 · simp only[wj,fE] at h;omega
 · rw[show Int.toNat ((a:Int)+(k:Int))-Int.toNat (a:Int)=k by omega];rfl
theorem aiH {s:ab} {l:List UInt8} {w:World} (aj:Src 1 w s (a_ l)) {a k:Nat} (aR:l.length<a+k) (avq:a≤l.length) (aB:l.length≤1000000000000) (ae:k≤1000000000000):
   aP Tryz.prog F.uZ #[.slice s.a s.len s.cap, .int .i64 a, .int .i64 k] w (fun v w'=>v= .tuple #[.slice none 0 0, .bool false]∧w=w'):=by
 have gh:=len8 aj
 refine W.R5 s a k w _ ?_
 delta W.uZ aF aE
 rw[cL (n:=((s.len:Nat):Int)-(a:Int)) (by omega) (by omega),cL (n:=(a:Int)+(k:Int)) (by omega) (by omega)]
 have e:(((decide ((a:Int)<0))||(decide ((k:Int)<0)))||(decide ((a:Int)>((s.len:Nat):Int)))||(decide ((k:Int)>(((s.len:Nat):Int)-(a:Int)))))=true:=by
   simp only[wj,fE];omega
 exact ⟨fun _=>⟨rfl,rfl⟩,fun h=>(by rw[e] at h;cases h)⟩
theorem ym {s:ab} {l:List UInt8} {w:World} (aj:Src 1 w s (a_ l)) (ak:s.len≤s.cap) {a k:Nat} (aR:a+k≤l.length) (aB:l.length≤100000):
   aP Tryz.prog F.ym #[.slice s.a s.len s.cap, .int .i64 a, .int .i64 k] w (fun v w'=>∃au:ab,v= .tuple #[.slice au.a au.len au.cap, .bool true]∧bX 1 ah.uint8 w' au (a_ ((l.drop a).take k))∧Ext w w'∧oX w au):=by
 have gh:=len8 aj
 refine W.aiI s a k w _ ?_
 (delta W.ym E6 dZ;dsimp only)
 refine (aiG aj ak aR (by omega)).use ?_
 rintro _ _ ⟨rfl,rfl⟩
 have iU:=CD aj ak (lo:=a) (hi:=a+k) (by omega) (by omega)
 rw[show a+k-a=k by omega] at iU
 refine ⟨⟨bh s.a 1 a s.cap,k,s.cap-a⟩,true,rfl,(R6 iU (by simp;omega)).use ?_⟩
 rintro _ ag ⟨au,rfl,bG,af,aA⟩
 exact ⟨au,rfl,au,rfl,bG,af,aA⟩
theorem aiJ {s:ab} {l:List UInt8} {w:World} (aj:Src 1 w s (a_ l)) {k:Nat} (ae:k≤8) (aR:l.length<k):
   aP Tryz.prog F.sT #[.slice s.a s.len s.cap, .int .i64 (0:Nat), .int .i64 k] w (fun v w'=>v= .tuple #[.int .u64 0, .bool false]∧w=w'):=by
 refine W.Yc s (0:Nat) k w _ ?_
 (delta W.sT E6 aF bk bc iC aE;dsimp only)
 refine (aiH aj (a:=0) (by omega) (by omega) (by omega) (by omega)).use ?_
 rintro _ _ ⟨rfl,rfl⟩
 refine ⟨⟨none,0,0⟩,false,rfl,ff (fun b w'=>b=true∧w=w') (fun q J=>⟨fun _=>J _ _ ⟨rfl,rfl⟩,fun h=>by simp at h⟩) ?_⟩
 rintro _ _ ⟨rfl,rfl⟩
 exact ⟨fun _=>⟨rfl,rfl⟩,fun h=>by simp at h⟩
theorem NY {a:Nat} (aR:a<4294967296):(BitVec.ofInt 32 (a:Int))=BitVec.ofNat 32 a:=by simp
theorem NZ {a b:Nat} (aR:a<4294967296) (aa:b<4294967296):E8 .u32 (a:Int) (b:Int)=((a^^^b:Nat):Int):=by
 unfold E8
 show IntKind.u32.wrap (((BitVec.ofInt 32 (a:Int)^^^BitVec.ofInt 32 (b:Int)).toNat:Nat):Int)=_
 rw[NY aR,NY aa,BitVec.toNat_xor,BitVec.toNat_ofNat,BitVec.toNat_ofNat,uW (by simpa using aR),uW (by simpa using aa)]
 have:a^^^b<4294967296:=Nat.xor_lt_two_pow (n:=32) aR aa
 rw[Sh (by omega) (by omega)]
theorem aiK {a b:Nat} (aR:a<4294967296) (aa:b<4294967296):tP .u32 (a:Int) (b:Int)=((a&&&b:Nat):Int):=by
 unfold tP
 show IntKind.u32.wrap (((BitVec.ofInt 32 (a:Int)&&&BitVec.ofInt 32 (b:Int)).toNat:Nat):Int)=_
 rw[NY aR,NY aa,BitVec.toNat_and,BitVec.toNat_ofNat,BitVec.toNat_ofNat,uW (by simpa using aR),uW (by simpa using aa)]
 have:a&&&b≤a:=Nat.and_le_left
 rw[Sh (by omega) (by omega)]
theorem aiL {n:Nat} (aD:n<4294967296):
   E8 .u32 (Int.fdiv (n:Int) (2^(min (Int.toNat 1) 32))) (tP .u32 2197175160 (IntKind.wrap .u32 (0-(tP .u32 (n:Int) 1))))=((JY n:Nat):Int):=by
 have ba:tP .u32 (n:Int) 1=((n%2:Nat):Int):=by
   have:=aiK aD (show 1<4294967296 by omega)
   rw[Nat.and_one_is_mod] at this
   exact this
 have bp:Int.fdiv (n:Int) (2^(min (Int.toNat 1) 32))=((n/2:Nat):Int):=by
   rw[Int.fdiv_eq_ediv_of_nonneg _ (by decide)];rfl
 rw[ba,bp]
 unfold JY
 rcases Nat.mod_two_eq_zero_or_one n with h|h
 · rw[h,if_neg (by omega)]
   have dM:tP .u32 2197175160 (IntKind.wrap .u32 (0-((0:Nat):Int)))=((0:Nat):Int):=by decide+kernel
   rw[dM,NZ (by omega) (by omega),Nat.xor_zero]
 · rw[h,if_pos rfl]
   have dM:tP .u32 2197175160 (IntKind.wrap .u32 (0-((1:Nat):Int)))=((2197175160:Nat):Int):=by decide+kernel
   rw[dM,NZ (by omega) (by omega)]
theorem yn {s:ab} {l:List UInt8} {w:World} {n:Nat} (aj:Src 1 w s (a_ l)) (aD:n<4294967296) (aB:l.length≤1000000):
   aP Tryz.prog F.yn #[.int .u32 n, .slice s.a s.len s.cap] w (fun v w'=>v= .int .u32 (wz n l:Nat)∧w=w'):=by
 have gh:=len8 aj
 refine W.aiM n s w _ ?_
 (delta W.yn aF bc iC aE;dsimp only)
 refine ⟨fun m i w'=>∃j:Nat,i=j∧j≤l.length∧m=((wz n (l.take j):Nat):Int)∧w=w',fun _ i _=>((l.length:Int)-i).toNat,⟨0,rfl,fi _,rfl,rfl⟩,?_⟩
 rintro _ _ _ ⟨j,rfl,aZ,rfl,rfl⟩
 refine ⟨fun a6=> ?_,fun cm=> ?_⟩
 · have a6:j<l.length:=by have:=dL a6;omega
   obtain ⟨A,ay,aa,jF⟩:=aj.at (Hg a6)
   have hm:=NU (l.take j) aD
   have ak:=GX (l[j])
   have af:=Nat.xor_lt_two_pow (n:=32) hm (show (l[j]).toNat<4294967296 by omega)
   refine ⟨A,ay,aa,_,jF,fun m i w'=>∃k:Nat,i=k∧k≤8∧m=((NT k (wz n (l.take j)^^^(l[j]).toNat):Nat):Int)∧w=w',fun _ i _=>((8:Int)-i).toNat,⟨0,rfl,by omega,?_,rfl⟩,?_⟩
   · rw[Sh (by omega) (by omega),NZ hm (by omega)];rfl
   rintro _ _ _ ⟨k,rfl,ae,rfl,rfl⟩
   refine ⟨fun Si=> ?_,fun Sj=> ?_⟩
   · have Si:k<8:=by have:=dL Si;omega
     rw[aiL (Se af k),cL (n:=(k:Int)+1) (by omega) (by omega)]
     refine ⟨by decide,⟨k+1,by omega,by omega,rfl,rfl⟩,?_⟩
     show ((8:Int)-((k:Int)+1)).toNat<((8:Int)-(k:Int)).toNat
     omega
   · have Sj:k=8:=by have:=fb Sj;omega
     subst Sj
     rw[cL (n:=(j:Int)+1) (by omega) (by omega)]
     refine ⟨⟨j+1,by omega,by omega,?_,rfl⟩,?_⟩
     · rw[take_succ _ a6,Yi];rfl
     · show ((l.length:Int)-((j:Int)+1)).toNat<((l.length:Int)-(j:Int)).toNat
       omega
 · have cm:j=l.length:=by have:=fb cm;omega
   subst cm
   rw[r9]
   exact ⟨rfl,rfl⟩
theorem aiN {n:Nat} (h:n<4294967296):4294967295^^^n=4294967295-n:=by
 apply Nat.eq_of_testBit_eq
 intro i
 have U:(4294967295-n).testBit i=(decide (i<32)&& !n.testBit i):=by
   have:=Nat.testBit_two_pow_sub_succ (n:=32) (x:=n) (by simpa using h) i
   rw[←this];congr 1;omega
 have ad:(4294967295:Nat).testBit i=decide (i<32):=by
   have:=Nat.testBit_two_pow_sub_one 32 i
   exact this
 rw[Nat.testBit_xor,U,ad]
 by_cases hi:i<32
 · simp[hi]
 · have:n.testBit i=false:=by
     apply Nat.testBit_lt_two_pow
     exact ly h (Nx (n:=2) (by omega) (show 32≤i by omega))
   simp[hi,this]
theorem aiO {s:ab} {w:World} (ps:List (ab×List UInt8)) (aj:Src 1 w s (ps.map fun p=>pP p.1)) (aV:∀p∈ps,Src 1 w p.1 (a_ p.2)) (aB:(je ps).length≤100000) (aD:ps.length≤100000):
   aP Tryz.prog F.CE #[.slice s.a s.len s.cap] w (fun v w'=>v= .int .u32 (qQ (je ps):Nat)∧w=w'):=by
 refine W.aiP s w _ ?_
 (delta W.CE aF bc ar CF aE;dsimp only)
 have gh:s.len=ps.length:=by have:=aj.len;rw[kF] at this;omega
 refine ⟨fun m i w'=>∃j:Nat,i=j∧j≤ps.length∧m=((wz 4294967295 (je (ps.take j)):Nat):Int)∧w=w',fun _ i _=>((ps.length:Int)-i).toNat,⟨0,rfl,fi _,rfl,rfl⟩,?_⟩
 rintro _ _ _ ⟨j,rfl,aZ,rfl,rfl⟩
 refine ⟨fun a6=> ?_,fun cm=> ?_⟩
 · have a6:j<ps.length:=by have:=dL a6;omega
   obtain ⟨A,ay,aa,jF⟩:=aj.at (i:=j) (v:=pP (ps[j]).1) (by simp[a6])
   have hm:=NU (je (ps.take j)) (n:=4294967295) (by decide)
   refine ⟨A,ay,aa,(ps[j]).1,jF,(yn (aV _ (e3 a6)) hm (by have:=Yl ps a6;omega)).use ?_⟩
   rintro _ _ ⟨rfl,rfl⟩
   rw[cL (n:=(j:Int)+1) (by omega) (by omega)]
   refine ⟨_,rfl,⟨j+1,by omega,by omega,?_,rfl⟩,?_⟩
   · rw[take_succ _ a6,←Yi,Yk]
   · show ((ps.length:Int)-((j:Int)+1)).toNat<((ps.length:Int)-(j:Int)).toNat
     omega
 · have cm:j=ps.length:=by have:=fb cm;omega
   subst cm
   rw[r9]
   have hm:=NU (je ps) (n:=4294967295) (by decide)
   refine ⟨?_,rfl⟩
   have:=NZ (a:=4294967295) (b:=wz 4294967295 (je ps)) (by decide) hm
   rw[aiN hm] at this
   exact congrArg _ this
theorem u0 {s:ab} {l:List UInt8} {w:World} (aj:Src 1 w s (a_ l)) (ak:s.len≤s.cap) (aB:l.length=256):
   aP Tryz.prog F.u0 #[.slice s.a s.len s.cap] w (fun v w'=>v= .int .u32 (sumOf l:Nat)∧Ext w w'):=by
 have gh:=len8 aj
 refine W.aiQ s w _ ?_
 (delta W.u0 az CF ai;dsimp only)
 have bK:Ext w w.drew:=ao.drew (.refl _ _)
 refine ⟨⟨by decide,by omega⟩,⟨by decide,by omega⟩,?_⟩
 have U:=CD (aj.ext bK) ak (lo:=0) (hi:=20) (by omega) (by omega)
 have ad:=CD (aj.ext bK) ak (lo:=24) (hi:=s.len) (by omega) (by omega)
 have cD:∀o,Ext w.drew (w.drew.alloc o):=fun o=>ao.alloc (.refl _ _) o
 refine (aiO [(⟨bh s.a 1 0 s.cap,20-0,s.cap-0⟩,(l.drop 0).take (20-0)),(⟨bh s.a 1 24 s.cap,s.len-24,s.cap-24⟩,(l.drop 24).take (s.len-24))] (s:=⟨some ⟨w.drew.heap.size,0,none⟩,2,2⟩) (Src.new w.drew _ 2 rfl) ?_ ?_ ?_).use ?_
 · intro p aV
   simp only[gg,ml,mm] at aV
   rcases aV with rfl|rfl
   · exact U.ext (cD _)
   · exact ad.ext (cD _)
 · simp[je];omega
 · simp
 rintro _ ag ⟨rfl,rfl⟩
 refine ⟨_,rfl,?_,bK.trans (cD _)⟩
 have:je [((⟨bh s.a 1 0 s.cap,20-0,s.cap-0⟩:ab),(l.drop 0).take (20-0)),(⟨bh s.a 1 24 s.cap,s.len-24,s.cap-24⟩,(l.drop 24).take (s.len-24))]=l.take 20++l.drop 24:=by
   simp only[je,sM,List.map_nil,List.flatten_cons,List.flatten_nil,lP,z8]
   rw[hU (l:=l.drop 24) (by rw[fF];omega)]
 rw[this];rfl
end
section
theorem bX.aiR {T:TypeId} {w:World} {s:ab} {vs us:List Value} {b o:Nat} (h:bX 1 T w s vs) (aa:s.a=some ⟨b,0,none⟩) (bG:o+us.length≤s.len):
   bX 1 T (setCells w ⟨b,o,none⟩ 0 us) s (vs.take o++us++vs.drop (o+us.length)):=by
 obtain ⟨U,ad,aq,aK⟩:=h
 rcases aK with ⟨aD,_⟩|⟨jn,c,jo,jf,fq,aU⟩
 · rw[aD] at aa;cases aa
 · rw[aa] at jo
   cases jo
   have qg:c.toList.length=s.cap:=by simpa using fq
   have hle:o+us.length≤c.size:=by omega
   rw[lQ] at U fq
   refine ⟨by simp;omega,ad,aq, .inr ⟨b,_,aa,cj.Ak jf us,by rw[rB];omega,?_⟩⟩
   rw[lQ] at aU⊢
   rw[yo _ _ _ hle,←aU,JK,r7 (by omega),eF,eF,List.take_append,List.take_append,ee,r7 (by omega),
     hU (l:=c.toList.take o) (by rw[ee];omega),hU (l:=us) (by omega),List.drop_take,show s.len-o-us.length=s.len-(o+us.length) by omega]
theorem N0 (w:World) (l:List UInt8):
   ∃w',Sem.run Tryz.prog (convert ah.cc ah.cc (.slice (some ⟨w.heap.size,0,none⟩) l.length l.length)) (w.alloc (.cells (a_ l).toArray ah.uint8))= .ok (.slice (some ⟨w.heap.size,0,none⟩) l.length l.length) w'∧
     Src 1 w' ⟨some ⟨w.heap.size,0,none⟩,l.length,l.length⟩ (a_ l)∧Ext w w'∧w'.heap.size=w.heap.size+1:=by
 refine ⟨_,Go.Lib.run_convert_bytes_const (P:=Tryz.prog) w ah.cc ah.uint8 (a_ l).toArray l.length l.length (by kernel_rfl) (by kernel_rfl),⟨by rw[jE,lQ],(fun h=>by cases h),fun a aR=> ?_⟩,ao.alloc (.refl _ _) _,by simp⟩
 cases aR
 have:=R3 (w:=w.alloc (.cells (a_ l).toArray ah.uint8 ((a_ l).toArray.size,(a_ l).toArray.size+1))) (A:=⟨w.heap.size,0,none⟩) (a_ l) 0 (fun j v aZ=>by
   rw[aX]
   show (World.cell? _ _)=_
   have:(w.alloc (.cells (a_ l).toArray ah.uint8 ((a_ l).toArray.size,(a_ l).toArray.size+1))).heap[w.heap.size]? =some (.cells (a_ l).toArray ah.uint8 ((a_ l).toArray.size,(a_ l).toArray.size+1)):=by
     show (w.heap.push _)[w.heap.size]? =_
     simp
   simp only[World.cell?,this]
   simpa using aZ)
 rw[jE] at this
 rw[lQ]
 exact this
theorem Yn (n:Nat):pQ Tryz.prog ah.uint8 n=(a_ (List.replicate n 0)).toArray:=by
 rw[Yo (v:= .int .u8 0) (by kernel_rfl) (by kernel_rfl)]
 simp[a_]
theorem aiS {A Z T C:List UInt8} {n m:Nat} (ay:A.length=n) (u3:Z.length=m):(a_ (A++(Z++T))).take n++a_ C++(a_ (A++(Z++T))).drop (n+m)=a_ (A++(C++T)):=by
 have ba:(a_ (A++(Z++T))).take n=a_ A:=by rw[E2];exact Ai (by rw[jE,ay])
 have bp:(a_ (A++(Z++T))).drop (n+m)=a_ T:=by rw[←eF,E2];exact drop_left' (by rw[jE,eC,ay,u3])
 rw[ba,bp,E2,E2,eF]
theorem ej (w:World):Ext w w.drew:=ao.drew (.refl _ _)
theorem iM (w:World) (o:Obj):Ext w (w.alloc o):=ao.alloc (.refl _ _) o
theorem J0 (w:World) (o:Obj):(w.alloc o).heap.size=w.heap.size+1:=by simp
theorem aiT {s:ab} {p:tO} {no:Nat} {w:World} (aj:Src 1 w s (a_ p.body)) (c8:no<1600) (aV:JZ p):
   aP Tryz.prog F.CG #[.int .i64 no, .agg #[.int .i64 p.kind, .int .u64 p.gen, .slice s.a s.len s.cap]] w (fun v w'=>∃au:ab,v= .tuple #[.slice au.a au.len au.cap, .int .i64 0]∧bX 1 ah.uint8 w' au (a_ (pn no p))∧Ext w w'∧oX w au):=by
 have jd:=aV.dJ
 have dW:=aV.eM
 have avr:=aV.gen
 have yp:=aV.body
 have gh:=len8 aj
 refine W.aiU no p.kind p.gen s w _ ?_
 (delta W.CG bk aF bD ai ar dZ kJ yq Sk aE Sl CF;dsimp only)
 refine cx (vs:=[.int .i64 p.kind, .int .u64 p.gen, .slice s.a s.len s.cap]) rfl fun ag al bK nM=> ?_
 have bj:∀ {w':World},Ext ag w'→w'.cell? (Addr.add ⟨w.heap.size,0,none⟩ 2)=some (.slice s.a s.len s.cap):=fun af=>by rw[aX];exact (al.ext af).cell
 have bm:∀ {w':World},Ext ag w'→w'.cell? (Addr.add ⟨w.heap.size,0,none⟩ 1)=some (.int .u64 p.gen):=fun af=>by rw[aX];exact (al.ext af).cell
 refine Calls.mono (W.Yp no ag (fun v w'=>v= .bool true∧ag=w') ⟨by simp;omega,rfl⟩) ?_
 rintro _ _ ⟨_,rfl,rfl,rfl⟩
 refine ⟨_,rfl,ff (fun b w'=>b=false∧ag=w') (fun q J=>⟨fun U=>by simp at U,fun U=>⟨p.kind,al.cell,?_⟩⟩) ?_⟩
 · refine Calls.mono (W.Yq p.kind ag (fun v w'=>v= .bool true∧ag=w') ⟨by simp;omega,rfl⟩) ?_
   rintro _ _ ⟨_,rfl,rfl,rfl⟩
   exact ⟨_,rfl,J _ _ ⟨rfl,rfl⟩⟩
 rintro b _ ⟨rfl,rfl⟩
 refine ⟨fun h=>(by cases h),fun _=>⟨s,bj (.refl _ _),fun h=>(by have:=dL h;omega),fun _=>bN ?_⟩⟩
 obtain ⟨aw,u4,hm,tQ,tR⟩:=N0 ag nL
 refine ⟨⟨some ⟨ag.heap.size,0,none⟩,4,4⟩,aw,u4,p.kind,(al.ext tQ).cell,?_⟩
 have sR:IntKind.wrap .u8 (p.kind:Int)=(((UInt8.ofNat p.kind).toNat:Nat):Int):=by rw[NO (by omega),Sm (by omega) (by omega)]
 rw[sR]
 have ae:=Src.new (T:=ah.uint8) (sz:=1) aw (a_ [1,UInt8.ofNat p.kind]) 2 rfl
 have Sn:=iM aw (.cells (a_ [1,UInt8.ofNat p.kind]).toArray ah.uint8)
 obtain ⟨a8,nm⟩:∃a8,a8=aw.alloc (.cells (a_ [1,UInt8.ofNat p.kind]).toArray ah.uint8):=⟨_,rfl⟩
 show az (aw.alloc (.cells (a_ [1,UInt8.ofNat p.kind]).toArray ah.uint8)) _
 rw[←nm] at ae Sn⊢
 refine bN ?_
 have CH:=Src.new (T:=ah.cc) (sz:=1) a8 [.slice (some ⟨ag.heap.size,0,none⟩) 4 4, .slice (some ⟨aw.heap.size,0,none⟩) 2 2] 2 rfl
 have yr:=iM a8 (.cells #[.slice (some ⟨ag.heap.size,0,none⟩) 4 4, .slice (some ⟨aw.heap.size,0,none⟩) 2 2] ah.cc)
 obtain ⟨bz,Hm⟩:∃bz,bz=a8.alloc (.cells #[.slice (some ⟨ag.heap.size,0,none⟩) 4 4, .slice (some ⟨aw.heap.size,0,none⟩) 2 2] ah.cc):=⟨_,rfl⟩
 have CH:Src 1 bz ⟨some ⟨a8.heap.size,0,none⟩,2,2⟩ [.slice (some ⟨ag.heap.size,0,none⟩) 4 4, .slice (some ⟨aw.heap.size,0,none⟩) 2 2]:=by rw[Hm];exact CH
 rw[←Hm] at yr⊢
 have tS:Ext ag bz:=tQ.trans (Sn.trans yr)
 refine bN ((NX (s:=⟨some ⟨a8.heap.size,0,none⟩,2,2⟩) [((⟨some ⟨ag.heap.size,0,none⟩,4,4⟩:ab),nL),(⟨some ⟨aw.heap.size,0,none⟩,2,2⟩,[1,UInt8.ofNat p.kind])] CH ?_ (by simp[je,nL]) (by simp)).use ?_)
 · intro q J
   simp only[gg,ml,mm] at J
   rcases J with rfl|rfl
   · exact hm.ext (Sn.trans yr)
   · exact ae.ext yr
 rintro _ bO ⟨bE,rfl,yt,kK,Sp⟩
 have qR:=tS.trans kK
 have lX:je [((⟨some ⟨ag.heap.size,0,none⟩,4,4⟩:ab),nL),(⟨some ⟨aw.heap.size,0,none⟩,2,2⟩,[1,UInt8.ofNat p.kind])]=nL++ [1,UInt8.ofNat p.kind]:=by simp[je]
 rw[lX] at yt
 refine ⟨bE,rfl,s,bj qR,?_⟩
 rw[wy (n:=((s.len:Nat):Int)) (by omega) (by omega),wy (n:=(no:Int)) (by omega) (by omega)]
 refine (pk yt.src (n:=s.len) (k:=2) (by simp[nL]) (by show _<18446744073709551616;omega) ⟨by decide,by decide⟩).use ?_
 rintro _ bg ⟨dj,rfl,u5,kt,CI⟩
 have nN:=qR.trans kt
 refine ⟨dj,rfl,(pk u5.src (n:=no) (k:=4) (by simp[nL,om]) (by show _<18446744073709551616;omega) ⟨by decide,by decide⟩).use ?_⟩
 rintro _ aS ⟨jg,rfl,Hn,eW,yu⟩
 have sh:=nN.trans eW
 refine ⟨jg,rfl,_,bm sh,(pk Hn.src (n:=p.gen) (k:=8) (by simp[nL,om]) (by show _<18446744073709551616;omega) ⟨by decide,by decide⟩).use ?_⟩
 rintro _ cd ⟨fw,rfl,sX,gP,Yr⟩
 have CJ:=sh.trans gP
 have u6:nL++ [1,UInt8.ofNat p.kind]++gD s.len 2++gD no 4++gD p.gen 8=j7 no p:=by rw[gh];simp[j7]
 rw[u6] at sX
 refine ⟨fw,rfl,ff (fun t w'=>bX 1 ah.uint8 w' t (a_ (j7 no p++(List.replicate 4 0++kr p)))∧Ext ag w'∧oX w t) (fun q J=> ?_) ?_⟩
 · have bB:=ej cd
   have Ys:=CJ.trans bB
   have Al:IntKind.wrap .i64 (232-((s.len:Nat):Int))=((232-s.len:Nat):Int):=by rw[cL (by omega) (by omega)];omega
   refine bN ⟨fun _=>False,id,s,bj Ys,id,s,bj Ys,?_⟩
   rw[Al]
   simp only[g_,show Int.toNat 4=4 from rfl]
   rw[Yn,Yn]
   have fin:∀ (bY Am:World) (dA pR:ab),Ext cd Am→Src 1 Am dA (a_ (List.replicate 4 0))→Src 1 Am pR (a_ (List.replicate (232-s.len) 0))→
       Calls Tryz.prog F.sW #[.slice (some ⟨Am.heap.size,0,none⟩) 4 4] (Am.alloc (.cells #[.slice fw.a fw.len fw.cap, .slice dA.a dA.len dA.cap, .slice s.a s.len s.cap, .slice pR.a pR.len pR.cap] ah.cc)) fun aiV ek=>∃hW:ab,aiV= .returned (.slice hW.a hW.len hW.cap)∧q hW ek:=by
     intro bY Am dA pR N1 U ad
     have kX:=iM Am (.cells #[.slice fw.a fw.len fw.cap, .slice dA.a dA.len dA.cap, .slice s.a s.len s.cap, .slice pR.a pR.len pR.cap] ah.cc)
     refine (NX (s:=⟨some ⟨Am.heap.size,0,none⟩,4,4⟩) [(fw,j7 no p),(dA,List.replicate 4 0),(s,p.body),(pR,List.replicate (232-s.len) 0)] (Src.new Am _ 4 rfl) ?_ (by simp[je,CC];omega) (by simp)).use ?_
     · intro x af
       simp only[gg,ml,mm] at af
       rcases af with rfl|rfl|rfl|rfl
       · exact sX.src.ext (N1.trans kX)
       · exact U.ext kX
       · exact aj.ext ((bK.trans (CJ.trans N1)).trans kX)
       · exact ad.ext kX
     · rintro _ b3 ⟨fW,rfl,bG,af,aA⟩
       refine ⟨fW,rfl,J _ _ ⟨?_,(CJ.trans N1).trans (kX.trans af),aA.mono (bK.trans ((CJ.trans N1).trans kX)).size⟩⟩
       have e:je [(fw,j7 no p),(dA,List.replicate 4 0),(s,p.body),(pR,List.replicate (232-s.len) 0)]=j7 no p++(List.replicate 4 0++kr p):=by simp[je,kr,gh]
       rwa[e] at bG
   refine ⟨⟨⟨by decide,by decide,by decide,by decide⟩,bN ⟨iM _ _,⟨by omega,Int.le_refl _,by omega,by omega⟩,bN ⟨iM _ _,bN ?_⟩⟩⟩,⟨⟨by omega,Int.le_refl _,by omega,by omega⟩,bN ⟨iM _ _,⟨by decide,by decide,by decide,by decide⟩,bN ⟨iM _ _,bN ?_⟩⟩⟩⟩
   · refine fin cd _ ⟨some ⟨cd.drew.heap.size,0,none⟩,4,4⟩ ⟨some ⟨(cd.drew.alloc _).heap.size,0,none⟩,232-s.len,232-s.len⟩ (bB.trans ((iM _ _).trans (iM _ _))) (Src.ext (Src.new _ _ _ (by simp[a_])) (iM _ _)) (Src.new _ _ _ (by simp[a_]))
   · refine fin cd _ ⟨some ⟨(cd.drew.alloc _).heap.size,0,none⟩,4,4⟩ ⟨some ⟨cd.drew.heap.size,0,none⟩,232-s.len,232-s.len⟩ (bB.trans ((iM _ _).trans (iM _ _))) (Src.new _ _ _ (by simp[a_])) (Src.ext (Src.new _ _ _ (by simp[a_])) (iM _ _))
 rintro t bY ⟨oY,J1,CK⟩
 have nO:t.len=256:=by
   have:=Aj oY
   rw[this];simp[CC,NV aV]
 have bB:=ej bY
 refine bN ⟨fun _=>False,⟨by decide,by omega⟩,(u0 (oY.src.ext bB) oY.2.1 (by simp[CC,NV aV])).use ?_⟩
 rintro _ b3 ⟨rfl,j9⟩
 have es:sumOf (j7 no p++(List.replicate 4 0++kr p))=qQ (j7 no p++kr p):=by
   unfold sumOf
   rw[Ai (CC no p),←eF,drop_left' (by simp[CC])]
 rw[es]
 have qg:=Sf (j7 no p++kr p)
 refine ⟨_,rfl,fun _=>False,?_⟩
 rw[wy (by omega) (by omega)]
 refine (pk (s:=⟨none,0,0⟩) (l:=[]) (n:=qQ (j7 no p++kr p)) (k:=4) (bX.none 1 ah.uint8 b3).src (by simp) (by show _<18446744073709551616;omega) ⟨by decide,by decide⟩).use ?_
 rintro _ cf ⟨d_,rfl,Ho,qS,aiW⟩
 rw[r6] at Ho
 have Yt:=bB.trans (j9.trans qS)
 have Yu:=oY.ext Yt
 have Yv:=Aj Ho
 rw[om] at Yv
 obtain ⟨b,c,aa,jf,fq,_⟩:∃b c,t.a=some ⟨b,0,none⟩∧cj cf b c ah.uint8∧c.size=t.cap*1∧c.toList.take (t.len*1)=a_ (j7 no p++(List.replicate 4 0++kr p)):=by
   rcases Yu.2.2.2 with ⟨_,ak⟩|⟨b,c,U,ad,aq,aK⟩
   · have:=oY.2.1;omega
   · exact ⟨b,c,U,ad,aq,aK⟩
 have aiX:bh t.a 1 (Int.toNat 20) t.cap=some ⟨b,20,none⟩:=by
   rw[aa,show Int.toNat 20=20 from rfl,N2 (by have:=oY.2.1;omega)]
 have avs:=oY.2.1
 refine ⟨d_,rfl,_,_,by rw[aiX];exact ain (by kernel_rfl) Ho.src (by rw[Yv];show 4≤t.len-20;omega) (jf.du _ _ (by rw[jE,om];omega) (wx _)),t,rfl,?_,?_,CK⟩
 · have:=bX.aiR Yu aa (o:=20) (us:=a_ (gD (qQ (j7 no p++kr p)) 4)) (by rw[jE,om];omega)
   have e:(a_ (j7 no p++(List.replicate 4 0++kr p))).take 20++a_ (gD (qQ (j7 no p++kr p)) 4)++(a_ (j7 no p++(List.replicate 4 0++kr p))).drop (20+(a_ (gD (qQ (j7 no p++kr p)) 4)).length)=a_ (pn no p):=by
     rw[jE,om]
     exact aiS (CC no p) (by simp)
   rwa[e] at this
 · refine Ext.gv (bK.trans (J1.trans Yt)) (ao.yk (.refl _ _) _ 0) fun k ae=> ?_
   subst ae
   exact CK _ ⟨_,aa,rfl⟩
end
section
theorem rE {s:ab} {l:List UInt8} {w:World} (aj:Src 1 w s (a_ l)) (ak:s.len≤s.cap) {a k:Nat} {e:Int} (he:e=((a+k:Nat):Int)) (ae:1≤k∧k≤8) (aR:a+k≤l.length) (aB:l.length≤1000):
   aP Tryz.prog F.rE #[.slice s.a s.len s.cap, .int .i64 a, .int .i64 e] w (fun v w'=>v= .int .u64 (jm l a k:Nat)∧w=w'):=by
 subst he
 refine W.aiY s a ((a+k:Nat):Int) w _ ?_
 (delta W.rE N3 aE;dsimp only)
 rw[cL (by omega) (by omega),show (((a+k:Nat):Int)-(a:Int))=(k:Int) by omega]
 refine (sT aj ak ae aR (by omega)).use ?_
 rintro _ _ ⟨rfl,rfl⟩
 exact ⟨_,_,rfl,rfl,rfl⟩
theorem yv {s:ab} {l:List UInt8} {w:World} (aj:Src 1 w s (a_ l)) (aB:l.length≤1000):
   aP Tryz.prog F.yv #[.slice s.a s.len s.cap] w (fun v w'=>v= .bool (l.all fun c=>c==0)∧w=w'):=by
 have gh:=len8 aj
 refine W.aiZ s w _ ?_
 (delta W.yv aF bc iC aE;dsimp only)
 refine ⟨fun i w'=>∃j:Nat,i=j∧j≤l.length∧w=w'∧∀ (k:Nat) (ae:k<l.length),k<j→l[k]=0,fun i _=>((l.length:Int)-i).toNat,⟨0,rfl,fi _,rfl,fun k ae h=>by omega⟩,?_⟩
 rintro _ _ ⟨j,rfl,aZ,rfl,gj⟩
 refine ⟨fun a6=> ?_,fun cm=> ?_⟩
 · have a6:j<l.length:=by have:=dL a6;omega
   obtain ⟨A,ay,aa,jF⟩:=aj.at (Hg a6)
   refine ⟨A,ay,aa,_,jF,fun dN=> ?_,fun heq=> ?_⟩
   · refine ⟨?_,rfl⟩
     have:(l.all fun c=>c==0)=false:=by
       rw[List.all_eq_false]
       refine ⟨l[j],e3 _,fun h=> ?_⟩
       have h:=eq_of_beq h
       rw[h] at dN
       simp at dN
     rw[this]
   · have b5:l[j]=0:=by
       have:(((l[j]).toNat:Nat):Int)=0:=by simpa using heq
       exact UInt8.toNat_inj.1 (by show (l[j]).toNat=0;omega)
     rw[cL (n:=(j:Int)+1) (by omega) (by omega)]
     refine ⟨⟨j+1,by omega,by omega,rfl,fun k ae h=> ?_⟩,?_⟩
     · rcases hJ k j with U|U
       · exact gj k ae U
       · have:k=j:=by omega
         subst this;exact b5
     · show ((l.length:Int)-((j:Int)+1)).toNat<((l.length:Int)-(j:Int)).toNat
       omega
 · have cm:j=l.length:=by have:=fb cm;omega
   subst cm
   refine ⟨?_,rfl⟩
   have:(l.all fun c=>c==0)=true:=by
     rw[GZ]
     intro c ak
     obtain ⟨k,ae,rfl⟩:=lU ak
     rw[gj k ae ae];rfl
   rw[this]
def Yw (kind gen:Int) (s:ab):Value:= .agg #[.int .i64 kind, .int .u64 gen, .slice s.a s.len s.cap]
def N4 (r:Except Int tO) (w w':World) (v:Value):Prop:=
 match r with
 | .ok p=>∃s:ab,v= .tuple #[Yw p.kind p.gen s, .int .i64 0]∧bX 1 ah.uint8 w' s (a_ p.body)∧oX w s
 | .error e=>v= .tuple #[Yw 0 0 ⟨none,0,0⟩, .int .i64 e]
theorem Yx {w':World} {h:Nat} {vs:List Value} (n g:Int) (s:ab) (al:Var w' h vs ah.J2) (aB:vs.length=3) {K:Int→Int→ab→World→Prop} (bq:∀aw,ao (fun q=>q=h) w' aw→K n g s aw):
   cT w' ⟨h,0,none⟩ [.int .i64 n, .int .u64 g, .slice s.a s.len s.cap]∧(3:Nat)=3∧az (setCells w' ⟨h,0,none⟩ 0 [.int .i64 n, .int .u64 g, .slice s.a s.len s.cap]) fun aw=>
     ∃bw:Int,aw.cell? ⟨h,0,none⟩=some (.int .i64 bw)∧∃gi:Int,aw.cell? (Addr.add ⟨h,0,none⟩ 1)=some (.int .u64 gi)∧∃bE:ab,aw.cell? (Addr.add ⟨h,0,none⟩ 2)=some (.slice bE.a bE.len bE.cap)∧K bw gi bE aw:=by
 refine ⟨al.du (by rw[aB];rfl) ?_,rfl,eg al (us:=[.int .i64 n, .int .u64 g, .slice s.a s.len s.cap]) (by rw[aB];rfl) rfl fun aw hD ak _=> ?_⟩
 · intro v al
   simp only[gg,ml,mm] at al
   rcases al with rfl|rfl|rfl<;>trivial
 · exact ⟨n,hD.cell,g,by rw[aX];exact hD.cell,s,by rw[aX];exact hD.cell,bq aw ak⟩
theorem yw {s:ab} {l:List UInt8} {w:World} (aj:Src 1 w s (a_ l)) (ak:s.len≤s.cap) (aB:l.length≤1000) (no:Int):
   aP Tryz.prog F.yw #[.int .i64 no, .slice s.a s.len s.cap] w (fun v w'=>N4 (mq no l) w w' v∧Ext w w'):=by
 have gh:=len8 aj
 refine W.ai0 no s w _ ?_
 (delta W.yw z3 aF ai bD kJ ar Sq bc iC CF J3 bk aE E6;dsimp only)
 refine cx (vs:=[.int .i64 0, .int .u64 0, .slice none 0 0]) rfl fun ag al bK _=> ?_
 have out:∀ (w':World) (e:Int),Ext ag w'→mq no l= .error e→
     cT w' ⟨w.heap.size,0,none⟩ [.int .i64 0, .int .u64 0, .slice none 0 0]∧(3:Nat)=3∧az (setCells w' ⟨w.heap.size,0,none⟩ 0 [.int .i64 0, .int .u64 0, .slice none 0 0]) fun aw=>
     ∃bw:Int,aw.cell? ⟨w.heap.size,0,none⟩=some (.int .i64 bw)∧∃gi:Int,aw.cell? (Addr.add ⟨w.heap.size,0,none⟩ 1)=some (.int .u64 gi)∧∃bE:ab,aw.cell? (Addr.add ⟨w.heap.size,0,none⟩ 2)=some (.slice bE.a bE.len bE.cap)∧
       (fun v w'=>N4 (mq no l) w w' v∧Ext w w') (.tuple #[.agg #[.int .i64 bw, .int .u64 gi, .slice bE.a bE.len bE.cap], .int .i64 e]) aw:=by
   intro w' e af he
   refine Yx 0 0 ⟨none,0,0⟩ (al.ext af) rfl (K:=fun bw gi bE aw=>(fun v w'=>N4 (mq no l) w w' v∧Ext w w') (.tuple #[.agg #[.int .i64 bw, .int .u64 gi, .slice bE.a bE.len bE.cap], .int .i64 e]) aw) fun aw oZ=>⟨?_,Ext.e_ (bK.trans af) oZ (cP _)⟩
   rw[he];rfl
 refine ⟨fun h=>out _ _ (.refl _ _) ?_,fun h=> ?_⟩
 · have h:(s.len:Int)≠256:=by simpa using h
   unfold mq
   rw[if_pos (by omega)]
 have h:(s.len:Int)=256:=by simpa using h
 have ai1:l.length=256:=by omega
 have k_:=aj.ext bK
 have ai2:=CD k_ ak (lo:=0) (hi:=4) (by omega) (by omega)
 have ai3:Src 1 ag ⟨bh s.a 1 0 s.cap,4-0,s.cap-0⟩ (((l.take 4).map fun b=>((b.toNat:Nat):Int)).map (.int .u8)):=by
   rw[List.map_map];exact ai2
 have Yy:=Ya (src:=ah.cc) (dst:=ah.string) (by kernel_rfl) (by kernel_rfl) ai3
 have po:(((l.take 4).map fun b=>((b.toNat:Nat):Int)).map fun n=>UInt8.ofNat n.toNat)=l.take 4:=by
   rw[List.map_map]
   have:((fun n:Int=>UInt8.ofNat n.toNat)∘fun b:UInt8=>((b.toNat:Nat):Int))=id:=by funext b;simp
   rw[this,List.map_id]
 rw[po] at Yy
 refine ⟨⟨by decide,by omega⟩,S (l.take 4),ag,Yy,?_⟩
 have ai4:(ByteArray.toList (S (l.take 4))==ByteArray.toList (ByteArray.mk #[83,84,78,67]))=decide (l.take 4=nL):=by
   rw[show (ByteArray.mk #[83,84,78,67])=S nL from rfl,CL]
   rw[oT];simp
 rw[ai4]
 refine ⟨fun h=>out _ _ (.refl _ _) ?_,fun h=> ?_⟩
 · have h:l.take 4≠nL:=by simpa using h
   unfold mq
   rw[if_neg (by omega),if_pos h]
 have hm:l.take 4=nL:=by simpa using h
 obtain ⟨ai5,N5,Yz,si⟩:=k_.at (Hg (l:=l) (i:=4) (by omega))
 have avt:s.len=256:=by omega
 refine ⟨ai5,N5,⟨by decide,by omega⟩,_,si,fun h=>out _ _ (.refl _ _) ?_,fun h=> ?_⟩
 · have h:(((l[4]'(by omega)).toNat:Nat):Int)≠1:=by simpa using h
   unfold mq
   rw[if_neg (by omega),if_neg (by simp[hm]),if_pos (by
     intro e
     apply h
     rw[od,gT (by omega)] at e
     have e:(l[4]'(by omega))=1:=e
     rw[e];rfl)]
 have aK:l.getD 4 0=1:=by
   have h:(((l[4]'(by omega)).toNat:Nat):Int)=1:=by simpa using h
   rw[od,gT (by omega)]
   exact UInt8.toNat_inj.1 (by show (l[4]'(by omega)).toNat=1;omega)
 refine (u0 k_ ak ai1).use ?_
 rintro _ aw ⟨rfl,cD⟩
 have mD:=k_.ext cD
 refine ⟨_,rfl,(rE mD ak (a:=20) (k:=4) (e:=24) rfl (by decide) (by omega) aB).use ?_⟩
 rintro _ _ ⟨rfl,rfl⟩
 have YA:sumOf l<4294967296:=Sf _
 rw[wy (n:=((sumOf l:Nat):Int)) (by omega) (by omega)]
 refine ⟨_,rfl,fun h=>out _ _ cD ?_,fun h=> ?_⟩
 · have h:((sumOf l:Nat):Int)≠((jm l 20 4:Nat):Int):=by simpa using h
   unfold mq
   rw[if_neg (by omega),if_neg (by simp[hm]),if_neg (fun h=>h aK),if_pos (by omega)]
 have CM:sumOf l=jm l 20 4:=by
   have h:((sumOf l:Nat):Int)=((jm l 20 4:Nat):Int):=by simpa using h
   omega
 refine (rE mD ak (a:=6) (k:=2) (e:=8) rfl (by decide) (by omega) aB).use ?_
 rintro _ _ ⟨rfl,rfl⟩
 have avu:jm l 6 2<65536:=JW 2 _ (by simp;omega)
 obtain ⟨ai6,iN,N6,lY⟩:=mD.at (Hg (l:=l) (i:=5) (by omega))
 have cX:l.getD 5 0=l[5]'(by omega):=by rw[od,gT (by omega)];rfl
 have avv:=GX (l[5]'(by omega))
 refine ⟨_,rfl,ai6,iN,⟨by decide,by omega⟩,_,lY,?_⟩
 rw[cL (n:=(((l[5]'(by omega)).toNat:Nat):Int)) (by omega) (by omega),cL (n:=((jm l 6 2:Nat):Int)) (by omega) (by omega)]
 refine Calls.mono (W.Yq (((l[5]'(by omega)).toNat:Nat):Int) aw (fun v w'=>v= .bool (decide (1≤(l[5]'(by omega)).toNat∧(l[5]'(by omega)).toNat≤4))∧aw=w') ⟨?_,rfl⟩) ?_
 · have e:(decide ((((l[5]'(by omega)).toNat:Nat):Int)≥1)&&decide ((((l[5]'(by omega)).toNat:Nat):Int)≤4))=decide (1≤(l[5]'(by omega)).toNat∧(l[5]'(by omega)).toNat≤4):=by
     rw[oT]
     simp only[iL,fE]
     omega
   rw[e]
 rintro _ _ ⟨_,rfl,rfl,rfl⟩
 have o0:24+jm l 6 2≤256→True:=fun _=>trivial
 refine ⟨_,rfl,ff (fun b w'=>b=decide (¬(1≤(l[5]'(by omega)).toNat∧(l[5]'(by omega)).toNat≤4)∨232<jm l 6 2∨(l.drop (24+jm l 6 2)).all (fun c=>c==0)=false)∧aw=w') (fun q J=>⟨fun U=>J _ _ ⟨?_,rfl⟩,fun U=> ?_⟩) ?_⟩
 · refine (ik ?_).symm
   simp only[wj,ya,sO,fE] at U
   rcases U with U|U
   · exact .inl U
   · exact .inr (.inl (by omega))
 · simp only[Ny,Bool.not_eq_false',sO,fE] at U
   have ai7:jm l 6 2≤232:=by omega
   rw[cL (n:=24+((jm l 6 2:Nat):Int)) (by omega) (by omega)]
   refine ⟨⟨by omega,by omega⟩,?_⟩
   have Sr:Int.toNat (24+((jm l 6 2:Nat):Int))=24+jm l 6 2:=by omega
   rw[Sr]
   have An:=CD mD ak (lo:=24+jm l 6 2) (hi:=s.len) (by omega) (by omega)
   rw[hU (l:=l.drop (24+jm l 6 2)) (by rw[fF];omega)] at An
   refine (yv An (by rw[fF];omega)).use ?_
   rintro _ _ ⟨rfl,rfl⟩
   refine ⟨_,rfl,J _ _ ⟨?_,rfl⟩⟩
   cases gj:(l.drop (24+jm l 6 2)).all (fun c=>c==0) with
   |true=>exact (sN (by rintro (ad|ad|ad)<;>first|exact ad U.1|omega|cases ad)).symm
   |false=>exact (ik (.inr (.inr rfl))).symm
 rintro b _ ⟨rfl,rfl⟩
 refine ⟨fun h=>out _ _ cD ?_,fun h=> ?_⟩
 · have h:=dL h
   unfold mq
   rw[if_neg (by omega),if_neg (by simp[hm]),if_neg (fun h=>h aK),if_neg (by omega),if_pos (by rw[cX];exact h)]
 have ae:=fb h
 have lX:¬(¬(1≤(l.getD 5 0).toNat∧(l.getD 5 0).toNat≤4)∨232<jm l 6 2∨(l.drop (24+jm l 6 2)).all (fun c=>c==0)=false):=by rw[cX];exact ae
 have ai7:jm l 6 2≤232:=by
   rcases hJ 232 (jm l 6 2) with U|U
   · exact absurd (.inr (.inl U)) ae
   · exact U
 have Ss:1≤(l[5]'(by omega)).toNat∧(l[5]'(by omega)).toNat≤4:=Decidable.byContradiction fun h=>ae (.inl h)
 refine Calls.mono (W.Yp no aw (fun v w'=>v= .bool (decide (0≤no∧no<1600))∧aw=w') ⟨by simp[ge_iff_le],rfl⟩) ?_
 rintro _ _ ⟨_,rfl,rfl,rfl⟩
 have avw:jm l 8 4<4294967296:=JW 4 _ (by simp;omega)
 refine ⟨_,rfl,ff (fun b w'=>b=decide (¬(0≤no∧no<1600)∨(jm l 8 4:Int)≠no)∧aw=w') (fun q J=>⟨fun U=>J _ _ ⟨?_,rfl⟩,fun U=> ?_⟩) ?_⟩
 · refine (ik ?_).symm
   simp only[ya,sO] at U
   exact .inl U
 · simp only[Bool.not_eq_false',fE] at U
   refine (rE mD ak (a:=8) (k:=4) (e:=12) rfl (by decide) (by omega) aB).use ?_
   rintro _ _ ⟨rfl,rfl⟩
   refine ⟨_,rfl,J _ _ ⟨?_,rfl⟩⟩
   rw[wy (n:=no) (by omega) (by omega),oT,fE,bne_iff_ne]
   exact ⟨fun h=> .inr h,fun h=>h.resolve_left (fun ad=>ad U)⟩
 rintro b _ ⟨rfl,rfl⟩
 refine ⟨fun h=>out _ _ cD ?_,fun h=> ?_⟩
 · have h:=dL h
   unfold mq
   rw[if_neg (by omega),if_neg (by simp[hm]),if_neg (fun h=>h aK),if_neg (by omega),if_neg lX,if_pos h]
 have ai8:=fb h
 have eI:mq no l= .ok ⟨(l.getD 5 0).toNat,jm l 12 8,(l.drop 24).take (jm l 6 2)⟩:=by
   unfold mq
   rw[if_neg (by omega),if_neg (by simp[hm]),if_neg (fun h=>h aK),if_neg (by omega),if_neg lX,if_neg ai8]
 refine (ym mD ak (a:=24) (k:=jm l 6 2) (by omega) (by omega)).use ?_
 rintro _ a8 ⟨bS,rfl,sj,eX,tT⟩
 have bB:=ej a8
 have dO:=cD.trans (eX.trans bB)
 have CN:=k_.ext dO
 obtain ⟨ai9,N7,avx,qT⟩:=CN.at (Hg (l:=l) (i:=5) (by omega))
 refine ⟨bS,true,rfl,bN ⟨fun _=>False,ai9,N7,⟨by decide,by omega⟩,id,_,qT,(rE CN ak (a:=12) (k:=8) (e:=20) rfl (by decide) (by omega) aB).use ?_⟩⟩
 rintro _ _ ⟨rfl,rfl⟩
 rw[cL (n:=(((l[5]'(by omega)).toNat:Nat):Int)) (by omega) (by omega)]
 refine ⟨_,rfl, .refl _ _,Yx _ _ bS (al.ext dO) rfl (K:=fun bw gi bE aw=>(fun v w'=>N4 (mq no l) w w' v∧Ext w w') (.tuple #[.agg #[.int .i64 bw, .int .u64 gi, .slice bE.a bE.len bE.cap], .int .i64 0]) aw) fun bz oZ=>⟨?_,Ext.e_ (bK.trans dO) oZ (cP _)⟩⟩
 rw[eI]
 refine ⟨bS,by rw[cX];rfl,(sj.ext bB).an oZ fun k ae e=> ?_,tT.mono (bK.trans cD).size⟩
 have:=tT k ae
 have:=al.lt
 have:=cD.size
 subst e
 omega
end
section
theorem YB {P:Program} {w:World}:∀ (l:List UInt8) (a:Addr) (acc:ByteArray),(∀j x,l[j]? =some x→w.cell? (a.add j)=some (.int .u8 ((x.toNat:Nat):Int)))→
   (Extern.Bytes.loadBytes a l.length acc).run P w= .ok ⟨acc.data++l.toArray⟩ w
 | [],a,acc,_=>by simp[Extern.Bytes.loadBytes]
 |x::l,a,acc,h=>by
   have b5:=h 0 x rfl
   rw[add_zero'] at b5
   have dx:=YB (P:=P) l (a.add 1) (acc.push x) (fun j y b2=>by
     rw[add_add,Nat.add_comm]
     exact h (j+1) y (by simpa using b2))
   have af:((x.toNat:Nat):Int).toNat.toUInt8=x:=aik x
   simp only[oS,Extern.Bytes.loadBytes,Sem.run_bind,St b5,Result.andThen,af]
   rw[dx]
   congr 2
   simp[ByteArray.push]
theorem YC {P:Program} {w:World} {s:ab} {l:List UInt8} (h:Src 1 w s (a_ l)):(Extern.Bytes.bytesOf (.slice s.a s.len s.cap)).run P w= .ok (S l) w:=by
 cases aj:s.a with
 |none=>
   have b5:l=[]:=by
     have:=h.nil aj
     cases l with
     |nil=>rfl
     |cons a l=>simp[a_] at this
   subst b5
   rfl
 |some A=>
   have aY:=h.rd A aj
   rw[lQ] at aY
   have:=YB (P:=P) (w:=w) l A .empty (fun j x aZ=>by
     have:=Hk aY (j:=j) (v:= .int .u8 ((x.toNat:Nat):Int)) (by simp[a_,aZ])
     simpa using this)
   show (Extern.Bytes.loadBytes A s.len .empty).run P w=_
   rw[len8 h,this]
   congr 1
   show (ByteArray.mk (ByteArray.empty.data++l.toArray))=ByteArray.mk l.toArray
   congr 1
   exact Array.empty_append ..
theorem YD:∀a b:Key,Lib.compareBytes a b=iT a b
 | [],[]=>rfl
 | [],_::_=>rfl
 |_::_,[]=>rfl
 |a::x,b::y=>by
   simp only[Lib.compareBytes,iT,UInt8.lt_iff_toNat_lt,YD x y]
theorem o1 {s t:ab} {l m:Key} {w:World} (aj:Src 1 w s (a_ l)) (aU:Src 1 w t (a_ m)):
   aP Tryz.prog F.o1 #[.slice s.a s.len s.cap, .slice t.a t.len t.cap] w (fun v w'=>v= .int .i64 (iT l m)∧w=w'):=by
 refine W.ai_ s t w _ ?_
 unfold W.o1
 refine ⟨iT l m,w,?_,rfl,rfl⟩
 rw[run_callFunc_extern Tryz.func113 rfl rfl rfl rfl]
 have:(Extern.BytealgCompare.compare #[.slice s.a s.len s.cap, .slice t.a t.len t.cap]).run Tryz.prog w= .ok (.int .i64 (iT l m)) w:=by
   change Sem.run Tryz.prog (do pure (goInt (Extern.BytealgCompare.cmp (←Extern.Bytes.bytesOf (.slice s.a s.len s.cap)) (←Extern.Bytes.bytesOf (.slice t.a t.len t.cap))))) w=_
   simp only[Sem.run_bind,YC aj,YC aU,Result.andThen,Sem.run_pure]
   rw[Lib.cmp_eq]
   show Result.ok (goInt (Lib.compareBytes l m)) w=_
   rw[YD];rfl
 rw[this]
 rfl
theorem tU {s:ab} {l:List UInt8} {w:World} (h:Src 1 w s (a_ l)):Sem.run Tryz.prog (convert ah.cc ah.string (.slice s.a s.len s.cap)) w= .ok (.string (S l)) w:=by
 have qk:Src 1 w s ((l.map fun b=>((b.toNat:Nat):Int)).map (.int .u8)):=by rw[List.map_map];exact h
 have:=Ya (src:=ah.cc) (dst:=ah.string) (by kernel_rfl) (by kernel_rfl) qk
 rw[List.map_map] at this
 have e:((fun n:Int=>UInt8.ofNat n.toNat)∘fun b:UInt8=>((b.toNat:Nat):Int))=id:=by funext b;simp
 rw[e,List.map_id] at this
 exact this
theorem yx {s t:ab} {l m:Key} {w:World} (aj:Src 1 w s (a_ l)) (aU:Src 1 w t (a_ m)):
   aP Tryz.prog F.yx #[.slice s.a s.len s.cap, .slice t.a t.len t.cap] w (fun v w'=>v= .bool (decide (l=m))∧w=w'):=by
 refine W.aja s t w _ ?_
 unfold W.yx
 refine ⟨_,_,tU aj,_,_,tU aU,?_,rfl⟩
 rw[CL]
 congr 1
 rw[oT];simp
def In (B:Nat→Prop) (w:World) (s:ab):Prop:=∀k,aQ s k→B k∧k<w.heap.size
def bH (B:Nat→Prop) (w:World) (t:ab) (l:Key):Prop:=Src 1 w t (a_ l)∧t.len≤t.cap∧In B w t
def bU (B:Nat→Prop) (w:World) (s:ab) (ls:List Key):Prop:=
 ∃ts:List ab,ts.length=ls.length∧Src 1 w s (ts.map pP)∧s.len≤s.cap∧In B w s∧∀ (i:Nat) (U:i<ts.length) (ad:i<ls.length),bH B w ts[i] ls[i]
def kY (ds:List Nat):List Value:=ds.map fun d=> .int .i64 ((d:Nat):Int)
def dG (B:Nat→Prop) (w:World) (s:ab) (ds:List Nat):Prop:=Src 1 w s (kY ds)∧s.len≤s.cap∧In B w s
def bZ (B:Nat→Prop) (w:World) (s:ab) (ls:List Key):Prop:=
 ∃ts:List ab,ts.length=ls.length∧bX 1 ah.cc w s (ts.map pP)∧In B w s∧∀ (i:Nat) (U:i<ts.length) (ad:i<ls.length),bH B w ts[i] ls[i]∧∀k,aQ ts[i] k→¬aQ s k
def eJ (B:Nat→Prop) (w:World) (s:ab) (ds:List Nat):Prop:=bX 1 ah.int w s (kY ds)∧In B w s
section
variable {B C:Nat→Prop} {w w':World} {s t:ab} {l:Key} {ls:List Key} {ds:List Nat}
theorem In.an {V:Nat→Prop} (h:In B w s) (ak:ao V w w'):In B w' s:=fun k ae=>⟨(h k ae).1,ly (h k ae).2 ak.size⟩
theorem In.bA (h:In B w s) (aa:∀k,k<w.heap.size→B k→C k):In C w s:=fun k ae=>⟨aa k (h k ae).2 (h k ae).1,(h k ae).2⟩
theorem bH.an {V:Nat→Prop} (h:bH B w t l) (ak:ao V w w') (aa:∀k,B k→¬V k):bH B w' t l:=⟨h.1.an ak fun k ae=>aa k (h.2.2 k ae).1,h.2.1,In.an h.2.2 ak⟩
theorem bH.rF {V:Nat→Prop} (h:bH B w t l) (ak:ao V w w') (aa:∀k,aQ t k→¬V k):bH B w' t l:=⟨h.1.an ak aa,h.2.1,In.an h.2.2 ak⟩
theorem bH.ext (h:bH B w t l) (ak:Ext w w'):bH B w' t l:=bH.an h ak fun _ _ h=>h
theorem bH.bA (h:bH B w t l) (aa:∀k,k<w.heap.size→B k→C k):bH C w t l:=⟨h.1,h.2.1,In.bA h.2.2 aa⟩
theorem bU.an {V:Nat→Prop} (h:bU B w s ls) (ak:ao V w w') (aa:∀k,B k→¬V k):bU B w' s ls:=by
 obtain ⟨ts,U,ad,aq,aK,aW⟩:=h
 exact ⟨ts,U,ad.an ak fun k ae=>aa k (aK k ae).1,aq,In.an aK ak,fun i b7 hV=>bH.an (aW i b7 hV) ak aa⟩
theorem bU.ext (h:bU B w s ls) (ak:Ext w w'):bU B w' s ls:=bU.an h ak fun _ _ h=>h
theorem bU.bA (h:bU B w s ls) (aa:∀k,k<w.heap.size→B k→C k):bU C w s ls:=by
 obtain ⟨ts,U,ad,aq,aK,aW⟩:=h
 exact ⟨ts,U,ad,aq,In.bA aK aa,fun i b7 hV=>bH.bA (aW i b7 hV) aa⟩
theorem dG.an {V:Nat→Prop} (h:dG B w s ds) (ak:ao V w w') (aa:∀k,B k→¬V k):dG B w' s ds:=⟨h.1.an ak fun k ae=>aa k (h.2.2 k ae).1,h.2.1,In.an h.2.2 ak⟩
theorem dG.ext (h:dG B w s ds) (ak:Ext w w'):dG B w' s ds:=dG.an h ak fun _ _ h=>h
theorem dG.bA (h:dG B w s ds) (aa:∀k,k<w.heap.size→B k→C k):dG C w s ds:=⟨h.1,h.2.1,In.bA h.2.2 aa⟩
theorem bU.len (h:bU B w s ls):s.len=ls.length:=by
 obtain ⟨ts,U,ad,_⟩:=h
 have:=ad.len
 rw[kF] at this;omega
theorem E9 (ds:List Nat):(kY ds).length=ds.length:=by simp[kY]
theorem dG.len (h:dG B w s ds):s.len=ds.length:=by
 have:=h.1.len
 rw[E9] at this;omega
theorem bU.at (h:bU B w s ls) {i:Nat} (hi:i<ls.length):∃ (A:Addr) (t:ab),s.a=some A∧((0:Int)≤(i:Int)∧(i:Int)<((s.len:Nat):Int))∧w.cell? (A.add (Int.toNat (i:Int)*1))=some (.slice t.a t.len t.cap)∧bH B w t ls[i]∧B A.block:=by
 obtain ⟨ts,U,ad,aq,aK,aW⟩:=h
 obtain ⟨A,ay,aa,ak⟩:=ad.at (i:=i) (v:=pP (ts[i]'(by omega))) (by simp[U,hi])
 exact ⟨A,ts[i]'(by omega),ay,aa,ak,aW i (by omega) hi,(aK _ ⟨A,ay,rfl⟩).1⟩
theorem dG.at (h:dG B w s ds) {i:Nat} (hi:i<ds.length):∃A:Addr,s.a=some A∧((0:Int)≤(i:Int)∧(i:Int)<((s.len:Nat):Int))∧w.cell? (A.add (Int.toNat (i:Int)*1))=some (.int .i64 ((ds[i]:Nat):Int)):=by
 obtain ⟨A,ay,aa,ak⟩:=h.1.at (i:=i) (v:= .int .i64 ((ds[i]:Nat):Int)) (by simp[kY,hi])
 exact ⟨A,ay,aa,ak⟩
theorem bZ.oq (h:bZ B w s ls):bU B w s ls:=by
 obtain ⟨ts,U,ad,aq,aK⟩:=h
 exact ⟨ts,U,ad.src,ad.2.1,aq,fun i aW b7=>(aK i aW b7).1⟩
theorem eJ.u7 (h:eJ B w s ds):dG B w s ds:=⟨h.1.src,h.1.2.1,h.2⟩
theorem bZ.none (B:Nat→Prop) (w:World):bZ B w ⟨.none,0,0⟩ []:=⟨[],rfl,bX.none _ _ _,fun k ae=>(rD k ae).elim,fun i h=>by simp at h⟩
theorem eJ.none (B:Nat→Prop) (w:World):eJ B w ⟨.none,0,0⟩ []:=⟨bX.none _ _ _,fun k ae=>(rD k ae).elim⟩
theorem bU.none (B:Nat→Prop) (w:World):bU B w ⟨.none,0,0⟩ []:=bZ.oq (bZ.none B w)
theorem dG.none (B:Nat→Prop) (w:World):dG B w ⟨.none,0,0⟩ []:=eJ.u7 (eJ.none B w)
theorem bZ.an {V:Nat→Prop} (h:bZ B w s ls) (ak:ao V w w') (aa:∀k,B k→¬V k):bZ B w' s ls:=by
 obtain ⟨ts,U,ad,aq,aK⟩:=h
 exact ⟨ts,U,ad.an ak fun k ae=>aa k (aq k ae).1,In.an aq ak,fun i aW b7=>⟨bH.an (aK i aW b7).1 ak aa,(aK i aW b7).2⟩⟩
theorem bZ.ext (h:bZ B w s ls) (ak:Ext w w'):bZ B w' s ls:=bZ.an h ak fun _ _ h=>h
theorem eJ.an {V:Nat→Prop} (h:eJ B w s ds) (ak:ao V w w') (aa:∀k,B k→¬V k):eJ B w' s ds:=⟨h.1.an ak fun k ae=>aa k (h.2 k ae).1,In.an h.2 ak⟩
theorem eJ.ext (h:eJ B w s ds) (ak:Ext w w'):eJ B w' s ds:=eJ.an h ak fun _ _ h=>h
theorem bH.some (h:bH B w t l) (aB:l≠ []):∃A,t.a=some A:=by
 cases aR:t.a with
 |none=>
   have:=h.1.nil aR
   exfalso
   apply aB
   cases l with
   |nil=>rfl
   |cons a l=>simp[a_] at this
 |some A=>exact ⟨A,rfl⟩
end
theorem Hp:qi Tryz.prog ah.cJ ah.cc 1 24:=⟨by kernel_rfl⟩
theorem J4:qi Tryz.prog ah.eY ah.int 1 8:=⟨by kernel_rfl⟩
theorem N8 (ts:List ab):∀v∈ts.map pP,Plain v:=by
 intro v al
 obtain ⟨n,_,rfl⟩:=lR.1 al
 trivial
theorem YE (ds:List Nat):∀v∈kY ds,Plain v:=by
 intro v al
 obtain ⟨n,_,rfl⟩:=lR.1 al
 trivial
theorem u9 {B:Nat→Prop} {w:World} {s:ab} {l:List UInt8} (h:Src 1 w s (a_ l)) (aB:l.length≤1000000) (fc:∀k,w.heap.size≤k→B k):
   aP Tryz.prog F.mo #[.slice s.a s.len s.cap] w (fun v w'=>∃au:ab,v= .slice au.a au.len au.cap∧bH B w' au l∧Ext w w'∧oX w au):=by
 refine (R6 h aB).mono ?_
 rintro _ w' ⟨au,rfl,bG,af,aA⟩
 exact ⟨au,rfl,⟨bG.src,bG.2.1,fun k ae=>⟨fc k (aA k ae),bG.lt k ae⟩⟩,af,aA⟩
theorem Su {B:Nat→Prop} {w:World} {s t:ab} {ls:List Key} {l:Key} (bG:bZ B w s ls) (aU:bH B w t l) (hd:∀k,aQ t k→¬aQ s k) (aD:ls.length≤1000000) (fc:∀k,w.heap.size≤k→B k):
   ∃ (au:ab) (w':World),Sem.run Tryz.prog (Builtin.append_ #[ah.cJ,ah.cJ] ah.cJ #[.slice s.a s.len s.cap, .slice (some ⟨w.heap.size,0,none⟩) 1 1]) (w.alloc (.cells #[.slice t.a t.len t.cap] ah.cc))= .ok (.slice au.a au.len au.cap) w'∧
     bZ B w' au (ls++ [l])∧ao (aQ s) w w'∧(∀k,aQ au k→aQ s k∨w.heap.size≤k):=by
 obtain ⟨ts,U,ad,aq,aK⟩:=bG
 have gh:s.len=ls.length:=by have:=ad.1;rw[kF] at this;omega
 obtain ⟨au,w',aC,aG,aJ,aN,cX⟩:=Hp.push (ew:=ah.cJ) (w:=w) (s:=s) (xs:=[pP t]) rfl ad (fun v al=>by rw[lT.1 al];trivial) (by omega)
 refine ⟨au,w',aC,⟨ts++ [t],by simp[U],?_,?_,fun i aW b7=> ?_⟩,aN,cX⟩
 · rw[mV];exact aG
 · intro k ae
   refine ⟨?_,aG.lt k ae⟩
   rcases cX k ae with h|h
   · exact (aq k h).1
   · exact fc k h
 · have lz:∀ (x:ab),(∀k,aQ x k→k<w.heap.size)→(∀k,aQ x k→¬aQ s k)→∀k,aQ x k→¬aQ au k:=fun x af cD k ae dW=>by
     rcases cX k dW with h|h
     · exact cD k ae h
     · have:=af k ae;omega
   have ajb:i<ts.length+1:=by simpa using aW
   rcases hJ i ts.length with h|h
   · obtain ⟨hV,ot⟩:=aK i h (by omega)
     simp only[z_ h,z_ (show i<ls.length by omega)]
     exact ⟨bH.rF hV aN ot,lz _ (fun k ae=>(hV.2.2 k ae).2) ot⟩
   · have:i=ts.length:=by omega
     subst this
     have e:(ts++ [t])[ts.length]'aW=t:=by simp
     have:(ls++ [l])[ts.length]'b7=l:=by rw[ES (by omega)];simp
     rw[this,e]
     exact ⟨bH.rF aU aN hd,lz _ (fun k ae=>(aU.2.2 k ae).2) hd⟩
theorem ajc {B:Nat→Prop} {w:World} {s:ab} {ds:List Nat} (d:Nat) (bG:eJ B w s ds) (aD:ds.length≤1000000) (fc:∀k,w.heap.size≤k→B k):
   ∃ (au:ab) (w':World),Sem.run Tryz.prog (Builtin.append_ #[ah.eY,ah.eY] ah.eY #[.slice s.a s.len s.cap, .slice (some ⟨w.heap.size,0,none⟩) 1 1]) (w.alloc (.cells #[.int .i64 ((d:Nat):Int)] ah.int))= .ok (.slice au.a au.len au.cap) w'∧
     eJ B w' au (ds++ [d])∧ao (aQ s) w w'∧(∀k,aQ au k→aQ s k∨w.heap.size≤k):=by
 have gh:s.len=ds.length:=by have:=bG.1.1;rw[E9] at this;omega
 obtain ⟨au,w',aC,aG,aJ,aN,cX⟩:=J4.push (ew:=ah.eY) (w:=w) (s:=s) (xs:=[.int .i64 ((d:Nat):Int)]) rfl bG.1 (fun v al=>by rw[lT.1 al];trivial) (by omega)
 refine ⟨au,w',aC,⟨by simpa[kY] using aG,fun k ae=>⟨?_,aG.lt k ae⟩⟩,aN,cX⟩
 rcases cX k ae with h|h
 · exact (bG.2 k h).1
 · exact fc k h
structure ck (B:Nat→Prop) (w:World) (n:aO) (K V D:ab):Prop where
 keys:bU B w K n.keys
 vals:bU B w V n.vals
 kids:dG B w D n.kids
def hX (n:aO) (K V D:ab):List Value:=[.bool n.leaf, .slice K.a K.len K.cap, .slice V.a V.len V.cap, .slice D.a D.len D.cap]
def fg (n:aO) (K V D:ab):Value:= .agg #[.bool n.leaf, .slice K.a K.len K.cap, .slice V.a V.len V.cap, .slice D.a D.len D.cap]
section
variable {B C:Nat→Prop} {w w':World} {n:aO} {K V D:ab}
theorem ck.an {W:Nat→Prop} (h:ck B w n K V D) (ak:ao W w w') (aa:∀k,B k→¬W k):ck B w' n K V D:=⟨bU.an h.keys ak aa,bU.an h.vals ak aa,dG.an h.kids ak aa⟩
theorem ck.ext (h:ck B w n K V D) (ak:Ext w w'):ck B w' n K V D:=ck.an h ak fun _ _ h=>h
theorem ck.bA (h:ck B w n K V D) (aa:∀k,k<w.heap.size→B k→C k):ck C w n K V D:=⟨bU.bA h.keys aa,bU.bA h.vals aa,dG.bA h.kids aa⟩
theorem cu {b:Nat} {T:TypeId} {leaf:Bool} (h:Var w b [.bool leaf, .slice K.a K.len K.cap, .slice V.a V.len V.cap, .slice D.a D.len D.cap] T):
   w.cell? ⟨b,0,none⟩=some (.bool leaf)∧w.cell? (Addr.add ⟨b,0,none⟩ 1)=some (.slice K.a K.len K.cap)∧w.cell? (Addr.add ⟨b,0,none⟩ 2)=some (.slice V.a V.len V.cap)∧w.cell? (Addr.add ⟨b,0,none⟩ 3)=some (.slice D.a D.len D.cap):=by
 rw[aX,aX,aX]
 exact ⟨h.cell,h.cell,h.cell,h.cell⟩
end
end
section
theorem ajd {B:Nat→Prop} {w:World} {s:ab} {ls:List Key} (h:bU B w s ls) (aD:ls.length≤1000000):
   aP Tryz.prog F.CO #[.slice s.a s.len s.cap, .func (.func F.wA) #[] #[]] w (fun v w'=>v= .bool (ls.any fun v=>decide (24<v.length))∧w=w'):=by
 refine W.aje s ⟨F.wA, #[], #[]⟩ w _ ?_
 (delta W.CO bj;dsimp only)
 have aB:=bU.len h
 have u_:sk Tryz.prog F.wA:=⟨_,(Option.some_get (show (Tryz.prog.funcs[F.wA]?).isSome=true by kernel_rfl)).symm,by kernel_rfl,by kernel_rfl⟩
 refine Calls.mono (W.ajf s ⟨F.wA, #[], #[]⟩ w (fun v w'=>(∃i:Int,v= .int .i64 i∧(decide (i≥0))=(ls.any fun v=>decide (24<v.length)))∧w=w') ?_) ?_
 · (delta W.E_ aF bc ar aE;dsimp only)
   refine ⟨fun i w'=>∃j:Nat,i=j∧j≤ls.length∧w=w'∧∀ (k:Nat) (ae:k<ls.length),k<j→(ls[k]).length≤24,fun i _=>((ls.length:Int)-i).toNat,⟨0,rfl,fi _,rfl,fun k ae h=>by omega⟩,?_⟩
   rintro _ _ ⟨j,rfl,aZ,rfl,gj⟩
   refine ⟨fun a6=> ?_,fun cm=> ?_⟩
   · have a6:j<ls.length:=by have:=dL a6;omega
     obtain ⟨A,t,ay,aa,ak,aU,_⟩:=bU.at h a6
     refine ⟨A,ay,aa,t,ak,u_,?_⟩
     have nO:=len8 aU.1
     refine Calls.mono (W.ajg t w (fun v w'=>v= .bool (decide (24<(ls[j]).length))∧w=w') ⟨?_,rfl⟩) ?_
     · congr 1
       rw[oT,fE,fE];omega
     rintro _ _ ⟨_,rfl,rfl,rfl⟩
     refine ⟨_,rfl,fun aa=>⟨⟨j,rfl,?_⟩,rfl⟩,fun aa=> ?_⟩
     · have:(ls.any fun v=>decide (24<v.length))=true:=List.any_eq_true.2 ⟨_,e3 a6,aa⟩
       rw[this];exact ik (by omega)
     · have aa:=fb aa
       rw[cL (n:=(j:Int)+1) (by omega) (by omega)]
       refine ⟨⟨j+1,by omega,by omega,rfl,fun k ae h=> ?_⟩,?_⟩
       · rcases hJ k j with U|U
         · exact gj k ae U
         · have:k=j:=by omega
           subst this;omega
       · show ((ls.length:Int)-((j:Int)+1)).toNat<((ls.length:Int)-(j:Int)).toNat
         omega
   · have cm:j=ls.length:=by have:=fb cm;omega
     subst cm
     refine ⟨⟨-1,rfl,?_⟩,rfl⟩
     have:(ls.any fun v=>decide (24<v.length))=false:=by
       rw[JM]
       intro x af
       obtain ⟨k,ae,rfl⟩:=lU af
       have:=gj k ae ae
       simp;omega
     rw[this];rfl
 · rintro _ _ ⟨_,rfl,⟨i,rfl,hi⟩,rfl⟩
   exact ⟨i,rfl,by rw[hi],rfl⟩
theorem ajh {B:Nat→Prop} {w:World} {s:ab} {ds:List Nat} (h:dG B w s ds) (aD:ds.length≤1000000):
   aP Tryz.prog F.CP #[.slice s.a s.len s.cap, .func (.func F.wB) #[] #[]] w (fun v w'=>v= .bool (ds.any fun d=>decide (1600≤d))∧w=w'):=by
 refine W.aji s ⟨F.wB, #[], #[]⟩ w _ ?_
 (delta W.CP bj;dsimp only)
 have aB:=dG.len h
 have u_:sk Tryz.prog F.wB:=⟨_,(Option.some_get (show (Tryz.prog.funcs[F.wB]?).isSome=true by kernel_rfl)).symm,by kernel_rfl,by kernel_rfl⟩
 refine Calls.mono (W.ajj s ⟨F.wB, #[], #[]⟩ w (fun v w'=>(∃i:Int,v= .int .i64 i∧(decide (i≥0))=(ds.any fun d=>decide (1600≤d)))∧w=w') ?_) ?_
 · (delta W.Fa aF bc bD aE;dsimp only)
   refine ⟨fun i w'=>∃j:Nat,i=j∧j≤ds.length∧w=w'∧∀ (k:Nat) (ae:k<ds.length),k<j→ds[k]<1600,fun i _=>((ds.length:Int)-i).toNat,⟨0,rfl,fi _,rfl,fun k ae h=>by omega⟩,?_⟩
   rintro _ _ ⟨j,rfl,aZ,rfl,gj⟩
   refine ⟨fun a6=> ?_,fun cm=> ?_⟩
   · have a6:j<ds.length:=by have:=dL a6;omega
     obtain ⟨A,ay,aa,ak⟩:=dG.at h a6
     refine ⟨A,ay,aa,_,ak,u_,?_⟩
     refine Calls.mono (W.ajk ((ds[j]:Nat):Int) w (fun v w'=>v= .bool (decide (1600≤ds[j]))∧w=w') ⟨?_,rfl⟩) ?_
     · congr 1
       rw[oT,wj,fE,fE,fE];omega
     rintro _ _ ⟨_,rfl,rfl,rfl⟩
     refine ⟨_,rfl,fun aa=>⟨⟨j,rfl,?_⟩,rfl⟩,fun aa=> ?_⟩
     · have:(ds.any fun d=>decide (1600≤d))=true:=List.any_eq_true.2 ⟨_,e3 a6,aa⟩
       rw[this];exact ik (by omega)
     · have aa:=fb aa
       rw[cL (n:=(j:Int)+1) (by omega) (by omega)]
       refine ⟨⟨j+1,by omega,by omega,rfl,fun k ae h=> ?_⟩,?_⟩
       · rcases hJ k j with U|U
         · exact gj k ae U
         · have:k=j:=by omega
           subst this;omega
       · show ((ds.length:Int)-((j:Int)+1)).toNat<((ds.length:Int)-(j:Int)).toNat
         omega
   · have cm:j=ds.length:=by have:=fb cm;omega
     subst cm
     refine ⟨⟨-1,rfl,?_⟩,rfl⟩
     have:(ds.any fun d=>decide (1600≤d))=false:=by
       rw[JM]
       intro x af
       obtain ⟨k,ae,rfl⟩:=lU af
       have:=gj k ae ae
       simp;omega
     rw[this];rfl
 · rintro _ _ ⟨_,rfl,⟨i,rfl,hi⟩,rfl⟩
   exact ⟨i,rfl,by rw[hi],rfl⟩
theorem YF:∀ {l:List Key},(∀ (i:Nat) (h:i+1<l.length),cw l[i] l[i+1])→l.Pairwise cw
 | [],_=> .nil
 |a::l,h=>by
   have dx:=YF (l:=l) fun i hi=>h (i+1) (by simpa using hi)
   refine tJ.2 ⟨fun b aa=> ?_,dx⟩
   cases l with
   |nil=>simp at aa
   |cons c l=>
     have b5:cw a c:=h 0 (by simp)
     rcases gg.1 aa with rfl|aa
     · exact b5
     · exact yg b5 ((tJ.1 dx).1 b aa)
instance (k:Key):Decidable (eG k):=by unfold eG;infer_instance
theorem va {w:World} {t:ab} {l:Key} (h:Src 1 w t (a_ l)):aP Tryz.prog F.va #[.slice t.a t.len t.cap] w (fun v w'=>v= .bool (decide (eG l))∧w=w'):=by
 have aB:=len8 h
 refine W.ajl t w _ ?_
 unfold W.va
 refine ⟨?_,rfl⟩
 congr 1
 rw[oT,iL,fE,fE,fE]
 unfold eG
 omega
theorem nP {B:Nat→Prop} {w:World} {n:aO} {K V D:ab} (h:ck B w n K V D) (U:n.keys.length≤100000) (ad:n.vals.length≤100000) (aq:n.kids.length≤100000):
   aP Tryz.prog F.nP #[fg n K V D] w (fun v w'=>∃b:Bool,v= .bool b∧(b=true↔ei n)∧Ext w w'):=by
 refine W.ajm n.leaf K V D w _ ?_
 (delta W.nP ar ai aF bc bk aE bj bR;dsimp only)
 refine cx (vs:=[.bool n.leaf, .slice K.a K.len K.cap, .slice V.a V.len V.cap, .slice D.a D.len D.cap]) rfl fun ag al bK _=> ?_
 obtain ⟨cK,bm,bj,bk⟩:=cu al
 have aD:=h.ext bK
 have CQ:=bU.len aD.keys
 have en:=bU.len aD.vals
 have cl:=dG.len aD.kids
 refine ⟨K,bm,fun i w'=>∃j:Nat,i=j∧j≤n.keys.length∧ag=w'∧(∀ (k:Nat) (ae:k<n.keys.length),k<j→eG n.keys[k])∧∀ (k:Nat) (ae:k+1<n.keys.length),k+1<j→cw n.keys[k] n.keys[k+1],
   fun i _=>((n.keys.length:Int)-i).toNat,⟨0,rfl,fi _,rfl,fun k ae h=>by omega,fun k ae h=>by omega⟩,?_⟩
 rintro _ _ ⟨j,rfl,aZ,rfl,eI,YG⟩
 refine ⟨fun a6=> ?_,fun cm=> ?_⟩
 · have a6:j<n.keys.length:=by have:=dL a6;omega
   obtain ⟨A,t,ay,aa,ak,aU,_⟩:=bU.at aD.keys a6
   refine ⟨A,ay,aa,t,ak,(va aU.1).use ?_⟩
   rintro _ _ ⟨rfl,rfl⟩
   refine ⟨_,rfl,ff (fun b w'=>ag=w'∧(b=true→¬ei n)∧(b=false→eG n.keys[j]∧∀ (aZ:1≤j),cw (n.keys[j-1]'(by omega)) n.keys[j])) (fun q J=>⟨fun aa=> ?_,fun aa=> ?_⟩) ?_⟩
   · have aa:¬eG n.keys[j]:=by simpa using aa
     exact J _ _ ⟨rfl,fun _ aj=>aa (aj.keys.ok _ (e3 a6)),fun h=>by cases h⟩
   · have aa:eG n.keys[j]:=by simpa using aa
     refine ff (fun b w'=>ag=w'∧(b=true→¬ei n)∧(b=false→∀ (aZ:1≤j),cw (n.keys[j-1]'(by omega)) n.keys[j])) (fun g3 hL=>⟨fun b5=> ?_,fun b5=> ?_⟩) ?_
     · have b5:1≤j:=by have:=dL b5;omega
       rw[cL (n:=(j:Int)-1) (by omega) (by omega),show (j:Int)-1=((j-1:Nat):Int) by omega]
       obtain ⟨Ao,t2,lA,gO,dh,nQ,_⟩:=bU.at aD.keys (i:=j-1) (by omega)
       refine ⟨K,bm,Ao,lA,gO,t2,dh,(o1 nQ.1 aU.1).use ?_⟩
       rintro _ _ ⟨rfl,rfl⟩
       refine ⟨_,rfl,hL _ _ ⟨rfl,fun ak aj=> ?_,fun ak _=> ?_⟩⟩
       · have ak:=dL ak
         have:cw (n.keys[j-1]'(by omega)) n.keys[j]:=Cn.1 aj.keys.j5 (j-1) j (by omega) a6 (by omega)
         unfold cw at this
         omega
       · have ak:=fb ak
         unfold cw;omega
     · have b5:=fb b5
       exact hL _ _ ⟨rfl,fun h=>(by cases h),fun _ aZ=>by omega⟩
     · rintro b w' ⟨rfl,aC,aG⟩
       exact J _ _ ⟨rfl,aC,fun gO=>⟨aa,aG gO⟩⟩
   · rintro b w' ⟨rfl,aC,aG⟩
     refine ⟨fun aa=>⟨false,rfl,⟨fun h=>(by cases h),fun aj=>absurd aj (aC aa)⟩,bK⟩,fun aa=> ?_⟩
     obtain ⟨aJ,aN⟩:=aG aa
     rw[cL (n:=(j:Int)+1) (by omega) (by omega)]
     refine ⟨⟨j+1,by omega,by omega,rfl,fun k ae h=> ?_,fun k ae h=> ?_⟩,?_⟩
     · rcases hJ k j with U|U
       · exact eI k ae U
       · have:k=j:=by omega
         subst this;exact aJ
     · rcases hJ (k+1) j with U|U
       · exact YG k ae U
       · have:j=k+1:=by omega
         subst this
         exact aN (by omega)
     · show ((n.keys.length:Int)-((j:Int)+1)).toNat<((n.keys.length:Int)-(j:Int)).toNat
       omega
 · have cm:j=n.keys.length:=by have:=fb cm;omega
   subst cm
   have jc:NG n:=⟨fun k ae=>by
     obtain ⟨i,hi,rfl⟩:=lU ae
     exact eI i hi hi,YF fun i hi=>YG i hi hi⟩
   refine ⟨n.leaf,cK,fun aB=>⟨V,bj,K,bm,?_⟩,fun aB=>⟨K,bm,?_⟩⟩
   · refine ff (fun b w'=>ag=w'∧b=(decide (n.vals.length=n.keys.length)&&decide (n.kids=[]))) (fun q J=>⟨fun aa=>⟨D,bk,J _ _ ⟨rfl,?_⟩⟩,fun aa=>J _ _ ⟨rfl,?_⟩⟩) ?_
     · have aa:=eq_of_beq aa
       rw[ik (show n.vals.length=n.keys.length by omega),Co,oT,yb,fE,←x_]
       omega
     · have aa:¬(((V.len:Nat):Int)=((K.len:Nat):Int)):=fun e=>by rw[e] at aa;simp at aa
       rw[sN (by omega),Bool.false_and]
     rintro b w' ⟨rfl,rfl⟩
     refine ff (fun b w'=>ag=w'∧(b=true↔ei n)) (fun q J=>⟨fun aa=>⟨V,bj,(ajd aD.vals (by omega)).use ?_⟩,fun aa=>J _ _ ⟨rfl,?_⟩⟩) ?_
     · rintro _ _ ⟨rfl,rfl⟩
       refine ⟨_,rfl,J _ _ ⟨rfl,?_⟩⟩
       simp only[iL,fE] at aa
       rw[ya,JM]
       constructor
       · intro gj
         exact .inl ⟨jc,aB,aa.1,aa.2,fun v al=>by have:=gj v al;simp at this;omega⟩
       · rintro (aj|aj)
         · intro v al;have:=aj.vals v al;simp;omega
         · have:=aj.inner;rw[aB] at this;cases this
     · have aa:¬(n.vals.length=n.keys.length∧n.kids=[]):=by simpa using aa
       refine ⟨fun h=>(by cases h),?_⟩
       rintro (aj|aj)
       · exact absurd ⟨aj.len,aj.kids⟩ aa
       · have:=aj.inner;rw[aB] at this;cases this
     rintro b w' ⟨rfl,aa⟩
     exact ⟨b,rfl,aa,bK⟩
   · refine ff (fun b w'=>ag=w'∧b=(decide (n.keys≠ [])&&decide (n.kids.length=n.keys.length+1))) (fun q J=>⟨fun aa=>⟨D,bk,K,bm,J _ _ ⟨rfl,?_⟩⟩,fun aa=>J _ _ ⟨rfl,?_⟩⟩) ?_
     · have aa:=dL aa
       have dN:n.keys≠ []:=fun e=>by rw[e] at CQ;simp at CQ;omega
       rw[ik dN,Co,oT,yb,fE,cL (by omega) (by omega)]
       omega
     · have aa:=fb aa
       have dN:n.keys=[]:=x_.1 (by omega)
       rw[sN (fun h=>h dN),Bool.false_and]
     rintro b w' ⟨rfl,rfl⟩
     refine ff (fun b w'=>ag=w'∧b=(decide (n.keys≠ [])&&decide (n.kids.length=n.keys.length+1)&&decide (n.vals=[]))) (fun q J=>⟨fun aa=>⟨V,bj,J _ _ ⟨rfl,?_⟩⟩,fun aa=>J _ _ ⟨rfl,?_⟩⟩) ?_
     · rw[aa,Co,oT,yb,fE,←x_]
       omega
     · rw[aa,Bool.false_and]
     rintro b w' ⟨rfl,rfl⟩
     refine ff (fun b w'=>ag=w'∧(b=true↔ei n)) (fun q J=>⟨fun aa=>⟨D,bk,(ajh aD.kids (by omega)).use ?_⟩,fun aa=>J _ _ ⟨rfl,?_⟩⟩) ?_
     · rintro _ _ ⟨rfl,rfl⟩
       refine ⟨_,rfl,J _ _ ⟨rfl,?_⟩⟩
       simp only[iL,fE] at aa
       rw[ya,JM]
       constructor
       · intro gj
         exact .inr ⟨jc,aB,aa.1.1,aa.1.2,aa.2,fun v al=>by have:=gj v al;simp at this;omega⟩
       · rintro (aj|aj)
         · have:=aj.leaf;rw[aB] at this;cases this
         · intro v al;have:=aj.kids v al;simp;omega
     · have aa:¬((n.keys≠ []∧n.kids.length=n.keys.length+1)∧n.vals=[]):=fun e=>by
         rw[ik e.1.1,ik e.1.2,ik e.2] at aa;cases aa
       refine ⟨fun h=>(by cases h),?_⟩
       rintro (aj|aj)
       · have:=aj.leaf;rw[aB] at this;cases this
       · exact absurd ⟨⟨aj.some,aj.len⟩,aj.vals⟩ aa
     rintro b w' ⟨rfl,aa⟩
     exact ⟨b,rfl,aa,bK⟩
end
section
theorem ajn {w:World} {a b:ab} {pS fj:List UInt8} (aR:Src 1 w a (a_ pS)) (aa:Src 1 w b (a_ fj)) (aB:pS.length+fj.length≤1000):
   aP Tryz.prog F.sW #[.slice (some ⟨w.heap.size,0,none⟩) 2 2] (w.alloc (.cells #[.slice a.a a.len a.cap, .slice b.a b.len b.cap] ah.cc)) (fun v w'=>∃au:ab,v= .slice au.a au.len au.cap∧bX 1 ah.uint8 w' au (a_ (pS++fj))∧Ext w w'∧oX w au):=by
 have af:=iM w (.cells #[.slice a.a a.len a.cap, .slice b.a b.len b.cap] ah.cc)
 refine (NX (s:=⟨some ⟨w.heap.size,0,none⟩,2,2⟩) [(a,pS),(b,fj)] (Src.new w _ 2 rfl) ?_ (by simp[je];omega) (by simp)).mono ?_
 · intro p aV
   simp only[gg,ml,mm] at aV
   rcases aV with rfl|rfl
   · exact aR.ext af
   · exact aa.ext af
 · rintro _ w' ⟨au,rfl,bG,J5,aA⟩
   have e:je [(a,pS),(b,fj)]=pS++fj:=by simp[je]
   rw[e] at bG
   exact ⟨au,rfl,bG,af.trans J5,aA.mono af.size⟩
theorem ajo {w:World} {a b c:ab} {pS fj lc:List UInt8} (aR:Src 1 w a (a_ pS)) (aa:Src 1 w b (a_ fj)) (ak:Src 1 w c (a_ lc)) (aB:pS.length+fj.length+lc.length≤1000):
   aP Tryz.prog F.sW #[.slice (some ⟨w.heap.size,0,none⟩) 3 3] (w.alloc (.cells #[.slice a.a a.len a.cap, .slice b.a b.len b.cap, .slice c.a c.len c.cap] ah.cc)) (fun v w'=>∃au:ab,v= .slice au.a au.len au.cap∧bX 1 ah.uint8 w' au (a_ (pS++(fj++lc)))∧Ext w w'∧oX w au):=by
 have af:=iM w (.cells #[.slice a.a a.len a.cap, .slice b.a b.len b.cap, .slice c.a c.len c.cap] ah.cc)
 refine (NX (s:=⟨some ⟨w.heap.size,0,none⟩,3,3⟩) [(a,pS),(b,fj),(c,lc)] (Src.new w _ 3 rfl) ?_ (by simp[je];omega) (by simp)).mono ?_
 · intro p aV
   simp only[gg,ml,mm] at aV
   rcases aV with rfl|rfl|rfl
   · exact aR.ext af
   · exact aa.ext af
   · exact ak.ext af
 · rintro _ w' ⟨au,rfl,bG,J5,aA⟩
   have e:je [(a,pS),(b,fj),(c,lc)]=pS++(fj++lc):=by simp[je]
   rw[e] at bG
   exact ⟨au,rfl,bG,af.trans J5,aA.mono af.size⟩
theorem YH (w:World) {n:Nat} (aD:n≤255):Src 1 (w.alloc (.cells #[.int .u8 (IntKind.wrap .u8 ((n:Nat):Int))] ah.uint8)) ⟨some ⟨w.heap.size,0,none⟩,1,1⟩ (a_ [UInt8.ofNat n])∧Ext w (w.alloc (.cells #[.int .u8 (IntKind.wrap .u8 ((n:Nat):Int))] ah.uint8)):=by
 have e:(#[.int .u8 (IntKind.wrap .u8 ((n:Nat):Int))]:Array Value)=(a_ [UInt8.ofNat n]).toArray:=by
   rw[Sm (by omega) (by omega)]
   simp[a_,uW (show n<256 by omega)]
 rw[e]
 exact ⟨Src.new w _ 1 rfl,iM _ _⟩
theorem mX {α:Type} {l:List α} {i:Nat} {d:α} (h:i<l.length):l.getD i d=l[i]:=by
 rw[od,gT h];rfl
theorem ei.wC {n:aO} (h:ei n) (aB:n.leaf=true):n.vals.length=n.keys.length:=by
 rcases h with h|h
 · exact h.len
 · have:=h.inner;rw[aB] at this;cases this
theorem ei.Hq {n:aO} (h:ei n) (aB:n.leaf=false):n.kids.length=n.keys.length+1:=by
 rcases h with h|h
 · have:=h.leaf;rw[aB] at this;cases this
 · exact h.len
theorem sY {B:Nat→Prop} {w:World} {n:aO} {K V D:ab} (h:ck B w n K V D) (aj:ei n) {i:Nat} (hi:i<n.keys.length) (aD:n.keys.length≤100000):
   aP Tryz.prog F.sY #[fg n K V D, .int .i64 ((i:Nat):Int)] w (fun v w'=>∃s:ab,v= .slice s.a s.len s.cap∧bX 1 ah.uint8 w' s (a_ (oo n i))∧Ext w w'∧oX w s):=by
 refine W.ajp n.leaf K V D ((i:Nat):Int) w _ ?_
 (delta W.sY ai ar bc dZ bR aF aE bD;dsimp only)
 refine cx (vs:=[.bool n.leaf, .slice K.a K.len K.cap, .slice V.a V.len V.cap, .slice D.a D.len D.cap]) rfl fun ag al bK _=> ?_
 have bB:=ej ag
 have pT:=bK.trans bB
 have nn:=h.ext pT
 obtain ⟨cK,bm,bj,bk⟩:=cu (al.ext bB)
 obtain ⟨A,t,ay,aa,ak,aU,_⟩:=bU.at nn.keys hi
 have jc:=(aj.keys.ok _ (e3 hi)).2
 have nO:=len8 aU.1
 obtain ⟨aY,Sv⟩:=YH ag.drew (n:=t.len) (by omega)
 refine bN ⟨fun _=>False,id,K,bm,A,ay,aa,id,t,ak,id,K,bm,A,ay,aa,id,t,ak,bN ⟨Sv,bN ?_⟩⟩
 refine (ajn (a:=⟨some ⟨ag.drew.heap.size,0,none⟩,1,1⟩) (b:=t) aY (aU.1.ext Sv) (by simp;omega)).use ?_
 rintro _ a8 ⟨bS,rfl,sj,eX,tT⟩
 have hY:=bB.trans (Sv.trans eX)
 obtain ⟨d0,d1,d2,d3⟩:=cu (al.ext hY)
 have ae: [UInt8.ofNat t.len]++n.keys[i]=CA (n.keys.getD i []):=by rw[mX hi,nO];rfl
 rw[ae] at sj
 have ou:=h.ext (bK.trans hY)
 refine ⟨bS,rfl,n.leaf,d0,fun aB=> ?_,fun aB=> ?_⟩
 · have jG:=aj.wC aB
   have Hr:i<n.vals.length:=by omega
   have lZ:=ej a8
   have J6:=ou.ext lZ
   obtain ⟨gX,ba,bp,dM⟩:=cu (al.ext (hY.trans lZ))
   obtain ⟨Ao,t2,lA,gO,dh,nQ,_⟩:=bU.at J6.vals Hr
   have qh:=aj.vals _ (e3 Hr)
   have ajq:=len8 nQ.1
   obtain ⟨fU,J7⟩:=YH a8.drew (n:=t2.len) (by omega)
   refine bN ⟨fun _=>False,id,V,bp,Ao,lA,gO,id,t2,dh,id,V,bp,Ao,lA,gO,id,t2,dh,bN ⟨J7,bN ?_⟩⟩
   refine (ajo (a:=bS) (b:=⟨some ⟨a8.drew.heap.size,0,none⟩,1,1⟩) (c:=t2) (sj.src.ext (lZ.trans J7)) fU (nQ.1.ext J7) (by rw[CB,mX hi];simp;omega)).use ?_
   rintro _ bz ⟨cO,rfl,Ap,fz,Aq⟩
   refine ⟨cO,rfl,cO,rfl,?_,(bK.trans hY).trans (lZ.trans (J7.trans fz)),Aq.mono ((bK.trans hY).trans (lZ.trans J7)).size⟩
   have:CA (n.keys.getD i [])++([UInt8.ofNat t2.len]++n.vals[i])=oo n i:=by
     unfold oo
     rw[aB,if_pos rfl,mX Hr,ajq];rfl
   rwa[this] at Ap
 · have fy:=aj.Hq aB
   have og:i+1<n.kids.length:=by omega
   obtain ⟨Ao,lA,gO,dh⟩:=dG.at ou.kids og
   have ajr:=aj.kids _ (e3 og)
   rw[cL (n:=(i:Int)+1) (by omega) (by omega),show (i:Int)+1=((i+1:Nat):Int) by omega]
   refine ⟨D,d3,Ao,lA,gO,_,dh,?_⟩
   rw[wy (n:=((n.kids[i+1]:Nat):Int)) (by omega) (by omega)]
   refine (pk sj.src (n:=n.kids[i+1]) (k:=2) (by rw[CB,mX hi];omega) (by show _<18446744073709551616;omega) ⟨by decide,by decide⟩).use ?_
   rintro _ bz ⟨cO,rfl,Ap,fz,Aq⟩
   refine ⟨cO,rfl,cO,rfl,?_,(bK.trans hY).trans fz,oX.mono Aq (bK.trans hY).size⟩
   have:CA (n.keys.getD i [])++gD n.kids[i+1] 2=oo n i:=by
     unfold oo
     rw[aB,if_neg (by simp),mX og]
   rwa[this] at Ap
theorem N9 {n:aO} (aj:ei n) {i:Nat} (hi:i<n.keys.length):(oo n i).length≤100:=by
 unfold oo
 have:=(aj.keys.ok _ (e3 hi)).2
 rw[eC,CB,mX hi]
 split
 · rename_i aB
   have Hr:i<n.vals.length:=by have:=aj.wC aB;omega
   have:=aj.vals _ (e3 Hr)
   rw[CB,mX Hr];omega
 · rw[om];omega
theorem Sw {n:aO} (aj:ei n):∀m,m≤n.keys.length→(pN n 0 m).length≤100*m
 |0,_=>by simp[pN]
 |m+1,hm=>by
   have:=Sw aj m (by omega)
   have:=N9 aj (i:=m) (by omega)
   rw[R8,eC];omega
theorem vb {B:Nat→Prop} {w:World} {n:aO} {K V D:ab} (h:ck B w n K V D) (aj:ei n) (aD:n.keys.length≤255):
   aP Tryz.prog F.vb #[fg n K V D] w (fun v w'=>∃s:ab,v= .slice s.a s.len s.cap∧bX 1 ah.uint8 w' s (a_ (sg n))∧Ext w w'∧oX w s):=by
 refine W.ajs n.leaf K V D w _ ?_
 (delta W.vb ar ai bR aF bc bD dZ aE;dsimp only)
 refine cx (vs:=[.bool n.leaf, .slice K.a K.len K.cap, .slice V.a V.len V.cap, .slice D.a D.len D.cap]) rfl fun ag al bK _=> ?_
 obtain ⟨cK,bm,bj,bk⟩:=cu al
 have l0:=h.ext bK
 have CQ:=bU.len l0.keys
 have gX:(#[.int .u8 (IntKind.wrap .u8 ((K.len:Nat):Int))]:Array Value)=(a_ [UInt8.ofNat n.keys.length]).toArray:=by
   rw[CQ,Sm (by omega) (by omega)]
   simp[a_,uW (show n.keys.length<256 by omega)]
 refine ⟨K,bm,?_⟩
 rw[gX]
 have sU:=bX.new (T:=ah.uint8) (sz:=1) ag (a_ [UInt8.ofNat n.keys.length]) 1 rfl (by decide)
 have cD:=iM ag (.cells (a_ [UInt8.ofNat n.keys.length]).toArray ah.uint8)
 obtain ⟨aw,tV⟩:∃aw,aw=ag.alloc (.cells (a_ [UInt8.ofNat n.keys.length]).toArray ah.uint8):=⟨_,rfl⟩
 rw[←tV] at sU cD⊢
 obtain ⟨d0,d1,d2,d3⟩:=cu (al.ext cD)
 have pT:=bK.trans cD
 refine bN (ff (fun au w'=>bX 1 ah.uint8 w' au (a_ (preB n))∧Ext aw w'∧oX ag au) (fun q J=>⟨n.leaf,d0,fun aB=> ?_,fun aB=>J _ _ ⟨?_, .refl _ _,?_⟩⟩) ?_)
 · have aB:n.leaf=false:=by simpa using aB
   have fy:=aj.Hq aB
   have og:0<n.kids.length:=by omega
   obtain ⟨Ao,lA,gO,dh⟩:=dG.at (h.ext pT).kids og
   have ajr:=aj.kids _ (e3 og)
   refine ⟨D,d3,Ao,lA,gO,_,dh,?_⟩
   rw[wy (n:=((n.kids[0]:Nat):Int)) (by omega) (by omega)]
   refine (pk sU.src (n:=n.kids[0]) (k:=2) (by simp) (by show _<18446744073709551616;omega) ⟨by decide,by decide⟩).use ?_
   rintro _ bz ⟨cO,rfl,Ap,fz,Aq⟩
   refine ⟨cO,rfl,J _ _ ⟨?_,fz,oX.mono Aq cD.size⟩⟩
   have: [UInt8.ofNat n.keys.length]++gD n.kids[0] 2=preB n:=by
     unfold preB
     rw[aB,if_neg (by simp),mX og];rfl
   rwa[this] at Ap
 · have aB:n.leaf=true:=by simpa using aB
   have:preB n=[UInt8.ofNat n.keys.length]:=by unfold preB;rw[aB];rfl
   rw[this];exact sU
 · rintro k ⟨A,ay,rfl⟩
   cases ay
   exact cP _
 rintro bS a8 ⟨sj,eX,tT⟩
 have hY:=cD.trans eX
 obtain ⟨d0,d1,d2,d3⟩:=cu (al.ext hY)
 have Hb:(preB n).length≤3:=by
   unfold preB
   cases n.leaf<;>simp[om]
 refine ⟨K,d1,fun au i w'=>∃j:Nat,i=j∧j≤n.keys.length∧bX 1 ah.uint8 w' au (a_ (preB n++pN n 0 j))∧Ext ag w'∧oX ag au,fun _ i _=>((n.keys.length:Int)-i).toNat,⟨0,rfl,fi _,by simpa[pN] using sj,hY,tT⟩,?_⟩
 rintro cO _ bz ⟨j,rfl,aZ,Ap,fz,Aq⟩
 refine ⟨fun a6=> ?_,fun cm=> ?_⟩
 · have a6:j<n.keys.length:=by have:=dL a6;omega
   obtain ⟨f0,f1,f2,f3⟩:=cu (al.ext fz)
   refine ⟨n.leaf,f0,K,f1,V,f2,D,f3,(sY (l0.ext fz) aj a6 (by omega)).use ?_⟩
   rintro _ bO ⟨bE,rfl,yt,kK,Sp⟩
   have YI:=Aj Ap
   have Sg:=Aj yt
   have c3:=N9 aj a6
   have cG:=Sw aj j aZ
   rw[eC] at YI
   obtain ⟨dj,bg,aC,aG,aJ,aN,cX⟩:=E3.append (ew:=ah.cc) yt.src (Ap.ext kK) (wx _) (by rw[YI,Sg];omega)
   rw[cL (n:=(j:Int)+1) (by omega) (by omega)]
   refine ⟨bE,rfl,dj,bg,aC,⟨j+1,by omega,by omega,?_,Ext.gv (fz.trans kK) aN Aq,fun k ae=> ?_⟩,?_⟩
   · rw[R8,←eF,E2];exact aG
   · rcases cX k ae with h|h
     · exact Aq k h
     · exact jb (fz.trans kK).size h
   · show ((n.keys.length:Int)-((j:Int)+1)).toNat<((n.keys.length:Int)-(j:Int)).toNat
     omega
 · have cm:j=n.keys.length:=by have:=fb cm;omega
   subst cm
   exact ⟨cO,rfl,Ap,bK.trans fz,Aq.mono bK.size⟩
theorem vc {B:Nat→Prop} {w:World} {n:aO} {K V D:ab} (h:ck B w n K V D) (aj:ei n) (aD:n.keys.length≤255):
   aP Tryz.prog F.vc #[fg n K V D] w (fun v w'=>v= .int .i64 (cr n:Nat)∧Ext w w'):=by
 have jG:n.vals.length≤100000:=by
   rcases aj with aj|aj
   · rw[aj.len];omega
   · rw[aj.vals];simp
 have ld:n.kids.length≤100000:=by
   rcases aj with aj|aj
   · rw[aj.kids];simp
   · rw[aj.len];omega
 refine W.ajt n.leaf K V D w _ ?_
 (delta W.vc bR ai ar bk aF dZ;dsimp only)
 refine cx (vs:=[.bool n.leaf, .slice K.a K.len K.cap, .slice V.a V.len V.cap, .slice D.a D.len D.cap]) rfl fun ag al bK _=> ?_
 obtain ⟨cK,bm,bj,bk⟩:=cu al
 refine ⟨n.leaf,cK,K,bm,V,bj,D,bk,(nP (h.ext bK) (by omega) jG ld).use ?_⟩
 rintro _ aw ⟨b,rfl,aa,cD⟩
 have Sx:=aa.2 aj
 subst Sx
 obtain ⟨cK,bm,bj,bk⟩:=cu (al.ext cD)
 refine ⟨true,rfl,fun h=>(by cases h),fun _=>⟨n.leaf,cK,K,bm,V,bj,D,bk,(vb (h.ext (bK.trans cD)) aj aD).use ?_⟩⟩
 rintro _ a8 ⟨bS,rfl,sj,eX,_⟩
 have aB:=Aj sj
 rw[Sa aj] at aB
 exact ⟨bS,rfl,by rw[aB],(bK.trans cD).trans eX⟩
def YJ (n:aO) (w w':World) (v:Value):Prop:=
 (∃s:ab,v= .tuple #[.slice s.a s.len s.cap, .int .i64 0]∧bX 1 ah.uint8 w' s (a_ (sg n))∧oX w s∧ei n∧cr n≤232)∨
 (∃e:Int,v= .tuple #[.slice none 0 0, .int .i64 e]∧e≠0∧(ei n→232<cr n))
theorem vd {B:Nat→Prop} {w:World} {n:aO} {K V D:ab} (h:ck B w n K V D) (fy:n.keys.length≤100000) (jG:n.vals.length≤100000) (ld:n.kids.length≤100000):
   aP Tryz.prog F.vd #[fg n K V D] w (fun v w'=>YJ n w w' v∧Ext w w'):=by
 refine W.aju n.leaf K V D w _ ?_
 (delta W.vd bR ai ar bk aF dZ;dsimp only)
 refine cx (vs:=[.bool n.leaf, .slice K.a K.len K.cap, .slice V.a V.len V.cap, .slice D.a D.len D.cap]) rfl fun ag al bK _=> ?_
 obtain ⟨cK,bm,bj,bk⟩:=cu al
 refine ⟨n.leaf,cK,K,bm,V,bj,D,bk,(nP (h.ext bK) fy jG ld).use ?_⟩
 rintro _ aw ⟨b,rfl,aa,cD⟩
 have pT:=bK.trans cD
 obtain ⟨cK,bm,bj,bk⟩:=cu (al.ext cD)
 have CQ:=bU.len h.keys
 refine ⟨b,rfl,ff (fun c w'=>aw=w'∧(c=true→ei n→255<n.keys.length)∧(c=false→ei n∧n.keys.length≤255)) (fun q J=>⟨fun U=>J _ _ ⟨rfl,fun _ aj=> ?_,fun h=>(by cases h)⟩,fun U=>⟨K,bm,J _ _ ⟨rfl,fun ad aj=> ?_,fun ad=> ?_⟩⟩⟩) ?_⟩
 · have U:b=false:=by simpa using U
   rw[aa.2 aj] at U;cases U
 · have:=dL ad;omega
 · have U:b=true:=by simpa using U
   have:=fb ad
   exact ⟨aa.1 U,by omega⟩
 rintro c w' ⟨rfl,aC,aG⟩
 refine ⟨fun U=>⟨.inr ⟨4,rfl,by decide,fun aj=> ?_⟩,pT⟩,fun U=> ?_⟩
 · have:=aC U aj
   have:=NR aj
   omega
 obtain ⟨aj,ae⟩:=aG U
 refine ⟨n.leaf,cK,K,bm,V,bj,D,bk,(vb (h.ext pT) aj ae).use ?_⟩
 rintro _ a8 ⟨bS,rfl,sj,eX,tT⟩
 have aB:=Aj sj
 rw[Sa aj] at aB
 refine ⟨bS,rfl,fun ad=>⟨.inr ⟨10,rfl,by decide,fun _=> ?_⟩,pT.trans eX⟩,fun ad=>⟨.inl ⟨bS,rfl,sj,tT.mono pT.size,aj,?_⟩,pT.trans eX⟩⟩
 · have:=dL ad;omega
 · have:=fb ad;omega
theorem yy {B:Nat→Prop} {w:World} {n:aO} {K V D:ab} (h:ck B w n K V D) (fy:n.keys.length≤100000) (jG:n.vals.length≤100000) (ld:n.kids.length≤100000):
   aP Tryz.prog F.yy #[fg n K V D] w (fun v w'=>YJ n w w' v∧Ext w w'):=by
 refine W.ajv n.leaf K V D w _ ?_
 (delta W.yy bR ai ar gE;dsimp only)
 refine cx (vs:=[.bool n.leaf, .slice K.a K.len K.cap, .slice V.a V.len V.cap, .slice D.a D.len D.cap]) rfl fun ag al bK _=> ?_
 obtain ⟨cK,bm,bj,bk⟩:=cu al
 refine ⟨n.leaf,cK,K,bm,V,bj,D,bk,(vd (h.ext bK) fy jG ld).use ?_⟩
 rintro _ aw ⟨hD,cD⟩
 rcases hD with ⟨s,rfl,bG,aA,aj,aD⟩|⟨e,rfl,he,aD⟩
 · exact ⟨s,0,rfl, .inl ⟨s,rfl,bG,aA.mono bK.size,aj,aD⟩,bK.trans cD⟩
 · exact ⟨⟨none,0,0⟩,e,rfl, .inr ⟨e,rfl,he,aD⟩,bK.trans cD⟩
end
section
theorem j_ {w:World} {b i:Nat} {vs:List Value} {T:TypeId} (h:Var w b vs T) (v:Value):Var (w.setCell ⟨b,i,none⟩ v) b (vs.set i v) T:=by
 have:=cj.set h i v
 have e:vs.toArray.setIfInBounds i v=(vs.set i v).toArray:=by simp
 rw[e] at this
 exact this
theorem kc {w:World} {b i:Nat} {vs:List Value} {T:TypeId} (h:Var w b vs T) (hi:i<vs.length):(∃u:Value,w.cell? ⟨b,i,none⟩=some u)∧w.frozen? ⟨b,i,none⟩=false:=
 ⟨⟨vs[i],by rw[h.cell];simp[hi]⟩,cj.frozen h _ rfl⟩
theorem iV (w:World) (b i:Nat) (v:Value):ao (fun q=>q=b) w (w.setCell ⟨b,i,none⟩ v):=ao.oo (.refl _ _) v
structure sm (w:World) (r:Nat) (s:ab) (rd:Rd):Prop where
 v:Var w r [.slice s.a s.len s.cap, .bool rd.2] ah.YK
 src:Src 1 w s (a_ rd.1)
 le:s.len≤s.cap
 ne:∀k,aQ s k→k≠r
theorem sm.an {W:Nat→Prop} {w w':World} {r:Nat} {s:ab} {rd:Rd} (h:sm w r s rd) (ak:ao W w w') (U:¬W r) (ad:∀k,aQ s k→¬W k):sm w' r s rd:=⟨h.v.an ak U,h.src.an ak ad,h.le,h.ne⟩
theorem sm.ext {w w':World} {r:Nat} {s:ab} {rd:Rd} (h:sm w r s rd) (ak:Ext w w'):sm w' r s rd:=sm.an h ak id fun _ _ h=>h
theorem N_ {a:Option Addr} {z l m n c k:Nat} (h:aQ ⟨bh a z l m,n,c⟩ k):∃A,a=some A∧A.block=k:=by
 obtain ⟨A,ay,rfl⟩:=h
 unfold bh at ay
 split at ay
 · exact ⟨A,ay,rfl⟩
 · cases aR:a with
   |none=>rw[aR] at ay;cases ay
   |some yz=>
     rw[aR] at ay
     simp only[yc,Option.some.injEq] at ay
     exact ⟨yz,rfl,by subst ay;unfold Addr.add;split<;>rfl⟩
theorem YL {w:World} {r:Nat} {s:ab} {rd:Rd} (h:sm w r s rd) (k:Nat) (ae:k≤100000) (aB:rd.1.length≤100000):
   aP Tryz.prog F.Ar #[.pointer (some ⟨r,0,none⟩), .int .i64 ((k:Nat):Int)] w (fun v w'=>∃t au:ab,v= .slice t.a t.len t.cap∧bH (fun q=>w.heap.size≤q) w' t (pO rd k).1∧sm w' r au (pO rd k).2∧ao (fun q=>q=r) w w'∧(∀q,aQ au q→aQ s q)):=by
 obtain ⟨l,ok⟩:=rd
 have al:=h.v
 have gh:=len8 h.src
 simp only at gh aB al
 have a6:=al.lt
 refine W.ajw (some ⟨r,0,none⟩) ((k:Nat):Int) w _ ?_
 (delta W.Ar bR aF ar st dZ;dsimp only)
 refine ⟨_,rfl,ok,by rw[aX];exact al.cell,ff (fun b w'=>w=w'∧b=decide (ok=false∨l.length<k)) (fun q J=>⟨fun U=>J _ _ ⟨rfl,?_⟩,fun U=>⟨_,rfl,s,al.cell,J _ _ ⟨rfl,?_⟩⟩⟩) ?_⟩
 · have U:ok=false:=by simpa using U
   exact (ik (.inl U)).symm
 · have U:ok=true:=by simpa using U
   subst U
   rw[oT,fE,fE]
   constructor
   · intro h;exact .inr (by omega)
   · rintro (h|h)
     · cases h
     · omega
 rintro b w' ⟨rfl,rfl⟩
 refine ⟨fun aa=>⟨_,rfl,?_⟩,fun aa=>⟨_,rfl,s,al.cell,?_⟩⟩
 · have aa:=dL aa
   obtain ⟨aC,aG⟩:=kc al (i:=1) (by simp)
   rw[aX]
   have ak:=iV w r 1 (.bool false)
   have e:pO (l,ok) k=([],(l,false)):=by unfold pO;rw[if_pos aa]
   rw[e]
   refine ⟨aC,aG,bN ⟨⟨none,0,0⟩,s,rfl,⟨(bX.none 1 ah.uint8 _).src,cP _,fun q J=>(rD q J).elim⟩,⟨j_ al _,h.src.an ak fun q J=>h.ne q J,h.le,h.ne⟩,ak,fun q J=>J⟩⟩
 · have aa:=fb aa
   have e:pO (l,ok) k=(l.take k,(l.drop k,true)):=by unfold pO;rw[if_neg aa]
   have fy:k≤l.length:=by
     rcases hJ l.length k with U|U
     · exact absurd (.inr U) aa
     · exact U
   have eI:ok=true:=by
     cases ok with
     |true=>rfl
     |false=>exact absurd (.inl rfl) aa
   subst eI
   rw[e]
   have hle:=h.le
   refine ⟨⟨by omega,by omega⟩,?_⟩
   have iU:=CD h.src h.le (lo:=0) (hi:=k) (by omega) (by omega)
   rw[z8,G0] at iU
   rw[g_,G0]
   refine (u9 (B:=fun q=>w.heap.size≤q) (s:=⟨bh s.a 1 0 s.cap,k,s.cap-0⟩) iU (by rw[ee];omega) (fun q J=>J)).use ?_
   rintro _ ag ⟨t,rfl,aU,bK,pM⟩
   have kZ:=al.ext bK
   obtain ⟨aC,aG⟩:=kc kZ (i:=0) (by simp)
   have ak:=iV ag r 0 (.slice (bh s.a 1 k s.cap) (s.len-k) (s.cap-k))
   have o0:=CD (h.src.ext bK) h.le (lo:=k) (hi:=s.len) (by omega) (cP _)
   rw[hU (l:=l.drop k) (by rw[fF];omega)] at o0
   have dN:∀q,aQ ⟨bh s.a 1 k s.cap,s.len-k,s.cap-k⟩ q→q≠r:=fun q J=>by
     obtain ⟨A,ay,aa⟩:=N_ J
     exact h.ne q ⟨A,ay,aa⟩
   refine ⟨t,rfl,_,rfl,s,kZ.cell,⟨by omega,by omega⟩,_,rfl,aC,aG,bN ⟨t,⟨bh s.a 1 k s.cap,s.len-k,s.cap-k⟩,rfl,bH.an aU ak (fun q J e=>by subst e;omega),⟨j_ kZ _,o0.an ak fun q J=>dN q J,by show s.len-k≤s.cap-k;omega,dN⟩,(ao.eN bK).trans ak,fun q J=> ?_⟩⟩
   obtain ⟨A,ay,aa⟩:=N_ J
   exact ⟨A,ay,aa⟩
theorem Sy {w:World} {r:Nat} {s:ab} {rd:Rd} (h:sm w r s rd) (k:Nat) (ae:1≤k∧k≤2) (aB:rd.1.length≤100000):
   aP Tryz.prog F.wD #[.pointer (some ⟨r,0,none⟩), .int .i64 ((k:Nat):Int)] w (fun v w'=>∃au:ab,v= .int .i64 ((rdNum rd k).1:Nat)∧sm w' r au (rdNum rd k).2∧ao (fun q=>q=r) w w'∧(∀q,aQ au q→aQ s q)):=by
 refine W.ajx (some ⟨r,0,none⟩) ((k:Nat):Int) w _ ?_
 (delta W.wD dZ N3 aE;dsimp only)
 refine (YL h k (by omega) aB).use ?_
 rintro _ ag ⟨t,au,rfl,aU,aY,ak,bG⟩
 have hlen:(pO rd k).1.length=k∨(pO rd k).1=[]:=by
   unfold pO
   split
   · exact .inr rfl
   · rename_i c4
     left
     rw[ee]
     have:¬rd.1.length<k:=fun h=>c4 (.inr h)
     omega
 have aa:=JW k (pO rd k).1
 have aV:256^k≤65536:=jb (Nx (by omega) ae.2) (by decide)
 refine ⟨t,rfl,?_⟩
 rcases hlen with hlen|hlen
 · refine (sT (a:=0) (k:=k) aU.1 aU.2.1 ⟨ae.1,by omega⟩ (by omega) (by omega)).use ?_
   rintro _ _ ⟨rfl,rfl⟩
   have aa:=aa hlen
   rw[z8,hU (by omega)]
   refine ⟨_,_,rfl,au,?_,aY,ak,bG⟩
   rw[cL (by omega) (by omega)]
   unfold rdNum
   rw[if_pos hlen]
 · refine (aiJ (k:=k) aU.1 (by omega) (by rw[hlen];simp;omega)).use ?_
   rintro _ _ ⟨rfl,rfl⟩
   refine ⟨_,_,rfl,au,?_,aY,ak,bG⟩
   unfold rdNum
   rw[if_neg (by rw[hlen];simp;omega)]
   rfl
theorem Sz (rd:Rd) (k:Nat):(rdNum rd k).1<256^k:=by
 unfold rdNum
 split
 · exact JW k _ (by assumption)
 · exact Nat.pow_pos (by omega)
theorem YM (rd:Rd) (k:Nat):(pO rd k).2.1.length≤rd.1.length∧(pO rd k).1.length≤k:=by
 unfold pO
 split
 · exact ⟨cP _,fi _⟩
 · exact ⟨by rw[fF];omega,by rw[ee];omega⟩
theorem Oa (rd:Rd) (k:Nat):(rdNum rd k).2.1.length≤rd.1.length:=(YM rd k).1
theorem YN (rd:Rd):(sV rd).2.1.length≤rd.1.length∧(sV rd).1.length≤255:=by
 unfold sV
 have U:=YM (rdNum rd 1).2 (rdNum rd 1).1
 have ad:=Oa rd 1
 have aq:(rdNum rd 1).1<256:=Sz rd 1
 exact ⟨by omega,by omega⟩
theorem YO {w:World} {r:Nat} {s:ab} {rd:Rd} (h:sm w r s rd) (aB:rd.1.length≤100000):
   aP Tryz.prog F.wE #[.pointer (some ⟨r,0,none⟩)] w (fun v w'=>∃t au:ab,v= .slice t.a t.len t.cap∧bH (fun q=>w.heap.size≤q) w' t (sV rd).1∧sm w' r au (sV rd).2∧ao (fun q=>q=r) w w'∧(∀q,aQ au q→aQ s q)):=by
 refine W.ajy (some ⟨r,0,none⟩) w _ ?_
 (delta W.wE bj dZ;dsimp only)
 refine (Sy h 1 (by omega) aB).use ?_
 rintro _ ag ⟨s1,rfl,lg,gF,lf⟩
 have aq:(rdNum rd 1).1<256:=Sz rd 1
 have aK:=Oa rd 1
 refine ⟨_,rfl,(YL lg (rdNum rd 1).1 (by omega) (by omega)).use ?_⟩
 rintro _ aw ⟨t,s2,rfl,aU,fU,dh,sU⟩
 exact ⟨t,rfl,t,s2,rfl,bH.bA aU fun q _ J=>jb gF.size J,fU,gF.trans dh,fun q J=>lf q (sU q J)⟩
end
section
theorem bZ.bA {B C:Nat→Prop} {w:World} {s:ab} {ls:List Key} (h:bZ B w s ls) (aa:∀k,k<w.heap.size→B k→C k):bZ C w s ls:=by
 obtain ⟨ts,U,ad,aq,aK⟩:=h
 exact ⟨ts,U,ad,In.bA aq aa,fun i b7 hV=>⟨bH.bA (aK i b7 hV).1 aa,(aK i b7 hV).2⟩⟩
theorem eJ.bA {B C:Nat→Prop} {w:World} {s:ab} {ds:List Nat} (h:eJ B w s ds) (aa:∀k,k<w.heap.size→B k→C k):eJ C w s ds:=⟨h.1,In.bA h.2 aa⟩
def Grow (B:Nat→Prop) (w w':World) (q:Nat):Prop:=B q∨(w.heap.size≤q∧q<w'.heap.size)
theorem Ob {w:World} {bJ o:Nat} {vs:List Value} {S t:ab} {ls:List Key} {l:Key} {B:Nat→Prop} {T:TypeId} {W:Nat→Prop} (al:Var w bJ vs T) (As:o<vs.length) (po:bZ B w S ls) (CR:¬B bJ)
   (aU:bH B w t l) (hd:∀k,aQ t k→¬aQ S k) (aD:ls.length≤100000) {K:World→Prop}
   (bq:∀ (w':World) (gQ:ab),Var w' bJ (vs.set o (.slice gQ.a gQ.len gQ.cap)) T→bZ (Grow B w w') w' gQ (ls++ [l])→ao (fun q=>q=bJ∨aQ S q) w w'→K w'):
   az (w.alloc (.cells #[.slice t.a t.len t.cap] ah.cc)) fun fu=>ao W w fu∧∃c9:ab,∃eo:World,Sem.run Tryz.prog (Builtin.append_ #[ah.cJ,ah.cJ] ah.cJ #[.slice S.a S.len S.cap, .slice (some ⟨w.heap.size,0,none⟩) 1 1]) fu= .ok (.slice c9.a c9.len c9.cap) eo∧
     (∃u:Value,eo.cell? (Addr.add ⟨bJ,0,none⟩ o)=some u)∧eo.frozen? (Addr.add ⟨bJ,0,none⟩ o)=false∧az (eo.setCell (Addr.add ⟨bJ,0,none⟩ o) (.slice c9.a c9.len c9.cap)) fun eO=>K eO:=by
 have Au:=bZ.bA (C:=fun q=>B q∨w.heap.size≤q) po fun k _ h=> .inl h
 have nQ:=bH.bA (C:=fun q=>B q∨w.heap.size≤q) aU fun k _ h=> .inl h
 obtain ⟨au,w',aC,aG,aJ,aN⟩:=Su Au nQ hd (by omega) fun k ae=> .inr ae
 have k0:=al.lt
 have J8:¬aQ S bJ:=fun h=>by
   obtain ⟨ts,_,_,aq,_⟩:=po
   exact CR (aq bJ h).1
 have qU:=al.an aJ J8
 obtain ⟨bm,bj⟩:=kc qU As
 refine bN ⟨ao.eN (iM _ _),au,w',aC,?_⟩
 rw[aX,gJ]
 have ak:=iV w' bJ o (.slice au.a au.len au.cap)
 refine ⟨bm,bj,bN (bq _ au (j_ qU _) ?_ ?_)⟩
 · have aW:=bZ.bA (C:=Grow B w (w'.setCell ⟨bJ,o,none⟩ (.slice au.a au.len au.cap))) aG fun k ae h=>by
     rcases h with h|h
     · exact .inl h
     · exact .inr ⟨h,ly ae ak.size⟩
   refine bZ.an aW ak fun k ae e=> ?_
   subst e
   rcases ae with h|h
   · exact CR h
   · omega
 · exact (aJ.mono fun k _ h=> .inr h).trans (ak.mono fun k _ h=> .inl h)
theorem YP {w:World} {bJ o:Nat} {vs:List Value} {S:ab} {ds:List Nat} (d:Nat) {B:Nat→Prop} {T:TypeId} {W:Nat→Prop} (al:Var w bJ vs T) (As:o<vs.length) (po:eJ B w S ds) (CR:¬B bJ)
   (aD:ds.length≤100000) {K:World→Prop}
   (bq:∀ (w':World) (gQ:ab),Var w' bJ (vs.set o (.slice gQ.a gQ.len gQ.cap)) T→eJ (Grow B w w') w' gQ (ds++ [d])→ao (fun q=>q=bJ∨aQ S q) w w'→K w'):
   az (w.alloc (.cells #[.int .i64 ((d:Nat):Int)] ah.int)) fun fu=>ao W w fu∧∃c9:ab,∃eo:World,Sem.run Tryz.prog (Builtin.append_ #[ah.eY,ah.eY] ah.eY #[.slice S.a S.len S.cap, .slice (some ⟨w.heap.size,0,none⟩) 1 1]) fu= .ok (.slice c9.a c9.len c9.cap) eo∧
     (∃u:Value,eo.cell? (Addr.add ⟨bJ,0,none⟩ o)=some u)∧eo.frozen? (Addr.add ⟨bJ,0,none⟩ o)=false∧az (eo.setCell (Addr.add ⟨bJ,0,none⟩ o) (.slice c9.a c9.len c9.cap)) fun eO=>K eO:=by
 have Au:=eJ.bA (C:=fun q=>B q∨w.heap.size≤q) po fun k _ h=> .inl h
 obtain ⟨au,w',aC,aG,aJ,aN⟩:=ajc d Au (by omega) fun k ae=> .inr ae
 have k0:=al.lt
 have J8:¬aQ S bJ:=fun h=>CR (po.2 bJ h).1
 have qU:=al.an aJ J8
 obtain ⟨bm,bj⟩:=kc qU As
 refine bN ⟨ao.eN (iM _ _),au,w',aC,?_⟩
 rw[aX,gJ]
 have ak:=iV w' bJ o (.slice au.a au.len au.cap)
 refine ⟨bm,bj,bN (bq _ au (j_ qU _) ?_ ?_)⟩
 · have aW:=eJ.bA (C:=Grow B w (w'.setCell ⟨bJ,o,none⟩ (.slice au.a au.len au.cap))) aG fun k ae h=>by
     rcases h with h|h
     · exact .inl h
     · exact .inr ⟨h,ly ae ak.size⟩
   refine eJ.an aW ak fun k ae e=> ?_
   subst e
   rcases ae with h|h
   · exact CR h
   · omega
 · exact (aJ.mono fun k _ h=> .inr h).trans (ak.mono fun k _ h=> .inl h)
structure tW (lo:Nat) (w:World) (r bJ:Nat) (s:ab) (m:aO×Rd) (K V D:ab) (cE cY ct:Nat→Prop):Prop where
 v:Var w bJ [.bool m.1.leaf, .slice K.a K.len K.cap, .slice V.a V.len V.cap, .slice D.a D.len D.cap] ah.cR
 rd:sm w r s m.2
 keys:bZ cE w K m.1.keys
 vals:bZ cY w V m.1.vals
 kids:eJ ct w D m.1.kids
 bW:∀q,cE q→lo≤q∧q<w.heap.size∧¬cY q∧¬ct q
 bv:∀q,cY q→lo≤q∧q<w.heap.size∧¬ct q
 bc:∀q,ct q→lo≤q∧q<w.heap.size
 aj:∀q,aQ s q→q<lo∧q≠bJ
 Fb:r<lo
 Fc:bJ<lo
 tX:r≠bJ
 Fe:m.2.1.length≤100000
def Ff (lo r bJ:Nat) (q:Nat):Prop:=q=r∨q=bJ∨lo≤q
theorem tW.drew {lo:Nat} {w:World} {r bJ:Nat} {s:ab} {m:aO×Rd} {K V D:ab} {cE cY ct:Nat→Prop} (h:tW lo w r bJ s m K V D cE cY ct):tW lo w.drew r bJ s m K V D cE cY ct:=
 ⟨h.v.ext (ej w),h.rd.ext (ej w),bZ.ext h.keys (ej w),bZ.ext h.vals (ej w),eJ.ext h.kids (ej w),h.bW,h.bv,h.bc,h.aj,h.Fb,h.Fc,h.tX,h.Fe⟩
theorem YQ {leaf:Bool}:∀ (s:aO×Rd) (i:Nat),s.1.leaf=leaf→(qj s i).1.leaf=leaf
 |_,0,h=>h
 |s,i+1,h=>by
   have dx:=YQ s i h
   rw[qj]
   unfold E7
   split
   · exact dx
   · exact dx
theorem YR:∀ (s:aO×Rd) (i:Nat),(qj s i).1.keys.length=s.1.keys.length+i∧(qj s i).1.vals.length≤s.1.vals.length+i∧(qj s i).1.kids.length≤s.1.kids.length+i
 |_,0=>⟨rfl,cP _,cP _⟩
 |s,i+1=>by
   obtain ⟨U,ad,aq⟩:=YR s i
   rw[qj]
   unfold E7
   split<;>simp<;>omega
theorem ajz {lo:Nat} {w:World} {r bJ:Nat} {s:ab} {m:aO×Rd} {K V D:ab} {cE cY ct:Nat→Prop} (h:tW lo w r bJ s m K V D cE cY ct) (mE:lo≤w.heap.size) (aD:m.1.keys.length≤100000) {R:World→Prop}
   (c5:∀ (w':World) (aT au:ab) (Av:Nat→Prop),tW lo w' r bJ au (⟨m.1.leaf,m.1.keys++ [(sV m.2).1],m.1.vals,m.1.kids⟩,(sV m.2).2) aT V D Av cY ct→ao (Ff lo r bJ) w w'→lo≤w'.heap.size→R w'):
   az w.drew fun fM=>∃sn:Nat→Prop,¬sn (Addr.add ⟨bJ,0,none⟩ 1).block∧∃dd:ab,fM.cell? (Addr.add ⟨bJ,0,none⟩ 1)=some (.slice dd.a dd.len dd.cap)∧
     Calls Tryz.prog F.wE #[.pointer (some ⟨r,0,none⟩)] fM fun J9 fA=>∃iO:ab,J9= .returned (.slice iO.a iO.len iO.cap)∧ao sn fM fA∧
     az (fA.alloc (.cells #[.slice iO.a iO.len iO.cap] ah.cc)) fun fu=>ao sn fA fu∧∃c9:ab,∃eo:World,Sem.run Tryz.prog (Builtin.append_ #[ah.cJ,ah.cJ] ah.cJ #[.slice dd.a dd.len dd.cap, .slice (some ⟨fA.heap.size,0,none⟩) 1 1]) fu= .ok (.slice c9.a c9.len c9.cap) eo∧
     (∃u:Value,eo.cell? (Addr.add ⟨bJ,0,none⟩ 1)=some u)∧eo.frozen? (Addr.add ⟨bJ,0,none⟩ 1)=false∧az (eo.setCell (Addr.add ⟨bJ,0,none⟩ 1) (.slice c9.a c9.len c9.cap)) fun eO=>R eO:=by
 have hd:=h.drew
 have aY:=h.Fb
 have k0:=h.Fc
 obtain ⟨cK,bm,bj,bk⟩:=cu hd.v
 refine bN ⟨fun q=>q=r,fun e=>h.tX (by rw[aX] at e;exact e.symm),K,bm,(YO hd.rd hd.Fe).use ?_⟩
 rintro _ fA ⟨t,au,rfl,aU,fL,ak,lh⟩
 have bF:w.drew.heap.size=w.heap.size:=rfl
 have dE:=ak.size
 have wF:∀ {B:Nat→Prop},(∀q,B q→lo≤q)→∀k,B k→¬(k=r):=fun fc k ae e=>by have:=fc k ae;omega
 have dW:=bZ.an hd.keys ak (wF fun q J=>(h.bW q J).1)
 have hD:=bZ.an hd.vals ak (wF fun q J=>(h.bv q J).1)
 have gm:=eJ.an hd.kids ak (wF fun q J=>(h.bc q J).1)
 have J_:=hd.v.an ak (fun e=>h.tX e.symm)
 refine ⟨t,rfl,ak,Ob (B:=Grow cE w.drew fA) J_ (o:=1) (by simp) (bZ.bA dW fun k _ h=> .inl h) ?_ (bH.bA aU fun k ae h=> .inr ⟨h,ae⟩) ?_ aD fun w' aT aC aG aJ=> ?_⟩
 · rintro (U|U)
   · have:=(h.bW bJ U).1;omega
   · omega
 · intro k jd Fg
   obtain ⟨ts,_,_,aq,_⟩:=h.keys
   have:=(aq k Fg).2
   have:=(aU.2.2 k jd).1
   omega
 have eR:∀q,Grow (Grow cE w.drew fA) fA w' q→cE q∨(w.heap.size≤q∧q<w'.heap.size):=by
   rintro q ((U|U)|U)
   · exact .inl U
   · exact .inr ⟨U.1,ly U.2 aJ.size⟩
   · exact .inr ⟨jb dE U.1,U.2⟩
 have bl:=aJ.size
 have kL:∀q,aQ K q→cE q:=fun q J=>by
   obtain ⟨ts,_,_,aq,_⟩:=h.keys
   exact (aq q J).1
 refine c5 w' aT au (fun q=>cE q∨(w.heap.size≤q∧q<w'.heap.size)) ⟨by simpa using aC,fL.an aJ ?_ ?_,bZ.bA aG fun k _ ae=>eR k ae,bZ.an hD aJ ?_,eJ.an gm aJ ?_,?_,fun q J=> ?_,fun q J=> ?_,fun q J=>h.aj q (lh q J),h.Fb,h.Fc,h.tX,jb (YN m.2).1 h.Fe⟩ ?_ (by omega)
 · rintro (U|U)
   · exact h.tX U
   · have:=(h.bW r (kL r U)).1;omega
 · rintro q J (U|U)
   · exact (h.aj q (lh q J)).2 U
   · have:=(h.bW q (kL q U)).1
     have:=(h.aj q (lh q J)).1;omega
 · rintro q J (U|U)
   · have:=(h.bv q J).1;omega
   · exact (h.bW q (kL q U)).2.2.1 J
 · rintro q J (U|U)
   · have:=(h.bc q J).1;omega
   · exact (h.bW q (kL q U)).2.2.2 J
 · rintro q (U|U)
   · have:=h.bW q U;exact ⟨this.1,by omega,this.2.2⟩
   · exact ⟨by omega,U.2,fun ad=>by have:=h.bv q ad;omega,fun ad=>by have:=h.bc q ad;omega⟩
 · have:=h.bv q J;exact ⟨this.1,by omega,this.2.2⟩
 · have:=h.bc q J;exact ⟨this.1,by omega⟩
 · refine ((ao.eN (ej w)).trans (ak.mono fun k _ ae=> .inl ae)).trans (aJ.mono fun k _ ae=> ?_)
   rcases ae with ae|ae
   · exact .inr (.inl ae)
   · exact .inr (.inr (h.bW k (kL k ae)).1)
theorem ajA {lo:Nat} {w:World} {r bJ:Nat} {s:ab} {m:aO×Rd} {K V D:ab} {cE cY ct:Nat→Prop} (h:tW lo w r bJ s m K V D cE cY ct) (mE:lo≤w.heap.size) (aD:m.1.vals.length≤100000) {R:World→Prop}
   (c5:∀ (w':World) (bP au:ab) (Oc:Nat→Prop),tW lo w' r bJ au (⟨m.1.leaf,m.1.keys,m.1.vals++ [(sV m.2).1],m.1.kids⟩,(sV m.2).2) K bP D cE Oc ct→ao (Ff lo r bJ) w w'→lo≤w'.heap.size→R w'):
   az w.drew fun fM=>∃sn:Nat→Prop,¬sn (Addr.add ⟨bJ,0,none⟩ 2).block∧∃dd:ab,fM.cell? (Addr.add ⟨bJ,0,none⟩ 2)=some (.slice dd.a dd.len dd.cap)∧
     Calls Tryz.prog F.wE #[.pointer (some ⟨r,0,none⟩)] fM fun J9 fA=>∃iO:ab,J9= .returned (.slice iO.a iO.len iO.cap)∧ao sn fM fA∧
     az (fA.alloc (.cells #[.slice iO.a iO.len iO.cap] ah.cc)) fun fu=>ao sn fA fu∧∃c9:ab,∃eo:World,Sem.run Tryz.prog (Builtin.append_ #[ah.cJ,ah.cJ] ah.cJ #[.slice dd.a dd.len dd.cap, .slice (some ⟨fA.heap.size,0,none⟩) 1 1]) fu= .ok (.slice c9.a c9.len c9.cap) eo∧
     (∃u:Value,eo.cell? (Addr.add ⟨bJ,0,none⟩ 2)=some u)∧eo.frozen? (Addr.add ⟨bJ,0,none⟩ 2)=false∧az (eo.setCell (Addr.add ⟨bJ,0,none⟩ 2) (.slice c9.a c9.len c9.cap)) fun eO=>R eO:=by
 have hd:=h.drew
 have aY:=h.Fb
 have k0:=h.Fc
 obtain ⟨cK,bm,bj,bk⟩:=cu hd.v
 refine bN ⟨fun q=>q=r,fun e=>h.tX (by rw[aX] at e;exact e.symm),V,bj,(YO hd.rd hd.Fe).use ?_⟩
 rintro _ fA ⟨t,au,rfl,aU,fL,ak,lh⟩
 have bF:w.drew.heap.size=w.heap.size:=rfl
 have dE:=ak.size
 have wF:∀ {B:Nat→Prop},(∀q,B q→lo≤q)→∀k,B k→¬(k=r):=fun fc k ae e=>by have:=fc k ae;omega
 have dW:=bZ.an hd.keys ak (wF fun q J=>(h.bW q J).1)
 have hD:=bZ.an hd.vals ak (wF fun q J=>(h.bv q J).1)
 have gm:=eJ.an hd.kids ak (wF fun q J=>(h.bc q J).1)
 have J_:=hd.v.an ak (fun e=>h.tX e.symm)
 refine ⟨t,rfl,ak,Ob (B:=Grow cY w.drew fA) J_ (o:=2) (by simp) (bZ.bA hD fun k _ h=> .inl h) ?_ (bH.bA aU fun k ae h=> .inr ⟨h,ae⟩) ?_ aD fun w' bP aC aG aJ=> ?_⟩
 · rintro (U|U)
   · have:=(h.bv bJ U).1;omega
   · omega
 · intro k jd Fg
   obtain ⟨ts,_,_,aq,_⟩:=h.vals
   have:=(aq k Fg).2
   have:=(aU.2.2 k jd).1
   omega
 have eR:∀q,Grow (Grow cY w.drew fA) fA w' q→cY q∨(w.heap.size≤q∧q<w'.heap.size):=by
   rintro q ((U|U)|U)
   · exact .inl U
   · exact .inr ⟨U.1,ly U.2 aJ.size⟩
   · exact .inr ⟨jb dE U.1,U.2⟩
 have bl:=aJ.size
 have kL:∀q,aQ V q→cY q:=fun q J=>by
   obtain ⟨ts,_,_,aq,_⟩:=h.vals
   exact (aq q J).1
 refine c5 w' bP au (fun q=>cY q∨(w.heap.size≤q∧q<w'.heap.size)) ⟨by simpa using aC,fL.an aJ ?_ ?_,bZ.an dW aJ ?_,bZ.bA aG fun k _ ae=>eR k ae,eJ.an gm aJ ?_,fun q J=> ?_,?_,fun q J=> ?_,fun q J=>h.aj q (lh q J),h.Fb,h.Fc,h.tX,jb (YN m.2).1 h.Fe⟩ ?_ (by omega)
 · rintro (U|U)
   · exact h.tX U
   · have:=(h.bv r (kL r U)).1;omega
 · rintro q J (U|U)
   · exact (h.aj q (lh q J)).2 U
   · have:=(h.bv q (kL q U)).1
     have:=(h.aj q (lh q J)).1;omega
 · rintro q J (U|U)
   · have:=(h.bW q J).1;omega
   · exact (h.bW q J).2.2.1 (kL q U)
 · rintro q J (U|U)
   · have:=(h.bc q J).1;omega
   · exact (h.bv q (kL q U)).2.2 J
 · have:=h.bW q J
   refine ⟨this.1,by omega,?_,this.2.2.2⟩
   rintro (U|U)
   · exact this.2.2.1 U
   · omega
 · rintro q (U|U)
   · have:=h.bv q U;exact ⟨this.1,by omega,this.2.2⟩
   · exact ⟨by omega,U.2,fun ad=>by have:=h.bc q ad;omega⟩
 · have:=h.bc q J;exact ⟨this.1,by omega⟩
 · refine ((ao.eN (ej w)).trans (ak.mono fun k _ ae=> .inl ae)).trans (aJ.mono fun k _ ae=> ?_)
   rcases ae with ae|ae
   · exact .inr (.inl ae)
   · exact .inr (.inr (h.bv k (kL k ae)).1)
theorem YS {lo:Nat} {w:World} {r bJ:Nat} {s:ab} {m:aO×Rd} {K V D:ab} {cE cY ct:Nat→Prop} (h:tW lo w r bJ s m K V D cE cY ct) (mE:lo≤w.heap.size) (aD:m.1.kids.length≤100000) {R:World→Prop}
   (c5:∀ (w':World) (aH au:ab) (SA:Nat→Prop),tW lo w' r bJ au (⟨m.1.leaf,m.1.keys,m.1.vals,m.1.kids++ [(rdNum m.2 2).1]⟩,(rdNum m.2 2).2) K V aH cE cY SA→ao (Ff lo r bJ) w w'→lo≤w'.heap.size→R w'):
   az w.drew fun fM=>∃sn:Nat→Prop,¬sn (Addr.add ⟨bJ,0,none⟩ 3).block∧∃dd:ab,fM.cell? (Addr.add ⟨bJ,0,none⟩ 3)=some (.slice dd.a dd.len dd.cap)∧
     Calls Tryz.prog F.wD #[.pointer (some ⟨r,0,none⟩), .int .i64 2] fM fun J9 fA=>∃n30:Int,J9= .returned (.int .i64 n30)∧ao sn fM fA∧
     az (fA.alloc (.cells #[.int .i64 n30] ah.int)) fun fu=>ao sn fA fu∧∃c9:ab,∃eo:World,Sem.run Tryz.prog (Builtin.append_ #[ah.eY,ah.eY] ah.eY #[.slice dd.a dd.len dd.cap, .slice (some ⟨fA.heap.size,0,none⟩) 1 1]) fu= .ok (.slice c9.a c9.len c9.cap) eo∧
     (∃u:Value,eo.cell? (Addr.add ⟨bJ,0,none⟩ 3)=some u)∧eo.frozen? (Addr.add ⟨bJ,0,none⟩ 3)=false∧az (eo.setCell (Addr.add ⟨bJ,0,none⟩ 3) (.slice c9.a c9.len c9.cap)) fun eO=>R eO:=by
 have hd:=h.drew
 have aY:=h.Fb
 have k0:=h.Fc
 obtain ⟨cK,bm,bj,bk⟩:=cu hd.v
 refine bN ⟨fun q=>q=r,fun e=>h.tX (by rw[aX] at e;exact e.symm),D,bk,(Sy hd.rd 2 (by decide) hd.Fe).use ?_⟩
 rintro _ fA ⟨au,rfl,fL,ak,lh⟩
 have bF:w.drew.heap.size=w.heap.size:=rfl
 have dE:=ak.size
 have wF:∀ {B:Nat→Prop},(∀q,B q→lo≤q)→∀k,B k→¬(k=r):=fun fc k ae e=>by have:=fc k ae;omega
 have dW:=bZ.an hd.keys ak (wF fun q J=>(h.bW q J).1)
 have hD:=bZ.an hd.vals ak (wF fun q J=>(h.bv q J).1)
 have gm:=eJ.an hd.kids ak (wF fun q J=>(h.bc q J).1)
 have J_:=hd.v.an ak (fun e=>h.tX e.symm)
 refine ⟨_,rfl,ak,YP (rdNum m.2 2).1 (B:=ct) J_ (o:=3) (by simp) gm (fun U=>by have:=(h.bc bJ U).1;omega) aD fun w' aH aC aG aJ=> ?_⟩
 have eR:∀q,Grow ct fA w' q→ct q∨(w.heap.size≤q∧q<w'.heap.size):=by
   rintro q (U|U)
   · exact .inl U
   · exact .inr ⟨jb dE U.1,U.2⟩
 have bl:=aJ.size
 have kL:∀q,aQ D q→ct q:=fun q J=>(h.kids.2 q J).1
 refine c5 w' aH au (fun q=>ct q∨(w.heap.size≤q∧q<w'.heap.size)) ⟨by simpa using aC,fL.an aJ ?_ ?_,bZ.an dW aJ ?_,bZ.an hD aJ ?_,eJ.bA aG fun k _ ae=>eR k ae,fun q J=> ?_,fun q J=> ?_,?_,fun q J=>h.aj q (lh q J),h.Fb,h.Fc,h.tX,jb (Oa m.2 2) h.Fe⟩ ?_ (by omega)
 · rintro (U|U)
   · exact h.tX U
   · have:=(h.bc r (kL r U)).1;omega
 · rintro q J (U|U)
   · exact (h.aj q (lh q J)).2 U
   · have:=(h.bc q (kL q U)).1
     have:=(h.aj q (lh q J)).1;omega
 · rintro q J (U|U)
   · have:=(h.bW q J).1;omega
   · exact (h.bW q J).2.2.2 (kL q U)
 · rintro q J (U|U)
   · have:=(h.bv q J).1;omega
   · exact (h.bv q J).2.2 (kL q U)
 · have:=h.bW q J
   refine ⟨this.1,by omega,this.2.2.1,?_⟩
   rintro (U|U)
   · exact this.2.2.2 U
   · omega
 · have:=h.bv q J
   refine ⟨this.1,by omega,?_⟩
   rintro (U|U)
   · exact this.2.2 U
   · omega
 · rintro q (U|U)
   · have:=h.bc q U;exact ⟨this.1,by omega⟩
   · exact ⟨by omega,U.2⟩
 · refine ((ao.eN (ej w)).trans (ak.mono fun k _ ae=> .inl ae)).trans (aJ.mono fun k _ ae=> ?_)
   rcases ae with ae|ae
   · exact .inr (.inl ae)
   · exact .inr (.inr (h.bc k (kL k ae)).1)
end
end Go.Proofs.YtplieiecebljmaaGreat
