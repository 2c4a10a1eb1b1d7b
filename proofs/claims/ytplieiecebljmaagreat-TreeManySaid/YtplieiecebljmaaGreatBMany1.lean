/- Contracts of the functions that the statement reaches, and the plain laws over them; each theorem stands with its conditions. -/
import Derived.Laws.Externs
import Derived.Laws.Small
import Derived.Lib.Builder
import Derived.Lib.Bytealg
import Derived.Lib.ConvBytes
import Derived.Lib.MakeNoZero
import Derived.Lib.SlBytesConst
import Derived.Lib.UnsafeStr
import Derived.Test.YtplieiecebljmaaGreatVMany2
namespace Go.Proofs.YtplieiecebljmaaGreat
abbrev Key:=List UInt8
abbrev bo:=Key×Key
def ih:Key→Key→Int
 | [],[]=>0
 | [],_::_=> -1
 |_::_,[]=>1
 |a::x,b::y=>if a.toNat<b.toNat then -1 else if b.toNat<a.toNat then 1 else ih x y
theorem ad9 {a b:UInt8} (U:¬a.toNat<b.toNat) (ab:¬b.toNat<a.toNat):a=b:=UInt8.toNat_inj.1 (by omega)
theorem O_:∀a:Key,ih a a=0
 | []=>rfl
 |a::x=>by simp[ih,O_ x]
theorem Pa:∀ {a b:Key},ih a b=0→a=b
 | [],[],_=>rfl
 | [],_::_,h=>by simp[ih] at h
 |_::_,[],h=>by simp[ih] at h
 |a::x,b::y,h=>by
   unfold ih at h
   split at h
   · cases h
   · rename_i U
     split at h
     · cases h
     · rename_i ab
       rw[ad9 U ab,Pa h]
theorem ad_ {a b:Key}:ih a b=0↔a=b:=⟨Pa,fun h=>h▸O_ _⟩
theorem Ve:∀a b:Key,ih a b= -1∨ih a b=0∨ih a b=1
 | [],[]=> .inr (.inl rfl)
 | [],_::_=> .inl rfl
 |_::_,[]=> .inr (.inr rfl)
 |a::x,b::y=>by
   unfold ih
   split
   · exact .inl rfl
   · split
     · exact .inr (.inr rfl)
     · exact Ve x y
theorem Vf:∀a b:Key,ih b a=-ih a b
 | [],[]=>rfl
 | [],_::_=>rfl
 |_::_,[]=>rfl
 |a::x,b::y=>by
   unfold ih
   by_cases U:a.toNat<b.toNat
   · have ab:¬b.toNat<a.toNat:=by omega
     simp[U,ab]
   · by_cases ab:b.toNat<a.toNat
     · simp[U,ab]
     · simp only[U,ab,if_false]
       exact Vf x y
theorem Vg:∀ {a b c:Key},ih a b<0→ih b c<0→ih a c<0
 | [],[],_,h,_=>by simp[ih] at h
 | [],_::_,[],_,h=>by simp[ih] at h
 | [],_::_,_::_,_,_=>by simp[ih]
 |_::_,[],_,h,_=>by simp[ih] at h
 |_::_,_::_,[],_,h=>by simp[ih] at h
 |a::x,b::y,c::z,U,ab=>by
   unfold ih at U ab⊢
   by_cases a8:a.toNat<b.toNat
   · by_cases cQ:b.toNat<c.toNat
     · rw[if_pos (by omega)];decide
     · rw[if_neg cQ] at ab
       by_cases a3:c.toNat<b.toNat
       · rw[if_pos a3] at ab;omega
       · rw[if_pos (by omega)];decide
   · rw[if_neg a8] at U
     by_cases cQ:b.toNat<a.toNat
     · rw[if_pos cQ] at U;omega
     · rw[if_neg cQ] at U
       by_cases a3:b.toNat<c.toNat
       · rw[if_pos (by omega)];decide
       · rw[if_neg a3] at ab
         by_cases a4:c.toNat<b.toNat
         · rw[if_pos a4] at ab;omega
         · rw[if_neg a4] at ab
           rw[if_neg (by omega),if_neg (by omega)]
           exact Vg U ab
def cw (a b:Key):Prop:=ih a b<0
def g7 (a b:Key):Prop:=¬ih b a<0
instance (a b:Key):Decidable (cw a b):=by unfold cw;infer_instance
instance (a b:Key):Decidable (g7 a b):=by unfold g7;infer_instance
theorem yr {a b c:Key} (U:cw a b) (ab:cw b c):cw a c:=Vg U ab
theorem yt (a:Key):¬cw a a:=by unfold cw;rw[O_];decide
theorem yu {a b:Key} (h:cw a b):¬cw b a:=fun ab=>yt a (yr h ab)
theorem Pb (a b:Key):cw a b∨a=b∨cw b a:=by
 unfold cw
 have h:=Vf a b
 rcases Ve a b with U|U|U
 · exact .inl (by omega)
 · exact .inr (.inl (Pa U))
 · exact .inr (.inr (by omega))
theorem Dd {a b:Key}:g7 a b↔cw a b∨a=b:=by
 constructor
 · intro h
   rcases Pb a b with U|U|U
   · exact .inl U
   · exact .inr U
   · exact absurd U h
 · rintro (h|rfl)
   · exact yu h
   · exact yt _
theorem Vh (a:Key):g7 a a:=yt a
theorem pz {a b:Key} (h:cw a b):g7 a b:=Dd.2 (.inl h)
theorem Vi {a b:Key}:¬cw a b↔g7 b a:=Iff.rfl
theorem AI {a b c:Key} (U:cw a b) (ab:g7 b c):cw a c:=by
 rcases Dd.1 ab with h|rfl
 · exact yr U h
 · exact U
theorem sv {a b c:Key} (U:g7 a b) (ab:cw b c):cw a c:=by
 rcases Dd.1 U with h|rfl
 · exact yr h ab
 · exact ab
theorem Vj {a b c:Key} (U:g7 a b) (ab:g7 b c):g7 a c:=by
 rcases Dd.1 U with h|rfl
 · exact pz (AI h ab)
 · exact ab
def o7 (l:List bo):Prop:=l.Pairwise fun a b=>cw a.1 b.1
def nB (l:List bo) (k v:Key):List bo:=(l.filter fun p=>decide (cw p.1 k))++(k,v)::l.filter fun p=>decide (cw k p.1)
def mc (l:List bo) (k:Key):List bo:=l.filter fun p=>decide (p.1≠k)
def n0 (l:List bo) (k:Key):Option Key:=(l.find? fun p=>decide (p.1=k)).map (·.2)
def o8 (l:List bo) (fr to:Key):List bo:=l.filter fun p=>decide (g7 fr p.1)&&(to.isEmpty||decide (cw p.1 to))
def jT (lo hi:Option Key) (k:Key):Prop:=(∀a,lo=some a→g7 a k)∧(∀b,hi=some b→cw k b)
theorem aea {a b:List bo} {k v:Key} (h:∀p∈b,cw k p.1):nB (a++b) k v=nB a k v++b:=by
 have aW:b.filter (fun p=>decide (cw p.1 k))=[]:=HH.2 fun p a6=>by simpa using yu (h p a6)
 have bq:b.filter (fun p=>decide (cw k p.1))=b:=yj.2 fun p a6=>jB (h p a6)
 unfold nB
 rw[yk,yk,aW,bq,lM,d_,C1]
theorem aeb {a b:List bo} {k v:Key} (h:∀p∈a,cw p.1 k):nB (a++b) k v=a++nB b k v:=by
 have aW:a.filter (fun p=>decide (cw p.1 k))=a:=yj.2 fun p a6=>jB (h p a6)
 have bq:a.filter (fun p=>decide (cw k p.1))=[]:=HH.2 fun p a6=>by simpa using yu (h p a6)
 unfold nB
 rw[yk,yk,aW,bq,uW,d_]
theorem H0 (a b:List bo) (k:Key):mc (a++b) k=mc a k++mc b k:=yk ..
theorem Lr {a:List bo} {k:Key} (h:∀p∈a,p.1≠k):mc a k=a:=yj.2 fun p a6=>jB (h p a6)
theorem AJ {a b:Key} (h:cw a b):a≠b:=fun e=>yt b (e▸h)
theorem H2 {a b:List bo}:o7 (a++b)↔o7 a∧o7 b∧∀p∈a,∀q∈b,cw p.1 q.1:=AB
theorem Vk {l:List bo} {k v:Key} {p:bo}:p∈nB l k v↔p=(k,v)∨(p∈l∧p.1≠k):=by
 unfold nB
 rw[eH,fP,C2,C2,fY,fY]
 constructor
 · rintro (⟨h,ab⟩|rfl|⟨h,ab⟩)
   · exact .inr ⟨h,AJ ab⟩
   · exact .inl rfl
   · exact .inr ⟨h,(AJ ab).symm⟩
 · rintro (rfl|⟨h,ab⟩)
   · exact .inr (.inl rfl)
   · rcases Pb p.1 k with ao|ao|ao
     · exact .inl ⟨h,ao⟩
     · exact absurd ao ab
     · exact .inr (.inr ⟨h,ao⟩)
end Go.Proofs.YtplieiecebljmaaGreat
namespace Go.Proofs.YtplieiecebljmaaGreat
structure aL where
 leaf:Bool
 keys:List Key
 vals:List Key
 kids:List Nat
 deriving DecidableEq
abbrev Below:=Option Key→Option Key→Nat→List Nat→List bo→Prop
inductive fQ (W:Below):Option Key→Option Key→List Key→List Nat→List Nat→List bo→Prop
 |one {lo hi:Option Key} {k:Nat} {p:List Nat} {L:List bo} (h:W lo hi k p L):fQ W lo hi [] [k] p L
 |cons {lo hi:Option Key} {s:Key} {k:Nat} {cg cc:List Nat} {bM b8:List bo} {ks:List Key} {kids:List Nat} (h:W lo (some s) k cg bM) (t:fQ W (some s) hi ks kids cc b8):
     fQ W lo hi (s::ks) (k::kids) (cg++cc) (bM++b8)
variable {W:Below} {lo hi:Option Key}
theorem fQ.len {ks:List Key} {kids p:List Nat} {L:List bo} (h:fQ W lo hi ks kids p L):kids.length=ks.length+1:=by
 induction h with
 |one _=>rfl
 |cons _ _ c1=>simp[c1]
theorem fQ.app {s:Key} {pA tG:List Key} {qf wQ cg cc:List Nat} {bM b8:List bo} (U:fQ W lo (some s) pA qf cg bM) (ab:fQ W (some s) hi tG wQ cc b8):
   fQ W lo hi (pA++s::tG) (qf++wQ) (cg++cc) (bM++b8):=by
 generalize hm:some s=m at U
 induction U with
 |one h=>subst hm;exact .cons h ab
 |cons h t c1=>
   rw[d_,d_]
   exact .cons h (c1 hm)
theorem fQ.cut:∀ {pA:List Key} {s:Key} {tG:List Key} {lo:Option Key} {kids p:List Nat} {L:List bo},fQ W lo hi (pA++s::tG) kids p L→
   ∃ (qf wQ cg cc:List Nat) (bM b8:List bo),kids=qf++wQ∧p=cg++cc∧L=bM++b8∧fQ W lo (some s) pA qf cg bM∧fQ W (some s) hi tG wQ cc b8
 | [],s,tG,lo,kids,p,L,h=>by
   cases h with
   |cons h t=>exact ⟨_,_,_,_,_,_,rfl,rfl,rfl, .one h,t⟩
 |a::pA,s,tG,lo,kids,p,L,h=>by
   cases h with
   |cons h t=>
     obtain ⟨ej,eO,cg,cc,bM,b8,rfl,rfl,rfl,U,ab⟩:=fQ.cut t
     exact ⟨_::ej,eO,_++cg,cc,_++bM,b8,rfl,by rw[d_],by rw[d_], .cons h U,ab⟩
theorem fQ.mono {V:Below} {ks:List Key} {kids p:List Nat} {L:List bo} (h:fQ W lo hi ks kids p L) (hm:∀lo hi k p L,(∀x∈p,x∈p)→W lo hi k p L→V lo hi k p L):fQ V lo hi ks kids p L:=by
 induction h with
 |one h=>exact .one (hm _ _ _ _ _ (fun _ h=>h) h)
 |cons h _ c1=>exact .cons (hm _ _ _ _ _ (fun _ h=>h) h) c1
theorem fQ.wR {V:Below} {ks:List Key} {kids p:List Nat} {L:List bo} (h:fQ W lo hi ks kids p L) (hm:∀lo hi k eg L,(∀x∈eg,x∈p)→W lo hi k eg L→V lo hi k eg L):fQ V lo hi ks kids p L:=by
 induction h with
 |one h=>exact .one (hm _ _ _ _ _ (fun _ h=>h) h)
 |cons h _ c1=>
   exact .cons (hm _ _ _ _ _ (fun x af=>sq _ af) h) (c1 fun lo hi k eg L aj=>hm lo hi k eg L fun x af=>o5 _ (aj x af))
def eV (k:Key):Prop:=1≤k.length∧k.length≤24
structure Ls (n:aL):Prop where
 ok:∀k∈n.keys,eV k
 jk:n.keys.Pairwise cw
structure m_ (n:aL):Prop extends Ls n where
 leaf:n.leaf=true
 len:n.vals.length=n.keys.length
 kids:n.kids=[]
 vals:∀v∈n.vals,v.length≤24
structure Lt (n:aL):Prop extends Ls n where
 inner:n.leaf=false
 some:n.keys≠ []
 len:n.kids.length=n.keys.length+1
 vals:n.vals=[]
 kids:∀k∈n.kids,k<1600
def aL.fZ (n:aL):List bo:=n.keys.zip n.vals
def aL.within (n:aL) (lo hi:Option Key):Prop:=∀k∈n.keys,jT lo hi k
def gJ (P:Nat→Option aL):Nat→Below
 |0=>fun _ _ _ _ _=>False
 |1=>fun lo hi no p L=>∃n,P no=some n∧m_ n∧n.within lo hi∧n.keys≠ []∧p=[no]∧L=n.fZ
 |h+2=>fun lo hi no p L=>∃n eg,P no=some n∧Lt n∧n.within lo hi∧p=no::eg∧
     fQ (fun lo hi k p L=>gJ P (h+1) lo hi k p L∧∃m,P k=some m∧2≤m.keys.length) lo hi n.keys n.kids eg L
theorem gJ.agree {P Q:Nat→Option aL}:∀ {h:Nat} {lo hi:Option Key} {no:Nat} {p:List Nat} {L:List bo},gJ P h lo hi no p L→(∀x∈p,P x=Q x)→gJ Q h lo hi no p L∧no∈p
 |0,_,_,_,_,_,hw,_=>hw.elim
 |1,_,_,no,_,_,⟨n,U,ab,ao,aG,aV,b_⟩,J=>by
   have hm:no∈ [no]:=by simp
   rw[aV]
   exact ⟨⟨n,by rw[←J no (by rw[aV];exact hm)];exact U,ab,ao,aG,rfl,b_⟩,hm⟩
 |h+2,_,_,no,_,_,⟨n,eg,U,ab,ao,aG,aV⟩,J=>by
   subst aG
   refine ⟨⟨n,eg,by rw[←J no (by simp)];exact U,ab,ao,rfl,aV.wR fun lo hi k q L aj ⟨hw,m,hm,ab⟩=> ?_⟩,by simp⟩
   have:=gJ.agree hw fun x af=>J x (rn _ (aj x af))
   exact ⟨this.1,m,by rw[←J k (rn _ (aj k this.2))];exact hm,ab⟩
end Go.Proofs.YtplieiecebljmaaGreat
namespace Go.Proofs.YtplieiecebljmaaGreat
variable {W:Below} {lo hi:Option Key} {P:Nat→Option aL}
theorem aec {lo hi:Option Key} {s k:Key} (U:jT lo (some s) k) (ab:jT lo hi s):jT lo hi k:=
 ⟨U.1,fun b aa=>yr (U.2 s rfl) (ab.2 b aa)⟩
theorem aed {lo hi:Option Key} {s k:Key} (U:jT (some s) hi k) (ab:jT lo hi s):jT lo hi k:=
 ⟨fun a aT=>Vj (ab.1 a aT) (U.1 s rfl),U.2⟩
theorem fQ.jk {ks:List Key} {kids p:List Nat} {L:List bo} (h:fQ W lo hi ks kids p L) (c9:∀lo hi k p L,W lo hi k p L→o7 L∧∀q∈L,jT lo hi q.1) (ae:ks.Pairwise cw) (aa:∀s∈ks,jT lo hi s):
   o7 L∧∀q∈L,jT lo hi q.1:=by
 induction h with
 |one h=>exact c9 _ _ _ _ _ h
 | @cons lo hi s k cg cc bM b8 ks kids h t c1=>
   obtain ⟨bL,c5⟩:=c9 _ _ _ _ _ h
   have ry:=rp.1 ae
   obtain ⟨ar,cA⟩:=c1 ry.2 fun x af=>⟨fun a aT=>by cases aT;exact pz (ry.1 x af),(aa x (rn _ af)).2⟩
   have aj:=aa s List.mem_cons_self
   refine ⟨H2.2 ⟨bL,ar,fun x af y b1=>AI ((c5 x af).2 s rfl) ((cA y b1).1 s rfl)⟩,fun q J=> ?_⟩
   rcases eH.1 J with J|J
   · exact aec (c5 q J) aj
   · exact aed (cA q J) aj
theorem Vl:∀ {ks vs:List Key},ks.Pairwise cw→o7 (ks.zip vs)
 | [],vs,_=>by rw[List.zip_nil_left];exact List.Pairwise.nil
 |k::ks,[],_=>by rw[List.zip_nil_right];exact List.Pairwise.nil
 |k::ks,v::vs,h=>by
   rw[List.zip_cons_cons]
   have:=rp.1 h
   exact rp.2 ⟨fun q J=>this.1 _ (HI J).1,Vl this.2⟩
theorem m_.fZ {n:aL} (h:m_ n):o7 n.fZ∧n.fZ.length=n.keys.length:=⟨Vl h.jk,by unfold aL.fZ;rw[AD,h.len,Nat.min_self]⟩
theorem gJ.jk:∀ {h:Nat} {lo hi:Option Key} {no:Nat} {p:List Nat} {L:List bo},gJ P h lo hi no p L→o7 L∧∀q∈L,jT lo hi q.1
 |0,_,_,_,_,_,hw=>hw.elim
 |1,_,_,_,_,_,⟨n,_,ab,ao,_,_,b_⟩=>by
   subst b_
   exact ⟨ab.fZ.1,fun q J=>ao _ (HI J).1⟩
 |h+2,_,_,_,_,_,⟨n,_,_,ab,ao,_,aV⟩=>aV.jk (fun _ _ _ _ _ hw=>gJ.jk hw.1) ab.jk ao
theorem fQ.count {ks:List Key} {kids p:List Nat} {L:List bo} (h:fQ W lo hi ks kids p L) {c:Nat} (c9:∀lo hi k p L,W lo hi k p L→p.length+1≤L.length∧c≤L.length):
   p.length+kids.length≤L.length∧c*kids.length≤L.length:=by
 induction h with
 |one h=>have:=c9 _ _ _ _ _ h;simp;omega
 |cons h _ c1=>
   have:=c9 _ _ _ _ _ h
   simp only[dA,iV,Nat.mul_add,lp]
   omega
theorem gJ.count:∀ {h:Nat} {lo hi:Option Key} {no:Nat} {p:List Nat} {L:List bo},gJ P h lo hi no p L→((∃m,P no=some m∧2≤m.keys.length)∨2≤h)→p.length+1≤L.length∧2^h≤L.length
 |0,_,_,_,_,_,hw,_=>hw.elim
 |1,_,_,_,_,_,⟨n,U,ab,_,_,aV,b_⟩,hm=>by
   rcases hm with ⟨m,e,hm⟩|hm
   · rw[U] at e
     cases e
     subst aV b_
     have:=ab.fZ.2
     simp only[qP];omega
   · omega
 |h+2,_,_,_,_,_,⟨n,eg,_,ab,_,aG,aV⟩,_=>by
   have al:=aV.count (c:=2^(h+1)) fun lo hi k p L ⟨hw,hm⟩=>gJ.count hw (.inl hm)
   have aA:=ab.len
   have aj:1≤n.keys.length:=List.length_pos_iff.2 ab.some
   subst aG
   have:2^(h+1)*2≤2^(h+1)*n.kids.length:=HJ _ (by omega)
   rw[Nat.pow_succ 2 (h+1)]
   simp only[iV]
   omega
theorem gJ.pages {h:Nat} {lo hi:Option Key} {no:Nat} {p:List Nat} {L:List bo} (hw:gJ P h lo hi no p L):p.length≤L.length∧1≤L.length∧(2≤h→2^h≤L.length):=by
 match h with
 |0=>exact hw.elim
 |1=>
   obtain ⟨n,U,ab,_,aG,aV,b_⟩:=hw
   subst aV b_
   have:=ab.fZ.2
   have hY:=List.length_pos_iff.2 aG
   simp only[qP]
   exact ⟨by omega,by omega,by omega⟩
 |h+2=>
   have:=gJ.count hw (.inr (by omega))
   exact ⟨by omega,by omega,fun _=>this.2⟩
end Go.Proofs.YtplieiecebljmaaGreat
namespace Go.Proofs.YtplieiecebljmaaGreat
variable {W V:Below} {lo hi:Option Key}
inductive j6 (W:Below) (lo:Option Key):Option Key→List Key→List Nat→List Nat→List bo→Prop
 |nil:j6 W lo lo [] [] [] []
 |more {s:Key} {ks:List Key} {kids p:List Nat} {L:List bo} (h:fQ W lo (some s) ks kids p L):j6 W lo (some s) (ks++ [s]) kids p L
inductive mw (W:Below) (hi:Option Key):Option Key→List Key→List Nat→List Nat→List bo→Prop
 |nil:mw W hi hi [] [] [] []
 |more {s:Key} {ks:List Key} {kids p:List Nat} {L:List bo} (h:fQ W (some s) hi ks kids p L):mw W hi (some s) (s::ks) kids p L
variable {m:Option Key} {pA tG:List Key} {qf wQ cg cc:List Nat} {bM b8:List bo}
theorem j6.aee (U:j6 W lo m pA qf cg bM) (ab:fQ W m hi tG wQ cc b8):fQ W lo hi (pA++tG) (qf++wQ) (cg++cc) (bM++b8):=by
 cases U with
 |nil=>exact ab
 |more h=>rw[d_];exact h.app ab
theorem fQ.post (U:fQ W lo m pA qf cg bM) (ab:mw W hi m tG wQ cc b8):fQ W lo hi (pA++tG) (qf++wQ) (cg++cc) (bM++b8):=by
 cases ab with
 |nil=>simpa using U
 |more h=>exact U.app h
theorem j6.cons {s:Key} {k:Nat} {p:List Nat} {L:List bo} (h:W lo (some s) k p L) (t:j6 W (some s) m pA qf cg bM):j6 W lo m (s::pA) (k::qf) (p++cg) (L++bM):=by
 cases t with
 |nil=>rw[lM,lM];exact j6.more (ks:=[]) (.one h)
 |more t=>exact j6.more (ks:=s::_) (.cons h t)
theorem j6.wR (h:j6 W lo m pA qf cg bM) (hm:∀lo hi k eg L,(∀x∈eg,x∈cg)→W lo hi k eg L→V lo hi k eg L):j6 V lo m pA qf cg bM:=by
 cases h with
 |nil=>exact .nil
 |more h=>exact .more (h.wR hm)
theorem mw.wR (h:mw W hi m pA qf cg bM) (hm:∀lo hi k eg L,(∀x∈eg,x∈cg)→W lo hi k eg L→V lo hi k eg L):mw V hi m pA qf cg bM:=by
 cases h with
 |nil=>exact .nil
 |more h=>exact .more (h.wR hm)
theorem fQ.at {ks:List Key} {kids p:List Nat} {L:List bo} (h:fQ W lo hi ks kids p L):∀ (i:Nat) (ae:i<kids.length),∃ (gr eP:Option Key) (cg q cc:List Nat) (bM M b8:List bo),
   p=cg++(q++cc)∧L=bM++(M++b8)∧W gr eP kids[i] q M∧j6 W lo gr (ks.take i) (kids.take i) cg bM∧mw W hi eP (ks.drop i) (kids.drop (i+1)) cc b8:=by
 induction h with
 | @one lo hi k p L h=>
   intro i ae
   have:i=0:=by simp at ae;omega
   subst this
   exact ⟨lo,hi,[],p,[],[],L,[],by simp,by simp,h, .nil, .nil⟩
 | @cons lo hi s k cg cc bM b8 ks kids h t c1=>
   intro i ae
   cases i with
   |zero=>exact ⟨lo,some s,[],cg,cc,[],bM,b8,rfl,rfl,h, .nil, .more t⟩
   |succ i=>
     obtain ⟨gr,eP,a,q,b,A,M,B,rfl,rfl,U,ab,ao⟩:=c1 i (by simpa using ae)
     exact ⟨gr,eP,cg++a,q,b,bM++A,M,B,by rw[d_],by rw[d_],U,j6.cons h ab,ao⟩
theorem j6.inv {kids p:List Nat} {L:List bo} (h:j6 W lo m [] kids p L):m=lo∧kids=[]∧p=[]∧L=[]:=by
 generalize e:([]:List Key)=K at h
 cases h with
 |nil=>exact ⟨rfl,rfl,rfl,rfl⟩
 |more h=>simp at e
theorem mw.head {ks:List Key} {kids p:List Nat} {L:List bo} (h:mw W hi m ks kids p L) (ae:0<kids.length):∃ (s:Key) (eP:Option Key) (q cc:List Nat) (M b8:List bo) (aj:0<ks.length),
   m=some s∧s=ks[0]∧p=q++cc∧L=M++b8∧W (some s) eP (kids[0]) q M∧mw W hi eP (ks.drop 1) (kids.drop 1) cc b8:=by
 cases h with
 |nil=>simp at ae
 | @more s ks kids p L h=>
   obtain ⟨gr,eP,cg,q,cc,bM,M,b8,rfl,rfl,U,ab,ao⟩:=h.at 0 ae
   rw[List.take_zero] at ab
   obtain ⟨rfl,_,rfl,rfl⟩:=ab.inv
   exact ⟨s,eP,q,cc,M,b8,by simp,rfl,rfl,rfl,rfl,U,by simpa using ao⟩
end Go.Proofs.YtplieiecebljmaaGreat
namespace Go.Proofs.YtplieiecebljmaaGreat
variable {W V:Below} {lo hi m:Option Key}
def fi (ks:List Key) (k:Key):Nat:=ks.findIdx fun s=>decide (cw k s)
theorem Lu (ks:List Key) (k:Key):fi ks k≤ks.length:=List.findIdx_le_length
theorem aef {ks:List Key} {k:Key} {i:Nat} (h:i<fi ks k) (hi:i<ks.length):g7 ks[i] k:=by
 have:=List.not_of_lt_findIdx h
 exact Vi.1 (by simpa using this)
theorem aeg {ks:List Key} {k:Key} (h:fi ks k<ks.length):cw k ks[fi ks k]:=by
 have:=List.findIdx_getElem (p:=fun s=>decide (cw k s)) (xs:=ks) (w:=h)
 exact di this
theorem j6.aeh {i:Nat} {ks:List Key} {kids p:List Nat} {L:List bo} (h:j6 W lo m (ks.take i) kids p L) {k:Key} (aA:∀ (j:Nat) (aU:j<ks.length),j<i→g7 ks[j] k) (ae:∀a,lo=some a→g7 a k):∀a,m=some a→g7 a k:=by
 generalize e:ks.take i=K at h
 cases h with
 |nil=>exact ae
 | @more s Pc kids p L h=>
   intro a aT
   cases aT
   have hm:s∈ks.take i:=by rw[e];simp
   obtain ⟨j,aU,rfl⟩:=List.mem_take_iff_getElem.1 hm
   exact aA j (by omega) (by omega)
theorem mw.aei {i:Nat} {ks:List Key} {kids p:List Nat} {L:List bo} (h:mw W hi m (ks.drop i) kids p L) {k:Key} (aA:∀ (h:i<ks.length),cw k ks[i]) (ae:∀a,hi=some a→cw k a):∀a,m=some a→cw k a:=by
 generalize e:ks.drop i=K at h
 cases h with
 |nil=>exact ae
 | @more s Pc kids p L h=>
   intro a aT
   cases aT
   have a_:i<ks.length:=by
     have:=congrArg List.length e
     simp at this;omega
   have:ks[i]=s:=by
     have:=yl a_
     rw[e] at this
     exact (List.cons.inj this).1.symm
   rw[←this];exact aA a_
theorem j6.below {ks:List Key} {kids p:List Nat} {L:List bo} (h:j6 W lo m ks kids p L) (c9:∀lo hi k p L,W lo hi k p L→o7 L∧∀q∈L,jT lo hi q.1) (ae:ks.Pairwise cw) (aa:∀s∈ks,jT lo hi s)
   {k:Key} (hm:∀a,m=some a→g7 a k):∀q∈L,cw q.1 k:=by
 cases h with
 |nil=>intro q J;cases J
 | @more s Pc kids p L h=>
   have iW:=AB.1 ae
   have:=h.jk c9 iW.1 fun x af=>⟨(aa x (by simp[af])).1,fun b aa=>by cases aa;exact iW.2.2 x af s (by simp)⟩
   exact fun q J=>AI ((this.2 q J).2 s rfl) (hm s rfl)
theorem mw.aej {ks:List Key} {kids p:List Nat} {L:List bo} (h:mw W hi m ks kids p L) (c9:∀lo hi k p L,W lo hi k p L→o7 L∧∀q∈L,jT lo hi q.1) (ae:ks.Pairwise cw) (aa:∀s∈ks,jT lo hi s)
   {k:Key} (hm:∀a,m=some a→cw k a):∀q∈L,cw k q.1:=by
 cases h with
 |nil=>intro q J;cases J
 | @more s Pc kids p L h=>
   have iW:=rp.1 ae
   have:=h.jk c9 iW.2 fun x af=>⟨fun a aT=>by cases aT;exact pz (iW.1 x af),(aa x (by simp[af])).2⟩
   exact fun q J=>AI (hm s rfl) ((this.2 q J).1 s rfl)
def Loc (k:Key) (u:List bo→List bo):Prop:=∀bM M b8:List bo,(∀p∈bM,cw p.1 k)→(∀p∈b8,cw k p.1)→u (bM++(M++b8))=bM++(u M++b8)
theorem aek (k v:Key):Loc k fun L=>nB L k v:=fun bM M b8 U ab=>by
 show nB _ _ _=_
 rw[aeb U,aea ab]
theorem Pd (k:Key):Loc k fun L=>mc L k:=fun bM M b8 U ab=>by
 show mc _ _=_
 rw[H0,H0,Lr fun p a6=>AJ (U p a6),Lr fun p a6=>(AJ (ab p a6)).symm]
end Go.Proofs.YtplieiecebljmaaGreat
namespace Go.Proofs.YtplieiecebljmaaGreat
variable {W V:Below} {lo hi m:Option Key} {P Q:Nat→Option aL}
def jU (P:Nat→Option aL) (h:Nat):Below:=fun lo hi k p L=>gJ P h lo hi k p L∧∃m,P k=some m∧2≤m.keys.length
theorem jU.agree {h no:Nat} {p:List Nat} {L:List bo} (hw:jU P h lo hi no p L) (J:∀x∈p,P x=Q x):jU Q h lo hi no p L:=by
 obtain ⟨U,m,ab,ao⟩:=hw
 have:=U.agree J
 exact ⟨this.1,m,by rw[←J no this.2];exact ab,ao⟩
theorem ael {α:Type} {l:List α} (h:1≤l.length):l≠ []:=fun e=>by subst e;simp at h
theorem jU.in {h no:Nat} {p:List Nat} {L:List bo} (hw:jU P h lo hi no p L):L≠ []∧o7 L∧∀q∈L,jT lo hi q.1:=⟨ael hw.1.pages.2.1,hw.1.jk⟩
theorem fQ.sorted {ks:List Key} {kids p:List Nat} {L:List bo} (h:fQ W lo hi ks kids p L) (c9:∀lo hi k p L,W lo hi k p L→L≠ []∧o7 L∧∀q∈L,jT lo hi q.1):
   L≠ []∧(∀q∈L,jT lo hi q.1)∧ks.Pairwise cw∧∀s∈ks,(∀a,lo=some a→cw a s)∧∀b,hi=some b→cw s b:=by
 induction h with
 |one h=>exact ⟨(c9 _ _ _ _ _ h).1,(c9 _ _ _ _ _ h).2.2, .nil,by simp⟩
 | @cons lo hi s k cg cc bM b8 ks kids h t c1=>
   obtain ⟨c_,_,c5⟩:=c9 _ _ _ _ _ h
   obtain ⟨cZ,cA,ar,aw⟩:=c1
   obtain ⟨x,af⟩:=HK _ c_
   obtain ⟨y,b1⟩:=HK _ cZ
   have km:∀a,lo=some a→cw a s:=fun a aT=>sv ((c5 x af).1 a aT) ((c5 x af).2 s rfl)
   have me:∀b,hi=some b→cw s b:=fun b aa=>sv ((cA y b1).1 s rfl) ((cA y b1).2 b aa)
   refine ⟨by simp[c_],fun q J=> ?_,rp.2 ⟨fun z bD=>(aw z bD).1 s rfl,ar⟩,fun z bD=> ?_⟩
   · rcases eH.1 J with J|J
     · exact ⟨(c5 q J).1,fun b aa=>yr ((c5 q J).2 s rfl) (me b aa)⟩
     · exact ⟨fun a aT=>pz (AI (km a aT) ((cA q J).1 s rfl)),(cA q J).2⟩
   · rcases fP.1 bD with rfl|bD
     · exact ⟨km,me⟩
     · exact ⟨fun a aT=>yr (km a aT) ((aw z bD).1 s rfl),(aw z bD).2⟩
def fb (P:Nat→Option aL):Nat→aL→Option Key→Option Key→List Nat→List bo→Prop
 |0,_,_,_,_,_=>False
 |1,n,lo,hi,p,L=>m_ n∧n.within lo hi∧p=[]∧L=n.fZ
 |h+2,n,lo,hi,p,L=>n.leaf=false∧n.vals=[]∧(∀k∈n.keys,eV k)∧(∀k∈n.kids,k<1600)∧fQ (jU P (h+1)) lo hi n.keys n.kids p L
theorem fb.agree:∀ {h:Nat} {n:aL} {p:List Nat} {L:List bo},fb P h n lo hi p L→(∀x∈p,P x=Q x)→fb Q h n lo hi p L
 |0,_,_,_,h,_=>h.elim
 |1,_,_,_,h,_=>h
 |_+2,_,_,_,⟨U,ab,ao,aG,aV⟩,J=>⟨U,ab,ao,aG,aV.wR fun _ _ _ _ _ aj hw=>hw.agree fun x af=>J x (aj x af)⟩
theorem fb.lay:∀ {h:Nat} {n:aL} {x:Nat} {p:List Nat} {L:List bo},fb P h n lo hi p L→n.keys≠ []→Q x=some n→(∀y∈p,P y=Q y)→gJ Q h lo hi x (x::p) L
 |0,_,_,_,_,h,_,_,_=>h.elim
 |1,n,x,p,L,⟨U,ab,ao,aG⟩,ae,af,_=>by
   subst ao
   exact ⟨n,af,U,ab,ae,rfl,aG⟩
 |h+2,n,x,p,L,ak,ae,af,J=>by
   obtain ⟨U,ab,ao,aG,aV⟩:=ak.agree J
   have aj:=aV.sorted fun _ _ _ _ _ hw=>hw.in
   exact ⟨n,p,af,⟨⟨ao,aj.2.2.1⟩,U,ae,aV.len,ab,aG⟩,fun s me=>⟨fun a aT=>pz ((aj.2.2.2 s me).1 a aT),(aj.2.2.2 s me).2⟩,rfl,aV⟩
def aL.left (n:aL) (i:Nat):aL:=if n.leaf then ⟨true,n.keys.take i,n.vals.take i,[]⟩ else ⟨false,n.keys.take i,[],n.kids.take (i+1)⟩
def aL.right (n:aL) (i:Nat):aL:=if n.leaf then ⟨true,n.keys.drop i,n.vals.drop i,[]⟩ else ⟨false,n.keys.drop (i+1),[],n.kids.drop (i+1)⟩
theorem fb.leaf {h:Nat} {n:aL} {p:List Nat} {L:List bo} (ak:fb P h n lo hi p L):n.leaf=decide (h=1):=by
 match h,ak with
 |0,ak=>exact ak.elim
 |1,ak=>rw[ak.1.leaf];rfl
 |h+2,ak=>rw[ak.1];simp
theorem fb.Pe {h:Nat} {n:aL} {p:List Nat} {L:List bo} (ak:fb P h n lo hi p L) {i:Nat} (U:1≤i) (e2:i<n.keys.length):
   ∃ (cg cc:List Nat) (bM b8:List bo),p=cg++cc∧L=bM++b8∧fb P h (n.left i) lo (some n.keys[i]) cg bM∧fb P h (n.right i) (some n.keys[i]) hi cc b8:=by
 match h,ak with
 |0,ak=>exact ak.elim
 |1,⟨a,b,c,d⟩=>
   subst c d
   have aQ:=a.jk
   have pB:n.keys=n.keys.take i++n.keys.drop i:=(qd _ _).symm
   have fz:=aQ
   rw[pB] at fz
   obtain ⟨bL,ar,bJ⟩:=AB.1 fz
   have hd:n.keys.drop i=n.keys[i]::n.keys.drop (i+1):=yl e2
   have aI:n.left i=⟨true,n.keys.take i,n.vals.take i,[]⟩:=by unfold aL.left;rw[a.leaf];rfl
   have bg:n.right i=⟨true,n.keys.drop i,n.vals.drop i,[]⟩:=by unfold aL.right;rw[a.leaf];rfl
   rw[aI,bg]
   refine ⟨[],[],n.fZ.take i,n.fZ.drop i,rfl,(qd _ _).symm,⟨⟨⟨fun k ae=>a.ok k (jR ae),bL⟩,rfl,by simp[a.len],rfl,fun v ak=>a.vals v (jR ak)⟩,fun k ae=>⟨(b k (jR ae)).1,fun s aj=> ?_⟩,rfl,?_⟩,
     ⟨⟨⟨fun k ae=>a.ok k (jC ae),ar⟩,rfl,by simp[a.len],rfl,fun v ak=>a.vals v (jC ak)⟩,fun k ae=>⟨fun s aj=> ?_,(b k (jC ae)).2⟩,rfl,?_⟩⟩
   · cases aj
     exact bJ k ae _ (by rw[hd];exact List.mem_cons_self)
   · exact List.take_zipWith
   · cases aj
     have ae:k∈n.keys.drop i:=ae
     rw[hd] at ae ar
     rcases fP.1 ae with rfl|ae
     · exact Vh _
     · exact pz ((rp.1 ar).1 k ae)
   · exact List.drop_zipWith
 |h+2,⟨a,b,c,d,e⟩=>
   have aI:n.left i=⟨false,n.keys.take i,[],n.kids.take (i+1)⟩:=by unfold aL.left;rw[a];rfl
   have bg:n.right i=⟨false,n.keys.drop (i+1),[],n.kids.drop (i+1)⟩:=by unfold aL.right;rw[a];rfl
   have pB:n.keys=n.keys.take i++n.keys[i]::n.keys.drop (i+1):=by rw[←yl e2,qd]
   rw[pB] at e
   obtain ⟨ej,eO,cg,cc,bM,b8,aW,rfl,rfl,s1,s2⟩:=e.cut
   have aA:=s1.len
   rw[eA,sr (by omega)] at aA
   have aem:n.kids.take (i+1)=ej:=by rw[aW,←aA,List.take_left]
   have aen:n.kids.drop (i+1)=eO:=by rw[aW,←aA,List.drop_left]
   rw[aI,bg,aem,aen]
   exact ⟨cg,cc,bM,b8,rfl,rfl,⟨rfl,rfl,fun k ae=>c k (jR ae),fun k ae=>d k (by rw[aW];simp[ae]),s1⟩,⟨rfl,rfl,fun k ae=>c k (jC ae),fun k ae=>d k (by rw[aW];simp[ae]),s2⟩⟩
end Go.Proofs.YtplieiecebljmaaGreat
namespace Go.Proofs.YtplieiecebljmaaGreat
variable {lo hi:Option Key} {P Q:Nat→Option aL}
def gu (a:aL) (s:Key) (b:aL):aL:=if a.leaf then ⟨true,a.keys++b.keys,a.vals++b.vals,[]⟩ else ⟨false,a.keys++s::b.keys,[],a.kids++b.kids⟩
theorem De {a b c d:List Key} (h:a.length=c.length):(a++b).zip (c++d)=a.zip c++b.zip d:=List.zip_append h
theorem fb.merge {h:Nat} {a b:aL} {s:Key} {pa Lv:List Nat} {Lw Lx:List bo} (aT:fb P h a lo (some s) pa Lw) (aa:fb P h b (some s) hi Lv Lx) (aj:eV s) (aeo:∀k,lo=some k→g7 k s) (aep:∀k,hi=some k→g7 s k):
   fb P h (gu a s b) lo hi (pa++Lv) (Lw++Lx):=by
 match h,aT,aa with
 |0,aT,_=>exact aT.elim
 |1,⟨a8,cQ,a3,a4⟩,⟨c5,cA,ek,e9⟩=>
   subst a3 a4 ek e9
   have e:gu a s b=⟨true,a.keys++b.keys,a.vals++b.vals,[]⟩:=by unfold gu;rw[a8.leaf];rfl
   rw[e]
   refine ⟨⟨⟨fun k ae=> ?_,AB.2 ⟨a8.jk,c5.jk,fun x af y b1=>AI ((cQ x af).2 s rfl) ((cA y b1).1 s rfl)⟩⟩,rfl,by simp[a8.len,c5.len],rfl,fun v ak=> ?_⟩,fun k ae=> ?_,rfl,?_⟩
   · rcases eH.1 ae with ae|ae
     · exact a8.ok k ae
     · exact c5.ok k ae
   · rcases eH.1 ak with ak|ak
     · exact a8.vals v ak
     · exact c5.vals v ak
   · rcases eH.1 ae with ae|ae
     · exact ⟨(cQ k ae).1,fun c al=>AI ((cQ k ae).2 s rfl) (aep c al)⟩
     · exact ⟨fun c al=>Vj (aeo c al) ((cA k ae).1 s rfl),(cA k ae).2⟩
   · exact (De a8.len.symm).symm
 |h+2,⟨a8,cQ,a3,a4,a5⟩,⟨c5,cA,ek,e9,hL⟩=>
   have e:gu a s b=⟨false,a.keys++s::b.keys,[],a.kids++b.kids⟩:=by unfold gu;rw[a8];rfl
   rw[e]
   refine ⟨rfl,rfl,fun k ae=> ?_,fun k ae=> ?_,a5.app hL⟩
   · rcases eH.1 ae with ae|ae
     · exact a3 k ae
     · rcases fP.1 ae with rfl|ae
       · exact aj
       · exact ek k ae
   · rcases eH.1 ae with ae|ae
     · exact a4 k ae
     · exact e9 k ae
theorem gJ.uY {h no:Nat} {p:List Nat} {L:List bo} (hw:gJ P h lo hi no p L):∃n eg,P no=some n∧p=no::eg∧n.keys≠ []∧fb P h n lo hi eg L:=by
 match h,hw with
 |0,hw=>exact hw.elim
 |1,⟨n,U,ab,ao,aG,aV,b_⟩=>exact ⟨n,[],U,aV,aG,ab,ao,rfl,b_⟩
 |h+2,⟨n,eg,U,ab,ao,aG,aV⟩=>exact ⟨n,eg,U,aG,ab.some,ab.inner,ab.vals,ab.ok,ab.kids,aV⟩
def lq (n:aL) (fr to:Nat) (ks:List Key) (kids:List Nat):aL:=⟨false,n.keys.take fr++ks++n.keys.drop (to-1),[],n.kids.take fr++kids++n.kids.drop to⟩
end Go.Proofs.YtplieiecebljmaaGreat
namespace Go.Proofs.YtplieiecebljmaaGreat
def cellsOf (n:aL):List Nat:=if n.leaf then List.zipWith (fun k v=>2+k.length+v.length) n.keys n.vals else n.keys.map fun k=>3+k.length
def cd (n:aL):Nat:=(if n.leaf then 1 else 3)+(cellsOf n).sum
def mf (c:List Nat) (most:Nat):Nat:=match (List.range most).find? fun i=>decide (c.sum≤2*(c.take (i+1)).sum) with
 |some i=>i+1
 |none=>most
theorem AK {B:Nat}:∀ {l:List Nat},(∀x∈l,x≤B)→l.sum≤B*l.length
 | [],_=>by simp
 |a::l,h=>by
   have U:=h a (by simp)
   have ab:=AK (l:=l) fun x af=>h x (by simp[af])
   rw[HL,iV,Nat.mul_add,lp]
   omega
theorem Pf (l:List Nat) (i:Nat):(l.take i).sum+(l.drop i).sum=l.sum:=by
 rw[←wO,qd]
theorem Fs {l:List Nat} {i:Nat} (h:i<l.length):(l.take (i+1)).sum=(l.take i).sum+l[i]:=by
 rw[ss h,wO];simp
theorem Vm {c:List Nat} {most:Nat} (hm:1≤most) (aj:0<c.sum):1≤mf c most∧mf c most≤most∧2*(c.take (mf c most-1)).sum<c.sum∧(mf c most=most∨c.sum≤2*(c.take (mf c most)).sum):=by
 unfold mf
 cases h:(List.range most).find? fun i=>decide (c.sum≤2*(c.take (i+1)).sum) with
 |none=>
   have aD:=tz.1 h
   refine ⟨hm,cU _,?_, .inl rfl⟩
   by_cases U:most=1
   · subst U;simpa using aj
   · have:=aD (most-2) (tA.2 (by omega))
     have e:most-2+1=most-1:=by omega
     rw[e] at this
     simp at this
     exact this
 |some i=>
   have hi:i<most:=tA.1 (C3 h)
   have a6:=Fe h
   refine ⟨by simp,by simp;omega,?_, .inr (by simpa using a6)⟩
   show 2*(c.take (i+1-1)).sum<c.sum
   rw[Nat.add_sub_cancel]
   cases i with
   |zero=>simpa using aj
   |succ j=>
     have:=(List.find?_range_eq_some.1 h).2.2 j (by omega)
     simpa using this
theorem aeq {c:List Nat} (gK:∀x∈c,x≤50) (U:232≤c.sum) (ab:c.sum≤309):
   2≤mf c (c.length-1)∧mf c (c.length-1)+2≤c.length∧(c.take (mf c (c.length-1))).sum≤231∧(c.drop (mf c (c.length-1))).sum≤231:=by
 have aA:=AK gK
 have cK:=Vm (c:=c) (most:=c.length-1) (by omega) (by omega)
 generalize mf c (c.length-1)=i at cK⊢
 obtain ⟨a8,cQ,a3,a4⟩:=cK
 have aj:=Pf c i
 have ba:=Fs (l:=c) (i:=i-1) (by omega)
 rw[Nat.sub_add_cancel a8] at ba
 have al:=gK c[i-1] (eN _)
 have hd:=AK (l:=c.drop i) fun x af=>gK x (jC af)
 have ae:=AK (l:=c.take i) fun x af=>gK x (jR af)
 rw[fx] at hd
 rw[eA,sr (by omega)] at ae
 have key:c.sum≤2*(c.take i).sum:=by
   rcases a4 with h|h
   · have:c.length-i=1:=by omega
     rw[this] at hd
     omega
   · exact h
 refine ⟨by omega,?_,by omega,by omega⟩
 rcases g2 (c.length-i) 2 with h|h
 · have:c.length-i=1:=by omega
   rw[this] at hd;omega
 · omega
theorem aer {c:List Nat} (gK:∀x∈c,x≤27) (U:230≤c.sum) (ab:c.sum≤332):
   2≤mf c (c.length-2)∧mf c (c.length-2)+3≤c.length∧(c.take (mf c (c.length-2))).sum≤229∧(c.drop (mf c (c.length-2)+1)).sum≤229:=by
 have aA:=AK gK
 have cK:=Vm (c:=c) (most:=c.length-2) (by omega) (by omega)
 generalize mf c (c.length-2)=i at cK⊢
 obtain ⟨a8,cQ,a3,a4⟩:=cK
 have aj:=Pf c (i+1)
 have ba:=Fs (l:=c) (i:=i-1) (by omega)
 have hu:=Fs (l:=c) (i:=i) (by omega)
 rw[Nat.sub_add_cancel a8] at ba
 have al:=gK c[i-1] (eN _)
 have dB:=gK c[i] (eN _)
 have hd:=AK (l:=c.drop (i+1)) fun x af=>gK x (jC af)
 have ae:=AK (l:=c.take i) fun x af=>gK x (jR af)
 rw[fx] at hd
 rw[eA,sr (by omega)] at ae
 have key:c.sum≤2*(c.take i).sum:=by
   rcases a4 with h|h
   · have:c.length-(i+1)=1:=by omega
     rw[this] at hd
     omega
   · exact h
 refine ⟨by omega,?_,by omega,by omega⟩
 rcases g2 (c.length-(i+1)) 2 with h|h
 · have:c.length-(i+1)≤1:=by omega
   have:27*(c.length-(i+1))≤27*1:=HJ _ this
   omega
 · omega
end Go.Proofs.YtplieiecebljmaaGreat
namespace Go.Proofs.YtplieiecebljmaaGreat
variable {W:Below} {lo hi m:Option Key} {P Q:Nat→Option aL}
theorem mw.inv {kids p:List Nat} {L:List bo} (h:mw W hi m [] kids p L):m=hi∧kids=[]∧p=[]∧L=[]:=by
 generalize e:([]:List Key)=K at h
 cases h with
 |nil=>exact ⟨rfl,rfl,rfl,rfl⟩
 |more h=>simp at e
theorem j6.last {ks:List Key} {kids p:List Nat} {L:List bo} (h:j6 W lo m ks kids p L) (ae:0<kids.length):∃ (s:Key) (gr:Option Key) (cg r:List Nat) (bM N:List bo) (aj:0<ks.length),
   m=some s∧s=ks[ks.length-1]∧p=cg++r∧L=bM++N∧W gr (some s) (kids[kids.length-1]) r N∧j6 W lo gr (ks.take (ks.length-1)) (kids.take (kids.length-1)) cg bM∧kids.length=ks.length:=by
 cases h with
 |nil=>simp at ae
 | @more s ks kids p L h=>
   have aA:=h.len
   obtain ⟨gr,eP,cg,q,cc,bM,M,b8,rfl,rfl,U,ab,ao⟩:=h.at (kids.length-1) (by omega)
   rw[List.drop_of_length_le (by omega)] at ao
   obtain ⟨rfl,_,rfl,rfl⟩:=ao.inv
   refine ⟨s,gr,cg,q,bM,M,by simp,rfl,by simp,by simp,by simp,U,?_,by simp;omega⟩
   have e:(ks++ [s]).take ((ks++ [s]).length-1)=ks.take (kids.length-1):=by
     rw[aA];simp
   rw[e];exact ab
theorem fb.at {h:Nat} {n:aL} {p:List Nat} {L:List bo} (ak:fb P (h+2) n lo hi p L) {k:Key} (ae:jT lo hi k):∃ (gr eP:Option Key) (cg q cc:List Nat) (bM M b8:List bo) (aa:fi n.keys k<n.kids.length),
   p=cg++(q++cc)∧L=bM++(M++b8)∧jU P (h+1) gr eP n.kids[fi n.keys k] q M∧jT gr eP k∧(∀u,Loc k u→u L=bM++(u M++b8))∧n.kids.length=n.keys.length+1∧
   j6 (jU P (h+1)) lo gr (n.keys.take (fi n.keys k)) (n.kids.take (fi n.keys k)) cg bM∧mw (jU P (h+1)) hi eP (n.keys.drop (fi n.keys k)) (n.kids.drop (fi n.keys k+1)) cc b8:=by
 obtain ⟨a,b,c,d,e⟩:=ak
 have aA:=e.len
 have hle:=Lu n.keys k
 have aj:=e.sorted fun _ _ _ _ _ hw=>hw.in
 have eQ:∀s∈n.keys,jT lo hi s:=fun s h=>⟨fun a aT=>pz ((aj.2.2.2 s h).1 a aT),(aj.2.2.2 s h).2⟩
 obtain ⟨gr,eP,cg,q,cc,bM,M,b8,rfl,rfl,U,ab,ao⟩:=e.at (fi n.keys k) (by omega)
 have oz:=ab.aeh (k:=k) (fun j aU h=>aef h aU) ae.1
 have Ly:=ao.aei (k:=k) (fun h=>aeg h) ae.2
 have aes:(n.keys.take (fi n.keys k)).Pairwise cw:=aj.2.2.1.sublist (List.take_sublist _ _)
 have dN:(n.keys.drop (fi n.keys k)).Pairwise cw:=aj.2.2.1.sublist (List.drop_sublist _ _)
 exact ⟨gr,eP,cg,q,cc,bM,M,b8,by omega,rfl,rfl,U,⟨oz,Ly⟩,fun u hu=>hu _ _ _ (ab.below (hi:=hi) (fun _ _ _ _ _ hw=>hw.in.2) aes (fun s h=>eQ s (jR h)) oz) (ao.aej (lo:=lo) (fun _ _ _ _ _ hw=>hw.in.2) dN (fun s h=>eQ s (jC h)) Ly),
   aA,ab,ao⟩
theorem fb.build {h:Nat} {gr eP:Option Key} {yv wS ks:List Key} {Df Dg kids cg cc q:List Nat} {bM M b8:List bo} (U:j6 (jU P (h+1)) lo gr yv Df cg bM) (ab:mw (jU P (h+1)) hi eP wS Dg cc b8)
   (aj:fQ (jU Q (h+1)) gr eP ks kids q M) (J:∀x∈cg++cc,P x=Q x) (ae:∀s∈yv++ks++wS,eV s) (hd:∀x∈Df++kids++Dg,x<1600):
   fb Q (h+2) ⟨false,yv++ks++wS,[],Df++kids++Dg⟩ lo hi (cg++(q++cc)) (bM++(M++b8)):=by
 have aC:j6 (jU Q (h+1)) lo gr yv Df cg bM:=U.wR fun _ _ _ _ _ aj hw=>hw.agree fun x af=>J x (sq _ (aj x af))
 have aF:mw (jU Q (h+1)) hi eP wS Dg cc b8:=ab.wR fun _ _ _ _ _ aj hw=>hw.agree fun x af=>J x (o5 _ (aj x af))
 refine ⟨rfl,rfl,ae,hd,?_⟩
 show fQ _ lo hi (yv++ks++wS) (Df++kids++Dg) _ _
 rw[d_,d_]
 exact aC.aee (aj.post aF)
end Go.Proofs.YtplieiecebljmaaGreat
namespace Go.Proofs.YtplieiecebljmaaGreat
variable {lo hi:Option Key} {P Q:Nat→Option aL}
theorem fb.one {h x:Nat} {n:aL} {p:List Nat} {L:List bo} (ak:fb P h n lo hi p L) (ab:2≤n.keys.length) (af:Q x=some n) (J:∀y∈p,P y=Q y):fQ (jU Q h) lo hi [] [x] (x::p) L:=
 .one ⟨ak.lay (fun e=>by rw[e] at ab;simp at ab) af J,n,af,ab⟩
theorem uZ {n:aL} (h:n.leaf=true):cellsOf n=List.zipWith (fun k v=>2+k.length+v.length) n.keys n.vals:=by unfold cellsOf;rw[h];rfl
theorem u0 {n:aL} (h:n.leaf=false):cellsOf n=n.keys.map fun k=>3+k.length:=by unfold cellsOf;rw[h];rfl
theorem Pg {B:Nat} {f:Key→Key→Nat}:∀ {ks vs:List Key},(∀k∈ks,∀v∈vs,f k v≤B)→∀x∈List.zipWith f ks vs,x≤B
 | [],vs,_,x,af=>by simp at af
 |k::ks,[],_,x,af=>by simp at af
 |k::ks,v::vs,h,x,af=>by
   rw[List.zipWith_cons_cons] at af
   rcases fP.1 af with rfl|af
   · exact h k (by simp) v (by simp)
   · exact Pg (fun k ae v ak=>h k (by simp[ae]) v (by simp[ak])) x af
def c2 (n:aL):Nat:=mf (cellsOf n) (if n.leaf then n.keys.length-1 else n.keys.length-2)
theorem fb.two {h x y:Nat} {n:aL} {p:List Nat} {L:List bo} (ak:fb P h n lo hi p L) (U:232<cd n) (ab:n.leaf=true→cd n≤310) (ao:n.leaf=false→cd n≤335):
   1≤c2 n∧(if n.leaf then c2 n≤n.keys.length-1∧1≤n.keys.length-1 else c2 n≤n.keys.length-2∧1≤n.keys.length-2)∧cd (n.left (c2 n))≤232∧cd (n.right (c2 n))≤232∧
     ∃ (aa:c2 n<n.keys.length) (cg cc:List Nat) (bM b8:List bo),p=cg++cc∧L=bM++b8∧eV n.keys[c2 n]∧
       (Q x=some (n.left (c2 n))→Q y=some (n.right (c2 n))→(∀z∈p,P z=Q z)→fQ (jU Q h) lo hi [n.keys[c2 n]] [x,y] ((x::cg)++(y::cc)) (bM++b8)):=by
 have main:∀ (i:Nat),2≤i→(aG:i<n.keys.length)→2≤(n.left i).keys.length→2≤(n.right i).keys.length→∃ (aa:i<n.keys.length) (cg cc:List Nat) (bM b8:List bo),p=cg++cc∧L=bM++b8∧eV n.keys[i]∧
     (Q x=some (n.left i)→Q y=some (n.right i)→(∀z∈p,P z=Q z)→fQ (jU Q h) lo hi [n.keys[i]] [x,y] ((x::cg)++(y::cc)) (bM++b8)):=by
   intro i e2 qQ aA aQ
   obtain ⟨cg,cc,bM,b8,rfl,rfl,v1,v2⟩:=ak.Pe (by omega:1≤i) qQ
   have ij:eV n.keys[i]:=by
     match h,ak with
     |0,ak=>exact ak.elim
     |1,ak=>exact ak.1.ok _ (eN _)
     |h+2,ak=>exact ak.2.2.1 _ (eN _)
   refine ⟨qQ,cg,cc,bM,b8,rfl,rfl,ij,fun af b1 J=> ?_⟩
   have s1:=v1.one aA af fun z bD=>J z (sq _ bD)
   have s2:=v2.one aQ b1 fun z bD=>J z (o5 _ bD)
   exact s1.app s2
 match h,ak with
 |0,ak=>exact ak.elim
 |1,ak=>
   have c0:n.leaf=true:=ak.1.leaf
   have AL:(cellsOf n).length=n.keys.length:=by rw[uZ c0,List.length_zipWith,ak.1.len,Nat.min_self]
   have gK:∀c∈cellsOf n,c≤50:=by
     rw[uZ c0]
     exact Pg fun k ae v f_=>by have:=(ak.1.ok k ae).2;have:=ak.1.vals v f_;omega
   have aet:cd n=1+(cellsOf n).sum:=by unfold cd;rw[c0];rfl
   have ab:=ab c0
   obtain ⟨a8,cQ,a3,a4⟩:=aeq gK (by omega) (by omega)
   have Ph:c2 n=mf (cellsOf n) ((cellsOf n).length-1):=by unfold c2;rw[c0,AL];rfl
   rw[←Ph] at a8 cQ a3 a4
   have dq:n.left (c2 n)=⟨true,n.keys.take (c2 n),n.vals.take (c2 n),[]⟩:=by unfold aL.left;rw[c0];rfl
   have cR:n.right (c2 n)=⟨true,n.keys.drop (c2 n),n.vals.drop (c2 n),[]⟩:=by unfold aL.right;rw[c0];rfl
   have Pj:cellsOf (n.left (c2 n))=(cellsOf n).take (c2 n):=by rw[dq,uZ rfl,uZ c0];exact List.take_zipWith.symm
   have Pk:cellsOf (n.right (c2 n))=(cellsOf n).drop (c2 n):=by rw[cR,uZ rfl,uZ c0];exact List.drop_zipWith.symm
   refine ⟨by omega,by rw[c0];exact ⟨by omega,by omega⟩,?_,?_,main _ a8 (by omega) (by rw[dq];show 2≤(n.keys.take _).length;rw[eA];omega) (by rw[cR];show 2≤(n.keys.drop _).length;rw[fx];omega)⟩
   · unfold cd;rw[Pj,dq];show 1+_≤_;omega
   · unfold cd;rw[Pk,cR];show 1+_≤_;omega
 |h+2,ak=>
   have c0:n.leaf=false:=ak.1
   have AL:(cellsOf n).length=n.keys.length:=by rw[u0 c0,kR]
   have gK:∀c∈cellsOf n,c≤27:=by
     rw[u0 c0]
     intro c al
     obtain ⟨k,ae,rfl⟩:=nA.1 al
     have:=(ak.2.2.1 k ae).2;omega
   have aet:cd n=3+(cellsOf n).sum:=by unfold cd;rw[c0];rfl
   have ao:=ao c0
   obtain ⟨a8,cQ,a3,a4⟩:=aer gK (by omega) (by omega)
   have Ph:c2 n=mf (cellsOf n) ((cellsOf n).length-2):=by unfold c2;rw[c0,AL];rfl
   rw[←Ph] at a8 cQ a3 a4
   have dq:n.left (c2 n)=⟨false,n.keys.take (c2 n),[],n.kids.take (c2 n+1)⟩:=by unfold aL.left;rw[c0];rfl
   have cR:n.right (c2 n)=⟨false,n.keys.drop (c2 n+1),[],n.kids.drop (c2 n+1)⟩:=by unfold aL.right;rw[c0];rfl
   have Pj:cellsOf (n.left (c2 n))=(cellsOf n).take (c2 n):=by rw[dq,u0 rfl,u0 c0];exact C4
   have Pk:cellsOf (n.right (c2 n))=(cellsOf n).drop (c2 n+1):=by rw[cR,u0 rfl,u0 c0];exact Ff
   refine ⟨by omega,by rw[c0];exact ⟨by omega,by omega⟩,?_,?_,main _ a8 (by omega) (by rw[dq];show 2≤(n.keys.take _).length;rw[eA];omega) (by rw[cR];show 2≤(n.keys.drop _).length;rw[fx];omega)⟩
   · unfold cd;rw[Pj,dq];show 3+_≤_;omega
   · unfold cd;rw[Pk,cR];show 3+_≤_;omega
end Go.Proofs.YtplieiecebljmaaGreat
namespace Go.Proofs.YtplieiecebljmaaGreat
variable {lo hi:Option Key} {P Q:Nat→Option aL}
theorem fb.cells {h:Nat} {n:aL} {p:List Nat} {L:List bo} (ak:fb P h n lo hi p L):(cellsOf n).length=n.keys.length∧∀c∈cellsOf n,c≤if n.leaf then 50 else 27:=by
 match h,ak with
 |0,ak=>exact ak.elim
 |1,ak=>
   have c0:n.leaf=true:=ak.1.leaf
   rw[uZ c0,c0]
   exact ⟨by rw[List.length_zipWith,ak.1.len,Nat.min_self],Pg fun k ae v f_=>by have:=(ak.1.ok k ae).2;have:=ak.1.vals v f_;simp only[if_true];omega⟩
 |h+2,ak=>
   have c0:n.leaf=false:=ak.1
   rw[u0 c0,c0]
   refine ⟨by rw[kR],fun c al=> ?_⟩
   obtain ⟨k,ae,rfl⟩:=nA.1 al
   have:=(ak.2.2.1 k ae).2
   show 3+k.length≤27
   omega
theorem fb.Pl {h:Nat} {n:aL} {p:List Nat} {L:List bo} (ak:fb P h n lo hi p L) (aj:80≤cd n):2≤n.keys.length:=by
 obtain ⟨U,ab⟩:=ak.cells
 have:=AK ab
 rw[U] at this
 unfold cd at aj
 cases aA:n.leaf with
 |true=>rw[aA] at aj this;simp only[if_true] at aj this;omega
 |false=>rw[aA] at aj this;simp only[ox,if_false] at aj this;omega
theorem aeu {a b:aL} {s:Key} (h:a.leaf=b.leaf) (aT:a.leaf=true→a.vals.length=a.keys.length):cd (gu a s b)=if a.leaf then cd a+cd b-1 else cd a+cd b+s.length:=by
 cases aA:a.leaf with
 |true=>
   have e:gu a s b=⟨true,a.keys++b.keys,a.vals++b.vals,[]⟩:=by unfold gu;rw[aA];rfl
   have aa:b.leaf=true:=by rw[←h,aA]
   unfold cd
   rw[e,uZ rfl,uZ aA,uZ aa,aA,aa]
   simp only[if_true]
   rw[Fg (aT aA).symm,wO]
   omega
 |false=>
   have e:gu a s b=⟨false,a.keys++s::b.keys,[],a.kids++b.kids⟩:=by unfold gu;rw[aA];rfl
   have aa:b.leaf=false:=by rw[←h,aA]
   unfold cd
   rw[e,u0 rfl,u0 aA,u0 aa,aA,aa]
   simp only[ox,if_false,m9,tB,wO,HL]
   omega
def pC (ks:List Key):Nat:=(ks.map fun k=>3+k.length).sum
theorem Lz (a b:List Key):pC (a++b)=pC a+pC b:=by unfold pC;rw[m9,wO]
theorem Vn {n:aL} (h:n.leaf=false):cd n=3+pC n.keys:=by unfold cd pC;rw[h,u0 h];rfl
theorem aev (k:Key):pC [k]=3+k.length:=by simp[pC]
theorem Pm {n:aL} {ks:List Key} {kids:List Nat} {fr j:Nat} (h:n.leaf=false) (ry:ks.length≤1) (ae:∀k∈ks,eV k) (aU:fr≤j):
   cd ⟨false,n.keys.take fr++ks++n.keys.drop j,[],kids⟩≤cd n+27:=by
 rw[Vn h,Vn rfl]
 show 3+pC (n.keys.take fr++ks++n.keys.drop j)≤_
 rw[Lz,Lz]
 have U:pC ks≤27:=by
   match ks,ry with
   | [],_=>simp[pC]
   | [k],_=>rw[aev];have:=(ae k (by simp)).2;omega
 have ab:pC n.keys=pC (n.keys.take fr)+pC (n.keys.drop fr):=by rw[←Lz,qd]
 have ao:pC (n.keys.drop fr)=pC ((n.keys.drop fr).take (j-fr))+pC (n.keys.drop j):=by
   rw[←Lz]
   congr 1
   have:n.keys.drop j=(n.keys.drop fr).drop (j-fr):=by rw[List.drop_drop];congr 1;omega
   rw[this,qd]
 omega
end Go.Proofs.YtplieiecebljmaaGreat
namespace Go.Proofs.YtplieiecebljmaaGreat
variable {lo hi:Option Key} {P Q:Nat→Option aL}
def yw (Q:Nat→Option aL) (n:aL) (ks:List Key) (kids:List Nat):Prop:=
 (cd n≤232∧∃x,ks=[]∧kids=[x]∧Q x=some n)∨
 (232<cd n∧∃ (x y:Nat) (aa:c2 n<n.keys.length),ks=[n.keys[c2 n]]∧kids=[x,y]∧Q x=some (n.left (c2 n))∧Q y=some (n.right (c2 n)))
theorem fb.fits {h:Nat} {n:aL} {p:List Nat} {L:List bo} {ks:List Key} {kids:List Nat} (ak:fb P h n lo hi p L) (ab:2≤n.keys.length) (aA:n.leaf=true→cd n≤310) (e2:n.leaf=false→cd n≤335)
   (aI:yw Q n ks kids) (J:∀x∈p,P x=Q x):∃eg,fQ (jU Q h) lo hi ks kids eg L∧eg.Perm (kids++p)∧(∀s∈ks,eV s)∧ks.length≤1:=by
 rcases aI with ⟨_,x,rfl,rfl,af⟩|⟨aj,x,y,aa,rfl,rfl,af,b1⟩
 · exact ⟨x::p,ak.one ab af J,List.Perm.refl _,by simp,by simp⟩
 · obtain ⟨_,_,_,_,_,cg,cc,bM,b8,rfl,rfl,ij,aew⟩:=ak.two (Q:=Q) (x:=x) (y:=y) aj aA e2
   refine ⟨_,aew af b1 J,?_,by simpa using ij,by simp⟩
   show ((x::cg)++(y::cc)).Perm ([x,y]++(cg++cc))
   simp only[C1,uW]
   exact (AE).cons x
theorem aex {h:Nat} {bF eD:aL} {gr eP:Option Key} {i:Nat} {cg cc nC:List Nat} {bM oA b8:List bo} {ks:List Key} {kids:List Nat} (b5:bF.leaf=false) (kn:∀k∈bF.keys,eV k) (qg:∀x∈bF.kids,x<1600)
   (a6:j6 (jU P (h+1)) lo gr (bF.keys.take i) (bF.kids.take i) cg bM) (bR:mw (jU P (h+1)) hi eP (bF.keys.drop i) (bF.kids.drop (i+1)) cc b8) (ak:fb P (h+1) eD gr eP nC oA) (U:80≤cd eD) (ab:cd eD≤282)
   (aI:yw Q eD ks kids) (J:∀x∈cg++(nC++cc),P x=Q x) (qh:∀x∈kids,x<1600):
   ∃eg,fb Q (h+2) (lq bF i (i+1) ks kids) lo hi eg (bM++(oA++b8))∧eg.Perm (kids++(cg++(nC++cc)))∧cd (lq bF i (i+1) ks kids)≤cd bF+27∧bF.keys.length≤(lq bF i (i+1) ks kids).keys.length:=by
 obtain ⟨iX,aj,na,ij,qR⟩:=ak.fits (ak.Pl U) (fun _=>by omega) (fun _=>by omega) aI fun x af=>J x (o5 _ (sq _ af))
 have aa:=fb.build a6 bR aj (fun x af=>by
     rcases eH.1 af with af|af
     · exact J x (sq _ af)
     · exact J x (o5 _ (o5 _ af)))
   (fun s aj=>by
     rcases eH.1 aj with aj|aj
     · rcases eH.1 aj with aj|aj
       · exact kn s (jR aj)
       · exact ij s aj
     · exact kn s (jC aj))
   (fun x af=>by
     rcases eH.1 af with af|af
     · rcases eH.1 af with af|af
       · exact qg x (jR af)
       · exact qh x af
     · exact qg x (jC af))
 have e:lq bF i (i+1) ks kids=⟨false,bF.keys.take i++ks++bF.keys.drop i,[],bF.kids.take i++kids++bF.kids.drop (i+1)⟩:=by unfold lq;rw[Nat.add_sub_cancel]
 rw[e]
 refine ⟨_,aa,?_,Pm b5 qR ij (cU _),?_⟩
 · have aC:(iX++cc).Perm (kids++(nC++cc)):=by
     rw[←d_];exact na.append_right _
   refine (List.Perm.append_left cg aC).trans ?_
   have aF:=(HM (l₁:=cg) (l₂:=kids)).append_right (nC++cc)
   rw[d_,d_] at aF
   exact aF
 · show bF.keys.length≤(bF.keys.take i++ks++bF.keys.drop i).length
   have:=congrArg List.length (qd i bF.keys)
   simp only[dA] at this⊢
   omega
end Go.Proofs.YtplieiecebljmaaGreat
namespace Go.Proofs.YtplieiecebljmaaGreat
variable {lo hi:Option Key} {P Q:Nat→Option aL}
theorem LA {a b:aL} {s:Key}:a.keys.length+b.keys.length≤(gu a s b).keys.length:=by
 unfold gu
 split
 · show _≤(a.keys++b.keys).length
   rw[dA];omega
 · show _≤(a.keys++s::b.keys).length
   rw[dA,iV];omega
theorem Vo {a b:aL} {s:Key}:(gu a s b).leaf=a.leaf:=by
 unfold gu
 cases h:a.leaf<;>simp
theorem LB {h:Nat} {a b:aL} {s:Key} {jV gL H3 e2:Option Key} {pa Lv:List Nat} {Lw Lx:List bo} (aT:fb P h a jV gL pa Lw) (aa:fb P h b H3 e2 Lv Lx) (aj:eV s) (U:cd a+cd b≤311):
   ((gu a s b).leaf=true→cd (gu a s b)≤310)∧((gu a s b).leaf=false→cd (gu a s b)≤335):=by
 have aA:a.leaf=b.leaf:=by rw[aT.leaf,aa.leaf]
 have ak:a.leaf=true→a.vals.length=a.keys.length:=fun U=>by
   match h,aT with
   |0,aT=>exact aT.elim
   |1,aT=>exact aT.1.len
   |h+2,aT=>rw[aT.1] at U;cases U
 rw[Vo,aeu aA ak]
 have:=aj.2
 constructor
 · intro e;rw[e];simp only[if_true];omega
 · intro e;rw[e];simp only[ox,if_false];omega
theorem aey {h:Nat} {bF eD:aL} {gr eP:Option Key} {i:Nat} {cg cc nC:List Nat} {bM oA b8:List bo} {k:Key} (b5:bF.leaf=false) (kn:∀k∈bF.keys,eV k) (qg:∀x∈bF.kids,x<1600) (hlen:bF.kids.length=bF.keys.length+1) (ga:∀x n,P x=some n→cd n≤232)
   (gL:1≤i) (nc:i<bF.kids.length) (eQ:jT gr eP k)
   (a6:j6 (jU P (h+1)) lo gr (bF.keys.take i) (bF.kids.take i) cg bM) (bR:mw (jU P (h+1)) hi eP (bF.keys.drop i) (bF.kids.drop (i+1)) cc b8) (ak:fb P (h+1) eD gr eP nC oA) (U:cd eD<80):
   ∃ (o:aL) (Ft:List Nat) (aa:i-1<bF.kids.length) (gM:i-1<bF.keys.length),P bF.kids[i-1]=some o∧cg.Perm (bF.kids[i-1]::Ft)∧2≤o.keys.length∧
     ∀ (Q:Nat→Option aL) (ks:List Key) (kids:List Nat),yw Q (gu o bF.keys[i-1] eD) ks kids→(∀x∈Ft++(nC++cc),P x=Q x)→(∀x∈kids,x<1600)→
       ∃eg,fb Q (h+2) (lq bF (i-1) (i+1) ks kids) lo hi eg (bM++(oA++b8))∧eg.Perm (kids++(Ft++(nC++cc)))∧cd (lq bF (i-1) (i+1) ks kids)≤cd bF+27∧bF.keys.length≤(lq bF (i-1) (i+1) ks kids).keys.length+1:=by
 obtain ⟨s,H3,eW,r,sw,N,aj,rfl,qS,rfl,rfl,⟨hw,m,hm,jD⟩,Fu,Dh⟩:=a6.last (by rw[eA];omega)
 have fI:(bF.keys.take i).length=i:=by rw[eA];omega
 have kz:(bF.kids.take i).length=i:=by rw[eA];omega
 have qS:s=bF.keys[i-1]'(by omega):=by
   rw[qS,HN];congr 1;omega
 have Di:(bF.kids.take i)[(bF.kids.take i).length-1]'(by omega)=bF.kids[i-1]'(by omega):=by
   rw[HN];congr 1;omega
 rw[Di] at hw hm
 obtain ⟨o,rz,ko,rfl,_,qT⟩:=hw.uY
 rw[ko] at hm
 have jD:2≤o.keys.length:=by rw[Option.some.inj hm];exact jD
 clear hm
 subst qS
 have jl:=(show jU P (h+1) H3 (some (bF.keys[i-1]'(by omega))) (bF.kids[i-1]'(by omega)) (bF.kids[i-1]'(by omega)::rz) N from ⟨hw,o,ko,jD⟩).in
 obtain ⟨x,af⟩:=HK _ jl.1
 have sx:=kn _ (eN (l:=bF.keys) (n:=i-1) (by omega))
 have AM:=fb.merge qT ak sx (fun c al=>pz (sv ((jl.2.2 x af).1 c al) ((jl.2.2 x af).2 _ rfl))) (fun c al=>pz (sv (eQ.1 _ rfl) (eQ.2 c al)))
 have dr:=LB qT ak sx (by have:=ga _ _ ko;omega)
 have Fv:=LA (a:=o) (b:=eD) (s:=bF.keys[i-1]'(by omega))
 refine ⟨o,eW++rz,by omega,by omega,ko,AE,jD,fun Q ks kids aI J qh=> ?_⟩
 obtain ⟨iX,Pn,na,ij,qR⟩:=AM.fits (by omega) dr.1 dr.2 aI fun x af=>J x (by
   rcases eH.1 af with af|af
   · exact sq _ (o5 _ af)
   · exact o5 _ (sq _ af))
 have rA:(bF.keys.take i).take ((bF.keys.take i).length-1)=bF.keys.take (i-1):=by rw[fI,HO];congr 1;omega
 have aez:(bF.kids.take i).take ((bF.kids.take i).length-1)=bF.kids.take (i-1):=by rw[kz,HO];congr 1;omega
 rw[rA,aez] at Fu
 have aa:=fb.build Fu bR Pn (fun x af=>J x (by
     rcases eH.1 af with af|af
     · exact sq _ (sq _ af)
     · exact o5 _ (o5 _ af)))
   (fun s aj=>by
     rcases eH.1 aj with aj|aj
     · rcases eH.1 aj with aj|aj
       · exact kn s (jR aj)
       · exact ij s aj
     · exact kn s (jC aj))
   (fun x af=>by
     rcases eH.1 af with af|af
     · rcases eH.1 af with af|af
       · exact qg x (jR af)
       · exact qh x af
     · exact qg x (jC af))
 have e:lq bF (i-1) (i+1) ks kids=⟨false,bF.keys.take (i-1)++ks++bF.keys.drop i,[],bF.kids.take (i-1)++kids++bF.kids.drop (i+1)⟩:=by unfold lq;rw[Nat.add_sub_cancel]
 rw[e]
 refine ⟨_,by simpa[d_] using aa,?_,Pm b5 qR ij (by omega),?_⟩
 · have aC:(iX++cc).Perm (kids++(rz++(nC++cc))):=by
     have:=na.append_right cc
     simpa[d_] using this
   refine (List.Perm.append_left eW aC).trans ?_
   have aF:=(HM (l₁:=eW) (l₂:=kids)).append_right (rz++(nC++cc))
   simpa[d_] using aF
 · show bF.keys.length≤(bF.keys.take (i-1)++ks++bF.keys.drop i).length+1
   simp only[dA,eA,fx]
   omega
end Go.Proofs.YtplieiecebljmaaGreat
namespace Go.Proofs.YtplieiecebljmaaGreat
variable {lo hi:Option Key} {P Q:Nat→Option aL}
theorem aeA {h:Nat} {bF eD:aL} {gr eP:Option Key} {i:Nat} {cg cc nC:List Nat} {bM oA b8:List bo} {k:Key} (b5:bF.leaf=false) (kn:∀k∈bF.keys,eV k) (qg:∀x∈bF.kids,x<1600) (hlen:bF.kids.length=bF.keys.length+1) (ga:∀x n,P x=some n→cd n≤232)
   (nc:i+1<bF.kids.length) (eQ:jT gr eP k)
   (a6:j6 (jU P (h+1)) lo gr (bF.keys.take i) (bF.kids.take i) cg bM) (bR:mw (jU P (h+1)) hi eP (bF.keys.drop i) (bF.kids.drop (i+1)) cc b8) (ak:fb P (h+1) eD gr eP nC oA) (U:cd eD<80):
   ∃ (o:aL) (Fw:List Nat) (aa:i+1<bF.kids.length) (gM:i<bF.keys.length),P bF.kids[i+1]=some o∧cc.Perm (bF.kids[i+1]::Fw)∧2≤o.keys.length∧
     ∀ (Q:Nat→Option aL) (ks:List Key) (kids:List Nat),yw Q (gu eD bF.keys[i] o) ks kids→(∀x∈cg++(nC++Fw),P x=Q x)→(∀x∈kids,x<1600)→
       ∃eg,fb Q (h+2) (lq bF i (i+2) ks kids) lo hi eg (bM++(oA++b8))∧eg.Perm (kids++(cg++(nC++Fw)))∧cd (lq bF i (i+2) ks kids)≤cd bF+27∧bF.keys.length≤(lq bF i (i+2) ks kids).keys.length+1:=by
 obtain ⟨s,e2,r,gv,N,aeB,aj,rfl,qS,rfl,rfl,⟨hw,m,hm,jD⟩,H4⟩:=bR.head (by rw[fx];omega)
 have qS:s=bF.keys[i]'(by omega):=by rw[qS,Lh];rfl
 have Di:(bF.kids.drop (i+1))[0]'(by rw[fx];omega)=bF.kids[i+1]'nc:=by rw[Lh]
 rw[Di] at hw hm
 obtain ⟨o,rz,ko,rfl,_,qT⟩:=hw.uY
 rw[ko] at hm
 have jD:2≤o.keys.length:=by rw[Option.some.inj hm];exact jD
 clear hm
 subst qS
 have jl:=(show jU P (h+1) (some (bF.keys[i]'(by omega))) e2 (bF.kids[i+1]'nc) (bF.kids[i+1]'nc::rz) N from ⟨hw,o,ko,jD⟩).in
 obtain ⟨x,af⟩:=HK _ jl.1
 have sx:=kn _ (eN (l:=bF.keys) (n:=i) (by omega))
 have AM:=fb.merge ak qT sx (fun c al=>pz (sv (eQ.1 c al) (eQ.2 _ rfl))) (fun c al=>pz (sv ((jl.2.2 x af).1 _ rfl) ((jl.2.2 x af).2 c al)))
 have dr:=LB ak qT sx (by have:=ga _ _ ko;omega)
 have Fv:=LA (a:=eD) (b:=o) (s:=bF.keys[i]'(by omega))
 refine ⟨o,rz++gv,nc,by omega,ko,List.Perm.refl _,jD,fun Q ks kids aI J qh=> ?_⟩
 obtain ⟨iX,Pn,na,ij,qR⟩:=AM.fits (by omega) dr.1 dr.2 aI fun x af=>J x (by
   rcases eH.1 af with af|af
   · exact o5 _ (sq _ af)
   · exact o5 _ (o5 _ (sq _ af)))
 rw[List.drop_drop,List.drop_drop] at H4
 have aa:=fb.build a6 H4 Pn (fun x af=>J x (by
     rcases eH.1 af with af|af
     · exact sq _ af
     · exact o5 _ (o5 _ (o5 _ af))))
   (fun s aj=>by
     rcases eH.1 aj with aj|aj
     · rcases eH.1 aj with aj|aj
       · exact kn s (jR aj)
       · exact ij s aj
     · exact kn s (jC aj))
   (fun x af=>by
     rcases eH.1 af with af|af
     · rcases eH.1 af with af|af
       · exact qg x (jR af)
       · exact qh x af
     · exact qg x (jC af))
 have e:lq bF i (i+2) ks kids=⟨false,bF.keys.take i++ks++bF.keys.drop (i+1),[],bF.kids.take i++kids++bF.kids.drop (i+1+1)⟩:=rfl
 rw[e]
 refine ⟨_,by simpa[d_] using aa,?_,Pm b5 qR ij (by omega),?_⟩
 · have aC:(iX++gv).Perm (kids++(nC++(rz++gv))):=by
     have:=na.append_right gv
     simpa[d_] using this
   refine (List.Perm.append_left cg aC).trans ?_
   have aF:=(HM (l₁:=cg) (l₂:=kids)).append_right (nC++(rz++gv))
   simpa[d_] using aF
 · show bF.keys.length≤(bF.keys.take i++ks++bF.keys.drop (i+1)).length+1
   simp only[dA,eA,fx]
   omega
end Go.Proofs.YtplieiecebljmaaGreat
namespace Go.Proofs.YtplieiecebljmaaGreat
variable {lo hi:Option Key} {P:Nat→Option aL}
def dP (ks:List Key) (k:Key):Nat:=ks.findIdx fun s=>decide (¬cw s k)
theorem Fx (ks:List Key) (k:Key):dP ks k≤ks.length:=List.findIdx_le_length
theorem Dj {ks:List Key} {k:Key} {j:Nat} (h:j<dP ks k) (aU:j<ks.length):cw ks[j] k:=by
 have:=List.not_of_lt_findIdx h
 simpa using this
theorem Fy {ks:List Key} {k:Key} (aj:ks.Pairwise cw) {j:Nat} (h:dP ks k≤j) (aU:j<ks.length):g7 k ks[j]:=by
 have U:dP ks k<ks.length:=by omega
 have ab:g7 k ks[dP ks k]:=by
   have:=List.findIdx_getElem (p:=fun s=>decide (¬cw s k)) (xs:=ks) (w:=U)
   exact Vi.1 (di this)
 rcases g2 (dP ks k) j with ao|ao
 · exact pz (sv ab (ym.1 aj _ _ U aU ao))
 · have:dP ks k=j:=by omega
   subst this;exact ab
theorem aeC {α:Type} {f:α→Bool} {L:List α} {i:Nat} (U:∀x∈L.take i,f x=true) (ab:∀x∈L.drop i,f x=false):L.filter f=L.take i:=by
 conv=>lhs;rw[←qd i L]
 rw[yk,yj.2 U,HH.2 (fun x af=>by rw[ab x af];decide),lM]
theorem Vp {α:Type} {f:α→Bool} {L:List α} {i:Nat} (U:∀x∈L.take i,f x=false) (ab:∀x∈L.drop i,f x=true):L.filter f=L.drop i:=by
 conv=>lhs;rw[←qd i L]
 rw[yk,HH.2 (fun x af=>by rw[U x af];decide),yj.2 ab,uW]
theorem Po {ks vs:List Key} {i:Nat} {x:bo} (h:x∈(ks.zip vs).take i):∃ (j:Nat) (aU:j<ks.length),j<i∧x.1=ks[j]:=by
 obtain ⟨j,aU,rfl⟩:=List.mem_take_iff_getElem.1 h
 have U:j<(ks.zip vs).length:=by omega
 rw[AD] at U
 exact ⟨j,by omega,by omega,by rw[Li]⟩
theorem Pp {ks vs:List Key} {i:Nat} {x:bo} (h:x∈(ks.zip vs).drop i):∃ (j:Nat) (aU:j<ks.length),i≤j∧x.1=ks[j]:=by
 obtain ⟨j,aU,rfl⟩:=List.mem_drop_iff_getElem.1 h
 have U:i+j<(ks.zip vs).length:=by omega
 rw[AD] at U
 exact ⟨i+j,by omega,by omega,by rw[Li]⟩
theorem aeD {ks vs:List Key} {k v:Key} (aj:ks.Pairwise cw):nB (ks.zip vs) k v=(ks.zip vs).take (dP ks k)++(k,v)::(ks.zip vs).drop (if ks[dP ks k]? =some k then dP ks k+1 else dP ks k):=by
 unfold nB
 rw[aeC (f:=fun p:bo=>decide (cw p.1 k)) (i:=dP ks k) (fun x af=>by
     obtain ⟨j,aU,U,e⟩:=Po af
     rw[e];exact jB (Dj U aU)) (fun x af=>by
     obtain ⟨j,aU,U,e⟩:=Pp af
     rw[e];exact tC (Fy aj U aU))]
 congr 2
 split
 · rename_i he
   obtain ⟨a_,he⟩:=rq.1 he
   refine Vp (fun x af=> ?_) (fun x af=> ?_)
   · obtain ⟨j,aU,U,e⟩:=Po af
     rw[e]
     refine tC ?_
     rcases g2 j (dP ks k) with ab|ab
     · exact yu (Dj ab aU)
     · have:j=dP ks k:=by omega
       subst this;rw[he];exact yt _
   · obtain ⟨j,aU,U,e⟩:=Pp af
     rw[e]
     refine jB ?_
     have:=ym.1 aj _ j a_ aU (by omega)
     rwa[he] at this
 · rename_i he
   refine Vp (fun x af=> ?_) (fun x af=> ?_)
   · obtain ⟨j,aU,U,e⟩:=Po af
     rw[e]
     exact tC (yu (Dj U aU))
   · obtain ⟨j,aU,U,e⟩:=Pp af
     rw[e]
     refine jB ?_
     rcases Dd.1 (Fy aj U aU) with ab|ab
     · exact ab
     · have a_:dP ks k<ks.length:=by omega
       rcases g2 (dP ks k) j with ao|ao
       · exact sv (Fy aj (cU _) a_) (ym.1 aj _ _ a_ aU ao)
       · have:j=dP ks k:=by omega
         subst this
         exact absurd ((gq a_).trans (congrArg some ab.symm)) he
end Go.Proofs.YtplieiecebljmaaGreat
namespace Go.Proofs.YtplieiecebljmaaGreat
open Go b6
section
theorem LC {n:Nat} (h:n<256):((UInt8.ofNat n).toNat:Nat)=n:=by
 simp[ru h]
end
section
theorem Vq {src dst:TypeId} {w:World} {s:ad} {oB:List Int} (aj:Tryz.prog.underlying src=some (.slice ai.uint8)) (hd:Tryz.prog.underlying dst=some .string) (h:Src 1 w s (oB.map (.int .u8))):
   Sem.run Tryz.prog (convert src dst (.slice s.a s.len s.cap)) w= .ok (.string (S (oB.map fun n=>UInt8.ofNat n.toNat))) w:=by
 rw[aeE aj (by kernel_rfl) hd h,aeF]
end
section
theorem Pq {w:World} {A:Addr}:∀ (vs:List Value) (i:Nat),(∀j v,vs[j]? =some v→w.cell? (A.add (i+j))=some v)→eE w A i vs.length=some vs
 | [],_,_=>rfl
 |v::vs,i,h=>by
   have b5:=h 0 v rfl
   have c1:=Pq vs (i+1) (fun j u aU=>by rw[show i+1+j=i+(j+1) by omega];exact h (j+1) u (by simpa using aU))
   rw[C5] at b5
   simp[eE,b5,c1]
def bm (l:List UInt8):List Value:=l.map fun b=>Value.int .u8 ((b.toNat:Nat):Int)
theorem jE (l:List UInt8):(bm l).length=l.length:=by simp[bm]
theorem Fz {l:List UInt8} {i:Nat} (h:i<l.length):(bm l)[i]? =some (.int .u8 ((l[i].toNat:Nat):Int)):=by simp[bm,h]
end
section
theorem aeG (c:UInt8):(((c.toNat:Nat):Int).toNat.toUInt8)=c:=by simp
end
section
theorem Dk (l:List UInt8):∀v∈bm l,Plain v:=by
 intro v ak
 obtain ⟨n,_,rfl⟩:=nA.1 ak
 trivial
theorem Dl (a b:List UInt8):bm (a++b)=bm a++bm b:=by simp[bm]
theorem take_succ {α:Type} (ls:List α) {i:Nat} (h:i<ls.length):ls.take (i+1)=ls.take i++ [ls[i]]:=by
 rw[ss h]
end
section
structure Vr where
 ars:Bool
 b:List UInt8
 h:b.length=16
 deriving DecidableEq
def Var (w:World) (b:Nat) (vs:List Value) (T:TypeId):Prop:=ck w b vs.toArray T
section
variable {w w':World} {b:Nat} {vs us:List Value} {T:TypeId}
theorem Var.new (w:World) (vs:List Value) (T:TypeId):Var (w.alloc (.cells vs.toArray T)) w.heap.size vs T:=ck.new _ _ _
theorem Var.rd (h:Var w b vs T) {n:Nat} (aD:vs.length=n):eE w ⟨b,0,none⟩ 0 n=some vs:=by
 have:=FA h n 0 0 (by simp[aD])
 rw[this]
 simp[←aD]
theorem Var.aeH (h:Var w b vs T) {o n:Nat} (aD:o+n≤vs.length):eE w ⟨b,o,none⟩ 0 n=some ((vs.drop o).take n):=by
 have:=FA h n o 0 (by simpa using aD)
 rw[this]
 simp
theorem Var.cell (h:Var w b vs T) {i:Nat}:w.cell? ⟨b,i,none⟩=vs[i]? :=by
 rw[ck.cell h];simp
theorem Var.ext (h:Var w b vs T) (af:Ext w w'):Var w' b vs T:=ck.ext h af
theorem Var.an {W:Nat→Prop} (h:Var w b vs T) (af:aq W w w') (aa:¬W b):Var w' b vs T:=ck.an h af aa
theorem Var.drew (h:Var w b vs T):Var w.drew b vs T:=ck.drew h
theorem Var.lt (h:Var w b vs T):b<w.heap.size:=ck.lt h
theorem Var.de (h:Var w b vs T) (aD:us.length=vs.length) (a6:∀v∈us,Plain v):cN w ⟨b,0,none⟩ us:=ck.de h 0 us (by simp[aD]) a6
theorem Var.put (h:Var w b vs T) (aD:us.length=vs.length):Var (setCells w ⟨b,0,none⟩ 0 us) b us T:=by
 have:=ck.LD us 0 0 h
 simp only[C5] at this
 have e:(nD vs.toArray 0 us)=us.toArray:=by
   have U:=LF us vs.toArray 0 (by simp[aD])
   rw[gd,aD,List.take_zero,uW,gV (by rw[Array.length_toList,qi];simp)] at U
   apply Array.toList_inj.1
   rw[U]
 rwa[e] at this
end
theorem bW {w:World} {K:World→Prop} (h:K w):az w K:=h
theorem cq {w:World} {c:Array Value} {vs:List Value} {T:TypeId} (al:c=vs.toArray) {K:World→Prop} (h:∀w',Var w' w.heap.size vs T→Ext w w'→w'.heap.size=w.heap.size+1→K w'):az (w.alloc (.cells c T)) K:=by
 subst al
 exact h _ (Var.new _ _ _) (aq.alloc (.refl _ _) _) (by simp)
theorem dW {w:World} {b:Nat} {vs us l:List Value} {T:TypeId} (ak:Var w b vs T) (aD:us.length=vs.length) (aA:l=us) {K:World→Prop} (h:∀w',Var w' b us T→aq (fun q=>q=b) w w'→w'.heap.size=w.heap.size→K w'):az (setCells w ⟨b,0,none⟩ 0 l) K:=by
 subst aA
 refine h _ (ak.put aD) (aq.yx (.refl _ _) l 0) ?_
 have:∀ (vs:List Value) (i:Nat) (w:World),(setCells w ⟨b,0,none⟩ i vs).heap.size=w.heap.size:=by
   intro vs
   induction vs with
   |nil=>intro i w;rfl
   |cons v vs c1=>intro i w;rw[setCells,c1];simp[World.setCell]
 exact this _ _ _
theorem Ext.eX {dd w w':World} {b:Nat} (h:Ext dd w) (al:aq (fun q=>q=b) w w') (aa:dd.heap.size≤b):Ext dd w':=Ext.gf h al (fun k ae=>by subst ae;exact aa)
theorem Var.aeI {w:World} {b o n c:Nat} {vs:List Value} {T:TypeId} {l:List UInt8} (h:Var w b vs T) (aD:o+n≤vs.length) (aA:(vs.drop o).take n=bm l):Src 1 w ⟨some ⟨b,o,none⟩,n,c⟩ (bm l):=by
 have hlen:n=l.length:=by
   have:=congrArg List.length aA
   rw[eA,fx,jE] at this
   omega
 refine ⟨by rw[jE];show _=n*1;omega,(fun h=>by cases h),fun a aT=> ?_⟩
 cases aT
 show eE w ⟨b,o,none⟩ 0 (n*1)=_
 rw[lp,h.aeH aD,aA]
theorem LG:qj Tryz.prog ai.cG ai.uint8 1 1:=⟨by kernel_rfl⟩
theorem aeJ {yy hM ty:TypeId} {w:World} {b o dl Dm:Nat} {s:ad} {l:List UInt8} (hu:Tryz.prog.underlying yy=some (.slice ai.uint8)) (aj:Src 1 w s (bm l)) (hle:s.len≤dl) (gN:cN w ⟨b,o,none⟩ (bm l)):
   Sem.run Tryz.prog (Builtin.copy_ #[yy,hM] ty #[.slice (some ⟨b,o,none⟩) dl Dm, .slice s.a s.len s.cap]) w= .ok (.int .i64 ((s.len:Nat):Int)) (setCells w ⟨b,o,none⟩ 0 (bm l)):=by
 have aeK:Nat.min s.len dl=s.len:=sr hle
 have bD:=pD (P:=Tryz.prog) (w:=w) (t:=ai.uint8) (d:= .int .u8) (by kernel_rfl)
 have al:Tryz.prog.cellsOf ai.uint8=1:=by kernel_rfl
 rw[al] at bD
 have aI:=FB (P:=Tryz.prog) aj
 have AN:=FC (P:=Tryz.prog) (A:=⟨b,o,none⟩) (bm l) 0 w (by simpa using gN.1) gN.2
 simp[Builtin.copy_,fA hu,Builtin.lenOf,bD,aeK,aI,AN]
 rfl
end
section
def lr (c k:Nat):Nat:=c/2^(8-k)*2^(8-k)
def wS (n i:Nat):Nat:=min (n-8*i) 8
end
section
theorem Src.sub {w:World} {s:ad} {vs:List Value} {lo hi:Nat} (h:Src 1 w s vs) (al:s.len≤s.cap) (U:lo≤hi) (ab:hi≤s.len):Src 1 w ⟨bf s.a 1 lo s.cap,hi-lo,s.cap-lo⟩ ((vs.drop lo).take (hi-lo)):=by
 have aA:vs.length=s.len:=by have:=h.len;omega
 refine ⟨by simp;omega,fun aD=> ?_,fun a aT=> ?_⟩
 · have FD:s.a=none:=by
     unfold bf at aD
     split at aD
     · exact aD
     · simpa using aD
   simp[h.nil FD]
 · show eE w a 0 ((hi-lo)*1)=_
   by_cases e:hi=lo
   · rw[show hi-lo=0 by omega];simp[eE]
   · have ax:∃A,s.a=some A∧a=A.add lo:=by
       unfold bf at aT
       rw[if_neg (by omega)] at aT
       cases aj:s.a with
       |none=>rw[aj] at aT;cases aT
       |some A=>rw[aj] at aT;exact ⟨A,rfl,by simpa using aT.symm⟩
     obtain ⟨A,ax,rfl⟩:=ax
     have aQ:=h.rd A ax
     have:=Pq (w:=w) (A:=A.add lo) ((vs.drop lo).take (hi-lo)) 0 (fun j v aU=>by
       rw[add_add]
       have Dn:j<hi-lo:=by have:=(rq.1 aU).1;simp at this;omega
       rw[List.getElem?_take_of_lt Dn,List.getElem?_drop] at aU
       have:=H5 aQ aU
       simpa using this)
     have bq:((vs.drop lo).take (hi-lo)).length=hi-lo:=by simp;omega
     rw[bq] at this
     rw[lp]
     exact this
def qk (l:List UInt8):Nat:=l.foldl (fun n c=>n*256+c.toNat) 0
theorem aeL (l m:List UInt8):qk (l++m)=m.foldl (fun n c=>n*256+c.toNat) (qk l):=by simp[qk,List.foldl_append]
theorem Pr (l:List UInt8) (c:UInt8):qk (l++ [c])=qk l*256+c.toNat:=by rw[aeL];rfl
theorem H6:∀ (k:Nat) (l:List UInt8),l.length=k→qk l<256^k:=by
 intro k
 induction k with
 |zero=>intro l h;rw[yn.1 h];simp[qk]
 |succ k c1=>
   intro l h
   obtain ⟨m,c,rfl⟩:∃m c,l=m++ [c]:=by
     rcases List.eq_nil_or_concat l with rfl|⟨m,c,hm⟩
     · simp at h
     · exact ⟨m,c,by rw[hm,List.concat_eq_append]⟩
   rw[Pr,Nat.pow_succ]
   have:=c1 m (by simpa using h)
   have:=UInt8.toNat_lt c
   omega
theorem aeM {a b:Nat} (aT:a<2^64) (aa:b<2^64):AO .u64 (a:Int) (b:Int)=((a|||b:Nat):Int):=by
 have aW:BitVec.ofInt 64 (a:Int)=BitVec.ofNat 64 a:=by simp
 have bq:BitVec.ofInt 64 (b:Int)=BitVec.ofNat 64 b:=by simp
 unfold AO
 show IntKind.u64.wrap (((BitVec.ofInt 64 (a:Int)|||BitVec.ofInt 64 (b:Int)).toNat:Nat):Int)=_
 rw[aW,bq,BitVec.toNat_or,BitVec.toNat_ofNat,BitVec.toNat_ofNat,ru aT,ru aa]
 have:a|||b<2^64:=Nat.or_lt_two_pow aT aa
 have:a|||b<18446744073709551616:=this
 rw[u3 (by omega) (by omega)]
theorem aeN (n c:Nat) (al:c<256):n*256|||c=n*256+c:=by
 have:=Nat.shiftLeft_add_eq_or_of_lt (i:=8) (b:=c) (by simpa using al) n
 rw[Nat.shiftLeft_eq] at this
 exact this.symm
theorem rB {s:ad} {l:List UInt8} {w:World} (aj:Src 1 w s (bm l)) (al:s.len≤s.cap) {a k:Nat} (ae:1≤k∧k≤8) (aT:a+k≤l.length) (aA:l.length≤1000000000000):
   aR Tryz.prog F.rB #[.slice s.a s.len s.cap, .int .i64 a, .int .i64 k] w (fun v w'=>v= .tuple #[.int .u64 ((qk ((l.drop a).take k):Nat):Int), .bool true]∧w=w'):=by
 refine W.Vs s a k w _ ?_
 (delta W.rB Dp aE aZ aX g8 ay;dsimp only)
 have fR:s.len=l.length:=by have:=aj.len;rw[jE] at this;omega
 refine Calls.mono (W.Ps s a k w (fun v w'=>v= .tuple #[.slice (bf s.a 1 a s.cap) k (s.cap-a), .bool true]∧w=w') ?_) ?_
 · delta W.tH aE ay
   rw[ct (n:=((s.len:Nat):Int)-(a:Int)) (by omega) (by omega),ct (n:=(a:Int)+(k:Int)) (by omega) (by omega)]
   refine ⟨fun h=> ?_,fun _=>⟨⟨by omega,by omega⟩,⟨by omega,by omega⟩,?_,rfl⟩⟩
   · simp only[tD,fY] at h;omega
   · rw[show Int.toNat ((a:Int)+(k:Int))-Int.toNat (a:Int)=k by omega];rfl
 rintro _ _ ⟨_,rfl,rfl,rfl⟩
 refine ⟨⟨bf s.a 1 a s.cap,k,s.cap-a⟩,true,rfl,eI (fun b w'=>b=false∧w=w') (fun q J=>⟨fun h=>by simp at h,fun _=> ?_⟩) ?_⟩
 · refine Calls.mono (W.Vt k w (fun v w'=>v= .bool true∧w=w') ⟨?_,rfl⟩) ?_
   · have U:decide ((k:Int)≥1)=true:=jB (by omega)
     have ab:decide ((k:Int)≤8)=true:=jB (by omega)
     rw[U,ab];rfl
   · rintro _ _ ⟨_,rfl,rfl,rfl⟩
     exact ⟨_,rfl,J _ _ ⟨rfl,rfl⟩⟩
 rintro _ _ ⟨rfl,rfl⟩
 have gW:=Src.sub aj al (lo:=a) (hi:=a+k) (by omega) (by omega)
 rw[show a+k-a=k by omega] at gW
 have gW:Src 1 w ⟨bf s.a 1 a s.cap,k,s.cap-a⟩ (bm ((l.drop a).take k)):=by
   simpa[bm,Ff,C4] using gW
 obtain ⟨m,hm⟩:∃m,m=(l.drop a).take k:=⟨_,rfl⟩
 have n1:m.length=k:=by rw[hm];simp;omega
 rw[←hm] at gW⊢
 refine ⟨fun h=>by simp at h,fun _=>⟨fun n i w'=>w=w'∧∃j:Nat,i=j∧j≤k∧n=((qk (m.take j):Nat):Int),fun _ i _=>((k:Int)-i).toNat,⟨rfl,0,rfl,fy _,rfl⟩,?_⟩⟩
 rintro _ _ _ ⟨rfl,j,rfl,aU,rfl⟩
 refine ⟨fun a_=> ?_,fun cn=> ?_⟩
 · have a_:((j:Int)<((k:Nat):Int)):=di a_
   have a_:j<k:=by omega
   obtain ⟨A,ax,aa,kA⟩:=gW.at (Fz (l:=m) (i:=j) (by omega))
   have U:=H6 j (m.take j) (by simp;omega)
   have ab:256^j≤256^7:=Lj (by omega) (by omega)
   have ab:256^j≤72057594037927936:=ab
   have aeO:(m[j]).toNat<256:=UInt8.toNat_lt _
   have aW:((qk (m.take j):Nat):Int)*2^(min (Int.toNat 8) 64)=((qk (m.take j)*256:Nat):Int):=by
     show ((qk (m.take j):Nat):Int)*256=_;omega
   refine ⟨A,ax,aa,_,kA,by decide,?_⟩
   rw[aW,u3 (n:=((qk (m.take j)*256:Nat):Int)) (by omega) (by omega),u3 (n:=((m[j].toNat:Nat):Int)) (by omega) (by omega),aeM (by show _<18446744073709551616;omega) (by show _<18446744073709551616;omega),aeN _ _ aeO,ct (n:=(j:Int)+1) (by omega) (by omega)]
   refine ⟨⟨rfl,j+1,by omega,by omega,?_⟩,?_⟩
   · rw[take_succ m (by omega),Pr]
   · show ((k:Int)-((j:Int)+1)).toNat<((k:Int)-(j:Int)).toNat
     omega
 · have cn:¬((j:Int)<((k:Nat):Int)):=eB cn
   have cn:j=k:=by omega
   subst cn
   exact ⟨by rw[gV (by omega)],rfl⟩
end
section
theorem Pt {w:World} {s:ad} {l:List UInt8} (h:Src 1 w s (bm l)) (aA:l.length≤1000000):
   aR Tryz.prog F.lu #[.slice s.a s.len s.cap] w (fun v w'=>∃au:ad,v= .slice au.a au.len au.cap∧bU 1 ai.uint8 w' au (bm l)∧Ext w w'∧∀k,aP au k→w.heap.size≤k):=by
 have fR:s.len=l.length:=by have:=h.len;rw[jE] at this;omega
 refine W.aeP s w _ ?_
 delta W.lu aE ah
 refine ⟨fun aT=> ?_,fun _=> ?_⟩
 · have aT:s.a=none:=by simpa using aT
   rw[h.nil aT]
   exact ⟨⟨none,0,0⟩,rfl,bU.none _ _ _, .refl _ _,fun k ae=>(pE k ae).elim⟩
 · obtain ⟨au,w',U,ab,ao,aG,aV,_⟩:=LG.clone (gX:=ai.cG) h (Dk l) (by omega)
   exact bW ⟨au,w',U,au,rfl,ab,aG,aV⟩
theorem aeQ {w:World} {s:ad} {l:List UInt8} (c:UInt8) (bR:bU 1 ai.uint8 w s (bm l)) (aD:l.length≤1000000):
   ∃ (au:ad) (w':World),Sem.run Tryz.prog (Builtin.append_ #[ai.cG,ai.cG] ai.cG #[.slice s.a s.len s.cap, .slice (some ⟨w.heap.size,0,none⟩) 1 1]) (w.alloc (.cells #[.int .u8 ((c.toNat:Nat):Int)] ai.uint8))= .ok (.slice au.a au.len au.cap) w'∧
     bU 1 ai.uint8 w' au (bm (l++ [c]))∧aq (aP s) w w'∧(∀k,aP au k→aP s k∨w.heap.size≤k):=by
 have fR:s.len=l.length:=by have:=bR.1;rw[jE] at this;omega
 obtain ⟨au,w',U,ab,ao,aG,aV⟩:=LG.push (gX:=ai.cG) (w:=w) (s:=s) (xs:=[.int .u8 ((c.toNat:Nat):Int)]) rfl bR (fun v ak=>by rw[lN.1 ak];trivial) (by omega)
 exact ⟨au,w',U,by rw[Dl];exact ab,aG,aV⟩
def fJ (n k:Nat):List UInt8:=(List.range k).map fun j=>UInt8.ofNat (n/256^(k-1-j)%256)
theorem nd (n k:Nat):(fJ n k).length=k:=by simp[fJ]
theorem n2 {s:ad} {l:List UInt8} {w:World} (aj:Src 1 w s (bm l)) (aA:l.length≤100000) {n k:Nat} (aD:n<2^64) (ae:1≤k∧k≤8):
   aR Tryz.prog F.n2 #[.slice s.a s.len s.cap, .int .u64 n, .int .i64 k] w (fun v w'=>∃au:ad,v= .slice au.a au.len au.cap∧bU 1 ai.uint8 w' au (bm (l++fJ n k))∧Ext w w'∧∀q,aP au q→w.heap.size≤q):=by
 have aD:n<18446744073709551616:=aD
 refine W.aeR s n k w _ ?_
 (delta W.n2 en aZ aE ay ah;dsimp only)
 refine (Pt aj (by omega)).use ?_
 rintro _ ag ⟨s1,rfl,ko,bH,pF⟩
 refine ⟨s1,rfl,Calls.mono (W.Vt k ag (fun v w'=>v= .bool true∧ag=w') ⟨?_,rfl⟩) ?_⟩
 · have U:decide ((k:Int)≥1)=true:=jB (by omega)
   have ab:decide ((k:Int)≤8)=true:=jB (by omega)
   rw[U,ab];rfl
 rintro _ _ ⟨_,rfl,rfl,rfl⟩
 rw[ct (n:=(k:Int)-1) (by omega) (by omega)]
 refine ⟨_,rfl,fun h=>by simp at h,fun _=>⟨fun t i w'=>∃j:Nat,i=(k:Int)-1-j∧j≤k∧Ext w w'∧(∀q,aP t q→w.heap.size≤q)∧bU 1 ai.uint8 w' t (bm (l++(fJ n k).take j)),fun _ i _=>(i+1).toNat,⟨0,by omega,by omega,bH,pF,by simpa using ko⟩,?_⟩⟩
 rintro t _ aw ⟨j,rfl,aU,cB,pG,tI⟩
 refine ⟨fun a_=> ?_,fun cn=> ?_⟩
 · have a_:j<k:=by have:=di a_;omega
   rw[ct (n:=8*((k:Int)-1-j)) (by omega) (by omega),ct (n:=(k:Int)-1-j-1) (by omega) (by omega)]
   have ak:IntKind.wrap .u8 (Int.fdiv (n:Int) (2^(min (Int.toNat (8*((k:Int)-1-j))) 64)))=((((UInt8.ofNat (n/256^(k-1-j)%256)).toNat:Nat)):Int):=by
     rw[LC (qe _ (by omega)),show min (Int.toNat (8*((k:Int)-1-j))) 64=8*(k-1-j) by omega,aeS]
     have aW:((2:Int)^(8*(k-1-j)))=((256^(k-1-j):Nat):Int):=by
       rw[Int.pow_mul]
       simp
     rw[aW,Int.fdiv_eq_ediv_of_nonneg _ (Int.natCast_nonneg _)]
     generalize 256^(k-1-j)=z
     rfl
   rw[ak]
   obtain ⟨bN,bc,U,ab,ao,aG⟩:=aeQ (UInt8.ofNat (n/256^(k-1-j)%256)) tI (by simp[fJ];omega)
   refine ⟨by omega,bW ⟨bN,bc,U,⟨j+1,by omega,by omega,Ext.gf cB ao pG,fun q J=> ?_,?_⟩,?_⟩⟩
   · rcases aG q J with h|h
     · exact pG q h
     · exact j5 cB.size h
   · rw[take_succ _ (by rw[nd];exact a_),←d_]
     have:(fJ n k)[j]'(by rw[nd];exact a_)=UInt8.ofNat (n/256^(k-1-j)%256):=by simp[fJ]
     rw[this];exact ab
   · show ((k:Int)-1-j-1+1).toNat<((k:Int)-1-j+1).toNat
     omega
 · have cn:j=k:=by have:=eB cn;omega
   subst cn
   rw[gV (by rw[nd];exact cU _)] at tI
   exact ⟨t,rfl,tI,cB,pG⟩
end
section
theorem aeT (n k:Nat):fJ n (k+1)=fJ (n/256) k++ [UInt8.ofNat (n%256)]:=by
 unfold fJ
 rw[List.range_succ,m9]
 congr 1
 · apply List.map_congr_left
   intro j aU
   have:=tA.1 aU
   rw[show k+1-1-j=(k-1-j)+1 by omega,Nat.pow_succ,Nat.mul_comm,←Nat.div_div_eq_div_mul]
 · simp
theorem Pu:∀ (k n:Nat),n<256^k→qk (fJ n k)=n
 |0,n,h=>by
   have:n=0:=by simpa using h
   subst this;rfl
 |k+1,n,h=>by
   rw[Nat.pow_succ] at h
   rw[aeT,Pr,Pu k (n/256) (by omega),LC (qe _ (by omega))]
   omega
def dC (n:aL):Prop:=m_ n∨Lt n
def AP (l:Key):List UInt8:=UInt8.ofNat l.length::l
def nf (n:aL) (i:Nat):List UInt8:=AP (n.keys.getD i [])++if n.leaf then AP (n.vals.getD i []) else fJ (n.kids.getD (i+1) 0) 2
def oC (n:aL) (i m:Nat):List UInt8:=((List.range' i m).map (nf n)).flatten
theorem aeU (n:aL) (i m:Nat):oC n i (m+1)=nf n i++oC n (i+1) m:=rfl
theorem Pv (n:aL) (m:Nat):oC n 0 (m+1)=oC n 0 m++nf n m:=by
 unfold oC
 rw[List.range'_concat,m9,Lk]
 simp
def preB (n:aL):List UInt8:=UInt8.ofNat n.keys.length::if n.leaf then [] else fJ (n.kids.getD 0 0) 2
def qU (n:aL):List UInt8:=preB n++oC n 0 n.keys.length
theorem AQ (l:Key):(AP l).length=l.length+1:=rfl
theorem dC.keys {n:aL} (h:dC n):Ls n:=by
 rcases h with h|h
 · exact h.toLs
 · exact h.toLs
theorem dC.vals {n:aL} (h:dC n):∀v∈n.vals,v.length≤24:=by
 rcases h with h|h
 · exact h.vals
 · rw[h.vals];simp
theorem dC.kids {n:aL} (h:dC n):∀k∈n.kids,k<1600:=by
 rcases h with h|h
 · rw[h.kids];simp
 · exact h.kids
theorem LH {α:Type} {l:List α} {i:Nat} {d:α} (h:i<l.length):l.getD i d∈l:=by
 rw[oy,gq h]
 exact eN h
theorem Pw {n:aL} (h:dC n) {i:Nat} (hi:i<n.keys.length):(cellsOf n)[i]? =some (nf n i).length:=by
 unfold cellsOf nf
 rcases h with h|h
 · rw[h.leaf]
   simp only[if_true]
   have ak:i<n.vals.length:=by rw[h.len];exact hi
   rw[List.getElem?_zipWith,gq hi,gq ak]
   simp[oy,gq hi,gq ak,AQ]
   omega
 · rw[h.inner]
   simp only[ox,if_false]
   rw[HP,gq hi]
   simp[oy,gq hi,AQ,nd]
   omega
theorem FE {n:aL} (h:dC n):(cellsOf n).length=n.keys.length:=by
 unfold cellsOf
 rcases h with h|h
 · rw[h.leaf];simp[h.len]
 · rw[h.inner];simp
theorem Px {n:aL} (h:dC n):∀m,m≤n.keys.length→(oC n 0 m).length=((cellsOf n).take m).sum
 |0,_=>by simp[oC]
 |m+1,hm=>by
   have aA:m<(cellsOf n).length:=by rw[FE h];omega
   have U:=Pw h (i:=m) (by omega)
   rw[gq aA] at U
   have U:(cellsOf n)[m]=(nf n m).length:=Option.some.inj U
   rw[Pv,dA,Px h m (by omega),Fs aA,U]
theorem Py {n:aL} (h:dC n):(qU n).length=cd n:=by
 have e:((cellsOf n).take n.keys.length).sum=(cellsOf n).sum:=by rw[gV (by rw[FE h];exact cU _)]
 unfold qU cd preB
 rw[dA,Px h _ (cU _),e]
 cases n.leaf<;>simp[nd]
theorem LI {n:aL} (h:dC n):2*n.keys.length≤cd n:=by
 have U:∀l:List Nat,(∀x∈l,2≤x)→2*l.length≤l.sum:=by
   intro l
   induction l with
   |nil=>simp
   |cons a l c1=>
     intro h
     have:=h a (by simp)
     have:=c1 fun x af=>h x (by simp[af])
     simp only[iV,HL];omega
 have ab:=U (cellsOf n) (by
   intro x af
   obtain ⟨i,hi,rfl⟩:=lO af
   have eP:i<n.keys.length:=by rwa[←FE h]
   have ao:=Pw h eP
   rw[gq hi] at ao
   rw[Option.some.inj ao]
   unfold nf
   rw[dA,AQ]
   split
   · rw[AQ];omega
   · rw[nd];omega)
 rw[FE h] at ab
 unfold cd
 omega
abbrev Rd:=List UInt8×Bool
def oD (r:Rd) (k:Nat):List UInt8×Rd:=if r.2=false∨r.1.length<k then ([],(r.1,false)) else (r.1.take k,(r.1.drop k,true))
def rdNum (r:Rd) (k:Nat):Nat×Rd:=(if (oD r k).1.length=k then qk (oD r k).1 else 0,(oD r k).2)
def rC (r:Rd):List UInt8×Rd:=oD (rdNum r 1).2 (rdNum r 1).1
def Dq (s:aL×Rd):aL×Rd:=
 let t:=rC s.2
 if s.1.leaf then (⟨s.1.leaf,s.1.keys++ [t.1],s.1.vals++ [(rC t.2).1],s.1.kids⟩,(rC t.2).2)
 else (⟨s.1.leaf,s.1.keys++ [t.1],s.1.vals,s.1.kids++ [(rdNum t.2 2).1]⟩,(rdNum t.2 2).2)
def o9 (s:aL×Rd):Nat→aL×Rd
 |0=>s
 |i+1=>Dq (o9 s i)
def yz (leaf:Bool) (r:Rd):aL×Rd:=if leaf then (⟨true,[],[],[]⟩,r) else (⟨false,[],[],[(rdNum r 2).1]⟩,(rdNum r 2).2)
def pH (leaf:Bool) (b:List UInt8):aL×Rd:=o9 (yz leaf (rdNum (b,true) 1).2) (rdNum (b,true) 1).1
def wT (leaf:Bool) (b:List UInt8) (n:aL):Prop:=dC n∧n.leaf=leaf∧cd n≤232∧qU n=b
theorem Vu (a b:List UInt8):oD (a++b,true) a.length=(a,(b,true)):=by
 unfold oD
 rw[if_neg (by simp)]
 simp
theorem LJ {n k:Nat} (b:List UInt8) (h:n<256^k):rdNum (fJ n k++b,true) k=(n,(b,true)):=by
 unfold rdNum
 have:=Vu (fJ n k) b
 rw[nd] at this
 rw[this]
 simp[nd,Pu k n h]
theorem Vv (n:Nat) (h:n<256): [UInt8.ofNat n]=fJ n 1:=by
 simp[fJ,ru h]
theorem Pz (l:Key) (b:List UInt8) (h:l.length<256):rC (AP l++b,true)=(l,(b,true)):=by
 have e:AP l++b=fJ l.length 1++(l++b):=by
   rw[←Vv _ h];rfl
 unfold rC
 rw[e,LJ _ (by simpa using h)]
 exact Vu l b
theorem aeW {n:aL} (h:dC n) {i:Nat} (hi:i<n.keys.length) (b:List UInt8):
   Dq (⟨n.leaf,n.keys.take i,n.vals.take i,if n.leaf then [] else n.kids.take (i+1)⟩,(nf n i++b,true))=
     (⟨n.leaf,n.keys.take (i+1),n.vals.take (i+1),if n.leaf then [] else n.kids.take (i+2)⟩,(b,true)):=by
 have ae:n.keys.getD i []∈n.keys:=LH hi
 have fI:=(h.keys.ok _ ae).2
 have rA:n.keys.take (i+1)=n.keys.take i++ [n.keys.getD i []]:=by
   rw[take_succ _ hi,oy,gq hi];rfl
 unfold Dq
 unfold nf
 rcases h with h|h
 · have ak:i<n.vals.length:=by rw[h.len];exact hi
   have PA:n.vals.getD i []∈n.vals:=LH ak
   have bw:n.vals.take (i+1)=n.vals.take i++ [n.vals.getD i []]:=by
     rw[take_succ _ ak,oy,gq ak];rfl
   simp only[h.leaf,if_true]
   rw[d_,Pz _ _ (by omega)]
   simp only
   rw[Pz _ _ (by have:=h.vals _ PA;omega),rA,bw]
 · have ak:i+1<n.kids.length:=by rw[h.len];omega
   have PA:n.kids.getD (i+1) 0∈n.kids:=LH ak
   have bw:n.kids.take (i+2)=n.kids.take (i+1)++ [n.kids.getD (i+1) 0]:=by
     rw[take_succ _ ak,oy,gq ak];rfl
   simp only[h.inner,ox,if_false,h.vals]
   rw[d_,Pz _ _ (by omega)]
   simp only
   rw[LJ _ (by have:=h.kids _ PA;show _<65536;omega),rA,bw]
   simp
theorem Vw {n:aL} (h:dC n):∀i,i≤n.keys.length→
   o9 (⟨n.leaf,[],[],if n.leaf then [] else n.kids.take 1⟩,(oC n 0 n.keys.length,true)) i=(⟨n.leaf,n.keys.take i,n.vals.take i,if n.leaf then [] else n.kids.take (i+1)⟩,(oC n i (n.keys.length-i),true))
 |0,_=>by simp[o9]
 |i+1,hi=>by
   rw[o9,Vw h i (by omega),show n.keys.length-i=n.keys.length-(i+1)+1 by omega,aeU]
   exact aeW h (by omega) _
theorem PB {n:aL} (h:dC n) (aD:cd n≤232):pH n.leaf (qU n)=(n,([],true)):=by
 have ae:=LI h
 unfold pH
 have aW:rdNum (qU n,true) 1=(n.keys.length,((if n.leaf then [] else fJ (n.kids.getD 0 0) 2)++oC n 0 n.keys.length,true)):=by
   have:qU n=fJ n.keys.length 1++((if n.leaf then [] else fJ (n.kids.getD 0 0) 2)++oC n 0 n.keys.length):=by
     rw[←Vv _ (by omega)];rfl
   rw[this,LJ _ (by show _<256;omega)]
 rw[aW]
 simp only
 have bq:yz n.leaf ((if n.leaf then [] else fJ (n.kids.getD 0 0) 2)++oC n 0 n.keys.length,true)=(⟨n.leaf,[],[],if n.leaf then [] else n.kids.take 1⟩,(oC n 0 n.keys.length,true)):=by
   unfold yz
   rcases h with h|h
   · simp[h.leaf]
   · have hd:0<n.kids.length:=by rw[h.len];omega
     have hm:n.kids.getD 0 0∈n.kids:=LH hd
     have:=h.kids _ hm
     simp only[h.inner,ox,if_false]
     rw[LJ _ (by show _<65536;omega)]
     cases H7:n.kids with
     |nil=>rw[H7] at hd;simp at hd
     |cons a l=>simp
 rw[bq,Vw h _ (cU _)]
 have ec:oC n n.keys.length (n.keys.length-n.keys.length)=[]:=by rw[C6];rfl
 rw[ec,gV (cU _)]
 rcases h with h|h
 · rw[gV (by rw[h.len];exact cU _)]
   have:=h.kids
   have:=h.leaf
   cases n
   simp_all
 · rw[gV (by rw[h.vals];simp),gV (by rw[h.len];exact cU _)]
   have:=h.inner
   cases n
   simp_all
theorem wT.uniq {leaf:Bool} {b:List UInt8} {n m:aL} (U:wT leaf b n) (ab:wT leaf b m):n=m:=by
 obtain ⟨a8,cQ,a3,a4⟩:=U
 obtain ⟨c5,cA,ek,e9⟩:=ab
 have aW:=PB a8 a3
 have bq:=PB c5 ek
 rw[cQ,a4] at aW
 rw[cA,e9,aW] at bq
 exact congrArg Prod.fst bq
end
section
def H8 (n:Nat):Nat:=if n%2=1 then (n/2)^^^0x82f63b78 else n/2
def LK:Nat→Nat→Nat
 |0,n=>n
 |k+1,n=>H8 (LK k n)
def Vx (n:Nat) (c:UInt8):Nat:=LK 8 (n^^^c.toNat)
def u4 (n:Nat) (l:List UInt8):Nat:=l.foldl Vx n
def pI (l:List UInt8):Nat:=4294967295-u4 4294967295 l
theorem aeX {n:Nat} (h:n<4294967296):H8 n<4294967296:=by
 unfold H8
 split
 · exact Nat.xor_lt_two_pow (n:=32) (by show _<4294967296;omega) (by decide)
 · omega
theorem PC {n:Nat} (h:n<4294967296):∀k,LK k n<4294967296
 |0=>h
 |k+1=>aeX (PC h k)
theorem aeY {n:Nat} (h:n<4294967296) (c:UInt8):Vx n c<4294967296:=
 PC (Nat.xor_lt_two_pow (n:=32) h (by have:=UInt8.toNat_lt c;show _<4294967296;omega)) 8
theorem LL:∀ (l:List UInt8) {n:Nat},n<4294967296→u4 n l<4294967296
 | [],_,h=>h
 |c::l,_,h=>LL l (aeY h c)
theorem Vy (n:Nat) (a b:List UInt8):u4 n (a++b)=u4 (u4 n a) b:=by simp[u4,List.foldl_append]
theorem PD (l:List UInt8):pI l<4294967296:=by unfold pI;omega
structure sy where
 kind:Nat
 gen:Nat
 body:List UInt8
 deriving DecidableEq
structure H9 (p:sy):Prop where
 ej:1≤p.kind
 eO:p.kind≤4
 gen:p.gen<18446744073709551616
 body:p.body.length≤232
def mN:List UInt8:=[83,84,78,67]
def jm (no:Nat) (p:sy):List UInt8:=mN++([1,UInt8.ofNat p.kind]++(fJ p.body.length 2++(fJ no 4++fJ p.gen 8)))
def jF (p:sy):List UInt8:=p.body++List.replicate (232-p.body.length) 0
def n3 (no:Nat) (p:sy):List UInt8:=jm no p++(fJ (pI (jm no p++jF p)) 4++jF p)
theorem AR (no:Nat) (p:sy):(jm no p).length=20:=by simp[jm,mN,nd]
theorem LM {p:sy} (h:H9 p):(jF p).length=232:=by
 have:=h.body
 simp[jF];omega
theorem Vz {p:sy} (no:Nat) (h:H9 p):(n3 no p).length=256:=by simp[n3,AR,nd,LM h]
def sumOf (l:List UInt8):Nat:=pI (l.take 20++l.drop 24)
def iC (l:List UInt8) (a k:Nat):Nat:=qk ((l.drop a).take k)
def lv (no:Int) (l:List UInt8):Except Int sy:=
 if l.length≠256 then .error 9
 else if l.take 4≠mN then .error 4
 else if l.getD 4 0≠1 then .error 12
 else if sumOf l≠iC l 20 4 then .error 5
 else if¬(1≤(l.getD 5 0).toNat∧(l.getD 5 0).toNat≤4)∨232<iC l 6 2∨(l.drop (24+iC l 6 2)).all (fun c=>c==0)=false then .error 4
 else if¬(0≤no∧no<1600)∨(iC l 8 4:Int)≠no then .error 1
 else .ok ⟨(l.getD 5 0).toNat,iC l 12 8,(l.drop 24).take (iC l 6 2)⟩
theorem drop_left' {α:Type} {a b:List α} {n:Nat} (h:a.length=n):(a++b).drop n=b:=by subst h;exact List.drop_left
theorem yA {α:Type} {a b:List α} {n:Nat} (h:a.length=n):(a++b).take n=a:=by subst h;exact List.take_left
theorem LN {a b:List UInt8} {n k m:Nat} (aT:a.length=m) (h:n<256^k):iC (a++(fJ n k++b)) m k=n:=by
 unfold iC
 rw[drop_left' aT,yA (nd n k),Pu k n h]
theorem aeZ {no:Nat} {p:sy} (dx:no<1600) (h:H9 p):lv no (n3 no p)= .ok p:=by
 have aa:=h.body
 have iY:=h.ej
 have dj:=h.eO
 have bg:=h.gen
 have ba:=LM h
 have cK:=AR no p
 have al:=PD (jm no p++jF p)
 have c_:iC (n3 no p) 20 4=pI (jm no p++jF p):=LN cK (by show _<4294967296;exact al)
 have bq:n3 no p=(mN++ [1,UInt8.ofNat p.kind])++(fJ p.body.length 2++((fJ no 4++fJ p.gen 8)++(fJ (pI (jm no p++jF p)) 4++jF p))):=by
   show jm no p++_=_
   rw[show jm no p=(mN++ [1,UInt8.ofNat p.kind])++(fJ p.body.length 2++(fJ no 4++fJ p.gen 8)) by simp[jm]]
   simp only[d_]
 have cZ:iC (n3 no p) 6 2=p.body.length:=by rw[bq];exact LN rfl (by show _<65536;omega)
 have ec:n3 no p=((mN++ [1,UInt8.ofNat p.kind])++fJ p.body.length 2)++(fJ no 4++(fJ p.gen 8++(fJ (pI (jm no p++jF p)) 4++jF p))):=by rw[bq];simp only[d_]
 have b3:iC (n3 no p) 8 4=no:=by rw[ec];exact LN (by simp[mN,nd]) (by show _<4294967296;omega)
 have jW:n3 no p=((mN++ [1,UInt8.ofNat p.kind])++(fJ p.body.length 2++fJ no 4))++(fJ p.gen 8++(fJ (pI (jm no p++jF p)) 4++jF p)):=by rw[bq];simp only[d_]
 have fc:iC (n3 no p) 12 8=p.gen:=by rw[jW];exact LN (by simp[mN,nd]) (by show _<18446744073709551616;exact bg)
 have kT:n3 no p=(jm no p++fJ (pI (jm no p++jF p)) 4)++jF p:=by simp[n3]
 have PE:(jm no p++fJ (pI (jm no p++jF p)) 4).length=24:=by simp[cK,nd]
 have d24:(n3 no p).drop 24=jF p:=by rw[kT];exact drop_left' PE
 have t4:(n3 no p).take 4=mN:=by rw[bq];rfl
 have aN:(n3 no p).getD 4 0=1:=by rw[bq];rfl
 have cV:((n3 no p).getD 5 0).toNat=p.kind:=by rw[bq];show (UInt8.ofNat p.kind).toNat=p.kind;exact LC (by omega)
 have s:sumOf (n3 no p)=pI (jm no p++jF p):=by
   unfold sumOf
   rw[d24,show (n3 no p).take 20=jm no p from yA cK]
 unfold lv
 rw[if_neg (by rw[Vz no h];simp),if_neg (by rw[t4];simp),if_neg (by rw[aN];simp),if_neg (by rw[s,c_];simp),if_neg (by
   rw[cV,cZ]
   rintro (U|U|U)
   · exact U ⟨iY,dj⟩
   · omega
   · rw[List.all_eq_false] at U
     obtain ⟨c,al,U⟩:=U
     rw[←List.drop_drop,d24] at al
     unfold jF at al
     rw[List.drop_left] at al
     exact U (by rw[O7 al];rfl)),if_neg (by rw[b3];rintro (U|U)<;>omega),cV,cZ,fc,d24]
 have:(jF p).take p.body.length=p.body:=by unfold jF;exact List.take_left
 rw[this]
end
section
def oE (s:ad):Value:= .slice s.a s.len s.cap
abbrev nE (w:World) (s:ad):Prop:=∀k,aP s k→w.heap.size≤k
theorem nE.mono {w w':World} {s:ad} (h:nE w' s) (af:w.heap.size≤w'.heap.size):nE w s:=fun k ae=>j5 af (h k ae)
theorem len8 {w:World} {s:ad} {l:List UInt8} (h:Src 1 w s (bm l)):s.len=l.length:=by have:=h.len;rw[jE] at this;omega
theorem yB {w:World} {T:TypeId} {s:ad} {l:List UInt8} (h:bU 1 T w s (bm l)):s.len=l.length:=by have:=h.1;rw[jE] at this;omega
theorem Dr {w:World} {s:ad} {l:List UInt8} {lo hi:Nat} (h:Src 1 w s (bm l)) (al:s.len≤s.cap) (U:lo≤hi) (ab:hi≤s.len):Src 1 w ⟨bf s.a 1 lo s.cap,hi-lo,s.cap-lo⟩ (bm ((l.drop lo).take (hi-lo))):=by
 have:=Src.sub h al U ab
 simpa[bm,Ff,C4] using this
def ik (ps:List (ad×List UInt8)):List UInt8:=(ps.map (·.2)).flatten
theorem VA (a:List (ad×List UInt8)) (p:ad×List UInt8):ik (a++ [p])=ik a++p.2:=by simp[ik]
theorem ae0 (ps:List (ad×List UInt8)) (j:Nat):(ik (ps.take j)).length≤(ik ps).length:=by
 have h:ps=ps.take j++ps.drop j:=(qd j ps).symm
 have:(ik ps).length=(ik (ps.take j)).length+(ik (ps.drop j)).length:=by
   conv=>lhs;rw[h]
   unfold ik
   rw[m9,Lk,dA]
 omega
theorem VB (ps:List (ad×List UInt8)) {j:Nat} (aU:j<ps.length):(ps[j]).2.length≤(ik ps).length:=by
 have h:ps=ps.take j++ps[j]::ps.drop (j+1):=by rw[←yl aU,qd]
 have:(ik ps).length=(ik (ps.take j)).length+((ps[j]).2.length+(ik (ps.drop (j+1))).length):=by
   conv=>lhs;rw[h]
   unfold ik
   rw[m9,Lk,dA,tB,List.flatten_cons,dA]
 omega
theorem LO {s:ad} {w:World} (ps:List (ad×List UInt8)) (aj:Src 1 w s (ps.map fun p=>oE p.1)) (a6:∀p∈ps,Src 1 w p.1 (bm p.2)) (aA:(ik ps).length≤100000) (aD:ps.length≤100000):
   aR Tryz.prog F.rD #[.slice s.a s.len s.cap] w (fun v w'=>∃au:ad,v= .slice au.a au.len au.cap∧bU 1 ai.uint8 w' au (bm (ik ps))∧Ext w w'∧nE w au):=by
 refine W.ae1 s w _ ?_
 (delta W.rD aE aX ar ay;dsimp only)
 have fR:s.len=ps.length:=by have:=aj.len;rw[kR] at this;omega
 refine ⟨fun au i w'=>∃j:Nat,i=j∧j≤ps.length∧bU 1 ai.uint8 w' au (bm (ik (ps.take j)))∧Ext w w'∧nE w au,fun _ i _=>((ps.length:Int)-i).toNat,⟨0,rfl,fy _,bU.none 1 ai.uint8 _, .refl _ _,fun k ae=>(pE k ae).elim⟩,?_⟩
 rintro au _ ag ⟨j,rfl,aU,bR,af,aI⟩
 refine ⟨fun a_=> ?_,fun cn=> ?_⟩
 · have a_:j<ps.length:=by have:=di a_;omega
   obtain ⟨A,ax,aa,kA⟩:=(aj.ext af).at (i:=j) (v:=oE (ps[j]).1) (by simp[a_])
   have VC:=(a6 _ (eN a_)).ext af
   have U:=VB ps a_
   have ab:=ae0 ps j
   have ao:=len8 VC
   have aG:=yB bR
   obtain ⟨s2,aw,aC,aF,aH,aN,cV⟩:=LG.append (gX:=ai.cG) VC bR (Dk _) (by rw[ao,aG];omega)
   rw[ct (n:=(j:Int)+1) (by omega) (by omega)]
   refine ⟨A,ax,aa,(ps[j]).1,kA,s2,aw,aC,⟨j+1,by omega,by omega,?_,Ext.gf af aN aI,fun k ae=> ?_⟩,?_⟩
   · rw[take_succ _ a_]
     rw[VA,Dl];exact aF
   · rcases cV k ae with h|h
     · exact aI k h
     · exact j5 af.size h
   · show ((ps.length:Int)-((j:Int)+1)).toNat<((ps.length:Int)-(j:Int)).toNat
     omega
 · have cn:j=ps.length:=by have:=eB cn;omega
   subst cn
   rw[rv] at bR
   exact ⟨au,rfl,bR,af,aI⟩
theorem ae2 {s:ad} {l:List UInt8} {w:World} (aj:Src 1 w s (bm l)) (al:s.len≤s.cap) {a k:Nat} (aT:a+k≤l.length) (aA:l.length≤1000000000000):
   aR Tryz.prog F.tH #[.slice s.a s.len s.cap, .int .i64 a, .int .i64 k] w (fun v w'=>v= .tuple #[.slice (bf s.a 1 a s.cap) k (s.cap-a), .bool true]∧w=w'):=by
 have fR:=len8 aj
 refine W.Ps s a k w _ ?_
 delta W.tH aE ay
 rw[ct (n:=((s.len:Nat):Int)-(a:Int)) (by omega) (by omega),ct (n:=(a:Int)+(k:Int)) (by omega) (by omega)]
 refine ⟨fun h=> ?_,fun _=>⟨⟨by omega,by omega⟩,⟨by omega,by omega⟩,?_,rfl⟩⟩
 · simp only[tD,fY] at h;omega
 · rw[show Int.toNat ((a:Int)+(k:Int))-Int.toNat (a:Int)=k by omega];rfl
theorem ae3 {s:ad} {l:List UInt8} {w:World} (aj:Src 1 w s (bm l)) {a k:Nat} (aT:l.length<a+k) (art:a≤l.length) (aA:l.length≤1000000000000) (ae:k≤1000000000000):
   aR Tryz.prog F.tH #[.slice s.a s.len s.cap, .int .i64 a, .int .i64 k] w (fun v w'=>v= .tuple #[.slice none 0 0, .bool false]∧w=w'):=by
 have fR:=len8 aj
 refine W.Ps s a k w _ ?_
 delta W.tH aE ay
 rw[ct (n:=((s.len:Nat):Int)-(a:Int)) (by omega) (by omega),ct (n:=(a:Int)+(k:Int)) (by omega) (by omega)]
 have e:(((decide ((a:Int)<0))||(decide ((k:Int)<0)))||(decide ((a:Int)>((s.len:Nat):Int)))||(decide ((k:Int)>(((s.len:Nat):Int)-(a:Int)))))=true:=by
   simp only[tD,fY];omega
 exact ⟨fun _=>⟨rfl,rfl⟩,fun h=>(by rw[e] at h;cases h)⟩
theorem wU {s:ad} {l:List UInt8} {w:World} (aj:Src 1 w s (bm l)) (al:s.len≤s.cap) {a k:Nat} (aT:a+k≤l.length) (aA:l.length≤100000):
   aR Tryz.prog F.wU #[.slice s.a s.len s.cap, .int .i64 a, .int .i64 k] w (fun v w'=>∃au:ad,v= .tuple #[.slice au.a au.len au.cap, .bool true]∧bU 1 ai.uint8 w' au (bm ((l.drop a).take k))∧Ext w w'∧nE w au):=by
 have fR:=len8 aj
 refine W.ae4 s a k w _ ?_
 (delta W.wU Dp en;dsimp only)
 refine (ae2 aj al aT (by omega)).use ?_
 rintro _ _ ⟨rfl,rfl⟩
 have gW:=Dr aj al (lo:=a) (hi:=a+k) (by omega) (by omega)
 rw[show a+k-a=k by omega] at gW
 refine ⟨⟨bf s.a 1 a s.cap,k,s.cap-a⟩,true,rfl,(Pt gW (by simp;omega)).use ?_⟩
 rintro _ ag ⟨au,rfl,bR,af,aI⟩
 exact ⟨au,rfl,au,rfl,bR,af,aI⟩
theorem ae5 {s:ad} {l:List UInt8} {w:World} (aj:Src 1 w s (bm l)) {k:Nat} (ae:k≤8) (aT:l.length<k):
   aR Tryz.prog F.rB #[.slice s.a s.len s.cap, .int .i64 (0:Nat), .int .i64 k] w (fun v w'=>v= .tuple #[.int .u64 0, .bool false]∧w=w'):=by
 refine W.Vs s (0:Nat) k w _ ?_
 (delta W.rB Dp aE aZ aX g8 ay;dsimp only)
 refine (ae3 aj (a:=0) (by omega) (by omega) (by omega) (by omega)).use ?_
 rintro _ _ ⟨rfl,rfl⟩
 refine ⟨⟨none,0,0⟩,false,rfl,eI (fun b w'=>b=true∧w=w') (fun q J=>⟨fun _=>J _ _ ⟨rfl,rfl⟩,fun h=>by simp at h⟩) ?_⟩
 rintro _ _ ⟨rfl,rfl⟩
 exact ⟨fun _=>⟨rfl,rfl⟩,fun h=>by simp at h⟩
theorem LP {a:Nat} (aT:a<4294967296):(BitVec.ofInt 32 (a:Int))=BitVec.ofNat 32 a:=by simp
theorem LQ {a b:Nat} (aT:a<4294967296) (aa:b<4294967296):Ds .u32 (a:Int) (b:Int)=((a^^^b:Nat):Int):=by
 unfold Ds
 show IntKind.u32.wrap (((BitVec.ofInt 32 (a:Int)^^^BitVec.ofInt 32 (b:Int)).toNat:Nat):Int)=_
 rw[LP aT,LP aa,BitVec.toNat_xor,BitVec.toNat_ofNat,BitVec.toNat_ofNat,ru (by simpa using aT),ru (by simpa using aa)]
 have:a^^^b<4294967296:=Nat.xor_lt_two_pow (n:=32) aT aa
 rw[PF (by omega) (by omega)]
theorem ae6 {a b:Nat} (aT:a<4294967296) (aa:b<4294967296):sA .u32 (a:Int) (b:Int)=((a&&&b:Nat):Int):=by
 unfold sA
 show IntKind.u32.wrap (((BitVec.ofInt 32 (a:Int)&&&BitVec.ofInt 32 (b:Int)).toNat:Nat):Int)=_
 rw[LP aT,LP aa,BitVec.toNat_and,BitVec.toNat_ofNat,BitVec.toNat_ofNat,ru (by simpa using aT),ru (by simpa using aa)]
 have:a&&&b≤a:=Nat.and_le_left
 rw[PF (by omega) (by omega)]
theorem ae7 {n:Nat} (aD:n<4294967296):
   Ds .u32 (Int.fdiv (n:Int) (2^(min (Int.toNat 1) 32))) (sA .u32 2197175160 (IntKind.wrap .u32 (0-(sA .u32 (n:Int) 1))))=((H8 n:Nat):Int):=by
 have aW:sA .u32 (n:Int) 1=((n%2:Nat):Int):=by
   have:=ae6 aD (show 1<4294967296 by omega)
   rw[Nat.and_one_is_mod] at this
   exact this
 have bq:Int.fdiv (n:Int) (2^(min (Int.toNat 1) 32))=((n/2:Nat):Int):=by
   rw[Int.fdiv_eq_ediv_of_nonneg _ (by decide)];rfl
 rw[aW,bq]
 unfold H8
 rcases Nat.mod_two_eq_zero_or_one n with h|h
 · rw[h,if_neg (by omega)]
   have ec:sA .u32 2197175160 (IntKind.wrap .u32 (0-((0:Nat):Int)))=((0:Nat):Int):=by decide+kernel
   rw[ec,LQ (by omega) (by omega),Nat.xor_zero]
 · rw[h,if_pos rfl]
   have ec:sA .u32 2197175160 (IntKind.wrap .u32 (0-((1:Nat):Int)))=((2197175160:Nat):Int):=by decide+kernel
   rw[ec,LQ (by omega) (by omega)]
theorem wV {s:ad} {l:List UInt8} {w:World} {n:Nat} (aj:Src 1 w s (bm l)) (aD:n<4294967296) (aA:l.length≤1000000):
   aR Tryz.prog F.wV #[.int .u32 n, .slice s.a s.len s.cap] w (fun v w'=>v= .int .u32 (u4 n l:Nat)∧w=w'):=by
 have fR:=len8 aj
 refine W.ae8 n s w _ ?_
 (delta W.wV aE aX g8 ay;dsimp only)
 refine ⟨fun m i w'=>∃j:Nat,i=j∧j≤l.length∧m=((u4 n (l.take j):Nat):Int)∧w=w',fun _ i _=>((l.length:Int)-i).toNat,⟨0,rfl,fy _,rfl,rfl⟩,?_⟩
 rintro _ _ _ ⟨j,rfl,aU,rfl,rfl⟩
 refine ⟨fun a_=> ?_,fun cn=> ?_⟩
 · have a_:j<l.length:=by have:=di a_;omega
   obtain ⟨A,ax,aa,kA⟩:=aj.at (Fz a_)
   have hm:=LL (l.take j) aD
   have al:=UInt8.toNat_lt (l[j])
   have af:=Nat.xor_lt_two_pow (n:=32) hm (show (l[j]).toNat<4294967296 by omega)
   refine ⟨A,ax,aa,_,kA,fun m i w'=>∃k:Nat,i=k∧k≤8∧m=((LK k (u4 n (l.take j)^^^(l[j]).toNat):Nat):Int)∧w=w',fun _ i _=>((8:Int)-i).toNat,⟨0,rfl,by omega,?_,rfl⟩,?_⟩
   · rw[PF (by omega) (by omega),LQ hm (by omega)];rfl
   rintro _ _ _ ⟨k,rfl,ae,rfl,rfl⟩
   refine ⟨fun LR=> ?_,fun LS=> ?_⟩
   · have LR:k<8:=by have:=di LR;omega
     rw[ae7 (PC af k),ct (n:=(k:Int)+1) (by omega) (by omega)]
     refine ⟨by decide,⟨k+1,by omega,by omega,rfl,rfl⟩,?_⟩
     show ((8:Int)-((k:Int)+1)).toNat<((8:Int)-(k:Int)).toNat
     omega
   · have LS:k=8:=by have:=eB LS;omega
     subst LS
     rw[ct (n:=(j:Int)+1) (by omega) (by omega)]
     refine ⟨⟨j+1,by omega,by omega,?_,rfl⟩,?_⟩
     · rw[take_succ _ a_,Vy];rfl
     · show ((l.length:Int)-((j:Int)+1)).toNat<((l.length:Int)-(j:Int)).toNat
       omega
 · have cn:j=l.length:=by have:=eB cn;omega
   subst cn
   rw[rv]
   exact ⟨rfl,rfl⟩
theorem ae9 {n:Nat} (h:n<4294967296):4294967295^^^n=4294967295-n:=by
 apply Nat.eq_of_testBit_eq
 intro i
 have U:(4294967295-n).testBit i=(decide (i<32)&& !n.testBit i):=by
   have:=Nat.testBit_two_pow_sub_succ (n:=32) (x:=n) (by simpa using h) i
   rw[←this];congr 1;omega
 have ab:(4294967295:Nat).testBit i=decide (i<32):=by
   have:=Nat.testBit_two_pow_sub_one 32 i
   exact this
 rw[Nat.testBit_xor,U,ab]
 by_cases hi:i<32
 · simp[hi]
 · have:n.testBit i=false:=by
     apply Nat.testBit_lt_two_pow
     exact lP h (Lj (n:=2) (by omega) (show 32≤i by omega))
   simp[hi,this]
theorem ae_ {s:ad} {w:World} (ps:List (ad×List UInt8)) (aj:Src 1 w s (ps.map fun p=>oE p.1)) (a6:∀p∈ps,Src 1 w p.1 (bm p.2)) (aA:(ik ps).length≤100000) (aD:ps.length≤100000):
   aR Tryz.prog F.AS #[.slice s.a s.len s.cap] w (fun v w'=>v= .int .u32 (pI (ik ps):Nat)∧w=w'):=by
 refine W.afa s w _ ?_
 (delta W.AS aE aX ar mx ay;dsimp only)
 have fR:s.len=ps.length:=by have:=aj.len;rw[kR] at this;omega
 refine ⟨fun m i w'=>∃j:Nat,i=j∧j≤ps.length∧m=((u4 4294967295 (ik (ps.take j)):Nat):Int)∧w=w',fun _ i _=>((ps.length:Int)-i).toNat,⟨0,rfl,fy _,rfl,rfl⟩,?_⟩
 rintro _ _ _ ⟨j,rfl,aU,rfl,rfl⟩
 refine ⟨fun a_=> ?_,fun cn=> ?_⟩
 · have a_:j<ps.length:=by have:=di a_;omega
   obtain ⟨A,ax,aa,kA⟩:=aj.at (i:=j) (v:=oE (ps[j]).1) (by simp[a_])
   have hm:=LL (ik (ps.take j)) (n:=4294967295) (by decide)
   refine ⟨A,ax,aa,(ps[j]).1,kA,(wV (a6 _ (eN a_)) hm (by have:=VB ps a_;omega)).use ?_⟩
   rintro _ _ ⟨rfl,rfl⟩
   rw[ct (n:=(j:Int)+1) (by omega) (by omega)]
   refine ⟨_,rfl,⟨j+1,by omega,by omega,?_,rfl⟩,?_⟩
   · rw[take_succ _ a_,←Vy,VA]
   · show ((ps.length:Int)-((j:Int)+1)).toNat<((ps.length:Int)-(j:Int)).toNat
     omega
 · have cn:j=ps.length:=by have:=eB cn;omega
   subst cn
   rw[rv]
   have hm:=LL (ik ps) (n:=4294967295) (by decide)
   refine ⟨?_,rfl⟩
   have:=LQ (a:=4294967295) (b:=u4 4294967295 (ik ps)) (by decide) hm
   rw[ae9 hm] at this
   exact congrArg _ this
theorem tJ {s:ad} {l:List UInt8} {w:World} (aj:Src 1 w s (bm l)) (al:s.len≤s.cap) (aA:l.length=256):
   aR Tryz.prog F.tJ #[.slice s.a s.len s.cap] w (fun v w'=>v= .int .u32 (sumOf l:Nat)∧Ext w w'):=by
 have fR:=len8 aj
 refine W.afb s w _ ?_
 (delta W.tJ az mx ah;dsimp only)
 have bH:Ext w w.drew:=aq.drew (.refl _ _)
 refine ⟨⟨by decide,by omega⟩,⟨by decide,by omega⟩,?_⟩
 have U:=Dr (aj.ext bH) al (lo:=0) (hi:=20) (by omega) (by omega)
 have ab:=Dr (aj.ext bH) al (lo:=24) (hi:=s.len) (by omega) (by omega)
 have cB:∀o,Ext w.drew (w.drew.alloc o):=fun o=>aq.alloc (.refl _ _) o
 refine (ae_ [(⟨bf s.a 1 0 s.cap,20-0,s.cap-0⟩,(l.drop 0).take (20-0)),(⟨bf s.a 1 24 s.cap,s.len-24,s.cap-24⟩,(l.drop 24).take (s.len-24))] (s:=⟨some ⟨w.drew.heap.size,0,none⟩,2,2⟩) (Src.new w.drew _ 2 rfl) ?_ ?_ ?_).use ?_
 · intro p a6
   simp only[fP,mL,mM] at a6
   rcases a6 with rfl|rfl
   · exact U.ext (cB _)
   · exact ab.ext (cB _)
 · simp[ik];omega
 · simp
 rintro _ ag ⟨rfl,rfl⟩
 refine ⟨_,rfl,?_,bH.trans (cB _)⟩
 have:ik [((⟨bf s.a 1 0 s.cap,20-0,s.cap-0⟩:ad),(l.drop 0).take (20-0)),(⟨bf s.a 1 24 s.cap,s.len-24,s.cap-24⟩,(l.drop 24).take (s.len-24))]=l.take 20++l.drop 24:=by
   simp only[ik,tB,List.map_nil,List.flatten_cons,List.flatten_nil,lM,C7]
   rw[gV (l:=l.drop 24) (by rw[fx];omega)]
 rw[this];rfl
end
section
theorem bU.afc {T:TypeId} {w:World} {s:ad} {vs us:List Value} {b o:Nat} (h:bU 1 T w s vs) (aa:s.a=some ⟨b,0,none⟩) (bR:o+us.length≤s.len):
   bU 1 T (setCells w ⟨b,o,none⟩ 0 us) s (vs.take o++us++vs.drop (o+us.length)):=by
 obtain ⟨U,ab,ao,aG⟩:=h
 rcases aG with ⟨aD,_⟩|⟨iD,c,my,il,eY,ba⟩
 · rw[aD] at aa;cases aa
 · rw[aa] at my
   cases my
   have AL:c.toList.length=s.cap:=by simpa using eY
   have hle:o+us.length≤c.size:=by omega
   rw[lp] at U eY
   refine ⟨by simp;omega,ab,ao, .inr ⟨b,_,aa,ck.AT il us,by rw[qi];omega,?_⟩⟩
   rw[lp] at ba⊢
   rw[yC _ _ _ hle,←ba,HO,sr (by omega),d_,d_,List.take_append,List.take_append,eA,sr (by omega),
     gV (l:=c.toList.take o) (by rw[eA];omega),gV (l:=us) (by omega),List.drop_take,show s.len-o-us.length=s.len-(o+us.length) by omega]
theorem LU (w:World) (l:List UInt8):
   ∃w',Sem.run Tryz.prog (convert ai.cG ai.cG (.slice (some ⟨w.heap.size,0,none⟩) l.length l.length)) (w.alloc (.cells (bm l).toArray ai.uint8))= .ok (.slice (some ⟨w.heap.size,0,none⟩) l.length l.length) w'∧
     Src 1 w' ⟨some ⟨w.heap.size,0,none⟩,l.length,l.length⟩ (bm l)∧Ext w w'∧w'.heap.size=w.heap.size+1:=by
 refine ⟨_,Go.Lib.run_convert_bytes_const (P:=Tryz.prog) w ai.cG ai.uint8 (bm l).toArray l.length l.length (by kernel_rfl) (by kernel_rfl),⟨by rw[jE,lp],(fun h=>by cases h),fun a aT=> ?_⟩,aq.alloc (.refl _ _) _,by simp⟩
 cases aT
 have:=Pq (w:=w.alloc (.cells (bm l).toArray ai.uint8 ((bm l).toArray.size,(bm l).toArray.size+1))) (A:=⟨w.heap.size,0,none⟩) (bm l) 0 (fun j v aU=>by
   rw[bn]
   show (World.cell? _ _)=_
   have:(w.alloc (.cells (bm l).toArray ai.uint8 ((bm l).toArray.size,(bm l).toArray.size+1))).heap[w.heap.size]? =some (.cells (bm l).toArray ai.uint8 ((bm l).toArray.size,(bm l).toArray.size+1)):=by
     show (w.heap.push _)[w.heap.size]? =_
     simp
   simp only[World.cell?,this]
   simpa using aU)
 rw[jE] at this
 rw[lp]
 exact this
theorem VD (n:Nat):oF Tryz.prog ai.uint8 n=(bm (List.replicate n 0)).toArray:=by
 rw[VE (v:= .int .u8 0) (by kernel_rfl) (by kernel_rfl)]
 simp[bm]
theorem afd {A Z T C:List UInt8} {n m:Nat} (ax:A.length=n) (tK:Z.length=m):(bm (A++(Z++T))).take n++bm C++(bm (A++(Z++T))).drop (n+m)=bm (A++(C++T)):=by
 have aW:(bm (A++(Z++T))).take n=bm A:=by rw[Dl];exact yA (by rw[jE,ax])
 have bq:(bm (A++(Z++T))).drop (n+m)=bm T:=by rw[←d_,Dl];exact drop_left' (by rw[jE,dA,ax,tK])
 rw[aW,bq,Dl,Dl,d_]
theorem eR (w:World):Ext w w.drew:=aq.drew (.refl _ _)
theorem im (w:World) (o:Obj):Ext w (w.alloc o):=aq.alloc (.refl _ _) o
theorem Dt (w:World) (o:Obj):(w.alloc o).heap.size=w.heap.size+1:=by simp
theorem afe {s:ad} {p:sy} {no:Nat} {w:World} (aj:Src 1 w s (bm p.body)) (dx:no<1600) (a6:H9 p):
   aR Tryz.prog F.AU #[.int .i64 no, .agg #[.int .i64 p.kind, .int .u64 p.gen, .slice s.a s.len s.cap]] w (fun v w'=>∃au:ad,v= .tuple #[.slice au.a au.len au.cap, .int .i64 0]∧bU 1 ai.uint8 w' au (bm (n3 no p))∧Ext w w'∧nE w au):=by
 have iY:=a6.ej
 have dj:=a6.eO
 have aru:=a6.gen
 have u5:=a6.body
 have fR:=len8 aj
 refine W.aff no p.kind p.gen s w _ ?_
 (delta W.AU aZ aE bL ah ar en jX wW PG ay PH mx;dsimp only)
 refine cq (vs:=[.int .i64 p.kind, .int .u64 p.gen, .slice s.a s.len s.cap]) rfl fun ag ak bH n4=> ?_
 have bA:∀ {w':World},Ext ag w'→w'.cell? (Addr.add ⟨w.heap.size,0,none⟩ 2)=some (.slice s.a s.len s.cap):=fun af=>by rw[bn];exact (ak.ext af).cell
 have aS:∀ {w':World},Ext ag w'→w'.cell? (Addr.add ⟨w.heap.size,0,none⟩ 1)=some (.int .u64 p.gen):=fun af=>by rw[bn];exact (ak.ext af).cell
 refine Calls.mono (W.VF no ag (fun v w'=>v= .bool true∧ag=w') ⟨by simp;omega,rfl⟩) ?_
 rintro _ _ ⟨_,rfl,rfl,rfl⟩
 refine ⟨_,rfl,eI (fun b w'=>b=false∧ag=w') (fun q J=>⟨fun U=>by simp at U,fun U=>⟨p.kind,ak.cell,?_⟩⟩) ?_⟩
 · refine Calls.mono (W.VG p.kind ag (fun v w'=>v= .bool true∧ag=w') ⟨by simp;omega,rfl⟩) ?_
   rintro _ _ ⟨_,rfl,rfl,rfl⟩
   exact ⟨_,rfl,J _ _ ⟨rfl,rfl⟩⟩
 rintro b _ ⟨rfl,rfl⟩
 refine ⟨fun h=>(by cases h),fun _=>⟨s,bA (.refl _ _),fun h=>(by have:=di h;omega),fun _=>bW ?_⟩⟩
 obtain ⟨aw,yD,hm,yE,u6⟩:=LU ag mN
 refine ⟨⟨some ⟨ag.heap.size,0,none⟩,4,4⟩,aw,yD,p.kind,(ak.ext yE).cell,?_⟩
 have rA:IntKind.wrap .u8 (p.kind:Int)=(((UInt8.ofNat p.kind).toNat:Nat):Int):=by rw[LC (by omega),PI (by omega) (by omega)]
 rw[rA]
 have ae:=Src.new (T:=ai.uint8) (sz:=1) aw (bm [1,UInt8.ofNat p.kind]) 2 rfl
 have PJ:=im aw (.cells (bm [1,UInt8.ofNat p.kind]).toArray ai.uint8)
 obtain ⟨bc,nF⟩:∃bc,bc=aw.alloc (.cells (bm [1,UInt8.ofNat p.kind]).toArray ai.uint8):=⟨_,rfl⟩
 show az (aw.alloc (.cells (bm [1,UInt8.ofNat p.kind]).toArray ai.uint8)) _
 rw[←nF] at ae PJ⊢
 refine bW ?_
 have tL:=Src.new (T:=ai.cG) (sz:=1) bc [.slice (some ⟨ag.heap.size,0,none⟩) 4 4, .slice (some ⟨aw.heap.size,0,none⟩) 2 2] 2 rfl
 have wX:=im bc (.cells #[.slice (some ⟨ag.heap.size,0,none⟩) 4 4, .slice (some ⟨aw.heap.size,0,none⟩) 2 2] ai.cG)
 obtain ⟨bz,FF⟩:∃bz,bz=bc.alloc (.cells #[.slice (some ⟨ag.heap.size,0,none⟩) 4 4, .slice (some ⟨aw.heap.size,0,none⟩) 2 2] ai.cG):=⟨_,rfl⟩
 have tL:Src 1 bz ⟨some ⟨bc.heap.size,0,none⟩,2,2⟩ [.slice (some ⟨ag.heap.size,0,none⟩) 4 4, .slice (some ⟨aw.heap.size,0,none⟩) 2 2]:=by rw[FF];exact tL
 rw[←FF] at wX⊢
 have sB:Ext ag bz:=yE.trans (PJ.trans wX)
 refine bW ((LO (s:=⟨some ⟨bc.heap.size,0,none⟩,2,2⟩) [((⟨some ⟨ag.heap.size,0,none⟩,4,4⟩:ad),mN),(⟨some ⟨aw.heap.size,0,none⟩,2,2⟩,[1,UInt8.ofNat p.kind])] tL ?_ (by simp[ik,mN]) (by simp)).use ?_)
 · intro q J
   simp only[fP,mL,mM] at J
   rcases J with rfl|rfl
   · exact hm.ext (PJ.trans wX)
   · exact ae.ext wX
 rintro _ bT ⟨b7,rfl,wY,kp,afg⟩
 have pJ:=sB.trans kp
 have kT:ik [((⟨some ⟨ag.heap.size,0,none⟩,4,4⟩:ad),mN),(⟨some ⟨aw.heap.size,0,none⟩,2,2⟩,[1,UInt8.ofNat p.kind])]=mN++ [1,UInt8.ofNat p.kind]:=by simp[ik]
 rw[kT] at wY
 refine ⟨b7,rfl,s,bA pJ,?_⟩
 rw[u3 (n:=((s.len:Nat):Int)) (by omega) (by omega),u3 (n:=(no:Int)) (by omega) (by omega)]
 refine (n2 wY.src (n:=s.len) (k:=2) (by simp[mN]) (by show _<18446744073709551616;omega) ⟨by decide,by decide⟩).use ?_
 rintro _ bd ⟨c3,rfl,tM,jG,AV⟩
 have oG:=pJ.trans jG
 refine ⟨c3,rfl,(n2 tM.src (n:=no) (k:=4) (by simp[mN,nd]) (by show _<18446744073709551616;omega) ⟨by decide,by decide⟩).use ?_⟩
 rintro _ bt ⟨gY,rfl,FG,fe,wZ⟩
 have tN:=oG.trans fe
 refine ⟨gY,rfl,_,aS tN,(n2 FG.src (n:=p.gen) (k:=8) (by simp[mN,nd]) (by show _<18446744073709551616;omega) ⟨by decide,by decide⟩).use ?_⟩
 rintro _ bC ⟨dQ,rfl,rE,fF,VH⟩
 have AW:=tN.trans fF
 have tO:mN++ [1,UInt8.ofNat p.kind]++fJ s.len 2++fJ no 4++fJ p.gen 8=jm no p:=by rw[fR];simp[jm]
 rw[tO] at rE
 refine ⟨dQ,rfl,eI (fun t w'=>bU 1 ai.uint8 w' t (bm (jm no p++(List.replicate 4 0++jF p)))∧Ext ag w'∧nE w t) (fun q J=> ?_) ?_⟩
 · have bS:=eR bC
   have VI:=AW.trans bS
   have yF:IntKind.wrap .i64 (232-((s.len:Nat):Int))=((232-s.len:Nat):Int):=by rw[ct (by omega) (by omega)];omega
   refine bW ⟨fun _=>False,id,s,bA VI,id,s,bA VI,?_⟩
   rw[yF]
   simp only[g6,show Int.toNat 4=4 from rfl]
   rw[VD,VD]
   have fin:∀ (bY yG:World) (c8 oH:ad),Ext bC yG→Src 1 yG c8 (bm (List.replicate 4 0))→Src 1 yG oH (bm (List.replicate (232-s.len) 0))→
       Calls Tryz.prog F.rD #[.slice (some ⟨yG.heap.size,0,none⟩) 4 4] (yG.alloc (.cells #[.slice dQ.a dQ.len dQ.cap, .slice c8.a c8.len c8.cap, .slice s.a s.len s.cap, .slice oH.a oH.len oH.cap] ai.cG)) fun afh dO=>∃iN:ad,afh= .returned (.slice iN.a iN.len iN.cap)∧q iN dO:=by
     intro bY yG c8 oH LV U ab
     have mg:=im yG (.cells #[.slice dQ.a dQ.len dQ.cap, .slice c8.a c8.len c8.cap, .slice s.a s.len s.cap, .slice oH.a oH.len oH.cap] ai.cG)
     refine (LO (s:=⟨some ⟨yG.heap.size,0,none⟩,4,4⟩) [(dQ,jm no p),(c8,List.replicate 4 0),(s,p.body),(oH,List.replicate (232-s.len) 0)] (Src.new yG _ 4 rfl) ?_ (by simp[ik,AR];omega) (by simp)).use ?_
     · intro x af
       simp only[fP,mL,mM] at af
       rcases af with rfl|rfl|rfl|rfl
       · exact rE.src.ext (LV.trans mg)
       · exact U.ext mg
       · exact aj.ext ((bH.trans (AW.trans LV)).trans mg)
       · exact ab.ext mg
     · rintro _ cj ⟨fj,rfl,bR,af,aI⟩
       refine ⟨fj,rfl,J _ _ ⟨?_,(AW.trans LV).trans (mg.trans af),aI.mono (bH.trans ((AW.trans LV).trans mg)).size⟩⟩
       have e:ik [(dQ,jm no p),(c8,List.replicate 4 0),(s,p.body),(oH,List.replicate (232-s.len) 0)]=jm no p++(List.replicate 4 0++jF p):=by simp[ik,jF,fR]
       rwa[e] at bR
   refine ⟨⟨⟨by decide,by decide,by decide,by decide⟩,bW ⟨im _ _,⟨by omega,Int.le_refl _,by omega,by omega⟩,bW ⟨im _ _,bW ?_⟩⟩⟩,⟨⟨by omega,Int.le_refl _,by omega,by omega⟩,bW ⟨im _ _,⟨by decide,by decide,by decide,by decide⟩,bW ⟨im _ _,bW ?_⟩⟩⟩⟩
   · refine fin bC _ ⟨some ⟨bC.drew.heap.size,0,none⟩,4,4⟩ ⟨some ⟨(bC.drew.alloc _).heap.size,0,none⟩,232-s.len,232-s.len⟩ (bS.trans ((im _ _).trans (im _ _))) (Src.ext (Src.new _ _ _ (by simp[bm])) (im _ _)) (Src.new _ _ _ (by simp[bm]))
   · refine fin bC _ ⟨some ⟨(bC.drew.alloc _).heap.size,0,none⟩,4,4⟩ ⟨some ⟨bC.drew.heap.size,0,none⟩,232-s.len,232-s.len⟩ (bS.trans ((im _ _).trans (im _ _))) (Src.new _ _ _ (by simp[bm])) (Src.ext (Src.new _ _ _ (by simp[bm])) (im _ _))
 rintro t bY ⟨nG,H_,AX⟩
 have mO:t.len=256:=by
   have:=yB nG
   rw[this];simp[AR,LM a6]
 have bS:=eR bY
 refine bW ⟨fun _=>False,⟨by decide,by omega⟩,(tJ (nG.src.ext bS) nG.2.1 (by simp[AR,LM a6])).use ?_⟩
 rintro _ cj ⟨rfl,mz⟩
 have es:sumOf (jm no p++(List.replicate 4 0++jF p))=pI (jm no p++jF p):=by
   unfold sumOf
   rw[yA (AR no p),←d_,drop_left' (by simp[AR])]
 rw[es]
 have AL:=PD (jm no p++jF p)
 refine ⟨_,rfl,fun _=>False,?_⟩
 rw[u3 (by omega) (by omega)]
 refine (n2 (s:=⟨none,0,0⟩) (l:=[]) (n:=pI (jm no p++jF p)) (k:=4) (bU.none 1 ai.uint8 cj).src (by simp) (by show _<18446744073709551616;omega) ⟨by decide,by decide⟩).use ?_
 rintro _ bZ ⟨eF,rfl,FH,mh,afi⟩
 rw[uW] at FH
 have VJ:=bS.trans (mz.trans mh)
 have VK:=nG.ext VJ
 have VL:=yB FH
 rw[nd] at VL
 obtain ⟨b,c,aa,il,eY,_⟩:∃b c,t.a=some ⟨b,0,none⟩∧ck bZ b c ai.uint8∧c.size=t.cap*1∧c.toList.take (t.len*1)=bm (jm no p++(List.replicate 4 0++jF p)):=by
   rcases VK.2.2.2 with ⟨_,al⟩|⟨b,c,U,ab,ao,aG⟩
   · have:=nG.2.1;omega
   · exact ⟨b,c,U,ab,ao,aG⟩
 have afj:bf t.a 1 (Int.toNat 20) t.cap=some ⟨b,20,none⟩:=by
   rw[aa,show Int.toNat 20=20 from rfl,LW (by have:=nG.2.1;omega)]
 have arv:=nG.2.1
 refine ⟨eF,rfl,_,_,by rw[afj];exact aeJ (by kernel_rfl) FH.src (by rw[VL];show 4≤t.len-20;omega) (il.de _ _ (by rw[jE,nd];omega) (Dk _)),t,rfl,?_,?_,AX⟩
 · have:=bU.afc VK aa (o:=20) (us:=bm (fJ (pI (jm no p++jF p)) 4)) (by rw[jE,nd];omega)
   have e:(bm (jm no p++(List.replicate 4 0++jF p))).take 20++bm (fJ (pI (jm no p++jF p)) 4)++(bm (jm no p++(List.replicate 4 0++jF p))).drop (20+(bm (fJ (pI (jm no p++jF p)) 4)).length)=bm (n3 no p):=by
     rw[jE,nd]
     exact afd (AR no p) (by simp)
   rwa[e] at this
 · refine Ext.gf (bH.trans (H_.trans VJ)) (aq.yx (.refl _ _) _ 0) fun k ae=> ?_
   subst ae
   exact AX _ ⟨_,aa,rfl⟩
end
section
theorem ql {s:ad} {l:List UInt8} {w:World} (aj:Src 1 w s (bm l)) (al:s.len≤s.cap) {a k:Nat} {e:Int} (he:e=((a+k:Nat):Int)) (ae:1≤k∧k≤8) (aT:a+k≤l.length) (aA:l.length≤1000):
   aR Tryz.prog F.ql #[.slice s.a s.len s.cap, .int .i64 a, .int .i64 e] w (fun v w'=>v= .int .u64 (iC l a k:Nat)∧w=w'):=by
 subst he
 refine W.afk s a ((a+k:Nat):Int) w _ ?_
 (delta W.ql LX ay;dsimp only)
 rw[ct (by omega) (by omega),show (((a+k:Nat):Int)-(a:Int))=(k:Int) by omega]
 refine (rB aj al ae aT (by omega)).use ?_
 rintro _ _ ⟨rfl,rfl⟩
 exact ⟨_,_,rfl,rfl,rfl⟩
theorem w2 {s:ad} {l:List UInt8} {w:World} (aj:Src 1 w s (bm l)) (aA:l.length≤1000):
   aR Tryz.prog F.w2 #[.slice s.a s.len s.cap] w (fun v w'=>v= .bool (l.all fun c=>c==0)∧w=w'):=by
 have fR:=len8 aj
 refine W.afl s w _ ?_
 (delta W.w2 aE aX g8 ay;dsimp only)
 refine ⟨fun i w'=>∃j:Nat,i=j∧j≤l.length∧w=w'∧∀ (k:Nat) (ae:k<l.length),k<j→l[k]=0,fun i _=>((l.length:Int)-i).toNat,⟨0,rfl,fy _,rfl,fun k ae h=>by omega⟩,?_⟩
 rintro _ _ ⟨j,rfl,aU,rfl,eT⟩
 refine ⟨fun a_=> ?_,fun cn=> ?_⟩
 · have a_:j<l.length:=by have:=di a_;omega
   obtain ⟨A,ax,aa,kA⟩:=aj.at (Fz a_)
   refine ⟨A,ax,aa,_,kA,fun dI=> ?_,fun heq=> ?_⟩
   · refine ⟨?_,rfl⟩
     have:(l.all fun c=>c==0)=false:=by
       rw[List.all_eq_false]
       refine ⟨l[j],eN _,fun h=> ?_⟩
       have h:=eq_of_beq h
       rw[h] at dI
       simp at dI
     rw[this]
   · have b5:l[j]=0:=by
       have:(((l[j]).toNat:Nat):Int)=0:=by simpa using heq
       exact UInt8.toNat_inj.1 (by show (l[j]).toNat=0;omega)
     rw[ct (n:=(j:Int)+1) (by omega) (by omega)]
     refine ⟨⟨j+1,by omega,by omega,rfl,fun k ae h=> ?_⟩,?_⟩
     · rcases g2 k j with U|U
       · exact eT k ae U
       · have:k=j:=by omega
         subst this;exact b5
     · show ((l.length:Int)-((j:Int)+1)).toNat<((l.length:Int)-(j:Int)).toNat
       omega
 · have cn:j=l.length:=by have:=eB cn;omega
   subst cn
   refine ⟨?_,rfl⟩
   have:(l.all fun c=>c==0)=true:=by
     rw[Fh]
     intro c al
     obtain ⟨k,ae,rfl⟩:=lO al
     rw[eT k ae ae];rfl
   rw[this]
def VM (kind gen:Int) (s:ad):Value:= .agg #[.int .i64 kind, .int .u64 gen, .slice s.a s.len s.cap]
def LY (r:Except Int sy) (w w':World) (v:Value):Prop:=
 match r with
 | .ok p=>∃s:ad,v= .tuple #[VM p.kind p.gen s, .int .i64 0]∧bU 1 ai.uint8 w' s (bm p.body)∧nE w s
 | .error e=>v= .tuple #[VM 0 0 ⟨none,0,0⟩, .int .i64 e]
theorem VN {w':World} {h:Nat} {vs:List Value} (n g:Int) (s:ad) (ak:Var w' h vs ai.Ia) (aA:vs.length=3) {K:Int→Int→ad→World→Prop} (bp:∀aw,aq (fun q=>q=h) w' aw→K n g s aw):
   cN w' ⟨h,0,none⟩ [.int .i64 n, .int .u64 g, .slice s.a s.len s.cap]∧(3:Nat)=3∧az (setCells w' ⟨h,0,none⟩ 0 [.int .i64 n, .int .u64 g, .slice s.a s.len s.cap]) fun aw=>
     ∃b3:Int,aw.cell? ⟨h,0,none⟩=some (.int .i64 b3)∧∃fc:Int,aw.cell? (Addr.add ⟨h,0,none⟩ 1)=some (.int .u64 fc)∧∃b7:ad,aw.cell? (Addr.add ⟨h,0,none⟩ 2)=some (.slice b7.a b7.len b7.cap)∧K b3 fc b7 aw:=by
 refine ⟨ak.de (by rw[aA];rfl) ?_,rfl,dW ak (us:=[.int .i64 n, .int .u64 g, .slice s.a s.len s.cap]) (by rw[aA];rfl) rfl fun aw f_ al _=> ?_⟩
 · intro v ak
   simp only[fP,mL,mM] at ak
   rcases ak with rfl|rfl|rfl<;>trivial
 · exact ⟨n,f_.cell,g,by rw[bn];exact f_.cell,s,by rw[bn];exact f_.cell,bp aw al⟩
theorem w3 {s:ad} {l:List UInt8} {w:World} (aj:Src 1 w s (bm l)) (al:s.len≤s.cap) (aA:l.length≤1000) (no:Int):
   aR Tryz.prog F.w3 #[.int .i64 no, .slice s.a s.len s.cap] w (fun v w'=>LY (lv no l) w w' v∧Ext w w'):=by
 have fR:=len8 aj
 refine W.afm no s w _ ?_
 (delta W.w3 z3 aE ah bL jX ar PK aX g8 mx Ib aZ ay Dp;dsimp only)
 refine cq (vs:=[.int .i64 0, .int .u64 0, .slice none 0 0]) rfl fun ag ak bH _=> ?_
 have out:∀ (w':World) (e:Int),Ext ag w'→lv no l= .error e→
     cN w' ⟨w.heap.size,0,none⟩ [.int .i64 0, .int .u64 0, .slice none 0 0]∧(3:Nat)=3∧az (setCells w' ⟨w.heap.size,0,none⟩ 0 [.int .i64 0, .int .u64 0, .slice none 0 0]) fun aw=>
     ∃b3:Int,aw.cell? ⟨w.heap.size,0,none⟩=some (.int .i64 b3)∧∃fc:Int,aw.cell? (Addr.add ⟨w.heap.size,0,none⟩ 1)=some (.int .u64 fc)∧∃b7:ad,aw.cell? (Addr.add ⟨w.heap.size,0,none⟩ 2)=some (.slice b7.a b7.len b7.cap)∧
       (fun v w'=>LY (lv no l) w w' v∧Ext w w') (.tuple #[.agg #[.int .i64 b3, .int .u64 fc, .slice b7.a b7.len b7.cap], .int .i64 e]) aw:=by
   intro w' e af he
   refine VN 0 0 ⟨none,0,0⟩ (ak.ext af) rfl (K:=fun b3 fc b7 aw=>(fun v w'=>LY (lv no l) w w' v∧Ext w w') (.tuple #[.agg #[.int .i64 b3, .int .u64 fc, .slice b7.a b7.len b7.cap], .int .i64 e]) aw) fun aw tP=>⟨?_,Ext.eX (bH.trans af) tP (cU _)⟩
   rw[he];rfl
 refine ⟨fun h=>out _ _ (.refl _ _) ?_,fun h=> ?_⟩
 · have h:(s.len:Int)≠256:=by simpa using h
   unfold lv
   rw[if_pos (by omega)]
 have h:(s.len:Int)=256:=by simpa using h
 have afn:l.length=256:=by omega
 have km:=aj.ext bH
 have afo:=Dr km al (lo:=0) (hi:=4) (by omega) (by omega)
 have afp:Src 1 ag ⟨bf s.a 1 0 s.cap,4-0,s.cap-0⟩ (((l.take 4).map fun b=>((b.toNat:Nat):Int)).map (.int .u8)):=by
   rw[C8];exact afo
 have VO:=Vq (src:=ai.cG) (dst:=ai.string) (by kernel_rfl) (by kernel_rfl) afp
 have n_:(((l.take 4).map fun b=>((b.toNat:Nat):Int)).map fun n=>UInt8.ofNat n.toNat)=l.take 4:=by
   rw[C8]
   have:((fun n:Int=>UInt8.ofNat n.toNat)∘fun b:UInt8=>((b.toNat:Nat):Int))=id:=by funext b;simp
   rw[this,List.map_id]
 rw[n_] at VO
 refine ⟨⟨by decide,by omega⟩,S (l.take 4),ag,VO,?_⟩
 have afq:(ByteArray.toList (S (l.take 4))==ByteArray.toList (ByteArray.mk #[83,84,78,67]))=decide (l.take 4=mN):=by
   rw[show (ByteArray.mk #[83,84,78,67])=S mN from rfl,VP]
   rw[o6];simp
 rw[afq]
 refine ⟨fun h=>out _ _ (.refl _ _) ?_,fun h=> ?_⟩
 · have h:l.take 4≠mN:=by simpa using h
   unfold lv
   rw[if_neg (by omega),if_pos h]
 have hm:l.take 4=mN:=by simpa using h
 obtain ⟨afr,LZ,arw,w4⟩:=km.at (Fz (l:=l) (i:=4) (by omega))
 have arx:s.len=256:=by omega
 refine ⟨afr,LZ,⟨by decide,by omega⟩,_,w4,fun h=>out _ _ (.refl _ _) ?_,fun h=> ?_⟩
 · have h:(((l[4]'(by omega)).toNat:Nat):Int)≠1:=by simpa using h
   unfold lv
   rw[if_neg (by omega),if_neg (by simp[hm]),if_pos (by
     intro e
     apply h
     rw[oy,gq (by omega)] at e
     have e:(l[4]'(by omega))=1:=e
     rw[e];rfl)]
 have aG:l.getD 4 0=1:=by
   have h:(((l[4]'(by omega)).toNat:Nat):Int)=1:=by simpa using h
   rw[oy,gq (by omega)]
   exact UInt8.toNat_inj.1 (by show (l[4]'(by omega)).toNat=1;omega)
 refine (tJ km al afn).use ?_
 rintro _ aw ⟨rfl,cB⟩
 have me:=km.ext cB
 refine ⟨_,rfl,(ql me al (a:=20) (k:=4) (e:=24) rfl (by decide) (by omega) aA).use ?_⟩
 rintro _ _ ⟨rfl,rfl⟩
 have VQ:sumOf l<4294967296:=PD _
 rw[u3 (n:=((sumOf l:Nat):Int)) (by omega) (by omega)]
 refine ⟨_,rfl,fun h=>out _ _ cB ?_,fun h=> ?_⟩
 · have h:((sumOf l:Nat):Int)≠((iC l 20 4:Nat):Int):=by simpa using h
   unfold lv
   rw[if_neg (by omega),if_neg (by simp[hm]),if_neg (fun h=>h aG),if_pos (by omega)]
 have ary:sumOf l=iC l 20 4:=by
   have h:((sumOf l:Nat):Int)=((iC l 20 4:Nat):Int):=by simpa using h
   omega
 refine (ql me al (a:=6) (k:=2) (e:=8) rfl (by decide) (by omega) aA).use ?_
 rintro _ _ ⟨rfl,rfl⟩
 have arz:iC l 6 2<65536:=H6 2 _ (by simp;omega)
 obtain ⟨afs,hN,L0,kU⟩:=me.at (Fz (l:=l) (i:=5) (by omega))
 have cV:l.getD 5 0=l[5]'(by omega):=by rw[oy,gq (by omega)];rfl
 have arA:=UInt8.toNat_lt (l[5]'(by omega))
 refine ⟨_,rfl,afs,hN,⟨by decide,by omega⟩,_,kU,?_⟩
 rw[ct (n:=(((l[5]'(by omega)).toNat:Nat):Int)) (by omega) (by omega),ct (n:=((iC l 6 2:Nat):Int)) (by omega) (by omega)]
 refine Calls.mono (W.VG (((l[5]'(by omega)).toNat:Nat):Int) aw (fun v w'=>v= .bool (decide (1≤(l[5]'(by omega)).toNat∧(l[5]'(by omega)).toNat≤4))∧aw=w') ⟨?_,rfl⟩) ?_
 · have e:(decide ((((l[5]'(by omega)).toNat:Nat):Int)≥1)&&decide ((((l[5]'(by omega)).toNat:Nat):Int)≤4))=decide (1≤(l[5]'(by omega)).toNat∧(l[5]'(by omega)).toNat≤4):=by
     rw[o6]
     simp only[jS,fY]
     omega
   rw[e]
 rintro _ _ ⟨_,rfl,rfl,rfl⟩
 have nH:24+iC l 6 2≤256→True:=fun _=>trivial
 refine ⟨_,rfl,eI (fun b w'=>b=decide (¬(1≤(l[5]'(by omega)).toNat∧(l[5]'(by omega)).toNat≤4)∨232<iC l 6 2∨(l.drop (24+iC l 6 2)).all (fun c=>c==0)=false)∧aw=w') (fun q J=>⟨fun U=>J _ _ ⟨?_,rfl⟩,fun U=> ?_⟩) ?_⟩
 · refine (jB ?_).symm
   simp only[tD,yo,yp,fY] at U
   rcases U with U|U
   · exact .inl U
   · exact .inr (.inl (by omega))
 · simp only[Ll,Bool.not_eq_false',yp,fY] at U
   have aft:iC l 6 2≤232:=by omega
   rw[ct (n:=24+((iC l 6 2:Nat):Int)) (by omega) (by omega)]
   refine ⟨⟨by omega,by omega⟩,?_⟩
   have PL:Int.toNat (24+((iC l 6 2:Nat):Int))=24+iC l 6 2:=by omega
   rw[PL]
   have yH:=Dr me al (lo:=24+iC l 6 2) (hi:=s.len) (by omega) (by omega)
   rw[gV (l:=l.drop (24+iC l 6 2)) (by rw[fx];omega)] at yH
   refine (w2 yH (by rw[fx];omega)).use ?_
   rintro _ _ ⟨rfl,rfl⟩
   refine ⟨_,rfl,J _ _ ⟨?_,rfl⟩⟩
   cases eT:(l.drop (24+iC l 6 2)).all (fun c=>c==0) with
   |true=>exact (tC (by rintro (ab|ab|ab)<;>first|exact ab U.1|omega|cases ab)).symm
   |false=>exact (jB (.inr (.inr rfl))).symm
 rintro b _ ⟨rfl,rfl⟩
 refine ⟨fun h=>out _ _ cB ?_,fun h=> ?_⟩
 · have h:=di h
   unfold lv
   rw[if_neg (by omega),if_neg (by simp[hm]),if_neg (fun h=>h aG),if_neg (by omega),if_pos (by rw[cV];exact h)]
 have ae:=eB h
 have kT:¬(¬(1≤(l.getD 5 0).toNat∧(l.getD 5 0).toNat≤4)∨232<iC l 6 2∨(l.drop (24+iC l 6 2)).all (fun c=>c==0)=false):=by rw[cV];exact ae
 have aft:iC l 6 2≤232:=by
   rcases g2 232 (iC l 6 2) with U|U
   · exact absurd (.inr (.inl U)) ae
   · exact U
 have arB:1≤(l[5]'(by omega)).toNat∧(l[5]'(by omega)).toNat≤4:=O8 fun h=>ae (.inl h)
 refine Calls.mono (W.VF no aw (fun v w'=>v= .bool (decide (0≤no∧no<1600))∧aw=w') ⟨by simp[ge_iff_le],rfl⟩) ?_
 rintro _ _ ⟨_,rfl,rfl,rfl⟩
 have arC:iC l 8 4<4294967296:=H6 4 _ (by simp;omega)
 refine ⟨_,rfl,eI (fun b w'=>b=decide (¬(0≤no∧no<1600)∨(iC l 8 4:Int)≠no)∧aw=w') (fun q J=>⟨fun U=>J _ _ ⟨?_,rfl⟩,fun U=> ?_⟩) ?_⟩
 · refine (jB ?_).symm
   simp only[yo,yp] at U
   exact .inl U
 · simp only[Bool.not_eq_false',fY] at U
   refine (ql me al (a:=8) (k:=4) (e:=12) rfl (by decide) (by omega) aA).use ?_
   rintro _ _ ⟨rfl,rfl⟩
   refine ⟨_,rfl,J _ _ ⟨?_,rfl⟩⟩
   rw[u3 (n:=no) (by omega) (by omega),o6,fY,bne_iff_ne]
   exact ⟨fun h=> .inr h,fun h=>h.resolve_left (fun ab=>ab U)⟩
 rintro b _ ⟨rfl,rfl⟩
 refine ⟨fun h=>out _ _ cB ?_,fun h=> ?_⟩
 · have h:=di h
   unfold lv
   rw[if_neg (by omega),if_neg (by simp[hm]),if_neg (fun h=>h aG),if_neg (by omega),if_neg kT,if_pos h]
 have afu:=eB h
 have ft:lv no l= .ok ⟨(l.getD 5 0).toNat,iC l 12 8,(l.drop 24).take (iC l 6 2)⟩:=by
   unfold lv
   rw[if_neg (by omega),if_neg (by simp[hm]),if_neg (fun h=>h aG),if_neg (by omega),if_neg kT,if_neg afu]
 refine (wU me al (a:=24) (k:=iC l 6 2) (by omega) (by omega)).use ?_
 rintro _ bc ⟨bN,rfl,qV,eZ,u7⟩
 have bS:=eR bc
 have eo:=cB.trans (eZ.trans bS)
 have rF:=km.ext eo
 obtain ⟨afv,L1,arD,pK⟩:=rF.at (Fz (l:=l) (i:=5) (by omega))
 refine ⟨bN,true,rfl,bW ⟨fun _=>False,afv,L1,⟨by decide,by omega⟩,id,_,pK,(ql rF al (a:=12) (k:=8) (e:=20) rfl (by decide) (by omega) aA).use ?_⟩⟩
 rintro _ _ ⟨rfl,rfl⟩
 rw[ct (n:=(((l[5]'(by omega)).toNat:Nat):Int)) (by omega) (by omega)]
 refine ⟨_,rfl, .refl _ _,VN _ _ bN (ak.ext eo) rfl (K:=fun b3 fc b7 aw=>(fun v w'=>LY (lv no l) w w' v∧Ext w w') (.tuple #[.agg #[.int .i64 b3, .int .u64 fc, .slice b7.a b7.len b7.cap], .int .i64 0]) aw) fun bz tP=>⟨?_,Ext.eX (bH.trans eo) tP (cU _)⟩⟩
 rw[ft]
 refine ⟨bN,by rw[cV];rfl,(qV.ext bS).an tP fun k ae e=> ?_,u7.mono (bH.trans cB).size⟩
 have:=u7 k ae
 have:=ak.lt
 have:=cB.size
 subst e
 omega
end
section
theorem VR {P:Program} {w:World}:∀ (l:List UInt8) (a:Addr) (acc:ByteArray),(∀j x,l[j]? =some x→w.cell? (a.add j)=some (.int .u8 ((x.toNat:Nat):Int)))→
   (Extern.Bytes.loadBytes a l.length acc).run P w= .ok ⟨acc.data++l.toArray⟩ w
 | [],a,acc,_=>by simp[Extern.Bytes.loadBytes]
 |x::l,a,acc,h=>by
   have b5:=h 0 x rfl
   rw[add_zero'] at b5
   have c1:=VR (P:=P) l (a.add 1) (acc.push x) (fun j y b1=>by
     rw[add_add,Nat.add_comm]
     exact h (j+1) y (by simpa using b1))
   have af:((x.toNat:Nat):Int).toNat.toUInt8=x:=aeG x
   simp only[iV,Extern.Bytes.loadBytes,Sem.run_bind,PM b5,Result.andThen,af]
   rw[c1]
   congr 2
   simp[ByteArray.push]
theorem VS {P:Program} {w:World} {s:ad} {l:List UInt8} (h:Src 1 w s (bm l)):(Extern.Bytes.bytesOf (.slice s.a s.len s.cap)).run P w= .ok (S l) w:=by
 cases aj:s.a with
 |none=>
   have b5:l=[]:=by
     have:=h.nil aj
     cases l with
     |nil=>rfl
     |cons a l=>simp[bm] at this
   subst b5
   rfl
 |some A=>
   have aQ:=h.rd A aj
   rw[lp] at aQ
   have:=VR (P:=P) (w:=w) l A .empty (fun j x aU=>by
     have:=H5 aQ (j:=j) (v:= .int .u8 ((x.toNat:Nat):Int)) (by simp[bm,aU])
     simpa using this)
   show (Extern.Bytes.loadBytes A s.len .empty).run P w=_
   rw[len8 h,this]
   congr 1
   show (ByteArray.mk (ByteArray.empty.data++l.toArray))=ByteArray.mk l.toArray
   congr 1
   exact Array.empty_append ..
theorem VT:∀a b:Key,Lib.compareBytes a b=ih a b
 | [],[]=>rfl
 | [],_::_=>rfl
 |_::_,[]=>rfl
 |a::x,b::y=>by
   simp only[Lib.compareBytes,ih,UInt8.lt_iff_toNat_lt,VT x y]
theorem mi {s t:ad} {l m:Key} {w:World} (aj:Src 1 w s (bm l)) (ba:Src 1 w t (bm m)):
   aR Tryz.prog F.mi #[.slice s.a s.len s.cap, .slice t.a t.len t.cap] w (fun v w'=>v= .int .i64 (ih l m)∧w=w'):=by
 refine W.afw s t w _ ?_
 unfold W.mi
 refine ⟨ih l m,w,?_,rfl,rfl⟩
 rw[run_callFunc_extern Tryz.func113 rfl rfl rfl rfl]
 have:(Extern.BytealgCompare.compare #[.slice s.a s.len s.cap, .slice t.a t.len t.cap]).run Tryz.prog w= .ok (.int .i64 (ih l m)) w:=by
   change Sem.run Tryz.prog (do pure (goInt (Extern.BytealgCompare.cmp (←Extern.Bytes.bytesOf (.slice s.a s.len s.cap)) (←Extern.Bytes.bytesOf (.slice t.a t.len t.cap))))) w=_
   simp only[Sem.run_bind,VS aj,VS ba,Result.andThen,Sem.run_pure]
   rw[Lib.cmp_eq]
   show Result.ok (goInt (Lib.compareBytes l m)) w=_
   rw[VT];rfl
 rw[this]
 rfl
theorem PN {s:ad} {l:List UInt8} {w:World} (h:Src 1 w s (bm l)):Sem.run Tryz.prog (convert ai.cG ai.string (.slice s.a s.len s.cap)) w= .ok (.string (S l)) w:=by
 have o_:Src 1 w s ((l.map fun b=>((b.toNat:Nat):Int)).map (.int .u8)):=by rw[C8];exact h
 have:=Vq (src:=ai.cG) (dst:=ai.string) (by kernel_rfl) (by kernel_rfl) o_
 rw[C8] at this
 have e:((fun n:Int=>UInt8.ofNat n.toNat)∘fun b:UInt8=>((b.toNat:Nat):Int))=id:=by funext b;simp
 rw[e,List.map_id] at this
 exact this
theorem w5 {s t:ad} {l m:Key} {w:World} (aj:Src 1 w s (bm l)) (ba:Src 1 w t (bm m)):
   aR Tryz.prog F.w5 #[.slice s.a s.len s.cap, .slice t.a t.len t.cap] w (fun v w'=>v= .bool (decide (l=m))∧w=w'):=by
 refine W.afx s t w _ ?_
 unfold W.w5
 refine ⟨_,_,PN aj,_,_,PN ba,?_,rfl⟩
 rw[VP]
 congr 1
 rw[o6];simp
def In (B:Nat→Prop) (w:World) (s:ad):Prop:=∀k,aP s k→B k∧k<w.heap.size
def bX (B:Nat→Prop) (w:World) (t:ad) (l:Key):Prop:=Src 1 w t (bm l)∧t.len≤t.cap∧In B w t
def bO (B:Nat→Prop) (w:World) (s:ad) (ls:List Key):Prop:=
 ∃ts:List ad,ts.length=ls.length∧Src 1 w s (ts.map oE)∧s.len≤s.cap∧In B w s∧∀ (i:Nat) (U:i<ts.length) (ab:i<ls.length),bX B w ts[i] ls[i]
def gg (ds:List Nat):List Value:=ds.map fun d=> .int .i64 ((d:Nat):Int)
def dJ (B:Nat→Prop) (w:World) (s:ad) (ds:List Nat):Prop:=Src 1 w s (gg ds)∧s.len≤s.cap∧In B w s
def bV (B:Nat→Prop) (w:World) (s:ad) (ls:List Key):Prop:=
 ∃ts:List ad,ts.length=ls.length∧bU 1 ai.cG w s (ts.map oE)∧In B w s∧∀ (i:Nat) (U:i<ts.length) (ab:i<ls.length),bX B w ts[i] ls[i]∧∀k,aP ts[i] k→¬aP s k
def dY (B:Nat→Prop) (w:World) (s:ad) (ds:List Nat):Prop:=bU 1 ai.int w s (gg ds)∧In B w s
section
variable {B C:Nat→Prop} {w w':World} {s t:ad} {l:Key} {ls:List Key} {ds:List Nat}
theorem In.an {V:Nat→Prop} (h:In B w s) (al:aq V w w'):In B w' s:=fun k ae=>⟨(h k ae).1,lP (h k ae).2 al.size⟩
theorem In.bx (h:In B w s) (aa:∀k,k<w.heap.size→B k→C k):In C w s:=fun k ae=>⟨aa k (h k ae).2 (h k ae).1,(h k ae).2⟩
theorem bX.an {V:Nat→Prop} (h:bX B w t l) (al:aq V w w') (aa:∀k,B k→¬V k):bX B w' t l:=⟨h.1.an al fun k ae=>aa k (h.2.2 k ae).1,h.2.1,In.an h.2.2 al⟩
theorem bX.pL {V:Nat→Prop} (h:bX B w t l) (al:aq V w w') (aa:∀k,aP t k→¬V k):bX B w' t l:=⟨h.1.an al aa,h.2.1,In.an h.2.2 al⟩
theorem bX.ext (h:bX B w t l) (al:Ext w w'):bX B w' t l:=bX.an h al fun _ _ h=>h
theorem bX.bx (h:bX B w t l) (aa:∀k,k<w.heap.size→B k→C k):bX C w t l:=⟨h.1,h.2.1,In.bx h.2.2 aa⟩
theorem bO.an {V:Nat→Prop} (h:bO B w s ls) (al:aq V w w') (aa:∀k,B k→¬V k):bO B w' s ls:=by
 obtain ⟨ts,U,ab,ao,aG,aV⟩:=h
 exact ⟨ts,U,ab.an al fun k ae=>aa k (aG k ae).1,ao,In.an aG al,fun i b_ hY=>bX.an (aV i b_ hY) al aa⟩
theorem bO.ext (h:bO B w s ls) (al:Ext w w'):bO B w' s ls:=bO.an h al fun _ _ h=>h
theorem bO.bx (h:bO B w s ls) (aa:∀k,k<w.heap.size→B k→C k):bO C w s ls:=by
 obtain ⟨ts,U,ab,ao,aG,aV⟩:=h
 exact ⟨ts,U,ab,ao,In.bx aG aa,fun i b_ hY=>bX.bx (aV i b_ hY) aa⟩
theorem dJ.an {V:Nat→Prop} (h:dJ B w s ds) (al:aq V w w') (aa:∀k,B k→¬V k):dJ B w' s ds:=⟨h.1.an al fun k ae=>aa k (h.2.2 k ae).1,h.2.1,In.an h.2.2 al⟩
theorem dJ.ext (h:dJ B w s ds) (al:Ext w w'):dJ B w' s ds:=dJ.an h al fun _ _ h=>h
theorem dJ.bx (h:dJ B w s ds) (aa:∀k,k<w.heap.size→B k→C k):dJ C w s ds:=⟨h.1,h.2.1,In.bx h.2.2 aa⟩
theorem bO.len (h:bO B w s ls):s.len=ls.length:=by
 obtain ⟨ts,U,ab,_⟩:=h
 have:=ab.len
 rw[kR] at this;omega
theorem yI (ds:List Nat):(gg ds).length=ds.length:=by simp[gg]
theorem dJ.len (h:dJ B w s ds):s.len=ds.length:=by
 have:=h.1.len
 rw[yI] at this;omega
theorem bO.at (h:bO B w s ls) {i:Nat} (hi:i<ls.length):∃ (A:Addr) (t:ad),s.a=some A∧((0:Int)≤(i:Int)∧(i:Int)<((s.len:Nat):Int))∧w.cell? (A.add (Int.toNat (i:Int)*1))=some (.slice t.a t.len t.cap)∧bX B w t ls[i]∧B A.block:=by
 obtain ⟨ts,U,ab,ao,aG,aV⟩:=h
 obtain ⟨A,ax,aa,al⟩:=ab.at (i:=i) (v:=oE (ts[i]'(by omega))) (by simp[U,hi])
 exact ⟨A,ts[i]'(by omega),ax,aa,al,aV i (by omega) hi,(aG _ ⟨A,ax,rfl⟩).1⟩
theorem dJ.at (h:dJ B w s ds) {i:Nat} (hi:i<ds.length):∃A:Addr,s.a=some A∧((0:Int)≤(i:Int)∧(i:Int)<((s.len:Nat):Int))∧w.cell? (A.add (Int.toNat (i:Int)*1))=some (.int .i64 ((ds[i]:Nat):Int)):=by
 obtain ⟨A,ax,aa,al⟩:=h.1.at (i:=i) (v:= .int .i64 ((ds[i]:Nat):Int)) (by simp[gg,hi])
 exact ⟨A,ax,aa,al⟩
theorem bV.pM (h:bV B w s ls):bO B w s ls:=by
 obtain ⟨ts,U,ab,ao,aG⟩:=h
 exact ⟨ts,U,ab.src,ab.2.1,ao,fun i aV b_=>(aG i aV b_).1⟩
theorem dY.FI (h:dY B w s ds):dJ B w s ds:=⟨h.1.src,h.1.2.1,h.2⟩
theorem bV.none (B:Nat→Prop) (w:World):bV B w ⟨.none,0,0⟩ []:=⟨[],rfl,bU.none _ _ _,fun k ae=>(pE k ae).elim,fun i h=>by simp at h⟩
theorem dY.none (B:Nat→Prop) (w:World):dY B w ⟨.none,0,0⟩ []:=⟨bU.none _ _ _,fun k ae=>(pE k ae).elim⟩
theorem bO.none (B:Nat→Prop) (w:World):bO B w ⟨.none,0,0⟩ []:=bV.pM (bV.none B w)
theorem dJ.none (B:Nat→Prop) (w:World):dJ B w ⟨.none,0,0⟩ []:=dY.FI (dY.none B w)
theorem bV.an {V:Nat→Prop} (h:bV B w s ls) (al:aq V w w') (aa:∀k,B k→¬V k):bV B w' s ls:=by
 obtain ⟨ts,U,ab,ao,aG⟩:=h
 exact ⟨ts,U,ab.an al fun k ae=>aa k (ao k ae).1,In.an ao al,fun i aV b_=>⟨bX.an (aG i aV b_).1 al aa,(aG i aV b_).2⟩⟩
theorem bV.ext (h:bV B w s ls) (al:Ext w w'):bV B w' s ls:=bV.an h al fun _ _ h=>h
theorem dY.an {V:Nat→Prop} (h:dY B w s ds) (al:aq V w w') (aa:∀k,B k→¬V k):dY B w' s ds:=⟨h.1.an al fun k ae=>aa k (h.2 k ae).1,In.an h.2 al⟩
theorem dY.ext (h:dY B w s ds) (al:Ext w w'):dY B w' s ds:=dY.an h al fun _ _ h=>h
theorem bX.some (h:bX B w t l) (aA:l≠ []):∃A,t.a=some A:=by
 cases aT:t.a with
 |none=>
   have:=h.1.nil aT
   exfalso
   apply aA
   cases l with
   |nil=>rfl
   |cons a l=>simp[bm] at this
 |some A=>exact ⟨A,rfl⟩
end
theorem FJ:qj Tryz.prog ai.cz ai.cG 1 24:=⟨by kernel_rfl⟩
theorem Ic:qj Tryz.prog ai.dD ai.int 1 8:=⟨by kernel_rfl⟩
theorem L2 (ts:List ad):∀v∈ts.map oE,Plain v:=by
 intro v ak
 obtain ⟨n,_,rfl⟩:=nA.1 ak
 trivial
theorem PO (ds:List Nat):∀v∈gg ds,Plain v:=by
 intro v ak
 obtain ⟨n,_,rfl⟩:=nA.1 ak
 trivial
theorem tQ {B:Nat→Prop} {w:World} {s:ad} {l:List UInt8} (h:Src 1 w s (bm l)) (aA:l.length≤1000000) (gK:∀k,w.heap.size≤k→B k):
   aR Tryz.prog F.lu #[.slice s.a s.len s.cap] w (fun v w'=>∃au:ad,v= .slice au.a au.len au.cap∧bX B w' au l∧Ext w w'∧nE w au):=by
 refine (Pt h aA).mono ?_
 rintro _ w' ⟨au,rfl,bR,af,aI⟩
 exact ⟨au,rfl,⟨bR.src,bR.2.1,fun k ae=>⟨gK k (aI k ae),bR.lt k ae⟩⟩,af,aI⟩
theorem VU {B:Nat→Prop} {w:World} {s t:ad} {ls:List Key} {l:Key} (bR:bV B w s ls) (ba:bX B w t l) (hd:∀k,aP t k→¬aP s k) (aD:ls.length≤1000000) (gK:∀k,w.heap.size≤k→B k):
   ∃ (au:ad) (w':World),Sem.run Tryz.prog (Builtin.append_ #[ai.cz,ai.cz] ai.cz #[.slice s.a s.len s.cap, .slice (some ⟨w.heap.size,0,none⟩) 1 1]) (w.alloc (.cells #[.slice t.a t.len t.cap] ai.cG))= .ok (.slice au.a au.len au.cap) w'∧
     bV B w' au (ls++ [l])∧aq (aP s) w w'∧(∀k,aP au k→aP s k∨w.heap.size≤k):=by
 obtain ⟨ts,U,ab,ao,aG⟩:=bR
 have fR:s.len=ls.length:=by have:=ab.1;rw[kR] at this;omega
 obtain ⟨au,w',aC,aF,aH,aN,cV⟩:=FJ.push (gX:=ai.cz) (w:=w) (s:=s) (xs:=[oE t]) rfl ab (fun v ak=>by rw[lN.1 ak];trivial) (by omega)
 refine ⟨au,w',aC,⟨ts++ [t],by simp[U],?_,?_,fun i aV b_=> ?_⟩,aN,cV⟩
 · rw[m9];exact aF
 · intro k ae
   refine ⟨?_,aF.lt k ae⟩
   rcases cV k ae with h|h
   · exact (ao k h).1
   · exact gK k h
 · have mA:∀ (x:ad),(∀k,aP x k→k<w.heap.size)→(∀k,aP x k→¬aP s k)→∀k,aP x k→¬aP au k:=fun x af cB k ae dj=>by
     rcases cV k dj with h|h
     · exact cB k ae h
     · have:=af k ae;omega
   have afy:i<ts.length+1:=by simpa using aV
   rcases g2 i ts.length with h|h
   · obtain ⟨hY,ng⟩:=aG i h (by omega)
     simp only[C9 h,C9 (show i<ls.length by omega)]
     exact ⟨bX.pL hY aN ng,mA _ (fun k ae=>(hY.2.2 k ae).2) ng⟩
   · have:i=ts.length:=by omega
     subst this
     have e:(ts++ [t])[ts.length]'aV=t:=by simp
     have:(ls++ [l])[ts.length]'b_=l:=by rw[HQ (by omega)];simp
     rw[this,e]
     exact ⟨bX.pL ba aN hd,mA _ (fun k ae=>(ba.2.2 k ae).2) hd⟩
theorem afz {B:Nat→Prop} {w:World} {s:ad} {ds:List Nat} (d:Nat) (bR:dY B w s ds) (aD:ds.length≤1000000) (gK:∀k,w.heap.size≤k→B k):
   ∃ (au:ad) (w':World),Sem.run Tryz.prog (Builtin.append_ #[ai.dD,ai.dD] ai.dD #[.slice s.a s.len s.cap, .slice (some ⟨w.heap.size,0,none⟩) 1 1]) (w.alloc (.cells #[.int .i64 ((d:Nat):Int)] ai.int))= .ok (.slice au.a au.len au.cap) w'∧
     dY B w' au (ds++ [d])∧aq (aP s) w w'∧(∀k,aP au k→aP s k∨w.heap.size≤k):=by
 have fR:s.len=ds.length:=by have:=bR.1.1;rw[yI] at this;omega
 obtain ⟨au,w',aC,aF,aH,aN,cV⟩:=Ic.push (gX:=ai.dD) (w:=w) (s:=s) (xs:=[.int .i64 ((d:Nat):Int)]) rfl bR.1 (fun v ak=>by rw[lN.1 ak];trivial) (by omega)
 refine ⟨au,w',aC,⟨by simpa[gg] using aF,fun k ae=>⟨?_,aF.lt k ae⟩⟩,aN,cV⟩
 rcases cV k ae with h|h
 · exact (bR.2 k h).1
 · exact gK k h
structure b4 (B:Nat→Prop) (w:World) (n:aL) (K V D:ad):Prop where
 keys:bO B w K n.keys
 vals:bO B w V n.vals
 kids:dJ B w D n.kids
def gj (n:aL) (K V D:ad):List Value:=[.bool n.leaf, .slice K.a K.len K.cap, .slice V.a V.len V.cap, .slice D.a D.len D.cap]
def eC (n:aL) (K V D:ad):Value:= .agg #[.bool n.leaf, .slice K.a K.len K.cap, .slice V.a V.len V.cap, .slice D.a D.len D.cap]
section
variable {B C:Nat→Prop} {w w':World} {n:aL} {K V D:ad}
theorem b4.an {W:Nat→Prop} (h:b4 B w n K V D) (al:aq W w w') (aa:∀k,B k→¬W k):b4 B w' n K V D:=⟨bO.an h.keys al aa,bO.an h.vals al aa,dJ.an h.kids al aa⟩
theorem b4.ext (h:b4 B w n K V D) (al:Ext w w'):b4 B w' n K V D:=b4.an h al fun _ _ h=>h
theorem b4.bx (h:b4 B w n K V D) (aa:∀k,k<w.heap.size→B k→C k):b4 C w n K V D:=⟨bO.bx h.keys aa,bO.bx h.vals aa,dJ.bx h.kids aa⟩
theorem b9 {b:Nat} {T:TypeId} {leaf:Bool} (h:Var w b [.bool leaf, .slice K.a K.len K.cap, .slice V.a V.len V.cap, .slice D.a D.len D.cap] T):
   w.cell? ⟨b,0,none⟩=some (.bool leaf)∧w.cell? (Addr.add ⟨b,0,none⟩ 1)=some (.slice K.a K.len K.cap)∧w.cell? (Addr.add ⟨b,0,none⟩ 2)=some (.slice V.a V.len V.cap)∧w.cell? (Addr.add ⟨b,0,none⟩ 3)=some (.slice D.a D.len D.cap):=by
 rw[bn,bn,bn]
 exact ⟨h.cell,h.cell,h.cell,h.cell⟩
end
end
section
theorem afA {B:Nat→Prop} {w:World} {s:ad} {ls:List Key} (h:bO B w s ls) (aD:ls.length≤1000000):
   aR Tryz.prog F.AY #[.slice s.a s.len s.cap, .func (.func F.u9) #[] #[]] w (fun v w'=>v= .bool (ls.any fun v=>decide (24<v.length))∧w=w'):=by
 refine W.afB s ⟨F.u9, #[], #[]⟩ w _ ?_
 (delta W.AY aS;dsimp only)
 have aA:=bO.len h
 have tR:sC Tryz.prog F.u9:=⟨_,(Option.some_get (show (Tryz.prog.funcs[F.u9]?).isSome=true by kernel_rfl)).symm,by kernel_rfl,by kernel_rfl⟩
 refine Calls.mono (W.afC s ⟨F.u9, #[], #[]⟩ w (fun v w'=>(∃i:Int,v= .int .i64 i∧(decide (i≥0))=(ls.any fun v=>decide (24<v.length)))∧w=w') ?_) ?_
 · (delta W.Du aE aX ar ay;dsimp only)
   refine ⟨fun i w'=>∃j:Nat,i=j∧j≤ls.length∧w=w'∧∀ (k:Nat) (ae:k<ls.length),k<j→(ls[k]).length≤24,fun i _=>((ls.length:Int)-i).toNat,⟨0,rfl,fy _,rfl,fun k ae h=>by omega⟩,?_⟩
   rintro _ _ ⟨j,rfl,aU,rfl,eT⟩
   refine ⟨fun a_=> ?_,fun cn=> ?_⟩
   · have a_:j<ls.length:=by have:=di a_;omega
     obtain ⟨A,t,ax,aa,al,ba,_⟩:=bO.at h a_
     refine ⟨A,ax,aa,t,al,tR,?_⟩
     have mO:=len8 ba.1
     refine Calls.mono (W.afD t w (fun v w'=>v= .bool (decide (24<(ls[j]).length))∧w=w') ⟨?_,rfl⟩) ?_
     · congr 1
       rw[o6,fY,fY];omega
     rintro _ _ ⟨_,rfl,rfl,rfl⟩
     refine ⟨_,rfl,fun aa=>⟨⟨j,rfl,?_⟩,rfl⟩,fun aa=> ?_⟩
     · have:(ls.any fun v=>decide (24<v.length))=true:=List.any_eq_true.2 ⟨_,eN a_,aa⟩
       rw[this];exact jB (by omega)
     · have aa:=eB aa
       rw[ct (n:=(j:Int)+1) (by omega) (by omega)]
       refine ⟨⟨j+1,by omega,by omega,rfl,fun k ae h=> ?_⟩,?_⟩
       · rcases g2 k j with U|U
         · exact eT k ae U
         · have:k=j:=by omega
           subst this;omega
       · show ((ls.length:Int)-((j:Int)+1)).toNat<((ls.length:Int)-(j:Int)).toNat
         omega
   · have cn:j=ls.length:=by have:=eB cn;omega
     subst cn
     refine ⟨⟨-1,rfl,?_⟩,rfl⟩
     have:(ls.any fun v=>decide (24<v.length))=false:=by
       rw[HR]
       intro x af
       obtain ⟨k,ae,rfl⟩:=lO af
       have:=eT k ae ae
       simp;omega
     rw[this];rfl
 · rintro _ _ ⟨_,rfl,⟨i,rfl,hi⟩,rfl⟩
   exact ⟨i,rfl,by rw[hi],rfl⟩
theorem afE {B:Nat→Prop} {w:World} {s:ad} {ds:List Nat} (h:dJ B w s ds) (aD:ds.length≤1000000):
   aR Tryz.prog F.AZ #[.slice s.a s.len s.cap, .func (.func F.u_) #[] #[]] w (fun v w'=>v= .bool (ds.any fun d=>decide (1600≤d))∧w=w'):=by
 refine W.afF s ⟨F.u_, #[], #[]⟩ w _ ?_
 (delta W.AZ aS;dsimp only)
 have aA:=dJ.len h
 have tR:sC Tryz.prog F.u_:=⟨_,(Option.some_get (show (Tryz.prog.funcs[F.u_]?).isSome=true by kernel_rfl)).symm,by kernel_rfl,by kernel_rfl⟩
 refine Calls.mono (W.afG s ⟨F.u_, #[], #[]⟩ w (fun v w'=>(∃i:Int,v= .int .i64 i∧(decide (i≥0))=(ds.any fun d=>decide (1600≤d)))∧w=w') ?_) ?_
 · (delta W.Dv aE aX bL ay;dsimp only)
   refine ⟨fun i w'=>∃j:Nat,i=j∧j≤ds.length∧w=w'∧∀ (k:Nat) (ae:k<ds.length),k<j→ds[k]<1600,fun i _=>((ds.length:Int)-i).toNat,⟨0,rfl,fy _,rfl,fun k ae h=>by omega⟩,?_⟩
   rintro _ _ ⟨j,rfl,aU,rfl,eT⟩
   refine ⟨fun a_=> ?_,fun cn=> ?_⟩
   · have a_:j<ds.length:=by have:=di a_;omega
     obtain ⟨A,ax,aa,al⟩:=dJ.at h a_
     refine ⟨A,ax,aa,_,al,tR,?_⟩
     refine Calls.mono (W.afH ((ds[j]:Nat):Int) w (fun v w'=>v= .bool (decide (1600≤ds[j]))∧w=w') ⟨?_,rfl⟩) ?_
     · congr 1
       rw[o6,tD,fY,fY,fY];omega
     rintro _ _ ⟨_,rfl,rfl,rfl⟩
     refine ⟨_,rfl,fun aa=>⟨⟨j,rfl,?_⟩,rfl⟩,fun aa=> ?_⟩
     · have:(ds.any fun d=>decide (1600≤d))=true:=List.any_eq_true.2 ⟨_,eN a_,aa⟩
       rw[this];exact jB (by omega)
     · have aa:=eB aa
       rw[ct (n:=(j:Int)+1) (by omega) (by omega)]
       refine ⟨⟨j+1,by omega,by omega,rfl,fun k ae h=> ?_⟩,?_⟩
       · rcases g2 k j with U|U
         · exact eT k ae U
         · have:k=j:=by omega
           subst this;omega
       · show ((ds.length:Int)-((j:Int)+1)).toNat<((ds.length:Int)-(j:Int)).toNat
         omega
   · have cn:j=ds.length:=by have:=eB cn;omega
     subst cn
     refine ⟨⟨-1,rfl,?_⟩,rfl⟩
     have:(ds.any fun d=>decide (1600≤d))=false:=by
       rw[HR]
       intro x af
       obtain ⟨k,ae,rfl⟩:=lO af
       have:=eT k ae ae
       simp;omega
     rw[this];rfl
 · rintro _ _ ⟨_,rfl,⟨i,rfl,hi⟩,rfl⟩
   exact ⟨i,rfl,by rw[hi],rfl⟩
theorem VV:∀ {l:List Key},(∀ (i:Nat) (h:i+1<l.length),cw l[i] l[i+1])→l.Pairwise cw
 | [],_=> .nil
 |a::l,h=>by
   have c1:=VV (l:=l) fun i hi=>h (i+1) (by simpa using hi)
   refine rp.2 ⟨fun b aa=> ?_,c1⟩
   cases l with
   |nil=>simp at aa
   |cons c l=>
     have b5:cw a c:=h 0 (by simp)
     rcases fP.1 aa with rfl|aa
     · exact b5
     · exact yr b5 ((rp.1 c1).1 b aa)
instance (k:Key):Decidable (eV k):=by unfold eV;infer_instance
theorem tS {w:World} {t:ad} {l:Key} (h:Src 1 w t (bm l)):aR Tryz.prog F.tS #[.slice t.a t.len t.cap] w (fun v w'=>v= .bool (decide (eV l))∧w=w'):=by
 have aA:=len8 h
 refine W.afI t w _ ?_
 unfold W.tS
 refine ⟨?_,rfl⟩
 congr 1
 rw[o6,jS,fY,fY,fY]
 unfold eV
 omega
theorem mP {B:Nat→Prop} {w:World} {n:aL} {K V D:ad} (h:b4 B w n K V D) (U:n.keys.length≤100000) (ab:n.vals.length≤100000) (ao:n.kids.length≤100000):
   aR Tryz.prog F.mP #[eC n K V D] w (fun v w'=>∃b:Bool,v= .bool b∧(b=true↔dC n)∧Ext w w'):=by
 refine W.afJ n.leaf K V D w _ ?_
 (delta W.mP ar ah aE aX aZ ay aS bJ;dsimp only)
 refine cq (vs:=[.bool n.leaf, .slice K.a K.len K.cap, .slice V.a V.len V.cap, .slice D.a D.len D.cap]) rfl fun ag ak bH _=> ?_
 obtain ⟨cy,aS,bA,aZ⟩:=b9 ak
 have aD:=h.ext bH
 have A0:=bO.len aD.keys
 have afK:=bO.len aD.vals
 have cS:=dJ.len aD.kids
 refine ⟨K,aS,fun i w'=>∃j:Nat,i=j∧j≤n.keys.length∧ag=w'∧(∀ (k:Nat) (ae:k<n.keys.length),k<j→eV n.keys[k])∧∀ (k:Nat) (ae:k+1<n.keys.length),k+1<j→cw n.keys[k] n.keys[k+1],
   fun i _=>((n.keys.length:Int)-i).toNat,⟨0,rfl,fy _,rfl,fun k ae h=>by omega,fun k ae h=>by omega⟩,?_⟩
 rintro _ _ ⟨j,rfl,aU,rfl,ft,VW⟩
 refine ⟨fun a_=> ?_,fun cn=> ?_⟩
 · have a_:j<n.keys.length:=by have:=di a_;omega
   obtain ⟨A,t,ax,aa,al,ba,_⟩:=bO.at aD.keys a_
   refine ⟨A,ax,aa,t,al,(tS ba.1).use ?_⟩
   rintro _ _ ⟨rfl,rfl⟩
   refine ⟨_,rfl,eI (fun b w'=>ag=w'∧(b=true→¬dC n)∧(b=false→eV n.keys[j]∧∀ (aU:1≤j),cw (n.keys[j-1]'(by omega)) n.keys[j])) (fun q J=>⟨fun aa=> ?_,fun aa=> ?_⟩) ?_⟩
   · have aa:¬eV n.keys[j]:=by simpa using aa
     exact J _ _ ⟨rfl,fun _ aj=>aa (aj.keys.ok _ (eN a_)),fun h=>by cases h⟩
   · have aa:eV n.keys[j]:=by simpa using aa
     refine eI (fun b w'=>ag=w'∧(b=true→¬dC n)∧(b=false→∀ (aU:1≤j),cw (n.keys[j-1]'(by omega)) n.keys[j])) (fun iX jn=>⟨fun b5=> ?_,fun b5=> ?_⟩) ?_
     · have b5:1≤j:=by have:=di b5;omega
       rw[ct (n:=(j:Int)-1) (by omega) (by omega),show (j:Int)-1=((j-1:Nat):Int) by omega]
       obtain ⟨qW,t2,kB,gM,dB,mQ,_⟩:=bO.at aD.keys (i:=j-1) (by omega)
       refine ⟨K,aS,qW,kB,gM,t2,dB,(mi mQ.1 ba.1).use ?_⟩
       rintro _ _ ⟨rfl,rfl⟩
       refine ⟨_,rfl,jn _ _ ⟨rfl,fun al aj=> ?_,fun al _=> ?_⟩⟩
       · have al:=di al
         have:cw (n.keys[j-1]'(by omega)) n.keys[j]:=ym.1 aj.keys.jk (j-1) j (by omega) a_ (by omega)
         unfold cw at this
         omega
       · have al:=eB al
         unfold cw;omega
     · have b5:=eB b5
       exact jn _ _ ⟨rfl,fun h=>(by cases h),fun _ aU=>by omega⟩
     · rintro b w' ⟨rfl,aC,aF⟩
       exact J _ _ ⟨rfl,aC,fun gM=>⟨aa,aF gM⟩⟩
   · rintro b w' ⟨rfl,aC,aF⟩
     refine ⟨fun aa=>⟨false,rfl,⟨fun h=>(by cases h),fun aj=>absurd aj (aC aa)⟩,bH⟩,fun aa=> ?_⟩
     obtain ⟨aH,aN⟩:=aF aa
     rw[ct (n:=(j:Int)+1) (by omega) (by omega)]
     refine ⟨⟨j+1,by omega,by omega,rfl,fun k ae h=> ?_,fun k ae h=> ?_⟩,?_⟩
     · rcases g2 k j with U|U
       · exact ft k ae U
       · have:k=j:=by omega
         subst this;exact aH
     · rcases g2 (k+1) j with U|U
       · exact VW k ae U
       · have:j=k+1:=by omega
         subst this
         exact aN (by omega)
     · show ((n.keys.length:Int)-((j:Int)+1)).toNat<((n.keys.length:Int)-(j:Int)).toNat
       omega
 · have cn:j=n.keys.length:=by have:=eB cn;omega
   subst cn
   have ij:Ls n:=⟨fun k ae=>by
     obtain ⟨i,hi,rfl⟩:=lO ae
     exact ft i hi hi,VV fun i hi=>VW i hi hi⟩
   refine ⟨n.leaf,cy,fun aA=>⟨V,bA,K,aS,?_⟩,fun aA=>⟨K,aS,?_⟩⟩
   · refine eI (fun b w'=>ag=w'∧b=(decide (n.vals.length=n.keys.length)&&decide (n.kids=[]))) (fun q J=>⟨fun aa=>⟨D,aZ,J _ _ ⟨rfl,?_⟩⟩,fun aa=>J _ _ ⟨rfl,?_⟩⟩) ?_
     · have aa:=eq_of_beq aa
       rw[jB (show n.vals.length=n.keys.length by omega),Fi,o6,yq,fY,←yn]
       omega
     · have aa:¬(((V.len:Nat):Int)=((K.len:Nat):Int)):=fun e=>by rw[e] at aa;simp at aa
       rw[tC (by omega),Bool.false_and]
     rintro b w' ⟨rfl,rfl⟩
     refine eI (fun b w'=>ag=w'∧(b=true↔dC n)) (fun q J=>⟨fun aa=>⟨V,bA,(afA aD.vals (by omega)).use ?_⟩,fun aa=>J _ _ ⟨rfl,?_⟩⟩) ?_
     · rintro _ _ ⟨rfl,rfl⟩
       refine ⟨_,rfl,J _ _ ⟨rfl,?_⟩⟩
       simp only[jS,fY] at aa
       rw[yo,HR]
       constructor
       · intro eT
         exact .inl ⟨ij,aA,aa.1,aa.2,fun v ak=>by have:=eT v ak;simp at this;omega⟩
       · rintro (aj|aj)
         · intro v ak;have:=aj.vals v ak;simp;omega
         · have:=aj.inner;rw[aA] at this;cases this
     · have aa:¬(n.vals.length=n.keys.length∧n.kids=[]):=by simpa using aa
       refine ⟨fun h=>(by cases h),?_⟩
       rintro (aj|aj)
       · exact absurd ⟨aj.len,aj.kids⟩ aa
       · have:=aj.inner;rw[aA] at this;cases this
     rintro b w' ⟨rfl,aa⟩
     exact ⟨b,rfl,aa,bH⟩
   · refine eI (fun b w'=>ag=w'∧b=(decide (n.keys≠ [])&&decide (n.kids.length=n.keys.length+1))) (fun q J=>⟨fun aa=>⟨D,aZ,K,aS,J _ _ ⟨rfl,?_⟩⟩,fun aa=>J _ _ ⟨rfl,?_⟩⟩) ?_
     · have aa:=di aa
       have dI:n.keys≠ []:=fun e=>by rw[e] at A0;simp at A0;omega
       rw[jB dI,Fi,o6,yq,fY,ct (by omega) (by omega)]
       omega
     · have aa:=eB aa
       have dI:n.keys=[]:=yn.1 (by omega)
       rw[tC (fun h=>h dI),Bool.false_and]
     rintro b w' ⟨rfl,rfl⟩
     refine eI (fun b w'=>ag=w'∧b=(decide (n.keys≠ [])&&decide (n.kids.length=n.keys.length+1)&&decide (n.vals=[]))) (fun q J=>⟨fun aa=>⟨V,bA,J _ _ ⟨rfl,?_⟩⟩,fun aa=>J _ _ ⟨rfl,?_⟩⟩) ?_
     · rw[aa,Fi,o6,yq,fY,←yn]
       omega
     · rw[aa,Bool.false_and]
     rintro b w' ⟨rfl,rfl⟩
     refine eI (fun b w'=>ag=w'∧(b=true↔dC n)) (fun q J=>⟨fun aa=>⟨D,aZ,(afE aD.kids (by omega)).use ?_⟩,fun aa=>J _ _ ⟨rfl,?_⟩⟩) ?_
     · rintro _ _ ⟨rfl,rfl⟩
       refine ⟨_,rfl,J _ _ ⟨rfl,?_⟩⟩
       simp only[jS,fY] at aa
       rw[yo,HR]
       constructor
       · intro eT
         exact .inr ⟨ij,aA,aa.1.1,aa.1.2,aa.2,fun v ak=>by have:=eT v ak;simp at this;omega⟩
       · rintro (aj|aj)
         · have:=aj.leaf;rw[aA] at this;cases this
         · intro v ak;have:=aj.kids v ak;simp;omega
     · have aa:¬((n.keys≠ []∧n.kids.length=n.keys.length+1)∧n.vals=[]):=fun e=>by
         rw[jB e.1.1,jB e.1.2,jB e.2] at aa;cases aa
       refine ⟨fun h=>(by cases h),?_⟩
       rintro (aj|aj)
       · have:=aj.leaf;rw[aA] at this;cases this
       · exact absurd ⟨⟨aj.some,aj.len⟩,aj.vals⟩ aa
     rintro b w' ⟨rfl,aa⟩
     exact ⟨b,rfl,aa,bH⟩
end
section
theorem afL {w:World} {a b:ad} {oI gZ:List UInt8} (aT:Src 1 w a (bm oI)) (aa:Src 1 w b (bm gZ)) (aA:oI.length+gZ.length≤1000):
   aR Tryz.prog F.rD #[.slice (some ⟨w.heap.size,0,none⟩) 2 2] (w.alloc (.cells #[.slice a.a a.len a.cap, .slice b.a b.len b.cap] ai.cG)) (fun v w'=>∃au:ad,v= .slice au.a au.len au.cap∧bU 1 ai.uint8 w' au (bm (oI++gZ))∧Ext w w'∧nE w au):=by
 have af:=im w (.cells #[.slice a.a a.len a.cap, .slice b.a b.len b.cap] ai.cG)
 refine (LO (s:=⟨some ⟨w.heap.size,0,none⟩,2,2⟩) [(a,oI),(b,gZ)] (Src.new w _ 2 rfl) ?_ (by simp[ik];omega) (by simp)).mono ?_
 · intro p a6
   simp only[fP,mL,mM] at a6
   rcases a6 with rfl|rfl
   · exact aT.ext af
   · exact aa.ext af
 · rintro _ w' ⟨au,rfl,bR,Ie,aI⟩
   have e:ik [(a,oI),(b,gZ)]=oI++gZ:=by simp[ik]
   rw[e] at bR
   exact ⟨au,rfl,bR,af.trans Ie,aI.mono af.size⟩
theorem afM {w:World} {a b c:ad} {oI gZ lc:List UInt8} (aT:Src 1 w a (bm oI)) (aa:Src 1 w b (bm gZ)) (al:Src 1 w c (bm lc)) (aA:oI.length+gZ.length+lc.length≤1000):
   aR Tryz.prog F.rD #[.slice (some ⟨w.heap.size,0,none⟩) 3 3] (w.alloc (.cells #[.slice a.a a.len a.cap, .slice b.a b.len b.cap, .slice c.a c.len c.cap] ai.cG)) (fun v w'=>∃au:ad,v= .slice au.a au.len au.cap∧bU 1 ai.uint8 w' au (bm (oI++(gZ++lc)))∧Ext w w'∧nE w au):=by
 have af:=im w (.cells #[.slice a.a a.len a.cap, .slice b.a b.len b.cap, .slice c.a c.len c.cap] ai.cG)
 refine (LO (s:=⟨some ⟨w.heap.size,0,none⟩,3,3⟩) [(a,oI),(b,gZ),(c,lc)] (Src.new w _ 3 rfl) ?_ (by simp[ik];omega) (by simp)).mono ?_
 · intro p a6
   simp only[fP,mL,mM] at a6
   rcases a6 with rfl|rfl|rfl
   · exact aT.ext af
   · exact aa.ext af
   · exact al.ext af
 · rintro _ w' ⟨au,rfl,bR,Ie,aI⟩
   have e:ik [(a,oI),(b,gZ),(c,lc)]=oI++(gZ++lc):=by simp[ik]
   rw[e] at bR
   exact ⟨au,rfl,bR,af.trans Ie,aI.mono af.size⟩
theorem VX (w:World) {n:Nat} (aD:n≤255):Src 1 (w.alloc (.cells #[.int .u8 (IntKind.wrap .u8 ((n:Nat):Int))] ai.uint8)) ⟨some ⟨w.heap.size,0,none⟩,1,1⟩ (bm [UInt8.ofNat n])∧Ext w (w.alloc (.cells #[.int .u8 (IntKind.wrap .u8 ((n:Nat):Int))] ai.uint8)):=by
 have e:(#[.int .u8 (IntKind.wrap .u8 ((n:Nat):Int))]:Array Value)=(bm [UInt8.ofNat n]).toArray:=by
   rw[PI (by omega) (by omega)]
   simp[bm,ru (show n<256 by omega)]
 rw[e]
 exact ⟨Src.new w _ 1 rfl,im _ _⟩
theorem nh {α:Type} {l:List α} {i:Nat} {d:α} (h:i<l.length):l.getD i d=l[i]:=by
 rw[oy,gq h];rfl
theorem dC.va {n:aL} (h:dC n) (aA:n.leaf=true):n.vals.length=n.keys.length:=by
 rcases h with h|h
 · exact h.len
 · have:=h.inner;rw[aA] at this;cases this
theorem dC.FK {n:aL} (h:dC n) (aA:n.leaf=false):n.kids.length=n.keys.length+1:=by
 rcases h with h|h
 · have:=h.leaf;rw[aA] at this;cases this
 · exact h.len
theorem rG {B:Nat→Prop} {w:World} {n:aL} {K V D:ad} (h:b4 B w n K V D) (aj:dC n) {i:Nat} (hi:i<n.keys.length) (aD:n.keys.length≤100000):
   aR Tryz.prog F.rG #[eC n K V D, .int .i64 ((i:Nat):Int)] w (fun v w'=>∃s:ad,v= .slice s.a s.len s.cap∧bU 1 ai.uint8 w' s (bm (nf n i))∧Ext w w'∧nE w s):=by
 refine W.afN n.leaf K V D ((i:Nat):Int) w _ ?_
 (delta W.rG ah ar aX en bJ aE ay bL;dsimp only)
 refine cq (vs:=[.bool n.leaf, .slice K.a K.len K.cap, .slice V.a V.len V.cap, .slice D.a D.len D.cap]) rfl fun ag ak bH _=> ?_
 have bS:=eR ag
 have oJ:=bH.trans bS
 have nI:=h.ext oJ
 obtain ⟨cy,aS,bA,aZ⟩:=b9 (ak.ext bS)
 obtain ⟨A,t,ax,aa,al,ba,_⟩:=bO.at nI.keys hi
 have ij:=(aj.keys.ok _ (eN hi)).2
 have mO:=len8 ba.1
 obtain ⟨aQ,PQ⟩:=VX ag.drew (n:=t.len) (by omega)
 refine bW ⟨fun _=>False,id,K,aS,A,ax,aa,id,t,al,id,K,aS,A,ax,aa,id,t,al,bW ⟨PQ,bW ?_⟩⟩
 refine (afL (a:=⟨some ⟨ag.drew.heap.size,0,none⟩,1,1⟩) (b:=t) aQ (ba.1.ext PQ) (by simp;omega)).use ?_
 rintro _ bc ⟨bN,rfl,qV,eZ,u7⟩
 have g9:=bS.trans (PQ.trans eZ)
 obtain ⟨d0,d1,d2,d3⟩:=b9 (ak.ext g9)
 have ae: [UInt8.ofNat t.len]++n.keys[i]=AP (n.keys.getD i []):=by rw[nh hi,mO];rfl
 rw[ae] at qV
 have pN:=h.ext (bH.trans g9)
 refine ⟨bN,rfl,n.leaf,d0,fun aA=> ?_,fun aA=> ?_⟩
 · have j7:=aj.va aA
   have FL:i<n.vals.length:=by omega
   have kV:=eR bc
   have PR:=pN.ext kV
   obtain ⟨gB,aW,bq,ec⟩:=b9 (ak.ext (g9.trans kV))
   obtain ⟨qW,t2,kB,gM,dB,mQ,_⟩:=bO.at PR.vals FL
   have qT:=aj.vals _ (eN FL)
   have afO:=len8 mQ.1
   obtain ⟨fz,Ig⟩:=VX bc.drew (n:=t2.len) (by omega)
   refine bW ⟨fun _=>False,id,V,bq,qW,kB,gM,id,t2,dB,id,V,bq,qW,kB,gM,id,t2,dB,bW ⟨Ig,bW ?_⟩⟩
   refine (afM (a:=bN) (b:=⟨some ⟨bc.drew.heap.size,0,none⟩,1,1⟩) (c:=t2) (qV.src.ext (kV.trans Ig)) fz (mQ.1.ext Ig) (by rw[AQ,nh hi];simp;omega)).use ?_
   rintro _ bz ⟨cC,rfl,yJ,fu,yK⟩
   refine ⟨cC,rfl,cC,rfl,?_,(bH.trans g9).trans (kV.trans (Ig.trans fu)),yK.mono ((bH.trans g9).trans (kV.trans Ig)).size⟩
   have:AP (n.keys.getD i [])++([UInt8.ofNat t2.len]++n.vals[i])=nf n i:=by
     unfold nf
     rw[aA,if_pos rfl,nh FL,afO];rfl
   rwa[this] at yJ
 · have fI:=aj.FK aA
   have nc:i+1<n.kids.length:=by omega
   obtain ⟨qW,kB,gM,dB⟩:=dJ.at pN.kids nc
   have afP:=aj.kids _ (eN nc)
   rw[ct (n:=(i:Int)+1) (by omega) (by omega),show (i:Int)+1=((i+1:Nat):Int) by omega]
   refine ⟨D,d3,qW,kB,gM,_,dB,?_⟩
   rw[u3 (n:=((n.kids[i+1]:Nat):Int)) (by omega) (by omega)]
   refine (n2 qV.src (n:=n.kids[i+1]) (k:=2) (by rw[AQ,nh hi];omega) (by show _<18446744073709551616;omega) ⟨by decide,by decide⟩).use ?_
   rintro _ bz ⟨cC,rfl,yJ,fu,yK⟩
   refine ⟨cC,rfl,cC,rfl,?_,(bH.trans g9).trans fu,nE.mono yK (bH.trans g9).size⟩
   have:AP (n.keys.getD i [])++fJ n.kids[i+1] 2=nf n i:=by
     unfold nf
     rw[aA,if_neg (by simp),nh nc]
   rwa[this] at yJ
theorem L3 {n:aL} (aj:dC n) {i:Nat} (hi:i<n.keys.length):(nf n i).length≤100:=by
 unfold nf
 have:=(aj.keys.ok _ (eN hi)).2
 rw[dA,AQ,nh hi]
 split
 · rename_i aA
   have FL:i<n.vals.length:=by have:=aj.va aA;omega
   have:=aj.vals _ (eN FL)
   rw[AQ,nh FL];omega
 · rw[nd];omega
theorem PS {n:aL} (aj:dC n):∀m,m≤n.keys.length→(oC n 0 m).length≤100*m
 |0,_=>by simp[oC]
 |m+1,hm=>by
   have:=PS aj m (by omega)
   have:=L3 aj (i:=m) (by omega)
   rw[Pv,dA];omega
theorem tT {B:Nat→Prop} {w:World} {n:aL} {K V D:ad} (h:b4 B w n K V D) (aj:dC n) (aD:n.keys.length≤255):
   aR Tryz.prog F.tT #[eC n K V D] w (fun v w'=>∃s:ad,v= .slice s.a s.len s.cap∧bU 1 ai.uint8 w' s (bm (qU n))∧Ext w w'∧nE w s):=by
 refine W.afQ n.leaf K V D w _ ?_
 (delta W.tT ar ah bJ aE aX bL en ay;dsimp only)
 refine cq (vs:=[.bool n.leaf, .slice K.a K.len K.cap, .slice V.a V.len V.cap, .slice D.a D.len D.cap]) rfl fun ag ak bH _=> ?_
 obtain ⟨cy,aS,bA,aZ⟩:=b9 ak
 have ly:=h.ext bH
 have A0:=bO.len ly.keys
 have gB:(#[.int .u8 (IntKind.wrap .u8 ((K.len:Nat):Int))]:Array Value)=(bm [UInt8.ofNat n.keys.length]).toArray:=by
   rw[A0,PI (by omega) (by omega)]
   simp[bm,ru (show n.keys.length<256 by omega)]
 refine ⟨K,aS,?_⟩
 rw[gB]
 have tI:=bU.new (T:=ai.uint8) (sz:=1) ag (bm [UInt8.ofNat n.keys.length]) 1 rfl (by decide)
 have cB:=im ag (.cells (bm [UInt8.ofNat n.keys.length]).toArray ai.uint8)
 obtain ⟨aw,vb⟩:∃aw,aw=ag.alloc (.cells (bm [UInt8.ofNat n.keys.length]).toArray ai.uint8):=⟨_,rfl⟩
 rw[←vb] at tI cB⊢
 obtain ⟨d0,d1,d2,d3⟩:=b9 (ak.ext cB)
 have oJ:=bH.trans cB
 refine bW (eI (fun au w'=>bU 1 ai.uint8 w' au (bm (preB n))∧Ext aw w'∧nE ag au) (fun q J=>⟨n.leaf,d0,fun aA=> ?_,fun aA=>J _ _ ⟨?_, .refl _ _,?_⟩⟩) ?_)
 · have aA:n.leaf=false:=by simpa using aA
   have fI:=aj.FK aA
   have nc:0<n.kids.length:=by omega
   obtain ⟨qW,kB,gM,dB⟩:=dJ.at (h.ext oJ).kids nc
   have afP:=aj.kids _ (eN nc)
   refine ⟨D,d3,qW,kB,gM,_,dB,?_⟩
   rw[u3 (n:=((n.kids[0]:Nat):Int)) (by omega) (by omega)]
   refine (n2 tI.src (n:=n.kids[0]) (k:=2) (by simp) (by show _<18446744073709551616;omega) ⟨by decide,by decide⟩).use ?_
   rintro _ bz ⟨cC,rfl,yJ,fu,yK⟩
   refine ⟨cC,rfl,J _ _ ⟨?_,fu,nE.mono yK cB.size⟩⟩
   have: [UInt8.ofNat n.keys.length]++fJ n.kids[0] 2=preB n:=by
     unfold preB
     rw[aA,if_neg (by simp),nh nc];rfl
   rwa[this] at yJ
 · have aA:n.leaf=true:=by simpa using aA
   have:preB n=[UInt8.ofNat n.keys.length]:=by unfold preB;rw[aA];rfl
   rw[this];exact tI
 · rintro k ⟨A,ax,rfl⟩
   cases ax
   exact cU _
 rintro bN bc ⟨qV,eZ,u7⟩
 have g9:=cB.trans eZ
 obtain ⟨d0,d1,d2,d3⟩:=b9 (ak.ext g9)
 have Fu:(preB n).length≤3:=by
   unfold preB
   cases n.leaf<;>simp[nd]
 refine ⟨K,d1,fun au i w'=>∃j:Nat,i=j∧j≤n.keys.length∧bU 1 ai.uint8 w' au (bm (preB n++oC n 0 j))∧Ext ag w'∧nE ag au,fun _ i _=>((n.keys.length:Int)-i).toNat,⟨0,rfl,fy _,by simpa[oC] using qV,g9,u7⟩,?_⟩
 rintro cC _ bz ⟨j,rfl,aU,yJ,fu,yK⟩
 refine ⟨fun a_=> ?_,fun cn=> ?_⟩
 · have a_:j<n.keys.length:=by have:=di a_;omega
   obtain ⟨f0,f1,f2,f3⟩:=b9 (ak.ext fu)
   refine ⟨n.leaf,f0,K,f1,V,f2,D,f3,(rG (ly.ext fu) aj a_ (by omega)).use ?_⟩
   rintro _ bT ⟨b7,rfl,wY,kp,afg⟩
   have VY:=yB yJ
   have PE:=yB wY
   have c5:=L3 aj a_
   have cA:=PS aj j aU
   rw[dA] at VY
   obtain ⟨c3,bd,aC,aF,aH,aN,cV⟩:=LG.append (gX:=ai.cG) wY.src (yJ.ext kp) (Dk _) (by rw[VY,PE];omega)
   rw[ct (n:=(j:Int)+1) (by omega) (by omega)]
   refine ⟨b7,rfl,c3,bd,aC,⟨j+1,by omega,by omega,?_,Ext.gf (fu.trans kp) aN yK,fun k ae=> ?_⟩,?_⟩
   · rw[Pv,←d_,Dl];exact aF
   · rcases cV k ae with h|h
     · exact yK k h
     · exact j5 (fu.trans kp).size h
   · show ((n.keys.length:Int)-((j:Int)+1)).toNat<((n.keys.length:Int)-(j:Int)).toNat
     omega
 · have cn:j=n.keys.length:=by have:=eB cn;omega
   subst cn
   exact ⟨cC,rfl,yJ,bH.trans fu,yK.mono bH.size⟩
theorem tU {B:Nat→Prop} {w:World} {n:aL} {K V D:ad} (h:b4 B w n K V D) (aj:dC n) (aD:n.keys.length≤255):
   aR Tryz.prog F.tU #[eC n K V D] w (fun v w'=>v= .int .i64 (cd n:Nat)∧Ext w w'):=by
 have j7:n.vals.length≤100000:=by
   rcases aj with aj|aj
   · rw[aj.len];omega
   · rw[aj.vals];simp
 have kz:n.kids.length≤100000:=by
   rcases aj with aj|aj
   · rw[aj.kids];simp
   · rw[aj.len];omega
 refine W.afR n.leaf K V D w _ ?_
 (delta W.tU bJ ah ar aZ aE en;dsimp only)
 refine cq (vs:=[.bool n.leaf, .slice K.a K.len K.cap, .slice V.a V.len V.cap, .slice D.a D.len D.cap]) rfl fun ag ak bH _=> ?_
 obtain ⟨cy,aS,bA,aZ⟩:=b9 ak
 refine ⟨n.leaf,cy,K,aS,V,bA,D,aZ,(mP (h.ext bH) (by omega) j7 kz).use ?_⟩
 rintro _ aw ⟨b,rfl,aa,cB⟩
 have PT:=aa.2 aj
 subst PT
 obtain ⟨cy,aS,bA,aZ⟩:=b9 (ak.ext cB)
 refine ⟨true,rfl,fun h=>(by cases h),fun _=>⟨n.leaf,cy,K,aS,V,bA,D,aZ,(tT (h.ext (bH.trans cB)) aj aD).use ?_⟩⟩
 rintro _ bc ⟨bN,rfl,qV,eZ,_⟩
 have aA:=yB qV
 rw[Py aj] at aA
 exact ⟨bN,rfl,by rw[aA],(bH.trans cB).trans eZ⟩
def VZ (n:aL) (w w':World) (v:Value):Prop:=
 (∃s:ad,v= .tuple #[.slice s.a s.len s.cap, .int .i64 0]∧bU 1 ai.uint8 w' s (bm (qU n))∧nE w s∧dC n∧cd n≤232)∨
 (∃e:Int,v= .tuple #[.slice none 0 0, .int .i64 e]∧e≠0∧(dC n→232<cd n))
theorem tV {B:Nat→Prop} {w:World} {n:aL} {K V D:ad} (h:b4 B w n K V D) (fI:n.keys.length≤100000) (j7:n.vals.length≤100000) (kz:n.kids.length≤100000):
   aR Tryz.prog F.tV #[eC n K V D] w (fun v w'=>VZ n w w' v∧Ext w w'):=by
 refine W.afS n.leaf K V D w _ ?_
 (delta W.tV bJ ah ar aZ aE en;dsimp only)
 refine cq (vs:=[.bool n.leaf, .slice K.a K.len K.cap, .slice V.a V.len V.cap, .slice D.a D.len D.cap]) rfl fun ag ak bH _=> ?_
 obtain ⟨cy,aS,bA,aZ⟩:=b9 ak
 refine ⟨n.leaf,cy,K,aS,V,bA,D,aZ,(mP (h.ext bH) fI j7 kz).use ?_⟩
 rintro _ aw ⟨b,rfl,aa,cB⟩
 have oJ:=bH.trans cB
 obtain ⟨cy,aS,bA,aZ⟩:=b9 (ak.ext cB)
 have A0:=bO.len h.keys
 refine ⟨b,rfl,eI (fun c w'=>aw=w'∧(c=true→dC n→255<n.keys.length)∧(c=false→dC n∧n.keys.length≤255)) (fun q J=>⟨fun U=>J _ _ ⟨rfl,fun _ aj=> ?_,fun h=>(by cases h)⟩,fun U=>⟨K,aS,J _ _ ⟨rfl,fun ab aj=> ?_,fun ab=> ?_⟩⟩⟩) ?_⟩
 · have U:b=false:=by simpa using U
   rw[aa.2 aj] at U;cases U
 · have:=di ab;omega
 · have U:b=true:=by simpa using U
   have:=eB ab
   exact ⟨aa.1 U,by omega⟩
 rintro c w' ⟨rfl,aC,aF⟩
 refine ⟨fun U=>⟨.inr ⟨4,rfl,by decide,fun aj=> ?_⟩,oJ⟩,fun U=> ?_⟩
 · have:=aC U aj
   have:=LI aj
   omega
 obtain ⟨aj,ae⟩:=aF U
 refine ⟨n.leaf,cy,K,aS,V,bA,D,aZ,(tT (h.ext oJ) aj ae).use ?_⟩
 rintro _ bc ⟨bN,rfl,qV,eZ,u7⟩
 have aA:=yB qV
 rw[Py aj] at aA
 refine ⟨bN,rfl,fun ab=>⟨.inr ⟨10,rfl,by decide,fun _=> ?_⟩,oJ.trans eZ⟩,fun ab=>⟨.inl ⟨bN,rfl,qV,u7.mono oJ.size,aj,?_⟩,oJ.trans eZ⟩⟩
 · have:=di ab;omega
 · have:=eB ab;omega
theorem w6 {B:Nat→Prop} {w:World} {n:aL} {K V D:ad} (h:b4 B w n K V D) (fI:n.keys.length≤100000) (j7:n.vals.length≤100000) (kz:n.kids.length≤100000):
   aR Tryz.prog F.w6 #[eC n K V D] w (fun v w'=>VZ n w w' v∧Ext w w'):=by
 refine W.afT n.leaf K V D w _ ?_
 (delta W.w6 bJ ah ar fK;dsimp only)
 refine cq (vs:=[.bool n.leaf, .slice K.a K.len K.cap, .slice V.a V.len V.cap, .slice D.a D.len D.cap]) rfl fun ag ak bH _=> ?_
 obtain ⟨cy,aS,bA,aZ⟩:=b9 ak
 refine ⟨n.leaf,cy,K,aS,V,bA,D,aZ,(tV (h.ext bH) fI j7 kz).use ?_⟩
 rintro _ aw ⟨f_,cB⟩
 rcases f_ with ⟨s,rfl,bR,aI,aj,aD⟩|⟨e,rfl,he,aD⟩
 · exact ⟨s,0,rfl, .inl ⟨s,rfl,bR,aI.mono bH.size,aj,aD⟩,bH.trans cB⟩
 · exact ⟨⟨none,0,0⟩,e,rfl, .inr ⟨e,rfl,he,aD⟩,bH.trans cB⟩
end
section
theorem jH {w:World} {b i:Nat} {vs:List Value} {T:TypeId} (h:Var w b vs T) (v:Value):Var (w.setCell ⟨b,i,none⟩ v) b (vs.set i v) T:=by
 have:=ck.set h i v
 have e:vs.toArray.setIfInBounds i v=(vs.set i v).toArray:=by simp
 rw[e] at this
 exact this
theorem jI {w:World} {b i:Nat} {vs:List Value} {T:TypeId} (h:Var w b vs T) (hi:i<vs.length):(∃u:Value,w.cell? ⟨b,i,none⟩=some u)∧w.frozen? ⟨b,i,none⟩=false:=
 ⟨⟨vs[i],by rw[h.cell];simp[hi]⟩,ck.frozen h _ rfl⟩
theorem iq (w:World) (b i:Nat) (v:Value):aq (fun q=>q=b) w (w.setCell ⟨b,i,none⟩ v):=aq.nf (.refl _ _) v
structure qX (w:World) (r:Nat) (s:ad) (rd:Rd):Prop where
 v:Var w r [.slice s.a s.len s.cap, .bool rd.2] ai.V0
 src:Src 1 w s (bm rd.1)
 le:s.len≤s.cap
 ne:∀k,aP s k→k≠r
theorem qX.an {W:Nat→Prop} {w w':World} {r:Nat} {s:ad} {rd:Rd} (h:qX w r s rd) (al:aq W w w') (U:¬W r) (ab:∀k,aP s k→¬W k):qX w' r s rd:=⟨h.v.an al U,h.src.an al ab,h.le,h.ne⟩
theorem qX.ext {w w':World} {r:Nat} {s:ad} {rd:Rd} (h:qX w r s rd) (al:Ext w w'):qX w' r s rd:=qX.an h al id fun _ _ h=>h
theorem L4 {a:Option Addr} {z l m n c k:Nat} (h:aP ⟨bf a z l m,n,c⟩ k):∃A,a=some A∧A.block=k:=by
 obtain ⟨A,ax,rfl⟩:=h
 unfold bf at ax
 split at ax
 · exact ⟨A,ax,rfl⟩
 · cases aT:a with
   |none=>rw[aT] at ax;cases ax
   |some w7=>
     rw[aT] at ax
     simp only[C_,Option.some.injEq] at ax
     exact ⟨w7,rfl,by subst ax;unfold Addr.add;split<;>rfl⟩
theorem V1 {w:World} {r:Nat} {s:ad} {rd:Rd} (h:qX w r s rd) (k:Nat) (ae:k≤100000) (aA:rd.1.length≤100000):
   aR Tryz.prog F.yL #[.pointer (some ⟨r,0,none⟩), .int .i64 ((k:Nat):Int)] w (fun v w'=>∃t au:ad,v= .slice t.a t.len t.cap∧bX (fun q=>w.heap.size≤q) w' t (oD rd k).1∧qX w' r au (oD rd k).2∧aq (fun q=>q=r) w w'∧(∀q,aP au q→aP s q)):=by
 obtain ⟨l,ok⟩:=rd
 have ak:=h.v
 have fR:=len8 h.src
 simp only at fR aA ak
 have a_:=ak.lt
 refine W.afU (some ⟨r,0,none⟩) ((k:Nat):Int) w _ ?_
 (delta W.yL bJ aE ar st en;dsimp only)
 refine ⟨_,rfl,ok,by rw[bn];exact ak.cell,eI (fun b w'=>w=w'∧b=decide (ok=false∨l.length<k)) (fun q J=>⟨fun U=>J _ _ ⟨rfl,?_⟩,fun U=>⟨_,rfl,s,ak.cell,J _ _ ⟨rfl,?_⟩⟩⟩) ?_⟩
 · have U:ok=false:=by simpa using U
   exact (jB (.inl U)).symm
 · have U:ok=true:=by simpa using U
   subst U
   rw[o6,fY,fY]
   constructor
   · intro h;exact .inr (by omega)
   · rintro (h|h)
     · cases h
     · omega
 rintro b w' ⟨rfl,rfl⟩
 refine ⟨fun aa=>⟨_,rfl,?_⟩,fun aa=>⟨_,rfl,s,ak.cell,?_⟩⟩
 · have aa:=di aa
   obtain ⟨aC,aF⟩:=jI ak (i:=1) (by simp)
   rw[bn]
   have al:=iq w r 1 (.bool false)
   have e:oD (l,ok) k=([],(l,false)):=by unfold oD;rw[if_pos aa]
   rw[e]
   refine ⟨aC,aF,bW ⟨⟨none,0,0⟩,s,rfl,⟨(bU.none 1 ai.uint8 _).src,cU _,fun q J=>(pE q J).elim⟩,⟨jH ak _,h.src.an al fun q J=>h.ne q J,h.le,h.ne⟩,al,fun q J=>J⟩⟩
 · have aa:=eB aa
   have e:oD (l,ok) k=(l.take k,(l.drop k,true)):=by unfold oD;rw[if_neg aa]
   have fI:k≤l.length:=by
     rcases g2 l.length k with U|U
     · exact absurd (.inr U) aa
     · exact U
   have ft:ok=true:=by
     cases ok with
     |true=>rfl
     |false=>exact absurd (.inl rfl) aa
   subst ft
   rw[e]
   have hle:=h.le
   refine ⟨⟨by omega,by omega⟩,?_⟩
   have gW:=Dr h.src h.le (lo:=0) (hi:=k) (by omega) (by omega)
   rw[C7,Fj] at gW
   rw[g6,Fj]
   refine (tQ (B:=fun q=>w.heap.size≤q) (s:=⟨bf s.a 1 0 s.cap,k,s.cap-0⟩) gW (by rw[eA];omega) (fun q J=>J)).use ?_
   rintro _ ag ⟨t,rfl,ba,bH,pF⟩
   have lQ:=ak.ext bH
   obtain ⟨aC,aF⟩:=jI lQ (i:=0) (by simp)
   have al:=iq ag r 0 (.slice (bf s.a 1 k s.cap) (s.len-k) (s.cap-k))
   have nH:=Dr (h.src.ext bH) h.le (lo:=k) (hi:=s.len) (by omega) (cU _)
   rw[gV (l:=l.drop k) (by rw[fx];omega)] at nH
   have dI:∀q,aP ⟨bf s.a 1 k s.cap,s.len-k,s.cap-k⟩ q→q≠r:=fun q J=>by
     obtain ⟨A,ax,aa⟩:=L4 J
     exact h.ne q ⟨A,ax,aa⟩
   refine ⟨t,rfl,_,rfl,s,lQ.cell,⟨by omega,by omega⟩,_,rfl,aC,aF,bW ⟨t,⟨bf s.a 1 k s.cap,s.len-k,s.cap-k⟩,rfl,bX.an ba al (fun q J e=>by subst e;omega),⟨jH lQ _,nH.an al fun q J=>dI q J,by show s.len-k≤s.cap-k;omega,dI⟩,(aq.e0 bH).trans al,fun q J=> ?_⟩⟩
   obtain ⟨A,ax,aa⟩:=L4 J
   exact ⟨A,ax,aa⟩
theorem PU {w:World} {r:Nat} {s:ad} {rd:Rd} (h:qX w r s rd) (k:Nat) (ae:1≤k∧k≤2) (aA:rd.1.length≤100000):
   aR Tryz.prog F.vc #[.pointer (some ⟨r,0,none⟩), .int .i64 ((k:Nat):Int)] w (fun v w'=>∃au:ad,v= .int .i64 ((rdNum rd k).1:Nat)∧qX w' r au (rdNum rd k).2∧aq (fun q=>q=r) w w'∧(∀q,aP au q→aP s q)):=by
 refine W.afV (some ⟨r,0,none⟩) ((k:Nat):Int) w _ ?_
 (delta W.vc en LX ay;dsimp only)
 refine (V1 h k (by omega) aA).use ?_
 rintro _ ag ⟨t,au,rfl,ba,aQ,al,bR⟩
 have hlen:(oD rd k).1.length=k∨(oD rd k).1=[]:=by
   unfold oD
   split
   · exact .inr rfl
   · rename_i cK
     left
     rw[eA]
     have:¬rd.1.length<k:=fun h=>cK (.inr h)
     omega
 have aa:=H6 k (oD rd k).1
 have a6:256^k≤65536:=j5 (Lj (by omega) ae.2) (by decide)
 refine ⟨t,rfl,?_⟩
 rcases hlen with hlen|hlen
 · refine (rB (a:=0) (k:=k) ba.1 ba.2.1 ⟨ae.1,by omega⟩ (by omega) (by omega)).use ?_
   rintro _ _ ⟨rfl,rfl⟩
   have aa:=aa hlen
   rw[C7,gV (by omega)]
   refine ⟨_,_,rfl,au,?_,aQ,al,bR⟩
   rw[ct (by omega) (by omega)]
   unfold rdNum
   rw[if_pos hlen]
 · refine (ae5 (k:=k) ba.1 (by omega) (by rw[hlen];simp;omega)).use ?_
   rintro _ _ ⟨rfl,rfl⟩
   refine ⟨_,_,rfl,au,?_,aQ,al,bR⟩
   unfold rdNum
   rw[if_neg (by rw[hlen];simp;omega)]
   rfl
theorem PV (rd:Rd) (k:Nat):(rdNum rd k).1<256^k:=by
 unfold rdNum
 split
 · exact H6 k _ (by assumption)
 · exact Nat.pow_pos (by omega)
theorem V2 (rd:Rd) (k:Nat):(oD rd k).2.1.length≤rd.1.length∧(oD rd k).1.length≤k:=by
 unfold oD
 split
 · exact ⟨cU _,fy _⟩
 · exact ⟨by rw[fx];omega,by rw[eA];omega⟩
theorem L5 (rd:Rd) (k:Nat):(rdNum rd k).2.1.length≤rd.1.length:=(V2 rd k).1
theorem V3 (rd:Rd):(rC rd).2.1.length≤rd.1.length∧(rC rd).1.length≤255:=by
 unfold rC
 have U:=V2 (rdNum rd 1).2 (rdNum rd 1).1
 have ab:=L5 rd 1
 have ao:(rdNum rd 1).1<256:=PV rd 1
 exact ⟨by omega,by omega⟩
theorem V4 {w:World} {r:Nat} {s:ad} {rd:Rd} (h:qX w r s rd) (aA:rd.1.length≤100000):
   aR Tryz.prog F.vd #[.pointer (some ⟨r,0,none⟩)] w (fun v w'=>∃t au:ad,v= .slice t.a t.len t.cap∧bX (fun q=>w.heap.size≤q) w' t (rC rd).1∧qX w' r au (rC rd).2∧aq (fun q=>q=r) w w'∧(∀q,aP au q→aP s q)):=by
 refine W.afW (some ⟨r,0,none⟩) w _ ?_
 (delta W.vd aS en;dsimp only)
 refine (PU h 1 (by omega) aA).use ?_
 rintro _ ag ⟨s1,rfl,kq,ir,ko⟩
 have ao:(rdNum rd 1).1<256:=PV rd 1
 have aG:=L5 rd 1
 refine ⟨_,rfl,(V1 kq (rdNum rd 1).1 (by omega) (by omega)).use ?_⟩
 rintro _ aw ⟨t,s2,rfl,ba,fz,dB,tI⟩
 exact ⟨t,rfl,t,s2,rfl,bX.bx ba fun q _ J=>j5 ir.size J,fz,ir.trans dB,fun q J=>ko q (tI q J)⟩
end
section
theorem bV.bx {B C:Nat→Prop} {w:World} {s:ad} {ls:List Key} (h:bV B w s ls) (aa:∀k,k<w.heap.size→B k→C k):bV C w s ls:=by
 obtain ⟨ts,U,ab,ao,aG⟩:=h
 exact ⟨ts,U,ab,In.bx ao aa,fun i b_ hY=>⟨bX.bx (aG i b_ hY).1 aa,(aG i b_ hY).2⟩⟩
theorem dY.bx {B C:Nat→Prop} {w:World} {s:ad} {ds:List Nat} (h:dY B w s ds) (aa:∀k,k<w.heap.size→B k→C k):dY C w s ds:=⟨h.1,In.bx h.2 aa⟩
def Grow (B:Nat→Prop) (w w':World) (q:Nat):Prop:=B q∨(w.heap.size≤q∧q<w'.heap.size)
theorem L6 {w:World} {bB o:Nat} {vs:List Value} {S t:ad} {ls:List Key} {l:Key} {B:Nat→Prop} {T:TypeId} {W:Nat→Prop} (ak:Var w bB vs T) (yM:o<vs.length) (n_:bV B w S ls) (A1:¬B bB)
   (ba:bX B w t l) (hd:∀k,aP t k→¬aP S k) (aD:ls.length≤100000) {K:World→Prop}
   (bp:∀ (w':World) (gb:ad),Var w' bB (vs.set o (.slice gb.a gb.len gb.cap)) T→bV (Grow B w w') w' gb (ls++ [l])→aq (fun q=>q=bB∨aP S q) w w'→K w'):
   az (w.alloc (.cells #[.slice t.a t.len t.cap] ai.cG)) fun eJ=>aq W w eJ∧∃dk:ad,∃e3:World,Sem.run Tryz.prog (Builtin.append_ #[ai.cz,ai.cz] ai.cz #[.slice S.a S.len S.cap, .slice (some ⟨w.heap.size,0,none⟩) 1 1]) eJ= .ok (.slice dk.a dk.len dk.cap) e3∧
     (∃u:Value,e3.cell? (Addr.add ⟨bB,0,none⟩ o)=some u)∧e3.frozen? (Addr.add ⟨bB,0,none⟩ o)=false∧az (e3.setCell (Addr.add ⟨bB,0,none⟩ o) (.slice dk.a dk.len dk.cap)) fun eS=>K eS:=by
 have yN:=bV.bx (C:=fun q=>B q∨w.heap.size≤q) n_ fun k _ h=> .inl h
 have mQ:=bX.bx (C:=fun q=>B q∨w.heap.size≤q) ba fun k _ h=> .inl h
 obtain ⟨au,w',aC,aF,aH,aN⟩:=VU yN mQ hd (by omega) fun k ae=> .inr ae
 have kC:=ak.lt
 have Ih:¬aP S bB:=fun h=>by
   obtain ⟨ts,_,_,ao,_⟩:=n_
   exact A1 (ao bB h).1
 have pO:=ak.an aH Ih
 obtain ⟨aS,bA⟩:=jI pO yM
 refine bW ⟨aq.e0 (im _ _),au,w',aC,?_⟩
 rw[bn,gd]
 have al:=iq w' bB o (.slice au.a au.len au.cap)
 refine ⟨aS,bA,bW (bp _ au (jH pO _) ?_ ?_)⟩
 · have aV:=bV.bx (C:=Grow B w (w'.setCell ⟨bB,o,none⟩ (.slice au.a au.len au.cap))) aF fun k ae h=>by
     rcases h with h|h
     · exact .inl h
     · exact .inr ⟨h,lP ae al.size⟩
   refine bV.an aV al fun k ae e=> ?_
   subst e
   rcases ae with h|h
   · exact A1 h
   · omega
 · exact (aH.mono fun k _ h=> .inr h).trans (al.mono fun k _ h=> .inl h)
theorem V5 {w:World} {bB o:Nat} {vs:List Value} {S:ad} {ds:List Nat} (d:Nat) {B:Nat→Prop} {T:TypeId} {W:Nat→Prop} (ak:Var w bB vs T) (yM:o<vs.length) (n_:dY B w S ds) (A1:¬B bB)
   (aD:ds.length≤100000) {K:World→Prop}
   (bp:∀ (w':World) (gb:ad),Var w' bB (vs.set o (.slice gb.a gb.len gb.cap)) T→dY (Grow B w w') w' gb (ds++ [d])→aq (fun q=>q=bB∨aP S q) w w'→K w'):
   az (w.alloc (.cells #[.int .i64 ((d:Nat):Int)] ai.int)) fun eJ=>aq W w eJ∧∃dk:ad,∃e3:World,Sem.run Tryz.prog (Builtin.append_ #[ai.dD,ai.dD] ai.dD #[.slice S.a S.len S.cap, .slice (some ⟨w.heap.size,0,none⟩) 1 1]) eJ= .ok (.slice dk.a dk.len dk.cap) e3∧
     (∃u:Value,e3.cell? (Addr.add ⟨bB,0,none⟩ o)=some u)∧e3.frozen? (Addr.add ⟨bB,0,none⟩ o)=false∧az (e3.setCell (Addr.add ⟨bB,0,none⟩ o) (.slice dk.a dk.len dk.cap)) fun eS=>K eS:=by
 have yN:=dY.bx (C:=fun q=>B q∨w.heap.size≤q) n_ fun k _ h=> .inl h
 obtain ⟨au,w',aC,aF,aH,aN⟩:=afz d yN (by omega) fun k ae=> .inr ae
 have kC:=ak.lt
 have Ih:¬aP S bB:=fun h=>A1 (n_.2 bB h).1
 have pO:=ak.an aH Ih
 obtain ⟨aS,bA⟩:=jI pO yM
 refine bW ⟨aq.e0 (im _ _),au,w',aC,?_⟩
 rw[bn,gd]
 have al:=iq w' bB o (.slice au.a au.len au.cap)
 refine ⟨aS,bA,bW (bp _ au (jH pO _) ?_ ?_)⟩
 · have aV:=dY.bx (C:=Grow B w (w'.setCell ⟨bB,o,none⟩ (.slice au.a au.len au.cap))) aF fun k ae h=>by
     rcases h with h|h
     · exact .inl h
     · exact .inr ⟨h,lP ae al.size⟩
   refine dY.an aV al fun k ae e=> ?_
   subst e
   rcases ae with h|h
   · exact A1 h
   · omega
 · exact (aH.mono fun k _ h=> .inr h).trans (al.mono fun k _ h=> .inl h)
structure sD (lo:Nat) (w:World) (r bB:Nat) (s:ad) (m:aL×Rd) (K V D:ad) (cr cI cf:Nat→Prop):Prop where
 v:Var w bB [.bool m.1.leaf, .slice K.a K.len K.cap, .slice V.a V.len V.cap, .slice D.a D.len D.cap] ai.cD
 rd:qX w r s m.2
 keys:bV cr w K m.1.keys
 vals:bV cI w V m.1.vals
 kids:dY cf w D m.1.kids
 bK:∀q,cr q→lo≤q∧q<w.heap.size∧¬cI q∧¬cf q
 bv:∀q,cI q→lo≤q∧q<w.heap.size∧¬cf q
 aX:∀q,cf q→lo≤q∧q<w.heap.size
 aj:∀q,aP s q→q<lo∧q≠bB
 Dw:r<lo
 Dx:bB<lo
 sE:r≠bB
 Dy:m.2.1.length≤100000
def Dz (lo r bB:Nat) (q:Nat):Prop:=q=r∨q=bB∨lo≤q
theorem sD.drew {lo:Nat} {w:World} {r bB:Nat} {s:ad} {m:aL×Rd} {K V D:ad} {cr cI cf:Nat→Prop} (h:sD lo w r bB s m K V D cr cI cf):sD lo w.drew r bB s m K V D cr cI cf:=
 ⟨h.v.ext (eR w),h.rd.ext (eR w),bV.ext h.keys (eR w),bV.ext h.vals (eR w),dY.ext h.kids (eR w),h.bK,h.bv,h.aX,h.aj,h.Dw,h.Dx,h.sE,h.Dy⟩
theorem V6 {leaf:Bool}:∀ (s:aL×Rd) (i:Nat),s.1.leaf=leaf→(o9 s i).1.leaf=leaf
 |_,0,h=>h
 |s,i+1,h=>by
   have c1:=V6 s i h
   rw[o9]
   unfold Dq
   split
   · exact c1
   · exact c1
theorem V7:∀ (s:aL×Rd) (i:Nat),(o9 s i).1.keys.length=s.1.keys.length+i∧(o9 s i).1.vals.length≤s.1.vals.length+i∧(o9 s i).1.kids.length≤s.1.kids.length+i
 |_,0=>⟨rfl,cU _,cU _⟩
 |s,i+1=>by
   obtain ⟨U,ab,ao⟩:=V7 s i
   rw[o9]
   unfold Dq
   split<;>simp<;>omega
theorem afX {lo:Nat} {w:World} {r bB:Nat} {s:ad} {m:aL×Rd} {K V D:ad} {cr cI cf:Nat→Prop} (h:sD lo w r bB s m K V D cr cI cf) (oz:lo≤w.heap.size) (aD:m.1.keys.length≤100000) {R:World→Prop}
   (cR:∀ (w':World) (aO au:ad) (yO:Nat→Prop),sD lo w' r bB au (⟨m.1.leaf,m.1.keys++ [(rC m.2).1],m.1.vals,m.1.kids⟩,(rC m.2).2) aO V D yO cI cf→aq (Dz lo r bB) w w'→lo≤w'.heap.size→R w'):
   az w.drew fun fv=>∃qY:Nat→Prop,¬qY (Addr.add ⟨bB,0,none⟩ 1).block∧∃ed:ad,fv.cell? (Addr.add ⟨bB,0,none⟩ 1)=some (.slice ed.a ed.len ed.cap)∧
     Calls Tryz.prog F.vd #[.pointer (some ⟨r,0,none⟩)] fv fun Ii fB=>∃hO:ad,Ii= .returned (.slice hO.a hO.len hO.cap)∧aq qY fv fB∧
     az (fB.alloc (.cells #[.slice hO.a hO.len hO.cap] ai.cG)) fun eJ=>aq qY fB eJ∧∃dk:ad,∃e3:World,Sem.run Tryz.prog (Builtin.append_ #[ai.cz,ai.cz] ai.cz #[.slice ed.a ed.len ed.cap, .slice (some ⟨fB.heap.size,0,none⟩) 1 1]) eJ= .ok (.slice dk.a dk.len dk.cap) e3∧
     (∃u:Value,e3.cell? (Addr.add ⟨bB,0,none⟩ 1)=some u)∧e3.frozen? (Addr.add ⟨bB,0,none⟩ 1)=false∧az (e3.setCell (Addr.add ⟨bB,0,none⟩ 1) (.slice dk.a dk.len dk.cap)) fun eS=>R eS:=by
 have hd:=h.drew
 have aQ:=h.Dw
 have kC:=h.Dx
 obtain ⟨cy,aS,bA,aZ⟩:=b9 hd.v
 refine bW ⟨fun q=>q=r,fun e=>h.sE (by rw[bn] at e;exact e.symm),K,aS,(V4 hd.rd hd.Dy).use ?_⟩
 rintro _ fB ⟨t,au,rfl,ba,dN,al,lz⟩
 have bD:w.drew.heap.size=w.heap.size:=rfl
 have dr:=al.size
 have ve:∀ {B:Nat→Prop},(∀q,B q→lo≤q)→∀k,B k→¬(k=r):=fun gK k ae e=>by have:=gK k ae;omega
 have dj:=bV.an hd.keys al (ve fun q J=>(h.bK q J).1)
 have f_:=bV.an hd.vals al (ve fun q J=>(h.bv q J).1)
 have kW:=dY.an hd.kids al (ve fun q J=>(h.aX q J).1)
 have Ij:=hd.v.an al (fun e=>h.sE e.symm)
 refine ⟨t,rfl,al,L6 (B:=Grow cr w.drew fB) Ij (o:=1) (by simp) (bV.bx dj fun k _ h=> .inl h) ?_ (bX.bx ba fun k ae h=> .inr ⟨h,ae⟩) ?_ aD fun w' aO aC aF aH=> ?_⟩
 · rintro (U|U)
   · have:=(h.bK bB U).1;omega
   · omega
 · intro k iY DA
   obtain ⟨ts,_,_,ao,_⟩:=h.keys
   have:=(ao k DA).2
   have:=(ba.2.2 k iY).1
   omega
 have g_:∀q,Grow (Grow cr w.drew fB) fB w' q→cr q∨(w.heap.size≤q∧q<w'.heap.size):=by
   rintro q ((U|U)|U)
   · exact .inl U
   · exact .inr ⟨U.1,lP U.2 aH.size⟩
   · exact .inr ⟨j5 dr U.1,U.2⟩
 have bg:=aH.size
 have jY:∀q,aP K q→cr q:=fun q J=>by
   obtain ⟨ts,_,_,ao,_⟩:=h.keys
   exact (ao q J).1
 refine cR w' aO au (fun q=>cr q∨(w.heap.size≤q∧q<w'.heap.size)) ⟨by simpa using aC,dN.an aH ?_ ?_,bV.bx aF fun k _ ae=>g_ k ae,bV.an f_ aH ?_,dY.an kW aH ?_,?_,fun q J=> ?_,fun q J=> ?_,fun q J=>h.aj q (lz q J),h.Dw,h.Dx,h.sE,j5 (V3 m.2).1 h.Dy⟩ ?_ (by omega)
 · rintro (U|U)
   · exact h.sE U
   · have:=(h.bK r (jY r U)).1;omega
 · rintro q J (U|U)
   · exact (h.aj q (lz q J)).2 U
   · have:=(h.bK q (jY q U)).1
     have:=(h.aj q (lz q J)).1;omega
 · rintro q J (U|U)
   · have:=(h.bv q J).1;omega
   · exact (h.bK q (jY q U)).2.2.1 J
 · rintro q J (U|U)
   · have:=(h.aX q J).1;omega
   · exact (h.bK q (jY q U)).2.2.2 J
 · rintro q (U|U)
   · have:=h.bK q U;exact ⟨this.1,by omega,this.2.2⟩
   · exact ⟨by omega,U.2,fun ab=>by have:=h.bv q ab;omega,fun ab=>by have:=h.aX q ab;omega⟩
 · have:=h.bv q J;exact ⟨this.1,by omega,this.2.2⟩
 · have:=h.aX q J;exact ⟨this.1,by omega⟩
 · refine ((aq.e0 (eR w)).trans (al.mono fun k _ ae=> .inl ae)).trans (aH.mono fun k _ ae=> ?_)
   rcases ae with ae|ae
   · exact .inr (.inl ae)
   · exact .inr (.inr (h.bK k (jY k ae)).1)
theorem afY {lo:Nat} {w:World} {r bB:Nat} {s:ad} {m:aL×Rd} {K V D:ad} {cr cI cf:Nat→Prop} (h:sD lo w r bB s m K V D cr cI cf) (oz:lo≤w.heap.size) (aD:m.1.vals.length≤100000) {R:World→Prop}
   (cR:∀ (w':World) (bE au:ad) (L7:Nat→Prop),sD lo w' r bB au (⟨m.1.leaf,m.1.keys,m.1.vals++ [(rC m.2).1],m.1.kids⟩,(rC m.2).2) K bE D cr L7 cf→aq (Dz lo r bB) w w'→lo≤w'.heap.size→R w'):
   az w.drew fun fv=>∃qY:Nat→Prop,¬qY (Addr.add ⟨bB,0,none⟩ 2).block∧∃ed:ad,fv.cell? (Addr.add ⟨bB,0,none⟩ 2)=some (.slice ed.a ed.len ed.cap)∧
     Calls Tryz.prog F.vd #[.pointer (some ⟨r,0,none⟩)] fv fun Ii fB=>∃hO:ad,Ii= .returned (.slice hO.a hO.len hO.cap)∧aq qY fv fB∧
     az (fB.alloc (.cells #[.slice hO.a hO.len hO.cap] ai.cG)) fun eJ=>aq qY fB eJ∧∃dk:ad,∃e3:World,Sem.run Tryz.prog (Builtin.append_ #[ai.cz,ai.cz] ai.cz #[.slice ed.a ed.len ed.cap, .slice (some ⟨fB.heap.size,0,none⟩) 1 1]) eJ= .ok (.slice dk.a dk.len dk.cap) e3∧
     (∃u:Value,e3.cell? (Addr.add ⟨bB,0,none⟩ 2)=some u)∧e3.frozen? (Addr.add ⟨bB,0,none⟩ 2)=false∧az (e3.setCell (Addr.add ⟨bB,0,none⟩ 2) (.slice dk.a dk.len dk.cap)) fun eS=>R eS:=by
 have hd:=h.drew
 have aQ:=h.Dw
 have kC:=h.Dx
 obtain ⟨cy,aS,bA,aZ⟩:=b9 hd.v
 refine bW ⟨fun q=>q=r,fun e=>h.sE (by rw[bn] at e;exact e.symm),V,bA,(V4 hd.rd hd.Dy).use ?_⟩
 rintro _ fB ⟨t,au,rfl,ba,dN,al,lz⟩
 have bD:w.drew.heap.size=w.heap.size:=rfl
 have dr:=al.size
 have ve:∀ {B:Nat→Prop},(∀q,B q→lo≤q)→∀k,B k→¬(k=r):=fun gK k ae e=>by have:=gK k ae;omega
 have dj:=bV.an hd.keys al (ve fun q J=>(h.bK q J).1)
 have f_:=bV.an hd.vals al (ve fun q J=>(h.bv q J).1)
 have kW:=dY.an hd.kids al (ve fun q J=>(h.aX q J).1)
 have Ij:=hd.v.an al (fun e=>h.sE e.symm)
 refine ⟨t,rfl,al,L6 (B:=Grow cI w.drew fB) Ij (o:=2) (by simp) (bV.bx f_ fun k _ h=> .inl h) ?_ (bX.bx ba fun k ae h=> .inr ⟨h,ae⟩) ?_ aD fun w' bE aC aF aH=> ?_⟩
 · rintro (U|U)
   · have:=(h.bv bB U).1;omega
   · omega
 · intro k iY DA
   obtain ⟨ts,_,_,ao,_⟩:=h.vals
   have:=(ao k DA).2
   have:=(ba.2.2 k iY).1
   omega
 have g_:∀q,Grow (Grow cI w.drew fB) fB w' q→cI q∨(w.heap.size≤q∧q<w'.heap.size):=by
   rintro q ((U|U)|U)
   · exact .inl U
   · exact .inr ⟨U.1,lP U.2 aH.size⟩
   · exact .inr ⟨j5 dr U.1,U.2⟩
 have bg:=aH.size
 have jY:∀q,aP V q→cI q:=fun q J=>by
   obtain ⟨ts,_,_,ao,_⟩:=h.vals
   exact (ao q J).1
 refine cR w' bE au (fun q=>cI q∨(w.heap.size≤q∧q<w'.heap.size)) ⟨by simpa using aC,dN.an aH ?_ ?_,bV.an dj aH ?_,bV.bx aF fun k _ ae=>g_ k ae,dY.an kW aH ?_,fun q J=> ?_,?_,fun q J=> ?_,fun q J=>h.aj q (lz q J),h.Dw,h.Dx,h.sE,j5 (V3 m.2).1 h.Dy⟩ ?_ (by omega)
 · rintro (U|U)
   · exact h.sE U
   · have:=(h.bv r (jY r U)).1;omega
 · rintro q J (U|U)
   · exact (h.aj q (lz q J)).2 U
   · have:=(h.bv q (jY q U)).1
     have:=(h.aj q (lz q J)).1;omega
 · rintro q J (U|U)
   · have:=(h.bK q J).1;omega
   · exact (h.bK q J).2.2.1 (jY q U)
 · rintro q J (U|U)
   · have:=(h.aX q J).1;omega
   · exact (h.bv q (jY q U)).2.2 J
 · have:=h.bK q J
   refine ⟨this.1,by omega,?_,this.2.2.2⟩
   rintro (U|U)
   · exact this.2.2.1 U
   · omega
 · rintro q (U|U)
   · have:=h.bv q U;exact ⟨this.1,by omega,this.2.2⟩
   · exact ⟨by omega,U.2,fun ab=>by have:=h.aX q ab;omega⟩
 · have:=h.aX q J;exact ⟨this.1,by omega⟩
 · refine ((aq.e0 (eR w)).trans (al.mono fun k _ ae=> .inl ae)).trans (aH.mono fun k _ ae=> ?_)
   rcases ae with ae|ae
   · exact .inr (.inl ae)
   · exact .inr (.inr (h.bv k (jY k ae)).1)
theorem V8 {lo:Nat} {w:World} {r bB:Nat} {s:ad} {m:aL×Rd} {K V D:ad} {cr cI cf:Nat→Prop} (h:sD lo w r bB s m K V D cr cI cf) (oz:lo≤w.heap.size) (aD:m.1.kids.length≤100000) {R:World→Prop}
   (cR:∀ (w':World) (aM au:ad) (PW:Nat→Prop),sD lo w' r bB au (⟨m.1.leaf,m.1.keys,m.1.vals,m.1.kids++ [(rdNum m.2 2).1]⟩,(rdNum m.2 2).2) K V aM cr cI PW→aq (Dz lo r bB) w w'→lo≤w'.heap.size→R w'):
   az w.drew fun fv=>∃qY:Nat→Prop,¬qY (Addr.add ⟨bB,0,none⟩ 3).block∧∃ed:ad,fv.cell? (Addr.add ⟨bB,0,none⟩ 3)=some (.slice ed.a ed.len ed.cap)∧
     Calls Tryz.prog F.vc #[.pointer (some ⟨r,0,none⟩), .int .i64 2] fv fun Ii fB=>∃n30:Int,Ii= .returned (.int .i64 n30)∧aq qY fv fB∧
     az (fB.alloc (.cells #[.int .i64 n30] ai.int)) fun eJ=>aq qY fB eJ∧∃dk:ad,∃e3:World,Sem.run Tryz.prog (Builtin.append_ #[ai.dD,ai.dD] ai.dD #[.slice ed.a ed.len ed.cap, .slice (some ⟨fB.heap.size,0,none⟩) 1 1]) eJ= .ok (.slice dk.a dk.len dk.cap) e3∧
     (∃u:Value,e3.cell? (Addr.add ⟨bB,0,none⟩ 3)=some u)∧e3.frozen? (Addr.add ⟨bB,0,none⟩ 3)=false∧az (e3.setCell (Addr.add ⟨bB,0,none⟩ 3) (.slice dk.a dk.len dk.cap)) fun eS=>R eS:=by
 have hd:=h.drew
 have aQ:=h.Dw
 have kC:=h.Dx
 obtain ⟨cy,aS,bA,aZ⟩:=b9 hd.v
 refine bW ⟨fun q=>q=r,fun e=>h.sE (by rw[bn] at e;exact e.symm),D,aZ,(PU hd.rd 2 (by decide) hd.Dy).use ?_⟩
 rintro _ fB ⟨au,rfl,dN,al,lz⟩
 have bD:w.drew.heap.size=w.heap.size:=rfl
 have dr:=al.size
 have ve:∀ {B:Nat→Prop},(∀q,B q→lo≤q)→∀k,B k→¬(k=r):=fun gK k ae e=>by have:=gK k ae;omega
 have dj:=bV.an hd.keys al (ve fun q J=>(h.bK q J).1)
 have f_:=bV.an hd.vals al (ve fun q J=>(h.bv q J).1)
 have kW:=dY.an hd.kids al (ve fun q J=>(h.aX q J).1)
 have Ij:=hd.v.an al (fun e=>h.sE e.symm)
 refine ⟨_,rfl,al,V5 (rdNum m.2 2).1 (B:=cf) Ij (o:=3) (by simp) kW (fun U=>by have:=(h.aX bB U).1;omega) aD fun w' aM aC aF aH=> ?_⟩
 have g_:∀q,Grow cf fB w' q→cf q∨(w.heap.size≤q∧q<w'.heap.size):=by
   rintro q (U|U)
   · exact .inl U
   · exact .inr ⟨j5 dr U.1,U.2⟩
 have bg:=aH.size
 have jY:∀q,aP D q→cf q:=fun q J=>(h.kids.2 q J).1
 refine cR w' aM au (fun q=>cf q∨(w.heap.size≤q∧q<w'.heap.size)) ⟨by simpa using aC,dN.an aH ?_ ?_,bV.an dj aH ?_,bV.an f_ aH ?_,dY.bx aF fun k _ ae=>g_ k ae,fun q J=> ?_,fun q J=> ?_,?_,fun q J=>h.aj q (lz q J),h.Dw,h.Dx,h.sE,j5 (L5 m.2 2) h.Dy⟩ ?_ (by omega)
 · rintro (U|U)
   · exact h.sE U
   · have:=(h.aX r (jY r U)).1;omega
 · rintro q J (U|U)
   · exact (h.aj q (lz q J)).2 U
   · have:=(h.aX q (jY q U)).1
     have:=(h.aj q (lz q J)).1;omega
 · rintro q J (U|U)
   · have:=(h.bK q J).1;omega
   · exact (h.bK q J).2.2.2 (jY q U)
 · rintro q J (U|U)
   · have:=(h.bv q J).1;omega
   · exact (h.bv q J).2.2 (jY q U)
 · have:=h.bK q J
   refine ⟨this.1,by omega,this.2.2.1,?_⟩
   rintro (U|U)
   · exact this.2.2.2 U
   · omega
 · have:=h.bv q J
   refine ⟨this.1,by omega,?_⟩
   rintro (U|U)
   · exact this.2.2 U
   · omega
 · rintro q (U|U)
   · have:=h.aX q U;exact ⟨this.1,by omega⟩
   · exact ⟨by omega,U.2⟩
 · refine ((aq.e0 (eR w)).trans (al.mono fun k _ ae=> .inl ae)).trans (aH.mono fun k _ ae=> ?_)
   rcases ae with ae|ae
   · exact .inr (.inl ae)
   · exact .inr (.inr (h.aX k (jY k ae)).1)
end
end Go.Proofs.YtplieiecebljmaaGreat
