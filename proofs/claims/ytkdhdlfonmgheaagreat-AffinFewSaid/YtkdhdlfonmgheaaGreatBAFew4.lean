/- Contracts of the functions that the statement reaches, and the plain laws over them; each theorem stands with its conditions. -/
import Derived.Laws.Small
import Derived.Test.YtkdhdlfonmgheaaGreatBAFew3
namespace Go.Proofs.YtkdhdlfonmgheaaGreat
open Go aR Go.Proofs.Tryz
def qE(fs:O Fr):Prop:=∀ (i j:Nat) (hi:i<fs.length) (a:j<fs.length),(fs[i]).full=true->(fs[j]).full=true->(fs[i]).no=(fs[j]).no->i=j
theorem z8{fs gs:O Fr}{D aw:a6}{c aV hd c' n o j:Nat}(p:qE fs)(q:qE gs)(h1:∀ (i:Nat) (hi:i<fs.length),(fs[i]).full=true->(fs[i]).no=j->∃ (k:Nat) (a:k<gs.length),(gs[k]).full=true/\(gs[k]).no=j/\(gs[k]).l=(fs[i]).l)
 (b:(∀f∈fs,f.full=true->f.no≠j)->(∀f∈gs,f.full=true->f.no≠j)/\aw.now j=D.now j):(bM.mk c' n gs o aw).view j=(bM.mk c aV fs hd D).view j:=by
 by_cases hex:∃ (k:Nat) (a:k<fs.length),(fs[k]).full=true/\(fs[k]).no=j
 .obtain⟨k,a,av,g⟩:=hex
  obtain⟨m,r,d,e,s⟩:=h1 k a av g;rw[k3 p a av g,k3 q r d e,s]
 .have h:∀f∈fs,f.full=true->f.no≠j:=λf hf h1 b=>by
   obtain⟨k,a,rfl⟩:=e0 hf;exact hex ⟨k,a,h1,b⟩
  obtain⟨d,e⟩:=b h;rw[l4 h,l4 d,e]
section
variable {w w':J}{C:bM}{X:Nat->Prop}
theorem wy{i:Nat}(hi:i<C.ak.length){no:Nat}{V:Nat->Prop}(h:fM X w C)(hc:ae V w w')(e3:∀q,q<w.heap.size->V q->cP C q){aw:a6}(s:jD aw C.D)(B:∀j,aw.now j=C.D.now j)(E:∀q,b9 aw q↔b9 C.D q)
 (d:Fr) (Q:d.full=true) (F:d.pins=0) (t:zX X w' {C with ak:=C.ak.set i d,D:=aw} d no) (u:∀ (k:Nat) (v:k<C.ak.length),k≠i->(C.ak[k]).full=true->(C.ak[k]).no≠no):fM X w' {C with ak:=C.ak.set i d,D:=aw}:=by
 have G:=hc.size;have x:∀q,cP {C with ak:=C.ak.set i d,D:=aw} q->cP C q:=λq hf=>by
  rcases hf with h1|h1|h1
  .exact .inl h1
  .exact .inr (.inl h1)
  .exact .inr (.inr ((E q).1 h1))
 refine⟨λf hf=>?_,λf hf y=>?_,λa b H g h1 o c=>?_,λq p=>⟨fm (h.eK q p).1 G,λhf=>(h.eK q p).2 (x q hf)⟩,s.2.2⟩
 .rcases lk hf with hf|rfl
  .exact h.pins f hf
  .exact F
 .obtain⟨k,v,rfl⟩:=e0 hf
  have I:k<C.ak.length:=by simpa using v
  by_cases e:i=k
  .subst e
   simp only[g1];exact⟨no,t⟩
  .simp only[eX e]at y⊢
   obtain⟨m,av,J,K,L,M,N,O⟩:=h.ok _ (cI I) y;exact⟨m,av,by show m<aw.n;rw[s.1];exact J,bn.re K hc (λq p g P=>g.1 (e3 q p P)) λq _ g=>⟨λhf=>g.1 (x q hf),g.2⟩,L,λhd=>by show _=aw.now m;rw[B];exact M hd,λhs=>N (s.2.1 _ hs),O⟩
 .have z:a<C.ak.length:=by simpa using H
  have A:b<C.ak.length:=by simpa using g
  by_cases r:i=a
  .by_cases l:i=b
   .omega
   .subst r
    simp only[g1]at c;simp only[eX l]at o c;exact absurd (by rw[←c];exact t.num) (u b A (λe=>l e.symm) o)
  .by_cases l:i=b
   .subst l
    simp only[g1]at c;simp only[eX r]at h1 c;exact absurd (by rw[c];exact t.num) (u a z (λe=>r e.symm) h1)
   .simp only[eX r]at h1 c
    simp only[eX l]at o c;exact h.un a b z A h1 o c
theorem EZ{i:Nat}(hi:i<C.ak.length){no:Nat}(h:qE C.ak)(j:Fr)(l:j.no=no)(m:∀ (k:Nat) (r:k<C.ak.length),k≠i->(C.ak[k]).full=true->(C.ak[k]).no≠no):qE (C.ak.set i j):=by
 intro a b p q h1 f c;have n:a<C.ak.length:=by simpa using p
 have o:b<C.ak.length:=by simpa using q
 by_cases g:i=a
 .by_cases d:i=b
  .omega
  .subst g
   simp only[g1]at c;simp only[eX d]at f c;exact absurd (by rw[←c];exact l) (m b o (λe=>d e.symm) f)
 .by_cases d:i=b
  .subst d
   simp only[g1]at c;simp only[eX g]at h1 c;exact absurd (by rw[c];exact l) (m a n (λe=>g e.symm) h1)
  .simp only[eX g]at h1 c
   simp only[eX d]at f c;exact h a b n o h1 f c
theorem wz{i:Nat}(hi:i<C.ak.length){no:Nat}(h:qE C.ak){aw:a6}(n:∀j,aw.now j=C.D.now j)(a:Fr)(o:a.full=true)(d:a.no=no)(hold:(C.ak[i]).full=true->(C.ak[i]).no=no)(p:∀ (k:Nat) (m:k<C.ak.length),k≠i->(C.ak[k]).full=true->(C.ak[k]).no≠no){hd:Nat}(j:Nat):
 (bM.mk C.c C.aV (C.ak.set i a) hd aw).view j=if j=no then a.l else C.view j:=by
 have hu:=EZ hi h a d p;have q:i<(C.ak.set i a).length:=by simpa using hi
 by_cases e:j=no
 .subst e
  rw[if_pos rfl,k3 hu q (by simp[o]) (by simpa using d)];simp
 .rw[if_neg e]
  refine z8 (fs:=C.ak) (D:=C.D) (c:=C.c) (aV:=C.aV) (hd:=C.hand) h hu (λk m av b=>?_) λr=>⟨λf hf av b=>?_,n j⟩
  .have g:i≠k:=λs=>by
    subst s;have:=hold av;rw[b]at this;exact e I
   have t:k<(C.ak.set i a).length:=by simpa using m
   exact⟨k,t,by simp only[eX g];exact av,by simp only[eX g];exact b,by simp only[eX g]⟩
  .rcases lk hf with hf|rfl
   .exact r f hf av b
   .rw[d]at b
    exact e I
def E0(X:Nat->Prop)(C:bM)(no:Nat)(w:J)(v:Y)(w':J):Prop:=
 ∃aD:bM,dB X w' aD/\dM C aD w w' 2/\(∀j,aD.view j=C.view j)/\
  ((∃s:ad,v=.tuple #[s,(0:Int)]/\bn (λq=>w.heap.size<=q/\¬cP aD q/\¬X q) w' s (C.view no))\/(v=.tuple #[(),(3:Int)]/\¬C.D.calm 2))
theorem E1(h:dB X w C)(a7:C.D.aQ<=999999999){no:Nat}(aD:no<C.D.n)(aE:2<=no):aL aj 239 #[.pointer (some C.c),no] w (E0 X C no w):=by
 have r:=h.raw;refine okF (ah.sV (some C.c) (no:Int)) az.sV func239 ?_;(delta ah.sV cc ao iV st r1 bJ hO eR;dsimp only);refine(zY r _).use ?_;rintro _ _ ⟨rfl,rfl⟩;refine⟨_,rfl,λF=>?_,λ_=>(tN r _).use ?_⟩
 .have:decide (0<=(no:Int)/\(no:Int)<C.D.n)=true:=dw ⟨I,I⟩
  rw[this]at F;cases F
 rintro _ _ ⟨aF,rfl⟩;rcases aF with ⟨i,hi,rfl,hf,aG⟩|⟨rfl,aH⟩
 .
  obtain⟨av,aI,M,J⟩:=l2 r.f hi (j:=2) (by decide) (v:=true) {C.ak[i] with used:=true} rfl;have ab:gP C.ak (C.ak.set i {C.ak[i] with used:=true}):=(gP.refl C.ak).set hi true;have K:ae (cP C) w (w.setCell ⟨C.aV,i*6+2,none⟩ true):=J.mono λq _ e=>.inr (.inl e);have hinv:=qC (hd:=C.hand) (aw:=C.D) h.inv ab K (λq _ h=>h) h.inv.qz (λ_=>rfl) λq p=>.inl p;have aJ:=qD (hd:=C.hand) (aw:=C.D) h.inv ab λ_=>rfl;obtain⟨w1,ac⟩:∃w1,w1=w.setCell ⟨C.aV,i*6+2,none⟩ true:=⟨_,rfl⟩;rw[←ac]at M J K hinv;have N:eO w1 {C with ak:=C.ak.set i {C.ak[i] with used:=true}}:=by
   refine⟨?_,M,r.dev.af J (λq p e=>r.a1.2.2 (e▸p)),?_,?_,?_,r.a1⟩
   .have:=r.v.af J r.a1.1
    show Var _ _ [_,.slice _ (C.ak.set i _).length (C.ak.set i _).length,_] _;rw[dd];exact this
   .show 8<=(C.ak.set i _).length;rw[dd];exact r.cn
   .show(C.ak.set i _).length<=64;rw[dd];exact r.cp
   .show C.hand<(C.ak.set i _).length;rw[dd];exact r.hd
  obtain⟨a,O⟩:∃a:bM,a={C with ak:=C.ak.set i {C.ak[i] with used:=true}}:=⟨_,rfl⟩;have P:dB X w1 a:=by rw[O];exact⟨N,hinv⟩
  have ad:i<(C.ak.set i {C.ak[i] with used:=true}).length:=by simpa using hi
  have f5:=jc M ad (j:=5) (by decide);obtain⟨m,cn,cp,ag,al,a8,a9,a_⟩:=hinv.ok ((C.ak.set i {C.ak[i] with used:=true})[i]) (cI ad) (by simp[hf]);have aK:((C.ak.set i {C.ak[i] with used:=true})[i]).b=(C.ak[i]).b:=by simp
  have am:((C.ak.set i {C.ak[i] with used:=true})[i]).l=(C.ak[i]).l:=by simp
  rw[aK,am]at ag;rw[am]at al;refine⟨_,rfl,λ_=>⟨_,rfl,by rw[ay];exact av,by rw[ay];exact aI,?_⟩,λh=>(by cases h)⟩;rw[ay,←ac];refine aX ⟨_,rfl,(C.ak[i]).b,by rw[ay,f5];simp[Fr.c],(jA (B:=λq=>w1.heap.size<=q) ag.1 (by rw[al];omega) (λq p=>p)).use ?_⟩;rintro _ ai ⟨s,rfl,hs,an,_⟩;have aM:C.view no=(C.ak[i]).l:=k3 (fs:=C.ak) (D:=C.D) (c:=C.c) (aV:=C.aV) (hd:=C.hand) h.inv.un hi hf aG;have aN:=K.size;refine⟨s,rfl,a,P.ext an,?_,?_,.inl ⟨s,rfl,?_⟩⟩
  .rw[O]
   exact⟨rfl,rfl,by show(C.ak.set i _).length=_;rw[dd],rfl,Nat.le_add_right _ _,λm Q=>gp Q I,K.trans (ae.cN an),λq p=>.inl p⟩
  .intro j;rw[O];exact aJ j
  .rw[aM]
   refine bn.aY hs λq _ p=>⟨I,λhf=>?_,λG=>?_⟩
   .have:=P.raw.lt hf;omega
   .have:=(P.inv.eK q G).1;omega
 .
  refine⟨_,rfl,λh=>(by cases h),λ_=>(z7 h I).use ?_⟩;rintro _ w1 ⟨a,o,y,A,H,aO,N⟩;rcases N with ⟨i,hi,rfl,aP,ba⟩|⟨rfl,aR⟩
  .refine⟨_,_,rfl,λh=>(by simp at h),λ_=>⟨_,rfl,some C.D.d,?_,?_⟩⟩
   .have:=o.raw.cells.1
    rw[y.c,y.d]at this;exact this
   have R:no<a.D.n:=by rw[y.n];exact aD
   have bb:=y.aQ;rw[←y.d];refine(Ec o.raw.dev R I).use ?_;rintro bc ai ⟨ap,L,aS⟩;have aq:=λq=>o.raw.lt (q:=q);have S:ae (cP a) w1 ai:=L.mono λq _ e=>.inr (.inr (.inl e))
   have T:∀f∈a.ak,f.full=true->f.no≠no:=λf hf aT aU=>by
    obtain⟨g,hg,h1,aW⟩:=aO f hf aT;exact aH g hg h1 (by rw[aW,aU])
   have aZ:a.D.calm 1\/¬C.D.calm 2:=by
    rcases Classical.em (C.D.calm 2) with h1|h1
    .exact .inl (y.calm 1 h1)
    .exact .inr h1
   have ar:a.view no=a.D.now no:=l4 (fs:=a.ak) (D:=a.D) (c:=a.c) (aV:=a.aV) (hd:=a.hand) T;have U:∀q,b9 a.D q->q≠a.c/\q≠a.aV:=λq p=>⟨λe=>o.raw.a1.2.1 (e▸p),λe=>o.raw.a1.2.2 (e▸p)⟩;have a0:fM X ai {a with D:=a.D.cm 1}:=qC (C:=a) (hd:=a.hand) (aw:=a.D.cm 1) o.inv (gP.refl _) S (λq _ h=>h) (o.inv.cm 1) (λ_=>rfl) λq p=>.inl p;have u:dM C {a with D:=a.D.cm 1} w ai 2:=by
    have:dM a {a with D:=a.D.cm 1} w1 ai 1:=⟨rfl,rfl,rfl,oP a.D (.inl rfl),Nat.le_succ _,λm Q=>(iE (.inl rfl) o.raw.dev.f4 Q).1,S,λq p=>.inl p⟩;exact y.trans this
   have a2:∀j,({a with D:=a.D.cm 1}:bM).view j=C.view j:=λj=>by rw[←H];exact qD (C:=a) o.inv (gP.refl _) (λ_=>rfl) j
   have W:eO ai {a with D:=a.D.cm 1}:=⟨o.raw.v.af L (λe=>(U _ (.inl rfl)).1 e.symm),bg.af o.raw.f L (λe=>(U _ (.inl rfl)).2 e.symm),ap,o.raw.cn,o.raw.cp,o.raw.hd,o.raw.a1⟩;rcases aS with ⟨F,rfl⟩|⟨F,s,rfl,hs⟩
   .refine⟨⟨none,0,0⟩,3,rfl,λ_=>⟨{a with D:=a.D.cm 1},⟨W,a0⟩,u,a2,.inr ⟨rfl,?_⟩⟩,λh=>(by simp at h)⟩
    rcases aZ with h1|h1
    .have:=(iE (k:=1) (m:=0) (.inl rfl) o.raw.dev.f4 h1).2
     rw[F]at this;cases this
    .exact h1
   .have au:(a.D.now no).length=256:=o.raw.dev.qv R
    obtain⟨s1,s2,z⟩:=wv W.f hi ⟨true,false,true,(no:Int),0,s,a.D.now no⟩;rw[A]at s1 s2 z;have bd:=L.size;have aN:=y.af.size;refine⟨s,_,rfl,λh=>(by simp at h),λ_=>⟨_,rfl,s1,rfl,?_⟩⟩;obtain⟨x,ax⟩:∃x,x=setCells ai ⟨C.aV,i*6,none⟩ 0 (Fr.c ⟨true,false,true,(no:Int),0,s,a.D.now no⟩):=⟨_,rfl⟩;rw[←ax]at s2 z;have hg:setCells ai ⟨C.aV,i*6,none⟩ 0 [true,false,true,no,(0:Int),s]=x:=ax.symm;rw[hg];have aA:ae (cP a) ai x:=z.mono λq _ e=>.inr (.inl (by rw[A];exact e));have aB:bn (λq=>w1.heap.size<=q) x s (a.D.now no):=bn.af hs z λq p e=>by
     have:=aq C.aV (.inr (.inl A.symm));omega
    have a3:fM X x {a with ak:=a.ak.set i ⟨true,false,true,(no:Int),0,s,a.D.now no⟩,D:=a.D.cm 1}:=by
     refine wy (w:=w1) (V:=cP a) (aw:=a.D.cm 1) hi (no:=no) o.inv (S.trans aA) (λq _ h=>h) (o.inv.cm 1) (λ_=>rfl) (λq=>Iff.rfl) ⟨true,false,true,(no:Int),0,s,a.D.now no⟩ rfl rfl ⟨rfl,R,?_,au,λ_=>rfl,λ_=>rfl,aE⟩ λk Y _ h1=>T _ (cI Y) h1;refine bn.aY aB λq _ p=>⟨λhf=>?_,λG=>?_⟩
     .have:cP a q:=hf
      have:=aq q this;omega
     .have:=(o.inv.eK q G).1;omega
    have a4:∀j,({a with ak:=a.ak.set i ⟨true,false,true,(no:Int),0,s,a.D.now no⟩,D:=a.D.cm 1}:bM).view j=C.view j:=λj=>by
     have:=wz (hd:=a.hand) (aw:=a.D.cm 1) hi (no:=no) o.inv.un (λ_=>rfl) ⟨true,false,true,(no:Int),0,s,a.D.now no⟩ rfl rfl (λh1=>by rw[aP]at h1;cases h1) (λk Y _ h1=>T _ (cI Y) h1) j;rw[show({a with ak:=a.ak.set i ⟨true,false,true,(no:Int),0,s,a.D.now no⟩,D:=a.D.cm 1}:bM)=bM.mk a.c a.aV (a.ak.set i ⟨true,false,true,(no:Int),0,s,a.D.now no⟩) a.hand (a.D.cm 1) from rfl,this];by_cases e:j=no
     .rw[if_pos e,e,←H,ar]
     .rw[if_neg e,H]
    have a5:eO x {a with ak:=a.ak.set i ⟨true,false,true,(no:Int),0,s,a.D.now no⟩,D:=a.D.cm 1}:=by
     refine⟨?_,by show bg _ a.aV _ _;rw[A];exact s2,ap.af z (λq p e=>(U q p).2 (by rw[A];exact e)),?_,?_,?_,o.raw.a1⟩
     .have:=W.v.af z (λe=>o.raw.a1.1 (by rw[A];exact e))
      show Var _ _ [_,.slice _ (a.ak.set i _).length (a.ak.set i _).length,_] _;rw[dd];exact this
     .show 8<=(a.ak.set i _).length;rw[dd];exact o.raw.cn
     .show(a.ak.set i _).length<=64;rw[dd];exact o.raw.cp
     .show a.hand<(a.ak.set i _).length;rw[dd];exact o.raw.hd
    obtain⟨E,Z⟩:∃E:bM,E={a with ak:=a.ak.set i ⟨true,false,true,(no:Int),0,s,a.D.now no⟩,D:=a.D.cm 1}:=⟨_,rfl⟩;have aa:dB X x E:=by rw[Z];exact⟨a5,a3⟩
    have a6:dM C E w x 2:=by
     rw[Z];exact⟨u.c,u.d,by show(a.ak.set i _).length=_;rw[dd];exact u.len,u.bw,u.aQ,u.calm,cS u.af aA λq p h=>(u.db q h).resolve_right I,u.db⟩
    refine aX ((jA (B:=λq=>x.heap.size<=q) aB.1 (by rw[au];omega) (λq p=>p)).use ?_);rintro _ be ⟨t,rfl,ht,aC,_⟩;have bf:=z.size;refine⟨t,rfl,E,aa.ext aC,?_,?_,.inl ⟨t,rfl,?_⟩⟩
    .exact(a6.trans (dM.ext E aC)).mono I
    .intro j;rw[Z];exact a4 j
    .rw[←H,ar]
     refine bn.aY ht λq _ p=>⟨I,λhf=>?_,λG=>?_⟩
     .have:=aa.raw.lt hf;omega
     .have:=(aa.inv.eK q G).1;omega
  .refine⟨_,_,rfl,λ_=>⟨a,o,y.mono I,H,.inr ⟨rfl,λhc=>aR (gp hc I)⟩⟩,λh=>(by simp at h)⟩
end
section
variable {w w':J}{C:bM}{X:Nat->Prop}
def z_(X:Nat->Prop)(C:bM)(no:Nat)(l:c2)(w:J)(v:Y)(w':J):Prop:=
 ∃aD:bM,dB X w' aD/\dM C aD w w' 1/\
  ((v=.int .i64 0/\∀j,aD.view j=if j=no then l else C.view j)\/(v=.int .i64 3/\¬C.D.calm 1/\∀j,aD.view j=C.view j))
theorem wA{i:Nat}{a:Fr}(h:eO w C)(hc:ae (λq=>q=C.aV) w w')(b:bg w' C.aV (b8 Fr.c (C.ak.set i a)).toArray 288):eO w' {C with ak:=C.ak.set i a}:=by
 refine⟨?_,b,h.dev.af hc (λq d e=>h.a1.2.2 (e▸d)),?_,?_,?_,h.a1⟩
 .have:=h.v.af hc h.a1.1
  show Var _ _ [_,.slice _ (C.ak.set i _).length (C.ak.set i _).length,_] _;rw[dd];exact this
 .show 8<=(C.ak.set i _).length;rw[dd];exact h.cn
 .show(C.ak.set i _).length<=64;rw[dd];exact h.cp
 .show C.hand<(C.ak.set i _).length;rw[dd];exact h.hd
theorem set_set{fs:O Fr}{i:Nat}(f g:Fr):(fs.set i f).set i g=fs.set i g:=List.set_set ..
theorem Aa(h:dB X w C)(bt:C.D.aQ<=999999999){no:Nat}(aF:no<C.D.n)(aG:2<=no)(aH:¬C.D.bB no=true){b:ad}{l:c2}(al:Src 1 w b (aA l))(am:l.length=256)(ap:∀q,aC b q->q<w.heap.size/\¬cP C q):
 aL aj 162 #[.pointer (some C.c),no,b] w (z_ X C no l w):=by
 have Q:=h.raw;have aI:=len8 al;refine okF (ah.sJ (some C.c) (no:Int) b) az.sJ func162 ?_;(delta ah.sJ cc ao iV hO st bJ;dsimp only);refine(zY Q _).use ?_;rintro _ _ ⟨rfl,rfl⟩;have aJ:decide (0<=(no:Int)/\(no:Int)<C.D.n)=true:=dw ⟨I,I⟩;refine⟨_,rfl,λh1=>?_,λ_=>(tN Q _).use ?_⟩
 .rw[aJ,aI,am]at h1
  simp at h1
 rintro _ _ ⟨aK,rfl⟩
 have fin:∀ (w1:J) (a:bM) (i:Nat) (hi:i<a.ak.length) (f1:Fr),dB X w1 a->dM C a w w1 1->a.aV=C.aV->(∀j,a.view j=C.view j)->f1.pins=0->∀ai:J,bg ai a.aV (b8 Fr.c (a.ak.set i f1)).toArray 288->ae (λq=>q=a.aV) w1 ai->f1.full=true->f1.no=(no:Int)->
  ((a.ak[i]).full=true->(a.ak[i]).no=(no:Int))->(∀ (k:Nat) (E:k<a.ak.length),k≠i->(a.ak[k]).full=true->(a.ak[k]).no≠(no:Int))->
  Calls aj 135 #[b] ai λaM R=>∃aq:ad,aM=.returned aq/\∃H:ag,(some ⟨C.aV,i*6,none⟩:ar ag)=some H/\(∃u:Y,R.cell? (H.add 5)=some u)/\R.frozen? (H.add 5)=false/\
   an (R.setCell (H.add 5) aq) λS=>∃K:ag,(some ⟨C.aV,i*6,none⟩:ar ag)=some K/\(∃u:Y,S.cell? (K.add 1)=some u)/\S.frozen? (K.add 1)=false/\
   an (S.setCell (K.add 1) true) λT=>∃L:ag,(some ⟨C.aV,i*6,none⟩:ar ag)=some L/\(∃u:Y,T.cell? (L.add 2)=some u)/\T.frozen? (L.add 2)=false/\
   an (T.setCell (L.add 2) true) λaN=>z_ X C no l w (0:Int) aN:=by
  intro w1 a i hi f1 y o x aO U ai aP M N au hold ax;have bu:=o.af.size;have bv:=M.size;have bx:a.aV<w1.heap.size:=y.raw.lt (.inr (.inl rfl));have aR:Src 1 ai b (aA l):=by
   refine(al.af o.af λq m hf=>(ap q m).2 hf).af M λq m e=>(ap q m).2 (.inr (.inl (by rw[←x];exact e)))
  refine(jA (B:=λq=>ai.heap.size<=q) aR I (λq m=>m)).use ?_;rintro _ aS ⟨s,rfl,hs,aB,_⟩;have aT:=bg.ext aP aB;have W:i<(a.ak.set i f1).length:=by rw[dd];exact hi
  have Z:(a.ak.set i f1)[i]=f1:=by simp
  obtain⟨a1,a2,a3,a4⟩:=l2 aT W (j:=5) (by decide) (v:=s) {f1 with b:=s} (by rw[Z];rfl);rw[set_set]at a3;have aU:i<(a.ak.set i {f1 with b:=s}).length:=by rw[dd];exact hi
  have aW:(a.ak.set i {f1 with b:=s})[i]={f1 with b:=s}:=by simp
  obtain⟨cf,bH,z,A⟩:=l2 a3 aU (j:=1) (by decide) (v:=true) {f1 with b:=s,fc:=true} (by rw[aW];rfl);rw[set_set]at z;have aZ:i<(a.ak.set i {f1 with b:=s,fc:=true}).length:=by rw[dd];exact hi
  have a0:(a.ak.set i {f1 with b:=s,fc:=true})[i]={f1 with b:=s,fc:=true}:=by simp
  obtain⟨d1,d2,d3,d4⟩:=l2 z aZ (j:=2) (by decide) (v:=true) {f1 with b:=s,fc:=true,used:=true,l:=l} (by rw[a0];rfl);rw[set_set]at d3;rw[x]at a1 a2 a3 a4 cf bH z A d1 d2 d3 d4 M;refine⟨s,rfl,_,rfl,by rw[ay];exact a1,by rw[ay];exact a2,?_⟩;rw[ay];refine aX ⟨_,rfl,by rw[ay];exact cf,by rw[ay];exact bH,?_⟩;rw[ay];refine aX ⟨_,rfl,by rw[ay];exact d1,by rw[ay];exact d2,?_⟩;rw[ay];have O:=(M.trans (ae.cN aB)).trans (a4.trans (A.trans d4));obtain⟨t,r⟩:∃t:Fr,t={f1 with b:=s,fc:=true,used:=true,l:=l}:=⟨_,rfl⟩;obtain⟨F,aa⟩:∃F,F=(((aS.setCell ⟨C.aV,i*6+5,none⟩ s).setCell ⟨C.aV,i*6+1,none⟩ true).setCell ⟨C.aV,i*6+2,none⟩ true):=⟨_,rfl⟩;rw[←aa,←r]at d3;rw[←aa]at O⊢;have a5:bn (λq=>ai.heap.size<=q) F s l:=by
   have h1:=bn.af hs a4 λq m e=>by rw[←x]at e;omega
   have G:=bn.af h1 A λq m e=>by rw[←x]at e;omega
   have a6:=bn.af G d4 λq m e=>by rw[←x]at e;omega
   rw[aa];exact a6
  have a7:eO F {a with ak:=a.ak.set i t}:=wA y.raw (by rw[x];exact O) (by rw[x];exact d3);have a8:fM X F {a with ak:=a.ak.set i t}:=by
   refine wy (w:=w1) (V:=λq=>q=C.aV) (aw:=a.D) hi (no:=no) y.inv O (λq _ e=>.inr (.inl (by rw[x];exact e))) y.inv.qz (λ_=>rfl) (λq=>Iff.rfl) t (by rw[r];exact N) (by rw[r];exact U) ⟨by rw[r];exact au,by show no<a.D.n;rw[o.n];exact aF,?_,by rw[r];exact am,λhd=>(by rw[r]at hd;cases hd),λhs=>absurd (by rw[←o.bB];exact hs) aH,aG⟩ ax;rw[r];refine bn.aY a5 λq _ m=>⟨λhf=>?_,λa9=>?_⟩
   .have:cP a q:=hf
    have:=y.raw.lt this;omega
   .have:=(y.inv.eK q a9).1;omega
  refine aX ⟨{a with ak:=a.ak.set i t},⟨a7,a8⟩,⟨o.c,o.d,by show(a.ak.set i _).length=_;rw[dd];exact o.len,o.bw,o.aQ,o.calm,cS o.af O λq m e=>.inr (.inl e),o.db⟩,.inl ⟨rfl,λj=>?_⟩⟩;have:=wz (C:=a) (hd:=a.hand) (aw:=a.D) hi (no:=no) y.inv.un (λ_=>rfl) t (by rw[r];exact N) (by rw[r];exact au) hold ax j;rw[show({a with ak:=a.ak.set i t}:bM)=bM.mk a.c a.aV (a.ak.set i t) a.hand a.D from rfl,this,aO];rw[r]
 rcases aK with ⟨i,hi,rfl,hf,ab⟩|⟨rfl,a_⟩
 .refine⟨_,rfl,cH (λp w'=>p=some ⟨C.aV,i*6,none⟩/\w=w') (λq m=>⟨λh=>(by cases h),λ_=>m _ _ ⟨rfl,rfl⟩⟩) ?_⟩
  rintro _ _ ⟨rfl,rfl⟩;have e:C.ak.set i C.ak[i]=C.ak:=List.set_getElem_self _;exact fin w C i hi C.ak[i] h ((dM.refl C w).mono (cX _)) rfl (λ_=>rfl) (h.inv.pins _ (cI hi)) w (by rw[e];exact Q.f) (.refl _ _) hf ab (λ_=>ab) λk E ba h1 G=>ba (h.inv.un k i E hi h1 hf (by rw[G,ab]))
 .refine⟨_,rfl,cH (λp ai=>∃ (w1:J) (a:bM) (i:Nat) (hi:i<a.ak.length) (f1:Fr),p=some ⟨C.aV,i*6,none⟩/\dB X w1 a/\dM C a w w1 1/\a.aV=C.aV/\(∀j,a.view j=C.view j)/\f1.pins=0/\bg ai a.aV (b8 Fr.c (a.ak.set i f1)).toArray 288/\ae (λq=>q=a.aV) w1 ai/\f1.full=true/\f1.no=(no:Int)/\
   ((a.ak[i]).full=true->(a.ak[i]).no=(no:Int))/\(∀ (k:Nat) (E:k<a.ak.length),k≠i->(a.ak[k]).full=true->(a.ak[k]).no≠(no:Int))) (λq m=>⟨λ_=>(z7 h I).use ?_,λh=>(by cases h)⟩) ?_⟩
  .rintro _ w1 ⟨a,ac,aD,P,aE,bb,bc⟩
   have bd:∀f∈a.ak,f.full=true->f.no≠(no:Int):=λf hf N be=>by
    obtain⟨g,hg,h1,G⟩:=bb f hf N;exact a_ g hg h1 (by rw[G,be])
   rcases bc with ⟨i,hi,rfl,bf,U⟩|⟨rfl,bh⟩
   .obtain⟨a1,a2,a3,a4⟩:=l2 ac.raw.f hi (j:=0) (by decide) (v:=true) {a.ak[i] with full:=true} rfl
    have W:i<(a.ak.set i {a.ak[i] with full:=true}).length:=by rw[dd];exact hi
    have Z:(a.ak.set i {a.ak[i] with full:=true})[i]={a.ak[i] with full:=true}:=by simp
    obtain⟨cf,bH,z,A⟩:=l2 a3 W (j:=3) (by decide) (v:=no) {a.ak[i] with full:=true,no:=(no:Int)} (by rw[Z];rfl);rw[set_set]at z;rw[P]at a1 a2 cf bH z a4 A;refine⟨_,_,rfl,λh=>(by simp at h),λ_=>⟨_,rfl,a1,a2,aX ⟨_,rfl,by rw[ay];exact cf,by rw[ay];exact bH,aX ?_⟩⟩⟩;rw[ay];exact m _ _ ⟨w1,a,i,hi,{a.ak[i] with full:=true,no:=(no:Int)},rfl,ac,aD,P,aE,U,by rw[P];exact z,by rw[P];exact a4.trans A,rfl,rfl,λh1=>(by rw[bf]at h1;cases h1),λk E _ h1=>bd _ (cI E) h1⟩
   .exact⟨_,_,rfl,λ_=>⟨a,ac,aD,.inr ⟨rfl,bh,aE⟩⟩,λh=>(by simp at h)⟩
  .rintro p ai ⟨w1,a,i,hi,f1,rfl,av,bi,bj,bk,bl,bm,bo,bp,bq,br,bs⟩
   exact fin w1 a i hi f1 av bi bj bk bl ai bm bo bp bq br bs
theorem Ab(h:dB X w C)(no:Nat):aL aj 146 #[.pointer (some C.c),no] w (λv w'=>(∃b:al,v=b)/\∃aD:bM,dB X w' aD/\dM C aD w w' 0/\(∀j,j≠no->aD.view j=C.view j)/\aD.D=C.D/\∀f∈aD.ak,f.full=true->f∈C.ak/\f.no≠(no:Int)):=by
 have g:=h.raw;refine okF (ah.sH (some C.c) (no:Int)) az.sH func146 ?_;(delta ah.sH iV ao aF;dsimp only);refine(tN g _).use ?_;rintro _ _ ⟨y,rfl⟩;rcases y with ⟨i,hi,rfl,hf,s⟩|⟨rfl,z⟩
 .have f4:=jc g.f hi (j:=4) (by decide)
  have A:=h.inv.pins _ (cI hi);refine⟨_,rfl,cH (λb w'=>b=false/\w=w') (λq l=>⟨λh=>(by cases h),λ_=>⟨_,rfl,(C.ak[i]).pins,by rw[ay];exact f4,l _ _ ⟨by rw[A];rfl,rfl⟩⟩⟩) ?_⟩;rintro _ _ ⟨rfl,rfl⟩;obtain⟨s1,s2,m⟩:=wv g.f hi dp;refine⟨λh=>(by cases h),λ_=>⟨_,rfl,s1,rfl,aX ⟨⟨true,rfl⟩,{C with ak:=C.ak.set i dp},⟨wA g m s2,?_⟩,?_,λj B=>?_,rfl,λf E av=>?_⟩⟩⟩
  .exact wx (V:=λq=>q=C.aV) (aw:=C.D) hi h.inv m (λq _ e=>.inr (.inl e)) h.inv.qz (λ_ _=>rfl) (λq h=>.inl h) dp rfl rfl
  .exact⟨rfl,rfl,by show(C.ak.set i _).length=_;rw[dd],rfl,bl _,λ_ h=>h,m.mono λq _ e=>.inr (.inl e),λq h=>.inl h⟩
  .refine z8 (fs:=C.ak) (D:=C.D) (c:=C.c) (aV:=C.aV) (hd:=C.hand) h.inv.un (λa b F G h1 n o=>?_) (λk p av d=>?_) λH=>⟨λf hf av d=>?_,rfl⟩
   .have J:a<C.ak.length:=by simpa using F
    have K:b<C.ak.length:=by simpa using G
    by_cases t:i=a
    .subst t
     simp[dp]at h1
    by_cases u:i=b
    .subst u
     simp[dp]at n
    simp only[eX t]at h1 o;simp only[eX u]at n o;exact h.inv.un a b J K h1 n o
   .have r:i≠k:=λe=>by
     subst e;rw[s]at d;exact B I
    exact⟨k,by rw[dd];exact p,by simp only[eX r];exact av,by simp only[eX r];exact d,by simp only[eX r]⟩
   .rcases lk hf with hf|rfl
    .exact H f hf av d
    .cases av
  .obtain⟨k,p,rfl⟩:=e0 E
   have x:k<C.ak.length:=by simpa using p
   by_cases e:i=k
   .subst e
    simp[dp]at av
   .simp only[eX e]at av⊢
    exact⟨cI x,λd=>e (h.inv.un i k hi x hf av (s.trans d.symm))⟩
 .refine⟨_,rfl,cH (λb w'=>b=true/\w=w') (λq l=>⟨λ_=>l _ _ ⟨rfl,rfl⟩,λh=>(by cases h)⟩) ?_⟩
  rintro _ _ ⟨rfl,rfl⟩;exact⟨λ_=>⟨⟨false,rfl⟩,C,h,dM.refl C w,λ_ _=>rfl,rfl,λf hf av=>⟨hf,z f hf av⟩⟩,λh=>(by cases h)⟩
end
theorem E2(n:Nat):gw aj 288 n=(b8 Fr.c (List.replicate n dp)).toArray:=by
 have a:((Tryz.prog.info? 288).bind (·.zero)).map (·.cells)=some dp.c.toArray:=by kernel_rfl
 have hc:Tryz.prog.cellsOf 288=6:=by kernel_rfl
 unfold gw;rw[hc]
 cases hi:(Tryz.prog.info? 288).bind (·.zero) with
 |none=>rw[hi]at a;cases a
 |some z=>
  rw[hi]at a;simp only[kC,Option.some.injEq]at a;simp only[Option.getD_some,a];apply Array.ext
  .simp[hW (c:=Fr.c) (sz:=6) (List.replicate n dp) (λx _=>rfl)]
  .intro i h1 d
   have e:n*6≠0:=by
    intro h;simp[h]at h1
   have k:i<n*6:=by simpa using h1
   simp only[e,if_false,Array.getElem_map,Array.getElem_range,List.getElem_toArray];have b:dp.c.toArray.size=6:=rfl;have aI:i%6<6:=hG _ I;have f:i/6<(List.replicate n dp).length:=by rw[ln];omega
   have hg:=wa (c:=Fr.c) (sz:=6) (l:=List.replicate n dp) (λx _=>rfl) (i:=i/6) (j:=i%6) f aI;rw[show i/6*6+i%6=i from I]at hg;have g:i<(b8 Fr.c (List.replicate n dp)).length:=by simpa using d
   rw[dI g]at hg;have he:((List.replicate n dp)[i/6]).c=dp.c:=by simp
   rw[he,dI (show i%6<dp.c.length from aI)]at hg;have hg:=Option.some.inj hg;rw[hg,b,getElem!_pos dp.c.toArray (i%6) (by rw[b];exact aI)];simp
def kr(c aV k:Nat)(D:a6):bM:=⟨c,aV,List.replicate k dp,0,D⟩
theorem n_{w:J}{D:a6}(h:c3 w D){k:Nat}(h1:8<=k)(m:k<=64)(n:∀j,D.bB j=true->D.dE j=D.dU j):aL aj 139 #[.pointer (some D.d),k] w (λv w'=>∃c aV:Nat,v=.tuple #[.pointer (some c),(0:Int)]/\dB (λ_=>False) w' (kr c aV k D)/\Ext w w'/\w.heap.size<=c/\w.heap.size<=aV):=by
 refine okF (ah.n_ (some D.d) (k:Int)) az.n_ func139 ?_;delta ah.n_ ao jt aa;refine⟨λh=>?_,λ_=>⟨⟨I,I,I,I⟩,?_⟩⟩
 .simp only[Option.isNone_some,k_,h5,cA]at h;omega
 rw[E2,dO];have g:=bg.new w (b8 Fr.c (List.replicate k dp)).toArray 288;have a:=dD w (.cells (b8 Fr.c (List.replicate k dp)).toArray 288);have o:=ql w (.cells (b8 Fr.c (List.replicate k dp)).toArray 288);obtain⟨w1,p⟩:∃w1,w1=w.alloc (.cells (b8 Fr.c (List.replicate k dp)).toArray 288):=⟨_,rfl⟩;rw[←p]at g a o⊢;refine aX (bd (vs:=[.pointer (some D.d),.slice (some w.heap.size) k k,(0:Int)]) rfl λai r b t=>⟨w1.heap.size,w.heap.size,rfl,⟨⟨?_,bg.ext g b,h.ext (a.trans b),?_,?_,?_,?_,?_,?_⟩,⟨λf hf=>?_,λf hf l=>?_,λi j hi u h1=>?_,λq s=>s.elim,n⟩⟩,a.trans b,I,bl _⟩)
 .show Var _ _ [_,.slice _ (List.replicate k dp).length (List.replicate k dp).length,_] _
  rw[ln];exact r
 .show 8<=(List.replicate k dp).length;simpa using h1
 .show(List.replicate k dp).length<=64;simpa using m
 .show 0<(List.replicate k dp).length;simp;omega
 .show w1.heap.size≠w.heap.size;omega
 .intro e
  have:=h.lt e;have:w1.heap.size<w.heap.size:=this;omega
 .intro e
  have:=h.lt e;have:w.heap.size<w.heap.size:=this;omega
 .rw[um hf];rfl
 .rw[um hf]at l;cases l
 .simp[kr,dp]at h1
structure aP where
 bf:Nat
 gen:Nat
 root:Nat
 aH:Nat
 C:bM
 sb:Nat
 n:Nat
 f:Nat->al
 g:Nat->al
 s1:ad
 s2:ad
 E:Nat->Prop
 G:Nat->Prop
 P:Nat->ar aB
def aP.ct(T:aP)(E G:Nat->Prop):aP:={T with E:=E,G:=G}
def aP.bK(T:aP)(C:bM)(P:Nat->ar aB):aP:={T with C:=C,P:=P}
def aP.X(T:aP)(q:Nat):Prop:=q=T.bf\/fb T.sb T.s1 T.s2 q\/T.E q\/T.G q
def aP.M(T:aP)(q:Nat):Prop:=cP T.C q\/T.X q
def aP.N(T:aP)(q:Nat):Prop:=cP T.C q\/q=T.bf\/fb T.sb T.s1 T.s2 q\/T.G q
theorem aP.hC{T:aP}{q:Nat}(h:T.N q):T.M q:=h.imp id (Or.imp id (Or.imp id .inr))
def gr(gen:Nat)(leaf:al)(no:Nat)(l:c2)(n:aB):Prop:=
 ∃p:ij,fa (no:Int) l=.ok p/\p.gen<=gen/\p.kind=(if leaf then 1 else 2)/\ko leaf p.body n/\2<=no
def j6(T:aP):O Y:=[.pointer (some T.C.c),.pointer (some T.sb),.int .u64 (T.gen:Nat),T.root,T.aH]
structure b4(w:J)(T:aP):Prop where
 t:Var w T.bf (j6 T) 239
 s:eJ w T.sb T.n T.f T.g T.s1 T.s2
 ca:dB T.X w T.C
 iF:¬fb T.sb T.s1 T.s2 T.bf
 dF:∀q,T.E q->q≠T.bf/\¬fb T.sb T.s1 T.s2 q/\¬T.G q
 iq:∀q,T.G q->q≠T.bf/\¬fb T.sb T.s1 T.s2 q
 n:T.C.D.n=T.n
 num:T.root<T.n/\T.aH<=12/\T.gen<18446744073709551616
 eE:∀no bO,T.P no=some bO->no<T.n/\gr T.gen bO.leaf no (T.C.view no) bO
 bB:∀j,T.C.D.bB j=true->T.g j=true\/T.C.D.ro
 low:T.g 0=true/\T.g 1=true
structure b_(T ax:aP)(w w':J)(k:Nat):Prop where
 bf:ax.bf=T.bf
 sb:ax.sb=T.sb
 n:ax.n=T.n
 g:ax.g=T.g
 s1:ax.s1=T.s1
 s2:ax.s2=T.s2
 c:ax.C.c=T.C.c
 d:ax.C.D.d=T.C.D.d
 bw:ax.C.D.key=T.C.D.key
 gen:ax.gen=T.gen
 aQ:ax.C.D.aQ<=T.C.D.aQ+k
 calm:∀m,T.C.D.calm (m+k)->ax.C.D.calm m
 af:ae T.N w w'
 db:∀q,ax.M q->T.M q\/w.heap.size<=q
 fn:∀q,ax.N q->T.N q\/w.heap.size<=q
theorem b_.bB{T ax:aP}{w w':J}{k:Nat}(h:b_ T ax w w' k):ax.C.D.bB=T.C.D.bB/\ax.C.D.dU=T.C.D.dU:=by
 have:=congrArg Prod.fst h.bw;exact⟨congrArg (λp=>p.2.1) this,congrArg (λp=>p.2.2.1) this⟩
theorem b_.refl(T:aP)(w:J):b_ T T w w 0:=⟨rfl,rfl,rfl,rfl,rfl,rfl,rfl,rfl,rfl,rfl,bl _,λ_ h=>h,.refl _ _,λ_ h=>.inl h,λ_ h=>.inl h⟩
theorem b_.ext{w w':J}(T:aP)(h:Ext w w'):b_ T T w w' 0:=⟨rfl,rfl,rfl,rfl,rfl,rfl,rfl,rfl,rfl,rfl,bl _,λ_ h=>h,ae.cN h,λ_ h=>.inl h,λ_ h=>.inl h⟩
theorem b_.trans{T ax e:aP}{w w' f:J}{k l:Nat}(h1:b_ T ax w w' k)(a:b_ ax e w' f l):b_ T e w f (k+l):=by
 have hs:=h1.af.size;refine⟨a.bf.trans h1.bf,a.sb.trans h1.sb,a.n.trans h1.n,a.g.trans h1.g,a.s1.trans h1.s1,a.s2.trans h1.s2,a.c.trans h1.c,a.d.trans h1.d,a.bw.trans h1.bw,a.gen.trans h1.gen,by have:=h1.aQ;have:=a.aQ;omega,
  λm i=>a.calm m (h1.calm (m+l) (by rw[show m+l+k=m+(k+l) from I];exact i)),cS h1.af a.af λq b h=>(h1.fn q h).resolve_right I,λq b=>?_,λq b=>?_⟩
 .rcases a.db q b with h|h
  .exact h1.db q h
  .exact .inr I
 .rcases a.fn q b with h|h
  .exact h1.fn q h
  .exact .inr I
theorem b_.mono{T ax:aP}{w w':J}{k l:Nat}(h:b_ T ax w w' k)(b:k<=l):b_ T ax w w' l:=
 ⟨h.bf,h.sb,h.n,h.g,h.s1,h.s2,h.c,h.d,h.bw,h.gen,by have:=h.aQ;omega,λm a=>h.calm m (gp a I),h.af,h.db,h.fn⟩
theorem b_.bO{T ax:aP}{w w':J}{k lo:Nat}(h:b_ T ax w w' k){n:aB}{K V D:ad}(e:bt (λq=>lo<=q/\¬T.M q) w n K V D):bt (λq=>lo<=q/\¬ax.M q) w' n K V D:=by
 have h1:bt (λq=>q<w.heap.size/\lo<=q/\¬T.M q) w n K V D:=e.aY λq b a=>⟨b,a⟩;refine(bt.af h1 h.af λq b c=>b.2.2 (aP.hC c)).aY λq _ a=>⟨a.2.1,λc=>?_⟩;rcases h.db q c with d|d
 .exact a.2.2 d
 .have:=a.1;omega
section
variable {w w':J}{T ax:aP}
theorem b_.step{W E G:Nat->Prop}{w1:J}{k:Nat}(h:b_ T ax w w1 k)(hc:ae W w1 w')(cD:∀q,W q->q<w.heap.size->T.N q)(e:∀q,E q->ax.E q\/ax.G q\/w.heap.size<=q)(b:∀q,G q->ax.G q\/w.heap.size<=q):b_ T (ax.ct E G) w w' k:=by
 refine⟨h.bf,h.sb,h.n,h.g,h.s1,h.s2,h.c,h.d,h.bw,h.gen,h.aQ,h.calm,cS h.af hc λq a f=>cD q f a,λq a=>?_,λq a=>?_⟩
 .rcases a with a|a|a|a|a
  .exact h.db q (.inl a)
  .exact h.db q (.inr (.inl a))
  .exact h.db q (.inr (.inr (.inl a)))
  .rcases e q a with h1|h1|h1
   .exact h.db q (.inr (.inr (.inr (.inl h1))))
   .exact h.db q (.inr (.inr (.inr (.inr h1))))
   .exact .inr h1
  .rcases b q a with h1|h1
   .exact h.db q (.inr (.inr (.inr (.inr h1))))
   .exact .inr h1
 .rcases a with a|a|a|a
  .exact h.fn q (.inl a)
  .exact h.fn q (.inr (.inl a))
  .exact h.fn q (.inr (.inr (.inl a)))
  .rcases b q a with h1|h1
   .exact h.fn q (.inr (.inr (.inr h1)))
   .exact .inr h1
theorem b_.local{bW jd a wB:Nat->Prop}{w1:J}{k:Nat}(h:b_ (T.ct bW a) ax w1 w' k)(hx:Ext w w1)(b:∀q,bW q->T.E q\/w.heap.size<=q)(c:∀q,a q->T.G q\/w.heap.size<=q)
 (d:∀q,jd q->ax.E q\/ax.G q) (e:∀q,wB q->ax.G q):b_ T (ax.ct jd wB) w w' k:=by
 have h0:b_ T (T.ct bW a) w w1 0:=(b_.ext T (w:=w) (w':=w) (ae.refl _ _)).step (W:=λ_=>False) hx (λ_ h=>h.elim) (λq h=>(b q h).imp id .inr) c;have h1:=h0.trans h;rw[cU]at h1;exact h1.step (W:=λ_=>False) (ae.refl _ _) (λ_ h=>h.elim) (λq h=>(d q h).imp id .inl) λq h=>.inl (e q h)
theorem b4.lt(h:b4 w T){q:Nat}(a:T.M q):q<w.heap.size:=by
 rcases a with a|a
 .exact h.ca.raw.lt a
 .exact(h.ca.inv.eK q a).1
theorem b4.j4(h:b4 w T){q:Nat}(b:T.E q):¬T.N q:=by
 rintro(a|a|a|a)
 .exact(h.ca.inv.eK q (.inr (.inr (.inl b)))).2 a
 .exact(h.dF q b).1 a
 .exact(h.dF q b).2.1 a
 .exact(h.dF q b).2.2 a
theorem b4.ext(h:b4 w T)(hx:Ext w w'):b4 w' T:=⟨h.t.ext hx,h.s.ext hx,h.ca.ext hx,h.iF,h.dF,h.iq,h.n,h.num,h.eE,h.bB,h.low⟩
theorem dB.grow{X d W:Nat->Prop}{C:bM}(h:dB X w C)(hc:ae W w w')(cD:∀q,W q->q<w.heap.size->X q)(e:∀q,d q->X q\/(w.heap.size<=q/\q<w'.heap.size)):dB d w' C:=by
 have g:ae X w w':=cS (W:=X) (ae.refl _ _) hc λq a i=>cD q i a;refine⟨h.raw.af g λq a hx=>(h.inv.eK q hx).2 a,h.inv.pins,λf hf j=>?_,h.inv.un,λq a=>?_,h.inv.kq⟩
 .obtain⟨no,av,k,m,n,o,p,r⟩:=h.inv.ok f hf j
  have s:bn (λq=>q<w.heap.size/\¬cP C q/\¬X q) w f.b f.l:=bn.aY m λq a c=>⟨a,c⟩;refine⟨no,av,k,bn.aY (bn.af s g λq a hx=>a.2.2 hx) λq _ c=>⟨c.2.1,λt=>?_⟩,n,o,p,r⟩;rcases e q t with h1|h1
  .exact c.2.2 h1
  .have:=c.1;omega
 .rcases e q a with h1|h1
  .exact⟨fm (h.inv.eK q h1).1 hc.size,(h.inv.eK q h1).2⟩
  .exact⟨h1.2,λhf=>by have:=h.raw.lt hf;omega⟩
theorem b4.grow{E G W:Nat->Prop}(h:b4 w T)(hc:ae W w w')(cD:∀q,W q->q<w.heap.size->T.E q\/T.G q)(c:∀q,E q->T.E q\/T.G q\/(w.heap.size<=q/\q<w'.heap.size))(f:∀q,G q->T.E q\/T.G q\/(w.heap.size<=q/\q<w'.heap.size))(j:∀q,E q->¬G q):b4 w' (T.ct E G):=by
 have b:∀q,T.E q\/T.G q->q≠T.bf/\¬fb T.sb T.s1 T.s2 q:=λq a=>by
  rcases a with a|a
  .exact⟨(h.dF q a).1,(h.dF q a).2.1⟩
  .exact h.iq q a
 have g:ae (λq=>T.E q\/T.G q) w w':=cS (W:=λq=>T.E q\/T.G q) (ae.refl _ _) hc λq a k=>cD q k a;have d:∀q,T.E q\/T.G q\/(w.heap.size<=q/\q<w'.heap.size)->q≠T.bf/\¬fb T.sb T.s1 T.s2 q:=λq a=>by
  rcases a with a|a|a
  .exact b q (.inl a)
  .exact b q (.inr a)
  .exact⟨λe=>by have l:=h.lt (q:=q) (.inr (.inl e));omega,λe=>by have l:=h.lt (q:=q) (.inr (.inr (.inl e)));omega⟩
 have i:∀q,T.E q\/T.G q\/(w.heap.size<=q/\q<w'.heap.size)->T.X q\/(w.heap.size<=q/\q<w'.heap.size):=λq a=>by
  rcases a with a|a|a
  .exact .inl (.inr (.inr (.inl a)))
  .exact .inl (.inr (.inr (.inr a)))
  .exact .inr a
 refine⟨h.t.af g λe=>(b _ e).1 rfl,h.s.af g λq a e=>(b q e).2 a,h.ca.grow hc (λq a m=>.inr (.inr (cD q a m))) λq a=>?_,h.iF,λq a=>⟨(d q (c q a)).1,(d q (c q a)).2,j q a⟩,λq a=>d q (f q a),h.n,h.num,h.eE,h.bB,h.low⟩;rcases a with a|a|a|a
 .exact .inl (.inl a)
 .exact .inl (.inr (.inl a))
 .exact i q (c q a)
 .exact i q (f q a)
theorem b4.cells(h:b4 w T):w.cell? T.bf=some (.pointer (some T.C.c))/\w.cell? (Addr.add T.bf 1)=some (.pointer (some T.sb))/\w.cell? (Addr.add T.bf 2)=some (.int .u64 (T.gen:Nat))/\
 w.cell? (Addr.add T.bf 3)=some (.int .i64 (T.root:Nat))/\w.cell? (Addr.add T.bf 4)=some (.int .i64 (T.aH:Nat)):=by
 rw[ay,ay,ay,ay];exact⟨h.t.cell,h.t.cell,h.t.cell,h.t.cell,h.t.cell⟩
theorem b4.E3(h:b4 w T){no:Nat}(a:no<T.n):(T.C.view no).length=256:=by
 unfold bM.view
 cases hf:T.C.ak.find? λf=>f.full&&f.no==(no:Int) with
 |some f=>
  have h1:=h7 hf;have b:=iN hf;obtain⟨m,c⟩:=h.ca.inv.ok f h1 (by
   have:(f.full&&f.no==(no:Int))=true:=b;exact(Bool.and_eq_true_iff.1 this).1)
  exact c.len
 |none=>exact h.ca.raw.dev.qv (by rw[h.n];exact a)
theorem b4.oV{aD:bM}{k:Nat}{P:Nat->ar aB}(h:b4 w T)(e:dB T.X w' aD)(a:dM T.C aD w w' k)(f:∀no bO,P no=some bO->no<T.n/\gr T.gen bO.leaf no (aD.view no) bO):
 b4 w' (T.bK aD P)/\b_ T (T.bK aD P) w w' k:=by
 have hx:=h.ca.inv.eK;have hc:=a.af;refine⟨⟨?_,h.s.af hc λq b hf=>(hx q (.inr (.inl b))).2 hf,e,h.iF,h.dF,h.iq,?_,h.num,f,λj l=>by unfold a6.ro;show T.g j=true\/∀i,aD.D.bB i=true;rw[a.bB];exact h.bB j (by rw[←a.bB];exact l),h.low⟩,⟨rfl,rfl,rfl,rfl,rfl,rfl,a.c,a.d,a.bw,rfl,a.aQ,a.calm,hc.mono λq _ b=>.inl b,?_,?_⟩⟩
 .have:=h.t.af hc λhf=>(hx T.bf (.inl rfl)).2 hf
  unfold j6 at this⊢;rw[←a.c]at this;exact this
 .show aD.D.n=T.n
  rw[a.n,h.n]
 .rintro q (b|b)
  .rcases a.db q b with h1|h1
   .exact .inl (.inl h1)
   .exact .inr h1
  .exact .inl (.inr b)
 .rintro q (b|b)
  .rcases a.db q b with h1|h1
   .exact .inl (.inl h1)
   .exact .inr h1
  .exact .inl (.inr b)
end
def E4(T:aP)(leaf:al)(no:Nat)(e:Int):Prop:=
 (e=3/\¬T.C.D.calm 2)\/fa (no:Int) (T.C.view no)=.error e\/(e=4/\(∃p,fa (no:Int) (T.C.view no)=.ok p)/\∀n,¬gr T.gen leaf no (T.C.view no) n)
def ng(T:aP)(leaf:al)(no:Nat)(w:J)(v:Y)(w':J):Prop:=
 ∃aD:bM,b4 w' (T.bK aD T.P)/\b_ T (T.bK aD T.P) w w' 2/\(∀j,aD.view j=T.C.view j)/\
  ((∃ (n:aB) (K V D:ad),v=.tuple #[c0 n K V D,(0:Int)]/\gr T.gen leaf no (T.C.view no) n/\bt (λq=>w.heap.size<=q/\¬(T.bK aD T.P).M q) w' n K V D)\/
    (∃e:Int,v=.tuple #[c0 qq bN bN bN,e]/\E4 T leaf no e/\e≠0))
theorem Ac{no:Int}{l:c2}{e:Int}(h:fa no l=.error e):e≠0:=by
 intro he;subst he;unfold fa at h
 repeat' split at h
 all_goals first|(injection h with h;exact absurd h (by decide))|cases h
theorem E5{no:Int}{l:c2}{p:ij}(h:fa no l=.ok p):p.body.length<=256:=by
 unfold fa at h
 repeat' split at h
 all_goals first|(cases h;done)|skip
 rename_i h1 _ _ _ _ _;injection h with h
 rw[←h];show(List.take _ (List.drop 24 l)).length<=256;rw[cK,dc];omega
theorem Ad{w':J}{h:Nat}{vs:O Y}(n g:Int)(s:ad)(a:Var w' h vs 150)(b:vs.length=3){K:J->Prop}(c:∀ai,Var ai h [n,.int .u64 g,s] 150->ae (λq=>q=h) w' ai->ai.heap.size=w'.heap.size->K ai):
 bh w' h [n,.int .u64 g,s]/\(3:Nat)=3/\an (setCells w' h 0 [n,.int .u64 g,s]) K:=by
 refine⟨a.bU (by rw[b];rfl) ?_,rfl,cl a (us:=[n,.int .u64 g,s]) (by rw[b];rfl) rfl c⟩;intro v a;simp only[c7,ff,fp]at a;rcases a with rfl|rfl|rfl<;>trivial
theorem Ae{w:J}{T:aP}(h:b4 w T)(aH:T.C.D.aQ<=999999999){no:Nat}(ag:no<T.n)(ak:2<=no)(leaf:al):
 aL aj 196 #[.pointer (some T.bf),no,leaf] w (ng T leaf no w):=by
 have be:=h.s.bx;have aI:=h.E3 ag;refine okF (ah.sN (some T.bf) (no:Int) leaf) az.sN func196 ?_;(delta ah.sN z4 eR ao vj aa rX aW r1 yt rQ cd aF pS kT;dsimp only);refine bd (vs:=[false,(),(),()]) rfl λw1 aJ am bg=>?_;obtain⟨o,N⟩:∃o,o=λq=>T.G q\/q=w.heap.size:=⟨_,rfl⟩;have an:o w.heap.size:=by rw[N];exact .inr rfl
 have O:∀q,T.G q->o q:=λq c=>by rw[N];exact .inl c
 have R:∀q,o q->T.G q\/q=w.heap.size:=λq c=>by rw[N]at c;exact c
 have h1:b4 w1 (T.ct T.E o):=h.grow (W:=λ_=>False) am (λ_ h=>h.elim) (λq c=>.inl c) (λq c=>.inr ((R q c).imp id λe=>⟨I,I⟩)) λq c hg=>by
  rcases R q hg with t|t
  .exact(h.dF q c).2.2 t
  .have:=h.lt (q:=q) (.inr (.inr (.inr (.inl c))));omega
 refine⟨_,rfl,_,h1.cells.1,(E1 h1.ca aH (no:=no) (by rw[h1.n];exact ag) ak).use ?_⟩;rintro _ m ⟨aD,aK,S,u,aM⟩;obtain⟨U,aN⟩:=h1.oV (P:=T.P) aK S (λno bO aO=>by rw[u];exact h1.eE no bO aO);have bh:=S.af.size;have ap:Var m w.heap.size [false,(),(),()] 202:=aJ.af S.af λhf=>(h1.ca.inv.eK _ (.inr (.inr (.inr an)))).2 hf
 have fin:∀w':J,ae (λq=>q=w.heap.size) m w'->b4 w' (T.bK aD T.P)/\b_ T (T.bK aD T.P) w w' 2:=λw' hc=>by
  refine⟨U.grow (E:=T.E) (G:=T.G) hc (λq e _=>.inr (by rw[e];exact an)) (λq c=>.inl c) (λq c=>.inr (.inl (O q c))) λq c=>(h.dF q c).2.2,?_⟩;have aR:=aN.local am (λq c=>.inl c) (λq c=>(R q c).imp id λe=>I) (jd:=T.E) (wB:=T.G) (λq c=>.inl c) O;exact aR.step hc (λq e bi=>I) (λq c=>.inl c) λq c=>.inl c
 have aS:∀ {w':J}{n:aB}{K V D:ad}{B:Nat->Prop},bt (λq=>m.heap.size<=q) w' n K V D->bt (λq=>w.heap.size<=q/\¬(T.bK aD T.P).M q) w' n K V D:=λaT=>by
  refine aT.aY λq _ c=>⟨I,λj=>?_⟩;have:q<m.heap.size:=U.lt (q:=q) (by
   rcases j with j|j|j|j|j
   .exact .inl j
   .exact .inr (.inl j)
   .exact .inr (.inr (.inl j))
   .exact .inr (.inr (.inr (.inl j)))
   .exact .inr (.inr (.inr (.inr (O q j)))))
  omega
 rcases aM with ⟨s,rfl,hs⟩|⟨rfl,aU⟩
 .refine⟨s,0,rfl,λd=>(by cases d),λ_=>(od hs.1 hs.2.1 (by show(T.C.view no).length<=1000;rw[aI];omega) _).use ?_⟩
  rintro _ aV ⟨z,H⟩;have aq:=ap.ext H;have bj:=H.size;have a0:(T.ct T.E o).C.view no=T.C.view no:=rfl;rw[a0]at z
  cases g:fa (no:Int) (T.C.view no) with
  |error e=>
   rw[g]at z;obtain rfl:=z;refine⟨0,0,⟨none,0,0⟩,e,rfl,bd (vs:=[(0:Int),.int .u64 0,()]) rfl λa1 X v a2=>?_⟩;refine Ad 0 0 ⟨none,0,0⟩ X rfl λf ar x a3=>⟨λ_=>?_,λd=>?_⟩
   .have Y:Var f w.heap.size [false,(),(),()] 202:=(aq.ext v).af x I
    refine iC false bN bN bN Y rfl (Q:=λb K V D ai=>ng T leaf no w (.tuple #[.agg #[b,K,V,D],e]) ai) λl i=>?_;obtain⟨f1,f2⟩:=fin l (cS (W:=λq=>q=w.heap.size) (ae.cN (Ext.cC (H.trans v) x I)) i λq _ e=>e);exact⟨aD,f1,f2,u,.inr ⟨e,rfl,.inr (.inl g),Ac g⟩⟩
   .have:=Ac g
    simp at d;omega
  |ok p=>
   rw[g]at z;obtain⟨A,rfl,Z,bk⟩:=z;refine⟨p.kind,p.gen,A,0,rfl,bd (vs:=[(0:Int),.int .u64 0,()]) rfl λa1 X v a2=>?_⟩;refine Ad p.kind p.gen A X rfl λf ar x a3=>⟨λd=>(by cases d),λ_=>aX ?_⟩;have Y:Var f w.heap.size [false,(),(),()] 202:=(aq.ext v).af x I;have a4:Ext m f:=Ext.cC (H.trans v) x I;have F:Ext m f.drew:=a4.trans (cJ _);have ab:Var f.drew w.heap.size [false,(),(),()] 202:=Y.drew;have L:=ar.drew;have a5:=(U.ext F).cells;obtain⟨b,d⟩:∃b,b=aV.heap.size:=⟨_,rfl⟩;rw[←d]at L⊢;have ac:f.drew.cell? b=some (.int .i64 (p.kind:Nat)):=L.cell;have a6:f.drew.cell? (Addr.add b 1)=some (.int .u64 (p.gen:Nat)):=by rw[ay];exact L.cell
   have a7:f.drew.cell? (Addr.add b 2)=some (.slice A.a A.len A.cap):=by rw[ay];exact L.cell
   have bl:m.heap.size<=f.drew.heap.size:=F.size;refine⟨id,_,a6,_,rfl,id,_,a5.2.2.1,λhg=>?_,λhg=>⟨id,_,ac,?_⟩⟩
   .have hg:T.gen<p.gen:=by
     have:(p.gen:Int)>(T.gen:Int):=cu hg;omega
    refine cH (λb w'=>b=true/\w'=f.drew) (λq c=>⟨λ_=>c _ _ ⟨rfl,rfl⟩,λh=>by cases h⟩) ?_;rintro _ _ ⟨rfl,rfl⟩;refine⟨λ_=>?_,λh=>(by cases h)⟩;refine iC false bN bN bN ab rfl (Q:=λb K V D ai=>ng T leaf no w (.tuple #[.agg #[b,K,V,D],(4:Int)]) ai) λl i=>?_;obtain⟨f1,f2⟩:=fin l (cS (W:=λq=>q=w.heap.size) (ae.cN F) i λq _ e=>e);refine⟨aD,f1,f2,u,.inr ⟨4,rfl,.inr (.inr ⟨rfl,⟨p,g⟩,?_⟩),by decide⟩⟩;rintro n ⟨au,av,aw,_⟩;rw[g]at av;cases av;omega
   .have hg:p.gen<=T.gen:=by
     have:¬(p.gen:Int)>(T.gen:Int):=cQ hg;omega
    refine cH (λb w'=>w'=f.drew/\(b=false↔p.kind=(if leaf then 1 else 2))) (λq c=>⟨λh=>c _ _ ⟨rfl,?_⟩,λh=>⟨_,ac,cH (λb w'=>w'=f.drew/\(b=false↔p.kind=(if leaf then 1 else 2))) (λr ax=>⟨λt=>⟨_,ac,ax _ _ ⟨rfl,?_⟩⟩,λt=>ax _ _ ⟨rfl,?_⟩⟩) λb w' a8=>c b w' a8⟩⟩) ?_
    .refine⟨λh=>(by cases h),λy=>?_⟩
     rw[y]at h
     cases leaf<;>simp at h
    .cases leaf
     .simp
      exact Int.ofNat_inj
     .simp at t h;omega
    .cases leaf
     .simp at t h;omega
     .simp at t
      simp;omega
    rintro bm _ ⟨rfl,y⟩;refine⟨λd=>?_,λd=>⟨_,a7,(oo ((Z.ext (Ext.cC v x I|>.trans (cJ _))).src) ?_ ?_ ?_ leaf).use ?_⟩⟩
    .refine iC false bN bN bN ab rfl (Q:=λb K V D ai=>ng T leaf no w (.tuple #[.agg #[b,K,V,D],(4:Int)]) ai) λl i=>?_
     obtain⟨f1,f2⟩:=fin l (cS (W:=λq=>q=w.heap.size) (ae.cN F) i λq _ e=>e);refine⟨aD,f1,f2,u,.inr ⟨4,rfl,.inr (.inr ⟨rfl,⟨p,g⟩,?_⟩),by decide⟩⟩;rintro n ⟨au,av,aw,aA,_⟩;rw[g]at av;cases av;rw[y.2 aA]at d;cases d
    .exact Z.2.1
    .intro k y
     have:=aZ.lt Z k y;have:=v.size;show k<f.heap.size;omega
    .have:=E5 g
     omega
    rintro _ a9 ⟨a_,aC⟩;have aE:Ext m a9:=F.trans aC;have aG:=ab.ext aC;rcases a_ with ⟨n,K,V,D,rfl,ba,ej⟩|⟨rfl,bb⟩
    .refine⟨n.leaf,K,V,D,0,rfl,?_⟩
     refine iC n.leaf K V D aG rfl (Q:=λb K V D ai=>ng T leaf no w (.tuple #[.agg #[b,K,V,D],(0:Int)]) ai) λl i=>?_;obtain⟨f1,f2⟩:=fin l (cS (W:=λq=>q=w.heap.size) (ae.cN aE) i λq _ e=>e);refine⟨aD,f1,f2,u,.inl ⟨n,K,V,D,rfl,⟨p,g,hg,y.1 d,ba,ak⟩,?_⟩⟩;refine aS (B:=λ_=>True) (bt.af (ej.aY λq _ c=>?_) i λq c e=>?_)
     .omega
     .have:m.heap.size<=q:=c
      omega
    .refine⟨false,bN,bN,bN,4,rfl,?_⟩
     refine iC false bN bN bN aG rfl (Q:=λb K V D ai=>ng T leaf no w (.tuple #[.agg #[b,K,V,D],(4:Int)]) ai) λl i=>?_;obtain⟨f1,f2⟩:=fin l (cS (W:=λq=>q=w.heap.size) (ae.cN aE) i λq _ e=>e);refine⟨aD,f1,f2,u,.inr ⟨4,rfl,.inr (.inr ⟨rfl,⟨p,g⟩,?_⟩),by decide⟩⟩;rintro n ⟨au,av,aw,aA,bc,_⟩;rw[g]at av;cases av;exact bb n bc
 .refine⟨⟨none,0,0⟩,3,rfl,λ_=>?_,λd=>(by cases d)⟩
  refine iC false bN bN bN ap rfl (Q:=λb K V D ai=>ng T leaf no w (.tuple #[.agg #[b,K,V,D],(3:Int)]) ai) λl i=>?_;obtain⟨f1,f2⟩:=fin l i;exact⟨aD,f1,f2,u,.inr ⟨3,rfl,.inl ⟨rfl,aU⟩,by decide⟩⟩
structure df where
 no:Nat
 n:aB
 cz:Nat
 K:ad
 V:ad
 D:ad
def df.c(s:df):O Y:=[s.no,s.n.leaf,s.K,s.V,s.D,s.cz]
def df.st(s:df):Nat×aB×Nat:=(s.no,s.n,s.cz)
theorem nh(l:O df):∀x∈l,(df.c x).length=6:=λ_ _=>rfl
structure je(B:Nat->Prop)(w:J)(s:ad)(l:O df):Prop where
 own:aZ 6 232 w s (b8 df.c l)
 ni:∀q,aC s q->B q
 bO:∀x∈l,bt B w x.n x.K x.V x.D
def l5(P:Nat->ar aB)(k:Key):Nat->Nat->O (Nat×aB×Nat)->Prop
 |0,_,l=>l=[]
 |h+1,no,l=>∃n rest,P no=some n/\n.leaf=decide (h=0)/\l=(no,n,if h=0 then 0 else ey n.keys k)::rest/\l5 P k h (n.kids.getD (ey n.keys k) 0) rest
theorem l5.length{P:Nat->ar aB}{k:Key}:∀ {h no:Nat}{l:O (Nat×aB×Nat)},l5 P k h no l->l.length=h
 |0,_,_,h=>by rw[h];rfl
 |h+1,_,_,⟨n,rest,_,_,a,b⟩=>by rw[a,hJ,l5.length b]
theorem gr.uniq{gen no:Nat}{leaf:al}{l:c2}{n m:aB}(h1:gr gen leaf no l n)(a:gr gen leaf no l m):n=m:=by
 obtain⟨p,a1,a2,a3,a4⟩:=h1;obtain⟨q,cf,bH,c,b⟩:=a;rw[a1]at cf
 cases cf;exact ko.uniq a4.1 b.1
theorem gr.is{gen no:Nat}{leaf:al}{l:c2}{n:aB}(h:gr gen leaf no l n):n.leaf=leaf/\cr n/\br n<=232:=by
 obtain⟨p,_,_,_,a,_⟩:=h;exact⟨a.2.1,a.1,a.2.2.1⟩
theorem gr.two{gen no:Nat}{leaf:al}{l:c2}{n:aB}(h:gr gen leaf no l n):2<=no:=by
 obtain⟨p,_,_,_,_,a⟩:=h;exact a
theorem cr.e9{n:aB}(h:cr n):n.keys.Pairwise bP:=by
 rcases h with h|h
 .exact h.e9
 .exact h.e9
def E6(T:aP)(steps:O (Nat×aB×Nat))(w:J)(v:Y)(w':J):Prop:=
 ∃aD:bM,b4 w' (T.bK aD T.P)/\b_ T (T.bK aD T.P) w w' (2*T.aH)/\(∀j,aD.view j=T.C.view j)/\
  ((∃ (s:ad) (l:O df),v=.tuple #[s,(0:Int)]/\l.map df.st=steps/\je (λq=>w.heap.size<=q/\¬(T.bK aD T.P).M q) w' s l)\/(v=.tuple #[(),(3:Int)]/\¬T.C.D.calm (2*T.aH)))
theorem E7(w:J)(cs:Array Y)(h:cs.size=6):Sem.run aj (Instr.buildSlice 228 1 #[(0,.agg cs)]) w=.ok (.slice (some w.heap.size) 1 1) (w.alloc (.cells cs 232)):=by
 have h0:((Tryz.prog.info? 232).bind (·.zero)).isSome=true:=by kernel_rfl
 obtain⟨z,a⟩:=nq.1 h0;obtain⟨i,hi,b⟩:=tI a;have h1:(Tryz.prog.underlying 232).isSome=true:=by kernel_rfl
 obtain⟨d,hd⟩:=nq.1 h1;exact zz (sz:=6) w (by kernel_rfl) hd (by kernel_rfl) hi b h (by decide) (by decide)
theorem E8:ia aj 228 232 6 96:=⟨by kernel_rfl⟩
theorem E9{h:Nat}{n:aB}(a:n.leaf=decide (h=0)):((((h+1:Nat):Int):Int)==1)=n.leaf:=by
 rw[a,fA,ji,cA];omega
theorem Af{w:J}{T:aP}{tk:ad}{k:Key}{steps:O (Nat×aB×Nat)}(h:b4 w T)(co:T.C.D.aQ<=900000000)(bw:Src 1 w tk (aA k))(bA:∀q,aC tk q->q<w.heap.size/\¬T.M q)(bB:l5 T.P k T.aH T.root steps):
 aL aj 142 #[.pointer (some T.bf),tk] w (E6 T steps w):=by
 have cp:=h.num.2.1;refine okF (ah.sF (some T.bf) tk) az.sF func142 ?_;(delta ah.sF aF ao kT z4 aa aW r1 b7 st aK au;dsimp only);refine⟨_,rfl,_,h.cells.2.2.2.1,_,rfl,_,h.cells.2.2.2.2,λs n8 n9 w'=>∃ (ec no:Nat) (l:O df) (rest:O (Nat×aB×Nat)) (bW:Nat->Prop) (aD:bM),n9=(ec:Nat)/\n8=(no:Nat)/\l5 T.P k ec no rest/\l.map df.st++rest=steps/\l.length+ec=T.aH/\
  bW=(λq=>T.E q\/aC s q)/\(∀q,aC s q->w.heap.size<=q)/\b4 w' ((T.ct bW T.G).bK aD T.P)/\b_ T ((T.ct bW T.G).bK aD T.P) w w' (2*l.length)/\(∀j,aD.view j=T.C.view j)/\aZ 6 232 w' s (b8 df.c l)/\
  ∀x∈l,bt (λq=>w.heap.size<=q/\¬((T.ct bW T.G).bK aD T.P).M q) w' x.n x.K x.V x.D,λ_ _ n9 _=>n9.toNat,?_,?_⟩
 .have bD:T.E=λq=>T.E q\/aC ⟨none,0,0⟩ q:=by
   funext q;refine propext ⟨.inl,λh=>h.resolve_right ?_⟩;rintro⟨A,aq,_⟩
   cases aq
  have a6:(T.ct T.E T.G).bK T.C T.P=T:=rfl;refine⟨T.aH,T.root,[],steps,T.E,T.C,rfl,rfl,bB,rfl,by simp,bD,?_,by rw[a6];exact h,by rw[a6];exact .refl _ _,λ_=>rfl,?_,λx hx=>(by cases hx)⟩
  .rintro q ⟨A,aq,_⟩
   cases aq
  .exact⟨rfl,bl _,by decide,.inl ⟨rfl,rfl⟩⟩
 have fin:∀ {w':J}{bW:Nat->Prop}{aD:bM}{s:ad}{k:Nat},b4 w' ((T.ct bW T.G).bK aD T.P)->b_ T ((T.ct bW T.G).bK aD T.P) w w' k->bW=(λq=>T.E q\/aC s q)->(∀q,aC s q->w.heap.size<=q)->b4 w' (T.bK aD T.P)/\b_ T (T.bK aD T.P) w w' k:=by
  intro w' bW aD s k h1 Z g z;have F:∀q,T.E q->bW q:=λq a=>by rw[g];exact .inl a
  exact⟨h1.grow (W:=λ_=>False) (E:=T.E) (G:=T.G) (ae.refl _ _) (λ_ h=>h.elim) (λq a=>.inl (F q a)) (λq a=>.inr (.inl a)) λq a=>(h.dF q a).2.2,
   Z.step (W:=λ_=>False) (ae.refl _ _) (λ_ h=>h.elim) (λq a=>.inl (F q a)) λq a=>.inl a⟩
 rintro s _ _ cq ⟨ec,no,l,rest,bW,ab,rfl,rfl,a7,a9,hlen,H,L,t,R,f,ar,ej⟩;have cr:=R.af.size;refine⟨λaI=>?_,λbE=>?_⟩
 .obtain⟨o,rfl⟩:∃bF,ec=bF+1:=⟨ec-1,by have:(ec:Int)>0:=cu aI;omega⟩
  obtain⟨n,bG,bH,a_,rfl,ba⟩:=a7;obtain⟨bI,S⟩:=t.eE no n bH;have bJ:ab.D.aQ<=999999999:=by
   have:ab.D.aQ<=T.C.D.aQ+2*l.length:=R.aQ;omega
  refine(Ae t bJ bI S.two _).use ?_;rintro _ r ⟨B,Z,ac,bb,be⟩;have aw:=R.trans ac;have cs:=ac.af.size;rw[E9 a_]at be;rcases be with ⟨bx,K,V,D,rfl,bL,ax⟩|⟨e,rfl,bP,bR⟩
  .obtain rfl:=gr.uniq S bL
   obtain⟨_,aE,cv⟩:=S.is;have bS:=aE.e9;have cx:=tn aE;refine⟨n.leaf,K,V,D,0,rfl,bd (vs:=[false,(),(),()]) rfl λbT U aG bV=>?_⟩;refine⟨U.bU rfl ?_,rfl,cl U (us:=[n.leaf,K,V,D]) rfl rfl λag aJ aM bX=>⟨λd=>(by cases d),λ_=>?_⟩⟩
   .intro v f
    simp only[c7,ff,fp]at f;rcases f with rfl|rfl|rfl|rfl<;>trivial
   have bg:Ext r ag:=Ext.cC aG aM (bl _);have cy:=bg.size;obtain⟨bQ,aT,a8,bc⟩:=bC aJ;refine⟨_,bQ,K,aT,V,a8,D,bc,#[no,n.leaf,K,V,D,(0:Int)],by kernel_rfl,?_⟩;refine bd (vs:=[(0:Int),false,(),(),(),(0:Int)]) rfl λcz bh bi cA=>?_;refine⟨bh.bU rfl ?_,rfl,cl bh (us:=[no,n.leaf,K,V,D,(0:Int)]) rfl rfl λaN aO bj cB=>?_⟩
   .intro v f
    simp only[c7,ff,fp]at f;rcases f with rfl|rfl|rfl|rfl|rfl|rfl<;>trivial
   have ai:Ext r aN:=Ext.cC (bg.trans bi) bj I;have aR:Var aN r.heap.size [n.leaf,K,V,D] 202:=(aJ.ext bi).af bj I;obtain⟨sb,bY⟩:∃sb,sb=ag.heap.size:=⟨_,rfl⟩;obtain⟨bk,bZ⟩:∃bk,bk=r.heap.size:=⟨_,rfl⟩;rw[←bY]at aO⊢;rw[←bZ]at aR⊢;have b0:=ax.ext ai;refine cH (λn40 u=>n40=(((if o=0 then no else n.kids.getD (ey n.keys k) 0:Nat)):Int)/\Ext r u/\Var u sb (df.c ⟨no,n,if o=0 then 0 else ey n.keys k,K,V,D⟩) 232) (λq a=>⟨λak=>?_,λak=>?_⟩) ?_
   .have N:o≠0:=by
     have:((o+1:Nat):Int)>1:=cu ak;omega
    have b1:n.leaf=false:=by rw[a_];simp[N]
    have cD:=aE.oJ b1;have cE:=vv n.keys k;obtain⟨bQ,aT,a8,bc⟩:=bC aR;have b2:Src 1 aN tk (aA k):=(bw.af aw.af λq a b3=>(bA q a).2 (aP.hC b3)).ext ai;refine⟨_,bQ,K,aT,V,a8,D,bc,(oe b0 b2 bS I).use ?_⟩;rintro _ bm ⟨rfl,aS⟩;have bn:=aO.ext aS;obtain⟨av,b5⟩:=er bn (i:=5) (by simp);rw[ay];refine⟨_,rfl,av,b5,aX ?_⟩;have bo:=dL bm sb 5 (.int .i64 ((ey n.keys k:Nat):Int));have bp:=ep bn (i:=5) (.int .i64 ((ey n.keys k:Nat):Int));have bq:Ext r (bm.setCell ⟨sb,5,none⟩ (.int .i64 ((ey n.keys k:Nat):Int))):=Ext.cC (ai.trans aS) bo I;have b6:=(aR.ext aS).af bo I;obtain⟨d0,d1,d2,d3⟩:=bC b6;obtain⟨A,aq,d,b9⟩:=cw.at (ax.ext bq).kids (i:=ey n.keys k) I;refine⟨D,d3,_,bp.cell,A,aq,d,_,b9,a _ _ ⟨?_,bq,?_⟩⟩
    .rw[if_neg N,fI,dI I];rfl
    .rw[if_neg N]
     exact bp
   .have N:o=0:=by
     have:¬((o+1:Nat):Int)>1:=cQ ak;omega
    refine a _ _ ⟨by rw[if_pos N],ai,?_⟩;rw[if_pos N];exact aO
   rintro _ u ⟨rfl,br,cb⟩;have cF:=br.size;refine⟨_,cb.rd rfl,⟨some u.heap.size,1,1⟩,_,E7 _ _ rfl,?_⟩;have aU:=dD u (.cells (df.c ⟨no,n,if o=0 then 0 else ey n.keys k,K,V,D⟩).toArray 232);have Q:=br.trans aU;have cc:=Q.size;have cd:=aU.size;have ce:=ar.1;rw[hW _ (nh l)]at ce;have X:∀q,aC s q->bW q:=λq a=>by rw[H];exact .inr a
   have cf:aZ 6 232 r s (b8 df.c l):=ar.af ac.af λq a b=>t.j4 (X q a) b;obtain⟨x,aV⟩:∃x:df,x=⟨no,n,if o=0 then 0 else ey n.keys k,K,V,D⟩:=⟨_,rfl⟩;rw[←aV]at aU Q cc cd⊢;have cg:∀v∈df.c x,Plain v:=by
    intro v f;unfold df.c at f;simp only[c7,ff,fp]at f;rcases f with rfl|rfl|rfl|rfl|rfl|rfl<;>trivial
   obtain⟨al,am,a1,a2,a3,a4,a5⟩:=E8.append (dK:=228) (x:=⟨some u.heap.size,1,1⟩) (Src.new (T:=232) u (df.c x) 1 rfl) (cf.ext Q) cg (by show(2*(s.len+1)+1000)*96<=_;omega);have cG:=a4.size;have a0:∀q,aC al q->w.heap.size<=q:=λq a=>by
    rcases a5 q a with h1|h1
    .exact L q h1
    .omega
   obtain⟨jd,bs⟩:∃jd,jd=λq=>T.E q\/aC al q:=⟨_,rfl⟩;have an:∀q,jd q->T.E q\/aC al q:=λq a=>by rw[bs]at a;exact a
   have F:∀q,T.E q->bW q:=λq a=>by rw[H];exact .inl a
   have ch:b8 df.c (l++ [x])=b8 df.c l++df.c x:=by rw[qt];simp[b8]
   have ci:b4 am ((T.ct jd T.G).bK B T.P):=by
    refine(Z.ext Q).grow (E:=jd) (G:=T.G) a4 (λq a _=>.inl (X q a)) (λq a=>?_) (λq a=>.inr (.inl a)) λq a hg=>?_
    .rcases an q a with h1|h1
     .exact .inl (F q h1)
     .rcases a5 q h1 with g|g
      .exact .inl (X q g)
      .exact .inr (.inr ⟨g,aZ.lt a2 q h1⟩)
    .rcases an q a with h1|h1
     .exact(h.dF q h1).2.2 hg
     .have g:=h.lt (q:=q) (.inr (.inr (.inr (.inr hg))))
      have:=a0 q h1;omega
   have cj:b_ T ((T.ct jd T.G).bK B T.P) w am (2*(l++ [x]).length):=by
    have h1:=(aw.trans (b_.ext _ Q)).mono (l:=2*(l++ [x]).length) (by rw[cM,h6];omega);refine h1.step (E:=jd) (G:=T.G) a4 (λq a ak=>by have:=L q a;omega) (λq a=>?_) λq a=>.inl a;rcases an q a with h1|h1
    .exact .inl (F q h1)
    .exact .inr (.inr (a0 q h1))
   have bu:∀ {m:aB}{K V D:ad},bt (λq=>w.heap.size<=q/\¬((T.ct bW T.G).bK B T.P).M q) r m K V D->bt (λq=>w.heap.size<=q/\¬((T.ct jd T.G).bK B T.P).M q) am m K V D:=λ{m K V D} b=>by
    have h1:=(b.ext Q).aY (C:=λq=>q<(u.alloc (.cells (df.c x).toArray 232)).heap.size/\w.heap.size<=q/\¬((T.ct bW T.G).bK B T.P).M q) λq a d=>⟨a,d⟩;refine(bt.af h1 a4 λq a ck=>a.2.2 (.inr (.inr (.inr (.inl (X q ck)))))).aY λq _ d=>⟨d.2.1,λb=>d.2.2 ?_⟩;rcases b with b|b|b|b|b
    .exact .inl b
    .exact .inr (.inl b)
    .exact .inr (.inr (.inl b))
    .refine .inr (.inr (.inr (.inl ?_)))
     show bW q;rcases an q b with g|g
     .exact F q g
     .rcases a5 q g with z|z
      .exact X q z
      .have:=d.1;omega
    .exact .inr (.inr (.inr (.inr b)))
   have bv:IntKind.wrap .i64 (((o+1:Nat):Int)-1)=(o:Nat):=by rw[bz I I];omega
   refine⟨al,am,a1,⟨o,_,l++ [x],bG,jd,B,bv,rfl,?_,?_,by rw[cM,h6];omega,bs,a0,ci,cj,λj=>(bb j).trans (f j),by rw[ch];exact a2,?_⟩,?_⟩
   .cases o with
    |zero=>exact ba
    |succ m=>rw[if_neg I];exact ba
   .rw[←a9,fB,cY,aV];rfl
   .intro y Y
    rcases cL.1 Y with Y|Y
    .exact bu (ac.bO (ej y Y))
    .obtain rfl:=fo.1 Y
     subst aV;exact bu (ax.aY λq _ d=>⟨by have:=d.1;omega,d.2⟩)
   .rw[bv]
    show(o:Int).toNat<(((o+1:Nat):Int)).toNat;omega
  .refine⟨false,bN,bN,bN,e,rfl,bd (vs:=[false,(),(),()]) rfl λbT U aG bV=>?_⟩
   refine⟨U.bU rfl ?_,rfl,cl U (us:=[false,(),(),()]) rfl rfl λag aJ aM bX=>⟨λ_=>?_,λd=>?_⟩⟩
   .intro v f
    simp only[c7,ff,fp]at f;rcases f with rfl|rfl|rfl|rfl<;>trivial
   .have hx:Ext r ag:=Ext.cC aG aM (bl _)
    have he:e=3/\¬ab.D.calm 2:=by
     rcases bP with h1|h1|⟨_,_,h1⟩
     .exact h1
     .obtain⟨p,av,_⟩:=S
      rw[av]at h1;cases h1
     .exact absurd S (h1 n)
    obtain⟨rfl,cm⟩:=he;obtain⟨g,z⟩:=fin (k:=2*T.aH) (Z.ext hx) ((aw.trans (b_.ext _ hx)).mono I) H L;exact⟨B,g,z,λj=>(bb j).trans (f j),.inr ⟨rfl,λhc=>cm (R.calm 2 (gp hc I))⟩⟩
   .simp at d;exact absurd d bR
 .have h0:ec=0:=by
   have:¬(ec:Int)>0:=cQ bE;omega
  subst h0;have cn:rest=[]:=a7;subst cn;obtain⟨g,z⟩:=fin (k:=2*T.aH) t (R.mono I) H L;refine⟨ab,g,z,f,.inl ⟨s,l,rfl,by rw[←a9,fY],ar,λq a=>⟨L q a,λb=>?_⟩,λx hx=>?_⟩⟩
  .have cI:=L q a
   have ap:bW q:=by rw[H];exact .inr a
   rcases b with b|b|b|b|b
   .exact(t.ca.inv.eK q (.inr (.inr (.inl ap)))).2 b
   .exact(t.dF q ap).1 b
   .exact(t.dF q ap).2.1 b
   .have:=h.lt (q:=q) (.inr (.inr (.inr (.inl b))));omega
   .exact(t.dF q ap).2.2 b
  .refine(ej x hx).aY λq _ d=>⟨d.1,λb=>d.2 ?_⟩
   rcases b with b|b|b|b|b
   .exact .inl b
   .exact .inr (.inl b)
   .exact .inr (.inr (.inl b))
   .refine .inr (.inr (.inr (.inl ?_)))
    show bW q;rw[H];exact .inl b
   .exact .inr (.inr (.inr (.inr b)))
def aP.hD(T:aP)(f:Nat->al):aP:={T with f:=f}
structure dh where
 cb:Nat
 ma:ad
 fN:ad
 made:O Nat
 left:O Nat
structure c5(w:J)(T:aP)(c:dh):Prop where
 t:b4 w T
 v:Var w c.cb [.pointer (some T.bf),c.ma,c.fN] 297
 ma:aZ 1 3 w c.ma (fj c.made)
 fN:aZ 1 3 w c.fN (fj c.left)
 gc:T.G c.cb
 hE:∀q,aC c.ma q->T.G q/\q≠c.cb/\¬aC c.fN q
 jE:∀q,aC c.fN q->T.G q/\q≠c.cb
 ns:¬T.C.D.ro
theorem Ag{w:J}{s:ad}{ds:O Nat}(d:Nat)(b:aZ 1 3 w s (fj ds))(j:ds.length<=1000000):
 ∃ (a:ad) (w':J),Sem.run aj (Builtin.append_ #[58,58] 58 #[s,.slice (some w.heap.size) 1 1]) (w.alloc (.cells #[d] 3))=.ok a w'/\
  aZ 1 3 w' a (fj (ds++ [d]))/\ae (aC s) w w'/\(∀k,aC a k->aC s k\/w.heap.size<=k)/\ae (aC s) (w.alloc (.cells #[d] 3)) w':=by
 have l:s.len=ds.length:=by have:=b.1;rw[oI]at this;omega
 have hc:Ext w (w.alloc (.cells #[d] 3)):=dD _ _;have m:(w.alloc (.cells #[d] 3)).heap.size=w.heap.size+1:=ql _ _;obtain⟨a,w',h1,e,n,c,f⟩:=qo.append (dK:=58) (x:=⟨some w.heap.size,1,1⟩) (Src.new (T:=3) w [d] 1 rfl) (b.ext hc) (λv g=>by rw[fo.1 g];trivial) (by show(2*(s.len+1)+1000)*8<=_;omega);exact⟨a,w',h1,by simpa[fj] using e,(ae.cN hc).trans c,λk i=>(f k i).imp id (λh=>I),c⟩
section
variable {w w':J}{T ax:aP}{c:dh}
theorem c5.of{W:Nat->Prop}(h:c5 w T c)(d:b4 w' ax)(hc:ae W w w')(cD:∀q,T.G q->¬W q)(f:ax.bf=T.bf)(b:∀q,T.G q->ax.G q)(g:ax.C.D.bB=T.C.D.bB:=by rfl):c5 w' ax c:=
 ⟨d,by rw[f];exact h.v.af hc (cD _ h.gc),h.ma.af hc λq a=>cD q (h.hE q a).1,h.fN.af hc λq a=>cD q (h.jE q a).1,b _ h.gc,λq a=>⟨b q (h.hE q a).1,(h.hE q a).2⟩,λq a=>⟨b q (h.jE q a).1,(h.jE q a).2⟩,λe=>h.ns λi=>g▸e i⟩
theorem c5.ext(h:c5 w T c)(hx:Ext w w'):c5 w' T c:=h.of (h.t.ext hx) hx (λ_ _ h=>h) rfl λ_ h=>h
theorem c5.cells(h:c5 w T c):w.cell? c.cb=some (.pointer (some T.bf))/\w.cell? (Addr.add c.cb 1)=some (.slice c.ma.a c.ma.len c.ma.cap)/\w.cell? (Addr.add c.cb 2)=some (.slice c.fN.a c.fN.len c.fN.cap):=by
 rw[ay,ay];exact⟨h.v.cell,h.v.cell,h.v.cell⟩
theorem b4.wC(h:b4 w T){q:Nat}(a:T.G q):¬cP T.C q:=λhf=>(h.ca.inv.eK q (.inr (.inr (.inr a)))).2 hf
theorem b4.tO{f:Nat->al}(h:b4 w T)(hs:eJ w' T.sb T.n f T.g T.s1 T.s2)(hc:ae (fb T.sb T.s1 T.s2) w w'):b4 w' (T.hD f)/\b_ T (T.hD f) w w' 0:=
 ⟨⟨h.t.af hc h.iF,hs,h.ca.af hc λq a=>.inr (.inl a),h.iF,h.dF,h.iq,h.n,h.num,h.eE,h.bB,h.low⟩,
  ⟨rfl,rfl,rfl,rfl,rfl,rfl,rfl,rfl,rfl,rfl,bl _,λ_ h=>h,hc.mono λq _ a=>.inr (.inr (.inl a)),λq h=>.inl h,λq h=>.inl h⟩⟩
theorem E_(h:c5 w T c)(no:Nat)(y:c.made.length<=100000):
 ∃ (b:ad) (ai:J),Sem.run aj (Builtin.append_ #[58,58] 58 #[c.ma,.slice (some w.heap.size) 1 1]) (w.alloc (.cells #[no] 3))=.ok b ai/\
  ae (aC c.ma) (w.alloc (.cells #[no] 3)) ai/\(∃u:Y,ai.cell? ⟨c.cb,1,none⟩=some u)/\ai.frozen? ⟨c.cb,1,none⟩=false/\
  ∀j,j=ai.setCell ⟨c.cb,1,none⟩ b->c5 j (T.ct T.E λq=>T.G q\/aC b q) {c with ma:=b,made:=c.made++ [no]}/\b_ T (T.ct T.E λq=>T.G q\/aC b q) w j 0:=by
 obtain⟨b,ai,av,l,d,f,p⟩:=Ag no h.ma I;have cD:∀q,aC c.ma q->T.G q:=λq a=>(h.hE q a).1;have z:=d.size;have m:=h.v.af d λa=>(h.hE _ a).2.1 rfl;obtain⟨cn,cp⟩:=er m (i:=1) (by simp);refine⟨b,ai,av,p,cn,cp,?_⟩;rintro _ rfl;have g:=dL ai c.cb 1 b;have r:=ep m (i:=1) b;have k:ae T.G w (ai.setCell ⟨c.cb,1,none⟩ b):=cS (d.mono λq _ a=>cD q a) g λq _ e=>by rw[e];exact h.gc
 have A:=k.size;have aI:∀q,aC b q->q<ai.heap.size:=λq a=>aZ.lt l q a;have n:∀q,aC b q->T.G q\/(w.heap.size<=q/\q<(ai.setCell ⟨c.cb,1,none⟩ b).heap.size):=λq a=>by
  rcases f q a with h1|h1
  .exact .inl (cD q h1)
  .exact .inr ⟨h1,by have:=aI q a;have:=g.size;omega⟩
 have o:∀q,aC b q->q≠c.cb:=λq a e=>by
  rcases f q a with h1|h1
  .exact(h.hE q h1).2.1 e
  .have:=h.v.lt;omega
 have s:∀q,aC b q->¬aC c.fN q:=λq a e=>by
  rcases f q a with h1|h1
  .exact(h.hE q h1).2.2 e
  .have:=aZ.lt h.fN q e;omega
 have x:=h.t.grow (E:=T.E) (G:=λq=>T.G q\/aC b q) k (λq a _=>.inr a) (λq a=>.inl a) (λq a=>by
  rcases a with a|a
  .exact .inr (.inl a)
  .exact .inr (n q a)) λq a hg=>by
  rcases hg with hg|hg
  .exact(h.t.dF q a).2.2 hg
  .rcases f q hg with h1|h1
   .exact(h.t.dF q a).2.2 (cD q h1)
   .have:=h.t.lt (q:=q) (.inr (.inr (.inr (.inl a))));omega
 refine⟨⟨x,r,?_,(h.fN.af d λq a e=>(h.hE q e).2.2 a).af g λq a e=>(h.jE q a).2 e,.inl h.gc,λq a=>⟨.inr a,o q a,s q a⟩,λq a=>⟨.inl (h.jE q a).1,(h.jE q a).2⟩,h.ns⟩,?_⟩
 .have:aZ 1 3 ai b (fj (c.made++ [no])):=l
  exact this.af g λq a e=>o q a e
 .have h0:b_ T T w w 0:=.refl _ _
  exact h0.step k (λq a _=>.inr (.inr (.inr a))) (λq a=>.inl a) λq a=>by
   rcases a with a|a
   .exact .inl a
   .exact(n q a).imp id λe=>e.1
theorem Ah(h:c5 w T c)(no:Nat)(y:c.left.length<=100000):
 ∃ (b:ad) (ai:J),Sem.run aj (Builtin.append_ #[58,58] 58 #[c.fN,.slice (some w.heap.size) 1 1]) (w.alloc (.cells #[no] 3))=.ok b ai/\
  ae (aC c.fN) (w.alloc (.cells #[no] 3)) ai/\(∃u:Y,ai.cell? ⟨c.cb,2,none⟩=some u)/\ai.frozen? ⟨c.cb,2,none⟩=false/\
  ∀j,j=ai.setCell ⟨c.cb,2,none⟩ b->c5 j (T.ct T.E λq=>T.G q\/aC b q) {c with fN:=b,left:=c.left++ [no]}/\b_ T (T.ct T.E λq=>T.G q\/aC b q) w j 0:=by
 obtain⟨b,ai,av,l,d,f,p⟩:=Ag no h.fN I;have cD:∀q,aC c.fN q->T.G q:=λq a=>(h.jE q a).1;have z:=d.size;have m:=h.v.af d λa=>(h.jE _ a).2 rfl;obtain⟨cn,cp⟩:=er m (i:=2) (by simp);refine⟨b,ai,av,p,cn,cp,?_⟩;rintro _ rfl;have g:=dL ai c.cb 2 b;have r:=ep m (i:=2) b;have k:ae T.G w (ai.setCell ⟨c.cb,2,none⟩ b):=cS (d.mono λq _ a=>cD q a) g λq _ e=>by rw[e];exact h.gc
 have A:=k.size;have aI:∀q,aC b q->q<ai.heap.size:=λq a=>aZ.lt l q a;have n:∀q,aC b q->T.G q\/(w.heap.size<=q/\q<(ai.setCell ⟨c.cb,2,none⟩ b).heap.size):=λq a=>by
  rcases f q a with h1|h1
  .exact .inl (cD q h1)
  .exact .inr ⟨h1,by have:=aI q a;have:=g.size;omega⟩
 have o:∀q,aC b q->q≠c.cb:=λq a e=>by
  rcases f q a with h1|h1
  .exact(h.jE q h1).2 e
  .have:=h.v.lt;omega
 have s:∀q,aC c.ma q->¬aC b q:=λq e a=>by
  rcases f q a with h1|h1
  .exact(h.hE q e).2.2 h1
  .have:=aZ.lt h.ma q e;omega
 have x:=h.t.grow (E:=T.E) (G:=λq=>T.G q\/aC b q) k (λq a _=>.inr a) (λq a=>.inl a) (λq a=>by
  rcases a with a|a
  .exact .inr (.inl a)
  .exact .inr (n q a)) λq a hg=>by
  rcases hg with hg|hg
  .exact(h.t.dF q a).2.2 hg
  .rcases f q hg with h1|h1
   .exact(h.t.dF q a).2.2 (cD q h1)
   .have:=h.t.lt (q:=q) (.inr (.inr (.inr (.inl a))));omega
 refine⟨⟨x,r,(h.ma.af d λq a e=>(h.hE q a).2.2 e).af g λq a e=>(h.hE q a).2.1 e,?_,.inl h.gc,λq a=>⟨.inl (h.hE q a).1,(h.hE q a).2.1,s q a⟩,λq a=>⟨.inr a,o q a⟩,h.ns⟩,?_⟩
 .have:aZ 1 3 ai b (fj (c.left++ [no])):=l
  exact this.af g λq a e=>o q a e
 .have h0:b_ T T w w 0:=.refl _ _
  exact h0.step k (λq a _=>.inr (.inr (.inr a))) (λq a=>.inl a) λq a=>by
   rcases a with a|a
   .exact .inl a
   .exact(n q a).imp id λe=>e.1
end
def cj(T:aP):Nat:=T.n-eu (λi=>T.f i||T.g i) T.n
theorem Ai{s t:Nat->al}:∀ {n:Nat},(∀i,i<n->s i=t i)->eu s n=eu t n
 |0,_=>rfl
 |n+1,h=>by
  unfold eu
  rw[Ai (n:=n) λi hi=>h i I,h n I]
theorem tP{s t:Nat->al}{k:Nat}(a:s k=false)(ht:t k=true)(he:∀i,i≠k->t i=s i):∀ {n:Nat},k<n->eu t n=eu s n+1
 |0,h=>by omega
 |n+1,h=>by
  unfold eu
  by_cases e:k=n
  .subst e
   rw[Ai (s:=t) (t:=s) (n:=k) λi hi=>he i I,a,ht]
   simp
  .rw[tP a ht he (n:=n) I,he n I]
   omega
theorem Aj{t:Nat->al}:∀ {n:Nat},(∀i,i<n->t i=true)->eu t n=n
 |0,_=>rfl
 |n+1,h=>by
  unfold eu
  rw[Aj (n:=n) λi hi=>h i I,h n I]
  simp
theorem Ak{T:aP}(h:1<=cj T):∃no,firstFree (λi=>T.f i||T.g i) T.n=some no:=by
 cases hf:firstFree (λi=>T.f i||T.g i) T.n with
 |some no=>exact⟨no,rfl⟩
 |none=>
  have:=Aj (ED hf);unfold cj at h;rw[this]at h;omega
structure c6(T ax:aP)(c c':dh)(m l:O Nat)(w w':J)(k:Nat):Prop where
 to:b_ T ax w w' k
 E:ax.E=T.E
 G:∀q,T.G q->ax.G q
 root:ax.root=T.root
 aH:ax.aH=T.aH
 cb:c'.cb=c.cb
 made:c'.made=c.made++m
 left:c'.left=c.left++l
 bO:m.Nodup
 iG:∀no∈m,(T.f no||T.g no)=false/\no<T.n
 f:∀no,ax.f no=(T.f no||decide (no∈m))
 ee:∀no,(T.f no||T.g no)=true->ax.P no=T.P no/\ax.C.view no=T.C.view no
 room:cj ax+m.length=cj T
theorem c6.ext{w w':J}(T:aP)(c:dh)(h:Ext w w'):c6 T T c c [] [] w w' 0:=
 ⟨.ext T h,rfl,λ_ h=>h,rfl,rfl,rfl,by simp,by simp,List.nodup_nil,λ_ h=>(by cases h),λno=>by simp,λ_ _=>⟨rfl,rfl⟩,by simp⟩
theorem c6.trans{T ax o:aP}{c c' p:dh}{m r l s:O Nat}{w w' t:J}{k u:Nat}(h1:c6 T ax c c' m l w w' k)(d:c6 ax o c' p r s w' t u):c6 T o c p (m++r) (l++s) w t (k+u):=by
 have hg:ax.g=T.g:=h1.to.g;have v:ax.n=T.n:=h1.to.n;have hf:∀no,(T.f no||T.g no)=true->(ax.f no||ax.g no)=true:=λno h=>by
  rw[h1.f,hg]
  cases i:T.f no<;>cases j:T.g no<;>simp[i,j]at h⊢
 refine⟨h1.to.trans d.to,d.E.trans h1.E,λq h=>d.G q (h1.G q h),d.root.trans h1.root,d.aH.trans h1.aH,d.cb.trans h1.cb,by rw[d.made,h1.made,cY],by rw[d.left,h1.left,cY],?_,λno h=>?_,λno=>?_,λno h=>?_,?_⟩
 .rw[List.nodup_append]
  refine⟨h1.bO,d.bO,λa x b y e=>?_⟩;subst e;have:=(d.iG a y).1;rw[h1.f]at this;simp[x]at this
 .rcases cL.1 h with h|h
  .exact h1.iG no h
  .have i:=d.iG no h
   rw[h1.f,hg,v]at i;refine⟨?_,i.2⟩
   cases z:T.f no<;>cases A:T.g no<;>simp[z,A]at i⊢
 .rw[d.f,h1.f]
  simp only[cL,Bool.decide_or,Bool.or_assoc]
 .have i:=d.ee no (hf no h)
  have j:=h1.ee no h;exact⟨i.1.trans j.1,i.2.trans j.2⟩
 .have:=h1.room
  have:=d.room;rw[cM];omega
theorem c6.mono{T ax:aP}{c c':dh}{m l:O Nat}{w w':J}{k j:Nat}(h:c6 T ax c c' m l w w' k)(a:k<=j):c6 T ax c c' m l w w' j:=⟨h.to.mono a,h.E,h.G,h.root,h.aH,h.cb,h.made,h.left,h.bO,h.iG,h.f,h.ee,h.room⟩
def Al(T:aP)(c:dh)(n:aB)(w:J)(v:Y)(w':J):Prop:=
 ∃ (no:Nat) (ax:aP) (c':dh),c5 w' ax c'/\c6 T ax c c' [no] [] w w' 1/\
  ((v=.tuple #[no,(0:Int)]/\ax.P no=some n)\/(v=.tuple #[no,(3:Int)]/\¬T.C.D.calm 1))
theorem cr.fw{n:aB}(h:cr n)(b:br n<=400):n.keys.length<=200/\n.vals.length<=200/\n.kids.length<=201:=by
 have:=tn h;rcases h with h|h
 .have:=h.len
  have a:n.kids.length=0:=by rw[h.kids];rfl
  omega
 .have:=h.len
  have a:n.vals.length=0:=by rw[h.vals];rfl
  omega
theorem tQ{B:Nat->Prop}{w:J}{T:aP}{c:dh}{n:aB}{K V D:ad}(h:c5 w T c)(bf:T.C.D.aQ<=900000100)(U:1<=cj T)(bg:c.made.length<=1000)(aE:bt B w n K V D)(hs:cr n)(aF:br n<=232):
 aL aj 283 #[.pointer (some c.cb),c0 n K V D] w (Al T c n w):=by
 obtain⟨no,W⟩:=Ak U;obtain⟨u,y,_⟩:=zO W;have H:=h.t.s.bx;have bh:=hs.fw I;refine okF (ah.s7 (some c.cb) n.leaf K V D) az.s7 func283 ?_;(delta ah.s7 aW aa r1 eR ao ic st cd b7;dsimp only);refine bd (vs:=[n.leaf,K,V,D]) rfl λw1 X Z bi=>?_;obtain⟨bQ,aT,a8,bc⟩:=bC X;refine⟨_,bQ,K,aT,V,a8,D,bc,(ow (aE.ext Z) I I I).use ?_⟩;rintro _ aG ⟨aH,ab⟩;rcases aH with ⟨s,rfl,aI,aJ,_,_⟩|⟨e,rfl,he,aK⟩
 rotate_left
 .have:=aK hs;omega
 have L:=Z.trans ab;have r:=h.ext L;refine⟨s,0,rfl,λd=>(by cases d),λ_=>⟨_,rfl,_,r.cells.1,_,rfl,_,r.t.cells.2.1,(zQ r.t.s).use ?_⟩⟩;rintro _ aM ⟨rfl,hM,ac⟩;rw[W]at hM⊢;obtain⟨aN,M⟩:=r.t.tO hM ac;have ag:c5 aM (T.hD (da T.f no true)) c:=r.of aN ac (λq a hf=>(h.t.iq q a).2 hf) rfl λ_ h=>h;refine⟨(no:Nat),0,rfl,λd=>(by cases d),λ_=>⟨_,rfl,_,ag.cells.2.1,?_⟩⟩;obtain⟨z,ai,av,bj,aO,aR,aS⟩:=E_ ag no I;refine aX ⟨z,ai,av,_,rfl,by rw[ay];exact aO,by rw[ay];exact aR,aX ?_⟩;rw[ay];obtain⟨o,ak⟩:∃o,o=ai.setCell ⟨c.cb,0+1,none⟩ z:=⟨_,rfl⟩;rw[←ak];obtain⟨A,O⟩:=aS o ak;obtain⟨al,bk⟩:∃al,al=λq=>T.G q\/aC z q:=⟨_,rfl⟩;have am:∀q,T.N q->q<w.heap.size:=λq a=>h.t.lt (aP.hC a);have bm:=L.size;have bn:=M.af.size;have bo:=O.af.size;have an:ae T.N aG o:=M.af.trans O.af;have aU:Var o w.heap.size [n.leaf,K,V,D] 202:=(X.ext ab).af an λa=>by have:=am _ a;omega
 have aV:aZ 1 5 o s (aA (ih n)):=aI.af an λq a aY=>by have:=am _ aY;have:=aJ q a;omega
 have hlen:=vG hs;have H:2<=no:=by
  have e:(T.f no||T.g no)=false:=y;have F:T.g no=false:=by cases hg:T.g no<;>simp_all
  have:=h.t.low;rcases ed no 2 with Q|Q
  .rcases lp no with ap|ap
   .rw[ap,this.1]at F;cases F
   .rw[show no=1 from I,this.2]at F;cases F
  .exact Q
 have R:lT ⟨if n.leaf then 1 else 2,T.gen,ih n⟩:=by
  refine⟨?_,?_,h.t.num.2.2,by show(ih n).length<=232;omega⟩
  .show 1<=(if n.leaf then 1 else 2);split<;>omega
  .show(if n.leaf then 1 else 2)<=4;split<;>omega
 refine cH (λn27 a0=>n27=((if n.leaf then 1 else 2:Nat):Int)/\a0=o) (λq a=>⟨n.leaf,aU.cell,λd=>a _ _ ⟨by rw[d];rfl,rfl⟩,λd=>a _ _ ⟨by rw[d];rfl,rfl⟩⟩) ?_;rintro _ _ ⟨rfl,rfl⟩;refine⟨_,rfl,_,A.cells.1,_,rfl,_,A.t.cells.2.2.1,(tz (no:=no) (p:=⟨if n.leaf then 1 else 2,T.gen,ih n⟩) aV.src I R).use ?_⟩;rintro _ bp ⟨s2,rfl,aq,au,a1⟩;have l:=A.ext au;refine⟨s2,0,rfl,λd=>(by cases d),λ_=>⟨_,rfl,_,l.cells.1,_,rfl,_,l.t.cells.1,(Aa l.t.ca (by show T.C.D.aQ<=999999999;omega) (no:=no) (by rw[l.t.n];exact u) H (λhs=>by have:=l.t.bB no hs;have e:(T.f no||T.g no)=false:=y;rcases this with this|this;(rw[show T.g no=true from this,Bool.or_true]at e;cases e);exact l.ns this) aq.src (qj no R) λq a=>⟨aZ.lt aq q a,λhf=>?_⟩).use ?_⟩⟩
 .have:=a1 q a
  have:=A.t.lt (q:=q) (.inl hf);omega
 rintro _ a2 ⟨aD,a3,S,a4⟩;have a5:∀j,da T.f no true j=(T.f j||decide (j∈ [no])):=λj=>by
  unfold da;by_cases e:j=no
  .subst e;simp
  .simp[e]
 have aw:(T.f no||T.g no)=false:=y;have a6:T.n-eu (λi=>da T.f no true i||T.g i) T.n+1=cj T:=by
  have:=tP (s:=λi=>T.f i||T.g i) (t:=λi=>da T.f no true i||T.g i) (k:=no) y (by simp[da]) (λi hi=>by simp[da,hi]) u;unfold cj at U⊢;have Q:=l1 (λi=>T.f i||T.g i) T.n;omega
 have main:∀ (P':Nat->ar aB) (v:Y),(∀j,j≠no->P' j=T.P j)->(∀j,j≠no->aD.view j=T.C.view j)->(∀j bO,P' j=some bO->j<T.n/\gr T.gen bO.leaf j (aD.view j) bO)->
  ((v=.tuple #[no,(0:Int)]/\P' no=some n)\/(v=.tuple #[no,(3:Int)]/\¬T.C.D.calm 1))->Al T c n w v a2:=by
  intro P' v a7 e3 a9 m;obtain⟨a_,ba⟩:=l.t.oV (P:=P') a3 S a9;have bb:=l.of (ax:=((T.hD (da T.f no true)).ct T.E λq=>T.G q\/aC z q).bK aD P') a_ S.af (λq a=>l.t.wC a) rfl (λ_ h=>h) S.bB;refine⟨no,_,_,bb,⟨?_,rfl,λq a=>.inl a,rfl,rfl,rfl,rfl,(fY _).symm,by simp,λx hx=>?_,a5,λj b=>?_,a6⟩,m⟩
  .have:=(((b_.ext T L).trans M).trans O).trans ((b_.ext _ au).trans ba)
   exact this.mono I
  .obtain rfl:=fo.1 hx
   exact⟨aw,u⟩
  .have:j≠no:=λe=>by rw[e,aw]at b;cases b
   exact⟨a7 j this,e3 j this⟩
 rcases a4 with ⟨rfl,m⟩|⟨rfl,be,m⟩
 .refine⟨0,rfl,main (λj=>if j=no then some n else T.P j) _ (λj b=>if_neg b) (λj b=>(m j).trans (if_neg b)) (λj bO b=>?_) (.inl ⟨rfl,if_pos rfl⟩)⟩
  by_cases e:j=no
  .subst e
   rw[if_pos rfl]at b
   cases b;rw[m,if_pos rfl];exact⟨u,_,tu I R,bl _,rfl,⟨hs,rfl,aF,rfl⟩,H⟩
  .rw[if_neg e]at b
   rw[m,if_neg e];exact h.t.eE j bO b
 .refine⟨3,rfl,main T.P _ (λ_ _=>rfl) (λj _=>m j) (λj bO b=>?_) (.inr ⟨rfl,be⟩)⟩
  rw[m];exact h.t.eE j bO b
theorem Fa(w:J)(x:Int):Sem.run aj (Instr.buildSlice 326 1 #[(0,.agg #[(),x])]) w=
 .ok (.slice (some w.heap.size) 1 1) (w.alloc (.cells #[(),x] 334)):=by kernel_rfl
theorem Fb(w:J)(x y:Int)(t:ad):Sem.run aj (Instr.buildSlice 326 2 #[(0,.agg #[(),x]),(1,.agg #[t,y])]) w=
 .ok (.slice (some w.heap.size) 2 2) (w.alloc (.cells #[(),x,t,y] 334)):=by kernel_rfl
theorem cr.vw{n:aB}(h:cr n)(h1:1<=b3 n)(d:if n.leaf then b3 n<=n.keys.length-1/\1<=n.keys.length-1 else b3 n<=n.keys.length-2/\1<=n.keys.length-2):cr (n.left (b3 n))/\cr (n.right (b3 n)):=by
 rcases h with h|h
 .have a:=h.leaf
  rw[if_pos a]at d;unfold aB.left aB.right;rw[if_pos a,if_pos a];have hlen:=h.len;refine⟨.inl ⟨⟨λk b=>h.ok k (eQ b),h.e9.sublist (List.take_sublist _ _)⟩,rfl,?_,rfl,λv c=>h.vals v (eQ c)⟩,.inl ⟨⟨λk b=>h.ok k (eP b),h.e9.sublist (List.drop_sublist _ _)⟩,rfl,?_,rfl,λv c=>h.vals v (eP c)⟩⟩
  .simp only[cK];omega
  .simp only[dc];omega
 .have a:=h.inner
  rw[if_neg (by rw[a];simp)]at d;unfold aB.left aB.right;rw[if_neg (by rw[a];simp),if_neg (by rw[a];simp)];have hlen:=h.len;refine⟨.inr ⟨⟨λk b=>h.ok k (eQ b),h.e9.sublist (List.take_sublist _ _)⟩,rfl,?_,?_,rfl,λv c=>h.kids v (eQ c)⟩,.inr ⟨⟨λk b=>h.ok k (eP b),h.e9.sublist (List.drop_sublist _ _)⟩,rfl,?_,?_,rfl,λv c=>h.kids v (eP c)⟩⟩
  .intro e
   have:=congrArg List.length e;simp only[cK,ll]at this;omega
  .simp only[cK];omega
  .intro e
   have:=congrArg List.length e;simp only[dc,ll]at this;omega
  .simp only[dc];omega
def j7(B:Nat->Prop)(w:J)(s:ad)(ks:O Key)(kids:O Nat):Prop:=
 (∃b x,s=⟨some ⟨b,0,none⟩,1,1⟩/\ks=[]/\kids=[x]/\Var w b [.slice none 0 0,.int .i64 (x:Nat)] 334/\B b)\/
 (∃b x y k t,s=⟨some ⟨b,0,none⟩,2,2⟩/\ks=[k]/\kids=[x,y]/\Var w b [.slice none 0 0,.int .i64 (x:Nat),.slice t.a t.len t.cap,.int .i64 (y:Nat)] 334/\B b/\bn B w t k/\k≠ [])
def gQ(T:aP)(c:dh)(n:aB)(w:J)(v:Y)(w':J):Prop:=
 ∃ (ax:aP) (c':dh) (m:O Nat) (s:ad),c5 w' ax c'/\c6 T ax c c' m [] w w' 2/\m.length<=2/\
  ((∃ks,v=.tuple #[s,(0:Int)]/\kY ax.P n ks m/\j7 (λq=>¬ax.M q) w' s ks m)\/(v=.tuple #[s,(3:Int)]/\¬T.C.D.calm 2))
theorem Am{B:Nat->Prop}{w:J}{T:aP}{c:dh}{n:aB}{K V D:ad}(h:c5 w T c)(m:T.C.D.aQ<=900000100)(o:1<=cj T)(p:c.made.length<=1000)(q:bt B w n K V D)(hs:cr n)(g:br n<=232):
 aL aj 251 #[.pointer (some ⟨c.cb,0,none⟩),c0 n K V D] w (gQ T c n w):=by
 refine okF (ah.sZ (some ⟨c.cb,0,none⟩) n.leaf K V D) az.sZ func251 ?_;(delta ah.sZ aW aa r1 ic;dsimp only);refine bd (vs:=[.bool n.leaf,.slice K.a K.len K.cap,.slice V.a V.len V.cap,.slice D.a D.len D.cap]) rfl λw1 r f A=>?_;obtain⟨bQ,aT,a8,bc⟩:=bC r;refine⟨_,bQ,K,aT,V,a8,D,bc,(tQ (h.ext f) m o p (q.ext f) hs g).use ?_⟩;rintro _ b ⟨no,ax,c',i,s,u⟩;have j:∀ (e:Int),((e=0/\ax.P no=some n)\/(e=3/\¬T.C.D.calm 1))->∃ (d:ad) (k:J),Sem.run aj (Instr.buildSlice 326 1 #[(0,.agg #[.slice none 0 0,.int .i64 (no:Nat)])]) b=.ok (.slice d.a d.len d.cap) k/\gQ T c n w (.tuple #[.slice d.a d.len d.cap,.int .i64 e]) k:=by
  intro e he;refine⟨⟨some ⟨b.heap.size,0,none⟩,1,1⟩,_,Fa b _,?_⟩;have l:=dD b (.cells #[.slice none 0 0,.int .i64 (no:Nat)] 334);have v:c6 T ax c c' [no] [] w (b.alloc (.cells #[.slice none 0 0,.int .i64 (no:Nat)] 334)) 2:=(((c6.ext T c f).trans s).trans (c6.ext ax c' l)).mono I;refine⟨ax,c',[no],⟨some ⟨b.heap.size,0,none⟩,1,1⟩,i.ext l,v,by simp,?_⟩;rcases he with ⟨rfl,he⟩|⟨rfl,he⟩
  .refine .inl ⟨[],rfl,.inl ⟨g,no,rfl,rfl,he⟩,.inl ⟨_,no,rfl,rfl,rfl,Var.new b [.slice none 0 0,.int .i64 (no:Nat)] 334,λx=>?_⟩⟩
   have:=i.t.lt x;omega
  .exact .inr ⟨rfl,λhc=>he (gp hc I)⟩
 rcases u with ⟨rfl,y⟩|⟨rfl,z⟩
 .exact⟨_,0,rfl,j 0 (.inl ⟨rfl,y⟩)⟩
 .exact⟨_,3,rfl,j 3 (.inr ⟨rfl,z⟩)⟩
theorem fO{b:al}{K V D:ad}:∀v∈ [.bool b,.slice K.a K.len K.cap,.slice V.a V.len V.cap,.slice D.a D.len D.cap],Plain v:=by
 intro v c;simp only[c7,ff,fp]at c;rcases c with rfl|rfl|rfl|rfl<;>trivial
theorem Fc{B:Nat->Prop}{w:J}{T:aP}{c:dh}{n:aB}{K V D:ad}(h:c5 w T c)(a0:T.C.D.aQ<=900000090)(a1:2<=cj T)(a2:c.made.length<=900)(ai:bt B w n K V D)(hs:cr n)(ak:232<br n)(a3:br n<=400)(h1:1<=b3 n)
 (o:if n.leaf then b3 n<=n.keys.length-1/\1<=n.keys.length-1 else b3 n<=n.keys.length-2/\1<=n.keys.length-2) (al:br (n.left (b3 n))<=232) (am:br (n.right (b3 n))<=232):
 aL aj 294 #[.pointer (some ⟨c.cb,0,none⟩),c0 n K V D] w (gQ T c n w):=by
 obtain⟨sl,an⟩:=hs.vw h1 o;have a4:=hs.fw I;have b:b3 n<n.keys.length:=by
  split at o<;>omega
 refine okF (ah.s9 (some ⟨c.cb,0,none⟩) n.leaf K V D) az.s9 func294 ?_;(delta ah.s9 aW aa r1 yu z4 ao ic;dsimp only);refine bd (vs:=[.bool n.leaf,.slice K.a K.len K.cap,.slice V.a V.len V.cap,.slice D.a D.len D.cap]) rfl λw1 ap G a5=>?_;obtain⟨bQ,aT,a8,bc⟩:=bC ap;refine⟨_,bQ,K,aT,V,a8,D,bc,(ox (ai.ext G) hs I h1 o).use ?_⟩;rintro _ aq ⟨cW,c9,a7,cq,cx,cg,t,rfl,ar,au,ht,av⟩;refine⟨_,cW,c9,a7,t,_,cq,cx,cg,true,rfl,bd (vs:=[.bool false,.slice none 0 0,.slice none 0 0,.slice none 0 0]) rfl λa6 aw ax a9=>bd (vs:=[.bool false,.slice none 0 0,.slice none 0 0,.slice none 0 0]) rfl λa_ ay H ba=>?_⟩;have L:=aw.ext H;refine⟨L.bU rfl fO,rfl,cl L (us:=[.bool (n.left (b3 n)).leaf,.slice cW.a cW.len cW.cap,.slice c9.a c9.len c9.cap,.slice a7.a a7.len a7.cap]) rfl rfl λbb aA O be=>?_⟩;have Q:=ay.af O I;refine⟨Q.bU rfl fO,rfl,cl Q (us:=[.bool (n.right (b3 n)).leaf,.slice cq.a cq.len cq.cap,.slice cx.a cx.len cx.cap,.slice cg.a cg.len cg.cap]) rfl rfl λp aC R bf=>⟨λb=>(by cases b),λ_=>?_⟩⟩;have aD:=aA.af R I;have S:=G.trans av;have l:Ext aq p:=Ext.cC (Ext.cC (ax.trans H) O I) R I;have r:=S.trans l;have bg:=S.size;have bh:=l.size;obtain⟨d0,d1,d2,d3⟩:=bC aD;refine⟨_,d0,cW,d1,c9,d2,a7,d3,(tQ (h.ext r) I I I (ar.ext l) sl al).use ?_⟩;rintro _ aE ⟨x,bR,U,s,d,aF⟩;have u:∀q,T.N q->q<w.heap.size:=λq g=>h.t.lt (aP.hC g);have bi:=d.to.af.size;rcases aF with ⟨rfl,W⟩|⟨rfl,v⟩
 .have aG:=aC.af d.to.af λg=>by have:=u _ g;omega
  obtain⟨d0,d1,d2,d3⟩:=bC aG;have aH:bt (λq=>w1.heap.size<=q) aE (n.right (b3 n)) cq cx cg:=(au.ext l).af d.to.af λq g z=>by have:=u _ z;omega
  have aI:bR.C.D.aQ<=900000100:=ei d.to.aQ (by clear s d W;omega);have aJ:=d.room;have bj:U.made.length=c.made.length+1:=by rw[d.made,cM];rfl
  simp only[h6]at aJ;have X:=tQ s aI I I aH an am;rw[d.cb]at X;refine⟨x,0,rfl,λb=>(by cases b),λ_=>⟨_,d0,cq,d1,cx,d2,cg,d3,X.use ?_⟩⟩;rintro _ i ⟨y,bZ,Y,Z,m,aK⟩;have bk:=m.to.af.size;have aM:=((c6.ext T c r).trans d).trans m;have aN:n.keys.getD (b3 n) []=n.keys[b3 n]:=by rw[fI,dI b];rfl
  have aO:=ht.ext l;have aR:bn (λq=>¬bZ.M q) i t n.keys[b3 n]:=by
   rw[←aN];have aS:bn (λq=>q<p.heap.size/\w1.heap.size<=q) p t (n.keys.getD (b3 n) []):=bn.aY aO λq g b=>⟨g,b⟩;have ab:=(d.trans m).to;refine bn.aY (bn.af aS ab.af λq g z=>by have:=u _ z;omega) λq _ b A=>?_;rcases ab.db q A with ac|ac
   .have:=h.t.lt ac;omega
   .omega
  have aU:n.keys[b3 n]≠ []:=by
   have aV:cR n.keys[b3 n]:=by
    rcases hs with hs|hs
    .exact hs.ok _ (cI b)
    .exact hs.ok _ (cI b)
   intro e;have:=aV.1;rw[e]at this;simp at this
  have E:=dD i (.cells #[.slice none 0 0,.int .i64 (x:Nat),.slice t.a t.len t.cap,.int .i64 (y:Nat)] 334);have F:=(aM.trans (c6.ext bZ Y E)).mono (j:=2) I;have ae:∀ (e:Int),((e=0/\bZ.P y=some (n.right (b3 n)))\/(e=3/\¬bR.C.D.calm 1))->∃ (k:ad) (ag:J),Sem.run aj (Instr.buildSlice 326 2 #[(0,.agg #[.slice none 0 0,.int .i64 (x:Nat)]),(1,.agg #[.slice t.a t.len t.cap,.int .i64 (y:Nat)])]) i=.ok (.slice k.a k.len k.cap) ag/\
   gQ T c n w (.tuple #[.slice k.a k.len k.cap,.int .i64 e]) ag:=by
   intro e he;refine⟨⟨some ⟨i.heap.size,0,none⟩,2,2⟩,_,Fb i _ _ t,bZ,Y,[x,y],⟨some ⟨i.heap.size,0,none⟩,2,2⟩,Z.ext E,F,by simp,?_⟩;rcases he with ⟨rfl,he⟩|⟨rfl,he⟩
   .have aX:bZ.P x=some (n.left (b3 n)):=by
     rw[(m.ee x (by rw[d.f];simp)).1,W]
    refine .inl ⟨[n.keys[b3 n]],rfl,.inr ⟨ak,x,y,b,rfl,rfl,aX,he⟩,.inr ⟨_,x,y,_,t,rfl,rfl,rfl,Var.new i [.slice none 0 0,.int .i64 (x:Nat),.slice t.a t.len t.cap,.int .i64 (y:Nat)] 334,λA=>?_,bn.ext aR E,aU⟩⟩;have:=Z.t.lt A;omega
   .exact .inr ⟨rfl,λhc=>he (d.to.calm 1 (gp hc I))⟩
  rcases aK with ⟨rfl,aZ⟩|⟨rfl,v⟩
  .exact⟨_,0,rfl,ae 0 (.inl ⟨rfl,aZ⟩)⟩
  .exact⟨_,3,rfl,ae 3 (.inr ⟨rfl,v⟩)⟩
 .have F:=((c6.ext T c r).trans d).mono (j:=2) I
  exact⟨_,3,rfl,λ_=>⟨bR,U,[x],bN,s,F,by simp,.inr ⟨rfl,λhc=>v (gp hc I)⟩⟩,λb=>(by cases b)⟩
theorem tR{B:Nat->Prop}{w:J}{T:aP}{c:dh}{n:aB}{K V D:ad}(h:c5 w T c)(u:T.C.D.aQ<=900000090)(x:2<=cj T)(y:c.made.length<=900)(f:bt B w n K V D)(hs:cr n)(z:br n<=400)
 (A:232<br n->1<=b3 n/\(if n.leaf then b3 n<=n.keys.length-1/\1<=n.keys.length-1 else b3 n<=n.keys.length-2/\1<=n.keys.length-2)/\br (n.left (b3 n))<=232/\br (n.right (b3 n))<=232):
 aL aj 281 #[.pointer (some c.cb),c0 n K V D] w (gQ T c n w):=by
 have F:=hs.fw I;refine okF (ah.s6 (some c.cb) n.leaf K V D) az.s6 func281 ?_;(delta ah.s6 aW aa r1 b7 ao eR;dsimp only);refine bd (vs:=[n.leaf,K,V,D]) rfl λw1 p q G=>?_;obtain⟨bQ,aT,a8,bc⟩:=bC p;refine⟨_,bQ,K,aT,V,a8,D,bc,(mV (f.ext q) hs I).use ?_⟩;rintro _ E ⟨rfl,r⟩;have a:=q.trans r;obtain⟨d0,d1,d2,d3⟩:=bC (p.ext r);have fin:∀ (v:Y) (w':J),gQ T c n E v w'->∃s:ad,∃e:Int,v=.tuple #[s,e]/\gQ T c n w (.tuple #[s,e]) w':=by
  rintro v w' ⟨ax,c',m,s,av,i,d,k⟩;have t:=((c6.ext T c a).trans i).mono (j:=2) I;rcases k with ⟨ks,rfl,l⟩|⟨rfl,l⟩
  .exact⟨s,0,rfl,ax,c',m,s,av,t,d,.inl ⟨ks,rfl,l⟩⟩
  .exact⟨s,3,rfl,ax,c',m,s,av,t,d,.inr ⟨rfl,l⟩⟩
 refine⟨_,rfl,λb=>⟨_,d0,K,d1,V,d2,D,d3,?_⟩,λb=>⟨_,d0,K,d1,V,d2,D,d3,?_⟩⟩
 .have b:((br n:Nat):Int)>232:=cu b
  obtain⟨av,i,d,k⟩:=A I;refine(Fc (h.ext a) u x y (f.ext a) hs I z av i d k).use ?_;rintro v w' o;obtain⟨s,e,rfl,g⟩:=fin v w' o;exact⟨s,e,rfl,g⟩
 .have b:¬((br n:Nat):Int)>232:=cQ b
  refine(Am (h.ext a) I I I (f.ext a) hs I).use ?_;rintro v w' o;obtain⟨s,e,rfl,g⟩:=fin v w' o;exact⟨s,e,rfl,g⟩
theorem An{B:Nat->Prop}{w:J}{s:ad}{ls:O Key}(h:a_ B w s ls)(t:ls.length<=100000):
 aL aj 284 #[s] w (λv w'=>∃b:ad,v=b/\bk (λq=>(B q/\q<w.heap.size)\/(w.heap.size<=q/\aC b q)) w' b ls/\Ext w w'/\ga w b):=by
 have u:=a_.len h;obtain⟨ts,av,j,x,y,n⟩:=h;refine okF (ah.r9 s) az.r9 func284 ?_;delta ah.r9 ao aa;refine⟨λd=>?_,λ_=>?_⟩
 .have d:s.a=none:=by simpa using d
  have h0:=j.nil d;have:ls=[]:=List.eq_nil_of_length_eq_zero (by rw[←av];have:=congrArg List.length h0;simpa using this);subst this;exact⟨⟨none,0,0⟩,rfl,bk.none _ _,.refl _ _,λk e=>(hN k e).elim⟩
 .obtain⟨b,w',h1,l,z,m,f,_⟩:=qn.clone (dK:=127) j (vM ts) I
  refine aX ⟨b,w',h1,b,rfl,⟨ts,av,l,λq c=>⟨.inr ⟨f q c,c⟩,l.lt q c⟩,λi o p=>?_⟩,m,f⟩;have a:=n i o p;exact⟨bn.aY (bn.ext (bn.aY (C:=λq=>B q/\q<w.heap.size) a λq c g=>⟨g,c⟩) m) λq _ g=>.inl g,λk e r=>by have:=f k r;have:=(a.2.2 k e).2;omega⟩
theorem j7.at{B:Nat->Prop}{w:J}{s:ad}{ks:O Key}{kids:O Nat}(h:j7 B w s ks kids):s.len=kids.length/\kids.length=ks.length+1/\kids.length<=2/\∀ (j:Nat) (d:j<kids.length),∃ (A:ag) (t:ad),s.a=some A/\w.cell? (A.add (j*2))=some (.slice t.a t.len t.cap)/\w.cell? ((A.add (j*2)).add 1)=some (.int .i64 ((kids[j]:Nat):Int))/\
 ((t.a=none/\ks.take j=ks.take (j-1))\/(t.a.isSome=true/\∃k,bn B w t k/\ks.take j=ks.take (j-1)++ [k])):=by
 rcases h with ⟨b,x,rfl,rfl,rfl,c,e⟩|⟨b,x,y,k,t,rfl,rfl,rfl,c,e,ht,f⟩
 .refine⟨rfl,rfl,by simp,λj d=>?_⟩
  have:j=0:=by simp at d;omega
  subst this;exact⟨_,⟨none,0,0⟩,rfl,by rw[ay];exact c.cell,by rw[ay,ay];exact c.cell,.inl ⟨rfl,rfl⟩⟩
 .refine⟨rfl,rfl,by simp,λj d=>?_⟩
  rcases ed j 1 with h1|h1
  .have:j=0:=by omega
   subst this;exact⟨_,⟨none,0,0⟩,rfl,by rw[ay];exact c.cell,by rw[ay,ay];exact c.cell,.inl ⟨rfl,rfl⟩⟩
  .have:j=1:=by simp at d;omega
   subst this;obtain⟨A,aq⟩:=bn.some ht f;exact⟨_,t,rfl,by rw[ay];exact c.cell,by rw[ay,ay];exact c.cell,.inr ⟨by rw[aq];rfl,k,ht,rfl⟩⟩
theorem j7.ext{B:Nat->Prop}{w w':J}{s:ad}{ks:O Key}{kids:O Nat}(h:j7 B w s ks kids)(hx:Ext w w'):j7 B w' s ks kids:=by
 rcases h with ⟨b,x,h1,a,c,d,e⟩|⟨b,x,y,k,t,h1,a,c,d,e,ht,f⟩
 .exact .inl ⟨b,x,h1,a,c,d.ext hx,e⟩
 .exact .inr ⟨b,x,y,k,t,h1,a,c,d.ext hx,e,bn.ext ht hx,f⟩
theorem Fe{w:J}{a o:Nat}{vs:O Y}{S t:ad}{ls:O Key}{l:Key}{B:Nat->Prop}{T:TypeId}(f:Var w a vs T)(p:o<vs.length)(g:bk B w S ls)(i:¬B a)
 (ht:bn B w t l) (hd:∀k,aC t k->¬aC S k) (G:ls.length<=100000) {K:J->Prop}
 (r:∀ (w':J) (aE:ad),Var w' a (vs.set o aE) T->bk (Grow B w w') w' aE (ls++ [l])->ae (λq=>q=a\/aC S q) w w'->(∀k,aC aE k->aC S k\/w.heap.size<=k)->K w'):
 an (w.alloc (.cells #[t] 48)) λs=>∃j:ad,∃c:J,Sem.run aj (Builtin.append_ #[127,127] 127 #[S,.slice (some w.heap.size) 1 1]) s=.ok j c/\
  (∃u:Y,c.cell? (Addr.add a o)=some u)/\c.frozen? (Addr.add a o)=false/\an (c.setCell (Addr.add a o) j) λv=>K v:=by
 have x:=bk.aY (C:=λq=>B q\/w.heap.size<=q) g λk _ h=>.inl h;have y:=bn.aY (C:=λq=>B q\/w.heap.size<=q) ht λk _ h=>.inl h;obtain⟨d,w',av,z,m,A⟩:=y7 x y hd I λk b=>.inr b;have H:=f.lt;have D:¬aC S a:=λh=>by
  obtain⟨ts,_,_,E,_⟩:=g;exact i (E a h).1
 have n:=f.af m D;obtain⟨aT,a8⟩:=er n p;refine aX ⟨d,w',av,?_⟩;rw[ay,cU];have hc:=dL w' a o d;refine⟨aT,a8,aX (r _ d (ep n _) ?_ ?_ A)⟩
 .have F:=bk.aY (C:=Grow B w (w'.setCell ⟨a,o,none⟩ d)) z λk b h=>by
   rcases h with h|h
   .exact .inl h
   .exact .inr ⟨h,fm b hc.size⟩
  refine bk.af F hc λk b e=>?_;subst e;rcases b with h|h
  .exact i h
  .omega
 .exact(m.mono λk _ b=>.inr b).trans (hc.mono λk _ b=>.inl b)
def tS(B:Nat->Prop)(n:aB)(fr to:Nat)(ks:O Key)(kids:O Nat)(w:J)(v:Y)(w':J):Prop:=
 ∃K V D:ad,v=c0 (fi n fr to ks kids) K V D/\bt (λq=>B q\/w.heap.size<=q) w' (fi n fr to ks kids) K V D/\Ext w w'
def wD(H aG e:Nat)(l:ad)(to:Int)(b6:J)(Q:Y->J->Prop):Prop:=
 ∃ (C:Int->J->Prop) (I:Int->J->Nat),C 0 b6/\∀ (n19:Int) (b:J),C n19 b->((decide ((n19:Int)<(l.len:Int)))=true->∃D:ag,l.a=some D/\((0:Int)<=n19/\n19<(l.len:Int))/\∃h:ad,b.cell? (D.add (Int.toNat n19*2))=some (.slice h.a h.len h.cap)/\∃n23:Int,b.cell? ((D.add (Int.toNat n19*2)).add 1)=some (.int .i64 n23)/\an (b.alloc (.cells #[(),(0:Int)] 334)) λK=>bh K b.heap.size [h,n23]/\(2:Nat)=2/\an (setCells K b.heap.size 0 [h,n23]) λf=>b1 (λL:J->Prop=>∃i:ad,f.cell? b.heap.size=some (.slice i.a i.len i.cap)/\((!(Option.isNone i.a))=true->∃o:ad,f.cell? (Addr.add aG 1)=some (.slice o.a o.len o.cap)/\∃p:ad,f.cell? b.heap.size=some (.slice p.a p.len p.cap)/\an (f.alloc (.cells #[p] 48)) λT=>∃M:ad,∃q:J,Sem.run aj (Builtin.append_ #[127,127] 127 #[o,.slice (some f.heap.size) 1 1]) T=.ok M q/\(∃u:Y,q.cell? (Addr.add aG 1)=some u)/\q.frozen? (Addr.add aG 1)=false/\an (q.setCell (Addr.add aG 1) M) λU=>L U)/\((!(Option.isNone i.a))=false->L f)) (λ(r:J)=>∃s:ad,r.cell? (Addr.add aG 3)=some (.slice s.a s.len s.cap)/\∃n36:Int,r.cell? (Addr.add b.heap.size 1)=some (.int .i64 n36)/\an (r.alloc (.cells #[n36] 3)) λV=>∃N:ad,∃t:J,Sem.run aj (Builtin.append_ #[58,58] 58 #[s,.slice (some r.heap.size) 1 1]) V=.ok N t/\(∃u:Y,t.cell? (Addr.add aG 3)=some u)/\t.frozen? (Addr.add aG 3)=false/\an (t.setCell (Addr.add aG 3) N) λO=>C (IntKind.wrap .i64 (n19+1)) O/\I (IntKind.wrap .i64 (n19+1)) O<I n19 b))/\((decide ((n19:Int)<(l.len:Int)))=false->an (b.drew) λE=>¬False/\∃v:ad,E.cell? (Addr.add aG 1)=some (.slice v.a v.len v.cap)/\¬False/\∃c:ad,E.cell? (Addr.add H 1)=some (.slice c.a c.len c.cap)/\((0:Int)<=(IntKind.wrap .i64 (to-1))/\(IntKind.wrap .i64 (to-1))<=(c.len:Int))/\∃P:ad,∃w:J,Sem.run aj (Builtin.append_ #[127,127] 127 #[v,.slice (aJ c.a 1 (Int.toNat (IntKind.wrap .i64 (to-1))) c.cap) (c.len-(Int.toNat (IntKind.wrap .i64 (to-1)))) (c.cap-(Int.toNat (IntKind.wrap .i64 (to-1))))]) E=.ok P w/\(∃u:Y,w.cell? (Addr.add aG 1)=some u)/\w.frozen? (Addr.add aG 1)=false/\an (w.setCell (Addr.add aG 1) P) λW=>an (W.drew) λF=>¬False/\∃x:ad,F.cell? (Addr.add aG 3)=some (.slice x.a x.len x.cap)/\¬False/\∃d:ad,F.cell? (Addr.add H 3)=some (.slice d.a d.len d.cap)/\((0:Int)<=to/\to<=(d.len:Int))/\∃R:ad,∃y:J,Sem.run aj (Builtin.append_ #[58,58] 58 #[x,.slice (aJ d.a 1 (Int.toNat to) d.cap) (d.len-(Int.toNat to)) (d.cap-(Int.toNat to))]) F=.ok R y/\(∃u:Y,y.cell? (Addr.add aG 3)=some u)/\y.frozen? (Addr.add aG 3)=false/\an (y.setCell (Addr.add aG 3) R) λg=>∃G:al,g.cell? aG=some (.bool G)/\∃j:ad,g.cell? (Addr.add aG 1)=some (.slice j.a j.len j.cap)/\∃k:ad,g.cell? (Addr.add aG 2)=some (.slice k.a k.len k.cap)/\∃m:ad,g.cell? (Addr.add aG 3)=some (.slice m.a m.len m.cap)/\bh g e [G,j,k,m]/\(4:Nat)=4/\an (setCells g e 0 [G,j,k,m]) λn=>∃S:al,n.cell? e=some (.bool S)/\∃z:ad,n.cell? (Addr.add e 1)=some (.slice z.a z.len z.cap)/\∃A:ad,n.cell? (Addr.add e 2)=some (.slice A.a A.len A.cap)/\∃B:ad,n.cell? (Addr.add e 3)=some (.slice B.a B.len B.cap)/\Q (.agg #[S,z,A,B]) n)
structure oW(B:Nat->Prop)(lo:Nat)(a aG b:Nat)(n:aB)(K V D:ad)(e:O Y)(w:J)(c aw:ad)(bD bu:Nat->Prop)(ks:O Key)(ds:O Nat):Prop where
 eE:Var w a [n.leaf,K,V,D] 202
 r:Var w b e 202
 o:Var w aG [false,c,(),aw] 202
 k:bk bD w c ks
 d:cG bu w aw ds
 ba:∀q,bD q->(B q/\q<lo)\/(lo<=q/\q<w.heap.size/\q≠a/\q≠aG/\q≠b/\¬bu q)
 aK:∀q,bu q->lo<=q/\q<w.heap.size/\q≠a/\q≠aG/\q≠b
 k4:∀q,aC c q->lo<=q
theorem oW.ext{B:Nat->Prop}{lo b aG c:Nat}{n:aB}{K V D:ad}{e:O Y}{w w':J}{f aw:ad}{bD bu:Nat->Prop}{ks:O Key}{ds:O Nat}(h:oW B lo b aG c n K V D e w f aw bD bu ks ds)(hx:Ext w w'):oW B lo b aG c n K V D e w' f aw bD bu ks ds:=by
 have g:=hx.size;exact⟨h.eE.ext hx,h.r.ext hx,h.o.ext hx,bk.ext h.k hx,cG.ext h.d hx,λq a=>(h.ba q a).imp id λh=>⟨h.1,I,h.2.2⟩,λq a=>⟨(h.aK q a).1,by have:=(h.aK q a).2.1;omega,(h.aK q a).2.2⟩,h.k4⟩
theorem Ff{B:Nat->Prop}{w b6:J}{x aG y:Nat}{n:aB}{K V D s dC D0:ad}{am:O Y}{bD bu:Nat->Prop}{ks:O Key}{kids:O Nat}{fr to:Nat}(bi:oW B w.heap.size x aG y n K V D am b6 dC D0 bD bu (n.keys.take fr) (n.kids.take fr))(bm:Ext w b6)
 (bp:bt B w n K V D) (aQ:j7 B w s ks kids) (bq:am.length=4) (h1:w.heap.size<=x) (T:w.heap.size<=aG) (H:w.heap.size<=y) (L:x≠aG/\x≠y/\aG≠y) (t1:1<=to) (t2:to<=n.kids.length) (t3:to-1<=n.keys.length) (bL:n.keys.length<=1000) (bx:n.kids.length<=1000):
 wD x aG y s (to:Nat) b6 (tS B n fr to ks kids w):=by
 obtain⟨bo,bj,b3,br⟩:=aQ.at;unfold wD;refine⟨λi w'=>∃ (j:Nat) (C aw:ad) (bD bu:Nat->Prop),i=j/\j<=kids.length/\Ext w w'/\oW B w.heap.size x aG y n K V D am w' C aw bD bu (n.keys.take fr++ks.take (j-1)) (n.kids.take fr++kids.take j),λi _=>((kids.length:Int)-i).toNat,⟨0,dC,D0,bD,bu,rfl,cX _,bm,by simpa using bi⟩,?_⟩;rintro _ u ⟨j,C,aw,bD,bu,rfl,b4,z,h⟩;have b5:=z.size;refine⟨λaI=>?_,λaz=>?_⟩
 .have aI:j<kids.length:=by
   have:(j:Int)<(s.len:Int):=cu aI;omega
  obtain⟨A,t,aq,aT,a8,aA⟩:=(aQ.ext z).at.2.2.2 j aI;refine⟨A,aq,⟨I,I⟩,t,by rw[dO];exact aT,_,by rw[dO];exact a8,?_⟩;have aA:(t.a=none/\ks.take j=ks.take (j-1))\/(t.a.isSome=true/\∃k,bn (λq=>B q/\q<w.heap.size) u t k/\ks.take j=ks.take (j-1)++ [k]):=by
   obtain⟨b7,aR,aS,bs,_,bv⟩:=br j aI;rw[aq]at aS;cases aS;have e:=ae.cell z (λh=>h) bs;rw[aT]at e;injection e with e
   obtain rfl:t=aR:=by
    cases t;cases aR;simp at e;simp[e]
   rcases bv with h|⟨h1,k,T,H⟩
   .exact .inl h
   .exact .inr ⟨h1,k,bn.ext (bn.aY T λq c f=>⟨f,c⟩) z,H⟩
  refine bd (vs:=[(),(0:Int)]) rfl λb8 aU bw b9=>?_;refine⟨aU.bU rfl ?_,rfl,cl aU (us:=[t,.int .i64 ((kids[j]:Nat):Int)]) rfl rfl λaD U bA b_=>?_⟩
  .intro v aV
   simp only[c7,ff,fp]at aV;rcases aV with rfl|rfl<;>trivial
  have an:Ext u aD:=Ext.cC bw bA (bl _);have m:=h.ext an;have ca:=an.size;have aW:=z.trans an;obtain⟨eG,bB⟩:∃eG,eG=u.heap.size:=⟨_,rfl⟩;rw[←bB]at U⊢;have cb:=U.lt;refine kh (λX=>∃ (cq:ad) (ao:Nat->Prop),oW B w.heap.size x aG y n K V D am X cq aw ao bu (n.keys.take fr++ks.take j) (n.kids.take fr++kids.take j)/\Ext w X/\Var X eG [t,.int .i64 ((kids[j]:Nat):Int)] 334/\aD.heap.size<=X.heap.size) (λq c=>⟨t,U.cell,λf=>?_,λf=>?_⟩) ?_
  .rcases aA with ⟨ap,_⟩|⟨_,k,ht,ac⟩
   .rw[ap]at f;cases f
   obtain⟨ag,M,ah,N⟩:=bC (V:=⟨none,0,0⟩) m.o;have ar:∀q,aC C q->bD q:=λq c=>by
    obtain⟨ts,_,_,H,_⟩:=m.k;exact(H q c).1
   refine⟨C,M,t,U.cell,Fe (B:=λq=>bD q\/(B q/\q<w.heap.size)) m.o (o:=1) (by simp) (bk.aY m.k λq _ f=>.inl f) (λf=>?_) (bn.aY (bn.ext ht an) λq _ f=>.inr f) (λq c aF=>?_) ?_ λw' aE av aH p bE=>c _ ⟨aE,Grow (λq=>bD q\/(B q/\q<w.heap.size)) aD w',?_,?_,?_,p.size⟩⟩
   .rcases f with f|f
    .rcases m.ba _ f with g|g
     .omega
     .exact g.2.2.2.1 rfl
    .omega
   .have:=(ht.2.2 q c).1.2
    have:=m.k4 q aF;omega
   .rw[cM,cK,cK];omega
   .have bF:=p.size
    have E:∀q,aC C q->q<u.heap.size/\q≠x/\q≠aG/\q≠y/\¬bu q:=λq c=>by
     have bG:=h.k4 q c;rcases h.ba q (ar q c) with g|g
     .omega
     .exact g.2
    refine⟨m.eE.af p λc=>?_,m.r.af p λc=>?_,av,?_,cG.af m.d p λq f c=>?_,λq f=>?_,λq f=>⟨(m.aK q f).1,by have:=(m.aK q f).2.1;omega,(m.aK q f).2.2⟩,λq c=>?_⟩
    .rcases c with e|c
     .exact L.1 e
     .exact(E _ c).2.1 rfl
    .rcases c with e|c
     .exact L.2.2 e.symm
     .exact(E _ c).2.2.2.1 rfl
    .rw[ac,←cY];exact aH
    .rcases c with e|c
     .exact(m.aK q f).2.2.2.1 e
     .exact(E q c).2.2.2.2 f
    .rcases f with (f|f)|f
     .exact(m.ba q f).imp id λg=>⟨g.1,I,g.2.2⟩
     .exact .inl f
     .refine .inr ⟨I,f.2,λe=>?_,λe=>?_,λe=>?_,λhd=>?_⟩
      .have:=m.eE.lt;omega
      .have:=m.o.lt;omega
      .have:=m.r.lt;omega
      .have:=(m.aK q hd).2.1;omega
    .rcases bE q c with g|g
     .exact h.k4 q g
     .omega
   .exact Ext.dj aW p λq c=>by
     rcases c with rfl|c
     .exact T
     .exact m.k4 q c
   .refine U.af p λc=>?_
    rcases c with e|c
    .have:=h.o.lt;omega
    .rcases h.ba _ (ar _ c) with g|g<;>omega
  .rcases aA with ⟨_,ac⟩|⟨ap,_⟩
   .refine c _ ⟨C,bD,?_,aW,U,bl _⟩
    rw[ac];exact m
   .cases aZ:t.a with
    |none=>rw[aZ]at ap;cases ap
    |some A=>rw[aZ]at f;cases f
  rintro X ⟨cq,ao,l,a0,a1,cc⟩;have cd:=a1.lt;obtain⟨ag,M,ah,N⟩:=bC (V:=⟨none,0,0⟩) l.o;have F:∀q,aC aw q->bu q:=λq c=>(l.d.2 q c).1;have bH:∀q,ao q->¬(q=aG\/aC aw q):=λq f c=>by
   rcases l.ba q f with g|g
   .rcases c with e|c
    .omega
    .have:=(l.aK q (F q c)).1;omega
   .rcases c with e|c
    .exact g.2.2.2.1 e
    .exact g.2.2.2.2.2 (F q c)
  have a2:IntKind.wrap .i64 ((j:Int)+1)=((j+1:Nat):Int):=by rw[bz I I];rfl
  refine⟨aw,N,_,by rw[ay];exact a1.cell,(zj (W:=λ_=>True) kids[j] l.o (o:=3) (by simp) l.d (λf=>(l.aK _ f).2.2.2.1 rfl) (by rw[cM,cK,cK];omega) λw' aE av aH p=>⟨⟨j+1,cq,aE,ao,Grow bu X w',a2,I,?_,?_⟩,?_⟩).2⟩
  .exact Ext.dj a0 p λq c=>by
    rcases c with rfl|c
    .exact T
    .exact(l.aK q (F q c)).1
  .have bF:=p.size
   refine⟨l.eE.af p λc=>?_,l.r.af p λc=>?_,av,?_,?_,λq f=>?_,λq f=>?_,l.k4⟩
   .rcases c with e|c
    .exact L.1 e
    .exact(l.aK _ (F _ c)).2.2.1 rfl
   .rcases c with e|c
    .exact L.2.2 e.symm
    .exact(l.aK _ (F _ c)).2.2.2.2 rfl
   .exact bk.af l.k p bH
   .rw[j_ aI,←cY];exact aH
   .refine(l.ba q f).imp id λg=>⟨g.1,I,g.2.2.1,g.2.2.2.1,g.2.2.2.2.1,λhd=>?_⟩
    rcases hd with hd|hd
    .exact g.2.2.2.2.2 hd
    .omega
   .rcases f with f|f
    .exact⟨(l.aK q f).1,by have:=(l.aK q f).2.1;omega,(l.aK q f).2.2⟩
    .refine⟨by have:=a0.size;omega,f.2,λe=>?_,λe=>?_,λe=>?_⟩
     .have:=l.eE.lt;omega
     .have:=l.o.lt;omega
     .have:=l.r.lt;omega
  .rw[a2]
   show((kids.length:Int)-((j+1:Nat):Int)).toNat<((kids.length:Int)-(j:Int)).toNat;omega
 .have az:j=kids.length:=by
   have:¬(j:Int)<(s.len:Int):=cQ az;omega
  subst az;have a3:Ext u u.drew:=cJ _;have h:=h.ext a3;have z:=z.trans a3;have ac:ks.take (kids.length-1)=ks:=dJ I;rw[ac,jj]at h;obtain⟨ag,M,ah,N⟩:=bC (V:=⟨none,0,0⟩) h.o;obtain⟨jF,gY,bI,a4⟩:=bC h.eE;have a5:bt (λq=>B q/\q<w.heap.size) w n K V D:=bp.aY λq c f=>⟨f,c⟩;have aJ:=a5.ext z;have a6:=a_.len aJ.keys;have a7:=cw.len aJ.kids;have a9:IntKind.wrap .i64 ((to:Int)-1)=((to-1:Nat):Int):=by rw[bz I I];omega
  have ar:∀q,aC C q->bD q:=λq c=>by
   obtain⟨ts,_,_,H,_⟩:=h.k;exact(H q c).1
  have F:∀q,aC aw q->bu q:=λq c=>(h.d.2 q c).1;have bb:=a_.sub aJ.keys (lo:=to-1) (hi:=n.keys.length) t3 (bl _);have bJ:(n.keys.drop (to-1)).take (n.keys.length-(to-1))=n.keys.drop (to-1):=dJ (by rw[dc];exact bl _);rw[bJ]at bb;obtain⟨P,aj,bK,bM,Z⟩:=v8 h.k bb (λq c aF=>by have:=h.k4 q aF;omega) (by rw[cM,cK];omega) (by rw[dc];omega);have ce:u.drew.heap.size=u.heap.size:=rfl;have E:∀q,aC C q->q<u.drew.heap.size/\q≠x/\q≠aG/\q≠y/\¬bu q:=λq c=>by
   have bG:=h.k4 q c;rcases h.ba q (ar q c) with g|g
   .omega
   .exact g.2
  have cf:=Z.size;have bN:Ext w aj:=Ext.dj z Z λq c=>h.k4 q c;have bc:=h.o.af Z λc=>(E _ c).2.2.1 rfl;have bO:=h.eE.af Z λc=>(E _ c).2.1 rfl;have bP:=h.r.af Z λc=>(E _ c).2.2.2.1 rfl;have bQ:cG bu aj aw _:=cG.af h.d Z λq f c=>(E q c).2.2.2.2 f;obtain⟨cn,cp⟩:=er bc (i:=1) (by simp);refine aX ⟨id,C,M,id,K,gY,?_,P,aj,?_,by rw[ay];exact cn,by rw[ay];exact cp,?_⟩
  .rw[a9,a6];omega
  .rw[a9,dO,a6];exact bK
  rw[ay,cU];have R:=dL aj aG 1 P;have ak:=ep bc (i:=1) P;obtain⟨G,bR⟩:∃G,G=aj.setCell ⟨aG,1,none⟩ P:=⟨_,rfl⟩;rw[←bR]at R ak⊢;have cg:=R.size;have aL:=bO.af R (λe=>L.1 e);have aM:=bP.af R (λe=>L.2.2 e.symm);have aN:cG bu G aw _:=cG.af bQ R λq f e=>(h.aK q f).2.2.2.1 e;have al:Ext w G:=Ext.cC bN R T;have aa:Ext G G.drew:=cJ _;have be:∀q,(bD q\/(B q/\q<w.heap.size)\/u.drew.heap.size<=q)->q≠aG:=λq c e=>by
   subst e;rcases c with c|c|c
   .rcases h.ba _ c with g|g
    .omega
    .exact g.2.2.2.1 rfl
   .omega
   .have:=h.o.lt;omega
  have bS:=a_.ext (a_.af bM R be) aa;have ak:=ak.ext aa;have aL:=aL.ext aa;have aM:=aM.ext aa;have aN:=cG.ext aN aa;have al:=al.trans aa;obtain⟨ag,M,ah,N⟩:=bC (V:=⟨none,0,0⟩) ak;obtain⟨jF,gY,bI,a4⟩:=bC aL;have bf:=cw.sub (a5.ext al).kids (lo:=to) (hi:=n.kids.length) t2 (bl _);have bT:(n.kids.drop to).take (n.kids.length-to)=n.kids.drop to:=dJ (by rw[dc];exact bl _);rw[bT]at bf;obtain⟨S,au,f1,f2,f3⟩:=zp aN bf (by rw[cM,cK];omega) (by rw[dc];omega);have ch:G.drew.heap.size=G.heap.size:=rfl;have ci:=f3.size;have ax:∀q,aC aw q->w.heap.size<=q/\q<u.drew.heap.size/\q≠x/\q≠aG/\q≠y:=λq c=>h.aK q (F q c);have bV:Ext w au:=Ext.dj al f3 λq c=>(ax q c).1;have bg:=ak.af f3 λc=>(ax _ c).2.2.2.1 rfl;have bW:=aM.af f3 λc=>(ax _ c).2.2.2.2 rfl;have bX:=a_.af bS f3 λq f c=>by
   have cj:=ax q c;rcases f with f|f|f
   .rcases h.ba q f with g|g
    .omega
    .exact g.2.2.2.2.2 (F q c)
   .omega
   .omega
  obtain⟨cn,cp⟩:=er bg (i:=3) (by simp);refine aX (aX ⟨id,aw,N,id,D,a4,?_,S,au,?_,by rw[ay];exact cn,by rw[ay];exact cp,?_⟩)
  .rw[a7];omega
  .rw[dO,a7];exact f1
  rw[ay,cU];have ab:=dL au aG 3 S;have bh:=ep bg (i:=3) S;obtain⟨aO,bY⟩:∃aO,aO=au.setCell ⟨aG,3,none⟩ S:=⟨_,rfl⟩;rw[←bY]at ab bh⊢;have ck:=ab.size;have bZ:=bW.af ab (λe=>L.2.2 e.symm);have b0:Ext w aO:=Ext.cC bV ab T;have b1:=a_.af bX ab be;have b2:=cw.af f2 ab λq f e=>by
   subst e;rcases f with f|f|f
   .exact(h.aK _ f).2.2.2.1 rfl
   .omega
   .have:=h.o.lt;omega
  obtain⟨ag,M,ah,N⟩:=bC (V:=⟨none,0,0⟩) bh;refine aX ⟨_,ag,P,M,⟨none,0,0⟩,ah,S,N,?_⟩;refine iC false P ⟨none,0,0⟩ S bZ bq (Q:=λb K V D ai=>tS B n fr to ks kids w (.agg #[b,K,V,D]) ai) λcm aP=>?_;refine⟨P,⟨none,0,0⟩,S,rfl,⟨?_,?_,?_⟩,Ext.cC b0 aP H⟩
  .refine a_.aY (a_.af b1 aP λq f e=>?_) λq _ f=>?_
   .subst e
    rcases f with f|f|f
    .rcases h.ba _ f with g|g
     .omega
     .exact g.2.2.2.2.1 rfl
    .omega
    .have:=h.r.lt;omega
   .rcases f with f|f|f
    .rcases h.ba _ f with g|g
     .exact .inl g.1
     .exact .inr g.1
    .exact .inl f.1
    .have:=z.size;exact .inr I
  .exact a_.none _ _
  .refine cw.aY (cw.af b2 aP λq f e=>?_) λq _ f=>?_
   .subst e
    rcases f with f|f|f
    .exact(h.aK _ f).2.2.2.2 rfl
    .omega
    .have:=h.r.lt;omega
   .rcases f with f|f|f
    .exact .inr (h.aK _ f).1
    .exact .inl f.1
    .have:=al.size;exact .inr I
theorem wE(K D:ad)(w:J):Sem.run aj (Instr.build 202 #[(1,K),(3,D)]) w=.ok (.agg #[false,K,(),D]) w:=by kernel_rfl
theorem ou{B:Nat->Prop}{w:J}{n:aB}{K V D s:ad}{ks:O Key}{kids:O Nat}{fr to:Nat}(Q:bt B w n K V D)(al:j7 B w s ks kids)(f1:fr<=n.keys.length)(f2:fr<=n.kids.length)(t1:1<=to)(t2:to<=n.kids.length)(t3:to-1<=n.keys.length)(bL:n.keys.length<=1000)(bx:n.kids.length<=1000):
 aL aj 250 #[c0 n K V D,.int .i64 (fr:Nat),.int .i64 (to:Nat),.slice s.a s.len s.cap] w (tS B n fr to ks kids w):=by
 refine okF (ah.ou n.leaf K V D (fr:Nat) (to:Nat) s) az.ou func250 ?_;(delta ah.ou z4 aa r1 bJ lH ao aK aF yw rT st au aW rV;dsimp only);refine bd (vs:=[.bool n.leaf,.slice K.a K.len K.cap,.slice V.a V.len V.cap,.slice D.a D.len D.cap]) rfl λw1 am an aD=>?_;refine bd (vs:=[.bool false,.slice none 0 0,.slice none 0 0,.slice none 0 0]) rfl λai ap R aE=>aX ?_;have F:Ext ai ai.drew:=cJ _;have L:=(an.trans R).trans F;obtain⟨f,S⟩:∃f,f=ai.drew:=⟨_,rfl⟩;have aH:f.heap.size=ai.heap.size:=by rw[S];rfl
 rw[←S]at L F⊢;have T:=(am.ext R).ext F;have aq:=ap.ext F;obtain⟨bQ,aT,a8,bc⟩:=bC T;have u:bt (λq=>B q/\q<w.heap.size) f n K V D:=(Q.aY λq c d=>⟨d,c⟩).ext L;have aJ:=a_.len u.keys;have aM:=cw.len u.kids;have aN:=a_.le u.keys;have aO:=u.kids.2.1;have M:=a_.sub u.keys (lo:=0) (hi:=fr) (cX _) f1;have G:=cw.sub u.kids (lo:=0) (hi:=fr) (cX _) f2;rw[jk,Nat.sub_zero]at M G;have U:Int.toNat ((fr:Nat):Int)-0=fr:=by rw[dO];rfl
 have fin:∀ (b6:J) (aG:Nat) (dC D0:ad),Ext f b6->Var b6 aG [.bool false,.slice dC.a dC.len dC.cap,.slice none 0 0,.slice D0.a D0.len D0.cap] 202->f.heap.size<=aG->bk (λq=>(B q/\q<w.heap.size)\/(f.heap.size<=q/\aC dC q)) b6 dC (n.keys.take fr)->aZ 1 3 b6 D0 (fj (n.kids.take fr))->
  (∀q,aC dC q->f.heap.size<=q/\q≠aG)->(∀q,aC D0 q->f.heap.size<=q/\q≠aG/\¬aC dC q)->wD w.heap.size aG w1.heap.size s (to:Nat) b6 (tS B n fr to ks kids w):=by
  intro b6 aG dC D0 hx ar aP W N X Y;have aQ:=hx.size;have aI:∀q,aC dC q->q<b6.heap.size:=λq c=>by
   obtain⟨ts,_,p,_,_⟩:=W;exact p.lt q c
  refine Ff (bD:=λq=>(B q/\q<w.heap.size)\/aC dC q) (bu:=λq=>aC D0 q) ⟨T.ext hx,aq.ext hx,ar,bk.aY W λq _ d=>d.imp id λh=>h.2,⟨N,λq c=>⟨c,aZ.lt N q c⟩⟩,λq d=>?_,λq d=>?_,λq c=>by have:=(X q c).1;omega⟩ (L.trans hx) Q al rfl (bl _) I I ⟨I,I,I⟩ t1 t2 t3 bL bx
  .rcases d with d|d
   .exact .inl d
   .have y:=X q d
    exact .inr ⟨I,aI q d,I,y.2,I,λav=>(Y q av).2.2 d⟩
  .have y:=Y q d
   exact⟨I,aZ.lt N q d,I,y.2.1,I⟩
 refine⟨λ_=>False,id,K,aT,⟨I,I⟩,id,D,bc,⟨I,I⟩,?_,?_⟩
 .rw[U]
  refine(An M (by rw[cK];omega)).use ?_;rintro _ v ⟨dC,rfl,r,g,z⟩;have aw:=g.size;refine⟨dC,rfl,g,?_,?_⟩
  .refine(qs (G.1.ext g) (by rw[cK];omega)).use ?_
   rintro _ Z ⟨D0,rfl,x,H,ab⟩;have aR:=H.size;refine⟨D0,rfl,H,_,wE dC D0,bd (vs:=[.bool false,.slice none 0 0,.slice none 0 0,.slice none 0 0]) rfl λaS ac ae aU=>⟨ae,ac.bU rfl (fO (b:=false) (K:=dC) (V:=⟨none,0,0⟩) (D:=D0)),rfl,cl ac (us:=[.bool false,.slice dC.a dC.len dC.cap,.slice none 0 0,.slice D0.a D0.len D0.cap]) rfl rfl λi A k ag=>?_⟩⟩;have l:Ext Z i:=Ext.cC ae k (bl _);have t:∀q,aC dC q->q<v.heap.size:=λq c=>by
    obtain⟨ts,_,p,_,_⟩:=r;exact p.lt q c
   exact fin i Z.heap.size dC D0 (g.trans (H.trans l)) A I (bk.aY (bk.ext r (H.trans l)) λq _ d=>d.imp (λh=>h.1) id) (x.ext l) (λq c=>⟨z q c,by have:=t q c;omega⟩) λq c=>⟨by have:=ab q c;omega,by have:=aZ.lt x q c;omega,λh=>by have:=t q h;have:=ab q c;omega⟩
  .refine bd (vs:=[.bool false,.slice none 0 0,.slice none 0 0,.slice none 0 0]) rfl λak P m ax=>⟨m,(qs ((G.1.ext g).ext m) (by rw[cK];omega)).use ?_⟩
   rintro _ ay ⟨D0,rfl,x,o,j⟩;have E:=P.ext o;refine⟨D0,rfl,o,_,wE dC D0,E.bU rfl (fO (b:=false) (K:=dC) (V:=⟨none,0,0⟩) (D:=D0)),rfl,cl E (us:=[.bool false,.slice dC.a dC.len dC.cap,.slice none 0 0,.slice D0.a D0.len D0.cap]) rfl rfl λi A k ag=>?_⟩;have l:Ext v i:=Ext.cC (m.trans o) k (bl _);have t:∀q,aC dC q->q<v.heap.size:=λq c=>by
    obtain⟨ts,_,p,_,_⟩:=r;exact p.lt q c
   exact fin i v.heap.size dC D0 (g.trans l) A I (bk.aY (bk.ext r l) λq _ d=>d.imp (λh=>h.1) id) (x.af k λq c e=>by have:=j q c;omega) (λq c=>⟨z q c,by have:=t q c;omega⟩) λq c=>⟨by have:=j q c;omega,by have:=j q c;omega,λh=>by have:=t q h;have:=j q c;omega⟩
 .rw[U]
  refine bd (vs:=[.bool false,.slice none 0 0,.slice none 0 0,.slice none 0 0]) rfl λak P m ax=>⟨m,(An (a_.ext M m) (by rw[cK];omega)).use ?_⟩;rintro _ v ⟨dC,rfl,r,g,z⟩;have aw:=g.size;refine⟨dC,rfl,g,(qs ((G.1.ext m).ext g) (by rw[cK];omega)).use ?_⟩;rintro _ ay ⟨D0,rfl,x,o,j⟩;have E:=(P.ext g).ext o;refine⟨D0,rfl,o,_,wE dC D0,E.bU rfl (fO (b:=false) (K:=dC) (V:=⟨none,0,0⟩) (D:=D0)),rfl,cl E (us:=[.bool false,.slice dC.a dC.len dC.cap,.slice none 0 0,.slice D0.a D0.len D0.cap]) rfl rfl λi A k ag=>?_⟩;have l:Ext f i:=Ext.cC ((m.trans g).trans o) k (bl _);have t:∀q,aC dC q->q<v.heap.size:=λq c=>by
   obtain⟨ts,_,p,_,_⟩:=r;exact p.lt q c
  have aA:bk (λq=>(B q/\q<w.heap.size)\/(f.heap.size<=q/\aC dC q)) i dC (n.keys.take fr):=by
   have y:=bk.aY (C:=λq=>(B q/\q<w.heap.size)\/(ak.heap.size<=q/\aC dC q)) (bk.ext r o) λq _ d=>d.imp (λh=>h.1) id;exact bk.aY (bk.af y k λq d e=>by rcases d with d|d<;>omega) λq _ d=>d.imp id λh=>⟨I,h.2⟩
  exact fin i f.heap.size dC D0 l A (bl _) aA (x.af k λq c e=>by have:=j q c;omega) (λq c=>⟨by have:=z q c;omega,by have:=z q c;omega⟩) λq c=>⟨by have:=j q c;omega,by have:=j q c;omega,λh=>by have:=t q h;have:=j q c;omega⟩
def kt(n:aB):Prop:=cr n/\br n<=400/\(232<br n->1<=b3 n/\(if n.leaf then b3 n<=n.keys.length-1/\1<=n.keys.length-1 else b3 n<=n.keys.length-2/\1<=n.keys.length-2)/\br (n.left (b3 n))<=232/\br (n.right (b3 n))<=232)
structure ku(B:Nat->Prop)(w:J)(A:ag)(u:df):Prop where
 aT:w.cell? (A.add 1)=some (.bool u.n.leaf)
 a8:w.cell? ((A.add 1).add 1)=some (.slice u.K.a u.K.len u.K.cap)
 bc:w.cell? ((A.add 1).add 2)=some (.slice u.V.a u.V.len u.V.cap)
 eZ:w.cell? ((A.add 1).add 3)=some (.slice u.D.a u.D.len u.D.cap)
 cF:w.cell? (A.add 5)=some (.int .i64 (u.cz:Nat))
 bO:bt B w u.n u.K u.V u.D
 b2:B A.block
 lt:A.block<w.heap.size
theorem ku.ext{B:Nat->Prop}{w w':J}{A:ag}{u:df}(h:ku B w A u)(hx:Ext w w'):ku B w' A u:=
 ⟨ae.cell hx (λh=>h) h.aT,ae.cell hx (λh=>h) h.a8,ae.cell hx (λh=>h) h.bc,ae.cell hx (λh=>h) h.eZ,ae.cell hx (λh=>h) h.cF,h.bO.ext hx,h.b2,fm h.lt hx.size⟩
theorem ku.to{w w':J}{T ax:aP}{k:Nat}{A:ag}{u:df}(h:ku (λq=>¬T.M q) w A u)(ht:b_ T ax w w' k):ku (λq=>¬ax.M q) w' A u:=by
 have hc:=ht.af;have a:¬T.N A.block:=λc=>h.b2 (aP.hC c);refine⟨ae.cell hc (A:=A.add 1) a h.aT,ae.cell hc (A:=(A.add 1).add 1) a h.a8,ae.cell hc (A:=(A.add 1).add 2) a h.bc,ae.cell hc (A:=(A.add 1).add 3) a h.eZ,ae.cell hc (A:=A.add 5) a h.cF,?_,λd=>?_,fm h.lt hc.size⟩
 .have h1:=ht.bO (lo:=0) (h.bO.aY λq _ b=>⟨cX _,b⟩)
  exact h1.aY λq _ b=>b.2
 .rcases ht.db _ d with h1|h1
  .exact h.b2 h1
  .have:=h.lt;omega
theorem gQ.base{T:aP}{c:dh}{n:aB}{w0 w w':J}{v:Y}(h:gQ T c n w v w')(hx:Ext w0 w):gQ T c n w0 v w':=by
 obtain⟨ax,c',m,s,av,a,b,d⟩:=h;exact⟨ax,c',m,s,av,((c6.ext T c hx).trans a).mono I,b,d⟩
theorem gQ.out{T:aP}{c:dh}{n:aB}{w w':J}{v:Y}(h:gQ T c n w v w'):∃ (s:ad) (e:Int),v=.tuple #[s,e]:=by
 obtain⟨ax,c',m,s,av,b,d,a⟩:=h;rcases a with ⟨ks,rfl,_⟩|⟨rfl,_⟩
 .exact⟨s,0,rfl⟩
 .exact⟨s,3,rfl⟩
def wF(j aG g bv:Nat)(c up:ar ag)(n31 n36:Int)(b6:J)(Q:Y->J->Prop):Prop:=
 b1 (λaf:J->Prop=>∃ah:ag,up=some ah/\∃E:Int,b6.cell? (ah.add 5)=some (.int .i64 E)/\((decide ((n36:Int)>E))=true->an (b6.drew) λd=>∃F:Nat->Prop,¬F (j:ag).block/\∃G:al,d.cell? j=some (.bool G)/\∃k:ad,d.cell? (Addr.add j 1)=some (.slice k.a k.len k.cap)/\∃l:ad,d.cell? (Addr.add j 2)=some (.slice l.a l.len l.cap)/\∃m:ad,d.cell? (Addr.add j 3)=some (.slice m.a m.len m.cap)/\¬F (aG:ag).block/\∃H:al,d.cell? aG=some (.bool H)/\∃n:ad,d.cell? (Addr.add aG 1)=some (.slice n.a n.len n.cap)/\∃o:ad,d.cell? (Addr.add aG 2)=some (.slice o.a o.len o.cap)/\∃p:ad,d.cell? (Addr.add aG 3)=some (.slice p.a p.len p.cap)/\bh d g [G,k,l,m]/\(4:Nat)=4/\an (setCells d g 0 [G,k,l,m]) λI=>ae F d I/\bh I bv [H,n,o,p]/\(4:Nat)=4/\an (setCells I bv 0 [H,n,o,p]) λau=>af au)/\((decide ((n36:Int)>E))=false->af b6)) (λ(av:J)=>an (av.drew) λb=>∃f:Nat->Prop,¬f (g:ag).block/\∃K:al,b.cell? g=some (.bool K)/\∃q:ad,b.cell? (Addr.add g 1)=some (.slice q.a q.len q.cap)/\∃r:ad,b.cell? (Addr.add g 2)=some (.slice r.a r.len r.cap)/\∃s:ad,b.cell? (Addr.add g 3)=some (.slice s.a s.len s.cap)/\∃L:ag,up=some L/\¬f ((L.add 1).add 1).block/\∃t:ad,b.cell? ((L.add 1).add 1)=some (.slice t.a t.len t.cap)/\∃M:ag,t.a=some M/\((0:Int)<=n31/\n31<(t.len:Int))/\¬f (M.add (Int.toNat n31*1)).block/\∃u:ad,b.cell? (M.add (Int.toNat n31*1))=some (.slice u.a u.len u.cap)/\¬f (bv:ag).block/\∃N:al,b.cell? bv=some (.bool N)/\∃v:ad,b.cell? (Addr.add bv 1)=some (.slice v.a v.len v.cap)/\∃w:ad,b.cell? (Addr.add bv 2)=some (.slice w.a w.len w.cap)/\∃x:ad,b.cell? (Addr.add bv 3)=some (.slice x.a x.len x.cap)/\(Calls aj 282 #[.agg #[K,q,r,s],u,.agg #[N,v,w,x]] b λaw e=>∃O:al,∃P:ad,∃R:ad,∃S:ad,∃T:al,aw=.returned (.tuple #[.agg #[O,P,R,S],T])/\ae f b e/\an (e.alloc (.cells #[false,(),(),()] 202)) λU=>ae f e U/\bh U e.heap.size [O,P,R,S]/\(4:Nat)=4/\an (setCells U e.heap.size 0 [O,P,R,S]) λh=>((!T)=true->Q (.tuple #[(),(0:Int),(0:Int),(4:Int)]) h)/\((!T)=false->∃ai:al,h.cell? e.heap.size=some (.bool ai)/\∃y:ad,h.cell? (Addr.add e.heap.size 1)=some (.slice y.a y.len y.cap)/\∃z:ad,h.cell? (Addr.add e.heap.size 2)=some (.slice z.a z.len z.cap)/\∃A:ad,h.cell? (Addr.add e.heap.size 3)=some (.slice A.a A.len A.cap)/\Calls aj 281 #[.pointer c,.agg #[ai,y,z,A]] h λax ay=>∃ak:ad,∃am:Int,ax=.returned (.tuple #[ak,am])/\Q (.tuple #[ak,n31,.int .i64 (IntKind.wrap .i64 (n31+2)),am]) ay))/\(an (b.alloc (.cells #[false,(),(),()] 202)) λV=>ae f b V/\Calls aj 282 #[.agg #[K,q,r,s],u,.agg #[N,v,w,x]] V λaz W=>∃X:al,∃Z:ad,∃aa:ad,∃ab:ad,∃ac:al,az=.returned (.tuple #[.agg #[X,Z,aa,ab],ac])/\ae f V W/\bh W b.heap.size [X,Z,aa,ab]/\(4:Nat)=4/\an (setCells W b.heap.size 0 [X,Z,aa,ab]) λi=>((!ac)=true->Q (.tuple #[(),(0:Int),(0:Int),(4:Int)]) i)/\((!ac)=false->∃ao:al,i.cell? b.heap.size=some (.bool ao)/\∃B:ad,i.cell? (Addr.add b.heap.size 1)=some (.slice B.a B.len B.cap)/\∃C:ad,i.cell? (Addr.add b.heap.size 2)=some (.slice C.a C.len C.cap)/\∃D:ad,i.cell? (Addr.add b.heap.size 3)=some (.slice D.a D.len D.cap)/\Calls aj 281 #[.pointer c,.agg #[ao,B,C,D]] i λaA aB=>∃ap:ad,∃aq:Int,aA=.returned (.tuple #[ap,aq])/\Q (.tuple #[ap,n31,.int .i64 (IntKind.wrap .i64 (n31+2)),aq]) aB)))
theorem Fg{W X:Nat->Prop}{w0 b6:J}{T:aP}{c:dh}{Z aG g bv:Nat}{A:ag}{u:df}{n o:aB}{K V D i j k:ad}{fr other:Nat}{Q:Y->J->Prop}(h:c5 w0 T c)(hx:Ext w0 b6)(ao:Var w0 Z (dY n K V D) 202)(ap:Var w0 aG (dY o i j k) 202)
 (aq:Var b6 g (dY o i j k) 202) (ar:Var b6 bv (dY n K V D) 202) (h1:w0.heap.size<=g) (aW:w0.heap.size<=bv) (au:g≠bv) (av:bt W w0 n K V D) (aw:bt X w0 o i j k) (hu:ku (λq=>¬T.M q) w0 A u)
 (ax:T.C.D.aQ<=900000090) (ay:2<=cj T) (az:c.made.length<=900) (aa:cr n) (ab:cr o) (bw:br n<=400) (bA:br o<=400) (aA:o.leaf=n.leaf) (aY:fr<u.n.keys.length) (aC:cR u.n.keys[fr]) (m:aB) (aD:m=if u.cz<other then dv n u.n.keys[fr] o else dv o u.n.keys[fr] n) (l:kt m) (bB:fr<=1000)
 (aE:∀ (s:ad) (e:Int) (w':J),gQ T c m w0 (.tuple #[.slice s.a s.len s.cap,.int .i64 e]) w'->Q (.tuple #[.slice s.a s.len s.cap,.int .i64 (fr:Nat),.int .i64 ((fr+2:Nat):Int),.int .i64 e]) w'):
 wF Z aG g bv (some ⟨c.cb,0,none⟩) (some A) (fr:Nat) (other:Nat) b6 Q:=by
 have bD:=ao.lt;have bE:=ap.lt;have bF:=hx.size;have fn:=aa.fw I;have bG:=ab.fw I;unfold wF;refine kh (λp=>∃ (a b:aB) (G H L N O P:ad) (aF aH:Nat->Prop),Ext w0 p/\Var p g (dY a G H L) 202/\Var p bv (dY b N O P) 202/\bt aF w0 a G H L/\bt aH w0 b N O P/\m=dv a u.n.keys[fr] b/\cr a/\cr b/\a.leaf=b.leaf/\a.keys.length<=200/\b.keys.length<=200)
  (λq r=>⟨A,rfl,_,(hu.ext hx).cF,λd=>?_,λd=>r _ ⟨o,n,i,j,k,K,V,D,X,W,hx,aq,ar,aw,av,?_,ab,aa,aA,I,I⟩⟩) ?_
 .have d:u.cz<other:=by
   have:((other:Nat):Int)>((u.cz:Nat):Int):=cu d;omega
  have f:=hx.trans (cJ b6);obtain⟨aZ,bL,bx,a4⟩:=bC (ao.ext f);obtain⟨a5,a6,a7,a9⟩:=bC (ap.ext f);have aI:=aq.drew;have ba:=ar.drew;refine aX ⟨λq=>q=g,(show Z≠g from I),_,aZ,K,bL,V,bx,D,a4,(show aG≠g from I),_,a5,i,a6,j,a7,k,a9,aI.bU rfl fO,rfl,cl aI (us:=dY n K V D) rfl rfl λbI bb ac bJ=>?_⟩;have aJ:=ba.af ac (λe=>au e.symm);refine⟨ac,aJ.bU rfl fO,rfl,cl aJ (us:=dY o i j k) rfl rfl λbK bc aK bM=>?_⟩;exact r _ ⟨n,o,K,V,D,i,j,k,W,X,Ext.cC (Ext.cC f ac h1) aK aW,bb.af aK au,bc,av,aw,by rw[aD,if_pos d],aa,ab,aA.symm,I,I⟩
 .have d:¬u.cz<other:=by
   have:¬((other:Nat):Int)>((u.cz:Nat):Int):=cQ d;omega
  rw[aD,if_neg d]
 rintro p ⟨a,b,G,H,L,N,O,P,aF,aH,be,bf,d,aL,aM,ae,sa,sb,aN,bN,lb⟩;have f:=be.trans (cJ p);have bg:=bf.drew;have bh:=d.drew;obtain⟨a0,a1,a2,a3⟩:=bC bg;obtain⟨bi,cf,bH,bj⟩:=bC bh;have aO:=hu.ext f;obtain⟨bk,tk,bm,bn,bo,R,bP⟩:=a_.at aO.bO.keys aY;have aR:cr (dv a u.n.keys[fr] b):=by rw[←ae];exact l.1
 have B:=mW (aL.ext f) (aM.ext f) R.1 (λq r=>(R.2.2 q r).2) (by have:=aC.2;omega) sa sb aN aR I I;rw[←ae]at B;have aS:IntKind.wrap .i64 (((fr:Nat):Int)+2)=((fr+2:Nat):Int):=by rw[bz I I];rfl
 obtain⟨wd,bQ⟩:∃wd,wd=p.drew:=⟨_,rfl⟩;refine aX ⟨λ_=>False,id,_,a0,G,a1,H,a2,L,a3,A,rfl,id,u.K,aO.a8,bk,bm,bn,id,tk,bo,id,_,bi,N,cf,O,bH,P,bj,?_,?_⟩
 .refine B.use ?_
  rintro _ bp ⟨t,w,x,rfl,ah,y⟩;refine⟨_,t,w,x,true,rfl,y,bd (vs:=[.bool false,.slice none 0 0,.slice none 0 0,.slice none 0 0]) rfl λbR aT aU bS=>⟨aU,aT.bU rfl fO,rfl,cl aT (us:=dY m t w x) rfl rfl λai aj S bq=>⟨λd=>(by cases d),λ_=>?_⟩⟩⟩;have U:Ext bp ai:=Ext.cC aU S (bl _);have E:=(f.trans y).trans U;obtain⟨ak,al,am,an⟩:=bC aj;refine⟨_,ak,t,al,w,am,x,an,(tR (h.ext E) ax ay az (ah.ext U) l.1 l.2.1 l.2.2).use ?_⟩;intro v w' F;obtain⟨s,e,rfl⟩:=F.out;rw[aS];exact⟨s,e,rfl,aE s e w' (F.base E)⟩
 .refine bd (vs:=[.bool false,.slice none 0 0,.slice none 0 0,.slice none 0 0]) rfl λbT bs z bV=>⟨z,?_⟩
  have B:=mW ((aL.ext f).ext z) ((aM.ext f).ext z) (R.1.ext z) (λq r=>fm (R.2.2 q r).2 z.size) (by have:=aC.2;omega) sa sb aN aR I I;rw[←ae]at B;refine B.use ?_;rintro _ bW ⟨t,w,x,rfl,ah,y⟩;have aV:=bs.ext y;refine⟨_,t,w,x,true,rfl,y,aV.bU rfl fO,rfl,cl aV (us:=dY m t w x) rfl rfl λai aj S bq=>⟨λd=>(by cases d),λ_=>?_⟩⟩;have U:Ext p.drew ai:=Ext.cC (z.trans y) S (bl _);have E:=f.trans U;have bu:=bt.af ah S λq r e=>by omega
  obtain⟨ak,al,am,an⟩:=bC aj;refine⟨_,ak,t,al,w,am,x,an,(tR (h.ext E) ax ay az bu l.1 l.2.1 l.2.2).use ?_⟩;intro v w' F;obtain⟨s,e,rfl⟩:=F.out;rw[aS];exact⟨s,e,rfl,aE s e w' (F.base E)⟩
theorem c6.leave{T:aP}{c c':dh}{E G:Nat->Prop}{w w':J}{no:Nat}(h:b_ T (T.ct E G) w w' 0)(a:E=T.E)(b:∀q,T.G q->G q)(h1:c'.cb=c.cb)(d:c'.made=c.made)(e:c'.left=c.left++ [no]):c6 T (T.ct E G) c c' [] [no] w w' 0:=
 ⟨h,a,b,rfl,rfl,h1,by rw[d,fY],e,List.nodup_nil,λ_ h=>(by cases h),λno=>by simp[aP.ct],λ_ _=>⟨rfl,rfl⟩,by simp[cj,aP.ct]⟩
def wG(f aG:Nat)(c up:ar ag)(n31 n36 n41 aI:Int)(b6:J)(Q:Y->J->Prop):Prop:=
 (((aI:Int) !=0)=true->Q (.tuple #[(),(0:Int),(0:Int),aI]) b6)/\(((aI:Int) !=0)=false->∃bv:ag,c=some bv/\∃am:ad,b6.cell? (bv.add 2)=some (.slice am.a am.len am.cap)/\an (b6.alloc (.cells #[n41] 3)) λbO=>∃bw:ad,∃ao:J,Sem.run aj (Builtin.append_ #[58,58] 58 #[am,.slice (some b6.heap.size) 1 1]) bO=.ok bw ao/\∃ap:ag,c=some ap/\(∃u:Y,ao.cell? (ap.add 2)=some u)/\ao.frozen? (ap.add 2)=false/\an (ao.setCell (ap.add 2) bw) λbP=>an (bP.drew) λb=>∃m:Nat->Prop,¬m (aG:ag).block/\∃A:al,b.cell? aG=some (.bool A)/\∃p:ad,b.cell? (Addr.add aG 1)=some (.slice p.a p.len p.cap)/\∃q:ad,b.cell? (Addr.add aG 2)=some (.slice q.a q.len q.cap)/\∃r:ad,b.cell? (Addr.add aG 3)=some (.slice r.a r.len r.cap)/\¬m (f:ag).block/\∃B:al,b.cell? f=some (.bool B)/\∃s:ad,b.cell? (Addr.add f 1)=some (.slice s.a s.len s.cap)/\∃t:ad,b.cell? (Addr.add f 2)=some (.slice t.a t.len t.cap)/\∃v:ad,b.cell? (Addr.add f 3)=some (.slice v.a v.len v.cap)/\(an (b.alloc (.cells #[false,(),(),()] 202)) λg=>ae m b g/\an (g.alloc (.cells #[false,(),(),()] 202)) λaq=>ae m g aq/\bh aq b.heap.size [A,p,q,r]/\(4:Nat)=4/\an (setCells aq b.heap.size 0 [A,p,q,r]) λaJ=>ae m aq aJ/\bh aJ g.heap.size [B,s,t,v]/\(4:Nat)=4/\an (setCells aJ g.heap.size 0 [B,s,t,v]) λaK=>b1 (λbx:J->Prop=>∃bz:ag,up=some bz/\∃aL:Int,aK.cell? (bz.add 5)=some (.int .i64 aL)/\((decide ((n36:Int)>aL))=true->an (aK.drew) λi=>∃aM:Nat->Prop,¬aM (f:ag).block/\∃aN:al,i.cell? f=some (.bool aN)/\∃C:ad,i.cell? (Addr.add f 1)=some (.slice C.a C.len C.cap)/\∃D:ad,i.cell? (Addr.add f 2)=some (.slice D.a D.len D.cap)/\∃E:ad,i.cell? (Addr.add f 3)=some (.slice E.a E.len E.cap)/\¬aM (aG:ag).block/\∃aO:al,i.cell? aG=some (.bool aO)/\∃F:ad,i.cell? (Addr.add aG 1)=some (.slice F.a F.len F.cap)/\∃G:ad,i.cell? (Addr.add aG 2)=some (.slice G.a G.len G.cap)/\∃H:ad,i.cell? (Addr.add aG 3)=some (.slice H.a H.len H.cap)/\bh i b.heap.size [aN,C,D,E]/\(4:Nat)=4/\an (setCells i b.heap.size 0 [aN,C,D,E]) λaP=>ae aM i aP/\bh aP g.heap.size [aO,F,G,H]/\(4:Nat)=4/\an (setCells aP g.heap.size 0 [aO,F,G,H]) λbQ=>bx bQ)/\((decide ((n36:Int)>aL))=false->bx aK)) (λ(bR:J)=>an (bR.drew) λd=>∃n:Nat->Prop,¬n (b.heap.size:ag).block/\∃aQ:al,d.cell? b.heap.size=some (.bool aQ)/\∃I:ad,d.cell? (Addr.add b.heap.size 1)=some (.slice I.a I.len I.cap)/\∃K:ad,d.cell? (Addr.add b.heap.size 2)=some (.slice K.a K.len K.cap)/\∃L:ad,d.cell? (Addr.add b.heap.size 3)=some (.slice L.a L.len L.cap)/\∃aR:ag,up=some aR/\¬n ((aR.add 1).add 1).block/\∃M:ad,d.cell? ((aR.add 1).add 1)=some (.slice M.a M.len M.cap)/\∃aS:ag,M.a=some aS/\((0:Int)<=n31/\n31<(M.len:Int))/\¬n (aS.add (Int.toNat n31*1)).block/\∃N:ad,d.cell? (aS.add (Int.toNat n31*1))=some (.slice N.a N.len N.cap)/\¬n (g.heap.size:ag).block/\∃aT:al,d.cell? g.heap.size=some (.bool aT)/\∃O:ad,d.cell? (Addr.add g.heap.size 1)=some (.slice O.a O.len O.cap)/\∃P:ad,d.cell? (Addr.add g.heap.size 2)=some (.slice P.a P.len P.cap)/\∃R:ad,d.cell? (Addr.add g.heap.size 3)=some (.slice R.a R.len R.cap)/\(Calls aj 282 #[.agg #[aQ,I,K,L],N,.agg #[aT,O,P,R]] d λbS k=>∃aU:al,∃aV:ad,∃aW:ad,∃aX:ad,∃aY:al,bS=.returned (.tuple #[.agg #[aU,aV,aW,aX],aY])/\ae n d k/\an (k.alloc (.cells #[false,(),(),()] 202)) λaZ=>ae n k aZ/\bh aZ k.heap.size [aU,aV,aW,aX]/\(4:Nat)=4/\an (setCells aZ k.heap.size 0 [aU,aV,aW,aX]) λw=>((!aY)=true->Q (.tuple #[(),(0:Int),(0:Int),(4:Int)]) w)/\((!aY)=false->∃bA:al,w.cell? k.heap.size=some (.bool bA)/\∃au:ad,w.cell? (Addr.add k.heap.size 1)=some (.slice au.a au.len au.cap)/\∃av:ad,w.cell? (Addr.add k.heap.size 2)=some (.slice av.a av.len av.cap)/\∃aw:ad,w.cell? (Addr.add k.heap.size 3)=some (.slice aw.a aw.len aw.cap)/\Calls aj 281 #[.pointer c,.agg #[bA,au,av,aw]] w λbT bU=>∃bB:ad,∃bC:Int,bT=.returned (.tuple #[bB,bC])/\Q (.tuple #[bB,n31,.int .i64 (IntKind.wrap .i64 (n31+2)),bC]) bU))/\(an (d.alloc (.cells #[false,(),(),()] 202)) λa0=>ae n d a0/\Calls aj 282 #[.agg #[aQ,I,K,L],N,.agg #[aT,O,P,R]] a0 λbV a1=>∃a2:al,∃a3:ad,∃a4:ad,∃a5:ad,∃a6:al,bV=.returned (.tuple #[.agg #[a2,a3,a4,a5],a6])/\ae n a0 a1/\bh a1 d.heap.size [a2,a3,a4,a5]/\(4:Nat)=4/\an (setCells a1 d.heap.size 0 [a2,a3,a4,a5]) λx=>((!a6)=true->Q (.tuple #[(),(0:Int),(0:Int),(4:Int)]) x)/\((!a6)=false->∃bD:al,x.cell? d.heap.size=some (.bool bD)/\∃ax:ad,x.cell? (Addr.add d.heap.size 1)=some (.slice ax.a ax.len ax.cap)/\∃ay:ad,x.cell? (Addr.add d.heap.size 2)=some (.slice ay.a ay.len ay.cap)/\∃az:ad,x.cell? (Addr.add d.heap.size 3)=some (.slice az.a az.len az.cap)/\Calls aj 281 #[.pointer c,.agg #[bD,ax,ay,az]] x λbW bX=>∃bE:ad,∃bF:Int,bW=.returned (.tuple #[bE,bF])/\Q (.tuple #[bE,n31,.int .i64 (IntKind.wrap .i64 (n31+2)),bF]) bX))))/\(an (b.alloc (.cells #[false,(),(),()] 202)) λh=>ae m b h/\an (h.alloc (.cells #[false,(),(),()] 202)) λaA=>ae m h aA/\bh aA h.heap.size [A,p,q,r]/\(4:Nat)=4/\an (setCells aA h.heap.size 0 [A,p,q,r]) λa7=>ae m aA a7/\bh a7 b.heap.size [B,s,t,v]/\(4:Nat)=4/\an (setCells a7 b.heap.size 0 [B,s,t,v]) λa8=>b1 (λbG:J->Prop=>∃bH:ag,up=some bH/\∃a9:Int,a8.cell? (bH.add 5)=some (.int .i64 a9)/\((decide ((n36:Int)>a9))=true->an (a8.drew) λj=>∃a_:Nat->Prop,¬a_ (f:ag).block/\∃ba:al,j.cell? f=some (.bool ba)/\∃S:ad,j.cell? (Addr.add f 1)=some (.slice S.a S.len S.cap)/\∃T:ad,j.cell? (Addr.add f 2)=some (.slice T.a T.len T.cap)/\∃U:ad,j.cell? (Addr.add f 3)=some (.slice U.a U.len U.cap)/\¬a_ (aG:ag).block/\∃bb:al,j.cell? aG=some (.bool bb)/\∃V:ad,j.cell? (Addr.add aG 1)=some (.slice V.a V.len V.cap)/\∃W:ad,j.cell? (Addr.add aG 2)=some (.slice W.a W.len W.cap)/\∃X:ad,j.cell? (Addr.add aG 3)=some (.slice X.a X.len X.cap)/\bh j h.heap.size [ba,S,T,U]/\(4:Nat)=4/\an (setCells j h.heap.size 0 [ba,S,T,U]) λbc=>ae a_ j bc/\bh bc b.heap.size [bb,V,W,X]/\(4:Nat)=4/\an (setCells bc b.heap.size 0 [bb,V,W,X]) λbY=>bG bY)/\((decide ((n36:Int)>a9))=false->bG a8)) (λ(bZ:J)=>an (bZ.drew) λe=>∃o:Nat->Prop,¬o (h.heap.size:ag).block/\∃bd:al,e.cell? h.heap.size=some (.bool bd)/\∃Z:ad,e.cell? (Addr.add h.heap.size 1)=some (.slice Z.a Z.len Z.cap)/\∃aa:ad,e.cell? (Addr.add h.heap.size 2)=some (.slice aa.a aa.len aa.cap)/\∃ab:ad,e.cell? (Addr.add h.heap.size 3)=some (.slice ab.a ab.len ab.cap)/\∃be:ag,up=some be/\¬o ((be.add 1).add 1).block/\∃ac:ad,e.cell? ((be.add 1).add 1)=some (.slice ac.a ac.len ac.cap)/\∃bf:ag,ac.a=some bf/\((0:Int)<=n31/\n31<(ac.len:Int))/\¬o (bf.add (Int.toNat n31*1)).block/\∃af:ad,e.cell? (bf.add (Int.toNat n31*1))=some (.slice af.a af.len af.cap)/\¬o (b.heap.size:ag).block/\∃bg:al,e.cell? b.heap.size=some (.bool bg)/\∃ah:ad,e.cell? (Addr.add b.heap.size 1)=some (.slice ah.a ah.len ah.cap)/\∃ai:ad,e.cell? (Addr.add b.heap.size 2)=some (.slice ai.a ai.len ai.cap)/\∃ak:ad,e.cell? (Addr.add b.heap.size 3)=some (.slice ak.a ak.len ak.cap)/\(Calls aj 282 #[.agg #[bd,Z,aa,ab],af,.agg #[bg,ah,ai,ak]] e λb0 l=>∃bi:al,∃bj:ad,∃bk:ad,∃bl:ad,∃bm:al,b0=.returned (.tuple #[.agg #[bi,bj,bk,bl],bm])/\ae o e l/\an (l.alloc (.cells #[false,(),(),()] 202)) λbn=>ae o l bn/\bh bn l.heap.size [bi,bj,bk,bl]/\(4:Nat)=4/\an (setCells bn l.heap.size 0 [bi,bj,bk,bl]) λy=>((!bm)=true->Q (.tuple #[(),(0:Int),(0:Int),(4:Int)]) y)/\((!bm)=false->∃bI:al,y.cell? l.heap.size=some (.bool bI)/\∃aB:ad,y.cell? (Addr.add l.heap.size 1)=some (.slice aB.a aB.len aB.cap)/\∃aC:ad,y.cell? (Addr.add l.heap.size 2)=some (.slice aC.a aC.len aC.cap)/\∃aD:ad,y.cell? (Addr.add l.heap.size 3)=some (.slice aD.a aD.len aD.cap)/\Calls aj 281 #[.pointer c,.agg #[bI,aB,aC,aD]] y λb2 b3=>∃bJ:ad,∃bK:Int,b2=.returned (.tuple #[bJ,bK])/\Q (.tuple #[bJ,n31,.int .i64 (IntKind.wrap .i64 (n31+2)),bK]) b3))/\(an (e.alloc (.cells #[false,(),(),()] 202)) λbo=>ae o e bo/\Calls aj 282 #[.agg #[bd,Z,aa,ab],af,.agg #[bg,ah,ai,ak]] bo λb4 bp=>∃bq:al,∃br:ad,∃bs:ad,∃bt:ad,∃bu:al,b4=.returned (.tuple #[.agg #[bq,br,bs,bt],bu])/\ae o bo bp/\bh bp e.heap.size [bq,br,bs,bt]/\(4:Nat)=4/\an (setCells bp e.heap.size 0 [bq,br,bs,bt]) λz=>((!bu)=true->Q (.tuple #[(),(0:Int),(0:Int),(4:Int)]) z)/\((!bu)=false->∃bL:al,z.cell? e.heap.size=some (.bool bL)/\∃aE:ad,z.cell? (Addr.add e.heap.size 1)=some (.slice aE.a aE.len aE.cap)/\∃aF:ad,z.cell? (Addr.add e.heap.size 2)=some (.slice aF.a aF.len aF.cap)/\∃aH:ad,z.cell? (Addr.add e.heap.size 3)=some (.slice aH.a aH.len aH.cap)/\Calls aj 281 #[.pointer c,.agg #[bL,aE,aF,aH]] z λb5 b7=>∃bM:ad,∃bN:Int,b5=.returned (.tuple #[bM,bN])/\Q (.tuple #[bM,n31,.int .i64 (IntKind.wrap .i64 (n31+2)),bN]) b7)))))
theorem Fh{w:J}{T:aP}{c:dh}{p aG:Nat}{A:ag}{u:df}{n o:aB}{K V D j k l:ad}{fr other no:Nat}{Q:Y->J->Prop}(h:c5 w T c)(ar:Var w p (dY n K V D) 202)(au:Var w aG (dY o j k l) 202)
 (aw:¬T.M p) (ax:¬T.M aG) (az:bt (λq=>¬T.M q) w n K V D) (aA:bt (λq=>¬T.M q) w o j k l) (hu:ku (λq=>¬T.M q) w A u)
 (aD:T.C.D.aQ<=900000090) (aE:2<=cj T) (aF:c.made.length<=900) (bm:c.left.length<=900) (aH:cr n) (aI:cr o) (aJ:br n<=400) (aK:br o<=400) (aL:o.leaf=n.leaf) (aM:fr<u.n.keys.length) (aN:cR u.n.keys[fr]) (m:aB) (F:m=if u.cz<other then dv n u.n.keys[fr] o else dv o u.n.keys[fr] n) (aO:kt m) (aR:fr<=1000)
 (aS:∀ (s:ad) (e:Int) (bR:aP) (aT:dh) (w1 w':J),c6 T bR c aT [] [no] w w1 0->gQ bR aT m w1 (.tuple #[.slice s.a s.len s.cap,.int .i64 e]) w'->Q (.tuple #[.slice s.a s.len s.cap,.int .i64 (fr:Nat),.int .i64 ((fr+2:Nat):Int),.int .i64 e]) w'):
 wG p aG (some ⟨c.cb,0,none⟩) (some A) (fr:Nat) (other:Nat) (no:Nat) 0 w Q:=by
 unfold wG;refine⟨λH=>(by cases H),λ_=>⟨_,rfl,_,h.cells.2.2,?_⟩⟩;obtain⟨d,ak,av,bn,aU,aV,aW⟩:=Ah h no I;refine aX ⟨d,ak,av,_,rfl,by rw[ay];exact aU,by rw[ay];exact aV,aX ?_⟩;rw[ay];obtain⟨f,al⟩:∃f,f=ak.setCell ⟨c.cb,0+2,none⟩ (.slice d.a d.len d.cap):=⟨_,rfl⟩;rw[←al];obtain⟨am,an⟩:=aW f al;have ao:=c6.leave (c:=c) (c':={c with fN:=d,left:=c.left++ [no]}) (no:=no) an rfl (λq L=>.inl L) rfl rfl rfl;obtain⟨bR,z⟩:∃bR,bR=T.ct T.E λq=>T.G q\/aC d q:=⟨_,rfl⟩;obtain⟨aT,O⟩:∃aT:dh,aT={c with fN:=d,left:=c.left++ [no]}:=⟨_,rfl⟩;have aY:aT.cb=c.cb:=by rw[O]
 have aZ:aT.made=c.made:=by rw[O]
 have a0:bR.C.D.aQ<=900000090:=by rw[z];exact aD
 have a1:2<=cj bR:=by rw[z];exact aE
 rw[←z,←O]at am ao;rw[←z]at an;have P:Ext f f.drew:=cJ _;have ap:=am.ext P;have R:c6 T bR c aT [] [no] w f.drew 0:=ao.trans (c6.ext bR aT P);obtain⟨b,a2⟩:∃b,b=f.drew:=⟨_,rfl⟩;rw[←a2]at P ap R⊢;have B:=R.to;have S:∀q,¬T.M q->¬T.N q:=λq h1 U=>h1 (aP.hC U);have W:=ar.af B.af (S _ aw);have X:=au.af B.af (S _ ax);have aq:∀ {m:aB}{K V D:ad},bt (λq=>¬T.M q) w m K V D->bt (λq=>¬T.M q) b m K V D:=λF=>bt.af F B.af λq L=>S q L;have a3:=aq az;have a4:=aq aA;have a5:=hu.to B;obtain⟨a6,bL,bx,a7⟩:=bC W;obtain⟨a8,a9,a_,ba⟩:=bC X;have bo:=W.lt;have bp:=X.lt;have fin:∀ (b6:J) (r bv:Nat),Ext b b6->Var b6 r (dY o j k l) 202->Var b6 bv (dY n K V D) 202->b.heap.size<=r->b.heap.size<=bv->r≠bv->wF p aG r bv (some ⟨c.cb,0,none⟩) (some A) (fr:Nat) (other:Nat) b6 Q:=by
  intro b6 r bv hx bb H h1 U bc;have:=Fg ap hx W X bb H h1 U bc a3 a4 a5 a0 a1 (by rw[aZ];exact aF) aH aI aJ aK aL aM aN m F aO aR (Q:=Q) λs e w' hf=>aS s e bR aT b w' R hf;rw[aY]at this;exact this
 refine aX ⟨λq=>b.heap.size<=q,(show¬b.heap.size<=aG from I),_,a8,j,a9,k,a_,l,ba,(show¬b.heap.size<=p from I),_,a6,K,bL,V,bx,D,a7,?_,?_⟩
 .refine bd (vs:=[.bool false,.slice none 0 0,.slice none 0 0,.slice none 0 0]) rfl λZ be t bf=>⟨ae.cN t,bd (vs:=[.bool false,.slice none 0 0,.slice none 0 0,.slice none 0 0]) rfl λbg aa g bh=>?_⟩
  have v:=be.ext g;refine⟨ae.cN g,v.bU rfl fO,rfl,cl v (us:=dY o j k l) rfl rfl λab ac i bi=>?_⟩;have x:=aa.af i I;have ah:Ext b ab:=Ext.cC (t.trans g) i (bl _);refine⟨i.mono λq _ e=>I,x.bU rfl fO,rfl,cl x (us:=dY n K V D) rfl rfl λai aj y bj=>?_⟩;exact fin ai b.heap.size Z.heap.size (Ext.cC ah y I) (ac.af y I) aj (bl _) I I
 .refine bd (vs:=[.bool false,.slice none 0 0,.slice none 0 0,.slice none 0 0]) rfl λZ bk t bf=>⟨ae.cN t,bd (vs:=[.bool false,.slice none 0 0,.slice none 0 0,.slice none 0 0]) rfl λbg v g bh=>?_⟩
  have aa:=bk.ext g;refine⟨ae.cN g,v.bU rfl fO,rfl,cl v (us:=dY o j k l) rfl rfl λab ac i bi=>?_⟩;have x:=aa.af i I;have ah:Ext b ab:=Ext.cC (t.trans g) i I;refine⟨i.mono λq _ e=>I,x.bU rfl fO,rfl,cl x (us:=dY n K V D) rfl rfl λai aj y bj=>?_⟩;exact fin ai Z.heap.size b.heap.size (Ext.cC ah y (bl _)) (ac.af y I) aj I (bl _) I
theorem b_.read{w w':J}{T:aP}{E:Nat->Prop}{aD:bM}{P:Nat->ar aB}{k:Nat}(h:b_ (T.ct E λ_=>False) ((T.ct E λ_=>False).bK aD P) w w' k)(f:∀q,T.E q\/T.G q->E q)(i:∀q,E q->T.E q\/T.G q\/w.heap.size<=q):b_ T (T.bK aD P) w w' k:=by
 refine⟨h.bf,h.sb,h.n,h.g,h.s1,h.s2,h.c,h.d,h.bw,h.gen,h.aQ,h.calm,h.af.mono λq _ a=>?_,λq a=>?_,λq a=>?_⟩
 .rcases a with a|a|a|a
  .exact .inl a
  .exact .inr (.inl a)
  .exact .inr (.inr (.inl a))
  .exact a.elim
 .have h1:((T.ct E λ_=>False).bK aD P).M q:=by
   rcases a with a|a|a|a
   .exact .inl a
   .exact .inr (.inl a)
   .exact .inr (.inr (.inl a))
   .exact .inr (.inr (.inr (.inl (f q a))))
  rcases h.db q h1 with b|b
  .rcases b with a|a|a|a|a
   .exact .inl (.inl a)
   .exact .inl (.inr (.inl a))
   .exact .inl (.inr (.inr (.inl a)))
   .rcases i q a with e|e|e
    .exact .inl (.inr (.inr (.inr (.inl e))))
    .exact .inl (.inr (.inr (.inr (.inr e))))
    .exact .inr e
   .exact a.elim
  .exact .inr b
 .rcases a with a|a|a|a
  .rcases h.fn q (.inl a) with b|b
   .rcases b with b|b|b|b
    .exact .inl (.inl b)
    .exact .inl (.inr (.inl b))
    .exact .inl (.inr (.inr (.inl b)))
    .exact b.elim
   .exact .inr b
  .exact .inl (.inr (.inl a))
  .exact .inl (.inr (.inr (.inl a)))
  .exact .inl (.inr (.inr (.inr a)))
theorem c6.cache{T:aP}{c:dh}{aD:bM}{w w':J}{k:Nat}(h:b_ T (T.bK aD T.P) w w' k)(a:∀j,aD.view j=T.C.view j):c6 T (T.bK aD T.P) c c [] [] w w' k:=
 ⟨h,rfl,λ_ h=>h,rfl,rfl,rfl,by simp,by simp,List.nodup_nil,λ_ h=>(by cases h),λno=>by simp[aP.bK],λno _=>⟨rfl,a no⟩,by simp[cj,aP.bK]⟩
theorem Ao{w w1:J}{T:aP}{c:dh}{Z:Nat->Prop}{no:Nat}{o:aB}(h:c5 w T c)(hx:Ext w w1)(g:∀q,Z q->w.heap.size<=q/\q<w1.heap.size)(y:T.C.D.aQ<=999999999)(z:T.P no=some o):
 aL aj 196 #[.pointer (some T.bf),no,o.leaf] w1 (λv w'=>∃aD:bM,(∀j,aD.view j=T.C.view j)/\ae (λq=>T.N q/\¬T.G q) w1 w'/\(∀q,(T.bK aD T.P).M q->T.M q\/w1.heap.size<=q)/\
  (∀f,ae Z w' f->c5 f (T.bK aD T.P) c/\c6 T (T.bK aD T.P) c c [] [] w f 2)/\
  ((∃ (K V D:ad),v=.tuple #[c0 o K V D,(0:Int)]/\bt (λq=>w1.heap.size<=q/\¬(T.bK aD T.P).M q) w' o K V D)\/(v=.tuple #[c0 qq bN bN bN,(3:Int)]/\¬T.C.D.calm 2))):=by
 obtain⟨A,i⟩:=h.t.eE no o z;obtain⟨bW,k⟩:∃bW,bW=λq=>T.E q\/T.G q\/Z q:=⟨_,rfl⟩;have d:∀q,T.E q\/T.G q\/Z q->bW q:=λq a=>by rw[k];exact a
 have l:∀q,bW q->T.E q\/T.G q\/Z q:=λq a=>by rw[k]at a;exact a
 have m:b4 w1 (T.ct bW λ_=>False):=h.t.grow (W:=λ_=>False) hx (λ_ h=>h.elim) (λq a=>(l q a).imp id (Or.imp id (g q))) (λ_ h=>h.elim) λ_ _ h=>h;have n:∀q,(T.ct bW λ_=>False).N q->T.N q/\¬T.G q:=λq a=>⟨by
  rcases a with a|a|a|a
  .exact .inl a
  .exact .inr (.inl a)
  .exact .inr (.inr (.inl a))
  .exact a.elim,λhg=>m.j4 (d q (.inr (.inl hg))) a⟩
 refine(Ae m y A i.two o.leaf).mono ?_;rintro v w' ⟨aD,B,ht,r,F⟩;have Q:=hx.size;have R:=ht.af.size;have s:=(b_.ext (T.ct bW λ_=>False) hx).trans ht;rw[cU]at s;have H:b_ T (T.bK aD T.P) w w' 2:=b_.read (E:=bW) s (λq a=>d q (a.imp id .inl)) λq a=>(l q a).imp id (Or.imp id λh=>(g q h).1);have u:ae (λq=>T.N q/\¬T.G q) w1 w':=ht.af.mono λq _ a=>n q a;refine⟨aD,r,u,λq a=>?_,λf hc=>?_,?_⟩
 .rcases a with a|a
  .exact(ht.fn q (.inl a)).imp (λh=>aP.hC (n q h).1) id
  .exact .inl (.inr a)
 .have I:b4 f (T.bK aD T.P):=B.grow (E:=T.E) (G:=T.G) hc (λq a _=>.inl (d q (.inr (.inr a)))) (λq a=>.inl (d q (.inl a))) (λq a=>.inl (d q (.inr (.inl a)))) λq a=>(h.t.dF q a).2.2
  refine⟨(h.ext hx).of (W:=λq=>(T.N q/\¬T.G q)\/Z q) I ((u.mono λq _ a=>.inl a).trans (hc.mono λq _ a=>.inr a)) (λq hg a=>?_) rfl (λ_ h=>h) ht.bB.1,c6.cache ?_ r⟩
  .rcases a with a|a
   .exact a.2 hg
   .have:=h.t.lt (q:=q) (.inr (.inr (.inr (.inr hg))))
    have:=(g q a).1;omega
  .exact H.step (E:=T.E) (G:=T.G) hc (λq a S=>by have:=(g q a).1;omega) (λq a=>.inl a) λq a=>.inl a
 .rcases F with ⟨bx,K,V,D,rfl,L,ej⟩|⟨e,rfl,O,U⟩
  .obtain rfl:=gr.uniq i L
   refine .inl ⟨K,V,D,rfl,ej.aY λq a x=>⟨x.1,λb=>x.2 ?_⟩⟩;rcases b with b|b|b|b|b
   .exact .inl b
   .exact .inr (.inl b)
   .exact .inr (.inr (.inl b))
   .exact .inr (.inr (.inr (.inl (d q (.inl b)))))
   .exact .inr (.inr (.inr (.inl (d q (.inr (.inl b))))))
  .refine .inr ?_
   rcases O with ⟨rfl,h1⟩|h1|⟨_,_,h1⟩
   .exact⟨rfl,h1⟩
   .obtain⟨p,av,_⟩:=i
    have h1:fa (no:Int) (T.C.view no)=.error e:=h1;rw[av]at h1;cases h1
   .exact absurd i (h1 o)
def iH(u:df):Nat:=if u.cz=0 then 1 else u.cz-1
def kx(u:df)(n o:aB):aB:=if u.cz<iH u then dv n (u.n.keys.getD (u.cz-1) []) o else dv o (u.n.keys.getD (u.cz-1) []) n
def wH(T:aP)(c:dh)(n:aB)(u:df)(w:J)(v:Y)(w':J):Prop:=
 (80<=br n/\∃ (s:ad) (e:Int),v=.tuple #[s,u.cz,.int .i64 ((u.cz+1:Nat):Int),e]/\gQ T c n w (.tuple #[s,e]) w')\/
 (br n<80/\∃ (bR:aP) (aT:dh),v=.tuple #[(),(0:Int),(0:Int),(3:Int)]/\c5 w' bR aT/\c6 T bR c aT [] [] w w' 2/\¬T.C.D.calm 2)\/
 (br n<80/\∃ (o:aB) (no:Nat) (bR:aP) (aT:dh) (w1:J) (s:ad) (e:Int),u.n.kids[iH u]? =some no/\T.P no=some o/\c6 T bR c aT [] [no] w w1 2/\
   v=.tuple #[s,.int .i64 ((u.cz-1:Nat):Int),.int .i64 ((u.cz-1+2:Nat):Int),e]/\gQ bR aT (kx u n o) w1 (.tuple #[s,e]) w')
theorem Fi{B:Nat->Prop}{w:J}{T:aP}{c:dh}{n:aB}{K V D:ad}(h:c5 w T c)(j:bt B w n K V D)(d:kt n)(o:T.C.D.aQ<=900000080)(k:2<=cj T)(l:c.made.length<=900):
 aL aj 248 #[.pointer (some c.cb),c0 n K V D,.pointer none] w (λv w'=>∃ (s:ad) (e:Int),v=.tuple #[s,(0:Int),(0:Int),e]/\gQ T c n w (.tuple #[s,e]) w'):=by
 refine okF (ah.mT (some c.cb) n.leaf K V D none) az.mT func248 ?_;(delta ah.mT ao aW aa r1 b7 aF au eR aK kT z4 r0 st bZ pR nW rU;dsimp only);refine bd (vs:=dY n K V D) rfl λw1 m f p=>?_;refine cH (λb w'=>b=true/\w1=w') (λq g=>⟨λ_=>g _ _ ⟨rfl,rfl⟩,λh=>(by cases h)⟩) ?_;rintro _ _ ⟨rfl,rfl⟩;refine⟨λ_=>uT (λa b w'=>a=0/\b=0/\w1=w') (λq g=>⟨λh=>(by cases h),λ_=>g _ _ _ ⟨rfl,rfl,rfl⟩⟩) ?_,λh=>(by cases h)⟩;rintro _ _ _ ⟨rfl,rfl,rfl⟩;obtain⟨bQ,aT,a8,bc⟩:=bC m;refine⟨_,bQ,K,aT,V,a8,D,bc,(tR (h.ext f) I k l (j.ext f) d.1 d.2.1 d.2.2).use ?_⟩;intro v w' i;obtain⟨s,e,rfl⟩:=i.out;exact⟨s,e,rfl,s,e,rfl,i.base f⟩
theorem Fj{w:J}{T:aP}{c:dh}{n:aB}{K V D:ad}{A:ag}{u:df}(h:c5 w T c)(ar:bt (λq=>¬T.M q) w n K V D)(hu:ku (λq=>¬T.M q) w A u)(av:cr n)(a5:br n<=400)(aq:80<=br n->kt n)
 (a6:br n<80->∃ (o:aB) (no:Nat),u.n.kids[iH u]? =some no/\T.P no=some o/\o.leaf=n.leaf/\u.cz-1<u.n.keys.length/\cR (u.n.keys.getD (u.cz-1) [])/\kt (kx u n o)) (bF:u.cz<=900)
 (bG:T.C.D.aQ<=900000080) (aR:2<=cj T) (aS:c.made.length<=900) (a7:c.left.length<=900):
 aL aj 248 #[.pointer (some ⟨c.cb,0,none⟩),c0 n K V D,.pointer (some A)] w (wH T c n u w):=by
 have bH:=av.fw I;refine okF (ah.mT (some ⟨c.cb,0,none⟩) n.leaf K V D (some A)) az.mT func248 ?_;(delta ah.mT ao aW aa r1 b7 aF au eR aK kT z4 r0 st bZ pR nW rU;dsimp only);refine bd (vs:=dY n K V D) rfl λw1 Y aU bI=>?_;obtain⟨y,a9⟩:∃y,y=w.heap.size:=⟨_,rfl⟩;rw[←a9]at Y⊢;refine cH (λb w'=>b=decide (80<=br n)/\Ext w1 w') (λq f=>⟨λh=>(by cases h),λ_=>?_⟩) ?_
 .obtain⟨bQ,aT,a8,bc⟩:=bC Y
  refine⟨_,bQ,K,aT,V,a8,D,bc,(mV (ar.ext aU) av I).use ?_⟩;rintro _ bJ ⟨rfl,a_⟩;refine⟨_,rfl,f _ _ ⟨?_,a_⟩⟩;rw[fA,cA,cA];omega
 rintro _ p ⟨rfl,ab⟩;have ac:=aU.trans ab;refine⟨λg=>?_,λg=>?_⟩
 .have g:=cu g
  have O:=aq g;refine uT (λa b w'=>a=(u.cz:Nat)/\b=((u.cz+1:Nat):Int)/\Ext p w') (λq f=>⟨λ_=>?_,λh=>(by cases h)⟩) ?_
  .have z:Ext p p.drew:=cJ _
   have aV:=hu.ext (ac.trans z);refine aX ⟨A,rfl,id,_,aV.cF,A,rfl,id,_,aV.cF,f _ _ _ ⟨rfl,?_,z⟩⟩;rw[bz I I];rfl
  rintro _ _ bL ⟨rfl,rfl,aZ⟩;have r:=ac.trans aZ;obtain⟨bQ,aT,a8,bc⟩:=bC (Y.ext (ab.trans aZ));refine⟨_,bQ,K,aT,V,a8,D,bc,(tR (h.ext r) I aR aS (ar.ext r) O.1 O.2.1 O.2.2).use ?_⟩;intro v w' ai;obtain⟨s,e,rfl⟩:=ai.out;exact⟨s,e,rfl,.inl ⟨g,s,e,rfl,ai.base r⟩⟩
 .have g:¬80<=br n:=cQ g
  obtain⟨o,no,aw,ak,ax,a0,ba,O⟩:=a6 I;obtain⟨bP,bb⟩:=h.t.eE no o ak;obtain⟨_,be,bS⟩:=bb.is;have al:=hu.ext ac;refine⟨A,rfl,_,al.cF,((u.cz-1:Nat):Int),p,?_,?_⟩
  .rw[run_max_int2]
   congr 2
   by_cases h0:u.cz=0
   .rw[h0];rfl
   .rw[bz I I,if_neg I];omega
  refine cH (λa w'=>a=(iH u:Nat)/\p=w') (λq f=>⟨A,rfl,_,al.cF,λh0=>f _ _ ⟨?_,rfl⟩,λh0=>f _ _ ⟨?_,rfl⟩⟩) ?_
  .have:u.cz=0:=by simpa using h0
   unfold iH;rw[if_pos this];rfl
  .have:u.cz≠0:=by simpa using h0
   unfold iH;rw[if_neg this]
  rintro _ _ ⟨rfl,rfl⟩;have bf:iH u<u.n.kids.length:=(jL.1 aw).1;obtain⟨bq,bg,bh,a1⟩:=cw.at al.bO.kids bf;have bi:u.n.kids[iH u]=no:=(jL.1 aw).2;rw[bi]at a1;refine⟨A,rfl,u.D,al.eZ,bq,bg,bh,_,a1,aX ?_⟩;have z:Ext p p.drew:=cJ _;obtain⟨B,bj⟩:∃B,B=p.drew:=⟨_,rfl⟩;rw[←bj]at z⊢;have r:=ac.trans z;have ay:=h.ext r;have bT:=r.size;have bV:=(ab.trans z).size;have aA:=Y.ext (ab.trans z);have aC:∀q,T.M q->q<w.heap.size:=λq f=>h.t.lt f;have a2:u.n.keys.getD (u.cz-1) []=u.n.keys[u.cz-1]:=by rw[fI,dI a0];rfl
  have fin:∀ (aD:bM) (aG:Nat) (i k l:ad) (d:J),c5 d (T.bK aD T.P) c->c6 T (T.bK aD T.P) c c [] [] B d 2->Var d y (dY n K V D) 202->Var d aG (dY o i k l) 202->B.heap.size<=aG->¬(T.bK aD T.P).M aG->bt (λq=>¬(T.bK aD T.P).M q) d o i k l->
   wG y aG (some ⟨c.cb,0,none⟩) (some A) ((u.cz-1:Nat):Int) (iH u:Nat) (no:Nat) 0 d (λv w'=>wH T c n u w v w'):=by
   intro aD aG i k l d E am bk bm bW bn bo;have a3:=((c6.ext T c r).trans am).mono (j:=2) I;have aE:=a3.to;have bp:¬(T.bK aD T.P).M y:=λQ=>by
    rcases am.to.db y Q with h1|h1
    .have:=aC _ h1;omega
    .omega
   have bs:bt (λq=>¬(T.bK aD T.P).M q) d n K V D:=(aE.bO (lo:=0) (ar.aY λq _ g=>⟨cX _,g⟩)).aY λq _ g=>g.2;have bu:(T.bK aD T.P).C.D.aQ<=900000090:=ei aE.aQ I;refine Fh E bk bm bp bn bs bo (hu.to aE) bu aR aS a7 av be a5 I ax a0 (by rw[←a2];exact ba) (kx u n o) (by unfold kx;rw[a2]) O I ?_;intro s e bR aT bv w' bw hf;exact .inr (.inr ⟨I,o,no,bR,aT,bv,s,e,aw,ak,(a3.trans bw).mono I,rfl,hf⟩)
  have an:∀q,T.N q->q<w.heap.size:=λq f=>aC q (aP.hC f);have err:∀ (aD:bM) (d:J),c5 d (T.bK aD T.P) c->c6 T (T.bK aD T.P) c c [] [] B d 2->¬T.C.D.calm 2->wH T c n u w (.tuple #[.slice none 0 0,.int .i64 0,.int .i64 0,.int .i64 3]) d:=by
   intro aD d E am R;exact .inr (.inl ⟨I,_,c,rfl,E,((c6.ext T c r).trans am).mono I,R⟩)
  obtain⟨bQ,aT,a8,bc⟩:=bC aA;refine⟨λq=>T.N q/\¬T.G q,_,rfl,λf=>f.2 h.gc,_,ay.cells.1,(λf=>by have:=an _ f.1;show False;exact absurd this (by show¬y<w.heap.size;omega)),_,bQ,?_,?_⟩
  .rw[←ax]
   refine(Ao (Z:=λ_=>False) ay (ae.refl _ _) (λ_ h=>h.elim) I ak).use ?_;rintro _ H ⟨aD,ai,x,a4,S,aH⟩;have bx:=x.size;rcases aH with ⟨i,k,l,rfl,aI⟩|⟨rfl,R⟩
   .refine⟨_,i,k,l,0,rfl,x,bd (vs:=[.bool false,.slice none 0 0,.slice none 0 0,.slice none 0 0]) rfl λbA U W bB=>⟨ae.cN W,U.bU rfl fO,rfl,cl U (us:=dY o i k l) rfl rfl λd X m aJ=>?_⟩⟩
    have F:Ext H d:=Ext.cC W m (bl _);obtain⟨ap,aM⟩:=S H (ae.refl _ _);have L:=aA.af x λf=>by have:=an _ f.1;omega
    refine fin aD H.heap.size i k l d (ap.ext F) ((aM.trans (c6.ext _ _ F)).mono I) (L.ext F) X I (λQ=>by have:=ap.t.lt Q;omega) ?_;exact(aI.ext F).aY λq _ g=>g.2
   .refine⟨_,bN,bN,bN,3,rfl,x,bd (vs:=[.bool false,.slice none 0 0,.slice none 0 0,.slice none 0 0]) rfl λbA U W bB=>⟨ae.cN W,U.bU rfl fO,rfl,cl U (us:=dY qq bN bN bN) rfl rfl λd X m aJ=>⟨λ_=>?_,λg=>(by cases g)⟩⟩⟩
    have F:Ext H d:=Ext.cC W m (bl _);obtain⟨ap,aM⟩:=S H (ae.refl _ _);exact err aD d (ap.ext F) ((aM.trans (c6.ext _ _ F)).mono I) R
  .refine bd (vs:=[.bool false,.slice none 0 0,.slice none 0 0,.slice none 0 0]) rfl λbX bD aN bY=>⟨ae.cN aN,?_⟩
   rw[←ax];refine(Ao (Z:=λq=>q=B.heap.size) ay aN (λq e=>⟨I,I⟩) I ak).use ?_;rintro _ H ⟨aD,ai,x,a4,S,aH⟩;have bx:=x.size;have L:=bD.af x λf=>by have:=an _ f.1;omega
   have bE:=(aA.ext aN).af x λf=>by have:=an _ f.1;omega
   rcases aH with ⟨i,k,l,rfl,aI⟩|⟨rfl,R⟩
   .refine⟨_,i,k,l,0,rfl,L.bU rfl fO,rfl,cl L (us:=dY o i k l) rfl rfl λd X m aJ=>?_⟩
    obtain⟨E,aO⟩:=S d m;refine fin aD B.heap.size i k l d E aO (bE.af m I) X (bl _) (λQ=>?_) ?_
    .rcases a4 _ Q with h1|h1
     .have:=aC _ h1;omega
     .omega
    .refine(bt.af aI m λq f e=>by have:=f.1;omega).aY λq _ g=>g.2
   .refine⟨_,bN,bN,bN,3,rfl,L.bU rfl fO,rfl,cl L (us:=dY qq bN bN bN) rfl rfl λd X m aJ=>⟨λ_=>?_,λg=>(by cases g)⟩⟩
    obtain⟨E,aO⟩:=S d m;exact err aD d E aO R
structure wI(T ax:aP)(l:O Nat)(w w':J):Prop where
 to:b_ T ax w w' 0
 E:ax.E=T.E
 G:ax.G=T.G
 root:ax.root=T.root
 aH:ax.aH=T.aH
 f:∀no,ax.f no=(T.f no&& !decide (no∈l))
 ee:∀no,(no∉l\/T.g no=true)->ax.P no=T.P no/\ax.C.view no=T.C.view no
theorem Ap{w:J}{T:aP}{c:dh}{s:ad}{l:O Nat}(h:c5 w T c)(hs:Src 1 w s (fj l))(B:∀q,aC s q->T.G q)(R:∀x∈l,T.f x=true)(ej:l.Nodup)(ak:l.length<=10000):
 aL aj 207 #[.pointer (some c.cb),s] w (λv w'=>v=.tuple #[]/\∃ax:aP,c5 w' ax c/\wI T ax l w w'):=by
 have al:s.len=l.length:=by have:=hs.len;rw[oI]at this;omega
 refine okF (ah.sQ (some c.cb) s) az.sQ func207 ?_;(delta ah.sQ ao aK aF cc b7 au;dsimp only);refine⟨λi w'=>∃ (j:Nat) (ax:aP),i=j/\j<=l.length/\c5 w' ax c/\wI T ax (l.take j) w w'/\Src 1 w' s (fj l),λi _=>((l.length:Int)-i).toNat,⟨0,T,rfl,cX _,h,⟨.refl _ _,rfl,rfl,rfl,rfl,λno=>by simp,λ_ _=>⟨rfl,rfl⟩⟩,hs⟩,?_⟩;rintro _ am ⟨j,bR,rfl,an,h1,hg,C⟩;refine⟨λaI=>?_,λr=>?_⟩
 .have aI:j<l.length:=by
   have:(j:Int)<(s.len:Int):=cu aI;omega
  have D:bR.f l[j]=true:=by
   rw[hg.f,R _ (cI aI)];have:l[j]∉l.take j:=λS=>by
    obtain⟨i,hi,he⟩:=e0 S;rw[cK]at hi;rw[pg]at he;have:=(List.getElem_inj ej).1 he;omega
   simp[this]
  have ap:l[j]<bR.n:=by
   rcases ed l[j] bR.n with a|a
   .exact a
   .have:=h1.t.s.pf _ a
    rw[D]at this;cases this
  obtain⟨A,aq,U,hc⟩:=C.at (i:=j) (v:=.int .i64 ((l[j]:Nat):Int)) (by simp[fj,aI]);refine kh (λw'=>∃bZ:aP,c5 w' bZ c/\wI T bZ (l.take (j+1)) w w'/\Src 1 w' s (fj l)) (λq d=>⟨A,aq,U,_,hc,_,rfl,_,h1.cells.1,_,rfl,_,h1.t.cells.2.1,(EH h1.t.s _).use ?_⟩) ?_
  .rintro _ _ ⟨rfl,rfl⟩
   refine⟨_,rfl,_,rfl,_,h1.cells.1,_,rfl,_,h1.t.cells.2.1,(zR h1.t.s _).use ?_⟩;rintro _ F ⟨rfl,hM,u⟩;have V:l0 bR.f bR.n ((l[j]:Nat):Int)=da bR.f l[j] false:=by
    unfold l0;rw[if_pos ⟨I,I⟩,dO]
   rw[V]at hM;obtain⟨W,H⟩:=h1.t.tO hM u;have k:c5 F (bR.hD (da bR.f l[j] false)) c:=h1.of W u (λq d hf=>(h1.t.iq q d).2 hf) rfl λ_ h=>h;have K:Src 1 F s (fj l):=C.af u λq d hf=>(h1.t.iq q (by rw[hg.G];exact B q d)).2 hf;have X:(decide ((0:Int)<=((l[j]:Nat):Int))&&decide (((l[j]:Nat):Int)<(bR.n:Nat))&&bR.f (Int.toNat ((l[j]:Nat):Int))&& !(bR.g (Int.toNat ((l[j]:Nat):Int))))= !(bR.g l[j]):=by
    rw[dO,D,dw I,dw I];simp
   have L:∀no,da bR.f l[j] false no=(T.f no&& !decide (no∈l.take (j+1))):=λno=>by
    rw[j_ aI];unfold da;by_cases e:no=l[j]
    .rw[if_pos e,e,dw (cL.2 (.inr (fo.2 rfl)))]
     exact(Bool.and_false _).symm
    .rw[if_neg e,hg.f]
     have Y:decide (no∈l.take j++ [l[j]])=decide (no∈l.take j):=by
      rw[fA,cA,cA,cL,fo];exact⟨λh=>h.resolve_right e,.inl⟩
     rw[Y]
   rw[X];refine⟨_,rfl,λy=>⟨_,rfl,_,k.cells.1,_,rfl,_,k.t.cells.1,(Ab k.t.ca _).use ?_⟩,λy=>d _ ⟨_,k,⟨?_,hg.E,hg.G,hg.root,hg.aH,L,λno m=>?_⟩,K⟩⟩
   .rintro _ ar ⟨⟨b,rfl⟩,aD,Z,o,M,_⟩
    have aa:T.g l[j]=false:=by
     have a:bR.g=T.g:=hg.to.g;rw[a]at y;simpa using y
    obtain⟨ab,ac⟩:=k.t.oV (P:=λno=>if no=l[j] then none else bR.P no) Z o (λno bO p=>by
     by_cases e:no=l[j]
     .rw[if_pos e]at p;cases p
     .rw[if_neg e]at p
      rw[M no e];exact h1.t.eE no bO p)
    have ae:=k.of (ax:=(bR.hD (da bR.f l[j] false)).bK aD λno=>if no=l[j] then none else bR.P no) ab o.af (λq d=>k.t.wC d) rfl (λ_ h=>h) o.bB;refine⟨b,rfl,d _ ⟨_,ae,⟨?_,hg.E,hg.G,hg.root,hg.aH,L,λno m=>?_⟩,?_⟩⟩
    .exact((hg.to.trans H).trans ac).mono I
    .have N:no≠l[j]:=λe=>by
      rcases m with a|a
      .exact a (by rw[j_ aI,e];exact cL.2 (.inr (fo.2 rfl)))
      .rw[e,aa]at a;cases a
     have Q:=hg.ee no (m.imp (λa z=>a (by rw[j_ aI];exact cL.2 (.inl z))) id);exact⟨(if_neg N).trans Q.1,(M no N).trans Q.2⟩
    .exact K.af o.af λq d=>k.t.wC (by show bR.G q;rw[hg.G];exact B q d)
   .exact(hg.to.trans H).mono I
   .exact hg.ee no (m.imp (λa z=>a (by rw[j_ aI];exact cL.2 (.inl z))) id)
  .rintro av ⟨bZ,a,ag,ai⟩
   rw[bz (n:=(j:Int)+1) I I];refine⟨⟨j+1,bZ,I,I,a,ag,ai⟩,?_⟩;show((l.length:Int)-((j:Int)+1)).toNat<((l.length:Int)-(j:Int)).toNat;omega
 .have r:j=l.length:=by
   have:¬(j:Int)<(s.len:Int):=cQ r;omega
  subst r;rw[jj]at hg;exact⟨rfl,bR,h1,hg⟩
theorem ot{B:Nat->Prop}{w:J}{n:aB}{K V D:ad}(c:bt B w n K V D)(aH:Nat)(h:aH<=100)(d:n.leaf=false->∃x,n.kids=[x]/\1<=aH):
 aL aj 247 #[c0 n K V D,aH] w (λv w'=>v=(if n.leaf then .tuple #[(0:Int),(0:Int),(0:Int)] else .tuple #[.int .i64 ((n.kids.getD 0 0:Nat):Int),.int .i64 ((aH-1:Nat):Int),(0:Int)])/\Ext w w'):=by
 refine okF (ah.ot n.leaf K V D (aH:Nat)) az.ot func247 ?_;(delta ah.ot aW aa ao r1 aK aF au;dsimp only);refine bd (vs:=dY n K V D) rfl λw1 e b j=>?_;obtain⟨bQ,aT,a8,bc⟩:=bC e;refine⟨_,bQ,λa=>⟨by rw[if_pos a],b⟩,λa=>?_⟩;obtain⟨x,hx,h1⟩:=d a;obtain⟨A,aq,f,hc⟩:=cw.at (c.ext b).kids (i:=0) (by rw[hx];simp);refine⟨D,bc,A,aq,f,_,hc,?_,b⟩;have g:(aH:Int)-1=((aH-1:Nat):Int):=by omega
 rw[if_neg (by rw[a];simp),bz I I,g];simp only[hx];rfl
def wJ(T:aP)(c:dh)(ks:O Key)(kids:O Nat)(w:J)(v:Y)(w':J):Prop:=
 (∃x,ks=[]/\kids=[x]/\v=.tuple #[x,T.aH,(0:Int)]/\c5 w' T c/\Ext w w')\/
 (∃ (k:Key) (x y no:Nat) (ax:aP) (c':dh),ks=[k]/\kids=[x,y]/\c5 w' ax c'/\c6 T ax c c' [no] [] w w' 1/\
   ((v=.tuple #[no,.int .i64 ((T.aH+1:Nat):Int),(0:Int)]/\ax.P no=some ⟨false,[k],[],[x,y]⟩)\/(v=.tuple #[no,.int .i64 ((T.aH+1:Nat):Int),(3:Int)]/\¬T.C.D.calm 1)))
theorem Aq(K D:Nat)(w:J):Sem.run aj (Instr.build 202 #[(1,.slice (some K) 1 1),(3,.slice (some D) 2 2)]) w=.ok (.agg #[false,.slice (some K) 1 1,(),.slice (some D) 2 2]) w:=by kernel_rfl
theorem Var.Ar{w:J}{b:Nat}{vs:O Y}{T:TypeId}(h:Var w b vs T):Src 1 w ⟨some b,vs.length,vs.length⟩ vs:=by
 refine⟨by show _=vs.length*1;omega,(λh=>by cases h),λa c=>?_⟩
 cases c;show bE w b 0 (vs.length*1)=_;rw[fH,h.rd rfl]
theorem Fk{w:J}{t:ad}{k:Key}(b:Nat)(a:Var w b [t] 48)(ht:bn (λ_=>True) w t k):a_ (λ_=>True) w ⟨some b,1,1⟩ [k]:=by
 refine⟨[t],rfl,a.Ar,bl _,λq c=>⟨trivial,?_⟩,λi h1 d=>?_⟩
 .obtain⟨A,aq,rfl⟩:=c
  cases aq;exact a.lt
 .have:i=0:=by simp at h1;omega
  subst this;exact ht
theorem Fl{w:J}{x y:Nat}(b:Nat)(a:Var w b [x,y] 3):cw (λ_=>True) w ⟨some b,2,2⟩ [x,y]:=by
 refine⟨a.Ar,bl _,λq c=>⟨trivial,?_⟩⟩;obtain⟨A,aq,rfl⟩:=c
 cases aq;exact a.lt
theorem Fm{w:J}{T:aP}{c:dh}{s:ad}{ks:O Key}{kids:O Nat}(h:c5 w T c)(K:j7 (λq=>¬T.M q) w s ks kids)(A:kids.length=2->T.aH<12)(hs:∀k x y,ks=[k]->kids=[x,y]->cR k/\x<1600/\y<1600)
 (ar:T.C.D.aQ<=900000080) (L:1<=cj T) (av:c.made.length<=900):
 aL aj 249 #[.pointer (some ⟨c.cb,0,none⟩),.slice s.a s.len s.cap] w (wJ T c ks kids w):=by
 have aw:=h.t.num.2.1;refine okF (ah.sY (some ⟨c.cb,0,none⟩) s) az.sY func249 ?_;(delta ah.sY ao aK aF r1 aa ic au;dsimp only);have o:Ext w w.drew:=cJ w;have hd:=h.ext o;rcases K with ⟨b,x,rfl,rfl,rfl,l,B⟩|⟨b,x,y,k,t,rfl,rfl,rfl,l,B,ht,aA⟩
 .refine⟨λ_=>aX ⟨_,rfl,⟨by decide,by show(0:Int)<((1:Nat):Int);decide⟩,id,_,by rw[ay,ay];exact l.drew.cell,_,rfl,id,_,hd.cells.1,_,rfl,id,_,hd.t.cells.2.2.2.2,?_⟩,λh=>(by cases h)⟩
  exact .inl ⟨x,rfl,rfl,rfl,hd,o⟩
 .have A:=A rfl
  obtain⟨s1,s2,aB⟩:=hs k x y rfl rfl;refine⟨λh=>(by cases h),λ_=>⟨_,rfl,_,h.cells.1,_,rfl,_,h.t.cells.2.2.2.2,λP=>?_,λ_=>?_⟩⟩
  .have:((T.aH:Nat):Int)=12:=by simpa using P
   omega
  have Q:cr ⟨false,[k],[],[x,y]⟩:=.inr ⟨⟨λaC R=>by rw[fo.1 R];exact s1,List.pairwise_singleton _ _⟩,rfl,by simp,rfl,rfl,λz E=>by
   simp only[c7,ff,fp]at E;rcases E with rfl|rfl<;>assumption⟩
  have S:br ⟨false,[k],[],[x,y]⟩<=232:=by
   have:=s1.2;simp[br,cellsOf];omega
  have r:¬T.N b:=λU=>B (aP.hC U);have fin:∀ (d:J) (ba aK:Nat),Ext w d->Var d ba [.slice t.a t.len t.cap] 48->Var d aK [.int .i64 (x:Nat),.int .i64 (y:Nat)] 3->
   aL aj 283 #[.pointer (some ⟨c.cb,0,none⟩),.agg #[.bool false,.slice (some ⟨ba,0,none⟩) 1 1,.slice none 0 0,.slice (some ⟨aK,0,none⟩) 2 2]] d (λv w'=>∃n27:Int,∃n28:Int,v=.tuple #[.int .i64 n27,.int .i64 n28]/\ae T.N d w'/\
    ∀e,Ext w' e->wJ T c [k] [x,y] w (.tuple #[.int .i64 n27,.int .i64 ((T.aH+1:Nat):Int),.int .i64 n28]) e/\∃ax c',c5 e ax c'/\c'.cb=c.cb/\ax.bf=T.bf/\ax.aH=T.aH):=by
   intro d ba aK hx V W;have ej:bt (λ_=>True) d ⟨false,[k],[],[x,y]⟩ ⟨some ⟨ba,0,none⟩,1,1⟩ ⟨none,0,0⟩ ⟨some ⟨aK,0,none⟩,2,2⟩:=by
    exact⟨Fk ba V (bn.aY (bn.ext ht hx) λ_ _ _=>trivial),a_.none _ _,Fl aK W⟩
   refine(tQ (h.ext hx) I L I ej Q S).mono ?_;rintro v w' ⟨no,ax,c',p,f,X⟩;have F:=((c6.ext T c hx).trans f).mono (j:=1) I;rcases X with ⟨rfl,Y⟩|⟨rfl,Z⟩
   .refine⟨_,_,rfl,f.to.af,λe g=>⟨.inr ⟨k,x,y,no,ax,c',rfl,rfl,p.ext g,(F.trans (c6.ext ax c' g)).mono I,.inl ⟨rfl,Y⟩⟩,ax,c',p.ext g,f.cb,f.to.bf,f.aH⟩⟩
   .refine⟨_,_,rfl,f.to.af,λe g=>⟨.inr ⟨k,x,y,no,ax,c',rfl,rfl,p.ext g,(F.trans (c6.ext ax c' g)).mono I,.inr ⟨rfl,Z⟩⟩,ax,c',p.ext g,f.cb,f.to.bf,f.aH⟩⟩
  have ab:IntKind.wrap .i64 (((T.aH:Nat):Int)+1)=((T.aH+1:Nat):Int):=by rw[bz I I];rfl
  refine uT (λa b w'=>∀e,Ext w' e->wJ T c [k] [x,y] w (.tuple #[.int .i64 a,.int .i64 ((T.aH+1:Nat):Int),.int .i64 b]) e/\∃ax c',c5 e ax c'/\c'.cb=c.cb/\ax.bf=T.bf/\ax.aH=T.aH) (λq G=>aX ⟨T.N,_,rfl,⟨by decide,by show(1:Int)<((2:Nat):Int);decide⟩,r,t,by rw[ay];exact l.drew.cell,_,rfl,⟨by decide,by show(0:Int)<((2:Nat):Int);decide⟩,r,_,by rw[ay,ay];exact l.drew.cell,_,rfl,⟨by decide,by show(1:Int)<((2:Nat):Int);decide⟩,r,_,by rw[ay,ay];exact l.drew.cell,?_,?_⟩) ?_
  .refine bd (vs:=[.slice t.a t.len t.cap]) rfl λu ac m ag=>⟨ae.cN m,bd (vs:=[.int .i64 (x:Nat),.int .i64 (y:Nat)]) rfl λd ai i ak=>⟨ae.cN i,_,λ_=>Aq _ _ _,?_⟩⟩
   refine(fin d w.drew.heap.size u.heap.size (o.trans (m.trans i)) (ac.ext i) ai).use ?_;rintro _ w' ⟨n27,n28,rfl,hc,n⟩;exact⟨n27,n28,rfl,hc,G _ _ _ n⟩
  .refine bd (vs:=[.int .i64 (x:Nat),.int .i64 (y:Nat)]) rfl λu al m ag=>⟨ae.cN m,bd (vs:=[.slice t.a t.len t.cap]) rfl λd am i ak=>⟨ae.cN i,_,λ_=>Aq _ _ _,?_⟩⟩
   refine(fin d u.heap.size w.drew.heap.size (o.trans (m.trans i)) am (al.ext i)).use ?_;rintro _ w' ⟨n27,n28,rfl,hc,n⟩;exact⟨n27,n28,rfl,hc,G _ _ _ n⟩
  .intro a b an n
   obtain⟨h1,ax,c',H,ap,aD,aq⟩:=n _ (cJ an);have hc:=H.cells.1;rw[ap]at hc;have ht:=H.t.cells.2.2.2.2;refine aX ⟨_,rfl,id,_,hc,_,rfl,id,_,ht,?_⟩;rw[aq,ab];exact h1
end Go.Proofs.YtkdhdlfonmgheaaGreat
