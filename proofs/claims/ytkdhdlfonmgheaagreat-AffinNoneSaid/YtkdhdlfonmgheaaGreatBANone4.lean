/- Contracts of the functions that the statement reaches, and the plain laws over them; each theorem stands with its conditions. -/
import Derived.Laws.Small
import Derived.Test.YtkdhdlfonmgheaaGreatBANone3
namespace Go.Proofs.YtkdhdlfonmgheaaGreat
open Go aQ Go.Proofs.Tryz
def qY(fs:O Fr):Prop:=∀ (i j:Nat) (hi:i<fs.length) (a:j<fs.length),(fs[i]).full=true->(fs[j]).full=true->(fs[i]).no=(fs[j]).no->i=j
theorem Ax{fs gs:O Fr}{D aw:a6}{c aV hd c' n o j:Nat}(p:qY fs)(q:qY gs)(h1:∀ (i:Nat) (hi:i<fs.length),(fs[i]).full=true->(fs[i]).no=j->∃ (k:Nat) (a:k<gs.length),(gs[k]).full=true/\(gs[k]).no=j/\(gs[k]).l=(fs[i]).l)
 (b:(∀f∈fs,f.full=true->f.no≠j)->(∀f∈gs,f.full=true->f.no≠j)/\aw.now j=D.now j):(bN.mk c' n gs o aw).view j=(bN.mk c aV fs hd D).view j:=by
 by_cases hex:∃ (k:Nat) (a:k<fs.length),(fs[k]).full=true/\(fs[k]).no=j
 .obtain⟨k,a,av,g⟩:=hex
  obtain⟨m,r,d,e,s⟩:=h1 k a av g;rw[k8 p a av g,k8 q r d e,s]
 .have h:∀f∈fs,f.full=true->f.no≠j:=λf hf h1 b=>by
   obtain⟨k,a,rfl⟩:=e3 hf;exact hex ⟨k,a,h1,b⟩
  obtain⟨d,e⟩:=b h;rw[l8 h,l8 d,e]
section
variable {w w':J}{C:bN}{X:Nat->Prop}
theorem wQ{i:Nat}(hi:i<C.ak.length){no:Nat}{V:Nat->Prop}(h:fO X w C)(hc:ae V w w')(e5:∀q,q<w.heap.size->V q->cR C q){aw:a6}(s:jH aw C.D)(B:∀j,aw.now j=C.D.now j)(E:∀q,cd aw q↔cd C.D q)
 (d:Fr) (Q:d.full=true) (F:d.pins=0) (t:Ap X w' {C with ak:=C.ak.set i d,D:=aw} d no) (u:∀ (k:Nat) (v:k<C.ak.length),k≠i->(C.ak[k]).full=true->(C.ak[k]).no≠no):fO X w' {C with ak:=C.ak.set i d,D:=aw}:=by
 have G:=hc.size;have x:∀q,cR {C with ak:=C.ak.set i d,D:=aw} q->cR C q:=λq hf=>by
  rcases hf with h1|h1|h1
  .exact .inl h1
  .exact .inr (.inl h1)
  .exact .inr (.inr ((E q).1 h1))
 refine⟨λf hf=>?_,λf hf y=>?_,λa b H g h1 o c=>?_,λq p=>⟨ft (h.eK q p).1 G,λhf=>(h.eK q p).2 (x q hf)⟩,s.2.2⟩
 .rcases lq hf with hf|rfl
  .exact h.pins f hf
  .exact F
 .obtain⟨k,v,rfl⟩:=e3 hf
  have I:k<C.ak.length:=by simpa using v
  by_cases e:i=k
  .subst e
   simp only[g5];exact⟨no,t⟩
  .simp only[eY e]at y⊢
   obtain⟨m,av,J,K,L,M,N,O⟩:=h.ok _ (cK I) y;exact⟨m,av,by show m<aw.n;rw[s.1];exact J,bo.re K hc (λq p g P=>g.1 (e5 q p P)) λq _ g=>⟨λhf=>g.1 (x q hf),g.2⟩,L,λhd=>by show _=aw.now m;rw[B];exact M hd,λhs=>N (s.2.1 _ hs),O⟩
 .have z:a<C.ak.length:=by simpa using H
  have A:b<C.ak.length:=by simpa using g
  by_cases r:i=a
  .by_cases l:i=b
   .omega
   .subst r
    simp only[g5]at c;simp only[eY l]at o c;exact absurd (by rw[←c];exact t.num) (u b A (λe=>l e.symm) o)
  .by_cases l:i=b
   .subst l
    simp only[g5]at c;simp only[eY r]at h1 c;exact absurd (by rw[c];exact t.num) (u a z (λe=>r e.symm) h1)
   .simp only[eY r]at h1 c
    simp only[eY l]at o c;exact h.un a b z A h1 o c
theorem Fi{i:Nat}(hi:i<C.ak.length){no:Nat}(h:qY C.ak)(j:Fr)(l:j.no=no)(m:∀ (k:Nat) (r:k<C.ak.length),k≠i->(C.ak[k]).full=true->(C.ak[k]).no≠no):qY (C.ak.set i j):=by
 intro a b p q h1 f c;have n:a<C.ak.length:=by simpa using p
 have o:b<C.ak.length:=by simpa using q
 by_cases g:i=a
 .by_cases d:i=b
  .omega
  .subst g
   simp only[g5]at c;simp only[eY d]at f c;exact absurd (by rw[←c];exact l) (m b o (λe=>d e.symm) f)
 .by_cases d:i=b
  .subst d
   simp only[g5]at c;simp only[eY g]at h1 c;exact absurd (by rw[c];exact l) (m a n (λe=>g e.symm) h1)
  .simp only[eY g]at h1 c
   simp only[eY d]at f c;exact h a b n o h1 f c
theorem wR{i:Nat}(hi:i<C.ak.length){no:Nat}(h:qY C.ak){aw:a6}(n:∀j,aw.now j=C.D.now j)(a:Fr)(o:a.full=true)(d:a.no=no)(hold:(C.ak[i]).full=true->(C.ak[i]).no=no)(p:∀ (k:Nat) (m:k<C.ak.length),k≠i->(C.ak[k]).full=true->(C.ak[k]).no≠no){hd:Nat}(j:Nat):
 (bN.mk C.c C.aV (C.ak.set i a) hd aw).view j=if j=no then a.l else C.view j:=by
 have hu:=Fi hi h a d p;have q:i<(C.ak.set i a).length:=by simpa using hi
 by_cases e:j=no
 .subst e
  rw[if_pos rfl,k8 hu q (by simp[o]) (by simpa using d)];simp
 .rw[if_neg e]
  refine Ax (fs:=C.ak) (D:=C.D) (c:=C.c) (aV:=C.aV) (hd:=C.hand) h hu (λk m av b=>?_) λr=>⟨λf hf av b=>?_,n j⟩
  .have g:i≠k:=λs=>by
    subst s;have:=hold av;rw[b]at this;exact e I
   have t:k<(C.ak.set i a).length:=by simpa using m
   exact⟨k,t,by simp only[eY g];exact av,by simp only[eY g];exact b,by simp only[eY g]⟩
  .rcases lq hf with hf|rfl
   .exact r f hf av b
   .rw[d]at b
    exact e I
def Fj(X:Nat->Prop)(C:bN)(no:Nat)(w:J)(v:Y)(w':J):Prop:=
 ∃aD:bN,dC X w' aD/\dO C aD w w' 2/\(∀j,aD.view j=C.view j)/\
  ((∃s:ad,v=.tuple #[s,(0:Int)]/\bo (λq=>w.heap.size<=q/\¬cR aD q/\¬X q) w' s (C.view no))\/(v=.tuple #[(),(3:Int)]/\¬C.D.calm 2))
theorem Fk(h:dC X w C)(a6:C.D.aR<=999999999){no:Nat}(aC:no<C.D.n)(aD:2<=no):aH ai 239 #[.pointer (some C.c),no] w (Fj X C no w):=by
 have r:=h.raw;refine okF (ag.th (some C.c) (no:Int)) az.th func239 ?_;(delta ag.th b_ ao g9 st r1 bG gK dS;dsimp only);refine(Aq r _).use ?_;rintro _ _ ⟨rfl,rfl⟩;refine⟨_,rfl,λF=>?_,λ_=>(ug r _).use ?_⟩
 .have:decide (0<=(no:Int)/\(no:Int)<C.D.n)=true:=dU ⟨I,I⟩
  rw[this]at F;cases F
 rintro _ _ ⟨aE,rfl⟩;rcases aE with ⟨i,hi,rfl,hf,aF⟩|⟨rfl,aG⟩
 .
  obtain⟨av,aI,L,H⟩:=l6 r.f hi (j:=2) (by decide) (v:=true) {C.ak[i] with used:=true} rfl;have aa:gU C.ak (C.ak.set i {C.ak[i] with used:=true}):=(gU.refl C.ak).set hi true;have J:ae (cR C) w (w.setCell ⟨C.aV,i*6+2,none⟩ true):=H.mono λq _ e=>.inr (.inl e);have hinv:=qW (hd:=C.hand) (aw:=C.D) h.inv aa J (λq _ h=>h) h.inv.qT (λ_=>rfl) λq p=>.inl p;have aJ:=qX (hd:=C.hand) (aw:=C.D) h.inv aa λ_=>rfl;obtain⟨w1,ab⟩:∃w1,w1=w.setCell ⟨C.aV,i*6+2,none⟩ true:=⟨_,rfl⟩;rw[←ab]at L H J hinv;have M:eP w1 {C with ak:=C.ak.set i {C.ak[i] with used:=true}}:=by
   refine⟨?_,L,r.dev.af H (λq p e=>r.a1.2.2 (e▸p)),?_,?_,?_,r.a1⟩
   .have:=r.v.af H r.a1.1
    show Var _ _ [_,.slice _ (C.ak.set i _).length (C.ak.set i _).length,_] _;rw[dg];exact this
   .show 8<=(C.ak.set i _).length;rw[dg];exact r.cr
   .show(C.ak.set i _).length<=64;rw[dg];exact r.cq
   .show C.hand<(C.ak.set i _).length;rw[dg];exact r.hd
  obtain⟨a,N⟩:∃a:bN,a={C with ak:=C.ak.set i {C.ak[i] with used:=true}}:=⟨_,rfl⟩;have O:dC X w1 a:=by rw[N];exact⟨M,hinv⟩
  have ac:i<(C.ak.set i {C.ak[i] with used:=true}).length:=by simpa using hi
  have f5:=jb L ac (j:=5) (by decide);obtain⟨m,cr,cq,ad,ah,a7,a8,a9⟩:=hinv.ok ((C.ak.set i {C.ak[i] with used:=true})[i]) (cK ac) (by simp[hf]);have aK:((C.ak.set i {C.ak[i] with used:=true})[i]).b=(C.ak[i]).b:=by simp
  have al:((C.ak.set i {C.ak[i] with used:=true})[i]).l=(C.ak[i]).l:=by simp
  rw[aK,al]at ad;rw[al]at ah;refine⟨_,rfl,λ_=>⟨_,rfl,by rw[ay];exact av,by rw[ay];exact aI,?_⟩,λh=>(by cases h)⟩;rw[ay,←ab];refine aY ⟨_,rfl,(C.ak[i]).b,by rw[ay,f5];simp[Fr.c],(jD (B:=λq=>w1.heap.size<=q) ad.1 (by rw[ah];omega) (λq p=>p)).use ?_⟩;rintro _ aj ⟨s,rfl,hs,am,_⟩;have aL:C.view no=(C.ak[i]).l:=k8 (fs:=C.ak) (D:=C.D) (c:=C.c) (aV:=C.aV) (hd:=C.hand) h.inv.un hi hf aF;have aM:=J.size;refine⟨s,rfl,a,O.ext am,?_,?_,.inl ⟨s,rfl,?_⟩⟩
  .rw[N]
   exact⟨rfl,rfl,by show(C.ak.set i _).length=_;rw[dg],rfl,Nat.le_add_right _ _,λm P=>gp P I,J.trans (ae.cP am),λq p=>.inl p⟩
  .intro j;rw[N];exact aJ j
  .rw[aL]
   refine bo.aZ hs λq _ p=>⟨I,λhf=>?_,λcE=>?_⟩
   .have:=O.raw.lt hf;omega
   .have:=(O.inv.eK q cE).1;omega
 .
  refine⟨_,rfl,λh=>(by cases h),λ_=>(Aw h I).use ?_⟩;rintro _ w1 ⟨a,o,y,A,G,aN,M⟩;rcases M with ⟨i,hi,rfl,aO,a_⟩|⟨rfl,aP⟩
  .refine⟨_,_,rfl,λh=>(by simp at h),λ_=>⟨_,rfl,some C.D.d,?_,?_⟩⟩
   .have:=o.raw.cells.1
    rw[y.c,y.d]at this;exact this
   have Q:no<a.D.n:=by rw[y.n];exact aC
   have ba:=y.aR;rw[←y.d];refine(Ew o.raw.dev Q I).use ?_;rintro bb aj ⟨an,K,aQ⟩;have ap:=λq=>o.raw.lt (q:=q);have R:ae (cR a) w1 aj:=K.mono λq _ e=>.inr (.inr (.inl e))
   have S:∀f∈a.ak,f.full=true->f.no≠no:=λf hf aS aT=>by
    obtain⟨g,hg,h1,aU⟩:=aN f hf aS;exact aG g hg h1 (by rw[aU,aT])
   have aW:a.D.calm 1\/¬C.D.calm 2:=by
    rcases Classical.em (C.D.calm 2) with h1|h1
    .exact .inl (y.calm 1 h1)
    .exact .inr h1
   have aq:a.view no=a.D.now no:=l8 (fs:=a.ak) (D:=a.D) (c:=a.c) (aV:=a.aV) (hd:=a.hand) S;have T:∀q,cd a.D q->q≠a.c/\q≠a.aV:=λq p=>⟨λe=>o.raw.a1.2.1 (e▸p),λe=>o.raw.a1.2.2 (e▸p)⟩;have aX:fO X aj {a with D:=a.D.cn 1}:=qW (C:=a) (hd:=a.hand) (aw:=a.D.cn 1) o.inv (gU.refl _) R (λq _ h=>h) (o.inv.cn 1) (λ_=>rfl) λq p=>.inl p;have u:dO C {a with D:=a.D.cn 1} w aj 2:=by
    have:dO a {a with D:=a.D.cn 1} w1 aj 1:=⟨rfl,rfl,rfl,o1 a.D (.inl rfl),Nat.le_succ _,λm P=>(iG (.inl rfl) o.raw.dev.f4 P).1,R,λq p=>.inl p⟩;exact y.trans this
   have a0:∀j,({a with D:=a.D.cn 1}:bN).view j=C.view j:=λj=>by rw[←G];exact qX (C:=a) o.inv (gU.refl _) (λ_=>rfl) j
   have U:eP aj {a with D:=a.D.cn 1}:=⟨o.raw.v.af K (λe=>(T _ (.inl rfl)).1 e.symm),bh.af o.raw.f K (λe=>(T _ (.inl rfl)).2 e.symm),an,o.raw.cr,o.raw.cq,o.raw.hd,o.raw.a1⟩;rcases aQ with ⟨F,rfl⟩|⟨F,s,rfl,hs⟩
   .refine⟨⟨none,0,0⟩,3,rfl,λ_=>⟨{a with D:=a.D.cn 1},⟨U,aX⟩,u,a0,.inr ⟨rfl,?_⟩⟩,λh=>(by simp at h)⟩
    rcases aW with h1|h1
    .have:=(iG (k:=1) (m:=0) (.inl rfl) o.raw.dev.f4 h1).2
     rw[F]at this;cases this
    .exact h1
   .have ar:(a.D.now no).length=256:=o.raw.dev.qP Q
    obtain⟨s1,s2,z⟩:=wO U.f hi ⟨true,false,true,(no:Int),0,s,a.D.now no⟩;rw[A]at s1 s2 z;have bc:=K.size;have aM:=y.af.size;refine⟨s,_,rfl,λh=>(by simp at h),λ_=>⟨_,rfl,s1,rfl,?_⟩⟩;obtain⟨x,au⟩:∃x,x=setCells aj ⟨C.aV,i*6,none⟩ 0 (Fr.c ⟨true,false,true,(no:Int),0,s,a.D.now no⟩):=⟨_,rfl⟩;rw[←au]at s2 z;have hg:setCells aj ⟨C.aV,i*6,none⟩ 0 [true,false,true,no,(0:Int),s]=x:=au.symm;rw[hg];have ax:ae (cR a) aj x:=z.mono λq _ e=>.inr (.inl (by rw[A];exact e));have aA:bo (λq=>w1.heap.size<=q) x s (a.D.now no):=bo.af hs z λq p e=>by
     have:=ap C.aV (.inr (.inl A.symm));omega
    have a2:fO X x {a with ak:=a.ak.set i ⟨true,false,true,(no:Int),0,s,a.D.now no⟩,D:=a.D.cn 1}:=by
     refine wQ (w:=w1) (V:=cR a) (aw:=a.D.cn 1) hi (no:=no) o.inv (R.trans ax) (λq _ h=>h) (o.inv.cn 1) (λ_=>rfl) (λq=>Iff.rfl) ⟨true,false,true,(no:Int),0,s,a.D.now no⟩ rfl rfl ⟨rfl,Q,?_,ar,λ_=>rfl,λ_=>rfl,aD⟩ λk W _ h1=>S _ (cK W) h1;refine bo.aZ aA λq _ p=>⟨λhf=>?_,λcE=>?_⟩
     .have:cR a q:=hf
      have:=ap q this;omega
     .have:=(o.inv.eK q cE).1;omega
    have a3:∀j,({a with ak:=a.ak.set i ⟨true,false,true,(no:Int),0,s,a.D.now no⟩,D:=a.D.cn 1}:bN).view j=C.view j:=λj=>by
     have:=wR (hd:=a.hand) (aw:=a.D.cn 1) hi (no:=no) o.inv.un (λ_=>rfl) ⟨true,false,true,(no:Int),0,s,a.D.now no⟩ rfl rfl (λh1=>by rw[aO]at h1;cases h1) (λk W _ h1=>S _ (cK W) h1) j;rw[show({a with ak:=a.ak.set i ⟨true,false,true,(no:Int),0,s,a.D.now no⟩,D:=a.D.cn 1}:bN)=bN.mk a.c a.aV (a.ak.set i ⟨true,false,true,(no:Int),0,s,a.D.now no⟩) a.hand (a.D.cn 1) from rfl,this];by_cases e:j=no
     .rw[if_pos e,e,←G,aq]
     .rw[if_neg e,G]
    have a4:eP x {a with ak:=a.ak.set i ⟨true,false,true,(no:Int),0,s,a.D.now no⟩,D:=a.D.cn 1}:=by
     refine⟨?_,by show bh _ a.aV _ _;rw[A];exact s2,an.af z (λq p e=>(T q p).2 (by rw[A];exact e)),?_,?_,?_,o.raw.a1⟩
     .have:=U.v.af z (λe=>o.raw.a1.1 (by rw[A];exact e))
      show Var _ _ [_,.slice _ (a.ak.set i _).length (a.ak.set i _).length,_] _;rw[dg];exact this
     .show 8<=(a.ak.set i _).length;rw[dg];exact o.raw.cr
     .show(a.ak.set i _).length<=64;rw[dg];exact o.raw.cq
     .show a.hand<(a.ak.set i _).length;rw[dg];exact o.raw.hd
    obtain⟨E,Y⟩:∃E:bN,E={a with ak:=a.ak.set i ⟨true,false,true,(no:Int),0,s,a.D.now no⟩,D:=a.D.cn 1}:=⟨_,rfl⟩;have Z:dC X x E:=by rw[Y];exact⟨a4,a2⟩
    have a5:dO C E w x 2:=by
     rw[Y];exact⟨u.c,u.d,by show(a.ak.set i _).length=_;rw[dg];exact u.len,u.bx,u.aR,u.calm,cV u.af ax λq p h=>(u.de q h).resolve_right I,u.de⟩
    refine aY ((jD (B:=λq=>x.heap.size<=q) aA.1 (by rw[ar];omega) (λq p=>p)).use ?_);rintro _ bd ⟨t,rfl,ht,aB,_⟩;have be:=z.size;refine⟨t,rfl,E,Z.ext aB,?_,?_,.inl ⟨t,rfl,?_⟩⟩
    .exact(a5.trans (dO.ext E aB)).mono I
    .intro j;rw[Y];exact a3 j
    .rw[←G,aq]
     refine bo.aZ ht λq _ p=>⟨I,λhf=>?_,λcE=>?_⟩
     .have:=Z.raw.lt hf;omega
     .have:=(Z.inv.eK q cE).1;omega
  .refine⟨_,_,rfl,λ_=>⟨a,o,y.mono I,G,.inr ⟨rfl,λhc=>aP (gp hc I)⟩⟩,λh=>(by simp at h)⟩
end
section
variable {w w':J}{C:bN}{X:Nat->Prop}
def Ay(X:Nat->Prop)(C:bN)(no:Nat)(l:c7)(w:J)(v:Y)(w':J):Prop:=
 ∃aD:bN,dC X w' aD/\dO C aD w w' 1/\
  ((v=.int .i64 0/\∀j,aD.view j=if j=no then l else C.view j)\/(v=.int .i64 3/\¬C.D.calm 1/\∀j,aD.view j=C.view j))
theorem wS{i:Nat}{a:Fr}(h:eP w C)(hc:ae (λq=>q=C.aV) w w')(b:bh w' C.aV (cc Fr.c (C.ak.set i a)).toArray 288):eP w' {C with ak:=C.ak.set i a}:=by
 refine⟨?_,b,h.dev.af hc (λq d e=>h.a1.2.2 (e▸d)),?_,?_,?_,h.a1⟩
 .have:=h.v.af hc h.a1.1
  show Var _ _ [_,.slice _ (C.ak.set i _).length (C.ak.set i _).length,_] _;rw[dg];exact this
 .show 8<=(C.ak.set i _).length;rw[dg];exact h.cr
 .show(C.ak.set i _).length<=64;rw[dg];exact h.cq
 .show C.hand<(C.ak.set i _).length;rw[dg];exact h.hd
theorem set_set{fs:O Fr}{i:Nat}(f g:Fr):(fs.set i f).set i g=fs.set i g:=List.set_set ..
theorem Az(h:dC X w C)(bs:C.D.aR<=999999999){no:Nat}(aF:no<C.D.n)(aG:2<=no)(aI:¬C.D.bC no=true){b:ad}{l:c7}(am:Src 1 w b (aA l))(an:l.length=256)(ap:∀q,aC b q->q<w.heap.size/\¬cR C q):
 aH ai 162 #[.pointer (some C.c),no,b] w (Ay X C no l w):=by
 have Q:=h.raw;have aJ:=len8 am;refine okF (ag.s6 (some C.c) (no:Int) b) az.s6 func162 ?_;(delta ag.s6 b_ ao g9 gK st bG;dsimp only);refine(Aq Q _).use ?_;rintro _ _ ⟨rfl,rfl⟩;have aK:decide (0<=(no:Int)/\(no:Int)<C.D.n)=true:=dU ⟨I,I⟩;refine⟨_,rfl,λh1=>?_,λ_=>(ug Q _).use ?_⟩
 .rw[aK,aJ,an]at h1
  simp at h1
 rintro _ _ ⟨aL,rfl⟩
 have fin:∀ (w1:J) (a:bN) (i:Nat) (hi:i<a.ak.length) (f1:Fr),dC X w1 a->dO C a w w1 1->a.aV=C.aV->(∀j,a.view j=C.view j)->f1.pins=0->∀aj:J,bh aj a.aV (cc Fr.c (a.ak.set i f1)).toArray 288->ae (λq=>q=a.aV) w1 aj->f1.full=true->f1.no=(no:Int)->
  ((a.ak[i]).full=true->(a.ak[i]).no=(no:Int))->(∀ (k:Nat) (E:k<a.ak.length),k≠i->(a.ak[k]).full=true->(a.ak[k]).no≠(no:Int))->
  Calls ai 135 #[b] aj λaM R=>∃ar:ad,aM=.returned ar/\∃H:ah,(some ⟨C.aV,i*6,none⟩:aq ah)=some H/\(∃u:Y,R.cell? (H.add 5)=some u)/\R.frozen? (H.add 5)=false/\
   al (R.setCell (H.add 5) ar) λS=>∃K:ah,(some ⟨C.aV,i*6,none⟩:aq ah)=some K/\(∃u:Y,S.cell? (K.add 1)=some u)/\S.frozen? (K.add 1)=false/\
   al (S.setCell (K.add 1) true) λT=>∃L:ah,(some ⟨C.aV,i*6,none⟩:aq ah)=some L/\(∃u:Y,T.cell? (L.add 2)=some u)/\T.frozen? (L.add 2)=false/\
   al (T.setCell (L.add 2) true) λaN=>Ay X C no l w (0:Int) aN:=by
  intro w1 a i hi f1 y o x aO U aj aP M N au hold ax;have bt:=o.af.size;have bu:=M.size;have bv:a.aV<w1.heap.size:=y.raw.lt (.inr (.inl rfl));have aQ:Src 1 aj b (aA l):=by
   refine(am.af o.af λq m hf=>(ap q m).2 hf).af M λq m e=>(ap q m).2 (.inr (.inl (by rw[←x];exact e)))
  refine(jD (B:=λq=>aj.heap.size<=q) aQ I (λq m=>m)).use ?_;rintro _ aS ⟨s,rfl,hs,aB,_⟩;have aT:=bh.ext aP aB;have W:i<(a.ak.set i f1).length:=by rw[dg];exact hi
  have Z:(a.ak.set i f1)[i]=f1:=by simp
  obtain⟨a1,a2,a3,a4⟩:=l6 aT W (j:=5) (by decide) (v:=s) {f1 with b:=s} (by rw[Z];rfl);rw[set_set]at a3;have aU:i<(a.ak.set i {f1 with b:=s}).length:=by rw[dg];exact hi
  have aW:(a.ak.set i {f1 with b:=s})[i]={f1 with b:=s}:=by simp
  obtain⟨cg,bH,z,A⟩:=l6 a3 aU (j:=1) (by decide) (v:=true) {f1 with b:=s,fg:=true} (by rw[aW];rfl);rw[set_set]at z;have aX:i<(a.ak.set i {f1 with b:=s,fg:=true}).length:=by rw[dg];exact hi
  have a0:(a.ak.set i {f1 with b:=s,fg:=true})[i]={f1 with b:=s,fg:=true}:=by simp
  obtain⟨d1,d2,d3,d4⟩:=l6 z aX (j:=2) (by decide) (v:=true) {f1 with b:=s,fg:=true,used:=true,l:=l} (by rw[a0];rfl);rw[set_set]at d3;rw[x]at a1 a2 a3 a4 cg bH z A d1 d2 d3 d4 M;refine⟨s,rfl,_,rfl,by rw[ay];exact a1,by rw[ay];exact a2,?_⟩;rw[ay];refine aY ⟨_,rfl,by rw[ay];exact cg,by rw[ay];exact bH,?_⟩;rw[ay];refine aY ⟨_,rfl,by rw[ay];exact d1,by rw[ay];exact d2,?_⟩;rw[ay];have O:=(M.trans (ae.cP aB)).trans (a4.trans (A.trans d4));obtain⟨t,r⟩:∃t:Fr,t={f1 with b:=s,fg:=true,used:=true,l:=l}:=⟨_,rfl⟩;obtain⟨F,aa⟩:∃F,F=(((aS.setCell ⟨C.aV,i*6+5,none⟩ s).setCell ⟨C.aV,i*6+1,none⟩ true).setCell ⟨C.aV,i*6+2,none⟩ true):=⟨_,rfl⟩;rw[←aa,←r]at d3;rw[←aa]at O⊢;have a5:bo (λq=>aj.heap.size<=q) F s l:=by
   have h1:=bo.af hs a4 λq m e=>by rw[←x]at e;omega
   have G:=bo.af h1 A λq m e=>by rw[←x]at e;omega
   have a6:=bo.af G d4 λq m e=>by rw[←x]at e;omega
   rw[aa];exact a6
  have a7:eP F {a with ak:=a.ak.set i t}:=wS y.raw (by rw[x];exact O) (by rw[x];exact d3);have a8:fO X F {a with ak:=a.ak.set i t}:=by
   refine wQ (w:=w1) (V:=λq=>q=C.aV) (aw:=a.D) hi (no:=no) y.inv O (λq _ e=>.inr (.inl (by rw[x];exact e))) y.inv.qT (λ_=>rfl) (λq=>Iff.rfl) t (by rw[r];exact N) (by rw[r];exact U) ⟨by rw[r];exact au,by show no<a.D.n;rw[o.n];exact aF,?_,by rw[r];exact an,λhd=>(by rw[r]at hd;cases hd),λhs=>absurd (by rw[←o.bC];exact hs) aI,aG⟩ ax;rw[r];refine bo.aZ a5 λq _ m=>⟨λhf=>?_,λcE=>?_⟩
   .have:cR a q:=hf
    have:=y.raw.lt this;omega
   .have:=(y.inv.eK q cE).1;omega
  refine aY ⟨{a with ak:=a.ak.set i t},⟨a7,a8⟩,⟨o.c,o.d,by show(a.ak.set i _).length=_;rw[dg];exact o.len,o.bx,o.aR,o.calm,cV o.af O λq m e=>.inr (.inl e),o.de⟩,.inl ⟨rfl,λj=>?_⟩⟩;have:=wR (C:=a) (hd:=a.hand) (aw:=a.D) hi (no:=no) y.inv.un (λ_=>rfl) t (by rw[r];exact N) (by rw[r];exact au) hold ax j;rw[show({a with ak:=a.ak.set i t}:bN)=bN.mk a.c a.aV (a.ak.set i t) a.hand a.D from rfl,this,aO];rw[r]
 rcases aL with ⟨i,hi,rfl,hf,ab⟩|⟨rfl,a9⟩
 .refine⟨_,rfl,cC (λp w'=>p=some ⟨C.aV,i*6,none⟩/\w=w') (λq m=>⟨λh=>(by cases h),λ_=>m _ _ ⟨rfl,rfl⟩⟩) ?_⟩
  rintro _ _ ⟨rfl,rfl⟩;have e:C.ak.set i C.ak[i]=C.ak:=List.set_getElem_self _;exact fin w C i hi C.ak[i] h ((dO.refl C w).mono (cZ _)) rfl (λ_=>rfl) (h.inv.pins _ (cK hi)) w (by rw[e];exact Q.f) (.refl _ _) hf ab (λ_=>ab) λk E a_ h1 G=>a_ (h.inv.un k i E hi h1 hf (by rw[G,ab]))
 .refine⟨_,rfl,cC (λp aj=>∃ (w1:J) (a:bN) (i:Nat) (hi:i<a.ak.length) (f1:Fr),p=some ⟨C.aV,i*6,none⟩/\dC X w1 a/\dO C a w w1 1/\a.aV=C.aV/\(∀j,a.view j=C.view j)/\f1.pins=0/\bh aj a.aV (cc Fr.c (a.ak.set i f1)).toArray 288/\ae (λq=>q=a.aV) w1 aj/\f1.full=true/\f1.no=(no:Int)/\
   ((a.ak[i]).full=true->(a.ak[i]).no=(no:Int))/\(∀ (k:Nat) (E:k<a.ak.length),k≠i->(a.ak[k]).full=true->(a.ak[k]).no≠(no:Int))) (λq m=>⟨λ_=>(Aw h I).use ?_,λh=>(by cases h)⟩) ?_⟩
  .rintro _ w1 ⟨a,ac,aD,P,aE,ba,bb⟩
   have bc:∀f∈a.ak,f.full=true->f.no≠(no:Int):=λf hf N bd=>by
    obtain⟨g,hg,h1,G⟩:=ba f hf N;exact a9 g hg h1 (by rw[G,bd])
   rcases bb with ⟨i,hi,rfl,be,U⟩|⟨rfl,bf⟩
   .obtain⟨a1,a2,a3,a4⟩:=l6 ac.raw.f hi (j:=0) (by decide) (v:=true) {a.ak[i] with full:=true} rfl
    have W:i<(a.ak.set i {a.ak[i] with full:=true}).length:=by rw[dg];exact hi
    have Z:(a.ak.set i {a.ak[i] with full:=true})[i]={a.ak[i] with full:=true}:=by simp
    obtain⟨cg,bH,z,A⟩:=l6 a3 W (j:=3) (by decide) (v:=no) {a.ak[i] with full:=true,no:=(no:Int)} (by rw[Z];rfl);rw[set_set]at z;rw[P]at a1 a2 cg bH z a4 A;refine⟨_,_,rfl,λh=>(by simp at h),λ_=>⟨_,rfl,a1,a2,aY ⟨_,rfl,by rw[ay];exact cg,by rw[ay];exact bH,aY ?_⟩⟩⟩;rw[ay];exact m _ _ ⟨w1,a,i,hi,{a.ak[i] with full:=true,no:=(no:Int)},rfl,ac,aD,P,aE,U,by rw[P];exact z,by rw[P];exact a4.trans A,rfl,rfl,λh1=>(by rw[be]at h1;cases h1),λk E _ h1=>bc _ (cK E) h1⟩
   .exact⟨_,_,rfl,λ_=>⟨a,ac,aD,.inr ⟨rfl,bf,aE⟩⟩,λh=>(by simp at h)⟩
  .rintro p aj ⟨w1,a,i,hi,f1,rfl,av,bg,bi,bj,bk,bl,bm,bn,bp,bq,br⟩
   exact fin w1 a i hi f1 av bg bi bj bk aj bl bm bn bp bq br
theorem AA(h:dC X w C)(no:Nat):aH ai 146 #[.pointer (some C.c),no] w (λv w'=>(∃b:an,v=b)/\∃aD:bN,dC X w' aD/\dO C aD w w' 0/\(∀j,j≠no->aD.view j=C.view j)/\aD.D=C.D/\∀f∈aD.ak,f.full=true->f∈C.ak/\f.no≠(no:Int)):=by
 have g:=h.raw;refine okF (ag.s4 (some C.c) (no:Int)) az.s4 func146 ?_;(delta ag.s4 g9 ao aE;dsimp only);refine(ug g _).use ?_;rintro _ _ ⟨y,rfl⟩;rcases y with ⟨i,hi,rfl,hf,s⟩|⟨rfl,z⟩
 .have f4:=jb g.f hi (j:=4) (by decide)
  have A:=h.inv.pins _ (cK hi);refine⟨_,rfl,cC (λb w'=>b=false/\w=w') (λq l=>⟨λh=>(by cases h),λ_=>⟨_,rfl,(C.ak[i]).pins,by rw[ay];exact f4,l _ _ ⟨by rw[A];rfl,rfl⟩⟩⟩) ?_⟩;rintro _ _ ⟨rfl,rfl⟩;obtain⟨s1,s2,m⟩:=wO g.f hi du;refine⟨λh=>(by cases h),λ_=>⟨_,rfl,s1,rfl,aY ⟨⟨true,rfl⟩,{C with ak:=C.ak.set i du},⟨wS g m s2,?_⟩,?_,λj B=>?_,rfl,λf E av=>?_⟩⟩⟩
  .exact wP (V:=λq=>q=C.aV) (aw:=C.D) hi h.inv m (λq _ e=>.inr (.inl e)) h.inv.qT (λ_ _=>rfl) (λq h=>.inl h) du rfl rfl
  .exact⟨rfl,rfl,by show(C.ak.set i _).length=_;rw[dg],rfl,bm _,λ_ h=>h,m.mono λq _ e=>.inr (.inl e),λq h=>.inl h⟩
  .refine Ax (fs:=C.ak) (D:=C.D) (c:=C.c) (aV:=C.aV) (hd:=C.hand) h.inv.un (λa b F G h1 n o=>?_) (λk p av d=>?_) λH=>⟨λf hf av d=>?_,rfl⟩
   .have J:a<C.ak.length:=by simpa using F
    have K:b<C.ak.length:=by simpa using G
    by_cases t:i=a
    .subst t
     simp[du]at h1
    by_cases u:i=b
    .subst u
     simp[du]at n
    simp only[eY t]at h1 o;simp only[eY u]at n o;exact h.inv.un a b J K h1 n o
   .have r:i≠k:=λe=>by
     subst e;rw[s]at d;exact B I
    exact⟨k,by rw[dg];exact p,by simp only[eY r];exact av,by simp only[eY r];exact d,by simp only[eY r]⟩
   .rcases lq hf with hf|rfl
    .exact H f hf av d
    .cases av
  .obtain⟨k,p,rfl⟩:=e3 E
   have x:k<C.ak.length:=by simpa using p
   by_cases e:i=k
   .subst e
    simp[du]at av
   .simp only[eY e]at av⊢
    exact⟨cK x,λd=>e (h.inv.un i k hi x hf av (s.trans d.symm))⟩
 .refine⟨_,rfl,cC (λb w'=>b=true/\w=w') (λq l=>⟨λ_=>l _ _ ⟨rfl,rfl⟩,λh=>(by cases h)⟩) ?_⟩
  rintro _ _ ⟨rfl,rfl⟩;exact⟨λ_=>⟨⟨false,rfl⟩,C,h,dO.refl C w,λ_ _=>rfl,rfl,λf hf av=>⟨hf,z f hf av⟩⟩,λh=>(by cases h)⟩
end
theorem Fl(n:Nat):gx ai 288 n=(cc Fr.c (List.replicate n du)).toArray:=by
 have a:((Tryz.prog.info? 288).bind (·.zero)).map (·.cells)=some du.c.toArray:=by kernel_rfl
 have hc:Tryz.prog.cellsOf 288=6:=by kernel_rfl
 unfold gx;rw[hc]
 cases hi:(Tryz.prog.info? 288).bind (·.zero) with
 |none=>rw[hi]at a;cases a
 |some z=>
  rw[hi]at a;simp only[kh,Option.some.injEq]at a;simp only[Option.getD_some,a];apply Array.ext
  .simp[h3 (c:=Fr.c) (sz:=6) (List.replicate n du) (λx _=>rfl)]
  .intro i h1 d
   have e:n*6≠0:=by
    intro h;simp[h]at h1
   have k:i<n*6:=by simpa using h1
   simp only[e,if_false,Array.getElem_map,Array.getElem_range,List.getElem_toArray];have b:du.c.toArray.size=6:=rfl;have aK:i%6<6:=hN _ I;have f:i/6<(List.replicate n du).length:=by rw[lu];omega
   have hg:=wB (c:=Fr.c) (sz:=6) (l:=List.replicate n du) (λx _=>rfl) (i:=i/6) (j:=i%6) f aK;rw[show i/6*6+i%6=i from I]at hg;have g:i<(cc Fr.c (List.replicate n du)).length:=by simpa using d
   rw[dI g]at hg;have he:((List.replicate n du)[i/6]).c=du.c:=by simp
   rw[he,dI (show i%6<du.c.length from aK)]at hg;have hg:=Option.some.inj hg;rw[hg,b,getElem!_pos du.c.toArray (i%6) (by rw[b];exact aK)];simp
def kA(c aV k:Nat)(D:a6):bN:=⟨c,aV,List.replicate k du,0,D⟩
theorem oq{w:J}{D:a6}(h:c4 w D){k:Nat}(h1:8<=k)(m:k<=64)(n:∀j,D.bC j=true->D.dF j=D.dY j):aH ai 139 #[.pointer (some D.d),k] w (λv w'=>∃c aV:Nat,v=.tuple #[.pointer (some c),(0:Int)]/\dC (λ_=>False) w' (kA c aV k D)/\Ext w w'/\w.heap.size<=c/\w.heap.size<=aV):=by
 refine okF (ag.oq (some D.d) (k:Int)) az.oq func139 ?_;delta ag.oq ao jx aa;refine⟨λh=>?_,λ_=>⟨⟨I,I,I,I⟩,?_⟩⟩
 .simp only[Option.isNone_some,lh,h8,cx]at h;omega
 rw[Fl,dQ];have g:=bh.new w (cc Fr.c (List.replicate k du)).toArray 288;have a:=dE w (.cells (cc Fr.c (List.replicate k du)).toArray 288);have o:=qH w (.cells (cc Fr.c (List.replicate k du)).toArray 288);obtain⟨w1,p⟩:∃w1,w1=w.alloc (.cells (cc Fr.c (List.replicate k du)).toArray 288):=⟨_,rfl⟩;rw[←p]at g a o⊢;refine aY (a_ (vs:=[.pointer (some D.d),.slice (some w.heap.size) k k,(0:Int)]) rfl λaj r b t=>⟨w1.heap.size,w.heap.size,rfl,⟨⟨?_,bh.ext g b,h.ext (a.trans b),?_,?_,?_,?_,?_,?_⟩,⟨λf hf=>?_,λf hf l=>?_,λi j hi u h1=>?_,λq s=>s.elim,n⟩⟩,a.trans b,I,bm _⟩)
 .show Var _ _ [_,.slice _ (List.replicate k du).length (List.replicate k du).length,_] _
  rw[lu];exact r
 .show 8<=(List.replicate k du).length;simpa using h1
 .show(List.replicate k du).length<=64;simpa using m
 .show 0<(List.replicate k du).length;simp;omega
 .show w1.heap.size≠w.heap.size;omega
 .intro e
  have:=h.lt e;have:w1.heap.size<w.heap.size:=this;omega
 .intro e
  have:=h.lt e;have:w.heap.size<w.heap.size:=this;omega
 .rw[uH hf];rfl
 .rw[uH hf]at l;cases l
 .simp[kA,du]at h1
structure aP where
 bg:Nat
 gen:Nat
 root:Nat
 aI:Nat
 C:bN
 sb:Nat
 n:Nat
 f:Nat->an
 g:Nat->an
 s1:ad
 s2:ad
 E:Nat->Prop
 G:Nat->Prop
 P:Nat->aq aB
def aP.cv(T:aP)(E G:Nat->Prop):aP:={T with E:=E,G:=G}
def aP.bL(T:aP)(C:bN)(P:Nat->aq aB):aP:={T with C:=C,P:=P}
def aP.X(T:aP)(q:Nat):Prop:=q=T.bg\/ff T.sb T.s1 T.s2 q\/T.E q\/T.G q
def aP.M(T:aP)(q:Nat):Prop:=cR T.C q\/T.X q
def aP.N(T:aP)(q:Nat):Prop:=cR T.C q\/q=T.bg\/ff T.sb T.s1 T.s2 q\/T.G q
theorem aP.hG{T:aP}{q:Nat}(h:T.N q):T.M q:=h.imp id (Or.imp id (Or.imp id .inr))
def gr(gen:Nat)(leaf:an)(no:Nat)(l:c7)(n:aB):Prop:=
 ∃p:il,fe (no:Int) l=.ok p/\p.gen<=gen/\p.kind=(if leaf then 1 else 2)/\ky leaf p.body n/\2<=no
def j_(T:aP):O Y:=[.pointer (some T.C.c),.pointer (some T.sb),.int .u64 (T.gen:Nat),T.root,T.aI]
structure b6(w:J)(T:aP):Prop where
 t:Var w T.bg (j_ T) 239
 s:eJ w T.sb T.n T.f T.g T.s1 T.s2
 ca:dC T.X w T.C
 iH:¬ff T.sb T.s1 T.s2 T.bg
 dG:∀q,T.E q->q≠T.bg/\¬ff T.sb T.s1 T.s2 q/\¬T.G q
 iu:∀q,T.G q->q≠T.bg/\¬ff T.sb T.s1 T.s2 q
 n:T.C.D.n=T.n
 num:T.root<T.n/\T.aI<=12/\T.gen<18446744073709551616
 eF:∀no bP,T.P no=some bP->no<T.n/\gr T.gen bP.leaf no (T.C.view no) bP
 bC:∀j,T.C.D.bC j=true->T.g j=true\/T.C.D.ro
 low:T.g 0=true/\T.g 1=true
structure cf(T ax:aP)(w w':J)(k:Nat):Prop where
 bg:ax.bg=T.bg
 sb:ax.sb=T.sb
 n:ax.n=T.n
 g:ax.g=T.g
 s1:ax.s1=T.s1
 s2:ax.s2=T.s2
 c:ax.C.c=T.C.c
 d:ax.C.D.d=T.C.D.d
 bx:ax.C.D.key=T.C.D.key
 gen:ax.gen=T.gen
 aR:ax.C.D.aR<=T.C.D.aR+k
 calm:∀m,T.C.D.calm (m+k)->ax.C.D.calm m
 af:ae T.N w w'
 de:∀q,ax.M q->T.M q\/w.heap.size<=q
 fn:∀q,ax.N q->T.N q\/w.heap.size<=q
theorem cf.bC{T ax:aP}{w w':J}{k:Nat}(h:cf T ax w w' k):ax.C.D.bC=T.C.D.bC/\ax.C.D.dY=T.C.D.dY:=by
 have:=congrArg Prod.fst h.bx;exact⟨congrArg (λp=>p.2.1) this,congrArg (λp=>p.2.2.1) this⟩
theorem cf.refl(T:aP)(w:J):cf T T w w 0:=⟨rfl,rfl,rfl,rfl,rfl,rfl,rfl,rfl,rfl,rfl,bm _,λ_ h=>h,.refl _ _,λ_ h=>.inl h,λ_ h=>.inl h⟩
theorem cf.ext{w w':J}(T:aP)(h:Ext w w'):cf T T w w' 0:=⟨rfl,rfl,rfl,rfl,rfl,rfl,rfl,rfl,rfl,rfl,bm _,λ_ h=>h,ae.cP h,λ_ h=>.inl h,λ_ h=>.inl h⟩
theorem cf.trans{T ax e:aP}{w w' f:J}{k l:Nat}(h1:cf T ax w w' k)(a:cf ax e w' f l):cf T e w f (k+l):=by
 have hs:=h1.af.size;refine⟨a.bg.trans h1.bg,a.sb.trans h1.sb,a.n.trans h1.n,a.g.trans h1.g,a.s1.trans h1.s1,a.s2.trans h1.s2,a.c.trans h1.c,a.d.trans h1.d,a.bx.trans h1.bx,a.gen.trans h1.gen,by have:=h1.aR;have:=a.aR;omega,
  λm i=>a.calm m (h1.calm (m+l) (by rw[show m+l+k=m+(k+l) from I];exact i)),cV h1.af a.af λq b h=>(h1.fn q h).resolve_right I,λq b=>?_,λq b=>?_⟩
 .rcases a.de q b with h|h
  .exact h1.de q h
  .exact .inr I
 .rcases a.fn q b with h|h
  .exact h1.fn q h
  .exact .inr I
theorem cf.mono{T ax:aP}{w w':J}{k l:Nat}(h:cf T ax w w' k)(b:k<=l):cf T ax w w' l:=
 ⟨h.bg,h.sb,h.n,h.g,h.s1,h.s2,h.c,h.d,h.bx,h.gen,by have:=h.aR;omega,λm a=>h.calm m (gp a I),h.af,h.de,h.fn⟩
theorem cf.bP{T ax:aP}{w w':J}{k lo:Nat}(h:cf T ax w w' k){n:aB}{K V D:ad}(e:bu (λq=>lo<=q/\¬T.M q) w n K V D):bu (λq=>lo<=q/\¬ax.M q) w' n K V D:=by
 have h1:bu (λq=>q<w.heap.size/\lo<=q/\¬T.M q) w n K V D:=e.aZ λq b a=>⟨b,a⟩;refine(bu.af h1 h.af λq b c=>b.2.2 (aP.hG c)).aZ λq _ a=>⟨a.2.1,λc=>?_⟩;rcases h.de q c with d|d
 .exact a.2.2 d
 .have:=a.1;omega
section
variable {w w':J}{T ax:aP}
theorem cf.step{W E G:Nat->Prop}{w1:J}{k:Nat}(h:cf T ax w w1 k)(hc:ae W w1 w')(cF:∀q,W q->q<w.heap.size->T.N q)(e:∀q,E q->ax.E q\/ax.G q\/w.heap.size<=q)(b:∀q,G q->ax.G q\/w.heap.size<=q):cf T (ax.cv E G) w w' k:=by
 refine⟨h.bg,h.sb,h.n,h.g,h.s1,h.s2,h.c,h.d,h.bx,h.gen,h.aR,h.calm,cV h.af hc λq a f=>cF q f a,λq a=>?_,λq a=>?_⟩
 .rcases a with a|a|a|a|a
  .exact h.de q (.inl a)
  .exact h.de q (.inr (.inl a))
  .exact h.de q (.inr (.inr (.inl a)))
  .rcases e q a with h1|h1|h1
   .exact h.de q (.inr (.inr (.inr (.inl h1))))
   .exact h.de q (.inr (.inr (.inr (.inr h1))))
   .exact .inr h1
  .rcases b q a with h1|h1
   .exact h.de q (.inr (.inr (.inr (.inr h1))))
   .exact .inr h1
 .rcases a with a|a|a|a
  .exact h.fn q (.inl a)
  .exact h.fn q (.inr (.inl a))
  .exact h.fn q (.inr (.inr (.inl a)))
  .rcases b q a with h1|h1
   .exact h.fn q (.inr (.inr (.inr h1)))
   .exact .inr h1
theorem cf.local{bW jc a wT:Nat->Prop}{w1:J}{k:Nat}(h:cf (T.cv bW a) ax w1 w' k)(hx:Ext w w1)(b:∀q,bW q->T.E q\/w.heap.size<=q)(c:∀q,a q->T.G q\/w.heap.size<=q)
 (d:∀q,jc q->ax.E q\/ax.G q) (e:∀q,wT q->ax.G q):cf T (ax.cv jc wT) w w' k:=by
 have h0:cf T (T.cv bW a) w w1 0:=(cf.ext T (w:=w) (w':=w) (ae.refl _ _)).step (W:=λ_=>False) hx (λ_ h=>h.elim) (λq h=>(b q h).imp id .inr) c;have h1:=h0.trans h;rw[cS]at h1;exact h1.step (W:=λ_=>False) (ae.refl _ _) (λ_ h=>h.elim) (λq h=>(d q h).imp id .inl) λq h=>.inl (e q h)
theorem b6.lt(h:b6 w T){q:Nat}(a:T.M q):q<w.heap.size:=by
 rcases a with a|a
 .exact h.ca.raw.lt a
 .exact(h.ca.inv.eK q a).1
theorem b6.j8(h:b6 w T){q:Nat}(b:T.E q):¬T.N q:=by
 rintro(a|a|a|a)
 .exact(h.ca.inv.eK q (.inr (.inr (.inl b)))).2 a
 .exact(h.dG q b).1 a
 .exact(h.dG q b).2.1 a
 .exact(h.dG q b).2.2 a
theorem b6.ext(h:b6 w T)(hx:Ext w w'):b6 w' T:=⟨h.t.ext hx,h.s.ext hx,h.ca.ext hx,h.iH,h.dG,h.iu,h.n,h.num,h.eF,h.bC,h.low⟩
theorem dC.grow{X d W:Nat->Prop}{C:bN}(h:dC X w C)(hc:ae W w w')(cF:∀q,W q->q<w.heap.size->X q)(e:∀q,d q->X q\/(w.heap.size<=q/\q<w'.heap.size)):dC d w' C:=by
 have g:ae X w w':=cV (W:=X) (ae.refl _ _) hc λq a i=>cF q i a;refine⟨h.raw.af g λq a hx=>(h.inv.eK q hx).2 a,h.inv.pins,λf hf j=>?_,h.inv.un,λq a=>?_,h.inv.kz⟩
 .obtain⟨no,av,k,m,n,o,p,r⟩:=h.inv.ok f hf j
  have s:bo (λq=>q<w.heap.size/\¬cR C q/\¬X q) w f.b f.l:=bo.aZ m λq a c=>⟨a,c⟩;refine⟨no,av,k,bo.aZ (bo.af s g λq a hx=>a.2.2 hx) λq _ c=>⟨c.2.1,λt=>?_⟩,n,o,p,r⟩;rcases e q t with h1|h1
  .exact c.2.2 h1
  .have:=c.1;omega
 .rcases e q a with h1|h1
  .exact⟨ft (h.inv.eK q h1).1 hc.size,(h.inv.eK q h1).2⟩
  .exact⟨h1.2,λhf=>by have:=h.raw.lt hf;omega⟩
theorem b6.grow{E G W:Nat->Prop}(h:b6 w T)(hc:ae W w w')(cF:∀q,W q->q<w.heap.size->T.E q\/T.G q)(c:∀q,E q->T.E q\/T.G q\/(w.heap.size<=q/\q<w'.heap.size))(f:∀q,G q->T.E q\/T.G q\/(w.heap.size<=q/\q<w'.heap.size))(i:∀q,E q->¬G q):b6 w' (T.cv E G):=by
 have b:∀q,T.E q\/T.G q->q≠T.bg/\¬ff T.sb T.s1 T.s2 q:=λq a=>by
  rcases a with a|a
  .exact⟨(h.dG q a).1,(h.dG q a).2.1⟩
  .exact h.iu q a
 have g:ae (λq=>T.E q\/T.G q) w w':=cV (W:=λq=>T.E q\/T.G q) (ae.refl _ _) hc λq a j=>cF q j a;have d:∀q,T.E q\/T.G q\/(w.heap.size<=q/\q<w'.heap.size)->q≠T.bg/\¬ff T.sb T.s1 T.s2 q:=λq a=>by
  rcases a with a|a|a
  .exact b q (.inl a)
  .exact b q (.inr a)
  .exact⟨λe=>by have k:=h.lt (q:=q) (.inr (.inl e));omega,λe=>by have k:=h.lt (q:=q) (.inr (.inr (.inl e)));omega⟩
 have cE:∀q,T.E q\/T.G q\/(w.heap.size<=q/\q<w'.heap.size)->T.X q\/(w.heap.size<=q/\q<w'.heap.size):=λq a=>by
  rcases a with a|a|a
  .exact .inl (.inr (.inr (.inl a)))
  .exact .inl (.inr (.inr (.inr a)))
  .exact .inr a
 refine⟨h.t.af g λe=>(b _ e).1 rfl,h.s.af g λq a e=>(b q e).2 a,h.ca.grow hc (λq a l=>.inr (.inr (cF q a l))) λq a=>?_,h.iH,λq a=>⟨(d q (c q a)).1,(d q (c q a)).2,i q a⟩,λq a=>d q (f q a),h.n,h.num,h.eF,h.bC,h.low⟩;rcases a with a|a|a|a
 .exact .inl (.inl a)
 .exact .inl (.inr (.inl a))
 .exact cE q (c q a)
 .exact cE q (f q a)
theorem b6.cells(h:b6 w T):w.cell? T.bg=some (.pointer (some T.C.c))/\w.cell? (Addr.add T.bg 1)=some (.pointer (some T.sb))/\w.cell? (Addr.add T.bg 2)=some (.int .u64 (T.gen:Nat))/\
 w.cell? (Addr.add T.bg 3)=some (.int .i64 (T.root:Nat))/\w.cell? (Addr.add T.bg 4)=some (.int .i64 (T.aI:Nat)):=by
 rw[ay,ay,ay,ay];exact⟨h.t.cell,h.t.cell,h.t.cell,h.t.cell,h.t.cell⟩
theorem b6.Fm(h:b6 w T){no:Nat}(a:no<T.n):(T.C.view no).length=256:=by
 unfold bN.view
 cases hf:T.C.ak.find? λf=>f.full&&f.no==(no:Int) with
 |some f=>
  have h1:=iy hf;have b:=jo hf;obtain⟨m,c⟩:=h.ca.inv.ok f h1 (by
   have:(f.full&&f.no==(no:Int))=true:=b;exact(Bool.and_eq_true_iff.1 this).1)
  exact c.len
 |none=>exact h.ca.raw.dev.qP (by rw[h.n];exact a)
theorem b6.o7{aD:bN}{k:Nat}{P:Nat->aq aB}(h:b6 w T)(e:dC T.X w' aD)(a:dO T.C aD w w' k)(f:∀no bP,P no=some bP->no<T.n/\gr T.gen bP.leaf no (aD.view no) bP):
 b6 w' (T.bL aD P)/\cf T (T.bL aD P) w w' k:=by
 have hx:=h.ca.inv.eK;have hc:=a.af;refine⟨⟨?_,h.s.af hc λq b hf=>(hx q (.inr (.inl b))).2 hf,e,h.iH,h.dG,h.iu,?_,h.num,f,λj l=>by unfold a6.ro;show T.g j=true\/∀i,aD.D.bC i=true;rw[a.bC];exact h.bC j (by rw[←a.bC];exact l),h.low⟩,⟨rfl,rfl,rfl,rfl,rfl,rfl,a.c,a.d,a.bx,rfl,a.aR,a.calm,hc.mono λq _ b=>.inl b,?_,?_⟩⟩
 .have:=h.t.af hc λhf=>(hx T.bg (.inl rfl)).2 hf
  unfold j_ at this⊢;rw[←a.c]at this;exact this
 .show aD.D.n=T.n
  rw[a.n,h.n]
 .rintro q (b|b)
  .rcases a.de q b with h1|h1
   .exact .inl (.inl h1)
   .exact .inr h1
  .exact .inl (.inr b)
 .rintro q (b|b)
  .rcases a.de q b with h1|h1
   .exact .inl (.inl h1)
   .exact .inr h1
  .exact .inl (.inr b)
end
def Fo(T:aP)(leaf:an)(no:Nat)(e:Int):Prop:=
 (e=3/\¬T.C.D.calm 2)\/fe (no:Int) (T.C.view no)=.error e\/(e=4/\(∃p,fe (no:Int) (T.C.view no)=.ok p)/\∀n,¬gr T.gen leaf no (T.C.view no) n)
def np(T:aP)(leaf:an)(no:Nat)(w:J)(v:Y)(w':J):Prop:=
 ∃aD:bN,b6 w' (T.bL aD T.P)/\cf T (T.bL aD T.P) w w' 2/\(∀j,aD.view j=T.C.view j)/\
  ((∃ (n:aB) (K V D:ad),v=.tuple #[c2 n K V D,(0:Int)]/\gr T.gen leaf no (T.C.view no) n/\bu (λq=>w.heap.size<=q/\¬(T.bL aD T.P).M q) w' n K V D)\/
    (∃e:Int,v=.tuple #[c2 qL bO bO bO,e]/\Fo T leaf no e/\e≠0))
theorem AB{no:Int}{l:c7}{e:Int}(h:fe no l=.error e):e≠0:=by
 intro he;subst he;unfold fe at h
 repeat' split at h
 all_goals first|(injection h with h;exact absurd h (by decide))|cases h
theorem Fp{no:Int}{l:c7}{p:il}(h:fe no l=.ok p):p.body.length<=256:=by
 unfold fe at h
 repeat' split at h
 all_goals first|(cases h;done)|skip
 rename_i h1 _ _ _ _ _;injection h with h
 rw[←h];show(List.take _ (List.drop 24 l)).length<=256;rw[cN,df];omega
theorem AD{w':J}{h:Nat}{vs:O Y}(n g:Int)(s:ad)(a:Var w' h vs 150)(b:vs.length=3){K:J->Prop}(c:∀aj,Var aj h [n,.int .u64 g,s] 150->ae (λq=>q=h) w' aj->aj.heap.size=w'.heap.size->K aj):
 bj w' h [n,.int .u64 g,s]/\(3:Nat)=3/\al (setCells w' h 0 [n,.int .u64 g,s]) K:=by
 refine⟨a.bV (by rw[b];rfl) ?_,rfl,cm a (us:=[n,.int .u64 g,s]) (by rw[b];rfl) rfl c⟩;intro v a;simp only[c8,fi,fu]at a;rcases a with rfl|rfl|rfl<;>trivial
theorem AE{w:J}{T:aP}(h:b6 w T)(aI:T.C.D.aR<=999999999){no:Nat}(ah:no<T.n)(ak:2<=no)(leaf:an):
 aH ai 196 #[.pointer (some T.bg),no,leaf] w (np T leaf no w):=by
 have be:=h.s.bf;have aJ:=h.Fm ah;refine okF (ag.s_ (some T.bg) (no:Int) leaf) az.s_ func196 ?_;(delta ag.s_ z4 dS ao vC aa sj aX r1 yM r_ b4 aE qd kX;dsimp only);refine a_ (vs:=[false,(),(),()]) rfl λw1 aK al bh=>?_;obtain⟨o,N⟩:∃o,o=λq=>T.G q\/q=w.heap.size:=⟨_,rfl⟩;have am:o w.heap.size:=by rw[N];exact .inr rfl
 have O:∀q,T.G q->o q:=λq c=>by rw[N];exact .inl c
 have R:∀q,o q->T.G q\/q=w.heap.size:=λq c=>by rw[N]at c;exact c
 have h1:b6 w1 (T.cv T.E o):=h.grow (W:=λ_=>False) al (λ_ h=>h.elim) (λq c=>.inl c) (λq c=>.inr ((R q c).imp id λe=>⟨I,I⟩)) λq c hg=>by
  rcases R q hg with t|t
  .exact(h.dG q c).2.2 t
  .have:=h.lt (q:=q) (.inr (.inr (.inr (.inl c))));omega
 refine⟨_,rfl,_,h1.cells.1,(Fk h1.ca aI (no:=no) (by rw[h1.n];exact ah) ak).use ?_⟩;rintro _ m ⟨aD,aL,S,u,aM⟩;obtain⟨U,aN⟩:=h1.o7 (P:=T.P) aL S (λno bP aO=>by rw[u];exact h1.eF no bP aO);have bi:=S.af.size;have ap:Var m w.heap.size [false,(),(),()] 202:=aK.af S.af λhf=>(h1.ca.inv.eK _ (.inr (.inr (.inr am)))).2 hf
 have fin:∀w':J,ae (λq=>q=w.heap.size) m w'->b6 w' (T.bL aD T.P)/\cf T (T.bL aD T.P) w w' 2:=λw' hc=>by
  refine⟨U.grow (E:=T.E) (G:=T.G) hc (λq e _=>.inr (by rw[e];exact am)) (λq c=>.inl c) (λq c=>.inr (.inl (O q c))) λq c=>(h.dG q c).2.2,?_⟩;have aQ:=aN.local al (λq c=>.inl c) (λq c=>(R q c).imp id λe=>I) (jc:=T.E) (wT:=T.G) (λq c=>.inl c) O;exact aQ.step hc (λq e bj=>I) (λq c=>.inl c) λq c=>.inl c
 have aS:∀ {w':J}{n:aB}{K V D:ad}{B:Nat->Prop},bu (λq=>m.heap.size<=q) w' n K V D->bu (λq=>w.heap.size<=q/\¬(T.bL aD T.P).M q) w' n K V D:=λaT=>by
  refine aT.aZ λq _ c=>⟨I,λj=>?_⟩;have:q<m.heap.size:=U.lt (q:=q) (by
   rcases j with j|j|j|j|j
   .exact .inl j
   .exact .inr (.inl j)
   .exact .inr (.inr (.inl j))
   .exact .inr (.inr (.inr (.inl j)))
   .exact .inr (.inr (.inr (.inr (O q j)))))
  omega
 rcases aM with ⟨s,rfl,hs⟩|⟨rfl,aU⟩
 .refine⟨s,0,rfl,λd=>(by cases d),λ_=>(ox hs.1 hs.2.1 (by show(T.C.view no).length<=1000;rw[aJ];omega) _).use ?_⟩
  rintro _ aV ⟨z,H⟩;have aq:=ap.ext H;have bk:=H.size;have a0:(T.cv T.E o).C.view no=T.C.view no:=rfl;rw[a0]at z
  cases g:fe (no:Int) (T.C.view no) with
  |error e=>
   rw[g]at z;obtain rfl:=z;refine⟨0,0,⟨none,0,0⟩,e,rfl,a_ (vs:=[(0:Int),.int .u64 0,()]) rfl λa1 X v a2=>?_⟩;refine AD 0 0 ⟨none,0,0⟩ X rfl λf ar x a3=>⟨λ_=>?_,λd=>?_⟩
   .have Y:Var f w.heap.size [false,(),(),()] 202:=(aq.ext v).af x I
    refine iE false bO bO bO Y rfl (Q:=λb K V D aj=>np T leaf no w (.tuple #[.agg #[b,K,V,D],e]) aj) λl i=>?_;obtain⟨f1,f2⟩:=fin l (cV (W:=λq=>q=w.heap.size) (ae.cP (Ext.cy (H.trans v) x I)) i λq _ e=>e);exact⟨aD,f1,f2,u,.inr ⟨e,rfl,.inr (.inl g),AB g⟩⟩
   .have:=AB g
    simp at d;omega
  |ok p=>
   rw[g]at z;obtain⟨A,rfl,Z,bl⟩:=z;refine⟨p.kind,p.gen,A,0,rfl,a_ (vs:=[(0:Int),.int .u64 0,()]) rfl λa1 X v a2=>?_⟩;refine AD p.kind p.gen A X rfl λf ar x a3=>⟨λd=>(by cases d),λ_=>aY ?_⟩;have Y:Var f w.heap.size [false,(),(),()] 202:=(aq.ext v).af x I;have a4:Ext m f:=Ext.cy (H.trans v) x I;have F:Ext m f.drew:=a4.trans (cL _);have ab:Var f.drew w.heap.size [false,(),(),()] 202:=Y.drew;have L:=ar.drew;have a5:=(U.ext F).cells;obtain⟨b,d⟩:∃b,b=aV.heap.size:=⟨_,rfl⟩;rw[←d]at L⊢;have ac:f.drew.cell? b=some (.int .i64 (p.kind:Nat)):=L.cell;have a6:f.drew.cell? (Addr.add b 1)=some (.int .u64 (p.gen:Nat)):=by rw[ay];exact L.cell
   have a7:f.drew.cell? (Addr.add b 2)=some (.slice A.a A.len A.cap):=by rw[ay];exact L.cell
   have bm:m.heap.size<=f.drew.heap.size:=F.size;refine⟨id,_,a6,_,rfl,id,_,a5.2.2.1,λhg=>?_,λhg=>⟨id,_,ac,?_⟩⟩
   .have hg:T.gen<p.gen:=by
     have:(p.gen:Int)>(T.gen:Int):=cw hg;omega
    refine cC (λb w'=>b=true/\w'=f.drew) (λq c=>⟨λ_=>c _ _ ⟨rfl,rfl⟩,λh=>by cases h⟩) ?_;rintro _ _ ⟨rfl,rfl⟩;refine⟨λ_=>?_,λh=>(by cases h)⟩;refine iE false bO bO bO ab rfl (Q:=λb K V D aj=>np T leaf no w (.tuple #[.agg #[b,K,V,D],(4:Int)]) aj) λl i=>?_;obtain⟨f1,f2⟩:=fin l (cV (W:=λq=>q=w.heap.size) (ae.cP F) i λq _ e=>e);refine⟨aD,f1,f2,u,.inr ⟨4,rfl,.inr (.inr ⟨rfl,⟨p,g⟩,?_⟩),by decide⟩⟩;rintro n ⟨au,av,aw,_⟩;rw[g]at av;cases av;omega
   .have hg:p.gen<=T.gen:=by
     have:¬(p.gen:Int)>(T.gen:Int):=cT hg;omega
    refine cC (λb w'=>w'=f.drew/\(b=false↔p.kind=(if leaf then 1 else 2))) (λq c=>⟨λh=>c _ _ ⟨rfl,?_⟩,λh=>⟨_,ac,cC (λb w'=>w'=f.drew/\(b=false↔p.kind=(if leaf then 1 else 2))) (λr ax=>⟨λt=>⟨_,ac,ax _ _ ⟨rfl,?_⟩⟩,λt=>ax _ _ ⟨rfl,?_⟩⟩) λb w' a8=>c b w' a8⟩⟩) ?_
    .refine⟨λh=>(by cases h),λy=>?_⟩
     rw[y]at h
     cases leaf<;>simp at h
    .cases leaf
     .simp
      exact Int.ofNat_inj
     .simp at t h;omega
    .cases leaf
     .simp at t h;omega
     .simp at t
      simp;omega
    rintro bn _ ⟨rfl,y⟩;refine⟨λd=>?_,λd=>⟨_,a7,(oC ((Z.ext (Ext.cy v x I|>.trans (cL _))).src) ?_ ?_ ?_ leaf).use ?_⟩⟩
    .refine iE false bO bO bO ab rfl (Q:=λb K V D aj=>np T leaf no w (.tuple #[.agg #[b,K,V,D],(4:Int)]) aj) λl i=>?_
     obtain⟨f1,f2⟩:=fin l (cV (W:=λq=>q=w.heap.size) (ae.cP F) i λq _ e=>e);refine⟨aD,f1,f2,u,.inr ⟨4,rfl,.inr (.inr ⟨rfl,⟨p,g⟩,?_⟩),by decide⟩⟩;rintro n ⟨au,av,aw,aA,_⟩;rw[g]at av;cases av;rw[y.2 aA]at d;cases d
    .exact Z.2.1
    .intro k y
     have:=aW.lt Z k y;have:=v.size;show k<f.heap.size;omega
    .have:=Fp g
     omega
    rintro _ a9 ⟨ba,aC⟩;have aF:Ext m a9:=F.trans aC;have aG:=ab.ext aC;rcases ba with ⟨n,K,V,D,rfl,bb,ep⟩|⟨rfl,bc⟩
    .refine⟨n.leaf,K,V,D,0,rfl,?_⟩
     refine iE n.leaf K V D aG rfl (Q:=λb K V D aj=>np T leaf no w (.tuple #[.agg #[b,K,V,D],(0:Int)]) aj) λl i=>?_;obtain⟨f1,f2⟩:=fin l (cV (W:=λq=>q=w.heap.size) (ae.cP aF) i λq _ e=>e);refine⟨aD,f1,f2,u,.inl ⟨n,K,V,D,rfl,⟨p,g,hg,y.1 d,bb,ak⟩,?_⟩⟩;refine aS (B:=λ_=>True) (bu.af (ep.aZ λq _ c=>?_) i λq c e=>?_)
     .omega
     .have:m.heap.size<=q:=c
      omega
    .refine⟨false,bO,bO,bO,4,rfl,?_⟩
     refine iE false bO bO bO aG rfl (Q:=λb K V D aj=>np T leaf no w (.tuple #[.agg #[b,K,V,D],(4:Int)]) aj) λl i=>?_;obtain⟨f1,f2⟩:=fin l (cV (W:=λq=>q=w.heap.size) (ae.cP aF) i λq _ e=>e);refine⟨aD,f1,f2,u,.inr ⟨4,rfl,.inr (.inr ⟨rfl,⟨p,g⟩,?_⟩),by decide⟩⟩;rintro n ⟨au,av,aw,aA,bd,_⟩;rw[g]at av;cases av;exact bc n bd
 .refine⟨⟨none,0,0⟩,3,rfl,λ_=>?_,λd=>(by cases d)⟩
  refine iE false bO bO bO ap rfl (Q:=λb K V D aj=>np T leaf no w (.tuple #[.agg #[b,K,V,D],(3:Int)]) aj) λl i=>?_;obtain⟨f1,f2⟩:=fin l i;exact⟨aD,f1,f2,u,.inr ⟨3,rfl,.inl ⟨rfl,aU⟩,by decide⟩⟩
structure di where
 no:Nat
 n:aB
 cB:Nat
 K:ad
 V:ad
 D:ad
def di.c(s:di):O Y:=[s.no,s.n.leaf,s.K,s.V,s.D,s.cB]
def di.st(s:di):Nat×aB×Nat:=(s.no,s.n,s.cB)
theorem nq(l:O di):∀x∈l,(di.c x).length=6:=λ_ _=>rfl
structure jd(B:Nat->Prop)(w:J)(s:ad)(l:O di):Prop where
 own:aW 6 232 w s (cc di.c l)
 nr:∀q,aC s q->B q
 bP:∀x∈l,bu B w x.n x.K x.V x.D
def l9(P:Nat->aq aB)(k:Key):Nat->Nat->O (Nat×aB×Nat)->Prop
 |0,_,l=>l=[]
 |h+1,no,l=>∃n rest,P no=some n/\n.leaf=decide (h=0)/\l=(no,n,if h=0 then 0 else ez n.keys k)::rest/\l9 P k h (n.kids.getD (ez n.keys k) 0) rest
theorem l9.length{P:Nat->aq aB}{k:Key}:∀ {h no:Nat}{l:O (Nat×aB×Nat)},l9 P k h no l->l.length=h
 |0,_,_,h=>by rw[h];rfl
 |h+1,_,_,⟨n,rest,_,_,a,b⟩=>by rw[a,hO,l9.length b]
theorem gr.uniq{gen no:Nat}{leaf:an}{l:c7}{n m:aB}(h1:gr gen leaf no l n)(a:gr gen leaf no l m):n=m:=by
 obtain⟨p,a1,a2,a3,a4⟩:=h1;obtain⟨q,cg,bH,c,b⟩:=a;rw[a1]at cg
 cases cg;exact ky.uniq a4.1 b.1
theorem gr.is{gen no:Nat}{leaf:an}{l:c7}{n:aB}(h:gr gen leaf no l n):n.leaf=leaf/\cu n/\bq n<=232:=by
 obtain⟨p,_,_,_,a,_⟩:=h;exact⟨a.2.1,a.1,a.2.2.1⟩
theorem gr.two{gen no:Nat}{leaf:an}{l:c7}{n:aB}(h:gr gen leaf no l n):2<=no:=by
 obtain⟨p,_,_,_,_,a⟩:=h;exact a
theorem cu.fb{n:aB}(h:cu n):n.keys.Pairwise bR:=by
 rcases h with h|h
 .exact h.fb
 .exact h.fb
def Fq(T:aP)(steps:O (Nat×aB×Nat))(w:J)(v:Y)(w':J):Prop:=
 ∃aD:bN,b6 w' (T.bL aD T.P)/\cf T (T.bL aD T.P) w w' (2*T.aI)/\(∀j,aD.view j=T.C.view j)/\
  ((∃ (s:ad) (l:O di),v=.tuple #[s,(0:Int)]/\l.map di.st=steps/\jd (λq=>w.heap.size<=q/\¬(T.bL aD T.P).M q) w' s l)\/(v=.tuple #[(),(3:Int)]/\¬T.C.D.calm (2*T.aI)))
theorem Fs(w:J)(cs:Array Y)(h:cs.size=6):Sem.run ai (Instr.buildSlice 228 1 #[(0,.agg cs)]) w=.ok (.slice (some w.heap.size) 1 1) (w.alloc (.cells cs 232)):=by
 have h0:((Tryz.prog.info? 232).bind (·.zero)).isSome=true:=by kernel_rfl
 obtain⟨z,a⟩:=nz.1 h0;obtain⟨i,hi,b⟩:=ua a;have h1:(Tryz.prog.underlying 232).isSome=true:=by kernel_rfl
 obtain⟨d,hd⟩:=nz.1 h1;exact zX (sz:=6) w (by kernel_rfl) hd (by kernel_rfl) hi b h (by decide) (by decide)
theorem Ft:ic ai 228 232 6 96:=⟨by kernel_rfl⟩
theorem Fu{h:Nat}{n:aB}(a:n.leaf=decide (h=0)):((((h+1:Nat):Int):Int)==1)=n.leaf:=by
 rw[a,fD,jj,cx];omega
theorem AF{w:J}{T:aP}{tk:ad}{k:Key}{steps:O (Nat×aB×Nat)}(h:b6 w T)(co:T.C.D.aR<=900000000)(bx:Src 1 w tk (aA k))(bz:∀q,aC tk q->q<w.heap.size/\¬T.M q)(bA:l9 T.P k T.aI T.root steps):
 aH ai 142 #[.pointer (some T.bg),tk] w (Fq T steps w):=by
 have cp:=h.num.2.1;refine okF (ag.s0 (some T.bg) tk) az.s0 func142 ?_;(delta ag.s0 aE ao kX z4 aa aX r1 b9 st aL au;dsimp only);refine⟨_,rfl,_,h.cells.2.2.2.1,_,rfl,_,h.cells.2.2.2.2,λs n8 n9 w'=>∃ (eg no:Nat) (l:O di) (rest:O (Nat×aB×Nat)) (bW:Nat->Prop) (aD:bN),n9=(eg:Nat)/\n8=(no:Nat)/\l9 T.P k eg no rest/\l.map di.st++rest=steps/\l.length+eg=T.aI/\
  bW=(λq=>T.E q\/aC s q)/\(∀q,aC s q->w.heap.size<=q)/\b6 w' ((T.cv bW T.G).bL aD T.P)/\cf T ((T.cv bW T.G).bL aD T.P) w w' (2*l.length)/\(∀j,aD.view j=T.C.view j)/\aW 6 232 w' s (cc di.c l)/\
  ∀x∈l,bu (λq=>w.heap.size<=q/\¬((T.cv bW T.G).bL aD T.P).M q) w' x.n x.K x.V x.D,λ_ _ n9 _=>n9.toNat,?_,?_⟩
 .have bC:T.E=λq=>T.E q\/aC ⟨none,0,0⟩ q:=by
   funext q;refine propext ⟨.inl,λh=>h.resolve_right ?_⟩;rintro⟨A,ar,_⟩
   cases ar
  have a6:(T.cv T.E T.G).bL T.C T.P=T:=rfl;refine⟨T.aI,T.root,[],steps,T.E,T.C,rfl,rfl,bA,rfl,by simp,bC,?_,by rw[a6];exact h,by rw[a6];exact .refl _ _,λ_=>rfl,?_,λx hx=>(by cases hx)⟩
  .rintro q ⟨A,ar,_⟩
   cases ar
  .exact⟨rfl,bm _,by decide,.inl ⟨rfl,rfl⟩⟩
 have fin:∀ {w':J}{bW:Nat->Prop}{aD:bN}{s:ad}{k:Nat},b6 w' ((T.cv bW T.G).bL aD T.P)->cf T ((T.cv bW T.G).bL aD T.P) w w' k->bW=(λq=>T.E q\/aC s q)->(∀q,aC s q->w.heap.size<=q)->b6 w' (T.bL aD T.P)/\cf T (T.bL aD T.P) w w' k:=by
  intro w' bW aD s k h1 Z g z;have F:∀q,T.E q->bW q:=λq a=>by rw[g];exact .inl a
  exact⟨h1.grow (W:=λ_=>False) (E:=T.E) (G:=T.G) (ae.refl _ _) (λ_ h=>h.elim) (λq a=>.inl (F q a)) (λq a=>.inr (.inl a)) λq a=>(h.dG q a).2.2,
   Z.step (W:=λ_=>False) (ae.refl _ _) (λ_ h=>h.elim) (λq a=>.inl (F q a)) λq a=>.inl a⟩
 rintro s _ _ cq ⟨eg,no,l,rest,bW,ab,rfl,rfl,a7,a9,hlen,H,L,t,R,f,aq,ep⟩;have cr:=R.af.size;refine⟨λaK=>?_,λbE=>?_⟩
 .obtain⟨o,rfl⟩:∃bF,eg=bF+1:=⟨eg-1,by have:(eg:Int)>0:=cw aK;omega⟩
  obtain⟨n,bG,bH,ba,rfl,bb⟩:=a7;obtain⟨bI,S⟩:=t.eF no n bH;have bJ:ab.D.aR<=999999999:=by
   have:ab.D.aR<=T.C.D.aR+2*l.length:=R.aR;omega
  refine(AE t bJ bI S.two _).use ?_;rintro _ r ⟨B,Z,ac,bc,be⟩;have aw:=R.trans ac;have cs:=ac.af.size;rw[Fu ba]at be;rcases be with ⟨bf,K,V,D,rfl,bK,ax⟩|⟨e,rfl,bM,bQ⟩
  .obtain rfl:=gr.uniq S bK
   obtain⟨_,aF,ct⟩:=S.is;have bR:=aF.fb;have cu:=tI aF;refine⟨n.leaf,K,V,D,0,rfl,a_ (vs:=[false,(),(),()]) rfl λbT U aG bU=>?_⟩;refine⟨U.bV rfl ?_,rfl,cm U (us:=[n.leaf,K,V,D]) rfl rfl λah aJ aM bX=>⟨λd=>(by cases d),λ_=>?_⟩⟩
   .intro v f
    simp only[c8,fi,fu]at f;rcases f with rfl|rfl|rfl|rfl<;>trivial
   have bh:Ext r ah:=Ext.cy aG aM (bm _);have cx:=bh.size;obtain⟨bS,aT,a8,bd⟩:=bD aJ;refine⟨_,bS,K,aT,V,a8,D,bd,#[no,n.leaf,K,V,D,(0:Int)],by kernel_rfl,?_⟩;refine a_ (vs:=[(0:Int),false,(),(),(),(0:Int)]) rfl λcA bi bj cB=>?_;refine⟨bi.bV rfl ?_,rfl,cm bi (us:=[no,n.leaf,K,V,D,(0:Int)]) rfl rfl λaN aO bk cD=>?_⟩
   .intro v f
    simp only[c8,fi,fu]at f;rcases f with rfl|rfl|rfl|rfl|rfl|rfl<;>trivial
   have aj:Ext r aN:=Ext.cy (bh.trans bj) bk I;have aQ:Var aN r.heap.size [n.leaf,K,V,D] 202:=(aJ.ext bj).af bk I;obtain⟨sb,bY⟩:∃sb,sb=ah.heap.size:=⟨_,rfl⟩;obtain⟨bl,bZ⟩:∃bl,bl=r.heap.size:=⟨_,rfl⟩;rw[←bY]at aO⊢;rw[←bZ]at aQ⊢;have b0:=ax.ext aj;refine cC (λn40 u=>n40=(((if o=0 then no else n.kids.getD (ez n.keys k) 0:Nat)):Int)/\Ext r u/\Var u sb (di.c ⟨no,n,if o=0 then 0 else ez n.keys k,K,V,D⟩) 232) (λq a=>⟨λak=>?_,λak=>?_⟩) ?_
   .have N:o≠0:=by
     have:((o+1:Nat):Int)>1:=cw ak;omega
    have b1:n.leaf=false:=by rw[ba];simp[N]
    have cE:=aF.oU b1;have cF:=vN n.keys k;obtain⟨bS,aT,a8,bd⟩:=bD aQ;have b2:Src 1 aN tk (aA k):=(bx.af aw.af λq a b3=>(bz q a).2 (aP.hG b3)).ext aj;refine⟨_,bS,K,aT,V,a8,D,bd,(oy b0 b2 bR I).use ?_⟩;rintro _ bn ⟨rfl,aS⟩;have bo:=aO.ext aS;obtain⟨av,b4⟩:=ew bo (i:=5) (by simp);rw[ay];refine⟨_,rfl,av,b4,aY ?_⟩;have bp:=dN bn sb 5 (.int .i64 ((ez n.keys k:Nat):Int));have bq:=eu bo (i:=5) (.int .i64 ((ez n.keys k:Nat):Int));have br:Ext r (bn.setCell ⟨sb,5,none⟩ (.int .i64 ((ez n.keys k:Nat):Int))):=Ext.cy (aj.trans aS) bp I;have b5:=(aQ.ext aS).af bp I;obtain⟨d0,d1,d2,d3⟩:=bD b5;obtain⟨A,ar,d,b7⟩:=cz.at (ax.ext br).kids (i:=ez n.keys k) I;refine⟨D,d3,_,bq.cell,A,ar,d,_,b7,a _ _ ⟨?_,br,?_⟩⟩
    .rw[if_neg N,fK,dI I];rfl
    .rw[if_neg N]
     exact bq
   .have N:o=0:=by
     have:¬((o+1:Nat):Int)>1:=cT ak;omega
    refine a _ _ ⟨by rw[if_pos N],aj,?_⟩;rw[if_pos N];exact aO
   rintro _ u ⟨rfl,bs,b8⟩;have cG:=bs.size;refine⟨_,b8.rd rfl,⟨some u.heap.size,1,1⟩,_,Fs _ _ rfl,?_⟩;have aU:=dE u (.cells (di.c ⟨no,n,if o=0 then 0 else ez n.keys k,K,V,D⟩).toArray 232);have Q:=bs.trans aU;have b_:=Q.size;have cb:=aU.size;have cd:=aq.1;rw[h3 _ (nq l)]at cd;have X:∀q,aC s q->bW q:=λq a=>by rw[H];exact .inr a
   have ce:aW 6 232 r s (cc di.c l):=aq.af ac.af λq a b=>t.j8 (X q a) b;obtain⟨x,aV⟩:∃x:di,x=⟨no,n,if o=0 then 0 else ez n.keys k,K,V,D⟩:=⟨_,rfl⟩;rw[←aV]at aU Q b_ cb⊢;have cg:∀v∈di.c x,Plain v:=by
    intro v f;unfold di.c at f;simp only[c8,fi,fu]at f;rcases f with rfl|rfl|rfl|rfl|rfl|rfl<;>trivial
   obtain⟨al,am,a1,a2,a3,a4,a5⟩:=Ft.append (dK:=228) (x:=⟨some u.heap.size,1,1⟩) (Src.new (T:=232) u (di.c x) 1 rfl) (ce.ext Q) cg (by show(2*(s.len+1)+1000)*96<=_;omega);have cH:=a4.size;have a0:∀q,aC al q->w.heap.size<=q:=λq a=>by
    rcases a5 q a with h1|h1
    .exact L q h1
    .omega
   obtain⟨jc,bt⟩:∃jc,jc=λq=>T.E q\/aC al q:=⟨_,rfl⟩;have an:∀q,jc q->T.E q\/aC al q:=λq a=>by rw[bt]at a;exact a
   have F:∀q,T.E q->bW q:=λq a=>by rw[H];exact .inl a
   have ch:cc di.c (l++ [x])=cc di.c l++di.c x:=by rw[qN];simp[cc]
   have ci:b6 am ((T.cv jc T.G).bL B T.P):=by
    refine(Z.ext Q).grow (E:=jc) (G:=T.G) a4 (λq a _=>.inl (X q a)) (λq a=>?_) (λq a=>.inr (.inl a)) λq a hg=>?_
    .rcases an q a with h1|h1
     .exact .inl (F q h1)
     .rcases a5 q h1 with g|g
      .exact .inl (X q g)
      .exact .inr (.inr ⟨g,aW.lt a2 q h1⟩)
    .rcases an q a with h1|h1
     .exact(h.dG q h1).2.2 hg
     .have g:=h.lt (q:=q) (.inr (.inr (.inr (.inr hg))))
      have:=a0 q h1;omega
   have cj:cf T ((T.cv jc T.G).bL B T.P) w am (2*(l++ [x]).length):=by
    have h1:=(aw.trans (cf.ext _ Q)).mono (l:=2*(l++ [x]).length) (by rw[cO,h9];omega);refine h1.step (E:=jc) (G:=T.G) a4 (λq a ak=>by have:=L q a;omega) (λq a=>?_) λq a=>.inl a;rcases an q a with h1|h1
    .exact .inl (F q h1)
    .exact .inr (.inr (a0 q h1))
   have bv:∀ {m:aB}{K V D:ad},bu (λq=>w.heap.size<=q/\¬((T.cv bW T.G).bL B T.P).M q) r m K V D->bu (λq=>w.heap.size<=q/\¬((T.cv jc T.G).bL B T.P).M q) am m K V D:=λ{m K V D} b=>by
    have h1:=(b.ext Q).aZ (C:=λq=>q<(u.alloc (.cells (di.c x).toArray 232)).heap.size/\w.heap.size<=q/\¬((T.cv bW T.G).bL B T.P).M q) λq a d=>⟨a,d⟩;refine(bu.af h1 a4 λq a ck=>a.2.2 (.inr (.inr (.inr (.inl (X q ck)))))).aZ λq _ d=>⟨d.2.1,λb=>d.2.2 ?_⟩;rcases b with b|b|b|b|b
    .exact .inl b
    .exact .inr (.inl b)
    .exact .inr (.inr (.inl b))
    .refine .inr (.inr (.inr (.inl ?_)))
     show bW q;rcases an q b with g|g
     .exact F q g
     .rcases a5 q g with z|z
      .exact X q z
      .have:=d.1;omega
    .exact .inr (.inr (.inr (.inr b)))
   have bw:IntKind.wrap .i64 (((o+1:Nat):Int)-1)=(o:Nat):=by rw[bB I I];omega
   refine⟨al,am,a1,⟨o,_,l++ [x],bG,jc,B,bw,rfl,?_,?_,by rw[cO,h9];omega,bt,a0,ci,cj,λj=>(bc j).trans (f j),by rw[ch];exact a2,?_⟩,?_⟩
   .cases o with
    |zero=>exact bb
    |succ m=>rw[if_neg I];exact bb
   .rw[←a9,fE,c0,aV];rfl
   .intro y Y
    rcases cM.1 Y with Y|Y
    .exact bv (ac.bP (ep y Y))
    .obtain rfl:=fh.1 Y
     subst aV;exact bv (ax.aZ λq _ d=>⟨by have:=d.1;omega,d.2⟩)
   .rw[bw]
    show(o:Int).toNat<(((o+1:Nat):Int)).toNat;omega
  .refine⟨false,bO,bO,bO,e,rfl,a_ (vs:=[false,(),(),()]) rfl λbT U aG bU=>?_⟩
   refine⟨U.bV rfl ?_,rfl,cm U (us:=[false,(),(),()]) rfl rfl λah aJ aM bX=>⟨λ_=>?_,λd=>?_⟩⟩
   .intro v f
    simp only[c8,fi,fu]at f;rcases f with rfl|rfl|rfl|rfl<;>trivial
   .have hx:Ext r ah:=Ext.cy aG aM (bm _)
    have he:e=3/\¬ab.D.calm 2:=by
     rcases bM with h1|h1|⟨_,_,h1⟩
     .exact h1
     .obtain⟨p,av,_⟩:=S
      rw[av]at h1;cases h1
     .exact absurd S (h1 n)
    obtain⟨rfl,cl⟩:=he;obtain⟨g,z⟩:=fin (k:=2*T.aI) (Z.ext hx) ((aw.trans (cf.ext _ hx)).mono I) H L;exact⟨B,g,z,λj=>(bc j).trans (f j),.inr ⟨rfl,λhc=>cl (R.calm 2 (gp hc I))⟩⟩
   .simp at d;exact absurd d bQ
 .have h0:eg=0:=by
   have:¬(eg:Int)>0:=cT bE;omega
  subst h0;have cn:rest=[]:=a7;subst cn;obtain⟨g,z⟩:=fin (k:=2*T.aI) t (R.mono I) H L;refine⟨ab,g,z,f,.inl ⟨s,l,rfl,by rw[←a9,gd],aq,λq a=>⟨L q a,λb=>?_⟩,λx hx=>?_⟩⟩
  .have cI:=L q a
   have ap:bW q:=by rw[H];exact .inr a
   rcases b with b|b|b|b|b
   .exact(t.ca.inv.eK q (.inr (.inr (.inl ap)))).2 b
   .exact(t.dG q ap).1 b
   .exact(t.dG q ap).2.1 b
   .have:=h.lt (q:=q) (.inr (.inr (.inr (.inl b))));omega
   .exact(t.dG q ap).2.2 b
  .refine(ep x hx).aZ λq _ d=>⟨d.1,λb=>d.2 ?_⟩
   rcases b with b|b|b|b|b
   .exact .inl b
   .exact .inr (.inl b)
   .exact .inr (.inr (.inl b))
   .refine .inr (.inr (.inr (.inl ?_)))
    show bW q;rw[H];exact .inl b
   .exact .inr (.inr (.inr (.inr b)))
def aP.hJ(T:aP)(f:Nat->an):aP:={T with f:=f}
structure dm where
 cb:Nat
 ma:ad
 fP:ad
 made:O Nat
 left:O Nat
structure c5(w:J)(T:aP)(c:dm):Prop where
 t:b6 w T
 v:Var w c.cb [.pointer (some T.bg),c.ma,c.fP] 297
 ma:aW 1 3 w c.ma (fp c.made)
 fP:aW 1 3 w c.fP (fp c.left)
 gc:T.G c.cb
 hK:∀q,aC c.ma q->T.G q/\q≠c.cb/\¬aC c.fP q
 jI:∀q,aC c.fP q->T.G q/\q≠c.cb
 ns:¬T.C.D.ro
theorem AG{w:J}{s:ad}{ds:O Nat}(d:Nat)(b:aW 1 3 w s (fp ds))(j:ds.length<=1000000):
 ∃ (a:ad) (w':J),Sem.run ai (Builtin.append_ #[58,58] 58 #[s,.slice (some w.heap.size) 1 1]) (w.alloc (.cells #[d] 3))=.ok a w'/\
  aW 1 3 w' a (fp (ds++ [d]))/\ae (aC s) w w'/\(∀k,aC a k->aC s k\/w.heap.size<=k)/\ae (aC s) (w.alloc (.cells #[d] 3)) w':=by
 have l:s.len=ds.length:=by have:=b.1;rw[oT]at this;omega
 have hc:Ext w (w.alloc (.cells #[d] 3)):=dE _ _;have m:(w.alloc (.cells #[d] 3)).heap.size=w.heap.size+1:=qH _ _;obtain⟨a,w',h1,e,n,c,f⟩:=qK.append (dK:=58) (x:=⟨some w.heap.size,1,1⟩) (Src.new (T:=3) w [d] 1 rfl) (b.ext hc) (λv g=>by rw[fh.1 g];trivial) (by show(2*(s.len+1)+1000)*8<=_;omega);exact⟨a,w',h1,by simpa[fp] using e,(ae.cP hc).trans c,λk i=>(f k i).imp id (λh=>I),c⟩
section
variable {w w':J}{T ax:aP}{c:dm}
theorem c5.of{W:Nat->Prop}(h:c5 w T c)(d:b6 w' ax)(hc:ae W w w')(cF:∀q,T.G q->¬W q)(f:ax.bg=T.bg)(b:∀q,T.G q->ax.G q)(g:ax.C.D.bC=T.C.D.bC:=by rfl):c5 w' ax c:=
 ⟨d,by rw[f];exact h.v.af hc (cF _ h.gc),h.ma.af hc λq a=>cF q (h.hK q a).1,h.fP.af hc λq a=>cF q (h.jI q a).1,b _ h.gc,λq a=>⟨b q (h.hK q a).1,(h.hK q a).2⟩,λq a=>⟨b q (h.jI q a).1,(h.jI q a).2⟩,λe=>h.ns λi=>g▸e i⟩
theorem c5.ext(h:c5 w T c)(hx:Ext w w'):c5 w' T c:=h.of (h.t.ext hx) hx (λ_ _ h=>h) rfl λ_ h=>h
theorem c5.cells(h:c5 w T c):w.cell? c.cb=some (.pointer (some T.bg))/\w.cell? (Addr.add c.cb 1)=some (.slice c.ma.a c.ma.len c.ma.cap)/\w.cell? (Addr.add c.cb 2)=some (.slice c.fP.a c.fP.len c.fP.cap):=by
 rw[ay,ay];exact⟨h.v.cell,h.v.cell,h.v.cell⟩
theorem b6.wU(h:b6 w T){q:Nat}(a:T.G q):¬cR T.C q:=λhf=>(h.ca.inv.eK q (.inr (.inr (.inr a)))).2 hf
theorem b6.uh{f:Nat->an}(h:b6 w T)(hs:eJ w' T.sb T.n f T.g T.s1 T.s2)(hc:ae (ff T.sb T.s1 T.s2) w w'):b6 w' (T.hJ f)/\cf T (T.hJ f) w w' 0:=
 ⟨⟨h.t.af hc h.iH,hs,h.ca.af hc λq a=>.inr (.inl a),h.iH,h.dG,h.iu,h.n,h.num,h.eF,h.bC,h.low⟩,
  ⟨rfl,rfl,rfl,rfl,rfl,rfl,rfl,rfl,rfl,rfl,bm _,λ_ h=>h,hc.mono λq _ a=>.inr (.inr (.inl a)),λq h=>.inl h,λq h=>.inl h⟩⟩
theorem Fv(h:c5 w T c)(no:Nat)(y:c.made.length<=100000):
 ∃ (b:ad) (aj:J),Sem.run ai (Builtin.append_ #[58,58] 58 #[c.ma,.slice (some w.heap.size) 1 1]) (w.alloc (.cells #[no] 3))=.ok b aj/\
  ae (aC c.ma) (w.alloc (.cells #[no] 3)) aj/\(∃u:Y,aj.cell? ⟨c.cb,1,none⟩=some u)/\aj.frozen? ⟨c.cb,1,none⟩=false/\
  ∀j,j=aj.setCell ⟨c.cb,1,none⟩ b->c5 j (T.cv T.E λq=>T.G q\/aC b q) {c with ma:=b,made:=c.made++ [no]}/\cf T (T.cv T.E λq=>T.G q\/aC b q) w j 0:=by
 obtain⟨b,aj,av,l,d,f,p⟩:=AG no h.ma I;have cF:∀q,aC c.ma q->T.G q:=λq a=>(h.hK q a).1;have z:=d.size;have m:=h.v.af d λa=>(h.hK _ a).2.1 rfl;obtain⟨cr,cq⟩:=ew m (i:=1) (by simp);refine⟨b,aj,av,p,cr,cq,?_⟩;rintro _ rfl;have g:=dN aj c.cb 1 b;have r:=eu m (i:=1) b;have k:ae T.G w (aj.setCell ⟨c.cb,1,none⟩ b):=cV (d.mono λq _ a=>cF q a) g λq _ e=>by rw[e];exact h.gc
 have A:=k.size;have aK:∀q,aC b q->q<aj.heap.size:=λq a=>aW.lt l q a;have n:∀q,aC b q->T.G q\/(w.heap.size<=q/\q<(aj.setCell ⟨c.cb,1,none⟩ b).heap.size):=λq a=>by
  rcases f q a with h1|h1
  .exact .inl (cF q h1)
  .exact .inr ⟨h1,by have:=aK q a;have:=g.size;omega⟩
 have o:∀q,aC b q->q≠c.cb:=λq a e=>by
  rcases f q a with h1|h1
  .exact(h.hK q h1).2.1 e
  .have:=h.v.lt;omega
 have s:∀q,aC b q->¬aC c.fP q:=λq a e=>by
  rcases f q a with h1|h1
  .exact(h.hK q h1).2.2 e
  .have:=aW.lt h.fP q e;omega
 have x:=h.t.grow (E:=T.E) (G:=λq=>T.G q\/aC b q) k (λq a _=>.inr a) (λq a=>.inl a) (λq a=>by
  rcases a with a|a
  .exact .inr (.inl a)
  .exact .inr (n q a)) λq a hg=>by
  rcases hg with hg|hg
  .exact(h.t.dG q a).2.2 hg
  .rcases f q hg with h1|h1
   .exact(h.t.dG q a).2.2 (cF q h1)
   .have:=h.t.lt (q:=q) (.inr (.inr (.inr (.inl a))));omega
 refine⟨⟨x,r,?_,(h.fP.af d λq a e=>(h.hK q e).2.2 a).af g λq a e=>(h.jI q a).2 e,.inl h.gc,λq a=>⟨.inr a,o q a,s q a⟩,λq a=>⟨.inl (h.jI q a).1,(h.jI q a).2⟩,h.ns⟩,?_⟩
 .have:aW 1 3 aj b (fp (c.made++ [no])):=l
  exact this.af g λq a e=>o q a e
 .have h0:cf T T w w 0:=.refl _ _
  exact h0.step k (λq a _=>.inr (.inr (.inr a))) (λq a=>.inl a) λq a=>by
   rcases a with a|a
   .exact .inl a
   .exact(n q a).imp id λe=>e.1
theorem AH(h:c5 w T c)(no:Nat)(y:c.left.length<=100000):
 ∃ (b:ad) (aj:J),Sem.run ai (Builtin.append_ #[58,58] 58 #[c.fP,.slice (some w.heap.size) 1 1]) (w.alloc (.cells #[no] 3))=.ok b aj/\
  ae (aC c.fP) (w.alloc (.cells #[no] 3)) aj/\(∃u:Y,aj.cell? ⟨c.cb,2,none⟩=some u)/\aj.frozen? ⟨c.cb,2,none⟩=false/\
  ∀j,j=aj.setCell ⟨c.cb,2,none⟩ b->c5 j (T.cv T.E λq=>T.G q\/aC b q) {c with fP:=b,left:=c.left++ [no]}/\cf T (T.cv T.E λq=>T.G q\/aC b q) w j 0:=by
 obtain⟨b,aj,av,l,d,f,p⟩:=AG no h.fP I;have cF:∀q,aC c.fP q->T.G q:=λq a=>(h.jI q a).1;have z:=d.size;have m:=h.v.af d λa=>(h.jI _ a).2 rfl;obtain⟨cr,cq⟩:=ew m (i:=2) (by simp);refine⟨b,aj,av,p,cr,cq,?_⟩;rintro _ rfl;have g:=dN aj c.cb 2 b;have r:=eu m (i:=2) b;have k:ae T.G w (aj.setCell ⟨c.cb,2,none⟩ b):=cV (d.mono λq _ a=>cF q a) g λq _ e=>by rw[e];exact h.gc
 have A:=k.size;have aK:∀q,aC b q->q<aj.heap.size:=λq a=>aW.lt l q a;have n:∀q,aC b q->T.G q\/(w.heap.size<=q/\q<(aj.setCell ⟨c.cb,2,none⟩ b).heap.size):=λq a=>by
  rcases f q a with h1|h1
  .exact .inl (cF q h1)
  .exact .inr ⟨h1,by have:=aK q a;have:=g.size;omega⟩
 have o:∀q,aC b q->q≠c.cb:=λq a e=>by
  rcases f q a with h1|h1
  .exact(h.jI q h1).2 e
  .have:=h.v.lt;omega
 have s:∀q,aC c.ma q->¬aC b q:=λq e a=>by
  rcases f q a with h1|h1
  .exact(h.hK q e).2.2 h1
  .have:=aW.lt h.ma q e;omega
 have x:=h.t.grow (E:=T.E) (G:=λq=>T.G q\/aC b q) k (λq a _=>.inr a) (λq a=>.inl a) (λq a=>by
  rcases a with a|a
  .exact .inr (.inl a)
  .exact .inr (n q a)) λq a hg=>by
  rcases hg with hg|hg
  .exact(h.t.dG q a).2.2 hg
  .rcases f q hg with h1|h1
   .exact(h.t.dG q a).2.2 (cF q h1)
   .have:=h.t.lt (q:=q) (.inr (.inr (.inr (.inl a))));omega
 refine⟨⟨x,r,(h.ma.af d λq a e=>(h.hK q a).2.2 e).af g λq a e=>(h.hK q a).2.1 e,?_,.inl h.gc,λq a=>⟨.inl (h.hK q a).1,(h.hK q a).2.1,s q a⟩,λq a=>⟨.inr a,o q a⟩,h.ns⟩,?_⟩
 .have:aW 1 3 aj b (fp (c.left++ [no])):=l
  exact this.af g λq a e=>o q a e
 .have h0:cf T T w w 0:=.refl _ _
  exact h0.step k (λq a _=>.inr (.inr (.inr a))) (λq a=>.inl a) λq a=>by
   rcases a with a|a
   .exact .inl a
   .exact(n q a).imp id λe=>e.1
end
def ck(T:aP):Nat:=T.n-ey (λi=>T.f i||T.g i) T.n
theorem AI{s t:Nat->an}:∀ {n:Nat},(∀i,i<n->s i=t i)->ey s n=ey t n
 |0,_=>rfl
 |n+1,h=>by
  unfold ey
  rw[AI (n:=n) λi hi=>h i I,h n I]
theorem ui{s t:Nat->an}{k:Nat}(a:s k=false)(ht:t k=true)(he:∀i,i≠k->t i=s i):∀ {n:Nat},k<n->ey t n=ey s n+1
 |0,h=>by omega
 |n+1,h=>by
  unfold ey
  by_cases e:k=n
  .subst e
   rw[AI (s:=t) (t:=s) (n:=k) λi hi=>he i I,a,ht]
   simp
  .rw[ui a ht he (n:=n) I,he n I]
   omega
theorem AJ{t:Nat->an}:∀ {n:Nat},(∀i,i<n->t i=true)->ey t n=n
 |0,_=>rfl
 |n+1,h=>by
  unfold ey
  rw[AJ (n:=n) λi hi=>h i I,h n I]
  simp
theorem AK{T:aP}(h:1<=ck T):∃no,firstFree (λi=>T.f i||T.g i) T.n=some no:=by
 cases hf:firstFree (λi=>T.f i||T.g i) T.n with
 |some no=>exact⟨no,rfl⟩
 |none=>
  have:=AJ (EX hf);unfold ck at h;rw[this]at h;omega
structure c6(T ax:aP)(c c':dm)(m l:O Nat)(w w':J)(k:Nat):Prop where
 to:cf T ax w w' k
 E:ax.E=T.E
 G:∀q,T.G q->ax.G q
 root:ax.root=T.root
 aI:ax.aI=T.aI
 cb:c'.cb=c.cb
 made:c'.made=c.made++m
 left:c'.left=c.left++l
 bP:m.Nodup
 iI:∀no∈m,(T.f no||T.g no)=false/\no<T.n
 f:∀no,ax.f no=(T.f no||decide (no∈m))
 ej:∀no,(T.f no||T.g no)=true->ax.P no=T.P no/\ax.C.view no=T.C.view no
 room:ck ax+m.length=ck T
theorem c6.ext{w w':J}(T:aP)(c:dm)(h:Ext w w'):c6 T T c c [] [] w w' 0:=
 ⟨.ext T h,rfl,λ_ h=>h,rfl,rfl,rfl,by simp,by simp,List.nodup_nil,λ_ h=>(by cases h),λno=>by simp,λ_ _=>⟨rfl,rfl⟩,by simp⟩
theorem c6.trans{T ax o:aP}{c c' p:dm}{m r l s:O Nat}{w w' t:J}{k u:Nat}(h1:c6 T ax c c' m l w w' k)(d:c6 ax o c' p r s w' t u):c6 T o c p (m++r) (l++s) w t (k+u):=by
 have hg:ax.g=T.g:=h1.to.g;have v:ax.n=T.n:=h1.to.n;have hf:∀no,(T.f no||T.g no)=true->(ax.f no||ax.g no)=true:=λno h=>by
  rw[h1.f,hg]
  cases i:T.f no<;>cases j:T.g no<;>simp[i,j]at h⊢
 refine⟨h1.to.trans d.to,d.E.trans h1.E,λq h=>d.G q (h1.G q h),d.root.trans h1.root,d.aI.trans h1.aI,d.cb.trans h1.cb,by rw[d.made,h1.made,c0],by rw[d.left,h1.left,c0],?_,λno h=>?_,λno=>?_,λno h=>?_,?_⟩
 .rw[List.nodup_append]
  refine⟨h1.bP,d.bP,λa x b y e=>?_⟩;subst e;have:=(d.iI a y).1;rw[h1.f]at this;simp[x]at this
 .rcases cM.1 h with h|h
  .exact h1.iI no h
  .have i:=d.iI no h
   rw[h1.f,hg,v]at i;refine⟨?_,i.2⟩
   cases z:T.f no<;>cases A:T.g no<;>simp[z,A]at i⊢
 .rw[d.f,h1.f]
  simp only[cM,Bool.decide_or,Bool.or_assoc]
 .have i:=d.ej no (hf no h)
  have j:=h1.ej no h;exact⟨i.1.trans j.1,i.2.trans j.2⟩
 .have:=h1.room
  have:=d.room;rw[cO];omega
theorem c6.mono{T ax:aP}{c c':dm}{m l:O Nat}{w w':J}{k j:Nat}(h:c6 T ax c c' m l w w' k)(a:k<=j):c6 T ax c c' m l w w' j:=⟨h.to.mono a,h.E,h.G,h.root,h.aI,h.cb,h.made,h.left,h.bP,h.iI,h.f,h.ej,h.room⟩
def AL(T:aP)(c:dm)(n:aB)(w:J)(v:Y)(w':J):Prop:=
 ∃ (no:Nat) (ax:aP) (c':dm),c5 w' ax c'/\c6 T ax c c' [no] [] w w' 1/\
  ((v=.tuple #[no,(0:Int)]/\ax.P no=some n)\/(v=.tuple #[no,(3:Int)]/\¬T.C.D.calm 1))
theorem cu.fy{n:aB}(h:cu n)(b:bq n<=400):n.keys.length<=200/\n.vals.length<=200/\n.kids.length<=201:=by
 have:=tI h;rcases h with h|h
 .have:=h.len
  have a:n.kids.length=0:=by rw[h.kids];rfl
  omega
 .have:=h.len
  have a:n.vals.length=0:=by rw[h.vals];rfl
  omega
theorem uj{B:Nat->Prop}{w:J}{T:aP}{c:dm}{n:aB}{K V D:ad}(h:c5 w T c)(bg:T.C.D.aR<=900000100)(U:1<=ck T)(bh:c.made.length<=1000)(aE:bu B w n K V D)(hs:cu n)(aF:bq n<=232):
 aH ai 283 #[.pointer (some c.cb),c2 n K V D] w (AL T c n w):=by
 obtain⟨no,W⟩:=AK U;obtain⟨u,y,_⟩:=Ag W;have H:=h.t.s.bf;have bi:=hs.fy I;refine okF (ag.tu (some c.cb) n.leaf K V D) az.tu func283 ?_;(delta ag.tu aX aa r1 dS ao gk st b4 b9;dsimp only);refine a_ (vs:=[n.leaf,K,V,D]) rfl λw1 X Z bj=>?_;obtain⟨bS,aT,a8,bd⟩:=bD X;refine⟨_,bS,K,aT,V,a8,D,bd,(oH (aE.ext Z) I I I).use ?_⟩;rintro _ aG ⟨aI,ab⟩;rcases aI with ⟨s,rfl,aJ,aK,_,_⟩|⟨e,rfl,he,aL⟩
 rotate_left
 .have:=aL hs;omega
 have L:=Z.trans ab;have r:=h.ext L;refine⟨s,0,rfl,λd=>(by cases d),λ_=>⟨_,rfl,_,r.cells.1,_,rfl,_,r.t.cells.2.1,(Ai r.t.s).use ?_⟩⟩;rintro _ aM ⟨rfl,hV,ac⟩;rw[W]at hV⊢;obtain⟨aN,M⟩:=r.t.uh hV ac;have ah:c5 aM (T.hJ (dc T.f no true)) c:=r.of aN ac (λq a hf=>(h.t.iu q a).2 hf) rfl λ_ h=>h;refine⟨(no:Nat),0,rfl,λd=>(by cases d),λ_=>⟨_,rfl,_,ah.cells.2.1,?_⟩⟩;obtain⟨z,aj,av,bk,aO,aQ,aS⟩:=Fv ah no I;refine aY ⟨z,aj,av,_,rfl,by rw[ay];exact aO,by rw[ay];exact aQ,aY ?_⟩;rw[ay];obtain⟨o,ak⟩:∃o,o=aj.setCell ⟨c.cb,0+1,none⟩ z:=⟨_,rfl⟩;rw[←ak];obtain⟨A,O⟩:=aS o ak;obtain⟨al,bl⟩:∃al,al=λq=>T.G q\/aC z q:=⟨_,rfl⟩;have am:∀q,T.N q->q<w.heap.size:=λq a=>h.t.lt (aP.hG a);have bn:=L.size;have bo:=M.af.size;have bp:=O.af.size;have an:ae T.N aG o:=M.af.trans O.af;have aU:Var o w.heap.size [n.leaf,K,V,D] 202:=(X.ext ab).af an λa=>by have:=am _ a;omega
 have aV:aW 1 5 o s (aA (ik n)):=aJ.af an λq a aZ=>by have:=am _ aZ;have:=aK q a;omega
 have hlen:=vY hs;have H:2<=no:=by
  have e:(T.f no||T.g no)=false:=y;have F:T.g no=false:=by cases hg:T.g no<;>simp_all
  have:=h.t.low;rcases ei no 2 with Q|Q
  .rcases mj no with ap|ap
   .rw[ap,this.1]at F;cases F
   .rw[show no=1 from I,this.2]at F;cases F
  .exact Q
 have R:lX ⟨if n.leaf then 1 else 2,T.gen,ik n⟩:=by
  refine⟨?_,?_,h.t.num.2.2,by show(ik n).length<=232;omega⟩
  .show 1<=(if n.leaf then 1 else 2);split<;>omega
  .show(if n.leaf then 1 else 2)<=4;split<;>omega
 refine cC (λn27 a0=>n27=((if n.leaf then 1 else 2:Nat):Int)/\a0=o) (λq a=>⟨n.leaf,aU.cell,λd=>a _ _ ⟨by rw[d];rfl,rfl⟩,λd=>a _ _ ⟨by rw[d];rfl,rfl⟩⟩) ?_;rintro _ _ ⟨rfl,rfl⟩;refine⟨_,rfl,_,A.cells.1,_,rfl,_,A.t.cells.2.2.1,(tR (no:=no) (p:=⟨if n.leaf then 1 else 2,T.gen,ik n⟩) aV.src I R).use ?_⟩;rintro _ br ⟨s2,rfl,ar,au,a1⟩;have l:=A.ext au;refine⟨s2,0,rfl,λd=>(by cases d),λ_=>⟨_,rfl,_,l.cells.1,_,rfl,_,l.t.cells.1,(Az l.t.ca (by show T.C.D.aR<=999999999;omega) (no:=no) (by rw[l.t.n];exact u) H (λhs=>by have:=l.t.bC no hs;have e:(T.f no||T.g no)=false:=y;rcases this with this|this;(rw[show T.g no=true from this,Bool.or_true]at e;cases e);exact l.ns this) ar.src (qF no R) λq a=>⟨aW.lt ar q a,λhf=>?_⟩).use ?_⟩⟩
 .have:=a1 q a
  have:=A.t.lt (q:=q) (.inl hf);omega
 rintro _ a2 ⟨aD,a3,S,a4⟩;have a5:∀j,dc T.f no true j=(T.f j||decide (j∈ [no])):=λj=>by
  unfold dc;by_cases e:j=no
  .subst e;simp
  .simp[e]
 have aw:(T.f no||T.g no)=false:=y;have a6:T.n-ey (λi=>dc T.f no true i||T.g i) T.n+1=ck T:=by
  have:=ui (s:=λi=>T.f i||T.g i) (t:=λi=>dc T.f no true i||T.g i) (k:=no) y (by simp[dc]) (λi hi=>by simp[dc,hi]) u;unfold ck at U⊢;have Q:=l5 (λi=>T.f i||T.g i) T.n;omega
 have main:∀ (P':Nat->aq aB) (v:Y),(∀j,j≠no->P' j=T.P j)->(∀j,j≠no->aD.view j=T.C.view j)->(∀j bP,P' j=some bP->j<T.n/\gr T.gen bP.leaf j (aD.view j) bP)->
  ((v=.tuple #[no,(0:Int)]/\P' no=some n)\/(v=.tuple #[no,(3:Int)]/\¬T.C.D.calm 1))->AL T c n w v a2:=by
  intro P' v a7 e5 a9 m;obtain⟨ba,bb⟩:=l.t.o7 (P:=P') a3 S a9;have bc:=l.of (ax:=((T.hJ (dc T.f no true)).cv T.E λq=>T.G q\/aC z q).bL aD P') ba S.af (λq a=>l.t.wU a) rfl (λ_ h=>h) S.bC;refine⟨no,_,_,bc,⟨?_,rfl,λq a=>.inl a,rfl,rfl,rfl,rfl,(gd _).symm,by simp,λx hx=>?_,a5,λj b=>?_,a6⟩,m⟩
  .have:=(((cf.ext T L).trans M).trans O).trans ((cf.ext _ au).trans bb)
   exact this.mono I
  .obtain rfl:=fh.1 hx
   exact⟨aw,u⟩
  .have:j≠no:=λe=>by rw[e,aw]at b;cases b
   exact⟨a7 j this,e5 j this⟩
 rcases a4 with ⟨rfl,m⟩|⟨rfl,be,m⟩
 .refine⟨0,rfl,main (λj=>if j=no then some n else T.P j) _ (λj b=>if_neg b) (λj b=>(m j).trans (if_neg b)) (λj bP b=>?_) (.inl ⟨rfl,if_pos rfl⟩)⟩
  by_cases e:j=no
  .subst e
   rw[if_pos rfl]at b
   cases b;rw[m,if_pos rfl];exact⟨u,_,tN I R,bm _,rfl,⟨hs,rfl,aF,rfl⟩,H⟩
  .rw[if_neg e]at b
   rw[m,if_neg e];exact h.t.eF j bP b
 .refine⟨3,rfl,main T.P _ (λ_ _=>rfl) (λj _=>m j) (λj bP b=>?_) (.inr ⟨rfl,be⟩)⟩
  rw[m];exact h.t.eF j bP b
theorem Fw(w:J)(x:Int):Sem.run ai (Instr.buildSlice 326 1 #[(0,.agg #[(),x])]) w=
 .ok (.slice (some w.heap.size) 1 1) (w.alloc (.cells #[(),x] 334)):=by kernel_rfl
theorem Fx(w:J)(x y:Int)(t:ad):Sem.run ai (Instr.buildSlice 326 2 #[(0,.agg #[(),x]),(1,.agg #[t,y])]) w=
 .ok (.slice (some w.heap.size) 2 2) (w.alloc (.cells #[(),x,t,y] 334)):=by kernel_rfl
theorem cu.vO{n:aB}(h:cu n)(h1:1<=b5 n)(d:if n.leaf then b5 n<=n.keys.length-1/\1<=n.keys.length-1 else b5 n<=n.keys.length-2/\1<=n.keys.length-2):cu (n.left (b5 n))/\cu (n.right (b5 n)):=by
 rcases h with h|h
 .have a:=h.leaf
  rw[if_pos a]at d;unfold aB.left aB.right;rw[if_pos a,if_pos a];have hlen:=h.len;refine⟨.inl ⟨⟨λk b=>h.ok k (eS b),h.fb.sublist (List.take_sublist _ _)⟩,rfl,?_,rfl,λv c=>h.vals v (eS c)⟩,.inl ⟨⟨λk b=>h.ok k (eR b),h.fb.sublist (List.drop_sublist _ _)⟩,rfl,?_,rfl,λv c=>h.vals v (eR c)⟩⟩
  .simp only[cN];omega
  .simp only[df];omega
 .have a:=h.inner
  rw[if_neg (by rw[a];simp)]at d;unfold aB.left aB.right;rw[if_neg (by rw[a];simp),if_neg (by rw[a];simp)];have hlen:=h.len;refine⟨.inr ⟨⟨λk b=>h.ok k (eS b),h.fb.sublist (List.take_sublist _ _)⟩,rfl,?_,?_,rfl,λv c=>h.kids v (eS c)⟩,.inr ⟨⟨λk b=>h.ok k (eR b),h.fb.sublist (List.drop_sublist _ _)⟩,rfl,?_,?_,rfl,λv c=>h.kids v (eR c)⟩⟩
  .intro e
   have:=congrArg List.length e;simp only[cN,lr]at this;omega
  .simp only[cN];omega
  .intro e
   have:=congrArg List.length e;simp only[df,lr]at this;omega
  .simp only[df];omega
def kc(B:Nat->Prop)(w:J)(s:ad)(ks:O Key)(kids:O Nat):Prop:=
 (∃b x,s=⟨some ⟨b,0,none⟩,1,1⟩/\ks=[]/\kids=[x]/\Var w b [.slice none 0 0,.int .i64 (x:Nat)] 334/\B b)\/
 (∃b x y k t,s=⟨some ⟨b,0,none⟩,2,2⟩/\ks=[k]/\kids=[x,y]/\Var w b [.slice none 0 0,.int .i64 (x:Nat),.slice t.a t.len t.cap,.int .i64 (y:Nat)] 334/\B b/\bo B w t k/\k≠ [])
def gV(T:aP)(c:dm)(n:aB)(w:J)(v:Y)(w':J):Prop:=
 ∃ (ax:aP) (c':dm) (m:O Nat) (s:ad),c5 w' ax c'/\c6 T ax c c' m [] w w' 2/\m.length<=2/\
  ((∃ks,v=.tuple #[s,(0:Int)]/\k3 ax.P n ks m/\kc (λq=>¬ax.M q) w' s ks m)\/(v=.tuple #[s,(3:Int)]/\¬T.C.D.calm 2))
theorem AM{B:Nat->Prop}{w:J}{T:aP}{c:dm}{n:aB}{K V D:ad}(h:c5 w T c)(m:T.C.D.aR<=900000100)(o:1<=ck T)(p:c.made.length<=1000)(q:bu B w n K V D)(hs:cu n)(g:bq n<=232):
 aH ai 251 #[.pointer (some ⟨c.cb,0,none⟩),c2 n K V D] w (gV T c n w):=by
 refine okF (ag.tm (some ⟨c.cb,0,none⟩) n.leaf K V D) az.tm func251 ?_;(delta ag.tm aX aa r1 gk;dsimp only);refine a_ (vs:=[.bool n.leaf,.slice K.a K.len K.cap,.slice V.a V.len V.cap,.slice D.a D.len D.cap]) rfl λw1 r f A=>?_;obtain⟨bS,aT,a8,bd⟩:=bD r;refine⟨_,bS,K,aT,V,a8,D,bd,(uj (h.ext f) m o p (q.ext f) hs g).use ?_⟩;rintro _ b ⟨no,ax,c',i,s,u⟩;have j:∀ (e:Int),((e=0/\ax.P no=some n)\/(e=3/\¬T.C.D.calm 1))->∃ (d:ad) (k:J),Sem.run ai (Instr.buildSlice 326 1 #[(0,.agg #[.slice none 0 0,.int .i64 (no:Nat)])]) b=.ok (.slice d.a d.len d.cap) k/\gV T c n w (.tuple #[.slice d.a d.len d.cap,.int .i64 e]) k:=by
  intro e he;refine⟨⟨some ⟨b.heap.size,0,none⟩,1,1⟩,_,Fw b _,?_⟩;have l:=dE b (.cells #[.slice none 0 0,.int .i64 (no:Nat)] 334);have v:c6 T ax c c' [no] [] w (b.alloc (.cells #[.slice none 0 0,.int .i64 (no:Nat)] 334)) 2:=(((c6.ext T c f).trans s).trans (c6.ext ax c' l)).mono I;refine⟨ax,c',[no],⟨some ⟨b.heap.size,0,none⟩,1,1⟩,i.ext l,v,by simp,?_⟩;rcases he with ⟨rfl,he⟩|⟨rfl,he⟩
  .refine .inl ⟨[],rfl,.inl ⟨g,no,rfl,rfl,he⟩,.inl ⟨_,no,rfl,rfl,rfl,Var.new b [.slice none 0 0,.int .i64 (no:Nat)] 334,λx=>?_⟩⟩
   have:=i.t.lt x;omega
  .exact .inr ⟨rfl,λhc=>he (gp hc I)⟩
 rcases u with ⟨rfl,y⟩|⟨rfl,z⟩
 .exact⟨_,0,rfl,j 0 (.inl ⟨rfl,y⟩)⟩
 .exact⟨_,3,rfl,j 3 (.inr ⟨rfl,z⟩)⟩
theorem fQ{b:an}{K V D:ad}:∀v∈ [.bool b,.slice K.a K.len K.cap,.slice V.a V.len V.cap,.slice D.a D.len D.cap],Plain v:=by
 intro v c;simp only[c8,fi,fu]at c;rcases c with rfl|rfl|rfl|rfl<;>trivial
theorem Fy{B:Nat->Prop}{w:J}{T:aP}{c:dm}{n:aB}{K V D:ad}(h:c5 w T c)(a0:T.C.D.aR<=900000090)(a1:2<=ck T)(a2:c.made.length<=900)(aj:bu B w n K V D)(hs:cu n)(ak:232<bq n)(a3:bq n<=400)(h1:1<=b5 n)
 (o:if n.leaf then b5 n<=n.keys.length-1/\1<=n.keys.length-1 else b5 n<=n.keys.length-2/\1<=n.keys.length-2) (al:bq (n.left (b5 n))<=232) (am:bq (n.right (b5 n))<=232):
 aH ai 294 #[.pointer (some ⟨c.cb,0,none⟩),c2 n K V D] w (gV T c n w):=by
 obtain⟨sl,an⟩:=hs.vO h1 o;have a4:=hs.fy I;have b:b5 n<n.keys.length:=by
  split at o<;>omega
 refine okF (ag.tw (some ⟨c.cb,0,none⟩) n.leaf K V D) az.tw func294 ?_;(delta ag.tw aX aa r1 yN z4 ao gk;dsimp only);refine a_ (vs:=[.bool n.leaf,.slice K.a K.len K.cap,.slice V.a V.len V.cap,.slice D.a D.len D.cap]) rfl λw1 ap G a5=>?_;obtain⟨bS,aT,a8,bd⟩:=bD ap;refine⟨_,bS,K,aT,V,a8,D,bd,(oI (aj.ext G) hs I h1 o).use ?_⟩;rintro _ aq ⟨cX,c_,a7,ct,cA,cj,t,rfl,ar,au,ht,av⟩;refine⟨_,cX,c_,a7,t,_,ct,cA,cj,true,rfl,a_ (vs:=[.bool false,.slice none 0 0,.slice none 0 0,.slice none 0 0]) rfl λa6 aw ax a9=>a_ (vs:=[.bool false,.slice none 0 0,.slice none 0 0,.slice none 0 0]) rfl λba ay H bb=>?_⟩;have L:=aw.ext H;refine⟨L.bV rfl fQ,rfl,cm L (us:=[.bool (n.left (b5 n)).leaf,.slice cX.a cX.len cX.cap,.slice c_.a c_.len c_.cap,.slice a7.a a7.len a7.cap]) rfl rfl λbc aA O be=>?_⟩;have Q:=ay.af O I;refine⟨Q.bV rfl fQ,rfl,cm Q (us:=[.bool (n.right (b5 n)).leaf,.slice ct.a ct.len ct.cap,.slice cA.a cA.len cA.cap,.slice cj.a cj.len cj.cap]) rfl rfl λp aC R bf=>⟨λb=>(by cases b),λ_=>?_⟩⟩;have aD:=aA.af R I;have S:=G.trans av;have l:Ext aq p:=Ext.cy (Ext.cy (ax.trans H) O I) R I;have r:=S.trans l;have bg:=S.size;have bh:=l.size;obtain⟨d0,d1,d2,d3⟩:=bD aD;refine⟨_,d0,cX,d1,c_,d2,a7,d3,(uj (h.ext r) I I I (ar.ext l) sl al).use ?_⟩;rintro _ aE ⟨x,bX,U,s,d,aF⟩;have u:∀q,T.N q->q<w.heap.size:=λq g=>h.t.lt (aP.hG g);have bi:=d.to.af.size;rcases aF with ⟨rfl,W⟩|⟨rfl,v⟩
 .have aG:=aC.af d.to.af λg=>by have:=u _ g;omega
  obtain⟨d0,d1,d2,d3⟩:=bD aG;have aI:bu (λq=>w1.heap.size<=q) aE (n.right (b5 n)) ct cA cj:=(au.ext l).af d.to.af λq g z=>by have:=u _ z;omega
  have aJ:bX.C.D.aR<=900000100:=eo d.to.aR (by clear s d W;omega);have aK:=d.room;have bj:U.made.length=c.made.length+1:=by rw[d.made,cO];rfl
  simp only[h9]at aK;have X:=uj s aJ I I aI an am;rw[d.cb]at X;refine⟨x,0,rfl,λb=>(by cases b),λ_=>⟨_,d0,ct,d1,cA,d2,cj,d3,X.use ?_⟩⟩;rintro _ i ⟨y,b2,Y,Z,m,aL⟩;have bk:=m.to.af.size;have aM:=((c6.ext T c r).trans d).trans m;have aN:n.keys.getD (b5 n) []=n.keys[b5 n]:=by rw[fK,dI b];rfl
  have aO:=ht.ext l;have aQ:bo (λq=>¬b2.M q) i t n.keys[b5 n]:=by
   rw[←aN];have aS:bo (λq=>q<p.heap.size/\w1.heap.size<=q) p t (n.keys.getD (b5 n) []):=bo.aZ aO λq g b=>⟨g,b⟩;have ab:=(d.trans m).to;refine bo.aZ (bo.af aS ab.af λq g z=>by have:=u _ z;omega) λq _ b A=>?_;rcases ab.de q A with ac|ac
   .have:=h.t.lt ac;omega
   .omega
  have aU:n.keys[b5 n]≠ []:=by
   have aV:cU n.keys[b5 n]:=by
    rcases hs with hs|hs
    .exact hs.ok _ (cK b)
    .exact hs.ok _ (cK b)
   intro e;have:=aV.1;rw[e]at this;simp at this
  have E:=dE i (.cells #[.slice none 0 0,.int .i64 (x:Nat),.slice t.a t.len t.cap,.int .i64 (y:Nat)] 334);have F:=(aM.trans (c6.ext b2 Y E)).mono (j:=2) I;have ae:∀ (e:Int),((e=0/\b2.P y=some (n.right (b5 n)))\/(e=3/\¬bX.C.D.calm 1))->∃ (k:ad) (ah:J),Sem.run ai (Instr.buildSlice 326 2 #[(0,.agg #[.slice none 0 0,.int .i64 (x:Nat)]),(1,.agg #[.slice t.a t.len t.cap,.int .i64 (y:Nat)])]) i=.ok (.slice k.a k.len k.cap) ah/\
   gV T c n w (.tuple #[.slice k.a k.len k.cap,.int .i64 e]) ah:=by
   intro e he;refine⟨⟨some ⟨i.heap.size,0,none⟩,2,2⟩,_,Fx i _ _ t,b2,Y,[x,y],⟨some ⟨i.heap.size,0,none⟩,2,2⟩,Z.ext E,F,by simp,?_⟩;rcases he with ⟨rfl,he⟩|⟨rfl,he⟩
   .have aW:b2.P x=some (n.left (b5 n)):=by
     rw[(m.ej x (by rw[d.f];simp)).1,W]
    refine .inl ⟨[n.keys[b5 n]],rfl,.inr ⟨ak,x,y,b,rfl,rfl,aW,he⟩,.inr ⟨_,x,y,_,t,rfl,rfl,rfl,Var.new i [.slice none 0 0,.int .i64 (x:Nat),.slice t.a t.len t.cap,.int .i64 (y:Nat)] 334,λA=>?_,bo.ext aQ E,aU⟩⟩;have:=Z.t.lt A;omega
   .exact .inr ⟨rfl,λhc=>he (d.to.calm 1 (gp hc I))⟩
  rcases aL with ⟨rfl,aY⟩|⟨rfl,v⟩
  .exact⟨_,0,rfl,ae 0 (.inl ⟨rfl,aY⟩)⟩
  .exact⟨_,3,rfl,ae 3 (.inr ⟨rfl,v⟩)⟩
 .have F:=((c6.ext T c r).trans d).mono (j:=2) I
  exact⟨_,3,rfl,λ_=>⟨bX,U,[x],bO,s,F,by simp,.inr ⟨rfl,λhc=>v (gp hc I)⟩⟩,λb=>(by cases b)⟩
theorem uk{B:Nat->Prop}{w:J}{T:aP}{c:dm}{n:aB}{K V D:ad}(h:c5 w T c)(u:T.C.D.aR<=900000090)(x:2<=ck T)(y:c.made.length<=900)(f:bu B w n K V D)(hs:cu n)(z:bq n<=400)
 (A:232<bq n->1<=b5 n/\(if n.leaf then b5 n<=n.keys.length-1/\1<=n.keys.length-1 else b5 n<=n.keys.length-2/\1<=n.keys.length-2)/\bq (n.left (b5 n))<=232/\bq (n.right (b5 n))<=232):
 aH ai 281 #[.pointer (some c.cb),c2 n K V D] w (gV T c n w):=by
 have F:=hs.fy I;refine okF (ag.tt (some c.cb) n.leaf K V D) az.tt func281 ?_;(delta ag.tt aX aa r1 b9 ao dS;dsimp only);refine a_ (vs:=[n.leaf,K,V,D]) rfl λw1 p q G=>?_;obtain⟨bS,aT,a8,bd⟩:=bD p;refine⟨_,bS,K,aT,V,a8,D,bd,(m4 (f.ext q) hs I).use ?_⟩;rintro _ E ⟨rfl,r⟩;have a:=q.trans r;obtain⟨d0,d1,d2,d3⟩:=bD (p.ext r);have fin:∀ (v:Y) (w':J),gV T c n E v w'->∃s:ad,∃e:Int,v=.tuple #[s,e]/\gV T c n w (.tuple #[s,e]) w':=by
  rintro v w' ⟨ax,c',m,s,av,i,d,k⟩;have t:=((c6.ext T c a).trans i).mono (j:=2) I;rcases k with ⟨ks,rfl,l⟩|⟨rfl,l⟩
  .exact⟨s,0,rfl,ax,c',m,s,av,t,d,.inl ⟨ks,rfl,l⟩⟩
  .exact⟨s,3,rfl,ax,c',m,s,av,t,d,.inr ⟨rfl,l⟩⟩
 refine⟨_,rfl,λb=>⟨_,d0,K,d1,V,d2,D,d3,?_⟩,λb=>⟨_,d0,K,d1,V,d2,D,d3,?_⟩⟩
 .have b:((bq n:Nat):Int)>232:=cw b
  obtain⟨av,i,d,k⟩:=A I;refine(Fy (h.ext a) u x y (f.ext a) hs I z av i d k).use ?_;rintro v w' o;obtain⟨s,e,rfl,g⟩:=fin v w' o;exact⟨s,e,rfl,g⟩
 .have b:¬((bq n:Nat):Int)>232:=cT b
  refine(AM (h.ext a) I I I (f.ext a) hs I).use ?_;rintro v w' o;obtain⟨s,e,rfl,g⟩:=fin v w' o;exact⟨s,e,rfl,g⟩
theorem AN{B:Nat->Prop}{w:J}{s:ad}{ls:O Key}(h:ba B w s ls)(t:ls.length<=100000):
 aH ai 284 #[s] w (λv w'=>∃b:ad,v=b/\bk (λq=>(B q/\q<w.heap.size)\/(w.heap.size<=q/\aC b q)) w' b ls/\Ext w w'/\gh w b):=by
 have u:=ba.len h;obtain⟨ts,av,j,x,y,n⟩:=h;refine okF (ag.sy s) az.sy func284 ?_;delta ag.sy ao aa;refine⟨λd=>?_,λ_=>?_⟩
 .have d:s.a=none:=by simpa using d
  have h0:=j.nil d;have:ls=[]:=List.eq_nil_of_length_eq_zero (by rw[←av];have:=congrArg List.length h0;simpa using this);subst this;exact⟨⟨none,0,0⟩,rfl,bk.none _ _,.refl _ _,λk e=>(g7 k e).elim⟩
 .obtain⟨b,w',h1,l,z,m,f,_⟩:=qJ.clone (dK:=127) j (wc ts) I
  refine aY ⟨b,w',h1,b,rfl,⟨ts,av,l,λq c=>⟨.inr ⟨f q c,c⟩,l.lt q c⟩,λi o p=>?_⟩,m,f⟩;have a:=n i o p;exact⟨bo.aZ (bo.ext (bo.aZ (C:=λq=>B q/\q<w.heap.size) a λq c g=>⟨g,c⟩) m) λq _ g=>.inl g,λk e r=>by have:=f k r;have:=(a.2.2 k e).2;omega⟩
theorem kc.at{B:Nat->Prop}{w:J}{s:ad}{ks:O Key}{kids:O Nat}(h:kc B w s ks kids):s.len=kids.length/\kids.length=ks.length+1/\kids.length<=2/\∀ (j:Nat) (d:j<kids.length),∃ (A:ah) (t:ad),s.a=some A/\w.cell? (A.add (j*2))=some (.slice t.a t.len t.cap)/\w.cell? ((A.add (j*2)).add 1)=some (.int .i64 ((kids[j]:Nat):Int))/\
 ((t.a=none/\ks.take j=ks.take (j-1))\/(t.a.isSome=true/\∃k,bo B w t k/\ks.take j=ks.take (j-1)++ [k])):=by
 rcases h with ⟨b,x,rfl,rfl,rfl,c,e⟩|⟨b,x,y,k,t,rfl,rfl,rfl,c,e,ht,f⟩
 .refine⟨rfl,rfl,by simp,λj d=>?_⟩
  have:j=0:=by simp at d;omega
  subst this;exact⟨_,⟨none,0,0⟩,rfl,by rw[ay];exact c.cell,by rw[ay,ay];exact c.cell,.inl ⟨rfl,rfl⟩⟩
 .refine⟨rfl,rfl,by simp,λj d=>?_⟩
  rcases ei j 1 with h1|h1
  .have:j=0:=by omega
   subst this;exact⟨_,⟨none,0,0⟩,rfl,by rw[ay];exact c.cell,by rw[ay,ay];exact c.cell,.inl ⟨rfl,rfl⟩⟩
  .have:j=1:=by simp at d;omega
   subst this;obtain⟨A,ar⟩:=bo.some ht f;exact⟨_,t,rfl,by rw[ay];exact c.cell,by rw[ay,ay];exact c.cell,.inr ⟨by rw[ar];rfl,k,ht,rfl⟩⟩
theorem kc.ext{B:Nat->Prop}{w w':J}{s:ad}{ks:O Key}{kids:O Nat}(h:kc B w s ks kids)(hx:Ext w w'):kc B w' s ks kids:=by
 rcases h with ⟨b,x,h1,a,c,d,e⟩|⟨b,x,y,k,t,h1,a,c,d,e,ht,f⟩
 .exact .inl ⟨b,x,h1,a,c,d.ext hx,e⟩
 .exact .inr ⟨b,x,y,k,t,h1,a,c,d.ext hx,e,bo.ext ht hx,f⟩
theorem Fz{w:J}{a o:Nat}{vs:O Y}{S t:ad}{ls:O Key}{l:Key}{B:Nat->Prop}{T:TypeId}(f:Var w a vs T)(p:o<vs.length)(g:bk B w S ls)(i:¬B a)
 (ht:bo B w t l) (hd:∀k,aC t k->¬aC S k) (G:ls.length<=100000) {K:J->Prop}
 (r:∀ (w':J) (aF:ad),Var w' a (vs.set o aF) T->bk (Grow B w w') w' aF (ls++ [l])->ae (λq=>q=a\/aC S q) w w'->(∀k,aC aF k->aC S k\/w.heap.size<=k)->K w'):
 al (w.alloc (.cells #[t] 48)) λs=>∃j:ad,∃c:J,Sem.run ai (Builtin.append_ #[127,127] 127 #[S,.slice (some w.heap.size) 1 1]) s=.ok j c/\
  (∃u:Y,c.cell? (Addr.add a o)=some u)/\c.frozen? (Addr.add a o)=false/\al (c.setCell (Addr.add a o) j) λv=>K v:=by
 have x:=bk.aZ (C:=λq=>B q\/w.heap.size<=q) g λk _ h=>.inl h;have y:=bo.aZ (C:=λq=>B q\/w.heap.size<=q) ht λk _ h=>.inl h;obtain⟨d,w',av,z,m,A⟩:=zu x y hd I λk b=>.inr b;have H:=f.lt;have D:¬aC S a:=λh=>by
  obtain⟨ts,_,_,E,_⟩:=g;exact i (E a h).1
 have n:=f.af m D;obtain⟨aT,a8⟩:=ew n p;refine aY ⟨d,w',av,?_⟩;rw[ay,cS];have hc:=dN w' a o d;refine⟨aT,a8,aY (r _ d (eu n _) ?_ ?_ A)⟩
 .have F:=bk.aZ (C:=Grow B w (w'.setCell ⟨a,o,none⟩ d)) z λk b h=>by
   rcases h with h|h
   .exact .inl h
   .exact .inr ⟨h,ft b hc.size⟩
  refine bk.af F hc λk b e=>?_;subst e;rcases b with h|h
  .exact i h
  .omega
 .exact(m.mono λk _ b=>.inr b).trans (hc.mono λk _ b=>.inl b)
def um(B:Nat->Prop)(n:aB)(fr to:Nat)(ks:O Key)(kids:O Nat)(w:J)(v:Y)(w':J):Prop:=
 ∃K V D:ad,v=c2 (fo n fr to ks kids) K V D/\bu (λq=>B q\/w.heap.size<=q) w' (fo n fr to ks kids) K V D/\Ext w w'
def wV(H aG e:Nat)(l:ad)(to:Int)(b8:J)(Q:Y->J->Prop):Prop:=
 ∃ (C:Int->J->Prop) (I:Int->J->Nat),C 0 b8/\∀ (n19:Int) (b:J),C n19 b->((decide ((n19:Int)<(l.len:Int)))=true->∃D:ah,l.a=some D/\((0:Int)<=n19/\n19<(l.len:Int))/\∃h:ad,b.cell? (D.add (Int.toNat n19*2))=some (.slice h.a h.len h.cap)/\∃n23:Int,b.cell? ((D.add (Int.toNat n19*2)).add 1)=some (.int .i64 n23)/\al (b.alloc (.cells #[(),(0:Int)] 334)) λK=>bj K b.heap.size [h,n23]/\(2:Nat)=2/\al (setCells K b.heap.size 0 [h,n23]) λf=>bY (λL:J->Prop=>∃i:ad,f.cell? b.heap.size=some (.slice i.a i.len i.cap)/\((!(Option.isNone i.a))=true->∃o:ad,f.cell? (Addr.add aG 1)=some (.slice o.a o.len o.cap)/\∃p:ad,f.cell? b.heap.size=some (.slice p.a p.len p.cap)/\al (f.alloc (.cells #[p] 48)) λT=>∃M:ad,∃q:J,Sem.run ai (Builtin.append_ #[127,127] 127 #[o,.slice (some f.heap.size) 1 1]) T=.ok M q/\(∃u:Y,q.cell? (Addr.add aG 1)=some u)/\q.frozen? (Addr.add aG 1)=false/\al (q.setCell (Addr.add aG 1) M) λU=>L U)/\((!(Option.isNone i.a))=false->L f)) (λ(r:J)=>∃s:ad,r.cell? (Addr.add aG 3)=some (.slice s.a s.len s.cap)/\∃n36:Int,r.cell? (Addr.add b.heap.size 1)=some (.int .i64 n36)/\al (r.alloc (.cells #[n36] 3)) λV=>∃N:ad,∃t:J,Sem.run ai (Builtin.append_ #[58,58] 58 #[s,.slice (some r.heap.size) 1 1]) V=.ok N t/\(∃u:Y,t.cell? (Addr.add aG 3)=some u)/\t.frozen? (Addr.add aG 3)=false/\al (t.setCell (Addr.add aG 3) N) λO=>C (IntKind.wrap .i64 (n19+1)) O/\I (IntKind.wrap .i64 (n19+1)) O<I n19 b))/\((decide ((n19:Int)<(l.len:Int)))=false->al (b.drew) λE=>¬False/\∃v:ad,E.cell? (Addr.add aG 1)=some (.slice v.a v.len v.cap)/\¬False/\∃c:ad,E.cell? (Addr.add H 1)=some (.slice c.a c.len c.cap)/\((0:Int)<=(IntKind.wrap .i64 (to-1))/\(IntKind.wrap .i64 (to-1))<=(c.len:Int))/\∃P:ad,∃w:J,Sem.run ai (Builtin.append_ #[127,127] 127 #[v,.slice (aJ c.a 1 (Int.toNat (IntKind.wrap .i64 (to-1))) c.cap) (c.len-(Int.toNat (IntKind.wrap .i64 (to-1)))) (c.cap-(Int.toNat (IntKind.wrap .i64 (to-1))))]) E=.ok P w/\(∃u:Y,w.cell? (Addr.add aG 1)=some u)/\w.frozen? (Addr.add aG 1)=false/\al (w.setCell (Addr.add aG 1) P) λW=>al (W.drew) λF=>¬False/\∃x:ad,F.cell? (Addr.add aG 3)=some (.slice x.a x.len x.cap)/\¬False/\∃d:ad,F.cell? (Addr.add H 3)=some (.slice d.a d.len d.cap)/\((0:Int)<=to/\to<=(d.len:Int))/\∃R:ad,∃y:J,Sem.run ai (Builtin.append_ #[58,58] 58 #[x,.slice (aJ d.a 1 (Int.toNat to) d.cap) (d.len-(Int.toNat to)) (d.cap-(Int.toNat to))]) F=.ok R y/\(∃u:Y,y.cell? (Addr.add aG 3)=some u)/\y.frozen? (Addr.add aG 3)=false/\al (y.setCell (Addr.add aG 3) R) λg=>∃G:an,g.cell? aG=some (.bool G)/\∃j:ad,g.cell? (Addr.add aG 1)=some (.slice j.a j.len j.cap)/\∃k:ad,g.cell? (Addr.add aG 2)=some (.slice k.a k.len k.cap)/\∃m:ad,g.cell? (Addr.add aG 3)=some (.slice m.a m.len m.cap)/\bj g e [G,j,k,m]/\(4:Nat)=4/\al (setCells g e 0 [G,j,k,m]) λn=>∃S:an,n.cell? e=some (.bool S)/\∃z:ad,n.cell? (Addr.add e 1)=some (.slice z.a z.len z.cap)/\∃A:ad,n.cell? (Addr.add e 2)=some (.slice A.a A.len A.cap)/\∃B:ad,n.cell? (Addr.add e 3)=some (.slice B.a B.len B.cap)/\Q (.agg #[S,z,A,B]) n)
structure o8(B:Nat->Prop)(lo:Nat)(a aG b:Nat)(n:aB)(K V D:ad)(e:O Y)(w:J)(c aw:ad)(bF bw:Nat->Prop)(ks:O Key)(ds:O Nat):Prop where
 eF:Var w a [n.leaf,K,V,D] 202
 r:Var w b e 202
 o:Var w aG [false,c,(),aw] 202
 k:bk bF w c ks
 d:cI bw w aw ds
 bc:∀q,bF q->(B q/\q<lo)\/(lo<=q/\q<w.heap.size/\q≠a/\q≠aG/\q≠b/\¬bw q)
 aL:∀q,bw q->lo<=q/\q<w.heap.size/\q≠a/\q≠aG/\q≠b
 k9:∀q,aC c q->lo<=q
theorem o8.ext{B:Nat->Prop}{lo b aG c:Nat}{n:aB}{K V D:ad}{e:O Y}{w w':J}{f aw:ad}{bF bw:Nat->Prop}{ks:O Key}{ds:O Nat}(h:o8 B lo b aG c n K V D e w f aw bF bw ks ds)(hx:Ext w w'):o8 B lo b aG c n K V D e w' f aw bF bw ks ds:=by
 have g:=hx.size;exact⟨h.eF.ext hx,h.r.ext hx,h.o.ext hx,bk.ext h.k hx,cI.ext h.d hx,λq a=>(h.bc q a).imp id λh=>⟨h.1,I,h.2.2⟩,λq a=>⟨(h.aL q a).1,by have:=(h.aL q a).2.1;omega,(h.aL q a).2.2⟩,h.k9⟩
theorem FA{B:Nat->Prop}{w b8:J}{x aG y:Nat}{n:aB}{K V D s dD D0:ad}{am:O Y}{bF bw:Nat->Prop}{ks:O Key}{kids:O Nat}{fr to:Nat}(bj:o8 B w.heap.size x aG y n K V D am b8 dD D0 bF bw (n.keys.take fr) (n.kids.take fr))(cE:Ext w b8)
 (bn:bu B w n K V D) (aQ:kc B w s ks kids) (bp:am.length=4) (h1:w.heap.size<=x) (T:w.heap.size<=aG) (H:w.heap.size<=y) (L:x≠aG/\x≠y/\aG≠y) (t1:1<=to) (t2:to<=n.kids.length) (t3:to-1<=n.keys.length) (bM:n.keys.length<=1000) (bf:n.kids.length<=1000):
 wV x aG y s (to:Nat) b8 (um B n fr to ks kids w):=by
 obtain⟨br,bl,b2,bq⟩:=aQ.at;unfold wV;refine⟨λi w'=>∃ (j:Nat) (C aw:ad) (bF bw:Nat->Prop),i=j/\j<=kids.length/\Ext w w'/\o8 B w.heap.size x aG y n K V D am w' C aw bF bw (n.keys.take fr++ks.take (j-1)) (n.kids.take fr++kids.take j),λi _=>((kids.length:Int)-i).toNat,⟨0,dD,D0,bF,bw,rfl,cZ _,cE,by simpa using bj⟩,?_⟩;rintro _ u ⟨j,C,aw,bF,bw,rfl,b3,z,h⟩;have b4:=z.size;refine⟨λaK=>?_,λaz=>?_⟩
 .have aK:j<kids.length:=by
   have:(j:Int)<(s.len:Int):=cw aK;omega
  obtain⟨A,t,ar,aT,a8,aA⟩:=(aQ.ext z).at.2.2.2 j aK;refine⟨A,ar,⟨I,I⟩,t,by rw[dQ];exact aT,_,by rw[dQ];exact a8,?_⟩;have aA:(t.a=none/\ks.take j=ks.take (j-1))\/(t.a.isSome=true/\∃k,bo (λq=>B q/\q<w.heap.size) u t k/\ks.take j=ks.take (j-1)++ [k]):=by
   obtain⟨b5,aR,aS,bs,_,bt⟩:=bq j aK;rw[ar]at aS;cases aS;have e:=ae.cell z (λh=>h) bs;rw[aT]at e;injection e with e
   obtain rfl:t=aR:=by
    cases t;cases aR;simp at e;simp[e]
   rcases bt with h|⟨h1,k,T,H⟩
   .exact .inl h
   .exact .inr ⟨h1,k,bo.ext (bo.aZ T λq c f=>⟨f,c⟩) z,H⟩
  refine a_ (vs:=[(),(0:Int)]) rfl λb6 aU bv b7=>?_;refine⟨aU.bV rfl ?_,rfl,cm aU (us:=[t,.int .i64 ((kids[j]:Nat):Int)]) rfl rfl λaD U bx b9=>?_⟩
  .intro v aV
   simp only[c8,fi,fu]at aV;rcases aV with rfl|rfl<;>trivial
  have an:Ext u aD:=Ext.cy bv bx (bm _);have m:=h.ext an;have b_:=an.size;have aW:=z.trans an;obtain⟨eG,bz⟩:∃eG,eG=u.heap.size:=⟨_,rfl⟩;rw[←bz]at U⊢;have ca:=U.lt;refine kn (λX=>∃ (ct:ad) (ao:Nat->Prop),o8 B w.heap.size x aG y n K V D am X ct aw ao bw (n.keys.take fr++ks.take j) (n.kids.take fr++kids.take j)/\Ext w X/\Var X eG [t,.int .i64 ((kids[j]:Nat):Int)] 334/\aD.heap.size<=X.heap.size) (λq c=>⟨t,U.cell,λf=>?_,λf=>?_⟩) ?_
  .rcases aA with ⟨ap,_⟩|⟨_,k,ht,ac⟩
   .rw[ap]at f;cases f
   obtain⟨ag,M,ah,N⟩:=bD (V:=⟨none,0,0⟩) m.o;have aq:∀q,aC C q->bF q:=λq c=>by
    obtain⟨ts,_,_,H,_⟩:=m.k;exact(H q c).1
   refine⟨C,M,t,U.cell,Fz (B:=λq=>bF q\/(B q/\q<w.heap.size)) m.o (o:=1) (by simp) (bk.aZ m.k λq _ f=>.inl f) (λf=>?_) (bo.aZ (bo.ext ht an) λq _ f=>.inr f) (λq c aE=>?_) ?_ λw' aF av aH p bA=>c _ ⟨aF,Grow (λq=>bF q\/(B q/\q<w.heap.size)) aD w',?_,?_,?_,p.size⟩⟩
   .rcases f with f|f
    .rcases m.bc _ f with g|g
     .omega
     .exact g.2.2.2.1 rfl
    .omega
   .have:=(ht.2.2 q c).1.2
    have:=m.k9 q aE;omega
   .rw[cO,cN,cN];omega
   .have bC:=p.size
    have E:∀q,aC C q->q<u.heap.size/\q≠x/\q≠aG/\q≠y/\¬bw q:=λq c=>by
     have bE:=h.k9 q c;rcases h.bc q (aq q c) with g|g
     .omega
     .exact g.2
    refine⟨m.eF.af p λc=>?_,m.r.af p λc=>?_,av,?_,cI.af m.d p λq f c=>?_,λq f=>?_,λq f=>⟨(m.aL q f).1,by have:=(m.aL q f).2.1;omega,(m.aL q f).2.2⟩,λq c=>?_⟩
    .rcases c with e|c
     .exact L.1 e
     .exact(E _ c).2.1 rfl
    .rcases c with e|c
     .exact L.2.2 e.symm
     .exact(E _ c).2.2.2.1 rfl
    .rw[ac,←c0];exact aH
    .rcases c with e|c
     .exact(m.aL q f).2.2.2.1 e
     .exact(E q c).2.2.2.2 f
    .rcases f with (f|f)|f
     .exact(m.bc q f).imp id λg=>⟨g.1,I,g.2.2⟩
     .exact .inl f
     .refine .inr ⟨I,f.2,λe=>?_,λe=>?_,λe=>?_,λhd=>?_⟩
      .have:=m.eF.lt;omega
      .have:=m.o.lt;omega
      .have:=m.r.lt;omega
      .have:=(m.aL q hd).2.1;omega
    .rcases bA q c with g|g
     .exact h.k9 q g
     .omega
   .exact Ext.dn aW p λq c=>by
     rcases c with rfl|c
     .exact T
     .exact m.k9 q c
   .refine U.af p λc=>?_
    rcases c with e|c
    .have:=h.o.lt;omega
    .rcases h.bc _ (aq _ c) with g|g<;>omega
  .rcases aA with ⟨_,ac⟩|⟨ap,_⟩
   .refine c _ ⟨C,bF,?_,aW,U,bm _⟩
    rw[ac];exact m
   .cases aX:t.a with
    |none=>rw[aX]at ap;cases ap
    |some A=>rw[aX]at f;cases f
  rintro X ⟨ct,ao,l,a0,a1,cb⟩;have cc:=a1.lt;obtain⟨ag,M,ah,N⟩:=bD (V:=⟨none,0,0⟩) l.o;have F:∀q,aC aw q->bw q:=λq c=>(l.d.2 q c).1;have bG:∀q,ao q->¬(q=aG\/aC aw q):=λq f c=>by
   rcases l.bc q f with g|g
   .rcases c with e|c
    .omega
    .have:=(l.aL q (F q c)).1;omega
   .rcases c with e|c
    .exact g.2.2.2.1 e
    .exact g.2.2.2.2.2 (F q c)
  have a2:IntKind.wrap .i64 ((j:Int)+1)=((j+1:Nat):Int):=by rw[bB I I];rfl
  refine⟨aw,N,_,by rw[ay];exact a1.cell,(zI (W:=λ_=>True) kids[j] l.o (o:=3) (by simp) l.d (λf=>(l.aL _ f).2.2.2.1 rfl) (by rw[cO,cN,cN];omega) λw' aF av aH p=>⟨⟨j+1,ct,aF,ao,Grow bw X w',a2,I,?_,?_⟩,?_⟩).2⟩
  .exact Ext.dn a0 p λq c=>by
    rcases c with rfl|c
    .exact T
    .exact(l.aL q (F q c)).1
  .have bC:=p.size
   refine⟨l.eF.af p λc=>?_,l.r.af p λc=>?_,av,?_,?_,λq f=>?_,λq f=>?_,l.k9⟩
   .rcases c with e|c
    .exact L.1 e
    .exact(l.aL _ (F _ c)).2.2.1 rfl
   .rcases c with e|c
    .exact L.2.2 e.symm
    .exact(l.aL _ (F _ c)).2.2.2.2 rfl
   .exact bk.af l.k p bG
   .rw[kg aK,←c0];exact aH
   .refine(l.bc q f).imp id λg=>⟨g.1,I,g.2.2.1,g.2.2.2.1,g.2.2.2.2.1,λhd=>?_⟩
    rcases hd with hd|hd
    .exact g.2.2.2.2.2 hd
    .omega
   .rcases f with f|f
    .exact⟨(l.aL q f).1,by have:=(l.aL q f).2.1;omega,(l.aL q f).2.2⟩
    .refine⟨by have:=a0.size;omega,f.2,λe=>?_,λe=>?_,λe=>?_⟩
     .have:=l.eF.lt;omega
     .have:=l.o.lt;omega
     .have:=l.r.lt;omega
  .rw[a2]
   show((kids.length:Int)-((j+1:Nat):Int)).toNat<((kids.length:Int)-(j:Int)).toNat;omega
 .have az:j=kids.length:=by
   have:¬(j:Int)<(s.len:Int):=cT az;omega
  subst az;have a3:Ext u u.drew:=cL _;have h:=h.ext a3;have z:=z.trans a3;have ac:ks.take (kids.length-1)=ks:=dH I;rw[ac,jk]at h;obtain⟨ag,M,ah,N⟩:=bD (V:=⟨none,0,0⟩) h.o;obtain⟨jJ,g1,bH,a4⟩:=bD h.eF;have a5:bu (λq=>B q/\q<w.heap.size) w n K V D:=bn.aZ λq c f=>⟨f,c⟩;have aI:=a5.ext z;have a6:=ba.len aI.keys;have a7:=cz.len aI.kids;have a9:IntKind.wrap .i64 ((to:Int)-1)=((to-1:Nat):Int):=by rw[bB I I];omega
  have aq:∀q,aC C q->bF q:=λq c=>by
   obtain⟨ts,_,_,H,_⟩:=h.k;exact(H q c).1
  have F:∀q,aC aw q->bw q:=λq c=>(h.d.2 q c).1;have bb:=ba.sub aI.keys (lo:=to-1) (hi:=n.keys.length) t3 (bm _);have bI:(n.keys.drop (to-1)).take (n.keys.length-(to-1))=n.keys.drop (to-1):=dH (by rw[df];exact bm _);rw[bI]at bb;obtain⟨P,ai,bJ,bK,Z⟩:=wz h.k bb (λq c aE=>by have:=h.k9 q aE;omega) (by rw[cO,cN];omega) (by rw[df];omega);have cd:u.drew.heap.size=u.heap.size:=rfl;have E:∀q,aC C q->q<u.drew.heap.size/\q≠x/\q≠aG/\q≠y/\¬bw q:=λq c=>by
   have bE:=h.k9 q c;rcases h.bc q (aq q c) with g|g
   .omega
   .exact g.2
  have ce:=Z.size;have bL:Ext w ai:=Ext.dn z Z λq c=>h.k9 q c;have bd:=h.o.af Z λc=>(E _ c).2.2.1 rfl;have bN:=h.eF.af Z λc=>(E _ c).2.1 rfl;have bO:=h.r.af Z λc=>(E _ c).2.2.2.1 rfl;have bP:cI bw ai aw _:=cI.af h.d Z λq f c=>(E q c).2.2.2.2 f;obtain⟨cr,cq⟩:=ew bd (i:=1) (by simp);refine aY ⟨id,C,M,id,K,g1,?_,P,ai,?_,by rw[ay];exact cr,by rw[ay];exact cq,?_⟩
  .rw[a9,a6];omega
  .rw[a9,dQ,a6];exact bJ
  rw[ay,cS];have R:=dN ai aG 1 P;have ak:=eu bd (i:=1) P;obtain⟨G,bQ⟩:∃G,G=ai.setCell ⟨aG,1,none⟩ P:=⟨_,rfl⟩;rw[←bQ]at R ak⊢;have cf:=R.size;have aJ:=bN.af R (λe=>L.1 e);have aM:=bO.af R (λe=>L.2.2 e.symm);have aN:cI bw G aw _:=cI.af bP R λq f e=>(h.aL q f).2.2.2.1 e;have al:Ext w G:=Ext.cy bL R T;have aa:Ext G G.drew:=cL _;have be:∀q,(bF q\/(B q/\q<w.heap.size)\/u.drew.heap.size<=q)->q≠aG:=λq c e=>by
   subst e;rcases c with c|c|c
   .rcases h.bc _ c with g|g
    .omega
    .exact g.2.2.2.1 rfl
   .omega
   .have:=h.o.lt;omega
  have bR:=ba.ext (ba.af bK R be) aa;have ak:=ak.ext aa;have aJ:=aJ.ext aa;have aM:=aM.ext aa;have aN:=cI.ext aN aa;have al:=al.trans aa;obtain⟨ag,M,ah,N⟩:=bD (V:=⟨none,0,0⟩) ak;obtain⟨jJ,g1,bH,a4⟩:=bD aJ;have bg:=cz.sub (a5.ext al).kids (lo:=to) (hi:=n.kids.length) t2 (bm _);have bS:(n.kids.drop to).take (n.kids.length-to)=n.kids.drop to:=dH (by rw[df];exact bm _);rw[bS]at bg;obtain⟨S,au,f1,f2,f3⟩:=zO aN bg (by rw[cO,cN];omega) (by rw[df];omega);have cg:G.drew.heap.size=G.heap.size:=rfl;have ch:=f3.size;have ax:∀q,aC aw q->w.heap.size<=q/\q<u.drew.heap.size/\q≠x/\q≠aG/\q≠y:=λq c=>h.aL q (F q c);have bT:Ext w au:=Ext.dn al f3 λq c=>(ax q c).1;have bh:=ak.af f3 λc=>(ax _ c).2.2.2.1 rfl;have bU:=aM.af f3 λc=>(ax _ c).2.2.2.2 rfl;have bW:=ba.af bR f3 λq f c=>by
   have ci:=ax q c;rcases f with f|f|f
   .rcases h.bc q f with g|g
    .omega
    .exact g.2.2.2.2.2 (F q c)
   .omega
   .omega
  obtain⟨cr,cq⟩:=ew bh (i:=3) (by simp);refine aY (aY ⟨id,aw,N,id,D,a4,?_,S,au,?_,by rw[ay];exact cr,by rw[ay];exact cq,?_⟩)
  .rw[a7];omega
  .rw[dQ,a7];exact f1
  rw[ay,cS];have ab:=dN au aG 3 S;have bi:=eu bh (i:=3) S;obtain⟨aO,bX⟩:∃aO,aO=au.setCell ⟨aG,3,none⟩ S:=⟨_,rfl⟩;rw[←bX]at ab bi⊢;have cj:=ab.size;have bY:=bU.af ab (λe=>L.2.2 e.symm);have bZ:Ext w aO:=Ext.cy bT ab T;have b0:=ba.af bW ab be;have b1:=cz.af f2 ab λq f e=>by
   subst e;rcases f with f|f|f
   .exact(h.aL _ f).2.2.2.1 rfl
   .omega
   .have:=h.o.lt;omega
  obtain⟨ag,M,ah,N⟩:=bD (V:=⟨none,0,0⟩) bi;refine aY ⟨_,ag,P,M,⟨none,0,0⟩,ah,S,N,?_⟩;refine iE false P ⟨none,0,0⟩ S bY bp (Q:=λb K V D aj=>um B n fr to ks kids w (.agg #[b,K,V,D]) aj) λck aP=>?_;refine⟨P,⟨none,0,0⟩,S,rfl,⟨?_,?_,?_⟩,Ext.cy bZ aP H⟩
  .refine ba.aZ (ba.af b0 aP λq f e=>?_) λq _ f=>?_
   .subst e
    rcases f with f|f|f
    .rcases h.bc _ f with g|g
     .omega
     .exact g.2.2.2.2.1 rfl
    .omega
    .have:=h.r.lt;omega
   .rcases f with f|f|f
    .rcases h.bc _ f with g|g
     .exact .inl g.1
     .exact .inr g.1
    .exact .inl f.1
    .have:=z.size;exact .inr I
  .exact ba.none _ _
  .refine cz.aZ (cz.af b1 aP λq f e=>?_) λq _ f=>?_
   .subst e
    rcases f with f|f|f
    .exact(h.aL _ f).2.2.2.2 rfl
    .omega
    .have:=h.r.lt;omega
   .rcases f with f|f|f
    .exact .inr (h.aL _ f).1
    .exact .inl f.1
    .have:=al.size;exact .inr I
theorem wW(K D:ad)(w:J):Sem.run ai (Instr.build 202 #[(1,K),(3,D)]) w=.ok (.agg #[false,K,(),D]) w:=by kernel_rfl
theorem oF{B:Nat->Prop}{w:J}{n:aB}{K V D s:ad}{ks:O Key}{kids:O Nat}{fr to:Nat}(Q:bu B w n K V D)(al:kc B w s ks kids)(f1:fr<=n.keys.length)(f2:fr<=n.kids.length)(t1:1<=to)(t2:to<=n.kids.length)(t3:to-1<=n.keys.length)(bM:n.keys.length<=1000)(bf:n.kids.length<=1000):
 aH ai 250 #[c2 n K V D,.int .i64 (fr:Nat),.int .i64 (to:Nat),.slice s.a s.len s.cap] w (um B n fr to ks kids w):=by
 refine okF (ag.oF n.leaf K V D (fr:Nat) (to:Nat) s) az.oF func250 ?_;(delta ag.oF z4 aa r1 bG lK ao aL aE yQ se st au aX sh;dsimp only);refine a_ (vs:=[.bool n.leaf,.slice K.a K.len K.cap,.slice V.a V.len V.cap,.slice D.a D.len D.cap]) rfl λw1 am an aD=>?_;refine a_ (vs:=[.bool false,.slice none 0 0,.slice none 0 0,.slice none 0 0]) rfl λaj ap R aF=>aY ?_;have F:Ext aj aj.drew:=cL _;have L:=(an.trans R).trans F;obtain⟨f,S⟩:∃f,f=aj.drew:=⟨_,rfl⟩;have aI:f.heap.size=aj.heap.size:=by rw[S];rfl
 rw[←S]at L F⊢;have T:=(am.ext R).ext F;have aq:=ap.ext F;obtain⟨bS,aT,a8,bd⟩:=bD T;have u:bu (λq=>B q/\q<w.heap.size) f n K V D:=(Q.aZ λq c d=>⟨d,c⟩).ext L;have aJ:=ba.len u.keys;have aM:=cz.len u.kids;have aN:=ba.le u.keys;have aO:=u.kids.2.1;have M:=ba.sub u.keys (lo:=0) (hi:=fr) (cZ _) f1;have G:=cz.sub u.kids (lo:=0) (hi:=fr) (cZ _) f2;rw[ix,Nat.sub_zero]at M G;have U:Int.toNat ((fr:Nat):Int)-0=fr:=by rw[dQ];rfl
 have fin:∀ (b8:J) (aG:Nat) (dD D0:ad),Ext f b8->Var b8 aG [.bool false,.slice dD.a dD.len dD.cap,.slice none 0 0,.slice D0.a D0.len D0.cap] 202->f.heap.size<=aG->bk (λq=>(B q/\q<w.heap.size)\/(f.heap.size<=q/\aC dD q)) b8 dD (n.keys.take fr)->aW 1 3 b8 D0 (fp (n.kids.take fr))->
  (∀q,aC dD q->f.heap.size<=q/\q≠aG)->(∀q,aC D0 q->f.heap.size<=q/\q≠aG/\¬aC dD q)->wV w.heap.size aG w1.heap.size s (to:Nat) b8 (um B n fr to ks kids w):=by
  intro b8 aG dD D0 hx ar aP W N X Y;have aQ:=hx.size;have aK:∀q,aC dD q->q<b8.heap.size:=λq c=>by
   obtain⟨ts,_,p,_,_⟩:=W;exact p.lt q c
  refine FA (bF:=λq=>(B q/\q<w.heap.size)\/aC dD q) (bw:=λq=>aC D0 q) ⟨T.ext hx,aq.ext hx,ar,bk.aZ W λq _ d=>d.imp id λh=>h.2,⟨N,λq c=>⟨c,aW.lt N q c⟩⟩,λq d=>?_,λq d=>?_,λq c=>by have:=(X q c).1;omega⟩ (L.trans hx) Q al rfl (bm _) I I ⟨I,I,I⟩ t1 t2 t3 bM bf
  .rcases d with d|d
   .exact .inl d
   .have y:=X q d
    exact .inr ⟨I,aK q d,I,y.2,I,λav=>(Y q av).2.2 d⟩
  .have y:=Y q d
   exact⟨I,aW.lt N q d,I,y.2.1,I⟩
 refine⟨λ_=>False,id,K,aT,⟨I,I⟩,id,D,bd,⟨I,I⟩,?_,?_⟩
 .rw[U]
  refine(AN M (by rw[cN];omega)).use ?_;rintro _ v ⟨dD,rfl,r,g,z⟩;have aw:=g.size;refine⟨dD,rfl,g,?_,?_⟩
  .refine(qM (G.1.ext g) (by rw[cN];omega)).use ?_
   rintro _ Z ⟨D0,rfl,x,H,ab⟩;have aR:=H.size;refine⟨D0,rfl,H,_,wW dD D0,a_ (vs:=[.bool false,.slice none 0 0,.slice none 0 0,.slice none 0 0]) rfl λaS ac ae aU=>⟨ae,ac.bV rfl (fQ (b:=false) (K:=dD) (V:=⟨none,0,0⟩) (D:=D0)),rfl,cm ac (us:=[.bool false,.slice dD.a dD.len dD.cap,.slice none 0 0,.slice D0.a D0.len D0.cap]) rfl rfl λi A k ah=>?_⟩⟩;have l:Ext Z i:=Ext.cy ae k (bm _);have t:∀q,aC dD q->q<v.heap.size:=λq c=>by
    obtain⟨ts,_,p,_,_⟩:=r;exact p.lt q c
   exact fin i Z.heap.size dD D0 (g.trans (H.trans l)) A I (bk.aZ (bk.ext r (H.trans l)) λq _ d=>d.imp (λh=>h.1) id) (x.ext l) (λq c=>⟨z q c,by have:=t q c;omega⟩) λq c=>⟨by have:=ab q c;omega,by have:=aW.lt x q c;omega,λh=>by have:=t q h;have:=ab q c;omega⟩
  .refine a_ (vs:=[.bool false,.slice none 0 0,.slice none 0 0,.slice none 0 0]) rfl λak P m ax=>⟨m,(qM ((G.1.ext g).ext m) (by rw[cN];omega)).use ?_⟩
   rintro _ ay ⟨D0,rfl,x,o,j⟩;have E:=P.ext o;refine⟨D0,rfl,o,_,wW dD D0,E.bV rfl (fQ (b:=false) (K:=dD) (V:=⟨none,0,0⟩) (D:=D0)),rfl,cm E (us:=[.bool false,.slice dD.a dD.len dD.cap,.slice none 0 0,.slice D0.a D0.len D0.cap]) rfl rfl λi A k ah=>?_⟩;have l:Ext v i:=Ext.cy (m.trans o) k (bm _);have t:∀q,aC dD q->q<v.heap.size:=λq c=>by
    obtain⟨ts,_,p,_,_⟩:=r;exact p.lt q c
   exact fin i v.heap.size dD D0 (g.trans l) A I (bk.aZ (bk.ext r l) λq _ d=>d.imp (λh=>h.1) id) (x.af k λq c e=>by have:=j q c;omega) (λq c=>⟨z q c,by have:=t q c;omega⟩) λq c=>⟨by have:=j q c;omega,by have:=j q c;omega,λh=>by have:=t q h;have:=j q c;omega⟩
 .rw[U]
  refine a_ (vs:=[.bool false,.slice none 0 0,.slice none 0 0,.slice none 0 0]) rfl λak P m ax=>⟨m,(AN (ba.ext M m) (by rw[cN];omega)).use ?_⟩;rintro _ v ⟨dD,rfl,r,g,z⟩;have aw:=g.size;refine⟨dD,rfl,g,(qM ((G.1.ext m).ext g) (by rw[cN];omega)).use ?_⟩;rintro _ ay ⟨D0,rfl,x,o,j⟩;have E:=(P.ext g).ext o;refine⟨D0,rfl,o,_,wW dD D0,E.bV rfl (fQ (b:=false) (K:=dD) (V:=⟨none,0,0⟩) (D:=D0)),rfl,cm E (us:=[.bool false,.slice dD.a dD.len dD.cap,.slice none 0 0,.slice D0.a D0.len D0.cap]) rfl rfl λi A k ah=>?_⟩;have l:Ext f i:=Ext.cy ((m.trans g).trans o) k (bm _);have t:∀q,aC dD q->q<v.heap.size:=λq c=>by
   obtain⟨ts,_,p,_,_⟩:=r;exact p.lt q c
  have aA:bk (λq=>(B q/\q<w.heap.size)\/(f.heap.size<=q/\aC dD q)) i dD (n.keys.take fr):=by
   have y:=bk.aZ (C:=λq=>(B q/\q<w.heap.size)\/(ak.heap.size<=q/\aC dD q)) (bk.ext r o) λq _ d=>d.imp (λh=>h.1) id;exact bk.aZ (bk.af y k λq d e=>by rcases d with d|d<;>omega) λq _ d=>d.imp id λh=>⟨I,h.2⟩
  exact fin i f.heap.size dD D0 l A (bm _) aA (x.af k λq c e=>by have:=j q c;omega) (λq c=>⟨by have:=z q c;omega,by have:=z q c;omega⟩) λq c=>⟨by have:=j q c;omega,by have:=j q c;omega,λh=>by have:=t q h;have:=j q c;omega⟩
def kB(n:aB):Prop:=cu n/\bq n<=400/\(232<bq n->1<=b5 n/\(if n.leaf then b5 n<=n.keys.length-1/\1<=n.keys.length-1 else b5 n<=n.keys.length-2/\1<=n.keys.length-2)/\bq (n.left (b5 n))<=232/\bq (n.right (b5 n))<=232)
structure kC(B:Nat->Prop)(w:J)(A:ah)(u:di):Prop where
 aT:w.cell? (A.add 1)=some (.bool u.n.leaf)
 a8:w.cell? ((A.add 1).add 1)=some (.slice u.K.a u.K.len u.K.cap)
 bd:w.cell? ((A.add 1).add 2)=some (.slice u.V.a u.V.len u.V.cap)
 e1:w.cell? ((A.add 1).add 3)=some (.slice u.D.a u.D.len u.D.cap)
 cH:w.cell? (A.add 5)=some (.int .i64 (u.cB:Nat))
 bP:bu B w u.n u.K u.V u.D
 b3:B A.block
 lt:A.block<w.heap.size
theorem kC.ext{B:Nat->Prop}{w w':J}{A:ah}{u:di}(h:kC B w A u)(hx:Ext w w'):kC B w' A u:=
 ⟨ae.cell hx (λh=>h) h.aT,ae.cell hx (λh=>h) h.a8,ae.cell hx (λh=>h) h.bd,ae.cell hx (λh=>h) h.e1,ae.cell hx (λh=>h) h.cH,h.bP.ext hx,h.b3,ft h.lt hx.size⟩
theorem kC.to{w w':J}{T ax:aP}{k:Nat}{A:ah}{u:di}(h:kC (λq=>¬T.M q) w A u)(ht:cf T ax w w' k):kC (λq=>¬ax.M q) w' A u:=by
 have hc:=ht.af;have a:¬T.N A.block:=λc=>h.b3 (aP.hG c);refine⟨ae.cell hc (A:=A.add 1) a h.aT,ae.cell hc (A:=(A.add 1).add 1) a h.a8,ae.cell hc (A:=(A.add 1).add 2) a h.bd,ae.cell hc (A:=(A.add 1).add 3) a h.e1,ae.cell hc (A:=A.add 5) a h.cH,?_,λd=>?_,ft h.lt hc.size⟩
 .have h1:=ht.bP (lo:=0) (h.bP.aZ λq _ b=>⟨cZ _,b⟩)
  exact h1.aZ λq _ b=>b.2
 .rcases ht.de _ d with h1|h1
  .exact h.b3 h1
  .have:=h.lt;omega
theorem gV.base{T:aP}{c:dm}{n:aB}{w0 w w':J}{v:Y}(h:gV T c n w v w')(hx:Ext w0 w):gV T c n w0 v w':=by
 obtain⟨ax,c',m,s,av,a,b,d⟩:=h;exact⟨ax,c',m,s,av,((c6.ext T c hx).trans a).mono I,b,d⟩
theorem gV.out{T:aP}{c:dm}{n:aB}{w w':J}{v:Y}(h:gV T c n w v w'):∃ (s:ad) (e:Int),v=.tuple #[s,e]:=by
 obtain⟨ax,c',m,s,av,b,d,a⟩:=h;rcases a with ⟨ks,rfl,_⟩|⟨rfl,_⟩
 .exact⟨s,0,rfl⟩
 .exact⟨s,3,rfl⟩
def wX(j aG g bv:Nat)(c up:aq ah)(n31 n36:Int)(b8:J)(Q:Y->J->Prop):Prop:=
 bY (λaf:J->Prop=>∃ag:ah,up=some ag/\∃E:Int,b8.cell? (ag.add 5)=some (.int .i64 E)/\((decide ((n36:Int)>E))=true->al (b8.drew) λd=>∃F:Nat->Prop,¬F (j:ah).block/\∃G:an,d.cell? j=some (.bool G)/\∃k:ad,d.cell? (Addr.add j 1)=some (.slice k.a k.len k.cap)/\∃l:ad,d.cell? (Addr.add j 2)=some (.slice l.a l.len l.cap)/\∃m:ad,d.cell? (Addr.add j 3)=some (.slice m.a m.len m.cap)/\¬F (aG:ah).block/\∃H:an,d.cell? aG=some (.bool H)/\∃n:ad,d.cell? (Addr.add aG 1)=some (.slice n.a n.len n.cap)/\∃o:ad,d.cell? (Addr.add aG 2)=some (.slice o.a o.len o.cap)/\∃p:ad,d.cell? (Addr.add aG 3)=some (.slice p.a p.len p.cap)/\bj d g [G,k,l,m]/\(4:Nat)=4/\al (setCells d g 0 [G,k,l,m]) λI=>ae F d I/\bj I bv [H,n,o,p]/\(4:Nat)=4/\al (setCells I bv 0 [H,n,o,p]) λau=>af au)/\((decide ((n36:Int)>E))=false->af b8)) (λ(av:J)=>al (av.drew) λb=>∃f:Nat->Prop,¬f (g:ah).block/\∃K:an,b.cell? g=some (.bool K)/\∃q:ad,b.cell? (Addr.add g 1)=some (.slice q.a q.len q.cap)/\∃r:ad,b.cell? (Addr.add g 2)=some (.slice r.a r.len r.cap)/\∃s:ad,b.cell? (Addr.add g 3)=some (.slice s.a s.len s.cap)/\∃L:ah,up=some L/\¬f ((L.add 1).add 1).block/\∃t:ad,b.cell? ((L.add 1).add 1)=some (.slice t.a t.len t.cap)/\∃M:ah,t.a=some M/\((0:Int)<=n31/\n31<(t.len:Int))/\¬f (M.add (Int.toNat n31*1)).block/\∃u:ad,b.cell? (M.add (Int.toNat n31*1))=some (.slice u.a u.len u.cap)/\¬f (bv:ah).block/\∃N:an,b.cell? bv=some (.bool N)/\∃v:ad,b.cell? (Addr.add bv 1)=some (.slice v.a v.len v.cap)/\∃w:ad,b.cell? (Addr.add bv 2)=some (.slice w.a w.len w.cap)/\∃x:ad,b.cell? (Addr.add bv 3)=some (.slice x.a x.len x.cap)/\(Calls ai 282 #[.agg #[K,q,r,s],u,.agg #[N,v,w,x]] b λaw e=>∃O:an,∃P:ad,∃R:ad,∃S:ad,∃T:an,aw=.returned (.tuple #[.agg #[O,P,R,S],T])/\ae f b e/\al (e.alloc (.cells #[false,(),(),()] 202)) λU=>ae f e U/\bj U e.heap.size [O,P,R,S]/\(4:Nat)=4/\al (setCells U e.heap.size 0 [O,P,R,S]) λh=>((!T)=true->Q (.tuple #[(),(0:Int),(0:Int),(4:Int)]) h)/\((!T)=false->∃aj:an,h.cell? e.heap.size=some (.bool aj)/\∃y:ad,h.cell? (Addr.add e.heap.size 1)=some (.slice y.a y.len y.cap)/\∃z:ad,h.cell? (Addr.add e.heap.size 2)=some (.slice z.a z.len z.cap)/\∃A:ad,h.cell? (Addr.add e.heap.size 3)=some (.slice A.a A.len A.cap)/\Calls ai 281 #[.pointer c,.agg #[aj,y,z,A]] h λax ay=>∃ak:ad,∃am:Int,ax=.returned (.tuple #[ak,am])/\Q (.tuple #[ak,n31,.int .i64 (IntKind.wrap .i64 (n31+2)),am]) ay))/\(al (b.alloc (.cells #[false,(),(),()] 202)) λV=>ae f b V/\Calls ai 282 #[.agg #[K,q,r,s],u,.agg #[N,v,w,x]] V λaz W=>∃X:an,∃Z:ad,∃aa:ad,∃ab:ad,∃ac:an,az=.returned (.tuple #[.agg #[X,Z,aa,ab],ac])/\ae f V W/\bj W b.heap.size [X,Z,aa,ab]/\(4:Nat)=4/\al (setCells W b.heap.size 0 [X,Z,aa,ab]) λi=>((!ac)=true->Q (.tuple #[(),(0:Int),(0:Int),(4:Int)]) i)/\((!ac)=false->∃ao:an,i.cell? b.heap.size=some (.bool ao)/\∃B:ad,i.cell? (Addr.add b.heap.size 1)=some (.slice B.a B.len B.cap)/\∃C:ad,i.cell? (Addr.add b.heap.size 2)=some (.slice C.a C.len C.cap)/\∃D:ad,i.cell? (Addr.add b.heap.size 3)=some (.slice D.a D.len D.cap)/\Calls ai 281 #[.pointer c,.agg #[ao,B,C,D]] i λaA aB=>∃ap:ad,∃ar:Int,aA=.returned (.tuple #[ap,ar])/\Q (.tuple #[ap,n31,.int .i64 (IntKind.wrap .i64 (n31+2)),ar]) aB)))
theorem FB{U W:Nat->Prop}{w0 b8:J}{T:aP}{c:dm}{X aG g bv:Nat}{A:ah}{u:di}{n o:aB}{K V D i j k:ad}{fr other:Nat}{Q:Y->J->Prop}(h:c5 w0 T c)(hx:Ext w0 b8)(an:Var w0 X (ec n K V D) 202)(ao:Var w0 aG (ec o i j k) 202)
 (ap:Var b8 g (ec o i j k) 202) (aq:Var b8 bv (ec n K V D) 202) (h1:w0.heap.size<=g) (aV:w0.heap.size<=bv) (ar:g≠bv) (au:bu U w0 n K V D) (av:bu W w0 o i j k) (hu:kC (λq=>¬T.M q) w0 A u)
 (aw:T.C.D.aR<=900000090) (ax:2<=ck T) (ay:c.made.length<=900) (Z:cu n) (aa:cu o) (bw:bq n<=400) (bx:bq o<=400) (az:o.leaf=n.leaf) (aW:fr<u.n.keys.length) (aA:cU u.n.keys[fr]) (m:aB) (aC:m=if u.cB<other then dx n u.n.keys[fr] o else dx o u.n.keys[fr] n) (l:kB m) (bz:fr<=1000)
 (aD:∀ (s:ad) (e:Int) (w':J),gV T c m w0 (.tuple #[.slice s.a s.len s.cap,.int .i64 e]) w'->Q (.tuple #[.slice s.a s.len s.cap,.int .i64 (fr:Nat),.int .i64 ((fr+2:Nat):Int),.int .i64 e]) w'):
 wX X aG g bv (some ⟨c.cb,0,none⟩) (some A) (fr:Nat) (other:Nat) b8 Q:=by
 have bA:=an.lt;have bC:=ao.lt;have bE:=hx.size;have fn:=Z.fy I;have bF:=aa.fy I;unfold wX;refine kn (λp=>∃ (a b:aB) (F G H L N O:ad) (aE aF:Nat->Prop),Ext w0 p/\Var p g (ec a F G H) 202/\Var p bv (ec b L N O) 202/\bu aE w0 a F G H/\bu aF w0 b L N O/\m=dx a u.n.keys[fr] b/\cu a/\cu b/\a.leaf=b.leaf/\a.keys.length<=200/\b.keys.length<=200)
  (λq r=>⟨A,rfl,_,(hu.ext hx).cH,λd=>?_,λd=>r _ ⟨o,n,i,j,k,K,V,D,W,U,hx,ap,aq,av,au,?_,aa,Z,az,I,I⟩⟩) ?_
 .have d:u.cB<other:=by
   have:((other:Nat):Int)>((u.cB:Nat):Int):=cw d;omega
  have f:=hx.trans (cL b8);obtain⟨aX,bM,bf,aZ⟩:=bD (an.ext f);obtain⟨a0,a4,a5,a6⟩:=bD (ao.ext f);have aH:=ap.drew;have a7:=aq.drew;refine aY ⟨λq=>q=g,(show X≠g from I),_,aX,K,bM,V,bf,D,aZ,(show aG≠g from I),_,a0,i,a4,j,a5,k,a6,aH.bV rfl fQ,rfl,cm aH (us:=ec n K V D) rfl rfl λbG a9 ab bI=>?_⟩;have aI:=a7.af ab (λe=>ar e.symm);refine⟨ab,aI.bV rfl fQ,rfl,cm aI (us:=ec o i j k) rfl rfl λbJ bb aJ bK=>?_⟩;exact r _ ⟨n,o,K,V,D,i,j,k,U,W,Ext.cy (Ext.cy f ab h1) aJ aV,a9.af aJ ar,bb,au,av,by rw[aC,if_pos d],Z,aa,az.symm,I,I⟩
 .have d:¬u.cB<other:=by
   have:¬((other:Nat):Int)>((u.cB:Nat):Int):=cT d;omega
  rw[aC,if_neg d]
 rintro p ⟨a,b,F,G,H,L,N,O,aE,aF,bc,bd,d,aK,aL,ac,sa,sb,aM,bL,lb⟩;have f:=bc.trans (cL p);have be:=bd.drew;have bg:=d.drew;obtain⟨bh,a1,a2,a3⟩:=bD be;obtain⟨bi,cg,bH,bj⟩:=bD bg;have aN:=hu.ext f;obtain⟨bk,tk,bl,bn,bo,P,bN⟩:=ba.at aN.bP.keys aW;have aO:cu (dx a u.n.keys[fr] b):=by rw[←ac];exact l.1
 have B:=m5 (aK.ext f) (aL.ext f) P.1 (λq r=>(P.2.2 q r).2) (by have:=aA.2;omega) sa sb aM aO I I;rw[←ac]at B;have aQ:IntKind.wrap .i64 (((fr:Nat):Int)+2)=((fr+2:Nat):Int):=by rw[bB I I];rfl
 obtain⟨wd,bO⟩:∃wd,wd=p.drew:=⟨_,rfl⟩;refine aY ⟨λ_=>False,id,_,bh,F,a1,G,a2,H,a3,A,rfl,id,u.K,aN.a8,bk,bl,bn,id,tk,bo,id,_,bi,L,cg,N,bH,O,bj,?_,?_⟩
 .refine B.use ?_
  rintro _ bp ⟨t,w,x,rfl,ae,y⟩;refine⟨_,t,w,x,true,rfl,y,a_ (vs:=[.bool false,.slice none 0 0,.slice none 0 0,.slice none 0 0]) rfl λbQ aS aT bR=>⟨aT,aS.bV rfl fQ,rfl,cm aS (us:=ec m t w x) rfl rfl λag ai R br=>⟨λd=>(by cases d),λ_=>?_⟩⟩⟩;have S:Ext bp ag:=Ext.cy aT R (bm _);have cE:=(f.trans y).trans S;obtain⟨aj,ak,al,am⟩:=bD ai;refine⟨_,aj,t,ak,w,al,x,am,(uk (h.ext cE) aw ax ay (ae.ext S) l.1 l.2.1 l.2.2).use ?_⟩;intro v w' E;obtain⟨s,e,rfl⟩:=E.out;rw[aQ];exact⟨s,e,rfl,aD s e w' (E.base cE)⟩
 .refine a_ (vs:=[.bool false,.slice none 0 0,.slice none 0 0,.slice none 0 0]) rfl λbS bs z bT=>⟨z,?_⟩
  have B:=m5 ((aK.ext f).ext z) ((aL.ext f).ext z) (P.1.ext z) (λq r=>ft (P.2.2 q r).2 z.size) (by have:=aA.2;omega) sa sb aM aO I I;rw[←ac]at B;refine B.use ?_;rintro _ bU ⟨t,w,x,rfl,ae,y⟩;have aU:=bs.ext y;refine⟨_,t,w,x,true,rfl,y,aU.bV rfl fQ,rfl,cm aU (us:=ec m t w x) rfl rfl λag ai R br=>⟨λd=>(by cases d),λ_=>?_⟩⟩;have S:Ext p.drew ag:=Ext.cy (z.trans y) R (bm _);have cE:=f.trans S;have bt:=bu.af ae R λq r e=>by omega
  obtain⟨aj,ak,al,am⟩:=bD ai;refine⟨_,aj,t,ak,w,al,x,am,(uk (h.ext cE) aw ax ay bt l.1 l.2.1 l.2.2).use ?_⟩;intro v w' E;obtain⟨s,e,rfl⟩:=E.out;rw[aQ];exact⟨s,e,rfl,aD s e w' (E.base cE)⟩
theorem c6.leave{T:aP}{c c':dm}{E G:Nat->Prop}{w w':J}{no:Nat}(h:cf T (T.cv E G) w w' 0)(a:E=T.E)(b:∀q,T.G q->G q)(h1:c'.cb=c.cb)(d:c'.made=c.made)(e:c'.left=c.left++ [no]):c6 T (T.cv E G) c c' [] [no] w w' 0:=
 ⟨h,a,b,rfl,rfl,h1,by rw[d,gd],e,List.nodup_nil,λ_ h=>(by cases h),λno=>by simp[aP.cv],λ_ _=>⟨rfl,rfl⟩,by simp[ck,aP.cv]⟩
def wY(f aG:Nat)(c up:aq ah)(n31 n36 n41 aI:Int)(b8:J)(Q:Y->J->Prop):Prop:=
 (((aI:Int) !=0)=true->Q (.tuple #[(),(0:Int),(0:Int),aI]) b8)/\(((aI:Int) !=0)=false->∃bv:ah,c=some bv/\∃am:ad,b8.cell? (bv.add 2)=some (.slice am.a am.len am.cap)/\al (b8.alloc (.cells #[n41] 3)) λbO=>∃bw:ad,∃ao:J,Sem.run ai (Builtin.append_ #[58,58] 58 #[am,.slice (some b8.heap.size) 1 1]) bO=.ok bw ao/\∃ap:ah,c=some ap/\(∃u:Y,ao.cell? (ap.add 2)=some u)/\ao.frozen? (ap.add 2)=false/\al (ao.setCell (ap.add 2) bw) λbP=>al (bP.drew) λb=>∃m:Nat->Prop,¬m (aG:ah).block/\∃A:an,b.cell? aG=some (.bool A)/\∃p:ad,b.cell? (Addr.add aG 1)=some (.slice p.a p.len p.cap)/\∃q:ad,b.cell? (Addr.add aG 2)=some (.slice q.a q.len q.cap)/\∃r:ad,b.cell? (Addr.add aG 3)=some (.slice r.a r.len r.cap)/\¬m (f:ah).block/\∃B:an,b.cell? f=some (.bool B)/\∃s:ad,b.cell? (Addr.add f 1)=some (.slice s.a s.len s.cap)/\∃t:ad,b.cell? (Addr.add f 2)=some (.slice t.a t.len t.cap)/\∃v:ad,b.cell? (Addr.add f 3)=some (.slice v.a v.len v.cap)/\(al (b.alloc (.cells #[false,(),(),()] 202)) λg=>ae m b g/\al (g.alloc (.cells #[false,(),(),()] 202)) λar=>ae m g ar/\bj ar b.heap.size [A,p,q,r]/\(4:Nat)=4/\al (setCells ar b.heap.size 0 [A,p,q,r]) λaJ=>ae m ar aJ/\bj aJ g.heap.size [B,s,t,v]/\(4:Nat)=4/\al (setCells aJ g.heap.size 0 [B,s,t,v]) λaK=>bY (λbx:J->Prop=>∃bz:ah,up=some bz/\∃aL:Int,aK.cell? (bz.add 5)=some (.int .i64 aL)/\((decide ((n36:Int)>aL))=true->al (aK.drew) λi=>∃aM:Nat->Prop,¬aM (f:ah).block/\∃aN:an,i.cell? f=some (.bool aN)/\∃C:ad,i.cell? (Addr.add f 1)=some (.slice C.a C.len C.cap)/\∃D:ad,i.cell? (Addr.add f 2)=some (.slice D.a D.len D.cap)/\∃E:ad,i.cell? (Addr.add f 3)=some (.slice E.a E.len E.cap)/\¬aM (aG:ah).block/\∃aO:an,i.cell? aG=some (.bool aO)/\∃F:ad,i.cell? (Addr.add aG 1)=some (.slice F.a F.len F.cap)/\∃G:ad,i.cell? (Addr.add aG 2)=some (.slice G.a G.len G.cap)/\∃H:ad,i.cell? (Addr.add aG 3)=some (.slice H.a H.len H.cap)/\bj i b.heap.size [aN,C,D,E]/\(4:Nat)=4/\al (setCells i b.heap.size 0 [aN,C,D,E]) λaP=>ae aM i aP/\bj aP g.heap.size [aO,F,G,H]/\(4:Nat)=4/\al (setCells aP g.heap.size 0 [aO,F,G,H]) λbQ=>bx bQ)/\((decide ((n36:Int)>aL))=false->bx aK)) (λ(bR:J)=>al (bR.drew) λd=>∃n:Nat->Prop,¬n (b.heap.size:ah).block/\∃aQ:an,d.cell? b.heap.size=some (.bool aQ)/\∃I:ad,d.cell? (Addr.add b.heap.size 1)=some (.slice I.a I.len I.cap)/\∃K:ad,d.cell? (Addr.add b.heap.size 2)=some (.slice K.a K.len K.cap)/\∃L:ad,d.cell? (Addr.add b.heap.size 3)=some (.slice L.a L.len L.cap)/\∃aR:ah,up=some aR/\¬n ((aR.add 1).add 1).block/\∃M:ad,d.cell? ((aR.add 1).add 1)=some (.slice M.a M.len M.cap)/\∃aS:ah,M.a=some aS/\((0:Int)<=n31/\n31<(M.len:Int))/\¬n (aS.add (Int.toNat n31*1)).block/\∃N:ad,d.cell? (aS.add (Int.toNat n31*1))=some (.slice N.a N.len N.cap)/\¬n (g.heap.size:ah).block/\∃aT:an,d.cell? g.heap.size=some (.bool aT)/\∃O:ad,d.cell? (Addr.add g.heap.size 1)=some (.slice O.a O.len O.cap)/\∃P:ad,d.cell? (Addr.add g.heap.size 2)=some (.slice P.a P.len P.cap)/\∃R:ad,d.cell? (Addr.add g.heap.size 3)=some (.slice R.a R.len R.cap)/\(Calls ai 282 #[.agg #[aQ,I,K,L],N,.agg #[aT,O,P,R]] d λbS k=>∃aU:an,∃aV:ad,∃aW:ad,∃aX:ad,∃aY:an,bS=.returned (.tuple #[.agg #[aU,aV,aW,aX],aY])/\ae n d k/\al (k.alloc (.cells #[false,(),(),()] 202)) λaZ=>ae n k aZ/\bj aZ k.heap.size [aU,aV,aW,aX]/\(4:Nat)=4/\al (setCells aZ k.heap.size 0 [aU,aV,aW,aX]) λw=>((!aY)=true->Q (.tuple #[(),(0:Int),(0:Int),(4:Int)]) w)/\((!aY)=false->∃bA:an,w.cell? k.heap.size=some (.bool bA)/\∃au:ad,w.cell? (Addr.add k.heap.size 1)=some (.slice au.a au.len au.cap)/\∃av:ad,w.cell? (Addr.add k.heap.size 2)=some (.slice av.a av.len av.cap)/\∃aw:ad,w.cell? (Addr.add k.heap.size 3)=some (.slice aw.a aw.len aw.cap)/\Calls ai 281 #[.pointer c,.agg #[bA,au,av,aw]] w λbT bU=>∃bB:ad,∃bC:Int,bT=.returned (.tuple #[bB,bC])/\Q (.tuple #[bB,n31,.int .i64 (IntKind.wrap .i64 (n31+2)),bC]) bU))/\(al (d.alloc (.cells #[false,(),(),()] 202)) λa0=>ae n d a0/\Calls ai 282 #[.agg #[aQ,I,K,L],N,.agg #[aT,O,P,R]] a0 λbV a1=>∃a2:an,∃a3:ad,∃a4:ad,∃a5:ad,∃a6:an,bV=.returned (.tuple #[.agg #[a2,a3,a4,a5],a6])/\ae n a0 a1/\bj a1 d.heap.size [a2,a3,a4,a5]/\(4:Nat)=4/\al (setCells a1 d.heap.size 0 [a2,a3,a4,a5]) λx=>((!a6)=true->Q (.tuple #[(),(0:Int),(0:Int),(4:Int)]) x)/\((!a6)=false->∃bD:an,x.cell? d.heap.size=some (.bool bD)/\∃ax:ad,x.cell? (Addr.add d.heap.size 1)=some (.slice ax.a ax.len ax.cap)/\∃ay:ad,x.cell? (Addr.add d.heap.size 2)=some (.slice ay.a ay.len ay.cap)/\∃az:ad,x.cell? (Addr.add d.heap.size 3)=some (.slice az.a az.len az.cap)/\Calls ai 281 #[.pointer c,.agg #[bD,ax,ay,az]] x λbW bX=>∃bE:ad,∃bF:Int,bW=.returned (.tuple #[bE,bF])/\Q (.tuple #[bE,n31,.int .i64 (IntKind.wrap .i64 (n31+2)),bF]) bX))))/\(al (b.alloc (.cells #[false,(),(),()] 202)) λh=>ae m b h/\al (h.alloc (.cells #[false,(),(),()] 202)) λaA=>ae m h aA/\bj aA h.heap.size [A,p,q,r]/\(4:Nat)=4/\al (setCells aA h.heap.size 0 [A,p,q,r]) λa7=>ae m aA a7/\bj a7 b.heap.size [B,s,t,v]/\(4:Nat)=4/\al (setCells a7 b.heap.size 0 [B,s,t,v]) λa8=>bY (λbG:J->Prop=>∃bH:ah,up=some bH/\∃a9:Int,a8.cell? (bH.add 5)=some (.int .i64 a9)/\((decide ((n36:Int)>a9))=true->al (a8.drew) λj=>∃a_:Nat->Prop,¬a_ (f:ah).block/\∃ba:an,j.cell? f=some (.bool ba)/\∃S:ad,j.cell? (Addr.add f 1)=some (.slice S.a S.len S.cap)/\∃T:ad,j.cell? (Addr.add f 2)=some (.slice T.a T.len T.cap)/\∃U:ad,j.cell? (Addr.add f 3)=some (.slice U.a U.len U.cap)/\¬a_ (aG:ah).block/\∃bb:an,j.cell? aG=some (.bool bb)/\∃V:ad,j.cell? (Addr.add aG 1)=some (.slice V.a V.len V.cap)/\∃W:ad,j.cell? (Addr.add aG 2)=some (.slice W.a W.len W.cap)/\∃X:ad,j.cell? (Addr.add aG 3)=some (.slice X.a X.len X.cap)/\bj j h.heap.size [ba,S,T,U]/\(4:Nat)=4/\al (setCells j h.heap.size 0 [ba,S,T,U]) λbc=>ae a_ j bc/\bj bc b.heap.size [bb,V,W,X]/\(4:Nat)=4/\al (setCells bc b.heap.size 0 [bb,V,W,X]) λbZ=>bG bZ)/\((decide ((n36:Int)>a9))=false->bG a8)) (λ(b0:J)=>al (b0.drew) λe=>∃o:Nat->Prop,¬o (h.heap.size:ah).block/\∃bd:an,e.cell? h.heap.size=some (.bool bd)/\∃Z:ad,e.cell? (Addr.add h.heap.size 1)=some (.slice Z.a Z.len Z.cap)/\∃aa:ad,e.cell? (Addr.add h.heap.size 2)=some (.slice aa.a aa.len aa.cap)/\∃ab:ad,e.cell? (Addr.add h.heap.size 3)=some (.slice ab.a ab.len ab.cap)/\∃be:ah,up=some be/\¬o ((be.add 1).add 1).block/\∃ac:ad,e.cell? ((be.add 1).add 1)=some (.slice ac.a ac.len ac.cap)/\∃bf:ah,ac.a=some bf/\((0:Int)<=n31/\n31<(ac.len:Int))/\¬o (bf.add (Int.toNat n31*1)).block/\∃af:ad,e.cell? (bf.add (Int.toNat n31*1))=some (.slice af.a af.len af.cap)/\¬o (b.heap.size:ah).block/\∃bg:an,e.cell? b.heap.size=some (.bool bg)/\∃ag:ad,e.cell? (Addr.add b.heap.size 1)=some (.slice ag.a ag.len ag.cap)/\∃aj:ad,e.cell? (Addr.add b.heap.size 2)=some (.slice aj.a aj.len aj.cap)/\∃ak:ad,e.cell? (Addr.add b.heap.size 3)=some (.slice ak.a ak.len ak.cap)/\(Calls ai 282 #[.agg #[bd,Z,aa,ab],af,.agg #[bg,ag,aj,ak]] e λb1 l=>∃bh:an,∃bi:ad,∃bk:ad,∃bl:ad,∃bm:an,b1=.returned (.tuple #[.agg #[bh,bi,bk,bl],bm])/\ae o e l/\al (l.alloc (.cells #[false,(),(),()] 202)) λbn=>ae o l bn/\bj bn l.heap.size [bh,bi,bk,bl]/\(4:Nat)=4/\al (setCells bn l.heap.size 0 [bh,bi,bk,bl]) λy=>((!bm)=true->Q (.tuple #[(),(0:Int),(0:Int),(4:Int)]) y)/\((!bm)=false->∃bI:an,y.cell? l.heap.size=some (.bool bI)/\∃aB:ad,y.cell? (Addr.add l.heap.size 1)=some (.slice aB.a aB.len aB.cap)/\∃aC:ad,y.cell? (Addr.add l.heap.size 2)=some (.slice aC.a aC.len aC.cap)/\∃aD:ad,y.cell? (Addr.add l.heap.size 3)=some (.slice aD.a aD.len aD.cap)/\Calls ai 281 #[.pointer c,.agg #[bI,aB,aC,aD]] y λb2 b3=>∃bJ:ad,∃bK:Int,b2=.returned (.tuple #[bJ,bK])/\Q (.tuple #[bJ,n31,.int .i64 (IntKind.wrap .i64 (n31+2)),bK]) b3))/\(al (e.alloc (.cells #[false,(),(),()] 202)) λbo=>ae o e bo/\Calls ai 282 #[.agg #[bd,Z,aa,ab],af,.agg #[bg,ag,aj,ak]] bo λb4 bp=>∃bq:an,∃br:ad,∃bs:ad,∃bt:ad,∃bu:an,b4=.returned (.tuple #[.agg #[bq,br,bs,bt],bu])/\ae o bo bp/\bj bp e.heap.size [bq,br,bs,bt]/\(4:Nat)=4/\al (setCells bp e.heap.size 0 [bq,br,bs,bt]) λz=>((!bu)=true->Q (.tuple #[(),(0:Int),(0:Int),(4:Int)]) z)/\((!bu)=false->∃bL:an,z.cell? e.heap.size=some (.bool bL)/\∃aE:ad,z.cell? (Addr.add e.heap.size 1)=some (.slice aE.a aE.len aE.cap)/\∃aF:ad,z.cell? (Addr.add e.heap.size 2)=some (.slice aF.a aF.len aF.cap)/\∃aH:ad,z.cell? (Addr.add e.heap.size 3)=some (.slice aH.a aH.len aH.cap)/\Calls ai 281 #[.pointer c,.agg #[bL,aE,aF,aH]] z λb5 b6=>∃bM:ad,∃bN:Int,b5=.returned (.tuple #[bM,bN])/\Q (.tuple #[bM,n31,.int .i64 (IntKind.wrap .i64 (n31+2)),bN]) b6)))))
theorem FC{w:J}{T:aP}{c:dm}{p aG:Nat}{A:ah}{u:di}{n o:aB}{K V D j k l:ad}{fr other no:Nat}{Q:Y->J->Prop}(h:c5 w T c)(ar:Var w p (ec n K V D) 202)(au:Var w aG (ec o j k l) 202)
 (aw:¬T.M p) (ax:¬T.M aG) (az:bu (λq=>¬T.M q) w n K V D) (aA:bu (λq=>¬T.M q) w o j k l) (hu:kC (λq=>¬T.M q) w A u)
 (aD:T.C.D.aR<=900000090) (aE:2<=ck T) (aF:c.made.length<=900) (bn:c.left.length<=900) (aH:cu n) (aI:cu o) (aJ:bq n<=400) (aK:bq o<=400) (aL:o.leaf=n.leaf) (aM:fr<u.n.keys.length) (aN:cU u.n.keys[fr]) (m:aB) (F:m=if u.cB<other then dx n u.n.keys[fr] o else dx o u.n.keys[fr] n) (aO:kB m) (aQ:fr<=1000)
 (aS:∀ (s:ad) (e:Int) (bX:aP) (aT:dm) (w1 w':J),c6 T bX c aT [] [no] w w1 0->gV bX aT m w1 (.tuple #[.slice s.a s.len s.cap,.int .i64 e]) w'->Q (.tuple #[.slice s.a s.len s.cap,.int .i64 (fr:Nat),.int .i64 ((fr+2:Nat):Int),.int .i64 e]) w'):
 wY p aG (some ⟨c.cb,0,none⟩) (some A) (fr:Nat) (other:Nat) (no:Nat) 0 w Q:=by
 unfold wY;refine⟨λH=>(by cases H),λ_=>⟨_,rfl,_,h.cells.2.2,?_⟩⟩;obtain⟨d,ak,av,bo,aU,aV,aW⟩:=AH h no I;refine aY ⟨d,ak,av,_,rfl,by rw[ay];exact aU,by rw[ay];exact aV,aY ?_⟩;rw[ay];obtain⟨f,al⟩:∃f,f=ak.setCell ⟨c.cb,0+2,none⟩ (.slice d.a d.len d.cap):=⟨_,rfl⟩;rw[←al];obtain⟨am,an⟩:=aW f al;have ao:=c6.leave (c:=c) (c':={c with fP:=d,left:=c.left++ [no]}) (no:=no) an rfl (λq L=>.inl L) rfl rfl rfl;obtain⟨bX,z⟩:∃bX,bX=T.cv T.E λq=>T.G q\/aC d q:=⟨_,rfl⟩;obtain⟨aT,O⟩:∃aT:dm,aT={c with fP:=d,left:=c.left++ [no]}:=⟨_,rfl⟩;have aX:aT.cb=c.cb:=by rw[O]
 have aZ:aT.made=c.made:=by rw[O]
 have a0:bX.C.D.aR<=900000090:=by rw[z];exact aD
 have a1:2<=ck bX:=by rw[z];exact aE
 rw[←z,←O]at am ao;rw[←z]at an;have P:Ext f f.drew:=cL _;have ap:=am.ext P;have R:c6 T bX c aT [] [no] w f.drew 0:=ao.trans (c6.ext bX aT P);obtain⟨b,a2⟩:∃b,b=f.drew:=⟨_,rfl⟩;rw[←a2]at P ap R⊢;have B:=R.to;have S:∀q,¬T.M q->¬T.N q:=λq h1 U=>h1 (aP.hG U);have W:=ar.af B.af (S _ aw);have X:=au.af B.af (S _ ax);have aq:∀ {m:aB}{K V D:ad},bu (λq=>¬T.M q) w m K V D->bu (λq=>¬T.M q) b m K V D:=λF=>bu.af F B.af λq L=>S q L;have a3:=aq az;have a4:=aq aA;have a5:=hu.to B;obtain⟨a6,bM,bf,a7⟩:=bD W;obtain⟨a8,a9,ba,bb⟩:=bD X;have bp:=W.lt;have br:=X.lt;have fin:∀ (b8:J) (r bv:Nat),Ext b b8->Var b8 r (ec o j k l) 202->Var b8 bv (ec n K V D) 202->b.heap.size<=r->b.heap.size<=bv->r≠bv->wX p aG r bv (some ⟨c.cb,0,none⟩) (some A) (fr:Nat) (other:Nat) b8 Q:=by
  intro b8 r bv hx bc H h1 U bd;have:=FB ap hx W X bc H h1 U bd a3 a4 a5 a0 a1 (by rw[aZ];exact aF) aH aI aJ aK aL aM aN m F aO aQ (Q:=Q) λs e w' hf=>aS s e bX aT b w' R hf;rw[aX]at this;exact this
 refine aY ⟨λq=>b.heap.size<=q,(show¬b.heap.size<=aG from I),_,a8,j,a9,k,ba,l,bb,(show¬b.heap.size<=p from I),_,a6,K,bM,V,bf,D,a7,?_,?_⟩
 .refine a_ (vs:=[.bool false,.slice none 0 0,.slice none 0 0,.slice none 0 0]) rfl λZ be t bg=>⟨ae.cP t,a_ (vs:=[.bool false,.slice none 0 0,.slice none 0 0,.slice none 0 0]) rfl λbh aa g bi=>?_⟩
  have v:=be.ext g;refine⟨ae.cP g,v.bV rfl fQ,rfl,cm v (us:=ec o j k l) rfl rfl λab ac i bj=>?_⟩;have x:=aa.af i I;have ag:Ext b ab:=Ext.cy (t.trans g) i (bm _);refine⟨i.mono λq _ e=>I,x.bV rfl fQ,rfl,cm x (us:=ec n K V D) rfl rfl λai aj y bk=>?_⟩;exact fin ai b.heap.size Z.heap.size (Ext.cy ag y I) (ac.af y I) aj (bm _) I I
 .refine a_ (vs:=[.bool false,.slice none 0 0,.slice none 0 0,.slice none 0 0]) rfl λZ bl t bg=>⟨ae.cP t,a_ (vs:=[.bool false,.slice none 0 0,.slice none 0 0,.slice none 0 0]) rfl λbh v g bi=>?_⟩
  have aa:=bl.ext g;refine⟨ae.cP g,v.bV rfl fQ,rfl,cm v (us:=ec o j k l) rfl rfl λab ac i bj=>?_⟩;have x:=aa.af i I;have ag:Ext b ab:=Ext.cy (t.trans g) i I;refine⟨i.mono λq _ e=>I,x.bV rfl fQ,rfl,cm x (us:=ec n K V D) rfl rfl λai aj y bk=>?_⟩;exact fin ai Z.heap.size b.heap.size (Ext.cy ag y (bm _)) (ac.af y I) aj I (bm _) I
theorem cf.read{w w':J}{T:aP}{E:Nat->Prop}{aD:bN}{P:Nat->aq aB}{k:Nat}(h:cf (T.cv E λ_=>False) ((T.cv E λ_=>False).bL aD P) w w' k)(f:∀q,T.E q\/T.G q->E q)(i:∀q,E q->T.E q\/T.G q\/w.heap.size<=q):cf T (T.bL aD P) w w' k:=by
 refine⟨h.bg,h.sb,h.n,h.g,h.s1,h.s2,h.c,h.d,h.bx,h.gen,h.aR,h.calm,h.af.mono λq _ a=>?_,λq a=>?_,λq a=>?_⟩
 .rcases a with a|a|a|a
  .exact .inl a
  .exact .inr (.inl a)
  .exact .inr (.inr (.inl a))
  .exact a.elim
 .have h1:((T.cv E λ_=>False).bL aD P).M q:=by
   rcases a with a|a|a|a
   .exact .inl a
   .exact .inr (.inl a)
   .exact .inr (.inr (.inl a))
   .exact .inr (.inr (.inr (.inl (f q a))))
  rcases h.de q h1 with b|b
  .rcases b with a|a|a|a|a
   .exact .inl (.inl a)
   .exact .inl (.inr (.inl a))
   .exact .inl (.inr (.inr (.inl a)))
   .rcases i q a with e|e|e
    .exact .inl (.inr (.inr (.inr (.inl e))))
    .exact .inl (.inr (.inr (.inr (.inr e))))
    .exact .inr e
   .exact a.elim
  .exact .inr b
 .rcases a with a|a|a|a
  .rcases h.fn q (.inl a) with b|b
   .rcases b with b|b|b|b
    .exact .inl (.inl b)
    .exact .inl (.inr (.inl b))
    .exact .inl (.inr (.inr (.inl b)))
    .exact b.elim
   .exact .inr b
  .exact .inl (.inr (.inl a))
  .exact .inl (.inr (.inr (.inl a)))
  .exact .inl (.inr (.inr (.inr a)))
theorem c6.cache{T:aP}{c:dm}{aD:bN}{w w':J}{k:Nat}(h:cf T (T.bL aD T.P) w w' k)(a:∀j,aD.view j=T.C.view j):c6 T (T.bL aD T.P) c c [] [] w w' k:=
 ⟨h,rfl,λ_ h=>h,rfl,rfl,rfl,by simp,by simp,List.nodup_nil,λ_ h=>(by cases h),λno=>by simp[aP.bL],λno _=>⟨rfl,a no⟩,by simp[ck,aP.bL]⟩
theorem AO{w w1:J}{T:aP}{c:dm}{Z:Nat->Prop}{no:Nat}{o:aB}(h:c5 w T c)(hx:Ext w w1)(g:∀q,Z q->w.heap.size<=q/\q<w1.heap.size)(y:T.C.D.aR<=999999999)(z:T.P no=some o):
 aH ai 196 #[.pointer (some T.bg),no,o.leaf] w1 (λv w'=>∃aD:bN,(∀j,aD.view j=T.C.view j)/\ae (λq=>T.N q/\¬T.G q) w1 w'/\(∀q,(T.bL aD T.P).M q->T.M q\/w1.heap.size<=q)/\
  (∀f,ae Z w' f->c5 f (T.bL aD T.P) c/\c6 T (T.bL aD T.P) c c [] [] w f 2)/\
  ((∃ (K V D:ad),v=.tuple #[c2 o K V D,(0:Int)]/\bu (λq=>w1.heap.size<=q/\¬(T.bL aD T.P).M q) w' o K V D)\/(v=.tuple #[c2 qL bO bO bO,(3:Int)]/\¬T.C.D.calm 2))):=by
 obtain⟨A,i⟩:=h.t.eF no o z;obtain⟨bW,k⟩:∃bW,bW=λq=>T.E q\/T.G q\/Z q:=⟨_,rfl⟩;have d:∀q,T.E q\/T.G q\/Z q->bW q:=λq a=>by rw[k];exact a
 have l:∀q,bW q->T.E q\/T.G q\/Z q:=λq a=>by rw[k]at a;exact a
 have m:b6 w1 (T.cv bW λ_=>False):=h.t.grow (W:=λ_=>False) hx (λ_ h=>h.elim) (λq a=>(l q a).imp id (Or.imp id (g q))) (λ_ h=>h.elim) λ_ _ h=>h;have n:∀q,(T.cv bW λ_=>False).N q->T.N q/\¬T.G q:=λq a=>⟨by
  rcases a with a|a|a|a
  .exact .inl a
  .exact .inr (.inl a)
  .exact .inr (.inr (.inl a))
  .exact a.elim,λhg=>m.j8 (d q (.inr (.inl hg))) a⟩
 refine(AE m y A i.two o.leaf).mono ?_;rintro v w' ⟨aD,B,ht,r,F⟩;have Q:=hx.size;have R:=ht.af.size;have s:=(cf.ext (T.cv bW λ_=>False) hx).trans ht;rw[cS]at s;have H:cf T (T.bL aD T.P) w w' 2:=cf.read (E:=bW) s (λq a=>d q (a.imp id .inl)) λq a=>(l q a).imp id (Or.imp id λh=>(g q h).1);have u:ae (λq=>T.N q/\¬T.G q) w1 w':=ht.af.mono λq _ a=>n q a;refine⟨aD,r,u,λq a=>?_,λf hc=>?_,?_⟩
 .rcases a with a|a
  .exact(ht.fn q (.inl a)).imp (λh=>aP.hG (n q h).1) id
  .exact .inl (.inr a)
 .have I:b6 f (T.bL aD T.P):=B.grow (E:=T.E) (G:=T.G) hc (λq a _=>.inl (d q (.inr (.inr a)))) (λq a=>.inl (d q (.inl a))) (λq a=>.inl (d q (.inr (.inl a)))) λq a=>(h.t.dG q a).2.2
  refine⟨(h.ext hx).of (W:=λq=>(T.N q/\¬T.G q)\/Z q) I ((u.mono λq _ a=>.inl a).trans (hc.mono λq _ a=>.inr a)) (λq hg a=>?_) rfl (λ_ h=>h) ht.bC.1,c6.cache ?_ r⟩
  .rcases a with a|a
   .exact a.2 hg
   .have:=h.t.lt (q:=q) (.inr (.inr (.inr (.inr hg))))
    have:=(g q a).1;omega
  .exact H.step (E:=T.E) (G:=T.G) hc (λq a S=>by have:=(g q a).1;omega) (λq a=>.inl a) λq a=>.inl a
 .rcases F with ⟨bf,K,V,D,rfl,L,ep⟩|⟨e,rfl,O,U⟩
  .obtain rfl:=gr.uniq i L
   refine .inl ⟨K,V,D,rfl,ep.aZ λq a x=>⟨x.1,λb=>x.2 ?_⟩⟩;rcases b with b|b|b|b|b
   .exact .inl b
   .exact .inr (.inl b)
   .exact .inr (.inr (.inl b))
   .exact .inr (.inr (.inr (.inl (d q (.inl b)))))
   .exact .inr (.inr (.inr (.inl (d q (.inr (.inl b))))))
  .refine .inr ?_
   rcases O with ⟨rfl,h1⟩|h1|⟨_,_,h1⟩
   .exact⟨rfl,h1⟩
   .obtain⟨p,av,_⟩:=i
    have h1:fe (no:Int) (T.C.view no)=.error e:=h1;rw[av]at h1;cases h1
   .exact absurd i (h1 o)
def iJ(u:di):Nat:=if u.cB=0 then 1 else u.cB-1
def kD(u:di)(n o:aB):aB:=if u.cB<iJ u then dx n (u.n.keys.getD (u.cB-1) []) o else dx o (u.n.keys.getD (u.cB-1) []) n
def wZ(T:aP)(c:dm)(n:aB)(u:di)(w:J)(v:Y)(w':J):Prop:=
 (80<=bq n/\∃ (s:ad) (e:Int),v=.tuple #[s,u.cB,.int .i64 ((u.cB+1:Nat):Int),e]/\gV T c n w (.tuple #[s,e]) w')\/
 (bq n<80/\∃ (bX:aP) (aT:dm),v=.tuple #[(),(0:Int),(0:Int),(3:Int)]/\c5 w' bX aT/\c6 T bX c aT [] [] w w' 2/\¬T.C.D.calm 2)\/
 (bq n<80/\∃ (o:aB) (no:Nat) (bX:aP) (aT:dm) (w1:J) (s:ad) (e:Int),u.n.kids[iJ u]? =some no/\T.P no=some o/\c6 T bX c aT [] [no] w w1 2/\
   v=.tuple #[s,.int .i64 ((u.cB-1:Nat):Int),.int .i64 ((u.cB-1+2:Nat):Int),e]/\gV bX aT (kD u n o) w1 (.tuple #[s,e]) w')
theorem FD{B:Nat->Prop}{w:J}{T:aP}{c:dm}{n:aB}{K V D:ad}(h:c5 w T c)(j:bu B w n K V D)(d:kB n)(o:T.C.D.aR<=900000080)(k:2<=ck T)(l:c.made.length<=900):
 aH ai 248 #[.pointer (some c.cb),c2 n K V D,.pointer none] w (λv w'=>∃ (s:ad) (e:Int),v=.tuple #[s,(0:Int),(0:Int),e]/\gV T c n w (.tuple #[s,e]) w'):=by
 refine okF (ag.m0 (some c.cb) n.leaf K V D none) az.m0 func248 ?_;(delta ag.m0 ao aX aa r1 b9 aE au dS aL kX z4 sn st b2 qc n4 sg;dsimp only);refine a_ (vs:=ec n K V D) rfl λw1 m f p=>?_;refine cC (λb w'=>b=true/\w1=w') (λq g=>⟨λ_=>g _ _ ⟨rfl,rfl⟩,λh=>(by cases h)⟩) ?_;rintro _ _ ⟨rfl,rfl⟩;refine⟨λ_=>vc (λa b w'=>a=0/\b=0/\w1=w') (λq g=>⟨λh=>(by cases h),λ_=>g _ _ _ ⟨rfl,rfl,rfl⟩⟩) ?_,λh=>(by cases h)⟩;rintro _ _ _ ⟨rfl,rfl,rfl⟩;obtain⟨bS,aT,a8,bd⟩:=bD m;refine⟨_,bS,K,aT,V,a8,D,bd,(uk (h.ext f) I k l (j.ext f) d.1 d.2.1 d.2.2).use ?_⟩;intro v w' i;obtain⟨s,e,rfl⟩:=i.out;exact⟨s,e,rfl,s,e,rfl,i.base f⟩
theorem FE{w:J}{T:aP}{c:dm}{n:aB}{K V D:ad}{A:ah}{u:di}(h:c5 w T c)(ap:bu (λq=>¬T.M q) w n K V D)(hu:kC (λq=>¬T.M q) w A u)(aq:cu n)(a4:bq n<=400)(ar:80<=bq n->kB n)
 (a5:bq n<80->∃ (o:aB) (no:Nat),u.n.kids[iJ u]? =some no/\T.P no=some o/\o.leaf=n.leaf/\u.cB-1<u.n.keys.length/\cU (u.n.keys.getD (u.cB-1) [])/\kB (kD u n o)) (bE:u.cB<=900)
 (bF:T.C.D.aR<=900000080) (aO:2<=ck T) (aQ:c.made.length<=900) (a6:c.left.length<=900):
 aH ai 248 #[.pointer (some ⟨c.cb,0,none⟩),c2 n K V D,.pointer (some A)] w (wZ T c n u w):=by
 have bG:=aq.fy I;refine okF (ag.m0 (some ⟨c.cb,0,none⟩) n.leaf K V D (some A)) az.m0 func248 ?_;(delta ag.m0 ao aX aa r1 b9 aE au dS aL kX z4 sn st b2 qc n4 sg;dsimp only);refine a_ (vs:=ec n K V D) rfl λw1 X aS bH=>?_;obtain⟨x,a7⟩:∃x,x=w.heap.size:=⟨_,rfl⟩;rw[←a7]at X⊢;refine cC (λb w'=>b=decide (80<=bq n)/\Ext w1 w') (λq f=>⟨λh=>(by cases h),λ_=>?_⟩) ?_
 .obtain⟨bS,aT,a8,bd⟩:=bD X
  refine⟨_,bS,K,aT,V,a8,D,bd,(m4 (ap.ext aS) aq I).use ?_⟩;rintro _ bI ⟨rfl,a9⟩;refine⟨_,rfl,f _ _ ⟨?_,a9⟩⟩;rw[fD,cx,cx];omega
 rintro _ p ⟨rfl,Y⟩;have ab:=aS.trans Y;refine⟨λg=>?_,λg=>?_⟩
 .have g:=cw g
  have L:=ar g;refine vc (λa b w'=>a=(u.cB:Nat)/\b=((u.cB+1:Nat):Int)/\Ext p w') (λq f=>⟨λ_=>?_,λh=>(by cases h)⟩) ?_
  .have y:Ext p p.drew:=cL _
   have aU:=hu.ext (ab.trans y);refine aY ⟨A,rfl,id,_,aU.cH,A,rfl,id,_,aU.cH,f _ _ _ ⟨rfl,?_,y⟩⟩;rw[bB I I];rfl
  rintro _ _ bJ ⟨rfl,rfl,aV⟩;have cE:=ab.trans aV;obtain⟨bS,aT,a8,bd⟩:=bD (X.ext (Y.trans aV));refine⟨_,bS,K,aT,V,a8,D,bd,(uk (h.ext cE) I aO aQ (ap.ext cE) L.1 L.2.1 L.2.2).use ?_⟩;intro v w' ac;obtain⟨s,e,rfl⟩:=ac.out;exact⟨s,e,rfl,.inl ⟨g,s,e,rfl,ac.base cE⟩⟩
 .have g:¬80<=bq n:=cT g
  obtain⟨o,no,av,aj,aw,aW,ba,L⟩:=a5 I;obtain⟨bK,bb⟩:=h.t.eF no o aj;obtain⟨_,bc,bM⟩:=bb.is;have ak:=hu.ext ab;refine⟨A,rfl,_,ak.cH,((u.cB-1:Nat):Int),p,?_,?_⟩
  .rw[run_max_int2]
   congr 2
   by_cases h0:u.cB=0
   .rw[h0];rfl
   .rw[bB I I,if_neg I];omega
  refine cC (λa w'=>a=(iJ u:Nat)/\p=w') (λq f=>⟨A,rfl,_,ak.cH,λh0=>f _ _ ⟨?_,rfl⟩,λh0=>f _ _ ⟨?_,rfl⟩⟩) ?_
  .have:u.cB=0:=by simpa using h0
   unfold iJ;rw[if_pos this];rfl
  .have:u.cB≠0:=by simpa using h0
   unfold iJ;rw[if_neg this]
  rintro _ _ ⟨rfl,rfl⟩;have be:iJ u<u.n.kids.length:=(jQ.1 av).1;obtain⟨bt,bf,bg,a0⟩:=cz.at ak.bP.kids be;have bh:u.n.kids[iJ u]=no:=(jQ.1 av).2;rw[bh]at a0;refine⟨A,rfl,u.D,ak.e1,bt,bf,bg,_,a0,aY ?_⟩;have y:Ext p p.drew:=cL _;obtain⟨z,bi⟩:∃z,z=p.drew:=⟨_,rfl⟩;rw[←bi]at y⊢;have cE:=ab.trans y;have ax:=h.ext cE;have bQ:=cE.size;have bR:=(Y.trans y).size;have ay:=X.ext (Y.trans y);have aA:∀q,T.M q->q<w.heap.size:=λq f=>h.t.lt f;have a1:u.n.keys.getD (u.cB-1) []=u.n.keys[u.cB-1]:=by rw[fK,dI aW];rfl
  have fin:∀ (aD:bN) (aG:Nat) (i k l:ad) (d:J),c5 d (T.bL aD T.P) c->c6 T (T.bL aD T.P) c c [] [] z d 2->Var d x (ec n K V D) 202->Var d aG (ec o i k l) 202->z.heap.size<=aG->¬(T.bL aD T.P).M aG->bu (λq=>¬(T.bL aD T.P).M q) d o i k l->
   wY x aG (some ⟨c.cb,0,none⟩) (some A) ((u.cB-1:Nat):Int) (iJ u:Nat) (no:Nat) 0 d (λv w'=>wZ T c n u w v w'):=by
   intro aD aG i k l d B al bj bk bT bl bn;have a2:=((c6.ext T c cE).trans al).mono (j:=2) I;have aC:=a2.to;have bo:¬(T.bL aD T.P).M x:=λO=>by
    rcases al.to.de x O with h1|h1
    .have:=aA _ h1;omega
    .omega
   have bp:bu (λq=>¬(T.bL aD T.P).M q) d n K V D:=(aC.bP (lo:=0) (ap.aZ λq _ g=>⟨cZ _,g⟩)).aZ λq _ g=>g.2;have br:(T.bL aD T.P).C.D.aR<=900000090:=eo aC.aR I;refine FC B bj bk bo bl bp bn (hu.to aC) br aO aQ a6 aq bc a4 I aw aW (by rw[←a1];exact ba) (kD u n o) (by unfold kD;rw[a1]) L I ?_;intro s e bX aT bs w' bv hf;exact .inr (.inr ⟨I,o,no,bX,aT,bs,s,e,av,aj,(a2.trans bv).mono I,rfl,hf⟩)
  have am:∀q,T.N q->q<w.heap.size:=λq f=>aA q (aP.hG f);have err:∀ (aD:bN) (d:J),c5 d (T.bL aD T.P) c->c6 T (T.bL aD T.P) c c [] [] z d 2->¬T.C.D.calm 2->wZ T c n u w (.tuple #[.slice none 0 0,.int .i64 0,.int .i64 0,.int .i64 3]) d:=by
   intro aD d B al Q;exact .inr (.inl ⟨I,_,c,rfl,B,((c6.ext T c cE).trans al).mono I,Q⟩)
  obtain⟨bS,aT,a8,bd⟩:=bD ay;refine⟨λq=>T.N q/\¬T.G q,_,rfl,λf=>f.2 h.gc,_,ax.cells.1,(λf=>by have:=am _ f.1;show False;exact absurd this (by show¬x<w.heap.size;omega)),_,bS,?_,?_⟩
  .rw[←aw]
   refine(AO (Z:=λ_=>False) ax (ae.refl _ _) (λ_ h=>h.elim) I aj).use ?_;rintro _ F ⟨aD,ac,r,a3,R,aF⟩;have bw:=r.size;rcases aF with ⟨i,k,l,rfl,aI⟩|⟨rfl,Q⟩
   .refine⟨_,i,k,l,0,rfl,r,a_ (vs:=[.bool false,.slice none 0 0,.slice none 0 0,.slice none 0 0]) rfl λbx S U bz=>⟨ae.cP U,S.bV rfl fQ,rfl,cm S (us:=ec o i k l) rfl rfl λd W m aJ=>?_⟩⟩
    have E:Ext F d:=Ext.cy U m (bm _);obtain⟨an,aK⟩:=R F (ae.refl _ _);have H:=ay.af r λf=>by have:=am _ f.1;omega
    refine fin aD F.heap.size i k l d (an.ext E) ((aK.trans (c6.ext _ _ E)).mono I) (H.ext E) W I (λO=>by have:=an.t.lt O;omega) ?_;exact(aI.ext E).aZ λq _ g=>g.2
   .refine⟨_,bO,bO,bO,3,rfl,r,a_ (vs:=[.bool false,.slice none 0 0,.slice none 0 0,.slice none 0 0]) rfl λbx S U bz=>⟨ae.cP U,S.bV rfl fQ,rfl,cm S (us:=ec qL bO bO bO) rfl rfl λd W m aJ=>⟨λ_=>?_,λg=>(by cases g)⟩⟩⟩
    have E:Ext F d:=Ext.cy U m (bm _);obtain⟨an,aK⟩:=R F (ae.refl _ _);exact err aD d (an.ext E) ((aK.trans (c6.ext _ _ E)).mono I) Q
  .refine a_ (vs:=[.bool false,.slice none 0 0,.slice none 0 0,.slice none 0 0]) rfl λbU bA aM bW=>⟨ae.cP aM,?_⟩
   rw[←aw];refine(AO (Z:=λq=>q=z.heap.size) ax aM (λq e=>⟨I,I⟩) I aj).use ?_;rintro _ F ⟨aD,ac,r,a3,R,aF⟩;have bw:=r.size;have H:=bA.af r λf=>by have:=am _ f.1;omega
   have bC:=(ay.ext aM).af r λf=>by have:=am _ f.1;omega
   rcases aF with ⟨i,k,l,rfl,aI⟩|⟨rfl,Q⟩
   .refine⟨_,i,k,l,0,rfl,H.bV rfl fQ,rfl,cm H (us:=ec o i k l) rfl rfl λd W m aJ=>?_⟩
    obtain⟨B,aN⟩:=R d m;refine fin aD z.heap.size i k l d B aN (bC.af m I) W (bm _) (λO=>?_) ?_
    .rcases a3 _ O with h1|h1
     .have:=aA _ h1;omega
     .omega
    .refine(bu.af aI m λq f e=>by have:=f.1;omega).aZ λq _ g=>g.2
   .refine⟨_,bO,bO,bO,3,rfl,H.bV rfl fQ,rfl,cm H (us:=ec qL bO bO bO) rfl rfl λd W m aJ=>⟨λ_=>?_,λg=>(by cases g)⟩⟩
    obtain⟨B,aN⟩:=R d m;exact err aD d B aN Q
structure w2(T ax:aP)(l:O Nat)(w w':J):Prop where
 to:cf T ax w w' 0
 E:ax.E=T.E
 G:ax.G=T.G
 root:ax.root=T.root
 aI:ax.aI=T.aI
 f:∀no,ax.f no=(T.f no&& !decide (no∈l))
 ej:∀no,(no∉l\/T.g no=true)->ax.P no=T.P no/\ax.C.view no=T.C.view no
theorem AP{w:J}{T:aP}{c:dm}{s:ad}{l:O Nat}(h:c5 w T c)(hs:Src 1 w s (fp l))(B:∀q,aC s q->T.G q)(R:∀x∈l,T.f x=true)(ep:l.Nodup)(ak:l.length<=10000):
 aH ai 207 #[.pointer (some c.cb),s] w (λv w'=>v=.tuple #[]/\∃ax:aP,c5 w' ax c/\w2 T ax l w w'):=by
 have al:s.len=l.length:=by have:=hs.len;rw[oT]at this;omega
 refine okF (ag.tc (some c.cb) s) az.tc func207 ?_;(delta ag.tc ao aL aE b_ b9 au;dsimp only);refine⟨λi w'=>∃ (j:Nat) (ax:aP),i=j/\j<=l.length/\c5 w' ax c/\w2 T ax (l.take j) w w'/\Src 1 w' s (fp l),λi _=>((l.length:Int)-i).toNat,⟨0,T,rfl,cZ _,h,⟨.refl _ _,rfl,rfl,rfl,rfl,λno=>by simp,λ_ _=>⟨rfl,rfl⟩⟩,hs⟩,?_⟩;rintro _ am ⟨j,bX,rfl,an,h1,hg,C⟩;refine⟨λaK=>?_,λr=>?_⟩
 .have aK:j<l.length:=by
   have:(j:Int)<(s.len:Int):=cw aK;omega
  have D:bX.f l[j]=true:=by
   rw[hg.f,R _ (cK aK)];have:l[j]∉l.take j:=λS=>by
    obtain⟨i,hi,he⟩:=e3 S;rw[cN]at hi;rw[pA]at he;have:=(List.getElem_inj ep).1 he;omega
   simp[this]
  have ap:l[j]<bX.n:=by
   rcases ei l[j] bX.n with a|a
   .exact a
   .have:=h1.t.s.pf _ a
    rw[D]at this;cases this
  obtain⟨A,ar,U,hc⟩:=C.at (i:=j) (v:=.int .i64 ((l[j]:Nat):Int)) (by simp[fp,aK]);refine kn (λw'=>∃b2:aP,c5 w' b2 c/\w2 T b2 (l.take (j+1)) w w'/\Src 1 w' s (fp l)) (λq d=>⟨A,ar,U,_,hc,_,rfl,_,h1.cells.1,_,rfl,_,h1.t.cells.2.1,(E1 h1.t.s _).use ?_⟩) ?_
  .rintro _ _ ⟨rfl,rfl⟩
   refine⟨_,rfl,_,rfl,_,h1.cells.1,_,rfl,_,h1.t.cells.2.1,(Aj h1.t.s _).use ?_⟩;rintro _ F ⟨rfl,hV,u⟩;have V:l4 bX.f bX.n ((l[j]:Nat):Int)=dc bX.f l[j] false:=by
    unfold l4;rw[if_pos ⟨I,I⟩,dQ]
   rw[V]at hV;obtain⟨W,H⟩:=h1.t.uh hV u;have k:c5 F (bX.hJ (dc bX.f l[j] false)) c:=h1.of W u (λq d hf=>(h1.t.iu q d).2 hf) rfl λ_ h=>h;have K:Src 1 F s (fp l):=C.af u λq d hf=>(h1.t.iu q (by rw[hg.G];exact B q d)).2 hf;have X:(decide ((0:Int)<=((l[j]:Nat):Int))&&decide (((l[j]:Nat):Int)<(bX.n:Nat))&&bX.f (Int.toNat ((l[j]:Nat):Int))&& !(bX.g (Int.toNat ((l[j]:Nat):Int))))= !(bX.g l[j]):=by
    rw[dQ,D,dU I,dU I];simp
   have L:∀no,dc bX.f l[j] false no=(T.f no&& !decide (no∈l.take (j+1))):=λno=>by
    rw[kg aK];unfold dc;by_cases e:no=l[j]
    .rw[if_pos e,e,dU (cM.2 (.inr (fh.2 rfl)))]
     exact(Bool.and_false _).symm
    .rw[if_neg e,hg.f]
     have Y:decide (no∈l.take j++ [l[j]])=decide (no∈l.take j):=by
      rw[fD,cx,cx,cM,fh];exact⟨λh=>h.resolve_right e,.inl⟩
     rw[Y]
   rw[X];refine⟨_,rfl,λy=>⟨_,rfl,_,k.cells.1,_,rfl,_,k.t.cells.1,(AA k.t.ca _).use ?_⟩,λy=>d _ ⟨_,k,⟨?_,hg.E,hg.G,hg.root,hg.aI,L,λno m=>?_⟩,K⟩⟩
   .rintro _ aq ⟨⟨b,rfl⟩,aD,Z,o,M,_⟩
    have aa:T.g l[j]=false:=by
     have a:bX.g=T.g:=hg.to.g;rw[a]at y;simpa using y
    obtain⟨ab,ac⟩:=k.t.o7 (P:=λno=>if no=l[j] then none else bX.P no) Z o (λno bP p=>by
     by_cases e:no=l[j]
     .rw[if_pos e]at p;cases p
     .rw[if_neg e]at p
      rw[M no e];exact h1.t.eF no bP p)
    have ae:=k.of (ax:=(bX.hJ (dc bX.f l[j] false)).bL aD λno=>if no=l[j] then none else bX.P no) ab o.af (λq d=>k.t.wU d) rfl (λ_ h=>h) o.bC;refine⟨b,rfl,d _ ⟨_,ae,⟨?_,hg.E,hg.G,hg.root,hg.aI,L,λno m=>?_⟩,?_⟩⟩
    .exact((hg.to.trans H).trans ac).mono I
    .have N:no≠l[j]:=λe=>by
      rcases m with a|a
      .exact a (by rw[kg aK,e];exact cM.2 (.inr (fh.2 rfl)))
      .rw[e,aa]at a;cases a
     have Q:=hg.ej no (m.imp (λa z=>a (by rw[kg aK];exact cM.2 (.inl z))) id);exact⟨(if_neg N).trans Q.1,(M no N).trans Q.2⟩
    .exact K.af o.af λq d=>k.t.wU (by show bX.G q;rw[hg.G];exact B q d)
   .exact(hg.to.trans H).mono I
   .exact hg.ej no (m.imp (λa z=>a (by rw[kg aK];exact cM.2 (.inl z))) id)
  .rintro av ⟨b2,a,ah,aj⟩
   rw[bB (n:=(j:Int)+1) I I];refine⟨⟨j+1,b2,I,I,a,ah,aj⟩,?_⟩;show((l.length:Int)-((j:Int)+1)).toNat<((l.length:Int)-(j:Int)).toNat;omega
 .have r:j=l.length:=by
   have:¬(j:Int)<(s.len:Int):=cT r;omega
  subst r;rw[jk]at hg;exact⟨rfl,bX,h1,hg⟩
theorem oE{B:Nat->Prop}{w:J}{n:aB}{K V D:ad}(c:bu B w n K V D)(aI:Nat)(h:aI<=100)(d:n.leaf=false->∃x,n.kids=[x]/\1<=aI):
 aH ai 247 #[c2 n K V D,aI] w (λv w'=>v=(if n.leaf then .tuple #[(0:Int),(0:Int),(0:Int)] else .tuple #[.int .i64 ((n.kids.getD 0 0:Nat):Int),.int .i64 ((aI-1:Nat):Int),(0:Int)])/\Ext w w'):=by
 refine okF (ag.oE n.leaf K V D (aI:Nat)) az.oE func247 ?_;(delta ag.oE aX aa ao r1 aL aE au;dsimp only);refine a_ (vs:=ec n K V D) rfl λw1 e b j=>?_;obtain⟨bS,aT,a8,bd⟩:=bD e;refine⟨_,bS,λa=>⟨by rw[if_pos a],b⟩,λa=>?_⟩;obtain⟨x,hx,h1⟩:=d a;obtain⟨A,ar,f,hc⟩:=cz.at (c.ext b).kids (i:=0) (by rw[hx];simp);refine⟨D,bd,A,ar,f,_,hc,?_,b⟩;have g:(aI:Int)-1=((aI-1:Nat):Int):=by omega
 rw[if_neg (by rw[a];simp),bB I I,g];simp only[hx];rfl
def w3(T:aP)(c:dm)(ks:O Key)(kids:O Nat)(w:J)(v:Y)(w':J):Prop:=
 (∃x,ks=[]/\kids=[x]/\v=.tuple #[x,T.aI,(0:Int)]/\c5 w' T c/\Ext w w')\/
 (∃ (k:Key) (x y no:Nat) (ax:aP) (c':dm),ks=[k]/\kids=[x,y]/\c5 w' ax c'/\c6 T ax c c' [no] [] w w' 1/\
   ((v=.tuple #[no,.int .i64 ((T.aI+1:Nat):Int),(0:Int)]/\ax.P no=some ⟨false,[k],[],[x,y]⟩)\/(v=.tuple #[no,.int .i64 ((T.aI+1:Nat):Int),(3:Int)]/\¬T.C.D.calm 1)))
theorem AQ(K D:Nat)(w:J):Sem.run ai (Instr.build 202 #[(1,.slice (some K) 1 1),(3,.slice (some D) 2 2)]) w=.ok (.agg #[false,.slice (some K) 1 1,(),.slice (some D) 2 2]) w:=by kernel_rfl
theorem Var.AR{w:J}{b:Nat}{vs:O Y}{T:TypeId}(h:Var w b vs T):Src 1 w ⟨some b,vs.length,vs.length⟩ vs:=by
 refine⟨by show _=vs.length*1;omega,(λh=>by cases h),λa c=>?_⟩
 cases c;show bz w b 0 (vs.length*1)=_;rw[fJ,h.rd rfl]
theorem FF{w:J}{t:ad}{k:Key}(b:Nat)(a:Var w b [t] 48)(ht:bo (λ_=>True) w t k):ba (λ_=>True) w ⟨some b,1,1⟩ [k]:=by
 refine⟨[t],rfl,a.AR,bm _,λq c=>⟨trivial,?_⟩,λi h1 d=>?_⟩
 .obtain⟨A,ar,rfl⟩:=c
  cases ar;exact a.lt
 .have:i=0:=by simp at h1;omega
  subst this;exact ht
theorem FG{w:J}{x y:Nat}(b:Nat)(a:Var w b [x,y] 3):cz (λ_=>True) w ⟨some b,2,2⟩ [x,y]:=by
 refine⟨a.AR,bm _,λq c=>⟨trivial,?_⟩⟩;obtain⟨A,ar,rfl⟩:=c
 cases ar;exact a.lt
theorem FH{w:J}{T:aP}{c:dm}{s:ad}{ks:O Key}{kids:O Nat}(h:c5 w T c)(K:kc (λq=>¬T.M q) w s ks kids)(A:kids.length=2->T.aI<12)(hs:∀k x y,ks=[k]->kids=[x,y]->cU k/\x<1600/\y<1600)
 (ar:T.C.D.aR<=900000080) (L:1<=ck T) (av:c.made.length<=900):
 aH ai 249 #[.pointer (some ⟨c.cb,0,none⟩),.slice s.a s.len s.cap] w (w3 T c ks kids w):=by
 have aw:=h.t.num.2.1;refine okF (ag.tl (some ⟨c.cb,0,none⟩) s) az.tl func249 ?_;(delta ag.tl ao aL aE r1 aa gk au;dsimp only);have o:Ext w w.drew:=cL w;have hd:=h.ext o;rcases K with ⟨b,x,rfl,rfl,rfl,l,B⟩|⟨b,x,y,k,t,rfl,rfl,rfl,l,B,ht,aA⟩
 .refine⟨λ_=>aY ⟨_,rfl,⟨by decide,by show(0:Int)<((1:Nat):Int);decide⟩,id,_,by rw[ay,ay];exact l.drew.cell,_,rfl,id,_,hd.cells.1,_,rfl,id,_,hd.t.cells.2.2.2.2,?_⟩,λh=>(by cases h)⟩
  exact .inl ⟨x,rfl,rfl,rfl,hd,o⟩
 .have A:=A rfl
  obtain⟨s1,s2,aB⟩:=hs k x y rfl rfl;refine⟨λh=>(by cases h),λ_=>⟨_,rfl,_,h.cells.1,_,rfl,_,h.t.cells.2.2.2.2,λP=>?_,λ_=>?_⟩⟩
  .have:((T.aI:Nat):Int)=12:=by simpa using P
   omega
  have Q:cu ⟨false,[k],[],[x,y]⟩:=.inr ⟨⟨λaC R=>by rw[fh.1 R];exact s1,List.pairwise_singleton _ _⟩,rfl,by simp,rfl,rfl,λz E=>by
   simp only[c8,fi,fu]at E;rcases E with rfl|rfl<;>assumption⟩
  have S:bq ⟨false,[k],[],[x,y]⟩<=232:=by
   have:=s1.2;simp[bq,cellsOf];omega
  have r:¬T.N b:=λU=>B (aP.hG U);have fin:∀ (d:J) (bc aL:Nat),Ext w d->Var d bc [.slice t.a t.len t.cap] 48->Var d aL [.int .i64 (x:Nat),.int .i64 (y:Nat)] 3->
   aH ai 283 #[.pointer (some ⟨c.cb,0,none⟩),.agg #[.bool false,.slice (some ⟨bc,0,none⟩) 1 1,.slice none 0 0,.slice (some ⟨aL,0,none⟩) 2 2]] d (λv w'=>∃n27:Int,∃n28:Int,v=.tuple #[.int .i64 n27,.int .i64 n28]/\ae T.N d w'/\
    ∀e,Ext w' e->w3 T c [k] [x,y] w (.tuple #[.int .i64 n27,.int .i64 ((T.aI+1:Nat):Int),.int .i64 n28]) e/\∃ax c',c5 e ax c'/\c'.cb=c.cb/\ax.bg=T.bg/\ax.aI=T.aI):=by
   intro d bc aL hx V W;have ep:bu (λ_=>True) d ⟨false,[k],[],[x,y]⟩ ⟨some ⟨bc,0,none⟩,1,1⟩ ⟨none,0,0⟩ ⟨some ⟨aL,0,none⟩,2,2⟩:=by
    exact⟨FF bc V (bo.aZ (bo.ext ht hx) λ_ _ _=>trivial),ba.none _ _,FG aL W⟩
   refine(uj (h.ext hx) I L I ep Q S).mono ?_;rintro v w' ⟨no,ax,c',p,f,X⟩;have F:=((c6.ext T c hx).trans f).mono (j:=1) I;rcases X with ⟨rfl,Y⟩|⟨rfl,Z⟩
   .refine⟨_,_,rfl,f.to.af,λe g=>⟨.inr ⟨k,x,y,no,ax,c',rfl,rfl,p.ext g,(F.trans (c6.ext ax c' g)).mono I,.inl ⟨rfl,Y⟩⟩,ax,c',p.ext g,f.cb,f.to.bg,f.aI⟩⟩
   .refine⟨_,_,rfl,f.to.af,λe g=>⟨.inr ⟨k,x,y,no,ax,c',rfl,rfl,p.ext g,(F.trans (c6.ext ax c' g)).mono I,.inr ⟨rfl,Z⟩⟩,ax,c',p.ext g,f.cb,f.to.bg,f.aI⟩⟩
  have ab:IntKind.wrap .i64 (((T.aI:Nat):Int)+1)=((T.aI+1:Nat):Int):=by rw[bB I I];rfl
  refine vc (λa b w'=>∀e,Ext w' e->w3 T c [k] [x,y] w (.tuple #[.int .i64 a,.int .i64 ((T.aI+1:Nat):Int),.int .i64 b]) e/\∃ax c',c5 e ax c'/\c'.cb=c.cb/\ax.bg=T.bg/\ax.aI=T.aI) (λq G=>aY ⟨T.N,_,rfl,⟨by decide,by show(1:Int)<((2:Nat):Int);decide⟩,r,t,by rw[ay];exact l.drew.cell,_,rfl,⟨by decide,by show(0:Int)<((2:Nat):Int);decide⟩,r,_,by rw[ay,ay];exact l.drew.cell,_,rfl,⟨by decide,by show(1:Int)<((2:Nat):Int);decide⟩,r,_,by rw[ay,ay];exact l.drew.cell,?_,?_⟩) ?_
  .refine a_ (vs:=[.slice t.a t.len t.cap]) rfl λu ac m ah=>⟨ae.cP m,a_ (vs:=[.int .i64 (x:Nat),.int .i64 (y:Nat)]) rfl λd aj i ak=>⟨ae.cP i,_,λ_=>AQ _ _ _,?_⟩⟩
   refine(fin d w.drew.heap.size u.heap.size (o.trans (m.trans i)) (ac.ext i) aj).use ?_;rintro _ w' ⟨n27,n28,rfl,hc,n⟩;exact⟨n27,n28,rfl,hc,G _ _ _ n⟩
  .refine a_ (vs:=[.int .i64 (x:Nat),.int .i64 (y:Nat)]) rfl λu al m ah=>⟨ae.cP m,a_ (vs:=[.slice t.a t.len t.cap]) rfl λd am i ak=>⟨ae.cP i,_,λ_=>AQ _ _ _,?_⟩⟩
   refine(fin d u.heap.size w.drew.heap.size (o.trans (m.trans i)) am (al.ext i)).use ?_;rintro _ w' ⟨n27,n28,rfl,hc,n⟩;exact⟨n27,n28,rfl,hc,G _ _ _ n⟩
  .intro a b an n
   obtain⟨h1,ax,c',H,ap,aD,aq⟩:=n _ (cL an);have hc:=H.cells.1;rw[ap]at hc;have ht:=H.t.cells.2.2.2.2;refine aY ⟨_,rfl,id,_,hc,_,rfl,id,_,ht,?_⟩;rw[aq,ab];exact h1
end Go.Proofs.YtkdhdlfonmgheaaGreat
