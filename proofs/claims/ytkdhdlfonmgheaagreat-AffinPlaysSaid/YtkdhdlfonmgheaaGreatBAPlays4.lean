/- Contracts of the functions that the statement reaches, and the plain laws over them; each theorem stands with its conditions. -/
import Derived.Laws.Small
import Derived.Test.YtkdhdlfonmgheaaGreatBAPlays3
namespace Go.Proofs.YtkdhdlfonmgheaaGreat
open Go aS Go.Proofs.Tryz
def tu(fs:O Fr):Prop:=∀ (i j:Nat) (hi:i<fs.length) (a:j<fs.length),(fs[i]).full=true->(fs[j]).full=true->(fs[i]).no=(fs[j]).no->i=j
theorem Dv{fs gs:O Fr}{D aC:bm}{c a6 hd c' g h j:Nat}(n:tu fs)(o:tu gs)(h1:∀ (i:Nat) (hi:i<fs.length),(fs[i]).full=true->(fs[i]).no=j->∃ (k:Nat) (a:k<gs.length),(gs[k]).full=true/\(gs[k]).no=j/\(gs[k]).l=(fs[i]).l)
 (h2:(∀f∈fs,f.full=true->f.no≠j)->(∀f∈gs,f.full=true->f.no≠j)/\aC.now j=D.now j):(cf.mk c' g gs h aC).view j=(cf.mk c a6 fs hd D).view j:=by
 by_cases hex:∃ (k:Nat) (a:k<fs.length),(fs[k]).full=true/\(fs[k]).no=j
 .obtain⟨k,a,aw,ax⟩:=hex
  obtain⟨m,p,b,d,q⟩:=h1 k a aw ax;rw[m3 n a aw ax,m3 o p b d,q]
 .have e:∀f∈fs,f.full=true->f.no≠j:=λf hf h1 h2=>by
   obtain⟨k,a,rfl⟩:=fF hf;exact hex ⟨k,a,h1,h2⟩
  obtain⟨b,d⟩:=h2 e;rw[n_ e,n_ b,d]
section
variable {w w':J}{C:cf}{X:Nat->Prop}
theorem zH{i:Nat}(hi:i<C.ao.length){no:Nat}{V:Nat->Prop}(h:gP X w C)(hc:af V w w')(fR:∀q,q<w.heap.size->V q->dc C q){aC:bm}(r:k3 aC C.D)(A:∀j,aC.now j=C.D.now j)(B:∀q,cA aC q↔cA C.D q)
 (d:Fr) (O:d.full=true) (E:d.pins=0) (s:Dn X w' {C with ao:=C.ao.set i d,D:=aC} d no) (t:∀ (k:Nat) (u:k<C.ao.length),k≠i->(C.ao[k]).full=true->(C.ao[k]).no≠no):gP X w' {C with ao:=C.ao.set i d,D:=aC}:=by
 have F:=hc.size;have v:∀q,dc {C with ao:=C.ao.set i d,D:=aC} q->dc C q:=λq hf=>by
  rcases hf with h1|h1|h1
  .exact .inl h1
  .exact .inr (.inl h1)
  .exact .inr (.inr ((B q).1 h1))
 refine⟨λf hf=>?_,λf hf x=>?_,λa b G g h1 h2 c=>?_,λq o=>⟨fP (h.fi q o).1 F,λhf=>(h.fi q o).2 (v q hf)⟩,r.2.2⟩
 .rcases nr hf with hf|rfl
  .exact h.pins f hf
  .exact E
 .obtain⟨k,u,rfl⟩:=fF hf
  have H:k<C.ao.length:=by simpa using u
  by_cases e:i=k
  .subst e
   simp only[iO];exact⟨no,s⟩
  .simp only[fH e]at x⊢
   obtain⟨m,aw,ax,I,J,K,L,M⟩:=h.ok _ (cW H) x;exact⟨m,aw,by show m<aC.n;rw[r.1];exact ax,bA.re I hc (λq o g N=>g.1 (fR q o N)) λq _ g=>⟨λhf=>g.1 (v q hf),g.2⟩,J,λhd=>by show _=aC.now m;rw[A];exact K hd,λhs=>L (r.2.1 _ hs),M⟩
 .have y:a<C.ao.length:=by simpa using G
  have z:b<C.ao.length:=by simpa using g
  by_cases p:i=a
  .by_cases l:i=b
   .omega
   .subst p
    simp only[iO]at c;simp only[fH l]at h2 c;exact absurd (by rw[←c];exact s.num) (t b z (λe=>l e.symm) h2)
  .by_cases l:i=b
   .subst l
    simp only[iO]at c;simp only[fH p]at h1 c;exact absurd (by rw[c];exact s.num) (t a y (λe=>p e.symm) h1)
   .simp only[fH p]at h1 c
    simp only[fH l]at h2 c;exact h.un a b y z h1 h2 c
theorem I6{i:Nat}(hi:i<C.ao.length){no:Nat}(h:tu C.ao)(g:Fr)(j:g.no=no)(l:∀ (k:Nat) (q:k<C.ao.length),k≠i->(C.ao[k]).full=true->(C.ao[k]).no≠no):tu (C.ao.set i g):=by
 intro a b o p h1 h2 c;have m:a<C.ao.length:=by simpa using o
 have n:b<C.ao.length:=by simpa using p
 by_cases f:i=a
 .by_cases d:i=b
  .omega
  .subst f
   simp only[iO]at c;simp only[fH d]at h2 c;exact absurd (by rw[←c];exact j) (l b n (λe=>d e.symm) h2)
 .by_cases d:i=b
  .subst d
   simp only[iO]at c;simp only[fH f]at h1 c;exact absurd (by rw[c];exact j) (l a m (λe=>f e.symm) h1)
  .simp only[fH f]at h1 c
   simp only[fH d]at h2 c;exact h a b m n h1 h2 c
theorem zI{i:Nat}(hi:i<C.ao.length){no:Nat}(h:tu C.ao){aC:bm}(m:∀j,aC.now j=C.D.now j)(a:Fr)(n:a.full=true)(b:a.no=no)(hold:(C.ao[i]).full=true->(C.ao[i]).no=no)(o:∀ (k:Nat) (g:k<C.ao.length),k≠i->(C.ao[k]).full=true->(C.ao[k]).no≠no){hd:Nat}(j:Nat):
 (cf.mk C.c C.a6 (C.ao.set i a) hd aC).view j=if j=no then a.l else C.view j:=by
 have hu:=I6 hi h a b o;have p:i<(C.ao.set i a).length:=by simpa using hi
 by_cases e:j=no
 .subst e
  rw[if_pos rfl,m3 hu p (by simp[n]) (by simpa using b)];simp
 .rw[if_neg e]
  refine Dv (fs:=C.ao) (D:=C.D) (c:=C.c) (a6:=C.a6) (hd:=C.hand) h hu (λk g aw ax=>?_) λq=>⟨λf hf aw ax=>?_,m j⟩
  .have d:i≠k:=λr=>by
    subst r;have:=hold aw;rw[ax]at this;exact e I
   have s:k<(C.ao.set i a).length:=by simpa using g
   exact⟨k,s,by simp only[fH d];exact aw,by simp only[fH d];exact ax,by simp only[fH d]⟩
  .rcases nr hf with hf|rfl
   .exact q f hf aw ax
   .rw[b]at ax
    exact e I
def I7(X:Nat->Prop)(C:cf)(no:Nat)(w:J)(v:Y)(w':J):Prop:=
 ∃aI:cf,er X w' aI/\eG C aI w w' 2/\(∀j,aI.view j=C.view j)/\
  ((∃s:ad,v=.tuple #[s,(0:Int)]/\bA (λq=>w.heap.size<=q/\¬dc aI q/\¬X q) w' s (C.view no))\/(v=.tuple #[(),(3:Int)]/\¬C.D.calm 2))
theorem I8(h:er X w C)(a3:C.D.aV<=999999999){no:Nat}(aD:no<C.D.n)(aE:2<=no):aK ai 239 #[.pointer (some C.c),no] w (I7 X C no w):=by
 have r:=h.raw;refine okF (ae.wb (some C.c) (no:Int)) ay.wb func239 ?_;(delta ae.wb b8 an jI st r1 bK jn ed;dsimp only);refine(Dp r _).use ?_;rintro _ _ ⟨rfl,rfl⟩;refine⟨_,rfl,λF=>?_,λ_=>(xa r _).use ?_⟩
 .have:decide (0<=(no:Int)/\(no:Int)<C.D.n)=true:=dD ⟨I,I⟩
  rw[this]at F;cases F
 rintro _ _ ⟨aF,rfl⟩;rcases aF with ⟨i,hi,rfl,hf,aG⟩|⟨rfl,aH⟩
 .
  obtain⟨aw,ax,M,J⟩:=n3 r.f hi (j:=2) (by decide) (v:=true) {C.ao[i] with used:=true} rfl;have ab:im C.ao (C.ao.set i {C.ao[i] with used:=true}):=(im.refl C.ao).set hi true;have K:af (dc C) w (w.setCell ⟨C.a6,i*6+2,none⟩ true):=J.mono λq _ e=>.inr (.inl e);have hinv:=tq (hd:=C.hand) (aC:=C.D) h.inv ab K (λq _ h=>h) h.inv.tm (λ_=>rfl) λq p=>.inl p;have aI:=tr (hd:=C.hand) (aC:=C.D) h.inv ab λ_=>rfl;obtain⟨w1,ac⟩:∃w1,w1=w.setCell ⟨C.a6,i*6+2,none⟩ true:=⟨_,rfl⟩;rw[←ac]at M J K hinv;have N:fv w1 {C with ao:=C.ao.set i {C.ao[i] with used:=true}}:=by
   refine⟨?_,M,r.dev.ah J (λq p e=>r.a1.2.2 (e▸p)),?_,?_,?_,r.a1⟩
   .have:=r.v.ah J r.a1.1
    show Var _ _ [_,.slice _ (C.ao.set i _).length (C.ao.set i _).length,_] _;rw[dJ];exact this
   .show 8<=(C.ao.set i _).length;rw[dJ];exact r.cc
   .show(C.ao.set i _).length<=64;rw[dJ];exact r.cn
   .show C.hand<(C.ao.set i _).length;rw[dJ];exact r.hd
  obtain⟨a,O⟩:∃a:cf,a={C with ao:=C.ao.set i {C.ao[i] with used:=true}}:=⟨_,rfl⟩;have P:er X w1 a:=by rw[O];exact⟨N,hinv⟩
  have dR:i<(C.ao.set i {C.ao[i] with used:=true}).length:=by simpa using hi
  have f5:=kG M dR (j:=5) (by decide);obtain⟨m,cc,cn,ad,ag,a4,a5,a8⟩:=hinv.ok ((C.ao.set i {C.ao[i] with used:=true})[i]) (cW dR) (by simp[hf]);have aJ:((C.ao.set i {C.ao[i] with used:=true})[i]).b=(C.ao[i]).b:=by simp
  have ak:((C.ao.set i {C.ao[i] with used:=true})[i]).l=(C.ao[i]).l:=by simp
  rw[aJ,ak]at ad;rw[ak]at ag;refine⟨_,rfl,λ_=>⟨_,rfl,by rw[az];exact aw,by rw[az];exact ax,?_⟩,λh=>(by cases h)⟩;rw[az,←ac];refine aX ⟨_,rfl,(C.ao[i]).b,by rw[az,f5];simp[Fr.c],(kZ (B:=λq=>w1.heap.size<=q) ad.1 (by rw[ag];omega) (λq p=>p)).use ?_⟩;rintro _ aj ⟨s,rfl,hs,al,_⟩;have aL:C.view no=(C.ao[i]).l:=m3 (fs:=C.ao) (D:=C.D) (c:=C.c) (a6:=C.a6) (hd:=C.hand) h.inv.un hi hf aG;have aM:=K.size;refine⟨s,rfl,a,P.ext al,?_,?_,.inl ⟨s,rfl,?_⟩⟩
  .rw[O]
   exact⟨rfl,rfl,by show(C.ao.set i _).length=_;rw[dJ],rfl,Nat.le_add_right _ _,λm Q=>gB Q I,K.trans (af.cN al),λq p=>.inl p⟩
  .intro j;rw[O];exact aI j
  .rw[aL]
   refine bA.a7 hs λq _ p=>⟨I,λhf=>?_,λG=>?_⟩
   .have:=P.raw.lt hf;omega
   .have:=(P.inv.fi q G).1;omega
 .
  refine⟨_,rfl,λh=>(by cases h),λ_=>(Du h I).use ?_⟩;rintro _ w1 ⟨a,o,y,A,H,aN,N⟩;rcases N with ⟨i,hi,rfl,aO,a9⟩|⟨rfl,aP⟩
  .refine⟨_,_,rfl,λh=>(by simp at h),λ_=>⟨_,rfl,some C.D.d,?_,?_⟩⟩
   .have:=o.raw.cells.1
    rw[y.c,y.d]at this;exact this
   have R:no<a.D.n:=by rw[y.n];exact aD
   have a_:=y.aV;rw[←y.d];refine(Ih o.raw.dev R I).use ?_;rintro v2 aj ⟨am,L,aQ⟩;have ap:=λq=>o.raw.lt (q:=q);have S:af (dc a) w1 aj:=L.mono λq _ e=>.inr (.inr (.inl e))
   have T:∀f∈a.ao,f.full=true->f.no≠no:=λf hf aR aS=>by
    obtain⟨g,hg,h1,h2⟩:=aN f hf aR;exact aH g hg h1 (by rw[h2,aS])
   have aT:a.D.calm 1\/¬C.D.calm 2:=by
    rcases Classical.em (C.D.calm 2) with h1|h1
    .exact .inl (y.calm 1 h1)
    .exact .inr h1
   have aq:a.view no=a.D.now no:=n_ (fs:=a.ao) (D:=a.D) (c:=a.c) (a6:=a.a6) (hd:=a.hand) T;have U:∀q,cA a.D q->q≠a.c/\q≠a.a6:=λq p=>⟨λe=>o.raw.a1.2.1 (e▸p),λe=>o.raw.a1.2.2 (e▸p)⟩;have aU:gP X aj {a with D:=a.D.cJ 1}:=tq (C:=a) (hd:=a.hand) (aC:=a.D.cJ 1) o.inv (im.refl _) S (λq _ h=>h) (o.inv.cJ 1) (λ_=>rfl) λq p=>.inl p;have u:eG C {a with D:=a.D.cJ 1} w aj 2:=by
    have:eG a {a with D:=a.D.cJ 1} w1 aj 1:=⟨rfl,rfl,rfl,ri a.D (.inl rfl),Nat.le_succ _,λm Q=>(j_ (.inl rfl) o.raw.dev.f4 Q).1,S,λq p=>.inl p⟩;exact y.trans this
   have aW:∀j,({a with D:=a.D.cJ 1}:cf).view j=C.view j:=λj=>by rw[←H];exact tr (C:=a) o.inv (im.refl _) (λ_=>rfl) j
   have W:fv aj {a with D:=a.D.cJ 1}:=⟨o.raw.v.ah L (λe=>(U _ (.inl rfl)).1 e.symm),bu.ah o.raw.f L (λe=>(U _ (.inl rfl)).2 e.symm),am,o.raw.cc,o.raw.cn,o.raw.hd,o.raw.a1⟩;rcases aQ with ⟨F,rfl⟩|⟨F,s,rfl,hs⟩
   .refine⟨⟨none,0,0⟩,3,rfl,λ_=>⟨{a with D:=a.D.cJ 1},⟨W,aU⟩,u,aW,.inr ⟨rfl,?_⟩⟩,λh=>(by simp at h)⟩
    rcases aT with h1|h1
    .have:=(j_ (k:=1) (m:=0) (.inl rfl) o.raw.dev.f4 h1).2
     rw[F]at this;cases this
    .exact h1
   .have ar:(a.D.now no).length=256:=o.raw.dev.tg R
    obtain⟨s1,s2,z⟩:=zF W.f hi ⟨true,false,true,(no:Int),0,s,a.D.now no⟩;rw[A]at s1 s2 z;have ba:=L.size;have aM:=y.ah.size;refine⟨s,_,rfl,λh=>(by simp at h),λ_=>⟨_,rfl,s1,rfl,?_⟩⟩;obtain⟨x,au⟩:∃x,x=setCells aj ⟨C.a6,i*6,none⟩ 0 (Fr.c ⟨true,false,true,(no:Int),0,s,a.D.now no⟩):=⟨_,rfl⟩;rw[←au]at s2 z;have hg:setCells aj ⟨C.a6,i*6,none⟩ 0 [true,false,true,no,(0:Int),s]=x:=au.symm;rw[hg];have av:af (dc a) aj x:=z.mono λq _ e=>.inr (.inl (by rw[A];exact e));have aA:bA (λq=>w1.heap.size<=q) x s (a.D.now no):=bA.ah hs z λq p e=>by
     have:=ap C.a6 (.inr (.inl A.symm));omega
    have aY:gP X x {a with ao:=a.ao.set i ⟨true,false,true,(no:Int),0,s,a.D.now no⟩,D:=a.D.cJ 1}:=by
     refine zH (w:=w1) (V:=dc a) (aC:=a.D.cJ 1) hi (no:=no) o.inv (S.trans av) (λq _ h=>h) (o.inv.cJ 1) (λ_=>rfl) (λq=>Iff.rfl) ⟨true,false,true,(no:Int),0,s,a.D.now no⟩ rfl rfl ⟨rfl,R,?_,ar,λ_=>rfl,λ_=>rfl,aE⟩ λk Y _ h1=>T _ (cW Y) h1;refine bA.a7 aA λq _ p=>⟨λhf=>?_,λG=>?_⟩
     .have:dc a q:=hf
      have:=ap q this;omega
     .have:=(o.inv.fi q G).1;omega
    have aZ:∀j,({a with ao:=a.ao.set i ⟨true,false,true,(no:Int),0,s,a.D.now no⟩,D:=a.D.cJ 1}:cf).view j=C.view j:=λj=>by
     have:=zI (hd:=a.hand) (aC:=a.D.cJ 1) hi (no:=no) o.inv.un (λ_=>rfl) ⟨true,false,true,(no:Int),0,s,a.D.now no⟩ rfl rfl (λh1=>by rw[aO]at h1;cases h1) (λk Y _ h1=>T _ (cW Y) h1) j;rw[show({a with ao:=a.ao.set i ⟨true,false,true,(no:Int),0,s,a.D.now no⟩,D:=a.D.cJ 1}:cf)=cf.mk a.c a.a6 (a.ao.set i ⟨true,false,true,(no:Int),0,s,a.D.now no⟩) a.hand (a.D.cJ 1) from rfl,this];by_cases e:j=no
     .rw[if_pos e,e,←H,aq]
     .rw[if_neg e,H]
    have a0:fv x {a with ao:=a.ao.set i ⟨true,false,true,(no:Int),0,s,a.D.now no⟩,D:=a.D.cJ 1}:=by
     refine⟨?_,by show bu _ a.a6 _ _;rw[A];exact s2,am.ah z (λq p e=>(U q p).2 (by rw[A];exact e)),?_,?_,?_,o.raw.a1⟩
     .have:=W.v.ah z (λe=>o.raw.a1.1 (by rw[A];exact e))
      show Var _ _ [_,.slice _ (a.ao.set i _).length (a.ao.set i _).length,_] _;rw[dJ];exact this
     .show 8<=(a.ao.set i _).length;rw[dJ];exact o.raw.cc
     .show(a.ao.set i _).length<=64;rw[dJ];exact o.raw.cn
     .show a.hand<(a.ao.set i _).length;rw[dJ];exact o.raw.hd
    obtain⟨E,Z⟩:∃E:cf,E={a with ao:=a.ao.set i ⟨true,false,true,(no:Int),0,s,a.D.now no⟩,D:=a.D.cJ 1}:=⟨_,rfl⟩;have aa:er X x E:=by rw[Z];exact⟨a0,aY⟩
    have a2:eG C E w x 2:=by
     rw[Z];exact⟨u.c,u.d,by show(a.ao.set i _).length=_;rw[dJ];exact u.len,u.bT,u.aV,u.calm,c3 u.ah av λq p h=>(u.c7 q h).resolve_right I,u.c7⟩
    refine aX ((kZ (B:=λq=>x.heap.size<=q) aA.1 (by rw[ar];omega) (λq p=>p)).use ?_);rintro _ bb ⟨t,rfl,ht,aB,_⟩;have bc:=z.size;refine⟨t,rfl,E,aa.ext aB,?_,?_,.inl ⟨t,rfl,?_⟩⟩
    .exact(a2.trans (eG.ext E aB)).mono I
    .intro j;rw[Z];exact aZ j
    .rw[←H,aq]
     refine bA.a7 ht λq _ p=>⟨I,λhf=>?_,λG=>?_⟩
     .have:=aa.raw.lt hf;omega
     .have:=(aa.inv.fi q G).1;omega
  .refine⟨_,_,rfl,λ_=>⟨a,o,y.mono I,H,.inr ⟨rfl,λhc=>aP (gB hc I)⟩⟩,λh=>(by simp at h)⟩
end
section
variable {w w':J}{C:cf}{X:Nat->Prop}
def Dw(X:Nat->Prop)(C:cf)(no:Nat)(l:du)(w:J)(v:Y)(w':J):Prop:=
 ∃aI:cf,er X w' aI/\eG C aI w w' 1/\
  ((v=.int .i64 0/\∀j,aI.view j=if j=no then l else C.view j)\/(v=.int .i64 3/\¬C.D.calm 1/\∀j,aI.view j=C.view j))
theorem zJ{i:Nat}{a:Fr}(h:fv w C)(hc:af (λq=>q=C.a6) w w')(b:bu w' C.a6 (bg Fr.c (C.ao.set i a)).toArray 288):fv w' {C with ao:=C.ao.set i a}:=by
 refine⟨?_,b,h.dev.ah hc (λq d e=>h.a1.2.2 (e▸d)),?_,?_,?_,h.a1⟩
 .have:=h.v.ah hc h.a1.1
  show Var _ _ [_,.slice _ (C.ao.set i _).length (C.ao.set i _).length,_] _;rw[dJ];exact this
 .show 8<=(C.ao.set i _).length;rw[dJ];exact h.cc
 .show(C.ao.set i _).length<=64;rw[dJ];exact h.cn
 .show C.hand<(C.ao.set i _).length;rw[dJ];exact h.hd
theorem set_set{fs:O Fr}{i:Nat}(f g:Fr):(fs.set i f).set i g=fs.set i g:=List.set_set ..
theorem Dx(h:er X w C)(br:C.D.aV<=999999999){no:Nat}(aF:no<C.D.n)(aG:2<=no)(aH:¬C.D.bZ no=true){b:ad}{l:du}(ac:Src 1 w b (aD l))(al:l.length=256)(am:∀q,aE b q->q<w.heap.size/\¬dc C q):
 aK ai 162 #[.pointer (some C.c),no,b] w (Dw X C no l w):=by
 have P:=h.raw;have aI:=len8 ac;refine okF (ae.vQ (some C.c) (no:Int) b) ay.vQ func162 ?_;(delta ae.vQ b8 an jI jn st bK;dsimp only);refine(Dp P _).use ?_;rintro _ _ ⟨rfl,rfl⟩;have aJ:decide (0<=(no:Int)/\(no:Int)<C.D.n)=true:=dD ⟨I,I⟩;refine⟨_,rfl,λh1=>?_,λ_=>(xa P _).use ?_⟩
 .rw[aJ,aI,al]at h1
  simp at h1
 rintro _ _ ⟨aL,rfl⟩
 have fin:∀ (w1:J) (a:cf) (i:Nat) (hi:i<a.ao.length) (f1:Fr),er X w1 a->eG C a w w1 1->a.a6=C.a6->(∀j,a.view j=C.view j)->f1.pins=0->∀aj:J,bu aj a.a6 (bg Fr.c (a.ao.set i f1)).toArray 288->af (λq=>q=a.a6) w1 aj->f1.full=true->f1.no=(no:Int)->
  ((a.ao[i]).full=true->(a.ao[i]).no=(no:Int))->(∀ (k:Nat) (E:k<a.ao.length),k≠i->(a.ao[k]).full=true->(a.ao[k]).no≠(no:Int))->
  Calls ai 135 #[b] aj λaM Q=>∃ap:ad,aM=.returned ap/\∃G:ag,(some ⟨C.a6,i*6,none⟩:av ag)=some G/\(∃u:Y,Q.cell? (G.add 5)=some u)/\Q.frozen? (G.add 5)=false/\
   ak (Q.setCell (G.add 5) ap) λR=>∃H:ag,(some ⟨C.a6,i*6,none⟩:av ag)=some H/\(∃u:Y,R.cell? (H.add 1)=some u)/\R.frozen? (H.add 1)=false/\
   ak (R.setCell (H.add 1) true) λS=>∃K:ag,(some ⟨C.a6,i*6,none⟩:av ag)=some K/\(∃u:Y,S.cell? (K.add 2)=some u)/\S.frozen? (K.add 2)=false/\
   ak (S.setCell (K.add 2) true) λaN=>Dw X C no l w (0:Int) aN:=by
  intro w1 a i hi f1 y o x aO T aj aP L M aq hold ar;have bs:=o.ah.size;have bt:=L.size;have bv:a.a6<w1.heap.size:=y.raw.lt (.inr (.inl rfl));have aQ:Src 1 aj b (aD l):=by
   refine(ac.ah o.ah λq m hf=>(am q m).2 hf).ah L λq m e=>(am q m).2 (.inr (.inl (by rw[←x];exact e)))
  refine(kZ (B:=λq=>aj.heap.size<=q) aQ I (λq m=>m)).use ?_;rintro _ aR ⟨s,rfl,hs,au,_⟩;have aS:=bu.ext aP au;have U:i<(a.ao.set i f1).length:=by rw[dJ];exact hi
  have W:(a.ao.set i f1)[i]=f1:=by simp
  obtain⟨a1,a2,a3,a4⟩:=n3 aS U (j:=5) (by decide) (v:=s) {f1 with b:=s} (by rw[W];rfl);rw[set_set]at a3;have aT:i<(a.ao.set i {f1 with b:=s}).length:=by rw[dJ];exact hi
  have aU:(a.ao.set i {f1 with b:=s})[i]={f1 with b:=s}:=by simp
  obtain⟨cr,bX,z,A⟩:=n3 a3 aT (j:=1) (by decide) (v:=true) {f1 with b:=s,fY:=true} (by rw[aU];rfl);rw[set_set]at z;have aW:i<(a.ao.set i {f1 with b:=s,fY:=true}).length:=by rw[dJ];exact hi
  have aY:(a.ao.set i {f1 with b:=s,fY:=true})[i]={f1 with b:=s,fY:=true}:=by simp
  obtain⟨d1,d2,d3,d4⟩:=n3 z aW (j:=2) (by decide) (v:=true) {f1 with b:=s,fY:=true,used:=true,l:=l} (by rw[aY];rfl);rw[set_set]at d3;rw[x]at a1 a2 a3 a4 cr bX z A d1 d2 d3 d4 L;refine⟨s,rfl,_,rfl,by rw[az];exact a1,by rw[az];exact a2,?_⟩;rw[az];refine aX ⟨_,rfl,by rw[az];exact cr,by rw[az];exact bX,?_⟩;rw[az];refine aX ⟨_,rfl,by rw[az];exact d1,by rw[az];exact d2,?_⟩;rw[az];have N:=(L.trans (af.cN au)).trans (a4.trans (A.trans d4));obtain⟨t,r⟩:∃t:Fr,t={f1 with b:=s,fY:=true,used:=true,l:=l}:=⟨_,rfl⟩;obtain⟨F,Z⟩:∃F,F=(((aR.setCell ⟨C.a6,i*6+5,none⟩ s).setCell ⟨C.a6,i*6+1,none⟩ true).setCell ⟨C.a6,i*6+2,none⟩ true):=⟨_,rfl⟩;rw[←Z,←r]at d3;rw[←Z]at N⊢;have aZ:bA (λq=>aj.heap.size<=q) F s l:=by
   have h1:=bA.ah hs a4 λq m e=>by rw[←x]at e;omega
   have h2:=bA.ah h1 A λq m e=>by rw[←x]at e;omega
   have a0:=bA.ah h2 d4 λq m e=>by rw[←x]at e;omega
   rw[Z];exact a0
  have a5:fv F {a with ao:=a.ao.set i t}:=zJ y.raw (by rw[x];exact N) (by rw[x];exact d3);have a8:gP X F {a with ao:=a.ao.set i t}:=by
   refine zH (w:=w1) (V:=λq=>q=C.a6) (aC:=a.D) hi (no:=no) y.inv N (λq _ e=>.inr (.inl (by rw[x];exact e))) y.inv.tm (λ_=>rfl) (λq=>Iff.rfl) t (by rw[r];exact M) (by rw[r];exact T) ⟨by rw[r];exact aq,by show no<a.D.n;rw[o.n];exact aF,?_,by rw[r];exact al,λhd=>(by rw[r]at hd;cases hd),λhs=>absurd (by rw[←o.bZ];exact hs) aH,aG⟩ ar;rw[r];refine bA.a7 aZ λq _ m=>⟨λhf=>?_,λa9=>?_⟩
   .have:dc a q:=hf
    have:=y.raw.lt this;omega
   .have:=(y.inv.fi q a9).1;omega
  refine aX ⟨{a with ao:=a.ao.set i t},⟨a5,a8⟩,⟨o.c,o.d,by show(a.ao.set i _).length=_;rw[dJ];exact o.len,o.bT,o.aV,o.calm,c3 o.ah N λq m e=>.inr (.inl e),o.c7⟩,.inl ⟨rfl,λj=>?_⟩⟩;have:=zI (C:=a) (hd:=a.hand) (aC:=a.D) hi (no:=no) y.inv.un (λ_=>rfl) t (by rw[r];exact M) (by rw[r];exact aq) hold ar j;rw[show({a with ao:=a.ao.set i t}:cf)=cf.mk a.c a.a6 (a.ao.set i t) a.hand a.D from rfl,this,aO];rw[r]
 rcases aL with ⟨i,hi,rfl,hf,aa⟩|⟨rfl,a_⟩
 .refine⟨_,rfl,cq (λp w'=>p=some ⟨C.a6,i*6,none⟩/\w=w') (λq m=>⟨λh=>(by cases h),λ_=>m _ _ ⟨rfl,rfl⟩⟩) ?_⟩
  rintro _ _ ⟨rfl,rfl⟩;have e:C.ao.set i C.ao[i]=C.ao:=List.set_getElem_self _;exact fin w C i hi C.ao[i] h ((eG.refl C w).mono (cR _)) rfl (λ_=>rfl) (h.inv.pins _ (cW hi)) w (by rw[e];exact P.f) (.refl _ _) hf aa (λ_=>aa) λk E ba h1 h2=>ba (h.inv.un k i E hi h1 hf (by rw[h2,aa]))
 .refine⟨_,rfl,cq (λp aj=>∃ (w1:J) (a:cf) (i:Nat) (hi:i<a.ao.length) (f1:Fr),p=some ⟨C.a6,i*6,none⟩/\er X w1 a/\eG C a w w1 1/\a.a6=C.a6/\(∀j,a.view j=C.view j)/\f1.pins=0/\bu aj a.a6 (bg Fr.c (a.ao.set i f1)).toArray 288/\af (λq=>q=a.a6) w1 aj/\f1.full=true/\f1.no=(no:Int)/\
   ((a.ao[i]).full=true->(a.ao[i]).no=(no:Int))/\(∀ (k:Nat) (E:k<a.ao.length),k≠i->(a.ao[k]).full=true->(a.ao[k]).no≠(no:Int))) (λq m=>⟨λ_=>(Du h I).use ?_,λh=>(by cases h)⟩) ?_⟩
  .rintro _ w1 ⟨a,ab,aA,O,aB,bb,bc⟩
   have bd:∀f∈a.ao,f.full=true->f.no≠(no:Int):=λf hf M be=>by
    obtain⟨g,hg,h1,h2⟩:=bb f hf M;exact a_ g hg h1 (by rw[h2,be])
   rcases bc with ⟨i,hi,rfl,bf,T⟩|⟨rfl,bh⟩
   .obtain⟨a1,a2,a3,a4⟩:=n3 ab.raw.f hi (j:=0) (by decide) (v:=true) {a.ao[i] with full:=true} rfl
    have U:i<(a.ao.set i {a.ao[i] with full:=true}).length:=by rw[dJ];exact hi
    have W:(a.ao.set i {a.ao[i] with full:=true})[i]={a.ao[i] with full:=true}:=by simp
    obtain⟨cr,bX,z,A⟩:=n3 a3 U (j:=3) (by decide) (v:=no) {a.ao[i] with full:=true,no:=(no:Int)} (by rw[W];rfl);rw[set_set]at z;rw[O]at a1 a2 cr bX z a4 A;refine⟨_,_,rfl,λh=>(by simp at h),λ_=>⟨_,rfl,a1,a2,aX ⟨_,rfl,by rw[az];exact cr,by rw[az];exact bX,aX ?_⟩⟩⟩;rw[az];exact m _ _ ⟨w1,a,i,hi,{a.ao[i] with full:=true,no:=(no:Int)},rfl,ab,aA,O,aB,T,by rw[O];exact z,by rw[O];exact a4.trans A,rfl,rfl,λh1=>(by rw[bf]at h1;cases h1),λk E _ h1=>bd _ (cW E) h1⟩
   .exact⟨_,_,rfl,λ_=>⟨a,ab,aA,.inr ⟨rfl,bh,aB⟩⟩,λh=>(by simp at h)⟩
  .rintro p aj ⟨w1,a,i,hi,f1,rfl,aw,ax,bi,bj,bk,bl,bm,bn,bo,bp,bq⟩
   exact fin w1 a i hi f1 aw ax bi bj bk aj bl bm bn bo bp bq
theorem Dy(h:er X w C)(no:Nat):aK ai 146 #[.pointer (some C.c),no] w (λv w'=>(∃b:al,v=b)/\∃aI:cf,er X w' aI/\eG C aI w w' 0/\(∀j,j≠no->aI.view j=C.view j)/\aI.D=C.D/\∀f∈aI.ao,f.full=true->f∈C.ao/\f.no≠(no:Int)):=by
 have d:=h.raw;refine okF (ae.vO (some C.c) (no:Int)) ay.vO func146 ?_;(delta ae.vO jI an aF;dsimp only);refine(xa d _).use ?_;rintro _ _ ⟨u,rfl⟩;rcases u with ⟨i,hi,rfl,hf,p⟩|⟨rfl,x⟩
 .have f4:=kG d.f hi (j:=4) (by decide)
  have y:=h.inv.pins _ (cW hi);refine⟨_,rfl,cq (λb w'=>b=false/\w=w') (λq g=>⟨λh=>(by cases h),λ_=>⟨_,rfl,(C.ao[i]).pins,by rw[az];exact f4,g _ _ ⟨by rw[y];rfl,rfl⟩⟩⟩) ?_⟩;rintro _ _ ⟨rfl,rfl⟩;obtain⟨s1,s2,l⟩:=zF d.f hi dN;refine⟨λh=>(by cases h),λ_=>⟨_,rfl,s1,rfl,aX ⟨⟨true,rfl⟩,{C with ao:=C.ao.set i dN},⟨zJ d l s2,?_⟩,?_,λj z=>?_,rfl,λf A aw=>?_⟩⟩⟩
  .exact zG (V:=λq=>q=C.a6) (aC:=C.D) hi h.inv l (λq _ e=>.inr (.inl e)) h.inv.tm (λ_ _=>rfl) (λq h=>.inl h) dN rfl rfl
  .exact⟨rfl,rfl,by show(C.ao.set i _).length=_;rw[dJ],rfl,bt _,λ_ h=>h,l.mono λq _ e=>.inr (.inl e),λq h=>.inl h⟩
  .refine Dv (fs:=C.ao) (D:=C.D) (c:=C.c) (a6:=C.a6) (hd:=C.hand) h.inv.un (λa b B E h1 h2 m=>?_) (λk n aw ax=>?_) λF=>⟨λf hf aw ax=>?_,rfl⟩
   .have G:a<C.ao.length:=by simpa using B
    have H:b<C.ao.length:=by simpa using E
    by_cases r:i=a
    .subst r
     simp[dN]at h1
    by_cases s:i=b
    .subst s
     simp[dN]at h2
    simp only[fH r]at h1 m;simp only[fH s]at h2 m;exact h.inv.un a b G H h1 h2 m
   .have o:i≠k:=λe=>by
     subst e;rw[p]at ax;exact z I
    exact⟨k,by rw[dJ];exact n,by simp only[fH o];exact aw,by simp only[fH o];exact ax,by simp only[fH o]⟩
   .rcases nr hf with hf|rfl
    .exact F f hf aw ax
    .cases aw
  .obtain⟨k,n,rfl⟩:=fF A
   have t:k<C.ao.length:=by simpa using n
   by_cases e:i=k
   .subst e
    simp[dN]at aw
   .simp only[fH e]at aw⊢
    exact⟨cW t,λax=>e (h.inv.un i k hi t hf aw (p.trans ax.symm))⟩
 .refine⟨_,rfl,cq (λb w'=>b=true/\w=w') (λq g=>⟨λ_=>g _ _ ⟨rfl,rfl⟩,λh=>(by cases h)⟩) ?_⟩
  rintro _ _ ⟨rfl,rfl⟩;exact⟨λ_=>⟨⟨false,rfl⟩,C,h,eG.refl C w,λ_ _=>rfl,rfl,λf hf aw=>⟨hf,x f hf aw⟩⟩,λh=>(by cases h)⟩
end
theorem I9(n:Nat):hK ai 288 n=(bg Fr.c (List.replicate n dN)).toArray:=by
 have a:((Tryz.prog.info? 288).bind (·.zero)).map (·.cells)=some dN.c.toArray:=by kernel_rfl
 have hc:Tryz.prog.cellsOf 288=6:=by kernel_rfl
 unfold hK;rw[hc]
 cases hi:(Tryz.prog.info? 288).bind (·.zero) with
 |none=>rw[hi]at a;cases a
 |some z=>
  rw[hi]at a;simp only[lT,Option.some.injEq]at a;simp only[Option.getD_some,a];apply Array.ext
  .simp[e4 (c:=Fr.c) (sz:=6) (List.replicate n dN) (λx _=>rfl)]
  .intro i h1 h2
   have d:n*6≠0:=by
    intro h;simp[h]at h1
   have g:i<n*6:=by simpa using h1
   simp only[d,if_false,Array.getElem_map,Array.getElem_range,List.getElem_toArray];have b:dN.c.toArray.size=6:=rfl;have aJ:i%6<6:=hZ _ I;have e:i/6<(List.replicate n dN).length:=by rw[mw];omega
   have hg:=w6 (c:=Fr.c) (sz:=6) (l:=List.replicate n dN) (λx _=>rfl) (i:=i/6) (j:=i%6) e aJ;rw[show i/6*6+i%6=i from I]at hg;have f:i<(bg Fr.c (List.replicate n dN)).length:=by simpa using h2
   rw[dU f]at hg;have he:((List.replicate n dN)[i/6]).c=dN.c:=by simp
   rw[he,dU (show i%6<dN.c.length from aJ)]at hg;have hg:=Option.some.inj hg;rw[hg,b,getElem!_pos dN.c.toArray (i%6) (by rw[b];exact aJ)];simp
def mf(c a6 k:Nat)(D:bm):cf:=⟨c,a6,List.replicate k dN,0,D⟩
theorem qA{w:J}{D:bm}(h:dz w D){k:Nat}(h1:8<=k)(h2:k<=64)(m:∀j,D.bZ j=true->D.ey j=D.eK j):aK ai 139 #[.pointer (some D.d),k] w (λv w'=>∃c a6:Nat,v=.tuple #[.pointer (some c),(0:Int)]/\er (λ_=>False) w' (mf c a6 k D)/\Ext w w'/\w.heap.size<=c/\w.heap.size<=a6):=by
 refine okF (ae.qA (some D.d) (k:Int)) ay.qA func139 ?_;delta ae.qA an kV aa;refine⟨λh=>?_,λ_=>⟨⟨I,I,I,I⟩,?_⟩⟩
 .simp only[Option.isNone_some,lk,jy,b_]at h;omega
 rw[I9,di];have g:=bu.new w (bg Fr.c (List.replicate k dN)).toArray 288;have a:=c8 w (.cells (bg Fr.c (List.replicate k dN)).toArray 288);have n:=pA w (.cells (bg Fr.c (List.replicate k dN)).toArray 288);obtain⟨w1,o⟩:∃w1,w1=w.alloc (.cells (bg Fr.c (List.replicate k dN)).toArray 288):=⟨_,rfl⟩;rw[←o]at g a n⊢;refine aX (bc (vs:=[.pointer (some D.d),.slice (some w.heap.size) k k,(0:Int)]) rfl λaj p b s=>⟨w1.heap.size,w.heap.size,rfl,⟨⟨?_,bu.ext g b,h.ext (a.trans b),?_,?_,?_,?_,?_,?_⟩,⟨λf hf=>?_,λf hf l=>?_,λi j hi t h1=>?_,λq r=>r.elim,m⟩⟩,a.trans b,I,bt _⟩)
 .show Var _ _ [_,.slice _ (List.replicate k dN).length (List.replicate k dN).length,_] _
  rw[mw];exact p
 .show 8<=(List.replicate k dN).length;simpa using h1
 .show(List.replicate k dN).length<=64;simpa using h2
 .show 0<(List.replicate k dN).length;simp;omega
 .show w1.heap.size≠w.heap.size;omega
 .intro e
  have:=h.lt e;have:w1.heap.size<w.heap.size:=this;omega
 .intro e
  have:=h.lt e;have:w.heap.size<w.heap.size:=this;omega
 .rw[xE hf];rfl
 .rw[xE hf]at l;cases l
 .simp[mf,dN]at h1
structure aQ where
 ba:Nat
 gen:Nat
 root:Nat
 aN:Nat
 C:cf
 sb:Nat
 n:Nat
 f:Nat->al
 g:Nat->al
 s1:ad
 s2:ad
 E:Nat->Prop
 G:Nat->Prop
 P:Nat->av aG
def aQ.cH(T:aQ)(E G:Nat->Prop):aQ:={T with E:=E,G:=G}
def aQ.bC(T:aQ)(C:cf)(P:Nat->av aG):aQ:={T with C:=C,P:=P}
def aQ.X(T:aQ)(q:Nat):Prop:=q=T.ba\/fX T.sb T.s1 T.s2 q\/T.E q\/T.G q
def aQ.M(T:aQ)(q:Nat):Prop:=dc T.C q\/T.X q
def aQ.N(T:aQ)(q:Nat):Prop:=dc T.C q\/q=T.ba\/fX T.sb T.s1 T.s2 q\/T.G q
theorem aQ.gZ{T:aQ}{q:Nat}(h:T.N q):T.M q:=h.imp id (Or.imp id (Or.imp id .inr))
def g6(gen:Nat)(leaf:al)(no:Nat)(l:du)(n:aG):Prop:=
 ∃p:jL,fD (no:Int) l=.ok p/\p.gen<=gen/\p.kind=(if leaf then 1 else 2)/\l_ leaf p.body n/\2<=no
def lO(T:aQ):O Y:=[.pointer (some T.C.c),.pointer (some T.sb),.int .u64 (T.gen:Nat),T.root,T.aN]
structure cg(w:J)(T:aQ):Prop where
 t:Var w T.ba (lO T) 239
 s:fh w T.sb T.n T.f T.g T.s1 T.s2
 ca:er T.X w T.C
 kc:¬fX T.sb T.s1 T.s2 T.ba
 dT:∀q,T.E q->q≠T.ba/\¬fX T.sb T.s1 T.s2 q/\¬T.G q
 ja:∀q,T.G q->q≠T.ba/\¬fX T.sb T.s1 T.s2 q
 n:T.C.D.n=T.n
 num:T.root<T.n/\T.aN<=12/\T.gen<18446744073709551616
 eU:∀no ck,T.P no=some ck->no<T.n/\g6 T.gen ck.leaf no (T.C.view no) ck
 bZ:∀j,T.C.D.bZ j=true->T.g j=true\/T.C.D.ro
 low:T.g 0=true/\T.g 1=true
structure b4(T au:aQ)(w w':J)(k:Nat):Prop where
 ba:au.ba=T.ba
 sb:au.sb=T.sb
 n:au.n=T.n
 g:au.g=T.g
 s1:au.s1=T.s1
 s2:au.s2=T.s2
 c:au.C.c=T.C.c
 d:au.C.D.d=T.C.D.d
 bT:au.C.D.key=T.C.D.key
 gen:au.gen=T.gen
 aV:au.C.D.aV<=T.C.D.aV+k
 calm:∀m,T.C.D.calm (m+k)->au.C.D.calm m
 ah:af T.N w w'
 c7:∀q,au.M q->T.M q\/w.heap.size<=q
 fn:∀q,au.N q->T.N q\/w.heap.size<=q
theorem b4.bZ{T au:aQ}{w w':J}{k:Nat}(h:b4 T au w w' k):au.C.D.bZ=T.C.D.bZ/\au.C.D.eK=T.C.D.eK:=by
 have:=congrArg Prod.fst h.bT;exact⟨congrArg (λp=>p.2.1) this,congrArg (λp=>p.2.2.1) this⟩
theorem b4.refl(T:aQ)(w:J):b4 T T w w 0:=⟨rfl,rfl,rfl,rfl,rfl,rfl,rfl,rfl,rfl,rfl,bt _,λ_ h=>h,.refl _ _,λ_ h=>.inl h,λ_ h=>.inl h⟩
theorem b4.ext{w w':J}(T:aQ)(h:Ext w w'):b4 T T w w' 0:=⟨rfl,rfl,rfl,rfl,rfl,rfl,rfl,rfl,rfl,rfl,bt _,λ_ h=>h,af.cN h,λ_ h=>.inl h,λ_ h=>.inl h⟩
theorem b4.trans{T au b:aQ}{w w' e:J}{k l:Nat}(h1:b4 T au w w' k)(h2:b4 au b w' e l):b4 T b w e (k+l):=by
 have hs:=h1.ah.size;refine⟨h2.ba.trans h1.ba,h2.sb.trans h1.sb,h2.n.trans h1.n,h2.g.trans h1.g,h2.s1.trans h1.s1,h2.s2.trans h1.s2,h2.c.trans h1.c,h2.d.trans h1.d,h2.bT.trans h1.bT,h2.gen.trans h1.gen,by have:=h1.aV;have:=h2.aV;omega,
  λm f=>h2.calm m (h1.calm (m+l) (by rw[show m+l+k=m+(k+l) from I];exact f)),c3 h1.ah h2.ah λq a h=>(h1.fn q h).resolve_right I,λq a=>?_,λq a=>?_⟩
 .rcases h2.c7 q a with h|h
  .exact h1.c7 q h
  .exact .inr I
 .rcases h2.fn q a with h|h
  .exact h1.fn q h
  .exact .inr I
theorem b4.mono{T au:aQ}{w w':J}{k l:Nat}(h:b4 T au w w' k)(b:k<=l):b4 T au w w' l:=
 ⟨h.ba,h.sb,h.n,h.g,h.s1,h.s2,h.c,h.d,h.bT,h.gen,by have:=h.aV;omega,λm a=>h.calm m (gB a I),h.ah,h.c7,h.fn⟩
theorem b4.ck{T au:aQ}{w w':J}{k lo:Nat}(h:b4 T au w w' k){n:aG}{K V D:ad}(d:bI (λq=>lo<=q/\¬T.M q) w n K V D):bI (λq=>lo<=q/\¬au.M q) w' n K V D:=by
 have h1:bI (λq=>q<w.heap.size/\lo<=q/\¬T.M q) w n K V D:=d.a7 λq b a=>⟨b,a⟩;refine(bI.ah h1 h.ah λq b c=>b.2.2 (aQ.gZ c)).a7 λq _ a=>⟨a.2.1,λc=>?_⟩;rcases h.c7 q c with h2|h2
 .exact a.2.2 h2
 .have:=a.1;omega
section
variable {w w':J}{T au:aQ}
theorem b4.step{W E G:Nat->Prop}{w1:J}{k:Nat}(h:b4 T au w w1 k)(hc:af W w1 w')(cK:∀q,W q->q<w.heap.size->T.N q)(e:∀q,E q->au.E q\/au.G q\/w.heap.size<=q)(b:∀q,G q->au.G q\/w.heap.size<=q):b4 T (au.cH E G) w w' k:=by
 refine⟨h.ba,h.sb,h.n,h.g,h.s1,h.s2,h.c,h.d,h.bT,h.gen,h.aV,h.calm,c3 h.ah hc λq a f=>cK q f a,λq a=>?_,λq a=>?_⟩
 .rcases a with a|a|a|a|a
  .exact h.c7 q (.inl a)
  .exact h.c7 q (.inr (.inl a))
  .exact h.c7 q (.inr (.inr (.inl a)))
  .rcases e q a with h1|h1|h1
   .exact h.c7 q (.inr (.inr (.inr (.inl h1))))
   .exact h.c7 q (.inr (.inr (.inr (.inr h1))))
   .exact .inr h1
  .rcases b q a with h1|h1
   .exact h.c7 q (.inr (.inr (.inr (.inr h1))))
   .exact .inr h1
 .rcases a with a|a|a|a
  .exact h.fn q (.inl a)
  .exact h.fn q (.inr (.inl a))
  .exact h.fn q (.inr (.inr (.inl a)))
  .rcases b q a with h1|h1
   .exact h.fn q (.inr (.inr (.inr h1)))
   .exact .inr h1
theorem b4.local{b7 kH a zK:Nat->Prop}{w1:J}{k:Nat}(h:b4 (T.cH b7 a) au w1 w' k)(hx:Ext w w1)(b:∀q,b7 q->T.E q\/w.heap.size<=q)(c:∀q,a q->T.G q\/w.heap.size<=q)
 (d:∀q,kH q->au.E q\/au.G q) (e:∀q,zK q->au.G q):b4 T (au.cH kH zK) w w' k:=by
 have h0:b4 T (T.cH b7 a) w w1 0:=(b4.ext T (w:=w) (w':=w) (af.refl _ _)).step (W:=λ_=>False) hx (λ_ h=>h.elim) (λq h=>(b q h).imp id .inr) c;have h1:=h0.trans h;rw[cF]at h1;exact h1.step (W:=λ_=>False) (af.refl _ _) (λ_ h=>h.elim) (λq h=>(d q h).imp id .inl) λq h=>.inl (e q h)
theorem cg.lt(h:cg w T){q:Nat}(a:T.M q):q<w.heap.size:=by
 rcases a with a|a
 .exact h.ca.raw.lt a
 .exact(h.ca.inv.fi q a).1
theorem cg.k1(h:cg w T){q:Nat}(b:T.E q):¬T.N q:=by
 rintro(a|a|a|a)
 .exact(h.ca.inv.fi q (.inr (.inr (.inl b)))).2 a
 .exact(h.dT q b).1 a
 .exact(h.dT q b).2.1 a
 .exact(h.dT q b).2.2 a
theorem cg.ext(h:cg w T)(hx:Ext w w'):cg w' T:=⟨h.t.ext hx,h.s.ext hx,h.ca.ext hx,h.kc,h.dT,h.ja,h.n,h.num,h.eU,h.bZ,h.low⟩
theorem er.grow{X d W:Nat->Prop}{C:cf}(h:er X w C)(hc:af W w w')(cK:∀q,W q->q<w.heap.size->X q)(e:∀q,d q->X q\/(w.heap.size<=q/\q<w'.heap.size)):er d w' C:=by
 have g:af X w w':=c3 (W:=X) (af.refl _ _) hc λq a i=>cK q i a;refine⟨h.raw.ah g λq a hx=>(h.inv.fi q hx).2 a,h.inv.pins,λf hf j=>?_,h.inv.un,λq a=>?_,h.inv.me⟩
 .obtain⟨no,aw,ax,k,m,n,o,p⟩:=h.inv.ok f hf j
  have r:bA (λq=>q<w.heap.size/\¬dc C q/\¬X q) w f.b f.l:=bA.a7 k λq a c=>⟨a,c⟩;refine⟨no,aw,ax,bA.a7 (bA.ah r g λq a hx=>a.2.2 hx) λq _ c=>⟨c.2.1,λs=>?_⟩,m,n,o,p⟩;rcases e q s with h1|h1
  .exact c.2.2 h1
  .have:=c.1;omega
 .rcases e q a with h1|h1
  .exact⟨fP (h.inv.fi q h1).1 hc.size,(h.inv.fi q h1).2⟩
  .exact⟨h1.2,λhf=>by have:=h.raw.lt hf;omega⟩
theorem cg.grow{E G W:Nat->Prop}(h:cg w T)(hc:af W w w')(cK:∀q,W q->q<w.heap.size->T.E q\/T.G q)(c:∀q,E q->T.E q\/T.G q\/(w.heap.size<=q/\q<w'.heap.size))(f:∀q,G q->T.E q\/T.G q\/(w.heap.size<=q/\q<w'.heap.size))(j:∀q,E q->¬G q):cg w' (T.cH E G):=by
 have b:∀q,T.E q\/T.G q->q≠T.ba/\¬fX T.sb T.s1 T.s2 q:=λq a=>by
  rcases a with a|a
  .exact⟨(h.dT q a).1,(h.dT q a).2.1⟩
  .exact h.ja q a
 have g:af (λq=>T.E q\/T.G q) w w':=c3 (W:=λq=>T.E q\/T.G q) (af.refl _ _) hc λq a k=>cK q k a;have d:∀q,T.E q\/T.G q\/(w.heap.size<=q/\q<w'.heap.size)->q≠T.ba/\¬fX T.sb T.s1 T.s2 q:=λq a=>by
  rcases a with a|a|a
  .exact b q (.inl a)
  .exact b q (.inr a)
  .exact⟨λe=>by have h2:=h.lt (q:=q) (.inr (.inl e));omega,λe=>by have h2:=h.lt (q:=q) (.inr (.inr (.inl e)));omega⟩
 have i:∀q,T.E q\/T.G q\/(w.heap.size<=q/\q<w'.heap.size)->T.X q\/(w.heap.size<=q/\q<w'.heap.size):=λq a=>by
  rcases a with a|a|a
  .exact .inl (.inr (.inr (.inl a)))
  .exact .inl (.inr (.inr (.inr a)))
  .exact .inr a
 refine⟨h.t.ah g λe=>(b _ e).1 rfl,h.s.ah g λq a e=>(b q e).2 a,h.ca.grow hc (λq a l=>.inr (.inr (cK q a l))) λq a=>?_,h.kc,λq a=>⟨(d q (c q a)).1,(d q (c q a)).2,j q a⟩,λq a=>d q (f q a),h.n,h.num,h.eU,h.bZ,h.low⟩;rcases a with a|a|a|a
 .exact .inl (.inl a)
 .exact .inl (.inr (.inl a))
 .exact i q (c q a)
 .exact i q (f q a)
theorem cg.cells(h:cg w T):w.cell? T.ba=some (.pointer (some T.C.c))/\w.cell? (Addr.add T.ba 1)=some (.pointer (some T.sb))/\w.cell? (Addr.add T.ba 2)=some (.int .u64 (T.gen:Nat))/\
 w.cell? (Addr.add T.ba 3)=some (.int .i64 (T.root:Nat))/\w.cell? (Addr.add T.ba 4)=some (.int .i64 (T.aN:Nat)):=by
 rw[az,az,az,az];exact⟨h.t.cell,h.t.cell,h.t.cell,h.t.cell,h.t.cell⟩
theorem cg.I_(h:cg w T){no:Nat}(a:no<T.n):(T.C.view no).length=256:=by
 unfold cf.view
 cases hf:T.C.ao.find? λf=>f.full&&f.no==(no:Int) with
 |some f=>
  have h1:=j0 hf;have h2:=kO hf;obtain⟨m,b⟩:=h.ca.inv.ok f h1 (by
   have:(f.full&&f.no==(no:Int))=true:=h2;exact(Bool.and_eq_true_iff.1 this).1)
  exact b.len
 |none=>exact h.ca.raw.dev.tg (by rw[h.n];exact a)
theorem cg.rq{aI:cf}{k:Nat}{P:Nat->av aG}(h:cg w T)(e:er T.X w' aI)(a:eG T.C aI w w' k)(f:∀no ck,P no=some ck->no<T.n/\g6 T.gen ck.leaf no (aI.view no) ck):
 cg w' (T.bC aI P)/\b4 T (T.bC aI P) w w' k:=by
 have hx:=h.ca.inv.fi;have hc:=a.ah;refine⟨⟨?_,h.s.ah hc λq b hf=>(hx q (.inr (.inl b))).2 hf,e,h.kc,h.dT,h.ja,?_,h.num,f,λj l=>by unfold bm.ro;show T.g j=true\/∀i,aI.D.bZ i=true;rw[a.bZ];exact h.bZ j (by rw[←a.bZ];exact l),h.low⟩,⟨rfl,rfl,rfl,rfl,rfl,rfl,a.c,a.d,a.bT,rfl,a.aV,a.calm,hc.mono λq _ b=>.inl b,?_,?_⟩⟩
 .have:=h.t.ah hc λhf=>(hx T.ba (.inl rfl)).2 hf
  unfold lO at this⊢;rw[←a.c]at this;exact this
 .show aI.D.n=T.n
  rw[a.n,h.n]
 .rintro q (b|b)
  .rcases a.c7 q b with h1|h1
   .exact .inl (.inl h1)
   .exact .inr h1
  .exact .inl (.inr b)
 .rintro q (b|b)
  .rcases a.c7 q b with h1|h1
   .exact .inl (.inl h1)
   .exact .inr h1
  .exact .inl (.inr b)
end
def Ja(T:aQ)(leaf:al)(no:Nat)(e:Int):Prop:=
 (e=3/\¬T.C.D.calm 2)\/fD (no:Int) (T.C.view no)=.error e\/(e=4/\(∃p,fD (no:Int) (T.C.view no)=.ok p)/\∀n,¬g6 T.gen leaf no (T.C.view no) n)
def pL(T:aQ)(leaf:al)(no:Nat)(w:J)(v:Y)(w':J):Prop:=
 ∃aI:cf,cg w' (T.bC aI T.P)/\b4 T (T.bC aI T.P) w w' 2/\(∀j,aI.view j=T.C.view j)/\
  ((∃ (n:aG) (K V D:ad),v=.tuple #[c9 n K V D,(0:Int)]/\g6 T.gen leaf no (T.C.view no) n/\bI (λq=>w.heap.size<=q/\¬(T.bC aI T.P).M q) w' n K V D)\/
    (∃e:Int,v=.tuple #[c9 js bG bG bG,e]/\Ja T leaf no e/\e≠0))
theorem Dz{no:Int}{l:du}{e:Int}(h:fD no l=.error e):e≠0:=by
 intro he;subst he;unfold fD at h
 repeat' split at h
 all_goals first|(injection h with h;exact absurd h (by decide))|cases h
theorem Jb{no:Int}{l:du}{p:jL}(h:fD no l=.ok p):p.body.length<=256:=by
 unfold fD at h
 repeat' split at h
 all_goals first|(cases h;done)|skip
 rename_i h1 _ _ _ _ _;injection h with h
 rw[←h];show(List.take _ (List.drop 24 l)).length<=256;rw[cz,dw];omega
theorem DA{w':J}{h:Nat}{vs:O Y}(n g:Int)(s:ad)(a:Var w' h vs 150)(b:vs.length=3){K:J->Prop}(c:∀aj,Var aj h [n,.int .u64 g,s] 150->af (λq=>q=h) w' aj->aj.heap.size=w'.heap.size->K aj):
 bk w' h [n,.int .u64 g,s]/\(3:Nat)=3/\ak (setCells w' h 0 [n,.int .u64 g,s]) K:=by
 refine⟨a.b3 (by rw[b];rfl) ?_,rfl,cp a (us:=[n,.int .u64 g,s]) (by rw[b];rfl) rfl c⟩;intro v a;simp only[de,fG,fQ]at a;rcases a with rfl|rfl|rfl<;>trivial
theorem zL{w:J}{T:aQ}(h:cg w T)(aD:T.C.D.aV<=999999999){no:Nat}(ac:no<T.n)(ag:2<=no)(leaf:al):
 aK ai 196 #[.pointer (some T.ba),no,leaf] w (pL T leaf no w):=by
 have be:=h.s.bz;have aE:=h.I_ ac;refine okF (ae.vW (some T.ba) (no:Int) leaf) ay.vW func196 ?_;(delta ae.vW cU ed an yG aa uX aY r1 BM z9 b5 aF sy lD;dsimp only);refine bc (vs:=[false,(),(),()]) rfl λw1 aH ak bf=>?_;obtain⟨o,L⟩:∃o,o=λq=>T.G q\/q=w.heap.size:=⟨_,rfl⟩;have am:o w.heap.size:=by rw[L];exact .inr rfl
 have N:∀q,T.G q->o q:=λq c=>by rw[L];exact .inl c
 have O:∀q,o q->T.G q\/q=w.heap.size:=λq c=>by rw[L]at c;exact c
 have h1:cg w1 (T.cH T.E o):=h.grow (W:=λ_=>False) ak (λ_ h=>h.elim) (λq c=>.inl c) (λq c=>.inr ((O q c).imp id λe=>⟨I,I⟩)) λq c hg=>by
  rcases O q hg with h2|h2
  .exact(h.dT q c).2.2 h2
  .have:=h.lt (q:=q) (.inr (.inr (.inr (.inl c))));omega
 refine⟨_,rfl,_,h1.cells.1,(I8 h1.ca aD (no:=no) (by rw[h1.n];exact ac) ag).use ?_⟩;rintro _ m ⟨aI,aJ,R,t,aL⟩;obtain⟨S,aM⟩:=h1.rq (P:=T.P) aJ R (λno ck aN=>by rw[t];exact h1.eU no ck aN);have bg:=R.ah.size;have ao:Var m w.heap.size [false,(),(),()] 202:=aH.ah R.ah λhf=>(h1.ca.inv.fi _ (.inr (.inr (.inr am)))).2 hf
 have fin:∀w':J,af (λq=>q=w.heap.size) m w'->cg w' (T.bC aI T.P)/\b4 T (T.bC aI T.P) w w' 2:=λw' hc=>by
  refine⟨S.grow (E:=T.E) (G:=T.G) hc (λq e _=>.inr (by rw[e];exact am)) (λq c=>.inl c) (λq c=>.inr (.inl (N q c))) λq c=>(h.dT q c).2.2,?_⟩;have aO:=aM.local ak (λq c=>.inl c) (λq c=>(O q c).imp id λe=>I) (kH:=T.E) (zK:=T.G) (λq c=>.inl c) N;exact aO.step hc (λq e bh=>I) (λq c=>.inl c) λq c=>.inl c
 have aP:∀ {w':J}{n:aG}{K V D:ad}{B:Nat->Prop},bI (λq=>m.heap.size<=q) w' n K V D->bI (λq=>w.heap.size<=q/\¬(T.bC aI T.P).M q) w' n K V D:=λaR=>by
  refine aR.a7 λq _ c=>⟨I,λj=>?_⟩;have:q<m.heap.size:=S.lt (q:=q) (by
   rcases j with j|j|j|j|j
   .exact .inl j
   .exact .inr (.inl j)
   .exact .inr (.inr (.inl j))
   .exact .inr (.inr (.inr (.inl j)))
   .exact .inr (.inr (.inr (.inr (N q j)))))
  omega
 rcases aL with ⟨s,rfl,hs⟩|⟨rfl,aS⟩
 .refine⟨s,0,rfl,λd=>(by cases d),λ_=>(qG hs.1 hs.2.1 (by show(T.C.view no).length<=1000;rw[aE];omega) _).use ?_⟩
  rintro _ aU ⟨y,F⟩;have ap:=ao.ext F;have bi:=F.size;have aW:(T.cH T.E o).C.view no=T.C.view no:=rfl;rw[aW]at y
  cases g:fD (no:Int) (T.C.view no) with
  |error e=>
   rw[g]at y;obtain rfl:=y;refine⟨0,0,⟨none,0,0⟩,e,rfl,bc (vs:=[(0:Int),.int .u64 0,()]) rfl λaZ U u a0=>?_⟩;refine DA 0 0 ⟨none,0,0⟩ U rfl λf aq v a1=>⟨λ_=>?_,λd=>?_⟩
   .have X:Var f w.heap.size [false,(),(),()] 202:=(ap.ext u).ah v I
    refine jt false bG bG bG X rfl (Q:=λb K V D aj=>pL T leaf no w (.tuple #[.agg #[b,K,V,D],e]) aj) λl i=>?_;obtain⟨f1,f2⟩:=fin l (c3 (W:=λq=>q=w.heap.size) (af.cN (Ext.cD (F.trans u) v I)) i λq _ e=>e);exact⟨aI,f1,f2,t,.inr ⟨e,rfl,.inr (.inl g),Dz g⟩⟩
   .have:=Dz g
    simp at d;omega
  |ok p=>
   rw[g]at y;obtain⟨z,rfl,Y,bj⟩:=y;refine⟨p.kind,p.gen,z,0,rfl,bc (vs:=[(0:Int),.int .u64 0,()]) rfl λaZ U u a0=>?_⟩;refine DA p.kind p.gen z U rfl λf aq v a1=>⟨λd=>(by cases d),λ_=>aX ?_⟩;have X:Var f w.heap.size [false,(),(),()] 202:=(ap.ext u).ah v I;have a2:Ext m f:=Ext.cD (F.trans u) v I;have A:Ext m f.drew:=a2.trans (cE _);have Z:Var f.drew w.heap.size [false,(),(),()] 202:=X.drew;have H:=aq.drew;have a3:=(S.ext A).cells;obtain⟨b,d⟩:∃b,b=aU.heap.size:=⟨_,rfl⟩;rw[←d]at H⊢;have ab:f.drew.cell? b=some (.int .i64 (p.kind:Nat)):=H.cell;have a4:f.drew.cell? (Addr.add b 1)=some (.int .u64 (p.gen:Nat)):=by rw[az];exact H.cell
   have a5:f.drew.cell? (Addr.add b 2)=some (.slice z.a z.len z.cap):=by rw[az];exact H.cell
   have bk:m.heap.size<=f.drew.heap.size:=A.size;refine⟨id,_,a4,_,rfl,id,_,a3.2.2.1,λhg=>?_,λhg=>⟨id,_,ab,?_⟩⟩
   .have hg:T.gen<p.gen:=by
     have:(p.gen:Int)>(T.gen:Int):=cl hg;omega
    refine cq (λb w'=>b=true/\w'=f.drew) (λq c=>⟨λ_=>c _ _ ⟨rfl,rfl⟩,λh=>by cases h⟩) ?_;rintro _ _ ⟨rfl,rfl⟩;refine⟨λ_=>?_,λh=>(by cases h)⟩;refine jt false bG bG bG Z rfl (Q:=λb K V D aj=>pL T leaf no w (.tuple #[.agg #[b,K,V,D],(4:Int)]) aj) λl i=>?_;obtain⟨f1,f2⟩:=fin l (c3 (W:=λq=>q=w.heap.size) (af.cN A) i λq _ e=>e);refine⟨aI,f1,f2,t,.inr ⟨4,rfl,.inr (.inr ⟨rfl,⟨p,g⟩,?_⟩),by decide⟩⟩;rintro n ⟨ar,aw,ax,_⟩;rw[g]at aw;cases aw;omega
   .have hg:p.gen<=T.gen:=by
     have:¬(p.gen:Int)>(T.gen:Int):=cw hg;omega
    refine cq (λb w'=>w'=f.drew/\(b=false↔p.kind=(if leaf then 1 else 2))) (λq c=>⟨λh=>c _ _ ⟨rfl,?_⟩,λh=>⟨_,ab,cq (λb w'=>w'=f.drew/\(b=false↔p.kind=(if leaf then 1 else 2))) (λr au=>⟨λh2=>⟨_,ab,au _ _ ⟨rfl,?_⟩⟩,λh2=>au _ _ ⟨rfl,?_⟩⟩) λb w' a6=>c b w' a6⟩⟩) ?_
    .refine⟨λh=>(by cases h),λx=>?_⟩
     rw[x]at h
     cases leaf<;>simp at h
    .cases leaf
     .simp
      exact Int.ofNat_inj
     .simp at h2 h;omega
    .cases leaf
     .simp at h2 h;omega
     .simp at h2
      simp;omega
    rintro bl _ ⟨rfl,x⟩;refine⟨λd=>?_,λd=>⟨_,a5,(qK ((Y.ext (Ext.cD u v I|>.trans (cE _))).src) ?_ ?_ ?_ leaf).use ?_⟩⟩
    .refine jt false bG bG bG Z rfl (Q:=λb K V D aj=>pL T leaf no w (.tuple #[.agg #[b,K,V,D],(4:Int)]) aj) λl i=>?_
     obtain⟨f1,f2⟩:=fin l (c3 (W:=λq=>q=w.heap.size) (af.cN A) i λq _ e=>e);refine⟨aI,f1,f2,t,.inr ⟨4,rfl,.inr (.inr ⟨rfl,⟨p,g⟩,?_⟩),by decide⟩⟩;rintro n ⟨ar,aw,ax,av,_⟩;rw[g]at aw;cases aw;rw[x.2 av]at d;cases d
    .exact Y.2.1
    .intro k x
     have:=aT.lt Y k x;have:=u.size;show k<f.heap.size;omega
    .have:=Jb g
     omega
    rintro _ a8 ⟨a9,aA⟩;have aB:Ext m a8:=A.trans aA;have aC:=Z.ext aA;rcases a9 with ⟨n,K,V,D,rfl,a_,eD⟩|⟨rfl,bb⟩
    .refine⟨n.leaf,K,V,D,0,rfl,?_⟩
     refine jt n.leaf K V D aC rfl (Q:=λb K V D aj=>pL T leaf no w (.tuple #[.agg #[b,K,V,D],(0:Int)]) aj) λl i=>?_;obtain⟨f1,f2⟩:=fin l (c3 (W:=λq=>q=w.heap.size) (af.cN aB) i λq _ e=>e);refine⟨aI,f1,f2,t,.inl ⟨n,K,V,D,rfl,⟨p,g,hg,x.1 d,a_,ag⟩,?_⟩⟩;refine aP (B:=λ_=>True) (bI.ah (eD.a7 λq _ c=>?_) i λq c e=>?_)
     .omega
     .have:m.heap.size<=q:=c
      omega
    .refine⟨false,bG,bG,bG,4,rfl,?_⟩
     refine jt false bG bG bG aC rfl (Q:=λb K V D aj=>pL T leaf no w (.tuple #[.agg #[b,K,V,D],(4:Int)]) aj) λl i=>?_;obtain⟨f1,f2⟩:=fin l (c3 (W:=λq=>q=w.heap.size) (af.cN aB) i λq _ e=>e);refine⟨aI,f1,f2,t,.inr ⟨4,rfl,.inr (.inr ⟨rfl,⟨p,g⟩,?_⟩),by decide⟩⟩;rintro n ⟨ar,aw,ax,av,bd,_⟩;rw[g]at aw;cases aw;exact bb n bd
 .refine⟨⟨none,0,0⟩,3,rfl,λ_=>?_,λd=>(by cases d)⟩
  refine jt false bG bG bG ao rfl (Q:=λb K V D aj=>pL T leaf no w (.tuple #[.agg #[b,K,V,D],(3:Int)]) aj) λl i=>?_;obtain⟨f1,f2⟩:=fin l i;exact⟨aI,f1,f2,t,.inr ⟨3,rfl,.inl ⟨rfl,aS⟩,by decide⟩⟩
structure dO where
 no:Nat
 n:aG
 c4:Nat
 K:ad
 V:ad
 D:ad
def dO.c(s:dO):O Y:=[s.no,s.n.leaf,s.K,s.V,s.D,s.c4]
def dO.st(s:dO):Nat×aG×Nat:=(s.no,s.n,s.c4)
theorem oa(l:O dO):∀x∈l,(dO.c x).length=6:=λ_ _=>rfl
structure kI(B:Nat->Prop)(w:J)(s:ad)(l:O dO):Prop where
 own:aT 6 232 w s (bg dO.c l)
 pM:∀q,aE s q->B q
 ck:∀x∈l,bI B w x.n x.K x.V x.D
def ob(P:Nat->av aG)(k:Key):Nat->Nat->O (Nat×aG×Nat)->Prop
 |0,_,l=>l=[]
 |h+1,no,l=>∃n rest,P no=some n/\n.leaf=decide (h=0)/\l=(no,n,if h=0 then 0 else dy n.keys k)::rest/\ob P k h (n.kids.getD (dy n.keys k) 0) rest
theorem ob.length{P:Nat->av aG}{k:Key}:∀ {h no:Nat}{l:O (Nat×aG×Nat)},ob P k h no l->l.length=h
 |0,_,_,h=>by rw[h];rfl
 |h+1,_,_,⟨n,rest,_,_,a,b⟩=>by rw[a,gx,ob.length b]
theorem g6.uniq{gen no:Nat}{leaf:al}{l:du}{n m:aG}(h1:g6 gen leaf no l n)(h2:g6 gen leaf no l m):n=m:=by
 obtain⟨p,a1,a2,a3,a4⟩:=h1;obtain⟨q,cr,bX,b,a⟩:=h2;rw[a1]at cr
 cases cr;exact l_.uniq a4.1 a.1
theorem g6.is{gen no:Nat}{leaf:al}{l:du}{n:aG}(h:g6 gen leaf no l n):n.leaf=leaf/\cQ n/\bN n<=232:=by
 obtain⟨p,_,_,_,a,_⟩:=h;exact⟨a.2.1,a.1,a.2.2.1⟩
theorem g6.two{gen no:Nat}{leaf:al}{l:du}{n:aG}(h:g6 gen leaf no l n):2<=no:=by
 obtain⟨p,_,_,_,_,a⟩:=h;exact a
theorem cQ.e9{n:aG}(h:cQ n):n.keys.Pairwise bD:=by
 rcases h with h|h
 .exact h.e9
 .exact h.e9
def Jc(T:aQ)(steps:O (Nat×aG×Nat))(w:J)(v:Y)(w':J):Prop:=
 ∃aI:cf,cg w' (T.bC aI T.P)/\b4 T (T.bC aI T.P) w w' (2*T.aN)/\(∀j,aI.view j=T.C.view j)/\
  ((∃ (s:ad) (l:O dO),v=.tuple #[s,(0:Int)]/\l.map dO.st=steps/\kI (λq=>w.heap.size<=q/\¬(T.bC aI T.P).M q) w' s l)\/(v=.tuple #[(),(3:Int)]/\¬T.C.D.calm (2*T.aN)))
theorem Jd(w:J)(cs:Array Y)(h:cs.size=6):Sem.run ai (Instr.buildSlice 228 1 #[(0,.agg cs)]) w=.ok (.slice (some w.heap.size) 1 1) (w.alloc (.cells cs 232)):=by
 have h0:((Tryz.prog.info? 232).bind (·.zero)).isSome=true:=by kernel_rfl
 obtain⟨z,a⟩:=ng.1 h0;obtain⟨i,hi,b⟩:=tf a;have h1:(Tryz.prog.underlying 232).isSome=true:=by kernel_rfl
 obtain⟨d,hd⟩:=ng.1 h1;exact zw (sz:=6) w (by kernel_rfl) hd (by kernel_rfl) hi b h (by decide) (by decide)
theorem Je:h8 ai 228 232 6 96:=⟨by kernel_rfl⟩
theorem DB{h:Nat}{n:aG}(a:n.leaf=decide (h=0)):((((h+1:Nat):Int):Int)==1)=n.leaf:=by
 rw[a,eQ,jY,b_];omega
theorem zM{w:J}{T:aQ}{tk:ad}{k:Key}{steps:O (Nat×aG×Nat)}(h:cg w T)(cm:T.C.D.aV<=900000000)(bv:Src 1 w tk (aD k))(bw:∀q,aE tk q->q<w.heap.size/\¬T.M q)(bx:ob T.P k T.aN T.root steps):
 aK ai 142 #[.pointer (some T.ba),tk] w (Jc T steps w):=by
 have cn:=h.num.2.1;refine okF (ae.vM (some T.ba) tk) ay.vM func142 ?_;(delta ae.vM aF an lD cU aa aY r1 bS st aM ar;dsimp only);refine⟨_,rfl,_,h.cells.2.2.2.1,_,rfl,_,h.cells.2.2.2.2,λs n8 n9 w'=>∃ (eX no:Nat) (l:O dO) (rest:O (Nat×aG×Nat)) (b7:Nat->Prop) (aI:cf),n9=(eX:Nat)/\n8=(no:Nat)/\ob T.P k eX no rest/\l.map dO.st++rest=steps/\l.length+eX=T.aN/\
  b7=(λq=>T.E q\/aE s q)/\(∀q,aE s q->w.heap.size<=q)/\cg w' ((T.cH b7 T.G).bC aI T.P)/\b4 T ((T.cH b7 T.G).bC aI T.P) w w' (2*l.length)/\(∀j,aI.view j=T.C.view j)/\aT 6 232 w' s (bg dO.c l)/\
  ∀x∈l,bI (λq=>w.heap.size<=q/\¬((T.cH b7 T.G).bC aI T.P).M q) w' x.n x.K x.V x.D,λ_ _ n9 _=>n9.toNat,?_,?_⟩
 .have bA:T.E=λq=>T.E q\/aE ⟨none,0,0⟩ q:=by
   funext q;refine propext ⟨.inl,λh=>h.resolve_right ?_⟩;rintro⟨A,aq,_⟩
   cases aq
  have a0:(T.cH T.E T.G).bC T.C T.P=T:=rfl;refine⟨T.aN,T.root,[],steps,T.E,T.C,rfl,rfl,bx,rfl,by simp,bA,?_,by rw[a0];exact h,by rw[a0];exact .refl _ _,λ_=>rfl,?_,λx hx=>(by cases hx)⟩
  .rintro q ⟨A,aq,_⟩
   cases aq
  .exact⟨rfl,bt _,by decide,.inl ⟨rfl,rfl⟩⟩
 have fin:∀ {w':J}{b7:Nat->Prop}{aI:cf}{s:ad}{k:Nat},cg w' ((T.cH b7 T.G).bC aI T.P)->b4 T ((T.cH b7 T.G).bC aI T.P) w w' k->b7=(λq=>T.E q\/aE s q)->(∀q,aE s q->w.heap.size<=q)->cg w' (T.bC aI T.P)/\b4 T (T.bC aI T.P) w w' k:=by
  intro w' b7 aI s k h1 h2 g z;have F:∀q,T.E q->b7 q:=λq a=>by rw[g];exact .inl a
  exact⟨h1.grow (W:=λ_=>False) (E:=T.E) (G:=T.G) (af.refl _ _) (λ_ h=>h.elim) (λq a=>.inl (F q a)) (λq a=>.inr (.inl a)) λq a=>(h.dT q a).2.2,
   h2.step (W:=λ_=>False) (af.refl _ _) (λ_ h=>h.elim) (λq a=>.inl (F q a)) λq a=>.inl a⟩
 rintro s _ _ co ⟨eX,no,l,rest,b7,Z,rfl,rfl,a6,a8,hlen,H,L,t,R,f,ap,eD⟩;have cr:=R.ah.size;refine⟨λaJ=>?_,λbD=>?_⟩
 .obtain⟨o,rfl⟩:∃bE,eX=bE+1:=⟨eX-1,by have:(eX:Int)>0:=cl aJ;omega⟩
  obtain⟨n,bF,bH,a9,rfl,a_⟩:=a6;obtain⟨bJ,S⟩:=t.eU no n bH;have bK:Z.D.aV<=999999999:=by
   have:Z.D.aV<=T.C.D.aV+2*l.length:=R.aV;omega
  refine(zL t bK bJ S.two _).use ?_;rintro _ r ⟨B,h2,ab,bb,bd⟩;have au:=R.trans ab;have cs:=ab.ah.size;rw[DB a9]at bd;rcases bd with ⟨bz,K,V,D,rfl,bL,av⟩|⟨e,rfl,bM,bN⟩
  .obtain rfl:=g6.uniq S bL
   obtain⟨_,aA,ct⟩:=S.is;have bO:=aA.e9;have cu:=wM aA;refine⟨n.leaf,K,V,D,0,rfl,bc (vs:=[false,(),(),()]) rfl λbQ U aB bR=>?_⟩;refine⟨U.b3 rfl ?_,rfl,cp U (us:=[n.leaf,K,V,D]) rfl rfl λac aC aH bT=>⟨λd=>(by cases d),λ_=>?_⟩⟩
   .intro v f
    simp only[de,fG,fQ]at f;rcases f with rfl|rfl|rfl|rfl<;>trivial
   have be:Ext r ac:=Ext.cD aB aH (bt _);have cv:=be.size;obtain⟨b6,aZ,bf,bq⟩:=bP aC;refine⟨_,b6,K,aZ,V,bf,D,bq,#[no,n.leaf,K,V,D,(0:Int)],by kernel_rfl,?_⟩;refine bc (vs:=[(0:Int),false,(),(),(),(0:Int)]) rfl λcx bh bi cy=>?_;refine⟨bh.b3 rfl ?_,rfl,cp bh (us:=[no,n.leaf,K,V,D,(0:Int)]) rfl rfl λaL aO bj cz=>?_⟩
   .intro v f
    simp only[de,fG,fQ]at f;rcases f with rfl|rfl|rfl|rfl|rfl|rfl<;>trivial
   have ag:Ext r aL:=Ext.cD (be.trans bi) bj I;have aP:Var aL r.heap.size [n.leaf,K,V,D] 202:=(aC.ext bi).ah bj I;obtain⟨sb,bU⟩:∃sb,sb=ac.heap.size:=⟨_,rfl⟩;obtain⟨nb,bV⟩:∃nb,nb=r.heap.size:=⟨_,rfl⟩;rw[←bU]at aO⊢;rw[←bV]at aP⊢;have bW:=av.ext ag;refine cq (λn40 u=>n40=(((if o=0 then no else n.kids.getD (dy n.keys k) 0:Nat)):Int)/\Ext r u/\Var u sb (dO.c ⟨no,n,if o=0 then 0 else dy n.keys k,K,V,D⟩) 232) (λq a=>⟨λaj=>?_,λaj=>?_⟩) ?_
   .have N:o≠0:=by
     have:((o+1:Nat):Int)>1:=cl aj;omega
    have bX:n.leaf=false:=by rw[a9];simp[N]
    have cA:=aA.q7 bX;have cB:=wH n.keys k;obtain⟨b6,aZ,bf,bq⟩:=bP aP;have bY:Src 1 aL tk (aD k):=(bv.ah au.ah λq a bZ=>(bw q a).2 (aQ.gZ bZ)).ext ag;refine⟨_,b6,K,aZ,V,bf,D,bq,(o5 bW bY bO I).use ?_⟩;rintro _ bk ⟨rfl,aR⟩;have bl:=aO.ext aR;obtain⟨aw,ax⟩:=eP bl (i:=5) (by simp);rw[az];refine⟨_,rfl,aw,ax,aX ?_⟩;have bm:=ek bk sb 5 (.int .i64 ((dy n.keys k:Nat):Int));have bn:=eO bl (i:=5) (.int .i64 ((dy n.keys k:Nat):Int));have bo:Ext r (bk.setCell ⟨sb,5,none⟩ (.int .i64 ((dy n.keys k:Nat):Int))):=Ext.cD (ag.trans aR) bm I;have b0:=(aP.ext aR).ah bm I;obtain⟨d0,d1,d2,d3⟩:=bP b0;obtain⟨A,aq,d,b1⟩:=cZ.at (av.ext bo).kids (i:=dy n.keys k) I;refine⟨D,d3,_,bn.cell,A,aq,d,_,b1,a _ _ ⟨?_,bo,?_⟩⟩
    .rw[if_neg N,gd,dU I];rfl
    .rw[if_neg N]
     exact bn
   .have N:o=0:=by
     have:¬((o+1:Nat):Int)>1:=cw aj;omega
    refine a _ _ ⟨by rw[if_pos N],ag,?_⟩;rw[if_pos N];exact aO
   rintro _ u ⟨rfl,bp,b2⟩;have cE:=bp.size;refine⟨_,b2.rd rfl,⟨some u.heap.size,1,1⟩,_,Jd _ _ rfl,?_⟩;have aS:=c8 u (.cells (dO.c ⟨no,n,if o=0 then 0 else dy n.keys k,K,V,D⟩).toArray 232);have Q:=bp.trans aS;have b5:=Q.size;have b8:=aS.size;have b9:=ap.1;rw[e4 _ (oa l)]at b9;have X:∀q,aE s q->b7 q:=λq a=>by rw[H];exact .inr a
   have b_:aT 6 232 r s (bg dO.c l):=ap.ah ab.ah λq a b=>t.k1 (X q a) b;obtain⟨x,aU⟩:∃x:dO,x=⟨no,n,if o=0 then 0 else dy n.keys k,K,V,D⟩:=⟨_,rfl⟩;rw[←aU]at aS Q b5 b8⊢;have cb:∀v∈dO.c x,Plain v:=by
    intro v f;unfold dO.c at f;simp only[de,fG,fQ]at f;rcases f with rfl|rfl|rfl|rfl|rfl|rfl<;>trivial
   obtain⟨ak,al,a1,a2,a3,a4,a5⟩:=Je.append (cC:=228) (x:=⟨some u.heap.size,1,1⟩) (Src.new (T:=232) u (dO.c x) 1 rfl) (b_.ext Q) cb (by show(2*(s.len+1)+1000)*96<=_;omega);have cF:=a4.size;have aW:∀q,aE ak q->w.heap.size<=q:=λq a=>by
    rcases a5 q a with h1|h1
    .exact L q h1
    .omega
   obtain⟨kH,br⟩:∃kH,kH=λq=>T.E q\/aE ak q:=⟨_,rfl⟩;have am:∀q,kH q->T.E q\/aE ak q:=λq a=>by rw[br]at a;exact a
   have F:∀q,T.E q->b7 q:=λq a=>by rw[H];exact .inl a
   have cc:bg dO.c (l++ [x])=bg dO.c l++dO.c x:=by rw[jO];simp[bg]
   have cd:cg al ((T.cH kH T.G).bC B T.P):=by
    refine(h2.ext Q).grow (E:=kH) (G:=T.G) a4 (λq a _=>.inl (X q a)) (λq a=>?_) (λq a=>.inr (.inl a)) λq a hg=>?_
    .rcases am q a with h1|h1
     .exact .inl (F q h1)
     .rcases a5 q h1 with g|g
      .exact .inl (X q g)
      .exact .inr (.inr ⟨g,aT.lt a2 q h1⟩)
    .rcases am q a with h1|h1
     .exact(h.dT q h1).2.2 hg
     .have g:=h.lt (q:=q) (.inr (.inr (.inr (.inr hg))))
      have:=aW q h1;omega
   have ce:b4 T ((T.cH kH T.G).bC B T.P) w al (2*(l++ [x]).length):=by
    have h1:=(au.trans (b4.ext _ Q)).mono (l:=2*(l++ [x]).length) (by rw[cG,jC];omega);refine h1.step (E:=kH) (G:=T.G) a4 (λq a aj=>by have:=L q a;omega) (λq a=>?_) λq a=>.inl a;rcases am q a with h1|h1
    .exact .inl (F q h1)
    .exact .inr (.inr (aW q h1))
   have bs:∀ {m:aG}{K V D:ad},bI (λq=>w.heap.size<=q/\¬((T.cH b7 T.G).bC B T.P).M q) r m K V D->bI (λq=>w.heap.size<=q/\¬((T.cH kH T.G).bC B T.P).M q) al m K V D:=λ{m K V D} b=>by
    have h1:=(b.ext Q).a7 (C:=λq=>q<(u.alloc (.cells (dO.c x).toArray 232)).heap.size/\w.heap.size<=q/\¬((T.cH b7 T.G).bC B T.P).M q) λq a d=>⟨a,d⟩;refine(bI.ah h1 a4 λq a ch=>a.2.2 (.inr (.inr (.inr (.inl (X q ch)))))).a7 λq _ d=>⟨d.2.1,λb=>d.2.2 ?_⟩;rcases b with b|b|b|b|b
    .exact .inl b
    .exact .inr (.inl b)
    .exact .inr (.inr (.inl b))
    .refine .inr (.inr (.inr (.inl ?_)))
     show b7 q;rcases am q b with g|g
     .exact F q g
     .rcases a5 q g with z|z
      .exact X q z
      .have:=d.1;omega
    .exact .inr (.inr (.inr (.inr b)))
   have bu:IntKind.wrap .i64 (((o+1:Nat):Int)-1)=(o:Nat):=by rw[bB I I];omega
   refine⟨ak,al,a1,⟨o,_,l++ [x],bF,kH,B,bu,rfl,?_,?_,by rw[cG,jC];omega,br,aW,cd,ce,λj=>(bb j).trans (f j),by rw[cc];exact a2,?_⟩,?_⟩
   .cases o with
    |zero=>exact a_
    |succ m=>rw[if_neg I];exact a_
   .rw[←a8,gb,cM,aU];rfl
   .intro y Y
    rcases c1.1 Y with Y|Y
    .exact bs (ab.ck (eD y Y))
    .obtain rfl:=fz.1 Y
     subst aU;exact bs (av.a7 λq _ d=>⟨by have:=d.1;omega,d.2⟩)
   .rw[bu]
    show(o:Int).toNat<(((o+1:Nat):Int)).toNat;omega
  .refine⟨false,bG,bG,bG,e,rfl,bc (vs:=[false,(),(),()]) rfl λbQ U aB bR=>?_⟩
   refine⟨U.b3 rfl ?_,rfl,cp U (us:=[false,(),(),()]) rfl rfl λac aC aH bT=>⟨λ_=>?_,λd=>?_⟩⟩
   .intro v f
    simp only[de,fG,fQ]at f;rcases f with rfl|rfl|rfl|rfl<;>trivial
   .have hx:Ext r ac:=Ext.cD aB aH (bt _)
    have he:e=3/\¬Z.D.calm 2:=by
     rcases bM with h1|h1|⟨_,_,h1⟩
     .exact h1
     .obtain⟨p,aw,_⟩:=S
      rw[aw]at h1;cases h1
     .exact absurd S (h1 n)
    obtain⟨rfl,ci⟩:=he;obtain⟨g,z⟩:=fin (k:=2*T.aN) (h2.ext hx) ((au.trans (b4.ext _ hx)).mono I) H L;exact⟨B,g,z,λj=>(bb j).trans (f j),.inr ⟨rfl,λhc=>ci (R.calm 2 (gB hc I))⟩⟩
   .simp at d;exact absurd d bN
 .have h0:eX=0:=by
   have:¬(eX:Int)>0:=cw bD;omega
  subst h0;have cj:rest=[]:=a6;subst cj;obtain⟨g,z⟩:=fin (k:=2*T.aN) t (R.mono I) H L;refine⟨Z,g,z,f,.inl ⟨s,l,rfl,by rw[←a8,fl],ap,λq a=>⟨L q a,λb=>?_⟩,λx hx=>?_⟩⟩
  .have cI:=L q a
   have ao:b7 q:=by rw[H];exact .inr a
   rcases b with b|b|b|b|b
   .exact(t.ca.inv.fi q (.inr (.inr (.inl ao)))).2 b
   .exact(t.dT q ao).1 b
   .exact(t.dT q ao).2.1 b
   .have:=h.lt (q:=q) (.inr (.inr (.inr (.inl b))));omega
   .exact(t.dT q ao).2.2 b
  .refine(eD x hx).a7 λq _ d=>⟨d.1,λb=>d.2 ?_⟩
   rcases b with b|b|b|b|b
   .exact .inl b
   .exact .inr (.inl b)
   .exact .inr (.inr (.inl b))
   .refine .inr (.inr (.inr (.inl ?_)))
    show b7 q;rw[H];exact .inl b
   .exact .inr (.inr (.inr (.inr b)))
def aQ.jb(T:aQ)(f:Nat->al):aQ:={T with f:=f}
structure dS where
 cb:Nat
 ma:ad
 gQ:ad
 made:O Nat
 left:O Nat
structure dB(w:J)(T:aQ)(c:dS):Prop where
 t:cg w T
 v:Var w c.cb [.pointer (some T.ba),c.ma,c.gQ] 297
 ma:aT 1 3 w c.ma (gl c.made)
 gQ:aT 1 3 w c.gQ (gl c.left)
 gc:T.G c.cb
 jc:∀q,aE c.ma q->T.G q/\q≠c.cb/\¬aE c.gQ q
 k4:∀q,aE c.gQ q->T.G q/\q≠c.cb
 ns:¬T.C.D.ro
theorem DC{w:J}{s:ad}{ds:O Nat}(d:Nat)(b:aT 1 3 w s (gl ds))(i:ds.length<=1000000):
 ∃ (a:ad) (w':J),Sem.run ai (Builtin.append_ #[58,58] 58 #[s,.slice (some w.heap.size) 1 1]) (w.alloc (.cells #[d] 3))=.ok a w'/\
  aT 1 3 w' a (gl (ds++ [d]))/\af (aE s) w w'/\(∀k,aE a k->aE s k\/w.heap.size<=k)/\af (aE s) (w.alloc (.cells #[d] 3)) w':=by
 have j:s.len=ds.length:=by have:=b.1;rw[q4]at this;omega
 have hc:Ext w (w.alloc (.cells #[d] 3)):=c8 _ _;have l:(w.alloc (.cells #[d] 3)).heap.size=w.heap.size+1:=pA _ _;obtain⟨a,w',h1,h2,m,c,e⟩:=s_.append (cC:=58) (x:=⟨some w.heap.size,1,1⟩) (Src.new (T:=3) w [d] 1 rfl) (b.ext hc) (λv f=>by rw[fz.1 f];trivial) (by show(2*(s.len+1)+1000)*8<=_;omega);exact⟨a,w',h1,by simpa[gl] using h2,(af.cN hc).trans c,λk g=>(e k g).imp id (λh=>I),c⟩
section
variable {w w':J}{T au:aQ}{c:dS}
theorem dB.of{W:Nat->Prop}(h:dB w T c)(d:cg w' au)(hc:af W w w')(cK:∀q,T.G q->¬W q)(f:au.ba=T.ba)(b:∀q,T.G q->au.G q)(g:au.C.D.bZ=T.C.D.bZ:=by rfl):dB w' au c:=
 ⟨d,by rw[f];exact h.v.ah hc (cK _ h.gc),h.ma.ah hc λq a=>cK q (h.jc q a).1,h.gQ.ah hc λq a=>cK q (h.k4 q a).1,b _ h.gc,λq a=>⟨b q (h.jc q a).1,(h.jc q a).2⟩,λq a=>⟨b q (h.k4 q a).1,(h.k4 q a).2⟩,λe=>h.ns λi=>g▸e i⟩
theorem dB.ext(h:dB w T c)(hx:Ext w w'):dB w' T c:=h.of (h.t.ext hx) hx (λ_ _ h=>h) rfl λ_ h=>h
theorem dB.cells(h:dB w T c):w.cell? c.cb=some (.pointer (some T.ba))/\w.cell? (Addr.add c.cb 1)=some (.slice c.ma.a c.ma.len c.ma.cap)/\w.cell? (Addr.add c.cb 2)=some (.slice c.gQ.a c.gQ.len c.gQ.cap):=by
 rw[az,az];exact⟨h.v.cell,h.v.cell,h.v.cell⟩
theorem cg.xb(h:cg w T){q:Nat}(a:T.G q):¬dc T.C q:=λhf=>(h.ca.inv.fi q (.inr (.inr (.inr a)))).2 hf
theorem cg.xc{f:Nat->al}(h:cg w T)(hs:fh w' T.sb T.n f T.g T.s1 T.s2)(hc:af (fX T.sb T.s1 T.s2) w w'):cg w' (T.jb f)/\b4 T (T.jb f) w w' 0:=
 ⟨⟨h.t.ah hc h.kc,hs,h.ca.ah hc λq a=>.inr (.inl a),h.kc,h.dT,h.ja,h.n,h.num,h.eU,h.bZ,h.low⟩,
  ⟨rfl,rfl,rfl,rfl,rfl,rfl,rfl,rfl,rfl,rfl,bt _,λ_ h=>h,hc.mono λq _ a=>.inr (.inr (.inl a)),λq h=>.inl h,λq h=>.inl h⟩⟩
theorem Jf(h:dB w T c)(no:Nat)(x:c.made.length<=100000):
 ∃ (b:ad) (aj:J),Sem.run ai (Builtin.append_ #[58,58] 58 #[c.ma,.slice (some w.heap.size) 1 1]) (w.alloc (.cells #[no] 3))=.ok b aj/\
  af (aE c.ma) (w.alloc (.cells #[no] 3)) aj/\(∃u:Y,aj.cell? ⟨c.cb,1,none⟩=some u)/\aj.frozen? ⟨c.cb,1,none⟩=false/\
  ∀j,j=aj.setCell ⟨c.cb,1,none⟩ b->dB j (T.cH T.E λq=>T.G q\/aE b q) {c with ma:=b,made:=c.made++ [no]}/\b4 T (T.cH T.E λq=>T.G q\/aE b q) w j 0:=by
 obtain⟨b,aj,aw,ax,d,f,o⟩:=DC no h.ma I;have cK:∀q,aE c.ma q->T.G q:=λq a=>(h.jc q a).1;have y:=d.size;have l:=h.v.ah d λa=>(h.jc _ a).2.1 rfl;obtain⟨cc,cn⟩:=eP l (i:=1) (by simp);refine⟨b,aj,aw,o,cc,cn,?_⟩;rintro _ rfl;have g:=ek aj c.cb 1 b;have p:=eO l (i:=1) b;have k:af T.G w (aj.setCell ⟨c.cb,1,none⟩ b):=c3 (d.mono λq _ a=>cK q a) g λq _ e=>by rw[e];exact h.gc
 have z:=k.size;have aJ:∀q,aE b q->q<aj.heap.size:=λq a=>aT.lt ax q a;have m:∀q,aE b q->T.G q\/(w.heap.size<=q/\q<(aj.setCell ⟨c.cb,1,none⟩ b).heap.size):=λq a=>by
  rcases f q a with h1|h1
  .exact .inl (cK q h1)
  .exact .inr ⟨h1,by have:=aJ q a;have:=g.size;omega⟩
 have n:∀q,aE b q->q≠c.cb:=λq a e=>by
  rcases f q a with h1|h1
  .exact(h.jc q h1).2.1 e
  .have:=h.v.lt;omega
 have r:∀q,aE b q->¬aE c.gQ q:=λq a e=>by
  rcases f q a with h1|h1
  .exact(h.jc q h1).2.2 e
  .have:=aT.lt h.gQ q e;omega
 have s:=h.t.grow (E:=T.E) (G:=λq=>T.G q\/aE b q) k (λq a _=>.inr a) (λq a=>.inl a) (λq a=>by
  rcases a with a|a
  .exact .inr (.inl a)
  .exact .inr (m q a)) λq a hg=>by
  rcases hg with hg|hg
  .exact(h.t.dT q a).2.2 hg
  .rcases f q hg with h1|h1
   .exact(h.t.dT q a).2.2 (cK q h1)
   .have:=h.t.lt (q:=q) (.inr (.inr (.inr (.inl a))));omega
 refine⟨⟨s,p,?_,(h.gQ.ah d λq a e=>(h.jc q e).2.2 a).ah g λq a e=>(h.k4 q a).2 e,.inl h.gc,λq a=>⟨.inr a,n q a,r q a⟩,λq a=>⟨.inl (h.k4 q a).1,(h.k4 q a).2⟩,h.ns⟩,?_⟩
 .have:aT 1 3 aj b (gl (c.made++ [no])):=ax
  exact this.ah g λq a e=>n q a e
 .have h0:b4 T T w w 0:=.refl _ _
  exact h0.step k (λq a _=>.inr (.inr (.inr a))) (λq a=>.inl a) λq a=>by
   rcases a with a|a
   .exact .inl a
   .exact(m q a).imp id λe=>e.1
theorem DD(h:dB w T c)(no:Nat)(x:c.left.length<=100000):
 ∃ (b:ad) (aj:J),Sem.run ai (Builtin.append_ #[58,58] 58 #[c.gQ,.slice (some w.heap.size) 1 1]) (w.alloc (.cells #[no] 3))=.ok b aj/\
  af (aE c.gQ) (w.alloc (.cells #[no] 3)) aj/\(∃u:Y,aj.cell? ⟨c.cb,2,none⟩=some u)/\aj.frozen? ⟨c.cb,2,none⟩=false/\
  ∀j,j=aj.setCell ⟨c.cb,2,none⟩ b->dB j (T.cH T.E λq=>T.G q\/aE b q) {c with gQ:=b,left:=c.left++ [no]}/\b4 T (T.cH T.E λq=>T.G q\/aE b q) w j 0:=by
 obtain⟨b,aj,aw,ax,d,f,o⟩:=DC no h.gQ I;have cK:∀q,aE c.gQ q->T.G q:=λq a=>(h.k4 q a).1;have y:=d.size;have l:=h.v.ah d λa=>(h.k4 _ a).2 rfl;obtain⟨cc,cn⟩:=eP l (i:=2) (by simp);refine⟨b,aj,aw,o,cc,cn,?_⟩;rintro _ rfl;have g:=ek aj c.cb 2 b;have p:=eO l (i:=2) b;have k:af T.G w (aj.setCell ⟨c.cb,2,none⟩ b):=c3 (d.mono λq _ a=>cK q a) g λq _ e=>by rw[e];exact h.gc
 have z:=k.size;have aJ:∀q,aE b q->q<aj.heap.size:=λq a=>aT.lt ax q a;have m:∀q,aE b q->T.G q\/(w.heap.size<=q/\q<(aj.setCell ⟨c.cb,2,none⟩ b).heap.size):=λq a=>by
  rcases f q a with h1|h1
  .exact .inl (cK q h1)
  .exact .inr ⟨h1,by have:=aJ q a;have:=g.size;omega⟩
 have n:∀q,aE b q->q≠c.cb:=λq a e=>by
  rcases f q a with h1|h1
  .exact(h.k4 q h1).2 e
  .have:=h.v.lt;omega
 have r:∀q,aE c.ma q->¬aE b q:=λq e a=>by
  rcases f q a with h1|h1
  .exact(h.jc q e).2.2 h1
  .have:=aT.lt h.ma q e;omega
 have s:=h.t.grow (E:=T.E) (G:=λq=>T.G q\/aE b q) k (λq a _=>.inr a) (λq a=>.inl a) (λq a=>by
  rcases a with a|a
  .exact .inr (.inl a)
  .exact .inr (m q a)) λq a hg=>by
  rcases hg with hg|hg
  .exact(h.t.dT q a).2.2 hg
  .rcases f q hg with h1|h1
   .exact(h.t.dT q a).2.2 (cK q h1)
   .have:=h.t.lt (q:=q) (.inr (.inr (.inr (.inl a))));omega
 refine⟨⟨s,p,(h.ma.ah d λq a e=>(h.jc q a).2.2 e).ah g λq a e=>(h.jc q a).2.1 e,?_,.inl h.gc,λq a=>⟨.inl (h.jc q a).1,(h.jc q a).2.1,r q a⟩,λq a=>⟨.inr a,n q a⟩,h.ns⟩,?_⟩
 .have:aT 1 3 aj b (gl (c.left++ [no])):=ax
  exact this.ah g λq a e=>n q a e
 .have h0:b4 T T w w 0:=.refl _ _
  exact h0.step k (λq a _=>.inr (.inr (.inr a))) (λq a=>.inl a) λq a=>by
   rcases a with a|a
   .exact .inl a
   .exact(m q a).imp id λe=>e.1
end
def cv(T:aQ):Nat:=T.n-e5 (λi=>T.f i||T.g i) T.n
theorem DE{s t:Nat->al}:∀ {n:Nat},(∀i,i<n->s i=t i)->e5 s n=e5 t n
 |0,_=>rfl
 |n+1,h=>by
  unfold e5
  rw[DE (n:=n) λi hi=>h i I,h n I]
theorem xd{s t:Nat->al}{k:Nat}(a:s k=false)(ht:t k=true)(he:∀i,i≠k->t i=s i):∀ {n:Nat},k<n->e5 t n=e5 s n+1
 |0,h=>by omega
 |n+1,h=>by
  unfold e5
  by_cases e:k=n
  .subst e
   rw[DE (s:=t) (t:=s) (n:=k) λi hi=>he i I,a,ht]
   simp
  .rw[xd a ht he (n:=n) I,he n I]
   omega
theorem DF{t:Nat->al}:∀ {n:Nat},(∀i,i<n->t i=true)->e5 t n=n
 |0,_=>rfl
 |n+1,h=>by
  unfold e5
  rw[DF (n:=n) λi hi=>h i I,h n I]
  simp
theorem DG{T:aQ}(h:1<=cv T):∃no,firstFree (λi=>T.f i||T.g i) T.n=some no:=by
 cases hf:firstFree (λi=>T.f i||T.g i) T.n with
 |some no=>exact⟨no,rfl⟩
 |none=>
  have:=DF (IK hf);unfold cv at h;rw[this]at h;omega
structure dC(T au:aQ)(c c':dS)(m l:O Nat)(w w':J)(k:Nat):Prop where
 to:b4 T au w w' k
 E:au.E=T.E
 G:∀q,T.G q->au.G q
 root:au.root=T.root
 aN:au.aN=T.aN
 cb:c'.cb=c.cb
 made:c'.made=c.made++m
 left:c'.left=c.left++l
 ck:m.Nodup
 ke:∀no∈m,(T.f no||T.g no)=false/\no<T.n
 f:∀no,au.f no=(T.f no||decide (no∈m))
 eS:∀no,(T.f no||T.g no)=true->au.P no=T.P no/\au.C.view no=T.C.view no
 room:cv au+m.length=cv T
theorem dC.ext{w w':J}(T:aQ)(c:dS)(h:Ext w w'):dC T T c c [] [] w w' 0:=
 ⟨.ext T h,rfl,λ_ h=>h,rfl,rfl,rfl,by simp,by simp,List.nodup_nil,λ_ h=>(by cases h),λno=>by simp,λ_ _=>⟨rfl,rfl⟩,by simp⟩
theorem dC.trans{T au j:aQ}{c c' o:dS}{m p l r:O Nat}{w w' s:J}{k t:Nat}(h1:dC T au c c' m l w w' k)(h2:dC au j c' o p r w' s t):dC T j c o (m++p) (l++r) w s (k+t):=by
 have hg:au.g=T.g:=h1.to.g;have u:au.n=T.n:=h1.to.n;have hf:∀no,(T.f no||T.g no)=true->(au.f no||au.g no)=true:=λno h=>by
  rw[h1.f,hg]
  cases d:T.f no<;>cases i:T.g no<;>simp[d,i]at h⊢
 refine⟨h1.to.trans h2.to,h2.E.trans h1.E,λq h=>h2.G q (h1.G q h),h2.root.trans h1.root,h2.aN.trans h1.aN,h2.cb.trans h1.cb,by rw[h2.made,h1.made,cM],by rw[h2.left,h1.left,cM],?_,λno h=>?_,λno=>?_,λno h=>?_,?_⟩
 .rw[tO]
  refine⟨h1.ck,h2.ck,λa v b x e=>?_⟩;subst e;have:=(h2.ke a x).1;rw[h1.f]at this;simp[v]at this
 .rcases c1.1 h with h|h
  .exact h1.ke no h
  .have d:=h2.ke no h
   rw[h1.f,hg,u]at d;refine⟨?_,d.2⟩
   cases y:T.f no<;>cases z:T.g no<;>simp[y,z]at d⊢
 .rw[h2.f,h1.f]
  simp only[c1,Bool.decide_or,Bool.or_assoc]
 .have d:=h2.eS no (hf no h)
  have i:=h1.eS no h;exact⟨d.1.trans i.1,d.2.trans i.2⟩
 .have:=h1.room
  have:=h2.room;rw[cG];omega
theorem dC.mono{T au:aQ}{c c':dS}{m l:O Nat}{w w':J}{k j:Nat}(h:dC T au c c' m l w w' k)(a:k<=j):dC T au c c' m l w w' j:=⟨h.to.mono a,h.E,h.G,h.root,h.aN,h.cb,h.made,h.left,h.ck,h.ke,h.f,h.eS,h.room⟩
def DH(T:aQ)(c:dS)(n:aG)(w:J)(v:Y)(w':J):Prop:=
 ∃ (no:Nat) (au:aQ) (c':dS),dB w' au c'/\dC T au c c' [no] [] w w' 1/\
  ((v=.tuple #[no,(0:Int)]/\au.P no=some n)\/(v=.tuple #[no,(3:Int)]/\¬T.C.D.calm 1))
theorem cQ.eL{n:aG}(h:cQ n)(h2:bN n<=400):n.keys.length<=200/\n.vals.length<=200/\n.kids.length<=201:=by
 have:=wM h;rcases h with h|h
 .have:=h.len
  have a:n.kids.length=0:=by rw[h.kids];rfl
  omega
 .have:=h.len
  have a:n.vals.length=0:=by rw[h.vals];rfl
  omega
theorem xe{B:Nat->Prop}{w:J}{T:aQ}{c:dS}{n:aG}{K V D:ad}(h:dB w T c)(bd:T.C.D.aV<=900000100)(U:1<=cv T)(be:c.made.length<=1000)(aB:bI B w n K V D)(hs:cQ n)(h2:bN n<=232):
 aK ai 283 #[.pointer (some c.cb),c9 n K V D] w (DH T c n w):=by
 obtain⟨no,W⟩:=DG U;obtain⟨u,y,_⟩:=Dd W;have H:=h.t.s.bz;have bg:=hs.eL I;refine okF (ae.wq (some c.cb) n.leaf K V D) ay.wq func283 ?_;(delta ae.wq aY aa r1 ed an g4 st b5 bS;dsimp only);refine bc (vs:=[n.leaf,K,V,D]) rfl λw1 X Z bh=>?_;obtain⟨b6,aZ,bf,bq⟩:=bP X;refine⟨_,b6,K,aZ,V,bf,D,bq,(qP (aB.ext Z) I I I).use ?_⟩;rintro _ aC ⟨aF,ab⟩;rcases aF with ⟨s,rfl,aH,aJ,_,_⟩|⟨e,rfl,he,aL⟩
 rotate_left
 .have:=aL hs;omega
 have L:=Z.trans ab;have r:=h.ext L;refine⟨s,0,rfl,λd=>(by cases d),λ_=>⟨_,rfl,_,r.cells.1,_,rfl,_,r.t.cells.2.1,(Df r.t.s).use ?_⟩⟩;rintro _ aM ⟨rfl,iT,ac⟩;rw[W]at iT⊢;obtain⟨aN,M⟩:=r.t.xc iT ac;have ag:dB aM (T.jb (dK T.f no true)) c:=r.of aN ac (λq a hf=>(h.t.ja q a).2 hf) rfl λ_ h=>h;refine⟨(no:Nat),0,rfl,λd=>(by cases d),λ_=>⟨_,rfl,_,ag.cells.2.1,?_⟩⟩;obtain⟨z,aj,aw,ax,aO,aP,aR⟩:=Jf ag no I;refine aX ⟨z,aj,aw,_,rfl,by rw[az];exact aO,by rw[az];exact aP,aX ?_⟩;rw[az];obtain⟨o,ak⟩:∃o,o=aj.setCell ⟨c.cb,0+1,none⟩ z:=⟨_,rfl⟩;rw[←ak];obtain⟨A,O⟩:=aR o ak;obtain⟨al,bi⟩:∃al,al=λq=>T.G q\/aE z q:=⟨_,rfl⟩;have am:∀q,T.N q->q<w.heap.size:=λq a=>h.t.lt (aQ.gZ a);have bj:=L.size;have bk:=M.ah.size;have bl:=O.ah.size;have ao:af T.N aC o:=M.ah.trans O.ah;have aS:Var o w.heap.size [n.leaf,K,V,D] 202:=(X.ext ab).ah ao λa=>by have:=am _ a;omega
 have aU:aT 1 5 o s (aD (jK n)):=aH.ah ao λq a aW=>by have:=am _ aW;have:=aJ q a;omega
 have hlen:=y5 hs;have H:2<=no:=by
  have e:(T.f no||T.g no)=false:=y;have F:T.g no=false:=by cases hg:T.g no<;>simp_all
  have:=h.t.low;rcases eu no 2 with Q|Q
  .rcases oA no with ap|ap
   .rw[ap,this.1]at F;cases F
   .rw[show no=1 from I,this.2]at F;cases F
  .exact Q
 have R:nT ⟨if n.leaf then 1 else 2,T.gen,jK n⟩:=by
  refine⟨?_,?_,h.t.num.2.2,by show(jK n).length<=232;omega⟩
  .show 1<=(if n.leaf then 1 else 2);split<;>omega
  .show(if n.leaf then 1 else 2)<=4;split<;>omega
 refine cq (λn27 a0=>n27=((if n.leaf then 1 else 2:Nat):Int)/\a0=o) (λq a=>⟨n.leaf,aS.cell,λd=>a _ _ ⟨by rw[d];rfl,rfl⟩,λd=>a _ _ ⟨by rw[d];rfl,rfl⟩⟩) ?_;rintro _ _ ⟨rfl,rfl⟩;refine⟨_,rfl,_,A.cells.1,_,rfl,_,A.t.cells.2.2.1,(wV (no:=no) (p:=⟨if n.leaf then 1 else 2,T.gen,jK n⟩) aU.src I R).use ?_⟩;rintro _ bm ⟨s2,rfl,aq,ar,a1⟩;have l:=A.ext ar;refine⟨s2,0,rfl,λd=>(by cases d),λ_=>⟨_,rfl,_,l.cells.1,_,rfl,_,l.t.cells.1,(Dx l.t.ca (by show T.C.D.aV<=999999999;omega) (no:=no) (by rw[l.t.n];exact u) H (λhs=>by have:=l.t.bZ no hs;have e:(T.f no||T.g no)=false:=y;rcases this with this|this;(rw[show T.g no=true from this,Bool.or_true]at e;cases e);exact l.ns this) aq.src (s8 no R) λq a=>⟨aT.lt aq q a,λhf=>?_⟩).use ?_⟩⟩
 .have:=a1 q a
  have:=A.t.lt (q:=q) (.inl hf);omega
 rintro _ a2 ⟨aI,a3,S,a4⟩;have a5:∀j,dK T.f no true j=(T.f j||decide (j∈ [no])):=λj=>by
  unfold dK;by_cases e:j=no
  .subst e;simp
  .simp[e]
 have aA:(T.f no||T.g no)=false:=y;have a6:T.n-e5 (λi=>dK T.f no true i||T.g i) T.n+1=cv T:=by
  have:=xd (s:=λi=>T.f i||T.g i) (t:=λi=>dK T.f no true i||T.g i) (k:=no) y (by simp[dK]) (λi hi=>by simp[dK,hi]) u;unfold cv at U⊢;have Q:=n2 (λi=>T.f i||T.g i) T.n;omega
 have main:∀ (P':Nat->av aG) (v:Y),(∀j,j≠no->P' j=T.P j)->(∀j,j≠no->aI.view j=T.C.view j)->(∀j ck,P' j=some ck->j<T.n/\g6 T.gen ck.leaf j (aI.view j) ck)->
  ((v=.tuple #[no,(0:Int)]/\P' no=some n)\/(v=.tuple #[no,(3:Int)]/\¬T.C.D.calm 1))->DH T c n w v a2:=by
  intro P' v a7 fR a8 m;obtain⟨a9,a_⟩:=l.t.rq (P:=P') a3 S a8;have ba:=l.of (au:=((T.jb (dK T.f no true)).cH T.E λq=>T.G q\/aE z q).bC aI P') a9 S.ah (λq a=>l.t.xb a) rfl (λ_ h=>h) S.bZ;refine⟨no,_,_,ba,⟨?_,rfl,λq a=>.inl a,rfl,rfl,rfl,rfl,(fl _).symm,by simp,λx hx=>?_,a5,λj b=>?_,a6⟩,m⟩
  .have:=(((b4.ext T L).trans M).trans O).trans ((b4.ext _ ar).trans a_)
   exact this.mono I
  .obtain rfl:=fz.1 hx
   exact⟨aA,u⟩
  .have:j≠no:=λe=>by rw[e,aA]at b;cases b
   exact⟨a7 j this,fR j this⟩
 rcases a4 with ⟨rfl,m⟩|⟨rfl,bb,m⟩
 .refine⟨0,rfl,main (λj=>if j=no then some n else T.P j) _ (λj b=>if_neg b) (λj b=>(m j).trans (if_neg b)) (λj ck b=>?_) (.inl ⟨rfl,if_pos rfl⟩)⟩
  by_cases e:j=no
  .subst e
   rw[if_pos rfl]at b
   cases b;rw[m,if_pos rfl];exact⟨u,_,wR I R,bt _,rfl,⟨hs,rfl,h2,rfl⟩,H⟩
  .rw[if_neg e]at b
   rw[m,if_neg e];exact h.t.eU j ck b
 .refine⟨3,rfl,main T.P _ (λ_ _=>rfl) (λj _=>m j) (λj ck b=>?_) (.inr ⟨rfl,bb⟩)⟩
  rw[m];exact h.t.eU j ck b
theorem Jg(w:J)(x:Int):Sem.run ai (Instr.buildSlice 326 1 #[(0,.agg #[(),x])]) w=
 .ok (.slice (some w.heap.size) 1 1) (w.alloc (.cells #[(),x] 334)):=by kernel_rfl
theorem Jh(w:J)(x y:Int)(t:ad):Sem.run ai (Instr.buildSlice 326 2 #[(0,.agg #[(),x]),(1,.agg #[t,y])]) w=
 .ok (.slice (some w.heap.size) 2 2) (w.alloc (.cells #[(),x,t,y] 334)):=by kernel_rfl
theorem cQ.yV{n:aG}(h:cQ n)(h1:1<=ct n)(h2:if n.leaf then ct n<=n.keys.length-1/\1<=n.keys.length-1 else ct n<=n.keys.length-2/\1<=n.keys.length-2):cQ (n.left (ct n))/\cQ (n.right (ct n)):=by
 rcases h with h|h
 .have a:=h.leaf
  rw[if_pos a]at h2;unfold aG.left aG.right;rw[if_pos a,if_pos a];have hlen:=h.len;refine⟨.inl ⟨⟨λk b=>h.ok k (eY b),h.e9.sublist (tT _ _)⟩,rfl,?_,rfl,λv c=>h.vals v (eY c)⟩,.inl ⟨⟨λk b=>h.ok k (e6 b),h.e9.sublist (List.drop_sublist _ _)⟩,rfl,?_,rfl,λv c=>h.vals v (e6 c)⟩⟩
  .simp only[cz];omega
  .simp only[dw];omega
 .have a:=h.inner
  rw[if_neg (by rw[a];simp)]at h2;unfold aG.left aG.right;rw[if_neg (by rw[a];simp),if_neg (by rw[a];simp)];have hlen:=h.len;refine⟨.inr ⟨⟨λk b=>h.ok k (eY b),h.e9.sublist (tT _ _)⟩,rfl,?_,?_,rfl,λv c=>h.kids v (eY c)⟩,.inr ⟨⟨λk b=>h.ok k (e6 b),h.e9.sublist (List.drop_sublist _ _)⟩,rfl,?_,?_,rfl,λv c=>h.kids v (e6 c)⟩⟩
  .intro e
   have:=congrArg List.length e;simp only[cz,lp]at this;omega
  .simp only[cz];omega
  .intro e
   have:=congrArg List.length e;simp only[dw,lp]at this;omega
  .simp only[dw];omega
def lP(B:Nat->Prop)(w:J)(s:ad)(ks:O Key)(kids:O Nat):Prop:=
 (∃b x,s=⟨some ⟨b,0,none⟩,1,1⟩/\ks=[]/\kids=[x]/\Var w b [.slice none 0 0,.int .i64 (x:Nat)] 334/\B b)\/
 (∃b x y k t,s=⟨some ⟨b,0,none⟩,2,2⟩/\ks=[k]/\kids=[x,y]/\Var w b [.slice none 0 0,.int .i64 (x:Nat),.slice t.a t.len t.cap,.int .i64 (y:Nat)] 334/\B b/\bA B w t k/\k≠ [])
def iq(T:aQ)(c:dS)(n:aG)(w:J)(v:Y)(w':J):Prop:=
 ∃ (au:aQ) (c':dS) (m:O Nat) (s:ad),dB w' au c'/\dC T au c c' m [] w w' 2/\m.length<=2/\
  ((∃ks,v=.tuple #[s,(0:Int)]/\mW au.P n ks m/\lP (λq=>¬au.M q) w' s ks m)\/(v=.tuple #[s,(3:Int)]/\¬T.C.D.calm 2))
theorem DI{B:Nat->Prop}{w:J}{T:aQ}{c:dS}{n:aG}{K V D:ad}(h:dB w T c)(l:T.C.D.aV<=900000100)(m:1<=cv T)(o:c.made.length<=1000)(p:bI B w n K V D)(hs:cQ n)(h2:bN n<=232):
 aK ai 251 #[.pointer (some ⟨c.cb,0,none⟩),c9 n K V D] w (iq T c n w):=by
 refine okF (ae.wh (some ⟨c.cb,0,none⟩) n.leaf K V D) ay.wh func251 ?_;(delta ae.wh aY aa r1 g4;dsimp only);refine bc (vs:=[.bool n.leaf,.slice K.a K.len K.cap,.slice V.a V.len V.cap,.slice D.a D.len D.cap]) rfl λw1 q f z=>?_;obtain⟨b6,aZ,bf,bq⟩:=bP q;refine⟨_,b6,K,aZ,V,bf,D,bq,(xe (h.ext f) l m o (p.ext f) hs h2).use ?_⟩;rintro _ b ⟨no,au,c',g,r,s⟩;have i:∀ (e:Int),((e=0/\au.P no=some n)\/(e=3/\¬T.C.D.calm 1))->∃ (d:ad) (j:J),Sem.run ai (Instr.buildSlice 326 1 #[(0,.agg #[.slice none 0 0,.int .i64 (no:Nat)])]) b=.ok (.slice d.a d.len d.cap) j/\iq T c n w (.tuple #[.slice d.a d.len d.cap,.int .i64 e]) j:=by
  intro e he;refine⟨⟨some ⟨b.heap.size,0,none⟩,1,1⟩,_,Jg b _,?_⟩;have k:=c8 b (.cells #[.slice none 0 0,.int .i64 (no:Nat)] 334);have u:dC T au c c' [no] [] w (b.alloc (.cells #[.slice none 0 0,.int .i64 (no:Nat)] 334)) 2:=(((dC.ext T c f).trans r).trans (dC.ext au c' k)).mono I;refine⟨au,c',[no],⟨some ⟨b.heap.size,0,none⟩,1,1⟩,g.ext k,u,by simp,?_⟩;rcases he with ⟨rfl,he⟩|⟨rfl,he⟩
  .refine .inl ⟨[],rfl,.inl ⟨h2,no,rfl,rfl,he⟩,.inl ⟨_,no,rfl,rfl,rfl,Var.new b [.slice none 0 0,.int .i64 (no:Nat)] 334,λv=>?_⟩⟩
   have:=g.t.lt v;omega
  .exact .inr ⟨rfl,λhc=>he (gB hc I)⟩
 rcases s with ⟨rfl,x⟩|⟨rfl,y⟩
 .exact⟨_,0,rfl,i 0 (.inl ⟨rfl,x⟩)⟩
 .exact⟨_,3,rfl,i 3 (.inr ⟨rfl,y⟩)⟩
theorem fZ{b:al}{K V D:ad}:∀v∈ [.bool b,.slice K.a K.len K.cap,.slice V.a V.len V.cap,.slice D.a D.len D.cap],Plain v:=by
 intro v c;simp only[de,fG,fQ]at c;rcases c with rfl|rfl|rfl|rfl<;>trivial
theorem Ji{B:Nat->Prop}{w:J}{T:aQ}{c:dS}{n:aG}{K V D:ad}(h:dB w T c)(aU:T.C.D.aV<=900000090)(aW:2<=cv T)(aX:c.made.length<=900)(aj:bI B w n K V D)(hs:cQ n)(h2:232<bN n)(a0:bN n<=400)(h1:1<=ct n)
 (o:if n.leaf then ct n<=n.keys.length-1/\1<=n.keys.length-1 else ct n<=n.keys.length-2/\1<=n.keys.length-2) (ak:bN (n.left (ct n))<=232) (al:bN (n.right (ct n))<=232):
 aK ai 294 #[.pointer (some ⟨c.cb,0,none⟩),c9 n K V D] w (iq T c n w):=by
 obtain⟨sl,hU⟩:=hs.yV h1 o;have a1:=hs.eL I;have b:ct n<n.keys.length:=by
  split at o<;>omega
 refine okF (ae.wv (some ⟨c.cb,0,none⟩) n.leaf K V D) ay.wv func294 ?_;(delta ae.wv aY aa r1 BN cU an g4;dsimp only);refine bc (vs:=[.bool n.leaf,.slice K.a K.len K.cap,.slice V.a V.len V.cap,.slice D.a D.len D.cap]) rfl λw1 am G a2=>?_;obtain⟨b6,aZ,bf,bq⟩:=bP am;refine⟨_,b6,K,aZ,V,bf,D,bq,(qQ (aj.ext G) hs I h1 o).use ?_⟩;rintro _ ao ⟨dn,dI,br,cL,cV,cx,t,rfl,ap,aq,ht,ar⟩;refine⟨_,dn,dI,br,t,_,cL,cV,cx,true,rfl,bc (vs:=[.bool false,.slice none 0 0,.slice none 0 0,.slice none 0 0]) rfl λa3 au av a4=>bc (vs:=[.bool false,.slice none 0 0,.slice none 0 0,.slice none 0 0]) rfl λa5 aw H a6=>?_⟩;have L:=au.ext H;refine⟨L.b3 rfl fZ,rfl,cp L (us:=[.bool (n.left (ct n)).leaf,.slice dn.a dn.len dn.cap,.slice dI.a dI.len dI.cap,.slice br.a br.len br.cap]) rfl rfl λa8 ax O a9=>?_⟩;have Q:=aw.ah O I;refine⟨Q.b3 rfl fZ,rfl,cp Q (us:=[.bool (n.right (ct n)).leaf,.slice cL.a cL.len cL.cap,.slice cV.a cV.len cV.cap,.slice cx.a cx.len cx.cap]) rfl rfl λp az R a_=>⟨λb=>(by cases b),λ_=>?_⟩⟩;have aA:=ax.ah R I;have S:=G.trans ar;have l:Ext ao p:=Ext.cD (Ext.cD (av.trans H) O I) R I;have r:=S.trans l;have ba:=S.size;have bb:=l.size;obtain⟨d0,d1,d2,d3⟩:=bP aA;refine⟨_,d0,dn,d1,dI,d2,br,d3,(xe (h.ext r) I I I (ap.ext l) sl ak).use ?_⟩;rintro _ aB ⟨x,bQ,U,s,d,aC⟩;have u:∀q,T.N q->q<w.heap.size:=λq g=>h.t.lt (aQ.gZ g);have bd:=d.to.ah.size;rcases aC with ⟨rfl,W⟩|⟨rfl,v⟩
 .have aD:=az.ah d.to.ah λg=>by have:=u _ g;omega
  obtain⟨d0,d1,d2,d3⟩:=bP aD;have aE:bI (λq=>w1.heap.size<=q) aB (n.right (ct n)) cL cV cx:=(aq.ext l).ah d.to.ah λq g z=>by have:=u _ z;omega
  have aF:bQ.C.D.aV<=900000100:=eC d.to.aV (by clear s d W;omega);have aH:=d.room;have be:U.made.length=c.made.length+1:=by rw[d.made,cG];rfl
  simp only[jC]at aH;have X:=xe s aF I I aE hU al;rw[d.cb]at X;refine⟨x,0,rfl,λb=>(by cases b),λ_=>⟨_,d0,cL,d1,cV,d2,cx,d3,X.use ?_⟩⟩;rintro _ i ⟨y,b2,Y,Z,m,aI⟩;have bg:=m.to.ah.size;have aJ:=((dC.ext T c r).trans d).trans m;have aL:n.keys.getD (ct n) []=n.keys[ct n]:=by rw[gd,dU b];rfl
  have aM:=ht.ext l;have aN:bA (λq=>¬b2.M q) i t n.keys[ct n]:=by
   rw[←aL];have aO:bA (λq=>q<p.heap.size/\w1.heap.size<=q) p t (n.keys.getD (ct n) []):=bA.a7 aM λq g b=>⟨g,b⟩;have ab:=(d.trans m).to;refine bA.a7 (bA.ah aO ab.ah λq g z=>by have:=u _ z;omega) λq _ b A=>?_;rcases ab.c7 q A with ac|ac
   .have:=h.t.lt ac;omega
   .omega
  have aP:n.keys[ct n]≠ []:=by
   have aR:cI n.keys[ct n]:=by
    rcases hs with hs|hs
    .exact hs.ok _ (cW b)
    .exact hs.ok _ (cW b)
   intro e;have:=aR.1;rw[e]at this;simp at this
  have E:=c8 i (.cells #[.slice none 0 0,.int .i64 (x:Nat),.slice t.a t.len t.cap,.int .i64 (y:Nat)] 334);have F:=(aJ.trans (dC.ext b2 Y E)).mono (j:=2) I;have af:∀ (e:Int),((e=0/\b2.P y=some (n.right (ct n)))\/(e=3/\¬bQ.C.D.calm 1))->∃ (k:ad) (ag:J),Sem.run ai (Instr.buildSlice 326 2 #[(0,.agg #[.slice none 0 0,.int .i64 (x:Nat)]),(1,.agg #[.slice t.a t.len t.cap,.int .i64 (y:Nat)])]) i=.ok (.slice k.a k.len k.cap) ag/\
   iq T c n w (.tuple #[.slice k.a k.len k.cap,.int .i64 e]) ag:=by
   intro e he;refine⟨⟨some ⟨i.heap.size,0,none⟩,2,2⟩,_,Jh i _ _ t,b2,Y,[x,y],⟨some ⟨i.heap.size,0,none⟩,2,2⟩,Z.ext E,F,by simp,?_⟩;rcases he with ⟨rfl,he⟩|⟨rfl,he⟩
   .have aS:b2.P x=some (n.left (ct n)):=by
     rw[(m.eS x (by rw[d.f];simp)).1,W]
    refine .inl ⟨[n.keys[ct n]],rfl,.inr ⟨h2,x,y,b,rfl,rfl,aS,he⟩,.inr ⟨_,x,y,_,t,rfl,rfl,rfl,Var.new i [.slice none 0 0,.int .i64 (x:Nat),.slice t.a t.len t.cap,.int .i64 (y:Nat)] 334,λA=>?_,bA.ext aN E,aP⟩⟩;have:=Z.t.lt A;omega
   .exact .inr ⟨rfl,λhc=>he (d.to.calm 1 (gB hc I))⟩
  rcases aI with ⟨rfl,aT⟩|⟨rfl,v⟩
  .exact⟨_,0,rfl,af 0 (.inl ⟨rfl,aT⟩)⟩
  .exact⟨_,3,rfl,af 3 (.inr ⟨rfl,v⟩)⟩
 .have F:=((dC.ext T c r).trans d).mono (j:=2) I
  exact⟨_,3,rfl,λ_=>⟨bQ,U,[x],bG,s,F,by simp,.inr ⟨rfl,λhc=>v (gB hc I)⟩⟩,λb=>(by cases b)⟩
theorem xf{B:Nat->Prop}{w:J}{T:aQ}{c:dS}{n:aG}{K V D:ad}(h:dB w T c)(t:T.C.D.aV<=900000090)(u:2<=cv T)(x:c.made.length<=900)(f:bI B w n K V D)(hs:cQ n)(y:bN n<=400)
 (h2:232<bN n->1<=ct n/\(if n.leaf then ct n<=n.keys.length-1/\1<=n.keys.length-1 else ct n<=n.keys.length-2/\1<=n.keys.length-2)/\bN (n.left (ct n))<=232/\bN (n.right (ct n))<=232):
 aK ai 281 #[.pointer (some c.cb),c9 n K V D] w (iq T c n w):=by
 have A:=hs.eL I;refine okF (ae.wo (some c.cb) n.leaf K V D) ay.wo func281 ?_;(delta ae.wo aY aa r1 bS an ed;dsimp only);refine bc (vs:=[n.leaf,K,V,D]) rfl λw1 o p E=>?_;obtain⟨b6,aZ,bf,bq⟩:=bP o;refine⟨_,b6,K,aZ,V,bf,D,bq,(pc (f.ext p) hs I).use ?_⟩;rintro _ z ⟨rfl,q⟩;have a:=p.trans q;obtain⟨d0,d1,d2,d3⟩:=bP (o.ext q);have fin:∀ (v:Y) (w':J),iq T c n z v w'->∃s:ad,∃e:Int,v=.tuple #[s,e]/\iq T c n w (.tuple #[s,e]) w':=by
  rintro v w' ⟨au,c',m,s,aw,ax,d,i⟩;have r:=((dC.ext T c a).trans ax).mono (j:=2) I;rcases i with ⟨ks,rfl,k⟩|⟨rfl,k⟩
  .exact⟨s,0,rfl,au,c',m,s,aw,r,d,.inl ⟨ks,rfl,k⟩⟩
  .exact⟨s,3,rfl,au,c',m,s,aw,r,d,.inr ⟨rfl,k⟩⟩
 refine⟨_,rfl,λb=>⟨_,d0,K,d1,V,d2,D,d3,?_⟩,λb=>⟨_,d0,K,d1,V,d2,D,d3,?_⟩⟩
 .have b:((bN n:Nat):Int)>232:=cl b
  obtain⟨aw,ax,d,i⟩:=h2 I;refine(Ji (h.ext a) t u x (f.ext a) hs I y aw ax d i).use ?_;rintro v w' l;obtain⟨s,e,rfl,g⟩:=fin v w' l;exact⟨s,e,rfl,g⟩
 .have b:¬((bN n:Nat):Int)>232:=cw b
  refine(DI (h.ext a) I I I (f.ext a) hs I).use ?_;rintro v w' l;obtain⟨s,e,rfl,g⟩:=fin v w' l;exact⟨s,e,rfl,g⟩
theorem DJ{B:Nat->Prop}{w:J}{s:ad}{ls:O Key}(h:bw B w s ls)(p:ls.length<=100000):
 aK ai 284 #[s] w (λv w'=>∃b:ad,v=b/\bx (λq=>(B q/\q<w.heap.size)\/(w.heap.size<=q/\aE b q)) w' b ls/\Ext w w'/\gO w b):=by
 have r:=bw.len h;obtain⟨ts,aw,ax,t,u,l⟩:=h;refine okF (ae.vc s) ay.vc func284 ?_;delta ae.vc an aa;refine⟨λd=>?_,λ_=>?_⟩
 .have d:s.a=none:=by simpa using d
  have h0:=ax.nil d;have:ls=[]:=List.eq_nil_of_length_eq_zero (by rw[←aw];have:=congrArg List.length h0;simpa using this);subst this;exact⟨⟨none,0,0⟩,rfl,bx.none _ _,.refl _ _,λk e=>(gy k e).elim⟩
 .obtain⟨b,w',h1,h2,x,j,f,_⟩:=q6.clone (cC:=127) ax (wY ts) I
  refine aX ⟨b,w',h1,b,rfl,⟨ts,aw,h2,λq c=>⟨.inr ⟨f q c,c⟩,h2.lt q c⟩,λi m n=>?_⟩,j,f⟩;have a:=l i m n;exact⟨bA.a7 (bA.ext (bA.a7 (C:=λq=>B q/\q<w.heap.size) a λq c g=>⟨g,c⟩) j) λq _ g=>.inl g,λk e o=>by have:=f k o;have:=(a.2.2 k e).2;omega⟩
theorem lP.at{B:Nat->Prop}{w:J}{s:ad}{ks:O Key}{kids:O Nat}(h:lP B w s ks kids):s.len=kids.length/\kids.length=ks.length+1/\kids.length<=2/\∀ (j:Nat) (d:j<kids.length),∃ (A:ag) (t:ad),s.a=some A/\w.cell? (A.add (j*2))=some (.slice t.a t.len t.cap)/\w.cell? ((A.add (j*2)).add 1)=some (.int .i64 ((kids[j]:Nat):Int))/\
 ((t.a=none/\ks.take j=ks.take (j-1))\/(t.a.isSome=true/\∃k,bA B w t k/\ks.take j=ks.take (j-1)++ [k])):=by
 rcases h with ⟨b,x,rfl,rfl,rfl,c,e⟩|⟨b,x,y,k,t,rfl,rfl,rfl,c,e,ht,f⟩
 .refine⟨rfl,rfl,by simp,λj d=>?_⟩
  have:j=0:=by simp at d;omega
  subst this;exact⟨_,⟨none,0,0⟩,rfl,by rw[az];exact c.cell,by rw[az,az];exact c.cell,.inl ⟨rfl,rfl⟩⟩
 .refine⟨rfl,rfl,by simp,λj d=>?_⟩
  rcases eu j 1 with h1|h1
  .have:j=0:=by omega
   subst this;exact⟨_,⟨none,0,0⟩,rfl,by rw[az];exact c.cell,by rw[az,az];exact c.cell,.inl ⟨rfl,rfl⟩⟩
  .have:j=1:=by simp at d;omega
   subst this;obtain⟨A,aq⟩:=bA.some ht f;exact⟨_,t,rfl,by rw[az];exact c.cell,by rw[az,az];exact c.cell,.inr ⟨by rw[aq];rfl,k,ht,rfl⟩⟩
theorem lP.ext{B:Nat->Prop}{w w':J}{s:ad}{ks:O Key}{kids:O Nat}(h:lP B w s ks kids)(hx:Ext w w'):lP B w' s ks kids:=by
 rcases h with ⟨b,x,h1,h2,a,c,d⟩|⟨b,x,y,k,t,h1,h2,a,c,d,ht,e⟩
 .exact .inl ⟨b,x,h1,h2,a,c.ext hx,d⟩
 .exact .inr ⟨b,x,y,k,t,h1,h2,a,c.ext hx,d,bA.ext ht hx,e⟩
theorem Jj{w:J}{nb o:Nat}{vs:O Y}{S t:ad}{ls:O Key}{l:Key}{B:Nat->Prop}{T:TypeId}(d:Var w nb vs T)(n:o<vs.length)(f:bx B w S ls)(g:¬B nb)
 (ht:bA B w t l) (hd:∀k,aE t k->¬aE S k) (E:ls.length<=100000) {K:J->Prop}
 (p:∀ (w':J) (aA:ad),Var w' nb (vs.set o aA) T->bx (Grow B w w') w' aA (ls++ [l])->af (λq=>q=nb\/aE S q) w w'->(∀k,aE aA k->aE S k\/w.heap.size<=k)->K w'):
 ak (w.alloc (.cells #[t] 48)) λr=>∃i:ad,∃b:J,Sem.run ai (Builtin.append_ #[127,127] 127 #[S,.slice (some w.heap.size) 1 1]) r=.ok i b/\
  (∃u:Y,b.cell? (Addr.add nb o)=some u)/\b.frozen? (Addr.add nb o)=false/\ak (b.setCell (Addr.add nb o) i) λs=>K s:=by
 have v:=bx.a7 (C:=λq=>B q\/w.heap.size<=q) f λk _ h=>.inl h;have x:=bA.a7 (C:=λq=>B q\/w.heap.size<=q) ht λk _ h=>.inl h;obtain⟨c,w',aw,ax,j,y⟩:=Cw v x hd I λk a=>.inr a;have F:=d.lt;have z:¬aE S nb:=λh=>by
  obtain⟨ts,_,_,A,_⟩:=f;exact g (A nb h).1
 have m:=d.ah j z;obtain⟨aZ,bf⟩:=eP m n;refine aX ⟨c,w',aw,?_⟩;rw[az,cF];have hc:=ek w' nb o c;refine⟨aZ,bf,aX (p _ c (eO m _) ?_ ?_ y)⟩
 .have D:=bx.a7 (C:=Grow B w (w'.setCell ⟨nb,o,none⟩ c)) ax λk a h=>by
   rcases h with h|h
   .exact .inl h
   .exact .inr ⟨h,fP a hc.size⟩
  refine bx.ah D hc λk a e=>?_;subst e;rcases a with h|h
  .exact g h
  .omega
 .exact(j.mono λk _ a=>.inr a).trans (hc.mono λk _ a=>.inl a)
def xg(B:Nat->Prop)(n:aG)(fr to:Nat)(ks:O Key)(kids:O Nat)(w:J)(v:Y)(w':J):Prop:=
 ∃K V D:ad,v=c9 (gk n fr to ks kids) K V D/\bI (λq=>B q\/w.heap.size<=q) w' (gk n fr to ks kids) K V D/\Ext w w'
def zN(nb aH e:Nat)(l:ad)(to:Int)(cm:J)(Q:Y->J->Prop):Prop:=
 ∃ (C:Int->J->Prop) (H:Int->J->Nat),C 0 cm/\∀ (n19:Int) (b:J),C n19 b->((decide ((n19:Int)<(l.len:Int)))=true->∃D:ag,l.a=some D/\((0:Int)<=n19/\n19<(l.len:Int))/\∃h:ad,b.cell? (D.add (Int.toNat n19*2))=some (.slice h.a h.len h.cap)/\∃n23:Int,b.cell? ((D.add (Int.toNat n19*2)).add 1)=some (.int .i64 n23)/\ak (b.alloc (.cells #[(),(0:Int)] 334)) λI=>bk I b.heap.size [h,n23]/\(2:Nat)=2/\ak (setCells I b.heap.size 0 [h,n23]) λf=>bH (λK:J->Prop=>∃i:ad,f.cell? b.heap.size=some (.slice i.a i.len i.cap)/\((!(Option.isNone i.a))=true->∃o:ad,f.cell? (Addr.add aH 1)=some (.slice o.a o.len o.cap)/\∃p:ad,f.cell? b.heap.size=some (.slice p.a p.len p.cap)/\ak (f.alloc (.cells #[p] 48)) λS=>∃L:ad,∃q:J,Sem.run ai (Builtin.append_ #[127,127] 127 #[o,.slice (some f.heap.size) 1 1]) S=.ok L q/\(∃u:Y,q.cell? (Addr.add aH 1)=some u)/\q.frozen? (Addr.add aH 1)=false/\ak (q.setCell (Addr.add aH 1) L) λT=>K T)/\((!(Option.isNone i.a))=false->K f)) (λ(r:J)=>∃s:ad,r.cell? (Addr.add aH 3)=some (.slice s.a s.len s.cap)/\∃n36:Int,r.cell? (Addr.add b.heap.size 1)=some (.int .i64 n36)/\ak (r.alloc (.cells #[n36] 3)) λU=>∃M:ad,∃t:J,Sem.run ai (Builtin.append_ #[58,58] 58 #[s,.slice (some r.heap.size) 1 1]) U=.ok M t/\(∃u:Y,t.cell? (Addr.add aH 3)=some u)/\t.frozen? (Addr.add aH 3)=false/\ak (t.setCell (Addr.add aH 3) M) λN=>C (IntKind.wrap .i64 (n19+1)) N/\H (IntKind.wrap .i64 (n19+1)) N<H n19 b))/\((decide ((n19:Int)<(l.len:Int)))=false->ak (b.drew) λE=>¬False/\∃v:ad,E.cell? (Addr.add aH 1)=some (.slice v.a v.len v.cap)/\¬False/\∃c:ad,E.cell? (Addr.add nb 1)=some (.slice c.a c.len c.cap)/\((0:Int)<=(IntKind.wrap .i64 (to-1))/\(IntKind.wrap .i64 (to-1))<=(c.len:Int))/\∃O:ad,∃w:J,Sem.run ai (Builtin.append_ #[127,127] 127 #[v,.slice (aO c.a 1 (Int.toNat (IntKind.wrap .i64 (to-1))) c.cap) (c.len-(Int.toNat (IntKind.wrap .i64 (to-1)))) (c.cap-(Int.toNat (IntKind.wrap .i64 (to-1))))]) E=.ok O w/\(∃u:Y,w.cell? (Addr.add aH 1)=some u)/\w.frozen? (Addr.add aH 1)=false/\ak (w.setCell (Addr.add aH 1) O) λV=>ak (V.drew) λF=>¬False/\∃x:ad,F.cell? (Addr.add aH 3)=some (.slice x.a x.len x.cap)/\¬False/\∃d:ad,F.cell? (Addr.add nb 3)=some (.slice d.a d.len d.cap)/\((0:Int)<=to/\to<=(d.len:Int))/\∃P:ad,∃y:J,Sem.run ai (Builtin.append_ #[58,58] 58 #[x,.slice (aO d.a 1 (Int.toNat to) d.cap) (d.len-(Int.toNat to)) (d.cap-(Int.toNat to))]) F=.ok P y/\(∃u:Y,y.cell? (Addr.add aH 3)=some u)/\y.frozen? (Addr.add aH 3)=false/\ak (y.setCell (Addr.add aH 3) P) λg=>∃G:al,g.cell? aH=some (.bool G)/\∃j:ad,g.cell? (Addr.add aH 1)=some (.slice j.a j.len j.cap)/\∃k:ad,g.cell? (Addr.add aH 2)=some (.slice k.a k.len k.cap)/\∃m:ad,g.cell? (Addr.add aH 3)=some (.slice m.a m.len m.cap)/\bk g e [G,j,k,m]/\(4:Nat)=4/\ak (setCells g e 0 [G,j,k,m]) λn=>∃R:al,n.cell? e=some (.bool R)/\∃z:ad,n.cell? (Addr.add e 1)=some (.slice z.a z.len z.cap)/\∃A:ad,n.cell? (Addr.add e 2)=some (.slice A.a A.len A.cap)/\∃B:ad,n.cell? (Addr.add e 3)=some (.slice B.a B.len B.cap)/\Q (.agg #[R,z,A,B]) n)
structure ru(B:Nat->Prop)(lo:Nat)(nb aH a:Nat)(n:aG)(K V D:ad)(c:O Y)(w:J)(b aC:ad)(bY bO:Nat->Prop)(ks:O Key)(ds:O Nat):Prop where
 eU:Var w nb [n.leaf,K,V,D] 202
 r:Var w a c 202
 o:Var w aH [false,b,(),aC] 202
 k:bx bY w b ks
 d:cX bO w aC ds
 bn:∀q,bY q->(B q/\q<lo)\/(lo<=q/\q<w.heap.size/\q≠nb/\q≠aH/\q≠a/\¬bO q)
 aM:∀q,bO q->lo<=q/\q<w.heap.size/\q≠nb/\q≠aH/\q≠a
 m4:∀q,aE b q->lo<=q
theorem ru.ext{B:Nat->Prop}{lo nb aH b:Nat}{n:aG}{K V D:ad}{c:O Y}{w w':J}{e aC:ad}{bY bO:Nat->Prop}{ks:O Key}{ds:O Nat}(h:ru B lo nb aH b n K V D c w e aC bY bO ks ds)(hx:Ext w w'):ru B lo nb aH b n K V D c w' e aC bY bO ks ds:=by
 have f:=hx.size;exact⟨h.eU.ext hx,h.r.ext hx,h.o.ext hx,bx.ext h.k hx,cX.ext h.d hx,λq a=>(h.bn q a).imp id λh=>⟨h.1,I,h.2.2⟩,λq a=>⟨(h.aM q a).1,by have:=(h.aM q a).2.1;omega,(h.aM q a).2.2⟩,h.m4⟩
theorem Jk{B:Nat->Prop}{w cm:J}{nb aH x:Nat}{n:aG}{K V D s ew D0:ad}{ak:O Y}{bY bO:Nat->Prop}{ks:O Key}{kids:O Nat}{fr to:Nat}(bd:ru B w.heap.size nb aH x n K V D ak cm ew D0 bY bO (n.keys.take fr) (n.kids.take fr))(be:Ext w cm)
 (bg:bI B w n K V D) (aO:lP B w s ks kids) (bi:ak.length=4) (h1:w.heap.size<=nb) (h2:w.heap.size<=aH) (G:w.heap.size<=x) (H:nb≠aH/\nb≠x/\aH≠x) (t1:1<=to) (t2:to<=n.kids.length) (t3:to-1<=n.keys.length) (bW:n.keys.length<=1000) (bz:n.kids.length<=1000):
 zN nb aH x s (to:Nat) cm (xg B n fr to ks kids w):=by
 obtain⟨bh,bj,bZ,bk⟩:=aO.at;unfold zN;refine⟨λi w'=>∃ (j:Nat) (z aC:ad) (bY bO:Nat->Prop),i=j/\j<=kids.length/\Ext w w'/\ru B w.heap.size nb aH x n K V D ak w' z aC bY bO (n.keys.take fr++ks.take (j-1)) (n.kids.take fr++kids.take j),λi _=>((kids.length:Int)-i).toNat,⟨0,ew,D0,bY,bO,rfl,cR _,be,by simpa using bd⟩,?_⟩;rintro _ u ⟨j,z,aC,bY,bO,rfl,b0,y,h⟩;have b1:=y.size;refine⟨λaJ=>?_,λau=>?_⟩
 .have aJ:j<kids.length:=by
   have:(j:Int)<(s.len:Int):=cl aJ;omega
  obtain⟨A,t,aq,aZ,bf,av⟩:=(aO.ext y).at.2.2.2 j aJ;refine⟨A,aq,⟨I,I⟩,t,by rw[di];exact aZ,_,by rw[di];exact bf,?_⟩;have av:(t.a=none/\ks.take j=ks.take (j-1))\/(t.a.isSome=true/\∃k,bA (λq=>B q/\q<w.heap.size) u t k/\ks.take j=ks.take (j-1)++ [k]):=by
   obtain⟨b2,aP,aQ,bl,_,bm⟩:=bk j aJ;rw[aq]at aQ;cases aQ;have e:=af.cell y (λh=>h) bl;rw[aZ]at e;injection e with e
   obtain rfl:t=aP:=by
    cases t;cases aP;simp at e;simp[e]
   rcases bm with h|⟨h1,k,h2,G⟩
   .exact .inl h
   .exact .inr ⟨h1,k,bA.ext (bA.a7 h2 λq c f=>⟨f,c⟩) y,G⟩
  refine bc (vs:=[(),(0:Int)]) rfl λb4 aR bo b5=>?_;refine⟨aR.b3 rfl ?_,rfl,cp aR (us:=[t,.int .i64 ((kids[j]:Nat):Int)]) rfl rfl λay S bp b6=>?_⟩
  .intro v aS
   simp only[de,fG,fQ]at aS;rcases aS with rfl|rfl<;>trivial
  have al:Ext u ay:=Ext.cD bo bp (bt _);have m:=h.ext al;have b7:=al.size;have aT:=y.trans al;obtain⟨fb,bq⟩:∃fb,fb=u.heap.size:=⟨_,rfl⟩;rw[←bq]at S⊢;have b8:=S.lt;refine j4 (λT=>∃ (cL:ad) (am:Nat->Prop),ru B w.heap.size nb aH x n K V D ak T cL aC am bO (n.keys.take fr++ks.take j) (n.kids.take fr++kids.take j)/\Ext w T/\Var T fb [t,.int .i64 ((kids[j]:Nat):Int)] 334/\ay.heap.size<=T.heap.size) (λq c=>⟨t,S.cell,λf=>?_,λf=>?_⟩) ?_
  .rcases av with ⟨an,_⟩|⟨_,k,ht,aa⟩
   .rw[an]at f;cases f
   obtain⟨ab,L,ac,M⟩:=bP (V:=⟨none,0,0⟩) m.o;have ao:∀q,aE z q->bY q:=λq c=>by
    obtain⟨ts,_,_,G,_⟩:=m.k;exact(G q c).1
   refine⟨z,L,t,S.cell,Jj (B:=λq=>bY q\/(B q/\q<w.heap.size)) m.o (o:=1) (by simp) (bx.a7 m.k λq _ f=>.inl f) (λf=>?_) (bA.a7 (bA.ext ht al) λq _ f=>.inr f) (λq c aB=>?_) ?_ λw' aA aw ax p br=>c _ ⟨aA,Grow (λq=>bY q\/(B q/\q<w.heap.size)) ay w',?_,?_,?_,p.size⟩⟩
   .rcases f with f|f
    .rcases m.bn _ f with g|g
     .omega
     .exact g.2.2.2.1 rfl
    .omega
   .have:=(ht.2.2 q c).1.2
    have:=m.m4 q aB;omega
   .rw[cG,cz,cz];omega
   .have bs:=p.size
    have C:∀q,aE z q->q<u.heap.size/\q≠nb/\q≠aH/\q≠x/\¬bO q:=λq c=>by
     have bu:=h.m4 q c;rcases h.bn q (ao q c) with g|g
     .omega
     .exact g.2
    refine⟨m.eU.ah p λc=>?_,m.r.ah p λc=>?_,aw,?_,cX.ah m.d p λq f c=>?_,λq f=>?_,λq f=>⟨(m.aM q f).1,by have:=(m.aM q f).2.1;omega,(m.aM q f).2.2⟩,λq c=>?_⟩
    .rcases c with e|c
     .exact H.1 e
     .exact(C _ c).2.1 rfl
    .rcases c with e|c
     .exact H.2.2 e.symm
     .exact(C _ c).2.2.2.1 rfl
    .rw[aa,←cM];exact ax
    .rcases c with e|c
     .exact(m.aM q f).2.2.2.1 e
     .exact(C q c).2.2.2.2 f
    .rcases f with (f|f)|f
     .exact(m.bn q f).imp id λg=>⟨g.1,I,g.2.2⟩
     .exact .inl f
     .refine .inr ⟨I,f.2,λe=>?_,λe=>?_,λe=>?_,λhd=>?_⟩
      .have:=m.eU.lt;omega
      .have:=m.o.lt;omega
      .have:=m.r.lt;omega
      .have:=(m.aM q hd).2.1;omega
    .rcases br q c with g|g
     .exact h.m4 q g
     .omega
   .exact Ext.df aT p λq c=>by
     rcases c with rfl|c
     .exact h2
     .exact m.m4 q c
   .refine S.ah p λc=>?_
    rcases c with e|c
    .have:=h.o.lt;omega
    .rcases h.bn _ (ao _ c) with g|g<;>omega
  .rcases av with ⟨_,aa⟩|⟨an,_⟩
   .refine c _ ⟨z,bY,?_,aT,S,bt _⟩
    rw[aa];exact m
   .cases aU:t.a with
    |none=>rw[aU]at an;cases an
    |some A=>rw[aU]at f;cases f
  rintro T ⟨cL,am,l,aV,aW,b9⟩;have b_:=aW.lt;obtain⟨ab,L,ac,M⟩:=bP (V:=⟨none,0,0⟩) l.o;have E:∀q,aE aC q->bO q:=λq c=>(l.d.2 q c).1;have bv:∀q,am q->¬(q=aH\/aE aC q):=λq f c=>by
   rcases l.bn q f with g|g
   .rcases c with e|c
    .omega
    .have:=(l.aM q (E q c)).1;omega
   .rcases c with e|c
    .exact g.2.2.2.1 e
    .exact g.2.2.2.2.2 (E q c)
  have aY:IntKind.wrap .i64 ((j:Int)+1)=((j+1:Nat):Int):=by rw[bB I I];rfl
  refine⟨aC,M,_,by rw[az];exact aW.cell,(CI (W:=λ_=>True) kids[j] l.o (o:=3) (by simp) l.d (λf=>(l.aM _ f).2.2.2.1 rfl) (by rw[cG,cz,cz];omega) λw' aA aw ax p=>⟨⟨j+1,cL,aA,am,Grow bO T w',aY,I,?_,?_⟩,?_⟩).2⟩
  .exact Ext.df aV p λq c=>by
    rcases c with rfl|c
    .exact h2
    .exact(l.aM q (E q c)).1
  .have bs:=p.size
   refine⟨l.eU.ah p λc=>?_,l.r.ah p λc=>?_,aw,?_,?_,λq f=>?_,λq f=>?_,l.m4⟩
   .rcases c with e|c
    .exact H.1 e
    .exact(l.aM _ (E _ c)).2.2.1 rfl
   .rcases c with e|c
    .exact H.2.2 e.symm
    .exact(l.aM _ (E _ c)).2.2.2.2 rfl
   .exact bx.ah l.k p bv
   .rw[iy aJ,←cM];exact ax
   .refine(l.bn q f).imp id λg=>⟨g.1,I,g.2.2.1,g.2.2.2.1,g.2.2.2.2.1,λhd=>?_⟩
    rcases hd with hd|hd
    .exact g.2.2.2.2.2 hd
    .omega
   .rcases f with f|f
    .exact⟨(l.aM q f).1,by have:=(l.aM q f).2.1;omega,(l.aM q f).2.2⟩
    .refine⟨by have:=aV.size;omega,f.2,λe=>?_,λe=>?_,λe=>?_⟩
     .have:=l.eU.lt;omega
     .have:=l.o.lt;omega
     .have:=l.r.lt;omega
  .rw[aY]
   show((kids.length:Int)-((j+1:Nat):Int)).toNat<((kids.length:Int)-(j:Int)).toNat;omega
 .have au:j=kids.length:=by
   have:¬(j:Int)<(s.len:Int):=cw au;omega
  subst au;have a0:Ext u u.drew:=cE _;have h:=h.ext a0;have y:=y.trans a0;have aa:ks.take (kids.length-1)=ks:=dr I;rw[aa,h4]at h;obtain⟨ab,L,ac,M⟩:=bP (V:=⟨none,0,0⟩) h.o;obtain⟨k5,hE,eB,a1⟩:=bP h.eU;have a2:bI (λq=>B q/\q<w.heap.size) w n K V D:=bg.a7 λq c f=>⟨f,c⟩;have aD:=a2.ext y;have a3:=bw.len aD.keys;have a4:=cZ.len aD.kids;have a5:IntKind.wrap .i64 ((to:Int)-1)=((to-1:Nat):Int):=by rw[bB I I];omega
  have ao:∀q,aE z q->bY q:=λq c=>by
   obtain⟨ts,_,_,G,_⟩:=h.k;exact(G q c).1
  have E:∀q,aE aC q->bO q:=λq c=>(h.d.2 q c).1;have a6:=bw.sub aD.keys (lo:=to-1) (hi:=n.keys.length) t3 (bt _);have bC:(n.keys.drop (to-1)).take (n.keys.length-(to-1))=n.keys.drop (to-1):=dr (by rw[dw];exact bt _);rw[bC]at a6;obtain⟨N,ae,bD,bE,U⟩:=zp h.k a6 (λq c aB=>by have:=h.m4 q aB;omega) (by rw[cG,cz];omega) (by rw[dw];omega);have ca:u.drew.heap.size=u.heap.size:=rfl;have C:∀q,aE z q->q<u.drew.heap.size/\q≠nb/\q≠aH/\q≠x/\¬bO q:=λq c=>by
   have bu:=h.m4 q c;rcases h.bn q (ao q c) with g|g
   .omega
   .exact g.2
  have cb:=U.size;have bF:Ext w ae:=Ext.df y U λq c=>h.m4 q c;have a8:=h.o.ah U λc=>(C _ c).2.2.1 rfl;have bG:=h.eU.ah U λc=>(C _ c).2.1 rfl;have bH:=h.r.ah U λc=>(C _ c).2.2.2.1 rfl;have bJ:cX bO ae aC _:=cX.ah h.d U λq f c=>(C q c).2.2.2.2 f;obtain⟨cc,cn⟩:=eP a8 (i:=1) (by simp);refine aX ⟨id,z,L,id,K,hE,?_,N,ae,?_,by rw[az];exact cc,by rw[az];exact cn,?_⟩
  .rw[a5,a3];omega
  .rw[a5,di,a3];exact bD
  rw[az,cF];have P:=ek ae aH 1 N;have ag:=eO a8 (i:=1) N;obtain⟨F,bK⟩:∃F,F=ae.setCell ⟨aH,1,none⟩ N:=⟨_,rfl⟩;rw[←bK]at P ag⊢;have cd:=P.size;have aF:=bG.ah P (λe=>H.1 e);have aI:=bH.ah P (λe=>H.2.2 e.symm);have aK:cX bO F aC _:=cX.ah bJ P λq f e=>(h.aM q f).2.2.2.1 e;have ai:Ext w F:=Ext.cD bF P h2;have X:Ext F F.drew:=cE _;have a9:∀q,(bY q\/(B q/\q<w.heap.size)\/u.drew.heap.size<=q)->q≠aH:=λq c e=>by
   subst e;rcases c with c|c|c
   .rcases h.bn _ c with g|g
    .omega
    .exact g.2.2.2.1 rfl
   .omega
   .have:=h.o.lt;omega
  have bL:=bw.ext (bw.ah bE P a9) X;have ag:=ag.ext X;have aF:=aF.ext X;have aI:=aI.ext X;have aK:=cX.ext aK X;have ai:=ai.trans X;obtain⟨ab,L,ac,M⟩:=bP (V:=⟨none,0,0⟩) ag;obtain⟨k5,hE,eB,a1⟩:=bP aF;have a_:=cZ.sub (a2.ext ai).kids (lo:=to) (hi:=n.kids.length) t2 (bt _);have bM:(n.kids.drop to).take (n.kids.length-to)=n.kids.drop to:=dr (by rw[dw];exact bt _);rw[bM]at a_;obtain⟨R,ap,f1,f2,f3⟩:=CR aK a_ (by rw[cG,cz];omega) (by rw[dw];omega);have ce:F.drew.heap.size=F.heap.size:=rfl;have cf:=f3.size;have ar:∀q,aE aC q->w.heap.size<=q/\q<u.drew.heap.size/\q≠nb/\q≠aH/\q≠x:=λq c=>h.aM q (E q c);have bN:Ext w ap:=Ext.df ai f3 λq c=>(ar q c).1;have ba:=ag.ah f3 λc=>(ar _ c).2.2.2.1 rfl;have bQ:=aI.ah f3 λc=>(ar _ c).2.2.2.2 rfl;have bR:=bw.ah bL f3 λq f c=>by
   have cg:=ar q c;rcases f with f|f|f
   .rcases h.bn q f with g|g
    .omega
    .exact g.2.2.2.2.2 (E q c)
   .omega
   .omega
  obtain⟨cc,cn⟩:=eP ba (i:=3) (by simp);refine aX (aX ⟨id,aC,M,id,D,a1,?_,R,ap,?_,by rw[az];exact cc,by rw[az];exact cn,?_⟩)
  .rw[a4];omega
  .rw[di,a4];exact f1
  rw[az,cF];have Z:=ek ap aH 3 R;have bb:=eO ba (i:=3) R;obtain⟨aL,bS⟩:∃aL,aL=ap.setCell ⟨aH,3,none⟩ R:=⟨_,rfl⟩;rw[←bS]at Z bb⊢;have ch:=Z.size;have bT:=bQ.ah Z (λe=>H.2.2 e.symm);have bU:Ext w aL:=Ext.cD bN Z h2;have bV:=bw.ah bR Z a9;have bX:=cZ.ah f2 Z λq f e=>by
   subst e;rcases f with f|f|f
   .exact(h.aM _ f).2.2.2.1 rfl
   .omega
   .have:=h.o.lt;omega
  obtain⟨ab,L,ac,M⟩:=bP (V:=⟨none,0,0⟩) bb;refine aX ⟨_,ab,N,L,⟨none,0,0⟩,ac,R,M,?_⟩;refine jt false N ⟨none,0,0⟩ R bT bi (Q:=λb K V D aj=>xg B n fr to ks kids w (.agg #[b,K,V,D]) aj) λci aN=>?_;refine⟨N,⟨none,0,0⟩,R,rfl,⟨?_,?_,?_⟩,Ext.cD bU aN G⟩
  .refine bw.a7 (bw.ah bV aN λq f e=>?_) λq _ f=>?_
   .subst e
    rcases f with f|f|f
    .rcases h.bn _ f with g|g
     .omega
     .exact g.2.2.2.2.1 rfl
    .omega
    .have:=h.r.lt;omega
   .rcases f with f|f|f
    .rcases h.bn _ f with g|g
     .exact .inl g.1
     .exact .inr g.1
    .exact .inl f.1
    .have:=y.size;exact .inr I
  .exact bw.none _ _
  .refine cZ.a7 (cZ.ah bX aN λq f e=>?_) λq _ f=>?_
   .subst e
    rcases f with f|f|f
    .exact(h.aM _ f).2.2.2.2 rfl
    .omega
    .have:=h.r.lt;omega
   .rcases f with f|f|f
    .exact .inr (h.aM _ f).1
    .exact .inl f.1
    .have:=ai.size;exact .inr I
theorem zO(K D:ad)(w:J):Sem.run ai (Instr.build 202 #[(1,K),(3,D)]) w=.ok (.agg #[false,K,(),D]) w:=by kernel_rfl
theorem qN{B:Nat->Prop}{w:J}{n:aG}{K V D s:ad}{ks:O Key}{kids:O Nat}{fr to:Nat}(Q:bI B w n K V D)(al:lP B w s ks kids)(f1:fr<=n.keys.length)(f2:fr<=n.kids.length)(t1:1<=to)(t2:to<=n.kids.length)(t3:to-1<=n.keys.length)(bW:n.keys.length<=1000)(bz:n.kids.length<=1000):
 aK ai 250 #[c9 n K V D,.int .i64 (fr:Nat),.int .i64 (to:Nat),.slice s.a s.len s.cap] w (xg B n fr to ks kids w):=by
 refine okF (ae.qN n.leaf K V D (fr:Nat) (to:Nat) s) ay.qN func250 ?_;(delta ae.qN cU aa r1 bK ku an aM aF BQ uT st ar aY uV;dsimp only);refine bc (vs:=[.bool n.leaf,.slice K.a K.len K.cap,.slice V.a V.len V.cap,.slice D.a D.len D.cap]) rfl λw1 am ao aB=>?_;refine bc (vs:=[.bool false,.slice none 0 0,.slice none 0 0,.slice none 0 0]) rfl λaj ap R aC=>aX ?_;have F:Ext aj aj.drew:=cE _;have L:=(ao.trans R).trans F;obtain⟨f,S⟩:∃f,f=aj.drew:=⟨_,rfl⟩;have aD:f.heap.size=aj.heap.size:=by rw[S];rfl
 rw[←S]at L F⊢;have T:=(am.ext R).ext F;have aq:=ap.ext F;obtain⟨b6,aZ,bf,bq⟩:=bP T;have u:bI (λq=>B q/\q<w.heap.size) f n K V D:=(Q.a7 λq c d=>⟨d,c⟩).ext L;have aI:=bw.len u.keys;have aL:=cZ.len u.kids;have aN:=bw.le u.keys;have aO:=u.kids.2.1;have M:=bw.sub u.keys (lo:=0) (hi:=fr) (cR _) f1;have G:=cZ.sub u.kids (lo:=0) (hi:=fr) (cR _) f2;rw[iN,nk]at M G;have U:Int.toNat ((fr:Nat):Int)-0=fr:=by rw[di];rfl
 have fin:∀ (cm:J) (aH:Nat) (ew D0:ad),Ext f cm->Var cm aH [.bool false,.slice ew.a ew.len ew.cap,.slice none 0 0,.slice D0.a D0.len D0.cap] 202->f.heap.size<=aH->bx (λq=>(B q/\q<w.heap.size)\/(f.heap.size<=q/\aE ew q)) cm ew (n.keys.take fr)->aT 1 3 cm D0 (gl (n.kids.take fr))->
  (∀q,aE ew q->f.heap.size<=q/\q≠aH)->(∀q,aE D0 q->f.heap.size<=q/\q≠aH/\¬aE ew q)->zN w.heap.size aH w1.heap.size s (to:Nat) cm (xg B n fr to ks kids w):=by
  intro cm aH ew D0 hx au aP W N X Y;have aQ:=hx.size;have aJ:∀q,aE ew q->q<cm.heap.size:=λq c=>by
   obtain⟨ts,_,p,_,_⟩:=W;exact p.lt q c
  refine Jk (bY:=λq=>(B q/\q<w.heap.size)\/aE ew q) (bO:=λq=>aE D0 q) ⟨T.ext hx,aq.ext hx,au,bx.a7 W λq _ d=>d.imp id λh=>h.2,⟨N,λq c=>⟨c,aT.lt N q c⟩⟩,λq d=>?_,λq d=>?_,λq c=>by have:=(X q c).1;omega⟩ (L.trans hx) Q al rfl (bt _) I I ⟨I,I,I⟩ t1 t2 t3 bW bz
  .rcases d with d|d
   .exact .inl d
   .have y:=X q d
    exact .inr ⟨I,aJ q d,I,y.2,I,λav=>(Y q av).2.2 d⟩
  .have y:=Y q d
   exact⟨I,aT.lt N q d,I,y.2.1,I⟩
 refine⟨λ_=>False,id,K,aZ,⟨I,I⟩,id,D,bq,⟨I,I⟩,?_,?_⟩
 .rw[U]
  refine(DJ M (by rw[cz];omega)).use ?_;rintro _ v ⟨ew,rfl,r,g,z⟩;have aw:=g.size;refine⟨ew,rfl,g,?_,?_⟩
  .refine(td (G.1.ext g) (by rw[cz];omega)).use ?_
   rintro _ Z ⟨D0,rfl,x,H,ab⟩;have aR:=H.size;refine⟨D0,rfl,H,_,zO ew D0,bc (vs:=[.bool false,.slice none 0 0,.slice none 0 0,.slice none 0 0]) rfl λaS ac af aU=>⟨af,ac.b3 rfl (fZ (b:=false) (K:=ew) (V:=⟨none,0,0⟩) (D:=D0)),rfl,cp ac (us:=[.bool false,.slice ew.a ew.len ew.cap,.slice none 0 0,.slice D0.a D0.len D0.cap]) rfl rfl λi A k ag=>?_⟩⟩;have l:Ext Z i:=Ext.cD af k (bt _);have t:∀q,aE ew q->q<v.heap.size:=λq c=>by
    obtain⟨ts,_,p,_,_⟩:=r;exact p.lt q c
   exact fin i Z.heap.size ew D0 (g.trans (H.trans l)) A I (bx.a7 (bx.ext r (H.trans l)) λq _ d=>d.imp (λh=>h.1) id) (x.ext l) (λq c=>⟨z q c,by have:=t q c;omega⟩) λq c=>⟨by have:=ab q c;omega,by have:=aT.lt x q c;omega,λh=>by have:=t q h;have:=ab q c;omega⟩
  .refine bc (vs:=[.bool false,.slice none 0 0,.slice none 0 0,.slice none 0 0]) rfl λak P m ax=>⟨m,(td ((G.1.ext g).ext m) (by rw[cz];omega)).use ?_⟩
   rintro _ az ⟨D0,rfl,x,o,j⟩;have E:=P.ext o;refine⟨D0,rfl,o,_,zO ew D0,E.b3 rfl (fZ (b:=false) (K:=ew) (V:=⟨none,0,0⟩) (D:=D0)),rfl,cp E (us:=[.bool false,.slice ew.a ew.len ew.cap,.slice none 0 0,.slice D0.a D0.len D0.cap]) rfl rfl λi A k ag=>?_⟩;have l:Ext v i:=Ext.cD (m.trans o) k (bt _);have t:∀q,aE ew q->q<v.heap.size:=λq c=>by
    obtain⟨ts,_,p,_,_⟩:=r;exact p.lt q c
   exact fin i v.heap.size ew D0 (g.trans l) A I (bx.a7 (bx.ext r l) λq _ d=>d.imp (λh=>h.1) id) (x.ah k λq c e=>by have:=j q c;omega) (λq c=>⟨z q c,by have:=t q c;omega⟩) λq c=>⟨by have:=j q c;omega,by have:=j q c;omega,λh=>by have:=t q h;have:=j q c;omega⟩
 .rw[U]
  refine bc (vs:=[.bool false,.slice none 0 0,.slice none 0 0,.slice none 0 0]) rfl λak P m ax=>⟨m,(DJ (bw.ext M m) (by rw[cz];omega)).use ?_⟩;rintro _ v ⟨ew,rfl,r,g,z⟩;have aw:=g.size;refine⟨ew,rfl,g,(td ((G.1.ext m).ext g) (by rw[cz];omega)).use ?_⟩;rintro _ az ⟨D0,rfl,x,o,j⟩;have E:=(P.ext g).ext o;refine⟨D0,rfl,o,_,zO ew D0,E.b3 rfl (fZ (b:=false) (K:=ew) (V:=⟨none,0,0⟩) (D:=D0)),rfl,cp E (us:=[.bool false,.slice ew.a ew.len ew.cap,.slice none 0 0,.slice D0.a D0.len D0.cap]) rfl rfl λi A k ag=>?_⟩;have l:Ext f i:=Ext.cD ((m.trans g).trans o) k (bt _);have t:∀q,aE ew q->q<v.heap.size:=λq c=>by
   obtain⟨ts,_,p,_,_⟩:=r;exact p.lt q c
  have aA:bx (λq=>(B q/\q<w.heap.size)\/(f.heap.size<=q/\aE ew q)) i ew (n.keys.take fr):=by
   have y:=bx.a7 (C:=λq=>(B q/\q<w.heap.size)\/(ak.heap.size<=q/\aE ew q)) (bx.ext r o) λq _ d=>d.imp (λh=>h.1) id;exact bx.a7 (bx.ah y k λq d e=>by rcases d with d|d<;>omega) λq _ d=>d.imp id λh=>⟨I,h.2⟩
  exact fin i f.heap.size ew D0 l A (bt _) aA (x.ah k λq c e=>by have:=j q c;omega) (λq c=>⟨by have:=z q c;omega,by have:=z q c;omega⟩) λq c=>⟨by have:=j q c;omega,by have:=j q c;omega,λh=>by have:=t q h;have:=j q c;omega⟩
def mg(n:aG):Prop:=cQ n/\bN n<=400/\(232<bN n->1<=ct n/\(if n.leaf then ct n<=n.keys.length-1/\1<=n.keys.length-1 else ct n<=n.keys.length-2/\1<=n.keys.length-2)/\bN (n.left (ct n))<=232/\bN (n.right (ct n))<=232)
structure mh(B:Nat->Prop)(w:J)(A:ag)(u:dO):Prop where
 aZ:w.cell? (A.add 1)=some (.bool u.n.leaf)
 bf:w.cell? ((A.add 1).add 1)=some (.slice u.K.a u.K.len u.K.cap)
 bq:w.cell? ((A.add 1).add 2)=some (.slice u.V.a u.V.len u.V.cap)
 fB:w.cell? ((A.add 1).add 3)=some (.slice u.D.a u.D.len u.D.cap)
 c6:w.cell? (A.add 5)=some (.int .i64 (u.c4:Nat))
 ck:bI B w u.n u.K u.V u.D
 bM:B A.block
 lt:A.block<w.heap.size
theorem mh.ext{B:Nat->Prop}{w w':J}{A:ag}{u:dO}(h:mh B w A u)(hx:Ext w w'):mh B w' A u:=
 ⟨af.cell hx (λh=>h) h.aZ,af.cell hx (λh=>h) h.bf,af.cell hx (λh=>h) h.bq,af.cell hx (λh=>h) h.fB,af.cell hx (λh=>h) h.c6,h.ck.ext hx,h.bM,fP h.lt hx.size⟩
theorem mh.to{w w':J}{T au:aQ}{k:Nat}{A:ag}{u:dO}(h:mh (λq=>¬T.M q) w A u)(ht:b4 T au w w' k):mh (λq=>¬au.M q) w' A u:=by
 have hc:=ht.ah;have a:¬T.N A.block:=λc=>h.bM (aQ.gZ c);refine⟨af.cell hc (A:=A.add 1) a h.aZ,af.cell hc (A:=(A.add 1).add 1) a h.bf,af.cell hc (A:=(A.add 1).add 2) a h.bq,af.cell hc (A:=(A.add 1).add 3) a h.fB,af.cell hc (A:=A.add 5) a h.c6,?_,λd=>?_,fP h.lt hc.size⟩
 .have h1:=ht.ck (lo:=0) (h.ck.a7 λq _ b=>⟨cR _,b⟩)
  exact h1.a7 λq _ b=>b.2
 .rcases ht.c7 _ d with h1|h1
  .exact h.bM h1
  .have:=h.lt;omega
theorem iq.base{T:aQ}{c:dS}{n:aG}{w0 w w':J}{v:Y}(h:iq T c n w v w')(hx:Ext w0 w):iq T c n w0 v w':=by
 obtain⟨au,c',m,s,aw,ax,a,b⟩:=h;exact⟨au,c',m,s,aw,((dC.ext T c hx).trans ax).mono I,a,b⟩
theorem iq.out{T:aQ}{c:dS}{n:aG}{w w':J}{v:Y}(h:iq T c n w v w'):∃ (s:ad) (e:Int),v=.tuple #[s,e]:=by
 obtain⟨au,c',m,s,aw,ax,b,a⟩:=h;rcases a with ⟨ks,rfl,_⟩|⟨rfl,_⟩
 .exact⟨s,0,rfl⟩
 .exact⟨s,3,rfl⟩
def zP(nb aH g bv:Nat)(c up:av ag)(n31 n36:Int)(cm:J)(Q:Y->J->Prop):Prop:=
 bH (λac:J->Prop=>∃ae:ag,up=some ae/\∃D:Int,cm.cell? (ae.add 5)=some (.int .i64 D)/\((decide ((n36:Int)>D))=true->ak (cm.drew) λd=>∃E:Nat->Prop,¬E (nb:ag).block/\∃F:al,d.cell? nb=some (.bool F)/\∃j:ad,d.cell? (Addr.add nb 1)=some (.slice j.a j.len j.cap)/\∃k:ad,d.cell? (Addr.add nb 2)=some (.slice k.a k.len k.cap)/\∃l:ad,d.cell? (Addr.add nb 3)=some (.slice l.a l.len l.cap)/\¬E (aH:ag).block/\∃G:al,d.cell? aH=some (.bool G)/\∃m:ad,d.cell? (Addr.add aH 1)=some (.slice m.a m.len m.cap)/\∃n:ad,d.cell? (Addr.add aH 2)=some (.slice n.a n.len n.cap)/\∃o:ad,d.cell? (Addr.add aH 3)=some (.slice o.a o.len o.cap)/\bk d g [F,j,k,l]/\(4:Nat)=4/\ak (setCells d g 0 [F,j,k,l]) λH=>af E d H/\bk H bv [G,m,n,o]/\(4:Nat)=4/\ak (setCells H bv 0 [G,m,n,o]) λaq=>ac aq)/\((decide ((n36:Int)>D))=false->ac cm)) (λ(ar:J)=>ak (ar.drew) λb=>∃f:Nat->Prop,¬f (g:ag).block/\∃I:al,b.cell? g=some (.bool I)/\∃p:ad,b.cell? (Addr.add g 1)=some (.slice p.a p.len p.cap)/\∃q:ad,b.cell? (Addr.add g 2)=some (.slice q.a q.len q.cap)/\∃r:ad,b.cell? (Addr.add g 3)=some (.slice r.a r.len r.cap)/\∃K:ag,up=some K/\¬f ((K.add 1).add 1).block/\∃s:ad,b.cell? ((K.add 1).add 1)=some (.slice s.a s.len s.cap)/\∃L:ag,s.a=some L/\((0:Int)<=n31/\n31<(s.len:Int))/\¬f (L.add (Int.toNat n31*1)).block/\∃t:ad,b.cell? (L.add (Int.toNat n31*1))=some (.slice t.a t.len t.cap)/\¬f (bv:ag).block/\∃M:al,b.cell? bv=some (.bool M)/\∃u:ad,b.cell? (Addr.add bv 1)=some (.slice u.a u.len u.cap)/\∃v:ad,b.cell? (Addr.add bv 2)=some (.slice v.a v.len v.cap)/\∃w:ad,b.cell? (Addr.add bv 3)=some (.slice w.a w.len w.cap)/\(Calls ai 282 #[.agg #[I,p,q,r],t,.agg #[M,u,v,w]] b λau e=>∃N:al,∃O:ad,∃P:ad,∃R:ad,∃S:al,au=.returned (.tuple #[.agg #[N,O,P,R],S])/\af f b e/\ak (e.alloc (.cells #[false,(),(),()] 202)) λT=>af f e T/\bk T e.heap.size [N,O,P,R]/\(4:Nat)=4/\ak (setCells T e.heap.size 0 [N,O,P,R]) λh=>((!S)=true->Q (.tuple #[(),(0:Int),(0:Int),(4:Int)]) h)/\((!S)=false->∃ah:al,h.cell? e.heap.size=some (.bool ah)/\∃x:ad,h.cell? (Addr.add e.heap.size 1)=some (.slice x.a x.len x.cap)/\∃y:ad,h.cell? (Addr.add e.heap.size 2)=some (.slice y.a y.len y.cap)/\∃z:ad,h.cell? (Addr.add e.heap.size 3)=some (.slice z.a z.len z.cap)/\Calls ai 281 #[.pointer c,.agg #[ah,x,y,z]] h λaw ax=>∃aj:ad,∃am:Int,aw=.returned (.tuple #[aj,am])/\Q (.tuple #[aj,n31,.int .i64 (IntKind.wrap .i64 (n31+2)),am]) ax))/\(ak (b.alloc (.cells #[false,(),(),()] 202)) λU=>af f b U/\Calls ai 282 #[.agg #[I,p,q,r],t,.agg #[M,u,v,w]] U λay V=>∃W:al,∃X:ad,∃Z:ad,∃aa:ad,∃ab:al,ay=.returned (.tuple #[.agg #[W,X,Z,aa],ab])/\af f U V/\bk V b.heap.size [W,X,Z,aa]/\(4:Nat)=4/\ak (setCells V b.heap.size 0 [W,X,Z,aa]) λi=>((!ab)=true->Q (.tuple #[(),(0:Int),(0:Int),(4:Int)]) i)/\((!ab)=false->∃an:al,i.cell? b.heap.size=some (.bool an)/\∃A:ad,i.cell? (Addr.add b.heap.size 1)=some (.slice A.a A.len A.cap)/\∃B:ad,i.cell? (Addr.add b.heap.size 2)=some (.slice B.a B.len B.cap)/\∃C:ad,i.cell? (Addr.add b.heap.size 3)=some (.slice C.a C.len C.cap)/\Calls ai 281 #[.pointer c,.agg #[an,A,B,C]] i λaz aA=>∃ao:ad,∃ap:Int,az=.returned (.tuple #[ao,ap])/\Q (.tuple #[ao,n31,.int .i64 (IntKind.wrap .i64 (n31+2)),ap]) aA)))
theorem Jl{W X:Nat->Prop}{w0 cm:J}{T:aQ}{c:dS}{nb aH g bv:Nat}{A:ag}{u:dO}{n o:aG}{K V D i j k:ad}{fr other:Nat}{Q:Y->J->Prop}(h:dB w0 T c)(hx:Ext w0 cm)(an:Var w0 nb (ep n K V D) 202)(ao:Var w0 aH (ep o i j k) 202)
 (ap:Var cm g (ep o i j k) 202) (aq:Var cm bv (ep n K V D) 202) (h1:w0.heap.size<=g) (h2:w0.heap.size<=bv) (ar:g≠bv) (au:bI W w0 n K V D) (av:bI X w0 o i j k) (hu:mh (λq=>¬T.M q) w0 A u)
 (aw:T.C.D.aV<=900000090) (ax:2<=cv T) (ay:c.made.length<=900) (Z:cQ n) (aa:cQ o) (bp:bN n<=400) (bq:bN o<=400) (az:o.leaf=n.leaf) (aU:fr<u.n.keys.length) (aA:cI u.n.keys[fr]) (m:aG) (aB:m=if u.c4<other then ee n u.n.keys[fr] o else ee o u.n.keys[fr] n) (l:mg m) (br:fr<=1000)
 (aC:∀ (s:ad) (e:Int) (w':J),iq T c m w0 (.tuple #[.slice s.a s.len s.cap,.int .i64 e]) w'->Q (.tuple #[.slice s.a s.len s.cap,.int .i64 (fr:Nat),.int .i64 ((fr+2:Nat):Int),.int .i64 e]) w'):
 zP nb aH g bv (some ⟨c.cb,0,none⟩) (some A) (fr:Nat) (other:Nat) cm Q:=by
 have bs:=an.lt;have bu:=ao.lt;have bx:=hx.size;have fn:=Z.eL I;have bA:=aa.eL I;unfold zP;refine j4 (λp=>∃ (a b:aG) (G H L N O P:ad) (aD aE:Nat->Prop),Ext w0 p/\Var p g (ep a G H L) 202/\Var p bv (ep b N O P) 202/\bI aD w0 a G H L/\bI aE w0 b N O P/\m=ee a u.n.keys[fr] b/\cQ a/\cQ b/\a.leaf=b.leaf/\a.keys.length<=200/\b.keys.length<=200)
  (λq r=>⟨A,rfl,_,(hu.ext hx).c6,λd=>?_,λd=>r _ ⟨o,n,i,j,k,K,V,D,X,W,hx,ap,aq,av,au,?_,aa,Z,az,I,I⟩⟩) ?_
 .have d:u.c4<other:=by
   have:((other:Nat):Int)>((u.c4:Nat):Int):=cl d;omega
  have f:=hx.trans (cE cm);obtain⟨aW,bW,bz,aY⟩:=bP (an.ext f);obtain⟨aZ,a4,a5,a6⟩:=bP (ao.ext f);have aF:=ap.drew;have a7:=aq.drew;refine aX ⟨λq=>q=g,(show nb≠g from I),_,aW,K,bW,V,bz,D,aY,(show aH≠g from I),_,aZ,i,a4,j,a5,k,a6,aF.b3 rfl fZ,rfl,cp aF (us:=ep n K V D) rfl rfl λbC a8 ab bD=>?_⟩;have aI:=a7.ah ab (λe=>ar e.symm);refine⟨ab,aI.b3 rfl fZ,rfl,cp aI (us:=ep o i j k) rfl rfl λbE a9 aJ bF=>?_⟩;exact r _ ⟨n,o,K,V,D,i,j,k,W,X,Ext.cD (Ext.cD f ab h1) aJ h2,a8.ah aJ ar,a9,au,av,by rw[aB,if_pos d],Z,aa,az.symm,I,I⟩
 .have d:¬u.c4<other:=by
   have:¬((other:Nat):Int)>((u.c4:Nat):Int):=cw d;omega
  rw[aB,if_neg d]
 rintro p ⟨a,b,G,H,L,N,O,P,aD,aE,a_,ba,d,aK,aL,ac,sa,sb,aM,la,lb⟩;have f:=a_.trans (cE p);have bb:=ba.drew;have bd:=d.drew;obtain⟨a0,a1,a2,a3⟩:=bP bb;obtain⟨be,cr,bX,bg⟩:=bP bd;have aN:=hu.ext f;obtain⟨bh,tk,bi,bj,bk,R,bG⟩:=bw.at aN.ck.keys aU;have aO:cQ (ee a u.n.keys[fr] b):=by rw[←ac];exact l.1
 have B:=pd (aK.ext f) (aL.ext f) R.1 (λq r=>(R.2.2 q r).2) (by have:=aA.2;omega) sa sb aM aO I I;rw[←ac]at B;have aP:IntKind.wrap .i64 (((fr:Nat):Int)+2)=((fr+2:Nat):Int):=by rw[bB I I];rfl
 obtain⟨wd,bH⟩:∃wd,wd=p.drew:=⟨_,rfl⟩;refine aX ⟨λ_=>False,id,_,a0,G,a1,H,a2,L,a3,A,rfl,id,u.K,aN.bf,bh,bi,bj,id,tk,bk,id,_,be,N,cr,O,bX,P,bg,?_,?_⟩
 .refine B.use ?_
  rintro _ bl ⟨t,w,x,rfl,ae,y⟩;refine⟨_,t,w,x,true,rfl,y,bc (vs:=[.bool false,.slice none 0 0,.slice none 0 0,.slice none 0 0]) rfl λbJ aR aS bK=>⟨aS,aR.b3 rfl fZ,rfl,cp aR (us:=ep m t w x) rfl rfl λaf ai S bm=>⟨λd=>(by cases d),λ_=>?_⟩⟩⟩;have U:Ext bl af:=Ext.cD aS S (bt _);have E:=(f.trans y).trans U;obtain⟨aj,ak,al,am⟩:=bP ai;refine⟨_,aj,t,ak,w,al,x,am,(xf (h.ext E) aw ax ay (ae.ext U) l.1 l.2.1 l.2.2).use ?_⟩;intro v w' F;obtain⟨s,e,rfl⟩:=F.out;rw[aP];exact⟨s,e,rfl,aC s e w' (F.base E)⟩
 .refine bc (vs:=[.bool false,.slice none 0 0,.slice none 0 0,.slice none 0 0]) rfl λbL bn z bM=>⟨z,?_⟩
  have B:=pd ((aK.ext f).ext z) ((aL.ext f).ext z) (R.1.ext z) (λq r=>fP (R.2.2 q r).2 z.size) (by have:=aA.2;omega) sa sb aM aO I I;rw[←ac]at B;refine B.use ?_;rintro _ bO ⟨t,w,x,rfl,ae,y⟩;have aT:=bn.ext y;refine⟨_,t,w,x,true,rfl,y,aT.b3 rfl fZ,rfl,cp aT (us:=ep m t w x) rfl rfl λaf ai S bm=>⟨λd=>(by cases d),λ_=>?_⟩⟩;have U:Ext p.drew af:=Ext.cD (z.trans y) S (bt _);have E:=f.trans U;have bo:=bI.ah ae S λq r e=>by omega
  obtain⟨aj,ak,al,am⟩:=bP ai;refine⟨_,aj,t,ak,w,al,x,am,(xf (h.ext E) aw ax ay bo l.1 l.2.1 l.2.2).use ?_⟩;intro v w' F;obtain⟨s,e,rfl⟩:=F.out;rw[aP];exact⟨s,e,rfl,aC s e w' (F.base E)⟩
theorem dC.leave{T:aQ}{c c':dS}{E G:Nat->Prop}{w w':J}{no:Nat}(h:b4 T (T.cH E G) w w' 0)(a:E=T.E)(b:∀q,T.G q->G q)(h1:c'.cb=c.cb)(h2:c'.made=c.made)(d:c'.left=c.left++ [no]):dC T (T.cH E G) c c' [] [no] w w' 0:=
 ⟨h,a,b,rfl,rfl,h1,by rw[h2,fl],d,List.nodup_nil,λ_ h=>(by cases h),λno=>by simp[aQ.cH],λ_ _=>⟨rfl,rfl⟩,by simp[cv,aQ.cH]⟩
def zQ(nb aH:Nat)(c up:av ag)(n31 n36 n41 aG:Int)(cm:J)(Q:Y->J->Prop):Prop:=
 (((aG:Int) !=0)=true->Q (.tuple #[(),(0:Int),(0:Int),aG]) cm)/\(((aG:Int) !=0)=false->∃bu:ag,c=some bu/\∃am:ad,cm.cell? (bu.add 2)=some (.slice am.a am.len am.cap)/\ak (cm.alloc (.cells #[n41] 3)) λbO=>∃bv:ad,∃an:J,Sem.run ai (Builtin.append_ #[58,58] 58 #[am,.slice (some cm.heap.size) 1 1]) bO=.ok bv an/\∃ao:ag,c=some ao/\(∃u:Y,an.cell? (ao.add 2)=some u)/\an.frozen? (ao.add 2)=false/\ak (an.setCell (ao.add 2) bv) λbP=>ak (bP.drew) λb=>∃l:Nat->Prop,¬l (aH:ag).block/\∃z:al,b.cell? aH=some (.bool z)/\∃o:ad,b.cell? (Addr.add aH 1)=some (.slice o.a o.len o.cap)/\∃p:ad,b.cell? (Addr.add aH 2)=some (.slice p.a p.len p.cap)/\∃q:ad,b.cell? (Addr.add aH 3)=some (.slice q.a q.len q.cap)/\¬l (nb:ag).block/\∃A:al,b.cell? nb=some (.bool A)/\∃r:ad,b.cell? (Addr.add nb 1)=some (.slice r.a r.len r.cap)/\∃s:ad,b.cell? (Addr.add nb 2)=some (.slice s.a s.len s.cap)/\∃t:ad,b.cell? (Addr.add nb 3)=some (.slice t.a t.len t.cap)/\(ak (b.alloc (.cells #[false,(),(),()] 202)) λf=>af l b f/\ak (f.alloc (.cells #[false,(),(),()] 202)) λap=>af l f ap/\bk ap b.heap.size [z,o,p,q]/\(4:Nat)=4/\ak (setCells ap b.heap.size 0 [z,o,p,q]) λaI=>af l ap aI/\bk aI f.heap.size [A,r,s,t]/\(4:Nat)=4/\ak (setCells aI f.heap.size 0 [A,r,s,t]) λaJ=>bH (λbw:J->Prop=>∃bx:ag,up=some bx/\∃aK:Int,aJ.cell? (bx.add 5)=some (.int .i64 aK)/\((decide ((n36:Int)>aK))=true->ak (aJ.drew) λh=>∃aL:Nat->Prop,¬aL (nb:ag).block/\∃aM:al,h.cell? nb=some (.bool aM)/\∃B:ad,h.cell? (Addr.add nb 1)=some (.slice B.a B.len B.cap)/\∃C:ad,h.cell? (Addr.add nb 2)=some (.slice C.a C.len C.cap)/\∃D:ad,h.cell? (Addr.add nb 3)=some (.slice D.a D.len D.cap)/\¬aL (aH:ag).block/\∃aN:al,h.cell? aH=some (.bool aN)/\∃E:ad,h.cell? (Addr.add aH 1)=some (.slice E.a E.len E.cap)/\∃F:ad,h.cell? (Addr.add aH 2)=some (.slice F.a F.len F.cap)/\∃G:ad,h.cell? (Addr.add aH 3)=some (.slice G.a G.len G.cap)/\bk h b.heap.size [aM,B,C,D]/\(4:Nat)=4/\ak (setCells h b.heap.size 0 [aM,B,C,D]) λaO=>af aL h aO/\bk aO f.heap.size [aN,E,F,G]/\(4:Nat)=4/\ak (setCells aO f.heap.size 0 [aN,E,F,G]) λbQ=>bw bQ)/\((decide ((n36:Int)>aK))=false->bw aJ)) (λ(bR:J)=>ak (bR.drew) λd=>∃m:Nat->Prop,¬m (b.heap.size:ag).block/\∃aP:al,d.cell? b.heap.size=some (.bool aP)/\∃H:ad,d.cell? (Addr.add b.heap.size 1)=some (.slice H.a H.len H.cap)/\∃I:ad,d.cell? (Addr.add b.heap.size 2)=some (.slice I.a I.len I.cap)/\∃K:ad,d.cell? (Addr.add b.heap.size 3)=some (.slice K.a K.len K.cap)/\∃aQ:ag,up=some aQ/\¬m ((aQ.add 1).add 1).block/\∃L:ad,d.cell? ((aQ.add 1).add 1)=some (.slice L.a L.len L.cap)/\∃aR:ag,L.a=some aR/\((0:Int)<=n31/\n31<(L.len:Int))/\¬m (aR.add (Int.toNat n31*1)).block/\∃M:ad,d.cell? (aR.add (Int.toNat n31*1))=some (.slice M.a M.len M.cap)/\¬m (f.heap.size:ag).block/\∃aS:al,d.cell? f.heap.size=some (.bool aS)/\∃N:ad,d.cell? (Addr.add f.heap.size 1)=some (.slice N.a N.len N.cap)/\∃O:ad,d.cell? (Addr.add f.heap.size 2)=some (.slice O.a O.len O.cap)/\∃P:ad,d.cell? (Addr.add f.heap.size 3)=some (.slice P.a P.len P.cap)/\(Calls ai 282 #[.agg #[aP,H,I,K],M,.agg #[aS,N,O,P]] d λbS j=>∃aT:al,∃aU:ad,∃aV:ad,∃aW:ad,∃aX:al,bS=.returned (.tuple #[.agg #[aT,aU,aV,aW],aX])/\af m d j/\ak (j.alloc (.cells #[false,(),(),()] 202)) λaY=>af m j aY/\bk aY j.heap.size [aT,aU,aV,aW]/\(4:Nat)=4/\ak (setCells aY j.heap.size 0 [aT,aU,aV,aW]) λv=>((!aX)=true->Q (.tuple #[(),(0:Int),(0:Int),(4:Int)]) v)/\((!aX)=false->∃bz:al,v.cell? j.heap.size=some (.bool bz)/\∃aq:ad,v.cell? (Addr.add j.heap.size 1)=some (.slice aq.a aq.len aq.cap)/\∃ar:ad,v.cell? (Addr.add j.heap.size 2)=some (.slice ar.a ar.len ar.cap)/\∃au:ad,v.cell? (Addr.add j.heap.size 3)=some (.slice au.a au.len au.cap)/\Calls ai 281 #[.pointer c,.agg #[bz,aq,ar,au]] v λbT bU=>∃bA:ad,∃bB:Int,bT=.returned (.tuple #[bA,bB])/\Q (.tuple #[bA,n31,.int .i64 (IntKind.wrap .i64 (n31+2)),bB]) bU))/\(ak (d.alloc (.cells #[false,(),(),()] 202)) λaZ=>af m d aZ/\Calls ai 282 #[.agg #[aP,H,I,K],M,.agg #[aS,N,O,P]] aZ λbV a0=>∃a1:al,∃a2:ad,∃a3:ad,∃a4:ad,∃a5:al,bV=.returned (.tuple #[.agg #[a1,a2,a3,a4],a5])/\af m aZ a0/\bk a0 d.heap.size [a1,a2,a3,a4]/\(4:Nat)=4/\ak (setCells a0 d.heap.size 0 [a1,a2,a3,a4]) λw=>((!a5)=true->Q (.tuple #[(),(0:Int),(0:Int),(4:Int)]) w)/\((!a5)=false->∃bC:al,w.cell? d.heap.size=some (.bool bC)/\∃aw:ad,w.cell? (Addr.add d.heap.size 1)=some (.slice aw.a aw.len aw.cap)/\∃ax:ad,w.cell? (Addr.add d.heap.size 2)=some (.slice ax.a ax.len ax.cap)/\∃ay:ad,w.cell? (Addr.add d.heap.size 3)=some (.slice ay.a ay.len ay.cap)/\Calls ai 281 #[.pointer c,.agg #[bC,aw,ax,ay]] w λbW bX=>∃bD:ad,∃bE:Int,bW=.returned (.tuple #[bD,bE])/\Q (.tuple #[bD,n31,.int .i64 (IntKind.wrap .i64 (n31+2)),bE]) bX))))/\(ak (b.alloc (.cells #[false,(),(),()] 202)) λg=>af l b g/\ak (g.alloc (.cells #[false,(),(),()] 202)) λaz=>af l g az/\bk az g.heap.size [z,o,p,q]/\(4:Nat)=4/\ak (setCells az g.heap.size 0 [z,o,p,q]) λa6=>af l az a6/\bk a6 b.heap.size [A,r,s,t]/\(4:Nat)=4/\ak (setCells a6 b.heap.size 0 [A,r,s,t]) λa7=>bH (λbF:J->Prop=>∃bG:ag,up=some bG/\∃a8:Int,a7.cell? (bG.add 5)=some (.int .i64 a8)/\((decide ((n36:Int)>a8))=true->ak (a7.drew) λi=>∃a9:Nat->Prop,¬a9 (nb:ag).block/\∃a_:al,i.cell? nb=some (.bool a_)/\∃R:ad,i.cell? (Addr.add nb 1)=some (.slice R.a R.len R.cap)/\∃S:ad,i.cell? (Addr.add nb 2)=some (.slice S.a S.len S.cap)/\∃T:ad,i.cell? (Addr.add nb 3)=some (.slice T.a T.len T.cap)/\¬a9 (aH:ag).block/\∃ba:al,i.cell? aH=some (.bool ba)/\∃U:ad,i.cell? (Addr.add aH 1)=some (.slice U.a U.len U.cap)/\∃V:ad,i.cell? (Addr.add aH 2)=some (.slice V.a V.len V.cap)/\∃W:ad,i.cell? (Addr.add aH 3)=some (.slice W.a W.len W.cap)/\bk i g.heap.size [a_,R,S,T]/\(4:Nat)=4/\ak (setCells i g.heap.size 0 [a_,R,S,T]) λbb=>af a9 i bb/\bk bb b.heap.size [ba,U,V,W]/\(4:Nat)=4/\ak (setCells bb b.heap.size 0 [ba,U,V,W]) λbY=>bF bY)/\((decide ((n36:Int)>a8))=false->bF a7)) (λ(bZ:J)=>ak (bZ.drew) λe=>∃n:Nat->Prop,¬n (g.heap.size:ag).block/\∃bc:al,e.cell? g.heap.size=some (.bool bc)/\∃X:ad,e.cell? (Addr.add g.heap.size 1)=some (.slice X.a X.len X.cap)/\∃Z:ad,e.cell? (Addr.add g.heap.size 2)=some (.slice Z.a Z.len Z.cap)/\∃aa:ad,e.cell? (Addr.add g.heap.size 3)=some (.slice aa.a aa.len aa.cap)/\∃bd:ag,up=some bd/\¬n ((bd.add 1).add 1).block/\∃ab:ad,e.cell? ((bd.add 1).add 1)=some (.slice ab.a ab.len ab.cap)/\∃be:ag,ab.a=some be/\((0:Int)<=n31/\n31<(ab.len:Int))/\¬n (be.add (Int.toNat n31*1)).block/\∃ac:ad,e.cell? (be.add (Int.toNat n31*1))=some (.slice ac.a ac.len ac.cap)/\¬n (b.heap.size:ag).block/\∃bf:al,e.cell? b.heap.size=some (.bool bf)/\∃ae:ad,e.cell? (Addr.add b.heap.size 1)=some (.slice ae.a ae.len ae.cap)/\∃ah:ad,e.cell? (Addr.add b.heap.size 2)=some (.slice ah.a ah.len ah.cap)/\∃aj:ad,e.cell? (Addr.add b.heap.size 3)=some (.slice aj.a aj.len aj.cap)/\(Calls ai 282 #[.agg #[bc,X,Z,aa],ac,.agg #[bf,ae,ah,aj]] e λb0 k=>∃bg:al,∃bh:ad,∃bi:ad,∃bj:ad,∃bl:al,b0=.returned (.tuple #[.agg #[bg,bh,bi,bj],bl])/\af n e k/\ak (k.alloc (.cells #[false,(),(),()] 202)) λbm=>af n k bm/\bk bm k.heap.size [bg,bh,bi,bj]/\(4:Nat)=4/\ak (setCells bm k.heap.size 0 [bg,bh,bi,bj]) λx=>((!bl)=true->Q (.tuple #[(),(0:Int),(0:Int),(4:Int)]) x)/\((!bl)=false->∃bI:al,x.cell? k.heap.size=some (.bool bI)/\∃aA:ad,x.cell? (Addr.add k.heap.size 1)=some (.slice aA.a aA.len aA.cap)/\∃aB:ad,x.cell? (Addr.add k.heap.size 2)=some (.slice aB.a aB.len aB.cap)/\∃aC:ad,x.cell? (Addr.add k.heap.size 3)=some (.slice aC.a aC.len aC.cap)/\Calls ai 281 #[.pointer c,.agg #[bI,aA,aB,aC]] x λb1 b2=>∃bJ:ad,∃bK:Int,b1=.returned (.tuple #[bJ,bK])/\Q (.tuple #[bJ,n31,.int .i64 (IntKind.wrap .i64 (n31+2)),bK]) b2))/\(ak (e.alloc (.cells #[false,(),(),()] 202)) λbn=>af n e bn/\Calls ai 282 #[.agg #[bc,X,Z,aa],ac,.agg #[bf,ae,ah,aj]] bn λb3 bo=>∃bp:al,∃bq:ad,∃br:ad,∃bs:ad,∃bt:al,b3=.returned (.tuple #[.agg #[bp,bq,br,bs],bt])/\af n bn bo/\bk bo e.heap.size [bp,bq,br,bs]/\(4:Nat)=4/\ak (setCells bo e.heap.size 0 [bp,bq,br,bs]) λy=>((!bt)=true->Q (.tuple #[(),(0:Int),(0:Int),(4:Int)]) y)/\((!bt)=false->∃bL:al,y.cell? e.heap.size=some (.bool bL)/\∃aD:ad,y.cell? (Addr.add e.heap.size 1)=some (.slice aD.a aD.len aD.cap)/\∃aE:ad,y.cell? (Addr.add e.heap.size 2)=some (.slice aE.a aE.len aE.cap)/\∃aF:ad,y.cell? (Addr.add e.heap.size 3)=some (.slice aF.a aF.len aF.cap)/\Calls ai 281 #[.pointer c,.agg #[bL,aD,aE,aF]] y λb4 b5=>∃bM:ad,∃bN:Int,b4=.returned (.tuple #[bM,bN])/\Q (.tuple #[bM,n31,.int .i64 (IntKind.wrap .i64 (n31+2)),bN]) b5)))))
theorem Jm{w:J}{T:aQ}{c:dS}{nb aH:Nat}{A:ag}{u:dO}{n o:aG}{K V D j k l:ad}{fr other no:Nat}{Q:Y->J->Prop}(h:dB w T c)(ap:Var w nb (ep n K V D) 202)(aq:Var w aH (ep o j k l) 202)
 (ar:¬T.M nb) (au:¬T.M aH) (av:bI (λq=>¬T.M q) w n K V D) (ay:bI (λq=>¬T.M q) w o j k l) (hu:mh (λq=>¬T.M q) w A u)
 (aA:T.C.D.aV<=900000090) (aB:2<=cv T) (aC:c.made.length<=900) (bk:c.left.length<=900) (aD:cQ n) (aF:cQ o) (aI:bN n<=400) (aJ:bN o<=400) (aK:o.leaf=n.leaf) (aL:fr<u.n.keys.length) (aM:cI u.n.keys[fr]) (m:aG) (B:m=if u.c4<other then ee n u.n.keys[fr] o else ee o u.n.keys[fr] n) (aN:mg m) (aO:fr<=1000)
 (aP:∀ (s:ad) (e:Int) (bQ:aQ) (aZ:dS) (w1 w':J),dC T bQ c aZ [] [no] w w1 0->iq bQ aZ m w1 (.tuple #[.slice s.a s.len s.cap,.int .i64 e]) w'->Q (.tuple #[.slice s.a s.len s.cap,.int .i64 (fr:Nat),.int .i64 ((fr+2:Nat):Int),.int .i64 e]) w'):
 zQ nb aH (some ⟨c.cb,0,none⟩) (some A) (fr:Nat) (other:Nat) (no:Nat) 0 w Q:=by
 unfold zQ;refine⟨λF=>(by cases F),λ_=>⟨_,rfl,_,h.cells.2.2,?_⟩⟩;obtain⟨d,ai,aw,ax,aR,aS,aT⟩:=DD h no I;refine aX ⟨d,ai,aw,_,rfl,by rw[az];exact aR,by rw[az];exact aS,aX ?_⟩;rw[az];obtain⟨f,aj⟩:∃f,f=ai.setCell ⟨c.cb,0+2,none⟩ (.slice d.a d.len d.cap):=⟨_,rfl⟩;rw[←aj];obtain⟨ak,al⟩:=aT f aj;have am:=dC.leave (c:=c) (c':={c with gQ:=d,left:=c.left++ [no]}) (no:=no) al rfl (λq H=>.inl H) rfl rfl rfl;obtain⟨bQ,y⟩:∃bQ,bQ=T.cH T.E λq=>T.G q\/aE d q:=⟨_,rfl⟩;obtain⟨aZ,L⟩:∃aZ:dS,aZ={c with gQ:=d,left:=c.left++ [no]}:=⟨_,rfl⟩;have aU:aZ.cb=c.cb:=by rw[L]
 have aW:aZ.made=c.made:=by rw[L]
 have aY:bQ.C.D.aV<=900000090:=by rw[y];exact aA
 have a0:2<=cv bQ:=by rw[y];exact aB
 rw[←y,←L]at ak am;rw[←y]at al;have O:Ext f f.drew:=cE _;have an:=ak.ext O;have P:dC T bQ c aZ [] [no] w f.drew 0:=am.trans (dC.ext bQ aZ O);obtain⟨b,a1⟩:∃b,b=f.drew:=⟨_,rfl⟩;rw[←a1]at O an P⊢;have z:=P.to;have R:∀q,¬T.M q->¬T.N q:=λq h1 h2=>h1 (aQ.gZ h2);have S:=ap.ah z.ah (R _ ar);have U:=aq.ah z.ah (R _ au);have ao:∀ {m:aG}{K V D:ad},bI (λq=>¬T.M q) w m K V D->bI (λq=>¬T.M q) b m K V D:=λB=>bI.ah B z.ah λq H=>R q H;have a2:=ao av;have a3:=ao ay;have a4:=hu.to z;obtain⟨a5,bW,bz,a6⟩:=bP S;obtain⟨a7,a8,a9,a_⟩:=bP U;have bl:=S.lt;have bm:=U.lt;have fin:∀ (cm:J) (p bv:Nat),Ext b cm->Var cm p (ep o j k l) 202->Var cm bv (ep n K V D) 202->b.heap.size<=p->b.heap.size<=bv->p≠bv->zP nb aH p bv (some ⟨c.cb,0,none⟩) (some A) (fr:Nat) (other:Nat) cm Q:=by
  intro cm p bv hx ba F h1 h2 bb;have:=Jl an hx S U ba F h1 h2 bb a2 a3 a4 aY a0 (by rw[aW];exact aC) aD aF aI aJ aK aL aM m B aN aO (Q:=Q) λs e w' hf=>aP s e bQ aZ b w' P hf;rw[aU]at this;exact this
 refine aX ⟨λq=>b.heap.size<=q,(show¬b.heap.size<=aH from I),_,a7,j,a8,k,a9,l,a_,(show¬b.heap.size<=nb from I),_,a5,K,bW,V,bz,D,a6,?_,?_⟩
 .refine bc (vs:=[.bool false,.slice none 0 0,.slice none 0 0,.slice none 0 0]) rfl λW bd r be=>⟨af.cN r,bc (vs:=[.bool false,.slice none 0 0,.slice none 0 0,.slice none 0 0]) rfl λbf X g bg=>?_⟩
  have t:=bd.ext g;refine⟨af.cN g,t.b3 rfl fZ,rfl,cp t (us:=ep o j k l) rfl rfl λZ aa i bh=>?_⟩;have v:=X.ah i I;have ab:Ext b Z:=Ext.cD (r.trans g) i (bt _);refine⟨i.mono λq _ e=>I,v.b3 rfl fZ,rfl,cp v (us:=ep n K V D) rfl rfl λac ae x bi=>?_⟩;exact fin ac b.heap.size W.heap.size (Ext.cD ab x I) (aa.ah x I) ae (bt _) I I
 .refine bc (vs:=[.bool false,.slice none 0 0,.slice none 0 0,.slice none 0 0]) rfl λW bj r be=>⟨af.cN r,bc (vs:=[.bool false,.slice none 0 0,.slice none 0 0,.slice none 0 0]) rfl λbf t g bg=>?_⟩
  have X:=bj.ext g;refine⟨af.cN g,t.b3 rfl fZ,rfl,cp t (us:=ep o j k l) rfl rfl λZ aa i bh=>?_⟩;have v:=X.ah i I;have ab:Ext b Z:=Ext.cD (r.trans g) i I;refine⟨i.mono λq _ e=>I,v.b3 rfl fZ,rfl,cp v (us:=ep n K V D) rfl rfl λac ae x bi=>?_⟩;exact fin ac W.heap.size b.heap.size (Ext.cD ab x (bt _)) (aa.ah x I) ae I (bt _) I
theorem b4.read{w w':J}{T:aQ}{E:Nat->Prop}{aI:cf}{P:Nat->av aG}{k:Nat}(h:b4 (T.cH E λ_=>False) ((T.cH E λ_=>False).bC aI P) w w' k)(e:∀q,T.E q\/T.G q->E q)(f:∀q,E q->T.E q\/T.G q\/w.heap.size<=q):b4 T (T.bC aI P) w w' k:=by
 refine⟨h.ba,h.sb,h.n,h.g,h.s1,h.s2,h.c,h.d,h.bT,h.gen,h.aV,h.calm,h.ah.mono λq _ a=>?_,λq a=>?_,λq a=>?_⟩
 .rcases a with a|a|a|a
  .exact .inl a
  .exact .inr (.inl a)
  .exact .inr (.inr (.inl a))
  .exact a.elim
 .have h1:((T.cH E λ_=>False).bC aI P).M q:=by
   rcases a with a|a|a|a
   .exact .inl a
   .exact .inr (.inl a)
   .exact .inr (.inr (.inl a))
   .exact .inr (.inr (.inr (.inl (e q a))))
  rcases h.c7 q h1 with h2|h2
  .rcases h2 with a|a|a|a|a
   .exact .inl (.inl a)
   .exact .inl (.inr (.inl a))
   .exact .inl (.inr (.inr (.inl a)))
   .rcases f q a with b|b|b
    .exact .inl (.inr (.inr (.inr (.inl b))))
    .exact .inl (.inr (.inr (.inr (.inr b))))
    .exact .inr b
   .exact a.elim
  .exact .inr h2
 .rcases a with a|a|a|a
  .rcases h.fn q (.inl a) with h2|h2
   .rcases h2 with h2|h2|h2|h2
    .exact .inl (.inl h2)
    .exact .inl (.inr (.inl h2))
    .exact .inl (.inr (.inr (.inl h2)))
    .exact h2.elim
   .exact .inr h2
  .exact .inl (.inr (.inl a))
  .exact .inl (.inr (.inr (.inl a)))
  .exact .inl (.inr (.inr (.inr a)))
theorem dC.cache{T:aQ}{c:dS}{aI:cf}{w w':J}{k:Nat}(h:b4 T (T.bC aI T.P) w w' k)(a:∀j,aI.view j=T.C.view j):dC T (T.bC aI T.P) c c [] [] w w' k:=
 ⟨h,rfl,λ_ h=>h,rfl,rfl,rfl,by simp,by simp,List.nodup_nil,λ_ h=>(by cases h),λno=>by simp[aQ.bC],λno _=>⟨rfl,a no⟩,by simp[cv,aQ.bC]⟩
theorem DK{w w1:J}{T:aQ}{c:dS}{Z:Nat->Prop}{no:Nat}{o:aG}(h:dB w T c)(hx:Ext w w1)(g:∀q,Z q->w.heap.size<=q/\q<w1.heap.size)(y:T.C.D.aV<=999999999)(z:T.P no=some o):
 aK ai 196 #[.pointer (some T.ba),no,o.leaf] w1 (λv w'=>∃aI:cf,(∀j,aI.view j=T.C.view j)/\af (λq=>T.N q/\¬T.G q) w1 w'/\(∀q,(T.bC aI T.P).M q->T.M q\/w1.heap.size<=q)/\
  (∀f,af Z w' f->dB f (T.bC aI T.P) c/\dC T (T.bC aI T.P) c c [] [] w f 2)/\
  ((∃ (K V D:ad),v=.tuple #[c9 o K V D,(0:Int)]/\bI (λq=>w1.heap.size<=q/\¬(T.bC aI T.P).M q) w' o K V D)\/(v=.tuple #[c9 js bG bG bG,(3:Int)]/\¬T.C.D.calm 2))):=by
 obtain⟨A,i⟩:=h.t.eU no o z;obtain⟨b7,k⟩:∃b7,b7=λq=>T.E q\/T.G q\/Z q:=⟨_,rfl⟩;have d:∀q,T.E q\/T.G q\/Z q->b7 q:=λq a=>by rw[k];exact a
 have l:∀q,b7 q->T.E q\/T.G q\/Z q:=λq a=>by rw[k]at a;exact a
 have m:cg w1 (T.cH b7 λ_=>False):=h.t.grow (W:=λ_=>False) hx (λ_ h=>h.elim) (λq a=>(l q a).imp id (Or.imp id (g q))) (λ_ h=>h.elim) λ_ _ h=>h;have n:∀q,(T.cH b7 λ_=>False).N q->T.N q/\¬T.G q:=λq a=>⟨by
  rcases a with a|a|a|a
  .exact .inl a
  .exact .inr (.inl a)
  .exact .inr (.inr (.inl a))
  .exact a.elim,λhg=>m.k1 (d q (.inr (.inl hg))) a⟩
 refine(zL m y A i.two o.leaf).mono ?_;rintro v w' ⟨aI,B,ht,r,F⟩;have Q:=hx.size;have R:=ht.ah.size;have s:=(b4.ext (T.cH b7 λ_=>False) hx).trans ht;rw[cF]at s;have H:b4 T (T.bC aI T.P) w w' 2:=b4.read (E:=b7) s (λq a=>d q (a.imp id .inl)) λq a=>(l q a).imp id (Or.imp id λh=>(g q h).1);have u:af (λq=>T.N q/\¬T.G q) w1 w':=ht.ah.mono λq _ a=>n q a;refine⟨aI,r,u,λq a=>?_,λf hc=>?_,?_⟩
 .rcases a with a|a
  .exact(ht.fn q (.inl a)).imp (λh=>aQ.gZ (n q h).1) id
  .exact .inl (.inr a)
 .have I:cg f (T.bC aI T.P):=B.grow (E:=T.E) (G:=T.G) hc (λq a _=>.inl (d q (.inr (.inr a)))) (λq a=>.inl (d q (.inl a))) (λq a=>.inl (d q (.inr (.inl a)))) λq a=>(h.t.dT q a).2.2
  refine⟨(h.ext hx).of (W:=λq=>(T.N q/\¬T.G q)\/Z q) I ((u.mono λq _ a=>.inl a).trans (hc.mono λq _ a=>.inr a)) (λq hg a=>?_) rfl (λ_ h=>h) ht.bZ.1,dC.cache ?_ r⟩
  .rcases a with a|a
   .exact a.2 hg
   .have:=h.t.lt (q:=q) (.inr (.inr (.inr (.inr hg))))
    have:=(g q a).1;omega
  .exact H.step (E:=T.E) (G:=T.G) hc (λq a S=>by have:=(g q a).1;omega) (λq a=>.inl a) λq a=>.inl a
 .rcases F with ⟨bz,K,V,D,rfl,L,eD⟩|⟨e,rfl,O,U⟩
  .obtain rfl:=g6.uniq i L
   refine .inl ⟨K,V,D,rfl,eD.a7 λq a x=>⟨x.1,λb=>x.2 ?_⟩⟩;rcases b with b|b|b|b|b
   .exact .inl b
   .exact .inr (.inl b)
   .exact .inr (.inr (.inl b))
   .exact .inr (.inr (.inr (.inl (d q (.inl b)))))
   .exact .inr (.inr (.inr (.inl (d q (.inr (.inl b))))))
  .refine .inr ?_
   rcases O with ⟨rfl,h1⟩|h1|⟨_,_,h1⟩
   .exact⟨rfl,h1⟩
   .obtain⟨p,aw,_⟩:=i
    have h1:fD (no:Int) (T.C.view no)=.error e:=h1;rw[aw]at h1;cases h1
   .exact absurd i (h1 o)
def kf(u:dO):Nat:=if u.c4=0 then 1 else u.c4-1
def mi(u:dO)(n o:aG):aG:=if u.c4<kf u then ee n (u.n.keys.getD (u.c4-1) []) o else ee o (u.n.keys.getD (u.c4-1) []) n
def zR(T:aQ)(c:dS)(n:aG)(u:dO)(w:J)(v:Y)(w':J):Prop:=
 (80<=bN n/\∃ (s:ad) (e:Int),v=.tuple #[s,u.c4,.int .i64 ((u.c4+1:Nat):Int),e]/\iq T c n w (.tuple #[s,e]) w')\/
 (bN n<80/\∃ (bQ:aQ) (aZ:dS),v=.tuple #[(),(0:Int),(0:Int),(3:Int)]/\dB w' bQ aZ/\dC T bQ c aZ [] [] w w' 2/\¬T.C.D.calm 2)\/
 (bN n<80/\∃ (o:aG) (no:Nat) (bQ:aQ) (aZ:dS) (w1:J) (s:ad) (e:Int),u.n.kids[kf u]? =some no/\T.P no=some o/\dC T bQ c aZ [] [no] w w1 2/\
   v=.tuple #[s,.int .i64 ((u.c4-1:Nat):Int),.int .i64 ((u.c4-1+2:Nat):Int),e]/\iq bQ aZ (mi u n o) w1 (.tuple #[s,e]) w')
theorem Jn{B:Nat->Prop}{w:J}{T:aQ}{c:dS}{n:aG}{K V D:ad}(h:dB w T c)(j:bI B w n K V D)(d:mg n)(o:T.C.D.aV<=900000080)(k:2<=cv T)(l:c.made.length<=900):
 aK ai 248 #[.pointer (some c.cb),c9 n K V D,.pointer none] w (λv w'=>∃ (s:ad) (e:Int),v=.tuple #[s,(0:Int),(0:Int),e]/\iq T c n w (.tuple #[s,e]) w'):=by
 refine okF (ae.o_ (some c.cb) n.leaf K V D none) ay.o_ func248 ?_;(delta ae.o_ an aY aa r1 bS aF ar ed aM lD cU u3 st b2 sx nE uU;dsimp only);refine bc (vs:=ep n K V D) rfl λw1 m f p=>?_;refine cq (λb w'=>b=true/\w1=w') (λq g=>⟨λ_=>g _ _ ⟨rfl,rfl⟩,λh=>(by cases h)⟩) ?_;rintro _ _ ⟨rfl,rfl⟩;refine⟨λ_=>sf (λa b w'=>a=0/\b=0/\w1=w') (λq g=>⟨λh=>(by cases h),λ_=>g _ _ _ ⟨rfl,rfl,rfl⟩⟩) ?_,λh=>(by cases h)⟩;rintro _ _ _ ⟨rfl,rfl,rfl⟩;obtain⟨b6,aZ,bf,bq⟩:=bP m;refine⟨_,b6,K,aZ,V,bf,D,bq,(xf (h.ext f) I k l (j.ext f) d.1 d.2.1 d.2.2).use ?_⟩;intro v w' i;obtain⟨s,e,rfl⟩:=i.out;exact⟨s,e,rfl,s,e,rfl,i.base f⟩
theorem Jo{w:J}{T:aQ}{c:dS}{n:aG}{K V D:ad}{A:ag}{u:dO}(h:dB w T c)(ap:bI (λq=>¬T.M q) w n K V D)(hu:mh (λq=>¬T.M q) w A u)(au:cQ n)(a3:bN n<=400)(aq:80<=bN n->mg n)
 (a4:bN n<80->∃ (o:aG) (no:Nat),u.n.kids[kf u]? =some no/\T.P no=some o/\o.leaf=n.leaf/\u.c4-1<u.n.keys.length/\cI (u.n.keys.getD (u.c4-1) [])/\mg (mi u n o)) (bA:u.c4<=900)
 (bD:T.C.D.aV<=900000080) (aO:2<=cv T) (aP:c.made.length<=900) (a5:c.left.length<=900):
 aK ai 248 #[.pointer (some ⟨c.cb,0,none⟩),c9 n K V D,.pointer (some A)] w (zR T c n u w):=by
 have bE:=au.eL I;refine okF (ae.o_ (some ⟨c.cb,0,none⟩) n.leaf K V D (some A)) ay.o_ func248 ?_;(delta ae.o_ an aY aa r1 bS aF ar ed aM lD cU u3 st b2 sx nE uU;dsimp only);refine bc (vs:=ep n K V D) rfl λw1 X aR bF=>?_;obtain⟨nb,a6⟩:∃nb,nb=w.heap.size:=⟨_,rfl⟩;rw[←a6]at X⊢;refine cq (λb w'=>b=decide (80<=bN n)/\Ext w1 w') (λq f=>⟨λh=>(by cases h),λ_=>?_⟩) ?_
 .obtain⟨b6,aZ,bf,bq⟩:=bP X
  refine⟨_,b6,K,aZ,V,bf,D,bq,(pc (ap.ext aR) au I).use ?_⟩;rintro _ bH ⟨rfl,a8⟩;refine⟨_,rfl,f _ _ ⟨?_,a8⟩⟩;rw[eQ,b_,b_];omega
 rintro _ p ⟨rfl,Y⟩;have ab:=aR.trans Y;refine⟨λg=>?_,λg=>?_⟩
 .have g:=cl g
  have L:=aq g;refine sf (λa b w'=>a=(u.c4:Nat)/\b=((u.c4+1:Nat):Int)/\Ext p w') (λq f=>⟨λ_=>?_,λh=>(by cases h)⟩) ?_
  .have y:Ext p p.drew:=cE _
   have aS:=hu.ext (ab.trans y);refine aX ⟨A,rfl,id,_,aS.c6,A,rfl,id,_,aS.c6,f _ _ _ ⟨rfl,?_,y⟩⟩;rw[bB I I];rfl
  rintro _ _ bJ ⟨rfl,rfl,aT⟩;have r:=ab.trans aT;obtain⟨b6,aZ,bf,bq⟩:=bP (X.ext (Y.trans aT));refine⟨_,b6,K,aZ,V,bf,D,bq,(xf (h.ext r) I aO aP (ap.ext r) L.1 L.2.1 L.2.2).use ?_⟩;intro v w' ac;obtain⟨s,e,rfl⟩:=ac.out;exact⟨s,e,rfl,.inl ⟨g,s,e,rfl,ac.base r⟩⟩
 .have g:¬80<=bN n:=cw g
  obtain⟨o,no,av,aj,aw,aU,a9,L⟩:=a4 I;obtain⟨bK,ba⟩:=h.t.eU no o aj;obtain⟨_,bb,bL⟩:=ba.is;have ak:=hu.ext ab;refine⟨A,rfl,_,ak.c6,((u.c4-1:Nat):Int),p,?_,?_⟩
  .rw[run_max_int2]
   congr 2
   by_cases h0:u.c4=0
   .rw[h0];rfl
   .rw[bB I I,if_neg I];omega
  refine cq (λa w'=>a=(kf u:Nat)/\p=w') (λq f=>⟨A,rfl,_,ak.c6,λh0=>f _ _ ⟨?_,rfl⟩,λh0=>f _ _ ⟨?_,rfl⟩⟩) ?_
  .have:u.c4=0:=by simpa using h0
   unfold kf;rw[if_pos this];rfl
  .have:u.c4≠0:=by simpa using h0
   unfold kf;rw[if_neg this]
  rintro _ _ ⟨rfl,rfl⟩;have bd:kf u<u.n.kids.length:=(jV.1 av).1;obtain⟨a_,be,bg,aW⟩:=cZ.at ak.ck.kids bd;have bh:u.n.kids[kf u]=no:=(jV.1 av).2;rw[bh]at aW;refine⟨A,rfl,u.D,ak.fB,a_,be,bg,_,aW,aX ?_⟩;have y:Ext p p.drew:=cE _;obtain⟨z,bi⟩:∃z,z=p.drew:=⟨_,rfl⟩;rw[←bi]at y⊢;have r:=ab.trans y;have ax:=h.ext r;have bM:=r.size;have bO:=(Y.trans y).size;have az:=X.ext (Y.trans y);have aA:∀q,T.M q->q<w.heap.size:=λq f=>h.t.lt f;have a0:u.n.keys.getD (u.c4-1) []=u.n.keys[u.c4-1]:=by rw[gd,dU aU];rfl
  have fin:∀ (aI:cf) (aH:Nat) (i k l:ad) (d:J),dB d (T.bC aI T.P) c->dC T (T.bC aI T.P) c c [] [] z d 2->Var d nb (ep n K V D) 202->Var d aH (ep o i k l) 202->z.heap.size<=aH->¬(T.bC aI T.P).M aH->bI (λq=>¬(T.bC aI T.P).M q) d o i k l->
   zQ nb aH (some ⟨c.cb,0,none⟩) (some A) ((u.c4-1:Nat):Int) (kf u:Nat) (no:Nat) 0 d (λv w'=>zR T c n u w v w'):=by
   intro aI aH i k l d B al bj bk bR bl bm;have a1:=((dC.ext T c r).trans al).mono (j:=2) I;have aB:=a1.to;have bn:¬(T.bC aI T.P).M nb:=λO=>by
    rcases al.to.c7 nb O with h1|h1
    .have:=aA _ h1;omega
    .omega
   have bo:bI (λq=>¬(T.bC aI T.P).M q) d n K V D:=(aB.ck (lo:=0) (ap.a7 λq _ g=>⟨cR _,g⟩)).a7 λq _ g=>g.2;have bp:(T.bC aI T.P).C.D.aV<=900000090:=eC aB.aV I;refine Jm B bj bk bn bl bo bm (hu.to aB) bp aO aP a5 au bb a3 I aw aU (by rw[←a0];exact a9) (mi u n o) (by unfold mi;rw[a0]) L I ?_;intro s e bQ aZ br w' bs hf;exact .inr (.inr ⟨I,o,no,bQ,aZ,br,s,e,av,aj,(a1.trans bs).mono I,rfl,hf⟩)
  have am:∀q,T.N q->q<w.heap.size:=λq f=>aA q (aQ.gZ f);have err:∀ (aI:cf) (d:J),dB d (T.bC aI T.P) c->dC T (T.bC aI T.P) c c [] [] z d 2->¬T.C.D.calm 2->zR T c n u w (.tuple #[.slice none 0 0,.int .i64 0,.int .i64 0,.int .i64 3]) d:=by
   intro aI d B al Q;exact .inr (.inl ⟨I,_,c,rfl,B,((dC.ext T c r).trans al).mono I,Q⟩)
  obtain⟨b6,aZ,bf,bq⟩:=bP az;refine⟨λq=>T.N q/\¬T.G q,_,rfl,λf=>f.2 h.gc,_,ax.cells.1,(λf=>by have:=am _ f.1;show False;exact absurd this (by show¬nb<w.heap.size;omega)),_,b6,?_,?_⟩
  .rw[←aw]
   refine(DK (Z:=λ_=>False) ax (af.refl _ _) (λ_ h=>h.elim) I aj).use ?_;rintro _ F ⟨aI,ac,x,a2,R,aC⟩;have bu:=x.size;rcases aC with ⟨i,k,l,rfl,aD⟩|⟨rfl,Q⟩
   .refine⟨_,i,k,l,0,rfl,x,bc (vs:=[.bool false,.slice none 0 0,.slice none 0 0,.slice none 0 0]) rfl λbv S U bw=>⟨af.cN U,S.b3 rfl fZ,rfl,cp S (us:=ep o i k l) rfl rfl λd W m aE=>?_⟩⟩
    have E:Ext F d:=Ext.cD U m (bt _);obtain⟨ao,aJ⟩:=R F (af.refl _ _);have H:=az.ah x λf=>by have:=am _ f.1;omega
    refine fin aI F.heap.size i k l d (ao.ext E) ((aJ.trans (dC.ext _ _ E)).mono I) (H.ext E) W I (λO=>by have:=ao.t.lt O;omega) ?_;exact(aD.ext E).a7 λq _ g=>g.2
   .refine⟨_,bG,bG,bG,3,rfl,x,bc (vs:=[.bool false,.slice none 0 0,.slice none 0 0,.slice none 0 0]) rfl λbv S U bw=>⟨af.cN U,S.b3 rfl fZ,rfl,cp S (us:=ep js bG bG bG) rfl rfl λd W m aE=>⟨λ_=>?_,λg=>(by cases g)⟩⟩⟩
    have E:Ext F d:=Ext.cD U m (bt _);obtain⟨ao,aJ⟩:=R F (af.refl _ _);exact err aI d (ao.ext E) ((aJ.trans (dC.ext _ _ E)).mono I) Q
  .refine bc (vs:=[.bool false,.slice none 0 0,.slice none 0 0,.slice none 0 0]) rfl λbT bx aL bU=>⟨af.cN aL,?_⟩
   rw[←aw];refine(DK (Z:=λq=>q=z.heap.size) ax aL (λq e=>⟨I,I⟩) I aj).use ?_;rintro _ F ⟨aI,ac,x,a2,R,aC⟩;have bu:=x.size;have H:=bx.ah x λf=>by have:=am _ f.1;omega
   have bz:=(az.ext aL).ah x λf=>by have:=am _ f.1;omega
   rcases aC with ⟨i,k,l,rfl,aD⟩|⟨rfl,Q⟩
   .refine⟨_,i,k,l,0,rfl,H.b3 rfl fZ,rfl,cp H (us:=ep o i k l) rfl rfl λd W m aE=>?_⟩
    obtain⟨B,aN⟩:=R d m;refine fin aI z.heap.size i k l d B aN (bz.ah m I) W (bt _) (λO=>?_) ?_
    .rcases a2 _ O with h1|h1
     .have:=aA _ h1;omega
     .omega
    .refine(bI.ah aD m λq f e=>by have:=f.1;omega).a7 λq _ g=>g.2
   .refine⟨_,bG,bG,bG,3,rfl,H.b3 rfl fZ,rfl,cp H (us:=ep js bG bG bG) rfl rfl λd W m aE=>⟨λ_=>?_,λg=>(by cases g)⟩⟩
    obtain⟨B,aN⟩:=R d m;exact err aI d B aN Q
structure zS(T au:aQ)(l:O Nat)(w w':J):Prop where
 to:b4 T au w w' 0
 E:au.E=T.E
 G:au.G=T.G
 root:au.root=T.root
 aN:au.aN=T.aN
 f:∀no,au.f no=(T.f no&& !decide (no∈l))
 eS:∀no,(no∉l\/T.g no=true)->au.P no=T.P no/\au.C.view no=T.C.view no
theorem DL{w:J}{T:aQ}{c:dS}{s:ad}{l:O Nat}(h:dB w T c)(hs:Src 1 w s (gl l))(z:∀q,aE s q->T.G q)(Q:∀x∈l,T.f x=true)(eD:l.Nodup)(aj:l.length<=10000):
 aK ai 207 #[.pointer (some c.cb),s] w (λv w'=>v=.tuple #[]/\∃au:aQ,dB w' au c/\zS T au l w w'):=by
 have ak:s.len=l.length:=by have:=hs.len;rw[q4]at this;omega
 refine okF (ae.vZ (some c.cb) s) ay.vZ func207 ?_;(delta ae.vZ an aM aF b8 bS ar;dsimp only);refine⟨λi w'=>∃ (j:Nat) (au:aQ),i=j/\j<=l.length/\dB w' au c/\zS T au (l.take j) w w'/\Src 1 w' s (gl l),λi _=>((l.length:Int)-i).toNat,⟨0,T,rfl,cR _,h,⟨.refl _ _,rfl,rfl,rfl,rfl,λno=>by simp,λ_ _=>⟨rfl,rfl⟩⟩,hs⟩,?_⟩;rintro _ al ⟨j,bQ,rfl,am,h1,hg,B⟩;refine⟨λaJ=>?_,λp=>?_⟩
 .have aJ:j<l.length:=by
   have:(j:Int)<(s.len:Int):=cl aJ;omega
  have C:bQ.f l[j]=true:=by
   rw[hg.f,Q _ (cW aJ)];have:l[j]∉l.take j:=λR=>by
    obtain⟨i,hi,he⟩:=fF R;rw[cz]at hi;rw[ou]at he;have:=(List.getElem_inj eD).1 he;omega
   simp[this]
  have ao:l[j]<bQ.n:=by
   rcases eu l[j] bQ.n with h2|h2
   .exact h2
   .have:=h1.t.s.pf _ h2
    rw[C]at this;cases this
  obtain⟨A,aq,S,hc⟩:=B.at (i:=j) (v:=.int .i64 ((l[j]:Nat):Int)) (by simp[gl,aJ]);refine j4 (λw'=>∃b2:aQ,dB w' b2 c/\zS T b2 (l.take (j+1)) w w'/\Src 1 w' s (gl l)) (λq a=>⟨A,aq,S,_,hc,_,rfl,_,h1.cells.1,_,rfl,_,h1.t.cells.2.1,(IP h1.t.s _).use ?_⟩) ?_
  .rintro _ _ ⟨rfl,rfl⟩
   refine⟨_,rfl,_,rfl,_,h1.cells.1,_,rfl,_,h1.t.cells.2.1,(Dg h1.t.s _).use ?_⟩;rintro _ D ⟨rfl,iT,r⟩;have U:n1 bQ.f bQ.n ((l[j]:Nat):Int)=dK bQ.f l[j] false:=by
    unfold n1;rw[if_pos ⟨I,I⟩,di]
   rw[U]at iT;obtain⟨V,F⟩:=h1.t.xc iT r;have d:dB D (bQ.jb (dK bQ.f l[j] false)) c:=h1.of V r (λq a hf=>(h1.t.ja q a).2 hf) rfl λ_ h=>h;have H:Src 1 D s (gl l):=B.ah r λq a hf=>(h1.t.ja q (by rw[hg.G];exact z q a)).2 hf;have W:(decide ((0:Int)<=((l[j]:Nat):Int))&&decide (((l[j]:Nat):Int)<(bQ.n:Nat))&&bQ.f (Int.toNat ((l[j]:Nat):Int))&& !(bQ.g (Int.toNat ((l[j]:Nat):Int))))= !(bQ.g l[j]):=by
    rw[di,C,dD I,dD I];simp
   have K:∀no,dK bQ.f l[j] false no=(T.f no&& !decide (no∈l.take (j+1))):=λno=>by
    rw[iy aJ];unfold dK;by_cases e:no=l[j]
    .rw[if_pos e,e,dD (c1.2 (.inr (fz.2 rfl)))]
     exact(Bool.and_false _).symm
    .rw[if_neg e,hg.f]
     have X:decide (no∈l.take j++ [l[j]])=decide (no∈l.take j):=by
      rw[eQ,b_,b_,c1,fz];exact⟨λh=>h.resolve_right e,.inl⟩
     rw[X]
   rw[W];refine⟨_,rfl,λu=>⟨_,rfl,_,d.cells.1,_,rfl,_,d.t.cells.1,(Dy d.t.ca _).use ?_⟩,λu=>a _ ⟨_,d,⟨?_,hg.E,hg.G,hg.root,hg.aN,K,λno k=>?_⟩,H⟩⟩
   .rintro _ ap ⟨⟨b,rfl⟩,aI,Y,m,L,_⟩
    have Z:T.g l[j]=false:=by
     have h2:bQ.g=T.g:=hg.to.g;rw[h2]at u;simpa using u
    obtain⟨aa,ab⟩:=d.t.rq (P:=λno=>if no=l[j] then none else bQ.P no) Y m (λno ck o=>by
     by_cases e:no=l[j]
     .rw[if_pos e]at o;cases o
     .rw[if_neg e]at o
      rw[L no e];exact h1.t.eU no ck o)
    have ac:=d.of (au:=(bQ.jb (dK bQ.f l[j] false)).bC aI λno=>if no=l[j] then none else bQ.P no) aa m.ah (λq a=>d.t.xb a) rfl (λ_ h=>h) m.bZ;refine⟨b,rfl,a _ ⟨_,ac,⟨?_,hg.E,hg.G,hg.root,hg.aN,K,λno k=>?_⟩,?_⟩⟩
    .exact((hg.to.trans F).trans ab).mono I
    .have M:no≠l[j]:=λe=>by
      rcases k with h2|h2
      .exact h2 (by rw[iy aJ,e];exact c1.2 (.inr (fz.2 rfl)))
      .rw[e,Z]at h2;cases h2
     have N:=hg.eS no (k.imp (λh2 y=>h2 (by rw[iy aJ];exact c1.2 (.inl y))) id);exact⟨(if_neg M).trans N.1,(L no M).trans N.2⟩
    .exact H.ah m.ah λq a=>d.t.xb (by show bQ.G q;rw[hg.G];exact z q a)
   .exact(hg.to.trans F).mono I
   .exact hg.eS no (k.imp (λh2 y=>h2 (by rw[iy aJ];exact c1.2 (.inl y))) id)
  .rintro av ⟨b2,h2,af,ag⟩
   rw[bB (n:=(j:Int)+1) I I];refine⟨⟨j+1,b2,I,I,h2,af,ag⟩,?_⟩;show((l.length:Int)-((j:Int)+1)).toNat<((l.length:Int)-(j:Int)).toNat;omega
 .have p:j=l.length:=by
   have:¬(j:Int)<(s.len:Int):=cw p;omega
  subst p;rw[h4]at hg;exact⟨rfl,bQ,h1,hg⟩
theorem qM{B:Nat->Prop}{w:J}{n:aG}{K V D:ad}(c:bI B w n K V D)(aN:Nat)(h:aN<=100)(d:n.leaf=false->∃x,n.kids=[x]/\1<=aN):
 aK ai 247 #[c9 n K V D,aN] w (λv w'=>v=(if n.leaf then .tuple #[(0:Int),(0:Int),(0:Int)] else .tuple #[.int .i64 ((n.kids.getD 0 0:Nat):Int),.int .i64 ((aN-1:Nat):Int),(0:Int)])/\Ext w w'):=by
 refine okF (ae.qM n.leaf K V D (aN:Nat)) ay.qM func247 ?_;(delta ae.qM aY aa an r1 aM aF ar;dsimp only);refine bc (vs:=ep n K V D) rfl λw1 e b j=>?_;obtain⟨b6,aZ,bf,bq⟩:=bP e;refine⟨_,b6,λa=>⟨by rw[if_pos a],b⟩,λa=>?_⟩;obtain⟨x,hx,h1⟩:=d a;obtain⟨A,aq,f,hc⟩:=cZ.at (c.ext b).kids (i:=0) (by rw[hx];simp);refine⟨D,bq,A,aq,f,_,hc,?_,b⟩;have g:(aN:Int)-1=((aN-1:Nat):Int):=by omega
 rw[if_neg (by rw[a];simp),bB I I,g];simp only[hx];rfl
def zT(T:aQ)(c:dS)(ks:O Key)(kids:O Nat)(w:J)(v:Y)(w':J):Prop:=
 (∃x,ks=[]/\kids=[x]/\v=.tuple #[x,T.aN,(0:Int)]/\dB w' T c/\Ext w w')\/
 (∃ (k:Key) (x y no:Nat) (au:aQ) (c':dS),ks=[k]/\kids=[x,y]/\dB w' au c'/\dC T au c c' [no] [] w w' 1/\
   ((v=.tuple #[no,.int .i64 ((T.aN+1:Nat):Int),(0:Int)]/\au.P no=some ⟨false,[k],[],[x,y]⟩)\/(v=.tuple #[no,.int .i64 ((T.aN+1:Nat):Int),(3:Int)]/\¬T.C.D.calm 1)))
theorem DM(K D:Nat)(w:J):Sem.run ai (Instr.build 202 #[(1,.slice (some K) 1 1),(3,.slice (some D) 2 2)]) w=.ok (.agg #[false,.slice (some K) 1 1,(),.slice (some D) 2 2]) w:=by kernel_rfl
theorem Var.DN{w:J}{b:Nat}{vs:O Y}{T:TypeId}(h:Var w b vs T):Src 1 w ⟨some b,vs.length,vs.length⟩ vs:=by
 refine⟨by show _=vs.length*1;omega,(λh=>by cases h),λa c=>?_⟩
 cases c;show a8 w b 0 (vs.length*1)=_;rw[fE,h.rd rfl]
theorem Jp{w:J}{t:ad}{k:Key}(b:Nat)(a:Var w b [t] 48)(ht:bA (λ_=>True) w t k):bw (λ_=>True) w ⟨some b,1,1⟩ [k]:=by
 refine⟨[t],rfl,a.DN,bt _,λq c=>⟨trivial,?_⟩,λi h1 h2=>?_⟩
 .obtain⟨A,aq,rfl⟩:=c
  cases aq;exact a.lt
 .have:i=0:=by simp at h1;omega
  subst this;exact ht
theorem Jq{w:J}{x y:Nat}(b:Nat)(a:Var w b [x,y] 3):cZ (λ_=>True) w ⟨some b,2,2⟩ [x,y]:=by
 refine⟨a.DN,bt _,λq c=>⟨trivial,?_⟩⟩;obtain⟨A,aq,rfl⟩:=c
 cases aq;exact a.lt
theorem Jr{w:J}{T:aQ}{c:dS}{s:ad}{ks:O Key}{kids:O Nat}(h:dB w T c)(H:lP (λq=>¬T.M q) w s ks kids)(A:kids.length=2->T.aN<12)(hs:∀k x y,ks=[k]->kids=[x,y]->cI k/\x<1600/\y<1600)
 (aq:T.C.D.aV<=900000080) (K:1<=cv T) (av:c.made.length<=900):
 aK ai 249 #[.pointer (some ⟨c.cb,0,none⟩),.slice s.a s.len s.cap] w (zT T c ks kids w):=by
 have aw:=h.t.num.2.1;refine okF (ae.wg (some ⟨c.cb,0,none⟩) s) ay.wg func249 ?_;(delta ae.wg an aM aF r1 aa g4 ar;dsimp only);have o:Ext w w.drew:=cE w;have hd:=h.ext o;rcases H with ⟨b,x,rfl,rfl,rfl,l,B⟩|⟨b,x,y,k,t,rfl,rfl,rfl,l,B,ht,ax⟩
 .refine⟨λ_=>aX ⟨_,rfl,⟨by decide,by show(0:Int)<((1:Nat):Int);decide⟩,id,_,by rw[az,az];exact l.drew.cell,_,rfl,id,_,hd.cells.1,_,rfl,id,_,hd.t.cells.2.2.2.2,?_⟩,λh=>(by cases h)⟩
  exact .inl ⟨x,rfl,rfl,rfl,hd,o⟩
 .have A:=A rfl
  obtain⟨s1,s2,aA⟩:=hs k x y rfl rfl;refine⟨λh=>(by cases h),λ_=>⟨_,rfl,_,h.cells.1,_,rfl,_,h.t.cells.2.2.2.2,λL=>?_,λ_=>?_⟩⟩
  .have:((T.aN:Nat):Int)=12:=by simpa using L
   omega
  have P:cQ ⟨false,[k],[],[x,y]⟩:=.inr ⟨⟨λaB Q=>by rw[fz.1 Q];exact s1,List.pairwise_singleton _ _⟩,rfl,by simp,rfl,rfl,λz E=>by
   simp only[de,fG,fQ]at E;rcases E with rfl|rfl<;>assumption⟩
  have R:bN ⟨false,[k],[],[x,y]⟩<=232:=by
   have:=s1.2;simp[bN,cellsOf];omega
  have r:¬T.N b:=λS=>B (aQ.gZ S);have fin:∀ (d:J) (bn aM:Nat),Ext w d->Var d bn [.slice t.a t.len t.cap] 48->Var d aM [.int .i64 (x:Nat),.int .i64 (y:Nat)] 3->
   aK ai 283 #[.pointer (some ⟨c.cb,0,none⟩),.agg #[.bool false,.slice (some ⟨bn,0,none⟩) 1 1,.slice none 0 0,.slice (some ⟨aM,0,none⟩) 2 2]] d (λv w'=>∃n27:Int,∃n28:Int,v=.tuple #[.int .i64 n27,.int .i64 n28]/\af T.N d w'/\
    ∀e,Ext w' e->zT T c [k] [x,y] w (.tuple #[.int .i64 n27,.int .i64 ((T.aN+1:Nat):Int),.int .i64 n28]) e/\∃au c',dB e au c'/\c'.cb=c.cb/\au.ba=T.ba/\au.aN=T.aN):=by
   intro d bn aM hx U V;have eD:bI (λ_=>True) d ⟨false,[k],[],[x,y]⟩ ⟨some ⟨bn,0,none⟩,1,1⟩ ⟨none,0,0⟩ ⟨some ⟨aM,0,none⟩,2,2⟩:=by
    exact⟨Jp bn U (bA.a7 (bA.ext ht hx) λ_ _ _=>trivial),bw.none _ _,Jq aM V⟩
   refine(xe (h.ext hx) I K I eD P R).mono ?_;rintro v w' ⟨no,au,c',p,f,W⟩;have F:=((dC.ext T c hx).trans f).mono (j:=1) I;rcases W with ⟨rfl,X⟩|⟨rfl,Y⟩
   .refine⟨_,_,rfl,f.to.ah,λe g=>⟨.inr ⟨k,x,y,no,au,c',rfl,rfl,p.ext g,(F.trans (dC.ext au c' g)).mono I,.inl ⟨rfl,X⟩⟩,au,c',p.ext g,f.cb,f.to.ba,f.aN⟩⟩
   .refine⟨_,_,rfl,f.to.ah,λe g=>⟨.inr ⟨k,x,y,no,au,c',rfl,rfl,p.ext g,(F.trans (dC.ext au c' g)).mono I,.inr ⟨rfl,Y⟩⟩,au,c',p.ext g,f.cb,f.to.ba,f.aN⟩⟩
  have Z:IntKind.wrap .i64 (((T.aN:Nat):Int)+1)=((T.aN+1:Nat):Int):=by rw[bB I I];rfl
  refine sf (λa b w'=>∀e,Ext w' e->zT T c [k] [x,y] w (.tuple #[.int .i64 a,.int .i64 ((T.aN+1:Nat):Int),.int .i64 b]) e/\∃au c',dB e au c'/\c'.cb=c.cb/\au.ba=T.ba/\au.aN=T.aN) (λq G=>aX ⟨T.N,_,rfl,⟨by decide,by show(1:Int)<((2:Nat):Int);decide⟩,r,t,by rw[az];exact l.drew.cell,_,rfl,⟨by decide,by show(0:Int)<((2:Nat):Int);decide⟩,r,_,by rw[az,az];exact l.drew.cell,_,rfl,⟨by decide,by show(1:Int)<((2:Nat):Int);decide⟩,r,_,by rw[az,az];exact l.drew.cell,?_,?_⟩) ?_
  .refine bc (vs:=[.slice t.a t.len t.cap]) rfl λu ab m ac=>⟨af.cN m,bc (vs:=[.int .i64 (x:Nat),.int .i64 (y:Nat)]) rfl λd ag i aj=>⟨af.cN i,_,λ_=>DM _ _ _,?_⟩⟩
   refine(fin d w.drew.heap.size u.heap.size (o.trans (m.trans i)) (ab.ext i) ag).use ?_;rintro _ w' ⟨n27,n28,rfl,hc,n⟩;exact⟨n27,n28,rfl,hc,G _ _ _ n⟩
  .refine bc (vs:=[.int .i64 (x:Nat),.int .i64 (y:Nat)]) rfl λu ak m ac=>⟨af.cN m,bc (vs:=[.slice t.a t.len t.cap]) rfl λd al i aj=>⟨af.cN i,_,λ_=>DM _ _ _,?_⟩⟩
   refine(fin d u.heap.size w.drew.heap.size (o.trans (m.trans i)) al (ak.ext i)).use ?_;rintro _ w' ⟨n27,n28,rfl,hc,n⟩;exact⟨n27,n28,rfl,hc,G _ _ _ n⟩
  .intro a b am n
   obtain⟨h1,au,c',h2,ao,aC,ap⟩:=n _ (cE am);have hc:=h2.cells.1;rw[ao]at hc;have ht:=h2.t.cells.2.2.2.2;refine aX ⟨_,rfl,id,_,hc,_,rfl,id,_,ht,?_⟩;rw[ap,Z];exact h1
end Go.Proofs.YtkdhdlfonmgheaaGreat
