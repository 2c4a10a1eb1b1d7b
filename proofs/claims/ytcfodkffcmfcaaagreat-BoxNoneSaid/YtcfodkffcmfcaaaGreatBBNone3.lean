/- Contracts of the functions that the statement reaches, and the plain laws over them; each theorem stands with its conditions. -/
import Derived.Laws.Small
import Derived.Test.YtcfodkffcmfcaaaGreatBBNone2
namespace Go.Proofs.YtcfodkffcmfcaaaGreat
open Go aO Go.Proofs.Tryz
structure ew(C br:cj)(w w':I)(k:Nat):Prop where
 c:br.c=C.c
 d:br.D.d=C.D.d
 len:br.aq.length=C.aq.length
 bq:br.D.key=C.D.key
 bu:br.D.bu<=C.D.bu+k
 calm:∀m,C.D.calm (m+k)->br.D.calm m
 ak:ad (c3 C) w w'
 cV:∀q,c3 br q->c3 C q\/w.heap.size<=q
theorem ew.refl(C:cj)(w:I):ew C C w w 0:=⟨rfl,rfl,rfl,rfl,bk _,λ_ h=>h,.refl _ _,λ_ h=>.inl h⟩
theorem ew.ext{w w':I}(C:cj)(h:Ext w w'):ew C C w w' 0:=⟨rfl,rfl,rfl,rfl,bk _,λ_ h=>h,ad.bA h,λ_ h=>.inl h⟩
theorem ew.trans{C br a:cj}{w w' b:I}{k l:Nat}(h1:ew C br w w' k)(h2:ew br a w' b l):ew C a w b (k+l):=by
 have hs:=h1.ak.size;refine⟨h2.c.trans h1.c,h2.d.trans h1.d,h2.len.trans h1.len,h2.bq.trans h1.bq,by have:=h1.bu;have:=h2.bu;omega,λm hm=>h2.calm m (h1.calm (m+l) (by rw[show m+l+k=m+(k+l) from J];exact hm)),ct h1.ak h2.ak λq e h=>(h1.cV q h).resolve_right J,λq e=>?_⟩;rcases h2.cV q e with h|h
 .exact h1.cV q h
 .exact .inr J
theorem ew.mono{C br:cj}{w w':I}{k l:Nat}(h:ew C br w w' k)(a:k<=l):ew C br w w' l:=
 ⟨h.c,h.d,h.len,h.bq,by have:=h.bu;omega,λm hm=>h.calm m (j_ hm J),h.ak,h.cV⟩
theorem ew.b6{C br:cj}{w w':I}{k:Nat}(h:ew C br w w' k):br.D.b6=C.D.b6:=congrArg (λk:(Y cL×(Nat->ai)×(Nat->Y cL)×(Int->Prop)×ai)×Int=>k.1.2.1) h.bq
theorem ew.qb{C br:cj}{w w':I}{k:Nat}(h:ew C br w w' k):br.D.b6=C.D.b6/\br.D.eN=C.D.eN:=⟨h.b6,congrArg (λk:(Y cL×(Nat->ai)×(Nat->Y cL)×(Int->Prop)×ai)×Int=>k.1.2.2.1) h.bq⟩
theorem ew.n{C br:cj}{w w':I}{k:Nat}(h:ew C br w w' k):br.D.n=C.D.n:=congrArg (λk:(Y cL×(Nat->ai)×(Nat->Y cL)×(Int->Prop)×ai)×Int=>k.1.1.length) h.bq
section
variable {w w':I}{C:cj}{X:Nat->Prop}
theorem nc{fs:Y Fr}{D:ba}{c aN hd:Nat}(un:∀ (i j:Nat) (hi:i<fs.length) (d:j<fs.length),(fs[i]).full=true->(fs[j]).full=true->(fs[i]).no=(fs[j]).no->i=j){i:Nat}(hi:i<fs.length){no:Nat}(hf:(fs[i]).full=true)(e:(fs[i]).no=no):(cj.mk c aN fs hd D).view no=(fs[i]).l:=by
 unfold cj.view
 cases a:fs.find? λf=>f.full&&f.no==(no:Int) with
 |none=>
  have:=mI.1 a _ (cO hi);simp[hf,e]at this
 |some f=>
  have hm:=j1 a;have b:=k0 a;simp only[du,jw]at b;obtain⟨j,d,rfl⟩:=eZ hm;have:=un i j hi d hf b.1 (by rw[e,b.2]);subst this;simp only
theorem nd{fs:Y Fr}{D:ba}{c aN hd:Nat}{no:Nat}(h:∀f∈fs,f.full=true->f.no≠no):(cj.mk c aN fs hd D).view no=D.now no:=by
 unfold cj.view
 cases b:fs.find? λf=>f.full&&f.no==(no:Int) with
 |none=>rfl
 |some f=>
  have hm:=j1 b;have a:=k0 b;simp only[du,jw]at a;exact absurd a.2 (h f hm a.1)
theorem yB(D:ba)(k i:Nat):(D.cF k).now i=D.now i:=rfl
theorem cE.re{B b:Nat->Prop}{w w':I}{t:ag}{l:Key}{V:Nat->Prop}(h:cE B w t l)(hc:ad V w w')(c:∀q,q<w.heap.size->B q->¬V q)(hb:∀q,q<w.heap.size->B q->b q):cE b w' t l:=
 ⟨h.1.ak hc λq a=>c q (h.2.2 q a).2 (h.2.2 q a).1,h.2.1,λq a=>⟨hb q (h.2.2 q a).2 (h.2.2 q a).1,fX (h.2.2 q a).2 hc.size⟩⟩
theorem uA{gs:Y Fr}{hd:Nat}{aL:ba}{V:Nat->Prop}(h:gM X w C)(hs:iq C.aq gs)(hc:ad V w w')(dr:∀q,q<w.heap.size->V q->c3 C q)(k:lk aL C.D)(p:∀i,aL.now i=C.D.now i)(r:∀q,bI aL q->bI C.D q\/w.heap.size<=q):gM X w' {C with aq:=gs,hand:=hd,D:=aL}:=by
 have s:=hc.size;have n:∀q,q<w.heap.size->c3 {C with aq:=gs,hand:=hd,D:=aL} q->c3 C q:=λq a hf=>by
  rcases hf with h1|h1|h1
  .exact .inl h1
  .exact .inr (.inl h1)
  .exact .inr (.inr ((r q h1).resolve_right J))
 have g:∀ (i:Nat) (hi:i<gs.length),∃c:i<C.aq.length,gs[i]={C.aq[i] with used:=(gs[i]).used}:=λi hi=>⟨by rw[←hs.1];exact hi,hs.2 i (by rw[←hs.1];exact hi) hi⟩;refine⟨λf hf=>?_,λf hf t=>?_,λi j hi u h1 h2 v=>?_,λq a=>⟨fX (h.fp q a).1 s,λhf=>(h.fp q a).2 (n q (h.fp q a).1 hf)⟩,k.2.2⟩
 .obtain⟨i,hi,rfl⟩:=eZ hf
  obtain⟨c,e⟩:=g i hi;have:(gs[i]).pins=(C.aq[i]).pins:=by rw[e]
  rw[this];exact h.pins _ (cO c)
 .obtain⟨i,hi,rfl⟩:=eZ hf
  obtain⟨c,e⟩:=g i hi;have aP:(gs[i]).full=(C.aq[i]).full:=by rw[e]
  have aU:(gs[i]).no=(C.aq[i]).no:=by rw[e]
  have m:(gs[i]).b=(C.aq[i]).b:=by rw[e]
  have d:(gs[i]).l=(C.aq[i]).l:=by rw[e]
  have o:(gs[i]).gz=(C.aq[i]).gz:=by rw[e]
  obtain⟨no,aJ,aW,x,y,z,A,B⟩:=h.ok _ (cO c) (by rw[←aP];exact t);refine⟨no,by rw[aU];exact aJ,by rw[k.1];exact aW,?_,by rw[d];exact y,λhd=>by rw[d,p];exact z (by rw[←o];exact hd),λhs=>by rw[o];exact A (k.2.1 _ hs),B⟩;rw[m,d];exact cE.re x hc (λq a hb E=>hb.1 (dr q a E)) λq a hb=>⟨λhf=>hb.1 (n q a hf),hb.2⟩
 .obtain⟨c,e⟩:=g i hi
  obtain⟨F,e'⟩:=g j u;have aP:(gs[i]).full=(C.aq[i]).full:=by rw[e]
  have aU:(gs[i]).no=(C.aq[i]).no:=by rw[e]
  have m:(gs[j]).full=(C.aq[j]).full:=by rw[e']
  have d:(gs[j]).no=(C.aq[j]).no:=by rw[e']
  exact h.un i j c F (by rw[←aP];exact h1) (by rw[←m];exact h2) (by rw[←aU,←d];exact v)
theorem uB{gs:Y Fr}{hd:Nat}{aL:ba}(h:gM X w C)(hs:iq C.aq gs)(p:∀i,aL.now i=C.D.now i)(no:Nat):(cj.mk C.c C.aN gs hd aL).view no=C.view no:=by
 have d:∀ (i:Nat) (hi:i<gs.length),∃g:i<C.aq.length,gs[i]={C.aq[i] with used:=(gs[i]).used}:=λi hi=>⟨by rw[←hs.1];exact hi,hs.2 i (by rw[←hs.1];exact hi) hi⟩;by_cases hex:∃ (i:Nat) (hi:i<C.aq.length),(C.aq[i]).full=true/\(C.aq[i]).no=no
 .obtain⟨i,hi,h1,h2⟩:=hex
  have k:i<gs.length:=by rw[hs.1];exact hi
  obtain⟨g,e⟩:=d i k;have aP:(gs[i]).full=(C.aq[i]).full:=by rw[e]
  have aU:(gs[i]).no=(C.aq[i]).no:=by rw[e]
  have q:(gs[i]).l=(C.aq[i]).l:=by rw[e]
  have r:∀ (i j:Nat) (hi:i<gs.length) (x:j<gs.length),(gs[i]).full=true->(gs[j]).full=true->(gs[i]).no=(gs[j]).no->i=j:=by
   intro a b s hb bH bL t;obtain⟨u,m⟩:=d a s;obtain⟨v,n⟩:=d b hb;have f1:(gs[a]).full=(C.aq[a]).full:=by rw[m]
   have f2:(gs[a]).no=(C.aq[a]).no:=by rw[m]
   have f3:(gs[b]).full=(C.aq[b]).full:=by rw[n]
   have f4:(gs[b]).no=(C.aq[b]).no:=by rw[n]
   exact h.un a b u v (by rw[←f1];exact bH) (by rw[←f3];exact bL) (by rw[←f2,←f4];exact t)
  rw[nc r k (by rw[aP];exact h1) (by rw[aU];exact h2),q];exact(nc (fs:=C.aq) (D:=C.D) (c:=C.c) (aN:=C.aN) (hd:=C.hand) h.un hi h1 h2).symm
 .have o:∀f∈C.aq,f.full=true->f.no≠no:=λf hf h1 h2=>by
   obtain⟨i,hi,rfl⟩:=eZ hf;exact hex ⟨i,hi,h1,h2⟩
  have e:C.view no=C.D.now no:=nd (fs:=C.aq) (D:=C.D) (c:=C.c) (aN:=C.aN) (hd:=C.hand) o;rw[e,←p];refine nd λf hf h1 h2=>?_;obtain⟨i,hi,rfl⟩:=eZ hf;obtain⟨g,e⟩:=d i hi;have aP:(gs[i]).full=(C.aq[i]).full:=by rw[e]
  have aU:(gs[i]).no=(C.aq[i]).no:=by rw[e]
  exact o _ (cO g) (by rw[←aP];exact h1) (by rw[←aU];exact h2)
theorem AZ{i:Nat}(hi:i<C.aq.length){aL:ba}{V:Nat->Prop}(h:gM X w C)(hc:ad V w w')(dr:∀q,q<w.heap.size->V q->c3 C q)(g:lk aL C.D)
 (s:∀j:Nat,((C.aq[i]).full=true->(C.aq[i]).no≠j)->aL.now j=C.D.now j) (t:∀q,bI aL q->bI C.D q\/w.heap.size<=q) (f0:Fr) (l:f0.full=false) (u:f0.pins=0):gM X w' {C with aq:=C.aq.set i f0,D:=aL}:=by
 have v:=hc.size;have n:∀q,q<w.heap.size->c3 {C with aq:=C.aq.set i f0,D:=aL} q->c3 C q:=λq c hf=>by
  rcases hf with h1|h1|h1
  .exact .inl h1
  .exact .inr (.inl h1)
  .exact .inr (.inr ((t q h1).resolve_right J))
 refine⟨λf hf=>?_,λf hf d=>?_,λa b x hb h1 h2 m=>?_,λq c=>⟨fX (h.fp q c).1 v,λhf=>(h.fp q c).2 (n q (h.fp q c).1 hf)⟩,g.2.2⟩
 .rcases nH hf with hf|rfl
  .exact h.pins f hf
  .exact u
 .obtain⟨k,y,rfl⟩:=eZ hf
  have o:k<C.aq.length:=by simpa using y
  by_cases e:i=k
  .subst e
   simp only[iA]at d;rw[l]at d;cases d
  .simp only[fu e]at d⊢
   obtain⟨no,aJ,aW,z,A,B,E,F⟩:=h.ok _ (cO o) d;refine⟨no,aJ,by rw[g.1];exact aW,cE.re z hc (λq c hb G=>hb.1 (dr q c G)) λq c hb=>⟨λhf=>hb.1 (n q c hf),hb.2⟩,A,λhd=>?_,λhs=>E (g.2.1 _ hs),F⟩;show _=aL.now no;rw[s no λH he=>e (h.un i k hi o H d (by rw[he,aJ]))];exact B hd
 .have I:a<C.aq.length:=by simpa using x
  have K:b<C.aq.length:=by simpa using hb
  by_cases p:i=a
  .subst p
   simp only[iA]at h1;rw[l]at h1;cases h1
  by_cases r:i=b
  .subst r
   simp only[iA]at h2;rw[l]at h2;cases h2
  simp only[fu p]at h1 m;simp only[fu r]at h2 m;exact h.un a b I K h1 h2 m
theorem ER{i:Nat}(hi:i<C.aq.length){aL:ba}{hd:Nat}(h:gM X w C)(u:(C.aq[i]).full=true->∀j:Nat,(C.aq[i]).no=j->aL.now j=(C.aq[i]).l)(v:∀j:Nat,((C.aq[i]).full=true->(C.aq[i]).no≠j)->aL.now j=C.D.now j)(f0:Fr)(m:f0.full=false)(no:Nat):
 (cj.mk C.c C.aN (C.aq.set i f0) hd aL).view no=C.view no:=by
 by_cases hex:∃ (k:Nat) (g:k<C.aq.length),(C.aq[k]).full=true/\(C.aq[k]).no=no
 .obtain⟨k,g,h1,h2⟩:=hex
  have o:=nc (fs:=C.aq) (D:=C.D) (c:=C.c) (aN:=C.aN) (hd:=C.hand) h.un g h1 h2;have o:C.view no=(C.aq[k]).l:=o;rw[o];by_cases e:i=k
  .subst e
   rw[←u h1 no h2];refine nd λf hf aJ aW=>?_;obtain⟨a,n,rfl⟩:=eZ hf;have p:a<C.aq.length:=by simpa using n
   by_cases d:i=a
   .subst d
    simp only[iA]at aJ;rw[m]at aJ;cases aJ
   .simp only[fu d]at aJ aW
    exact d (h.un i a hi p h1 aJ (by rw[h2,aW]))
  .have x:k<(C.aq.set i f0).length:=by simpa using g
   have q:(C.aq.set i f0)[k]=C.aq[k]:=fu e _;have y:∀ (a b:Nat) (n:a<(C.aq.set i f0).length) (hb:b<(C.aq.set i f0).length),((C.aq.set i f0)[a]).full=true->((C.aq.set i f0)[b]).full=true->((C.aq.set i f0)[a]).no=((C.aq.set i f0)[b]).no->a=b:=by
    intro a b n hb h1 h2 r;have p:a<C.aq.length:=by simpa using n
    have z:b<C.aq.length:=by simpa using hb
    by_cases d:i=a
    .subst d
     simp only[iA]at h1;rw[m]at h1;cases h1
    by_cases t:i=b
    .subst t
     simp only[iA]at h2;rw[m]at h2;cases h2
    simp only[fu d]at h1 r;simp only[fu t]at h2 r;exact h.un a b p z h1 h2 r
   rw[nc y x (by rw[q];exact h1) (by rw[q];exact h2),q]
 .have s:∀f∈C.aq,f.full=true->f.no≠no:=λf hf h1 h2=>by
   obtain⟨k,g,rfl⟩:=eZ hf;exact hex ⟨k,g,h1,h2⟩
  have e:C.view no=C.D.now no:=nd (fs:=C.aq) (D:=C.D) (c:=C.c) (aN:=C.aN) (hd:=C.hand) s;rw[e,←v no λh1 h2=>s _ (cO hi) h1 h2];refine nd λf hf h1 h2=>?_;rcases nH hf with hf|rfl
  .exact s f hf h1 h2
  .rw[m]at h1;cases h1
theorem ES{X:Nat->Prop}{w:I}{C:cj}(h:gM X w C){no:Nat}{s:ag}{l:cL}(hs:¬C.D.b6 no=true):lk (C.D.put no s l) C.D:=
 ⟨rfl,λ_ h=>h,λj a=>by
  have a:C.D.b6 j=true:=a
  rw[Em,if_neg λe=>hs (by rw[←e];exact a)];exact h.oA j a⟩
theorem ET(D:ba){no:Nat}{s:ag}{l:cL}(hs:¬D.b6 no=true):(D.put no s l).key=D.key:=by
 have h1:=so D (k:=2) (.inr rfl);unfold ba.key at h1⊢;have h2:(D.put no s l).kF=D.kF:=by
  funext n;exact propext ⟨λ_ h=>absurd (h no) hs,λ_ h=>absurd (h no) hs⟩
 rw[h2];have a:=congrArg Prod.snd h1;show((D.bq,D.b6,D.eN,D.kF,D.r1),(D.cF 2).b_.getD 3 0)=_;have a:(D.cF 2).b_.getD 3 0=D.b_.getD 3 0:=a;rw[a]
def EU(X:Nat->Prop)(C:cj)(w:I)(v:O)(w':I):Prop:=
 ∃br:cj,dQ X w' br/\ew C br w w' 1/\br.aN=C.aN/\(∀j,br.view j=C.view j)/\(∀f∈br.aq,f.full=true->∃g∈C.aq,g.full=true/\g.no=f.no)/\
  ((∃ (i:Nat) (hi:i<br.aq.length),v=.tuple #[.pointer (some ⟨C.aN,i*6,none⟩),(0:Int)]/\(br.aq[i]).full=false/\((br.aq[i]).pins=0))\/
   (v=.tuple #[.pointer none,(3:Int)]/\¬C.D.calm 1))
theorem EV(h:dQ X w C)(an:C.D.bu<=1000000000):az ah 207 #[.pointer (some C.c)] w (EU X C w):=by
 have S:=h.raw;refine okF (Z.xr (some C.c)) aj.xr func207 ?_;(delta Z.xr fj ae aw bB r1 a_ bx bR;dsimp only);refine(KK S).use ?_;rintro _ _ ⟨he,rfl⟩;rcases he with ⟨i,hi,rfl,hf⟩|⟨rfl,ap⟩
 .exact⟨_,rfl,λ_=>⟨C,h,(ew.refl C w).mono (dd _),rfl,λ_=>rfl,λf hf H=>⟨f,hf,H,rfl⟩,.inl ⟨i,hi,rfl,hf,h.inv.pins _ (cO hi)⟩⟩,λh=>(by cases h)⟩
 refine⟨_,rfl,λh=>(by cases h),λ_=>(KL S h.inv.pins).use ?_⟩;rintro _ w1 ⟨i,gs,hd,hi,rfl,z,r,au⟩;have T:i<gs.length:=by rw[z.1];exact hi
 have L:ad (c3 C) w w1:=au.mono λq _ n=>by
  rcases n with n|n
  .exact .inl n
  .exact .inr (.inl n)
 have E:=uA (hd:=hd) (aL:=C.D) h.inv z L (λq _ h=>h) h.inv.uy (λ_=>rfl) λq n=>.inl n;have O:=uB (hd:=hd) (aL:=C.D) h.inv z λ_=>rfl;obtain⟨a,F⟩:∃a:cj,a={C with aq:=gs,hand:=hd}:=⟨_,rfl⟩;have E:gM X w1 a:=by rw[F];exact E
 have r:fe w1 a:=by rw[F];exact r
 have O:∀no,a.view no=C.view no:=by rw[F];exact O
 have U:∀q,c3 a q↔c3 C q:=by rw[F];exact λq=>Iff.rfl
 have o:a.D=C.D:=by rw[F]
 have p:a.c=C.c/\a.aN=C.aN:=by rw[F];exact⟨rfl,rfl⟩
 have J:a.aq=gs:=by rw[F]
 have A:i<a.aq.length:=by rw[J];exact T
 have Q:(a.aq[i]).full=true:=by
  have e:=z.2 i hi T;have:(gs[i]).full=(C.aq[i]).full:=by rw[e]
  simp only[J];rw[this];exact ap _ (cO hi)
 have W:∀f∈a.aq,f.full=true->∃g∈C.aq,g.full=true/\g.no=f.no:=by
  rw[J];intro f hf H;obtain⟨k,Y,rfl⟩:=eZ hf;have aa:k<C.aq.length:=by rw[←z.1];exact Y
  have e:=z.2 k aa Y;have aP:(gs[k]).full=(C.aq[k]).full:=by rw[e]
  have aU:(gs[k]).no=(C.aq[k]).no:=by rw[e]
  exact⟨C.aq[k],cO aa,by rw[←aP];exact H,aU.symm⟩
 obtain⟨no,aJ,aW,ab,ax,ay,aA⟩:=E.ok _ (cO A) Q;have f1:=kI r.f A (j:=1) (by decide)
 have fin:∀ (af:I) (aL:ba),ad (c3 C) w1 af->fe af {a with D:=aL}->ew C {a with D:=aL} w af 1->lk aL C.D->(∀j:Nat,(a.aq[i]).no≠j->aL.now j=C.D.now j)->(∀j:Nat,(a.aq[i]).no=j->aL.now j=(a.aq[i]).l)->(∀q,bI aL q->bI C.D q\/w1.heap.size<=q)->
  ∃eR:ar,(some ⟨C.aN,i*6,none⟩:al ar)=some eR/\bN af eR [false,false,false,(0:Int),(0:Int),()]/\(6:Nat)=6/\ao (setCells af eR 0 [false,false,false,(0:Int),(0:Int),()]) λbt=>EU X C w (.tuple #[.pointer (some ⟨C.aN,i*6,none⟩),(0:Int)]) bt:=by
  intro af aL aB t B aC ac aD K;have aE:aZ af a.aN (a7 Fr.c a.aq).toArray 343:=t.f;obtain⟨s1,s2,M⟩:=AY aE A dE;rw[p.2]at s1 s2 M;have aF:gM X (setCells af ⟨C.aN,i*6,none⟩ 0 dE.c) {a with aq:=a.aq.set i dE,D:=aL}:=by
   refine AZ (V:=c3 C) (w:=w1) A E (aB.trans (M.mono λq _ e=>.inr (.inl e))) (λq _ n=>(U q).2 n) (by rw[o];exact aC) (λj u=>by rw[o];exact ac j λe=>u Q e) (λq n=>by rw[o];exact K q n) dE rfl rfl
  have aG:=t.v;refine⟨_,rfl,s1,rfl,aQ ⟨{a with aq:=a.aq.set i dE,D:=aL},⟨?_,aF⟩,?_,p.2,λj=>?_,λf hf H=>?_,.inl ⟨i,by show i<(a.aq.set i dE).length;rw[c1];exact A,rfl,by simp[dE],by simp[dE]⟩⟩⟩
  .have aH:a.c≠C.aN:=by have:=t.a1.1;rw[←p.2];exact this
   refine⟨?_,by show aZ _ a.aN _ _;rw[p.2];exact s2,t.dev.ak M (λq n e=>t.a1.2.2 (by rw[show({a with D:=aL}:cj).aN=a.aN from rfl,p.2,←e];exact n)),?_,?_,?_,t.a1⟩
   .have:=aG.ak M aH
    show Var _ _ [_,.slice _ (a.aq.set i dE).length (a.aq.set i dE).length,_] _;rw[c1];exact this
   .show 8<=(a.aq.set i dE).length;rw[c1];exact t.bH
   .show(a.aq.set i dE).length<=64;rw[c1];exact t.bL
   .show a.hand<(a.aq.set i dE).length;rw[c1];exact t.hd
  .refine⟨B.c,B.d,by show(a.aq.set i dE).length=_;rw[c1];exact B.len,B.bq,B.bu,B.calm,B.ak.trans (M.mono λq _ e=>.inr (.inl e)),B.cV⟩
  .rw[←O]
   exact ER A E (λ_ j u=>aD j u) (λj u=>by rw[o];exact ac j λe=>u Q e) dE rfl j
  .rcases nH hf with hf|rfl
   .exact W f hf H
   .cases H
 refine⟨_,rfl,λh=>(by cases h),λ_=>k9 (λaf=>∃aL:ba,ad (c3 C) w1 af/\fe af {a with D:=aL}/\ew C {a with D:=aL} w af 1/\lk aL C.D/\(∀j:Nat,(a.aq[i]).no≠j->aL.now j=C.D.now j)/\(∀j:Nat,(a.aq[i]).no=j->aL.now j=(a.aq[i]).l)/\(∀q,bI aL q->bI C.D q\/w1.heap.size<=q)) (λq n=>⟨_,rfl,(a.aq[i]).gz,?_,λaI=>?_,λaK=>n _ ⟨C.D,.refl _ _,?_,?_,h.inv.uy,λ_ _=>rfl,λj u=>?_,λq h=>.inl h⟩⟩) ?_⟩
 .rw[av,←p.2];exact f1
 .
  have P:=bC w1;have y:=r.ext P;obtain⟨ag,_,_⟩:=y.cells;rw[p.1,o]at ag;have f3:=kI y.f A (j:=3) (by decide);have f5:=kI y.f A (j:=5) (by decide);rw[p.2]at f3 f5;refine aQ ⟨_,rfl,id,_,ag,_,rfl,id,(no:Int),?_,_,rfl,id,(a.aq[i]).b,by rw[av];exact f5,?_⟩
  .rw[av,f3]
   show some (Value.int .i64 (a.aq[i]).no)=_;rw[aJ]
  have aM:cv w1.drew C.D:=by rw[←o];exact y.dev
  have ai:¬C.D.b6 no=true:=λhs=>by
   have:=aA (by rw[o];exact hs);rw[aI]at this;cases this
  refine(yr aM (i:=no) (by rw[←o];exact aW) an (ab.1.ext P) ax λq n hf=>(ab.2.2 q n).1.1 (.inr (.inr (by rw[o];exact hf)))).use ?_;rintro v2 af aO;rcases aO with ⟨hb,rfl,R,G⟩|⟨hb,rfl,s,R,G,aR⟩
  .have N:ad (c3 C) w1 af:=(ad.bA P).trans (G.mono λq _ e=>.inr (.inr (.inl e)))
   refine⟨3,rfl,λ_=>⟨{a with D:=C.D.cF 2},⟨?_,?_⟩,?_,p.2,λj=>?_,W,.inr ⟨rfl,λaS=>?_⟩⟩,λh=>(by cases h)⟩
   .have t:=y.v.ak G (λe=>y.a1.2.1 (.inl (by rw[o];exact e)))
    rw[o]at t;have am:=r.a1;rw[o]at am;exact⟨t,aZ.ak y.f G (λe=>y.a1.2.2 (.inl (by rw[o];exact e))),R,r.bH,r.bL,r.hd,am⟩
   .have:=uA (C:=a) (hd:=a.hand) (aL:=C.D.cF 2) E (iq.refl _) N (λq _ n=>(U q).2 n) (by rw[o];exact h.inv.cF 2) (λj=>by rw[o];rfl) λq n=>.inl (by rw[o];exact n)
    exact this
   .refine⟨p.1,rfl,by show a.aq.length=_;rw[J];exact z.1,so C.D (.inr rfl),Nat.le_succ _,λm hm=>(ka (.inr rfl) h.raw.dev.f4 hm).1,L.trans N,λq n=>.inl ?_⟩
    rcases n with e|e|e
    .exact .inl (by rw[←p.1];exact e)
    .exact .inr (.inl (by rw[←p.2];exact e))
    .exact .inr (.inr e)
   .rw[←O]
    exact uB (C:=a) E (iq.refl _) (λj=>by rw[o];rfl) j
   .have:=(ka (k:=2) (m:=0) (.inr rfl) h.raw.dev.f4 aS).2
    rw[hb]at this;cases this
  .have N:ad (c3 C) w1 af:=(ad.bA P).trans (G.mono λq _ e=>.inr (.inr e))
   have K:∀q,bI (C.D.put no s (a.aq[i]).l) q->bI C.D q\/w1.heap.size<=q:=by
    rintro q (e|e|e|⟨x,hx,e⟩)
    .exact .inl (.inl e)
    .exact .inl (.inr (.inl e))
    .exact .inl (.inr (.inr (.inl e)))
    .rcases cW.1 hx with rfl|hx
     .exact aR q e
     .exact .inl (.inr (.inr (.inr ⟨x,(hJ.1 hx).1,e⟩)))
   have dJ:∀q,bI C.D q->q≠a.c/\q≠a.aN:=λq n=>⟨λe=>r.a1.2.1 (by rw[o,←e];exact n),λe=>r.a1.2.2 (by rw[o,←e];exact n)⟩;refine⟨0,rfl,λh=>(by cases h),λ_=>n _ ⟨C.D.put no s (a.aq[i]).l,N,?_,?_,ES h.inv ai,λj u=>?_,λj u=>?_,K⟩⟩
   .have t:=y.v.ak G (λe=>(dJ _ e).1 rfl)
    rw[o]at t;have aT:a.c<w1.heap.size:=r.v.lt;have aV:a.aN<w1.heap.size:=aZ.lt r.f;refine⟨t,aZ.ak y.f G (λe=>(dJ _ e).2 rfl),R,r.bH,r.bL,r.hd,r.a1.1,λe=>?_,λe=>?_⟩
    .rcases K _ e with h1|h1
     .exact(dJ _ h1).1 rfl
     .have:a.c<w1.heap.size:=aT
      have h1:w1.heap.size<=a.c:=h1;omega
    .rcases K _ e with h1|h1
     .exact(dJ _ h1).2 rfl
     .have h1:w1.heap.size<=a.aN:=h1
      omega
   .refine⟨p.1,rfl,by show a.aq.length=_;rw[J];exact z.1,ET C.D ai,bk _,λm hm=>(ka (.inr rfl) h.raw.dev.f4 hm).1,L.trans N,λq n=>?_⟩
    rcases n with e|e|e
    .exact .inl (.inl (by rw[←p.1];exact e))
    .exact .inl (.inr (.inl (by rw[←p.2];exact e)))
    .rcases K q e with h1|h1
     .exact .inl (.inr (.inr h1))
     .exact .inr (dG L.size h1)
   .rw[p5,if_neg (λe=>u (by rw[aJ,e]))]
   .rw[p5,if_pos (by rw[aJ]at u;omega)]
 .rw[←o];exact r
 .refine⟨p.1,rfl,by show a.aq.length=_;rw[J];exact z.1,rfl,Nat.le_succ _,λm hm=>j_ hm (Nat.le_succ _),L,λq n=>.inl ?_⟩
  rcases n with e|e|e
  .exact .inl (by rw[←p.1];exact e)
  .exact .inr (.inl (by rw[←p.2];exact e))
  .exact .inr (.inr e)
 .have:no=j:=by rw[aJ]at u;omega
  subst this;rw[←o];exact(ay aK).symm
 .rintro af ⟨aL,a1,a2,a3,a4,a5,cZ,dT⟩
  exact fin af aL a1 a2 a3 a4 a5 cZ dT
end
def uC(fs:Y Fr):Prop:=∀ (i j:Nat) (hi:i<fs.length) (a:j<fs.length),(fs[i]).full=true->(fs[j]).full=true->(fs[i]).no=(fs[j]).no->i=j
theorem EW{fs gs:Y Fr}{D aL:ba}{c aN hd c' d e j:Nat}(g:uC fs)(h:uC gs)(h1:∀ (i:Nat) (hi:i<fs.length),(fs[i]).full=true->(fs[i]).no=j->∃ (k:Nat) (a:k<gs.length),(gs[k]).full=true/\(gs[k]).no=j/\(gs[k]).l=(fs[i]).l)
 (h2:(∀f∈fs,f.full=true->f.no≠j)->(∀f∈gs,f.full=true->f.no≠j)/\aL.now j=D.now j):(cj.mk c' d gs e aL).view j=(cj.mk c aN fs hd D).view j:=by
 by_cases hex:∃ (k:Nat) (a:k<fs.length),(fs[k]).full=true/\(fs[k]).no=j
 .obtain⟨k,a,aJ,aW⟩:=hex
  obtain⟨m,hm,aP,aU,n⟩:=h1 k a aJ aW;rw[nc g a aJ aW,nc h hm aP aU,n]
 .have b:∀f∈fs,f.full=true->f.no≠j:=λf hf h1 h2=>by
   obtain⟨k,a,rfl⟩:=eZ hf;exact hex ⟨k,a,h1,h2⟩
  obtain⟨aP,aU⟩:=h2 b;rw[nd b,nd aP,aU]
section
variable {w w':I}{C:cj}{X:Nat->Prop}
theorem A0{i:Nat}(hi:i<C.aq.length){no:Nat}{V:Nat->Prop}(h:gM X w C)(hc:ad V w w')(dr:∀q,q<w.heap.size->V q->c3 C q){aL:ba}(o:lk aL C.D)(y:∀j,aL.now j=C.D.now j)(z:∀q,bI aL q↔bI C.D q)
 (f':Fr) (M:f'.full=true) (A:f'.pins=0) (p:EO X w' {C with aq:=C.aq.set i f',D:=aL} f' no) (r:∀ (k:Nat) (s:k<C.aq.length),k≠i->(C.aq[k]).full=true->(C.aq[k]).no≠no):gM X w' {C with aq:=C.aq.set i f',D:=aL}:=by
 have B:=hc.size;have t:∀q,c3 {C with aq:=C.aq.set i f',D:=aL} q->c3 C q:=λq hf=>by
  rcases hf with h1|h1|h1
  .exact .inl h1
  .exact .inr (.inl h1)
  .exact .inr (.inr ((z q).1 h1))
 refine⟨λf hf=>?_,λf hf u=>?_,λa b E hb h1 h2 c=>?_,λq g=>⟨fX (h.fp q g).1 B,λhf=>(h.fp q g).2 (t q hf)⟩,o.2.2⟩
 .rcases nH hf with hf|rfl
  .exact h.pins f hf
  .exact A
 .obtain⟨k,s,rfl⟩:=eZ hf
  have F:k<C.aq.length:=by simpa using s
  by_cases e:i=k
  .subst e
   simp only[iA];exact⟨no,p⟩
  .simp only[fu e]at u⊢
   obtain⟨m,aJ,aW,G,H,I,J,K⟩:=h.ok _ (cO F) u;exact⟨m,aJ,by show m<aL.n;rw[o.1];exact aW,cE.re G hc (λq g hb L=>hb.1 (dr q g L)) λq _ hb=>⟨λhf=>hb.1 (t q hf),hb.2⟩,H,λhd=>by show _=aL.now m;rw[y];exact I hd,λhs=>J (o.2.1 _ hs),K⟩
 .have v:a<C.aq.length:=by simpa using E
  have x:b<C.aq.length:=by simpa using hb
  by_cases l:i=a
  .by_cases d:i=b
   .omega
   .subst l
    simp only[iA]at c;simp only[fu d]at h2 c;exact absurd (by rw[←c];exact p.num) (r b x (λe=>d e.symm) h2)
  .by_cases d:i=b
   .subst d
    simp only[iA]at c;simp only[fu l]at h1 c;exact absurd (by rw[c];exact p.num) (r a v (λe=>l e.symm) h1)
   .simp only[fu l]at h1 c
    simp only[fu d]at h2 c;exact h.un a b v x h1 h2 c
theorem KM{i:Nat}(hi:i<C.aq.length){no:Nat}(h:uC C.aq)(f':Fr)(g:f'.no=no)(j:∀ (k:Nat) (o:k<C.aq.length),k≠i->(C.aq[k]).full=true->(C.aq[k]).no≠no):uC (C.aq.set i f'):=by
 intro a b n hb h1 h2 c;have l:a<C.aq.length:=by simpa using n
 have m:b<C.aq.length:=by simpa using hb
 by_cases f:i=a
 .by_cases d:i=b
  .omega
  .subst f
   simp only[iA]at c;simp only[fu d]at h2 c;exact absurd (by rw[←c];exact g) (j b m (λe=>d e.symm) h2)
 .by_cases d:i=b
  .subst d
   simp only[iA]at c;simp only[fu f]at h1 c;exact absurd (by rw[c];exact g) (j a l (λe=>f e.symm) h1)
  .simp only[fu f]at h1 c
   simp only[fu d]at h2 c;exact h a b l m h1 h2 c
theorem A1{i:Nat}(hi:i<C.aq.length){no:Nat}(h:uC C.aq){aL:ba}(g:∀j,aL.now j=C.D.now j)(f':Fr)(m:f'.full=true)(a:f'.no=no)(hold:(C.aq[i]).full=true->(C.aq[i]).no=no)(n:∀ (k:Nat) (d:k<C.aq.length),k≠i->(C.aq[k]).full=true->(C.aq[k]).no≠no){hd:Nat}(j:Nat):
 (cj.mk C.c C.aN (C.aq.set i f') hd aL).view j=if j=no then f'.l else C.view j:=by
 have hu:=KM hi h f' a n;have o:i<(C.aq.set i f').length:=by simpa using hi
 by_cases e:j=no
 .subst e
  rw[if_pos rfl,nc hu o (by simp[m]) (by simpa using a)];simp
 .rw[if_neg e]
  refine EW (fs:=C.aq) (D:=C.D) (c:=C.c) (aN:=C.aN) (hd:=C.hand) h hu (λk d aJ aW=>?_) λp=>⟨λf hf aJ aW=>?_,g j⟩
  .have b:i≠k:=λaU=>by
    subst aU;have:=hold aJ;rw[aW]at this;exact e J
   have q:k<(C.aq.set i f').length:=by simpa using d
   exact⟨k,q,by simp only[fu b];exact aJ,by simp only[fu b];exact aW,by simp only[fu b]⟩
  .rcases nH hf with hf|rfl
   .exact p f hf aJ aW
   .rw[a]at aW
    exact e J
def KN(X:Nat->Prop)(C:cj)(no:Nat)(w:I)(v:O)(w':I):Prop:=
 ∃br:cj,dQ X w' br/\ew C br w w' 2/\(∀j,br.view j=C.view j)/\
  ((∃s:ag,v=.tuple #[s,(0:Int)]/\cE (λq=>w.heap.size<=q/\¬c3 br q/\¬X q) w' s (C.view no))\/(v=.tuple #[(),(3:Int)]/\¬C.D.calm 2))
theorem KO(h:dQ X w C)(a5:C.D.bu<=999999999){no:Nat}(aC:no<C.D.n)(aD:2<=no):az ah 309 #[.pointer (some C.c),no] w (KN X C no w):=by
 have r:=h.raw;refine okF (Z.xQ (some C.c) (no:Int)) aj.xQ func309 ?_;(delta Z.xQ bn ae fj aw st a_ bp e0 eK bR;dsimp only);refine(EP r _).use ?_;rintro _ _ ⟨rfl,rfl⟩;refine⟨_,rfl,λhb=>?_,λ_=>(yA r _).use ?_⟩
 .have:decide (0<=(no:Int)/\(no:Int)<C.D.n)=true:=eB ⟨J,J⟩
  rw[this]at hb;cases hb
 rintro _ _ ⟨aE,rfl⟩;rcases aE with ⟨i,hi,rfl,hf,aF⟩|⟨rfl,aG⟩
 .
  obtain⟨aJ,aW,L,H⟩:=oB r.f hi (j:=2) (by decide) (v:=true) {C.aq[i] with used:=true} rfl;have aa:iq C.aq (C.aq.set i {C.aq[i] with used:=true}):=(iq.refl C.aq).set hi true;have I:ad (c3 C) w (w.setCell ⟨C.aN,i*6+2,none⟩ true):=H.mono λq _ e=>.inr (.inl e);have hinv:=uA (hd:=C.hand) (aL:=C.D) h.inv aa I (λq _ h=>h) h.inv.uy (λ_=>rfl) λq p=>.inl p;have aH:=uB (hd:=C.hand) (aL:=C.D) h.inv aa λ_=>rfl;obtain⟨w1,ab⟩:∃w1,w1=w.setCell ⟨C.aN,i*6+2,none⟩ true:=⟨_,rfl⟩;rw[←ab]at L H I hinv;have M:fe w1 {C with aq:=C.aq.set i {C.aq[i] with used:=true}}:=by
   refine⟨?_,L,r.dev.ak H (λq p e=>r.a1.2.2 (e▸p)),?_,?_,?_,r.a1⟩
   .have:=r.v.ak H r.a1.1
    show Var _ _ [_,.slice _ (C.aq.set i _).length (C.aq.set i _).length,_] _;rw[c1];exact this
   .show 8<=(C.aq.set i _).length;rw[c1];exact r.bH
   .show(C.aq.set i _).length<=64;rw[c1];exact r.bL
   .show C.hand<(C.aq.set i _).length;rw[c1];exact r.hd
  obtain⟨a,N⟩:∃a:cj,a={C with aq:=C.aq.set i {C.aq[i] with used:=true}}:=⟨_,rfl⟩;have O:dQ X w1 a:=by rw[N];exact⟨M,hinv⟩
  have ac:i<(C.aq.set i {C.aq[i] with used:=true}).length:=by simpa using hi
  have f5:=kI L ac (j:=5) (by decide);obtain⟨m,bH,bL,ag,ai,a6,a7,a8⟩:=hinv.ok ((C.aq.set i {C.aq[i] with used:=true})[i]) (cO ac) (by simp[hf]);have aI:((C.aq.set i {C.aq[i] with used:=true})[i]).b=(C.aq[i]).b:=by simp
  have al:((C.aq.set i {C.aq[i] with used:=true})[i]).l=(C.aq[i]).l:=by simp
  rw[aI,al]at ag;rw[al]at ai;refine⟨_,rfl,λ_=>⟨_,rfl,by rw[av];exact aJ,by rw[av];exact aW,?_⟩,λh=>(by cases h)⟩;rw[av,←ab];refine aQ ⟨_,rfl,(C.aq[i]).b,by rw[av,f5];simp[Fr.c],(m6 (B:=λq=>w1.heap.size<=q) ag.1 (by rw[ai];omega) (λq p=>p)).use ?_⟩;rintro _ af ⟨s,rfl,hs,am,_⟩;have aK:C.view no=(C.aq[i]).l:=nc (fs:=C.aq) (D:=C.D) (c:=C.c) (aN:=C.aN) (hd:=C.hand) h.inv.un hi hf aF;have aM:=I.size;refine⟨s,rfl,a,O.ext am,?_,?_,.inl ⟨s,rfl,?_⟩⟩
  .rw[N]
   exact⟨rfl,rfl,by show(C.aq.set i _).length=_;rw[c1],rfl,Nat.le_add_right _ _,λm hm=>j_ hm J,I.trans (ad.bA am),λq p=>.inl p⟩
  .intro j;rw[N];exact aH j
  .rw[aK]
   refine cE.cp hs λq _ p=>⟨J,λhf=>?_,λF=>?_⟩
   .have:=O.raw.lt hf;omega
   .have:=(O.inv.fp q F).1;omega
 .
  refine⟨_,rfl,λh=>(by cases h),λ_=>(EV h J).use ?_⟩;rintro _ w1 ⟨a,o,y,A,G,aO,M⟩;rcases M with ⟨i,hi,rfl,aP,a9⟩|⟨rfl,aR⟩
  .refine⟨_,_,rfl,λh=>(by simp at h),λ_=>⟨_,rfl,some C.D.d,?_,?_⟩⟩
   .have:=o.raw.cells.1
    rw[y.c,y.d]at this;exact this
   have P:no<a.D.n:=by rw[y.n];exact aC
   have ba:=y.bu;rw[←y.d];refine(AN o.raw.dev P J).use ?_;rintro v2 af ⟨an,K,aS⟩;have ao:=λq=>o.raw.lt (q:=q);have Q:ad (c3 a) w1 af:=K.mono λq _ e=>.inr (.inr (.inl e))
   have R:∀f∈a.aq,f.full=true->f.no≠no:=λf hf aT aU=>by
    obtain⟨g,hg,h1,h2⟩:=aO f hf aT;exact aG g hg h1 (by rw[h2,aU])
   have aV:a.D.calm 1\/¬C.D.calm 2:=by
    rcases Classical.em (C.D.calm 2) with h1|h1
    .exact .inl (y.calm 1 h1)
    .exact .inr h1
   have ap:a.view no=a.D.now no:=nd (fs:=a.aq) (D:=a.D) (c:=a.c) (aN:=a.aN) (hd:=a.hand) R;have S:∀q,bI a.D q->q≠a.c/\q≠a.aN:=λq p=>⟨λe=>o.raw.a1.2.1 (e▸p),λe=>o.raw.a1.2.2 (e▸p)⟩;have aX:gM X af {a with D:=a.D.cF 1}:=uA (C:=a) (hd:=a.hand) (aL:=a.D.cF 1) o.inv (iq.refl _) Q (λq _ h=>h) (o.inv.cF 1) (λ_=>rfl) λq p=>.inl p;have u:ew C {a with D:=a.D.cF 1} w af 2:=by
    have:ew a {a with D:=a.D.cF 1} w1 af 1:=⟨rfl,rfl,rfl,so a.D (.inl rfl),Nat.le_succ _,λm hm=>(ka (.inl rfl) o.raw.dev.f4 hm).1,Q,λq p=>.inl p⟩;exact y.trans this
   have aY:∀j,({a with D:=a.D.cF 1}:cj).view j=C.view j:=λj=>by rw[←G];exact uB (C:=a) o.inv (iq.refl _) (λ_=>rfl) j
   have T:fe af {a with D:=a.D.cF 1}:=⟨o.raw.v.ak K (λe=>(S _ (.inl rfl)).1 e.symm),aZ.ak o.raw.f K (λe=>(S _ (.inl rfl)).2 e.symm),an,o.raw.bH,o.raw.bL,o.raw.hd,o.raw.a1⟩;rcases aS with ⟨hb,rfl⟩|⟨hb,s,rfl,hs⟩
   .refine⟨⟨none,0,0⟩,3,rfl,λ_=>⟨{a with D:=a.D.cF 1},⟨T,aX⟩,u,aY,.inr ⟨rfl,?_⟩⟩,λh=>(by simp at h)⟩
    rcases aV with h1|h1
    .have:=(ka (k:=1) (m:=0) (.inl rfl) o.raw.dev.f4 h1).2
     rw[hb]at this;cases this
    .exact h1
   .have ar:(a.D.now no).length=256:=o.raw.dev.p3 P
    obtain⟨s1,s2,z⟩:=AY T.f hi ⟨true,false,true,(no:Int),0,s,a.D.now no⟩;rw[A]at s1 s2 z;have bb:=K.size;have aM:=y.ak.size;refine⟨s,_,rfl,λh=>(by simp at h),λ_=>⟨_,rfl,s1,rfl,?_⟩⟩;obtain⟨x,au⟩:∃x,x=setCells af ⟨C.aN,i*6,none⟩ 0 (Fr.c ⟨true,false,true,(no:Int),0,s,a.D.now no⟩):=⟨_,rfl⟩;rw[←au]at s2 z;have hg:setCells af ⟨C.aN,i*6,none⟩ 0 [true,false,true,no,(0:Int),s]=x:=au.symm;rw[hg];have ax:ad (c3 a) af x:=z.mono λq _ e=>.inr (.inl (by rw[A];exact e));have ay:cE (λq=>w1.heap.size<=q) x s (a.D.now no):=cE.ak hs z λq p e=>by
     have:=ao C.aN (.inr (.inl A.symm));omega
    have a0:gM X x {a with aq:=a.aq.set i ⟨true,false,true,(no:Int),0,s,a.D.now no⟩,D:=a.D.cF 1}:=by
     refine A0 (w:=w1) (V:=c3 a) (aL:=a.D.cF 1) hi (no:=no) o.inv (Q.trans ax) (λq _ h=>h) (o.inv.cF 1) (λ_=>rfl) (λq=>Iff.rfl) ⟨true,false,true,(no:Int),0,s,a.D.now no⟩ rfl rfl ⟨rfl,P,?_,ar,λ_=>rfl,λ_=>rfl,aD⟩ λk U _ h1=>R _ (cO U) h1;refine cE.cp ay λq _ p=>⟨λhf=>?_,λF=>?_⟩
     .have:c3 a q:=hf
      have:=ao q this;omega
     .have:=(o.inv.fp q F).1;omega
    have a2:∀j,({a with aq:=a.aq.set i ⟨true,false,true,(no:Int),0,s,a.D.now no⟩,D:=a.D.cF 1}:cj).view j=C.view j:=λj=>by
     have:=A1 (hd:=a.hand) (aL:=a.D.cF 1) hi (no:=no) o.inv.un (λ_=>rfl) ⟨true,false,true,(no:Int),0,s,a.D.now no⟩ rfl rfl (λh1=>by rw[aP]at h1;cases h1) (λk U _ h1=>R _ (cO U) h1) j;rw[show({a with aq:=a.aq.set i ⟨true,false,true,(no:Int),0,s,a.D.now no⟩,D:=a.D.cF 1}:cj)=cj.mk a.c a.aN (a.aq.set i ⟨true,false,true,(no:Int),0,s,a.D.now no⟩) a.hand (a.D.cF 1) from rfl,this];by_cases e:j=no
     .rw[if_pos e,e,←G,ap]
     .rw[if_neg e,G]
    have a3:fe x {a with aq:=a.aq.set i ⟨true,false,true,(no:Int),0,s,a.D.now no⟩,D:=a.D.cF 1}:=by
     refine⟨?_,by show aZ _ a.aN _ _;rw[A];exact s2,an.ak z (λq p e=>(S q p).2 (by rw[A];exact e)),?_,?_,?_,o.raw.a1⟩
     .have:=T.v.ak z (λe=>o.raw.a1.1 (by rw[A];exact e))
      show Var _ _ [_,.slice _ (a.aq.set i _).length (a.aq.set i _).length,_] _;rw[c1];exact this
     .show 8<=(a.aq.set i _).length;rw[c1];exact o.raw.bH
     .show(a.aq.set i _).length<=64;rw[c1];exact o.raw.bL
     .show a.hand<(a.aq.set i _).length;rw[c1];exact o.raw.hd
    obtain⟨E,W⟩:∃E:cj,E={a with aq:=a.aq.set i ⟨true,false,true,(no:Int),0,s,a.D.now no⟩,D:=a.D.cF 1}:=⟨_,rfl⟩;have Y:dQ X x E:=by rw[W];exact⟨a3,a0⟩
    have a4:ew C E w x 2:=by
     rw[W];exact⟨u.c,u.d,by show(a.aq.set i _).length=_;rw[c1];exact u.len,u.bq,u.bu,u.calm,ct u.ak ax λq p h=>(u.cV q h).resolve_right J,u.cV⟩
    refine aQ ((m6 (B:=λq=>x.heap.size<=q) ay.1 (by rw[ar];omega) (λq p=>p)).use ?_);rintro _ aA ⟨t,rfl,ht,aB,_⟩;have bc:=z.size;refine⟨t,rfl,E,Y.ext aB,?_,?_,.inl ⟨t,rfl,?_⟩⟩
    .exact(a4.trans (ew.ext E aB)).mono J
    .intro j;rw[W];exact a2 j
    .rw[←G,ap]
     refine cE.cp ht λq _ p=>⟨J,λhf=>?_,λF=>?_⟩
     .have:=Y.raw.lt hf;omega
     .have:=(Y.inv.fp q F).1;omega
  .refine⟨_,_,rfl,λ_=>⟨a,o,y.mono J,G,.inr ⟨rfl,λhc=>aR (j_ hc J)⟩⟩,λh=>(by simp at h)⟩
end
section
variable {w w':I}{C:cj}{X:Nat->Prop}
def EX(X:Nat->Prop)(C:cj)(no:Nat)(l:cL)(w:I)(v:O)(w':I):Prop:=
 ∃br:cj,dQ X w' br/\ew C br w w' 1/\
  ((v=.int .i64 0/\∀j,br.view j=if j=no then l else C.view j)\/(v=.int .i64 3/\¬C.D.calm 1/\∀j,br.view j=C.view j))
theorem A2{i:Nat}{f':Fr}(h:fe w C)(hc:ad (λq=>q=C.aN) w w')(hb:aZ w' C.aN (a7 Fr.c (C.aq.set i f')).toArray 343):fe w' {C with aq:=C.aq.set i f'}:=by
 refine⟨?_,hb,h.dev.ak hc (λq a e=>h.a1.2.2 (e▸a)),?_,?_,?_,h.a1⟩
 .have:=h.v.ak hc h.a1.1
  show Var _ _ [_,.slice _ (C.aq.set i _).length (C.aq.set i _).length,_] _;rw[c1];exact this
 .show 8<=(C.aq.set i _).length;rw[c1];exact h.bH
 .show(C.aq.set i _).length<=64;rw[c1];exact h.bL
 .show C.hand<(C.aq.set i _).length;rw[c1];exact h.hd
theorem set_set{fs:Y Fr}{i:Nat}(f g:Fr):(fs.set i f).set i g=fs.set i g:=List.set_set ..
theorem EY(h:dQ X w C)(bo:C.D.bu<=999999999){no:Nat}(au:no<C.D.n)(ay:2<=no)(aA:¬C.D.b6 no=true){b:ag}{l:cL}(hb:Src 1 w b (ax l))(Y:l.length=256)(aa:∀q,aD b q->q<w.heap.size/\¬c3 C q):
 az ah 149 #[.pointer (some C.c),no,b] w (EX X C no l w):=by
 have N:=h.raw;have aB:=len8 hb;refine okF (Z.w8 (some C.c) (no:Int) b) aj.w8 func149 ?_;(delta Z.w8 bn ae fj e0 aw st bp;dsimp only);refine(EP N _).use ?_;rintro _ _ ⟨rfl,rfl⟩;have aC:decide (0<=(no:Int)/\(no:Int)<C.D.n)=true:=eB ⟨J,J⟩;refine⟨_,rfl,λh1=>?_,λ_=>(yA N _).use ?_⟩
 .rw[aC,aB,Y]at h1
  simp at h1
 rintro _ _ ⟨aE,rfl⟩
 have fin:∀ (w1:I) (a:cj) (i:Nat) (hi:i<a.aq.length) (f1:Fr),dQ X w1 a->ew C a w w1 1->a.aN=C.aN->(∀j,a.view j=C.view j)->f1.pins=0->∀af:I,aZ af a.aN (a7 Fr.c (a.aq.set i f1)).toArray 343->ad (λq=>q=a.aN) w1 af->f1.full=true->f1.no=(no:Int)->
  ((a.aq[i]).full=true->(a.aq[i]).no=(no:Int))->(∀ (k:Nat) (A:k<a.aq.length),k≠i->(a.aq[k]).full=true->(a.aq[k]).no≠(no:Int))->
  Calls ah 97 #[b] af λaF bl=>∃ab:ag,aF=.returned ab/\∃eR:ar,(some ⟨C.aN,i*6,none⟩:al ar)=some eR/\(∃u:O,bl.cell? (eR.add 5)=some u)/\bl.frozen? (eR.add 5)=false/\
   ao (bl.setCell (eR.add 5) ab) λbt=>∃a23:ar,(some ⟨C.aN,i*6,none⟩:al ar)=some a23/\(∃u:O,bt.cell? (a23.add 1)=some u)/\bt.frozen? (a23.add 1)=false/\
   ao (bt.setCell (a23.add 1) true) λP=>∃a25:ar,(some ⟨C.aN,i*6,none⟩:al ar)=some a25/\(∃u:O,P.cell? (a25.add 2)=some u)/\P.frozen? (a25.add 2)=false/\
   ao (P.setCell (a25.add 2) true) λaG=>EX X C no l w (0:Int) aG:=by
  intro w1 a i hi f1 x o t aH Q af aI H K ac hold ai;have br:=o.ak.size;have bs:=H.size;have bv:a.aN<w1.heap.size:=x.raw.lt (.inr (.inl rfl));have aK:Src 1 af b (ax l):=by
   refine(hb.ak o.ak λq m hf=>(aa q m).2 hf).ak H λq m e=>(aa q m).2 (.inr (.inl (by rw[←t];exact e)))
  refine(m6 (B:=λq=>af.heap.size<=q) aK J (λq m=>m)).use ?_;rintro _ aM ⟨s,rfl,hs,am,_⟩;have aO:=aZ.ext aI am;have R:i<(a.aq.set i f1).length:=by rw[c1];exact hi
  have S:(a.aq.set i f1)[i]=f1:=by simp
  obtain⟨a1,a2,a3,a4⟩:=oB aO R (j:=5) (by decide) (v:=s) {f1 with b:=s} (by rw[S];rfl);rw[set_set]at a3;have aR:i<(a.aq.set i {f1 with b:=s}).length:=by rw[c1];exact hi
  have aP:(a.aq.set i {f1 with b:=s})[i]={f1 with b:=s}:=by simp
  obtain⟨E,F,y,z⟩:=oB a3 aR (j:=1) (by decide) (v:=true) {f1 with b:=s,gz:=true} (by rw[aP];rfl);rw[set_set]at y;have aS:i<(a.aq.set i {f1 with b:=s,gz:=true}).length:=by rw[c1];exact hi
  have aU:(a.aq.set i {f1 with b:=s,gz:=true})[i]={f1 with b:=s,gz:=true}:=by simp
  obtain⟨d1,d2,d3,d4⟩:=oB y aS (j:=2) (by decide) (v:=true) {f1 with b:=s,gz:=true,used:=true,l:=l} (by rw[aU];rfl);rw[set_set]at d3;rw[t]at a1 a2 a3 a4 E F y z d1 d2 d3 d4 H;refine⟨s,rfl,_,rfl,by rw[av];exact a1,by rw[av];exact a2,?_⟩;rw[av];refine aQ ⟨_,rfl,by rw[av];exact E,by rw[av];exact F,?_⟩;rw[av];refine aQ ⟨_,rfl,by rw[av];exact d1,by rw[av];exact d2,?_⟩;rw[av];have L:=(H.trans (ad.bA am)).trans (a4.trans (z.trans d4));obtain⟨f',r⟩:∃f':Fr,f'={f1 with b:=s,gz:=true,used:=true,l:=l}:=⟨_,rfl⟩;obtain⟨G,T⟩:∃G,G=(((aM.setCell ⟨C.aN,i*6+5,none⟩ s).setCell ⟨C.aN,i*6+1,none⟩ true).setCell ⟨C.aN,i*6+2,none⟩ true):=⟨_,rfl⟩;rw[←T,←r]at d3;rw[←T]at L⊢;have aT:cE (λq=>af.heap.size<=q) G s l:=by
   have h1:=cE.ak hs a4 λq m e=>by rw[←t]at e;omega
   have h2:=cE.ak h1 z λq m e=>by rw[←t]at e;omega
   have aV:=cE.ak h2 d4 λq m e=>by rw[←t]at e;omega
   rw[T];exact aV
  have aX:fe G {a with aq:=a.aq.set i f'}:=A2 x.raw (by rw[t];exact L) (by rw[t];exact d3);have aY:gM X G {a with aq:=a.aq.set i f'}:=by
   refine A0 (w:=w1) (V:=λq=>q=C.aN) (aL:=a.D) hi (no:=no) x.inv L (λq _ e=>.inr (.inl (by rw[t];exact e))) x.inv.uy (λ_=>rfl) (λq=>Iff.rfl) f' (by rw[r];exact K) (by rw[r];exact Q) ⟨by rw[r];exact ac,by show no<a.D.n;rw[o.n];exact au,?_,by rw[r];exact Y,λhd=>(by rw[r]at hd;cases hd),λhs=>absurd (by rw[←o.b6];exact hs) aA,ay⟩ ai;rw[r];refine cE.cp aT λq _ m=>⟨λhf=>?_,λa0=>?_⟩
   .have:c3 a q:=hf
    have:=x.raw.lt this;omega
   .have:=(x.inv.fp q a0).1;omega
  refine aQ ⟨{a with aq:=a.aq.set i f'},⟨aX,aY⟩,⟨o.c,o.d,by show(a.aq.set i _).length=_;rw[c1];exact o.len,o.bq,o.bu,o.calm,ct o.ak L λq m e=>.inr (.inl e),o.cV⟩,.inl ⟨rfl,λj=>?_⟩⟩;have:=A1 (C:=a) (hd:=a.hand) (aL:=a.D) hi (no:=no) x.inv.un (λ_=>rfl) f' (by rw[r];exact K) (by rw[r];exact ac) hold ai j;rw[show({a with aq:=a.aq.set i f'}:cj)=cj.mk a.c a.aN (a.aq.set i f') a.hand a.D from rfl,this,aH];rw[r]
 rcases aE with ⟨i,hi,rfl,hf,U⟩|⟨rfl,a5⟩
 .refine⟨_,rfl,bK (λp w'=>p=some ⟨C.aN,i*6,none⟩/\w=w') (λq m=>⟨λh=>(by cases h),λ_=>m _ _ ⟨rfl,rfl⟩⟩) ?_⟩
  rintro _ _ ⟨rfl,rfl⟩;have e:C.aq.set i C.aq[i]=C.aq:=List.set_getElem_self _;exact fin w C i hi C.aq[i] h ((ew.refl C w).mono (dd _)) rfl (λ_=>rfl) (h.inv.pins _ (cO hi)) w (by rw[e];exact N.f) (.refl _ _) hf U (λ_=>U) λk A a6 h1 h2=>a6 (h.inv.un k i A hi h1 hf (by rw[h2,U]))
 .refine⟨_,rfl,bK (λp af=>∃ (w1:I) (a:cj) (i:Nat) (hi:i<a.aq.length) (f1:Fr),p=some ⟨C.aN,i*6,none⟩/\dQ X w1 a/\ew C a w w1 1/\a.aN=C.aN/\(∀j,a.view j=C.view j)/\f1.pins=0/\aZ af a.aN (a7 Fr.c (a.aq.set i f1)).toArray 343/\ad (λq=>q=a.aN) w1 af/\f1.full=true/\f1.no=(no:Int)/\
   ((a.aq[i]).full=true->(a.aq[i]).no=(no:Int))/\(∀ (k:Nat) (A:k<a.aq.length),k≠i->(a.aq[k]).full=true->(a.aq[k]).no≠(no:Int))) (λq m=>⟨λ_=>(EV h J).use ?_,λh=>(by cases h)⟩) ?_⟩
  .rintro _ w1 ⟨a,W,an,M,ap,a8,a9⟩
   have a_:∀f∈a.aq,f.full=true->f.no≠(no:Int):=λf hf K ba=>by
    obtain⟨g,hg,h1,h2⟩:=a8 f hf K;exact a5 g hg h1 (by rw[h2,ba])
   rcases a9 with ⟨i,hi,rfl,bb,Q⟩|⟨rfl,bc⟩
   .obtain⟨a1,a2,a3,a4⟩:=oB W.raw.f hi (j:=0) (by decide) (v:=true) {a.aq[i] with full:=true} rfl
    have R:i<(a.aq.set i {a.aq[i] with full:=true}).length:=by rw[c1];exact hi
    have S:(a.aq.set i {a.aq[i] with full:=true})[i]={a.aq[i] with full:=true}:=by simp
    obtain⟨E,F,y,z⟩:=oB a3 R (j:=3) (by decide) (v:=no) {a.aq[i] with full:=true,no:=(no:Int)} (by rw[S];rfl);rw[set_set]at y;rw[M]at a1 a2 E F y a4 z;refine⟨_,_,rfl,λh=>(by simp at h),λ_=>⟨_,rfl,a1,a2,aQ ⟨_,rfl,by rw[av];exact E,by rw[av];exact F,aQ ?_⟩⟩⟩;rw[av];exact m _ _ ⟨w1,a,i,hi,{a.aq[i] with full:=true,no:=(no:Int)},rfl,W,an,M,ap,Q,by rw[M];exact y,by rw[M];exact a4.trans z,rfl,rfl,λh1=>(by rw[bb]at h1;cases h1),λk A _ h1=>a_ _ (cO A) h1⟩
   .exact⟨_,_,rfl,λ_=>⟨a,W,an,.inr ⟨rfl,bc,ap⟩⟩,λh=>(by simp at h)⟩
  .rintro p af ⟨w1,a,i,hi,f1,rfl,aJ,aW,bd,be,bf,bg,bh,bi,bj,bk,bm⟩
   exact fin w1 a i hi f1 aJ aW bd be bf af bg bh bi bj bk bm
theorem KP(h:dQ X w C)(no:Nat):az ah 201 #[.pointer (some C.c),no] w (λv w'=>(∃b:ai,v=b)/\∃br:cj,dQ X w' br/\ew C br w w' 0/\(∀j,j≠no->br.view j=C.view j)/\br.D=C.D/\∀f∈br.aq,f.full=true->f∈C.aq/\f.no≠(no:Int)):=by
 have d:=h.raw;refine okF (Z.xm (some C.c) (no:Int)) aj.xm func201 ?_;(delta Z.xm fj ae aw r1 bR;dsimp only);refine(yA d _).use ?_;rintro _ _ ⟨u,rfl⟩;rcases u with ⟨i,hi,rfl,hf,p⟩|⟨rfl,x⟩
 .have f4:=kI d.f hi (j:=4) (by decide)
  have y:=h.inv.pins _ (cO hi);refine⟨_,rfl,bK (λb w'=>b=false/\w=w') (λq g=>⟨λh=>(by cases h),λ_=>⟨_,rfl,(C.aq[i]).pins,by rw[av];exact f4,g _ _ ⟨by rw[y];rfl,rfl⟩⟩⟩) ?_⟩;rintro _ _ ⟨rfl,rfl⟩;obtain⟨s1,s2,l⟩:=AY d.f hi dE;refine⟨λh=>(by cases h),λ_=>⟨_,rfl,s1,rfl,aQ ⟨⟨true,rfl⟩,{C with aq:=C.aq.set i dE},⟨A2 d l s2,?_⟩,?_,λj z=>?_,rfl,λf hm aJ=>?_⟩⟩⟩
  .exact AZ (V:=λq=>q=C.aN) (aL:=C.D) hi h.inv l (λq _ e=>.inr (.inl e)) h.inv.uy (λ_ _=>rfl) (λq h=>.inl h) dE rfl rfl
  .exact⟨rfl,rfl,by show(C.aq.set i _).length=_;rw[c1],rfl,bk _,λ_ h=>h,l.mono λq _ e=>.inr (.inl e),λq h=>.inl h⟩
  .refine EW (fs:=C.aq) (D:=C.D) (c:=C.c) (aN:=C.aN) (hd:=C.hand) h.inv.un (λa b A hb h1 h2 m=>?_) (λk n aJ aW=>?_) λB=>⟨λf hf aJ aW=>?_,rfl⟩
   .have E:a<C.aq.length:=by simpa using A
    have F:b<C.aq.length:=by simpa using hb
    by_cases r:i=a
    .subst r
     simp[dE]at h1
    by_cases s:i=b
    .subst s
     simp[dE]at h2
    simp only[fu r]at h1 m;simp only[fu s]at h2 m;exact h.inv.un a b E F h1 h2 m
   .have o:i≠k:=λe=>by
     subst e;rw[p]at aW;exact z J
    exact⟨k,by rw[c1];exact n,by simp only[fu o];exact aJ,by simp only[fu o];exact aW,by simp only[fu o]⟩
   .rcases nH hf with hf|rfl
    .exact B f hf aJ aW
    .cases aJ
  .obtain⟨k,n,rfl⟩:=eZ hm
   have t:k<C.aq.length:=by simpa using n
   by_cases e:i=k
   .subst e
    simp[dE]at aJ
   .simp only[fu e]at aJ⊢
    exact⟨cO t,λaW=>e (h.inv.un i k hi t hf aJ (p.trans aW.symm))⟩
 .refine⟨_,rfl,bK (λb w'=>b=true/\w=w') (λq g=>⟨λ_=>g _ _ ⟨rfl,rfl⟩,λh=>(by cases h)⟩) ?_⟩
  rintro _ _ ⟨rfl,rfl⟩;exact⟨λ_=>⟨⟨false,rfl⟩,C,h,ew.refl C w,λ_ _=>rfl,rfl,λf hf aJ=>⟨hf,x f hf aJ⟩⟩,λh=>(by cases h)⟩
end
theorem KQ(n:Nat):gQ ah 343 n=(a7 Fr.c (List.replicate n dE)).toArray:=by
 have a:((Tryz.prog.info? 343).bind (·.zero)).map (·.cells)=some dE.c.toArray:=by kernel_rfl
 have hc:Tryz.prog.cellsOf 343=6:=by kernel_rfl
 unfold gQ;rw[hc]
 cases hi:(Tryz.prog.info? 343).bind (·.zero) with
 |none=>rw[hi]at a;cases a
 |some z=>
  rw[hi]at a;simp only[l2,Option.some.injEq]at a;simp only[sQ,a];apply Array.ext
  .simp[mn (c:=Fr.c) (sz:=6) (List.replicate n dE) (λx _=>rfl)]
  .intro i h1 h2
   have d:n*6≠0:=by
    intro h;simp[h]at h1
   have g:i<n*6:=by simpa using h1
   simp only[d,if_false,Array.getElem_map,Array.getElem_range,List.getElem_toArray];have b:dE.c.toArray.size=6:=rfl;have aI:i%6<6:=gq _ J;have e:i/6<(List.replicate n dE).length:=by rw[lC];omega
   have hg:=Ee (c:=Fr.c) (sz:=6) (l:=List.replicate n dE) (λx _=>rfl) (i:=i/6) (j:=i%6) e aI;rw[show i/6*6+i%6=i from J]at hg;have f:i<(a7 Fr.c (List.replicate n dE)).length:=by simpa using h2
   rw[fQ f]at hg;have he:((List.replicate n dE)[i/6]).c=dE.c:=by simp
   rw[he,fQ (show i%6<dE.c.length from aI)]at hg;have hg:=Option.some.inj hg;rw[hg,b,getElem!_pos dE.c.toArray (i%6) (by rw[b];exact aI)];simp
def iW(c aN k:Nat)(D:ba):cj:=⟨c,aN,List.replicate k dE,0,D⟩
theorem A3(c aN k:Nat)(D:ba)(j:Nat):(iW c aN k D).view j=D.now j:=by
 refine nd λf hf h1=>?_;rw[u_ hf]at h1
 cases h1
theorem rj{w:I}{D:ba}(h:cv w D){k:Nat}(h1:8<=k)(h2:k<=64)(m:∀j,D.b6 j=true->D.eu j=D.eN j):az ah 101 #[.pointer (some D.d),k] w (λv w'=>∃c aN:Nat,v=.tuple #[.pointer (some c),(0:Int)]/\dQ (λ_=>False) w' (iW c aN k D)/\Ext w w'/\w.heap.size<=c/\w.heap.size<=aN):=by
 refine okF (Z.rj (some D.d) (k:Int)) aj.rj func101 ?_;delta Z.rj ae iR aa;refine⟨λh=>?_,λ_=>⟨⟨J,J,J,J⟩,?_⟩⟩
 .simp only[Option.isNone_some,mG,jv,cT]at h;omega
 rw[KQ,dW];have g:=aZ.new w (a7 Fr.c (List.replicate k dE)).toArray 343;have a:=cM w (.cells (a7 Fr.c (List.replicate k dE)).toArray 343);have n:=mj w (.cells (a7 Fr.c (List.replicate k dE)).toArray 343);obtain⟨w1,o⟩:∃w1,w1=w.alloc (.cells (a7 Fr.c (List.replicate k dE)).toArray 343):=⟨_,rfl⟩;rw[←o]at g a n⊢;refine aQ (aV (vs:=[.pointer (some D.d),.slice (some w.heap.size) k k,(0:Int)]) rfl λaf p b s=>⟨w1.heap.size,w.heap.size,rfl,⟨⟨?_,aZ.ext g b,h.ext (a.trans b),?_,?_,?_,?_,?_,?_⟩,⟨λf hf=>?_,λf hf l=>?_,λi j hi t h1=>?_,λq r=>r.elim,m⟩⟩,a.trans b,J,bk _⟩)
 .show Var _ _ [_,.slice _ (List.replicate k dE).length (List.replicate k dE).length,_] _
  rw[lC];exact p
 .show 8<=(List.replicate k dE).length;simpa using h1
 .show(List.replicate k dE).length<=64;simpa using h2
 .show 0<(List.replicate k dE).length;simp;omega
 .show w1.heap.size≠w.heap.size;omega
 .intro e
  have:=h.lt e;have:w1.heap.size<w.heap.size:=this;omega
 .intro e
  have:=h.lt e;have:w.heap.size<w.heap.size:=this;omega
 .rw[u_ hf];rfl
 .rw[u_ hf]at l;cases l
 .simp[iW,dE]at h1
structure bf where
 bh:Nat
 gen:Nat
 root:Nat
 bg:Nat
 C:cj
 sb:Nat
 n:Nat
 f:Nat->ai
 g:Nat->ai
 s1:ag
 s2:ag
 E:Nat->Prop
 G:Nat->Prop
 P:Nat->al bo
def bf.dw(T:bf)(E G:Nat->Prop):bf:={T with E:=E,G:=G}
def bf.dL(T:bf)(C:cj)(P:Nat->al bo):bf:={T with C:=C,P:=P}
def bf.X(T:bf)(q:Nat):Prop:=q=T.bh\/ga T.sb T.s1 T.s2 q\/T.E q\/T.G q
def bf.M(T:bf)(q:Nat):Prop:=c3 T.C q\/T.X q
def bf.N(T:bf)(q:Nat):Prop:=c3 T.C q\/q=T.bh\/ga T.sb T.s1 T.s2 q\/T.G q
theorem bf.su{T:bf}{q:Nat}(h:T.N q):T.M q:=h.imp id (Or.imp id (Or.imp id .inr))
def hX(gen:Nat)(leaf:ai)(no:Nat)(l:cL)(n:bo):Prop:=
 ∃p:iJ,dA (no:Int) l=.ok p/\p.gen<=gen/\p.kind=(if leaf then 1 else 2)/\mi leaf p.body n/\2<=no
def mq(T:bf):Y O:=[.pointer (some T.C.c),.pointer (some T.sb),.int .u64 (T.gen:Nat),T.root,T.bg]
structure ck(w:I)(T:bf):Prop where
 t:Var w T.bh (mq T) 302
 s:eW w T.sb T.n T.f T.g T.s1 T.s2
 ca:dQ T.X w T.C
 kJ:¬ga T.sb T.s1 T.s2 T.bh
 dX:∀q,T.E q->q≠T.bh/\¬ga T.sb T.s1 T.s2 q/\¬T.G q
 jM:∀q,T.G q->q≠T.bh/\¬ga T.sb T.s1 T.s2 q
 n:T.C.D.n=T.n
 num:T.root<T.n/\T.bg<=12/\T.gen<18446744073709551616
 gb:∀no bZ,T.P no=some bZ->no<T.n/\hX T.gen bZ.leaf no (T.C.view no) bZ
 b6:∀j,T.C.D.b6 j=true->T.g j=true\/T.C.D.ro
 low:T.g 0=true/\T.g 1=true
structure cD(T ay:bf)(w w':I)(k:Nat):Prop where
 bh:ay.bh=T.bh
 sb:ay.sb=T.sb
 n:ay.n=T.n
 g:ay.g=T.g
 s1:ay.s1=T.s1
 s2:ay.s2=T.s2
 c:ay.C.c=T.C.c
 d:ay.C.D.d=T.C.D.d
 bq:ay.C.D.key=T.C.D.key
 gen:ay.gen=T.gen
 bu:ay.C.D.bu<=T.C.D.bu+k
 calm:∀m,T.C.D.calm (m+k)->ay.C.D.calm m
 ak:ad T.N w w'
 cV:∀q,ay.M q->T.M q\/w.heap.size<=q
 fn:∀q,ay.N q->T.N q\/w.heap.size<=q
theorem cD.b6{T ay:bf}{w w':I}{k:Nat}(h:cD T ay w w' k):ay.C.D.b6=T.C.D.b6/\ay.C.D.eN=T.C.D.eN:=by
 have:=congrArg Prod.fst h.bq;exact⟨congrArg (λp=>p.2.1) this,congrArg (λp=>p.2.2.1) this⟩
theorem cD.refl(T:bf)(w:I):cD T T w w 0:=⟨rfl,rfl,rfl,rfl,rfl,rfl,rfl,rfl,rfl,rfl,bk _,λ_ h=>h,.refl _ _,λ_ h=>.inl h,λ_ h=>.inl h⟩
theorem cD.ext{w w':I}(T:bf)(h:Ext w w'):cD T T w w' 0:=⟨rfl,rfl,rfl,rfl,rfl,rfl,rfl,rfl,rfl,rfl,bk _,λ_ h=>h,ad.bA h,λ_ h=>.inl h,λ_ h=>.inl h⟩
theorem cD.trans{T ay b:bf}{w w' e:I}{k l:Nat}(h1:cD T ay w w' k)(h2:cD ay b w' e l):cD T b w e (k+l):=by
 have hs:=h1.ak.size;refine⟨h2.bh.trans h1.bh,h2.sb.trans h1.sb,h2.n.trans h1.n,h2.g.trans h1.g,h2.s1.trans h1.s1,h2.s2.trans h1.s2,h2.c.trans h1.c,h2.d.trans h1.d,h2.bq.trans h1.bq,h2.gen.trans h1.gen,by have:=h1.bu;have:=h2.bu;omega,
  λm hm=>h2.calm m (h1.calm (m+l) (by rw[show m+l+k=m+(k+l) from J];exact hm)),ct h1.ak h2.ak λq a h=>(h1.fn q h).resolve_right J,λq a=>?_,λq a=>?_⟩
 .rcases h2.cV q a with h|h
  .exact h1.cV q h
  .exact .inr J
 .rcases h2.fn q a with h|h
  .exact h1.fn q h
  .exact .inr J
theorem cD.mono{T ay:bf}{w w':I}{k l:Nat}(h:cD T ay w w' k)(a:k<=l):cD T ay w w' l:=
 ⟨h.bh,h.sb,h.n,h.g,h.s1,h.s2,h.c,h.d,h.bq,h.gen,by have:=h.bu;omega,λm hm=>h.calm m (j_ hm J),h.ak,h.cV,h.fn⟩
theorem cD.bZ{T ay:bf}{w w':I}{k lo:Nat}(h:cD T ay w w' k){n:bo}{K V D:ag}(b:dB (λq=>lo<=q/\¬T.M q) w n K V D):dB (λq=>lo<=q/\¬ay.M q) w' n K V D:=by
 have h1:dB (λq=>q<w.heap.size/\lo<=q/\¬T.M q) w n K V D:=b.cp λq a hb=>⟨a,hb⟩;refine(dB.ak h1 h.ak λq a hm=>a.2.2 (bf.su hm)).cp λq _ hb=>⟨hb.2.1,λhm=>?_⟩;rcases h.cV q hm with h2|h2
 .exact hb.2.2 h2
 .have:=hb.1;omega
section
variable {w w':I}{T ay:bf}
theorem cD.step{W E G:Nat->Prop}{w1:I}{k:Nat}(h:cD T ay w w1 k)(hc:ad W w1 w')(b4:∀q,W q->q<w.heap.size->T.N q)(e:∀q,E q->ay.E q\/ay.G q\/w.heap.size<=q)(b:∀q,G q->ay.G q\/w.heap.size<=q):cD T (ay.dw E G) w w' k:=by
 refine⟨h.bh,h.sb,h.n,h.g,h.s1,h.s2,h.c,h.d,h.bq,h.gen,h.bu,h.calm,ct h.ak hc λq a f=>b4 q f a,λq a=>?_,λq a=>?_⟩
 .rcases a with a|a|a|a|a
  .exact h.cV q (.inl a)
  .exact h.cV q (.inr (.inl a))
  .exact h.cV q (.inr (.inr (.inl a)))
  .rcases e q a with h1|h1|h1
   .exact h.cV q (.inr (.inr (.inr (.inl h1))))
   .exact h.cV q (.inr (.inr (.inr (.inr h1))))
   .exact .inr h1
  .rcases b q a with h1|h1
   .exact h.cV q (.inr (.inr (.inr (.inr h1))))
   .exact .inr h1
 .rcases a with a|a|a|a
  .exact h.fn q (.inl a)
  .exact h.fn q (.inr (.inl a))
  .exact h.fn q (.inr (.inr (.inl a)))
  .rcases b q a with h1|h1
   .exact h.fn q (.inr (.inr (.inr h1)))
   .exact .inr h1
theorem cD.local{cf qc a A4:Nat->Prop}{w1:I}{k:Nat}(h:cD (T.dw cf a) ay w1 w' k)(hx:Ext w w1)(b:∀q,cf q->T.E q\/w.heap.size<=q)(c:∀q,a q->T.G q\/w.heap.size<=q)
 (d:∀q,qc q->ay.E q\/ay.G q) (e:∀q,A4 q->ay.G q):cD T (ay.dw qc A4) w w' k:=by
 have h0:cD T (T.dw cf a) w w1 0:=(cD.ext T (w:=w) (w':=w) (ad.refl _ _)).step (W:=λ_=>False) hx (λ_ h=>h.elim) (λq h=>(b q h).imp id .inr) c;have h1:=h0.trans h;rw[cg]at h1;exact h1.step (W:=λ_=>False) (ad.refl _ _) (λ_ h=>h.elim) (λq h=>(d q h).imp id .inl) λq h=>.inl (e q h)
theorem ck.lt(h:ck w T){q:Nat}(a:T.M q):q<w.heap.size:=by
 rcases a with a|a
 .exact h.ca.raw.lt a
 .exact(h.ca.inv.fp q a).1
theorem ck.nf(h:ck w T){q:Nat}(b:T.E q):¬T.N q:=by
 rintro(a|a|a|a)
 .exact(h.ca.inv.fp q (.inr (.inr (.inl b)))).2 a
 .exact(h.dX q b).1 a
 .exact(h.dX q b).2.1 a
 .exact(h.dX q b).2.2 a
theorem ck.ext(h:ck w T)(hx:Ext w w'):ck w' T:=⟨h.t.ext hx,h.s.ext hx,h.ca.ext hx,h.kJ,h.dX,h.jM,h.n,h.num,h.gb,h.b6,h.low⟩
theorem dQ.grow{X c W:Nat->Prop}{C:cj}(h:dQ X w C)(hc:ad W w w')(b4:∀q,W q->q<w.heap.size->X q)(d:∀q,c q->X q\/(w.heap.size<=q/\q<w'.heap.size)):dQ c w' C:=by
 have e:ad X w w':=ct (W:=X) (ad.refl _ _) hc λq a g=>b4 q g a;refine⟨h.raw.ak e λq a hx=>(h.inv.fp q hx).2 a,h.inv.pins,λf hf i=>?_,h.inv.un,λq a=>?_,h.inv.oA⟩
 .obtain⟨no,aJ,aW,j,k,m,n,o⟩:=h.inv.ok f hf i
  have p:cE (λq=>q<w.heap.size/\¬c3 C q/\¬X q) w f.b f.l:=cE.cp j λq a hb=>⟨a,hb⟩;refine⟨no,aJ,aW,cE.cp (cE.ak p e λq a hx=>a.2.2 hx) λq _ hb=>⟨hb.2.1,λr=>?_⟩,k,m,n,o⟩;rcases d q r with h1|h1
  .exact hb.2.2 h1
  .have:=hb.1;omega
 .rcases d q a with h1|h1
  .exact⟨fX (h.inv.fp q h1).1 hc.size,(h.inv.fp q h1).2⟩
  .exact⟨h1.2,λhf=>by have:=h.raw.lt hf;omega⟩
theorem ck.grow{E G W:Nat->Prop}(h:ck w T)(hc:ad W w w')(b4:∀q,W q->q<w.heap.size->T.E q\/T.G q)(c:∀q,E q->T.E q\/T.G q\/(w.heap.size<=q/\q<w'.heap.size))(f:∀q,G q->T.E q\/T.G q\/(w.heap.size<=q/\q<w'.heap.size))(j:∀q,E q->¬G q):ck w' (T.dw E G):=by
 have b:∀q,T.E q\/T.G q->q≠T.bh/\¬ga T.sb T.s1 T.s2 q:=λq a=>by
  rcases a with a|a
  .exact⟨(h.dX q a).1,(h.dX q a).2.1⟩
  .exact h.jM q a
 have g:ad (λq=>T.E q\/T.G q) w w':=ct (W:=λq=>T.E q\/T.G q) (ad.refl _ _) hc λq a k=>b4 q k a;have d:∀q,T.E q\/T.G q\/(w.heap.size<=q/\q<w'.heap.size)->q≠T.bh/\¬ga T.sb T.s1 T.s2 q:=λq a=>by
  rcases a with a|a|a
  .exact b q (.inl a)
  .exact b q (.inr a)
  .exact⟨λe=>by have h2:=h.lt (q:=q) (.inr (.inl e));omega,λe=>by have h2:=h.lt (q:=q) (.inr (.inr (.inl e)));omega⟩
 have i:∀q,T.E q\/T.G q\/(w.heap.size<=q/\q<w'.heap.size)->T.X q\/(w.heap.size<=q/\q<w'.heap.size):=λq a=>by
  rcases a with a|a|a
  .exact .inl (.inr (.inr (.inl a)))
  .exact .inl (.inr (.inr (.inr a)))
  .exact .inr a
 refine⟨h.t.ak g λe=>(b _ e).1 rfl,h.s.ak g λq a e=>(b q e).2 a,h.ca.grow hc (λq a l=>.inr (.inr (b4 q a l))) λq a=>?_,h.kJ,λq a=>⟨(d q (c q a)).1,(d q (c q a)).2,j q a⟩,λq a=>d q (f q a),h.n,h.num,h.gb,h.b6,h.low⟩;rcases a with a|a|a|a
 .exact .inl (.inl a)
 .exact .inl (.inr (.inl a))
 .exact i q (c q a)
 .exact i q (f q a)
theorem ck.cells(h:ck w T):w.cell? T.bh=some (.pointer (some T.C.c))/\w.cell? (Addr.add T.bh 1)=some (.pointer (some T.sb))/\w.cell? (Addr.add T.bh 2)=some (.int .u64 (T.gen:Nat))/\
 w.cell? (Addr.add T.bh 3)=some (.int .i64 (T.root:Nat))/\w.cell? (Addr.add T.bh 4)=some (.int .i64 (T.bg:Nat)):=by
 rw[av,av,av,av];exact⟨h.t.cell,h.t.cell,h.t.cell,h.t.cell,h.t.cell⟩
theorem ck.KR(h:ck w T){no:Nat}(a:no<T.n):(T.C.view no).length=256:=by
 unfold cj.view
 cases hf:T.C.aq.find? λf=>f.full&&f.no==(no:Int) with
 |some f=>
  have h1:=j1 hf;have h2:=k0 hf;obtain⟨m,b⟩:=h.ca.inv.ok f h1 (by
   have:(f.full&&f.no==(no:Int))=true:=h2;exact(Bool.and_eq_true_iff.1 this).1)
  exact b.len
 |none=>exact h.ca.raw.dev.p3 (by rw[h.n];exact a)
theorem ck.yC{br:cj}{k:Nat}{P:Nat->al bo}(h:ck w T)(e:dQ T.X w' br)(a:ew T.C br w w' k)(f:∀no bZ,P no=some bZ->no<T.n/\hX T.gen bZ.leaf no (br.view no) bZ):
 ck w' (T.dL br P)/\cD T (T.dL br P) w w' k:=by
 have hx:=h.ca.inv.fp;have hc:=a.ak;refine⟨⟨?_,h.s.ak hc λq b hf=>(hx q (.inr (.inl b))).2 hf,e,h.kJ,h.dX,h.jM,?_,h.num,f,λj l=>by unfold ba.ro;show T.g j=true\/∀i,br.D.b6 i=true;rw[a.b6];exact h.b6 j (by rw[←a.b6];exact l),h.low⟩,⟨rfl,rfl,rfl,rfl,rfl,rfl,a.c,a.d,a.bq,rfl,a.bu,a.calm,hc.mono λq _ b=>.inl b,?_,?_⟩⟩
 .have:=h.t.ak hc λhf=>(hx T.bh (.inl rfl)).2 hf
  unfold mq at this⊢;rw[←a.c]at this;exact this
 .show br.D.n=T.n
  rw[a.n,h.n]
 .rintro q (b|b)
  .rcases a.cV q b with h1|h1
   .exact .inl (.inl h1)
   .exact .inr h1
  .exact .inl (.inr b)
 .rintro q (b|b)
  .rcases a.cV q b with h1|h1
   .exact .inl (.inl h1)
   .exact .inr h1
  .exact .inl (.inr b)
end
def KS(T:bf)(leaf:ai)(no:Nat)(e:Int):Prop:=
 (e=3/\¬T.C.D.calm 2)\/dA (no:Int) (T.C.view no)=.error e\/(e=4/\(∃p,dA (no:Int) (T.C.view no)=.ok p)/\∀n,¬hX T.gen leaf no (T.C.view no) n)
def qd(T:bf)(leaf:ai)(no:Nat)(w:I)(v:O)(w':I):Prop:=
 ∃br:cj,ck w' (T.dL br T.P)/\cD T (T.dL br T.P) w w' 2/\(∀j,br.view j=T.C.view j)/\
  ((∃ (n:bo) (K V D:ag),v=.tuple #[gl n K V D,(0:Int)]/\hX T.gen leaf no (T.C.view no) n/\dB (λq=>w.heap.size<=q/\¬(T.dL br T.P).M q) w' n K V D)\/
    (∃e:Int,v=.tuple #[gl mm cC cC cC,e]/\KS T leaf no e/\e≠0))
theorem EZ{no:Int}{l:cL}{e:Int}(h:dA no l=.error e):e≠0:=by
 intro he;subst he;unfold dA at h
 repeat' split at h
 all_goals first|(injection h with h;exact absurd h (by decide))|cases h
theorem KT{no:Int}{l:cL}{p:iJ}(h:dA no l=.ok p):p.body.length<=256:=by
 unfold dA at h
 repeat' split at h
 all_goals first|(cases h;done)|skip
 rename_i h1 _ _ _ _ _;injection h with h
 rw[←h];show(List.take _ (List.drop 24 l)).length<=256;rw[fg,hL];omega
theorem yD{w':I}{h:Nat}{vs:Y O}(n g:Int)(s:ag)(a:Var w' h vs 111)(b:vs.length=3){K:I->Prop}(c:∀af,Var af h [n,.int .u64 g,s] 111->ad (λq=>q=h) w' af->af.heap.size=w'.heap.size->K af):
 bN w' h [n,.int .u64 g,s]/\(3:Nat)=3/\ao (setCells w' h 0 [n,.int .u64 g,s]) K:=by
 refine⟨a.cn (by rw[b];rfl) ?_,rfl,cU a (us:=[n,.int .u64 g,s]) (by rw[b];rfl) rfl c⟩;intro v a;simp only[cW,fh,ft]at a;rcases a with rfl|rfl|rfl<;>trivial
theorem KU{w:I}{T:bf}(h:ck w T)(ay:T.C.D.bu<=999999999){no:Nat}(X:no<T.n)(Y:2<=no)(leaf:ai):
 az ah 269 #[.pointer (some T.bh),no,leaf] w (qd T leaf no w):=by
 have a7:=h.s.bF;have aB:=h.KR X;refine okF (Z.xJ (some T.bh) (no:Int) leaf) aj.xJ func269 ?_;(delta Z.xJ gS aw eK ae bR aa j7 bB bd a_ qX n0 aE b5 db r1 tC pk;dsimp only);refine aV (vs:=[false,(),(),()]) rfl λw1 aD ab a8=>?_;obtain⟨i,z⟩:∃i,i=λq=>T.G q\/q=w.heap.size:=⟨_,rfl⟩;have ac:i w.heap.size:=by rw[z];exact .inr rfl
 have A:∀q,T.G q->i q:=λq c=>by rw[z];exact .inl c
 have F:∀q,i q->T.G q\/q=w.heap.size:=λq c=>by rw[z]at c;exact c
 have h1:ck w1 (T.dw T.E i):=h.grow (W:=λ_=>False) ab (λ_ h=>h.elim) (λq c=>.inl c) (λq c=>.inr ((F q c).imp id λe=>⟨J,J⟩)) λq c hg=>by
  rcases F q hg with h2|h2
  .exact(h.dX q c).2.2 h2
  .have:=h.lt (q:=q) (.inr (.inr (.inr (.inl c))));omega
 refine⟨_,rfl,_,h1.cells.1,(KO h1.ca ay (no:=no) (by rw[h1.n];exact X) Y).use ?_⟩;rintro _ aA ⟨br,aF,H,j,aG⟩;obtain⟨L,aH⟩:=h1.yC (P:=T.P) aF H (λno bZ aI=>by rw[j];exact h1.gb no bZ aI);have a9:=H.ak.size;have al:Var aA w.heap.size [false,(),(),()] 404:=aD.ak H.ak λhf=>(h1.ca.inv.fp _ (.inr (.inr (.inr ac)))).2 hf
 have fin:∀w':I,ad (λq=>q=w.heap.size) aA w'->ck w' (T.dL br T.P)/\cD T (T.dL br T.P) w w' 2:=λw' hc=>by
  refine⟨L.grow (E:=T.E) (G:=T.G) hc (λq e _=>.inr (by rw[e];exact ac)) (λq c=>.inl c) (λq c=>.inr (.inl (A q c))) λq c=>(h.dX q c).2.2,?_⟩;have aK:=aH.local ab (λq c=>.inl c) (λq c=>(F q c).imp id λe=>J) (qc:=T.E) (A4:=T.G) (λq c=>.inl c) A;exact aK.step hc (λq e ba=>J) (λq c=>.inl c) λq c=>.inl c
 have aL:∀ {w':I}{n:bo}{K V D:ag}{B:Nat->Prop},dB (λq=>aA.heap.size<=q) w' n K V D->dB (λq=>w.heap.size<=q/\¬(T.dL br T.P).M q) w' n K V D:=λaM=>by
  refine aM.cp λq _ c=>⟨J,λhm=>?_⟩;have:q<aA.heap.size:=L.lt (q:=q) (by
   rcases hm with hm|hm|hm|hm|hm
   .exact .inl hm
   .exact .inr (.inl hm)
   .exact .inr (.inr (.inl hm))
   .exact .inr (.inr (.inr (.inl hm)))
   .exact .inr (.inr (.inr (.inr (A q hm)))))
  omega
 rcases aG with ⟨s,rfl,hs⟩|⟨rfl,aN⟩
 .refine⟨s,0,rfl,λhb=>(by cases hb),λ_=>(oe hs.1 hs.2.1 (by show(T.C.view no).length<=1000;rw[aB];omega) _).use ?_⟩
  rintro _ aO ⟨t,x⟩;have am:=al.ext x;have bb:=x.size;have aP:(T.dw T.E i).C.view no=T.C.view no:=rfl;rw[aP]at t
  cases f:dA (no:Int) (T.C.view no) with
  |error e=>
   rw[f]at t;obtain rfl:=t;refine⟨0,0,⟨none,0,0⟩,e,rfl,aV (vs:=[(0:Int),.int .u64 0,()]) rfl λaR N l aT=>?_⟩;refine yD 0 0 ⟨none,0,0⟩ N rfl λd an m aU=>⟨λ_=>?_,λhb=>?_⟩
   .have O:Var d w.heap.size [false,(),(),()] 404:=(am.ext l).ak m J
    refine lg false cC cC cC O rfl (Q:=λb K V D af=>qd T leaf no w (.tuple #[.agg #[b,K,V,D],e]) af) λaC g=>?_;obtain⟨f1,f2⟩:=fin aC (ct (W:=λq=>q=w.heap.size) (ad.bA (Ext.bO (x.trans l) m J)) g λq _ e=>e);exact⟨br,f1,f2,j,.inr ⟨e,rfl,.inr (.inl f),EZ f⟩⟩
   .have:=EZ f
    simp at hb;omega
  |ok p=>
   rw[f]at t;obtain⟨u,rfl,R,bc⟩:=t;refine⟨p.kind,p.gen,u,0,rfl,aV (vs:=[(0:Int),.int .u64 0,()]) rfl λaR N l aT=>?_⟩;refine yD p.kind p.gen u N rfl λd an m aU=>⟨λhb=>(by cases hb),λ_=>aQ ?_⟩;have O:Var d w.heap.size [false,(),(),()] 404:=(am.ext l).ak m J;have aX:Ext aA d:=Ext.bO (x.trans l) m J;have v:Ext aA d.drew:=aX.trans (bC _);have S:Var d.drew w.heap.size [false,(),(),()] 404:=O.drew;have y:=an.drew;have aY:=(L.ext v).cells;obtain⟨b,hb⟩:∃b,b=aO.heap.size:=⟨_,rfl⟩;rw[←hb]at y⊢;have U:d.drew.cell? b=some (.int .i64 (p.kind:Nat)):=y.cell;have aZ:d.drew.cell? (Addr.add b 1)=some (.int .u64 (p.gen:Nat)):=by rw[av];exact y.cell
   have a0:d.drew.cell? (Addr.add b 2)=some (.slice u.a u.len u.cap):=by rw[av];exact y.cell
   have be:aA.heap.size<=d.drew.heap.size:=v.size;refine⟨id,_,aZ,_,rfl,id,_,aY.2.2.1,λhg=>?_,λhg=>⟨id,_,U,?_⟩⟩
   .have hg:T.gen<p.gen:=by
     have:(p.gen:Int)>(T.gen:Int):=b3 hg;omega
    refine bK (λb w'=>b=true/\w'=d.drew) (λq c=>⟨λ_=>c _ _ ⟨rfl,rfl⟩,λh=>by cases h⟩) ?_;rintro _ _ ⟨rfl,rfl⟩;refine⟨λ_=>?_,λh=>(by cases h)⟩;refine lg false cC cC cC S rfl (Q:=λb K V D af=>qd T leaf no w (.tuple #[.agg #[b,K,V,D],(4:Int)]) af) λaC g=>?_;obtain⟨f1,f2⟩:=fin aC (ct (W:=λq=>q=w.heap.size) (ad.bA v) g λq _ e=>e);refine⟨br,f1,f2,j,.inr ⟨4,rfl,.inr (.inr ⟨rfl,⟨p,f⟩,?_⟩),by decide⟩⟩;rintro n ⟨ao,aJ,aW,_⟩;rw[f]at aJ;cases aJ;omega
   .have hg:p.gen<=T.gen:=by
     have:¬(p.gen:Int)>(T.gen:Int):=cx hg;omega
    refine bK (λb w'=>w'=d.drew/\(b=false↔p.kind=(if leaf then 1 else 2))) (λq c=>⟨λh=>c _ _ ⟨rfl,?_⟩,λh=>⟨_,U,bK (λb w'=>w'=d.drew/\(b=false↔p.kind=(if leaf then 1 else 2))) (λr ap=>⟨λh2=>⟨_,U,ap _ _ ⟨rfl,?_⟩⟩,λh2=>ap _ _ ⟨rfl,?_⟩⟩) λb w' a1=>c b w' a1⟩⟩) ?_
    .refine⟨λh=>(by cases h),λo=>?_⟩
     rw[o]at h
     cases leaf<;>simp at h
    .cases leaf
     .simp
      exact Int.ofNat_inj
     .simp at h2 h;omega
    .cases leaf
     .simp at h2 h;omega
     .simp at h2
      simp;omega
    rintro b' _ ⟨rfl,o⟩;refine⟨λhb=>?_,λhb=>⟨_,a0,(rR ((R.ext (Ext.bO l m J|>.trans (bC _))).src) ?_ ?_ ?_ leaf).use ?_⟩⟩
    .refine lg false cC cC cC S rfl (Q:=λb K V D af=>qd T leaf no w (.tuple #[.agg #[b,K,V,D],(4:Int)]) af) λaC g=>?_
     obtain⟨f1,f2⟩:=fin aC (ct (W:=λq=>q=w.heap.size) (ad.bA v) g λq _ e=>e);refine⟨br,f1,f2,j,.inr ⟨4,rfl,.inr (.inr ⟨rfl,⟨p,f⟩,?_⟩),by decide⟩⟩;rintro n ⟨ao,aJ,aW,aq,_⟩;rw[f]at aJ;cases aJ;rw[o.2 aq]at hb;cases hb
    .exact R.2.1
    .intro k o
     have:=aS.lt R k o;have:=l.size;show k<d.heap.size;omega
    .have:=KT f
     omega
    rintro _ a2 ⟨a3,ar⟩;have au:Ext aA a2:=v.trans ar;have ax:=S.ext ar;rcases a3 with ⟨n,K,V,D,rfl,a4,dJ⟩|⟨rfl,a5⟩
    .refine⟨n.leaf,K,V,D,0,rfl,?_⟩
     refine lg n.leaf K V D ax rfl (Q:=λb K V D af=>qd T leaf no w (.tuple #[.agg #[b,K,V,D],(0:Int)]) af) λaC g=>?_;obtain⟨f1,f2⟩:=fin aC (ct (W:=λq=>q=w.heap.size) (ad.bA au) g λq _ e=>e);refine⟨br,f1,f2,j,.inl ⟨n,K,V,D,rfl,⟨p,f,hg,o.1 hb,a4,Y⟩,?_⟩⟩;refine aL (B:=λ_=>True) (dB.ak (dJ.cp λq _ c=>?_) g λq c e=>?_)
     .omega
     .have:aA.heap.size<=q:=c
      omega
    .refine⟨false,cC,cC,cC,4,rfl,?_⟩
     refine lg false cC cC cC ax rfl (Q:=λb K V D af=>qd T leaf no w (.tuple #[.agg #[b,K,V,D],(4:Int)]) af) λaC g=>?_;obtain⟨f1,f2⟩:=fin aC (ct (W:=λq=>q=w.heap.size) (ad.bA au) g λq _ e=>e);refine⟨br,f1,f2,j,.inr ⟨4,rfl,.inr (.inr ⟨rfl,⟨p,f⟩,?_⟩),by decide⟩⟩;rintro n ⟨ao,aJ,aW,aq,a6,_⟩;rw[f]at aJ;cases aJ;exact a5 n a6
 .refine⟨⟨none,0,0⟩,3,rfl,λ_=>?_,λhb=>(by cases hb)⟩
  refine lg false cC cC cC al rfl (Q:=λb K V D af=>qd T leaf no w (.tuple #[.agg #[b,K,V,D],(3:Int)]) af) λaC g=>?_;obtain⟨f1,f2⟩:=fin aC g;exact⟨br,f1,f2,j,.inr ⟨3,rfl,.inl ⟨rfl,aN⟩,by decide⟩⟩
theorem hX.uniq{gen no:Nat}{leaf:ai}{l:cL}{n m:bo}(h1:hX gen leaf no l n)(h2:hX gen leaf no l m):n=m:=by
 obtain⟨p,a1,a2,a3,a4⟩:=h1;obtain⟨q,a,c,d,b⟩:=h2;rw[a1]at a
 cases a;exact mi.uniq a4.1 b.1
theorem hX.is{gen no:Nat}{leaf:ai}{l:cL}{n:bo}(h:hX gen leaf no l n):n.leaf=leaf/\ee n/\ij n<=232:=by
 obtain⟨p,_,_,_,a,_⟩:=h;exact⟨a.2.1,a.1,a.2.2.1⟩
theorem hX.two{gen no:Nat}{leaf:ai}{l:cL}{n:bo}(h:hX gen leaf no l n):2<=no:=by
 obtain⟨p,_,_,_,_,a⟩:=h;exact a
theorem KV{h:Nat}{n:bo}(a:n.leaf=decide (h=0)):((((h+1:Nat):Int):Int)==1)=n.leaf:=by
 rw[a,eX,jw,cT];omega
def bf.jN(T:bf)(f:Nat->ai):bf:={T with f:=f}
structure gV where
 cb:Nat
 ma:ag
 jo:ag
 made:Y Nat
 left:Y Nat
structure fF(w:I)(T:bf)(c:gV):Prop where
 t:ck w T
 v:Var w c.cb [.pointer (some T.bh),c.ma,c.jo] 463
 ma:aS 1 3 w c.ma (ep c.made)
 jo:aS 1 3 w c.jo (ep c.left)
 gc:T.G c.cb
 gd:∀q,aD c.ma q->T.G q/\q≠c.cb/\¬aD c.jo q
 qe:∀q,aD c.jo q->T.G q/\q≠c.cb
 ns:¬T.C.D.ro
theorem E0{w:I}{s:ag}{ds:Y Nat}(d:Nat)(b:aS 1 3 w s (ep ds))(i:ds.length<=1000000):
 ∃ (a:ag) (w':I),Sem.run ah (Builtin.append_ #[52,52] 52 #[s,.slice (some w.heap.size) 1 1]) (w.alloc (.cells #[d] 3))=.ok a w'/\
  aS 1 3 w' a (ep (ds++ [d]))/\ad (aD s) w w'/\(∀k,aD a k->aD s k\/w.heap.size<=k)/\ad (aD s) (w.alloc (.cells #[d] 3)) w':=by
 have j:s.len=ds.length:=by have:=b.1;rw[pW]at this;omega
 have hc:Ext w (w.alloc (.cells #[d] 3)):=cM _ _;have l:(w.alloc (.cells #[d] 3)).heap.size=w.heap.size+1:=mj _ _;obtain⟨a,w',h1,h2,m,c,e⟩:=uu.append (c4:=52) (x:=⟨some w.heap.size,1,1⟩) (Src.new (T:=3) w [d] 1 rfl) (b.ext hc) (λv f=>by rw[dH.1 f];trivial) (by show(2*(s.len+1)+1000)*8<=_;omega);exact⟨a,w',h1,by simpa[ep] using h2,(ad.bA hc).trans c,λk g=>(e k g).imp id (λh=>J),c⟩
section
variable {w w':I}{T ay:bf}{c:gV}
theorem fF.of{W:Nat->Prop}(h:fF w T c)(d:ck w' ay)(hc:ad W w w')(b4:∀q,T.G q->¬W q)(f:ay.bh=T.bh)(b:∀q,T.G q->ay.G q)(g:ay.C.D.b6=T.C.D.b6:=by rfl):fF w' ay c:=
 ⟨d,by rw[f];exact h.v.ak hc (b4 _ h.gc),h.ma.ak hc λq a=>b4 q (h.gd q a).1,h.jo.ak hc λq a=>b4 q (h.qe q a).1,b _ h.gc,λq a=>⟨b q (h.gd q a).1,(h.gd q a).2⟩,λq a=>⟨b q (h.qe q a).1,(h.qe q a).2⟩,λe=>h.ns λi=>g▸e i⟩
theorem fF.ext(h:fF w T c)(hx:Ext w w'):fF w' T c:=h.of (h.t.ext hx) hx (λ_ _ h=>h) rfl λ_ h=>h
theorem fF.cells(h:fF w T c):w.cell? c.cb=some (.pointer (some T.bh))/\w.cell? (Addr.add c.cb 1)=some (.slice c.ma.a c.ma.len c.ma.cap)/\w.cell? (Addr.add c.cb 2)=some (.slice c.jo.a c.jo.len c.jo.cap):=by
 rw[av,av];exact⟨h.v.cell,h.v.cell,h.v.cell⟩
theorem ck.yE(h:ck w T){q:Nat}(a:T.G q):¬c3 T.C q:=λhf=>(h.ca.inv.fp q (.inr (.inr (.inr a)))).2 hf
theorem ck.yF{f:Nat->ai}(h:ck w T)(hs:eW w' T.sb T.n f T.g T.s1 T.s2)(hc:ad (ga T.sb T.s1 T.s2) w w'):ck w' (T.jN f)/\cD T (T.jN f) w w' 0:=
 ⟨⟨h.t.ak hc h.kJ,hs,h.ca.ak hc λq a=>.inr (.inl a),h.kJ,h.dX,h.jM,h.n,h.num,h.gb,h.b6,h.low⟩,
  ⟨rfl,rfl,rfl,rfl,rfl,rfl,rfl,rfl,rfl,rfl,bk _,λ_ h=>h,hc.mono λq _ a=>.inr (.inr (.inl a)),λq h=>.inl h,λq h=>.inl h⟩⟩
theorem KW(h:fF w T c)(no:Nat)(x:c.made.length<=100000):
 ∃ (b:ag) (af:I),Sem.run ah (Builtin.append_ #[52,52] 52 #[c.ma,.slice (some w.heap.size) 1 1]) (w.alloc (.cells #[no] 3))=.ok b af/\
  ad (aD c.ma) (w.alloc (.cells #[no] 3)) af/\(∃u:O,af.cell? ⟨c.cb,1,none⟩=some u)/\af.frozen? ⟨c.cb,1,none⟩=false/\
  ∀j,j=af.setCell ⟨c.cb,1,none⟩ b->fF j (T.dw T.E λq=>T.G q\/aD b q) {c with ma:=b,made:=c.made++ [no]}/\cD T (T.dw T.E λq=>T.G q\/aD b q) w j 0:=by
 obtain⟨b,af,aJ,aW,d,f,o⟩:=E0 no h.ma J;have b4:∀q,aD c.ma q->T.G q:=λq a=>(h.gd q a).1;have y:=d.size;have l:=h.v.ak d λa=>(h.gd _ a).2.1 rfl;obtain⟨bH,bL⟩:=ef l (i:=1) (by simp);refine⟨b,af,aJ,o,bH,bL,?_⟩;rintro _ rfl;have g:=dD af c.cb 1 b;have p:=er l (i:=1) b;have k:ad T.G w (af.setCell ⟨c.cb,1,none⟩ b):=ct (d.mono λq _ a=>b4 q a) g λq _ e=>by rw[e];exact h.gc
 have z:=k.size;have aI:∀q,aD b q->q<af.heap.size:=λq a=>aS.lt aW q a;have m:∀q,aD b q->T.G q\/(w.heap.size<=q/\q<(af.setCell ⟨c.cb,1,none⟩ b).heap.size):=λq a=>by
  rcases f q a with h1|h1
  .exact .inl (b4 q h1)
  .exact .inr ⟨h1,by have:=aI q a;have:=g.size;omega⟩
 have n:∀q,aD b q->q≠c.cb:=λq a e=>by
  rcases f q a with h1|h1
  .exact(h.gd q h1).2.1 e
  .have:=h.v.lt;omega
 have r:∀q,aD b q->¬aD c.jo q:=λq a e=>by
  rcases f q a with h1|h1
  .exact(h.gd q h1).2.2 e
  .have:=aS.lt h.jo q e;omega
 have s:=h.t.grow (E:=T.E) (G:=λq=>T.G q\/aD b q) k (λq a _=>.inr a) (λq a=>.inl a) (λq a=>by
  rcases a with a|a
  .exact .inr (.inl a)
  .exact .inr (m q a)) λq a hg=>by
  rcases hg with hg|hg
  .exact(h.t.dX q a).2.2 hg
  .rcases f q hg with h1|h1
   .exact(h.t.dX q a).2.2 (b4 q h1)
   .have:=h.t.lt (q:=q) (.inr (.inr (.inr (.inl a))));omega
 refine⟨⟨s,p,?_,(h.jo.ak d λq a e=>(h.gd q e).2.2 a).ak g λq a e=>(h.qe q a).2 e,.inl h.gc,λq a=>⟨.inr a,n q a,r q a⟩,λq a=>⟨.inl (h.qe q a).1,(h.qe q a).2⟩,h.ns⟩,?_⟩
 .have:aS 1 3 af b (ep (c.made++ [no])):=aW
  exact this.ak g λq a e=>n q a e
 .have h0:cD T T w w 0:=.refl _ _
  exact h0.step k (λq a _=>.inr (.inr (.inr a))) (λq a=>.inl a) λq a=>by
   rcases a with a|a
   .exact .inl a
   .exact(m q a).imp id λe=>e.1
end
def cS(T:bf):Nat:=T.n-eO (λi=>T.f i||T.g i) T.n
theorem E1{s t:Nat->ai}:∀ {n:Nat},(∀i,i<n->s i=t i)->eO s n=eO t n
 |0,_=>rfl
 |n+1,h=>by
  unfold eO
  rw[E1 (n:=n) λi hi=>h i J,h n J]
theorem uD{s t:Nat->ai}{k:Nat}(a:s k=false)(ht:t k=true)(he:∀i,i≠k->t i=s i):∀ {n:Nat},k<n->eO t n=eO s n+1
 |0,h=>by omega
 |n+1,h=>by
  unfold eO
  by_cases e:k=n
  .subst e
   rw[E1 (s:=t) (t:=s) (n:=k) λi hi=>he i J,a,ht]
   simp
  .rw[uD a ht he (n:=n) J,he n J]
   omega
theorem E2{t:Nat->ai}:∀ {n:Nat},(∀i,i<n->t i=true)->eO t n=n
 |0,_=>rfl
 |n+1,h=>by
  unfold eO
  rw[E2 (n:=n) λi hi=>h i J,h n J]
  simp
theorem E3{T:bf}(h:1<=cS T):∃no,firstFree (λi=>T.f i||T.g i) T.n=some no:=by
 cases hf:firstFree (λi=>T.f i||T.g i) T.n with
 |some no=>exact⟨no,rfl⟩
 |none=>
  have:=E2 (Kp hf);unfold cS at h;rw[this]at h;omega
structure iX(T ay:bf)(c c':gV)(m l:Y Nat)(w w':I)(k:Nat):Prop where
 to:cD T ay w w' k
 E:ay.E=T.E
 G:∀q,T.G q->ay.G q
 root:ay.root=T.root
 bg:ay.bg=T.bg
 cb:c'.cb=c.cb
 made:c'.made=c.made++m
 left:c'.left=c.left++l
 bZ:m.Nodup
 ng:∀no∈m,(T.f no||T.g no)=false/\no<T.n
 f:∀no,ay.f no=(T.f no||decide (no∈m))
 fb:∀no,(T.f no||T.g no)=true->ay.P no=T.P no/\ay.C.view no=T.C.view no
 room:cS ay+m.length=cS T
theorem iX.ext{w w':I}(T:bf)(c:gV)(h:Ext w w'):iX T T c c [] [] w w' 0:=
 ⟨.ext T h,rfl,λ_ h=>h,rfl,rfl,rfl,by simp,by simp,List.nodup_nil,λ_ h=>(by cases h),λno=>by simp,λ_ _=>⟨rfl,rfl⟩,by simp⟩
theorem iX.trans{T ay j:bf}{c c' o:gV}{m p l r:Y Nat}{w w' s:I}{k t:Nat}(h1:iX T ay c c' m l w w' k)(h2:iX ay j c' o p r w' s t):iX T j c o (m++p) (l++r) w s (k+t):=by
 have hg:ay.g=T.g:=h1.to.g;have u:ay.n=T.n:=h1.to.n;have hf:∀no,(T.f no||T.g no)=true->(ay.f no||ay.g no)=true:=λno h=>by
  rw[h1.f,hg]
  cases d:T.f no<;>cases i:T.g no<;>simp[d,i]at h⊢
 refine⟨h1.to.trans h2.to,h2.E.trans h1.E,λq h=>h2.G q (h1.G q h),h2.root.trans h1.root,h2.bg.trans h1.bg,h2.cb.trans h1.cb,by rw[h2.made,h1.made,gE],by rw[h2.left,h1.left,gE],?_,λno h=>?_,λno=>?_,λno h=>?_,?_⟩
 .rw[mH]
  refine⟨h1.bZ,h2.bZ,λa v b hb e=>?_⟩;subst e;have:=(h2.ng a hb).1;rw[h1.f]at this;simp[v]at this
 .rcases ed.1 h with h|h
  .exact h1.ng no h
  .have d:=h2.ng no h
   rw[h1.f,hg,u]at d;refine⟨?_,d.2⟩
   cases x:T.f no<;>cases y:T.g no<;>simp[x,y]at d⊢
 .rw[h2.f,h1.f]
  simp only[ed,Bool.decide_or,Bool.or_assoc]
 .have d:=h2.fb no (hf no h)
  have i:=h1.fb no h;exact⟨d.1.trans i.1,d.2.trans i.2⟩
 .have:=h1.room
  have:=h2.room;rw[ej];omega
theorem iX.mono{T ay:bf}{c c':gV}{m l:Y Nat}{w w':I}{k j:Nat}(h:iX T ay c c' m l w w' k)(a:k<=j):iX T ay c c' m l w w' j:=⟨h.to.mono a,h.E,h.G,h.root,h.bg,h.cb,h.made,h.left,h.bZ,h.ng,h.f,h.fb,h.room⟩
def E4(T:bf)(c:gV)(n:bo)(w:I)(v:O)(w':I):Prop:=
 ∃ (no:Nat) (ay:bf) (c':gV),fF w' ay c'/\iX T ay c c' [no] [] w w' 1/\
  ((v=.tuple #[no,(0:Int)]/\ay.P no=some n)\/(v=.tuple #[no,(3:Int)]/\¬T.C.D.calm 1))
theorem ee.hD{n:bo}(h:ee n)(h2:ij n<=400):n.keys.length<=200/\n.vals.length<=200/\n.kids.length<=201:=by
 have:=Ax h;rcases h with h|h
 .have:=h.len
  have a:n.kids.length=0:=by rw[h.kids];rfl
  omega
 .have:=h.len
  have a:n.vals.length=0:=by rw[h.vals];rfl
  omega
theorem KX{B:Nat->Prop}{w:I}{T:bf}{c:gV}{n:bo}{K V D:ag}(h:fF w T c)(ba:T.C.D.bu<=900000100)(U:1<=cS T)(bb:c.made.length<=1000)(aB:dB B w n K V D)(hs:ee n)(h2:ij n<=232):
 az ah 361 #[.pointer (some c.cb),gl n K V D] w (E4 T c n w):=by
 obtain⟨no,W⟩:=E3 U;obtain⟨r,u,_⟩:=EB W;have F:=h.t.s.bF;have bc:=hs.hD J;refine okF (Z.wC (some c.cb) n.leaf K V D) aj.wC func361 ?_;(delta Z.wC bB aa bd a_ eK ae aw mQ ap st db aE bx;dsimp only);refine aV (vs:=[n.leaf,K,V,D]) rfl λw1 X Y be=>?_;obtain⟨dC,cd,cI,aC⟩:=dv X;refine⟨_,dC,K,cd,V,cI,D,aC,(q5 (aB.ext Y) J J J).use ?_⟩;rintro _ aF ⟨aG,ab⟩;rcases aG with ⟨s,rfl,aH,aI,_,_⟩|⟨e,rfl,he,aK⟩
 rotate_left
 .have:=aK hs;omega
 have H:=Y.trans ab;have o:=h.ext H;refine⟨s,0,rfl,λhb=>(by cases hb),λ_=>⟨_,rfl,_,o.cells.1,_,rfl,_,o.t.cells.2.1,(ED o.t.s).use ?_⟩⟩;rintro _ aL ⟨rfl,gY,ac⟩;rw[W]at gY⊢;obtain⟨aM,L⟩:=o.t.yF gY ac;have af:fF aL (T.jN (c9 T.f no true)) c:=o.of aM ac (λq a hf=>(h.t.jM q a).2 hf) rfl λ_ h=>h;refine⟨(no:Nat),0,rfl,λhb=>(by cases hb),λ_=>⟨_,rfl,_,af.cells.2.1,?_⟩⟩;obtain⟨y,bt,aJ,aW,aN,aO,aP⟩:=KW af no J;refine aQ ⟨y,bt,aJ,_,rfl,by rw[av];exact aN,by rw[av];exact aO,aQ ?_⟩;rw[av];obtain⟨m,ai⟩:∃m,m=bt.setCell ⟨c.cb,0+1,none⟩ y:=⟨_,rfl⟩;rw[←ai];obtain⟨z,M⟩:=aP m ai;obtain⟨am,bg⟩:∃am,am=λq=>T.G q\/aD y q:=⟨_,rfl⟩;have an:∀q,T.N q->q<w.heap.size:=λq a=>h.t.lt (bf.su a);have bh:=H.size;have bi:=L.ak.size;have bj:=M.ak.size;have ao:ad T.N aF m:=L.ak.trans M.ak;have aR:Var m w.heap.size [n.leaf,K,V,D] 404:=(X.ext ab).ak ao λa=>by have:=an _ a;omega
 have aT:aS 1 5 m s (ax (jI n)):=aH.ak ao λq a aU=>by have:=an _ aU;have:=aI q a;omega
 have hlen:=Dz hs;have F:2<=no:=by
  have e:(T.f no||T.g no)=false:=u;have A:T.g no=false:=by cases hg:T.g no<;>simp_all
  have:=h.t.low;rcases eP no 2 with Q|Q
  .rcases sX no with aq|aq
   .rw[aq,this.1]at A;cases A
   .rw[show no=1 from J,this.2]at A;cases A
  .exact Q
 have R:ot ⟨if n.leaf then 1 else 2,T.gen,jI n⟩:=by
  refine⟨?_,?_,h.t.num.2.2,by show(jI n).length<=232;omega⟩
  .show 1<=(if n.leaf then 1 else 2);split<;>omega
  .show(if n.leaf then 1 else 2)<=4;split<;>omega
 refine bK (λn27 aX=>n27=((if n.leaf then 1 else 2:Nat):Int)/\aX=m) (λq a=>⟨n.leaf,aR.cell,λhb=>a _ _ ⟨by rw[hb];rfl,rfl⟩,λhb=>a _ _ ⟨by rw[hb];rfl,rfl⟩⟩) ?_;rintro _ _ ⟨rfl,rfl⟩;refine⟨_,rfl,_,z.cells.1,_,rfl,_,z.t.cells.2.2.1,(yj (no:=no) (p:=⟨if n.leaf then 1 else 2,T.gen,jI n⟩) aT.src J R).use ?_⟩;rintro _ bY ⟨s2,rfl,ar,au,aY⟩;have d:=z.ext au;refine⟨s2,0,rfl,λhb=>(by cases hb),λ_=>⟨_,rfl,_,d.cells.1,_,rfl,_,d.t.cells.1,(EY d.t.ca (by show T.C.D.bu<=999999999;omega) (no:=no) (by rw[d.t.n];exact r) F (λhs=>by have:=d.t.b6 no hs;have e:(T.f no||T.g no)=false:=u;rcases this with this|this;(rw[show T.g no=true from this,Bool.or_true]at e;cases e);exact d.ns this) ar.src (uq no R) λq a=>⟨aS.lt ar q a,λhf=>?_⟩).use ?_⟩⟩
 .have:=aY q a
  have:=z.t.lt (q:=q) (.inl hf);omega
 rintro _ aZ ⟨br,a0,S,a1⟩;have a2:∀j,c9 T.f no true j=(T.f j||decide (j∈ [no])):=λj=>by
  unfold c9;by_cases e:j=no
  .subst e;simp
  .simp[e]
 have aA:(T.f no||T.g no)=false:=u;have a3:T.n-eO (λi=>c9 T.f no true i||T.g i) T.n+1=cS T:=by
  have:=uD (s:=λi=>T.f i||T.g i) (t:=λi=>c9 T.f no true i||T.g i) (k:=no) u (by simp[c9]) (λi hi=>by simp[c9,hi]) r;unfold cS at U⊢;have Q:=m9 (λi=>T.f i||T.g i) T.n;omega
 have main:∀ (P':Nat->al bo) (v:O),(∀j,j≠no->P' j=T.P j)->(∀j,j≠no->br.view j=T.C.view j)->(∀j bZ,P' j=some bZ->j<T.n/\hX T.gen bZ.leaf j (br.view j) bZ)->
  ((v=.tuple #[no,(0:Int)]/\P' no=some n)\/(v=.tuple #[no,(3:Int)]/\¬T.C.D.calm 1))->E4 T c n w v aZ:=by
  intro P' v a4 dr a5 l;obtain⟨a6,a7⟩:=d.t.yC (P:=P') a0 S a5;have a8:=d.of (ay:=((T.jN (c9 T.f no true)).dw T.E λq=>T.G q\/aD y q).dL br P') a6 S.ak (λq a=>d.t.yE a) rfl (λ_ h=>h) S.b6;refine⟨no,_,_,a8,⟨?_,rfl,λq a=>.inl a,rfl,rfl,rfl,rfl,(qy _).symm,by simp,λx hx=>?_,a2,λj b=>?_,a3⟩,l⟩
  .have:=(((cD.ext T H).trans L).trans M).trans ((cD.ext _ au).trans a7)
   exact this.mono J
  .obtain rfl:=dH.1 hx
   exact⟨aA,r⟩
  .have:j≠no:=λe=>by rw[e,aA]at b;cases b
   exact⟨a4 j this,dr j this⟩
 rcases a1 with ⟨rfl,l⟩|⟨rfl,a9,l⟩
 .refine⟨0,rfl,main (λj=>if j=no then some n else T.P j) _ (λj b=>if_neg b) (λj b=>(l j).trans (if_neg b)) (λj bZ b=>?_) (.inl ⟨rfl,if_pos rfl⟩)⟩
  by_cases e:j=no
  .subst e
   rw[if_pos rfl]at b
   cases b;rw[l,if_pos rfl];exact⟨r,_,ye J R,bk _,rfl,⟨hs,rfl,h2,rfl⟩,F⟩
  .rw[if_neg e]at b
   rw[l,if_neg e];exact h.t.gb j bZ b
 .refine⟨3,rfl,main T.P _ (λ_ _=>rfl) (λj _=>l j) (λj bZ b=>?_) (.inr ⟨rfl,a9⟩)⟩
  rw[l];exact h.t.gb j bZ b
theorem KY(w:I)(x:Int):Sem.run ah (Instr.buildSlice 486 1 #[(0,.agg #[(),x])]) w=
 .ok (.slice (some w.heap.size) 1 1) (w.alloc (.cells #[(),x] 494)):=by kernel_rfl
def E5(B:Nat->Prop)(w:I)(s:ag)(c:Y Key)(kids:Y Nat):Prop:=
 (∃b x,s=⟨some ⟨b,0,none⟩,1,1⟩/\c=[]/\kids=[x]/\Var w b [.slice none 0 0,.int .i64 (x:Nat)] 494/\B b)\/
 (∃b x y k t,s=⟨some ⟨b,0,none⟩,2,2⟩/\c=[k]/\kids=[x,y]/\Var w b [.slice none 0 0,.int .i64 (x:Nat),.slice t.a t.len t.cap,.int .i64 (y:Nat)] 494/\B b/\cE B w t k/\k≠ [])
def nh(T:bf)(c:gV)(n:bo)(w:I)(v:O)(w':I):Prop:=
 ∃ (ay:bf) (c':gV) (m:Y Nat) (s:ag),fF w' ay c'/\iX T ay c c' m [] w w' 2/\m.length<=2/\
  ((∃a,v=.tuple #[s,(0:Int)]/\Dw ay.P n a m/\E5 (λq=>¬ay.M q) w' s a m)\/(v=.tuple #[s,(3:Int)]/\¬T.C.D.calm 2))
theorem KZ{B:Nat->Prop}{w:I}{T:bf}{c:gV}{n:bo}{K V D:ag}(h:fF w T c)(l:T.C.D.bu<=900000100)(m:1<=cS T)(o:c.made.length<=1000)(p:dB B w n K V D)(hs:ee n)(h2:ij n<=232):
 az ah 351 #[.pointer (some ⟨c.cb,0,none⟩),gl n K V D] w (nh T c n w):=by
 refine okF (Z.x1 (some ⟨c.cb,0,none⟩) n.leaf K V D) aj.x1 func351 ?_;(delta Z.x1 bB aa bd a_ mQ;dsimp only);refine aV (vs:=[.bool n.leaf,.slice K.a K.len K.cap,.slice V.a V.len V.cap,.slice D.a D.len D.cap]) rfl λw1 q f z=>?_;obtain⟨dC,cd,cI,r⟩:=dv q;refine⟨_,dC,K,cd,V,cI,D,r,(KX (h.ext f) l m o (p.ext f) hs h2).use ?_⟩;rintro _ b ⟨no,ay,c',g,s,u⟩;have i:∀ (e:Int),((e=0/\ay.P no=some n)\/(e=3/\¬T.C.D.calm 1))->∃ (d:ag) (j:I),Sem.run ah (Instr.buildSlice 486 1 #[(0,.agg #[.slice none 0 0,.int .i64 (no:Nat)])]) b=.ok (.slice d.a d.len d.cap) j/\nh T c n w (.tuple #[.slice d.a d.len d.cap,.int .i64 e]) j:=by
  intro e he;refine⟨⟨some ⟨b.heap.size,0,none⟩,1,1⟩,_,KY b _,?_⟩;have k:=cM b (.cells #[.slice none 0 0,.int .i64 (no:Nat)] 494);have v:iX T ay c c' [no] [] w (b.alloc (.cells #[.slice none 0 0,.int .i64 (no:Nat)] 494)) 2:=(((iX.ext T c f).trans s).trans (iX.ext ay c' k)).mono J;refine⟨ay,c',[no],⟨some ⟨b.heap.size,0,none⟩,1,1⟩,g.ext k,v,by simp,?_⟩;rcases he with ⟨rfl,he⟩|⟨rfl,he⟩
  .refine .inl ⟨[],rfl,.inl ⟨h2,no,rfl,rfl,he⟩,.inl ⟨_,no,rfl,rfl,rfl,Var.new b [.slice none 0 0,.int .i64 (no:Nat)] 494,λhm=>?_⟩⟩
   have:=g.t.lt hm;omega
  .exact .inr ⟨rfl,λhc=>he (j_ hc J)⟩
 rcases u with ⟨rfl,x⟩|⟨rfl,y⟩
 .exact⟨_,0,rfl,i 0 (.inl ⟨rfl,x⟩)⟩
 .exact⟨_,3,rfl,i 3 (.inr ⟨rfl,y⟩)⟩
theorem uE{b:ai}{K V D:ag}:∀v∈ [.bool b,.slice K.a K.len K.cap,.slice V.a V.len V.cap,.slice D.a D.len D.cap],Plain v:=by
 intro v c;simp only[cW,fh,ft]at c;rcases c with rfl|rfl|rfl|rfl<;>trivial
theorem nh.base{T:bf}{c:gV}{n:bo}{w0 w w':I}{v:O}(h:nh T c n w v w')(hx:Ext w0 w):nh T c n w0 v w':=by
 obtain⟨ay,c',m,s,aJ,aW,a,b⟩:=h;exact⟨ay,c',m,s,aJ,((iX.ext T c hx).trans aW).mono J,a,b⟩
theorem nh.out{T:bf}{c:gV}{n:bo}{w w':I}{v:O}(h:nh T c n w v w'):∃ (s:ag) (e:Int),v=.tuple #[s,e]:=by
 obtain⟨ay,c',m,s,aJ,aW,b,a⟩:=h;rcases a with ⟨d,rfl,_⟩|⟨rfl,_⟩
 .exact⟨s,0,rfl⟩
 .exact⟨s,3,rfl⟩
theorem cD.read{w w':I}{T:bf}{E:Nat->Prop}{br:cj}{P:Nat->al bo}{k:Nat}(h:cD (T.dw E λ_=>False) ((T.dw E λ_=>False).dL br P) w w' k)(e:∀q,T.E q\/T.G q->E q)(f:∀q,E q->T.E q\/T.G q\/w.heap.size<=q):cD T (T.dL br P) w w' k:=by
 refine⟨h.bh,h.sb,h.n,h.g,h.s1,h.s2,h.c,h.d,h.bq,h.gen,h.bu,h.calm,h.ak.mono λq _ a=>?_,λq a=>?_,λq a=>?_⟩
 .rcases a with a|a|a|a
  .exact .inl a
  .exact .inr (.inl a)
  .exact .inr (.inr (.inl a))
  .exact a.elim
 .have h1:((T.dw E λ_=>False).dL br P).M q:=by
   rcases a with a|a|a|a
   .exact .inl a
   .exact .inr (.inl a)
   .exact .inr (.inr (.inl a))
   .exact .inr (.inr (.inr (.inl (e q a))))
  rcases h.cV q h1 with h2|h2
  .rcases h2 with a|a|a|a|a
   .exact .inl (.inl a)
   .exact .inl (.inr (.inl a))
   .exact .inl (.inr (.inr (.inl a)))
   .rcases f q a with b|b|b
    .exact .inl (.inr (.inr (.inr (.inl b))))
    .exact .inl (.inr (.inr (.inr (.inr b))))
    .exact .inr b
   .exact a.elim
  .exact .inr h2
 .rcases a with a|a|a|a
  .rcases h.fn q (.inl a) with h2|h2
   .rcases h2 with h2|h2|h2|h2
    .exact .inl (.inl h2)
    .exact .inl (.inr (.inl h2))
    .exact .inl (.inr (.inr (.inl h2)))
    .exact h2.elim
   .exact .inr h2
  .exact .inl (.inr (.inl a))
  .exact .inl (.inr (.inr (.inl a)))
  .exact .inl (.inr (.inr (.inr a)))
structure A5(T ay:bf)(l:Y Nat)(w w':I):Prop where
 to:cD T ay w w' 0
 E:ay.E=T.E
 G:ay.G=T.G
 root:ay.root=T.root
 bg:ay.bg=T.bg
 f:∀no,ay.f no=(T.f no&& !decide (no∈l))
 fb:∀no,(no∉l\/T.g no=true)->ay.P no=T.P no/\ay.C.view no=T.C.view no
theorem E6{w:I}{T:bf}{c:gV}{s:ag}{l:Y Nat}(h:fF w T c)(hs:Src 1 w s (ep l))(z:∀q,aD s q->T.G q)(O:∀x∈l,T.f x=true)(dJ:l.Nodup)(ad:l.length<=10000):
 az ah 328 #[.pointer (some c.cb),s] w (λv w'=>v=.tuple #[]/\∃ay:bf,fF w' ay c/\A5 T ay l w w'):=by
 have af:s.len=l.length:=by have:=hs.len;rw[pW]at this;omega
 refine okF (Z.xT (some c.cb) s) aj.xT func328 ?_;(delta Z.xT cR ae bj bX r1 bz aw bn bx an;dsimp only);refine⟨λi w'=>∃ (j:Nat) (ay:bf),i=j/\j<=l.length/\fF w' ay c/\A5 T ay (l.take j) w w'/\Src 1 w' s (ep l),λi _=>((l.length:Int)-i).toNat,⟨0,T,rfl,dd _,h,⟨.refl _ _,rfl,rfl,rfl,rfl,λno=>by simp,λ_ _=>⟨rfl,rfl⟩⟩,hs⟩,?_⟩;rintro _ aA ⟨j,cX,rfl,ai,h1,hg,B⟩;refine⟨λaI=>?_,λp=>?_⟩
 .have aI:j<l.length:=by
   have:(j:Int)<(s.len:Int):=b3 aI;omega
  have C:cX.f l[j]=true:=by
   rw[hg.f,O _ (cO aI)];have:l[j]∉l.take j:=λhm=>by
    obtain⟨i,hi,he⟩:=eZ hm;rw[fg]at hi;rw[List.getElem_take]at he;have:=(List.getElem_inj dJ).1 he;omega
   simp[this]
  have al:l[j]<cX.n:=by
   rcases eP l[j] cX.n with h2|h2
   .exact h2
   .have:=h1.t.s.pf _ h2
    rw[C]at this;cases this
  obtain⟨A,au,hb,hc⟩:=B.at (i:=j) (v:=.int .i64 ((l[j]:Nat):Int)) (by simp[ep,aI]);refine k9 (λw'=>∃c6:bf,fF w' c6 c/\A5 T c6 (l.take (j+1)) w w'/\Src 1 w' s (ep l)) (λq a=>⟨A,au,hb,_,hc,_,rfl,_,h1.cells.1,_,rfl,_,h1.t.cells.2.1,(Ku h1.t.s _).use ?_⟩) ?_
  .rintro _ _ ⟨rfl,rfl⟩
   refine⟨_,rfl,_,rfl,_,h1.cells.1,_,rfl,_,h1.t.cells.2.1,(EE h1.t.s _).use ?_⟩;rintro _ D ⟨rfl,gY,r⟩;have Q:oz cX.f cX.n ((l[j]:Nat):Int)=c9 cX.f l[j] false:=by
    unfold oz;rw[if_pos ⟨J,J⟩,dW]
   rw[Q]at gY;obtain⟨R,F⟩:=h1.t.yF gY r;have d:fF D (cX.jN (c9 cX.f l[j] false)) c:=h1.of R r (λq a hf=>(h1.t.jM q a).2 hf) rfl λ_ h=>h;have H:Src 1 D s (ep l):=B.ak r λq a hf=>(h1.t.jM q (by rw[hg.G];exact z q a)).2 hf;have S:(decide ((0:Int)<=((l[j]:Nat):Int))&&decide (((l[j]:Nat):Int)<(cX.n:Nat))&&cX.f (Int.toNat ((l[j]:Nat):Int))&& !(cX.g (Int.toNat ((l[j]:Nat):Int))))= !(cX.g l[j]):=by
    rw[dW,C,eB J,eB J];simp
   have K:∀no,c9 cX.f l[j] false no=(T.f no&& !decide (no∈l.take (j+1))):=λno=>by
    rw[jZ aI];unfold c9;by_cases e:no=l[j]
    .rw[if_pos e,e,eB (ed.2 (.inr (dH.2 rfl)))]
     exact(s0 _).symm
    .rw[if_neg e,hg.f]
     have aU:decide (no∈l.take j++ [l[j]])=decide (no∈l.take j):=by
      rw[eX,cT,cT,ed,dH];exact⟨λh=>h.resolve_right e,.inl⟩
     rw[aU]
   rw[S];refine⟨_,rfl,λu=>⟨_,rfl,_,d.cells.1,_,rfl,_,d.t.cells.1,(KP d.t.ca _).use ?_⟩,λu=>a _ ⟨_,d,⟨?_,hg.E,hg.G,hg.root,hg.bg,K,λno k=>?_⟩,H⟩⟩
   .rintro _ am ⟨⟨b,rfl⟩,br,U,m,L,_⟩
    have V:T.g l[j]=false:=by
     have h2:cX.g=T.g:=hg.to.g;rw[h2]at u;simpa using u
    obtain⟨W,X⟩:=d.t.yC (P:=λno=>if no=l[j] then none else cX.P no) U m (λno bZ o=>by
     by_cases e:no=l[j]
     .rw[if_pos e]at o;cases o
     .rw[if_neg e]at o
      rw[L no e];exact h1.t.gb no bZ o)
    have aa:=d.of (ay:=(cX.jN (c9 cX.f l[j] false)).dL br λno=>if no=l[j] then none else cX.P no) W m.ak (λq a=>d.t.yE a) rfl (λ_ h=>h) m.b6;refine⟨b,rfl,a _ ⟨_,aa,⟨?_,hg.E,hg.G,hg.root,hg.bg,K,λno k=>?_⟩,?_⟩⟩
    .exact((hg.to.trans F).trans X).mono J
    .have M:no≠l[j]:=λe=>by
      rcases k with h2|h2
      .exact h2 (by rw[jZ aI,e];exact ed.2 (.inr (dH.2 rfl)))
      .rw[e,V]at h2;cases h2
     have N:=hg.fb no (k.imp (λh2 y=>h2 (by rw[jZ aI];exact ed.2 (.inl y))) id);exact⟨(if_neg M).trans N.1,(L no M).trans N.2⟩
    .exact H.ak m.ak λq a=>d.t.yE (by show cX.G q;rw[hg.G];exact z q a)
   .exact(hg.to.trans F).mono J
   .exact hg.fb no (k.imp (λh2 y=>h2 (by rw[jZ aI];exact ed.2 (.inl y))) id)
  .rintro ao ⟨c6,h2,ab,ac⟩
   rw[bW (n:=(j:Int)+1) J J];refine⟨⟨j+1,c6,J,J,h2,ab,ac⟩,?_⟩;show((l.length:Int)-((j:Int)+1)).toNat<((l.length:Int)-(j:Int)).toNat;omega
 .have p:j=l.length:=by
   have:¬(j:Int)<(s.len:Int):=cx p;omega
  subst p;rw[jx]at hg;exact⟨rfl,cX,h1,hg⟩
theorem fF.K0{w w':I}{T:bf}{c:gV}{W:Nat->Prop}(h:fF w T c)(hc:ad W w w')(b4:∀q,W q->T.E q\/w.heap.size<=q):fF w' T c:=by
 have b:ad (λq=>T.E q) w w':=ct (W:=λq=>T.E q) (ad.refl _ _) hc λq a d=>(b4 q d).resolve_right J;exact h.of (h.t.grow (E:=T.E) (G:=T.G) b (λq a _=>.inl a) (λq a=>.inl a) (λq a=>.inr (.inl a)) λq a=>(h.t.dX q a).2.2) b (λq hg he=>(h.t.dX q he).2.2 hg) rfl λ_ h=>h
def E7(T:bf)(c:gV)(a8:Y Nat)(fM:Y cq)(w:I)(v:O)(w':I):Prop:=
 ∃ (ay:bf) (c':gV) (m l:Y Nat),fF w' ay c'/\iX T ay c c' m l w w' 60/\
  ((v=.tuple #[(0:Int),(0:Int),(0:Int)]/\fM=[]/\l.Perm (m++a8)/\m.length<=2*T.bg+3)\/
   (∃ (root h:Nat) (pages:Y Nat),v=.tuple #[root,h,(0:Int)]/\fc ay.P h none none root pages fM/\(pages++l).Perm (m++a8)/\1<=h/\h<=T.bg+1/\m.length<=2*T.bg+3)\/
   (∃a b:Int,v=.tuple #[a,b,(3:Int)]/\¬T.C.D.calm 60))
theorem ck.K1{w:I}{T:bf}(h:ck w T):∀x n,T.P x=some n->ij n<=232:=λx n hx=>(h.gb x n hx).2.is.2.2
theorem nh.cs{T:bf}{c:gV}{n:bo}{w w':I}{s:ag}{e:Int}(h:nh T c n w (.tuple #[s,e]) w'):
 ∃ (ay:bf) (c':gV) (m:Y Nat),fF w' ay c'/\iX T ay c c' m [] w w' 2/\m.length<=2/\((e=0/\∃b,Dw ay.P n b m/\E5 (λq=>¬ay.M q) w' s b m)\/(e=3/\¬T.C.D.calm 2)):=by
 obtain⟨ay,c',m,s2,h1,h2,f,g⟩:=h;refine⟨ay,c',m,h1,h2,f,?_⟩;rcases g with ⟨b,a,d,i⟩|⟨a,d⟩
 .simp at a
  obtain⟨⟨a1,a2,a3⟩,rfl⟩:=a;obtain rfl:s=s2:=by cases s;cases s2;simp_all
  exact .inl ⟨rfl,b,d,i⟩
 .simp at a
  exact .inr ⟨a.2,d⟩
theorem K2{a b:Y Nat}:a.Perm b↔∀x,a.count x=b.count x:=List.perm_iff_count
theorem K3{w:I}{T:bf}{c:gV}{fM:Y cq}{n:bo}{K V D ws:ag}(t:ws.len=0)(h:fF w T c)(u:dB (λq=>¬T.M q) w n K V D)(Q:T.C.D.bu<=900000000)(R:2<=cS T)(S:c.made.length<=100)(U:c.left=[])
 (g:lf n) (i:n.keys≠ []) (y:ij n<=232) (z:n.lQ=fM):
 az ah 329 #[.pointer (some ⟨c.cb,0,none⟩),.slice ws.a ws.len ws.cap,gl n K V D] w (E7 T c [] fM w):=by
 refine okF (Z.xU (some ⟨c.cb,0,none⟩) ws n.leaf K V D) aj.xU func329 ?_;(delta Z.xU bB aa bd a_ gS bR cR an ae bE aw fz bj bX en r1 bz ap st tA C4 vP eK;dsimp only);refine aV (vs:=ml n K V D) rfl λw1 A B W=>?_;obtain⟨dC,cd,cI,E⟩:=dv A;refine⟨_,dC,K,cd,V,cI,D,E,aV (vs:=[.bool false,.slice none 0 0,.slice none 0 0,.slice none 0 0]) rfl λX j F ab=>⟨j.cn rfl uE,rfl,cU j (us:=ml n K V D) rfl rfl λl G H ac=>?_⟩⟩;have f:Ext w l:=B.trans (Ext.bO F H (bk _));refine⟨λn10 w'=>n10= -1/\l=w',λ_ _=>0,⟨by rw[t];decide,rfl⟩,?_⟩;rintro _ _ ⟨rfl,rfl⟩;refine⟨λh=>by simp at h,λ_=>?_⟩;obtain⟨d0,d1,d2,d3⟩:=dv G;refine⟨_,d0,K,d1,V,d2,D,d3,(KZ (h.ext f) J J J (u.ext f) (.inl g) y).use ?_⟩;intro v w' d;obtain⟨s,e,rfl⟩:=d.out;obtain⟨ay,c',m,o,p,hm,L⟩:=(d.base f).cs;rcases L with ⟨rfl,ad,N,O⟩|⟨rfl,P⟩
 .refine⟨s,0,rfl,λh=>(by cases h),λ_=>?_⟩
  rcases N with ⟨_,x,rfl,rfl,hx⟩|⟨af,_⟩
  .rcases O with ⟨b,r,rfl,_,e,d,_⟩|⟨b,r,ai,ak,al,rfl,e,_⟩
   .obtain rfl:x=r:=by simpa using e
    refine⟨_,rfl,⟨by decide,by show(0:Int)<((1:Nat):Int);decide⟩,_,by rw[av,av];exact d.cell,ay,c',[x],[],o,p.mono J,.inr (.inl ⟨x,1,[x],rfl,⟨n,hx,g,λk i=>⟨λ_ e=>(by cases e),λ_ e=>(by cases e)⟩,i,rfl,z.symm⟩,List.Perm.refl _,bk _,J,by show 1<=_;omega⟩)⟩
   .cases e
  .omega
 .exact⟨s,3,rfl,λ_=>⟨ay,c',m,[],o,p.mono J,.inr (.inr ⟨0,0,rfl,λhc=>P (j_ hc J)⟩)⟩,λh=>(by cases h)⟩
def bf.oC(T:bf)(r h:Nat):bf:={T with root:=r,bg:=h}
theorem ck.K4{w w':I}{T:bf}{r h:Nat}(ht:ck w T)(a:Var w' T.bh (mq (T.oC r h)) 302)(hc:ad (λq=>q=T.bh) w w')(b:r<T.n)(c:h<=12):ck w' (T.oC r h)/\cD T (T.oC r h) w w' 0:=
 ⟨⟨a,ht.s.ak hc λq d e=>ht.kJ (e▸d),ht.ca.ak hc λq e=>.inl e,ht.kJ,ht.dX,ht.jM,ht.n,⟨b,c,ht.num.2.2⟩,ht.gb,ht.b6,ht.low⟩,
  ⟨rfl,rfl,rfl,rfl,rfl,rfl,rfl,rfl,rfl,rfl,bk _,λ_ h=>h,hc.mono λq _ e=>.inr (.inl e),λq h=>.inl h,λq h=>.inl h⟩⟩
def g5(T:bf)(pages:Y Nat)(L:Y cq):Prop:=(T.bg=0/\T.root=0/\pages=[]/\L=[])\/fc T.P T.bg none none T.root pages L
theorem E8{s t:Nat->ai}:∀ {n:Nat},(∀i,s i=true->t i=true)->eO s n<=eO t n
 |0,_=>bk _
 |n+1,h=>by
  have h1:=E8 (n:=n) h
  show eO s n+(s n).toNat<=eO t n+(t n).toNat
  cases hs:s n with
  |false=>exact Nat.add_le_add h1 (dd _)
  |true=>rw[h n hs];exact Nat.add_le_add_right h1 _
def yG(T:bf)(a8:Y Nat)(fM:Y cq)(w:I)(v:O)(w':I):Prop:=
 ∃ay:bf,ck w' ay/\cD T ay w w' 60/\ay.E=T.E/\ay.G=T.G/\
  ((v=.int .i64 2/\cS T<2*T.bg+3/\ay=T)\/
   (v=.int .i64 0/\2*T.bg+3<=cS T/\(∃pages,cS T<=cS ay+(2*T.bg+3)/\g5 ay pages fM/\pages.Nodup/\(∀no∈pages,no∈a8\/(T.f no||T.g no)=false)/\∀no,ay.f no=true↔(no∈pages\/(T.f no=true/\no∉a8)))/\∀no,T.g no=true->ay.P no=T.P no/\ay.C.view no=T.C.view no)\/
   (v=.int .i64 3/\¬T.C.D.calm 60/\ay.root=T.root/\ay.bg=T.bg/\ay.f=T.f/\∀no,(T.f no||T.g no)=true->ay.P no=T.P no/\ay.C.view no=T.C.view no))
theorem E9{l:Y Nat}(h:∀x,l.count x<=1):l.Nodup:=List.nodup_iff_count.2 h
theorem K5{w:I}{T:bf}{s:ag}{a8:Y Nat}{fM:Y cq}{n:bo}{K V D:ag}(h:ck w T)(bU:¬T.C.D.ro)(c0:T.C.D.bu<=900000000)(u:T.bg<12)(bV:a8.Nodup)(aA:∀x∈a8,T.f x=true)(c1:a8.length<=5000)
 (bX:∀ (cf j:Nat->Prop) (w1:I) (cd:gV),fF w1 (T.dw cf j) cd->cD T (T.dw cf j) w w1 0->2*T.bg+3<=cS T->cd.made=[]->cd.left=[]->az ah 329 #[.pointer (some cd.cb),s,gl n K V D] w1 (E7 (T.dw cf j) cd a8 fM w1)):
 az ah 303 #[.pointer (some T.bh),s,gl n K V D] w (yG T a8 fM w):=by
 have c2:=h.s.bF;refine Z.Im (some T.bh) s n.leaf K V D w _ ?_;(delta Z.uf bE aw en r1 bx ae an st aa bB bd a_ tA dg;dsimp only);refine aV (vs:=ml n K V D) rfl λw1 X aZ c3=>aV (vs:=[(0:Int)]) rfl λaf a0 a1 c4=>aQ ?_;have ab:Ext af af.drew:=bC _;obtain⟨a2,bY⟩:∃a2,a2=af.drew:=⟨_,rfl⟩;rw[←bY]at ab⊢;have a3:=(aZ.trans a1).trans ab;have k:=h.ext a3;obtain⟨ev,b0⟩:∃ev,ev=w1.heap.size:=⟨_,rfl⟩;rw[←b0]at a0⊢;refine⟨λ_=>False,_,rfl,id,_,k.cells.2.1,_,rfl,id,_,k.cells.2.2.2.2,(AX k.s).use ?_⟩;rintro _ aB ⟨rfl,ac⟩;have aC:=a3.trans ac;have M:=(a0.ext ab).ext ac;have b1:((T.n:Int)-eO (λi=>T.f i||T.g i) T.n)=(cS T:Nat):=by
  have:=m9 (λi=>T.f i||T.g i) T.n;unfold cS;omega
 have b2:IntKind.wrap .i64 (IntKind.wrap .i64 (2*(T.bg:Int))+3)=((2*T.bg+3:Nat):Int):=by
  rw[bW (n:=2*(T.bg:Int)) J J,bW J J];omega
 rw[b1,b2];refine⟨_,rfl,ac,λhb=>?_,λhb=>?_⟩
 .have hb:((cS T:Nat):Int)<((2*T.bg+3:Nat):Int):=b3 hb
  obtain⟨aJ,aW⟩:=ef M (i:=0) (by simp);have b4:=dD aB ev 0 (2:Int);have b5:=er M (i:=0) (2:Int);have a4:=Ext.bO aC b4 J;exact⟨aJ,aW,aQ ⟨2,b5.cell,T,h.ext a4,(cD.ext T a4).mono J,rfl,rfl,.inl ⟨rfl,J,rfl⟩⟩⟩
 have a5:2*T.bg+3<=cS T:=by
  have:¬((cS T:Nat):Int)<((2*T.bg+3:Nat):Int):=cx hb;omega
 refine aV (vs:=[.pointer (some T.bh),(),()]) rfl λb6 a6 b7 c5=>aV (vs:=[.pointer none]) rfl λa7 aD a9 c7=>?_;obtain⟨cb,ba⟩:∃cb,cb=aB.heap.size:=⟨_,rfl⟩;obtain⟨fJ,bb⟩:∃fJ,fJ=b6.heap.size:=⟨_,rfl⟩;rw[←ba]at a6⊢;rw[←bb]at aD⊢;obtain⟨aJ,aW⟩:=ef aD (i:=0) (by simp);have ai:=dD a7 fJ 0 (.pointer (some cb));have aE:=er aD (i:=0) (.pointer (some cb));refine⟨aJ,aW,aQ ?_⟩;obtain⟨A,b8⟩:∃A,A=a7.setCell fJ (.pointer (some cb)):=⟨_,rfl⟩;rw[←b8]at ai aE⊢;have c8:=aC.size;have c9:=ai.size;have aF:Ext aB A:=Ext.bO (b7.trans a9) ai J;have bc:=aC.trans aF;have be:=M.ext aF;have bi:=(a6.ext a9).ak ai J;have b9:=((X.ext a1).ext ab).ext (ac.trans aF);obtain⟨cf,aG⟩:∃cf,cf=λq=>T.E q\/q=ev:=⟨_,rfl⟩;obtain⟨j,aH⟩:∃j,j=λq=>T.G q\/q=cb:=⟨_,rfl⟩;have aI:∀q,cf q->T.E q\/q=ev:=λq c=>by rw[aG]at c;exact c
 have aj:∀q,j q->T.G q\/q=cb:=λq c=>by rw[aH]at c;exact c
 have bj:∀q,T.E q->cf q:=λq c=>by rw[aG];exact .inl c
 have b_:∀q,T.G q->j q:=λq c=>by rw[aH];exact .inl c
 have aK:cf ev:=by rw[aG];exact .inr rfl
 have ca:j cb:=by rw[aH];exact .inr rfl
 have c_:=be.lt;have da:=bi.lt;have bk:ck A (T.dw cf j):=h.grow (W:=λ_=>False) bc (λ_ h=>h.elim) (λq c=>(aI q c).imp id λe=>.inr ⟨J,J⟩) (λq c=>.inr ((aj q c).imp id λe=>⟨J,J⟩)) λq c hg=>by
  rcases aI q c with h1|h1<;>rcases aj q hg with h2|h2
  .exact(h.dX q h1).2.2 h2
  .have:=h.lt (q:=q) (.inr (.inr (.inr (.inl h1))));omega
  .have:=h.lt (q:=q) (.inr (.inr (.inr (.inr h2))));omega
  .have:=M.lt;omega
 have bl:cD T (T.dw cf j) w A 0:=(cD.refl T w).step (W:=λ_=>False) bc (λ_ h=>h.elim) (λq c=>(aI q c).imp id λe=>.inr J) λq c=>(aj q c).imp id λe=>by omega
 have cc:fF A (T.dw cf j) ⟨cb,cC,cC,[],[]⟩:=⟨bk,bi,aS.none _ _ _,aS.none _ _ _,ca,λq c=>(fx q c).elim,λq c=>(fx q c).elim,bU⟩;have ce:=bX cf j A _ cc bl a5 rfl rfl;obtain⟨dC,cd,cI,ch⟩:=dv b9;refine⟨_,aE.cell,_,dC,K,cd,V,cI,D,ch,ce.use ?_⟩;rintro v bt ⟨cX,r,m,l,bm,d,ci⟩;have O:cX.E ev:=by rw[d.E];exact aK
 have al:=be.ak d.to.ak (bk.nf aK);have cj:¬(T.dw cf j).N fJ:=by
  have db:cb<fJ:=by rw[ba,bb];omega
  rintro(c|c|c|c)
  .have:=h.lt (q:=fJ) (.inl c);omega
  .have:=h.lt (q:=fJ) (.inr (.inl c));omega
  .have:=h.lt (q:=fJ) (.inr (.inr (.inl c)));omega
  .rcases aj fJ c with h1|h1
   .have:=h.lt (q:=fJ) (.inr (.inr (.inr (.inr h1))));omega
   .omega
 have bn:=aE.ak d.to.ak cj;have am:r.cb=cb:=d.cb;have dc:cX.bh=T.bh:=d.to.bh;have ao:r.made=m:=d.made;have ap:r.left=l:=d.left;have aL:fJ≠ev:=by have:=M.lt;omega
 have bp:cD T cX w bt 60:=(bl.trans d.to).mono J
 have fin:∀ (w':I) (ay:bf),ck w' ay->cD T ay w w' 60->ay.E=cf->(∀q,T.G q->ay.G q)->ck w' (ay.dw T.E T.G)/\cD T (ay.dw T.E T.G) w w' 60:=by
  intro w' ay hc ht bq br;exact⟨hc.grow (W:=λ_=>False) (ad.refl _ _) (λ_ h=>h.elim) (λq c=>.inl (by rw[bq];exact bj q c)) (λq c=>.inr (.inl (br q c))) λq c=>(h.dX q c).2.2,
   ht.step (W:=λ_=>False) (ad.refl _ _) (λ_ h=>h.elim) (λq c=>.inl (by rw[bq];exact bj q c)) λq c=>.inl (br q c)⟩
 have bs:∀q,T.G q->cX.G q:=λq c=>d.G q (b_ q c);have dd:=(aZ).size;have aM:∀ (w0:I) (ay:bf) (c':gV) (x:Int),fF w0 ay c'->cD T ay w w0 60->ay.E ev->fF (w0.setCell ev x) ay c'/\cD T ay w (w0.setCell ev x) 60:=λw0 ay c' x hc ht he=>
  ⟨hc.K0 (dD w0 ev 0 _) λq e=>.inl (by rw[e];exact he),ht.step (E:=ay.E) (G:=ay.G) (dD w0 ev 0 _) (λq e aN=>J) (λq c=>.inl c) λq c=>.inl c⟩
 have de:m.length<=1600:=by
  have:=d.room;have:cS (T.dw cf j)<=T.n:=by unfold cS;exact Nat.sub_le _ _
  omega
 have cl:(∃a b:Int,v=.tuple #[a,b,(3:Int)]/\¬T.C.D.calm 60)\/(∃ (root u:Nat) (pages:Y Nat),v=.tuple #[root,u,(0:Int)]/\((u=0/\root=0/\pages=[]/\fM=[])\/fc cX.P u none none root pages fM)/\(pages++l).Perm (m++a8)/\u<=12/\m.length<=2*T.bg+3):=by
  rcases ci with ⟨rfl,h1,h2,aO⟩|⟨root,u,pages,rfl,h1,h2,k,B,aO⟩|⟨a,b,rfl,aP⟩
  .exact .inr ⟨0,0,[],rfl,.inl ⟨rfl,rfl,rfl,h1⟩,h2,J,aO⟩
  .have B:u<=T.bg+1:=B
   exact .inr ⟨root,u,pages,rfl,.inr h1,h2,J,aO⟩
  .exact .inl ⟨a,b,rfl,aP⟩
 rcases cl with ⟨a,b,rfl,aP⟩|⟨root,o,pages,rfl,cm,bv,cn,df⟩
 .
  obtain⟨aJ,aW⟩:=ef al (i:=0) (by simp);have y:=er al (i:=0) (3:Int);obtain⟨aq,ar⟩:=aM bt cX r 3 bm bp O;have Q:=bn.ak (dD bt ev 0 (3:Int)) aL;refine⟨a,b,3,rfl,aJ,aW,aQ ⟨3,y.cell,λ_=>⟨3,y.cell,?_⟩,λhx=>(by cases hx)⟩⟩;obtain⟨co,cp⟩:=ef y (i:=0) (by simp);have aR:=er y (i:=0) (3:Int);obtain⟨bw,bz⟩:=aM _ cX r 3 aq ar O;have aT:=Q.ak (dD _ ev 0 (3:Int)) aL;refine⟨co,cp,aQ (Z.Dj ev fJ _ _ ?_)⟩;generalize dh:(bt.setCell ev (3:Int)).setCell ev (3:Int)=bA at aR bw aT bz⊢;(delta Z.rX r1 ae aw a_ dg;dsimp only);have F:Ext bA bA.drew:=bC _;have p:=bw.ext F;have R:=E6 p p.ma.src (λq c=>(p.gd q c).1) (l:=r.made) (λx hx=>by rw[ao]at hx;rw[d.f];simp[hx]) (by rw[ao];exact d.bZ) (by rw[ao];omega);rw[am]at R;have S:=p.cells.2.1;rw[am]at S;refine⟨3,aR.cell,λ_=>aQ ⟨id,_,aT.drew.cell,id,_,aT.drew.cell,_,rfl,id,r.ma,S,R.use ?_⟩,λhx=>(by cases hx)⟩;rintro _ bD ⟨rfl,c6,z,hg⟩;rw[ao]at hg;have cr:=(aR.ext F).ak hg.to.ak (p.t.nf O);have cs:cD T c6 w bD 60:=((bz.trans (cD.ext cX F)).trans hg.to).mono J;obtain⟨f1,f2⟩:=fin bD c6 z.t cs (by rw[hg.E];exact d.E) λq c=>by rw[hg.G];exact bs q c
  refine⟨rfl,3,cr.cell,_,f1,f2,rfl,rfl,.inr (.inr ⟨rfl,aP,hg.root.trans d.root,hg.bg.trans d.bg,?_,λno U=>?_⟩)⟩
  .funext no
   show c6.f no=T.f no;rw[hg.f,d.f];by_cases hm:no∈m
   .have:=(d.ng no hm).1
    have e:(T.dw cf j).f no=T.f no:=rfl;rw[e]at this⊢
    cases aU:T.f no
    .simp[hm]
    .rw[aU]at this;cases this
   .simp[hm];rfl
  .have hm:no∉m:=λhm=>by
    have:=(d.ng no hm).1;have e:((T.dw cf j).f no||(T.dw cf j).g no)=(T.f no||T.g no):=rfl;rw[e,U]at this;cases this
   have h1:=hg.fb no (.inl hm);have h2:=d.fb no U;exact⟨h1.1.trans h2.1,h1.2.trans h2.2⟩
 .
  have L:∀x,pages.count x+l.count x=m.count x+a8.count x:=λx=>by
   have:=K2.1 bv x;simpa only[List.count_append] using this
  have au:∀x,m.count x+a8.count x<=1:=λx=>by
   have h1:=List.nodup_iff_count.1 d.bZ x;have h2:=List.nodup_iff_count.1 bV x;rcases sX (m.count x) with k|k
   .omega
   .rcases sX (a8.count x) with B|B
    .omega
    .have hm:=kn.1 k
     have ct:=kn.1 B;have:=(d.ng x hm).1;have e:((T.dw cf j).f x||(T.dw cf j).g x)=(T.f x||T.g x):=rfl;rw[e,aA x ct]at this;cases this
  have hlen:pages.length+l.length=m.length+a8.length:=by
   have:=bv.length_eq;simpa only[ej] using this
  have cu:∀x∈l,cX.f x=true:=λx hx=>by
   have h1:=kn.2 hx;have h2:=L x;rw[d.f];rcases sX (m.count x) with k|k
   .have:x∈a8:=kn.1 J
    have e:(T.dw cf j).f x=T.f x:=rfl;rw[e,aA x this];rfl
   .have:x∈m:=kn.1 k
    simp[this]
  have cv:l.Nodup:=E9 λx=>by have:=L x;have:=au x;omega
  obtain⟨aJ,aW⟩:=ef al (i:=0) (by simp);have y:=er al (i:=0) (0:Int);obtain⟨aq,ar⟩:=aM bt cX r 0 bm bp O;have Q:=bn.ak (dD bt ev 0 (0:Int)) aL;refine⟨_,_,0,rfl,aJ,aW,aQ ⟨0,y.cell,λhx=>(by cases hx),λ_=>aQ ?_⟩⟩;generalize di:bt.setCell ev (0:Int)=bG at y aq Q ar⊢;have F:Ext bG bG.drew:=bC _;have p:=aq.ext F;have R:=E6 p p.jo.src (λq c=>(p.qe q c).1) (l:=r.left) (λx hx=>cu x (by rw[ap]at hx;exact hx)) (by rw[ap];exact cv) (by rw[ap];omega);rw[am]at R;have S:=p.cells.2.2;rw[am]at S;refine⟨id,_,Q.drew.cell,id,_,Q.drew.cell,_,rfl,id,r.jo,S,R.use ?_⟩;rintro _ H ⟨rfl,c6,z,hg⟩;rw[ap]at hg;have cw:=(y.ext F).ak hg.to.ak (p.t.nf O);have bI:cD T c6 w H 60:=((ar.trans (cD.ext cX F)).trans hg.to).mono J;have aX:c6.bh=T.bh:=bI.bh;have bJ:c6.E=cf:=by rw[hg.E];exact d.E
  have cy:c6.E ev:=by rw[bJ];exact aK
  have bK:Var H T.bh (mq c6) 302:=by rw[←aX];exact z.t.t
  obtain⟨bH,bL⟩:=ef bK (i:=3) (by simp[mq]);have bM:=er bK (i:=3) root;have cz:=dD H T.bh 3 root;obtain⟨cA,cB⟩:=ef bM (i:=4) (by simp[mq]);have bN:=er bM (i:=4) o;have cE:=dD (H.setCell ⟨T.bh,3,none⟩ root) T.bh 4 o;refine⟨rfl,_,rfl,by rw[av];exact bH,by rw[av];exact bL,aQ ⟨_,rfl,by rw[av,av];exact cA,by rw[av,av];exact cB,aQ ?_⟩⟩;rw[av,av,cg,cg];have aY:ad (λq=>q=T.bh) H ((H.setCell ⟨T.bh,3,none⟩ root).setCell ⟨T.bh,4,none⟩ o):=cz.trans cE;generalize dj:(H.setCell ⟨T.bh,3,none⟩ root).setCell ⟨T.bh,4,none⟩ o=ax at bN aY⊢;have cF:∀x∈pages,x∉l:=λx hx aN=>by
   have h1:=kn.2 hx;have h2:=kn.2 aN;have:=L x;have:=au x;omega
  have bP:(o=0/\root=0/\pages=[]/\fM=[])\/(fc c6.P o none none root pages fM/\root∈pages):=cm.imp id λcG=>cG.agree λx hx=>((hg.fb x (.inl (cF x hx))).1).symm;have cH:root<c6.n:=by
   rcases bP with ⟨_,h1,_⟩|⟨h1,_⟩
   .have:=z.t.s.dN;omega
   .obtain⟨bZ,_,h2,_⟩:=h1.Dv
    exact(z.t.gb _ _ h2).1
  have cJ:Var ax c6.bh (mq (c6.oC root o)) 302:=by rw[aX];exact bN
  obtain⟨cK,cL⟩:=z.t.K4 cJ (by rw[aX];exact aY) cH cn;have cM:ev≠T.bh:=λe=>by have:=h.lt (q:=T.bh) (.inr (.inl rfl));omega
  have bQ:=cw.ak aY cM;obtain⟨cN,cO⟩:=ef bQ (i:=0) (by simp);have bR:=er bQ (i:=0) (0:Int);have bS:=dD ax ev 0 (0:Int);refine⟨cN,cO,aQ (Z.Dj ev fJ _ _ ?_)⟩;(delta Z.rX r1 ae aw a_ dg;dsimp only);refine⟨0,bR.cell,λhx=>(by cases hx),λ_=>⟨0,bR.cell,?_⟩⟩;have cP:ck (ax.setCell ev (0:Int)) (c6.oC root o):=cK.grow (E:=c6.E) (G:=c6.G) bS (λq e _=>.inl (by rw[e];exact cy)) (λq c=>.inl c) (λq c=>.inr (.inl c)) λq c=>(z.t.dX q c).2.2;have cQ:cD T (c6.oC root o) w (ax.setCell ev (0:Int)) 60:=((bI.trans cL).mono J).step (E:=c6.E) (G:=c6.G) bS (λq e aN=>J) (λq c=>.inl c) λq c=>.inl c;obtain⟨f1,f2⟩:=fin _ _ cP cQ bJ λq c=>by
   show c6.G q;rw[hg.G];exact bs q c
  refine⟨_,f1,f2,rfl,rfl,.inr (.inl ⟨rfl,a5,⟨pages,?_,?_,E9 λx=>by have:=L x;have:=au x;omega,λno hx=>?_,λno=>?_⟩,λno U=>?_⟩)⟩
  .have h1:cS cX+m.length=cS T:=d.room
   have h2:cS cX<=cS (c6.oC root o):=by
    show cX.n-_<=c6.n-eO (λi=>c6.f i||c6.g i) c6.n;rw[hg.to.n];have:=E8 (s:=λi=>c6.f i||c6.g i) (t:=λi=>cX.f i||cX.g i) (n:=cX.n) λi hi=>by
     rw[hg.f,hg.to.g]at hi;rw[jv,du]at hi;rw[jv];exact hi.imp And.left id
    omega
   show cS T<=cS (c6.oC root o)+_;omega
  .rcases bP with ⟨h1,h2,k,B⟩|⟨h1,_⟩
   .exact .inl ⟨h1,h2,k,B⟩
   .exact .inr h1
  .have h1:=kn.2 hx
   have h2:=L no;rcases sX (a8.count no) with k|k
   .have hm:no∈m:=kn.1 J
    exact .inr (d.ng no hm).1
   .exact .inl (kn.1 k)
  .show c6.f no=true↔_
   rw[hg.f,d.f];have e:(T.dw cf j).f no=T.f no:=rfl;rw[e];have dk:=L no;have z:=au no;have bT:no∈m↔0<m.count no:=kn.symm;have X:no∈a8↔0<a8.count no:=kn.symm;have cR:no∈l↔0<l.count no:=kn.symm;have cU:no∈pages↔0<pages.count no:=kn.symm;have cV:0<a8.count no->T.f no=true:=λh=>aA no (X.2 h);have cW:0<m.count no->T.f no=false:=λh=>by
    have:=(d.ng no (bT.2 h)).1;have e:((T.dw cf j).f no||(T.dw cf j).g no)=(T.f no||T.g no):=rfl;rw[e]at this
    cases aU:T.f no
    .rfl
    .rw[aU]at this;cases this
   rw[du,jv,cT,kW,kX,bT,X,cR,cU];constructor
   .rintro⟨h1|h1,h2⟩
    .by_cases k:0<a8.count no
     .left;omega
     .exact .inr ⟨h1,k⟩
    .left;omega
   .rintro(h1|⟨h1,h2⟩)
    .refine⟨?_,J⟩
     by_cases k:0<a8.count no
     .exact .inl (cV k)
     .right;omega
    .refine⟨.inl h1,λk=>?_⟩
     have:0<m.count no:=by omega
     rw[cW this]at h1;cases h1
  .have cY:(T.f no||T.g no)=true:=by rw[U];simp
   have cZ:cX.g no=true:=by rw[d.to.g];exact U
   have h1:=hg.fb no (.inr cZ);have h2:=d.fb no cY;exact⟨h1.1.trans h2.1,h1.2.trans h2.2⟩
def E_(T:bf)(a8:Y Nat)(fM:Y cq)(w:I)(v:O)(w':I):Prop:=
 ∃ay:bf,ck w' ay/\cD T ay w w' 100/\ay.E=T.E/\ay.G=T.G/\
  ((v=.int .i64 2/\cS T<2*T.bg+3/\ay=T)\/
   (v=.int .i64 0/\2*T.bg+3<=cS T/\(∃pages,cS T<=cS ay+(2*T.bg+3)/\g5 ay pages fM/\pages.Nodup/\(∀no∈pages,no∈a8\/(T.f no||T.g no)=false)/\∀no,ay.f no=true↔(no∈pages\/(T.f no=true/\no∉a8)))/\∀no,T.g no=true->ay.P no=T.P no/\ay.C.view no=T.C.view no)\/
   (v=.int .i64 3/\¬T.C.D.calm 100/\ay.root=T.root/\ay.bg=T.bg/\ay.f=T.f/\∀no,(T.f no||T.g no)=true->ay.P no=T.P no/\ay.C.view no=T.C.view no))
theorem yG.ak{T:bf}{br:cj}{a8:Y Nat}{fM:Y cq}{w w1 w':I}{v:O}{k:Nat}(h:yG (T.dL br T.P) a8 fM w1 v w')(e:cD T (T.dL br T.P) w w1 k)(r:k<=40)(f:∀j,br.view j=T.C.view j)(i:2*T.bg+3<=cS T):E_ T a8 fM w v w':=by
 obtain⟨ay,h1,h2,l,m,n⟩:=h;refine⟨ay,h1,(e.trans h2).mono J,l,m,?_⟩;have o:cS (T.dL br T.P)=cS T:=rfl;have p:(T.dL br T.P).bg=T.bg:=rfl;rcases n with ⟨_,b,_⟩|⟨rfl,b,d,c⟩|⟨rfl,b,d,c,q,g⟩
 .rw[o,p]at b;omega
 .exact .inr (.inl ⟨rfl,i,d,λno a=>⟨(c no a).1,(c no a).2.trans (f no)⟩⟩)
 .exact .inr (.inr ⟨rfl,λhc=>b (e.calm 60 (j_ hc J)),d,c,q,λno a=>⟨(g no a).1,(g no a).2.trans (f no)⟩⟩)
theorem pI(w:I)(s:ag):az ah 298 #[s] w (λv w'=>v=.bool (decide (1<=s.len/\s.len<=24))/\w=w'):=by
 refine okF (Z.pI s) aj.pI func298 ?_;unfold Z.pI;refine⟨?_,rfl⟩
 congr 1
 rw[eX,du,cT,cT,cT];omega
theorem g5.low{T:bf}{pages:Y Nat}{L:Y cq}(h:g5 T pages L)(d:L.length<4096):T.bg<12/\pages.length<=L.length:=by
 rcases h with ⟨h1,_,a,_⟩|b
 .rw[h1,a];exact⟨J,dd _⟩
 .obtain⟨aJ,aW,c⟩:=b.pages
  refine⟨?_,aJ⟩;rcases eP T.bg 12 with h|h
  .exact h
  .have e:=c J
   have f:2^12<=2^T.bg:=u7 (by decide) h;have g:(2:Nat)^12=4096:=by decide
   omega
structure A6(T ay:bf):Prop where
 root:ay.root=T.root
 bg:ay.bg=T.bg
 f:ay.f=T.f
 fb:∀no,(T.f no||T.g no)=true->ay.P no=T.P no/\ay.C.view no=T.C.view no
structure K6(T ay:bf)(a8:Y Nat)(fM:Y cq):Prop where
 ok:∃pages,cS T<=cS ay+(2*T.bg+3)/\g5 ay pages fM/\pages.Nodup/\(∀no∈pages,no∈a8\/(T.f no||T.g no)=false)/\∀no,ay.f no=true↔(no∈pages\/(T.f no=true/\no∉a8))
 fb:∀no,T.g no=true->ay.P no=T.P no/\ay.C.view no=T.C.view no
theorem A6.ok{T ay:bf}{pages:Y Nat}{L:Y cq}(h:A6 T ay)(a:g5 T pages L)(hf:∀x∈pages,T.f x=true):g5 ay pages L:=by
 unfold g5 at a⊢;rw[h.root,h.bg];rcases a with a|b
 .exact .inl a
 .exact .inr (fc.agree b λx hx=>(h.fb x (by rw[hf x hx];rfl)).1.symm).1
section
variable {B C W:Nat->Prop}{w w':I}{s:ag}{ps:Y (ag×ag)}{L:Y cq}
end
structure ei(T ay:bf)(w w':I)(k:Nat):Prop where
 to:cD T ay w w' k
 E:ay.E=T.E
 G:∀q,T.G q->ay.G q
 root:ay.root=T.root
 bg:ay.bg=T.bg
 f:ay.f=T.f
 P:ay.P=T.P
 view:∀j,ay.C.view j=T.C.view j
theorem ei.refl(T:bf)(w:I):ei T T w w 0:=⟨.refl _ _,rfl,λ_ h=>h,rfl,rfl,rfl,rfl,λ_=>rfl⟩
theorem ei.ext{w w':I}(T:bf)(h:Ext w w'):ei T T w w' 0:=⟨.ext T h,rfl,λ_ h=>h,rfl,rfl,rfl,rfl,λ_=>rfl⟩
theorem ei.trans{T ay a:bf}{w w' b:I}{k l:Nat}(h1:ei T ay w w' k)(h2:ei ay a w' b l):ei T a w b (k+l):=
 ⟨h1.to.trans h2.to,h2.E.trans h1.E,λq h=>h2.G q (h1.G q h),h2.root.trans h1.root,h2.bg.trans h1.bg,h2.f.trans h1.f,h2.P.trans h1.P,λj=>(h2.view j).trans (h1.view j)⟩
theorem ei.mono{T ay:bf}{w w':I}{k l:Nat}(h:ei T ay w w' k)(a:k<=l):ei T ay w w' l:=⟨h.to.mono a,h.E,h.G,h.root,h.bg,h.f,h.P,h.view⟩
theorem ei.dL{T:bf}{br:cj}{w w':I}{k:Nat}(h:cD T (T.dL br T.P) w w' k)(a:∀j,br.view j=T.C.view j):ei T (T.dL br T.P) w w' k:=⟨h,rfl,λ_ h=>h,rfl,rfl,rfl,rfl,a⟩
theorem cD.out{T ay:bf}{w w':I}{k q:Nat}(h:cD T ay w w' k)(a:q<w.heap.size)(hm:¬T.M q):¬ay.M q/\q<w'.heap.size:=by
 refine⟨λh1=>?_,fX a h.ak.size⟩;rcases h.cV q h1 with h2|h2
 .exact hm h2
 .omega
section
variable {w w':I}{T ay:bf}{lo dk:Nat}{s:ag}{L:Y cq}
end
section
variable {w w':I}{T ay:bf}{bh aN gw:Nat}{Ov Ow:ag}{to fr:Key}{most:Int}
end
theorem cD.mm{T ay:bf}{w w':I}{k:Nat}(h:cD T ay w w' k){n:bo}{K V D:ag}(a:dB (λq=>¬T.M q) w n K V D):dB (λq=>¬ay.M q) w' n K V D:=
 (h.bZ (lo:=0) (a.cp λ_ _ hb=>⟨dd _,hb⟩)).cp λ_ _ hb=>hb.2
def kK(T:bf)(no:Nat):Prop:=(no<T.n/\2<=no)/\∃e,dA (no:Int) (T.C.view no)=.error e
theorem K7{w:I}{T:bf}{no:Nat}{o:bo}(h:ck w T)(m:T.C.D.bu<=999999999)(c:T.P no=some o\/kK T no):
 az ah 269 #[.pointer (some T.bh),no,o.leaf] w (λv w'=>∃br:cj,ei T (T.dL br T.P) w w' 2/\ck w' (T.dL br T.P)/\ad (λq=>T.N q/\¬T.G q) w w'/\
  ((∃ (K V D:ag),v=.tuple #[gl o K V D,(0:Int)]/\T.P no=some o/\dB (λq=>w.heap.size<=q/\¬(T.dL br T.P).M q) w' o K V D)\/(∃e:Int,v=.tuple #[gl mm cC cC cC,e]/\e≠0/\((e=3/\¬T.C.D.calm 2)\/kK T no)))):=by
 have d:no<T.n:=c.elim (λh1=>(h.gb no o h1).1) λh1=>h1.1.1;have f:2<=no:=c.elim (λh1=>(h.gb no o h1).2.two) λh1=>h1.1.2;obtain⟨cf,g⟩:∃cf,cf=λq=>T.E q\/T.G q:=⟨_,rfl⟩;have b:∀q,T.E q\/T.G q->cf q:=λq a=>by rw[g];exact a
 have i:∀q,cf q->T.E q\/T.G q:=λq a=>by rw[g]at a;exact a
 have j:ck w (T.dw cf λ_=>False):=h.grow (W:=λ_=>False) (ad.refl _ _) (λ_ h=>h.elim) (λq a=>(i q a).imp id .inl) (λ_ h=>h.elim) λ_ _ h=>h;have r:∀q,(T.dw cf λ_=>False).N q->T.N q/\¬T.G q:=λq a=>⟨by
  rcases a with a|a|a|a
  .exact .inl a
  .exact .inr (.inl a)
  .exact .inr (.inr (.inl a))
  .exact a.elim,λhg=>j.nf (b q (.inr hg)) a⟩
 refine(KU j m d f o.leaf).mono ?_;rintro v w' ⟨br,s,ht,t,u⟩;have x:cD T (T.dL br T.P) w w' 2:=cD.read (E:=cf) ht b λq a=>(i q a).imp id .inl;have y:ad (λq=>T.N q/\¬T.G q) w w':=ht.ak.mono λq _ a=>r q a;refine⟨br,.dL x t,?_,y,?_⟩
 .exact s.grow (E:=T.E) (G:=T.G) (W:=λ_=>False) (ad.refl _ _) (λ_ h=>h.elim) (λq a=>.inl (b q (.inl a))) (λq a=>.inl (b q (.inr a))) λq a=>(h.dX q a).2.2
 .rcases u with ⟨bF,K,V,D,rfl,k,dJ⟩|⟨e,rfl,z,A⟩
  .have l:T.P no=some o:=c.resolve_right λ⟨_,e,h1⟩=>by
    obtain⟨p,aJ,_⟩:=k;have h1:dA (no:Int) (T.C.view no)=.error e:=h1;have aJ:dA (no:Int) (T.C.view no)=.ok p:=aJ;rw[h1]at aJ;cases aJ
   obtain rfl:=hX.uniq (h.gb no o l).2 k;refine .inl ⟨K,V,D,rfl,l,dJ.cp λq a hb=>⟨hb.1,λhm=>hb.2 ?_⟩⟩;rcases hm with hm|hm|hm|hm|hm
   .exact .inl hm
   .exact .inr (.inl hm)
   .exact .inr (.inr (.inl hm))
   .exact .inr (.inr (.inr (.inl (b q (.inl hm)))))
   .exact .inr (.inr (.inr (.inl (b q (.inr hm)))))
  .refine .inr ⟨e,rfl,A,?_⟩
   rcases z with h1|h1|⟨_,_,h1⟩
   .exact .inl h1
   .exact .inr ⟨⟨d,f⟩,e,h1⟩
   .exact c.elim (λh2=>absurd (h.gb no o h2).2 (h1 o)) .inr
theorem Fa{w:I}{T:bf}(h:ck w T):az ah 151 #[.pointer (some T.bh)] w (λv w'=>v=.tuple #[T.root,T.bg]/\Ext w w'):=by
 refine okF (Z.w_ (some T.bh)) aj.w_ func151 ?_;(delta Z.w_ ae aw r1;dsimp only);have hd:=h.ext (bC w);exact⟨λh=>(by cases h),λ_=>aQ ⟨_,rfl,id,_,hd.cells.2.2.2.1,_,rfl,id,_,hd.cells.2.2.2.2,rfl,bC w⟩⟩
theorem K8{B:Nat->Prop}{w:I}{s:ag}{ds:Y Nat}(h:eS B w s ds)(no:Nat)(g:ds.length<=1000000):
 az ah 311 #[s,no] w (λv w'=>∃n:Int,v=n/\(0<=n↔no∈ds)/\w=w'):=by
 have j:=h.len;refine okF (Z.wj s (no:Nat)) aj.wj func311 ?_;(delta Z.wj cR ae bj bX r1 bz an;dsimp only);refine⟨λn w'=>∃i:Nat,n=(i:Int)/\i<=ds.length/\no∉ds.take i/\w=w',λn _=>((ds.length:Int)-n).toNat,⟨0,rfl,dd _,by simp,rfl⟩,?_⟩;rintro _ _ ⟨i,rfl,hi,c,rfl⟩;refine⟨λaI=>?_,λd=>?_⟩
 .have a:i<ds.length:=by
   have:(i:Int)<(s.len:Int):=b3 aI;omega
  obtain⟨A,au,hb,hc⟩:=eS.at h a;refine⟨A,au,hb,_,hc,λhe=>?_,λb=>?_⟩
  .have he:no=ds[i]:=by
    have:(no:Int)=((ds[i]:Nat):Int):=by simpa using he
    omega
   exact⟨_,rfl,⟨λ_=>by rw[he];exact cO _,λ_=>J⟩,rfl⟩
  .have b:no≠ds[i]:=λe=>by rw[e]at b;simp at b
   have f:IntKind.wrap .i64 ((i:Int)+1)=((i+1:Nat):Int):=by rw[bW J J];omega
   rw[f];refine⟨⟨i+1,rfl,J,?_,rfl⟩,by show((ds.length:Int)-((i+1:Nat):Int)).toNat<((ds.length:Int)-(i:Int)).toNat;omega⟩;rw[jZ a];intro hm;rcases ed.1 hm with hm|hm
   .exact c hm
   .exact b (dH.1 hm)
 .have a:i=ds.length:=by
   have:¬(i:Int)<(s.len:Int):=cx d;omega
  rw[a,jx]at c;exact⟨-1,rfl,⟨λh=>J,λh=>absurd h c⟩,rfl⟩
theorem Fb{B:Nat->Prop}{w:I}{s:ag}{ds:Y Nat}(h:eS B w s ds)(no:Nat)(a:ds.length<=1000000):
 az ah 270 #[s,no] w (λv w'=>v=.bool (decide (no∈ds))/\w=w'):=by
 refine okF (Z.wh s (no:Nat)) aj.wh func270 ?_;(delta Z.wh bx;dsimp only);refine(K8 h no a).use ?_;rintro _ _ ⟨n,rfl,b,rfl⟩;refine⟨n,rfl,?_,rfl⟩
 congr 1
 exact decide_eq_decide.2 b
def iK(B:Nat->Prop)(w:I)(t:ag):al Key->Prop
 |none=>t.a=none
 |some k=>k≠ []/\cE B w t k
theorem iK.ak{B W:Nat->Prop}{w w':I}{t:ag}{o:al Key}(h:iK B w t o)(hc:ad W w w')(hb:∀q,B q->q<w.heap.size->¬W q):iK B w' t o:=by
 cases o with
 |none=>exact h
 |some k=>exact⟨h.1,cE.sj h.2 hc λq a=>hb q (h.2.2.2 q a).1 (h.2.2.2 q a).2⟩
theorem iK.cp{B C:Nat->Prop}{w:I}{t:ag}{o:al Key}(h:iK B w t o)(hb:∀q,q<w.heap.size->B q->C q):iK C w t o:=by
 cases o with
 |none=>exact h
 |some k=>exact⟨h.1,cE.cp h.2 hb⟩
theorem iK.nil{B:Nat->Prop}{w:I}{t:ag}{o:al Key}(h:iK B w t o):(!(Option.isNone t.a))=o.isSome:=by
 cases o with
 |none=>rw[show t.a=none from h];rfl
 |some k=>
  obtain⟨A,au⟩:=cE.some h.2 h.1;rw[au];rfl
theorem rK{B C D:Nat->Prop}{w:I}{n:bo}{K V j mu mv:ag}{lo hi:al Key}(y:dB B w n K V j)(R:n.keys.length<=100000)(H:iK C w mu lo)(L:iK D w mv hi):
 az ah 272 #[gl n K V j,mu,mv] w (λv w'=>∃b:ai,v=b/\(b=true↔n.within lo hi)/\Ext w w'):=by
 have S:=c8.len y.keys;refine okF (Z.rK n.leaf K V j mu mv) aj.rK func272 ?_;(delta Z.rK bd a_ aa cR ae bj bX bz bx an;dsimp only);refine aV (vs:=ml n K V j) rfl λw1 M f T=>?_;obtain⟨dC,cd,cI,U⟩:=dv M;have N:=y.ext f;have m:=H.ak (W:=λ_=>False) f λ_ _ _ h=>h;have o:=L.ak (W:=λ_=>False) f λ_ _ _ h=>h;refine⟨K,cd,λi w'=>∃p:Nat,i=(p:Int)/\p<=n.keys.length/\(∀k∈n.keys.take p,kC lo hi k)/\w1=w',λi _=>((n.keys.length:Int)-i).toNat,⟨0,rfl,dd _,by simp,rfl⟩,?_⟩;rintro _ _ ⟨i,rfl,X,s,rfl⟩;refine⟨λaI=>?_,λO=>?_⟩
 rotate_left
 .have l:i=n.keys.length:=by
   have:¬(i:Int)<(K.len:Int):=cx O;omega
  rw[l,jx]at s;exact⟨true,rfl,⟨λ_=>s,λ_=>rfl⟩,f⟩
 have l:i<n.keys.length:=by
  have:(i:Int)<(K.len:Int):=b3 aI;omega
 obtain⟨A,tk,au,hb,hc,t,_⟩:=c8.at N.keys l;obtain⟨key,u⟩:∃key,key=n.keys[i]:=⟨_,rfl⟩;rw[←u]at t;refine⟨A,au,hb,tk,hc,bK (λb w'=>(b=true↔¬∀a,lo=some a->lP a key)/\w1=w') (λq g=>⟨λc=>?_,λc=>?_⟩) ?_⟩
 .rw[m.nil]at c
  cases lo with
  |none=>cases c
  |some a=>
   refine(mb t.1 m.2.1).use ?_;rintro _ _ ⟨rfl,rfl⟩;refine⟨_,rfl,g _ _ ⟨?_,rfl⟩⟩;rw[cT];constructor
   .exact λh h2=>h2 a rfl h
   .exact λh=>sU λh2=>h λb hb=>by cases hb;exact h2
 .rw[m.nil]at c
  cases lo with
  |none=>exact g _ _ ⟨⟨λh=>(by cases h),λh=>absurd (λa e=>(by cases e)) h⟩,rfl⟩
  |some a=>cases c
 rintro Y _ ⟨z,rfl⟩;refine bK (λb w'=>(b=true↔¬kC lo hi key)/\w1=w') (λq g=>⟨λc=>g _ _ ⟨⟨λ_ h=>(z.1 c) h.1,λ_=>rfl⟩,rfl⟩,λc=>?_⟩) ?_
 .have P:∀a,lo=some a->lP a key:=Classical.byContradiction λh2=>by rw[z.2 h2]at c;cases c
  refine bK (λb w'=>(b=true↔¬∀a,hi=some a->dU key a)/\w1=w') (λr E=>⟨λh2=>?_,λh2=>?_⟩) ?_
  .rw[o.nil]at h2
   cases hi with
   |none=>cases h2
   |some a=>
    refine(mb t.1 o.2.1).use ?_;rintro _ _ ⟨rfl,rfl⟩;refine⟨_,rfl,E _ _ ⟨?_,rfl⟩⟩;rw[cT];constructor
    .exact λh h2=>by
      have:e_ key a<0:=h2 a rfl;omega
    .exact λh=>sU λh2=>h λb hb=>by cases hb;show e_ key a<0;omega
  .rw[o.nil]at h2
   cases hi with
   |none=>exact E _ _ ⟨⟨λh=>(by cases h),λh=>absurd (λa e=>(by cases e)) h⟩,rfl⟩
   |some a=>cases h2
  .rintro ab _ ⟨F,rfl⟩
   exact g _ _ ⟨⟨λh x=>F.1 h x.2,λh=>F.2 λx=>h ⟨P,x⟩⟩,rfl⟩
 .rintro ac _ ⟨G,rfl⟩
  have Q:IntKind.wrap .i64 ((i:Int)+1)=((i+1:Nat):Int):=by rw[bW J J];omega
  refine⟨λc=>⟨false,rfl,⟨λh=>(by cases h),λh=>absurd (h key (by rw[u];exact cO _)) (G.1 c)⟩,f⟩,λc=>?_⟩;rw[Q];refine⟨⟨i+1,rfl,J,λk d=>?_,rfl⟩,by show((n.keys.length:Int)-((i+1:Nat):Int)).toNat<((n.keys.length:Int)-(i:Int)).toNat;omega⟩;rw[jZ l]at d;rcases ed.1 d with d|d
  .exact s k d
  .rw[dH.1 d,←u]
   exact Classical.byContradiction λh=>by rw[G.2 h]at c;cases c
theorem ih.each{W:Below}{lo hi:al Key}{b:Y Key}{kids p:Y Nat}{L:Y cq}(h:ih W lo hi b kids p L):
 ∃ (ps:Y (Y Nat)) (a:Y (Y cq)),ps.length=kids.length/\a.length=kids.length/\p=ps.flatten/\L=a.flatten/\
  ∀ (i:Nat) (h1:i<kids.length) (h2:i<ps.length) (c:i<a.length),W (if i=0 then lo else b[i-1]?) (if i<b.length then b[i]? else hi) kids[i] ps[i] a[i]:=by
 induction h with
 | @one lo hi k p L h=>
  refine⟨[p],[L],rfl,rfl,by simp,by simp,λi h1 h2 c=>?_⟩;have:i=0:=by simpa using h1
  subst this;exact h
 | @cons lo hi s k gh df cz da b kids h t d=>
  obtain⟨ps,a,aJ,aW,rfl,rfl,e⟩:=d;have f:=t.len;refine⟨gh::ps,cz::a,by simp[aJ],by simp[aW],by simp,by simp,λi h1 h2 c=>?_⟩
  cases i with
  |zero=>simpa using h
  |succ i=>
   have:=e i (by simpa using h1) (by simpa using h2) (by simpa using c);simp only[List.getElem_cons_succ,iz,Nat.add_lt_add_iff_right,za,Nat.add_one_ne_zero,if_false,Nat.add_sub_cancel]
   cases i with
   |zero=>simpa using this
   |succ i=>simpa using this
structure ir(w:I)(T:bf)(dx:Nat)(s:ag)(ps:Y Nat)(k:Nat):Prop where
 t:ck w T
 v:Var w dx [.pointer (some T.bh),s,k] 360
 own:aS 1 3 w s (ep ps)
 sw:T.G dx
 gs:∀q,aD s q->T.G q/\q≠dx
section
variable {w w':I}{T ay:bf}{dx k:Nat}{s:ag}{ps:Y Nat}
theorem ir.of{W:Nat->Prop}(h:ir w T dx s ps k)(d:ck w' ay)(e:ay.bh=T.bh)(b:∀q,T.G q->ay.G q)(c:ad W w w')(b4:∀q,T.G q->¬W q):ir w' ay dx s ps k:=
 ⟨d,by rw[e];exact h.v.ak c (b4 _ h.sw),h.own.ak c λq a=>b4 q (h.gs q a).1,b _ h.sw,λq a=>⟨b q (h.gs q a).1,(h.gs q a).2⟩⟩
theorem ir.ext(h:ir w T dx s ps k)(hx:Ext w w'):ir w' T dx s ps k:=h.of (h.t.ext hx) rfl (λ_ h=>h) hx λ_ _ h=>h
theorem ir.cells(h:ir w T dx s ps k):w.cell? dx=some (.pointer (some T.bh))/\w.cell? (Addr.add dx 1)=some (.slice s.a s.len s.cap)/\w.cell? (Addr.add dx 2)=some (.int .i64 (k:Nat)):=by
 rw[av,av];exact⟨h.v.cell,h.v.cell,h.v.cell⟩
theorem K9(h:ir w T dx s ps k)(no:Nat)(r:ps.length<=100000):
 ∃ (b:ag) (af:I),Sem.run ah (Builtin.append_ #[52,52] 52 #[s,.slice (some w.heap.size) 1 1]) (w.alloc (.cells #[no] 3))=.ok b af/\
  (∃u:O,af.cell? ⟨dx,1,none⟩=some u)/\af.frozen? ⟨dx,1,none⟩=false/\
  ∀c,c=af.setCell ⟨dx,1,none⟩ b->ir c (T.dw T.E λq=>T.G q\/aD b q) dx b (ps++ [no]) k/\ei T (T.dw T.E λq=>T.G q\/aD b q) w c 0:=by
 obtain⟨b,af,aJ,aW,d,f,x⟩:=E0 no h.own J;have b4:∀q,aD s q->T.G q:=λq a=>(h.gs q a).1;have y:=d.size;have j:=h.v.ak d λa=>(h.gs _ a).2 rfl;obtain⟨bH,bL⟩:=ef j (i:=1) (by simp);refine⟨b,af,aJ,bH,bL,?_⟩;rintro _ rfl;have g:=dD af dx 1 b;have o:=er j (i:=1) b;have l:ad T.G w (af.setCell ⟨dx,1,none⟩ b):=ct (d.mono λq _ a=>b4 q a) g λq _ e=>by rw[e];exact h.sw
 have m:∀q,aD b q->T.G q\/(w.heap.size<=q/\q<(af.setCell ⟨dx,1,none⟩ b).heap.size):=λq a=>by
  rcases f q a with h1|h1
  .exact .inl (b4 q h1)
  .exact .inr ⟨h1,by have:=aS.lt aW q a;have:=g.size;omega⟩
 have n:∀q,aD b q->q≠dx:=λq a e=>by
  rcases f q a with h1|h1
  .exact(h.gs q h1).2 e
  .have:=h.v.lt;omega
 have p:=h.t.grow (E:=T.E) (G:=λq=>T.G q\/aD b q) l (λq a _=>.inr a) (λq a=>.inl a) (λq a=>by
  rcases a with a|a
  .exact .inr (.inl a)
  .exact .inr (m q a)) λq a hg=>by
  rcases hg with hg|hg
  .exact(h.t.dX q a).2.2 hg
  .rcases f q hg with h1|h1
   .exact(h.t.dX q a).2.2 (b4 q h1)
   .have:=h.t.lt (q:=q) (.inr (.inr (.inr (.inl a))));omega
 refine⟨⟨p,o,aW.ak g λq a e=>n q a e,.inl h.sw,λq a=>⟨.inr a,n q a⟩⟩,?_,rfl,λ_ h=>.inl h,rfl,rfl,rfl,rfl,λ_=>rfl⟩;exact(cD.refl T w).step l (λq a _=>.inr (.inr (.inr a))) (λq a=>.inl a) λq a=>by
  rcases a with a|a
  .exact .inl a
  .exact(m q a).imp id λe=>e.1
theorem K_(h:ir w T dx s ps k)(m:Nat):(∃u:O,w.cell? (Addr.add dx 2)=some u)/\w.frozen? (Addr.add dx 2)=false/\
 ir (w.setCell (Addr.add dx 2) m) T dx s ps m/\ei T T w (w.setCell (Addr.add dx 2) m) 0:=by
 rw[av];obtain⟨bH,bL⟩:=ef h.v (i:=2) (by simp);have b:=dD w dx 2 m;have hc:ad T.G w (w.setCell ⟨dx,2,none⟩ m):=b.mono λq _ e=>by rw[e];exact h.sw
 refine⟨bH,bL,⟨?_,er h.v (i:=2) _,h.own.ak b λq a e=>(h.gs q a).2 e,h.sw,h.gs⟩,?_,rfl,λ_ h=>h,rfl,rfl,rfl,rfl,λ_=>rfl⟩
 .exact h.t.grow (E:=T.E) (G:=T.G) hc (λq a _=>.inr a) (λq a=>.inl a) (λq a=>.inr (.inl a)) λq a=>(h.t.dX q a).2.2
 .exact(cD.refl T w).step (E:=T.E) (G:=T.G) hc (λq a _=>.inr (.inr (.inr a))) (λq a=>.inl a) λq a=>.inl a
end
theorem cD.bX{T ay:bf}{w w':I}{k:Nat}{t:ag}{o:al Key}(h:cD T ay w w' k)(hb:iK (λq=>¬T.M q) w t o):iK (λq=>¬ay.M q) w' t o:=by
 have h1:iK (λq=>q<w.heap.size/\¬T.M q) w t o:=hb.cp λq a hb=>⟨a,hb⟩;exact(h1.ak h.ak λq a _ b=>a.2 (bf.su b)).cp λq _ hb=>(h.out hb.1 hb.2).1
theorem ei.bad{T ay:bf}{w w':I}{k x:Nat}(h:ei T ay w w' k)(hb:kK ay x):kK T x:=by
 obtain⟨h1,e,h2⟩:=hb;exact⟨by rw[←h.to.n];exact h1,e,by rw[←h.view];exact h2⟩
theorem ei.La{T ay:bf}{w w':I}{k x:Nat}(h:ei T ay w w' k)(hb:kK T x):kK ay x:=by
 obtain⟨h1,e,h2⟩:=hb;exact⟨by rw[h.to.n];exact h1,e,by rw[h.view];exact h2⟩
theorem fc.Fc{P:Nat->al bo}{h:Nat}{lo hi:al Key}{no:Nat}{p:Y Nat}{L:Y cq}(d:fc P (h+1) lo hi no p L):∃ (n:bo) (a:Y Nat),P no=some n/\n.leaf=decide (h=0)/\ee n/\p=no::a/\n.within lo hi/\
 ((h=0/\lf n/\a=[]/\L.length=n.keys.length)\/(Au n/\∃ (ps:Y (Y Nat)) (b:Y (Y cq)),ps.length=n.kids.length/\b.length=n.kids.length/\a=ps.flatten/\L=b.flatten/\
   ∀ (i:Nat) (h1:i<n.kids.length) (h2:i<ps.length) (c:i<b.length),fc P h (if i=0 then lo else n.keys[i-1]?) (if i<n.keys.length then n.keys[i]? else hi) n.kids[i] ps[i] b[i])):=by
 match h,d with
 |0,⟨n,h1,h2,c,g,e,f⟩=>
  refine⟨n,[],h1,h2.leaf,.inl h2,e,c,.inl ⟨rfl,h2,rfl,?_⟩⟩;rw[f];unfold bo.lQ;rw[List.length_zip,h2.len,Nat.min_self]
 |h+1,⟨n,a,h1,h2,c,g,e⟩=>
  have f:=e.mono (V:=λlo hi k p L=>fc P (h+1) lo hi k p L) λ_ _ _ _ _ _ d=>d.1;exact⟨n,a,h1,by rw[h2.inner];simp,.inr h2,g,c,.inr ⟨h2,f.each⟩⟩
def Lb(T:bf)(dx:Nat)(ps:Y Nat)(keys:Nat)(gf:Nat->al bo)(p:Y Nat)(b:Nat)(w:I)(v:O)(w':I):Prop:=
 ∃ay:bf,ei T ay w w' (2*p.length)/\
  ((v=.int .i64 0/\(∃a,ir w' ay dx a (ps++p) (keys+b))/\∀x∈p,T.P x=gf x)\/
   (∃e:Int,v=e/\e≠0/\(∃ (a:ag) (c:Y Nat) (d:Nat),ir w' ay dx a c d)/\((e=3/\¬T.C.D.calm (2*p.length))\/∃x∈p,kK T x)))
theorem uF{α:Type}{l:Y (Y α)}{i:Nat}(h:i<l.length):(l.take (i+1)).flatten=(l.take i).flatten++l[i]:=by
 rw[jZ h,qx];simp
theorem A7{α:Type}{l:Y (Y α)}{i:Nat}(h:i<l.length):l.flatten=(l.take i).flatten++(l[i]++(l.drop (i+1)).flatten):=by
 conv=>lhs;rw[←kY i l,l1 h]
 rw[qx,List.flatten_cons]
theorem Fe{α:Type}{l:Y (Y α)}{i:Nat}(h:i<l.length):(l.take i).flatten.length+l[i].length<=l.flatten.length:=by
 have:=congrArg List.length (A7 h);rw[ej,ej]at this;omega
theorem Lc(h:Nat):∀ {w:I}{T:bf}{dx keys:Nat}{s mu mv:ag}{ps p:Y Nat}{gf:Nat->al bo}{L:Y cq}{lo hi:al Key}{no:Nat},ir w T dx s ps keys->h<=12->fc gf h lo hi no p L->(∀x∈p,T.f x=true/\x<T.n)->(∀x∈p,∀bZ,gf x=some bZ->T.P x=some bZ\/kK T x)->(ps++p).Nodup->
   iK (λq=>¬T.M q) w mu lo->iK (λq=>¬T.M q) w mv hi->ps.length+p.length<=10000->keys+L.length<=100000->T.C.D.bu+2*p.length<=999999999->
   az ah 219 #[.pointer (some dx),no,h,mu,mv] w (Lb T dx ps keys gf p L.length w):=by
 induction h with
 |zero=>intro w T dx keys s mu mv ps p gf L lo hi no _ _ ac;exact ac.elim
 |succ h ba=>
   intro w T dx keys s mu mv ps p gf L lo hi no ad cr ac aR aS dJ aT aX bb cs bc
   obtain⟨n,ct,af,be,bg,rfl,bi,bl⟩:=ac.Fc
   have aY:=ad.t
   have bm:=aS no (by simp) n af
   have bp:=aR no (by simp)
   simp only[iz]at bb bc
   refine okF (Z.xt (some dx) (no:Nat) ((h+1:Nat):Int) mu mv) aj.xt func219 ?_
   (delta Z.xt aw pk gS bR aa ae a_ bn bB bd ap st r1 an cR bj bX bz bx;dsimp only)
   rw[KV be]
   refine⟨_,rfl,_,ad.cells.1,(K7 aY J bm).use ?_⟩
   rintro _ O ⟨br,Q,aZ,bq,ai⟩
   have a0:ir O (T.dL br T.P) dx s ps keys:=ad.of aZ rfl (λ_ h=>h) bq λq d bs=>bs.2 d
   rcases ai with ⟨K,V,D,rfl,am,bt⟩|⟨e,rfl,v,ao⟩
   rotate_left
   · refine⟨_,cC,cC,cC,e,rfl,aV (vs:=[false,(),(),()]) rfl λaF y aq bv=>⟨y.cn rfl (uE (b:=mm.leaf) (K:=cC) (V:=cC) (D:=cC)),rfl,cU y (us:=ml mm cC cC cC) rfl rfl λbw cu bA cv=>⟨λ_=>?_,λhx=>(by simp at hx;exact absurd hx v)⟩⟩⟩
     have a1:Ext O bw:=Ext.bO aq bA (bk _)
     refine⟨_,(Q.trans (ei.ext _ a1)).mono (by simp only[iz];omega),.inr ⟨e,rfl,v,⟨s,ps,keys,a0.ext a1⟩,?_⟩⟩
     rcases ao with ⟨rfl,bD⟩|bE
     · exact .inl ⟨rfl,λhc=>bD (j_ hc (by simp only[iz];omega))⟩
     · exact .inr ⟨no,by simp,bE⟩
   have cw:=ee.hD bg (by have:=aY.K1 _ _ am;omega)
   refine⟨_,K,V,D,0,rfl,aV (vs:=[false,(),(),()]) rfl λaF y aq bv=>⟨y.cn rfl uE,rfl,cU y (us:=ml n K V D) rfl rfl λR S bF cy=>⟨λhx=>(by cases hx),λ_=>?_⟩⟩⟩
   have o:Ext O R:=Ext.bO aq bF (bk _)
   obtain⟨nb,bG⟩:∃nb,nb=O.heap.size:=⟨_,rfl⟩
   rw[←bG]at S⊢
   have a2:¬(T.dL br T.P).M nb:=λhm=>by have:=aZ.lt hm;omega
   have k:=a0.ext o
   have U:dB (λq=>¬(T.dL br T.P).M q) R n K V D:=(bt.ext o).cp λq _ hb=>hb.2
   have cz:=o.size
   have bI:=c8.len U.keys
   have cB:=eS.len U.kids
   obtain⟨d0,d1,d2,d3⟩:=dv S
   have bJ:no∉ps:=λhm=>by
     rw[mH]at dJ
     exact dJ.2.2 no hm no (by simp) rfl
   refine⟨_,rfl,s,k.cells.2.1,(Fb (B:=λ_=>True) ⟨k.own.src,k.own.2.1,λq d=>⟨trivial,k.own.lt q d⟩⟩ no J).use ?_⟩
   rintro _ _ ⟨rfl,rfl⟩
   refine⟨_,rfl,bK (λb w'=>b=false/\R=w') (λq d=>⟨λhb=>absurd (b3 hb) bJ,λ_=>⟨_,rfl,_,k.cells.1,_,rfl,_,k.t.cells.2.1,(Kt k.t.s (no:Nat)).use ?_⟩⟩) ?_⟩
   · rintro _ _ ⟨rfl,rfl⟩
     refine⟨_,rfl,d _ _ ⟨?_,rfl⟩⟩
     have aP:(T.dL br T.P).f=T.f:=rfl
     have aU:(T.dL br T.P).n=T.n:=rfl
     rw[aP,aU,dW,bp.1]
     have:(0:Int)<=(no:Int)/\(no:Int)<(T.n:Int):=⟨J,J⟩
     simp[this.2]
   rintro _ _ ⟨rfl,rfl⟩
   have bM:=(Q.to.trans (cD.ext _ o)).bX aT
   have bN:=(Q.to.trans (cD.ext _ o)).bX aX
   refine bK (λb w'=>b=false/\Ext R w') (λq d=>⟨λhb=>(by cases hb),λ_=>⟨_,d0,K,d1,V,d2,D,d3,(rK U J bM bN).use ?_⟩⟩) ?_
   · rintro _ cE ⟨b,rfl,hb,bP⟩
     exact⟨b,rfl,d _ _ ⟨by rw[hb.2 bi];rfl,bP⟩⟩
   rintro _ cA ⟨rfl,z⟩
   refine⟨λhb=>(by cases hb),λ_=>?_⟩
   have a3:=k.ext z
   obtain⟨F,a4,aJ,aW,bQ,bS⟩:=K9 a3 no J
   refine⟨_,rfl,s,a3.cells.2.1,aQ ⟨F,a4,aJ,_,rfl,?_⟩⟩
   rw[av,cg]
   refine⟨aW,bQ,aQ ?_⟩
   obtain⟨W,m⟩:=bS _ rfl
   generalize cF:a4.setCell ⟨dx,1,none⟩ F=r at W m⊢
   obtain⟨j7,bT⟩:∃j7,j7=(T.dL br T.P).dw (T.dL br T.P).E λq=>(T.dL br T.P).G q\/aD F q:=⟨_,rfl⟩
   rw[←bT]at W m
   have ax:ei T j7 w r 2:=((Q.trans (ei.ext _ (o.trans z))).trans m).mono J
   have cG:=S.lt
   have cH:=z.size
   have ay:=(S.ext z).ak m.to.ak λhm=>a2 (bf.su hm)
   have bU:=m.to.out (q:=nb) J a2
   have bV:=m.to.mm (U.ext z)
   have cI:=m.to.ak.size
   have cJ:=ax.to.ak.size
   rcases bl with ⟨rfl,bY,rfl,b0⟩|⟨aA,c,aB,aP,aU,rfl,rfl,b1⟩
   ·
     have aC:n.leaf=true:=bY.leaf
     refine⟨λ_=>aQ ?_,λhx=>(by rw[aC]at hx;cases hx)⟩
     have a5:=W.ext (bC r)
     have b2:=ay.ext (bC r)
     have b4:IntKind.wrap .i64 ((keys:Int)+(K.len:Int))=((keys+K.len:Nat):Int):=by rw[bW J J];omega
     obtain⟨bH,bL,b5,b6⟩:=K_ a5 (keys+K.len)
     refine⟨_,rfl,id,_,a5.cells.2.2,id,K,(dv b2).2.1,_,rfl,bH,bL,?_⟩
     rw[b4]
     refine aQ ⟨j7,((ax.trans (ei.ext j7 (bC r))).trans b6).mono (by simp),.inl ⟨rfl,⟨F,?_⟩,λx hx=>?_⟩⟩
     · rw[b0,←bI];exact b5
     · rw[dH.1 hx,am,af]
   · have aC:n.leaf=false:=aA.inner
     refine⟨λhx=>(by rw[aC]at hx;cases hx),λ_=>?_⟩
     have cK:=aA.len
     refine⟨D,(dv ay).2.2.2,λaE w'=>∃ (i:Nat) (kA:bf) (aG:ag),aE=(i:Int)/\i<=n.kids.length/\ir w' kA dx aG (ps++no::(c.take i).flatten) (keys+(aB.take i).flatten.length)/\ei T kA w w' (2+2*(c.take i).flatten.length)/\ei j7 kA r w' (2*(c.take i).flatten.length)/\∀x∈(c.take i).flatten,T.P x=gf x,
       λaE _=>((n.kids.length:Int)-aE).toNat,⟨0,j7,F,rfl,dd _,by simpa using W,by simpa using ax,by simpa using ei.refl j7 r,by simp⟩,?_⟩
     rintro _ u ⟨i,kA,aG,rfl,cL,X,g,aH,aK⟩
     refine⟨λaI=>?_,λb7=>?_⟩
     rotate_left
     · have aL:i=n.kids.length:=by
         have:¬(i:Int)<(D.len:Int):=cx b7
         omega
       rw[eY J]at X g aK
       rw[eY J]at X
       refine⟨kA,g.mono (by simp only[iz];omega),.inl ⟨rfl,⟨aG,X⟩,λx hx=>?_⟩⟩
       rcases cW.1 hx with rfl|hx
       · rw[am,af]
       · exact aK x hx
     have aL:i<n.kids.length:=by
       have:(i:Int)<(D.len:Int):=b3 aI
       omega
     have l:i<c.length:=by omega
     have aM:i<aB.length:=by omega
     have a6:=aH.to.mm bV
     have aN:=ay.ak aH.to.ak λhm=>bU.1 (bf.su hm)
     have b8:=g.to.bX aT
     have b9:=g.to.bX aX
     obtain⟨A,au,b_,ca⟩:=eS.at a6.kids aL
     have cM:=Fe l
     have cN:=Fe aM
     have a7:∀ (j:Nat) (ab:j<n.keys.length),∃ (a:ar) (t:ag),K.a=some a/\((0:Int)<=(j:Int)/\(j:Int)<(K.len:Int))/\u.cell? (a.add (Int.toNat (j:Int)*1))=some (.slice t.a t.len t.cap)/\iK (λq=>¬kA.M q) u t n.keys[j]? :=λj ab=>by
       obtain⟨a,t,h1,h2,H,N,_⟩:=c8.at a6.keys ab
       refine⟨a,t,h1,h2,H,?_⟩
       rw[fQ ab]
       refine⟨λe=>?_,N⟩
       have:=(aA.ok _ (cO ab)).1
       rw[e]at this;simp at this
     refine⟨A,au,b_,_,ca,bK (λt w'=>iK (λq=>¬kA.M q) u t (if i=0 then lo else n.keys[i-1]?)/\u=w') (λq d=>⟨λhb=>?_,λhb=>?_⟩) ?_⟩
     · have hb:0<i:=by
         have:(i:Int)>0:=b3 hb
         omega
       have cb:IntKind.wrap .i64 ((i:Int)-1)=((i-1:Nat):Int):=by rw[bW J J];omega
       obtain⟨a,t,h1,h2,H,N⟩:=a7 (i-1) J
       rw[cb]
       refine⟨K,(dv aN).2.1,a,h1,h2,t,H,d _ _ ⟨?_,rfl⟩⟩
       rw[if_neg J];exact N
     · have hb:i=0:=by
         have:¬(i:Int)>0:=cx hb
         omega
       refine d _ _ ⟨?_,rfl⟩
       rw[if_pos hb];exact b8
     rintro iu _ ⟨cc,rfl⟩
     refine bK (λt w'=>iK (λq=>¬kA.M q) u t (if i<n.keys.length then n.keys[i]? else hi)/\u=w') (λq d=>⟨K,(dv aN).2.1,λhb=>?_,λhb=>?_⟩) ?_
     · have hb:i<n.keys.length:=by
         have:(i:Int)<(K.len:Int):=b3 hb
         omega
       obtain⟨a,t,h1,h2,H,N⟩:=a7 i hb
       refine⟨K,(dv aN).2.1,a,h1,h2,t,H,d _ _ ⟨?_,rfl⟩⟩
       rw[if_pos hb];exact N
     · have hb:¬i<n.keys.length:=by
         have:¬(i:Int)<(K.len:Int):=cx hb
         omega
       refine d _ _ ⟨?_,rfl⟩
       rw[if_neg hb];exact b9
     rintro bh _ ⟨cd,rfl⟩
     have ce:IntKind.wrap .i64 (((h+1:Nat):Int)-1)=(h:Int):=by rw[bW J J];omega
     have cf:IntKind.wrap .i64 ((i:Int)+1)=((i+1:Nat):Int):=by rw[bW J J];omega
     have ch:kA.n=T.n:=g.to.n
     have cP:=g.to.bu
     have aO:∀x∈c[i],x∈no::c.flatten:=λx hx=>by
       rw[A7 l]
       exact l0 _ (List.mem_append_right _ (List.mem_append_left _ hx))
     have ci:=ba (p:=c[i]) (gf:=gf) (L:=aB[i]) (no:=n.kids[i]) X J (b1 i aL l aM) (λx hx=>by rw[g.f,ch];exact aR x (aO x hx)) (λx hx bZ h1=>by
       rw[g.P]
       exact(aS x (aO x hx) bZ h1).imp id g.La) (by
       rw[A7 l]at dJ
       have e:ps++no::((c.take i).flatten++(c[i]++(c.drop (i+1)).flatten))=((ps++no::(c.take i).flatten)++c[i])++(c.drop (i+1)).flatten:=by simp
       rw[e]at dJ
       exact(mH.1 dJ).1) cc cd (by simp only[ej,iz];omega) J J
     rw[ce,cf]
     refine ci.use ?_
     rintro _ cj ⟨n1,a8,ai⟩
     have a9:ei T n1 w cj (2+2*((c.take i).flatten.length+c[i].length)):=(g.trans a8).mono J
     rcases ai with ⟨rfl,⟨ck,cl⟩,cm⟩|⟨e,rfl,v,co,ao⟩
     · refine⟨0,rfl,λhx=>(by cases hx),λ_=>⟨⟨i+1,n1,ck,rfl,J,?_,?_,?_,?_⟩,?_⟩⟩
       · rw[uF l,uF aM,ej,←Nat.add_assoc]
         have e:ps++no::((c.take i).flatten++c[i])=(ps++no::(c.take i).flatten)++c[i]:=by simp
         rw[e];exact cl
       · rw[uF l,ej];exact a9
       · rw[uF l,ej];exact(aH.trans a8).mono J
       · intro x hx
         rw[uF l]at hx
         rcases ed.1 hx with hx|hx
         · exact aK x hx
         · rw[←g.P];exact cm x hx
       · show((n.kids.length:Int)-((i+1:Nat):Int)).toNat<((n.kids.length:Int)-(i:Int)).toNat
         omega
     · refine⟨e,rfl,λ_=>⟨n1,a9.mono (by simp only[iz];omega),.inr ⟨e,rfl,v,co,?_⟩⟩,λhx=>(by simp at hx;exact absurd hx v)⟩
       rcases ao with ⟨h1,h2⟩|⟨x,hx,hb⟩
       · exact .inl ⟨h1,λhc=>h2 (g.to.calm _ (j_ hc (by simp only[iz];omega)))⟩
       · exact .inr ⟨x,aO x hx,g.bad hb⟩
def Ld(T:bf)(gf:Nat->al bo)(pages:Y Nat)(c:Nat)(w:I)(v:O)(w':I):Prop:=
 ∃ay:bf,ck w' ay/\ei T ay w w' (2*pages.length)/\ay.G=T.G/\
  ((∃ (s:ag) (es:Y Nat),v=.tuple #[s,c,(0:Int)]/\aS 1 3 w' s (ep es)/\es.Perm pages/\(es.Pairwise λa b=>a<=b)/\(∀q,aD s q->(T.N q\/w.heap.size<=q)/\¬ay.M q)/\(∀x∈pages,T.P x=gf x)/\ck w' (ay.dw T.E λq=>T.G q\/aD s q))\/
   (∃e:Int,v=.tuple #[(),(0:Int),e]/\e≠0/\((e=3/\¬T.C.D.calm (2*pages.length))\/∃x∈pages,kK T x)))
theorem Le{w:I}{T:bf}{gf:Nat->al bo}{pages:Y Nat}{L:Y cq}(h:ck w T)(X:g5 (T.dL T.C gf) pages L)(aq:∀x∈pages,T.f x=true/\x<T.n)(ar:∀x∈pages,∀bZ,gf x=some bZ->T.P x=some bZ\/kK T x)(dJ:pages.Nodup)(aW:L.length<=9000)(aX:pages.length<=9000)(au:T.C.D.bu+2*pages.length<=999999999):
 az ah 171 #[.pointer (some T.bh)] w (Ld T gf pages L.length w):=by
 have ax:=h.num.2.1;refine okF (Z.xe (some T.bh)) aj.xe func171 ?_;(delta Z.xe ae aw r1 bx aa xs a_ dg;dsimp only);refine⟨λh=>(by cases h),λ_=>aV (vs:=[.pointer (some T.bh),(),(0:Int)]) rfl λw1 N ab aY=>?_⟩;obtain⟨dx,aA⟩:∃dx,dx=w.heap.size:=⟨_,rfl⟩;rw[←aA]at N⊢;obtain⟨cf,ac⟩:∃cf,cf=λq=>T.E q\/T.G q:=⟨_,rfl⟩;have y:∀q,T.E q\/T.G q->cf q:=λq a=>by rw[ac];exact a
 have O:∀q,cf q->T.E q\/T.G q:=λq a=>by rw[ac]at a;exact a
 have aZ:=N.lt;have h1:ck w1 (T.dw cf λq=>q=dx):=h.grow (W:=λ_=>False) ab (λ_ h=>h.elim) (λq a=>(O q a).imp id .inl) (λq e=>.inr (.inr ⟨J,J⟩)) λq a e=>by
  rcases O q a with h2|h2
  .have:=h.lt (q:=q) (.inr (.inr (.inr (.inl h2))));omega
  .have:=h.lt (q:=q) (.inr (.inr (.inr (.inr h2))));omega
 obtain⟨cX,k⟩:∃cX,cX=T.dw cf λq=>q=dx:=⟨_,rfl⟩;rw[←k]at h1;have Q:cX.bh=T.bh:=by rw[k];rfl
 have af:cX.E=cf:=by rw[k];rfl
 have F:cX.C=T.C:=by rw[k];rfl
 have R:cX.P=T.P:=by rw[k];rfl
 have ai:ir w1 cX dx ⟨none,0,0⟩ [] 0:=⟨h1,by rw[Q];exact N,aS.none _ _ _,by rw[k];rfl,λq a=>(fx q a).elim⟩;have i:cD T cX w w1 0:=by
  rw[k];exact(cD.refl T w).step (W:=λ_=>False) ab (λ_ h=>h.elim) (λq a=>(O q a).imp id .inl) λq e=>.inr J
 have fin:∀ (w':I) (ay:bf),ck w' ay->ei cX ay w1 w' (2*pages.length)->ck w' (ay.dw T.E T.G)/\ei T (ay.dw T.E T.G) w w' (2*pages.length):=λw' ay aB b=>by
  have s:ay.E=cf:=b.E.trans af;refine⟨aB.grow (E:=T.E) (G:=T.G) (W:=λ_=>False) (ad.refl _ _) (λ_ h=>h.elim) (λq a=>.inl (by rw[s];exact y q (.inl a))) (λq a=>.inl (by rw[s];exact y q (.inr a))) λq a=>(h.dX q a).2.2,?_,rfl,λ_ h=>h,?_,?_,?_,?_,λj=>?_⟩
  .refine⟨b.to.bh.trans i.bh,b.to.sb.trans i.sb,b.to.n.trans i.n,b.to.g.trans i.g,b.to.s1.trans i.s1,b.to.s2.trans i.s2,b.to.c.trans i.c,b.to.d.trans i.d,b.to.bq.trans i.bq,b.to.gen.trans i.gen,by have:=b.to.bu;rw[F]at this;exact this,λm hm=>b.to.calm m (by rw[F];exact hm),?_,λq a=>?_,λq a=>?_⟩
   .exact(ct i.ak b.to.ak λq a aC=>by
     rcases i.fn q aC with h2|h2
     .exact h2
     .omega)
   .rcases a with a|a|a|a|a
    .exact((i.trans b.to).cV q (.inl a))
    .exact((i.trans b.to).cV q (.inr (.inl a)))
    .exact((i.trans b.to).cV q (.inr (.inr (.inl a))))
    .exact .inl (.inr (.inr (.inr (.inl a))))
    .exact .inl (.inr (.inr (.inr (.inr a))))
   .rcases a with a|a|a|a
    .exact((i.trans b.to).fn q (.inl a))
    .exact((i.trans b.to).fn q (.inr (.inl a)))
    .exact((i.trans b.to).fn q (.inr (.inr (.inl a))))
    .exact .inl (.inr (.inr (.inr a)))
  .show ay.root=T.root;rw[b.root,k];rfl
  .show ay.bg=T.bg;rw[b.bg,k];rfl
  .show ay.f=T.f;rw[b.f,k];rfl
  .show ay.P=T.P;rw[b.P,R]
  .show ay.C.view j=T.C.view j;rw[b.view,F]
 refine k9 (λH=>∃ (ay:bf) (r:ag) (ps:Y Nat),ir H ay dx r ps L.length/\ps=pages/\ei cX ay w1 H (2*pages.length)/\∀x∈pages,T.P x=gf x) (λq a=>⟨_,rfl,_,by have:=h1.cells.2.2.2.2;rw[Q]at this;exact this,λhb=>aQ ?_,λhb=>?_⟩) ?_
 .have z:=ai.ext (bC w1)
  have am:cX.bg=T.bg:=by rw[k];rfl
  have aE:cX.root=T.root:=by rw[k];rfl
  have hb:T.bg≠0:=by
   rw[am]at hb;have:(T.bg:Int)>0:=b3 hb;omega
  have A:fc gf T.bg none none T.root pages L:=by
   rcases X with ⟨aF,_⟩|A
   .exact absurd aF hb
   .exact A
  have fB:=z.t.cells.2.2.2.1;have hU:=z.t.cells.2.2.2.2;rw[Q]at fB hU;rw[am]at hU;rw[aE]at fB;have aG:=Lc T.bg (mu:=cC) (mv:=cC) (gf:=gf) (L:=L) (p:=pages) (lo:=none) (hi:=none) (no:=T.root) z ax A (λx hx=>by rw[k];exact aq x hx) (λx hx bZ h2=>by
   rw[R];refine(ar x hx bZ h2).imp id λB=>?_;rw[k];exact B) (by simpa using dJ) rfl rfl (by simp only[qB];omega) J (by rw[F];exact au)
  refine⟨_,rfl,id,_,fB,_,rfl,id,_,hU,aG.use ?_⟩;rintro _ an ⟨ay,S,aH⟩;have ao:ei cX ay w1 an (2*pages.length):=((ei.ext cX (bC w1)).trans S).mono J;rcases aH with ⟨rfl,⟨r,o⟩,U⟩|⟨e,rfl,ap,⟨r,a0,a1,o⟩,aI⟩
  .refine⟨0,rfl,λhx=>(by cases hx),λ_=>a _ ⟨ay,r,pages,?_,rfl,ao,λx hx=>by rw[←R];exact U x hx⟩⟩
   rw[oX,cg]at o;exact o
  .obtain⟨f1,f2⟩:=fin an ay o.t ao
   refine⟨e,rfl,λ_=>⟨_,f1,f2,rfl,.inr ⟨e,rfl,ap,?_⟩⟩,λhx=>(by simp at hx;exact absurd hx ap)⟩;rcases aI with ⟨h2,B⟩|⟨x,hx,B⟩
   .exact .inl ⟨h2,by rw[←F];exact B⟩
   .refine .inr ⟨x,hx,?_⟩
    rw[k]at B;exact B
 .have hb:T.bg=0:=by
   have:¬(cX.bg:Int)>0:=cx hb;rw[k]at this;have:¬(T.bg:Int)>0:=this;omega
  rcases X with ⟨_,_,aK,aL⟩|A
  .subst aK aL
   exact a _ ⟨cX,⟨none,0,0⟩,[],ai,rfl,ei.refl _ _,λx hx=>(by cases hx)⟩
  .have e:(T.dL T.C gf).bg=T.bg:=rfl
   rw[e,hb]at A;exact A.elim
 rintro H ⟨ay,r,ps,o,aM,S,U⟩;rw[aM]at o;refine⟨_,rfl,r,o.cells.2.1,(Ev o.own J).use ?_⟩;rintro _ K ⟨rfl,V,es,aN,aO,aP⟩;have b4:∀q,aD r q->ay.G q:=λq a=>(o.gs q a).1;have aR:=o.v.ak V λa=>(o.gs _ a).2 rfl;have u:ck K ay:=by
  have:=o.t.grow (E:=ay.E) (G:=ay.G) V (λq a _=>.inr (b4 q a)) (λq a=>.inl a) (λq a=>.inr (.inl a)) λq a=>(o.t.dX q a).2.2;exact this
 have aT:ei ay ay H K 0:=⟨(cD.refl ay H).step (E:=ay.E) (G:=ay.G) V (λq a _=>.inr (.inr (.inr (b4 q a)))) (λq a=>.inl a) λq a=>.inl a,rfl,λ_ h=>h,rfl,rfl,rfl,rfl,λ_=>rfl⟩;have M:=bC K;have b:=((S.trans aT).trans (ei.ext ay M)).mono (l:=2*pages.length) J;obtain⟨f1,f2⟩:=fin K.drew ay (u.ext M) b;have z:=aR.ext M;have s:ay.E=cf:=b.E.trans af;have aU:ck K.drew (ay.dw T.E λq=>T.G q\/aD r q):=(u.ext M).grow (E:=T.E) (G:=λq=>T.G q\/aD r q) (W:=λ_=>False) (ad.refl _ _) (λ_ h=>h.elim) (λq a=>.inl (by rw[s];exact y q (.inl a))) (λq a=>a.elim (λa=>.inl (by rw[s];exact y q (.inr a))) λa=>.inr (.inl (b4 q a))) λq a hg=>by
  rcases hg with hg|hg
  .exact(h.dX q a).2.2 hg
  .exact(u.dX q (by rw[s];exact y q (.inl a))).2.2 (b4 q hg)
 refine⟨rfl,aQ ⟨_,rfl,id,r,by rw[av];exact z.cell,_,rfl,id,_,by rw[av];exact z.cell,_,f1,f2,rfl,.inl ⟨r,es,rfl,aN.ext M,aO,aP,λq a=>⟨?_,λhm=>?_⟩,U,aU⟩⟩⟩
 .exact(i.trans b.to).fn q (.inr (.inr (.inr (b4 q a))))
 .have aJ:=b4 q a
  rcases hm with hm|hm|hm|hm|hm
  .exact u.yE aJ hm
  .exact(u.jM q aJ).1 hm
  .exact(u.jM q aJ).2 hm
  .exact(u.dX q (by rw[s];exact y q (.inl hm))).2.2 aJ
  .exact(u.dX q (by rw[s];exact y q (.inr hm))).2.2 aJ
theorem oD{w:I}{s:ag}{l:Y UInt8}(h:Src 1 w s (ax l)){i:Nat}(hi:i<l.length):∃A:ar,s.a=some A/\((0:Int)<=(i:Int)/\(i:Int)<(s.len:Int))/\w.cell? (A.add (Int.toNat (i:Int)*1))=some (.int .u8 ((l[i].toNat:Nat):Int)):=by
 obtain⟨A,au,hb,hc⟩:=h.at (i:=i) (v:=.int .u8 ((l[i].toNat:Nat):Int)) (by simp[ax,hi]);exact⟨A,au,hb,hc⟩
def A8(n:Nat)(root bg:Int):Prop:=0<=bg/\bg<=12/\0<=root/\root<n/\(root=0↔bg=0)
theorem rk{w:I}{C:cj}(hc:fe w C)(sb:Nat)(gen root bg:Int):
 az ah 102 #[.pointer (some C.c),.pointer (some sb),.int .u64 gen,root,bg] w (λv w'=>
  (A8 C.D.n root bg/\v=.tuple #[.pointer (some w.heap.size),(0:Int)]/\Ext w w'/\Var w' w.heap.size [.pointer (some C.c),.pointer (some sb),.int .u64 gen,root,bg] 302/\w'.heap.size=w.heap.size+1)\/
  (¬A8 C.D.n root bg/\v=.tuple #[.pointer none,(1:Int)]/\w=w')):=by
 refine okF (Z.rk (some C.c) (some sb) gen root bg) aj.rk func102 ?_;(delta Z.rk ae aw bx aE aa;dsimp only);refine bK (λb w'=>(b=false↔(0<=bg/\bg<=12/\0<=root/\root<C.D.n))/\w=w') (λq g=>⟨λh1=>g _ _ ⟨?_,rfl⟩,λh1=>⟨_,rfl,_,hc.cells.1,(sn hc.dev).use ?_⟩⟩) ?_
 .simp only[Option.isNone_some,mG,jv,cT]at h1
  exact⟨λh=>(by cases h),λh=>J⟩
 .rintro _ _ ⟨rfl,rfl⟩
  simp only[Option.isNone_some,mG,qq,kX]at h1;refine⟨_,rfl,g _ _ ⟨?_,rfl⟩⟩;rw[kX];omega
 rintro b _ ⟨hb,rfl⟩;refine⟨λh1=>.inr ⟨λhg=>?_,rfl,rfl⟩,λh1=>?_⟩
 .have h2:=hb.2 ⟨hg.1,hg.2.1,hg.2.2.1,hg.2.2.2.1⟩
  rw[h2,mG]at h1;have d:=hg.2.2.2.2;by_cases a:root=0
  .rw[a,d.1 a]at h1;simp at h1
  .have f:bg≠0:=λe=>a (d.2 e)
   have aP:(root==0)=false:=by simpa using a
   have aU:(bg==0)=false:=by simpa using f
   rw[aP,aU]at h1
   cases h1
 .rw[qq]at h1
  have h2:=hb.1 h1.1;have d:root=0↔bg=0:=by
   have a:=h1.2;by_cases f:root=0<;>by_cases i:bg=0<;>simp[f,i]at a⊢
  refine aV (vs:=[.pointer (some C.c),.pointer (some sb),.int .u64 gen,root,bg]) rfl λk j hx hs=>.inl ⟨⟨h2.1,h2.2.1,h2.2.2.1,h2.2.2.2,d⟩,rfl,hx,j,hs⟩
theorem g5.rising{T:bf}{pages:Y Nat}{L:Y cq}(h:g5 T pages L):mh L:=by
 rcases h with ⟨_,_,_,a⟩|b
 .rw[a];exact List.Pairwise.nil
 .exact b.eM.1
section
variable {w0 w w':I}{sx gw:Nat}{T ay:bf}{r h k:Nat}{pages:Y Nat}{L lU:Y cq}{ms:ag}
theorem ck.hG{mw:Nat}(ht:ck w T)(a:T.E mw)(hc:ad (λq=>q=mw) w w'):ck w' T:=
 ht.grow (E:=T.E) (G:=T.G) hc (λq e _=>.inl (by rw[e];exact a)) (λq a=>.inl a) (λq a=>.inr (.inl a)) λq a=>(ht.dX q a).2.2
end
def bf.oE(T:bf)(f g:Nat->ai)(s1 s2:ag):bf:={T with f:=f,g:=g,s1:=s1,s2:=s2}
section
variable {w0 w w':I}{sx gw:Nat}{T ay:bf}{r h k:Nat}{pages:Y Nat}{L lU:Y cq}{ms:ag}
theorem ck.space{f g:Nat->ai}{s1 s2:ag}(ht:ck w T)(hs:eW w' T.sb T.n f g s1 s2)(hc:ad (ga T.sb T.s1 T.s2) w w')(hf:∀k,ga T.sb s1 s2 k->ga T.sb T.s1 T.s2 k\/w.heap.size<=k)(d:∀j,T.C.D.b6 j=true->g j=true\/T.C.D.ro)(e:g 0=true/\g 1=true):
 ck w' (T.oE f g s1 s2)/\∀q,(T.oE f g s1 s2).M q->T.M q\/w.heap.size<=q:=by
 have c:∀q,T.X q->¬ga T.sb T.s1 T.s2 q->¬ga T.sb s1 s2 q:=λq hx a h2=>by
  rcases hf q h2 with b|b
  .exact a b
  .have:=ht.lt (q:=q) (.inr hx);omega
 refine⟨⟨ht.t.ak hc ht.kJ,hs,ht.ca.grow hc (λq a _=>.inr (.inl a)) λq a=>?_,c _ (.inl rfl) ht.kJ,λq a=>⟨(ht.dX q a).1,c q (.inr (.inr (.inl a))) (ht.dX q a).2.1,(ht.dX q a).2.2⟩,λq a=>⟨(ht.jM q a).1,c q (.inr (.inr (.inr a))) (ht.jM q a).2⟩,ht.n,ht.num,ht.gb,d,e⟩,λq a=>?_⟩
 .rcases a with a|a|a|a
  .exact .inl (.inl a)
  .rcases hf q a with b|b
   .exact .inl (.inr (.inl b))
   .exact .inr ⟨b,hs.lt q a⟩
  .exact .inl (.inr (.inr (.inl a)))
  .exact .inl (.inr (.inr (.inr a)))
 .rcases a with a|a|a|a|a
  .exact .inl (.inl a)
  .exact .inl (.inr (.inl a))
  .exact(hf q a).imp (λh=>.inr (.inr (.inl h))) id
  .exact .inl (.inr (.inr (.inr (.inl a))))
  .exact .inl (.inr (.inr (.inr (.inr a))))
theorem g5.agree{p:Y Nat}(a:g5 T p L)(b:ay.root=T.root)(c:ay.bg=T.bg)(d:∀x∈p,T.P x=ay.P x):g5 ay p L:=by
 unfold g5 at a⊢;rw[b,c];exact a.imp id λe=>(e.agree d).1
end
theorem fc.node{P:Nat->al bo}:∀ (h:Nat) {lo hi:al Key}{no:Nat}{p:Y Nat}{L:Y cq},fc P h lo hi no p L->∀x∈p,∃bZ,P x=some bZ
 |0,_,_,_,_,_,a=>a.elim
 |h+1,_,_,no,p,_,a=>by
  obtain⟨n,d,h1,_,_,rfl,_,hc⟩:=a.Fc
  intro x hx
  rcases cW.1 hx with rfl|hx
  .exact⟨n,h1⟩
  .rcases hc with ⟨_,_,rfl,_⟩|⟨_,ps,e,aP,aU,rfl,_,he⟩
   .cases hx
   .obtain⟨l,b,c⟩:=List.mem_flatten.1 hx
    obtain⟨i,hi,rfl⟩:=eZ b
    exact fc.node h (he i J hi J) x c
theorem A9(f:Nat->ai):∀ (n:Nat) (x:Int),x∈kd f n↔∃k:Nat,x=(k:Int)/\k<n/\f k=true
 |0,x=>by simp[kd]
 |n+1,x=>by
  rw[kd,ed,A9 f n x]
  constructor
  .rintro(⟨k,h1,h2,a⟩|h)
   .exact⟨k,h1,J,a⟩
   .split at h
    .exact⟨n,dH.1 h,J,by assumption⟩
    .cases h
  .rintro⟨k,h1,h2,a⟩
   rcases eP k n with b|b
   .exact .inl ⟨k,h1,b,a⟩
   .have:k=n:=by omega
    subst this
    right
    rw[if_pos a,h1];simp
theorem A_(f:Nat->ai):∀n,(kd f n).Pairwise λa b=>a<b
 |0=>List.Pairwise.nil
 |n+1=>by
  rw[kd]
  refine List.pairwise_append.2 ⟨A_ f n,by split<;>simp,λa c b hb=>?_⟩
  obtain⟨k,h1,h2,_⟩:=(A9 f n a).1 c
  split at hb
  .have:=dH.1 hb;omega
  .cases hb
theorem Lf{f:Nat->ai}{n:Nat}{es:Y Nat}(h1:es.Pairwise λa b=>a<b)(h2:∀x,x∈es↔x<n/\f x=true):ep es=m_ f n:=by
 have e:(es.map λd=>((d:Nat):Int)).Perm (kd f n):=by
  refine(List.perm_ext_iff_of_nodup ?_ ?_).2 λx=>?_
  .exact List.Pairwise.map _ (λa b g=>by show((a:Nat):Int)≠((b:Nat):Int);omega) h1
  .exact(A_ f n).imp λh=>by omega
  .rw[A9,dj]
   constructor
   .rintro⟨k,c,rfl⟩
    exact⟨k,rfl,(h2 k).1 c⟩
   .rintro⟨k,rfl,c⟩
    exact⟨k,(h2 k).2 c,rfl⟩
 have he:(es.map λd=>((d:Nat):Int))=kd f n:=by
  refine e.eq_of_pairwise (le:=λx y=>x<=y) (λx y _ _ h1 h2=>J) ?_ ((A_ f n).imp λh=>J);exact List.Pairwise.map _ (λa b g=>by show((a:Nat):Int)<=((b:Nat):Int);omega) h1
 rw[AQ,he];rfl
section
variable {w0 w w':I}{sx gw:Nat}{T ay:bf}{r h k:Nat}{pages:Y Nat}{L lU:Y cq}{ms:ag}
end
theorem oF{i:Nat}(h:i<=1000000):IntKind.wrap .i64 ((i:Int)+1)=((i+1:Nat):Int):=by rw[bW J J];omega
section
variable {w0 w w':I}{sx gw:Nat}{T ay:bf}{r h k c:Nat}{pages a8:Y Nat}{L lU bQ:Y cq}{V:Nat->cL}{ms l:ag}
end
theorem Ff:∀ {a b:Y Nat},a.Nodup->(∀x∈a,x∈b)->a.length<=b.length
 | [],_,_,_=>dd _
 |x::a,b,d,hs=>by
  obtain⟨h1,h2⟩:=List.nodup_cons.1 d
  have hx:=hs x (by simp)
  have:=Ff (a:=a) (b:=b.erase x) h2 λy c=>(List.mem_erase_of_ne (λe=>h1 (by rw[←e];exact c))).2 (hs y (l0 _ c))
  rw[List.length_erase_of_mem hx]at this
  have:=List.length_pos_of_mem hx
  rw[iz];omega
theorem Lg{t:Nat->ai}{l:Y Nat}(n:Nat)(h:∀i,i<n->t i=true->i∈l):eO t n<=l.length:=by
 have h1:∀n,eO t n=((List.range n).filter t).length:=by
  intro n
  induction n with
  |zero=>rfl
  |succ n a=>
   rw[List.range_succ,List.filter_append,ej,eO,a,List.filter_cons,List.filter_nil]
   cases t n<;>rfl
 rw[h1];refine Ff (List.nodup_range.filter t) λx hx=>?_;rw[hJ,kl]at hx;exact h x hx.1 hx.2
theorem g5.empty{T:bf}{pages:Y Nat}(h:g5 T pages []):T.root=0/\T.bg=0:=by
 rcases h with ⟨h1,h2,_,_⟩|a
 .exact⟨h2,h1⟩
 .have b:=(a.agree λ_ _=>rfl).2
  have c:=(g5.low (T:=T) (.inr a) (by decide)).2;have:=List.length_pos_of_mem b;simp only[qB]at c;omega
section
variable {α:Type}{P:Program}{w w':I}{gi eV T:TypeId}{enc:α->O}{r m:Nat}{L:Y (α×O×Nat)}{seen:Y Nat}
structure kL(w:I)(r m:Nat)(enc:α->O)(L:Y (α×O×Nat))(seen:Y Nat):Prop where
 it:∃a:Nat,w.heap[r]? =some (.mapIter (some m) a seen.toArray a)/\w.heap[m]? =some (.map (L.map (cP enc)).toArray a)/\∀x∈L,x.2.2<a
 bZ:(L.map (·.2.2)).Nodup
def gA(L:Y (α×O×Nat))(seen:Y Nat):Y (α×O×Nat):=L.filter λx=> !seen.contains x.2.2
theorem Fg(P:Program){n:Nat}(b:1<=n)(w:I):∃ (i:Nat) (w':I),i<n/\(choose (.mapNext n)).run P w=.ok i w'/\(w'=w\/w'=w.drew):=by
 by_cases h:n<=1
 .refine⟨0,w,J,?_,.inl rfl⟩
  show Sem.run P (.choose (.mapNext n) .pure) w=_;have a:(Question.mapNext n).forced=true:=by simp[Question.forced,h]
  simp only[Sem.run,a,if_true]
 .refine⟨(Question.mapNext n).cut (w.tape w.drawn (.mapNext n)),w.drew,gq _ J,?_,.inr rfl⟩
  show Sem.run P (.choose (.mapNext n) .pure) w=_;have a:(Question.mapNext n).forced=false:=by simp[Question.forced,h]
  simp only[Sem.run,a,fW,if_false];rfl
theorem Ba{a:al Nat}{b d:Nat}{c:Array Nat}(h:w.heap[r]? =some (.mapIter a b c d)):(getObj r).run P w=.ok (.mapIter a b c d) w:=by simp[getObj,Sem.run,h]
theorem Lh{a:al Nat}{b d:Nat}{c:Array Nat}(h:w.heap[r]? =some (.mapIter a b c d))(e:Obj):(setObj r e).run P w=.ok () (ic w r e):=by simp[setObj,Sem.run,h,ic]
theorem kL.begin{M:Y (α×O)}(h:cQ w m enc M){T:TypeId}{gi eV:TypeId}(b:P.underlying T=some (.map gi eV)):∃ (L:Y (α×O×Nat)) (w1:I),(L.map l8).Perm M/\(Instr.range T (.map (some m))).run P w=.ok (.pointer (some w.heap.size)) w1/\kL w1 w.heap.size m enc L []/\Ext w w1/\w1.heap.size=w.heap.size+1:=by
 have aI:=h.lt;obtain⟨L,a,h1,h2,e,c,d⟩:=h;refine⟨L,w.alloc (.mapIter (some m) a #[] a),h2,?_,⟨⟨a,?_,?_,d⟩,c⟩,ad.alloc (.refl _ _) _,by simp⟩
 .simp only[Instr.range,Sem.run_bind,cY b,Result.andThen,ld h1,Sem.run_pure,newObj,Sem.run]
  rfl
 .show(w.heap.push _)[w.heap.size]? =_
  simp
 .show(w.heap.push _)[m]? =_
  rw[Array.getElem?_push_lt aI];exact(Array.getElem?_eq_getElem aI).symm.trans h1
theorem kL.next(h:kL w r m enc L seen)(C:r≠m)(T:TypeId):
 (gA L seen=[]/\∃w1,(Instr.next (.pointer (some r)) false T).run P w=.ok (.tuple #[false]) w1/\Ext w w1/\w1.heap=w.heap)\/
 (∃x∈gA L seen,∃w1,(Instr.next (.pointer (some r)) false T).run P w=.ok (.tuple #[true,enc x.1,x.2.1]) w1/\kL w1 r m enc L (seen++ [x.2.2])/\ad (λq=>q=r) w w1/\w1.heap.size=w.heap.size/\(Instr.entry (.pointer (some r))).run P w1=.ok (.tuple #[enc x.1,x.2.1]) w1):=by
 obtain⟨⟨a,h1,h2,d⟩,j⟩:=h;have k:(!seen.toArray.isEmpty&& !((L.map (cP enc)).toArray).isEmpty&&((L.map (cP enc)).toArray).all λe=>decide (e.born>=a))=false:=by
  cases L with
  |nil=>simp
  |cons x L=>
   have:¬a<=x.2.2:=by have:=d x (by simp);omega
   simp[cP,this]
 have f:((L.map (cP enc)).toArray.filter λe=> !seen.toArray.contains e.born)=((gA L seen).map (cP enc)).toArray:=by
  rw[List.filter_toArray,List.filter_map]
  congr 1
  unfold gA
  congr 1
  apply List.filter_congr;intro x _;simp only[Function.comp,cP,List.contains_toArray]
 have aI:∀x∈gA L seen,x.2.2<a:=λx hx=>d x (hJ.1 hx).1;have hold:(((gA L seen).map (cP enc)).toArray.filter λe=>decide (e.born<a))=((gA L seen).map (cP enc)).toArray:=by
  rw[List.filter_toArray,List.filter_eq_self.2];intro e he;obtain⟨x,hx,rfl⟩:=dj.1 he;exact eB (aI x hx)
 have g:(((gA L seen).map (cP enc)).toArray.filter λe=>decide (e.born>=a))= #[]:=by
  rw[List.filter_toArray,List.filter_eq_nil_iff.2];intro e he;obtain⟨x,hx,rfl⟩:=dj.1 he;have:=aI x hx;have D:¬a<=x.2.2:=by omega
  simp[cP,D]
 cases b:gA L seen with
 |nil=>
  rw[b]at f hold g;obtain⟨i,w1,hi,hc,c⟩:=Fg P (n:=1) (bk _) w;have E:i=0:=by omega
  subst E;refine .inl ⟨rfl,w1,?_,?_,?_⟩
  .simp only[Instr.next,Sem.run_bind,Ba h1,Result.andThen,ld h2,k,fW,if_false,f,hold,g]
   simp only[List.map_nil,Array.isEmpty,va,qB,decide_true,if_true];have e:(#[none]++((#[]:Array MapEntry)++ #[]).map some:Array (al MapEntry)).size=1:=by simp
   have aU:((#[none]++((#[]:Array MapEntry)++ #[]).map some:Array (al MapEntry)))[0]? =some none:=by simp
   simp only[e,Sem.run_bind,hc,Result.andThen,aU,Sem.run_pure,Sem.run_pure]
  .rcases c with rfl|rfl
   .exact .refl _ _
   .exact ad.drew (.refl _ _)
  .rcases c with rfl|rfl<;>rfl
 |cons y l=>
  right;rw[←b];have u:1<=(gA L seen).length:=by rw[b];simp
  obtain⟨i,w1,hi,hc,c⟩:=Fg P (n:=(gA L seen).length) u w;have o:w1.heap=w.heap:=by rcases c with rfl|rfl<;>rfl
  obtain⟨x,hx⟩:∃x,x=(gA L seen)[i]:=⟨_,rfl⟩;have p:x∈gA L seen:=by rw[hx];exact cO _
  have v:x∈L:=(hJ.1 p).1;have A:w1.heap[r]? =some (.mapIter (some m) a seen.toArray a):=by rw[o];exact h1
  have F:r<w1.heap.size:=(ly.1 A).1;have s:(ic w1 r (.mapIter (some m) a (seen.toArray.push x.2.2) a)).heap[r]? =some (.mapIter (some m) a (seen++ [x.2.2]).toArray a):=by
   rw[qU F];simp
  have t:(ic w1 r (.mapIter (some m) a (seen.toArray.push x.2.2) a)).heap[m]? =some (.map (L.map (cP enc)).toArray a):=by
   have hm:w1.heap[m]? =some (.map (L.map (cP enc)).toArray a):=by rw[o];exact h2
   rw[(ph w1 r _).block m (ly.1 hm).1 (λe=>C e.symm)];exact hm
  refine⟨x,p,ic w1 r (.mapIter (some m) a (seen.toArray.push x.2.2) a),?_,⟨⟨a,s,t,d⟩,j⟩,?_,?_,?_⟩
  .simp only[Instr.next,Sem.run_bind,Ba h1,Result.andThen,ld h2,k,fW,if_false,f,hold,g]
   have G:((gA L seen).map (cP enc)).toArray.isEmpty=false:=by rw[b];rfl
   have e:((#[]:Array (al MapEntry))++(((gA L seen).map (cP enc)).toArray++ #[]).map some).size=(gA L seen).length:=by simp
   have aU:((#[]:Array (al MapEntry))++(((gA L seen).map (cP enc)).toArray++ #[]).map some)[i]? =some (some (cP enc x)):=by
    simp[hi,hx]
   simp only[G,fW,if_false,e,Sem.run_bind,hc,Result.andThen,aU,Lh A,Sem.run_pure,cP]
  .have H:ad (λq=>q=r) w w1:=by
    rcases c with rfl|rfl
    .exact .refl _ _
    .exact ad.drew (.refl _ _)
   exact H.trans (ph _ _ _)
  .rw[qT,o]
  .have hb:(seen++ [x.2.2]).toArray.back? =some x.2.2:=by simp
   have hf:((L.map (cP enc)).toArray.find? λe=>e.born==x.2.2)=some (cP enc x):=by
    rw[List.find?_toArray,List.find?_map];have:L.find? ((λe:MapEntry=>e.born==x.2.2)∘cP enc)=some x:=by
     clear b u hi hc p hx s t f hold g aI k h2 d
     induction L with
     |nil=>cases v
     |cons z L I=>
      rw[gD]at j;obtain⟨dN,bF⟩:=List.nodup_cons.1 j;rw[List.find?_cons];rcases cW.1 v with rfl|B
      .simp[cP]
      .have J:z.2.2≠x.2.2:=λe=>dN (by rw[e];exact dj.2 ⟨x,B,rfl⟩)
       have:((λe:MapEntry=>e.born==x.2.2)∘cP enc) z=false:=by simp[cP,J]
       rw[this];exact I bF B
    rw[this];rfl
   have K:(a !=a)=false:=by simp
   simp only[Instr.entry,Sem.run_bind,Ba s,Result.andThen,hb,ld t,K,fW,if_false,hf,Sem.run_pure,cP]
theorem cQ.clear{M:Y (α×O)}(h:cQ w m enc M){o:TypeId}(b:P.underlying T=some (.map gi eV)):∃w1,(Builtin.clear_ #[T] o #[.map (some m)]).run P w=.ok (.tuple #[]) w1/\cQ w1 m enc ([]:Y (α×O))/\ad (λq=>q=m) w w1/\w1.heap.size=w.heap.size:=by
 have aI:=h.lt;obtain⟨L,a,h1,h2,c,d,e⟩:=h;refine⟨ic w m (.map #[] a),?_,⟨[],a,qU aI _,by simp,by simp,by simp,by simp⟩,ph _ _ _,qT _ _ _⟩;unfold Builtin.clear_;simp only[sP,nA,Sem.run_bind,cY b,Result.andThen,ld h1,tx h1,Sem.run_pure]
end
theorem Fh{w:I}{lb:Nat}{ls:Y cL}{T:TypeId}(h:aZ w lb (a7 ax ls).toArray T)(hs:∀x∈ls,x.length=256){i:Nat}(hi:i<ls.length){x:cL}(hx:x.length=256):
 bN w ⟨lb,i*256,none⟩ (ax x)/\aZ (setCells w ⟨lb,i*256,none⟩ 0 (ax x)) lb (a7 ax (ls.set i x)).toArray T/\ad (λq=>q=lb) w (setCells w ⟨lb,i*256,none⟩ 0 (ax x)):=by
 have a:∀x∈ls,(ax x).length=256:=λx hx=>by rw[c7];exact hs x hx
 have f:=mn (c:=ax) ls a;have b:(ax x).length=256:=by rw[c7];exact hx
 have d:i*256+(ax x).length<=(a7 ax ls).toArray.size:=by
  rw[va,f,b];omega
 refine⟨aZ.cn h _ _ d (hV _),?_,ad.iG (.refl _ _) _ 0⟩;have h0:=aZ.je (o:=i*256) h (ax x);have h1:=jC (ax x) (a7 ax ls).toArray (i*256) d;have h2:=Ef a hi x;rw[b]at h1;have g:(f_ (a7 ax ls).toArray (i*256) (ax x)).toList=a7 ax (ls.set i x):=h1.trans h2;have e:f_ (a7 ax ls).toArray (i*256) (ax x)=(a7 ax (ls.set i x)).toArray:=by rw[←g]
 rw[e]at h0;exact h0
theorem Li{α:Type}{L:Y (α×O×Nat)}{seen:Y Nat}{x:α×O×Nat}(h:x∈gA L seen):(gA L (seen++ [x.2.2])).length<(gA L seen).length:=by
 have e:gA L (seen++ [x.2.2])=(gA L seen).filter λy=> !(y.2.2==x.2.2):=by
  unfold gA;rw[List.filter_filter];apply List.filter_congr;intro y _;rw[eX];simp only[kW,du,List.contains_eq_mem,kX,ed,dH,beq_eq_false_iff_ne];constructor
  .exact λh=>⟨λh2=>h (.inr h2),λh2=>h (.inl h2)⟩
  .rintro⟨h1,h2⟩ (a|a)
   .exact h2 a
   .exact h1 a
 rw[e];exact List.length_filter_lt_length_iff_exists.2 ⟨x,h,by simp⟩
def Bb{α:Type}(L:Y (α×O×Nat))(r:Nat)(w:I):Nat:=match w.heap[r]? with
 |some (.mapIter _ _ seen _)=>(gA L seen.toList).length
 |_=>0
theorem kL.left{α:Type}{w:I}{r m:Nat}{enc:α->O}{L:Y (α×O×Nat)}{seen:Y Nat}(h:kL w r m enc L seen):Bb L r w=(gA L seen).length:=by
 obtain⟨⟨a,h1,_⟩,_⟩:=h;unfold Bb;rw[h1]
theorem kL.ak{α:Type}{W:Nat->Prop}{w w':I}{r m:Nat}{enc:α->O}{L:Y (α×O×Nat)}{seen:Y Nat}(h:kL w r m enc L seen)(hc:ad W w w')(a:¬W r)(hm:¬W m):kL w' r m enc L seen:=by
 obtain⟨⟨b,h1,h2,c⟩,d⟩:=h;exact⟨⟨b,by rw[hc.block r (ly.1 h1).1 a];exact h1,by rw[hc.block m (ly.1 h2).1 hm];exact h2,c⟩,d⟩
def ba.jq(D:ba):ba:={D with bq:=(List.range D.n).map D.now,waits:=[]}
theorem uG(D:ba):D.jq.n=D.n:=by simp[ba.jq,ba.n]
theorem Bc(D:ba){i:Nat}(hi:i<D.n):D.jq.now i=D.now i:=by
 show((List.range D.n).map D.now).getD i []=_;rw[fE (by simp;exact hi)];simp
def Lj(D:ba)(w:I)(v:O)(w':I):Prop:=
 (D.fU 3=true/\v=.int .i64 3/\cv w' (D.cF 3)/\ad (λq=>q=D.d) w w')\/
 (D.fU 3=false/\v=.int .i64 0/\cv w' (D.cF 3).jq/\ad (bI D) w w')
theorem Bd{w:I}{D:ba}(h:cv w D)(br:D.bu<=1000000000):az ah 43 #[.pointer (some D.d)] w (Lj D w):=by
 refine okF (Z.wK (some D.d)) aj.wK func43 ?_;(delta Z.wK ae aw bn zX bE fz a_ fK bj bX bz z_;dsimp only);refine⟨λh1=>(by cases h1),λ_=>⟨_,rfl,(AL h (k:=3) (by decide)).use ?_⟩⟩;rintro _ af ⟨rfl,g,ac,bs⟩;obtain⟨f,t⟩:∃f,f=D.cF 3:=⟨_,rfl⟩;have aP:f.d=D.d:=by rw[t];rfl
 have aU:f.lb=D.lb:=by rw[t];rfl
 have aH:f.mr=D.mr:=by rw[t];rfl
 have aI:f.n=D.n:=by rw[t];rfl
 have aJ:bI f=bI D:=by rw[t];rfl
 have bv:f.bu=D.bu:=by rw[t];rfl
 rw[←t]at g;refine⟨_,rfl,λhb=>.inl ⟨hb,rfl,by rw[←t];exact g,ac⟩,λhb=>?_⟩;rw[←aP];have ag:=g.bF;obtain⟨L,aF,ai,al,am,an,bw⟩:=kL.begin (P:=ah) g.m mo;obtain⟨r,aK⟩:∃r,r=af.heap.size:=⟨_,rfl⟩;rw[←aK]at al am;have aL:r≠f.mr:=by have:=g.m.lt;omega
 have ao:∀q,bI f q->q≠r:=λq E e=>by have:=g.lt E;omega
 have aM:∀x∈L,∃y∈f.waits,x.1=(y.i:Int):=λx hx=>by
  have:=ai.mem_iff.1 (dj.2 ⟨x,hx,rfl⟩);obtain⟨y,u,e⟩:=dj.1 this;refine⟨y,u,?_⟩;have:=congrArg Prod.fst e;exact this.symm
 have aN:∀y∈f.waits,∃x∈L,x.1=(y.i:Int):=λy u=>by
  have:y.e∈L.map l8:=ai.mem_iff.2 (dj.2 ⟨y,u,rfl⟩);obtain⟨x,hx,e⟩:=dj.1 this;exact⟨x,hx,congrArg Prod.fst e⟩
 refine⟨_,rfl,some f.mr,g.hU,_,aF,al,λw'=>∃ (seen:Y Nat) (ls:Y cL),kL w' r f.mr encZ L seen/\cv w' {f with bq:=ls}/\ls.length=f.n/\(∀ (j:Nat) (F:j<ls.length),ls[j]=if ∃x∈L,x.2.2∈seen/\x.1=(j:Int) then f.now j else f.bq.getD j [])/\ad (λq=>bI f q) af w'/\aF.heap.size<=w'.heap.size,
  Bb L r,⟨[],f.bq,am,g.ext an,rfl,λj F=>?_,ad.bA an,bk _⟩,?_⟩
 .rw[if_neg (by rintro⟨x,_,h1,_⟩;cases h1),fE F]
 rintro ap ⟨seen,ls,N,A,B,iE,H,bx⟩;have O:∀s∈ls,s.length=256:=A.sl;have bB:r<ap.heap.size:=by omega
 have aO:f.lb≠r:=ao _ (.inr (.inl rfl));rcases N.next (P:=ah) aL 0 with ⟨aS,cy,Q,aq,bD⟩|⟨x,hx,aR,Q,aT,ar,bG,aV⟩
 .
  refine .inr ⟨cy,Q,λh=>(by cases h),λ_=>?_⟩;have K:=A.ext aq;obtain⟨aW,aX,aY,R,bJ⟩:=cQ.clear (P:=ah) (o:=0) K.m mo;refine⟨_,rfl,some f.mr,K.hU,_,aW,aX,.inr ⟨hb,rfl,?_,?_⟩⟩
  .have a0:∀x∈L,x.2.2∈seen:=λx hx=>by
    have:=List.filter_eq_nil_iff.1 aS x hx;simpa using this
   have a4:ls=(List.range D.n).map D.now:=by
    refine oZ (by simp[B,aI]) λj h1 h2=>?_;rw[iE j h1,List.getElem_map,List.getElem_range];have S:D.now j=f.now j:=by rw[t];rfl
    rw[S];split
    .rfl
    .rename_i a5
     unfold ba.now
     cases hf:f.waits.find? λx=>x.i==j with
     |some y=>
      exfalso;have u:=j1 hf;have a6:y.i=j:=by simpa using k0 hf
      obtain⟨x,hx,e⟩:=aN y u;exact a5 ⟨x,hx,a0 x hx,by rw[e,a6]⟩
     |none=>rfl
   have T:f.d≠f.mr:=g.a1.2.1;have a8:f.lb≠f.mr:=g.a1.2.2;have e:(D.cF 3).jq={f with bq:=ls,waits:=[]}:=by
    rw[a4,t];rfl
   rw[e];refine⟨K.v.ak R T,aZ.ak K.l R a8,aY,λx hx=>(by cases hx),λx hx=>(by cases hx),O,λx hx=>(by cases hx),?_,?_,A.f4,A.fr,A.a1,λx hx=>(by cases hx),λx hx=>(by cases hx),A.r⟩
   .show 16<=ls.length;rw[B];exact g.dN
   .show ls.length<=1600;rw[B];exact ag
  .have a9:bI D D.d:=.inl rfl
   have hc:ad (λq=>bI D q) w af:=ac.mono λq _ e=>by rw[e];exact a9
   have H:ad (λq=>bI D q) af ap:=by rw[←aJ];exact H
   have bb:=ct hc H λq _ h=>h;have bc:=ct bb aq λq _ h=>h.elim;exact ct bc R λq _ e'=>by rw[e',aH];exact .inr (.inr (.inl rfl))
 .
  have U:x∈L:=(hJ.1 hx).1;have bK:x.2.2∉seen:=by
   have:=(hJ.1 hx).2;simpa using this
  obtain⟨y,u,V⟩:=aM x U;have bd:=A.ak ar λq E=>ao q E;have hi:y.i<f.n:=(g.wn y u).2.1;have be:y.i<ls.length:=by omega
  refine .inl ⟨_,_,aR,Q,λ_=>⟨(y.i:Int),x.2.1,aR,?_,?_⟩,λh=>(by cases h)⟩
  .rw[aV]
   have e:encZ x.1=y.i:=by rw[V]
   rw[e]
  have ay:=bC aR;have W:=bd.ext ay;have bf:({f with bq:=ls}:ba).n=f.n:=B;refine aQ ⟨λ_=>False,_,rfl,id,⟨some f.lb,ls.length,ls.length⟩,W.fB,(Ei (i:=y.i) W (by rw[bf];exact hi) (by show f.bu<=_;omega)).use ?_⟩;rintro _ bt ⟨rfl,X⟩;have p:=W.ext X;have S:({f with bq:=ls}:ba).now y.i=f.now y.i:=by
   unfold ba.now
   cases hf:f.waits.find? λx=>x.i==y.i with
   |some z=>rfl
   |none=>
    have:=mI.1 hf y u;simp at this
  have aa:(f.now y.i).length=256:=g.p3 hi;rw[S];have au:Addr.add f.lb (Int.toNat (y.i:Int)*256)=⟨f.lb,y.i*256,none⟩:=by rw[dW,av,cg]
  obtain⟨bH,bL,bg⟩:=Fh p.l O be aa;refine⟨_,rfl,X,_,rfl,⟨J,by show(y.i:Int)<(ls.length:Int);omega⟩,by rw[au];exact bH,by simp[c7,aa],?_⟩;rw[au];refine aQ ?_;show _/\_;have aA:aZ (setCells bt ⟨f.lb,y.i*256,none⟩ 0 (ax (f.now y.i)).toArray.toList) f.lb (a7 ax (ls.set y.i (f.now y.i))).toArray 159:=bL;have C:ad (λq=>q=f.lb) bt (setCells bt ⟨f.lb,y.i*256,none⟩ 0 (ax (f.now y.i)).toArray.toList):=bg;generalize setCells bt ⟨f.lb,y.i*256,none⟩ 0 (ax (f.now y.i)).toArray.toList=aB at aA C;have ab:=Ext.trans ay X;have aC:=(aT.ak ab id id).ak C (λe=>aO e.symm) λe=>g.a1.2.2 e.symm;have bh:ad (λq=>bI f q) af aB:=by
   have h1:ad (λq=>bI f q) af aR:=ct H ar λq E e=>by omega
   have h2:=ct h1 ab λq _ h=>h.elim;exact ct h2 C λq _ e=>by rw[e];exact .inr (.inl rfl)
  have bM:=ab.size;have bN:=C.size;have bi:cv aB {f with bq:=ls.set y.i (f.now y.i)}:=by
   have T:f.d≠f.lb:=g.a1.1;refine⟨?_,aA,p.m.ak C λe=>g.a1.2.2 e.symm,λx hx=>(p.ws x hx).ak C λq E e=>(p.a2 x hx).2.1 (by rw[←e];exact E),?_,λs hs=>?_,p.bT,?_,?_,p.f4,p.fr,p.a1,p.a2,p.a3,p.r⟩
   .have h1:=p.v.ak C T
    have e:({f with bq:=ls.set y.i (f.now y.i)}:ba).c=({f with bq:=ls}:ba).c:=by unfold ba.c;simp
    rw[e];exact h1
   .intro z bl
    have:=p.wn z bl;refine⟨this.1,?_,this.2.2⟩;show z.i<(ls.set y.i (f.now y.i)).length;rw[c1];exact this.2.1
   .rcases nH hs with h1|rfl
    .exact O s h1
    .exact aa
   .show 16<=(ls.set y.i (f.now y.i)).length;rw[c1,B];exact g.dN
   .show(ls.set y.i (f.now y.i)).length<=1600;rw[c1,B];exact ag
  refine⟨⟨seen++ [x.2.2],_,aC,bi,by rw[c1];exact B,λj F=>?_,bh,J⟩,?_⟩
  .rw[c1]at F
   rw[sT];split
   .rename_i e
    subst e;rw[if_pos ⟨x,U,by simp,V⟩]
   .rename_i bm
    rw[iE j F];have:(∃G∈L,G.2.2∈seen/\G.1=(j:Int))↔∃G∈L,G.2.2∈seen++ [x.2.2]/\G.1=(j:Int):=by
     constructor
     .rintro⟨z,h1,h2,M⟩
      exact⟨z,h1,List.mem_append_left _ h2,M⟩
     .rintro⟨z,h1,h2,M⟩
      rcases ed.1 h2 with h2|h2
      .exact⟨z,h1,h2,M⟩
      .have bo:z=x:=by
        have aD:=N.bZ;obtain⟨a,aE,rfl⟩:=eZ h1;obtain⟨b,hb,rfl⟩:=eZ U;have aG:=dH.1 h2;have bp:a=b:=by
         rcases Nat.lt_trichotomy a b with h|h|h
         .have:=sV.1 aD a b (by simpa using aE) (by simpa using hb) h
          simp at this;exact absurd aG this
         .exact h
         .have:=sV.1 aD b a (by simpa using hb) (by simpa using aE) h
          simp at this;exact absurd aG.symm this
        subst bp;rfl
       rw[bo,V]at M;exact absurd J bm
    simp only[this]
  .rw[aC.left,N.left]
   exact Li hx
end Go.Proofs.YtcfodkffcmfcaaaGreat
