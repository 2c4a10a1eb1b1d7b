/- Contracts of the functions that the statement reaches, and the plain laws over them; each theorem stands with its conditions. -/
import Derived.Test.YtkpjknbogcihmaaGreatDoorBTDen2
namespace Go.Proofs.YtkpjknbogcihmaaGreatDoor
open Go aQ Go.Proofs.Tryz
structure e4(C b9:cv)(w w':I)(k:Nat):Prop where
 c:b9.c=C.c
 d:b9.D.d=C.D.d
 len:b9.ay.length=C.ay.length
 bX:b9.D.key=C.D.key
 bV:b9.D.bV<=C.D.bV+k
 calm:∀m,C.D.calm (m+k)->b9.D.calm m
 ax:af (dx C) w w'
 dS:∀q,dx b9 q->dx C q\/w.heap.size<=q
theorem e4.refl(C:cv)(w:I):e4 C C w w 0:=⟨rfl,rfl,rfl,rfl,bu _,λ_ h=>h,.refl _ _,λ_ h=>.inl h⟩
theorem e4.ext{w w':I}(C:cv)(h:Ext w w'):e4 C C w w' 0:=⟨rfl,rfl,rfl,rfl,bu _,λ_ h=>h,af.bt h,λ_ h=>.inl h⟩
theorem e4.trans{C b9 a:cv}{w w' b:I}{k l:Nat}(h1:e4 C b9 w w' k)(h2:e4 b9 a w' b l):e4 C a w b (k+l):=by
 have f:=h1.ax.size;refine⟨h2.c.trans h1.c,h2.d.trans h1.d,h2.len.trans h1.len,h2.bX.trans h1.bX,by have:=h1.bV;have:=h2.bV;omega,λm hm=>h2.calm m (h1.calm (m+l) (by rw[show m+l+k=m+(k+l) from J];exact hm)),de h1.ax h2.ax λq e h=>(h1.dS q h).resolve_right J,λq e=>?_⟩;rcases h2.dS q e with h|h
 .exact h1.dS q h
 .exact .inr J
theorem e4.mono{C b9:cv}{w w':I}{k l:Nat}(h:e4 C b9 w w' k)(hl:k<=l):e4 C b9 w w' l:=
 ⟨h.c,h.d,h.len,h.bX,by have:=h.bV;omega,λm hm=>h.calm m (m_ hm J),h.ax,h.dS⟩
theorem e4.cc{C b9:cv}{w w':I}{k:Nat}(h:e4 C b9 w w' k):b9.D.cc=C.D.cc:=congrArg (λk:(Y dw×(Nat->ah)×(Nat->Y dw)×(Int->Prop)×ah)×Int=>k.1.2.1) h.bX
theorem e4.qW{C b9:cv}{w w':I}{k:Nat}(h:e4 C b9 w w' k):b9.D.cc=C.D.cc/\b9.D.ek=C.D.ek:=⟨h.cc,congrArg (λk:(Y dw×(Nat->ah)×(Nat->Y dw)×(Int->Prop)×ah)×Int=>k.1.2.2.1) h.bX⟩
theorem e4.n{C b9:cv}{w w':I}{k:Nat}(h:e4 C b9 w w' k):b9.D.n=C.D.n:=congrArg (λk:(Y dw×(Nat->ah)×(Nat->Y dw)×(Int->Prop)×ah)×Int=>k.1.1.length) h.bX
section
variable {w w':I}{C:cv}{X:Nat->Prop}
theorem pz{fs:Y Fr}{D:bz}{c ba hd:Nat}(un:∀ (i j:Nat) (hi:i<fs.length) (d:j<fs.length),(fs[i]).full=true->(fs[j]).full=true->(fs[i]).no=(fs[j]).no->i=j){i:Nat}(hi:i<fs.length){no:Nat}(hf:(fs[i]).full=true)(e:(fs[i]).no=no):(cv.mk c ba fs hd D).view no=(fs[i]).l:=by
 unfold cv.view
 cases a:fs.find? λf=>f.full&&f.no==(no:Int) with
 |none=>
  have:=oL.1 a _ (dD hi);simp[hf,e]at this
 |some f=>
  have hm:=lv a;have b:=mP a;simp only[dM,jY]at b;obtain⟨j,d,rfl⟩:=fQ hm;have:=un i j hi d hf b.1 (by rw[e,b.2]);subst this;simp only
theorem qX{fs:Y Fr}{D:bz}{c ba hd:Nat}{no:Nat}(h:∀f∈fs,f.full=true->f.no≠no):(cv.mk c ba fs hd D).view no=D.now no:=by
 unfold cv.view
 cases b:fs.find? λf=>f.full&&f.no==(no:Int) with
 |none=>rfl
 |some f=>
  have hm:=lv b;have a:=mP b;simp only[dM,jY]at a;exact absurd a.2 (h f hm a.1)
theorem Aa(D:bz)(k i:Nat):(D.c9 k).now i=D.now i:=rfl
theorem c5.re{B b:Nat->Prop}{w w':I}{t:ai}{l:Key}{V:Nat->Prop}(h:c5 B w t l)(hc:af V w w')(c:∀q,q<w.heap.size->B q->¬V q)(hb:∀q,q<w.heap.size->B q->b q):c5 b w' t l:=
 ⟨h.1.ax hc λq a=>c q (h.2.2 q a).2 (h.2.2 q a).1,h.2.1,λq a=>⟨hb q (h.2.2 q a).2 (h.2.2 q a).1,fu (h.2.2 q a).2 hc.size⟩⟩
theorem Ct{gs:Y Fr}{hd:Nat}{a8:bz}{V:Nat->Prop}(h:hM X w C)(d:kd C.ay gs)(hc:af V w w')(fo:∀q,q<w.heap.size->V q->dx C q)(m:lT a8 C.D)(r:∀i,a8.now i=C.D.now i)(s:∀q,cm a8 q->cm C.D q\/w.heap.size<=q):hM X w' {C with ay:=gs,hand:=hd,D:=a8}:=by
 have t:=hc.size;have o:∀q,q<w.heap.size->dx {C with ay:=gs,hand:=hd,D:=a8} q->dx C q:=λq a hf=>by
  rcases hf with h1|h1|h1
  .exact .inl h1
  .exact .inr (.inl h1)
  .exact .inr (.inr ((s q h1).resolve_right J))
 have k:∀ (i:Nat) (hi:i<gs.length),∃c:i<C.ay.length,gs[i]={C.ay[i] with used:=(gs[i]).used}:=λi hi=>⟨by rw[←d.1];exact hi,d.2 i (by rw[←d.1];exact hi) hi⟩;refine⟨λf hf=>?_,λf hf u=>?_,λi j hi v h1 h2 x=>?_,λq a=>⟨fu (h.gv q a).1 t,λhf=>(h.gv q a).2 (o q (h.gv q a).1 hf)⟩,m.2.2⟩
 .obtain⟨i,hi,rfl⟩:=fQ hf
  obtain⟨c,e⟩:=k i hi;have:(gs[i]).pins=(C.ay[i]).pins:=by rw[e]
  rw[this];exact h.pins _ (dD c)
 .obtain⟨i,hi,rfl⟩:=fQ hf
  obtain⟨c,e⟩:=k i hi;have aT:(gs[i]).full=(C.ay[i]).full:=by rw[e]
  have a6:(gs[i]).no=(C.ay[i]).no:=by rw[e]
  have n:(gs[i]).b=(C.ay[i]).b:=by rw[e]
  have g:(gs[i]).l=(C.ay[i]).l:=by rw[e]
  have p:(gs[i]).gJ=(C.ay[i]).gJ:=by rw[e]
  obtain⟨no,aS,bf,y,z,A,B,E⟩:=h.ok _ (dD c) (by rw[←aT];exact u);refine⟨no,by rw[a6];exact aS,by rw[m.1];exact bf,?_,by rw[g];exact z,λhd=>by rw[g,r];exact A (by rw[←p];exact hd),λd=>by rw[p];exact B (m.2.1 _ d),E⟩;rw[n,g];exact c5.re y hc (λq a hb F=>hb.1 (fo q a F)) λq a hb=>⟨λhf=>hb.1 (o q a hf),hb.2⟩
 .obtain⟨c,e⟩:=k i hi
  obtain⟨G,e'⟩:=k j v;have aT:(gs[i]).full=(C.ay[i]).full:=by rw[e]
  have a6:(gs[i]).no=(C.ay[i]).no:=by rw[e]
  have n:(gs[j]).full=(C.ay[j]).full:=by rw[e']
  have g:(gs[j]).no=(C.ay[j]).no:=by rw[e']
  exact h.un i j c G (by rw[←aT];exact h1) (by rw[←n];exact h2) (by rw[←a6,←g];exact x)
theorem Cu{gs:Y Fr}{hd:Nat}{a8:bz}(h:hM X w C)(d:kd C.ay gs)(q:∀i,a8.now i=C.D.now i)(no:Nat):(cv.mk C.c C.ba gs hd a8).view no=C.view no:=by
 have g:∀ (i:Nat) (hi:i<gs.length),∃k:i<C.ay.length,gs[i]={C.ay[i] with used:=(gs[i]).used}:=λi hi=>⟨by rw[←d.1];exact hi,d.2 i (by rw[←d.1];exact hi) hi⟩;by_cases hex:∃ (i:Nat) (hi:i<C.ay.length),(C.ay[i]).full=true/\(C.ay[i]).no=no
 .obtain⟨i,hi,h1,h2⟩:=hex
  have m:i<gs.length:=by rw[d.1];exact hi
  obtain⟨k,e⟩:=g i m;have aT:(gs[i]).full=(C.ay[i]).full:=by rw[e]
  have a6:(gs[i]).no=(C.ay[i]).no:=by rw[e]
  have r:(gs[i]).l=(C.ay[i]).l:=by rw[e]
  have s:∀ (i j:Nat) (hi:i<gs.length) (y:j<gs.length),(gs[i]).full=true->(gs[j]).full=true->(gs[i]).no=(gs[j]).no->i=j:=by
   intro a b t hb bU b1 u;obtain⟨v,n⟩:=g a t;obtain⟨x,o⟩:=g b hb;have f1:(gs[a]).full=(C.ay[a]).full:=by rw[n]
   have f2:(gs[a]).no=(C.ay[a]).no:=by rw[n]
   have f3:(gs[b]).full=(C.ay[b]).full:=by rw[o]
   have f4:(gs[b]).no=(C.ay[b]).no:=by rw[o]
   exact h.un a b v x (by rw[←f1];exact bU) (by rw[←f3];exact b1) (by rw[←f2,←f4];exact u)
  rw[pz s m (by rw[aT];exact h1) (by rw[a6];exact h2),r];exact(pz (fs:=C.ay) (D:=C.D) (c:=C.c) (ba:=C.ba) (hd:=C.hand) h.un hi h1 h2).symm
 .have p:∀f∈C.ay,f.full=true->f.no≠no:=λf hf h1 h2=>by
   obtain⟨i,hi,rfl⟩:=fQ hf;exact hex ⟨i,hi,h1,h2⟩
  have e:C.view no=C.D.now no:=qX (fs:=C.ay) (D:=C.D) (c:=C.c) (ba:=C.ba) (hd:=C.hand) p;rw[e,←q];refine qX λf hf h1 h2=>?_;obtain⟨i,hi,rfl⟩:=fQ hf;obtain⟨k,e⟩:=g i hi;have aT:(gs[i]).full=(C.ay[i]).full:=by rw[e]
  have a6:(gs[i]).no=(C.ay[i]).no:=by rw[e]
  exact p _ (dD k) (by rw[←aT];exact h1) (by rw[←a6];exact h2)
theorem Cv{i:Nat}(hi:i<C.ay.length){a8:bz}{V:Nat->Prop}(h:hM X w C)(hc:af V w w')(fo:∀q,q<w.heap.size->V q->dx C q)(g:lT a8 C.D)
 (s:∀j:Nat,((C.ay[i]).full=true->(C.ay[i]).no≠j)->a8.now j=C.D.now j) (t:∀q,cm a8 q->cm C.D q\/w.heap.size<=q) (f0:Fr) (l:f0.full=false) (u:f0.pins=0):hM X w' {C with ay:=C.ay.set i f0,D:=a8}:=by
 have v:=hc.size;have n:∀q,q<w.heap.size->dx {C with ay:=C.ay.set i f0,D:=a8} q->dx C q:=λq c hf=>by
  rcases hf with h1|h1|h1
  .exact .inl h1
  .exact .inr (.inl h1)
  .exact .inr (.inr ((t q h1).resolve_right J))
 refine⟨λf hf=>?_,λf hf d=>?_,λa b x hb h1 h2 m=>?_,λq c=>⟨fu (h.gv q c).1 v,λhf=>(h.gv q c).2 (n q (h.gv q c).1 hf)⟩,g.2.2⟩
 .rcases pY hf with hf|rfl
  .exact h.pins f hf
  .exact u
 .obtain⟨k,y,rfl⟩:=fQ hf
  have o:k<C.ay.length:=by simpa using y
  by_cases e:i=k
  .subst e
   simp only[jh]at d;rw[l]at d;cases d
  .simp only[fG e]at d⊢
   obtain⟨no,aS,bf,z,A,B,E,F⟩:=h.ok _ (dD o) d;refine⟨no,aS,by rw[g.1];exact bf,c5.re z hc (λq c hb G=>hb.1 (fo q c G)) λq c hb=>⟨λhf=>hb.1 (n q c hf),hb.2⟩,A,λhd=>?_,λH=>E (g.2.1 _ H),F⟩;show _=a8.now no;rw[s no λI he=>e (h.un i k hi o I d (by rw[he,aS]))];exact B hd
 .have K:a<C.ay.length:=by simpa using x
  have L:b<C.ay.length:=by simpa using hb
  by_cases p:i=a
  .subst p
   simp only[jh]at h1;rw[l]at h1;cases h1
  by_cases r:i=b
  .subst r
   simp only[jh]at h2;rw[l]at h2;cases h2
  simp only[fG p]at h1 m;simp only[fG r]at h2 m;exact h.un a b K L h1 h2 m
theorem GB{i:Nat}(hi:i<C.ay.length){a8:bz}{hd:Nat}(h:hM X w C)(hl:(C.ay[i]).full=true->∀j:Nat,(C.ay[i]).no=j->a8.now j=(C.ay[i]).l)(u:∀j:Nat,((C.ay[i]).full=true->(C.ay[i]).no≠j)->a8.now j=C.D.now j)(f0:Fr)(m:f0.full=false)(no:Nat):
 (cv.mk C.c C.ba (C.ay.set i f0) hd a8).view no=C.view no:=by
 by_cases hex:∃ (k:Nat) (g:k<C.ay.length),(C.ay[k]).full=true/\(C.ay[k]).no=no
 .obtain⟨k,g,h1,h2⟩:=hex
  have o:=pz (fs:=C.ay) (D:=C.D) (c:=C.c) (ba:=C.ba) (hd:=C.hand) h.un g h1 h2;have o:C.view no=(C.ay[k]).l:=o;rw[o];by_cases e:i=k
  .subst e
   rw[←hl h1 no h2];refine qX λf hf aS bf=>?_;obtain⟨a,n,rfl⟩:=fQ hf;have p:a<C.ay.length:=by simpa using n
   by_cases d:i=a
   .subst d
    simp only[jh]at aS;rw[m]at aS;cases aS
   .simp only[fG d]at aS bf
    exact d (h.un i a hi p h1 aS (by rw[h2,bf]))
  .have v:k<(C.ay.set i f0).length:=by simpa using g
   have q:(C.ay.set i f0)[k]=C.ay[k]:=fG e _;have x:∀ (a b:Nat) (n:a<(C.ay.set i f0).length) (hb:b<(C.ay.set i f0).length),((C.ay.set i f0)[a]).full=true->((C.ay.set i f0)[b]).full=true->((C.ay.set i f0)[a]).no=((C.ay.set i f0)[b]).no->a=b:=by
    intro a b n hb h1 h2 r;have p:a<C.ay.length:=by simpa using n
    have y:b<C.ay.length:=by simpa using hb
    by_cases d:i=a
    .subst d
     simp only[jh]at h1;rw[m]at h1;cases h1
    by_cases t:i=b
    .subst t
     simp only[jh]at h2;rw[m]at h2;cases h2
    simp only[fG d]at h1 r;simp only[fG t]at h2 r;exact h.un a b p y h1 h2 r
   rw[pz x v (by rw[q];exact h1) (by rw[q];exact h2),q]
 .have s:∀f∈C.ay,f.full=true->f.no≠no:=λf hf h1 h2=>by
   obtain⟨k,g,rfl⟩:=fQ hf;exact hex ⟨k,g,h1,h2⟩
  have e:C.view no=C.D.now no:=qX (fs:=C.ay) (D:=C.D) (c:=C.c) (ba:=C.ba) (hd:=C.hand) s;rw[e,←u no λh1 h2=>s _ (dD hi) h1 h2];refine qX λf hf h1 h2=>?_;rcases pY hf with hf|rfl
  .exact s f hf h1 h2
  .rw[m]at h1;cases h1
theorem GC{X:Nat->Prop}{w:I}{C:cv}(h:hM X w C){no:Nat}{s:ai}{l:dw}(b:¬C.D.cc no=true):lT (C.D.put no s l) C.D:=
 ⟨rfl,λ_ h=>h,λj a=>by
  have a:C.D.cc j=true:=a
  rw[Gc,if_neg λe=>b (by rw[←e];exact a)];exact h.qU j a⟩
theorem GD(D:bz){no:Nat}{s:ai}{l:dw}(b:¬D.cc no=true):(D.put no s l).key=D.key:=by
 have h1:=vm D (k:=2) (.inr rfl);unfold bz.key at h1⊢;have h2:(D.put no s l).k7=D.k7:=by
  funext n;exact propext ⟨λ_ h=>absurd (h no) b,λ_ h=>absurd (h no) b⟩
 rw[h2];have a:=congrArg Prod.snd h1;show((D.bX,D.cc,D.ek,D.k7,D.r1),(D.c9 2).cg.getD 3 0)=_;have a:(D.c9 2).cg.getD 3 0=D.cg.getD 3 0:=a;rw[a]
def GF(X:Nat->Prop)(C:cv)(w:I)(v:O)(w':I):Prop:=
 ∃b9:cv,ep X w' b9/\e4 C b9 w w' 1/\b9.ba=C.ba/\(∀j,b9.view j=C.view j)/\(∀f∈b9.ay,f.full=true->∃g∈C.ay,g.full=true/\g.no=f.no)/\
  ((∃ (i:Nat) (hi:i<b9.ay.length),v=.tuple #[.pointer (some ⟨C.ba,i*6,none⟩),(0:Int)]/\(b9.ay[i]).full=false/\((b9.ay[i]).pins=0))\/
   (v=.tuple #[.pointer none,(3:Int)]/\¬C.D.calm 1))
theorem Nm(h:ep X w C)(ak:C.D.bV<=1000000000):aA ae 291 #[.pointer (some C.c)] w (GF X C w):=by
 have S:=h.raw;refine okF (Z.yY (some C.c)) ao.yY func291 ?_;(delta Z.yY gH ad pt bq aY a_ bG b7;dsimp only);refine(Nk S).use ?_;rintro _ _ ⟨he,rfl⟩;rcases he with ⟨i,hi,rfl,hf⟩|⟨rfl,cW⟩
 .exact⟨_,rfl,λ_=>⟨C,h,(e4.refl C w).mono (dC _),rfl,λ_=>rfl,λf hf H=>⟨f,hf,H,rfl⟩,.inl ⟨i,hi,rfl,hf,h.inv.pins _ (dD hi)⟩⟩,λh=>(by cases h)⟩
 refine⟨_,rfl,λh=>(by cases h),λ_=>(Nl S h.inv.pins).use ?_⟩;rintro _ w1 ⟨i,gs,hd,hi,rfl,z,r,al⟩;have T:i<gs.length:=by rw[z.1];exact hi
 have L:af (dx C) w w1:=al.mono λq _ n=>by
  rcases n with n|n
  .exact .inl n
  .exact .inr (.inl n)
 have E:=Ct (hd:=hd) (a8:=C.D) h.inv z L (λq _ h=>h) h.inv.z8 (λ_=>rfl) λq n=>.inl n;have O:=Cu (hd:=hd) (a8:=C.D) h.inv z λ_=>rfl;obtain⟨a,F⟩:∃a:cv,a={C with ay:=gs,hand:=hd}:=⟨_,rfl⟩;have E:hM X w1 a:=by rw[F];exact E
 have r:fV w1 a:=by rw[F];exact r
 have O:∀no,a.view no=C.view no:=by rw[F];exact O
 have U:∀q,dx a q↔dx C q:=by rw[F];exact λq=>Iff.rfl
 have o:a.D=C.D:=by rw[F]
 have p:a.c=C.c/\a.ba=C.ba:=by rw[F];exact⟨rfl,rfl⟩
 have J:a.ay=gs:=by rw[F]
 have A:i<a.ay.length:=by rw[J];exact T
 have Q:(a.ay[i]).full=true:=by
  have e:=z.2 i hi T;have:(gs[i]).full=(C.ay[i]).full:=by rw[e]
  simp only[J];rw[this];exact cW _ (dD hi)
 have W:∀f∈a.ay,f.full=true->∃g∈C.ay,g.full=true/\g.no=f.no:=by
  rw[J];intro f hf H;obtain⟨k,Y,rfl⟩:=fQ hf;have aa:k<C.ay.length:=by rw[←z.1];exact Y
  have e:=z.2 k aa Y;have aT:(gs[k]).full=(C.ay[k]).full:=by rw[e]
  have a6:(gs[k]).no=(C.ay[k]).no:=by rw[e]
  exact⟨C.ay[k],dD aa,by rw[←aT];exact H,a6.symm⟩
 obtain⟨no,aS,bf,ab,am,an,ap⟩:=E.ok _ (dD A) Q;have f1:=lU r.f A (j:=1) (by decide)
 have fin:∀ (ag:I) (a8:bz),af (dx C) w1 ag->fV ag {a with D:=a8}->e4 C {a with D:=a8} w ag 1->lT a8 C.D->(∀j:Nat,(a.ay[i]).no≠j->a8.now j=C.D.now j)->(∀j:Nat,(a.ay[i]).no=j->a8.now j=(a.ay[i]).l)->(∀q,cm a8 q->cm C.D q\/w1.heap.size<=q)->
  ∃fl:av,(some ⟨C.ba,i*6,none⟩:aw av)=some fl/\bE ag fl [false,false,false,(0:Int),(0:Int),()]/\(6:Nat)=6/\aq (setCells ag fl 0 [false,false,false,(0:Int),(0:Int),()]) λbk=>GF X C w (.tuple #[.pointer (some ⟨C.ba,i*6,none⟩),(0:Int)]) bk:=by
  intro ag a8 ar t B au ac aB K;have aC:a7 ag a.ba (aI Fr.c a.ay).toArray 458:=t.f;obtain⟨s1,s2,M⟩:=GA aC A dL;rw[p.2]at s1 s2 M;have aD:hM X (setCells ag ⟨C.ba,i*6,none⟩ 0 dL.c) {a with ay:=a.ay.set i dL,D:=a8}:=by
   refine Cv (V:=dx C) (w:=w1) A E (ar.trans (M.mono λq _ e=>.inr (.inl e))) (λq _ n=>(U q).2 n) (by rw[o];exact au) (λj u=>by rw[o];exact ac j λe=>u Q e) (λq n=>by rw[o];exact K q n) dL rfl rfl
  have aE:=t.v;refine⟨_,rfl,s1,rfl,aL ⟨{a with ay:=a.ay.set i dL,D:=a8},⟨?_,aD⟩,?_,p.2,λj=>?_,λf hf H=>?_,.inl ⟨i,by show i<(a.ay.set i dL).length;rw[dU];exact A,rfl,by simp[dL],by simp[dL]⟩⟩⟩
  .have aF:a.c≠C.ba:=by have:=t.a1.1;rw[←p.2];exact this
   refine⟨?_,by show a7 _ a.ba _ _;rw[p.2];exact s2,t.dev.ax M (λq n e=>t.a1.2.2 (by rw[show({a with D:=a8}:cv).ba=a.ba from rfl,p.2,←e];exact n)),?_,?_,?_,t.a1⟩
   .have:=aE.ax M aF
    show Var _ _ [_,.slice _ (a.ay.set i dL).length (a.ay.set i dL).length,_] _;rw[dU];exact this
   .show 8<=(a.ay.set i dL).length;rw[dU];exact t.bU
   .show(a.ay.set i dL).length<=64;rw[dU];exact t.b1
   .show a.hand<(a.ay.set i dL).length;rw[dU];exact t.hd
  .refine⟨B.c,B.d,by show(a.ay.set i dL).length=_;rw[dU];exact B.len,B.bX,B.bV,B.calm,B.ax.trans (M.mono λq _ e=>.inr (.inl e)),B.dS⟩
  .rw[←O]
   exact GB A E (λ_ j u=>aB j u) (λj u=>by rw[o];exact ac j λe=>u Q e) dL rfl j
  .rcases pY hf with hf|rfl
   .exact W f hf H
   .cases H
 refine⟨_,rfl,λh=>(by cases h),λ_=>lF (λag=>∃a8:bz,af (dx C) w1 ag/\fV ag {a with D:=a8}/\e4 C {a with D:=a8} w ag 1/\lT a8 C.D/\(∀j:Nat,(a.ay[i]).no≠j->a8.now j=C.D.now j)/\(∀j:Nat,(a.ay[i]).no=j->a8.now j=(a.ay[i]).l)/\(∀q,cm a8 q->cm C.D q\/w1.heap.size<=q)) (λq n=>⟨_,rfl,(a.ay[i]).gJ,?_,λaG=>?_,λaH=>n _ ⟨C.D,.refl _ _,?_,?_,h.inv.z8,λ_ _=>rfl,λj u=>?_,λq h=>.inl h⟩⟩) ?_⟩
 .rw[az,←p.2];exact f1
 .
  have P:=bH w1;have y:=r.ext P;obtain⟨ah,_,_⟩:=y.cells;rw[p.1,o]at ah;have f3:=lU y.f A (j:=3) (by decide);have f5:=lU y.f A (j:=5) (by decide);rw[p.2]at f3 f5;refine aL ⟨_,rfl,id,_,ah,_,rfl,id,(no:Int),?_,_,rfl,id,(a.ay[i]).b,by rw[az];exact f5,?_⟩
  .rw[az,f3]
   show some (Value.int .i64 (a.ay[i]).no)=_;rw[aS]
  have aJ:dj w1.drew C.D:=by rw[←o];exact y.dev
  have ai:¬C.D.cc no=true:=λaK=>by
   have:=ap (by rw[o];exact aK);rw[aG]at this;cases this
  refine(z1 aJ (i:=no) (by rw[←o];exact bf) ak (ab.1.ext P) am λq n hf=>(ab.2.2 q n).1.1 (.inr (.inr (by rw[o];exact hf)))).use ?_;rintro v2 ag aM;rcases aM with ⟨hb,rfl,R,G⟩|⟨hb,rfl,s,R,G,aN⟩
  .have N:af (dx C) w1 ag:=(af.bt P).trans (G.mono λq _ e=>.inr (.inr (.inl e)))
   refine⟨3,rfl,λ_=>⟨{a with D:=C.D.c9 2},⟨?_,?_⟩,?_,p.2,λj=>?_,W,.inr ⟨rfl,λaO=>?_⟩⟩,λh=>(by cases h)⟩
   .have t:=y.v.ax G (λe=>y.a1.2.1 (.inl (by rw[o];exact e)))
    rw[o]at t;have aj:=r.a1;rw[o]at aj;exact⟨t,a7.ax y.f G (λe=>y.a1.2.2 (.inl (by rw[o];exact e))),R,r.bU,r.b1,r.hd,aj⟩
   .have:=Ct (C:=a) (hd:=a.hand) (a8:=C.D.c9 2) E (kd.refl _) N (λq _ n=>(U q).2 n) (by rw[o];exact h.inv.c9 2) (λj=>by rw[o];rfl) λq n=>.inl (by rw[o];exact n)
    exact this
   .refine⟨p.1,rfl,by show a.ay.length=_;rw[J];exact z.1,vm C.D (.inr rfl),Nat.le_succ _,λm hm=>(lR (.inr rfl) h.raw.dev.f4 hm).1,L.trans N,λq n=>.inl ?_⟩
    rcases n with e|e|e
    .exact .inl (by rw[←p.1];exact e)
    .exact .inr (.inl (by rw[←p.2];exact e))
    .exact .inr (.inr e)
   .rw[←O]
    exact Cu (C:=a) E (kd.refl _) (λj=>by rw[o];rfl) j
   .have:=(lR (k:=2) (m:=0) (.inr rfl) h.raw.dev.f4 aO).2
    rw[hb]at this;cases this
  .have N:af (dx C) w1 ag:=(af.bt P).trans (G.mono λq _ e=>.inr (.inr e))
   have K:∀q,cm (C.D.put no s (a.ay[i]).l) q->cm C.D q\/w1.heap.size<=q:=by
    rintro q (e|e|e|⟨x,hx,e⟩)
    .exact .inl (.inl e)
    .exact .inl (.inr (.inl e))
    .exact .inl (.inr (.inr (.inl e)))
    .rcases c4.1 hx with rfl|hx
     .exact aN q e
     .exact .inl (.inr (.inr (.inr ⟨x,(ia.1 hx).1,e⟩)))
   have ie:∀q,cm C.D q->q≠a.c/\q≠a.ba:=λq n=>⟨λe=>r.a1.2.1 (by rw[o,←e];exact n),λe=>r.a1.2.2 (by rw[o,←e];exact n)⟩;refine⟨0,rfl,λh=>(by cases h),λ_=>n _ ⟨C.D.put no s (a.ay[i]).l,N,?_,?_,GC h.inv ai,λj u=>?_,λj u=>?_,K⟩⟩
   .have t:=y.v.ax G (λe=>(ie _ e).1 rfl)
    rw[o]at t;have aP:a.c<w1.heap.size:=r.v.lt;have aQ:a.ba<w1.heap.size:=a7.lt r.f;refine⟨t,a7.ax y.f G (λe=>(ie _ e).2 rfl),R,r.bU,r.b1,r.hd,r.a1.1,λe=>?_,λe=>?_⟩
    .rcases K _ e with h1|h1
     .exact(ie _ h1).1 rfl
     .have:a.c<w1.heap.size:=aP
      have h1:w1.heap.size<=a.c:=h1;omega
    .rcases K _ e with h1|h1
     .exact(ie _ h1).2 rfl
     .have h1:w1.heap.size<=a.ba:=h1
      omega
   .refine⟨p.1,rfl,by show a.ay.length=_;rw[J];exact z.1,GD C.D ai,bu _,λm hm=>(lR (.inr rfl) h.raw.dev.f4 hm).1,L.trans N,λq n=>?_⟩
    rcases n with e|e|e
    .exact .inl (.inl (by rw[←p.1];exact e))
    .exact .inl (.inr (.inl (by rw[←p.2];exact e)))
    .rcases K q e with h1|h1
     .exact .inl (.inr (.inr h1))
     .exact .inr (cB L.size h1)
   .rw[qQ,if_neg (λe=>u (by rw[aS,e]))]
   .rw[qQ,if_pos (by rw[aS]at u;omega)]
 .rw[←o];exact r
 .refine⟨p.1,rfl,by show a.ay.length=_;rw[J];exact z.1,rfl,Nat.le_succ _,λm hm=>m_ hm (Nat.le_succ _),L,λq n=>.inl ?_⟩
  rcases n with e|e|e
  .exact .inl (by rw[←p.1];exact e)
  .exact .inr (.inl (by rw[←p.2];exact e))
  .exact .inr (.inr e)
 .have:no=j:=by rw[aS]at u;omega
  subst this;rw[←o];exact(an aH).symm
 .rintro ag ⟨a8,a1,a2,a3,a4,a5,c0,eV⟩
  exact fin ag a8 a1 a2 a3 a4 a5 c0 eV
end
def vq(fs:Y Fr):Prop:=∀ (i j:Nat) (hi:i<fs.length) (a:j<fs.length),(fs[i]).full=true->(fs[j]).full=true->(fs[i]).no=(fs[j]).no->i=j
theorem GG{fs gs:Y Fr}{D a8:bz}{c ba hd c' d e j:Nat}(g:vq fs)(h:vq gs)(h1:∀ (i:Nat) (hi:i<fs.length),(fs[i]).full=true->(fs[i]).no=j->∃ (k:Nat) (a:k<gs.length),(gs[k]).full=true/\(gs[k]).no=j/\(gs[k]).l=(fs[i]).l)
 (h2:(∀f∈fs,f.full=true->f.no≠j)->(∀f∈gs,f.full=true->f.no≠j)/\a8.now j=D.now j):(cv.mk c' d gs e a8).view j=(cv.mk c ba fs hd D).view j:=by
 by_cases hex:∃ (k:Nat) (a:k<fs.length),(fs[k]).full=true/\(fs[k]).no=j
 .obtain⟨k,a,aS,bf⟩:=hex
  obtain⟨m,hm,aT,a6,n⟩:=h1 k a aS bf;rw[pz g a aS bf,pz h hm aT a6,n]
 .have b:∀f∈fs,f.full=true->f.no≠j:=λf hf h1 h2=>by
   obtain⟨k,a,rfl⟩:=fQ hf;exact hex ⟨k,a,h1,h2⟩
  obtain⟨aT,a6⟩:=h2 b;rw[qX b,qX aT,a6]
section
variable {w w':I}{C:cv}{X:Nat->Prop}
theorem GH{i:Nat}(hi:i<C.ay.length){no:Nat}{V:Nat->Prop}(h:hM X w C)(hc:af V w w')(fo:∀q,q<w.heap.size->V q->dx C q){a8:bz}(o:lT a8 C.D)(y:∀j,a8.now j=C.D.now j)(z:∀q,cm a8 q↔cm C.D q)
 (f':Fr) (N:f'.full=true) (A:f'.pins=0) (p:Gz X w' {C with ay:=C.ay.set i f',D:=a8} f' no) (r:∀ (k:Nat) (s:k<C.ay.length),k≠i->(C.ay[k]).full=true->(C.ay[k]).no≠no):hM X w' {C with ay:=C.ay.set i f',D:=a8}:=by
 have B:=hc.size;have t:∀q,dx {C with ay:=C.ay.set i f',D:=a8} q->dx C q:=λq hf=>by
  rcases hf with h1|h1|h1
  .exact .inl h1
  .exact .inr (.inl h1)
  .exact .inr (.inr ((z q).1 h1))
 refine⟨λf hf=>?_,λf hf u=>?_,λa b E hb h1 h2 c=>?_,λq g=>⟨fu (h.gv q g).1 B,λhf=>(h.gv q g).2 (t q hf)⟩,o.2.2⟩
 .rcases pY hf with hf|rfl
  .exact h.pins f hf
  .exact A
 .obtain⟨k,s,rfl⟩:=fQ hf
  have F:k<C.ay.length:=by simpa using s
  by_cases e:i=k
  .subst e
   simp only[jh];exact⟨no,p⟩
  .simp only[fG e]at u⊢
   obtain⟨m,aS,bf,G,H,I,J,K⟩:=h.ok _ (dD F) u;exact⟨m,aS,by show m<a8.n;rw[o.1];exact bf,c5.re G hc (λq g hb L=>hb.1 (fo q g L)) λq _ hb=>⟨λhf=>hb.1 (t q hf),hb.2⟩,H,λhd=>by show _=a8.now m;rw[y];exact I hd,λM=>J (o.2.1 _ M),K⟩
 .have v:a<C.ay.length:=by simpa using E
  have x:b<C.ay.length:=by simpa using hb
  by_cases l:i=a
  .by_cases d:i=b
   .omega
   .subst l
    simp only[jh]at c;simp only[fG d]at h2 c;exact absurd (by rw[←c];exact p.num) (r b x (λe=>d e.symm) h2)
  .by_cases d:i=b
   .subst d
    simp only[jh]at c;simp only[fG l]at h1 c;exact absurd (by rw[c];exact p.num) (r a v (λe=>l e.symm) h1)
   .simp only[fG l]at h1 c
    simp only[fG d]at h2 c;exact h.un a b v x h1 h2 c
theorem Nn{i:Nat}(hi:i<C.ay.length){no:Nat}(h:vq C.ay)(f':Fr)(g:f'.no=no)(j:∀ (k:Nat) (o:k<C.ay.length),k≠i->(C.ay[k]).full=true->(C.ay[k]).no≠no):vq (C.ay.set i f'):=by
 intro a b n hb h1 h2 c;have l:a<C.ay.length:=by simpa using n
 have m:b<C.ay.length:=by simpa using hb
 by_cases f:i=a
 .by_cases d:i=b
  .omega
  .subst f
   simp only[jh]at c;simp only[fG d]at h2 c;exact absurd (by rw[←c];exact g) (j b m (λe=>d e.symm) h2)
 .by_cases d:i=b
  .subst d
   simp only[jh]at c;simp only[fG f]at h1 c;exact absurd (by rw[c];exact g) (j a l (λe=>f e.symm) h1)
  .simp only[fG f]at h1 c
   simp only[fG d]at h2 c;exact h a b l m h1 h2 c
theorem GI{i:Nat}(hi:i<C.ay.length){no:Nat}(h:vq C.ay){a8:bz}(g:∀j,a8.now j=C.D.now j)(f':Fr)(m:f'.full=true)(a:f'.no=no)(hold:(C.ay[i]).full=true->(C.ay[i]).no=no)(n:∀ (k:Nat) (d:k<C.ay.length),k≠i->(C.ay[k]).full=true->(C.ay[k]).no≠no){hd:Nat}(j:Nat):
 (cv.mk C.c C.ba (C.ay.set i f') hd a8).view j=if j=no then f'.l else C.view j:=by
 have hu:=Nn hi h f' a n;have o:i<(C.ay.set i f').length:=by simpa using hi
 by_cases e:j=no
 .subst e
  rw[if_pos rfl,pz hu o (by simp[m]) (by simpa using a)];simp
 .rw[if_neg e]
  refine GG (fs:=C.ay) (D:=C.D) (c:=C.c) (ba:=C.ba) (hd:=C.hand) h hu (λk d aS bf=>?_) λcW=>⟨λf hf aS bf=>?_,g j⟩
  .have b:i≠k:=λa6=>by
    subst a6;have:=hold aS;rw[bf]at this;exact e J
   have p:k<(C.ay.set i f').length:=by simpa using d
   exact⟨k,p,by simp only[fG b];exact aS,by simp only[fG b];exact bf,by simp only[fG b]⟩
  .rcases pY hf with hf|rfl
   .exact cW f hf aS bf
   .rw[a]at bf
    exact e J
end
section
variable {w w':I}{C:cv}{X:Nat->Prop}
def GJ(X:Nat->Prop)(C:cv)(no:Nat)(l:dw)(w:I)(v:O)(w':I):Prop:=
 ∃b9:cv,ep X w' b9/\e4 C b9 w w' 1/\
  ((v=.int .i64 0/\∀j,b9.view j=if j=no then l else C.view j)\/(v=.int .i64 3/\¬C.D.calm 1/\∀j,b9.view j=C.view j))
theorem Cw{i:Nat}{f':Fr}(h:fV w C)(hc:af (λq=>q=C.ba) w w')(hb:a7 w' C.ba (aI Fr.c (C.ay.set i f')).toArray 458):fV w' {C with ay:=C.ay.set i f'}:=by
 refine⟨?_,hb,h.dev.ax hc (λq a e=>h.a1.2.2 (e▸a)),?_,?_,?_,h.a1⟩
 .have:=h.v.ax hc h.a1.1
  show Var _ _ [_,.slice _ (C.ay.set i _).length (C.ay.set i _).length,_] _;rw[dU];exact this
 .show 8<=(C.ay.set i _).length;rw[dU];exact h.bU
 .show(C.ay.set i _).length<=64;rw[dU];exact h.b1
 .show C.hand<(C.ay.set i _).length;rw[dU];exact h.hd
theorem set_set{fs:Y Fr}{i:Nat}(f g:Fr):(fs.set i f).set i g=fs.set i g:=List.set_set ..
theorem GK(h:ep X w C)(bn:C.D.bV<=999999999){no:Nat}(am:no<C.D.n)(an:2<=no)(ap:¬C.D.cc no=true){b:ai}{l:dw}(hb:Src 1 w b (au l))(hl:l.length=256)(aa:∀q,aN b q->q<w.heap.size/\¬dx C q):
 aA ae 231 #[.pointer (some C.c),no,b] w (GJ X C no l w):=by
 have N:=h.raw;have ar:=len8 hb;refine okF (Z.yD (some C.c) (no:Int) b) ao.yD func231 ?_;(delta Z.yD br ad gH gf pt st bl;dsimp only);refine(Nj N _).use ?_;rintro _ _ ⟨rfl,rfl⟩;have aB:decide (0<=(no:Int)/\(no:Int)<C.D.n)=true:=fF ⟨J,J⟩;refine⟨_,rfl,λh1=>?_,λ_=>(Cs N _).use ?_⟩
 .rw[aB,ar,hl]at h1
  simp at h1
 rintro _ _ ⟨aC,rfl⟩
 have fin:∀ (w1:I) (a:cv) (i:Nat) (hi:i<a.ay.length) (f1:Fr),ep X w1 a->e4 C a w w1 1->a.ba=C.ba->(∀j,a.view j=C.view j)->f1.pins=0->∀ag:I,a7 ag a.ba (aI Fr.c (a.ay.set i f1)).toArray 458->af (λq=>q=a.ba) w1 ag->f1.full=true->f1.no=(no:Int)->
  ((a.ay[i]).full=true->(a.ay[i]).no=(no:Int))->(∀ (k:Nat) (A:k<a.ay.length),k≠i->(a.ay[k]).full=true->(a.ay[k]).no≠(no:Int))->
  Calls ae 30 #[b] ag λaD bd=>∃ab:ai,aD=.returned ab/\∃fl:av,(some ⟨C.ba,i*6,none⟩:aw av)=some fl/\(∃u:O,bd.cell? (fl.add 5)=some u)/\bd.frozen? (fl.add 5)=false/\
   aq (bd.setCell (fl.add 5) ab) λbk=>∃a23:av,(some ⟨C.ba,i*6,none⟩:aw av)=some a23/\(∃u:O,bk.cell? (a23.add 1)=some u)/\bk.frozen? (a23.add 1)=false/\
   aq (bk.setCell (a23.add 1) true) λP=>∃a25:av,(some ⟨C.ba,i*6,none⟩:aw av)=some a25/\(∃u:O,P.cell? (a25.add 2)=some u)/\P.frozen? (a25.add 2)=false/\
   aq (P.setCell (a25.add 2) true) λaE=>GJ X C no l w (0:Int) aE:=by
  intro w1 a i hi f1 x o t aF Q ag aG H K ac hold ah;have bo:=o.ax.size;have bp:=H.size;have bq:a.ba<w1.heap.size:=x.raw.lt (.inr (.inl rfl));have aH:Src 1 ag b (au l):=by
   refine(hb.ax o.ax λq m hf=>(aa q m).2 hf).ax H λq m e=>(aa q m).2 (.inr (.inl (by rw[←t];exact e)))
  refine(sP (B:=λq=>ag.heap.size<=q) aH J (λq m=>m)).use ?_;rintro _ aJ ⟨s,rfl,R,aj,_⟩;have aK:=a7.ext aG aj;have S:i<(a.ay.set i f1).length:=by rw[dU];exact hi
  have T:(a.ay.set i f1)[i]=f1:=by simp
  obtain⟨a1,a2,a3,a4⟩:=qV aK S (j:=5) (by decide) (v:=s) {f1 with b:=s} (by rw[T];rfl);rw[set_set]at a3;have aM:i<(a.ay.set i {f1 with b:=s}).length:=by rw[dU];exact hi
  have aT:(a.ay.set i {f1 with b:=s})[i]={f1 with b:=s}:=by simp
  obtain⟨E,F,y,z⟩:=qV a3 aM (j:=1) (by decide) (v:=true) {f1 with b:=s,gJ:=true} (by rw[aT];rfl);rw[set_set]at y;have aO:i<(a.ay.set i {f1 with b:=s,gJ:=true}).length:=by rw[dU];exact hi
  have a6:(a.ay.set i {f1 with b:=s,gJ:=true})[i]={f1 with b:=s,gJ:=true}:=by simp
  obtain⟨d1,d2,d3,d4⟩:=qV y aO (j:=2) (by decide) (v:=true) {f1 with b:=s,gJ:=true,used:=true,l:=l} (by rw[a6];rfl);rw[set_set]at d3;rw[t]at a1 a2 a3 a4 E F y z d1 d2 d3 d4 H;refine⟨s,rfl,_,rfl,by rw[az];exact a1,by rw[az];exact a2,?_⟩;rw[az];refine aL ⟨_,rfl,by rw[az];exact E,by rw[az];exact F,?_⟩;rw[az];refine aL ⟨_,rfl,by rw[az];exact d1,by rw[az];exact d2,?_⟩;rw[az];have L:=(H.trans (af.bt aj)).trans (a4.trans (z.trans d4));obtain⟨f',r⟩:∃f':Fr,f'={f1 with b:=s,gJ:=true,used:=true,l:=l}:=⟨_,rfl⟩;obtain⟨G,U⟩:∃G,G=(((aJ.setCell ⟨C.ba,i*6+5,none⟩ s).setCell ⟨C.ba,i*6+1,none⟩ true).setCell ⟨C.ba,i*6+2,none⟩ true):=⟨_,rfl⟩;rw[←U,←r]at d3;rw[←U]at L⊢;have aP:c5 (λq=>ag.heap.size<=q) G s l:=by
   have h1:=c5.ax R a4 λq m e=>by rw[←t]at e;omega
   have h2:=c5.ax h1 z λq m e=>by rw[←t]at e;omega
   have aQ:=c5.ax h2 d4 λq m e=>by rw[←t]at e;omega
   rw[U];exact aQ
  have aR:fV G {a with ay:=a.ay.set i f'}:=Cw x.raw (by rw[t];exact L) (by rw[t];exact d3);have aU:hM X G {a with ay:=a.ay.set i f'}:=by
   refine GH (w:=w1) (V:=λq=>q=C.ba) (a8:=a.D) hi (no:=no) x.inv L (λq _ e=>.inr (.inl (by rw[t];exact e))) x.inv.z8 (λ_=>rfl) (λq=>Iff.rfl) f' (by rw[r];exact K) (by rw[r];exact Q) ⟨by rw[r];exact ac,by show no<a.D.n;rw[o.n];exact am,?_,by rw[r];exact hl,λhd=>(by rw[r]at hd;cases hd),λR=>absurd (by rw[←o.cc];exact R) ap,an⟩ ah;rw[r];refine c5.da aP λq _ m=>⟨λhf=>?_,λaV=>?_⟩
   .have:dx a q:=hf
    have:=x.raw.lt this;omega
   .have:=(x.inv.gv q aV).1;omega
  refine aL ⟨{a with ay:=a.ay.set i f'},⟨aR,aU⟩,⟨o.c,o.d,by show(a.ay.set i _).length=_;rw[dU];exact o.len,o.bX,o.bV,o.calm,de o.ax L λq m e=>.inr (.inl e),o.dS⟩,.inl ⟨rfl,λj=>?_⟩⟩;have:=GI (C:=a) (hd:=a.hand) (a8:=a.D) hi (no:=no) x.inv.un (λ_=>rfl) f' (by rw[r];exact K) (by rw[r];exact ac) hold ah j;rw[show({a with ay:=a.ay.set i f'}:cv)=cv.mk a.c a.ba (a.ay.set i f') a.hand a.D from rfl,this,aF];rw[r]
 rcases aC with ⟨i,hi,rfl,hf,W⟩|⟨rfl,aW⟩
 .refine⟨_,rfl,bL (λp w'=>p=some ⟨C.ba,i*6,none⟩/\w=w') (λq m=>⟨λh=>(by cases h),λ_=>m _ _ ⟨rfl,rfl⟩⟩) ?_⟩
  rintro _ _ ⟨rfl,rfl⟩;have e:C.ay.set i C.ay[i]=C.ay:=List.set_getElem_self _;exact fin w C i hi C.ay[i] h ((e4.refl C w).mono (dC _)) rfl (λ_=>rfl) (h.inv.pins _ (dD hi)) w (by rw[e];exact N.f) (.refl _ _) hf W (λ_=>W) λk A aX h1 h2=>aX (h.inv.un k i A hi h1 hf (by rw[h2,W]))
 .refine⟨_,rfl,bL (λp ag=>∃ (w1:I) (a:cv) (i:Nat) (hi:i<a.ay.length) (f1:Fr),p=some ⟨C.ba,i*6,none⟩/\ep X w1 a/\e4 C a w w1 1/\a.ba=C.ba/\(∀j,a.view j=C.view j)/\f1.pins=0/\a7 ag a.ba (aI Fr.c (a.ay.set i f1)).toArray 458/\af (λq=>q=a.ba) w1 ag/\f1.full=true/\f1.no=(no:Int)/\
   ((a.ay[i]).full=true->(a.ay[i]).no=(no:Int))/\(∀ (k:Nat) (A:k<a.ay.length),k≠i->(a.ay[k]).full=true->(a.ay[k]).no≠(no:Int))) (λq m=>⟨λ_=>(Nm h J).use ?_,λh=>(by cases h)⟩) ?_⟩
  .rintro _ w1 ⟨a,Y,ak,M,al,aY,aZ⟩
   have a0:∀f∈a.ay,f.full=true->f.no≠(no:Int):=λf hf K kr=>by
    obtain⟨g,hg,h1,h2⟩:=aY f hf K;exact aW g hg h1 (by rw[h2,kr])
   rcases aZ with ⟨i,hi,rfl,a5,Q⟩|⟨rfl,a9⟩
   .obtain⟨a1,a2,a3,a4⟩:=qV Y.raw.f hi (j:=0) (by decide) (v:=true) {a.ay[i] with full:=true} rfl
    have S:i<(a.ay.set i {a.ay[i] with full:=true}).length:=by rw[dU];exact hi
    have T:(a.ay.set i {a.ay[i] with full:=true})[i]={a.ay[i] with full:=true}:=by simp
    obtain⟨E,F,y,z⟩:=qV a3 S (j:=3) (by decide) (v:=no) {a.ay[i] with full:=true,no:=(no:Int)} (by rw[T];rfl);rw[set_set]at y;rw[M]at a1 a2 E F y a4 z;refine⟨_,_,rfl,λh=>(by simp at h),λ_=>⟨_,rfl,a1,a2,aL ⟨_,rfl,by rw[az];exact E,by rw[az];exact F,aL ?_⟩⟩⟩;rw[az];exact m _ _ ⟨w1,a,i,hi,{a.ay[i] with full:=true,no:=(no:Int)},rfl,Y,ak,M,al,Q,by rw[M];exact y,by rw[M];exact a4.trans z,rfl,rfl,λh1=>(by rw[a5]at h1;cases h1),λk A _ h1=>a0 _ (dD A) h1⟩
   .exact⟨_,_,rfl,λ_=>⟨a,Y,ak,.inr ⟨rfl,a9,al⟩⟩,λh=>(by simp at h)⟩
  .rintro p ag ⟨w1,a,i,hi,f1,rfl,aS,bf,a_,bb,bc,be,bg,bh,bi,bj,bm⟩
   exact fin w1 a i hi f1 aS bf a_ bb bc ag be bg bh bi bj bm
theorem No(h:ep X w C)(no:Nat):aA ae 285 #[.pointer (some C.c),no] w (λv w'=>(∃b:ah,v=b)/\∃b9:cv,ep X w' b9/\e4 C b9 w w' 0/\(∀j,j≠no->b9.view j=C.view j)/\b9.D=C.D/\∀f∈b9.ay,f.full=true->f∈C.ay/\f.no≠(no:Int)):=by
 have d:=h.raw;refine okF (Z.yT (some C.c) (no:Int)) ao.yT func285 ?_;(delta Z.yT gH ad pt aY b7;dsimp only);refine(Cs d _).use ?_;rintro _ _ ⟨u,rfl⟩;rcases u with ⟨i,hi,rfl,hf,p⟩|⟨rfl,x⟩
 .have f4:=lU d.f hi (j:=4) (by decide)
  have y:=h.inv.pins _ (dD hi);refine⟨_,rfl,bL (λb w'=>b=false/\w=w') (λq g=>⟨λh=>(by cases h),λ_=>⟨_,rfl,(C.ay[i]).pins,by rw[az];exact f4,g _ _ ⟨by rw[y];rfl,rfl⟩⟩⟩) ?_⟩;rintro _ _ ⟨rfl,rfl⟩;obtain⟨s1,s2,l⟩:=GA d.f hi dL;refine⟨λh=>(by cases h),λ_=>⟨_,rfl,s1,rfl,aL ⟨⟨true,rfl⟩,{C with ay:=C.ay.set i dL},⟨Cw d l s2,?_⟩,?_,λj z=>?_,rfl,λf hm aS=>?_⟩⟩⟩
  .exact Cv (V:=λq=>q=C.ba) (a8:=C.D) hi h.inv l (λq _ e=>.inr (.inl e)) h.inv.z8 (λ_ _=>rfl) (λq h=>.inl h) dL rfl rfl
  .exact⟨rfl,rfl,by show(C.ay.set i _).length=_;rw[dU],rfl,bu _,λ_ h=>h,l.mono λq _ e=>.inr (.inl e),λq h=>.inl h⟩
  .refine GG (fs:=C.ay) (D:=C.D) (c:=C.c) (ba:=C.ba) (hd:=C.hand) h.inv.un (λa b A hb h1 h2 m=>?_) (λk n aS bf=>?_) λcW=>⟨λf hf aS bf=>?_,rfl⟩
   .have B:a<C.ay.length:=by simpa using A
    have E:b<C.ay.length:=by simpa using hb
    by_cases r:i=a
    .subst r
     simp[dL]at h1
    by_cases s:i=b
    .subst s
     simp[dL]at h2
    simp only[fG r]at h1 m;simp only[fG s]at h2 m;exact h.inv.un a b B E h1 h2 m
   .have o:i≠k:=λe=>by
     subst e;rw[p]at bf;exact z J
    exact⟨k,by rw[dU];exact n,by simp only[fG o];exact aS,by simp only[fG o];exact bf,by simp only[fG o]⟩
   .rcases pY hf with hf|rfl
    .exact cW f hf aS bf
    .cases aS
  .obtain⟨k,n,rfl⟩:=fQ hm
   have t:k<C.ay.length:=by simpa using n
   by_cases e:i=k
   .subst e
    simp[dL]at aS
   .simp only[fG e]at aS⊢
    exact⟨dD t,λbf=>e (h.inv.un i k hi t hf aS (p.trans bf.symm))⟩
 .refine⟨_,rfl,bL (λb w'=>b=true/\w=w') (λq g=>⟨λ_=>g _ _ ⟨rfl,rfl⟩,λh=>(by cases h)⟩) ?_⟩
  rintro _ _ ⟨rfl,rfl⟩;exact⟨λ_=>⟨⟨false,rfl⟩,C,h,e4.refl C w,λ_ _=>rfl,rfl,λf hf aS=>⟨hf,x f hf aS⟩⟩,λh=>(by cases h)⟩
end
theorem Np(n:Nat):gF ae 458 n=(aI Fr.c (List.replicate n dL)).toArray:=by
 have a:((Tryz.prog.info? 458).bind (·.zero)).map (·.cells)=some dL.c.toArray:=by kernel_rfl
 have hc:Tryz.prog.cellsOf 458=6:=by kernel_rfl
 unfold gF;rw[hc]
 cases hi:(Tryz.prog.info? 458).bind (·.zero) with
 |none=>rw[hi]at a;cases a
 |some z=>
  rw[hi]at a;simp only[mM,Option.some.injEq]at a;simp only[Option.getD_some,a];apply Array.ext
  .simp[m9 (c:=Fr.c) (sz:=6) (List.replicate n dL) (λx _=>rfl)]
  .intro i h1 h2
   have d:n*6≠0:=by
    intro h;simp[h]at h1
   have g:i<n*6:=by simpa using h1
   simp only[d,if_false,Array.getElem_map,Array.getElem_range,List.getElem_toArray];have b:dL.c.toArray.size=6:=rfl;have aK:i%6<6:=ib _ J;have e:i/6<(List.replicate n dL).length:=by rw[nE];omega
   have hg:=F5 (c:=Fr.c) (sz:=6) (l:=List.replicate n dL) (λx _=>rfl) (i:=i/6) (j:=i%6) e aK;rw[show i/6*6+i%6=i from J]at hg;have f:i<(aI Fr.c (List.replicate n dL)).length:=by simpa using h2
   rw[gQ f]at hg;have he:((List.replicate n dL)[i/6]).c=dL.c:=by simp
   rw[he,gQ (show i%6<dL.c.length from aK)]at hg;have hg:=Option.some.inj hg;rw[hg,b,getElem!_pos dL.c.toArray (i%6) (by rw[b];exact aK)];simp
def nc(c ba k:Nat)(D:bz):cv:=⟨c,ba,List.replicate k dL,0,D⟩
theorem sj{w:I}{D:bz}(h:dj w D){k:Nat}(h1:8<=k)(h2:k<=64)(m:∀j,D.cc j=true->D.fp j=D.ek j):aA ae 195 #[.pointer (some D.d),k] w (λv w'=>∃c ba:Nat,v=.tuple #[.pointer (some c),(0:Int)]/\ep (λ_=>False) w' (nc c ba k D)/\Ext w w'/\w.heap.size<=c/\w.heap.size<=ba):=by
 refine okF (Z.sj (some D.d) (k:Int)) ao.sj func195 ?_;delta Z.sj ad gG aa;refine⟨λh=>?_,λ_=>⟨⟨J,J,J,J⟩,?_⟩⟩
 .simp only[Option.isNone_some,tt,l6,dN]at h;omega
 rw[Np,eR];have g:=a7.new w (aI Fr.c (List.replicate k dL)).toArray 458;have a:=bZ w (.cells (aI Fr.c (List.replicate k dL)).toArray 458);have n:=lO w (.cells (aI Fr.c (List.replicate k dL)).toArray 458);obtain⟨w1,o⟩:∃w1,w1=w.alloc (.cells (aI Fr.c (List.replicate k dL)).toArray 458):=⟨_,rfl⟩;rw[←o]at g a n⊢;refine aL (aU (vs:=[.pointer (some D.d),.slice (some w.heap.size) k k,(0:Int)]) rfl λag p b s=>⟨w1.heap.size,w.heap.size,rfl,⟨⟨?_,a7.ext g b,h.ext (a.trans b),?_,?_,?_,?_,?_,?_⟩,⟨λf hf=>?_,λf hf l=>?_,λi j hi t h1=>?_,λq r=>r.elim,m⟩⟩,a.trans b,J,bu _⟩)
 .show Var _ _ [_,.slice _ (List.replicate k dL).length (List.replicate k dL).length,_] _
  rw[nE];exact p
 .show 8<=(List.replicate k dL).length;simpa using h1
 .show(List.replicate k dL).length<=64;simpa using h2
 .show 0<(List.replicate k dL).length;simp;omega
 .show w1.heap.size≠w.heap.size;omega
 .intro e
  have:=h.lt e;have:w1.heap.size<w.heap.size:=this;omega
 .intro e
  have:=h.lt e;have:w.heap.size<w.heap.size:=this;omega
 .rw[AV hf];rfl
 .rw[AV hf]at l;cases l
 .simp[nc,dL]at h1
structure bM where
 bK:Nat
 gen:Nat
 root:Nat
 bN:Nat
 C:cv
 sb:Nat
 n:Nat
 f:Nat->ah
 g:Nat->ah
 s1:ai
 s2:ai
 E:Nat->Prop
 G:Nat->Prop
 P:Nat->aw b6
def bM.gh(T:bM)(E G:Nat->Prop):bM:={T with E:=E,G:=G}
def bM.ja(T:bM)(C:cv)(P:Nat->aw b6):bM:={T with C:=C,P:=P}
def bM.X(T:bM)(q:Nat):Prop:=q=T.bK\/g_ T.sb T.s1 T.s2 q\/T.E q\/T.G q
def bM.M(T:bM)(q:Nat):Prop:=dx T.C q\/T.X q
def bM.N(T:bM)(q:Nat):Prop:=dx T.C q\/q=T.bK\/g_ T.sb T.s1 T.s2 q\/T.G q
theorem bM.Cx{T:bM}{q:Nat}(h:T.N q):T.M q:=h.imp id (Or.imp id (Or.imp id .inr))
def my(gen:Nat)(leaf:ah)(no:Nat)(l:dw)(n:b6):Prop:=
 ∃p:k6,qN (no:Int) l=.ok p/\p.gen<=gen/\p.kind=(if leaf then 1 else 2)/\L0 leaf p.body n/\2<=no
def nd(T:bM):Y O:=[.pointer (some T.C.c),.pointer (some T.sb),.int .u64 (T.gen:Nat),T.root,T.bN]
structure cS(w:I)(T:bM):Prop where
 t:Var w T.bK (nd T) 423
 s:fC w T.sb T.n T.f T.g T.s1 T.s2
 ca:ep T.X w T.C
 bo:¬g_ T.sb T.s1 T.s2 T.bK
 gi:∀q,T.E q->q≠T.bK/\¬g_ T.sb T.s1 T.s2 q/\¬T.G q
 k8:∀q,T.G q->q≠T.bK/\¬g_ T.sb T.s1 T.s2 q
 n:T.C.D.n=T.n
 num:T.root<T.n/\T.bN<=12/\T.gen<18446744073709551616
 jv:∀no cU,T.P no=some cU->no<T.n/\my T.gen cU.leaf no (T.C.view no) cU
 cc:∀j,T.C.D.cc j=true->T.g j=true\/T.C.D.ro
 low:T.g 0=true/\T.g 1=true
structure dA(T aO:bM)(w w':I)(k:Nat):Prop where
 bK:aO.bK=T.bK
 sb:aO.sb=T.sb
 n:aO.n=T.n
 g:aO.g=T.g
 s1:aO.s1=T.s1
 s2:aO.s2=T.s2
 c:aO.C.c=T.C.c
 d:aO.C.D.d=T.C.D.d
 bX:aO.C.D.key=T.C.D.key
 gen:aO.gen=T.gen
 bV:aO.C.D.bV<=T.C.D.bV+k
 calm:∀m,T.C.D.calm (m+k)->aO.C.D.calm m
 ax:af T.N w w'
 dS:∀q,aO.M q->T.M q\/w.heap.size<=q
 fn:∀q,aO.N q->T.N q\/w.heap.size<=q
theorem dA.cc{T aO:bM}{w w':I}{k:Nat}(h:dA T aO w w' k):aO.C.D.cc=T.C.D.cc/\aO.C.D.ek=T.C.D.ek:=by
 have:=congrArg Prod.fst h.bX;exact⟨congrArg (λp=>p.2.1) this,congrArg (λp=>p.2.2.1) this⟩
theorem dA.refl(T:bM)(w:I):dA T T w w 0:=⟨rfl,rfl,rfl,rfl,rfl,rfl,rfl,rfl,rfl,rfl,bu _,λ_ h=>h,.refl _ _,λ_ h=>.inl h,λ_ h=>.inl h⟩
theorem dA.ext{w w':I}(T:bM)(h:Ext w w'):dA T T w w' 0:=⟨rfl,rfl,rfl,rfl,rfl,rfl,rfl,rfl,rfl,rfl,bu _,λ_ h=>h,af.bt h,λ_ h=>.inl h,λ_ h=>.inl h⟩
theorem dA.trans{T aO b:bM}{w w' e:I}{k l:Nat}(h1:dA T aO w w' k)(h2:dA aO b w' e l):dA T b w e (k+l):=by
 have f:=h1.ax.size;refine⟨h2.bK.trans h1.bK,h2.sb.trans h1.sb,h2.n.trans h1.n,h2.g.trans h1.g,h2.s1.trans h1.s1,h2.s2.trans h1.s2,h2.c.trans h1.c,h2.d.trans h1.d,h2.bX.trans h1.bX,h2.gen.trans h1.gen,by have:=h1.bV;have:=h2.bV;omega,
  λm hm=>h2.calm m (h1.calm (m+l) (by rw[show m+l+k=m+(k+l) from J];exact hm)),de h1.ax h2.ax λq a h=>(h1.fn q h).resolve_right J,λq a=>?_,λq a=>?_⟩
 .rcases h2.dS q a with h|h
  .exact h1.dS q h
  .exact .inr J
 .rcases h2.fn q a with h|h
  .exact h1.fn q h
  .exact .inr J
theorem dA.mono{T aO:bM}{w w':I}{k l:Nat}(h:dA T aO w w' k)(hl:k<=l):dA T aO w w' l:=
 ⟨h.bK,h.sb,h.n,h.g,h.s1,h.s2,h.c,h.d,h.bX,h.gen,by have:=h.bV;omega,λm hm=>h.calm m (m_ hm J),h.ax,h.dS,h.fn⟩
theorem dA.cU{T aO:bM}{w w':I}{k lo:Nat}(h:dA T aO w w' k){n:b6}{K V D:ai}(b:eP (λq=>lo<=q/\¬T.M q) w n K V D):eP (λq=>lo<=q/\¬aO.M q) w' n K V D:=by
 have h1:eP (λq=>q<w.heap.size/\lo<=q/\¬T.M q) w n K V D:=b.da λq a hb=>⟨a,hb⟩;refine(eP.ax h1 h.ax λq a hm=>a.2.2 (bM.Cx hm)).da λq _ hb=>⟨hb.2.1,λhm=>?_⟩;rcases h.dS q hm with h2|h2
 .exact hb.2.2 h2
 .have:=hb.1;omega
section
variable {w w':I}{T aO:bM}
theorem dA.step{W E G:Nat->Prop}{w1:I}{k:Nat}(h:dA T aO w w1 k)(hc:af W w1 w')(cu:∀q,W q->q<w.heap.size->T.N q)(e:∀q,E q->aO.E q\/aO.G q\/w.heap.size<=q)(b:∀q,G q->aO.G q\/w.heap.size<=q):dA T (aO.gh E G) w w' k:=by
 refine⟨h.bK,h.sb,h.n,h.g,h.s1,h.s2,h.c,h.d,h.bX,h.gen,h.bV,h.calm,de h.ax hc λq a f=>cu q f a,λq a=>?_,λq a=>?_⟩
 .rcases a with a|a|a|a|a
  .exact h.dS q (.inl a)
  .exact h.dS q (.inr (.inl a))
  .exact h.dS q (.inr (.inr (.inl a)))
  .rcases e q a with h1|h1|h1
   .exact h.dS q (.inr (.inr (.inr (.inl h1))))
   .exact h.dS q (.inr (.inr (.inr (.inr h1))))
   .exact .inr h1
  .rcases b q a with h1|h1
   .exact h.dS q (.inr (.inr (.inr (.inr h1))))
   .exact .inr h1
 .rcases a with a|a|a|a
  .exact h.fn q (.inl a)
  .exact h.fn q (.inr (.inl a))
  .exact h.fn q (.inr (.inr (.inl a)))
  .rcases b q a with h1|h1
   .exact h.fn q (.inr (.inr (.inr h1)))
   .exact .inr h1
theorem cS.lt(h:cS w T){q:Nat}(a:T.M q):q<w.heap.size:=by
 rcases a with a|a
 .exact h.ca.raw.lt a
 .exact(h.ca.inv.gv q a).1
theorem cS.vr(h:cS w T){q:Nat}(b:T.E q):¬T.N q:=by
 rintro(a|a|a|a)
 .exact(h.ca.inv.gv q (.inr (.inr (.inl b)))).2 a
 .exact(h.gi q b).1 a
 .exact(h.gi q b).2.1 a
 .exact(h.gi q b).2.2 a
theorem cS.ext(h:cS w T)(hx:Ext w w'):cS w' T:=⟨h.t.ext hx,h.s.ext hx,h.ca.ext hx,h.bo,h.gi,h.k8,h.n,h.num,h.jv,h.cc,h.low⟩
theorem ep.grow{X c W:Nat->Prop}{C:cv}(h:ep X w C)(hc:af W w w')(cu:∀q,W q->q<w.heap.size->X q)(d:∀q,c q->X q\/(w.heap.size<=q/\q<w'.heap.size)):ep c w' C:=by
 have e:af X w w':=de (W:=X) (af.refl _ _) hc λq a g=>cu q g a;refine⟨h.raw.ax e λq a hx=>(h.inv.gv q hx).2 a,h.inv.pins,λf hf i=>?_,h.inv.un,λq a=>?_,h.inv.qU⟩
 .obtain⟨no,aS,bf,j,k,m,n,o⟩:=h.inv.ok f hf i
  have p:c5 (λq=>q<w.heap.size/\¬dx C q/\¬X q) w f.b f.l:=c5.da j λq a hb=>⟨a,hb⟩;refine⟨no,aS,bf,c5.da (c5.ax p e λq a hx=>a.2.2 hx) λq _ hb=>⟨hb.2.1,λr=>?_⟩,k,m,n,o⟩;rcases d q r with h1|h1
  .exact hb.2.2 h1
  .have:=hb.1;omega
 .rcases d q a with h1|h1
  .exact⟨fu (h.inv.gv q h1).1 hc.size,(h.inv.gv q h1).2⟩
  .exact⟨h1.2,λhf=>by have:=h.raw.lt hf;omega⟩
theorem cS.grow{E G W:Nat->Prop}(h:cS w T)(hc:af W w w')(cu:∀q,W q->q<w.heap.size->T.E q\/T.G q)(c:∀q,E q->T.E q\/T.G q\/(w.heap.size<=q/\q<w'.heap.size))(f:∀q,G q->T.E q\/T.G q\/(w.heap.size<=q/\q<w'.heap.size))(j:∀q,E q->¬G q):cS w' (T.gh E G):=by
 have b:∀q,T.E q\/T.G q->q≠T.bK/\¬g_ T.sb T.s1 T.s2 q:=λq a=>by
  rcases a with a|a
  .exact⟨(h.gi q a).1,(h.gi q a).2.1⟩
  .exact h.k8 q a
 have g:af (λq=>T.E q\/T.G q) w w':=de (W:=λq=>T.E q\/T.G q) (af.refl _ _) hc λq a k=>cu q k a;have d:∀q,T.E q\/T.G q\/(w.heap.size<=q/\q<w'.heap.size)->q≠T.bK/\¬g_ T.sb T.s1 T.s2 q:=λq a=>by
  rcases a with a|a|a
  .exact b q (.inl a)
  .exact b q (.inr a)
  .exact⟨λe=>by have h2:=h.lt (q:=q) (.inr (.inl e));omega,λe=>by have h2:=h.lt (q:=q) (.inr (.inr (.inl e)));omega⟩
 have i:∀q,T.E q\/T.G q\/(w.heap.size<=q/\q<w'.heap.size)->T.X q\/(w.heap.size<=q/\q<w'.heap.size):=λq a=>by
  rcases a with a|a|a
  .exact .inl (.inr (.inr (.inl a)))
  .exact .inl (.inr (.inr (.inr a)))
  .exact .inr a
 refine⟨h.t.ax g λe=>(b _ e).1 rfl,h.s.ax g λq a e=>(b q e).2 a,h.ca.grow hc (λq a hl=>.inr (.inr (cu q a hl))) λq a=>?_,h.bo,λq a=>⟨(d q (c q a)).1,(d q (c q a)).2,j q a⟩,λq a=>d q (f q a),h.n,h.num,h.jv,h.cc,h.low⟩;rcases a with a|a|a|a
 .exact .inl (.inl a)
 .exact .inl (.inr (.inl a))
 .exact i q (c q a)
 .exact i q (f q a)
theorem cS.cells(h:cS w T):w.cell? T.bK=some (.pointer (some T.C.c))/\w.cell? (Addr.add T.bK 1)=some (.pointer (some T.sb))/\w.cell? (Addr.add T.bK 2)=some (.int .u64 (T.gen:Nat))/\
 w.cell? (Addr.add T.bK 3)=some (.int .i64 (T.root:Nat))/\w.cell? (Addr.add T.bK 4)=some (.int .i64 (T.bN:Nat)):=by
 rw[az,az,az,az];exact⟨h.t.cell,h.t.cell,h.t.cell,h.t.cell,h.t.cell⟩
theorem cS.Cy{b9:cv}{k:Nat}{P:Nat->aw b6}(h:cS w T)(e:ep T.X w' b9)(a:e4 T.C b9 w w' k)(hP:∀no cU,P no=some cU->no<T.n/\my T.gen cU.leaf no (b9.view no) cU):
 cS w' (T.ja b9 P)/\dA T (T.ja b9 P) w w' k:=by
 have hx:=h.ca.inv.gv;have hc:=a.ax;refine⟨⟨?_,h.s.ax hc λq b hf=>(hx q (.inr (.inl b))).2 hf,e,h.bo,h.gi,h.k8,?_,h.num,hP,λj f=>by unfold bz.ro;show T.g j=true\/∀i,b9.D.cc i=true;rw[a.cc];exact h.cc j (by rw[←a.cc];exact f),h.low⟩,⟨rfl,rfl,rfl,rfl,rfl,rfl,a.c,a.d,a.bX,rfl,a.bV,a.calm,hc.mono λq _ b=>.inl b,?_,?_⟩⟩
 .have:=h.t.ax hc λhf=>(hx T.bK (.inl rfl)).2 hf
  unfold nd at this⊢;rw[←a.c]at this;exact this
 .show b9.D.n=T.n
  rw[a.n,h.n]
 .rintro q (b|b)
  .rcases a.dS q b with h1|h1
   .exact .inl (.inl h1)
   .exact .inr h1
  .exact .inl (.inr b)
 .rintro q (b|b)
  .rcases a.dS q b with h1|h1
   .exact .inl (.inl h1)
   .exact .inr h1
  .exact .inl (.inr b)
end
theorem my.two{gen no:Nat}{leaf:ah}{l:dw}{n:b6}(h:my gen leaf no l n):2<=no:=by
 obtain⟨p,_,_,_,_,a⟩:=h;exact a
def bM.ke(T:bM)(f:Nat->ah):bM:={T with f:=f}
structure hA where
 cb:Nat
 ma:ai
 iN:ai
 made:Y Nat
 left:Y Nat
structure fM(w:I)(T:bM)(c:hA):Prop where
 t:cS w T
 v:Var w c.cb [.pointer (some T.bK),c.ma,c.iN] 584
 ma:aR 1 3 w c.ma (iJ c.made)
 iN:aR 1 3 w c.iN (iJ c.left)
 gc:T.G c.cb
 lV:∀q,aN c.ma q->T.G q/\q≠c.cb/\¬aN c.iN q
 qY:∀q,aN c.iN q->T.G q/\q≠c.cb
 ns:¬T.C.D.ro
theorem Nq{w:I}{s:ai}{ds:Y Nat}(d:Nat)(b:aR 1 3 w s (iJ ds))(i:ds.length<=1000000):
 ∃ (a:ai) (w':I),Sem.run ae (Builtin.append_ #[88,88] 88 #[s,.slice (some w.heap.size) 1 1]) (w.alloc (.cells #[d] 3))=.ok a w'/\
  aR 1 3 w' a (iJ (ds++ [d]))/\af (aN s) w w'/\(∀k,aN a k->aN s k\/w.heap.size<=k)/\af (aN s) (w.alloc (.cells #[d] 3)) w':=by
 have j:s.len=ds.length:=by have:=b.1;rw[zV]at this;omega
 have hc:Ext w (w.alloc (.cells #[d] 3)):=bZ _ _;have l:(w.alloc (.cells #[d] 3)).heap.size=w.heap.size+1:=lO _ _;obtain⟨a,w',h1,h2,m,c,e⟩:=Cc.append (cX:=88) (x:=⟨some w.heap.size,1,1⟩) (Src.new (T:=3) w [d] 1 rfl) (b.ext hc) (λv f=>by rw[dH.1 f];trivial) (by show(2*(s.len+1)+1000)*8<=_;omega);exact⟨a,w',h1,by simpa[iJ] using h2,(af.bt hc).trans c,λk g=>(e k g).imp id (λh=>J),c⟩
section
variable {w w':I}{T aO:bM}{c:hA}
theorem fM.of{W:Nat->Prop}(h:fM w T c)(d:cS w' aO)(hc:af W w w')(cu:∀q,T.G q->¬W q)(f:aO.bK=T.bK)(b:∀q,T.G q->aO.G q)(g:aO.C.D.cc=T.C.D.cc:=by rfl):fM w' aO c:=
 ⟨d,by rw[f];exact h.v.ax hc (cu _ h.gc),h.ma.ax hc λq a=>cu q (h.lV q a).1,h.iN.ax hc λq a=>cu q (h.qY q a).1,b _ h.gc,λq a=>⟨b q (h.lV q a).1,(h.lV q a).2⟩,λq a=>⟨b q (h.qY q a).1,(h.qY q a).2⟩,λe=>h.ns λi=>g▸e i⟩
theorem fM.ext(h:fM w T c)(hx:Ext w w'):fM w' T c:=h.of (h.t.ext hx) hx (λ_ _ h=>h) rfl λ_ h=>h
theorem fM.cells(h:fM w T c):w.cell? c.cb=some (.pointer (some T.bK))/\w.cell? (Addr.add c.cb 1)=some (.slice c.ma.a c.ma.len c.ma.cap)/\w.cell? (Addr.add c.cb 2)=some (.slice c.iN.a c.iN.len c.iN.cap):=by
 rw[az,az];exact⟨h.v.cell,h.v.cell,h.v.cell⟩
theorem cS.Cz(h:cS w T){q:Nat}(a:T.G q):¬dx T.C q:=λhf=>(h.ca.inv.gv q (.inr (.inr (.inr a)))).2 hf
theorem cS.Ab{f:Nat->ah}(h:cS w T)(b:fC w' T.sb T.n f T.g T.s1 T.s2)(hc:af (g_ T.sb T.s1 T.s2) w w'):cS w' (T.ke f)/\dA T (T.ke f) w w' 0:=
 ⟨⟨h.t.ax hc h.bo,b,h.ca.ax hc λq a=>.inr (.inl a),h.bo,h.gi,h.k8,h.n,h.num,h.jv,h.cc,h.low⟩,
  ⟨rfl,rfl,rfl,rfl,rfl,rfl,rfl,rfl,rfl,rfl,bu _,λ_ h=>h,hc.mono λq _ a=>.inr (.inr (.inl a)),λq h=>.inl h,λq h=>.inl h⟩⟩
theorem Nr(h:fM w T c)(no:Nat)(hl:c.made.length<=100000):
 ∃ (b:ai) (ag:I),Sem.run ae (Builtin.append_ #[88,88] 88 #[c.ma,.slice (some w.heap.size) 1 1]) (w.alloc (.cells #[no] 3))=.ok b ag/\
  af (aN c.ma) (w.alloc (.cells #[no] 3)) ag/\(∃u:O,ag.cell? ⟨c.cb,1,none⟩=some u)/\ag.frozen? ⟨c.cb,1,none⟩=false/\
  ∀j,j=ag.setCell ⟨c.cb,1,none⟩ b->fM j (T.gh T.E λq=>T.G q\/aN b q) {c with ma:=b,made:=c.made++ [no]}/\dA T (T.gh T.E λq=>T.G q\/aN b q) w j 0:=by
 obtain⟨b,ag,aS,bf,d,f,o⟩:=Nq no h.ma J;have cu:∀q,aN c.ma q->T.G q:=λq a=>(h.lV q a).1;have x:=d.size;have l:=h.v.ax d λa=>(h.lV _ a).2.1 rfl;obtain⟨bU,b1⟩:=e9 l (i:=1) (by simp);refine⟨b,ag,aS,o,bU,b1,?_⟩;rintro _ rfl;have g:=eg ag c.cb 1 b;have p:=e8 l (i:=1) b;have k:af T.G w (ag.setCell ⟨c.cb,1,none⟩ b):=de (d.mono λq _ a=>cu q a) g λq _ e=>by rw[e];exact h.gc
 have y:=k.size;have aK:∀q,aN b q->q<ag.heap.size:=λq a=>aR.lt bf q a;have m:∀q,aN b q->T.G q\/(w.heap.size<=q/\q<(ag.setCell ⟨c.cb,1,none⟩ b).heap.size):=λq a=>by
  rcases f q a with h1|h1
  .exact .inl (cu q h1)
  .exact .inr ⟨h1,by have:=aK q a;have:=g.size;omega⟩
 have n:∀q,aN b q->q≠c.cb:=λq a e=>by
  rcases f q a with h1|h1
  .exact(h.lV q h1).2.1 e
  .have:=h.v.lt;omega
 have r:∀q,aN b q->¬aN c.iN q:=λq a e=>by
  rcases f q a with h1|h1
  .exact(h.lV q h1).2.2 e
  .have:=aR.lt h.iN q e;omega
 have s:=h.t.grow (E:=T.E) (G:=λq=>T.G q\/aN b q) k (λq a _=>.inr a) (λq a=>.inl a) (λq a=>by
  rcases a with a|a
  .exact .inr (.inl a)
  .exact .inr (m q a)) λq a hg=>by
  rcases hg with hg|hg
  .exact(h.t.gi q a).2.2 hg
  .rcases f q hg with h1|h1
   .exact(h.t.gi q a).2.2 (cu q h1)
   .have:=h.t.lt (q:=q) (.inr (.inr (.inr (.inl a))));omega
 refine⟨⟨s,p,?_,(h.iN.ax d λq a e=>(h.lV q e).2.2 a).ax g λq a e=>(h.qY q a).2 e,.inl h.gc,λq a=>⟨.inr a,n q a,r q a⟩,λq a=>⟨.inl (h.qY q a).1,(h.qY q a).2⟩,h.ns⟩,?_⟩
 .have:aR 1 3 ag b (iJ (c.made++ [no])):=bf
  exact this.ax g λq a e=>n q a e
 .have h0:dA T T w w 0:=.refl _ _
  exact h0.step k (λq a _=>.inr (.inr (.inr a))) (λq a=>.inl a) λq a=>by
   rcases a with a|a
   .exact .inl a
   .exact(m q a).imp id λe=>e.1
end
def c6(T:bM):Nat:=T.n-eY (λi=>T.f i||T.g i) T.n
theorem GL{s t:Nat->ah}:∀ {n:Nat},(∀i,i<n->s i=t i)->eY s n=eY t n
 |0,_=>rfl
 |n+1,h=>by
  unfold eY
  rw[GL (n:=n) λi hi=>h i J,h n J]
theorem Ac{s t:Nat->ah}{k:Nat}(a:s k=false)(ht:t k=true)(he:∀i,i≠k->t i=s i):∀ {n:Nat},k<n->eY t n=eY s n+1
 |0,h=>by omega
 |n+1,h=>by
  unfold eY
  by_cases e:k=n
  .subst e
   rw[GL (s:=t) (t:=s) (n:=k) λi hi=>he i J,a,ht]
   simp
  .rw[Ac a ht he (n:=n) J,he n J]
   omega
theorem GM{t:Nat->ah}:∀ {n:Nat},(∀i,i<n->t i=true)->eY t n=n
 |0,_=>rfl
 |n+1,h=>by
  unfold eY
  rw[GM (n:=n) λi hi=>h i J,h n J]
  simp
theorem GN{T:bM}(h:1<=c6 T):∃no,firstFree (λi=>T.f i||T.g i) T.n=some no:=by
 cases hf:firstFree (λi=>T.f i||T.g i) T.n with
 |some no=>exact⟨no,rfl⟩
 |none=>
  have:=GM (M0 hf);unfold c6 at h;rw[this]at h;omega
structure jw(T aO:bM)(c c':hA)(m l:Y Nat)(w w':I)(k:Nat):Prop where
 to:dA T aO w w' k
 E:aO.E=T.E
 G:∀q,T.G q->aO.G q
 root:aO.root=T.root
 bN:aO.bN=T.bN
 cb:c'.cb=c.cb
 made:c'.made=c.made++m
 left:c'.left=c.left++l
 cU:m.Nodup
 ob:∀no∈m,(T.f no||T.g no)=false/\no<T.n
 f:∀no,aO.f no=(T.f no||decide (no∈m))
 fT:∀no,(T.f no||T.g no)=true->aO.P no=T.P no/\aO.C.view no=T.C.view no
 room:c6 aO+m.length=c6 T
theorem jw.ext{w w':I}(T:bM)(c:hA)(h:Ext w w'):jw T T c c [] [] w w' 0:=
 ⟨.ext T h,rfl,λ_ h=>h,rfl,rfl,rfl,by simp,by simp,List.nodup_nil,λ_ h=>(by cases h),λno=>by simp,λ_ _=>⟨rfl,rfl⟩,by simp⟩
theorem jw.trans{T aO j:bM}{c c' o:hA}{m p l r:Y Nat}{w w' s:I}{k t:Nat}(h1:jw T aO c c' m l w w' k)(h2:jw aO j c' o p r w' s t):jw T j c o (m++p) (l++r) w s (k+t):=by
 have hg:aO.g=T.g:=h1.to.g;have u:aO.n=T.n:=h1.to.n;have hf:∀no,(T.f no||T.g no)=true->(aO.f no||aO.g no)=true:=λno h=>by
  rw[h1.f,hg]
  cases d:T.f no<;>cases i:T.g no<;>simp[d,i]at h⊢
 refine⟨h1.to.trans h2.to,h2.E.trans h1.E,λq h=>h2.G q (h1.G q h),h2.root.trans h1.root,h2.bN.trans h1.bN,h2.cb.trans h1.cb,by rw[h2.made,h1.made,dg],by rw[h2.left,h1.left,dg],?_,λno h=>?_,λno=>?_,λno h=>?_,?_⟩
 .rw[rj]
  refine⟨h1.cU,h2.cU,λa v b hb e=>?_⟩;subst e;have:=(h2.ob a hb).1;rw[h1.f]at this;simp[v]at this
 .rcases eL.1 h with h|h
  .exact h1.ob no h
  .have d:=h2.ob no h
   rw[h1.f,hg,u]at d;refine⟨?_,d.2⟩
   cases x:T.f no<;>cases y:T.g no<;>simp[x,y]at d⊢
 .rw[h2.f,h1.f]
  simp only[eL,Bool.decide_or,Bool.or_assoc]
 .have d:=h2.fT no (hf no h)
  have i:=h1.fT no h;exact⟨d.1.trans i.1,d.2.trans i.2⟩
 .have:=h1.room
  have:=h2.room;rw[bW];omega
theorem jw.mono{T aO:bM}{c c':hA}{m l:Y Nat}{w w':I}{k j:Nat}(h:jw T aO c c' m l w w' k)(a:k<=j):jw T aO c c' m l w w' j:=⟨h.to.mono a,h.E,h.G,h.root,h.bN,h.cb,h.made,h.left,h.cU,h.ob,h.f,h.fT,h.room⟩
def GO(T:bM)(c:hA)(n:b6)(w:I)(v:O)(w':I):Prop:=
 ∃ (no:Nat) (aO:bM) (c':hA),fM w' aO c'/\jw T aO c c' [no] [] w w' 1/\
  ((v=.tuple #[no,(0:Int)]/\aO.P no=some n)\/(v=.tuple #[no,(3:Int)]/\¬T.C.D.calm 1))
theorem ff.fU{n:b6}(h:ff n)(h2:k5 n<=400):n.keys.length<=200/\n.vals.length<=200/\n.kids.length<=201:=by
 have:=FC h;rcases h with h|h
 .have:=h.len
  have a:n.kids.length=0:=by rw[h.kids];rfl
  omega
 .have:=h.len
  have a:n.vals.length=0:=by rw[h.vals];rfl
  omega
theorem Ns{B:Nat->Prop}{w:I}{T:bM}{c:hA}{n:b6}{K V D:ai}(h:fM w T c)(a8:T.C.D.bV<=900000100)(W:1<=c6 T)(a9:c.made.length<=1000)(ay:eP B w n K V D)(o:ff n)(h2:k5 n<=232):
 aA ae 460 #[.pointer (some c.cb),iK n K V D] w (GO T c n w):=by
 obtain⟨no,X⟩:=GN W;obtain⟨u,y,_⟩:=Gq X;have H:=h.t.s.bB;have ba:=o.fU J;refine okF (Z.xX (some c.cb) n.leaf K V D) ao.xX func460 ?_;(delta Z.xX bq aa bD a_ eD ad pt nR ap st di aZ bG;dsimp only);refine aU (vs:=[n.leaf,K,V,D]) rfl λw1 Y ab bb=>?_;obtain⟨en,b2,bQ,aB⟩:=eQ Y;refine⟨_,en,K,b2,V,bQ,D,aB,(r9 (ay.ext ab) J J J).use ?_⟩;rintro _ aC ⟨aD,ac⟩;rcases aD with ⟨s,rfl,aE,aF,_,_⟩|⟨e,rfl,he,aG⟩
 rotate_left
 .have:=aG o;omega
 have L:=ab.trans ac;have r:=h.ext L;refine⟨s,0,rfl,λhb=>(by cases hb),λ_=>⟨_,rfl,_,r.cells.1,_,rfl,_,r.t.cells.2.1,(Gs r.t.s).use ?_⟩⟩;rintro _ aH ⟨rfl,gm,ag⟩;rw[X]at gm⊢;obtain⟨aI,M⟩:=r.t.Ab gm ag;have ah:fM aH (T.ke (dm T.f no true)) c:=r.of aI ag (λq a hf=>(h.t.k8 q a).2 hf) rfl λ_ h=>h;refine⟨(no:Nat),0,rfl,λhb=>(by cases hb),λ_=>⟨_,rfl,_,ah.cells.2.1,?_⟩⟩;obtain⟨z,bk,aS,bf,aJ,aK,aM⟩:=Nr ah no J;refine aL ⟨z,bk,aS,_,rfl,by rw[az];exact aJ,by rw[az];exact aK,aL ?_⟩;rw[az];obtain⟨m,aj⟩:∃m,m=bk.setCell ⟨c.cb,0+1,none⟩ z:=⟨_,rfl⟩;rw[←aj];obtain⟨A,Q⟩:=aM m aj;obtain⟨ak,bc⟩:∃ak,ak=λq=>T.G q\/aN z q:=⟨_,rfl⟩;have al:∀q,T.N q->q<w.heap.size:=λq a=>h.t.lt (bM.Cx a);have bd:=L.size;have be:=M.ax.size;have bg:=Q.ax.size;have am:af T.N aC m:=M.ax.trans Q.ax;have aP:Var m w.heap.size [n.leaf,K,V,D] 524:=(Y.ext ac).ax am λa=>by have:=al _ a;omega
 have aQ:aR 1 5 m s (au (n4 n)):=aE.ax am λq a aT=>by have:=al _ aT;have:=aF q a;omega
 have hlen:=FB o;have H:2<=no:=by
  have e:(T.f no||T.g no)=false:=y;have F:T.g no=false:=by cases hg:T.g no<;>simp_all
  have:=h.t.low;rcases fO no 2 with R|R
  .rcases rk no with an|an
   .rw[an,this.1]at F;cases F
   .rw[show no=1 from J,this.2]at F;cases F
  .exact R
 have S:pk ⟨if n.leaf then 1 else 2,T.gen,n4 n⟩:=by
  refine⟨?_,?_,h.t.num.2.2,by show(n4 n).length<=232;omega⟩
  .show 1<=(if n.leaf then 1 else 2);split<;>omega
  .show(if n.leaf then 1 else 2)<=4;split<;>omega
 refine bL (λn27 aV=>n27=((if n.leaf then 1 else 2:Nat):Int)/\aV=m) (λq a=>⟨n.leaf,aP.cell,λhb=>a _ _ ⟨by rw[hb];rfl,rfl⟩,λhb=>a _ _ ⟨by rw[hb];rfl,rfl⟩⟩) ?_;rintro _ _ ⟨rfl,rfl⟩;refine⟨_,rfl,_,A.cells.1,_,rfl,_,A.t.cells.2.2.1,(zU (no:=no) (p:=⟨if n.leaf then 1 else 2,T.gen,n4 n⟩) aQ.src J S).use ?_⟩;rintro _ b5 ⟨s2,rfl,aq,ar,aW⟩;have d:=A.ext ar;refine⟨s2,0,rfl,λhb=>(by cases hb),λ_=>⟨_,rfl,_,d.cells.1,_,rfl,_,d.t.cells.1,(GK d.t.ca (by show T.C.D.bV<=999999999;omega) (no:=no) (by rw[d.t.n];exact u) H (λo=>by have:=d.t.cc no o;have e:(T.f no||T.g no)=false:=y;rcases this with this|this;(rw[show T.g no=true from this,Bool.or_true]at e;cases e);exact d.ns this) aq.src (vh no S) λq a=>⟨aR.lt aq q a,λhf=>?_⟩).use ?_⟩⟩
 .have:=aW q a
  have:=A.t.lt (q:=q) (.inl hf);omega
 rintro _ aX ⟨b9,aY,U,a0⟩;have a1:∀j,dm T.f no true j=(T.f j||decide (j∈ [no])):=λj=>by
  unfold dm;by_cases e:j=no
  .subst e;simp
  .simp[e]
 have av:(T.f no||T.g no)=false:=y;have a2:T.n-eY (λi=>dm T.f no true i||T.g i) T.n+1=c6 T:=by
  have:=Ac (s:=λi=>T.f i||T.g i) (t:=λi=>dm T.f no true i||T.g i) (k:=no) y (by simp[dm]) (λi hi=>by simp[dm,hi]) u;unfold c6 at W⊢;have R:=py (λi=>T.f i||T.g i) T.n;omega
 have main:∀ (P':Nat->aw b6) (v:O),(∀j,j≠no->P' j=T.P j)->(∀j,j≠no->b9.view j=T.C.view j)->(∀j cU,P' j=some cU->j<T.n/\my T.gen cU.leaf j (b9.view j) cU)->
  ((v=.tuple #[no,(0:Int)]/\P' no=some n)\/(v=.tuple #[no,(3:Int)]/\¬T.C.D.calm 1))->GO T c n w v aX:=by
  intro P' v hP fo a3 l;obtain⟨a4,a5⟩:=d.t.Cy (P:=P') aY U a3;have a6:=d.of (aO:=((T.ke (dm T.f no true)).gh T.E λq=>T.G q\/aN z q).ja b9 P') a4 U.ax (λq a=>d.t.Cz a) rfl (λ_ h=>h) U.cc;refine⟨no,_,_,a6,⟨?_,rfl,λq a=>.inl a,rfl,rfl,rfl,rfl,(lu _).symm,by simp,λx hx=>?_,a1,λj b=>?_,a2⟩,l⟩
  .have:=(((dA.ext T L).trans M).trans Q).trans ((dA.ext _ ar).trans a5)
   exact this.mono J
  .obtain rfl:=dH.1 hx
   exact⟨av,u⟩
  .have:j≠no:=λe=>by rw[e,av]at b;cases b
   exact⟨hP j this,fo j this⟩
 rcases a0 with ⟨rfl,l⟩|⟨rfl,a7,l⟩
 .refine⟨0,rfl,main (λj=>if j=no then some n else T.P j) _ (λj b=>if_neg b) (λj b=>(l j).trans (if_neg b)) (λj cU b=>?_) (.inl ⟨rfl,if_pos rfl⟩)⟩
  by_cases e:j=no
  .subst e
   rw[if_pos rfl]at b
   cases b;rw[l,if_pos rfl];exact⟨u,_,zP J S,bu _,rfl,⟨o,rfl,h2,rfl⟩,H⟩
  .rw[if_neg e]at b
   rw[l,if_neg e];exact h.t.jv j cU b
 .refine⟨3,rfl,main T.P _ (λ_ _=>rfl) (λj _=>l j) (λj cU b=>?_) (.inr ⟨rfl,a7⟩)⟩
  rw[l];exact h.t.jv j cU b
theorem Nt(w:I)(x:Int):Sem.run ae (Instr.buildSlice 610 1 #[(0,.agg #[(),x])]) w=
 .ok (.slice (some w.heap.size) 1 1) (w.alloc (.cells #[(),x] 618)):=by kernel_rfl
def GP(B:Nat->Prop)(w:I)(s:ai)(c:Y Key)(kids:Y Nat):Prop:=
 (∃b x,s=⟨some ⟨b,0,none⟩,1,1⟩/\c=[]/\kids=[x]/\Var w b [.slice none 0 0,.int .i64 (x:Nat)] 618/\B b)\/
 (∃b x y k t,s=⟨some ⟨b,0,none⟩,2,2⟩/\c=[k]/\kids=[x,y]/\Var w b [.slice none 0 0,.int .i64 (x:Nat),.slice t.a t.len t.cap,.int .i64 (y:Nat)] 618/\B b/\c5 B w t k/\k≠ [])
def oc(T:bM)(c:hA)(n:b6)(w:I)(v:O)(w':I):Prop:=
 ∃ (aO:bM) (c':hA) (m:Y Nat) (s:ai),fM w' aO c'/\jw T aO c c' m [] w w' 2/\m.length<=2/\
  ((∃a,v=.tuple #[s,(0:Int)]/\Fx aO.P n a m/\GP (λq=>¬aO.M q) w' s a m)\/(v=.tuple #[s,(3:Int)]/\¬T.C.D.calm 2))
theorem Nu{B:Nat->Prop}{w:I}{T:bM}{c:hA}{n:b6}{K V D:ai}(h:fM w T c)(l:T.C.D.bV<=900000100)(m:1<=c6 T)(o:c.made.length<=1000)(p:eP B w n K V D)(q:ff n)(h2:k5 n<=232):
 aA ae 448 #[.pointer (some ⟨c.cb,0,none⟩),iK n K V D] w (oc T c n w):=by
 refine okF (Z.xW (some ⟨c.cb,0,none⟩) n.leaf K V D) ao.xW func448 ?_;(delta Z.xW bq aa bD a_ nR;dsimp only);refine aU (vs:=[.bool n.leaf,.slice K.a K.len K.cap,.slice V.a V.len V.cap,.slice D.a D.len D.cap]) rfl λw1 r f z=>?_;obtain⟨en,b2,bQ,s⟩:=eQ r;refine⟨_,en,K,b2,V,bQ,D,s,(Ns (h.ext f) l m o (p.ext f) q h2).use ?_⟩;rintro _ b ⟨no,aO,c',g,u,v⟩;have i:∀ (e:Int),((e=0/\aO.P no=some n)\/(e=3/\¬T.C.D.calm 1))->∃ (d:ai) (j:I),Sem.run ae (Instr.buildSlice 610 1 #[(0,.agg #[.slice none 0 0,.int .i64 (no:Nat)])]) b=.ok (.slice d.a d.len d.cap) j/\oc T c n w (.tuple #[.slice d.a d.len d.cap,.int .i64 e]) j:=by
  intro e he;refine⟨⟨some ⟨b.heap.size,0,none⟩,1,1⟩,_,Nt b _,?_⟩;have k:=bZ b (.cells #[.slice none 0 0,.int .i64 (no:Nat)] 618);have x:jw T aO c c' [no] [] w (b.alloc (.cells #[.slice none 0 0,.int .i64 (no:Nat)] 618)) 2:=(((jw.ext T c f).trans u).trans (jw.ext aO c' k)).mono J;refine⟨aO,c',[no],⟨some ⟨b.heap.size,0,none⟩,1,1⟩,g.ext k,x,by simp,?_⟩;rcases he with ⟨rfl,he⟩|⟨rfl,he⟩
  .refine .inl ⟨[],rfl,.inl ⟨h2,no,rfl,rfl,he⟩,.inl ⟨_,no,rfl,rfl,rfl,Var.new b [.slice none 0 0,.int .i64 (no:Nat)] 618,λhm=>?_⟩⟩
   have:=g.t.lt hm;omega
  .exact .inr ⟨rfl,λhc=>he (m_ hc J)⟩
 rcases v with ⟨rfl,hP⟩|⟨rfl,y⟩
 .exact⟨_,0,rfl,i 0 (.inl ⟨rfl,hP⟩)⟩
 .exact⟨_,3,rfl,i 3 (.inr ⟨rfl,y⟩)⟩
theorem CA{b:ah}{K V D:ai}:∀v∈ [.bool b,.slice K.a K.len K.cap,.slice V.a V.len V.cap,.slice D.a D.len D.cap],Plain v:=by
 intro v c;simp only[c4,g1,hF]at c;rcases c with rfl|rfl|rfl|rfl<;>trivial
theorem oc.base{T:bM}{c:hA}{n:b6}{w0 w w':I}{v:O}(h:oc T c n w v w')(hx:Ext w0 w):oc T c n w0 v w':=by
 obtain⟨aO,c',m,s,aS,bf,a,b⟩:=h;exact⟨aO,c',m,s,aS,((jw.ext T c hx).trans bf).mono J,a,b⟩
theorem oc.out{T:bM}{c:hA}{n:b6}{w w':I}{v:O}(h:oc T c n w v w'):∃ (s:ai) (e:Int),v=.tuple #[s,e]:=by
 obtain⟨aO,c',m,s,aS,bf,b,a⟩:=h;rcases a with ⟨d,rfl,_⟩|⟨rfl,_⟩
 .exact⟨s,0,rfl⟩
 .exact⟨s,3,rfl⟩
structure CB(T aO:bM)(l:Y Nat)(w w':I):Prop where
 to:dA T aO w w' 0
 E:aO.E=T.E
 G:aO.G=T.G
 root:aO.root=T.root
 bN:aO.bN=T.bN
 f:∀no,aO.f no=(T.f no&& !decide (no∈l))
 fT:∀no,(no∉l\/T.g no=true)->aO.P no=T.P no/\aO.C.view no=T.C.view no
theorem GQ{w:I}{T:bM}{c:hA}{s:ai}{l:Y Nat}(h:fM w T c)(z:Src 1 w s (iJ l))(B:∀q,aN s q->T.G q)(hl:∀x∈l,T.f x=true)(ie:l.Nodup)(af:l.length<=10000):
 aA ae 419 #[.pointer (some c.cb),s] w (λv w'=>v=.tuple #[]/\∃aO:bM,fM w' aO c/\CB T aO l w w'):=by
 have ag:s.len=l.length:=by have:=z.len;rw[zV]at this;omega
 refine okF (Z.xR (some c.cb) s) ao.xR func419 ?_;(delta Z.xR c3 ad bc cd aY bn pt br bG ak;dsimp only);refine⟨λi w'=>∃ (j:Nat) (aO:bM),i=j/\j<=l.length/\fM w' aO c/\CB T aO (l.take j) w w'/\Src 1 w' s (iJ l),λi _=>((l.length:Int)-i).toNat,⟨0,T,rfl,dC _,h,⟨.refl _ _,rfl,rfl,rfl,rfl,λno=>by simp,λ_ _=>⟨rfl,rfl⟩⟩,z⟩,?_⟩;rintro _ aC ⟨j,dK,rfl,ah,h1,hg,C⟩;refine⟨λaK=>?_,λp=>?_⟩
 .have aK:j<l.length:=by
   have:(j:Int)<(s.len:Int):=bI aK;omega
  have D:dK.f l[j]=true:=by
   rw[hg.f,hl _ (dD aK)];have:l[j]∉l.take j:=λhm=>by
    obtain⟨i,hi,he⟩:=fQ hm;rw[fP]at hi;rw[List.getElem_take]at he;have:=(List.getElem_inj ie).1 he;omega
   simp[this]
  have aj:l[j]<dK.n:=by
   rcases fO l[j] dK.n with h2|h2
   .exact h2
   .have:=h1.t.s.pf _ h2
    rw[D]at this;cases this
  obtain⟨A,ar,hb,hc⟩:=C.at (i:=j) (v:=.int .i64 ((l[j]:Nat):Int)) (by simp[iJ,aK]);refine lF (λw'=>∃dz:bM,fM w' dz c/\CB T dz (l.take (j+1)) w w'/\Src 1 w' s (iJ l)) (λq a=>⟨A,ar,hb,_,hc,_,rfl,_,h1.cells.1,_,rfl,_,h1.t.cells.2.1,(M5 h1.t.s _).use ?_⟩) ?_
  .rintro _ _ ⟨rfl,rfl⟩
   refine⟨_,rfl,_,rfl,_,h1.cells.1,_,rfl,_,h1.t.cells.2.1,(Gt h1.t.s _).use ?_⟩;rintro _ F ⟨rfl,gm,r⟩;have Q:px dK.f dK.n ((l[j]:Nat):Int)=dm dK.f l[j] false:=by
    unfold px;rw[if_pos ⟨J,J⟩,eR]
   rw[Q]at gm;obtain⟨R,H⟩:=h1.t.Ab gm r;have d:fM F (dK.ke (dm dK.f l[j] false)) c:=h1.of R r (λq a hf=>(h1.t.k8 q a).2 hf) rfl λ_ h=>h;have K:Src 1 F s (iJ l):=C.ax r λq a hf=>(h1.t.k8 q (by rw[hg.G];exact B q a)).2 hf;have S:(decide ((0:Int)<=((l[j]:Nat):Int))&&decide (((l[j]:Nat):Int)<(dK.n:Nat))&&dK.f (Int.toNat ((l[j]:Nat):Int))&& !(dK.g (Int.toNat ((l[j]:Nat):Int))))= !(dK.g l[j]):=by
    rw[eR,D,fF J,fF J];simp
   have L:∀no,dm dK.f l[j] false no=(T.f no&& !decide (no∈l.take (j+1))):=λno=>by
    rw[kR aK];unfold dm;by_cases e:no=l[j]
    .rw[if_pos e,e,fF (eL.2 (.inr (dH.2 rfl)))]
     exact(tB _).symm
    .rw[if_neg e,hg.f]
     have a6:decide (no∈l.take j++ [l[j]])=decide (no∈l.take j):=by
      rw[hE,dN,dN,eL,dH];exact⟨λh=>h.resolve_right e,.inl⟩
     rw[a6]
   rw[S];refine⟨_,rfl,λu=>⟨_,rfl,_,d.cells.1,_,rfl,_,d.t.cells.1,(No d.t.ca _).use ?_⟩,λu=>a _ ⟨_,d,⟨?_,hg.E,hg.G,hg.root,hg.bN,L,λno k=>?_⟩,K⟩⟩
   .rintro _ al ⟨⟨b,rfl⟩,b9,U,m,M,_⟩
    have V:T.g l[j]=false:=by
     have h2:dK.g=T.g:=hg.to.g;rw[h2]at u;simpa using u
    obtain⟨W,X⟩:=d.t.Cy (P:=λno=>if no=l[j] then none else dK.P no) U m (λno cU o=>by
     by_cases e:no=l[j]
     .rw[if_pos e]at o;cases o
     .rw[if_neg e]at o
      rw[M no e];exact h1.t.jv no cU o)
    have aa:=d.of (aO:=(dK.ke (dm dK.f l[j] false)).ja b9 λno=>if no=l[j] then none else dK.P no) W m.ax (λq a=>d.t.Cz a) rfl (λ_ h=>h) m.cc;refine⟨b,rfl,a _ ⟨_,aa,⟨?_,hg.E,hg.G,hg.root,hg.bN,L,λno k=>?_⟩,?_⟩⟩
    .exact((hg.to.trans H).trans X).mono J
    .have N:no≠l[j]:=λe=>by
      rcases k with h2|h2
      .exact h2 (by rw[kR aK,e];exact eL.2 (.inr (dH.2 rfl)))
      .rw[e,V]at h2;cases h2
     have O:=hg.fT no (k.imp (λh2 y=>h2 (by rw[kR aK];exact eL.2 (.inl y))) id);exact⟨(if_neg N).trans O.1,(M no N).trans O.2⟩
    .exact K.ax m.ax λq a=>d.t.Cz (by show dK.G q;rw[hg.G];exact B q a)
   .exact(hg.to.trans H).mono J
   .exact hg.fT no (k.imp (λh2 y=>h2 (by rw[kR aK];exact eL.2 (.inl y))) id)
  .rintro am ⟨dz,h2,ab,ac⟩
   rw[bF (n:=(j:Int)+1) J J];refine⟨⟨j+1,dz,J,J,h2,ab,ac⟩,?_⟩;show((l.length:Int)-((j:Int)+1)).toNat<((l.length:Int)-(j:Int)).toNat;omega
 .have p:j=l.length:=by
   have:¬(j:Int)<(s.len:Int):=ck p;omega
  subst p;rw[jg]at hg;exact⟨rfl,dK,h1,hg⟩
theorem fM.Nv{w w':I}{T:bM}{c:hA}{W:Nat->Prop}(h:fM w T c)(hc:af W w w')(cu:∀q,W q->T.E q\/w.heap.size<=q):fM w' T c:=by
 have b:af (λq=>T.E q) w w':=de (W:=λq=>T.E q) (af.refl _ _) hc λq a d=>(cu q d).resolve_right J;exact h.of (h.t.grow (E:=T.E) (G:=T.G) b (λq a _=>.inl a) (λq a=>.inl a) (λq a=>.inr (.inl a)) λq a=>(h.t.gi q a).2.2) b (λq hg he=>(h.t.gi q he).2.2 hg) rfl λ_ h=>h
def GR(T:bM)(c:hA)(bm:Y Nat)(fW:Y cH)(w:I)(v:O)(w':I):Prop:=
 ∃ (aO:bM) (c':hA) (m l:Y Nat),fM w' aO c'/\jw T aO c c' m l w w' 60/\
  ((v=.tuple #[(0:Int),(0:Int),(0:Int)]/\fW=[]/\l.Perm (m++bm)/\m.length<=2*T.bN+3)\/
   (∃ (root h:Nat) (pages:Y Nat),v=.tuple #[root,h,(0:Int)]/\hL aO.P h none none root pages fW/\(pages++l).Perm (m++bm)/\1<=h/\h<=T.bN+1/\m.length<=2*T.bN+3)\/
   (∃a b:Int,v=.tuple #[a,b,(3:Int)]/\¬T.C.D.calm 60))
theorem oc.cs{T:bM}{c:hA}{n:b6}{w w':I}{s:ai}{e:Int}(h:oc T c n w (.tuple #[s,e]) w'):
 ∃ (aO:bM) (c':hA) (m:Y Nat),fM w' aO c'/\jw T aO c c' m [] w w' 2/\m.length<=2/\((e=0/\∃b,Fx aO.P n b m/\GP (λq=>¬aO.M q) w' s b m)\/(e=3/\¬T.C.D.calm 2)):=by
 obtain⟨aO,c',m,s2,h1,h2,f,g⟩:=h;refine⟨aO,c',m,h1,h2,f,?_⟩;rcases g with ⟨b,a,d,i⟩|⟨a,d⟩
 .simp at a
  obtain⟨⟨a1,a2,a3⟩,rfl⟩:=a;obtain rfl:s=s2:=by cases s;cases s2;simp_all
  exact .inl ⟨rfl,b,d,i⟩
 .simp at a
  exact .inr ⟨a.2,d⟩
theorem Nw{a b:Y Nat}:a.Perm b↔∀x,a.count x=b.count x:=List.perm_iff_count
theorem Nx{w:I}{T:bM}{c:hA}{fW:Y cH}{n:b6}{K V D ws:ai}(t:ws.len=0)(h:fM w T c)(u:eP (λq=>¬T.M q) w n K V D)(Q:T.C.D.bV<=900000000)(R:2<=c6 T)(S:c.made.length<=100)(U:c.left=[])
 (g:mv n) (i:n.keys≠ []) (y:k5 n<=232) (z:n.m7=fW):
 aA ae 420 #[.pointer (some ⟨c.cb,0,none⟩),.slice ws.a ws.len ws.cap,iK n K V D] w (GR T c [] fW w):=by
 refine okF (Z.xS (some ⟨c.cb,0,none⟩) ws n.leaf K V D) ao.xS func420 ?_;(delta Z.xS bq aa bD a_ jK b7 c3 ak ad bx pt fk bc cd eU aY bn ap st ue EL wR eD;dsimp only);refine aU (vs:=qP n K V D) rfl λw1 A B W=>?_;obtain⟨en,b2,bQ,E⟩:=eQ A;refine⟨_,en,K,b2,V,bQ,D,E,aU (vs:=[.bool false,.slice none 0 0,.slice none 0 0,.slice none 0 0]) rfl λX j F ab=>⟨j.cl rfl CA,rfl,cY j (us:=qP n K V D) rfl rfl λl G H ac=>?_⟩⟩;have f:Ext w l:=B.trans (Ext.bR F H (bu _));refine⟨λn10 w'=>n10= -1/\l=w',λ_ _=>0,⟨by rw[t];decide,rfl⟩,?_⟩;rintro _ _ ⟨rfl,rfl⟩;refine⟨λh=>by simp at h,λ_=>?_⟩;obtain⟨d0,d1,d2,d3⟩:=eQ G;refine⟨_,d0,K,d1,V,d2,D,d3,(Nu (h.ext f) J J J (u.ext f) (.inl g) y).use ?_⟩;intro v w' d;obtain⟨s,e,rfl⟩:=d.out;obtain⟨aO,c',m,o,p,hm,L⟩:=(d.base f).cs;rcases L with ⟨rfl,af,N,O⟩|⟨rfl,P⟩
 .refine⟨s,0,rfl,λh=>(by cases h),λ_=>?_⟩
  rcases N with ⟨_,x,rfl,rfl,hx⟩|⟨ag,_⟩
  .rcases O with ⟨b,r,rfl,_,e,d,_⟩|⟨b,r,ah,aj,al,rfl,e,_⟩
   .obtain rfl:x=r:=by simpa using e
    refine⟨_,rfl,⟨by decide,by show(0:Int)<((1:Nat):Int);decide⟩,_,by rw[az,az];exact d.cell,aO,c',[x],[],o,p.mono J,.inr (.inl ⟨x,1,[x],rfl,⟨n,hx,g,λk i=>⟨λ_ e=>(by cases e),λ_ e=>(by cases e)⟩,i,rfl,z.symm⟩,List.Perm.refl _,bu _,J,by show 1<=_;omega⟩)⟩
   .cases e
  .omega
 .exact⟨s,3,rfl,λ_=>⟨aO,c',m,[],o,p.mono J,.inr (.inr ⟨0,0,rfl,λhc=>P (m_ hc J)⟩)⟩,λh=>(by cases h)⟩
def bM.pA(T:bM)(r h:Nat):bM:={T with root:=r,bN:=h}
theorem cS.Ny{w w':I}{T:bM}{r h:Nat}(ht:cS w T)(a:Var w' T.bK (nd (T.pA r h)) 423)(hc:af (λq=>q=T.bK) w w')(b:r<T.n)(hh:h<=12):cS w' (T.pA r h)/\dA T (T.pA r h) w w' 0:=
 ⟨⟨a,ht.s.ax hc λq c e=>ht.bo (e▸c),ht.ca.ax hc λq e=>.inl e,ht.bo,ht.gi,ht.k8,ht.n,⟨b,hh,ht.num.2.2⟩,ht.jv,ht.cc,ht.low⟩,
  ⟨rfl,rfl,rfl,rfl,rfl,rfl,rfl,rfl,rfl,rfl,bu _,λ_ h=>h,hc.mono λq _ e=>.inr (.inl e),λq h=>.inl h,λq h=>.inl h⟩⟩
def jQ(T:bM)(pages:Y Nat)(L:Y cH):Prop:=(T.bN=0/\T.root=0/\pages=[]/\L=[])\/hL T.P T.bN none none T.root pages L
theorem GS{s t:Nat->ah}:∀ {n:Nat},(∀i,s i=true->t i=true)->eY s n<=eY t n
 |0,_=>bu _
 |n+1,h=>by
  have h1:=GS (n:=n) h
  show eY s n+(s n).toNat<=eY t n+(t n).toNat
  cases a:s n with
  |false=>exact Nat.add_le_add h1 (dC _)
  |true=>rw[h n a];exact Nat.add_le_add_right h1 _
def Ad(T:bM)(bm:Y Nat)(fW:Y cH)(w:I)(v:O)(w':I):Prop:=
 ∃aO:bM,cS w' aO/\dA T aO w w' 60/\aO.E=T.E/\aO.G=T.G/\
  ((v=.int .i64 2/\c6 T<2*T.bN+3/\aO=T)\/
   (v=.int .i64 0/\2*T.bN+3<=c6 T/\(∃pages,c6 T<=c6 aO+(2*T.bN+3)/\jQ aO pages fW/\pages.Nodup/\(∀no∈pages,no∈bm\/(T.f no||T.g no)=false)/\∀no,aO.f no=true↔(no∈pages\/(T.f no=true/\no∉bm)))/\∀no,T.g no=true->aO.P no=T.P no/\aO.C.view no=T.C.view no)\/
   (v=.int .i64 3/\¬T.C.D.calm 60/\aO.root=T.root/\aO.bN=T.bN/\aO.f=T.f/\∀no,(T.f no||T.g no)=true->aO.P no=T.P no/\aO.C.view no=T.C.view no))
theorem GU{l:Y Nat}(h:∀x,l.count x<=1):l.Nodup:=List.nodup_iff_count.2 h
theorem Nz{w:I}{T:bM}{s:ai}{bm:Y Nat}{fW:Y cH}{n:b6}{K V D:ai}(h:cS w T)(bO:¬T.C.D.ro)(cT:T.C.D.bV<=900000000)(hh:T.bN<12)(bP:bm.Nodup)(au:∀x∈bm,T.f x=true)(cV:bm.length<=5000)
 (bS:∀ (cO j:Nat->Prop) (w1:I) (b2:hA),fM w1 (T.gh cO j) b2->dA T (T.gh cO j) w w1 0->2*T.bN+3<=c6 T->b2.made=[]->b2.left=[]->aA ae 420 #[.pointer (some b2.cb),s,iK n K V D] w1 (GR (T.gh cO j) b2 bm fW w1)):
 aA ae 388 #[.pointer (some T.bK),s,iK n K V D] w (Ad T bm fW w):=by
 have cW:=h.s.bB;refine Z.J3 (some T.bK) s n.leaf K V D w _ ?_;(delta Z.uJ bx pt eU aY bG ad ak st aa bq bD a_ ue dc;dsimp only);refine aU (vs:=qP n K V D) rfl λw1 U aT cX=>aU (vs:=[(0:Int)]) rfl λag aV aW cY=>aL ?_;have X:Ext ag ag.drew:=bH _;obtain⟨aX,bT⟩:∃aX,aX=ag.drew:=⟨_,rfl⟩;rw[←bT]at X⊢;have aZ:=(aT.trans aW).trans X;have k:=h.ext aZ;obtain⟨ev,bX⟩:∃ev,ev=w1.heap.size:=⟨_,rfl⟩;rw[←bX]at aV⊢;refine⟨λ_=>False,_,rfl,id,_,k.cells.2.1,_,rfl,id,_,k.cells.2.2.2.2,(Cr k.s).use ?_⟩;rintro _ av ⟨rfl,ab⟩;have aw:=aZ.trans ab;have L:=(aV.ext X).ext ab;have bY:((T.n:Int)-eY (λi=>T.f i||T.g i) T.n)=(c6 T:Nat):=by
  have:=py (λi=>T.f i||T.g i) T.n;unfold c6;omega
 have bZ:IntKind.wrap .i64 (IntKind.wrap .i64 (2*(T.bN:Int))+3)=((2*T.bN+3:Nat):Int):=by
  rw[bF (n:=2*(T.bN:Int)) J J,bF J J];omega
 rw[bY,bZ];refine⟨_,rfl,ab,λhb=>?_,λhb=>?_⟩
 .have hb:((c6 T:Nat):Int)<((2*T.bN+3:Nat):Int):=bI hb
  obtain⟨aS,bf⟩:=e9 L (i:=0) (by simp);have b0:=eg av ev 0 (2:Int);have b4:=e8 L (i:=0) (2:Int);have a0:=Ext.bR aw b0 J;exact⟨aS,bf,aL ⟨2,b4.cell,T,h.ext a0,(dA.ext T a0).mono J,rfl,rfl,.inl ⟨rfl,J,rfl⟩⟩⟩
 have a1:2*T.bN+3<=c6 T:=by
  have:¬((c6 T:Nat):Int)<((2*T.bN+3:Nat):Int):=ck hb;omega
 refine aU (vs:=[.pointer (some T.bK),(),()]) rfl λb5 a2 b7 cZ=>aU (vs:=[.pointer none]) rfl λa3 ay a4 c0=>?_;obtain⟨cb,a5⟩:∃cb,cb=av.heap.size:=⟨_,rfl⟩;obtain⟨fS,a6⟩:∃fS,fS=b5.heap.size:=⟨_,rfl⟩;rw[←a5]at a2⊢;rw[←a6]at ay⊢;obtain⟨aS,bf⟩:=e9 ay (i:=0) (by simp);have ac:=eg a3 fS 0 (.pointer (some cb));have aB:=e8 ay (i:=0) (.pointer (some cb));refine⟨aS,bf,aL ?_⟩;obtain⟨z,b8⟩:∃z,z=a3.setCell fS (.pointer (some cb)):=⟨_,rfl⟩;rw[←b8]at ac aB⊢;have c1:=aw.size;have c2:=ac.size;have aC:Ext av z:=Ext.bR (b7.trans a4) ac J;have a7:=aw.trans aC;have a8:=L.ext aC;have a9:=(a2.ext a4).ax ac J;have b9:=((U.ext aW).ext X).ext (ab.trans aC);obtain⟨cO,aD⟩:∃cO,cO=λq=>T.E q\/q=ev:=⟨_,rfl⟩;obtain⟨j,aE⟩:∃j,j=λq=>T.G q\/q=cb:=⟨_,rfl⟩;have aF:∀q,cO q->T.E q\/q=ev:=λq c=>by rw[aD]at c;exact c
 have ah:∀q,j q->T.G q\/q=cb:=λq c=>by rw[aE]at c;exact c
 have ba:∀q,T.E q->cO q:=λq c=>by rw[aD];exact .inl c
 have b_:∀q,T.G q->j q:=λq c=>by rw[aE];exact .inl c
 have aG:cO ev:=by rw[aD];exact .inr rfl
 have ca:j cb:=by rw[aE];exact .inr rfl
 have c3:=a8.lt;have c4:=a9.lt;have bb:cS z (T.gh cO j):=h.grow (W:=λ_=>False) a7 (λ_ h=>h.elim) (λq c=>(aF q c).imp id λe=>.inr ⟨J,J⟩) (λq c=>.inr ((ah q c).imp id λe=>⟨J,J⟩)) λq c hg=>by
  rcases aF q c with h1|h1<;>rcases ah q hg with h2|h2
  .exact(h.gi q h1).2.2 h2
  .have:=h.lt (q:=q) (.inr (.inr (.inr (.inl h1))));omega
  .have:=h.lt (q:=q) (.inr (.inr (.inr (.inr h2))));omega
  .have:=L.lt;omega
 have bc:dA T (T.gh cO j) w z 0:=(dA.refl T w).step (W:=λ_=>False) a7 (λ_ h=>h.elim) (λq c=>(aF q c).imp id λe=>.inr J) λq c=>(ah q c).imp id λe=>by omega
 have cc:fM z (T.gh cO j) ⟨cb,gu,gu,[],[]⟩:=⟨bb,a9,aR.none _ _ _,aR.none _ _ _,ca,λq c=>(gb q c).elim,λq c=>(gb q c).elim,bO⟩;have cd:=bS cO j z _ cc bc a1 rfl rfl;obtain⟨en,b2,bQ,ce⟩:=eQ b9;refine⟨_,aB.cell,_,en,K,b2,V,bQ,D,ce,cd.use ?_⟩;rintro v bk ⟨dK,r,m,l,bd,d,cf⟩;have M:dK.E ev:=by rw[d.E];exact aG
 have aj:=a8.ax d.to.ax (bb.vr aG);have cg:¬(T.gh cO j).N fS:=by
  have c5:cb<fS:=by rw[a5,a6];omega
  rintro(c|c|c|c)
  .have:=h.lt (q:=fS) (.inl c);omega
  .have:=h.lt (q:=fS) (.inr (.inl c));omega
  .have:=h.lt (q:=fS) (.inr (.inr (.inl c)));omega
  .rcases ah fS c with h1|h1
   .have:=h.lt (q:=fS) (.inr (.inr (.inr (.inr h1))));omega
   .omega
 have be:=aB.ax d.to.ax cg;have al:r.cb=cb:=d.cb;have c7:dK.bK=T.bK:=d.to.bK;have am:r.made=m:=d.made;have an:r.left=l:=d.left;have aH:fS≠ev:=by have:=L.lt;omega
 have bg:dA T dK w bk 60:=(bc.trans d.to).mono J
 have fin:∀ (w':I) (aO:bM),cS w' aO->dA T aO w w' 60->aO.E=cO->(∀q,T.G q->aO.G q)->cS w' (aO.gh T.E T.G)/\dA T (aO.gh T.E T.G) w w' 60:=by
  intro w' aO hc ht bh bi;exact⟨hc.grow (W:=λ_=>False) (af.refl _ _) (λ_ h=>h.elim) (λq c=>.inl (by rw[bh];exact ba q c)) (λq c=>.inr (.inl (bi q c))) λq c=>(h.gi q c).2.2,
   ht.step (W:=λ_=>False) (af.refl _ _) (λ_ h=>h.elim) (λq c=>.inl (by rw[bh];exact ba q c)) λq c=>.inl (bi q c)⟩
 have bj:∀q,T.G q->dK.G q:=λq c=>d.G q (b_ q c);have c8:=(aT).size;have aI:∀ (w0:I) (aO:bM) (c':hA) (x:Int),fM w0 aO c'->dA T aO w w0 60->aO.E ev->fM (w0.setCell ev x) aO c'/\dA T aO w (w0.setCell ev x) 60:=λw0 aO c' x hc ht he=>
  ⟨hc.Nv (eg w0 ev 0 _) λq e=>.inl (by rw[e];exact he),ht.step (E:=aO.E) (G:=aO.G) (eg w0 ev 0 _) (λq e hl=>J) (λq c=>.inl c) λq c=>.inl c⟩
 have c9:m.length<=1600:=by
  have:=d.room;have:c6 (T.gh cO j)<=T.n:=by unfold c6;exact Nat.sub_le _ _
  omega
 have ch:(∃a b:Int,v=.tuple #[a,b,(3:Int)]/\¬T.C.D.calm 60)\/(∃ (root hh:Nat) (pages:Y Nat),v=.tuple #[root,hh,(0:Int)]/\((hh=0/\root=0/\pages=[]/\fW=[])\/hL dK.P hh none none root pages fW)/\(pages++l).Perm (m++bm)/\hh<=12/\m.length<=2*T.bN+3):=by
  rcases cf with ⟨rfl,h1,h2,aJ⟩|⟨root,hh,pages,rfl,h1,h2,k,A,aJ⟩|⟨a,b,rfl,aK⟩
  .exact .inr ⟨0,0,[],rfl,.inl ⟨rfl,rfl,rfl,h1⟩,h2,J,aJ⟩
  .have A:hh<=T.bN+1:=A
   exact .inr ⟨root,hh,pages,rfl,.inr h1,h2,J,aJ⟩
  .exact .inl ⟨a,b,rfl,aK⟩
 rcases ch with ⟨a,b,rfl,aK⟩|⟨root,o,pages,rfl,ci,bl,cj,c_⟩
 .
  obtain⟨aS,bf⟩:=e9 aj (i:=0) (by simp);have u:=e8 aj (i:=0) (3:Int);obtain⟨ao,ap⟩:=aI bk dK r 3 bd bg M;have O:=be.ax (eg bk ev 0 (3:Int)) aH;refine⟨a,b,3,rfl,aS,bf,aL ⟨3,u.cell,λ_=>⟨3,u.cell,?_⟩,λhx=>(by cases hx)⟩⟩;obtain⟨cl,cm⟩:=e9 u (i:=0) (by simp);have aM:=e8 u (i:=0) (3:Int);obtain⟨bn,bo⟩:=aI _ dK r 3 ao ap M;have aN:=O.ax (eg _ ev 0 (3:Int)) aH;refine⟨cl,cm,aL (Z.EY ev fS _ _ ?_)⟩;generalize da:(bk.setCell ev (3:Int)).setCell ev (3:Int)=bp at aM bn aN bo⊢;(delta Z.r5 aY ad pt a_ dc;dsimp only);have B:Ext bp bp.drew:=bH _;have p:=bn.ext B;have Q:=GQ p p.ma.src (λq c=>(p.lV q c).1) (l:=r.made) (λx hx=>by rw[am]at hx;rw[d.f];simp[hx]) (by rw[am];exact d.cU) (by rw[am];omega);rw[al]at Q;have R:=p.cells.2.1;rw[al]at R;refine⟨3,aM.cell,λ_=>aL ⟨id,_,aN.drew.cell,id,_,aN.drew.cell,_,rfl,id,r.ma,R,Q.use ?_⟩,λhx=>(by cases hx)⟩;rintro _ br ⟨rfl,dz,y,hg⟩;rw[am]at hg;have cn:=(aM.ext B).ax hg.to.ax (p.t.vr M);have co:dA T dz w br 60:=((bo.trans (dA.ext dK B)).trans hg.to).mono J;obtain⟨f1,f2⟩:=fin br dz y.t co (by rw[hg.E];exact d.E) λq c=>by rw[hg.G];exact bj q c
  refine⟨rfl,3,cn.cell,_,f1,f2,rfl,rfl,.inr (.inr ⟨rfl,aK,hg.root.trans d.root,hg.bN.trans d.bN,?_,λno S=>?_⟩)⟩
  .funext no
   show dz.f no=T.f no;rw[hg.f,d.f];by_cases hm:no∈m
   .have:=(d.ob no hm).1
    have e:(T.gh cO j).f no=T.f no:=rfl;rw[e]at this⊢
    cases kr:T.f no
    .simp[hm]
    .rw[kr]at this;cases this
   .simp[hm];rfl
  .have hm:no∉m:=λhm=>by
    have:=(d.ob no hm).1;have e:((T.gh cO j).f no||(T.gh cO j).g no)=(T.f no||T.g no):=rfl;rw[e,S]at this;cases this
   have h1:=hg.fT no (.inl hm);have h2:=d.fT no S;exact⟨h1.1.trans h2.1,h1.2.trans h2.2⟩
 .
  have H:∀x,pages.count x+l.count x=m.count x+bm.count x:=λx=>by
   have:=Nw.1 bl x;simpa only[List.count_append] using this
  have aq:∀x,m.count x+bm.count x<=1:=λx=>by
   have h1:=List.nodup_iff_count.1 d.cU x;have h2:=List.nodup_iff_count.1 bP x;rcases rk (m.count x) with k|k
   .omega
   .rcases rk (bm.count x) with A|A
    .omega
    .have hm:=kT.1 k
     have cp:=kT.1 A;have:=(d.ob x hm).1;have e:((T.gh cO j).f x||(T.gh cO j).g x)=(T.f x||T.g x):=rfl;rw[e,au x cp]at this;cases this
  have hlen:pages.length+l.length=m.length+bm.length:=by
   have:=bl.length_eq;simpa only[bW] using this
  have cq:∀x∈l,dK.f x=true:=λx hx=>by
   have h1:=kT.2 hx;have h2:=H x;rw[d.f];rcases rk (m.count x) with k|k
   .have:x∈bm:=kT.1 J
    have e:(T.gh cO j).f x=T.f x:=rfl;rw[e,au x this];rfl
   .have:x∈m:=kT.1 k
    simp[this]
  have cr:l.Nodup:=GU λx=>by have:=H x;have:=aq x;omega
  obtain⟨aS,bf⟩:=e9 aj (i:=0) (by simp);have u:=e8 aj (i:=0) (0:Int);obtain⟨ao,ap⟩:=aI bk dK r 0 bd bg M;have O:=be.ax (eg bk ev 0 (0:Int)) aH;refine⟨_,_,0,rfl,aS,bf,aL ⟨0,u.cell,λhx=>(by cases hx),λ_=>aL ?_⟩⟩;generalize db:bk.setCell ev (0:Int)=bs at u ao O ap⊢;have B:Ext bs bs.drew:=bH _;have p:=ao.ext B;have Q:=GQ p p.iN.src (λq c=>(p.qY q c).1) (l:=r.left) (λx hx=>cq x (by rw[an]at hx;exact hx)) (by rw[an];exact cr) (by rw[an];omega);rw[al]at Q;have R:=p.cells.2.2;rw[al]at R;refine⟨id,_,O.drew.cell,id,_,O.drew.cell,_,rfl,id,r.iN,R,Q.use ?_⟩;rintro _ F ⟨rfl,dz,y,hg⟩;rw[an]at hg;have cs:=(u.ext B).ax hg.to.ax (p.t.vr M);have bt:dA T dz w F 60:=((ap.trans (dA.ext dK B)).trans hg.to).mono J;have aP:dz.bK=T.bK:=bt.bK;have bu:dz.E=cO:=by rw[hg.E];exact d.E
  have ct:dz.E ev:=by rw[bu];exact aG
  have bv:Var F T.bK (nd dz) 423:=by rw[←aP];exact y.t.t
  obtain⟨bU,b1⟩:=e9 bv (i:=3) (by simp[nd]);have bw:=e8 bv (i:=3) root;have cu:=eg F T.bK 3 root;obtain⟨cv,cw⟩:=e9 bw (i:=4) (by simp[nd]);have bz:=e8 bw (i:=4) o;have cy:=eg (F.setCell ⟨T.bK,3,none⟩ root) T.bK 4 o;refine⟨rfl,_,rfl,by rw[az];exact bU,by rw[az];exact b1,aL ⟨_,rfl,by rw[az,az];exact cv,by rw[az,az];exact cw,aL ?_⟩⟩;rw[az,az,b3,b3];have aQ:af (λq=>q=T.bK) F ((F.setCell ⟨T.bK,3,none⟩ root).setCell ⟨T.bK,4,none⟩ o):=cu.trans cy;generalize dd:(F.setCell ⟨T.bK,3,none⟩ root).setCell ⟨T.bK,4,none⟩ o=ar at bz aQ⊢;have cz:∀x∈pages,x∉l:=λx hx hl=>by
   have h1:=kT.2 hx;have h2:=kT.2 hl;have:=H x;have:=aq x;omega
  have bA:(o=0/\root=0/\pages=[]/\fW=[])\/(hL dz.P o none none root pages fW/\root∈pages):=ci.imp id λcA=>cA.agree λx hx=>((hg.fT x (.inl (cz x hx))).1).symm;have cB:root<dz.n:=by
   rcases bA with ⟨_,h1,_⟩|⟨h1,_⟩
   .have:=y.t.s.cx;omega
   .obtain⟨cU,_,h2,_⟩:=h1.Fw
    exact(y.t.jv _ _ h2).1
  have cC:Var ar dz.bK (nd (dz.pA root o)) 423:=by rw[aP];exact bz
  obtain⟨cD,cE⟩:=y.t.Ny cC (by rw[aP];exact aQ) cB cj;have cF:ev≠T.bK:=λe=>by have:=h.lt (q:=T.bK) (.inr (.inl rfl));omega
  have bC:=cs.ax aQ cF;obtain⟨cG,cI⟩:=e9 bC (i:=0) (by simp);have bE:=e8 bC (i:=0) (0:Int);have bJ:=eg ar ev 0 (0:Int);refine⟨cG,cI,aL (Z.EY ev fS _ _ ?_)⟩;(delta Z.r5 aY ad pt a_ dc;dsimp only);refine⟨0,bE.cell,λhx=>(by cases hx),λ_=>⟨0,bE.cell,?_⟩⟩;have cJ:cS (ar.setCell ev (0:Int)) (dz.pA root o):=cD.grow (E:=dz.E) (G:=dz.G) bJ (λq e _=>.inl (by rw[e];exact ct)) (λq c=>.inl c) (λq c=>.inr (.inl c)) λq c=>(y.t.gi q c).2.2;have cK:dA T (dz.pA root o) w (ar.setCell ev (0:Int)) 60:=((bt.trans cE).mono J).step (E:=dz.E) (G:=dz.G) bJ (λq e hl=>J) (λq c=>.inl c) λq c=>.inl c;obtain⟨f1,f2⟩:=fin _ _ cJ cK bu λq c=>by
   show dz.G q;rw[hg.G];exact bj q c
  refine⟨_,f1,f2,rfl,rfl,.inr (.inl ⟨rfl,a1,⟨pages,?_,?_,GU λx=>by have:=H x;have:=aq x;omega,λno hx=>?_,λno=>?_⟩,λno S=>?_⟩)⟩
  .have h1:c6 dK+m.length=c6 T:=d.room
   have h2:c6 dK<=c6 (dz.pA root o):=by
    show dK.n-_<=dz.n-eY (λi=>dz.f i||dz.g i) dz.n;rw[hg.to.n];have:=GS (s:=λi=>dz.f i||dz.g i) (t:=λi=>dK.f i||dK.g i) (n:=dK.n) λi hi=>by
     rw[hg.f,hg.to.g]at hi;rw[l6,dM]at hi;rw[l6];exact hi.imp And.left id
    omega
   show c6 T<=c6 (dz.pA root o)+_;omega
  .rcases bA with ⟨h1,h2,k,A⟩|⟨h1,_⟩
   .exact .inl ⟨h1,h2,k,A⟩
   .exact .inr h1
  .have h1:=kT.2 hx
   have h2:=H no;rcases rk (bm.count no) with k|k
   .have hm:no∈m:=kT.1 J
    exact .inr (d.ob no hm).1
   .exact .inl (kT.1 k)
  .show dz.f no=true↔_
   rw[hg.f,d.f];have e:(T.gh cO j).f no=T.f no:=rfl;rw[e];have de:=H no;have y:=aq no;have bL:no∈m↔0<m.count no:=kT.symm;have U:no∈bm↔0<bm.count no:=kT.symm;have cL:no∈l↔0<l.count no:=kT.symm;have cM:no∈pages↔0<pages.count no:=kT.symm;have cN:0<bm.count no->T.f no=true:=λh=>au no (U.2 h);have cP:0<m.count no->T.f no=false:=λh=>by
    have:=(d.ob no (bL.2 h)).1;have e:((T.gh cO j).f no||(T.gh cO j).g no)=(T.f no||T.g no):=rfl;rw[e]at this
    cases kr:T.f no
    .rfl
    .rw[kr]at this;cases this
   rw[dM,l6,dN,mL,ny,bL,U,cL,cM];constructor
   .rintro⟨h1|h1,h2⟩
    .by_cases k:0<bm.count no
     .left;omega
     .exact .inr ⟨h1,k⟩
    .left;omega
   .rintro(h1|⟨h1,h2⟩)
    .refine⟨?_,J⟩
     by_cases k:0<bm.count no
     .exact .inl (cN k)
     .right;omega
    .refine⟨.inl h1,λk=>?_⟩
     have:0<m.count no:=by omega
     rw[cP this]at h1;cases h1
  .have cQ:(T.f no||T.g no)=true:=by rw[S];simp
   have cR:dK.g no=true:=by rw[d.to.g];exact S
   have h1:=hg.fT no (.inr cR);have h2:=d.fT no cQ;exact⟨h1.1.trans h2.1,h1.2.trans h2.2⟩
def GV(T:bM)(bm:Y Nat)(fW:Y cH)(w:I)(v:O)(w':I):Prop:=
 ∃aO:bM,cS w' aO/\dA T aO w w' 100/\aO.E=T.E/\aO.G=T.G/\
  ((v=.int .i64 2/\c6 T<2*T.bN+3/\aO=T)\/
   (v=.int .i64 0/\2*T.bN+3<=c6 T/\(∃pages,c6 T<=c6 aO+(2*T.bN+3)/\jQ aO pages fW/\pages.Nodup/\(∀no∈pages,no∈bm\/(T.f no||T.g no)=false)/\∀no,aO.f no=true↔(no∈pages\/(T.f no=true/\no∉bm)))/\∀no,T.g no=true->aO.P no=T.P no/\aO.C.view no=T.C.view no)\/
   (v=.int .i64 3/\¬T.C.D.calm 100/\aO.root=T.root/\aO.bN=T.bN/\aO.f=T.f/\∀no,(T.f no||T.g no)=true->aO.P no=T.P no/\aO.C.view no=T.C.view no))
theorem Ad.ax{T:bM}{b9:cv}{bm:Y Nat}{fW:Y cH}{w w1 w':I}{v:O}{k:Nat}(h:Ad (T.ja b9 T.P) bm fW w1 v w')(e:dA T (T.ja b9 T.P) w w1 k)(r:k<=40)(f:∀j,b9.view j=T.C.view j)(i:2*T.bN+3<=c6 T):GV T bm fW w v w':=by
 obtain⟨aO,h1,h2,l,m,n⟩:=h;refine⟨aO,h1,(e.trans h2).mono J,l,m,?_⟩;have o:c6 (T.ja b9 T.P)=c6 T:=rfl;have p:(T.ja b9 T.P).bN=T.bN:=rfl;rcases n with ⟨_,b,_⟩|⟨rfl,b,d,c⟩|⟨rfl,b,d,c,q,g⟩
 .rw[o,p]at b;omega
 .exact .inr (.inl ⟨rfl,i,d,λno a=>⟨(c no a).1,(c no a).2.trans (f no)⟩⟩)
 .exact .inr (.inr ⟨rfl,λhc=>b (e.calm 60 (m_ hc J)),d,c,q,λno a=>⟨(g no a).1,(g no a).2.trans (f no)⟩⟩)
theorem qp(w:I)(s:ai):aA ae 383 #[s] w (λv w'=>v=.bool (decide (1<=s.len/\s.len<=24))/\w=w'):=by
 refine okF (Z.qp s) ao.qp func383 ?_;unfold Z.qp;refine⟨?_,rfl⟩
 congr 1
 rw[hE,dM,dN,dN,dN];omega
theorem jQ.low{T:bM}{pages:Y Nat}{L:Y cH}(h:jQ T pages L)(fc:L.length<4096):T.bN<12/\pages.length<=L.length:=by
 rcases h with ⟨h1,_,a,_⟩|b
 .rw[h1,a];exact⟨J,dC _⟩
 .obtain⟨aS,bf,c⟩:=b.pages
  refine⟨?_,aS⟩;rcases fO T.bN 12 with h|h
  .exact h
  .have d:=c J
   have e:2^12<=2^T.bN:=nB (by decide) h;have f:(2:Nat)^12=4096:=by decide
   omega
structure NA(T aO:bM)(bm:Y Nat)(fW:Y cH):Prop where
 ok:∃pages,c6 T<=c6 aO+(2*T.bN+3)/\jQ aO pages fW/\pages.Nodup/\(∀no∈pages,no∈bm\/(T.f no||T.g no)=false)/\∀no,aO.f no=true↔(no∈pages\/(T.f no=true/\no∉bm))
 fT:∀no,T.g no=true->aO.P no=T.P no/\aO.C.view no=T.C.view no
theorem GW{w:I}{T:bM}(h:cS w T):aA ae 233 #[.pointer (some T.bK)] w (λv w'=>v=.tuple #[T.root,T.bN]/\Ext w w'):=by
 refine okF (Z.yF (some T.bK)) ao.yF func233 ?_;(delta Z.yF ad pt aY;dsimp only);have hd:=h.ext (bH w);exact⟨λh=>(by cases h),λ_=>aL ⟨_,rfl,id,_,hd.cells.2.2.2.1,_,rfl,id,_,hd.cells.2.2.2.2,rfl,bH w⟩⟩
theorem NB{B:Nat->Prop}{w:I}{s:ai}{ds:Y Nat}(h:fh B w s ds)(no:Nat)(hl:ds.length<=1000000):
 aA ae 405 #[s,no] w (λv w'=>∃n:Int,v=n/\(0<=n↔no∈ds)/\w=w'):=by
 have g:=h.len;refine okF (Z.xo s (no:Nat)) ao.xo func405 ?_;(delta Z.xo c3 ad bc cd aY bn ak;dsimp only);refine⟨λn w'=>∃i:Nat,n=(i:Int)/\i<=ds.length/\no∉ds.take i/\w=w',λn _=>((ds.length:Int)-n).toNat,⟨0,rfl,dC _,by simp,rfl⟩,?_⟩;rintro _ _ ⟨i,rfl,hi,c,rfl⟩;refine⟨λaK=>?_,λd=>?_⟩
 .have a:i<ds.length:=by
   have:(i:Int)<(s.len:Int):=bI aK;omega
  obtain⟨A,ar,hb,hc⟩:=fh.at h a;refine⟨A,ar,hb,_,hc,λhe=>?_,λb=>?_⟩
  .have he:no=ds[i]:=by
    have:(no:Int)=((ds[i]:Nat):Int):=by simpa using he
    omega
   exact⟨_,rfl,⟨λ_=>by rw[he];exact dD _,λ_=>J⟩,rfl⟩
  .have b:no≠ds[i]:=λe=>by rw[e]at b;simp at b
   have f:IntKind.wrap .i64 ((i:Int)+1)=((i+1:Nat):Int):=by rw[bF J J];omega
   rw[f];refine⟨⟨i+1,rfl,J,?_,rfl⟩,by show((ds.length:Int)-((i+1:Nat):Int)).toNat<((ds.length:Int)-(i:Int)).toNat;omega⟩;rw[kR a];intro hm;rcases eL.1 hm with hm|hm
   .exact c hm
   .exact b (dH.1 hm)
 .have a:i=ds.length:=by
   have:¬(i:Int)<(s.len:Int):=ck d;omega
  rw[a,jg]at c;exact⟨-1,rfl,⟨λh=>J,λh=>absurd h c⟩,rfl⟩
theorem NC{B:Nat->Prop}{w:I}{s:ai}{ds:Y Nat}(h:fh B w s ds)(no:Nat)(hl:ds.length<=1000000):
 aA ae 363 #[s,no] w (λv w'=>v=.bool (decide (no∈ds))/\w=w'):=by
 refine okF (Z.xi s (no:Nat)) ao.xi func363 ?_;(delta Z.xi bG;dsimp only);refine(NB h no hl).use ?_;rintro _ _ ⟨n,rfl,a,rfl⟩;refine⟨n,rfl,?_,rfl⟩
 congr 1
 exact decide_eq_decide.2 a
section
variable {w w':I}{T aO:bM}{jR k:Nat}{s:ai}{ps:Y Nat}
end
theorem od{w:I}{s:ai}{l:Y UInt8}(h:Src 1 w s (au l)){i:Nat}(hi:i<l.length):∃A:av,s.a=some A/\((0:Int)<=(i:Int)/\(i:Int)<(s.len:Int))/\w.cell? (A.add (Int.toNat (i:Int)*1))=some (.int .u8 ((l[i].toNat:Nat):Int)):=by
 obtain⟨A,ar,hb,hc⟩:=h.at (i:=i) (v:=.int .u8 ((l[i].toNat:Nat):Int)) (by simp[au,hi]);exact⟨A,ar,hb,hc⟩
def CC(n:Nat)(root bN:Int):Prop:=0<=bN/\bN<=12/\0<=root/\root<n/\(root=0↔bN=0)
theorem sk{w:I}{C:cv}(hc:fV w C)(sb:Nat)(gen root bN:Int):
 aA ae 196 #[.pointer (some C.c),.pointer (some sb),.int .u64 gen,root,bN] w (λv w'=>
  (CC C.D.n root bN/\v=.tuple #[.pointer (some w.heap.size),(0:Int)]/\Ext w w'/\Var w' w.heap.size [.pointer (some C.c),.pointer (some sb),.int .u64 gen,root,bN] 423/\w'.heap.size=w.heap.size+1)\/
  (¬CC C.D.n root bN/\v=.tuple #[.pointer none,(1:Int)]/\w=w')):=by
 refine okF (Z.sk (some C.c) (some sb) gen root bN) ao.sk func196 ?_;(delta Z.sk ad pt bG aZ aa;dsimp only);refine bL (λb w'=>(b=false↔(0<=bN/\bN<=12/\0<=root/\root<C.D.n))/\w=w') (λq g=>⟨λh1=>g _ _ ⟨?_,rfl⟩,λh1=>⟨_,rfl,_,hc.cells.1,(zZ hc.dev).use ?_⟩⟩) ?_
 .simp only[Option.isNone_some,tt,l6,dN]at h1
  exact⟨λh=>(by cases h),λh=>J⟩
 .rintro _ _ ⟨rfl,rfl⟩
  simp only[Option.isNone_some,tt,Bool.or_eq_false_iff,ny]at h1;refine⟨_,rfl,g _ _ ⟨?_,rfl⟩⟩;rw[ny];omega
 rintro b _ ⟨hb,rfl⟩;refine⟨λh1=>.inr ⟨λhg=>?_,rfl,rfl⟩,λh1=>?_⟩
 .have h2:=hb.2 ⟨hg.1,hg.2.1,hg.2.2.1,hg.2.2.2.1⟩
  rw[h2,tt]at h1;have d:=hg.2.2.2.2;by_cases a:root=0
  .rw[a,d.1 a]at h1;simp at h1
  .have f:bN≠0:=λe=>a (d.2 e)
   have aT:(root==0)=false:=by simpa using a
   have a6:(bN==0)=false:=by simpa using f
   rw[aT,a6]at h1
   cases h1
 .rw[Bool.or_eq_false_iff]at h1
  have h2:=hb.1 h1.1;have d:root=0↔bN=0:=by
   have a:=h1.2;by_cases f:root=0<;>by_cases i:bN=0<;>simp[f,i]at a⊢
  refine aU (vs:=[.pointer (some C.c),.pointer (some sb),.int .u64 gen,root,bN]) rfl λl j hx k=>.inl ⟨⟨h2.1,h2.2.1,h2.2.2.1,h2.2.2.2,d⟩,rfl,hx,j,k⟩
theorem jQ.rising{T:bM}{pages:Y Nat}{L:Y cH}(h:jQ T pages L):m6 L:=by
 rcases h with ⟨_,_,_,a⟩|b
 .rw[a];exact List.Pairwise.nil
 .exact b.eO.1
section
variable {w0 w w':I}{ed gI:Nat}{T aO:bM}{r h k:Nat}{pages:Y Nat}{L nf:Y cH}{ms:ai}
theorem cS.jb{ng:Nat}(ht:cS w T)(a:T.E ng)(hc:af (λq=>q=ng) w w'):cS w' T:=
 ht.grow (E:=T.E) (G:=T.G) hc (λq e _=>.inl (by rw[e];exact a)) (λq a=>.inl a) (λq a=>.inr (.inl a)) λq a=>(ht.gi q a).2.2
end
def bM.pB(T:bM)(f g:Nat->ah)(s1 s2:ai):bM:={T with f:=f,g:=g,s1:=s1,s2:=s2}
section
variable {w0 w w':I}{ed gI:Nat}{T aO:bM}{r h k:Nat}{pages:Y Nat}{L nf:Y cH}{ms:ai}
theorem cS.space{f g:Nat->ah}{s1 s2:ai}(ht:cS w T)(d:fC w' T.sb T.n f g s1 s2)(hc:af (g_ T.sb T.s1 T.s2) w w')(hf:∀k,g_ T.sb s1 s2 k->g_ T.sb T.s1 T.s2 k\/w.heap.size<=k)(e:∀j,T.C.D.cc j=true->g j=true\/T.C.D.ro)(i:g 0=true/\g 1=true):
 cS w' (T.pB f g s1 s2)/\∀q,(T.pB f g s1 s2).M q->T.M q\/w.heap.size<=q:=by
 have c:∀q,T.X q->¬g_ T.sb T.s1 T.s2 q->¬g_ T.sb s1 s2 q:=λq hx a h2=>by
  rcases hf q h2 with b|b
  .exact a b
  .have:=ht.lt (q:=q) (.inr hx);omega
 refine⟨⟨ht.t.ax hc ht.bo,d,ht.ca.grow hc (λq a _=>.inr (.inl a)) λq a=>?_,c _ (.inl rfl) ht.bo,λq a=>⟨(ht.gi q a).1,c q (.inr (.inr (.inl a))) (ht.gi q a).2.1,(ht.gi q a).2.2⟩,λq a=>⟨(ht.k8 q a).1,c q (.inr (.inr (.inr a))) (ht.k8 q a).2⟩,ht.n,ht.num,ht.jv,e,i⟩,λq a=>?_⟩
 .rcases a with a|a|a|a
  .exact .inl (.inl a)
  .rcases hf q a with b|b
   .exact .inl (.inr (.inl b))
   .exact .inr ⟨b,d.lt q a⟩
  .exact .inl (.inr (.inr (.inl a)))
  .exact .inl (.inr (.inr (.inr a)))
 .rcases a with a|a|a|a|a
  .exact .inl (.inl a)
  .exact .inl (.inr (.inl a))
  .exact(hf q a).imp (λh=>.inr (.inr (.inl h))) id
  .exact .inl (.inr (.inr (.inr (.inl a))))
  .exact .inl (.inr (.inr (.inr (.inr a))))
theorem jQ.agree{p:Y Nat}(a:jQ T p L)(b:aO.root=T.root)(hh:aO.bN=T.bN)(hP:∀x∈p,T.P x=aO.P x):jQ aO p L:=by
 unfold jQ at a⊢;rw[b,hh];exact a.imp id λc=>(c.agree hP).1
end
theorem nh{i:Nat}(h:i<=1000000):IntKind.wrap .i64 ((i:Int)+1)=((i+1:Nat):Int):=by rw[bF J J];omega
section
variable {w0 w w':I}{ed gI:Nat}{T aO:bM}{r h k c:Nat}{pages bm:Y Nat}{L nf cj:Y cH}{V:Nat->dw}{ms l:ai}
end
theorem GX:∀ {a b:Y Nat},a.Nodup->(∀x∈a,x∈b)->a.length<=b.length
 | [],_,_,_=>dC _
 |x::a,b,f,c=>by
  obtain⟨h1,h2⟩:=List.nodup_cons.1 f
  have hx:=c x (by simp)
  have:=GX (a:=a) (b:=b.erase x) h2 λy d=>(List.mem_erase_of_ne (λe=>h1 (by rw[←e];exact d))).2 (c y (nx _ d))
  rw[List.length_erase_of_mem hx]at this
  have:=List.length_pos_of_mem hx
  rw[d_];omega
theorem ND{t:Nat->ah}{l:Y Nat}(n:Nat)(h:∀i,i<n->t i=true->i∈l):eY t n<=l.length:=by
 have h1:∀n,eY t n=((List.range n).filter t).length:=by
  intro n
  induction n with
  |zero=>rfl
  |succ n a=>
   rw[List.range_succ,List.filter_append,bW,eY,a,List.filter_cons,List.filter_nil]
   cases t n<;>rfl
 rw[h1];refine GX (List.nodup_range.filter t) λx hx=>?_;rw[ia,jX]at hx;exact h x hx.1 hx.2
theorem jQ.empty{T:bM}{pages:Y Nat}(h:jQ T pages []):T.root=0/\T.bN=0:=by
 rcases h with ⟨h1,h2,_,_⟩|a
 .exact⟨h2,h1⟩
 .have b:=(a.agree λ_ _=>rfl).2
  have c:=(jQ.low (T:=T) (.inr a) (by decide)).2;have:=List.length_pos_of_mem b;simp only[fE]at c;omega
section
variable {α:Type}{P:Program}{w w':I}{gA kX T:TypeId}{enc:α->O}{r m:Nat}{L:Y (α×O×Nat)}{seen:Y Nat}
structure k9(w:I)(r m:Nat)(enc:α->O)(L:Y (α×O×Nat))(seen:Y Nat):Prop where
 it:∃a:Nat,w.heap[r]? =some (.mapIter (some m) a seen.toArray a)/\w.heap[m]? =some (.map (L.map (c8 enc)).toArray a)/\∀x∈L,x.2.2<a
 cU:(L.map (·.2.2)).Nodup
def gK(L:Y (α×O×Nat))(seen:Y Nat):Y (α×O×Nat):=L.filter λx=> !seen.contains x.2.2
theorem GY(P:Program){n:Nat}(b:1<=n)(w:I):∃ (i:Nat) (w':I),i<n/\(choose (.mapNext n)).run P w=.ok i w'/\(w'=w\/w'=w.drew):=by
 by_cases h:n<=1
 .refine⟨0,w,J,?_,.inl rfl⟩
  show Sem.run P (.choose (.mapNext n) .pure) w=_;have a:(Question.mapNext n).forced=true:=by simp[Question.forced,h]
  simp only[Sem.run,a,if_true]
 .refine⟨(Question.mapNext n).cut (w.tape w.drawn (.mapNext n)),w.drew,ib _ J,?_,.inr rfl⟩
  show Sem.run P (.choose (.mapNext n) .pure) w=_;have a:(Question.mapNext n).forced=false:=by simp[Question.forced,h]
  simp only[Sem.run,a,gE,if_false];rfl
theorem CD{a:aw Nat}{b d:Nat}{c:Array Nat}(h:w.heap[r]? =some (.mapIter a b c d)):(getObj r).run P w=.ok (.mapIter a b c d) w:=by simp[getObj,Sem.run,h]
theorem NF{a:aw Nat}{b d:Nat}{c:Array Nat}(h:w.heap[r]? =some (.mapIter a b c d))(e:Obj):(setObj r e).run P w=.ok () (iE w r e):=by simp[setObj,Sem.run,h,iE]
theorem k9.begin{M:Y (α×O)}(h:cR w m enc M){T:TypeId}{gA kX:TypeId}(b:P.underlying T=some (.map gA kX)):∃ (L:Y (α×O×Nat)) (w1:I),(L.map nM).Perm M/\(Instr.range T (.map (some m))).run P w=.ok (.pointer (some w.heap.size)) w1/\k9 w1 w.heap.size m enc L []/\Ext w w1/\w1.heap.size=w.heap.size+1:=by
 have aK:=h.lt;obtain⟨L,a,h1,h2,e,c,d⟩:=h;refine⟨L,w.alloc (.mapIter (some m) a #[] a),h2,?_,⟨⟨a,?_,?_,d⟩,c⟩,af.alloc (.refl _ _) _,by simp⟩
 .simp only[Instr.range,Sem.run_bind,cL b,Result.andThen,lI h1,Sem.run_pure,newObj,Sem.run]
  rfl
 .show(w.heap.push _)[w.heap.size]? =_
  simp
 .show(w.heap.push _)[m]? =_
  rw[Array.getElem?_push_lt aK];exact(Array.getElem?_eq_getElem aK).symm.trans h1
theorem k9.next(h:k9 w r m enc L seen)(A:r≠m)(T:TypeId):
 (gK L seen=[]/\∃w1,(Instr.next (.pointer (some r)) false T).run P w=.ok (.tuple #[false]) w1/\Ext w w1/\w1.heap=w.heap)\/
 (∃x∈gK L seen,∃w1,(Instr.next (.pointer (some r)) false T).run P w=.ok (.tuple #[true,enc x.1,x.2.1]) w1/\k9 w1 r m enc L (seen++ [x.2.2])/\af (λq=>q=r) w w1/\w1.heap.size=w.heap.size/\(Instr.entry (.pointer (some r))).run P w1=.ok (.tuple #[enc x.1,x.2.1]) w1):=by
 obtain⟨⟨a,h1,h2,c⟩,g⟩:=h;have cW:(!seen.toArray.isEmpty&& !((L.map (c8 enc)).toArray).isEmpty&&((L.map (c8 enc)).toArray).all λe=>decide (e.born>=a))=false:=by
  cases L with
  |nil=>simp
  |cons x L=>
   have:¬a<=x.2.2:=by have:=c x (by simp);omega
   simp[c8,this]
 have d:((L.map (c8 enc)).toArray.filter λe=> !seen.toArray.contains e.born)=((gK L seen).map (c8 enc)).toArray:=by
  rw[List.filter_toArray,List.filter_map]
  congr 1
  unfold gK
  congr 1
  apply List.filter_congr;intro x _;simp only[Function.comp,c8,List.contains_toArray]
 have aK:∀x∈gK L seen,x.2.2<a:=λx hx=>c x (ia.1 hx).1;have hold:(((gK L seen).map (c8 enc)).toArray.filter λe=>decide (e.born<a))=((gK L seen).map (c8 enc)).toArray:=by
  rw[List.filter_toArray,List.filter_eq_self.2];intro e he;obtain⟨x,hx,rfl⟩:=dX.1 he;exact fF (aK x hx)
 have f:(((gK L seen).map (c8 enc)).toArray.filter λe=>decide (e.born>=a))= #[]:=by
  rw[List.filter_toArray,List.filter_eq_nil_iff.2];intro e he;obtain⟨x,hx,rfl⟩:=dX.1 he;have:=aK x hx;have B:¬a<=x.2.2:=by omega
  simp[c8,B]
 cases hl:gK L seen with
 |nil=>
  rw[hl]at d hold f;obtain⟨i,w1,hi,hc,b⟩:=GY P (n:=1) (bu _) w;have C:i=0:=by omega
  subst C;refine .inl ⟨rfl,w1,?_,?_,?_⟩
  .simp only[Instr.next,Sem.run_bind,CD h1,Result.andThen,lI h2,cW,gE,if_false,d,hold,f]
   simp only[List.map_nil,Array.isEmpty,List.size_toArray,fE,decide_true,if_true];have e:(#[none]++((#[]:Array MapEntry)++ #[]).map some:Array (aw MapEntry)).size=1:=by simp
   have a6:((#[none]++((#[]:Array MapEntry)++ #[]).map some:Array (aw MapEntry)))[0]? =some none:=by simp
   simp only[e,Sem.run_bind,hc,Result.andThen,a6,Sem.run_pure,Sem.run_pure]
  .rcases b with rfl|rfl
   .exact .refl _ _
   .exact af.drew (.refl _ _)
  .rcases b with rfl|rfl<;>rfl
 |cons y l=>
  right;rw[←hl];have s:1<=(gK L seen).length:=by rw[hl];simp
  obtain⟨i,w1,hi,hc,b⟩:=GY P (n:=(gK L seen).length) s w;have j:w1.heap=w.heap:=by rcases b with rfl|rfl<;>rfl
  obtain⟨x,hx⟩:∃x,x=(gK L seen)[i]:=⟨_,rfl⟩;have k:x∈gK L seen:=by rw[hx];exact dD _
  have t:x∈L:=(ia.1 k).1;have u:w1.heap[r]? =some (.mapIter (some m) a seen.toArray a):=by rw[j];exact h1
  have D:r<w1.heap.size:=(kO.1 u).1;have o:(iE w1 r (.mapIter (some m) a (seen.toArray.push x.2.2) a)).heap[r]? =some (.mapIter (some m) a (seen++ [x.2.2]).toArray a):=by
   rw[rP D];simp
  have p:(iE w1 r (.mapIter (some m) a (seen.toArray.push x.2.2) a)).heap[m]? =some (.map (L.map (c8 enc)).toArray a):=by
   have hm:w1.heap[m]? =some (.map (L.map (c8 enc)).toArray a):=by rw[j];exact h2
   rw[(qi w1 r _).block m (kO.1 hm).1 (λe=>A e.symm)];exact hm
  refine⟨x,k,iE w1 r (.mapIter (some m) a (seen.toArray.push x.2.2) a),?_,⟨⟨a,o,p,c⟩,g⟩,?_,?_,?_⟩
  .simp only[Instr.next,Sem.run_bind,CD h1,Result.andThen,lI h2,cW,gE,if_false,d,hold,f]
   have E:((gK L seen).map (c8 enc)).toArray.isEmpty=false:=by rw[hl];rfl
   have e:((#[]:Array (aw MapEntry))++(((gK L seen).map (c8 enc)).toArray++ #[]).map some).size=(gK L seen).length:=by simp
   have a6:((#[]:Array (aw MapEntry))++(((gK L seen).map (c8 enc)).toArray++ #[]).map some)[i]? =some (some (c8 enc x)):=by
    simp[hi,hx]
   simp only[E,gE,if_false,e,Sem.run_bind,hc,Result.andThen,a6,NF u,Sem.run_pure,c8]
  .have F:af (λq=>q=r) w w1:=by
    rcases b with rfl|rfl
    .exact .refl _ _
    .exact af.drew (.refl _ _)
   exact F.trans (qi _ _ _)
  .rw[rO,j]
  .have hb:(seen++ [x.2.2]).toArray.back? =some x.2.2:=by simp
   have hf:((L.map (c8 enc)).toArray.find? λe=>e.born==x.2.2)=some (c8 enc x):=by
    rw[List.find?_toArray,List.find?_map];have:L.find? ((λe:MapEntry=>e.born==x.2.2)∘c8 enc)=some x:=by
     clear hl s hi hc k hx o p d hold f aK cW h2 c
     induction L with
     |nil=>cases t
     |cons z L G=>
      rw[f_]at g;obtain⟨cx,bB⟩:=List.nodup_cons.1 g;rw[List.find?_cons];rcases c4.1 t with rfl|v
      .simp[c8]
      .have H:z.2.2≠x.2.2:=λe=>cx (by rw[e];exact dX.2 ⟨x,v,rfl⟩)
       have:((λe:MapEntry=>e.born==x.2.2)∘c8 enc) z=false:=by simp[c8,H]
       rw[this];exact G bB v
    rw[this];rfl
   have I:(a !=a)=false:=by simp
   simp only[Instr.entry,Sem.run_bind,CD o,Result.andThen,hb,lI p,I,gE,if_false,hf,Sem.run_pure,c8]
theorem cR.clear{M:Y (α×O)}(h:cR w m enc M){o:TypeId}(b:P.underlying T=some (.map gA kX)):∃w1,(Builtin.clear_ #[T] o #[.map (some m)]).run P w=.ok (.tuple #[]) w1/\cR w1 m enc ([]:Y (α×O))/\af (λq=>q=m) w w1/\w1.heap.size=w.heap.size:=by
 have aK:=h.lt;obtain⟨L,a,h1,h2,c,d,e⟩:=h;refine⟨iE w m (.map #[] a),?_,⟨[],a,rP aK _,by simp,by simp,by simp,by simp⟩,qi _ _ _,rO _ _ _⟩;unfold Builtin.clear_;simp only[tv,oF,Sem.run_bind,cL b,Result.andThen,lI h1,uc h1,Sem.run_pure]
end
theorem NG{w:I}{lb:Nat}{ls:Y dw}{T:TypeId}(h:a7 w lb (aI au ls).toArray T)(f:∀x∈ls,x.length=256){i:Nat}(hi:i<ls.length){x:dw}(hx:x.length=256):
 bE w ⟨lb,i*256,none⟩ (au x)/\a7 (setCells w ⟨lb,i*256,none⟩ 0 (au x)) lb (aI au (ls.set i x)).toArray T/\af (λq=>q=lb) w (setCells w ⟨lb,i*256,none⟩ 0 (au x)):=by
 have a:∀x∈ls,(au x).length=256:=λx hx=>by rw[c1];exact f x hx
 have hl:=m9 (c:=au) ls a;have b:(au x).length=256:=by rw[c1];exact hx
 have d:i*256+(au x).length<=(aI au ls).toArray.size:=by
  rw[List.size_toArray,hl,b];omega
 refine⟨a7.cl h _ _ d (g8 _),?_,af.iD (.refl _ _) _ 0⟩;have h0:=a7.kZ (o:=i*256) h (au x);have h1:=j6 (au x) (aI au ls).toArray (i*256) d;have h2:=F6 a hi x;rw[b]at h1;have g:(gn (aI au ls).toArray (i*256) (au x)).toList=aI au (ls.set i x):=h1.trans h2;have e:gn (aI au ls).toArray (i*256) (au x)=(aI au (ls.set i x)).toArray:=by rw[←g]
 rw[e]at h0;exact h0
theorem NH{α:Type}{L:Y (α×O×Nat)}{seen:Y Nat}{x:α×O×Nat}(h:x∈gK L seen):(gK L (seen++ [x.2.2])).length<(gK L seen).length:=by
 have e:gK L (seen++ [x.2.2])=(gK L seen).filter λy=> !(y.2.2==x.2.2):=by
  unfold gK;rw[List.filter_filter];apply List.filter_congr;intro y _;rw[hE];simp only[mL,dM,List.contains_eq_mem,ny,eL,dH,beq_eq_false_iff_ne];constructor
  .exact λh=>⟨λh2=>h (.inr h2),λh2=>h (.inl h2)⟩
  .rintro⟨h1,h2⟩ (a|a)
   .exact h2 a
   .exact h1 a
 rw[e];exact List.length_filter_lt_length_iff_exists.2 ⟨x,h,by simp⟩
def CE{α:Type}(L:Y (α×O×Nat))(r:Nat)(w:I):Nat:=match w.heap[r]? with
 |some (.mapIter _ _ seen _)=>(gK L seen.toList).length
 |_=>0
theorem k9.left{α:Type}{w:I}{r m:Nat}{enc:α->O}{L:Y (α×O×Nat)}{seen:Y Nat}(h:k9 w r m enc L seen):CE L r w=(gK L seen).length:=by
 obtain⟨⟨a,h1,_⟩,_⟩:=h;unfold CE;rw[h1]
theorem k9.ax{α:Type}{W:Nat->Prop}{w w':I}{r m:Nat}{enc:α->O}{L:Y (α×O×Nat)}{seen:Y Nat}(h:k9 w r m enc L seen)(hc:af W w w')(a:¬W r)(hm:¬W m):k9 w' r m enc L seen:=by
 obtain⟨⟨b,h1,h2,c⟩,d⟩:=h;exact⟨⟨b,by rw[hc.block r (kO.1 h1).1 a];exact h1,by rw[hc.block m (kO.1 h2).1 hm];exact h2,c⟩,d⟩
def bz.jS(D:bz):bz:={D with bX:=(List.range D.n).map D.now,waits:=[]}
theorem vt(D:bz):D.jS.n=D.n:=by simp[bz.jS,bz.n]
theorem CF(D:bz){i:Nat}(hi:i<D.n):D.jS.now i=D.now i:=by
 show((List.range D.n).map D.now).getD i []=_;rw[gg (by simp;exact hi)];simp
def NI(D:bz)(w:I)(v:O)(w':I):Prop:=
 (D.gW 3=true/\v=.int .i64 3/\dj w' (D.c9 3)/\af (λq=>q=D.d) w w')\/
 (D.gW 3=false/\v=.int .i64 0/\dj w' (D.c9 3).jS/\af (cm D) w w')
theorem CG{w:I}{D:bz}(h:dj w D)(bo:D.bV<=1000000000):aA ae 124 #[.pointer (some D.d)] w (NI D w):=by
 refine okF (Z.yc (some D.d)) ao.yc func124 ?_;(delta Z.yc ad pt br BG bx fk a_ hJ bc cd bn BP;dsimp only);refine⟨λh1=>(by cases h1),λ_=>⟨_,rfl,(F9 h (k:=3) (by decide)).use ?_⟩⟩;rintro _ ag ⟨rfl,g,ac,bp⟩;obtain⟨f,t⟩:∃f,f=D.c9 3:=⟨_,rfl⟩;have aT:f.d=D.d:=by rw[t];rfl
 have a6:f.lb=D.lb:=by rw[t];rfl
 have aF:f.mr=D.mr:=by rw[t];rfl
 have aG:f.n=D.n:=by rw[t];rfl
 have aH:cm f=cm D:=by rw[t];rfl
 have bq:f.bV=D.bV:=by rw[t];rfl
 rw[←t]at g;refine⟨_,rfl,λhb=>.inl ⟨hb,rfl,by rw[←t];exact g,ac⟩,λhb=>?_⟩;rw[←aT];have ah:=g.bB;obtain⟨L,aJ,ai,aj,ak,al,bs⟩:=k9.begin (P:=ae) g.m pr;obtain⟨r,aK⟩:∃r,r=ag.heap.size:=⟨_,rfl⟩;rw[←aK]at aj ak;have aM:r≠f.mr:=by have:=g.m.lt;omega
 have am:∀q,cm f q->q≠r:=λq E e=>by have:=g.lt E;omega
 have aN:∀x∈L,∃y∈f.waits,x.1=(y.i:Int):=λx hx=>by
  have:=ai.mem_iff.1 (dX.2 ⟨x,hx,rfl⟩);obtain⟨y,u,e⟩:=dX.1 this;refine⟨y,u,?_⟩;have:=congrArg Prod.fst e;exact this.symm
 have aO:∀y∈f.waits,∃x∈L,x.1=(y.i:Int):=λy u=>by
  have:y.e∈L.map nM:=ai.mem_iff.2 (dX.2 ⟨y,u,rfl⟩);obtain⟨x,hx,e⟩:=dX.1 this;exact⟨x,hx,congrArg Prod.fst e⟩
 refine⟨_,rfl,some f.mr,g.ml,_,aJ,aj,λw'=>∃ (seen:Y Nat) (ls:Y dw),k9 w' r f.mr encZ L seen/\dj w' {f with bX:=ls}/\ls.length=f.n/\(∀ (j:Nat) (F:j<ls.length),ls[j]=if ∃x∈L,x.2.2∈seen/\x.1=(j:Int) then f.now j else f.bX.getD j [])/\af (λq=>cm f q) ag w'/\aJ.heap.size<=w'.heap.size,
  CE L r,⟨[],f.bX,ak,g.ext al,rfl,λj F=>?_,af.bt al,bu _⟩,?_⟩
 .rw[if_neg (by rintro⟨x,_,h1,_⟩;cases h1),gg F]
 rintro an ⟨seen,ls,N,A,B,ku,H,bv⟩;have O:∀s∈ls,s.length=256:=A.sl;have bw:r<an.heap.size:=by omega
 have aQ:f.lb≠r:=am _ (.inr (.inl rfl));rcases N.next (P:=ae) aM 0 with ⟨aR,cN,Q,ap,bA⟩|⟨x,hx,aP,Q,aS,aq,bC,aU⟩
 .
  refine .inr ⟨cN,Q,λh=>(by cases h),λ_=>?_⟩;have K:=A.ext ap;obtain⟨aV,aW,aX,R,bD⟩:=cR.clear (P:=ae) (o:=0) K.m pr;refine⟨_,rfl,some f.mr,K.ml,_,aV,aW,.inr ⟨hb,rfl,?_,?_⟩⟩
  .have cW:∀x∈L,x.2.2∈seen:=λx hx=>by
    have:=List.filter_eq_nil_iff.1 aR x hx;simpa using this
   have aY:ls=(List.range D.n).map D.now:=by
    refine oJ (by simp[B,aG]) λj h1 h2=>?_;rw[ku j h1,List.getElem_map,List.getElem_range];have S:D.now j=f.now j:=by rw[t];rfl
    rw[S];split
    .rfl
    .rename_i aZ
     unfold bz.now
     cases hf:f.waits.find? λx=>x.i==j with
     |some y=>
      exfalso;have u:=lv hf;have a0:y.i=j:=by simpa using mP hf
      obtain⟨x,hx,e⟩:=aO y u;exact aZ ⟨x,hx,cW x hx,by rw[e,a0]⟩
     |none=>rfl
   have T:f.d≠f.mr:=g.a1.2.1;have a4:f.lb≠f.mr:=g.a1.2.2;have e:(D.c9 3).jS={f with bX:=ls,waits:=[]}:=by
    rw[aY,t];rfl
   rw[e];refine⟨K.v.ax R T,a7.ax K.l R a4,aX,λx hx=>(by cases hx),λx hx=>(by cases hx),O,λx hx=>(by cases hx),?_,?_,A.f4,A.fr,A.a1,λx hx=>(by cases hx),λx hx=>(by cases hx),A.r⟩
   .show 16<=ls.length;rw[B];exact g.cx
   .show ls.length<=1600;rw[B];exact ah
  .have a5:cm D D.d:=.inl rfl
   have hc:af (λq=>cm D q) w ag:=ac.mono λq _ e=>by rw[e];exact a5
   have H:af (λq=>cm D q) ag an:=by rw[←aH];exact H
   have a8:=de hc H λq _ h=>h;have a9:=de a8 ap λq _ h=>h.elim;exact de a9 R λq _ e'=>by rw[e',aF];exact .inr (.inr (.inl rfl))
 .
  have U:x∈L:=(ia.1 hx).1;have bE:x.2.2∉seen:=by
   have:=(ia.1 hx).2;simpa using this
  obtain⟨y,u,V⟩:=aN x U;have ba:=A.ax aq λq E=>am q E;have hi:y.i<f.n:=(g.wn y u).2.1;have bb:y.i<ls.length:=by omega
  refine .inl ⟨_,_,aP,Q,λ_=>⟨(y.i:Int),x.2.1,aP,?_,?_⟩,λh=>(by cases h)⟩
  .rw[aU]
   have e:encZ x.1=y.i:=by rw[V]
   rw[e]
  have av:=bH aP;have W:=ba.ext av;have bd:({f with bX:=ls}:bz).n=f.n:=B;refine aL ⟨λ_=>False,_,rfl,id,⟨some f.lb,ls.length,ls.length⟩,W.eW,(Mz (i:=y.i) W (by rw[bd];exact hi) (by show f.bV<=_;omega)).use ?_⟩;rintro _ bk ⟨rfl,X⟩;have p:=W.ext X;have S:({f with bX:=ls}:bz).now y.i=f.now y.i:=by
   unfold bz.now
   cases hf:f.waits.find? λx=>x.i==y.i with
   |some z=>rfl
   |none=>
    have:=oL.1 hf y u;simp at this
  have aa:(f.now y.i).length=256:=g.F8 hi;rw[S];have ar:Addr.add f.lb (Int.toNat (y.i:Int)*256)=⟨f.lb,y.i*256,none⟩:=by rw[eR,az,b3]
  obtain⟨bU,b1,be⟩:=NG p.l O bb aa;refine⟨_,rfl,X,_,rfl,⟨J,by show(y.i:Int)<(ls.length:Int);omega⟩,by rw[ar];exact bU,by simp[c1,aa],?_⟩;rw[ar];refine aL ?_;show _/\_;have aw:a7 (setCells bk ⟨f.lb,y.i*256,none⟩ 0 (au (f.now y.i)).toArray.toList) f.lb (aI au (ls.set y.i (f.now y.i))).toArray 276:=b1;have C:af (λq=>q=f.lb) bk (setCells bk ⟨f.lb,y.i*256,none⟩ 0 (au (f.now y.i)).toArray.toList):=be;generalize setCells bk ⟨f.lb,y.i*256,none⟩ 0 (au (f.now y.i)).toArray.toList=ay at aw C;have ab:=Ext.trans av X;have aB:=(aS.ax ab id id).ax C (λe=>aQ e.symm) λe=>g.a1.2.2 e.symm;have bf:af (λq=>cm f q) ag ay:=by
   have h1:af (λq=>cm f q) ag aP:=de H aq λq E e=>by omega
   have h2:=de h1 ab λq _ h=>h.elim;exact de h2 C λq _ e=>by rw[e];exact .inr (.inl rfl)
  have bF:=ab.size;have bG:=C.size;have bg:dj ay {f with bX:=ls.set y.i (f.now y.i)}:=by
   have T:f.d≠f.lb:=g.a1.1;refine⟨?_,aw,p.m.ax C λe=>g.a1.2.2 e.symm,λx hx=>(p.ws x hx).ax C λq E e=>(p.a2 x hx).2.1 (by rw[←e];exact E),?_,λs bh=>?_,p.cC,?_,?_,p.f4,p.fr,p.a1,p.a2,p.a3,p.r⟩
   .have h1:=p.v.ax C T
    have e:({f with bX:=ls.set y.i (f.now y.i)}:bz).c=({f with bX:=ls}:bz).c:=by unfold bz.c;simp
    rw[e];exact h1
   .intro z bi
    have:=p.wn z bi;refine⟨this.1,?_,this.2.2⟩;show z.i<(ls.set y.i (f.now y.i)).length;rw[dU];exact this.2.1
   .rcases pY bh with h1|rfl
    .exact O s h1
    .exact aa
   .show 16<=(ls.set y.i (f.now y.i)).length;rw[dU,B];exact g.cx
   .show(ls.set y.i (f.now y.i)).length<=1600;rw[dU,B];exact ah
  refine⟨⟨seen++ [x.2.2],_,aB,bg,by rw[dU];exact B,λj F=>?_,bf,J⟩,?_⟩
  .rw[dU]at F
   rw[rh];split
   .rename_i e
    subst e;rw[if_pos ⟨x,U,by simp,V⟩]
   .rename_i bj
    rw[ku j F];have:(∃G∈L,G.2.2∈seen/\G.1=(j:Int))↔∃G∈L,G.2.2∈seen++ [x.2.2]/\G.1=(j:Int):=by
     constructor
     .rintro⟨z,h1,h2,M⟩
      exact⟨z,h1,tx _ h2,M⟩
     .rintro⟨z,h1,h2,M⟩
      rcases eL.1 h2 with h2|h2
      .exact⟨z,h1,h2,M⟩
      .have bl:z=x:=by
        have aC:=N.cU;obtain⟨a,aD,rfl⟩:=fQ h1;obtain⟨b,hb,rfl⟩:=fQ U;have aE:=dH.1 h2;have bm:a=b:=by
         rcases Nat.lt_trichotomy a b with h|h|h
         .have:=tz.1 aC a b (by simpa using aD) (by simpa using hb) h
          simp at this;exact absurd aE this
         .exact h
         .have:=tz.1 aC b a (by simpa using hb) (by simpa using aD) h
          simp at this;exact absurd aE.symm this
        subst bm;rfl
       rw[bl,V]at M;exact absurd J bj
    simp only[this]
  .rw[aB.left,N.left]
   exact NH hx
structure dG where
 ay:Nat
 batch:Nat
 iX:Nat
def dG.c(l:dG):Y O:=[l.ay,l.batch,.int .u64 (l.iX:Nat)]
def pC(f b d:Int):Prop:=8<=f/\f<=64/\1<=b/\b<=1000/\1<=d/\d<=1048576
instance RA(f b d:Int):Decidable (pC f b d):=by unfold pC;infer_instance
section
variable {w w':I}{D:bz}
theorem qx(w:I)(p:aw av)(f b d:Int):aA ae 118 #[.pointer p,.agg #[f,b,.int .u64 d]] w (λv w'=>v=.bool (!(Option.isNone p)&&decide (pC f b d))/\Ext w w'):=by
 refine okF (Z.qx p f b d) ao.qx func118 ?_;(delta Z.qx aZ ad aY aa bh dY di;dsimp only);refine aU (vs:=[f,b,.int .u64 d]) rfl λw1 c hx o=>?_;refine bL (λx w'=>x=(!(Option.isNone p)&&decide (8<=f))/\w1=w') (λq a=>⟨λh=>⟨f,c.cell,a _ _ ⟨by rw[h,jf],rfl⟩⟩,λh=>a _ _ ⟨by rw[h,mO],rfl⟩⟩) ?_;rintro e _ ⟨h1,rfl⟩;refine bL (λx w'=>x=(e&&decide (f<=64))/\w1=w') (λq a=>⟨λh=>⟨f,c.cell,a _ _ ⟨by rw[h,jf],rfl⟩⟩,λh=>a _ _ ⟨by rw[h,mO],rfl⟩⟩) ?_;rintro cf _ ⟨h2,rfl⟩;refine bL (λx w'=>x=(cf&&decide (1<=b))/\w1=w') (λq a=>⟨λh=>⟨b,by rw[az];exact c.cell,a _ _ ⟨by rw[h,jf],rfl⟩⟩,λh=>a _ _ ⟨by rw[h,mO],rfl⟩⟩) ?_;rintro g _ ⟨i,rfl⟩;refine bL (λx w'=>x=(g&&decide (b<=1000))/\w1=w') (λq a=>⟨λh=>⟨b,by rw[az];exact c.cell,a _ _ ⟨by rw[h,jf],rfl⟩⟩,λh=>a _ _ ⟨by rw[h,mO],rfl⟩⟩) ?_;rintro j _ ⟨k,rfl⟩;refine bL (λx w'=>x=(j&&decide (1<=d))/\w1=w') (λq a=>⟨λh=>⟨d,by rw[az];exact c.cell,a _ _ ⟨by rw[h,jf],rfl⟩⟩,λh=>a _ _ ⟨by rw[h,mO],rfl⟩⟩) ?_;rintro l _ ⟨m,rfl⟩;refine bL (λx w'=>x=(l&&decide (d<=1048576))/\w1=w') (λq a=>⟨λh=>⟨d,by rw[az];exact c.cell,a _ _ ⟨by rw[h,jf],rfl⟩⟩,λh=>a _ _ ⟨by rw[h,mO],rfl⟩⟩) ?_;rintro r _ ⟨n,rfl⟩;refine⟨?_,hx⟩;rw[n,m,k,i,h2,h1,Value.bool.injEq,hE];simp only[dM,dN,and_assoc];exact Iff.rfl
theorem Ae{D:bz}{no:Nat}{s:ai}{l:dw}{N:Nat}(a:∀q,aN s q->cm D q\/N<=q):∀q,cm (D.put no s l) q->cm D q\/N<=q:=by
 rintro q (e|e|e|⟨x,hx,e⟩)
 .exact .inl (.inl e)
 .exact .inl (.inr (.inl e))
 .exact .inl (.inr (.inr (.inl e)))
 .rcases c4.1 hx with rfl|hx
  .exact a q e
  .exact .inl (.inr (.inr (.inr ⟨x,(ia.1 hx).1,e⟩)))
def NJ(D:bz)(u:eX)(gen:Nat)(w:I)(v:O)(w':I):Prop:=
 af (cm D) w w'/\((D.gW 2=true/\v=.int .i64 3/\dj w' (D.c9 2))\/
 (D.gW 2=false/\∃s:ai,(∀q,aN s q->cm D q\/w.heap.size<=q)/\∃a:bz,a=D.put (gen%2) s (eI (gen%2) (kE u D.n gen))/\
   ((a.gW 3=true/\v=.int .i64 3/\dj w' (a.c9 3))\/(a.gW 3=false/\v=.int .i64 0/\dj w' (a.c9 3).jS))))
theorem o8(h:dj w D)(M:D.bV<=999999999){u:eX}(hu:pv u){gen:Nat}(hg:gen<18446744073709551616):
 aA ae 125 #[.pointer (some D.d),.agg u.c.toArray,.int .u64 (gen:Nat)] w (NJ D u gen w):=by
 have N:=h.cx;have O:=h.bB;refine Z.Ki _ (u.root:Nat) (u.bN:Nat) (u.map:Nat) (u.clock:Nat) (u.dt:Nat) (u.keys:Nat) (gen:Nat) w _ ?_;(delta Z.o8 aZ bx aa aY bh dY di bG bl eD ak ad;dsimp only);have hm:IntKind.wrap .i64 (Int.tmod (gen:Int) 2)=((gen%2:Nat):Int):=by
  rw[nz J,bF J J];omega
 refine aU (vs:=u.c) rfl λw1 z g P=>⟨by decide,?_⟩;have a:=bH w1;have A:=z.ext a;have B:=h.ext (g.trans a);refine aL ⟨λ_=>False,id,sV A ((zZ B).use ?_)⟩;rintro _ _ ⟨rfl,rfl⟩;refine⟨_,rfl,af.refl _ _,(si hu (n:=D.n) J).use ?_⟩;rintro _ C ⟨j,rfl,E,r,Q⟩;rw[hm];refine⟨j,rfl,λ_=>False,#[(3:Int),.int .u64 (gen:Nat),j],λbd=>by kernel_rfl,(zU (s:=j) (p:=kE u D.n gen) E.src J (Cl hg)).use ?_⟩;rintro _ R ⟨F,rfl,G,t,H⟩;have b:=(g.trans a).trans (Ext.trans r t);have I:=h.ext b;have S:=b.size;have K:(eI (gen%2) (kE u D.n gen)).length=256:=vh _ (Cl hg);have T:w.heap.size<=C.heap.size:=by have:=(g.trans a).size;have:=r.size;omega
 refine⟨F,0,rfl,t,λh=>(by cases h),λ_=>(z1 I (i:=gen%2) J J G.src K λq f hf=>by have:=H q f;have:=h.lt hf;omega).use ?_⟩;rintro _ b8 (⟨hb,rfl,hd,hc⟩|⟨hb,rfl,s,hd,hc,v⟩)
 .exact⟨3,rfl,λ_=>⟨de (b.mono λ_ _ h=>h.elim) hc λq _ e=>by rw[e];exact .inl rfl,.inl ⟨hb,rfl,hd⟩⟩,λh=>(by cases h)⟩
 .have x:af (cm D) w b8:=de (b.mono λ_ _ h=>h.elim) hc λq _ e=>e
  have L:=Ae (no:=gen%2) (l:=eI (gen%2) (kE u D.n gen)) v;refine⟨0,rfl,λh=>(by cases h),λ_=>(CG hd (by show D.bV+1<=_;omega)).use ?_⟩;have y:∀q,aN s q->cm D q\/w.heap.size<=q:=λq f=>(v q f).imp id λh=>by omega
  rintro _ U (⟨k,rfl,m,o⟩|⟨k,rfl,m,o⟩)
  .exact⟨3,rfl,de x o λq _ e=>by rw[e];exact .inl rfl,.inr ⟨hb,s,y,_,rfl,.inl ⟨k,rfl,m⟩⟩⟩
  .exact⟨0,rfl,de x o λq f e=>(L q e).resolve_right J,.inr ⟨hb,s,y,_,rfl,.inr ⟨k,rfl,m⟩⟩⟩
end
section
variable {w w':I}{C:cv}{X:Nat->Prop}
def Fr.ir(f:Fr):ah:=f.full&&f.gJ
theorem NK:iA ae 335:=⟨Tryz.f335,func335,by kernel_rfl,by kernel_rfl⟩
theorem NL(f:Fr)(w:I):aA ae 335 #[.agg #[f.full,f.gJ,f.used,f.no,f.pins,f.b]] w (λv w'=>v=f.ir/\Ext w w'):=by
 refine okF (Z.za f.full f.gJ f.used f.no f.pins f.b) ao.za func335 ?_;(delta Z.za bq aa ad cT;dsimp only);refine aU (vs:=f.c) rfl λw1 a hx e=>⟨f.full,a.cell,bL (λb w'=>b=f.ir/\w1=w') (λq d=>⟨λh=>⟨f.gJ,by rw[az];exact a.cell,d _ _ ⟨by unfold Fr.ir;rw[h];rfl,rfl⟩⟩,λh=>d _ _ ⟨by unfold Fr.ir;rw[h];rfl,rfl⟩⟩) ?_⟩;rintro _ _ ⟨rfl,rfl⟩;exact⟨rfl,hx⟩
def k_(fs:Y Fr):Y Int:=(fs.filter Fr.ir).map Fr.no
theorem NM(h:fV w C):aA ae 284 #[.pointer (some C.c)] w (λv w'=>∃ (s:ai) (zs:Y Int),v=s/\aR 1 3 w' s (zs.map encZ)/\zs.Perm (k_ C.ay)/\Ext w w'/\∀q,aN s q->w.heap.size<=q):=by
 obtain⟨en,b2,bQ⟩:=h.cells
 have V:=h.b1
 refine okF (Z.yS (some C.c)) ao.yS func284 ?_
 (delta Z.yS bl;dsimp only)
 refine Calls.mono (Z.KJ (some C.c) ⟨335,#[],#[]⟩ w (λv w'=>∃ (s:ai) (zs:Y Int),v=s/\aR 1 3 w' s (zs.map encZ)/\zs.Perm (k_ C.ay)/\Ext w w'/\∀q,aN s q->w.heap.size<=q) ?_) ?_
 · (delta Z.va ad pt a_ jI bc cd bq bn aY b7 aa cT bh bD ap ak dc;dsimp only)
   refine⟨λh=>(by cases h),λ_=>⟨_,rfl,⟨some C.ba,C.ay.length,C.ay.length⟩,b2,λs n w'=>∃i:Nat,n=(i:Int)/\i<=C.ay.length/\aR 1 3 w' s ((k_ (C.ay.take i)).map encZ)/\Ext w w'/\∀q,aN s q->w.heap.size<=q,λ_ n _=>((C.ay.length:Int)-n).toNat,⟨0,rfl,dC _,by simpa[k_] using aR.none 1 3 w,.refl _ _,λq e=>(gb q e).elim⟩,?_⟩⟩
   rintro s _ p ⟨i,rfl,hi,a,hx,g⟩
   have A:=h.ext hx
   refine⟨λaK=>?_,λB=>?_⟩
   · have r:i<C.ay.length:=by
       have:(i:Int)<(C.ay.length:Int):=bI aK
       omega
     obtain⟨f,hf⟩:∃f,f=C.ay[i]:=⟨_,rfl⟩
     have W:(k_ (C.ay.take i)).length<=64:=by
       unfold k_
       rw[eM]
       have:=List.length_filter_le Fr.ir (C.ay.take i)
       rw[fP]at this;omega
     have t:k_ (C.ay.take (i+1))=k_ (C.ay.take i)++(if f.ir then [f.no] else []):=by
       unfold k_
       rw[kR r,List.filter_append,fv,←hf,List.filter_cons,List.filter_nil]
       congr 1
       split<;>rfl
     refine bL (λs w'=>aR 1 3 w' s ((k_ (C.ay.take (i+1))).map encZ)/\Ext w w'/\∀q,aN s q->w.heap.size<=q) (λq e=>?_) ?_
     · have hc:∀j,j<6->p.cell? ⟨C.ba,i*6+j,none⟩=(f.c)[j]? :=λj D=>by rw[hf];exact lU A.f r D
       refine⟨_,rfl,⟨J,by show(i:Int)<(C.ay.length:Int);omega⟩,?_⟩
       rw[vp]
       refine⟨f.full,hc 0 (by decide),f.gJ,by rw[az];exact hc 1 (by decide),f.used,by rw[az];exact hc 2 (by decide),f.no,by rw[az];exact hc 3 (by decide),f.pins,by rw[az];exact hc 4 (by decide),f.b,by rw[az];exact hc 5 (by decide),?_⟩
       refine aU (vs:=[false,false,false,(0:Int),(0:Int),()]) rfl λX u E ab=>⟨u.cl rfl (λv l=>?_),rfl,cY u (us:=f.c) rfl rfl λy d F ac=>?_⟩
       · simp only[c4,g1,hF]at l
         rcases l with rfl|rfl|rfl|rfl|rfl|rfl<;>trivial
       have G:Ext p y:=Ext.bR E F (bu _)
       refine⟨f.full,d.cell,f.gJ,by rw[az];exact d.cell,f.used,by rw[az];exact d.cell,f.no,by rw[az];exact d.cell,f.pins,by rw[az];exact d.cell,f.b,by rw[az];exact d.cell,NK,(NL f y).use ?_⟩
       rintro _ m ⟨rfl,z⟩
       have k:=Ext.trans G z
       have H:=d.ext z
       refine⟨_,rfl,λhd=>⟨f.no,by rw[az];exact H.cell,aL ?_⟩,λhd=>e _ _ ⟨?_,Ext.trans hx k,g⟩⟩
       · have o:Ext m (m.alloc (.cells #[encZ f.no] 3)):=bZ _ _
         obtain⟨I,K,aS,bf,_,L,M⟩:=Cc.append (cX:=88) (x:=⟨some m.heap.size,1,1⟩) (Src.new (T:=3) m [encZ f.no] 1 rfl) ((a.ext k).ext o) (λv l=>by rw[dH.1 l];trivial) (by
           have:s.len=(k_ (C.ay.take i)).length:=by
             have:=a.1
             rw[eM]at this;omega
           show(2*(s.len+1)+1000)*8<=_;omega)
         refine⟨I,K,aS,e _ _ ⟨?_,?_,λq e=>?_⟩⟩
         · rw[t,hd,if_pos rfl,fv];exact bf
         · exact Ext.dE (Ext.trans (Ext.trans hx k) o) L g
         · rcases M q e with h1|h1
           · exact g q h1
           · have:=(Ext.trans hx k).size
             have:=o.size;omega
       · rw[t,hd]
         simp only[gE,if_false,lu]
         exact a.ext k
     · rintro af ag ⟨h1,h2,N⟩
       have O:IntKind.wrap .i64 ((i:Int)+1)=((i+1:Nat):Int):=by rw[bF J J];omega
       rw[O]
       exact⟨⟨i+1,rfl,J,h1,h2,N⟩,by show((C.ay.length:Int)-((i+1:Nat):Int)).toNat<((C.ay.length:Int)-(i:Int)).toNat;omega⟩
   · have P:i=C.ay.length:=by
       have:¬(i:Int)<(C.ay.length:Int):=ck B
       omega
     rw[P,jg]at a
     refine(Gj a (by
       unfold k_
       rw[eM]
       have:=List.length_filter_le Fr.ir C.ay;omega)).use ?_
     rintro _ b5 ⟨rfl,Q,zs,R,S⟩
     exact⟨rfl,s,zs,rfl,R,S.1,Ext.dE hx Q g,g⟩
 · rintro _ w1 ⟨_,rfl,s,zs,rfl,a,U,hx,hf⟩
   exact⟨s,rfl,s,zs,rfl,a,U,hx,hf⟩
end
section
variable {w w':I}{C:cv}{X:Nat->Prop}
theorem NN{D:bz}{no:Nat}{s:ai}{l:dw}{N:Nat}(a:∀q,aN s q->cm D q\/N<=q):∀q,cm (D.put no s l) q->cm D q\/N<=q:=by
 rintro q (e|e|e|⟨x,hx,e⟩)
 .exact .inl (.inl e)
 .exact .inl (.inr (.inl e))
 .exact .inl (.inr (.inr (.inl e)))
 .rcases c4.1 hx with rfl|hx
  .exact a q e
  .exact .inl (.inr (.inr (.inr ⟨x,(ia.1 hx).1,e⟩)))
theorem fV.sE{a8:bz}(h:fV w C)(hd:dj w' a8)(e:a8.d=C.D.d)(hc:af (cm C.D) w w')(hf:∀q,cm a8 q->cm C.D q\/w.heap.size<=q):fV w' {C with D:=a8}:=by
 have h1:=h.v.ax hc h.a1.2.1;rw[←e]at h1;have a:C.c<w.heap.size:=h.v.lt;have b:C.ba<w.heap.size:=a7.lt h.f;refine⟨h1,a7.ax h.f hc h.a1.2.2,hd,h.bU,h.b1,h.hd,h.a1.1,λg=>?_,λg=>?_⟩
 .rcases hf _ g with g|g
  .exact h.a1.2.1 g
  .have g:w.heap.size<=C.c:=g
   omega
 .rcases hf _ g with g|g
  .exact h.a1.2.2 g
  .have g:w.heap.size<=C.ba:=g
   omega
def cv.wrote(C:cv)(i no:Nat)(hi:i<C.ay.length)(s:ai):cv:={C with ay:=C.ay.set i {C.ay[i] with gJ:=false},D:=C.D.put no s (C.ay[i]).l}
theorem NO(h:ep X w C){i no:Nat}(hi:i<C.ay.length)(hf:(C.ay[i]).full=true)(p:(C.ay[i]).no=no){s:ai}(F:¬C.D.cc no=true)(hd:dj w' (C.D.put no s (C.ay[i]).l))(hc:af (cm C.D) w w')(R:∀q,aN s q->cm C.D q\/w.heap.size<=q):
 (∃u:O,w'.cell? ⟨C.ba,i*6+1,none⟩=some u)/\w'.frozen? ⟨C.ba,i*6+1,none⟩=false/\ep X (w'.setCell ⟨C.ba,i*6+1,none⟩ false) (C.wrote i no hi s)/\
   e4 C (C.wrote i no hi s) w (w'.setCell ⟨C.ba,i*6+1,none⟩ false) 1/\∀j,(C.wrote i no hi s).view j=C.view j:=by
 have x:=NN (no:=no) (l:=(C.ay[i]).l) R;obtain⟨a8,r⟩:∃a8,a8=C.D.put no s (C.ay[i]).l:=⟨_,rfl⟩;have z:∀j,a8.now j=if j=no then (C.ay[i]).l else C.D.now j:=by rw[r];exact qQ _ _ _ _
 have G:a8.d=C.D.d:=by rw[r];rfl
 have S:a8.n=C.D.n:=by rw[r];rfl
 have T:a8.key=C.D.key:=by rw[r];exact GD C.D F
 have H:lT a8 C.D:=by rw[r];exact GC h.inv F
 have ag:a8.bV=C.D.bV+1:=by rw[r];rfl
 have U:∀m,C.D.calm (m+1)->a8.calm m:=λm hm=>by rw[r];exact(lR (.inr rfl) h.raw.dev.f4 hm).1
 unfold cv.wrote;rw[←r]at hd x⊢;have I:=h.raw.sE hd G hc x;obtain⟨a1,a2,a3,a4⟩:=qV I.f hi (j:=1) (by decide) (v:=false) {C.ay[i] with gJ:=false} rfl;obtain⟨f',g⟩:∃f':Fr,f'={C.ay[i] with gJ:=false}:=⟨_,rfl⟩;rw[←g]at a3⊢;refine⟨a1,a2,?_⟩;generalize w'.setCell ⟨C.ba,i*6+1,none⟩ false=A at a3 a4;have E:af (dx C) w A:=de (hc.mono λq _ e=>.inr (.inr e)) a4 λq _ e=>.inr (.inl e);obtain⟨t,aS,bf,W,Y,ah,aj,Z⟩:=h.inv.ok _ (dD hi) hf;have aa:t=no:=by rw[p]at aS;omega
 subst aa;obtain⟨a,o⟩:∃a:cv,a={C with ay:=C.ay.set i dL,D:=a8}:=⟨_,rfl⟩;have h1:hM X A a:=by
  rw[o];exact Cv (V:=dx C) hi h.inv E (λ_ _ h=>h) H (λj y=>by rw[z,if_neg λe=>y hf (by rw[p,e])]) x dL rfl rfl
 have v1:∀j,a.view j=C.view j:=λj=>by
  rw[o];exact GB hi h.inv (λ_ j y=>by rw[z,if_pos (by rw[p]at y;omega)]) (λj y=>by rw[z,if_neg λe=>y hf (by rw[p,e])]) dL rfl j
 have B:a.ay=C.ay.set i dL:=by rw[o]
 have K:i<a.ay.length:=by rw[B,dU];exact hi
 have L:∀ (k:Nat) (ab:k<a.ay.length),k≠i->(a.ay[k]).full=true->(a.ay[k]).no≠t:=λk ab M h2 N=>by
  simp only[B,fG (Ne.symm M)]at h2 N;exact M (h.inv.un k i _ hi h2 hf (by rw[N,p]))
 have a6:C.ay.set i f'=a.ay.set i f':=by rw[B,set_set]
 have P:({C with ay:=C.ay.set i f',D:=a8}:cv)={a with ay:=a.ay.set i f',D:=a8}:=by rw[a6,o]
 have ac:c5 (λq=>¬dx {C with ay:=C.ay.set i f',D:=a8} q/\¬X q) A f'.b f'.l:=by
  rw[g];refine c5.re W E (λq _ Q=>Q.1) λq Q hb=>⟨λhh=>hb.1 ?_,hb.2⟩;rcases hh with hh|hh|hh
  .exact .inl hh
  .exact .inr (.inl hh)
  .exact .inr (.inr ((x q hh).resolve_right J))
 have h2:hM X A {C with ay:=C.ay.set i f',D:=a8}:=by
  rw[P];refine GH (C:=a) (no:=t) (V:=λ_=>False) K h1 (.refl _ _) (λ_ _ h=>h.elim) (by rw[o];exact⟨rfl,λ_ h=>h,H.2.2⟩) (λj=>by rw[o]) (λq=>by rw[o]) f' (by rw[g];exact hf) (by rw[g];exact h.inv.pins (C.ay[i]) (dD hi)) ⟨by rw[g];exact p,by show t<a8.n;rw[S];exact bf,by rw[←P];exact ac,by rw[g];exact Y,λ_=>?_,λ_=>by rw[g],Z⟩ L;show f'.l=a8.now t;rw[z,if_pos rfl,g]
 have ad:∀j,({C with ay:=C.ay.set i f',D:=a8}:cv).view j=C.view j:=λj=>by
  have ae:({C with ay:=C.ay.set i f',D:=a8}:cv)=cv.mk a.c a.ba (a.ay.set i f') C.hand a8:=by rw[a6,o]
  rw[ae,GI (C:=a) (hd:=C.hand) (a8:=a8) (no:=t) K h1.un (λj=>by rw[o]) f' (by rw[g];exact hf) (by rw[g];exact p) (λhh=>by simp only[B,jh]at hh;cases hh) L j,v1];split
  .rename_i e
   subst e;have:=pz (fs:=C.ay) (D:=C.D) (c:=C.c) (ba:=C.ba) (hd:=C.hand) h.inv.un hi hf p;rw[g];exact this.symm
  .rfl
 refine⟨⟨?_,h2⟩,⟨rfl,G,by show(C.ay.set i _).length=_;rw[dU],T,by show a8.bV<=_;omega,U,E,?_⟩,ad⟩
 .refine Cw (C:={C with D:=a8}) I a4 a3
 .rintro q (e|e|e)
  .exact .inl (.inl e)
  .exact .inl (.inr (.inl e))
  .exact(x q e).imp (λh=>.inr (.inr h)) id
theorem CH{a8:bz}(h:ep X w C)(hd:dj w' a8)(e:a8.d=C.D.d)(b:lT a8 C.D)(a:∀i,a8.now i=C.D.now i)(hc:af (cm C.D) w w')(hf:∀q,cm a8 q->cm C.D q\/w.heap.size<=q):ep X w' {C with D:=a8}/\∀j,({C with D:=a8}:cv).view j=C.view j:=
 ⟨⟨h.raw.sE hd e hc hf,Ct (C:=C) (hd:=C.hand) h.inv (kd.refl _) (hc.mono λq _ e=>.inr (.inr e)) (λ_ _ h=>h) b a hf⟩,λj=>Cu (C:=C) (hd:=C.hand) h.inv (kd.refl _) a j⟩
theorem NP(h:ep X w C)(hc:∀f∈C.ay,f.ir=false)(j:Nat):C.view j=C.D.now j:=by
 unfold cv.view
 cases b:C.ay.find? λf=>f.full&&f.no==(j:Int) with
 |none=>rfl
 |some f=>
  have hm:=lv b;have a:=mP b;simp only[dM,jY]at a;obtain⟨no,aS,bf,d,g,c⟩:=h.inv.ok f hm a.1;have h1:=hc f hm;unfold Fr.ir at h1;rw[a.1,jf]at h1;have e:no=j:=by rw[a.2]at aS;omega
  rw[←e];exact c h1
theorem GZ{D:bz}(h:dj w D)(i:Nat):D.jS.now i=D.now i:=by
 by_cases hi:i<D.n
 .exact CF D hi
 .have h1:D.now i=[]:=by
   unfold bz.now
   cases hf:D.waits.find? λx=>x.i==i with
   |some x=>
    have hx:=lv hf;have he:x.i=i:=by simpa using mP hf
    have:=(h.wn x hx).2.1;omega
   |none=>
    have:¬i<D.bX.length:=hi;show D.bX.getD i []=[];rw[l8,nD J];rfl
  rw[h1];show((List.range D.n).map D.now).getD i []=[];rw[l8,nD (by simp;omega)];rfl
theorem vu(D:bz){m:Nat}(h:D.calm m):(D.c9 3).calm m:=by
 unfold bz.calm bz.c9 at*;simpa[l8] using h
theorem e4.r1{C b9:cv}{w w':I}{k:Nat}(h:e4 C b9 w w' k):b9.D.r1=C.D.r1:=congrArg (λk:(Y dw×(Nat->ah)×(Nat->Y dw)×(Int->Prop)×ah)×Int=>k.1.2.2.2.2) h.bX
structure NQ(X:Nat->Prop)(C b9:cv)(w:I)(v:O)(w':I):Prop where
 at_:ep X w' b9
 c:b9.c=C.c
 d:b9.D.d=C.D.d
 len:b9.ay.length=C.ay.length
 n:b9.D.n=C.D.n
 cc:b9.D.cc=C.D.cc/\b9.D.ek=C.D.ek
 r:b9.D.r1=C.D.r1
 bV:b9.D.bV<=C.D.bV+64
 calm:∀m,C.D.calm (m+64)->b9.D.calm m
 ax:af (dx C) w w'
 dS:∀q,dx b9 q->dx C q\/w.heap.size<=q
 view:∀j,b9.view j=C.view j
 kB:(v=.int .i64 0/\b9.D.waits=[]/\(∀f∈b9.ay,f.ir=false)/\b9.D.cg.getD 3 0=(g9 (C.D.cg.getD 3 0)).2)\/(v=.int .i64 3/\b9.D.bX=C.D.bX/\(¬C.D.calm 64\/C.D.gW 3=true))
theorem NR(h:ep X w C)(aU:C.D.bV<=999999900)(aj:∀j,C.D.cc j=true->C.D.ek j=[]):aA ae 232 #[.pointer (some C.c)] w (λv w'=>∃b9,NQ X C b9 w v w'):=by
 have aV:=h.raw.b1;refine okF (Z.yE (some C.c)) ao.yE func232 ?_;(delta Z.yE ad bl c3 bc cd aY bn gH pt a_ bG st ak;dsimp only);refine⟨λh=>(by cases h),λ_=>(NM h.raw).use ?_⟩;rintro _ w1 ⟨s,zs,rfl,F,L,U,al⟩;have hlen:s.len=zs.length:=by have:=F.1;rw[eM]at this;omega
 have aW:zs.length<=64:=by
  rw[L.length_eq];unfold k_;rw[eM];have:=List.length_filter_le Fr.ir C.ay;omega
 have h1:=h.ext U;have am:∀z∈zs,∀no:Nat,(no:Int)=z->¬C.D.cc no=true:=λz t no aX F=>by
  obtain⟨f,hf,e⟩:=dX.1 (L.mem_iff.1 t);obtain⟨h2,u⟩:=ia.1 hf;unfold Fr.ir at u;rw[dM]at u;obtain⟨m,bU,_,_,_,_,V,an⟩:=h.inv.ok f h2 u.1;have:m=no:=by rw[e]at bU;omega
  subst this;rw[V F]at u
  cases u.2
 refine⟨s,rfl,λn w'=>∃ (i:Nat) (g:cv),n=(i:Int)/\i<=zs.length/\ep X w' g/\e4 C g w w' i/\(∀j,g.view j=C.view j)/\aR 1 3 w' s (zs.map encZ)/\(∀f∈g.ay,f.ir=true->f.no∈zs.drop i)/\(∀z∈zs,∃f∈g.ay,f.full=true/\f.no=z)/\∀q,dx g q->¬aN s q,
  λn _=>((zs.length:Int)-n).toNat,⟨0,C,rfl,dC _,h1,e4.ext C U,λ_=>rfl,F,λf hf hd=>?_,λz t=>?_,λq o M=>?_⟩,?_⟩
 .exact L.mem_iff.2 (dX.2 ⟨f,ia.2 ⟨hf,hd⟩,rfl⟩)
 .obtain⟨f,hf,e⟩:=dX.1 (L.mem_iff.1 t)
  obtain⟨h2,u⟩:=ia.1 hf;unfold Fr.ir at u;rw[dM]at u;exact⟨f,h2,u.1,e⟩
 .have:=al q M;have:=h.raw.lt o;omega
 rintro _ P ⟨i,g,rfl,hi,p,l,N,Q,W,hex,Y⟩;have aZ:=l.bV;refine⟨λaK=>?_,λap=>?_⟩
 .have G:i<zs.length:=by
   have:(i:Int)<(s.len:Int):=bI aK;omega
  obtain⟨a,aq,ar⟩:∃a:av,s.a=some a/\P.cell? (a.add (Int.toNat (i:Int)*1))=some (.int .i64 zs[i]):=by
   obtain⟨b,c,hb,_,_,_,_,R,_⟩:=Q.cell (i:=i) (v:=encZ zs[i]) (by rw[oK,gQ G];rfl);exact⟨_,hb,by rw[eR,az,b3,eB];exact R⟩
  refine⟨a,aq,⟨J,by show(i:Int)<(s.len:Int);omega⟩,zs[i],ar,?_⟩;rw[←l.c];refine(Cs p.raw _).use ?_;rintro _ _ ⟨au,rfl⟩;obtain⟨f,aw,aB,aC⟩:=hex zs[i] (dD G);rcases au with ⟨k,H,rfl,aS,bf⟩|⟨_,aD⟩
  rotate_left
  .exact absurd aC (aD f aw aB)
  have I:=bH P;have A:=p.ext I;obtain⟨no,bU,b1,aa,aE,a0,V,an⟩:=A.inv.ok _ (dD H) aS;have t:zs[i]=(no:Int):=by rw[←bf,bU]
  have aF:=lU A.raw.f H (j:=5) (by decide);refine⟨_,rfl,aL ⟨_,rfl,id,_,A.raw.cells.1,_,rfl,id,(g.ay[k]).b,by rw[az];exact aF,?_⟩⟩;rw[t];refine(z1 A.raw.dev (i:=no) b1 J aa.1 aE λq o hf=>(aa.2.2 q o).1.1 (.inr (.inr hf))).use ?_;rintro v2 ag aG;have aH:=l.ax.size;have a1:=I.size;rcases aG with ⟨hb,rfl,B,r⟩|⟨hb,rfl,s2,B,r,aI⟩
  .obtain⟨jx,iY⟩:=CH A B rfl (A.inv.c9 2) (λj=>Aa g.D 2 j) (r.mono λq _ e=>.inl e) λq o=>.inl o
   refine⟨3,rfl,λ_=>⟨{g with D:=g.D.c9 2},jx,l.c,l.d,l.len,l.n,l.qW,l.r1,by show g.D.bV<=_;omega,λm hm=>?_,?_,?_,λj=>(iY j).trans (N j),.inr ⟨rfl,?_,.inl λaJ=>?_⟩⟩,λh=>(by cases h)⟩
   .exact(lR (.inr rfl) p.raw.dev.f4 (l.calm (m+1) (m_ hm J))).1
   .refine de (l.ax.trans (af.bt I)) r λq o e=>?_
    exact(l.dS q (.inr (.inr (.inl e)))).resolve_right J
   .exact l.dS
   .exact congrArg (λk=>k.1.1) l.bX
   .have:=(lR (k:=2) (m:=0) (.inr rfl) p.raw.dev.f4 (l.calm 1 (m_ aJ J))).2
    rw[hb]at this;cases this
  .obtain⟨iW,fH,ab,O,aM⟩:=NO A H aS (by rw[bf,t]) (λF=>am _ (dD G) _ t.symm (by rw[←l.cc];exact F)) B r aI
   refine⟨0,rfl,λh=>(by cases h),λ_=>⟨_,rfl,by rw[az];exact iW,by rw[az];exact fH,?_⟩⟩;rw[az];refine aL ?_;generalize ag.setCell ⟨g.ba,k*6+1,none⟩ false=a2 at ab O;have aO:IntKind.wrap .i64 ((i:Int)+1)=((i+1:Nat):Int):=by rw[bF J J];omega
   rw[aO];have aP:=(l.trans (e4.ext g I)).trans O;have aQ:zs.drop i=zs[i]::zs.drop (i+1):=kQ G;refine⟨⟨i+1,_,rfl,J,ab,aP,λj=>(aM j).trans (N j),(Q.ext I).ax O.ax λq o hf=>Y q hf o,λf hf y=>?_,λz t=>?_,λq o M=>?_⟩,by show((zs.length:Int)-((i+1:Nat):Int)).toNat<((zs.length:Int)-(i:Int)).toNat;omega⟩
   .have hf:f∈g.ay.set k {g.ay[k] with gJ:=false}:=hf
    obtain⟨b,S,rfl⟩:=fQ hf;have ac:b<g.ay.length:=by simpa using S
    by_cases e:k=b
    .subst e
     simp[Fr.ir]at y
    .simp only[fG e]at y⊢
     have E:=W _ (dD ac) y;rw[aQ]at E;rcases c4.1 E with T|T
     .unfold Fr.ir at y
      rw[dM]at y;exact absurd (p.inv.un k b H ac aS y.1 (by rw[bf,T])) e
     .exact T
   .obtain⟨f,f1,f2,f3⟩:=hex z t
    obtain⟨b,S,rfl⟩:=fQ f1;by_cases e:k=b
    .subst e
     exact⟨{g.ay[k] with gJ:=false},List.mem_set H _,f2,f3⟩
    .exact⟨g.ay[b],List.mem_iff_getElem.2 ⟨b,by show b<(g.ay.set k _).length;rw[dU];exact S,by show(g.ay.set k _)[b]'_=_;rw[fG e]⟩,f2,f3⟩
   .rcases O.dS q o with E|E
    .exact Y q E M
    .have:=Q.lt q M;omega
 .have G:i=zs.length:=by
   have:¬(i:Int)<(s.len:Int):=ck ap;omega
  have R:∀f∈g.ay,f.ir=false:=λf hf=>by
   cases y:f.ir with
   |false=>rfl
   |true=>
    have:=W f hf y;rw[G,List.drop_length]at this
    cases this
  have ah:g.D.cg.getD 3 0=C.D.cg.getD 3 0:=congrArg Prod.snd l.bX;rw[←l.c];refine⟨_,rfl,_,p.raw.cells.1,(CG p.raw.dev J).use ?_⟩;have aH:=l.ax.size;rintro v2 ag (⟨hb,rfl,B,r⟩|⟨hb,rfl,B,r⟩)
  .obtain⟨jx,iY⟩:=CH p B rfl (p.inv.c9 3) (λj=>Aa g.D 3 j) (r.mono λq _ e=>.inl e) λq o=>.inl o
   refine⟨3,rfl,{g with D:=g.D.c9 3},jx,l.c,l.d,l.len,l.n,l.qW,l.r1,by show g.D.bV<=_;omega,λm hm=>vu _ (l.calm m (m_ hm J)),de l.ax r λq o e=>(l.dS q (.inr (.inr (.inl e)))).resolve_right J,l.dS,λj=>(iY j).trans (N j),.inr ⟨rfl,congrArg (λk=>k.1.1) l.bX,.inr ?_⟩⟩;unfold bz.gW at hb⊢;rw[←ah];exact hb
  .have ai:∀q,cm (g.D.c9 3).jS q->cm g.D q\/P.heap.size<=q:=by
    rintro q (e|e|e|⟨x,hx,e⟩)
    .exact .inl (.inl e)
    .exact .inl (.inr (.inl e))
    .exact .inl (.inr (.inr (.inl e)))
    .cases hx
   have aT:∀j,(g.D.c9 3).jS.now j=g.D.now j:=λj=>by
    by_cases K:j<g.D.n
    .exact(CF (g.D.c9 3) K).trans (Aa g.D 3 j)
    .have E:g.D.jS.now j=g.D.now j:=GZ p.raw.dev j
     exact E
   obtain⟨jx,iY⟩:=CH p B rfl ⟨vt (g.D.c9 3),λ_ h=>h,λj K=>by
    have K:g.D.cc j=true:=K;have e:g.D.ek j=[]:=by rw[l.qW.2];exact aj j (by rw[←l.qW.1];exact K)
    exact e.symm⟩ aT r ai
   refine⟨0,rfl,{g with D:=(g.D.c9 3).jS},jx,l.c,l.d,l.len,(vt (g.D.c9 3)).trans l.n,l.qW,l.r1,by show g.D.bV<=_;omega,λm hm=>vu g.D (l.calm m (m_ hm J)),de l.ax r λq o e=>(l.dS q (.inr (.inr e))).resolve_right J,λq o=>?_,λj=>(iY j).trans (N j),.inl ⟨rfl,rfl,R,?_⟩⟩
   .rcases o with e|e|e
    .exact l.dS q (.inl e)
    .exact l.dS q (.inr (.inl e))
    .rcases ai q e with e|e
     .exact l.dS q (.inr (.inr e))
     .exact .inr J
   .show(g.D.cg.set 3 _).getD 3 0=_
    have a3:=p.raw.dev.f4;rw[gg (by rw[dU];omega),jh,ah]
end
def jT(bK d c sb:Nat)(l:dG)(u:eX)(gen now first pending keys:Nat)(failed:ah):Y O:=
 [.pointer (some bK),.pointer (some d),.pointer (some c),.pointer (some sb),l.ay,l.batch,.int .u64 (l.iX:Nat),
  u.root,u.bN,u.map,.int .u64 (u.clock:Nat),.int .u64 (u.dt:Nat),u.keys,
  .int .u64 (gen:Nat),.int .u64 (now:Nat),.int .u64 (first:Nat),pending,keys,failed]
section
variable {w w':I}{D:bz}
structure G0(D:bz)(l:dG)(u:eX)(gen sb:Nat)(w:I)(v:O)(w':I)(c ba bK st:Nat):Prop where
 val:v=.tuple #[.pointer (some st),(0:Int)]
 ca:ep (λ_=>False) w' (nc c ba l.ay D)
 i_:Var w' bK [.pointer (some c),.pointer (some sb),.int .u64 ((gen+1:Nat):Int),u.root,u.bN] 423
 sv:Var w' st (jT bK D.d c sb l u gen u.clock 0 0 u.keys false) 309
 x:Ext w w'
 hc:w.heap.size<=c/\c<bK
 hf:w.heap.size<=ba/\ba<bK
 ht:bK<st
def bz.kf(D:bz)(s:Nat->ah)(z:Nat->Y dw):bz:={D with cc:=s,ek:=z}
theorem dj.kf(h:dj w D)(s:Nat->ah)(z:Nat->Y dw):dj w (D.kf s z):=⟨h.v,h.l,h.m,h.ws,h.wn,h.sl,h.cC,h.cx,h.bB,h.f4,h.fr,h.a1,h.a2,h.a3,h.r⟩
theorem qy(h:dj w D){l:dG}(hl:8<=l.ay/\l.ay<=64){u:eX}(hu:CC D.n (u.root:Nat) (u.bN:Nat)){gen:Nat}(hg:gen+1<18446744073709551616)(q:∀j,D.cc j=true->D.fp j=D.ek j)(sb:Nat):
 aA ae 126 #[.pointer (some D.d),.agg l.c.toArray,.agg u.c.toArray,.int .u64 (gen:Nat),.pointer (some sb)] w (λv w'=>∃c ba bK st,G0 D l u gen sb w v w' c ba bK st):=by
 refine Z.Kj _ (l.ay:Nat) (l.batch:Nat) (l.iX:Nat) (u.root:Nat) (u.bN:Nat) (u.map:Nat) (u.clock:Nat) (u.dt:Nat) (u.keys:Nat) (gen:Nat) (some sb) w _ ?_;(delta Z.qy aZ aY aa gf ad bh dY di;dsimp only);refine aU (vs:=l.c) rfl λw1 r g F=>aU (vs:=u.c) rfl λag s a G=>?_;have p:=r.ext a;have t:=h.ext (g.trans a);refine⟨_,p.cell,(sj t hl.1 hl.2 q).use ?_⟩;rintro _ aC ⟨c,ba,rfl,b,e,H,I⟩;have i:=s.ext e;have x:IntKind.wrap .u64 ((gen:Int)+1)=((gen+1:Nat):Int):=by rw[c2 J J];omega
 rw[x];have K:(nc c ba l.ay D).D=D:=rfl;refine⟨_,0,rfl,λh=>(by cases h),λ_=>⟨_,i.cell,_,by rw[az];exact i.cell,(sk b.raw sb ((gen+1:Nat):Int) (u.root:Nat) (u.bN:Nat)).use ?_⟩⟩;rintro _ y (⟨_,rfl,f,z,L⟩|⟨A,_⟩)
 rotate_left
 .exact absurd hu A
 have k:=i.ext f;have m:=(p.ext e).ext f;have M:=(g.trans a).size;have N:=e.size;have B:c<aC.heap.size:=b.raw.lt (.inl rfl);have C:ba<aC.heap.size:=b.raw.lt (.inr (.inl rfl));refine⟨_,0,rfl,λh=>(by cases h),λ_=>⟨_,m.cell,_,by rw[az];exact m.cell,_,by rw[az];exact m.cell,sV k ⟨_,by rw[az];exact k.cell,_,by rw[az];exact k.cell,(jT aC.heap.size D.d c sb l u gen u.clock 0 0 u.keys false).toArray,by kernel_rfl,aU (vs:=jT aC.heap.size D.d c sb l u gen u.clock 0 0 u.keys false) rfl λO E o P=>?_⟩⟩⟩;exact⟨c,ba,aC.heap.size,y.heap.size,rfl,(b.ext f).ext o,z.ext o,E,Ext.trans (Ext.trans (g.trans a) e) (Ext.trans f o),⟨J,B⟩,⟨J,C⟩,J⟩
def jy(f:Nat->ah)(k:Nat):Y UInt8:=(List.range k).map λi=>UInt8.ofNat (byteOf f i)
theorem G1(f:Nat->ah)(k:Nat):au (jy f k)=fi f k:=by
 unfold au jy fi;rw[jE];refine mN λi _=>?_;have:=lS f i;show Value.int .u8 (((UInt8.ofNat (byteOf f i)).toNat:Nat):Int)=_;rw[UInt8.toNat_ofNat',hW this]
theorem Af(f:Nat->ah)(k:Nat):(jy f k).length=k:=by simp[jy]
def ld:eX:=⟨0,0,2,0,0,0⟩
structure G2(D a8:bz):Prop where
 d:a8.d=D.d
 n:a8.n=D.n
 now:∀j,a8.now j=if j=1 then eI 1 (kE ld D.n 1) else if j=2 then eI 2 ⟨4,1,jy (λi=>decide (i<3)) ((D.n+7)/8)⟩ else if j=0 then iM else D.now j
 waits:a8.waits=[]
 bV:a8.bV=D.bV+4
 calm:∀k,a8.calm k
 cg:a8.cg.getD 3 0= -1
 cc:a8.cc=λi=>decide (i<3)
 ek:a8.ek=λ_=> []
 r:a8.r1=D.r1
structure NS(D:bz)(l:dG)(w:I)(v:O)(w':I)(a8:bz)(sb:Nat)(s1 s2:ai)(c ba bK st:Nat)(k7:I):Prop where
 G3:G0 a8 l ld 1 sb k7 v w' c ba bK st
 sp:fC w' sb D.n (λi=>decide (i<3)) (λi=>decide (i<3)) s1 s2
 sE:G2 D a8
 ax:af (cm D) w k7
 vv:∀q,g_ sb s1 s2 q->w.heap.size<=q/\q<k7.heap.size
 dq:∀q,cm a8 q->cm D q\/(w.heap.size<=q/\q<k7.heap.size)
 eu:∀q,g_ sb s1 s2 q->¬cm a8 q
theorem mX(h:dj w D){l:dG}(hl:pC (l.ay:Nat) (l.batch:Nat) (l.iX:Nat))(bg:∀k,D.calm k)(sR:D.cg.getD 3 0= -1)(b3:D.bV<=999999000):
 aA ae 72 #[.pointer (some ⟨D.d,0,none⟩),.agg l.c.toArray] w (λv w'=>∃a8 sb s1 s2 c ba bK st k7,NS D l w v w' a8 sb s1 s2 c ba bK st k7):=by
 have b4:=h.cx;have b5:=h.bB;refine Z.J_ _ (l.ay:Nat) (l.batch:Nat) (l.iX:Nat) w _ ?_;(delta Z.mX aZ aY aa bh dY di br ad bG gf bl eD gG c3 ak uf b7;dsimp only);refine aU (vs:=l.c) rfl λw1 N G b6=>⟨_,N.cell,_,by rw[az];exact N.cell,_,by rw[az];exact N.cell,(qx w1 _ _ _ _).use ?_⟩;rintro _ aH ⟨rfl,z⟩;have bi:=h.ext (G.trans z);refine⟨_,rfl,λhb=>?_,λ_=>(zZ bi).use ?_⟩
 .rw[fF hl]at hb;cases hb
 rintro _ _ ⟨rfl,rfl⟩;refine⟨_,rfl,(sa aH (D.n:Nat) 3).use ?_⟩;rintro _ b8 (⟨bj,_⟩|⟨_,_,_,_,sb,s1,s2,rfl,K,U,V⟩)
 .exact absurd ⟨by omega,by omega,by omega,by omega⟩ bj
 rw[eR]at K;have W:Int.toNat 3=3:=rfl;rw[W]at K;refine⟨_,0,rfl,λh=>(by cases h),λ_=>(Gy K).use ?_⟩;rintro _ bm ⟨aE,rfl,aF,H,b9⟩;rw[←G1]at aF;obtain⟨mp,O⟩:∃mp:k6,mp=⟨4,1,jy (λi=>decide (i<3)) ((D.n+7)/8)⟩:=⟨_,rfl⟩;have aG:pk mp:=by rw[O];exact⟨(by decide:1<=4),(by decide:4<=4),(by decide:1<18446744073709551616),by show(jy _ _).length<=232;rw[Af];omega⟩
 have aI:=zU (s:=aE) (p:=mp) (no:=2) (w:=bm) (by rw[O];exact aF.src) (by decide) aG;rw[O]at aI;refine⟨aE,rfl,aI.use ?_⟩;rw[←O];rintro _ bd ⟨C,rfl,aJ,L,bn⟩;have aL:=Ext.trans (Ext.trans (G.trans z) U) (Ext.trans H L);have b_:=aL.size;refine⟨C,0,rfl,λh=>(by cases h),λ_=>⟨⟨by omega,by omega,by omega,by omega⟩,?_⟩⟩;rw[zT];have bo:Int.toNat 256=256:=rfl;rw[bo];have aj:iM.length=256:=nE;refine aU (vs:=au iM) rfl λbk P E ca=>?_;obtain⟨bc,bp⟩:∃bc,bc=bd.heap.size:=⟨_,rfl⟩;rw[←bp]at P⊢;have X:=Ext.trans aL E;have aM:Src 1 bk ⟨some ⟨bc,0,none⟩,256,256⟩ (au iM):=P.sH (o:=0) (n:=256) (c:=256) (l:=iM) (by rw[c1,aj];exact bu _) (by rw[iT,fb (by rw[c1,aj];exact bu _)]);refine⟨#[.slice (some ⟨bc,0,none⟩) 256 256,.slice (some ⟨bc,0,none⟩) 256 256,.slice C.a C.len C.cap],by kernel_rfl,?_⟩;have bq:(eI 2 mp).length=256:=vh _ aG;obtain⟨vals,al⟩:∃vals:Nat->dw,vals=λj=>if j=2 then eI 2 mp else iM:=⟨_,rfl⟩
 have bs:∀j,(vals j).length=256:=λj=>by
  rw[al];show(if j=2 then _ else _:dw).length=256;split
  .exact bq
  .exact aj
 have bt:∀k,k<3->∃F:ai,cellAt #[.slice (some ⟨bc,0,none⟩) 256 256,.slice (some ⟨bc,0,none⟩) 256 256,.slice C.a C.len C.cap] (Int.toNat ((k:Nat):Int)*1)=some (.slice F.a F.len F.cap)/\Src 1 bk F (au (vals k))/\∀q,aN F q->w.heap.size<=q/\q<bk.heap.size:=by
  intro k aO;have bv:=P.lt;have cb:=E.size;rw[al];have hi:∀q,aN (⟨some ⟨bc,0,none⟩,256,256⟩:ai) q->w.heap.size<=q/\q<bk.heap.size:=λq b=>by
   obtain⟨A,ar,rfl⟩:=b
   cases ar;show w.heap.size<=bc/\bc<_;exact⟨by omega,bv⟩
  have cc:=(Ext.trans (Ext.trans (G.trans z) U) H).size
  match k,aO with
  |0,_=>exact⟨⟨some ⟨bc,0,none⟩,256,256⟩,rfl,aM,hi⟩
  |1,_=>exact⟨⟨some ⟨bc,0,none⟩,256,256⟩,rfl,aM,hi⟩
  |2,_=>exact⟨C,rfl,aJ.src.ext E,λq b=>by have:=bn q b;have:=aJ.lt q b;omega⟩
 have bw:=h.ext X;refine⟨λn w'=>∃ (k:Nat) (r:bz),n=(k:Int)/\k<=3/\dj w' r/\r.d=D.d/\r.n=D.n/\(∀j,r.now j=if j<k then vals j else D.now j)/\r.bV=D.bV+k/\(∀m,r.calm m)/\(r.cg.getD 3 0= -1/\r.r1=D.r1)/\af (cm D) bk w'/\(∀q,cm r q->cm D q\/bk.heap.size<=q),
  λn _=>((3:Int)-n).toNat,⟨0,D,rfl,dC _,bw,rfl,rfl,λj=>rfl,rfl,bg,⟨sR,rfl⟩,.refl _ _,λq b=>.inl b⟩,?_⟩
 rintro _ cd ⟨k,r,rfl,aO,M,Y,aP,aQ,bx,am,⟨an,aR⟩,ab,I⟩;have ce:=ab.size;refine⟨λaK=>?_,λbA=>?_⟩
 .have ao:k<3:=by
   have:((k:Nat):Int)<3:=bI aK;omega
  obtain⟨F,bC,bD,aS⟩:=bt k ao;have ie:∀q,aN F q->¬cm D q:=λq b hf=>by have:=(aS q b).1;have:=h.lt hf;omega
  have aV:=z1 M (i:=k) (by omega) (by omega) (bD.ax ab ie) (bs k) λq b hf=>by
   rcases I q hf with h1|h1
   .exact ie q b h1
   .have:=(aS q b).2;omega
  rw[Y]at aV;refine⟨⟨by omega,by omega⟩,F,bC,aV.use ?_⟩;rintro _ cf (⟨hb,_⟩|⟨hb,rfl,s,bE,bH,bJ⟩)
  .have:=(lR (k:=2) (m:=0) (.inr rfl) M.f4 (am 1)).2
   rw[hb]at this;cases this
  refine⟨0,rfl,λh=>(by cases h),λ_=>?_⟩;have bL:IntKind.wrap .i64 (((k:Nat):Int)+1)=((k+1:Nat):Int):=by rw[bF (by omega) (by omega)];omega
  rw[bL];refine⟨⟨k+1,_,rfl,by omega,bE,Y,aP,λj=>?_,by show r.bV+1=_;omega,λm=>(lR (.inr rfl) M.f4 (am _)).1,⟨(congrArg Prod.snd (vm r (.inr rfl))).trans an,aR⟩,de ab bH λq b hf=>(I q hf).resolve_right (by omega),λq b=>?_⟩,by show((3:Int)-((k+1:Nat):Int)).toNat<((3:Int)-((k:Nat):Int)).toNat;omega⟩
  .rw[qQ,aQ]
   by_cases e:j=k
   .rw[if_pos e,if_pos (by omega),e]
   .rw[if_neg e]
    by_cases a6:j<k
    .rw[if_pos a6,if_pos (by omega)]
    .rw[if_neg a6,if_neg (by omega)]
  .rcases Ae bJ q b with h1|h1
   .exact I q h1
   .exact .inr (by omega)
 have ao:k=3:=by
  have:¬((k:Nat):Int)<3:=ck bA;omega
 subst ao;have hf:=CG M (by omega);rw[Y]at hf;refine hf.use ?_;rintro _ aW (⟨hb,_⟩|⟨_,rfl,ap,bM⟩)
 .unfold bz.gW at hb
  rw[an]at hb;cases hb
 obtain⟨g,B⟩:∃g,g=(r.c9 3).jS:=⟨_,rfl⟩;rw[←B]at ap;have aX:g.d=D.d:=by rw[B];exact Y
 have a0:g.n=D.n:=by rw[B];exact(vt _).trans aP
 have bN:g.r1=D.r1:=by rw[B];exact aR
 have bO:∀j,g.now j=if j<3 then vals j else D.now j:=λj=>by
  rw[←aQ,B];have aq:r.jS.now j=r.now j:=GZ M j;exact aq
 have ch:g.bV=D.bV+3:=by rw[B];exact bx
 have a1:∀m,g.calm m:=λm=>by rw[B];exact vu _ (am m)
 have a2:g.cg.getD 3 0= -1:=by
  rw[B];show(r.cg.set 3 _).getD 3 0=_;have bP:=M.f4;rw[gg (by rw[dU];omega),jh,an];rfl
 have ac:∀q,cm g q->cm D q\/bk.heap.size<=q:=λq b=>by
  rw[B]at b;rcases b with e|e|e|⟨x,hx,e⟩
  .exact I q (.inl e)
  .exact I q (.inr (.inl e))
  .exact I q (.inr (.inr (.inl e)))
  .cases hx
 have ag:af (cm D) bk aW:=de ab bM λq b hf=>(I q hf).resolve_right (by omega);have Q:∀q,w.heap.size<=q->¬cm D q:=λq b hf=>by have:=h.lt hf;omega
 have bQ:=((N.ext (z.trans (Ext.trans U (Ext.trans H (Ext.trans L E))))).ax ag (Q _ (bu _)));have bS:=(K.ext (Ext.trans H (Ext.trans L E))).ax ag λq b=>Q q (by have:=V q b;have:=(G.trans z).size;omega);refine⟨0,rfl,λh=>(by cases h),λ_=>aU (vs:=Ge.c) rfl λci bT bU cj=>Gh bT rfl ld λcr a3 bW cl=>sV a3 ?_⟩;have R:Ext aW cr:=Ext.bR bU bW (bu _);have S:=ap.ext R;have a4:=o8 S (by omega) (u:=ld) ⟨(by decide:0<4294967296),(by decide:0<256),(by decide:2<4294967296),(by decide:0<18446744073709551616),(by decide:0<18446744073709551616),(by decide:0<4294967296)⟩ (gen:=1) (by decide);rw[aX]at a4;refine a4.use ?_;have cn:=R.size;have co:=ag.size;rintro _ a5 ⟨ah,⟨hb,_⟩|⟨_,s,bY,f,y,⟨hb,_⟩|⟨_,rfl,T⟩⟩⟩
 .have:=(lR (k:=2) (m:=0) (.inr rfl) S.f4 (a1 1)).2
  rw[hb]at this;cases this
 .have av:f.cg.getD 3 0= -1:=by rw[y];exact(congrArg Prod.snd (vm g (.inr rfl))).trans a2
  unfold bz.gW at hb;rw[av]at hb;cases hb
 have av:f.cg.getD 3 0= -1:=by rw[y];exact(congrArg Prod.snd (vm g (.inr rfl))).trans a2
 obtain⟨J,t⟩:∃J,J=((f.c9 3).jS).kf (λi=>decide (i<3)) (λ_=> []):=⟨_,rfl⟩;have T:=T.kf (λi=>decide (i<3)) (λ_=> []);rw[←t]at T;have bZ:∀x∈f.waits,x.i<f.n:=λx hx=>by
  rw[y]at hx⊢;rcases c4.1 hx with rfl|hx
  .show 1%2<g.n;omega
  .exact(S.wn x (ia.1 hx).1).2.1
 have b0:∀j,J.now j=if j=1 then eI 1 (kE ld D.n 1) else if j<3 then vals j else D.now j:=λj=>by
  have aq:J.now j=f.now j:=by
   rw[t];by_cases a7:j<f.n
   .exact(CF (f.c9 3) a7).trans (Aa f 3 j)
   .have aT:f.now j=[]:=by
     unfold bz.now
     cases hf:f.waits.find? λx=>x.i==j with
     |some x=>
      have hx:=lv hf;have he:x.i=j:=by simpa using mP hf
      have:=bZ x hx;omega
     |none=>
      have:¬j<f.bX.length:=a7;show f.bX.getD j []=[];rw[l8,nD (by omega)];rfl
    rw[aT];show((List.range (f.c9 3).n).map (f.c9 3).now).getD j []=[];rw[l8,nD (by simp;show f.n<=j;omega)];rfl
  rw[aq,y,qQ,bO,a0]
 have aw:G2 D J:=by
  refine⟨by rw[t,y];exact aX,by rw[t];exact(vt (f.c9 3)).trans (by rw[y];exact a0),λj=>?_,by rw[t];rfl,by rw[t,y];show g.bV+1=_;omega,λm=>by rw[t,y];exact vu (g.put (1%2) s (eI (1%2) (kE ld g.n 1))) (lR (.inr rfl) S.f4 (a1 _)).1,?_,by rw[t];rfl,by rw[t];rfl,by rw[t,y];exact bN⟩
  .rw[b0,al,←O]
   by_cases aT:j=1
   .rw[if_pos aT,if_pos aT]
   .rw[if_neg aT,if_neg aT]
    by_cases a6:j=2
    .subst a6;rfl
    .by_cases W:j=0
     .subst W;rfl
     .rw[if_neg (by omega),if_neg a6,if_neg W]
  .rw[t]
   show(f.cg.set 3 _).getD 3 0=_;have bP:f.cg.length=4:=by rw[y];show(g.cg.set 2 _).length=4;rw[dU];exact S.f4
   rw[gg (by rw[dU];omega),jh,av];rfl
 have a9:∀q,cm J q->cm D q\/bk.heap.size<=q:=λq b=>by
  rw[t]at b;have h1:cm f q:=by
   rcases b with e|e|e|⟨x,hx,e⟩
   .exact .inl e
   .exact .inr (.inl e)
   .exact .inr (.inr (.inl e))
   .cases hx
  rw[y]at h1;rcases Ae bY q h1 with h2|h2
  .exact ac q h2
  .exact .inr (by omega)
 have a_:af (cm D) bk a5:=de (de ag R λq _ h=>h.elim) ah λq b hf=>(ac q hf).resolve_right (by omega);have aB:=(bQ.ext R).ax ah λhf=>by
  rcases ac _ hf with h1|h1
  .exact Q _ (bu _) h1
  .have:=X.size;have:=P.lt;have:=N.lt;have:=z.size;have:=U.size;have:=H.size;have:=L.size;have:=E.size;omega
 have b1:=a3.ax ah λhf=>by
  have:=ap.lt hf;omega
 have bb:=(bS.ext R).ax ah λq b hf=>by
  have be:=V q b;have aC:=(K.ext (Ext.trans H (Ext.trans L (af.refl _ _)))).lt q b;rcases ac _ hf with h1|h1
  .exact Q q (by have:=(G.trans z).size;omega) h1
  .have:=E.size;omega
 have cp:=a_.size;have P:=X.size;have bf:=qy T (l:=l) (u:=ld) (gen:=1) ⟨by have:=hl.1;omega,by have:=hl.2.1;omega⟩ ⟨by decide,by decide,by decide,by rw[aw.n];show(0:Int)<_;omega,by decide⟩ (by decide) (λj _=>by rw[t];rfl) sb;rw[aw.d]at bf;refine⟨0,rfl,λh=>(by cases h),λ_=>⟨_,aB.cell,_,by rw[az];exact aB.cell,_,by rw[az];exact aB.cell,sV b1 (bf.use ?_)⟩⟩;rintro _ cq ⟨c,ba,bK,st,aD⟩;have b2:=aD.val;subst b2;refine⟨_,0,rfl,J,sb,s1,s2,c,ba,bK,st,a5,aD,bb.ext aD.x,aw,de (X.mono λ_ _ h=>h.elim) a_ λq _ h=>h,λq b=>?_,λq b=>?_,λq b hf=>?_⟩
 .have be:=V q b
  have aC:=bb.lt q b;have:=(G.trans z).size;exact⟨by omega,aC⟩
 .rcases a9 q b with h1|h1
  .exact .inl h1
  .exact .inr ⟨by omega,T.lt b⟩
 .have be:=V q b
  have aC:=(K.ext (Ext.trans H (Ext.trans L (af.refl _ _)))).lt q b;rcases a9 _ hf with h1|h1
  .exact Q q (by have:=(G.trans z).size;omega) h1
  .have:=E.size;omega
end
theorem qI{b d:Nat}(hb:b<256)(hd:d<256)(w:I):aA ae 45 #[.int .u8 (b:Nat),.int .u8 (d:Nat)] w (λv w'=>v=.agg (dG.c ⟨8,1+b%12,1+d%12⟩).toArray/\Ext w w'):=by
 refine Z.KR _ _ w _ ?_;(delta Z.qI aZ b7 aa ak aY bh dY di;dsimp only);have aT:IntKind.wrap .i64 (1+IntKind.wrap .i64 (Int.tmod (b:Int) 12))=((1+b%12:Nat):Int):=by
  rw[nz J,bF (n:=(b:Int)%12) J J,bF J J];omega
 have a6:IntKind.wrap .u64 (1+IntKind.wrap .u64 (Int.tmod (d:Int) 12))=((1+d%12:Nat):Int):=by
  rw[nz J,c2 (n:=(d:Int)%12) J J,c2 J J];omega
 rw[aT,a6];refine aU (vs:=[(0:Int),(0:Int),.int .u64 0]) rfl λw1 e g i=>⟨by decide,by decide,e.cl rfl (λv f=>?_),rfl,cY e (us:=dG.c ⟨8,1+b%12,1+d%12⟩) rfl rfl λag a h j=>⟨_,a.cell,_,by rw[az];exact a.cell,_,by rw[az];exact a.cell,rfl,Ext.bR g h (bu _)⟩⟩;simp only[c4,g1,hF]at f;rcases f with rfl|rfl|rfl<;>trivial
theorem NT{l:Y UInt8}{a k:Nat}(b:a+k<=l.length):e3 l a k<256^k:=by
 exact vf k _ (by rw[fP,jZ];omega)
theorem mZ{s:ai}{l:Y UInt8}{w:I}(b:Src 1 w s (au l)){a k:Nat}(e:k<=8)(f:a+k<=l.length)(hl:l.length<=1000000):
 aA ae 90 #[s,a,k] w (λv w'=>v=.int .u64 (e3 l a k:Nat)/\w=w'):=by
 have g:=len8 b;refine Z.KP s _ _ w _ ?_;(delta Z.mZ eT ad ak bc cd bS bn aZ;dsimp only);rw[bF (n:=(a:Int)+k) J J];refine⟨λx n w'=>∃j:Nat,j<=k/\n=((a+j:Nat):Int)/\x=((e3 l a j:Nat):Int)/\w=w',λ_ n _=>((a:Int)+k-n).toNat,⟨0,dC _,rfl,rfl,rfl⟩,?_⟩;rintro _ _ _ ⟨j,h,rfl,rfl,rfl⟩;refine⟨λaK=>?_,λc=>?_⟩
 .have m:j<k:=by have:=bI aK;omega
  obtain⟨A,ar,hb,hc⟩:=od b (i:=a+j) J;have hx:=l[a+j].toNat_lt;have o:e3 l a j<256^j:=NT J;have p:256^j<=256^7:=nB (by decide) J;have q:(256:Nat)^7=72057594037927936:=by decide
  have d:e3 l a (j+1)=e3 l a j*256+l[a+j].toNat:=by
   unfold e3;rw[kR (by rw[jZ];omega),zG,List.getElem_drop]
  refine⟨A,ar,hb,_,hc,?_⟩;rw[c2 (n:=_*256) J J,c2 (n:=((l[a+j].toNat:Nat):Int)) J J,c2 J J,bF J J];exact⟨⟨j+1,J,J,by rw[d];omega,rfl⟩,by show((a:Int)+k-(((a+j:Nat):Int)+1)).toNat<((a:Int)+k-((a+j:Nat):Int)).toNat;omega⟩
 .have:j=k:=by have:=ck c;omega
  subst this;exact⟨rfl,rfl⟩
theorem NU{w:I}{A:av}{v:O}(h:w.cell? A=some v):A.block<w.heap.size:=by
 unfold World.cell? at h;split at h
 .rename_i h1
  exact(kO.1 h1).1
 .cases h
theorem Ag(A:av)(n:Nat):(A.add n).block=A.block:=by unfold Addr.add;split<;>rfl
theorem NV(n k:Nat):bp n (k+1)=UInt8.ofNat (n/256^k%256)::bp n k:=by
 unfold bp;rw[List.range_succ_eq_map,f_,jE]
 congr 1
 apply mN;intro j a;have:=jX.1 a;show UInt8.ofNat (n/256^(k+1-1-(j+1))%256)=_;rw[show k+1-1-(j+1)=k-1-j from J]
theorem qH(w:I){n k:Nat}(o:n<18446744073709551616)(p:k<=8):aA ae 69 #[.int .u64 (n:Nat),k] w (λv w'=>∃s:ai,v=s/\aR 1 5 w' s (au (bp n k))/\Ext w w'/\du w s):=by
 refine Z.KO _ _ w _ ?_;(delta Z.qH EU aa ad ap ak;dsimp only);have r:=lO w (.cells #[] 5);refine aL ⟨λm s j w'=>∃i:Nat,i<=k/\j=(i:Int)/\m=((n/256^i:Nat):Int)/\aR 1 5 w' s (au (bp n i))/\Ext w w'/\du w s,λ_ _ j _=>((k:Int)-j).toNat,⟨0,dC _,rfl,by rw[Nat.pow_zero,Nat.div_one],aR.new w [] 0 rfl (by decide),bZ _ _,λq a=>by have:=me.1 a;have:w.heap.size=q:=this;omega⟩,?_⟩;rintro _ s _ b ⟨i,hi,rfl,rfl,c,hx,hf⟩;refine⟨λh=>?_,λh=>?_⟩
 .simp only[dM,dN]at h
  have hm:n/256^i<=n:=Nat.div_le_self _ _;have aT:IntKind.wrap .u8 (Int.tmod ((n/256^i:Nat):Int) 256)=(((UInt8.ofNat (n/256^i%256)).toNat:Nat):Int):=by
   generalize n/256^i=m;rw[nz J,oV J J,n1 (ib _ J)];omega
  have a6:IntKind.wrap .u64 (Int.tdiv ((n/256^i:Nat):Int) 256)=((n/256^(i+1):Nat):Int):=by
   rw[l7,←vQ]
   revert hm
   generalize n/256^i=m;intro hm;rw[vP J,c2 J J];omega
  rw[aT,a6,nh J];have d:=gr c;rw[cD]at d;have t:=lO b (.cells (au [UInt8.ofNat (n/256^i%256)]).toArray 5);obtain⟨f,w',aS,bf,u,g,l⟩:=z6.append (cX:=28) (c.src.alloc _) (aR.new b (au [UInt8.ofNat (n/256^i%256)]) 1 rfl (by decide)) (g8 _) (by show(2*(1+s.len)+1000)*1<=_;omega);rw[←jM,List.singleton_append,←NV]at bf;refine⟨by decide,aL ⟨f,w',aS,by decide,⟨i+1,J,rfl,rfl,bf,de hx (de (bZ b _) g λq a c=>by have:=me.1 c;have:b.heap.size=q:=this;have:=hx.size;omega) λq a e=>e,λq a=>?_⟩,by show((k:Int)-((i+1:Nat):Int)).toNat<((k:Int)-(i:Int)).toNat;omega⟩⟩;have:=hx.size;rcases l q a with h1|h1
  .have:=me.1 h1
   have:b.heap.size=q:=this;omega
  .omega
 .simp only[Bool.and_eq_false_iff,ny]at h
  have:i=k:=by omega
  subst this;exact⟨s,rfl,c,hx,hf⟩
theorem jL{s:ai}{l:Y UInt8}{w:I}(b:Src 1 w s (au l)){n k:Nat}(i:n<18446744073709551616)(j:k<=8)(hl:l.length<=1000000):aA ae 36 #[s,.int .u64 (n:Nat),k] w (λv w'=>∃a:ai,v=a/\aR 1 5 w' a (au (l++bp n k))/\Ext w w'/\du w a):=by
 have t:=len8 b;refine Z.KM s _ _ w _ ?_;(delta Z.jL ap aa bl aZ;dsimp only);obtain⟨s2,c,aS,bf,u,d,e,_⟩:=z6.clone (cX:=28) b (g8 _) J;refine aL ⟨s2,c,aS,(qH c i j).use ?_⟩;rintro _ aC ⟨cK,rfl,h1,h2,x⟩;have m:=gr h1;rw[cD]at m;obtain⟨f,aJ,bU,b1,y,o,p⟩:=z6.append (cX:=28) h1.src (bf.ext h2) (g8 _) J;rw[←jM]at b1;have:=d.size;have:=h2.size;exact⟨cK,rfl,f,aJ,bU,f,rfl,b1,de (d.trans h2) o λq g r=>by have:=e q r;omega,λq g=>by
  rcases p q g with h|h
  .exact e q h
  .omega⟩
instance:DecidableEq bT:=λa b=>decidable_of_iff (a.s=b.s/\a.p=b.p/\a.b=b.b/\a.u=b.u) ⟨λh=>by cases a;cases b;simp_all,λh=>by rw[h];exact⟨rfl,rfl,rfl,rfl⟩⟩
section
variable {w w':I}{s t:ai}{T U:Y bT}
end
structure mz(V:Nat->dw)(n gen:Nat)(u:eX)(g:Nat->ah)(P:Nat->aw b6)(p:Y Nat)(L:Y cH):Prop where
 fr:∃j,j<n/\g j=false
 G4:vn ((gen%2:Nat):Int) (V (gen%2))=.ok (u,n,gen)
 NW:V (1-gen%2)=iM\/∃a g',vn ((1-gen%2:Nat):Int) (V (1-gen%2))=.ok (a,n,g')/\g'<gen
 mp:∃lV,lV<=gen/\qN (u.map:Int) (V u.map)=.ok ⟨4,lV,jy g ((n+7)/8)⟩
 g:∀no,g no=true↔no∈p\/no<2\/no=u.map
 cU:p.Nodup
 two:∀x∈p,2<=x/\x≠u.map/\x<n
 ok:(u.bN=0/\u.root=0/\p=[]/\L=[])\/hL P u.bN none none u.root p L
 jv:∀x∈p,∀cU,P x=some cU->my gen cU.leaf x (V x) cU
 keys:u.keys=L.length
 kv:∀q∈L,hK q.1/\q.2.length<=24
 NX:pv u
 CI:pw u n
 NY:u.dt+1<=gen
theorem mz.agree{V a:Nat->dw}{n gen:Nat}{u:eX}{g:Nat->ah}{P P':Nat->aw b6}{p:Y Nat}{L:Y cH}(h:mz V n gen u g P p L)(fo:∀j,g j=true->a j=V j)(hP:∀x∈p,P x=P' x):mz a n gen u g P' p L:=by
 have h0:a (gen%2)=V (gen%2):=fo _ ((h.g _).2 (.inr (.inl J)));have h1:a (1-gen%2)=V (1-gen%2):=fo _ ((h.g _).2 (.inr (.inl J)));refine⟨h.fr,by rw[h0];exact h.G4,by rw[h1];exact h.NW,by rw[fo _ ((h.g _).2 (.inr (.inr rfl)))];exact h.mp,h.g,h.cU,h.two,h.ok.imp id λb=>(b.agree hP).1,λx hx cU c=>?_,h.keys,h.kv,h.NX,h.CI,h.NY⟩;rw[fo _ ((h.g _).2 (.inl hx))];exact h.jv x hx cU (by rw[hP x hx];exact c)
structure cn where
 st:Nat
 T:bM
 l:dG
 u:eX
 gen:Nat
 now:Nat
 first:Nat
 pending:Nat
 keys:Nat
 failed:ah
def cn.V(S:cn)(j:Nat):dw:=S.T.C.D.bX.getD j []
def cn.cells(S:cn):Y O:=jT S.T.bK S.T.C.D.d S.T.C.c S.T.sb S.l S.u S.gen S.now S.first S.pending S.keys S.failed
structure kF(w:I)(S:cn)(bm:Y Nat)(cj:Y cH):Prop where
 v:Var w S.st S.cells 309
 t:cS w S.T
 es:S.T.E S.st
 kG:mz S.V S.T.n S.gen S.u S.T.g S.T.P bm cj
 gen:S.T.gen=S.gen+1
 num:S.now<18446744073709551616/\S.first<=S.now/\S.u.dt+1<=S.gen/\S.gen+2<18446744073709551616/\S.l.batch<=1000/\S.l.iX<=1048576/\1<=S.l.batch
 cc:∀j,S.T.g j=true->S.T.C.D.cc j=true
structure eZ(w:I)(S:cn)(pages:Y Nat)(L:Y cH)(bm:Y Nat)(cj:Y cH):Prop extends kF w S bm cj where
 ok:jQ S.T pages L
 cU:pages.Nodup
 f:∀no,S.T.f no=true↔no∈pages\/no<2\/no=S.u.map
 two:∀x∈pages,2<=x/\x≠S.u.map
 kv:∀p∈L,hK p.1/\p.2.length<=24
 keys:S.keys=L.length
 sX:S.pending<=1000
 live:S.failed=false->¬S.T.C.D.ro/\S.T.C.D.ek=(λ_=> [])/\1<=c6 S.T
 dead:S.failed=true->S.T.C.D.ro/\L=cj/\pages=bm/\S.pending=0
def bz.quiet(D:bz):Prop:=(∀k,D.calm k)/\D.cg.getD 3 0= -1
def cn.W(S:cn)(q:Nat):Prop:=S.T.M q/\(S.T.E q->q=S.st)
structure gw(k:Nat)(S aW:cn)(w w':I):Prop where
 st:aW.st=S.st
 d:aW.T.C.D.d=S.T.C.D.d
 n:aW.T.n=S.T.n
 l:aW.l=S.l
 bV:aW.T.C.D.bV<=S.T.C.D.bV+k
 q:S.T.C.D.quiet->aW.T.C.D.quiet
 ax:af S.W w w'
 dS:∀q,aW.T.M q->S.T.M q\/w.heap.size<=q
 E:aW.T.E=S.T.E
 G:aW.T.G=S.T.G
 r:aW.T.C.D.r1=S.T.C.D.r1
section
variable {w w':I}{C:cv}{X:Nat->Prop}{T:bM}{S aW:cn}{pages bm:Y Nat}{L cj:Y cH}
theorem kF.pD(h:kF w S bm cj){q:Nat}(a:S.T.N q):S.W q:=⟨bM.Cx a,λhe=>absurd a (h.t.vr he)⟩
theorem kF.G5(h:kF w S bm cj):S.W S.st:=⟨.inr (.inr (.inr (.inl h.es))),λ_=>rfl⟩
theorem gw.back{k q:Nat}(h:gw k S aW w w')(hl:q<w.heap.size)(hm:aW.W q):S.W q:=⟨(h.dS q hm.1).resolve_right J,λhe=>(hm.2 (by rw[h.E];exact he)).trans h.st⟩
theorem ep.kf(h:ep X w C){s:Nat->ah}{z:Nat->Y dw}(hc:∀f∈C.ay,∀j:Nat,f.full=true->f.no=j->s j=true->f.gJ=false)(b:∀j,s j=true->C.D.fp j=z j):
 ep X w {C with D:=C.D.kf s z}:=
 ⟨⟨h.raw.v,h.raw.f,h.raw.dev.kf s z,h.raw.bU,h.raw.b1,h.raw.hd,h.raw.a1⟩,h.inv.pins,λf hf a=>by
  obtain⟨no,aS,bf,c,d,e,k,g⟩:=h.inv.ok f hf a
  exact⟨no,aS,bf,c,d,e,λi=>hc f hf no a aS i,g⟩,h.inv.un,h.inv.gv,b⟩
theorem cS.kf(h:cS w T){s:Nat->ah}{z:Nat->Y dw}(hc:∀f∈T.C.ay,∀j:Nat,f.full=true->f.no=j->s j=true->f.gJ=false)(a:∀j,s j=true->T.C.D.fp j=z j)(b:∀j,s j=true->T.g j=true\/∀i,s i=true):
 cS w (T.ja {T.C with D:=T.C.D.kf s z} T.P):=⟨h.t,h.s,h.ca.kf hc a,h.bo,h.gi,h.k8,h.n,h.num,h.jv,b,h.low⟩
theorem NZ(h:ep X w C){j:Nat}(a:C.D.cc j=true):C.view j=C.D.now j:=by
 unfold cv.view
 cases hf:C.ay.find? λf=>f.full&&f.no==(j:Int) with
 |none=>rfl
 |some f=>
  have h1:=mP hf;have h2:=lv hf;simp only[dM,jY]at h1;obtain⟨no,aS,bf,d,e,b,c,g⟩:=h.inv.ok f h2 h1.1;have:no=j:=by omega
  subst this;exact b (c a)
theorem N0(h:ep X w C){j:Nat}(a:C.D.cc j=true)(b:C.D.ek j=[]):C.view j=C.D.bX.getD j []:=by
 rw[NZ h a,Ci _ (λx hx=>(h.raw.dev.wn x hx).1),if_pos (by rw[h.inv.qU j a,b])]
theorem eZ.view(h:eZ w S pages L bm cj)(hl:S.failed=false){j:Nat}(a:S.T.g j=true):S.T.C.view j=S.V j:=
 N0 h.t.ca (h.cc j a) (by rw[(h.live hl).2.1])
theorem kF.set(h:kF w S bm cj){i:Nat}{x:O}(hi:i<19):(∃u:O,w.cell? ⟨S.st,i,none⟩=some u)/\w.frozen? ⟨S.st,i,none⟩=false/\
 Var (w.setCell ⟨S.st,i,none⟩ x) S.st (S.cells.set i x) 309/\cS (w.setCell ⟨S.st,i,none⟩ x) S.T/\af (λq=>q=S.st) w (w.setCell ⟨S.st,i,none⟩ x):=by
 obtain⟨aS,bf⟩:=e9 h.v (i:=i) (by exact hi);exact⟨aS,bf,e8 h.v (i:=i) x,h.t.jb h.es (eg w S.st i x),eg w S.st i x⟩
end
theorem my.mono{gen a no:Nat}{leaf:ah}{l:dw}{n:b6}(h:my gen leaf no l n)(hg:gen<=a):my a leaf no l n:=by
 obtain⟨p,h1,h2,b⟩:=h;exact⟨p,h1,cB h2 hg,b⟩
section
variable {w w':I}{C:cv}{X:Nat->Prop}{T:bM}{S aW:cn}{pages bm:Y Nat}{L cj:Y cH}
theorem N1{a8:bz}(h:ep X w C)(hd:dj w' a8)(e:a8.d=C.D.d)(b:lT a8 C.D)(c:∀i,2<=i->a8.now i=C.D.now i)(hc:af (cm C.D) w w')(hf:∀q,cm a8 q->cm C.D q\/w.heap.size<=q):
 ep X w' {C with D:=a8}/\∀j,2<=j->({C with D:=a8}:cv).view j=C.view j:=by
 have l:=hc.size;have g:∀q,q<w.heap.size->dx {C with D:=a8} q->dx C q:=λq a hh=>by
  rcases hh with h1|h1|h1
  .exact .inl h1
  .exact .inr (.inl h1)
  .exact .inr (.inr ((hf q h1).resolve_right J))
 refine⟨⟨h.raw.sE hd e hc hf,h.inv.pins,λf hm m=>?_,h.inv.un,λq a=>⟨fu (h.inv.gv q a).1 l,λhh=>(h.inv.gv q a).2 (g q (h.inv.gv q a).1 hh)⟩,b.2.2⟩,λj o=>?_⟩
 .obtain⟨no,aS,bf,p,r,s,t,k⟩:=h.inv.ok f hm m
  exact⟨no,aS,by rw[show({C with D:=a8}:cv).D.n=a8.n from rfl,b.1];exact bf,c5.re p hc (λq _ hb u=>hb.1 (.inr (.inr u))) λq a hb=>⟨λhh=>hb.1 (g q a hh),hb.2⟩,r,λhd=>by show _=a8.now no;rw[c no k];exact s hd,λv=>t (b.2.1 _ v),k⟩
 .unfold cv.view
  dsimp only
  cases C.ay.find? λf=>f.full&&f.no==(j:Int) with
  |some f=>rfl
  |none=>exact c j o
theorem cS.G6{b9:cv}{P:Nat->aw b6}(h:cS w T)(a:ep T.X w' b9)(hc:af (dx T.C) w w')(e:b9.c=T.C.c)(b:b9.D.n=T.C.D.n)(hP:∀no cU,P no=some cU->no<T.n/\my T.gen cU.leaf no (b9.view no) cU)(d:∀j,b9.D.cc j=true->T.g j=true\/b9.D.ro):
 cS w' (T.ja b9 P):=by
 have hx:=h.ca.inv.gv;refine⟨?_,h.s.ax hc λq f hf=>(hx q (.inr (.inl f))).2 hf,a,h.bo,h.gi,h.k8,b.trans h.n,h.num,hP,d,h.low⟩;have:=h.t.ax hc λhf=>(hx T.bK (.inl rfl)).2 hf;unfold nd at this⊢;rw[←e]at this;exact this
def bM.oe(T:bM)(gen:Nat):bM:={T with gen:=gen}
theorem cS.N2{gen:Nat}(h:cS w T)(b:Var w' T.bK (nd (T.oe gen)) 423)(hc:af (λq=>q=T.bK) w w')(h1:T.gen<=gen)(h2:gen<18446744073709551616):cS w' (T.oe gen):=
 ⟨b,h.s.ax hc λq c e=>h.bo (e▸c),h.ca.ax hc λq e=>.inl e,h.bo,h.gi,h.k8,h.n,⟨h.num.1,h.num.2.1,h2⟩,λno cU a=>⟨(h.jv no cU a).1,(h.jv no cU a).2.mono h1⟩,h.cc,h.low⟩
theorem N3(h:cS w T){gen:Nat}(h1:T.gen<=gen)(h2:gen<18446744073709551616):
 aA ae 234 #[.pointer (some T.bK),.int .u64 (gen:Nat)] w (λv w'=>v=.tuple #[]/\cS w' (T.oe gen)/\af (λq=>q=T.bK) w w'):=by
 refine Z.Ky _ _ w _ ?_;(delta Z.u0 ad pt st aZ;dsimp only);obtain⟨aS,bf⟩:=e9 h.t (i:=2) (by simp[nd]);have a:=e8 h.t (i:=2) (.int .u64 (gen:Nat));have hc:=eg w T.bK 2 (.int .u64 (gen:Nat));refine⟨λ_=>⟨_,rfl,by rw[az];exact aS,by rw[az];exact bf,aL ?_⟩,λhb=>(by cases hb)⟩;rw[az,b3];exact⟨rfl,h.N2 a hc h1 h2,hc⟩
def G7(aW:cn)(gen:Nat)(g:Nat->ah)(pages:Y Nat)(L:Y cH)(clock dt:Nat):Prop:=
 (∀j,g j=true->aW.T.C.D.ek j=[])\/
 ∃ (a:eX) (aS:Nat->ah) (c:Nat->aw b6) (b:dw),(∀j,aW.T.C.D.ek j=if j=(gen+1)%2 then [b] else [])/\mz (λj=>if j=(gen+1)%2 then b else aW.V j) aW.T.n (gen+1) a aS c pages L/\a.clock=clock/\a.dt=dt
def CJ(S:cn)(pages:Y Nat)(L:Y cH)(bm:Y Nat)(cj:Y cH)(w:I)(v:O)(w':I):Prop:=
 ∃aW,gw 100 S aW w w'/\aW.now=S.now/\
  ((v=.int .i64 0/\eZ w' aW pages L pages L/\aW.failed=false/\aW.gen=S.gen+1/\aW.u.clock=S.now/\aW.u.dt=S.u.dt+1/\aW.pending=0)\/
   (v=.int .i64 3/\¬S.T.C.D.quiet/\eZ w' aW bm cj bm cj/\aW.failed=true/\aW.u=S.u/\aW.gen=S.gen/\(∀j,S.T.g j=true->aW.V j=S.V j)/\G7 aW S.gen S.T.g pages L S.now (S.u.dt+1)))
end
end Go.Proofs.YtkpjknbogcihmaaGreatDoor
