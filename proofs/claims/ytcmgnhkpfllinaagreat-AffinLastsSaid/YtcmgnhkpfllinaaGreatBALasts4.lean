/- Contracts of the functions that the statement reaches, and the plain laws over them; each theorem stands with its conditions. -/
import Derived.Laws.Small
import Derived.Test.YtcmgnhkpfllinaaGreatBALasts3
namespace Go.Proofs.YtcmgnhkpfllinaaGreat
open Go aS Go.Proofs.Tryz
variable{q k no h gen nb aV x fr i top:Nat}{w w' w1:J}{n o:aG}{K V D s:ad}{W E G bU B:U1}{aM:cn}{P:Nat->au aG}{l m r kids c0 aL:O Nat}{vs:O aa}{leaf:ao}{t:Nat->ao}{ks:O Key}{A:af}{v:aa}{lo hi:au Key}{ek:O aP}
structure aN where
 bd:Nat
 gen:Nat
 root:Nat
 aK:Nat
 C:cn
 sb:Nat
 n:Nat
 f:Nat->ao
 g:Nat->ao
 s1:ad
 s2:ad
 E:U1
 G:U1
 P:Nat->au aG
def aN.cx(T:aN)(E G:U1):aN:={T with E:=E,G:=G}
def aN.bC(T:aN)(C:cn)(P:Nat->au aG):aN:={T with C:=C,P:=P}
def aN.X(T:aN)(q:Nat):Prop:=q=T.bd\/gr T.sb T.s1 T.s2 q\/T.E q\/T.G q
def aN.M(T:aN)(q:Nat):Prop:=du T.C q\/T.X q
def aN.N(T:aN)(q:Nat):Prop:=du T.C q\/q=T.bd\/gr T.sb T.s1 T.s2 q\/T.G q
theorem aN.gD{T:aN}(h:T.N q):T.M q:=h.imp id (Or.imp id (Or.imp id .inr))
def hV(gen:Nat)(leaf:ao)(no:Nat)(l:c7)(n:aG):Prop:=
 ∃p:jg,dX (no:Int) l=.ok p/\p.gen<=gen/\p.kind=(if leaf then 1 else 2)/\mN leaf p.body n/\2<=no
def mS(T:aN):O aa:=[.pointer (some T.C.c),.pointer (some T.sb),.int .u64 (T.gen:Nat),T.root,T.aK]
structure b5(w:J)(T:aN):Prop where
 t:Var w T.bd (mS T) 243
 s:fc w T.sb T.n T.f T.g T.s1 T.s2
 ca:eu T.X w T.C
 ld:¬gr T.sb T.s1 T.s2 T.bd
 dv:∀q,T.E q->q≠T.bd/\¬gr T.sb T.s1 T.s2 q/\¬T.G q
 jy:∀q,T.G q->q≠T.bd/\¬gr T.sb T.s1 T.s2 q
 n:T.C.D.n=T.n
 num:T.root<T.n/\T.aK<=12/\T.gen<18446744073709551616
 eS:∀no bN,T.P no=some bN->no<T.n/\hV T.gen bN.leaf no (T.C.view no) bN
 cl:∀j,T.C.D.cl j=true->T.g j=true\/T.C.D.ro
 low:T.g 0=true/\T.g 1=true
structure bY(T aq:aN)(w w':J)(k:Nat):Prop where
 bd:aq.bd=T.bd
 sb:aq.sb=T.sb
 n:aq.n=T.n
 g:aq.g=T.g
 s1:aq.s1=T.s1
 s2:aq.s2=T.s2
 c:aq.C.c=T.C.c
 d:aq.C.D.d=T.C.D.d
 bJ:aq.C.D.key=T.C.D.key
 gen:aq.gen=T.gen
 aX:aq.C.D.aX<=T.C.D.aX+k
 calm:∀m,T.C.D.calm (m+k)->aq.C.D.calm m
 ah:ag T.N w w'
 c1:∀q,aq.M q->T.M q\/w<=q
 fn:∀q,aq.N q->T.N q\/w<=q
theorem bY.cl{T aq:aN}(h:bY T aq w w' k):aq.C.D.cl=T.C.D.cl/\aq.C.D.eW=T.C.D.eW:=by
 have:=congrArg Prod.fst h.bJ;exact⟨congrArg (λp=>p.2.1) this,congrArg (λp=>p.2.2.1) this⟩
theorem bY.refl(T:aN)(w:J):bY T T w w 0:=⟨rfl,rfl,rfl,rfl,rfl,rfl,rfl,rfl,rfl,rfl,bk _,λ_ h=>h,.refl _ _,λ_ h=>.inl h,λ_ h=>.inl h⟩
theorem bY.ext(T:aN)(h:Ext w w'):bY T T w w' 0:=⟨rfl,rfl,rfl,rfl,rfl,rfl,rfl,rfl,rfl,rfl,bk _,λ_ h=>h,ag.cX h,λ_ h=>.inl h,λ_ h=>.inl h⟩
theorem bY.trans{T aq b:aN}{e:J}{l:Nat}(h1:bY T aq w w' k)(h2:bY aq b w' e l):bY T b w e (k+l):=by
 have hs:=h1.ah.size;refine⟨h2.bd.trans h1.bd,h2.sb.trans h1.sb,h2.n.trans h1.n,h2.g.trans h1.g,h2.s1.trans h1.s1,h2.s2.trans h1.s2,h2.c.trans h1.c,h2.d.trans h1.d,h2.bJ.trans h1.bJ,h2.gen.trans h1.gen,U5 h1.aX h2.aX,
  λm f=>h2.calm m (h1.calm (m+l) (by rw[show m+l+k=m+(k+l) from I];exact f)),cE h1.ah h2.ah λq a h=>(h1.fn q h).resolve_right I,λq a=>?_,λq a=>?_⟩
 .rcases h2.c1 q a with h|h
  .exact h1.c1 q h
  .exact .inr I
 .rcases h2.fn q a with h|h
  .exact h1.fn q h
  .exact .inr I
theorem bY.mono{T aq:aN}{l:Nat}(h:bY T aq w w' k)(b:k<=l):bY T aq w w' l:=
 ⟨h.bd,h.sb,h.n,h.g,h.s1,h.s2,h.c,h.d,h.bJ,h.gen,U4 h.aX,λm a=>h.calm m (gq a I),h.ah,h.c1,h.fn⟩
theorem bY.bN{T aq:aN}{lo:Nat}(h:bY T aq w w' k)(d:b7 (λq=>lo<=q/\¬T.M q) w n K V D):b7 (λq=>lo<=q/\¬aq.M q) w' n K V D:=by
 have h1:b7 (λq=>q<w/\lo<=q/\¬T.M q) w n K V D:=d.bg λq b a=>⟨b,a⟩;refine(b7.ah h1 h.ah λq b c=>b.2.2 (aN.gD c)).bg λq _ a=>⟨a.2.1,λc=>?_⟩;rcases h.c1 q c with h2|h2
 .exact a.2.2 h2
 .have:=a.1;omega
section
variable {w w':J}{T aq:aN}
theorem bY.step(h:bY T aq w w1 k)(hc:ag W w1 w')(cv:∀q,W q->q<w->T.N q)(e:∀q,E q->aq.E q\/aq.G q\/w<=q)(b:∀q,G q->aq.G q\/w<=q):bY T (aq.cx E G) w w' k:=by
 refine⟨h.bd,h.sb,h.n,h.g,h.s1,h.s2,h.c,h.d,h.bJ,h.gen,h.aX,h.calm,cE h.ah hc λq a f=>cv q f a,λq a=>?_,λq a=>?_⟩
 .obtain a|a|a|a|a:=a
  .exact h.c1 q (.inl a)
  .exact h.c1 q (.inr (.inl a))
  .exact h.c1 q (.inr (.inr (.inl a)))
  .rcases e q a with h1|h1|h1
   .exact h.c1 q (.inr (.inr (.inr (.inl h1))))
   .exact h.c1 q (.inr (.inr (.inr (.inr h1))))
   .exact .inr h1
  .rcases b q a with h1|h1
   .exact h.c1 q (.inr (.inr (.inr (.inr h1))))
   .exact .inr h1
 .obtain a|a|a|a:=a
  .exact h.fn q (.inl a)
  .exact h.fn q (.inr (.inl a))
  .exact h.fn q (.inr (.inr (.inl a)))
  .rcases b q a with h1|h1
   .exact h.fn q (.inr (.inr (.inr h1)))
   .exact .inr h1
theorem bY.local{lf a Bo:U1}(h:bY (T.cx bU a) aq w1 w' k)(hx:Ext w w1)(b:∀q,bU q->T.E q\/w<=q)(c:∀q,a q->T.G q\/w<=q)
 (d:∀q,lf q->aq.E q\/aq.G q) (e:∀q,Bo q->aq.G q):bY T (aq.cx lf Bo) w w' k:=by
 have h0:bY T (T.cx bU a) w w1 0:=(bY.ext T (w:=w) (w':=w) (ag.refl _ _)).step (W:=λ_=>False) hx (λ_ h=>h.elim) (λq h=>(b q h).imp id .inr) c;have h1:=h0.trans h;rw[cA]at h1;exact h1.step (W:=λ_=>False) (ag.refl _ _) (λ_ h=>h.elim) (λq h=>(d q h).imp id .inl) λq h=>.inl (e q h)
theorem b5.lt(h:b5 w T)(a:T.M q):q<w:=by
 obtain a|a:=a
 .exact h.ca.raw.lt a
 .exact(h.ca.inv.fD q a).1
theorem b5.j_(h:b5 w T)(b:T.E q):¬T.N q:=by
 rintro(a|a|a|a)
 .exact(h.ca.inv.fD q (.inr (.inr (.inl b)))).2 a
 .exact(h.dv q b).1 a
 .exact(h.dv q b).2.1 a
 .exact(h.dv q b).2.2 a
theorem b5.ext(h:b5 w T)(hx:Ext w w'):b5 w' T:=⟨h.t.ext hx,h.s.ext hx,h.ca.ext hx,h.ld,h.dv,h.jy,h.n,h.num,h.eS,h.cl,h.low⟩
theorem eu.grow{X d:U1}{C:cn}(h:eu X w C)(hc:ag W w w')(cv:∀q,W q->q<w->X q)(e:∀q,d q->X q\/(w<=q/\q<w')):eu d w' C:=by
 have g:ag X w w':=cE (W:=X) (ag.refl _ _) hc λq a i=>cv q i a;refine⟨h.raw.ah g λq a hx=>(h.inv.fD q hx).2 a,h.inv.pins,λf hf j=>?_,h.inv.un,λq a=>?_,h.inv.oW⟩
 .obtain⟨no,ay,az,k,m,n,o,p⟩:=h.inv.ok f hf j
  have r:bI (λq=>q<w/\¬du C q/\¬X q) w f.b f.l:=bI.bg k λq a c=>⟨a,c⟩;refine⟨no,ay,az,bI.bg (bI.ah r g λq a hx=>a.2.2 hx) λq _ c=>⟨c.2.1,λs=>?_⟩,m,n,o,p⟩;rcases e q s with h1|h1
  .exact c.2.2 h1
  .have:=c.1;omega
 .rcases e q a with h1|h1
  .exact⟨fO (h.inv.fD q h1).1 hc.size,(h.inv.fD q h1).2⟩
  .exact⟨h1.2,λhf=>U4 (h.raw.lt hf)⟩
theorem b5.grow(h:b5 w T)(hc:ag W w w')(cv:∀q,W q->q<w->T.E q\/T.G q)(c:∀q,E q->T.E q\/T.G q\/(w<=q/\q<w'))(f:∀q,G q->T.E q\/T.G q\/(w<=q/\q<w'))(j:∀q,E q->¬G q):b5 w' (T.cx E G):=by
 have b:∀q,T.E q\/T.G q->q≠T.bd/\¬gr T.sb T.s1 T.s2 q:=λq a=>by
  obtain a|a:=a
  .exact⟨(h.dv q a).1,(h.dv q a).2.1⟩
  .exact h.jy q a
 have g:ag (λq=>T.E q\/T.G q) w w':=cE (W:=λq=>T.E q\/T.G q) (ag.refl _ _) hc λq a k=>cv q k a;have d:∀q,T.E q\/T.G q\/(w<=q/\q<w')->q≠T.bd/\¬gr T.sb T.s1 T.s2 q:=λq a=>by
  obtain a|a|a:=a
  .exact b q (.inl a)
  .exact b q (.inr a)
  .exact⟨λe=>by have h2:=h.lt (q:=q) (.inr (.inl e));omega,λe=>by have h2:=h.lt (q:=q) (.inr (.inr (.inl e)));omega⟩
 have i:∀q,T.E q\/T.G q\/(w<=q/\q<w')->T.X q\/(w<=q/\q<w'):=λq a=>by
  obtain a|a|a:=a
  .exact .inl (.inr (.inr (.inl a)))
  .exact .inl (.inr (.inr (.inr a)))
  .exact .inr a
 refine⟨h.t.ah g λe=>(b _ e).1 rfl,h.s.ah g λq a e=>(b q e).2 a,h.ca.grow hc (λq a l=>.inr (.inr (cv q a l))) λq a=>?_,h.ld,λq a=>⟨(d q (c q a)).1,(d q (c q a)).2,j q a⟩,λq a=>d q (f q a),h.n,h.num,h.eS,h.cl,h.low⟩;obtain a|a|a|a:=a
 .exact .inl (.inl a)
 .exact .inl (.inr (.inl a))
 .exact i q (c q a)
 .exact i q (f q a)
theorem b5.cells(h:b5 w T):w.cell? T.bd=some (.pointer (some T.C.c))/\w.cell? (Addr.add T.bd 1)=some (.pointer (some T.sb))/\w.cell? (Addr.add T.bd 2)=some (.int .u64 (T.gen:Nat))/\
 w.cell? (Addr.add T.bd 3)=some (.int .i64 (T.root:Nat))/\w.cell? (Addr.add T.bd 4)=some (.int .i64 (T.aK:Nat)):=by
 rw[aA,aA,aA,aA];exact⟨h.t.cell,h.t.cell,h.t.cell,h.t.cell,h.t.cell⟩
theorem b5.Le(h:b5 w T)(a:no<T.n):(T.C.view no).length=256:=by
 unfold cn.view
 cases hf:T.C.aw.find? λf=>f.full&&f.no==(no:Int) with
 |some f=>
  have h1:=jY hf;have h2:=kR hf;obtain⟨m,b⟩:=h.ca.inv.ok f h1 (by
   have:(f.full&&f.no==(no:Int))=true:=h2;exact(Bool.and_eq_true_iff.1 this).1)
  exact b.len
 |none=>exact h.ca.raw.dev.qm (h.n▸a)
theorem b5.yD(h:b5 w T)(e:eu T.X w' aM)(a:eR T.C aM w w' k)(f:∀no bN,P no=some bN->no<T.n/\hV T.gen bN.leaf no (aM.view no) bN):
 b5 w' (T.bC aM P)/\bY T (T.bC aM P) w w' k:=by
 have hx:=h.ca.inv.fD;have hc:=a.ah;refine⟨⟨?_,h.s.ah hc λq b hf=>(hx q (.inr (.inl b))).2 hf,e,h.ld,h.dv,h.jy,?_,h.num,f,λj l=>by unfold a8.ro;show T.g j=true\/∀i,aM.D.cl i=true;rw[a.cl];exact h.cl j (a.cl▸l),h.low⟩,⟨rfl,rfl,rfl,rfl,rfl,rfl,a.c,a.d,a.bJ,rfl,a.aX,a.calm,hc.mono λq _ b=>.inl b,?_,?_⟩⟩
 .have:=h.t.ah hc λhf=>(hx T.bd (.inl rfl)).2 hf
  unfold mS at this⊢;rw[←a.c]at this;exact this
 .show aM.D.n=T.n
  rw[a.n,h.n]
 .rintro q (b|b)
  .rcases a.c1 q b with h1|h1
   .exact .inl (.inl h1)
   .exact .inr h1
  .exact .inl (.inr b)
 .rintro q (b|b)
  .rcases a.c1 q b with h1|h1
   .exact .inl (.inl h1)
   .exact .inr h1
  .exact .inl (.inr b)
end
def Lf(T:aN)(leaf:ao)(no:Nat)(e:Int):Prop:=
 (e=3/\¬T.C.D.calm 2)\/dX (no:Int) (T.C.view no)=.error e\/(e=4/\(∃p,dX (no:Int) (T.C.view no)=.ok p)/\∀n,¬hV T.gen leaf no (T.C.view no) n)
def qx(T:aN)(leaf:ao)(no:Nat)(w:J)(v:aa)(w':J):Prop:=
 ∃aM:cn,b5 w' (T.bC aM T.P)/\bY T (T.bC aM T.P) w w' 2/\(∀j,aM.view j=T.C.view j)/\
  ((∃ (n:aG) (K V D:ad),v=.tuple #[dz n K V D,U8]/\hV T.gen leaf no (T.C.view no) n/\b7 (λq=>w<=q/\¬(T.bC aM T.P).M q) w' n K V D)\/
    (∃e:Int,v=.tuple #[dz im bM bM bM,e]/\Lf T leaf no e/\e≠0))
theorem Fk{no:Int}{l:c7}{e:Int}(h:dX no l=.error e):e≠0:=by
 intro he;subst he;unfold dX at h
 repeat' split at h
 all_goals first|(injection h with h;exact absurd h (by decide))|cases h
theorem Lg{no:Int}{l:c7}{p:jg}(h:dX no l=.ok p):p.body.length<=256:=by
 unfold dX at h
 repeat' split at h
 all_goals first|(cases h;done)|skip
 rename_i h1 _ _ _ _ _;injection h with h
 rw[←h];show(List.take _ (List.drop 24 l)).length<=256;rw[cF,eH];omega
theorem yE(n g:Int)(s:ad)(a:Var w' h vs 137)(b:vs.length=3){K:U2}(c:∀ai,Var ai h [n,.int .u64 g,s] 137->ag (λq=>q=h) w' ai->ai.heap.size=w'->K ai):
 bp w' h [n,.int .u64 g,s]/\(3:Nat)=3/\an (setCells w' h 0 [n,.int .u64 g,s]) K:=by
 refine⟨a.ct (by rw[b];rfl) ?_,rfl,cP a (us:=[n,.int .u64 g,s]) (by rw[b];rfl) rfl c⟩;intro v a;simp only[cZ,e2,e_]at a;rcases a with rfl|rfl|rfl<;>trivial
theorem Bp{T:aN}(h:b5 w T)(aE:T.C.D.aX<=999999999)(ac:no<T.n)(af:2<=no)(leaf:ao):
 aH aj 175 #[.pointer (some T.bd),no,leaf] w (qx T leaf no w):=by
 have bc:=h.s.bx;have aF:=h.Le ac;refine okF (ae.xt (some T.bd) (no:Int) leaf) ax.xt func175 ?_;(delta ae.xt z5 dH ak Ac Y we aW al rf ou bO r1 tu kX;dsimp only);refine a6 (vs:=[false,(),(),()]) rfl λw1 aI am be=>?_;obtain⟨o,L⟩:=U6 (λq=>T.G q\/q=w.heap.size);have an:o w.heap.size:=by rw[L];exact .inr rfl
 have N:∀q,T.G q->o q:=λq c=>by rw[L];exact .inl c
 have O:∀q,o q->T.G q\/q=w.heap.size:=λq c=>by rw[L]at c;exact c
 have h1:b5 w1 (T.cx T.E o):=h.grow (W:=λ_=>False) am (λ_ h=>h.elim) (λq c=>.inl c) (λq c=>.inr ((O q c).imp id λe=>⟨I,I⟩)) λq c hg=>by
  rcases O q hg with h2|h2
  .exact(h.dv q c).2.2 h2
  .have:=h.lt (q:=q) (.inr (.inr (.inr (.inl c))));omega
 refine⟨_,rfl,_,h1.cells.1,(Lb h1.ca aE (no:=no) (h1.n▸ac) af).use ?_⟩;rintro _ m ⟨aM,aJ,R,t,aK⟩;obtain⟨S,aL⟩:=h1.yD (P:=T.P) aJ R (λno bN aO=>by rw[t];exact h1.eS no bN aO);have bf:=R.ah.size;have ap:Var m w [false,(),(),()] 169:=aI.ah R.ah λhf=>(h1.ca.inv.fD _ (.inr (.inr (.inr an)))).2 hf
 have fin:∀w':J,ag (λq=>q=w) m w'->b5 w' (T.bC aM T.P)/\bY T (T.bC aM T.P) w w' 2:=λw' hc=>by
  refine⟨S.grow (E:=T.E) (G:=T.G) hc (λq e _=>.inr (e▸an)) (λq c=>.inl c) (λq c=>.inr (.inl (N q c))) λq c=>(h.dv q c).2.2,?_⟩;have aP:=aL.local am (λq c=>.inl c) (λq c=>(O q c).imp id λe=>I) (lf:=T.E) (Bo:=T.G) (λq c=>.inl c) N;exact aP.step hc (λq e bh=>I) (λq c=>.inl c) λq c=>.inl c
 have aQ:∀ {w':J}{n:aG}{K V D:ad}{B:U1},b7 (λq=>m<=q) w' n K V D->b7 (λq=>w<=q/\¬(T.bC aM T.P).M q) w' n K V D:=λaS=>by
  refine aS.bg λq _ c=>⟨I,λj=>?_⟩;have:q<m:=S.lt (q:=q) (by
   obtain j|j|j|j|j:=j
   .exact .inl j
   .exact .inr (.inl j)
   .exact .inr (.inr (.inl j))
   .exact .inr (.inr (.inr (.inl j)))
   .exact .inr (.inr (.inr (.inr (N q j)))))
  omega
 obtain⟨s,rfl,hs⟩|⟨rfl,aU⟩:=aK
 .refine⟨s,0,rfl,nofun,λ_=>(oA hs.1 hs.2.1 (by show(T.C.view no).length<=1000;rw[aF];omega) _).use ?_⟩
  rintro _ aV ⟨y,F⟩;have aq:=ap.ext F;have bi:=F.size;have aY:(T.cx T.E o).C.view no=T.C.view no:=rfl;rw[aY]at y
  cases g:dX (no:Int) (T.C.view no) with
  |error e=>
   rw[g]at y;obtain rfl:=y;refine⟨0,0,⟨none,0,0⟩,e,rfl,a6 (vs:=[U8,.int .u64 0,()]) rfl λaZ U u a0=>?_⟩;refine yE 0 0 ⟨none,0,0⟩ U rfl λf ar v a1=>⟨λ_=>?_,λd=>?_⟩
   .have X:Var f w [false,(),(),()] 169:=(aq.ext u).ah v I
    refine jL false bM bM bM X rfl (Q:=λb K V D ai=>qx T leaf no w (.tuple #[.agg #[b,K,V,D],e]) ai) λl i=>?_;obtain⟨f1,f2⟩:=fin l (cE (W:=λq=>q=w) (ag.cX (Ext.cp (F.trans u) v I)) i λq _ e=>e);exact⟨aM,f1,f2,t,.inr ⟨e,rfl,.inr (.inl g),Fk g⟩⟩
   .have:=Fk g
    simp at d;omega
  |ok p=>
   rw[g]at y;obtain⟨z,rfl,Z,bj⟩:=y;refine⟨p.kind,p.gen,z,0,rfl,a6 (vs:=[U8,.int .u64 0,()]) rfl λaZ U u a0=>?_⟩;refine yE p.kind p.gen z U rfl λf ar v a1=>⟨nofun,λ_=>aT ?_⟩;have X:Var f w [false,(),(),()] 169:=(aq.ext u).ah v I;have a2:Ext m f:=Ext.cp (F.trans u) v I;have A:Ext m f.drew:=a2.trans (cw _);have aa:Var f.drew w [false,(),(),()] 169:=X.drew;have H:=ar.drew;have a3:=(S.ext A).cells;obtain⟨b,d⟩:=U6 aV.heap.size;rw[←d]at H⊢;have ab:f.drew.cell? b=some (.int .i64 (p.kind:Nat)):=H.cell;have a4:f.drew.cell? (Addr.add b 1)=some (.int .u64 (p.gen:Nat)):=by rw[aA];exact H.cell
   have a5:f.drew.cell? (Addr.add b 2)=some (.slice z.a z.len z.cap):=by rw[aA];exact H.cell
   have bk:m.heap.size<=f.drew.heap.size:=A.size;refine⟨id,_,a4,_,rfl,id,_,a3.2.2.1,λhg=>?_,λhg=>⟨id,_,ab,?_⟩⟩
   .have hg:T.gen<p.gen:=by
     have:(p.gen:Int)>(T.gen:Int):=b2 hg;omega
    refine cc (λb w'=>b=true/\w'=f.drew) (λq c=>⟨λ_=>c _ _ ⟨rfl,rfl⟩,λh=>by cases h⟩) ?_;rintro _ _ ⟨rfl,rfl⟩;refine⟨λ_=>?_,nofun⟩;refine jL false bM bM bM aa rfl (Q:=λb K V D ai=>qx T leaf no w (.tuple #[.agg #[b,K,V,D],(4:Int)]) ai) λl i=>?_;obtain⟨f1,f2⟩:=fin l (cE (W:=λq=>q=w) (ag.cX A) i λq _ e=>e);refine⟨aM,f1,f2,t,.inr ⟨4,rfl,.inr (.inr ⟨rfl,⟨p,g⟩,?_⟩),by decide⟩⟩;rintro n ⟨au,ay,az,_⟩;rw[g]at ay;cases ay;omega
   .have hg:p.gen<=T.gen:=by
     have:¬(p.gen:Int)>(T.gen:Int):=cr hg;omega
    refine cc (λb w'=>w'=f.drew/\(b=false↔p.kind=(if leaf then 1 else 2))) (λq c=>⟨λh=>c _ _ ⟨rfl,?_⟩,λh=>⟨_,ab,cc (λb w'=>w'=f.drew/\(b=false↔p.kind=(if leaf then 1 else 2))) (λr av=>⟨λh2=>⟨_,ab,av _ _ ⟨rfl,?_⟩⟩,λh2=>av _ _ ⟨rfl,?_⟩⟩) λb w' a7=>c b w' a7⟩⟩) ?_
    .refine⟨nofun,λx=>?_⟩
     rw[x]at h
     cases leaf<;>simp at h
    .cases leaf
     .simp
      exact Int.ofNat_inj
     .simp at h2 h;omega
    .cases leaf
     .simp at h2 h;omega
     .simp at h2
      simp;omega
    rintro bl _ ⟨rfl,x⟩;refine⟨λd=>?_,λd=>⟨_,a5,(rO ((Z.ext (Ext.cp u v I|>.trans (cw _))).src) ?_ ?_ ?_ leaf).use ?_⟩⟩
    .refine jL false bM bM bM aa rfl (Q:=λb K V D ai=>qx T leaf no w (.tuple #[.agg #[b,K,V,D],(4:Int)]) ai) λl i=>?_
     obtain⟨f1,f2⟩:=fin l (cE (W:=λq=>q=w) (ag.cX A) i λq _ e=>e);refine⟨aM,f1,f2,t,.inr ⟨4,rfl,.inr (.inr ⟨rfl,⟨p,g⟩,?_⟩),by decide⟩⟩;rintro n ⟨au,ay,az,aw,_⟩;rw[g]at ay;cases ay;rw[x.2 aw]at d;cases d
    .exact Z.2.1
    .intro k x
     have:=aR.lt Z k x;have:=u.size;show k<f;omega
    .have:=Lg g
     omega
    rintro _ a8 ⟨a9,aB⟩;have aC:Ext m a8:=A.trans aB;have aD:=aa.ext aB;obtain⟨n,K,V,D,rfl,a_,dd⟩|⟨rfl,ba⟩:=a9
    .refine⟨n.leaf,K,V,D,0,rfl,?_⟩
     refine jL n.leaf K V D aD rfl (Q:=λb K V D ai=>qx T leaf no w (.tuple #[.agg #[b,K,V,D],U8]) ai) λl i=>?_;obtain⟨f1,f2⟩:=fin l (cE (W:=λq=>q=w) (ag.cX aC) i λq _ e=>e);refine⟨aM,f1,f2,t,.inl ⟨n,K,V,D,rfl,⟨p,g,hg,x.1 d,a_,af⟩,?_⟩⟩;refine aQ (B:=λ_=>True) (b7.ah (dd.bg λq _ c=>?_) i λq c e=>?_)
     .omega
     .have:m<=q:=c
      omega
    .refine⟨false,bM,bM,bM,4,rfl,?_⟩
     refine jL false bM bM bM aD rfl (Q:=λb K V D ai=>qx T leaf no w (.tuple #[.agg #[b,K,V,D],(4:Int)]) ai) λl i=>?_;obtain⟨f1,f2⟩:=fin l (cE (W:=λq=>q=w) (ag.cX aC) i λq _ e=>e);refine⟨aM,f1,f2,t,.inr ⟨4,rfl,.inr (.inr ⟨rfl,⟨p,g⟩,?_⟩),by decide⟩⟩;rintro n ⟨au,ay,az,aw,bb,_⟩;rw[g]at ay;cases ay;exact ba n bb
 .refine⟨⟨none,0,0⟩,3,rfl,λ_=>?_,nofun⟩
  refine jL false bM bM bM ap rfl (Q:=λb K V D ai=>qx T leaf no w (.tuple #[.agg #[b,K,V,D],(3:Int)]) ai) λl i=>?_;obtain⟨f1,f2⟩:=fin l i;exact⟨aM,f1,f2,t,.inr ⟨3,rfl,.inl ⟨rfl,aU⟩,by decide⟩⟩
structure dN where
 no:Nat
 n:aG
 c3:Nat
 K:ad
 V:ad
 D:ad
def dN.c(s:dN):O aa:=[s.no,s.n.leaf,s.K,s.V,s.D,s.c3]
def dN.st(s:dN):Nat×aG×Nat:=(s.no,s.n,s.c3)
theorem oY(l:O dN):∀x∈l,(dN.c x).length=6:=λ_ _=>rfl
structure lg(B:U1)(w:J)(s:ad)(l:O dN):Prop where
 own:aR 6 223 w s (bl dN.c l)
 qy:∀q,aD s q->B q
 bN:∀x∈l,b7 B w x.n x.K x.V x.D
def oZ(P:Nat->au aG)(k:Key):Nat->Nat->O (Nat×aG×Nat)->Prop
 |0,_,l=>l=[]
 |h+1,no,l=>∃n rest,P no=some n/\n.leaf=decide (h=0)/\l=(no,n,if h=0 then 0 else dD n.keys k)::rest/\oZ P k h (n.kids.getD (dD n.keys k) 0) rest
theorem oZ.length{k:Key}:∀ {h no:Nat}{l:O (Nat×aG×Nat)},oZ P k h no l->l.length=h
 |0,_,_,h=>by rw[h];rfl
 |h+1,_,_,⟨n,rest,_,_,a,b⟩=>by rw[a,fi,oZ.length b]
theorem hV.uniq{l:c7}{m:aG}(h1:hV gen leaf no l n)(h2:hV gen leaf no l m):n=m:=by
 obtain⟨p,a1,a2,a3,a4⟩:=h1;obtain⟨q,cH,ck,b,a⟩:=h2;rw[a1]at cH
 cases cH;exact mN.uniq a4.1 a.1
theorem hV.is{l:c7}(h:hV gen leaf no l n):n.leaf=leaf/\cM n/\bS n<=232:=by
 obtain⟨p,_,_,_,a,_⟩:=h;exact⟨a.2.1,a.1,a.2.2.1⟩
theorem hV.two{l:c7}(h:hV gen leaf no l n):2<=no:=by
 obtain⟨p,_,_,_,_,a⟩:=h;exact a
theorem cM.fg(h:cM n):n.keys.Pairwise bF:=by
 obtain h|h:=h
 .exact h.fg
 .exact h.fg
def Lh(T:aN)(steps:O (Nat×aG×Nat))(w:J)(v:aa)(w':J):Prop:=
 ∃aM:cn,b5 w' (T.bC aM T.P)/\bY T (T.bC aM T.P) w w' (2*T.aK)/\(∀j,aM.view j=T.C.view j)/\
  ((∃ (s:ad) (l:O dN),v=.tuple #[s,U8]/\l.map dN.st=steps/\lg (λq=>w<=q/\¬(T.bC aM T.P).M q) w' s l)\/(v=.tuple #[(),(3:Int)]/\¬T.C.D.calm (2*T.aK)))
theorem Li(w:J)(cs:Array aa)(h:cs.size=6):Sem.run aj (Instr.buildSlice 219 1 #[(0,.agg cs)]) w=.ok (.slice (some w) 1 1) (w.alloc (.cells cs 223)):=by
 have h0:((Tryz.prog.info? 223).bind (·.zero)).isSome=true:=by kernel_rfl
 obtain⟨z,a⟩:=nU.1 h0;obtain⟨i,hi,b⟩:=uo a;have h1:(Tryz.prog.underlying 223).isSome=true:=by kernel_rfl
 obtain⟨d,hd⟩:=nU.1 h1;exact A9 (sz:=6) w U3 hd U3 hi b h (by decide) (by decide)
theorem Lj:ij aj 219 223 6 96:=⟨by kernel_rfl⟩
theorem Bq(a:n.leaf=decide (h=0)):((((h+1:Nat):Int):Int)==1)=n.leaf:=by
 rw[a,eG,kq,b8];omega
theorem Br{T:aN}{tk:ad}{k:Key}{steps:O (Nat×aG×Nat)}(h:b5 w T)(cl:T.C.D.aX<=900000000)(bw:Src 1 w tk (aC k))(bz:∀q,aD tk q->q<w/\¬T.M q)(bA:oZ T.P k T.aK T.root steps):
 aH aj 123 #[.pointer (some T.bd),tk] w (Lh T steps w):=by
 have cm:=h.num.2.1;refine okF (ae.xg (some T.bd) tk) ax.xg func123 ?_;(delta ae.xg r1 ak kX z5 Y aW al bB st aO ar;dsimp only);refine⟨_,rfl,_,h.cells.2.2.2.1,_,rfl,_,h.cells.2.2.2.2,λs n8 n9 w'=>∃ (eZ no:Nat) (l:O dN) (rest:O (Nat×aG×Nat)) (bU:U1) (aM:cn),n9=(eZ:Nat)/\n8=(no:Nat)/\oZ T.P k eZ no rest/\l.map dN.st++rest=steps/\l.length+eZ=T.aK/\
  bU=(λq=>T.E q\/aD s q)/\(∀q,aD s q->w<=q)/\b5 w' ((T.cx bU T.G).bC aM T.P)/\bY T ((T.cx bU T.G).bC aM T.P) w w' (2*l.length)/\(∀j,aM.view j=T.C.view j)/\aR 6 223 w' s (bl dN.c l)/\
  ∀x∈l,b7 (λq=>w<=q/\¬((T.cx bU T.G).bC aM T.P).M q) w' x.n x.K x.V x.D,λ_ _ n9 _=>n9.toNat,?_,?_⟩
 .have bD:T.E=λq=>T.E q\/aD ⟨none,0,0⟩ q:=by
   funext q;refine propext ⟨.inl,λh=>h.resolve_right ?_⟩;rintro⟨A,av,_⟩
   cases av
  have a0:(T.cx T.E T.G).bC T.C T.P=T:=rfl;refine⟨T.aK,T.root,[],steps,T.E,T.C,rfl,rfl,bA,rfl,by simp,bD,?_,by rw[a0];exact h,by rw[a0];exact .refl _ _,λ_=>rfl,?_,λx hx=>(by cases hx)⟩
  .rintro q ⟨A,av,_⟩
   cases av
  .exact⟨rfl,bk _,by decide,.inl ⟨rfl,rfl⟩⟩
 have fin:∀ {w':J}{bU:U1}{aM:cn}{s:ad}{k:Nat},b5 w' ((T.cx bU T.G).bC aM T.P)->bY T ((T.cx bU T.G).bC aM T.P) w w' k->bU=(λq=>T.E q\/aD s q)->(∀q,aD s q->w<=q)->b5 w' (T.bC aM T.P)/\bY T (T.bC aM T.P) w w' k:=by
  intro w' bU aM s k h1 h2 g z;have F:∀q,T.E q->bU q:=λq a=>by rw[g];exact .inl a
  exact⟨h1.grow (W:=λ_=>False) (E:=T.E) (G:=T.G) (ag.refl _ _) (λ_ h=>h.elim) (λq a=>.inl (F q a)) (λq a=>.inr (.inl a)) λq a=>(h.dv q a).2.2,
   h2.step (W:=λ_=>False) (ag.refl _ _) (λ_ h=>h.elim) (λq a=>.inl (F q a)) λq a=>.inl a⟩
 rintro s _ _ co ⟨eZ,no,l,rest,bU,aa,rfl,rfl,a7,a8,hlen,H,L,t,R,f,aq,dd⟩;have cq:=R.ah.size;refine⟨λaI=>?_,λbE=>?_⟩
 .obtain⟨o,rfl⟩:∃bF,eZ=bF+1:=⟨eZ-1,by have:(eZ:Int)>0:=b2 aI;omega⟩
  obtain⟨n,bG,bH,a9,rfl,a_⟩:=a7;obtain⟨bI,S⟩:=t.eS no n bH;have bJ:aa.D.aX<=999999999:=by
   have:aa.D.aX<=T.C.D.aX+2*l.length:=R.aX;omega
  refine(Bp t bJ bI S.two _).use ?_;rintro _ r ⟨B,h2,ab,ba,bb⟩;have au:=R.trans ab;have cs:=ab.ah.size;rw[Bq a9]at bb;rcases bb with ⟨bx,K,V,D,rfl,bK,aw⟩|⟨e,rfl,bL,bO⟩
  .obtain rfl:=hV.uniq S bK
   obtain⟨_,aB,cu⟩:=S.is;have bP:=aB.fg;have cv:=x7 aB;refine⟨n.leaf,K,V,D,0,rfl,a6 (vs:=[false,(),(),()]) rfl λbQ U aE bR=>?_⟩;refine⟨U.ct rfl ?_,rfl,cP U (us:=[n.leaf,K,V,D]) rfl rfl λac aF aJ bS=>⟨nofun,λ_=>?_⟩⟩
   .intro v f
    simp only[cZ,e2,e_]at f;rcases f with rfl|rfl|rfl|rfl<;>trivial
   have bc:Ext r ac:=Ext.cp aE aJ (bk _);have cw:=bc.size;obtain⟨b9,aZ,bo,bt⟩:=bT aF;refine⟨_,b9,K,aZ,V,bo,D,bt,#[no,n.leaf,K,V,D,U8],by kernel_rfl,?_⟩;refine a6 (vs:=[U8,false,(),(),(),U8]) rfl λcy be bf cA=>?_;refine⟨be.ct rfl ?_,rfl,cP be (us:=[no,n.leaf,K,V,D,U8]) rfl rfl λaL aP bh cC=>?_⟩
   .intro v f
    simp only[cZ,e2,e_]at f;rcases f with rfl|rfl|rfl|rfl|rfl|rfl<;>trivial
   have af:Ext r aL:=Ext.cp (bc.trans bf) bh I;have aQ:Var aL r [n.leaf,K,V,D] 169:=(aF.ext bf).ah bh I;obtain⟨sb,bV⟩:=U6 ac.heap.size;obtain⟨nb,bW⟩:=U6 r.heap.size;rw[←bV]at aP⊢;rw[←bW]at aQ⊢;have bX:=aw.ext af;refine cc (λn40 u=>n40=(((if o=0 then no else n.kids.getD (dD n.keys k) 0:Nat)):Int)/\Ext r u/\Var u sb (dN.c ⟨no,n,if o=0 then 0 else dD n.keys k,K,V,D⟩) 223) (λq a=>⟨λai=>?_,λai=>?_⟩) ?_
   .have N:o≠0:=by
     have:((o+1:Nat):Int)>1:=b2 ai;omega
    have bZ:n.leaf=false:=by rw[a9];simp[N]
    have cD:=aB.yj bZ;have cE:=x2 n.keys k;obtain⟨b9,aZ,bo,bt⟩:=bT aQ;have b0:Src 1 aL tk (aC k):=(bw.ah au.ah λq a b1=>(bz q a).2 (aN.gD b1)).ext af;refine⟨_,b9,K,aZ,V,bo,D,bt,(pS bX b0 bP I).use ?_⟩;rintro _ bi ⟨rfl,aS⟩;have bj:=aP.ext aS;obtain⟨ay,az⟩:=ez bj (i:=5) U9;rw[aA];refine⟨_,rfl,ay,az,aT ?_⟩;have bm:=dU bi sb 5 (.int .i64 ((dD n.keys k:Nat):Int));have bn:=eE bj (i:=5) (.int .i64 ((dD n.keys k:Nat):Int));have bp:Ext r (bi.setCell ⟨sb,5,none⟩ (.int .i64 ((dD n.keys k:Nat):Int))):=Ext.cp (af.trans aS) bm I;have b3:=(aQ.ext aS).ah bm I;obtain⟨d0,d1,d2,d3⟩:=bT b3;obtain⟨A,av,d,b4⟩:=c9.at (aw.ext bp).kids (i:=dD n.keys k) I;refine⟨D,d3,_,bn.cell,A,av,d,_,b4,a _ _ ⟨?_,bp,?_⟩⟩
    .rw[if_neg N,ft,dR I];rfl
    .rw[if_neg N]
     exact bn
   .have N:o=0:=by
     have:¬((o+1:Nat):Int)>1:=cr ai;omega
    refine a _ _ ⟨by rw[if_pos N],af,?_⟩;rw[if_pos N];exact aP
   rintro _ u ⟨rfl,br,b6⟩;have cF:=br.size;refine⟨_,b6.rd rfl,⟨some u.heap.size,1,1⟩,_,Li _ _ rfl,?_⟩;have aU:=c5 u (.cells (dN.c ⟨no,n,if o=0 then 0 else dD n.keys k,K,V,D⟩).toArray 223);have Q:=br.trans aU;have b8:=Q.size;have b_:=aU.size;have cb:=aq.1;rw[e5 _ (oY l)]at cb;have X:∀q,aD s q->bU q:=λq a=>by rw[H];exact .inr a
   have cd:aR 6 223 r s (bl dN.c l):=aq.ah ab.ah λq a b=>t.j_ (X q a) b;obtain⟨x,aV⟩:=U6 (⟨no,n,if o=0 then 0 else dD n.keys k,K,V,D⟩:dN);rw[←aV]at aU Q b8 b_⊢;have ce:∀v∈dN.c x,Plain v:=by
    intro v f;unfold dN.c at f;simp only[cZ,e2,e_]at f;rcases f with rfl|rfl|rfl|rfl|rfl|rfl<;>trivial
   obtain⟨am,an,a1,a2,a3,a4,a5⟩:=Lj.append (cB:=219) (x:=⟨some u.heap.size,1,1⟩) (Src.new (T:=223) u (dN.c x) 1 rfl) (cd.ext Q) ce (by show(2*(s.len+1)+1000)*96<=_;omega);have cG:=a4.size;have aY:∀q,aD am q->w<=q:=λq a=>by
    rcases a5 q a with h1|h1
    .exact L q h1
    .omega
   obtain⟨lf,bs⟩:=U6 (λq=>T.E q\/aD am q);have ao:∀q,lf q->T.E q\/aD am q:=λq a=>by rw[bs]at a;exact a
   have F:∀q,T.E q->bU q:=λq a=>by rw[H];exact .inl a
   have cf:bl dN.c (l++ [x])=bl dN.c l++dN.c x:=by rw[ke];simp[bl]
   have cg:b5 an ((T.cx lf T.G).bC B T.P):=by
    refine(h2.ext Q).grow (E:=lf) (G:=T.G) a4 (λq a _=>.inl (X q a)) (λq a=>?_) (λq a=>.inr (.inl a)) λq a hg=>?_
    .rcases ao q a with h1|h1
     .exact .inl (F q h1)
     .rcases a5 q h1 with g|g
      .exact .inl (X q g)
      .exact .inr (.inr ⟨g,aR.lt a2 q h1⟩)
    .rcases ao q a with h1|h1
     .exact(h.dv q h1).2.2 hg
     .have g:=h.lt (q:=q) (.inr (.inr (.inr (.inr hg))))
      have:=aY q h1;omega
   have ch:bY T ((T.cx lf T.G).bC B T.P) w an (2*(l++ [x]).length):=by
    have h1:=(au.trans (bY.ext _ Q)).mono (l:=2*(l++ [x]).length) (by rw[cz,jW];omega);refine h1.step (E:=lf) (G:=T.G) a4 (λq a ai=>by have:=L q a;omega) (λq a=>?_) λq a=>.inl a;rcases ao q a with h1|h1
    .exact .inl (F q h1)
    .exact .inr (.inr (aY q h1))
   have bu:∀ {m:aG}{K V D:ad},b7 (λq=>w<=q/\¬((T.cx bU T.G).bC B T.P).M q) r m K V D->b7 (λq=>w<=q/\¬((T.cx lf T.G).bC B T.P).M q) an m K V D:=λ{m K V D} b=>by
    have h1:=(b.ext Q).bg (C:=λq=>q<(u.alloc (.cells (dN.c x).toArray 223)).heap.size/\w<=q/\¬((T.cx bU T.G).bC B T.P).M q) λq a d=>⟨a,d⟩;refine(b7.ah h1 a4 λq a ci=>a.2.2 (.inr (.inr (.inr (.inl (X q ci)))))).bg λq _ d=>⟨d.2.1,λb=>d.2.2 ?_⟩;rcases b with b|b|b|b|b
    .exact .inl b
    .exact .inr (.inl b)
    .exact .inr (.inr (.inl b))
    .refine .inr (.inr (.inr (.inl ?_)))
     show bU q;rcases ao q b with g|g
     .exact F q g
     .rcases a5 q g with z|z
      .exact X q z
      .have:=d.1;omega
    .exact .inr (.inr (.inr (.inr b)))
   have bv:IntKind.wrap .i64 (((o+1:Nat):Int)-1)=(o:Nat):=by rw[bq I I];omega
   refine⟨am,an,a1,⟨o,_,l++ [x],bG,lf,B,bv,rfl,?_,?_,by rw[cz,jW];omega,bs,aY,cg,ch,λj=>(ba j).trans (f j),by rw[cf];exact a2,?_⟩,?_⟩
   .cases o with
    |zero=>exact a_
    |succ m=>rw[if_neg I];exact a_
   .rw[←a8,fP,cO,aV];rfl
   .intro y Z
    rcases cR.1 Z with Z|Z
    .exact bu (ab.bN (dd y Z))
    .obtain rfl:=e8.1 Z
     subst aV;exact bu (aw.bg λq _ d=>⟨by have:=d.1;omega,d.2⟩)
   .rw[bv]
    show(o:Int).toNat<(((o+1:Nat):Int)).toNat;omega
  .refine⟨false,bM,bM,bM,e,rfl,a6 (vs:=[false,(),(),()]) rfl λbQ U aE bR=>?_⟩
   refine⟨U.ct rfl ?_,rfl,cP U (us:=[false,(),(),()]) rfl rfl λac aF aJ bS=>⟨λ_=>?_,λd=>?_⟩⟩
   .intro v f
    simp only[cZ,e2,e_]at f;rcases f with rfl|rfl|rfl|rfl<;>trivial
   .have hx:Ext r ac:=Ext.cp aE aJ (bk _)
    have he:e=3/\¬aa.D.calm 2:=by
     rcases bL with h1|h1|⟨_,_,h1⟩
     .exact h1
     .obtain⟨p,ay,_⟩:=S
      rw[ay]at h1;cases h1
     .exact absurd S (h1 n)
    obtain⟨rfl,cj⟩:=he;obtain⟨g,z⟩:=fin (k:=2*T.aK) (h2.ext hx) ((au.trans (bY.ext _ hx)).mono I) H L;exact⟨B,g,z,λj=>(ba j).trans (f j),.inr ⟨rfl,λhc=>cj (R.calm 2 (gq hc I))⟩⟩
   .simp at d;exact absurd d bO
 .have h0:eZ=0:=by
   have:¬(eZ:Int)>0:=cr bE;omega
  subst h0;have ck:rest=[]:=a7;subst ck;obtain⟨g,z⟩:=fin (k:=2*T.aK) t (R.mono I) H L;refine⟨aa,g,z,f,.inl ⟨s,l,rfl,by rw[←a8,fp],aq,λq a=>⟨L q a,λb=>?_⟩,λx hx=>?_⟩⟩
  .have cH:=L q a
   have ap:bU q:=by rw[H];exact .inr a
   rcases b with b|b|b|b|b
   .exact(t.ca.inv.fD q (.inr (.inr (.inl ap)))).2 b
   .exact(t.dv q ap).1 b
   .exact(t.dv q ap).2.1 b
   .have:=h.lt (q:=q) (.inr (.inr (.inr (.inl b))));omega
   .exact(t.dv q ap).2.2 b
  .refine(dd x hx).bg λq _ d=>⟨d.1,λb=>d.2 ?_⟩
   rcases b with b|b|b|b|b
   .exact .inl b
   .exact .inr (.inl b)
   .exact .inr (.inr (.inl b))
   .refine .inr (.inr (.inr (.inl ?_)))
    show bU q;rw[H];exact .inl b
   .exact .inr (.inr (.inr (.inr b)))
def aN.kg(T:aN)(f:Nat->ao):aN:={T with f:=f}
structure dQ where
 cb:Nat
 ma:ad
 g4:ad
 made:O Nat
 left:O Nat
structure dE(w:J)(T:aN)(c:dQ):Prop where
 t:b5 w T
 v:Var w c.cb [.pointer (some T.bd),c.ma,c.g4] 284
 ma:aR 1 3 w c.ma (ej c.made)
 g4:aR 1 3 w c.g4 (ej c.left)
 gc:T.G c.cb
 fE:∀q,aD c.ma q->T.G q/\q≠c.cb/\¬aD c.g4 q
 lM:∀q,aD c.g4 q->T.G q/\q≠c.cb
 ns:¬T.C.D.ro
theorem Bs{ds:O Nat}(d:Nat)(b:aR 1 3 w s (ej ds))(i:ds.length<=1000000):
 ∃ (a:ad) (w':J),Sem.run aj (Builtin.append_ #[72,72] 72 #[s,.slice (some w) 1 1]) (w.alloc (.cells #[d] 3))=.ok a w'/\
  aR 1 3 w' a (ej (ds++ [d]))/\ag (aD s) w w'/\(∀k,aD a k->aD s k\/w<=k)/\ag (aD s) (w.alloc (.cells #[d] 3)) w':=by
 have j:s.len=ds.length:=by have:=b.1;rw[oQ]at this;omega
 have hc:Ext w (w.alloc (.cells #[d] 3)):=c5 _ _;have l:(w.alloc (.cells #[d] 3)).heap.size=w+1:=qe _ _;obtain⟨a,w',h1,h2,m,c,e⟩:=qf.append (cB:=72) (x:=⟨some w.heap.size,1,1⟩) (Src.new (T:=3) w [d] 1 rfl) (b.ext hc) (λv f=>by rw[e8.1 f];trivial) (by show(2*(s.len+1)+1000)*8<=_;omega);exact⟨a,w',h1,by simpa[ej] using h2,(ag.cX hc).trans c,λk g=>(e k g).imp id (λh=>I),c⟩
section
variable {w w':J}{T aq:aN}{c:dQ}
theorem dE.of(h:dE w T c)(d:b5 w' aq)(hc:ag W w w')(cv:∀q,T.G q->¬W q)(f:aq.bd=T.bd)(b:∀q,T.G q->aq.G q)(g:aq.C.D.cl=T.C.D.cl:=by rfl):dE w' aq c:=
 ⟨d,by rw[f];exact h.v.ah hc (cv _ h.gc),h.ma.ah hc λq a=>cv q (h.fE q a).1,h.g4.ah hc λq a=>cv q (h.lM q a).1,b _ h.gc,λq a=>⟨b q (h.fE q a).1,(h.fE q a).2⟩,λq a=>⟨b q (h.lM q a).1,(h.lM q a).2⟩,λe=>h.ns λi=>g▸e i⟩
theorem dE.ext(h:dE w T c)(hx:Ext w w'):dE w' T c:=h.of (h.t.ext hx) hx (λ_ _ h=>h) rfl λ_ h=>h
theorem dE.cells(h:dE w T c):w.cell? c.cb=some (.pointer (some T.bd))/\w.cell? (Addr.add c.cb 1)=some (.slice c.ma.a c.ma.len c.ma.cap)/\w.cell? (Addr.add c.cb 2)=some (.slice c.g4.a c.g4.len c.g4.cap):=by
 rw[aA,aA];exact⟨h.v.cell,h.v.cell,h.v.cell⟩
theorem b5.uy(h:b5 w T)(a:T.G q):¬du T.C q:=λhf=>(h.ca.inv.fD q (.inr (.inr (.inr a)))).2 hf
theorem b5.yF{f:Nat->ao}(h:b5 w T)(hs:fc w' T.sb T.n f T.g T.s1 T.s2)(hc:ag (gr T.sb T.s1 T.s2) w w'):b5 w' (T.kg f)/\bY T (T.kg f) w w' 0:=
 ⟨⟨h.t.ah hc h.ld,hs,h.ca.ah hc λq a=>.inr (.inl a),h.ld,h.dv,h.jy,h.n,h.num,h.eS,h.cl,h.low⟩,
  ⟨rfl,rfl,rfl,rfl,rfl,rfl,rfl,rfl,rfl,rfl,bk _,λ_ h=>h,hc.mono λq _ a=>.inr (.inr (.inl a)),λq h=>.inl h,λq h=>.inl h⟩⟩
theorem Lk(h:dE w T c)(no:Nat)(x:c.made.length<=100000):
 ∃ (b:ad) (ai:J),Sem.run aj (Builtin.append_ #[72,72] 72 #[c.ma,.slice (some w) 1 1]) (w.alloc (.cells #[no] 3))=.ok b ai/\
  ag (aD c.ma) (w.alloc (.cells #[no] 3)) ai/\(∃u:aa,ai.cell? ⟨c.cb,1,none⟩=some u)/\ai.frozen? ⟨c.cb,1,none⟩=false/\
  ∀j,j=ai.setCell ⟨c.cb,1,none⟩ b->dE j (T.cx T.E λq=>T.G q\/aD b q) {c with ma:=b,made:=c.made++ [no]}/\bY T (T.cx T.E λq=>T.G q\/aD b q) w j 0:=by
 obtain⟨b,ai,ay,az,d,f,o⟩:=Bs no h.ma I;have cv:∀q,aD c.ma q->T.G q:=λq a=>(h.fE q a).1;have y:=d.size;have l:=h.v.ah d λa=>(h.fE _ a).2.1 rfl;obtain⟨b1,cf⟩:=ez l (i:=1) U9;refine⟨b,ai,ay,o,b1,cf,?_⟩;rintro _ rfl;have g:=dU ai c.cb 1 b;have p:=eE l (i:=1) b;have k:ag T.G w (ai.setCell ⟨c.cb,1,none⟩ b):=cE (d.mono λq _ a=>cv q a) g λq _ e=>by rw[e];exact h.gc
 have z:=k.size;have aI:∀q,aD b q->q<ai:=λq a=>aR.lt az q a;have m:∀q,aD b q->T.G q\/(w<=q/\q<(ai.setCell ⟨c.cb,1,none⟩ b).heap.size):=λq a=>by
  rcases f q a with h1|h1
  .exact .inl (cv q h1)
  .exact .inr ⟨h1,U5 (aI q a) g.size⟩
 have n:∀q,aD b q->q≠c.cb:=λq a e=>by
  rcases f q a with h1|h1
  .exact(h.fE q h1).2.1 e
  .have:=h.v.lt;omega
 have r:∀q,aD b q->¬aD c.g4 q:=λq a e=>by
  rcases f q a with h1|h1
  .exact(h.fE q h1).2.2 e
  .have:=aR.lt h.g4 q e;omega
 have s:=h.t.grow (E:=T.E) (G:=λq=>T.G q\/aD b q) k (λq a _=>.inr a) (λq a=>.inl a) (λq a=>by
  obtain a|a:=a
  .exact .inr (.inl a)
  .exact .inr (m q a)) λq a hg=>by
  obtain hg|hg:=hg
  .exact(h.t.dv q a).2.2 hg
  .rcases f q hg with h1|h1
   .exact(h.t.dv q a).2.2 (cv q h1)
   .have:=h.t.lt (q:=q) (.inr (.inr (.inr (.inl a))));omega
 refine⟨⟨s,p,?_,(h.g4.ah d λq a e=>(h.fE q e).2.2 a).ah g λq a e=>(h.lM q a).2 e,.inl h.gc,λq a=>⟨.inr a,n q a,r q a⟩,λq a=>⟨.inl (h.lM q a).1,(h.lM q a).2⟩,h.ns⟩,?_⟩
 .have:aR 1 3 ai b (ej (c.made++ [no])):=az
  exact this.ah g λq a e=>n q a e
 .have h0:bY T T w w 0:=.refl _ _
  exact h0.step k (λq a _=>.inr (.inr (.inr a))) (λq a=>.inl a) λq a=>by
   obtain a|a:=a
   .exact .inl a
   .exact(m q a).imp id λe=>e.1
theorem Fl(h:dE w T c)(no:Nat)(x:c.left.length<=100000):
 ∃ (b:ad) (ai:J),Sem.run aj (Builtin.append_ #[72,72] 72 #[c.g4,.slice (some w) 1 1]) (w.alloc (.cells #[no] 3))=.ok b ai/\
  ag (aD c.g4) (w.alloc (.cells #[no] 3)) ai/\(∃u:aa,ai.cell? ⟨c.cb,2,none⟩=some u)/\ai.frozen? ⟨c.cb,2,none⟩=false/\
  ∀j,j=ai.setCell ⟨c.cb,2,none⟩ b->dE j (T.cx T.E λq=>T.G q\/aD b q) {c with g4:=b,left:=c.left++ [no]}/\bY T (T.cx T.E λq=>T.G q\/aD b q) w j 0:=by
 obtain⟨b,ai,ay,az,d,f,o⟩:=Bs no h.g4 I;have cv:∀q,aD c.g4 q->T.G q:=λq a=>(h.lM q a).1;have y:=d.size;have l:=h.v.ah d λa=>(h.lM _ a).2 rfl;obtain⟨b1,cf⟩:=ez l (i:=2) U9;refine⟨b,ai,ay,o,b1,cf,?_⟩;rintro _ rfl;have g:=dU ai c.cb 2 b;have p:=eE l (i:=2) b;have k:ag T.G w (ai.setCell ⟨c.cb,2,none⟩ b):=cE (d.mono λq _ a=>cv q a) g λq _ e=>by rw[e];exact h.gc
 have z:=k.size;have aI:∀q,aD b q->q<ai:=λq a=>aR.lt az q a;have m:∀q,aD b q->T.G q\/(w<=q/\q<(ai.setCell ⟨c.cb,2,none⟩ b).heap.size):=λq a=>by
  rcases f q a with h1|h1
  .exact .inl (cv q h1)
  .exact .inr ⟨h1,U5 (aI q a) g.size⟩
 have n:∀q,aD b q->q≠c.cb:=λq a e=>by
  rcases f q a with h1|h1
  .exact(h.lM q h1).2 e
  .have:=h.v.lt;omega
 have r:∀q,aD c.ma q->¬aD b q:=λq e a=>by
  rcases f q a with h1|h1
  .exact(h.fE q e).2.2 h1
  .have:=aR.lt h.ma q e;omega
 have s:=h.t.grow (E:=T.E) (G:=λq=>T.G q\/aD b q) k (λq a _=>.inr a) (λq a=>.inl a) (λq a=>by
  obtain a|a:=a
  .exact .inr (.inl a)
  .exact .inr (m q a)) λq a hg=>by
  obtain hg|hg:=hg
  .exact(h.t.dv q a).2.2 hg
  .rcases f q hg with h1|h1
   .exact(h.t.dv q a).2.2 (cv q h1)
   .have:=h.t.lt (q:=q) (.inr (.inr (.inr (.inl a))));omega
 refine⟨⟨s,p,(h.ma.ah d λq a e=>(h.fE q a).2.2 e).ah g λq a e=>(h.fE q a).2.1 e,?_,.inl h.gc,λq a=>⟨.inl (h.fE q a).1,(h.fE q a).2.1,r q a⟩,λq a=>⟨.inr a,n q a⟩,h.ns⟩,?_⟩
 .have:aR 1 3 ai b (ej (c.left++ [no])):=az
  exact this.ah g λq a e=>n q a e
 .have h0:bY T T w w 0:=.refl _ _
  exact h0.step k (λq a _=>.inr (.inr (.inr a))) (λq a=>.inl a) λq a=>by
   obtain a|a:=a
   .exact .inl a
   .exact(m q a).imp id λe=>e.1
end
def cy(T:aN):Nat:=T.n-e1 (λi=>T.f i||T.g i) T.n
theorem Fm{s:Nat->ao}:∀ {n:Nat},(∀i,i<n->s i=t i)->e1 s n=e1 t n
 |0,_=>rfl
 |n+1,h=>by
  unfold e1
  rw[Fm (n:=n) λi hi=>h i I,h n I]
theorem uz{s:Nat->ao}(a:s k=false)(ht:t k=true)(he:∀i,i≠k->t i=s i):∀ {n:Nat},k<n->e1 t n=e1 s n+1
 |0,h=>by omega
 |n+1,h=>by
  unfold e1
  by_cases e:k=n
  .subst e
   rw[Fm (s:=t) (t:=s) (n:=k) λi hi=>he i I,a,ht]
   simp
  .rw[uz a ht he (n:=n) I,he n I]
   omega
theorem Fo:∀ {n:Nat},(∀i,i<n->t i=true)->e1 t n=n
 |0,_=>rfl
 |n+1,h=>by
  unfold e1
  rw[Fo (n:=n) λi hi=>h i I,h n I]
  simp
theorem Fp{T:aN}(h:1<=cy T):∃no,firstFree (λi=>T.f i||T.g i) T.n=some no:=by
 cases hf:firstFree (λi=>T.f i||T.g i) T.n with
 |some no=>exact⟨no,rfl⟩
 |none=>
  have:=Fo (KN hf);unfold cy at h;rw[this]at h;omega
structure dF(T aq:aN)(c c':dQ)(m l:O Nat)(w w':J)(k:Nat):Prop where
 to:bY T aq w w' k
 E:aq.E=T.E
 G:∀q,T.G q->aq.G q
 root:aq.root=T.root
 aK:aq.aK=T.aK
 cb:c'.cb=c.cb
 made:c'.made=c.made++m
 left:c'.left=c.left++l
 bN:m.Nodup
 kL:∀no∈m,(T.f no||T.g no)=false/\no<T.n
 f:∀no,aq.f no=(T.f no||decide (no∈m))
 eU:∀no,(T.f no||T.g no)=true->aq.P no=T.P no/\aq.C.view no=T.C.view no
 room:cy aq+m.length=cy T
theorem dF.ext(T:aN)(c:dQ)(h:Ext w w'):dF T T c c [] [] w w' 0:=
 ⟨.ext T h,rfl,λ_ h=>h,rfl,rfl,rfl,by simp,by simp,List.nodup_nil,λ_ h=>(by cases h),λno=>by simp,λ_ _=>⟨rfl,rfl⟩,by simp⟩
theorem dF.trans{T aq j:aN}{c c' o:dQ}{p:O Nat}{s:J}{t:Nat}(h1:dF T aq c c' m l w w' k)(h2:dF aq j c' o p r w' s t):dF T j c o (m++p) (l++r) w s (k+t):=by
 have hg:aq.g=T.g:=h1.to.g;have u:aq.n=T.n:=h1.to.n;have hf:∀no,(T.f no||T.g no)=true->(aq.f no||aq.g no)=true:=λno h=>by
  rw[h1.f,hg]
  cases d:T.f no<;>cases i:T.g no<;>simp[d,i]at h⊢
 refine⟨h1.to.trans h2.to,h2.E.trans h1.E,λq h=>h2.G q (h1.G q h),h2.root.trans h1.root,h2.aK.trans h1.aK,h2.cb.trans h1.cb,by rw[h2.made,h1.made,cO],by rw[h2.left,h1.left,cO],?_,λno h=>?_,λno=>?_,λno h=>?_,?_⟩
 .rw[o8]
  refine⟨h1.bN,h2.bN,λa v b x e=>?_⟩;subst e;have:=(h2.kL a x).1;rw[h1.f]at this;simp[v]at this
 .rcases cR.1 h with h|h
  .exact h1.kL no h
  .have d:=h2.kL no h
   rw[h1.f,hg,u]at d;refine⟨?_,d.2⟩
   cases y:T.f no<;>cases z:T.g no<;>simp[y,z]at d⊢
 .rw[h2.f,h1.f]
  simp only[cR,Bool.decide_or,Bool.or_assoc]
 .have d:=h2.eU no (hf no h)
  have i:=h1.eU no h;exact⟨d.1.trans i.1,d.2.trans i.2⟩
 .have:=h1.room
  have:=h2.room;rw[cz];omega
theorem dF.mono{T aq:aN}{c c':dQ}{j:Nat}(h:dF T aq c c' m l w w' k)(a:k<=j):dF T aq c c' m l w w' j:=⟨h.to.mono a,h.E,h.G,h.root,h.aK,h.cb,h.made,h.left,h.bN,h.kL,h.f,h.eU,h.room⟩
def Fq(T:aN)(c:dQ)(n:aG)(w:J)(v:aa)(w':J):Prop:=
 ∃ (no:Nat) (aq:aN) (c':dQ),dE w' aq c'/\dF T aq c c' [no] [] w w' 1/\
  ((v=.tuple #[no,U8]/\aq.P no=some n)\/(v=.tuple #[no,(3:Int)]/\¬T.C.D.calm 1))
theorem cM.eB(h:cM n)(h2:bS n<=400):n.keys.length<=200/\n.vals.length<=200/\n.kids.length<=201:=by
 have:=x7 h;obtain h|h:=h
 .have:=h.len
  have a:n.kids.length=0:=by rw[h.kids];rfl
  omega
 .have:=h.len
  have a:n.vals.length=0:=by rw[h.vals];rfl
  omega
theorem yG{T:aN}{c:dQ}(h:dE w T c)(be:T.C.D.aX<=900000100)(U:1<=cy T)(bf:c.made.length<=1000)(aE:b7 B w n K V D)(hs:cM n)(h2:bS n<=232):
 aH aj 265 #[.pointer (some c.cb),dz n K V D] w (Fq T c n w):=by
 obtain⟨no,W⟩:=Fp U;obtain⟨u,y,_⟩:=EW W;have H:=h.t.s.bx;have bg:=hs.eB I;refine okF (ae.xO (some c.cb) n.leaf K V D) ax.xO func265 ?_;(delta ae.xO aW Y al dH ak g9 st bO bB;dsimp only);refine a6 (vs:=[n.leaf,K,V,D]) rfl λw1 X Z bh=>?_;obtain⟨b9,aZ,bo,bt⟩:=bT X;refine⟨_,b9,K,aZ,V,bo,D,bt,(rV (aE.ext Z) I I I).use ?_⟩;rintro _ aF ⟨aI,ab⟩;obtain⟨s,rfl,aJ,aK,_,_⟩|⟨e,rfl,he,aL⟩:=aI
 rotate_left
 .have:=aL hs;omega
 have L:=Z.trans ab;have r:=h.ext L;refine⟨s,0,rfl,nofun,λ_=>⟨_,rfl,_,r.cells.1,_,rfl,_,r.t.cells.2.1,(EY r.t.s).use ?_⟩⟩;rintro _ aO ⟨rfl,gx,ac⟩;rw[W]at gx⊢;obtain⟨aP,M⟩:=r.t.yF gx ac;have af:dE aO (T.kg (dA T.f no true)) c:=r.of aP ac (λq a hf=>(h.t.jy q a).2 hf) rfl λ_ h=>h;refine⟨(no:Nat),0,rfl,nofun,λ_=>⟨_,rfl,_,af.cells.2.1,?_⟩⟩;obtain⟨z,ai,ay,az,aQ,aS,aU⟩:=Lk af no I;refine aT ⟨z,ai,ay,_,rfl,aQ,aS,aT ?_⟩;rw[aA];obtain⟨o,am⟩:=U6 (ai.setCell ⟨c.cb,0+1,none⟩ z);rw[←am];obtain⟨A,O⟩:=aU o am;obtain⟨an,bi⟩:=U6 (λq=>T.G q\/aD z q);have ao:∀q,T.N q->q<w:=λq a=>h.t.lt (aN.gD a);have bj:=L.size;have bl:=M.ah.size;have bm:=O.ah.size;have ap:ag T.N aF o:=M.ah.trans O.ah;have aV:Var o w [n.leaf,K,V,D] 169:=(X.ext ab).ah ap λa=>U4 (ao _ a)
 have aY:aR 1 5 o s (aC (j7 n)):=aJ.ah ap λq a a0=>U5 (ao _ a0) (aK q a)
 have hlen:=AI hs;have H:2<=no:=by
  have e:(T.f no||T.g no)=false:=y;have F:T.g no=false:=by cases hg:T.g no<;>simp_all
  have:=h.t.low;rcases dV no 2 with Q|Q
  .rcases pg no with ar|ar
   .rw[ar,this.1]at F;cases F
   .rw[show no=1 from I,this.2]at F;cases F
  .exact Q
 have R:oN ⟨if n.leaf then 1 else 2,T.gen,j7 n⟩:=by
  refine⟨?_,?_,h.t.num.2.2,by show(j7 n).length<=232;omega⟩
  .show 1<=(if n.leaf then 1 else 2);split<;>omega
  .show(if n.leaf then 1 else 2)<=4;split<;>omega
 refine cc (λn27 a1=>n27=((if n.leaf then 1 else 2:Nat):Int)/\a1=o) (λq a=>⟨n.leaf,aV.cell,λd=>a _ _ ⟨by rw[d];rfl,rfl⟩,λd=>a _ _ ⟨by rw[d];rfl,rfl⟩⟩) ?_;rintro _ _ ⟨rfl,rfl⟩;refine⟨_,rfl,_,A.cells.1,_,rfl,_,A.t.cells.2.2.1,(yf (no:=no) (p:=⟨if n.leaf then 1 else 2,T.gen,j7 n⟩) aY.src I R).use ?_⟩;rintro _ bn ⟨s2,rfl,av,aw,a2⟩;have l:=A.ext aw;refine⟨s2,0,rfl,nofun,λ_=>⟨_,rfl,_,l.cells.1,_,rfl,_,l.t.cells.1,(Fj l.t.ca (by show T.C.D.aX<=999999999;omega) (no:=no) (l.t.n▸u) H (λhs=>by have:=l.t.cl no hs;have e:(T.f no||T.g no)=false:=y;obtain this|this:=this;(rw[show T.g no=true from this,Bool.or_true]at e;cases e);exact l.ns this) av.src (uf no R) λq a=>⟨aR.lt av q a,λhf=>?_⟩).use ?_⟩⟩
 .have:=a2 q a
  have:=A.t.lt (q:=q) (.inl hf);omega
 rintro _ a3 ⟨aM,a4,S,a5⟩;have a7:∀j,dA T.f no true j=(T.f j||decide (j∈ [no])):=λj=>by
  unfold dA;by_cases e:j=no
  .subst e;simp
  .simp[e]
 have aB:(T.f no||T.g no)=false:=y;have a8:T.n-e1 (λi=>dA T.f no true i||T.g i) T.n+1=cy T:=by
  have:=uz (s:=λi=>T.f i||T.g i) (t:=λi=>dA T.f no true i||T.g i) (k:=no) y (by simp[dA]) (λi hi=>by simp[dA,hi]) u;unfold cy at U⊢;have Q:=nF (λi=>T.f i||T.g i) T.n;omega
 have main:∀ (P':Nat->au aG) (v:aa),(∀j,j≠no->P' j=T.P j)->(∀j,j≠no->aM.view j=T.C.view j)->(∀j bN,P' j=some bN->j<T.n/\hV T.gen bN.leaf j (aM.view j) bN)->
  ((v=.tuple #[no,U8]/\P' no=some n)\/(v=.tuple #[no,(3:Int)]/\¬T.C.D.calm 1))->Fq T c n w v a3:=by
  intro P' v a9 eN a_ m;obtain⟨ba,bb⟩:=l.t.yD (P:=P') a4 S a_;have bc:=l.of (aq:=((T.kg (dA T.f no true)).cx T.E λq=>T.G q\/aD z q).bC aM P') ba S.ah (λq a=>l.t.uy a) rfl (λ_ h=>h) S.cl;refine⟨no,_,_,bc,⟨?_,rfl,λq a=>.inl a,rfl,rfl,rfl,rfl,(fp _).symm,by simp,λx hx=>?_,a7,λj b=>?_,a8⟩,m⟩
  .have:=(((bY.ext T L).trans M).trans O).trans ((bY.ext _ aw).trans bb)
   exact this.mono I
  .obtain rfl:=e8.1 hx
   exact⟨aB,u⟩
  .have:j≠no:=λe=>by rw[e,aB]at b;cases b
   exact⟨a9 j this,eN j this⟩
 obtain⟨rfl,m⟩|⟨rfl,bd,m⟩:=a5
 .refine⟨0,rfl,main (λj=>if j=no then some n else T.P j) _ (λj b=>if_neg b) (λj b=>(m j).trans (if_neg b)) (λj bN b=>?_) (.inl ⟨rfl,if_pos rfl⟩)⟩
  by_cases e:j=no
  .subst e
   rw[if_pos rfl]at b
   cases b;rw[m,if_pos rfl];exact⟨u,_,yb I R,bk _,rfl,⟨hs,rfl,h2,rfl⟩,H⟩
  .rw[if_neg e]at b
   rw[m,if_neg e];exact h.t.eS j bN b
 .refine⟨3,rfl,main T.P _ (λ_ _=>rfl) (λj _=>m j) (λj bN b=>?_) (.inr ⟨rfl,bd⟩)⟩
  rw[m];exact h.t.eS j bN b
theorem Ll(w:J)(x:Int):Sem.run aj (Instr.buildSlice 317 1 #[(0,.agg #[(),x])]) w=
 .ok (.slice (some w) 1 1) (w.alloc (.cells #[(),x] 325)):=by kernel_rfl
theorem Lm(w:J)(x y:Int)(t:ad):Sem.run aj (Instr.buildSlice 317 2 #[(0,.agg #[(),x]),(1,.agg #[t,y])]) w=
 .ok (.slice (some w) 2 2) (w.alloc (.cells #[(),x,t,y] 325)):=by kernel_rfl
theorem cM.Ax(h:cM n)(h1:1<=cD n)(h2:if n.leaf then cD n<=n.keys.length-1/\1<=n.keys.length-1 else cD n<=n.keys.length-2/\1<=n.keys.length-2):cM (n.left (cD n))/\cM (n.right (cD n)):=by
 obtain h|h:=h
 .have a:=h.leaf
  rw[if_pos a]at h2;unfold aG.left aG.right;rw[if_pos a,if_pos a];have hlen:=h.len;refine⟨.inl ⟨⟨λk b=>h.ok k (fq b),h.fg.sublist (u5 _ _)⟩,rfl,?_,rfl,λv c=>h.vals v (fq c)⟩,.inl ⟨⟨λk b=>h.ok k (fZ b),h.fg.sublist (List.drop_sublist _ _)⟩,rfl,?_,rfl,λv c=>h.vals v (fZ c)⟩⟩
  .simp only[cF];omega
  .simp only[eH];omega
 .have a:=h.inner
  rw[if_neg (by rw[a];simp)]at h2;unfold aG.left aG.right;rw[if_neg (by rw[a];simp),if_neg (by rw[a];simp)];have hlen:=h.len;refine⟨.inr ⟨⟨λk b=>h.ok k (fq b),h.fg.sublist (u5 _ _)⟩,rfl,?_,?_,rfl,λv c=>h.kids v (fq c)⟩,.inr ⟨⟨λk b=>h.ok k (fZ b),h.fg.sublist (List.drop_sublist _ _)⟩,rfl,?_,?_,rfl,λv c=>h.kids v (fZ c)⟩⟩
  .intro e
   have:=congrArg List.length e;simp only[cF,lv]at this;omega
  .simp only[cF];omega
  .intro e
   have:=congrArg List.length e;simp only[eH,lv]at this;omega
  .simp only[eH];omega
def me(B:U1)(w:J)(s:ad)(ks:O Key)(kids:O Nat):Prop:=
 (∃b x,s=⟨some ⟨b,0,none⟩,1,1⟩/\ks=[]/\kids=[x]/\Var w b [.slice none 0 0,.int .i64 (x:Nat)] 325/\B b)\/
 (∃b x y k t,s=⟨some ⟨b,0,none⟩,2,2⟩/\ks=[k]/\kids=[x,y]/\Var w b [.slice none 0 0,.int .i64 (x:Nat),.slice t.a t.len t.cap,.int .i64 (y:Nat)] 325/\B b/\bI B w t k/\k≠ [])
def iM(T:aN)(c:dQ)(n:aG)(w:J)(v:aa)(w':J):Prop:=
 ∃ (aq:aN) (c':dQ) (m:O Nat) (s:ad),dE w' aq c'/\dF T aq c c' m [] w w' 2/\m.length<=2/\
  ((∃ks,v=.tuple #[s,U8]/\nz aq.P n ks m/\me (λq=>¬aq.M q) w' s ks m)\/(v=.tuple #[s,(3:Int)]/\¬T.C.D.calm 2))
theorem Fs{T:aN}{c:dQ}(h:dE w T c)(l:T.C.D.aX<=900000100)(m:1<=cy T)(o:c.made.length<=1000)(p:b7 B w n K V D)(hs:cM n)(h2:bS n<=232):
 aH aj 234 #[.pointer (some ⟨c.cb,0,none⟩),dz n K V D] w (iM T c n w):=by
 refine okF (ae.xI (some ⟨c.cb,0,none⟩) n.leaf K V D) ax.xI func234 ?_;(delta ae.xI aW Y al g9;dsimp only);refine a6 (vs:=[.bool n.leaf,.slice K.a K.len K.cap,.slice V.a V.len V.cap,.slice D.a D.len D.cap]) rfl λw1 q f z=>?_;obtain⟨b9,aZ,bo,bt⟩:=bT q;refine⟨_,b9,K,aZ,V,bo,D,bt,(yG (h.ext f) l m o (p.ext f) hs h2).use ?_⟩;rintro _ b ⟨no,aq,c',g,r,s⟩;have i:∀ (e:Int),((e=0/\aq.P no=some n)\/(e=3/\¬T.C.D.calm 1))->∃ (d:ad) (j:J),Sem.run aj (Instr.buildSlice 317 1 #[(0,.agg #[.slice none 0 0,.int .i64 (no:Nat)])]) b=.ok (.slice d.a d.len d.cap) j/\iM T c n w (.tuple #[.slice d.a d.len d.cap,.int .i64 e]) j:=by
  intro e he;refine⟨⟨some ⟨b,0,none⟩,1,1⟩,_,Ll b _,?_⟩;have k:=c5 b (.cells #[.slice none 0 0,.int .i64 (no:Nat)] 325);have u:dF T aq c c' [no] [] w (b.alloc (.cells #[.slice none 0 0,.int .i64 (no:Nat)] 325)) 2:=(((dF.ext T c f).trans r).trans (dF.ext aq c' k)).mono I;refine⟨aq,c',[no],⟨some ⟨b,0,none⟩,1,1⟩,g.ext k,u,by simp,?_⟩;obtain⟨rfl,he⟩|⟨rfl,he⟩:=he
  .refine .inl ⟨[],rfl,.inl ⟨h2,no,rfl,rfl,he⟩,.inl ⟨_,no,rfl,rfl,rfl,Var.new b [.slice none 0 0,.int .i64 (no:Nat)] 325,λv=>?_⟩⟩
   have:=g.t.lt v;omega
  .exact .inr ⟨rfl,λhc=>he (gq hc I)⟩
 obtain⟨rfl,x⟩|⟨rfl,y⟩:=s
 .exact⟨_,0,rfl,i 0 (.inl ⟨rfl,x⟩)⟩
 .exact⟨_,3,rfl,i 3 (.inr ⟨rfl,y⟩)⟩
theorem fV{b:ao}:∀v∈ [.bool b,.slice K.a K.len K.cap,.slice V.a V.len V.cap,.slice D.a D.len D.cap],Plain v:=by
 intro v c;simp only[cZ,e2,e_]at c;rcases c with rfl|rfl|rfl|rfl<;>trivial
theorem Ln{T:aN}{c:dQ}(h:dE w T c)(aV:T.C.D.aX<=900000090)(aY:2<=cy T)(a0:c.made.length<=900)(ai:b7 B w n K V D)(hs:cM n)(h2:232<bS n)(a1:bS n<=400)(h1:1<=cD n)
 (o:if n.leaf then cD n<=n.keys.length-1/\1<=n.keys.length-1 else cD n<=n.keys.length-2/\1<=n.keys.length-2) (am:bS (n.left (cD n))<=232) (an:bS (n.right (cD n))<=232):
 aH aj 276 #[.pointer (some ⟨c.cb,0,none⟩),dz n K V D] w (iM T c n w):=by
 obtain⟨sl,ia⟩:=hs.Ax h1 o;have a2:=hs.eB I;have b:cD n<n.keys.length:=by
  split at o<;>omega
 refine okF (ae.xQ (some ⟨c.cb,0,none⟩) n.leaf K V D) ax.xQ func276 ?_;(delta ae.xQ aW Y al Dt z5 ak g9;dsimp only);refine a6 (vs:=[.bool n.leaf,.slice K.a K.len K.cap,.slice V.a V.len V.cap,.slice D.a D.len D.cap]) rfl λw1 ao G a3=>?_;obtain⟨b9,aZ,bo,bt⟩:=bT ao;refine⟨_,b9,K,aZ,V,bo,D,bt,(rW (ai.ext G) hs I h1 o).use ?_⟩;rintro _ ap ⟨fL,gC,bZ,dY,eA,dn,t,rfl,aq,ar,ht,au⟩;refine⟨_,fL,gC,bZ,t,_,dY,eA,dn,true,rfl,a6 (vs:=[.bool false,.slice none 0 0,.slice none 0 0,.slice none 0 0]) rfl λa4 av aw a5=>a6 (vs:=[.bool false,.slice none 0 0,.slice none 0 0,.slice none 0 0]) rfl λa7 ay H a8=>?_⟩;have L:=av.ext H;refine⟨L.ct rfl fV,rfl,cP L (us:=[.bool (n.left (cD n)).leaf,.slice fL.a fL.len fL.cap,.slice gC.a gC.len gC.cap,.slice bZ.a bZ.len bZ.cap]) rfl rfl λa9 az O a_=>?_⟩;have Q:=ay.ah O I;refine⟨Q.ct rfl fV,rfl,cP Q (us:=[.bool (n.right (cD n)).leaf,.slice dY.a dY.len dY.cap,.slice eA.a eA.len eA.cap,.slice dn.a dn.len dn.cap]) rfl rfl λp aA R ba=>⟨nofun,λ_=>?_⟩⟩;have aB:=az.ah R I;have S:=G.trans au;have l:Ext ap p:=Ext.cp (Ext.cp (aw.trans H) O I) R I;have r:=S.trans l;have bb:=S.size;have bc:=l.size;obtain⟨d0,d1,d2,d3⟩:=bT aB;refine⟨_,d0,fL,d1,gC,d2,bZ,d3,(yG (h.ext r) I I I (aq.ext l) sl am).use ?_⟩;rintro _ aC ⟨x,bw,U,s,d,aD⟩;have u:∀q,T.N q->q<w:=λq g=>h.t.lt (aN.gD g);have bd:=d.to.ah.size;obtain⟨rfl,W⟩|⟨rfl,v⟩:=aD
 .have aE:=aA.ah d.to.ah λg=>U4 (u _ g)
  obtain⟨d0,d1,d2,d3⟩:=bT aE;have aF:b7 (λq=>w1<=q) aC (n.right (cD n)) dY eA dn:=(ar.ext l).ah d.to.ah λq g z=>U4 (u _ z)
  have aI:bw.C.D.aX<=900000100:=eO d.to.aX (by clear s d W;omega);have aJ:=d.room;have be:U.made.length=c.made.length+1:=by rw[d.made,cz];rfl
  simp only[jW]at aJ;have X:=yG s aI I I aF ia an;rw[d.cb]at X;refine⟨x,0,rfl,nofun,λ_=>⟨_,d0,dY,d1,eA,d2,dn,d3,X.use ?_⟩⟩;rintro _ i ⟨y,cg,Z,aa,m,aK⟩;have bf:=m.to.ah.size;have aL:=((dF.ext T c r).trans d).trans m;have aM:n.keys.getD (cD n) []=n.keys[cD n]:=by rw[ft,dR b];rfl
  have aO:=ht.ext l;have aP:bI (λq=>¬cg.M q) i t n.keys[cD n]:=by
   rw[←aM];have aQ:bI (λq=>q<p/\w1<=q) p t (n.keys.getD (cD n) []):=bI.bg aO λq g b=>⟨g,b⟩;have ab:=(d.trans m).to;refine bI.bg (bI.ah aQ ab.ah λq g z=>U4 (u _ z)) λq _ b A=>?_;rcases ab.c1 q A with ac|ac
   .have:=h.t.lt ac;omega
   .omega
  have aR:n.keys[cD n]≠ []:=by
   have aS:cK n.keys[cD n]:=by
    obtain hs|hs:=hs
    .exact hs.ok _ (cJ b)
    .exact hs.ok _ (cJ b)
   intro e;have:=aS.1;rw[e]at this;simp at this
  have E:=c5 i (.cells #[.slice none 0 0,.int .i64 (x:Nat),.slice t.a t.len t.cap,.int .i64 (y:Nat)] 325);have F:=(aL.trans (dF.ext cg Z E)).mono (j:=2) I;have af:∀ (e:Int),((e=0/\cg.P y=some (n.right (cD n)))\/(e=3/\¬bw.C.D.calm 1))->∃ (k:ad) (ag:J),Sem.run aj (Instr.buildSlice 317 2 #[(0,.agg #[.slice none 0 0,.int .i64 (x:Nat)]),(1,.agg #[.slice t.a t.len t.cap,.int .i64 (y:Nat)])]) i=.ok (.slice k.a k.len k.cap) ag/\
   iM T c n w (.tuple #[.slice k.a k.len k.cap,.int .i64 e]) ag:=by
   intro e he;refine⟨⟨some ⟨i,0,none⟩,2,2⟩,_,Lm i _ _ t,cg,Z,[x,y],⟨some ⟨i,0,none⟩,2,2⟩,aa.ext E,F,by simp,?_⟩;obtain⟨rfl,he⟩|⟨rfl,he⟩:=he
   .have aT:cg.P x=some (n.left (cD n)):=by
     rw[(m.eU x (by rw[d.f];simp)).1,W]
    refine .inl ⟨[n.keys[cD n]],rfl,.inr ⟨h2,x,y,b,rfl,rfl,aT,he⟩,.inr ⟨_,x,y,_,t,rfl,rfl,rfl,Var.new i [.slice none 0 0,.int .i64 (x:Nat),.slice t.a t.len t.cap,.int .i64 (y:Nat)] 325,λA=>?_,bI.ext aP E,aR⟩⟩;have:=aa.t.lt A;omega
   .exact .inr ⟨rfl,λhc=>he (d.to.calm 1 (gq hc I))⟩
  obtain⟨rfl,aU⟩|⟨rfl,v⟩:=aK
  .exact⟨_,0,rfl,af 0 (.inl ⟨rfl,aU⟩)⟩
  .exact⟨_,3,rfl,af 3 (.inr ⟨rfl,v⟩)⟩
 .have F:=((dF.ext T c r).trans d).mono (j:=2) I
  exact⟨_,3,rfl,λ_=>⟨bw,U,[x],bM,s,F,by simp,.inr ⟨rfl,λhc=>v (gq hc I)⟩⟩,nofun⟩
theorem yH{T:aN}{c:dQ}(h:dE w T c)(t:T.C.D.aX<=900000090)(u:2<=cy T)(x:c.made.length<=900)(f:b7 B w n K V D)(hs:cM n)(y:bS n<=400)
 (h2:232<bS n->1<=cD n/\(if n.leaf then cD n<=n.keys.length-1/\1<=n.keys.length-1 else cD n<=n.keys.length-2/\1<=n.keys.length-2)/\bS (n.left (cD n))<=232/\bS (n.right (cD n))<=232):
 aH aj 263 #[.pointer (some c.cb),dz n K V D] w (iM T c n w):=by
 have A:=hs.eB I;refine okF (ae.xN (some c.cb) n.leaf K V D) ax.xN func263 ?_;(delta ae.xN aW Y al bB ak dH;dsimp only);refine a6 (vs:=[n.leaf,K,V,D]) rfl λw1 o p E=>?_;obtain⟨b9,aZ,bo,bt⟩:=bT o;refine⟨_,b9,K,aZ,V,bo,D,bt,(p0 (f.ext p) hs I).use ?_⟩;rintro _ z ⟨rfl,q⟩;have a:=p.trans q;obtain⟨d0,d1,d2,d3⟩:=bT (o.ext q);have fin:∀ (v:aa) (w':J),iM T c n z v w'->∃s:ad,∃e:Int,v=.tuple #[s,e]/\iM T c n w (.tuple #[s,e]) w':=by
  rintro v w' ⟨aq,c',m,s,ay,az,d,i⟩;have r:=((dF.ext T c a).trans az).mono (j:=2) I;obtain⟨ks,rfl,k⟩|⟨rfl,k⟩:=i
  .exact⟨s,0,rfl,aq,c',m,s,ay,r,d,.inl ⟨ks,rfl,k⟩⟩
  .exact⟨s,3,rfl,aq,c',m,s,ay,r,d,.inr ⟨rfl,k⟩⟩
 refine⟨_,rfl,λb=>⟨_,d0,K,d1,V,d2,D,d3,?_⟩,λb=>⟨_,d0,K,d1,V,d2,D,d3,?_⟩⟩
 .have b:((bS n:Nat):Int)>232:=b2 b
  obtain⟨ay,az,d,i⟩:=h2 I;refine(Ln (h.ext a) t u x (f.ext a) hs I y ay az d i).use ?_;rintro v w' l;obtain⟨s,e,rfl,g⟩:=fin v w' l;exact⟨s,e,rfl,g⟩
 .have b:¬((bS n:Nat):Int)>232:=cr b
  refine(Fs (h.ext a) I I I (f.ext a) hs I).use ?_;rintro v w' l;obtain⟨s,e,rfl,g⟩:=fin v w' l;exact⟨s,e,rfl,g⟩
theorem Ft{ls:O Key}(h:bW B w s ls)(p:ls.length<=100000):
 aH aj 266 #[s] w (λv w'=>∃b:ad,v=b/\bD (λq=>(B q/\q<w)\/(w<=q/\aD b q)) w' b ls/\Ext w w'/\g0 w b):=by
 have r:=bW.len h;obtain⟨ts,ay,az,t,u,l⟩:=h;refine okF (ae.wF s) ax.wF func266 ?_;delta ae.wF ak Y;refine⟨λd=>?_,λ_=>?_⟩
 .have d:s.a=none:=by simpa using d
  have h0:=az.nil d;have:ls=[]:=List.eq_nil_of_length_eq_zero (by rw[←ay];have:=congrArg List.length h0;simpa using this);subst this;exact⟨⟨none,0,0⟩,rfl,bD.none _ _,.refl _ _,λk e=>(fH k e).elim⟩
 .obtain⟨b,w',h1,h2,x,j,f,_⟩:=se.clone (cB:=93) az (yi ts) I
  refine aT ⟨b,w',h1,b,rfl,⟨ts,ay,h2,λq c=>⟨.inr ⟨f q c,c⟩,h2.lt q c⟩,λi m n=>?_⟩,j,f⟩;have a:=l i m n;exact⟨bI.bg (bI.ext (bI.bg (C:=λq=>B q/\q<w) a λq c g=>⟨g,c⟩) j) λq _ g=>.inl g,λk e o=>U5 (f k o) ((a.2.2 k e).2)⟩
theorem me.at(h:me B w s ks kids):s.len=kids.length/\kids.length=ks.length+1/\kids.length<=2/\∀ (j:Nat) (d:j<kids.length),∃ (A:af) (t:ad),s.a=some A/\w.cell? (A.add (j*2))=some (.slice t.a t.len t.cap)/\w.cell? ((A.add (j*2)).add 1)=some (.int .i64 ((kids[j]:Nat):Int))/\
 ((t.a=none/\ks.take j=ks.take (j-1))\/(t.a.isSome=true/\∃k,bI B w t k/\ks.take j=ks.take (j-1)++ [k])):=by
 obtain⟨b,x,rfl,rfl,rfl,c,e⟩|⟨b,x,y,k,t,rfl,rfl,rfl,c,e,ht,f⟩:=h
 .refine⟨rfl,rfl,by simp,λj d=>?_⟩
  have:j=0:=by simp at d;omega
  subst this;exact⟨_,⟨none,0,0⟩,rfl,c.cell,by rw[aA,aA];exact c.cell,.inl ⟨rfl,rfl⟩⟩
 .refine⟨rfl,rfl,by simp,λj d=>?_⟩
  rcases dV j 1 with h1|h1
  .have:j=0:=I
   subst this;exact⟨_,⟨none,0,0⟩,rfl,c.cell,by rw[aA,aA];exact c.cell,.inl ⟨rfl,rfl⟩⟩
  .have:j=1:=by simp at d;omega
   subst this;obtain⟨A,av⟩:=bI.some ht f;exact⟨_,t,rfl,c.cell,by rw[aA,aA];exact c.cell,.inr ⟨by rw[av];rfl,k,ht,rfl⟩⟩
theorem me.ext(h:me B w s ks kids)(hx:Ext w w'):me B w' s ks kids:=by
 obtain⟨b,x,h1,h2,a,c,d⟩|⟨b,x,y,k,t,h1,h2,a,c,d,ht,e⟩:=h
 .exact .inl ⟨b,x,h1,h2,a,c.ext hx,d⟩
 .exact .inr ⟨b,x,y,k,t,h1,h2,a,c.ext hx,d,bI.ext ht hx,e⟩
theorem Lo{o:Nat}{S t:ad}{ls:O Key}{l:Key}{T:TypeId}(d:Var w nb vs T)(n:o<vs.length)(f:bD B w S ls)(g:¬B nb)
 (ht:bI B w t l) (hd:∀k,aD t k->¬aD S k) (E:ls.length<=100000) {K:U2}
 (p:∀ (w':J) (aE:ad),Var w' nb (vs.set o aE) T->bD (Grow B w w') w' aE (ls++ [l])->ag (λq=>q=nb\/aD S q) w w'->(∀k,aD aE k->aD S k\/w<=k)->K w'):
 an (w.alloc (.cells #[t] 39)) λr=>∃i:ad,∃b:J,Sem.run aj (Builtin.append_ #[93,93] 93 #[S,.slice (some w) 1 1]) r=.ok i b/\
  (∃u:aa,b.cell? (Addr.add nb o)=some u)/\b.frozen? (Addr.add nb o)=false/\an (b.setCell (Addr.add nb o) i) λs=>K s:=by
 have v:=bD.bg (C:=λq=>B q\/w<=q) f λk _ h=>.inl h;have x:=bI.bg (C:=λq=>B q\/w<=q) ht λk _ h=>.inl h;obtain⟨c,w',ay,az,j,y⟩:=D_ v x hd I λk a=>.inr a;have F:=d.lt;have z:¬aD S nb:=λh=>by
  obtain⟨ts,_,_,A,_⟩:=f;exact g (A nb h).1
 have m:=d.ah j z;obtain⟨aZ,bo⟩:=ez m n;refine aT ⟨c,w',ay,?_⟩;rw[aA,cA];have hc:=dU w' nb o c;refine⟨aZ,bo,aT (p _ c (eE m _) ?_ ?_ y)⟩
 .have D:=bD.bg (C:=Grow B w (w'.setCell ⟨nb,o,none⟩ c)) az λk a h=>by
   obtain h|h:=h
   .exact .inl h
   .exact .inr ⟨h,fO a hc.size⟩
  refine bD.ah D hc λk a e=>?_;subst e;obtain h|h:=a
  .exact g h
  .omega
 .exact(j.mono λk _ a=>.inr a).trans (hc.mono λk _ a=>.inl a)
def yI(B:U1)(n:aG)(fr to:Nat)(ks:O Key)(kids:O Nat)(w:J)(v:aa)(w':J):Prop:=
 ∃K V D:ad,v=dz (gp n fr to ks kids) K V D/\b7 (λq=>B q\/w<=q) w' (gp n fr to ks kids) K V D/\Ext w w'
structure sr(B:U1)(lo:Nat)(nb aV a:Nat)(n:aG)(K V D:ad)(c:O aa)(w:J)(b aF:ad)(bX bL:U1)(ks:O Key)(ds:O Nat):Prop where
 eS:Var w nb [n.leaf,K,V,D] 169
 r:Var w a c 169
 o:Var w aV [false,b,(),aF] 169
 k:bD bX w b ks
 d:cW bL w aF ds
 cm:∀q,bX q->(B q/\q<lo)\/(lo<=q/\q<w/\q≠nb/\q≠aV/\q≠a/\¬bL q)
 aO:∀q,bL q->lo<=q/\q<w/\q≠nb/\q≠aV/\q≠a
 nJ:∀q,aD b q->lo<=q
theorem sr.ext{lo b:Nat}{c:O aa}{e aF:ad}{bX bL:U1}{ds:O Nat}(h:sr B lo nb aV b n K V D c w e aF bX bL ks ds)(hx:Ext w w'):sr B lo nb aV b n K V D c w' e aF bX bL ks ds:=by
 have f:=hx.size;exact⟨h.eS.ext hx,h.r.ext hx,h.o.ext hx,bD.ext h.k hx,cW.ext h.d hx,λq a=>(h.cm q a).imp id λh=>⟨h.1,I,h.2.2⟩,λq a=>⟨(h.aO q a).1,U4 ((h.aO q a).2.1),(h.aO q a).2.2⟩,h.nJ⟩
theorem Lp{c6 j6 aX aY:J}{eD D0:ad}{ao:O aa}{bX bL:U1}{to:Nat}(bs:sr B w.heap.size nb aV x n K V D ao c6 eD D0 bX bL (n.keys.take fr) (n.kids.take fr))(bt:Ext w c6)
 (bu:b7 B w n K V D) (a0:me B w s ks kids) (bv:ao.length=4) (h1:w.heap.size<=nb) (h2:w.heap.size<=aV) (H:w.heap.size<=x) (L:nb≠aV/\nb≠x/\aV≠x) (t1:1<=to) (t2:to<=n.kids.length) (t3:to-1<=n.keys.length) (b6:n.keys.length<=1000) (bx:n.kids.length<=1000) (aC:j6.heap.size=nb) (aH:aX.heap.size=aV) (C:aY.heap.size=x):
 ae.Ag j6 aX aY s (to:Nat) c6 (yI B n fr to ks kids w):=by
 obtain⟨bh,bj,b8,bw⟩:=a0.at;(delta ae.Ag j4 ak aO al r1 zP Y rk st ar aW tr;dsimp only);rw[aC,aH,C];refine⟨λi w'=>∃ (j:Nat) (z aF:ad) (bX bL:U1),i=j/\j<=kids.length/\Ext w w'/\sr B w.heap.size nb aV x n K V D ao w' z aF bX bL (n.keys.take fr++ks.take (j-1)) (n.kids.take fr++kids.take j),λi _=>((kids.length:Int)-i).toNat,⟨0,eD,D0,bX,bL,rfl,cI _,bt,by simpa using bs⟩,?_⟩;rintro _ u ⟨j,z,aF,bX,bL,rfl,b9,y,h⟩;have b_:=y.size;refine⟨λaI=>?_,λaJ=>?_⟩
 .have aI:j<kids.length:=by
   have:(j:Int)<(s.len:Int):=b2 aI;omega
  obtain⟨A,t,av,aZ,bo,aK⟩:=(a0.ext y).at.2.2.2 j aI;refine⟨A,av,⟨I,I⟩,t,by rw[c2];exact aZ,_,by rw[c2];exact bo,?_⟩;have aK:(t.a=none/\ks.take j=ks.take (j-1))\/(t.a.isSome=true/\∃k,bI (λq=>B q/\q<w.heap.size) u t k/\ks.take j=ks.take (j-1)++ [k]):=by
   obtain⟨ca,a1,a2,bz,_,bA⟩:=bw j aI;rw[av]at a2;cases a2;have e:=ag.cell y (λh=>h) bz;rw[aZ]at e;injection e with e
   obtain rfl:t=a1:=by
    cases t;cases a1;simp at e;simp[e]
   rcases bA with h|⟨h1,k,h2,H⟩
   .exact .inl h
   .exact .inr ⟨h1,k,bI.ext (bI.bg h2 λq c f=>⟨f,c⟩) y,H⟩
  refine a6 (vs:=[(),U8]) rfl λcb a3 bB cc=>?_;refine⟨a3.ct rfl ?_,rfl,cP a3 (us:=[t,.int .i64 ((kids[j]:Nat):Int)]) rfl rfl λaL T bC cd=>?_⟩
  .intro v a4
   simp only[cZ,e2,e_]at a4;rcases a4 with rfl|rfl<;>trivial
  have ap:Ext u aL:=Ext.cp bB bC (bk _);have m:=h.ext ap;have ce:=ap.size;have a5:=y.trans ap;obtain⟨fj,bE⟩:=U6 u.heap.size;rw[←bE]at T⊢;have cg:=T.lt;refine j2 (λU=>∃ (dY:ad) (aq:U1),sr B w.heap.size nb aV x n K V D ao U dY aF aq bL (n.keys.take fr++ks.take j) (n.kids.take fr++kids.take j)/\Ext w U/\Var U fj [t,.int .i64 ((kids[j]:Nat):Int)] 325/\aL.heap.size<=U.heap.size) (λq c=>⟨t,T.cell,λf=>?_,λf=>?_⟩) ?_
  .rcases aK with ⟨au,_⟩|⟨_,k,ht,ab⟩
   .rw[au]at f;cases f
   obtain⟨ac,M,af,N⟩:=bT (V:=⟨none,0,0⟩) m.o;have aw:∀q,aD z q->bX q:=λq c=>by
    obtain⟨ts,_,_,H,_⟩:=m.k;exact(H q c).1
   refine⟨z,M,t,T.cell,Lo (B:=λq=>bX q\/(B q/\q<w.heap.size)) m.o (o:=1) U9 (bD.bg m.k λq _ f=>.inl f) (λf=>?_) (bI.bg (bI.ext ht ap) λq _ f=>.inr f) (λq c aM=>?_) ?_ λw' aE ay az p bF=>c _ ⟨aE,Grow (λq=>bX q\/(B q/\q<w.heap.size)) aL w',?_,?_,?_,p.size⟩⟩
   .rcases f with f|f
    .rcases m.cm _ f with g|g
     .omega
     .exact g.2.2.2.1 rfl
    .omega
   .have:=(ht.2.2 q c).1.2
    have:=m.nJ q aM;omega
   .rw[cz,cF,cF];omega
   .have bG:=p.size
    have E:∀q,aD z q->q<u.heap.size/\q≠nb/\q≠aV/\q≠x/\¬bL q:=λq c=>by
     have bH:=h.nJ q c;rcases h.cm q (aw q c) with g|g
     .omega
     .exact g.2
    refine⟨m.eS.ah p λc=>?_,m.r.ah p λc=>?_,ay,?_,cW.ah m.d p λq f c=>?_,λq f=>?_,λq f=>⟨(m.aO q f).1,by have:=(m.aO q f).2.1;omega,(m.aO q f).2.2⟩,λq c=>?_⟩
    .rcases c with e|c
     .exact L.1 e
     .exact(E _ c).2.1 rfl
    .rcases c with e|c
     .exact L.2.2 e.symm
     .exact(E _ c).2.2.2.1 rfl
    .rw[ab,←cO];exact az
    .rcases c with e|c
     .exact(m.aO q f).2.2.2.1 e
     .exact(E q c).2.2.2.2 f
    .rcases f with (f|f)|f
     .exact(m.cm q f).imp id λg=>⟨g.1,I,g.2.2⟩
     .exact .inl f
     .refine .inr ⟨I,f.2,λe=>?_,λe=>?_,λe=>?_,λhd=>?_⟩
      .have:=m.eS.lt;omega
      .have:=m.o.lt;omega
      .have:=m.r.lt;omega
      .have:=(m.aO q hd).2.1;omega
    .rcases bF q c with g|g
     .exact h.nJ q g
     .omega
   .exact Ext.d_ a5 p λq c=>by
     rcases c with rfl|c
     .exact h2
     .exact m.nJ q c
   .refine T.ah p λc=>?_
    rcases c with e|c
    .have:=h.o.lt;omega
    .rcases h.cm _ (aw _ c) with g|g<;>omega
  .rcases aK with ⟨_,ab⟩|⟨au,_⟩
   .refine c _ ⟨z,bX,?_,a5,T,bk _⟩
    rw[ab];exact m
   .cases a7:t.a with
    |none=>rw[a7]at au;cases au
    |some A=>rw[a7]at f;cases f
  rintro U ⟨dY,aq,l,a8,a9,ch⟩;have ci:=a9.lt;obtain⟨ac,M,af,N⟩:=bT (V:=⟨none,0,0⟩) l.o;have F:∀q,aD aF q->bL q:=λq c=>(l.d.2 q c).1;have bJ:∀q,aq q->¬(q=aV\/aD aF q):=λq f c=>by
   rcases l.cm q f with g|g
   .rcases c with e|c
    .omega
    .have:=(l.aO q (F q c)).1;omega
   .rcases c with e|c
    .exact g.2.2.2.1 e
    .exact g.2.2.2.2.2 (F q c)
  have a_:IntKind.wrap .i64 ((j:Int)+1)=((j+1:Nat):Int):=by rw[bq I I];rfl
  refine⟨aF,N,_,by rw[aA];exact a9.cell,(El (W:=λ_=>True) kids[j] l.o (o:=3) U9 l.d (λf=>(l.aO _ f).2.2.2.1 rfl) (by rw[cz,cF,cF];omega) λw' aE ay az p=>⟨⟨j+1,dY,aE,aq,Grow bL U w',a_,I,?_,?_⟩,?_⟩).2⟩
  .exact Ext.d_ a8 p λq c=>by
    rcases c with rfl|c
    .exact h2
    .exact(l.aO q (F q c)).1
  .have bG:=p.size
   refine⟨l.eS.ah p λc=>?_,l.r.ah p λc=>?_,ay,?_,?_,λq f=>?_,λq f=>?_,l.nJ⟩
   .rcases c with e|c
    .exact L.1 e
    .exact(l.aO _ (F _ c)).2.2.1 rfl
   .rcases c with e|c
    .exact L.2.2 e.symm
    .exact(l.aO _ (F _ c)).2.2.2.2 rfl
   .exact bD.ah l.k p bJ
   .rw[ib aI,←cO];exact az
   .refine(l.cm q f).imp id λg=>⟨g.1,I,g.2.2.1,g.2.2.2.1,g.2.2.2.2.1,λhd=>?_⟩
    rcases hd with hd|hd
    .exact g.2.2.2.2.2 hd
    .omega
   .rcases f with f|f
    .exact⟨(l.aO q f).1,by have:=(l.aO q f).2.1;omega,(l.aO q f).2.2⟩
    .refine⟨by have:=a8.size;omega,f.2,λe=>?_,λe=>?_,λe=>?_⟩
     .have:=l.eS.lt;omega
     .have:=l.o.lt;omega
     .have:=l.r.lt;omega
  .rw[a_]
   show((kids.length:Int)-((j+1:Nat):Int)).toNat<((kids.length:Int)-(j:Int)).toNat;omega
 .have aJ:j=kids.length:=by
   have:¬(j:Int)<(s.len:Int):=cr aJ;omega
  subst aJ;have ba:Ext u u.drew:=cw _;have h:=h.ext ba;have y:=y.trans ba;have ab:ks.take (kids.length-1)=ks:=dO I;rw[ab,ic]at h;obtain⟨ac,M,af,N⟩:=bT (V:=⟨none,0,0⟩) h.o;obtain⟨lN,iN,eM,bb⟩:=bT h.eS;have bc:b7 (λq=>B q/\q<w.heap.size) w n K V D:=bu.bg λq c f=>⟨f,c⟩;have aN:=bc.ext y;have bd:=bW.len aN.keys;have be:=c9.len aN.kids;have bf:IntKind.wrap .i64 ((to:Int)-1)=((to-1:Nat):Int):=by rw[bq I I];omega
  have aw:∀q,aD z q->bX q:=λq c=>by
   obtain⟨ts,_,_,H,_⟩:=h.k;exact(H q c).1
  have F:∀q,aD aF q->bL q:=λq c=>(h.d.2 q c).1;have bi:=bW.sub aN.keys (lo:=to-1) (hi:=n.keys.length) t3 (bk _);have bK:(n.keys.drop (to-1)).take (n.keys.length-(to-1))=n.keys.drop (to-1):=dO (by rw[eH];exact bk _);rw[bK]at bi;obtain⟨P,aj,aC,aH,C⟩:=A4 h.k bi (λq c aM=>by have:=h.nJ q aM;omega) (by rw[cz,cF];omega) (by rw[eH];omega);have cj:u.drew.heap.size=u.heap.size:=rfl;have E:∀q,aD z q->q<u.drew.heap.size/\q≠nb/\q≠aV/\q≠x/\¬bL q:=λq c=>by
   have bH:=h.nJ q c;rcases h.cm q (aw q c) with g|g
   .omega
   .exact g.2
  have ck:=C.size;have bM:Ext w aj:=Ext.d_ y C λq c=>h.nJ q c;have bl:=h.o.ah C λc=>(E _ c).2.2.1 rfl;have bN:=h.eS.ah C λc=>(E _ c).2.1 rfl;have bO:=h.r.ah C λc=>(E _ c).2.2.2.1 rfl;have bP:cW bL aj aF _:=cW.ah h.d C λq f c=>(E q c).2.2.2.2 f;obtain⟨b1,cf⟩:=ez bl (i:=1) U9;refine aT ⟨id,z,M,id,K,iN,?_,P,aj,?_,by rw[aA];exact b1,by rw[aA];exact cf,?_⟩
  .rw[bf,bd];omega
  .rw[bf,c2,bd];exact aC
  rw[aA,cA];have R:=dU aj aV 1 P;have am:=eE bl (i:=1) P;obtain⟨G,bQ⟩:=U6 (aj.setCell ⟨aV,1,none⟩ P);rw[←bQ]at R am⊢;have cl:=R.size;have aP:=bN.ah R (λe=>L.1 e);have aQ:=bO.ah R (λe=>L.2.2 e.symm);have aR:cW bL G aF _:=cW.ah bP R λq f e=>(h.aO q f).2.2.2.1 e;have an:Ext w G:=Ext.cp bM R h2;have X:Ext G G.drew:=cw _;have bm:∀q,(bX q\/(B q/\q<w.heap.size)\/u.drew.heap.size<=q)->q≠aV:=λq c e=>by
   subst e;rcases c with c|c|c
   .rcases h.cm _ c with g|g
    .omega
    .exact g.2.2.2.1 rfl
   .omega
   .have:=h.o.lt;omega
  have bR:=bW.ext (bW.ah aH R bm) X;have am:=am.ext X;have aP:=aP.ext X;have aQ:=aQ.ext X;have aR:=cW.ext aR X;have an:=an.trans X;obtain⟨ac,M,af,N⟩:=bT (V:=⟨none,0,0⟩) am;obtain⟨lN,iN,eM,bb⟩:=bT aP;have bn:=c9.sub (bc.ext an).kids (lo:=to) (hi:=n.kids.length) t2 (bk _);have bS:(n.kids.drop to).take (n.kids.length-to)=n.kids.drop to:=dO (by rw[eH];exact bk _);rw[bS]at bn;obtain⟨S,ax,f1,f2,f3⟩:=Ew aR bn (by rw[cz,cF];omega) (by rw[eH];omega);have cn:G.drew.heap.size=G.heap.size:=rfl;have co:=f3.size;have aB:∀q,aD aF q->w.heap.size<=q/\q<u.drew.heap.size/\q≠nb/\q≠aV/\q≠x:=λq c=>h.aO q (F q c);have bU:Ext w ax:=Ext.d_ an f3 λq c=>(aB q c).1;have bp:=am.ah f3 λc=>(aB _ c).2.2.2.1 rfl;have bV:=aQ.ah f3 λc=>(aB _ c).2.2.2.2 rfl;have bY:=bW.ah bR f3 λq f c=>by
   have cq:=aB q c;rcases f with f|f|f
   .rcases h.cm q f with g|g
    .omega
    .exact g.2.2.2.2.2 (F q c)
   .omega
   .omega
  obtain⟨b1,cf⟩:=ez bp (i:=3) U9;refine aT (aT ⟨id,aF,N,id,D,bb,?_,S,ax,?_,by rw[aA];exact b1,by rw[aA];exact cf,?_⟩)
  .rw[be];omega
  .rw[c2,be];exact f1
  rw[aA,cA];have Z:=dU ax aV 3 S;have br:=eE bp (i:=3) S;obtain⟨aS,bZ⟩:=U6 (ax.setCell ⟨aV,3,none⟩ S);rw[←bZ]at Z br⊢;have cs:=Z.size;have b0:=bV.ah Z (λe=>L.2.2 e.symm);have b3:Ext w aS:=Ext.cp bU Z h2;have b4:=bW.ah bY Z bm;have b5:=c9.ah f2 Z λq f e=>by
   subst e;rcases f with f|f|f
   .exact(h.aO _ f).2.2.2.1 rfl
   .omega
   .have:=h.o.lt;omega
  obtain⟨ac,M,af,N⟩:=bT (V:=⟨none,0,0⟩) br;refine aT ⟨_,ac,P,M,⟨none,0,0⟩,af,S,N,?_⟩;refine jL false P ⟨none,0,0⟩ S b0 bv (Q:=λb K V D ai=>yI B n fr to ks kids w (.agg #[b,K,V,D]) ai) λcu aU=>?_;refine⟨P,⟨none,0,0⟩,S,rfl,⟨?_,?_,?_⟩,Ext.cp b3 aU H⟩
  .refine bW.bg (bW.ah b4 aU λq f e=>?_) λq _ f=>?_
   .subst e
    rcases f with f|f|f
    .rcases h.cm _ f with g|g
     .omega
     .exact g.2.2.2.2.1 rfl
    .omega
    .have:=h.r.lt;omega
   .rcases f with f|f|f
    .rcases h.cm _ f with g|g
     .exact .inl g.1
     .exact .inr g.1
    .exact .inl f.1
    .have:=y.size;exact .inr I
  .exact bW.none _ _
  .refine c9.bg (c9.ah b5 aU λq f e=>?_) λq _ f=>?_
   .subst e
    rcases f with f|f|f
    .exact(h.aO _ f).2.2.2.2 rfl
    .omega
    .have:=h.r.lt;omega
   .rcases f with f|f|f
    .exact .inr (h.aO _ f).1
    .exact .inl f.1
    .have:=an.size;exact .inr I
theorem Bt(K D:ad)(w:J):Sem.run aj (Instr.build 169 #[(1,K),(3,D)]) w=.ok (.agg #[false,K,(),D]) w:=by kernel_rfl
theorem rT{to:Nat}(R:b7 B w n K V D)(ao:me B w s ks kids)(f1:fr<=n.keys.length)(f2:fr<=n.kids.length)(t1:1<=to)(t2:to<=n.kids.length)(t3:to-1<=n.keys.length)(b6:n.keys.length<=1000)(bx:n.kids.length<=1000):
 aH aj 233 #[dz n K V D,.int .i64 (fr:Nat),.int .i64 (to:Nat),.slice s.a s.len s.cap] w (yI B n fr to ks kids w):=by
 refine okF (ae.rT n.leaf K V D (fr:Nat) (to:Nat) s) ax.rT func233 ?_;(delta ae.rT z5 Y al bH j4 ak aO r1 zP rk st ar aW tr;dsimp only);refine a6 (vs:=[.bool n.leaf,.slice K.a K.len K.cap,.slice V.a V.len V.cap,.slice D.a D.len D.cap]) rfl λw1 ap aq aF=>?_;refine a6 (vs:=[.bool false,.slice none 0 0,.slice none 0 0,.slice none 0 0]) rfl λai au S aJ=>aT ?_;have F:Ext ai ai.drew:=cw _;have L:=(aq.trans S).trans F;obtain⟨f,T⟩:=U6 ai.drew;have aK:f.heap.size=ai:=by rw[T];rfl
 rw[←T]at L F⊢;have U:=(ap.ext S).ext F;have av:=au.ext F;obtain⟨b9,aZ,bo,bt⟩:=bT U;have u:b7 (λq=>B q/\q<w) f n K V D:=(R.bg λq c d=>⟨d,c⟩).ext L;have aL:=bW.len u.keys;have aM:=c9.len u.kids;have aN:=bW.le u.keys;have aP:=u.kids.2.1;have M:=bW.sub u.keys (lo:=0) (hi:=fr) (cI _) f1;have G:=c9.sub u.kids (lo:=0) (hi:=fr) (cI _) f2;rw[iV,m3]at M G;have W:Int.toNat ((fr:Nat):Int)-0=fr:=by rw[c2];rfl
 have fin:∀ (c6 N:J) (aV:Nat) (eD D0:ad),N.heap.size=aV->Ext f c6->Var c6 aV [.bool false,.slice eD.a eD.len eD.cap,.slice none 0 0,.slice D0.a D0.len D0.cap] 169->f<=aV->bD (λq=>(B q/\q<w)\/(f<=q/\aD eD q)) c6 eD (n.keys.take fr)->aR 1 3 c6 D0 (ej (n.kids.take fr))->
  (∀q,aD eD q->f<=q/\q≠aV)->(∀q,aD D0 q->f<=q/\q≠aV/\¬aD eD q)->ae.Ag w N w1 s (to:Nat) c6 (yI B n fr to ks kids w):=by
  intro c6 N aV eD D0 aw hx ay aQ X P Z aa;have aS:=hx.size;have aI:∀q,aD eD q->q<c6:=λq c=>by
   obtain⟨ts,_,p,_,_⟩:=X;exact p.lt q c
  refine Lp (bX:=λq=>(B q/\q<w)\/aD eD q) (bL:=λq=>aD D0 q) ⟨U.ext hx,av.ext hx,ay,bD.bg X λq _ d=>d.imp id λh=>h.2,⟨P,λq c=>⟨c,aR.lt P q c⟩⟩,λq d=>?_,λq d=>?_,λq c=>by have:=(Z q c).1;omega⟩ (L.trans hx) R ao rfl (bk _) I I ⟨I,I,I⟩ t1 t2 t3 b6 bx rfl aw rfl
  .rcases d with d|d
   .exact .inl d
   .have y:=Z q d
    exact .inr ⟨I,aI q d,I,y.2,I,λaz=>(aa q az).2.2 d⟩
  .have y:=aa q d
   exact⟨I,aR.lt P q d,I,y.2.1,I⟩
 refine⟨λ_=>False,id,K,aZ,⟨I,I⟩,id,D,bt,⟨I,I⟩,?_,?_⟩
 .rw[W]
  refine(Ft M (by rw[cF];omega)).use ?_;rintro _ v ⟨eD,rfl,r,g,z⟩;have aA:=g.size;refine⟨eD,rfl,g,?_,?_⟩
  .refine(um (G.1.ext g) (by rw[cF];omega)).use ?_
   rintro _ ab ⟨D0,rfl,x,H,ac⟩;have aU:=H.size;refine⟨D0,rfl,H,_,Bt eD D0,a6 (vs:=[.bool false,.slice none 0 0,.slice none 0 0,.slice none 0 0]) rfl λaX af ag aY=>⟨ag,af.ct rfl (fV (b:=false) (K:=eD) (V:=⟨none,0,0⟩) (D:=D0)),rfl,cP af (us:=[.bool false,.slice eD.a eD.len eD.cap,.slice none 0 0,.slice D0.a D0.len D0.cap]) rfl rfl λi A k am=>?_⟩⟩;have l:Ext ab i:=Ext.cp ag k (bk _);have t:∀q,aD eD q->q<v:=λq c=>by
    obtain⟨ts,_,p,_,_⟩:=r;exact p.lt q c
   exact fin i ab _ eD D0 rfl (g.trans (H.trans l)) A I (bD.bg (bD.ext r (H.trans l)) λq _ d=>d.imp (λh=>h.1) id) (x.ext l) (λq c=>⟨z q c,by have:=t q c;omega⟩) λq c=>⟨by have:=ac q c;omega,by have:=aR.lt x q c;omega,λh=>by have:=t q h;have:=ac q c;omega⟩
  .refine a6 (vs:=[.bool false,.slice none 0 0,.slice none 0 0,.slice none 0 0]) rfl λan Q m aB=>⟨m,(um ((G.1.ext g).ext m) (by rw[cF];omega)).use ?_⟩
   rintro _ aC ⟨D0,rfl,x,o,j⟩;have E:=Q.ext o;refine⟨D0,rfl,o,_,Bt eD D0,E.ct rfl (fV (b:=false) (K:=eD) (V:=⟨none,0,0⟩) (D:=D0)),rfl,cP E (us:=[.bool false,.slice eD.a eD.len eD.cap,.slice none 0 0,.slice D0.a D0.len D0.cap]) rfl rfl λi A k am=>?_⟩;have l:Ext v i:=Ext.cp (m.trans o) k (bk _);have t:∀q,aD eD q->q<v:=λq c=>by
    obtain⟨ts,_,p,_,_⟩:=r;exact p.lt q c
   exact fin i v _ eD D0 rfl (g.trans l) A I (bD.bg (bD.ext r l) λq _ d=>d.imp (λh=>h.1) id) (x.ah k λq c e=>by have:=j q c;omega) (λq c=>⟨z q c,by have:=t q c;omega⟩) λq c=>⟨by have:=j q c;omega,by have:=j q c;omega,λh=>by have:=t q h;have:=j q c;omega⟩
 .rw[W]
  refine a6 (vs:=[.bool false,.slice none 0 0,.slice none 0 0,.slice none 0 0]) rfl λan Q m aB=>⟨m,(Ft (bW.ext M m) (by rw[cF];omega)).use ?_⟩;rintro _ v ⟨eD,rfl,r,g,z⟩;have aA:=g.size;refine⟨eD,rfl,g,(um ((G.1.ext m).ext g) (by rw[cF];omega)).use ?_⟩;rintro _ aC ⟨D0,rfl,x,o,j⟩;have E:=(Q.ext g).ext o;refine⟨D0,rfl,o,_,Bt eD D0,E.ct rfl (fV (b:=false) (K:=eD) (V:=⟨none,0,0⟩) (D:=D0)),rfl,cP E (us:=[.bool false,.slice eD.a eD.len eD.cap,.slice none 0 0,.slice D0.a D0.len D0.cap]) rfl rfl λi A k am=>?_⟩;have l:Ext f i:=Ext.cp ((m.trans g).trans o) k (bk _);have t:∀q,aD eD q->q<v:=λq c=>by
   obtain⟨ts,_,p,_,_⟩:=r;exact p.lt q c
  have aE:bD (λq=>(B q/\q<w)\/(f<=q/\aD eD q)) i eD (n.keys.take fr):=by
   have y:=bD.bg (C:=λq=>(B q/\q<w)\/(an<=q/\aD eD q)) (bD.ext r o) λq _ d=>d.imp (λh=>h.1) id;exact bD.bg (bD.ah y k λq d e=>by rcases d with d|d<;>omega) λq _ d=>d.imp id λh=>⟨I,h.2⟩
  exact fin i f _ eD D0 rfl l A (bk _) aE (x.ah k λq c e=>by have:=j q c;omega) (λq c=>⟨by have:=z q c;omega,by have:=z q c;omega⟩) λq c=>⟨by have:=j q c;omega,by have:=j q c;omega,λh=>by have:=t q h;have:=j q c;omega⟩
def mT(n:aG):Prop:=cM n/\bS n<=400/\(232<bS n->1<=cD n/\(if n.leaf then cD n<=n.keys.length-1/\1<=n.keys.length-1 else cD n<=n.keys.length-2/\1<=n.keys.length-2)/\bS (n.left (cD n))<=232/\bS (n.right (cD n))<=232)
structure mU(B:U1)(w:J)(A:af)(u:dN):Prop where
 aZ:w.cell? (A.add 1)=some (.bool u.n.leaf)
 bo:w.cell? ((A.add 1).add 1)=some (.slice u.K.a u.K.len u.K.cap)
 bt:w.cell? ((A.add 1).add 2)=some (.slice u.V.a u.V.len u.V.cap)
 e3:w.cell? ((A.add 1).add 3)=some (.slice u.D.a u.D.len u.D.cap)
 gg:w.cell? (A.add 5)=some (.int .i64 (u.c3:Nat))
 bN:b7 B w u.n u.K u.V u.D
 bE:B A.block
 lt:A.block<w.heap.size
theorem mU.ext{u:dN}(h:mU B w A u)(hx:Ext w w'):mU B w' A u:=
 ⟨ag.cell hx (λh=>h) h.aZ,ag.cell hx (λh=>h) h.bo,ag.cell hx (λh=>h) h.bt,ag.cell hx (λh=>h) h.e3,ag.cell hx (λh=>h) h.gg,h.bN.ext hx,h.bE,fO h.lt hx.size⟩
theorem mU.to{T aq:aN}{u:dN}(h:mU (λq=>¬T.M q) w A u)(ht:bY T aq w w' k):mU (λq=>¬aq.M q) w' A u:=by
 have hc:=ht.ah;have a:¬T.N A.block:=λc=>h.bE (aN.gD c);refine⟨ag.cell hc (A:=A.add 1) a h.aZ,ag.cell hc (A:=(A.add 1).add 1) a h.bo,ag.cell hc (A:=(A.add 1).add 2) a h.bt,ag.cell hc (A:=(A.add 1).add 3) a h.e3,ag.cell hc (A:=A.add 5) a h.gg,?_,λd=>?_,fO h.lt hc.size⟩
 .have h1:=ht.bN (lo:=0) (h.bN.bg λq _ b=>⟨cI _,b⟩)
  exact h1.bg λq _ b=>b.2
 .rcases ht.c1 _ d with h1|h1
  .exact h.bE h1
  .have:=h.lt;omega
theorem iM.base{T:aN}{c:dQ}{w0:J}(h:iM T c n w v w')(hx:Ext w0 w):iM T c n w0 v w':=by
 obtain⟨aq,c',m,s,ay,az,a,b⟩:=h;exact⟨aq,c',m,s,ay,((dF.ext T c hx).trans az).mono I,a,b⟩
theorem iM.out{T:aN}{c:dQ}(h:iM T c n w v w'):∃ (s:ad) (e:Int),v=.tuple #[s,e]:=by
 obtain⟨aq,c',m,s,ay,az,b,a⟩:=h;obtain⟨ks,rfl,_⟩|⟨rfl,_⟩:=a
 .exact⟨s,0,rfl⟩
 .exact⟨s,3,rfl⟩
theorem Lq{X:U1}{w0 c6 au jG av kc:J}{T:aN}{c:dQ}{g bv:Nat}{u:dN}{i j k:ad}{other:Nat}{Q:U0}(h:dE w0 T c)(hx:Ext w0 c6)(aw:Var w0 nb (ee n K V D) 169)(ax:Var w0 aV (ee o i j k) 169)
 (ay:Var c6 g (ee o i j k) 169) (az:Var c6 bv (ee n K V D) 169) (h1:w0<=g) (h2:w0<=bv) (aA:g≠bv) (aB:b7 W w0 n K V D) (aC:b7 X w0 o i j k) (hu:mU (λq=>¬T.M q) w0 A u)
 (aD:T.C.D.aX<=900000090) (aE:2<=cy T) (aF:c.made.length<=900) (Z:cM n) (ab:cM o) (bI:bS n<=400) (bJ:bS o<=400) (aH:o.leaf=n.leaf) (ba:fr<u.n.keys.length) (aI:cK u.n.keys[fr]) (m:aG) (aJ:m=if u.c3<other then ed n u.n.keys[fr] o else ed o u.n.keys[fr] n) (l:mT m) (bK:fr<=1000)
 (aK:∀ (s:ad) (e:Int) (w':J),iM T c m w0 (.tuple #[.slice s.a s.len s.cap,.int .i64 e]) w'->Q (.tuple #[.slice s.a s.len s.cap,.int .i64 (fr:Nat),.int .i64 ((fr+2:Nat):Int),.int .i64 e]) w') (bb:au.heap.size=nb) (bc:jG.heap.size=aV) (bd:av.heap.size=g) (be:kc.heap.size=bv):
 ae.Ah au jG av kc (some ⟨c.cb,0,none⟩) (some A) (fr:Nat) (other:Nat) c6 Q:=by
 have bL:=aw.lt;have bM:=ax.lt;have bO:=hx.size;have fn:=Z.eB I;have bP:=ab.eB I;(delta ae.Ah cg r1 ak Y aW al pH aO mH z5 rl dH ar;dsimp only);rw[bb,bc,bd,be];refine j2 (λp=>∃ (a b:aG) (G H L N O P:ad) (aL aM:U1),Ext w0 p/\Var p g (ee a G H L) 169/\Var p bv (ee b N O P) 169/\b7 aL w0 a G H L/\b7 aM w0 b N O P/\m=ed a u.n.keys[fr] b/\cM a/\cM b/\a.leaf=b.leaf/\a.keys.length<=200/\b.keys.length<=200)
  (λq r=>⟨A,rfl,_,(hu.ext hx).gg,λd=>?_,λd=>r _ ⟨o,n,i,j,k,K,V,D,X,W,hx,ay,az,aC,aB,?_,ab,Z,aH,I,I⟩⟩) ?_
 .have d:u.c3<other:=by
   have:((other:Nat):Int)>((u.c3:Nat):Int):=b2 d;omega
  have f:=hx.trans (cw c6);obtain⟨bf,b6,bx,bg⟩:=bT (aw.ext f);obtain⟨bh,bi,bj,bl⟩:=bT (ax.ext f);have aP:=ay.drew;have bm:=az.drew;refine aT ⟨λq=>q=g,(show nb≠g from I),_,bf,K,b6,V,bx,D,bg,(show aV≠g from I),_,bh,i,bi,j,bj,k,bl,aP.ct rfl fV,rfl,cP aP (us:=ee n K V D) rfl rfl λbQ bn ac bR=>?_⟩;have aQ:=bm.ah ac (λe=>aA e.symm);refine⟨ac,aQ.ct rfl fV,rfl,cP aQ (us:=ee o i j k) rfl rfl λbU bp aR bV=>?_⟩;exact r _ ⟨n,o,K,V,D,i,j,k,W,X,Ext.cp (Ext.cp f ac h1) aR h2,bn.ah aR aA,bp,aB,aC,by rw[aJ,if_pos d],Z,ab,aH.symm,I,I⟩
 .have d:¬u.c3<other:=by
   have:¬((other:Nat):Int)>((u.c3:Nat):Int):=cr d;omega
  rw[aJ,if_neg d]
 rintro p ⟨a,b,G,H,L,N,O,P,aL,aM,br,bs,d,aS,aU,ag,aY,sb,aZ,la,lb⟩;have f:=br.trans (cw p);have bt:=bs.drew;have bu:=d.drew;obtain⟨a0,a1,a2,a3⟩:=bT bt;obtain⟨bw,cH,ck,bz⟩:=bT bu;have a4:=hu.ext f;obtain⟨bA,tk,bB,bC,bD,R,bX⟩:=bW.at a4.bN.keys ba;have a5:cM (ed a u.n.keys[fr] b):=by rw[←ag];exact l.1
 have B:=p1 (aS.ext f) (aU.ext f) R.1 (λq r=>(R.2.2 q r).2) (U4 aI.2) aY sb aZ a5 I I;rw[←ag]at B;have a7:IntKind.wrap .i64 (((fr:Nat):Int)+2)=((fr+2:Nat):Int):=by rw[bq I I];rfl
 obtain⟨wd,bY⟩:=U6 p.drew;refine aT ⟨λ_=>False,id,_,a0,G,a1,H,a2,L,a3,A,rfl,id,u.K,a4.bo,bA,bB,bC,id,tk,bD,id,_,bw,N,cH,O,ck,P,bz,?_,?_⟩
 .refine B.use ?_
  rintro _ bE ⟨t,w,x,rfl,ai,y⟩;refine⟨_,t,w,x,true,rfl,y,a6 (vs:=[.bool false,.slice none 0 0,.slice none 0 0,.slice none 0 0]) rfl λbZ a8 a9 b0=>⟨a9,a8.ct rfl fV,rfl,cP a8 (us:=ee m t w x) rfl rfl λaj am S bF=>⟨nofun,λ_=>?_⟩⟩⟩;have U:Ext bE aj:=Ext.cp a9 S (bk _);have E:=(f.trans y).trans U;obtain⟨an,ao,ap,aq⟩:=bT am;refine⟨_,an,t,ao,w,ap,x,aq,(yH (h.ext E) aD aE aF (ai.ext U) l.1 l.2.1 l.2.2).use ?_⟩;intro v w' F;obtain⟨s,e,rfl⟩:=F.out;rw[a7];exact⟨s,e,rfl,aK s e w' (F.base E)⟩
 .refine a6 (vs:=[.bool false,.slice none 0 0,.slice none 0 0,.slice none 0 0]) rfl λb1 bG z b3=>⟨z,?_⟩
  have B:=p1 ((aS.ext f).ext z) ((aU.ext f).ext z) (R.1.ext z) (λq r=>fO (R.2.2 q r).2 z.size) (U4 aI.2) aY sb aZ a5 I I;rw[←ag]at B;refine B.use ?_;rintro _ b4 ⟨t,w,x,rfl,ai,y⟩;have a_:=bG.ext y;refine⟨_,t,w,x,true,rfl,y,a_.ct rfl fV,rfl,cP a_ (us:=ee m t w x) rfl rfl λaj am S bF=>⟨nofun,λ_=>?_⟩⟩;have U:Ext p.drew aj:=Ext.cp (z.trans y) S (bk _);have E:=f.trans U;have bH:=b7.ah ai S λq r e=>by omega
  obtain⟨an,ao,ap,aq⟩:=bT am;refine⟨_,an,t,ao,w,ap,x,aq,(yH (h.ext E) aD aE aF bH l.1 l.2.1 l.2.2).use ?_⟩;intro v w' F;obtain⟨s,e,rfl⟩:=F.out;rw[a7];exact⟨s,e,rfl,aK s e w' (F.base E)⟩
theorem dF.leave{T:aN}{c c':dQ}(h:bY T (T.cx E G) w w' 0)(a:E=T.E)(b:∀q,T.G q->G q)(h1:c'.cb=c.cb)(h2:c'.made=c.made)(d:c'.left=c.left++ [no]):dF T (T.cx E G) c c' [] [no] w w' 0:=
 ⟨h,a,b,rfl,rfl,h1,by rw[h2,fp],d,List.nodup_nil,λ_ h=>(by cases h),λno=>by simp[aN.cx],λ_ _=>⟨rfl,rfl⟩,by simp[cy,aN.cx]⟩
theorem Lr{H jG:J}{T:aN}{c:dQ}{u:dN}{j k l:ad}{other:Nat}{Q:U0}(h:dE w T c)(aE:Var w nb (ee n K V D) 169)(aF:Var w aV (ee o j k l) 169)
 (aH:¬T.M nb) (aI:¬T.M aV) (aJ:b7 (λq=>¬T.M q) w n K V D) (aK:b7 (λq=>¬T.M q) w o j k l) (hu:mU (λq=>¬T.M q) w A u)
 (aL:T.C.D.aX<=900000090) (aM:2<=cy T) (aP:c.made.length<=900) (bC:c.left.length<=900) (aQ:cM n) (aR:cM o) (aS:bS n<=400) (aU:bS o<=400) (aY:o.leaf=n.leaf) (a0:fr<u.n.keys.length) (a1:cK u.n.keys[fr]) (m:aG) (L:m=if u.c3<other then ed n u.n.keys[fr] o else ed o u.n.keys[fr] n) (a2:mT m) (a3:fr<=1000)
 (a4:∀ (s:ad) (e:Int) (bw:aN) (aZ:dQ) (w1 w':J),dF T bw c aZ [] [no] w w1 0->iM bw aZ m w1 (.tuple #[.slice s.a s.len s.cap,.int .i64 e]) w'->Q (.tuple #[.slice s.a s.len s.cap,.int .i64 (fr:Nat),.int .i64 ((fr+2:Nat):Int),.int .i64 e]) w') (y:H.heap.size=nb) (z:jG.heap.size=aV):
 ae.Ai H jG (some ⟨c.cb,0,none⟩) (some A) (fr:Nat) (other:Nat) (no:Nat) 0 w Q:=by
 (delta ae.Ai rn ak al Y st aW z5 tv cg r1 pH aO mH rl dH ar;dsimp only);rw[y,z];refine⟨nofun,λ_=>⟨_,rfl,_,h.cells.2.2,?_⟩⟩;obtain⟨d,aq,ay,az,a5,a7,a8⟩:=Fl h no I;refine aT ⟨d,aq,ay,_,rfl,a5,a7,aT ?_⟩;rw[aA];obtain⟨f,au⟩:=U6 (aq.setCell ⟨c.cb,0+2,none⟩ (.slice d.a d.len d.cap));rw[←au];obtain⟨av,aw⟩:=a8 f au;have ax:=dF.leave (c:=c) (c':={c with g4:=d,left:=c.left++ [no]}) (no:=no) aw rfl (λq P=>.inl P) rfl rfl rfl;obtain⟨bw,B⟩:=U6 (T.cx T.E λq=>T.G q\/aD d q);obtain⟨aZ,R⟩:∃aZ:dQ,aZ={c with g4:=d,left:=c.left++ [no]}:=⟨_,rfl⟩;have a9:aZ.cb=c.cb:=by rw[R]
 have a_:aZ.made=c.made:=by rw[R]
 have ba:bw.C.D.aX<=900000090:=by rw[B];exact aL
 have bb:2<=cy bw:=by rw[B];exact aM
 rw[←B,←R]at av ax;rw[←B]at aw;have S:Ext f f.drew:=cw _;have aB:=av.ext S;have U:dF T bw c aZ [] [no] w f.drew 0:=ax.trans (dF.ext bw aZ S);obtain⟨b,bc⟩:=U6 f.drew;rw[←bc]at S aB U⊢;have F:=U.to;have W:∀q,¬T.M q->¬T.N q:=λq h1 h2=>h1 (aN.gD h2);have X:=aE.ah F.ah (W _ aH);have Z:=aF.ah F.ah (W _ aI);have aC:∀ {m:aG}{K V D:ad},b7 (λq=>¬T.M q) w m K V D->b7 (λq=>¬T.M q) b m K V D:=λL=>b7.ah L F.ah λq P=>W q P;have bd:=aC aJ;have be:=aC aK;have bf:=hu.to F;obtain⟨bg,b6,bx,bh⟩:=bT X;obtain⟨bi,bj,bl,bm⟩:=bT Z;have bD:=X.lt;have bE:=Z.lt;have fin:∀ (c6 ab kc:J) (p bv:Nat),ab.heap.size=p->kc.heap.size=bv->Ext b c6->Var c6 p (ee o j k l) 169->Var c6 bv (ee n K V D) 169->b<=p->b<=bv->p≠bv->ae.Ah H jG ab kc (some ⟨c.cb,0,none⟩) (some A) (fr:Nat) (other:Nat) c6 Q:=by
  intro c6 ab kc p bv bn bo hx bp O h1 h2 bq;have:=Lq aB hx X Z bp O h1 h2 bq bd be bf ba bb (a_▸aP) aQ aR aS aU aY a0 a1 m L a2 a3 (Q:=Q) (λs e w' hf=>a4 s e bw aZ b w' U hf) y z bn bo;rw[a9]at this;exact this
 refine aT ⟨λq=>b<=q,(show¬b.heap.size<=aV from I),_,bi,j,bj,k,bl,l,bm,(show¬b.heap.size<=nb from I),_,bg,K,b6,V,bx,D,bh,?_,?_⟩
 .refine a6 (vs:=[.bool false,.slice none 0 0,.slice none 0 0,.slice none 0 0]) rfl λac br r bs=>⟨ag.cX r,a6 (vs:=[.bool false,.slice none 0 0,.slice none 0 0,.slice none 0 0]) rfl λbt ai g bu=>?_⟩
  have t:=br.ext g;refine⟨ag.cX g,t.ct rfl fV,rfl,cP t (us:=ee o j k l) rfl rfl λaj am i bz=>?_⟩;have v:=ai.ah i I;have an:Ext b aj:=Ext.cp (r.trans g) i (bk _);refine⟨i.mono λq _ e=>I,v.ct rfl fV,rfl,cP v (us:=ee n K V D) rfl rfl λao ap x bA=>?_⟩;rw[←y,←z];exact fin ao b ac _ _ rfl rfl (Ext.cp an x I) (am.ah x I) ap (bk _) I I
 .refine a6 (vs:=[.bool false,.slice none 0 0,.slice none 0 0,.slice none 0 0]) rfl λac bB r bs=>⟨ag.cX r,a6 (vs:=[.bool false,.slice none 0 0,.slice none 0 0,.slice none 0 0]) rfl λbt t g bu=>?_⟩
  have ai:=bB.ext g;refine⟨ag.cX g,t.ct rfl fV,rfl,cP t (us:=ee o j k l) rfl rfl λaj am i bz=>?_⟩;have v:=ai.ah i I;have an:Ext b aj:=Ext.cp (r.trans g) i I;refine⟨i.mono λq _ e=>I,v.ct rfl fV,rfl,cP v (us:=ee n K V D) rfl rfl λao ap x bA=>?_⟩;rw[←y,←z];exact fin ao ac b _ _ rfl rfl (Ext.cp an x (bk _)) (am.ah x I) ap I (bk _) I
theorem bY.read{T:aN}(h:bY (T.cx E λ_=>False) ((T.cx E λ_=>False).bC aM P) w w' k)(e:∀q,T.E q\/T.G q->E q)(f:∀q,E q->T.E q\/T.G q\/w<=q):bY T (T.bC aM P) w w' k:=by
 refine⟨h.bd,h.sb,h.n,h.g,h.s1,h.s2,h.c,h.d,h.bJ,h.gen,h.aX,h.calm,h.ah.mono λq _ a=>?_,λq a=>?_,λq a=>?_⟩
 .obtain a|a|a|a:=a
  .exact .inl a
  .exact .inr (.inl a)
  .exact .inr (.inr (.inl a))
  .exact a.elim
 .have h1:((T.cx E λ_=>False).bC aM P).M q:=by
   obtain a|a|a|a:=a
   .exact .inl a
   .exact .inr (.inl a)
   .exact .inr (.inr (.inl a))
   .exact .inr (.inr (.inr (.inl (e q a))))
  rcases h.c1 q h1 with h2|h2
  .obtain a|a|a|a|a:=h2
   .exact .inl (.inl a)
   .exact .inl (.inr (.inl a))
   .exact .inl (.inr (.inr (.inl a)))
   .rcases f q a with b|b|b
    .exact .inl (.inr (.inr (.inr (.inl b))))
    .exact .inl (.inr (.inr (.inr (.inr b))))
    .exact .inr b
   .exact a.elim
  .exact .inr h2
 .obtain a|a|a|a:=a
  .rcases h.fn q (.inl a) with h2|h2
   .obtain h2|h2|h2|h2:=h2
    .exact .inl (.inl h2)
    .exact .inl (.inr (.inl h2))
    .exact .inl (.inr (.inr (.inl h2)))
    .exact h2.elim
   .exact .inr h2
  .exact .inl (.inr (.inl a))
  .exact .inl (.inr (.inr (.inl a)))
  .exact .inl (.inr (.inr (.inr a)))
theorem dF.cache{T:aN}{c:dQ}(h:bY T (T.bC aM T.P) w w' k)(a:∀j,aM.view j=T.C.view j):dF T (T.bC aM T.P) c c [] [] w w' k:=
 ⟨h,rfl,λ_ h=>h,rfl,rfl,rfl,by simp,by simp,List.nodup_nil,λ_ h=>(by cases h),λno=>by simp[aN.bC],λno _=>⟨rfl,a no⟩,by simp[cy,aN.bC]⟩
theorem Fu{T:aN}{c:dQ}{Z:U1}(h:dE w T c)(hx:Ext w w1)(g:∀q,Z q->w<=q/\q<w1)(y:T.C.D.aX<=999999999)(z:T.P no=some o):
 aH aj 175 #[.pointer (some T.bd),no,o.leaf] w1 (λv w'=>∃aM:cn,(∀j,aM.view j=T.C.view j)/\ag (λq=>T.N q/\¬T.G q) w1 w'/\(∀q,(T.bC aM T.P).M q->T.M q\/w1<=q)/\
  (∀f,ag Z w' f->dE f (T.bC aM T.P) c/\dF T (T.bC aM T.P) c c [] [] w f 2)/\
  ((∃ (K V D:ad),v=.tuple #[dz o K V D,U8]/\b7 (λq=>w1<=q/\¬(T.bC aM T.P).M q) w' o K V D)\/(v=.tuple #[dz im bM bM bM,(3:Int)]/\¬T.C.D.calm 2))):=by
 obtain⟨A,i⟩:=h.t.eS no o z;obtain⟨bU,k⟩:=U6 (λq=>T.E q\/T.G q\/Z q);have d:∀q,T.E q\/T.G q\/Z q->bU q:=λq a=>by rw[k];exact a
 have l:∀q,bU q->T.E q\/T.G q\/Z q:=λq a=>by rw[k]at a;exact a
 have m:b5 w1 (T.cx bU λ_=>False):=h.t.grow (W:=λ_=>False) hx (λ_ h=>h.elim) (λq a=>(l q a).imp id (Or.imp id (g q))) (λ_ h=>h.elim) λ_ _ h=>h;have n:∀q,(T.cx bU λ_=>False).N q->T.N q/\¬T.G q:=λq a=>⟨by
  obtain a|a|a|a:=a
  .exact .inl a
  .exact .inr (.inl a)
  .exact .inr (.inr (.inl a))
  .exact a.elim,λhg=>m.j_ (d q (.inr (.inl hg))) a⟩
 refine(Bp m y A i.two o.leaf).mono ?_;rintro v w' ⟨aM,B,ht,r,F⟩;have Q:=hx.size;have R:=ht.ah.size;have s:=(bY.ext (T.cx bU λ_=>False) hx).trans ht;rw[cA]at s;have H:bY T (T.bC aM T.P) w w' 2:=bY.read (E:=bU) s (λq a=>d q (a.imp id .inl)) λq a=>(l q a).imp id (Or.imp id λh=>(g q h).1);have u:ag (λq=>T.N q/\¬T.G q) w1 w':=ht.ah.mono λq _ a=>n q a;refine⟨aM,r,u,λq a=>?_,λf hc=>?_,?_⟩
 .obtain a|a:=a
  .exact(ht.fn q (.inl a)).imp (λh=>aN.gD (n q h).1) id
  .exact .inl (.inr a)
 .have I:b5 f (T.bC aM T.P):=B.grow (E:=T.E) (G:=T.G) hc (λq a _=>.inl (d q (.inr (.inr a)))) (λq a=>.inl (d q (.inl a))) (λq a=>.inl (d q (.inr (.inl a)))) λq a=>(h.t.dv q a).2.2
  refine⟨(h.ext hx).of (W:=λq=>(T.N q/\¬T.G q)\/Z q) I ((u.mono λq _ a=>.inl a).trans (hc.mono λq _ a=>.inr a)) (λq hg a=>?_) rfl (λ_ h=>h) ht.cl.1,dF.cache ?_ r⟩
  .obtain a|a:=a
   .exact a.2 hg
   .have:=h.t.lt (q:=q) (.inr (.inr (.inr (.inr hg))))
    have:=(g q a).1;omega
  .exact H.step (E:=T.E) (G:=T.G) hc (λq a S=>U4 ((g q a).1)) (λq a=>.inl a) λq a=>.inl a
 .obtain⟨bx,K,V,D,rfl,L,dd⟩|⟨e,rfl,O,U⟩:=F
  .obtain rfl:=hV.uniq i L
   refine .inl ⟨K,V,D,rfl,dd.bg λq a x=>⟨x.1,λb=>x.2 ?_⟩⟩;obtain b|b|b|b|b:=b
   .exact .inl b
   .exact .inr (.inl b)
   .exact .inr (.inr (.inl b))
   .exact .inr (.inr (.inr (.inl (d q (.inl b)))))
   .exact .inr (.inr (.inr (.inl (d q (.inr (.inl b))))))
  .refine .inr ?_
   obtain⟨rfl,h1⟩|h1|⟨_,_,h1⟩:=O
   .exact⟨rfl,h1⟩
   .obtain⟨p,ay,_⟩:=i
    have h1:dX (no:Int) (T.C.view no)=.error e:=h1;rw[ay]at h1;cases h1
   .exact absurd i (h1 o)
def kM(u:dN):Nat:=if u.c3=0 then 1 else u.c3-1
def mV(u:dN)(n o:aG):aG:=if u.c3<kM u then ed n (u.n.keys.getD (u.c3-1) []) o else ed o (u.n.keys.getD (u.c3-1) []) n
def Bu(T:aN)(c:dQ)(n:aG)(u:dN)(w:J)(v:aa)(w':J):Prop:=
 (80<=bS n/\∃ (s:ad) (e:Int),v=.tuple #[s,u.c3,.int .i64 ((u.c3+1:Nat):Int),e]/\iM T c n w (.tuple #[s,e]) w')\/
 (bS n<80/\∃ (bw:aN) (aZ:dQ),v=.tuple #[(),U8,U8,(3:Int)]/\dE w' bw aZ/\dF T bw c aZ [] [] w w' 2/\¬T.C.D.calm 2)\/
 (bS n<80/\∃ (o:aG) (no:Nat) (bw:aN) (aZ:dQ) (w1:J) (s:ad) (e:Int),u.n.kids[kM u]? =some no/\T.P no=some o/\dF T bw c aZ [] [no] w w1 2/\
   v=.tuple #[s,.int .i64 ((u.c3-1:Nat):Int),.int .i64 ((u.c3-1+2:Nat):Int),e]/\iM bw aZ (mV u n o) w1 (.tuple #[s,e]) w')
theorem Ls{T:aN}{c:dQ}(h:dE w T c)(j:b7 B w n K V D)(d:mT n)(o:T.C.D.aX<=900000080)(k:2<=cy T)(l:c.made.length<=900):
 aH aj 231 #[.pointer (some c.cb),dz n K V D,.pointer none] w (λv w'=>∃ (s:ad) (e:Int),v=.tuple #[s,U8,U8,e]/\iM T c n w (.tuple #[s,e]) w'):=by
 refine okF (ae.pX (some c.cb) n.leaf K V D none) ax.pX func231 ?_;(delta ae.pX ak aW Y al bB r1 ar dH aO kX z5 rn st tv cg pH mH rl;dsimp only);refine a6 (vs:=ee n K V D) rfl λw1 m f p=>?_;refine cc (λb w'=>b=true/\w1=w') (λq g=>⟨λ_=>g _ _ ⟨rfl,rfl⟩,nofun⟩) ?_;rintro _ _ ⟨rfl,rfl⟩;refine⟨λ_=>pC (λa b w'=>a=0/\b=0/\w1=w') (λq g=>⟨nofun,λ_=>g _ _ _ ⟨rfl,rfl,rfl⟩⟩) ?_,nofun⟩;rintro _ _ _ ⟨rfl,rfl,rfl⟩;obtain⟨b9,aZ,bo,bt⟩:=bT m;refine⟨_,b9,K,aZ,V,bo,D,bt,(yH (h.ext f) I k l (j.ext f) d.1 d.2.1 d.2.2).use ?_⟩;intro v w' i;obtain⟨s,e,rfl⟩:=i.out;exact⟨s,e,rfl,s,e,rfl,i.base f⟩
theorem Lt{T:aN}{c:dQ}{u:dN}(h:dE w T c)(au:b7 (λq=>¬T.M q) w n K V D)(hu:mU (λq=>¬T.M q) w A u)(aw:cM n)(a4:bS n<=400)(av:80<=bS n->mT n)
 (a5:bS n<80->∃ (o:aG) (no:Nat),u.n.kids[kM u]? =some no/\T.P no=some o/\o.leaf=n.leaf/\u.c3-1<u.n.keys.length/\cK (u.n.keys.getD (u.c3-1) [])/\mT (mV u n o)) (bF:u.c3<=900)
 (bG:T.C.D.aX<=900000080) (aP:2<=cy T) (aQ:c.made.length<=900) (a7:c.left.length<=900):
 aH aj 231 #[.pointer (some ⟨c.cb,0,none⟩),dz n K V D,.pointer (some A)] w (Bu T c n u w):=by
 have bH:=aw.eB I;refine okF (ae.pX (some ⟨c.cb,0,none⟩) n.leaf K V D (some A)) ax.pX func231 ?_;(delta ae.pX ak aW Y al bB r1 ar dH aO kX z5 rn st tv cg pH mH rl;dsimp only);refine a6 (vs:=ee n K V D) rfl λw1 X aR bI=>?_;obtain⟨nb,aa⟩:=U6 w.heap.size;rw[←aa]at X⊢;refine cc (λb w'=>b=decide (80<=bS n)/\Ext w1 w') (λq f=>⟨nofun,λ_=>?_⟩) ?_
 .obtain⟨b9,aZ,bo,bt⟩:=bT X
  refine⟨_,b9,K,aZ,V,bo,D,bt,(p0 (au.ext aR) aw I).use ?_⟩;rintro _ bJ ⟨rfl,a8⟩;refine⟨_,rfl,f _ _ ⟨?_,a8⟩⟩;rw[eG,b8,b8];omega
 rintro _ p ⟨rfl,ab⟩;have ac:=aR.trans ab;refine⟨λg=>?_,λg=>?_⟩
 .have g:=b2 g
  have L:=av g;refine pC (λa b w'=>a=(u.c3:Nat)/\b=((u.c3+1:Nat):Int)/\Ext p w') (λq f=>⟨λ_=>?_,nofun⟩) ?_
  .have y:Ext p p.drew:=cw _
   have aS:=hu.ext (ac.trans y);refine aT ⟨A,rfl,id,_,aS.gg,A,rfl,id,_,aS.gg,f _ _ _ ⟨rfl,?_,y⟩⟩;rw[bq I I];rfl
  rintro _ _ bK ⟨rfl,rfl,aU⟩;have r:=ac.trans aU;obtain⟨b9,aZ,bo,bt⟩:=bT (X.ext (ab.trans aU));refine⟨_,b9,K,aZ,V,bo,D,bt,(yH (h.ext r) I aP aQ (au.ext r) L.1 L.2.1 L.2.2).use ?_⟩;intro v w' ai;obtain⟨s,e,rfl⟩:=ai.out;exact⟨s,e,rfl,.inl ⟨g,s,e,rfl,ai.base r⟩⟩
 .have g:¬80<=bS n:=cr g
  obtain⟨o,no,ay,am,az,aY,a9,L⟩:=a5 I;obtain⟨bL,a_⟩:=h.t.eS no o am;obtain⟨_,ba,bO⟩:=a_.is;have an:=hu.ext ac;refine⟨A,rfl,_,an.gg,((u.c3-1:Nat):Int),p,?_,?_⟩
  .rw[run_max_int2]
   congr 2
   by_cases h0:u.c3=0
   .rw[h0];rfl
   .rw[bq I I,if_neg I];omega
  refine cc (λa w'=>a=(kM u:Nat)/\p=w') (λq f=>⟨A,rfl,_,an.gg,λh0=>f _ _ ⟨?_,rfl⟩,λh0=>f _ _ ⟨?_,rfl⟩⟩) ?_
  .have:u.c3=0:=by simpa using h0
   unfold kM;rw[if_pos this];rfl
  .have:u.c3≠0:=by simpa using h0
   unfold kM;rw[if_neg this]
  rintro _ _ ⟨rfl,rfl⟩;have bb:kM u<u.n.kids.length:=(kn.1 ay).1;obtain⟨bc,bd,be,a0⟩:=c9.at an.bN.kids bb;have bf:u.n.kids[kM u]=no:=(kn.1 ay).2;rw[bf]at a0;refine⟨A,rfl,u.D,an.e3,bc,bd,be,_,a0,aT ?_⟩;have y:Ext p p.drew:=cw _;obtain⟨z,bh⟩:=U6 p.drew;rw[←bh]at y⊢;have r:=ac.trans y;have aA:=h.ext r;have bP:=r.size;have bQ:=(ab.trans y).size;have aB:=X.ext (ab.trans y);have aC:∀q,T.M q->q<w:=λq f=>h.t.lt f;have a1:u.n.keys.getD (u.c3-1) []=u.n.keys[u.c3-1]:=by rw[ft,dR aY];rfl
  have fin:∀ (aM:cn) (jG:J) (aV:Nat) (i k l:ad) (d:J),jG.heap.size=aV->dE d (T.bC aM T.P) c->dF T (T.bC aM T.P) c c [] [] z d 2->Var d nb (ee n K V D) 169->Var d aV (ee o i k l) 169->z<=aV->¬(T.bC aM T.P).M aV->b7 (λq=>¬(T.bC aM T.P).M q) d o i k l->
   ae.Ai w jG (some ⟨c.cb,0,none⟩) (some A) ((u.c3-1:Nat):Int) (kM u:Nat) (no:Nat) 0 d (λv w'=>Bu T c n u w v w'):=by
   intro aM jG aV i k l d bi B ao bj bl bR bm bn;have a2:=((dF.ext T c r).trans ao).mono (j:=2) I;have aD:=a2.to;have bp:¬(T.bC aM T.P).M nb:=λO=>by
    rcases ao.to.c1 nb O with h1|h1
    .have:=aC _ h1;omega
    .omega
   have br:b7 (λq=>¬(T.bC aM T.P).M q) d n K V D:=(aD.bN (lo:=0) (au.bg λq _ g=>⟨cI _,g⟩)).bg λq _ g=>g.2;have bs:(T.bC aM T.P).C.D.aX<=900000090:=eO aD.aX I;refine Lr B bj bl bp bm br bn (hu.to aD) bs aP aQ a7 aw ba a4 I az aY (a1▸a9) (mV u n o) (by unfold mV;rw[a1]) L I ?_ aa.symm bi;intro s e bw aZ bu w' bv hf;exact .inr (.inr ⟨I,o,no,bw,aZ,bu,s,e,ay,am,(a2.trans bv).mono I,rfl,hf⟩)
  have ap:∀q,T.N q->q<w:=λq f=>aC q (aN.gD f);have err:∀ (aM:cn) (d:J),dE d (T.bC aM T.P) c->dF T (T.bC aM T.P) c c [] [] z d 2->¬T.C.D.calm 2->Bu T c n u w (.tuple #[.slice none 0 0,.int .i64 0,.int .i64 0,.int .i64 3]) d:=by
   intro aM d B ao Q;exact .inr (.inl ⟨I,_,c,rfl,B,((dF.ext T c r).trans ao).mono I,Q⟩)
  obtain⟨b9,aZ,bo,bt⟩:=bT aB;refine⟨λq=>T.N q/\¬T.G q,_,rfl,λf=>f.2 h.gc,_,aA.cells.1,(λf=>by have:=ap _ f.1;show False;exact absurd this (by show¬nb<w;omega)),_,b9,?_,?_⟩
  .rw[←az]
   refine(Fu (Z:=λ_=>False) aA (ag.refl _ _) (λ_ h=>h.elim) I am).use ?_;rintro _ F ⟨aM,ai,x,a3,R,aE⟩;have bx:=x.size;obtain⟨i,k,l,rfl,aF⟩|⟨rfl,Q⟩:=aE
   .refine⟨_,i,k,l,0,rfl,x,a6 (vs:=[.bool false,.slice none 0 0,.slice none 0 0,.slice none 0 0]) rfl λbz S U bA=>⟨ag.cX U,S.ct rfl fV,rfl,cP S (us:=ee o i k l) rfl rfl λd W m aI=>?_⟩⟩
    have E:Ext F d:=Ext.cp U m (bk _);obtain⟨aq,aJ⟩:=R F (ag.refl _ _);have H:=aB.ah x λf=>U4 (ap _ f.1)
    subst aa;refine fin aM F _ i k l d rfl (aq.ext E) ((aJ.trans (dF.ext _ _ E)).mono I) (H.ext E) W I (λO=>U4 (aq.t.lt O)) ?_;exact(aF.ext E).bg λq _ g=>g.2
   .refine⟨_,bM,bM,bM,3,rfl,x,a6 (vs:=[.bool false,.slice none 0 0,.slice none 0 0,.slice none 0 0]) rfl λbz S U bA=>⟨ag.cX U,S.ct rfl fV,rfl,cP S (us:=ee im bM bM bM) rfl rfl λd W m aI=>⟨λ_=>?_,nofun⟩⟩⟩
    have E:Ext F d:=Ext.cp U m (bk _);obtain⟨aq,aJ⟩:=R F (ag.refl _ _);exact err aM d (aq.ext E) ((aJ.trans (dF.ext _ _ E)).mono I) Q
  .refine a6 (vs:=[.bool false,.slice none 0 0,.slice none 0 0,.slice none 0 0]) rfl λbU bD aK bV=>⟨ag.cX aK,?_⟩
   rw[←az];refine(Fu (Z:=λq=>q=z) aA aK (λq e=>⟨I,I⟩) I am).use ?_;rintro _ F ⟨aM,ai,x,a3,R,aE⟩;have bx:=x.size;have H:=bD.ah x λf=>U4 (ap _ f.1)
   have bE:=(aB.ext aK).ah x λf=>U4 (ap _ f.1)
   obtain⟨i,k,l,rfl,aF⟩|⟨rfl,Q⟩:=aE
   .refine⟨_,i,k,l,0,rfl,H.ct rfl fV,rfl,cP H (us:=ee o i k l) rfl rfl λd W m aI=>?_⟩
    obtain⟨B,aL⟩:=R d m;subst aa;refine fin aM z _ i k l d rfl B aL (bE.ah m I) W (bk _) (λO=>?_) ?_
    .rcases a3 _ O with h1|h1
     .have:=aC _ h1;omega
     .omega
    .refine(b7.ah aF m λq f e=>U4 f.1).bg λq _ g=>g.2
   .refine⟨_,bM,bM,bM,3,rfl,H.ct rfl fV,rfl,cP H (us:=ee im bM bM bM) rfl rfl λd W m aI=>⟨λ_=>?_,nofun⟩⟩
    obtain⟨B,aL⟩:=R d m;exact err aM d B aL Q
structure Bv(T aq:aN)(l:O Nat)(w w':J):Prop where
 to:bY T aq w w' 0
 E:aq.E=T.E
 G:aq.G=T.G
 root:aq.root=T.root
 aK:aq.aK=T.aK
 f:∀no,aq.f no=(T.f no&& !decide (no∈l))
 eU:∀no,(no∉l\/T.g no=true)->aq.P no=T.P no/\aq.C.view no=T.C.view no
theorem Fv{T:aN}{c:dQ}(h:dE w T c)(hs:Src 1 w s (ej l))(z:∀q,aD s q->T.G q)(Q:∀x∈l,T.f x=true)(dd:l.Nodup)(ai:l.length<=10000):
 aH aj 186 #[.pointer (some c.cb),s] w (λv w'=>v=.tuple #[]/\∃aq:aN,dE w' aq c/\Bv T aq l w w'):=by
 have al:s.len=l.length:=by have:=hs.len;rw[oQ]at this;omega
 refine okF (ae.xw (some c.cb) s) ax.xw func186 ?_;(delta ae.xw ak aO r1 bP bB ar;dsimp only);refine⟨λi w'=>∃ (j:Nat) (aq:aN),i=j/\j<=l.length/\dE w' aq c/\Bv T aq (l.take j) w w'/\Src 1 w' s (ej l),λi _=>((l.length:Int)-i).toNat,⟨0,T,rfl,cI _,h,⟨.refl _ _,rfl,rfl,rfl,rfl,λno=>by simp,λ_ _=>⟨rfl,rfl⟩⟩,hs⟩,?_⟩;rintro _ am ⟨j,bw,rfl,an,h1,hg,B⟩;refine⟨λaI=>?_,λp=>?_⟩
 .have aI:j<l.length:=by
   have:(j:Int)<(s.len:Int):=b2 aI;omega
  have C:bw.f l[j]=true:=by
   rw[hg.f,Q _ (cJ aI)];have:l[j]∉l.take j:=λR=>by
    obtain⟨i,hi,he⟩:=fe R;rw[cF]at hi;rw[pb]at he;have:=(List.getElem_inj dd).1 he;omega
   simp[this]
  have ao:l[j]<bw.n:=by
   rcases dV l[j] bw.n with h2|h2
   .exact h2
   .have:=h1.t.s.pf _ h2
    rw[C]at this;cases this
  obtain⟨A,av,S,hc⟩:=B.at (i:=j) (v:=.int .i64 ((l[j]:Nat):Int)) (by simp[ej,aI]);refine j2 (λw'=>∃cg:aN,dE w' cg c/\Bv T cg (l.take (j+1)) w w'/\Src 1 w' s (ej l)) (λq a=>⟨A,av,S,_,hc,_,rfl,_,h1.cells.1,_,rfl,_,h1.t.cells.2.1,(KS h1.t.s _).use ?_⟩) ?_
  .rintro _ _ ⟨rfl,rfl⟩
   refine⟨_,rfl,_,rfl,_,h1.cells.1,_,rfl,_,h1.t.cells.2.1,(EZ h1.t.s _).use ?_⟩;rintro _ D ⟨rfl,gx,r⟩;have U:oV bw.f bw.n ((l[j]:Nat):Int)=dA bw.f l[j] false:=by
    unfold oV;rw[if_pos ⟨I,I⟩,c2]
   rw[U]at gx;obtain⟨V,F⟩:=h1.t.yF gx r;have d:dE D (bw.kg (dA bw.f l[j] false)) c:=h1.of V r (λq a hf=>(h1.t.jy q a).2 hf) rfl λ_ h=>h;have H:Src 1 D s (ej l):=B.ah r λq a hf=>(h1.t.jy q (by rw[hg.G];exact z q a)).2 hf;have W:(decide ((0:Int)<=((l[j]:Nat):Int))&&decide (((l[j]:Nat):Int)<(bw.n:Nat))&&bw.f (Int.toNat ((l[j]:Nat):Int))&& !(bw.g (Int.toNat ((l[j]:Nat):Int))))= !(bw.g l[j]):=by
    rw[c2,C,dh I,dh I];simp
   have K:∀no,dA bw.f l[j] false no=(T.f no&& !decide (no∈l.take (j+1))):=λno=>by
    rw[ib aI];unfold dA;by_cases e:no=l[j]
    .rw[if_pos e,e,dh (cR.2 (.inr (e8.2 rfl)))]
     exact(Bool.and_false _).symm
    .rw[if_neg e,hg.f]
     have X:decide (no∈l.take j++ [l[j]])=decide (no∈l.take j):=by
      rw[eG,b8,b8,cR,e8];exact⟨λh=>h.resolve_right e,.inl⟩
     rw[X]
   rw[W];refine⟨_,rfl,λu=>⟨_,rfl,_,d.cells.1,_,rfl,_,d.t.cells.1,(Lc d.t.ca _).use ?_⟩,λu=>a _ ⟨_,d,⟨?_,hg.E,hg.G,hg.root,hg.aK,K,λno k=>?_⟩,H⟩⟩
   .rintro _ ap ⟨⟨b,rfl⟩,aM,Y,m,L,_⟩
    have Z:T.g l[j]=false:=by
     have h2:bw.g=T.g:=hg.to.g;rw[h2]at u;simpa using u
    obtain⟨aa,ab⟩:=d.t.yD (P:=λno=>if no=l[j] then none else bw.P no) Y m (λno bN o=>by
     by_cases e:no=l[j]
     .rw[if_pos e]at o;cases o
     .rw[if_neg e]at o
      rw[L no e];exact h1.t.eS no bN o)
    have ac:=d.of (aq:=(bw.kg (dA bw.f l[j] false)).bC aM λno=>if no=l[j] then none else bw.P no) aa m.ah (λq a=>d.t.uy a) rfl (λ_ h=>h) m.cl;refine⟨b,rfl,a _ ⟨_,ac,⟨?_,hg.E,hg.G,hg.root,hg.aK,K,λno k=>?_⟩,?_⟩⟩
    .exact((hg.to.trans F).trans ab).mono I
    .have M:no≠l[j]:=λe=>by
      obtain h2|h2:=k
      .exact h2 (by rw[ib aI,e];exact cR.2 (.inr (e8.2 rfl)))
      .rw[e,Z]at h2;cases h2
     have N:=hg.eU no (k.imp (λh2 y=>h2 (by rw[ib aI];exact cR.2 (.inl y))) id);exact⟨(if_neg M).trans N.1,(L no M).trans N.2⟩
    .exact H.ah m.ah λq a=>d.t.uy (by show bw.G q;rw[hg.G];exact z q a)
   .exact(hg.to.trans F).mono I
   .exact hg.eU no (k.imp (λh2 y=>h2 (by rw[ib aI];exact cR.2 (.inl y))) id)
  .rintro au ⟨cg,h2,af,ag⟩
   rw[bq (n:=(j:Int)+1) I I];refine⟨⟨j+1,cg,I,I,h2,af,ag⟩,?_⟩;show((l.length:Int)-((j:Int)+1)).toNat<((l.length:Int)-(j:Int)).toNat;omega
 .have p:j=l.length:=by
   have:¬(j:Int)<(s.len:Int):=cr p;omega
  subst p;rw[ic]at hg;exact⟨rfl,bw,h1,hg⟩
theorem rS(c:b7 B w n K V D)(aK:Nat)(h:aK<=100)(d:n.leaf=false->∃x,n.kids=[x]/\1<=aK):
 aH aj 230 #[dz n K V D,aK] w (λv w'=>v=(if n.leaf then .tuple #[U8,U8,U8] else .tuple #[.int .i64 ((n.kids.getD 0 0:Nat):Int),.int .i64 ((aK-1:Nat):Int),U8])/\Ext w w'):=by
 refine okF (ae.rS n.leaf K V D (aK:Nat)) ax.rS func230 ?_;(delta ae.rS aW Y ak al aO r1 ar;dsimp only);refine a6 (vs:=ee n K V D) rfl λw1 e b j=>?_;obtain⟨b9,aZ,bo,bt⟩:=bT e;refine⟨_,b9,λa=>⟨by rw[if_pos a],b⟩,λa=>?_⟩;obtain⟨x,hx,h1⟩:=d a;obtain⟨A,av,f,hc⟩:=c9.at (c.ext b).kids (i:=0) (by rw[hx];simp);refine⟨D,bt,A,av,f,_,hc,?_,b⟩;have g:(aK:Int)-1=((aK-1:Nat):Int):=I
 rw[if_neg (by rw[a];simp),bq I I,g];simp only[hx];rfl
def Bw(T:aN)(c:dQ)(ks:O Key)(kids:O Nat)(w:J)(v:aa)(w':J):Prop:=
 (∃x,ks=[]/\kids=[x]/\v=.tuple #[x,T.aK,U8]/\dE w' T c/\Ext w w')\/
 (∃ (k:Key) (x y no:Nat) (aq:aN) (c':dQ),ks=[k]/\kids=[x,y]/\dE w' aq c'/\dF T aq c c' [no] [] w w' 1/\
   ((v=.tuple #[no,.int .i64 ((T.aK+1:Nat):Int),U8]/\aq.P no=some ⟨false,[k],[],[x,y]⟩)\/(v=.tuple #[no,.int .i64 ((T.aK+1:Nat):Int),(3:Int)]/\¬T.C.D.calm 1)))
theorem Fw(K D:Nat)(w:J):Sem.run aj (Instr.build 169 #[(1,.slice (some K) 1 1),(3,.slice (some D) 2 2)]) w=.ok (.agg #[false,.slice (some K) 1 1,(),.slice (some D) 2 2]) w:=by kernel_rfl
theorem Var.Fx{b:Nat}{T:TypeId}(h:Var w b vs T):Src 1 w ⟨some b,vs.length,vs.length⟩ vs:=by
 refine⟨by show _=vs.length*1;omega,(λh=>by cases h),λa c=>?_⟩
 cases c;show bf w b 0 (vs.length*1)=_;rw[f_,h.rd rfl]
theorem Lu{t:ad}{k:Key}(b:Nat)(a:Var w b [t] 39)(ht:bI (λ_=>True) w t k):bW (λ_=>True) w ⟨some b,1,1⟩ [k]:=by
 refine⟨[t],rfl,a.Fx,bk _,λq c=>⟨trivial,?_⟩,λi h1 h2=>?_⟩
 .obtain⟨A,av,rfl⟩:=c
  cases av;exact a.lt
 .have:i=0:=by simp at h1;omega
  subst this;exact ht
theorem Lv{y:Nat}(b:Nat)(a:Var w b [x,y] 3):c9 (λ_=>True) w ⟨some b,2,2⟩ [x,y]:=by
 refine⟨a.Fx,bk _,λq c=>⟨trivial,?_⟩⟩;obtain⟨A,av,rfl⟩:=c
 cases av;exact a.lt
theorem Lw{T:aN}{c:dQ}(h:dE w T c)(H:me (λq=>¬T.M q) w s ks kids)(A:kids.length=2->T.aK<12)(hs:∀k x y,ks=[k]->kids=[x,y]->cK k/\x<1600/\y<1600)
 (av:T.C.D.aX<=900000080) (K:1<=cy T) (aw:c.made.length<=900):
 aH aj 232 #[.pointer (some ⟨c.cb,0,none⟩),.slice s.a s.len s.cap] w (Bw T c ks kids w):=by
 have ay:=h.t.num.2.1;refine okF (ae.xH (some ⟨c.cb,0,none⟩) s) ax.xH func232 ?_;(delta ae.xH ak aO r1 al Y g9 ar;dsimp only);have o:Ext w w.drew:=cw w;have hd:=h.ext o;rcases H with ⟨b,x,rfl,rfl,rfl,l,B⟩|⟨b,x,y,k,t,rfl,rfl,rfl,l,B,ht,az⟩
 .refine⟨λ_=>aT ⟨_,rfl,⟨by decide,by show(0:Int)<((1:Nat):Int);decide⟩,id,_,by rw[aA,aA];exact l.drew.cell,_,rfl,id,_,hd.cells.1,_,rfl,id,_,hd.t.cells.2.2.2.2,?_⟩,nofun⟩
  exact .inl ⟨x,rfl,rfl,rfl,hd,o⟩
 .have A:=A rfl
  obtain⟨s1,s2,aB⟩:=hs k x y rfl rfl;refine⟨nofun,λ_=>⟨_,rfl,_,h.cells.1,_,rfl,_,h.t.cells.2.2.2.2,λL=>?_,λ_=>?_⟩⟩
  .have:((T.aK:Nat):Int)=12:=by simpa using L
   omega
  have P:cM ⟨false,[k],[],[x,y]⟩:=.inr ⟨⟨λaC Q=>by rw[e8.1 Q];exact s1,List.pairwise_singleton _ _⟩,rfl,by simp,rfl,rfl,λz E=>by
   simp only[cZ,e2,e_]at E;rcases E with rfl|rfl<;>assumption⟩
  have R:bS ⟨false,[k],[],[x,y]⟩<=232:=by
   have:=s1.2;simp[bS,cellsOf];omega
  have r:¬T.N b:=λS=>B (aN.gD S);have fin:∀ (d:J) (cm aO:Nat),Ext w d->Var d cm [.slice t.a t.len t.cap] 39->Var d aO [.int .i64 (x:Nat),.int .i64 (y:Nat)] 3->
   aH aj 265 #[.pointer (some ⟨c.cb,0,none⟩),.agg #[.bool false,.slice (some ⟨cm,0,none⟩) 1 1,.slice none 0 0,.slice (some ⟨aO,0,none⟩) 2 2]] d (λv w'=>∃n27:Int,∃n28:Int,v=.tuple #[.int .i64 n27,.int .i64 n28]/\ag T.N d w'/\
    ∀e,Ext w' e->Bw T c [k] [x,y] w (.tuple #[.int .i64 n27,.int .i64 ((T.aK+1:Nat):Int),.int .i64 n28]) e/\∃aq c',dE e aq c'/\c'.cb=c.cb/\aq.bd=T.bd/\aq.aK=T.aK):=by
   intro d cm aO hx U V;have dd:b7 (λ_=>True) d ⟨false,[k],[],[x,y]⟩ ⟨some ⟨cm,0,none⟩,1,1⟩ ⟨none,0,0⟩ ⟨some ⟨aO,0,none⟩,2,2⟩:=by
    exact⟨Lu cm U (bI.bg (bI.ext ht hx) λ_ _ _=>trivial),bW.none _ _,Lv aO V⟩
   refine(yG (h.ext hx) I K I dd P R).mono ?_;rintro v w' ⟨no,aq,c',p,f,W⟩;have F:=((dF.ext T c hx).trans f).mono (j:=1) I;rcases W with ⟨rfl,X⟩|⟨rfl,Z⟩
   .refine⟨_,_,rfl,f.to.ah,λe g=>⟨.inr ⟨k,x,y,no,aq,c',rfl,rfl,p.ext g,(F.trans (dF.ext aq c' g)).mono I,.inl ⟨rfl,X⟩⟩,aq,c',p.ext g,f.cb,f.to.bd,f.aK⟩⟩
   .refine⟨_,_,rfl,f.to.ah,λe g=>⟨.inr ⟨k,x,y,no,aq,c',rfl,rfl,p.ext g,(F.trans (dF.ext aq c' g)).mono I,.inr ⟨rfl,Z⟩⟩,aq,c',p.ext g,f.cb,f.to.bd,f.aK⟩⟩
  have aa:IntKind.wrap .i64 (((T.aK:Nat):Int)+1)=((T.aK+1:Nat):Int):=by rw[bq I I];rfl
  refine pC (λa b w'=>∀e,Ext w' e->Bw T c [k] [x,y] w (.tuple #[.int .i64 a,.int .i64 ((T.aK+1:Nat):Int),.int .i64 b]) e/\∃aq c',dE e aq c'/\c'.cb=c.cb/\aq.bd=T.bd/\aq.aK=T.aK) (λq G=>aT ⟨T.N,_,rfl,⟨by decide,by show(1:Int)<((2:Nat):Int);decide⟩,r,t,by rw[aA];exact l.drew.cell,_,rfl,⟨by decide,by show(0:Int)<((2:Nat):Int);decide⟩,r,_,by rw[aA,aA];exact l.drew.cell,_,rfl,⟨by decide,by show(1:Int)<((2:Nat):Int);decide⟩,r,_,by rw[aA,aA];exact l.drew.cell,?_,?_⟩) ?_
  .refine a6 (vs:=[.slice t.a t.len t.cap]) rfl λu ab m ac=>⟨ag.cX m,a6 (vs:=[.int .i64 (x:Nat),.int .i64 (y:Nat)]) rfl λd af i ai=>⟨ag.cX i,_,λ_=>Fw _ _ _,?_⟩⟩
   refine(fin d w.drew.heap.size u (o.trans (m.trans i)) (ab.ext i) af).use ?_;rintro _ w' ⟨n27,n28,rfl,hc,n⟩;exact⟨n27,n28,rfl,hc,G _ _ _ n⟩
  .refine a6 (vs:=[.int .i64 (x:Nat),.int .i64 (y:Nat)]) rfl λu am m ac=>⟨ag.cX m,a6 (vs:=[.slice t.a t.len t.cap]) rfl λd an i ai=>⟨ag.cX i,_,λ_=>Fw _ _ _,?_⟩⟩
   refine(fin d u w.drew.heap.size (o.trans (m.trans i)) an (am.ext i)).use ?_;rintro _ w' ⟨n27,n28,rfl,hc,n⟩;exact⟨n27,n28,rfl,hc,G _ _ _ n⟩
  .intro a b ao n
   obtain⟨h1,aq,c',h2,ap,aD,au⟩:=n _ (cw ao);have hc:=h2.cells.1;rw[ap]at hc;have ht:=h2.t.cells.2.2.2.2;refine aT ⟨_,rfl,id,_,hc,_,rfl,id,_,ht,?_⟩;rw[au,aa];exact h1
theorem dy.Bx{p:O Nat}{L:O aP}(a:dy P h n lo hi p L)(h2:n.leaf=true->bS n<=310)(d:n.leaf=false->bS n<=335)(g:n.leaf=false->n.keys≠ []):mT n:=by
 refine⟨?_,by cases e:n.leaf;exact eO (d e) (by decide);exact eO (h2 e) (by decide),λhs=>?_⟩
 .cases h with
  |zero=>exact a.elim
  |succ h=>
   cases h with
   |zero=>exact .inl a.1
   |succ h=>
    obtain⟨ay,az,b,c,f⟩:=a;have hs:=f.sorted λ_ _ _ _ _ i=>i.in;exact .inr ⟨⟨b,hs.2.2.1⟩,ay,g ay,f.len,az,c⟩
 .obtain⟨ay,az,b,c,_⟩:=a.two (Q:=P) (x:=0) (y:=0) hs h2 d
  exact⟨ay,az,b,c⟩
section
variable {P:Nat->au aG}{lo hi:au Key}
theorem Lx{d f:aG}{p A:au Key}{bh D:O Nat}{bn iC:O aP}{k:Key}(E:∀k∈d.keys,cK k)(hlen:d.kids.length=d.keys.length+1)(F:∀x n,P x=some n->bS n<=232)
 (dW:1<=i) (Q:i<d.kids.length) (B:fy p A k)
 (G:fK (fz P (h+1)) lo p (d.keys.take i) (d.kids.take i) bh bn) (q:dy P (h+1) f p A D iC) (h1:bS f<80):
 ∃ (o:aG) (R:i-1<d.kids.length) (S:i-1<d.keys.length),P d.kids[i-1]=some o/\o.leaf=f.leaf/\cK d.keys[i-1]/\mT (ed o d.keys[i-1] f):=by
 obtain⟨s,H,aL,r,bG,N,hs,rfl,t,rfl,rfl,⟨u,m,g,v⟩,T,U⟩:=G.last (by rw[cF];omega);have V:(d.keys.take i).length=i:=by rw[cF];omega
 have W:(d.kids.take i).length=i:=by rw[cF];omega
 have t:s=d.keys[i-1]'I:=by
  rw[t,pb];congr 1;omega
 have J:(d.kids.take i)[(d.kids.take i).length-1]'I=d.kids[i-1]'I:=by
  rw[pb];congr 1;omega
 rw[J]at u g;obtain⟨o,K,j,rfl,_,w⟩:=u.j6;rw[j]at g;have v:2<=o.keys.length:=by rw[Option.some.inj g];exact v
 clear g;subst t;have y:=(show fz P (h+1) H (some (d.keys[i-1]'I)) (d.kids[i-1]'I) (d.kids[i-1]'I::K) N from⟨u,o,j,v⟩).in;obtain⟨x,hx⟩:=qM _ y.1;have z:=E _ (cJ (l:=d.keys) (n:=i-1) I);have L:=dy.merge w q z (λc hc=>je (k2 ((y.2.2 x hx).1 c hc) ((y.2.2 x hx).2 _ rfl))) (λc hc=>je (k2 (B.1 _ rfl) (B.2 c hc)));have C:=x5 w q z (U4 (F _ _ j));have M:=x4 (a:=o) (b:=f) (s:=d.keys[i-1]'I);refine⟨o,I,I,j,by rw[w.leaf,q.leaf],z,L.Bx C.1 C.2 λ_ e=>?_⟩;rw[e,lv]at M;omega
theorem Ly{d f:aG}{B q:au Key}{bj E:O Nat}{iC bK:O aP}{k:Key}(F:∀k∈d.keys,cK k)(hlen:d.kids.length=d.keys.length+1)(G:∀x n,P x=some n->bS n<=232)
 (g:i+1<d.kids.length) (C:fy B q k)
 (H:gY (fz P (h+1)) hi q (d.keys.drop i) (d.kids.drop (i+1)) bj bK) (t:dy P (h+1) f B q E iC) (h1:bS f<80):
 ∃ (o:aG) (R:i+1<d.kids.length) (S:i<d.keys.length),P d.kids[i+1]=some o/\o.leaf=f.leaf/\cK d.keys[i]/\mT (ed f d.keys[i] o):=by
 obtain⟨s,J,r,T,N,U,hs,rfl,u,rfl,rfl,⟨v,m,j,w⟩,V⟩:=H.head (by rw[eH];omega);have u:s=d.keys[i]'I:=by rw[u,u6];rfl
 have K:(d.kids.drop (i+1))[0]'(by rw[eH];omega)=d.kids[i+1]'g:=by rw[u6]
 rw[K]at v j;obtain⟨o,L,p,rfl,_,y⟩:=v.j6;rw[p]at j;have w:2<=o.keys.length:=by rw[Option.some.inj j];exact w
 clear j;subst u;have z:=(show fz P (h+1) (some (d.keys[i]'I)) J (d.kids[i+1]'g) (d.kids[i+1]'g::L) N from⟨v,o,p,w⟩).in;obtain⟨x,hx⟩:=qM _ z.1;have A:=F _ (cJ (l:=d.keys) (n:=i) I);have M:=dy.merge t y A (λc hc=>je (k2 (C.1 c hc) (C.2 _ rfl))) (λc hc=>je (k2 ((z.2.2 x hx).1 _ rfl) ((z.2.2 x hx).2 c hc)));have D:=x5 t y A (U4 (G _ _ p));have Q:=x4 (a:=f) (b:=o) (s:=d.keys[i]'I);refine⟨o,g,I,p,by rw[y.leaf,t.leaf],A,M.Bx D.1 D.2 λ_ e=>?_⟩;rw[e,lv]at Q;omega
inductive Ctx (P:Nat->au aG) (k:Key) (top:Nat):Nat->au Key->au Key->O (Nat×aG×Nat)->O Nat->O aP->O aP->Prop
 |top:Ctx P k top top none none [] [] [] []
 |step {eZ:Nat}{lo hi a b:au Key}{st:O (Nat×aG×Nat)}{c0:O Nat}{A B:O aP}{no:Nat}{n:aG}{bh bj:O Nat}{bn bK:O aP} (h:Ctx P k top (eZ+2) lo hi st c0 A B) (c:P no=some n) (d:n.leaf=false) (e:∀k∈n.keys,cK k) (f:∀x∈n.kids,x<1600)
  (hlen:n.kids.length=n.keys.length+1) (g:n.keys≠ []) (i:st≠ []->2<=n.keys.length) (j:fy a b k) (l:fK (fz P (eZ+1)) lo a (n.keys.take (dD n.keys k)) (n.kids.take (dD n.keys k)) bh bn)
  (m:gY (fz P (eZ+1)) hi b (n.keys.drop (dD n.keys k)) (n.kids.drop (dD n.keys k+1)) bj bK):Ctx P k top (eZ+1) a b (st++ [(no,n,dD n.keys k)]) (no::(bh++(bj++c0))) (A++bn) (bK++B)
theorem Ctx.eZ{k:Key}{eZ:Nat}{st:O (Nat×aG×Nat)}{A B:O aP}(h:Ctx P k top eZ lo hi st c0 A B):eZ+st.length=top:=by
 induction h with
 |top=>rfl
 |step h _ _ _ _ _ _ _ _ _ _ a=>rw[cz,jW];omega
theorem Ctx.agree{Q:Nat->au aG}{k:Key}{eZ:Nat}{st:O (Nat×aG×Nat)}{A B:O aP}(h:Ctx P k top eZ lo hi st c0 A B)(a:∀x∈c0,P x=Q x):Ctx Q k top eZ lo hi st c0 A B:=by
 induction h with
 |top=>exact .top
 | @step eZ lo hi p q st c0 A B no n bh bj bn bK h c d e f hlen g i j l m o=>
  refine .step (o λx hx=>a x (by simp[hx])) (by rw[←a no U9];exact c) d e f hlen g i j (l.mM λ_ _ _ _ _ hs b=>b.agree λx hx=>a x ?_) (m.mM λ_ _ _ _ _ hs b=>b.agree λx hx=>a x ?_)
  .have:=hs x hx;simp[this]
  .have:=hs x hx;simp[this]
theorem Ctx.down{k:Key}:∀ {eZ:Nat}{lo hi:au Key}{st:O (Nat×aG×Nat)}{c0:O Nat}{A B M bG:O aP}{no:Nat}{p:O Nat},Ctx P k top (eZ+1) lo hi st c0 A B->er P (eZ+1) lo hi no p M->(st≠ []->∃m,P no=some m/\2<=m.keys.length)->fy lo hi k->bG=A++(M++B)->(∀u,Loc k u->u bG=A++(u M++B))->
 ∃ (rest a:O (Nat×aG×Nat)) (b:Nat) (b6:aG) (fA dW:au Key) (f:O Nat) (c d:O aP),oZ P k (eZ+1) no rest/\st++rest=a++ [(b,b6,0)]/\Ctx P k top 1 fA dW a f c d/\P b=some b6/\hT b6/\b6.within fA dW/\b6.keys≠ []/\(a≠ []->2<=b6.keys.length)/\fy fA dW k/\
  (p++c0).Perm (b::f)/\bG=c++(b6.dT++d)/\∀u,Loc k u->u bG=c++(u b6.dT++d)
 |0,lo,hi,st,c0,A,B,M,bG,no,p,hc,h,h2,i,j,hu=>by
  obtain⟨n,h1,g,v,w,rfl,rfl⟩:=h
  refine⟨[(no,n,0)],st,no,n,lo,hi,c0,A,B,⟨n,[],h1,by rw[g.leaf];rfl,rfl,rfl⟩,rfl,hc,h1,g,v,w,λhs=>?_,i,List.Perm.refl _,j,hu⟩
  obtain⟨m,e,l⟩:=h2 hs
  rw[h1]at e;cases e
  exact l
 |eZ+1,lo,hi,st,c0,A,B,M,bG,no,p,hc,h,h2,i,j,hu=>by
  obtain⟨n,U,h1,rfl,g,o⟩:=h.j6
  obtain⟨V,W,bh,q,bj,bn,iC,bK,x,rfl,rfl,r,s,y,hlen,z,C⟩:=o.at i
  obtain⟨ay,az,D,E,_⟩:=o
  have F:=Ctx.step hc h1 ay D E hlen g (λhs=>by
   obtain⟨m,e,l⟩:=h2 hs
   rw[h1]at e;cases e
   exact l) s z C
  obtain⟨rest,a,b,b6,fA,dW,f,c,d,r1,cq,al,bO,aW,G,H,J,K,L,N,Q⟩:=Ctx.down (bG:=bG) F r.1 (λ_=>r.2) s (by rw[j];simp only[cO]) (λu t=>by rw[hu u t,y u t];simp only[cO])
  refine⟨(no,n,dD n.keys k)::rest,a,b,b6,fA,dW,f,c,d,⟨n,rest,h1,by rw[ay];simp,by rw[if_neg I],?_⟩,?_,al,bO,aW,G,H,J,K,?_,N,Q⟩
  .rw[ft,dR x]
   exact r1
  .rw[←cq];simp
  .refine List.Perm.trans ?_ L
   have R:(no::(bh++(q++bj))++c0)=no::(bh++(q++(bj++c0))):=by simp[cO]
   rw[R]
   have S:(q++no::(bh++(bj++c0))).Perm (no::(q++(bh++(bj++c0)))):=n0
   refine List.Perm.trans ?_ S.symm
   refine List.Perm.cons _ ?_
   have T:=(sQ (l₁:=bh) (l₂:=q)).append_right (bj++c0)
   simpa[cO] using T
end
theorem By{α:Type}(a b c:O α):(a++(b++c)).Perm (a++c++b):=by
 rw[cO];exact(sQ (l₁:=b) (l₂:=c)).append_left a
theorem Ctx.up{k:Key}{eZ:Nat}{st R:O (Nat×aG×Nat)}{A B:O aP}{u:dN}{a:aG}{q:O Nat}{M:O aP}(hc:Ctx P k top eZ lo hi st c0 A B)(aa:st=R++ [u.st])(c:dy P eZ a lo hi q M)(F:∀x n,P x=some n->bS n<=232)(hs:bS a<=282):
 ∃ (d f:au Key) (G:O Nat) (g j:O aP) (ps:O Nat),Ctx P k top (eZ+1) d f R G g j/\c0=u.no::(ps++G)/\P u.no=some u.n/\u.c3<u.n.kids.length/\u.n.kids.length=u.n.keys.length+1/\u.n.keys≠ []/\(R≠ []->2<=u.n.keys.length)/\
  (80<=bS a->∀ (Q:Nat->au aG) (ks:O Key) (kids:O Nat),nz Q a ks kids->(∀x∈ps++q,P x=Q x)->(∀x∈kids,x<1600)->∃ (eM:O Nat) (l:O aP),dy Q (eZ+1) (gp u.n u.c3 (u.c3+1) ks kids) d f eM l/\g++(l++j)=A++(M++B)/\eM.Perm (kids++(ps++q))/\
    bS (gp u.n u.c3 (u.c3+1) ks kids)<=bS u.n+27/\u.n.keys.length<=(gp u.n u.c3 (u.c3+1) ks kids).keys.length+1)/\
  (bS a<80->∃ (o:aG) (no:Nat) (rest:O Nat),u.n.kids[kM u]? =some no/\P no=some o/\o.leaf=a.leaf/\u.c3-1<u.n.keys.length/\cK (u.n.keys.getD (u.c3-1) [])/\mT (mV u a o)/\ps.Perm (no::rest)/\
    ∀ (Q:Nat->au aG) (ks:O Key) (kids:O Nat),nz Q (mV u a o) ks kids->(∀x∈rest++q,P x=Q x)->(∀x∈kids,x<1600)->∃ (eM:O Nat) (l:O aP),dy Q (eZ+1) (gp u.n (u.c3-1) (u.c3-1+2) ks kids) d f eM l/\g++(l++j)=A++(M++B)/\eM.Perm (kids++(rest++q))/\
     bS (gp u.n (u.c3-1) (u.c3-1+2) ks kids)<=bS u.n+27/\u.n.keys.length<=(gp u.n (u.c3-1) (u.c3-1+2) ks kids).keys.length+1):=by
 cases hc with
 |top=>
  have:=congrArg List.length aa;simp at this
 | @step eZ d f _ _ aq G g j ab H bh bj bn bK h ah S m T hlen ac ai J p r=>
  obtain⟨rfl,h2⟩:=List.append_inj' aa rfl;have U:(ab,H,dD H.keys k)=u.st:=by simpa using h2
  have aj:ab=u.no:=congrArg Prod.fst U;have ak:H=u.n:=congrArg (λx=>x.2.1) U;have ad:dD H.keys k=u.c3:=congrArg (λx=>x.2.2) U;subst aj ak;rw[ad]at p r;have al:=x2 u.n.keys k;rw[ad]at al;refine⟨d,f,G,g,j,bh++bj,h,by rw[cO],ah,I,hlen,ac,ai,λb Q ks kids hf s t=>?_,λb=>?_⟩
  .obtain⟨v,ay,az,w,K⟩:=JA S m T p r c b hs hf (λx hx=>s x (by
    simp only[cR]at hx⊢;obtain hx|hx|hx:=hx
    .exact .inl (.inl hx)
    .exact .inr hx
    .exact .inl (.inr hx))) t
   refine⟨v,_,ay,by simp only[cO],az.trans (List.Perm.append_left kids ?_),w,I⟩;exact By bh q bj
  .by_cases h0:u.c3=0
   .obtain⟨o,L,N,y,V,W,X⟩:=Ly m hlen F (i:=u.c3) (by
     have:u.n.keys.length≠0:=λe=>ac (List.eq_nil_of_length_eq_zero e);omega) J r c b
    obtain⟨am,ae,an,ao,z,Y,_,Z⟩:=JC S m T hlen F L J p r c b;rw[y]at z;obtain rfl:=Option.some.inj z;have C:kM u=u.c3+1:=by unfold kM;rw[if_pos h0,h0]
    have af:u.c3-1=u.c3:=I
    have D:u.n.keys.getD (u.c3-1) []=u.n.keys[u.c3]:=by rw[af,ft,dR N];rfl
    have E:mV u a o=ed a u.n.keys[u.c3] o:=by unfold mV;rw[if_pos (by rw[C];omega),D]
    refine⟨o,u.n.kids[u.c3+1],bh++ae,by rw[C];exact dR L,y,V,I,by rw[D];exact W,by rw[E];exact X,?_,λQ ks kids hf s t=>?_⟩
    .exact(List.Perm.append_left bh Y).trans n0
    .rw[E]at hf
     obtain⟨v,ay,az,w,K⟩:=Z Q ks kids hf (λx hx=>s x (by
      simp only[cR]at hx⊢;obtain hx|hx|hx:=hx
      .exact .inl (.inl hx)
      .exact .inr hx
      .exact .inl (.inr hx))) t
     rw[af];exact⟨v,_,ay,by simp only[cO],az.trans (List.Perm.append_left kids (By bh q ae)),w,K⟩
   .obtain⟨o,L,N,y,V,W,X⟩:=Lx m hlen F (i:=u.c3) I I J p c b
    obtain⟨am,ag,an,ao,z,Y,_,Z⟩:=JB S m T hlen F I I J p r c b;rw[y]at z;obtain rfl:=Option.some.inj z;have C:kM u=u.c3-1:=by unfold kM;rw[if_neg h0]
    have D:u.n.keys.getD (u.c3-1) []=u.n.keys[u.c3-1]:=by rw[ft,dR N];rfl
    have E:mV u a o=ed o u.n.keys[u.c3-1] a:=by unfold mV;rw[if_neg (by rw[C];omega),D]
    have ap:u.c3-1+2=u.c3+1:=I
    refine⟨o,u.n.kids[u.c3-1],ag++bj,by rw[C];exact dR L,y,V,N,by rw[D];exact W,by rw[E];exact X,?_,λQ ks kids hf s t=>?_⟩
    .exact(Y.append_right bj)
    .rw[E]at hf
     obtain⟨v,ay,az,w,K⟩:=Z Q ks kids hf (λx hx=>s x (by
      simp only[cR]at hx⊢;obtain hx|hx|hx:=hx
      .exact .inl (.inl hx)
      .exact .inr hx
      .exact .inl (.inr hx))) t
     rw[ap];exact⟨v,_,ay,by simp only[cO],az.trans (List.Perm.append_left kids (By ag q bj)),w,K⟩
theorem dE.Lz{T:aN}{c:dQ}(h:dE w T c)(b:∀q,E q->T.E q):dE w (T.cx E T.G) c:=
 h.of (aq:=T.cx E T.G) (W:=λ_=>False) (h.t.grow (W:=λ_=>False) (ag.refl _ _) (λ_ h=>h.elim) (λq a=>.inl (b q a)) (λq a=>.inr (.inl a)) λq a=>(h.t.dv q (b q a)).2.2) (ag.refl _ _) (λ_ _ h=>h) rfl λ_ h=>h
theorem dF.local{T aq:aN}{c c':dQ}(h:dF (T.cx bU T.G) aq c c' m l w1 w' k)(hx:Ext w w1)(b:∀q,bU q->T.E q\/w<=q)(d:∀q,T.E q->bU q):dF T (aq.cx T.E aq.G) c c' m l w w' k:=
 ⟨h.to.local hx b (λq a=>.inl a) (λq a=>.inl (by rw[h.E];exact d q a)) λq a=>a,rfl,h.G,h.root,h.aK,h.cb,h.made,h.left,h.bN,h.kL,h.f,h.eU,h.room⟩
theorem dE.Fy{T:aN}{c:dQ}(h:dE w T c)(hc:ag W w w')(cv:∀q,W q->T.E q\/w<=q):dE w' T c:=by
 have b:ag (λq=>T.E q) w w':=cE (W:=λq=>T.E q) (ag.refl _ _) hc λq a d=>(cv q d).resolve_right I;exact h.of (h.t.grow (E:=T.E) (G:=T.G) b (λq a _=>.inl a) (λq a=>.inl a) (λq a=>.inr (.inl a)) λq a=>(h.t.dv q a).2.2) b (λq hg he=>(h.t.dv q he).2.2 hg) rfl λ_ h=>h
theorem lg.to{T aq:aN}{l:O dN}(h:lg (λq=>¬T.M q) w s l)(ht:bY T aq w w' k):lg (λq=>¬aq.M q) w' s l:=by
 refine⟨h.own.ah ht.ah λq a c=>h.qy q a (aN.gD c),λq a d=>?_,λx hx=>?_⟩
 .rcases ht.c1 q d with h1|h1
  .exact h.qy q a h1
  .have:=aR.lt h.own q a;omega
 .exact(ht.bN (lo:=0) ((h.bN x hx).bg λq _ b=>⟨cI _,b⟩)).bg λq _ b=>b.2
theorem lg.at{l:O dN}(h:lg B w s l)(hi:i<l.length):∃A:af,s.a=some A/\s.len=l.length/\B A.block/\w.cell? (A.add (i*6))=some (.int .i64 ((l[i]).no:Nat))/\mU B w (A.add (i*6)) l[i]:=by
 have f:=h.own.1;rw[e5 _ (oY l)]at f;have g:s.len=l.length:=I
 obtain⟨h1,h2⟩|⟨b,c,e,k,o,m⟩:=h.own.2.2.2
 .have:=h.own.2.1
  omega
 .have d:∀j,j<6->w.cell? ⟨b,i*6+j,none⟩=((dN.c l[i]))[j]? :=λj n=>by
   rw[bu.cell k,←yq (oY l) hi n,←m];rw[uW,if_pos I,Array.getElem?_toList]
  refine⟨b,e,g,h.qy b ⟨_,e,rfl⟩,?_,?_⟩
  .rw[aA,cA]
   exact d 0 (by decide)
  .rw[aA,cA]
   refine⟨?_,?_,?_,?_,?_,h.bN _ (cJ hi),h.qy b ⟨_,e,rfl⟩,aR.lt h.own b ⟨_,e,rfl⟩⟩
   .rw[aA];exact d 1 (by decide)
   .rw[aA,aA];exact d 2 (by decide)
   .rw[aA,aA];exact d 3 (by decide)
   .rw[aA,aA];exact d 4 (by decide)
   .rw[aA];exact d 5 (by decide)
theorem Ctx.Fz{k:Key}{eZ:Nat}{A B:O aP}(h:Ctx P k top eZ lo hi [] c0 A B):eZ=top/\lo=none/\hi=none/\c0=[]/\A=[]/\B=[]:=by
 generalize a:([]:O (Nat×aG×Nat))=st at h
 cases h with
 |top=>exact⟨rfl,rfl,rfl,rfl,rfl,rfl⟩
 |step h=>
  have:=congrArg List.length a;simp at this
def nK(T:aN)(c:dQ)(aL:O Nat)(ek:O aP)(w:J)(v:aa)(w':J):Prop:=
 ∃ (aq:aN) (c':dQ) (m l:O Nat),dE w' aq c'/\dF T aq c c' m l w w' 60/\
  ((v=.tuple #[U8,U8,U8]/\ek=[]/\l.Perm (m++aL)/\m.length<=2*T.aK+3)\/
   (∃ (root h:Nat) (pages:O Nat),v=.tuple #[root,h,U8]/\er aq.P h none none root pages ek/\(pages++l).Perm (m++aL)/\1<=h/\h<=T.aK+1/\m.length<=2*T.aK+3)\/
   (∃a b:Int,v=.tuple #[a,b,(3:Int)]/\¬T.C.D.calm 60))
theorem nK.local{T:aN}{c:dQ}(h:nK (T.cx bU T.G) c aL ek w1 v w')(hx:Ext w w1)(b:∀q,bU q->T.E q\/w<=q)(a:∀q,T.E q->bU q):nK T c aL ek w v w':=by
 obtain⟨aq,c',m,l,h1,h2,d⟩:=h;exact⟨aq.cx T.E aq.G,c',m,l,h1.Lz λq e=>by rw[h2.E];exact a q e,h2.local hx b a,d⟩
structure LA(bw:aN)(c:dQ)(b:J)(a:O dN)(k:Key)(aL:O Nat)(ek:O aP)(ws:ad)(iu:Nat)(i:Nat)(w':J)(aq:aN)(c':dQ)(m l:O Nat)(n:aG)(K V D:ad)(lo hi:au Key)(c0:O Nat)(A B:O aP)(q:O Nat)(M:O aP)(r:O Nat):Prop where
 jb:i<a.length
 Bz:dE w' aq c'
 to:dF bw aq c c' m l b w' (4*(a.length-1-i))
 qz:m.length<=2*(a.length-1-i)
 ll:l.length<=2*(a.length-1-i)
 iu:Var w' iu (ee n K V D) 169
 bN:b7 (λq=>¬aq.M q) w' n K V D
 jc:lg (λq=>¬aq.M q) w' ws a
 ctx:Ctx aq.P k a.length (a.length-i) lo hi ((a.take i).map dN.st) c0 A B
 j6:dy aq.P (a.length-i) n lo hi q M
 eq:A++(M++B)=ek
 pp:aL.Perm ((a[i]).no::(r++c0))
 acc:(q++l).Perm (m++r)
 sz:bS n<=282
 LB:1<=i->n.keys≠ []
 FA:∀x∈q++c0,aq.f x=true
theorem b5.o0{T:aN}(h:b5 w T):∀x n,T.P x=some n->bS n<=232:=λx n hx=>(h.eS x n hx).2.is.2.2
theorem iM.cs{T:aN}{c:dQ}{e:Int}(h:iM T c n w (.tuple #[s,e]) w'):
 ∃ (aq:aN) (c':dQ) (m:O Nat),dE w' aq c'/\dF T aq c c' m [] w w' 2/\m.length<=2/\((e=0/\∃ks,nz aq.P n ks m/\me (λq=>¬aq.M q) w' s ks m)\/(e=3/\¬T.C.D.calm 2)):=by
 obtain⟨aq,c',m,s2,h1,h2,d,f⟩:=h;refine⟨aq,c',m,h1,h2,d,?_⟩;obtain⟨ks,a,b,g⟩|⟨a,b⟩:=f
 .simp at a
  obtain⟨⟨a1,a2,a3⟩,rfl⟩:=a;obtain rfl:s=s2:=by cases s;cases s2;simp_all
  exact .inl ⟨rfl,ks,b,g⟩
 .simp at a
  exact .inr ⟨a.2,b⟩
theorem LC{Q c:Nat->au aG}{t:Nat}{q:O Nat}{M:O aP}{a:Key}{y:Nat}(d:dy P (t+1) n none none q M)(hs:bS n<=282)(hf:nz Q n [a] [x,y])(i:∀z∈q,P z=Q z)(j:c no=some ⟨false,[a],[],[x,y]⟩)(k:∀z∈x::y::q,Q z=c z)(hx:x<1600)(m:y<1600):
 cK a/\∃pages,er c (t+2) none none no pages M/\pages.Perm (no::x::y::q):=by
 have o:232<bS n:=by
  rcases hf with ⟨_,z,e,_⟩|⟨h,_⟩
  .cases e
  .exact h
 obtain⟨f,ay,az,g,_⟩:=d.fits (d.AA I) (λ_=>I) (λ_=>I) hf i;have l:dy Q (t+2) ⟨false,[a],[],[x,y]⟩ none none f M:=⟨rfl,rfl,g,λz b=>by
  simp only[cZ,e2,e_]at b;rcases b with rfl|rfl<;>assumption,ay⟩
 refine⟨g a U9,no::f,l.lay U9 j λz b=>k z ?_,List.Perm.cons no az⟩;have:=az.mem_iff.1 b;simpa using this
theorem o1{a b:O Nat}:a.Perm b↔∀x,a.count x=b.count x:=List.perm_iff_count
theorem nL{q:O Nat}(h:(q++l).Perm (m++r)):(q++(l++ [no])).Perm (m++(no::r)):=by
 rw[o1]at h⊢;intro x;have:=h x;simp only[ph,qQ,qR]at this⊢;omega
theorem jN{q eM ps ms ls rest:O Nat}(h:(q++l).Perm (m++r))(h2:eM.Perm (ms++(rest++q)))(a:ps.Perm (ls++rest)):(eM++(l++ls)).Perm ((m++ms)++(ps++r)):=by
 rw[o1]at h h2 a⊢;intro x;have:=h x;have:=h2 x;have:=a x;simp only[ph,qQ,qR]at*;omega
theorem nM{ps a:O Nat}{u:Nat}(h:aL.Perm (r++(u::(ps++a)))):aL.Perm (u::((ps++r)++a)):=by
 rw[o1]at h⊢;intro x;have:=h x;simp only[ph,qQ,qR]at*;omega
theorem LD{T:aN}{c:dQ}{d:O dN}{k:Key}{A B M:O aP}{ws:ad}(h:dE w T c)(bI:lg (λq=>¬T.M q) w ws d)(br:b7 (λq=>¬T.M q) w n K V D)(ez:0<d.length)(hlen:d.length=T.aK)(eC:T.aK<12)
 (eD:T.C.D.aX<=900000000) (eE:2*T.aK+3<=cy T) (eF:c.made.length<=100) (eG:c.left.length<=100) (cm:Ctx T.P k d.length 1 lo hi ((d.take (d.length-1)).map dN.st) c0 A B) (L:dy T.P 1 n lo hi [] M) (an:A++(M++B)=ek)
 (N:aL.Perm ((d[d.length-1]'I).no::c0)) (bs:bS n<=282) (a0:2<=d.length->n.keys≠ []) (Q:∀x∈c0,T.f x=true):
 aH aj 187 #[.pointer (some ⟨c.cb,0,none⟩),.slice ws.a ws.len ws.cap,dz n K V D] w (nK T c aL ek w):=by
 refine okF (ae.pT (some ⟨c.cb,0,none⟩) ws n.leaf K V D) ax.pT func187 ?_;(delta ae.pT aW Y al z5 ar ak aO r1 st rh zN gH dH;dsimp only);refine a6 (vs:=ee n K V D) rfl λw1 cn co eH=>?_;obtain⟨b9,aZ,bo,bt⟩:=bT cn;refine⟨_,b9,K,aZ,V,bo,D,bt,a6 (vs:=[.bool false,.slice none 0 0,.slice none 0 0,.slice none 0 0]) rfl λeI bJ cq eJ=>⟨bJ.ct rfl fV,rfl,cP bJ (us:=ee n K V D) rfl rfl λbu bv cu eK=>?_⟩⟩;have bK:Ext w bu:=co.trans (Ext.cp cq cu (bk _));obtain⟨iu,cv⟩:=U6 w1.heap.size;rw[←cv]at bv⊢;obtain⟨bU,bz⟩:=U6 (λq=>T.E q\/q=iu);have cB:∀q,T.E q->bU q:=λq F=>by rw[bz];exact .inl F
 have a5:∀q,bU q->T.E q\/q=iu:=λq F=>by rw[bz]at F;exact F
 have cC:bU iu:=by rw[bz];exact .inr rfl
 have eL:=bv.lt;have cD:dE bu (T.cx bU T.G) c:=h.of (W:=λ_=>False) (h.t.grow (W:=λ_=>False) bK (λ_ h=>h.elim) (λq F=>(a5 q F).imp id λe=>.inr ⟨I,I⟩) (λq F=>.inr (.inl F)) λq F hg=>by
  rcases a5 q F with h1|h1
  .exact(h.t.dv q h1).2.2 hg
  .have:=h.t.lt (q:=q) (.inr (.inr (.inr (.inr hg))));omega) bK (λ_ _ h=>h) rfl λ_ h=>h
 have bL:bY T (T.cx bU T.G) w bu 0:=(bY.refl T w).step (W:=λ_=>False) bK (λ_ h=>h.elim) (λq F=>(a5 q F).imp id λe=>.inr I) λq F=>.inl F;have conv:∀ (v:aa) (w':J),nK (T.cx bU T.G) c aL ek w1 v w'->nK T c aL ek w v w':=λv w' hu=>hu.local co (λq F=>(a5 q F).imp id λe=>I) cB;obtain⟨bw,ao⟩:=U6 (T.cx bU T.G);have bO:=bI.to bL;have bP:b7 (λq=>¬(T.cx bU T.G).M q) bu n K V D:=(bL.bN (lo:=0) (br.bg λq _ R=>⟨cI _,R⟩)).bg λq _ R=>R.2;have cE:bw.P=T.P:=by rw[ao];rfl
 have bQ:bw.f=T.f:=by rw[ao];rfl
 have dD:bw.E iu:=by rw[ao];exact cC
 have eN:cy bw=cy T:=by rw[ao];rfl
 have dG:bw.C=T.C:=by rw[ao];rfl
 have dI:bw.aK=T.aK:=by rw[ao];rfl
 rw[←ao]at cD bO bP conv;clear ao bL bz cB a5 cC;have eO:iu=w1.heap.size:=cv;have eP:ws.len=d.length:=by
  have:=bI.own.1;rw[e5 _ (oY d)]at this;omega
 refine⟨λn10 w'=>∃ (i:Nat) (aq:aN) (c':dQ) (m l:O Nat) (n:aG) (K V D:ad) (lo hi:au Key) (c0:O Nat) (A B:O aP) (q:O Nat) (M:O aP) (r:O Nat),n10=(i:Nat)/\LA bw c w1 d k aL ek ws iu i w' aq c' m l n K V D lo hi c0 A B q M r,λn10 _=>(n10+1).toNat,
  ⟨d.length-1,bw,c,[],[],n,K,V,D,lo,hi,c0,A,B,[],M,[],?_,?_⟩,?_⟩
 .rw[bq I I];omega
 .have e:d.length-(d.length-1)=1:=I
  refine⟨I,cD,(dF.ext bw c (Ext.cp cq cu (bk _))).mono I,cI _,cI _,bv,bP,bO,by rw[e,cE];exact cm,by rw[e,cE];exact L,an,by simpa using N,List.Perm.refl _,bs,λh1=>a0 I,λx hx=>by rw[bQ];exact Q x (by simpa using hx)⟩
 clear cm L an N bs a0 Q br bP bv bI bO cn b9 aZ bo bt bJ;rintro _ bR ⟨i,aq,c',m,l,n,K,V,D,lo,hi,c0,A,B,q,M,r,rfl,g⟩;have cG:=g.jb;have bA:=g.to.cb;refine⟨λ_=>aT ?_,λR=>?_⟩
 rotate_left
 .have:¬((i:Nat):Int)>=0:=cr R
  omega
 have aM:Ext bR bR.drew:=cw _;obtain⟨bV,dJ⟩:=U6 bR.drew;rw[←dJ]at aM⊢;have a7:=g.Bz.ext aM;have cJ:=a7.cells.2.2;rw[bA]at cJ;have cL:lg (λq=>¬aq.M q) bV ws d:=g.jc.to (bY.ext aq aM);obtain⟨a8,bX,eQ,dK,dL,_⟩:=cL.at cG;have eR:c'.left.length<=200:=by rw[g.to.left,cz];have:=g.ll;omega
 have dM:c'.made.length<=200:=by rw[g.to.made,cz];have:=g.qz;omega
 obtain⟨ap,cM,ay,az,aQ,aC,aE⟩:=Fl a7 (d[i]).no I;rw[bA]at aQ aC aE;have dO:∀n,(a8.add n).block=a8.block:=λn=>by unfold Addr.add;split<;>rfl
 have dP:∀q,aD c'.g4 q->aq.M q:=λq F=>.inr (.inr (.inr (.inr (a7.lM q F).1)));refine⟨aD c'.g4,_,rfl,λF=>(a7.lM _ F).2 (by rw[bA,aA]),c'.g4,cJ,a8,bX,⟨I,I⟩,λF=>dK (dP _ ((dO _)▸F)),_,by rw[c2];exact dL,aT ⟨ag.cX (c5 _ _),ap,cM,ay,az,_,rfl,aQ,aC,aT ?_⟩⟩;rw[aA,cA];obtain⟨U,cN⟩:=U6 (cM.setCell ⟨c.cb,2,none⟩ (.slice ap.a ap.len ap.cap));rw[←cN];obtain⟨ac,a9⟩:=aE U cN;have bZ:=dF.leave (c:=c') (c':=⟨c.cb,c'.ma,ap,c'.made,c'.left++ [(d[i]).no]⟩) (no:=(d[i]).no) a9 rfl (λq F=>.inl F) bA.symm rfl rfl;have X:=(g.to.trans (dF.ext aq c' aM)).trans bZ;simp only[fp,lU]at X;have cQ:aq.E iu:=by rw[g.to.E];exact dD
 have b0:=(g.iu.ext aM).ah a9.ah (a7.t.j_ cQ);have b3:=cL.to a9;have a_:b7 (λq=>¬(aq.cx aq.E λq=>aq.G q\/aD ap q).M q) U n K V D:=(a9.bN (lo:=0) ((g.bN.ext aM).bg λq _ R=>⟨cI _,R⟩)).bg λq _ R=>R.2;obtain⟨cg,aR⟩:=U6 (aq.cx aq.E λq=>aq.G q\/aD ap q);have bh:cg.P=aq.P:=by rw[aR];rfl
 have bj:cg.f=aq.f:=by rw[aR];rfl
 have eT:cy cg=cy aq:=by rw[aR];rfl
 have cS:cg.E iu:=by rw[aR];exact cQ
 have cT:cg.aK=T.aK:=by rw[aR];show aq.aK=_;rw[g.to.aK,dI]
 rw[←aR]at ac a9 bZ X b3 a_;obtain⟨bo,bB⟩:=U6 (⟨c.cb,c'.ma,ap,c'.made,c'.left++ [(d[i]).no]⟩:dQ);rw[←bB]at ac bZ X;have iN:bo.cb=c.cb:=by rw[bB]
 have eM:bo.made.length<=200:=by rw[bB];exact dM
 have eV:bo.left.length<=201:=by rw[bB,cz,jW];omega
 obtain⟨dR,b6,bx,dS⟩:=bT b0;have cV:=bW.len a_.keys;have cW:∀ (w':J) (v:aa),Ext U w'->(∀ {db bt ba},db=cg->bt=bo->ba=l++ [(d[i]).no]->((v=.tuple #[.int .i64 0,.int .i64 0,.int .i64 0]/\ek=[]/\ba.Perm (m++aL)/\m.length<=2*bw.aK+3)\/
  (∃ (root h:Nat) (pages:O Nat),v=.tuple #[.int .i64 (root:Nat),.int .i64 (h:Nat),.int .i64 0]/\er (aN.P db) h none none root pages ek/\(pages++ba).Perm (m++aL)/\1<=h/\h<=bw.aK+1/\m.length<=2*bw.aK+3)\/
  (∃a b:Int,v=.tuple #[.int .i64 a,.int .i64 b,.int .i64 3]/\¬bw.C.D.calm 60)))->nK T c aL ek w v w':=by
  intro w' v hx hd;refine conv v w' ⟨cg,bo,m,l++ [(d[i]).no],?_,?_,hd (bt:=bo) rfl rfl rfl⟩
  .exact ac.ext hx
  .have:=(X.trans (dF.ext cg _ hx)).mono (j:=60) I
   simp only[fp]at this;exact this
 refine cc (λb w'=>(b=true↔(i=0/\n.keys=[]))/\U=w') (λZ bb=>⟨λh0=>⟨K,b6,bb _ _ ⟨?_,rfl⟩⟩,λh0=>bb _ _ ⟨?_,rfl⟩⟩) ?_
 .have h0:i=0:=by
   have:((i:Nat):Int)=0:=by simpa using h0
   omega
  rw[kq];constructor
  .intro h1
   exact⟨h0,List.eq_nil_of_length_eq_zero I⟩
  .rintro⟨_,h1⟩
   rw[h1]at cV;simp at cV;omega
 .have h0:i≠0:=by
   have:¬((i:Nat):Int)=0:=by simpa using h0
   omega
  exact⟨nofun,λh=>absurd h.1 h0⟩
 rintro eW _ ⟨cY,rfl⟩;refine⟨λR=>?_,λR=>?_⟩
 .obtain⟨h0,c1⟩:=cY.1 R
  subst h0;have bc:Ext U U.drew:=cw _;obtain⟨dU,dV,dX,dZ⟩:=bT (b0.ext bc);have c4:=(ac.ext bc).cells.1;rw[iN]at c4;have d0:=(ac.ext bc).t.cells.2.2.2.2;obtain⟨t1,t2,t3,t4,t5,t6⟩:=Ctx.Fz (by simpa using g.ctx);have L:=g.j6;have N:=g.pp;have an:=g.eq;have ai:=nL (no:=(d[0]).no) g.acc;subst t2 t3 t4 t5 t6;rw[hK,fp]at an;rw[fp]at N;subst an;have c6:n.leaf=false->∃x,n.kids=[x]/\1<=cg.aK/\er aq.P (cg.aK-1) none none x q M/\1<=cg.aK-1:=by
   intro aF;have e:d.length-0=cg.aK:=by rw[cT];omega
   rw[e]at L
   cases ht:cg.aK with
   |zero=>omega
   |succ t=>
    rw[ht]at L
    cases t with
    |zero=>
     have:=L.1.leaf;rw[aF]at this;cases this
    |succ t=>
     obtain⟨v1,v2,bd,be,bC⟩:=L;rw[c1]at bC;generalize eX:n.kids=eY at bC
     cases bC with
     |one h=>exact⟨_,rfl,I,h.1,I⟩
  refine aT ⟨λ_=>False,id,_,dU,K,dV,V,dX,D,dZ,_,rfl,id,_,c4,_,rfl,id,_,d0,(rS (a_.ext bc) cg.aK I λaF=>by obtain⟨x,a1,a2,_⟩:=c6 aF;exact⟨x,a1,a2⟩).use ?_⟩;rintro v w' ⟨rfl,b4⟩;have c7:=bc.trans b4
  cases aF:n.leaf with
  |true=>
   rw[if_pos rfl];have c8:=L.leaf;rw[aF]at c8;have b5:d.length-0=1:=b2 c8.symm;rw[b5]at L;obtain⟨v1,v2,bd,be⟩:=L;subst bd;refine⟨_,_,_,rfl,b4,cW w' _ c7 λ{db bt ba} a1 a2 a3=>.inl ⟨rfl,?_,?_,U4 g.qz⟩⟩
   .rw[be];unfold aG.dT;rw[c1];rfl
   .subst a3
    rw[o1]at ai N⊢;intro x;have:=ai x;have:=N x;simp only[ph,qQ,qR]at*;omega
  |false=>
   rw[if_neg U9];obtain⟨x,a1,a2,a3,a4⟩:=c6 aF;refine⟨_,_,_,rfl,b4,cW w' _ c7 λ{db bt ba} cH ck aS=>.inr (.inl ⟨_,_,q,rfl,?_,?_,a4,?_,U4 g.qz⟩)⟩
   .subst cH
    have d6:n.kids.getD 0 0=x:=by rw[a1];rfl
    rw[d6,bh];exact a3
   .subst aS
    rw[o1]at ai N⊢;intro x;have:=ai x;have:=N x;simp only[ph,qQ,qR]at*;omega
   .omega
 .have a0:n.keys≠ []:=λe=>by
   rcases pg i with h0|h0
   .have:=cY.2 ⟨h0,e⟩
    rw[R]at this;cases this
   .exact g.LB h0 e
  have eZ:cg.C.D.aX<=900000050:=by
   have:=X.to.aX;rw[dG]at this;omega
  have c9:2<=cy cg:=by
   have:=X.room;have:=g.qz;omega
  have c_:∀ms:O Nat,ms.length<=3->(m++ms).length<=2*bw.aK+3:=λms h=>by rw[cz];have:=g.qz;omega
  have da:∀j,j<=10->¬cg.C.D.calm j->¬bw.C.D.calm 60:=λj e0 br hc=>br (X.to.calm j (gq hc I));have b8:mT n:=g.j6.Bx (λ_=>U4 g.sz) (λ_=>U4 g.sz) λ_=>a0;refine cc (λp w'=>p=(if i=0 then none else some (a8.add ((i-1)*6)))/\U=w') (λZ bb=>⟨λh0=>⟨a8,bX,?_,bb _ _ ⟨?_,rfl⟩⟩,λh0=>bb _ _ ⟨?_,rfl⟩⟩) ?_
  .have h0:((i:Nat):Int)>0:=b2 h0
   rw[bq I I];omega
  .have h0:((i:Nat):Int)>0:=b2 h0
   have e:((i:Nat):Int)-1=((i-1:Nat):Int):=I
   rw[bq I I,if_neg I,e,c2]
  .have h0:¬((i:Nat):Int)>0:=cr h0
   rw[if_pos I]
  rintro _ _ ⟨rfl,rfl⟩;refine⟨_,dR,K,b6,V,bx,D,dS,?_⟩;by_cases h0:i=0
  .subst h0
   rw[if_pos rfl];have bf:=Ls ac a_ b8 I c9 I;rw[iN]at bf;refine bf.use ?_;rintro _ aU ⟨aV,e,rfl,hf⟩;obtain⟨db,bt,ms,S,H,bi,bl⟩:=hf.cs;have bD:=X.trans H;simp only[fp]at bD;have d7:bt.cb=c.cb:=by rw[H.cb,iN]
   obtain⟨rfl,ks,av,aI⟩|⟨rfl,aJ⟩:=bl
   .refine⟨aV,_,_,0,rfl,nofun,λ_=>⟨λ_=>?_,λh=>(by simp at h)⟩⟩
    obtain⟨t1,t2,t3,t4,t5,t6⟩:=Ctx.Fz (by simpa using g.ctx);have L:=g.j6;have N:=g.pp;have an:=g.eq;have bs:=g.sz;have ai:=nL (no:=(d[0]).no) g.acc;have Q:=g.FA;subst t2 t3 t4 t5 t6;rw[hK,fp]at an;rw[fp]at N Q;subst an;have d8:cg.n<=1600:=ac.t.s.bx;have b_:∀z∈q,aq.P z=db.P z:=λz ab=>by
     rw[←bh];exact((H.eU z (by rw[bj,Q z ab];rfl)).1).symm
    have d9:d.length-0=(d.length-1)+1:=I
    have dc:db.aK=d.length:=by rw[H.aK,cT];omega
    rw[d9]at L;have dd:∀aY x y,ks=[aY]->ms=[x,y]->cK aY/\x<1600/\y<1600:=λaY x y ay az=>by
     subst ay az;have de:232<bS n:=by
      obtain⟨_,z,e,_⟩|⟨h,_⟩:=av
      .cases e
      .exact h
     obtain⟨e1,_,_,aQ,_⟩:=L.fits (L.AA I) (λ_=>I) (λ_=>I) av b_;have hx:=(H.kL x U9).2;have e2:=(H.kL y U9).2;exact⟨aQ aY U9,I,I⟩
    have df:=Lw S aI (λ_=>I) dd (U4 H.to.aX) (by have:=H.room;have:=X.room;have:=g.qz;omega) (by rw[H.made,cz];omega);rw[d7]at df;refine df.use ?_;rintro v e4 d_;obtain⟨x,ay,az,rfl,aC,aE⟩|⟨aY,x,y,no,j4,e3,ay,az,aC,aE,ea⟩:=d_
    .subst ay az
     refine⟨_,_,_,rfl,conv _ _ ⟨db,bt,m++ [x],l++ [(d[0]).no],aC,?_,.inr (.inl ⟨x,db.aK,x::q,rfl,?_,?_,I,I,c_ [x] U9⟩)⟩⟩
     .have:=(bD.trans (dF.ext db bt aE)).mono (j:=60) I
      simp only[fp]at this;exact this
     .obtain⟨_,z,_,e,ab⟩|⟨_,e6,e7,_,e,_⟩:=av
      .cases e
       rw[dc,show d.length=d.length-1+1 from I];exact L.lay a0 ab b_
      .cases e
     .rw[o1]at ai N⊢
      intro z;have:=ai z;have:=N z;simp only[ph,qQ,qR]at*;omega
    .subst ay az
     obtain⟨a1,a2,a3⟩:=dd aY x y rfl rfl;have aw:=bD.trans aE;simp only[fp]at aw;have dg:=aw.mono (j:=60) I;obtain⟨rfl,ca⟩|⟨rfl,ca⟩:=ea
     .have eb:∀z∈x::y::q,db.P z=j4.P z:=λz ab=>by
       refine((aE.eU z ?_).1).symm;rw[H.f];simp only[cZ]at ab;obtain ab|ab|ab:=ab
       .simp[ab]
       .simp[ab]
       .rw[bj,Q z ab];simp
      obtain⟨_,pages,cH,ck⟩:=LC L bs av b_ ca eb a2 a3;refine⟨_,_,_,rfl,conv _ _ ⟨j4,e3,m++ [x,y]++ [no],l++ [(d[0]).no],aC,dg,.inr (.inl ⟨no,db.aK+1,pages,rfl,?_,?_,I,I,by rw[cO];exact c_ [x,y,no] U9⟩)⟩⟩
      .rw[dc,show d.length+1=d.length-1+2 from I];exact cH
      .rw[o1]at ai N ck⊢
       intro z;have:=ai z;have:=N z;have:=ck z;simp only[ph,qQ,qR]at*;omega
     .refine⟨_,_,_,rfl,conv _ _ ⟨j4,e3,m++ [x,y]++ [no],l++ [(d[0]).no],aC,dg,.inr (.inr ⟨_,_,rfl,λhc=>ca (H.to.calm 1 (X.to.calm 3 (gq hc I)))⟩)⟩⟩
   .refine⟨aV,_,_,3,rfl,λ_=>conv _ _ ⟨db,bt,m++ms,l++ [(d[0]).no],S,bD.mono I,.inr (.inr ⟨0,0,rfl,da 2 I aJ⟩)⟩,nofun⟩
  .rw[if_neg h0]
   have dW:i-1<d.length:=I
   obtain⟨e8,dh,_,_,_,hu⟩:=b3.at dW;rw[bX]at dh;obtain rfl:=Option.some.inj dh;obtain⟨u,cd⟩:=U6 (d[i-1]);rw[←cd]at hu;have ec:(d.take i).map dN.st=(d.take (i-1)).map dN.st++ [u.st]:=by
    have:d.take i=d.take (i-1)++ [d[i-1]]:=by
     have e:i-1+1=i:=I
     rw[←ib dW,e]
    rw[this,fP,cd];rfl
   obtain⟨di,dj,ed,dk,dl,ps,b1,cf,ef,e9,e_,eg,eh,dm,ce⟩:=Ctx.up g.ctx ec g.j6 g.Bz.t.o0 g.sz;have b5:d.length-i+1=d.length-(i-1):=I
   rw[b5]at b1 dm ce;have ei:=(g.Bz.t.eS _ _ ef).2.is;have fa:=ei.2.1.eB I;have Q:=g.FA;have bf:=Lt ac a_ hu b8.1 (U4 g.sz) (λ_=>b8) (λbE=>by
    obtain⟨o,no,rest,cH,ck,aS,bF,bG,dp,_⟩:=ce bE;exact⟨o,no,cH,by rw[bh];exact ck,aS,bF,bG,dp⟩) I I c9 I I
   rw[iN]at bf;refine bf.use ?_;rintro v aU dq;have fb:0<u.n.keys.length:=u4.2 eg;have d8:cg.n<=1600:=ac.t.s.bx;have ch:∀ {db:aN}{bt:dQ}{ms ls:O Nat}{w':J}{ej:Nat},dF cg db bo bt ms ls U w' ej->∀x,aq.f x=true->aq.P x=db.P x:=λel x hx=>by
    rw[←bh];exact((el.eU x (by rw[bj,hx];rfl)).1).symm
   have em:(∃ (db:aN) (bt:dQ) (ms ls:O Nat) (s:ad) (a b:Int),v=.tuple #[.slice s.a s.len s.cap,.int .i64 a,.int .i64 b,.int .i64 3]/\dE aU db bt/\dF cg db bo bt ms ls U aU 4/\¬cg.C.D.calm 4)\/
    (∃ (db:aN) (bt:dQ) (ms ls rest:O Nat) (s:ad) (am af:Nat) (ks:O Key) (eM:O Nat) (aB:O aP),v=.tuple #[.slice s.a s.len s.cap,.int .i64 (am:Nat),.int .i64 (af:Nat),.int .i64 0]/\dE aU db bt/\dF cg db bo bt ms ls U aU 4/\ms.length<=2/\ls.length<=1/\me (λq=>¬db.M q) aU s ks ms/\
      dy db.P (d.length-(i-1)) (gp u.n am af ks ms) di dj eM aB/\dk++(aB++dl)=A++(M++B)/\eM.Perm (ms++(rest++q))/\ps.Perm (ls++rest)/\bS (gp u.n am af ks ms)<=bS u.n+27/\u.n.keys.length<=(gp u.n am af ks ms).keys.length+1/\
      am<=u.n.keys.length/\1<=af/\af<=u.n.kids.length):=by
    obtain⟨de,s,e,rfl,hf⟩|⟨bE,db,bt,rfl,ay,az,aQ⟩|⟨bE,o,no,fc,fd,fe,s,e,dr,ds,dt,rfl,hf⟩:=dq
    .obtain⟨db,bt,ms,S,H,bi,bl⟩:=hf.cs
     obtain⟨rfl,ks,av,aI⟩|⟨rfl,aJ⟩:=bl
     .obtain⟨eM,aB,cH,ck,aS,bF,bG⟩:=dm de db.P ks ms av (λx hx=>ch H x (Q x (by
       rw[cf];simp only[cR,cZ]at hx⊢;obtain hx|hx:=hx
       .exact .inr (.inr (.inl hx))
       .exact .inl hx))) (λx hx=>U4 ((H.kL x hx).2))
      exact .inr ⟨db,bt,ms,[],ps,s,u.c3,u.c3+1,ks,eM,aB,rfl,S,H.mono I,bi,cI _,aI,cH,ck,aS,List.Perm.refl _,bF,bG,I,I,I⟩
     .exact .inl ⟨db,bt,ms,[],s,_,_,rfl,S,H.mono I,λhc=>aJ (gq hc I)⟩
    .exact .inl ⟨db,bt,[],[],bM,0,0,rfl,ay,az.mono I,λhc=>aQ (gq hc I)⟩
    .obtain⟨ff,du,rest,cH,ck,aS,bF,bG,dp,dw,en⟩:=ce bE
     rw[cH]at dr;obtain rfl:=Option.some.inj dr;rw[bh,ck]at ds;obtain rfl:=Option.some.inj ds;obtain⟨db,bt,ms,S,H,bi,bl⟩:=hf.cs;have aw:=dt.trans H;simp only[hK,fp]at aw;obtain⟨rfl,ks,av,aI⟩|⟨rfl,aJ⟩:=bl
     .obtain⟨eM,aB,d1,d2,d3,d4,d5⟩:=en db.P ks ms av (λx hx=>ch aw x (Q x (by
       rw[cf];simp only[cR,cZ]at hx⊢;obtain hx|hx:=hx
       .exact .inr (.inr (.inl (dw.mem_iff.2 (jQ _ hx))))
       .exact .inl hx))) (λx hx=>U4 ((aw.kL x hx).2))
      refine .inr ⟨db,bt,ms,[du],rest,s,u.c3-1,u.c3-1+2,ks,eM,aB,rfl,S,aw,bi,bk _,aI,d1,d2,d3,dw,d4,d5,I,I,?_⟩;rcases pg u.c3 with eo|eo<;>omega
     .exact .inl ⟨db,bt,ms,[du],s,_,_,rfl,S,aw,λhc=>aJ (dt.to.calm 2 hc)⟩
   clear dq;obtain⟨db,bt,ms,ls,aV,a,b,rfl,S,H,aJ⟩|⟨db,bt,ms,ls,rest,aV,am,af,ks,eM,aB,rfl,S,H,bi,fg,aI,v1,v2,bd,be,bC,ep,es,et,eu⟩:=em
   .exact⟨aV,_,_,3,rfl,λ_=>conv _ _ ⟨db,bt,_,_,S,(X.trans H).mono I,.inr (.inr ⟨0,0,rfl,da 4 I aJ⟩)⟩,nofun⟩
   .refine⟨aV,_,_,0,rfl,nofun,λ_=>⟨λh=>?_,λ_=>?_⟩⟩
    .have:((i:Nat):Int)=0:=by simpa using h
     omega
    have bm:=hu.to H.to;refine⟨_,rfl,_,bm.aZ,u.K,bm.bo,u.V,bm.bt,u.D,bm.e3,(rT bm.bN aI (fr:=am) (to:=af) es I et eu I I I).use ?_⟩;rintro _ fh ⟨dY,eA,dn,rfl,ev,bn⟩;have dx:=b0.ah H.to.ah (ac.t.j_ cS);have dA:=dx.ext bn;refine⟨_,dY,eA,dn,rfl,dA.ct rfl fV,rfl,cP dA (us:=ee (gp u.n am af ks ms) dY eA dn) rfl rfl λew ex bp fi=>⟨⟨i-1,db,bt,m++ms,l++ [(d[i]).no]++ls,gp u.n am af ks ms,dY,eA,dn,di,dj,ed,dk,dl,eM,aB,ps++((d[i]).no::r),?_,?_⟩,?_⟩⟩
    .rw[bq I I];omega
    .have dB:db.E iu:=by rw[H.E];exact cS
     have ci:db.M iu:=.inr (.inr (.inr (.inl dB)));have cj:=(X.trans H).trans (dF.ext db bt bn);simp only[fp]at cj;have ey:bY bw db w1 ew (4*(d.length-1-i)+4+0):=cj.to.step (E:=db.E) (G:=db.G) bp (λq e aF=>I) (λq F=>.inl F) λq F=>.inl F;have cl:∀x,aq.f x=true->db.f x=true:=λx hx=>by rw[H.f,bj,hx];rfl
     have bH:=b3.to H.to;refine⟨dW,(S.ext bn).Fy bp λq e=>.inl (e▸dB),{cj.mono (j:=4*(d.length-1-(i-1))) I with to:=ey.mono I},?_,?_,ex,?_,?_,b1.agree λx hx=>ch H x (Q x (by rw[cf];simp[hx])),v1,by rw[v2];exact g.eq,?_,jN (nL g.acc) bd be,I,λh1 e=>?_,λx hx=>?_⟩
     .rw[cz];have:=g.qz;omega
     .rw[cz,cz,jW];have:=g.ll;omega
     .refine(b7.ah ev bp λq F e=>?_).bg λq _ F dC=>?_
      .subst e
       obtain F|F:=F
       .exact F ci
       .have:=dx.lt;omega
      .obtain F|F:=F
       .exact F dC
       .have:=S.t.lt dC;omega
     .refine⟨(bH.own.ext bn).ah bp λq F e=>bH.qy q F (e▸ci),bH.qy,λx hx=>b7.ah ((bH.bN x hx).ext bn) bp λq F e=>F (e▸ci)⟩
     .have this:aL.Perm ((d[i]'cG).no::(r++c0)):=g.pp
      rw[cf]at this;rw[←cd];exact nM this
     .have h2:=eh (λbQ=>by
       have:=congrArg List.length bQ;rw[cU,cF,lv]at this;omega)
      rw[e,lv]at ep;omega
     .rcases cR.1 hx with hx|hx
      .have:=bd.mem_iff.1 hx
       rcases cR.1 this with hx|hx
       .rw[H.f];simp[hx]
       .rcases cR.1 hx with hx|hx
        .refine cl x (Q x ?_)
         rw[cf];have:x∈ps:=be.mem_iff.2 (iy _ hx);simp[this]
        .exact cl x (Q x (by simp[hx]))
      .exact cl x (Q x (by rw[cf];simp[hx]))
    .rw[bq I I]
     show(((i:Nat):Int)-1+1).toNat<(((i:Nat):Int)+1).toNat;omega
theorem LF{T:aN}{c:dQ}{ws:ad}(t:ws.len=0)(h:dE w T c)(u:b7 (λq=>¬T.M q) w n K V D)(Q:T.C.D.aX<=900000000)(R:2<=cy T)(S:c.made.length<=100)(U:c.left=[])
 (g:hT n) (i:n.keys≠ []) (y:bS n<=232) (z:n.dT=ek):
 aH aj 187 #[.pointer (some ⟨c.cb,0,none⟩),.slice ws.a ws.len ws.cap,dz n K V D] w (nK T c [] ek w):=by
 refine okF (ae.pT (some ⟨c.cb,0,none⟩) ws n.leaf K V D) ax.pT func187 ?_;(delta ae.pT aW Y al z5 ar ak aO r1 st rh zN gH dH;dsimp only);refine a6 (vs:=ee n K V D) rfl λw1 A B W=>?_;obtain⟨b9,aZ,bo,bt⟩:=bT A;refine⟨_,b9,K,aZ,V,bo,D,bt,a6 (vs:=[.bool false,.slice none 0 0,.slice none 0 0,.slice none 0 0]) rfl λX j E Z=>⟨j.ct rfl fV,rfl,cP j (us:=ee n K V D) rfl rfl λl F G aa=>?_⟩⟩;have f:Ext w l:=B.trans (Ext.cp E G (bk _));refine⟨λn10 w'=>n10= -1/\l=w',λ_ _=>0,⟨by rw[t];decide,rfl⟩,?_⟩;rintro _ _ ⟨rfl,rfl⟩;refine⟨λh=>by simp at h,λ_=>?_⟩;obtain⟨d0,d1,d2,d3⟩:=bT F;refine⟨_,d0,K,d1,V,d2,D,d3,(Fs (h.ext f) I I I (u.ext f) (.inl g) y).use ?_⟩;intro v w' d;obtain⟨s,e,rfl⟩:=d.out;obtain⟨aq,c',m,o,p,ab,H⟩:=(d.base f).cs;obtain⟨rfl,ks,L,N⟩|⟨rfl,P⟩:=H
 .refine⟨s,0,rfl,nofun,λ_=>?_⟩
  obtain⟨_,x,rfl,rfl,hx⟩|⟨ac,_⟩:=L
  .obtain⟨b,r,rfl,_,e,d,_⟩|⟨b,r,af,ag,ah,rfl,e,_⟩:=N
   .obtain rfl:x=r:=by simpa using e
    refine⟨_,rfl,⟨by decide,by show(0:Int)<((1:Nat):Int);decide⟩,_,by rw[aA,aA];exact d.cell,aq,c',[x],[],o,p.mono I,.inr (.inl ⟨x,1,[x],rfl,⟨n,hx,g,λk i=>⟨λ_ e=>(by cases e),λ_ e=>(by cases e)⟩,i,rfl,z.symm⟩,List.Perm.refl _,bk _,I,by show 1<=_;omega⟩)⟩
   .cases e
  .omega
 .exact⟨s,3,rfl,λ_=>⟨aq,c',m,[],o,p.mono I,.inr (.inr ⟨0,0,rfl,λhc=>P (gq hc I)⟩)⟩,nofun⟩
end Go.Proofs.YtcmgnhkpfllinaaGreat
