/- Contracts of the functions that the statement reaches, and the plain laws over them; each theorem stands with its conditions. -/
import Derived.Test.YtcmgnhkpfllinaaGreatBFPlays6
namespace Go.Proofs.YtcmgnhkpfllinaaGreat
open Go aU Go.Proofs.Tryz
variable{n k gen q j i a no:Nat}{u:cD}{g:Nat->ag}{P:Nat->an aA}{L:O aY}{l:gB}{w w' w0:J}{v:Y}{d:Int}
section
variable {w0 w w':J}
theorem Ld{D:aS}(h:D.bN.getD 1 0= -1)(a:D.bN.length=4):D.cI 1=D/\D.fl 1=false:=by
 unfold aS.cI aS.fl;rw[h];refine⟨?_,rfl⟩;have e:(gz (-1)).2=D.bN.getD 1 0:=by rw[h];rfl
 rw[e,c8 I,sI]
theorem oA{D:aS}{d:Nat}(h:mV w0 w D d n k)(N:n<=200)(O:k<=900000000):
 aI aj 33 #[.pointer (some d)] w (λv w'=>∃s:U,v=s/\bo (λq=>w<=q) w' s (jI D)/\aa (λq=>q=d) w w'/\cf w' D):=by
 have o:∀q,bO D q->q<w:=λq=>h.at_.lt;obtain⟨h1,rfl,rfl,P,y,Q,R,S⟩:=h;refine ad.Hl _ w _ ?_;(delta ad.oA jd ae b5 af dY ap ai;dsimp only);have hd:=o _ (.inl rfl);have p:Ext w (w.alloc (.cells #[] 39)):=dc _ _;have r:aL 1 39 (w.alloc (.cells #[] 39)) ⟨some w.heap.size,0,0⟩ []:=aL.new w [] 0 rfl (by decide);refine aH ⟨λs j w'=>∃ (i:Nat),j=(i:Int)/\i<=D.n/\cf w' D/\bq (λq=>w<=q) w' s ((List.range i).map D.now)/\aa (λq=>q=D.d) w w',λ_ j _=>((D.n:Int)-j).toNat,⟨0,rfl,cw _,h1.ext p,⟨[],rfl,r,λq a=>⟨Nat.le_of_eq (hZ.1 a),r.lt q a⟩,λi hi=>(by cases hi)⟩,p.mono λ_ _ h=>h.elim⟩,?_⟩;rintro s _ z ⟨i,rfl,hi,b,c,f⟩;refine(oI b).use ?_;rintro _ _ ⟨rfl,rfl⟩;have T:=f.size;refine⟨_,rfl,λaB=>?_,λA=>?_⟩
 .simp only[dM,cq]at aB
  have V:i<D.n:=I
  obtain⟨B,E⟩:=Ld y h1.f4;refine(tW b (i:=i) I I).use ?_;rintro v W ⟨t,g,⟨u,_⟩|⟨_,F,rfl,ht⟩⟩
  .rw[E]at u;cases u
  rw[B]at t;have X:=g.size;have G:=c.ab g λq a e=>by omega
  have l:∀q,ar s q->w<=q/\q<z:=c.im.choose_spec.2.2.2.1;obtain⟨H,J,ao,K,x,Y⟩:=xD G (bI.bh (C:=λq=>w<=q) ht λq _ a=>I) (λq a L=>U5 ((ht.2.2 q a).1) ((l q L).2)) (by rw[cV,qy];have:=h1.bz;omega) (λq a=>I);have:=h1.bz;rw[hM I];refine⟨F,0,rfl,aH ⟨H,J,ao,⟨i+1,rfl,I,t.ab x λq a m=>?_,by rw[sF,eU];exact K,?_⟩,by show((D.n:Int)-((i+1:Nat):Int)).toNat<((D.n:Int)-(i:Int)).toNat;omega⟩⟩
  .have:=(l q m).1
   have:=o q a;omega
  .exact cn (f.trans g) x λq a m=>U4 ((l q m).1)
 .simp only[Bool.and_eq_false_iff,fh]at A
  have M:i=D.n:=I
  subst M;exact⟨s,rfl,c.im,f,b⟩
end
structure hD(V:Nat->bY)(n gen:Nat)(u:cD)(g:Nat->ag)(P:Nat->an aA)(p:O Nat)(L:O aY):Prop where
 fr:∃j,j<n/\g j=false
 ux:eD ((gen%2:Nat):Int) (V (gen%2))=.ok (u,n,gen)
 ya:V (1-gen%2)=fN\/∃iI g',eD ((1-gen%2:Nat):Int) (V (1-gen%2))=.ok (iI,n,g')/\g'<gen
 mp:∃c1,c1<=gen/\cG (u.map:Int) (V u.map)=.ok ⟨4,c1,fm g ((n+7)/8)⟩
 g:∀no,g no=true↔no∈p\/no<2\/no=u.map
 bu:p.Nodup
 two:∀x∈p,2<=x/\x≠u.map/\x<n
 ok:(u.aD=0/\u.root=0/\p=[]/\L=[])\/eK P u.aD none none u.root p L
 eM:∀x∈p,∀bu,P x=some bu->g9 gen bu.leaf x (V x) bu
 keys:u.keys=L.length
 kv:∀q∈L,cP q.1/\q.2.length<=24
 Fb:oJ u
 sg:g8 u n
 Fc:u.dI+1<=gen
theorem hD.agree{V a:Nat->bY}{P':Nat->an aA}{p:O Nat}(h:hD V n gen u g P p L)(eG:∀j,g j=true->a j=V j)(b:∀x∈p,P x=P' x):hD a n gen u g P' p L:=by
 have h0:a (gen%2)=V (gen%2):=eG _ ((h.g _).2 (.inr (.inl I)));have h1:a (1-gen%2)=V (1-gen%2):=eG _ ((h.g _).2 (.inr (.inl I)));refine⟨h.fr,by rw[h0];exact h.ux,by rw[h1];exact h.ya,by rw[eG _ ((h.g _).2 (.inr (.inr rfl)))];exact h.mp,h.g,h.bu,h.two,h.ok.imp id λc=>(c.agree b).1,λx hx bu d=>?_,h.keys,h.kv,h.Fb,h.sg,h.Fc⟩;rw[eG _ ((h.g _).2 (.inl hx))];exact h.eM x hx bu (by rw[b x hx];exact d)
structure db where
 st:Nat
 T:aN
 l:gB
 u:cD
 gen:Nat
 now:Nat
 first:Nat
 pending:Nat
 keys:Nat
 failed:ag
def db.V(S:db)(j:Nat):bY:=S.T.C.D.bk.getD j []
def db.cells(S:db):O Y:=jJ S.T.bE S.T.C.D.d S.T.C.c S.T.sb S.l S.u S.gen S.now S.first S.pending S.keys S.failed
structure kK(w:J)(S:db)(bc:O Nat)(bH:O aY):Prop where
 v:Var w S.st S.cells 146
 t:cm w S.T
 es:S.T.E S.st
 lM:hD S.V S.T.n S.gen S.u S.T.g S.T.P bc bH
 gen:S.T.gen=S.gen+1
 num:S.now<18446744073709551616/\S.first<=S.now/\S.u.dI+1<=S.gen/\S.gen+2<18446744073709551616/\S.l.batch<=1000/\S.l.hG<=1048576/\1<=S.l.batch
 cj:∀j,S.T.g j=true->S.T.C.D.cj j=true
structure e_(w:J)(S:db)(pages:O Nat)(L:O aY)(bc:O Nat)(bH:O aY):Prop extends kK w S bc bH where
 ok:g0 S.T pages L
 bu:pages.Nodup
 f:∀no,S.T.f no=true↔no∈pages\/no<2\/no=S.u.map
 two:∀x∈pages,2<=x/\x≠S.u.map
 kv:∀p∈L,cP p.1/\p.2.length<=24
 keys:S.keys=L.length
 sh:S.pending<=1000
 live:S.failed=false->¬S.T.C.D.ro/\S.T.C.D.eS=(λ_=> [])/\1<=cy S.T
 dead:S.failed=true->S.T.C.D.ro/\L=bH/\pages=bc/\S.pending=0
def aS.quiet(D:aS):Prop:=(∀k,D.calm k)/\D.bN.getD 3 0= -1
def db.W(S:db)(q:Nat):Prop:=S.T.M q/\(S.T.E q->q=S.st)
structure fR(k:Nat)(S aP:db)(w w':J):Prop where
 st:aP.st=S.st
 d:aP.T.C.D.d=S.T.C.D.d
 n:aP.T.n=S.T.n
 l:aP.l=S.l
 aZ:aP.T.C.D.aZ<=S.T.C.D.aZ+k
 q:S.T.C.D.quiet->aP.T.C.D.quiet
 ab:aa S.W w w'
 dr:∀q,aP.T.M q->S.T.M q\/w<=q
 E:aP.T.E=S.T.E
 G:aP.T.G=S.T.G
 r:aP.T.C.D.r1=S.T.C.D.r1
section
variable {w w':J}{C:cp}{X:U1}{T:aN}{S aP:db}{pages bc:O Nat}{L bH:O aY}
theorem kK.oX(h:kK w S bc bH)(a:S.T.N q):S.W q:=⟨aN.hL a,λhe=>absurd a (h.t.kg he)⟩
theorem kK.Fe(h:kK w S bc bH):S.W S.st:=⟨.inr (.inr (.inr (.inl h.es))),λ_=>rfl⟩
theorem fR.back(h:fR k S aP w w')(b:q<w)(a:aP.W q):S.W q:=⟨(h.dr q a.1).resolve_right I,λhe=>(a.2 (h.E▸he)).trans h.st⟩
theorem ej.jo(h:ej X w C){s:Nat->ag}{z:Nat->O bY}(hc:∀f∈C.al,∀j:Nat,f.full=true->f.no=j->s j=true->f.gN=false)(b:∀j,s j=true->C.D.eC j=z j):
 ej X w {C with D:=C.D.jo s z}:=
 ⟨⟨h.raw.v,h.raw.f,h.raw.dev.jo s z,h.raw.bJ,h.raw.b4,h.raw.hd,h.raw.a1⟩,h.inv.pins,λf hf a=>by
  obtain⟨no,ao,c,d,e,g,k,i⟩:=h.inv.ok f hf a
  exact⟨no,ao,c,d,e,g,λhs=>hc f hf no a ao hs,i⟩,h.inv.un,h.inv.fB,b⟩
theorem cm.jo(h:cm w T){s:Nat->ag}{z:Nat->O bY}(hc:∀f∈T.C.al,∀j:Nat,f.full=true->f.no=j->s j=true->f.gN=false)(a:∀j,s j=true->T.C.D.eC j=z j)(hs:∀j,s j=true->T.g j=true\/∀i,s i=true):
 cm w (T.bK {T.C with D:=T.C.D.jo s z} T.P):=⟨h.t,h.s,h.ca.jo hc a,h.k4,h.dF,h.ki,h.n,h.num,h.eM,hs,h.low⟩
theorem Le(h:ej X w C)(hs:C.D.cj j=true):C.view j=C.D.now j:=by
 unfold cp.view
 cases hf:C.al.find? λf=>f.full&&f.no==(j:Int) with
 |none=>rfl
 |some f=>
  have h1:=kP hf;have a:=jL hf;simp only[dM,gP]at h1;obtain⟨no,ao,d,e,g,b,c,i⟩:=h.inv.ok f a h1.1;have:no=j:=I
  subst this;exact b (c hs)
theorem Lf(h:ej X w C)(hs:C.D.cj j=true)(a:C.D.eS j=[]):C.view j=C.D.bk.getD j []:=by
 rw[Le h hs,xK _ (λx hx=>(h.raw.dev.wn x hx).1),if_pos (by rw[h.inv.nD j hs,a])]
theorem e_.view(h:e_ w S pages L bc bH)(a:S.failed=false)(b:S.T.g j=true):S.T.C.view j=S.V j:=
 Lf h.t.ca (h.cj j b) (by rw[(h.live a).2.1])
theorem kK.set(h:kK w S bc bH){x:Y}(hi:i<19):(∃u:Y,w.cell? ⟨S.st,i,none⟩=some u)/\w.frozen? ⟨S.st,i,none⟩=false/\
 Var (w.setCell ⟨S.st,i,none⟩ x) S.st (S.cells.set i x) 146/\cm (w.setCell ⟨S.st,i,none⟩ x) S.T/\aa (λq=>q=S.st) w (w.setCell ⟨S.st,i,none⟩ x):=by
 obtain⟨ao,a⟩:=dT h.v (i:=i) (by exact hi);exact⟨ao,a,ei h.v (i:=i) x,h.t.uj h.es (dz w S.st i x),dz w S.st i x⟩
end
theorem g9.mono{leaf:ag}{l:bY}{n:aA}(h:g9 gen leaf no l n)(hg:gen<=a):g9 a leaf no l n:=by
 obtain⟨p,h1,b,c⟩:=h;exact⟨p,h1,fg b hg,c⟩
section
variable {w w':J}{C:cp}{X:U1}{T:aN}{S aP:db}{pages bc:O Nat}{L bH:O aY}
theorem Lg{az:aS}(h:ej X w C)(hd:cf w' az)(e:az.d=C.D.d)(g:lI az C.D)(k:∀i,2<=i->az.now i=C.D.now i)(hc:aa (bO C.D) w w')(hf:∀q,bO az q->bO C.D q\/w<=q):
 ej X w' {C with D:=az}/\∀j,2<=j->({C with D:=az}:cp).view j=C.view j:=by
 have o:=hc.size;have l:∀q,q<w.heap.size->di {C with D:=az} q->di C q:=λq a b=>by
  obtain h1|h1|h1:=b
  .exact .inl h1
  .exact .inr (.inl h1)
  .exact .inr (.inr ((hf q h1).resolve_right I))
 refine⟨⟨h.raw.kW hd e hc hf,h.inv.pins,λf p r=>?_,h.inv.un,λq a=>⟨ga (h.inv.fB q a).1 o,λb=>(h.inv.fB q a).2 (l q (h.inv.fB q a).1 b)⟩,g.2.2⟩,λj s=>?_⟩
 .obtain⟨no,ao,t,u,v,x,y,m⟩:=h.inv.ok f p r
  exact⟨no,ao,by rw[show({C with D:=az}:cp).D.n=az.n from rfl,g.1];exact t,bI.re u hc (λq _ c z=>c.1 (.inr (.inr z))) λq a c=>⟨λb=>c.1 (l q a b),c.2⟩,v,λhd=>by show _=az.now no;rw[k no m];exact x hd,λhs=>y (g.2.1 _ hs),m⟩
 .unfold cp.view
  dsimp only
  cases C.al.find? λf=>f.full&&f.no==(j:Int) with
  |some f=>rfl
  |none=>exact k j s
theorem cm.Ff{aM:cp}(h:cm w T)(a:ej T.X w' aM)(hc:aa (di T.C) w w')(e:aM.c=T.C.c)(b:aM.D.n=T.C.D.n)(d:∀no bu,P no=some bu->no<T.n/\g9 T.gen bu.leaf no (aM.view no) bu)(f:∀j,aM.D.cj j=true->T.g j=true\/aM.D.ro):
 cm w' (T.bK aM P):=by
 have hx:=h.ca.inv.fB;refine⟨?_,h.s.ab hc λq i hf=>(hx q (.inr (.inl i))).2 hf,a,h.k4,h.dF,h.ki,b.trans h.n,h.num,d,f,h.low⟩;have:=h.t.ab hc λhf=>(hx T.bE (.inl rfl)).2 hf;unfold mP at this⊢;rw[←e]at this;exact this
def aN.nH(T:aN)(gen:Nat):aN:={T with gen:=gen}
theorem cm.fY(h:cm w T)(b:Var w' T.bE (mP (T.nH gen)) 243)(hc:aa (λq=>q=T.bE) w w')(h1:T.gen<=gen)(c:gen<18446744073709551616):cm w' (T.nH gen):=
 ⟨b,h.s.ab hc λq d e=>h.k4 (e▸d),h.ca.ab hc λq e=>.inl e,h.k4,h.dF,h.ki,h.n,⟨h.num.1,h.num.2.1,c⟩,λno bu a=>⟨(h.eM no bu a).1,(h.eM no bu a).2.mono h1⟩,h.cj,h.low⟩
theorem Lh(h:cm w T)(h1:T.gen<=gen)(a:gen<18446744073709551616):
 aI aj 148 #[.pointer (some T.bE),.int .u64 (gen:Nat)] w (λv w'=>v=.tuple #[]/\cm w' (T.nH gen)/\aa (λq=>q=T.bE) w w'):=by
 refine ad.G4 _ _ w _ ?_;(delta ad.tA af aE st aF;dsimp only);obtain⟨ao,b⟩:=dT h.t (i:=2) (by simp[mP]);have c:=ei h.t (i:=2) (.int .u64 (gen:Nat));have hc:=dz w T.bE 2 (.int .u64 (gen:Nat));refine⟨λ_=>⟨_,rfl,ao,b,aH ?_⟩,nofun⟩;rw[aw,cT];exact⟨rfl,h.fY c hc h1 a,hc⟩
def Fg(aP:db)(gen:Nat)(g:Nat->ag)(pages:O Nat)(L:O aY)(clock dI:Nat):Prop:=
 (∀j,g j=true->aP.T.C.D.eS j=[])\/
 ∃ (a:cD) (ao:Nat->ag) (c:Nat->an aA) (b:bY),(∀j,aP.T.C.D.eS j=if j=(gen+1)%2 then [b] else [])/\hD (λj=>if j=(gen+1)%2 then b else aP.V j) aP.T.n (gen+1) a ao c pages L/\a.clock=clock/\a.dI=dI
def AU(S:db)(pages:O Nat)(L:O aY)(bc:O Nat)(bH:O aY)(w:J)(v:Y)(w':J):Prop:=
 ∃aP,fR 100 S aP w w'/\aP.now=S.now/\
  ((v=.int .i64 0/\e_ w' aP pages L pages L/\aP.failed=false/\aP.gen=S.gen+1/\aP.u.clock=S.now/\aP.u.dI=S.u.dI+1/\aP.pending=0)\/
   (v=.int .i64 3/\¬S.T.C.D.quiet/\e_ w' aP bc bH bc bH/\aP.failed=true/\aP.u=S.u/\aP.gen=S.gen/\(∀j,S.T.g j=true->aP.V j=S.V j)/\Fg aP S.gen S.T.g pages L S.now (S.u.dI+1)))
end
section
variable {w w' w1:J}{C:cp}{X:U1}{T:aN}{S aP k1:db}{pages bc:O Nat}{L bH:O aY}{f2:Nat->ag}{aM:cp}{P':Nat->an aA}
theorem Li{V:Nat->bY}{i:Nat->an aA}(h:e_ w S pages L bc bH)(k:f2=c9 (c9 S.T.f no true) S.u.map false)(M:(S.T.f no||S.T.g no)=false)(A:2<=no)(B:no<S.T.n)(N:L.length<4096)(l:∀x∈pages,i x=S.T.P x)
 (D:V ((S.gen+1)%2)=eA ((S.gen+1)%2) (jG ⟨S.T.root,S.T.aD,no,S.now,S.u.dI+1,L.length⟩ S.T.n (S.gen+1))) (eG:∀j,j≠(S.gen+1)%2->V j=if j=no then eA no ⟨4,S.gen+1,fm f2 ((S.T.n+7)/8)⟩ else if S.T.g j=true then S.V j else S.T.C.view j)
 (hg:∀j,S.T.g j=true->S.V j=S.T.C.view j):hD V S.T.n (S.gen+1) ⟨S.T.root,S.T.aD,no,S.now,S.u.dI+1,L.length⟩ f2 i pages L:=by
 have E:=h.t.s.bz;have F:=h.num;have m:=h.t.num;have o:=h.lM.sg;have O:=o.2.2.2.2.1;have p:S.T.f S.u.map=true:=(h.f _).2 (.inr (.inr rfl));have q:S.T.f no=false:=by cases Q:S.T.f no<;>simp_all
 have r:∀x∈pages,x≠no:=λx hx e=>by
  have:=(h.f x).2 (.inl hx);rw[e,q]at this;cases this
 have G:∀x∈pages,x<S.T.n:=λx hx=>Nat.lt_of_not_le λe=>by
  have:=h.t.s.pf x e;rw[(h.f x).2 (.inl hx)]at this;cases this
 have H:∀j,j≠(S.gen+1)%2->j≠no->V j=S.T.C.view j:=λj h1 J=>by
  rw[eG j h1,if_neg J];by_cases e:S.T.g j=true
  .rw[if_pos e,hg j e]
  .rw[if_neg e]
 have v:g8 ⟨S.T.root,S.T.aD,no,S.now,S.u.dI+1,L.length⟩ S.T.n:=by
  refine⟨?_,m.2.1,m.1,B,A,E⟩;obtain⟨a1,a2,_⟩|b:=h.ok
  .exact⟨λ_=>a1,λ_=>a2⟩
  .obtain⟨bu,R,_,a2,_,_⟩:=b.ke
   have:=(h.two S.T.root (by rw[a2];simp)).1;constructor
   .intro e;have e:S.T.root=0:=e;omega
   .intro e
    have e:S.T.aD=0:=e;rw[e]at b;exact b.elim
 have y:oJ ⟨S.T.root,S.T.aD,no,S.now,S.u.dI+1,L.length⟩:=⟨by show S.T.root<_;omega,by show S.T.aD<_;omega,by show no<_;omega,F.1,by show S.u.dI+1<_;omega,by show L.length<_;omega⟩;refine⟨⟨S.u.map,o.2.2.2.1,by rw[k];unfold c9;rw[if_pos rfl]⟩,?_,.inr ⟨S.u,S.gen,?_,I⟩,⟨S.gen+1,a_ _,?_⟩,λj=>?_,h.bu,λx hx=>⟨(h.two x hx).1,r x hx,G x hx⟩,?_,λx hx bu z=>?_,rfl,h.kv,y,v,by show S.u.dI+1+1<=S.gen+1;omega⟩
 .rw[D]
  exact zX y v I I
 .have e:1-(S.gen+1)%2=S.gen%2:=I
  have K:S.T.g (S.gen%2)=true:=(h.lM.g _).2 (.inr (.inl I));rw[e,eG _ I,if_neg I,if_pos K];exact h.lM.ux
 .show cG (no:Int) (V no)=_
  rw[eG _ I,if_pos rfl];exact tS I ⟨(by decide:1<=4),(by decide:4<=4),by show S.gen+1<_;omega,by show(fm _ _).length<=232;rw[qc];omega⟩
 .rw[k]
  show c9 (c9 S.T.f no true) S.u.map false j=true↔j∈pages\/j<2\/j=no;unfold c9;by_cases c:j=S.u.map
  .rw[if_pos c]
   refine⟨nofun,λa=>?_⟩;obtain a|a|a:=a
   .exact absurd c (h.two j a).2
   .omega
   .rw[←c,a,q]at p;cases p
  .rw[if_neg c]
   by_cases d:j=no
   .rw[if_pos d];exact⟨λ_=>.inr (.inr d),λ_=>rfl⟩
   .rw[if_neg d,h.f j]
    constructor
    .rintro(a|a|a)
     .exact .inl a
     .exact .inr (.inl a)
     .exact absurd a c
    .rintro(a|a|a)
     .exact .inl a
     .exact .inr (.inl a)
     .exact absurd a d
 .obtain⟨a1,a2,a3,a4⟩|b:=h.ok
  .exact .inl ⟨a1,a2,a3,a4⟩
  .exact .inr (b.agree λx hx=>(l x hx).symm).1
 .rw[l x hx]at z
  rw[H x (U4 ((h.two x hx).1)) (r x hx),←h.gen];exact(h.t.eM x bu z).2
end
section
variable {w w' w1:J}{C:cp}{X:U1}{T:aN}{S aP k1:db}{pages bc:O Nat}{L bH:O aY}{f2:Nat->ag}{aM:cp}{P':Nat->an aA}
theorem Lj{f:Nat->ag}(h:k<n):oM f n (k:Int)=c9 f k false:=by
 unfold oM;rw[if_pos ⟨I,I⟩,cS]
theorem Lk{bE d c sb now first pending keys st:Nat}{failed:ag}(b:Var w st (jJ bE d c sb l u gen now first pending keys failed) 146)(a:cD){K:U2}(e:∀ah,Var ah st (jJ bE d c sb l a gen now first pending keys failed) 146->aa (λq=>q=st) w ah->K ah):
 c5 w ⟨st,7,none⟩ [a.root,a.aD,a.map,.int .u64 (a.clock:Nat),.int .u64 (a.dI:Nat),a.keys]/\(6:Nat)=6/\
  au (setCells w ⟨st,7,none⟩ 0 [a.root,a.aD,a.map,.int .u64 (a.clock:Nat),.int .u64 (a.dI:Nat),a.keys]) K:=
 ⟨bp.cF b _ _ (by simp[jJ]) λv f=>cD.plain a v f,rfl,aH (e _ (bp.j9 (o:=7) b _) (aa.kT (.refl _ _) _ 0))⟩
theorem Fh(h:e_ w S pages L bc bH)(U:S.failed=false)(cX:L.length<4096)(em:S.T.C.D.aZ<=800000000)(en:S.gen<=1000000000)(ag:S.T.C.D.quiet):
 aI aj 74 #[.pointer (some S.st)] w (AU S pages L bc bH w):=by
 refine okF (ad.wx (some S.st)) ay.wx func74 ?_;(delta ad.wx aE jc af b5 r1 b1 od c0 bU dY gI aF eo ae aT bZ e6 bf st;dsimp only);obtain⟨a0,bC,cY⟩:=h.live U;obtain⟨no,bD⟩:=Eb cY;obtain⟨bF,c1,_⟩:=DG bD;have ep:=h.t.s.bz;have aq:=h.num;have c2:=h.gen;have bG:=h.lM.sg;have bI:S.T.f no=false:=by cases c3:S.T.f no<;>simp_all
 have a1:S.T.g no=false:=by cases c3:S.T.g no<;>simp_all
 have bM:2<=no:=Nat.le_of_not_lt λe=>by
  have:=(h.lM.g no).2 (.inr (.inl e));rw[a1]at this;cases this
 have eq:S.T.M S.st:=.inr (.inr (.inr (.inl h.es)));refine⟨_,rfl,_,h.v.cell,(DI h.t.s).use ?_⟩;rintro _ bP ⟨rfl,bR,ar⟩;rw[bD]at bR⊢;refine⟨(no:Nat),0,rfl,nofun,λ_=>aH ?_⟩;have c4:=(h.t.xY (f:=c9 S.T.f no true) bR ar).1;have c5:=h.v.ab ar (h.t.dF _ h.es).2.1;have au:Ext bP bP.drew:=cc _;have a2:=c5.ext au;have bS:=c4.ext au;refine⟨_,rfl,id,_,a2.cell,_,rfl,id,_,by rw[aw,aw];exact a2.cell,(DJ bS.s (S.u.map:Nat)).use ?_⟩;rintro _ av ⟨rfl,bT,ax⟩;rw[Lj (by exact bG.2.2.2.1)]at bT;obtain⟨f2,a3⟩:=U6 (c9 (c9 S.T.f no true) S.u.map false);have bV:e1 av S.T.sb S.T.n f2 S.T.g S.T.s1 S.T.s2:=by rw[a3];exact bT
 have a4:cm av (S.T.kj f2):=(bS.xY (f:=f2) bV ax).1;have bW:=a2.ab ax (h.t.dF _ h.es).2.1;refine⟨_,rfl,aH ?_⟩;have az:Ext av av.drew:=cc _;have b0:=bW.ext az;have c6:=a4.ext az;have a5:IntKind.wrap .u64 ((S.gen:Int)+1)=((S.gen+1:Nat):Int):=by rw[gl I I];omega
 refine⟨λ_=>False,_,rfl,id,_,b0.cell,_,rfl,id,_,b0.cell,(DQ c6.s).use ?_⟩;rintro _ c7 ⟨aB,rfl,da,a6,er⟩;have db:aL 1 5 c7 aB (aC (fm f2 ((S.T.n+7)/8))):=by rw[ES];exact da
 have b2:oF ⟨4,S.gen+1,fm f2 ((S.T.n+7)/8)⟩:=⟨(by decide:1<=4),(by decide:4<=4),by show S.gen+1<_;omega,by show(fm _ _).length<=232;rw[qc];omega⟩;rw[a5];refine⟨aB,rfl,a6,#[(4:Int),.int .u64 ((S.gen+1:Nat):Int),aB],λet=>by kernel_rfl,(xz (s:=aB) (p:=⟨4,S.gen+1,fm f2 ((S.T.n+7)/8)⟩) (no:=no) db.src I b2).use ?_⟩;rintro _ b3 ⟨dc,rfl,b6,b7,dd⟩;have a7:=az.trans (Ext.trans a6 b7);have aG:=a4.ext a7;have b8:=bW.ext a7;have eu:=ar.size;have ev:=ax.size;have ew:=au.size;have ex:=az.size;have ey:=a6.size;have a8:aa S.W w b3:=cn (cn (cn (cn (aa.refl _ _) ar λq _ a=>h.oX (.inr (.inr (.inl a)))) au λq _ a=>a.elim) ax λq _ a=>h.oX (.inr (.inr (.inl a)))) a7 λq _ a=>a.elim;have de:(eA no ⟨4,S.gen+1,fm f2 ((S.T.n+7)/8)⟩).length=256:=tQ _ b2;refine⟨dc,0,rfl,b7,nofun,λ_=>⟨_,rfl,_,b8.cell,(D6 aG.ca (by show S.T.C.D.aZ<=_;omega) (no:=no) (aG.n▸bF) bM (λhs=>?_) b6.src de λq a=>⟨aL.lt b6 q a,λhf=>?_⟩).use ?_⟩⟩
 .rcases aG.cj no hs with h1|h1
  .rw[show(S.T.kj f2).g no=S.T.g no from rfl,a1]at h1;cases h1
  .exact a0 h1
 .have h1:=dd q a
  have aJ:=a4.lt (q:=q) (.inl hf);omega
 rintro _ b9 ⟨J,df,b_,aK⟩;have A:eL S.T.C J b3 b9 1:=b_;have cb:∀j,j≠no->J.view j=S.T.C.view j:=λj o=>by
  obtain⟨_,a9⟩|⟨_,_,a9⟩:=aK
  .rw[a9,if_neg o];rfl
  .rw[a9];rfl
 obtain⟨F,ba⟩:=U6 (λj=>if j=no then none else S.T.P j:Nat->an aA)
 have ah:∀j,j≠no->F j=S.T.P j:=λj o=>by rw[ba];exact if_neg o
 obtain⟨aM,_⟩:=aG.xW (P:=F) df b_ λj bu Q=>by
  have o:j≠no:=λe=>by rw[ba]at Q;simp[e]at Q
  rw[cb j o];exact h.t.eM j bu (by rw[←ah j o];exact Q)
 have dg:¬di S.T.C S.st:=(h.t.ca.inv.fB _ (.inr (.inr (.inl h.es)))).2;have cd:=b8.ab A.ab dg;have ce:aa S.W w b9:=cn a8 A.ab λq _ a=>h.oX (.inl a);have ez:∀x∈bc,S.T.P x=F x:=λx hx=>(ah x λe=>by
  have:=(h.lM.g x).2 (.inl hx);rw[e,a1]at this;cases this).symm
 have eB:J.D.bk=S.T.C.D.bk:=congrArg (λp=>p.1.1) A.bk;have cg:J.D.bN.getD 3 0=S.T.C.D.bN.getD 3 0:=congrArg Prod.snd A.bk;obtain⟨rfl,aK⟩|⟨rfl,dh,_⟩:=aK
 rotate_left
 .exact absurd (ag.1 1) dh
 refine⟨0,rfl,nofun,λ_=>⟨_,rfl,_,cd.cell,?_⟩⟩;have ch:=KQ aM.ca (by show J.D.aZ<=_;have:=A.aZ;omega) λj o=>by show J.D.eS j=_;rw[A.p6.2,bC]
 rw[show((S.T.kj f2).bK J F).C.c=S.T.C.c from A.c]at ch;refine ch.use ?_;rintro _ aO ⟨b,R⟩;have dj:¬di J S.st:=(aM.ca.inv.fB _ (.inr (.inr (.inl h.es)))).2;have bb:=cd.ab R.ab dj;have bd:b.D.d=S.T.C.D.d:=R.d.trans A.d;have dk:b.c=S.T.C.c:=R.c.trans A.c;have dl:b.D.r1=S.T.C.D.r1:=R.r.trans (congrArg (λp=>p.1.2.2.2.2) A.bk);have aP:∀q,di b q->di S.T.C q\/w<=q:=λq a=>by
  have:=ce.size;have:=a8.size;rcases R.dr q a with h1|h1
  .exact(A.dr q h1).imp id λe=>by omega
  .exact .inr I
 have ci:aa S.W w aO:=cn ce R.ab λq U a=>by
  have:=a8.size;exact h.oX (.inl ((A.dr q a).resolve_right I))
 have ck:∀ (be:cp),(∀j,2<=j->be.view j=J.view j)->∀j bu,F j=some bu->j<S.T.n/\g9 S.T.gen bu.leaf j (be.view j) bu:=λbe dm j bu Q=>by
  have o:j≠no:=λe=>by rw[ba]at Q;simp[e]at Q
  have h1:=h.t.eM j bu (by rw[←ah j o];exact Q);rw[dm j h1.2.two,cb j o];exact h1
 have bh:cm aO ((S.T.kj f2).bK b F):=aM.Ff R.at_ R.ab R.c R.n (ck b λj _=>R.view j) λj o=>by
  rw[R.cj.1]at o;rcases aM.cj j o with h1|h1
  .exact .inl h1
  .exact .inr λi=>by rw[R.cj.1];exact h1 i
 have cl:b.D.cj=S.T.C.D.cj:=R.cj.1.trans A.cj;have eD:b.D.eS=λ_=> []:=R.cj.2.trans (A.p6.2.trans bC);have eE:b.D.aZ<=S.T.C.D.aZ+70:=by have h1:b.D.aZ<=J.D.aZ+64:=R.aZ;have:=A.aZ;omega
 obtain⟨rfl,dn,co,dp⟩|⟨rfl,eF,dq⟩:=R.jT
 rotate_left
 .exfalso
  obtain h1|h1:=dq
  .exact h1 (A.calm 64 (ag.1 _))
  .unfold aS.fl at h1
   rw[show((S.T.kj f2).bK J F).C.D.bN.getD 3 0=S.T.C.D.bN.getD 3 0 from cg,ag.2]at h1
   cases h1
 have aQ:∀j,b.D.eC j=[]:=λj=>by unfold aS.eC;rw[dn];rfl
 have ds:∀j,b.D.bk.getD j []=if j=no then eA no ⟨4,S.gen+1,fm f2 ((S.T.n+7)/8)⟩ else S.T.C.view j:=λj=>by
  have h1:=KO R.at_ co j;rw[xK _ (λx hx=>(R.at_.raw.dev.wn x hx).1),if_pos (aQ j)]at h1;rw[←h1,R.view];exact aK j
 have cq:∀j,S.T.g j=true->S.V j=S.T.C.view j:=λj o=>(h.view U o).symm;refine⟨0,rfl,nofun,λ_=>⟨_,rfl,_,bb.cell,?_⟩⟩;have cr:=Ey bh;rw[show((S.T.kj f2).bK b F).bE=S.T.bE from rfl]at cr;refine cr.use ?_;rintro _ bi ⟨rfl,bj⟩;have bl:Ext bi bi.drew:=cc _;have bm:=(bb.ext bj).ext bl;have dt:IntKind.wrap .u64 ((S.u.dI:Int)+1)=((S.u.dI+1:Nat):Int):=by rw[gl I I];omega
 refine⟨_,_,rfl,aH ⟨λ_=>False,_,rfl,id,_,bm.cell,_,rfl,id,_,by rw[aw,aw];exact bm.cell,_,rfl,id,_,bm.cell,?_⟩⟩;rw[dt];obtain⟨G,Y⟩:=U6 (⟨S.T.root,S.T.aD,no,S.now,S.u.dI+1,S.keys⟩:cD);refine⟨G.c.toArray,λeH=>by rw[Y];kernel_rfl,bg (vs:=cZ.c) rfl λeI cs ct eJ=>⟨ct,?_⟩⟩;obtain⟨ub,du⟩:=U6 bi.drew.heap.size;rw[←du]at cs⊢;refine fQ cs rfl G λai dv dw eK=>aH ?_;have eN:=bj.size;have eO:=bl.size;have dx:Ext aO ai:=Ext.bQ (Ext.trans bj (bl.trans ct)) dw I;have cu:Ext ai ai.drew:=cc _;have ak:Ext aO ai.drew:=Ext.trans dx cu;have bn:=dv.ext cu;have aR:=bb.ext ak;have bo:=bh.ext ak;generalize eP:ai.drew=aU at bn aR bo ak⊢;refine⟨_,rfl,id,_,aR.cell,id,fe bn ⟨_,rfl,id,_,aR.cell,?_⟩⟩;rw[a5];have dy:oJ G:=by
  have h1:=h.t.num;have aJ:=h.keys;rw[Y];exact⟨by show S.T.root<_;omega,by show S.T.aD<_;omega,by show no<_;omega,aq.1,by show S.u.dI+1<_;omega,by show S.keys<_;omega⟩
 have bp:b.D.n=S.T.n:=R.n.trans (A.n.trans h.t.n);have O:ej S.T.X aU b:=bo.ca;have cv:=om O.raw.dev I dy (gen:=S.gen+1) I;rw[bd]at cv;refine cv.use ?_;rintro v bq ⟨Z,br⟩;have eQ:=ak.size;have dA:∀q,di b q->q<ub:=λq a=>U4 (R.at_.raw.lt a)
 have dB:=bn.ab Z λhf=>U4 (dA ub (.inr (.inr hf)))
 have dC:¬di b S.st:=(bh.ca.inv.fB _ (.inr (.inr (.inl h.es)))).2;have cx:=aR.ab Z λhf=>dC (.inr (.inr hf));have dD:aa S.W w aU:=cn ci ak λq _ a=>a.elim;have eR:=ci.size;have dE:aa S.W w bq:=cn dD Z λq U a=>h.oX<| .inl ((aP q (.inr (.inr a))).resolve_right I)
 have main:∀ (N:aS),cf bq N->N.d=b.D.d->lI N b.D->(∀i,2<=i->N.now i=b.D.now i)->(∀q,bO N q->bO b.D q\/aU<=q)->(∀j,N.cj j=true->S.T.g j=true)->
  cm bq ((S.T.kj f2).bK {b with D:=N} F)/\∀q,di {b with D:=N} q->di S.T.C q\/w<=q:=λN al dG cz dH cA dJ=>by
  obtain⟨gA,dK⟩:=Lg O al dG cz dH Z cA;refine⟨bo.Ff gA (Z.mono λq _ a=>.inr (.inr a)) rfl cz.1 (ck _ λj o=>(dK j o).trans (R.view j)) λj o=>.inl (dJ j o),λq a=>?_⟩;obtain a|a|a:=a
  .exact aP q (.inl a)
  .exact aP q (.inr (.inl a))
  .rcases cA q a with h1|h1
   .exact aP q (.inr (.inr h1))
   .exact .inr I
 have eT:¬b.D.ro:=λe=>a0 λi=>by rw[←cl];exact e i
 have eU:∀j,b.D.cj j=true->S.T.g j=true:=λj o=>by
  rw[cl]at o;exact(h.t.cj j o).resolve_right a0
 have cB:S.T.C.D.quiet->∀k,b.D.calm k:=λa k=>R.calm k (A.calm _ (a.1 _));obtain⟨bs,rfl,al⟩|⟨bs,s,dL,bX,K,br⟩:=br
 .have:=(kE (k:=2) (m:=0) (.inr rfl) O.raw.dev.f4 (cB ag 1)).2
  rw[this]at bs;cases bs
 have eV:∀j,bX.eC j=if j=(S.gen+1)%2 then [eA ((S.gen+1)%2) (jG G b.D.n (S.gen+1))] else []:=λj=>by
  rw[K,Dn,aQ,aQ];rfl
 have cC:G=⟨S.T.root,S.T.aD,no,S.now,S.u.dI+1,L.length⟩:=by rw[Y,h.keys]
 have dM:∀V:Nat->bY,(∀j,V j=if j=(S.gen+1)%2 then eA ((S.gen+1)%2) (jG G b.D.n (S.gen+1)) else b.D.bk.getD j [])->hD V S.T.n (S.gen+1) G f2 F pages L:=λV eG=>by
  rw[cC];refine Li h a3 c1 bM bF cX (λx hx=>ah x λe=>by
   have:=(h.f x).2 (.inl hx);rw[e,bI]at this;cases this) (by rw[eG,if_pos rfl,cC,bp]) (λj o=>?_) cq
  rw[eG,if_neg o,ds];by_cases e:j=no
  .rw[if_pos e,if_pos e]
  .rw[if_neg e,if_neg e]
   by_cases bt:S.T.g j=true
   .rw[if_pos bt,cq j bt]
   .rw[if_neg bt]
 have bv:∀q,bO bX q->bO b.D q\/aU<=q:=by rw[K];exact x6 dL
 have eW:∀i,2<=i->bX.now i=b.D.now i:=λi hi=>by rw[K,p2,if_neg I]
 have cE:bX.n=b.D.n:=by rw[K];rfl
 have dN:bX.d=b.D.d:=by rw[K];rfl
 have eX:bX.bk=b.D.bk:=by rw[K];rfl
 have eY:bX.aZ=b.D.aZ+1:=by rw[K];rfl
 have cF:S.T.C.D.quiet->bX.bN.getD 3 0= -1:=λa=>by
  rw[K];show(b.D.bN.set 2 _).getD 3 0=_;have aV:=O.raw.dev.f4;rw[c8 (by rw[c_];omega),fD (by decide),←c8 (d:=0),dp];rw[show((S.T.kj f2).bK J F).C.D.bN.getD 3 0=S.T.C.D.bN.getD 3 0 from cg,a.2];rfl
 obtain⟨aW,rfl,al⟩|⟨aW,rfl,al⟩:=br
 .unfold aS.fl at aW
  rw[cF ag]at aW;cases aW
 have dO:∀j,S.T.n<=j->b.D.bk.getD j []=[]:=λj o=>by
  rw[fi,mw (by have:b.D.bk.length=S.T.n:=bp;omega)];rfl
 have cG:∀j,b.D.now j=b.D.bk.getD j []:=λj=>by rw[xK _ (λx hx=>(O.raw.dev.wn x hx).1),if_pos (aQ j)]
 have eZ:bX.n=S.T.n:=cE.trans bp;have dP:∀j,(bX.cI 3).j0.bk.getD j []=if j=(S.gen+1)%2 then eA ((S.gen+1)%2) (jG G b.D.n (S.gen+1)) else b.D.bk.getD j []:=λj=>by
  show((List.range bX.n).map bX.now).getD j []=_;have e0:16<=bX.n:=by have:16<=b.D.n:=O.raw.dev.bL;omega
  by_cases o:j<bX.n
  .rw[c8 (by simp;exact o),List.getElem_map,List.getElem_range,K,p2,cG]
  .rw[fi,mw (by simp;omega),if_neg I,dO j I];rfl
 obtain⟨B,H⟩:=U6 ((bX.cI 3).j0.jo (λ_=>false) λ_=> []);have dQ:∀j,B.eC j=[]:=λj=>by rw[H];rfl
 have cJ:∀j,B.bk.getD j []=if j=(S.gen+1)%2 then eA ((S.gen+1)%2) (jG G b.D.n (S.gen+1)) else b.D.bk.getD j []:=λj=>by rw[H];exact dP j
 have dR:B.n=b.D.n:=by rw[H];exact(ur (bX.cI 3)).trans cE
 have bw:B.d=S.T.C.D.d:=by rw[H];exact dN.trans bd
 obtain⟨cK,dS⟩:=main B (by rw[H];exact al.jo _ _) (bw.trans bd.symm) ⟨dR,λj o=>(by rw[H]at o;cases o),λj o=>(by rw[H]at o;cases o)⟩ (λi hi=>by
  have h1:B.now i=B.bk.getD i []:=by rw[H];rfl
  rw[h1,cJ,if_neg I,cG]) (λq a=>by
   rw[H]at a;obtain e|e|e|⟨x,hx,e⟩:=a
   .exact bv q (.inl e)
   .exact bv q (.inr (.inl e))
   .exact bv q (.inr (.inr (.inl e)))
   .cases hx) λj o=>(by rw[H]at o;cases o)
 refine⟨0,rfl,nofun,λ_=>⟨_,rfl,_,cx.cell,(Jb cK.s).use ?_⟩⟩;rintro _ am ⟨rfl,s2,dU,ap,cL⟩;have ac:=dM (λj=>B.bk.getD j []) cJ;have dV:f2 0=true/\f2 1=true:=⟨(ac.g 0).2 (.inr (.inl (by decide))),(ac.g 1).2 (.inr (.inl (by decide)))⟩;obtain⟨dW,e2⟩:=cK.space dU ap cL (λj o=>by
  have o:B.cj j=true:=o;rw[H]at o;cases o) dV
 have e3:=ap.size;have dX:=cx.ab ap (h.t.dF _ h.es).2.1;have dZ:=dB.ab ap λhf=>by
  have h1:=h.t.lt (q:=ub) (.inr (.inr (.inl hf)));omega
 have d0:=dW.jo (s:=f2) (z:=λ_=> []) (λf hf j d1 _ _=>by
  have h1:=co f hf;unfold Fr.iz at h1;rw[d1]at h1;simpa using h1) (λj _=>dQ j) λj o=>.inl o
 obtain⟨gJ,y⟩:∃gJ:aN,gJ=(((S.T.kj f2).bK {b with D:=B} F).Ax f2 f2 S.T.s1 s2).bK {b with D:=B.jo f2 λ_=> []} F:=⟨_,rfl⟩;have d2:cm am gJ:=by rw[y];exact d0
 have aX:Ext am am.drew:=cc _;have cM:Var am.drew S.st (jJ S.T.bE S.T.C.D.d S.T.C.c S.T.sb S.l S.u S.gen S.now S.first S.pending S.keys S.failed) 146:=dX.ext aX;have d3:=dZ.ext aX;have d4:=d2.ext aX;have aY:gJ.E=S.T.E:=by rw[y];rfl
 refine⟨rfl,aH ⟨λ_=>False,id,fe d3 ⟨_,rfl,id,_,cM.cell,_,rfl,?_⟩⟩⟩;rw[aw,cT,a5];refine Lk cM G λcN cO cP=>?_;have d5:=d4.uj (aY▸h.es) cP;obtain⟨bJ,b4⟩:=dT cO (i:=13) (by simp[jJ]);have cQ:=ei cO (i:=13) (.int .u64 ((S.gen+1:Nat):Int));have d6:=dz cN S.st 13 (.int .u64 ((S.gen+1:Nat):Int));refine⟨_,rfl,bJ,b4,aH ?_⟩;rw[aw,cT];obtain⟨d7,d8⟩:=dT cQ (i:=16) (by simp[jJ]);have cR:=ei cQ (i:=16) (0:Int);have bx:=d6.trans (dz _ S.st 16 (0:Int));refine⟨_,rfl,d7,d8,aH ?_⟩;rw[aw,cT];generalize (cN.setCell ⟨S.st,13,none⟩ (.int .u64 ((S.gen+1:Nat):Int))).setCell ⟨S.st,16,none⟩ (0:Int)=cS at cR bx⊢;have d9:=d5.uj (aY▸h.es) bx;have bA:Ext cS cS.drew:=cc _;have bB:=cR.ext bA;have d_:=d9.ext bA;refine aH ⟨_,rfl,id,_,bB.cell,_,rfl,id,_,bB.cell,?_⟩;have ea:IntKind.wrap .u64 (((S.gen+1:Nat):Int)+1)=((S.gen+2:Nat):Int):=by rw[gl I I];omega
 rw[ea];have e4:gJ.gen=S.gen+1:=by rw[y];exact c2
 have cU:gJ.bE=S.T.bE:=by rw[y];rfl
 have cV:=Lh d_ (gen:=S.gen+2) I I;rw[cU]at cV;refine cV.use ?_;rintro _ eb ⟨rfl,ec,cW⟩;have ed:=bB.ab cW (h.t.dF _ h.es).1;have ee:∀q,(gJ.nH (S.gen+2)).M q->S.T.M q\/w<=q:=λq a=>by
  rw[y]at a;obtain a|a|a|a:=a
  .exact(dS q a).imp .inl id
  .exact .inl (.inr (.inl a))
  .rcases cL q a with h1|h1
   .exact .inl (.inr (.inr (.inl h1)))
   .have:=Z.size;exact .inr I
  .exact .inl (.inr (.inr (.inr a)))
 refine⟨rfl,⟨S.st,gJ.nH (S.gen+2),S.l,G,S.gen+1,S.now,S.first,0,S.keys,S.failed⟩,⟨rfl,?_,by rw[y];rfl,rfl,?_,λa=>?_,?_,ee,aY,by rw[y];rfl,by rw[y];exact(show B.r1=bX.r1 by rw[H];rfl).trans ((show bX.r1=b.D.r1 by rw[K];rfl).trans dl)⟩,rfl,.inl ⟨rfl,⟨⟨?_,ec,?_,?_,rfl,?_,?_⟩,?_,h.bu,?_,?_,h.kv,h.keys,cw _,λ_=>⟨?_,?_,?_⟩,λhf=>?_⟩,U,rfl,by rw[Y],by rw[Y],rfl⟩⟩
 .rw[y];exact bw
 .rw[y];show B.aZ<=_;rw[H];show bX.aZ<=_;omega
 .rw[y]
  show aS.quiet (B.jo _ _);rw[H];refine⟨λk=>uu bX ?_,?_⟩
  .have aV:=(kE (k:=2) (m:=k) (.inr rfl) O.raw.dev.f4 (cB a (k+1))).1
   rw[K];exact aV
  .show(bX.bN.set 3 (gz (bX.bN.getD 3 0)).2).getD 3 0= -1
   have aV:=O.raw.dev.f4;have e5:bX.bN.length=4:=by rw[K];show(b.D.bN.set 2 _).length=4;rw[c_];exact aV
   rw[cF a,c8 (by rw[c_];omega),hW];rfl
 .have hs:∀q,q=S.st->S.W q:=λq e=>by rw[e];exact h.Fe
  have ao:aa S.W w am:=cn dE ap λq _ a=>h.oX (.inr (.inr (.inl a)));have ef:=cn ao aX λq _ a=>a.elim;have eg:=cn ef cP λq _ a=>hs q a;have eh:=cn eg bx λq _ a=>hs q a;have ek:=cn eh bA λq _ a=>a.elim;exact cn ek cW λq _ a=>h.oX (.inr (.inl a))
 .show Var eb S.st (jJ gJ.bE gJ.C.D.d gJ.C.c gJ.sb _ _ _ _ _ _ _ _) _
  rw[cU,show gJ.C.D.d=S.T.C.D.d by rw[y];exact bw,show gJ.C.c=S.T.C.c by rw[y];exact dk,show gJ.sb=S.T.sb by rw[y];rfl];exact ed
 .show gJ.E S.st
  rw[aY];exact h.es
 .rw[y];exact ac
 .refine⟨aq.1,aq.2.1,?_,by show S.gen+1+2<_;omega,aq.2.2.2.2⟩
  show G.dI+1<=S.gen+1;rw[Y];show S.u.dI+1+1<=_;omega
 .intro j o
  have o:gJ.g j=true:=o;show gJ.C.D.cj j=true;rw[y]at o⊢;exact o
 .refine h.ok.agree (by rw[y];rfl) (by rw[y];rfl) λx hx=>?_
  rw[y];exact(ah x λe=>by
   have:=(h.f x).2 (.inl hx);rw[e,bI]at this;cases this).symm
 .intro j
  have:(gJ.nH (S.gen+2)).f j=f2 j:=by rw[y];rfl
  rw[this];exact ac.g j
 .intro x hx
  exact⟨(ac.two x hx).1,(ac.two x hx).2.1⟩
 .intro e
  have h1:=e S.T.n;have aJ:(gJ.nH (S.gen+2)).C.D.cj S.T.n=f2 S.T.n:=by rw[y];rfl
  rw[aJ,bV.pf S.T.n (a_ _)]at h1;cases h1
 .rw[y];rfl
 .have el:f2 S.u.map=false:=by rw[a3];unfold c9;rw[if_pos rfl]
  have h1:=uf (s:=λi=>f2 i||f2 i) (t:=c9 (λi=>f2 i||f2 i) S.u.map true) (k:=S.u.map) (by simp[el]) (by simp[c9]) (λi hi=>by simp[c9,hi]) (n:=S.T.n) bG.2.2.2.1;have aJ:=l9 (c9 (λi=>f2 i||f2 i) S.u.map true) S.T.n;have e7:cy (gJ.nH (S.gen+2))=S.T.n-cH (λi=>f2 i||f2 i) S.T.n:=by rw[y];rfl
  show 1<=cy (gJ.nH (S.gen+2));omega
 .have hf:S.failed=true:=hf
  rw[U]at hf;cases hf
end
theorem Ll(a b:Int)(w:J)(T:TypeId)(k:IntKind):Sem.run aj (Builtin.max_ #[T,T] T #[.int k a,.int k b]) w=.ok (.int k (max a b)) w:=by
 simp only[Builtin.max_];unfold Builtin.max2;simp;split<;>omega
theorem fR.trans{S aP c:db}{e:J}{l:Nat}(h1:fR k S aP w w')(a:fR l aP c w' e):fR (k+l) S c w e:=
 ⟨a.st.trans h1.st,a.d.trans h1.d,a.n.trans h1.n,a.l.trans h1.l,U5 h1.aZ a.aZ,λh=>a.q (h1.q h),cn h1.ab a.ab λq g b=>h1.back g b,λq b=>by
  have:=h1.ab.size
  rcases a.dr q b with f|f
  .exact h1.dr q f
  .exact .inr I,a.E.trans h1.E,a.G.trans h1.G,a.r.trans h1.r⟩
theorem fR.mono{S aP:db}{l:Nat}(h:fR k S aP w w')(a:k<=l):fR l S aP w w':={h with aZ:=by have:=h.aZ;omega}
theorem fR.ext(S:db)(h:Ext w w'):fR 0 S S w w':=⟨rfl,rfl,rfl,rfl,a_ _,λh=>h,h.mono λ_ _ h=>h.elim,λq a=>.inl a,rfl,rfl,rfl⟩
section
variable {w w' w1:J}{T:aN}{S aP k1:db}{pages bc:O Nat}{L bH:O aY}
theorem kK.ext(h:kK w S bc bH)(hx:Ext w w'):kK w' S bc bH:=⟨h.v.ext hx,h.t.ext hx,h.es,h.lM,h.gen,h.num,h.cj⟩
theorem e_.ext(h:e_ w S pages L bc bH)(hx:Ext w w'):e_ w' S pages L bc bH:=⟨h.tokK.ext hx,h.ok,h.bu,h.f,h.two,h.kv,h.keys,h.sh,h.live,h.dead⟩
def j2(S:db):Nat:=cy S.T-2*S.T.aD-4
theorem Fj(h:e_ w S pages L bc bH):aI aj 66 #[.pointer (some S.st)] w (λv w'=>v=.int .i64 (j2 S:Nat)/\Ext w w'):=by
 refine okF (ad.wk (some S.st)) ay.wk func66 ?_;(delta ad.wk aE jc b5 ai;dsimp only);refine⟨_,rfl,_,h.v.cell,(Ey h.t).use ?_⟩;rintro _ e ⟨rfl,a⟩;refine⟨_,_,rfl,_,rfl,_,by rw[aw];exact(h.v.ext a).cell,(z8 (h.t.ext a).s).use ?_⟩;rintro _ b ⟨rfl,c⟩;have j:=h.t.s.bz;have k:=h.t.num.2.1;have l:=l9 (λi=>S.T.f i||S.T.g i) S.T.n;have d:(S.T.n:Int)-cH (λi=>S.T.f i||S.T.g i) S.T.n=((cy S.T:Nat):Int):=by unfold cy;omega
 have m:cy S.T<=S.T.n:=Nat.sub_le _ _;rw[d,bl (n:=2*(S.T.aD:Int)) I I];refine⟨_,rfl,_,b,Ll _ _ b _ _,?_,Ext.trans a c⟩;rw[bl (n:=((cy S.T:Nat):Int)-2*(S.T.aD:Int)) I I,bl I I];unfold j2
 congr 1
 omega
end
def lf(c:Prop)(S aP:db)(pages:O Nat)(L:O aY)(bc:O Nat)(bH:O aY)(v:Y)(w':J):Prop:=
 (v=.int .i64 0/\c/\e_ w' aP pages L pages L/\aP.failed=false/\aP.gen=S.gen+1/\aP.u.clock=S.now/\aP.u.dI=S.u.dI+1/\aP.pending=0)\/
 (v=.int .i64 3/\¬S.T.C.D.quiet/\e_ w' aP bc bH bc bH/\aP.failed=true/\aP.u=S.u/\aP.gen=S.gen/\(∀j,S.T.g j=true->aP.V j=S.V j)/\((∀j,S.T.g j=true->aP.T.C.D.eS j=[])\/(c/\Fg aP S.gen S.T.g pages L S.now (S.u.dI+1))))
theorem AU.x{c:Prop}{S:db}{pages bc:O Nat}{bH:O aY}(h:AU S pages L bc bH w v w')(hc:c):∃aP,fR 100 S aP w w'/\aP.now=S.now/\lf c S aP pages L bc bH v w':=by
 obtain⟨aP,h1,a,b⟩:=h;refine⟨aP,h1,a,?_⟩;obtain⟨a1,a2,a3⟩|⟨a1,a2,a3,a4,a5,ee,eR,eJ⟩:=b
 .exact .inl ⟨a1,hc,a2,a3⟩
 .exact .inr ⟨a1,a2,a3,a4,a5,ee,eR,.inr ⟨hc,eJ⟩⟩
theorem lf.val{c:Prop}{S aP:db}{pages bc:O Nat}{bH:O aY}(h:lf c S aP pages L bc bH v w'):∃n:Int,v=n:=by
 rcases h with ⟨a,_⟩|⟨a,_⟩<;>exact⟨_,a⟩
def mf(S aP:db)(pages:O Nat)(L:O aY)(bc:O Nat)(bH:O aY)(v:Y)(w':J):Prop:=
 (v=.int .i64 0/\S.pending+1<S.l.batch/\e_ w' aP pages L bc bH/\aP.failed=false/\aP.gen=S.gen/\aP.u=S.u/\aP.pending=S.pending+1/\aP.first=(if S.pending=0 then S.now else S.first)/\∀j,S.T.g j=true->aP.V j=S.V j)\/
 lf (S.l.batch<=S.pending+1) S aP pages L bc bH v w'
section
variable {w w' w1:J}{T:aN}{S aP k1:db}{pages bc:O Nat}{L bH:O aY}
theorem Lm(b:kK w S bc bH)(t:S.failed=false)(ok:g0 S.T pages L)(bu:pages.Nodup)(f:∀no,S.T.f no=true↔no∈pages\/no<2\/no=S.u.map)(two:∀x∈pages,2<=x/\x≠S.u.map)(kv:∀p∈L,cP p.1/\p.2.length<=24)
 (X:¬S.T.C.D.ro/\S.T.C.D.eS=(λ_=> [])/\1<=cy S.T) (Y:(S.keys:Int)+d=L.length) (av:S.pending<1000) (Z:L.length<4096) (ax:S.keys<100000) (ab:S.T.C.D.aZ<=800000000) (ac:S.gen<=1000000000) (ae:S.T.C.D.quiet):
 aI aj 68 #[.pointer (some S.st),d] w (λv w'=>∃aP,fR 100 S aP w w'/\aP.now=S.now/\mf S aP pages L bc bH v w'):=by
 refine okF (ad.wo (some S.st) d) ay.wo func68 ?_;(delta ad.wo aE r1 st ai af c0 aF b5;dsimp only);have N:=b.num;have az:S.T.M S.st:=.inr (.inr (.inr (.inl b.es)));obtain⟨ao,ag,g,y,z⟩:=b.set (i:=17) (x:=L.length) (by decide);refine⟨_,rfl,_,b.v.cell,_,rfl,ao,ag,aH ?_⟩;rw[aw,cT,Y,bl (n:=(L.length:Int)) I I];generalize aA:w.setCell ⟨S.st,17,none⟩ L.length=ah at g y z⊢;obtain⟨m,s⟩:=U6 (if S.pending=0 then S.now else S.first)
 refine jQ (λk=>Var k S.st (jJ S.T.bE S.T.C.D.d S.T.C.c S.T.sb S.l S.u S.gen S.now m S.pending L.length S.failed) 146/\cm k S.T/\aa (λq=>q=S.st) w k) (λaB O=>?_) ?_
 .refine⟨_,rfl,_,g.cell,λA=>?_,λA=>O _ ⟨?_,y,z⟩⟩
  .have h0:S.pending=0:=by
    have:(S.pending:Int)=0:=by simpa using A
    omega
   obtain⟨B,E⟩:=dT g (i:=15) (by simp[db.cells,jJ]);have ak:=ei g (i:=15) (.int .u64 (S.now:Int));have P:=dz ah S.st 15 (.int .u64 (S.now:Int));refine⟨_,rfl,_,g.cell,_,rfl,B,E,aH (O _ ⟨?_,?_,?_⟩)⟩
   .rw[aw,cT,s,if_pos h0];exact ak
   .rw[aw,cT];exact y.uj b.es P
   .rw[aw,cT];exact z.trans P
  .have h0:¬S.pending=0:=by
    have:¬(S.pending:Int)=0:=by simpa using A
    omega
   rw[s,if_neg h0];exact g
 rintro k ⟨F,al,am⟩;obtain⟨B,E⟩:=dT F (i:=16) (by simp[jJ]);have Q:=ei F (i:=16) (.int .i64 ((S.pending+1:Nat):Int));have G:=dz k S.st 16 (.int .i64 ((S.pending+1:Nat):Int));have an:IntKind.wrap .i64 ((S.pending:Int)+1)=((S.pending+1:Nat):Int):=by rw[bl I I];omega
 refine⟨_,rfl,_,F.cell,_,rfl,B,E,aH ?_⟩;rw[aw,cT,an];have R:=al.uj b.es G;generalize aC:k.setCell ⟨S.st,16,none⟩ (.int .i64 ((S.pending+1:Nat):Int))=o at Q G R⊢;have H:Ext o o.drew:=cc _;have J:=Q.ext H;have ap:=R.ext H;have aq:aa (λq=>q=S.st) w o.drew:=cn (am.trans G) H λq _ K=>K.elim;obtain⟨h5,a⟩:∃h5:db,h5={S with first:=m,pending:=S.pending+1,keys:=L.length}:=⟨_,rfl⟩;have ar:m<=S.now:=by rw[s];split<;>omega
 have U:e_ o.drew h5 pages L bc bH:=by
  rw[a];exact⟨⟨J,ap,b.es,b.lM,b.gen,⟨N.1,ar,N.2.2⟩,b.cj⟩,ok,bu,f,two,kv,rfl,by show S.pending+1<=1000;omega,λ_=>X,λhf=>by have hf:S.failed=true:=hf;rw[t]at hf;cases hf⟩
 have V:fR 0 S h5 w o.drew:=by
  rw[a];exact⟨rfl,rfl,rfl,rfl,a_ _,λh=>h,aq.mono λq _ e=>by rw[e];exact b.Fe,λq K=>.inl K,rfl,rfl,rfl⟩
 refine aH ⟨_,rfl,id,_,J.cell,_,rfl,id,_,by rw[aw,aw];exact J.cell,λr=>?_,λr=>?_⟩
 .have r:((S.pending+1:Nat):Int)>=(S.l.batch:Int):=bB r
  have W:=Fh U (a▸t) Z (a▸ab) (a▸ac) (a▸ae);rw[show h5.st=S.st by rw[a]]at W;refine W.use ?_;intro v aD au;obtain⟨aP,r1,bA,aJ⟩:=au.x (c:=S.l.batch<=S.pending+1) I;obtain⟨n,rfl⟩:=aJ.val;refine⟨n,rfl,aP,(V.trans r1).mono I,by rw[bA,a],.inr ?_⟩;rw[a]at aJ;exact aJ
 .have r:¬((S.pending+1:Nat):Int)>=(S.l.batch:Int):=bT r
  exact⟨h5,V.mono I,by rw[a],.inl ⟨rfl,I,U,by rw[a];exact t,by rw[a],by rw[a],by rw[a],by rw[a];exact s,λj _=>by rw[a];rfl⟩⟩
theorem Ln(h:e_ w S pages L bc bH)(a:L.length<4096)(b:S.T.C.D.aZ<=800000000)(d:S.gen<=1000000000)(e:S.T.C.D.quiet):
 aI aj 28 #[.pointer (some S.st)] w (λv w'=>(S.failed=true/\v=.int .i64 8/\w=w')\/(S.failed=false/\∃aP,fR 100 S aP w w'/\aP.now=S.now/\lf True S aP pages L bc bH v w')):=by
 refine okF (ad.v_ (some S.st)) ay.v_ func28 ?_;(delta ad.v_ af aE aW b5;dsimp only);refine⟨nofun,λ_=>⟨_,rfl,S.failed,h.v.cell,λhf=>.inl ⟨hf,rfl,rfl⟩,λhf=>(Fh h hf a b d e).use ?_⟩⟩;intro v w' g;obtain⟨aP,r1,bA,aJ⟩:=g.x (c:=True) trivial;obtain⟨n,rfl⟩:=aJ.val;exact⟨n,rfl,.inr ⟨hf,aP,r1,bA,aJ⟩⟩
end
section
variable {w w' w1:J}{T aq:aN}{S aP k1:db}{pages bc:O Nat}{L bH:O aY}{k:Nat}
def db.dk(S:db)(aq:aN):db:={S with T:=aq}
theorem kK.to(h:kK w S bc bH)(ht:cm w' aq)(a:b_ S.T aq w w' k)(f:aq.E=S.T.E)(l:aq.G=S.T.G)(o:∀no,S.T.g no=true->aq.P no=S.T.P no):
 kK w' (S.dk aq) bc bH/\fR k S (S.dk aq) w w'/\(S.dk aq).V=S.V:=by
 have r:aq.C.D.bk=S.T.C.D.bk:=congrArg (λp=>p.1.1) a.bk;have s:aq.C.D.bN.getD 3 0=S.T.C.D.bN.getD 3 0:=congrArg Prod.snd a.bk;have i:(S.dk aq).V=S.V:=by
  funext j;show aq.C.D.bk.getD j []=S.T.C.D.bk.getD j [];rw[r]
 refine⟨⟨?_,ht,by show aq.E S.st;rw[f];exact h.es,?_,a.gen.trans h.gen,h.num,λj b=>?_⟩,⟨rfl,a.d,a.n,rfl,a.aZ,λe=>⟨λm=>a.calm m (e.1 _),s.trans e.2⟩,a.ab.mono λq _ e=>h.oX e,a.dr,f,l,congrArg (λp=>p.1.2.2.2.2) a.bk⟩,i⟩
 .show Var w' S.st (jJ aq.bE aq.C.D.d aq.C.c aq.sb _ _ _ _ _ _ _ _) _
  rw[a.bE,a.d,a.c,a.sb];exact h.v.ab a.ab (h.t.kg h.es)
 .show hD _ aq.n _ _ aq.g aq.P _ _
  rw[i,a.n,a.g];exact h.lM.agree (λ_ _=>rfl) λx hx=>(o x ((h.lM.g x).2 (.inl hx))).symm
 .have b:aq.g j=true:=b
  rw[a.g]at b;show aq.C.D.cj j=true;rw[a.cj.1];exact h.cj j b
theorem b_.ro(h:b_ T aq w w' k):aq.C.D.ro↔T.C.D.ro:=by unfold aS.ro;rw[h.cj.1]
theorem e_.to(h:e_ w S pages L bc bH)(ht:cm w' aq)(a:b_ S.T aq w w' k)(c:aq.E=S.T.E)(d:aq.G=S.T.G)(b:jZ S.T aq):
 e_ w' (S.dk aq) pages L bc bH/\fR k S (S.dk aq) w w'/\(S.dk aq).V=S.V:=by
 obtain⟨h1,i,j⟩:=h.tokK.to ht a c d λno l=>(b.eQ no (by rw[l,Bool.or_true])).1;have m:cy aq=cy S.T:=by unfold cy;rw[a.n,b.f,a.g]
 refine⟨⟨h1,b.ok h.ok λx hx=>(h.f x).2 (.inl hx),h.bu,λno=>by show aq.f no=true↔_;rw[b.f];exact h.f no,h.two,h.kv,h.keys,h.sh,λhf=>?_,λhf=>?_⟩,i,j⟩
 .obtain⟨a1,a2,a3⟩:=h.live hf
  exact⟨λe=>a1 (a.ro.1 e),a.cj.2.trans a2,by show 1<=cy aq;rw[m];exact a3⟩
 .obtain⟨a1,a2⟩:=h.dead hf
  exact⟨a.ro.2 a1,a2⟩
end
theorem AV(k v:Key):∀L:O aY,(h3 L k v).length=(e7 L k).length+1
 | []=>rfl
 |p::L=>by
  have c:=AV k v L
  unfold h3 e7 at c⊢
  simp only[b6,eE,uM]at c⊢
  by_cases h1:b9 p.1 k
  .have a:¬b9 k p.1:=l3 h1
   have b:p.1≠k:=λe=>by rw[e]at h1;exact l3 h1 h1
   rw[if_pos (dm h1),if_neg (by simpa using a),if_pos (dm b)]
   simp only[eE];omega
  .by_cases a:b9 k p.1
   .have b:p.1≠k:=λe=>h1 (by rw[e]at a;exact absurd a (λh=>l3 h h))
    rw[if_neg (by simpa using h1),if_pos (dm a),if_pos (dm b)]
    simp only[eE];omega
   .have b:p.1=k:=by
     rcases zi p.1 k with h|h|h
     .exact absurd h h1
     .exact h
     .exact absurd h a
    rw[if_neg (by simpa using h1),if_neg (by simpa using a),if_neg (by simpa using b)];omega
theorem AW{k:Key}:∀ {L:O aY},kA L->L.length=(e7 L k).length+(if fP L k=none then 0 else 1)
 | [],_=>rfl
 |p::L,h=>by
  have h0:=mq.1 h
  have f:=AW (k:=k) h0.2
  by_cases e:p.1=k
  .have h1:∀q∈L,q.1≠k:=λq c d=>by
    have:=h0.1 q c
    rw[e,d]at this
    exact l3 this this
   have a:e7 (p::L) k=L:=by
    have:e7 (p::L) k=e7 L k:=by unfold e7;rw[uM];simp[e]
    rw[this,tK h1]
   have b:fP (p::L) k≠none:=by unfold fP;simp[e]
   rw[a,if_neg b];rfl
  .have a:(e7 (p::L) k).length=(e7 L k).length+1:=by unfold e7;rw[uM];simp[e]
   have b:fP (p::L) k=fP L k:=by unfold fP;simp[e]
   rw[a,b,eE];omega
section
variable {w w' w1:J}{T aq:aN}{S aP cY:db}{pages bc:O Nat}{L bH:O aY}{k:Nat}
structure qh(S cY:db):Prop where
 u:cY.u=S.u
 gen:cY.gen=S.gen
 now:cY.now=S.now
 first:cY.first=S.first
 pending:cY.pending=S.pending
 l:cY.l=S.l
 g:cY.T.g=S.T.g
 V:cY.V=S.V
theorem lf.back{c:Prop}(h:lf c cY aP pages L bc bH v w')(e:qh S cY)(d:fR k S cY w w1):lf c S aP pages L bc bH v w':=by
 unfold lf at h⊢;rw[e.u,e.gen,e.now,e.g,e.V]at h;exact h.imp id λ⟨a,b,c⟩=>⟨a,λf=>b (d.q f),c⟩
theorem mf.back(h:mf cY aP pages L bc bH v w')(e:qh S cY)(a:fR k S cY w w1):mf S aP pages L bc bH v w':=by
 unfold mf at h⊢;have:=λh=>lf.back (pages:=pages) (L:=L) (bc:=bc) (bH:=bH) (c:=S.l.batch<=S.pending+1) (v:=v) (aP:=aP) (w':=w') h e a;rw[e.pending,e.l,e.gen,e.u,e.now,e.first,e.g,e.V]at h;exact h.imp id this
theorem e_.Fk{cA:aN}{d_:O aY}(h:e_ w S pages L bc bH)(hf:S.failed=false)(o:cm w' cA)(c:b_ S.T cA w w' k)(r:cA.E=S.T.E)(s:cA.G=S.T.G)(t:Ex S.T cA pages d_)(Z:2*S.T.aD+5<=cy S.T)(y:∀p∈d_,cP p.1/\p.2.length<=24)(hd:(S.keys:Int)+d=d_.length)(z:d_.length<4096)(aa:S.keys<4096)(A:S.pending<1000)(ab:S.T.C.D.aZ+k<=800000000)(B:S.gen<=1000000000)(F:S.T.C.D.quiet):
 aI aj 68 #[.pointer (some S.st),d] w' (λv l=>(∃n:Int,v=n)/\∃aP fS,fR (k+100) S aP w l/\aP.now=S.now/\mf S aP fS d_ bc bH v l):=by
 obtain⟨⟨fS,ac,H,cO,I,J⟩,K⟩:=t;obtain⟨M,m,N⟩:=h.tokK.to o c r s λno P=>(K no P).1;have Q:qh S (S.dk cA):=⟨rfl,rfl,rfl,rfl,rfl,rfl,c.g,N⟩;obtain⟨R,U,_⟩:=h.live hf;have V:∀j,j<2\/j=S.u.map->j∉pages:=λj i W=>by
  have:=h.two j W;obtain i|i:=i
  .omega
  .exact this.2 i
 refine(Lm (d:=d) M hf H cO (λno=>(J no).trans ?_) (λx hx=>?_) y ⟨λe=>R (c.ro.1 e),c.cj.2.trans U,by show 1<=cy cA;omega⟩ hd A z (by show S.keys<_;omega) (by have:=c.aZ;show cA.C.D.aZ<=_;omega) B (m.q F)).mono ?_
 .rw[h.f no]
  constructor
  .rintro(h1|⟨h1|h1,b⟩)
   .exact .inl h1
   .exact absurd h1 b
   .exact .inr h1
  .rintro(h1|h1)
   .exact .inl h1
   .exact .inr ⟨.inr h1,V no h1⟩
 .rcases I x hx with h1|h1
  .exact h.two x h1
  .have b:S.T.f x=false:=by cases ad:S.T.f x<;>simp_all
   refine⟨Nat.le_of_not_lt λX=>?_,λY=>?_⟩
   .rw[(h.f x).2 (.inr (.inl X))]at b;cases b
   .rw[(h.f x).2 (.inr (.inr Y))]at b;cases b
 .rintro v l ⟨aP,r1,bA,aJ⟩
  refine⟨?_,aP,fS,m.trans r1,bA,aJ.back Q m⟩;obtain⟨a,_⟩|a:=aJ
  .exact⟨0,a⟩
  .exact a.val
theorem q7(w:J)(s:U):aI aj 63 #[s] w (λv w'=>v=.bool (decide (1<=s.len/\s.len<=24))/\w=w'):=by
 refine okF (ad.q7 s) ay.q7 func63 ?_;refine⟨?_,rfl⟩
 congr 1
 rw[ek,dM,cq,cq,cq];omega
theorem Lo{tk fK:U}{key val:Key}(h:e_ w S pages L bc bH)(aO:L.length<4000)(z:S.pending<1000)(aQ:S.T.C.D.aZ<=700000000)(Y:S.gen<=1000000000)(A:S.T.C.D.quiet)
 (B:Src 1 w tk (aC key)) (r:∀q,ar tk q->q<w/\¬S.T.M q) (H:Src 1 w fK (aC val)) (J:∀q,ar fK q->q<w/\¬S.T.M q):
 aI aj 27 #[.pointer (some S.st),tk,fK] w (λv w'=>(v=.int .i64 1/\¬(cP key/\val.length<=24)/\w=w')\/((cP key/\val.length<=24)/\
  ((S.failed=true/\v=.int .i64 8/\w=w')\/(S.failed=false/\∃aP,fR 300 S aP w w'/\aP.now=S.now/\
    ((v=.int .i64 2/\j2 S=0/\e_ w' S pages L bc bH/\aP=S)\/(j2 S≠0/\∃fS,mf S aP fS (h3 L key val) bc bH v w')))))):=by
 have Z:tk.len=key.length:=by have:=B.len;rw[dO]at this;omega
 have aR:fK.len=val.length:=by have:=H.len;rw[dO]at this;omega
 have aS:=h.t.s.bz;refine okF (ad.v8 (some S.st) tk fK) ay.v8 func27 ?_;(delta ad.v8 af bR aE aW b5 vv;dsimp only);refine cx (λb w'=>(b=false↔cP key)/\w=w') (λq c=>⟨nofun,λ_=>(q7 w tk).use ?_⟩) ?_
 .rintro _ _ ⟨rfl,rfl⟩
  refine⟨_,rfl,c _ _ ⟨?_,rfl⟩⟩;unfold cP;rw[Z,mv,cq]
 rintro b _ ⟨u,rfl⟩;refine⟨λh1=>.inl ⟨rfl,λhg=>?_,rfl⟩,λh1=>?_⟩
 .rcases Bool.or_eq_true_iff.1 h1 with a|a
  .rw[u.2 hg.1]at a;cases a
  .have:=bB a;have:=hg.2;omega
 have hg:cP key/\val.length<=24:=by
  have a:=hV.1 h1;have K:=bT a.2;exact⟨u.1 a.1,I⟩
 refine⟨_,rfl,S.failed,h.v.cell,λhf=>.inr ⟨hg,.inl ⟨hf,rfl,rfl⟩⟩,λhf=>(Fj h).use ?_⟩;rintro _ aT ⟨rfl,j⟩;have m:=h.ext j;obtain⟨aa,ac,_⟩:=h.live hf;refine⟨_,rfl,λE=>.inr ⟨hg,.inr ⟨hf,S,(fR.ext S j).mono I,rfl,.inl ⟨rfl,?_,m,rfl⟩⟩⟩,λE=>?_⟩
 .have:((j2 S:Nat):Int)=0:=by simpa using E
  omega
 have N:j2 S≠0:=by
  have:¬((j2 S:Nat):Int)=0:=by simpa using E
  omega
 refine⟨_,rfl,_,m.v.cell,(Ew m.t m.ok I (B.ext j) λq c=>⟨U5 ((r q c).1) j.size,(r q c).2⟩).use ?_⟩;rintro v O ⟨g,Q,l,ae,y⟩;obtain⟨o,F,ah⟩:=m.to Q l rfl rfl (.bK ae);have R:fR 30 S (S.dk (S.T.bK g S.T.P)) w O:=((fR.ext S j).trans F).mono I;have ai:qh S (S.dk (S.T.bK g S.T.P)):=⟨rfl,rfl,rfl,rfl,rfl,rfl,rfl,ah⟩;have aU:(S.dk (S.T.bK g S.T.P)).T.C.D.eS=λ_=> []:=l.cj.2.trans ac;have aV:g.D.aZ<=S.T.C.D.aZ+30:=l.aZ;have ak:∃ (t:U) (e:ag),v=.tuple #[t,e,U8]/\(e=true↔fP L key≠none):=by
  obtain⟨rfl,i⟩|⟨t,x,rfl,_,hs,_⟩|⟨_,_,G⟩:=y
  .exact⟨⟨none,0,0⟩,false,rfl,nofun,λh=>absurd (i hg.1) h⟩
  .exact⟨t,true,rfl,λ_=>by rw[hs];simp,λ_=>rfl⟩
  .exact absurd (A.1 30) G
 clear y;obtain⟨t,e,rfl,he⟩:=ak;have aX:=j.size;have aY:=l.ab.size;have V:∀s:U,(∀q,ar s q->q<w/\¬S.T.M q)->∀q,ar s q->q<O/\¬(S.T.bK g S.T.P).M q:=λs hs q c=>⟨U4 ((hs q c).1),λal=>by
  rcases l.dr q al with a|a
  .exact(hs q c).2 a
  .have:=(hs q c).1;omega⟩
 have am:=(B.ext j).ab l.ab λq c i=>(r q c).2 (aN.hL i);have an:=(H.ext j).ab l.ab λq c i=>(J q c).2 (aN.hL i);have ao:¬(S.T.bK g S.T.P).C.D.ro:=λe=>aa (l.ro.1 e);refine⟨t,e,0,rfl,nofun,λ_=>⟨_,rfl,_,o.v.cell,?_⟩⟩;refine(J_ Q ao o.ok I o.bu (λx hx=>(o.f x).2 (.inl hx)) (by show g.D.aZ<=_;omega) am (V tk r) an (V fK J)).use ?_;rintro v a0 (⟨_,ap,_⟩|⟨_,_,cA,aq,au,av,ax,y⟩)
 .exact absurd hg ap
 have az:cy (S.T.bK g S.T.P)=cy S.T:=rfl;have aA:(S.T.bK g S.T.P).aD=S.T.aD:=rfl;have aB:2*S.T.aD+5<=cy S.T:=by unfold j2 at N;omega
 obtain⟨_,aF,_⟩|⟨rfl,_,⟨fS,aG,aH,cO,aK,aL⟩,W⟩|⟨rfl,G,a1,a2,a3,W⟩:=y
 .rw[az,aA]at aF;omega
 .have hlen:(S.keys:Int)+(if e=true then 0 else 1)=(h3 L key val).length:=by
   have h1:=AV key val L;have a:=AW (k:=key) h.ok.rising;have K:=h.keys;by_cases i:fP L key=none
   .have:¬e=true:=λh=>he.1 h i
    rw[if_pos i]at a;rw[if_neg this];omega
   .rw[if_neg i]at a
    rw[if_pos (he.2 i)];omega
  have K:=h.keys;have aM:(h3 L key val).length<4096:=by split at hlen<;>omega
  have X:=λd hd=>o.Fk (d:=d) hf aq au av ax ⟨⟨fS,aG,aH,cO,aK,aL⟩,W⟩ aB (λp z=>by
   rcases Ht.1 z with rfl|⟨h1,_⟩
   .exact hg
   .exact h.kv p h1) hd aM (by show S.keys<_;omega) z (by show g.D.aZ+100<=_;omega) Y (F.q A)
  refine⟨0,rfl,nofun,λ_=>⟨λht=>(X 0 (by rw[←hlen,if_pos ht];rfl)).use ?_,λht=>(X 1 (by rw[←hlen,if_neg (by rw[ht];decide)];rfl)).use ?_⟩⟩
  all_goals
   rintro v w' ⟨⟨n,rfl⟩,aP,fS,r1,bA,aJ⟩;exact⟨n,rfl,.inr ⟨hg,.inr ⟨hf,aP,(R.trans r1).mono I,bA,.inr ⟨N,fS,aJ.back ai R⟩⟩⟩⟩
 .exact absurd ((F.q A).1 100) G
end
section
variable {w w' w1:J}{T aq:aN}{S aP cY:db}{pages bc:O Nat}{L bH:O aY}{k:Nat}
theorem Lp{tk:U}{key:Key}(h:e_ w S pages L bc bH)(aF:L.length<4000)(A:S.pending<1000)(aG:S.T.C.D.aZ<=700000000)(W:S.gen<=1000000000)(B:S.T.C.D.quiet)
 (E:Src 1 w tk (aC key)) (m:∀q,ar tk q->q<w/\¬S.T.M q):
 aI aj 23 #[.pointer (some S.st),tk] w (λv w'=>(v=.tuple #[false,(1:Int)]/\¬cP key/\w=w')\/(cP key/\
  ((S.failed=true/\v=.tuple #[false,(8:Int)]/\w=w')\/(S.failed=false/\∃aP,fR 300 S aP w w'/\aP.now=S.now/\
    ((v=.tuple #[false,U8]/\fP L key=none/\e_ w' aP pages L bc bH/\qh S aP/\aP.failed=false)\/
     (v=.tuple #[false,(2:Int)]/\fP L key≠none/\j2 S=0/\e_ w' aP pages L bc bH/\qh S aP/\aP.failed=false)\/
     (∃n:Int,v=.tuple #[.bool (n==0),n]/\fP L key≠none/\j2 S≠0/\∃fS,mf S aP fS (e7 L key) bc bH n w')\/
     (v=.tuple #[false,(3:Int)]/\∀c pages L,lf c S aP pages L bc bH (3:Int) w')))))):=by
 have X:tk.len=key.length:=by have:=E.len;rw[dO]at this;omega
 have aH:=h.t.s.bz;refine okF (ad.vZ (some S.st) tk) ay.vZ func23 ?_;(delta ad.vZ af bR aE aW vv b5 vw;dsimp only);refine cx (λb w'=>(b=false↔cP key)/\w=w') (λq i=>⟨nofun,λ_=>(q7 w tk).use ?_⟩) ?_
 .rintro _ _ ⟨rfl,rfl⟩
  refine⟨_,rfl,i _ _ ⟨?_,rfl⟩⟩;unfold cP;rw[X,mv,cq]
 rintro b _ ⟨o,rfl⟩;refine⟨λh1=>.inl ⟨rfl,λhg=>?_,rfl⟩,λh1=>?_⟩
 .rw[o.2 hg]at h1;cases h1
 have hg:cP key:=o.1 h1;refine⟨_,rfl,S.failed,h.v.cell,λhf=>.inr ⟨hg,.inl ⟨hf,rfl,rfl⟩⟩,λhf=>?_⟩;obtain⟨Y,Z,_⟩:=h.live hf;refine⟨_,rfl,_,h.v.cell,(Ew h.t h.ok I E m).use ?_⟩;rintro v aK ⟨a,aa,j,ac,r⟩;obtain⟨F,u,ae⟩:=h.to aa j rfl rfl (.bK ac);have G:qh S (S.dk (S.T.bK a S.T.P)):=⟨rfl,rfl,rfl,rfl,rfl,rfl,rfl,ae⟩;have aL:(S.dk (S.T.bK a S.T.P)).T.C.D.eS=λ_=> []:=j.cj.2.trans Z;have aM:a.D.aZ<=S.T.C.D.aZ+30:=j.aZ;have ah:∃ (t:U) (e:ag),v=.tuple #[t,e,U8]/\(e=true↔fP L key≠none):=by
  obtain⟨rfl,g⟩|⟨t,x,rfl,_,hs,_⟩|⟨_,_,H⟩:=r
  .exact⟨⟨none,0,0⟩,false,rfl,nofun,λh=>absurd (g hg) h⟩
  .exact⟨t,true,rfl,λ_=>by rw[hs];simp,λ_=>rfl⟩
  .exact absurd (B.1 30) H
 clear r;obtain⟨t,e,rfl,he⟩:=ah;refine⟨t,e,0,rfl,nofun,λ_=>⟨λJ=>?_,λJ=>(Fj F).use ?_⟩⟩
 .have g:fP L key=none:=by
   cases ai:fP L key with
   |none=>rfl
   |some x=>
    have:e=true:=he.2 (by rw[ai];simp);rw[this]at J;cases J
  exact .inr ⟨hg,.inr ⟨hf,_,u.mono I,rfl,.inl ⟨rfl,g,F,G,hf⟩⟩⟩
 have g:fP L key≠none:=he.1 (by cases e<;>simp_all);rintro _ R ⟨rfl,y⟩;have l:=F.ext y;have K:fR 30 S (S.dk (S.T.bK a S.T.P)) w R:=(u.trans (fR.ext _ y)).mono I;have ak:j2 (S.dk (S.T.bK a S.T.P))=j2 S:=rfl;rw[ak];refine⟨_,rfl,λN=>.inr ⟨hg,.inr ⟨hf,_,K.mono I,rfl,.inr (.inl ⟨rfl,g,?_,l,G,hf⟩)⟩⟩,λN=>?_⟩
 .have:((j2 S:Nat):Int)=0:=by simpa using N
  omega
 have V:j2 S≠0:=by
  have:¬((j2 S:Nat):Int)=0:=by simpa using N
  omega
 have aO:=j.ab.size;have aQ:=y.size;have al:∀q,ar tk q->q<R/\¬(S.T.bK a S.T.P).M q:=λq i=>⟨U4 ((m q i).1),λam=>by
  rcases j.dr q am with z|z
  .exact(m q i).2 z
  .have:=(m q i).1;omega⟩
 have an:=(E.ab j.ab λq i g=>(m q i).2 (aN.hL g)).ext y;have ao:¬(S.T.bK a S.T.P).C.D.ro:=λe=>Y (j.ro.1 e);refine⟨_,rfl,_,l.v.cell,?_⟩;refine(Ke l.t ao l.ok I l.bu (λx hx=>(l.f x).2 (.inl hx)) (by show a.D.aZ<=_;omega) an al).use ?_;rintro v aR ⟨cA,ap,aq,au,av,r⟩;have ax:cy (S.T.bK a S.T.P)=cy S.T:=rfl;have az:(S.T.bK a S.T.P).aD=S.T.aD:=rfl;have aA:2*S.T.aD+5<=cy S.T:=by unfold j2 at V;omega
 obtain⟨_,O,_⟩|⟨_,_,O,_⟩|⟨_,_,_,Q,_⟩|⟨rfl,_,_,_,aB⟩|⟨rfl,_,H,aS⟩:=r
 .exact absurd hg O
 .exact absurd O g
 .have Q:cy (S.T.bK a S.T.P)<2*(S.T.bK a S.T.P).aD+3:=Q
  rw[ax,az]at Q;omega
 .have z:=AW (k:=key) h.ok.rising
  rw[if_neg g]at z;have aT:=h.keys;refine⟨true,0,rfl,nofun,λ_=>(l.Fk (d:= -1) hf ap aq au av aB aA (λp A=>h.kv p (j4.1 A).1) (by show(S.keys:Int)+ -1=_;omega) I (by show S.keys<_;omega) A (by show a.D.aZ+100<=_;omega) W (u.q B)).use ?_⟩;rintro v w' ⟨⟨n,rfl⟩,aP,fS,r1,bA,aJ⟩;exact⟨n,rfl,.inr ⟨hg,.inr ⟨hf,aP,(K.trans r1).mono I,bA,.inr (.inr (.inl ⟨n,rfl,g,V,fS,aJ.back G K⟩))⟩⟩⟩
 .exact absurd ((u.q B).1 100) H
end
theorem ints_at{s:U}{l:O Nat}(h:Src 1 w s (dv l))(hi:i<l.length):∃A:ax,s.a=some A/\((0:Int)<=(i:Int)/\(i:Int)<(s.len:Int))/\w.cell? (A.add (Int.toNat (i:Int)*1))=some (.int .i64 ((l[i]:Nat):Int)):=by
 obtain⟨A,ak,b,hc⟩:=h.at (i:=i) (v:=.int .i64 ((l[i]:Nat):Int)) (by simp[dv,hi]);exact⟨A,ak,b,hc⟩
theorem Lq{t u:U}{l m:O Nat}(d:Src 1 w t (dv l))(f:Src 1 w u (dv m))(L:l.length<=100000):aI aj 141 #[t,u] w (λv w'=>v=.bool (decide (l=m))/\Ext w w'):=by
 refine okF (ad.vN t u) ay.vN func141 ?_;(delta ad.vN af cW aQ aO r1 aV ai;dsimp only);have p:=d.len;have q:=f.len;rw[mK]at p q;refine⟨λa=>⟨?_,.refl _ _⟩,λr=>?_⟩
 .simp only[bne_iff_ne]at a
  have:l≠m:=λe=>a (by subst e;omega);rw[ib this]
 simp only[bne_eq_false_iff_eq]at r;have s:l.length=m.length:=I
 refine⟨λn w'=>∃i:Nat,n=i/\i<=l.length/\Ext w w'/\∀ (j:Nat) (h1:j<l.length) (b:j<m.length),j<i->l[j]=m[j],λn _=>((l.length:Int)-n).toNat,⟨0,rfl,cw _,.refl _ _,λj _ _ h=>I⟩,?_⟩;rintro _ x ⟨i,rfl,hi,g,k⟩;refine⟨λaB=>aH ?_,λy=>⟨?_,g⟩⟩
 .have aB:i<l.length:=U4 (bB aB)
  have z:i<m.length:=I
  have c:Ext w x.drew:=aa.drew g;obtain⟨A,ak,C,D⟩:=ints_at (d.ext c) aB;obtain⟨B,E,F,G⟩:=ints_at (f.ext c) z;have H:IntKind.wrap .i64 ((i:Int)+1)=((i+1:Nat):Int):=by rw[bl I I];rfl
  have K:((l.length:Int)-((i+1:Nat):Int)).toNat<((l.length:Int)-(i:Int)).toNat:=I
  rw[H];refine⟨A,ak,C,id,_,D,B,E,F,id,_,G,λa=>⟨?_,c⟩,λhe=>⟨⟨i+1,rfl,aB,c,λj h1 b M=>?_⟩,K⟩⟩
  .have a:l[i]≠m[i]:=λe=>by rw[e]at a;simp at a
   have:l≠m:=λe=>a (by subst e;rfl);rw[ib this]
  .rcases dA j i with o|o
   .exact k j h1 b o
   .obtain rfl:j=i:=I
    have he:((l[j]:Nat):Int)=((m[j]:Nat):Int):=by simpa using he
    omega
 .have hi:i=l.length:=U4 (bT y)
  rw[dm (List.ext_getElem s λj h1 b=>k j h1 b I)]
theorem Fl:∀ {a b:O Nat},dv a=dv b->a=b
 | [],[],_=>rfl
 | [],_::_,h=>by cases h
 |_::_,[],h=>by cases h
 |x::a,y::b,h=>by
  have h1:=List.cons.inj h
  have c:Value.int .i64 (x:Int)=Value.int .i64 (y:Int):=h1.1
  injection c with _ c
  rw[Fl (a:=a) (b:=b) h1.2,show x=y from I]
def AX(f:Nat->ag)(n:Nat):O Nat:=(List.range n).filter f
theorem AY(f:Nat->ag):∀n,mO f n=dv (AX f n)
 |0=>rfl
 |n+1=>by
  have a:=AY f n
  unfold mO dv AX at a⊢
  rw[sF,lR,eU,←a]
  show(ff f n++(if f n then [(n:Int)] else [])).map _=_
  rw[eU]
  cases hf:f n<;>simp[hf]
section
variable {w w' w1:J}{S aP cY:db}{pages bc:O Nat}{L bH:O aY}{k:Nat}
theorem Lr{fM:Nat->an aA}{m:Int}(R:Var w S.st S.cells 146)(ht:cm w S.T)(es:S.T.E S.st)(ax:g0 (S.T.bK S.T.C fM) pages L)(az:∀x∈pages,∀bu,fM x=some bu->S.T.P x=some bu\/k8 S.T x)(cO:pages.Nodup)
 (hf:∀no,S.T.f no=true↔no∈pages\/no<2\/no=S.u.map) (two:∀x∈pages,2<=x/\x≠S.u.map) (a9:2<=S.u.map/\S.u.map<S.T.n) (a_:L.length<=4000) (aB:pages.length<=4000) (ba:S.T.C.D.aZ<=900000000):
 aI aj 72 #[.pointer (some ⟨S.st,0,none⟩),.int .i64 m] w (λv w'=>∃aq,cm w' aq/\eI S.T aq w w' (2*pages.length)/\aq.G=S.T.G/\
  ((v=.int .i64 0/\m=L.length/\∀x∈pages,S.T.P x=fM x)\/(∃e:Int,v=.int .i64 e/\e≠0/\(¬S.T.C.D.calm (2*pages.length)\/(∃x∈pages,k8 S.T x)\/m≠L.length)))):=by
 refine okF (ad.wu (some ⟨S.st,0,none⟩) m) ay.wu func72 ?_;(delta ad.wu aE Cm af r1 ap ae e6 bU bR;dsimp only);have X:∀x∈pages,S.T.f x=true/\x<S.T.n:=λx hx=>⟨(hf x).2 (.inl hx),Nat.lt_of_not_le λe=>by
  have:=ht.s.pf x e;rw[(hf x).2 (.inl hx)]at this;cases this⟩
 refine⟨_,rfl,_,R.cell,(Kn ht ax X az cO I I I).use ?_⟩;rintro v k ⟨aq,Y,g,r,aC⟩;have aD:∃ (s:U) (es:O Nat) (n e:Int),v=.tuple #[.slice s.a s.len s.cap,.int .i64 n,.int .i64 e]/\aL 1 3 k s (dv es)/\es.length<=4000/\(∀q,ar s q->S.T.N q\/w<=q)/\cm k (aq.cJ S.T.E λq=>S.T.G q\/ar s q)/\
  ((n=L.length/\e=0/\es.Perm pages/\∀x∈pages,S.T.P x=fM x)\/(e≠0/\(¬S.T.C.D.calm (2*pages.length)\/∃x∈pages,k8 S.T x))):=by
  obtain⟨s,es,rfl,z,A,_,aF,aG,aJ⟩|⟨e,rfl,aK,aM⟩:=aC
  .exact⟨s,es,_,0,rfl,z,by rw[A.length_eq];exact aB,λq c=>(aF q c).1,aJ,.inl ⟨rfl,rfl,A,aG⟩⟩
  .refine⟨bG,[],0,e,rfl,aL.none _ _ _,by simp,λq c=>(gE q c).elim,Y.grow (W:=λ_=>False) (aa.refl _ _) (λ_ h=>h.elim) (λq c=>.inl (g.E▸c)) (λq c=>.inr (.inl (by rw[r];exact c.resolve_right λh=>gE q h))) (λq c hg=>(ht.dF q c).2.2 (hg.resolve_right λh=>gE q h)),.inr ⟨aK,aM.imp And.right id⟩⟩
 obtain⟨s,es,n,e,rfl,z,bb,aN,Z,B⟩:=aD;refine⟨s,n,e,rfl,λd=>?_,λd=>?_⟩
 .have d:e=3:=by simpa using d
  refine⟨aq,Y,g,r,.inr ⟨e,rfl,I,?_⟩⟩;obtain⟨_,F,_⟩|⟨_,F⟩:=B
  .omega
  .exact F.imp id .inl
 have ac:=R.ab g.to.ab (ht.kg (by assumption));refine⟨_,rfl,_,by rw[aw,aw];exact ac.cell,aH ?_⟩;have J:Ext k (k.alloc (.cells #[.int .i64 0,.int .i64 1,.int .i64 ((S.u.map:Nat):Int)] 3)):=dc _ _;have bc:s.len=es.length:=by have:=z.1;rw[mK]at this;omega
 obtain⟨ag,ah,ao,aO,bd,aP,aQ⟩:=mL.append (c7:=72) (x:=⟨some ⟨k,0,none⟩,3,3⟩) (Src.new (T:=3) k [.int .i64 0,.int .i64 1,.int .i64 ((S.u.map:Nat):Int)] 3 rfl) (z.ext J) (xC [0,1,S.u.map]) (by show(2*(s.len+3)+1000)*8<=_;omega);have aR:aL 1 3 ah ag (dv (es++ [0,1,S.u.map])):=by
  have e:dv (es++ [0,1,S.u.map])=dv es++ [.int .i64 0,.int .i64 1,.int .i64 ((S.u.map:Nat):Int)]:=by unfold dv;rw[eU];rfl
  rw[e];exact aO
 refine⟨ag,ah,ao,(Dz aR (by simp;omega)).use ?_⟩;rintro _ H ⟨rfl,aS,t,aT,ai,aU⟩;have K:aa (ar s) k H:=cn (cn (aa.refl _ _) (J.mono λ_ _ h=>h.elim) (V:=ar s) (λq _ h=>h)|>.trans aP) aS λq aV c=>(aQ q c).resolve_right (U4 J.size);have be:=g.to.ab.size;have fq:aq.cJ S.T.E S.T.G=aq:=by rw[←g.E,←r];rfl
 have M:cm H aq:=by
  have:=Z.grow (E:=S.T.E) (G:=S.T.G) K (λq c _=>.inr (.inr c)) (λq c=>.inl c) (λq c=>.inr (.inl (.inl c))) λq c=>(ht.dF q c).2.2;rw[←fq];exact this
 have aW:eI S.T aq w H (2*pages.length):={g with to:=g.to.step (E:=aq.E) (G:=aq.G) K (λq c aV=>(aN q c).resolve_right I) (λq c=>.inl c) λq c=>.inl c};have aX:¬ar s S.st:=λc=>(Z.dF S.st (by assumption)).2.2 (.inr c);have aY:=ac.ab K aX;refine⟨rfl,cx (λb w'=>((b=true->e≠0\/n≠m)/\(b=false->e=0/\n=m))/\Ext H w') (λq c=>⟨λo=>c _ _ ⟨⟨λ_=>?_,nofun⟩,.refl _ _⟩,λo=>?_⟩) ?_⟩
 .rcases Bool.or_eq_true_iff.1 o with h1|h1
  .exact .inl (by simpa using h1)
  .exact .inr (by simpa using h1)
 .obtain⟨h1,j⟩:=hV.1 o
  have h1:e=0:=by simpa using h1
  have j:n=m:=by simpa using j
  have hu:=DP M.s;rw[g.to.sb,g.to.n,g.f]at hu;refine⟨_,rfl,_,aY.cell,hu.use ?_⟩;rintro _ bf ⟨a0,rfl,ak,al,_⟩;have a1:t.length<=100000:=by rw[ai.length_eq];simp;omega
  rw[AY]at ak;refine⟨a0,rfl,(Lq (aT.ext al).src ak.src a1).use ?_⟩;rintro _ bg ⟨rfl,a2⟩;have a3:t=AX S.T.f S.T.n:=by
   obtain⟨_,_,A,_⟩|⟨d,_⟩:=B
   rotate_left
   .exact absurd h1 d
   have am:t.Perm (pages++ [0,1,S.u.map]):=ai.trans (A.append_right _);have a4:(pages++ [0,1,S.u.map]).Nodup:=by
    refine nO.2 ⟨cO,by simp;omega,λx hx y p e=>?_⟩;have:=two x hx;subst e;simp only[cN,er,ez]at p;obtain p|p|p:=p
    .omega
    .omega
    .exact this.2 p
   have a5:t.Nodup:=am.nodup_iff.2 a4;have a6:t.Pairwise λa b=>a<b:=(aU.and a5).imp λh=>U5 h.1 h.2
   have au:=Ko (f:=S.T.f) (n:=S.T.n) a6 λx=>by
    rw[am.mem_iff,cE,hf x];simp only[cN,er,ez];constructor
    .rintro(i|i|i|i)
     .exact⟨(X x i).2,.inl i⟩
     .exact⟨I,.inr (.inl I)⟩
     .exact⟨I,.inr (.inl I)⟩
     .exact⟨I,.inr (.inr i)⟩
    .rintro⟨_,i|i|i⟩
     .exact .inl i
     .exact .inr I
     .exact .inr I
   rw[AY]at au;exact Fl au
  exact⟨_,rfl,c _ _ ⟨⟨λh=>(by rw[dm a3]at h;cases h),λ_=>⟨h1,j⟩⟩,Ext.trans al a2⟩⟩
 .rintro b bh ⟨⟨a7,a8⟩,Q⟩
  have av:=(aW.trans (eI.ext aq Q)).mono (l:=2*pages.length) I;refine⟨λo=>⟨aq,M.ext Q,av,r,.inr ⟨4,rfl,by decide,?_⟩⟩,λo=>⟨aq,M.ext Q,av,r,.inl ⟨rfl,?_⟩⟩⟩
  .obtain⟨h1,j,_⟩|⟨_,j⟩:=B
   .rcases a7 o with d|d
    .exact absurd j d
    .exact .inr (.inr (by rw[←h1];exact λe=>d e.symm))
   .exact j.imp id .inl
  .obtain⟨h1,j⟩:=a8 o
   obtain⟨d,_,_,F⟩|⟨d,_⟩:=B
   .exact⟨by rw[←j];exact d,F⟩
   .exact absurd h1 d
end
variable {w w':J}
theorem Ext.Ls(h:Go.RowKit.Below w w w'):Ext w w':=⟨h.os,h.tape,h.output,h.size,λk a _=>h.block k a⟩
theorem aL.Lt{sz:Nat}{T:TypeId}{base:Nat}{xs:O Y}(h:w.ownsRow base T sz v n xs):∃s:U,v=s/\aL sz T w s xs/\s.len=n/\∀q,ar s q->base<=q:=by
 obtain⟨h1,⟨rfl,rfl⟩|⟨g,cap,i,rfl,b,hg,c,d,e,f⟩⟩:=h
 .have:xs=[]:=kN.1 I
  subst this;exact⟨⟨none,0,0⟩,rfl,aL.none _ _ _,rfl,λq a=>(gE q a).elim⟩
 .refine⟨⟨some g,n,cap⟩,rfl,aL.mk' hg h1 c d e f,rfl,λq a=>?_⟩
  rw[←hZ.1 a];exact b
def uy:Y->an (DataW Unit×O MemPlace):=λ_=>some (.lit (.bool true),[])
theorem Lu{M:O (Int×Y)}(h:dd w q encZ M)(v:M.length<=1000000)(j:∀x∈M, -9223372036854775808<=x.1/\x.1<=9223372036854775807):
 ∃D:DataW Unit,w.ownsMap aj 3 uy q M.length D/\(intKeys D).Perm (M.map (·.1))/\Maps.size D=M.length:=by
 obtain⟨L,f,l,h1,m,n,o⟩:=h;have c:L.length=M.length:=by rw[←h1.length_eq,cV]
 have r:∀x∈L, -9223372036854775808<=x.1/\x.1<=9223372036854775807:=λx hx=>j (l0 x) (h1.mem_iff.1 (df.2 ⟨x,hx,rfl⟩));have g:∀x∈L,Go.WideElems.rd aj 3 uy (dR encZ x)=some (.int .i64 x.1,.lit (.bool true)):=λx hx=>by
  have s:(Lit.int .i64 x.1).wf=true:=by
   have:=r x hx;simp[Lit.wf,IntKind.min,IntKind.max,IntKind.signed,IntKind.bits];omega
  exact Go.WideElems.rd_mk (R:=uy) (yv:=(.lit (.bool true),[])) (Maps.keyOf_int_mk (k:=3) U3 s) rfl
 have i:((L.map (dR encZ)).map (Go.WideElems.rg aj 3 uy))=L.map λx=>(Lit.int .i64 x.1,DataW.lit (.bool true)):=by
  rw[g2];refine qt λx hx=>?_;have:=Go.WideElems.rg_of (g x hx);simp only[Function.comp_apply];exact this
 have t:Go.WideElems.Fit aj 3 uy (L.map (dR encZ)).toArray f:=by
  refine⟨by simp[c];unfold maxLen;omega,⟨λx hx=>?_,?_,?_⟩,λx hx=>?_⟩
  .obtain⟨y,d,rfl⟩:=df.1 (by simpa using hx:x∈L.map (dR encZ))
   exact o y d
  .simp only[g2]
   exact n
  .simp only[g2]
   have:((λe:MapEntry=>e.key)∘dR encZ)=λx:Int×Y×Nat=>encZ x.1:=rfl;show(L.map ((λe:MapEntry=>e.key)∘dR encZ)).Nodup;rw[this];have e:(L.map λx:Int×Y×Nat=>encZ x.1)=(L.map (·.1)).map encZ:=by rw[g2];rfl
   rw[e];exact List.Pairwise.map encZ (λa b u he=>u (by cases he;rfl)) m
  .obtain⟨y,d,rfl⟩:=df.1 (by simpa using hx:x∈L.map (dR encZ))
   exact⟨_,g y d⟩
 have fp:=Go.WideShapes.sorted_perm (L.map λx=>(Lit.int .i64 x.1,(DataW.lit (.bool true):DataW Unit)));refine⟨_,⟨_,f,l,t,by simp[c],rfl⟩,?_,?_⟩
 .simp only[i]
  show(List.map (λp:Lit×DataW Unit=>Go.intOf p.1) _).Perm _;refine(fp.map _).trans ?_;rw[g2];have:=h1.map (·.1);rw[g2]at this;exact this
 .simp only[i]
  show List.length _=_;rw[fp.length_eq,cV,c]
theorem Lv(m:Nat):AnyZI.SortsIn aj Dy Fence.wide m:=
 ⟨λbn off cap ss W a b c=>callsIn_wide.2 (AnyM.slices_Sort_int xN bn off cap ss W a b c),λp cap W=>callsIn_wide.2 (AnyM.slices_Sort_int_none xN p cap W)⟩
theorem Lw{M:O (Int×Y)}(h:dd w q encZ M)(g:M.length<=1000000)(i:∀x∈M, -9223372036854775808<=x.1/\x.1<=9223372036854775807):
 aI aj 132 #[.func (.func 189) #[] #[.pointer (some w)]] (w.alloc (.cells #[.map (some q)] 125))
  (λv w'=>∃ (s:U) (ids:O Int),v=s/\aL 1 3 w' s (ids.map encZ)/\s.len=ids.length/\ids.Perm (M.map (·.1))/\ids.Pairwise (λa b=>decide (a<=b)=true)/\Ext w w'/\∀k,ar s k->w<=k):=by
 have d:Ext w (w.alloc (.cells #[.map (some q)] 125)):=aa.alloc (.refl _ _) _;have C:(w.alloc (.cells #[.map (some q)] 125)).heap.size=w+1:=by simp
 obtain⟨D,j,l,f⟩:=Lu (h.ext d) g i;have m:=AnyZI.keys_gives (ρ:=Dx) {II with} Fence.wide 2 trivial rfl I w q M.length D (w.alloc (.cells #[.map (some q)] 125)) I U9 j;have n:=AnyZI.sorted_in IJ Fence.wide 5 trivial trivial trivial trivial rfl I (Lv _) (enters_of func140 U3 rfl) 189 #[.pointer (some w)] trivial (enters_of func189 U3 rfl) _ _ (by rw[f];unfold maxLen;omega) (by rw[f];omega) _ m;have o:=callsIn_wide.1 (n.mono (R':=λe w'=>∃v,e=.returned v/\∃ (s:U) (ids:O Int),v=s/\aL 1 3 w' s (ids.map encZ)/\s.len=ids.length/\ids.Perm (M.map (·.1))/\ids.Pairwise (λa b=>decide (a<=b)=true)/\Ext w w'/\∀k,ar s k->w<=k) ?_)
 .exact o
 .rintro e ah ⟨v,ss,rfl,p,r,_,t⟩
  obtain⟨s,rfl,u,z,A⟩:=aL.Lt r;refine⟨_,rfl,s,ss.mergeSort (λx y=>decide (x<=y)),rfl,u,by rw[z,List.length_mergeSort],?_,?_,Ext.trans d (Ext.Ls t),λk B=>U4 (A k B)⟩
  .exact(List.mergeSort_perm _ _).trans (p.trans l)
  .exact List.pairwise_mergeSort (λa b c h1 E=>by simp only[cq]at*;omega) (λa b=>by simp only[fC,cq];omega) ss
theorem AZ:∀ (n:Nat) {l:O Nat},l.Nodup->(∀x∈l,x<n)->l.length<=n
 |0,l,_,h=>by
  cases l with
  |nil=>exact a_ _
  |cons x l=>exact absurd (h x U9) (Nat.not_lt_zero _)
 |n+1,l,a,h=>by
  by_cases c:n∈l
  .have h1:=AZ n (l:=l.erase n) (a.erase n) λx hx=>by
    have b:=(a.mem_erase_iff).1 hx
    have:=h x b.2
    have:=b.1
    omega
   rw[List.length_erase_of_mem c]at h1
   omega
  .have:=AZ n a λx hx=>by
    have h1:=h x hx
    have b:x≠n:=λe=>c (e▸hx)
    omega
   omega
section
variable {D:aS}
theorem cf.A0(h:cf w D):(D.waits.map dE.i).Nodup:=by
 have h1:=h.m.keys;rw[g2]at h1;refine(List.pairwise_map.1 h1:D.waits.Pairwise _).imp (λa e=>a ?_)|>List.pairwise_map.2;exact congrArg (λn:Nat=>(n:Int)) e
theorem cf.Fm(h:cf w D):D.waits.length<=1600:=by
 have h1:=AZ D.n h.A0 λx hx=>by
  obtain⟨y,a,rfl⟩:=df.1 hx;exact(h.wn y a).2.1
 have:=h.bz;rw[cV]at h1;omega
theorem Lx(h:cf w D):aI aj 69 #[.pointer (some D.d)] w
 (λv w'=>∃ (s:U) (ids:O Int),v=s/\aL 1 3 w' s (ids.map encZ)/\ids.Perm (D.waits.map λx=>(x.i:Int))/\Ext w w'/\∀k,ar s k->w<=k):=by
 refine okF (ad.wq (some D.d)) ay.wq func69 ?_;(delta ad.wq aE Cl bU;dsimp only);refine⟨_,rfl,_,h.fW,?_⟩;refine Calls.mono (ad.GI (some D.mr) w (λv w'=>v=.func (.func 189) #[] #[.pointer (some w)]/\w.alloc (.cells #[.map (some D.mr)] 125)=w') ⟨rfl,rfl⟩) ?_;rintro _ _ ⟨_,rfl,rfl,rfl⟩;have cO:D.waits.length<=1000000:=U4 h.Fm
 refine⟨⟨189,#[],#[.pointer (some w)]⟩,rfl,(Lw h.m (by rw[cV];exact cO) (λx hx=>?_)).use ?_⟩
 .obtain⟨y,b,rfl⟩:=df.1 hx
  have:=(h.wn y b).2.1;have:=h.bz;show _<=(y.i:Int)/\(y.i:Int)<=_;omega
 .rintro _ f ⟨s,ids,rfl,h1,_,a,_,c,e⟩
  refine⟨s,rfl,s,ids,rfl,h1,?_,c,e⟩;rw[g2]at a;exact a
end
variable {w w':J}{D:aS}
theorem Ly(a b:Int)(w:J)(T:TypeId)(k:IntKind):Sem.run aj (Builtin.min_ #[T,T] T #[.int k a,.int k b]) w=.ok (.int k (min a b)) w:=by
 simp only[Builtin.min_];unfold Builtin.min2;simp;split<;>omega
theorem cf.Lz(h:cf w D)(hi:i<D.n){x:bY}(hx:x.length=256):c5 w ⟨D.lb,i*256,none⟩ (aC x)/\cf (setCells w ⟨D.lb,i*256,none⟩ 0 (aC x)) {D with bk:=D.bk.set i x}/\aa (λq=>q=D.lb) w (setCells w ⟨D.lb,i*256,none⟩ 0 (aC x)):=by
 obtain⟨bJ,b4,a⟩:=EO h.l h.sl hi hx;refine⟨bJ,?_,a⟩;generalize setCells w ⟨D.lb,i*256,none⟩ 0 (aC x)=j at b4 a;have b:D.d≠D.lb:=h.a1.1;refine⟨?_,b4,h.m.ab a λe=>h.a1.2.2 e.symm,λx hx=>(h.ws x hx).ab a λq f e=>(h.a2 x hx).2.1 (e▸f),?_,λs hs=>?_,h.jX,?_,?_,h.f4,h.fr,h.a1,h.a2,h.a3,h.r⟩
 .have h1:=h.v.ab a b
  have e:({D with bk:=D.bk.set i x}:aS).c=D.c:=by unfold aS.c;simp
  rw[e];exact h1
 .intro z g
  have:=h.wn z g;refine⟨this.1,?_,this.2.2⟩;show z.i<(D.bk.set i x).length;rw[c_];exact this.2.1
 .rcases mx hs with h1|rfl
  .exact h.sl s h1
  .exact hx
 .show 16<=(D.bk.set i x).length;rw[c_];exact h.bL
 .show(D.bk.set i x).length<=1600;rw[c_];exact h.bz
theorem Src.A1{sz:Nat}{s:U}{vs:O Y}{W:U1}(h:Src sz w s vs)(hc:aa W w w')(d:∀k,ar s k->W k->vs=[]):Src sz w' s vs:=⟨h.len,h.nil,λa b=>by
 by_cases c:vs=[]
 .have h0:=h.len
  rw[c]at h0⊢
  rw[←h0];rfl
 .exact hc.cv (λe=>c (d _ ⟨a,b,rfl⟩ e)) _ _ _ (h.rd a b)⟩
structure A2(D az:aS):Prop where
 d:az.d=D.d
 waits:az.waits=[]
 n:az.n=D.n
 q:az.quiet
 aZ:az.aZ=D.aZ
 bk:∀j,az.bk.getD j []=D.bk.getD j []\/az.bk.getD j []∈D.eC j
 dr:∀q,bO az q->bO D q
 r:az.r1=true
theorem LA(h:cf w D){y:dE}(c:y∈D.waits):D.eC y.i=y.secs:=by
 unfold aS.eC
 cases hf:D.waits.find? λx=>x.i==y.i with
 |none=>
  have:=kn.1 hf y c;simp at this
 |some z=>
  have d:=jL hf;have e:z.i=y.i:=by simpa using kP hf
  have h1:=h.A0;obtain⟨a,f,rfl⟩:=eO d;obtain⟨b,g,rfl⟩:=eO c;have k:=(List.getElem_inj (i:=a) (j:=b) (h₀:=by simpa using f) (h₁:=by simpa using g) h1).1 (by simpa using e);subst k;rfl
theorem LB{l:U}{zs:O Int}(h:cf w D)(R:Src 1 w l (zs.map encZ))(am:∀q,ar l q->bO D q->zs=[])(bh:zs.length<=1000000)(bi:∀z∈zs,z<=9223372036854775807)(bj:D.aZ<=1000000000):
 aI aj 24 #[.pointer (some D.d),l] w (λv w'=>v=.tuple #[]/\∃az,cf w' az/\A2 D az/\aa (bO D) w w'):=by
 refine okF (ad.v7 (some D.d) l) ay.v7 func24 ?_;(delta ad.v7 af bU cW aQ aO r1 aV aE b1 dC aJ gI ai e6;dsimp only);refine⟨nofun,λ_=>(Lx h).use ?_⟩;rintro _ w1 ⟨s,ids,rfl,S,T,E,an⟩;have ap:=h.bz;have aq:=R.len;rw[cV]at aq;have bm:s.len=ids.length:=by have:=S.1;rw[cV]at this;omega
 have bn:ids.length<=1600:=by rw[T.length_eq,cV];exact h.Fm
 have au:∀q,ar s q->¬bO D q:=λq a hf=>U5 (an q a) (h.lt hf)
 have F:bO D D.lb:=.inr (.inl rfl);refine⟨s,rfl,λn6 f=>∃ (i:Nat) (ls:O bY),n6=(i:Nat)/\i<=ids.length/\cf f {D with bk:=ls}/\ls.length=D.n/\(∀j,ls.getD j []=D.bk.getD j []\/ls.getD j []∈D.eC j)/\aa (λq=>q=D.lb) w1 f,λn6 _=>((ids.length:Int)-n6).toNat,⟨0,D.bk,rfl,cw _,h.ext E,rfl,λj=>.inl rfl,aa.refl _ _⟩,?_⟩;rintro _ f ⟨i,ls,rfl,hi,g,r,jz,u⟩;have av:=S.ab u λq a e=>au q a (by rw[e];exact F);have G:=Src.A1 (R.ext E) u λq a e=>by rw[am q a (by rw[e];exact F)];rfl
 refine⟨λH=>?_,λH=>?_⟩
 .have H:(i:Int)<(s.len:Int):=bB H
  have J:i<ids.length:=I
  obtain⟨y,p,V⟩:=df.1 (T.mem_iff.1 (cg J));have ax:IntKind.wrap .i64 ((i:Int)+1)=((i+1:Nat):Int):=by rw[bl I I];omega
  have aA:((ids.length:Int)-((i+1:Nat):Int)).toNat<((ids.length:Int)-(i:Int)).toNat:=I
  obtain⟨A,ak,aB,K⟩:=av.src.at (i:=i) (v:=encZ ids[i]) (by simp[J]);refine jQ (λL=>∃ls:O bY,cf L {D with bk:=ls}/\ls.length=D.n/\(∀j,ls.getD j []=D.bk.getD j []\/ls.getD j []∈D.eC j)/\aa (λq=>q=D.lb) w1 L) (λbo W=>⟨A,ak,aB,ids[i],K,?_⟩) ?_
  .refine cx (λb w'=>(b=false->∃t:i<zs.length,0<zs[i])/\f=w') (λq a=>⟨λ_=>a _ _ ⟨nofun,rfl⟩,λX=>?_⟩) ?_
   .have X:¬(i:Int)>=(l.len:Int):=bT X
    have t:i<zs.length:=I
    obtain⟨B,Y,Z,ac⟩:=G.at (i:=i) (v:=encZ zs[i]) (by simp[t]);exact⟨B,Y,Z,zs[i],ac,a _ _ ⟨λaD=>⟨t,U4 (bT aD)⟩,rfl⟩⟩
   .rintro b _ ⟨aF,rfl⟩
    refine⟨λ_=>W _ ⟨ls,g,r,jz,u⟩,λaG=>?_⟩;obtain⟨t,bq⟩:=aF aG;obtain⟨B,Y,Z,ac⟩:=G.at (i:=i) (v:=encZ zs[i]) (by simp[t]);have aK:=g.m.qT kh lG (k:=(y.i:Int)) (v:=y.s) (df.2 ⟨y,p,rfl⟩) false;have M:=g.ext (cc f);have aL:=G.ext (cc f);obtain⟨aM,aN,aP,aR⟩:=aL.at (i:=i) (v:=encZ zs[i]) (by simp[t]);have br:=(h.wn y p).2.2;have bs:0<y.secs.length:=sA.2 (h.wn y p).1;obtain⟨k,aT⟩:∃k:Nat,min zs[i] (y.secs.length:Int)=((k+1:Nat):Int):=⟨(min zs[i] (y.secs.length:Int)-1).toNat,I⟩;have C:k<y.secs.length:=I
    obtain⟨aU,aW,aX,aY⟩:=zU (M.ws y p).src (λs hs=>by rw[dO];exact h.jX y p s hs) (by decide) (i:=k) C;have a0:y.i<D.n:=(h.wn y p).2.1;have a2:({D with bk:=ls}:aS).n=D.n:=r;obtain⟨bJ,b4,a3⟩:=M.Lz (i:=y.i) (by rw[a2];exact a0) (h.jX y p y.secs[k] (cg C));have ae:Addr.add D.lb (Int.toNat (y.i:Int)*256)=⟨D.lb,y.i*256,none⟩:=by rw[cS,aw,cT]
    refine⟨_,rfl,some D.mr,g.fW,y.s,f,by rw[←V];exact aK,aH ⟨λ_=>False,_,rfl,id,⟨some D.lb,ls.length,ls.length⟩,M.fE,aM,aN,aP,id,zs[i],aR,_,f.drew,Ly _ _ _ _ _,aa.refl _ _,aW,aX,?_⟩⟩;rw[aU,aT,bl (n:=(((k+1:Nat):Nat):Int)-1) I I];have a4:Int.toNat (((k+1:Nat):Int)-1)=k:=I
    rw[a4,←V];refine⟨⟨I,I⟩,id,_,aY,_,rfl,⟨I,by show(y.i:Int)<(ls.length:Int);omega⟩,by rw[ae];exact bJ,by simp[dO,h.jX y p y.secs[k] (cg C)],?_⟩;rw[ae];refine aH (W _ ⟨ls.set y.i y.secs[k],b4,by rw[c_];exact r,λj=>?_,u.trans ((cc f).mono (λ_ _ h=>h.elim)|>.trans a3)⟩);by_cases ag:y.i=j
    .subst ag
     right;rw[c8 (by rw[c_];omega),hW,LA h p];exact cg C
    .rw[fi,List.getElem?_set_ne ag,←fi]
     exact jz j
  .rintro L ⟨a5,ao,a6,a7,a8⟩
   rw[ax];exact⟨⟨i+1,a5,rfl,J,ao,a6,a7,a8⟩,aA⟩
 .obtain⟨ah,K,a9,N,bt⟩:=dd.clear (P:=aj) (o:=0) g.m lG
  have a_:D.d≠D.mr:=h.a1.2.1;have ba:=g.v.ab N a_;refine⟨_,rfl,some D.mr,g.fW,_,ah,K,_,rfl,(Dr ba (by rw[show(aS.c {D with bk:=ls}).length=7 from g.xJ];decide)).use ?_⟩;rintro _ al ⟨rfl,bb,Q,bu⟩;have bc:=h.f4;have bd:cf al {D with bk:=ls,waits:=[],bN:=[-1, -1, -1, -1],r1:=true}:=by
   have be:bp ah D.lb (cl aC ls).toArray 151:=bp.ab g.l N h.a1.2.2;have bf:bp al D.lb (cl aC ls).toArray 151:=bp.ab be Q λe=>h.a1.1 e.symm;refine⟨?_,bf,a9.ab Q λe=>h.a1.2.1 e.symm,λx hx=>(by cases hx),λx hx=>(by cases hx),g.sl,λx hx=>(by cases hx),?_,?_,rfl,λx hx=>?_,h.a1,λx hx=>(by cases hx),λx hx=>(by cases hx),λ_=>rfl⟩
   .have e:({D with bk:=ls,waits:=[],bN:=[-1, -1, -1, -1],r1:=true}:aS).c=List.replicate 4 (.int .i64 (-1))++(aS.c {D with bk:=ls}).drop 4:=by
     unfold aS.c;dsimp only;rw[List.drop_left' (by rw[cV];exact bc)];rfl
    rw[e];exact bb
   .show 16<=ls.length;rw[r];exact h.bL
   .show ls.length<=1600;rw[r];exact ap
   .have hx:x∈ [(-1:Int), -1, -1, -1]:=hx
    simp only[cN,er,ez,or_self]at hx;omega
  refine⟨rfl,rfl,_,bd,⟨rfl,rfl,r,⟨λk=>⟨.inl rfl,.inl rfl⟩,rfl⟩,rfl,jz,λq a=>?_,rfl⟩,?_⟩
  .obtain e|e|e|⟨x,hx,e⟩:=a
   .exact .inl e
   .exact .inr (.inl e)
   .exact .inr (.inr (.inl e))
   .cases hx
  .have h1:aa (bO D) w f:=cn (E.mono λ_ _ h=>h.elim) u λq _ e=>by rw[e];exact F
   have bg:=cn h1 N λq _ e=>by rw[e];exact .inr (.inr (.inl rfl))
   exact cn bg Q λq _ e=>by rw[e];exact .inl rfl
theorem LC:jN aj 135:=⟨_,(qu (show(Tryz.prog.funcs[135]?).isSome=true by kernel_rfl)).symm,by kernel_rfl,by kernel_rfl⟩
theorem LD{s:U}{l:O UInt8}(hs:Src 1 w s (aC l))(o:l.length<=1000):
   aI aj 134 #[s,.func (.func 135) #[] #[]] w (λv w'=>v=.bool (!(l.all λc=>c==0))/\w=w'):=by
 have p:=len8 hs
 refine okF (ad.pz s ⟨135,#[],#[]⟩) ay.pz func134 ?_
 (delta ad.pz b5;dsimp only)
 refine Calls.mono (ad.Cx s ⟨135,#[],#[]⟩ w (λv w'=>(∃i:Int,v=i/\(decide (i>=0))= !(l.all λc=>c==0))/\w=w') ?_) ?_
 · (delta ad.q4 cW af aQ aO bA aV ai;dsimp only)
   refine⟨λi w'=>∃j:Nat,i=j/\j<=l.length/\w=w'/\∀ (k:Nat) (a:k<l.length),k<j->l[k]=0,λi _=>((l.length:Int)-i).toNat,⟨0,rfl,cw _,rfl,λk a h=>I⟩,?_⟩
   rintro _ _ ⟨j,rfl,q,rfl,d⟩
   refine⟨λaB=>?_,λb=>?_⟩
   · have aB:j<l.length:=U4 (bB aB)
     obtain⟨A,ak,f,g⟩:=hs.at (oD aB)
     refine⟨A,ak,f,_,g,LC,?_⟩
     refine Calls.mono (ad.G0 ((l[j]).toNat:Int) w (λv w'=>v=.bool (((l[j]).toNat:Int) !=0)/\w=w') ⟨rfl,rfl⟩) ?_
     rintro _ _ ⟨_,rfl,rfl,rfl⟩
     refine⟨_,rfl,λe=>⟨⟨j,rfl,?_⟩,rfl⟩,λm=>?_⟩
     · have:(l.all λc=>c==0)=false:=by
         rw[List.all_eq_false]
         refine⟨l[j],cg _,λh=>?_⟩
         have h:=eq_of_beq h
         rw[h]at e
         simp at e
       rw[this]
       exact dm I
     · have h0:l[j]=0:=by
         have:((l[j]).toNat:Int)=0:=by simpa using m
         exact qm.1 (by show(l[j]).toNat=0;omega)
       rw[bl (n:=(j:Int)+1) I I]
       refine⟨⟨j+1,I,I,rfl,λk a h=>?_⟩,?_⟩
       · rcases dA k j with h1|h1
         · exact d k a h1
         · have:k=j:=I
           subst this;exact h0
       · show((l.length:Int)-((j:Int)+1)).toNat<((l.length:Int)-(j:Int)).toNat
         omega
   · have b:j=l.length:=U4 (bT b)
     subst b
     refine⟨⟨-1,rfl,?_⟩,rfl⟩
     have:(l.all λc=>c==0)=true:=by
       rw[kM]
       intro c hc
       obtain⟨k,a,rfl⟩:=eO hc
       rw[d k a a];rfl
     rw[this];rfl
 · rintro _ _ ⟨_,rfl,⟨i,rfl,hi⟩,rfl⟩
   exact⟨i,rfl,by rw[hi],rfl⟩
theorem LF{l:O Int}(h:i<l.length):l.set i (l.getD i d)=l:=by
 rw[c8 h,sI]
theorem A3{D:aS}(h:D.quiet)(a:k=1\/k=2):D.bN.getD k 0= -1:=by
 have h1:=h.1 ((D.bN.getD k 0).toNat+1);obtain rfl|rfl:=a
 .exact h1.1.resolve_right I
 .exact h1.2.resolve_right I
theorem Fo{D:aS}(h:D.quiet)(b:D.bN.length=4)(a:k=1\/k=2):D.cI k=D/\D.fl k=false:=by
 have h1:=A3 h a;unfold aS.cI aS.fl;rw[h1];refine⟨?_,rfl⟩;have e:(gz (-1)).2=D.bN.getD k 0:=by rw[h1];rfl
 rw[e,LF I]
def takeN(u:cD)(g:Nat):an (cD×Nat)->an (cD×Nat)
 |none=>some (u,g)
 |some x=>if g>x.2 then some (u,g) else some x
def hE(n no:Nat)(l:bY)(acc:an (cD×Nat)):Except Int (an (cD×Nat)):=
 if (l.all λc=>c==0)=true then .ok acc else match eD (no:Int) l with
 | .error e=>.error e
 | .ok (u,s,g)=>if s≠n then .error 4 else .ok (takeN u g acc)
def kk(n:Nat)(V:Nat->bY):Nat->Except Int (an (cD×Nat))
 |0=>.ok none
 |i+1=>match kk n V i with
  | .error e=>.error e
  | .ok a=>hE n i (V i) a
theorem Fp{V:Nat->bY}{e:Int}(h:kk n V i=.error e):∀k,kk n V (i+k)=.error e
 |0=>h
 |k+1=>by
  show kk n V (i+k+1)=_
  unfold kk
  rw[Fp h k]
def Fq:an (cD×Nat)->Except Int (cD×Nat)
 |none=>.error 6
 |some x=>.ok x
def kL(n:Nat)(V:Nat->bY):Except Int (cD×Nat):=match kk n V 2 with
 | .error e=>.error e
 | .ok a=>Fq a
def si:an (cD×Nat)->cD
 |none=>cZ
 |some x=>x.1
def sj:an (cD×Nat)->Nat
 |none=>0
 |some x=>x.2
theorem LG{no:Int}{l:bY}{e:Int}(h:eD no l=.error e):e≠0:=by
 unfold eD at h;split at h
 .rename_i a he
  cases h;exact oK he
 .split at h
  .cases h;decide
  .split at h
   .cases h
   .cases h;decide
theorem q8{D:aS}(h:cf w D)(j:D.quiet)(aC:D.aZ<=1000000000):
 aI aj 70 #[.pointer (some D.d)] w (λv w'=>cf w' D/\aa (λq=>q=D.d) w w'/\(match kL D.n D.now with
  | .error e=>e≠0/\∃u:cD,v=.tuple #[.agg u.c.toArray,.int .u64 0,e]
  | .ok (u,g)=>v=.tuple #[.agg u.c.toArray,.int .u64 (g:Nat),U8])):=by
 have aU:=h.bL;refine okF (ad.q8 (some D.d)) ay.q8 func70 ?_;(delta ad.q8 eo Cq af dY zb r1 ae aT bZ c0 bf aF vH bR vx b5 mE ai vD;dsimp only);refine bg (vs:=cZ.c) rfl λw1 ag ak aV=>?_;obtain⟨ub,aD⟩:=U6 w.heap.size;rw[←aD]at ag⊢;have aE:ub≠D.d:=U4 (h.lt (q:=D.d) (.inl rfl))
 have al:=Fo j h.f4 (k:=1) (.inl rfl);refine⟨λaG aH n6 A=>∃ (i:Nat) (a:an (cD×Nat)),n6=(i:Nat)/\i<=2/\aG=(sj a:Nat)/\aH=a.isSome/\kk D.n D.now i=.ok a/\cf A D/\Var A ub (si a).c 90/\aa (λq=>q=D.d) w A,λ_ _ n6 _=>(2-n6).toNat,⟨0,none,rfl,by decide,rfl,rfl,rfl,h.ext ak,ag,ak.mono λ_ _ h=>h.elim⟩,?_⟩;rintro _ _ _ A ⟨i,a,rfl,hi,rfl,rfl,am,M,y,B⟩;have aW:=B.size;have z:∀ {w' ao:J},aa (λq=>q=D.d) w w'->aa (λq=>q=ub) w' ao->aa (λq=>q=D.d) w ao:=λh1 N=>cn h1 N λq aX e=>by omega
 refine⟨λO=>?_,λO=>?_⟩
 .have P:i<2:=by have:(i:Int)<2:=bB O;omega
  have aJ:IntKind.wrap .i64 ((i:Int)+1)=((i+1:Nat):Int):=by rw[bl I I];omega
  refine s3 (λn b w'=>∃a':an (cD×Nat),n=(sj a':Nat)/\b=a'.isSome/\kk D.n D.now (i+1)=.ok a'/\cf w' D/\Var w' ub (si a').c 90/\aa (λq=>q=D.d) w w') (λaY Q=>(tW M (i:=i) I aC).use ?_) ?_
  .rintro v aK ⟨C,ap,aL⟩
   rw[al.1]at C;obtain⟨aq,_⟩|⟨_,s,rfl,R⟩:=aL
   .rw[al.2]at aq;cases aq
   have ar:=y.ab ap aE;have au:aa (λq=>q=D.d) w aK:=B.trans ap;have a0:=C.nA (i:=i) I;have E:kk D.n D.now (i+1)=hE D.n i (D.now i) a:=by
    unfold kk;rw[am]
   have av:∀e,hE D.n i (D.now i) a=.error e->kL D.n D.now=.error e:=λe he=>by
    unfold kL;have:=Fp (E.trans he) (1-i);rw[show i+1+(1-i)=2 from I]at this;rw[this]
   refine⟨s,0,rfl,nofun,λ_=>(LD R.1 I).use ?_⟩;rintro _ _ ⟨rfl,rfl⟩;refine⟨_,rfl,λm=>Q _ _ _ ⟨a,rfl,rfl,?_,C,ar,au⟩,λm=>(pD R.1 R.2.1 I (i:Nat)).use ?_⟩
   .rw[E];unfold hE
    rw[if_pos (by simpa using m)]
   have m:¬((D.now i).all λc=>c==0)=true:=by simpa using m
   rintro v S ⟨rfl,T⟩;have aw:=C.ext T;have ax:=ar.ext T;have az:aa (λq=>q=D.d) w S:=cn au T λq _ h=>h.elim
   cases F:eD (i:Int) (D.now i) with
   |error e=>
    have he:=LG F;have t:=av e (by unfold hE;rw[if_neg m,F]);refine⟨_,_,_,_,_,_,_,_,e,rfl,bg (vs:=cZ.c) rfl λaM U V aN=>fQ U rfl cZ λG aA W _=>⟨λ_=>?_,λhx=>absurd (by simpa using hx) he⟩⟩;have o:Ext S G:=Ext.bQ V W (a_ _);have p:=ax.ext o;refine fe p (fQ p rfl (si a) λah l f _=>fe l ⟨(aw.ext o).ab f λq j e=>?_,z (cn az o λq _ h=>h.elim) f,?_⟩)
    .have:=h.lt j;omega
    .rw[t];exact⟨he,_,rfl⟩
   |ok r=>
    obtain⟨u,X,g⟩:=r;refine⟨_,_,_,_,_,_,_,_,0,rfl,bg (vs:=cZ.c) rfl λaM U V aN=>fQ U rfl u λG aA W _=>⟨nofun,λ_=>?_⟩⟩;have o:Ext S G:=Ext.bQ V W (a_ _);have p:=ax.ext o;have H:=aw.ext o;have Y:aa (λq=>q=D.d) w G:=cn az o λq _ h=>h.elim;refine(oI H).use ?_;rintro _ _ ⟨rfl,rfl⟩;refine⟨_,rfl,λK=>?_,λZ=>?_⟩
    .have K:X≠D.n:=λe=>by rw[e]at K;simp at K
     have t:=av 4 (by unfold hE;rw[if_neg m,F];dsimp only;rw[if_pos K]);refine fe p (fQ p rfl (si a) λah l f _=>fe l ⟨H.ab f λq j e=>?_,z Y f,?_⟩)
     .have:=h.lt j;omega
     .rw[t];exact⟨by decide,_,rfl⟩
    .have Z:X=D.n:=by
      have:(X:Int)=(D.n:Int):=by simpa using Z
      omega
     have aB:hE D.n i (D.now i) a=.ok (takeN u g a):=by
      unfold hE;rw[if_neg m,F];dsimp only;rw[if_neg (λe=>e Z)]
     refine⟨λL=>?_,λL=>?_⟩
     .have aO:kk D.n D.now (i+1)=.ok (some (u,g)):=by
       rw[E,aB]
       cases a with
       |none=>rfl
       |some x=>
        have:g>x.2:=by
         have:(g:Int)>((sj (some x):Nat):Int):=by simpa using L
         have e:sj (some x)=x.2:=rfl;omega
        show Except.ok (if g>x.2 then _ else _)=_;rw[if_pos this]
      refine fe aA (fQ p rfl u λah l f _=>Q _ _ _ ⟨some (u,g),rfl,rfl,aO,H.ab f λq j e=>?_,l,z Y f⟩);have:=h.lt j;omega
     .refine Q _ _ _ ⟨a,rfl,rfl,?_,H,p,Y⟩
      rw[E,aB]
      cases a with
      |none=>cases L
      |some x=>
       have:¬g>x.2:=by
        have:¬(g:Int)>((sj (some x):Nat):Int):=by simpa using L
        have e:sj (some x)=x.2:=rfl;omega
       show Except.ok (if g>x.2 then _ else _)=_;rw[if_neg this]
  .rintro _ _ a1 ⟨a',rfl,rfl,h1,N,aP,aQ⟩
   rw[aJ];have aR:(2-((i+1:Nat):Int)).toNat<(2-(i:Int)).toNat:=I
   exact⟨⟨i+1,a',rfl,P,rfl,rfl,h1,N,aP,aQ⟩,aR⟩
 .have P:i=2:=by have:¬(i:Int)<2:=bT O;omega
  subst P;have t:kL D.n D.now=Fq a:=by unfold kL;rw[am]
  refine⟨λac=>fe y (fQ y rfl (si a) λah l f _=>fe l ⟨M.ab f λq j e=>?_,z B f,?_⟩),λac=>fe y (fQ y rfl (si a) λah l f _=>fe l ⟨M.ab f λq j e=>?_,z B f,?_⟩)⟩
  .have:=h.lt j;omega
  .rw[t]
   cases a with
   |none=>exact⟨by decide,_,rfl⟩
   |some x=>cases ac
  .have:=h.lt j;omega
  .rw[t]
   cases a with
   |none=>cases ac
   |some x=>rfl
theorem LH{no:Int}{l:O UInt8}{p:h4}(h:cG no l=.ok p):l.getD 4 0=1:=by
 by_cases e:l.getD 4 0=1
 .exact e
 .exfalso
  unfold cG at h;split at h
  .cases h
  .split at h
   .cases h
   .first|(rw[if_pos e]at h;cases h)|cases h
theorem Fs{no:Int}{l:O UInt8}{p:h4}(h:cG no l=.ok p):¬(l.all λc=>c==0)=true:=λa=>by
 have h1:=LH h
 rw[kM]at a
 rw[fi]at h1
 cases hg:l[4]? with
 |none=>rw[hg]at h1;cases h1
 |some c=>
  rw[hg]at h1
  have:=a c (List.mem_of_getElem? hg)
  have h1:c=1:=h1
  rw[h1]at this;cases this
theorem yb{no:Int}{l:O UInt8}{r:cD×Nat×Nat}(h:eD no l=.ok r):∃p,cG no l=.ok p:=by
 unfold eD at h
 cases a:cG no l with
 |error e=>rw[a]at h;cases h
 |ok p=>exact⟨p,rfl⟩
theorem uz{l:bY}{a:an (cD×Nat)}{g:Nat}(h:eD (no:Int) l=.ok (u,n,g)):hE n no l a=.ok (takeN u g a):=by
 obtain⟨p,b⟩:=yb h;unfold hE;rw[if_neg (Fs b),h];dsimp only;rw[if_neg (λe=>e rfl)]
theorem Ft{a:an (cD×Nat)}:hE n no fN a=.ok a:=by
 unfold hE;rw[if_pos (by unfold fN;rw[List.all_replicate];rfl)]
section
variable {V:Nat->bY}{n gen:Nat}{u:cD}{g:Nat->ag}{P:Nat->an aA}{p:O Nat}{L:O aY}
theorem hD.kL(h:hD V n gen u g P p L):kL n V=.ok (u,gen):=by
 have c:kk n V 2=.ok (some (u,gen)):=by
  have e:kk n V 2=(match hE n 0 (V 0) none with| .error e=>.error e| .ok a=>hE n 1 (V 1) a):=rfl;rw[e];have b:=h.ux;have d:=h.ya;rcases Nat.mod_two_eq_zero_or_one gen with h0|h0
  .rw[h0]at b d
   rw[uz b];show hE n 1 (V 1) (some (u,gen))=_;obtain f|⟨iI,g',h1,c⟩:=d
   .rw[show V 1=fN from f,Ft]
   .rw[uz (no:=1) h1]
    show Except.ok (if g'>gen then _ else _)=_;rw[if_neg I]
  .rw[h0]at b d
   obtain f|⟨iI,g',h1,c⟩:=d
   .rw[show V 0=fN from f,Ft]
    exact uz b
   .rw[uz (no:=0) h1]
    show hE n 1 (V 1) (some (iI,g'))=_;rw[uz b];show Except.ok (if gen>g' then _ else _)=_;rw[if_pos c]
 unfold Go.Proofs.YtcmgnhkpfllinaaGreat.kL;rw[c];rfl
end
theorem A4(hg:∀i,n<=i->g i=false):bitsOf ((fm g ((n+7)/8)).map λc=>(c.toNat:Int))=g:=by
 funext i;unfold bitsOf;by_cases hi:i/8<(n+7)/8
 .rw[fi,ko]
  have e:(fm g ((n+7)/8))[i/8]? =some (UInt8.ofNat (byteOf g (i/8))):=by
   unfold fm;rw[ko,List.getElem?_range hi];rfl
  rw[e];have a:=k2 g (i/8);show((((UInt8.ofNat (byteOf g (i/8))).toNat:Nat):Int).toNat).testBit (i%8)=g i;rw[UInt8.toNat_ofNat',jx a,cS,oL _ _ _ (gu _ (by decide)),DA]
 .have:(fm g ((n+7)/8)).length<=i/8:=by rw[qc];omega
  rw[fi,mw (by rw[cV];exact this),hg i I];show Nat.testBit (Int.toNat 0) _=false;simp
theorem Fu(hg:∀i,n<=i->g i=false):iv ((fm g ((n+7)/8)).map λc=>(c.toNat:Int)) n:=
 ⟨by rw[cV,qc],λi hi=>by rw[A4 hg];exact hg i hi⟩
theorem q9{D:aS}(h:cf w D)(P:D.quiet)(Q:D.aZ<=1000000000)(C:no<D.n)(hg:∀i,D.n<=i->g i=false)
 (hc:(∃c1,cG ((no:Nat):Int) (D.now no)=.ok ⟨4,c1,fm g ((D.n+7)/8)⟩)\/∃e,cG ((no:Nat):Int) (D.now no)=.error e):
 aI aj 71 #[.pointer (some ⟨D.d,0,none⟩),.int .i64 (no:Nat)] w (λv w'=>cf w' D/\aa (λq=>q=D.d) w w'/\
  ((∃sb s1 s2,v=.tuple #[.pointer (some ⟨sb,0,none⟩),.int .i64 0]/\(∃c1,cG ((no:Nat):Int) (D.now no)=.ok ⟨4,c1,fm g ((D.n+7)/8)⟩)/\e1 w' sb D.n g g s1 s2/\∀k,eH sb s1 s2 k->w<=k)\/
   (∃e:Int,v=.tuple #[.pointer none,.int .i64 e]/\e≠0/\∃R,cG ((no:Nat):Int) (D.now no)=.error R))):=by
 refine okF (ad.q9 (some ⟨D.d,0,none⟩) (no:Nat)) ay.q9 func71 ?_;(delta ad.q9 dY af jR z4 bf ae aF r1 b1 c2 dC aJ b5 gR;dsimp only);have ai:=h.bz;have E:=Fo P h.f4 (k:=1) (.inl rfl);refine(tW h C Q).use ?_;rintro v w1 ⟨m,S,o⟩;rw[E.1]at m;obtain⟨F,_⟩|⟨_,s,rfl,G⟩:=o
 .rw[E.2]at F;cases F
 have ak:=m.nA C;refine⟨s,0,rfl,nofun,λ_=>(mG G.1 G.2.1 I _).use ?_⟩;rintro v p ⟨f,H⟩;have K:=m.ext H;have r:aa (λq=>q=D.d) w p:=cn S H λq _ h=>h.elim;obtain⟨c1,a⟩|⟨e,a⟩:=hc
 .rw[a]at f
  obtain⟨t,rfl,T,al⟩:=f;refine⟨4,c1,t,0,rfl,bg (vs:=[.int .i64 0,.int .u64 0,.slice none 0 0]) rfl λU u y V=>lJ 4 c1 t u rfl λb z A W=>⟨nofun,λ_=>⟨4,z.cell,nofun,λ_=>aH ?_⟩⟩⟩;have j:Ext p b:=Ext.bQ y A (a_ _);have L:Ext b b.drew:=cc _;have X:=z.ext L;have l:=Ext.trans j L;have M:=K.ext l;refine⟨λ_=>False,id,t,X.cell,(oI M).use ?_⟩;rintro _ _ ⟨rfl,rfl⟩;have Y:=T.ext l;have hu:aC (fm g ((D.n+7)/8))=((fm g ((D.n+7)/8)).map λc=>((c.toNat:Nat):Int)).map (.int .u8):=by unfold aC;rw[g2];rfl
  have N:=Y.src;rw[show(⟨4,c1,fm g ((D.n+7)/8)⟩:h4).body=fm g ((D.n+7)/8) from rfl,hu]at N;refine⟨_,rfl,aa.refl _ _,(ot N (λx hx=>?_) (by rw[cV,qc];omega) (D.n:Nat)).use ?_⟩
  .obtain⟨c,_,rfl⟩:=df.1 hx
   have:=c.toNat_lt;omega
  rintro v Z ⟨O,o⟩;have ab:=M.ext O;have ac:aa (λq=>q=D.d) w Z:=cn r (Ext.trans l O) λq _ h=>h.elim;have am:=h.bL;obtain⟨B,_⟩|⟨_,_,B,_⟩|⟨_,_,_,sb,s1,s2,rfl,fp,hf⟩:=o
  .exact absurd ⟨I,I⟩ B
  .exact absurd (by rw[cS];exact Fu hg) B
  .rw[A4 hg,cS]at fp
   refine⟨_,0,rfl,ab,ac,.inl ⟨sb,s1,s2,rfl,⟨c1,a⟩,fp,λk ah=>?_⟩⟩;have:=hf k ah;have:=r.size;have:=l.size;omega
 .rw[a]at f
  obtain rfl:=f;have he:=oK a;refine⟨0,0,⟨none,0,0⟩,e,rfl,bg (vs:=[.int .i64 0,.int .u64 0,.slice none 0 0]) rfl λU u y V=>lJ 0 0 ⟨none,0,0⟩ u rfl λb z A W=>⟨λ_=>?_,λhx=>absurd (by simpa using hx) he⟩⟩;have j:Ext p b:=Ext.bQ y A (a_ _);exact⟨K.ext j,cn r j λq _ h=>h.elim,.inr ⟨e,rfl,he,e,a⟩⟩
abbrev oY:=Nat×Nat×O Nat×O aY
def yc(P:Nat->an aA)(x:oY):Prop:=1<=x.2.1/\x.2.1<=1000/\∃lo hi,eK P x.2.1 lo hi x.1 x.2.2.1 x.2.2.2
def fT(q:O oY):O Nat:=q.flatMap λx=>x.2.2.1
def iE(q:O oY):Nat:=(q.map λx=>x.2.2.2.length).sum
def mg(q:O oY):O (Int×Int):=q.map λx=>((x.1:Int),(x.2.1:Int))
section
variable {P:Nat->an aA}{secs:O bY}{gen:Nat}
theorem LI{h:Nat}(a:1<=h/\h<=1000){R:U1}{lo hi:an Key}{ks:O Key}{kids p:O Nat}(hs:ef (λlo hi k p L=>eK P h lo hi k p L/\R k) lo hi ks kids p L):
 ∃q:O oY,mg q=kids.map (λk=>(((k:Nat):Int),((h:Nat):Int)))/\(∀x∈q,yc P x)/\fT q=p/\iE q=L.length:=by
 induction hs with
 | @one lo hi k p L h1=>exact⟨[(k,h,p,L)],rfl,λx hx=>by rw[dV.1 hx];exact⟨a.1,a.2,_,_,h1.1⟩,by simp[fT],by simp[iE]⟩
 | @cons lo hi s k bm bt bC b8 ks kids h1 _ b=>
  obtain⟨q,c,d,e,f⟩:=b;refine⟨(k,h,bm,bC)::q,?_,λx hx=>?_,?_,?_⟩
  .show _::mg q=_;rw[c];rfl
  .rcases cN.1 hx with rfl|hx
   .exact⟨a.1,a.2,_,_,h1.1⟩
   .exact d x hx
  .show bm++fT q=_;rw[e]
  .show bC.length+iE q=_;rw[f,b6]
theorem Fv{x:oY}(h:yc P x):∃ (n:aA) (q:O oY),P x.1=some n/\x.2.2.1=x.1::fT q/\(∀y∈q,yc P y)/\mg q=n.kids.map (λk=>(((k:Nat):Int),((x.2.1-1:Nat):Int)))/\n.leaf=decide (x.2.1=1)/\(if x.2.1=1 then n.keys.length else 0)+iE q=x.2.2.2.length:=by
 obtain⟨k,h,p,L⟩:=x;obtain⟨h1,d,lo,hi,a⟩:=h;dsimp only at h1 d a⊢
 match h,h1,a with
 |1,_,a=>
  obtain⟨n,c,b,_,_,rfl,rfl⟩:=a;exact⟨n,[],c,rfl,λy e=>(by cases e),by rw[b.kids];rfl,b.leaf,by show n.keys.length+0=_;rw[b.fx.2,lO]⟩
 |h+2,_,a=>
  obtain⟨n,l,c,b,_,rfl,hs⟩:=a;obtain⟨q,f,g,i,j⟩:=LI (h:=h+1) ⟨I,I⟩ (R:=λk=>∃m,P k=some m/\2<=m.keys.length) hs;exact⟨n,q,c,by rw[i],g,by rw[f];rfl,by rw[b.inner,ib I],by rw[if_neg I,j,cT]⟩
theorem LJ(Y:secs.length<=1600):∀ (N:Nat) (q:O oY) (a:cr) (seen bd:O Nat),(fT q).length<=N->(∀x∈q,yc P x)->(fT q).Nodup->
 (∀x∈fT q,x∉seen/\x<secs.length/\∀bu,P x=some bu->g9 gen bu.leaf x (secs.getD x []) bu)->0<=a.pages->a.pages+(fT q).length<=1000000->0<=a.keys->a.keys+iE q<=1000000000->
 ∃A r,iy secs (mg q) a seen bd {a with pages:=a.pages+(fT q).length,keys:=a.keys+iE q} A r/\∀z,z∈r↔z∈bd\/z∈fT q:=by
 intro N
 induction N with
 |zero=>
  intro q a seen bd g c _ _ _ _ _ _
  match q with
  | []=>exact⟨seen,bd,by cases a;simp[mg,fT,iE];exact .done ..,λz=>by simp[fT]⟩
  |x::q=>
   obtain⟨n,b,_,j,_⟩:=Fv (c x (mo));have:fT (x::q)=x.2.2.1++fT q:=rfl;rw[this,j]at g;simp at g
 |succ N B=>
  intro q a seen bd g c cO l bc bm Z bJ
  match q with
  | []=>exact⟨seen,bd,by cases a;simp[mg,fT,iE];exact .done ..,λz=>by simp[fT]⟩
  |x::q=>
   obtain⟨n,b,C,j,D,E,s,F⟩:=Fv (c x (mo));have m:fT (x::q)=x.1::(fT b++fT q):=by show x.2.2.1++fT q=_;rw[j];rfl
   have d:fT (q++b)=fT q++fT b:=List.flatMap_append;have t:iE (x::q)=x.2.2.2.length+iE q:=rfl;have u:iE (q++b)=iE q+iE b:=by unfold iE;rw[eU,lS]
   rw[m]at g cO l bm;rw[t]at bJ;obtain⟨G,H,J⟩:=l x.1 (mo);obtain⟨dZ,hd,_,K,L,_⟩:=J n C;obtain⟨M,Q⟩:=qv.1 cO;have o:((((x.2.1:Nat):Int))==1)=n.leaf:=by rw[s,ek,gP,cq];omega
   have aa:=(c x (mo)).1;have ab:=(c x (mo)).2.1;simp only[eE,b6]at g bm;obtain⟨a1,f⟩:∃a1:cr,a1={a with pages:=a.pages+1,keys:=a.keys+((if x.2.1=1 then n.keys.length else 0:Nat):Int)}:=⟨_,rfl⟩;have R:ix secs ((x.1:Nat):Int) ((x.2.1:Nat):Int) a seen bd a1 (x.1::seen) (bd++ [x.1]) n.kids:=by
    have h1:=ix.ok (secs:=secs) (level:=((x.2.1:Nat):Int)) (a:=a) (seen:=seen) (bd:=bd) x.1 dZ n rfl H G hd (o▸L) (by unfold k9;rw[o,K]);have e:a1={a with pages:=inc a.pages,keys:=if ((((x.2.1:Nat):Int))==1) then IntKind.wrap .i64 (a.keys+(n.keys.length:Nat)) else a.keys}:=by
     rw[f,o,s];unfold inc;rw[bl (n:=a.pages+1) I I];by_cases h1:x.2.1=1
     .rw[if_pos h1]at F
      simp only[h1,if_true,decide_true];rw[bl (n:=a.keys+(n.keys.length:Nat)) I I]
     .simp[h1]
    rw[e];exact h1
   have ac:((if x.2.1=1 then n.keys.length else 0:Nat):Int)+iE b=x.2.2.2.length:=I
   obtain⟨v,g',S,hg⟩:=B (q++b) a1 (x.1::seen) (bd++ [x.1]) (by rw[d,b6];omega) (λy i=>(cE.1 i).elim (λh=>c y (jv _ h)) (D y))
    (by rw[d];exact(nP.nodup_iff).1 Q)
    (λy i=>by
      rw[d]at i;have w:y∈fT b++fT q:=by rcases cE.1 i with h|h<;>simp[h]
      obtain⟨h1,T,U⟩:=l y (jv _ w);exact⟨λp=>by
       rcases cN.1 p with rfl|p
       .exact M w
       .exact h1 p,T,U⟩)
    (by rw[f];show 0<=a.pages+1;omega) (by rw[f,d,b6];show a.pages+1+_<=_;omega) (by rw[f];show 0<=a.keys+_;omega) (by rw[f,u];show a.keys+_+_<=_;omega)
   refine⟨v,g',?_,λz=>by rw[hg,m,d];simp only[cE,cN,er,ez];grind⟩;have V:iy secs (mg q++n.kids.map λk=>(((k:Nat):Int),IntKind.wrap .i64 (((x.2.1:Nat):Int)-1))) a1 (x.1::seen) (bd++ [x.1]) {a with pages:=a.pages+(fT (x::q)).length,keys:=a.keys+iE (x::q)} v g':=by
    rw[bl (n:=((x.2.1:Nat):Int)-1) I I,show((x.2.1:Nat):Int)-1=((x.2.1-1:Nat):Int) from I,←E];have W:mg q++mg b=mg (q++b):=by unfold mg;rw[eU]
    rw[W];have X:({a with pages:=a.pages+(fT (x::q)).length,keys:=a.keys+iE (x::q)}:cr)={a1 with pages:=a1.pages+(fT (q++b)).length,keys:=a1.keys+iE (q++b)}:=by
     rw[f,m,d,t,u];simp only[cr.mk.injEq,eE,b6,true_and,and_true];omega
    rw[X];exact S
   exact .step R V
end
theorem LK{no:Int}{l:O UInt8}{g:Nat}(h:eD no l=.ok (u,n,g)):g8 u n:=by
 unfold eD at h
 cases a:cG no l with
 |error e=>rw[a]at h;cases h
 |ok p=>
  rw[a]at h;dsimp only at h;split at h
  .cases h
  .split at h
   .rename_i hg
    cases h;exact hg
   .cases h
theorem yd{g:Nat}{l:bY}(h:eD (no:Int) l=.ok (u,n,g)):eT n no l=(u,g,2):=by
 obtain⟨p,a⟩:=yb h;have hg:=LK h;unfold eT;rw[if_neg (Fs a),h];dsimp only;rw[if_neg (by unfold g8 at hg;omega)]
section
variable {V:Nat->bY}{n gen:Nat}{u:cD}{g:Nat->ag}{P:Nat->an aA}{p:O Nat}{L:O aY}{secs:O bY}
theorem hD.sup(h:hD V n gen u g P p L)(c:secs.length=n)(h0:secs.getD 0 []=V 0)(h1:secs.getD 1 []=V 1):∃kH s1 hK ao:Int,kH≠1/\s1≠1/\(∃k:Nat,kH=(k:Int))/\(∃k:Nat,s1=(k:Int))/\jn secs=(⟨kH,s1,hK,ao,((gen%2:Nat):Int),0,0,0,0,0⟩,u):=by
 have d:=h.ux;have f:=h.ya;unfold jn;rcases Nat.mod_two_eq_zero_or_one gen with e|e
 .rw[e]at d f⊢
  have b:eT secs.length 0 (secs.getD 0 [])=(u,gen,2):=by rw[c,h0];exact yd d
  have i:cR secs 1=(⟨2,0,gen,0,0,0,0,0,0,0⟩,u):=by rw[se b];rfl
  obtain j|⟨iI,g',l,o⟩:=f
  .have a:eT secs.length 1 (secs.getD 1 [])=(cZ,0,0):=by rw[h1,show V 1=fN from j];exact x7 _ _
   exact⟨2,0,gen,0,by decide,by decide,⟨2,rfl⟩,⟨0,rfl⟩,by rw[AR (by decide) a,i];rfl⟩
  .have a:eT secs.length 1 (secs.getD 1 [])=(iI,g',2):=by rw[c,h1];exact yd (no:=1) l
   refine⟨2,2,gen,g',by decide,by decide,⟨2,rfl⟩,⟨2,rfl⟩,?_⟩;rw[se a,i,if_neg]
   .rfl
   .rintro(m|m)
    .exact absurd m (by show¬(0:Int)<0;omega)
    .have:(gen:Int)<g':=m
     omega
 .rw[e]at d f⊢
  have a:eT secs.length 1 (secs.getD 1 [])=(u,gen,2):=by rw[c,h1];exact yd (no:=1) d
  obtain j|⟨iI,g',l,o⟩:=f
  .have b:eT secs.length 0 (secs.getD 0 [])=(cZ,0,0):=by rw[h0,show V 0=fN from j];exact x7 _ _
   exact⟨0,2,0,gen,by decide,by decide,⟨0,rfl⟩,⟨2,rfl⟩,by rw[se a,AR (by decide) b];rfl⟩
  .have b:eT secs.length 0 (secs.getD 0 [])=(iI,g',2):=by rw[c,h0];exact yd (no:=0) l
   have i:cR secs 1=(⟨2,0,g',0,0,0,0,0,0,0⟩,iI):=by rw[se b];rfl
   refine⟨2,2,g',gen,by decide,by decide,⟨2,rfl⟩,⟨2,rfl⟩,?_⟩;rw[se a,i,if_pos]
   .rfl
   .exact .inr (by show(g':Int)<gen;omega)
theorem hD.look(h:hD V n gen u g P p L)(l:secs.length=n)(hs:∀j,g j=true->secs.getD j []=V j)(N:L.length<=1000000)(m:∀i,n<=i->g i=false):∃r,kI secs r/\r.clean=true/\r.keys=(L.length:Nat)/\(∃k:Nat,r.kH=(k:Int))/\∃k:Nat,r.s1=(k:Int):=by
 have hg:=h.sg;have o:∀j,j<2->g j=true:=λj y=>(h.g j).2 (.inr (.inl y));obtain⟨kH,s1,hK,ao,ba,bL,q,bJ,e⟩:=h.sup l (hs 0 (o 0 I)) (hs 1 (o 1 I));have A:secs.length<=1600:=by unfold g8 at hg;omega
 have B:secs.getD u.map []=V u.map:=hs _ ((h.g _).2 (.inr (.inr rfl)));obtain⟨c1,_,C⟩:=h.mp;have s:∀ (bd:O Nat) (a:cr),(∀z,z∈bd↔z∈p)->jH secs bd u.map a={a with e3:=0,lost:=0}:=λbd a d=>by
  have D:jl u.map bd=g:=by
   funext i;unfold jl;have:=h.g i;rw[ek,this,fC,fC,cq,cq,cq,d];constructor
   .rintro((h|h)|h)
    .exact .inr (.inr h)
    .exact .inl h
    .exact .inr (.inl h)
   .rintro(h|h|h)
    .exact .inl (.inr h)
    .exact .inr h
    .exact .inl (.inl h)
  have E:bitsOf (e4 (fm g ((n+7)/8)))=g:=A4 m;have F:iv (e4 (fm g ((n+7)/8))) n:=Fu m;have G:((ff g n).filter λi=> !(g i.toNat))=[]:=by
   rw[←kN,AS];rw[show(λi=>g i&& !g i)=λ_=>false from funext λi=>by cases g i<;>rfl];rw[←x_];have:∀n,ff (λ_=>false) n=[]:=λn=>by induction n with
    |zero=>rfl
    |succ n H=>simp[ff,H]
   rw[this];rfl
  unfold jH;rw[B,C];dsimp only;rw[l,E,if_pos ⟨rfl,F⟩,D,G];simp
 by_cases f:u.aD=0
 .obtain⟨_,Q,J,K⟩:u.aD=0/\u.root=0/\p=[]/\L=[]:=by
   obtain b|b:=h.ok
   .exact b
   .rw[f]at b;exact b.elim
  refine⟨_,.inr ⟨by rw[e];show(0:Int)<=((gen%2:Nat):Int);omega,_,[],[],.inr ⟨by rw[e];exact f,rfl,rfl⟩,rfl⟩,?_⟩;rw[e];rw[s [] _ (λz=>by rw[J])];refine⟨?_,by rw[K];rfl,q,bJ⟩;simp[cr.clean,Ne.symm ba,Ne.symm bL];omega
 .have t:eK P u.aD none none u.root p L:=by
   obtain b|b:=h.ok
   .exact absurd b.1 f
   .exact b
  have c:fT [(u.root,u.aD,p,L)]=p:=by simp[fT]
  have v:iE [(u.root,u.aD,p,L)]=L.length:=by simp[iE]
  have R:=(t.pages).1;obtain⟨M,g',w,d⟩:=LJ (P:=P) (gen:=gen) A p.length [(u.root,u.aD,p,L)] ⟨kH,s1,hK,ao,((gen%2:Nat):Int),0,0,0,0,0⟩ [] [] (by rw[c];exact a_ _)
   (λx hx=>by rw[dV.1 hx];exact⟨by show 1<=u.aD;omega,by show u.aD<=1000;unfold g8 at hg;omega,_,_,t⟩) (by rw[c];exact h.bu)
   (λx hx=>by
     rw[c]at hx;refine⟨nofun,U4 ((h.two x hx).2.2),λbu cO=>?_⟩;rw[hs x ((h.g x).2 (.inl hx))];exact h.eM x hx bu cO) (Int.le_refl 0) (by rw[c];show(0:Int)+_<=_;omega) (Int.le_refl 0) (by rw[v];show(0:Int)+_<=_;omega)
  rw[c,v]at w;refine⟨_,.inr ⟨by rw[e];show(0:Int)<=((gen%2:Nat):Int);omega,_,M,g',.inl ⟨by rw[e];show 0<u.aD;omega,by rw[e];exact w⟩,rfl⟩,?_⟩;rw[e];rw[s g' _ (λz=>by rw[d,c];simp)];refine⟨?_,by show(0:Int)+_=_;omega,q,bJ⟩;simp[cr.clean,Ne.symm ba,Ne.symm bL];omega
end
section
variable {B C W:U1}{w w':J}{mb:Nat}
theorem jq(d i k:Nat):Addr.add ⟨d,i,none⟩ k=⟨d,i+k,none⟩:=by
 rw[aw]
end
section
variable {w w':J}{D:aS}{V:Nat->bY}{gen:Nat}{u:cD}{g:Nat->ag}{P:Nat->an aA}{bc:O Nat}{bH:O aY}
def uA(D:aS)(j:Nat):Prop:=¬((D.now j).all λc=>c==0)=true/\∃e,cG (j:Int) (D.now j)=.error e
theorem LL(h:hD V D.n gen u g P bc bH)(eG:∀j,g j=true->D.now j=V j\/uA D j):(D.now 0=V 0/\D.now 1=V 1/\kL D.n D.now=.ok (u,gen))\/((∃j,g j=true/\uA D j)/\∃e,kL D.n D.now=.error e):=by
 have hK:g 0=true:=(h.g 0).2 (.inr (.inl (by decide)));have ao:g 1=true:=(h.g 1).2 (.inr (.inl (by decide)));have bad:∀ (j:Nat) (a:an (cD×Nat)),uA D j->∃e,hE D.n j (D.now j) a=.error e:=λj a ⟨h1,e,c⟩=>by
  unfold hE;rw[if_neg h1];unfold eD;rw[c];exact⟨e,rfl⟩
 have b:kk D.n D.now 2=(match hE D.n 0 (D.now 0) none with| .error e=>.error e| .ok a=>hE D.n 1 (D.now 1) a):=rfl;rcases eG 0 hK with h0|h0
 .rcases eG 1 ao with h1|h1
  .refine .inl ⟨h0,h1,?_⟩
   have:=h.kL;unfold kL at this⊢;have d:kk D.n V 2=(match hE D.n 0 (V 0) none with| .error e=>.error e| .ok a=>hE D.n 1 (V 1) a):=rfl;rw[b,h0,h1,←d];exact this
  .right
   refine⟨⟨1,ao,h1⟩,?_⟩;unfold kL;rw[b]
   cases hs:hE D.n 0 (D.now 0) none with
   |error e=>exact⟨e,rfl⟩
   |ok a=>
    obtain⟨e,he⟩:=bad 1 a h1;dsimp only;rw[he];exact⟨e,rfl⟩
 .right
  refine⟨⟨0,hK,h0⟩,?_⟩;obtain⟨e,he⟩:=bad 0 none h0;unfold kL;rw[b,he];exact⟨e,rfl⟩
theorem Fw{c a8:Nat}{a:U1}(h:ej (λ_=>False) w (ji c a8 k D))(d:∀q,a q->q<w/\¬di (ji c a8 k D) q):ej a w (ji c a8 k D):=
 ⟨h.raw,h.inv.pins,λf hf b=>(by
  have:=(List.mem_replicate.1 (show f∈List.replicate k dU from hf)).2
  rw[this]at b
  cases b),h.inv.un,d,h.inv.nD⟩
theorem q5{dw:U1}(h:cf w D)(y:D.quiet)(b4:D.aZ<=800000000)(aK:∀j,g j=true->D.eC j=[])(Q:me (l.al:Nat) (l.batch:Nat) (l.hG:Nat))(b:hD V D.n gen u g P bc bH)(eG:∀j,g j=true->D.now j=V j\/uA D j)(hs:D.cj=g)(aL:D.eS=λ_=> [])(b6:gen<=1000000000)(bd:bH.length<=4000)(be:bc.length<=4000)(aM:∀q,dw q->q<w/\¬bO D q):
 aI aj 25 #[.pointer (some ⟨D.d,0,none⟩),.agg l.c.toArray] w (λv w'=>aa (bO D) w w'/\
  ((∃S:db,v=.tuple #[.pointer (some ⟨S.st,0,none⟩),.int .i64 0]/\e_ w' S bc bH bc bH/\S.failed=false/\S.u=u/\S.gen=gen/\S.now=u.clock/\S.pending=0/\S.l=l/\S.T.C.D.d=D.d/\S.T.n=D.n/\S.T.C.D.quiet/\S.T.C.D.aZ<=D.aZ+9000/\(∀q,S.T.M q->bO D q\/dw q\/w<=q)/\(∀q,S.T.E q↔q=S.st\/dw q)/\w.heap.size<=S.st/\S.T.C.D.r1=D.r1)\/
   (∃e:Int,v=.tuple #[.pointer none,.int .i64 e]/\e≠0/\∃j,g j=true/\uA D j))):=by
 refine okF (ad.q5 (some ⟨D.d,0,none⟩) (l.al:Nat) (l.batch:Nat) (l.hG:Nat)) ay.q5 func25 ?_;(delta ad.q5 aF r1 ae aT bZ c0 bR af oc eo bf gR b5;dsimp only);have b7:=h.bL;have b8:=h.bz;have J:=b.sg;have Z:g u.map=true:=(b.g _).2 (.inr (.inr rfl));refine bg (vs:=l.c) rfl λw1 ac aO b9=>⟨_,ac.cell,_,ac.cell,_,ac.cell,(pB w1 _ _ _ _).use ?_⟩;rintro _ b_ ⟨rfl,aP⟩;refine⟨_,rfl,λaQ=>?_,λ_=>?_⟩
 .rw[dm Q]at aQ;cases aQ
 have am:=aO.trans aP;have bh:=h.ext am;have bi:=ac.ext aP;refine(q8 bh y I).use ?_;rintro v ao ⟨bj,ap,K⟩;have cb:=am.size;have cc:=ap.size;have cd:=aO.size;have ag:∀q,q=D.d->bO D q:=λq e=>.inl e;have aR:aa (bO D) w ao:=cn (am.mono λ_ _ h=>h.elim) ap λq _ e=>ag q e;have bl:=bi.ab ap λe=>U4 (h.lt (q:=D.d) (.inl rfl))
 rcases LL b eG with ⟨bm,bn,ar⟩|⟨bo,e,ar⟩
 rotate_left
 .rw[ar]at K
  obtain⟨he,iI,rfl⟩:=K;refine⟨_,_,_,_,_,_,0,e,rfl,bg (vs:=cZ.c) rfl λbp au av bq=>fQ au rfl iI λah ax az _=>⟨λ_=>?_,λhx=>absurd (by simpa using hx) he⟩⟩;have R:Ext ao ah:=Ext.bQ av az (a_ _);exact⟨cn aR R λq _ h=>h.elim,.inr ⟨e,rfl,he,bo⟩⟩
 rw[ar]at K;obtain rfl:=K;refine⟨_,_,_,_,_,_,_,0,rfl,bg (vs:=cZ.c) rfl λbp au av bq=>fQ au rfl u λah ax az _=>⟨nofun,λ_=>⟨_,ax.cell,?_⟩⟩⟩;have R:Ext ao ah:=Ext.bQ av az (a_ _);have br:=bj.ext R;have bs:=bl.ext R;have aS:∀i,D.n<=i->g i=false:=λi hi=>by
  cases hg:g i with
  |false=>rfl
  |true=>
   rcases(b.g i).1 hg with h1|h1|h1
   .have:=(b.two i h1).2.2;omega
   .omega
   .have:=J.2.2.2.1;omega
 have aU:=b.mp;have bt:(∃c1,cG ((u.map:Nat):Int) (D.now u.map)=.ok ⟨4,c1,fm g ((D.n+7)/8)⟩)\/∃e,cG ((u.map:Nat):Int) (D.now u.map)=.error e:=by
  rcases eG u.map Z with h1|h1
  .obtain⟨c1,_,a⟩:=aU
   exact .inl ⟨c1,by rw[h1];exact a⟩
  .exact .inr h1.2
 refine(q9 br y I J.2.2.2.1 aS bt).use ?_;rintro v aV ⟨bv,ai,K⟩;have ce:=R.size;have bw:aa (bO D) w ah:=cn aR R λq _ h=>h.elim;have aW:aa (bO D) w aV:=cn bw ai λq _ e=>ag q e;obtain⟨sb,s1,s2,rfl,⟨c1,bx⟩,fp,bA⟩|⟨e,rfl,he,cg,aX⟩:=K
 rotate_left
 .refine⟨none,e,rfl,λ_=>⟨aW,.inr ⟨e,rfl,he,u.map,Z,?_⟩⟩,λhx=>absurd (by simpa using hx) he⟩
  rcases eG u.map Z with h1|h1
  .obtain⟨c1,_,a⟩:=aU
   rw[h1,a]at aX;cases aX
  .exact h1
 have aY:∀q,w.heap.size<=q->¬bO D q:=λq y hf=>U4 (h.lt hf)
 have aB:=bs.ab ai λe=>aY _ (a_ _) (ag _ e);have a0:=ax.ab ai λe=>aY _ I (ag _ e);have bB:D.now u.map=V u.map:=by
  rcases eG u.map Z with h1|⟨_,e,h1⟩
  .exact h1
  .rw[bx]at h1;cases h1
 refine⟨_,0,rfl,nofun,λ_=>⟨_,aB.cell,_,aB.cell,_,aB.cell,fe a0 ?_⟩⟩;have bC:=oo bv (l:=l) (u:=u) (gen:=gen) ⟨U4 Q.1,U4 Q.2.1⟩ ⟨I,U4 J.2.1,I,U4 J.2.2.1,U4 J.1⟩ I (λj G=>by rw[aL,aK j (hs▸G)]) sb;refine bC.use ?_;rintro _ U ⟨c,a8,bE,st,B⟩;have bD:=B.val;subst bD;refine⟨_,0,rfl,nofun,λ_=>⟨_,by rw[aw];exact(a0.ext B.x).cell,?_⟩⟩;have ch:=ai.size;have ci:=B.x.size;have ck:=B.sv.lt;have cl:=B.hc;have co:=B.hf;have cp:=B.ht;obtain⟨P',ak⟩:∃P':Nat->an aA,P'=λno=>if no∈bc then (if D.now no=V no then P no else none) else none:=⟨_,rfl⟩
 obtain⟨T,o⟩:=U6 (⟨bE,gen+1,u.root,u.aD,ji c a8 l.al D,sb,D.n,g,g,s1,s2,λq=>q=st\/dw q,λ_=>False,P'⟩:aN);have W:∀q,di (ji c a8 l.al D) q->q=c\/q=a8\/bO D q:=λq h=>h;have Y:∀q,eH sb s1 s2 q->w<=q/\q<aV:=λq y=>⟨U4 (bA q y),fp.lt q y⟩;have bF:∀q,T.X q->q=bE\/eH sb s1 s2 q\/q=st\/dw q:=λq y=>by
  rw[o]at y;obtain h1|h1|h1|h1:=y
  .exact .inl h1
  .exact .inr (.inl h1)
  .exact .inr (.inr h1)
  .exact h1.elim
 have aC:∀q,bO D q->q<w:=λq y=>h.lt y;have a4:cm U T:=by
  have a5:ej T.X U (ji c a8 l.al D):=Fw B.ca λq y=>by
   rcases bF q y with h1|h1|h1|h1
   .refine⟨I,λhf=>?_⟩
    rcases W q hf with a|a|a
    .omega
    .omega
    .have:=aC q a;omega
   .have A:=Y q h1
    refine⟨I,λhf=>?_⟩;rcases W q hf with a|a|a
    .omega
    .omega
    .have:=aC q a;omega
   .refine⟨I,λhf=>?_⟩
    rcases W q hf with a|a|a
    .omega
    .omega
    .have:=aC q a;omega
   .have A:=aM q h1
    refine⟨I,λhf=>?_⟩;rcases W q hf with a|a|a
    .omega
    .omega
    .exact A.2 a
  rw[o]at a5⊢;refine⟨B.fK,fp.ext B.x,a5,λhf=>U4 (Y bE hf),λq y=>?_,λq y=>y.elim,rfl,⟨J.2.2.1,J.2.1,by show gen+1<_;omega⟩,λno bu F=>?_,λj G=>.inl (hs▸G),⟨(b.g 0).2 (.inr (.inl (by decide))),(b.g 1).2 (.inr (.inl (by decide)))⟩⟩
  .have y:q=st\/dw q:=y
   obtain h1|h1:=y
   .exact⟨by show q≠bE;omega,λhf=>U4 (Y q hf),λh=>h⟩
   .have A:=aM q h1
    exact⟨by show q≠bE;omega,λhf=>U4 (Y q hf),λh=>h⟩
  .have F:P' no=some bu:=F
   rw[ak]at F;dsimp only at F;by_cases h1:no∈bc
   .rw[if_pos h1]at F
    by_cases a:D.now no=V no
    .rw[if_pos a]at F
     refine⟨(b.two no h1).2.2,?_⟩;show g9 (gen+1) bu.leaf no ((ji c a8 l.al D).view no) bu;rw[Af,a];exact(b.eM no h1 bu F).mono I
    .rw[if_neg a]at F;cases F
   .rw[if_neg h1]at F;cases F
 obtain⟨S,z⟩:=U6 (⟨st,T,l,u,gen,u.clock,0,0,u.keys,false⟩:db);have aE:Var U S.st S.cells 146:=by
  rw[z];show Var U st (jJ T.bE T.C.D.d T.C.c T.sb _ _ _ _ _ _ _ _) _;rw[o];exact B.sv
 have fq:S.T=T:=by rw[z]
 have aG:S.u=u:=by rw[z]
 have bG:g0 (T.bK T.C P) bc bH:=by
  rw[o];exact b.ok
 have a6:=Lr (S:=S) (fM:=P) (pages:=bc) (L:=bH) (m:=((u.keys:Nat):Int)) aE (fq▸a4) (by rw[z,o];exact .inl rfl) (fq▸bG) (λx hx bu F=>?_) b.bu (λno=>by rw[fq,aG,o];exact b.g no) (λx hx=>by rw[aG];exact⟨(b.two x hx).1,(b.two x hx).2.1⟩) (by rw[fq,aG,o];exact⟨J.2.2.2.2.1,J.2.2.2.1⟩) bd be (by rw[fq,o];show D.aZ<=_;omega)
 rotate_left
 .rw[fq,o]
  rcases eG x ((b.g x).2 (.inl hx)) with h1|h1
  .left
   show P' x=some bu;rw[ak];dsimp only;rw[if_pos hx,if_pos h1];exact F
  .right
   obtain⟨_,e,a⟩:=h1;exact⟨⟨(b.two x hx).2.2,(b.two x hx).1⟩,e,by show cG _ ((ji c a8 l.al D).view x)=_;rw[Af];exact a⟩
 rw[show S.st=st by rw[z]]at a6;refine a6.use ?_;rintro v bI ⟨aq,bJ,H,a7,K⟩;rw[fq]at H a7 K;have bM:aa (bO D) w U:=cn aW B.x λq _ h=>h.elim;have bN:∀q,T.N q->bO D q\/w<=q:=λq y=>by
  rw[o]at y;obtain h1|h1|h1|h1:=y
  .rcases W q h1 with a|a|a
   .exact .inr I
   .exact .inr I
   .exact .inl a
  .have h1:q=bE:=h1
   exact .inr I
  .exact .inr (Y q h1).1
  .exact h1.elim
 have a9:aa (bO D) w bI:=cn bM H.to.ab λq cq y=>(bN q y).resolve_right I;obtain⟨rfl,cr,bP⟩|⟨e,rfl,he,bS⟩:=K
 .refine⟨0,rfl,nofun,λ_=>⟨a9,.inl ?_⟩⟩
  have ba:∀x∈bc,D.now x=V x:=λx hx=>by
   rcases eG x ((b.g x).2 (.inl hx)) with h1|⟨_,e,h1⟩
   .exact h1
   .exfalso
    have O:=bP x hx;rw[o]at O;have O:P' x=P x:=O;have aH:∃bu,P x=some bu:=by
     obtain⟨_,_,a,_⟩|a:=b.ok
     .rw[a]at hx;cases hx
     .exact a.node _ x hx
    obtain⟨bu,cO⟩:=aH;rw[cO,ak]at O;dsimp only at O;rw[if_pos hx]at O;by_cases a:D.now x=V x
    .obtain⟨p,A,_⟩:=b.eM x hx bu cO
     rw[a,A]at h1;cases h1
    .rw[if_neg a]at O;cases O
  have bT:∀j,g j=true->D.bk.getD j []=V j:=λj G=>by
   have bU:D.now j=D.bk.getD j []:=by rw[xK D (λx hx=>(h.wn x hx).1),if_pos (aK j G)]
   rw[←bU];rcases(b.g j).1 G with h1|h1|h1
   .exact ba j h1
   .rcases dA j 1 with a|a
    .rw[show j=0 from I];exact bm
    .rw[show j=1 from I];exact bn
   .rw[h1];exact bB
  have bV:∀x∈bc,P x=P' x:=λx hx=>by rw[ak];dsimp only;rw[if_pos hx,if_pos (ba x hx)]
  have bW:e_ U S bc bH bc bH:=by
   have hd:=b.agree bT bV;rw[z];refine⟨⟨by rw[z]at aE;exact aE,a4,by rw[o];exact .inl rfl,by rw[o];exact hd,by rw[o],⟨b.Fb.clock,cw _,b.Fc,by show gen+2<_;omega,?_,?_,?_⟩,λj G=>?_⟩,?_,b.bu,by rw[o];exact b.g,λx hx=>⟨(b.two x hx).1,(b.two x hx).2.1⟩,b.kv,b.keys,cw _,λ_=>⟨?_,by rw[o];exact aL,?_⟩,nofun⟩
   .have:=Q.2.2.2.1;show l.batch<=1000;omega
   .have:=Q.2.2.2.2.2;show l.hG<=1048576;omega
   .have:=Q.2.2.1;show 1<=l.batch;omega
   .have G:T.g j=true:=G
    show T.C.D.cj j=true;rw[o]at G⊢;show D.cj j=true;rw[hs];exact G
   .have h1:=hd.ok
    rw[o];exact h1
   .intro e
    have h1:=e D.n;have a:T.C.D.cj=g:=by rw[o];exact hs
    have h1:T.C.D.cj D.n=true:=h1;rw[a,aS D.n (a_ _)]at h1;cases h1
   .obtain⟨j,bX,bY⟩:=b.fr
    have h1:=uf (s:=λi=>g i||g i) (t:=c9 (λi=>g i||g i) j true) (k:=j) (by simp[bY]) (by simp[c9]) (λi hi=>by simp[c9,hi]) (n:=D.n) bX;have a:=l9 (c9 (λi=>g i||g i) j true) D.n;have A:cy T=D.n-cH (λi=>g i||g i) D.n:=by rw[o];rfl
    show 1<=cy T;omega
  obtain⟨a1,a2,a3⟩:=bW.to bJ (fq▸H.to) (fq▸H.E) (fq▸a7) ⟨by rw[fq];exact H.root,by rw[fq];exact H.aD,by rw[fq];exact H.f,λno _=>by rw[fq];exact⟨congrFun H.P no,H.view no⟩⟩;have b0:S.T.C.D.quiet:=by rw[fq,o];exact y
  refine⟨S.dk aq,by rw[show(S.dk aq).st=st by rw[z];rfl],a1,by rw[z];rfl,by rw[z];rfl,by rw[z];rfl,by rw[z];rfl,by rw[z];rfl,by rw[z];rfl,?_,?_,a2.q b0,?_,λq b1=>?_,λq=>?_,?_,?_⟩
  .rw[a2.d,fq,o];rfl
  .rw[a2.n,fq,o]
  .have h1:=a2.aZ
   have a:S.T.C.D.aZ=D.aZ:=by rw[fq,o];rfl
   omega
  .have h1:=H.to.dr q b1
   obtain h1|h1:=h1
   .rw[o]at h1
    obtain h1|h1|h1|h1|h1:=h1
    .rcases W q h1 with a|a|a
     .exact .inr (.inr I)
     .exact .inr (.inr I)
     .exact .inl a
    .have h1:q=bE:=h1
     exact .inr (.inr I)
    .exact .inr (.inr (Y q h1).1)
    .have h1:q=st\/dw q:=h1
     obtain h1|h1:=h1
     .exact .inr (.inr I)
     .exact .inr (.inl h1)
    .exact h1.elim
   .exact .inr (.inr I)
  .show aq.E q↔q=(S.dk aq).st\/dw q
   rw[H.E,o,z];rfl
  .show w.heap.size<=S.st
   rw[z];show w<=st;omega
  .rw[a2.r,fq,o];rfl
 .refine⟨e,rfl,λ_=>⟨a9,.inr ⟨e,rfl,he,?_⟩⟩,λhx=>absurd (by simpa using hx) he⟩
  obtain h1|⟨x,hx,h1⟩|h1:=bS
  .rw[o]at h1
   exact absurd (y.1 _) h1
  .have bb:=(b.g x).2 (.inl hx)
   refine⟨x,bb,?_⟩;rcases eG x bb with a|a
   .exfalso
    obtain⟨_,b2,A⟩:=h1;rw[o]at A;have A:cG ((x:Nat):Int) ((ji c a8 l.al D).view x)=.error b2:=A;rw[Af,a]at A;have aH:∃bu,P x=some bu:=by
     obtain⟨_,_,aJ,_⟩|aJ:=b.ok
     .rw[aJ]at hx;cases hx
     .exact aJ.node _ x hx
    obtain⟨bu,cO⟩:=aH;obtain⟨p,b3,_⟩:=b.eM x hx bu cO;rw[b3]at A;cases A
   .exact a
  .exact absurd (by rw[b.keys]) h1
end
structure A5(D:aS)(l:gB)(dw:U1)(k:Nat)(w w':J)(S:db):Prop where
 live:S.failed=false
 sh:S.pending=0
 now:S.now=S.u.clock
 l:S.l=l
 d:S.T.C.D.d=D.d
 n:S.T.n=D.n
 q:S.T.C.D.quiet
 aZ:S.T.C.D.aZ<=D.aZ+k
 M:∀q,S.T.M q->bO D q\/dw q\/w<=q
 E:∀q,S.T.E q↔q=S.st\/dw q
 st:w.heap.size<=S.st
 r:S.T.C.D.r1=D.r1
 ab:aa (bO D) w w'
section
variable {w w':J}{D:aS}{dw:U1}
theorem LM(h:cf w D)(z:me (l.al:Nat) (l.batch:Nat) (l.hG:Nat))(O:∀k,D.calm k)(rT:D.bN.getD 3 0= -1)(P:D.aZ<=999999000)(A:∀q,dw q->q<w/\¬bO D q):
 aI aj 21 #[.pointer (some D.d),.agg l.c.toArray] w (λv w'=>∃S:db,v=.tuple #[.pointer (some S.st),U8]/\e_ w' S [] [] [] []/\A5 D l dw 4 w w' S/\S.u=iT/\S.gen=1):=by
 have ac:=h.bL;have Q:=h.bz;refine(oh h z O rT P).mono ?_;rintro v w' ⟨az,sb,s1,s2,c,a8,bE,st,kD,R⟩;obtain rfl:=R.r7.val;have hd:=R.kW;have B:=R.r7;have ad:=R.ab.size;have ae:=B.x.size;have af:=B.hc;have ag:=B.hf;have ah:=B.ht;have ai:=B.sv.lt;have F:∀j,az.bk.getD j []=az.now j:=λj=>by unfold aS.now;rw[hd.waits];rfl
 have o:∀q,di (ji c a8 l.al az) q->q=c\/q=a8\/bO az q:=λq h=>h;have H:∀q,bO az q->q<kD:=λq f=>by
  rcases R.dq q f with h1|h1
  .have:=h.lt h1;omega
  .omega
 have U:az.quiet:=⟨hd.calm,hd.bN⟩;obtain⟨T,b⟩:=U6 (⟨bE,1+1,0,0,ji c a8 l.al az,sb,D.n,λi=>decide (i<3),λi=>decide (i<3),s1,s2,λq=>q=st\/dw q,λ_=>False,λ_=>none⟩:aN);have V:∀q,dw q->q<w/\¬bO az q:=λq f=>⟨(A q f).1,λhf=>by
  rcases R.dq q hf with h1|h1
  .exact(A q f).2 h1
  .have:=(A q f).1;omega⟩
 have W:cm w' T:=by
  have J:ej T.X w' (ji c a8 l.al az):=Fw B.ca λq f=>by
   rw[b]at f;obtain h1|h1|h1|h1:=f
   .have h1:q=bE:=h1
    refine⟨I,λhf=>?_⟩;rcases o q hf with a|a|a
    .omega
    .omega
    .have:=H q a;omega
   .have E:=R.uv q h1
    refine⟨I,λhf=>?_⟩;rcases o q hf with a|a|a
    .omega
    .omega
    .have ak:=B.ca.raw.dev
     exact R.KS q h1 a
   .rcases(show q=st\/dw q from h1) with h1|h1
    .refine⟨I,λhf=>?_⟩
     rcases o q hf with a|a|a
     .omega
     .omega
     .have:=H q a;omega
    .have E:=V q h1
     refine⟨I,λhf=>?_⟩;rcases o q hf with a|a|a
     .omega
     .omega
     .exact E.2 a
   .exact h1.elim
  rw[b]at J⊢;refine⟨B.fK,R.sp,J,λhf=>U4 (R.uv bE hf),λq f=>?_,λq f=>f.elim,hd.n,⟨by show 0<D.n;omega,(by decide:0<=12),(by decide:1+1<18446744073709551616)⟩,λno bu G=>(by cases G),λj m=>.inl ?_,⟨rfl,rfl⟩⟩
  .rcases(show q=st\/dw q from f) with h1|h1
   .exact⟨by show q≠bE;omega,λhf=>U4 (R.uv q hf),λh=>h⟩
   .have E:=A q h1
    exact⟨by show q≠bE;omega,λhf=>U4 (R.uv q hf),λh=>h⟩
  .have m:az.cj j=true:=m
   rw[hd.cj]at m;exact m
 have K:g8 iT D.n:=⟨Iff.intro (λ_=>rfl) (λ_=>rfl),by decide,by show 0<D.n;omega,by show 2<D.n;omega,by decide,Q⟩;have L:oJ iT:=⟨by decide,by decide,by decide,by decide,by decide,by decide⟩;have M:hD (λj=>az.bk.getD j []) D.n 1 iT (λi=>decide (i<3)) (λ_=>none) [] []:=by
  refine⟨⟨3,I,rfl⟩,?_,.inl ?_,⟨1,a_ _,?_⟩,λno=>?_,o5,λx hx=>(by cases hx),.inl ⟨rfl,rfl,rfl,rfl⟩,λx hx=>(by cases hx),rfl,λq f=>(by cases f),L,K,a_ _⟩
  .show eD ((1:Nat):Int) (az.bk.getD 1 [])=_
   rw[F,hd.now];exact zX L K (by decide) (by decide)
  .show az.bk.getD 0 []=fN
   rw[F,hd.now];rfl
  .show cG ((2:Nat):Int) (az.bk.getD 2 [])=_
   rw[F,hd.now];exact tS I ⟨(by decide:1<=4),(by decide:4<=4),(by decide:1<18446744073709551616),by show(fm _ _).length<=232;rw[qc];omega⟩
  .show decide (no<3)=true↔no∈ []\/no<2\/no=2
   simp only[er,false_or,cq];omega
 obtain⟨S,y⟩:=U6 (⟨st,T,l,iT,1,0,0,0,0,false⟩:db);have Y:1<=cy T:=by
  have h1:=uf (s:=λi=>decide (i<3)||decide (i<3)) (t:=c9 (λi=>decide (i<3)||decide (i<3)) 3 true) (k:=3) U9 (by simp[c9]) (λi hi=>by simp[c9,hi]) (n:=D.n) I;have a:=l9 (c9 (λi=>decide (i<3)||decide (i<3)) 3 true) D.n;have E:cy T=D.n-cH (λi=>decide (i<3)||decide (i<3)) D.n:=by rw[b];rfl
  omega
 refine⟨S,by rw[y],?_,?_,by rw[y],by rw[y]⟩
 .rw[y]
  refine⟨⟨?_,W,by rw[b];exact .inl rfl,by rw[b];exact M,by rw[b],⟨(by decide:0<18446744073709551616),a_ _,a_ _,(by decide:1+2<18446744073709551616),?_,?_,?_⟩,λj m=>?_⟩,.inl ?_,o5,?_,λx hx=>(by cases hx),λp G=>(by cases G),rfl,cw _,λ_=>⟨?_,by rw[b];exact hd.eS,Y⟩,nofun⟩
  .show Var w' st (jJ T.bE T.C.D.d T.C.c T.sb _ _ _ _ _ _ _ _) _
   rw[b];exact B.sv
  .have:=z.2.2.2.1;show l.batch<=1000;omega
  .have:=z.2.2.2.2.2;show l.hG<=1048576;omega
  .have:=z.2.2.1;show 1<=l.batch;omega
  .have m:T.g j=true:=m
   show T.C.D.cj j=true;rw[b]at m⊢;show az.cj j=true;rw[hd.cj];exact m
  .rw[b];exact⟨rfl,rfl,rfl,rfl⟩
  .intro no
   have Z:=M.g no;rw[b];exact Z
  .intro e
   have h1:az.cj 5=true:=by have:=e 5;rw[b]at this;exact this
   rw[hd.cj]at h1;cases h1
 .rw[y]
  refine⟨rfl,rfl,rfl,rfl,by rw[b];exact hd.d,by rw[b],by rw[b];exact U,by rw[b];show az.aZ<=_;rw[hd.aZ];omega,λq N=>?_,λq=>by rw[b],by show w<=st;omega,by rw[b];exact hd.r,cn R.ab B.x λq _ h=>h.elim⟩;rw[b]at N;have aa:∀q,bO az q->bO D q\/dw q\/w<=q:=λq f=>by
   rcases R.dq q f with h1|h1
   .exact .inl h1
   .exact .inr (.inr h1.1)
  obtain h1|h1|h1|h1|h1:=N
  .rcases o q h1 with a|a|a
   .exact .inr (.inr I)
   .exact .inr (.inr I)
   .exact aa q a
  .have h1:q=bE:=h1
   exact .inr (.inr I)
  .exact .inr (.inr (R.uv q h1).1)
  .rcases(show q=st\/dw q from h1) with h1|h1
   .exact .inr (.inr I)
   .exact .inr (.inl h1)
  .exact h1.elim
end
structure jr where
 kind:Int
 n:Int
 after:Int
 tk:U
 fK:U
 tl:U
 key:Key
 val:Key
 l:O Int
def jr.c(a:jr):O Y:=[a.kind,a.n,a.after,a.tk,a.fK,a.tl]
structure qi(w:J)(a:jr):Prop where
 k:Src 1 w a.tk (aC a.key)
 Fx:a.tk.len<=a.tk.cap
 v:Src 1 w a.fK (aC a.val)
 nY:a.fK.len<=a.fK.cap
 l:Src 1 w a.tl (a.l.map encZ)
 lc:a.tl.len<=a.tl.cap
 Fy:∀z∈a.l,z<=9223372036854775807
 LN: -9223372036854775808<=a.n/\a.n<=9223372036854775807
 LO:a.after<=9223372036854775807
 nI:∀q,ar a.tl q->w<=q->a.l=[]
structure lN(w:J)(l:U)(A:O jr):Prop where
 s:Src 6 w l (cl jr.c A)
 ok:∀a∈A,qi w a
theorem A6(A:O jr):∀x∈A,(jr.c x).length=6:=λ_ _=>rfl
section
variable {w w':J}{l:U}{A:O jr}{a:jr}
theorem qi.ext(h:qi w a)(hx:Ext w w'):qi w' a:=⟨h.k.ext hx,h.Fx,h.v.ext hx,h.nY,h.l.ext hx,h.lc,h.Fy,h.LN,h.LO,λq b c=>h.nI q b (fg hx.size c)⟩
theorem lN.ext(h:lN w l A)(hx:Ext w w'):lN w' l A:=⟨h.s.ext hx,λa b=>(h.ok a b).ext hx⟩
theorem lN.len(h:lN w l A):l.len=A.length:=by
 have:=h.s.len;rw[gL _ (A6 A)]at this;omega
theorem lN.at(h:lN w l A)(hi:i<A.length):∃a:ax,l.a=some a/\((0:Int)<=(i:Int)/\(i:Int)<(l.len:Int))/\∀j v,(jr.c A[i])[j]? =some v->w.cell? ((a.add (Int.toNat (i:Int)*6)).add j)=some v:=by
 have k:=h.len
 cases b:l.a with
 |none=>
  have:=congrArg List.length (h.s.nil b);rw[gL _ (A6 A),ic]at this;omega
 |some a=>
  have f:=h.s.rd a b;refine⟨a,rfl,⟨I,I⟩,λj v d=>?_⟩;have g:j<6:=(jK.1 d).1;have e:=qQ f (j:=i*6+j) (v:=v) (by rw[p0 (A6 A) hi g];exact d);rw[cT]at e;rw[cS,add_add];exact e
theorem LP{s:U}(h:n2 aj w 3 s):∃l:O Int,Src 1 w s (l.map encZ)/\∀z∈l,z<=9223372036854775807:=by
 obtain⟨l,h1,_,b⟩:=h.src (c:=λz:Int=> [encZ z]) (sz:=1) U3 (λz=>z<=9223372036854775807) λfuel us d=>by
  obtain⟨n,rfl,b,f⟩:=n3 d (k:=.i64) U3;exact⟨n,rfl,f⟩
 have e:∀l:O Int,(l.map λz:Int=> [encZ z]).flatten=l.map encZ:=λl=>by
  induction l with
  |nil=>rfl
  |cons a l g=>rw[iX,uG,g];rfl
 rw[e]at h1;exact⟨l,h1,b⟩
theorem Src.nI{s:U}{l:O Int}(h:Src 1 w s (l.map encZ)):∀q,ar s q->w<=q->l=[]:=by
 rintro q ⟨a,c,rfl⟩ d
 cases e:l with
 |nil=>rfl
 |cons v us=>
  have f:=h.rd a c;have b:w.cell? (a.add (0+0))=some (encZ v):=tb f (by rw[e];rfl);rw[lO,add_zero']at b;have:w.heap[a.block]? =none:=by simp[d]
  simp[World.cell?,this]at b
set_option maxRecDepth 100000 in
theorem LQ{fuel:Nat}{vs:O Y} (h:hF aj w fuel 74 vs):∃a:jr,vs=a.c/\qi w a:=by
 have hu:Tryz.prog.underlying 74=some (.struct (fieldsOf aj 74)):=by kernel_rfl
 have hlen:vs.length=6:=by
  have:=(yL h hu).1;rwa[show Tryz.prog.cellsOf 74=6 by kernel_rfl]at this
 obtain⟨_,f0⟩:=ni h hu 0 (t:=3) (o:=0) (n:=1) U3 U3;obtain⟨_,f1⟩:=ni h hu 1 (t:=3) (o:=1) (n:=1) U3 U3;obtain⟨_,f2⟩:=ni h hu 2 (t:=3) (o:=2) (n:=1) U3 U3;obtain⟨_,f3⟩:=ni h hu 3 (t:=39) (o:=3) (n:=1) U3 U3;obtain⟨_,f4⟩:=ni h hu 4 (t:=39) (o:=4) (n:=1) U3 U3;obtain⟨_,f5⟩:=ni h hu 5 (t:=72) (o:=5) (n:=1) U3 U3;obtain⟨ba,g,_⟩:=n3 f0 (k:=.i64) U3;obtain⟨bL,i,v,x⟩:=n3 f1 (k:=.i64) U3;obtain⟨bz,j,_,y⟩:=n3 f2 (k:=.i64) U3;obtain⟨d3,l,m⟩:=vg f3 (e:=5) U3;obtain⟨d4,p,q⟩:=vg f4 (e:=5) U3;obtain⟨d5,r,s⟩:=vg f5 (e:=3) U3;obtain⟨z,A⟩:=ED m;obtain⟨B,C⟩:=ED q;obtain⟨D,u,aW⟩:=LP s;refine⟨⟨ba,bL,bz,d3,d4,d5,z,B,D⟩,?_,A,m.le,C,q.le,u,s.le,aW,⟨v,x⟩,y,Src.nI u⟩
 match vs,hlen with
 | [a,b,c,d,e,f],_=>
  simp at g i j l p r;rw[g,i,j,l,p,r];rfl
set_option maxRecDepth 100000 in
theorem lN.of(h:nd aj w 60 v):∃ (l:U) (A:O jr),v=l/\lN w l A:=by
 obtain⟨t,rfl,ht⟩:=n2.of h (e:=74) U3;obtain⟨A,h1,_,b⟩:=ht.src (c:=jr.c) (sz:=6) U3 (λa=>qi w a) λfuel vs d=>LQ d;exact⟨t,A,rfl,h1,b⟩
structure Fz(w0:J)(B:U1)(w:J)(a:jr)(b sv sl:U):Prop where
 k:bI B w b (a.key.take 26)
 v:bI B w sv (a.val.take 26)
 l:Src 1 w sl ((a.l.take 60).map encZ)
 nI:∀q,ar sl q->w0<=q->a.l=[]
theorem rL(h0:qi w0 a)(ai:Ext w0 w):aI aj 22 #[.agg a.c.toArray] w (λv w'=>∃d sv sl:U,v=.agg #[a.kind,a.n,a.after,d,sv,sl]/\Ext w w'/\Fz w0 (λq=>w.heap.size<=q) w' a d sv sl):=by
 have h:=h0.ext ai;refine okF (ad.rL a.kind a.n a.after a.tk a.fK a.tl) ay.rL func22 ?_;(delta ad.rL vB b1 c2 dC aJ ae bU st av af r1 aT bf;dsimp only);refine bg (vs:=a.c) rfl λw1 ak O aC=>bg (vs:=[U8,U8,U8,(),(),()]) rfl λah C P aD=>aH ?_;obtain⟨u,Q⟩:=U6 ah.drew;rw[←Q];have x:Ext ah u:=by rw[Q];exact cc _
 have y:=(O.trans P).trans x;have aE:=O.size;have aF:=y.size;have aG:=x.size;have z:=(ak.ext P).ext x;have aK:=z.lt;have R:¬u.heap.size<=w.heap.size:=by omega
 refine⟨λq=>u.heap.size<=q,by rw[jq];exact R,a.tk,by rw[jq];exact z.cell,by rw[jq];exact R,a.fK,by rw[jq];exact z.cell,(EC (h.k.ext y) h.Fx 26 (by decide)).use ?_⟩;rintro _ aL ⟨d,rfl,ok,j,D⟩;refine⟨d,rfl,aa.da j,(EC ((h.v.ext y).ext j) h.nY 26 (by decide)).use ?_⟩;rintro _ S ⟨sv,rfl,al,m,E⟩;refine⟨sv,rfl,aa.da m,?_⟩;have T:=(z.ext j).ext m;have aM:=j.size;rw[jq,jq,jq];obtain⟨bJ,b4⟩:=dT T (i:=3) (by show 3<6;decide);refine⟨bJ,b4,aH ?_⟩;have o:=dz S w.heap.size 3 d;have F:=ei T (i:=3) d;generalize S.setCell ⟨w.heap.size,3,none⟩ d=V at o F;obtain⟨am,an⟩:=dT F (i:=4) (by show 4<6;decide);refine⟨am,an,aH ?_⟩;have p:=dz V w.heap.size 4 sv;have r:=ei F (i:=4) sv;generalize V.setCell ⟨w.heap.size,4,none⟩ sv=G at p r;have ao:=(y.trans j).trans m;have A:Ext w G:=Ext.bQ ao (o.trans p) (a_ _);have W:∀q,ar d q->¬q=w.heap.size:=λq b e=>by have:=D q b;omega
 have X:∀q,ar sv q->¬q=w.heap.size:=λq b e=>by have:=E q b;omega
 have ap:=(ok.ext m).ab (o.trans p) W;have aq:=al.ab (o.trans p) X;refine jQ (λs=>∃sl:U,Ext w s/\aa (λq=>q=w.heap.size) G s/\Var s w.heap.size [a.kind,a.n,a.after,d,sv,sl] 74/\Src 1 s sl ((a.l.take 60).map encZ)/\∀q,ar sl q->ar a.tl q)
  (λq b=>⟨a.tl,r.cell,λg=>⟨a.tl,r.cell,⟨by decide,?_⟩,?_⟩,λg=>b _ ⟨a.tl,A,.refl _ _,r,?_,λq h=>h⟩⟩) ?_
 .have g:(a.tl.len:Int)>60:=bB g
  have:=h.lc;omega
 .have g:(a.tl.len:Int)>60:=bB g
  obtain⟨au,aw⟩:=dT r (i:=5) (by show 5<6;decide);have Y:=Src.cut (h.l.ext A) h.lc (cw 60) I;have H:=dz G w.heap.size 5 (.slice (bj a.tl.a 1 0 a.tl.cap) (Int.toNat 60-0) (a.tl.cap-0));refine⟨au,aw,aH (b _ ⟨⟨bj a.tl.a 1 0 a.tl.cap,60-0,a.tl.cap-0⟩,Ext.bQ A H (a_ _),H,ei r (i:=5) _,?_,λq b=>Dv.1 b⟩)⟩;have e:((a.l.map encZ).drop (0*1)).take ((60-0)*1)=(a.l.take 60).map encZ:=by rw[m3];rfl
  rw[e]at Y;exact Src.A1 Y H λq b e=>by
   have:=h.nI q (Dv.1 b) I;rw[this];rfl
 .have g:¬(a.tl.len:Int)>60:=bT g
  have K:=h.l.len;rw[cV]at K;rw[eZ I];exact h.l.ext A
 rintro s ⟨sl,ax,L,f,az,Z⟩;refine⟨_,f.cell,_,by first|exact f.cell|(rw[jq];exact f.cell),_,by first|exact f.cell|(rw[jq];exact f.cell),d,by first|exact f.cell|(rw[jq];exact f.cell),sv,by first|exact f.cell|(rw[jq];exact f.cell),sl,by first|exact f.cell|(rw[jq];exact f.cell),?_⟩;have aN:=m.size;have aO:=(o.trans p).size;have ac:Var s w1.heap.size [U8,U8,U8,(),(),()] 74:=(((C.ext x).ext (j.trans m)).ab (o.trans p) I).ab L I;refine⟨ac.cF rfl (λv ag=>?_),rfl,c6 ac (us:=[a.kind,a.n,a.after,d,sv,sl]) rfl rfl λaP t B _=>⟨_,t.cell,_,by rw[jq];exact t.cell,_,by rw[jq];exact t.cell,d,by rw[jq];exact t.cell,sv,by rw[jq];exact t.cell,sl,by rw[jq];exact t.cell,d,sv,sl,rfl,Ext.bQ ax B I,?_⟩⟩
 .simp only[cN,er,ez]at ag
  rcases ag with rfl|rfl|rfl|rfl|rfl|rfl<;>trivial
 .have aA:∀q,ar d q->¬q=w1.heap.size:=λq b e=>by have:=D q b;have:=C.lt;omega
  have aB:∀q,ar sv q->¬q=w1.heap.size:=λq b e=>by have:=E q b;have:=C.lt;omega
  have M:=(ap.ab L W).ab B aA;have N:=(aq.ab L X).ab B aB;exact⟨⟨M.src,M.2.1,λq b=>⟨by have:=D q b;omega,M.lt q b⟩⟩,⟨N.src,N.2.1,λq b=>⟨by have:=E q b;omega,N.lt q b⟩⟩,Src.A1 az B λq b e=>by
   have:=h.nI q (Z q b) I;rw[this];rfl,λq b K=>h0.nI q (Z q b) K⟩
end
section
variable {V:Nat->bY}{n gen:Nat}{u:cD}{g:Nat->ag}{P:Nat->an aA}{bc:O Nat}{bH:O aY}
theorem hD.sound(h:hD V n gen u g P bc bH)(c:g j=true):V j=fN\/∃p,cG (j:Int) (V j)=.ok p:=by
 rcases(h.g j).1 c with h1|h1|h1
 .right
  have d:∃bu,P j=some bu:=by
   obtain⟨_,_,a,_⟩|a:=h.ok
   .rw[a]at h1;cases h1
   .exact a.node _ j h1
  obtain⟨bu,cO⟩:=d;obtain⟨p,b,_⟩:=h.eM j h1 bu cO;exact⟨p,b⟩
 .by_cases e:j=gen%2
  .right
   rw[e];obtain⟨p,b⟩:=yb h.ux;exact⟨p,b⟩
  .have e:j=1-gen%2:=I
   obtain a|⟨iI,g',a,_⟩:=h.ya
   .left;rw[e];exact a
   .right
    rw[e];obtain⟨p,b⟩:=yb a;exact⟨p,b⟩
 .right
  rw[h1];obtain⟨_,_,a⟩:=h.mp;exact⟨_,a⟩
theorem hD.low(h:hD V n gen u g P bc bH):bc.length<=bH.length:=by
 obtain⟨_,_,a,_⟩|a:=h.ok
 .rw[a];exact cw _
 .exact a.pages.1
theorem LR{D:aS}{dw:U1}(h:cf w D)(o:D.quiet)(B:D.aZ<=700000000)(f:D.waits=[])(r:me (l.al:Nat) (l.batch:Nat) (l.hG:Nat))(b:hD V D.n gen u g P bc bH)(eG:∀j,g j=true->D.bk.getD j []=V j)(s:gen<=1000000000)(t:bH.length<=4000)(x:∀q,dw q->q<w/\¬bO D q):
 aI aj 25 #[.pointer (some D.d),.agg l.c.toArray] w (λv w'=>∃S:db,v=.tuple #[.pointer (some S.st),U8]/\e_ w' S bc bH bc bH/\A5 D l dw 9000 w w' S/\S.u=u/\S.gen=gen):=by
 have y:∀j,D.eC j=[]:=λj=>by unfold aS.eC;rw[f];rfl
 have i:∀j,D.now j=D.bk.getD j []:=λj=>by unfold aS.now;rw[f];rfl
 have C:=b.low;refine(q5 (D:=D.jo g λ_=> []) (dw:=dw) (h.jo _ _) o (by show D.aZ<=_;omega) (λj _=>y j) r b (λj a=>.inl ((i j).trans (eG j a))) rfl rfl s t I x).mono ?_;rintro v w' ⟨hc,⟨S,rfl,z,a1,a2,a3,a4,a5,ee,eR,eJ,a9,fU,eV,gm,fw,gT⟩|⟨e,rfl,he,j,a,k,E,m⟩⟩
 .exact⟨S,rfl,z,⟨a1,a5,by rw[a4,a2],ee,eR,eJ,a9,fU,eV,gm,fw,gT,hc⟩,a2,a3⟩
 .exfalso
  have A:(D.jo g λ_=> []).now j=V j:=(i j).trans (eG j a);rw[A]at k m;rcases b.sound a with h1|⟨p,h1⟩
  .exact k (by rw[h1];decide+kernel)
  .rw[m]at h1;cases h1
end
structure hU(w0 w:J)(dw:U1)(d n:Nat)(l:gB)(S:db)(pages:O Nat)(L:O aY)(bc:O Nat)(bH:O aY)(c:Nat):Prop where
 x:Ext w0 w
 at_:e_ w S pages L bc bH
 E:∀q,S.T.E q↔q=S.st\/dw q
 ne:¬dw S.st
 oZ:∀q,S.T.M q->w0<=q
 lim:S.l=l
 d:S.T.C.D.d=d
 n:S.T.n=n
 aZ:S.T.C.D.aZ<=20000*(c+1)
 fJ:L.length<=c/\bH.length<=c
 gen:S.gen<=c+1
 ye:S.pending<=c
 r:S.T.C.D.r1=true
section
variable {w0 w w':J}{dw:U1}{d n mb k c:Nat}{l:gB}{S aP:db}{pages bc:O Nat}{L bH:O aY}
theorem hU.FA(h:hU w0 w dw d n l S pages L bc bH c)(a:dw q):S.T.E q/\q≠S.st:=⟨(h.E q).2 (.inr a),λe=>h.ne (e▸a)⟩
theorem hU.low(h:hU w0 w dw d n l S pages L bc bH c)(hc:c<=4000):pages.length<=L.length:=(h.at_.ok.low (U4 h.fJ.1)).2
theorem hU.ext(h:hU w0 w dw d n l S pages L bc bH c)(hx:Ext w w'):hU w0 w' dw d n l S pages L bc bH c:={h with x:=h.x.trans hx,at_:=h.at_.ext hx}
theorem hU.mono{e:Nat}(h:hU w0 w dw d n l S pages L bc bH c)(he:c<=e):hU w0 w dw d n l S pages L bc bH e:={h with aZ:=U4 h.aZ,fJ:=⟨U4 h.fJ.1,U4 h.fJ.2⟩,gen:=U4 h.gen,ye:=by have:=h.ye;omega}
theorem hU.step{fS js:O Nat}{hA iF:O aY}(h:hU w0 w dw d n l S pages L bc bH c)(hs:e_ w' aP fS hA js iF)(hd:fR k S aP w w')(b:k<=20000)(hf:hA.length<=c+1/\iF.length<=c+1)(hg:aP.gen<=S.gen+1)(e:aP.pending<=S.pending+1):hU w0 w' dw d n l aP fS hA js iF (c+1):=
 ⟨Ext.dH h.x hd.ab λq a=>h.oZ q a.1,hs,λq=>by rw[hd.E,hd.st];exact h.E q,by rw[hd.st];exact h.ne,λq a=>by
  rcases hd.dr q a with h1|h1
  .exact h.oZ q h1
  .have:=h.x.size;omega,hd.l.trans h.lim,hd.d.trans h.d,hd.n.trans h.n,U5 hd.aZ h.aZ,hf,U4 h.gen,U4 h.ye,hd.r.trans h.r⟩
end
section
variable {w0 w w' w1 ah:J}{dw:U1}{d n mb k c:Nat}{l:gB}{S aP:db}{pages fS bc js:O Nat}{L hA bH iF:O aY}{v:Y}
theorem lf.LS{c:Prop}(h:lf c S aP pages L bc bH v w')(a:S.T.C.D.quiet):v=.int .i64 0/\c/\e_ w' aP pages L pages L/\aP.failed=false/\aP.gen=S.gen+1/\aP.u.clock=S.now/\aP.u.dI=S.u.dI+1/\aP.pending=0:=by
 obtain h|⟨_,h,_⟩:=h
 .exact h
 .exact absurd a h
end
section
variable {w0 w w' w1 ah:J}{dw ck:U1}{d n mb k c i:Nat}{l:gB}{S aP:db}{pages fS bc js bm:O Nat}{L hA bH iF bC:O aY}{v:Y}{az:aS}{ls:U}{A:O jr}
theorem e_.bk(h:e_ w S pages L bc bH)(b:S.failed=false)(c:A2 S.T.C.D az):∀j,S.T.g j=true->az.bk.getD j []=S.V j:=λj d=>by
 rcases c.bk j with h1|h1
 .exact h1
 .have a:=h.t.ca.inv.nD j (h.cj j d)
  rw[(h.live b).2.1]at a
  rw[a]at h1;cases h1
theorem LU(ak:lN w0 ls A)(hx:Ext w0 w)(hi:i<A.length){K:J->U2}
 (C:∀ (b c:J) (e sv sl:U),Ext w c->w.heap.size<=b.heap.size->Var c b.heap.size [.int .i64 A[i].kind,.int .i64 A[i].n,.int .i64 A[i].after,e,sv,sl] 74->Fz w0 (λq=>w.heap.size<=q) c A[i] e sv sl->K b c):
 ∃d:ax,ls.a=some d/\((0:Int)<=(i:Int)/\(i:Int)<(ls.len:Int))/\
 ∃n27:Int,w.cell? (d.add (Int.toNat (i:Int)*6))=some (.int .i64 n27)/\
 ∃n28:Int,w.cell? ((d.add (Int.toNat (i:Int)*6)).add 1)=some (.int .i64 n28)/\
 ∃n29:Int,w.cell? ((d.add (Int.toNat (i:Int)*6)).add 2)=some (.int .i64 n29)/\
 ∃g:U,w.cell? ((d.add (Int.toNat (i:Int)*6)).add 3)=some (.slice g.a g.len g.cap)/\
 ∃h:U,w.cell? ((d.add (Int.toNat (i:Int)*6)).add 4)=some (.slice h.a h.len h.cap)/\
 ∃j:U,w.cell? ((d.add (Int.toNat (i:Int)*6)).add 5)=some (.slice j.a j.len j.cap)/\
 Calls aj 22 #[.agg #[n27,n28,n29,g,h,j]] w λD b=>
 ∃n35:Int,∃n36:Int,∃n37:Int,∃o:U,∃p:U,∃r:U,D=.returned (
  .agg #[n35,n36,n37,o,p,r])
 /\au (b.alloc (.cells #[U8,U8,U8,(),(),()] 74))
 λs=>c5 s b.heap.size [n35,n36,n37,o,p,r]/\
 (6:Nat)=6/\au (setCells s b.heap.size 0 [n35,n36,n37,o,p,r])
 λc=>K b c:=by
 obtain⟨a,E,F,f⟩:=(ak.ext hx).at hi;have G:=ak.ok A[i] (cg hi);have h0:=f 0 _ rfl;rw[add_add,lO]at h0;refine⟨a,E,F,_,h0,_,f 1 _ rfl,_,f 2 _ rfl,(A[i]).tk,f 3 _ rfl,(A[i]).fK,f 4 _ rfl,(A[i]).tl,f 5 _ rfl,(rL G hx).use ?_⟩;rintro _ b ⟨e,sv,sl,rfl,u,m⟩;refine⟨_,_,_,e,sv,sl,rfl,bg (vs:=[U8,U8,U8,(),(),()]) rfl λs x y I=>⟨x.cF rfl (λv z=>?_),rfl,c6 x (us:=[.int .i64 A[i].kind,.int .i64 A[i].n,.int .i64 A[i].after,e,sv,sl]) rfl rfl λc H B _=>C b c e sv sl (u.trans (Ext.bQ y B (a_ _))) u.size H ?_⟩⟩
 .simp only[cN,er,ez]at z
  rcases z with rfl|rfl|rfl|rfl|rfl|rfl<;>trivial
 .have t:Ext b c:=Ext.bQ y B (a_ _)
  exact⟨bI.ext m.k t,bI.ext m.v t,m.l.ext t,m.nI⟩
end
section
variable {w0 w w' w1:J}{dw ck:U1}{d n k c:Nat}{l:gB}{S aP h5:db}{pages fS bc js bm:O Nat}{L bH bC:O aY}{az:aS}
theorem hU.LV{V:Nat->bY}(h:hU w0 w dw d n l S pages L bc bH c)(hd:cf w1 az)(e:A2 S.T.C.D az)(f:aa (bO S.T.C.D) w w1)(z:hD V n gen u g P bm bC)(eG:∀j,g j=true->az.bk.getD j []=V j)(A:me (l.al:Nat) (l.batch:Nat) (l.hG:Nat))(K:gen<=S.gen+1)(hc:c<=30000)(i:bC.length<=c+1/\bC.length<=4000):
 aI aj 25 #[.pointer (some d),.agg l.c.toArray] w1 (λv ah=>∃cY:db,v=.tuple #[.pointer (some cY.st),U8]/\hU w0 ah dw d n l cY bm bC bm bC (c+1)/\cY.failed=false/\cY.T.C.D.quiet/\cY.u=u/\cY.pending=0/\cY.now=u.clock/\
  aa (bO S.T.C.D) w ah/\∀q,cY.T.M q->S.T.M q\/w<=q):=by
 have N:=h.aZ;have O:=h.gen;have m:az.n=n:=e.n.trans (h.at_.t.n.trans h.n);have B:=f.size;have o:∀q,bO az q->S.T.M q:=λq a=>.inl (.inr (.inr (e.dr q a)));have k:∀q,dw q->S.T.M q:=λq a=>.inr (.inr (.inr (.inl (h.FA a).1)));have F:∀q,dw q->¬bO S.T.C.D q:=λq a hf=>h.at_.t.kg (h.FA a).1 (.inl (.inr (.inr hf)));have p:=LR (l:=l) (dw:=dw) hd e.q (by rw[e.aZ];omega) e.waits A (m▸z) eG I i.2 λq a=>⟨U4 (h.at_.t.lt (k q a)),λhf=>F q a (e.dr q hf)⟩;rw[e.d,h.d]at p;refine p.mono ?_;rintro v ah ⟨cY,rfl,G,b,hu,hg⟩;have s:Ext w0 w1:=Ext.dH h.x f λq a=>h.oZ q (.inl (.inr (.inr a)));have H:Ext w0 ah:=Ext.dH s b.ab λq a=>h.oZ q (o q a);have y:∀q,cY.T.M q->S.T.M q\/w1<=q:=λq a=>by
  rcases b.M q a with h1|h1|h1
  .exact .inl (o q h1)
  .exact .inl (k q h1)
  .exact .inr h1
 refine⟨cY,rfl,⟨H,G,b.E,λhs=>?_,λq a=>?_,b.l,b.d.trans (e.d.trans h.d),b.n.trans m,?_,⟨i.1,i.1⟩,I,by rw[b.sh];omega,b.r.trans e.r⟩,b.live,b.q,hu,b.sh,by rw[b.now,hu],f.trans (b.ab.mono λq _ a=>e.dr q a),λq a=>(y q a).imp id λJ=>fg B J⟩
 .have:=h.at_.t.lt (k _ hs)
  have:=b.st;omega
 .rcases y q a with h1|h1
  .exact h.oZ q h1
  .have:=s.size;omega
 .have:=b.aZ
  have:=e.aZ;omega
end
section
variable {w0 w w' w1 ah:J}{dw ck:U1}{d n mb k c i:Nat}{l:gB}{S aP:db}{pages fS bc js bm:O Nat}{L hA bH iF bC:O aY}{v:Y}{az:aS}{ls:U}{A:O jr}
theorem hU.new{D:aS}(hx:Ext w0 w)(e:e_ w' S [] [] [] [])(a:A5 D l dw 4 w w' S)(hu:S.u=iT)(hg:S.gen=1)(b:∀q,bO D q->w0<=q)(c:∀q,dw q->w0<=q/\q<w)(i:D.aZ=0)(f:D.r1=true):hU w0 w' dw D.d D.n l S [] [] [] [] 0:=
 ⟨Ext.dH hx a.ab b,e,a.E,λh=>U5 ((c _ h).2) a.st,λq g=>by
  rcases a.M q g with h1|h1|h1
  .exact b q h1
  .exact(c q h1).1
  .have:=hx.size;omega,a.l,a.d,a.n,U4 a.aZ,⟨a_ _,a_ _⟩,I,by rw[a.sh];exact a_ _,a.r.trans f⟩
end
section
variable {w0 w w' w1 ah:J}{dw ck:U1}{d n mb k c i:Nat}{l:gB}{S aP:db}{pages fS bc js bm:O Nat}{L hA bH iF bC:O aY}{v:Y}{az:aS}{ls:U}{A:O jr}
def nJ(b:Nat):gB:=⟨8,1+b%12,1+b/16%12⟩
theorem FB(b:Nat):me ((nJ b).al:Nat) ((nJ b).batch:Nat) ((nJ b).hG:Nat):=by
 unfold me nJ;have h1:b%12<12:=gu _ (by decide);have a:b/16%12<12:=gu _ (by decide);show(8:Int)<=((8:Nat):Int)/\((8:Nat):Int)<=64/\(1:Int)<=((1+b%12:Nat):Int)/\((1+b%12:Nat):Int)<=1000/\(1:Int)<=((1+b/16%12:Nat):Int)/\((1+b/16%12:Nat):Int)<=1048576;omega
theorem LW{K:U2}(e:∀w',Var w' w l.c 64->Ext w w'->K w'):
 au (w.alloc (.cells #[U8,U8,.int .u64 0] 64)) λa=>c5 a w [l.al,l.batch,.int .u64 (l.hG:Nat)]/\(3:Nat)=3/\au (setCells a w 0 [l.al,l.batch,.int .u64 (l.hG:Nat)]) K:=
 bg (vs:=[U8,U8,.int .u64 0]) rfl λa b f j=>⟨b.cF rfl (λv d=>by
  simp only[cN,er,ez]at d
  rcases d with rfl|rfl|rfl<;>trivial),rfl,c6 b (us:=l.c) rfl rfl λg h i _=>e g h (Ext.bQ f i (a_ _))⟩
end
def mh(a:Nat)(c:UInt8)(s:bY):bY:=s.set a (s.getD a 0^^^c)
theorem FC(a:Nat)(c:UInt8)(s:bY):(mh a c s).length=s.length:=c_
theorem FD(a:Nat)(c:UInt8)(s:bY):aC (mh a c s)=(aC s).set a (.int .u8 ((s.getD a 0^^^c).toNat:Nat)):=by
 unfold aC mh;rw[List.map_set]
theorem LX{b:Nat}(c:a<256)(d:b<256):lk .u8 (a:Int) (b:Int)=((a^^^b:Nat):Int):=by
 unfold lk;show IntKind.u8.wrap (((BitVec.ofInt 8 (a:Int)^^^BitVec.ofInt 8 (b:Int)).toNat:Nat):Int)=_;rw[show BitVec.ofInt 8 (a:Int)=BitVec.ofNat 8 a by simp,show BitVec.ofInt 8 (b:Int)=BitVec.ofNat 8 b by simp,BitVec.toNat_xor,BitVec.toNat_ofNat,BitVec.toNat_ofNat,jx (by simpa using c),jx (by simpa using d)];have:a^^^b<256:=o2 (n:=8) c d;show((a^^^b:Nat):Int)%256=_;omega
theorem FE(x c:UInt8):lk .u8 (x.toNat:Int) (c.toNat:Int)=(((x^^^c).toNat:Nat):Int):=by
 rw[LX (m4 x) (m4 c),UInt8.toNat_xor]
theorem LY{f:bY->bY}{l:O bY}(a:k<l.length):((l.take k).map f++l.drop k).set k (f l[k])=(l.take (k+1)).map f++l.drop (k+1):=by
 have h1:((l.take k).map f).length=k:=by rw[cV,cQ];omega
 rw[uK _ _ I,h1,lQ,j5 a,List.set_cons_zero,List.take_add_one,dB a,eU,cU];rfl
def dE.sp(i a:Nat)(c:UInt8)(k:Nat)(x:dE):dE:=if x.i=i then {x with secs:=(x.secs.take k).map (mh a c)++x.secs.drop k} else x
def aS.iU(D:aS)(i a:Nat)(c:UInt8)(k:Nat):aS:={D with bk:=D.bk.set i (mh a c (D.bk.getD i [])),waits:=D.waits.map (dE.sp i a c k)}
theorem dE.lg(i a:Nat)(c:UInt8)(k:Nat)(x:dE):(x.sp i a c k).i=x.i/\(x.sp i a c k).s=x.s:=by unfold dE.sp;split<;>exact⟨rfl,rfl⟩
theorem dE.A7(i a:Nat)(c:UInt8)(k:Nat)(x:dE):(x.sp i a c k).secs.length=x.secs.length:=by
 unfold dE.sp;split
 .simp;omega
 .rfl
theorem dE.LZ(i a:Nat)(c:UInt8)(k:Nat)(x:dE):(x.sp i a c k).e=x.e:=by
 unfold dE.e;rw[(x.lg i a c k).1,(x.lg i a c k).2]
theorem dE.L0{c:UInt8}{x:dE}{s:bY}(h:s∈(x.sp i a c k).secs):∃t∈x.secs,s.length=t.length:=by
 unfold dE.sp at h;split at h
 .rcases cE.1 h with h|h
  .obtain⟨t,ht,rfl⟩:=df.1 h
   exact⟨t,gd ht,FC _ _ _⟩
  .exact⟨s,gb h,rfl⟩
 .exact⟨s,h,rfl⟩
section
variable {w w':J}{D:aS}{sz:Nat}{T:TypeId}{s:U}{vs:O Y}{i a k:Nat}{c:UInt8}
theorem aL.L1(h:aL sz T w s vs){v0:Y}(d:vs[j]? =some v0)(v:Y):
 ∃b:Nat,s.a=some ⟨b,0,none⟩/\w.cell? ⟨b,j,none⟩=some v0/\w.frozen? ⟨b,j,none⟩=false/\aL sz T (w.setCell ⟨b,j,none⟩ v) s (vs.set j v):=by
 obtain⟨h1,f,i,k⟩:=h;have o:=(jK.1 d).1;have p:s.len*sz<=s.cap*sz:=ml _ f;obtain⟨_,hc⟩|⟨b,c,g,e,l,ht⟩:=k
 .exfalso
  have:s.cap*sz=0:=by rw[hc,mj]
  omega
 .have m:Var w b c.toList T:=by
   show bp w b c.toList.toArray T;rw[Array.toArray_toList];exact e
  have n:j<c.toList.length:=by rw[Array.length_toList];omega
  obtain⟨bJ,b4⟩:=dT m n;refine⟨b,g,?_,b4,by simpa using h1,f,i,.inr ⟨b,_,g,e.set j v,by simpa using l,?_⟩⟩
  .rw[e.cell]
   rw[←ht,su]at d;rw[if_pos I]at d;simpa using d
  .rw[←ht]
   simp[List.take_set]
theorem A8:(D.iU i a c k).waits.map dE.e=D.waits.map dE.e:=by
 show(D.waits.map _).map _=_;rw[g2];exact qt λx _=>dE.LZ _ _ _ _ x
theorem L2:bO (D.iU i a c k) q↔bO D q:=by
 unfold bO;refine or_congr kO (or_congr kO (or_congr kO ⟨?_,?_⟩))
 .rintro⟨x,hx,b⟩
  obtain⟨y,d,rfl⟩:=df.1 hx;exact⟨y,d,by rw[(y.lg i a c k).2]at b;exact b⟩
 .rintro⟨x,hx,b⟩
  exact⟨_,df.2 ⟨x,hx,rfl⟩,by rw[(x.lg i a c k).2];exact b⟩
theorem cf.FF(h:cf w0 D)(hi:i<D.n)(m:Var w D.d D.c 129)(o:bp w D.lb (cl aC (D.bk.set i (mh a c (D.bk.getD i [])))).toArray 151)(p:dd w D.mr encZ (D.waits.map dE.e))(q:∀x∈D.waits,aL 256 151 w x.s (cl aC (x.sp i a c k).secs)):cf w (D.iU i a c k):=by
 have j:i<D.bk.length:=hi;have hs:(D.bk.getD i []).length=256:=by rw[c8 j];exact h.sl _ (cg j)
 have f:(D.iU i a c k).bk.length=D.bk.length:=c_;have hc:(D.iU i a c k).c=D.c:=by
  unfold aS.c;rw[f];rfl
 refine⟨by rw[hc];exact m,o,by rw[A8];exact p,λy b=>?_,λy b=>?_,λt ht=>?_,λy b t ht=>?_,by show 16<=(D.iU i a c k).bk.length;rw[f];exact h.bL,by show(D.iU i a c k).bk.length<=1600;rw[f];exact h.bz,h.f4,h.fr,h.a1,λy b=>?_,λy b z v l=>?_,h.r⟩
 .obtain⟨x,hx,rfl⟩:=df.1 b
  rw[(x.lg i a c k).2];exact q x hx
 .obtain⟨x,hx,rfl⟩:=df.1 b
  obtain⟨a1,a2,a3⟩:=h.wn x hx;refine⟨λe=>a1 (kN.1 (by rw[←x.A7 i a c k,e];rfl)),?_,by rw[x.A7];exact a3⟩;show(x.sp i a c k).i<(D.iU i a c k).bk.length;rw[f,(x.lg i a c k).1];exact a2
 .rcases mx ht with ht|rfl
  .exact h.sl t ht
  .rw[FC];exact hs
 .obtain⟨x,hx,rfl⟩:=df.1 b
  obtain⟨u,hu,e⟩:=dE.L0 ht;rw[e];exact h.jX x hx u hu
 .obtain⟨x,hx,rfl⟩:=df.1 b
  rw[(x.lg i a c k).2];exact h.a2 x hx
 .obtain⟨x,hx,rfl⟩:=df.1 b
  obtain⟨g,A,rfl⟩:=df.1 v;rw[(x.lg i a c k).1,(g.lg i a c k).1]at l;rw[(x.lg i a c k).2,(g.lg i a c k).2];exact h.a3 x hx g A l
theorem cf.L3(h:cf w D)(hi:i<D.n)(k:a<256):
 w.cell? ⟨D.lb,i*256+a,none⟩=some (.int .u8 (((D.bk.getD i []).getD a 0).toNat:Nat))/\w.frozen? ⟨D.lb,i*256+a,none⟩=false/\
 cf (w.setCell ⟨D.lb,i*256+a,none⟩ (.int .u8 ((((D.bk.getD i []).getD a 0)^^^c).toNat:Nat))) (D.iU i a c 0)/\aa (bO D) w (w.setCell ⟨D.lb,i*256+a,none⟩ (.int .u8 ((((D.bk.getD i []).getD a 0)^^^c).toNat:Nat))):=by
 have b:i<D.bk.length:=hi;have g:∀x∈D.bk,(aC x).length=256:=λx hx=>by rw[dO];exact h.sl x hx
 have hs:(D.bk.getD i []).length=256:=by rw[c8 b];exact h.sl _ (cg b)
 have j:Var w D.lb (cl aC D.bk) 151:=h.l;have p:(cl aC D.bk).length=D.bk.length*256:=gL _ g;have r:i*256+a<(cl aC D.bk).length:=by rw[p];omega
 obtain⟨bJ,b4⟩:=dT j r;have f:=dz w D.lb (i*256+a) (.int .u8 ((((D.bk.getD i []).getD a 0)^^^c).toNat:Nat));have s:aa (bO D) w _:=f.mono λq _ e=>.inr (.inl e);have o:=ei j (i:=i*256+a) (.int .u8 ((((D.bk.getD i []).getD a 0)^^^c).toNat:Nat));rw[zP g b k (x:=mh a c (D.bk.getD i [])) (by rw[FD,c8 b])]at o;have u:(D.iU i a c 0).waits=D.waits:=by
  show D.waits.map _=_
  conv=>rhs;rw[←List.map_id D.waits]
  refine qt λx _=>?_;unfold dE.sp;split
  .simp
  .rfl
 refine⟨?_,b4,?_,s⟩
 .rw[j.cell,p0 g b k]
  unfold aC;rw[ko,←c8 b (d:=[]),dB I,c8 (show a<(D.bk.getD i []).length from I)];rfl
 .refine h.FF hi (h.v.ab f h.a1.1) o (h.m.ab f (λe=>h.a1.2.2 e.symm)) λx hx=>?_
  have e:(x.sp i a c 0).secs=x.secs:=by
   unfold dE.sp;split
   .simp
   .rfl
  rw[e];exact(h.ws x hx).ab f λq t e=>(h.a2 x hx).2.1 (e▸t)
theorem cf.L4(f:cf w0 D)(h:cf w (D.iU i a c k))(hi:i<D.n)(E:a<256){x:dE}(hx:x∈D.waits)(z:x.i=i)(u:k<x.secs.length):
 ∃b:Nat,x.s.a=some ⟨b,0,none⟩/\w.cell? ⟨b,k*256+a,none⟩=some (.int .u8 (((x.secs[k]).getD a 0).toNat:Nat))/\w.frozen? ⟨b,k*256+a,none⟩=false/\
 cf (w.setCell ⟨b,k*256+a,none⟩ (.int .u8 ((((x.secs[k]).getD a 0)^^^c).toNat:Nat))) (D.iU i a c (k+1))/\aa (bO D) w (w.setCell ⟨b,k*256+a,none⟩ (.int .u8 ((((x.secs[k]).getD a 0)^^^c).toNat:Nat))):=by
 have F:x.sp i a c k∈(D.iU i a c k).waits:=df.2 ⟨x,hx,rfl⟩;have es:(x.sp i a c k).secs=(x.secs.take k).map (mh a c)++x.secs.drop k:=by unfold dE.sp;rw[if_pos z]
 have A:k<(x.sp i a c k).secs.length:=by rw[dE.A7];exact u
 have h1:((x.secs.take k).map (mh a c)).length=k:=by rw[cV,cQ];omega
 have G:(x.sp i a c k).secs[k]=x.secs[k]:=by
  have e:(x.sp i a c k).secs[k]? =some x.secs[k]:=by
   rw[es,j6 I,h1,lQ,sq,lO,dB u]
  exact Option.some.inj ((dB A).symm.trans e)
 have H:=h.ws _ F;rw[(x.lg i a c k).2]at H;have K:∀t∈(x.sp i a c k).secs,(aC t).length=256:=λt ht=>by rw[dO];exact h.jX _ F t ht
 have hs:(x.secs[k]).length=256:=f.jX x hx _ (cg u);have Q:(cl aC (x.sp i a c k).secs)[k*256+a]? =some (.int .u8 (((x.secs[k]).getD a 0).toNat:Nat)):=by
  rw[p0 K A E,G];unfold aC;rw[ko,dB I,c8 (show a<(x.secs[k]).length from I)];rfl
 obtain⟨b,L,bJ,b4,M⟩:=aL.L1 H Q (.int .u8 ((((x.secs[k]).getD a 0)^^^c).toNat:Nat));have R:(x.sp i a c k).secs.set k (mh a c x.secs[k])=(x.sp i a c (k+1)).secs:=by
  rw[es,LY u];unfold dE.sp;rw[if_pos z]
 rw[zP K A E (x:=mh a c x.secs[k]) (by rw[FD,G]),R]at M;have g:=dz w b (k*256+a) (.int .u8 ((((x.secs[k]).getD a 0)^^^c).toNat:Nat));have o:ar x.s b:=⟨_,L,rfl⟩;obtain⟨d1,d2,d3⟩:=f.a2 x hx;have S:(D.iU i a c k).bk.length=D.bk.length:=c_;have hc:(D.iU i a c k).c=D.c:=by
  unfold aS.c;rw[S];rfl
 have N:=h.v;rw[hc]at N;have O:=h.m;rw[A8]at O;refine⟨b,L,bJ,b4,f.FF hi (N.ab g λe=>d1 (by have e:D.d=b:=e;rw[e];exact o)) (bp.ab h.l g λe=>d2 (by have e:D.lb=b:=e;rw[e];exact o)) (O.ab g λe=>d3 (by have e:D.mr=b:=e;rw[e];exact o)) (λy B=>?_),g.mono λq _ e=>.inr (.inr (.inr ⟨x,hx,by rw[e];exact o⟩))⟩;by_cases C:y.i=i
 .have e:y=x:=by
   obtain⟨p,T,rfl⟩:=eO B;obtain⟨r,U,rfl⟩:=eO hx;have V:=(List.getElem_inj (i:=p) (j:=r) (h₀:=by simpa using T) (h₁:=by simpa using U) f.A0).1 (by simpa using C.trans z.symm);subst V;rfl
  subst e;exact M
 .have W:(y.sp i a c (k+1)).secs=(y.sp i a c k).secs:=by
   unfold dE.sp;rw[if_neg C,if_neg C]
  have P:=h.ws _ (df.2 ⟨y,B,rfl⟩);rw[(y.lg i a c k).2]at P;rw[W];exact P.ab g λq X e=>f.a3 y B x hx I q X (e▸o)
theorem L5(h:cf w D)(i a:Int)(c:UInt8)(U:D.aZ<=1000000000):aI aj 34 #[.pointer (some D.d),i,a,.int .u8 (c.toNat:Nat)] w (λv w'=>
 (v=false/\w=w')\/(v=true/\∃j b k:Nat,j<D.n/\b<256/\cf w' (D.iU j b c k)/\aa (bO D) w w')):=by
 refine ad.GO _ i a (c.toNat:Nat) w _ ?_;(delta ad.tm bR af aE aJ aQ aO bA aV st cW b1 ky ai;dsimp only);refine(zS h i).use ?_;rintro _ _ ⟨rfl,rfl⟩;refine⟨_,rfl,λ_=>.inl ⟨rfl,rfl⟩,λg=>?_⟩;simp only[hV,mv,cq,fh]at g;obtain⟨⟨⟨h1,V⟩,z⟩,W⟩:=g;obtain⟨j,rfl⟩:∃j:Nat,i=(j:Int):=⟨i.toNat,I⟩;obtain⟨b,rfl⟩:∃b:Nat,a=(b:Int):=⟨a.toNat,I⟩;have o:j<D.n:=I
 have g:b<256:=I
 have X:j<D.bk.length:=o;have f:∀ (q k:Nat),Addr.add ((q:ax).add (Int.toNat (k:Int)*256)) (Int.toNat (b:Int)*1)=⟨q,k*256+b,none⟩:=λq k=>by rw[cS,cS,eY,aw,aw,cT]
 have r:=cc w;have hd:=h.ext r;refine aH ?_;generalize w.drew=L at r hd;obtain⟨bJ,b4,l,M⟩:=hd.L3 (c:=c) o g;refine⟨_,rfl,id,⟨some D.lb,D.bk.length,D.bk.length⟩,hd.fE,_,rfl,⟨I,by show(j:Int)<(D.bk.length:Int);omega⟩,⟨I,I⟩,id,_,by rw[f];exact bJ,_,rfl,⟨I,by show(j:Int)<(D.bk.length:Int);omega⟩,⟨I,I⟩,⟨_,by rw[f];exact bJ⟩,by rw[f];exact b4,?_⟩;rw[f,FE];refine aH ?_;have t:aa (bO D) w _:=(r.mono λ_ _ h=>h.elim).trans M;generalize L.setCell ⟨D.lb,j*256+b,none⟩ (.int .u8 ((((D.bk.getD j []).getD b 0)^^^c).toNat:Nat))=u at l t;have A:∀ {w':J}{k:Nat},cf w' (D.iU j b c k)->dd w' D.mr encZ (D.waits.map dE.e):=λh=>by have:=h.m;rw[A8]at this;exact this
 refine⟨_,rfl,_,l.fW,?_⟩
 cases hf:D.waits.find? λx=>x.i==j with
 |none=>
  obtain⟨Y,t1,t2⟩:=p1 zR;have N:=(A l).ta kh lG (k:=(j:Int)) t1 t2 (λv O=>by
   obtain⟨x,hx,he⟩:=df.1 O;have z:=kn.1 hf x hx;unfold dE.e at he;simp only[Prod.mk.injEq]at he;apply z;have:x.i=j:=I
   rw[this];simp) false
  refine⟨⟨none,0,0⟩,u,N,λn w'=>n=0/\u=w',λ_ _=>0,⟨rfl,rfl⟩,?_⟩;rintro _ _ ⟨rfl,rfl⟩;exact⟨nofun,λ_=>.inr ⟨rfl,j,b,0,o,g,l,t⟩⟩
 |some x=>
  have hx:=jL hf;have B:x.i=j:=by simpa using kP hf
  have C:∀ {w':J}{k:Nat},cf w' (D.iU j b c k)->Sem.run aj (Instr.lookup 125 (.map (some D.mr)) (.int .i64 (j:Int)) false) w'=.ok x.s w':=λh=>(A h).qT kh lG (k:=(j:Int)) (v:=x.s) (df.2 ⟨x,hx,by unfold dE.e;rw[B]⟩) false;have hlen:x.s.len=x.secs.length:=by
   have P:=(h.ws x hx).1;rw[gL (c:=aC) (sz:=256) x.secs λs hs=>by rw[dO];exact h.jX x hx s hs]at P;omega
  have Z:=(h.wn x hx).2.2;refine⟨x.s,u,C l,λn w'=>∃k:Nat,n=(k:Int)/\k<=x.secs.length/\cf w' (D.iU j b c k)/\aa (bO D) w w',λn _=>((x.secs.length:Int)-n).toNat,⟨0,rfl,cw _,l,t⟩,?_⟩;rintro _ y ⟨k,rfl,ab,E,F⟩;refine⟨λaB=>?_,λ_=>.inr ⟨rfl,j,b,k,o,g,E,F⟩⟩;have aB:(k:Int)<(x.s.len:Int):=bB aB;have G:=cc y;have p:=E.ext G;have H:aa (bO D) w y.drew:=F.trans (G.mono λ_ _ h=>h.elim);refine aH ?_;generalize y.drew=Q at p H;obtain⟨q,K,ao,R,S,T⟩:=h.L4 p o g hx B (k:=k) I;refine⟨λ_=>False,_,rfl,id,_,p.fW,x.s,Q,C p,λ_=>False,_,K,⟨I,aB⟩,⟨I,I⟩,id,_,by rw[f];exact ao,_,K,⟨I,aB⟩,⟨I,I⟩,⟨_,by rw[f];exact ao⟩,by rw[f];exact R,?_⟩;rw[f,FE];refine aH ?_;rw[bl (n:=(k:Int)+1) I I];exact⟨⟨k+1,I,I,S,H.trans T⟩,by show((x.secs.length:Int)-((k:Int)+1)).toNat<((x.secs.length:Int)-(k:Int)).toNat;omega⟩
end
section
variable {w0 w w' w1 ah:J}{dw:U1}{d n mb b c i j k:Nat}{l:gB}{S cY:db}{pages bc bm:O Nat}{L bH bC:O aY}{D az:aS}{s:bY}{Mi:UInt8}{no:Int}
end
set_option maxRecDepth 100000 in
theorem L6.of(h:nd aj w 62 v):∃ (i a:Int) (c:UInt8),v=.agg #[i,a,.int .u8 (c.toNat:Nat)]:=by
 have hu:Tryz.prog.underlying 62=some (.struct (fieldsOf aj 62)):=by kernel_rfl
 unfold nd at h;rw[hu]at h;obtain⟨cs,rfl,fuel,h⟩:=h;have hlen:cs.toList.length=3:=by
  have:=(yL h hu).1;rwa[show Tryz.prog.cellsOf 62=3 by kernel_rfl]at this
 obtain⟨_,f0⟩:=ni h hu 0 (t:=3) (o:=0) (n:=1) U3 U3;obtain⟨_,f1⟩:=ni h hu 1 (t:=3) (o:=1) (n:=1) U3 U3;obtain⟨_,f2⟩:=ni h hu 2 (t:=5) (o:=2) (n:=1) U3 U3;obtain⟨ba,d,_⟩:=n3 f0 (k:=.i64) U3;obtain⟨bL,e,_⟩:=n3 f1 (k:=.i64) U3;obtain⟨bz,f,g,j⟩:=n3 f2 (k:=.u8) U3;have g:(0:Int)<=bz:=g;have j:bz<=255:=j;have l:bz=(((UInt8.ofNat bz.toNat).toNat:Nat):Int):=by rw[UInt8.toNat_ofNat'];omega
 refine⟨ba,bL,UInt8.ofNat bz.toNat,?_⟩;rw[←l];have m:cs=cs.toList.toArray:=rfl;rw[m]
 match cs.toList,hlen,d,e,f with
 | [a,b,c],_,d,e,f=>
  simp at d e f;rw[d,e,f]
section
variable {w0 w w' w1:J}{dw ck:U1}{d n k c i:Nat}{l:gB}{S aP h5:db}{pages fS bc js bm:O Nat}{L hA bH iF:O aY}{D az:aS}{ls:U}{A:O jr}{v:Y}
theorem L7{st:Nat}(b:Var w st S.cells 146):aI aj 31 #[.pointer (some st)] w (λv w'=>v=.agg S.u.c.toArray/\Ext w w'):=by
 refine okF (ad.wa (some st)) ay.wa func31 ?_;(delta ad.wa eo af bf ae aF y8 r1 aT bZ c0 aE;dsimp only);refine bg (vs:=cZ.c) rfl λw1 d a h=>⟨nofun,λ_=>?_⟩;have hs:=b.ext a;refine⟨_,rfl,_,hs.cell,_,by rw[aw,aw];exact hs.cell,_,by rw[aw,aw];exact hs.cell,_,by rw[aw,aw];exact hs.cell,_,by rw[aw,aw];exact hs.cell,_,by rw[aw,aw];exact hs.cell,fQ d rfl S.u λah f g i=>fe f ⟨rfl,Ext.bQ a g (a_ _)⟩⟩
theorem L8(h:D.bN.getD 1 0= -1)(a:D.bN.length=4)(i:Nat):D.rd i=D:=by
 unfold aS.rd;rw[if_pos h];have e:(-1:Int)=D.bN.getD 1 0:=h.symm;rw[e,c8 I,sI]
theorem FG(h:mV w0 w D d n k)(f:k<=900000000):aI aj 29 #[.pointer (some d)] w (λv w'=>aa (λq=>q=d) w w'/\cf w' D/\∃r,kI (jI D) r/\v=.tuple #[.agg r.c.toArray,U8]):=by
 have a:=nk h.at_ (U4 h.aZ);rw[h.d]at a;refine a.mono ?_;rintro v w' ⟨hc,⟨b,_⟩|⟨_,hd,r,e,rfl⟩⟩
 .exact absurd h.f1 b.1
 .rw[L8 h.f1 h.at_.f4]at hd
  exact⟨hc,hd,r,e,rfl⟩
theorem mV.yf(h:mV w0 w D d n k)(hc:aa (λq=>q=d) w w')(hd:cf w' D):mV w0 w' D d n k:=⟨hd,h.d,h.n,h.aZ,h.f1,h.f2,h.new,Ext.bQ h.x hc (h.new d (by rw[←h.d];exact .inl rfl))⟩
theorem mf.sat(h:mf S aP pages L bc bH v w')(a:S.T.C.D.quiet):aP.failed=false/\aP.gen<=S.gen+1/\aP.pending<=S.pending+1/\∃js iF,e_ w' aP pages L js iF/\(iF=bH\/iF=L):=by
 obtain⟨rfl,_,hs,hf,hg,_,b,_⟩|h:=h
 .exact⟨hf,I,I,bc,bH,hs,.inl rfl⟩
 .obtain⟨rfl,_,hs,hf,hg,_,_,b⟩|⟨_,c,_⟩:=h
  .exact⟨hf,I,I,pages,L,hs,.inr rfl⟩
  .exact absurd a c
theorem L9{ac al:Int}{am:UInt8}(uB:lN w ls A):
 aI aj 7 #[ls,.agg #[ac,al,.int .u8 (am.toNat:Nat)]] w (λv w'=>v=true/\Ext w w'):=by
 have bM:=uB.len;refine okF (ad.xi ls ac al (am.toNat:Nat)) ay.xi func7 ?_;(delta ad.xi vy vA bf ae aF gR r1 aT bZ c0 af Cu aQ aO aV aJ Co vB av vw e6 bR b5 ai nj gh b1 td bA bU mC qY gI Cp;dsimp only);refine bg (vs:=[ac,al,.int .u8 (am.toNat:Nat)]) rfl λw1 bN bO cL=>(oz (b:=4) (d:=4) I I w1).use ?_;rintro _ ah ⟨rfl,aW⟩;refine⟨_,_,_,rfl,LW (l:=nJ 64) λH aX a0=>(pA (n:=90) I I H).use ?_⟩;rintro _ cM ⟨d,lb,mr,rfl,bP,a2,bQ⟩;have aq:=aX.ext a2;refine⟨_,0,rfl,_,aq.cell,_,by rw[aw];exact aq.cell,_,by rw[aw];exact aq.cell,(LM (l:=nJ 64) (dw:=λ_=>False) bP (FB 64) (λk=>⟨.inl rfl,.inl rfl⟩) rfl (by show 0<=999999000;omega) (λq h=>h.elim)).use ?_⟩;rintro _ cN ⟨bS,rfl,bT,au,hu,hg⟩;have a3:=hU.new (w0:=H) a2 bT au hu hg bQ (λq h=>h.elim) rfl rfl;rw[show(lH 90 d lb mr).n=90 from by show(List.replicate _ fN).length=_;rw[nS]]at a3;have a4:=(bO.trans aW).trans a0;have a5:=(bN.ext aW).ext a0;have ak:=uB.ext a4;refine⟨_,0,rfl,nofun,λ_=>⟨λp n w'=>∃ (i:Nat) (S:db) (pages bc:O Nat) (L bH:O aY),p=some ⟨S.st,0,none⟩/\n=(i:Int)/\i<=60/\i<=A.length/\hU H w' (λ_=>False) d 90 (nJ 64) S pages L bc bH (8*i)/\S.failed=false/\S.T.C.D.quiet,
  λ_ n _=>((60:Int)-n).toNat,⟨0,bS,[],[],[],[],rfl,rfl,I,cw _,a3,au.live,au.q⟩,?_⟩⟩
 rintro _ _ bV ⟨i,S,pages,bc,L,bH,rfl,rfl,hi,cO,u,hf,a⟩;have cP:=u.fJ;have cR:=u.aZ;have bW:=u.gen;have cS:=u.ye;refine⟨λaB=>?_,λbW=>?_⟩
 .obtain⟨h1,N⟩:=Kp (m:=60) bM aB
  refine cx (λp w'=>∃ (aP:db) (fS js:O Nat) (hA iF:O aY),p=some ⟨aP.st,0,none⟩/\hU H w' (λ_=>False) d 90 (nJ 64) aP fS hA js iF (8*(i+1))/\aP.failed=false/\aP.T.C.D.quiet) (λcT G=>LU ak u.x h1 λcU aA X sv sl bX cV W s=>?_) ?_
  rotate_left
  .rintro _ cW ⟨aP,fS,js,hA,iF,rfl,h,B,bY⟩
   rw[hM I];exact⟨⟨i+1,aP,fS,js,hA,iF,rfl,rfl,I,I,h,B,bY⟩,by show((60:Int)-((i+1:Nat):Int)).toNat<((60:Int)-(i:Nat)).toNat;omega⟩
  have c:=u.ext bX;have a6:∀q,bV.heap.size<=q->¬S.T.M q:=λq a E=>by have:=u.at_.t.lt E;omega
  have a7:∀q,ar X q->q<aA/\¬S.T.M q:=λq a=>⟨(s.k.2.2 q a).2,a6 q (s.k.2.2 q a).1⟩;have b0:∀q,ar sv q->q<aA/\¬S.T.M q:=λq a=>⟨(s.v.2.2 q a).2,a6 q (s.v.2.2 q a).1⟩;have more:∀ {w':J}{aP:db}{aC:O Nat}{hA:O aY}{v:Y},fR 300 S aP aA w'->mf S aP aC hA bc bH v w'->hA.length<=8*i+1->∃ (aP:db) (fS js:O Nat) (hA iF:O aY),(some S.st:an ax)=some ⟨aP.st,0,none⟩/\hU H w' (λ_=>False) d 90 (nJ 64) aP fS hA js iF (8*(i+1))/\aP.failed=false/\aP.T.C.D.quiet:=λ{w' aP aC hA v} hd E b2=>by
   obtain⟨h1,N,ao,js,iF,hs,Z⟩:=E.sat a;exact⟨aP,aC,js,hA,iF,by rw[hd.st],(c.step hs hd I ⟨b2,by rcases Z with rfl|rfl<;>omega⟩ I I).mono I,h1,hd.q a⟩
  refine⟨_,W.cell,λ_=>?_,λ_=>⟨λ_=>?_,λ_=>?_⟩⟩
  .refine⟨X,by rw[aw];exact W.cell,(Lp (key:=A[i].key.take 26) c.at_ I I I I a s.k.1 a7).use ?_⟩
   have b3:(e7 L (A[i].key.take 26)).length<=L.length:=nU _ _;rintro v cX (⟨rfl,_,rfl⟩|⟨_,⟨B,_⟩|⟨_,aP,F,aD,⟨rfl,_,hs,he,R⟩|⟨rfl,_,_,hs,he,R⟩|⟨e,rfl,aE,_,fS,E⟩|⟨_,hx⟩⟩⟩)
   .exact⟨_,_,rfl,G _ _ ⟨S,pages,bc,L,bH,rfl,c.mono I,hf,a⟩⟩
   .rw[hf]at B;cases B
   .exact⟨_,_,rfl,G _ _ ⟨aP,pages,bc,L,bH,by rw[F.st],(c.step hs F I ⟨I,I⟩ (by rw[he.gen];omega) (by rw[he.pending];omega)).mono I,R,F.q a⟩⟩
   .exact⟨_,_,rfl,G _ _ ⟨aP,pages,bc,L,bH,by rw[F.st],(c.step hs F I ⟨I,I⟩ (by rw[he.gen];omega) (by rw[he.pending];omega)).mono I,R,F.q a⟩⟩
   .exact⟨_,_,rfl,G _ _ (more F E I)⟩
   .rcases hx True pages L with ⟨ao,_⟩|⟨_,ao,_⟩
    .cases ao
    .exact absurd a ao
  .have b4:=ak.ok A[i] (cg h1)
   have a8:=LB (l:=sl) (zs:=A[i].l.take 60) c.at_.t.ca.raw.dev s.l (λq a hf=>by
    have:=s.nI q a (c.oZ q (.inl (.inr (.inr hf))));rw[this];rfl) (by rw[cQ];omega) (λz b6=>b4.Fy z (gd b6)) (by have:=c.aZ;omega)
   rw[c.d]at a8;refine⟨sl,by rw[aw];exact W.cell,a8.use ?_⟩;rintro _ b7 ⟨rfl,az,b8,a9,a_⟩;have b9:Ext H b7:=Ext.dH c.x a_ λq a=>c.oZ q (.inl (.inr (.inr a)));have aG:=aX.ext b9;have P:=c.at_.lM;rw[c.n]at P;refine⟨rfl,_,aG.cell,_,by rw[aw];exact aG.cell,_,by rw[aw];exact aG.cell,(c.LV b8 a9 a_ P (c.at_.bk hf a9) (FB 64) I I I).use ?_⟩;rintro _ cZ ⟨cY,rfl,b_,R,ap,_⟩;exact⟨_,0,rfl,nofun,λ_=>G _ _ ⟨cY,_,_,_,_,rfl,b_.mono I,R,ap⟩⟩
  .have c1:X.len=(A[i].key.take 26).length:=by have:=s.k.1.len;rw[dO]at this;omega
   refine⟨X,by rw[aw];exact W.cell,(rA s.k.1).use ?_⟩;rintro v c2 ⟨rfl,rfl⟩;refine⟨_,rfl,λ_=>⟨X,by rw[aw];exact W.cell,sv,by rw[aw];exact W.cell,(Lo (key:=A[i].key.take 26) (val:=A[i].val.take 26) c.at_ I I I I a s.k.1 a7 s.v.1 b0).use ?_⟩,λ_=>G _ _ ⟨S,pages,bc,L,bH,rfl,c.mono I,hf,a⟩⟩;have c3:=AV (A[i].key.take 26) (A[i].val.take 26) L;have b3:(e7 L (A[i].key.take 26)).length<=L.length:=nU _ _;rintro v c4 (⟨rfl,_,rfl⟩|⟨_,⟨B,_⟩|⟨_,aP,F,aD,⟨rfl,_,hs,rfl⟩|⟨_,fS,E⟩⟩⟩)
   .exact⟨_,rfl,G _ _ ⟨S,pages,bc,L,bH,rfl,c.mono I,hf,a⟩⟩
   .rw[hf]at B;cases B
   .exact⟨_,rfl,G _ _ ⟨aP,pages,bc,L,bH,rfl,(c.step hs F I ⟨I,I⟩ I I).mono I,hf,a⟩⟩
   .have cb:∃n:Int,v=n:=by
     rcases E with ⟨rfl,_⟩|E
     .exact⟨_,rfl⟩
     .exact E.val
    obtain⟨n,rfl⟩:=cb;exact⟨_,rfl,G _ _ (more F E I)⟩
 have c5:=u.low I;refine(Ln u.at_ I I I a).use ?_;rintro v ba (⟨B,_⟩|⟨_,cY,aK,c6,hx⟩)
 .rw[hf]at B;cases B
 obtain⟨rfl,_,f,R,c7,_,_,c8⟩:=hx.LS a;have U:=u.step f aK I ⟨I,I⟩ I I;have ap:=aK.q a;obtain⟨K,c9,dc⟩:∃K:Nat,10000000<=K/\K<=800000000:=⟨20000000,by decide,by decide⟩;have bb:mV H ba cY.T.C.D d 90 K:=⟨f.t.ca.raw.dev,U.d,f.t.n.trans U.n,by have:=U.aZ;omega,A3 (k:=1) ap (.inl rfl),A3 (k:=2) ap (.inr rfl),λq a=>U.oZ q (.inl (.inr (.inr a))),U.x⟩;have cd:=f.v;have ce:cY.st≠d:=λe=>f.t.kg f.es (.inl (.inr (.inr (.inl (by rw[e];exact U.d.symm)))));have P:=f.lM;have aD:∀j,cY.T.g j=true->cY.T.C.D.now j=cY.V j:=λx hx=>by
  have N:=f.t.ca.inv.nD x (f.cj x hx);rw[(f.live R).2.1]at N;have N:cY.T.C.D.eC x=[]:=N;have hf:cY.T.C.D.waits.find? (λy=>y.i==x)=none:=by
   unfold aS.eC at N
   cases hf:cY.T.C.D.waits.find? λy=>y.i==x with
   |none=>rfl
   |some y=>
    rw[hf]at N;exact absurd N (f.t.ca.raw.dev.wn y (jL hf)).1
  unfold aS.now;rw[hf];rfl
 have aE:∀j,cY.T.g j=true->j<cY.T.n:=λj Q=>by
  have Z:=P.sg;unfold g8 at Z;rcases(P.g j).1 Q with aL|aL|aL
  .exact(P.two j aL).2.2
  .omega
  .omega
 obtain⟨FH,bd,ch,ci,⟨dd,ck⟩,a1,cl⟩:=P.look (secs:=jI cY.T.C.D) (by rw[r9];exact f.t.n) (λj Q=>by rw[r8 (by rw[f.t.n];exact aE j Q)];exact aD j Q) (by have:=U.fJ.1;omega) (λj Q=>by
  cases Z:cY.T.g j with
  |false=>rfl
  |true=>have:=aE j Z;omega)
 have be:∀ {D:aS},cf ba D\/True->∀ {w':J},cf w' D->∀x∈jI D,x.length=256:=λ{D} _ {w'} hd x hx=>by
  obtain⟨j,Q,rfl⟩:=df.1 hx;exact hd.nA (iV.1 Q)
 refine⟨0,rfl,nofun,λ_=>(FG bb I).use ?_⟩;rintro _ aM ⟨bh,bi,r,cm,rfl⟩;obtain rfl:=cm.uniq bd;have bj:=bb.yf bh bi;refine⟨_,0,rfl,x8 λcn co cp=>?_⟩;have bl:=cc cn;have bm:=co.ext bl;have cq:=cp.trans bl;refine aH ⟨λ_=>False,nofun,λ_=>⟨id,_,bm.rd rfl,(nm r ck cl _).use ?_⟩⟩;rintro _ dg ⟨rfl,bn⟩;rw[ch];have bo:=cq.trans bn;have bp:=bm.ext bn;have bq:=bj.ext bo;have dh:d<aM:=bi.lt (by rw[←bj.d];exact .inl rfl);have cr:=(cd.ab bh ce).ext bo;have di:=a5.ext bq.x;have br:=L7 (S:=cY) cr;rw[aK.st]at br;refine⟨true,rfl,λq=>q=d,nofun,λ_=>⟨by rw[jq];show¬aM.heap.size=d;omega,r.keys,by rw[aw];exact bp.cell,br.use ?_⟩⟩;rintro _ dj ⟨rfl,aN⟩;have bs:=bq.ext aN;have cs:=bp.ext aN;refine⟨_,_,_,_,_,_,rfl,aa.da aN,_,rfl,λbt=>?_,λ_=>⟨by show¬aM.heap.size=d;omega,_,cs.rd rfl,(oA bs I I).use ?_⟩⟩
 .exfalso
  rw[ci,P.keys]at bt;simp at bt
 rintro _ dk ⟨ct,rfl,ht,bu,bv⟩;have bw:=bs.yf bu bv;refine⟨ct,rfl,bu,(pL ht (be (.inr trivial) bv) (by rw[r9,bw.n];omega)).use ?_⟩;rintro _ dl ⟨bA,rfl,cu,bx⟩;obtain rfl:=cu.uniq bd;have o:=bw.ext bx;have aR:=a5.ext o.x;refine⟨_,rfl,aa.da bx,_,EV _ _,λh=>?_,λ_=>?_⟩
 .rw[dm rfl]at h;cases h
 have fp:=L5 o.at_ ac al am (by have:=o.aZ;omega);rw[o.d]at fp;refine⟨_,aR.cell,_,by rw[aw];exact aR.cell,_,by rw[aw];exact aR.cell,fp.use ?_⟩;intro v cv cy;obtain⟨aU,de,rfl,bz⟩:∃ (aU:ag) (de:aS),v=aU/\mV H cv de d 90 K:=by
  rcases cy with ⟨rfl,rfl⟩|⟨rfl,j,b,k,Q,dn,cz,cA⟩
  .exact⟨_,_,rfl,o⟩
  .exact⟨_,_,rfl,cz,o.d,by rw[←o.n];exact c_,o.aZ,o.f1,o.f2,λq a=>o.new q (L2.1 a),Ext.dH o.x cA o.new⟩
 refine⟨aU,rfl,(FG bz I).use ?_⟩;rintro _ bB ⟨cB,bC,aJ,cC,rfl⟩;have bD:=bz.yf cB bC;have dp:d<bB:=bC.lt (by rw[←bD.d];exact .inl rfl);refine⟨_,0,rfl,x8 λcD cE cF=>?_⟩;have bE:=cc cD;have cG:=cE.ext bE;have bF:=(bD.ext cF).ext bE;refine aH ⟨λq=>q=d,λ_=>⟨by show¬bB.heap.size=d;omega,_,cG.rd rfl,(oA bF I I).use ?_⟩,nofun⟩;rintro _ dq ⟨cH,rfl,cI,bG,bI⟩;have bJ:=bF.yf bG bI;refine⟨cH,rfl,bG,(pL cI (be (.inr trivial) bI) (by rw[r9,bJ.n];omega)).use ?_⟩;rintro _ bK ⟨c0,rfl,cJ,bL⟩;obtain rfl:=cJ.uniq cC;refine⟨_,rfl,aa.da bL,_,EV _ _,cx (λb w'=>b=true/\Ext bK w') (λk cK=>⟨λ_=>(KV bK).use ?_,λh=>?_⟩) ?_⟩
 .rintro _ dr ⟨rfl,hx⟩
  exact⟨true,rfl,cK _ _ ⟨rfl,hx⟩⟩
 .rw[dm rfl]at h;cases h
 .rintro _ ds ⟨rfl,hx⟩
  exact⟨rfl,((a4.trans bJ.x).trans bL).trans hx⟩
end
end Go.Proofs.YtcmgnhkpfllinaaGreat
