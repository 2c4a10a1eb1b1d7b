/- Contracts of the functions that the statement reaches, and the plain laws over them; each theorem stands with its conditions. -/
import Derived.Test.YtcmgnhkpfllinaaGreatBALasts5
namespace Go.Proofs.YtcmgnhkpfllinaaGreat
open Go aS Go.Proofs.Tryz
variable{no i k gen n q j:Nat}{s tk:ad}{l:c7}{w w':J}{u:c_}{sv d:Int}{p:br}{g:Nat->ao}{L:O aP}{c:Prop}{v:aa}{key:Key}
section
variable {w w':J}{C:cn}{X:U1}
theorem Mo{D:a8}{N:Nat}(a:∀q,aD s q->b4 D q\/N<=q):∀q,b4 (D.put no s l) q->b4 D q\/N<=q:=by
 rintro q (e|e|e|⟨x,hx,e⟩)
 .exact .inl (.inl e)
 .exact .inl (.inr (.inl e))
 .exact .inl (.inr (.inr (.inl e)))
 .rcases cZ.1 hx with rfl|hx
  .exact a q e
  .exact .inl (.inr (.inr (.inr ⟨x,(gw.1 hx).1,e⟩)))
theorem fC.r2{aF:a8}(h:fC w C)(hd:cL w' aF)(e:aF.d=C.D.d)(hc:ag (b4 C.D) w w')(hf:∀q,b4 aF q->b4 C.D q\/w<=q):fC w' {C with D:=aF}:=by
 have h1:=h.v.ah hc h.a1.2.1;rw[←e]at h1;have a:C.c<w.heap.size:=h.v.lt;have b:C.aU<w.heap.size:=bu.lt h.f;refine⟨h1,bu.ah h.f hc h.a1.2.2,hd,h.b1,h.cf,h.hd,h.a1.1,λg=>?_,λg=>?_⟩
 .rcases hf _ g with g|g
  .exact h.a1.2.1 g
  .have g:w.heap.size<=C.c:=g
   omega
 .rcases hf _ g with g|g
  .exact h.a1.2.2 g
  .have g:w.heap.size<=C.aU:=g
   omega
def cn.wrote(C:cn)(i no:Nat)(hi:i<C.aw.length)(s:ad):cn:={C with aw:=C.aw.set i {C.aw[i] with gM:=false},D:=C.D.put no s (C.aw[i]).l}
theorem Mp(h:eu X w C)(hi:i<C.aw.length)(hf:(C.aw[i]).full=true)(t:(C.aw[i]).no=no)(H:¬C.D.cl no=true)(hd:cL w' (C.D.put no s (C.aw[i]).l))(hc:ag (b4 C.D) w w')(T:∀q,aD s q->b4 C.D q\/w<=q):
 (∃u:aa,w'.cell? ⟨C.aU,i*6+1,none⟩=some u)/\w'.frozen? ⟨C.aU,i*6+1,none⟩=false/\eu X (w'.setCell ⟨C.aU,i*6+1,none⟩ false) (C.wrote i no hi s)/\
   eR C (C.wrote i no hi s) w (w'.setCell ⟨C.aU,i*6+1,none⟩ false) 1/\∀j,(C.wrote i no hi s).view j=C.view j:=by
 have z:=Mo (no:=no) (l:=(C.aw[i]).l) T;obtain⟨aF,x⟩:=U6 (C.D.put no s (C.aw[i]).l);have B:∀j,aF.now j=if j=no then (C.aw[i]).l else C.D.now j:=by rw[x];exact qo _ _ _ _
 have J:aF.d=C.D.d:=by rw[x];rfl
 have U:aF.n=C.D.n:=by rw[x];rfl
 have W:aF.key=C.D.key:=by rw[x];exact Fe C.D H
 have K:lL aF C.D:=by rw[x];exact Fc h.inv H
 have al:aF.aX=C.D.aX+1:=by rw[x];rfl
 have Y:∀m,C.D.calm (m+1)->aF.calm m:=λm Z=>by rw[x];exact(kI (.inr rfl) h.raw.dev.f4 Z).1
 unfold cn.wrote;rw[←x]at hd z⊢;have L:=h.raw.r2 hd J hc z;obtain⟨a1,a2,a3,a4⟩:=oX L.f hi (j:=1) (by decide) (v:=false) {C.aw[i] with gM:=false} rfl;obtain⟨g,o⟩:∃g:Fr,g={C.aw[i] with gM:=false}:=⟨_,rfl⟩;rw[←o]at a3⊢;refine⟨a1,a2,?_⟩;generalize w'.setCell ⟨C.aU,i*6+1,none⟩ false=E at a3 a4;have G:ag (du C) w E:=cE (hc.mono λq _ e=>.inr (.inr e)) a4 λq _ e=>.inr (.inl e);obtain⟨y,ay,az,ab,ac,am,an,ae⟩:=h.inv.ok _ (cJ hi) hf;have af:y=no:=by rw[t]at ay;omega
 subst af;obtain⟨a,r⟩:∃a:cn,a={C with aw:=C.aw.set i dM,D:=aF}:=⟨_,rfl⟩;have h1:g3 X E a:=by
  rw[r];exact Bj (V:=du C) hi h.inv G (λ_ _ h=>h) K (λj A=>by rw[B,if_neg λe=>A hf (by rw[t,e])]) z dM rfl rfl
 have v1:∀j,a.view j=C.view j:=λj=>by
  rw[r];exact Fb hi h.inv (λ_ j A=>by rw[B,if_pos (by rw[t]at A;omega)]) (λj A=>by rw[B,if_neg λe=>A hf (by rw[t,e])]) dM rfl j
 have F:a.aw=C.aw.set i dM:=by rw[r]
 have dW:i<a.aw.length:=by rw[F,dp];exact hi
 have M:∀ (k:Nat) (ah:k<a.aw.length),k≠i->(a.aw[k]).full=true->(a.aw[k]).no≠y:=λk ah N h2 O=>by
  simp only[F,fQ (Ne.symm N)]at h2 O;exact N (h.inv.un k i _ hi h2 hf (by rw[O,t]))
 have P:C.aw.set i g=a.aw.set i g:=by rw[F,set_set]
 have Q:({C with aw:=C.aw.set i g,D:=aF}:cn)={a with aw:=a.aw.set i g,D:=aF}:=by rw[P,r]
 have ai:bI (λq=>¬du {C with aw:=C.aw.set i g,D:=aF} q/\¬X q) E g.b g.l:=by
  rw[o];refine bI.re ab G (λq _ R=>R.1) λq R S=>⟨λp=>S.1 ?_,S.2⟩;obtain p|p|p:=p
  .exact .inl p
  .exact .inr (.inl p)
  .exact .inr (.inr ((z q p).resolve_right I))
 have h2:g3 X E {C with aw:=C.aw.set i g,D:=aF}:=by
  rw[Q];refine Bk (C:=a) (no:=y) (V:=λ_=>False) dW h1 (.refl _ _) (λ_ _ h=>h.elim) (by rw[r];exact⟨rfl,λ_ h=>h,K.2.2⟩) (λj=>by rw[r]) (λq=>by rw[r]) g (o▸hf) (by rw[o];exact h.inv.pins (C.aw[i]) (cJ hi)) ⟨by rw[o];exact t,by show y<aF.n;rw[U];exact az,by rw[←Q];exact ai,by rw[o];exact ac,λ_=>?_,λ_=>by rw[o],ae⟩ M;show g.l=aF.now y;rw[B,if_pos rfl,o]
 have aj:∀j,({C with aw:=C.aw.set i g,D:=aF}:cn).view j=C.view j:=λj=>by
  have ak:({C with aw:=C.aw.set i g,D:=aF}:cn)=cn.mk a.c a.aU (a.aw.set i g) C.hand aF:=by rw[P,r]
  rw[ak,Bl (C:=a) (hd:=C.hand) (aF:=aF) (no:=y) dW h1.un (λj=>by rw[r]) g (o▸hf) (o▸t) (λp=>by simp only[F,iY]at p;cases p) M j,v1];split
  .rename_i e
   subst e;have:=nH (fs:=C.aw) (D:=C.D) (c:=C.c) (aU:=C.aU) (hd:=C.hand) h.inv.un hi hf t;rw[o];exact this.symm
  .rfl
 refine⟨⟨?_,h2⟩,⟨rfl,J,by show(C.aw.set i _).length=_;rw[dp],W,by show aF.aX<=_;omega,Y,G,?_⟩,aj⟩
 .refine Bm (C:={C with D:=aF}) L a4 a3
 .rintro q (e|e|e)
  .exact .inl (.inl e)
  .exact .inl (.inr (.inl e))
  .exact(z q e).imp (λh=>.inr (.inr h)) id
theorem BN{aF:a8}(h:eu X w C)(hd:cL w' aF)(e:aF.d=C.D.d)(b:lL aF C.D)(a:∀i,aF.now i=C.D.now i)(hc:ag (b4 C.D) w w')(hf:∀q,b4 aF q->b4 C.D q\/w<=q):eu X w' {C with D:=aF}/\∀j,({C with D:=aF}:cn).view j=C.view j:=
 ⟨⟨h.raw.r2 hd e hc hf,uv (C:=C) (hd:=C.hand) h.inv (iL.refl _) (hc.mono λq _ e=>.inr (.inr e)) (λ_ _ h=>h) b a hf⟩,λj=>uw (C:=C) (hd:=C.hand) h.inv (iL.refl _) a j⟩
theorem Mq(h:eu X w C)(hc:∀f∈C.aw,f.iv=false)(j:Nat):C.view j=C.D.now j:=by
 unfold cn.view
 cases b:C.aw.find? λf=>f.full&&f.no==(j:Int) with
 |none=>rfl
 |some f=>
  have c:=jY b;have a:=kR b;simp only[dg,kq]at a;obtain⟨no,ay,az,g,i,d⟩:=h.inv.ok f c a.1;have h1:=hc f c;unfold Fr.iv at h1;rw[a.1,hX]at h1;have e:no=j:=by rw[a.2]at ay;omega
  rw[←e];exact d h1
theorem F1{D:a8}(h:cL w D)(i:Nat):D.jP.now i=D.now i:=by
 by_cases hi:i<D.n
 .exact BL D hi
 .have h1:D.now i=[]:=by
   unfold a8.now
   cases hf:D.waits.find? λx=>x.i==i with
   |some x=>
    have hx:=jY hf;have he:x.i=i:=by simpa using kR hf
    have:=(h.wn x hx).2.1;omega
   |none=>
    have:¬i<D.bJ.length:=hi;show D.bJ.getD i []=[];rw[ft,m9 I];rfl
  rw[h1];show((List.range D.n).map D.now).getD i []=[];rw[ft,m9 (by simp;omega)];rfl
theorem uH(D:a8){m:Nat}(h:D.calm m):(D.cN 3).calm m:=by
 unfold a8.calm a8.cN at*;simpa[ft] using h
theorem eR.r1{C aM:cn}(h:eR C aM w w' k):aM.D.r1=C.D.r1:=congrArg (λk:(O c7×(Nat->ao)×(Nat->O c7)×(Int->Prop)×ao)×Int=>k.1.2.2.2.2) h.bJ
structure Mr(X:U1)(C aM:cn)(w:J)(v:aa)(w':J):Prop where
 at_:eu X w' aM
 c:aM.c=C.c
 d:aM.D.d=C.D.d
 len:aM.aw.length=C.aw.length
 n:aM.D.n=C.D.n
 cl:aM.D.cl=C.D.cl/\aM.D.eW=C.D.eW
 r:aM.D.r1=C.D.r1
 aX:aM.D.aX<=C.D.aX+64
 calm:∀m,C.D.calm (m+64)->aM.D.calm m
 ah:ag (du C) w w'
 c1:∀q,du aM q->du C q\/w<=q
 view:∀j,aM.view j=C.view j
 jc:(v=.int .i64 0/\aM.D.waits=[]/\(∀f∈aM.aw,f.iv=false)/\aM.D.cu.getD 3 0=(g1 (C.D.cu.getD 3 0)).2)\/(v=.int .i64 3/\aM.D.bJ=C.D.bJ/\(¬C.D.calm 64\/C.D.gh 3=true))
theorem Ms(h:eu X w C)(a1:C.D.aX<=999999900)(an:∀j,C.D.cl j=true->C.D.eW j=[]):aH aj 147 #[.pointer (some C.c)] w (λv w'=>∃aM,Mr X C aM w v w'):=by
 have a2:=h.raw.cf;refine okF (ae.xn (some C.c)) ax.xn func147 ?_;(delta ae.xn ak bH aO r1 iD al bB st ar;dsimp only);refine⟨nofun,λ_=>(Mn h.raw).use ?_⟩;rintro _ w1 ⟨s,zs,rfl,hs,M,V,ao⟩;have hlen:s.len=zs.length:=by have:=hs.1;rw[cU]at this;omega
 have a3:zs.length<=64:=by
  rw[M.length_eq];unfold ln;rw[cU];have:=jF Fr.iv C.aw;omega
 have h1:=h.ext V;have ap:∀z∈zs,∀no:Nat,(no:Int)=z->¬C.D.cl no=true:=λz t no a4 hs=>by
  obtain⟨f,hf,e⟩:=eJ.1 (M.mem_iff.1 t);obtain⟨h2,u⟩:=gw.1 hf;unfold Fr.iv at u;rw[dg]at u;obtain⟨m,b1,_,_,_,_,W,aq⟩:=h.inv.ok f h2 u.1;have:m=no:=by rw[e]at b1;omega
  subst this;rw[W hs]at u
  cases u.2
 refine⟨s,rfl,λn w'=>∃ (i:Nat) (g:cn),n=(i:Int)/\i<=zs.length/\eu X w' g/\eR C g w w' i/\(∀j,g.view j=C.view j)/\aR 1 3 w' s (zs.map encZ)/\(∀f∈g.aw,f.iv=true->f.no∈zs.drop i)/\(∀z∈zs,∃f∈g.aw,f.full=true/\f.no=z)/\∀q,du g q->¬aD s q,
  λn _=>((zs.length:Int)-n).toNat,⟨0,C,rfl,cI _,h1,eR.ext C V,λ_=>rfl,hs,λf hf hd=>?_,λz t=>?_,λq o N=>?_⟩,?_⟩
 .exact M.mem_iff.2 (eJ.2 ⟨f,gw.2 ⟨hf,hd⟩,rfl⟩)
 .obtain⟨f,hf,e⟩:=eJ.1 (M.mem_iff.1 t)
  obtain⟨h2,u⟩:=gw.1 hf;unfold Fr.iv at u;rw[dg]at u;exact⟨f,h2,u.1,e⟩
 .have:=ao q N;have:=h.raw.lt o;omega
 rintro _ Q ⟨i,g,rfl,hi,p,l,O,R,Y,hex,Z⟩;have a5:=l.aX;refine⟨λaI=>?_,λau=>?_⟩
 .have G:i<zs.length:=by
   have:(i:Int)<(s.len:Int):=b2 aI;omega
  obtain⟨a,av,aB⟩:∃a:af,s.a=some a/\Q.cell? (a.add (Int.toNat (i:Int)*1))=some (.int .i64 zs[i]):=by
   obtain⟨b,c,y,_,_,_,_,S,_⟩:=R.cell (i:=i) (v:=encZ zs[i]) (by rw[mz,dR G];rfl);exact⟨_,y,by rw[c2,aA,cA,f_];exact S⟩
  refine⟨a,av,⟨I,by show(i:Int)<(s.len:Int);omega⟩,zs[i],aB,?_⟩;rw[←l.c];refine(yB p.raw _).use ?_;rintro _ _ ⟨aC,rfl⟩;obtain⟨f,aE,aF,aG⟩:=hex zs[i] (cJ G);obtain⟨k,H,rfl,ay,az⟩|⟨_,aJ⟩:=aC
  rotate_left
  .exact absurd aG (aJ f aE aF)
  have J:=cw Q;have B:=p.ext J;obtain⟨no,b1,cf,aa,aK,a6,W,aq⟩:=B.inv.ok _ (cJ H) ay;have t:zs[i]=(no:Int):=by rw[←az,b1]
  have aL:=k_ B.raw.f H (j:=5) (by decide);refine⟨_,rfl,aT ⟨_,rfl,id,_,B.raw.cells.1,_,rfl,id,(g.aw[k]).b,aL,?_⟩⟩;rw[t];refine(yu B.raw.dev (i:=no) cf I aa.1 aK λq o hf=>(aa.2.2 q o).1.1 (.inr (.inr hf))).use ?_;rintro v2 ai aN;have aP:=l.ah.size;have a7:=J.size;obtain⟨y,rfl,E,r⟩|⟨y,rfl,s2,E,r,aQ⟩:=aN
  .obtain⟨iN,eM⟩:=BN B E rfl (B.inv.cN 2) (λj=>yC g.D 2 j) (r.mono λq _ e=>.inl e) λq o=>.inl o
   refine⟨3,rfl,λ_=>⟨{g with D:=g.D.cN 2},iN,l.c,l.d,l.len,l.n,l.qw,l.r1,by show g.D.aX<=_;omega,λm K=>?_,?_,?_,λj=>(eM j).trans (O j),.inr ⟨rfl,?_,.inl λaS=>?_⟩⟩,nofun⟩
   .exact(kI (.inr rfl) p.raw.dev.f4 (l.calm (m+1) (gq K I))).1
   .refine cE (l.ah.trans (ag.cX J)) r λq o e=>?_
    exact(l.c1 q (.inr (.inr (.inl e)))).resolve_right I
   .exact l.c1
   .exact congrArg (λk=>k.1.1) l.bJ
   .have:=(kI (k:=2) (m:=0) (.inr rfl) p.raw.dev.f4 (l.calm 1 (gq aS I))).2
    rw[y]at this;cases this
  .obtain⟨bh,bj,ab,P,aV⟩:=Mp B H ay (by rw[az,t]) (λhs=>ap _ (cJ G) _ t.symm (l.cl▸hs)) E r aQ
   refine⟨0,rfl,nofun,λ_=>⟨_,rfl,bh,bj,?_⟩⟩;rw[aA];refine aT ?_;generalize ai.setCell ⟨g.aU,k*6+1,none⟩ false=a9 at ab P;have aW:IntKind.wrap .i64 ((i:Int)+1)=((i+1:Nat):Int):=by rw[bq I I];omega
   rw[aW];have aY:=(l.trans (eR.ext g J)).trans P;have aZ:zs.drop i=zs[i]::zs.drop (i+1):=kp G;refine⟨⟨i+1,_,rfl,I,ab,aY,λj=>(aV j).trans (O j),(R.ext J).ah P.ah λq o hf=>Z q hf o,λf hf A=>?_,λz t=>?_,λq o N=>?_⟩,by show((zs.length:Int)-((i+1:Nat):Int)).toNat<((zs.length:Int)-(i:Int)).toNat;omega⟩
   .have hf:f∈g.aw.set k {g.aw[k] with gM:=false}:=hf
    obtain⟨b,T,rfl⟩:=fe hf;have ac:b<g.aw.length:=by simpa using T
    by_cases e:k=b
    .subst e
     simp[Fr.iv]at A
    .simp only[fQ e]at A⊢
     have F:=Y _ (cJ ac) A;rw[aZ]at F;rcases cZ.1 F with U|U
     .unfold Fr.iv at A
      rw[dg]at A;exact absurd (p.inv.un k b H ac ay A.1 (by rw[az,U])) e
     .exact U
   .obtain⟨f,f1,f2,f3⟩:=hex z t
    obtain⟨b,T,rfl⟩:=fe f1;by_cases e:k=b
    .subst e
     exact⟨{g.aw[k] with gM:=false},List.mem_set H _,f2,f3⟩
    .exact⟨g.aw[b],vd.2 ⟨b,by show b<(g.aw.set k _).length;rw[dp];exact T,by show(g.aw.set k _)[b]'_=_;rw[fQ e]⟩,f2,f3⟩
   .rcases P.c1 q o with F|F
    .exact Z q F N
    .have:=R.lt q N;omega
 .have G:i=zs.length:=by
   have:¬(i:Int)<(s.len:Int):=cr au;omega
  have S:∀f∈g.aw,f.iv=false:=λf hf=>by
   cases A:f.iv with
   |false=>rfl
   |true=>
    have:=Y f hf A;rw[G,List.drop_length]at this
    cases this
  have ad:g.D.cu.getD 3 0=C.D.cu.getD 3 0:=congrArg Prod.snd l.bJ;rw[←l.c];refine⟨_,rfl,_,p.raw.cells.1,(BM p.raw.dev I).use ?_⟩;have aP:=l.ah.size;rintro v2 ai (⟨y,rfl,E,r⟩|⟨y,rfl,E,r⟩)
  .obtain⟨iN,eM⟩:=BN p E rfl (p.inv.cN 3) (λj=>yC g.D 3 j) (r.mono λq _ e=>.inl e) λq o=>.inl o
   refine⟨3,rfl,{g with D:=g.D.cN 3},iN,l.c,l.d,l.len,l.n,l.qw,l.r1,by show g.D.aX<=_;omega,λm K=>uH _ (l.calm m (gq K I)),cE l.ah r λq o e=>(l.c1 q (.inr (.inr (.inl e)))).resolve_right I,l.c1,λj=>(eM j).trans (O j),.inr ⟨rfl,congrArg (λk=>k.1.1) l.bJ,.inr ?_⟩⟩;unfold a8.gh at y⊢;rw[←ad];exact y
  .have am:∀q,b4 (g.D.cN 3).jP q->b4 g.D q\/Q<=q:=by
    rintro q (e|e|e|⟨x,hx,e⟩)
    .exact .inl (.inl e)
    .exact .inl (.inr (.inl e))
    .exact .inl (.inr (.inr (.inl e)))
    .cases hx
   have a0:∀j,(g.D.cN 3).jP.now j=g.D.now j:=λj=>by
    by_cases L:j<g.D.n
    .exact(BL (g.D.cN 3) L).trans (yC g.D 3 j)
    .have F:g.D.jP.now j=g.D.now j:=F1 p.raw.dev j
     exact F
   obtain⟨iN,eM⟩:=BN p E rfl ⟨uG (g.D.cN 3),λ_ h=>h,λj L=>by
    have L:g.D.cl j=true:=L;have e:g.D.eW j=[]:=by rw[l.qw.2];exact an j (l.qw.1▸L)
    exact e.symm⟩ a0 r am
   refine⟨0,rfl,{g with D:=(g.D.cN 3).jP},iN,l.c,l.d,l.len,(uG (g.D.cN 3)).trans l.n,l.qw,l.r1,by show g.D.aX<=_;omega,λm K=>uH g.D (l.calm m (gq K I)),cE l.ah r λq o e=>(l.c1 q (.inr (.inr e))).resolve_right I,λq o=>?_,λj=>(eM j).trans (O j),.inl ⟨rfl,rfl,S,?_⟩⟩
   .obtain e|e|e:=o
    .exact l.c1 q (.inl e)
    .exact l.c1 q (.inr (.inl e))
    .rcases am q e with e|e
     .exact l.c1 q (.inr (.inr e))
     .exact .inr I
   .show(g.D.cu.set 3 _).getD 3 0=_
    have a_:=p.raw.dev.f4;rw[fB (by rw[dp];omega),iY,ad]
end
def jB(bd d c sb:Nat)(l:e0)(u:c_)(gen now first pending keys:Nat)(failed:ao):O aa:=
 [.pointer (some bd),.pointer (some d),.pointer (some c),.pointer (some sb),l.aw,l.batch,.int .u64 (l.h5:Nat),
  u.root,u.aK,u.map,.int .u64 (u.clock:Nat),.int .u64 (u.dc:Nat),u.keys,
  .int .u64 (gen:Nat),.int .u64 (now:Nat),.int .u64 (first:Nat),pending,keys,failed]
section
variable {w w':J}{D:a8}
structure F2(D:a8)(l:e0)(u:c_)(gen sb:Nat)(w:J)(v:aa)(w':J)(c aU bd st:Nat):Prop where
 val:v=.tuple #[.pointer (some st),U8]
 ca:eu (λ_=>False) w' (jx c aU l.aw D)
 cY:Var w' bd [.pointer (some c),.pointer (some sb),.int .u64 ((gen+1:Nat):Int),u.root,u.aK] 243
 sv:Var w' st (jB bd D.d c sb l u gen u.clock 0 0 u.keys false) 146
 x:Ext w w'
 hc:w<=c/\c<bd
 hf:w<=aU/\aU<bd
 ht:bd<st
def a8.jj(D:a8)(s:Nat->ao)(z:Nat->O c7):a8:={D with cl:=s,eW:=z}
theorem cL.jj(h:cL w D)(s:Nat->ao)(z:Nat->O c7):cL w (D.jj s z):=⟨h.v,h.l,h.m,h.ws,h.wn,h.sl,h.lK,h.b6,h.bx,h.f4,h.fr,h.a1,h.a2,h.a3,h.r⟩
theorem ox(h:cL w D){l:e0}(q:8<=l.aw/\l.aw<=64)(hu:uF D.n (u.root:Nat) (u.aK:Nat))(hg:gen+1<18446744073709551616)(s:∀j,D.cl j=true->D.eQ j=D.eW j)(sb:Nat):
 aH aj 61 #[.pointer (some D.d),.agg l.c.toArray,.agg u.c.toArray,.int .u64 (gen:Nat),.pointer (some sb)] w (λv w'=>∃c aU bd st,F2 D l u gen sb w v w' c aU bd st):=by
 refine ae.H3 _ (l.aw:Nat) (l.batch:Nat) (l.h5:Nat) (u.root:Nat) (u.aK:Nat) (u.map:Nat) (u.clock:Nat) (u.dc:Nat) (u.keys:Nat) (gen:Nat) (some sb) w _ ?_;(delta ae.ox r1 Y hO ak bO;dsimp only);refine a6 (vs:=l.c) rfl λw1 t i H=>a6 (vs:=u.c) rfl λai x b J=>?_;have r:=t.ext b;have y:=h.ext (i.trans b);refine⟨_,r.cell,(rE y q.1 q.2 s).use ?_⟩;rintro _ a ⟨c,aU,rfl,e,f,K,L⟩;have k:=x.ext f;have z:IntKind.wrap .u64 ((gen:Int)+1)=((gen+1:Nat):Int):=by rw[gF I I];omega
 rw[z];have M:(jx c aU l.aw D).D=D:=rfl;refine⟨_,0,rfl,nofun,λ_=>⟨_,k.cell,_,k.cell,(rF e.raw sb ((gen+1:Nat):Int) (u.root:Nat) (u.aK:Nat)).use ?_⟩⟩;rintro _ A (⟨_,rfl,g,B,N⟩|⟨C,_⟩)
 rotate_left
 .exact absurd hu C
 have m:=k.ext g;have o:=(r.ext f).ext g;have O:=(i.trans b).size;have P:=f.size;have E:c<a:=e.raw.lt (.inl rfl);have F:aU<a:=e.raw.lt (.inr (.inl rfl));refine⟨_,0,rfl,nofun,λ_=>⟨_,o.cell,_,o.cell,_,o.cell,hE m ⟨_,m.cell,_,m.cell,(jB a D.d c sb l u gen u.clock 0 0 u.keys false).toArray,by kernel_rfl,a6 (vs:=jB a D.d c sb l u gen u.clock 0 0 u.keys false) rfl λQ G p R=>?_⟩⟩⟩;exact⟨c,aU,a.heap.size,A.heap.size,rfl,(e.ext g).ext p,B.ext p,G,Ext.trans (Ext.trans (i.trans b) f) (Ext.trans g p),⟨I,E⟩,⟨I,F⟩,I⟩
def gf(f:Nat->ao)(k:Nat):O UInt8:=(List.range k).map λi=>UInt8.ofNat (byteOf f i)
theorem F3(f:Nat->ao)(k:Nat):aC (gf f k)=e6 f k:=by
 unfold aC gf e6;rw[iW];refine u9 λi _=>?_;have:=k9 f i;show Value.int .u8 (((UInt8.ofNat (byteOf f i)).toNat:Nat):Int)=_;rw[n3,kr this]
theorem qB(f:Nat->ao)(k:Nat):(gf f k).length=k:=by simp[gf]
def ki:c_:=⟨0,0,2,0,0,0⟩
structure F4(D aF:a8):Prop where
 d:aF.d=D.d
 n:aF.n=D.n
 now:∀j,aF.now j=if j=1 then eX 1 (kJ ki D.n 1) else if j=2 then eX 2 ⟨4,1,gf (λi=>decide (i<3)) ((D.n+7)/8)⟩ else if j=0 then g2 else D.now j
 waits:aF.waits=[]
 aX:aF.aX=D.aX+4
 calm:∀k,aF.calm k
 cu:aF.cu.getD 3 0= -1
 cl:aF.cl=λi=>decide (i<3)
 eW:aF.eW=λ_=> []
 r:aF.r1=D.r1
structure Mt(D:a8)(l:e0)(w:J)(v:aa)(w':J)(aF:a8)(sb:Nat)(s1 s2:ad)(c aU bd st:Nat)(k7:J):Prop where
 F5:F2 aF l ki 1 sb k7 v w' c aU bd st
 sp:fc w' sb D.n (λi=>decide (i<3)) (λi=>decide (i<3)) s1 s2
 r2:F4 D aF
 ah:ag (b4 D) w k7
 uI:∀q,gr sb s1 s2 q->w<=q/\q<k7
 dq:∀q,b4 aF q->b4 D q\/(w<=q/\q<k7)
 Mu:∀q,gr sb s1 s2 q->¬b4 aF q
theorem pL(h:cL w D){l:e0}(ao:mY (l.aw:Nat) (l.batch:Nat) (l.h5:Nat))(bh:∀k,D.calm k)(sg:D.cu.getD 3 0= -1)(b1:D.aX<=999999000):
 aH aj 21 #[.pointer (some ⟨D.d,0,none⟩),.agg l.c.toArray] w (λv w'=>∃aF sb s1 s2 c aU bd st k7,Mt D l w v w' aF sb s1 s2 c aU bd st k7):=by
 have b3:=h.b6;have b5:=h.bx;refine ae.HX _ (l.aw:Nat) (l.batch:Nat) (l.h5:Nat) w _ ?_;(delta ae.pL r1 Y bO bP ak bB hO bH dH lE ar gI;dsimp only);refine a6 (vs:=l.c) rfl λw1 Q J b7=>⟨_,Q.cell,_,Q.cell,_,Q.cell,(pN w1 _ _ _ _).use ?_⟩;rintro _ bi ⟨rfl,C⟩;have bj:=h.ext (J.trans C);refine⟨_,rfl,λr=>?_,λ_=>(sj bj).use ?_⟩
 .rw[dh ao]at r;cases r
 rintro _ _ ⟨rfl,rfl⟩;refine⟨_,rfl,(rv bi (D.n:Nat) 3).use ?_⟩;rintro _ b8 (⟨bl,_⟩|⟨_,_,_,_,sb,s1,s2,rfl,hs,Z,aa⟩)
 .exact absurd ⟨I,I,I,I⟩ bl
 rw[c2]at hs;have ab:Int.toNat 3=3:=rfl;rw[ab]at hs;refine⟨_,0,rfl,nofun,λ_=>(E6 hs).use ?_⟩;rintro _ bm ⟨aM,rfl,aN,K,b9⟩;rw[←F3]at aN;obtain⟨mp,R⟩:=U6 (⟨4,1,gf (λi=>decide (i<3)) ((D.n+7)/8)⟩:jg);have aO:oN mp:=by rw[R];exact⟨(by decide:1<=4),(by decide:4<=4),(by decide:1<18446744073709551616),by show(gf _ _).length<=232;rw[qB];omega⟩
 have aP:=yf (s:=aM) (p:=mp) (no:=2) (w:=bm) (R▸aN.src) (by decide) aO;rw[R]at aP;refine⟨aM,rfl,aP.use ?_⟩;rw[←R];rintro _ bn ⟨F,rfl,aQ,N,bo⟩;have aR:=Ext.trans (Ext.trans (J.trans C) Z) (Ext.trans K N);have b_:=aR.size;refine⟨F,0,rfl,nofun,λ_=>⟨⟨I,I,I,I⟩,?_⟩⟩;rw[AN];have bp:Int.toNat 256=256:=rfl;rw[bp];have ap:g2.length=256:=m5;refine a6 (vs:=aC g2) rfl λB S G ca=>?_;obtain⟨y,br⟩:=U6 bn.heap.size;rw[←br]at S⊢;have ac:=Ext.trans aR G;have aS:Src 1 B ⟨some ⟨y,0,none⟩,256,256⟩ (aC g2):=S.r5 (o:=0) (n:=256) (c:=256) (l:=g2) (by rw[de,ap];exact bk _) (by rw[iV,dO (by rw[de,ap];exact bk _)]);refine⟨#[.slice (some ⟨y,0,none⟩) 256 256,.slice (some ⟨y,0,none⟩) 256 256,.slice F.a F.len F.cap],by kernel_rfl,?_⟩;have bs:(eX 2 mp).length=256:=uf _ aO;obtain⟨vals,aq⟩:=U6 (λj=>if j=2 then eX 2 mp else g2:Nat->c7)
 have bt:∀j,(vals j).length=256:=λj=>by
  rw[aq];show(if j=2 then _ else _:c7).length=256;split
  .exact bs
  .exact ap
 have bu:∀k,k<3->∃H:ad,cellAt #[.slice (some ⟨y,0,none⟩) 256 256,.slice (some ⟨y,0,none⟩) 256 256,.slice F.a F.len F.cap] (Int.toNat ((k:Nat):Int)*1)=some (.slice H.a H.len H.cap)/\Src 1 B H (aC (vals k))/\∀q,aD H q->w<=q/\q<B:=by
  intro k aT;have bv:=S.lt;have cb:=G.size;rw[aq];have hi:∀q,aD (⟨some ⟨y,0,none⟩,256,256⟩:ad) q->w<=q/\q<B:=λq b=>by
   obtain⟨A,av,rfl⟩:=b
   cases av;show w<=y/\y<_;exact⟨I,bv⟩
  have cc:=(Ext.trans (Ext.trans (J.trans C) Z) K).size
  match k,aT with
  |0,_=>exact⟨⟨some ⟨y,0,none⟩,256,256⟩,rfl,aS,hi⟩
  |1,_=>exact⟨⟨some ⟨y,0,none⟩,256,256⟩,rfl,aS,hi⟩
  |2,_=>exact⟨F,rfl,aQ.src.ext G,λq b=>U5 (bo q b) (aQ.lt q b)⟩
 have bw:=h.ext ac;refine⟨λn w'=>∃ (k:Nat) (g:a8),n=(k:Int)/\k<=3/\cL w' g/\g.d=D.d/\g.n=D.n/\(∀j,g.now j=if j<k then vals j else D.now j)/\g.aX=D.aX+k/\(∀m,g.calm m)/\(g.cu.getD 3 0= -1/\g.r1=D.r1)/\ag (b4 D) B w'/\(∀q,b4 g q->b4 D q\/B<=q),
  λn _=>((3:Int)-n).toNat,⟨0,D,rfl,cI _,bw,rfl,rfl,λj=>rfl,rfl,bh,⟨sg,rfl⟩,.refl _ _,λq b=>.inl b⟩,?_⟩
 rintro _ cd ⟨k,g,rfl,aT,O,af,aV,aW,bz,au,⟨ax,aY⟩,ai,L⟩;have ce:=ai.size;refine⟨λaI=>?_,λbA=>?_⟩
 .have ay:k<3:=by
   have:((k:Nat):Int)<3:=b2 aI;omega
  obtain⟨H,bC,bD,aZ⟩:=bu k ay;have dd:∀q,aD H q->¬b4 D q:=λq b hf=>U5 ((aZ q b).1) (h.lt hf)
  have a0:=yu O (i:=k) I I (bD.ah ai dd) (bt k) λq b hf=>by
   rcases L q hf with h1|h1
   .exact dd q b h1
   .have:=(aZ q b).2;omega
  rw[af]at a0;refine⟨⟨I,I⟩,H,bC,a0.use ?_⟩;rintro _ cf (⟨r,_⟩|⟨r,rfl,s,bE,bF,bG⟩)
  .have:=(kI (k:=2) (m:=0) (.inr rfl) O.f4 (au 1)).2
   rw[r]at this;cases this
  refine⟨0,rfl,nofun,λ_=>?_⟩;have bI:IntKind.wrap .i64 (((k:Nat):Int)+1)=((k+1:Nat):Int):=by rw[bq I I];omega
  rw[bI];refine⟨⟨k+1,_,rfl,I,bE,af,aV,λj=>?_,by show g.aX+1=_;omega,λm=>(kI (.inr rfl) O.f4 (au _)).1,⟨(congrArg Prod.snd (sk g (.inr rfl))).trans ax,aY⟩,cE ai bF λq b hf=>(L q hf).resolve_right I,λq b=>?_⟩,by show((3:Int)-((k+1:Nat):Int)).toNat<((3:Int)-((k:Nat):Int)).toNat;omega⟩
  .rw[qo,aW]
   by_cases e:j=k
   .rw[if_pos e,if_pos I,e]
   .rw[if_neg e]
    by_cases T:j<k
    .rw[if_pos T,if_pos I]
    .rw[if_neg T,if_neg I]
  .rcases yP bG q b with h1|h1
   .exact L q h1
   .exact .inr I
 have ay:k=3:=by
  have:¬((k:Nat):Int)<3:=cr bA;omega
 subst ay;have hf:=BM O I;rw[af]at hf;refine hf.use ?_;rintro _ a1 (⟨r,_⟩|⟨_,rfl,az,bK⟩)
 .unfold a8.gh at r
  rw[ax]at r;cases r
 obtain⟨dn,E⟩:=U6 ((g.cN 3).jP);rw[←E]at az;have a2:dn.d=D.d:=by rw[E];exact af
 have a3:dn.n=D.n:=by rw[E];exact(uG _).trans aV
 have bL:dn.r1=D.r1:=by rw[E];exact aY
 have bM:∀j,dn.now j=if j<3 then vals j else D.now j:=λj=>by
  rw[←aW,E];have aB:g.jP.now j=g.now j:=F1 O j;exact aB
 have cg:dn.aX=D.aX+3:=by rw[E];exact bz
 have a4:∀m,dn.calm m:=λm=>by rw[E];exact uH _ (au m)
 have a5:dn.cu.getD 3 0= -1:=by
  rw[E];show(g.cu.set 3 _).getD 3 0=_;have bN:=O.f4;rw[fB (by rw[dp];omega),iY,ax];rfl
 have al:∀q,b4 dn q->b4 D q\/B<=q:=λq b=>by
  rw[E]at b;obtain e|e|e|⟨x,hx,e⟩:=b
  .exact L q (.inl e)
  .exact L q (.inr (.inl e))
  .exact L q (.inr (.inr (.inl e)))
  .cases hx
 have am:ag (b4 D) B a1:=cE ai bK λq b hf=>(L q hf).resolve_right I;have U:∀q,w.heap.size<=q->¬b4 D q:=λq b hf=>U4 (h.lt hf)
 have bQ:=((Q.ext (C.trans (Ext.trans Z (Ext.trans K (Ext.trans N G))))).ah am (U _ (bk _)));have bR:=(hs.ext (Ext.trans K (Ext.trans N G))).ah am λq b=>U q (U5 (aa q b) ((J.trans C).size));refine⟨0,rfl,nofun,λ_=>a6 (vs:=gL.c) rfl λch bS bT ci=>kf bS rfl ki λbU a7 bV cj=>hE a7 ?_⟩;have V:Ext a1 bU:=Ext.cp bT bV (bk _);have W:=az.ext V;have a9:=ow W I (u:=ki) ⟨(by decide:0<4294967296),(by decide:0<256),(by decide:2<4294967296),(by decide:0<18446744073709551616),(by decide:0<18446744073709551616),(by decide:0<4294967296)⟩ (gen:=1) (by decide);rw[a2]at a9;refine a9.use ?_;have ck:=V.size;have cl:=am.size;rintro _ a_ ⟨an,⟨r,_⟩|⟨_,s,bW,f,z,⟨r,_⟩|⟨_,rfl,X⟩⟩⟩
 .have:=(kI (k:=2) (m:=0) (.inr rfl) W.f4 (a4 1)).2
  rw[r]at this;cases this
 .have aE:f.cu.getD 3 0= -1:=by rw[z];exact(congrArg Prod.snd (sk dn (.inr rfl))).trans a5
  unfold a8.gh at r;rw[aE]at r;cases r
 have aE:f.cu.getD 3 0= -1:=by rw[z];exact(congrArg Prod.snd (sk dn (.inr rfl))).trans a5
 obtain⟨M,t⟩:=U6 (((f.cN 3).jP).jj (λi=>decide (i<3)) (λ_=> []));have X:=X.jj (λi=>decide (i<3)) (λ_=> []);rw[←t]at X;have bX:∀x∈f.waits,x.i<f.n:=λx hx=>by
  rw[z]at hx⊢;rcases cZ.1 hx with rfl|hx
  .show 1%2<dn.n;omega
  .exact(W.wn x (gw.1 hx).1).2.1
 have bY:∀j,M.now j=if j=1 then eX 1 (kJ ki D.n 1) else if j<3 then vals j else D.now j:=λj=>by
  have aB:M.now j=f.now j:=by
   rw[t];by_cases ba:j<f.n
   .exact(BL (f.cN 3) ba).trans (yC f 3 j)
   .have P:f.now j=[]:=by
     unfold a8.now
     cases hf:f.waits.find? λx=>x.i==j with
     |some x=>
      have hx:=jY hf;have he:x.i=j:=by simpa using kR hf
      have:=bX x hx;omega
     |none=>
      have:¬j<f.bJ.length:=ba;show f.bJ.getD j []=[];rw[ft,m9 I];rfl
    rw[P];show((List.range (f.cN 3).n).map (f.cN 3).now).getD j []=[];rw[ft,m9 (by simp;show f.n<=j;omega)];rfl
  rw[aB,z,qo,bM,a3]
 have aG:F4 D M:=by
  refine⟨by rw[t,z];exact a2,by rw[t];exact(uG (f.cN 3)).trans (z▸a3),λj=>?_,by rw[t];rfl,by rw[t,z];show dn.aX+1=_;omega,λm=>by rw[t,z];exact uH (dn.put (1%2) s (eX (1%2) (kJ ki dn.n 1))) (kI (.inr rfl) W.f4 (a4 _)).1,?_,by rw[t];rfl,by rw[t];rfl,by rw[t,z];exact bL⟩
  .rw[bY,aq,←R]
   by_cases P:j=1
   .rw[if_pos P,if_pos P]
   .rw[if_neg P,if_neg P]
    by_cases T:j=2
    .subst T;rfl
    .by_cases ab:j=0
     .subst ab;rfl
     .rw[if_neg I,if_neg T,if_neg ab]
  .rw[t]
   show(f.cu.set 3 _).getD 3 0=_;have bN:f.cu.length=4:=by rw[z];show(dn.cu.set 2 _).length=4;rw[dp];exact W.f4
   rw[fB (by rw[dp];omega),iY,aE];rfl
 have bb:∀q,b4 M q->b4 D q\/B<=q:=λq b=>by
  rw[t]at b;have h1:b4 f q:=by
   obtain e|e|e|⟨x,hx,e⟩:=b
   .exact .inl e
   .exact .inr (.inl e)
   .exact .inr (.inr (.inl e))
   .cases hx
  rw[z]at h1;rcases yP bW q h1 with h2|h2
  .exact al q h2
  .exact .inr I
 have bc:ag (b4 D) B a_:=cE (cE am V λq _ h=>h.elim) an λq b hf=>(al q hf).resolve_right I;have aJ:=(bQ.ext V).ah an λhf=>by
  rcases al _ hf with h1|h1
  .exact U _ (bk _) h1
  .have:=ac.size;have:=S.lt;have:=Q.lt;have:=C.size;have:=Z.size;have:=K.size;have:=N.size;have:=G.size;omega
 have bZ:=a7.ah an λhf=>by
  have:=az.lt hf;omega
 have be:=(bR.ext V).ah an λq b hf=>by
  have bf:=aa q b;have aK:=(hs.ext (Ext.trans K (Ext.trans N (ag.refl _ _)))).lt q b;rcases al _ hf with h1|h1
  .exact U q (U4 ((J.trans C).size)) h1
  .have:=G.size;omega
 have cm:=bc.size;have S:=ac.size;have bg:=ox X (l:=l) (u:=ki) (gen:=1) ⟨U4 ao.1,U4 ao.2.1⟩ ⟨by decide,by decide,by decide,by rw[aG.n];show(0:Int)<_;omega,by decide⟩ (by decide) (λj _=>by rw[t];rfl) sb;rw[aG.d]at bg;refine⟨0,rfl,nofun,λ_=>⟨_,aJ.cell,_,aJ.cell,_,aJ.cell,hE bZ (bg.use ?_)⟩⟩;rintro _ cn ⟨c,aU,bd,st,aL⟩;have b0:=aL.val;subst b0;refine⟨_,0,rfl,M,sb,s1,s2,c,aU,bd,st,a_,aL,be.ext aL.x,aG,cE (ac.mono λ_ _ h=>h.elim) bc λq _ h=>h,λq b=>?_,λq b=>?_,λq b hf=>?_⟩
 .have bf:=aa q b
  have aK:=be.lt q b;have:=(J.trans C).size;exact⟨I,aK⟩
 .rcases bb q b with h1|h1
  .exact .inl h1
  .exact .inr ⟨I,X.lt b⟩
 .have bf:=aa q b
  have aK:=(hs.ext (Ext.trans K (Ext.trans N (ag.refl _ _)))).lt q b;rcases bb _ hf with h1|h1
  .exact U q (U4 ((J.trans C).size)) h1
  .have:=G.size;omega
end
theorem oF{b d:Nat}(k:b<256)(hd:d<256)(w:J):aH aj 19 #[.int .u8 (b:Nat),.int .u8 (d:Nat)] w (λv w'=>v=.agg (e0.c ⟨8,1+b%12,1+d%12⟩).toArray/\Ext w w'):=by
 refine ae.IM _ _ w _ ?_;(delta ae.oF Y ar r1 bO;dsimp only);have g:IntKind.wrap .i64 (1+IntKind.wrap .i64 (Int.tmod (b:Int) 12))=((1+b%12:Nat):Int):=by
  rw[o7 I,bq (n:=(b:Int)%12) I I,bq I I];omega
 have h:IntKind.wrap .u64 (1+IntKind.wrap .u64 (Int.tmod (d:Int) 12))=((1+d%12:Nat):Int):=by
  rw[o7 I,gF (n:=(d:Int)%12) I I,gF I I];omega
 rw[g,h];refine a6 (vs:=[U8,U8,.int .u64 0]) rfl λw1 e i l=>⟨by decide,by decide,e.ct rfl (λv f=>?_),rfl,cP e (us:=e0.c ⟨8,1+b%12,1+d%12⟩) rfl rfl λai a j m=>⟨_,a.cell,_,by rw[aA];exact a.cell,_,by rw[aA];exact a.cell,rfl,Ext.cp i j (bk _)⟩⟩;simp only[cZ,e2,e_]at f;rcases f with rfl|rfl|rfl<;>trivial
theorem Mv(n k:Nat):bQ n (k+1)=UInt8.ofNat (n/256^k%256)::bQ n k:=by
 unfold bQ;rw[List.range_succ_eq_map,hJ,iW]
 congr 1
 apply u9;intro j a;have:=jS.1 a;show UInt8.ofNat (n/256^(k+1-1-(j+1))%256)=_;rw[show k+1-1-(j+1)=k-1-j from I]
theorem oE(w:J)(t:n<18446744073709551616)(u:k<=8):aH aj 215 #[.int .u64 (n:Nat),k] w (λv w'=>∃s:ad,v=s/\aR 1 5 w' s (aC (bQ n k))/\Ext w w'/\g0 w s):=by
 refine ae.IK _ _ w _ ?_;delta ae.oE Y ak ar;have x:=qe w (.cells #[] 5);refine aT ⟨λm s j w'=>∃i:Nat,i<=k/\j=(i:Int)/\m=((n/256^i:Nat):Int)/\aR 1 5 w' s (aC (bQ n i))/\Ext w w'/\g0 w s,λ_ _ j _=>((k:Int)-j).toNat,⟨0,cI _,rfl,by rw[Nat.pow_zero,Nat.div_one],aR.new w [] 0 rfl (by decide),c5 _ _,λq a=>by have:=jr.1 a;have:w.heap.size=q:=this;omega⟩,?_⟩;rintro _ s _ b ⟨i,hi,rfl,rfl,c,hx,hf⟩;refine⟨λh=>?_,λh=>?_⟩
 .simp only[dg,b8]at h
  have d:n/256^i<=n:=Nat.div_le_self _ _;have f:IntKind.wrap .u8 (Int.tmod ((n/256^i:Nat):Int) 256)=(((UInt8.ofNat (n/256^i%256)).toNat:Nat):Int):=by
   generalize n/256^i=m;rw[o7 I,vK I I,r0 (hG _ I)];omega
  have g:IntKind.wrap .u64 (Int.tdiv ((n/256^i:Nat):Int) 256)=((n/256^(i+1):Nat):Int):=by
   rw[Nat.pow_succ,←Nat.div_div_eq_div_mul]
   revert d
   generalize n/256^i=m;intro d;rw[yZ I,gF I I];omega
  rw[f,g,mf I];have l:=mO c;rw[dI]at l;have y:=qe b (.cells (aC [UInt8.ofNat (n/256^i%256)]).toArray 5);obtain⟨o,w',ay,az,z,p,r⟩:=E0.append (cB:=39) (c.src.alloc _) (aR.new b (aC [UInt8.ofNat (n/256^i%256)]) 1 rfl (by decide)) (jd _) (by show(2*(1+s.len)+1000)*1<=_;omega);rw[←nx,List.singleton_append,←Mv]at az;refine⟨by decide,aT ⟨o,w',ay,by decide,⟨i+1,I,rfl,rfl,az,cE hx (cE (c5 b _) p λq a c=>by have:=jr.1 c;have:b.heap.size=q:=this;have:=hx.size;omega) λq a e=>e,λq a=>?_⟩,by show((k:Int)-((i+1:Nat):Int)).toNat<((k:Int)-(i:Int)).toNat;omega⟩⟩;have:=hx.size;rcases r q a with h1|h1
  .have:=jr.1 h1
   have:b.heap.size=q:=this;omega
  .omega
 .simp only[Bool.and_eq_false_iff,ko]at h
  have:i=k:=I
  subst this;exact⟨s,rfl,c,hx,hf⟩
theorem F6(w:J)(p:br)(s:Int):Sem.run aj (Instr.build 57 #[(0,s),(1,.agg p.c.toArray)]) w=.ok (.agg (aB.mk s p 0 0).c.toArray) w:=by
 obtain⟨⟨eo,l,h⟩,n⟩:=p;obtain⟨bV,a,b,d,e,f,g,i,j,k,m,o,q,r,t,u,rfl⟩:=tZ l h
 kernel_rfl
def nN(s:Int)(p:br):O UInt8:=if df s p=true then eI s.toNat p else []
theorem p6(s:Int)(p:br)(w:J):aH aj 168 #[s,.agg p.c.toArray] w (λv w'=>∃t:ad,v=t/\aR 1 5 w' t (aC (nN s p))/\Ext w w'/\∀q,aD t q->w.heap.size<=q):=by
 refine ae.IH s _ w _ ?_;(delta ae.p6 Y bP ak aW r1 bH zT;dsimp only);refine a6 (vs:=p.c) rfl λw1 G aa ap=>⟨p.c,G.rd (br.ba _),_,F6 w1 p s,(nu ⟨s,p,0,0⟩ w1).use ?_⟩;rintro _ l ⟨rfl,H⟩;have ab:(aB.mk s p 0 0).ep=df s p:=by unfold aB.ep;rw[show fU (aB.mk s p 0 0).b=true from rfl,qI]
 rw[ab];have B:=aa.trans H;have K:=G.ext H;have aq:=B.size;refine⟨_,rfl,λh=>?_,λh=>?_⟩
 .have hg:df s p=false:=by simpa using h
  refine aT ⟨⟨some l.heap.size,0,0⟩,rfl,?_,B.trans (c5 _ _),λq d=>?_⟩
  .unfold nN
   rw[if_neg (by rw[hg];decide)];exact aR.new (T:=5) l [] 0 rfl (by decide)
  .have:l.heap.size=q:=jr.1 d
   omega
 have hg:df s p=true:=by simpa using h
 have C:=hg;unfold df at C;rw[dg,b8]at C;obtain⟨ac,af⟩:=C;obtain⟨k,rfl,ar⟩:=oR af;have au:=ui ac;have ah:IntKind.wrap .u8 p.bits=(((UInt8.ofNat p.bits.toNat).toNat:Nat):Int):=by
  rw[n3];show p.bits%256=_;omega
 refine cc (λn w'=>n=(((jh p).toNat:Nat):Int)/\l=w') (λq d=>⟨_,Ef K,λh=>d _ _ ⟨by unfold jh;rw[if_pos h];rfl,rfl⟩,λh=>d _ _ ⟨by unfold jh;rw[if_neg (by rw[h];decide)];rfl,rfl⟩⟩) ?_;rintro _ _ ⟨rfl,rfl⟩;have L:=cw l;have u:=K.ext L;have D:=B.trans L;refine aT ?_;generalize l.drew=f at u D;have av:=D.size;have aw:=u.lt;refine⟨λq=>f.heap.size<=q,by rw[aA];show¬f.heap.size<=w.heap.size;omega,_,AR u,by show¬f.heap.size<=w.heap.size;omega,_,AQ u,?_⟩;rw[ah,gF (n:=(k:Int)) I I];have lit:∀ (w':J),Src 1 (w'.alloc (.cells #[.int .u8 (((jh p).toNat:Nat):Int),.int .u8 (((UInt8.ofNat p.bits.toNat).toNat:Nat):Int)] 5)) ⟨some w'.heap.size,2,2⟩ (aC [jh p,UInt8.ofNat p.bits.toNat]):=λw'=>Src.new (T:=5) w' (aC [jh p,UInt8.ofNat p.bits.toNat]) 2 rfl;have ax:=xY p.addr
 have fin:∀ (ai:J) (g:ad),Ext f ai->aR 1 5 ai g (aC (bQ k 2)++aC [jh p,UInt8.ofNat p.bits.toNat])->(∀q,aD g q->f.heap.size<=q)->Calls aj 216 #[.agg p.addr.c.toArray] ai λal M=>
  ∃m:ad,al=.returned m/\∃i:ad,∃o:J,Sem.run aj (
   Builtin.append_ #[39,39] 39 #[g,m])
  M=.ok i o/\∃t:ad,Value.slice i.a i.len i.cap=t/\aR 1 5 o t (aC (nN (k:Nat) p))/\Ext w o/\∀q,aD t q->w.heap.size<=q:=λai g N O P=>by
  refine(p8 p.addr ai).use ?_;rintro _ M ⟨m,rfl,am,aE,E⟩;have aF:g.len=4:=by have:=O.1;rw[cz,de,de,dI]at this;simp at this;omega
  obtain⟨i,o,ay,az,Q,j,r⟩:=l6.append (cB:=39) am.src (O.ext E) (jd _) (by show(2*(g.len+m.len)+1000)*1<=_;omega);have aG:=N.size;have aI:=E.size;refine⟨m,rfl,i,o,ay,i,rfl,?_,Ext.d_ (D.trans (N.trans E)) j (λq d=>by have:=P q d;omega),λq d=>?_⟩
  .unfold nN
   rw[if_pos hg];have e:aC (bQ k 2)++aC [jh p,UInt8.ofNat p.bits.toNat]++aC p.addr.raw=aC (eI (Int.toNat (k:Nat)) p):=by
    rw[c2];unfold eI aC;rw[fP,fP,cO]
   rw[←e];exact az
  .rcases r q d with h1|h1
   .have:=P q h1;omega
   .omega
 have x:∀ {a b:J},Ext a b->ag (λq=>f.heap.size<=q) a b:=λh=>h.mono λ_ _ h=>h.elim;refine⟨(oE f (n:=k) (k:=2) I I).use ?_,aT ⟨x (c5 _ _),(oE _ (n:=k) (k:=2) I I).use ?_⟩⟩
 .rintro _ R ⟨y,rfl,S,F,an⟩
  have aJ:y.len=2:=by have:=S.1;rw[de,dI]at this;omega
  obtain⟨g,U,ay,az,Q,j,r⟩:=l6.append (cB:=39) (lit R) (S.ext (c5 _ _)) (jd _) (by show(2*(y.len+2)+1000)*1<=_;omega);have aK:=F.size;have V:=(c5 R (.cells #[.int .u8 (((jh p).toNat:Nat):Int),.int .u8 (((UInt8.ofNat p.bits.toNat).toNat:Nat):Int)] 5)).size;have hf:∀q,aD y q->f.heap.size<=q:=an;exact⟨y,rfl,x F,aT ⟨x (c5 _ _),g,U,ay,j.mono λq _ d=>hf q d,fin U g (Ext.d_ (F.trans (c5 _ _)) j hf) az λq d=>by
   rcases r q d with h1|h1
   .exact hf q h1
   .omega⟩⟩
 .rintro _ aL ⟨z,rfl,W,A,ao⟩
  have aM:z.len=2:=by have:=W.1;rw[de,dI]at this;omega
  have V:=(c5 f (.cells #[.int .u8 (((jh p).toNat:Nat):Int),.int .u8 (((UInt8.ofNat p.bits.toNat).toNat:Nat):Int)] 5)).size;obtain⟨X,Z,ay,az,Q,j,r⟩:=l6.append (cB:=39) ((lit f).ext A) W (jd _) (by show(2*(z.len+2)+1000)*1<=_;omega);have aN:=A.size;have hf:∀q,aD z q->f.heap.size<=q:=λq d=>eO V (ao q d);exact⟨z,rfl,x A,X,Z,ay,j.mono λq _ d=>hf q d,fin Z X (Ext.d_ ((c5 _ _).trans A) j hf) az λq d=>by
   rcases r q d with h1|h1
   .exact hf q h1
   .omega⟩
theorem iQ(T:O aB):∀t∈T,(aB.c t).length=21:=λt _=>t.ba
section
variable {w w':J}{s:ad}{T:O aB}{i aQ:Nat}{most:Int}
theorem nO(hs:Src 21 w s (bl aB.c T))(hi:i<T.length):∃A:af,s.a=some A/\((0:Int)<=(i:Int)/\(i:Int)<(s.len:Int))/\w.cell? (A.add (Int.toNat (i:Int)*21))=some (.int .i64 T[i].s)/\bf w ((A.add (Int.toNat (i:Int)*21)).add 1) 0 18=some T[i].p.c/\bf w (A.add (Int.toNat (i:Int)*21)) 0 21=some T[i].c:=by
 obtain⟨d,A,av,b⟩:=qn hs (iQ T) (by decide) hi;rw[c2];have h0:=nj b (j:=0) (v:=.int .i64 T[i].s) rfl;have h1:=zL b (k:=1) (m:=18) (by decide);have e:(T[i].c.drop 1).take 18=T[i].p.c:=by
  show List.take 18 (T[i].p.c++_)=_;rw[pe (br.ba _)]
 rw[e]at h1;refine⟨A,av,⟨I,I⟩,?_,h1,b⟩;rw[lU,add_zero']at h0;exact h0
def cQ(s:Int)(p:br)(t:aB):ao:=decide (t.s=s)&&decide (t.p=p)
def iR(T:O aB)(s:Int)(p:br):Int:=match T.findIdx? (cQ s p) with|some i=>(i:Int)|none=> -1
theorem BO(B:Var w aQ [most,s] 36)(hs:Src 21 w s (bl aB.c T))(E:T.length<=1000000):
 aH aj 99 #[.pointer (some aQ),sv,.agg p.c.toArray] w (λv w'=>v=.int .i64 (iR T sv p)/\Ext w w'):=by
 have F:s.len=T.length:=by
  have:=hs.len;rw[e5 _ (iQ T)]at this;omega
 refine ae.IE (some aQ) sv _ w _ ?_;(delta ae.tX al ak aO r1 Y ar;dsimp only);refine a6 (vs:=p.c) rfl λw1 C f G=>⟨λn w'=>∃i:Nat,n=(i:Int)/\i<=T.length/\(∀ (j:Nat) (a:j<T.length),j<i->cQ sv p T[j]=false)/\Ext w1 w',λn _=>((T.length:Int)-n).toNat,⟨0,rfl,cI _,λj _ h=>I,.refl _ _⟩,?_⟩;rintro _ o ⟨i,rfl,hi,g,b⟩;have q:=(B.ext f).ext b;refine⟨_,rfl,s,q.cell,λaI=>?_,λr=>⟨?_,f.trans b⟩⟩
 rotate_left
 .have r:=cr r
  have:T.findIdx? (cQ sv p)=none:=by
   rw[vg];intro t ht;obtain⟨j,a,rfl⟩:=fe ht;exact g j a I
  unfold iR;rw[this]
 have aI:(i:Int)<(s.len:Int):=b2 aI;have u:i<T.length:=I
 have d:=cw o;have l:=(f.trans b).trans d;have m:=q.ext d;have x:=(C.ext b).ext d;have y:=b.trans d;refine aT ?_;generalize o.drew=D at l m x y;obtain⟨A,av,z,h0,h1,_⟩:=nO (hs.ext l) u;have next:cQ sv p T[i]=false->(∃k:Nat,IntKind.wrap .i64 ((i:Int)+1)=(k:Int)/\k<=T.length/\(∀ (j:Nat) (a:j<T.length),j<k->cQ sv p T[j]=false)/\Ext w1 D)/\((T.length:Int)-IntKind.wrap .i64 ((i:Int)+1)).toNat<((T.length:Int)-(i:Int)).toNat:=λhf=>by
  rw[bq (n:=(i:Int)+1) I I];refine⟨⟨i+1,I,I,λj a h=>?_,y⟩,I⟩;by_cases e:j=i
  .subst e;exact hf
  .exact g j a I
 refine⟨_,rfl,id,s,m.cell,A,av,z,id,_,h0,λhe=>⟨_,rfl,id,s,m.cell,A,av,z,id,_,h1,id,_,x.rd (br.ba _),_,Al _ _,λh=>⟨?_,l⟩,λh=>next ?_⟩,λhe=>⟨nofun,λ_=>next ?_⟩⟩
 .have hf:T.findIdx? (cQ sv p)=some i:=by
   rw[sU];refine⟨u,?_,λj a=>?_⟩
   .unfold cQ
    rw[dg];exact⟨dh (by simpa using he),h⟩
   .rw[g j I a];decide
  unfold iR;rw[hf]
 .unfold cQ;rw[h,Bool.and_false]
 .unfold cQ
  rw[gS (by simpa using he),kS]
end
section
variable {w w':J}{s:ad}{T:O aB}{i aQ:Nat}{most:Int}
theorem F7(hs:Src 21 w s (bl aB.c T))(hi:i<T.length){A:af}(av:s.a=some A):w.cell? ((A.add (Int.toNat (i:Int)*21)).add 20)=some (.int .u64 (T[i].u:Nat)):=by
 obtain⟨e,f,b,d⟩:=qn hs (iQ T) (by decide) hi;rw[av]at b
 cases b;rw[c2];have h0:=nj d (j:=20) (v:=.int .u64 (T[i].u:Nat)) (by
  show(T[i].p.c++_)[19]? =_;rw[hL (by rw[br.ba];decide),br.ba];rfl)
 rw[cA]at h0;exact h0
def iS(T:O aB)(s:Int)(p:br)(now:Nat):au aB:=match T.findIdx? (cQ s p) with
 |some i=>if (T.getD i aB.zero).u<=now then none else some (T.getD i aB.zero)
 |none=>none
theorem Mw{now:Nat}(l:Var w aQ [most,s] 36)(hs:Src 21 w s (bl aB.c T))(C:T.length<=1000000):
 aH aj 87 #[.pointer (some aQ),sv,.agg p.c.toArray,.int .u64 (now:Nat)] w (λv w'=>v=.tuple #[.agg ((iS T sv p now).getD aB.zero).c.toArray,.bool (iS T sv p now).isSome]/\Ext w w'):=by
 refine ae.IC (some aQ) sv _ (now:Nat) w _ ?_;(delta ae.tV fk Y bB ak al aO bO jb;dsimp only);refine a6 (vs:=p.c) rfl λw1 D m H=>a6 (vs:=aB.zero.c) rfl λai E n I=>?_;have d:=m.trans n;refine⟨p.c,(D.ext n).rd (br.ba _),(BO (l.ext d) (hs.ext d) C).use ?_⟩;rintro _ a ⟨rfl,o⟩;have f:=d.trans o;have r:=l.ext f;have x:=hs.ext f;have y:=E.ext o;have put:∀ (t:aB) (b:ao),bp a w1 (Array.toList t.c.toArray)/\Array.size t.c.toArray=21/\an (setCells a w1 0 (Array.toList t.c.toArray)) λg=>∃z:O aa,bf g w1 0 21=some z/\(Value.tuple #[.agg z.toArray,b]=.tuple #[.agg t.c.toArray,b]/\Ext w g):=λt b=>
  ⟨y.ct (by simp[aB.ba]) (aB.plain _),by simp[aB.ba],cP y (us:=t.c) (by simp[aB.ba]) rfl λg F G _=>⟨_,F.rd (aB.ba _),rfl,Ext.cp f G m.size⟩⟩
 cases hf:T.findIdx? (cQ sv p) with
 |none=>
  have e:iR T sv p= -1:=by unfold iR;rw[hf]
  have j:iS T sv p now=none:=by unfold iS;rw[hf]
  rw[e,j];refine⟨_,rfl,cc (λb w'=>b=true/\a=w') (λq k=>⟨λ_=>k _ _ ⟨rfl,rfl⟩,nofun⟩) ?_⟩;rintro _ _ ⟨rfl,rfl⟩;exact⟨λ_=>⟨_,uk a,put aB.zero false⟩,nofun⟩
 |some i=>
  have hi:i<T.length:=by
   rw[sU]at hf;exact hf.1
  have e:iR T sv p=(i:Int):=by unfold iR;rw[hf]
  have j:iS T sv p now=if T[i].u<=now then none else some T[i]:=by unfold iS;rw[hf];dsimp only;rw[fB hi]
  rw[e,j];obtain⟨A,av,B,h0,h1,h2⟩:=nO x hi;refine⟨_,rfl,cc (λb w'=>b=decide (T[i].u<=now)/\a=w') (λq k=>⟨λh=>?_,λ_=>⟨_,rfl,s,r.cell,A,av,B,_,F7 x hi av,k _ _ ⟨?_,rfl⟩⟩⟩) ?_⟩
  .have:=b2 h
   omega
  .rw[eG,b8,b8];omega
  rintro _ _ ⟨rfl,rfl⟩;refine⟨λh=>?_,λh=>?_⟩
  .rw[if_pos (b2 h)]
   exact⟨_,uk a,put aB.zero false⟩
  .rw[if_neg (cr h)]
   exact⟨_,rfl,s,r.cell,A,av,B,_,h2,put T[i] true⟩
theorem aB.r3{a b:aB}(h:a.c=b.c):a=b:=by
 obtain⟨s,p,cH,u⟩:=a;obtain⟨g,i,j,k⟩:=b;unfold aB.c at h;dsimp only at h;obtain⟨h1,h2⟩:=List.cons.inj h;obtain⟨e,d⟩:=List.append_inj h2 (by rw[br.ba,br.ba]);have:=br.r3 e;simp at h1 d;subst this;obtain⟨f,l⟩:=d;subst h1 f
 congr 1
 omega
end
instance:DecidableEq aB:=λa b=>decidable_of_iff (a.s=b.s/\a.p=b.p/\a.b=b.b/\a.u=b.u) ⟨λh=>by cases a;cases b;simp_all,λh=>by rw[h];exact⟨rfl,rfl,rfl,rfl⟩⟩
theorem aB.eV(t:aB):aS.eV (.int .i64::(((.bool::l5 16)++ [.int .i64])++ [.int .i64,.int .u64])) t.c:=⟨_,_,rfl,⟨_,rfl⟩,zx t.p.eV ⟨_,_,rfl,⟨_,rfl⟩,_,_,rfl,⟨_,rfl⟩,rfl⟩⟩
theorem BP(a b:aB):jo aj 57 a.c.toArray b.c.toArray (decide (a=b)):=by
 have h:=jo.flat (P:=aj) (T:=57) (d:=(Tryz.prog.underlying 57).get U3) (ls:=.int .i64::(((.bool::l5 16)++ [.int .i64])++ [.int .i64,.int .u64])) (n1 _).symm U3 U3 U3 a.eV b.eV;have e:fS a.c b.c=decide (a=b):=by
  rw[eG,vI a.eV b.eV,b8];exact⟨aB.r3,λh=>by rw[h]⟩
 rwa[e]at h
section
variable {w w':J}{s t:ad}{T U:O aB}
theorem rX(hs:Src 21 w s (bl aB.c T))(ht:Src 21 w t (bl aB.c U))(q:T.length<=1000000):aH aj 93 #[s,t] w (λv w'=>v=.bool (decide (T=U))/\Ext w w'):=by
 have h1:s.len=T.length:=by have:=hs.len;rw[e5 _ (iQ T)]at this;omega
 have h2:t.len=U.length:=by have:=ht.len;rw[e5 _ (iQ U)]at this;omega
 refine okF (ae.rX s t) ax.rX func93 ?_;delta ae.rX ak aO ar;refine⟨λh=>⟨?_,.refl _ _⟩,λh=>?_⟩
 .rw[gS]
  rintro rfl;rw[h1,h2]at h;simp at h
 have j:T.length=U.length:=by
  have:(s.len:Int)=(t.len:Int):=by simpa using h
  omega
 refine⟨λn w'=>∃i:Nat,n=(i:Int)/\i<=T.length/\T.take i=U.take i/\Ext w w',λn _=>((T.length:Int)-n).toNat,⟨0,rfl,cI _,rfl,.refl _ _⟩,?_⟩;rintro _ b ⟨i,rfl,hi,he,d⟩;refine⟨λaI=>?_,λf=>⟨?_,d⟩⟩
 rotate_left
 .have f:=cr f
  have e:i=T.length:=I
  rw[dh];rw[e,ic,j,ic]at he;exact he
 have aI:(i:Int)<(s.len:Int):=b2 aI;have dW:i<T.length:=I
 have g:i<U.length:=I
 have a:=d.trans (cw b);refine aT ?_;generalize b.drew=r at a;obtain⟨A,av,k,_,_,l⟩:=nO (hs.ext a) dW;obtain⟨B,m,o,_,_,p⟩:=nO (ht.ext a) g;refine⟨A,av,k,id,_,l,B,m,o,id,_,p,_,BP _ _,λh=>⟨?_,a⟩,λh=>?_⟩
 .have h:¬T[i]=U[i]:=by simpa using h
  rw[gS];intro e;apply h;subst e;rfl
 .have h:T[i]=U[i]:=by simpa using h
  rw[bq (n:=(i:Int)+1) I I];refine⟨⟨i+1,I,I,?_,a⟩,by show((T.length:Int)-((i:Int)+1)).toNat<((T.length:Int)-(i:Int)).toNat;omega⟩;rw[ib dW,ib g,he,h]
end
theorem o3(w:J):Sem.run aj (Instr.buildSlice 22 0 #[]) w=.ok (.slice (some w) 0 0) (w.alloc (.cells #[] 57)):=by kernel_rfl
theorem sA(w:J)(t:aB):Sem.run aj (Instr.buildSlice 22 1 #[(0,.agg t.c.toArray)]) w=.ok (.slice (some w) 1 1) (w.alloc (.cells t.c.toArray 57)):=by
 obtain⟨s,⟨⟨eo,l,h⟩,n⟩,b,u⟩:=t;obtain⟨bV,a,d,e,f,g,i,j,k,m,o,p,q,r,v,x,rfl⟩:=tZ l h
 kernel_rfl
theorem nP:ij aj 22 57 21 56:=⟨by kernel_rfl⟩
section
variable {w w':J}{s:ad}{T:O aB}{i aQ:Nat}{most:Int}
def gu(s:Int)(t:aB):ao:=decide (t.s=s)
theorem Mx(t:Var w aQ [most,s] 36)(hs:Src 21 w s (bl aB.c T))(F:T.length<=1000000):
 aH aj 94 #[.pointer (some aQ),sv] w (λv w'=>∃j:ad,v=j/\eF 21 57 w w' j (bl aB.c (T.filter (gu sv)))):=by
 have G:s.len=T.length:=by have:=hs.len;rw[e5 _ (iQ T)]at this;omega
 refine okF (ae.xT (some aQ) sv) ax.xT func94 ?_;(delta ae.xT al ak aO r1 jb wj ar;dsimp only);have f0:eF 21 57 w (w.alloc (.cells #[] 57)) ⟨some w.heap.size,0,0⟩ (bl aB.c ((T.take 0).filter (gu sv))):=⟨aR.new (T:=57) w [] 0 U9 (by decide),c5 _ _,λq g=>by have:w.heap.size=q:=jr.1 g;omega⟩;refine⟨⟨some w.heap.size,0,0⟩,_,o3 w,λb n d=>∃i:Nat,n=(i:Int)/\i<=T.length/\eF 21 57 w d b (bl aB.c ((T.take i).filter (gu sv))),λ_ n _=>((T.length:Int)-n).toNat,⟨0,rfl,cI _,f0⟩,?_⟩;rintro b _ d ⟨i,rfl,hi,a⟩;have h:=t.ext a.x;refine⟨_,rfl,s,h.cell,λaI=>?_,λk=>⟨b,rfl,?_⟩⟩
 rotate_left
 .have k:=cr k
  have e:i=T.length:=I
  rw[e,ic]at a;exact a
 have aI:(i:Int)<(s.len:Int):=b2 aI;have l:i<T.length:=I
 obtain⟨A,av,m,h0,_,h2⟩:=nO (hs.ext a.x) l;have p:(T.take (i+1)).filter (gu sv)=(T.take i).filter (gu sv)++(if gu sv T[i]=true then [T[i]] else []):=by
  rw[ib l,gE,ie,pj]
 refine cc (λb w'=>eF 21 57 w w' b (bl aB.c ((T.take (i+1)).filter (gu sv)))) (λq g=>⟨_,rfl,s,h.cell,A,av,m,_,h0,λhe=>⟨_,rfl,s,h.cell,A,av,m,_,h2,?_⟩,λhe=>g _ _ ?_⟩) ?_
 .have he:gu sv T[i]=true:=dh (by simpa using he)
  have r:Ext d (d.alloc (.cells T[i].c.toArray 57)):=c5 _ _;have u:eF 21 57 w (d.alloc (.cells T[i].c.toArray 57)) b (bl aB.c ((T.take i).filter (gu sv))):=⟨a.o.ext r,a.x.trans r,a.f⟩;have H:b.len<=1000000:=by
   have y:=a.o.1;rw[e5 _ (iQ _)]at y;have z:((T.take i).filter (gu sv)).length<=(T.take i).length:=jF _ _;rw[cF]at z;omega
  obtain⟨B,C,ay,az,D,_⟩:=eF.app (cB:=22) nP u (Src.new (T:=57) d T[i].c 1 (T[i].ba)) (aB.plain _) (by show(2*(b.len+1)+1000)*56<=_;omega);refine⟨⟨some d.heap.size,1,1⟩,_,sA d T[i],B,C,ay,g _ _ ?_⟩;rw[p,if_pos he,ke];have e:bl aB.c [T[i]]=T[i].c:=by simp[bl]
  rw[e];exact D
 .have he:gu sv T[i]=false:=gS (by simpa using he)
  rw[p,if_neg (by rw[he];decide),fp];exact a
 .rintro J K E
  rw[bq (n:=(i:Int)+1) I I];exact⟨⟨i+1,I,I,E⟩,by show((T.length:Int)-((i:Int)+1)).toNat<((T.length:Int)-(i:Int)).toNat;omega⟩
end
structure fN(B:U1)(w:J)(aQ:Nat)(most:Int)(s:ad)(T:O aB):Prop where
 v:Var w aQ [most,s] 36
 ia:Src 21 w s (bl aB.c T)
 c:s.len<=s.cap
 b:∀q,aD s q->B q/\q<w
 nb:¬B aQ
section
variable {B V:U1}{w w':J}{s:ad}{T:O aB}{aQ:Nat}{most:Int}
theorem fN.ah(h:fN B w aQ most s T)(hc:ag V w w')(d:¬V aQ)(e:∀q,B q->q<w->¬V q):fN B w' aQ most s T:=
 ⟨h.v.ah hc d,h.ia.ah hc λq a=>e q (h.b q a).1 (h.b q a).2,h.c,λq a=>⟨(h.b q a).1,fO (h.b q a).2 hc.size⟩,h.nb⟩
theorem fN.ext(h:fN B w aQ most s T)(hx:Ext w w'):fN B w' aQ most s T:=h.ah hx id λ_ _ _ h=>h
theorem fN.len(h:fN B w aQ most s T):s.len=T.length:=by have:=h.ia.len;rw[e5 _ (iQ T)]at this;omega
theorem fN.put(h:fN B w aQ most s T){w0:J}{a:ad}{aq:O aB}(hx:Ext w w0)(hf:eF 21 57 w w0 a (bl aB.c aq))(j:∀q,w.heap.size<=q->B q):
 (∃u:aa,w0.cell? (Addr.add aQ 1)=some u)/\w0.frozen? (Addr.add aQ 1)=false/\fN B (w0.setCell (Addr.add aQ 1) a) aQ most a aq/\ag (λq=>q=aQ) w0 (w0.setCell (Addr.add aQ 1) a):=by
 rw[aA,cA];have g:=h.v.ext hx;obtain⟨b1,cf⟩:=ez g (i:=1) (by show 1<2;decide);have d:=dU w0 aQ 1 a;have k:=h.v.lt;refine⟨b1,cf,⟨eE g (i:=1) _,hf.o.src.ah d (λq b e=>U4 (hf.f q b)),hf.o.2.1,λq b=>⟨j q (hf.f q b),fO (hf.o.lt q b) d.size⟩,h.nb⟩,d⟩
end
def mZ(T:O aB)(s:Int)(p:br):O aB:=match T.findIdx? (cQ s p) with
 |some i=>T.eraseIdx i
 |none=>T
section
variable {B:U1}{w w':J}{s:ad}{T:O aB}{aQ i:Nat}{most:Int}
theorem uJ(w:J):eF 21 57 w (w.alloc (.cells #[] 57)) ⟨some w.heap.size,0,0⟩ []:=⟨aR.new (T:=57) w [] 0 U9 (by decide),c5 _ _,λq a=>by have:w.heap.size=q:=jr.1 a;omega⟩
theorem uK(T:O aB):∀v∈bl aB.c T,Plain v:=Kn λt _=>t.plain
theorem F8(T:O aB)(i:Nat)(hi:i<=T.length):((bl aB.c T).drop (0*21)).take ((i-0)*21)=bl aB.c (T.take i):=by
 rw[qJ,iV,m3]
 conv=>lhs;rw[←ga i T,ke]
 exact pe (by rw[e5 _ (iQ _),cF,iX hi])
theorem F9(T:O aB)(i:Nat)(hi:i<=T.length):((bl aB.c T).drop (i*21)).take ((T.length-i)*21)=bl aB.c (T.drop i):=by
 have h1:(bl aB.c T).drop (i*21)=bl aB.c (T.drop i):=by
  conv=>lhs;rw[←ga i T,ke]
  exact sN (by rw[e5 _ (iQ _),cF,iX hi])
 rw[h1,dO (by rw[e5 _ (iQ _),eH];exact bk _)]
theorem My(h:fN B w aQ most s T)(z:T.length<=1000000)(A:∀q,w.heap.size<=q->B q):
 aH aj 89 #[.pointer (some aQ),sv,.agg p.c.toArray] w (λv w'=>v=.bool (decide (iR T sv p>=0))/\ag (λq=>q=aQ) w w'/\∃j,fN B w' aQ most j (mZ T sv p)):=by
 have C:=h.len;have hc:=h.c;refine ae.ID (some aQ) sv _ w _ ?_;(delta ae.tW Y bB ak al ar st;dsimp only);refine a6 (vs:=p.c) rfl λw1 D k P=>⟨p.c,D.rd (br.ba _),(BO (h.v.ext k) (h.ia.ext k) z).use ?_⟩;rintro _ t ⟨rfl,E⟩;have l:=k.trans E;refine⟨_,rfl,j2 (λw'=>ag (λq=>q=aQ) w w'/\∃j,fN B w' aQ most j (mZ T sv p)) (λq m=>⟨λb=>?_,λaI=>m _ ⟨l.mono λ_ _ h=>h.elim,s,?_⟩⟩) λw' F=>⟨rfl,F⟩⟩
 rotate_left
 .have aI:=cr aI
  have hf:T.findIdx? (cQ sv p)=none:=by
   cases hf:T.findIdx? (cQ sv p) with
   |none=>rfl
   |some i=>unfold iR at aI;rw[hf]at aI;dsimp only at aI;omega
  unfold mZ;rw[hf];exact h.ext l
 have b:=b2 b;obtain⟨i,hf⟩:∃i,T.findIdx? (cQ sv p)=some i:=by
  cases hf:T.findIdx? (cQ sv p) with
  |some i=>exact⟨i,rfl⟩
  |none=>unfold iR at b;rw[hf]at b;exact absurd b (by decide)
 have hi:i<T.length:=by
  rw[sU]at hf;exact hf.1
 have e:iR T sv p=(i:Int):=by unfold iR;rw[hf]
 have G:mZ T sv p=T.take i++T.drop (i+1):=by unfold mZ;rw[hf];exact List.eraseIdx_eq_take_drop_succ _ _
 rw[e]at*;have H:=cw t;have f:=l.trans H;have a:=h.ext f;have J:=f.size;refine aT ?_;generalize t.drew=d at f a J;have Q:=h.v.lt;have K:IntKind.wrap .i64 ((i:Int)+1)=((i+1:Nat):Int):=by rw[bq I I];omega
 rw[K];have f0:=uJ d;obtain⟨n,L,ay,az,o,M,_⟩:=eF.app (cB:=22) nP f0 (Src.cut (a.ia.ext f0.x) hc (cI i) I) (λv r=>uK T v (fZ (fq r))) (by show(2*(0+(i-0))+1000)*56<=_;omega);have R:n.len=i:=by rw[M];show 0+(i-0)=i;omega
 rw[hK,F8 T i I]at o;obtain⟨u,N,b1,cf,g,S,_⟩:=eF.app (cB:=22) nP o (Src.cut (a.ia.ext o.x) hc (lo:=i+1) (hi:=s.len) I (bk _)) (λv r=>uK T v (fZ (fq r))) (by show(2*(n.len+(s.len-(i+1)))+1000)*56<=_;omega);rw[C,F9 T (i+1) I,←ke]at g;obtain⟨bh,bj,y,O⟩:=a.put g.x g λq m=>A q I;rw[←G]at y;refine⟨λq=>d<=q,_,rfl,by rw[aA];show¬d<=aQ;omega,s,a.v.cell,⟨I,I⟩,_,rfl,by rw[aA];show¬d<=aQ;omega,s,a.v.cell,⟨I,I⟩,_,_,o3 d,f0.x.mono λ_ _ h=>h.elim,n,L,ay,az,u,N,b1,cf,_,rfl,bh,bj,aT (m _ ⟨((f.trans g.x).mono λ_ _ h=>h.elim).trans O,u,y⟩)⟩
end
theorem nv(t:aB)(w:J):aH aj 101 #[.agg t.c.toArray] w (λv w'=>∃s:ad,v=s/\aR 1 5 w' s (aC (nN t.s t.p))/\Ext w w'/\∀q,aD s q->w<=q):=by
 refine ae.IF _ w _ ?_;(delta ae.nv r1 Y bH;dsimp only);refine a6 (vs:=t.c) rfl λw1 a b g=>⟨t.s,a.cell,t.p.c,mb a,(p6 t.s t.p w1).use ?_⟩;rintro _ h ⟨d,rfl,e,hx,hf⟩;exact⟨d,rfl,d,rfl,e,b.trans hx,λq f=>eO b.size (hf q f)⟩
def gP(s b:Int)(t:aB):ao:=decide (t.s≠s)||(decide (b>=0)&&decide (t.b≠b))
section
variable {B:U1}{w w':J}{s:ad}{T:O aB}{aQ i:Nat}{most:Int}
theorem Mz(hs:Src 21 w s (bl aB.c T))(hi:i<T.length){A:af}(av:s.a=some A):w.cell? ((A.add (Int.toNat (i:Int)*21)).add 19)=some (.int .i64 T[i].b):=by
 obtain⟨f,g,d,e⟩:=qn hs (iQ T) (by decide) hi;rw[av]at d
 cases d;rw[c2];have h0:=nj e (j:=19) (v:=.int .i64 T[i].b) (by
  show(T[i].p.c++_)[18]? =_;rw[hL (by rw[br.ba];decide),br.ba];rfl)
 rw[cA]at h0;exact h0
theorem MA{bv:Int}(h:fN B w aQ most s T)(U:T.length<=1000000)(F:∀q,w.heap.size<=q->B q):
 aH aj 91 #[.pointer (some aQ),sv,bv] w (λv w'=>v=.int .i64 ((T.length-(T.filter (gP sv bv)).length:Nat):Int)/\ag (λq=>q=aQ) w w'/\∃G,fN B w' aQ most G (T.filter (gP sv bv))):=by
 have H:=h.len;refine okF (ae.xS (some aQ) sv bv) ax.xS func91 ?_;(delta ae.xS al ak aO r1 jb wj ar st;dsimp only);refine⟨⟨some w.heap.size,0,0⟩,_,o3 w,λg n a=>∃i:Nat,n=(i:Int)/\i<=T.length/\eF 21 57 w a g (bl aB.c ((T.take i).filter (gP sv bv))),λ_ n _=>((T.length:Int)-n).toNat,⟨0,rfl,cI _,uJ w⟩,?_⟩;rintro g _ a ⟨i,rfl,hi,d⟩;have j:=h.ext d.x;have t:g.len=((T.take i).filter (gP sv bv)).length:=by
  have J:=d.o.1;rw[e5 _ (iQ _)]at J;omega
 have K:((T.take i).filter (gP sv bv)).length<=i:=by
  have L:((T.take i).filter (gP sv bv)).length<=(T.take i).length:=jF _ _;rw[cF]at L;omega
 refine⟨_,rfl,s,j.v.cell,λaI=>?_,λy=>?_⟩
 rotate_left
 .have y:=cr y
  have e:i=T.length:=I
  rw[e,ic]at d t K;obtain⟨bh,bj,M,N⟩:=h.put d.x d F;refine⟨_,rfl,s,j.v.cell,_,rfl,bh,bj,aT ⟨?_,(d.x.mono λ_ _ h=>h.elim).trans N,g,M⟩⟩;rw[bq I I,t,H]
  congr 1
  omega
 have aI:(i:Int)<(s.len:Int):=b2 aI;have k:i<T.length:=I
 obtain⟨A,av,l,h0,_,h2⟩:=nO j.ia k;have z:(T.take (i+1)).filter (gP sv bv)=(T.take i).filter (gP sv bv)++(if gP sv bv T[i]=true then [T[i]] else []):=by
  rw[ib k,gE,ie,pj]
 refine cc (λg w'=>eF 21 57 w w' g (bl aB.c ((T.take (i+1)).filter (gP sv bv)))) (λq C=>⟨_,rfl,s,j.v.cell,A,av,l,_,h0,cc (λb w'=>b=gP sv bv T[i]/\a=w') (λr D=>⟨λhe=>D _ _ ⟨?_,rfl⟩,λhe=>cc (λb w'=>b=gP sv bv T[i]/\a=w') (λu hu=>⟨λm=>⟨_,rfl,s,j.v.cell,A,av,l,_,Mz j.ia k av,hu _ _ ⟨?_,rfl⟩⟩,λm=>hu _ _ ⟨?_,rfl⟩⟩) ?_⟩) ?_⟩) ?_
 .unfold gP
  rw[dh (by simpa using he),qP]
 .have he:T[i].s=sv:=by simpa using he
  unfold gP;rw[m,hX,gS (by simpa using he),jR,eG,b8];simp
 .have he:T[i].s=sv:=by simpa using he
  unfold gP;rw[m,kS,gS (by simpa using he)];rfl
 .rintro _ _ ⟨rfl,rfl⟩
  exact D _ _ ⟨rfl,rfl⟩
 .rintro _ _ ⟨rfl,rfl⟩
  refine⟨λp=>⟨_,rfl,s,j.v.cell,A,av,l,_,h2,?_⟩,λp=>C _ _ ?_⟩
  .have E:Ext a (a.alloc (.cells T[i].c.toArray 57)):=c5 _ _
   have O:eF 21 57 w (a.alloc (.cells T[i].c.toArray 57)) g (bl aB.c ((T.take i).filter (gP sv bv))):=⟨d.o.ext E,d.x.trans E,d.f⟩;obtain⟨P,Q,ay,az,R,_⟩:=eF.app (cB:=22) nP O (Src.new (T:=57) a T[i].c 1 (T[i].ba)) (aB.plain _) (by show(2*(g.len+1)+1000)*56<=_;omega);refine⟨⟨some a.heap.size,1,1⟩,_,sA a T[i],P,Q,ay,C _ _ ?_⟩;rw[z,if_pos p,ke];have e:bl aB.c [T[i]]=T[i].c:=by simp[bl]
   rw[e];exact R
  .rw[z,if_neg (by rw[p];decide),fp]
   exact d
 .rintro V W S
  rw[bq (n:=(i:Int)+1) I I];exact⟨⟨i+1,I,I,S⟩,by show((T.length:Int)-((i:Int)+1)).toNat<((T.length:Int)-(i:Int)).toNat;omega⟩
end
section
variable {B C W:U1}{w w':J}{aQ:Nat}
theorem iw(d i k:Nat):Addr.add ⟨d,i,none⟩ k=⟨d,i+k,none⟩:=by
 rw[aA]
end
structure iT(V:Nat->c7)(n gen:Nat)(u:c_)(g:Nat->ao)(P:Nat->au aG)(p:O Nat)(L:O aP):Prop where
 fr:∃j,j<n/\g j=false
 yQ:hU ((gen%2:Nat):Int) (V (gen%2))=.ok (u,n,gen)
 BQ:V (1-gen%2)=g2\/∃a g',hU ((1-gen%2:Nat):Int) (V (1-gen%2))=.ok (a,n,g')/\g'<gen
 mp:∃fE,fE<=gen/\dX (u.map:Int) (V u.map)=.ok ⟨4,fE,gf g ((n+7)/8)⟩
 g:∀no,g no=true↔no∈p\/no<2\/no=u.map
 bN:p.Nodup
 two:∀x∈p,2<=x/\x≠u.map/\x<n
 ok:(u.aK=0/\u.root=0/\p=[]/\L=[])\/er P u.aK none none u.root p L
 eS:∀x∈p,∀bN,P x=some bN->hV gen bN.leaf x (V x) bN
 keys:u.keys=L.length
 kv:∀q∈L,cK q.1/\q.2.length<=24
 F_:oT u
 yR:k8 u n
 Ga:u.dc+1<=gen
theorem iT.agree{V a:Nat->c7}{P P':Nat->au aG}{p:O Nat}(h:iT V n gen u g P p L)(eN:∀j,g j=true->a j=V j)(b:∀x∈p,P x=P' x):iT a n gen u g P' p L:=by
 have h0:a (gen%2)=V (gen%2):=eN _ ((h.g _).2 (.inr (.inl I)));have h1:a (1-gen%2)=V (1-gen%2):=eN _ ((h.g _).2 (.inr (.inl I)));refine⟨h.fr,by rw[h0];exact h.yQ,by rw[h1];exact h.BQ,by rw[eN _ ((h.g _).2 (.inr (.inr rfl)))];exact h.mp,h.g,h.bN,h.two,h.ok.imp id λc=>(c.agree b).1,λx hx bN d=>?_,h.keys,h.kv,h.F_,h.yR,h.Ga⟩;rw[eN _ ((h.g _).2 (.inl hx))];exact h.eS x hx bN (by rw[b x hx];exact d)
structure b_ where
 st:Nat
 T:aN
 l:e0
 u:c_
 gen:Nat
 now:Nat
 first:Nat
 pending:Nat
 keys:Nat
 failed:ao
def b_.V(S:b_)(j:Nat):c7:=S.T.C.D.bJ.getD j []
def b_.cells(S:b_):O aa:=jB S.T.bd S.T.C.D.d S.T.C.c S.T.sb S.l S.u S.gen S.now S.first S.pending S.keys S.failed
structure kO(w:J)(S:b_)(aL:O Nat)(bG:O aP):Prop where
 v:Var w S.st S.cells 146
 t:b5 w S.T
 es:S.T.E S.st
 kj:iT S.V S.T.n S.gen S.u S.T.g S.T.P aL bG
 gen:S.T.gen=S.gen+1
 num:S.now<18446744073709551616/\S.first<=S.now/\S.u.dc+1<=S.gen/\S.gen+2<18446744073709551616/\S.l.batch<=1000/\S.l.h5<=1048576/\1<=S.l.batch
 cl:∀j,S.T.g j=true->S.T.C.D.cl j=true
structure dJ(w:J)(S:b_)(pages:O Nat)(L:O aP)(aL:O Nat)(bG:O aP):Prop extends kO w S aL bG where
 ok:gN S.T pages L
 bN:pages.Nodup
 f:∀no,S.T.f no=true↔no∈pages\/no<2\/no=S.u.map
 two:∀x∈pages,2<=x/\x≠S.u.map
 kv:∀p∈L,cK p.1/\p.2.length<=24
 keys:S.keys=L.length
 nQ:S.pending<=1000
 live:S.failed=false->¬S.T.C.D.ro/\S.T.C.D.eW=(λ_=> [])/\1<=cy S.T
 dead:S.failed=true->S.T.C.D.ro/\L=bG/\pages=aL/\S.pending=0
def a8.quiet(D:a8):Prop:=(∀k,D.calm k)/\D.cu.getD 3 0= -1
def b_.W(S:b_)(q:Nat):Prop:=S.T.M q/\(S.T.E q->q=S.st)
structure ef(k:Nat)(S aE:b_)(w w':J):Prop where
 st:aE.st=S.st
 d:aE.T.C.D.d=S.T.C.D.d
 n:aE.T.n=S.T.n
 l:aE.l=S.l
 aX:aE.T.C.D.aX<=S.T.C.D.aX+k
 q:S.T.C.D.quiet->aE.T.C.D.quiet
 ah:ag S.W w w'
 c1:∀q,aE.T.M q->S.T.M q\/w<=q
 E:aE.T.E=S.T.E
 G:aE.T.G=S.T.G
 r:aE.T.C.D.r1=S.T.C.D.r1
section
variable {w w':J}{C:cn}{X:U1}{T:aN}{S aE:b_}{pages aL:O Nat}{L bG:O aP}
theorem kO.o4(h:kO w S aL bG)(a:S.T.N q):S.W q:=⟨aN.gD a,λhe=>absurd a (h.t.j_ he)⟩
theorem kO.Gb(h:kO w S aL bG):S.W S.st:=⟨.inr (.inr (.inr (.inl h.es))),λ_=>rfl⟩
theorem ef.back(h:ef k S aE w w')(b:q<w)(a:aE.W q):S.W q:=⟨(h.c1 q a.1).resolve_right I,λhe=>(a.2 (h.E▸he)).trans h.st⟩
theorem eu.jj(h:eu X w C){s:Nat->ao}{z:Nat->O c7}(hc:∀f∈C.aw,∀j:Nat,f.full=true->f.no=j->s j=true->f.gM=false)(b:∀j,s j=true->C.D.eQ j=z j):
 eu X w {C with D:=C.D.jj s z}:=
 ⟨⟨h.raw.v,h.raw.f,h.raw.dev.jj s z,h.raw.b1,h.raw.cf,h.raw.hd,h.raw.a1⟩,h.inv.pins,λf hf a=>by
  obtain⟨no,ay,az,c,d,e,i,g⟩:=h.inv.ok f hf a
  exact⟨no,ay,az,c,d,e,λhs=>hc f hf no a ay hs,g⟩,h.inv.un,h.inv.fD,b⟩
theorem b5.jj(h:b5 w T){s:Nat->ao}{z:Nat->O c7}(hc:∀f∈T.C.aw,∀j:Nat,f.full=true->f.no=j->s j=true->f.gM=false)(a:∀j,s j=true->T.C.D.eQ j=z j)(hs:∀j,s j=true->T.g j=true\/∀i,s i=true):
 b5 w (T.bC {T.C with D:=T.C.D.jj s z} T.P):=⟨h.t,h.s,h.ca.jj hc a,h.ld,h.dv,h.jy,h.n,h.num,h.eS,hs,h.low⟩
theorem MB(h:eu X w C)(hs:C.D.cl j=true):C.view j=C.D.now j:=by
 unfold cn.view
 cases hf:C.aw.find? λf=>f.full&&f.no==(j:Int) with
 |none=>rfl
 |some f=>
  have h1:=kR hf;have h2:=jY hf;simp only[dg,kq]at h1;obtain⟨no,ay,az,c,d,a,b,e⟩:=h.inv.ok f h2 h1.1;have:no=j:=I
  subst this;exact a (b hs)
theorem MC(h:eu X w C)(hs:C.D.cl j=true)(a:C.D.eW j=[]):C.view j=C.D.bJ.getD j []:=by
 rw[MB h hs,yt _ (λx hx=>(h.raw.dev.wn x hx).1),if_pos (by rw[h.inv.oW j hs,a])]
theorem dJ.view(h:dJ w S pages L aL bG)(a:S.failed=false)(b:S.T.g j=true):S.T.C.view j=S.V j:=
 MC h.t.ca (h.cl j b) (by rw[(h.live a).2.1])
theorem kO.set(h:kO w S aL bG){x:aa}(hi:i<19):(∃u:aa,w.cell? ⟨S.st,i,none⟩=some u)/\w.frozen? ⟨S.st,i,none⟩=false/\
 Var (w.setCell ⟨S.st,i,none⟩ x) S.st (S.cells.set i x) 146/\b5 (w.setCell ⟨S.st,i,none⟩ x) S.T/\ag (λq=>q=S.st) w (w.setCell ⟨S.st,i,none⟩ x):=by
 obtain⟨ay,az⟩:=ez h.v (i:=i) (by exact hi);exact⟨ay,az,eE h.v (i:=i) x,h.t.lk h.es (dU w S.st i x),dU w S.st i x⟩
end
theorem hV.mono{a:Nat}{leaf:ao}{n:aG}(h:hV gen leaf no l n)(hg:gen<=a):hV a leaf no l n:=by
 obtain⟨p,h1,h2,b⟩:=h;exact⟨p,h1,eO h2 hg,b⟩
section
variable {w w':J}{C:cn}{X:U1}{T:aN}{S aE:b_}{pages aL:O Nat}{L bG:O aP}
theorem MD{aF:a8}(h:eu X w C)(hd:cL w' aF)(e:aF.d=C.D.d)(g:lL aF C.D)(k:∀i,2<=i->aF.now i=C.D.now i)(hc:ag (b4 C.D) w w')(hf:∀q,b4 aF q->b4 C.D q\/w<=q):
 eu X w' {C with D:=aF}/\∀j,2<=j->({C with D:=aF}:cn).view j=C.view j:=by
 have o:=hc.size;have l:∀q,q<w.heap.size->du {C with D:=aF} q->du C q:=λq a b=>by
  obtain h1|h1|h1:=b
  .exact .inl h1
  .exact .inr (.inl h1)
  .exact .inr (.inr ((hf q h1).resolve_right I))
 refine⟨⟨h.raw.r2 hd e hc hf,h.inv.pins,λf p r=>?_,h.inv.un,λq a=>⟨fO (h.inv.fD q a).1 o,λb=>(h.inv.fD q a).2 (l q (h.inv.fD q a).1 b)⟩,g.2.2⟩,λj s=>?_⟩
 .obtain⟨no,ay,az,t,u,v,x,m⟩:=h.inv.ok f p r
  exact⟨no,ay,by rw[show({C with D:=aF}:cn).D.n=aF.n from rfl,g.1];exact az,bI.re t hc (λq _ c y=>c.1 (.inr (.inr y))) λq a c=>⟨λb=>c.1 (l q a b),c.2⟩,u,λhd=>by show _=aF.now no;rw[k no m];exact v hd,λhs=>x (g.2.1 _ hs),m⟩
 .unfold cn.view
  dsimp only
  cases C.aw.find? λf=>f.full&&f.no==(j:Int) with
  |some f=>rfl
  |none=>exact k j s
theorem b5.Gc{aM:cn}{P:Nat->au aG}(h:b5 w T)(a:eu T.X w' aM)(hc:ag (du T.C) w w')(e:aM.c=T.C.c)(b:aM.D.n=T.C.D.n)(d:∀no bN,P no=some bN->no<T.n/\hV T.gen bN.leaf no (aM.view no) bN)(f:∀j,aM.D.cl j=true->T.g j=true\/aM.D.ro):
 b5 w' (T.bC aM P):=by
 have hx:=h.ca.inv.fD;refine⟨?_,h.s.ah hc λq i hf=>(hx q (.inr (.inl i))).2 hf,a,h.ld,h.dv,h.jy,b.trans h.n,h.num,d,f,h.low⟩;have:=h.t.ah hc λhf=>(hx T.bd (.inl rfl)).2 hf;unfold mS at this⊢;rw[←e]at this;exact this
def aN.nR(T:aN)(gen:Nat):aN:={T with gen:=gen}
theorem b5.ME(h:b5 w T)(b:Var w' T.bd (mS (T.nR gen)) 243)(hc:ag (λq=>q=T.bd) w w')(h1:T.gen<=gen)(h2:gen<18446744073709551616):b5 w' (T.nR gen):=
 ⟨b,h.s.ah hc λq c e=>h.ld (e▸c),h.ca.ah hc λq e=>.inl e,h.ld,h.dv,h.jy,h.n,⟨h.num.1,h.num.2.1,h2⟩,λno bN a=>⟨(h.eS no bN a).1,(h.eS no bN a).2.mono h1⟩,h.cl,h.low⟩
theorem MF(h:b5 w T)(h1:T.gen<=gen)(h2:gen<18446744073709551616):
 aH aj 148 #[.pointer (some T.bd),.int .u64 (gen:Nat)] w (λv w'=>v=.tuple #[]/\b5 w' (T.nR gen)/\ag (λq=>q=T.bd) w w'):=by
 refine ae.Ii _ _ w _ ?_;(delta ae.tM ak st;dsimp only);obtain⟨ay,az⟩:=ez h.t (i:=2) (by simp[mS]);have a:=eE h.t (i:=2) (.int .u64 (gen:Nat));have hc:=dU w T.bd 2 (.int .u64 (gen:Nat));refine⟨λ_=>⟨_,rfl,ay,az,aT ?_⟩,nofun⟩;rw[aA,cA];exact⟨rfl,h.ME a hc h1 h2,hc⟩
def Gd(aE:b_)(gen:Nat)(g:Nat->ao)(pages:O Nat)(L:O aP)(clock dc:Nat):Prop:=
 (∀j,g j=true->aE.T.C.D.eW j=[])\/
 ∃ (a:c_) (ay:Nat->ao) (c:Nat->au aG) (b:c7),(∀j,aE.T.C.D.eW j=if j=(gen+1)%2 then [b] else [])/\iT (λj=>if j=(gen+1)%2 then b else aE.V j) aE.T.n (gen+1) a ay c pages L/\a.clock=clock/\a.dc=dc
def BR(S:b_)(pages:O Nat)(L:O aP)(aL:O Nat)(bG:O aP)(w:J)(v:aa)(w':J):Prop:=
 ∃aE,ef 100 S aE w w'/\aE.now=S.now/\
  ((v=.int .i64 0/\dJ w' aE pages L pages L/\aE.failed=false/\aE.gen=S.gen+1/\aE.u.clock=S.now/\aE.u.dc=S.u.dc+1/\aE.pending=0)\/
   (v=.int .i64 3/\¬S.T.C.D.quiet/\dJ w' aE aL bG aL bG/\aE.failed=true/\aE.u=S.u/\aE.gen=S.gen/\(∀j,S.T.g j=true->aE.V j=S.V j)/\Gd aE S.gen S.T.g pages L S.now (S.u.dc+1)))
end
section
variable {w w' w1:J}{C:cn}{X:U1}{T:aN}{S aE jM:b_}{pages aL:O Nat}{L bG:O aP}{f2:Nat->ao}{aM:cn}{P':Nat->au aG}
theorem MG{V:Nat->c7}{i:Nat->au aG}(h:dJ w S pages L aL bG)(k:f2=dA (dA S.T.f no true) S.u.map false)(K:(S.T.f no||S.T.g no)=false)(A:2<=no)(B:no<S.T.n)(M:L.length<4096)(l:∀x∈pages,i x=S.T.P x)
 (D:V ((S.gen+1)%2)=eX ((S.gen+1)%2) (kJ ⟨S.T.root,S.T.aK,no,S.now,S.u.dc+1,L.length⟩ S.T.n (S.gen+1))) (eN:∀j,j≠(S.gen+1)%2->V j=if j=no then eX no ⟨4,S.gen+1,gf f2 ((S.T.n+7)/8)⟩ else if S.T.g j=true then S.V j else S.T.C.view j)
 (hg:∀j,S.T.g j=true->S.V j=S.T.C.view j):iT V S.T.n (S.gen+1) ⟨S.T.root,S.T.aK,no,S.now,S.u.dc+1,L.length⟩ f2 i pages L:=by
 have E:=h.t.s.bx;have F:=h.num;have m:=h.t.num;have o:=h.kj.yR;have N:=o.2.2.2.2.1;have p:S.T.f S.u.map=true:=(h.f _).2 (.inr (.inr rfl));have q:S.T.f no=false:=by cases O:S.T.f no<;>simp_all
 have r:∀x∈pages,x≠no:=λx hx e=>by
  have:=(h.f x).2 (.inl hx);rw[e,q]at this;cases this
 have G:∀x∈pages,x<S.T.n:=λx hx=>Nat.lt_of_not_le λe=>by
  have:=h.t.s.pf x e;rw[(h.f x).2 (.inl hx)]at this;cases this
 have H:∀j,j≠(S.gen+1)%2->j≠no->V j=S.T.C.view j:=λj h1 h2=>by
  rw[eN j h1,if_neg h2];by_cases e:S.T.g j=true
  .rw[if_pos e,hg j e]
  .rw[if_neg e]
 have v:k8 ⟨S.T.root,S.T.aK,no,S.now,S.u.dc+1,L.length⟩ S.T.n:=by
  refine⟨?_,m.2.1,m.1,B,A,E⟩;obtain⟨a1,a2,_⟩|b:=h.ok
  .exact⟨λ_=>a1,λ_=>a2⟩
  .obtain⟨bN,Q,_,a2,_,_⟩:=b.j6
   have:=(h.two S.T.root (by rw[a2];simp)).1;constructor
   .intro e;have e:S.T.root=0:=e;omega
   .intro e
    have e:S.T.aK=0:=e;rw[e]at b;exact b.elim
 have y:oT ⟨S.T.root,S.T.aK,no,S.now,S.u.dc+1,L.length⟩:=⟨by show S.T.root<_;omega,by show S.T.aK<_;omega,by show no<_;omega,F.1,by show S.u.dc+1<_;omega,by show L.length<_;omega⟩;refine⟨⟨S.u.map,o.2.2.2.1,by rw[k];unfold dA;rw[if_pos rfl]⟩,?_,.inr ⟨S.u,S.gen,?_,I⟩,⟨S.gen+1,bk _,?_⟩,λj=>?_,h.bN,λx hx=>⟨(h.two x hx).1,r x hx,G x hx⟩,?_,λx hx bN z=>?_,rfl,h.kv,y,v,by show S.u.dc+1+1<=S.gen+1;omega⟩
 .rw[D]
  exact EJ y v I I
 .have e:1-(S.gen+1)%2=S.gen%2:=I
  have J:S.T.g (S.gen%2)=true:=(h.kj.g _).2 (.inr (.inl I));rw[e,eN _ I,if_neg I,if_pos J];exact h.kj.yQ
 .show dX (no:Int) (V no)=_
  rw[eN _ I,if_pos rfl];exact yb I ⟨(by decide:1<=4),(by decide:4<=4),by show S.gen+1<_;omega,by show(gf _ _).length<=232;rw[qB];omega⟩
 .rw[k]
  show dA (dA S.T.f no true) S.u.map false j=true↔j∈pages\/j<2\/j=no;unfold dA;by_cases c:j=S.u.map
  .rw[if_pos c]
   refine⟨nofun,λa=>?_⟩;obtain a|a|a:=a
   .exact absurd c (h.two j a).2
   .omega
   .rw[←c,a,q]at p;cases p
  .rw[if_neg c]
   by_cases d:j=no
   .rw[if_pos d];exact⟨λ_=>.inr (.inr d),λ_=>rfl⟩
   .rw[if_neg d,h.f j]
    constructor
    .rintro(a|a|a)
     .exact .inl a
     .exact .inr (.inl a)
     .exact absurd a c
    .rintro(a|a|a)
     .exact .inl a
     .exact .inr (.inl a)
     .exact absurd a d
 .obtain⟨a1,a2,a3,a4⟩|b:=h.ok
  .exact .inl ⟨a1,a2,a3,a4⟩
  .exact .inr (b.agree λx hx=>(l x hx).symm).1
 .rw[l x hx]at z
  rw[H x (U4 ((h.two x hx).1)) (r x hx),←h.gen];exact(h.t.eS x bN z).2
end
section
variable {w w' w1:J}{C:cn}{X:U1}{T:aN}{S aE jM:b_}{pages aL:O Nat}{L bG:O aP}{f2:Nat->ao}{aM:cn}{P':Nat->au aG}
theorem MH{f:Nat->ao}(h:k<n):oV f n (k:Int)=dA f k false:=by
 unfold oV;rw[if_pos ⟨I,I⟩,c2]
theorem MI{bd d c sb now first pending keys st:Nat}{l:e0}{failed:ao}(b:Var w st (jB bd d c sb l u gen now first pending keys failed) 146)(a:c_){K:U2}(e:∀ai,Var ai st (jB bd d c sb l a gen now first pending keys failed) 146->ag (λq=>q=st) w ai->K ai):
 bp w ⟨st,7,none⟩ [a.root,a.aK,a.map,.int .u64 (a.clock:Nat),.int .u64 (a.dc:Nat),a.keys]/\(6:Nat)=6/\
  an (setCells w ⟨st,7,none⟩ 0 [a.root,a.aK,a.map,.int .u64 (a.clock:Nat),.int .u64 (a.dc:Nat),a.keys]) K:=
 ⟨bu.ct b _ _ (by simp[jB]) λv f=>c_.plain a v f,rfl,aT (e _ (bu.kB (o:=7) b _) (ag.kA (.refl _ _) _ 0))⟩
theorem Ge(h:dJ w S pages L aL bG)(U:S.failed=false)(cQ:L.length<4096)(ea:S.T.C.D.aX<=800000000)(eb:S.gen<=1000000000)(ac:S.T.C.D.quiet):
 aH aj 74 #[.pointer (some S.st)] w (BR S pages L aL bG w):=by
 refine okF (ae.w3 (some S.st)) ax.w3 func74 ?_;(delta ae.w3 g9 ak bB r1 bO bH dH gI Y fI st;dsimp only);obtain⟨aY,bw,cR⟩:=h.live U;obtain⟨no,bz⟩:=Fp cR;obtain⟨bA,cS,_⟩:=EW bz;have ec:=h.t.s.bx;have ap:=h.num;have cT:=h.gen;have bD:=h.kj.yR;have bE:S.T.f no=false:=by cases cU:S.T.f no<;>simp_all
 have aZ:S.T.g no=false:=by cases cU:S.T.g no<;>simp_all
 have bF:2<=no:=Nat.le_of_not_lt λe=>by
  have:=(h.kj.g no).2 (.inr (.inl e));rw[aZ]at this;cases this
 have ed:S.T.M S.st:=.inr (.inr (.inr (.inl h.es)));refine⟨_,rfl,_,h.v.cell,(EY h.t.s).use ?_⟩;rintro _ bI ⟨rfl,bK,aq⟩;rw[bz]at bK⊢;refine⟨(no:Nat),0,rfl,nofun,λ_=>aT ?_⟩;have cV:=(h.t.yF (f:=dA S.T.f no true) bK aq).1;have cW:=h.v.ah aq (h.t.dv _ h.es).2.1;have ar:Ext bI bI.drew:=cw _;have a0:=cW.ext ar;have bL:=cV.ext ar;refine⟨_,rfl,id,_,a0.cell,_,rfl,id,_,by rw[aA,aA];exact a0.cell,(EZ bL.s (S.u.map:Nat)).use ?_⟩;rintro _ av ⟨rfl,bM,aw⟩;rw[MH (by exact bD.2.2.2.1)]at bM;obtain⟨f2,a1⟩:=U6 (dA (dA S.T.f no true) S.u.map false);have bP:fc av S.T.sb S.T.n f2 S.T.g S.T.s1 S.T.s2:=by rw[a1];exact bM
 have a2:b5 av (S.T.kg f2):=(bL.yF (f:=f2) bP aw).1;have bQ:=a0.ah aw (h.t.dv _ h.es).2.1;refine⟨_,rfl,aT ?_⟩;have aB:Ext av av.drew:=cw _;have bR:=bQ.ext aB;have cX:=a2.ext aB;have a3:IntKind.wrap .u64 ((S.gen:Int)+1)=((S.gen+1:Nat):Int):=by rw[gF I I];omega
 refine⟨λ_=>False,_,rfl,id,_,bR.cell,_,rfl,id,_,bR.cell,(E6 cX.s).use ?_⟩;rintro _ cY ⟨aD,rfl,cZ,a4,ee⟩;have c0:aR 1 5 cY aD (aC (gf f2 ((S.T.n+7)/8))):=by rw[F3];exact cZ
 have bS:oN ⟨4,S.gen+1,gf f2 ((S.T.n+7)/8)⟩:=⟨(by decide:1<=4),(by decide:4<=4),by show S.gen+1<_;omega,by show(gf _ _).length<=232;rw[qB];omega⟩;rw[a3];refine⟨aD,rfl,a4,#[(4:Int),.int .u64 ((S.gen+1:Nat):Int),aD],λef=>by kernel_rfl,(yf (s:=aD) (p:=⟨4,S.gen+1,gf f2 ((S.T.n+7)/8)⟩) (no:=no) c0.src I bS).use ?_⟩;rintro _ bT ⟨c2,rfl,bU,bV,c3⟩;have a5:=aB.trans (Ext.trans a4 bV);have aE:=a2.ext a5;have bW:=bQ.ext a5;have eg:=aq.size;have eh:=aw.size;have ei:=ar.size;have ej:=aB.size;have ek:=a4.size;have a7:ag S.W w bT:=cE (cE (cE (cE (ag.refl _ _) aq λq _ a=>h.o4 (.inr (.inr (.inl a)))) ar λq _ a=>a.elim) aw λq _ a=>h.o4 (.inr (.inr (.inl a)))) a5 λq _ a=>a.elim;have c4:(eX no ⟨4,S.gen+1,gf f2 ((S.T.n+7)/8)⟩).length=256:=uf _ bS;refine⟨c2,0,rfl,bV,nofun,λ_=>⟨_,rfl,_,bW.cell,(Fj aE.ca (by show S.T.C.D.aX<=_;omega) (no:=no) (aE.n▸bA) bF (λhs=>?_) bU.src c4 λq a=>⟨aR.lt bU q a,λhf=>?_⟩).use ?_⟩⟩
 .rcases aE.cl no hs with h1|h1
  .rw[show(S.T.kg f2).g no=S.T.g no from rfl,aZ]at h1;cases h1
  .exact aY h1
 .have h1:=c3 q a
  have h2:=a2.lt (q:=q) (.inl hf);omega
 rintro _ bX ⟨J,c5,bY,aF⟩;have A:eR S.T.C J bT bX 1:=bY;have b0:∀j,j≠no->J.view j=S.T.C.view j:=λj o=>by
  obtain⟨_,a9⟩|⟨_,_,a9⟩:=aF
  .rw[a9,if_neg o];rfl
  .rw[a9];rfl
 obtain⟨F,a_⟩:=U6 (λj=>if j=no then none else S.T.P j:Nat->au aG)
 have ad:∀j,j≠no->F j=S.T.P j:=λj o=>by rw[a_];exact if_neg o
 obtain⟨aI,_⟩:=aE.yD (P:=F) c5 bY λj bN Q=>by
  have o:j≠no:=λe=>by rw[a_]at Q;simp[e]at Q
  rw[b0 j o];exact h.t.eS j bN (by rw[←ad j o];exact Q)
 have c6:¬du S.T.C S.st:=(h.t.ca.inv.fD _ (.inr (.inr (.inl h.es)))).2;have b2:=bW.ah A.ah c6;have b3:ag S.W w bX:=cE a7 A.ah λq _ a=>h.o4 (.inl a);have el:∀x∈aL,S.T.P x=F x:=λx hx=>(ad x λe=>by
  have:=(h.kj.g x).2 (.inl hx);rw[e,aZ]at this;cases this).symm
 have em:J.D.bJ=S.T.C.D.bJ:=congrArg (λp=>p.1.1) A.bJ;have b7:J.D.cu.getD 3 0=S.T.C.D.cu.getD 3 0:=congrArg Prod.snd A.bJ;obtain⟨rfl,aF⟩|⟨rfl,c8,_⟩:=aF
 rotate_left
 .exact absurd (ac.1 1) c8
 refine⟨0,rfl,nofun,λ_=>⟨_,rfl,_,b2.cell,?_⟩⟩;have b8:=Ms aI.ca (by show J.D.aX<=_;have:=A.aX;omega) λj o=>by show J.D.eW j=_;rw[A.qw.2,bw]
 rw[show((S.T.kg f2).bC J F).C.c=S.T.C.c from A.c]at b8;refine b8.use ?_;rintro _ aJ ⟨b,R⟩;have c9:¬du J S.st:=(aI.ca.inv.fD _ (.inr (.inr (.inl h.es)))).2;have ba:=b2.ah R.ah c9;have bb:b.D.d=S.T.C.D.d:=R.d.trans A.d;have da:b.c=S.T.C.c:=R.c.trans A.c;have db:b.D.r1=S.T.C.D.r1:=R.r.trans (congrArg (λp=>p.1.2.2.2.2) A.bJ);have aM:∀q,du b q->du S.T.C q\/w<=q:=λq a=>by
  have:=b3.size;have:=a7.size;rcases R.c1 q a with h1|h1
  .exact(A.c1 q h1).imp id λe=>by omega
  .exact .inr I
 have b9:ag S.W w aJ:=cE b3 R.ah λq U a=>by
  have:=a7.size;exact h.o4 (.inl ((A.c1 q a).resolve_right I))
 have b_:∀ (bc:cn),(∀j,2<=j->bc.view j=J.view j)->∀j bN,F j=some bN->j<S.T.n/\hV S.T.gen bN.leaf j (bc.view j) bN:=λbc dd j bN Q=>by
  have o:j≠no:=λe=>by rw[a_]at Q;simp[e]at Q
  have h1:=h.t.eS j bN (by rw[←ad j o];exact Q);rw[dd j h1.2.two,b0 j o];exact h1
 have be:b5 aJ ((S.T.kg f2).bC b F):=aI.Gc R.at_ R.ah R.c R.n (b_ b λj _=>R.view j) λj o=>by
  rw[R.cl.1]at o;rcases aI.cl j o with h1|h1
  .exact .inl h1
  .exact .inr λi=>by rw[R.cl.1];exact h1 i
 have cb:b.D.cl=S.T.C.D.cl:=R.cl.1.trans A.cl;have en:b.D.eW=λ_=> []:=R.cl.2.trans (A.qw.2.trans bw);have eo:b.D.aX<=S.T.C.D.aX+70:=by have h1:b.D.aX<=J.D.aX+64:=R.aX;have:=A.aX;omega
 obtain⟨rfl,de,cc,df⟩|⟨rfl,ep,dg⟩:=R.jc
 rotate_left
 .exfalso
  obtain h1|h1:=dg
  .exact h1 (A.calm 64 (ac.1 _))
  .unfold a8.gh at h1
   rw[show((S.T.kg f2).bC J F).C.D.cu.getD 3 0=S.T.C.D.cu.getD 3 0 from b7,ac.2]at h1
   cases h1
 have aO:∀j,b.D.eQ j=[]:=λj=>by unfold a8.eQ;rw[de];rfl
 have dh:∀j,b.D.bJ.getD j []=if j=no then eX no ⟨4,S.gen+1,gf f2 ((S.T.n+7)/8)⟩ else S.T.C.view j:=λj=>by
  have h1:=Mq R.at_ cc j;rw[yt _ (λx hx=>(R.at_.raw.dev.wn x hx).1),if_pos (aO j)]at h1;rw[←h1,R.view];exact aF j
 have cd:∀j,S.T.g j=true->S.V j=S.T.C.view j:=λj o=>(h.view U o).symm;refine⟨0,rfl,nofun,λ_=>⟨_,rfl,_,ba.cell,?_⟩⟩;have ce:=FT be;rw[show((S.T.kg f2).bC b F).bd=S.T.bd from rfl]at ce;refine ce.use ?_;rintro _ bf ⟨rfl,bg⟩;have bh:Ext bf bf.drew:=cw _;have bi:=(ba.ext bg).ext bh;have di:IntKind.wrap .u64 ((S.u.dc:Int)+1)=((S.u.dc+1:Nat):Int):=by rw[gF I I];omega
 refine⟨_,_,rfl,aT ⟨λ_=>False,_,rfl,id,_,bi.cell,_,rfl,id,_,by rw[aA,aA];exact bi.cell,_,rfl,id,_,bi.cell,?_⟩⟩;rw[di];obtain⟨G,Z⟩:=U6 (⟨S.T.root,S.T.aK,no,S.now,S.u.dc+1,S.keys⟩:c_);refine⟨G.c.toArray,λeq=>by rw[Z];kernel_rfl,a6 (vs:=gL.c) rfl λer cg ch et=>⟨ch,?_⟩⟩;obtain⟨af,dj⟩:=U6 bf.drew.heap.size;rw[←dj]at cg⊢;refine kf cg rfl G λai dk dl ev=>aT ?_;have ew:=bg.size;have ex:=bh.size;have dm:Ext aJ ai:=Ext.cp (Ext.trans bg (bh.trans ch)) dl I;have ci:Ext ai ai.drew:=cw _;have al:Ext aJ ai.drew:=Ext.trans dm ci;have bj:=dk.ext ci;have aP:=ba.ext al;have bl:=be.ext al;generalize ey:ai.drew=aQ at bj aP bl al⊢;refine⟨_,rfl,id,_,aP.cell,id,hE bj ⟨_,rfl,id,_,aP.cell,?_⟩⟩;rw[a3];have dn:oT G:=by
  have h1:=h.t.num;have h2:=h.keys;rw[Z];exact⟨by show S.T.root<_;omega,by show S.T.aK<_;omega,by show no<_;omega,ap.1,by show S.u.dc+1<_;omega,by show S.keys<_;omega⟩
 have bm:b.D.n=S.T.n:=R.n.trans (A.n.trans h.t.n);have O:eu S.T.X aQ b:=bl.ca;have cj:=ow O.raw.dev I dn (gen:=S.gen+1) I;rw[bb]at cj;refine cj.use ?_;rintro v bn ⟨aa,bo⟩;have eA:=al.size;have dq:∀q,du b q->q<af:=λq a=>U4 (R.at_.raw.lt a)
 have dr:=bj.ah aa λhf=>U4 (dq af (.inr (.inr hf)))
 have ds:¬du b S.st:=(be.ca.inv.fD _ (.inr (.inr (.inl h.es)))).2;have ck:=aP.ah aa λhf=>ds (.inr (.inr hf));have dt:ag S.W w aQ:=cE b9 al λq _ a=>a.elim;have eB:=b9.size;have dw:ag S.W w bn:=cE dt aa λq U a=>h.o4<| .inl ((aM q (.inr (.inr a))).resolve_right I)
 have main:∀ (N:a8),cL bn N->N.d=b.D.d->lL N b.D->(∀i,2<=i->N.now i=b.D.now i)->(∀q,b4 N q->b4 b.D q\/aQ<=q)->(∀j,N.cl j=true->S.T.g j=true)->
  b5 bn ((S.T.kg f2).bC {b with D:=N} F)/\∀q,du {b with D:=N} q->du S.T.C q\/w<=q:=λN am dx cm dy co dz=>by
  obtain⟨iN,eM⟩:=MD O am dx cm dy aa co;refine⟨bl.Gc iN (aa.mono λq _ a=>.inr (.inr a)) rfl cm.1 (b_ _ λj o=>(eM j o).trans (R.view j)) λj o=>.inl (dz j o),λq a=>?_⟩;obtain a|a|a:=a
  .exact aM q (.inl a)
  .exact aM q (.inr (.inl a))
  .rcases co q a with h1|h1
   .exact aM q (.inr (.inr h1))
   .exact .inr I
 have eC:¬b.D.ro:=λe=>aY λi=>by rw[←cb];exact e i
 have eD:∀j,b.D.cl j=true->S.T.g j=true:=λj o=>by
  rw[cb]at o;exact(h.t.cl j o).resolve_right aY
 have cq:S.T.C.D.quiet->∀k,b.D.calm k:=λa k=>R.calm k (A.calm _ (a.1 _));obtain⟨bp,rfl,am⟩|⟨bp,s,dB,bZ,K,bo⟩:=bo
 .have:=(kI (k:=2) (m:=0) (.inr rfl) O.raw.dev.f4 (cq ac 1)).2
  rw[this]at bp;cases bp
 have eF:∀j,bZ.eQ j=if j=(S.gen+1)%2 then [eX ((S.gen+1)%2) (kJ G b.D.n (S.gen+1))] else []:=λj=>by
  rw[K,EF,aO,aO];rfl
 have cr:G=⟨S.T.root,S.T.aK,no,S.now,S.u.dc+1,L.length⟩:=by rw[Z,h.keys]
 have dC:∀V:Nat->c7,(∀j,V j=if j=(S.gen+1)%2 then eX ((S.gen+1)%2) (kJ G b.D.n (S.gen+1)) else b.D.bJ.getD j [])->iT V S.T.n (S.gen+1) G f2 F pages L:=λV eN=>by
  rw[cr];refine MG h a1 cS bF bA cQ (λx hx=>ad x λe=>by
   have:=(h.f x).2 (.inl hx);rw[e,bE]at this;cases this) (by rw[eN,if_pos rfl,cr,bm]) (λj o=>?_) cd
  rw[eN,if_neg o,dh];by_cases e:j=no
  .rw[if_pos e,if_pos e]
  .rw[if_neg e,if_neg e]
   by_cases bq:S.T.g j=true
   .rw[if_pos bq,cd j bq]
   .rw[if_neg bq]
 have br:∀q,b4 bZ q->b4 b.D q\/aQ<=q:=by rw[K];exact yP dB
 have eG:∀i,2<=i->bZ.now i=b.D.now i:=λi hi=>by rw[K,qo,if_neg I]
 have cs:bZ.n=b.D.n:=by rw[K];rfl
 have dD:bZ.d=b.D.d:=by rw[K];rfl
 have eH:bZ.bJ=b.D.bJ:=by rw[K];rfl
 have eI:bZ.aX=b.D.aX+1:=by rw[K];rfl
 have ct:S.T.C.D.quiet->bZ.cu.getD 3 0= -1:=λa=>by
  rw[K];show(b.D.cu.set 2 _).getD 3 0=_;have aS:=O.raw.dev.f4;rw[fB (by rw[dp];omega),fQ (by decide),←fB (d:=0),df];rw[show((S.T.kg f2).bC J F).C.D.cu.getD 3 0=S.T.C.D.cu.getD 3 0 from b7,a.2];rfl
 obtain⟨aU,rfl,am⟩|⟨aU,rfl,am⟩:=bo
 .unfold a8.gh at aU
  rw[ct ac]at aU;cases aU
 have dE:∀j,S.T.n<=j->b.D.bJ.getD j []=[]:=λj o=>by
  rw[ft,m9 (by have:b.D.bJ.length=S.T.n:=bm;omega)];rfl
 have cv:∀j,b.D.now j=b.D.bJ.getD j []:=λj=>by rw[yt _ (λx hx=>(O.raw.dev.wn x hx).1),if_pos (aO j)]
 have eJ:bZ.n=S.T.n:=cs.trans bm;have dF:∀j,(bZ.cN 3).jP.bJ.getD j []=if j=(S.gen+1)%2 then eX ((S.gen+1)%2) (kJ G b.D.n (S.gen+1)) else b.D.bJ.getD j []:=λj=>by
  show((List.range bZ.n).map bZ.now).getD j []=_;have eK:16<=bZ.n:=by have:16<=b.D.n:=O.raw.dev.b6;omega
  by_cases o:j<bZ.n
  .rw[fB (by simp;exact o),vf,List.getElem_range,K,qo,cv]
  .rw[ft,m9 (by simp;omega),if_neg I,dE j I];rfl
 obtain⟨B,H⟩:=U6 ((bZ.cN 3).jP.jj (λ_=>false) λ_=> []);have dG:∀j,B.eQ j=[]:=λj=>by rw[H];rfl
 have cx:∀j,B.bJ.getD j []=if j=(S.gen+1)%2 then eX ((S.gen+1)%2) (kJ G b.D.n (S.gen+1)) else b.D.bJ.getD j []:=λj=>by rw[H];exact dF j
 have dI:B.n=b.D.n:=by rw[H];exact(uG (bZ.cN 3)).trans cs
 have bs:B.d=S.T.C.D.d:=by rw[H];exact dD.trans bb
 obtain⟨cz,dK⟩:=main B (by rw[H];exact am.jj _ _) (bs.trans bb.symm) ⟨dI,λj o=>(by rw[H]at o;cases o),λj o=>(by rw[H]at o;cases o)⟩ (λi hi=>by
  have h1:B.now i=B.bJ.getD i []:=by rw[H];rfl
  rw[h1,cx,if_neg I,cv]) (λq a=>by
   rw[H]at a;obtain e|e|e|⟨x,hx,e⟩:=a
   .exact br q (.inl e)
   .exact br q (.inr (.inl e))
   .exact br q (.inr (.inr (.inl e)))
   .cases hx) λj o=>(by rw[H]at o;cases o)
 refine⟨0,rfl,nofun,λ_=>⟨_,rfl,_,ck.cell,(KX cz.s).use ?_⟩⟩;rintro _ an ⟨rfl,s2,dL,ao,cB⟩;have ab:=dC (λj=>B.bJ.getD j []) cx;have dM:f2 0=true/\f2 1=true:=⟨(ab.g 0).2 (.inr (.inl (by decide))),(ab.g 1).2 (.inr (.inl (by decide)))⟩;obtain⟨dN,eL⟩:=cz.space dL ao cB (λj o=>by
  have o:B.cl j=true:=o;rw[H]at o;cases o) dM
 have eO:=ao.size;have dO:=ck.ah ao (h.t.dv _ h.es).2.1;have dP:=dr.ah ao λhf=>by
  have h1:=h.t.lt (q:=af) (.inr (.inr (.inl hf)));omega
 have dQ:=dN.jj (s:=f2) (z:=λ_=> []) (λf hf j dR _ _=>by
  have h1:=cc f hf;unfold Fr.iv at h1;rw[dR]at h1;simpa using h1) (λj _=>dG j) λj o=>.inl o
 obtain⟨gJ,y⟩:∃gJ:aN,gJ=(((S.T.kg f2).bC {b with D:=B} F).BG f2 f2 S.T.s1 s2).bC {b with D:=B.jj f2 λ_=> []} F:=⟨_,rfl⟩;have dS:b5 an gJ:=by rw[y];exact dQ
 have aV:Ext an an.drew:=cw _;have cC:Var an.drew S.st (jB S.T.bd S.T.C.D.d S.T.C.c S.T.sb S.l S.u S.gen S.now S.first S.pending S.keys S.failed) 146:=dO.ext aV;have dT:=dP.ext aV;have dV:=dS.ext aV;have aW:gJ.E=S.T.E:=by rw[y];rfl
 refine⟨rfl,aT ⟨λ_=>False,id,hE dT ⟨_,rfl,id,_,cC.cell,_,rfl,?_⟩⟩⟩;rw[aA,cA,a3];refine MI cC G λcD cF cG=>?_;have dW:=dV.lk (aW▸h.es) cG;obtain⟨b1,cf⟩:=ez cF (i:=13) (by simp[jB]);have cH:=eE cF (i:=13) (.int .u64 ((S.gen+1:Nat):Int));have dX:=dU cD S.st 13 (.int .u64 ((S.gen+1:Nat):Int));refine⟨_,rfl,b1,cf,aT ?_⟩;rw[aA,cA];obtain⟨dY,dZ⟩:=ez cH (i:=16) (by simp[jB]);have cJ:=eE cH (i:=16) (0:Int);have bt:=dX.trans (dU _ S.st 16 (0:Int));refine⟨_,rfl,dY,dZ,aT ?_⟩;rw[aA,cA];generalize (cD.setCell ⟨S.st,13,none⟩ (.int .u64 ((S.gen+1:Nat):Int))).setCell ⟨S.st,16,none⟩ (0:Int)=cK at cJ bt⊢;have d0:=dW.lk (aW▸h.es) bt;have bu:Ext cK cK.drew:=cw _;have bv:=cJ.ext bu;have d1:=d0.ext bu;refine aT ⟨_,rfl,id,_,bv.cell,_,rfl,id,_,bv.cell,?_⟩;have d2:IntKind.wrap .u64 (((S.gen+1:Nat):Int)+1)=((S.gen+2:Nat):Int):=by rw[gF I I];omega
 rw[d2];have eP:gJ.gen=S.gen+1:=by rw[y];exact cT
 have cM:gJ.bd=S.T.bd:=by rw[y];rfl
 have cO:=MF d1 (gen:=S.gen+2) I I;rw[cM]at cO;refine cO.use ?_;rintro _ d3 ⟨rfl,d4,cP⟩;have d5:=bv.ah cP (h.t.dv _ h.es).1;have d6:∀q,(gJ.nR (S.gen+2)).M q->S.T.M q\/w<=q:=λq a=>by
  rw[y]at a;obtain a|a|a|a:=a
  .exact(dK q a).imp .inl id
  .exact .inl (.inr (.inl a))
  .rcases cB q a with h1|h1
   .exact .inl (.inr (.inr (.inl h1)))
   .have:=aa.size;exact .inr I
  .exact .inl (.inr (.inr (.inr a)))
 refine⟨rfl,⟨S.st,gJ.nR (S.gen+2),S.l,G,S.gen+1,S.now,S.first,0,S.keys,S.failed⟩,⟨rfl,?_,by rw[y];rfl,rfl,?_,λa=>?_,?_,d6,aW,by rw[y];rfl,by rw[y];exact(show B.r1=bZ.r1 by rw[H];rfl).trans ((show bZ.r1=b.D.r1 by rw[K];rfl).trans db)⟩,rfl,.inl ⟨rfl,⟨⟨?_,d4,?_,?_,rfl,?_,?_⟩,?_,h.bN,?_,?_,h.kv,h.keys,cI _,λ_=>⟨?_,?_,?_⟩,λhf=>?_⟩,U,rfl,by rw[Z],by rw[Z],rfl⟩⟩
 .rw[y];exact bs
 .rw[y];show B.aX<=_;rw[H];show bZ.aX<=_;omega
 .rw[y]
  show a8.quiet (B.jj _ _);rw[H];refine⟨λk=>uH bZ ?_,?_⟩
  .have aS:=(kI (k:=2) (m:=k) (.inr rfl) O.raw.dev.f4 (cq a (k+1))).1
   rw[K];exact aS
  .show(bZ.cu.set 3 (g1 (bZ.cu.getD 3 0)).2).getD 3 0= -1
   have aS:=O.raw.dev.f4;have eT:bZ.cu.length=4:=by rw[K];show(b.D.cu.set 2 _).length=4;rw[dp];exact aS
   rw[ct a,fB (by rw[dp];omega),iY];rfl
 .have hs:∀q,q=S.st->S.W q:=λq e=>by rw[e];exact h.Gb
  have ay:ag S.W w an:=cE dw ao λq _ a=>h.o4 (.inr (.inr (.inl a)));have az:=cE ay aV λq _ a=>a.elim;have d7:=cE az cG λq _ a=>hs q a;have d8:=cE d7 bt λq _ a=>hs q a;have d9:=cE d8 bu λq _ a=>a.elim;exact cE d9 cP λq _ a=>h.o4 (.inr (.inl a))
 .show Var d3 S.st (jB gJ.bd gJ.C.D.d gJ.C.c gJ.sb _ _ _ _ _ _ _ _) _
  rw[cM,show gJ.C.D.d=S.T.C.D.d by rw[y];exact bs,show gJ.C.c=S.T.C.c by rw[y];exact da,show gJ.sb=S.T.sb by rw[y];rfl];exact d5
 .show gJ.E S.st
  rw[aW];exact h.es
 .rw[y];exact ab
 .refine⟨ap.1,ap.2.1,?_,by show S.gen+1+2<_;omega,ap.2.2.2.2⟩
  show G.dc+1<=S.gen+1;rw[Z];show S.u.dc+1+1<=_;omega
 .intro j o
  have o:gJ.g j=true:=o;show gJ.C.D.cl j=true;rw[y]at o⊢;exact o
 .refine h.ok.agree (by rw[y];rfl) (by rw[y];rfl) λx hx=>?_
  rw[y];exact(ad x λe=>by
   have:=(h.f x).2 (.inl hx);rw[e,bE]at this;cases this).symm
 .intro j
  have:(gJ.nR (S.gen+2)).f j=f2 j:=by rw[y];rfl
  rw[this];exact ab.g j
 .intro x hx
  exact⟨(ab.two x hx).1,(ab.two x hx).2.1⟩
 .intro e
  have h1:=e S.T.n;have h2:(gJ.nR (S.gen+2)).C.D.cl S.T.n=f2 S.T.n:=by rw[y];rfl
  rw[h2,bP.pf S.T.n (bk _)]at h1;cases h1
 .rw[y];rfl
 .have d_:f2 S.u.map=false:=by rw[a1];unfold dA;rw[if_pos rfl]
  have h1:=uz (s:=λi=>f2 i||f2 i) (t:=dA (λi=>f2 i||f2 i) S.u.map true) (k:=S.u.map) (by simp[d_]) (by simp[dA]) (λi hi=>by simp[dA,hi]) (n:=S.T.n) bD.2.2.2.1;have h2:=nF (dA (λi=>f2 i||f2 i) S.u.map true) S.T.n;have eU:cy (gJ.nR (S.gen+2))=S.T.n-e1 (λi=>f2 i||f2 i) S.T.n:=by rw[y];rfl
  show 1<=cy (gJ.nR (S.gen+2));omega
 .have hf:S.failed=true:=hf
  rw[U]at hf;cases hf
end
theorem MJ(a b:Int)(w:J)(T:TypeId)(k:IntKind):Sem.run aj (Builtin.max_ #[T,T] T #[.int k a,.int k b]) w=.ok (.int k (max a b)) w:=by
 simp only[Builtin.max_];unfold Builtin.max2;simp;split<;>omega
theorem ef.trans{S aE b:b_}{c:J}{l:Nat}(h1:ef k S aE w w')(h2:ef l aE b w' c):ef (k+l) S b w c:=
 ⟨h2.st.trans h1.st,h2.d.trans h1.d,h2.n.trans h1.n,h2.l.trans h1.l,U5 h1.aX h2.aX,λh=>h2.q (h1.q h),cE h1.ah h2.ah λq f a=>h1.back f a,λq a=>by
  have:=h1.ah.size
  rcases h2.c1 q a with e|e
  .exact h1.c1 q e
  .exact .inr I,h2.E.trans h1.E,h2.G.trans h1.G,h2.r.trans h1.r⟩
theorem ef.mono{S aE:b_}{l:Nat}(h:ef k S aE w w')(a:k<=l):ef l S aE w w':={h with aX:=by have:=h.aX;omega}
theorem ef.ext(S:b_)(h:Ext w w'):ef 0 S S w w':=⟨rfl,rfl,rfl,rfl,bk _,λh=>h,h.mono λ_ _ h=>h.elim,λq a=>.inl a,rfl,rfl,rfl⟩
section
variable {w w' w1:J}{T:aN}{S aE jM:b_}{pages aL:O Nat}{L bG:O aP}
theorem kO.ext(h:kO w S aL bG)(hx:Ext w w'):kO w' S aL bG:=⟨h.v.ext hx,h.t.ext hx,h.es,h.kj,h.gen,h.num,h.cl⟩
theorem dJ.ext(h:dJ w S pages L aL bG)(hx:Ext w w'):dJ w' S pages L aL bG:=⟨h.tokO.ext hx,h.ok,h.bN,h.f,h.two,h.kv,h.keys,h.nQ,h.live,h.dead⟩
theorem dJ.lk{lN:Nat}(h:dJ w S pages L aL bG)(a:S.T.E lN)(hs:lN≠S.st)(hc:ag (λq=>q=lN) w w'):dJ w' S pages L aL bG:=
 ⟨⟨h.v.ah hc λe=>hs e.symm,h.t.lk a hc,h.es,h.kj,h.gen,h.num,h.cl⟩,h.ok,h.bN,h.f,h.two,h.kv,h.keys,h.nQ,h.live,h.dead⟩
theorem MK(h:dJ w S pages L aL bG):aH aj 40 #[.pointer (some S.st)] w (λv w'=>v=S.pending/\w=w'):=by
 refine okF (ae.Ad (some S.st)) ax.Ad func40 ?_;exact⟨nofun,λ_=>⟨_,rfl,_,h.v.cell,rfl,rfl⟩⟩
theorem ML(h:dJ w S pages L aL bG):aH aj 48 #[.pointer (some S.st)] w (λv w'=>v=S.keys/\w=w'):=by
 refine okF (ae.Ae (some S.st)) ax.Ae func48 ?_;exact⟨nofun,λ_=>⟨_,rfl,_,h.v.cell,rfl,rfl⟩⟩
theorem Gg(h:dJ w S pages L aL bG):aH aj 31 #[.pointer (some S.st)] w (λv w'=>v=.agg S.u.c.toArray/\Ext w w'):=by
 refine okF (ae.wL (some S.st)) ax.wL func31 ?_;(delta ae.wL gI ak Y zX r1 bO;dsimp only);refine a6 (vs:=gL.c) rfl λw1 b a g=>⟨nofun,λ_=>?_⟩;have hs:=h.v.ext a;refine⟨_,rfl,_,hs.cell,_,by rw[aA,aA];exact hs.cell,_,by rw[aA,aA];exact hs.cell,_,by rw[aA,aA];exact hs.cell,_,by rw[aA,aA];exact hs.cell,_,by rw[aA,aA];exact hs.cell,kf b rfl S.u λai e f i=>hE e ⟨rfl,Ext.cp a f (bk _)⟩⟩
def jk(S:b_):Nat:=cy S.T-2*S.T.aK-4
theorem Gh(h:dJ w S pages L aL bG):aH aj 66 #[.pointer (some S.st)] w (λv w'=>v=.int .i64 (jk S:Nat)/\Ext w w'):=by
 refine okF (ae.wV (some S.st)) ax.wV func66 ?_;delta ae.wV g9 bB ar;refine⟨_,rfl,_,h.v.cell,(FT h.t).use ?_⟩;rintro _ e ⟨rfl,a⟩;refine⟨_,_,rfl,_,rfl,_,by rw[aA];exact(h.v.ext a).cell,(Bh (h.t.ext a).s).use ?_⟩;rintro _ b ⟨rfl,c⟩;have j:=h.t.s.bx;have k:=h.t.num.2.1;have l:=nF (λi=>S.T.f i||S.T.g i) S.T.n;have d:(S.T.n:Int)-e1 (λi=>S.T.f i||S.T.g i) S.T.n=((cy S.T:Nat):Int):=by unfold cy;omega
 have m:cy S.T<=S.T.n:=Nat.sub_le _ _;rw[d,bq (n:=2*(S.T.aK:Int)) I I];refine⟨_,rfl,_,b,MJ _ _ b _ _,?_,Ext.trans a c⟩;rw[bq (n:=((cy S.T:Nat):Int)-2*(S.T.aK:Int)) I I,bq I I];unfold jk
 congr 1
 omega
end
def lp(c:Prop)(S aE:b_)(pages:O Nat)(L:O aP)(aL:O Nat)(bG:O aP)(v:aa)(w':J):Prop:=
 (v=.int .i64 0/\c/\dJ w' aE pages L pages L/\aE.failed=false/\aE.gen=S.gen+1/\aE.u.clock=S.now/\aE.u.dc=S.u.dc+1/\aE.pending=0)\/
 (v=.int .i64 3/\¬S.T.C.D.quiet/\dJ w' aE aL bG aL bG/\aE.failed=true/\aE.u=S.u/\aE.gen=S.gen/\(∀j,S.T.g j=true->aE.V j=S.V j)/\((∀j,S.T.g j=true->aE.T.C.D.eW j=[])\/(c/\Gd aE S.gen S.T.g pages L S.now (S.u.dc+1))))
theorem BR.x{S:b_}{pages aL:O Nat}{bG:O aP}(h:BR S pages L aL bG w v w')(hc:c):∃aE,ef 100 S aE w w'/\aE.now=S.now/\lp c S aE pages L aL bG v w':=by
 obtain⟨aE,h1,h2,a⟩:=h;refine⟨aE,h1,h2,?_⟩;obtain⟨a1,a2,a3⟩|⟨a1,a2,a3,a4,a5,dw,dj,dr⟩:=a
 .exact .inl ⟨a1,hc,a2,a3⟩
 .exact .inr ⟨a1,a2,a3,a4,a5,dw,dj,.inr ⟨hc,dr⟩⟩
theorem lp.val{S aE:b_}{pages aL:O Nat}{bG:O aP}(h:lp c S aE pages L aL bG v w'):∃n:Int,v=n:=by
 rcases h with ⟨a,_⟩|⟨a,_⟩<;>exact⟨_,a⟩
def nS(S aE:b_)(pages:O Nat)(L:O aP)(aL:O Nat)(bG:O aP)(v:aa)(w':J):Prop:=
 (v=.int .i64 0/\S.pending+1<S.l.batch/\dJ w' aE pages L aL bG/\aE.failed=false/\aE.gen=S.gen/\aE.u=S.u/\aE.pending=S.pending+1/\aE.first=(if S.pending=0 then S.now else S.first)/\∀j,S.T.g j=true->aE.V j=S.V j)\/
 lp (S.l.batch<=S.pending+1) S aE pages L aL bG v w'
section
variable {w w' w1:J}{T:aN}{S aE jM:b_}{pages aL:O Nat}{L bG:O aP}
theorem MM(b:kO w S aL bG)(t:S.failed=false)(ok:gN S.T pages L)(bN:pages.Nodup)(f:∀no,S.T.f no=true↔no∈pages\/no<2\/no=S.u.map)(two:∀x∈pages,2<=x/\x≠S.u.map)(kv:∀p∈L,cK p.1/\p.2.length<=24)
 (X:¬S.T.C.D.ro/\S.T.C.D.eW=(λ_=> [])/\1<=cy S.T) (Y:(S.keys:Int)+d=L.length) (au:S.pending<1000) (Z:L.length<4096) (av:S.keys<100000) (aa:S.T.C.D.aX<=800000000) (ab:S.gen<=1000000000) (ac:S.T.C.D.quiet):
 aH aj 68 #[.pointer (some S.st),d] w (λv w'=>∃aE,ef 100 S aE w w'/\aE.now=S.now/\nS S aE pages L aL bG v w'):=by
 refine okF (ae.wX (some S.st) d) ax.wX func68 ?_;(delta ae.wX r1 st ar ak bO bB;dsimp only);have N:=b.num;have aw:S.T.M S.st:=.inr (.inr (.inr (.inl b.es)));obtain⟨ay,az,g,y,z⟩:=b.set (i:=17) (x:=L.length) (by decide);refine⟨_,rfl,_,b.v.cell,_,rfl,ay,az,aT ?_⟩;rw[aA,cA,Y,bq (n:=(L.length:Int)) I I];generalize aB:w.setCell ⟨S.st,17,none⟩ L.length=ad at g y z⊢;obtain⟨m,s⟩:=U6 (if S.pending=0 then S.now else S.first)
 refine j2 (λk=>Var k S.st (jB S.T.bd S.T.C.D.d S.T.C.c S.T.sb S.l S.u S.gen S.now m S.pending L.length S.failed) 146/\b5 k S.T/\ag (λq=>q=S.st) w k) (λaC O=>?_) ?_
 .refine⟨_,rfl,_,g.cell,λA=>?_,λA=>O _ ⟨?_,y,z⟩⟩
  .have h0:S.pending=0:=by
    have:(S.pending:Int)=0:=by simpa using A
    omega
   obtain⟨B,E⟩:=ez g (i:=15) (by simp[b_.cells,jB]);have af:=eE g (i:=15) (.int .u64 (S.now:Int));have P:=dU ad S.st 15 (.int .u64 (S.now:Int));refine⟨_,rfl,_,g.cell,_,rfl,B,E,aT (O _ ⟨?_,?_,?_⟩)⟩
   .rw[aA,cA,s,if_pos h0];exact af
   .rw[aA,cA];exact y.lk b.es P
   .rw[aA,cA];exact z.trans P
  .have h0:¬S.pending=0:=by
    have:¬(S.pending:Int)=0:=by simpa using A
    omega
   rw[s,if_neg h0];exact g
 rintro k ⟨F,ah,ai⟩;obtain⟨B,E⟩:=ez F (i:=16) (by simp[jB]);have Q:=eE F (i:=16) (.int .i64 ((S.pending+1:Nat):Int));have G:=dU k S.st 16 (.int .i64 ((S.pending+1:Nat):Int));have am:IntKind.wrap .i64 ((S.pending:Int)+1)=((S.pending+1:Nat):Int):=by rw[bq I I];omega
 refine⟨_,rfl,_,F.cell,_,rfl,B,E,aT ?_⟩;rw[aA,cA,am];have R:=ah.lk b.es G;generalize aD:k.setCell ⟨S.st,16,none⟩ (.int .i64 ((S.pending+1:Nat):Int))=o at Q G R⊢;have H:Ext o o.drew:=cw _;have J:=Q.ext H;have an:=R.ext H;have ao:ag (λq=>q=S.st) w o.drew:=cE (ai.trans G) H λq _ K=>K.elim;obtain⟨cV,a⟩:∃cV:b_,cV={S with first:=m,pending:=S.pending+1,keys:=L.length}:=⟨_,rfl⟩;have ap:m<=S.now:=by rw[s];split<;>omega
 have U:dJ o.drew cV pages L aL bG:=by
  rw[a];exact⟨⟨J,an,b.es,b.kj,b.gen,⟨N.1,ap,N.2.2⟩,b.cl⟩,ok,bN,f,two,kv,rfl,by show S.pending+1<=1000;omega,λ_=>X,λhf=>by have hf:S.failed=true:=hf;rw[t]at hf;cases hf⟩
 have V:ef 0 S cV w o.drew:=by
  rw[a];exact⟨rfl,rfl,rfl,rfl,bk _,λh=>h,ao.mono λq _ e=>by rw[e];exact b.Gb,λq K=>.inl K,rfl,rfl,rfl⟩
 refine aT ⟨_,rfl,id,_,J.cell,_,rfl,id,_,by rw[aA,aA];exact J.cell,λr=>?_,λr=>?_⟩
 .have r:((S.pending+1:Nat):Int)>=(S.l.batch:Int):=b2 r
  have W:=Ge U (a▸t) Z (a▸aa) (a▸ab) (a▸ac);rw[show cV.st=S.st by rw[a]]at W;refine W.use ?_;intro v aF aq;obtain⟨aE,r1,cq,al⟩:=aq.x (c:=S.l.batch<=S.pending+1) I;obtain⟨n,rfl⟩:=al.val;refine⟨n,rfl,aE,(V.trans r1).mono I,by rw[cq,a],.inr ?_⟩;rw[a]at al;exact al
 .have r:¬((S.pending+1:Nat):Int)>=(S.l.batch:Int):=cr r
  exact⟨cV,V.mono I,by rw[a],.inl ⟨rfl,I,U,by rw[a];exact t,by rw[a],by rw[a],by rw[a],by rw[a];exact s,λj _=>by rw[a];rfl⟩⟩
theorem MN(h:dJ w S pages L aL bG)(a:L.length<4096)(b:S.T.C.D.aX<=800000000)(d:S.gen<=1000000000)(e:S.T.C.D.quiet):
 aH aj 28 #[.pointer (some S.st)] w (λv w'=>(S.failed=true/\v=.int .i64 8/\w=w')\/(S.failed=false/\∃aE,ef 100 S aE w w'/\aE.now=S.now/\lp True S aE pages L aL bG v w')):=by
 refine okF (ae.wK (some S.st)) ax.wK func28 ?_;(delta ae.wK ak aW bB;dsimp only);refine⟨nofun,λ_=>⟨_,rfl,S.failed,h.v.cell,λhf=>.inl ⟨hf,rfl,rfl⟩,λhf=>(Ge h hf a b d e).use ?_⟩⟩;intro v w' g;obtain⟨aE,r1,cq,al⟩:=g.x (c:=True) trivial;obtain⟨n,rfl⟩:=al.val;exact⟨n,rfl,.inr ⟨hf,aE,r1,cq,al⟩⟩
end
section
variable {w w' w1:J}{T aq:aN}{S aE jM:b_}{pages aL:O Nat}{L bG:O aP}{k:Nat}
def b_.c6(S:b_)(aq:aN):b_:={S with T:=aq}
theorem kO.to(h:kO w S aL bG)(ht:b5 w' aq)(a:bY S.T aq w w' k)(f:aq.E=S.T.E)(l:aq.G=S.T.G)(o:∀no,S.T.g no=true->aq.P no=S.T.P no):
 kO w' (S.c6 aq) aL bG/\ef k S (S.c6 aq) w w'/\(S.c6 aq).V=S.V:=by
 have r:aq.C.D.bJ=S.T.C.D.bJ:=congrArg (λp=>p.1.1) a.bJ;have s:aq.C.D.cu.getD 3 0=S.T.C.D.cu.getD 3 0:=congrArg Prod.snd a.bJ;have i:(S.c6 aq).V=S.V:=by
  funext j;show aq.C.D.bJ.getD j []=S.T.C.D.bJ.getD j [];rw[r]
 refine⟨⟨?_,ht,by show aq.E S.st;rw[f];exact h.es,?_,a.gen.trans h.gen,h.num,λj b=>?_⟩,⟨rfl,a.d,a.n,rfl,a.aX,λe=>⟨λm=>a.calm m (e.1 _),s.trans e.2⟩,a.ah.mono λq _ e=>h.o4 e,a.c1,f,l,congrArg (λp=>p.1.2.2.2.2) a.bJ⟩,i⟩
 .show Var w' S.st (jB aq.bd aq.C.D.d aq.C.c aq.sb _ _ _ _ _ _ _ _) _
  rw[a.bd,a.d,a.c,a.sb];exact h.v.ah a.ah (h.t.j_ h.es)
 .show iT _ aq.n _ _ aq.g aq.P _ _
  rw[i,a.n,a.g];exact h.kj.agree (λ_ _=>rfl) λx hx=>(o x ((h.kj.g x).2 (.inl hx))).symm
 .have b:aq.g j=true:=b
  rw[a.g]at b;show aq.C.D.cl j=true;rw[a.cl.1];exact h.cl j b
theorem bY.ro(h:bY T aq w w' k):aq.C.D.ro↔T.C.D.ro:=by unfold a8.ro;rw[h.cl.1]
theorem dJ.to(h:dJ w S pages L aL bG)(ht:b5 w' aq)(a:bY S.T aq w w' k)(c:aq.E=S.T.E)(d:aq.G=S.T.G)(b:jO S.T aq):
 dJ w' (S.c6 aq) pages L aL bG/\ef k S (S.c6 aq) w w'/\(S.c6 aq).V=S.V:=by
 obtain⟨h1,h2,i⟩:=h.tokO.to ht a c d λno j=>(b.eU no (by rw[j,Bool.or_true])).1;have l:cy aq=cy S.T:=by unfold cy;rw[a.n,b.f,a.g]
 refine⟨⟨h1,b.ok h.ok λx hx=>(h.f x).2 (.inl hx),h.bN,λno=>by show aq.f no=true↔_;rw[b.f];exact h.f no,h.two,h.kv,h.keys,h.nQ,λhf=>?_,λhf=>?_⟩,h2,i⟩
 .obtain⟨a1,a2,a3⟩:=h.live hf
  exact⟨λe=>a1 (a.ro.1 e),a.cl.2.trans a2,by show 1<=cy aq;rw[l];exact a3⟩
 .obtain⟨a1,a2⟩:=h.dead hf
  exact⟨a.ro.2 a1,a2⟩
theorem MO(h:dJ w S pages L aL bG)(b:S.T.C.D.aX<=800000000)(c:Src 1 w tk (aC key))(d:∀q,aD tk q->q<w/\¬S.T.M q):
 aH aj 50 #[.pointer (some S.st),tk] w (λv w'=>∃aM,dJ w' (S.c6 (S.T.bC aM S.T.P)) pages L aL bG/\ef 30 S (S.c6 (S.T.bC aM S.T.P)) w w'/\BC S.T L key w v w'):=by
 refine okF (ae.wO (some S.st) tk) ax.wO func50 ?_;delta ae.wO ak mF;refine⟨nofun,λ_=>⟨_,rfl,_,h.v.cell,(BD h.t h.ok b c d).use ?_⟩⟩;intro v w' a;have f:=a;obtain⟨aM,h1,h2,g,i⟩:=a;obtain⟨a1,a2,_⟩:=h.to h1 h2 rfl rfl (.bC g);have fin:(λv w'=>∃aM,dJ w' (S.c6 (S.T.bC aM S.T.P)) pages L aL bG/\ef 30 S (S.c6 (S.T.bC aM S.T.P)) w w'/\BC S.T L key w v w') v w':=⟨aM,a1,a2,f⟩;obtain⟨rfl,_⟩|⟨t,x,rfl,_⟩|⟨rfl,_⟩:=i
 .exact⟨⟨none,0,0⟩,_,_,rfl,fin⟩
 .exact⟨t,_,_,rfl,fin⟩
 .exact⟨⟨none,0,0⟩,_,_,rfl,fin⟩
end
theorem BS(k v:Key):∀L:O aP,(gX L k v).length=(e4 L k).length+1
 | []=>rfl
 |p::L=>by
  have b:=BS k v L
  unfold gX e4 at b⊢
  simp only[cz,fi,ie]at b⊢
  by_cases h1:bF p.1 k
  .have h2:¬bF k p.1:=kG h1
   have a:p.1≠k:=λe=>by rw[e]at h1;exact kG h1 h1
   rw[if_pos (dh h1),if_neg (by simpa using h2),if_pos (dh a)]
   simp only[fi];omega
  .by_cases h2:bF k p.1
   .have a:p.1≠k:=λe=>h1 (by rw[e]at h2;exact absurd h2 (λh=>kG h h))
    rw[if_neg (by simpa using h1),if_pos (dh h2),if_pos (dh a)]
    simp only[fi];omega
   .have a:p.1=k:=by
     rcases xZ p.1 k with h|h|h
     .exact absurd h h1
     .exact h
     .exact absurd h h2
    rw[if_neg (by simpa using h1),if_neg (by simpa using h2),if_neg (by simpa using a)];omega
theorem yS{k:Key}:∀ {L:O aP},il L->L.length=(e4 L k).length+(if fl L k=none then 0 else 1)
 | [],_=>rfl
 |p::L,h=>by
  have h0:=jV.1 h
  have d:=yS (k:=k) h0.2
  by_cases e:p.1=k
  .have h1:∀q∈L,q.1≠k:=λq b c=>by
    have:=h0.1 q b
    rw[e,c]at this
    exact kG this this
   have h2:e4 (p::L) k=L:=by
    have:e4 (p::L) k=e4 L k:=by unfold e4;rw[ie];simp[e]
    rw[this,uc h1]
   have a:fl (p::L) k≠none:=by unfold fl;simp[e]
   rw[h2,if_neg a];rfl
  .have h2:(e4 (p::L) k).length=(e4 L k).length+1:=by unfold e4;rw[ie];simp[e]
   have a:fl (p::L) k=fl L k:=by unfold fl;simp[e]
   rw[h2,a,fi];omega
section
variable {w w' w1:J}{T aq:aN}{S aE cC:b_}{pages aL:O Nat}{L bG:O aP}{k:Nat}
structure mg(S cC:b_):Prop where
 u:cC.u=S.u
 gen:cC.gen=S.gen
 now:cC.now=S.now
 first:cC.first=S.first
 pending:cC.pending=S.pending
 l:cC.l=S.l
 g:cC.T.g=S.T.g
 V:cC.V=S.V
theorem lp.back(h:lp c cC aE pages L aL bG v w')(e:mg S cC)(d:ef k S cC w w1):lp c S aE pages L aL bG v w':=by
 unfold lp at h⊢;rw[e.u,e.gen,e.now,e.g,e.V]at h;exact h.imp id λ⟨a,b,c⟩=>⟨a,λf=>b (d.q f),c⟩
theorem nS.back(h:nS cC aE pages L aL bG v w')(e:mg S cC)(a:ef k S cC w w1):nS S aE pages L aL bG v w':=by
 unfold nS at h⊢;have:=λh=>lp.back (pages:=pages) (L:=L) (aL:=aL) (bG:=bG) (c:=S.l.batch<=S.pending+1) (v:=v) (aE:=aE) (w':=w') h e a;rw[e.pending,e.l,e.gen,e.u,e.now,e.first,e.g,e.V]at h;exact h.imp id this
theorem dJ.Gi{cg:aN}{ek:O aP}(h:dJ w S pages L aL bG)(hf:S.failed=false)(m:b5 w' cg)(b:bY S.T cg w w' k)(o:cg.E=S.T.E)(r:cg.G=S.T.G)(s:FJ S.T cg pages ek)(Y:2*S.T.aK+5<=cy S.T)(t:∀p∈ek,cK p.1/\p.2.length<=24)(hd:(S.keys:Int)+d=ek.length)(y:ek.length<4096)(Z:S.keys<4096)(z:S.pending<1000)(aa:S.T.C.D.aX+k<=800000000)(A:S.gen<=1000000000)(B:S.T.C.D.quiet):
 aH aj 68 #[.pointer (some S.st),d] w' (λv i=>(∃n:Int,v=n)/\∃aE eC,ef (k+100) S aE w i/\aE.now=S.now/\nS S aE eC ek aL bG v i):=by
 obtain⟨⟨eC,ab,F,dd,H,I⟩,J⟩:=s;obtain⟨K,l,M⟩:=h.tokO.to m b o r λno N=>(J no N).1;have P:mg S (S.c6 cg):=⟨rfl,rfl,rfl,rfl,rfl,rfl,b.g,M⟩;obtain⟨Q,R,_⟩:=h.live hf;have U:∀j,j<2\/j=S.u.map->j∉pages:=λj c V=>by
  have:=h.two j V;obtain c|c:=c
  .omega
  .exact this.2 c
 refine(MM (d:=d) K hf F dd (λno=>(I no).trans ?_) (λx hx=>?_) t ⟨λe=>Q (b.ro.1 e),b.cl.2.trans R,by show 1<=cy cg;omega⟩ hd z y (by show S.keys<_;omega) (by have:=b.aX;show cg.C.D.aX<=_;omega) A (l.q B)).mono ?_
 .rw[h.f no]
  constructor
  .rintro(h1|⟨h1|h1,h2⟩)
   .exact .inl h1
   .exact absurd h1 h2
   .exact .inr h1
  .rintro(h1|h1)
   .exact .inl h1
   .exact .inr ⟨.inr h1,U no h1⟩
 .rcases H x hx with h1|h1
  .exact h.two x h1
  .have h2:S.T.f x=false:=by cases ac:S.T.f x<;>simp_all
   refine⟨Nat.le_of_not_lt λW=>?_,λX=>?_⟩
   .rw[(h.f x).2 (.inr (.inl W))]at h2;cases h2
   .rw[(h.f x).2 (.inr (.inr X))]at h2;cases h2
 .rintro v i ⟨aE,r1,cq,al⟩
  refine⟨?_,aE,eC,l.trans r1,cq,al.back P l⟩;obtain⟨a,_⟩|a:=al
  .exact⟨0,a⟩
  .exact a.val
theorem ry(w:J)(s:ad):aH aj 63 #[s] w (λv w'=>v=.bool (decide (1<=s.len/\s.len<=24))/\w=w'):=by
 refine okF (ae.ry s) ax.ry func63 ?_;refine⟨?_,rfl⟩
 congr 1
 rw[eG,dg,b8,b8,b8];omega
theorem MP{cY:ad}{val:Key}(h:dJ w S pages L aL bG)(aO:L.length<4000)(y:S.pending<1000)(aP:S.T.C.D.aX<=700000000)(W:S.gen<=1000000000)(z:S.T.C.D.quiet)
 (A:Src 1 w tk (aC key)) (o:∀q,aD tk q->q<w/\¬S.T.M q) (G:Src 1 w cY (aC val)) (H:∀q,aD cY q->q<w/\¬S.T.M q):
 aH aj 27 #[.pointer (some S.st),tk,cY] w (λv w'=>(v=.int .i64 1/\¬(cK key/\val.length<=24)/\w=w')\/((cK key/\val.length<=24)/\
  ((S.failed=true/\v=.int .i64 8/\w=w')\/(S.failed=false/\∃aE,ef 300 S aE w w'/\aE.now=S.now/\
    ((v=.int .i64 2/\jk S=0/\dJ w' S pages L aL bG/\aE=S)\/(jk S≠0/\∃eC,nS S aE eC (gX L key val) aL bG v w')))))):=by
 have X:tk.len=key.length:=by have:=A.len;rw[de]at this;omega
 have aQ:cY.len=val.length:=by have:=G.len;rw[de]at this;omega
 have aR:=h.t.s.bx;refine okF (ae.wJ (some S.st) tk cY) ax.wJ func27 ?_;(delta ae.wJ ak bP aW bB mF;dsimp only);refine cc (λb w'=>(b=false↔cK key)/\w=w') (λq a=>⟨nofun,λ_=>(ry w tk).use ?_⟩) ?_
 .rintro _ _ ⟨rfl,rfl⟩
  refine⟨_,rfl,a _ _ ⟨?_,rfl⟩⟩;unfold cK;rw[X,m7,b8]
 rintro b _ ⟨r,rfl⟩;refine⟨λh1=>.inl ⟨rfl,λhg=>?_,rfl⟩,λh1=>?_⟩
 .rcases Bool.or_eq_true_iff.1 h1 with h2|h2
  .rw[r.2 hg.1]at h2;cases h2
  .have:=b2 h2;have:=hg.2;omega
 have hg:cK key/\val.length<=24:=by
  have h2:=qH.1 h1;have J:=cr h2.2;exact⟨r.1 h2.1,I⟩
 refine⟨_,rfl,S.failed,h.v.cell,λhf=>.inr ⟨hg,.inl ⟨hf,rfl,rfl⟩⟩,λhf=>(Gh h).use ?_⟩;rintro _ aS ⟨rfl,i⟩;have l:=h.ext i;obtain⟨Y,Z,_⟩:=h.live hf;refine⟨_,rfl,λB=>.inr ⟨hg,.inr ⟨hf,S,(ef.ext S i).mono I,rfl,.inl ⟨rfl,?_,l,rfl⟩⟩⟩,λB=>?_⟩
 .have:((jk S:Nat):Int)=0:=by simpa using B
  omega
 have K:jk S≠0:=by
  have:¬((jk S:Nat):Int)=0:=by simpa using B
  omega
 refine⟨_,rfl,_,l.v.cell,(BD l.t l.ok I (A.ext i) λq a=>⟨U5 ((o q a).1) i.size,(o q a).2⟩).use ?_⟩;rintro v N ⟨c,O,j,aa,u⟩;obtain⟨m,E,ab⟩:=l.to O j rfl rfl (.bC aa);have Q:ef 30 S (S.c6 (S.T.bC c S.T.P)) w N:=((ef.ext S i).trans E).mono I;have ac:mg S (S.c6 (S.T.bC c S.T.P)):=⟨rfl,rfl,rfl,rfl,rfl,rfl,rfl,ab⟩;have aT:(S.c6 (S.T.bC c S.T.P)).T.C.D.eW=λ_=> []:=j.cl.2.trans Z;have aU:c.D.aX<=S.T.C.D.aX+30:=j.aX;have af:∃ (t:ad) (e:ao),v=.tuple #[t,e,U8]/\(e=true↔fl L key≠none):=by
  obtain⟨rfl,g⟩|⟨t,x,rfl,_,hs,_⟩|⟨_,_,F⟩:=u
  .exact⟨⟨none,0,0⟩,false,rfl,nofun,λh=>absurd (g hg.1) h⟩
  .exact⟨t,true,rfl,λ_=>by rw[hs];simp,λ_=>rfl⟩
  .exact absurd (z.1 30) F
 clear u;obtain⟨t,e,rfl,he⟩:=af;have aV:=i.size;have aY:=j.ah.size;have R:∀s:ad,(∀q,aD s q->q<w/\¬S.T.M q)->∀q,aD s q->q<N/\¬(S.T.bC c S.T.P).M q:=λs hs q a=>⟨U4 ((hs q a).1),λag=>by
  rcases j.c1 q ag with h2|h2
  .exact(hs q a).2 h2
  .have:=(hs q a).1;omega⟩
 have ai:=(A.ext i).ah j.ah λq a g=>(o q a).2 (aN.gD g);have am:=(G.ext i).ah j.ah λq a g=>(H q a).2 (aN.gD g);have an:¬(S.T.bC c S.T.P).C.D.ro:=λe=>Y (j.ro.1 e);refine⟨t,e,0,rfl,nofun,λ_=>⟨_,rfl,_,m.v.cell,?_⟩⟩;refine(LJ O an m.ok I m.bN (λx hx=>(m.f x).2 (.inl hx)) (by show c.D.aX<=_;omega) ai (R tk o) am (R cY H)).use ?_;rintro v aZ (⟨_,ap,_⟩|⟨_,_,cg,aq,ar,au,av,u⟩)
 .exact absurd hg ap
 have aw:cy (S.T.bC c S.T.P)=cy S.T:=rfl;have ay:(S.T.bC c S.T.P).aK=S.T.aK:=rfl;have az:2*S.T.aK+5<=cy S.T:=by unfold jk at K;omega
 obtain⟨_,aB,_⟩|⟨rfl,_,⟨eC,aF,aG,dd,aI,aJ⟩,U⟩|⟨rfl,F,a0,a1,a2,U⟩:=u
 .rw[aw,ay]at aB;omega
 .have hlen:(S.keys:Int)+(if e=true then 0 else 1)=(gX L key val).length:=by
   have h1:=BS key val L;have h2:=yS (k:=key) h.ok.rising;have J:=h.keys;by_cases g:fl L key=none
   .have:¬e=true:=λh=>he.1 h g
    rw[if_pos g]at h2;rw[if_neg this];omega
   .rw[if_neg g]at h2
    rw[if_pos (he.2 g)];omega
  have J:=h.keys;have aM:(gX L key val).length<4096:=by split at hlen<;>omega
  have V:=λd hd=>m.Gi (d:=d) hf aq ar au av ⟨⟨eC,aF,aG,dd,aI,aJ⟩,U⟩ az (λp y=>by
   rcases Jl.1 y with rfl|⟨h1,_⟩
   .exact hg
   .exact h.kv p h1) hd aM (by show S.keys<_;omega) y (by show c.D.aX+100<=_;omega) W (E.q z)
  refine⟨0,rfl,nofun,λ_=>⟨λht=>(V 0 (by rw[←hlen,if_pos ht];rfl)).use ?_,λht=>(V 1 (by rw[←hlen,if_neg (by rw[ht];decide)];rfl)).use ?_⟩⟩
  all_goals
   rintro v w' ⟨⟨n,rfl⟩,aE,eC,r1,cq,al⟩;exact⟨n,rfl,.inr ⟨hg,.inr ⟨hf,aE,(Q.trans r1).mono I,cq,.inr ⟨K,eC,al.back ac Q⟩⟩⟩⟩
 .exact absurd ((E.q z).1 100) F
end
section
variable {w w' w1:J}{T aq:aN}{S aE cC:b_}{pages aL:O Nat}{L bG:O aP}{k:Nat}
theorem MQ(h:dJ w S pages L aL bG)(aB:L.length<4000)(z:S.pending<1000)(aF:S.T.C.D.aX<=700000000)(U:S.gen<=1000000000)(A:S.T.C.D.quiet)
 (B:Src 1 w tk (aC key)) (m:∀q,aD tk q->q<w/\¬S.T.M q):
 aH aj 23 #[.pointer (some S.st),tk] w (λv w'=>(v=.tuple #[false,(1:Int)]/\¬cK key/\w=w')\/(cK key/\
  ((S.failed=true/\v=.tuple #[false,(8:Int)]/\w=w')\/(S.failed=false/\∃aE,ef 300 S aE w w'/\aE.now=S.now/\
    ((v=.tuple #[false,U8]/\fl L key=none/\dJ w' aE pages L aL bG/\mg S aE/\aE.failed=false)\/
     (v=.tuple #[false,(2:Int)]/\fl L key≠none/\jk S=0/\dJ w' aE pages L aL bG/\mg S aE/\aE.failed=false)\/
     (∃n:Int,v=.tuple #[.bool (n==0),n]/\fl L key≠none/\jk S≠0/\∃eC,nS S aE eC (e4 L key) aL bG n w')\/
     (v=.tuple #[false,(3:Int)]/\∀c pages L,lp c S aE pages L aL bG (3:Int) w')))))):=by
 have V:tk.len=key.length:=by have:=B.len;rw[de]at this;omega
 have aG:=h.t.s.bx;refine okF (ae.wH (some S.st) tk) ax.wH func23 ?_;(delta ae.wH ak bP aW mF bB kD;dsimp only);refine cc (λb w'=>(b=false↔cK key)/\w=w') (λq i=>⟨nofun,λ_=>(ry w tk).use ?_⟩) ?_
 .rintro _ _ ⟨rfl,rfl⟩
  refine⟨_,rfl,i _ _ ⟨?_,rfl⟩⟩;unfold cK;rw[V,m7,b8]
 rintro b _ ⟨o,rfl⟩;refine⟨λh1=>.inl ⟨rfl,λhg=>?_,rfl⟩,λh1=>?_⟩
 .rw[o.2 hg]at h1;cases h1
 have hg:cK key:=o.1 h1;refine⟨_,rfl,S.failed,h.v.cell,λhf=>.inr ⟨hg,.inl ⟨hf,rfl,rfl⟩⟩,λhf=>?_⟩;obtain⟨W,X,_⟩:=h.live hf;refine⟨_,rfl,_,h.v.cell,(BD h.t h.ok I B m).use ?_⟩;rintro v aI ⟨a,Y,j,Z,r⟩;obtain⟨E,u,aa⟩:=h.to Y j rfl rfl (.bC Z);have F:mg S (S.c6 (S.T.bC a S.T.P)):=⟨rfl,rfl,rfl,rfl,rfl,rfl,rfl,aa⟩;have aJ:(S.c6 (S.T.bC a S.T.P)).T.C.D.eW=λ_=> []:=j.cl.2.trans X;have aM:a.D.aX<=S.T.C.D.aX+30:=j.aX;have ab:∃ (t:ad) (e:ao),v=.tuple #[t,e,U8]/\(e=true↔fl L key≠none):=by
  obtain⟨rfl,g⟩|⟨t,x,rfl,_,hs,_⟩|⟨_,_,G⟩:=r
  .exact⟨⟨none,0,0⟩,false,rfl,nofun,λh=>absurd (g hg) h⟩
  .exact⟨t,true,rfl,λ_=>by rw[hs];simp,λ_=>rfl⟩
  .exact absurd (A.1 30) G
 clear r;obtain⟨t,e,rfl,he⟩:=ab;refine⟨t,e,0,rfl,nofun,λ_=>⟨λH=>?_,λH=>(Gh E).use ?_⟩⟩
 .have g:fl L key=none:=by
   cases ac:fl L key with
   |none=>rfl
   |some x=>
    have:e=true:=he.2 (by rw[ac];simp);rw[this]at H;cases H
  exact .inr ⟨hg,.inr ⟨hf,_,u.mono I,rfl,.inl ⟨rfl,g,E,F,hf⟩⟩⟩
 have g:fl L key≠none:=he.1 (by cases e<;>simp_all);rintro _ Q ⟨rfl,y⟩;have l:=E.ext y;have J:ef 30 S (S.c6 (S.T.bC a S.T.P)) w Q:=(u.trans (ef.ext _ y)).mono I;have af:jk (S.c6 (S.T.bC a S.T.P))=jk S:=rfl;rw[af];refine⟨_,rfl,λK=>.inr ⟨hg,.inr ⟨hf,_,J.mono I,rfl,.inr (.inl ⟨rfl,g,?_,l,F,hf⟩)⟩⟩,λK=>?_⟩
 .have:((jk S:Nat):Int)=0:=by simpa using K
  omega
 have R:jk S≠0:=by
  have:¬((jk S:Nat):Int)=0:=by simpa using K
  omega
 have aO:=j.ah.size;have aP:=y.size;have ag:∀q,aD tk q->q<Q/\¬(S.T.bC a S.T.P).M q:=λq i=>⟨U4 ((m q i).1),λai=>by
  rcases j.c1 q ai with h2|h2
  .exact(m q i).2 h2
  .have:=(m q i).1;omega⟩
 have am:=(B.ah j.ah λq i g=>(m q i).2 (aN.gD g)).ext y;have an:¬(S.T.bC a S.T.P).C.D.ro:=λe=>W (j.ro.1 e);refine⟨_,rfl,_,l.v.cell,?_⟩;refine(LM l.t an l.ok I l.bN (λx hx=>(l.f x).2 (.inl hx)) (by show a.D.aX<=_;omega) am ag).use ?_;rintro v aQ ⟨cg,ap,aq,ar,au,r⟩;have av:cy (S.T.bC a S.T.P)=cy S.T:=rfl;have aw:(S.T.bC a S.T.P).aK=S.T.aK:=rfl;have ay:2*S.T.aK+5<=cy S.T:=by unfold jk at R;omega
 obtain⟨_,N,_⟩|⟨_,_,N,_⟩|⟨_,_,_,O,_⟩|⟨rfl,_,_,_,az⟩|⟨rfl,_,G,aR⟩:=r
 .exact absurd hg N
 .exact absurd N g
 .have O:cy (S.T.bC a S.T.P)<2*(S.T.bC a S.T.P).aK+3:=O
  rw[av,aw]at O;omega
 .have h2:=yS (k:=key) h.ok.rising
  rw[if_neg g]at h2;have aS:=h.keys;refine⟨true,0,rfl,nofun,λ_=>(l.Gi (d:= -1) hf ap aq ar au az ay (λp z=>h.kv p (gw.1 z).1) (by show(S.keys:Int)+ -1=_;omega) I (by show S.keys<_;omega) z (by show a.D.aX+100<=_;omega) U (u.q A)).use ?_⟩;rintro v w' ⟨⟨n,rfl⟩,aE,eC,r1,cq,al⟩;exact⟨n,rfl,.inr ⟨hg,.inr ⟨hf,aE,(J.trans r1).mono I,cq,.inr (.inr (.inl ⟨n,rfl,g,R,eC,al.back F J⟩))⟩⟩⟩
 .exact absurd ((u.q A).1 100) G
theorem MR{gd fW:ad}{fr to:Key}{most:Int}(h:dJ w S pages L aL bG)(n:L.length<=4000)(o:S.T.C.D.aX<=800000000)(p:pages.length<=4000)
 (hf:Src 1 w gd (aC fr)) (b:∀q,aD gd q->q<w/\¬S.T.M q) (ht:Src 1 w fW (aC to)) (c:∀q,aD fW q->q<w/\¬S.T.M q) (d:to.length<=1000000):
 aH aj 102 #[.pointer (some S.st),gd,fW,most] w (λv w'=>∃aq,dJ w' (S.c6 aq) pages L aL bG/\ef (2*pages.length) S (S.c6 aq) w w'/\mg S (S.c6 aq)/\bY S.T aq w w' (2*pages.length)/\
  ((∃s:ad,v=.tuple #[s,U8]/\fF (λq=>¬aq.M q) w' s ((hC L fr to).take most.toNat))\/(v=.tuple #[(),(3:Int)]/\¬S.T.C.D.calm (2*pages.length)))):=by
 refine okF (ae.w8 (some S.st) gd fW most) ax.w8 func102 ?_;delta ae.w8 ak dH;refine⟨nofun,λ_=>⟨_,rfl,_,h.v.cell,(L1 h.t h.ok I I hf b ht c d).use ?_⟩⟩;rintro v w' ⟨aq,i,a,j,k⟩;obtain⟨a1,a2,a3⟩:=h.to i a.to a.E j ⟨a.root,a.aK,a.f,λno _=>⟨congrFun a.P no,a.view no⟩⟩;have hs:mg S (S.c6 aq):=⟨rfl,rfl,rfl,rfl,rfl,rfl,a.to.g,a3⟩;obtain⟨s,rfl,l⟩|⟨rfl,m⟩:=k
 .exact⟨s,0,rfl,aq,a1,a2,hs,a.to,.inl ⟨s,rfl,l⟩⟩
 .exact⟨⟨none,0,0⟩,3,rfl,aq,a1,a2,hs,a.to,.inr ⟨rfl,m⟩⟩
end
theorem ints_at{l:O Nat}(h:Src 1 w s (ej l))(hi:i<l.length):∃A:af,s.a=some A/\((0:Int)<=(i:Int)/\(i:Int)<(s.len:Int))/\w.cell? (A.add (Int.toNat (i:Int)*1))=some (.int .i64 ((l[i]:Nat):Int)):=by
 obtain⟨A,av,b,hc⟩:=h.at (i:=i) (v:=.int .i64 ((l[i]:Nat):Int)) (by simp[ej,hi]);exact⟨A,av,b,hc⟩
theorem MS{t u:ad}{l m:O Nat}(c:Src 1 w t (ej l))(d:Src 1 w u (ej m))(K:l.length<=100000):aH aj 141 #[t,u] w (λv w'=>v=.bool (decide (l=m))/\Ext w w'):=by
 refine okF (ae.wu t u) ax.wu func141 ?_;(delta ae.wu ak aO r1 ar;dsimp only);have o:=c.len;have p:=d.len;rw[oQ]at o p;refine⟨λa=>⟨?_,.refl _ _⟩,λq=>?_⟩
 .simp only[bne_iff_ne]at a
  have:l≠m:=λe=>a (by subst e;omega);rw[gS this]
 simp only[bne_eq_false_iff_eq]at q;have r:l.length=m.length:=I
 refine⟨λn w'=>∃i:Nat,n=i/\i<=l.length/\Ext w w'/\∀ (j:Nat) (h1:j<l.length) (h2:j<m.length),j<i->l[j]=m[j],λn _=>((l.length:Int)-n).toNat,⟨0,rfl,cI _,.refl _ _,λj _ _ h=>I⟩,?_⟩;rintro _ s ⟨i,rfl,hi,f,g⟩;refine⟨λaI=>aT ?_,λx=>⟨?_,f⟩⟩
 .have aI:i<l.length:=U4 (b2 aI)
  have y:i<m.length:=I
  have b:Ext w s.drew:=ag.drew f;obtain⟨A,av,z,C⟩:=ints_at (c.ext b) aI;obtain⟨B,D,E,F⟩:=ints_at (d.ext b) y;have G:IntKind.wrap .i64 ((i:Int)+1)=((i+1:Nat):Int):=by rw[bq I I];rfl
  have H:((l.length:Int)-((i+1:Nat):Int)).toNat<((l.length:Int)-(i:Int)).toNat:=I
  rw[G];refine⟨A,av,z,id,_,C,B,D,E,id,_,F,λa=>⟨?_,b⟩,λhe=>⟨⟨i+1,rfl,aI,b,λj h1 h2 L=>?_⟩,H⟩⟩
  .have a:l[i]≠m[i]:=λe=>by rw[e]at a;simp at a
   have:l≠m:=λe=>a (by subst e;rfl);rw[gS this]
  .rcases dV j i with k|k
   .exact g j h1 h2 k
   .obtain rfl:j=i:=I
    have he:((l[j]:Nat):Int)=((m[j]:Nat):Int):=by simpa using he
    omega
 .have hi:i=l.length:=U4 (cr x)
  rw[dh (mw r λj h1 h2=>g j h1 h2 I)]
theorem Gj:∀ {a b:O Nat},ej a=ej b->a=b
 | [],[],_=>rfl
 | [],_::_,h=>by cases h
 |_::_,[],h=>by cases h
 |x::a,y::b,h=>by
  have h1:=List.cons.inj h
  have h2:Value.int .i64 (x:Int)=Value.int .i64 (y:Int):=h1.1
  injection h2 with _ h2
  rw[Gj (a:=a) (b:=b) h1.2,show x=y from I]
def BT(f:Nat->ao)(n:Nat):O Nat:=(List.range n).filter f
theorem BU(f:Nat->ao):∀n,nG f n=ej (BT f n)
 |0=>rfl
 |n+1=>by
  have a:=BU f n
  unfold nG ej BT at a⊢
  rw[List.range_succ,gE,fP,←a]
  show(kK f n++(if f n then [(n:Int)] else [])).map _=_
  rw[fP]
  cases hf:f n<;>simp[hf]
section
variable {w w' w1:J}{S aE cC:b_}{pages aL:O Nat}{L bG:O aP}{k:Nat}
theorem MT{fM:Nat->au aG}{m:Int}(Q:Var w S.st S.cells 146)(ht:b5 w S.T)(es:S.T.E S.st)(ao:gN (S.T.bC S.T.C fM) pages L)(ap:∀x∈pages,∀bN,fM x=some bN->S.T.P x=some bN\/lj S.T x)(dd:pages.Nodup)
 (hf:∀no,S.T.f no=true↔no∈pages\/no<2\/no=S.u.map) (two:∀x∈pages,2<=x/\x≠S.u.map) (a6:2<=S.u.map/\S.u.map<S.T.n) (a7:L.length<=4000) (ar:pages.length<=4000) (a8:S.T.C.D.aX<=900000000):
 aH aj 72 #[.pointer (some ⟨S.st,0,none⟩),.int .i64 m] w (λv w'=>∃aq,b5 w' aq/\da S.T aq w w' (2*pages.length)/\aq.G=S.T.G/\
  ((v=.int .i64 0/\m=L.length/\∀x∈pages,S.T.P x=fM x)\/(∃e:Int,v=.int .i64 e/\e≠0/\(¬S.T.C.D.calm (2*pages.length)\/(∃x∈pages,lj S.T x)\/m≠L.length)))):=by
 refine okF (ae.wZ (some ⟨S.st,0,none⟩) m) ax.wZ func72 ?_;(delta ae.wZ tq ak r1 Y fI bH bP;dsimp only);have R:∀x∈pages,S.T.f x=true/\x<S.T.n:=λx hx=>⟨(hf x).2 (.inl hx),Nat.lt_of_not_le λe=>by
  have:=ht.s.pf x e;rw[(hf x).2 (.inl hx)]at this;cases this⟩
 refine⟨_,rfl,_,Q.cell,(L_ ht ao R ap dd I I I).use ?_⟩;rintro v j ⟨aq,U,g,p,av⟩;have aw:∃ (s:ad) (es:O Nat) (n e:Int),v=.tuple #[.slice s.a s.len s.cap,.int .i64 n,.int .i64 e]/\aR 1 3 j s (ej es)/\es.length<=4000/\(∀q,aD s q->S.T.N q\/w<=q)/\b5 j (aq.cx S.T.E λq=>S.T.G q\/aD s q)/\
  ((n=L.length/\e=0/\es.Perm pages/\∀x∈pages,S.T.P x=fM x)\/(e≠0/\(¬S.T.C.D.calm (2*pages.length)\/∃x∈pages,lj S.T x))):=by
  obtain⟨s,es,rfl,t,z,_,aB,aC,aE⟩|⟨e,rfl,aF,aI⟩:=av
  .exact⟨s,es,_,0,rfl,t,by rw[z.length_eq];exact ar,λq c=>(aB q c).1,aE,.inl ⟨rfl,rfl,z,aC⟩⟩
  .refine⟨bM,[],0,e,rfl,aR.none _ _ _,by simp,λq c=>(fH q c).elim,U.grow (W:=λ_=>False) (ag.refl _ _) (λ_ h=>h.elim) (λq c=>.inl (g.E▸c)) (λq c=>.inr (.inl (by rw[p];exact c.resolve_right λh=>fH q h))) (λq c hg=>(ht.dv q c).2.2 (hg.resolve_right λh=>fH q h)),.inr ⟨aF,aI.imp And.right id⟩⟩
 obtain⟨s,es,n,e,rfl,t,a9,aJ,X,A⟩:=aw;refine⟨s,n,e,rfl,λd=>?_,λd=>?_⟩
 .have d:e=3:=by simpa using d
  refine⟨aq,U,g,p,.inr ⟨e,rfl,I,?_⟩⟩;obtain⟨_,B,_⟩|⟨_,B⟩:=A
  .omega
  .exact B.imp id .inl
 have Z:=Q.ah g.to.ah (ht.j_ (by assumption));refine⟨_,rfl,_,by rw[aA,aA];exact Z.cell,aT ?_⟩;have H:Ext j (j.alloc (.cells #[.int .i64 0,.int .i64 1,.int .i64 ((S.u.map:Nat):Int)] 3)):=c5 _ _;have a_:s.len=es.length:=by have:=t.1;rw[oQ]at this;omega
 obtain⟨aa,ab,ay,az,ba,aK,aL⟩:=qf.append (cB:=72) (x:=⟨some ⟨j,0,none⟩,3,3⟩) (Src.new (T:=3) j [.int .i64 0,.int .i64 1,.int .i64 ((S.u.map:Nat):Int)] 3 rfl) (t.ext H) (AO [0,1,S.u.map]) (by show(2*(s.len+3)+1000)*8<=_;omega);have aM:aR 1 3 ab aa (ej (es++ [0,1,S.u.map])):=by
  have e:ej (es++ [0,1,S.u.map])=ej es++ [.int .i64 0,.int .i64 1,.int .i64 ((S.u.map:Nat):Int)]:=by unfold ej;rw[fP];rfl
  rw[e];exact az
 refine⟨aa,ab,ay,(EP aM (by simp;omega)).use ?_⟩;rintro _ F ⟨rfl,aN,r,aO,ac,aP⟩;have J:ag (aD s) j F:=cE (cE (ag.refl _ _) (H.mono λ_ _ h=>h.elim) (V:=aD s) (λq _ h=>h)|>.trans aK) aN λq aQ c=>(aL q c).resolve_right (U4 H.size);have bb:=g.to.ah.size;have fv:aq.cx S.T.E S.T.G=aq:=by rw[←g.E,←p];rfl
 have K:b5 F aq:=by
  have:=X.grow (E:=S.T.E) (G:=S.T.G) J (λq c _=>.inr (.inr c)) (λq c=>.inl c) (λq c=>.inr (.inl (.inl c))) λq c=>(ht.dv q c).2.2;rw[←fv];exact this
 have aS:da S.T aq w F (2*pages.length):={g with to:=g.to.step (E:=aq.E) (G:=aq.G) J (λq c aQ=>(aJ q c).resolve_right I) (λq c=>.inl c) λq c=>.inl c};have aU:¬aD s S.st:=λc=>(X.dv S.st (by assumption)).2.2 (.inr c);have aV:=Z.ah J aU;refine⟨rfl,cc (λb w'=>((b=true->e≠0\/n≠m)/\(b=false->e=0/\n=m))/\Ext F w') (λq c=>⟨λk=>c _ _ ⟨⟨λ_=>?_,nofun⟩,.refl _ _⟩,λk=>?_⟩) ?_⟩
 .rcases Bool.or_eq_true_iff.1 k with h1|h1
  .exact .inl (by simpa using h1)
  .exact .inr (by simpa using h1)
 .obtain⟨h1,h2⟩:=qH.1 k
  have h1:e=0:=by simpa using h1
  have h2:n=m:=by simpa using h2
  have hu:=K2 K.s;rw[g.to.sb,g.to.n,g.f]at hu;refine⟨_,rfl,_,aV.cell,hu.use ?_⟩;rintro _ bc ⟨aW,rfl,af,ai,_⟩;have aY:r.length<=100000:=by rw[ac.length_eq];simp;omega
  rw[BU]at af;refine⟨aW,rfl,(MS (aO.ext ai).src af.src aY).use ?_⟩;rintro _ bd ⟨rfl,aZ⟩;have a0:r=BT S.T.f S.T.n:=by
   obtain⟨_,_,z,_⟩|⟨d,_⟩:=A
   rotate_left
   .exact absurd h1 d
   have al:r.Perm (pages++ [0,1,S.u.map]):=ac.trans (z.append_right _);have a1:(pages++ [0,1,S.u.map]).Nodup:=by
    refine o8.2 ⟨dd,by simp;omega,λx hx y o e=>?_⟩;have:=two x hx;subst e;simp only[cZ,e2,e_]at o;obtain o|o|o:=o
    .omega
    .omega
    .exact this.2 o
   have a2:r.Nodup:=al.nodup_iff.2 a1;have a3:r.Pairwise λa b=>a<b:=(aP.and a2).imp λh=>U5 h.1 h.2
   have am:=Mc (f:=S.T.f) (n:=S.T.n) a3 λx=>by
    rw[al.mem_iff,cR,hf x];simp only[cZ,e2,e_];constructor
    .rintro(i|i|i|i)
     .exact⟨(R x i).2,.inl i⟩
     .exact⟨I,.inr (.inl I)⟩
     .exact⟨I,.inr (.inl I)⟩
     .exact⟨I,.inr (.inr i)⟩
    .rintro⟨_,i|i|i⟩
     .exact .inl i
     .exact .inr I
     .exact .inr I
   rw[BU]at am;exact Gj am
  exact⟨_,rfl,c _ _ ⟨⟨λh=>(by rw[dh a0]at h;cases h),λ_=>⟨h1,h2⟩⟩,Ext.trans ai aZ⟩⟩
 .rintro b be ⟨⟨a4,a5⟩,M⟩
  have an:=(aS.trans (da.ext aq M)).mono (l:=2*pages.length) I;refine⟨λk=>⟨aq,K.ext M,an,p,.inr ⟨4,rfl,by decide,?_⟩⟩,λk=>⟨aq,K.ext M,an,p,.inl ⟨rfl,?_⟩⟩⟩
  .obtain⟨h1,h2,_⟩|⟨_,h2⟩:=A
   .rcases a4 k with d|d
    .exact absurd h2 d
    .exact .inr (.inr (by rw[←h1];exact λe=>d e.symm))
   .exact h2.imp id .inl
  .obtain⟨h1,h2⟩:=a5 k
   obtain⟨d,_,_,B⟩|⟨d,_⟩:=A
   .exact⟨by rw[←h2];exact d,B⟩
   .exact absurd h1 d
end
variable {w w':J}
theorem Ext.MU(h:Go.RowKit.Below w w w'):Ext w w':=⟨h.os,h.tape,h.output,h.size,λk a _=>h.block k a⟩
theorem aR.MV{sz:Nat}{T:TypeId}{base:Nat}{xs:O aa}(h:w.ownsRow base T sz v n xs):∃s:ad,v=s/\aR sz T w s xs/\s.len=n/\∀q,aD s q->base<=q:=by
 obtain⟨h1,⟨rfl,rfl⟩|⟨g,cap,f,rfl,b,hg,h2,c,d,e⟩⟩:=h
 .have:xs=[]:=mo.1 I
  subst this;exact⟨⟨none,0,0⟩,rfl,aR.none _ _ _,rfl,λq a=>(fH q a).elim⟩
 .refine⟨⟨some g,n,cap⟩,rfl,aR.mk' hg h1 h2 c d e,rfl,λq a=>?_⟩
  rw[←jr.1 a];exact b
def uL:aa->au (DataW Unit×O MemPlace):=λ_=>some (.lit (.bool true),[])
theorem MW{M:O (Int×aa)}(h:eK w q encZ M)(u:M.length<=1000000)(j:∀x∈M, -9223372036854775808<=x.1/\x.1<=9223372036854775807):
 ∃D:DataW Unit,w.ownsMap aj 3 uL q M.length D/\(intKeys D).Perm (M.map (·.1))/\Maps.size D=M.length:=by
 obtain⟨L,f,l,h1,h2,m,n⟩:=h;have c:L.length=M.length:=by rw[←h1.length_eq,cU]
 have o:∀x∈L, -9223372036854775808<=x.1/\x.1<=9223372036854775807:=λx hx=>j (mE x) (h1.mem_iff.1 (eJ.2 ⟨x,hx,rfl⟩));have g:∀x∈L,Go.WideElems.rd aj 3 uL (ec encZ x)=some (.int .i64 x.1,.lit (.bool true)):=λx hx=>by
  have r:(Lit.int .i64 x.1).wf=true:=by
   have:=o x hx;simp[Lit.wf,IntKind.min,IntKind.max,IntKind.signed,IntKind.bits];omega
  exact Go.WideElems.rd_mk (R:=uL) (yv:=(.lit (.bool true),[])) (Maps.keyOf_int_mk (k:=3) U3 r) rfl
 have i:((L.map (ec encZ)).map (Go.WideElems.rg aj 3 uL))=L.map λx=>(Lit.int .i64 x.1,DataW.lit (.bool true)):=by
  rw[iW];refine u9 λx hx=>?_;have:=Go.WideElems.rg_of (g x hx);simp only[Function.comp_apply];exact this
 have s:Go.WideElems.Fit aj 3 uL (L.map (ec encZ)).toArray f:=by
  refine⟨by simp[c];unfold maxLen;omega,⟨λx hx=>?_,?_,?_⟩,λx hx=>?_⟩
  .obtain⟨y,d,rfl⟩:=eJ.1 (by simpa using hx:x∈L.map (ec encZ))
   exact n y d
  .simp only[iW]
   exact m
  .simp only[iW]
   have:((λe:MapEntry=>e.key)∘ec encZ)=λx:Int×aa×Nat=>encZ x.1:=rfl;show(L.map ((λe:MapEntry=>e.key)∘ec encZ)).Nodup;rw[this];have e:(L.map λx:Int×aa×Nat=>encZ x.1)=(L.map (·.1)).map encZ:=by rw[iW];rfl
   rw[e];exact List.Pairwise.map encZ (λa b t he=>t (by cases he;rfl)) h2
  .obtain⟨y,d,rfl⟩:=eJ.1 (by simpa using hx:x∈L.map (ec encZ))
   exact⟨_,g y d⟩
 have gx:=Go.WideShapes.sorted_perm (L.map λx=>(Lit.int .i64 x.1,(DataW.lit (.bool true):DataW Unit)));refine⟨_,⟨_,f,l,s,by simp[c],rfl⟩,?_,?_⟩
 .simp only[i]
  show(List.map (λp:Lit×DataW Unit=>Go.intOf p.1) _).Perm _;refine(gx.map _).trans ?_;rw[iW];have:=h1.map (·.1);rw[iW]at this;exact this
 .simp only[i]
  show List.length _=_;rw[gx.length_eq,cU,c]
theorem MX(m:Nat):AnyZI.SortsIn aj EN Fence.wide m:=
 ⟨λbE off cap a W b c d=>callsIn_wide.2 (AnyM.slices_Sort_int yw bE off cap a W b c d),λp cap W=>callsIn_wide.2 (AnyM.slices_Sort_int_none yw p cap W)⟩
theorem MY{M:O (Int×aa)}(h:eK w q encZ M)(i:M.length<=1000000)(j:∀x∈M, -9223372036854775808<=x.1/\x.1<=9223372036854775807):
 aH aj 132 #[.func (.func 189) #[] #[.pointer (some w)]] (w.alloc (.cells #[.map (some q)] 125))
  (λv w'=>∃ (s:ad) (ids:O Int),v=s/\aR 1 3 w' s (ids.map encZ)/\s.len=ids.length/\ids.Perm (M.map (·.1))/\ids.Pairwise (λa b=>decide (a<=b)=true)/\Ext w w'/\∀k,aD s k->w<=k):=by
 have d:Ext w (w.alloc (.cells #[.map (some q)] 125)):=ag.alloc (.refl _ _) _;have E:(w.alloc (.cells #[.map (some q)] 125)).heap.size=w+1:=by simp
 obtain⟨D,l,m,f⟩:=MW (h.ext d) i j;have n:=AnyZI.keys_gives (ρ:=EM) {Ku with} Fence.wide 2 trivial rfl I w q M.length D (w.alloc (.cells #[.map (some q)] 125)) I U9 l;have o:=AnyZI.sorted_in Kv Fence.wide 5 trivial trivial trivial trivial rfl I (MX _) (enters_of func140 U3 rfl) 189 #[.pointer (some w)] trivial (enters_of func189 U3 rfl) _ _ (by rw[f];unfold maxLen;omega) (by rw[f];omega) _ n;have p:=callsIn_wide.1 (o.mono (R':=λe w'=>∃v,e=.returned v/\∃ (s:ad) (ids:O Int),v=s/\aR 1 3 w' s (ids.map encZ)/\s.len=ids.length/\ids.Perm (M.map (·.1))/\ids.Pairwise (λa b=>decide (a<=b)=true)/\Ext w w'/\∀k,aD s k->w<=k) ?_)
 .exact p
 .rintro e ai ⟨v,g,rfl,r,t,_,u⟩
  obtain⟨s,rfl,z,A,B⟩:=aR.MV t;refine⟨_,rfl,s,g.mergeSort (λx y=>decide (x<=y)),rfl,z,by rw[A,List.length_mergeSort],?_,?_,Ext.trans d (Ext.MU u),λk C=>U4 (B k C)⟩
  .exact(List.mergeSort_perm _ _).trans (r.trans m)
  .exact List.pairwise_mergeSort (λa b c h1 h2=>by simp only[b8]at*;omega) (λa b=>by simp only[jE,b8];omega) g
theorem BV:∀ (n:Nat) {l:O Nat},l.Nodup->(∀x∈l,x<n)->l.length<=n
 |0,l,_,h=>by
  cases l with
  |nil=>exact bk _
  |cons x l=>exact absurd (h x U9) (Nat.not_lt_zero _)
 |n+1,l,a,h=>by
  by_cases b:n∈l
  .have h1:=BV n (l:=l.erase n) (a.erase n) λx hx=>by
    have h2:=(a.mem_erase_iff).1 hx
    have:=h x h2.2
    have:=h2.1
    omega
   rw[List.length_erase_of_mem b]at h1
   omega
  .have:=BV n a λx hx=>by
    have h1:=h x hx
    have h2:x≠n:=λe=>b (e▸hx)
    omega
   omega
section
variable {D:a8}
theorem cL.Gk(h:cL w D):(D.waits.map h7.i).Nodup:=by
 have h1:=h.m.keys;rw[iW]at h1;refine(List.pairwise_map.1 h1:D.waits.Pairwise _).imp (λa e=>a ?_)|>List.pairwise_map.2;exact congrArg (λn:Nat=>(n:Int)) e
theorem cL.Gl(h:cL w D):D.waits.length<=1600:=by
 have h1:=BV D.n h.Gk λx hx=>by
  obtain⟨y,a,rfl⟩:=eJ.1 hx;exact(h.wn y a).2.1
 have:=h.bx;rw[cU]at h1;omega
theorem MZ(h:cL w D):aH aj 69 #[.pointer (some D.d)] w
 (λv w'=>∃ (s:ad) (ids:O Int),v=s/\aR 1 3 w' s (ids.map encZ)/\ids.Perm (D.waits.map λx=>(x.i:Int))/\Ext w w'/\∀k,aD s k->w<=k):=by
 refine okF (ae.wY (some D.d)) ax.wY func69 ?_;delta ae.wY Dq bH;refine⟨_,rfl,_,h.gg,?_⟩;refine Calls.mono (ae.HS (some D.mr) w (λv w'=>v=.func (.func 189) #[] #[.pointer (some w)]/\w.alloc (.cells #[.map (some D.mr)] 125)=w') ⟨rfl,rfl⟩) ?_;rintro _ _ ⟨_,rfl,rfl,rfl⟩;have dd:D.waits.length<=1000000:=U4 h.Gl
 refine⟨⟨189,#[],#[.pointer (some w)]⟩,rfl,(MY h.m (by rw[cU];exact dd) (λx hx=>?_)).use ?_⟩
 .obtain⟨y,a,rfl⟩:=eJ.1 hx
  have:=(h.wn y a).2.1;have:=h.bx;show _<=(y.i:Int)/\(y.i:Int)<=_;omega
 .rintro _ e ⟨s,ids,rfl,h1,_,h2,_,b,c⟩
  refine⟨s,rfl,s,ids,rfl,h1,?_,b,c⟩;rw[iW]at h2;exact h2
end
variable {w w':J}{D:a8}
theorem Gm(a b:Int)(w:J)(T:TypeId)(k:IntKind):Sem.run aj (Builtin.min_ #[T,T] T #[.int k a,.int k b]) w=.ok (.int k (min a b)) w:=by
 simp only[Builtin.min_];unfold Builtin.min2;simp;split<;>omega
theorem cL.M0(h:cL w D)(hi:i<D.n){x:c7}(hx:x.length=256):bp w ⟨D.lb,i*256,none⟩ (aC x)/\cL (setCells w ⟨D.lb,i*256,none⟩ 0 (aC x)) {D with bJ:=D.bJ.set i x}/\ag (λq=>q=D.lb) w (setCells w ⟨D.lb,i*256,none⟩ 0 (aC x)):=by
 obtain⟨b1,cf,a⟩:=F0 h.l h.sl hi hx;refine⟨b1,?_,a⟩;generalize setCells w ⟨D.lb,i*256,none⟩ 0 (aC x)=j at cf a;have b:D.d≠D.lb:=h.a1.1;refine⟨?_,cf,h.m.ah a λe=>h.a1.2.2 e.symm,λx hx=>(h.ws x hx).ah a λq f e=>(h.a2 x hx).2.1 (e▸f),?_,λs hs=>?_,h.lK,?_,?_,h.f4,h.fr,h.a1,h.a2,h.a3,h.r⟩
 .have h1:=h.v.ah a b
  have e:({D with bJ:=D.bJ.set i x}:a8).c=D.c:=by unfold a8.c;simp
  rw[e];exact h1
 .intro z g
  have:=h.wn z g;refine⟨this.1,?_,this.2.2⟩;show z.i<(D.bJ.set i x).length;rw[dp];exact this.2.1
 .rcases m_ hs with h1|rfl
  .exact h.sl s h1
  .exact hx
 .show 16<=(D.bJ.set i x).length;rw[dp];exact h.b6
 .show(D.bJ.set i x).length<=1600;rw[dp];exact h.bx
theorem Src.qq{sz:Nat}{vs:O aa}{W:U1}(h:Src sz w s vs)(hc:ag W w w')(d:∀k,aD s k->W k->vs=[]):Src sz w' s vs:=⟨h.len,h.nil,λa b=>by
 by_cases c:vs=[]
 .have h0:=h.len
  rw[c]at h0⊢
  rw[←h0];rfl
 .exact hc.bf (λe=>c (d _ ⟨a,b,rfl⟩ e)) _ _ _ (h.rd a b)⟩
structure BW(D aF:a8):Prop where
 d:aF.d=D.d
 waits:aF.waits=[]
 n:aF.n=D.n
 q:aF.quiet
 aX:aF.aX=D.aX
 bJ:∀j,aF.bJ.getD j []=D.bJ.getD j []\/aF.bJ.getD j []∈D.eQ j
 c1:∀q,b4 aF q->b4 D q
 r:aF.r1=true
theorem M1(h:cL w D){y:h7}(c:y∈D.waits):D.eQ y.i=y.gK:=by
 unfold a8.eQ
 cases hf:D.waits.find? λx=>x.i==y.i with
 |none=>
  have:=jX.1 hf y c;simp at this
 |some z=>
  have d:=jY hf;have e:z.i=y.i:=by simpa using kR hf
  have h1:=h.Gk;obtain⟨a,f,rfl⟩:=fe d;obtain⟨b,g,rfl⟩:=fe c;have h2:=(List.getElem_inj (i:=a) (j:=b) (h₀:=by simpa using f) (h₁:=by simpa using g) h1).1 (by simpa using e);subst h2;rfl
theorem M3{l:ad}{zs:O Int}(h:cL w D)(R:Src 1 w l (zs.map encZ))(ai:∀q,aD l q->b4 D q->zs=[])(bd:zs.length<=1000000)(be:∀z∈zs,z<=9223372036854775807)(bf:D.aX<=1000000000):
 aH aj 24 #[.pointer (some D.d),l] w (λv w'=>v=.tuple #[]/\∃aF,cL w' aF/\BW D aF/\ag (b4 D) w w'):=by
 refine okF (ae.wI (some D.d) l) ax.wI func24 ?_;(delta ae.wI ak bH aO r1 al ar fI;dsimp only);refine⟨nofun,λ_=>(MZ h).use ?_⟩;rintro _ w1 ⟨s,ids,rfl,S,T,E,am⟩;have an:=h.bx;have ao:=R.len;rw[cU]at ao;have bg:s.len=ids.length:=by have:=S.1;rw[cU]at this;omega
 have bh:ids.length<=1600:=by rw[T.length_eq,cU];exact h.Gl
 have ap:∀q,aD s q->¬b4 D q:=λq a hf=>U5 (am q a) (h.lt hf)
 have F:b4 D D.lb:=.inr (.inl rfl);refine⟨s,rfl,λn6 f=>∃ (i:Nat) (ls:O c7),n6=(i:Nat)/\i<=ids.length/\cL f {D with bJ:=ls}/\ls.length=D.n/\(∀j,ls.getD j []=D.bJ.getD j []\/ls.getD j []∈D.eQ j)/\ag (λq=>q=D.lb) w1 f,λn6 _=>((ids.length:Int)-n6).toNat,⟨0,D.bJ,rfl,cI _,h.ext E,rfl,λj=>.inl rfl,ag.refl _ _⟩,?_⟩;rintro _ f ⟨i,ls,rfl,hi,g,r,ih,u⟩;have aq:=S.ah u λq a e=>ap q a (by rw[e];exact F);have G:=Src.qq (R.ext E) u λq a e=>by rw[ai q a (by rw[e];exact F)];rfl
 refine⟨λH=>?_,λH=>?_⟩
 .have H:(i:Int)<(s.len:Int):=b2 H
  have J:i<ids.length:=I
  obtain⟨y,p,U⟩:=eJ.1 (T.mem_iff.1 (cJ J));have au:IntKind.wrap .i64 ((i:Int)+1)=((i+1:Nat):Int):=by rw[bq I I];omega
  have aw:((ids.length:Int)-((i+1:Nat):Int)).toNat<((ids.length:Int)-(i:Int)).toNat:=I
  obtain⟨A,av,aB,K⟩:=aq.src.at (i:=i) (v:=encZ ids[i]) (by simp[J]);refine j2 (λL=>∃ls:O c7,cL L {D with bJ:=ls}/\ls.length=D.n/\(∀j,ls.getD j []=D.bJ.getD j []\/ls.getD j []∈D.eQ j)/\ag (λq=>q=D.lb) w1 L) (λbi V=>⟨A,av,aB,ids[i],K,?_⟩) ?_
  .refine cc (λb w'=>(b=false->∃t:i<zs.length,0<zs[i])/\f=w') (λq a=>⟨λ_=>a _ _ ⟨nofun,rfl⟩,λW=>?_⟩) ?_
   .have W:¬(i:Int)>=(l.len:Int):=cr W
    have t:i<zs.length:=I
    obtain⟨B,X,Y,Z⟩:=G.at (i:=i) (v:=encZ zs[i]) (by simp[t]);exact⟨B,X,Y,zs[i],Z,a _ _ ⟨λaE=>⟨t,U4 (cr aE)⟩,rfl⟩⟩
   .rintro b _ ⟨aG,rfl⟩
    refine⟨λ_=>V _ ⟨ls,g,r,ih,u⟩,λaI=>?_⟩;obtain⟨t,bj⟩:=aG aI;obtain⟨B,X,Y,Z⟩:=G.at (i:=i) (v:=encZ zs[i]) (by simp[t]);have aJ:=g.m.zI ql mR (k:=(y.i:Int)) (v:=y.s) (eJ.2 ⟨y,p,rfl⟩) false;have M:=g.ext (cw f);have aK:=G.ext (cw f);obtain⟨aL,aM,aN,aP⟩:=aK.at (i:=i) (v:=encZ zs[i]) (by simp[t]);have bk:=(h.wn y p).2.2;have bm:0<y.gK.length:=u4.2 (h.wn y p).1;obtain⟨k,aQ⟩:∃k:Nat,min zs[i] (y.gK.length:Int)=((k+1:Nat):Int):=⟨(min zs[i] (y.gK.length:Int)-1).toNat,I⟩;have C:k<y.gK.length:=I
    obtain⟨aR,aS,aU,aV⟩:=qn (M.ws y p).src (λs hs=>by rw[de];exact h.lK y p s hs) (by decide) (i:=k) C;have aW:y.i<D.n:=(h.wn y p).2.1;have aY:({D with bJ:=ls}:a8).n=D.n:=r;obtain⟨b1,cf,aZ⟩:=M.M0 (i:=y.i) (by rw[aY];exact aW) (h.lK y p y.gK[k] (cJ C));have aa:Addr.add D.lb (Int.toNat (y.i:Int)*256)=⟨D.lb,y.i*256,none⟩:=by rw[c2,aA,cA]
    refine⟨_,rfl,some D.mr,g.gg,y.s,f,by rw[←U];exact aJ,aT ⟨λ_=>False,_,rfl,id,⟨some D.lb,ls.length,ls.length⟩,M.e3,aL,aM,aN,id,zs[i],aP,_,f.drew,Gm _ _ _ _ _,ag.refl _ _,aS,aU,?_⟩⟩;rw[aR,aQ,bq (n:=(((k+1:Nat):Nat):Int)-1) I I];have a0:Int.toNat (((k+1:Nat):Int)-1)=k:=I
    rw[a0,←U];refine⟨⟨I,I⟩,id,_,aV,_,rfl,⟨I,by show(y.i:Int)<(ls.length:Int);omega⟩,by rw[aa];exact b1,by simp[de,h.lK y p y.gK[k] (cJ C)],?_⟩;rw[aa];refine aT (V _ ⟨ls.set y.i y.gK[k],cf,by rw[dp];exact r,λj=>?_,u.trans ((cw f).mono (λ_ _ h=>h.elim)|>.trans aZ)⟩);by_cases ab:y.i=j
    .subst ab
     right;rw[fB (by rw[dp];omega),iY,M1 h p];exact cJ C
    .rw[ft,List.getElem?_set_ne ab,←ft]
     exact ih j
  .rintro L ⟨a2,ay,az,a3,a4⟩
   rw[au];exact⟨⟨i+1,a2,rfl,J,ay,az,a3,a4⟩,aw⟩
 .obtain⟨ac,K,a5,N,bn⟩:=eK.clear (P:=aj) (o:=0) g.m mR
  have a6:D.d≠D.mr:=h.a1.2.1;have a7:=g.v.ah N a6;refine⟨_,rfl,some D.mr,g.gg,_,ac,K,_,rfl,(EH a7 (by rw[show(a8.c {D with bJ:=ls}).length=7 from g.yr];decide)).use ?_⟩;rintro _ af ⟨rfl,a9,Q,bo⟩;have a_:=h.f4;have ba:cL af {D with bJ:=ls,waits:=[],cu:=[-1, -1, -1, -1],r1:=true}:=by
   have bb:bu ac D.lb (bl aC ls).toArray 151:=bu.ah g.l N h.a1.2.2;have bc:bu af D.lb (bl aC ls).toArray 151:=bu.ah bb Q λe=>h.a1.1 e.symm;refine⟨?_,bc,a5.ah Q λe=>h.a1.2.1 e.symm,λx hx=>(by cases hx),λx hx=>(by cases hx),g.sl,λx hx=>(by cases hx),?_,?_,rfl,λx hx=>?_,h.a1,λx hx=>(by cases hx),λx hx=>(by cases hx),λ_=>rfl⟩
   .have e:({D with bJ:=ls,waits:=[],cu:=[-1, -1, -1, -1],r1:=true}:a8).c=List.replicate 4 (.int .i64 (-1))++(a8.c {D with bJ:=ls}).drop 4:=by
     unfold a8.c;dsimp only;rw[sN (by rw[cU];exact a_)];rfl
    rw[e];exact a9
   .show 16<=ls.length;rw[r];exact h.b6
   .show ls.length<=1600;rw[r];exact an
   .have hx:x∈ [(-1:Int), -1, -1, -1]:=hx
    simp only[cZ,e2,e_,or_self]at hx;omega
  refine⟨rfl,rfl,_,ba,⟨rfl,rfl,r,⟨λk=>⟨.inl rfl,.inl rfl⟩,rfl⟩,rfl,ih,λq a=>?_,rfl⟩,?_⟩
  .obtain e|e|e|⟨x,hx,e⟩:=a
   .exact .inl e
   .exact .inr (.inl e)
   .exact .inr (.inr (.inl e))
   .cases hx
  .have h1:ag (b4 D) w f:=cE (E.mono λ_ _ h=>h.elim) u λq _ e=>by rw[e];exact F
   have h2:=cE h1 N λq _ e=>by rw[e];exact .inr (.inr (.inl rfl))
   exact cE h2 Q λq _ e=>by rw[e];exact .inl rfl
theorem M4:hY aj 135:=⟨_,(n1 (show(Tryz.prog.funcs[135]?).isSome=true by kernel_rfl)).symm,by kernel_rfl,by kernel_rfl⟩
theorem M5{l:O UInt8}(hs:Src 1 w s (aC l))(o:l.length<=1000):
   aH aj 134 #[s,.func (.func 135) #[] #[]] w (λv w'=>v=.bool (!(l.all λc=>c==0))/\w=w'):=by
 have p:=len8 hs
 refine okF (ae.wq s ⟨135,#[],#[]⟩) ax.wq func134 ?_
 delta ae.wq bB
 refine Calls.mono (ae.HT s ⟨135,#[],#[]⟩ w (λv w'=>(∃i:Int,v=i/\(decide (i>=0))= !(l.all λc=>c==0))/\w=w') ?_) ?_
 · (delta ae.tw ak aO cq ar;dsimp only)
   refine⟨λi w'=>∃j:Nat,i=j/\j<=l.length/\w=w'/\∀ (k:Nat) (a:k<l.length),k<j->l[k]=0,λi _=>((l.length:Int)-i).toNat,⟨0,rfl,cI _,rfl,λk a h=>I⟩,?_⟩
   rintro _ _ ⟨j,rfl,q,rfl,d⟩
   refine⟨λaI=>?_,λb=>?_⟩
   · have aI:j<l.length:=U4 (b2 aI)
     obtain⟨A,av,f,g⟩:=hs.at (oG aI)
     refine⟨A,av,f,_,g,M4,?_⟩
     refine Calls.mono (ae.Ic ((l[j]).toNat:Int) w (λv w'=>v=.bool (((l[j]).toNat:Int) !=0)/\w=w') ⟨rfl,rfl⟩) ?_
     rintro _ _ ⟨_,rfl,rfl,rfl⟩
     refine⟨_,rfl,λe=>⟨⟨j,rfl,?_⟩,rfl⟩,λm=>?_⟩
     · have:(l.all λc=>c==0)=false:=by
         rw[List.all_eq_false]
         refine⟨l[j],cJ _,λh=>?_⟩
         have h:=eq_of_beq h
         rw[h]at e
         simp at e
       rw[this]
       exact dh I
     · have h0:l[j]=0:=by
         have:((l[j]).toNat:Int)=0:=by simpa using m
         exact qK.1 (by show(l[j]).toNat=0;omega)
       rw[bq (n:=(j:Int)+1) I I]
       refine⟨⟨j+1,I,I,rfl,λk a h=>?_⟩,?_⟩
       · rcases dV k j with h1|h1
         · exact d k a h1
         · have:k=j:=I
           subst this;exact h0
       · show((l.length:Int)-((j:Int)+1)).toNat<((l.length:Int)-(j:Int)).toNat
         omega
   · have b:j=l.length:=U4 (cr b)
     subst b
     refine⟨⟨-1,rfl,?_⟩,rfl⟩
     have:(l.all λc=>c==0)=true:=by
       rw[nV]
       intro c hc
       obtain⟨k,a,rfl⟩:=fe hc
       rw[d k a a];rfl
     rw[this];rfl
 · rintro _ _ ⟨_,rfl,⟨i,rfl,hi⟩,rfl⟩
   exact⟨i,rfl,by rw[hi],rfl⟩
theorem M6{l:O Int}(h:i<l.length):l.set i (l.getD i d)=l:=by
 rw[fB h,List.set_getElem_self]
theorem M7{D:a8}(h:D.quiet)(a:k=1\/k=2):D.cu.getD k 0= -1:=by
 have h1:=h.1 ((D.cu.getD k 0).toNat+1);obtain rfl|rfl:=a
 .exact h1.1.resolve_right I
 .exact h1.2.resolve_right I
theorem Gn{D:a8}(h:D.quiet)(b:D.cu.length=4)(a:k=1\/k=2):D.cN k=D/\D.gh k=false:=by
 have h1:=M7 h a;unfold a8.cN a8.gh;rw[h1];refine⟨?_,rfl⟩;have e:(g1 (-1)).2=D.cu.getD k 0:=by rw[h1];rfl
 rw[e,M6 I]
def takeN(u:c_)(g:Nat):au (c_×Nat)->au (c_×Nat)
 |none=>some (u,g)
 |some x=>if g>x.2 then some (u,g) else some x
def hF(n no:Nat)(l:c7)(acc:au (c_×Nat)):Except Int (au (c_×Nat)):=
 if (l.all λc=>c==0)=true then .ok acc else match hU (no:Int) l with
 | .error e=>.error e
 | .ok (u,s,g)=>if s≠n then .error 4 else .ok (takeN u g acc)
def kk(n:Nat)(V:Nat->c7):Nat->Except Int (au (c_×Nat))
 |0=>.ok none
 |i+1=>match kk n V i with
  | .error e=>.error e
  | .ok a=>hF n i (V i) a
theorem Gp{V:Nat->c7}{e:Int}(h:kk n V i=.error e):∀k,kk n V (i+k)=.error e
 |0=>h
 |k+1=>by
  show kk n V (i+k+1)=_
  unfold kk
  rw[Gp h k]
def Gq:au (c_×Nat)->Except Int (c_×Nat)
 |none=>.error 6
 |some x=>.ok x
def kP(n:Nat)(V:Nat->c7):Except Int (c_×Nat):=match kk n V 2 with
 | .error e=>.error e
 | .ok a=>Gq a
def sB:au (c_×Nat)->c_
 |none=>gL
 |some x=>x.1
def sC:au (c_×Nat)->Nat
 |none=>0
 |some x=>x.2
theorem M8{no:Int}{e:Int}(h:hU no l=.error e):e≠0:=by
 unfold hU at h;split at h
 .rename_i a he
  cases h;exact Ba he
 .split at h
  .cases h;decide
  .split at h
   .cases h
   .cases h;decide
theorem rz{D:a8}(h:cL w D)(j:D.quiet)(aD:D.aX<=1000000000):
 aH aj 70 #[.pointer (some D.d)] w (λv w'=>cL w' D/\ag (λq=>q=D.d) w w'/\(match kP D.n D.now with
  | .error e=>e≠0/\∃u:c_,v=.tuple #[.agg u.c.toArray,.int .u64 0,e]
  | .ok (u,g)=>v=.tuple #[.agg u.c.toArray,.int .u64 (g:Nat),U8])):=by
 have aR:=h.b6;refine okF (ae.rz (some D.d)) ax.rz func70 ?_;(delta ae.rz gI ak dH zQ r1 Y bO bP Dr bB ar;dsimp only);refine a6 (vs:=gL.c) rfl λw1 ad af aS=>?_;obtain⟨t,aE⟩:=U6 w.heap.size;rw[←aE]at ad⊢;have aF:t≠D.d:=U4 (h.lt (q:=D.d) (.inl rfl))
 have al:=Gn j h.f4 (k:=1) (.inl rfl);refine⟨λbA aG n6 C=>∃ (i:Nat) (a:au (c_×Nat)),n6=(i:Nat)/\i<=2/\bA=(sC a:Nat)/\aG=a.isSome/\kk D.n D.now i=.ok a/\cL C D/\Var C t (sB a).c 90/\ag (λq=>q=D.d) w C,λ_ _ n6 _=>(2-n6).toNat,⟨0,none,rfl,by decide,rfl,rfl,rfl,h.ext af,ad,af.mono λ_ _ h=>h.elim⟩,?_⟩;rintro _ _ _ C ⟨i,a,rfl,hi,rfl,rfl,am,O,A,E⟩;have aT:=E.size;have B:∀ {w' an:J},ag (λq=>q=D.d) w w'->ag (λq=>q=t) w' an->ag (λq=>q=D.d) w an:=λh1 h2=>cE h1 h2 λq aU e=>by omega
 refine⟨λP=>?_,λP=>?_⟩
 .have Q:i<2:=by have:(i:Int)<2:=b2 P;omega
  have aI:IntKind.wrap .i64 ((i:Int)+1)=((i+1:Nat):Int):=by rw[bq I I];omega
  refine pC (λn b w'=>∃y:au (c_×Nat),n=(sC y:Nat)/\b=y.isSome/\kk D.n D.now (i+1)=.ok y/\cL w' D/\Var w' t (sB y).c 90/\ag (λq=>q=D.d) w w') (λaV R=>(A8 O (i:=i) I aD).use ?_) ?_
  .rintro v aJ ⟨F,ao,aK⟩
   rw[al.1]at F;obtain⟨ap,_⟩|⟨_,s,rfl,S⟩:=aK
   .rw[al.2]at ap;cases ap
   have aq:=A.ah ao aF;have av:ag (λq=>q=D.d) w aJ:=E.trans ao;have aW:=F.qm (i:=i) I;have G:kk D.n D.now (i+1)=hF D.n i (D.now i) a:=by
    unfold kk;rw[am]
   have aw:∀e,hF D.n i (D.now i) a=.error e->kP D.n D.now=.error e:=λe he=>by
    unfold kP;have:=Gp (G.trans he) (1-i);rw[show i+1+(1-i)=2 from I]at this;rw[this]
   refine⟨s,0,rfl,nofun,λ_=>(M5 S.1 I).use ?_⟩;rintro _ _ ⟨rfl,rfl⟩;refine⟨_,rfl,λm=>R _ _ _ ⟨a,rfl,rfl,?_,F,aq,av⟩,λm=>(rI S.1 S.2.1 I (i:Nat)).use ?_⟩
   .rw[G];unfold hF
    rw[if_pos (by simpa using m)]
   have m:¬((D.now i).all λc=>c==0)=true:=by simpa using m
   rintro v T ⟨rfl,U⟩;have ay:=F.ext U;have az:=aq.ext U;have aA:ag (λq=>q=D.d) w T:=cE av U λq _ h=>h.elim
   cases H:hU (i:Int) (D.now i) with
   |error e=>
    have he:=M8 H;have z:=aw e (by unfold hF;rw[if_neg m,H]);refine⟨_,_,_,_,_,_,_,_,e,rfl,a6 (vs:=gL.c) rfl λaL V W aM=>kf V rfl gL λK aB X _=>⟨λ_=>?_,λhx=>absurd (by simpa using hx) he⟩⟩;have o:Ext T K:=Ext.cp W X (bk _);have p:=az.ext o;refine hE p (kf p rfl (sB a) λai l f _=>hE l ⟨(ay.ext o).ah f λq j e=>?_,B (cE aA o λq _ h=>h.elim) f,?_⟩)
    .have:=h.lt j;omega
    .rw[z];exact⟨he,_,rfl⟩
   |ok r=>
    obtain⟨u,Z,g⟩:=r;refine⟨_,_,_,_,_,_,_,_,0,rfl,a6 (vs:=gL.c) rfl λaL V W aM=>kf V rfl u λK aB X _=>⟨nofun,λ_=>?_⟩⟩;have o:Ext T K:=Ext.cp W X (bk _);have p:=az.ext o;have L:=ay.ext o;have aa:ag (λq=>q=D.d) w K:=cE aA o λq _ h=>h.elim;refine(sj L).use ?_;rintro _ _ ⟨rfl,rfl⟩;refine⟨_,rfl,λM=>?_,λab=>?_⟩
    .have M:Z≠D.n:=λe=>by rw[e]at M;simp at M
     have z:=aw 4 (by unfold hF;rw[if_neg m,H];dsimp only;rw[if_pos M]);refine hE p (kf p rfl (sB a) λai l f _=>hE l ⟨L.ah f λq j e=>?_,B aa f,?_⟩)
     .have:=h.lt j;omega
     .rw[z];exact⟨by decide,_,rfl⟩
    .have ab:Z=D.n:=by
      have:(Z:Int)=(D.n:Int):=by simpa using ab
      omega
     have aC:hF D.n i (D.now i) a=.ok (takeN u g a):=by
      unfold hF;rw[if_neg m,H];dsimp only;rw[if_neg (λe=>e ab)]
     refine⟨λN=>?_,λN=>?_⟩
     .have aN:kk D.n D.now (i+1)=.ok (some (u,g)):=by
       rw[G,aC]
       cases a with
       |none=>rfl
       |some x=>
        have:g>x.2:=by
         have:(g:Int)>((sC (some x):Nat):Int):=by simpa using N
         have e:sC (some x)=x.2:=rfl;omega
        show Except.ok (if g>x.2 then _ else _)=_;rw[if_pos this]
      refine hE aB (kf p rfl u λai l f _=>R _ _ _ ⟨some (u,g),rfl,rfl,aN,L.ah f λq j e=>?_,l,B aa f⟩);have:=h.lt j;omega
     .refine R _ _ _ ⟨a,rfl,rfl,?_,L,p,aa⟩
      rw[G,aC]
      cases a with
      |none=>cases N
      |some x=>
       have:¬g>x.2:=by
        have:¬(g:Int)>((sC (some x):Nat):Int):=by simpa using N
        have e:sC (some x)=x.2:=rfl;omega
       show Except.ok (if g>x.2 then _ else _)=_;rw[if_neg this]
  .rintro _ _ aY ⟨y,rfl,rfl,h1,h2,aO,aP⟩
   rw[aI];have aQ:(2-((i+1:Nat):Int)).toNat<(2-(i:Int)).toNat:=I
   exact⟨⟨i+1,y,rfl,Q,rfl,rfl,h1,h2,aO,aP⟩,aQ⟩
 .have Q:i=2:=by have:¬(i:Int)<2:=cr P;omega
  subst Q;have z:kP D.n D.now=Gq a:=by unfold kP;rw[am]
  refine⟨λac=>hE A (kf A rfl (sB a) λai l f _=>hE l ⟨O.ah f λq j e=>?_,B E f,?_⟩),λac=>hE A (kf A rfl (sB a) λai l f _=>hE l ⟨O.ah f λq j e=>?_,B E f,?_⟩)⟩
  .have:=h.lt j;omega
  .rw[z]
   cases a with
   |none=>exact⟨by decide,_,rfl⟩
   |some x=>cases ac
  .have:=h.lt j;omega
  .rw[z]
   cases a with
   |none=>cases ac
   |some x=>rfl
theorem M9{no:Int}{l:O UInt8}{p:jg}(h:dX no l=.ok p):l.getD 4 0=1:=by
 by_cases e:l.getD 4 0=1
 .exact e
 .exfalso
  unfold dX at h;split at h
  .cases h
  .split at h
   .cases h
   .first|(rw[if_pos e]at h;cases h)|cases h
theorem M_{no:Int}{l:O UInt8}{p:jg}(h:dX no l=.ok p):¬(l.all λc=>c==0)=true:=λa=>by
 have h1:=M9 h
 rw[nV]at a
 rw[ft]at h1
 cases hg:l[4]? with
 |none=>rw[hg]at h1;cases h1
 |some c=>
  rw[hg]at h1
  have:=a c (List.mem_of_getElem? hg)
  have h1:c=1:=h1
  rw[h1]at this;cases this
theorem BX{no:Int}{l:O UInt8}{r:c_×Nat×Nat}(h:hU no l=.ok r):∃p,dX no l=.ok p:=by
 unfold hU at h
 cases a:dX no l with
 |error e=>rw[a]at h;cases h
 |ok p=>exact⟨p,rfl⟩
theorem uM{a:au (c_×Nat)}{g:Nat}(h:hU (no:Int) l=.ok (u,n,g)):hF n no l a=.ok (takeN u g a):=by
 obtain⟨p,b⟩:=BX h;unfold hF;rw[if_neg (M_ b),h];dsimp only;rw[if_neg (λe=>e rfl)]
theorem Gr{a:au (c_×Nat)}:hF n no g2 a=.ok a:=by
 unfold hF;rw[if_pos (by unfold g2;rw[List.all_replicate];rfl)]
section
variable {V:Nat->c7}{n gen:Nat}{u:c_}{g:Nat->ao}{P:Nat->au aG}{p:O Nat}{L:O aP}
theorem iT.kP(h:iT V n gen u g P p L):kP n V=.ok (u,gen):=by
 have h2:kk n V 2=.ok (some (u,gen)):=by
  have e:kk n V 2=(match hF n 0 (V 0) none with| .error e=>.error e| .ok a=>hF n 1 (V 1) a):=rfl;rw[e];have b:=h.yQ;have c:=h.BQ;rcases Nat.mod_two_eq_zero_or_one gen with h0|h0
  .rw[h0]at b c
   rw[uM b];show hF n 1 (V 1) (some (u,gen))=_;obtain d|⟨f,g',h1,h2⟩:=c
   .rw[show V 1=g2 from d,Gr]
   .rw[uM (no:=1) h1]
    show Except.ok (if g'>gen then _ else _)=_;rw[if_neg I]
  .rw[h0]at b c
   obtain d|⟨f,g',h1,h2⟩:=c
   .rw[show V 0=g2 from d,Gr]
    exact uM b
   .rw[uM (no:=0) h1]
    show hF n 1 (V 1) (some (f,g'))=_;rw[uM b];show Except.ok (if gen>g' then _ else _)=_;rw[if_pos h2]
 unfold Go.Proofs.YtcmgnhkpfllinaaGreat.kP;rw[h2];rfl
end
theorem Gs(hg:∀i,n<=i->g i=false):bitsOf ((gf g ((n+7)/8)).map λc=>(c.toNat:Int))=g:=by
 funext i;unfold bitsOf;by_cases hi:i/8<(n+7)/8
 .rw[ft,mz]
  have e:(gf g ((n+7)/8))[i/8]? =some (UInt8.ofNat (byteOf g (i/8))):=by
   unfold gf;rw[mz,List.getElem?_range hi];rfl
  rw[e];have a:=k9 g (i/8);show((((UInt8.ofNat (byteOf g (i/8))).toNat:Nat):Int).toNat).testBit (i%8)=g i;rw[n3,kr a,c2,oU _ _ _ (hG _ (by decide)),ER]
 .have:(gf g ((n+7)/8)).length<=i/8:=by rw[qB];omega
  rw[ft,m9 (by rw[cU];exact this),hg i I];show Nat.testBit (Int.toNat 0) _=false;simp
theorem Na(hg:∀i,n<=i->g i=false):qu ((gf g ((n+7)/8)).map λc=>(c.toNat:Int)) n:=
 ⟨by rw[cU,qB],λi hi=>by rw[Gs hg];exact hg i hi⟩
theorem rA{D:a8}(h:cL w D)(P:D.quiet)(Q:D.aX<=1000000000)(C:no<D.n)(hg:∀i,D.n<=i->g i=false)
 (hc:(∃fE,dX ((no:Nat):Int) (D.now no)=.ok ⟨4,fE,gf g ((D.n+7)/8)⟩)\/∃e,dX ((no:Nat):Int) (D.now no)=.error e):
 aH aj 71 #[.pointer (some ⟨D.d,0,none⟩),.int .i64 (no:Nat)] w (λv w'=>cL w' D/\ag (λq=>q=D.d) w w'/\
  ((∃sb s1 s2,v=.tuple #[.pointer (some ⟨sb,0,none⟩),.int .i64 0]/\(∃fE,dX ((no:Nat):Int) (D.now no)=.ok ⟨4,fE,gf g ((D.n+7)/8)⟩)/\fc w' sb D.n g g s1 s2/\∀k,gr sb s1 s2 k->w<=k)\/
   (∃e:Int,v=.tuple #[.pointer none,.int .i64 e]/\e≠0/\∃R,dX ((no:Nat):Int) (D.now no)=.error R))):=by
 refine okF (ae.rA (some ⟨D.d,0,none⟩) (no:Nat)) ax.rA func71 ?_;(delta ae.rA dH ak rf ou Y r1 al bB hO;dsimp only);have af:=h.bx;have E:=Gn P h.f4 (k:=1) (.inl rfl);refine(A8 h C Q).use ?_;rintro v w1 ⟨m,S,o⟩;rw[E.1]at m;obtain⟨F,_⟩|⟨_,s,rfl,G⟩:=o
 .rw[E.2]at F;cases F
 have ah:=m.qm C;refine⟨s,0,rfl,nofun,λ_=>(oA G.1 G.2.1 I _).use ?_⟩;rintro v p ⟨f,H⟩;have K:=m.ext H;have r:ag (λq=>q=D.d) w p:=cE S H λq _ h=>h.elim;obtain⟨fE,a⟩|⟨e,a⟩:=hc
 .rw[a]at f
  obtain⟨t,rfl,T,ai⟩:=f;refine⟨4,fE,t,0,rfl,a6 (vs:=[.int .i64 0,.int .u64 0,.slice none 0 0]) rfl λU u y V=>yE 4 fE t u rfl λb z A W=>⟨nofun,λ_=>⟨4,z.cell,nofun,λ_=>aT ?_⟩⟩⟩;have j:Ext p b:=Ext.cp y A (bk _);have L:Ext b b.drew:=cw _;have X:=z.ext L;have l:=Ext.trans j L;have M:=K.ext l;refine⟨λ_=>False,id,t,X.cell,(sj M).use ?_⟩;rintro _ _ ⟨rfl,rfl⟩;have Z:=T.ext l;have hu:aC (gf g ((D.n+7)/8))=((gf g ((D.n+7)/8)).map λc=>((c.toNat:Nat):Int)).map (.int .u8):=by unfold aC;rw[iW];rfl
  have N:=Z.src;rw[show(⟨4,fE,gf g ((D.n+7)/8)⟩:jg).body=gf g ((D.n+7)/8) from rfl,hu]at N;refine⟨_,rfl,ag.refl _ _,(rJ N (λx hx=>?_) (by rw[cU,qB];omega) (D.n:Nat)).use ?_⟩
  .obtain⟨c,_,rfl⟩:=eJ.1 hx
   have:=c.toNat_lt;omega
  rintro v aa ⟨O,o⟩;have ab:=M.ext O;have ac:ag (λq=>q=D.d) w aa:=cE r (Ext.trans l O) λq _ h=>h.elim;have am:=h.b6;obtain⟨B,_⟩|⟨_,_,B,_⟩|⟨_,_,_,sb,s1,s2,rfl,gx,hf⟩:=o
  .exact absurd ⟨I,I⟩ B
  .exact absurd (by rw[c2];exact Na hg) B
  .rw[Gs hg,c2]at gx
   refine⟨_,0,rfl,ab,ac,.inl ⟨sb,s1,s2,rfl,⟨fE,a⟩,gx,λk ad=>?_⟩⟩;have:=hf k ad;have:=r.size;have:=l.size;omega
 .rw[a]at f
  obtain rfl:=f;have he:=Ba a;refine⟨0,0,⟨none,0,0⟩,e,rfl,a6 (vs:=[.int .i64 0,.int .u64 0,.slice none 0 0]) rfl λU u y V=>yE 0 0 ⟨none,0,0⟩ u rfl λb z A W=>⟨λ_=>?_,λhx=>absurd (by simpa using hx) he⟩⟩;have j:Ext p b:=Ext.cp y A (bk _);exact⟨K.ext j,cE r j λq _ h=>h.elim,.inr ⟨e,rfl,he,e,a⟩⟩
section
variable {w w':J}{D:a8}{V:Nat->c7}{gen:Nat}{u:c_}{g:Nat->ao}{P:Nat->au aG}{aL:O Nat}{bG:O aP}
def uN(D:a8)(j:Nat):Prop:=¬((D.now j).all λc=>c==0)=true/\∃e,dX (j:Int) (D.now j)=.error e
theorem Nb(h:iT V D.n gen u g P aL bG)(eN:∀j,g j=true->D.now j=V j\/uN D j):(D.now 0=V 0/\D.now 1=V 1/\kP D.n D.now=.ok (u,gen))\/((∃j,g j=true/\uN D j)/\∃e,kP D.n D.now=.error e):=by
 have lJ:g 0=true:=(h.g 0).2 (.inr (.inl (by decide)));have ay:g 1=true:=(h.g 1).2 (.inr (.inl (by decide)));have bad:∀ (j:Nat) (a:au (c_×Nat)),uN D j->∃e,hF D.n j (D.now j) a=.error e:=λj a ⟨h1,e,h2⟩=>by
  unfold hF;rw[if_neg h1];unfold hU;rw[h2];exact⟨e,rfl⟩
 have b:kk D.n D.now 2=(match hF D.n 0 (D.now 0) none with| .error e=>.error e| .ok a=>hF D.n 1 (D.now 1) a):=rfl;rcases eN 0 lJ with h0|h0
 .rcases eN 1 ay with h1|h1
  .refine .inl ⟨h0,h1,?_⟩
   have:=h.kP;unfold kP at this⊢;have c:kk D.n V 2=(match hF D.n 0 (V 0) none with| .error e=>.error e| .ok a=>hF D.n 1 (V 1) a):=rfl;rw[b,h0,h1,←c];exact this
  .right
   refine⟨⟨1,ay,h1⟩,?_⟩;unfold kP;rw[b]
   cases hs:hF D.n 0 (D.now 0) none with
   |error e=>exact⟨e,rfl⟩
   |ok a=>
    obtain⟨e,he⟩:=bad 1 a h1;dsimp only;rw[he];exact⟨e,rfl⟩
 .right
  refine⟨⟨0,lJ,h0⟩,?_⟩;obtain⟨e,he⟩:=bad 0 none h0;unfold kP;rw[b,he];exact⟨e,rfl⟩
theorem Gt{c aU:Nat}{a:U1}(h:eu (λ_=>False) w (jx c aU k D))(d:∀q,a q->q<w/\¬du (jx c aU k D) q):eu a w (jx c aU k D):=
 ⟨h.raw,h.inv.pins,λf hf b=>(by
  have:=(List.mem_replicate.1 (show f∈List.replicate k dM from hf)).2
  rw[this]at b
  cases b),h.inv.un,d,h.inv.oW⟩
theorem rq{l:e0}{a_:U1}(h:cL w D)(o:D.quiet)(b0:D.aX<=800000000)(aF:∀j,g j=true->D.eQ j=[])(O:mY (l.aw:Nat) (l.batch:Nat) (l.h5:Nat))(a:iT V D.n gen u g P aL bG)(eN:∀j,g j=true->D.now j=V j\/uN D j)(hs:D.cl=g)(aI:D.eW=λ_=> [])(b1:gen<=1000000000)(bb:bG.length<=4000)(bc:aL.length<=4000)(aJ:∀q,a_ q->q<w/\¬b4 D q):
 aH aj 25 #[.pointer (some ⟨D.d,0,none⟩),.agg l.c.toArray] w (λv w'=>ag (b4 D) w w'/\
  ((∃S:b_,v=.tuple #[.pointer (some ⟨S.st,0,none⟩),.int .i64 0]/\dJ w' S aL bG aL bG/\S.failed=false/\S.u=u/\S.gen=gen/\S.now=u.clock/\S.pending=0/\S.l=l/\S.T.C.D.d=D.d/\S.T.n=D.n/\S.T.C.D.quiet/\S.T.C.D.aX<=D.aX+9000/\(∀q,S.T.M q->b4 D q\/a_ q\/w<=q)/\(∀q,S.T.E q↔q=S.st\/a_ q)/\w.heap.size<=S.st/\S.T.C.D.r1=D.r1)\/
   (∃e:Int,v=.tuple #[.pointer none,.int .i64 e]/\e≠0/\∃j,g j=true/\uN D j))):=by
 refine okF (ae.rq (some ⟨D.d,0,none⟩) (l.aw:Nat) (l.batch:Nat) (l.h5:Nat)) ax.rq func25 ?_;(delta ae.rq r1 Y bO bP ak Dp gI hO bB;dsimp only);have b2:=h.b6;have b3:=h.bx;have H:=a.yR;have Z:g u.map=true:=(a.g _).2 (.inr (.inr rfl));refine a6 (vs:=l.c) rfl λw1 aa aM b7=>⟨_,aa.cell,_,aa.cell,_,aa.cell,(pN w1 _ _ _ _).use ?_⟩;rintro _ b8 ⟨rfl,aO⟩;refine⟨_,rfl,λaP=>?_,λ_=>?_⟩
 .rw[dh O]at aP;cases aP
 have ai:=aM.trans aO;have be:=h.ext ai;have bf:=aa.ext aO;refine(rz be o I).use ?_;rintro v al ⟨bg,am,J⟩;have b9:=ai.size;have cb:=am.size;have cc:=aM.size;have ab:∀q,q=D.d->b4 D q:=λq e=>.inl e;have aQ:ag (b4 D) w al:=cE (ai.mono λ_ _ h=>h.elim) am λq _ e=>ab q e;have bh:=bf.ah am λe=>U4 (h.lt (q:=D.d) (.inl rfl))
 rcases Nb a eN with ⟨bi,bj,an⟩|⟨bl,e,an⟩
 rotate_left
 .rw[an]at J
  obtain⟨he,bm,rfl⟩:=J;refine⟨_,_,_,_,_,_,0,e,rfl,a6 (vs:=gL.c) rfl λbn ao ap bo=>kf ao rfl bm λac ar av _=>⟨λ_=>?_,λhx=>absurd (by simpa using hx) he⟩⟩;have Q:Ext al ac:=Ext.cp ap av (bk _);exact⟨cE aQ Q λq _ h=>h.elim,.inr ⟨e,rfl,he,bl⟩⟩
 rw[an]at J;obtain rfl:=J;refine⟨_,_,_,_,_,_,_,0,rfl,a6 (vs:=gL.c) rfl λbn ao ap bo=>kf ao rfl u λac ar av _=>⟨nofun,λ_=>⟨_,ar.cell,?_⟩⟩⟩;have Q:Ext al ac:=Ext.cp ap av (bk _);have bp:=bg.ext Q;have bq:=bh.ext Q;have aR:∀i,D.n<=i->g i=false:=λi hi=>by
  cases hg:g i with
  |false=>rfl
  |true=>
   rcases(a.g i).1 hg with h1|h1|h1
   .have:=(a.two i h1).2.2;omega
   .omega
   .have:=H.2.2.2.1;omega
 have aS:=a.mp;have br:(∃fE,dX ((u.map:Nat):Int) (D.now u.map)=.ok ⟨4,fE,gf g ((D.n+7)/8)⟩)\/∃e,dX ((u.map:Nat):Int) (D.now u.map)=.error e:=by
  rcases eN u.map Z with h1|h1
  .obtain⟨fE,_,h2⟩:=aS
   exact .inl ⟨fE,by rw[h1];exact h2⟩
  .exact .inr h1.2
 refine(rA bp o I H.2.2.2.1 aR br).use ?_;rintro v aT ⟨bs,ad,J⟩;have cd:=Q.size;have bt:ag (b4 D) w ac:=cE aQ Q λq _ h=>h.elim;have aV:ag (b4 D) w aT:=cE bt ad λq _ e=>ab q e;obtain⟨sb,s1,s2,rfl,⟨fE,bu⟩,gx,bv⟩|⟨e,rfl,he,ce,aW⟩:=J
 rotate_left
 .refine⟨none,e,rfl,λ_=>⟨aV,.inr ⟨e,rfl,he,u.map,Z,?_⟩⟩,λhx=>absurd (by simpa using hx) he⟩
  rcases eN u.map Z with h1|h1
  .obtain⟨fE,_,h2⟩:=aS
   rw[h1,h2]at aW;cases aW
  .exact h1
 have aY:∀q,w.heap.size<=q->¬b4 D q:=λq o hf=>U4 (h.lt hf)
 have ay:=bq.ah ad λe=>aY _ (bk _) (ab _ e);have aZ:=ar.ah ad λe=>aY _ I (ab _ e);have bw:D.now u.map=V u.map:=by
  rcases eN u.map Z with h1|⟨_,e,h1⟩
  .exact h1
  .rw[bu]at h1;cases h1
 refine⟨_,0,rfl,nofun,λ_=>⟨_,ay.cell,_,ay.cell,_,ay.cell,hE aZ ?_⟩⟩;have bz:=ox bs (l:=l) (u:=u) (gen:=gen) ⟨U4 O.1,U4 O.2.1⟩ ⟨I,U4 H.2.1,I,U4 H.2.2.1,U4 H.1⟩ I (λj F=>by rw[aI,aF j (hs▸F)]) sb;refine bz.use ?_;rintro _ R ⟨c,aU,bd,st,B⟩;have bA:=B.val;subst bA;refine⟨_,0,rfl,nofun,λ_=>⟨_,by rw[aA];exact(aZ.ext B.x).cell,?_⟩⟩;have cf:=ad.size;have cg:=B.x.size;have ch:=B.sv.lt;have ci:=B.hc;have cj:=B.hf;have ck:=B.ht;obtain⟨P',af⟩:∃P':Nat->au aG,P'=λno=>if no∈aL then (if D.now no=V no then P no else none) else none:=⟨_,rfl⟩
 obtain⟨T,b⟩:=U6 (⟨bd,gen+1,u.root,u.aK,jx c aU l.aw D,sb,D.n,g,g,s1,s2,λq=>q=st\/a_ q,λ_=>False,P'⟩:aN);have U:∀q,du (jx c aU l.aw D) q->q=c\/q=aU\/b4 D q:=λq h=>h;have W:∀q,gr sb s1 s2 q->w<=q/\q<aT:=λq o=>⟨U4 (bv q o),gx.lt q o⟩;have bD:∀q,T.X q->q=bd\/gr sb s1 s2 q\/q=st\/a_ q:=λq o=>by
  rw[b]at o;obtain h1|h1|h1|h1:=o
  .exact .inl h1
  .exact .inr (.inl h1)
  .exact .inr (.inr h1)
  .exact h1.elim
 have az:∀q,b4 D q->q<w:=λq o=>h.lt o;have a0:b5 R T:=by
  have a4:eu T.X R (jx c aU l.aw D):=Gt B.ca λq o=>by
   rcases bD q o with h1|h1|h1|h1
   .refine⟨I,λhf=>?_⟩
    rcases U q hf with h2|h2|h2
    .omega
    .omega
    .have:=az q h2;omega
   .have z:=W q h1
    refine⟨I,λhf=>?_⟩;rcases U q hf with h2|h2|h2
    .omega
    .omega
    .have:=az q h2;omega
   .refine⟨I,λhf=>?_⟩
    rcases U q hf with h2|h2|h2
    .omega
    .omega
    .have:=az q h2;omega
   .have z:=aJ q h1
    refine⟨I,λhf=>?_⟩;rcases U q hf with h2|h2|h2
    .omega
    .omega
    .exact z.2 h2
  rw[b]at a4⊢;refine⟨B.cY,gx.ext B.x,a4,λhf=>U4 (W bd hf),λq o=>?_,λq o=>o.elim,rfl,⟨H.2.2.1,H.2.1,by show gen+1<_;omega⟩,λno bN A=>?_,λj F=>.inl (hs▸F),⟨(a.g 0).2 (.inr (.inl (by decide))),(a.g 1).2 (.inr (.inl (by decide)))⟩⟩
  .have o:q=st\/a_ q:=o
   obtain h1|h1:=o
   .exact⟨by show q≠bd;omega,λhf=>U4 (W q hf),λh=>h⟩
   .have z:=aJ q h1
    exact⟨by show q≠bd;omega,λhf=>U4 (W q hf),λh=>h⟩
  .have A:P' no=some bN:=A
   rw[af]at A;dsimp only at A;by_cases h1:no∈aL
   .rw[if_pos h1]at A
    by_cases h2:D.now no=V no
    .rw[if_pos h2]at A
     refine⟨(a.two no h1).2.2,?_⟩;show hV (gen+1) bN.leaf no ((jx c aU l.aw D).view no) bN;rw[Bn,h2];exact(a.eS no h1 bN A).mono I
    .rw[if_neg h2]at A;cases A
   .rw[if_neg h1]at A;cases A
 obtain⟨S,y⟩:=U6 (⟨st,T,l,u,gen,u.clock,0,0,u.keys,false⟩:b_);have aB:Var R S.st S.cells 146:=by
  rw[y];show Var R st (jB T.bd T.C.D.d T.C.c T.sb _ _ _ _ _ _ _ _) _;rw[b];exact B.sv
 have fv:S.T=T:=by rw[y]
 have aC:S.u=u:=by rw[y]
 have bE:gN (T.bC T.C P) aL bG:=by
  rw[b];exact a.ok
 have a5:=MT (S:=S) (fM:=P) (pages:=aL) (L:=bG) (m:=((u.keys:Nat):Int)) aB (fv▸a0) (by rw[y,b];exact .inl rfl) (fv▸bE) (λx hx bN A=>?_) a.bN (λno=>by rw[fv,aC,b];exact a.g no) (λx hx=>by rw[aC];exact⟨(a.two x hx).1,(a.two x hx).2.1⟩) (by rw[fv,aC,b];exact⟨H.2.2.2.2.1,H.2.2.2.1⟩) bb bc (by rw[fv,b];show D.aX<=_;omega)
 rotate_left
 .rw[fv,b]
  rcases eN x ((a.g x).2 (.inl hx)) with h1|h1
  .left
   show P' x=some bN;rw[af];dsimp only;rw[if_pos hx,if_pos h1];exact A
  .right
   obtain⟨_,e,h2⟩:=h1;exact⟨⟨(a.two x hx).2.2,(a.two x hx).1⟩,e,by show dX _ ((jx c aU l.aw D).view x)=_;rw[Bn];exact h2⟩
 rw[show S.st=st by rw[y]]at a5;refine a5.use ?_;rintro v bF ⟨aq,bH,G,a7,J⟩;rw[fv]at G a7 J;have bI:ag (b4 D) w R:=cE aV B.x λq _ h=>h.elim;have bK:∀q,T.N q->b4 D q\/w<=q:=λq o=>by
  rw[b]at o;obtain h1|h1|h1|h1:=o
  .rcases U q h1 with h2|h2|h2
   .exact .inr I
   .exact .inr I
   .exact .inl h2
  .have h1:q=bd:=h1
   exact .inr I
  .exact .inr (W q h1).1
  .exact h1.elim
 have a8:ag (b4 D) w bF:=cE bI G.to.ah λq cm o=>(bK q o).resolve_right I;obtain⟨rfl,cn,bL⟩|⟨e,rfl,he,bM⟩:=J
 .refine⟨0,rfl,nofun,λ_=>⟨a8,.inl ?_⟩⟩
  have a9:∀x∈aL,D.now x=V x:=λx hx=>by
   rcases eN x ((a.g x).2 (.inl hx)) with h1|⟨_,e,h1⟩
   .exact h1
   .exfalso
    have K:=bL x hx;rw[b]at K;have K:P' x=P x:=K;have aD:∃bN,P x=some bN:=by
     obtain⟨_,_,h2,_⟩|h2:=a.ok
     .rw[h2]at hx;cases hx
     .exact h2.node _ x hx
    obtain⟨bN,dd⟩:=aD;rw[dd,af]at K;dsimp only at K;rw[if_pos hx]at K;by_cases h2:D.now x=V x
    .obtain⟨p,z,_⟩:=a.eS x hx bN dd
     rw[h2,z]at h1;cases h1
    .rw[if_neg h2]at K;cases K
  have bQ:∀j,g j=true->D.bJ.getD j []=V j:=λj F=>by
   have bR:D.now j=D.bJ.getD j []:=by rw[yt D (λx hx=>(h.wn x hx).1),if_pos (aF j F)]
   rw[←bR];rcases(a.g j).1 F with h1|h1|h1
   .exact a9 j h1
   .rcases dV j 1 with h2|h2
    .rw[show j=0 from I];exact bi
    .rw[show j=1 from I];exact bj
   .rw[h1];exact bw
  have bS:∀x∈aL,P x=P' x:=λx hx=>by rw[af];dsimp only;rw[if_pos hx,if_pos (a9 x hx)]
  have bT:dJ R S aL bG aL bG:=by
   have hd:=a.agree bQ bS;rw[y];refine⟨⟨by rw[y]at aB;exact aB,a0,by rw[b];exact .inl rfl,by rw[b];exact hd,by rw[b],⟨a.F_.clock,cI _,a.Ga,by show gen+2<_;omega,?_,?_,?_⟩,λj F=>?_⟩,?_,a.bN,by rw[b];exact a.g,λx hx=>⟨(a.two x hx).1,(a.two x hx).2.1⟩,a.kv,a.keys,cI _,λ_=>⟨?_,by rw[b];exact aI,?_⟩,nofun⟩
   .have:=O.2.2.2.1;show l.batch<=1000;omega
   .have:=O.2.2.2.2.2;show l.h5<=1048576;omega
   .have:=O.2.2.1;show 1<=l.batch;omega
   .have F:T.g j=true:=F
    show T.C.D.cl j=true;rw[b]at F⊢;show D.cl j=true;rw[hs];exact F
   .have h1:=hd.ok
    rw[b];exact h1
   .intro e
    have h1:=e D.n;have h2:T.C.D.cl=g:=by rw[b];exact hs
    have h1:T.C.D.cl D.n=true:=h1;rw[h2,aR D.n (bk _)]at h1;cases h1
   .obtain⟨j,bU,bV⟩:=a.fr
    have h1:=uz (s:=λi=>g i||g i) (t:=dA (λi=>g i||g i) j true) (k:=j) (by simp[bV]) (by simp[dA]) (λi hi=>by simp[dA,hi]) (n:=D.n) bU;have h2:=nF (dA (λi=>g i||g i) j true) D.n;have z:cy T=D.n-e1 (λi=>g i||g i) D.n:=by rw[b];rfl
    show 1<=cy T;omega
  obtain⟨a1,a2,a3⟩:=bT.to bH (fv▸G.to) (fv▸G.E) (fv▸a7) ⟨by rw[fv];exact G.root,by rw[fv];exact G.aK,by rw[fv];exact G.f,λno _=>by rw[fv];exact⟨congrFun G.P no,G.view no⟩⟩;have bW:S.T.C.D.quiet:=by rw[fv,b];exact o
  refine⟨S.c6 aq,by rw[show(S.c6 aq).st=st by rw[y];rfl],a1,by rw[y];rfl,by rw[y];rfl,by rw[y];rfl,by rw[y];rfl,by rw[y];rfl,by rw[y];rfl,?_,?_,a2.q bW,?_,λq bX=>?_,λq=>?_,?_,?_⟩
  .rw[a2.d,fv,b];rfl
  .rw[a2.n,fv,b]
  .have h1:=a2.aX
   have h2:S.T.C.D.aX=D.aX:=by rw[fv,b];rfl
   omega
  .have h1:=G.to.c1 q bX
   obtain h1|h1:=h1
   .rw[b]at h1
    obtain h1|h1|h1|h1|h1:=h1
    .rcases U q h1 with h2|h2|h2
     .exact .inr (.inr I)
     .exact .inr (.inr I)
     .exact .inl h2
    .have h1:q=bd:=h1
     exact .inr (.inr I)
    .exact .inr (.inr (W q h1).1)
    .have h1:q=st\/a_ q:=h1
     obtain h1|h1:=h1
     .exact .inr (.inr I)
     .exact .inr (.inl h1)
    .exact h1.elim
   .exact .inr (.inr I)
  .show aq.E q↔q=(S.c6 aq).st\/a_ q
   rw[G.E,b,y];rfl
  .show w.heap.size<=S.st
   rw[y];show w<=st;omega
  .rw[a2.r,fv,b];rfl
 .refine⟨e,rfl,λ_=>⟨a8,.inr ⟨e,rfl,he,?_⟩⟩,λhx=>absurd (by simpa using hx) he⟩
  obtain h1|⟨x,hx,h1⟩|h1:=bM
  .rw[b]at h1
   exact absurd (o.1 _) h1
  .have ba:=(a.g x).2 (.inl hx)
   refine⟨x,ba,?_⟩;rcases eN x ba with h2|h2
   .exfalso
    obtain⟨_,bY,z⟩:=h1;rw[b]at z;have z:dX ((x:Nat):Int) ((jx c aU l.aw D).view x)=.error bY:=z;rw[Bn,h2]at z;have aD:∃bN,P x=some bN:=by
     obtain⟨_,_,aE,_⟩|aE:=a.ok
     .rw[aE]at hx;cases hx
     .exact aE.node _ x hx
    obtain⟨bN,dd⟩:=aD;obtain⟨p,bZ,_⟩:=a.eS x hx bN dd;rw[bZ]at z;cases z
   .exact h2
  .exact absurd (by rw[a.keys]) h1
end
end Go.Proofs.YtcmgnhkpfllinaaGreat
