/- Contracts of the functions that the statement reaches, and the plain laws over them; each theorem stands with its conditions. -/
import Derived.Test.YtcmgnhkpfllinaaGreatBFPlays5
namespace Go.Proofs.YtcmgnhkpfllinaaGreat
open Go aU Go.Proofs.Tryz
variable{i m k d a:Nat}{w w' w0:J}{l b:O UInt8}{v:Y}{n:aA}{B:U1}{R:U2}{secs:O bY}{no:Int}
section
variable {w w':J}{C:cp}{X:U1}
def Fr.iz(f:Fr):ag:=f.full&&f.gN
theorem KJ:jN aj 179:=⟨Tryz.f179,func179,by kernel_rfl,by kernel_rfl⟩
theorem KK(f:Fr)(w:J):aI aj 179 #[.agg #[f.full,f.gN,f.used,f.no,f.pins,f.b]] w (λv w'=>v=f.iz/\Ext w w'):=by
 refine okF (ad.wU f.full f.gN f.used f.no f.pins f.b) ay.wU func179 ?_;(delta ad.wU aW ae af tc;dsimp only);refine bg (vs:=f.c) rfl λw1 a hx hs=>⟨f.full,a.cell,cx (λb w'=>b=f.iz/\w1=w') (λq d=>⟨λh=>⟨f.gN,a.cell,d _ _ ⟨by unfold Fr.iz;rw[h];rfl,rfl⟩⟩,λh=>d _ _ ⟨by unfold Fr.iz;rw[h];rfl,rfl⟩⟩) ?_⟩;rintro _ _ ⟨rfl,rfl⟩;exact⟨rfl,hx⟩
def ld(fs:O Fr):O Int:=(fs.filter Fr.iz).map Fr.no
theorem KL(h:fA w C):aI aj 126 #[.pointer (some C.c)] w (λv w'=>∃ (s:U) (zs:O Int),v=s/\aL 1 3 w' s (zs.map encZ)/\zs.Perm (ld C.al)/\Ext w w'/\∀q,ar s q->w<=q):=by
 obtain⟨bM,aR,a7⟩:=h.cells
 have Z:=h.b4
 refine okF (ad.wJ (some C.c)) ay.wJ func126 ?_
 (delta ad.wJ bU;dsimp only)
 refine Calls.mono (ad.G9 (some C.c) ⟨179,#[],#[]⟩ w (λv w'=>∃ (s:U) (zs:O Int),v=s/\aL 1 3 w' s (zs.map encZ)/\zs.Perm (ld C.al)/\Ext w w'/\∀q,ar s q->w<=q) ?_) ?_
 · (delta ad.tD af aE aJ jd aQ aO aW aV r1 bf ae tc aT av ap ai e6;dsimp only)
   refine⟨nofun,λ_=>⟨_,rfl,⟨some C.a8,C.al.length,C.al.length⟩,aR,λs n w'=>∃i:Nat,n=(i:Int)/\i<=C.al.length/\aL 1 3 w' s ((ld (C.al.take i)).map encZ)/\Ext w w'/\∀q,ar s q->w<=q,λ_ n _=>((C.al.length:Int)-n).toNat,⟨0,rfl,cw _,by simpa[ld] using aL.none 1 3 w,.refl _ _,λq e=>(gE q e).elim⟩,?_⟩⟩
   rintro s _ p ⟨i,rfl,hi,a,hx,g⟩
   have A:=h.ext hx
   refine⟨λaB=>?_,λB=>?_⟩
   · have r:i<C.al.length:=by
       have:(i:Int)<(C.al.length:Int):=bB aB
       omega
     obtain⟨f,hf⟩:=U6 (C.al[i])
     have aa:(ld (C.al.take i)).length<=64:=by
       unfold ld
       rw[cV]
       have:=nU Fr.iz (C.al.take i)
       rw[cQ]at this;omega
     have t:ld (C.al.take (i+1))=ld (C.al.take i)++(if f.iz then [f.no] else []):=by
       unfold ld
       rw[gv r,lR,eU,←hf,uM,List.filter_nil]
       congr 1
       split<;>rfl
     refine cx (λs w'=>aL 1 3 w' s ((ld (C.al.take (i+1))).map encZ)/\Ext w w'/\∀q,ar s q->w<=q) (λq e=>?_) ?_
     · have hc:∀j,j<6->p.cell? ⟨C.a8,i*6+j,none⟩=(f.c)[j]? :=λj D=>by rw[hf];exact k3 A.f r D
       refine⟨_,rfl,⟨I,by show(i:Int)<(C.al.length:Int);omega⟩,?_⟩
       rw[ua]
       refine⟨f.full,hc 0 (by decide),f.gN,by rw[aw];exact hc 1 (by decide),f.used,by rw[aw];exact hc 2 (by decide),f.no,by rw[aw];exact hc 3 (by decide),f.pins,by rw[aw];exact hc 4 (by decide),f.b,by rw[aw];exact hc 5 (by decide),?_⟩
       refine bg (vs:=[false,false,false,U8,U8,()]) rfl λab u E ac=>⟨u.cF rfl (λv l=>?_),rfl,c6 u (us:=f.c) rfl rfl λy d F ag=>?_⟩
       · simp only[cN,er,ez]at l
         rcases l with rfl|rfl|rfl|rfl|rfl|rfl<;>trivial
       have G:Ext p y:=Ext.bQ E F (a_ _)
       refine⟨f.full,d.cell,f.gN,by rw[aw];exact d.cell,f.used,by rw[aw];exact d.cell,f.no,by rw[aw];exact d.cell,f.pins,by rw[aw];exact d.cell,f.b,by rw[aw];exact d.cell,KJ,(KK f y).use ?_⟩
       rintro _ m ⟨rfl,z⟩
       have k:=Ext.trans G z
       have H:=d.ext z
       refine⟨_,rfl,λhd=>⟨f.no,by rw[aw];exact H.cell,aH ?_⟩,λhd=>e _ _ ⟨?_,Ext.trans hx k,g⟩⟩
       · have o:Ext m (m.alloc (.cells #[encZ f.no] 3)):=dc _ _
         obtain⟨J,K,ao,L,_,M,N⟩:=mL.append (c7:=72) (x:=⟨some m.heap.size,1,1⟩) (Src.new (T:=3) m [encZ f.no] 1 rfl) ((a.ext k).ext o) (λv l=>by rw[dV.1 l];trivial) (by
           have:s.len=(ld (C.al.take i)).length:=by
             have:=a.1
             rw[cV]at this;omega
           show(2*(s.len+1)+1000)*8<=_;omega)
         refine⟨J,K,ao,e _ _ ⟨?_,?_,λq e=>?_⟩⟩
         · rw[t,hd,if_pos rfl,eU];exact L
         · exact Ext.dH (Ext.trans (Ext.trans hx k) o) M g
         · rcases N q e with h1|h1
           · exact g q h1
           · have:=(Ext.trans hx k).size
             have:=o.size;omega
       · rw[t,hd]
         simp only[gr,if_false,fO]
         exact a.ext k
     · rintro ah ak ⟨h1,P,Q⟩
       have R:IntKind.wrap .i64 ((i:Int)+1)=((i+1:Nat):Int):=by rw[bl I I];omega
       rw[R]
       exact⟨⟨i+1,rfl,I,h1,P,Q⟩,by show((C.al.length:Int)-((i+1:Nat):Int)).toNat<((C.al.length:Int)-(i:Int)).toNat;omega⟩
   · have S:i=C.al.length:=by
       have:¬(i:Int)<(C.al.length:Int):=bT B
       omega
     rw[S,gD]at a
     refine(zZ a (by
       unfold ld
       rw[cV]
       have:=nU Fr.iz C.al;omega)).use ?_
     rintro _ am ⟨rfl,V,zs,W,X⟩
     exact⟨rfl,s,zs,rfl,W,X.1,Ext.dH hx V g,g⟩
 · rintro _ w1 ⟨_,rfl,s,zs,rfl,a,Y,hx,hf⟩
   exact⟨s,rfl,s,zs,rfl,a,Y,hx,hf⟩
end
section
variable {w w':J}{C:cp}{X:U1}
theorem KM{D:aS}{no:Nat}{s:U}{l:bY}{N:Nat}(a:∀q,ar s q->bO D q\/N<=q):∀q,bO (D.put no s l) q->bO D q\/N<=q:=by
 rintro q (e|e|e|⟨x,hx,e⟩)
 .exact .inl (.inl e)
 .exact .inl (.inr (.inl e))
 .exact .inl (.inr (.inr (.inl e)))
 .rcases cN.1 hx with rfl|hx
  .exact a q e
  .exact .inl (.inr (.inr (.inr ⟨x,(j4.1 hx).1,e⟩)))
theorem fA.kW{az:aS}(h:fA w C)(hd:cf w' az)(e:az.d=C.D.d)(hc:aa (bO C.D) w w')(hf:∀q,bO az q->bO C.D q\/w<=q):fA w' {C with D:=az}:=by
 have h1:=h.v.ab hc h.a1.2.1;rw[←e]at h1;have a:C.c<w.heap.size:=h.v.lt;have b:C.a8<w.heap.size:=bp.lt h.f;refine⟨h1,bp.ab h.f hc h.a1.2.2,hd,h.bJ,h.b4,h.hd,h.a1.1,λg=>?_,λg=>?_⟩
 .rcases hf _ g with g|g
  .exact h.a1.2.1 g
  .have g:w.heap.size<=C.c:=g
   omega
 .rcases hf _ g with g|g
  .exact h.a1.2.2 g
  .have g:w.heap.size<=C.a8:=g
   omega
def cp.wrote(C:cp)(i no:Nat)(hi:i<C.al.length)(s:U):cp:={C with al:=C.al.set i {C.al[i] with gN:=false},D:=C.D.put no s (C.al[i]).l}
theorem KN(h:ej X w C){no:Nat}(hi:i<C.al.length)(hf:(C.al[i]).full=true)(t:(C.al[i]).no=no){s:U}(J:¬C.D.cj no=true)(hd:cf w' (C.D.put no s (C.al[i]).l))(hc:aa (bO C.D) w w')(Z:∀q,ar s q->bO C.D q\/w<=q):
 (∃u:Y,w'.cell? ⟨C.a8,i*6+1,none⟩=some u)/\w'.frozen? ⟨C.a8,i*6+1,none⟩=false/\ej X (w'.setCell ⟨C.a8,i*6+1,none⟩ false) (C.wrote i no hi s)/\
   eL C (C.wrote i no hi s) w (w'.setCell ⟨C.a8,i*6+1,none⟩ false) 1/\∀j,(C.wrote i no hi s).view j=C.view j:=by
 have z:=KM (no:=no) (l:=(C.al[i]).l) Z;obtain⟨az,x⟩:=U6 (C.D.put no s (C.al[i]).l);have B:∀j,az.now j=if j=no then (C.al[i]).l else C.D.now j:=by rw[x];exact p2 _ _ _ _
 have K:az.d=C.D.d:=by rw[x];rfl
 have ab:az.n=C.D.n:=by rw[x];rfl
 have ac:az.key=C.D.key:=by rw[x];exact D1 C.D J
 have L:lI az C.D:=by rw[x];exact DZ h.inv J
 have aq:az.aZ=C.D.aZ+1:=by rw[x];rfl
 have ad:∀m,C.D.calm (m+1)->az.calm m:=λm ae=>by rw[x];exact(kE (.inr rfl) h.raw.dev.f4 ae).1
 unfold cp.wrote;rw[←x]at hd z⊢;have M:=h.raw.kW hd K hc z;obtain⟨a1,a2,a3,a4⟩:=oN M.f hi (j:=1) (by decide) (v:=false) {C.al[i] with gN:=false} rfl;obtain⟨g,o⟩:∃g:Fr,g={C.al[i] with gN:=false}:=⟨_,rfl⟩;rw[←o]at a3⊢;refine⟨a1,a2,?_⟩;generalize w'.setCell ⟨C.a8,i*6+1,none⟩ false=E at a3 a4;have H:aa (di C) w E:=cn (hc.mono λq _ e=>.inr (.inr e)) a4 λq _ e=>.inr (.inl e);obtain⟨y,ao,af,ag,ah,au,av,ai⟩:=h.inv.ok _ (cg hi) hf;have aj:y=no:=by rw[t]at ao;omega
 subst aj;obtain⟨a,r⟩:∃a:cp,a={C with al:=C.al.set i dU,D:=az}:=⟨_,rfl⟩;have h1:gY X E a:=by
  rw[r];exact Ab (V:=di C) hi h.inv H (λ_ _ h=>h) L (λj A=>by rw[B,if_neg λe=>A hf (by rw[t,e])]) z dU rfl rfl
 have v1:∀j,a.view j=C.view j:=λj=>by
  rw[r];exact DY hi h.inv (λ_ j A=>by rw[B,if_pos (by rw[t]at A;omega)]) (λj A=>by rw[B,if_neg λe=>A hf (by rw[t,e])]) dU rfl j
 have F:a.al=C.al.set i dU:=by rw[r]
 have N:i<a.al.length:=by rw[F,c_];exact hi
 have O:∀ (k:Nat) (ak:k<a.al.length),k≠i->(a.al[k]).full=true->(a.al[k]).no≠y:=λk ak P G Q=>by
  simp only[F,fD (Ne.symm P)]at G Q;exact P (h.inv.un k i _ hi G hf (by rw[Q,t]))
 have R:C.al.set i g=a.al.set i g:=by rw[F,set_set]
 have S:({C with al:=C.al.set i g,D:=az}:cp)={a with al:=a.al.set i g,D:=az}:=by rw[R,r]
 have am:bI (λq=>¬di {C with al:=C.al.set i g,D:=az} q/\¬X q) E g.b g.l:=by
  rw[o];refine bI.re ag H (λq _ T=>T.1) λq T W=>⟨λp=>W.1 ?_,W.2⟩;obtain p|p|p:=p
  .exact .inl p
  .exact .inr (.inl p)
  .exact .inr (.inr ((z q p).resolve_right I))
 have G:gY X E {C with al:=C.al.set i g,D:=az}:=by
  rw[S];refine Ac (C:=a) (no:=y) (V:=λ_=>False) N h1 (.refl _ _) (λ_ _ h=>h.elim) (by rw[r];exact⟨rfl,λ_ h=>h,L.2.2⟩) (λj=>by rw[r]) (λq=>by rw[r]) g (o▸hf) (by rw[o];exact h.inv.pins (C.al[i]) (cg hi)) ⟨by rw[o];exact t,by show y<az.n;rw[ab];exact af,by rw[←S];exact am,by rw[o];exact ah,λ_=>?_,λ_=>by rw[o],ai⟩ O;show g.l=az.now y;rw[B,if_pos rfl,o]
 have an:∀j,({C with al:=C.al.set i g,D:=az}:cp).view j=C.view j:=λj=>by
  have ap:({C with al:=C.al.set i g,D:=az}:cp)=cp.mk a.c a.a8 (a.al.set i g) C.hand az:=by rw[R,r]
  rw[ap,Ad (C:=a) (hd:=C.hand) (az:=az) (no:=y) N h1.un (λj=>by rw[r]) g (o▸hf) (o▸t) (λp=>by simp only[F,hW]at p;cases p) O j,v1];split
  .rename_i e
   subst e;have:=nE (fs:=C.al) (D:=C.D) (c:=C.c) (a8:=C.a8) (hd:=C.hand) h.inv.un hi hf t;rw[o];exact this.symm
  .rfl
 refine⟨⟨?_,G⟩,⟨rfl,K,by show(C.al.set i _).length=_;rw[c_],ac,by show az.aZ<=_;omega,ad,H,?_⟩,an⟩
 .refine Ae (C:={C with D:=az}) M a4 a3
 .rintro q (e|e|e)
  .exact .inl (.inl e)
  .exact .inl (.inr (.inl e))
  .exact(z q e).imp (λh=>.inr (.inr h)) id
theorem AJ{az:aS}(h:ej X w C)(hd:cf w' az)(e:az.d=C.D.d)(b:lI az C.D)(a:∀i,az.now i=C.D.now i)(hc:aa (bO C.D) w w')(hf:∀q,bO az q->bO C.D q\/w<=q):ej X w' {C with D:=az}/\∀j,({C with D:=az}:cp).view j=C.view j:=
 ⟨⟨h.raw.kW hd e hc hf,uc (C:=C) (hd:=C.hand) h.inv (iP.refl _) (hc.mono λq _ e=>.inr (.inr e)) (λ_ _ h=>h) b a hf⟩,λj=>ud (C:=C) (hd:=C.hand) h.inv (iP.refl _) a j⟩
theorem KO(h:ej X w C)(hc:∀f∈C.al,f.iz=false)(j:Nat):C.view j=C.D.now j:=by
 unfold cp.view
 cases b:C.al.find? λf=>f.full&&f.no==(j:Int) with
 |none=>rfl
 |some f=>
  have c:=jL b;have a:=kP b;simp only[dM,gP]at a;obtain⟨no,ao,g,i,k,d⟩:=h.inv.ok f c a.1;have h1:=hc f c;unfold Fr.iz at h1;rw[a.1,j3]at h1;have e:no=j:=by rw[a.2]at ao;omega
  rw[←e];exact d h1
theorem EP{D:aS}(h:cf w D)(i:Nat):D.j0.now i=D.now i:=by
 by_cases hi:i<D.n
 .exact AH D hi
 .have h1:D.now i=[]:=by
   unfold aS.now
   cases hf:D.waits.find? λx=>x.i==i with
   |some x=>
    have hx:=jL hf;have he:x.i=i:=by simpa using kP hf
    have:=(h.wn x hx).2.1;omega
   |none=>
    have:¬i<D.bk.length:=hi;show D.bk.getD i []=[];rw[fi,mw I];rfl
  rw[h1];show((List.range D.n).map D.now).getD i []=[];rw[fi,mw (by simp;omega)];rfl
theorem uu(D:aS)(h:D.calm m):(D.cI 3).calm m:=by
 unfold aS.calm aS.cI at*;simpa[fi] using h
theorem eL.r1{C aM:cp}(h:eL C aM w w' k):aM.D.r1=C.D.r1:=congrArg (λk:(O bY×(Nat->ag)×(Nat->O bY)×(Int->Prop)×ag)×Int=>k.1.2.2.2.2) h.bk
structure KP(X:U1)(C aM:cp)(w:J)(v:Y)(w':J):Prop where
 at_:ej X w' aM
 c:aM.c=C.c
 d:aM.D.d=C.D.d
 len:aM.al.length=C.al.length
 n:aM.D.n=C.D.n
 cj:aM.D.cj=C.D.cj/\aM.D.eS=C.D.eS
 r:aM.D.r1=C.D.r1
 aZ:aM.D.aZ<=C.D.aZ+64
 calm:∀m,C.D.calm (m+64)->aM.D.calm m
 ab:aa (di C) w w'
 dr:∀q,di aM q->di C q\/w<=q
 view:∀j,aM.view j=C.view j
 jT:(v=.int .i64 0/\aM.D.waits=[]/\(∀f∈aM.al,f.iz=false)/\aM.D.bN.getD 3 0=(gz (C.D.bN.getD 3 0)).2)\/(v=.int .i64 3/\aM.D.bk=C.D.bk/\(¬C.D.calm 64\/C.D.fl 3=true))
theorem KQ(h:ej X w C)(a7:C.D.aZ<=999999900)(au:∀j,C.D.cj j=true->C.D.eS j=[]):aI aj 147 #[.pointer (some C.c)] w (λv w'=>∃aM,KP X C aM w v w'):=by
 have a9:=h.raw.b4;refine okF (ad.wP (some C.c)) ay.wP func147 ?_;(delta ad.wP af bU cW aQ aO r1 aV jS aE aJ b5 st ai;dsimp only);refine⟨nofun,λ_=>(KL h.raw).use ?_⟩;rintro _ w1 ⟨s,zs,rfl,hs,N,Z,av⟩;have hlen:s.len=zs.length:=by have:=hs.1;rw[cV]at this;omega
 have a_:zs.length<=64:=by
  rw[N.length_eq];unfold ld;rw[cV];have:=nU Fr.iz C.al;omega
 have h1:=h.ext Z;have az:∀z∈zs,∀no:Nat,(no:Int)=z->¬C.D.cj no=true:=λz t no ba hs=>by
  obtain⟨f,hf,e⟩:=df.1 (N.mem_iff.1 t);obtain⟨R,u⟩:=j4.1 hf;unfold Fr.iz at u;rw[dM]at u;obtain⟨m,bJ,_,_,_,_,ac,aA⟩:=h.inv.ok f R u.1;have:m=no:=by rw[e]at bJ;omega
  subst this;rw[ac hs]at u
  cases u.2
 refine⟨s,rfl,λn w'=>∃ (i:Nat) (g:cp),n=(i:Int)/\i<=zs.length/\ej X w' g/\eL C g w w' i/\(∀j,g.view j=C.view j)/\aL 1 3 w' s (zs.map encZ)/\(∀f∈g.al,f.iz=true->f.no∈zs.drop i)/\(∀z∈zs,∃f∈g.al,f.full=true/\f.no=z)/\∀q,di g q->¬ar s q,
  λn _=>((zs.length:Int)-n).toNat,⟨0,C,rfl,cw _,h1,eL.ext C Z,λ_=>rfl,hs,λf hf hd=>?_,λz t=>?_,λq o O=>?_⟩,?_⟩
 .exact N.mem_iff.2 (df.2 ⟨f,j4.2 ⟨hf,hd⟩,rfl⟩)
 .obtain⟨f,hf,e⟩:=df.1 (N.mem_iff.1 t)
  obtain⟨R,u⟩:=j4.1 hf;unfold Fr.iz at u;rw[dM]at u;exact⟨f,R,u.1,e⟩
 .have:=av q O;have:=h.raw.lt o;omega
 rintro _ S ⟨i,g,rfl,hi,p,l,P,T,ae,hex,ag⟩;have bb:=l.aZ;refine⟨λaB=>?_,λaC=>?_⟩
 .have G:i<zs.length:=by
   have:(i:Int)<(s.len:Int):=bB aB;omega
  obtain⟨a,aD,aF⟩:∃a:ax,s.a=some a/\S.cell? (a.add (Int.toNat (i:Int)*1))=some (.int .i64 zs[i]):=by
   obtain⟨b,c,y,_,_,_,_,U,_⟩:=T.cell (i:=i) (v:=encZ zs[i]) (by rw[ko,dB G];rfl);exact⟨_,y,by rw[cS,aw,cT,eY];exact U⟩
  refine⟨a,aD,⟨I,by show(i:Int)<(s.len:Int);omega⟩,zs[i],aF,?_⟩;rw[←l.c];refine(xU p.raw _).use ?_;rintro _ _ ⟨aG,rfl⟩;obtain⟨f,aK,aN,aP⟩:=hex zs[i] (cg G);obtain⟨k,H,rfl,ao,V⟩|⟨_,aR⟩:=aG
  rotate_left
  .exact absurd aP (aR f aK aN)
  have J:=cc S;have B:=p.ext J;obtain⟨no,bJ,b4,ak,aT,bc,ac,aA⟩:=B.inv.ok _ (cg H) ao;have t:zs[i]=(no:Int):=by rw[←V,bJ]
  have aU:=k3 B.raw.f H (j:=5) (by decide);refine⟨_,rfl,aH ⟨_,rfl,id,_,B.raw.cells.1,_,rfl,id,(g.al[k]).b,aU,?_⟩⟩;rw[t];refine(xL B.raw.dev (i:=no) b4 I ak.1 aT λq o hf=>(ak.2.2 q o).1.1 (.inr (.inr hf))).use ?_;rintro aW ah aX;have aY:=l.ab.size;have bd:=J.size;obtain⟨y,rfl,E,r⟩|⟨y,rfl,s2,E,r,a0⟩:=aX
  .obtain⟨gA,K⟩:=AJ B E rfl (B.inv.cI 2) (λj=>xV g.D 2 j) (r.mono λq _ e=>.inl e) λq o=>.inl o
   refine⟨3,rfl,λ_=>⟨{g with D:=g.D.cI 2},gA,l.c,l.d,l.len,l.n,l.p6,l.r1,by show g.D.aZ<=_;omega,λm L=>?_,?_,?_,λj=>(K j).trans (P j),.inr ⟨rfl,?_,.inl λa1=>?_⟩⟩,nofun⟩
   .exact(kE (.inr rfl) p.raw.dev.f4 (l.calm (m+1) (gM L I))).1
   .refine cn (l.ab.trans (aa.da J)) r λq o e=>?_
    exact(l.dr q (.inr (.inr (.inl e)))).resolve_right I
   .exact l.dr
   .exact congrArg (λk=>k.1.1) l.bk
   .have:=(kE (k:=2) (m:=0) (.inr rfl) p.raw.dev.f4 (l.calm 1 (gM a1 I))).2
    rw[y]at this;cases this
  .obtain⟨bm,bt,am,Q,a2⟩:=KN B H ao (by rw[V,t]) (λhs=>az _ (cg G) _ t.symm (l.cj▸hs)) E r a0
   refine⟨0,rfl,nofun,λ_=>⟨_,rfl,bm,bt,?_⟩⟩;rw[aw];refine aH ?_;generalize ah.setCell ⟨g.a8,k*6+1,none⟩ false=be at am Q;have a3:IntKind.wrap .i64 ((i:Int)+1)=((i+1:Nat):Int):=by rw[bl I I];omega
   rw[a3];have a4:=(l.trans (eL.ext g J)).trans Q;have a5:zs.drop i=zs[i]::zs.drop (i+1):=j5 G;refine⟨⟨i+1,_,rfl,I,am,a4,λj=>(a2 j).trans (P j),(T.ext J).ab Q.ab λq o hf=>ag q hf o,λf hf A=>?_,λz t=>?_,λq o O=>?_⟩,by show((zs.length:Int)-((i+1:Nat):Int)).toNat<((zs.length:Int)-(i:Int)).toNat;omega⟩
   .have hf:f∈g.al.set k {g.al[k] with gN:=false}:=hf
    obtain⟨b,W,rfl⟩:=eO hf;have an:b<g.al.length:=by simpa using W
    by_cases e:k=b
    .subst e
     simp[Fr.iz]at A
    .simp only[fD e]at A⊢
     have F:=ae _ (cg an) A;rw[a5]at F;rcases cN.1 F with Y|Y
     .unfold Fr.iz at A
      rw[dM]at A;exact absurd (p.inv.un k b H an ao A.1 (by rw[V,Y])) e
     .exact Y
   .obtain⟨f,f1,f2,f3⟩:=hex z t
    obtain⟨b,W,rfl⟩:=eO f1;by_cases e:k=b
    .subst e
     exact⟨{g.al[k] with gN:=false},List.mem_set H _,f2,f3⟩
    .exact⟨g.al[b],uI.2 ⟨b,by show b<(g.al.set k _).length;rw[c_];exact W,by show(g.al.set k _)[b]'_=_;rw[fD e]⟩,f2,f3⟩
   .rcases Q.dr q o with F|F
    .exact ag q F O
    .have:=T.lt q O;omega
 .have G:i=zs.length:=by
   have:¬(i:Int)<(s.len:Int):=bT aC;omega
  have U:∀f∈g.al,f.iz=false:=λf hf=>by
   cases A:f.iz with
   |false=>rfl
   |true=>
    have:=ae f hf A;rw[G,List.drop_length]at this
    cases this
  have ap:g.D.bN.getD 3 0=C.D.bN.getD 3 0:=congrArg Prod.snd l.bk;rw[←l.c];refine⟨_,rfl,_,p.raw.cells.1,(AI p.raw.dev I).use ?_⟩;have aY:=l.ab.size;rintro aW ah (⟨y,rfl,E,r⟩|⟨y,rfl,E,r⟩)
  .obtain⟨gA,K⟩:=AJ p E rfl (p.inv.cI 3) (λj=>xV g.D 3 j) (r.mono λq _ e=>.inl e) λq o=>.inl o
   refine⟨3,rfl,{g with D:=g.D.cI 3},gA,l.c,l.d,l.len,l.n,l.p6,l.r1,by show g.D.aZ<=_;omega,λm L=>uu _ (l.calm m (gM L I)),cn l.ab r λq o e=>(l.dr q (.inr (.inr (.inl e)))).resolve_right I,l.dr,λj=>(K j).trans (P j),.inr ⟨rfl,congrArg (λk=>k.1.1) l.bk,.inr ?_⟩⟩;unfold aS.fl at y⊢;rw[←ap];exact y
  .have aq:∀q,bO (g.D.cI 3).j0 q->bO g.D q\/S<=q:=by
    rintro q (e|e|e|⟨x,hx,e⟩)
    .exact .inl (.inl e)
    .exact .inl (.inr (.inl e))
    .exact .inl (.inr (.inr (.inl e)))
    .cases hx
   have a6:∀j,(g.D.cI 3).j0.now j=g.D.now j:=λj=>by
    by_cases M:j<g.D.n
    .exact(AH (g.D.cI 3) M).trans (xV g.D 3 j)
    .have F:g.D.j0.now j=g.D.now j:=EP p.raw.dev j
     exact F
   obtain⟨gA,K⟩:=AJ p E rfl ⟨ur (g.D.cI 3),λ_ h=>h,λj M=>by
    have M:g.D.cj j=true:=M;have e:g.D.eS j=[]:=by rw[l.p6.2];exact au j (l.p6.1▸M)
    exact e.symm⟩ a6 r aq
   refine⟨0,rfl,{g with D:=(g.D.cI 3).j0},gA,l.c,l.d,l.len,(ur (g.D.cI 3)).trans l.n,l.p6,l.r1,by show g.D.aZ<=_;omega,λm L=>uu g.D (l.calm m (gM L I)),cn l.ab r λq o e=>(l.dr q (.inr (.inr e))).resolve_right I,λq o=>?_,λj=>(K j).trans (P j),.inl ⟨rfl,rfl,U,?_⟩⟩
   .obtain e|e|e:=o
    .exact l.dr q (.inl e)
    .exact l.dr q (.inr (.inl e))
    .rcases aq q e with e|e
     .exact l.dr q (.inr (.inr e))
     .exact .inr I
   .show(g.D.bN.set 3 _).getD 3 0=_
    have bf:=p.raw.dev.f4;rw[c8 (by rw[c_];omega),hW,ap]
end
def jJ(bE d c sb:Nat)(l:gB)(u:cD)(gen now first pending keys:Nat)(failed:ag):O Y:=
 [.pointer (some bE),.pointer (some d),.pointer (some c),.pointer (some sb),l.al,l.batch,.int .u64 (l.hG:Nat),
  u.root,u.aD,u.map,.int .u64 (u.clock:Nat),.int .u64 (u.dI:Nat),u.keys,
  .int .u64 (gen:Nat),.int .u64 (now:Nat),.int .u64 (first:Nat),pending,keys,failed]
section
variable {w w':J}{D:aS}
structure ER(D:aS)(l:gB)(u:cD)(gen sb:Nat)(w:J)(v:Y)(w':J)(c a8 bE st:Nat):Prop where
 val:v=.tuple #[.pointer (some st),U8]
 ca:ej (λ_=>False) w' (ji c a8 l.al D)
 fK:Var w' bE [.pointer (some c),.pointer (some sb),.int .u64 ((gen+1:Nat):Int),u.root,u.aD] 243
 sv:Var w' st (jJ bE D.d c sb l u gen u.clock 0 0 u.keys false) 146
 x:Ext w w'
 hc:w<=c/\c<bE
 hf:w<=a8/\a8<bE
 ht:bE<st
def aS.jo(D:aS)(s:Nat->ag)(z:Nat->O bY):aS:={D with cj:=s,eS:=z}
theorem cf.jo(h:cf w D)(s:Nat->ag)(z:Nat->O bY):cf w (D.jo s z):=⟨h.v,h.l,h.m,h.ws,h.wn,h.sl,h.jX,h.bL,h.bz,h.f4,h.fr,h.a1,h.a2,h.a3,h.r⟩
theorem oo(h:cf w D){l:gB}(q:8<=l.al/\l.al<=64){u:cD}(hu:ui D.n (u.root:Nat) (u.aD:Nat)){gen:Nat}(hg:gen+1<18446744073709551616)(s:∀j,D.cj j=true->D.eC j=D.eS j)(sb:Nat):
 aI aj 61 #[.pointer (some D.d),.agg l.c.toArray,.agg u.c.toArray,.int .u64 (gen:Nat),.pointer (some sb)] w (λv w'=>∃c a8 bE st,ER D l u gen sb w v w' c a8 bE st):=by
 refine ad.GR _ (l.al:Nat) (l.batch:Nat) (l.hG:Nat) (u.root:Nat) (u.aD:Nat) (u.map:Nat) (u.clock:Nat) (u.dI:Nat) (u.keys:Nat) (gen:Nat) (some sb) w _ ?_;(delta ad.oo aF r1 ae gR af aT bZ c0;dsimp only);refine bg (vs:=l.c) rfl λw1 t i H=>bg (vs:=u.c) rfl λah x b J=>?_;have r:=t.ext b;have y:=h.ext (i.trans b);refine⟨_,r.cell,(ra y q.1 q.2 s).use ?_⟩;rintro _ a ⟨c,a8,rfl,e,f,K,L⟩;have k:=x.ext f;have z:IntKind.wrap .u64 ((gen:Int)+1)=((gen+1:Nat):Int):=by rw[gl I I];omega
 rw[z];have M:(ji c a8 l.al D).D=D:=rfl;refine⟨_,0,rfl,nofun,λ_=>⟨_,k.cell,_,k.cell,(rf e.raw sb ((gen+1:Nat):Int) (u.root:Nat) (u.aD:Nat)).use ?_⟩⟩;rintro _ A (⟨_,rfl,g,B,N⟩|⟨C,_⟩)
 rotate_left
 .exact absurd hu C
 have m:=k.ext g;have o:=(r.ext f).ext g;have O:=(i.trans b).size;have P:=f.size;have E:c<a:=e.raw.lt (.inl rfl);have F:a8<a:=e.raw.lt (.inr (.inl rfl));refine⟨_,0,rfl,nofun,λ_=>⟨_,o.cell,_,o.cell,_,o.cell,fe m ⟨_,m.cell,_,m.cell,(jJ a D.d c sb l u gen u.clock 0 0 u.keys false).toArray,by kernel_rfl,bg (vs:=jJ a D.d c sb l u gen u.clock 0 0 u.keys false) rfl λQ G p R=>?_⟩⟩⟩;exact⟨c,a8,a.heap.size,A.heap.size,rfl,(e.ext g).ext p,B.ext p,G,Ext.trans (Ext.trans (i.trans b) f) (Ext.trans g p),⟨I,E⟩,⟨I,F⟩,I⟩
def fm(f:Nat->ag)(k:Nat):O UInt8:=(List.range k).map λi=>UInt8.ofNat (byteOf f i)
theorem ES(f:Nat->ag)(k:Nat):aC (fm f k)=e8 f k:=by
 unfold aC fm e8;rw[g2];refine qt λi _=>?_;have:=k2 f i;show Value.int .u8 (((UInt8.ofNat (byteOf f i)).toNat:Nat):Int)=_;rw[UInt8.toNat_ofNat',jx this]
theorem qc(f:Nat->ag)(k:Nat):(fm f k).length=k:=by simp[fm]
def iT:cD:=⟨0,0,2,0,0,0⟩
structure ET(D az:aS):Prop where
 d:az.d=D.d
 n:az.n=D.n
 now:∀j,az.now j=if j=1 then eA 1 (jG iT D.n 1) else if j=2 then eA 2 ⟨4,1,fm (λi=>decide (i<3)) ((D.n+7)/8)⟩ else if j=0 then fN else D.now j
 waits:az.waits=[]
 aZ:az.aZ=D.aZ+4
 calm:∀k,az.calm k
 bN:az.bN.getD 3 0= -1
 cj:az.cj=λi=>decide (i<3)
 eS:az.eS=λ_=> []
 r:az.r1=D.r1
structure KR(D:aS)(l:gB)(w:J)(v:Y)(w':J)(az:aS)(sb:Nat)(s1 s2:U)(c a8 bE st:Nat)(kD:J):Prop where
 r7:ER az l iT 1 sb kD v w' c a8 bE st
 sp:e1 w' sb D.n (λi=>decide (i<3)) (λi=>decide (i<3)) s1 s2
 kW:ET D az
 ab:aa (bO D) w kD
 uv:∀q,eH sb s1 s2 q->w<=q/\q<kD
 dq:∀q,bO az q->bO D q\/(w<=q/\q<kD)
 KS:∀q,eH sb s1 s2 q->¬bO az q
theorem oh(h:cf w D){l:gB}(aq:me (l.al:Nat) (l.batch:Nat) (l.hG:Nat))(bn:∀k,D.calm k)(rT:D.bN.getD 3 0= -1)(cb:D.aZ<=999999000):
 aI aj 21 #[.pointer (some ⟨D.d,0,none⟩),.agg l.c.toArray] w (λv w'=>∃az sb s1 s2 c a8 bE st kD,KR D l w v w' az sb s1 s2 c a8 bE st kD):=by
 have cc:=h.bL;have cd:=h.bz;refine ad.GL _ (l.al:Nat) (l.batch:Nat) (l.hG:Nat) w _ ?_;(delta ad.oh aF r1 ae aT bZ c0 bR af b5 gR bU dY ly cW ai eo bf;dsimp only);refine bg (vs:=l.c) rfl λw1 P H ce=>⟨_,P.cell,_,P.cell,_,P.cell,(pB w1 _ _ _ _).use ?_⟩;rintro _ bo ⟨rfl,B⟩;have bp:=h.ext (H.trans B);refine⟨_,rfl,λr=>?_,λ_=>(oI bp).use ?_⟩
 .rw[dm aq]at r;cases r
 rintro _ _ ⟨rfl,rfl⟩;refine⟨_,rfl,(q6 bo (D.n:Nat) 3).use ?_⟩;rintro _ cg (⟨bq,_⟩|⟨_,_,_,_,sb,s1,s2,rfl,hs,Y,Z⟩)
 .exact absurd ⟨I,I,I,I⟩ bq
 rw[cS]at hs;have ac:Int.toNat 3=3:=rfl;rw[ac]at hs;refine⟨_,0,rfl,nofun,λ_=>(DQ hs).use ?_⟩;rintro _ br ⟨aM,rfl,aN,J,ch⟩;rw[←ES]at aN;obtain⟨mp,Q⟩:=U6 (⟨4,1,fm (λi=>decide (i<3)) ((D.n+7)/8)⟩:h4);have aO:oF mp:=by rw[Q];exact⟨(by decide:1<=4),(by decide:4<=4),(by decide:1<18446744073709551616),by show(fm _ _).length<=232;rw[qc];omega⟩
 have aP:=xz (s:=aM) (p:=mp) (no:=2) (w:=br) (Q▸aN.src) (by decide) aO;rw[Q]at aP;refine⟨aM,rfl,aP.use ?_⟩;rw[←Q];rintro _ bs ⟨E,rfl,aR,M,bt⟩;have aU:=Ext.trans (Ext.trans (H.trans B) Y) (Ext.trans J M);have ci:=aU.size;refine⟨E,0,rfl,nofun,λ_=>⟨⟨I,I,I,I⟩,?_⟩⟩;rw[zC];have bu:Int.toNat 256=256:=rfl;rw[bu];have au:fN.length=256:=nS;refine bg (vs:=aC fN) rfl λz R F cj=>?_;obtain⟨aQ,bv⟩:=U6 bs.heap.size;rw[←bv]at R⊢;have ag:=Ext.trans aU F;have aV:Src 1 z ⟨some ⟨aQ,0,none⟩,256,256⟩ (aC fN):=R.CP (o:=0) (n:=256) (c:=256) (l:=fN) (by rw[dO,au];exact a_ _) (by rw[mn,eZ (by rw[dO,au];exact a_ _)]);refine⟨#[.slice (some ⟨aQ,0,none⟩) 256 256,.slice (some ⟨aQ,0,none⟩) 256 256,.slice E.a E.len E.cap],by kernel_rfl,?_⟩;have bw:(eA 2 mp).length=256:=tQ _ aO;obtain⟨vals,av⟩:=U6 (λj=>if j=2 then eA 2 mp else fN:Nat->bY)
 have bx:∀j,(vals j).length=256:=λj=>by
  rw[av];show(if j=2 then _ else _:bY).length=256;split
  .exact bw
  .exact au
 have bA:∀k,k<3->∃G:U,cellAt #[.slice (some ⟨aQ,0,none⟩) 256 256,.slice (some ⟨aQ,0,none⟩) 256 256,.slice E.a E.len E.cap] (Int.toNat ((k:Nat):Int)*1)=some (.slice G.a G.len G.cap)/\Src 1 z G (aC (vals k))/\∀q,ar G q->w<=q/\q<z:=by
  intro k aW;have bC:=R.lt;have ck:=F.size;rw[av];have hi:∀q,ar (⟨some ⟨aQ,0,none⟩,256,256⟩:U) q->w<=q/\q<z:=λq b=>by
   obtain⟨A,ak,rfl⟩:=b
   cases ak;show w<=aQ/\aQ<_;exact⟨I,bC⟩
  have cl:=(Ext.trans (Ext.trans (H.trans B) Y) J).size
  match k,aW with
  |0,_=>exact⟨⟨some ⟨aQ,0,none⟩,256,256⟩,rfl,aV,hi⟩
  |1,_=>exact⟨⟨some ⟨aQ,0,none⟩,256,256⟩,rfl,aV,hi⟩
  |2,_=>exact⟨E,rfl,aR.src.ext F,λq b=>U5 (bt q b) (aR.lt q b)⟩
 have bD:=h.ext ag;refine⟨λn w'=>∃ (k:Nat) (g:aS),n=(k:Int)/\k<=3/\cf w' g/\g.d=D.d/\g.n=D.n/\(∀j,g.now j=if j<k then vals j else D.now j)/\g.aZ=D.aZ+k/\(∀m,g.calm m)/\(g.bN.getD 3 0= -1/\g.r1=D.r1)/\aa (bO D) z w'/\(∀q,bO g q->bO D q\/z<=q),
  λn _=>((3:Int)-n).toNat,⟨0,D,rfl,cw _,bD,rfl,rfl,λj=>rfl,rfl,bn,⟨rT,rfl⟩,.refl _ _,λq b=>.inl b⟩,?_⟩
 rintro _ cm ⟨k,g,rfl,aW,N,ah,aX,aY,bF,ax,⟨ay,a0⟩,am,K⟩;have co:=am.size;refine⟨λaB=>?_,λbG=>?_⟩
 .have aA:k<3:=by
   have:((k:Nat):Int)<3:=bB aB;omega
  obtain⟨G,bH,bI,a1⟩:=bA k aA;have cO:∀q,ar G q->¬bO D q:=λq b hf=>U5 ((a1 q b).1) (h.lt hf)
  have a2:=xL N (i:=k) I I (bI.ab am cO) (bx k) λq b hf=>by
   rcases K q hf with h1|h1
   .exact cO q b h1
   .have:=(a1 q b).2;omega
  rw[ah]at a2;refine⟨⟨I,I⟩,G,bH,a2.use ?_⟩;rintro _ cp (⟨r,_⟩|⟨r,rfl,s,bJ,bK,bM⟩)
  .have:=(kE (k:=2) (m:=0) (.inr rfl) N.f4 (ax 1)).2
   rw[r]at this;cases this
  refine⟨0,rfl,nofun,λ_=>?_⟩;have bP:IntKind.wrap .i64 (((k:Nat):Int)+1)=((k+1:Nat):Int):=by rw[bl I I];omega
  rw[bP];refine⟨⟨k+1,_,rfl,I,bJ,ah,aX,λj=>?_,by show g.aZ+1=_;omega,λm=>(kE (.inr rfl) N.f4 (ax _)).1,⟨(congrArg Prod.snd (rX g (.inr rfl))).trans ay,a0⟩,cn am bK λq b hf=>(K q hf).resolve_right I,λq b=>?_⟩,by show((3:Int)-((k+1:Nat):Int)).toNat<((3:Int)-((k:Nat):Int)).toNat;omega⟩
  .rw[p2,aY]
   by_cases e:j=k
   .rw[if_pos e,if_pos I,e]
   .rw[if_neg e]
    by_cases S:j<k
    .rw[if_pos S,if_pos I]
    .rw[if_neg S,if_neg I]
  .rcases x6 bM q b with h1|h1
   .exact K q h1
   .exact .inr I
 have aA:k=3:=by
  have:¬((k:Nat):Int)<3:=bT bG;omega
 subst aA;have hf:=AI N I;rw[ah]at hf;refine hf.use ?_;rintro _ a3 (⟨r,_⟩|⟨_,rfl,aD,bS⟩)
 .unfold aS.fl at r
  rw[ay]at r;cases r
 obtain⟨de,C⟩:=U6 ((g.cI 3).j0);rw[←C]at aD;have a4:de.d=D.d:=by rw[C];exact ah
 have a5:de.n=D.n:=by rw[C];exact(ur _).trans aX
 have bV:de.r1=D.r1:=by rw[C];exact a0
 have bW:∀j,de.now j=if j<3 then vals j else D.now j:=λj=>by
  rw[←aY,C];have aE:g.j0.now j=g.now j:=EP N j;exact aE
 have cq:de.aZ=D.aZ+3:=by rw[C];exact bF
 have a6:∀m,de.calm m:=λm=>by rw[C];exact uu _ (ax m)
 have a7:de.bN.getD 3 0= -1:=by
  rw[C];show(g.bN.set 3 _).getD 3 0=_;have bX:=N.f4;rw[c8 (by rw[c_];omega),hW,ay];rfl
 have an:∀q,bO de q->bO D q\/z<=q:=λq b=>by
  rw[C]at b;obtain e|e|e|⟨x,hx,e⟩:=b
  .exact K q (.inl e)
  .exact K q (.inr (.inl e))
  .exact K q (.inr (.inr (.inl e)))
  .cases hx
 have ao:aa (bO D) z a3:=cn am bS λq b hf=>(K q hf).resolve_right I;have T:∀q,w.heap.size<=q->¬bO D q:=λq b hf=>U4 (h.lt hf)
 have b0:=((P.ext (B.trans (Ext.trans Y (Ext.trans J (Ext.trans M F))))).ab ao (T _ (a_ _)));have b1:=(hs.ext (Ext.trans J (Ext.trans M F))).ab ao λq b=>T q (U5 (Z q b) ((H.trans B).size));refine⟨0,rfl,nofun,λ_=>bg (vs:=cZ.c) rfl λcr b2 b3 cs=>fQ b2 rfl iT λb4 a9 b6 ct=>fe a9 ?_⟩;have V:Ext a3 b4:=Ext.bQ b3 b6 (a_ _);have W:=aD.ext V;have ba:=om W I (u:=iT) ⟨(by decide:0<4294967296),(by decide:0<256),(by decide:2<4294967296),(by decide:0<18446744073709551616),(by decide:0<18446744073709551616),(by decide:0<4294967296)⟩ (gen:=1) (by decide);rw[a4]at ba;refine ba.use ?_;have cu:=V.size;have cv:=ao.size;rintro _ bb ⟨ap,⟨r,_⟩|⟨_,s,b7,f,y,⟨r,_⟩|⟨_,rfl,X⟩⟩⟩
 .have:=(kE (k:=2) (m:=0) (.inr rfl) W.f4 (a6 1)).2
  rw[r]at this;cases this
 .have aG:f.bN.getD 3 0= -1:=by rw[y];exact(congrArg Prod.snd (rX de (.inr rfl))).trans a7
  unfold aS.fl at r;rw[aG]at r;cases r
 have aG:f.bN.getD 3 0= -1:=by rw[y];exact(congrArg Prod.snd (rX de (.inr rfl))).trans a7
 obtain⟨L,t⟩:=U6 (((f.cI 3).j0).jo (λi=>decide (i<3)) (λ_=> []));have X:=X.jo (λi=>decide (i<3)) (λ_=> []);rw[←t]at X;have b8:∀x∈f.waits,x.i<f.n:=λx hx=>by
  rw[y]at hx⊢;rcases cN.1 hx with rfl|hx
  .show 1%2<de.n;omega
  .exact(W.wn x (j4.1 hx).1).2.1
 have b9:∀j,L.now j=if j=1 then eA 1 (jG iT D.n 1) else if j<3 then vals j else D.now j:=λj=>by
  have aE:L.now j=f.now j:=by
   rw[t];by_cases bc:j<f.n
   .exact(AH (f.cI 3) bc).trans (xV f 3 j)
   .have O:f.now j=[]:=by
     unfold aS.now
     cases hf:f.waits.find? λx=>x.i==j with
     |some x=>
      have hx:=jL hf;have he:x.i=j:=by simpa using kP hf
      have:=b8 x hx;omega
     |none=>
      have:¬j<f.bk.length:=bc;show f.bk.getD j []=[];rw[fi,mw I];rfl
    rw[O];show((List.range (f.cI 3).n).map (f.cI 3).now).getD j []=[];rw[fi,mw (by simp;show f.n<=j;omega)];rfl
  rw[aE,y,p2,bW,a5]
 have aH:ET D L:=by
  refine⟨by rw[t,y];exact a4,by rw[t];exact(ur (f.cI 3)).trans (y▸a5),λj=>?_,by rw[t];rfl,by rw[t,y];show de.aZ+1=_;omega,λm=>by rw[t,y];exact uu (de.put (1%2) s (eA (1%2) (jG iT de.n 1))) (kE (.inr rfl) W.f4 (a6 _)).1,?_,by rw[t];rfl,by rw[t];rfl,by rw[t,y];exact bV⟩
  .rw[b9,av,←Q]
   by_cases O:j=1
   .rw[if_pos O,if_pos O]
   .rw[if_neg O,if_neg O]
    by_cases S:j=2
    .subst S;rfl
    .by_cases ac:j=0
     .subst ac;rfl
     .rw[if_neg I,if_neg S,if_neg ac]
  .rw[t]
   show(f.bN.set 3 _).getD 3 0=_;have bX:f.bN.length=4:=by rw[y];show(de.bN.set 2 _).length=4;rw[c_];exact W.f4
   rw[c8 (by rw[c_];omega),hW,aG];rfl
 have bd:∀q,bO L q->bO D q\/z<=q:=λq b=>by
  rw[t]at b;have h1:bO f q:=by
   obtain e|e|e|⟨x,hx,e⟩:=b
   .exact .inl e
   .exact .inr (.inl e)
   .exact .inr (.inr (.inl e))
   .cases hx
  rw[y]at h1;rcases x6 b7 q h1 with be|be
  .exact an q be
  .exact .inr I
 have bh:aa (bO D) z bb:=cn (cn ao V λq _ h=>h.elim) ap λq b hf=>(an q hf).resolve_right I;have aJ:=(b0.ext V).ab ap λhf=>by
  rcases an _ hf with h1|h1
  .exact T _ (a_ _) h1
  .have:=ag.size;have:=R.lt;have:=P.lt;have:=B.size;have:=Y.size;have:=J.size;have:=M.size;have:=F.size;omega
 have b_:=a9.ab ap λhf=>by
  have:=aD.lt hf;omega
 have bi:=(b1.ext V).ab ap λq b hf=>by
  have bj:=Z q b;have aK:=(hs.ext (Ext.trans J (Ext.trans M (aa.refl _ _)))).lt q b;rcases an _ hf with h1|h1
  .exact T q (U4 ((H.trans B).size)) h1
  .have:=F.size;omega
 have cx:=bh.size;have R:=ag.size;have bm:=oo X (l:=l) (u:=iT) (gen:=1) ⟨U4 aq.1,U4 aq.2.1⟩ ⟨by decide,by decide,by decide,by rw[aH.n];show(0:Int)<_;omega,by decide⟩ (by decide) (λj _=>by rw[t];rfl) sb;rw[aH.d]at bm;refine⟨0,rfl,nofun,λ_=>⟨_,aJ.cell,_,aJ.cell,_,aJ.cell,fe b_ (bm.use ?_)⟩⟩;rintro _ cy ⟨c,a8,bE,st,aL⟩;have ca:=aL.val;subst ca;refine⟨_,0,rfl,L,sb,s1,s2,c,a8,bE,st,bb,aL,bi.ext aL.x,aH,cn (ag.mono λ_ _ h=>h.elim) bh λq _ h=>h,λq b=>?_,λq b=>?_,λq b hf=>?_⟩
 .have bj:=Z q b
  have aK:=bi.lt q b;have:=(H.trans B).size;exact⟨I,aK⟩
 .rcases bd q b with h1|h1
  .exact .inl h1
  .exact .inr ⟨I,X.lt b⟩
 .have bj:=Z q b
  have aK:=(hs.ext (Ext.trans J (Ext.trans M (aa.refl _ _)))).lt q b;rcases bd _ hf with h1|h1
  .exact T q (U4 ((H.trans B).size)) h1
  .have:=F.size;omega
end
theorem kJ{a:(ag->U2)->Prop}{rest:ag->U2}{b:ag}(c:ag)(h1:b=true->∀k:ag->U2,(∀w',Ext w0 w'->k c w')->a k)(d:∀w',Ext w0 w'->rest (b&&c) w'):
 aX (λk=>(b=true->a k)/\(b=false->k false w0)) rest:=
 ⟨⟨λh=>h1 h rest (λw' hx=>by have:=d w' hx;rwa[h,j3]at this),λh=>by have:=d w0 (.refl _ _);rwa[h,m5]at this⟩⟩
theorem iA{a:(ag->U2)->Prop}{rest:ag->U2}{b:ag}(c:ag)(h1:b=false->∀k:ag->U2,(∀w',Ext w0 w'->k c w')->a k)(d:∀w',Ext w0 w'->rest (b||c) w'):
 aX (λk=>(b=true->k true w0)/\(b=false->a k)) rest:=
 ⟨⟨λh=>by have:=d w0 (.refl _ _);rwa[h,Bool.true_or]at this,λh=>h1 h rest (λw' hx=>by have:=d w' hx;rwa[h,lP]at this)⟩⟩
def EU:O dx:=[.int .i64,.int .i64,.int .u64,.int .u64,.int .i64,.int .i64,.int .i64,.int .i64,.int .i64,.int .i64]
theorem cr.gF(a:cr):gF EU a.c:=⟨_,_,rfl,⟨_,rfl⟩,_,_,rfl,⟨_,rfl⟩,_,_,rfl,⟨_,rfl⟩,_,_,rfl,⟨_,rfl⟩,_,_,rfl,⟨_,rfl⟩,_,_,rfl,⟨_,rfl⟩,_,_,rfl,⟨_,rfl⟩,_,_,rfl,⟨_,rfl⟩,_,_,rfl,⟨_,rfl⟩,_,_,rfl,⟨_,rfl⟩,rfl⟩
theorem EV(a b:cr):lU aj 85 a.c.toArray b.c.toArray (decide (a=b)):=by
 have h:=lU.flat (P:=aj) (T:=85) (d:=(Tryz.prog.underlying 85).get U3) (ls:=EU) (qu _).symm U3 U3 U3 a.gF b.gF;have e:gf a.c b.c=decide (a=b):=by
  rw[ek,B8 a.gF b.gF,cq];refine⟨λh=>?_,λh=>by rw[h]⟩
  cases a;cases b;simp only[cr.c,List.cons.injEq,Value.int.injEq,true_and,and_true]at h;simpa using h
 rwa[e]at h
def cr.clean(a:cr):ag:=decide (a.dK>=0)&& !(decide (1=a.kH\/1=a.s1))&&(a.lost==0)&&(a.e3==0)&&(a.bad==0)
theorem nm(a:cr){ba bL:Nat}(h0:a.kH=(ba:Int))(h1:a.s1=(bL:Int))(w:J):aI aj 30 #[.agg a.c.toArray] w (λv w'=>v=a.clean/\Ext w w'):=by
 refine ad.GN _ w _ ?_;(delta ad.nm aT r1 ae af bR;dsimp only);refine bg (vs:=a.c) rfl λw1 d j m=>⟨_,d.cell,kJ (!(decide (1=a.kH\/1=a.s1))) (λ_ k b=>?_) λah f=>kJ (a.lost==0) (λ_ k b=>⟨_,by rw[aw];exact(d.ext f).cell,b _ (.refl _ _)⟩) λp g=>kJ (a.e3==0) (λ_ k b=>⟨_,by rw[aw];exact((d.ext f).ext g).cell,b _ (.refl _ _)⟩) λr i=>kJ (a.bad==0) (λ_ k b=>⟨_,by rw[aw];exact(((d.ext f).ext g).ext i).cell,b _ (.refl _ _)⟩) λs l=>⟨rfl,(((j.trans f).trans g).trans i).trans l⟩⟩;have hs:cK (λ_=>True) w1 ⟨some w.heap.size,2,2⟩ [ba,bL]:=⟨⟨rfl,nofun,λA ak=>?_⟩,a_ _,λq ⟨A,ak,e⟩=>⟨trivial,by cases ak;rw[←e];exact d.lt⟩⟩
 .refine(Ez hs 1 (by show 2<=1000000;decide)).use ?_
  rintro _ _ ⟨rfl,rfl⟩;refine⟨_,rfl,?_⟩;have e:(decide (1∈ [ba,bL]))=decide (1=a.kH\/1=a.s1):=by
   rw[h0,h1];simp only[cN,er,ez];exact decide_eq_decide.2 ⟨λh=>I,λh=>I⟩
  rw[e];exact b _ (.refl _ _)
 .cases ak
  refine(d.zu (o:=0) (n:=2) (by show 0+2<=10;decide)).trans ?_;show some [Value.int .i64 a.kH,a.s1]=_;rw[h0,h1];rfl
theorem oz{b:Nat}(k:b<256)(hd:d<256)(w:J):aI aj 19 #[.int .u8 (b:Nat),.int .u8 (d:Nat)] w (λv w'=>v=.agg (gB.c ⟨8,1+b%12,1+d%12⟩).toArray/\Ext w w'):=by
 refine ad.Hk _ _ w _ ?_;(delta ad.oz vA bf ae ai r1 aT bZ c0 aF;dsimp only);have g:IntKind.wrap .i64 (1+IntKind.wrap .i64 (Int.tmod (b:Int) 12))=((1+b%12:Nat):Int):=by
  rw[nT I,bl (n:=(b:Int)%12) I I,bl I I];omega
 have h:IntKind.wrap .u64 (1+IntKind.wrap .u64 (Int.tmod (d:Int) 12))=((1+d%12:Nat):Int):=by
  rw[nT I,gl (n:=(d:Int)%12) I I,gl I I];omega
 rw[g,h];refine bg (vs:=[U8,U8,.int .u64 0]) rfl λw1 e i l=>⟨by decide,by decide,e.cF rfl (λv f=>?_),rfl,c6 e (us:=gB.c ⟨8,1+b%12,1+d%12⟩) rfl rfl λah a j m=>⟨_,a.cell,_,by rw[aw];exact a.cell,_,by rw[aw];exact a.cell,rfl,Ext.bQ i j (a_ _)⟩⟩;simp only[cN,er,ez]at f;rcases f with rfl|rfl|rfl<;>trivial
theorem r8{D:aS}(hi:i<D.n):(jI D).getD i []=D.now i:=by
 unfold jI;rw[c8 (by rw[cV,qy];exact hi),List.getElem_map,List.getElem_range]
theorem r9(D:aS):(jI D).length=D.n:=by rw[jI,cV,qy]
theorem x7(n no:Nat):eT n no fN=(cZ,0,0):=by
 unfold eT;rw[if_pos (by decide+kernel)]
theorem KT{D:aS}(a:16<=D.n)(h0:D.now 0=fN)(h1:D.now 1=fN){r:cr}(h:kI (jI D) r):r={g1 with dK:= -1}:=by
 have e:jn (jI D)=({g1 with dK:= -1},cZ):=by
  simp only[jn,cR,iS,r9,r8 (show 0<D.n from I),r8 (show 1<D.n from I),h0,h1,x7];rfl
 obtain⟨_,h⟩|⟨h,_⟩:=h
 .rw[h,e]
 .rw[e]at h
  exact absurd h (by show¬(0:Int)<= -1;omega)
def EW(i:Nat):ag:=decide (i<3)
theorem KU{D:aS}(a:D.n=20)(h0:D.now 0=fN)(h1:D.now 1=eA 1 (jG iT 20 1))(c:D.now 2=eA 2 ⟨4,1,fm EW 3⟩){r:cr}(h:kI (jI D) r):r=⟨0,2,0,1,1,0,0,0,0,0⟩:=by
 have es:eT 20 1 (eA 1 (jG iT 20 1))=(iT,1,2):=by
  unfold eT;rw[if_neg (by unfold eA fb gp;simp)];have hd:eD ((1:Nat):Int) (eA 1 (jG iT 20 1))=.ok (iT,20,1):=zX ⟨by decide,by decide,by decide,by decide,by decide,by decide⟩ (by unfold g8;decide) (by decide) (by decide);rw[hd];rfl
 have e:jn (jI D)=({g1 with dK:=1,s1:=2,ao:=1},iT):=by
  simp only[jn,cR,iS,r9,r8 (show 0<D.n from I),r8 (show 1<D.n from I),h0,h1,x7];rw[a,es];rfl
 have ht:jH (jI D) [] 2 {g1 with dK:=1,s1:=2,ao:=1}=⟨0,2,0,1,1,0,0,0,0,0⟩:=by
  unfold jH;rw[r8 (show 2<D.n from I),c,tS (by decide) ⟨by decide,by decide,by decide,by decide⟩];have d:e4 (fm EW 3)=[7,0,0]:=by decide
  simp only[r9,a,d];decide+kernel
 obtain⟨h,_⟩|⟨_,a1,seen,bd,h,b⟩:=h
 .rw[e]at h
  exact absurd h (by show¬(1:Int)<0;omega)
 .rw[e]at h b
  obtain⟨h,_⟩|⟨_,f,hg⟩:=h
  .exact absurd h (by decide)
  .rw[b,f,hg]
   exact ht
theorem x8{a:cr}{K:U2}(e:∀w',Var w' w a.c 85->Ext w w'->K w'):
 au (w.alloc (.cells #[U8,U8,.int .u64 0,.int .u64 0,U8,U8,U8,U8,U8,U8] 85)) λb=>c5 b w (Array.toList a.c.toArray)/\Array.size a.c.toArray=10/\au (setCells b w 0 (Array.toList a.c.toArray)) K:=
 bg (vs:=g1.c) rfl λ_ d f _=>⟨d.cF rfl (cr.plain _),rfl,c6 d (us:=a.c) rfl rfl λah g h _=>e ah g (Ext.bQ f h (a_ _))⟩
theorem KV(w:J):aI aj 35 #[] w (λv w'=>v=true/\Ext w w'):=by
 refine ad.Hm w _ ?_;(delta ad.tI gR nj gh ae vy aF af aT r1 bR;dsimp only);refine(pA (n:=20) I I w).use ?_;rintro _ w1 ⟨d,lb,mr,rfl,hd,L,e⟩;have M:¬(lH 20 d lb mr).lit 20:=λh=>h.1 rfl;refine⟨_,0,rfl,(nk hd (by show 0<=1000000000;omega)).use ?_⟩;rintro _ f ⟨N,⟨h,_⟩|⟨_,i,r,O,rfl⟩⟩
 .exact absurd h M
 have y:Ext w f:=Ext.bQ L N (e d (.inl rfl));have j:=KT (D:=lH 20 d lb mr) (by show 16<=20;omega) (Dq I) (Dq I) O;refine⟨_,0,rfl,x8 λP Q R=>(oz (b:=1) (d:=1) I I P).use ?_⟩;rintro _ ai ⟨rfl,z⟩;have m:=R.trans z;have o:((lH 20 d lb mr).rd (lH 20 d lb mr).n).n=20:=rfl;refine⟨_,_,_,rfl,(oh (l:=⟨8,2,2⟩) (i.ext m) (by unfold me;decide) (λk=>⟨.inl rfl,.inl rfl⟩) rfl (by show 0<=999999000;omega)).use ?_⟩;rintro _ A ⟨az,sb,s1,s2,c,a8,bE,st,kD,hf⟩;obtain rfl:=hf.r7.val;have B:az.n=20:=hf.kW.n.trans o;have S:¬az.lit 20:=λh=>by
  rcases(hf.kW.calm 1000).1 with h1|h1
  .exact h.1 h1
  .have:=h.2;omega
 have T:az.aZ<=1000000000:=by rw[hf.kW.aZ];show 0+4<=1000000000;omega
 have U:Ext w A:=(Ext.dH (y.trans m) hf.ab λk a=>e k a).trans hf.r7.x;have ak:∀q,bO az q->w<=q:=λq V=>by
  rcases hf.dq q V with h|h
  .exact e q h
  .have:=(y.trans m).size;omega
 have W:Var A f r.c 85:=(((Q.ext z).ab hf.ab λh=>U4 (i.lt h))).ext hf.r7.x;refine⟨_,0,rfl,?_⟩;have C:=nk hf.r7.ca.raw.dev T;rw[show(ji c a8 8 az).D=az from rfl,hf.kW.d]at C;refine C.use ?_;rintro _ E ⟨F,⟨h,_⟩|⟨_,al,bA,X,rfl⟩⟩
 .rw[B]at h;exact absurd h S
 have Y:Ext w E:=Ext.bQ U F (e d (.inl rfl));have p:=KU B (by rw[hf.kW.now];rfl) (by rw[hf.kW.now,o];rfl) (by rw[hf.kW.now,o];rfl) X;have G:Var E f r.c 85:=W.ab F (by have:=i.lt (q:=d) (.inl rfl);show¬f.heap.size=d;omega);refine⟨_,0,rfl,x8 λam H s=>kJ (r.dK== -1) (λ_ k a=>⟨_,by rw[aw];exact(G.ext s).cell,a _ (.refl _ _)⟩) λZ g=>kJ (!r.clean) (λ_ k a=>⟨_,((G.ext s).ext g).rd rfl,(nm r (ba:=0) (bL:=0) (by rw[j];rfl) (by rw[j];rfl) Z).use λv an t=>by obtain⟨rfl,aa⟩:=t;exact⟨_,rfl,a _ aa⟩⟩) λao u=>kJ (bA.dK==1) (λ_ k a=>⟨_,by rw[aw];exact((H.ext g).ext u).cell,a _ (.refl _ _)⟩) λac K=>kJ bA.clean (λ_ k a=>⟨_,(((H.ext g).ext u).ext K).rd rfl,(nm bA (ba:=0) (bL:=2) (by rw[p];rfl) (by rw[p];rfl) ac).use λv ap t=>by obtain⟨rfl,ag⟩:=t;exact⟨_,rfl,a _ ag⟩⟩) λaq ah=>?_⟩;refine⟨?_,((((Y.trans s).trans g).trans u).trans K).trans ah⟩;rw[j,p];rfl
theorem KW(y i:Nat):y/2^i=2*(y/2^(i+1))+y/2^i%2:=by
 rw[Nat.pow_succ,←Nat.div_div_eq_div_mul];omega
theorem KX(a b i:Nat):(a^^^b)/2^i%2=(a/2^i+b/2^i)%2:=by
 rw[Nat.xor_div_two_pow,show(2:Nat)=2^1 from rfl,Nat.xor_mod_two_pow,Nat.add_mod];have h1:a/(2^1)^i%2^1<2:=gu _ (by decide);have c:b/(2^1)^i%2^1<2:=gu _ (by decide)
 revert h1 c
 generalize a/(2^1)^i%2^1=x;generalize b/(2^1)^i%2^1=y;intro h1 c;have hx:x=0\/x=1:=by omega
 have d:y=0\/y=1:=by omega
 rcases hx with rfl|rfl<;>rcases d with rfl|rfl<;>rfl
theorem ox{b:Nat}(e:a<4294967296)(c:b<4294967296)(w:J):aI aj 255 #[.int .u32 (a:Nat),.int .u32 (b:Nat)] w (λv w'=>v=.int .u32 ((a^^^b:Nat):Int)/\w=w'):=by
 refine ad.Hi _ _ w _ ?_;(delta ad.ox gg af ai;dsimp only);have hx:a^^^b<2^32:=o2 (n:=32) e c;refine⟨λx n w'=>∃k:Nat,k<=32/\n=(k:Int)-1/\x=(((a^^^b)/2^k:Nat):Int)/\w=w',λ_ n _=>(n+1).toNat,⟨32,a_ _,rfl,by rw[Nat.div_eq_of_lt hx];rfl,rfl⟩,?_⟩;rintro _ _ _ ⟨k,m,rfl,rfl,rfl⟩;refine⟨λf=>?_,λaB=>?_⟩
 .obtain⟨i,rfl⟩:∃i,k=i+1:=⟨k-1,U4 (bB f)⟩
  have g:((i+1:Nat):Int)-1=(i:Int):=I
  rw[g,gl I I,bl (n:=(i:Int)-1) I I];have h:min (Int.toNat (i:Int)) 32=i:=by rw[cS];omega
  rw[h];have d:∀z:Nat,Int.fdiv (z:Int) (2^i)=((z/2^i:Nat):Int):=λz=>by
   rw[yh _ (by exact_mod_cast cw (2^i))];norm_cast
  rw[d,d];have o:a/2^i<=a:=Nat.div_le_self _ _;have p:b/2^i<=b:=Nat.div_le_self _ _;have j:IntKind.wrap .u32 (((a/2^i:Nat):Int)+((b/2^i:Nat):Int))=(((a/2^i+b/2^i)%4294967296:Nat):Int):=by
   simp[IntKind.wrap,IntKind.signed,IntKind.bits]
  have q:=KW (a^^^b) i;have c:=KX a b i;have hs:(a^^^b)/2^i<=a^^^b:=Nat.div_le_self _ _;have l:IntKind.wrap .u32 (IntKind.wrap .u32 (2*(((a^^^b)/2^(i+1):Nat):Int))+Int.tmod (IntKind.wrap .u32 (((a/2^i:Nat):Int)+((b/2^i:Nat):Int))) 2)=(((a^^^b)/2^i:Nat):Int):=by
   rw[j,nT I,mB (n:=2*_) I I,mB I I];omega
  rw[l];exact⟨I,I,by decide,⟨i,I,rfl,rfl,rfl⟩,by show((i:Int)-1+1).toNat<((i:Int)+1).toNat;omega⟩
 .have:k=0:=U4 (bT aB)
  subst this;rw[Nat.pow_zero,Nat.div_one];exact⟨rfl,rfl⟩
theorem KY(n c:Nat)(hc:c<256):n-n%256+((n%256)^^^c)=n^^^c:=by
 have h1:(n^^^c)/256=n/256:=by
  have:=Nat.xor_div_two_pow (a:=n) (b:=c) (n:=8);rw[show(2:Nat)^8=256 from rfl,Nat.div_eq_of_lt hc,Nat.xor_zero]at this;exact this
 have d:(n^^^c)%256=(n%256)^^^c:=by
  have:=Nat.xor_mod_two_pow (a:=n) (b:=c) (n:=8);rw[show(2:Nat)^8=256 from rfl,jx hc]at this;exact this
 rw[←d];omega
theorem rH{s:U}(hs:Src 1 w s (aC l))(E:l.length<=1000000):aI aj 207 #[s] w (λv w'=>v=.int .u32 (il l:Nat)/\w=w'):=by
 have F:=len8 hs;refine okF (ad.rH s) ay.rH func207 ?_;(delta ad.rH gg af aQ aO bA aV kc ai;dsimp only);refine⟨λx n w'=>∃j:Nat,j<=l.length/\n=(j:Int)/\x=((kX 4294967295 (l.take j):Nat):Int)/\w=w',λ_ n _=>((l.length:Int)-n).toNat,⟨0,cw _,rfl,rfl,rfl⟩,?_⟩;rintro _ _ _ ⟨j,G,rfl,rfl,rfl⟩;have o:=tP (l.take j) (n:=4294967295) (by decide);obtain⟨n,c⟩:=U6 (kX 4294967295 (l.take j));rw[←c]at o⊢;refine⟨λaB=>?_,λp=>?_⟩
 .have g:j<l.length:=U4 (bB aB)
  obtain⟨A,ak,q,hc⟩:=oT hs g;have H:=l[j].toNat_lt;have r:Int.tmod (n:Int) 256=((n%256:Nat):Int):=by rw[nT I];omega
  rw[r];refine⟨by decide,by decide,A,ak,q,_,hc,?_⟩;rw[mB I I];refine(ox (a:=n%256) (b:=l[j].toNat) I I w).use ?_;rintro _ _ ⟨rfl,rfl⟩;have hx:(n%256)^^^l[j].toNat<2^8:=o2 I I;have K:n^^^l[j].toNat<2^32:=o2 I I;have L:=KY n l[j].toNat I;have t:IntKind.wrap .u32 (IntKind.wrap .u32 ((n:Int)-((n%256:Nat):Int))+(((n%256)^^^l[j].toNat:Nat):Int))=((n^^^l[j].toNat:Nat):Int):=by
   rw[mB (n:=(n:Int)-_) I I,mB I I];omega
  refine⟨_,rfl,?_⟩;rw[t];refine⟨λx k w'=>∃i:Nat,i<=8/\k=(i:Int)/\x=((oE i (n^^^l[j].toNat):Nat):Int)/\w=w',λ_ k _=>((8:Int)-k).toNat,⟨0,cw _,rfl,rfl,rfl⟩,?_⟩;rintro _ _ _ ⟨i,hi,rfl,rfl,rfl⟩;have u:=xt (n:=n^^^l[j].toNat) I i;obtain⟨m,d⟩:=U6 (oE i (n^^^l[j].toNat));rw[←d]at u⊢;have y:oE (i+1) (n^^^l[j].toNat)=nw m:=by rw[d];rfl
  refine⟨λe=>?_,λe=>?_⟩
  .have M:i<8:=U4 (bB e)
   have z:Int.tmod (m:Int) 2=((m%2:Nat):Int):=by rw[nT I];omega
   have B:IntKind.wrap .u32 (Int.tdiv (m:Int) 2)=((m/2:Nat):Int):=by
    rw[Int.tdiv_eq_ediv_of_nonneg I,mB I I];omega
   rw[z,B,hM I];have fin:∀x:Nat,x=nw m->(∃f:Nat,f<=8/\((i+1:Nat):Int)=(f:Int)/\(x:Int)=((oE f (n^^^l[j].toNat):Nat):Int)/\w=w)/\((8:Int)-((i+1:Nat):Int)).toNat<((8:Int)-(i:Int)).toNat:=λx hx=>⟨⟨i+1,I,rfl,by rw[y,hx],rfl⟩,I⟩;refine⟨⟨by decide,λh1=>⟨by decide,(ox (a:=m/2) (b:=2197175160) I (by decide) w).use ?_⟩,λh1=>⟨by decide,fin _ ?_⟩⟩⟩
   .rintro _ _ ⟨rfl,rfl⟩
    have N:=eq_of_beq h1;exact⟨_,rfl,fin _ (by unfold nw;rw[if_pos I])⟩
   .unfold nw
    rw[if_neg λh=>by rw[h]at h1;cases h1]
  .have C:i=8:=U4 (bT e)
   rw[hM I];refine⟨⟨j+1,I,rfl,?_,rfl⟩,by show((l.length:Int)-((j+1:Nat):Int)).toNat<((l.length:Int)-(j:Int)).toNat;omega⟩;rw[gv g,zB,←c,d,C];rfl
 .have D:j=l.length:=U4 (bT p)
  subst D;rw[gD]at c;have:IntKind.wrap .u32 (4294967295-(n:Int))=((il l:Nat):Int):=by
   rw[mB I I,il,←c];omega
  rw[this];exact⟨rfl,rfl⟩
theorem r_(b:a+k<=l.length):ct l a k<256^k:=by
 exact nu k _ (by rw[cQ,dW];omega)
theorem lC{s:U}(hs:Src 1 w s (aC l))(e:k<=8)(f:a+k<=l.length)(g:l.length<=1000000):
 aI aj 155 #[s,a,k] w (λv w'=>v=.int .u64 (ct l a k:Nat)/\w=w'):=by
 have h:=len8 hs;refine ad.Hg s _ _ w _ ?_;(delta ad.lC gg af ai aQ aO bA aV aF;dsimp only);rw[bl (n:=(a:Int)+k) I I];refine⟨λx n w'=>∃j:Nat,j<=k/\n=((a+j:Nat):Int)/\x=((ct l a j:Nat):Int)/\w=w',λ_ n _=>((a:Int)+k-n).toNat,⟨0,cw _,rfl,rfl,rfl⟩,?_⟩;rintro _ _ _ ⟨j,m,rfl,rfl,rfl⟩;refine⟨λaB=>?_,λb=>?_⟩
 .have o:j<k:=U4 (bB aB)
  obtain⟨A,ak,c,hc⟩:=oT hs (i:=a+j) I;have hx:=l[a+j].toNat_lt;have p:ct l a j<256^j:=r_ I;have q:256^j<=256^7:=sE (by decide) I;have r:(256:Nat)^7=72057594037927936:=by decide
  have d:ct l a (j+1)=ct l a j*256+l[a+j].toNat:=by
   unfold ct;rw[gv (by rw[dW];omega),xo,qs]
  refine⟨A,ak,c,_,hc,?_⟩;rw[gl (n:=_*256) I I,gl (n:=((l[a+j].toNat:Nat):Int)) I I,gl I I,bl I I];exact⟨⟨j+1,I,I,by rw[d];omega,rfl⟩,by show((a:Int)+k-(((a+j:Nat):Int)+1)).toNat<((a:Int)+k-((a+j:Nat):Int)).toNat;omega⟩
 .have:j=k:=U4 (bT b)
  subst this;exact⟨rfl,rfl⟩
theorem rF{s:U}(hs:Src 1 w s (aC l))(hc:s.len<=s.cap)(r:l.length=256):
 aI aj 156 #[s] w (λv w'=>v=.int .u32 (sumOf l:Nat)/\Ext w w'):=by
 have t:=len8 hs;refine okF (ad.rF s) ay.rF func156 ?_;(delta ad.rF b1 ap ae kc;dsimp only);have a:=cc w;have b:=hs.ext a;have h1:=lF b hc (lo:=0) (hi:=20) I I;have c:=lF b hc (lo:=24) (hi:=s.len) I I;have f:(List.drop 0 l).take (20-0)=l.take 20:=rfl;have g:(l.drop 24).take (s.len-24)=l.drop 24:=eZ (by rw[dW];omega);rw[f]at h1;rw[g]at c;obtain⟨d,h,ao,i,j,e,k,_⟩:=nC.clone (c7:=39) h1 (jE _) (by show(2*(20-0)+1000)*1<=_;omega);obtain⟨m,n,bJ,b4,u,o,x⟩:=nC.append (c7:=39) (c.ext e) i (jE _) (by show(2*(d.len+(s.len-24))+1000)*1<=_;rw[j];show(2*(20-0+(s.len-24))+1000)*1<=_;omega);refine aH ⟨λ_=>False,⟨I,I⟩,⟨I,I⟩,aH ⟨d,h,ao,m,n,bJ,?_⟩⟩;rw[←l6]at b4;refine(rH b4.src (by rw[b6,cQ,dW];omega)).use ?_;rintro _ _ ⟨rfl,rfl⟩;exact⟨_,rfl,rfl,a.trans (cn e o λq y p=>U4 (k q p))⟩
theorem KZ(e:l.length=256):l.take 4=gp↔(l.getD 0 0=83/\l.getD 1 0=84)/\l.getD 2 0=78/\l.getD 3 0=67:=by
 match l,e with
 |a::b::c::d::l,_=>simp[gp,and_assoc]
theorem qd(x c:UInt8):((x.toNat:Int) !=(c.toNat:Int))=decide (x≠c):=by
 by_cases h:x=c
 .rw[h];simp
 .have:x.toNat≠c.toNat:=λe=>h (qm.1 e)
  simp[h];omega
theorem AK{A:ax}(h:w.cell? A=some v):A.block<w.heap.size:=by
 unfold World.cell? at h;split at h
 .rename_i h1
  exact(mi.1 h1).1
 .cases h
theorem qe(A:ax)(n:Nat):(A.add n).block=A.block:=by unfold Addr.add;split<;>rfl
theorem qf{s:U}(h:Src 1 w s (aC l))(hi:i<l.length):∃A:ax,s.a=some A/\((0:Int)<=(i:Int)/\(i:Int)<(s.len:Int))/\w.cell? (A.add (Int.toNat (i:Int)*1))=some (.int .u8 (((l.getD i 0).toNat:Nat):Int)):=by
 rw[c8 hi];exact oT h hi
theorem nq{s:U}(hs:Src 1 w s (aC l))(hc:s.len<=s.cap)(bu:l.length<=1000)(no:Int)(an: -9223372036854775808<=no/\no<=9223372036854775807):
 aI aj 82 #[no,s] w (λv w'=>ny (cG no l) w w' v/\Ext w w'):=by
 have bv:=len8 hs;refine okF (ad.nq no s) ay.nq func82 ?_;(delta ad.nq z4 bf ae aF af r1 bZ c0 av aJ aQ aO bA aV pw ed kc ai cW b1 ky ap th;dsimp only);refine bg (vs:=[U8,.int .u64 0,()]) rfl λw1 aZ aq bw=>bg (vs:=[U8,.int .u64 0,()]) rfl λah a0 ax bx=>lJ 0 0 hC a0 rfl λo W az bz=>?_;have F:Ext w o:=Ext.bQ (aq.trans ax) az I;have aA:Var o w [U8,.int .u64 0,()] 137:=(aZ.ext ax).ab az I;have u:∀ (w':J) (e:Int),Ext o w'->cG no l=.error e->∃n8:Int,w'.cell? w1.heap.size=some (.int .i64 n8)/\∃n9:Int,w'.cell? (Addr.add w1 1)=some (.int .u64 n9)/\
  ∃f:U,w'.cell? (Addr.add w1 2)=some (.slice f.a f.len f.cap)/\c5 w' w [n8,.int .u64 n9,f]/\(3:Nat)=3/\
  au (setCells w' w 0 [n8,.int .u64 n9,f]) λm=>∃n8:Int,m.cell? w.heap.size=some (.int .i64 n8)/\∃n9:Int,m.cell? (Addr.add w 1)=some (.int .u64 n9)/\
  ∃f:U,m.cell? (Addr.add w 2)=some (.slice f.a f.len f.cap)/\(ny (cG no l) w m (.tuple #[.agg #[n8,.int .u64 n9,f],e])/\Ext w m):=λw' e hx he=>
  ⟨_,(W.ext hx).cell,_,by rw[aw];exact(W.ext hx).cell,hC,by rw[aw];exact(W.ext hx).cell,lJ 0 0 hC (aA.ext hx) rfl λm y R a1=>⟨_,y.cell,_,y.cell,hC,y.cell,by unfold ny;rw[he];rfl,Ext.bQ (F.trans hx) R (a_ _)⟩⟩
 have G:=hs.ext F;refine⟨λh=>u o 9 (.refl _ _) ?_,λh=>?_⟩
 .have:¬(s.len:Int)=256:=by simpa using h
  unfold cG;rw[if_pos I]
 have X:l.length=256:=by
  have:(s.len:Int)=256:=by simpa using h
  omega
 have b:=λ(w':J) (i:Nat) (hx:Ext o w') (hi:i<256)=>qf (G.ext hx) (i:=i) I;have bC:∀i,(l.getD i 0).toNat<256:=λi=>(l.getD i 0).toNat_lt;have z:¬l.length≠256:=λh=>h X;obtain⟨A,ak,a2,bM⟩:=b o 0 (.refl _ _) I;have B:∀ (w':J) (i:Nat),Ext o w'->i<256->((0:Int)<=(i:Int)/\(i:Int)<(s.len:Int))/\w'.cell? (A.add (Int.toNat (i:Int)*1))=some (.int .u8 (((l.getD i 0).toNat:Nat):Int)):=λw' i hx hi=>by
  obtain⟨a3,L,h1,M⟩:=b w' i hx hi;rw[ak]at L
  cases L;exact⟨h1,M⟩
 refine⟨A,ak,a2,_,bM,iA (decide (l.getD 1 0≠84)) (λ_ k p=>?_) λa4 Y=>iA (decide (l.getD 2 0≠78)) (λ_ k p=>?_) λa5 aD=>iA (decide (l.getD 3 0≠67)) (λ_ k p=>?_) λZ a6=>?_⟩
 .obtain⟨C,D⟩:=B o 1 (.refl _ _) I
  refine⟨A,ak,C,_,D,?_⟩;rw[show ∀x:UInt8,((x.toNat:Int) !=84)=decide (x≠84) from λx=>qd x 84];exact p _ (.refl _ _)
 .obtain⟨C,D⟩:=B a4 2 Y I
  refine⟨A,ak,C,_,D,?_⟩;rw[show ∀x:UInt8,((x.toNat:Int) !=78)=decide (x≠78) from λx=>qd x 78];exact p _ (.refl _ _)
 .obtain⟨C,D⟩:=B a5 3 (Y.trans aD) I
  refine⟨A,ak,C,_,D,?_⟩;rw[show ∀x:UInt8,((x.toNat:Int) !=67)=decide (x≠67) from λx=>qd x 67];exact p _ (.refl _ _)
 have H:=(Y.trans aD).trans a6;have a7:(((((((l.getD 0 0).toNat:Nat):Int) !=83)||decide (l.getD 1 0≠84))||decide (l.getD 2 0≠78))||decide (l.getD 3 0≠67))=decide (l.take 4≠gp):=by
  rw[show ∀x:UInt8,((x.toNat:Int) !=83)=decide (x≠83) from λx=>qd x 83,ek];simp only[fC,cq,ne_eq,KZ X];generalize l.getD 0 0=a,l.getD 1 0=b,l.getD 2 0=c,l.getD 3 0=d;by_cases h0:a=83<;>by_cases h1:b=84<;>by_cases M:c=78<;>by_cases a8:d=67<;>simp[h0,h1,M,a8]
 rw[a7];refine⟨λh=>u Z 4 H ?_,λh=>?_⟩
 .unfold cG
  rw[if_neg z,if_pos (bB h)]
 have K:=bT h;obtain⟨C,D⟩:=B Z 4 H I;refine⟨A,ak,C,_,D,?_⟩;rw[show ∀x:UInt8,((x.toNat:Int) !=1)=decide (x≠1) from λx=>qd x 1];refine⟨λh=>u Z 12 H ?_,λh=>?_⟩
 .unfold cG
  rw[if_neg z,if_neg K,if_pos (bB h)]
 have N:=bT h;refine(lC (G.ext H) (a:=20) (k:=4) I I I).use ?_;rintro _ _ ⟨rfl,rfl⟩;refine⟨_,rfl,(rF (G.ext H) hc X).use ?_⟩;rintro _ aE ⟨rfl,a9⟩;have S:=H.trans a9;have bD:sumOf l<4294967296:=xu _;refine⟨_,rfl,?_⟩;rw[gl (n:=((sumOf l:Nat):Int)) I I];refine⟨λh=>u aE 5 S ?_,λh=>?_⟩
 .have:¬((ct l 20 4:Nat):Int)=((sumOf l:Nat):Int):=by simpa using h
  unfold cG;rw[if_neg z,if_neg K,if_neg N,if_pos I]
 have T:¬sumOf l≠ct l 20 4:=by
  have:((ct l 20 4:Nat):Int)=((sumOf l:Nat):Int):=by simpa using h
  omega
 refine(lC (G.ext S) (a:=6) (k:=2) I I I).use ?_;rintro _ _ ⟨rfl,rfl⟩;have ba:ct l 6 2<256^2:=r_ I;have bE:(256:Nat)^2=65536:=by decide
 obtain⟨n,P⟩:=U6 (ct l 6 2);rw[←P]at ba⊢;obtain⟨aG,aK⟩:=B aE 5 S I;refine⟨_,rfl,A,ak,aG,_,aK,iA (decide ((((l.getD 5 0).toNat:Nat):Int)>4)) (λ_ k p=>⟨A,ak,aG,_,aK,p _ (.refl _ _)⟩) λV bb=>?_⟩;have Q:=S.trans bb;rw[bl (n:=(n:Int)) I I];refine⟨λh=>u V 4 Q ?_,λh=>?_⟩
 .simp only[fC,cq]at h
  unfold cG;rw[if_neg z,if_neg K,if_neg N,if_neg T,←P,if_pos];rcases h with (h|h)|h
  .exact .inl I
  .exact .inl I
  .exact .inr (.inl I)
 simp only[hV,fh]at h;rw[bl I I];refine⟨λi w'=>∃k:Nat,i=(k:Int)/\24+n<=k/\k<=256/\(∀j,24+n<=j->j<k->l.getD j 0=0)/\V=w',λi _=>((256:Int)-i).toNat,⟨24+n,I,a_ _,I,λj h1 M=>I,rfl⟩,?_⟩;rintro _ _ ⟨k,rfl,bF,bG,aM,rfl⟩;refine⟨λaB=>?_,λbc=>?_⟩
 .have bd:k<256:=U4 (bB aB)
  obtain⟨be,i8⟩:=B V k Q bd;refine⟨A,ak,be,_,i8,?_⟩;rw[show ∀x:UInt8,((x.toNat:Int) !=0)=decide (x≠0) from λx=>qd x 0];refine⟨λh=>u V 4 Q ?_,λh=>?_⟩
  .have h0:=bB h
   unfold cG;rw[if_neg z,if_neg K,if_neg N,if_neg T,←P,if_pos];refine .inr (.inr (Bool.eq_false_iff.2 λbh=>h0 ?_));have:=kM.1 bh (l.getD k 0) ?_
   .simpa using this
   .rw[c8 I]
    exact List.mem_drop_iff_getElem.2 ⟨k-(24+n),I,getElem_congr_idx I⟩
  .rw[hM I]
   exact⟨⟨k+1,rfl,I,I,λj h1 M=>by
    by_cases bi:j<k
    .exact aM j h1 bi
    .have:j=k:=I
     rw[this];have:=bT h;exact Decidable.not_not.1 this,rfl⟩,by show((256:Int)-((k+1:Nat):Int)).toNat<((256:Int)-(k:Int)).toNat;omega⟩
 have bH:k=256:=U4 (bT bc)
 have aN:¬(¬(1<=(l.getD 5 0).toNat/\(l.getD 5 0).toNat<=4)\/232<n\/(l.drop (24+n)).all (λc=>c==0)=false):=by
  rintro(ac|ac|ac)
  .omega
  .omega
  .apply Bool.eq_false_iff.1 ac
   rw[kM];intro x hx;obtain⟨i,hi,rfl⟩:=eO hx;rw[dW]at hi;have:=aM (24+n+i) I I;rw[c8 I]at this;rw[qs,this];rfl
 have bI:ct l 8 4<256^4:=r_ I;have bJ:ct l 12 8<256^8:=r_ I;have bK:(256:Nat)^4=4294967296:=by decide
 have bL:(256:Nat)^8=18446744073709551616:=by decide
 refine iA (!decide (0<=no/\no<1600/\((ct l 8 4:Nat):Int)=no)) (λan bN p=>(lC (G.ext Q) (a:=8) (k:=4) I I I).use ?_) λag bj=>?_
 .rintro _ _ ⟨rfl,rfl⟩
  simp only[hV,fh]at an;refine⟨_,rfl,?_⟩;have:(((ct l 8 4:Nat):Int) !=IntKind.wrap .u64 no)= !decide (0<=no/\no<1600/\((ct l 8 4:Nat):Int)=no):=by
   rw[gl I I,ek];simp only[bne_iff_ne,ne_eq,ju,fh];omega
  rw[this];exact p _ (.refl _ _)
 have aP:=Q.trans bj;refine⟨λh=>u ag 1 aP ?_,λh=>?_⟩
 .unfold cG
  rw[if_neg z,if_neg K,if_neg N,if_neg T,←P,if_neg aN,if_pos];simp only[fC,cq,ju,fh]at h;omega
 have bk:cG no l=.ok ⟨(l.getD 5 0).toNat,ct l 12 8,(l.drop 24).take n⟩:=by
  unfold cG;rw[if_neg z,if_neg K,if_neg N,if_neg T,←P,if_neg aN,if_neg];simp only[hV,mv,cq,fh]at h;omega
 have aR:=cc ag;have t:=aP.trans aR;obtain⟨g,bm⟩:=U6 ag.drew;rw[←bm]at aR t⊢;have al:=G.ext t;obtain⟨bn,aS⟩:=B g 5 t I;have aT:=lF al hc (lo:=24) (hi:=24+n) I I;have aU:24+n-24=n:=I
 rw[aU]at aT;have bo:∀q,ar s q->q<g:=λq r=>by
  obtain⟨a3,L,rfl⟩:=r;rw[ak]at L
  cases L;have:=AK aS;rwa[qe]at this
 have bO:=iN g (.cells #[] 5);obtain⟨E,w',ao,aW,bP,bp,aX⟩:=nC.append (c7:=39) (aT.ext (dc g (.cells #[] 5))) (aL.new g [] 0 rfl (by decide)) (jE _) (by show(2*(0+n)+1000)*1<=_;omega);rw[lh]at aW;have am:aa (λq=>q=g) (g.alloc (.cells #[] 5)) w':=bp.mono λq _ bq=>(hZ.1 bq).symm;have aY:Ext o w':=Ext.dH (t.trans (dc _ _)) am λq e=>U4 t.size
 have hf:fI w E:=λq r=>by
  have:=F.size;have:=t.size;rcases aX q r with h|h
  .have:=hZ.1 h
   have:g.heap.size=q:=this;omega
  .omega
 have br:IntKind.wrap .i64 (((l.getD 5 0).toNat:Nat):Int)=(((l.getD 5 0).toNat:Nat):Int):=bl I I;have bs:Int.toNat (24+(n:Int))=24+n:=I
 have bt:Int.toNat 24=24:=rfl;rw[bs,bt,aU];have fin:c5 w' w [.int .i64 (IntKind.wrap .i64 (((l.getD 5 0).toNat:Nat):Int)),.int .u64 ((ct l 12 8:Nat):Int),E]/\(3:Nat)=3/\
  au (setCells w' w 0 [.int .i64 (IntKind.wrap .i64 (((l.getD 5 0).toNat:Nat):Int)),.int .u64 ((ct l 12 8:Nat):Int),E]) λm=>∃n8:Int,m.cell? w.heap.size=some (.int .i64 n8)/\∃n9:Int,m.cell? (Addr.add w 1)=some (.int .u64 n9)/\
  ∃f:U,m.cell? (Addr.add w 2)=some (.slice f.a f.len f.cap)/\(ny (cG no l) w m (.tuple #[.agg #[n8,.int .u64 n9,f],U8])/\Ext w m):=by
  rw[br];refine lJ _ _ _ (aA.ext aY) rfl λm y R a1=>⟨_,y.cell,_,y.cell,E,y.cell,?_,Ext.bQ (F.trans aY) R (a_ _)⟩;rw[bk];exact⟨E,rfl,aW.ab R λq r e=>by
   rcases aX q r with h|h
   .have:=hZ.1 h
    have:g.heap.size=q:=this;have:=F.size;have:=t.size;have:=aq.size;omega
   .have:=F.size
    have:=t.size;omega,hf⟩
 have r:∀q,ar s q->¬q=g.heap.size:=λq r e=>U4 (bo q r)
 refine aH ⟨λq=>q=g,A,ak,bn,r _ ⟨A,ak,rfl⟩,_,aS,⟨I,I⟩,⟨I,I⟩,(lC al (a:=12) (k:=8) I I I).use ?_,aH ⟨(dc _ _).mono λ_ _ h=>h.elim,(lC (al.ext (dc g (.cells #[] 5))) (a:=12) (k:=8) I I I).use ?_⟩⟩
 .rintro _ _ ⟨rfl,rfl⟩
  exact⟨_,rfl,.refl _ _,aH ⟨(dc _ _).mono λ_ _ h=>h.elim,E,w',ao,am,fin⟩⟩
 .rintro _ _ ⟨rfl,rfl⟩
  exact⟨_,rfl,.refl _ _,E,w',ao,am,fin⟩
theorem K0(n k:Nat):bV n (k+1)=UInt8.ofNat (n/256^k%256)::bV n k:=by
 unfold bV;rw[List.range_succ_eq_map,iX,g2]
 congr 1
 apply qt;intro j a;have:=iV.1 a;show UInt8.ofNat (n/256^(k+1-1-(j+1))%256)=_;rw[show k+1-1-(j+1)=k-1-j from I]
theorem pO(w:J){n:Nat}(u:n<18446744073709551616)(x:k<=8):aI aj 215 #[.int .u64 (n:Nat),k] w (λv w'=>∃s:U,v=s/\aL 1 5 w' s (aC (bV n k))/\Ext w w'/\fI w s):=by
 refine ad.Hh _ _ w _ ?_;(delta ad.pO Ct ae af ap ai;dsimp only);have y:=iN w (.cells #[] 5);refine aH ⟨λm s j w'=>∃i:Nat,i<=k/\j=(i:Int)/\m=((n/256^i:Nat):Int)/\aL 1 5 w' s (aC (bV n i))/\Ext w w'/\fI w s,λ_ _ j _=>((k:Int)-j).toNat,⟨0,cw _,rfl,by rw[Nat.pow_zero,Nat.div_one],aL.new w [] 0 rfl (by decide),dc _ _,λq a=>by have:=hZ.1 a;have:w.heap.size=q:=this;omega⟩,?_⟩;rintro _ s _ b ⟨i,hi,rfl,rfl,c,hx,hf⟩;refine⟨λh=>?_,λh=>?_⟩
 .simp only[dM,cq]at h
  have d:n/256^i<=n:=Nat.div_le_self _ _;have g:IntKind.wrap .u8 (Int.tmod ((n/256^i:Nat):Int) 256)=(((UInt8.ofNat (n/256^i%256)).toNat:Nat):Int):=by
   generalize n/256^i=m;rw[nT I,s7 I I,mJ (gu _ I)];omega
  have l:IntKind.wrap .u64 (Int.tdiv ((n/256^i:Nat):Int) 256)=((n/256^(i+1):Nat):Int):=by
   rw[Nat.pow_succ,←Nat.div_div_eq_div_mul]
   revert d
   generalize n/256^i=m;intro d;rw[Int.tdiv_eq_ediv_of_nonneg I,gl I I];omega
  rw[g,l,hM I];have o:=kC c;rw[eB]at o;have z:=iN b (.cells (aC [UInt8.ofNat (n/256^i%256)]).toArray 5);obtain⟨p,w',ao,f,A,r,t⟩:=nC.append (c7:=39) (c.src.alloc _) (aL.new b (aC [UInt8.ofNat (n/256^i%256)]) 1 rfl (by decide)) (jE _) (by show(2*(1+s.len)+1000)*1<=_;omega);rw[←l6,List.singleton_append,←K0]at f;refine⟨by decide,aH ⟨p,w',ao,by decide,⟨i+1,I,rfl,rfl,f,cn hx (cn (dc b _) r λq a c=>by have:=hZ.1 c;have:b.heap.size=q:=this;have:=hx.size;omega) λq a e=>e,λq a=>?_⟩,by show((k:Int)-((i+1:Nat):Int)).toNat<((k:Int)-(i:Int)).toNat;omega⟩⟩;have:=hx.size;rcases t q a with h1|h1
  .have:=hZ.1 h1
   have:b.heap.size=q:=this;omega
  .omega
 .simp only[Bool.and_eq_false_iff,fh]at h
  have:i=k:=I
  subst this;exact⟨s,rfl,c,hx,hf⟩
theorem oy{s:U}(hs:Src 1 w s (aC l)){n:Nat}(i:n<18446744073709551616)(j:k<=8)(y:l.length<=1000000):aI aj 256 #[s,.int .u64 (n:Nat),k] w (λv w'=>∃a:U,v=a/\aL 1 5 w' a (aC (l++bV n k))/\Ext w w'/\fI w a):=by
 have z:=len8 hs;refine ad.Hj s _ _ w _ ?_;(delta ad.oy ap ae bU aF;dsimp only);obtain⟨s2,c,ao,m,A,d,e,_⟩:=nC.clone (c7:=39) hs (jE _) I;refine aH ⟨s2,c,ao,(pO c i j).use ?_⟩;rintro _ B ⟨o,rfl,h1,b,C⟩;have p:=kC h1;rw[eB]at p;obtain⟨f,r,bJ,b4,D,t,u⟩:=nC.append (c7:=39) h1.src (m.ext b) (jE _) I;rw[←l6]at b4;have:=d.size;have:=b.size;exact⟨o,rfl,f,r,bJ,f,rfl,b4,cn (d.trans b) t λq g x=>U4 (e q x),λq g=>by
  rcases u q g with h|h
  .exact e q h
  .omega⟩
def fZ(b:O UInt8)(cL:Int):Key×Int:=
 if cL<0\/(b.length:Int)<=cL\/(b.length:Int)<cL+1+(b.getD cL.toNat 0).toNat then ([], -1) else ((b.drop (cL.toNat+1)).take (b.getD cL.toNat 0).toNat,cL+1+(b.getD cL.toNat 0).toNat)
theorem AL(b:O UInt8)(cL:Int): -1<=(fZ b cL).2/\(fZ b cL).2<=b.length/\(fZ b cL).1.length<=255:=by
 have:=(b.getD cL.toNat 0).toNat_lt;unfold fZ;split
 .exact⟨by decide,by show(-1:Int)<=b.length;omega,by decide⟩
 .exact⟨by show(-1:Int)<=cL+1+_;omega,by show cL+1+_<=(b.length:Int);omega,by show(List.take _ _).length<=255;rw[cQ];omega⟩
theorem pN{s:U}(hs:Src 1 w s (aC l))(hc:s.len<=s.cap)(R:l.length<=1000000){cL:Int}(S: -1<=cL/\cL<=1000000):
 aI aj 158 #[s,cL] w (λv w'=>∃t:U,v=.tuple #[t,.int .i64 (fZ l cL).2]/\bI (λq=>w<=q) w' t (fZ l cL).1/\Ext w w'):=by
 have H:=len8 hs;refine okF (ad.pN s cL) ay.pN func158 ?_;(delta ad.pN af aQ aO bA aV ai ae b1 ky ap;dsimp only);rw[bl (n:=cL+1) I I];have V:=(l.getD cL.toNat 0).toNat_lt;have y:¬(cL<0\/(l.length:Int)<=cL)->∃A:ax,s.a=some A/\((0:Int)<=cL/\cL<(s.len:Int))/\∀w',Ext w w'->w'.cell? (A.add (Int.toNat cL*1))=some (.int .u8 (((l.getD cL.toNat 0).toNat:Nat):Int)):=λh=>by
  obtain⟨k,rfl⟩:∃k:Nat,cL=(k:Int):=⟨cL.toNat,I⟩;rw[cS];obtain⟨A,h1,c,_⟩:=qf hs (i:=k) I;refine⟨A,h1,c,λw' hx=>?_⟩;obtain⟨W,z,_,d⟩:=qf (hs.ext hx) (i:=k) I;rw[h1]at z
  cases z;rw[cS]at d;exact d
 have B:∀h:¬(cL<0\/(l.length:Int)<=cL),IntKind.wrap .i64 (cL+1+IntKind.wrap .i64 (((l.getD cL.toNat 0).toNat:Nat):Int))=cL+1+(((l.getD cL.toNat 0).toNat:Nat):Int):=λ_=>by
  rw[bl (n:=(((l.getD cL.toNat 0).toNat:Nat):Int)) I I,bl I I]
 refine iA (decide ((l.length:Int)<cL+1+(((l.getD cL.toNat 0).toNat:Nat):Int))) (λh k K=>?_) λm r=>⟨λh=>?_,λh=>?_⟩
 .simp only[hV,fh]at h
  obtain⟨A,h1,c,d⟩:=y I;refine⟨A,h1,c,_,d w (.refl _ _),?_⟩;rw[B I,H];exact K _ (.refl _ _)
 .simp only[fC,cq]at h
  have e:fZ l cL=([], -1):=by unfold fZ;rw[if_pos I]
  have o:=aL.new (sz:=1) (T:=5) m [] 0 rfl (by decide);refine aH ⟨_,by rw[e],⟨by rw[e];exact o.src,a_ _,λq f=>⟨by have:=hZ.1 f;have:m.heap.size=q:=this;have:=r.size;omega,o.lt q f⟩⟩,r.trans (dc _ _)⟩
 .simp only[hV,fh]at h
  obtain⟨A,h1,c,d⟩:=y I;obtain⟨k,rfl⟩:∃k:Nat,cL=(k:Int):=⟨cL.toNat,I⟩;obtain⟨x,hx⟩:=U6 ((l.getD ((k:Int)).toNat 0).toNat);have e:fZ l (k:Int)=((l.drop (k+1)).take x,(k:Int)+1+x):=by unfold fZ;rw[if_neg I,←hx];rfl
  have g:=r.trans (cc m);have j:=d _ g;have u:=B I;rw[←hx]at j u h;have C:=hs.ext g;obtain⟨b,L⟩:=U6 m.drew;rw[←L]at j C g⊢;have X:A.block<b.heap.size:=by have:=AK j;rwa[qe]at this
  have D:=lF C hc (lo:=k+1) (hi:=k+1+x) I I;rw[show k+1+x-(k+1)=x from I]at D;obtain⟨E,w',ao,p,Y,M,N⟩:=nC.append (c7:=39) (D.ext (dc b (.cells #[] 5))) (aL.new b [] 0 rfl (by decide)) (jE _) (by show(2*(0+x)+1000)*1<=_;omega);rw[lh]at p;have Z:=iN b (.cells #[] 5);have ab:=g.size;have F:aa (λq=>q=b) (b.alloc (.cells #[] 5)) w':=M.mono λq _ o=>(hZ.1 o).symm;have P:Int.toNat ((k:Int)+1+x)=k+1+x:=I
  have Q:Int.toNat ((k:Int)+1)=k+1:=I
  have G:¬(A.add (Int.toNat (k:Int)*1)).block=b.heap.size:=by rw[qe];omega
  refine aH ⟨λq=>q=b,A,h1,c,G,_,j,?_⟩;rw[u,P,Q,show k+1+x-(k+1)=x from I];refine⟨⟨I,I⟩,⟨I,I⟩,A,h1,c,G,_,j,aH ⟨(dc _ _).mono λ_ _ h=>h.elim,E,w',ao,F,E,?_,⟨by rw[e];exact p.src,p.2.1,λq f=>⟨?_,p.lt q f⟩⟩,Ext.dH (g.trans (dc _ _)) F λq e=>I⟩⟩
  .rw[u,e]
  .rcases N q f with h|h
   .have:=hZ.1 h
    have:b.heap.size=q:=this;omega
   .omega
def iB(b:O UInt8)(cL:Int):Nat×Int:=
 if cL<0\/(b.length:Int)<cL+2 then (0, -1) else ((b.getD cL.toNat 0).toNat*256+(b.getD (cL.toNat+1) 0).toNat,cL+2)
theorem EX(b:O UInt8)(cL:Int): -1<=(iB b cL).2/\(iB b cL).2<=b.length/\(iB b cL).1<=65535:=by
 have:=(b.getD cL.toNat 0).toNat_lt;have:=(b.getD (cL.toNat+1) 0).toNat_lt;unfold iB;split
 .exact⟨by decide,by show(-1:Int)<=b.length;omega,by decide⟩
 .exact⟨by show(-1:Int)<=cL+2;omega,by show cL+2<=(b.length:Int);omega,by show _*256+_<=65535;omega⟩
theorem pM{s:U}(hs:Src 1 w s (aC l))(j:l.length<=1000000){cL:Int}(m: -1<=cL/\cL<=1000000):
 aI aj 157 #[s,cL] w (λv w'=>v=.tuple #[.int .i64 ((iB l cL).1:Nat),.int .i64 (iB l cL).2]/\Ext w w'):=by
 have o:=len8 hs;refine okF (ad.pM s cL) ay.pM func157 ?_;(delta ad.pM af ai aQ aO bA aV;dsimp only);rw[bl (n:=cL+2) I I];refine⟨λh=>?_,λh=>?_⟩
 .simp only[fC,cq]at h
  have e:iB l cL=(0, -1):=by unfold iB;rw[if_pos I]
  rw[e];exact⟨rfl,.refl _ _⟩
 .simp only[hV,fh]at h
  obtain⟨k,rfl⟩:∃k:Nat,cL=(k:Int):=⟨cL.toNat,I⟩;have a:=cc w;obtain⟨A,h1,c,d⟩:=qf (hs.ext a) (i:=k) I;obtain⟨p,b,f,g⟩:=qf (hs.ext a) (i:=k+1) I;rw[h1]at b
  cases b;have q:=(l.getD k 0).toNat_lt;have r:=(l.getD (k+1) 0).toNat_lt;rw[bl (n:=(k:Int)+1) I I];refine aH ⟨A,h1,c,id,_,d,A,h1,f,id,_,g,?_,a⟩;have e:iB l (k:Int)=((l.getD k 0).toNat*256+(l.getD (k+1) 0).toNat,(k:Int)+2):=by unfold iB;rw[if_neg I];rfl
  rw[e,bl (n:=(((l.getD k 0).toNat:Nat):Int)) I I,bl (n:=_*256) I I,bl (n:=(((l.getD (k+1) 0).toNat:Nat):Int)) I I,bl I I]
  congr 4
theorem j1{nb:Nat}{K V D:U}(h:Var w nb (dp n K V D) 169):w.cell? nb=some (.bool n.leaf)/\w.cell? (Addr.add nb 1)=some (.slice K.a K.len K.cap)/\w.cell? (Addr.add nb 2)=some (.slice V.a V.len V.cap)/\w.cell? (Addr.add nb 3)=some (.slice D.a D.len D.cap):=bS h
theorem K1{l:O Key}(h:l.Pairwise b9)(hi:i+1<l.length):b9 l[i] l[i+1]:=lT.1 h i (i+1) I hi I
theorem rI{K V D:U}(h:b2 B w n K V D)(h1:n.keys.length<=100000)(aF:n.vals.length<=100000)(aG:n.kids.length<=100000)(N:∀k∈n.keys,k.length<=100000):
 aI aj 208 #[dg n K V D] w (λv w'=>∃b:ag,v=b/\(b=true↔cC n)/\Ext w w'):=by
 have Z:=h.keys.len;have aK:=h.vals.len;have aL:=h.kids.len;refine okF (ad.rI n.leaf K V D) ay.rI func208 ?_;(delta ad.rI cW av aJ ae af aQ aO aV ai b5 r1 aW;dsimp only);refine bg (vs:=dp n K V D) rfl λw1 aa l aM=>?_;have s:∀w',Ext w1 w'->_:=λw' hx=>j1 (aa.ext hx);have no:∀w',Ext w w'->¬cC n->(∃b:ag,Value.bool false=b/\(b=true↔cC n)/\Ext w w'):=λw' hx f=>⟨false,rfl,⟨λh=>by(cases h),λh=>absurd h f⟩,hx⟩;refine⟨λj w'=>∃i:Nat,j=(i:Int)/\i<=n.keys.length/\Ext w1 w'/\(∀k∈n.keys.take i,cP k)/\∀ (a:Nat) (g:a+1<n.keys.length),a+1<i->b9 n.keys[a] n.keys[a+1],λj _=>((n.keys.length:Int)-j).toNat,⟨0,rfl,cw _,.refl _ _,λk c=>by(cases c),λa _ g=>I⟩,?_⟩;rintro _ E ⟨i,rfl,hi,F,z,O⟩;obtain⟨d0,d1,d2,d3⟩:=s E F;refine⟨K,d1,λaB=>?_,λp=>?_⟩
 .have e:i<n.keys.length:=U4 (bB aB)
  have o:=F.trans (cc E);have cO:=h.ext (l.trans o);obtain⟨_,q,_,_⟩:=s _ o;obtain⟨P,ab⟩:=U6 E.drew;rw[←ab]at o cO q⊢;obtain⟨A,t,ak,f,hc,ht,_⟩:=cO.keys.at e;have ac:t.len=n.keys[i].length:=len8 ht.1;have G:n.keys[i]∈n.keys:=cg e;have aN:=N _ G;have step:cP n.keys[i]->(∀a,i=a+1->∀ (g:a+1<n.keys.length),b9 n.keys[a] n.keys[a+1])->∀w',Ext w1 w'->(∃C:Nat,IntKind.wrap .i64 ((i:Int)+1)=(C:Int)/\C<=n.keys.length/\Ext w1 w'/\(∀k∈n.keys.take C,cP k)/\∀ (a:Nat) (g:a+1<n.keys.length),a+1<C->b9 n.keys[a] n.keys[a+1])/\((n.keys.length:Int)-IntKind.wrap .i64 ((i:Int)+1)).toNat<((n.keys.length:Int)-(i:Int)).toNat:=λc d w' hx=>by
   rw[hM I];refine⟨⟨i+1,rfl,I,hx,λk Q=>?_,λa g aP=>?_⟩,I⟩
   .rw[gv e,cE,dV]at Q
    obtain h|rfl:=Q
    .exact z k h
    .exact c
   .by_cases h:a+1<i
    .exact O a g h
    .exact d a I g
  refine aH ⟨id,K,q,A,ak,f,id,t,hc,λd=>⟨λ_=>no _ (l.trans o) λhs=>?_,nofun⟩,λd=>⟨id,K,q,A,ak,f,id,t,hc,λhg=>⟨λ_=>no _ (l.trans o) λhs=>?_,nofun⟩,λhg=>⟨λH=>?_,λH=>⟨nofun,λ_=>step ⟨?_,?_⟩ (λa g _=>?_) _ o⟩⟩⟩⟩
  .have:=(hs.keys.ok _ G).1
   have:=bB d;omega
  .have:=(hs.keys.ok _ G).2
   have:=bB hg;omega
  .have aR:=bB H
   have aS:=bT d;have aT:=bT hg;obtain⟨a,rfl⟩:∃a,i=a+1:=⟨i-1,I⟩;obtain⟨ah,al,am,an,ap,aq,_⟩:=cO.keys.at (i:=a) I;have ar:IntKind.wrap .i64 (((a+1:Nat):Int)-1)=(a:Int):=by rw[bl I I];omega
   rw[ar];refine⟨id,K,q,ah,am,an,id,al,ap,id,K,q,A,ak,f,id,t,hc,(rE aq.1 ht.1 (U4 (N _ (cg (show a<n.keys.length from I)))) I).use ?_⟩;rintro _ aU ⟨m,rfl,R,S⟩;refine⟨m,rfl,λp=>no _ (l.trans (o.trans S)) λhs=>?_,λaB=>step ⟨I,I⟩ (λb f _=>?_) _ (o.trans S)⟩
   .have:=R.2 (K1 hs.keys.fG e)
    have:=bB p;omega
   .obtain rfl:a=b:=I
    exact R.1 (U4 (bT aB))
  .have:=bT d;omega
  .have:=bT hg;omega
  .have:=bT H;omega
 have u:i=n.keys.length:=U4 (bT p)
 subst u;rw[gD]at z;have T:n.keys.Pairwise b9:=zE λa g=>O a g g;refine⟨λj w'=>∃i:Nat,j=(i:Int)/\i<=n.vals.length/\Ext w1 w'/\(∀k∈n.vals.take i,k.length<=24),λj _=>((n.vals.length:Int)-j).toNat,⟨0,rfl,cw _,F,λk c=>by(cases c)⟩,?_⟩;rintro _ au ⟨i,rfl,hi,x,L⟩;obtain⟨f0,f1,f2,f3⟩:=s au x;refine⟨V,f2,λaB=>?_,λp=>?_⟩
 .have e:i<n.vals.length:=U4 (bB aB)
  obtain⟨A,t,ak,f,hc,ht,_⟩:=(h.ext (l.trans x)).vals.at e;have ac:t.len=n.vals[i].length:=len8 ht.1;refine⟨V,f2,A,ak,f,t,hc,λhg=>no _ (l.trans x) λhs=>?_,λhg=>?_⟩
  .have:=hs.vals _ (cg e)
   have:=bB hg;omega
  .rw[hM I]
   refine⟨⟨i+1,rfl,I,x,λk c=>?_⟩,by show((n.vals.length:Int)-((i+1:Nat):Int)).toNat<((n.vals.length:Int)-(i:Int)).toNat;omega⟩;rw[gv e,cE,dV]at c;obtain h|rfl:=c
   .exact L k h
   .have:=bT hg;omega
 have u:i=n.vals.length:=U4 (bT p)
 subst u;rw[gD]at L;refine⟨λj w'=>∃i:Nat,j=(i:Int)/\i<=n.kids.length/\Ext w1 w'/\(∀k∈n.kids.take i,k<1600),λj _=>((n.kids.length:Int)-j).toNat,⟨0,rfl,cw _,x,λk c=>by(cases c)⟩,?_⟩;rintro _ aw ⟨i,rfl,hi,r,M⟩;obtain⟨hK,ao,ax,y⟩:=s aw r;refine⟨D,y,λaB=>?_,λp=>?_⟩
 .have e:i<n.kids.length:=U4 (bB aB)
  obtain⟨A,ak,f,hc⟩:=(h.ext (l.trans r)).kids.at e;refine⟨D,y,A,ak,f,_,hc,iA (decide (((n.kids[i]:Nat):Int)>1599)) (λ_ k c=>⟨D,y,A,ak,f,_,hc,c _ (.refl _ _)⟩) λaX W=>⟨λhg=>no _ (l.trans (r.trans W)) λhs=>?_,λhg=>?_⟩⟩
  .have:=hs.kids _ (cg e)
   simp only[fC,cq]at hg;omega
  .simp only[hV,fh]at hg
   rw[hM I];refine⟨⟨i+1,rfl,I,r.trans W,λk c=>?_⟩,by show((n.kids.length:Int)-((i+1:Nat):Int)).toNat<((n.kids.length:Int)-(i:Int)).toNat;omega⟩;rw[gv e,cE,dV]at c;obtain h|rfl:=c
   .exact M k h
   .omega
 have u:i=n.kids.length:=U4 (bT p)
 subst u;rw[gD]at M;have X:=l.trans r;refine⟨n.leaf,hK,λd=>⟨V,ax,K,ao,kJ (D.len==0) (λ_ k c=>⟨D,y,?_⟩) λaY az=>⟨_,rfl,?_,X.trans az⟩⟩,λd=>⟨K,ao,kJ ((D.len:Int)==IntKind.wrap .i64 ((K.len:Int)+1)) (λ_ k c=>⟨D,y,K,ao,c _ (.refl _ _)⟩) λaZ Y=>kJ (V.len==0) (λ_ k c=>?_) λa0 aC=>⟨_,rfl,?_,(X.trans Y).trans aC⟩⟩⟩
 .rw[show(((D.len:Int))==0)=(D.len==0) by rw[ek,gP,gP];omega]
  exact c _ (.refl _ _)
 .simp only[dM,gP]
  constructor
  .rintro⟨q,aD⟩
   exact .inl ⟨⟨z,T⟩,d,I,kN.1 I,L⟩
  .rintro(hs|hs)
   .have:=hs.len
    have:=congrArg List.length hs.kids;rw[ic]at this;exact⟨I,I⟩
   .rw[hs.inner]at d;cases d
 .obtain⟨_,_,aE,_⟩:=s _ (r.trans Y)
  refine⟨V,aE,?_⟩;rw[show(((V.len:Int))==0)=(V.len==0) by rw[ek,gP,gP];omega];exact c _ (.refl _ _)
 .rw[hM I]
  simp only[dM,gP,cq];constructor
  .rintro⟨⟨q,aD⟩,a1⟩
   exact .inr ⟨⟨z,T⟩,d,λh=>by rw[h,ic]at Z;omega,I,kN.1 I,M⟩
  .rintro(hs|hs)
   .rw[hs.leaf]at d;cases d
   .have:=hs.len
    have:=sA.2 hs.some;have:=congrArg List.length hs.vals;rw[ic]at this;exact⟨⟨I,I⟩,I⟩
theorem x9{s x:U}{a:O UInt8}(lo:Nat)(hx:Src 1 w x (aC b))(d:aL 1 5 w s (aC a))(hf:∀q,ar s q->lo<=q)(j:lo<=w)(k:a.length+b.length<=1000000):
 ∃ (c:U) (w':J),Sem.run aj (Builtin.append_ #[39,39] 39 #[s,x]) w=.ok c w'/\aL 1 5 w' c (aC (a++b))/\(∀q,ar c q->lo<=q)/\aa (ar s) w w'/\aa (λq=>lo<=q) w w':=by
 have h1:=len8 hx;have l:=kC d;obtain⟨c,w',ao,e,m,f,g⟩:=nC.append (c7:=39) hx d (jE _) I;rw[←l6]at e;exact⟨c,w',ao,e,λq i=>(g q i).elim (hf q) λh=>I,f,f.mono λq _ d=>hf q d⟩
theorem rV(w:J)(l:O UInt8)(k:Nat)(a:l.length=k)(b:k<=1000):aL 1 5 (w.alloc (.cells (aC l).toArray 5)) ⟨some w.heap.size,k,k⟩ (aC l):=aL.new w (aC l) k (by rw[dO];omega) (by have:maxLen=9223372036854775807:=rfl;omega)
theorem AM(a:k<=255):IntKind.wrap .u8 (k:Int)=(((UInt8.ofNat k).toNat:Nat):Int):=by rw[s7 I I,mJ I]
theorem rK{K V D:U}(h:b2 B w n K V D)(hs:cC n)(hi:i<n.keys.length)(aZ:i<=1000):
 aI aj 257 #[dg n K V D,i] w (λv w'=>∃s:U,v=s/\aL 1 5 w' s (aC (eF n i))/\Ext w w'/\fI w s):=by
 have a0:=h.vals.len;have a1:=h.kids.len;refine okF (ad.rK n.leaf K V D (i:Nat)) ay.rK func257 ?_;(delta ad.rK b1 c2 dC aJ ae aQ aO aV ap aW af av ai r1 bU aF;dsimp only);refine bg (vs:=dp n K V D) rfl λw1 P ax a2=>?_;have f:=ax.trans (cc w1);have C:=j1 (Var.drew P);obtain⟨ah,Q⟩:=U6 w1.drew;have E:Var ah w.heap.size (dp n K V D) 169:=by rw[Q];exact Var.drew P
 rw[←Q]at f C⊢;obtain⟨A,t,ak,R,hc,ht,_⟩:=(h.ext f).keys.at hi;have S:t.len=n.keys[i].length:=len8 ht.1;have az:=hs.keys.ok _ (cg hi);have a3:t.len<=24:=by rw[S];exact az.2
 refine aH ⟨λ_=>False,id,K,C.2.1,A,ak,R,id,t,hc,id,K,C.2.1,A,ak,R,id,t,hc,?_⟩;rw[AM I];have a4:=f.size;have F:Ext ah (ah.alloc (.cells (aC [UInt8.ofNat t.len]).toArray 5)):=dc _ _;have a5:=iN ah (.cells (aC [UInt8.ofNat t.len]).toArray 5);obtain⟨m,p,ao,G,r,a6,aB⟩:=x9 ah.heap.size (ht.1.ext F) (rV ah [UInt8.ofNat t.len] 1 rfl I) (λq d=>Nat.le_of_eq (hZ.1 d)) I (by rw[ia];omega);have g:Ext ah p:=Ext.dH F aB λq h=>h;have H:=f.trans g;have aD: [UInt8.ofNat t.len]++n.keys[i]=gW n.keys[i]:=by rw[S];rfl
 rw[aD]at G;have a7:=g.size;have W:=j1 (E.ext g);refine aH ⟨F.mono λ_ _ h=>h.elim,m,p,ao,n.leaf,W.1,λa=>?_,λa=>?_⟩
 .have X:hJ n:=by rcases hs with h|h;exact h;rw[h.inner]at a;cases a
  have L:i<n.vals.length:=by rw[X.len];exact hi
  have j:=cc p;have M:=j1 (Var.drew (E.ext g));obtain⟨b,aE⟩:=U6 p.drew;rw[←aE]at j M⊢;have Y:=H.trans j;obtain⟨c,t2,u,x,Z,aa,a8⟩:=h.vals.at L;have y:b.cell? (c.add (Int.toNat (i:Int)*1))=_:=Y.cell id Z;have ac:t2.len=n.vals[i].length:=len8 aa.1;have a9:t2.len<=24:=by rw[ac];exact X.vals _ (cg L)
  have a_:c.block<w.heap.size:=by have:=AK Z;rwa[qe]at this
  have ba:=j.size;have ag:∀o,¬ar m (c.add o).block:=λo l=>by have:=r _ l;rw[qe]at this;omega
  have al:¬ar m (Addr.add w.heap.size 2).block:=λl=>by have:=r _ l;rw[qe]at this;have bb:ah.heap.size<=w.heap.size:=this;have:=E.lt;omega
  refine aH ⟨ar m,al,V,M.2.2.1,c,u,x,ag _,t2,y,al,V,M.2.2.1,c,u,x,ag _,t2,y,?_⟩;rw[AM I];have z:Ext b (b.alloc (.cells (aC [UInt8.ofNat t2.len]).toArray 5)):=dc _ _;have bc:=iN b (.cells (aC [UInt8.ofNat t2.len]).toArray 5);obtain⟨aG,N,bJ,b4,aK,am,aM⟩:=x9 ah.heap.size (Src.new (T:=5) b (aC [UInt8.ofNat t2.len]) 1 rfl) ((G.ext j).ext z) r I (by rw[ik,ia];omega);have an:Ext ah N:=Ext.dH ((g.trans j).trans z) aM λq h=>h;have bd:=an.size;have aN:Src 1 N t2 (aC n.vals[i]):=aa.1.ab (cn (Y.trans z) am λq d l=>by have:=r q l;omega) λ_ _ h=>h;obtain⟨aq,aP,aR,aS,aT,be,aU⟩:=x9 ah.heap.size aN b4 aK I (by rw[b6,ik,ia];omega);refine aH ⟨z.mono λ_ _ h=>h.elim,aG,N,bJ,am,aq,aP,aR,aq,rfl,?_,f.trans (Ext.dH an aU λq h=>h),λq d=>by have:=aT q d;omega⟩;have aX:eF n i=gW n.keys[i]++ [UInt8.ofNat t2.len]++n.vals[i]:=by
   unfold eF;rw[if_pos a,c8 hi,c8 L,ac,cU];rfl
  rw[aX];exact aS
 .have au:tL n:=by rcases hs with h|h;rw[h.leaf]at a;cases a;exact h
  have O:i+1<n.kids.length:=by rw[au.len];omega
  obtain⟨c,u,x,y⟩:=(h.ext H).kids.at O;have bf:=au.kids _ (cg O);rw[hM I];refine⟨D,W.2.2.2,c,u,x,_,y,?_⟩;rw[gl I I];refine(oy G.src (n:=n.kids[i+1]) (k:=2) I I (by rw[ik];omega)).use ?_;rintro _ bh ⟨aw,rfl,bm,bt,aY⟩;refine⟨aw,rfl,aw,rfl,?_,H.trans bt,λq d=>by have:=aY q d;omega⟩;have e:eF n i=gW n.keys[i]++bV n.kids[i+1] 2:=by
   unfold eF;rw[if_neg (by rw[a];simp),c8 hi,c8 O]
  rw[e];exact bm
theorem EY(n:aA):n.keys.length+1<=(ew n).length:=by
 have h:∀i m,m<=(fz n i m).length:=λi m=>by
  induction m generalizing i with
  |zero=>exact cw _
  |succ m a=>
   rw[xp,b6];have:=a (i+1);have:1<=(eF n i).length:=by unfold eF;rw[b6,ik];omega
   omega
 have:=h 0 n.keys.length;unfold ew preB;rw[b6,eE];omega
theorem EZ(hs:cC n)(hi:i<n.keys.length):(eF n i).length<=60:=by
 have h1:=(hs.keys.ok _ (cg hi)).2;unfold eF;rw[b6,ik,c8 hi];split
 .rw[ik]
  have:(n.vals.getD i []).length<=24:=by
   rcases dA i n.vals.length with h|h
   .rw[c8 h];exact hs.vals _ (cg h)
   .rw[fi,mw h];exact cw _
  omega
 .rw[eB];omega
theorem rJ{K V D:U}(h:b2 B w n K V D)(hs:cC n)(ar:n.keys.length<=255):
 aI aj 209 #[dg n K V D] w (λv w'=>∃s:U,v=s/\aL 1 5 w' s (aC (ew n))/\Ext w w'/\fI w s):=by
 have x:=h.keys.len;refine okF (ad.rJ n.leaf K V D) ay.rJ func209 ?_;(delta ad.rJ av aJ ae aW af aQ aO r1 aV bU aF jd ap ai;dsimp only);refine bg (vs:=dp n K V D) rfl λw1 y M au=>⟨K,(j1 y).2.1,?_⟩;rw[AM I];have l:=rV w1 [UInt8.ofNat K.len] 1 rfl I;have m:Ext w1 (w1.alloc (.cells (aC [UInt8.ofNat K.len]).toArray 5)):=dc _ _;have N:=iN w1 (.cells (aC [UInt8.ofNat K.len]).toArray 5);refine aH ?_;obtain⟨o,z⟩:=U6 (w1.alloc (.cells (aC [UInt8.ofNat K.len]).toArray 5));rw[←z]at l m N;rw[show w1.alloc (.cells #[.int .u8 (((UInt8.ofNat K.len).toNat:Nat):Int)] 5)=o from z.symm];have c:=M.trans m;have p:=y.ext m;have A:=j1 p;have O:fI w ⟨some w1.heap.size,1,1⟩:=λq a=>by have:=hZ.1 a;have aw:w1.heap.size=q:=this;omega
 refine cx (λs w'=>aL 1 5 w' s (aC (preB n))/\Ext w w'/\fI w s/\Var w' w (dp n K V D) 169) (λq a=>⟨n.leaf,A.1,λd=>?_,λd=>a _ _ ⟨?_,c,O,p⟩⟩) ?_
 .have r:tL n:=by obtain h|h:=hs;rw[h.leaf]at d;cases d;exact h
  have t:0<n.kids.length:=by rw[r.len];omega
  obtain⟨P,Q,R,S⟩:=(h.ext c).kids.at t;have ax:=r.kids _ (cg t);refine⟨D,A.2.2.2,P,Q,R,_,S,?_⟩;rw[gl I I];refine(oy l.src (n:=n.kids[0]) (k:=2) I I (by rw[ia];omega)).use ?_;rintro _ az ⟨T,rfl,bm,bt,W⟩;have aD:=c.size;refine⟨T,rfl,a _ _ ⟨?_,c.trans bt,λq a=>U4 (W q a),p.ext bt⟩⟩;have e:preB n=[UInt8.ofNat K.len]++bV n.kids[0] 2:=by
   unfold preB;rw[if_neg (by rw[r.inner];simp),c8 t,x];rfl
  rw[e];exact bm
 .have e:preB n=[UInt8.ofNat K.len]:=by
   unfold preB;rw[if_pos (by simpa using d),x]
  rw[e];exact l
 rintro X Y ⟨Z,hx,hf,aa⟩;have hlen:∀i,i<=n.keys.length->(preB n++fz n 0 i).length<=3+60*i:=λi=>by
  induction i with
  |zero=>
   intro _;show(preB n++ []).length<=_;unfold preB;split<;>simp[eB]
  |succ i ac=>
   intro hi;have:=ac I;have:=EZ hs (i:=i) I;rw[pT,←cU,b6];omega
 refine⟨λs j w'=>∃i:Nat,j=(i:Int)/\i<=n.keys.length/\aL 1 5 w' s (aC (preB n++fz n 0 i))/\Ext w w'/\fI w s/\Var w' w (dp n K V D) 169,λ_ j _=>((n.keys.length:Int)-j).toNat,⟨0,rfl,cw _,by show aL 1 5 Y X (aC (preB n++ []));rw[fO];exact Z,hx,hf,aa⟩,?_⟩;rintro ag _ aE ⟨i,rfl,hi,u,f,C,g⟩;have b:=j1 g;refine⟨K,b.2.1,λaB=>?_,λah=>?_⟩
 .have E:i<n.keys.length:=U4 (bB aB)
  refine⟨n.leaf,b.1,K,b.2.1,V,b.2.2.1,D,b.2.2.2,(rK (h.ext f) hs E I).use ?_⟩;rintro _ aG ⟨ak,rfl,aR,a7,bx⟩;have aK:=f.size;obtain⟨al,F,ao,G,am,aM,H⟩:=x9 (w.heap.size+1) aR.src (u.ext a7) (λq a=>by
   have h1:=C q a;rcases dA w q with L|L
   .exact L
   .have an:q=w.heap.size:=I
    subst an;exact absurd (u.GD a g) (by decide)) (U5 a7.size g.lt) (U5 (hlen i hi) (EZ hs E))
  rw[hM I];rw[cU,←pT]at G;have hg:Ext w F:=Ext.dH (f.trans a7) H λq h=>by omega
  exact⟨ak,rfl,al,F,ao,⟨i+1,rfl,I,G,hg,λq a=>U4 (am q a),(g.ext a7).ab H I⟩,by show((n.keys.length:Int)-((i+1:Nat):Int)).toNat<((n.keys.length:Int)-(i:Int)).toNat;omega⟩
 .have aq:i=n.keys.length:=U4 (bT ah)
  subst aq;exact⟨ag,rfl,u,f,C⟩
theorem rG{K V D:U}(h:b2 B w n K V D)(h1:n.keys.length<=100000)(o:n.vals.length<=100000)(p:n.kids.length<=100000)(q:∀k∈n.keys,k.length<=100000):
 aI aj 159 #[dg n K V D] w (λv w'=>∃ (s:U) (e:Int),v=.tuple #[s,e]/\Ext w w'/\((cC n/\(ew n).length<=232/\e=0/\Src 1 w' s (aC (ew n)))\/(¬(cC n/\(ew n).length<=232)/\e≠0))):=by
 have C:=h.keys.len;have E:=EY n;refine okF (ad.rG n.leaf K V D) ay.rG func159 ?_;(delta ad.rG aW ae av aJ bR af bU;dsimp only);refine bg (vs:=dp n K V D) rfl λw1 f g F=>?_;have a:=j1 f;refine⟨_,a.1,K,a.2.1,V,a.2.2.1,D,a.2.2.2,(rI (h.ext g) h1 o p q).use ?_⟩;rintro _ G ⟨b,rfl,l,c⟩;refine⟨b,rfl,iA (decide ((K.len:Int)>255)) (λ_ k r=>⟨K,(j1 (f.ext c)).2.1,r _ (.refl _ _)⟩) λt i=>⟨λhg=>aH ⟨⟨some t.heap.size,0,0⟩,4,rfl,((g.trans c).trans i).trans (dc _ _),.inr ⟨λhs=>?_,by decide⟩⟩,λhg=>?_⟩⟩
 .simp only[fC,ju,cq]at hg
  obtain hg|hg:=hg
  .rw[l.2 hs.1]at hg;cases hg
  .omega
 .simp only[hV,mv,fh]at hg
  have hs:=l.1 hg.1;have j:=(g.trans c).trans i;have d:=j1 ((f.ext c).ext i);refine⟨_,d.1,K,d.2.1,V,d.2.2.1,D,d.2.2.2,(rJ (h.ext j) hs I).use ?_⟩;rintro _ u ⟨x,rfl,ao,m,H⟩;have L:=kC ao;refine⟨x,rfl,λy=>⟨_,0,rfl,j.trans m,.inl ⟨hs,U4 (bB y),rfl,ao.src⟩⟩,λz=>aH ⟨⟨some u.heap.size,0,0⟩,10,rfl,(j.trans m).trans (dc _ _),.inr ⟨λA=>U5 (bT z) A.2,by decide⟩⟩⟩
def hO(leaf:ag)(b:O UInt8):aA×Int:=if leaf then (⟨leaf,[],[],[]⟩,1) else (⟨leaf,[],[],[(iB b 1).1]⟩,(iB b 1).2)
def iC(b:O UInt8)(s:aA×Int):aA×Int:=
 if s.1.leaf then (⟨s.1.leaf,s.1.keys++ [(fZ b s.2).1],s.1.vals++ [(fZ b (fZ b s.2).2).1],s.1.kids⟩,(fZ b (fZ b s.2).2).2)
 else (⟨s.1.leaf,s.1.keys++ [(fZ b s.2).1],s.1.vals,s.1.kids++ [(iB b (fZ b s.2).2).1]⟩,(iB b (fZ b s.2).2).2)
def gq(b:O UInt8)(s:aA×Int):Nat->aA×Int
 |0=>s
 |i+1=>iC b (gq b s i)
def qg(leaf:ag)(b:O UInt8):aA×Int:=gq b (hO leaf b) (b.getD 0 0).toNat
theorem K2(b:O UInt8)(s:aA×Int):(iC b s).1.leaf=s.1.leaf:=by unfold iC;split<;>rfl
theorem AN(b:O UInt8)(s:aA×Int):∀i,(gq b s i).1.leaf=s.1.leaf
 |0=>rfl
 |i+1=>(K2 b _).trans (AN b s i)
theorem E0(leaf:ag)(b:O UInt8):(hO leaf b).1.leaf=leaf:=by unfold hO;split<;>rfl
theorem AO{p r:O UInt8}{k:Key}(b:k.length<=255):fZ (p++(gW k++r)) (p.length:Nat)=(k,(p.length:Int)+1+(k.length:Int)):=by
 have a:((p++(gW k++r)).getD ((p.length:Int)).toNat 0).toNat=k.length:=by
  rw[cS,fi,j6 (a_ _),lQ];show(UInt8.ofNat k.length).toNat=_;exact mJ I
 have c:(p++(gW k++r)).length=p.length+(k.length+1+r.length):=by rw[b6,b6,ik]
 unfold fZ;rw[a,if_neg I,cS]
 congr 1
 rw[←mm,List.drop_left' rfl];show List.take k.length (k++r)=k;exact List.take_left' rfl
theorem E1{p r:O UInt8}(hd:d<65536):iB (p++(bV d 2++r)) (p.length:Nat)=(d,(p.length:Int)+2):=by
 have c:(p++(bV d 2++r)).length=p.length+(2+r.length):=by rw[b6,b6,eB]
 have e:bV d 2=[UInt8.ofNat (d/256%256),UInt8.ofNat (d%256)]:=by simp[bV,sF]
 have a:(p++(bV d 2++r)).getD ((p.length:Int)).toNat 0=UInt8.ofNat (d/256%256):=by
  rw[cS,fi,j6 (a_ _),lQ,e];rfl
 have b:(p++(bV d 2++r)).getD (((p.length:Int)).toNat+1) 0=UInt8.ofNat (d%256):=by
  rw[cS,fi,j6 (Nat.le_add_right _ _),Nat.add_sub_cancel_left,e];rfl
 unfold iB;rw[a,b,if_neg I,mJ (gu _ I),mJ (gu _ I)]
 congr 1
 omega
theorem K3(n:aA)(i:Nat):∀m,fz n 0 (i+m)=fz n 0 i++fz n i m:=by
 intro m
 induction m generalizing i with
 |zero=>show _=_++ [];rw[fO];rfl
 |succ m a=>
  rw[xp,←cU,←pT,←a (i+1)]
  congr 1
  omega
theorem uw{α:Type}{l:O α}{d:α}(h:i<l.length):l.take i++ [l.getD i d]=l.take (i+1):=by
 rw[c8 h,gv h]
theorem K4(h:cC n):∀i,i<=n.keys.length->gq (ew n) (hO n.leaf (ew n)) i=(⟨n.leaf,n.keys.take i,n.vals.take i,if n.leaf then [] else n.kids.take (i+1)⟩,((preB n++fz n 0 i).length:Int)):=by
 intro i
 induction i with
 |zero=>
  intro _;show hO n.leaf (ew n)=(_,((preB n++ []).length:Int));unfold hO;rw[fO];obtain h|h:=h
  .rw[if_pos h.leaf,if_pos h.leaf]
   unfold preB;rw[if_pos h.leaf];rfl
  .have hf:¬n.leaf=true:=by rw[h.inner];simp
   have a:0<n.kids.length:=by rw[h.len];omega
   have b:preB n=[UInt8.ofNat n.keys.length]++bV (n.kids.getD 0 0) 2:=by unfold preB;rw[if_neg hf];rfl
   have hd:n.kids.getD 0 0<65536:=by rw[c8 a];have:=h.kids _ (cg a);omega
   have he:iB (ew n) 1=(n.kids.getD 0 0,3):=by
    unfold ew;rw[b,cU];exact E1 (p:=[UInt8.ofNat n.keys.length]) hd
   rw[if_neg hf,if_neg hf,he,b,b6,eB,←uw (d:=0) a,h.vals];rfl
 |succ i m=>
  intro hi;have c:i<n.keys.length:=I
  have e:ew n=(preB n++fz n 0 i)++(eF n i++fz n (i+1) (n.keys.length-(i+1))):=by
   unfold ew;have:=K3 n i (n.keys.length-(i+1)+1);rw[show i+(n.keys.length-(i+1)+1)=n.keys.length from I,xp]at this;rw[this,cU]
  have l:(preB n++fz n 0 (i+1)).length=(preB n++fz n 0 i).length+(eF n i).length:=by rw[pT,←cU,b6]
  obtain⟨p,b⟩:=U6 (preB n++fz n 0 i);obtain⟨r,o⟩:=U6 (fz n (i+1) (n.keys.length-(i+1)));rw[←b,←o]at e;rw[←b]at l;have q:=(h.keys.ok _ (cg c)).2;show iC (ew n) (gq (ew n) _ i)=_;rw[m I,←b,l];rw[←c8 (d:=[]) c]at q;obtain h|h:=h
  .have f:i<n.vals.length:=by rw[h.len];exact c
   have s:=h.vals _ (cg f);rw[←c8 (d:=[]) f]at s;have hc:eF n i=gW (n.keys.getD i [])++gW (n.vals.getD i []):=by unfold eF;rw[if_pos h.leaf]
   have g:fZ (ew n) (p.length:Int)=(n.keys.getD i [],(((p++gW (n.keys.getD i [])).length:Nat):Int)):=by
    rw[e,hc,cU,AO I,b6,ik]
    congr 1;omega
   have j:fZ (ew n) (((p++gW (n.keys.getD i [])).length:Nat):Int)=(n.vals.getD i [],((p.length+(eF n i).length:Nat):Int)):=by
    have k:ew n=(p++gW (n.keys.getD i []))++(gW (n.vals.getD i [])++r):=by rw[e,hc];simp
    rw[k,AO I,hc]
    congr 1
    rw[b6,b6,ik,ik];omega
   unfold iC;simp only[h.leaf,if_true,g,j,uw c,uw f]
  .have hf:¬n.leaf=true:=by rw[h.inner];simp
   have a:i+1<n.kids.length:=by rw[h.len];omega
   have hd:n.kids.getD (i+1) 0<65536:=by rw[c8 a];have:=h.kids _ (cg a);omega
   have hc:eF n i=gW (n.keys.getD i [])++bV (n.kids.getD (i+1) 0) 2:=by unfold eF;rw[if_neg hf]
   have g:fZ (ew n) (p.length:Int)=(n.keys.getD i [],(((p++gW (n.keys.getD i [])).length:Nat):Int)):=by
    rw[e,hc,cU,AO I,b6,ik]
    congr 1;omega
   have j:iB (ew n) (((p++gW (n.keys.getD i [])).length:Nat):Int)=(n.kids.getD (i+1) 0,((p.length+(eF n i).length:Nat):Int)):=by
    have k:ew n=(p++gW (n.keys.getD i []))++(bV (n.kids.getD (i+1) 0) 2++r):=by rw[e,hc];simp
    rw[k,E1 hd,hc]
    congr 1
    rw[b6,b6,ik,eB];omega
   unfold iC;simp only[h.inner,gr,if_false,g,j,uw c,uw a,h.vals,List.take_nil]
theorem E2{leaf:ag}(h:gX leaf b n):qg leaf b=(n,(b.length:Int)):=by
 obtain⟨h1,rfl,e,rfl⟩:=h;have f:=tO h1;have a:((ew n).getD 0 0).toNat=n.keys.length:=by
  unfold ew preB;show(UInt8.ofNat n.keys.length).toNat=_;exact mJ I
 unfold qg;rw[a,K4 h1 _ (a_ _)];have c:n.vals.take n.keys.length=n.vals:=by
  obtain h|h:=h1
  .rw[←h.len,gD]
  .rw[h.vals,List.take_nil]
 have d:(if n.leaf=true then [] else n.kids.take (n.keys.length+1))=n.kids:=by
  obtain h|h:=h1
  .rw[if_pos h.leaf,h.kids]
  .rw[if_neg (by rw[h.inner];simp),←h.len,gD]
 rw[gD,c,d];rfl
theorem K5{leaf:ag}(h1:cC (qg leaf b).1)(a:(ew (qg leaf b).1).length<=232)(c:ew (qg leaf b).1=b):gX leaf b (qg leaf b).1:=
 ⟨h1,(AN b _ _).trans (E0 leaf b),by rw[←tN h1];exact a,c⟩
structure iD(lo z:Nat)(w:J)(nb:Nat)(m:aA)(K V D:U)(bw bD br:U1):Prop where
 v:Var w nb (dp m K V D) 169
 keys:bq bw w K m.keys
 vals:bq bD w V m.vals
 kids:cM br w D m.kids
 bW:∀q,bw q->lo<=q/\q<z/\¬bD q/\¬br q
 bv:∀q,bD q->lo<=q/\q<z/\¬br q
 aO:∀q,br q->lo<=q/\q<z
 kZ:nb<lo
 sd:lo<=z/\z<=w
section
variable {lo z nb:Nat}{w w':J}{m:aA}{K V D t:U}{bw bD br:U1}{l:Key}
theorem iD.ext(h:iD lo z w nb m K V D bw bD br)(hx:Ext w w'):iD lo z w' nb m K V D bw bD br:=by
 have:=hx.size;exact⟨h.v.ext hx,h.keys.ext hx,h.vals.ext hx,h.kids.ext hx,h.bW,h.bv,h.aO,h.kZ,h.sd.1,U4 h.sd.2⟩
theorem iD.mono(h:iD lo z w nb m K V D bw bD br){y:Nat}(h1:z<=y)(b:y<=w):iD lo y w nb m K V D bw bD br:=
 ⟨h.v,h.keys,h.vals,h.kids,λq a=>by have:=h.bW q a;exact⟨this.1,I,this.2.2⟩,λq a=>by have:=h.bv q a;exact⟨this.1,I,this.2.2⟩,λq a=>by have:=h.aO q a;exact⟨this.1,I⟩,h.kZ,U4 h.sd.1,b⟩
theorem bq.in(h:bq bw w K m.keys){q:Nat}(a:ar K q):bw q:=by
 obtain⟨ts,_,_,b,_⟩:=h;exact(b q a).1
def oV(lo nb:Nat)(q:Nat):Prop:=q=nb\/lo<=q
theorem iD.Ak(h:iD lo z w nb m K V D bw bD br)(ht:bI (λq=>z<=q) w t l)(n:m.keys.length<=100000)
 (p:∀ (w':J) (f:U) (r:U1),iD lo w' w' nb ⟨m.leaf,m.keys++ [l],m.vals,m.kids⟩ f V D r bD br->aa (oV lo nb) w w'->R w'):
 ∃c:U,w.cell? (Addr.add nb 1)=some (.slice c.a c.len c.cap)/\au (w.alloc (.cells #[t] 39)) λs=>∃j:U,∃d:J,Sem.run aj (Builtin.append_ #[93,93] 93 #[c,.slice (some w) 1 1]) s=.ok j d/\
  (∃u:Y,d.cell? (Addr.add nb 1)=some u)/\d.frozen? (Addr.add nb 1)=false/\au (d.setCell (Addr.add nb 1) j) λx=>R x:=by
 have y:=h.kZ;have G:=h.sd;have g_:∀q,ar K q->bw q:=λq b=>bq.in h.keys b;refine⟨K,(j1 h.v).2.1,(rS (W:=λ_=>False) (B:=λq=>bw q\/(z<=q/\q<w)) h.v (o:=1) (by show 1<4;decide) (bq.bh h.keys λk _ h=>.inl h) (λh1=>?_) (bI.bh ht λk g h=>.inr ⟨h,g⟩) (λk A C=>?_) n λw' f ao E e=>?_).2⟩
 .obtain h1|h1:=h1
  .have:=(h.bW nb h1).1;omega
  .omega
 .have:=(h.bW k (g_ k C)).2.1
  have:=(ht.2.2 k A).1;omega
 have hg:=e.size;refine p w' f (λq=>bw q\/(z<=q/\q<w')) ⟨ao,bq.bh E λk _ g=>?_,bq.ab h.vals e ?_,cM.ab h.kids e ?_,?_,λq b=>?_,λq b=>?_,y,I,a_ _⟩ (e.mono λq _ b=>?_)
 .rcases g with (h1|h1)|h1
  .exact .inl h1
  .exact .inr ⟨h1.1,I⟩
  .exact .inr ⟨I,h1.2⟩
 .rintro q b (h1|h1)
  .have:=(h.bv q b).1;omega
  .exact(h.bW q (g_ q h1)).2.2.1 b
 .rintro q b (h1|h1)
  .have:=(h.aO q b).1;omega
  .exact(h.bW q (g_ q h1)).2.2.2 b
 .rintro q (h1|h1)
  .have:=h.bW q h1;exact⟨this.1,I,this.2.2⟩
  .exact⟨I,h1.2,λi=>U4 (h.bv q i),λi=>U4 (h.aO q i)⟩
 .have:=h.bv q b;exact⟨this.1,I,this.2.2⟩
 .have:=h.aO q b;exact⟨this.1,I⟩
 .exact b.imp id λF=>(h.bW q (g_ q F)).1
theorem iD.K6(h:iD lo z w nb m K V D bw bD br)(ht:bI (λq=>z<=q) w t l)(n:m.vals.length<=100000)
 (p:∀ (w':J) (g:U) (r:U1),iD lo w' w' nb ⟨m.leaf,m.keys,m.vals++ [l],m.kids⟩ K g D bw r br->aa (oV lo nb) w w'->R w'):
 ∃c:U,w.cell? (Addr.add nb 2)=some (.slice c.a c.len c.cap)/\au (w.alloc (.cells #[t] 39)) λs=>∃j:U,∃d:J,Sem.run aj (Builtin.append_ #[93,93] 93 #[c,.slice (some w) 1 1]) s=.ok j d/\
  (∃u:Y,d.cell? (Addr.add nb 2)=some u)/\d.frozen? (Addr.add nb 2)=false/\au (d.setCell (Addr.add nb 2) j) λx=>R x:=by
 have y:=h.kZ;have H:=h.sd;have g_:∀q,ar V q->bD q:=λq b=>by
  obtain⟨ts,_,_,A,_⟩:=h.vals;exact(A q b).1
 refine⟨V,(j1 h.v).2.2.1,(rS (W:=λ_=>False) (B:=λq=>bD q\/(z<=q/\q<w)) h.v (o:=2) (by show 2<4;decide) (bq.bh h.vals λk _ h=>.inl h) (λh1=>?_) (bI.bh ht λk i h=>.inr ⟨h,i⟩) (λk C E=>?_) n λw' g ao F e=>?_).2⟩
 .obtain h1|h1:=h1
  .have:=(h.bv nb h1).1;omega
  .omega
 .have:=(h.bv k (g_ k E)).2.1
  have:=(ht.2.2 k C).1;omega
 have hg:=e.size;refine p w' g (λq=>bD q\/(z<=q/\q<w')) ⟨ao,bq.ab h.keys e ?_,bq.bh F λk _ i=>?_,cM.ab h.kids e ?_,λq b=>?_,?_,λq b=>?_,y,I,a_ _⟩ (e.mono λq _ b=>?_)
 .rintro q b (h1|h1)
  .have:=(h.bW q b).1;omega
  .exact(h.bW q b).2.2.1 (g_ q h1)
 .rcases i with (h1|h1)|h1
  .exact .inl h1
  .exact .inr ⟨h1.1,I⟩
  .exact .inr ⟨I,h1.2⟩
 .rintro q b (h1|h1)
  .have:=(h.aO q b).1;omega
  .exact(h.bv q (g_ q h1)).2.2 b
 .have:=h.bW q b;exact⟨this.1,I,λf=>f.elim this.2.2.1 λf=>I,this.2.2.2⟩
 .rintro q (h1|h1)
  .have:=h.bv q h1;exact⟨this.1,I,this.2.2⟩
  .exact⟨I,h1.2,λf=>U4 (h.aO q f)⟩
 .have:=h.aO q b;exact⟨this.1,I⟩
 .exact b.imp id λG=>(h.bv q (g_ q G)).1
theorem iD.E3(h:iD lo z w nb m K V D bw bD br)(d:Nat)(j:m.kids.length<=100000)
 (l:∀ (w':J) (az:U) (n:U1),iD lo w' w' nb ⟨m.leaf,m.keys,m.vals,m.kids++ [d]⟩ K V az bw bD n->aa (oV lo nb) w w'->R w'):
 ∃e:U,w.cell? (Addr.add nb 3)=some (.slice e.a e.len e.cap)/\au (w.alloc (.cells #[d] 3)) λp=>∃i:U,∃f:J,Sem.run aj (Builtin.append_ #[72,72] 72 #[e,.slice (some w) 1 1]) p=.ok i f/\
  (∃u:Y,f.cell? (Addr.add nb 3)=some u)/\f.frozen? (Addr.add nb 3)=false/\au (f.setCell (Addr.add nb 3) i) λr=>R r:=by
 have s:=h.kZ;have A:=h.sd;have g_:∀q,ar D q->br q:=λq b=>(h.kids.2 q b).1;refine⟨D,(j1 h.v).2.2.2,(zI (W:=λ_=>False) d h.v (o:=3) (by show 3<4;decide) h.kids (λh1=>U4 ((h.aO nb h1).1)) j λw' az ao t g=>?_).2⟩;have hg:=g.size;refine l w' az (λq=>br q\/(z<=q/\q<w')) ⟨ao,bq.ab h.keys g ?_,bq.ab h.vals g ?_,cM.bh t λk _ x=>x.imp id λh1=>⟨I,h1.2⟩,λq b=>?_,λq b=>?_,?_,s,I,a_ _⟩ (g.mono λq _ b=>?_)
 .rintro q b (h1|h1)
  .have:=(h.bW q b).1;omega
  .exact(h.bW q b).2.2.2 (g_ q h1)
 .rintro q b (h1|h1)
  .have:=(h.bv q b).1;omega
  .exact(h.bv q b).2.2 (g_ q h1)
 .have:=h.bW q b;exact⟨this.1,I,this.2.2.1,λc=>c.elim this.2.2.2 λc=>I⟩
 .have:=h.bv q b;exact⟨this.1,I,λc=>c.elim this.2.2 λc=>I⟩
 .rintro q (h1|h1)
  .have:=h.aO q h1;exact⟨this.1,I⟩
  .exact⟨I,h1.2⟩
 .exact b.imp id λy=>(h.aO q (g_ q y)).1
end
def AP(leaf:ag)(l:O UInt8)(w w':J)(v:Y):Prop:=
 (∃ (n:aA) (K V D:U),v=.tuple #[dg n K V D,true]/\gX leaf l n/\b2 (λq=>w<=q) w' n K V D)\/(v=.tuple #[dg jW bG bG bG,false]/\∀n,¬gX leaf l n)
theorem E4(b:O UInt8)(s:aA×Int):∀i,(gq b s i).1.keys.length=s.1.keys.length+i/\(gq b s i).1.vals.length<=s.1.vals.length+i/\(gq b s i).1.kids.length<=s.1.kids.length+i/\((∀k∈s.1.keys,k.length<=255)->∀k∈(gq b s i).1.keys,k.length<=255)/\(-1<=s.2/\s.2<=1+b.length-> -1<=(gq b s i).2/\(gq b s i).2<=1+b.length)
 |0=>⟨rfl,a_ _,a_ _,id,id⟩
 |i+1=>by
  obtain⟨h1,d,e,c,f⟩:=E4 b s i
  have a:(∀k∈s.1.keys,k.length<=255)->∀k∈(gq b s i).1.keys++ [(fZ b (gq b s i).2).1],k.length<=255:=λh k a=>by
   rw[cE,dV]at a
   obtain a|rfl:=a
   .exact c h k a
   .exact(AL b _).2.2
  show(iC b (gq b s i)).1.keys.length=_/\(iC b (gq b s i)).1.vals.length<=_/\(iC b (gq b s i)).1.kids.length<=_/\(_->∀k∈(iC b (gq b s i)).1.keys,_)/\(_-> -1<=(iC b (gq b s i)).2/\(iC b (gq b s i)).2<=_)
  have ht:=AL b (fZ b (gq b s i).2).2
  have hd:=EX b (fZ b (gq b s i).2).2
  unfold iC
  split<;>simp only[b6,ia]
  .exact⟨I,I,I,a,λ_=>I⟩
  .exact⟨I,I,I,a,λ_=>I⟩
theorem rD{s:U}(hs:Src 1 w s (aC l))(hc:s.len<=s.cap)(bF:l.length<=1000)(leaf:ag):
 aI aj 83 #[leaf,s] w (λv w'=>AP leaf l w w' v/\Ext w w'):=by
 have aY:=len8 hs;refine okF (ad.rD leaf s) ay.rD func83 ?_;(delta ad.rD z3 bf ae af kz aW og av aJ jc y9 ap st gg aQ aO bA aV ai dY lB oe;dsimp only);refine bg (vs:=[false,(),(),()]) rfl λw1 aZ a0 bH=>bg (vs:=[false,(),(),()]) rfl λah an aq bI=>?_;refine⟨an.cF rfl (by
  intro v F;simp only[cN,er,ez]at F;rcases F with rfl|rfl|rfl|rfl<;>trivial),rfl,c6 an (us:=[leaf,(),(),()]) rfl rfl λd ar au bJ=>?_⟩
 have M:Ext w d:=Ext.bQ (a0.trans aq) au I;have aw:Var d w.heap.size [false,(),(),()] 169:=(aZ.ext aq).ab au I;obtain⟨nb,a1⟩:=U6 w1.heap.size;rw[←a1]at ar⊢;have bad:∀w',Ext w w'->Var w' w.heap.size [false,(),(),()] 169->(∀n,¬gX leaf l n)->_:=λw' hx F p=>jh false bG bG bG F rfl (Q:=λb K V D ah=>(λv w'=>AP leaf l w w' v/\Ext w w') (.tuple #[.agg #[b,K,V,D],false]) ah) λa2 G=>⟨.inr ⟨rfl,p⟩,Ext.bQ hx G (a_ _)⟩;refine⟨λh0=>bad d M aw λn o=>?_,λh0=>?_⟩
 .have h1:(s.len:Int)=0:=by simpa using h0
  have f:=EY n;rw[o.2.2.2]at f;omega
 have a3:0<l.length:=by
  have:¬(s.len:Int)=0:=by simpa using h0
  omega
 obtain⟨lo,bK⟩:=U6 d.heap.size;have ax:iD lo lo d nb ⟨leaf,[],[],[]⟩ bG bG bG (λ_=>False) (λ_=>False) (λ_=>False):=⟨ar,bq.none _ _,bq.none _ _,cM.none _ _,λq h=>h.elim,λq h=>h.elim,λq h=>h.elim,I,⟨a_ _,I⟩⟩;have bL:w.heap.size<nb:=by omega
 have live:∀w',aa (oV lo nb) d w'->Ext w w'/\Src 1 w' s (aC l)/\Var w' w.heap.size [false,(),(),()] 169:=λw' hc=>by
  have hx:Ext w w':=Ext.dH M hc λq a=>by rcases a with a|a<;>omega
  exact⟨hx,hs.ext hx,aw.ab hc λa=>by rcases a with a|a<;>omega⟩
 refine cx (λn w'=>∃ (D:U) (br:U1),n=(hO leaf l).2/\iD lo w'.heap.size w' nb (hO leaf l).1 bG bG D (λ_=>False) (λ_=>False) br/\aa (oV lo nb) d w') (λq a=>⟨λc=>?_,λc=>a _ _ ⟨bG,λ_=>False,?_,?_,.refl _ _⟩⟩) ?_
 .have c:leaf=false:=by simpa using c
  subst c;refine(pM (hs.ext M) I (cL:=1) I).use ?_;rintro _ bN ⟨rfl,aA⟩;refine⟨_,_,rfl,((ax.ext aA).E3 (iB l 1).1 (by show 0<=100000;omega) λw' az P h1 f=>a _ _ ⟨az,P,?_,?_,(aA.mono λ_ _ h=>h.elim).trans f⟩)⟩
  .rfl
  .exact h1
 .have c:leaf=true:=by simpa using c
  subst c;rfl
 .have c:leaf=true:=by simpa using c
  subst c;exact ax.mono I (a_ _)
 rintro _ bO ⟨D0,a4,rfl,a5,a6⟩;have R:(hO leaf l).1.keys=[]/\(hO leaf l).1.vals.length<=1/\(hO leaf l).1.kids.length<=1/\ -1<=(hO leaf l).2/\(hO leaf l).2<=1+l.length:=by
  have:=EX l 1;unfold hO
  cases leaf<;>simp<;>omega
 have a8:=(l.getD 0 0).toNat_lt;obtain⟨N,T⟩:=U6 ((l.getD 0 0).toNat);rw[←T]at a8;refine⟨λn i w'=>∃ (j:Nat) (K V D:U) (bw bD br:U1),i=(j:Int)/\j<=N/\n=(gq l (hO leaf l) j).2/\iD lo w'.heap.size w' nb (gq l (hO leaf l) j).1 K V D bw bD br/\aa (oV lo nb) d w',λ_ i _=>((N:Int)-i).toNat,⟨0,bG,bG,D0,_,_,a4,rfl,cw _,rfl,a5,a6⟩,?_⟩;rintro _ _ aD ⟨j,K,V,D,bw,bD,br,rfl,bP,rfl,g,aE⟩;obtain⟨a9,W,aF⟩:=live aD aE;obtain⟨A,ak,p,ba⟩:=qf W a3;obtain⟨f1,f2,f3,f4,f5⟩:=E4 l (hO leaf l) j;have f5:=f5 R.2.2.2;have f4:=f4 (by rw[R.1];intro k C;cases C);rw[R.1,ic]at f1;have E:=(AN l (hO leaf l) j).trans (E0 leaf l);obtain⟨m,X⟩:=U6 (gq l (hO leaf l) j);have aG:gq l (hO leaf l) (j+1)=iC l m:=by rw[X];rfl
 rw[←X]at g f1 f2 f3 f4 f5 E⊢;refine⟨A,ak,p,_,ba,?_⟩;rw[←T,bl (n:=(N:Int)) I I];refine⟨λaB=>?_,λbb=>?_⟩
 .have aB:=bB aB
  have bR:=AL l m.2;refine⟨(pN W hc I (cL:=m.2) I).use ?_⟩;rintro _ bS ⟨t,rfl,ht,aH⟩;refine⟨t,_,rfl,(g.ext aH).Ak ht I λbc aK aL aM bd=>?_⟩;have Y:=(aE.trans (aH.mono λ_ _ h=>h.elim)).trans bd;obtain⟨bU,aN,_⟩:=live bc Y;have fin:∀Z r,(∃ (K V D:U) (bw bD br:U1),Z=(iC l m).2/\iD lo r.heap.size r nb (iC l m).1 K V D bw bD br/\aa (oV lo nb) d r)->
   (∃ (H:Nat) (K V D:U) (bw bD br:U1),IntKind.wrap .i64 ((j:Int)+1)=(H:Int)/\H<=N/\Z=(gq l (hO leaf l) H).2/\iD lo r.heap.size r nb (gq l (hO leaf l) H).1 K V D bw bD br/\aa (oV lo nb) d r)/\((N:Int)-IntKind.wrap .i64 ((j:Int)+1)).toNat<((N:Int)-(j:Int)).toNat:=λZ r ⟨K,V,D,bw,bD,br,h1,f,L⟩=>by
   rw[hM I];exact⟨⟨j+1,K,V,D,bw,bD,br,rfl,I,by rw[aG];exact h1,by rw[aG];exact f,L⟩,I⟩
  refine⟨λc=>(pN aN hc I (cL:=(fZ l m.2).2) I).use ?_,λc=>(pM aN I (cL:=(fZ l m.2).2) I).use ?_⟩
  .rintro _ bV ⟨t2,rfl,be,aP⟩
   refine⟨t2,_,rfl,(aM.ext aP).K6 be (by show m.1.vals.length<=_;omega) λbX bi bj bk bm=>fin _ _ ⟨aK,bi,D,aL,bj,br,?_,?_,(Y.trans (aP.mono λ_ _ h=>h.elim)).trans bm⟩⟩
   .unfold iC;rw[if_pos (E.trans c)]
   .unfold iC;rw[if_pos (E.trans c)];exact bk
  .rintro _ bY ⟨rfl,aS⟩
   refine⟨_,_,rfl,(aM.ext aS).E3 (iB l (fZ l m.2).2).1 (by show m.1.kids.length<=_;omega) λbZ az P bn bp=>fin _ _ ⟨aK,V,az,aL,bD,P,?_,?_,(Y.trans (aS.mono λ_ _ h=>h.elim)).trans bp⟩⟩
   .unfold iC;rw[if_neg (by rw[E,c];simp)]
   .unfold iC;rw[if_neg (by rw[E,c];simp)];exact bn
 .have bs:j=N:=by have:=bT bb;omega
  have ac:m=qg leaf l:=by rw[X,bs,T];rfl
  obtain⟨bM,aR,a7,bx⟩:=j1 g.v;have cO:b2 (λq=>lo<=q) aD m.1 K V D:=⟨bo.bh (bq.im g.keys) λq _ a=>(g.bW q a).1,bo.bh (bq.im g.vals) λq _ a=>(g.bv q a).1,cK.bh (cM.pV g.kids) λq _ a=>(g.aO q a).1⟩;refine⟨_,bM,K,aR,V,a7,D,bx,(rG cO I I I λk C=>by have:=f4 k C;omega).use ?_⟩;rintro _ al ⟨bt,e,rfl,u,am⟩;have bu:=g.v.ext u;have bz:=cO.ext u;have aT:=a9.trans u;refine⟨bt,e,rfl,cx (λb w'=>Ext al w'/\(b=true->∀n,¬gX leaf l n)/\(b=false->gX leaf l m.1)) (λq a=>⟨λh1=>a _ _ ⟨.refl _ _,λ_ n o=>?_,nofun⟩,λh1=>?_⟩) ?_⟩
  .have y:=E2 o
   rw[←ac]at y;rw[y]at am;simp only[fC,bne_iff_ne,ne_eq]at h1;rcases h1 with h1|h1
   .apply h1;rw[y,aY]
   .rcases am with ⟨_,_,h,_⟩|⟨h,_⟩
    .exact h1 h
    .exact h ⟨o.1,by rw[tN o.1];exact o.2.2.1⟩
  .simp only[hV,bne_eq_false_iff_eq]at h1
   rcases am with ⟨ao,z,b0,bC⟩|⟨_,z⟩
   .refine⟨S (ew m.1),al,xA bC,S l,al,xA (W.ext u),a _ _ ⟨.refl _ _,λf n o=>?_,λf=>?_⟩⟩
    .have y:=E2 o
     rw[←ac]at y;have:ew m.1=l:=by rw[y];exact o.2.2.2
     rw[this]at f;simp at f
    .have L:(S (ew m.1)).toList=(S l).toList:=by simpa using f
     have aU:ew m.1=l:=by
      have aX:∀x:O UInt8,(S x).toList=x:=λx=>by rw[ByteArray.toList_eq];rfl
      rw[aX,aX]at L;exact L
     rw[ac]at ao z aU⊢;exact K5 ao z aU
   .exact absurd h1.2 z
  rintro b bE ⟨B,ao,z⟩;obtain⟨d0,d1,d2,d3⟩:=j1 (bu.ext B);refine⟨λp=>bad bE (aT.trans B) ((aF.ext u).ext B) (ao p),λp=>⟨_,d0,K,d1,V,d2,D,d3,?_⟩⟩;refine jh m.1.leaf K V D ((aF.ext u).ext B) rfl (Q:=λb K V D ah=>(λv w'=>AP leaf l w w' v/\Ext w w') (.tuple #[.agg #[b,K,V,D],true]) ah) λa2 G=>⟨.inl ⟨m.1,K,V,D,rfl,z p,?_⟩,Ext.bQ (aT.trans B) G (a_ _)⟩;exact((bz.ext B).ab G λk C e=>I).bh λk _ C=>by omega
theorem h_{s:U}(hs:Src 1 w s (aC l))(a k:Nat)(b:k<=8)(c:a+k<=l.length)(d:l.length<=1000000){R:Int->U2}(f:R (ct l a k:Nat) w):
 Calls aj 155 #[s,a,k] w λe w'=>∃n:Int,e=.returned (.int .u64 n)/\R n w':=
 (lC hs b c d).use λv w' g=>by obtain⟨rfl,rfl⟩:=g;exact⟨_,rfl,f⟩
theorem K7(u:cD)(w:J):Sem.run aj (Instr.build 90 #[(0,u.root),(1,u.aD),(2,u.map),(3,.int .u64 (u.clock:Nat)),(4,.int .u64 (u.dI:Nat)),(5,u.keys)]) w=.ok (.agg u.c.toArray) w:=by kernel_rfl
theorem K8{u:cD}{n:Nat}:((((((!(((u.root:Int)==0)==((u.aD:Int)==0)))||decide ((u.aD:Int)>12))||decide ((u.root:Int)>=(n:Int)))||decide ((u.map:Int)>=(n:Int)))||decide ((u.map:Int)<2))||decide ((n:Int)>1600))= !decide (g8 u n):=by
 rw[ek];have a:(((u.root:Int)==0)==((u.aD:Int)==0))=decide (u.root=0↔u.aD=0):=by
  rw[ek,gP,cq,ek,gP,gP];omega
 rw[a];unfold g8;have b:(u.root=0↔u.aD=0)↔((u.root=0/\u.aD=0)\/(u.root≠0/\u.aD≠0)):=by
  by_cases c:u.root=0<;>by_cases d:u.aD=0<;>simp[c,d]
 simp only[fC,ju,cq,fh,b];omega
theorem rB{s:U}(hs:Src 1 w s (aC l))(hc:s.len<=s.cap)(aN:l.length<=1000)(no:Int)(aP: -9223372036854775808<=no/\no<=9223372036854775807):
 aI aj 80 #[no,s] w (λv w'=>(match eD no l with
  | .ok (u,_,g)=>v=.tuple #[.agg u.c.toArray,.int .u64 (g:Nat),U8]
  | .error e=>v=.tuple #[.agg cZ.c.toArray,.int .u64 0,e])/\Ext w w'):=by
 refine okF (ad.rB no s) ay.rB func80 ?_;(delta ad.rB eo jR z4 bf ae aF af vH r1 aT bZ c0 av aJ mE b1 c2 dC aQ aO ky bA aV ed ai pv vz od vD;dsimp only);refine bg (vs:=cZ.c) rfl λw1 aR ap bc=>(nq (hs.ext ap) hc aN no aP).use ?_;rintro v ah ⟨hd,aq⟩;have F:=ap.trans aq;have G:=aR.ext aq
 have T:∀ (w':J) (e:Int),Ext w w'->Var w' w.heap.size cZ.c 90->eD no l=.error e->c5 w' w.heap.size [U8,U8,U8,.int .u64 0,.int .u64 0,U8]/\(6:Nat)=6/\
  au (setCells w' w.heap.size 0 [U8,U8,U8,.int .u64 0,.int .u64 0,U8]) λj=>∃n11:Int,j.cell? w.heap.size=some (.int .i64 n11)/\∃n12:Int,j.cell? (Addr.add w.heap.size 1)=some (.int .i64 n12)/\
  ∃n13:Int,j.cell? (Addr.add w.heap.size 2)=some (.int .i64 n13)/\∃n14:Int,j.cell? (Addr.add w.heap.size 3)=some (.int .u64 n14)/\∃n15:Int,j.cell? (Addr.add w.heap.size 4)=some (.int .u64 n15)/\
  ∃n16:Int,j.cell? (Addr.add w.heap.size 5)=some (.int .i64 n16)/\((match eD no l with
   | .ok (u,_,g)=>Value.tuple #[.agg #[n11,n12,n13,.int .u64 n14,.int .u64 n15,n16],.int .u64 0,e]=.tuple #[.agg u.c.toArray,.int .u64 (g:Nat),U8]
   | .error ar=>Value.tuple #[.agg #[n11,n12,n13,.int .u64 n14,.int .u64 n15,n16],.int .u64 0,e]=.tuple #[.agg cZ.c.toArray,.int .u64 0,ar])/\Ext w j):=λw' e hx aS he=>
  fQ aS rfl cZ λj aU aW bd=>fe aU (by rw[he];exact⟨rfl,Ext.bQ hx aW (a_ _)⟩)
 cases r:cG no l with
 |error e=>
  rw[r]at hd;obtain rfl:v=_:=hd;have aX:=oK r;have H:eD no l=.error e:=by unfold eD;rw[r]
  refine⟨0,0,hC,e,rfl,bg (vs:=[U8,.int .u64 0,()]) rfl λaY V W aZ=>lJ 0 0 hC V rfl λK L X a0=>⟨λ_=>?_,λh=>absurd (by simpa using h) aX⟩⟩;have m:Ext ah K:=Ext.bQ W X (a_ _);exact T K e (F.trans m) (G.ext m) H
 |ok p=>
  rw[r]at hd;obtain⟨t,rfl,ht,be⟩:=hd;have bh:=kC ht;have bi:=x3 r;refine⟨_,_,t,0,rfl,bg (vs:=[U8,.int .u64 0,()]) rfl λaY V W aZ=>lJ p.kind p.gen t V rfl λK L X a0=>⟨nofun,λ_=>⟨_,L.cell,?_⟩⟩⟩;have m:Ext ah K:=Ext.bQ W X (a_ _);have a1:=ht.src.ext m;refine iA (decide (p.body.length≠33)) (λ_ k f=>⟨t,by rw[aw];exact L.cell,?_⟩) λY y=>⟨λh=>T Y 4 ((F.trans m).trans y) ((G.ext m).ext y) ?_,λh=>?_⟩
  .rw[show(((t.len:Int)) !=33)=decide (p.body.length≠33) by rw[ek,bne_iff_ne,cq];omega]
   exact f _ (.refl _ _)
  .unfold eD
   rw[r];show(if p.kind≠3\/p.body.length≠33 then _ else _)=_;rw[if_pos];simp only[fC,bne_iff_ne,cq]at h;omega
  simp only[hV,bne_eq_false_iff_eq,fh,ne_eq,Decidable.not_not]at h;obtain⟨bj,bk⟩:=h;have a2:=(F.trans m).trans y;have x:=cc Y;obtain⟨b,a3⟩:=U6 Y.drew;rw[←a3]at x⊢;have Z:=a2.trans x;have ab:Var b ah.heap.size [p.kind,.int .u64 p.gen,t] 137:=(L.ext y).ext x;have ac:Var b w.heap.size cZ.c 90:=((G.ext m).ext y).ext x;have o:Src 1 b t (aC p.body):=(a1.ext y).ext x;have a7:∀ {w'},Ext b w'->w'.cell? (Addr.add ah.heap.size 2)=some (.slice t.a t.len t.cap):=λhx=>by rw[aw];exact(ab.ext hx).cell
  obtain⟨A,ak,a4,a5⟩:=qf o (i:=4) I;have z:Ext b (b.alloc (.cells cZ.c.toArray 90)):=dc _ _;have d:=o.ext z;obtain⟨u,hu⟩:=U6 (nB p.body);obtain⟨n,ax⟩:=U6 (ct p.body 9 4);have M:∀a,a+4<=33->ct p.body a 4<4294967296:=λa a6=>r_ (l:=p.body) (a:=a) (k:=4) I;have bm:∀a,a+8<=33->ct p.body a 8<18446744073709551616:=λa a6=>r_ (l:=p.body) (a:=a) (k:=8) I;have a8:ct p.body 4 1=(p.body.getD 4 0).toNat:=by
   unfold ct;rw[c8 I,j5 I];show jf [p.body[4]]=_;simp[jf]
  have bn:=(p.body.getD 4 0).toNat_lt;have B:∀N:J,Sem.run aj (Instr.build 90 #[(0,.int .i64 (IntKind.wrap .i64 (ct p.body 0 4:Nat))),(1,.int .i64 (IntKind.wrap .i64 (((p.body.getD 4 0).toNat:Nat):Int))),(2,.int .i64 (IntKind.wrap .i64 (ct p.body 5 4:Nat))),(3,.int .u64 (ct p.body 13 8:Nat)),(4,.int .u64 (ct p.body 21 8:Nat)),(5,.int .i64 (IntKind.wrap .i64 (ct p.body 29 4:Nat)))]) N=.ok (.agg u.c.toArray) N:=λN=>by
   have:=M 0 I;have:=M 5 I;have:=M 29 I;rw[bl (n:=((ct p.body 0 4:Nat):Int)) I I,bl (n:=(((p.body.getD 4 0).toNat:Nat):Int)) I I,bl (n:=((ct p.body 5 4:Nat):Int)) I I,bl (n:=((ct p.body 29 4:Nat):Int)) I I,←a8,hu];exact K7 (nB p.body) N
  have H:eD no l=if g8 u n then .ok (u,n,p.gen) else .error 4:=by
   unfold eD;rw[r];show(if p.kind≠3\/p.body.length≠33 then _ else _)=_;rw[if_neg I,hu,ax]
  have ag:=Var.new b cZ.c 90;have az:=iN b (.cells cZ.c.toArray 90);have bo:=Z.size;have bp:=F.size;have bq:=ab.lt;have br:=ac.lt;have bs:w.heap.size<ah.heap.size:=G.lt;have C:¬(λ_:Nat=>False) (Addr.add ah.heap.size 2).block:=id;refine aH ⟨λ_=>False,C,t,a7 (.refl _ _),C,t,a7 (.refl _ _),A,ak,a4,id,_,a5,C,t,a7 (.refl _ _),C,t,a7 (.refl _ _),C,t,a7 (.refl _ _),C,t,a7 (.refl _ _),?_⟩;have D:aa (λ_:Nat=>False) b (b.alloc (.cells cZ.c.toArray 90)):=z;refine(λtail=>⟨h_ o 0 4 I I I ⟨.refl _ _,h_ o 5 4 I I I ⟨.refl _ _,h_ o 13 8 I I I ⟨.refl _ _,h_ o 21 8 I I I ⟨.refl _ _,h_ o 29 4 I I I ⟨.refl _ _,u.c.toArray,B,aH ⟨D,tail⟩⟩,
   aH ⟨D,h_ d 29 4 I I I ⟨.refl _ _,u.c.toArray,B,tail⟩⟩⟩,
   aH ⟨D,h_ d 21 8 I I I ⟨.refl _ _,h_ d 29 4 I I I ⟨.refl _ _,u.c.toArray,B,tail⟩⟩⟩⟩,
   aH ⟨D,h_ d 13 8 I I I ⟨.refl _ _,h_ d 21 8 I I I ⟨.refl _ _,h_ d 29 4 I I I ⟨.refl _ _,u.c.toArray,B,tail⟩⟩⟩⟩⟩,
   aH ⟨D,h_ d 5 4 I I I ⟨.refl _ _,h_ d 13 8 I I I ⟨.refl _ _,h_ d 21 8 I I I ⟨.refl _ _,h_ d 29 4 I I I ⟨.refl _ _,u.c.toArray,B,tail⟩⟩⟩⟩⟩⟩,
   aH ⟨D,h_ d 0 4 I I I ⟨.refl _ _,h_ d 5 4 I I I ⟨.refl _ _,h_ d 13 8 I I I ⟨.refl _ _,h_ d 21 8 I I I ⟨.refl _ _,h_ d 29 4 I I I ⟨.refl _ _,u.c.toArray,B,tail⟩⟩⟩⟩⟩⟩⟩) ?_
  obtain⟨ub,a9⟩:=U6 b.heap.size;obtain⟨al,aA⟩:=U6 (b.alloc (.cells cZ.c.toArray 90));rw[show b.alloc (.cells #[U8,U8,U8,.int .u64 0,.int .u64 0,U8] 90)=al from aA.symm];rw[←aA]at ag az z;rw[←a9]at ag az⊢;refine fQ ag rfl u λP Q am bt=>⟨t,a7 (Ext.bQ z am I),h_ (o.ext (Ext.bQ z am I)) 9 4 I I I ?_⟩;have E:Ext b P:=Ext.bQ z am I;rw[←ax,bl (n:=(n:Int)) I (by have:=M 9 I;omega)];have aB:∀ {w'},Ext P w'->w'.cell? ub=some (.int .i64 (u.root:Nat)):=λhx=>(Q.ext hx).cell;have aE:∀ {w'},Ext P w'->w'.cell? (Addr.add ub 1)=some (.int .i64 (u.aD:Nat)):=λhx=>by rw[aw];exact(Q.ext hx).cell
  have aG:∀ {w'},Ext P w'->w'.cell? (Addr.add ub 2)=some (.int .i64 (u.map:Nat)):=λhx=>by rw[aw];exact(Q.ext hx).cell
  refine⟨_,aB (.refl _ _),_,aE (.refl _ _),iA (decide ((u.aD:Int)>12)) (λ_ k f=>⟨_,aE (.refl _ _),f _ (.refl _ _)⟩) λbu R=>iA (decide ((u.root:Int)>=(n:Int))) (λ_ k f=>⟨_,aB R,f _ (.refl _ _)⟩) λbv an=>iA (decide ((u.map:Int)>=(n:Int))) (λ_ k f=>⟨_,aG (R.trans an),f _ (.refl _ _)⟩) λbw aK=>iA (decide ((u.map:Int)<2)) (λ_ k f=>⟨_,aG ((R.trans an).trans aK),f _ (.refl _ _)⟩) λaL ba=>?_⟩;have ao:=((R.trans an).trans aK).trans ba;rw[K8];refine⟨λh=>T aL 4 ((Z.trans E).trans ao) ((ac.ext E).ext ao) ?_,λh=>?_⟩
  .rw[H,if_neg (by simpa using h)]
  .have hg:g8 u n:=by simpa using h
   have x:=cc aL;have S:=ao.trans x;refine aH ⟨λq=>q=w.heap.size,by show¬ub=w.heap.size;omega,fe ((Q.ext S)) ⟨λe=>by rw[qe]at e;have ar:ah.heap.size=w.heap.size:=e;omega,_,by rw[aw];exact((ab.ext E).ext S).cell,fQ ((ac.ext E).ext S) rfl u λbx bb aM bz=>⟨aM,fe bb ?_⟩⟩⟩;rw[H,if_pos hg];exact⟨rfl,Ext.bQ ((Z.trans E).trans S) aM (a_ _)⟩
theorem rC{s:U}(hs:Src 1 w s (aC l))(n:l.length<=1000):
 aI aj 81 #[s] w (λv w'=>v=.bool (l.all λc=>c==0)/\w=w'):=by
 have o:=len8 hs;refine okF (ad.rC s) ay.rC func81 ?_;(delta ad.rC vJ cW af aQ aO bA aV ai;dsimp only);refine⟨λi w'=>∃j:Nat,i=j/\j<=l.length/\w=w'/\∀ (k:Nat) (a:k<l.length),k<j->l[k]=0,λi _=>((l.length:Int)-i).toNat,⟨0,rfl,cw _,rfl,λk a h=>I⟩,?_⟩;rintro _ _ ⟨j,rfl,p,rfl,b⟩;refine⟨λaB=>?_,λd=>?_⟩
 .have aB:j<l.length:=U4 (bB aB)
  obtain⟨A,ak,e,f⟩:=oT hs aB;refine⟨A,ak,e,_,f,?_⟩;rw[show ∀x:UInt8,((x.toNat:Int) !=0)=decide (x≠0) from λx=>qd x 0];refine⟨λg=>⟨?_,rfl⟩,λm=>?_⟩
  .have h0:=bB g
   have:(l.all λc=>c==0)=false:=Bool.eq_false_iff.2 λh=>h0 (by simpa using kM.1 h _ (cg aB));rw[this]
  .rw[hM I]
   refine⟨⟨j+1,rfl,I,rfl,λk a q=>?_⟩,by show((l.length:Int)-((j+1:Nat):Int)).toNat<((l.length:Int)-(j:Int)).toNat;omega⟩;by_cases h:k<j
   .exact b k a h
   .have:k=j:=I
    subst this;exact Decidable.not_not.1 (bT m)
 .have r:j=l.length:=U4 (bT d)
  refine⟨?_,rfl⟩;have:(l.all λc=>c==0)=true:=kM.2 λx hx=>by
   obtain⟨k,a,rfl⟩:=eO hx;rw[b k a I];rfl
  rw[this]
structure mV(w0 w:J)(D:aS)(d n k:Nat):Prop where
 at_:cf w D
 d:D.d=d
 n:D.n=n
 aZ:D.aZ<=k
 f1:D.bN.getD 1 0= -1
 f2:D.bN.getD 2 0= -1
 new:∀q,bO D q->w0<=q
 x:Ext w0 w
theorem mV.ext{D:aS}{n:Nat}(h:mV w0 w D d n k)(hx:Ext w w'):mV w0 w' D d n k:=⟨h.at_.ext hx,h.d,h.n,h.aZ,h.f1,h.f2,h.new,h.x.trans hx⟩
structure hT(w0 w:J)(rb aG ub:Nat)(a:cr)(u:cD)(ss:U)(secs:O bY):Prop where
 s:bo (λq=>q<w0) w ss secs
 oQ:Var w rb g1.c 85
 jY:Var w aG a.c 85
 mW:Var w ub u.c 90
 x:Ext w0 w
 lo:w0<=rb/\rb<aG/\aG<ub
section
variable {w0 w w':J}{rb aG ub:Nat}{a a':cr}{u iI:cD}{ss:U}{secs:O bY}
theorem hT.ab{W:U1}(h:hT w0 w rb aG ub a u ss secs)(hc:aa W w w')(cz:∀q,W q->q<ub+1->False):hT w0 w' rb aG ub a u ss secs:=by
 have b:=h.lo;exact⟨h.s.ab hc λq c e=>cz q e I,h.oQ.ab hc λe=>cz _ e I,h.jY.ab hc λe=>cz _ e I,h.mW.ab hc λe=>cz _ e I,Ext.dH h.x hc λq e=>Nat.le_of_not_lt λd=>cz q e I,b⟩
theorem hT.ext(h:hT w0 w rb aG ub a u ss secs)(hx:Ext w w'):hT w0 w' rb aG ub a u ss secs:=h.ab hx λ_ e _=>e
theorem hT.cell(h:hT w0 w rb aG ub a u ss secs)(j:Nat):w.cell? (Addr.add aG j)=a.c[j]? :=by rw[aw,cT];exact h.jY.cell
theorem hT.put(h:hT w0 w rb aG ub a u ss secs){j:Nat}{A:ax}(ak:A=⟨aG,j,none⟩)(b:j<10)(d:a'.c=a.c.set j v):
 (∃u:Y,w.cell? A=some u)/\w.frozen? A=false/\hT w0 (w.setCell A v) rb aG ub a' u ss secs/\aa (λq=>q=aG) w (w.setCell A v):=by
 subst ak;have f:=h.lo;have hc:aa (λq=>q=aG) w (w.setCell ⟨aG,j,none⟩ v):=aa.eF (.refl _ _) _;have g:j<a.c.length:=b;exact⟨⟨a.c[j],by rw[h.jY.cell,dB g]⟩,h.jY.frozen _ rfl,⟨h.s.ab hc λq i e=>I,h.oQ.ab hc I,by rw[d];exact h.jY.CQ j v,h.mW.ab hc I,Ext.bQ h.x hc I,f⟩,hc⟩
theorem hT.K9(h:hT w0 w rb aG ub a u ss secs)(hc:aa (λq=>q=ub) w w')(b:Var w' ub iI.c 90):hT w0 w' rb aG ub a iI ss secs:=by
 have d:=h.lo;exact⟨h.s.ab hc λq f e=>I,h.oQ.ab hc I,h.jY.ab hc I,b,Ext.bQ h.x hc I,d⟩
theorem hT.AQ(h:hT w0 w rb aG ub a u ss secs)(f:kI secs a):
 ∃b:O Y,cv w aG 0 10=some b/\c5 w rb (Array.toList b.toArray)/\Array.size b.toArray=10/\
  au (setCells w rb 0 (Array.toList b.toArray)) λd=>∃e:O Y,cv d rb 0 10=some e/\∃r:cr,Value.agg e.toArray=.agg r.c.toArray/\kI secs r/\Ext w0 d:=
 ⟨a.c,h.jY.rd rfl,h.oQ.cF rfl (cr.plain _),rfl,c6 h.oQ (us:=a.c) rfl rfl λah g i _=>⟨a.c,g.rd rfl,a,rfl,f,Ext.bQ h.x i h.lo.1⟩⟩
end
theorem K_(a:cr)(k:Nat)(s t:Int):(a.e5 k s).e5 k t=a.e5 k t:=by unfold cr.e5;split<;>rfl
theorem E5(secs:O bY)(c:k<2):(cR secs k).1.e5 k 0=(cR secs k).1/\∀s,((cR secs k).1.e5 k s).fY k 0=(cR secs k).1.e5 k s:=by
 have:k=0\/k=1:=I
 obtain rfl|rfl:=this
 .exact⟨rfl,λ_=>rfl⟩
 .have h:(cR secs 1).1.s1=0/\(cR secs 1).1.ao=0:=by
   show(iS secs 0 (cR secs 0)).1.s1=0/\(iS secs 0 (cR secs 0)).1.ao=0;unfold iS;dsimp only;split<;>exact⟨rfl,rfl⟩
  obtain⟨h1,b⟩:=h;generalize (cR secs 1).1=a at h1 b;refine⟨?_,λs=>?_⟩
  .show {a with s1:=0}=a
   rw[←h1]
  .show {({a with s1:=s}:cr) with ao:=0}=_
   rw[←b];rfl
theorem AR(a:k<2)(h:eT secs.length k (secs.getD k [])=(cZ,0,0)):cR secs (k+1)=cR secs k:=by
 show iS secs k (cR secs k)=_;unfold iS;rw[h];show(if (0:Nat)=2/\_ then _ else _)=_;rw[if_neg (by rintro⟨h,_⟩;cases h)];have:=E5 secs a;show((((cR secs k).1.e5 k 0).fY k 0),(cR secs k).2)=_;rw[this.2,this.1]
theorem La(a:k<2)(h:eT secs.length k (secs.getD k [])=(cZ,0,1)):cR secs (k+1)=((cR secs k).1.e5 k 1,(cR secs k).2):=by
 show iS secs k (cR secs k)=_;unfold iS;rw[h];show(if (1:Nat)=2/\_ then _ else _)=_;rw[if_neg (by rintro⟨h,_⟩;cases h)];show((((cR secs k).1.e5 k 1).fY k 0),(cR secs k).2)=_;rw[(E5 secs a).2]
theorem se{x:cD}{g:Nat}(h:eT secs.length k (secs.getD k [])=(x,g,2)):cR secs (k+1)=if ((cR secs k).1.dK<0\/(((cR secs k).1.e5 k 2).fY k g).qb (cR secs k).1.dK<g) then ({((cR secs k).1.e5 k 2).fY k g with dK:=k},x) else (((cR secs k).1.e5 k 2).fY k g,(cR secs k).2):=by
 show iS secs k (cR secs k)=_;unfold iS;rw[h];show(if (2:Nat)=2/\((((cR secs k).1.e5 k 2).fY k g).dK<0\/(((cR secs k).1.e5 k 2).fY k g).qb (((cR secs k).1.e5 k 2).fY k g).dK<g) then ({((cR secs k).1.e5 k 2).fY k g with dK:=k},x) else (((cR secs k).1.e5 k 2).fY k g,(cR secs k).2))=_;rw[(r6 _ _ _ _).1];simp only[true_and]
theorem x_(f:Nat->ag):∀n,(ff f n).length=cH f n
 |0=>rfl
 |n+1=>by
  show(ff f n++_).length=cH f n+_
  rw[b6,x_ f n]
  cases f n<;>rfl
theorem AS(f g:Nat->ag):∀n,((ff f n).filter λi=> !(g i.toNat)).length=cH (λi=>f i&& !g i) n
 |0=>rfl
 |n+1=>by
  show((ff f n++if f n then [(n:Int)] else []).filter _).length=cH (λi=>f i&& !g i) n+(f n&& !g n).toNat
  rw[lR,b6,AS f g n]
  congr 1
  cases hf:f n with
  |false=>rfl
  |true=>cases hg:g n<;>simp[hg]
theorem E6(f g:Nat->ag):∀n,cH g n+cH (λi=>f i&& !g i) n=cH f n+cH (λi=>g i&& !f i) n
 |0=>rfl
 |n+1=>by
  have:=E6 f g n
  show cH g n+(g n).toNat+(cH (λi=>f i&& !g i) n+(f n&& !g n).toNat)=cH f n+(f n).toNat+(cH (λi=>g i&& !f i) n+(g n&& !f n).toNat)
  cases f n<;>cases g n<;>simp<;>omega
theorem ix.lost{level:Int}{a a':cr}{seen bd b g' kids:O Nat}(h:ix secs no level a seen bd a' b g' kids):a'.lost=a.lost:=by
 cases h<;>rfl
theorem iy.lost{q:O (Int×Int)}{a a':cr}{seen bd b g':O Nat}(h:iy secs q a seen bd a' b g'):a'.lost=a.lost:=by
 induction h with
 |done=>rfl
 |step c _ d=>exact d.trans c.lost
theorem E7(secs:O bY):∀k,(cR secs k).1.lost=0
 |0=>rfl
 |k+1=>by
  have h:=E7 secs k
  have e:∀ (a:cr) (s g:Int),((a.e5 k s).fY k g).lost=a.lost:=λa s g=>by unfold cr.e5 cr.fY;split<;>rfl
  show(iS secs k (cR secs k)).1.lost=0
  unfold iS
  dsimp only
  split
  .exact(e _ _ _).trans h
  .exact(e _ _ _).trans h
abbrev kt(x:Nat):Int×Y:=((x:Int),Value.bool true)
theorem E8{l:O Nat}(h:((k:Int),v)∈l.map kt):k∈l:=by
 obtain⟨x,hx,e⟩:=df.1 h;have:(x:Int)=(k:Int):=congrArg Prod.fst e;have:x=k:=I
 exact this▸hx
theorem E9{l:O Nat}(h:dd w m encZ (l.map kt))(a:k∉l):∃w1:J,(Instr.mapUpdate 156 (.map (some m)) k true).run aj w=.ok () w1/\dd w1 m encZ ((k::l).map kt)/\aa (λq=>q=m) w w1:=by
 obtain⟨w1,h1,b,_,c⟩:=zQ kh (by kernel_rfl:Tryz.prog.underlying 156=some (.map 3 4)) h (k:=(k:Int)) (λv d=>a (E8 d)) true;exact⟨w1,h1,c,b⟩
theorem E_{l:O Nat}(h:dd w m encZ (l.map kt))(k:Nat):(Instr.lookup 156 (.map (some m)) k false).run aj w=.ok (.bool (decide (k∈l))) w:=by
 have b:Tryz.prog.underlying 156=some (.map 3 4):=by kernel_rfl
 by_cases a:k∈l
 .have:=h.qT kh b (k:=(k:Int)) (v:=true) (df.2 ⟨k,a,rfl⟩) false
  rw[dm a];exact this
 .obtain⟨e,h1,c⟩:=p1 (P:=aj) (T:=4) (z:=false) U3
  have:=h.ta kh b (k:=(k:Int)) h1 c (λv d=>a (E8 d)) false;rw[ib a];exact this
theorem Fa{s:U}{zs:O Int}(z:Int)(b:aL 1 3 w s (zs.map encZ))(g:zs.length<=1000000):
 ∃ (a:U) (w':J),Sem.run aj (Builtin.append_ #[72,72] 72 #[s,.slice (some w) 1 1]) (w.alloc (.cells #[z] 3))=.ok a w'/\
  aL 1 3 w' a ((zs++ [z]).map encZ)/\aa (ar s) w w'/\(∀k,ar a k->ar s k\/w<=k):=by
 have h:s.len=zs.length:=by have:=b.1;rw[cV]at this;omega
 obtain⟨a,w',ao,c,i,d,e⟩:=mL.push (c7:=72) (w:=w) (s:=s) (xs:=[z]) rfl b (λv f=>by rw[dV.1 f];trivial) I;exact⟨a,w',ao,by rw[eU];exact c,d,e⟩
structure gC(w0 w:J)(rb aG ub c1 sm:Nat)(a:cr)(u:cD)(ss:U)(secs:O bY)(seen bd:O Nat)(s1 s2:U)(ey:O (Int×Int)):Prop where
 r:hT w0 w rb aG ub a u ss secs
 oW:dd w c1 encZ (bd.map kt)
 ms:dd w sm encZ (seen.map kt)
 t1:aL 1 3 w s1 ((ey.map Prod.fst).map encZ)
 t2:aL 1 3 w s2 ((ey.map Prod.snd).map encZ)
 ba:ub<c1/\ub<sm/\c1≠sm
 bL:∀q,ar s1 q->ub<q/\q≠c1/\q≠sm/\¬ar s2 q
 bz:∀q,ar s2 q->ub<q/\q≠c1/\q≠sm
 bu:bd.Nodup/\(∀x∈bd,x∈seen)/\seen.Nodup/\∀x∈seen,x<secs.length
section
variable {w0 w w':J}{rb aG ub c1 sm:Nat}{a a':cr}{u iI:cD}{ss s1 s2:U}{secs:O bY}{seen bd:O Nat}{ey:O (Int×Int)}
theorem gC.ext(h:gC w0 w rb aG ub c1 sm a u ss secs seen bd s1 s2 ey)(hx:Ext w w'):gC w0 w' rb aG ub c1 sm a u ss secs seen bd s1 s2 ey:=
 ⟨h.r.ext hx,h.oW.ext hx,h.ms.ext hx,h.t1.ext hx,h.t2.ext hx,h.ba,h.bL,h.bz,h.bu⟩
theorem gC.sf(h:gC w0 w rb aG ub c1 sm a u ss secs seen bd s1 s2 ey)(c:hT w0 w' rb aG ub a' u ss secs)(hc:aa (λq=>q=aG) w w'):gC w0 w' rb aG ub c1 sm a' u ss secs seen bd s1 s2 ey:=by
 have d:=h.r.lo;have h0:=h.ba;exact⟨c,h.oW.ab hc I,h.ms.ab hc I,h.t1.ab hc λq b e=>U4 (h.bL q b),h.t2.ab hc λq b e=>U4 (h.bz q b),h.ba,h.bL,h.bz,h.bu⟩
theorem gC.Az(h:gC w0 w rb aG ub c1 sm a u ss secs seen bd s1 s2 ey)(d:k∉seen)(f:k<secs.length):∃w1:J,(Instr.mapUpdate 156 (.map (some sm)) k true).run aj w=.ok () w1/\gC w0 w1 rb aG ub c1 sm a u ss secs (k::seen) bd s1 s2 ey/\w.heap.size<=w1.heap.size:=by
 obtain⟨w1,ao,g,b⟩:=E9 h.ms d;have h0:=h.ba;exact⟨w1,ao,⟨h.r.ab b λq e _=>I,h.oW.ab b I,g,h.t1.ab b λq c e=>(h.bL q c).2.2.1 e,h.t2.ab b λq c e=>(h.bz q c).2.2 e,h.ba,h.bL,h.bz,h.bu.1,λx hx=>jv _ (h.bu.2.1 x hx),qv.2 ⟨d,h.bu.2.2.1⟩,λx hx=>by
  rcases cN.1 hx with rfl|hx
  .exact f
  .exact h.bu.2.2.2 x hx⟩,b.size⟩
theorem gC.ok(h:gC w0 w rb aG ub c1 sm a u ss secs seen bd s1 s2 ey)(d:k∈seen)(hg:k∉bd):∃w1:J,(Instr.mapUpdate 156 (.map (some c1)) k true).run aj w=.ok () w1/\gC w0 w1 rb aG ub c1 sm a u ss secs seen (bd++ [k]) s1 s2 ey/\aa (λq=>q=c1) w w1:=by
 obtain⟨w1,ao,f,b⟩:=E9 h.oW hg;have h0:=h.ba;have g:((k::bd).map kt).Perm ((bd++ [k]).map kt):=(nP (l₁:=[k]) (l₂:=bd)).map kt;exact⟨w1,ao,⟨h.r.ab b λq e _=>I,f.perm g,h.ms.ab b (λe=>h0.2.2 e.symm),h.t1.ab b λq c e=>(h.bL q c).2.1 e,h.t2.ab b λq c e=>(h.bz q c).2.1 e,h.ba,h.bL,h.bz,(nP (l₁:=[k]) (l₂:=bd)).nodup_iff.1 (qv.2 ⟨hg,h.bu.1⟩),λx hx=>by
  rw[cE,dV]at hx;obtain hx|rfl:=hx
  .exact h.bu.2.1 x hx
  .exact d,h.bu.2.2⟩,b⟩
theorem gC.push(h:gC w0 w rb aG ub c1 sm a u ss secs seen bd s1 s2 ey)(x y:Int)(g:ey.length<=1000000):∃ (t1:U) (w1:J),Sem.run aj (Builtin.append_ #[72,72] 72 #[s1,.slice (some w) 1 1]) (w.alloc (.cells #[x] 3))=.ok t1 w1/\
 ∃ (t2:U) (ah:J),Sem.run aj (Builtin.append_ #[72,72] 72 #[s2,.slice (some w1) 1 1]) (w1.alloc (.cells #[y] 3))=.ok t2 ah/\
  gC w0 ah rb aG ub c1 sm a u ss secs seen bd t1 t2 (ey++ [(x,y)])/\aa (λq=>ar s1 q\/ar s2 q) w ah/\(∀q,ar t1 q->ar s1 q\/w<=q)/\∀q,ar t2 q->ar s2 q\/w<=q:=by
 have h0:=h.ba;obtain⟨t1,w1,ao,i,c,d⟩:=Fa x h.t1 (by rw[cV];exact g);have m:=h.t2.ab c λq b e=>(h.bL q e).2.2.2 b;obtain⟨t2,ah,bJ,b4,j,f⟩:=Fa y m (by rw[cV];exact g);have t:=c.size;have n:=h.t2.lt;have hd:∀q,ar t1 q->¬ar s2 q:=λq b k=>by
  rcases d q b with e|e
  .exact(h.bL q e).2.2.2 k
  .have:=n q k;omega
 have v:ub<w:=h.r.mW.lt;have z:=h.oW.lt;have A:=h.ms.lt;have hc:aa (λq=>ar s1 q\/ar s2 q) w ah:=(c.mono λq _ e=>.inl e).trans (j.mono λq _ e=>.inr e);have o:∀q,ar t1 q->ub<q/\q≠c1/\q≠sm:=λq b=>by
  rcases d q b with e|e
  .have:=h.bL q e;exact⟨this.1,this.2.1,this.2.2.1⟩
  .exact⟨I,I,I⟩
 have p:∀q,ar t2 q->ub<q/\q≠c1/\q≠sm:=λq b=>by
  rcases f q b with e|e
  .exact h.bz q e
  .exact⟨I,I,I⟩
 have s:=i.lt;refine⟨t1,w1,ao,t2,ah,bJ,⟨h.r.ab hc λq e b=>?_,h.oW.ab hc ?_,h.ms.ab hc ?_,by rw[eU];exact i.ab j hd,by rw[eU];exact b4,h.ba,λq b=>?_,p,h.bu⟩,hc,d,λq b=>(f q b).imp id λe=>I⟩
 .obtain e|e:=e
  .have:=(h.bL q e).1;omega
  .have:=(h.bz q e).1;omega
 .rintro(e|e)
  .exact(h.bL _ e).2.1 rfl
  .exact(h.bz _ e).2.1 rfl
 .rintro(e|e)
  .exact(h.bL _ e).2.2.1 rfl
  .exact(h.bz _ e).2.2 rfl
 .have:=o q b
  refine⟨this.1,this.2.1,this.2.2,λe=>?_⟩;rcases f q e with l|l
  .exact hd q b l
  .have:=s q b;omega
end
theorem bo.cL{s:U}{ls:O Key}(h:bo B w s ls)(hi:i<ls.length):∃ (A:ax) (t:U),s.a=some A/\((0:Int)<=(i:Int)/\(i:Int)<(s.len:Int))/\(w.cell? (A.add (Int.toNat (i:Int)*1))=some (.slice t.a t.len t.cap))/\Src 1 w t (aC ls[i])/\t.len<=t.cap:=by
 obtain⟨A,t,h1,c,d,b,_⟩:=h.at hi;exact⟨A,t,h1,c,d,b.1,b.2.1⟩
theorem Lb(h:match eD no l with
 | .ok (u,_,g)=>v=.tuple #[.agg u.c.toArray,.int .u64 (g:Nat),U8]
 | .error e=>v=.tuple #[.agg cZ.c.toArray,.int .u64 0,e]):
 ∃ (u:cD) (g:Nat) (e:Int),v=.tuple #[.agg u.c.toArray,.int .u64 (g:Nat),e]/\∀n k:Nat,no=(k:Int)->eT n k l=if l.all (λc=>c==0) then (cZ,0,0) else if e=0/\u.root<n/\u.map<n then (u,g,2) else (cZ,0,1):=by
 cases hd:eD no l with
 |error e=>
  rw[hd]at h;refine⟨cZ,0,e,h,λn k a=>?_⟩;subst a;unfold eT;rw[hd,if_neg (c:=e=0/\_) λh=>Du hd h.1]
 |ok x=>
  obtain⟨u,m,g⟩:=x;rw[hd]at h;refine⟨u,g,0,h,λn k a=>?_⟩;subst a;unfold eT;rw[hd];split
  .rfl
  .by_cases h1:n<=u.root\/n<=u.map
   .rw[if_neg (c:=(0:Int)=0/\_) I]
    show(if n<=u.root\/n<=u.map then _ else _)=_;rw[if_pos h1]
   .rw[if_pos (c:=(0:Int)=0/\_) I]
    show(if n<=u.root\/n<=u.map then _ else _)=_;rw[if_neg h1]
theorem AT(h:ny (cG no l) w w' v):∃ (c d:Int) (t:U) (e:Int) (b:O UInt8),v=.tuple #[zD c d t,e]/\Src 1 w' t (aC b)/\t.len<=t.cap/\b.length<=232/\(∀q,ar t q->w<=q)/\((e=0/\∃p,cG no l=.ok p/\c=p.kind/\b=p.body)\/(e≠0/\∀p,cG no l≠ .ok p)):=by
 cases hd:cG no l with
 |error e=>
  rw[hd]at h;exact⟨0,0,hC,e,[],h,⟨rfl,λ_=>rfl,λa f=>by cases f⟩,a_ _,cw _,λq ⟨A,ak,_⟩=>(by cases ak),.inr ⟨oK hd,λp h=>by cases h⟩⟩
 |ok p=>
  rw[hd]at h;obtain⟨t,rfl,ht,hf⟩:=h;exact⟨_,_,t,0,p.body,rfl,ht.src,ht.2.1,x3 hd,hf,.inl ⟨rfl,p,rfl,rfl,rfl⟩⟩
theorem Lc{p:h4}(h:cG no l=.ok p):1<=p.kind/\p.kind<=4:=by
 unfold cG at h
 repeat' split at h
 all_goals first|(cases h;done)|skip
 all_goals (cases h;simp only[not_or,Decidable.not_not]at*;omega)
theorem pL{ss:U}(hs:bo B w ss secs)(cb:∀l∈secs,l.length=256)(cd:16<=secs.length/\secs.length<=1600):
 aI aj 32 #[.slice ss.a ss.len ss.cap] w (λv w'=>∃r,v=.agg r.c.toArray/\kI secs r/\Ext w w'):=by
 have ep:=hs.len;refine okF (ad.pL ss) ay.pL func32 ?_;(delta ad.pL gh eo ae bf aF cW af aQ aO aJ aV oc bR st r1 aT c0 b1 bZ ai q0 qY gI yV jR z4 av lA z3 ap dC jS aE aW;dsimp only);refine bg (vs:=g1.c) rfl λw1 eq es gk=>⟨(cR secs 0).1.c.toArray,by kernel_rfl,bg (vs:=g1.c) rfl λet dr ds gl=>bg (vs:=cZ.c) rfl λgm eu bK gn=>?_⟩;refine⟨(dr.ext bK).cF rfl (cr.plain _),rfl,c6 (dr.ext bK) (us:=(cR secs 0).1.c) rfl rfl λgo ew ce gp=>fQ (eu.ab ce I) rfl cZ λdt ex cf gq=>?_⟩;obtain⟨rb,du⟩:=U6 w.heap.size;obtain⟨aG,ch⟩:=U6 w1.heap.size;obtain⟨ub,dv⟩:=U6 et.heap.size;have eA:=(es.trans ds).trans bK;have dw:Ext w dt:=Ext.bQ (Ext.bQ eA ce I) cf I;have eB:hT w dt rb aG ub (cR secs 0).1 (cR secs 0).2 ss secs:=by
  rw[du,ch,dv];obtain⟨ts,ao,br,eC,eD,eF⟩:=hs;exact⟨(bo.bh (C:=λq=>q<w) ⟨ts,ao,br,eC,eD,eF⟩ λk aM _=>aM).ext dw,(((eq.ext ds).ext bK).ab ce I).ab cf I,ew.ab cf I,ex,dw,I⟩
 rw[←du,←ch,←dv];refine⟨λn w'=>∃k:Nat,n=(k:Int)/\k<=2/\hT w w' rb aG ub (cR secs k).1 (cR secs k).2 ss secs,λn _=>((2:Int)-n).toNat,⟨0,rfl,I,eB⟩,?_⟩;rintro _ aX ⟨k,rfl,aM,ah⟩;refine⟨λaB=>?_,λa0=>?_⟩
 .have aY:k<2:=by have:=bB aB;omega
  have bs:k<secs.length:=by omega
  have fin:∀w',hT w w' rb aG ub (cR secs (k+1)).1 (cR secs (k+1)).2 ss secs->(∃aN:Nat,IntKind.wrap .i64 (((k:Nat):Int)+1)=(aN:Int)/\aN<=2/\hT w w' rb aG ub (cR secs aN).1 (cR secs aN).2 ss secs)/\((2:Int)-IntKind.wrap .i64 (((k:Nat):Int)+1)).toNat<((2:Int)-((k:Nat):Int)).toNat:=λw' h=>by
   rw[hM I];exact⟨⟨k+1,rfl,I,h⟩,I⟩
  obtain⟨A,t,ak,N,hc,ht,bb⟩:=ah.s.cL bs;have dx:=cb _ (cg bs);refine⟨⟨A,ak,N,t,hc,(rB ht bb I (k:Nat) I).use ?_⟩⟩;rintro v eG ⟨Q,dy⟩;obtain⟨u,g,e,rfl,al⟩:=Lb Q;have al:=al secs.length k rfl;rw[←c8 (d:=[]) bs]at al;refine⟨_,_,_,_,_,_,_,e,rfl,bg (vs:=cZ.c) rfl λgr eI eJ gs=>fQ eI rfl u λeK bL dz gt=>?_⟩;obtain⟨g7,eL⟩:=U6 eG.heap.size;rw[←eL]at bL dz⊢;have eM:Ext aX eK:=dy.trans (Ext.bQ eJ dz I);have ci:=ah.ext eM;obtain⟨eN,eO,eP,eQ,eR,eS,_⟩:=ci.s.cL bs;refine⟨eN,eP,eQ,eO,eR,(rC eS I).use ?_⟩;rintro _ _ ⟨rfl,rfl⟩;rw[←c8 (d:=[]) bs];refine⟨_,rfl,λhe=>fin _ ?_,λhe=>?_⟩
  .rw[if_pos he]at al
   rw[AR aY al];exact ci
  rw[if_neg (by rw[he];simp)]at al;have eT:=ah.lo;have gu:=ah.mW.lt;have gw:=dy.size;have M:Addr.add ⟨aG,0,none⟩ (Int.toNat ((k:Nat):Int)*1)=⟨aG,k,none⟩:=by rw[aw,cS,eY,cT]
  have cj:Addr.add (Addr.add ⟨aG,0,none⟩ 2) (Int.toNat ((k:Nat):Int)*1)=⟨aG,2+k,none⟩:=by rw[add_add,aw,cS,eY,cT]
  have eV:Addr.add (Addr.add ⟨aG,0,none⟩ 2) (Int.toNat 0*1)=Addr.add ⟨aG,0,none⟩ 2:=add_add _ _ _;obtain⟨bm,bt,R,L⟩:=ci.put (a':=(cR secs k).1.e5 k 1) (v:=.int .i64 1) M I (AD _ aY _);refine⟨⟨I,I⟩,bm,bt,aH (kJ (decide (((u.root:Nat):Int)<((ss.len:Nat):Int))) (λ_ q z=>⟨_,(bL.ab L I).cell,z _ (.refl _ _)⟩) λgx ck=>kJ (decide (((u.map:Nat):Int)<((ss.len:Nat):Int))) (λ_ q z=>⟨_,by rw[aw];exact((bL.ab L I).ext ck).cell,z _ (.refl _ _)⟩) λgy dA=>?_)⟩;have dB:=R.ext (ck.trans dA);have eW:=((bL.ab L I).ext (ck.trans dA));have eX:(((((e:Int)==0)&&decide (((u.root:Nat):Int)<((ss.len:Nat):Int)))&&decide (((u.map:Nat):Int)<((ss.len:Nat):Int))))=decide (e=0/\u.root<secs.length/\u.map<secs.length):=by
   rw[ek];simp only[dM,gP,cq];omega
  rw[eX];refine⟨λhg=>?_,λhg=>fin _ ?_⟩
  rotate_left
  .rw[if_neg (bT hg)]at al
   rw[La aY al];exact dB
  rw[if_pos (bB hg)]at al;have bN:=se al;obtain⟨cl,cm,_⟩:=x4 secs k;obtain⟨gA,cn,co,cp⟩:=dB.put (a':=(cR secs k).1.e5 k 2) (v:=.int .i64 2) M I (by rw[←AD _ aY,K_]);refine⟨⟨I,I⟩,gA,cn,aH ⟨⟨I,I⟩,?_⟩⟩;obtain⟨r1,bA,aJ,c0⟩:=co.put (a':=((cR secs k).1.e5 k 2).fY k g) (v:=.int .u64 (g:Nat)) cj I (EL _ aY _);obtain⟨a2,dD⟩:=U6 (((cR secs k).1.e5 k 2).fY k (g:Nat));have eZ:a2.dK=(cR secs k).1.dK:=by rw[dD];exact(r6 _ _ _ _).1
  rw[←dD]at aJ bN;rw[←eZ]at bN cl cm;refine⟨r1,bA,aH ⟨_,aJ.cell 4,iA (decide (((g:Nat):Int)>a2.hK)) (λ_ q z=>⟨⟨I,I⟩,_,by rw[eV];exact aJ.cell 2,z _ (.refl _ _)⟩) λe0 dE=>?_⟩⟩;have dF:=aJ.ext dE;have e1:(decide (a2.dK<0)||decide (((g:Nat):Int)>a2.hK))=decide (a2.dK<0\/a2.qb a2.dK<g):=by
   rw[ek];simp only[fC,cq];by_cases h0:a2.dK<0
   .simp[h0]
   .have:a2.dK=0:=by omega
    rw[this];show _↔_\/a2.hK<_;omega
  rw[e1];refine⟨λhd=>?_,λhd=>fin _ ?_⟩
  .have am:=cc e0
   have e6:=dF.ext am;obtain⟨t1,t2,t3,t4⟩:=e6.put (a':={a2 with dK:=k}) (v:=.int .i64 ((k:Nat):Int)) (A:=Addr.add ⟨aG,0,none⟩ 4) (by rw[aw]) I rfl;refine aH ⟨λq=>q=aG,by show¬g7=aG;omega,fe ((((eW.ab cp I).ab c0 I).ext dE).ext am) ⟨t1,t2,aH ⟨t4,fQ t3.mW rfl u λgz e7 e8 gB=>fin _ ?_⟩⟩⟩;rw[bN,if_pos (bB hd)];exact t3.K9 e8 e7
  .rw[bN,if_neg (bT hd)]
   exact dF
 have aY:k=2:=by have:=bT a0;omega
 subst aY;obtain⟨cl,cm,dG⟩:=x4 secs 2;have a1:=x5 secs 2;obtain⟨aP,cs⟩:=U6 ((cR secs 2).1);obtain⟨u,hu⟩:=U6 ((cR secs 2).2);have bv:jn secs=(aP,u):=by rw[cs,hu];rfl
 rw[←cs]at ah cl cm dG a1;rw[←hu]at ah a1;refine⟨_,ah.cell 4,λe9=>ah.AQ (.inl ⟨by rw[bv];exact bB e9,by rw[bv]⟩),λe_=>?_⟩;have dH:0<=aP.dK:=by have:=bT e_;omega
 have a1:=a1 dH;have gE:=ah.mW.lt;obtain⟨aq,bO⟩:=U6 (aX.alloc (.cells #[] 3));have fa:Ext aX aq:=by rw[bO];exact dc _ _
 have gF:aq.heap.size=aX+1:=by rw[bO];exact iN _ _
 have fb:aL 1 3 aq ⟨some ⟨aX,0,none⟩,0,0⟩ []:=by rw[bO];exact aL.new aX [] 0 rfl (by decide)
 obtain⟨au,bP⟩:=U6 (aq.alloc (.cells #[] 3));have dI:Ext aq au:=by rw[bP];exact dc _ _
 have gG:au.heap.size=aq+1:=by rw[bP];exact iN _ _
 have fc:aL 1 3 au ⟨some ⟨aq,0,none⟩,0,0⟩ []:=by rw[bP];exact aL.new aq [] 0 rfl (by decide)
 rw[←bO];refine aH ?_;rw[←bP];obtain⟨ao,br⟩:=dd.make (P:=aj) (enc:=encZ) 156 au;obtain⟨az,ct⟩:=U6 (au.alloc (.map #[] 0));have cu:Ext au az:=by rw[ct];exact dc _ _
 have gH:az.heap.size=au+1:=by rw[ct];exact iN _ _
 rw[←ct]at ao br;obtain⟨bJ,b4⟩:=dd.make (P:=aj) (enc:=encZ) 156 az;obtain⟨aR,cv⟩:=U6 (az.alloc (.map #[] 0));have bS:Ext az aR:=by rw[cv];exact dc _ _
 have gJ:aR.heap.size=az+1:=by rw[cv];exact iN _ _
 rw[←cv]at bJ b4;have fd:=((fa.trans dI).trans cu).trans bS;obtain⟨c1,ff⟩:=U6 au.heap.size;obtain⟨sm,fg⟩:=U6 az.heap.size;rw[←ff]at ao br;rw[←fg]at bJ b4;refine aH ⟨some c1,az,ao,some sm,aR,bJ,?_⟩;have cx:=ah.ext fd;have base:∀ (w':J) (s1 s2:U) (ey:O (Int×Int)),Ext aR w'->aL 1 3 w' s1 ((ey.map Prod.fst).map encZ)->aL 1 3 w' s2 ((ey.map Prod.snd).map encZ)->(∀q,ar s1 q->aX<=q/\q≠c1/\q≠sm/\¬ar s2 q)->(∀q,ar s2 q->aX<=q/\q≠c1/\q≠sm)->gC w w' rb aG ub c1 sm aP u ss secs [] [] s1 s2 ey:=λw' s1 s2 ey hx h1 H Y fi=>
  ⟨cx.ext hx,(br.ext bS).ext hx,b4.ext hx,h1,H,⟨I,I,I⟩,λq z=>by have:=Y q z;exact⟨I,this.2.1,this.2.2.1,this.2.2.2⟩,λq z=>by have:=fi q z;exact⟨I,this.2.1,this.2.2⟩,o5,λx hx=>(by cases hx),o5,λx hx=>(by cases hx)⟩
 have aS:∀ {b k m q:Nat},ar ⟨some ⟨b,0,none⟩,k,m⟩ q->q=b:=λ⟨A,ak,e⟩=>by cases ak;exact e.symm
 obtain⟨X,bw⟩:=U6 (if 0<u.aD then [(((u.root:Nat):Int),((u.aD:Nat):Int))] else []:O (Int×Int))
 refine s3 (λs1 s2 w'=>gC w w' rb aG ub c1 sm aP u ss secs [] [] s1 s2 X) (λq z=>⟨_,by rw[aw];exact cx.mW.cell,λa3=>?_,λa3=>?_⟩) ?_
 .have fj:=bB a3
  have a4:X=[(((u.root:Nat):Int),((u.aD:Nat):Int))]:=by rw[bw,if_pos I]
  have am:=cc aR;have cy:=cx.mW.ext am;obtain⟨a5,fk⟩:=U6 aR.drew;rw[←fk]at am cy⊢;have gL:=am.size;have Z:∀ (w':J) (o:Obj),aa (λ_:Nat=>False) w' (w'.alloc o):=λw' o=>dc w' o;have cz:=λ(w':J) (o:Obj)=>iN w' o;refine aH ⟨λ_=>False,id,_,cy.cell,id,_,by rw[aw];exact cy.cell,aH ⟨Z _ _,aH ⟨Z _ _,z _ _ _ (base _ _ _ X (am.trans ((Z _ _).trans (Z _ _))) (by rw[a4];exact(aL.new a5 [.int .i64 ((u.root:Nat):Int)] 1 rfl (by decide)).ext (Z _ _)) (by rw[a4];exact aL.new _ [.int .i64 ((u.aD:Nat):Int)] 1 rfl (by decide)) (λq z=>?_) λq z=>?_)⟩⟩,aH ⟨Z _ _,aH ⟨Z _ _,z _ _ _ (base _ _ _ X (am.trans ((Z _ _).trans (Z _ _))) (by rw[a4];exact aL.new _ [.int .i64 ((u.root:Nat):Int)] 1 rfl (by decide)) (by rw[a4];exact(aL.new a5 [.int .i64 ((u.aD:Nat):Int)] 1 rfl (by decide)).ext (Z _ _)) (λq z=>?_) λq z=>?_)⟩⟩⟩
  .have h1:=aS z
   have H:=cz a5 (.cells #[.int .i64 ((u.root:Nat):Int)] 3);exact⟨I,I,I,λh=>by have:=aS h;omega⟩
  .have h1:=aS z
   have H:=cz a5 (.cells #[.int .i64 ((u.root:Nat):Int)] 3);exact⟨I,I,I⟩
  .have h1:=aS z
   have H:=cz a5 (.cells #[.int .i64 ((u.aD:Nat):Int)] 3);exact⟨I,I,I,λh=>by have:=aS h;omega⟩
  .have h1:=aS z
   exact⟨I,I,I⟩
 .have fj:=bT a3
  have a4:X=[]:=by rw[bw,if_neg I]
  refine z _ _ _ (base aR _ _ X (.refl _ _) (by rw[a4];exact((fb.ext dI).ext cu).ext bS) (by rw[a4];exact(fc.ext cu).ext bS) (λq z=>?_) λq z=>?_)
  .have:=aS z
   exact⟨I,I,I,λh=>by have:=aS h;omega⟩
  .have:=aS z
   exact⟨I,I,I⟩
 rintro gM gN gO fl;refine⟨λs1 s2 n w'=>∃ (i:Nat) (ey:O (Int×Int)) (a:cr) (seen bd:O Nat),n=(i:Int)/\i<=ey.length/\gC w w' rb aG ub c1 sm a u ss secs seen bd s1 s2 ey/\ey.length+300*(secs.length-seen.length)<=1000000/\∀r s g,iy secs (ey.drop i) a seen bd r s g->iy secs X aP [] [] r s g,
  λs1 _ n w'=>(((s1.len:Nat):Int)-n).toNat+300*(secs.length-k_ sm w'),⟨0,X,aP,[],[],rfl,cw _,fl,?_,λ_ _ _ h=>h⟩,?_⟩
 .have:X.length<=1:=by rw[bw];split<;>simp
  rw[ic];omega
 rintro bc bx _ aU ⟨i,ey,a,seen,bd,rfl,hi,z,hlen,cA⟩;have gQ:bc.len=ey.length:=by have:=z.t1.1;rw[cV,cV]at this;omega
 have gR:bx.len=ey.length:=by have:=z.t2.1;rw[cV,cV]at this;omega
 have fm:=dd.k_ z.ms;rw[cV]at fm;refine⟨λaB=>?_,λa0=>?_⟩
 .have ac:i<ey.length:=by have:=bB aB;omega
  obtain⟨no,level,hx⟩:∃no level,ey[i]=(no,level):=⟨_,_,rfl⟩;have fn:ey.drop i=(no,level)::ey.drop (i+1):=by rw[j5 ac,hx]
  have be:=z.ext (cc aU);have dJ:=cc aU;obtain⟨cB,dL⟩:=U6 aU.drew;rw[←dL]at be dJ;obtain⟨fo,fp,fq,fr⟩:=be.t1.src.at (i:=i) (v:=.int .i64 no) (by simp[ac,hx]);obtain⟨fs,ft,fu,fv⟩:=be.t2.src.at (i:=i) (v:=.int .i64 level) (by simp[ac,hx])
  have fin:∀bz cC bU,(∃ (a':cr) (bV bW kids:O Nat),ix secs no level a seen bd a' bV bW kids/\gC w bU rb aG ub c1 sm a' u ss secs bV bW bz cC (ey++kids.map λk=>(((k:Nat):Int),IntKind.wrap .i64 (level-1))))->
   (∃ (cD:Nat) (ey:O (Int×Int)) (a:cr) (seen bd:O Nat),IntKind.wrap .i64 (((i:Nat):Int)+1)=(cD:Int)/\cD<=ey.length/\gC w bU rb aG ub c1 sm a u ss secs seen bd bz cC ey/\ey.length+300*(secs.length-seen.length)<=1000000/\∀r s g,iy secs (ey.drop cD) a seen bd r s g->iy secs X aP [] [] r s g)/\
   (((bz.len:Nat):Int)-IntKind.wrap .i64 (((i:Nat):Int)+1)).toNat+300*(secs.length-k_ sm bU)<(((bc.len:Nat):Int)-((i:Nat):Int)).toNat+300*(secs.length-k_ sm aU):=λbz cC bU ⟨a',bV,bW,kids,S,F⟩=>by
   have cE:=S.len z.bu.2.2.1 z.bu.2.2.2;have gS:bz.len=ey.length+kids.length:=by have:=F.t1.1;rw[cV,cV,b6,cV]at this;omega
   have fw:=dd.k_ F.ms;rw[cV]at fw;rw[hM I];refine⟨⟨i+1,_,a',bV,bW,rfl,by rw[b6];omega,F,by rw[b6,cV];omega,λr s g h=>cA r s g ?_⟩,I⟩;rw[fn];refine .step S ?_;rwa[List.drop_append_of_le_length I]at h
  refine⟨?_⟩;rw[←dL];refine aH ⟨fo,fp,fq,id,no,fr,fs,ft,fu,id,level,fv,iA (decide (no.toNat∈seen)) (λh k aM=>?_) λgT cI=>⟨λh=>?_,λh=>?_⟩⟩
  .simp only[hV,fh]at h
   have:=E_ be.ms no.toNat;rw[show((no.toNat:Nat):Int)=no from I]at this;exact⟨_,cB,this,aM _ (.refl _ _)⟩
  .simp only[fC,cq]at h
   have cJ:=be.ext cI;obtain⟨bm,bt,R,L⟩:=cJ.r.put (a':={a with bad:=inc a.bad}) (v:=.int .i64 (inc a.bad)) (A:=Addr.add ⟨aG,0,none⟩ 9) (by rw[aw]) I rfl;refine⟨_,cJ.r.cell 9,bm,bt,aH (fin _ _ _ ⟨_,_,_,[],.qa λk aM a6=>?_,by rw[o3,fO];exact cJ.sf R L⟩)⟩;subst aM;rw[cS]at h;rcases h with (h|h)|h
   .omega
   .omega
   .exact h
  simp only[hV,fh]at h;obtain⟨k,rfl⟩:∃k:Nat,no=(k:Int):=⟨no.toNat,I⟩;rw[cS]at h;have a6:k<secs.length:=by omega
  obtain⟨dN,eo,dO,gU⟩:=(be.ext cI).Az h.2 a6;obtain⟨A,t,ak,N,hc,ht,bb⟩:=dO.r.s.cL a6;have dx:=cb _ (cg a6);refine⟨dN,eo,A,ak,N,t,hc,(nq ht bb I (k:Nat) I).use ?_⟩;rintro v dP ⟨Q,dQ⟩;obtain⟨E,T,t2,e,aO,rfl,a7,cM,dR,cP,aZ⟩:=AT Q;have gV:=dQ.size;refine⟨E,T,t2,e,rfl,bg (vs:=[.int .i64 0,.int .u64 0,.slice none 0 0]) rfl λgW fx fy gY=>lJ E T t2 fx rfl λcX cY fz gZ=>⟨t2,by rw[aw];exact cY.cell,?_⟩⟩;have c2:Ext dP cX:=Ext.bQ fy fz (a_ _);obtain⟨W,bC⟩:=U6 dP.heap.size;rw[←bC]at cY⊢;refine(rD (a7.ext c2) cM I (level==1)).use ?_;rintro v c3 ⟨fA,c4⟩;obtain⟨G,K,V,D,bD,rfl,cO,bX⟩:∃ (G:aA) (K V D:U) (bD:ag),v=.tuple #[dg G K V D,.bool bD]/\b2 (λq=>cX<=q) c3 G K V D/\((bD=true/\gX (level==1) aO G)\/(bD=false/\∀n,¬gX (level==1) aO n)):=by
   rcases fA with ⟨G,K,V,D,rfl,h1,H⟩|⟨rfl,h1⟩
   .exact⟨G,K,V,D,true,rfl,H,.inl ⟨rfl,h1⟩⟩
   .exact⟨jW,bG,bG,bG,false,rfl,⟨bo.none _ _,bo.none _ _,cK.none _ _⟩,.inr ⟨rfl,h1⟩⟩
  refine⟨_,K,V,D,bD,rfl,bg (vs:=[.bool false,.slice none 0 0,.slice none 0 0,.slice none 0 0]) rfl λg0 dS fB g2=>⟨dS.cF rfl (λv Q=>?_),rfl,c6 dS (us:=dp G K V D) rfl rfl λc5 c7 fD g3=>?_⟩⟩
  .simp only[cN,er,ez]at Q
   rcases Q with rfl|rfl|rfl|rfl<;>trivial
  have b0:Ext c3 c5:=Ext.bQ fB fD (a_ _);obtain⟨nb,fE⟩:=U6 c3.heap.size;rw[←fE]at c7⊢;have dT:Ext dN c5:=((dQ.trans c2).trans c4).trans b0;have bE:=(cY.ext c4).ext b0;refine iA (!((E==1)==(level==1))) (λ_ q F=>⟨_,bE.cell,F _ (.refl _ _)⟩) λg4 dU=>iA (decide (E>2)) (λ_ q F=>⟨_,(bE.ext dU).cell,F _ (.refl _ _)⟩) λg5 fF=>?_;have dV:=dU.trans fF;have b3:=dO.ext (dT.trans dV);have dW:secs.getD k []=secs[k]:=c8 a6;refine⟨λbi=>?_,λa8=>?_⟩
  .obtain⟨bm,bt,R,L⟩:=b3.r.put (a':={a with bad:=inc a.bad}) (v:=.int .i64 (inc a.bad)) (A:=Addr.add ⟨aG,0,none⟩ 9) (by rw[aw]) I rfl
   refine⟨_,b3.r.cell 9,bm,bt,aH (fin _ _ _ ⟨_,_,_,[],.bad k rfl a6 h.2 λp n S cd bF=>?_,by rw[o3,fO];exact b3.sf R L⟩)⟩;rw[dW]at S;rcases aZ with ⟨he,g6,dX,dY,c9⟩|⟨_,he⟩
   .rw[S]at dX
    cases dX;rcases bX with ⟨c_,_⟩|⟨_,bX⟩
    .have M:((E==1)==(level==1))=true:=by
      rw[dY,bF];unfold k9
      cases level==1<;>rfl
     have cj:¬E>2:=by
      rw[dY,bF];unfold k9;split<;>decide
     rw[he,c_,M,ib cj]at bi
     cases bi
    .exact bX n (c9▸cd)
   .exact he p S
  .simp only[hV,bne_eq_false_iff_eq,mv,fh]at a8
   obtain⟨⟨⟨he,c_⟩,b5⟩,aY⟩:=a8;obtain⟨p,S,bF,c9⟩:∃p,cG ((k:Nat):Int) secs[k]=.ok p/\E=p.kind/\aO=p.body:=by
    rcases aZ with ⟨_,h⟩|⟨h,_⟩
    .exact h
    .exact absurd he h
   have fG:gX (level==1) p.body G:=by
    rcases bX with ⟨_,h⟩|⟨h,_⟩
    .exact c9▸h
    .rw[c_]at h;cases h
   have fH:p.kind=k9 level:=by
    have:=Lc S;unfold k9
    cases bj:level==1 with
    |true=>
     rw[bj]at b5;have:E=1:=by simpa using b5
     show p.kind=1;omega
    |false=>
     rw[bj]at b5;have:¬E=1:=by simpa using b5
     show p.kind=2;omega
   obtain⟨a',da⟩:∃a':cr,a'={a with pages:=inc a.pages,keys:=if level==1 then IntKind.wrap .i64 (a.keys+(G.keys.length:Nat)) else a.keys}:=⟨_,rfl⟩;have db:ix secs ((k:Nat):Int) level a seen bd a' (k::seen) (bd++ [k]) G.kids:=by
    rw[da];exact .ok k p G rfl a6 h.2 (by rw[dW];exact S) fG fH
   have cE:=db.len z.bu.2.2.1 z.bu.2.2.2;obtain⟨de,gh,df,fI⟩:=b3.ok (mo ..) λhg=>h.2 (z.bu.2.1 k hg);obtain⟨bm,bt,R,L⟩:=df.r.put (a':={a with pages:=inc a.pages}) (v:=.int .i64 (inc a.pages)) (A:=Addr.add ⟨aG,0,none⟩ 5) (by rw[aw]) I rfl;have dZ:=df.sf R L;refine⟨de,gh,_,df.r.cell 5,bm,bt,aH ?_⟩;obtain⟨a9,d0⟩:=U6 (de.setCell (Addr.add ⟨aG,0,none⟩ 5) (.int .i64 (inc a.pages)));rw[show de.setCell (Addr.add ⟨aG,0,none⟩ 5) (.int .i64 (IntKind.wrap .i64 (a.pages+1)))=a9 from d0.symm];rw[←d0]at dZ L;obtain⟨lo,eT⟩:=U6 cX.heap.size;obtain⟨ac,g8⟩:=U6 a9.heap.size;have dh:aa (λq=>q=c1\/q=aG) c5 a9:=(((dV.mono λ_ _ h=>h.elim).trans (fI.mono λq _ e=>.inl e)).trans (L.mono λq _ e=>.inr e));have g9:=dJ.size;have g_:=cI.size;have ha:=dT.size;have hb:=c2.size;have hh:=c4.size;have hj:=b0.size;have hk:=dh.size;have hl:c1<aU:=z.oW.lt;have hm:aG<aU:=z.r.jY.lt;have hn:=c7.lt;have ho:aU<=lo:=by omega
   have fJ:Var a9 nb (dp G K V D) 169:=c7.ab dh I;have fK:cK (λq=>lo<=q/\q<ac) a9 D G.kids:=(cK.bh (C:=λq=>lo<=q/\q<ac) cO.kids λq d2 hp=>⟨I,I⟩).ext b0|>.ab dh λq d2 e=>by omega
   have fL:=cO.keys.len;refine⟨λs1 s2 n w'=>∃j:Nat,n=(j:Int)/\j<=G.kids.length/\gC w w' rb aG ub c1 sm {a with pages:=inc a.pages} u ss secs (k::seen) (bd++ [k]) s1 s2 (ey++(G.kids.take j).map λk=>(((k:Nat):Int),IntKind.wrap .i64 (level-1)))/\Var w' nb (dp G K V D) 169/\cK (λq=>lo<=q/\q<ac) w' D G.kids/\(∀q,ar s1 q\/ar s2 q->q<lo\/ac<=q)/\ac<=w',
    λ_ _ n _=>((G.kids.length:Int)-n).toNat,⟨0,rfl,cw _,by rw[sB,o3,fO];exact dZ,fJ,fK,λq F=>?_,I⟩,?_⟩
   .rcases F with F|F
    .have:=z.t1.lt q F;omega
    .have:=z.t2.lt q F;omega
   rintro hq hr _ hv ⟨j,rfl,hw,bk,d4,di,b7,hy⟩;obtain⟨_,d1,_,d3⟩:=j1 d4;have hz:=di.len;refine⟨D,d3,λaB=>?_,λa0=>?_⟩
   .have d5:j<G.kids.length:=by have:=bB aB;omega
    obtain⟨fM,fN,fP,fR⟩:=di.at d5;obtain⟨t1,fS,r1,fT,fU,bA,aJ,c0,aW,fV⟩:=bk.push ((G.kids[j]:Nat):Int) (IntKind.wrap .i64 (level-1)) (by rw[b6,cV,cQ];rw[eE]at cE;omega);have hA:=c0.size;refine⟨D,d3,fM,fN,fP,_,fR,aH ⟨t1,fS,r1,aH ⟨fT,fU,bA,?_⟩⟩⟩;rw[hM (by rw[eE]at cE;omega)];refine⟨⟨j+1,rfl,I,?_,d4.ab c0 λe=>by have:=b7 _ e;omega,cK.ab di c0 λq d2 e=>by have:=b7 _ e;omega,λq F=>?_,I⟩,by show((G.kids.length:Int)-((j+1:Nat):Int)).toNat<((G.kids.length:Int)-((j:Nat):Int)).toNat;omega⟩
    .rw[gv d5,eU,←cU]
     exact aJ
    .rcases F with F|F
     .rcases aW q F with e|e
      .exact b7 q (.inl e)
      .exact .inr I
     .rcases fV q F with e|e
      .exact b7 q (.inr e)
      .exact .inr I
   .have fW:j=G.kids.length:=by have:=bT a0;omega
    subst fW;rw[gD]at bk;refine⟨λbj=>?_,λbj=>fin _ _ _ ⟨a',_,_,G.kids,db,?_⟩⟩
    .have M:a'={a with pages:=inc a.pages,keys:=IntKind.wrap .i64 (a.keys+((K.len:Nat):Int))}:=by rw[da,if_pos bj,fL]
     obtain⟨gA,cn,co,cp⟩:=bk.r.put (a':=a') (v:=.int .i64 (IntKind.wrap .i64 (a.keys+((K.len:Nat):Int)))) (A:=Addr.add ⟨aG,0,none⟩ 6) (by rw[aw]) I (by rw[M];rfl);exact⟨_,bk.r.cell 6,K,d1,gA,cn,aH (fin _ _ _ ⟨a',_,_,G.kids,db,bk.sf co cp⟩)⟩
    .have M:a'={a with pages:=inc a.pages}:=by rw[da,if_neg (by rw[bj];simp)]
     rw[M];exact bk
 .have fX:i=ey.length:=by have:=bT a0;omega
  rw[fX,List.drop_length]at cA;have bl:=cA a seen bd (.done a seen bd);have bH:kI secs (jH secs bd u.map a):=by
   refine .inr ⟨by rw[bv];exact dH,a,seen,bd,?_,by rw[bv]⟩;rw[bv];by_cases a3:0<u.aD
   .rw[bw,if_pos a3]at bl
    exact .inl ⟨a3,bl⟩
   .rw[bw,if_neg a3]at bl
    cases bl;exact .inr ⟨by show u.aD=0;omega,rfl,rfl⟩
  have am:=cc aU;have b8:=z.ext am;obtain⟨bn,fZ⟩:=U6 aU.drew;refine aH ?_;rw[←fZ]at b8⊢;obtain⟨A,t,ak,N,hc,ht,bb⟩:=b8.r.s.cL a1;have dx:=cb _ (cg a1);have d6:bn.cell? (Addr.add ⟨ub,0,none⟩ 2)=some (.int .i64 ((u.map:Nat):Int)):=by rw[aw];exact b8.r.mW.cell
  refine⟨λ_=>False,id,_,d6,id,_,d6,A,ak,N,id,t,hc,?_⟩;have Z:∀ (w':J) (o:Obj),aa (λ_:Nat=>False) w' (w'.alloc o):=λw' o=>dc w' o;refine(λ(tail:∀ (W:Nat) (e:Int) (aK:J),(∃ (E T:Int) (t2:U) (aO:O UInt8),Var aK W [.int .i64 E,.int .u64 T,.slice t2.a t2.len t2.cap] 137/\Ext bn aK/\Src 1 aK t2 (aC aO)/\((e=0/\∃p,cG ((u.map:Nat):Int) secs[u.map]=.ok p/\E=p.kind/\aO=p.body)\/(e≠0/\∀p,cG ((u.map:Nat):Int) secs[u.map]≠ .ok p)))->_)=>
   ⟨(nq ht bb I (u.map:Nat) I).use λv d7 Q=>by
    obtain⟨Q,d8⟩:=Q;obtain⟨E,T,t2,e,aO,rfl,a7,cM,dR,cP,aZ⟩:=AT Q;refine⟨E,T,t2,e,rfl,d8,bg (vs:=[.int .i64 0,.int .u64 0,.slice none 0 0]) rfl λhB f0 d9 hC=>⟨d9,lJ E T t2 f0 rfl λaK d_ f1 hD=>?_⟩⟩;have b9:Ext d7 aK:=Ext.bQ d9 f1 (a_ _);obtain⟨W,bC⟩:=U6 d7.heap.size;rw[←bC]at d_⊢;exact tail W e aK ⟨E,T,t2,aO,d_,d8.trans b9,a7.ext b9,aZ⟩,
   bg (vs:=[.int .i64 0,.int .u64 0,.slice none 0 0]) rfl λhE f2 dj f3=>⟨dj,(nq (ht.ext dj) bb I (u.map:Nat) I).use λv hF Q=>by
    obtain⟨Q,dk⟩:=Q;obtain⟨E,T,t2,e,aO,rfl,a7,cM,dR,cP,aZ⟩:=AT Q;refine⟨E,T,t2,e,rfl,dk,lJ E T t2 (f2.ext dk) rfl λea eb ec hG=>?_⟩;have hH:=f3;have f4:=a7.ab ec λq z e=>by have:=cP q z;omega
    have f5:Ext bn ea:=Ext.bQ (dj.trans dk) ec (a_ _);obtain⟨W,bC⟩:=U6 bn.heap.size;rw[←bC]at eb⊢;exact tail W e ea ⟨E,T,t2,aO,eb,f5,f4,aZ⟩⟩⟩) ?_
  rintro W e aK ⟨E,T,t2,aO,bE,b9,a7,aZ⟩;have ed:=b8.ext b9;have f6:jH secs bd u.map a=if e=0/\E=4/\iv (e4 aO) secs.length then
   {a with e3:=(cH (λi=>jl u.map bd i&& !bitsOf (e4 aO) i) secs.length:Nat),lost:=(cH (λi=>bitsOf (e4 aO) i&& !jl u.map bd i) secs.length:Nat)} else {a with bad:=inc a.bad}:=by
   unfold jH;rw[c8 a1];rcases aZ with ⟨he,p,S,bF,N⟩|⟨he,S⟩
   .rw[S,bF,N]
    show(if p.kind=4/\iv (e4 p.body) secs.length then _ else _)=_;by_cases hg:p.kind=4/\iv (e4 p.body) secs.length
    .rw[if_pos hg,if_pos ⟨he,by rw[hg.1];rfl,hg.2⟩]
     have:=E6 (jl u.map bd) (bitsOf (e4 p.body)) secs.length;rw[AS,x_,x_]
     congr 1
     omega
    .rw[if_neg hg,if_neg λh=>hg ⟨by have:=h.2.1;omega,h.2.2⟩]
   .rw[if_neg λh=>he h.1]
    cases hx:cG ((u.map:Nat):Int) secs[u.map] with
    |error _=>rfl
    |ok p=>exact absurd hx (S p)
  rw[f6]at bH;refine⟨t2,by rw[aw];exact bE.cell,?_⟩;rw[ep];refine(Jw (ns:=e4 aO) (by rw[←EE];exact a7) (EF aO) secs.length cd.2).use ?_;rintro v f7 ⟨ee,f8⟩;have f9:=ed.ext ee;obtain⟨ba,rfl,ef⟩:∃ba:an ax,v=.pointer ba/\((ba=none/\¬iv (e4 aO) secs.length)\/(iv (e4 aO) secs.length/\∃b s1 s2,ba=some ⟨b,0,none⟩/\e2 f7 b secs.length (bitsOf (e4 aO)) (bitsOf (e4 aO)) s1 s2/\∀k,eH b s1 s2 k->aK<=k)):=by
   rcases f8 with ⟨h1,rfl⟩|⟨h1,b,s1,s2,rfl,H,Y⟩
   .exact⟨_,rfl,.inl ⟨rfl,h1⟩⟩
   .exact⟨_,rfl,.inr ⟨h1,b,s1,s2,rfl,H,Y⟩⟩
  refine⟨ba,rfl,iA (decide (E≠4)) (λ_ k aM=>⟨E,(bE.ext ee).cell,?_⟩) λf_ eg=>?_⟩
  .rw[show(E !=4)=decide (E≠4) by rw[ek,bne_iff_ne,cq]]
   exact aM _ (.refl _ _)
  have dl:=f9.ext eg;have ga:(((e !=0)||decide (E≠4))||Option.isNone ba)= !decide (e=0/\E=4/\iv (e4 aO) secs.length):=by
   rw[ek];rcases ef with ⟨rfl,h⟩|⟨h,_,_,_,rfl,_⟩
   .simp[h]
   .simp only[Option.isNone_some,Bool.or_false,fC,bne_iff_ne,ne_eq,cq,ju,fh,h,and_true]
    omega
  rw[ga];refine⟨λbi=>?_,λa8=>?_⟩
  .have bi:¬(e=0/\E=4/\iv (e4 aO) secs.length):=bT (by rwa[ju]at bi)
   rw[if_neg bi]at bH;obtain⟨bm,bt,R,L⟩:=dl.r.put (a':={a with bad:=inc a.bad}) (v:=.int .i64 (inc a.bad)) (A:=Addr.add ⟨aG,0,none⟩ 9) (by rw[aw]) I rfl;exact⟨_,dl.r.cell 9,bm,bt,aH (R.AQ bH)⟩
  have a8:e=0/\E=4/\iv (e4 aO) secs.length:=bB (by rwa[mv]at a8);rw[if_pos a8]at bH;obtain⟨b,t1,t2,rfl,gb,eh⟩:∃b s1 s2,ba=some ⟨b,0,none⟩/\e2 f_ b secs.length (bitsOf (e4 aO)) (bitsOf (e4 aO)) s1 s2/\∀k,eH b s1 s2 k->aK<=k:=by
   rcases ef with ⟨_,h⟩|⟨_,b,s1,s2,h1,H,Y⟩
   .exact absurd a8.2.2 h
   .exact⟨b,s1,s2,h1,H.ext eg,Y⟩
  have ch:aG<aK:=ed.r.jY.lt;have ei:a.lost=0/\a.e3=0:=⟨(bl.lost).trans (by rw[cs];exact E7 secs 2),bl.e3.trans dG⟩;obtain⟨gK,bp⟩:∃gK:Nat->Nat->cr,gK=λx y=>{a with lost:=(x:Nat),e3:=(y:Nat)}:=⟨_,rfl⟩;refine⟨λn w'=>∃k:Nat,n=(k:Int)/\k<=secs.length/\gC w w' rb aG ub c1 sm (gK (cH (λi=>bitsOf (e4 aO) i&& !jl u.map bd i) k) (cH (λi=>jl u.map bd i&& !bitsOf (e4 aO) i) k)) u ss secs seen bd bc bx ey/\e2 w' b secs.length (bitsOf (e4 aO)) (bitsOf (e4 aO)) t1 t2,λn _=>((secs.length:Int)-n).toNat,⟨0,rfl,cw _,?_,gb⟩,?_⟩
  .have gc:∀a:cr,a.lost=0->a.e3=0->({a with lost:=((0:Nat):Int),e3:=((0:Nat):Int)}:cr)=a:=λa h1 H=>by
    cases a;simp only at h1 H;subst h1 H;rfl
   have:gK 0 0=a:=by rw[bp];exact gc a ei.1 ei.2
   show gC _ _ _ _ _ _ _ (gK 0 0) _ _ _ _ _ _ _ _;rw[this];exact dl
  rintro _ hI ⟨k,rfl,aM,bq,ej⟩;refine⟨λaB=>?_,λa0=>?_⟩
  .have gd:k<secs.length:=by have:=bB aB;omega
   obtain⟨f,hf⟩:=U6 (bitsOf (e4 aO));obtain⟨g,hg⟩:=U6 (jl u.map bd);rw[←hf,←hg]at bq;rw[←hf]at ej;have ge:g k=((decide (((k:Nat):Int)<2)||(((k:Nat):Int)==((u.map:Nat):Int)))||decide (k∈bd)):=by
    rw[hg,ek];unfold jl;simp only[fC,cq,gP];constructor
    .rintro((h|h)|h)
     .exact .inl (.inr I)
     .exact .inr h
     .exact .inl (.inl I)
    .rintro((h|h)|h)
     .exact .inr I
     .exact .inl (.inl I)
     .exact .inl (.inr h)
   refine⟨iA (((k:Nat):Int)==((u.map:Nat):Int)) (λ_ q F=>⟨_,by rw[aw];exact bq.r.mW.cell,F _ (.refl _ _)⟩) λgf dm=>iA (decide (k∈bd)) (λ_ q F=>⟨_,gf,E_ (bq.ext dm).oW k,F _ (.refl _ _)⟩) λhJ el=>?_⟩;rw[←ge];have b_:=(bq.ext dm).ext el;have bI:=(ej.ext dm).ext el;have hL:=bI.DU;have bit:∀w',e2 w' b secs.length f f t1 t2->∃A:ax,t1.a=some A/\((0:Int)<=(k:Int)/\(k:Int)<((t1.len:Nat):Int))/\w'.cell? (A.add (Int.toNat ((k:Nat):Int)*1))=some (.bool (f k)):=λw' h=>by
    obtain⟨A,h1,H,Y⟩:=h.now.src.at (tX f gd);exact⟨A,h1,H,Y⟩
   refine jQ (λw'=>gC w w' rb aG ub c1 sm (gK (cH (λi=>f i&& !g i) (k+1)) (cH (λi=>g i&& !f i) k)) u ss secs seen bd bc bx ey/\e2 w' b secs.length f f t1 t2) (λq F=>?_) ?_
   .obtain⟨A,h1,H,Y⟩:=bit _ bI
    refine⟨_,rfl,t1,bI.bM,A,h1,H,_,Y,λN=>?_,λN=>F _ ⟨?_,bI⟩⟩
    .have dn:(gK (cH (λi=>f i&& !g i) k) (cH (λi=>g i&& !f i) k)).lost=((cH (λi=>f i&& !g i) k:Nat):Int):=by rw[bp]
     have gg:=l9 (λi=>f i&& !g i) k;have M:cH (λi=>f i&& !g i) (k+1)=cH (λi=>f i&& !g i) k+1:=by
      show _+(f k&& !g k).toNat=_;rw[N];rfl
     obtain⟨bm,bt,R,L⟩:=b_.r.put (a':=gK (cH (λi=>f i&& !g i) (k+1)) (cH (λi=>g i&& !f i) k)) (v:=.int .i64 ((cH (λi=>f i&& !g i) (k+1):Nat):Int)) (A:=Addr.add ⟨aG,0,none⟩ 7) (by rw[aw]) I (by rw[bp];rfl);refine⟨_,b_.r.cell 7,bm,bt,aH ?_⟩;have ev:IntKind.wrap .i64 ((gK (cH (λi=>f i&& !g i) k) (cH (λi=>g i&& !f i) k)).lost+1)=((cH (λi=>f i&& !g i) (k+1):Nat):Int):=by
      rw[dn,hM I,M]
     rw[ev];exact F _ ⟨b_.sf R L,bI.ab L λq z e=>by have:=eh q z;omega⟩
    .have M:cH (λi=>f i&& !g i) (k+1)=cH (λi=>f i&& !g i) k:=by
      show _+(f k&& !g k).toNat=_;rw[N];rfl
     rw[M];exact b_
   rintro hN ⟨gi,dq⟩;refine kJ (!f k) (λ_ q F=>?_) λhO em=>?_
   .obtain⟨A,h1,H,Y⟩:=bit _ dq
    exact⟨_,rfl,t1,dq.bM,A,h1,H,_,Y,F _ (.refl _ _)⟩
   have ca:=gi.ext em;have en:=dq.ext em;have fin:∀w',gC w w' rb aG ub c1 sm (gK (cH (λi=>f i&& !g i) (k+1)) (cH (λi=>g i&& !f i) (k+1))) u ss secs seen bd bc bx ey->e2 w' b secs.length f f t1 t2->(∃aN:Nat,IntKind.wrap .i64 (((k:Nat):Int)+1)=(aN:Int)/\aN<=secs.length/\gC w w' rb aG ub c1 sm (gK (cH (λi=>bitsOf (e4 aO) i&& !jl u.map bd i) aN) (cH (λi=>jl u.map bd i&& !bitsOf (e4 aO) i) aN)) u ss secs seen bd bc bx ey/\e2 w' b secs.length (bitsOf (e4 aO)) (bitsOf (e4 aO)) t1 t2)/\((secs.length:Int)-IntKind.wrap .i64 (((k:Nat):Int)+1)).toNat<((secs.length:Int)-((k:Nat):Int)).toNat:=λw' h1 H=>by
    rw[hM I,←hf,←hg];exact⟨⟨k+1,rfl,I,h1,H⟩,I⟩
   refine⟨λN=>?_,λN=>fin _ ?_ en⟩
   .have dn:(gK (cH (λi=>f i&& !g i) (k+1)) (cH (λi=>g i&& !f i) k)).e3=((cH (λi=>g i&& !f i) k:Nat):Int):=by rw[bp]
    have gg:=l9 (λi=>g i&& !f i) k;have M:cH (λi=>g i&& !f i) (k+1)=cH (λi=>g i&& !f i) k+1:=by
     show _+(g k&& !f k).toNat=_;rw[N];rfl
    obtain⟨bm,bt,R,L⟩:=ca.r.put (a':=gK (cH (λi=>f i&& !g i) (k+1)) (cH (λi=>g i&& !f i) (k+1))) (v:=.int .i64 ((cH (λi=>g i&& !f i) (k+1):Nat):Int)) (A:=Addr.add ⟨aG,0,none⟩ 8) (by rw[aw]) I (by rw[bp];rfl);refine⟨_,ca.r.cell 8,bm,bt,aH ?_⟩;have ev:IntKind.wrap .i64 ((gK (cH (λi=>f i&& !g i) (k+1)) (cH (λi=>g i&& !f i) k)).e3+1)=((cH (λi=>g i&& !f i) (k+1):Nat):Int):=by
     rw[dn,hM I,M]
    rw[ev];exact fin _ (ca.sf R L) (en.ab L λq z e=>by have:=eh q z;omega)
   .have M:cH (λi=>g i&& !f i) (k+1)=cH (λi=>g i&& !f i) k:=by
     show _+(g k&& !f k).toNat=_;rw[N];rfl
    rw[M];exact ca
  .have gj:k=secs.length:=by have:=bT a0;omega
   subst gj;rw[bp]at bq;exact bq.r.AQ bH
end Go.Proofs.YtcmgnhkpfllinaaGreat
