/- Contracts of the functions that the statement reaches, and the plain laws over them; each theorem stands with its conditions. -/
import Derived.Test.YtkdhdlfonmgheaaGreatBAPlays5
namespace Go.Proofs.YtkdhdlfonmgheaaGreat
open Go aS Go.Proofs.Tryz
section
variable {w w':J}{C:cf}{X:Nat->Prop}
def Fr.g7(f:Fr):al:=f.full&&f.fY
theorem J7:h7 ai 200:=⟨Tryz.f200,func200,by kernel_rfl,by kernel_rfl⟩
theorem J8(f:Fr)(w:J):aK ai 200 #[.agg #[f.full,f.fY,f.used,f.no,f.pins,f.b]] w (λv w'=>v=f.g7/\Ext w w'):=by
 refine okF (ae.vX f.full f.fY f.used f.no f.pins f.b) ay.vX func200 ?_;(delta ae.vX aY aa an;dsimp only);refine bc (vs:=f.c) rfl λw1 a hx hs=>⟨f.full,a.cell,cq (λb w'=>b=f.g7/\w1=w') (λq d=>⟨λh=>⟨f.fY,by rw[az];exact a.cell,d _ _ ⟨by unfold Fr.g7;rw[h];rfl,rfl⟩⟩,λh=>d _ _ ⟨by unfold Fr.g7;rw[h];rfl,rfl⟩⟩) ?_⟩;rintro _ _ ⟨rfl,rfl⟩;exact⟨rfl,hx⟩
def jR(fs:O Fr):O Int:=(fs.filter Fr.g7).map Fr.no
theorem Ed(h:fv w C):aK ai 145 #[.pointer (some C.c)] w (λv w'=>∃ (s:ad) (zs:O Int),v=s/\aT 1 3 w' s (zs.map encZ)/\zs.Perm (jR C.ao)/\Ext w w'/\∀q,aE s q->w.heap.size<=q):=by
 obtain⟨b6,aZ,bf⟩:=h.cells
 have W:=h.cn
 refine okF (ae.vN (some C.c)) ay.vN func145 ?_
 delta ae.vN bK
 refine Calls.mono (ae.Gl (some C.c) ⟨200,#[],#[]⟩ w (λv w'=>∃ (s:ad) (zs:O Int),v=s/\aT 1 3 w' s (zs.map encZ)/\zs.Perm (jR C.ao)/\Ext w w'/\∀q,aE s q->w.heap.size<=q) ?_) ?_
 · (delta ae.sQ an r1 aM aY aF aa ar gT;dsimp only)
   refine⟨λh=>(by cases h),λ_=>⟨_,rfl,⟨some C.a6,C.ao.length,C.ao.length⟩,aZ,λs n w'=>∃i:Nat,n=(i:Int)/\i<=C.ao.length/\aT 1 3 w' s ((jR (C.ao.take i)).map encZ)/\Ext w w'/\∀q,aE s q->w.heap.size<=q,λ_ n _=>((C.ao.length:Int)-n).toNat,⟨0,rfl,cR _,by simpa[jR] using aT.none 1 3 w,.refl _ _,λq e=>(gy q e).elim⟩,?_⟩⟩
   rintro s _ p ⟨i,rfl,hi,a,hx,g⟩
   have A:=h.ext hx
   refine⟨λaJ=>?_,λB=>?_⟩
   · have r:i<C.ao.length:=by
       have:(i:Int)<(C.ao.length:Int):=cl aJ
       omega
     obtain⟨f,hf⟩:∃f,f=C.ao[i]:=⟨_,rfl⟩
     have X:(jR (C.ao.take i)).length<=64:=by
       unfold jR
       rw[dk]
       have:=iP Fr.g7 (C.ao.take i)
       rw[cz]at this;omega
     have t:jR (C.ao.take (i+1))=jR (C.ao.take i)++(if f.g7 then [f.no] else []):=by
       unfold jR
       rw[iy r,gG,gb,←hf,hJ,oC]
       congr 1
       split<;>rfl
     refine cq (λs w'=>aT 1 3 w' s ((jR (C.ao.take (i+1))).map encZ)/\Ext w w'/\∀q,aE s q->w.heap.size<=q) (λq e=>?_) ?_
     · have hc:∀j,j<6->p.cell? ⟨C.a6,i*6+j,none⟩=(f.c)[j]? :=λj D=>by rw[hf];exact kG A.f r D
       refine⟨_,rfl,⟨I,by show(i:Int)<(C.ao.length:Int);omega⟩,?_⟩
       rw[tn]
       refine⟨f.full,hc 0 (by decide),f.fY,by rw[az];exact hc 1 (by decide),f.used,by rw[az];exact hc 2 (by decide),f.no,by rw[az];exact hc 3 (by decide),f.pins,by rw[az];exact hc 4 (by decide),f.b,by rw[az];exact hc 5 (by decide),?_⟩
       refine bc (vs:=[false,false,false,(0:Int),(0:Int),()]) rfl λY u E Z=>⟨u.b3 rfl (λv l=>?_),rfl,cp u (us:=f.c) rfl rfl λy d F ab=>?_⟩
       · simp only[de,fG,fQ]at l
         rcases l with rfl|rfl|rfl|rfl|rfl|rfl<;>trivial
       have G:Ext p y:=Ext.cD E F (bt _)
       refine⟨f.full,d.cell,f.fY,by rw[az];exact d.cell,f.used,by rw[az];exact d.cell,f.no,by rw[az];exact d.cell,f.pins,by rw[az];exact d.cell,f.b,by rw[az];exact d.cell,J7,(J8 f y).use ?_⟩
       rintro _ m ⟨rfl,z⟩
       have k:=Ext.trans G z
       have H:=d.ext z
       refine⟨_,rfl,λhd=>⟨f.no,by rw[az];exact H.cell,aX ?_⟩,λhd=>e _ _ ⟨?_,Ext.trans hx k,g⟩⟩
       · have o:Ext m (m.alloc (.cells #[encZ f.no] 3)):=c8 _ _
         obtain⟨J,K,aw,ax,_,L,M⟩:=s_.append (cC:=58) (x:=⟨some m.heap.size,1,1⟩) (Src.new (T:=3) m [encZ f.no] 1 rfl) ((a.ext k).ext o) (λv l=>by rw[fz.1 l];trivial) (by
           have:s.len=(jR (C.ao.take i)).length:=by
             have:=a.1
             rw[dk]at this;omega
           show(2*(s.len+1)+1000)*8<=_;omega)
         refine⟨J,K,aw,e _ _ ⟨?_,?_,λq e=>?_⟩⟩
         · rw[t,hd,if_pos rfl,gb];exact ax
         · exact Ext.df (Ext.trans (Ext.trans hx k) o) L g
         · rcases M q e with h1|h1
           · exact g q h1
           · have:=(Ext.trans hx k).size
             have:=o.size;omega
       · rw[t,hd]
         simp only[gp,if_false,fl]
         exact a.ext k
     · rintro ac af ⟨h1,h2,N⟩
       have P:IntKind.wrap .i64 ((i:Int)+1)=((i+1:Nat):Int):=by rw[bB I I];omega
       rw[P]
       exact⟨⟨i+1,rfl,I,h1,h2,N⟩,by show((C.ao.length:Int)-((i+1:Nat):Int)).toNat<((C.ao.length:Int)-(i:Int)).toNat;omega⟩
   · have Q:i=C.ao.length:=by
       have:¬(i:Int)<(C.ao.length:Int):=cw B
       omega
     rw[Q,h4]at a
     refine(It a (by
       unfold jR
       rw[dk]
       have:=iP Fr.g7 C.ao;omega)).use ?_
     rintro _ ag ⟨rfl,R,zs,S,U⟩
     exact⟨rfl,s,zs,rfl,S,U.1,Ext.df hx R g,g⟩
 · rintro _ w1 ⟨_,rfl,s,zs,rfl,a,V,hx,hf⟩
   exact⟨s,rfl,s,zs,rfl,a,V,hx,hf⟩
end
section
variable {w w':J}{C:cf}{X:Nat->Prop}
theorem J9{D:bm}{no:Nat}{s:ad}{l:du}{N:Nat}(a:∀q,aE s q->cA D q\/N<=q):∀q,cA (D.put no s l) q->cA D q\/N<=q:=by
 rintro q (e|e|e|⟨x,hx,e⟩)
 .exact .inl (.inl e)
 .exact .inl (.inr (.inl e))
 .exact .inl (.inr (.inr (.inl e)))
 .rcases de.1 hx with rfl|hx
  .exact a q e
  .exact .inl (.inr (.inr (.inr ⟨x,(fU.1 hx).1,e⟩)))
theorem fv.qV{aC:bm}(h:fv w C)(hd:dz w' aC)(e:aC.d=C.D.d)(hc:af (cA C.D) w w')(hf:∀q,cA aC q->cA C.D q\/w.heap.size<=q):fv w' {C with D:=aC}:=by
 have h1:=h.v.ah hc h.a1.2.1;rw[←e]at h1;have a:C.c<w.heap.size:=h.v.lt;have b:C.a6<w.heap.size:=bu.lt h.f;refine⟨h1,bu.ah h.f hc h.a1.2.2,hd,h.cc,h.cn,h.hd,h.a1.1,λg=>?_,λg=>?_⟩
 .rcases hf _ g with g|g
  .exact h.a1.2.1 g
  .have g:w.heap.size<=C.c:=g
   omega
 .rcases hf _ g with g|g
  .exact h.a1.2.2 g
  .have g:w.heap.size<=C.a6:=g
   omega
def cf.wrote(C:cf)(i no:Nat)(hi:i<C.ao.length)(s:ad):cf:={C with ao:=C.ao.set i {C.ao[i] with fY:=false},D:=C.D.put no s (C.ao[i]).l}
theorem J_(h:er X w C){i no:Nat}(hi:i<C.ao.length)(hf:(C.ao[i]).full=true)(t:(C.ao[i]).no=no){s:ad}(H:¬C.D.bZ no=true)(hd:dz w' (C.D.put no s (C.ao[i]).l))(hc:af (cA C.D) w w')(T:∀q,aE s q->cA C.D q\/w.heap.size<=q):
 (∃u:Y,w'.cell? ⟨C.a6,i*6+1,none⟩=some u)/\w'.frozen? ⟨C.a6,i*6+1,none⟩=false/\er X (w'.setCell ⟨C.a6,i*6+1,none⟩ false) (C.wrote i no hi s)/\
   eG C (C.wrote i no hi s) w (w'.setCell ⟨C.a6,i*6+1,none⟩ false) 1/\∀j,(C.wrote i no hi s).view j=C.view j:=by
 have z:=J9 (no:=no) (l:=(C.ao[i]).l) T;obtain⟨aC,x⟩:∃aC,aC=C.D.put no s (C.ao[i]).l:=⟨_,rfl⟩;have B:∀j,aC.now j=if j=no then (C.ao[i]).l else C.D.now j:=by rw[x];exact pH _ _ _ _
 have J:aC.d=C.D.d:=by rw[x];rfl
 have U:aC.n=C.D.n:=by rw[x];rfl
 have W:aC.key=C.D.key:=by rw[x];exact Ds C.D H
 have K:k3 aC C.D:=by rw[x];exact Dr h.inv H
 have al:aC.aV=C.D.aV+1:=by rw[x];rfl
 have Z:∀m,C.D.calm (m+1)->aC.calm m:=λm aa=>by rw[x];exact(j_ (.inr rfl) h.raw.dev.f4 aa).1
 unfold cf.wrote;rw[←x]at hd z⊢;have L:=h.raw.qV hd J hc z;obtain⟨a1,a2,a3,a4⟩:=n3 L.f hi (j:=1) (by decide) (v:=false) {C.ao[i] with fY:=false} rfl;obtain⟨g,o⟩:∃g:Fr,g={C.ao[i] with fY:=false}:=⟨_,rfl⟩;rw[←o]at a3⊢;refine⟨a1,a2,?_⟩;generalize w'.setCell ⟨C.a6,i*6+1,none⟩ false=E at a3 a4;have G:af (dc C) w E:=c3 (hc.mono λq _ e=>.inr (.inr e)) a4 λq _ e=>.inr (.inl e);obtain⟨y,aw,ax,ab,ac,am,an,ae⟩:=h.inv.ok _ (cW hi) hf;have ag:y=no:=by rw[t]at aw;omega
 subst ag;obtain⟨a,r⟩:∃a:cf,a={C with ao:=C.ao.set i dN,D:=aC}:=⟨_,rfl⟩;have h1:gP X E a:=by
  rw[r];exact zG (V:=dc C) hi h.inv G (λ_ _ h=>h) K (λj A=>by rw[B,if_neg λe=>A hf (by rw[t,e])]) z dN rfl rfl
 have v1:∀j,a.view j=C.view j:=λj=>by
  rw[r];exact Dq hi h.inv (λ_ j A=>by rw[B,if_pos (by rw[t]at A;omega)]) (λj A=>by rw[B,if_neg λe=>A hf (by rw[t,e])]) dN rfl j
 have F:a.ao=C.ao.set i dN:=by rw[r]
 have dR:i<a.ao.length:=by rw[F,dJ];exact hi
 have M:∀ (k:Nat) (ah:k<a.ao.length),k≠i->(a.ao[k]).full=true->(a.ao[k]).no≠y:=λk ah N h2 O=>by
  simp only[F,fH (Ne.symm N)]at h2 O;exact N (h.inv.un k i _ hi h2 hf (by rw[O,t]))
 have P:C.ao.set i g=a.ao.set i g:=by rw[F,set_set]
 have Q:({C with ao:=C.ao.set i g,D:=aC}:cf)={a with ao:=a.ao.set i g,D:=aC}:=by rw[P,r]
 have ai:bA (λq=>¬dc {C with ao:=C.ao.set i g,D:=aC} q/\¬X q) E g.b g.l:=by
  rw[o];refine bA.re ab G (λq _ R=>R.1) λq R S=>⟨λp=>S.1 ?_,S.2⟩;rcases p with p|p|p
  .exact .inl p
  .exact .inr (.inl p)
  .exact .inr (.inr ((z q p).resolve_right I))
 have h2:gP X E {C with ao:=C.ao.set i g,D:=aC}:=by
  rw[Q];refine zH (C:=a) (no:=y) (V:=λ_=>False) dR h1 (.refl _ _) (λ_ _ h=>h.elim) (by rw[r];exact⟨rfl,λ_ h=>h,K.2.2⟩) (λj=>by rw[r]) (λq=>by rw[r]) g (by rw[o];exact hf) (by rw[o];exact h.inv.pins (C.ao[i]) (cW hi)) ⟨by rw[o];exact t,by show y<aC.n;rw[U];exact ax,by rw[←Q];exact ai,by rw[o];exact ac,λ_=>?_,λ_=>by rw[o],ae⟩ M;show g.l=aC.now y;rw[B,if_pos rfl,o]
 have aj:∀j,({C with ao:=C.ao.set i g,D:=aC}:cf).view j=C.view j:=λj=>by
  have ak:({C with ao:=C.ao.set i g,D:=aC}:cf)=cf.mk a.c a.a6 (a.ao.set i g) C.hand aC:=by rw[P,r]
  rw[ak,zI (C:=a) (hd:=C.hand) (aC:=aC) (no:=y) dR h1.un (λj=>by rw[r]) g (by rw[o];exact hf) (by rw[o];exact t) (λp=>by simp only[F,iO]at p;cases p) M j,v1];split
  .rename_i e
   subst e;have:=m3 (fs:=C.ao) (D:=C.D) (c:=C.c) (a6:=C.a6) (hd:=C.hand) h.inv.un hi hf t;rw[o];exact this.symm
  .rfl
 refine⟨⟨?_,h2⟩,⟨rfl,J,by show(C.ao.set i _).length=_;rw[dJ],W,by show aC.aV<=_;omega,Z,G,?_⟩,aj⟩
 .refine zJ (C:={C with D:=aC}) L a4 a3
 .rintro q (e|e|e)
  .exact .inl (.inl e)
  .exact .inl (.inr (.inl e))
  .exact(z q e).imp (λh=>.inr (.inr h)) id
theorem Aa{aC:bm}(h:er X w C)(hd:dz w' aC)(e:aC.d=C.D.d)(b:k3 aC C.D)(a:∀i,aC.now i=C.D.now i)(hc:af (cA C.D) w w')(hf:∀q,cA aC q->cA C.D q\/w.heap.size<=q):er X w' {C with D:=aC}/\∀j,({C with D:=aC}:cf).view j=C.view j:=
 ⟨⟨h.raw.qV hd e hc hf,tq (C:=C) (hd:=C.hand) h.inv (im.refl _) (hc.mono λq _ e=>.inr (.inr e)) (λ_ _ h=>h) b a hf⟩,λj=>tr (C:=C) (hd:=C.hand) h.inv (im.refl _) a j⟩
theorem Ka(h:er X w C)(hc:∀f∈C.ao,f.g7=false)(j:Nat):C.view j=C.D.now j:=by
 unfold cf.view
 cases b:C.ao.find? λf=>f.full&&f.no==(j:Int) with
 |none=>rfl
 |some f=>
  have c:=j0 b;have a:=kO b;simp only[dh,jY]at a;obtain⟨no,aw,ax,g,i,d⟩:=h.inv.ok f c a.1;have h1:=hc f c;unfold Fr.g7 at h1;rw[a.1,g9]at h1;have e:no=j:=by rw[a.2]at aw;omega
  rw[←e];exact d h1
theorem Ee{D:bm}(h:dz w D)(i:Nat):D.jx.now i=D.now i:=by
 by_cases hi:i<D.n
 .exact z8 D hi
 .have h1:D.now i=[]:=by
   unfold bm.now
   cases hf:D.waits.find? λx=>x.i==i with
   |some x=>
    have hx:=j0 hf;have he:x.i=i:=by simpa using kO hf
    have:=(h.wn x hx).2.1;omega
   |none=>
    have:¬i<D.bT.length:=hi;show D.bT.getD i []=[];rw[gd,oz I];rfl
  rw[h1];show((List.range D.n).map D.now).getD i []=[];rw[gd,oz (by simp;omega)];rfl
theorem tB(D:bm){m:Nat}(h:D.calm m):(D.cJ 3).calm m:=by
 unfold bm.calm bm.cJ at*;simpa[gd] using h
theorem eG.r1{C aI:cf}{w w':J}{k:Nat}(h:eG C aI w w' k):aI.D.r1=C.D.r1:=congrArg (λk:(O du×(Nat->al)×(Nat->O du)×(Int->Prop)×al)×Int=>k.1.2.2.2.2) h.bT
structure Kb(X:Nat->Prop)(C aI:cf)(w:J)(v:Y)(w':J):Prop where
 at_:er X w' aI
 c:aI.c=C.c
 d:aI.D.d=C.D.d
 len:aI.ao.length=C.ao.length
 n:aI.D.n=C.D.n
 bZ:aI.D.bZ=C.D.bZ/\aI.D.eK=C.D.eK
 r:aI.D.r1=C.D.r1
 aV:aI.D.aV<=C.D.aV+64
 calm:∀m,C.D.calm (m+64)->aI.D.calm m
 ah:af (dc C) w w'
 c7:∀q,dc aI q->dc C q\/w.heap.size<=q
 view:∀j,aI.view j=C.view j
 iF:(v=.int .i64 0/\aI.D.waits=[]/\(∀f∈aI.ao,f.g7=false)/\aI.D.cu.getD 3 0=(gY (C.D.cu.getD 3 0)).2)\/(v=.int .i64 3/\aI.D.bT=C.D.bT/\(¬C.D.calm 64\/C.D.gv 3=true))
theorem Kc(h:er X w C)(a0:C.D.aV<=999999900)(al:∀j,C.D.bZ j=true->C.D.eK j=[]):aK ai 163 #[.pointer (some C.c)] w (λv w'=>∃aI,Kb X C aI w v w'):=by
 have a1:=h.raw.cn;refine okF (ae.vR (some C.c)) ay.vR func163 ?_;(delta ae.vR an bK aM aF jI r1 bS st ar;dsimp only);refine⟨λh=>(by cases h),λ_=>(Ed h.raw).use ?_⟩;rintro _ w1 ⟨s,zs,rfl,hs,M,V,am⟩;have hlen:s.len=zs.length:=by have:=hs.1;rw[dk]at this;omega
 have a2:zs.length<=64:=by
  rw[M.length_eq];unfold jR;rw[dk];have:=iP Fr.g7 C.ao;omega
 have h1:=h.ext V;have ap:∀z∈zs,∀no:Nat,(no:Int)=z->¬C.D.bZ no=true:=λz t no a3 hs=>by
  obtain⟨f,hf,e⟩:=fy.1 (M.mem_iff.1 t);obtain⟨h2,u⟩:=fU.1 hf;unfold Fr.g7 at u;rw[dh]at u;obtain⟨m,cc,_,_,_,_,W,aq⟩:=h.inv.ok f h2 u.1;have:m=no:=by rw[e]at cc;omega
  subst this;rw[W hs]at u
  cases u.2
 refine⟨s,rfl,λn w'=>∃ (i:Nat) (g:cf),n=(i:Int)/\i<=zs.length/\er X w' g/\eG C g w w' i/\(∀j,g.view j=C.view j)/\aT 1 3 w' s (zs.map encZ)/\(∀f∈g.ao,f.g7=true->f.no∈zs.drop i)/\(∀z∈zs,∃f∈g.ao,f.full=true/\f.no=z)/\∀q,dc g q->¬aE s q,
  λn _=>((zs.length:Int)-n).toNat,⟨0,C,rfl,cR _,h1,eG.ext C V,λ_=>rfl,hs,λf hf hd=>?_,λz t=>?_,λq o N=>?_⟩,?_⟩
 .exact M.mem_iff.2 (fy.2 ⟨f,fU.2 ⟨hf,hd⟩,rfl⟩)
 .obtain⟨f,hf,e⟩:=fy.1 (M.mem_iff.1 t)
  obtain⟨h2,u⟩:=fU.1 hf;unfold Fr.g7 at u;rw[dh]at u;exact⟨f,h2,u.1,e⟩
 .have:=am q N;have:=h.raw.lt o;omega
 rintro _ Q ⟨i,g,rfl,hi,p,l,O,R,Y,hex,Z⟩;have a4:=l.aV;refine⟨λaJ=>?_,λau=>?_⟩
 .have G:i<zs.length:=by
   have:(i:Int)<(s.len:Int):=cl aJ;omega
  obtain⟨a,av,aA⟩:∃a:ag,s.a=some a/\Q.cell? (a.add (Int.toNat (i:Int)*1))=some (.int .i64 zs[i]):=by
   obtain⟨b,c,y,_,_,_,_,S,_⟩:=R.cell (i:=i) (v:=encZ zs[i]) (by rw[nq,dU G];rfl);exact⟨_,y,by rw[di,az,cF,fE];exact S⟩
  refine⟨a,av,⟨I,by show(i:Int)<(s.len:Int);omega⟩,zs[i],aA,?_⟩;rw[←l.c];refine(xa p.raw _).use ?_;rintro _ _ ⟨aB,rfl⟩;obtain⟨f,aC,aD,aG⟩:=hex zs[i] (cW G);rcases aB with ⟨k,H,rfl,aw,ax⟩|⟨_,aH⟩
  rotate_left
  .exact absurd aG (aH f aC aD)
  have J:=cE Q;have B:=p.ext J;obtain⟨no,cc,cn,aa,aL,a5,W,aq⟩:=B.inv.ok _ (cW H) aw;have t:zs[i]=(no:Int):=by rw[←ax,cc]
  have aN:=kG B.raw.f H (j:=5) (by decide);refine⟨_,rfl,aX ⟨_,rfl,id,_,B.raw.cells.1,_,rfl,id,(g.ao[k]).b,by rw[az];exact aN,?_⟩⟩;rw[t];refine(w8 B.raw.dev (i:=no) cn I aa.1 aL λq o hf=>(aa.2.2 q o).1.1 (.inr (.inr hf))).use ?_;rintro v2 aj aO;have aP:=l.ah.size;have a7:=J.size;rcases aO with ⟨y,rfl,E,r⟩|⟨y,rfl,s2,E,r,aQ⟩
  .obtain⟨hE,eB⟩:=Aa B E rfl (B.inv.cJ 2) (λj=>tp g.D 2 j) (r.mono λq _ e=>.inl e) λq o=>.inl o
   refine⟨3,rfl,λ_=>⟨{g with D:=g.D.cJ 2},hE,l.c,l.d,l.len,l.n,l.n4,l.r1,by show g.D.aV<=_;omega,λm K=>?_,?_,?_,λj=>(eB j).trans (O j),.inr ⟨rfl,?_,.inl λaR=>?_⟩⟩,λh=>(by cases h)⟩
   .exact(j_ (.inr rfl) p.raw.dev.f4 (l.calm (m+1) (gB K I))).1
   .refine c3 (l.ah.trans (af.cN J)) r λq o e=>?_
    exact(l.c7 q (.inr (.inr (.inl e)))).resolve_right I
   .exact l.c7
   .exact congrArg (λk=>k.1.1) l.bT
   .have:=(j_ (k:=2) (m:=0) (.inr rfl) p.raw.dev.f4 (l.calm 1 (gB aR I))).2
    rw[y]at this;cases this
  .obtain⟨bh,bj,ab,P,aS⟩:=J_ B H aw (by rw[ax,t]) (λhs=>ap _ (cW G) _ t.symm (by rw[←l.bZ];exact hs)) E r aQ
   refine⟨0,rfl,λh=>(by cases h),λ_=>⟨_,rfl,by rw[az];exact bh,by rw[az];exact bj,?_⟩⟩;rw[az];refine aX ?_;generalize aj.setCell ⟨g.a6,k*6+1,none⟩ false=a8 at ab P;have aU:IntKind.wrap .i64 ((i:Int)+1)=((i+1:Nat):Int):=by rw[bB I I];omega
   rw[aU];have aW:=(l.trans (eG.ext g J)).trans P;have aY:zs.drop i=zs[i]::zs.drop (i+1):=kk G;refine⟨⟨i+1,_,rfl,I,ab,aW,λj=>(aS j).trans (O j),(R.ext J).ah P.ah λq o hf=>Z q hf o,λf hf A=>?_,λz t=>?_,λq o N=>?_⟩,by show((zs.length:Int)-((i+1:Nat):Int)).toNat<((zs.length:Int)-(i:Int)).toNat;omega⟩
   .have hf:f∈g.ao.set k {g.ao[k] with fY:=false}:=hf
    obtain⟨b,T,rfl⟩:=fF hf;have ac:b<g.ao.length:=by simpa using T
    by_cases e:k=b
    .subst e
     simp[Fr.g7]at A
    .simp only[fH e]at A⊢
     have F:=Y _ (cW ac) A;rw[aY]at F;rcases de.1 F with U|U
     .unfold Fr.g7 at A
      rw[dh]at A;exact absurd (p.inv.un k b H ac aw A.1 (by rw[ax,U])) e
     .exact U
   .obtain⟨f,f1,f2,f3⟩:=hex z t
    obtain⟨b,T,rfl⟩:=fF f1;by_cases e:k=b
    .subst e
     exact⟨{g.ao[k] with fY:=false},List.mem_set H _,f2,f3⟩
    .exact⟨g.ao[b],tX.2 ⟨b,by show b<(g.ao.set k _).length;rw[dJ];exact T,by show(g.ao.set k _)[b]'_=_;rw[fH e]⟩,f2,f3⟩
   .rcases P.c7 q o with F|F
    .exact Z q F N
    .have:=R.lt q N;omega
 .have G:i=zs.length:=by
   have:¬(i:Int)<(s.len:Int):=cw au;omega
  have S:∀f∈g.ao,f.g7=false:=λf hf=>by
   cases A:f.g7 with
   |false=>rfl
   |true=>
    have:=Y f hf A;rw[G,List.drop_length]at this
    cases this
  have ad:g.D.cu.getD 3 0=C.D.cu.getD 3 0:=congrArg Prod.snd l.bT;rw[←l.c];refine⟨_,rfl,_,p.raw.cells.1,(z_ p.raw.dev I).use ?_⟩;have aP:=l.ah.size;rintro v2 aj (⟨y,rfl,E,r⟩|⟨y,rfl,E,r⟩)
  .obtain⟨hE,eB⟩:=Aa p E rfl (p.inv.cJ 3) (λj=>tp g.D 3 j) (r.mono λq _ e=>.inl e) λq o=>.inl o
   refine⟨3,rfl,{g with D:=g.D.cJ 3},hE,l.c,l.d,l.len,l.n,l.n4,l.r1,by show g.D.aV<=_;omega,λm K=>tB _ (l.calm m (gB K I)),c3 l.ah r λq o e=>(l.c7 q (.inr (.inr (.inl e)))).resolve_right I,l.c7,λj=>(eB j).trans (O j),.inr ⟨rfl,congrArg (λk=>k.1.1) l.bT,.inr ?_⟩⟩;unfold bm.gv at y⊢;rw[←ad];exact y
  .have ak:∀q,cA (g.D.cJ 3).jx q->cA g.D q\/Q.heap.size<=q:=by
    rintro q (e|e|e|⟨x,hx,e⟩)
    .exact .inl (.inl e)
    .exact .inl (.inr (.inl e))
    .exact .inl (.inr (.inr (.inl e)))
    .cases hx
   have aZ:∀j,(g.D.cJ 3).jx.now j=g.D.now j:=λj=>by
    by_cases L:j<g.D.n
    .exact(z8 (g.D.cJ 3) L).trans (tp g.D 3 j)
    .have F:g.D.jx.now j=g.D.now j:=Ee p.raw.dev j
     exact F
   obtain⟨hE,eB⟩:=Aa p E rfl ⟨tA (g.D.cJ 3),λ_ h=>h,λj L=>by
    have L:g.D.bZ j=true:=L;have e:g.D.eK j=[]:=by rw[l.n4.2];exact al j (by rw[←l.n4.1];exact L)
    exact e.symm⟩ aZ r ak
   refine⟨0,rfl,{g with D:=(g.D.cJ 3).jx},hE,l.c,l.d,l.len,(tA (g.D.cJ 3)).trans l.n,l.n4,l.r1,by show g.D.aV<=_;omega,λm K=>tB g.D (l.calm m (gB K I)),c3 l.ah r λq o e=>(l.c7 q (.inr (.inr e))).resolve_right I,λq o=>?_,λj=>(eB j).trans (O j),.inl ⟨rfl,rfl,S,?_⟩⟩
   .rcases o with e|e|e
    .exact l.c7 q (.inl e)
    .exact l.c7 q (.inr (.inl e))
    .rcases ak q e with e|e
     .exact l.c7 q (.inr (.inr e))
     .exact .inr I
   .show(g.D.cu.set 3 _).getD 3 0=_
    have a9:=p.raw.dev.f4;rw[fu (by rw[dJ];omega),iO,ad]
end
def hW(ba d c sb:Nat)(l:fj)(u:e1)(gen now first pending keys:Nat)(failed:al):O Y:=
 [.pointer (some ba),.pointer (some d),.pointer (some c),.pointer (some sb),l.ao,l.batch,.int .u64 (l.jo:Nat),
  u.root,u.aN,u.map,.int .u64 (u.clock:Nat),.int .u64 (u.dA:Nat),u.keys,
  .int .u64 (gen:Nat),.int .u64 (now:Nat),.int .u64 (first:Nat),pending,keys,failed]
section
variable {w w':J}{D:bm}
structure Ef(D:bm)(l:fj)(u:e1)(gen sb:Nat)(w:J)(v:Y)(w':J)(c a6 ba st:Nat):Prop where
 val:v=.tuple #[.pointer (some st),(0:Int)]
 ca:er (λ_=>False) w' (mf c a6 l.ao D)
 c2:Var w' ba [.pointer (some c),.pointer (some sb),.int .u64 ((gen+1:Nat):Int),u.root,u.aN] 239
 sv:Var w' st (hW ba D.d c sb l u gen u.clock 0 0 u.keys false) 158
 x:Ext w w'
 hc:w.heap.size<=c/\c<ba
 hf:w.heap.size<=a6/\a6<ba
 ht:ba<st
def bm.g1(D:bm)(s:Nat->al)(z:Nat->O du):bm:={D with bZ:=s,eK:=z}
theorem dz.g1(h:dz w D)(s:Nat->al)(z:Nat->O du):dz w (D.g1 s z):=⟨h.v,h.l,h.m,h.ws,h.wn,h.sl,h.nY,h.bW,h.bz,h.f4,h.fr,h.a1,h.a2,h.a3,h.r⟩
theorem oZ(h:dz w D){l:fj}(q:8<=l.ao/\l.ao<=64){u:e1}(hu:rA D.n (u.root:Nat) (u.aN:Nat)){gen:Nat}(hg:gen+1<18446744073709551616)(s:∀j,D.bZ j=true->D.ey j=D.eK j)(sb:Nat):
 aK ai 78 #[.pointer (some D.d),.agg l.c.toArray,.agg u.c.toArray,.int .u64 (gen:Nat),.pointer (some sb)] w (λv w'=>∃c a6 ba st,Ef D l u gen sb w v w' c a6 ba st):=by
 refine ae.F5 _ (l.ao:Nat) (l.batch:Nat) (l.jo:Nat) (u.root:Nat) (u.aN:Nat) (u.map:Nat) (u.clock:Nat) (u.dA:Nat) (u.keys:Nat) (gen:Nat) (some sb) w _ ?_;(delta ae.oZ aF aa jn an b5;dsimp only);refine bc (vs:=l.c) rfl λw1 t i H=>bc (vs:=u.c) rfl λaj x b J=>?_;have r:=t.ext b;have y:=h.ext (i.trans b);refine⟨_,r.cell,(qA y q.1 q.2 s).use ?_⟩;rintro _ a ⟨c,a6,rfl,e,f,K,L⟩;have k:=x.ext f;have z:IntKind.wrap .u64 ((gen:Int)+1)=((gen+1:Nat):Int):=by rw[gq I I];omega
 rw[z];have M:(mf c a6 l.ao D).D=D:=rfl;refine⟨_,0,rfl,λh=>(by cases h),λ_=>⟨_,k.cell,_,by rw[az];exact k.cell,(o2 e.raw sb ((gen+1:Nat):Int) (u.root:Nat) (u.aN:Nat)).use ?_⟩⟩;rintro _ A (⟨_,rfl,g,B,N⟩|⟨C,_⟩)
 rotate_left
 .exact absurd hu C
 have m:=k.ext g;have o:=(r.ext f).ext g;have O:=(i.trans b).size;have P:=f.size;have E:c<a.heap.size:=e.raw.lt (.inl rfl);have F:a6<a.heap.size:=e.raw.lt (.inr (.inl rfl));refine⟨_,0,rfl,λh=>(by cases h),λ_=>⟨_,o.cell,_,by rw[az];exact o.cell,_,by rw[az];exact o.cell,rn m ⟨_,by rw[az];exact m.cell,_,by rw[az];exact m.cell,(hW a.heap.size D.d c sb l u gen u.clock 0 0 u.keys false).toArray,by kernel_rfl,bc (vs:=hW a.heap.size D.d c sb l u gen u.clock 0 0 u.keys false) rfl λQ G p R=>?_⟩⟩⟩;exact⟨c,a6,a.heap.size,A.heap.size,rfl,(e.ext g).ext p,B.ext p,G,Ext.trans (Ext.trans (i.trans b) f) (Ext.trans g p),⟨I,E⟩,⟨I,F⟩,I⟩
def jf(f:Nat->al)(k:Nat):O UInt8:=(List.range k).map λi=>UInt8.ofNat (byteOf f i)
theorem Eg(f:Nat->al)(k:Nat):aD (jf f k)=fg f k:=by
 unfold aD jf fg;rw[oh];refine List.map_congr_left λi _=>?_;have:=k2 f i;show Value.int .u8 (((UInt8.ofNat (byteOf f i)).toNat:Nat):Int)=_;rw[oy,kl this]
theorem xq(f:Nat->al)(k:Nat):(jf f k).length=k:=by simp[jf]
def jS:e1:=⟨0,0,2,0,0,0⟩
structure Eh(D aC:bm):Prop where
 d:aC.d=D.d
 n:aC.n=D.n
 now:∀j,aC.now j=if j=1 then eN 1 (ju jS D.n 1) else if j=2 then eN 2 ⟨4,1,jf (λi=>decide (i<3)) ((D.n+7)/8)⟩ else if j=0 then il else D.now j
 waits:aC.waits=[]
 aV:aC.aV=D.aV+4
 calm:∀k,aC.calm k
 cu:aC.cu.getD 3 0= -1
 bZ:aC.bZ=λi=>decide (i<3)
 eK:aC.eK=λ_=> []
 r:aC.r1=D.r1
structure Ke(D:bm)(l:fj)(w:J)(v:Y)(w':J)(aC:bm)(sb:Nat)(s1 s2:ad)(c a6 ba st:Nat)(kF:J):Prop where
 Ei:Ef aC l jS 1 sb kF v w' c a6 ba st
 sp:fh w' sb D.n (λi=>decide (i<3)) (λi=>decide (i<3)) s1 s2
 qV:Eh D aC
 ah:af (cA D) w kF
 tC:∀q,fX sb s1 s2 q->w.heap.size<=q/\q<kF.heap.size
 dq:∀q,cA aC q->cA D q\/(w.heap.size<=q/\q<kF.heap.size)
 Kf:∀q,fX sb s1 s2 q->¬cA aC q
theorem oX(h:dz w D){l:fj}(ap:pQ (l.ao:Nat) (l.batch:Nat) (l.jo:Nat))(bh:∀k,D.calm k)(q9:D.cu.getD 3 0= -1)(b1:D.aV<=999999000):
 aK ai 19 #[.pointer (some ⟨D.d,0,none⟩),.agg l.c.toArray] w (λv w'=>∃aC sb s1 s2 c a6 ba st kF,Ke D l w v w' aC sb s1 s2 c a6 ba st kF):=by
 have b2:=h.bW;have b3:=h.bz;refine ae.FY _ (l.ao:Nat) (l.batch:Nat) (l.jo:Nat) w _ ?_;(delta ae.oX aF aa b5 b8 an bS jn bK ed kV ar kt;dsimp only);refine bc (vs:=l.c) rfl λw1 Q J b4=>⟨_,Q.cell,_,by rw[az];exact Q.cell,_,by rw[az];exact Q.cell,(qv w1 _ _ _ _).use ?_⟩;rintro _ bi ⟨rfl,C⟩;have bj:=h.ext (J.trans C);refine⟨_,rfl,λr=>?_,λ_=>(w7 bj).use ?_⟩
 .rw[dD ap]at r;cases r
 rintro _ _ ⟨rfl,rfl⟩;refine⟨_,rfl,(qw bi (D.n:Nat) 3).use ?_⟩;rintro _ b6 (⟨bk,_⟩|⟨_,_,_,_,sb,s1,s2,rfl,hs,Y,Z⟩)
 .exact absurd ⟨I,I,I,I⟩ bk
 rw[di]at hs;have ab:Int.toNat 3=3:=rfl;rw[ab]at hs;refine⟨_,0,rfl,λh=>(by cases h),λ_=>(Dm hs).use ?_⟩;rintro _ bl ⟨aN,rfl,aO,K,b7⟩;rw[←Eg]at aO;obtain⟨mp,R⟩:∃mp:jL,mp=⟨4,1,jf (λi=>decide (i<3)) ((D.n+7)/8)⟩:=⟨_,rfl⟩;have aP:nT mp:=by rw[R];exact⟨(by decide:1<=4),(by decide:4<=4),(by decide:1<18446744073709551616),by show(jf _ _).length<=232;rw[xq];omega⟩
 have aQ:=wV (s:=aN) (p:=mp) (no:=2) (w:=bl) (by rw[R];exact aO.src) (by decide) aP;rw[R]at aQ;refine⟨aN,rfl,aQ.use ?_⟩;rw[←R];rintro _ bn ⟨F,rfl,aR,N,bo⟩;have aS:=Ext.trans (Ext.trans (J.trans C) Y) (Ext.trans K N);have b9:=aS.size;refine⟨F,0,rfl,λh=>(by cases h),λ_=>⟨⟨I,I,I,I⟩,?_⟩⟩;rw[y_];have bp:Int.toNat 256=256:=rfl;rw[bp];have au:il.length=256:=mw;refine bc (vs:=aD il) rfl λB S G b_=>?_;obtain⟨y,bq⟩:∃y,y=bn.heap.size:=⟨_,rfl⟩;rw[←bq]at S⊢;have ac:=Ext.trans aS G;have aT:Src 1 B ⟨some ⟨y,0,none⟩,256,256⟩ (aD il):=S.qY (o:=0) (n:=256) (c:=256) (l:=il) (by rw[dm,au];exact bt _) (by rw[iN,dr (by rw[dm,au];exact bt _)]);refine⟨#[.slice (some ⟨y,0,none⟩) 256 256,.slice (some ⟨y,0,none⟩) 256 256,.slice F.a F.len F.cap],by kernel_rfl,?_⟩;have br:(eN 2 mp).length=256:=s8 _ aP;obtain⟨vals,av⟩:∃vals:Nat->du,vals=λj=>if j=2 then eN 2 mp else il:=⟨_,rfl⟩
 have bs:∀j,(vals j).length=256:=λj=>by
  rw[av];show(if j=2 then _ else _:du).length=256;split
  .exact br
  .exact au
 have bu:∀k,k<3->∃H:ad,cellAt #[.slice (some ⟨y,0,none⟩) 256 256,.slice (some ⟨y,0,none⟩) 256 256,.slice F.a F.len F.cap] (Int.toNat ((k:Nat):Int)*1)=some (.slice H.a H.len H.cap)/\Src 1 B H (aD (vals k))/\∀q,aE H q->w.heap.size<=q/\q<B.heap.size:=by
  intro k aU;have bv:=S.lt;have ca:=G.size;rw[av];have hi:∀q,aE (⟨some ⟨y,0,none⟩,256,256⟩:ad) q->w.heap.size<=q/\q<B.heap.size:=λq b=>by
   obtain⟨A,aq,rfl⟩:=b
   cases aq;show w.heap.size<=y/\y<_;exact⟨I,bv⟩
  have cb:=(Ext.trans (Ext.trans (J.trans C) Y) K).size
  match k,aU with
  |0,_=>exact⟨⟨some ⟨y,0,none⟩,256,256⟩,rfl,aT,hi⟩
  |1,_=>exact⟨⟨some ⟨y,0,none⟩,256,256⟩,rfl,aT,hi⟩
  |2,_=>exact⟨F,rfl,aR.src.ext G,λq b=>by have:=bo q b;have:=aR.lt q b;omega⟩
 have bw:=h.ext ac;refine⟨λn w'=>∃ (k:Nat) (g:bm),n=(k:Int)/\k<=3/\dz w' g/\g.d=D.d/\g.n=D.n/\(∀j,g.now j=if j<k then vals j else D.now j)/\g.aV=D.aV+k/\(∀m,g.calm m)/\(g.cu.getD 3 0= -1/\g.r1=D.r1)/\af (cA D) B w'/\(∀q,cA g q->cA D q\/B.heap.size<=q),
  λn _=>((3:Int)-n).toNat,⟨0,D,rfl,cR _,bw,rfl,rfl,λj=>rfl,rfl,bh,⟨q9,rfl⟩,.refl _ _,λq b=>.inl b⟩,?_⟩
 rintro _ cc ⟨k,g,rfl,aU,O,ag,aW,aX,bx,aw,⟨ax,aY⟩,aj,L⟩;have cd:=aj.size;refine⟨λaJ=>?_,λbA=>?_⟩
 .have ay:k<3:=by
   have:((k:Nat):Int)<3:=cl aJ;omega
  obtain⟨H,bC,bD,aZ⟩:=bu k ay;have eD:∀q,aE H q->¬cA D q:=λq b hf=>by have:=(aZ q b).1;have:=h.lt hf;omega
  have a0:=w8 O (i:=k) I I (bD.ah aj eD) (bs k) λq b hf=>by
   rcases L q hf with h1|h1
   .exact eD q b h1
   .have:=(aZ q b).2;omega
  rw[ag]at a0;refine⟨⟨I,I⟩,H,bC,a0.use ?_⟩;rintro _ ce (⟨r,_⟩|⟨r,rfl,s,bE,bF,bG⟩)
  .have:=(j_ (k:=2) (m:=0) (.inr rfl) O.f4 (aw 1)).2
   rw[r]at this;cases this
  refine⟨0,rfl,λh=>(by cases h),λ_=>?_⟩;have bH:IntKind.wrap .i64 (((k:Nat):Int)+1)=((k+1:Nat):Int):=by rw[bB I I];omega
  rw[bH];refine⟨⟨k+1,_,rfl,I,bE,ag,aW,λj=>?_,by show g.aV+1=_;omega,λm=>(j_ (.inr rfl) O.f4 (aw _)).1,⟨(congrArg Prod.snd (ri g (.inr rfl))).trans ax,aY⟩,c3 aj bF λq b hf=>(L q hf).resolve_right I,λq b=>?_⟩,by show((3:Int)-((k+1:Nat):Int)).toNat<((3:Int)-((k:Nat):Int)).toNat;omega⟩
  .rw[pH,aX]
   by_cases e:j=k
   .rw[if_pos e,if_pos I,e]
   .rw[if_neg e]
    by_cases T:j<k
    .rw[if_pos T,if_pos I]
    .rw[if_neg T,if_neg I]
  .rcases xp bG q b with h1|h1
   .exact L q h1
   .exact .inr I
 have ay:k=3:=by
  have:¬((k:Nat):Int)<3:=cw bA;omega
 subst ay;have hf:=z_ O I;rw[ag]at hf;refine hf.use ?_;rintro _ a1 (⟨r,_⟩|⟨_,rfl,aA,bI⟩)
 .unfold bm.gv at r
  rw[ax]at r;cases r
 obtain⟨cx,E⟩:∃cx,cx=(g.cJ 3).jx:=⟨_,rfl⟩;rw[←E]at aA;have a2:cx.d=D.d:=by rw[E];exact ag
 have a3:cx.n=D.n:=by rw[E];exact(tA _).trans aW
 have bJ:cx.r1=D.r1:=by rw[E];exact aY
 have bL:∀j,cx.now j=if j<3 then vals j else D.now j:=λj=>by
  rw[←aX,E];have aB:g.jx.now j=g.now j:=Ee O j;exact aB
 have cf:cx.aV=D.aV+3:=by rw[E];exact bx
 have a4:∀m,cx.calm m:=λm=>by rw[E];exact tB _ (aw m)
 have a5:cx.cu.getD 3 0= -1:=by
  rw[E];show(g.cu.set 3 _).getD 3 0=_;have bM:=O.f4;rw[fu (by rw[dJ];omega),iO,ax];rfl
 have ak:∀q,cA cx q->cA D q\/B.heap.size<=q:=λq b=>by
  rw[E]at b;rcases b with e|e|e|⟨x,hx,e⟩
  .exact L q (.inl e)
  .exact L q (.inr (.inl e))
  .exact L q (.inr (.inr (.inl e)))
  .cases hx
 have al:af (cA D) B a1:=c3 aj bI λq b hf=>(L q hf).resolve_right I;have U:∀q,w.heap.size<=q->¬cA D q:=λq b hf=>by have:=h.lt hf;omega
 have bN:=((Q.ext (C.trans (Ext.trans Y (Ext.trans K (Ext.trans N G))))).ah al (U _ (bt _)));have bO:=(hs.ext (Ext.trans K (Ext.trans N G))).ah al λq b=>U q (by have:=Z q b;have:=(J.trans C).size;omega);refine⟨0,rfl,λh=>(by cases h),λ_=>bc (vs:=C3.c) rfl λcg bP bQ ch=>C6 bP rfl jS λbR a7 bU ci=>rn a7 ?_⟩;have V:Ext a1 bR:=Ext.cD bQ bU (bt _);have W:=aA.ext V;have a8:=nH W I (u:=jS) ⟨(by decide:0<4294967296),(by decide:0<256),(by decide:2<4294967296),(by decide:0<18446744073709551616),(by decide:0<18446744073709551616),(by decide:0<4294967296)⟩ (gen:=1) (by decide);rw[a2]at a8;refine a8.use ?_;have cj:=V.size;have ck:=al.size;rintro _ a9 ⟨am,⟨r,_⟩|⟨_,s,bV,f,z,⟨r,_⟩|⟨_,rfl,X⟩⟩⟩
 .have:=(j_ (k:=2) (m:=0) (.inr rfl) W.f4 (a4 1)).2
  rw[r]at this;cases this
 .have aG:f.cu.getD 3 0= -1:=by rw[z];exact(congrArg Prod.snd (ri cx (.inr rfl))).trans a5
  unfold bm.gv at r;rw[aG]at r;cases r
 have aG:f.cu.getD 3 0= -1:=by rw[z];exact(congrArg Prod.snd (ri cx (.inr rfl))).trans a5
 obtain⟨M,t⟩:∃M,M=((f.cJ 3).jx).g1 (λi=>decide (i<3)) (λ_=> []):=⟨_,rfl⟩;have X:=X.g1 (λi=>decide (i<3)) (λ_=> []);rw[←t]at X;have bX:∀x∈f.waits,x.i<f.n:=λx hx=>by
  rw[z]at hx⊢;rcases de.1 hx with rfl|hx
  .show 1%2<cx.n;omega
  .exact(W.wn x (fU.1 hx).1).2.1
 have bY:∀j,M.now j=if j=1 then eN 1 (ju jS D.n 1) else if j<3 then vals j else D.now j:=λj=>by
  have aB:M.now j=f.now j:=by
   rw[t];by_cases a_:j<f.n
   .exact(z8 (f.cJ 3) a_).trans (tp f 3 j)
   .have P:f.now j=[]:=by
     unfold bm.now
     cases hf:f.waits.find? λx=>x.i==j with
     |some x=>
      have hx:=j0 hf;have he:x.i=j:=by simpa using kO hf
      have:=bX x hx;omega
     |none=>
      have:¬j<f.bT.length:=a_;show f.bT.getD j []=[];rw[gd,oz I];rfl
    rw[P];show((List.range (f.cJ 3).n).map (f.cJ 3).now).getD j []=[];rw[gd,oz (by simp;show f.n<=j;omega)];rfl
  rw[aB,z,pH,bL,a3]
 have aH:Eh D M:=by
  refine⟨by rw[t,z];exact a2,by rw[t];exact(tA (f.cJ 3)).trans (by rw[z];exact a3),λj=>?_,by rw[t];rfl,by rw[t,z];show cx.aV+1=_;omega,λm=>by rw[t,z];exact tB (cx.put (1%2) s (eN (1%2) (ju jS cx.n 1))) (j_ (.inr rfl) W.f4 (a4 _)).1,?_,by rw[t];rfl,by rw[t];rfl,by rw[t,z];exact bJ⟩
  .rw[bY,av,←R]
   by_cases P:j=1
   .rw[if_pos P,if_pos P]
   .rw[if_neg P,if_neg P]
    by_cases T:j=2
    .subst T;rfl
    .by_cases ab:j=0
     .subst ab;rfl
     .rw[if_neg I,if_neg T,if_neg ab]
  .rw[t]
   show(f.cu.set 3 _).getD 3 0=_;have bM:f.cu.length=4:=by rw[z];show(cx.cu.set 2 _).length=4;rw[dJ];exact W.f4
   rw[fu (by rw[dJ];omega),iO,aG];rfl
 have bb:∀q,cA M q->cA D q\/B.heap.size<=q:=λq b=>by
  rw[t]at b;have h1:cA f q:=by
   rcases b with e|e|e|⟨x,hx,e⟩
   .exact .inl e
   .exact .inr (.inl e)
   .exact .inr (.inr (.inl e))
   .cases hx
  rw[z]at h1;rcases xp bV q h1 with h2|h2
  .exact ak q h2
  .exact .inr I
 have bd:af (cA D) B a9:=c3 (c3 al V λq _ h=>h.elim) am λq b hf=>(ak q hf).resolve_right I;have aI:=(bN.ext V).ah am λhf=>by
  rcases ak _ hf with h1|h1
  .exact U _ (bt _) h1
  .have:=ac.size;have:=S.lt;have:=Q.lt;have:=C.size;have:=Y.size;have:=K.size;have:=N.size;have:=G.size;omega
 have bZ:=a7.ah am λhf=>by
  have:=aA.lt hf;omega
 have be:=(bO.ext V).ah am λq b hf=>by
  have bf:=Z q b;have aL:=(hs.ext (Ext.trans K (Ext.trans N (af.refl _ _)))).lt q b;rcases ak _ hf with h1|h1
  .exact U q (by have:=(J.trans C).size;omega) h1
  .have:=G.size;omega
 have cm:=bd.size;have S:=ac.size;have bg:=oZ X (l:=l) (u:=jS) (gen:=1) ⟨by have:=ap.1;omega,by have:=ap.2.1;omega⟩ ⟨by decide,by decide,by decide,by rw[aH.n];show(0:Int)<_;omega,by decide⟩ (by decide) (λj _=>by rw[t];rfl) sb;rw[aH.d]at bg;refine⟨0,rfl,λh=>(by cases h),λ_=>⟨_,aI.cell,_,by rw[az];exact aI.cell,_,by rw[az];exact aI.cell,rn bZ (bg.use ?_)⟩⟩;rintro _ cn ⟨c,a6,ba,st,aM⟩;have b0:=aM.val;subst b0;refine⟨_,0,rfl,M,sb,s1,s2,c,a6,ba,st,a9,aM,be.ext aM.x,aH,c3 (ac.mono λ_ _ h=>h.elim) bd λq _ h=>h,λq b=>?_,λq b=>?_,λq b hf=>?_⟩
 .have bf:=Z q b
  have aL:=be.lt q b;have:=(J.trans C).size;exact⟨I,aL⟩
 .rcases bb q b with h1|h1
  .exact .inl h1
  .exact .inr ⟨I,X.lt b⟩
 .have bf:=Z q b
  have aL:=(hs.ext (Ext.trans K (Ext.trans N (af.refl _ _)))).lt q b;rcases bb _ hf with h1|h1
  .exact U q (by have:=(J.trans C).size;omega) h1
  .have:=G.size;omega
end
theorem pr{b d:Nat}(k:b<256)(hd:d<256)(w:J):aK ai 20 #[.int .u8 (b:Nat),.int .u8 (d:Nat)] w (λv w'=>v=.agg (fj.c ⟨8,1+b%12,1+d%12⟩).toArray/\Ext w w'):=by
 refine ae.GJ _ _ w _ ?_;(delta ae.pr aa ar aF b5;dsimp only);have g:IntKind.wrap .i64 (1+IntKind.wrap .i64 (Int.tmod (b:Int) 12))=((1+b%12:Nat):Int):=by
  rw[og I,bB (n:=(b:Int)%12) I I,bB I I];omega
 have h:IntKind.wrap .u64 (1+IntKind.wrap .u64 (Int.tmod (d:Int) 12))=((1+d%12:Nat):Int):=by
  rw[og I,gq (n:=(d:Int)%12) I I,gq I I];omega
 rw[g,h];refine bc (vs:=[(0:Int),(0:Int),.int .u64 0]) rfl λw1 e i l=>⟨by decide,by decide,e.b3 rfl (λv f=>?_),rfl,cp e (us:=fj.c ⟨8,1+b%12,1+d%12⟩) rfl rfl λaj a j m=>⟨_,a.cell,_,by rw[az];exact a.cell,_,by rw[az];exact a.cell,rfl,Ext.cD i j (bt _)⟩⟩;simp only[de,fG,fQ]at f;rcases f with rfl|rfl|rfl<;>trivial
theorem Kg(n k:Nat):bL n (k+1)=UInt8.ofNat (n/256^k%256)::bL n k:=by
 unfold bL;rw[List.range_succ_eq_map,g2,oh]
 congr 1
 apply List.map_congr_left;intro j a;have:=kj.1 a;show UInt8.ofNat (n/256^(k+1-1-(j+1))%256)=_;rw[show k+1-1-(j+1)=k-1-j from I]
theorem nN(w:J){n k:Nat}(t:n<18446744073709551616)(u:k<=8):aK ai 269 #[.int .u64 (n:Nat),k] w (λv w'=>∃s:ad,v=s/\aT 1 5 w' s (aD (bL n k))/\Ext w w'/\gO w s):=by
 refine ae.GG _ _ w _ ?_;delta ae.nN aa an ar;have x:=pA w (.cells #[] 5);refine aX ⟨λm s j w'=>∃i:Nat,i<=k/\j=(i:Int)/\m=((n/256^i:Nat):Int)/\aT 1 5 w' s (aD (bL n i))/\Ext w w'/\gO w s,λ_ _ j _=>((k:Int)-j).toNat,⟨0,cR _,rfl,by rw[Nat.pow_zero,Nat.div_one],aT.new w [] 0 rfl (by decide),c8 _ _,λq a=>by have:=jl.1 a;have:w.heap.size=q:=this;omega⟩,?_⟩;rintro _ s _ b ⟨i,hi,rfl,rfl,c,hx,hf⟩;refine⟨λh=>?_,λh=>?_⟩
 .simp only[dh,b_]at h
  have d:n/256^i<=n:=Nat.div_le_self _ _;have f:IntKind.wrap .u8 (Int.tmod ((n/256^i:Nat):Int) 256)=(((UInt8.ofNat (n/256^i%256)).toNat:Nat):Int):=by
   generalize n/256^i=m;rw[og I,uG I I,qU (hZ _ I)];omega
  have g:IntKind.wrap .u64 (Int.tdiv ((n/256^i:Nat):Int) 256)=((n/256^(i+1):Nat):Int):=by
   rw[Nat.pow_succ,←Nat.div_div_eq_div_mul]
   revert d
   generalize n/256^i=m;intro d;rw[xD I,gq I I];omega
  rw[f,g,lQ I];have l:=mb c;rw[dH]at l;have y:=pA b (.cells (aD [UInt8.ofNat (n/256^i%256)]).toArray 5);obtain⟨o,w',aw,ax,z,p,r⟩:=Dh.append (cC:=48) (c.src.alloc _) (aT.new b (aD [UInt8.ofNat (n/256^i%256)]) 1 rfl (by decide)) (iG _) (by show(2*(1+s.len)+1000)*1<=_;omega);rw[←mU,List.singleton_append,←Kg]at ax;refine⟨by decide,aX ⟨o,w',aw,by decide,⟨i+1,I,rfl,rfl,ax,c3 hx (c3 (c8 b _) p λq a c=>by have:=jl.1 c;have:b.heap.size=q:=this;have:=hx.size;omega) λq a e=>e,λq a=>?_⟩,by show((k:Int)-((i+1:Nat):Int)).toNat<((k:Int)-(i:Int)).toNat;omega⟩⟩;have:=hx.size;rcases r q a with h1|h1
  .have:=jl.1 h1
   have:b.heap.size=q:=this;omega
  .omega
 .simp only[Bool.and_eq_false_iff,jX]at h
  have:i=k:=by omega
  subst this;exact⟨s,rfl,c,hx,hf⟩
theorem Ej(w:J)(p:bl)(s:Int):Sem.run ai (Instr.build 29 #[(0,s),(1,.agg p.c.toArray)]) w=.ok (.agg (aB.mk s p 0 0).c.toArray) w:=by
 obtain⟨⟨ej,l,h⟩,n⟩:=p;obtain⟨bU,a,b,d,e,f,g,i,j,k,m,o,q,r,t,u,rfl⟩:=sZ l h
 kernel_rfl
def m8(s:Int)(p:bl):O UInt8:=if db s p=true then eE s.toNat p else []
theorem pn(s:Int)(p:bl)(w:J):aK ai 224 #[s,.agg p.c.toArray] w (λv w'=>∃t:ad,v=t/\aT 1 5 w' t (aD (m8 s p))/\Ext w w'/\∀q,aE t q->w.heap.size<=q):=by
 refine ae.GF s _ w _ ?_;(delta ae.pn aa b8 an aY aF bK yv;dsimp only);refine bc (vs:=p.c) rfl λw1 G Z ap=>⟨p.c,G.rd (bl.bd _),_,Ej w1 p s,(mR ⟨s,p,0,0⟩ w1).use ?_⟩;rintro _ l ⟨rfl,H⟩;have ab:(aB.mk s p 0 0).dZ=db s p:=by unfold aB.dZ;rw[show fM (aB.mk s p 0 0).b=true from rfl,pY]
 rw[ab];have B:=Z.trans H;have K:=G.ext H;have aq:=B.size;refine⟨_,rfl,λh=>?_,λh=>?_⟩
 .have hg:db s p=false:=by simpa using h
  refine aX ⟨⟨some l.heap.size,0,0⟩,rfl,?_,B.trans (c8 _ _),λq d=>?_⟩
  .unfold m8
   rw[if_neg (by rw[hg];decide)];exact aT.new (T:=5) l [] 0 rfl (by decide)
  .have:l.heap.size=q:=jl.1 d
   omega
 have hg:db s p=true:=by simpa using h
 have C:=hg;unfold db at C;rw[dh,b_]at C;obtain⟨ac,ag⟩:=C;obtain⟨k,rfl,ar⟩:=nW ag;have au:=ta ac;have ah:IntKind.wrap .u8 p.bits=(((UInt8.ofNat p.bits.toNat).toNat:Nat):Int):=by
  rw[oy];show p.bits%256=_;omega
 refine cq (λn w'=>n=(((iJ p).toNat:Nat):Int)/\l=w') (λq d=>⟨_,CC K,λh=>d _ _ ⟨by unfold iJ;rw[if_pos h];rfl,rfl⟩,λh=>d _ _ ⟨by unfold iJ;rw[if_neg (by rw[h];decide)];rfl,rfl⟩⟩) ?_;rintro _ _ ⟨rfl,rfl⟩;have L:=cE l;have u:=K.ext L;have D:=B.trans L;refine aX ?_;generalize l.drew=f at u D;have av:=D.size;have ay:=u.lt;refine⟨λq=>f.heap.size<=q,by rw[az];show¬f.heap.size<=w.heap.size;omega,_,zc u,by show¬f.heap.size<=w.heap.size;omega,_,zb u,?_⟩;rw[ah,gq (n:=(k:Int)) I I];have lit:∀ (w':J),Src 1 (w'.alloc (.cells #[.int .u8 (((iJ p).toNat:Nat):Int),.int .u8 (((UInt8.ofNat p.bits.toNat).toNat:Nat):Int)] 5)) ⟨some w'.heap.size,2,2⟩ (aD [iJ p,UInt8.ofNat p.bits.toNat]):=λw'=>Src.new (T:=5) w' (aD [iJ p,UInt8.ofNat p.bits.toNat]) 2 rfl;have aA:=wE p.addr
 have fin:∀ (aj:J) (g:ad),Ext f aj->aT 1 5 aj g (aD (bL k 2)++aD [iJ p,UInt8.ofNat p.bits.toNat])->(∀q,aE g q->f.heap.size<=q)->Calls ai 270 #[.agg p.addr.c.toArray] aj λak M=>
  ∃m:ad,ak=.returned m/\∃i:ad,∃o:J,Sem.run ai (
   Builtin.append_ #[48,48] 48 #[g,m])
  M=.ok i o/\∃t:ad,Value.slice i.a i.len i.cap=t/\aT 1 5 o t (aD (m8 (k:Nat) p))/\Ext w o/\∀q,aE t q->w.heap.size<=q:=λaj g N O P=>by
  refine(po p.addr aj).use ?_;rintro _ M ⟨m,rfl,al,aC,E⟩;have aG:g.len=4:=by have:=O.1;rw[cG,dm,dm,dH]at this;simp at this;omega
  obtain⟨i,o,aw,ax,Q,j,r⟩:=lG.append (cC:=48) al.src (O.ext E) (iG _) (by show(2*(g.len+m.len)+1000)*1<=_;omega);have aH:=N.size;have aI:=E.size;refine⟨m,rfl,i,o,aw,i,rfl,?_,Ext.df (D.trans (N.trans E)) j (λq d=>by have:=P q d;omega),λq d=>?_⟩
  .unfold m8
   rw[if_pos hg];have e:aD (bL k 2)++aD [iJ p,UInt8.ofNat p.bits.toNat]++aD p.addr.raw=aD (eE (Int.toNat (k:Nat)) p):=by
    rw[di];unfold eE aD;rw[gb,gb,cM]
   rw[←e];exact ax
  .rcases r q d with h1|h1
   .have:=P q h1;omega
   .omega
 have x:∀ {a b:J},Ext a b->af (λq=>f.heap.size<=q) a b:=λh=>h.mono λ_ _ h=>h.elim;refine⟨(nN f (n:=k) (k:=2) I I).use ?_,aX ⟨x (c8 _ _),(nN _ (n:=k) (k:=2) I I).use ?_⟩⟩
 .rintro _ R ⟨y,rfl,S,F,am⟩
  have aJ:y.len=2:=by have:=S.1;rw[dm,dH]at this;omega
  obtain⟨g,U,aw,ax,Q,j,r⟩:=lG.append (cC:=48) (lit R) (S.ext (c8 _ _)) (iG _) (by show(2*(y.len+2)+1000)*1<=_;omega);have aL:=F.size;have V:=(c8 R (.cells #[.int .u8 (((iJ p).toNat:Nat):Int),.int .u8 (((UInt8.ofNat p.bits.toNat).toNat:Nat):Int)] 5)).size;have hf:∀q,aE y q->f.heap.size<=q:=am;exact⟨y,rfl,x F,aX ⟨x (c8 _ _),g,U,aw,j.mono λq _ d=>hf q d,fin U g (Ext.df (F.trans (c8 _ _)) j hf) ax λq d=>by
   rcases r q d with h1|h1
   .exact hf q h1
   .omega⟩⟩
 .rintro _ aM ⟨z,rfl,W,A,ao⟩
  have aN:z.len=2:=by have:=W.1;rw[dm,dH]at this;omega
  have V:=(c8 f (.cells #[.int .u8 (((iJ p).toNat:Nat):Int),.int .u8 (((UInt8.ofNat p.bits.toNat).toNat:Nat):Int)] 5)).size;obtain⟨X,Y,aw,ax,Q,j,r⟩:=lG.append (cC:=48) ((lit f).ext A) W (iG _) (by show(2*(z.len+2)+1000)*1<=_;omega);have aO:=A.size;have hf:∀q,aE z q->f.heap.size<=q:=λq d=>eC V (ao q d);exact⟨z,rfl,x A,X,Y,aw,j.mono λq _ d=>hf q d,fin Y X (Ext.df ((c8 _ _).trans A) j hf) ax λq d=>by
   rcases r q d with h1|h1
   .exact hf q h1
   .omega⟩
theorem iu(T:O aB):∀t∈T,(aB.c t).length=21:=λt _=>t.bd
section
variable {w w':J}{s:ad}{T:O aB}{i aW:Nat}{most:Int}
theorem m9(hs:Src 21 w s (bg aB.c T))(hi:i<T.length):∃A:ag,s.a=some A/\((0:Int)<=(i:Int)/\(i:Int)<(s.len:Int))/\w.cell? (A.add (Int.toNat (i:Int)*21))=some (.int .i64 T[i].s)/\a8 w ((A.add (Int.toNat (i:Int)*21)).add 1) 0 18=some T[i].p.c/\a8 w (A.add (Int.toNat (i:Int)*21)) 0 21=some T[i].c:=by
 obtain⟨d,A,aq,b⟩:=rj hs (iu T) (by decide) hi;rw[di];have h0:=mI b (j:=0) (v:=.int .i64 T[i].s) rfl;have h1:=yp b (k:=1) (m:=18) (by decide);have e:(T[i].c.drop 1).take 18=T[i].p.c:=by
  show List.take 18 (T[i].p.c++_)=_;rw[ox (bl.bd _)]
 rw[e]at h1;refine⟨A,aq,⟨I,I⟩,?_,h1,b⟩;rw[lj,add_zero']at h0;exact h0
def cP(s:Int)(p:bl)(t:aB):al:=decide (t.s=s)&&decide (t.p=p)
def iv(T:O aB)(s:Int)(p:bl):Int:=match T.findIdx? (cP s p) with|some i=>(i:Int)|none=> -1
theorem Ab{sv:Int}{p:bl}(B:Var w aW [most,s] 78)(hs:Src 21 w s (bg aB.c T))(E:T.length<=1000000):
 aK ai 167 #[.pointer (some aW),sv,.agg p.c.toArray] w (λv w'=>v=.int .i64 (iv T sv p)/\Ext w w'):=by
 have F:s.len=T.length:=by
  have:=hs.len;rw[e4 _ (iu T)]at this;omega
 refine ae.GA (some aW) sv _ w _ ?_;(delta ae.sX r1 an aM aF aa ar;dsimp only);refine bc (vs:=p.c) rfl λw1 C f G=>⟨λn w'=>∃i:Nat,n=(i:Int)/\i<=T.length/\(∀ (j:Nat) (a:j<T.length),j<i->cP sv p T[j]=false)/\Ext w1 w',λn _=>((T.length:Int)-n).toNat,⟨0,rfl,cR _,λj _ h=>I,.refl _ _⟩,?_⟩;rintro _ o ⟨i,rfl,hi,g,b⟩;have q:=(B.ext f).ext b;refine⟨_,rfl,s,by rw[az];exact q.cell,λaJ=>?_,λr=>⟨?_,f.trans b⟩⟩
 rotate_left
 .have r:=cw r
  have:T.findIdx? (cP sv p)=none:=by
   rw[tZ];intro t ht;obtain⟨j,a,rfl⟩:=fF ht;exact g j a I
  unfold iv;rw[this]
 have aJ:(i:Int)<(s.len:Int):=cl aJ;have u:i<T.length:=by omega
 have d:=cE o;have l:=(f.trans b).trans d;have m:=q.ext d;have x:=(C.ext b).ext d;have y:=b.trans d;refine aX ?_;generalize o.drew=D at l m x y;obtain⟨A,aq,z,h0,h1,_⟩:=m9 (hs.ext l) u;have next:cP sv p T[i]=false->(∃k:Nat,IntKind.wrap .i64 ((i:Int)+1)=(k:Int)/\k<=T.length/\(∀ (j:Nat) (a:j<T.length),j<k->cP sv p T[j]=false)/\Ext w1 D)/\((T.length:Int)-IntKind.wrap .i64 ((i:Int)+1)).toNat<((T.length:Int)-(i:Int)).toNat:=λhf=>by
  rw[bB (n:=(i:Int)+1) I I];refine⟨⟨i+1,I,I,λj a h=>?_,y⟩,I⟩;by_cases e:j=i
  .subst e;exact hf
  .exact g j a I
 refine⟨_,rfl,id,s,by rw[az];exact m.cell,A,aq,z,id,_,h0,λhe=>⟨_,rfl,id,s,by rw[az];exact m.cell,A,aq,z,id,_,h1,id,_,x.rd (bl.bd _),_,yJ _ _,λh=>⟨?_,l⟩,λh=>next ?_⟩,λhe=>⟨λh=>(by cases h),λ_=>next ?_⟩⟩
 .have hf:T.findIdx? (cP sv p)=some i:=by
   rw[rT];refine⟨u,?_,λj a=>?_⟩
   .unfold cP
    rw[dh];exact⟨dD (by simpa using he),h⟩
   .rw[g j I a];decide
  unfold iv;rw[hf]
 .unfold cP;rw[h,Bool.and_false]
 .unfold cP
  rw[g_ (by simpa using he),kn]
end
section
variable {w w':J}{s:ad}{T:O aB}{i aW:Nat}{most:Int}
theorem Ek(hs:Src 21 w s (bg aB.c T))(hi:i<T.length){A:ag}(aq:s.a=some A):w.cell? ((A.add (Int.toNat (i:Int)*21)).add 20)=some (.int .u64 (T[i].u:Nat)):=by
 obtain⟨e,f,b,d⟩:=rj hs (iu T) (by decide) hi;rw[aq]at b
 cases b;rw[di];have h0:=mI d (j:=20) (v:=.int .u64 (T[i].u:Nat)) (by
  show(T[i].p.c++_)[19]? =_;rw[g3 (by rw[bl.bd];decide),bl.bd];rfl)
 rw[cF]at h0;exact h0
def iw(T:O aB)(s:Int)(p:bl)(now:Nat):av aB:=match T.findIdx? (cP s p) with
 |some i=>if (T.getD i aB.zero).u<=now then none else some (T.getD i aB.zero)
 |none=>none
theorem Kh{sv:Int}{p:bl}{now:Nat}(l:Var w aW [most,s] 78)(hs:Src 21 w s (bg aB.c T))(C:T.length<=1000000):
 aK ai 96 #[.pointer (some aW),sv,.agg p.c.toArray,.int .u64 (now:Nat)] w (λv w'=>v=.tuple #[.agg ((iw T sv p now).getD aB.zero).c.toArray,.bool (iw T sv p now).isSome]/\Ext w w'):=by
 refine ae.Gw (some aW) sv _ (now:Nat) w _ ?_;(delta ae.sU fc aa bS an r1 aM b5 jH;dsimp only);refine bc (vs:=p.c) rfl λw1 D m H=>bc (vs:=aB.zero.c) rfl λaj E n I=>?_;have d:=m.trans n;refine⟨p.c,(D.ext n).rd (bl.bd _),(Ab (l.ext d) (hs.ext d) C).use ?_⟩;rintro _ a ⟨rfl,o⟩;have f:=d.trans o;have r:=l.ext f;have x:=hs.ext f;have y:=E.ext o;have put:∀ (t:aB) (b:al),bk a w1.heap.size (Array.toList t.c.toArray)/\Array.size t.c.toArray=21/\ak (setCells a w1.heap.size 0 (Array.toList t.c.toArray)) λg=>∃z:O Y,a8 g w1.heap.size 0 21=some z/\(Value.tuple #[.agg z.toArray,b]=.tuple #[.agg t.c.toArray,b]/\Ext w g):=λt b=>
  ⟨y.b3 (by simp[aB.bd]) (aB.plain _),by simp[aB.bd],cp y (us:=t.c) (by simp[aB.bd]) rfl λg F G _=>⟨_,F.rd (aB.bd _),rfl,Ext.cD f G m.size⟩⟩
 cases hf:T.findIdx? (cP sv p) with
 |none=>
  have e:iv T sv p= -1:=by unfold iv;rw[hf]
  have j:iw T sv p now=none:=by unfold iw;rw[hf]
  rw[e,j];refine⟨_,rfl,cq (λb w'=>b=true/\a=w') (λq k=>⟨λ_=>k _ _ ⟨rfl,rfl⟩,λh=>(by cases h)⟩) ?_⟩;rintro _ _ ⟨rfl,rfl⟩;exact⟨λ_=>⟨_,tc a,put aB.zero false⟩,λh=>(by cases h)⟩
 |some i=>
  have hi:i<T.length:=by
   rw[rT]at hf;exact hf.1
  have e:iv T sv p=(i:Int):=by unfold iv;rw[hf]
  have j:iw T sv p now=if T[i].u<=now then none else some T[i]:=by unfold iw;rw[hf];dsimp only;rw[fu hi]
  rw[e,j];obtain⟨A,aq,B,h0,h1,h2⟩:=m9 x hi;refine⟨_,rfl,cq (λb w'=>b=decide (T[i].u<=now)/\a=w') (λq k=>⟨λh=>?_,λ_=>⟨_,rfl,s,by rw[az];exact r.cell,A,aq,B,_,Ek x hi aq,k _ _ ⟨?_,rfl⟩⟩⟩) ?_⟩
  .have:=cl h
   omega
  .rw[eQ,b_,b_];omega
  rintro _ _ ⟨rfl,rfl⟩;refine⟨λh=>?_,λh=>?_⟩
  .rw[if_pos (cl h)]
   exact⟨_,tc a,put aB.zero false⟩
  .rw[if_neg (cw h)]
   exact⟨_,rfl,s,by rw[az];exact r.cell,A,aq,B,_,h2,put T[i] true⟩
theorem aB.qW{a b:aB}(h:a.c=b.c):a=b:=by
 obtain⟨s,p,cr,u⟩:=a;obtain⟨g,i,j,k⟩:=b;unfold aB.c at h;dsimp only at h;obtain⟨h1,h2⟩:=List.cons.inj h;obtain⟨e,d⟩:=List.append_inj h2 (by rw[bl.bd,bl.bd]);have:=bl.qW e;simp at h1 d;subst this;obtain⟨f,l⟩:=d;subst h1 f
 congr 1
 omega
end
instance:DecidableEq aB:=λa b=>decidable_of_iff (a.s=b.s/\a.p=b.p/\a.b=b.b/\a.u=b.u) ⟨λh=>by cases a;cases b;simp_all,λh=>by rw[h];exact⟨rfl,rfl,rfl,rfl⟩⟩
theorem aB.eT(t:aB):aS.eT (.int .i64::(((.bool::lF 16)++ [.int .i64])++ [.int .i64,.int .u64])) t.c:=⟨_,_,rfl,⟨_,rfl⟩,yc t.p.eT ⟨_,_,rfl,⟨_,rfl⟩,_,_,rfl,⟨_,rfl⟩,rfl⟩⟩
theorem Ac(a b:aB):iC ai 29 a.c.toArray b.c.toArray (decide (a=b)):=by
 have h:=iC.flat (P:=ai) (T:=29) (d:=(Tryz.prog.underlying 29).get (by kernel_rfl)) (ls:=.int .i64::(((.bool::lF 16)++ [.int .i64])++ [.int .i64,.int .u64])) (oo _).symm (by kernel_rfl) (by kernel_rfl) (by kernel_rfl) a.eT b.eT;have e:fJ a.c b.c=decide (a=b):=by
  rw[eQ,uE a.eT b.eT,b_];exact⟨aB.qW,λh=>by rw[h]⟩
 rwa[e]at h
section
variable {w w':J}{s t:ad}{T U:O aB}
theorem qR(hs:Src 21 w s (bg aB.c T))(ht:Src 21 w t (bg aB.c U))(q:T.length<=1000000):aK ai 101 #[s,t] w (λv w'=>v=.bool (decide (T=U))/\Ext w w'):=by
 have h1:s.len=T.length:=by have:=hs.len;rw[e4 _ (iu T)]at this;omega
 have h2:t.len=U.length:=by have:=ht.len;rw[e4 _ (iu U)]at this;omega
 refine okF (ae.qR s t) ay.qR func101 ?_;delta ae.qR an aM ar;refine⟨λh=>⟨?_,.refl _ _⟩,λh=>?_⟩
 .rw[g_]
  rintro rfl;rw[h1,h2]at h;simp at h
 have j:T.length=U.length:=by
  have:(s.len:Int)=(t.len:Int):=by simpa using h
  omega
 refine⟨λn w'=>∃i:Nat,n=(i:Int)/\i<=T.length/\T.take i=U.take i/\Ext w w',λn _=>((T.length:Int)-n).toNat,⟨0,rfl,cR _,rfl,.refl _ _⟩,?_⟩;rintro _ b ⟨i,rfl,hi,he,d⟩;refine⟨λaJ=>?_,λf=>⟨?_,d⟩⟩
 rotate_left
 .have f:=cw f
  have e:i=T.length:=by omega
  rw[dD];rw[e,h4,j,h4]at he;exact he
 have aJ:(i:Int)<(s.len:Int):=cl aJ;have dR:i<T.length:=by omega
 have g:i<U.length:=by omega
 have a:=d.trans (cE b);refine aX ?_;generalize b.drew=r at a;obtain⟨A,aq,k,_,_,l⟩:=m9 (hs.ext a) dR;obtain⟨B,m,o,_,_,p⟩:=m9 (ht.ext a) g;refine⟨A,aq,k,id,_,l,B,m,o,id,_,p,_,Ac _ _,λh=>⟨?_,a⟩,λh=>?_⟩
 .have h:¬T[i]=U[i]:=by simpa using h
  rw[g_];intro e;apply h;subst e;rfl
 .have h:T[i]=U[i]:=by simpa using h
  rw[bB (n:=(i:Int)+1) I I];refine⟨⟨i+1,I,I,?_,a⟩,by show((T.length:Int)-((i:Int)+1)).toNat<((T.length:Int)-(i:Int)).toNat;omega⟩;rw[iy dR,iy g,he,h]
end
theorem pR(w:J):Sem.run ai (Instr.buildSlice 68 0 #[]) w=.ok (.slice (some w.heap.size) 0 0) (w.alloc (.cells #[] 29)):=by kernel_rfl
theorem rB(w:J)(t:aB):Sem.run ai (Instr.buildSlice 68 1 #[(0,.agg t.c.toArray)]) w=.ok (.slice (some w.heap.size) 1 1) (w.alloc (.cells t.c.toArray 29)):=by
 obtain⟨s,⟨⟨ej,l,h⟩,n⟩,b,u⟩:=t;obtain⟨bU,a,d,e,f,g,i,j,k,m,o,p,q,r,v,x,rfl⟩:=sZ l h
 kernel_rfl
theorem m_:h8 ai 68 29 21 56:=⟨by kernel_rfl⟩
section
variable {w w':J}{s:ad}{T:O aB}{i aW:Nat}{most:Int}
def gm(s:Int)(t:aB):al:=decide (t.s=s)
theorem Ki{sv:Int}(t:Var w aW [most,s] 78)(hs:Src 21 w s (bg aB.c T))(F:T.length<=1000000):
 aK ai 102 #[.pointer (some aW),sv] w (λv w'=>∃j:ad,v=j/\eF 21 29 w w' j (bg aB.c (T.filter (gm sv)))):=by
 have G:s.len=T.length:=by have:=hs.len;rw[e4 _ (iu T)]at this;omega
 refine okF (ae.wz (some aW) sv) ay.wz func102 ?_;(delta ae.wz r1 an aM aF jH u0 ar;dsimp only);have f0:eF 21 29 w (w.alloc (.cells #[] 29)) ⟨some w.heap.size,0,0⟩ (bg aB.c ((T.take 0).filter (gm sv))):=⟨aT.new (T:=29) w [] 0 (by simp) (by decide),c8 _ _,λq g=>by have:w.heap.size=q:=jl.1 g;omega⟩;refine⟨⟨some w.heap.size,0,0⟩,_,pR w,λb n d=>∃i:Nat,n=(i:Int)/\i<=T.length/\eF 21 29 w d b (bg aB.c ((T.take i).filter (gm sv))),λ_ n _=>((T.length:Int)-n).toNat,⟨0,rfl,cR _,f0⟩,?_⟩;rintro b _ d ⟨i,rfl,hi,a⟩;have h:=t.ext a.x;refine⟨_,rfl,s,by rw[az];exact h.cell,λaJ=>?_,λk=>⟨b,rfl,?_⟩⟩
 rotate_left
 .have k:=cw k
  have e:i=T.length:=by omega
  rw[e,h4]at a;exact a
 have aJ:(i:Int)<(s.len:Int):=cl aJ;have l:i<T.length:=by omega
 obtain⟨A,aq,m,h0,_,h2⟩:=m9 (hs.ext a.x) l;have p:(T.take (i+1)).filter (gm sv)=(T.take i).filter (gm sv)++(if gm sv T[i]=true then [T[i]] else []):=by
  rw[iy l,gG,hJ,oC]
 refine cq (λb w'=>eF 21 29 w w' b (bg aB.c ((T.take (i+1)).filter (gm sv)))) (λq g=>⟨_,rfl,s,by rw[az];exact h.cell,A,aq,m,_,h0,λhe=>⟨_,rfl,s,by rw[az];exact h.cell,A,aq,m,_,h2,?_⟩,λhe=>g _ _ ?_⟩) ?_
 .have he:gm sv T[i]=true:=dD (by simpa using he)
  have r:Ext d (d.alloc (.cells T[i].c.toArray 29)):=c8 _ _;have u:eF 21 29 w (d.alloc (.cells T[i].c.toArray 29)) b (bg aB.c ((T.take i).filter (gm sv))):=⟨a.o.ext r,a.x.trans r,a.f⟩;have H:b.len<=1000000:=by
   have y:=a.o.1;rw[e4 _ (iu _)]at y;have z:((T.take i).filter (gm sv)).length<=(T.take i).length:=iP _ _;rw[cz]at z;omega
  obtain⟨B,C,aw,ax,D,_⟩:=eF.app (cC:=68) m_ u (Src.new (T:=29) d T[i].c 1 (T[i].bd)) (aB.plain _) (by show(2*(b.len+1)+1000)*56<=_;omega);refine⟨⟨some d.heap.size,1,1⟩,_,rB d T[i],B,C,aw,g _ _ ?_⟩;rw[p,if_pos he,jO];have e:bg aB.c [T[i]]=T[i].c:=by simp[bg]
  rw[e];exact D
 .have he:gm sv T[i]=false:=g_ (by simpa using he)
  rw[p,if_neg (by rw[he];decide),fl];exact a
 .rintro J K E
  rw[bB (n:=(i:Int)+1) I I];exact⟨⟨i+1,I,I,E⟩,by show((T.length:Int)-((i:Int)+1)).toNat<((T.length:Int)-(i:Int)).toNat;omega⟩
end
structure f_(B:Nat->Prop)(w:J)(aW:Nat)(most:Int)(s:ad)(T:O aB):Prop where
 v:Var w aW [most,s] 78
 hU:Src 21 w s (bg aB.c T)
 c:s.len<=s.cap
 b:∀q,aE s q->B q/\q<w.heap.size
 nb:¬B aW
section
variable {B V:Nat->Prop}{w w':J}{s:ad}{T:O aB}{aW:Nat}{most:Int}
theorem f_.ah(h:f_ B w aW most s T)(hc:af V w w')(d:¬V aW)(e:∀q,B q->q<w.heap.size->¬V q):f_ B w' aW most s T:=
 ⟨h.v.ah hc d,h.hU.ah hc λq a=>e q (h.b q a).1 (h.b q a).2,h.c,λq a=>⟨(h.b q a).1,fP (h.b q a).2 hc.size⟩,h.nb⟩
theorem f_.ext(h:f_ B w aW most s T)(hx:Ext w w'):f_ B w' aW most s T:=h.ah hx id λ_ _ _ h=>h
theorem f_.len(h:f_ B w aW most s T):s.len=T.length:=by have:=h.hU.len;rw[e4 _ (iu T)]at this;omega
theorem f_.put(h:f_ B w aW most s T){w0:J}{a:ad}{au:O aB}(hx:Ext w w0)(hf:eF 21 29 w w0 a (bg aB.c au))(j:∀q,w.heap.size<=q->B q):
 (∃u:Y,w0.cell? (Addr.add aW 1)=some u)/\w0.frozen? (Addr.add aW 1)=false/\f_ B (w0.setCell (Addr.add aW 1) a) aW most a au/\af (λq=>q=aW) w0 (w0.setCell (Addr.add aW 1) a):=by
 rw[az,cF];have g:=h.v.ext hx;obtain⟨cc,cn⟩:=eP g (i:=1) (by show 1<2;decide);have d:=ek w0 aW 1 a;have k:=h.v.lt;refine⟨cc,cn,⟨eO g (i:=1) _,hf.o.src.ah d (λq b e=>by have:=hf.f q b;omega),hf.o.2.1,λq b=>⟨j q (hf.f q b),fP (hf.o.lt q b) d.size⟩,h.nb⟩,d⟩
end
def mj(T:O aB)(s:Int)(p:bl):O aB:=match T.findIdx? (cP s p) with
 |some i=>T.eraseIdx i
 |none=>T
section
variable {B:Nat->Prop}{w w':J}{s:ad}{T:O aB}{aW i:Nat}{most:Int}
theorem xr(w:J):eF 21 29 w (w.alloc (.cells #[] 29)) ⟨some w.heap.size,0,0⟩ []:=⟨aT.new (T:=29) w [] 0 (by simp) (by decide),c8 _ _,λq a=>by have:w.heap.size=q:=jl.1 a;omega⟩
theorem tD(T:O aB):∀v∈bg aB.c T,Plain v:=Ij λt _=>t.plain
theorem El(T:O aB)(i:Nat)(hi:i<=T.length):((bg aB.c T).drop (0*21)).take ((i-0)*21)=bg aB.c (T.take i):=by
 rw[pZ,iN,nk]
 conv=>lhs;rw[←fV i T,jO]
 exact ox (by rw[e4 _ (iu _),cz,iz hi])
theorem Em(T:O aB)(i:Nat)(hi:i<=T.length):((bg aB.c T).drop (i*21)).take ((T.length-i)*21)=bg aB.c (T.drop i):=by
 have h1:(bg aB.c T).drop (i*21)=bg aB.c (T.drop i):=by
  conv=>lhs;rw[←fV i T,jO]
  exact List.drop_left' (by rw[e4 _ (iu _),cz,iz hi])
 rw[h1,dr (by rw[e4 _ (iu _),dw];exact bt _)]
theorem Kj{sv:Int}{p:bl}(h:f_ B w aW most s T)(z:T.length<=1000000)(A:∀q,w.heap.size<=q->B q):
 aK ai 97 #[.pointer (some aW),sv,.agg p.c.toArray] w (λv w'=>v=.bool (decide (iv T sv p>=0))/\af (λq=>q=aW) w w'/\∃j,f_ B w' aW most j (mj T sv p)):=by
 have C:=h.len;have hc:=h.c;refine ae.Gx (some aW) sv _ w _ ?_;(delta ae.sV aa bS an r1 ar st;dsimp only);refine bc (vs:=p.c) rfl λw1 D k P=>⟨p.c,D.rd (bl.bd _),(Ab (h.v.ext k) (h.hU.ext k) z).use ?_⟩;rintro _ t ⟨rfl,E⟩;have l:=k.trans E;refine⟨_,rfl,j4 (λw'=>af (λq=>q=aW) w w'/\∃j,f_ B w' aW most j (mj T sv p)) (λq m=>⟨λb=>?_,λaJ=>m _ ⟨l.mono λ_ _ h=>h.elim,s,?_⟩⟩) λw' F=>⟨rfl,F⟩⟩
 rotate_left
 .have aJ:=cw aJ
  have hf:T.findIdx? (cP sv p)=none:=by
   cases hf:T.findIdx? (cP sv p) with
   |none=>rfl
   |some i=>unfold iv at aJ;rw[hf]at aJ;dsimp only at aJ;omega
  unfold mj;rw[hf];exact h.ext l
 have b:=cl b;obtain⟨i,hf⟩:∃i,T.findIdx? (cP sv p)=some i:=by
  cases hf:T.findIdx? (cP sv p) with
  |some i=>exact⟨i,rfl⟩
  |none=>unfold iv at b;rw[hf]at b;exact absurd b (by decide)
 have hi:i<T.length:=by
  rw[rT]at hf;exact hf.1
 have e:iv T sv p=(i:Int):=by unfold iv;rw[hf]
 have G:mj T sv p=T.take i++T.drop (i+1):=by unfold mj;rw[hf];exact List.eraseIdx_eq_take_drop_succ _ _
 rw[e]at*;have H:=cE t;have f:=l.trans H;have a:=h.ext f;have J:=f.size;refine aX ?_;generalize t.drew=d at f a J;have Q:=h.v.lt;have K:IntKind.wrap .i64 ((i:Int)+1)=((i+1:Nat):Int):=by rw[bB I I];omega
 rw[K];have f0:=xr d;obtain⟨n,L,aw,ax,o,M,_⟩:=eF.app (cC:=68) m_ f0 (Src.cut (a.hU.ext f0.x) hc (cR i) I) (λv r=>tD T v (e6 (eY r))) (by show(2*(0+(i-0))+1000)*56<=_;omega);have R:n.len=i:=by rw[M];show 0+(i-0)=i;omega
 rw[hG,El T i I]at o;obtain⟨u,N,cc,cn,g,S,_⟩:=eF.app (cC:=68) m_ o (Src.cut (a.hU.ext o.x) hc (lo:=i+1) (hi:=s.len) I (bt _)) (λv r=>tD T v (e6 (eY r))) (by show(2*(n.len+(s.len-(i+1)))+1000)*56<=_;omega);rw[C,Em T (i+1) I,←jO]at g;obtain⟨bh,bj,y,O⟩:=a.put g.x g λq m=>A q I;rw[←G]at y;refine⟨λq=>d.heap.size<=q,_,rfl,by rw[az];show¬d.heap.size<=aW;omega,s,by rw[az];exact a.v.cell,⟨I,I⟩,_,rfl,by rw[az];show¬d.heap.size<=aW;omega,s,by rw[az];exact a.v.cell,⟨I,I⟩,_,_,pR d,f0.x.mono λ_ _ h=>h.elim,n,L,aw,ax,u,N,cc,cn,_,rfl,bh,bj,aX (m _ ⟨((f.trans g.x).mono λ_ _ h=>h.elim).trans O,u,y⟩)⟩
end
theorem mS(t:aB)(w:J):aK ai 168 #[.agg t.c.toArray] w (λv w'=>∃s:ad,v=s/\aT 1 5 w' s (aD (m8 t.s t.p))/\Ext w w'/\∀q,aE s q->w.heap.size<=q):=by
 refine ae.GB _ w _ ?_;(delta ae.mS aF aa bK;dsimp only);refine bc (vs:=t.c) rfl λw1 a b g=>⟨t.s,a.cell,t.p.c,lM a,(pn t.s t.p w1).use ?_⟩;rintro _ h ⟨d,rfl,e,hx,hf⟩;exact⟨d,rfl,d,rfl,e,b.trans hx,λq f=>eC b.size (hf q f)⟩
def gD(s b:Int)(t:aB):al:=decide (t.s≠s)||(decide (b>=0)&&decide (t.b≠b))
section
variable {B:Nat->Prop}{w w':J}{s:ad}{T:O aB}{aW i:Nat}{most:Int}
theorem Kk(hs:Src 21 w s (bg aB.c T))(hi:i<T.length){A:ag}(aq:s.a=some A):w.cell? ((A.add (Int.toNat (i:Int)*21)).add 19)=some (.int .i64 T[i].b):=by
 obtain⟨f,g,d,e⟩:=rj hs (iu T) (by decide) hi;rw[aq]at d
 cases d;rw[di];have h0:=mI e (j:=19) (v:=.int .i64 T[i].b) (by
  show(T[i].p.c++_)[18]? =_;rw[g3 (by rw[bl.bd];decide),bl.bd];rfl)
 rw[cF]at h0;exact h0
theorem Kl{sv bv:Int}(h:f_ B w aW most s T)(U:T.length<=1000000)(F:∀q,w.heap.size<=q->B q):
 aK ai 98 #[.pointer (some aW),sv,bv] w (λv w'=>v=.int .i64 ((T.length-(T.filter (gD sv bv)).length:Nat):Int)/\af (λq=>q=aW) w w'/\∃G,f_ B w' aW most G (T.filter (gD sv bv))):=by
 have H:=h.len;refine okF (ae.wx (some aW) sv bv) ay.wx func98 ?_;(delta ae.wx r1 an aM aF jH u0 ar st;dsimp only);refine⟨⟨some w.heap.size,0,0⟩,_,pR w,λg n a=>∃i:Nat,n=(i:Int)/\i<=T.length/\eF 21 29 w a g (bg aB.c ((T.take i).filter (gD sv bv))),λ_ n _=>((T.length:Int)-n).toNat,⟨0,rfl,cR _,xr w⟩,?_⟩;rintro g _ a ⟨i,rfl,hi,d⟩;have j:=h.ext d.x;have t:g.len=((T.take i).filter (gD sv bv)).length:=by
  have J:=d.o.1;rw[e4 _ (iu _)]at J;omega
 have K:((T.take i).filter (gD sv bv)).length<=i:=by
  have L:((T.take i).filter (gD sv bv)).length<=(T.take i).length:=iP _ _;rw[cz]at L;omega
 refine⟨_,rfl,s,by rw[az];exact j.v.cell,λaJ=>?_,λy=>?_⟩
 rotate_left
 .have y:=cw y
  have e:i=T.length:=by omega
  rw[e,h4]at d t K;obtain⟨bh,bj,M,N⟩:=h.put d.x d F;refine⟨_,rfl,s,by rw[az];exact j.v.cell,_,rfl,bh,bj,aX ⟨?_,(d.x.mono λ_ _ h=>h.elim).trans N,g,M⟩⟩;rw[bB I I,t,H]
  congr 1
  omega
 have aJ:(i:Int)<(s.len:Int):=cl aJ;have k:i<T.length:=by omega
 obtain⟨A,aq,l,h0,_,h2⟩:=m9 j.hU k;have z:(T.take (i+1)).filter (gD sv bv)=(T.take i).filter (gD sv bv)++(if gD sv bv T[i]=true then [T[i]] else []):=by
  rw[iy k,gG,hJ,oC]
 refine cq (λg w'=>eF 21 29 w w' g (bg aB.c ((T.take (i+1)).filter (gD sv bv)))) (λq C=>⟨_,rfl,s,by rw[az];exact j.v.cell,A,aq,l,_,h0,cq (λb w'=>b=gD sv bv T[i]/\a=w') (λr D=>⟨λhe=>D _ _ ⟨?_,rfl⟩,λhe=>cq (λb w'=>b=gD sv bv T[i]/\a=w') (λu hu=>⟨λm=>⟨_,rfl,s,by rw[az];exact j.v.cell,A,aq,l,_,Kk j.hU k aq,hu _ _ ⟨?_,rfl⟩⟩,λm=>hu _ _ ⟨?_,rfl⟩⟩) ?_⟩) ?_⟩) ?_
 .unfold gD
  rw[dD (by simpa using he),Bool.true_or]
 .have he:T[i].s=sv:=by simpa using he
  unfold gD;rw[m,g9,g_ (by simpa using he),lk,eQ,b_];simp
 .have he:T[i].s=sv:=by simpa using he
  unfold gD;rw[m,kn,g_ (by simpa using he)];rfl
 .rintro _ _ ⟨rfl,rfl⟩
  exact D _ _ ⟨rfl,rfl⟩
 .rintro _ _ ⟨rfl,rfl⟩
  refine⟨λp=>⟨_,rfl,s,by rw[az];exact j.v.cell,A,aq,l,_,h2,?_⟩,λp=>C _ _ ?_⟩
  .have E:Ext a (a.alloc (.cells T[i].c.toArray 29)):=c8 _ _
   have O:eF 21 29 w (a.alloc (.cells T[i].c.toArray 29)) g (bg aB.c ((T.take i).filter (gD sv bv))):=⟨d.o.ext E,d.x.trans E,d.f⟩;obtain⟨P,Q,aw,ax,R,_⟩:=eF.app (cC:=68) m_ O (Src.new (T:=29) a T[i].c 1 (T[i].bd)) (aB.plain _) (by show(2*(g.len+1)+1000)*56<=_;omega);refine⟨⟨some a.heap.size,1,1⟩,_,rB a T[i],P,Q,aw,C _ _ ?_⟩;rw[z,if_pos p,jO];have e:bg aB.c [T[i]]=T[i].c:=by simp[bg]
   rw[e];exact R
  .rw[z,if_neg (by rw[p];decide),fl]
   exact d
 .rintro V W S
  rw[bB (n:=(i:Int)+1) I I];exact⟨⟨i+1,I,I,S⟩,by show((T.length:Int)-((i:Int)+1)).toNat<((T.length:Int)-(i:Int)).toNat;omega⟩
end
section
variable {B C W:Nat->Prop}{w w':J}{aW:Nat}
theorem k_(d i k:Nat):Addr.add ⟨d,i,none⟩ k=⟨d,i+k,none⟩:=by
 rw[az]
end
structure kK(V:Nat->du)(n gen:Nat)(u:e1)(g:Nat->al)(P:Nat->av aG)(p:O Nat)(L:O aR):Prop where
 fr:∃j,j<n/\g j=false
 En:th ((gen%2:Nat):Int) (V (gen%2))=.ok (u,n,gen)
 Km:V (1-gen%2)=il\/∃a g',th ((1-gen%2:Nat):Int) (V (1-gen%2))=.ok (a,n,g')/\g'<gen
 mp:∃jc,jc<=gen/\fD (u.map:Int) (V u.map)=.ok ⟨4,jc,jf g ((n+7)/8)⟩
 g:∀no,g no=true↔no∈p\/no<2\/no=u.map
 ck:p.Nodup
 two:∀x∈p,2<=x/\x≠u.map/\x<n
 ok:(u.aN=0/\u.root=0/\p=[]/\L=[])\/e0 P u.aN none none u.root p L
 eU:∀x∈p,∀ck,P x=some ck->g6 gen ck.leaf x (V x) ck
 keys:u.keys=L.length
 kv:∀q∈L,cI q.1/\q.2.length<=24
 Kn:nZ u
 xt:n0 u n
 Ko:u.dA+1<=gen
theorem kK.agree{V a:Nat->du}{n gen:Nat}{u:e1}{g:Nat->al}{P P':Nat->av aG}{p:O Nat}{L:O aR}(h:kK V n gen u g P p L)(fR:∀j,g j=true->a j=V j)(b:∀x∈p,P x=P' x):kK a n gen u g P' p L:=by
 have h0:a (gen%2)=V (gen%2):=fR _ ((h.g _).2 (.inr (.inl I)));have h1:a (1-gen%2)=V (1-gen%2):=fR _ ((h.g _).2 (.inr (.inl I)));refine⟨h.fr,by rw[h0];exact h.En,by rw[h1];exact h.Km,by rw[fR _ ((h.g _).2 (.inr (.inr rfl)))];exact h.mp,h.g,h.ck,h.two,h.ok.imp id λc=>(c.agree b).1,λx hx ck d=>?_,h.keys,h.kv,h.Kn,h.xt,h.Ko⟩;rw[fR _ ((h.g _).2 (.inl hx))];exact h.eU x hx ck (by rw[b x hx];exact d)
structure b9 where
 st:Nat
 T:aQ
 l:fj
 u:e1
 gen:Nat
 now:Nat
 first:Nat
 pending:Nat
 keys:Nat
 failed:al
def b9.V(S:b9)(j:Nat):du:=S.T.C.D.bT.getD j []
def b9.cells(S:b9):O Y:=hW S.T.ba S.T.C.D.d S.T.C.c S.T.sb S.l S.u S.gen S.now S.first S.pending S.keys S.failed
structure gn(w:J)(S:b9)(aL:O Nat)(bF:O aR):Prop where
 v:Var w S.st S.cells 158
 t:cg w S.T
 es:S.T.E S.st
 gw:kK S.V S.T.n S.gen S.u S.T.g S.T.P aL bF
 gen:S.T.gen=S.gen+1
 num:S.now<18446744073709551616/\S.first<=S.now/\S.u.dA+1<=S.gen/\S.gen+2<18446744073709551616/\S.l.batch<=1000/\S.l.jo<=1048576/\1<=S.l.batch
 bZ:∀j,S.T.g j=true->S.T.C.D.bZ j=true
structure d_(w:J)(S:b9)(pages:O Nat)(L:O aR)(aL:O Nat)(bF:O aR):Prop extends gn w S aL bF where
 ok:g0 S.T pages L
 ck:pages.Nodup
 f:∀no,S.T.f no=true↔no∈pages\/no<2\/no=S.u.map
 two:∀x∈pages,2<=x/\x≠S.u.map
 kv:∀p∈L,cI p.1/\p.2.length<=24
 keys:S.keys=L.length
 pS:S.pending<=1000
 live:S.failed=false->¬S.T.C.D.ro/\S.T.C.D.eK=(λ_=> [])/\1<=cv S.T
 dead:S.failed=true->S.T.C.D.ro/\L=bF/\pages=aL/\S.pending=0
def bm.quiet(D:bm):Prop:=(∀k,D.calm k)/\D.cu.getD 3 0= -1
def b9.W(S:b9)(q:Nat):Prop:=S.T.M q/\(S.T.E q->q=S.st)
structure da(k:Nat)(S aA:b9)(w w':J):Prop where
 st:aA.st=S.st
 d:aA.T.C.D.d=S.T.C.D.d
 n:aA.T.n=S.T.n
 l:aA.l=S.l
 aV:aA.T.C.D.aV<=S.T.C.D.aV+k
 q:S.T.C.D.quiet->aA.T.C.D.quiet
 ah:af S.W w w'
 c7:∀q,aA.T.M q->S.T.M q\/w.heap.size<=q
 E:aA.T.E=S.T.E
 G:aA.T.G=S.T.G
 r:aA.T.C.D.r1=S.T.C.D.r1
section
variable {w w':J}{C:cf}{X:Nat->Prop}{T:aQ}{S aA:b9}{pages aL:O Nat}{L bF:O aR}
theorem gn.ml(h:gn w S aL bF){q:Nat}(a:S.T.N q):S.W q:=⟨aQ.gZ a,λhe=>absurd a (h.t.k1 he)⟩
theorem gn.Ad(h:gn w S aL bF):S.W S.st:=⟨.inr (.inr (.inr (.inl h.es))),λ_=>rfl⟩
theorem da.back{k q:Nat}(h:da k S aA w w')(b:q<w.heap.size)(a:aA.W q):S.W q:=⟨(h.c7 q a.1).resolve_right I,λhe=>(a.2 (by rw[h.E];exact he)).trans h.st⟩
theorem er.g1(h:er X w C){s:Nat->al}{z:Nat->O du}(hc:∀f∈C.ao,∀j:Nat,f.full=true->f.no=j->s j=true->f.fY=false)(b:∀j,s j=true->C.D.ey j=z j):
 er X w {C with D:=C.D.g1 s z}:=
 ⟨⟨h.raw.v,h.raw.f,h.raw.dev.g1 s z,h.raw.cc,h.raw.cn,h.raw.hd,h.raw.a1⟩,h.inv.pins,λf hf a=>by
  obtain⟨no,aw,ax,c,d,e,i,g⟩:=h.inv.ok f hf a
  exact⟨no,aw,ax,c,d,e,λhs=>hc f hf no a aw hs,g⟩,h.inv.un,h.inv.fi,b⟩
theorem cg.g1(h:cg w T){s:Nat->al}{z:Nat->O du}(hc:∀f∈T.C.ao,∀j:Nat,f.full=true->f.no=j->s j=true->f.fY=false)(a:∀j,s j=true->T.C.D.ey j=z j)(hs:∀j,s j=true->T.g j=true\/∀i,s i=true):
 cg w (T.bC {T.C with D:=T.C.D.g1 s z} T.P):=⟨h.t,h.s,h.ca.g1 hc a,h.kc,h.dT,h.ja,h.n,h.num,h.eU,hs,h.low⟩
theorem Kp(h:er X w C){j:Nat}(hs:C.D.bZ j=true):C.view j=C.D.now j:=by
 unfold cf.view
 cases hf:C.ao.find? λf=>f.full&&f.no==(j:Int) with
 |none=>rfl
 |some f=>
  have h1:=kO hf;have h2:=j0 hf;simp only[dh,jY]at h1;obtain⟨no,aw,ax,c,d,a,b,e⟩:=h.inv.ok f h2 h1.1;have:no=j:=by omega
  subst this;exact a (b hs)
theorem Kq(h:er X w C){j:Nat}(hs:C.D.bZ j=true)(a:C.D.eK j=[]):C.view j=C.D.bT.getD j []:=by
 rw[Kp h hs,zu _ (λx hx=>(h.raw.dev.wn x hx).1),if_pos (by rw[h.inv.me j hs,a])]
theorem d_.view(h:d_ w S pages L aL bF)(a:S.failed=false){j:Nat}(b:S.T.g j=true):S.T.C.view j=S.V j:=
 Kq h.t.ca (h.bZ j b) (by rw[(h.live a).2.1])
theorem gn.dZ(h:gn w S aL bF):rA S.T.C.D.n (S.u.root:Nat) (S.u.aN:Nat):=by
 obtain⟨h1,h2,a,_⟩:=h.gw.xt;rw[h.t.n];exact⟨I,I,I,I,I⟩
theorem gn.set(h:gn w S aL bF){i:Nat}{x:Y}(hi:i<19):(∃u:Y,w.cell? ⟨S.st,i,none⟩=some u)/\w.frozen? ⟨S.st,i,none⟩=false/\
 Var (w.setCell ⟨S.st,i,none⟩ x) S.st (S.cells.set i x) 158/\cg (w.setCell ⟨S.st,i,none⟩ x) S.T/\af (λq=>q=S.st) w (w.setCell ⟨S.st,i,none⟩ x):=by
 obtain⟨aw,ax⟩:=eP h.v (i:=i) (by exact hi);exact⟨aw,ax,eO h.v (i:=i) x,h.t.jQ h.es (ek w S.st i x),ek w S.st i x⟩
end
structure Kr(S aA:b9):Prop where
 u:aA.u=S.u
 gen:aA.gen=S.gen
 now:aA.now=S.now
 failed:aA.failed=true
 V:aA.T.C.D.bT=S.T.C.D.bT
 sa:∀j,aA.T.C.D.eK j=S.T.C.D.ey j
 aV:aA.T.C.D.aV=S.T.C.D.aV
section
variable {w w':J}{C:cf}{X:Nat->Prop}{T:aQ}{S aA:b9}{pages aL:O Nat}{L bF:O aR}
theorem Eo(h:gn w S aL bF)(e:Int)(cB:S.T.C.D.aV<=900000000):
 aK ai 81 #[.pointer (some S.st),e] w (λv w'=>v=e/\∃aA,d_ w' aA aL bF aL bF/\da 0 S aA w w'/\Kr S aA):=by
 refine okF (ae.vu (some S.st) e) ay.vu func81 ?_;(delta ae.vu st gT bK an aM aF b8 ar b5 jn;dsimp only);have aO:=h.dZ;obtain⟨aw,ax,a1,cC,bp⟩:=h.set (i:=18) (x:=true) (by decide);refine⟨_,rfl,by rw[az];exact aw,by rw[az];exact ax,aX ?_⟩;rw[az,cF];obtain⟨bq,br⟩:=eP a1 (i:=16) (by simp[b9.cells,hW]);have aP:=eO a1 (i:=16) (0:Int);have aa:=bp.trans (ek _ S.st 16 (0:Int));refine⟨_,rfl,by rw[az];exact bq,by rw[az];exact br,aX ?_⟩;rw[az,cF];generalize cD:(w.setCell ⟨S.st,18,none⟩ true).setCell ⟨S.st,16,none⟩ (0:Int)=bs at aP aa⊢;have ab:=h.t.jQ h.es aa;have cG:=aa.size;refine⟨_,rfl,_,by rw[az];exact aP.cell,(IV ab.s).use ?_⟩;rintro _ bu ⟨rfl,s1,bv,ac,bw⟩;have cH:=ac.size;obtain⟨ad,a2⟩:=ab.space bv ac bw ab.bZ ab.low;have a3:=aP.ah ac (h.t.dT _ h.es).2.1;obtain⟨gi,B⟩:∃gi,gi=S.T.xo S.T.g S.T.g s1 S.T.s2:=⟨_,rfl⟩;rw[←B]at ad a2;have aQ:gi.C=S.T.C:=by rw[B];rfl
 have bx:gi.E=S.T.E:=by rw[B];rfl
 have bz:gi.g=S.T.g:=by rw[B];rfl
 have bA:gi.P=S.T.P:=by rw[B];rfl
 have bD:gi.n=S.T.n:=by rw[B];rfl
 have bE:gi.sb=S.T.sb:=by rw[B];rfl
 have bG:gi.G=S.T.G:=by rw[B];rfl
 have bH:gi.gen=S.T.gen:=by rw[B];rfl
 have bI:gi.f=S.T.g:=by rw[B];rfl
 have bJ:∀q,gi.M q->S.T.M q\/w.heap.size<=q:=λq k=>(a2 q k).imp id λh=>by omega
 have cI:∀ (w':J),Var w' S.st ((S.cells.set 18 true).set 16 (0:Int)) 158->w'.cell? ⟨S.st,2,none⟩=some (.pointer (some S.T.C.c)):=λw' aR=>aR.cell;refine⟨rfl,_,rfl,_,by rw[az];exact a3.cell,?_⟩;have a4:=Ed ad.ca.raw;rw[aQ]at a4;refine a4.use ?_;rintro _ aj ⟨s,zs,rfl,bL,aS,ak,bM⟩;have cJ:=ak.size
 have bN:∀z∈zs,∃no:Nat,z=(no:Int)/\S.T.g no=false:=λz H=>by
  have:=aS.mem_iff.1 H;unfold jR at this;obtain⟨f,hf,rfl⟩:=fy.1 this;obtain⟨bO,a5⟩:=fU.1 hf;have a6:f.full=true/\f.fY=true:=by unfold Fr.g7 at a5;simpa using a5
  obtain⟨no,cc,cn,al,am,a7,bP⟩:=h.t.ca.inv.ok f bO a6.1;refine⟨no,cc,?_⟩
  cases hg:S.T.g no with
  |false=>rfl
  |true=>
   have:=bP (h.bZ no hg);rw[a6.2]at this;cases this
 have cK:zs.length<=64:=by
  rw[aS.length_eq];unfold jR;rw[dk];exact eC (iP _ _) h.t.ca.raw.cn
 have aU:=ad.ext ak;obtain⟨P',aW⟩:∃P':Nat->av aG,P'=λno=>if S.T.g no=true then S.T.P no else none:=⟨_,rfl⟩
 obtain⟨bQ,_⟩:=aU.rq (P:=P') aU.ca (eG.refl gi.C aj) (λno ck o=>by
  rw[aW]at o;dsimp only at o;by_cases hg:S.T.g no=true
  .rw[if_pos hg]at o
   exact aU.eU no ck (by rw[bA];exact o)
  .rw[if_neg hg]at o;cases o)
 have bR:∀q,aE s q->¬dc S.T.C q:=λq k hf=>by
  have:=bM q k;have:=ad.lt (q:=q) (.inl (by rw[aQ];exact hf));omega
 refine⟨s,rfl,λn16 l=>∃ (i:Nat) (aI:cf),n16=(i:Nat)/\i<=zs.length/\cg l (gi.bC aI P')/\eG S.T.C aI aj l 0/\aI.D=S.T.C.D/\(∀j,S.T.g j=true->aI.view j=S.T.C.view j)/\(∀f∈aI.ao,f.full=true->f∈S.T.C.ao/\∀z∈zs.take i,f.no≠z)/\aT 1 3 l s (zs.map encZ)/\(∀q,aE s q->¬dc aI q),
  λn16 _=>((zs.length:Int)-n16).toNat,⟨0,S.T.C,rfl,cR _,by rw[←aQ];exact bQ,.refl _ _,rfl,λ_ _=>rfl,λf hf _=>⟨hf,λz H=>(by simp at H)⟩,bL,bR⟩,?_⟩
 rintro _ l ⟨i,aI,rfl,hi,R,L,r,bS,a8,ap,a9⟩;have cL:s.len=zs.length:=by have:=ap.1;rw[dk]at this;omega
 have bU:∀ (w':J),af (dc S.T.C) aj w'->Var w' S.st ((S.cells.set 18 true).set 16 (0:Int)) 158:=λw' hc=>(a3.ext ak).ah hc λhf=>(h.t.ca.inv.fi _ (.inr (.inr (.inl h.es)))).2 hf;have a_:=bU _ L.ah;refine⟨λK=>?_,λK=>?_⟩
 .have K:(i:Int)<(s.len:Int):=cl K
  have au:i<zs.length:=by omega
  obtain⟨A,aq,bV⟩:∃a:ag,s.a=some a/\l.cell? (a.add (Int.toNat (i:Int)*1))=some (.int .i64 zs[i]):=by
   obtain⟨b,c,K,_,_,_,_,bW,_⟩:=ap.cell (i:=i) (v:=encZ zs[i]) (by rw[nq,dU au];rfl);exact⟨_,K,by rw[di,az,cF,fE];exact bW⟩
  obtain⟨no,bb,bX⟩:=bN _ (cW au);refine⟨A,aq,⟨I,K⟩,zs[i],bV,_,rfl,_,by rw[az];exact a_.cell,?_⟩;have bc:=Dy R.ca no;rw[bb];have U:aI.c=S.T.C.c:=L.c;have bY:(gi.bC aI P').C.c=S.T.C.c:=U;rw[bY]at bc;refine bc.use ?_;rintro _ cM ⟨⟨b,rfl⟩,bd,b0,aB,aR,b1,b2⟩;have be:∀j,S.T.g j=true->bd.view j=aI.view j:=λj X=>aR j λe=>by rw[e,bX]at X;cases X
  obtain⟨b3,_⟩:=R.rq (P:=P') b0 aB (λj ck o=>by
   obtain⟨bh,bj⟩:=R.eU j ck o;have b4:S.T.g j=true:=by
    cases hg:S.T.g j with
    |true=>rfl
    |false=>rw[aW]at o;simp[hg]at o
   rw[be j b4];exact⟨bh,bj⟩)
  have b6:((zs.length:Int)-((i+1:Nat):Int)).toNat<((zs.length:Int)-(i:Int)).toNat:=by omega
  have bf:IntKind.wrap .i64 ((i:Int)+1)=((i+1:Nat):Int):=by rw[bB I I];omega
  have b7:=ap.ah aB.ah λq k hf=>a9 q k hf;refine⟨b,rfl,⟨i+1,bd,bf,au,b3,(L.trans aB).mono (bt _),b1.trans r,λj X=>(be j X).trans (bS j X),λf hf N=>?_,b7,λq k hf=>?_⟩,by rw[bf];exact b6⟩
  .obtain⟨cc,cn⟩:=b2 f hf N
   obtain⟨al,am⟩:=a8 f cc N;refine⟨al,λz H=>?_⟩;rw[iy au,c1,fz]at H;rcases H with H|rfl
   .exact am z H
   .rw[bb];exact cn
  .rcases aB.c7 q hf with h1|h1
   .exact a9 q k h1
   .have:=aT.lt ap q k;omega
 have K:¬(i:Int)<(s.len:Int):=cw K;obtain rfl:i=zs.length:=by omega
 have b_:∀f∈aI.ao,f.full=true->f.fY=false:=λf hf N=>by
  obtain⟨cc,cn⟩:=a8 f hf N
  cases hd:f.fY with
  |false=>rfl
  |true=>
   refine absurd rfl (cn f.no ?_);rw[h4];refine aS.mem_iff.2 (fy.2 ⟨f,fU.2 ⟨cc,?_⟩,rfl⟩);unfold Fr.g7;rw[N,hd];rfl
 have U:aI.c=S.T.C.c:=L.c;obtain⟨fA,y⟩:∃fA,fA=gi.bC aI P':=⟨_,rfl⟩;rw[←y]at R;have f1:fA.C=aI:=by rw[y];rfl
 have f2:fA.E=S.T.E:=by rw[y];exact bx
 have f3:fA.g=S.T.g:=by rw[y];exact bz
 have f4:fA.P=P':=by rw[y];rfl
 have f5:fA.n=S.T.n:=by rw[y];exact bD
 have f6:fA.sb=S.T.sb:=by rw[y];exact bE
 have f7:fA.G=S.T.G:=by rw[y];exact bG
 have f8:fA.gen=S.T.gen:=by rw[y];exact bH
 have f9:fA.f=S.T.g:=by rw[y];exact bI
 have aY:∀q,fA.M q->S.T.M q\/w.heap.size<=q:=λq k=>by
  rw[y]at k;rcases k with k|k
  .rcases L.c7 q k with h1|h1
   .exact .inl (.inl h1)
   .exact .inr I
  .exact bJ q (.inr k)
 have cN:=L.ah.size;refine j4 (λaC=>∃ba,gn aC {S with T:=(fA.cm ba S.T.gen S.u.root S.u.aN S.T.E).bC {aI with D:=aI.D.g1 (λ_=>true) aI.D.ey} P',pending:=0,failed:=true} aL bF/\l.heap.size<=ba/\af (λq=>q=S.st) l aC) (λcO cb=>aX ?_) ?_
 .have aD:Ext l l.drew:=cE _
  have Q:=a_.ext aD;have aH:=R.ext aD;have bg:=aH.ca.raw;rw[f1]at bg;have bi:=o2 bg S.T.sb (S.T.gen:Int) (S.u.root:Int) (S.u.aN:Int);rw[U]at bi;refine⟨λ_=>False,_,rfl,id,_,by rw[az];exact Q.cell,_,rfl,id,_,by rw[az];exact Q.cell,_,rfl,id,_,by rw[az];exact Q.cell,_,rfl,id,_,by rw[az];exact Q.cell,_,rfl,id,_,by rw[az,az];exact Q.cell,?_⟩;have cd:IntKind.wrap .u64 ((S.gen:Int)+1)=(S.T.gen:Int):=by rw[gq I (by have:=h.num;omega)];have:=h.gen;omega
  rw[cd];refine bi.use ?_;rintro _ aZ (⟨_,rfl,Z,ce,cP⟩|⟨ch,_⟩)
  rotate_left
  .exact absurd (by rw[r];exact aO) ch
  have cQ:=Z.size;refine⟨_,0,rfl,Z,λ_=>?_,λhx=>(by cases hx)⟩;have bk:=Q.ext Z;obtain⟨cc,cn⟩:=eP bk (i:=0) (by simp[b9.cells,hW]);have ci:=eO bk (i:=0) (.pointer (some l.drew.heap.size));have bl:=ek aZ S.st 0 (.pointer (some l.drew.heap.size));have cj:cg aZ (fA.cm l.drew.heap.size S.T.gen S.u.root S.u.aN S.T.E):=by
   refine aH.tree Z (by show Var _ _ [.pointer (some fA.C.c),.pointer (some fA.sb),_,_,_] _;rw[f1,U,f6];exact ce) (.inr (bt _)) (λq k=>?_) ⟨?_,?_,?_⟩ λno ck o=>?_
   .have h1:=aH.lt (q:=q) (.inr (.inr (.inr (.inl (by rw[f2];exact k)))))
    exact⟨I,.inl (by rw[f2];exact k)⟩
   .rw[f5,←h.t.n];have:=aO.2.2.2.1;omega
   .have:=aO.2.1;omega
   .exact h.t.num.2.2
   .rw[←f8];exact aH.eU no ck o
  have co:=cj.g1 (s:=λ_=>true) (z:=fA.C.D.ey) (λf hf j N _ _=>b_ f (by rw[←f1];exact hf) N) (λ_ _=>rfl) λ_ _=>.inr λ_=>rfl;have bn:cg aZ ((fA.cm l.drew.heap.size S.T.gen S.u.root S.u.aN S.T.E).bC {fA.C with D:=fA.C.D.g1 (λ_=>true) fA.C.D.ey} fA.P):=co;rw[f1,f4]at bn;refine⟨_,rfl,cc,cn,aX (cb _ ⟨l.drew.heap.size,⟨?_,bn.jQ h.es bl,h.es,?_,h.gen,h.num,λ_ _=>rfl⟩,aD.size,((Ext.trans aD Z).mono λ_ _ h=>h.elim).trans bl⟩)⟩
  .show Var _ _ (hW _ aI.D.d aI.c fA.sb _ _ _ _ _ _ _ _) _
   rw[r,U,f6];exact ci
  .show kK (λj=>aI.D.bT.getD j []) fA.n _ _ fA.g P' _ _
   rw[r,f5,f3];exact h.gw.agree (λ_ _=>rfl) λx hx=>by
    rw[aW];dsimp only;rw[if_pos ((h.gw.g x).2 (.inl hx))]
 .rintro aC ⟨ba,F,cS,cp⟩
  obtain⟨cy,p⟩:∃cy:b9,cy={S with T:=(fA.cm ba S.T.gen S.u.root S.u.aN S.T.E).bC {aI with D:=aI.D.g1 (λ_=>true) aI.D.ey} P',pending:=0,failed:=true}:=⟨_,rfl⟩;rw[←p]at F;have O:cy.st=S.st:=by rw[p]
  obtain⟨cc,cn,al,am,a7⟩:=F.set (i:=17) (x:=S.u.keys) (by decide);have cq:∃z:Y,cy.cells[12]? =some z/\z=S.u.keys:=⟨_,by rw[p];rfl,rfl⟩;obtain⟨z,cr,rfl⟩:=cq;have cs:({cy with keys:=S.u.keys}:b9).cells=cy.cells.set 17 S.u.keys:=by rw[p];rfl
  have m:cy.T=(fA.cm ba S.T.gen S.u.root S.u.aN S.T.E).bC {aI with D:=aI.D.g1 (λ_=>true) aI.D.ey} P':=by rw[p]
  have hE:cy.T.n=S.T.n:=by rw[m];exact f5
  have eB:cy.T.C.D.bT=S.T.C.D.bT:=by rw[m];show aI.D.bT=_;rw[r]
  have aJ:cy.u=S.u:=by rw[p]
  have ct:cy.gen=S.gen:=by rw[p]
  have cu:cy.T.f=S.T.g:=by rw[m];exact f9
  have cv:cy.T.C.D.ro:=by rw[m];exact λ_=>rfl
  have bo:cy.failed=true:=by rw[p]
  refine⟨_,rfl,_,by rw[az,az,←O];exact F.v.cell.trans cr,_,rfl,by rw[az,←O];exact cc,by rw[az,←O];exact cn,aX ⟨rfl,{cy with keys:=S.u.keys},⟨⟨?_,?_,F.es,F.gw,F.gen,F.num,F.bZ⟩,?_,h.gw.ck,λno=>?_,λx hx=>?_,h.gw.kv,h.gw.keys,?_,λhf=>?_,λ_=>⟨cv,rfl,rfl,by rw[p]⟩⟩,?_,⟨aJ,ct,by rw[p],bo,eB,λj=>?_,by rw[show({cy with keys:=S.u.keys}:b9).T=cy.T from rfl,m];show aI.D.aV=_;rw[r]⟩⟩⟩
  .rw[cs,az,cF,←O];exact al
  .rw[az,cF,←O];exact am
  .show g0 cy.T aL bF
   rw[m];have:=F.gw.ok;rw[m,aJ]at this;exact this
  .show cy.T.f no=true↔no∈aL\/no<2\/no=cy.u.map
   rw[cu,aJ];exact h.gw.g no
  .rw[show({cy with keys:=S.u.keys}:b9).u=S.u from aJ]
   exact⟨(h.gw.two x hx).1,(h.gw.two x hx).2.1⟩
  .show cy.pending<=1000
   rw[p];exact cR _
  .rw[show({cy with keys:=S.u.keys}:b9).failed=true from bo]at hf;cases hf
  .refine⟨O,?_,hE,by rw[p],?_,λk=>?_,?_,λq k=>?_,?_,?_,?_⟩
   .show cy.T.C.D.d=_
    rw[m];show aI.D.d=_;rw[r]
   .show cy.T.C.D.aV<=_
    rw[m];show aI.D.aV<=_;rw[r];omega
   .show cy.T.C.D.quiet
    rw[m];show bm.quiet (aI.D.g1 _ _);rw[r];exact k
   .rw[az,cF]
    have a0:∀q,q=S.st->S.W q:=λq e=>by rw[e];exact h.Ad
    have h1:af S.W w bs:=aa.mono λq _ e=>a0 q e;have h2:af S.W w bu:=c3 h1 ac λq _ k=>h.ml (.inr (.inr (.inl k)));have cx:af S.W w aj:=c3 h2 ak λq _ k=>k.elim;have cz:af S.W w l:=c3 cx L.ah λq _ k=>h.ml (.inl k);have cA:af S.W w aC:=c3 cz cp λq _ k=>a0 q k;exact c3 cA (V:=λq=>q=S.st) (by rw[←O];exact a7) λq _ k=>a0 q k
   .have k:cy.T.M q:=k
    rw[m]at k;rcases k with k|k|k|k|k
    .exact aY q (.inl (by rw[f1];exact k))
    .have k:q=ba:=k
     exact .inr I
    .exact aY q (.inr (.inr (.inl k)))
    .exact .inl (.inr (.inr (.inr (.inl k))))
    .exact aY q (.inr (.inr (.inr (.inr k))))
   .show cy.T.E=_
    rw[m];rfl
   .show cy.T.G=_
    rw[m];exact f7
   .show cy.T.C.D.r1=_
    rw[m];show aI.D.r1=_;rw[r]
  .show cy.T.C.D.eK j=_
   rw[m];show aI.D.ey j=_;rw[r]
end
theorem g6.mono{gen a no:Nat}{leaf:al}{l:du}{n:aG}(h:g6 gen leaf no l n)(hg:gen<=a):g6 a leaf no l n:=by
 obtain⟨p,h1,h2,b⟩:=h;exact⟨p,h1,eC h2 hg,b⟩
section
variable {w w':J}{C:cf}{X:Nat->Prop}{T:aQ}{S aA:b9}{pages aL:O Nat}{L bF:O aR}
theorem Ks{aC:bm}(h:er X w C)(hd:dz w' aC)(e:aC.d=C.D.d)(g:k3 aC C.D)(k:∀i,2<=i->aC.now i=C.D.now i)(hc:af (cA C.D) w w')(hf:∀q,cA aC q->cA C.D q\/w.heap.size<=q):
 er X w' {C with D:=aC}/\∀j,2<=j->({C with D:=aC}:cf).view j=C.view j:=by
 have o:=hc.size;have l:∀q,q<w.heap.size->dc {C with D:=aC} q->dc C q:=λq a b=>by
  rcases b with h1|h1|h1
  .exact .inl h1
  .exact .inr (.inl h1)
  .exact .inr (.inr ((hf q h1).resolve_right I))
 refine⟨⟨h.raw.qV hd e hc hf,h.inv.pins,λf p r=>?_,h.inv.un,λq a=>⟨fP (h.inv.fi q a).1 o,λb=>(h.inv.fi q a).2 (l q (h.inv.fi q a).1 b)⟩,g.2.2⟩,λj s=>?_⟩
 .obtain⟨no,aw,ax,t,u,v,x,m⟩:=h.inv.ok f p r
  exact⟨no,aw,by rw[show({C with D:=aC}:cf).D.n=aC.n from rfl,g.1];exact ax,bA.re t hc (λq _ c y=>c.1 (.inr (.inr y))) λq a c=>⟨λb=>c.1 (l q a b),c.2⟩,u,λhd=>by show _=aC.now no;rw[k no m];exact v hd,λhs=>x (g.2.1 _ hs),m⟩
 .unfold cf.view
  dsimp only
  cases C.ao.find? λf=>f.full&&f.no==(j:Int) with
  |some f=>rfl
  |none=>exact k j s
theorem cg.Ep{aI:cf}{P:Nat->av aG}(h:cg w T)(a:er T.X w' aI)(hc:af (dc T.C) w w')(e:aI.c=T.C.c)(b:aI.D.n=T.C.D.n)(d:∀no ck,P no=some ck->no<T.n/\g6 T.gen ck.leaf no (aI.view no) ck)(f:∀j,aI.D.bZ j=true->T.g j=true\/aI.D.ro):
 cg w' (T.bC aI P):=by
 have hx:=h.ca.inv.fi;refine⟨?_,h.s.ah hc λq i hf=>(hx q (.inr (.inl i))).2 hf,a,h.kc,h.dT,h.ja,b.trans h.n,h.num,d,f,h.low⟩;have:=h.t.ah hc λhf=>(hx T.ba (.inl rfl)).2 hf;unfold lO at this⊢;rw[←e]at this;exact this
def aQ.na(T:aQ)(gen:Nat):aQ:={T with gen:=gen}
theorem cg.Kt{gen:Nat}(h:cg w T)(b:Var w' T.ba (lO (T.na gen)) 239)(hc:af (λq=>q=T.ba) w w')(h1:T.gen<=gen)(h2:gen<18446744073709551616):cg w' (T.na gen):=
 ⟨b,h.s.ah hc λq c e=>h.kc (e▸c),h.ca.ah hc λq e=>.inl e,h.kc,h.dT,h.ja,h.n,⟨h.num.1,h.num.2.1,h2⟩,λno ck a=>⟨(h.eU no ck a).1,(h.eU no ck a).2.mono h1⟩,h.bZ,h.low⟩
theorem Ku(h:cg w T){gen:Nat}(h1:T.gen<=gen)(h2:gen<18446744073709551616):
 aK ai 164 #[.pointer (some T.ba),.int .u64 (gen:Nat)] w (λv w'=>v=.tuple #[]/\cg w' (T.na gen)/\af (λq=>q=T.ba) w w'):=by
 refine ae.Gi _ _ w _ ?_;(delta ae.sP an st;dsimp only);obtain⟨aw,ax⟩:=eP h.t (i:=2) (by simp[lO]);have a:=eO h.t (i:=2) (.int .u64 (gen:Nat));have hc:=ek w T.ba 2 (.int .u64 (gen:Nat));refine⟨λ_=>⟨_,rfl,by rw[az];exact aw,by rw[az];exact ax,aX ?_⟩,λb=>(by cases b)⟩;rw[az,cF];exact⟨rfl,h.Kt a hc h1 h2,hc⟩
def Er(aA:b9)(gen:Nat)(g:Nat->al)(pages:O Nat)(L:O aR)(clock dA:Nat):Prop:=
 (∀j,g j=true->aA.T.C.D.eK j=[])\/
 ∃ (a:e1) (aw:Nat->al) (c:Nat->av aG) (b:du),(∀j,aA.T.C.D.eK j=if j=(gen+1)%2 then [b] else [])/\kK (λj=>if j=(gen+1)%2 then b else aA.V j) aA.T.n (gen+1) a aw c pages L/\a.clock=clock/\a.dA=dA
def rC(S:b9)(pages:O Nat)(L:O aR)(aL:O Nat)(bF:O aR)(w:J)(v:Y)(w':J):Prop:=
 ∃aA,da 100 S aA w w'/\aA.now=S.now/\
  ((v=.int .i64 0/\d_ w' aA pages L pages L/\aA.failed=false/\aA.gen=S.gen+1/\aA.u.clock=S.now/\aA.u.dA=S.u.dA+1/\aA.pending=0)\/
   (v=.int .i64 3/\¬S.T.C.D.quiet/\d_ w' aA aL bF aL bF/\aA.failed=true/\aA.u=S.u/\aA.gen=S.gen/\(∀j,S.T.g j=true->aA.V j=S.V j)/\Er aA S.gen S.T.g pages L S.now (S.u.dA+1)))
end
section
variable {w w' w1:J}{C:cf}{X:Nat->Prop}{T:aQ}{S aA fW:b9}{pages aL:O Nat}{L bF:O aR}{f2:Nat->al}{aI:cf}{P':Nat->av aG}
def b9.at(S:b9)(f2:Nat->al)(aI:cf)(P':Nat->av aG):b9:={S with T:=(S.T.jb f2).bC aI P'}
theorem gn.xu(h:gn w S aL bF)(ht:cg w' ((S.T.jb f2).bC aI P'))(a:Var w' S.st S.cells 158)(b:aI.D.d=S.T.C.D.d)(e:aI.c=S.T.C.c)(fR:∀j,S.T.g j=true->aI.D.bT.getD j []=S.V j)(f:∀x∈aL,S.T.P x=P' x)(i:∀j,S.T.g j=true->aI.D.bZ j=true):
 gn w' (S.at f2 aI P') aL bF:=by
 refine⟨?_,ht,h.es,h.gw.agree fR f,h.gen,h.num,i⟩;show Var w' S.st (hW _ aI.D.d aI.c _ _ _ _ _ _ _ _ _) _;rw[b,e];exact a
theorem da.at{k:Nat}(hc:af S.W w w')(b:aI.D.d=S.T.C.D.d)(c:aI.D.aV<=S.T.C.D.aV+k)(a:S.T.C.D.quiet->aI.D.quiet)(e:aI.D.r1=S.T.C.D.r1)(hf:∀q,dc aI q->dc S.T.C q\/w.heap.size<=q):da k S (S.at f2 aI P') w w':=
 ⟨rfl,b,rfl,rfl,c,a,hc,λq a=>by
  rcases a with a|a
  .exact(hf q a).imp .inl id
  .exact .inl (.inr a),rfl,rfl,e⟩
theorem xv(p:gn w1 fW aL bF)(a:da 100 S fW w w1)(s:fW.u=S.u)(t:fW.gen=S.gen)(x:fW.now=S.now)(m:¬S.T.C.D.quiet)(fR:∀j,S.T.g j=true->fW.V j=S.V j)(y:fW.T.C.D.aV<=900000000)
 (z:(∀j,S.T.g j=true->fW.T.C.D.ey j=[])\/∃ (e:e1) (aw:Nat->al) (f:Nat->av aG) (b:du),(∀j,fW.T.C.D.ey j=if j=(S.gen+1)%2 then [b] else [])/\kK (λj=>if j=(S.gen+1)%2 then b else fW.V j) fW.T.n (S.gen+1) e aw f pages L/\e.clock=S.now/\e.dA=S.u.dA+1):
 aK ai 81 #[.pointer (some S.st),(3:Int)] w1 (rC S pages L aL bF w):=by
 have hf:=Eo p 3 y;rw[a.st]at hf;refine hf.mono ?_;rintro v w' ⟨rfl,aA,hs,hd,c⟩;have o:∀j,aA.V j=fW.V j:=λj=>by unfold b9.V;rw[c.V]
 refine⟨aA,⟨hd.st.trans a.st,hd.d.trans a.d,hd.n.trans a.n,hd.l.trans a.l,by rw[c.aV];exact a.aV,λh=>absurd h m,c3 a.ah hd.ah λq A i=>a.back A i,λq i=>?_,hd.E.trans a.E,hd.G.trans a.G,hd.r.trans a.r⟩,c.now.trans x,.inr ⟨rfl,m,hs,c.failed,c.u.trans s,c.gen.trans t,λj k=>(o j).trans (fR j k),?_⟩⟩
 .have:=a.ah.size
  rcases hd.c7 q i with h1|h1
  .exact a.c7 q h1
  .exact .inr I
 .rcases z with h1|⟨e,aw,f,b,h1,h2,B,F⟩
  .exact .inl λj k=>(c.sa j).trans (h1 j k)
  .exact .inr ⟨e,aw,f,b,λj=>(c.sa j).trans (h1 j),by rw[hd.n];exact h2.agree (λj _=>by rw[o]) λ_ _=>rfl,B,F⟩
theorem Kv{V:Nat->du}{no:Nat}{i:Nat->av aG}(h:d_ w S pages L aL bF)(k:f2=dK (dK S.T.f no true) S.u.map false)(K:(S.T.f no||S.T.g no)=false)(A:2<=no)(B:no<S.T.n)(M:L.length<4096)(l:∀x∈pages,i x=S.T.P x)
 (D:V ((S.gen+1)%2)=eN ((S.gen+1)%2) (ju ⟨S.T.root,S.T.aN,no,S.now,S.u.dA+1,L.length⟩ S.T.n (S.gen+1))) (fR:∀j,j≠(S.gen+1)%2->V j=if j=no then eN no ⟨4,S.gen+1,jf f2 ((S.T.n+7)/8)⟩ else if S.T.g j=true then S.V j else S.T.C.view j)
 (hg:∀j,S.T.g j=true->S.V j=S.T.C.view j):kK V S.T.n (S.gen+1) ⟨S.T.root,S.T.aN,no,S.now,S.u.dA+1,L.length⟩ f2 i pages L:=by
 have E:=h.t.s.bz;have F:=h.num;have m:=h.t.num;have o:=h.gw.xt;have N:=o.2.2.2.2.1;have p:S.T.f S.u.map=true:=(h.f _).2 (.inr (.inr rfl));have q:S.T.f no=false:=by cases O:S.T.f no<;>simp_all
 have r:∀x∈pages,x≠no:=λx hx e=>by
  have:=(h.f x).2 (.inl hx);rw[e,q]at this;cases this
 have G:∀x∈pages,x<S.T.n:=λx hx=>Nat.lt_of_not_le λe=>by
  have:=h.t.s.pf x e;rw[(h.f x).2 (.inl hx)]at this;cases this
 have H:∀j,j≠(S.gen+1)%2->j≠no->V j=S.T.C.view j:=λj h1 h2=>by
  rw[fR j h1,if_neg h2];by_cases e:S.T.g j=true
  .rw[if_pos e,hg j e]
  .rw[if_neg e]
 have v:n0 ⟨S.T.root,S.T.aN,no,S.now,S.u.dA+1,L.length⟩ S.T.n:=by
  refine⟨?_,m.2.1,m.1,B,A,E⟩;rcases h.ok with ⟨a1,a2,_⟩|b
  .exact⟨λ_=>a1,λ_=>a2⟩
  .obtain⟨ck,Q,_,a2,_,_⟩:=b.kY
   have:=(h.two S.T.root (by rw[a2];simp)).1;constructor
   .intro e;have e:S.T.root=0:=e;omega
   .intro e
    have e:S.T.aN=0:=e;rw[e]at b;exact b.elim
 have y:nZ ⟨S.T.root,S.T.aN,no,S.now,S.u.dA+1,L.length⟩:=⟨by show S.T.root<_;omega,by show S.T.aN<_;omega,by show no<_;omega,F.1,by show S.u.dA+1<_;omega,by show L.length<_;omega⟩;refine⟨⟨S.u.map,o.2.2.2.1,by rw[k];unfold dK;rw[if_pos rfl]⟩,?_,.inr ⟨S.u,S.gen,?_,I⟩,⟨S.gen+1,bt _,?_⟩,λj=>?_,h.ck,λx hx=>⟨(h.two x hx).1,r x hx,G x hx⟩,?_,λx hx ck z=>?_,rfl,h.kv,y,v,by show S.u.dA+1+1<=S.gen+1;omega⟩
 .rw[D]
  exact C5 y v I I
 .have e:1-(S.gen+1)%2=S.gen%2:=by omega
  have J:S.T.g (S.gen%2)=true:=(h.gw.g _).2 (.inr (.inl I));rw[e,fR _ I,if_neg I,if_pos J];exact h.gw.En
 .show fD (no:Int) (V no)=_
  rw[fR _ I,if_pos rfl];exact wR I ⟨(by decide:1<=4),(by decide:4<=4),by show S.gen+1<_;omega,by show(jf _ _).length<=232;rw[xq];omega⟩
 .rw[k]
  show dK (dK S.T.f no true) S.u.map false j=true↔j∈pages\/j<2\/j=no;unfold dK;by_cases c:j=S.u.map
  .rw[if_pos c]
   refine⟨λh=>(by cases h),λa=>?_⟩;rcases a with a|a|a
   .exact absurd c (h.two j a).2
   .omega
   .rw[←c,a,q]at p;cases p
  .rw[if_neg c]
   by_cases d:j=no
   .rw[if_pos d];exact⟨λ_=>.inr (.inr d),λ_=>rfl⟩
   .rw[if_neg d,h.f j]
    constructor
    .rintro(a|a|a)
     .exact .inl a
     .exact .inr (.inl a)
     .exact absurd a c
    .rintro(a|a|a)
     .exact .inl a
     .exact .inr (.inl a)
     .exact absurd a d
 .rcases h.ok with ⟨a1,a2,a3,a4⟩|b
  .exact .inl ⟨a1,a2,a3,a4⟩
  .exact .inr (b.agree λx hx=>(l x hx).symm).1
 .rw[l x hx]at z
  rw[H x (by have:=(h.two x hx).1;omega) (r x hx),←h.gen];exact(h.t.eU x ck z).2
end
section
variable {w w' w1:J}{C:cf}{X:Nat->Prop}{T:aQ}{S aA fW:b9}{pages aL:O Nat}{L bF:O aR}{f2:Nat->al}{aI:cf}{P':Nat->av aG}
theorem Kw{f:Nat->al}{n k:Nat}(h:k<n):n1 f n (k:Int)=dK f k false:=by
 unfold n1;rw[if_pos ⟨I,I⟩,di]
theorem Kx{ba d c sb gen now first pending keys st:Nat}{l:fj}{u:e1}{failed:al}(b:Var w st (hW ba d c sb l u gen now first pending keys failed) 158)(a:e1){K:J->Prop}(e:∀aj,Var aj st (hW ba d c sb l a gen now first pending keys failed) 158->af (λq=>q=st) w aj->K aj):
 bk w ⟨st,7,none⟩ [a.root,a.aN,a.map,.int .u64 (a.clock:Nat),.int .u64 (a.dA:Nat),a.keys]/\(6:Nat)=6/\
  ak (setCells w ⟨st,7,none⟩ 0 [a.root,a.aN,a.map,.int .u64 (a.clock:Nat),.int .u64 (a.dA:Nat),a.keys]) K:=
 ⟨bu.b3 b _ _ (by simp[hW]) λv f=>e1.plain a v f,rfl,aX (e _ (bu.lB (o:=7) b _) (af.j6 (.refl _ _) _ 0))⟩
theorem Es(h:d_ w S pages L aL bF)(al:S.failed=false)(dj:L.length<4096)(eM:S.T.C.D.aV<=800000000)(eQ:S.gen<=1000000000):
 aK ai 94 #[.pointer (some S.st)] w (rC S pages L aL bF w):=by
 refine okF (ae.vB (some S.st)) ay.vB func94 ?_;(delta ae.vB g4 an bS aF b5 bK ed kt aa gT st;dsimp only);obtain⟨bp,bq,dk⟩:=h.live al;obtain⟨no,cd⟩:=DG dk;obtain⟨ce,dl,_⟩:=Dd cd;have eR:=h.t.s.bz;have aW:=h.num;have dm:=h.gen;have ch:=h.gw.xt;have ci:S.T.f no=false:=by cases dn:S.T.f no<;>simp_all
 have am:S.T.g no=false:=by cases dn:S.T.g no<;>simp_all
 have cj:2<=no:=Nat.le_of_not_lt λe=>by
  have:=(h.gw.g no).2 (.inr (.inl e));rw[am]at this;cases this
 have eS:S.T.M S.st:=.inr (.inr (.inr (.inl h.es)));refine⟨_,rfl,_,by rw[az];exact h.v.cell,(Df h.t.s).use ?_⟩;rintro _ cl ⟨rfl,cm,aZ⟩;rw[cd]at cm⊢;refine⟨(no:Nat),0,rfl,λhx=>(by cases hx),λ_=>aX ?_⟩;have dp:=(h.t.xc (f:=dK S.T.f no true) cm aZ).1;have dq:=h.v.ah aZ (h.t.dT _ h.es).2.1;have a0:Ext cl cl.drew:=cE _;have bs:=dq.ext a0;have co:=dp.ext a0;refine⟨_,rfl,id,_,by rw[az];exact bs.cell,_,rfl,id,_,by rw[az,az];exact bs.cell,(Dg co.s (S.u.map:Nat)).use ?_⟩;rintro _ a1 ⟨rfl,cp,a2⟩;rw[Kw (by exact ch.2.2.2.1)]at cp;obtain⟨f2,bu⟩:∃f2,f2=dK (dK S.T.f no true) S.u.map false:=⟨_,rfl⟩;have cq:fh a1 S.T.sb S.T.n f2 S.T.g S.T.s1 S.T.s2:=by rw[bu];exact cp
 have bv:cg a1 (S.T.jb f2):=(co.xc (f:=f2) cq a2).1;have cr:=bs.ah a2 (h.t.dT _ h.es).2.1;refine⟨_,rfl,aX ?_⟩;have a3:Ext a1 a1.drew:=cE _;have cs:=cr.ext a3;have dr:=bv.ext a3;have bw:IntKind.wrap .u64 ((S.gen:Int)+1)=((S.gen+1:Nat):Int):=by rw[gq I I];omega
 refine⟨λ_=>False,_,rfl,id,_,by rw[az];exact cs.cell,_,rfl,id,_,by rw[az];exact cs.cell,(Dm dr.s).use ?_⟩;rintro _ ds ⟨a4,rfl,dt,bx,eT⟩;have dv:aT 1 5 ds a4 (aD (jf f2 ((S.T.n+7)/8))):=by rw[Eg];exact dt
 have ct:nT ⟨4,S.gen+1,jf f2 ((S.T.n+7)/8)⟩:=⟨(by decide:1<=4),(by decide:4<=4),by show S.gen+1<_;omega,by show(jf _ _).length<=232;rw[xq];omega⟩;rw[bw];refine⟨a4,rfl,bx,#[(4:Int),.int .u64 ((S.gen+1:Nat):Int),a4],λeV=>by kernel_rfl,(wV (s:=a4) (p:=⟨4,S.gen+1,jf f2 ((S.T.n+7)/8)⟩) (no:=no) dv.src I ct).use ?_⟩;rintro _ cw ⟨dw,rfl,cx,cy,dx⟩;have bA:=a3.trans (Ext.trans bx cy);have a5:=bv.ext bA;have cz:=cr.ext bA;have eW:=aZ.size;have eX:=a2.size;have eY:=a0.size;have eZ:=a3.size;have e0:=bx.size;have a6:af S.W w cw:=c3 (c3 (c3 (c3 (af.refl _ _) aZ λq _ a=>h.ml (.inr (.inr (.inl a)))) a0 λq _ a=>a.elim) a2 λq _ a=>h.ml (.inr (.inr (.inl a)))) bA λq _ a=>a.elim;have dy:(eN no ⟨4,S.gen+1,jf f2 ((S.T.n+7)/8)⟩).length=256:=s8 _ ct;refine⟨dw,0,rfl,cy,λhx=>(by cases hx),λ_=>⟨_,rfl,_,by rw[az];exact cz.cell,(Dx a5.ca (by show S.T.C.D.aV<=_;omega) (no:=no) (by rw[a5.n];exact ce) cj (λhs=>?_) cx.src dy λq a=>⟨aT.lt cx q a,λhf=>?_⟩).use ?_⟩⟩
 .rcases a5.bZ no hs with h1|h1
  .rw[show(S.T.jb f2).g no=S.T.g no from rfl,am]at h1;cases h1
  .exact bp h1
 .have h1:=dx q a
  have h2:=bv.lt (q:=q) (.inl hf);omega
 rintro _ a7 ⟨G,cB,cC,a8⟩;have y:eG S.T.C G cw a7 1:=cC;have cG:∀j,j≠no->G.view j=S.T.C.view j:=λj b=>by
  rcases a8 with ⟨_,bB⟩|⟨_,_,bB⟩
  .rw[bB,if_neg b];rfl
  .rw[bB];rfl
 obtain⟨F,bD⟩:∃F:Nat->av aG,F=λj=>if j=no then none else S.T.P j:=⟨_,rfl⟩
 have aB:∀j,j≠no->F j=S.T.P j:=λj b=>by rw[bD];exact if_neg b
 obtain⟨aC,_⟩:=a5.rq (P:=F) cB cC λj ck ag=>by
  have b:j≠no:=λe=>by rw[bD]at ag;simp[e]at ag
  rw[cG j b];exact h.t.eU j ck (by rw[←aB j b];exact ag)
 have dB:¬dc S.T.C S.st:=(h.t.ca.inv.fi _ (.inr (.inr (.inl h.es)))).2;have bE:=cz.ah y.ah dB;have bG:af S.W w a7:=c3 a6 y.ah λq _ a=>h.ml (.inl a);have a9:∀x∈aL,S.T.P x=F x:=λx hx=>(aB x λe=>by
  have:=(h.gw.g x).2 (.inl hx);rw[e,am]at this;cases this).symm
 have bH:G.D.bT=S.T.C.D.bT:=congrArg (λp=>p.1.1) y.bT;have bI:G.D.cu.getD 3 0=S.T.C.D.cu.getD 3 0:=congrArg Prod.snd y.bT;have dC:gn a7 (S.at f2 G F) aL bF:=h.togn.xu aC bE y.d y.c (λj b=>by rw[bH];rfl) a9 λj b=>by rw[y.bZ];exact h.bZ j b
 have dD:da 100 S (S.at f2 G F) w a7:=da.at bG y.d (by have:=y.aV;omega) (λa=>⟨λk=>y.calm k (a.1 _),bI.trans a.2⟩) (congrArg (λp=>p.1.2.2.2.2) y.bT) λq a=>(y.c7 q a).imp id λe=>by have:=a6.size;omega
 have dE:∀j,S.T.g j=true->G.D.ey j=[]:=λj b=>by
  rw[cB.inv.me j (by rw[y.bZ];exact h.bZ j b),y.n4.2,bq]
 rcases a8 with ⟨rfl,a8⟩|⟨rfl,dF,_⟩
 rotate_left
 .exact⟨3,rfl,λ_=>(xv dC dD rfl rfl rfl (λa=>dF (a.1 1)) (λj b=>by unfold b9.V;show G.D.bT.getD j []=_;rw[bH]) (by show G.D.aV<=_;have:=y.aV;omega) (.inl dE)).use λv w' bJ=>by
   obtain⟨aA,r1,aF,b5⟩:=bJ;rcases b5 with ⟨rfl,aY⟩|⟨rfl,aY⟩
   .exact⟨0,rfl,aA,r1,aF,.inl ⟨rfl,aY⟩⟩
   .exact⟨3,rfl,aA,r1,aF,.inr ⟨rfl,aY⟩⟩,λhx=>(by cases hx)⟩
 refine⟨0,rfl,λhx=>(by cases hx),λ_=>⟨_,rfl,_,by rw[az];exact bE.cell,?_⟩⟩;have cH:=Kc aC.ca (by show G.D.aV<=_;have:=y.aV;omega) λj b=>by show G.D.eK j=_;rw[y.n4.2,bq]
 rw[show((S.T.jb f2).bC G F).C.c=S.T.C.c from y.c]at cH;refine cH.use ?_;rintro _ ao ⟨o,R⟩;have dG:¬dc G S.st:=(aC.ca.inv.fi _ (.inr (.inr (.inl h.es)))).2;have a_:=bE.ah R.ah dG;have ab:o.D.d=S.T.C.D.d:=R.d.trans y.d;have bb:o.c=S.T.C.c:=R.c.trans y.c;have bd:o.D.r1=S.T.C.D.r1:=R.r.trans (congrArg (λp=>p.1.2.2.2.2) y.bT);have aE:∀q,dc o q->dc S.T.C q\/w.heap.size<=q:=λq a=>by
  have:=bG.size;have:=a6.size;rcases R.c7 q a with h1|h1
  .exact(y.c7 q h1).imp id λe=>by omega
  .exact .inr I
 have bL:af S.W w ao:=c3 bG R.ah λq al a=>by
  have:=a6.size;exact h.ml (.inl ((y.c7 q a).resolve_right I))
 have cI:∀ (bM:cf),(∀j,2<=j->bM.view j=G.view j)->∀j ck,F j=some ck->j<S.T.n/\g6 S.T.gen ck.leaf j (bM.view j) ck:=λbM dH j ck ag=>by
  have b:j≠no:=λe=>by rw[bD]at ag;simp[e]at ag
  have h1:=h.t.eU j ck (by rw[←aB j b];exact ag);rw[dH j h1.2.two,cG j b];exact h1
 have be:cg ao ((S.T.jb f2).bC o F):=aC.Ep R.at_ R.ah R.c R.n (cI o λj _=>R.view j) λj b=>by
  rw[R.bZ.1]at b;rcases aC.bZ j b with h1|h1
  .exact .inl h1
  .exact .inr λi=>by rw[R.bZ.1];exact h1 i
 have ap:o.D.bZ=S.T.C.D.bZ:=R.bZ.1.trans y.bZ;have dI:o.D.eK=λ_=> []:=R.bZ.2.trans (y.n4.2.trans bq);have e2:o.D.aV<=S.T.C.D.aV+70:=by have h1:o.D.aV<=G.D.aV+64:=R.aV;have:=y.aV;omega
 have fin:∀ (w1:J) (Z:Y->J->Prop),aK ai 81 #[.pointer (some S.st),(3:Int)] w1 (rC S pages L aL bF w)->(∀v w',rC S pages L aL bF w v w'->Z v w')->Calls ai 81 #[.pointer (some S.st),(3:Int)] w1 (λe aj=>∃n:Int,e=.returned n/\Z n aj):=λw1 Z bJ cK=>bJ.use λv w' hc=>by
  have dL:=hc;obtain⟨aA,r1,aF,b5⟩:=dL;rcases b5 with ⟨rfl,aY⟩|⟨rfl,aY⟩
  .exact⟨0,rfl,cK _ _ hc⟩
  .exact⟨3,rfl,cK _ _ hc⟩
 rcases R.iF with ⟨rfl,dM,cL,dN⟩|⟨rfl,dO,dP⟩
 rotate_left
 .have cM:o.D.bT=S.T.C.D.bT:=dO.trans bH
  have dQ:gn ao (S.at f2 o F) aL bF:=h.togn.xu be a_ ab bb (λj b=>by rw[cM];rfl) a9 λj b=>by rw[ap];exact h.bZ j b
  have ac:¬S.T.C.D.quiet:=λa=>by
   rcases dP with h1|h1
   .exact h1 (y.calm 64 (a.1 _))
   .unfold bm.gv at h1
    rw[show((S.T.jb f2).bC G F).C.D.cu.getD 3 0=S.T.C.D.cu.getD 3 0 from bI,a.2]at h1
    cases h1
  have dR:da 100 S (S.at f2 o F) w ao:=da.at bL ab I (λa=>absurd a ac) bd aE;exact⟨3,rfl,λ_=>fin _ _ (xv dQ dR rfl rfl rfl ac (λj b=>by unfold b9.V;show o.D.bT.getD j []=_;rw[cM]) (by show o.D.aV<=_;omega) (.inl λj b=>by
   show o.D.ey j=[];rw[R.at_.inv.me j (by rw[ap];exact h.bZ j b),dI])) λ_ _ h=>h,λhx=>(by cases hx)⟩
 have aH:∀j,o.D.ey j=[]:=λj=>by unfold bm.ey;rw[dM];rfl
 have bf:∀j,o.D.bT.getD j []=if j=no then eN no ⟨4,S.gen+1,jf f2 ((S.T.n+7)/8)⟩ else S.T.C.view j:=λj=>by
  have h1:=Ka R.at_ cL j;rw[zu _ (λx hx=>(R.at_.raw.dev.wn x hx).1),if_pos (aH j)]at h1;rw[←h1,R.view];exact a8 j
 have aI:∀j,S.T.g j=true->S.V j=S.T.C.view j:=λj b=>(h.view al b).symm;refine⟨0,rfl,λhx=>(by cases hx),λ_=>⟨_,rfl,_,a_.cell,?_⟩⟩;have cN:=D9 be;rw[show((S.T.jb f2).bC o F).ba=S.T.ba from rfl]at cN;refine cN.use ?_;rintro _ bN ⟨rfl,bO⟩;have bP:Ext bN bN.drew:=cE _;have bQ:=(a_.ext bO).ext bP;have dS:IntKind.wrap .u64 ((S.u.dA:Int)+1)=((S.u.dA+1:Nat):Int):=by rw[gq I I];omega
 refine⟨_,_,rfl,aX ⟨λ_=>False,_,rfl,id,_,by rw[az];exact bQ.cell,_,rfl,id,_,by rw[az,az];exact bQ.cell,_,rfl,id,_,by rw[az];exact bQ.cell,?_⟩⟩;rw[dS];obtain⟨H,ad⟩:∃H:e1,H=⟨S.T.root,S.T.aN,no,S.now,S.u.dA+1,S.keys⟩:=⟨_,rfl⟩;refine⟨H.c.toArray,λe3=>by rw[ad];kernel_rfl,bc (vs:=C3.c) rfl λe4 cO cP e6=>⟨cP,?_⟩⟩;obtain⟨aJ,dU⟩:∃aJ,aJ=bN.drew.heap.size:=⟨_,rfl⟩;rw[←dU]at cO⊢;refine C6 cO rfl H λaM dV dW e7=>aX ?_;have e8:=bO.size;have e9:=bP.size;have dX:Ext ao aM:=Ext.cD (Ext.trans bO (bP.trans cP)) dW I;have cQ:Ext aM aM.drew:=cE _;have aO:Ext ao aM.drew:=Ext.trans dX cQ;have bR:=dV.ext cQ;have bg:=a_.ext aO;have bU:=be.ext aO;generalize e_:aM.drew=bh at bR bg bU aO⊢;refine⟨_,rfl,id,_,by rw[az];exact bg.cell,id,rn bR ⟨_,rfl,id,_,by rw[az];exact bg.cell,?_⟩⟩;rw[bw];have dY:nZ H:=by
  have h1:=h.t.num;have h2:=h.keys;rw[ad];exact⟨by show S.T.root<_;omega,by show S.T.aN<_;omega,by show no<_;omega,aW.1,by show S.u.dA+1<_;omega,by show S.keys<_;omega⟩
 have bV:o.D.n=S.T.n:=R.n.trans (y.n.trans h.t.n);have U:er S.T.X bh o:=bU.ca;have cS:=nH U.raw.dev I dY (gen:=S.gen+1) I;rw[ab]at cS;refine cS.use ?_;rintro v aP ⟨aq,bX⟩;have fa:=aO.size;have dZ:∀q,dc o q->q<aJ:=λq a=>by have:=R.at_.raw.lt a;omega
 have d0:=bR.ah aq λhf=>by have:=dZ aJ (.inr (.inr hf));omega
 have d1:¬dc o S.st:=(be.ca.inv.fi _ (.inr (.inr (.inl h.es)))).2;have bi:=bg.ah aq λhf=>d1 (.inr (.inr hf));have d2:af S.W w bh:=c3 bL aO λq _ a=>a.elim;have fb:=bL.size;have bY:af S.W w aP:=c3 d2 aq λq al a=>h.ml<| .inl ((aE q (.inr (.inr a))).resolve_right I)
 have main:∀ (A:bm),dz aP A->A.d=o.D.d->k3 A o.D->(∀i,2<=i->A.now i=o.D.now i)->(∀q,cA A q->cA o.D q\/bh.heap.size<=q)->(∀j,A.bZ j=true->S.T.g j=true)->
  cg aP ((S.T.jb f2).bC {o with D:=A} F)/\∀q,dc {o with D:=A} q->dc S.T.C q\/w.heap.size<=q:=λA ak d3 cT d4 cU b0=>by
  obtain⟨hE,eB⟩:=Ks U ak d3 cT d4 aq cU;refine⟨bU.Ep hE (aq.mono λq _ a=>.inr (.inr a)) rfl cT.1 (cI _ λj b=>(eB j b).trans (R.view j)) λj b=>.inl (b0 j b),λq a=>?_⟩;rcases a with a|a|a
  .exact aE q (.inl a)
  .exact aE q (.inr (.inl a))
  .rcases cU q a with h1|h1
   .exact aE q (.inr (.inr h1))
   .exact .inr I
 have fc:¬o.D.ro:=λe=>bp λi=>by rw[←ap];exact e i
 have d5:∀j,o.D.bZ j=true->S.T.g j=true:=λj b=>by
  rw[ap]at b;exact(h.t.bZ j b).resolve_right bp
 have cV:S.T.C.D.quiet->∀k,o.D.calm k:=λa k=>R.calm k (y.calm _ (a.1 _));rcases bX with ⟨b1,rfl,ak⟩|⟨b1,s,d6,br,Q,bX⟩
 .obtain⟨ar,aR⟩:=main (o.D.cJ 2) ak rfl (U.inv.cJ 2) (λi _=>tp o.D 2 i) (λq a=>.inl a) λj b=>d5 j b
  have b2:gn aP (S.at f2 {o with D:=o.D.cJ 2} F) aL bF:=h.togn.xu ar bi ab bb (λj b=>by
   show o.D.bT.getD j []=_;rw[bf j,if_neg (λe=>by rw[e,am]at b;cases b),aI j b]) a9 λj b=>by show o.D.bZ j=true;rw[ap];exact h.bZ j b
  have ac:¬S.T.C.D.quiet:=λa=>by
   have:=(j_ (k:=2) (m:=0) (.inr rfl) U.raw.dev.f4 (cV a 1)).2;rw[this]at b1;cases b1
  exact⟨3,rfl,λ_=>fin _ _ (xv b2 (da.at bY ab (by show o.D.aV<=_;omega) (λa=>absurd a ac) bd aR) rfl rfl rfl ac (λj b=>by
   show o.D.bT.getD j []=_;rw[bf j,if_neg (λe=>by rw[e,am]at b;cases b),aI j b]) (by show o.D.aV<=_;omega) (.inl λj _=>aH j)) λ_ _ h=>h,λhx=>(by cases hx)⟩
 have cW:∀j,br.ey j=if j=(S.gen+1)%2 then [eN ((S.gen+1)%2) (ju H o.D.n (S.gen+1))] else []:=λj=>by
  rw[Q,C1,aH,aH];rfl
 have cX:H=⟨S.T.root,S.T.aN,no,S.now,S.u.dA+1,L.length⟩:=by rw[ad,h.keys]
 have cY:∀V:Nat->du,(∀j,V j=if j=(S.gen+1)%2 then eN ((S.gen+1)%2) (ju H o.D.n (S.gen+1)) else o.D.bT.getD j [])->kK V S.T.n (S.gen+1) H f2 F pages L:=λV fR=>by
  rw[cX];refine Kv h bu dl cj ce dj (λx hx=>aB x λe=>by
   have:=(h.f x).2 (.inl hx);rw[e,ci]at this;cases this) (by rw[fR,if_pos rfl,cX,bV]) (λj b=>?_) aI
  rw[fR,if_neg b,bf];by_cases e:j=no
  .rw[if_pos e,if_pos e]
  .rw[if_neg e,if_neg e]
   by_cases b3:S.T.g j=true
   .rw[if_pos b3,aI j b3]
   .rw[if_neg b3]
 have bj:∀q,cA br q->cA o.D q\/bh.heap.size<=q:=by rw[Q];exact xp d6
 have d7:∀i,2<=i->br.now i=o.D.now i:=λi hi=>by rw[Q,pH,if_neg I]
 have b4:br.n=o.D.n:=by rw[Q];rfl
 have b6:br.d=o.D.d:=by rw[Q];rfl
 have d8:br.bT=o.D.bT:=by rw[Q];rfl
 have d9:br.aV=o.D.aV+1:=by rw[Q];rfl
 have cZ:S.T.C.D.quiet->br.cu.getD 3 0= -1:=λa=>by
  rw[Q];show(o.D.cu.set 2 _).getD 3 0=_;have bk:=U.raw.dev.f4;rw[fu (by rw[dJ];omega),fH (by decide),←fu (d:=0),dN];rw[show((S.T.jb f2).bC G F).C.D.cu.getD 3 0=S.T.C.D.cu.getD 3 0 from bI,a.2];rfl
 rcases bX with ⟨bl,rfl,ak⟩|⟨bl,rfl,ak⟩
 .obtain⟨A,N⟩:∃A,A=(br.cJ 3).g1 S.T.g λj=>if j=(S.gen+1)%2 then [eN ((S.gen+1)%2) (ju H o.D.n (S.gen+1))] else []:=⟨_,rfl⟩
  obtain⟨ar,aR⟩:=main A (by rw[N];exact ak.g1 _ _) (by rw[N];exact b6) ⟨by rw[N];exact b4,λj b=>by rw[ap];exact h.bZ j (by rw[N]at b;exact b),λj _=>by rw[N];exact cW j⟩ (λi hi=>by rw[N];exact d7 i hi) (λq a=>by rw[N]at a;exact bj q a) λj b=>by rw[N]at b;exact b
  have c0:A.bT=o.D.bT:=by rw[N];exact d8
  have fd:A.aV=o.D.aV+1:=by rw[N];exact d9
  have c1:A.d=S.T.C.D.d:=by rw[N];exact b6.trans ab
  have ea:A.r1=S.T.C.D.r1:=by rw[N];exact(show br.r1=o.D.r1 by rw[Q];rfl).trans bd
  have b0:∀j,A.ey j=if j=(S.gen+1)%2 then [eN ((S.gen+1)%2) (ju H o.D.n (S.gen+1))] else []:=λj=>by rw[N];exact cW j
  have c2:∀j,S.T.g j=true->A.bT.getD j []=S.V j:=λj b=>by rw[c0,bf j,if_neg (λe=>by rw[e,am]at b;cases b),aI j b]
  have b2:gn aP (S.at f2 {o with D:=A} F) aL bF:=h.togn.xu ar bi c1 bb c2 a9 λj b=>by rw[N];exact b
  have ac:¬S.T.C.D.quiet:=λa=>by
   unfold bm.gv at bl;rw[cZ a]at bl;cases bl
  exact⟨3,rfl,λ_=>fin _ _ (xv b2 (da.at bY c1 (by show A.aV<=_;omega) (λa=>absurd a ac) ea aR) rfl rfl rfl ac c2 (by show A.aV<=_;omega) (.inr ⟨H,f2,F,_,b0,cY _ λj=>by show(if _ then _ else A.bT.getD j [])=_;rw[c0],by rw[ad],by rw[ad]⟩)) λ_ _ h=>h,λhx=>(by cases hx)⟩
 have eb:∀j,S.T.n<=j->o.D.bT.getD j []=[]:=λj b=>by
  rw[gd,oz (by have:o.D.bT.length=S.T.n:=bV;omega)];rfl
 have c4:∀j,o.D.now j=o.D.bT.getD j []:=λj=>by rw[zu _ (λx hx=>(U.raw.dev.wn x hx).1),if_pos (aH j)]
 have fe:br.n=S.T.n:=b4.trans bV;have ec:∀j,(br.cJ 3).jx.bT.getD j []=if j=(S.gen+1)%2 then eN ((S.gen+1)%2) (ju H o.D.n (S.gen+1)) else o.D.bT.getD j []:=λj=>by
  show((List.range br.n).map br.now).getD j []=_;have ff:16<=br.n:=by have:16<=o.D.n:=U.raw.dev.bW;omega
  by_cases b:j<br.n
  .rw[fu (by simp;exact b),List.getElem_map,List.getElem_range,Q,pH,c4]
  .rw[gd,oz (by simp;omega),if_neg I,eb j I];rfl
 obtain⟨K,O⟩:∃K,K=(br.cJ 3).jx.g1 (λ_=>false) λ_=> []:=⟨_,rfl⟩;have ee:∀j,K.ey j=[]:=λj=>by rw[O];rfl
 have c5:∀j,K.bT.getD j []=if j=(S.gen+1)%2 then eN ((S.gen+1)%2) (ju H o.D.n (S.gen+1)) else o.D.bT.getD j []:=λj=>by rw[O];exact ec j
 have ef:K.n=o.D.n:=by rw[O];exact(tA (br.cJ 3)).trans b4
 have b7:K.d=S.T.C.D.d:=by rw[O];exact b6.trans ab
 obtain⟨ar,aR⟩:=main K (by rw[O];exact ak.g1 _ _) (b7.trans ab.symm) ⟨ef,λj b=>(by rw[O]at b;cases b),λj b=>(by rw[O]at b;cases b)⟩ (λi hi=>by
  have h1:K.now i=K.bT.getD i []:=by rw[O];rfl
  rw[h1,c5,if_neg I,c4]) (λq a=>by
   rw[O]at a;rcases a with e|e|e|⟨x,hx,e⟩
   .exact bj q (.inl e)
   .exact bj q (.inr (.inl e))
   .exact bj q (.inr (.inr (.inl e)))
   .cases hx) λj b=>(by rw[O]at b;cases b)
 refine⟨0,rfl,λhx=>(by cases hx),λ_=>⟨_,rfl,_,by rw[az];exact bi.cell,(IU ar.s).use ?_⟩⟩;rintro _ aS ⟨rfl,s2,eg,aU,c6⟩;have au:=cY (λj=>K.bT.getD j []) c5;have eh:f2 0=true/\f2 1=true:=⟨(au.g 0).2 (.inr (.inl (by decide))),(au.g 1).2 (.inr (.inl (by decide)))⟩;obtain⟨ei,fg⟩:=ar.space eg aU c6 (λj b=>by
  have b:K.bZ j=true:=b;rw[O]at b;cases b) eh
 have fj:=aU.size;have ej:=bi.ah aU (h.t.dT _ h.es).2.1;have el:=d0.ah aU λhf=>by
  have h1:=h.t.lt (q:=aJ) (.inr (.inr (.inl hf)));omega
 have em:=ei.g1 (s:=f2) (z:=λ_=> []) (λf hf j en _ _=>by
  have h1:=cL f hf;unfold Fr.g7 at h1;rw[en]at h1;simpa using h1) (λj _=>ee j) λj b=>.inl b
 obtain⟨gr,B⟩:∃gr:aQ,gr=(((S.T.jb f2).bC {o with D:=K} F).xo f2 f2 S.T.s1 s2).bC {o with D:=K.g1 f2 λ_=> []} F:=⟨_,rfl⟩;have eo:cg aS gr:=by rw[B];exact em
 have bn:Ext aS aS.drew:=cE _;have c8:Var aS.drew S.st (hW S.T.ba S.T.C.D.d S.T.C.c S.T.sb S.l S.u S.gen S.now S.first S.pending S.keys S.failed) 158:=ej.ext bn;have ep:=el.ext bn;have eq:=eo.ext bn;have bo:gr.E=S.T.E:=by rw[B];rfl
 refine⟨rfl,aX ⟨λ_=>False,id,rn ep ⟨_,rfl,id,_,by rw[az];exact c8.cell,_,rfl,?_⟩⟩⟩;rw[az,cF,bw];refine Kx c8 H λc9 c_ db=>?_;have et:=eq.jQ (by rw[bo];exact h.es) db;obtain⟨cc,cn⟩:=eP c_ (i:=13) (by simp[hW]);have dd:=eO c_ (i:=13) (.int .u64 ((S.gen+1:Nat):Int));have eu:=ek c9 S.st 13 (.int .u64 ((S.gen+1:Nat):Int));refine⟨_,rfl,by rw[az];exact cc,by rw[az];exact cn,aX ?_⟩;rw[az,cF];obtain⟨ev,ew⟩:=eP dd (i:=16) (by simp[hW]);have de:=eO dd (i:=16) (0:Int);have b8:=eu.trans (ek _ S.st 16 (0:Int));refine⟨_,rfl,by rw[az];exact ev,by rw[az];exact ew,aX ?_⟩;rw[az,cF];generalize (c9.setCell ⟨S.st,13,none⟩ (.int .u64 ((S.gen+1:Nat):Int))).setCell ⟨S.st,16,none⟩ (0:Int)=df at de b8⊢;have ex:=et.jQ (by rw[bo];exact h.es) b8;have b_:Ext df df.drew:=cE _;have cb:=de.ext b_;have ez:=ex.ext b_;refine aX ⟨_,rfl,id,_,cb.cell,_,rfl,id,_,by rw[az];exact cb.cell,?_⟩;have eA:IntKind.wrap .u64 (((S.gen+1:Nat):Int)+1)=((S.gen+2:Nat):Int):=by rw[gq I I];omega
 rw[eA];have fk:gr.gen=S.gen+1:=by rw[B];exact dm
 have dg:gr.ba=S.T.ba:=by rw[B];rfl
 have dh:=Ku ez (gen:=S.gen+2) I I;rw[dg]at dh;refine dh.use ?_;rintro _ eC ⟨rfl,eD,di⟩;have eE:=cb.ah di (h.t.dT _ h.es).1;have eF:∀q,(gr.na (S.gen+2)).M q->S.T.M q\/w.heap.size<=q:=λq a=>by
  rw[B]at a;rcases a with a|a|a|a
  .exact(aR q a).imp .inl id
  .exact .inl (.inr (.inl a))
  .rcases c6 q a with h1|h1
   .exact .inl (.inr (.inr (.inl h1)))
   .have:=aq.size;exact .inr I
  .exact .inl (.inr (.inr (.inr a)))
 refine⟨rfl,⟨S.st,gr.na (S.gen+2),S.l,H,S.gen+1,S.now,S.first,0,S.keys,S.failed⟩,⟨rfl,?_,by rw[B];rfl,rfl,?_,λa=>?_,?_,eF,bo,by rw[B];rfl,by rw[B];exact(show K.r1=br.r1 by rw[O];rfl).trans ((show br.r1=o.D.r1 by rw[Q];rfl).trans bd)⟩,rfl,.inl ⟨rfl,⟨⟨?_,eD,?_,?_,rfl,?_,?_⟩,?_,h.ck,?_,?_,h.kv,h.keys,cR _,λ_=>⟨?_,?_,?_⟩,λhf=>?_⟩,al,rfl,by rw[ad],by rw[ad],rfl⟩⟩
 .rw[B];exact b7
 .rw[B];show K.aV<=_;rw[O];show br.aV<=_;omega
 .rw[B]
  show bm.quiet (K.g1 _ _);rw[O];refine⟨λk=>tB br ?_,?_⟩
  .have bk:=(j_ (k:=2) (m:=k) (.inr rfl) U.raw.dev.f4 (cV a (k+1))).1
   rw[Q];exact bk
  .show(br.cu.set 3 (gY (br.cu.getD 3 0)).2).getD 3 0= -1
   have bk:=U.raw.dev.f4;have fl:br.cu.length=4:=by rw[Q];show(o.D.cu.set 2 _).length=4;rw[dJ];exact bk
   rw[cZ a,fu (by rw[dJ];omega),iO];rfl
 .have hs:∀q,q=S.st->S.W q:=λq e=>by rw[e];exact h.Ad
  have aw:af S.W w aS:=c3 bY aU λq _ a=>h.ml (.inr (.inr (.inl a)));have ax:=c3 aw bn λq _ a=>a.elim;have eH:=c3 ax db λq _ a=>hs q a;have eI:=c3 eH b8 λq _ a=>hs q a;have eJ:=c3 eI b_ λq _ a=>a.elim;exact c3 eJ di λq _ a=>h.ml (.inr (.inl a))
 .show Var eC S.st (hW gr.ba gr.C.D.d gr.C.c gr.sb _ _ _ _ _ _ _ _) _
  rw[dg,show gr.C.D.d=S.T.C.D.d by rw[B];exact b7,show gr.C.c=S.T.C.c by rw[B];exact bb,show gr.sb=S.T.sb by rw[B];rfl];exact eE
 .show gr.E S.st
  rw[bo];exact h.es
 .rw[B];exact au
 .refine⟨aW.1,aW.2.1,?_,by show S.gen+1+2<_;omega,aW.2.2.2.2⟩
  show H.dA+1<=S.gen+1;rw[ad];show S.u.dA+1+1<=_;omega
 .intro j b
  have b:gr.g j=true:=b;show gr.C.D.bZ j=true;rw[B]at b⊢;exact b
 .refine h.ok.agree (by rw[B];rfl) (by rw[B];rfl) λx hx=>?_
  rw[B];exact(aB x λe=>by
   have:=(h.f x).2 (.inl hx);rw[e,ci]at this;cases this).symm
 .intro j
  have:(gr.na (S.gen+2)).f j=f2 j:=by rw[B];rfl
  rw[this];exact au.g j
 .intro x hx
  exact⟨(au.two x hx).1,(au.two x hx).2.1⟩
 .intro e
  have h1:=e S.T.n;have h2:(gr.na (S.gen+2)).C.D.bZ S.T.n=f2 S.T.n:=by rw[B];rfl
  rw[h2,cq.pf S.T.n (bt _)]at h1;cases h1
 .rw[B];rfl
 .have eL:f2 S.u.map=false:=by rw[bu];unfold dK;rw[if_pos rfl]
  have h1:=xd (s:=λi=>f2 i||f2 i) (t:=dK (λi=>f2 i||f2 i) S.u.map true) (k:=S.u.map) (by simp[eL]) (by simp[dK]) (λi hi=>by simp[dK,hi]) (n:=S.T.n) ch.2.2.2.1;have h2:=n2 (dK (λi=>f2 i||f2 i) S.u.map true) S.T.n;have fm:cv (gr.na (S.gen+2))=S.T.n-e5 (λi=>f2 i||f2 i) S.T.n:=by rw[B];rfl
  show 1<=cv (gr.na (S.gen+2));omega
 .have hf:S.failed=true:=hf
  rw[al]at hf;cases hf
end
theorem Ky(a b:Int)(w:J)(T:TypeId)(k:IntKind):Sem.run ai (Builtin.max_ #[T,T] T #[.int k a,.int k b]) w=.ok (.int k (max a b)) w:=by
 simp only[Builtin.max_];unfold Builtin.max2;simp;split<;>omega
theorem da.trans{S aA b:b9}{w w' c:J}{k l:Nat}(h1:da k S aA w w')(h2:da l aA b w' c):da (k+l) S b w c:=
 ⟨h2.st.trans h1.st,h2.d.trans h1.d,h2.n.trans h1.n,h2.l.trans h1.l,by have:=h1.aV;have:=h2.aV;omega,λh=>h2.q (h1.q h),c3 h1.ah h2.ah λq f a=>h1.back f a,λq a=>by
  have:=h1.ah.size
  rcases h2.c7 q a with e|e
  .exact h1.c7 q e
  .exact .inr I,h2.E.trans h1.E,h2.G.trans h1.G,h2.r.trans h1.r⟩
theorem da.mono{S aA:b9}{w w':J}{k l:Nat}(h:da k S aA w w')(a:k<=l):da l S aA w w':={h with aV:=by have:=h.aV;omega}
theorem da.ext{w w':J}(S:b9)(h:Ext w w'):da 0 S S w w':=⟨rfl,rfl,rfl,rfl,bt _,λh=>h,h.mono λ_ _ h=>h.elim,λq a=>.inl a,rfl,rfl,rfl⟩
section
variable {w w' w1:J}{T:aQ}{S aA fW:b9}{pages aL:O Nat}{L bF:O aR}
theorem gn.ext(h:gn w S aL bF)(hx:Ext w w'):gn w' S aL bF:=⟨h.v.ext hx,h.t.ext hx,h.es,h.gw,h.gen,h.num,h.bZ⟩
theorem d_.ext(h:d_ w S pages L aL bF)(hx:Ext w w'):d_ w' S pages L aL bF:=⟨h.togn.ext hx,h.ok,h.ck,h.f,h.two,h.kv,h.keys,h.pS,h.live,h.dead⟩
theorem d_.jQ{k5:Nat}(h:d_ w S pages L aL bF)(a:S.T.E k5)(hs:k5≠S.st)(hc:af (λq=>q=k5) w w'):d_ w' S pages L aL bF:=
 ⟨⟨h.v.ah hc λe=>hs e.symm,h.t.jQ a hc,h.es,h.gw,h.gen,h.num,h.bZ⟩,h.ok,h.ck,h.f,h.two,h.kv,h.keys,h.pS,h.live,h.dead⟩
theorem Kz(h:d_ w S pages L aL bF):aK ai 56 #[.pointer (some S.st)] w (λv w'=>v=S.keys/\w=w'):=by
 refine okF (ae.yH (some S.st)) ay.yH func56 ?_;exact⟨λa=>(by cases a),λ_=>⟨_,rfl,_,by rw[az];exact h.v.cell,rfl,rfl⟩⟩
def iK(S:b9):Nat:=cv S.T-2*S.T.aN-4
theorem Et(h:d_ w S pages L aL bF):aK ai 82 #[.pointer (some S.st)] w (λv w'=>v=.int .i64 (iK S:Nat)/\Ext w w'):=by
 refine okF (ae.vv (some S.st)) ay.vv func82 ?_;delta ae.vv g4 bS ar;refine⟨_,rfl,_,h.v.cell,(D9 h.t).use ?_⟩;rintro _ e ⟨rfl,a⟩;refine⟨_,_,rfl,_,rfl,_,by rw[az];exact(h.v.ext a).cell,(zE (h.t.ext a).s).use ?_⟩;rintro _ b ⟨rfl,c⟩;have j:=h.t.s.bz;have k:=h.t.num.2.1;have l:=n2 (λi=>S.T.f i||S.T.g i) S.T.n;have d:(S.T.n:Int)-e5 (λi=>S.T.f i||S.T.g i) S.T.n=((cv S.T:Nat):Int):=by unfold cv;omega
 have m:cv S.T<=S.T.n:=Nat.sub_le _ _;rw[d,bB (n:=2*(S.T.aN:Int)) I I];refine⟨_,rfl,_,b,Ky _ _ b _ _,?_,Ext.trans a c⟩;rw[bB (n:=((cv S.T:Nat):Int)-2*(S.T.aN:Int)) I I,bB I I];unfold iK
 congr 1
 omega
end
def jT(c:Prop)(S aA:b9)(pages:O Nat)(L:O aR)(aL:O Nat)(bF:O aR)(v:Y)(w':J):Prop:=
 (v=.int .i64 0/\c/\d_ w' aA pages L pages L/\aA.failed=false/\aA.gen=S.gen+1/\aA.u.clock=S.now/\aA.u.dA=S.u.dA+1/\aA.pending=0)\/
 (v=.int .i64 3/\¬S.T.C.D.quiet/\d_ w' aA aL bF aL bF/\aA.failed=true/\aA.u=S.u/\aA.gen=S.gen/\(∀j,S.T.g j=true->aA.V j=S.V j)/\((∀j,S.T.g j=true->aA.T.C.D.eK j=[])\/(c/\Er aA S.gen S.T.g pages L S.now (S.u.dA+1))))
theorem rC.x{c:Prop}{S:b9}{pages aL:O Nat}{L bF:O aR}{w w':J}{v:Y}(h:rC S pages L aL bF w v w')(hc:c):∃aA,da 100 S aA w w'/\aA.now=S.now/\jT c S aA pages L aL bF v w':=by
 obtain⟨aA,h1,h2,a⟩:=h;refine⟨aA,h1,h2,?_⟩;rcases a with ⟨a1,a2,a3⟩|⟨a1,a2,a3,a4,a5,dL,dG,eo⟩
 .exact .inl ⟨a1,hc,a2,a3⟩
 .exact .inr ⟨a1,a2,a3,a4,a5,dL,dG,.inr ⟨hc,eo⟩⟩
theorem jT.val{c:Prop}{S aA:b9}{pages aL:O Nat}{L bF:O aR}{w':J}{v:Y}(h:jT c S aA pages L aL bF v w'):∃n:Int,v=n:=by
 rcases h with ⟨a,_⟩|⟨a,_⟩<;>exact⟨_,a⟩
def nc(S aA:b9)(pages:O Nat)(L:O aR)(aL:O Nat)(bF:O aR)(v:Y)(w':J):Prop:=
 (v=.int .i64 0/\S.pending+1<S.l.batch/\d_ w' aA pages L aL bF/\aA.failed=false/\aA.gen=S.gen/\aA.u=S.u/\aA.pending=S.pending+1/\aA.first=(if S.pending=0 then S.now else S.first)/\∀j,S.T.g j=true->aA.V j=S.V j)\/
 jT (S.l.batch<=S.pending+1) S aA pages L aL bF v w'
section
variable {w w' w1:J}{T:aQ}{S aA fW:b9}{pages aL:O Nat}{L bF:O aR}
theorem KA{d:Int}(b:gn w S aL bF)(t:S.failed=false)(ok:g0 S.T pages L)(ck:pages.Nodup)(f:∀no,S.T.f no=true↔no∈pages\/no<2\/no=S.u.map)(two:∀x∈pages,2<=x/\x≠S.u.map)(kv:∀p∈L,cI p.1/\p.2.length<=24)
 (X:¬S.T.C.D.ro/\S.T.C.D.eK=(λ_=> [])/\1<=cv S.T) (Y:(S.keys:Int)+d=L.length) (ap:S.pending<1000) (Z:L.length<4096) (aq:S.keys<100000) (aa:S.T.C.D.aV<=800000000) (ab:S.gen<=1000000000):
 aK ai 84 #[.pointer (some S.st),d] w (λv w'=>∃aA,da 100 S aA w w'/\aA.now=S.now/\nc S aA pages L aL bF v w'):=by
 refine okF (ae.vx (some S.st) d) ay.vx func84 ?_;(delta ae.vx aF st ar an b5 bS;dsimp only);have N:=b.num;have au:S.T.M S.st:=.inr (.inr (.inr (.inl b.es)));obtain⟨aw,ax,g,y,z⟩:=b.set (i:=17) (x:=L.length) (by decide);refine⟨_,rfl,_,by rw[az];exact b.v.cell,_,rfl,by rw[az];exact aw,by rw[az];exact ax,aX ?_⟩;rw[az,cF,Y,bB (n:=(L.length:Int)) I I];generalize av:w.setCell ⟨S.st,17,none⟩ L.length=ac at g y z⊢;obtain⟨m,s⟩:∃m,m=if S.pending=0 then S.now else S.first:=⟨_,rfl⟩
 refine j4 (λk=>Var k S.st (hW S.T.ba S.T.C.D.d S.T.C.c S.T.sb S.l S.u S.gen S.now m S.pending L.length S.failed) 158/\cg k S.T/\af (λq=>q=S.st) w k) (λaB O=>?_) ?_
 .refine⟨_,rfl,_,by rw[az];exact g.cell,λA=>?_,λA=>O _ ⟨?_,y,z⟩⟩
  .have h0:S.pending=0:=by
    have:(S.pending:Int)=0:=by simpa using A
    omega
   obtain⟨B,E⟩:=eP g (i:=15) (by simp[b9.cells,hW]);have ad:=eO g (i:=15) (.int .u64 (S.now:Int));have P:=ek ac S.st 15 (.int .u64 (S.now:Int));refine⟨_,rfl,_,by rw[az];exact g.cell,_,rfl,by rw[az];exact B,by rw[az];exact E,aX (O _ ⟨?_,?_,?_⟩)⟩
   .rw[az,cF,s,if_pos h0];exact ad
   .rw[az,cF];exact y.jQ b.es P
   .rw[az,cF];exact z.trans P
  .have h0:¬S.pending=0:=by
    have:¬(S.pending:Int)=0:=by simpa using A
    omega
   rw[s,if_neg h0];exact g
 rintro k ⟨F,ag,ah⟩;obtain⟨B,E⟩:=eP F (i:=16) (by simp[hW]);have Q:=eO F (i:=16) (.int .i64 ((S.pending+1:Nat):Int));have G:=ek k S.st 16 (.int .i64 ((S.pending+1:Nat):Int));have aj:IntKind.wrap .i64 ((S.pending:Int)+1)=((S.pending+1:Nat):Int):=by rw[bB I I];omega
 refine⟨_,rfl,_,by rw[az];exact F.cell,_,rfl,by rw[az];exact B,by rw[az];exact E,aX ?_⟩;rw[az,cF,aj];have R:=ag.jQ b.es G;generalize aC:k.setCell ⟨S.st,16,none⟩ (.int .i64 ((S.pending+1:Nat):Int))=o at Q G R⊢;have H:Ext o o.drew:=cE _;have J:=Q.ext H;have ak:=R.ext H;have al:af (λq=>q=S.st) w o.drew:=c3 (ah.trans G) H λq _ K=>K.elim;obtain⟨cy,a⟩:∃cy:b9,cy={S with first:=m,pending:=S.pending+1,keys:=L.length}:=⟨_,rfl⟩;have am:m<=S.now:=by rw[s];split<;>omega
 have U:d_ o.drew cy pages L aL bF:=by
  rw[a];exact⟨⟨J,ak,b.es,b.gw,b.gen,⟨N.1,am,N.2.2⟩,b.bZ⟩,ok,ck,f,two,kv,rfl,by show S.pending+1<=1000;omega,λ_=>X,λhf=>by have hf:S.failed=true:=hf;rw[t]at hf;cases hf⟩
 have V:da 0 S cy w o.drew:=by
  rw[a];exact⟨rfl,rfl,rfl,rfl,bt _,λh=>h,al.mono λq _ e=>by rw[e];exact b.Ad,λq K=>.inl K,rfl,rfl,rfl⟩
 refine aX ⟨_,rfl,id,_,by rw[az];exact J.cell,_,rfl,id,_,by rw[az,az];exact J.cell,λr=>?_,λr=>?_⟩
 .have r:((S.pending+1:Nat):Int)>=(S.l.batch:Int):=cl r
  have W:=Es U (by rw[a];exact t) Z (by rw[a];exact aa) (by rw[a];exact ab);rw[show cy.st=S.st by rw[a]]at W;refine W.use ?_;intro v aD ao;obtain⟨aA,r1,aF,b5⟩:=ao.x (c:=S.l.batch<=S.pending+1) I;obtain⟨n,rfl⟩:=b5.val;refine⟨n,rfl,aA,(V.trans r1).mono I,by rw[aF,a],.inr ?_⟩;rw[a]at b5;exact b5
 .have r:¬((S.pending+1:Nat):Int)>=(S.l.batch:Int):=cw r
  exact⟨cy,V.mono I,by rw[a],.inl ⟨rfl,I,U,by rw[a];exact t,by rw[a],by rw[a],by rw[a],by rw[a];exact s,λj _=>by rw[a];rfl⟩⟩
theorem KB(h:d_ w S pages L aL bF)(a:L.length<4096)(b:S.T.C.D.aV<=800000000)(d:S.gen<=1000000000):
 aK ai 34 #[.pointer (some S.st)] w (λv w'=>(S.failed=true/\v=.int .i64 8/\w=w')\/(S.failed=false/\∃aA,da 100 S aA w w'/\aA.now=S.now/\jT True S aA pages L aL bF v w')):=by
 refine okF (ae.vk (some S.st)) ay.vk func34 ?_;(delta ae.vk an aY bS;dsimp only);refine⟨λe=>(by cases e),λ_=>⟨_,rfl,S.failed,by rw[az];exact h.v.cell,λhf=>.inl ⟨hf,rfl,rfl⟩,λhf=>(Es h hf a b d).use ?_⟩⟩;intro v w' f;obtain⟨aA,r1,aF,b5⟩:=f.x (c:=True) trivial;obtain⟨n,rfl⟩:=b5.val;exact⟨n,rfl,.inr ⟨hf,aA,r1,aF,b5⟩⟩
end
section
variable {w w' w1:J}{T au:aQ}{S aA fW:b9}{pages aL:O Nat}{L bF:O aR}{k:Nat}
def b9.cm(S:b9)(au:aQ):b9:={S with T:=au}
theorem gn.to(h:gn w S aL bF)(ht:cg w' au)(a:b4 S.T au w w' k)(f:au.E=S.T.E)(l:au.G=S.T.G)(o:∀no,S.T.g no=true->au.P no=S.T.P no):
 gn w' (S.cm au) aL bF/\da k S (S.cm au) w w'/\(S.cm au).V=S.V:=by
 have r:au.C.D.bT=S.T.C.D.bT:=congrArg (λp=>p.1.1) a.bT;have s:au.C.D.cu.getD 3 0=S.T.C.D.cu.getD 3 0:=congrArg Prod.snd a.bT;have i:(S.cm au).V=S.V:=by
  funext j;show au.C.D.bT.getD j []=S.T.C.D.bT.getD j [];rw[r]
 refine⟨⟨?_,ht,by show au.E S.st;rw[f];exact h.es,?_,a.gen.trans h.gen,h.num,λj b=>?_⟩,⟨rfl,a.d,a.n,rfl,a.aV,λe=>⟨λm=>a.calm m (e.1 _),s.trans e.2⟩,a.ah.mono λq _ e=>h.ml e,a.c7,f,l,congrArg (λp=>p.1.2.2.2.2) a.bT⟩,i⟩
 .show Var w' S.st (hW au.ba au.C.D.d au.C.c au.sb _ _ _ _ _ _ _ _) _
  rw[a.ba,a.d,a.c,a.sb];exact h.v.ah a.ah (h.t.k1 h.es)
 .show kK _ au.n _ _ au.g au.P _ _
  rw[i,a.n,a.g];exact h.gw.agree (λ_ _=>rfl) λx hx=>(o x ((h.gw.g x).2 (.inl hx))).symm
 .have b:au.g j=true:=b
  rw[a.g]at b;show au.C.D.bZ j=true;rw[a.bZ.1];exact h.bZ j b
theorem b4.ro(h:b4 T au w w' k):au.C.D.ro↔T.C.D.ro:=by unfold bm.ro;rw[h.bZ.1]
theorem d_.to(h:d_ w S pages L aL bF)(ht:cg w' au)(a:b4 S.T au w w' k)(c:au.E=S.T.E)(d:au.G=S.T.G)(b:jw S.T au):
 d_ w' (S.cm au) pages L aL bF/\da k S (S.cm au) w w'/\(S.cm au).V=S.V:=by
 obtain⟨h1,h2,i⟩:=h.togn.to ht a c d λno j=>(b.eS no (by rw[j,Bool.or_true])).1;have l:cv au=cv S.T:=by unfold cv;rw[a.n,b.f,a.g]
 refine⟨⟨h1,b.ok h.ok λx hx=>(h.f x).2 (.inl hx),h.ck,λno=>by show au.f no=true↔_;rw[b.f];exact h.f no,h.two,h.kv,h.keys,h.pS,λhf=>?_,λhf=>?_⟩,h2,i⟩
 .obtain⟨a1,a2,a3⟩:=h.live hf
  exact⟨λe=>a1 (a.ro.1 e),a.bZ.2.trans a2,by show 1<=cv au;rw[l];exact a3⟩
 .obtain⟨a1,a2⟩:=h.dead hf
  exact⟨a.ro.2 a1,a2⟩
theorem KC{tk:ad}{key:Key}(h:d_ w S pages L aL bF)(b:S.T.C.D.aV<=800000000)(c:Src 1 w tk (aD key))(d:∀q,aE tk q->q<w.heap.size/\¬S.T.M q):
 aK ai 55 #[.pointer (some S.st),tk] w (λv w'=>∃aI,d_ w' (S.cm (S.T.bC aI S.T.P)) pages L aL bF/\da 30 S (S.cm (S.T.bC aI S.T.P)) w w'/\zZ S.T L key w v w'):=by
 refine okF (ae.vm (some S.st) tk) ay.vm func55 ?_;delta ae.vm an l2;refine⟨λe=>(by cases e),λ_=>⟨_,rfl,_,h.v.cell,(z1 h.t h.ok b c d).use ?_⟩⟩;intro v w' a;have f:=a;obtain⟨aI,h1,h2,g,i⟩:=a;obtain⟨a1,a2,_⟩:=h.to h1 h2 rfl rfl (.bC g);have fin:(λv w'=>∃aI,d_ w' (S.cm (S.T.bC aI S.T.P)) pages L aL bF/\da 30 S (S.cm (S.T.bC aI S.T.P)) w w'/\zZ S.T L key w v w') v w':=⟨aI,a1,a2,f⟩;rcases i with ⟨rfl,_⟩|⟨t,x,rfl,_⟩|⟨rfl,_⟩
 .exact⟨⟨none,0,0⟩,_,_,rfl,fin⟩
 .exact⟨t,_,_,rfl,fin⟩
 .exact⟨⟨none,0,0⟩,_,_,rfl,fin⟩
end
theorem Ae(k v:Key):∀L:O aR,(gM L k v).length=(e3 L k).length+1
 | []=>rfl
 |p::L=>by
  have b:=Ae k v L
  unfold gM e3 at b⊢
  simp only[cG,gx,hJ]at b⊢
  by_cases h1:bD p.1 k
  .have h2:¬bD k p.1:=j8 h1
   have a:p.1≠k:=λe=>by rw[e]at h1;exact j8 h1 h1
   rw[if_pos (dD h1),if_neg (by simpa using h2),if_pos (dD a)]
   simp only[gx];omega
  .by_cases h2:bD k p.1
   .have a:p.1≠k:=λe=>h1 (by rw[e]at h2;exact absurd h2 (λh=>j8 h h))
    rw[if_neg (by simpa using h1),if_pos (dD h2),if_pos (dD a)]
    simp only[gx];omega
   .have a:p.1=k:=by
     rcases wF p.1 k with h|h|h
     .exact absurd h h1
     .exact h
     .exact absurd h h2
    rw[if_neg (by simpa using h1),if_neg (by simpa using h2),if_neg (by simpa using a)];omega
theorem xw{k:Key}:∀ {L:O aR},hN L->L.length=(e3 L k).length+(if fe L k=none then 0 else 1)
 | [],_=>rfl
 |p::L,h=>by
  have h0:=jB.1 h
  have d:=xw (k:=k) h0.2
  by_cases e:p.1=k
  .have h1:∀q∈L,q.1≠k:=λq b c=>by
    have:=h0.1 q b
    rw[e,c]at this
    exact j8 this this
   have h2:e3 (p::L) k=L:=by
    have:e3 (p::L) k=e3 L k:=by unfold e3;rw[hJ];simp[e]
    rw[this,s5 h1]
   have a:fe (p::L) k≠none:=by unfold fe;simp[e]
   rw[h2,if_neg a];rfl
  .have h2:(e3 (p::L) k).length=(e3 L k).length+1:=by unfold e3;rw[hJ];simp[e]
   have a:fe (p::L) k=fe L k:=by unfold fe;simp[e]
   rw[h2,a,gx];omega
section
variable {w w' w1:J}{T au:aQ}{S aA c_:b9}{pages aL:O Nat}{L bF:O aR}{k:Nat}
structure kh(S c_:b9):Prop where
 u:c_.u=S.u
 gen:c_.gen=S.gen
 now:c_.now=S.now
 first:c_.first=S.first
 pending:c_.pending=S.pending
 l:c_.l=S.l
 g:c_.T.g=S.T.g
 V:c_.V=S.V
theorem jT.back{c:Prop}{v:Y}(h:jT c c_ aA pages L aL bF v w')(e:kh S c_)(d:da k S c_ w w1):jT c S aA pages L aL bF v w':=by
 unfold jT at h⊢;rw[e.u,e.gen,e.now,e.g,e.V]at h;exact h.imp id λ⟨a,b,c⟩=>⟨a,λf=>b (d.q f),c⟩
theorem nc.back{v:Y}(h:nc c_ aA pages L aL bF v w')(e:kh S c_)(a:da k S c_ w w1):nc S aA pages L aL bF v w':=by
 unfold nc at h⊢;have:=λh=>jT.back (pages:=pages) (L:=L) (aL:=aL) (bF:=bF) (c:=S.l.batch<=S.pending+1) (v:=v) (aA:=aA) (w':=w') h e a;rw[e.pending,e.l,e.gen,e.u,e.now,e.first,e.g,e.V]at h;exact h.imp id this
theorem tE(b:gn w1 c_ aL bF)(d:da k S c_ w w1)(e:kh S c_)(h:¬S.T.C.D.quiet)(i:c_.T.C.D.eK=λ_=> [])(l:c_.T.C.D.aV<=900000000):
 aK ai 81 #[.pointer (some S.st),(3:Int)] w1 (λv w'=>v=.int .i64 3/\∃aA,da k S aA w w'/\aA.now=S.now/\∀c pages L,jT c S aA pages L aL bF v w'):=by
 have hf:=Eo b 3 l;rw[d.st]at hf;refine hf.mono ?_;rintro v w' ⟨rfl,aA,hs,hd,a⟩;refine⟨rfl,aA,d.trans hd,a.now.trans e.now,λc pages L=>.inr ⟨rfl,h,hs,a.failed,a.u.trans e.u,a.gen.trans e.gen,λj f=>?_,.inl λj f=>?_⟩⟩
 .rw[←e.V];unfold b9.V;rw[a.V]
 .rw[a.sa j,b.t.ca.inv.me j (b.bZ j (by rw[e.g];exact f)),i]
theorem d_.Eu{b2:aQ}{ef:O aR}{d:Int}(h:d_ w S pages L aL bF)(hf:S.failed=false)(m:cg w' b2)(b:b4 S.T b2 w w' k)(o:b2.E=S.T.E)(q:b2.G=S.T.G)(r:DZ S.T b2 pages ef)(W:2*S.T.aN+5<=cv S.T)(s:∀p∈ef,cI p.1/\p.2.length<=24)(hd:(S.keys:Int)+d=ef.length)(t:ef.length<4096)(X:S.keys<4096)(y:S.pending<1000)(Y:S.T.C.D.aV+k<=800000000)(z:S.gen<=1000000000):
 aK ai 84 #[.pointer (some S.st),d] w' (λv i=>(∃n:Int,v=n)/\∃aA eH,da (k+100) S aA w i/\aA.now=S.now/\nc S aA eH ef aL bF v i):=by
 obtain⟨⟨eH,Z,A,eD,B,F⟩,H⟩:=r;obtain⟨I,l,J⟩:=h.togn.to m b o q λno K=>(H no K).1;have M:kh S (S.cm b2):=⟨rfl,rfl,rfl,rfl,rfl,rfl,b.g,J⟩;obtain⟨N,P,_⟩:=h.live hf;have Q:∀j,j<2\/j=S.u.map->j∉pages:=λj c R=>by
  have:=h.two j R;rcases c with c|c
  .omega
  .exact this.2 c
 refine(KA (d:=d) I hf A eD (λno=>(F no).trans ?_) (λx hx=>?_) s ⟨λe=>N (b.ro.1 e),b.bZ.2.trans P,by show 1<=cv b2;omega⟩ hd y t (by show S.keys<_;omega) (by have:=b.aV;show b2.C.D.aV<=_;omega) z).mono ?_
 .rw[h.f no]
  constructor
  .rintro(h1|⟨h1|h1,h2⟩)
   .exact .inl h1
   .exact absurd h1 h2
   .exact .inr h1
  .rintro(h1|h1)
   .exact .inl h1
   .exact .inr ⟨.inr h1,Q no h1⟩
 .rcases B x hx with h1|h1
  .exact h.two x h1
  .have h2:S.T.f x=false:=by cases aa:S.T.f x<;>simp_all
   refine⟨Nat.le_of_not_lt λU=>?_,λV=>?_⟩
   .rw[(h.f x).2 (.inr (.inl U))]at h2;cases h2
   .rw[(h.f x).2 (.inr (.inr V))]at h2;cases h2
 .rintro v i ⟨aA,r1,aF,b5⟩
  refine⟨?_,aA,eH,l.trans r1,aF,b5.back M l⟩;rcases b5 with ⟨a,_⟩|a
  .exact⟨0,a⟩
  .exact a.val
theorem qx(w:J)(s:ad):aK ai 79 #[s] w (λv w'=>v=.bool (decide (1<=s.len/\s.len<=24))/\w=w'):=by
 refine okF (ae.qx s) ay.qx func79 ?_;refine⟨?_,rfl⟩
 congr 1
 rw[eQ,dh,b_,b_,b_];omega
theorem KD{tk c2:ad}{key val:Key}(h:d_ w S pages L aL bF)(a3:L.length<4000)(F:S.pending<1000)(a4:S.T.C.D.aV<=700000000)(aj:S.gen<=1000000000)
 (G:Src 1 w tk (aD key)) (z:∀q,aE tk q->q<w.heap.size/\¬S.T.M q) (U:Src 1 w c2 (aD val)) (V:∀q,aE c2 q->q<w.heap.size/\¬S.T.M q):
 aK ai 23 #[.pointer (some S.st),tk,c2] w (λv w'=>(v=.int .i64 1/\¬(cI key/\val.length<=24)/\w=w')\/((cI key/\val.length<=24)/\
  ((S.failed=true/\v=.int .i64 8/\w=w')\/(S.failed=false/\∃aA,da 300 S aA w w'/\aA.now=S.now/\
    ((v=.int .i64 2/\iK S=0/\d_ w' S pages L aL bF/\aA=S)\/(iK S≠0/\∃eH,nc S aA eH (gM L key val) aL bF v w')))))):=by
 have ak:tk.len=key.length:=by have:=G.len;rw[dm]at this;omega
 have a5:c2.len=val.length:=by have:=U.len;rw[dm]at this;omega
 have a6:=h.t.s.bz;refine okF (ae.vf (some S.st) tk c2) ay.vf func23 ?_;(delta ae.vf an b8 aY bS l2;dsimp only);refine cq (λb w'=>(b=false↔cI key)/\w=w') (λq a=>⟨λA=>(by cases A),λ_=>(qx w tk).use ?_⟩) ?_
 .rintro _ _ ⟨rfl,rfl⟩
  refine⟨_,rfl,a _ _ ⟨?_,rfl⟩⟩;unfold cI;rw[ak,mz,b_]
 rintro b _ ⟨A,rfl⟩;refine⟨λh1=>.inl ⟨rfl,λhg=>?_,rfl⟩,λh1=>?_⟩
 .rcases Bool.or_eq_true_iff.1 h1 with h2|h2
  .rw[A.2 hg.1]at h2;cases h2
  .have:=cl h2;have:=hg.2;omega
 have hg:cI key/\val.length<=24:=by
  have h2:=rL.1 h1;have W:=cw h2.2;exact⟨A.1 h2.1,I⟩
 refine⟨_,rfl,S.failed,by rw[az];exact h.v.cell,λhf=>.inr ⟨hg,.inl ⟨hf,rfl,rfl⟩⟩,λhf=>(Et h).use ?_⟩;rintro _ a7 ⟨rfl,l⟩;have r:=h.ext l;obtain⟨am,ao,_⟩:=h.live hf;refine⟨_,rfl,λH=>.inr ⟨hg,.inr ⟨hf,S,(da.ext S l).mono I,rfl,.inl ⟨rfl,?_,r,rfl⟩⟩⟩,λH=>?_⟩
 .have:((iK S:Nat):Int)=0:=by simpa using H
  omega
 have B:iK S≠0:=by
  have:¬((iK S:Nat):Int)=0:=by simpa using H
  omega
 refine⟨_,rfl,_,r.v.cell,(z1 r.t r.ok I (G.ext l) λq a=>⟨by have:=(z q a).1;have:=l.size;omega,(z q a).2⟩).use ?_⟩;rintro v J ⟨i,X,m,ap,E⟩;obtain⟨o,Y,Z⟩:=r.to X m rfl rfl (.bC ap);have u:da 30 S (S.cm (S.T.bC i S.T.P)) w J:=((da.ext S l).trans Y).mono I;have K:kh S (S.cm (S.T.bC i S.T.P)):=⟨rfl,rfl,rfl,rfl,rfl,rfl,rfl,Z⟩;have N:(S.cm (S.T.bC i S.T.P)).T.C.D.eK=λ_=> []:=m.bZ.2.trans ao;have a8:i.D.aV<=S.T.C.D.aV+30:=m.aV;have aq:∀n:Int,v=.tuple #[(),false,(3:Int)]->¬S.T.C.D.quiet->aK ai 81 #[.pointer (some S.st),(3:Int)] J (λv w'=>v=.int .i64 3/\∃aA,da 30 S aA w w'/\aA.now=S.now/\∀c pages L,jT c S aA pages L aL bF v w'):=λ_ _ a=>tE o.togn u K a N (by show i.D.aV<=_;omega);have ar:∃ (t:ad) (e:al) (n:Int),v=.tuple #[t,e,n]/\((n=0/\(e=true↔fe L key≠none))\/(n=3/\¬S.T.C.D.quiet)):=by
  rcases E with ⟨rfl,j⟩|⟨t,x,rfl,_,hs,_⟩|⟨rfl,_,O⟩
  .exact⟨⟨none,0,0⟩,false,0,rfl,.inl ⟨rfl,λh=>(by cases h),λh=>absurd (j hg.1) h⟩⟩
  .exact⟨t,true,0,rfl,.inl ⟨rfl,λ_=>by rw[hs];simp,λ_=>rfl⟩⟩
  .exact⟨⟨none,0,0⟩,false,3,rfl,.inr ⟨rfl,λa=>O (a.1 30)⟩⟩
 clear aq E;obtain⟨t,e,n,rfl,au⟩:=ar;rcases au with ⟨rfl,he⟩|⟨rfl,Q⟩
 rotate_left
 .refine⟨t,e,3,rfl,λ_=>(tE o.togn u K Q N (by show i.D.aV<=_;omega)).use ?_,λh=>(by cases h)⟩
  rintro _ av ⟨rfl,aA,r1,aF,b5⟩;exact⟨3,rfl,.inr ⟨hg,.inr ⟨hf,aA,r1.mono I,aF,.inr ⟨B,[],.inr (b5 _ _ _)⟩⟩⟩⟩
 have a9:=l.size;have a_:=m.ah.size;have aa:∀s:ad,(∀q,aE s q->q<w.heap.size/\¬S.T.M q)->∀q,aE s q->q<J.heap.size/\¬(S.T.bC i S.T.P).M q:=λs hs q a=>⟨by have:=(hs q a).1;omega,λaw=>by
  rcases m.c7 q aw with h2|h2
  .exact(hs q a).2 h2
  .have:=(hs q a).1;omega⟩
 have ax:=(G.ext l).ah m.ah λq a j=>(z q a).2 (aQ.gZ j);have aB:=(U.ext l).ah m.ah λq a j=>(V q a).2 (aQ.gZ j);have aC:¬(S.T.bC i S.T.P).C.D.ro:=λe=>am (m.ro.1 e);refine⟨t,e,0,rfl,λh=>(by cases h),λ_=>⟨_,rfl,_,o.v.cell,?_⟩⟩;refine(JD X aC o.ok I o.ck (λx hx=>(o.f x).2 (.inl hx)) (by show i.D.aV<=_;omega) ax (aa tk z) aB (aa c2 V)).use ?_;rintro v aG (⟨_,aH,_⟩|⟨_,_,b2,ab,y,ac,af,E⟩)
 .exact absurd hg aH
 have aI:cv (S.T.bC i S.T.P)=cv S.T:=rfl;have aJ:(S.T.bC i S.T.P).aN=S.T.aN:=rfl;have aM:2*S.T.aN+5<=cv S.T:=by unfold iK at B;omega
 rcases E with ⟨_,aO,_⟩|⟨rfl,_,⟨eH,aP,aR,eD,aS,aT⟩,R⟩|⟨rfl,O,ba,bb,bc,R⟩
 .rw[aI,aJ]at aO;omega
 .have hlen:(S.keys:Int)+(if e=true then 0 else 1)=(gM L key val).length:=by
   have h1:=Ae key val L;have h2:=xw (k:=key) h.ok.rising;have W:=h.keys;by_cases j:fe L key=none
   .have:¬e=true:=λh=>he.1 h j
    rw[if_pos j]at h2;rw[if_neg this];omega
   .rw[if_neg j]at h2
    rw[if_pos (he.2 j)];omega
  have W:=h.keys;have aU:(gM L key val).length<4096:=by split at hlen<;>omega
  have ag:=λd hd=>o.Eu (d:=d) hf ab y ac af ⟨⟨eH,aP,aR,eD,aS,aT⟩,R⟩ aM (λp F=>by
   rcases Hf.1 F with rfl|⟨h1,_⟩
   .exact hg
   .exact h.kv p h1) hd aU (by show S.keys<_;omega) F (by show i.D.aV+100<=_;omega) aj
  refine⟨0,rfl,λh=>(by cases h),λ_=>⟨λht=>(ag 0 (by rw[←hlen,if_pos ht];rfl)).use ?_,λht=>(ag 1 (by rw[←hlen,if_neg (by rw[ht];decide)];rfl)).use ?_⟩⟩
  all_goals
   rintro v w' ⟨⟨n,rfl⟩,aA,eH,r1,aF,b5⟩;exact⟨n,rfl,.inr ⟨hg,.inr ⟨hf,aA,(u.trans r1).mono I,aF,.inr ⟨B,eH,b5.back K u⟩⟩⟩⟩
 .obtain⟨aW,aX,aZ⟩:=o.togn.to ab y ac af λno a0=>(R no (by show(S.T.f no||S.T.g no)=true;rw[show S.T.g no=true from a0,Bool.or_true])).1
  have a1:da 130 S (S.cm b2) w aG:=(u.trans aX).mono I;have a2:kh S (S.cm b2):=⟨rfl,rfl,rfl,rfl,rfl,rfl,y.g,aZ.trans Z⟩;have Q:¬S.T.C.D.quiet:=λa=>O ((Y.q a).1 100);refine⟨3,rfl,λ_=>(tE aW a1 a2 Q (y.bZ.2.trans N) (by have:=y.aV;show b2.C.D.aV<=_;have e:(S.T.bC i S.T.P).C.D.aV=i.D.aV:=rfl;omega)).use ?_,λh=>(by cases h)⟩;rintro _ av ⟨rfl,aA,r1,aF,b5⟩;exact⟨3,rfl,.inr ⟨hg,.inr ⟨hf,aA,r1.mono I,aF,.inr ⟨B,[],.inr (b5 _ _ _)⟩⟩⟩⟩
end
section
variable {w w' w1:J}{T au:aQ}{S aA c_:b9}{pages aL:O Nat}{L bF:O aR}{k:Nat}
theorem KE{tk:ad}{key:Key}(h:d_ w S pages L aL bF)(aS:L.length<4000)(H:S.pending<1000)(aT:S.T.C.D.aV<=700000000)(ab:S.gen<=1000000000)
 (J:Src 1 w tk (aD key)) (o:∀q,aE tk q->q<w.heap.size/\¬S.T.M q):
 aK ai 22 #[.pointer (some S.st),tk] w (λv w'=>(v=.tuple #[false,(1:Int)]/\¬cI key/\w=w')\/(cI key/\
  ((S.failed=true/\v=.tuple #[false,(8:Int)]/\w=w')\/(S.failed=false/\∃aA,da 300 S aA w w'/\aA.now=S.now/\
    ((v=.tuple #[false,(0:Int)]/\fe L key=none/\d_ w' aA pages L aL bF/\kh S aA/\aA.failed=false)\/
     (v=.tuple #[false,(2:Int)]/\fe L key≠none/\iK S=0/\d_ w' aA pages L aL bF/\kh S aA/\aA.failed=false)\/
     (∃n:Int,v=.tuple #[.bool (n==0),n]/\fe L key≠none/\iK S≠0/\∃eH,nc S aA eH (e3 L key) aL bF n w')\/
     (v=.tuple #[false,(3:Int)]/\∀c pages L,jT c S aA pages L aL bF (3:Int) w')))))):=by
 have ac:tk.len=key.length:=by have:=J.len;rw[dm]at this;omega
 have aU:=h.t.s.bz;refine okF (ae.ve (some S.st) tk) ay.ve func22 ?_;(delta ae.ve an b8 aY l2 bS kr;dsimp only);refine cq (λb w'=>(b=false↔cI key)/\w=w') (λq i=>⟨λu=>(by cases u),λ_=>(qx w tk).use ?_⟩) ?_
 .rintro _ _ ⟨rfl,rfl⟩
  refine⟨_,rfl,i _ _ ⟨?_,rfl⟩⟩;unfold cI;rw[ac,mz,b_]
 rintro b _ ⟨u,rfl⟩;refine⟨λh1=>.inl ⟨rfl,λhg=>?_,rfl⟩,λh1=>?_⟩
 .rw[u.2 hg]at h1;cases h1
 have hg:cI key:=u.1 h1;refine⟨_,rfl,S.failed,by rw[az];exact h.v.cell,λhf=>.inr ⟨hg,.inl ⟨hf,rfl,rfl⟩⟩,λhf=>?_⟩;obtain⟨af,ag,_⟩:=h.live hf;refine⟨_,rfl,_,h.v.cell,(z1 h.t h.ok I J o).use ?_⟩;rintro v aW ⟨a,aj,m,ak,y⟩;obtain⟨z,A,V⟩:=h.to aj m rfl rfl (.bC ak);have B:kh S (S.cm (S.T.bC a S.T.P)):=⟨rfl,rfl,rfl,rfl,rfl,rfl,rfl,V⟩;have W:(S.cm (S.T.bC a S.T.P)).T.C.D.eK=λ_=> []:=m.bZ.2.trans ag;have aX:a.D.aV<=S.T.C.D.aV+30:=m.aV;have am:∃ (t:ad) (e:al) (n:Int),v=.tuple #[t,e,n]/\((n=0/\(e=true↔fe L key≠none))\/(n=3/\¬S.T.C.D.quiet)):=by
  rcases y with ⟨rfl,j⟩|⟨t,x,rfl,_,hs,_⟩|⟨rfl,_,K⟩
  .exact⟨⟨none,0,0⟩,false,0,rfl,.inl ⟨rfl,λh=>(by cases h),λh=>absurd (j hg) h⟩⟩
  .exact⟨t,true,0,rfl,.inl ⟨rfl,λ_=>by rw[hs];simp,λ_=>rfl⟩⟩
  .exact⟨⟨none,0,0⟩,false,3,rfl,.inr ⟨rfl,λi=>K (i.1 30)⟩⟩
 clear y;obtain⟨t,e,n,rfl,ao⟩:=am;rcases ao with ⟨rfl,he⟩|⟨rfl,N⟩
 rotate_left
 .refine⟨t,e,3,rfl,λ_=>(tE z.togn A B N W (by show a.D.aV<=_;omega)).use ?_,λh=>(by cases h)⟩
  rintro _ E ⟨rfl,aA,r1,aF,b5⟩;exact⟨3,rfl,.inr ⟨hg,.inr ⟨hf,aA,r1.mono I,aF,.inr (.inr (.inr ⟨rfl,b5⟩))⟩⟩⟩
 refine⟨t,e,0,rfl,λh=>(by cases h),λ_=>⟨λO=>?_,λO=>(Et z).use ?_⟩⟩
 .have j:fe L key=none:=by
   cases ap:fe L key with
   |none=>rfl
   |some x=>
    have:e=true:=he.2 (by rw[ap];simp);rw[this]at O;cases O
  exact .inr ⟨hg,.inr ⟨hf,_,A.mono I,rfl,.inl ⟨rfl,j,z,B,hf⟩⟩⟩
 have j:fe L key≠none:=he.1 (by cases e<;>simp_all);rintro _ E ⟨rfl,F⟩;have l:=z.ext F;have G:da 30 S (S.cm (S.T.bC a S.T.P)) w E:=(A.trans (da.ext _ F)).mono I;have aq:iK (S.cm (S.T.bC a S.T.P))=iK S:=rfl;rw[aq];refine⟨_,rfl,λQ=>.inr ⟨hg,.inr ⟨hf,_,G.mono I,rfl,.inr (.inl ⟨rfl,j,?_,l,B,hf⟩)⟩⟩,λQ=>?_⟩
 .have:((iK S:Nat):Int)=0:=by simpa using Q
  omega
 have X:iK S≠0:=by
  have:¬((iK S:Nat):Int)=0:=by simpa using Q
  omega
 have aZ:=m.ah.size;have a0:=F.size;have ar:∀q,aE tk q->q<E.heap.size/\¬(S.T.bC a S.T.P).M q:=λq i=>⟨by have:=(o q i).1;omega,λau=>by
  rcases m.c7 q au with h2|h2
  .exact(o q i).2 h2
  .have:=(o q i).1;omega⟩
 have av:=(J.ah m.ah λq i j=>(o q i).2 (aQ.gZ j)).ext F;have aw:¬(S.T.bC a S.T.P).C.D.ro:=λe=>af (m.ro.1 e);refine⟨_,rfl,_,l.v.cell,?_⟩;refine(JG l.t aw l.ok I l.ck (λx hx=>(l.f x).2 (.inl hx)) (by show a.D.aV<=_;omega) av ar).use ?_;rintro v ax ⟨b2,Y,r,Z,aa,y⟩;have aB:cv (S.T.bC a S.T.P)=cv S.T:=rfl;have aC:(S.T.bC a S.T.P).aN=S.T.aN:=rfl;have aG:2*S.T.aN+5<=cv S.T:=by unfold iK at X;omega
 rcases y with ⟨_,R,_⟩|⟨_,_,R,_⟩|⟨_,_,_,U,_⟩|⟨rfl,_,_,_,aH⟩|⟨rfl,_,K,aI⟩
 .exact absurd hg R
 .exact absurd R j
 .have U:cv (S.T.bC a S.T.P)<2*(S.T.bC a S.T.P).aN+3:=U
  rw[aB,aC]at U;omega
 .have h2:=xw (k:=key) h.ok.rising
  rw[if_neg j]at h2;have a1:=h.keys;refine⟨true,0,rfl,λh=>(by cases h),λ_=>(l.Eu (d:= -1) hf Y r Z aa aH aG (λp H=>h.kv p (fU.1 H).1) (by show(S.keys:Int)+ -1=_;omega) I (by show S.keys<_;omega) H (by show a.D.aV+100<=_;omega) ab).use ?_⟩;rintro v w' ⟨⟨n,rfl⟩,aA,eH,r1,aF,b5⟩;exact⟨n,rfl,.inr ⟨hg,.inr ⟨hf,aA,(G.trans r1).mono I,aF,.inr (.inr (.inl ⟨n,rfl,j,X,eH,b5.back B G⟩))⟩⟩⟩
 .obtain⟨aJ,aM,aO⟩:=l.to Y r Z aa aI
  have aP:da 130 S (S.cm b2) w ax:=(G.trans aM).mono I;have aR:kh S (S.cm b2):=⟨rfl,rfl,rfl,rfl,rfl,rfl,r.g,aO.trans V⟩;have N:¬S.T.C.D.quiet:=λi=>K ((A.q i).1 100);refine⟨false,3,rfl,λ_=>(tE aJ.togn aP aR N (r.bZ.2.trans W) (by have a2:b2.C.D.aV<=a.D.aV+100:=r.aV;show b2.C.D.aV<=_;omega)).use ?_,λh=>(by cases h)⟩;rintro _ E ⟨rfl,aA,r1,aF,b5⟩;exact⟨3,rfl,.inr ⟨hg,.inr ⟨hf,aA,r1.mono I,aF,.inr (.inr (.inr ⟨rfl,b5⟩))⟩⟩⟩
theorem KF{fT fN:ad}{fr to:Key}{most:Int}(h:d_ w S pages L aL bF)(n:L.length<=4000)(o:S.T.C.D.aV<=800000000)(p:pages.length<=4000)
 (hf:Src 1 w fT (aD fr)) (b:∀q,aE fT q->q<w.heap.size/\¬S.T.M q) (ht:Src 1 w fN (aD to)) (c:∀q,aE fN q->q<w.heap.size/\¬S.T.M q) (d:to.length<=1000000):
 aK ai 42 #[.pointer (some S.st),fT,fN,most] w (λv w'=>∃au,d_ w' (S.cm au) pages L aL bF/\da (2*pages.length) S (S.cm au) w w'/\kh S (S.cm au)/\b4 S.T au w w' (2*pages.length)/\
  ((∃s:ad,v=.tuple #[s,(0:Int)]/\fw (λq=>¬au.M q) w' s ((gW L fr to).take most.toNat))\/(v=.tuple #[(),(3:Int)]/\¬S.T.C.D.calm (2*pages.length)))):=by
 refine okF (ae.vl (some S.st) fT fN most) ay.vl func42 ?_;delta ae.vl an ed;refine⟨λe=>(by cases e),λ_=>⟨_,rfl,_,h.v.cell,(JV h.t h.ok I I hf b ht c d).use ?_⟩⟩;rintro v w' ⟨au,i,a,j,k⟩;obtain⟨a1,a2,a3⟩:=h.to i a.to a.E j ⟨a.root,a.aN,a.f,λno _=>⟨congrFun a.P no,a.view no⟩⟩;have hs:kh S (S.cm au):=⟨rfl,rfl,rfl,rfl,rfl,rfl,a.to.g,a3⟩;rcases k with ⟨s,rfl,l⟩|⟨rfl,m⟩
 .exact⟨s,0,rfl,au,a1,a2,hs,a.to,.inl ⟨s,rfl,l⟩⟩
 .exact⟨⟨none,0,0⟩,3,rfl,au,a1,a2,hs,a.to,.inr ⟨rfl,m⟩⟩
end
variable {w w':J}{D:bm}
theorem KG(a b:Int)(w:J)(T:TypeId)(k:IntKind):Sem.run ai (Builtin.min_ #[T,T] T #[.int k a,.int k b]) w=.ok (.int k (min a b)) w:=by
 simp only[Builtin.min_];unfold Builtin.min2;simp;split<;>omega
section
variable {w w':J}{D:bm}{V:Nat->du}{gen:Nat}{u:e1}{g:Nat->al}{P:Nat->av aG}{aL:O Nat}{bF:O aR}
theorem KH{c a6 k:Nat}{a:Nat->Prop}(h:er (λ_=>False) w (mf c a6 k D))(d:∀q,a q->q<w.heap.size/\¬dc (mf c a6 k D) q):er a w (mf c a6 k D):=
 ⟨h.raw,h.inv.pins,λf hf b=>(by
  have:=(List.mem_replicate.1 (show f∈List.replicate k dN from hf)).2
  rw[this]at b
  cases b),h.inv.un,d,h.inv.me⟩
end
structure Ev(D:bm)(l:fj)(bo:Nat->Prop)(k:Nat)(w w':J)(S:b9):Prop where
 live:S.failed=false
 pS:S.pending=0
 now:S.now=S.u.clock
 l:S.l=l
 d:S.T.C.D.d=D.d
 n:S.T.n=D.n
 q:S.T.C.D.quiet
 aV:S.T.C.D.aV<=D.aV+k
 M:∀q,S.T.M q->cA D q\/bo q\/w.heap.size<=q
 E:∀q,S.T.E q↔q=S.st\/bo q
 st:w.heap.size<=S.st
 r:S.T.C.D.r1=D.r1
 ah:af (cA D) w w'
section
variable {w w':J}{D:bm}{bo:Nat->Prop}
theorem KI{l:fj}(h:dz w D)(y:pQ (l.ao:Nat) (l.batch:Nat) (l.jo:Nat))(N:∀k,D.calm k)(q9:D.cu.getD 3 0= -1)(O:D.aV<=999999000)(z:∀q,bo q->q<w.heap.size/\¬cA D q):
 aK ai 19 #[.pointer (some D.d),.agg l.c.toArray] w (λv w'=>∃S:b9,v=.tuple #[.pointer (some S.st),(0:Int)]/\d_ w' S [] [] [] []/\Ev D l bo 4 w w' S/\S.u=jS/\S.gen=1):=by
 have aa:=h.bW;have P:=h.bz;refine(oX h y N q9 O).mono ?_;rintro v w' ⟨aC,sb,s1,s2,c,a6,ba,st,kF,R⟩;obtain rfl:=R.Ei.val;have hd:=R.qV;have B:=R.Ei;have ab:=R.ah.size;have ac:=B.x.size;have ad:=B.hc;have ae:=B.hf;have af:=B.ht;have ag:=B.sv.lt;have E:∀j,aC.bT.getD j []=aC.now j:=λj=>by unfold bm.now;rw[hd.waits];rfl
 have m:∀q,dc (mf c a6 l.ao aC) q->q=c\/q=a6\/cA aC q:=λq h=>h;have G:∀q,cA aC q->q<kF.heap.size:=λq b=>by
  rcases R.dq q b with h1|h1
  .have:=h.lt h1;omega
  .omega
 have Q:aC.quiet:=⟨hd.calm,hd.cu⟩;obtain⟨T,a⟩:∃T:aQ,T=⟨ba,1+1,0,0,mf c a6 l.ao aC,sb,D.n,λi=>decide (i<3),λi=>decide (i<3),s1,s2,λq=>q=st\/bo q,λ_=>False,λ_=>none⟩:=⟨_,rfl⟩;have U:∀q,bo q->q<w.heap.size/\¬cA aC q:=λq b=>⟨(z q b).1,λhf=>by
  rcases R.dq q hf with h1|h1
  .exact(z q b).2 h1
  .have:=(z q b).1;omega⟩
 have V:cg w' T:=by
  have H:er T.X w' (mf c a6 l.ao aC):=KH B.ca λq b=>by
   rw[a]at b;rcases b with h1|h1|h1|h1
   .have h1:q=ba:=h1
    refine⟨I,λhf=>?_⟩;rcases m q hf with h2|h2|h2
    .omega
    .omega
    .have:=G q h2;omega
   .have A:=R.tC q h1
    refine⟨I,λhf=>?_⟩;rcases m q hf with h2|h2|h2
    .omega
    .omega
    .have aj:=B.ca.raw.dev
     exact R.Kf q h1 h2
   .rcases(show q=st\/bo q from h1) with h1|h1
    .refine⟨I,λhf=>?_⟩
     rcases m q hf with h2|h2|h2
     .omega
     .omega
     .have:=G q h2;omega
    .have A:=U q h1
     refine⟨I,λhf=>?_⟩;rcases m q hf with h2|h2|h2
     .omega
     .omega
     .exact A.2 h2
   .exact h1.elim
  rw[a]at H⊢;refine⟨B.c2,R.sp,H,λhf=>by have:=R.tC ba hf;omega,λq b=>?_,λq b=>b.elim,hd.n,⟨by show 0<D.n;omega,(by decide:0<=12),(by decide:1+1<18446744073709551616)⟩,λno ck F=>(by cases F),λj f=>.inl ?_,⟨rfl,rfl⟩⟩
  .rcases(show q=st\/bo q from b) with h1|h1
   .exact⟨by show q≠ba;omega,λhf=>by have:=R.tC q hf;omega,λh=>h⟩
   .have A:=z q h1
    exact⟨by show q≠ba;omega,λhf=>by have:=R.tC q hf;omega,λh=>h⟩
  .have f:aC.bZ j=true:=f
   rw[hd.bZ]at f;exact f
 have J:n0 jS D.n:=⟨Iff.intro (λ_=>rfl) (λ_=>rfl),by decide,by show 0<D.n;omega,by show 2<D.n;omega,by decide,P⟩;have K:nZ jS:=⟨by decide,by decide,by decide,by decide,by decide,by decide⟩;have L:kK (λj=>aC.bT.getD j []) D.n 1 jS (λi=>decide (i<3)) (λ_=>none) [] []:=by
  refine⟨⟨3,I,rfl⟩,?_,.inl ?_,⟨1,bt _,?_⟩,λno=>?_,List.nodup_nil,λx hx=>(by cases hx),.inl ⟨rfl,rfl,rfl,rfl⟩,λx hx=>(by cases hx),rfl,λq b=>(by cases b),K,J,bt _⟩
  .show th ((1:Nat):Int) (aC.bT.getD 1 [])=_
   rw[E,hd.now];exact C5 K J (by decide) (by decide)
  .show aC.bT.getD 0 []=il
   rw[E,hd.now];rfl
  .show fD ((2:Nat):Int) (aC.bT.getD 2 [])=_
   rw[E,hd.now];exact wR I ⟨(by decide:1<=4),(by decide:4<=4),(by decide:1<18446744073709551616),by show(jf _ _).length<=232;rw[xq];omega⟩
  .show decide (no<3)=true↔no∈ []\/no<2\/no=2
   simp only[fG,false_or,b_];omega
 obtain⟨S,o⟩:∃S:b9,S=⟨st,T,l,jS,1,0,0,0,0,false⟩:=⟨_,rfl⟩;have W:1<=cv T:=by
  have h1:=xd (s:=λi=>decide (i<3)||decide (i<3)) (t:=dK (λi=>decide (i<3)||decide (i<3)) 3 true) (k:=3) (by simp) (by simp[dK]) (λi hi=>by simp[dK,hi]) (n:=D.n) I;have h2:=n2 (dK (λi=>decide (i<3)||decide (i<3)) 3 true) D.n;have A:cv T=D.n-e5 (λi=>decide (i<3)||decide (i<3)) D.n:=by rw[a];rfl
  omega
 refine⟨S,by rw[o],?_,?_,by rw[o],by rw[o]⟩
 .rw[o]
  refine⟨⟨?_,V,by rw[a];exact .inl rfl,by rw[a];exact L,by rw[a],⟨(by decide:0<18446744073709551616),bt _,bt _,(by decide:1+2<18446744073709551616),?_,?_,?_⟩,λj f=>?_⟩,.inl ?_,List.nodup_nil,?_,λx hx=>(by cases hx),λp F=>(by cases F),rfl,cR _,λ_=>⟨?_,by rw[a];exact hd.eK,W⟩,λhf=>(by cases hf)⟩
  .show Var w' st (hW T.ba T.C.D.d T.C.c T.sb _ _ _ _ _ _ _ _) _
   rw[a];exact B.sv
  .have:=y.2.2.2.1;show l.batch<=1000;omega
  .have:=y.2.2.2.2.2;show l.jo<=1048576;omega
  .have:=y.2.2.1;show 1<=l.batch;omega
  .have f:T.g j=true:=f
   show T.C.D.bZ j=true;rw[a]at f⊢;show aC.bZ j=true;rw[hd.bZ];exact f
  .rw[a];exact⟨rfl,rfl,rfl,rfl⟩
  .intro no
   have Y:=L.g no;rw[a];exact Y
  .intro e
   have h1:aC.bZ 5=true:=by have:=e 5;rw[a]at this;exact this
   rw[hd.bZ]at h1;cases h1
 .rw[o]
  refine⟨rfl,rfl,rfl,rfl,by rw[a];exact hd.d,by rw[a],by rw[a];exact Q,by rw[a];show aC.aV<=_;rw[hd.aV];omega,λq M=>?_,λq=>by rw[a],by show w.heap.size<=st;omega,by rw[a];exact hd.r,c3 R.ah B.x λq _ h=>h.elim⟩;rw[a]at M;have Z:∀q,cA aC q->cA D q\/bo q\/w.heap.size<=q:=λq b=>by
   rcases R.dq q b with h1|h1
   .exact .inl h1
   .exact .inr (.inr h1.1)
  rcases M with h1|h1|h1|h1|h1
  .rcases m q h1 with h2|h2|h2
   .exact .inr (.inr I)
   .exact .inr (.inr I)
   .exact Z q h2
  .have h1:q=ba:=h1
   exact .inr (.inr I)
  .exact .inr (.inr (R.tC q h1).1)
  .rcases(show q=st\/bo q from h1) with h1|h1
   .exact .inr (.inr I)
   .exact .inr (.inl h1)
  .exact h1.elim
end
section
variable {w w':J}{l:ad}
theorem KJ{s:ad}(h:nz ai w 3 s):∃l:O Int,Src 1 w s (l.map encZ)/\∀z∈l,z<=9223372036854775807:=by
 obtain⟨l,h1,_,h2⟩:=h.src (c:=λz:Int=> [encZ z]) (sz:=1) (by kernel_rfl) (λz=>z<=9223372036854775807) λfuel us b=>by
  obtain⟨n,rfl,h2,d⟩:=si b (k:=.i64) (by kernel_rfl);exact⟨n,rfl,d⟩
 have e:∀l:O Int,(l.map λz:Int=> [encZ z]).flatten=l.map encZ:=λl=>by
  induction l with
  |nil=>rfl
  |cons a l f=>rw[g2,List.flatten_cons,f];rfl
 rw[e]at h1;exact⟨l,h1,h2⟩
theorem Src.Af{s:ad}{l:O Int}(h:Src 1 w s (l.map encZ)):∀q,aE s q->w.heap.size<=q->l=[]:=by
 rintro q ⟨a,c,rfl⟩ d
 cases e:l with
 |nil=>rfl
 |cons v us=>
  have f:=h.rd a c;have b:w.cell? (a.add (0+0))=some (encZ v):=sr f (by rw[e];rfl);rw[lj,add_zero']at b;have:w.heap[a.block]? =none:=by simp[d]
  simp[World.cell?,this]at b
end
section
variable {V:Nat->du}{n gen:Nat}{u:e1}{g:Nat->al}{P:Nat->av aG}{aL:O Nat}{bF:O aR}
theorem kK.low(h:kK V n gen u g P aL bF):aL.length<=bF.length:=by
 rcases h.ok with ⟨_,_,h2,_⟩|h2
 .rw[h2];exact cR _
 .exact h2.pages.1
end
structure hF(w0 w:J)(bo:Nat->Prop)(d n:Nat)(l:fj)(S:b9)(pages:O Nat)(L:O aR)(aL:O Nat)(bF:O aR)(c:Nat):Prop where
 x:Ext w0 w
 at_:d_ w S pages L aL bF
 E:∀q,S.T.E q↔q=S.st\/bo q
 ne:¬bo S.st
 rD:∀q,S.T.M q->w0.heap.size<=q
 lim:S.l=l
 d:S.T.C.D.d=d
 n:S.T.n=n
 aV:S.T.C.D.aV<=20000*(c+1)
 eL:L.length<=c/\bF.length<=c
 gen:S.gen<=c+1
 xx:S.pending<=c
 r:S.T.C.D.r1=true
section
variable {w0 w w':J}{bo:Nat->Prop}{d n aW k c:Nat}{l:fj}{S aA:b9}{pages aL:O Nat}{L bF:O aR}
theorem fw.pT{s:ad}(b:fw (λq=>¬S.T.M q) w s L)(hd:da k S aA w w'):fw (λq=>¬aA.T.M q) w' s L:=
 ((b.a7 (C:=λq=>¬S.T.M q/\¬aA.T.M q) λq f a=>⟨a,λc=>by rcases hd.c7 q c with h|h;exact a h;omega⟩).ah hd.ah λq d _ e=>d.1 e.1).a7 λ_ _ h=>h.2
theorem hF.nd(h:hF w0 w bo d n l S pages L aL bF c){q:Nat}(a:bo q):S.T.E q/\q≠S.st:=⟨(h.E q).2 (.inr a),λe=>h.ne (e▸a)⟩
theorem hF.ext(h:hF w0 w bo d n l S pages L aL bF c)(hx:Ext w w'):hF w0 w' bo d n l S pages L aL bF c:={h with x:=h.x.trans hx,at_:=h.at_.ext hx}
theorem hF.mono{e:Nat}(h:hF w0 w bo d n l S pages L aL bF c)(he:c<=e):hF w0 w bo d n l S pages L aL bF e:={h with aV:=by have:=h.aV;omega,eL:=⟨by have:=h.eL.1;omega,by have:=h.eL.2;omega⟩,gen:=by have:=h.gen;omega,xx:=by have:=h.xx;omega}
theorem hF.jQ{k5:Nat}(h:hF w0 w bo d n l S pages L aL bF c)(a:bo k5)(hc:af (λq=>q=k5) w w'):hF w0 w' bo d n l S pages L aL bF c:=
 {h with x:=Ext.df h.x hc λq e=>by rw[e];exact h.rD _ (.inr (.inr (.inr (.inl (h.nd a).1)))),at_:=h.at_.jQ (h.nd a).1 (h.nd a).2 hc}
theorem hF.step{eH g8:O Nat}{k8 pU:O aR}(h:hF w0 w bo d n l S pages L aL bF c)(hs:d_ w' aA eH k8 g8 pU)(hd:da k S aA w w')(b:k<=20000)(hf:k8.length<=c+1/\pU.length<=c+1)(hg:aA.gen<=S.gen+1)(e:aA.pending<=S.pending+1):hF w0 w' bo d n l aA eH k8 g8 pU (c+1):=
 ⟨Ext.df h.x hd.ah λq a=>h.rD q a.1,hs,λq=>by rw[hd.E,hd.st];exact h.E q,by rw[hd.st];exact h.ne,λq a=>by
  rcases hd.c7 q a with h1|h1
  .exact h.rD q h1
  .have:=h.x.size;omega,hd.l.trans h.lim,hd.d.trans h.d,hd.n.trans h.n,by have:=hd.aV;have:=h.aV;omega,hf,by have:=h.gen;omega,by have:=h.xx;omega,hd.r.trans h.r⟩
end
section
variable {w0 w w' w1 aj:J}{bo:Nat->Prop}{d n aW k c:Nat}{l:fj}{S aA:b9}{pages eH aL g8:O Nat}{L k8 bF pU:O aR}{v:Y}
theorem jT.Ew{c:Prop}(h:jT c S aA pages L aL bF v w')(a:S.T.C.D.quiet):v=.int .i64 0/\c/\d_ w' aA pages L pages L/\aA.failed=false/\aA.gen=S.gen+1/\aA.u.clock=S.now/\aA.u.dA=S.u.dA+1/\aA.pending=0:=by
 rcases h with h|⟨_,h,_⟩
 .exact h
 .exact absurd a h
end
section
variable {w0 w w' w1 aj:J}{bo b7:Nat->Prop}{d n aW k c i:Nat}{l:fj}{S aA:b9}{pages eH aL g8 bh:O Nat}{L k8 bF pU bp:O aR}{v:Y}{aC:bm}{ls:ad}
theorem d_.grow(h:d_ w S pages L aL bF)(hx:Ext w w'){b:Nat->Prop}(c:∀q,b q->S.T.E q\/(w.heap.size<=q/\q<w'.heap.size))(hs:b S.st):d_ w' (S.cm (S.T.cH b S.T.G)) pages L aL bF:=by
 have ht:cg w' (S.T.cH b S.T.G):=h.t.grow (W:=λ_=>False) hx (λ_ d=>d.elim) (λq a=>(c q a).imp id .inr) (λq a=>.inr (.inl a)) λq a hg=>by
  rcases c q a with h1|h1
  .exact(h.t.dT q h1).2.2 hg
  .have:=h.t.lt (q:=q) (.inr (.inr (.inr (.inr hg))));omega
 exact⟨⟨h.v.ext hx,ht,hs,h.gw,h.gen,h.num,h.bZ⟩,h.ok,h.ck,h.f,h.two,h.kv,h.keys,h.pS,h.live,h.dead⟩
def b9.own(S:b9)(b7:Nat->Prop):b9:=S.cm (S.T.cH (λq=>q=S.st\/b7 q) S.T.G)
theorem b9.Ex{q:Nat}(b:∀q,S.T.E q↔q=S.st\/bo q)(h1:∀q,b7 q->bo q\/k<=q)(a:(S.own b7).T.M q):S.T.M q\/k<=q:=by
 rcases a with a|a|a|a|a
 .exact .inl (.inl a)
 .exact .inl (.inr (.inl a))
 .exact .inl (.inr (.inr (.inl a)))
 .rcases(show q=S.st\/b7 q from a) with h|h
  .exact .inl (.inr (.inr (.inr (.inl ((b q).2 (.inl h))))))
  .rcases h1 q h with h|h
   .exact .inl (.inr (.inr (.inr (.inl ((b q).2 (.inr h))))))
   .exact .inr h
 .exact .inl (.inr (.inr (.inr (.inr a))))
theorem hF.grow(h:hF w0 w bo d n l S pages L aL bF c)(hx:Ext w w')(b:∀q,b7 q->bo q\/(w.heap.size<=q/\q<w'.heap.size)):hF w0 w' b7 d n l (S.own b7) pages L aL bF c:=
 ⟨h.x.trans hx,h.at_.grow hx (λq a=>by
  rcases a with h1|h1
  .exact .inl ((h.E q).2 (.inl h1))
  .exact(b q h1).imp (λh2=>(h.E q).2 (.inr h2)) id) (.inl rfl),λq=>Iff.rfl,λhs=>by
  have hs:b7 S.st:=hs
  rcases b _ hs with h1|h1
  .exact h.ne h1
  .have:=h.at_.t.lt (q:=S.st) (.inr (.inr (.inr (.inl h.at_.es))));omega,λq a=>by
  rcases b9.Ex h.E (λq a=>(b q a).imp id And.left) a with h1|h1
  .exact h.rD q h1
  .have:=h.x.size;omega,h.lim,h.d,h.n,h.aV,h.eL,h.gen,h.xx,h.r⟩
end
section
variable {w0 w w' w1 aj:J}{bo b7:Nat->Prop}{d n aW k c i:Nat}{l:fj}{S aA:b9}{pages eH aL g8 bh:O Nat}{L k8 bF pU bp:O aR}{v:Y}{aC:bm}{ls:ad}
theorem Ag{q b k:Nat}(h:aE ⟨some b,k,k⟩ q):q=b:=by
 obtain⟨A,aq,rfl⟩:=h
 cases aq;rfl
theorem d_.room(h:d_ w S pages L aL bF):S.T.n<=cv S.T+pages.length+aL.length+3:=by
 have h1:=J1 (t:=λi=>S.T.f i||S.T.g i) (l:=pages++aL++ [0,1,S.u.map]) S.T.n λi _ hi=>by
  simp only[jy]at hi;simp only[c1,de,fG,fQ];rcases hi with hi|hi
  .rcases(h.f i).1 hi with h2|h2|h2
   .exact .inl (.inl h2)
   .exact .inr I
   .exact .inr (.inr (.inr h2))
  .rcases(h.gw.g i).1 hi with h2|h2|h2
   .exact .inl (.inr h2)
   .exact .inr I
   .exact .inr (.inr (.inr h2))
 simp only[cG,gx,lp]at h1;unfold cv;omega
theorem hF.new{D:bm}(hx:Ext w0 w)(e:d_ w' S [] [] [] [])(a:Ev D l bo 4 w w' S)(hu:S.u=jS)(hg:S.gen=1)(b:∀q,cA D q->w0.heap.size<=q)(c:∀q,bo q->w0.heap.size<=q/\q<w.heap.size)(i:D.aV=0)(f:D.r1=true):hF w0 w' bo D.d D.n l S [] [] [] [] 0:=
 ⟨Ext.df hx a.ah b,e,a.E,λh=>by have:=(c _ h).2;have:=a.st;omega,λq g=>by
  rcases a.M q g with h1|h1|h1
  .exact b q h1
  .exact(c q h1).1
  .have:=hx.size;omega,a.l,a.d,a.n,by have:=a.aV;omega,⟨bt _,bt _⟩,I,by rw[a.pS];exact bt _,a.r.trans f⟩
end
section
variable {w0 w w' w1 aj:J}{bo b7:Nat->Prop}{d n aW k c i:Nat}{l:fj}{S aA:b9}{pages eH aL g8 bh:O Nat}{L k8 bF pU bp:O aR}{v:Y}{aC:bm}{ls:ad}
def nf(b:Nat):fj:=⟨8,1+b%12,1+b/16%12⟩
theorem KK(b:Nat):pQ ((nf b).ao:Nat) ((nf b).batch:Nat) ((nf b).jo:Nat):=by
 unfold pQ nf;have h1:b%12<12:=hZ _ (by decide);have h2:b/16%12<12:=hZ _ (by decide);show(8:Int)<=((8:Nat):Int)/\((8:Nat):Int)<=64/\(1:Int)<=((1+b%12:Nat):Int)/\((1+b%12:Nat):Int)<=1000/\(1:Int)<=((1+b/16%12:Nat):Int)/\((1+b/16%12:Nat):Int)<=1048576;omega
theorem KL{b:Nat}(a:b<256):IntKind.wrap .u8 (Int.tdiv (b:Int) 16)=((b/16:Nat):Int):=by
 rw[xD I];have h:((b:Int)/16)=((b/16:Nat):Int):=by omega
 rw[h];have h2:b/16<256:=by omega
 show((b/16:Nat):Int)%256=_;omega
end
section
variable {w:J}{ab st:Nat}{most:Int}
theorem qt{s:av ag}(w:J)(most:Int):aK ai 33 #[.pointer s,most] w (λv w'=>Ext w w'/\(((s=none\/most<1\/400<most)/\v=.tuple #[.pointer none,(1:Int)])\/((s≠none/\1<=most/\most<=400)/\v=.tuple #[.pointer (some w.heap.size),(0:Int)]/\Var w' w.heap.size [.pointer s,most] 134))):=by
 refine okF (ae.qt s most) ay.qt func33 ?_;delta ae.qt an aa;refine⟨λh=>⟨.refl _ _,.inl ⟨?_,rfl⟩⟩,λh=>bc (vs:=[.pointer s,most]) rfl λw1 b hx _=>⟨hx,.inr ⟨?_,rfl,b⟩⟩⟩
 .cases s with
  |none=>exact .inl rfl
  |some a=>simp at h;exact .inr I
 .cases s with
  |none=>simp at h
  |some a=>simp at h;exact⟨by simp,I,I⟩
theorem Ey(a:Var w ab [.pointer (some st),most] 134):aK ai 32 #[.pointer (some ab)] w (λv w'=>v=.pointer (some st)/\w=w'):=by
 refine okF (ae.vj (some ab)) ay.vj func32 ?_;delta ae.vj an;exact⟨λh=>(by cases h),λ_=>⟨_,rfl,_,a.cell,rfl,rfl⟩⟩
theorem Ah{S:b9}{pages aL:O Nat}{L bF:O aR}(a:Var w ab [.pointer (some S.st),most] 134)(h:d_ w S pages L aL bF):aK ai 16 #[.pointer (some ab)] w (λv w'=>v=L.length/\w=w'):=by
 refine okF (ae.vd (some ab)) ay.vd func16 ?_;delta ae.vd jI bS;refine(Ey a).use ?_;rintro _ _ ⟨rfl,rfl⟩;refine⟨_,rfl,(Kz h).use ?_⟩;rintro _ _ ⟨rfl,rfl⟩;exact⟨_,rfl,by rw[h.keys],rfl⟩
theorem Ez{a:ag}(s:Int)(p:bl)(w:J):aK ai 87 #[.pointer (some a),s,.agg p.c.toArray] w (λv w'=>Ext w w'/\((db s p=false/\v=.tuple #[(),false])\/(db s p=true/\∃t:ad,v=.tuple #[t,true]/\aT 1 5 w' t (aD (eE s.toNat p))/\∀q,aE t q->w.heap.size<=q))):=by
 refine ae.F6 (some a) s _ w _ ?_;delta ae.sG an aa hL;refine bc (vs:=p.c) rfl λw1 e b i=>⟨λh=>(by cases h),λ_=>⟨p.c,e.rd (bl.bd _),(l5 s p w1).use ?_⟩⟩;rintro _ j ⟨d,⟨hg,rfl⟩|⟨hg,t,rfl,f,hf⟩⟩
 .exact⟨⟨none,0,0⟩,false,rfl,b.trans d,.inl ⟨hg,rfl⟩⟩
 .exact⟨t,true,rfl,b.trans d,.inr ⟨hg,t,rfl,f,λq g=>eC b.size (hf q g)⟩⟩
end
theorem xy{s:Int}{p:bl}(h:db s p=true):∃k:Nat,s=(k:Int)/\k<=65535/\gu p.addr p.bits=some p:=by
 unfold db at h;rw[dh,b_]at h;obtain⟨k,h1,h2⟩:=nW h.2;exact⟨k,h1,h2,h.1⟩
theorem KM{s b:Int}{p a:bl}(h:db s p=true)(j:db b a=true)(he:eE s.toNat p=eE b.toNat a):s=b/\p=a:=by
 obtain⟨k,rfl,l,c⟩:=xy h;obtain⟨d,rfl,m,f⟩:=xy j;rw[di,di]at he;have h1:=zf l p;rw[he,zf m a]at h1;have h2:=zg k p;rw[he,zg d a]at h2;have g:=zh k p;rw[he,zh d a]at g;have n:p.addr=a.addr:=by
  have i:=ze (yP c).2.1;rw[←g,ze (yP f).2.1]at i;exact(Option.some.inj i).symm
 have cr:=ta c;have bX:=ta f;have o:p.bits=a.bits:=by
  have e:=congrArg UInt8.toNat (Option.some.inj h2);rw[oy,oy]at e;omega
 refine⟨I,?_⟩
 cases p;cases a
 simp_all
def aB.kv(t:aB):aR:=(eE t.s.toNat t.p,jM t.b.toNat t.u)
section
variable {T:O aB}{s:Int}{p:bl}
theorem Ai{t:aB}(ht:db t.s t.p=true)(hg:db s p=true):decide (t.kv.1=eE s.toNat p)=cP s p t:=by
 unfold cP;rw[eQ,dh,b_,b_,b_];exact⟨λh=>KM ht hg h,λh=>by show eE t.s.toNat t.p=_;rw[h.1,h.2]⟩
theorem Aj(c:∀t∈T,db t.s t.p=true)(hg:db s p=true):fe (T.map aB.kv) (eE s.toNat p)=(T.find? (cP s p)).map λt=>jM t.b.toNat t.u:=by
 unfold fe
 induction T with
 |nil=>rfl
 |cons t T a=>
  have a:=a λx hx=>c x (jW _ hx);rw[g2,List.find?_cons,List.find?_cons,Ai (c t (om)) hg]
  cases cP s p t with
  |true=>rfl
  |false=>exact a
theorem KN(b:∀t∈T,db t.s t.p=true)(hg:db s p=true):e3 (T.map aB.kv) (eE s.toNat p)=(T.filter λt=> !cP s p t).map aB.kv:=by
 unfold e3
 induction T with
 |nil=>rfl
 |cons t T a=>
  have a:=a λx hx=>b x (jW _ hx);have h1:=Ai (b t (om)) hg;rw[g2,hJ,hJ,a];have e:decide (t.kv.1≠eE s.toNat p)= !cP s p t:=by rw[←h1];simp
  rw[e]
  cases cP s p t<;>rfl
end
section
variable {s:Int}{p:bl}
theorem EA:∀ {T:O aB},(T.map aB.kv).Pairwise (λa b=>bD a.1 b.1)->mj T s p=T.filter λt=> !cP s p t
 | [],_=>rfl
 |t::T,h=>by
  rw[g2]at h
  obtain⟨h1,h2⟩:=jB.1 h
  have g:=EA h2
  rw[hJ]
  unfold mj at g⊢
  rw[List.findIdx?_cons]
  cases c:cP s p t with
  |true=>
   show T=_
   symm
   rw[show(if (!true)=true then t::T.filter (λt=> !cP s p t) else T.filter λt=> !cP s p t)=T.filter (λt=> !cP s p t) from rfl,jA]
   intro x hx
   have f:=h1 x.kv (fy.2 ⟨x,hx,rfl⟩)
   cases d:cP s p x with
   |false=>rfl
   |true=>
    exfalso
    unfold cP at c d
    rw[dh,b_,b_]at c d
    have e:t.kv.1=x.kv.1:=by show eE _ _=eE _ _;rw[c.1,c.2,d.1,d.2]
    rw[e]at f
    exact j8 f f
  |false=>
   show(match (T.findIdx? (cP s p)).map (· +1) with|some i=>(t::T).eraseIdx i|none=>t::T)=t::T.filter (λt=> !cP s p t)
   rw[←g]
   cases T.findIdx? (cP s p)<;>rfl
end
def hX(T:O aB)(t:aB):O aB:=(T.filter λx=>decide (bD x.kv.1 t.kv.1))++t::T.filter λx=>decide (bD t.kv.1 x.kv.1)
theorem EB(T:O aB)(t:aB):gM (T.map aB.kv) t.kv.1 t.kv.2=(hX T t).map aB.kv:=by
 unfold gM hX;rw[gb,g2,List.filter_map,List.filter_map];rfl
theorem KO{T:O aB}{t x:aB}(h:x∈hX T t):x=t\/x∈T:=by
 unfold hX at h;rcases c1.1 h with h|h
 .exact .inr (fU.1 h).1
 .rcases de.1 h with h|h
  .exact .inl h
  .exact .inr (fU.1 h).1
theorem Ak{s:Int}{p:bl}{now:Nat}:∀ (T:O aB),iw T s p now=match T.find? (cP s p) with|some t=>if t.u<=now then none else some t|none=>none
 | []=>rfl
 |t::T=>by
  have a:=Ak (s:=s) (p:=p) (now:=now) T
  unfold iw at a⊢
  rw[List.findIdx?_cons,List.find?_cons]
  cases b:cP s p t with
  |true=>rfl
  |false=>
   show(match (T.findIdx? (cP s p)).map (· +1) with|some i=>if ((t::T).getD i aB.zero).u<=now then none else some ((t::T).getD i aB.zero)|none=>none)=_
   rw[←a]
   cases T.findIdx? (cP s p)<;>rfl
theorem rE{k:Nat}{p:bl}:cI (eE k p):=by
 have h:=w2 k p;have h2:=wE p.addr;unfold cI;omega
theorem Al(k:Nat):bL k 2=[UInt8.ofNat (k/256%256),UInt8.ofNat (k%256)]:=by
 simp[bL,List.range_succ]
theorem EC{k s:Nat}(a:k<=65535)(hs:s<=65535)(r:O UInt8):bD (bL k 2++r) (bL s 2)↔k<s:=by
 rw[Al,Al];have h0:¬eA r []<0:=by cases r<;>simp[eA]
 unfold bD;simp only[mn,hG,eA,oy];split
 .exact⟨λ_=>I,λ_=>by decide⟩
 .split
  .exact⟨λh=>absurd h (by decide),λ_=>I⟩
  .split
   .exact⟨λ_=>I,λ_=>by decide⟩
   .split
    .exact⟨λh=>absurd h (by decide),λ_=>I⟩
    .exact⟨λh=>absurd h h0,λ_=>I⟩
section
variable {T A B:O aB}{t x:aB}{i m now:Nat}{fr:Key}
theorem KP{s:Nat}(hs:s<=65535)(b:∀t∈T,db t.s t.p=true):gW (T.map aB.kv) (bL s 2) (mZ s)=(T.filter (gm (s:Nat))).map aB.kv:=by
 unfold gW;rw[List.filter_map];refine congrArg _ (oD λt ht=>?_);obtain⟨k,e,a,_⟩:=xy (b t ht);show(decide (dQ (bL s 2) (eE t.s.toNat t.p))&&((mZ s).isEmpty||decide (bD (eE t.s.toNat t.p) (mZ s))))=gm s t;unfold gm;rw[e,di];have h1:dQ (bL s 2) (eE k t.p)↔¬k<s:=by unfold dQ;exact not_congr (EC a hs _)
 rw[eQ,dh,b_,b_,h1];unfold mZ;split
 .rename_i h2
  have c:bD (eE k t.p) (bL (s+1) 2)↔k<s+1:=EC a I _;rw[show(bL (s+1) 2).isEmpty=false from by rw[Al];rfl,lk,b_,c];omega
 .rw[show([]:O UInt8).isEmpty=true from rfl,Bool.true_or]
  simp only[and_true];omega
def ix(T:O aB):Prop:=T.Pairwise λa b=>bD a.kv.1 b.kv.1
theorem Am:hN (T.map aB.kv)↔ix T:=List.pairwise_map
theorem ED(aq:∀a∈A,bD a.kv.1 t.kv.1)(e:∀b∈B,bD t.kv.1 b.kv.1):hX (A++B) t=A++t::B:=by
 unfold hX;rw[gG,gG,jA.2 λa c=>dD (aq a c),mx.2 λb d=>by simpa using j8 (e b d),mx.2 λa c=>by simpa using j8 (aq a c),jA.2 λb d=>dD (e b d),fl,hG]
theorem KQ(hx:x.kv.1=t.kv.1)(aq:∀a∈A,bD a.kv.1 t.kv.1)(c:∀b∈B,bD t.kv.1 b.kv.1):hX (A++x::B) t=A++t::B:=by
 have h:=ED aq c;unfold hX at h⊢;rw[←h,gG,gG,gG,gG,hJ,hJ,hx];simp[kB]
theorem An(h:ix T)(hi:i<T.length):(∀a∈T.take i,bD a.kv.1 T[i].kv.1)/\∀b∈T.drop (i+1),bD T[i].kv.1 b.kv.1:=by
 have e:T=T.take i++T[i]::T.drop (i+1):=by rw[List.getElem_cons_drop,fV]
 have h2:ix (T.take i++T[i]::T.drop (i+1)):=e▸h;obtain⟨_,c,d⟩:=my.1 h2;exact⟨λa f=>d a f _ (om),(jB.1 c).1⟩
theorem EE(h:cP t.s t.p x=true):x.kv.1=t.kv.1:=by
 unfold cP at h;rw[dh,b_,b_]at h;show eE _ _=eE _ _;rw[h.1,h.2]
theorem KR(h:ix T)(hf:T.findIdx? (cP t.s t.p)=some i):i<T.length/\T.set i t=hX T t:=by
 obtain⟨hi,a,_⟩:=rT.1 hf;have hx:=EE a;have h1:=An h hi;rw[hx]at h1;refine⟨hi,?_⟩;have e:T=T.take i++T[i]::T.drop (i+1):=by rw[List.getElem_cons_drop,fV]
 have h2:=KQ hx h1.1 h1.2;rw[←e]at h2;rw[h2,xF,if_pos hi]
theorem EF(h:ix T)(d:∀t∈T,db t.s t.p=true)(hg:db t.s t.p=true)(hf:T.findIdx? (cP t.s t.p)=none)(hi:i<=T.length)(f:∀a∈T.take i,bD a.kv.1 t.kv.1)(g:∀hi:i<T.length,¬bD T[i].kv.1 t.kv.1):T.take i++t::T.drop i=hX T t:=by
 have e:=ED (B:=T.drop i) f λb c=>?_
 .rw[fV]at e
  exact e.symm
 have j:∀x∈T,x.kv.1≠t.kv.1:=λx hx e=>by
  have h1:=tZ.1 hf x hx;rw[←Ai (d x hx) hg]at h1;exact absurd e (cw h1)
 have key:∀x∈T,¬bD x.kv.1 t.kv.1->bD t.kv.1 x.kv.1:=λx hx k=>by
  rcases wF x.kv.1 t.kv.1 with h1|h1|h1
  .exact absurd h1 k
  .exact absurd h1 (j x hx)
  .exact h1
 rcases eu i T.length with h1|h1
 .have h2:=key _ (cW h1) (g h1)
  rw[←List.getElem_cons_drop h1]at c;rcases de.1 c with rfl|c
  .exact h2
  .exact l7 h2 ((An h h1).2 b c)
 .rw[rS h1]at c;cases c
def fk(T:O aB)(fr:Key):O aB:=T.filter λt=>decide (dQ fr t.kv.1)
def dv(T:O aB)(fr:Key)(m:Nat):O aB:=(fk T fr).take m
def gE(T Q:O aB)(ch:aB->al):O aB:=T.filter λt=> !(decide (t∈Q)&&ch t)
def iL(T Q:O aB):Key:=match Q.getLast? with
 |none=> []
 |some t=>if T.getLast? =some t then [] else t.kv.1++ [0]
theorem ix.nodup(h:ix T):T.Nodup:=List.Pairwise.imp (λ{a b} c (e:a=b)=>by rw[e]at c;exact kB _ c) h
theorem KS(h:ix T)(hi:i<T.length):dv (T.take (i+1)) fr m=(if decide (dQ fr T[i].kv.1)&&decide ((dv (T.take i) fr m).length<m) then dv (T.take i) fr m++ [T[i]] else dv (T.take i) fr m)/\
 decide (T[i]∈dv T fr m)=(decide (dQ fr T[i].kv.1)&&decide ((dv (T.take i) fr m).length<m)):=by
 have j:T.take (i+1)=T.take i++ [T[i]]:=(List.take_append_getElem hi).symm;have e:T=T.take i++T[i]::T.drop (i+1):=by rw[List.getElem_cons_drop,fV]
 have l:T[i]∉T.take i:=λa=>kB _ ((An h hi).1 _ a);have n:fk (T.take (i+1)) fr=fk (T.take i) fr++if decide (dQ fr T[i].kv.1) then [T[i]] else []:=by
  unfold fk;rw[j,gG,hJ,oC]
 have o:fk T fr=fk (T.take i) fr++((if decide (dQ fr T[i].kv.1) then [T[i]] else [])++fk (T.drop (i+1)) fr):=by
  conv=>lhs;rw[e]
  unfold fk;rw[gG,hJ];split<;>rfl
 have d:T[i]∉fk (T.take i) fr:=λa=>l (fU.1 a).1;have f:T[i]∈fk (T.drop (i+1)) fr->decide (dQ fr T[i].kv.1)=true:=λa=>(fU.1 a).2;unfold dv;rw[n,o];generalize fk (T.take i) fr=b at d;generalize fk (T.drop (i+1)) fr=G at f
 cases g:decide (dQ fr T[i].kv.1) with
 |false=>
  refine⟨by simp,?_⟩;rw[kn,jX];intro a;have h1:=eY a;simp only[gp,if_false,hG,c1]at h1;rcases h1 with h1|h1
  .exact d h1
  .rw[f h1]at g;cases g
 |true=>
  rw[if_pos rfl,g9];rcases eu b.length m with c|c
  .have h1:b.take m=b:=dr (Nat.le_of_lt c)
   rw[h1,dD c,if_pos rfl];refine⟨dr (by simp;omega),?_⟩;rw[b_,tW];refine iA _ ?_;obtain⟨k,p⟩:∃k,m-b.length=k+1:=⟨m-b.length-1,I⟩;rw[p];exact om
  .have h1:(b.take m).length=m:=by rw[cz];omega
   rw[h1,mA c,mA c,g_ (Nat.lt_irrefl m)];exact⟨rfl,g_ λa=>d (eY a)⟩
theorem KT(h:ix T){Q:O aB}{ch:aB->al}(c:x∈T)(hx:x∉Q)(d:∀t∈T,db t.s t.p=true):(gE T Q ch).filter (λt=> !cP x.s x.p t)=T.filter (λt=> !(decide (t∈Q)&&ch t)&& !decide (t=x)):=by
 unfold gE;rw[List.filter_filter];refine oD λt ht=>?_;rw[Bool.and_comm]
 congr 2
 rw[eQ,b_];refine⟨λe=>?_,λe=>by rw[e];simp[cP]⟩;have h1:=EE (t:=x) e;obtain⟨i,hi,rfl⟩:=tX.1 ht;obtain⟨j,b,rfl⟩:=tX.1 c;have h2:=ln.1 h;rcases Nat.lt_trichotomy i j with a|rfl|a
 .have:=h2 i j hi b a;rw[h1]at this;exact absurd this (kB _)
 .rfl
 .have:=h2 j i b hi a;rw[h1]at this;exact absurd this (kB _)
end
end Go.Proofs.YtkdhdlfonmgheaaGreat
