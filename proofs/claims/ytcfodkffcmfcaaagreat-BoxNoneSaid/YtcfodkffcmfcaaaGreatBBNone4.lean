/- Contracts of the functions that the statement reaches, and the plain laws over them; each theorem stands with its conditions. -/
import Derived.Test.YtcfodkffcmfcaaaGreatBBNone3
namespace Go.Proofs.YtcfodkffcmfcaaaGreat
open Go aO Go.Proofs.Tryz
structure dM where
 aq:Nat
 batch:Nat
 fC:Nat
def dM.c(l:dM):Y O:=[l.aq,l.batch,.int .u64 (l.fC:Nat)]
def hY(f b d:Int):Prop:=8<=f/\f<=64/\1<=b/\b<=1000/\1<=d/\d<=1048576
instance Ox(f b d:Int):Decidable (hY f b d):=by unfold hY;infer_instance
section
variable {w w':I}{D:ba}
theorem n2(w:I)(p:al ar)(f b d:Int):az ah 37 #[.pointer p,.agg #[f,b,.int .u64 d]] w (λv w'=>v=.bool (!(Option.isNone p)&&decide (hY f b d))/\Ext w w'):=by
 refine okF (Z.n2 p f b d) aj.n2 func37 ?_;(delta Z.n2 aE ae r1 aa aK b5 db;dsimp only);refine aV (vs:=[f,b,.int .u64 d]) rfl λw1 c hx hs=>?_;refine bK (λx w'=>x=(!(Option.isNone p)&&decide (8<=f))/\w1=w') (λq a=>⟨λh=>⟨f,c.cell,a _ _ ⟨by rw[h,iy],rfl⟩⟩,λh=>a _ _ ⟨by rw[h,lA],rfl⟩⟩) ?_;rintro e _ ⟨h1,rfl⟩;refine bK (λx w'=>x=(e&&decide (f<=64))/\w1=w') (λq a=>⟨λh=>⟨f,c.cell,a _ _ ⟨by rw[h,iy],rfl⟩⟩,λh=>a _ _ ⟨by rw[h,lA],rfl⟩⟩) ?_;rintro cG _ ⟨h2,rfl⟩;refine bK (λx w'=>x=(cG&&decide (1<=b))/\w1=w') (λq a=>⟨λh=>⟨b,by rw[av];exact c.cell,a _ _ ⟨by rw[h,iy],rfl⟩⟩,λh=>a _ _ ⟨by rw[h,lA],rfl⟩⟩) ?_;rintro g _ ⟨i,rfl⟩;refine bK (λx w'=>x=(g&&decide (b<=1000))/\w1=w') (λq a=>⟨λh=>⟨b,by rw[av];exact c.cell,a _ _ ⟨by rw[h,iy],rfl⟩⟩,λh=>a _ _ ⟨by rw[h,lA],rfl⟩⟩) ?_;rintro j _ ⟨k,rfl⟩;refine bK (λx w'=>x=(j&&decide (1<=d))/\w1=w') (λq a=>⟨λh=>⟨d,by rw[av];exact c.cell,a _ _ ⟨by rw[h,iy],rfl⟩⟩,λh=>a _ _ ⟨by rw[h,lA],rfl⟩⟩) ?_;rintro l _ ⟨m,rfl⟩;refine bK (λx w'=>x=(l&&decide (d<=1048576))/\w1=w') (λq a=>⟨λh=>⟨d,by rw[av];exact c.cell,a _ _ ⟨by rw[h,iy],rfl⟩⟩,λh=>a _ _ ⟨by rw[h,lA],rfl⟩⟩) ?_;rintro o _ ⟨n,rfl⟩;refine⟨?_,hx⟩;rw[n,m,k,i,h2,h1,Value.bool.injEq,eX];simp only[du,cT,and_assoc];exact Iff.rfl
theorem yH{D:ba}{no:Nat}{s:ag}{l:cL}{N:Nat}(a:∀q,aD s q->bI D q\/N<=q):∀q,bI (D.put no s l) q->bI D q\/N<=q:=by
 rintro q (e|e|e|⟨x,hx,e⟩)
 .exact .inl (.inl e)
 .exact .inl (.inr (.inl e))
 .exact .inl (.inr (.inr (.inl e)))
 .rcases cW.1 hx with rfl|hx
  .exact a q e
  .exact .inl (.inr (.inr (.inr ⟨x,(hJ.1 hx).1,e⟩)))
def Lk(D:ba)(u:cN)(gen:Nat)(w:I)(v:O)(w':I):Prop:=
 ad (bI D) w w'/\((D.fU 2=true/\v=.int .i64 3/\cv w' (D.cF 2))\/
 (D.fU 2=false/\∃s:ag,(∀q,aD s q->bI D q\/w.heap.size<=q)/\∃a:ba,a=D.put (gen%2) s (eI (gen%2) (kc u D.n gen))/\
   ((a.fU 3=true/\v=.int .i64 3/\cv w' (a.cF 3))\/(a.fU 3=false/\v=.int .i64 0/\cv w' (a.cF 3).jq))))
theorem n3(h:cv w D)(M:D.bu<=999999999){u:cN}(hu:ox u){gen:Nat}(hg:gen<18446744073709551616):
 az ah 44 #[.pointer (some D.d),.agg u.c.toArray,.int .u64 (gen:Nat)] w (Lk D u gen w):=by
 have N:=h.dN;have O:=h.bF;refine Z.HO _ (u.root:Nat) (u.bg:Nat) (u.map:Nat) (u.clock:Nat) (u.di:Nat) (u.keys:Nat) (gen:Nat) w _ ?_;(delta Z.n3 aE bE aa r1 aK b5 db bx bp eK an ae;dsimp only);have hm:IntKind.wrap .i64 (Int.tmod (gen:Int) 2)=((gen%2:Nat):Int):=by
  rw[sY J,bW J J];omega
 refine aV (vs:=u.c) rfl λw1 z g P=>⟨by decide,?_⟩;have a:=bC w1;have A:=z.ext a;have B:=h.ext (g.trans a);refine aQ ⟨λ_=>False,id,gU A ((sn B).use ?_)⟩;rintro _ _ ⟨rfl,rfl⟩;refine⟨_,rfl,ad.refl _ _,(ri hu (n:=D.n) J).use ?_⟩;rintro _ C ⟨j,rfl,E,r,Q⟩;rw[hm];refine⟨j,rfl,λ_=>False,#[(3:Int),.int .u64 (gen:Nat),j],λbl=>by kernel_rfl,(yj (s:=j) (p:=kc u D.n gen) E.src J (AO hg)).use ?_⟩;rintro _ R ⟨F,rfl,G,t,H⟩;have b:=(g.trans a).trans (Ext.trans r t);have I:=h.ext b;have S:=b.size;have K:(eI (gen%2) (kc u D.n gen)).length=256:=uq _ (AO hg);have T:w.heap.size<=C.heap.size:=by have:=(g.trans a).size;have:=r.size;omega
 refine⟨F,0,rfl,t,λh=>(by cases h),λ_=>(yr I (i:=gen%2) J J G.src K λq f hf=>by have:=H q f;have:=h.lt hf;omega).use ?_⟩;rintro _ bG (⟨hb,rfl,hd,hc⟩|⟨hb,rfl,s,hd,hc,v⟩)
 .exact⟨3,rfl,λ_=>⟨ct (b.mono λ_ _ h=>h.elim) hc λq _ e=>by rw[e];exact .inl rfl,.inl ⟨hb,rfl,hd⟩⟩,λh=>(by cases h)⟩
 .have x:ad (bI D) w bG:=ct (b.mono λ_ _ h=>h.elim) hc λq _ e=>e
  have L:=yH (no:=gen%2) (l:=eI (gen%2) (kc u D.n gen)) v;refine⟨0,rfl,λh=>(by cases h),λ_=>(Bd hd (by show D.bu+1<=_;omega)).use ?_⟩;have y:∀q,aD s q->bI D q\/w.heap.size<=q:=λq f=>(v q f).imp id λh=>by omega
  rintro _ U (⟨k,rfl,m,o⟩|⟨k,rfl,m,o⟩)
  .exact⟨3,rfl,ct x o λq _ e=>by rw[e];exact .inl rfl,.inr ⟨hb,s,y,_,rfl,.inl ⟨k,rfl,m⟩⟩⟩
  .exact⟨0,rfl,ct x o λq f e=>(L q e).resolve_right J,.inr ⟨hb,s,y,_,rfl,.inr ⟨k,rfl,m⟩⟩⟩
end
section
variable {w w':I}{C:cj}{X:Nat->Prop}
def Fr.hZ(f:Fr):ai:=f.full&&f.gz
theorem Ll:iC ah 254:=⟨Tryz.f254,func254,by kernel_rfl,by kernel_rfl⟩
theorem Lm(f:Fr)(w:I):az ah 254 #[.agg #[f.full,f.gz,f.used,f.no,f.pins,f.b]] w (λv w'=>v=f.hZ/\Ext w w'):=by
 refine okF (Z.xG f.full f.gz f.used f.no f.pins f.b) aj.xG func254 ?_;(delta Z.xG bB aa ae e6;dsimp only);refine aV (vs:=f.c) rfl λw1 a hx hs=>⟨f.full,a.cell,bK (λb w'=>b=f.hZ/\w1=w') (λq d=>⟨λh=>⟨f.gz,by rw[av];exact a.cell,d _ _ ⟨by unfold Fr.hZ;rw[h];rfl,rfl⟩⟩,λh=>d _ _ ⟨by unfold Fr.hZ;rw[h];rfl,rfl⟩⟩) ?_⟩;rintro _ _ ⟨rfl,rfl⟩;exact⟨rfl,hx⟩
def kM(fs:Y Fr):Y Int:=(fs.filter Fr.hZ).map Fr.no
theorem Ln(h:fe w C):az ah 200 #[.pointer (some C.c)] w (λv w'=>∃ (s:ag) (zs:Y Int),v=s/\aS 1 3 w' s (zs.map encZ)/\zs.Perm (kM C.aq)/\Ext w w'/\∀q,aD s q->w.heap.size<=q):=by
 obtain⟨dC,cd,cI⟩:=h.cells
 have V:=h.bL
 refine okF (Z.xl (some C.c)) aj.xl func200 ?_
 (delta Z.xl bp;dsimp only)
 refine Calls.mono (Z.Ig (some C.c) ⟨254,#[],#[]⟩ w (λv w'=>∃ (s:ag) (zs:Y Int),v=s/\aS 1 3 w' s (zs.map encZ)/\zs.Perm (kM C.aq)/\Ext w w'/\∀q,aD s q->w.heap.size<=q) ?_) ?_
 · (delta Z.uc ae aw a_ kx bj bX bB bz r1 bR aa e6 aK bd ap an dg;dsimp only)
   refine⟨λh=>(by cases h),λ_=>⟨_,rfl,⟨some C.aN,C.aq.length,C.aq.length⟩,cd,λs n w'=>∃i:Nat,n=(i:Int)/\i<=C.aq.length/\aS 1 3 w' s ((kM (C.aq.take i)).map encZ)/\Ext w w'/\∀q,aD s q->w.heap.size<=q,λ_ n _=>((C.aq.length:Int)-n).toNat,⟨0,rfl,dd _,by simpa[kM] using aS.none 1 3 w,.refl _ _,λq e=>(fx q e).elim⟩,?_⟩⟩
   rintro s _ p ⟨i,rfl,hi,a,hx,g⟩
   have A:=h.ext hx
   refine⟨λaI=>?_,λB=>?_⟩
   · have r:i<C.aq.length:=by
       have:(i:Int)<(C.aq.length:Int):=b3 aI
       omega
     obtain⟨f,hf⟩:∃f,f=C.aq[i]:=⟨_,rfl⟩
     have W:(kM (C.aq.take i)).length<=64:=by
       unfold kM
       rw[dn]
       have:=List.length_filter_le Fr.hZ (C.aq.take i)
       rw[fg]at this;omega
     have t:kM (C.aq.take (i+1))=kM (C.aq.take i)++(if f.hZ then [f.no] else []):=by
       unfold kM
       rw[jZ r,List.filter_append,e5,←hf,List.filter_cons,List.filter_nil]
       congr 1
       split<;>rfl
     refine bK (λs w'=>aS 1 3 w' s ((kM (C.aq.take (i+1))).map encZ)/\Ext w w'/\∀q,aD s q->w.heap.size<=q) (λq e=>?_) ?_
     · have hc:∀j,j<6->p.cell? ⟨C.aN,i*6+j,none⟩=(f.c)[j]? :=λj D=>by rw[hf];exact kI A.f r D
       refine⟨_,rfl,⟨J,by show(i:Int)<(C.aq.length:Int);omega⟩,?_⟩
       rw[uz]
       refine⟨f.full,hc 0 (by decide),f.gz,by rw[av];exact hc 1 (by decide),f.used,by rw[av];exact hc 2 (by decide),f.no,by rw[av];exact hc 3 (by decide),f.pins,by rw[av];exact hc 4 (by decide),f.b,by rw[av];exact hc 5 (by decide),?_⟩
       refine aV (vs:=[false,false,false,(0:Int),(0:Int),()]) rfl λX u E ab=>⟨u.cn rfl (λv l=>?_),rfl,cU u (us:=f.c) rfl rfl λy d F ac=>?_⟩
       · simp only[cW,fh,ft]at l
         rcases l with rfl|rfl|rfl|rfl|rfl|rfl<;>trivial
       have G:Ext p y:=Ext.bO E F (bk _)
       refine⟨f.full,d.cell,f.gz,by rw[av];exact d.cell,f.used,by rw[av];exact d.cell,f.no,by rw[av];exact d.cell,f.pins,by rw[av];exact d.cell,f.b,by rw[av];exact d.cell,Ll,(Lm f y).use ?_⟩
       rintro _ m ⟨rfl,z⟩
       have k:=Ext.trans G z
       have H:=d.ext z
       refine⟨_,rfl,λhd=>⟨f.no,by rw[av];exact H.cell,aQ ?_⟩,λhd=>e _ _ ⟨?_,Ext.trans hx k,g⟩⟩
       · have o:Ext m (m.alloc (.cells #[encZ f.no] 3)):=cM _ _
         obtain⟨I,K,aJ,aW,_,L,M⟩:=uu.append (c4:=52) (x:=⟨some m.heap.size,1,1⟩) (Src.new (T:=3) m [encZ f.no] 1 rfl) ((a.ext k).ext o) (λv l=>by rw[dH.1 l];trivial) (by
           have:s.len=(kM (C.aq.take i)).length:=by
             have:=a.1
             rw[dn]at this;omega
           show(2*(s.len+1)+1000)*8<=_;omega)
         refine⟨I,K,aJ,e _ _ ⟨?_,?_,λq e=>?_⟩⟩
         · rw[t,hd,if_pos rfl,e5];exact aW
         · exact Ext.eH (Ext.trans (Ext.trans hx k) o) L g
         · rcases M q e with h1|h1
           · exact g q h1
           · have:=(Ext.trans hx k).size
             have:=o.size;omega
       · rw[t,hd]
         simp only[fW,if_false,qy]
         exact a.ext k
     · rintro ad af ⟨h1,h2,N⟩
       have O:IntKind.wrap .i64 ((i:Int)+1)=((i+1:Nat):Int):=by rw[bW J J];omega
       rw[O]
       exact⟨⟨i+1,rfl,J,h1,h2,N⟩,by show((C.aq.length:Int)-((i+1:Nat):Int)).toNat<((C.aq.length:Int)-(i:Int)).toNat;omega⟩
   · have P:i=C.aq.length:=by
       have:¬(i:Int)<(C.aq.length:Int):=cx B
       omega
     rw[P,jx]at a
     refine(AR a (by
       unfold kM
       rw[dn]
       have:=List.length_filter_le Fr.hZ C.aq;omega)).use ?_
     rintro _ bY ⟨rfl,Q,zs,R,S⟩
     exact⟨rfl,s,zs,rfl,R,S.1,Ext.eH hx Q g,g⟩
 · rintro _ w1 ⟨_,rfl,s,zs,rfl,a,U,hx,hf⟩
   exact⟨s,rfl,s,zs,rfl,a,U,hx,hf⟩
end
section
variable {w w':I}{C:cj}{X:Nat->Prop}
theorem Lo{D:ba}{no:Nat}{s:ag}{l:cL}{N:Nat}(a:∀q,aD s q->bI D q\/N<=q):∀q,bI (D.put no s l) q->bI D q\/N<=q:=by
 rintro q (e|e|e|⟨x,hx,e⟩)
 .exact .inl (.inl e)
 .exact .inl (.inr (.inl e))
 .exact .inl (.inr (.inr (.inl e)))
 .rcases cW.1 hx with rfl|hx
  .exact a q e
  .exact .inl (.inr (.inr (.inr ⟨x,(hJ.1 hx).1,e⟩)))
theorem fe.sa{aL:ba}(h:fe w C)(hd:cv w' aL)(e:aL.d=C.D.d)(hc:ad (bI C.D) w w')(hf:∀q,bI aL q->bI C.D q\/w.heap.size<=q):fe w' {C with D:=aL}:=by
 have h1:=h.v.ak hc h.a1.2.1;rw[←e]at h1;have a:C.c<w.heap.size:=h.v.lt;have b:C.aN<w.heap.size:=aZ.lt h.f;refine⟨h1,aZ.ak h.f hc h.a1.2.2,hd,h.bH,h.bL,h.hd,h.a1.1,λg=>?_,λg=>?_⟩
 .rcases hf _ g with g|g
  .exact h.a1.2.1 g
  .have g:w.heap.size<=C.c:=g
   omega
 .rcases hf _ g with g|g
  .exact h.a1.2.2 g
  .have g:w.heap.size<=C.aN:=g
   omega
def cj.wrote(C:cj)(i no:Nat)(hi:i<C.aq.length)(s:ag):cj:={C with aq:=C.aq.set i {C.aq[i] with gz:=false},D:=C.D.put no s (C.aq[i]).l}
theorem Lp(h:dQ X w C){i no:Nat}(hi:i<C.aq.length)(hf:(C.aq[i]).full=true)(r:(C.aq[i]).no=no){s:ag}(G:¬C.D.b6 no=true)(hd:cv w' (C.D.put no s (C.aq[i]).l))(hc:ad (bI C.D) w w')(S:∀q,aD s q->bI C.D q\/w.heap.size<=q):
 (∃u:O,w'.cell? ⟨C.aN,i*6+1,none⟩=some u)/\w'.frozen? ⟨C.aN,i*6+1,none⟩=false/\dQ X (w'.setCell ⟨C.aN,i*6+1,none⟩ false) (C.wrote i no hi s)/\
   ew C (C.wrote i no hi s) w (w'.setCell ⟨C.aN,i*6+1,none⟩ false) 1/\∀j,(C.wrote i no hi s).view j=C.view j:=by
 have y:=Lo (no:=no) (l:=(C.aq[i]).l) S;obtain⟨aL,t⟩:∃aL,aL=C.D.put no s (C.aq[i]).l:=⟨_,rfl⟩;have A:∀j,aL.now j=if j=no then (C.aq[i]).l else C.D.now j:=by rw[t];exact p5 _ _ _ _
 have H:aL.d=C.D.d:=by rw[t];rfl
 have T:aL.n=C.D.n:=by rw[t];rfl
 have U:aL.key=C.D.key:=by rw[t];exact ET C.D G
 have I:lk aL C.D:=by rw[t];exact ES h.inv G
 have ai:aL.bu=C.D.bu+1:=by rw[t];rfl
 have W:∀m,C.D.calm (m+1)->aL.calm m:=λm hm=>by rw[t];exact(ka (.inr rfl) h.raw.dev.f4 hm).1
 unfold cj.wrote;rw[←t]at hd y⊢;have K:=h.raw.sa hd H hc y;obtain⟨a1,a2,a3,a4⟩:=oB K.f hi (j:=1) (by decide) (v:=false) {C.aq[i] with gz:=false} rfl;obtain⟨f',g⟩:∃f':Fr,f'={C.aq[i] with gz:=false}:=⟨_,rfl⟩;rw[←g]at a3⊢;refine⟨a1,a2,?_⟩;generalize w'.setCell ⟨C.aN,i*6+1,none⟩ false=B at a3 a4;have F:ad (c3 C) w B:=ct (hc.mono λq _ e=>.inr (.inr e)) a4 λq _ e=>.inr (.inl e);obtain⟨x,aJ,aW,Y,Z,aj,ak,aa⟩:=h.inv.ok _ (cO hi) hf;have ab:x=no:=by rw[r]at aJ;omega
 subst ab;obtain⟨a,p⟩:∃a:cj,a={C with aq:=C.aq.set i dE,D:=aL}:=⟨_,rfl⟩;have h1:gM X B a:=by
  rw[p];exact AZ (V:=c3 C) hi h.inv F (λ_ _ h=>h) I (λj z=>by rw[A,if_neg λe=>z hf (by rw[r,e])]) y dE rfl rfl
 have v1:∀j,a.view j=C.view j:=λj=>by
  rw[p];exact ER hi h.inv (λ_ j z=>by rw[A,if_pos (by rw[r]at z;omega)]) (λj z=>by rw[A,if_neg λe=>z hf (by rw[r,e])]) dE rfl j
 have E:a.aq=C.aq.set i dE:=by rw[p]
 have L:i<a.aq.length:=by rw[E,c1];exact hi
 have M:∀ (k:Nat) (ac:k<a.aq.length),k≠i->(a.aq[k]).full=true->(a.aq[k]).no≠x:=λk ac N h2 P=>by
  simp only[E,fu (Ne.symm N)]at h2 P;exact N (h.inv.un k i _ hi h2 hf (by rw[P,r]))
 have aU:C.aq.set i f'=a.aq.set i f':=by rw[E,set_set]
 have Q:({C with aq:=C.aq.set i f',D:=aL}:cj)={a with aq:=a.aq.set i f',D:=aL}:=by rw[aU,p]
 have ae:cE (λq=>¬c3 {C with aq:=C.aq.set i f',D:=aL} q/\¬X q) B f'.b f'.l:=by
  rw[g];refine cE.re Y F (λq _ R=>R.1) λq R hb=>⟨λo=>hb.1 ?_,hb.2⟩;rcases o with o|o|o
  .exact .inl o
  .exact .inr (.inl o)
  .exact .inr (.inr ((y q o).resolve_right J))
 have h2:gM X B {C with aq:=C.aq.set i f',D:=aL}:=by
  rw[Q];refine A0 (C:=a) (no:=x) (V:=λ_=>False) L h1 (.refl _ _) (λ_ _ h=>h.elim) (by rw[p];exact⟨rfl,λ_ h=>h,I.2.2⟩) (λj=>by rw[p]) (λq=>by rw[p]) f' (by rw[g];exact hf) (by rw[g];exact h.inv.pins (C.aq[i]) (cO hi)) ⟨by rw[g];exact r,by show x<aL.n;rw[T];exact aW,by rw[←Q];exact ae,by rw[g];exact Z,λ_=>?_,λ_=>by rw[g],aa⟩ M;show f'.l=aL.now x;rw[A,if_pos rfl,g]
 have af:∀j,({C with aq:=C.aq.set i f',D:=aL}:cj).view j=C.view j:=λj=>by
  have ah:({C with aq:=C.aq.set i f',D:=aL}:cj)=cj.mk a.c a.aN (a.aq.set i f') C.hand aL:=by rw[aU,p]
  rw[ah,A1 (C:=a) (hd:=C.hand) (aL:=aL) (no:=x) L h1.un (λj=>by rw[p]) f' (by rw[g];exact hf) (by rw[g];exact r) (λo=>by simp only[E,iA]at o;cases o) M j,v1];split
  .rename_i e
   subst e;have:=nc (fs:=C.aq) (D:=C.D) (c:=C.c) (aN:=C.aN) (hd:=C.hand) h.inv.un hi hf r;rw[g];exact this.symm
  .rfl
 refine⟨⟨?_,h2⟩,⟨rfl,H,by show(C.aq.set i _).length=_;rw[c1],U,by show aL.bu<=_;omega,W,F,?_⟩,af⟩
 .refine A2 (C:={C with D:=aL}) K a4 a3
 .rintro q (e|e|e)
  .exact .inl (.inl e)
  .exact .inl (.inr (.inl e))
  .exact(y q e).imp (λh=>.inr (.inr h)) id
theorem Be{aL:ba}(h:dQ X w C)(hd:cv w' aL)(e:aL.d=C.D.d)(b:lk aL C.D)(a:∀i,aL.now i=C.D.now i)(hc:ad (bI C.D) w w')(hf:∀q,bI aL q->bI C.D q\/w.heap.size<=q):dQ X w' {C with D:=aL}/\∀j,({C with D:=aL}:cj).view j=C.view j:=
 ⟨⟨h.raw.sa hd e hc hf,uA (C:=C) (hd:=C.hand) h.inv (iq.refl _) (hc.mono λq _ e=>.inr (.inr e)) (λ_ _ h=>h) b a hf⟩,λj=>uB (C:=C) (hd:=C.hand) h.inv (iq.refl _) a j⟩
theorem Lq(h:dQ X w C)(hc:∀f∈C.aq,f.hZ=false)(j:Nat):C.view j=C.D.now j:=by
 unfold cj.view
 cases b:C.aq.find? λf=>f.full&&f.no==(j:Int) with
 |none=>rfl
 |some f=>
  have hm:=j1 b;have a:=k0 b;simp only[du,jw]at a;obtain⟨no,aJ,aW,d,g,c⟩:=h.inv.ok f hm a.1;have h1:=hc f hm;unfold Fr.hZ at h1;rw[a.1,iy]at h1;have e:no=j:=by rw[a.2]at aJ;omega
  rw[←e];exact c h1
theorem Fi{D:ba}(h:cv w D)(i:Nat):D.jq.now i=D.now i:=by
 by_cases hi:i<D.n
 .exact Bc D hi
 .have h1:D.now i=[]:=by
   unfold ba.now
   cases hf:D.waits.find? λx=>x.i==i with
   |some x=>
    have hx:=j1 hf;have he:x.i=i:=by simpa using k0 hf
    have:=(h.wn x hx).2.1;omega
   |none=>
    have:¬i<D.bq.length:=hi;show D.bq.getD i []=[];rw[gO,lB J];rfl
  rw[h1];show((List.range D.n).map D.now).getD i []=[];rw[gO,lB (by simp;omega)];rfl
theorem uH(D:ba){m:Nat}(h:D.calm m):(D.cF 3).calm m:=by
 unfold ba.calm ba.cF at*;simpa[gO] using h
theorem ew.r1{C br:cj}{w w':I}{k:Nat}(h:ew C br w w' k):br.D.r1=C.D.r1:=congrArg (λk:(Y cL×(Nat->ai)×(Nat->Y cL)×(Int->Prop)×ai)×Int=>k.1.2.2.2.2) h.bq
structure Lr(X:Nat->Prop)(C br:cj)(w:I)(v:O)(w':I):Prop where
 at_:dQ X w' br
 c:br.c=C.c
 d:br.D.d=C.D.d
 len:br.aq.length=C.aq.length
 n:br.D.n=C.D.n
 b6:br.D.b6=C.D.b6/\br.D.eN=C.D.eN
 r:br.D.r1=C.D.r1
 bu:br.D.bu<=C.D.bu+64
 calm:∀m,C.D.calm (m+64)->br.D.calm m
 ak:ad (c3 C) w w'
 cV:∀q,c3 br q->c3 C q\/w.heap.size<=q
 view:∀j,br.view j=C.view j
 j8:(v=.int .i64 0/\br.D.waits=[]/\(∀f∈br.aq,f.hZ=false)/\br.D.b_.getD 3 0=(gK (C.D.b_.getD 3 0)).2)\/(v=.int .i64 3/\br.D.bq=C.D.bq/\(¬C.D.calm 64\/C.D.fU 3=true))
theorem Ls(h:dQ X w C)(aV:C.D.bu<=999999900)(ai:∀j,C.D.b6 j=true->C.D.eN j=[]):az ah 150 #[.pointer (some C.c)] w (λv w'=>∃br,Lr X C br w v w'):=by
 have aX:=h.raw.bL;refine okF (Z.w9 (some C.c)) aj.w9 func150 ?_;(delta Z.w9 ae bp cR bj bX r1 bz fj aw a_ bx st an;dsimp only);refine⟨λh=>(by cases h),λ_=>(Ln h.raw).use ?_⟩;rintro _ w1 ⟨s,zs,rfl,hs,K,T,al⟩;have hlen:s.len=zs.length:=by have:=hs.1;rw[dn]at this;omega
 have aY:zs.length<=64:=by
  rw[K.length_eq];unfold kM;rw[dn];have:=List.length_filter_le Fr.hZ C.aq;omega
 have h1:=h.ext T;have am:∀z∈zs,∀no:Nat,(no:Int)=z->¬C.D.b6 no=true:=λz t no aZ hs=>by
  obtain⟨f,hf,e⟩:=dj.1 (K.mem_iff.1 t);obtain⟨h2,u⟩:=hJ.1 hf;unfold Fr.hZ at u;rw[du]at u;obtain⟨m,bH,_,_,_,_,U,ao⟩:=h.inv.ok f h2 u.1;have:m=no:=by rw[e]at bH;omega
  subst this;rw[U hs]at u
  cases u.2
 refine⟨s,rfl,λn w'=>∃ (i:Nat) (g:cj),n=(i:Int)/\i<=zs.length/\dQ X w' g/\ew C g w w' i/\(∀j,g.view j=C.view j)/\aS 1 3 w' s (zs.map encZ)/\(∀f∈g.aq,f.hZ=true->f.no∈zs.drop i)/\(∀z∈zs,∃f∈g.aq,f.full=true/\f.no=z)/\∀q,c3 g q->¬aD s q,
  λn _=>((zs.length:Int)-n).toNat,⟨0,C,rfl,dd _,h1,ew.ext C T,λ_=>rfl,hs,λf hf hd=>?_,λz t=>?_,λq o L=>?_⟩,?_⟩
 .exact K.mem_iff.2 (dj.2 ⟨f,hJ.2 ⟨hf,hd⟩,rfl⟩)
 .obtain⟨f,hf,e⟩:=dj.1 (K.mem_iff.1 t)
  obtain⟨h2,u⟩:=hJ.1 hf;unfold Fr.hZ at u;rw[du]at u;exact⟨f,h2,u.1,e⟩
 .have:=al q L;have:=h.raw.lt o;omega
 rintro _ O ⟨i,g,rfl,hi,p,l,M,P,V,hex,W⟩;have a0:=l.bu;refine⟨λaI=>?_,λap=>?_⟩
 .have F:i<zs.length:=by
   have:(i:Int)<(s.len:Int):=b3 aI;omega
  obtain⟨a,au,ax⟩:∃a:ar,s.a=some a/\O.cell? (a.add (Int.toNat (i:Int)*1))=some (.int .i64 zs[i]):=by
   obtain⟨b,c,hb,_,_,_,_,Q,_⟩:=P.cell (i:=i) (v:=encZ zs[i]) (by rw[nE,fQ F];rfl);exact⟨_,hb,by rw[dW,av,cg,fR];exact Q⟩
  refine⟨a,au,⟨J,by show(i:Int)<(s.len:Int);omega⟩,zs[i],ax,?_⟩;rw[←l.c];refine(yA p.raw _).use ?_;rintro _ _ ⟨ay,rfl⟩;obtain⟨f,aA,aB,aC⟩:=hex zs[i] (cO F);rcases ay with ⟨k,G,rfl,aJ,aW⟩|⟨_,aE⟩
  rotate_left
  .exact absurd aC (aE f aA aB)
  have H:=bC O;have A:=p.ext H;obtain⟨no,bH,bL,Y,aF,a1,U,ao⟩:=A.inv.ok _ (cO G) aJ;have t:zs[i]=(no:Int):=by rw[←aW,bH]
  have aG:=kI A.raw.f G (j:=5) (by decide);refine⟨_,rfl,aQ ⟨_,rfl,id,_,A.raw.cells.1,_,rfl,id,(g.aq[k]).b,by rw[av];exact aG,?_⟩⟩;rw[t];refine(yr A.raw.dev (i:=no) bL J Y.1 aF λq o hf=>(Y.2.2 q o).1.1 (.inr (.inr hf))).use ?_;rintro v2 af aH;have aK:=l.ak.size;have a2:=H.size;rcases aH with ⟨hb,rfl,B,r⟩|⟨hb,rfl,s2,B,r,aL⟩
  .obtain⟨ni,lS⟩:=Be A B rfl (A.inv.cF 2) (λj=>yB g.D 2 j) (r.mono λq _ e=>.inl e) λq o=>.inl o
   refine⟨3,rfl,λ_=>⟨{g with D:=g.D.cF 2},ni,l.c,l.d,l.len,l.n,l.qb,l.r1,by show g.D.bu<=_;omega,λm hm=>?_,?_,?_,λj=>(lS j).trans (M j),.inr ⟨rfl,?_,.inl λaM=>?_⟩⟩,λh=>(by cases h)⟩
   .exact(ka (.inr rfl) p.raw.dev.f4 (l.calm (m+1) (j_ hm J))).1
   .refine ct (l.ak.trans (ad.bA H)) r λq o e=>?_
    exact(l.cV q (.inr (.inr (.inl e)))).resolve_right J
   .exact l.cV
   .exact congrArg (λk=>k.1.1) l.bq
   .have:=(ka (k:=2) (m:=0) (.inr rfl) p.raw.dev.f4 (l.calm 1 (j_ aM J))).2
    rw[hb]at this;cases this
  .obtain⟨gh,df,aa,N,aO⟩:=Lp A G aJ (by rw[aW,t]) (λhs=>am _ (cO F) _ t.symm (by rw[←l.b6];exact hs)) B r aL
   refine⟨0,rfl,λh=>(by cases h),λ_=>⟨_,rfl,by rw[av];exact gh,by rw[av];exact df,?_⟩⟩;rw[av];refine aQ ?_;generalize af.setCell ⟨g.aN,k*6+1,none⟩ false=a3 at aa N;have aP:IntKind.wrap .i64 ((i:Int)+1)=((i+1:Nat):Int):=by rw[bW J J];omega
   rw[aP];have aR:=(l.trans (ew.ext g H)).trans N;have aT:zs.drop i=zs[i]::zs.drop (i+1):=l1 F;refine⟨⟨i+1,_,rfl,J,aa,aR,λj=>(aO j).trans (M j),(P.ext H).ak N.ak λq o hf=>W q hf o,λf hf y=>?_,λz t=>?_,λq o L=>?_⟩,by show((zs.length:Int)-((i+1:Nat):Int)).toNat<((zs.length:Int)-(i:Int)).toNat;omega⟩
   .have hf:f∈g.aq.set k {g.aq[k] with gz:=false}:=hf
    obtain⟨b,R,rfl⟩:=eZ hf;have ab:b<g.aq.length:=by simpa using R
    by_cases e:k=b
    .subst e
     simp[Fr.hZ]at y
    .simp only[fu e]at y⊢
     have E:=V _ (cO ab) y;rw[aT]at E;rcases cW.1 E with S|S
     .unfold Fr.hZ at y
      rw[du]at y;exact absurd (p.inv.un k b G ab aJ y.1 (by rw[aW,S])) e
     .exact S
   .obtain⟨f,f1,f2,f3⟩:=hex z t
    obtain⟨b,R,rfl⟩:=eZ f1;by_cases e:k=b
    .subst e
     exact⟨{g.aq[k] with gz:=false},List.mem_set G _,f2,f3⟩
    .exact⟨g.aq[b],List.mem_iff_getElem.2 ⟨b,by show b<(g.aq.set k _).length;rw[c1];exact R,by show(g.aq.set k _)[b]'_=_;rw[fu e]⟩,f2,f3⟩
   .rcases N.cV q o with E|E
    .exact W q E L
    .have:=P.lt q L;omega
 .have F:i=zs.length:=by
   have:¬(i:Int)<(s.len:Int):=cx ap;omega
  have Q:∀f∈g.aq,f.hZ=false:=λf hf=>by
   cases y:f.hZ with
   |false=>rfl
   |true=>
    have:=V f hf y;rw[F,List.drop_length]at this
    cases this
  have ac:g.D.b_.getD 3 0=C.D.b_.getD 3 0:=congrArg Prod.snd l.bq;rw[←l.c];refine⟨_,rfl,_,p.raw.cells.1,(Bd p.raw.dev J).use ?_⟩;have aK:=l.ak.size;rintro v2 af (⟨hb,rfl,B,r⟩|⟨hb,rfl,B,r⟩)
  .obtain⟨ni,lS⟩:=Be p B rfl (p.inv.cF 3) (λj=>yB g.D 3 j) (r.mono λq _ e=>.inl e) λq o=>.inl o
   refine⟨3,rfl,{g with D:=g.D.cF 3},ni,l.c,l.d,l.len,l.n,l.qb,l.r1,by show g.D.bu<=_;omega,λm hm=>uH _ (l.calm m (j_ hm J)),ct l.ak r λq o e=>(l.cV q (.inr (.inr (.inl e)))).resolve_right J,l.cV,λj=>(lS j).trans (M j),.inr ⟨rfl,congrArg (λk=>k.1.1) l.bq,.inr ?_⟩⟩;unfold ba.fU at hb⊢;rw[←ac];exact hb
  .have ag:∀q,bI (g.D.cF 3).jq q->bI g.D q\/O.heap.size<=q:=by
    rintro q (e|e|e|⟨x,hx,e⟩)
    .exact .inl (.inl e)
    .exact .inl (.inr (.inl e))
    .exact .inl (.inr (.inr (.inl e)))
    .cases hx
   have aU:∀j,(g.D.cF 3).jq.now j=g.D.now j:=λj=>by
    by_cases I:j<g.D.n
    .exact(Bc (g.D.cF 3) I).trans (yB g.D 3 j)
    .have E:g.D.jq.now j=g.D.now j:=Fi p.raw.dev j
     exact E
   obtain⟨ni,lS⟩:=Be p B rfl ⟨uG (g.D.cF 3),λ_ h=>h,λj I=>by
    have I:g.D.b6 j=true:=I;have e:g.D.eN j=[]:=by rw[l.qb.2];exact ai j (by rw[←l.qb.1];exact I)
    exact e.symm⟩ aU r ag
   refine⟨0,rfl,{g with D:=(g.D.cF 3).jq},ni,l.c,l.d,l.len,(uG (g.D.cF 3)).trans l.n,l.qb,l.r1,by show g.D.bu<=_;omega,λm hm=>uH g.D (l.calm m (j_ hm J)),ct l.ak r λq o e=>(l.cV q (.inr (.inr e))).resolve_right J,λq o=>?_,λj=>(lS j).trans (M j),.inl ⟨rfl,rfl,Q,?_⟩⟩
   .rcases o with e|e|e
    .exact l.cV q (.inl e)
    .exact l.cV q (.inr (.inl e))
    .rcases ag q e with e|e
     .exact l.cV q (.inr (.inr e))
     .exact .inr J
   .show(g.D.b_.set 3 _).getD 3 0=_
    have a4:=p.raw.dev.f4;rw[fE (by rw[c1];omega),iA,ac]
end
def iY(bh d c sb:Nat)(l:dM)(u:cN)(gen now first pending keys:Nat)(failed:ai):Y O:=
 [.pointer (some bh),.pointer (some d),.pointer (some c),.pointer (some sb),l.aq,l.batch,.int .u64 (l.fC:Nat),
  u.root,u.bg,u.map,.int .u64 (u.clock:Nat),.int .u64 (u.di:Nat),u.keys,
  .int .u64 (gen:Nat),.int .u64 (now:Nat),.int .u64 (first:Nat),pending,keys,failed]
section
variable {w w':I}{D:ba}
structure Fj(D:ba)(l:dM)(u:cN)(gen sb:Nat)(w:I)(v:O)(w':I)(c aN bh st:Nat):Prop where
 val:v=.tuple #[.pointer (some st),(0:Int)]
 ca:dQ (λ_=>False) w' (iW c aN l.aq D)
 im:Var w' bh [.pointer (some c),.pointer (some sb),.int .u64 ((gen+1:Nat):Int),u.root,u.bg] 302
 sv:Var w' st (iY bh D.d c sb l u gen u.clock 0 0 u.keys false) 197
 x:Ext w w'
 hc:w.heap.size<=c/\c<bh
 hf:w.heap.size<=aN/\aN<bh
 ht:bh<st
def ba.iL(D:ba)(s:Nat->ai)(z:Nat->Y cL):ba:={D with b6:=s,eN:=z}
theorem cv.iL(h:cv w D)(s:Nat->ai)(z:Nat->Y cL):cv w (D.iL s z):=⟨h.v,h.l,h.m,h.ws,h.wn,h.sl,h.bT,h.dN,h.bF,h.f4,h.fr,h.a1,h.a2,h.a3,h.r⟩
theorem n4(h:cv w D){l:dM}(p:8<=l.aq/\l.aq<=64){u:cN}(hu:A8 D.n (u.root:Nat) (u.bg:Nat)){gen:Nat}(hg:gen+1<18446744073709551616)(r:∀j,D.b6 j=true->D.eu j=D.eN j)(sb:Nat):
 az ah 45 #[.pointer (some D.d),.agg l.c.toArray,.agg u.c.toArray,.int .u64 (gen:Nat),.pointer (some sb)] w (λv w'=>∃c aN bh st,Fj D l u gen sb w v w' c aN bh st):=by
 refine Z.HP _ (l.aq:Nat) (l.batch:Nat) (l.fC:Nat) (u.root:Nat) (u.bg:Nat) (u.map:Nat) (u.clock:Nat) (u.di:Nat) (u.keys:Nat) (gen:Nat) (some sb) w _ ?_;(delta Z.n4 aE r1 aa e0 ae aK b5 db;dsimp only);refine aV (vs:=l.c) rfl λw1 s g G=>aV (vs:=u.c) rfl λaf t a H=>?_;have q:=s.ext a;have x:=h.ext (g.trans a);refine⟨_,q.cell,(rj x p.1 p.2 r).use ?_⟩;rintro _ aA ⟨c,aN,rfl,b,e,I,K⟩;have i:=t.ext e;have y:IntKind.wrap .u64 ((gen:Int)+1)=((gen+1:Nat):Int):=by rw[eG J J];omega
 rw[y];have L:(iW c aN l.aq D).D=D:=rfl;refine⟨_,0,rfl,λh=>(by cases h),λ_=>⟨_,i.cell,_,by rw[av];exact i.cell,(rk b.raw sb ((gen+1:Nat):Int) (u.root:Nat) (u.bg:Nat)).use ?_⟩⟩;rintro _ z (⟨_,rfl,f,A,M⟩|⟨B,_⟩)
 rotate_left
 .exact absurd hu B
 have k:=i.ext f;have m:=(q.ext e).ext f;have N:=(g.trans a).size;have O:=e.size;have C:c<aA.heap.size:=b.raw.lt (.inl rfl);have E:aN<aA.heap.size:=b.raw.lt (.inr (.inl rfl));refine⟨_,0,rfl,λh=>(by cases h),λ_=>⟨_,m.cell,_,by rw[av];exact m.cell,_,by rw[av];exact m.cell,gU k ⟨_,by rw[av];exact k.cell,_,by rw[av];exact k.cell,(iY aA.heap.size D.d c sb l u gen u.clock 0 0 u.keys false).toArray,by kernel_rfl,aV (vs:=iY aA.heap.size D.d c sb l u gen u.clock 0 0 u.keys false) rfl λP F o Q=>?_⟩⟩⟩;exact⟨c,aN,aA.heap.size,z.heap.size,rfl,(b.ext f).ext o,A.ext o,F,Ext.trans (Ext.trans (g.trans a) e) (Ext.trans f o),⟨J,C⟩,⟨J,E⟩,J⟩
def fN(f:Nat->ai)(k:Nat):Y UInt8:=(List.range k).map λi=>UInt8.ofNat (byteOf f i)
theorem Fk(f:Nat->ai)(k:Nat):ax (fN f k)=eU f k:=by
 unfold ax fN eU;rw[gF];refine nD λi _=>?_;have:=kH f i;show Value.int .u8 (((UInt8.ofNat (byteOf f i)).toNat:Nat):Int)=_;rw[UInt8.toNat_ofNat',hK this]
theorem qf(f:Nat->ai)(k:Nat):(fN f k).length=k:=by simp[fN]
def kN:cN:=⟨0,0,2,0,0,0⟩
structure Fl(D aL:ba):Prop where
 d:aL.d=D.d
 n:aL.n=D.n
 now:∀j,aL.now j=if j=1 then eI 1 (kc kN D.n 1) else if j=2 then eI 2 ⟨4,1,fN (λi=>decide (i<3)) ((D.n+7)/8)⟩ else if j=0 then gL else D.now j
 waits:aL.waits=[]
 bu:aL.bu=D.bu+4
 calm:∀k,aL.calm k
 b_:aL.b_.getD 3 0= -1
 b6:aL.b6=λi=>decide (i<3)
 eN:aL.eN=λ_=> []
 r:aL.r1=D.r1
structure Lt(D:ba)(l:dM)(w:I)(v:O)(w':I)(aL:ba)(sb:Nat)(s1 s2:ag)(c aN bh st:Nat)(kF:I):Prop where
 Fm:Fj aL l kN 1 sb kF v w' c aN bh st
 sp:eW w' sb D.n (λi=>decide (i<3)) (λi=>decide (i<3)) s1 s2
 sa:Fl D aL
 ak:ad (bI D) w kF
 uI:∀q,ga sb s1 s2 q->w.heap.size<=q/\q<kF.heap.size
 dq:∀q,bI aL q->bI D q\/(w.heap.size<=q/\q<kF.heap.size)
 c0:∀q,ga sb s1 s2 q->¬bI aL q
theorem me(h:cv w D){l:dM}(ai:hY (l.aq:Nat) (l.batch:Nat) (l.fC:Nat))(bf:∀k,D.calm k)(sm:D.b_.getD 3 0= -1)(b4:D.bu<=999999000):
 az ah 16 #[.pointer (some ⟨D.d,0,none⟩),.agg l.c.toArray] w (λv w'=>∃aL sb s1 s2 c aN bh st kF,Lt D l w v w' aL sb s1 s2 c aN bh st kF):=by
 have b6:=h.dN;have b7:=h.bF;refine Z.HJ _ (l.aq:Nat) (l.batch:Nat) (l.fC:Nat) w _ ?_;(delta Z.me aE r1 aa aK b5 db bn ae bx e0 bp eK iR cR an fl bR;dsimp only);refine aV (vs:=l.c) rfl λw1 M G b8=>⟨_,M.cell,_,by rw[av];exact M.cell,_,by rw[av];exact M.cell,(n2 w1 _ _ _ _).use ?_⟩;rintro _ aC ⟨rfl,z⟩;have bg:=h.ext (G.trans z);refine⟨_,rfl,λhb=>?_,λ_=>(sn bg).use ?_⟩
 .rw[eB ai]at hb;cases hb
 rintro _ _ ⟨rfl,rfl⟩;refine⟨_,rfl,(q6 aC (D.n:Nat) 3).use ?_⟩;rintro _ b9 (⟨bi,_⟩|⟨_,_,_,_,sb,s1,s2,rfl,hs,T,U⟩)
 .exact absurd ⟨by omega,by omega,by omega,by omega⟩ bi
 rw[dW]at hs;have V:Int.toNat 3=3:=rfl;rw[V]at hs;refine⟨_,0,rfl,λh=>(by cases h),λ_=>(EK hs).use ?_⟩;rintro _ bm ⟨aH,rfl,aJ,H,ca⟩;rw[←Fk]at aJ;obtain⟨mp,N⟩:∃mp:iJ,mp=⟨4,1,fN (λi=>decide (i<3)) ((D.n+7)/8)⟩:=⟨_,rfl⟩;have aM:ot mp:=by rw[N];exact⟨(by decide:1<=4),(by decide:4<=4),(by decide:1<18446744073709551616),by show(fN _ _).length<=232;rw[qf];omega⟩
 have aO:=yj (s:=aH) (p:=mp) (no:=2) (w:=bm) (by rw[N];exact aJ.src) (by decide) aM;rw[N]at aO;refine⟨aH,rfl,aO.use ?_⟩;rw[←N];rintro _ bl ⟨C,rfl,aQ,K,bo⟩;have aR:=Ext.trans (Ext.trans (G.trans z) T) (Ext.trans H K);have cb:=aR.size;refine⟨C,0,rfl,λh=>(by cases h),λ_=>⟨⟨by omega,by omega,by omega,by omega⟩,?_⟩⟩;rw[AD];have br:Int.toNat 256=256:=rfl;rw[br];have aj:gL.length=256:=lC;refine aV (vs:=ax gL) rfl λbt O E cc=>?_;obtain⟨bj,bs⟩:∃bj,bj=bl.heap.size:=⟨_,rfl⟩;rw[←bs]at O⊢;have W:=Ext.trans aR E;have aS:Src 1 bt ⟨some ⟨bj,0,none⟩,256,256⟩ (ax gL):=O.uk (o:=0) (n:=256) (c:=256) (l:=gL) (by rw[c7,aj];exact bk _) (by rw[lz,eY (by rw[c7,aj];exact bk _)]);refine⟨#[.slice (some ⟨bj,0,none⟩) 256 256,.slice (some ⟨bj,0,none⟩) 256 256,.slice C.a C.len C.cap],by kernel_rfl,?_⟩;have bv:(eI 2 mp).length=256:=uq _ aM;obtain⟨vals,al⟩:∃vals:Nat->cL,vals=λj=>if j=2 then eI 2 mp else gL:=⟨_,rfl⟩
 have bw:∀j,(vals j).length=256:=λj=>by
  rw[al];show(if j=2 then _ else _:cL).length=256;split
  .exact bv
  .exact aj
 have bz:∀k,k<3->∃F:ag,cellAt #[.slice (some ⟨bj,0,none⟩) 256 256,.slice (some ⟨bj,0,none⟩) 256 256,.slice C.a C.len C.cap] (Int.toNat ((k:Nat):Int)*1)=some (.slice F.a F.len F.cap)/\Src 1 bt F (ax (vals k))/\∀q,aD F q->w.heap.size<=q/\q<bt.heap.size:=by
  intro k aT;have bA:=O.lt;have cd:=E.size;rw[al];have hi:∀q,aD (⟨some ⟨bj,0,none⟩,256,256⟩:ag) q->w.heap.size<=q/\q<bt.heap.size:=λq b=>by
   obtain⟨A,au,rfl⟩:=b
   cases au;show w.heap.size<=bj/\bj<_;exact⟨by omega,bA⟩
  have ce:=(Ext.trans (Ext.trans (G.trans z) T) H).size
  match k,aT with
  |0,_=>exact⟨⟨some ⟨bj,0,none⟩,256,256⟩,rfl,aS,hi⟩
  |1,_=>exact⟨⟨some ⟨bj,0,none⟩,256,256⟩,rfl,aS,hi⟩
  |2,_=>exact⟨C,rfl,aQ.src.ext E,λq b=>by have:=bo q b;have:=aQ.lt q b;omega⟩
 have bB:=h.ext W;refine⟨λn w'=>∃ (k:Nat) (r:ba),n=(k:Int)/\k<=3/\cv w' r/\r.d=D.d/\r.n=D.n/\(∀j,r.now j=if j<k then vals j else D.now j)/\r.bu=D.bu+k/\(∀m,r.calm m)/\(r.b_.getD 3 0= -1/\r.r1=D.r1)/\ad (bI D) bt w'/\(∀q,bI r q->bI D q\/bt.heap.size<=q),
  λn _=>((3:Int)-n).toNat,⟨0,D,rfl,dd _,bB,rfl,rfl,λj=>rfl,rfl,bf,⟨sm,rfl⟩,.refl _ _,λq b=>.inl b⟩,?_⟩
 rintro _ cf ⟨k,r,rfl,aT,L,X,aW,aX,bC,am,⟨ao,aY⟩,Y,I⟩;have cg:=Y.size;refine⟨λaI=>?_,λbD=>?_⟩
 .have ap:k<3:=by
   have:((k:Nat):Int)<3:=b3 aI;omega
  obtain⟨F,bE,bG,aZ⟩:=bz k ap;have dJ:∀q,aD F q->¬bI D q:=λq b hf=>by have:=(aZ q b).1;have:=h.lt hf;omega
  have a0:=yr L (i:=k) (by omega) (by omega) (bG.ak Y dJ) (bw k) λq b hf=>by
   rcases I q hf with h1|h1
   .exact dJ q b h1
   .have:=(aZ q b).2;omega
  rw[X]at a0;refine⟨⟨by omega,by omega⟩,F,bE,a0.use ?_⟩;rintro _ ch (⟨hb,_⟩|⟨hb,rfl,s,bH,bJ,bK⟩)
  .have:=(ka (k:=2) (m:=0) (.inr rfl) L.f4 (am 1)).2
   rw[hb]at this;cases this
  refine⟨0,rfl,λh=>(by cases h),λ_=>?_⟩;have bL:IntKind.wrap .i64 (((k:Nat):Int)+1)=((k+1:Nat):Int):=by rw[bW (by omega) (by omega)];omega
  rw[bL];refine⟨⟨k+1,_,rfl,by omega,bH,X,aW,λj=>?_,by show r.bu+1=_;omega,λm=>(ka (.inr rfl) L.f4 (am _)).1,⟨(congrArg Prod.snd (so r (.inr rfl))).trans ao,aY⟩,ct Y bJ λq b hf=>(I q hf).resolve_right (by omega),λq b=>?_⟩,by show((3:Int)-((k+1:Nat):Int)).toNat<((3:Int)-((k:Nat):Int)).toNat;omega⟩
  .rw[p5,aX]
   by_cases e:j=k
   .rw[if_pos e,if_pos (by omega),e]
   .rw[if_neg e]
    by_cases aU:j<k
    .rw[if_pos aU,if_pos (by omega)]
    .rw[if_neg aU,if_neg (by omega)]
  .rcases yH bK q b with h1|h1
   .exact I q h1
   .exact .inr (by omega)
 have ap:k=3:=by
  have:¬((k:Nat):Int)<3:=cx bD;omega
 subst ap;have hf:=Bd L (by omega);rw[X]at hf;refine hf.use ?_;rintro _ a1 (⟨hb,_⟩|⟨_,rfl,ar,bM⟩)
 .unfold ba.fU at hb
  rw[ao]at hb;cases hb
 obtain⟨g,B⟩:∃g,g=(r.cF 3).jq:=⟨_,rfl⟩;rw[←B]at ar;have a2:g.d=D.d:=by rw[B];exact X
 have a3:g.n=D.n:=by rw[B];exact(uG _).trans aW
 have bN:g.r1=D.r1:=by rw[B];exact aY
 have bP:∀j,g.now j=if j<3 then vals j else D.now j:=λj=>by
  rw[←aX,B];have aw:r.jq.now j=r.now j:=Fi L j;exact aw
 have ci:g.bu=D.bu+3:=by rw[B];exact bC
 have a4:∀m,g.calm m:=λm=>by rw[B];exact uH _ (am m)
 have a5:g.b_.getD 3 0= -1:=by
  rw[B];show(r.b_.set 3 _).getD 3 0=_;have bQ:=L.f4;rw[fE (by rw[c1];omega),iA,ao];rfl
 have ab:∀q,bI g q->bI D q\/bt.heap.size<=q:=λq b=>by
  rw[B]at b;rcases b with e|e|e|⟨x,hx,e⟩
  .exact I q (.inl e)
  .exact I q (.inr (.inl e))
  .exact I q (.inr (.inr (.inl e)))
  .cases hx
 have ac:ad (bI D) bt a1:=ct Y bM λq b hf=>(I q hf).resolve_right (by omega);have P:∀q,w.heap.size<=q->¬bI D q:=λq b hf=>by have:=h.lt hf;omega
 have bS:=((M.ext (z.trans (Ext.trans T (Ext.trans H (Ext.trans K E))))).ak ac (P _ (bk _)));have bT:=(hs.ext (Ext.trans H (Ext.trans K E))).ak ac λq b=>P q (by have:=U q b;have:=(G.trans z).size;omega);refine⟨0,rfl,λh=>(by cases h),λ_=>aV (vs:=gy.c) rfl λcj bU bV ck=>jL bU rfl kN λcA a6 bX cl=>gU a6 ?_⟩;have Q:Ext a1 cA:=Ext.bO bV bX (bk _);have R:=ar.ext Q;have a7:=n3 R (by omega) (u:=kN) ⟨(by decide:0<4294967296),(by decide:0<256),(by decide:2<4294967296),(by decide:0<18446744073709551616),(by decide:0<18446744073709551616),(by decide:0<4294967296)⟩ (gen:=1) (by decide);rw[a2]at a7;refine a7.use ?_;have cm:=Q.size;have cn:=ac.size;rintro _ a8 ⟨af,⟨hb,_⟩|⟨_,s,bY,f,y,⟨hb,_⟩|⟨_,rfl,S⟩⟩⟩
 .have:=(ka (k:=2) (m:=0) (.inr rfl) R.f4 (a4 1)).2
  rw[hb]at this;cases this
 .have ay:f.b_.getD 3 0= -1:=by rw[y];exact(congrArg Prod.snd (so g (.inr rfl))).trans a5
  unfold ba.fU at hb;rw[ay]at hb;cases hb
 have ay:f.b_.getD 3 0= -1:=by rw[y];exact(congrArg Prod.snd (so g (.inr rfl))).trans a5
 obtain⟨J,t⟩:∃J,J=((f.cF 3).jq).iL (λi=>decide (i<3)) (λ_=> []):=⟨_,rfl⟩;have S:=S.iL (λi=>decide (i<3)) (λ_=> []);rw[←t]at S;have bZ:∀x∈f.waits,x.i<f.n:=λx hx=>by
  rw[y]at hx⊢;rcases cW.1 hx with rfl|hx
  .show 1%2<g.n;omega
  .exact(R.wn x (hJ.1 hx).1).2.1
 have b0:∀j,J.now j=if j=1 then eI 1 (kc kN D.n 1) else if j<3 then vals j else D.now j:=λj=>by
  have aw:J.now j=f.now j:=by
   rw[t];by_cases a9:j<f.n
   .exact(Bc (f.cF 3) a9).trans (yB f 3 j)
   .have aP:f.now j=[]:=by
     unfold ba.now
     cases hf:f.waits.find? λx=>x.i==j with
     |some x=>
      have hx:=j1 hf;have he:x.i=j:=by simpa using k0 hf
      have:=bZ x hx;omega
     |none=>
      have:¬j<f.bq.length:=a9;show f.bq.getD j []=[];rw[gO,lB (by omega)];rfl
    rw[aP];show((List.range (f.cF 3).n).map (f.cF 3).now).getD j []=[];rw[gO,lB (by simp;show f.n<=j;omega)];rfl
  rw[aw,y,p5,bP,a3]
 have aA:Fl D J:=by
  refine⟨by rw[t,y];exact a2,by rw[t];exact(uG (f.cF 3)).trans (by rw[y];exact a3),λj=>?_,by rw[t];rfl,by rw[t,y];show g.bu+1=_;omega,λm=>by rw[t,y];exact uH (g.put (1%2) s (eI (1%2) (kc kN g.n 1))) (ka (.inr rfl) R.f4 (a4 _)).1,?_,by rw[t];rfl,by rw[t];rfl,by rw[t,y];exact bN⟩
  .rw[b0,al,←N]
   by_cases aP:j=1
   .rw[if_pos aP,if_pos aP]
   .rw[if_neg aP,if_neg aP]
    by_cases aU:j=2
    .subst aU;rfl
    .by_cases V:j=0
     .subst V;rfl
     .rw[if_neg (by omega),if_neg aU,if_neg V]
  .rw[t]
   show(f.b_.set 3 _).getD 3 0=_;have bQ:f.b_.length=4:=by rw[y];show(g.b_.set 2 _).length=4;rw[c1];exact R.f4
   rw[fE (by rw[c1];omega),iA,ay];rfl
 have a_:∀q,bI J q->bI D q\/bt.heap.size<=q:=λq b=>by
  rw[t]at b;have h1:bI f q:=by
   rcases b with e|e|e|⟨x,hx,e⟩
   .exact .inl e
   .exact .inr (.inl e)
   .exact .inr (.inr (.inl e))
   .cases hx
  rw[y]at h1;rcases yH bY q h1 with h2|h2
  .exact ab q h2
  .exact .inr (by omega)
 have bb:ad (bI D) bt a8:=ct (ct ac Q λq _ h=>h.elim) af λq b hf=>(ab q hf).resolve_right (by omega);have aB:=(bS.ext Q).ak af λhf=>by
  rcases ab _ hf with h1|h1
  .exact P _ (bk _) h1
  .have:=W.size;have:=O.lt;have:=M.lt;have:=z.size;have:=T.size;have:=H.size;have:=K.size;have:=E.size;omega
 have b1:=a6.ak af λhf=>by
  have:=ar.lt hf;omega
 have bc:=(bT.ext Q).ak af λq b hf=>by
  have bd:=U q b;have aF:=(hs.ext (Ext.trans H (Ext.trans K (ad.refl _ _)))).lt q b;rcases ab _ hf with h1|h1
  .exact P q (by have:=(G.trans z).size;omega) h1
  .have:=E.size;omega
 have co:=bb.size;have O:=W.size;have be:=n4 S (l:=l) (u:=kN) (gen:=1) ⟨by have:=ai.1;omega,by have:=ai.2.1;omega⟩ ⟨by decide,by decide,by decide,by rw[aA.n];show(0:Int)<_;omega,by decide⟩ (by decide) (λj _=>by rw[t];rfl) sb;rw[aA.d]at be;refine⟨0,rfl,λh=>(by cases h),λ_=>⟨_,aB.cell,_,by rw[av];exact aB.cell,_,by rw[av];exact aB.cell,gU b1 (be.use ?_)⟩⟩;rintro _ cp ⟨c,aN,bh,st,aG⟩;have b2:=aG.val;subst b2;refine⟨_,0,rfl,J,sb,s1,s2,c,aN,bh,st,a8,aG,bc.ext aG.x,aA,ct (W.mono λ_ _ h=>h.elim) bb λq _ h=>h,λq b=>?_,λq b=>?_,λq b hf=>?_⟩
 .have bd:=U q b
  have aF:=bc.lt q b;have:=(G.trans z).size;exact⟨by omega,aF⟩
 .rcases a_ q b with h1|h1
  .exact .inl h1
  .exact .inr ⟨by omega,S.lt b⟩
 .have bd:=U q b
  have aF:=(hs.ext (Ext.trans H (Ext.trans K (ad.refl _ _)))).lt q b;rcases a_ _ hf with h1|h1
  .exact P q (by have:=(G.trans z).size;omega) h1
  .have:=E.size;omega
end
theorem uJ{a:(ai->I->Prop)->Prop}{rest:ai->I->Prop}{w0:I}{b:ai}(c:ai)(h1:b=true->∀k:ai->I->Prop,(∀w',Ext w0 w'->k c w')->a k)(h2:∀w',Ext w0 w'->rest (b&&c) w'):
 aX (λk=>(b=true->a k)/\(b=false->k false w0)) rest:=
 ⟨⟨λh=>h1 h rest (λw' hx=>by have:=h2 w' hx;rwa[h,iy]at this),λh=>by have:=h2 w0 (.refl _ _);rwa[h,lA]at this⟩⟩
theorem pR{b d:Nat}(hb:b<256)(hd:d<256)(w:I):az ah 50 #[.int .u8 (b:Nat),.int .u8 (d:Nat)] w (λv w'=>v=.agg (dM.c ⟨8,1+b%12,1+d%12⟩).toArray/\Ext w w'):=by
 refine Z.Iy _ _ w _ ?_;(delta Z.pR aE bR aa an r1 aK b5 db;dsimp only);have aP:IntKind.wrap .i64 (1+IntKind.wrap .i64 (Int.tmod (b:Int) 12))=((1+b%12:Nat):Int):=by
  rw[sY J,bW (n:=(b:Int)%12) J J,bW J J];omega
 have aU:IntKind.wrap .u64 (1+IntKind.wrap .u64 (Int.tmod (d:Int) 12))=((1+d%12:Nat):Int):=by
  rw[sY J,eG (n:=(d:Int)%12) J J,eG J J];omega
 rw[aP,aU];refine aV (vs:=[(0:Int),(0:Int),.int .u64 0]) rfl λw1 e g i=>⟨by decide,by decide,e.cn rfl (λv f=>?_),rfl,cU e (us:=dM.c ⟨8,1+b%12,1+d%12⟩) rfl rfl λaf a h j=>⟨_,a.cell,_,by rw[av];exact a.cell,_,by rw[av];exact a.cell,rfl,Ext.bO g h (bk _)⟩⟩;simp only[cW,fh,ft]at f;rcases f with rfl|rfl|rfl<;>trivial
theorem Fo{w:I}{A:ar}{v:O}(h:w.cell? A=some v):A.block<w.heap.size:=by
 unfold World.cell? at h;split at h
 .rename_i h1
  exact(ly.1 h1).1
 .cases h
theorem qg(A:ar)(n:Nat):(A.add n).block=A.block:=by unfold Addr.add;split<;>rfl
theorem Lu(n k:Nat):bJ n (k+1)=UInt8.ofNat (n/256^k%256)::bJ n k:=by
 unfold bJ;rw[List.range_succ_eq_map,gD,gF]
 congr 1
 apply nD;intro j a;have:=kl.1 a;show UInt8.ofNat (n/256^(k+1-1-(j+1))%256)=_;rw[show k+1-1-(j+1)=k-1-j from J]
theorem pP(w:I){n k:Nat}(o:n<18446744073709551616)(p:k<=8):az ah 157 #[.int .u64 (n:Nat),k] w (λv w'=>∃s:ag,v=s/\aS 1 5 w' s (ax (bJ n k))/\Ext w w'/\fD w s):=by
 refine Z.Iv _ _ w _ ?_;(delta Z.pP C_ aa ae ap an;dsimp only);have r:=mj w (.cells #[] 5);refine aQ ⟨λm s j w'=>∃i:Nat,i<=k/\j=(i:Int)/\m=((n/256^i:Nat):Int)/\aS 1 5 w' s (ax (bJ n i))/\Ext w w'/\fD w s,λ_ _ j _=>((k:Int)-j).toNat,⟨0,dd _,rfl,by rw[Nat.pow_zero,Nat.div_one],aS.new w [] 0 rfl (by decide),cM _ _,λq a=>by have:=k_.1 a;have:w.heap.size=q:=this;omega⟩,?_⟩;rintro _ s _ b ⟨i,hi,rfl,rfl,c,hx,hf⟩;refine⟨λh=>?_,λh=>?_⟩
 .simp only[du,cT]at h
  have hm:n/256^i<=n:=Nat.div_le_self _ _;have aP:IntKind.wrap .u8 (Int.tmod ((n/256^i:Nat):Int) 256)=(((UInt8.ofNat (n/256^i%256)).toNat:Nat):Int):=by
   generalize n/256^i=m;rw[sY J,vC J J,r_ (gq _ J)];omega
  have aU:IntKind.wrap .u64 (Int.tdiv ((n/256^i:Nat):Int) 256)=((n/256^(i+1):Nat):Int):=by
   rw[Nat.pow_succ,←Nat.div_div_eq_div_mul]
   revert hm
   generalize n/256^i=m;intro hm;rw[Int.tdiv_eq_ediv_of_nonneg J,eG J J];omega
  rw[aP,aU,oF J];have d:=jl c;rw[ec]at d;have t:=mj b (.cells (ax [UInt8.ofNat (n/256^i%256)]).toArray 5);obtain⟨f,w',aJ,aW,u,g,l⟩:=yx.append (c4:=36) (c.src.alloc _) (aS.new b (ax [UInt8.ofNat (n/256^i%256)]) 1 rfl (by decide)) (hV _) (by show(2*(1+s.len)+1000)*1<=_;omega);rw[←lO,List.singleton_append,←Lu]at aW;refine⟨by decide,aQ ⟨f,w',aJ,by decide,⟨i+1,J,rfl,rfl,aW,ct hx (ct (cM b _) g λq a c=>by have:=k_.1 c;have:b.heap.size=q:=this;have:=hx.size;omega) λq a e=>e,λq a=>?_⟩,by show((k:Int)-((i+1:Nat):Int)).toNat<((k:Int)-(i:Int)).toNat;omega⟩⟩;have:=hx.size;rcases l q a with h1|h1
  .have:=k_.1 h1
   have:b.heap.size=q:=this;omega
  .omega
 .simp only[Bool.and_eq_false_iff,kX]at h
  have:i=k:=by omega
  subst this;exact⟨s,rfl,c,hx,hf⟩
theorem lN{s:ag}{l:Y UInt8}{w:I}(hs:Src 1 w s (ax l)){n k:Nat}(g:n<18446744073709551616)(i:k<=8)(t:l.length<=1000000):az ah 107 #[s,.int .u64 (n:Nat),k] w (λv w'=>∃a:ag,v=a/\aS 1 5 w' a (ax (l++bJ n k))/\Ext w w'/\fD w a):=by
 have u:=len8 hs;refine Z.It s _ _ w _ ?_;(delta Z.lN ap aa bp aE;dsimp only);obtain⟨s2,b,aJ,aW,x,c,d,_⟩:=yx.clone (c4:=36) hs (hV _) J;refine aQ ⟨s2,b,aJ,(pP b g i).use ?_⟩;rintro _ aA ⟨j,rfl,h1,h2,y⟩;have m:=jl h1;rw[ec]at m;obtain⟨e,aF,bH,bL,z,o,p⟩:=yx.append (c4:=36) h1.src (aW.ext h2) (hV _) J;rw[←lO]at bL;have:=c.size;have:=h2.size;exact⟨j,rfl,e,aF,bH,e,rfl,bL,ct (c.trans h2) o λq f r=>by have:=d q r;omega,λq f=>by
  rcases p q f with h|h
  .exact d q h
  .omega⟩
instance:DecidableEq bP:=λa b=>decidable_of_iff (a.s=b.s/\a.p=b.p/\a.b=b.b/\a.u=b.u) ⟨λh=>by cases a;cases b;simp_all,λh=>by rw[h];exact⟨rfl,rfl,rfl,rfl⟩⟩
section
variable {w w':I}{s t:ag}{T U:Y bP}
end
structure iv(V:Nat->cL)(n gen:Nat)(u:cN)(g:Nat->ai)(P:Nat->al bo)(p:Y Nat)(L:Y cq):Prop where
 fr:∃j,j<n/\g j=false
 yI:g4 ((gen%2:Nat):Int) (V (gen%2))=.ok (u,n,gen)
 Bf:V (1-gen%2)=gL\/∃a g',g4 ((1-gen%2:Nat):Int) (V (1-gen%2))=.ok (a,n,g')/\g'<gen
 mp:∃gd,gd<=gen/\dA (u.map:Int) (V u.map)=.ok ⟨4,gd,fN g ((n+7)/8)⟩
 g:∀no,g no=true↔no∈p\/no<2\/no=u.map
 bZ:p.Nodup
 two:∀x∈p,2<=x/\x≠u.map/\x<n
 ok:(u.bg=0/\u.root=0/\p=[]/\L=[])\/fc P u.bg none none u.root p L
 gb:∀x∈p,∀bZ,P x=some bZ->hX gen bZ.leaf x (V x) bZ
 keys:u.keys=L.length
 kv:∀q∈L,g3 q.1/\q.2.length<=24
 Fp:ox u
 yJ:kG u n
 Fq:u.di+1<=gen
theorem iv.agree{V a:Nat->cL}{n gen:Nat}{u:cN}{g:Nat->ai}{P P':Nat->al bo}{p:Y Nat}{L:Y cq}(h:iv V n gen u g P p L)(dr:∀j,g j=true->a j=V j)(b:∀x∈p,P x=P' x):iv a n gen u g P' p L:=by
 have h0:a (gen%2)=V (gen%2):=dr _ ((h.g _).2 (.inr (.inl J)));have h1:a (1-gen%2)=V (1-gen%2):=dr _ ((h.g _).2 (.inr (.inl J)));refine⟨h.fr,by rw[h0];exact h.yI,by rw[h1];exact h.Bf,by rw[dr _ ((h.g _).2 (.inr (.inr rfl)))];exact h.mp,h.g,h.bZ,h.two,h.ok.imp id λc=>(c.agree b).1,λx hx bZ d=>?_,h.keys,h.kv,h.Fp,h.yJ,h.Fq⟩;rw[dr _ ((h.g _).2 (.inl hx))];exact h.gb x hx bZ (by rw[b x hx];exact d)
structure b7 where
 st:Nat
 T:bf
 l:dM
 u:cN
 gen:Nat
 now:Nat
 first:Nat
 pending:Nat
 keys:Nat
 failed:ai
def b7.V(S:b7)(j:Nat):cL:=S.T.C.D.bq.getD j []
def b7.cells(S:b7):Y O:=iY S.T.bh S.T.C.D.d S.T.C.c S.T.sb S.l S.u S.gen S.now S.first S.pending S.keys S.failed
structure ke(w:I)(S:b7)(a8:Y Nat)(bQ:Y cq):Prop where
 v:Var w S.st S.cells 197
 t:ck w S.T
 es:S.T.E S.st
 jO:iv S.V S.T.n S.gen S.u S.T.g S.T.P a8 bQ
 gen:S.T.gen=S.gen+1
 num:S.now<18446744073709551616/\S.first<=S.now/\S.u.di+1<=S.gen/\S.gen+2<18446744073709551616/\S.l.batch<=1000/\S.l.fC<=1048576/\1<=S.l.batch
 b6:∀j,S.T.g j=true->S.T.C.D.b6 j=true
structure dR(w:I)(S:b7)(pages:Y Nat)(L:Y cq)(a8:Y Nat)(bQ:Y cq):Prop extends ke w S a8 bQ where
 ok:g5 S.T pages L
 bZ:pages.Nodup
 f:∀no,S.T.f no=true↔no∈pages\/no<2\/no=S.u.map
 two:∀x∈pages,2<=x/\x≠S.u.map
 kv:∀p∈L,g3 p.1/\p.2.length<=24
 keys:S.keys=L.length
 nj:S.pending<=1000
 live:S.failed=false->¬S.T.C.D.ro/\S.T.C.D.eN=(λ_=> [])/\1<=cS S.T
 dead:S.failed=true->S.T.C.D.ro/\L=bQ/\pages=a8/\S.pending=0
def ba.quiet(D:ba):Prop:=(∀k,D.calm k)/\D.b_.getD 3 0= -1
def b7.W(S:b7)(q:Nat):Prop:=S.T.M q/\(S.T.E q->q=S.st)
structure fG(k:Nat)(S aM:b7)(w w':I):Prop where
 st:aM.st=S.st
 d:aM.T.C.D.d=S.T.C.D.d
 n:aM.T.n=S.T.n
 l:aM.l=S.l
 bu:aM.T.C.D.bu<=S.T.C.D.bu+k
 q:S.T.C.D.quiet->aM.T.C.D.quiet
 ak:ad S.W w w'
 cV:∀q,aM.T.M q->S.T.M q\/w.heap.size<=q
 E:aM.T.E=S.T.E
 G:aM.T.G=S.T.G
 r:aM.T.C.D.r1=S.T.C.D.r1
section
variable {w w':I}{C:cj}{X:Nat->Prop}{T:bf}{S aM:b7}{pages a8:Y Nat}{L bQ:Y cq}
theorem ke.oG(h:ke w S a8 bQ){q:Nat}(a:S.T.N q):S.W q:=⟨bf.su a,λhe=>absurd a (h.t.nf he)⟩
theorem ke.Fs(h:ke w S a8 bQ):S.W S.st:=⟨.inr (.inr (.inr (.inl h.es))),λ_=>rfl⟩
theorem fG.back{k q:Nat}(h:fG k S aM w w')(a:q<w.heap.size)(hm:aM.W q):S.W q:=⟨(h.cV q hm.1).resolve_right J,λhe=>(hm.2 (by rw[h.E];exact he)).trans h.st⟩
theorem dQ.iL(h:dQ X w C){s:Nat->ai}{z:Nat->Y cL}(hc:∀f∈C.aq,∀j:Nat,f.full=true->f.no=j->s j=true->f.gz=false)(b:∀j,s j=true->C.D.eu j=z j):
 dQ X w {C with D:=C.D.iL s z}:=
 ⟨⟨h.raw.v,h.raw.f,h.raw.dev.iL s z,h.raw.bH,h.raw.bL,h.raw.hd,h.raw.a1⟩,h.inv.pins,λf hf a=>by
  obtain⟨no,aJ,aW,c,d,e,i,g⟩:=h.inv.ok f hf a
  exact⟨no,aJ,aW,c,d,e,λhs=>hc f hf no a aJ hs,g⟩,h.inv.un,h.inv.fp,b⟩
theorem ck.iL(h:ck w T){s:Nat->ai}{z:Nat->Y cL}(hc:∀f∈T.C.aq,∀j:Nat,f.full=true->f.no=j->s j=true->f.gz=false)(a:∀j,s j=true->T.C.D.eu j=z j)(hs:∀j,s j=true->T.g j=true\/∀i,s i=true):
 ck w (T.dL {T.C with D:=T.C.D.iL s z} T.P):=⟨h.t,h.s,h.ca.iL hc a,h.kJ,h.dX,h.jM,h.n,h.num,h.gb,hs,h.low⟩
theorem Lv(h:dQ X w C){j:Nat}(hs:C.D.b6 j=true):C.view j=C.D.now j:=by
 unfold cj.view
 cases hf:C.aq.find? λf=>f.full&&f.no==(j:Int) with
 |none=>rfl
 |some f=>
  have h1:=k0 hf;have h2:=j1 hf;simp only[du,jw]at h1;obtain⟨no,aJ,aW,c,d,a,b,e⟩:=h.inv.ok f h2 h1.1;have:no=j:=by omega
  subst this;exact a (b hs)
theorem Lw(h:dQ X w C){j:Nat}(hs:C.D.b6 j=true)(a:C.D.eN j=[]):C.view j=C.D.bq.getD j []:=by
 rw[Lv h hs,yq _ (λx hx=>(h.raw.dev.wn x hx).1),if_pos (by rw[h.inv.oA j hs,a])]
theorem dR.view(h:dR w S pages L a8 bQ)(a:S.failed=false){j:Nat}(b:S.T.g j=true):S.T.C.view j=S.V j:=
 Lw h.t.ca (h.b6 j b) (by rw[(h.live a).2.1])
theorem ke.set(h:ke w S a8 bQ){i:Nat}{x:O}(hi:i<19):(∃u:O,w.cell? ⟨S.st,i,none⟩=some u)/\w.frozen? ⟨S.st,i,none⟩=false/\
 Var (w.setCell ⟨S.st,i,none⟩ x) S.st (S.cells.set i x) 197/\ck (w.setCell ⟨S.st,i,none⟩ x) S.T/\ad (λq=>q=S.st) w (w.setCell ⟨S.st,i,none⟩ x):=by
 obtain⟨aJ,aW⟩:=ef h.v (i:=i) (by exact hi);exact⟨aJ,aW,er h.v (i:=i) x,h.t.hG h.es (dD w S.st i x),dD w S.st i x⟩
end
theorem hX.mono{gen a no:Nat}{leaf:ai}{l:cL}{n:bo}(h:hX gen leaf no l n)(hg:gen<=a):hX a leaf no l n:=by
 obtain⟨p,h1,h2,b⟩:=h;exact⟨p,h1,dG h2 hg,b⟩
section
variable {w w':I}{C:cj}{X:Nat->Prop}{T:bf}{S aM:b7}{pages a8:Y Nat}{L bQ:Y cq}
theorem Lx{aL:ba}(h:dQ X w C)(hd:cv w' aL)(e:aL.d=C.D.d)(c:lk aL C.D)(g:∀i,2<=i->aL.now i=C.D.now i)(hc:ad (bI C.D) w w')(hf:∀q,bI aL q->bI C.D q\/w.heap.size<=q):
 dQ X w' {C with D:=aL}/\∀j,2<=j->({C with D:=aL}:cj).view j=C.view j:=by
 have m:=hc.size;have k:∀q,q<w.heap.size->c3 {C with D:=aL} q->c3 C q:=λq a b=>by
  rcases b with h1|h1|h1
  .exact .inl h1
  .exact .inr (.inl h1)
  .exact .inr (.inr ((hf q h1).resolve_right J))
 refine⟨⟨h.raw.sa hd e hc hf,h.inv.pins,λf hm o=>?_,h.inv.un,λq a=>⟨fX (h.inv.fp q a).1 m,λb=>(h.inv.fp q a).2 (k q (h.inv.fp q a).1 b)⟩,c.2.2⟩,λj p=>?_⟩
 .obtain⟨no,aJ,aW,r,s,t,u,l⟩:=h.inv.ok f hm o
  exact⟨no,aJ,by rw[show({C with D:=aL}:cj).D.n=aL.n from rfl,c.1];exact aW,cE.re r hc (λq _ hb v=>hb.1 (.inr (.inr v))) λq a hb=>⟨λb=>hb.1 (k q a b),hb.2⟩,s,λhd=>by show _=aL.now no;rw[g no l];exact t hd,λhs=>u (c.2.1 _ hs),l⟩
 .unfold cj.view
  dsimp only
  cases C.aq.find? λf=>f.full&&f.no==(j:Int) with
  |some f=>rfl
  |none=>exact g j p
theorem ck.Ft{br:cj}{P:Nat->al bo}(h:ck w T)(a:dQ T.X w' br)(hc:ad (c3 T.C) w w')(e:br.c=T.C.c)(b:br.D.n=T.C.D.n)(d:∀no bZ,P no=some bZ->no<T.n/\hX T.gen bZ.leaf no (br.view no) bZ)(f:∀j,br.D.b6 j=true->T.g j=true\/br.D.ro):
 ck w' (T.dL br P):=by
 have hx:=h.ca.inv.fp;refine⟨?_,h.s.ak hc λq i hf=>(hx q (.inr (.inl i))).2 hf,a,h.kJ,h.dX,h.jM,b.trans h.n,h.num,d,f,h.low⟩;have:=h.t.ak hc λhf=>(hx T.bh (.inl rfl)).2 hf;unfold mq at this⊢;rw[←e]at this;exact this
def bf.nk(T:bf)(gen:Nat):bf:={T with gen:=gen}
theorem ck.Ly{gen:Nat}(h:ck w T)(b:Var w' T.bh (mq (T.nk gen)) 302)(hc:ad (λq=>q=T.bh) w w')(h1:T.gen<=gen)(h2:gen<18446744073709551616):ck w' (T.nk gen):=
 ⟨b,h.s.ak hc λq c e=>h.kJ (e▸c),h.ca.ak hc λq e=>.inl e,h.kJ,h.dX,h.jM,h.n,⟨h.num.1,h.num.2.1,h2⟩,λno bZ a=>⟨(h.gb no bZ a).1,(h.gb no bZ a).2.mono h1⟩,h.b6,h.low⟩
theorem Lz(h:ck w T){gen:Nat}(h1:T.gen<=gen)(h2:gen<18446744073709551616):
 az ah 152 #[.pointer (some T.bh),.int .u64 (gen:Nat)] w (λv w'=>v=.tuple #[]/\ck w' (T.nk gen)/\ad (λq=>q=T.bh) w w'):=by
 refine Z.H2 _ _ w _ ?_;(delta Z.tT ae aw st aE;dsimp only);obtain⟨aJ,aW⟩:=ef h.t (i:=2) (by simp[mq]);have a:=er h.t (i:=2) (.int .u64 (gen:Nat));have hc:=dD w T.bh 2 (.int .u64 (gen:Nat));refine⟨λ_=>⟨_,rfl,by rw[av];exact aJ,by rw[av];exact aW,aQ ?_⟩,λhb=>(by cases hb)⟩;rw[av,cg];exact⟨rfl,h.Ly a hc h1 h2,hc⟩
def Fu(aM:b7)(gen:Nat)(g:Nat->ai)(pages:Y Nat)(L:Y cq)(clock di:Nat):Prop:=
 (∀j,g j=true->aM.T.C.D.eN j=[])\/
 ∃ (a:cN) (aJ:Nat->ai) (c:Nat->al bo) (b:cL),(∀j,aM.T.C.D.eN j=if j=(gen+1)%2 then [b] else [])/\iv (λj=>if j=(gen+1)%2 then b else aM.V j) aM.T.n (gen+1) a aJ c pages L/\a.clock=clock/\a.di=di
def Bg(S:b7)(pages:Y Nat)(L:Y cq)(a8:Y Nat)(bQ:Y cq)(w:I)(v:O)(w':I):Prop:=
 ∃aM,fG 100 S aM w w'/\aM.now=S.now/\
  ((v=.int .i64 0/\dR w' aM pages L pages L/\aM.failed=false/\aM.gen=S.gen+1/\aM.u.clock=S.now/\aM.u.di=S.u.di+1/\aM.pending=0)\/
   (v=.int .i64 3/\¬S.T.C.D.quiet/\dR w' aM a8 bQ a8 bQ/\aM.failed=true/\aM.u=S.u/\aM.gen=S.gen/\(∀j,S.T.g j=true->aM.V j=S.V j)/\Fu aM S.gen S.T.g pages L S.now (S.u.di+1)))
end
section
variable {w w' w1:I}{C:cj}{X:Nat->Prop}{T:bf}{S aM nm:b7}{pages a8:Y Nat}{L bQ:Y cq}{f2:Nat->ai}{br:cj}{P':Nat->al bo}
theorem LA{V:Nat->cL}{no:Nat}{c:Nat->al bo}(h:dR w S pages L a8 bQ)(d:f2=c9 (c9 S.T.f no true) S.u.map false)(H:(S.T.f no||S.T.g no)=false)(y:2<=no)(z:no<S.T.n)(I:L.length<4096)(i:∀x∈pages,c x=S.T.P x)
 (A:V ((S.gen+1)%2)=eI ((S.gen+1)%2) (kc ⟨S.T.root,S.T.bg,no,S.now,S.u.di+1,L.length⟩ S.T.n (S.gen+1))) (dr:∀j,j≠(S.gen+1)%2->V j=if j=no then eI no ⟨4,S.gen+1,fN f2 ((S.T.n+7)/8)⟩ else if S.T.g j=true then S.V j else S.T.C.view j)
 (hg:∀j,S.T.g j=true->S.V j=S.T.C.view j):iv V S.T.n (S.gen+1) ⟨S.T.root,S.T.bg,no,S.now,S.u.di+1,L.length⟩ f2 c pages L:=by
 have B:=h.t.s.bF;have D:=h.num;have k:=h.t.num;have l:=h.jO.yJ;have K:=l.2.2.2.2.1;have m:S.T.f S.u.map=true:=(h.f _).2 (.inr (.inr rfl));have o:S.T.f no=false:=by cases M:S.T.f no<;>simp_all
 have p:∀x∈pages,x≠no:=λx hx e=>by
  have:=(h.f x).2 (.inl hx);rw[e,o]at this;cases this
 have E:∀x∈pages,x<S.T.n:=λx hx=>Nat.lt_of_not_le λe=>by
  have:=h.t.s.pf x e;rw[(h.f x).2 (.inl hx)]at this;cases this
 have F:∀j,j≠(S.gen+1)%2->j≠no->V j=S.T.C.view j:=λj h1 h2=>by
  rw[dr j h1,if_neg h2];by_cases e:S.T.g j=true
  .rw[if_pos e,hg j e]
  .rw[if_neg e]
 have q:kG ⟨S.T.root,S.T.bg,no,S.now,S.u.di+1,L.length⟩ S.T.n:=by
  refine⟨?_,k.2.1,k.1,z,y,B⟩;rcases h.ok with ⟨a1,a2,_⟩|b
  .exact⟨λ_=>a1,λ_=>a2⟩
  .obtain⟨bZ,N,_,a2,_,_⟩:=b.Dv
   have:=(h.two S.T.root (by rw[a2];simp)).1;constructor
   .intro e;have e:S.T.root=0:=e;omega
   .intro e
    have e:S.T.bg=0:=e;rw[e]at b;exact b.elim
 have r:ox ⟨S.T.root,S.T.bg,no,S.now,S.u.di+1,L.length⟩:=⟨by show S.T.root<_;omega,by show S.T.bg<_;omega,by show no<_;omega,D.1,by show S.u.di+1<_;omega,by show L.length<_;omega⟩;refine⟨⟨S.u.map,l.2.2.2.1,by rw[d];unfold c9;rw[if_pos rfl]⟩,?_,.inr ⟨S.u,S.gen,?_,J⟩,⟨S.gen+1,bk _,?_⟩,λj=>?_,h.bZ,λx hx=>⟨(h.two x hx).1,p x hx,E x hx⟩,?_,λx hx bZ v=>?_,rfl,h.kv,r,q,by show S.u.di+1+1<=S.gen+1;omega⟩
 .rw[A]
  exact Er r q J J
 .have e:1-(S.gen+1)%2=S.gen%2:=by omega
  have G:S.T.g (S.gen%2)=true:=(h.jO.g _).2 (.inr (.inl J));rw[e,dr _ J,if_neg J,if_pos G];exact h.jO.yI
 .show dA (no:Int) (V no)=_
  rw[dr _ J,if_pos rfl];exact ye J ⟨(by decide:1<=4),(by decide:4<=4),by show S.gen+1<_;omega,by show(fN _ _).length<=232;rw[qf];omega⟩
 .rw[d]
  show c9 (c9 S.T.f no true) S.u.map false j=true↔j∈pages\/j<2\/j=no;unfold c9;by_cases aP:j=S.u.map
  .rw[if_pos aP]
   refine⟨λh=>(by cases h),λa=>?_⟩;rcases a with a|a|a
   .exact absurd aP (h.two j a).2
   .omega
   .rw[←aP,a,o]at m;cases m
  .rw[if_neg aP]
   by_cases aU:j=no
   .rw[if_pos aU];exact⟨λ_=>.inr (.inr aU),λ_=>rfl⟩
   .rw[if_neg aU,h.f j]
    constructor
    .rintro(a|a|a)
     .exact .inl a
     .exact .inr (.inl a)
     .exact absurd a aP
    .rintro(a|a|a)
     .exact .inl a
     .exact .inr (.inl a)
     .exact absurd a aU
 .rcases h.ok with ⟨a1,a2,a3,a4⟩|b
  .exact .inl ⟨a1,a2,a3,a4⟩
  .exact .inr (b.agree λx hx=>(i x hx).symm).1
 .rw[i x hx]at v
  rw[F x (by have:=(h.two x hx).1;omega) (p x hx),←h.gen];exact(h.t.gb x bZ v).2
end
section
variable {w w' w1:I}{C:cj}{X:Nat->Prop}{T:bf}{S aM nm:b7}{pages a8:Y Nat}{L bQ:Y cq}{f2:Nat->ai}{br:cj}{P':Nat->al bo}
theorem LB{f:Nat->ai}{n k:Nat}(h:k<n):oz f n (k:Int)=c9 f k false:=by
 unfold oz;rw[if_pos ⟨J,J⟩,dW]
theorem LC{bh d c sb gen now first pending keys st:Nat}{l:dM}{u:cN}{failed:ai}(b:Var w st (iY bh d c sb l u gen now first pending keys failed) 197)(a:cN){K:I->Prop}(e:∀af,Var af st (iY bh d c sb l a gen now first pending keys failed) 197->ad (λq=>q=st) w af->K af):
 bN w ⟨st,7,none⟩ [a.root,a.bg,a.map,.int .u64 (a.clock:Nat),.int .u64 (a.di:Nat),a.keys]/\(6:Nat)=6/\
  ao (setCells w ⟨st,7,none⟩ 0 [a.root,a.bg,a.map,.int .u64 (a.clock:Nat),.int .u64 (a.di:Nat),a.keys]) K:=
 ⟨aZ.cn b _ _ (by simp[iY]) λv hm=>cN.plain a v hm,rfl,aQ (e _ (aZ.je (o:=7) b _) (ad.iG (.refl _ _) _ 0))⟩
theorem Fv(h:dR w S pages L a8 bQ)(Y:S.failed=false)(cU:L.length<4096)(ej:S.T.C.D.bu<=800000000)(ek:S.gen<=1000000000)(ag:S.T.C.D.quiet):
 az ah 87 #[.pointer (some S.st)] w (Bg S pages L a8 bQ w):=by
 refine okF (Z.wS (some S.st)) aj.wS func87 ?_;(delta Z.wS aw mQ ae bx r1 bE ky db bp eK en aE fl aa aK b5 dg bR st;dsimp only);obtain⟨aZ,bJ,cW⟩:=h.live Y;obtain⟨no,bK⟩:=E3 cW;obtain⟨bM,cX,_⟩:=EB bK;have el:=h.t.s.bF;have au:=h.num;have cY:=h.gen;have bN:=h.jO.yJ;have bP:S.T.f no=false:=by cases cZ:S.T.f no<;>simp_all
 have a0:S.T.g no=false:=by cases cZ:S.T.g no<;>simp_all
 have bS:2<=no:=Nat.le_of_not_lt λe=>by
  have:=(h.jO.g no).2 (.inr (.inl e));rw[a0]at this;cases this
 have em:S.T.M S.st:=.inr (.inr (.inr (.inl h.es)));refine⟨_,rfl,_,by rw[av];exact h.v.cell,(ED h.t.s).use ?_⟩;rintro _ bT ⟨rfl,bU,ay⟩;rw[bK]at bU⊢;refine⟨(no:Nat),0,rfl,λhx=>(by cases hx),λ_=>aQ ?_⟩;have c0:=(h.t.yF (f:=c9 S.T.f no true) bU ay).1;have c2:=h.v.ak ay (h.t.dX _ h.es).2.1;have aA:Ext bT bT.drew:=bC _;have a1:=c2.ext aA;have bV:=c0.ext aA;refine⟨_,rfl,id,_,by rw[av];exact a1.cell,_,rfl,id,_,by rw[av,av];exact a1.cell,(EE bV.s (S.u.map:Nat)).use ?_⟩;rintro _ aB ⟨rfl,bW,aC⟩;rw[LB (by exact bN.2.2.2.1)]at bW;obtain⟨f2,a2⟩:∃f2,f2=c9 (c9 S.T.f no true) S.u.map false:=⟨_,rfl⟩;have bX:eW aB S.T.sb S.T.n f2 S.T.g S.T.s1 S.T.s2:=by rw[a2];exact bW
 have a3:ck aB (S.T.jN f2):=(bV.yF (f:=f2) bX aC).1;have bY:=a1.ak aC (h.t.dX _ h.es).2.1;refine⟨_,rfl,aQ ?_⟩;have aD:Ext aB aB.drew:=bC _;have b0:=bY.ext aD;have c4:=a3.ext aD;have a4:IntKind.wrap .u64 ((S.gen:Int)+1)=((S.gen+1:Nat):Int):=by rw[eG J J];omega
 refine⟨λ_=>False,_,rfl,id,_,by rw[av];exact b0.cell,_,rfl,id,_,by rw[av];exact b0.cell,(EK c4.s).use ?_⟩;rintro _ c5 ⟨aF,rfl,c6,a5,eo⟩;have c7:aS 1 5 c5 aF (ax (fN f2 ((S.T.n+7)/8))):=by rw[Fk];exact c6
 have b1:ot ⟨4,S.gen+1,fN f2 ((S.T.n+7)/8)⟩:=⟨(by decide:1<=4),(by decide:4<=4),by show S.gen+1<_;omega,by show(fN _ _).length<=232;rw[qf];omega⟩;rw[a4];refine⟨aF,rfl,a5,#[(4:Int),.int .u64 ((S.gen+1:Nat):Int),aF],λep=>by kernel_rfl,(yj (s:=aF) (p:=⟨4,S.gen+1,fN f2 ((S.T.n+7)/8)⟩) (no:=no) c7.src J b1).use ?_⟩;rintro _ b2 ⟨c8,rfl,b3,b4,c_⟩;have a6:=aD.trans (Ext.trans a5 b4);have aG:=a3.ext a6;have b7:=bY.ext a6;have eq:=ay.size;have et:=aC.size;have ev:=aA.size;have ex:=aD.size;have ey:=a5.size;have a7:ad S.W w b2:=ct (ct (ct (ct (ad.refl _ _) ay λq _ a=>h.oG (.inr (.inr (.inl a)))) aA λq _ a=>a.elim) aC λq _ a=>h.oG (.inr (.inr (.inl a)))) a6 λq _ a=>a.elim;have da:(eI no ⟨4,S.gen+1,fN f2 ((S.T.n+7)/8)⟩).length=256:=uq _ b1;refine⟨c8,0,rfl,b4,λhx=>(by cases hx),λ_=>⟨_,rfl,_,by rw[av];exact b7.cell,(EY aG.ca (by show S.T.C.D.bu<=_;omega) (no:=no) (by rw[aG.n];exact bM) bS (λhs=>?_) b3.src da λq a=>⟨aS.lt b3 q a,λhf=>?_⟩).use ?_⟩⟩
 .rcases aG.b6 no hs with h1|h1
  .rw[show(S.T.jN f2).g no=S.T.g no from rfl,a0]at h1;cases h1
  .exact aZ h1
 .have h1:=c_ q a
  have h2:=a3.lt (q:=q) (.inl hf);omega
 rintro _ b8 ⟨K,dc,b9,aH⟩;have B:ew S.T.C K b2 b8 1:=b9;have cb:∀j,j≠no->K.view j=S.T.C.view j:=λj o=>by
  rcases aH with ⟨_,a9⟩|⟨_,_,a9⟩
  .rw[a9,if_neg o];rfl
  .rw[a9];rfl
 obtain⟨G,a_⟩:∃G:Nat->al bo,G=λj=>if j=no then none else S.T.P j:=⟨_,rfl⟩
 have ai:∀j,j≠no->G j=S.T.P j:=λj o=>by rw[a_];exact if_neg o
 obtain⟨aI,_⟩:=aG.yC (P:=G) dc b9 λj bZ U=>by
  have o:j≠no:=λe=>by rw[a_]at U;simp[e]at U
  rw[cb j o];exact h.t.gb j bZ (by rw[←ai j o];exact U)
 have de:¬c3 S.T.C S.st:=(h.t.ca.inv.fp _ (.inr (.inr (.inl h.es)))).2;have cc:=b7.ak B.ak de;have cd:ad S.W w b8:=ct a7 B.ak λq _ a=>h.oG (.inl a);have ez:∀x∈a8,S.T.P x=G x:=λx hx=>(ai x λe=>by
  have:=(h.jO.g x).2 (.inl hx);rw[e,a0]at this;cases this).symm
 have eA:K.D.bq=S.T.C.D.bq:=congrArg (λp=>p.1.1) B.bq;have ce:K.D.b_.getD 3 0=S.T.C.D.b_.getD 3 0:=congrArg Prod.snd B.bq;rcases aH with ⟨rfl,aH⟩|⟨rfl,df,_⟩
 rotate_left
 .exact absurd (ag.1 1) df
 refine⟨0,rfl,λhx=>(by cases hx),λ_=>⟨_,rfl,_,by rw[av];exact cc.cell,?_⟩⟩;have cf:=Ls aI.ca (by show K.D.bu<=_;have:=B.bu;omega) λj o=>by show K.D.eN j=_;rw[B.qb.2,bJ]
 rw[show((S.T.jN f2).dL K G).C.c=S.T.C.c from B.c]at cf;refine cf.use ?_;rintro _ aL ⟨b,R⟩;have dh:¬c3 K S.st:=(aI.ca.inv.fp _ (.inr (.inr (.inl h.es)))).2;have bb:=cc.ak R.ak dh;have bc:b.D.d=S.T.C.D.d:=R.d.trans B.d;have dj:b.c=S.T.C.c:=R.c.trans B.c;have dk:b.D.r1=S.T.C.D.r1:=R.r.trans (congrArg (λp=>p.1.2.2.2.2) B.bq);have aM:∀q,c3 b q->c3 S.T.C q\/w.heap.size<=q:=λq a=>by
  have:=cd.size;have:=a7.size;rcases R.cV q a with h1|h1
  .exact(B.cV q h1).imp id λe=>by omega
  .exact .inr J
 have ch:ad S.W w aL:=ct cd R.ak λq Y a=>by
  have:=a7.size;exact h.oG (.inl ((B.cV q a).resolve_right J))
 have ci:∀ (bd:cj),(∀j,2<=j->bd.view j=K.view j)->∀j bZ,G j=some bZ->j<S.T.n/\hX S.T.gen bZ.leaf j (bd.view j) bZ:=λbd dl j bZ U=>by
  have o:j≠no:=λe=>by rw[a_]at U;simp[e]at U
  have h1:=h.t.gb j bZ (by rw[←ai j o];exact U);rw[dl j h1.2.two,cb j o];exact h1
 have be:ck aL ((S.T.jN f2).dL b G):=aI.Ft R.at_ R.ak R.c R.n (ci b λj _=>R.view j) λj o=>by
  rw[R.b6.1]at o;rcases aI.b6 j o with h1|h1
  .exact .inl h1
  .exact .inr λi=>by rw[R.b6.1];exact h1 i
 have cl:b.D.b6=S.T.C.D.b6:=R.b6.1.trans B.b6;have eB:b.D.eN=λ_=> []:=R.b6.2.trans (B.qb.2.trans bJ);have eC:b.D.bu<=S.T.C.D.bu+70:=by have h1:b.D.bu<=K.D.bu+64:=R.bu;have:=B.bu;omega
 rcases R.j8 with ⟨rfl,dm,cm,dn⟩|⟨rfl,eD,dp⟩
 rotate_left
 .exfalso
  rcases dp with h1|h1
  .exact h1 (B.calm 64 (ag.1 _))
  .unfold ba.fU at h1
   rw[show((S.T.jN f2).dL K G).C.D.b_.getD 3 0=S.T.C.D.b_.getD 3 0 from ce,ag.2]at h1
   cases h1
 have aN:∀j,b.D.eu j=[]:=λj=>by unfold ba.eu;rw[dm];rfl
 have dq:∀j,b.D.bq.getD j []=if j=no then eI no ⟨4,S.gen+1,fN f2 ((S.T.n+7)/8)⟩ else S.T.C.view j:=λj=>by
  have h1:=Lq R.at_ cm j;rw[yq _ (λx hx=>(R.at_.raw.dev.wn x hx).1),if_pos (aN j)]at h1;rw[←h1,R.view];exact aH j
 have cn:∀j,S.T.g j=true->S.V j=S.T.C.view j:=λj o=>(h.view Y o).symm;refine⟨0,rfl,λhx=>(by cases hx),λ_=>⟨_,rfl,_,bb.cell,?_⟩⟩;have co:=Fa be;rw[show((S.T.jN f2).dL b G).bh=S.T.bh from rfl]at co;refine co.use ?_;rintro _ bi ⟨rfl,bj⟩;have bl:Ext bi bi.drew:=bC _;have bm:=(bb.ext bj).ext bl;have ds:IntKind.wrap .u64 ((S.u.di:Int)+1)=((S.u.di+1:Nat):Int):=by rw[eG J J];omega
 refine⟨_,_,rfl,aQ ⟨λ_=>False,_,rfl,id,_,by rw[av];exact bm.cell,_,rfl,id,_,by rw[av,av];exact bm.cell,_,rfl,id,_,by rw[av];exact bm.cell,?_⟩⟩;rw[ds];obtain⟨H,ab⟩:∃H:cN,H=⟨S.T.root,S.T.bg,no,S.now,S.u.di+1,S.keys⟩:=⟨_,rfl⟩;refine⟨H.c.toArray,λeE=>by rw[ab];kernel_rfl,aV (vs:=gy.c) rfl λeF cp cq eH=>⟨cq,?_⟩⟩;obtain⟨am,dt⟩:∃am,am=bi.drew.heap.size:=⟨_,rfl⟩;rw[←dt]at cp⊢;refine jL cp rfl H λan du dv eJ=>aQ ?_;have eL:=bj.size;have eM:=bl.size;have dw:Ext aL an:=Ext.bO (Ext.trans bj (bl.trans cq)) dv J;have cr:Ext an an.drew:=bC _;have ao:Ext aL an.drew:=Ext.trans dw cr;have bn:=du.ext cr;have aO:=bb.ext ao;have br:=be.ext ao;generalize eP:an.drew=aP at bn aO br ao⊢;refine⟨_,rfl,id,_,by rw[av];exact aO.cell,id,gU bn ⟨_,rfl,id,_,by rw[av];exact aO.cell,?_⟩⟩;rw[a4];have dx:ox H:=by
  have h1:=h.t.num;have h2:=h.keys;rw[ab];exact⟨by show S.T.root<_;omega,by show S.T.bg<_;omega,by show no<_;omega,au.1,by show S.u.di+1<_;omega,by show S.keys<_;omega⟩
 have bs:b.D.n=S.T.n:=R.n.trans (B.n.trans h.t.n);have Q:dQ S.T.X aP b:=br.ca;have cs:=n3 Q.raw.dev J dx (gen:=S.gen+1) J;rw[bc]at cs;refine cs.use ?_;rintro v bt ⟨ac,bv⟩;have eQ:=ao.size;have dy:∀q,c3 b q->q<am:=λq a=>by have:=R.at_.raw.lt a;omega
 have dz:=bn.ak ac λhf=>by have:=dy am (.inr (.inr hf));omega
 have dA:¬c3 b S.st:=(be.ca.inv.fp _ (.inr (.inr (.inl h.es)))).2;have cu:=aO.ak ac λhf=>dA (.inr (.inr hf));have dB:ad S.W w aP:=ct ch ao λq _ a=>a.elim;have eR:=ch.size;have dC:ad S.W w bt:=ct dB ac λq Y a=>h.oG<| .inl ((aM q (.inr (.inr a))).resolve_right J)
 have main:∀ (O:ba),cv bt O->O.d=b.D.d->lk O b.D->(∀i,2<=i->O.now i=b.D.now i)->(∀q,bI O q->bI b.D q\/aP.heap.size<=q)->(∀j,O.b6 j=true->S.T.g j=true)->
  ck bt ((S.T.jN f2).dL {b with D:=O} G)/\∀q,c3 {b with D:=O} q->c3 S.T.C q\/w.heap.size<=q:=λO ap dE cw dF cx dG=>by
  obtain⟨ni,lS⟩:=Lx Q ap dE cw dF ac cx;refine⟨br.Ft ni (ac.mono λq _ a=>.inr (.inr a)) rfl cw.1 (ci _ λj o=>(lS j o).trans (R.view j)) λj o=>.inl (dG j o),λq a=>?_⟩;rcases a with a|a|a
  .exact aM q (.inl a)
  .exact aM q (.inr (.inl a))
  .rcases cx q a with h1|h1
   .exact aM q (.inr (.inr h1))
   .exact .inr J
 have eS:¬b.D.ro:=λe=>aZ λi=>by rw[←cl];exact e i
 have eT:∀j,b.D.b6 j=true->S.T.g j=true:=λj o=>by
  rw[cl]at o;exact(h.t.b6 j o).resolve_right aZ
 have cy:S.T.C.D.quiet->∀k,b.D.calm k:=λa k=>R.calm k (B.calm _ (a.1 _));rcases bv with ⟨bw,rfl,ap⟩|⟨bw,s,dH,y,N,bv⟩
 .have:=(ka (k:=2) (m:=0) (.inr rfl) Q.raw.dev.f4 (cy ag 1)).2
  rw[this]at bw;cases bw
 have eU:∀j,y.eu j=if j=(S.gen+1)%2 then [eI ((S.gen+1)%2) (kc H b.D.n (S.gen+1))] else []:=λj=>by
  rw[N,Em,aN,aN];rfl
 have cz:H=⟨S.T.root,S.T.bg,no,S.now,S.u.di+1,L.length⟩:=by rw[ab,h.keys]
 have dI:∀V:Nat->cL,(∀j,V j=if j=(S.gen+1)%2 then eI ((S.gen+1)%2) (kc H b.D.n (S.gen+1)) else b.D.bq.getD j [])->iv V S.T.n (S.gen+1) H f2 G pages L:=λV dr=>by
  rw[cz];refine LA h a2 cX bS bM cU (λx hx=>ai x λe=>by
   have:=(h.f x).2 (.inl hx);rw[e,bP]at this;cases this) (by rw[dr,if_pos rfl,cz,bs]) (λj o=>?_) cn
  rw[dr,if_neg o,dq];by_cases e:j=no
  .rw[if_pos e,if_pos e]
  .rw[if_neg e,if_neg e]
   by_cases aU:S.T.g j=true
   .rw[if_pos aU,cn j aU]
   .rw[if_neg aU]
 have bz:∀q,bI y q->bI b.D q\/aP.heap.size<=q:=by rw[N];exact yH dH
 have eV:∀i,2<=i->y.now i=b.D.now i:=λi hi=>by rw[N,p5,if_neg J]
 have cA:y.n=b.D.n:=by rw[N];rfl
 have dJ:y.d=b.D.d:=by rw[N];rfl
 have eX:y.bq=b.D.bq:=by rw[N];rfl
 have eY:y.bu=b.D.bu+1:=by rw[N];rfl
 have cB:S.T.C.D.quiet->y.b_.getD 3 0= -1:=λa=>by
  rw[N];show(b.D.b_.set 2 _).getD 3 0=_;have aR:=Q.raw.dev.f4;rw[fE (by rw[c1];omega),fu (by decide),←fE (d:=0),dn];rw[show((S.T.jN f2).dL K G).C.D.b_.getD 3 0=S.T.C.D.b_.getD 3 0 from ce,a.2];rfl
 rcases bv with ⟨aT,rfl,ap⟩|⟨aT,rfl,ap⟩
 .unfold ba.fU at aT
  rw[cB ag]at aT;cases aT
 have dK:∀j,S.T.n<=j->b.D.bq.getD j []=[]:=λj o=>by
  rw[gO,lB (by have:b.D.bq.length=S.T.n:=bs;omega)];rfl
 have cC:∀j,b.D.now j=b.D.bq.getD j []:=λj=>by rw[yq _ (λx hx=>(Q.raw.dev.wn x hx).1),if_pos (aN j)]
 have eZ:y.n=S.T.n:=cA.trans bs;have dM:∀j,(y.cF 3).jq.bq.getD j []=if j=(S.gen+1)%2 then eI ((S.gen+1)%2) (kc H b.D.n (S.gen+1)) else b.D.bq.getD j []:=λj=>by
  show((List.range y.n).map y.now).getD j []=_;have e0:16<=y.n:=by have:16<=b.D.n:=Q.raw.dev.dN;omega
  by_cases o:j<y.n
  .rw[fE (by simp;exact o),List.getElem_map,List.getElem_range,N,p5,cC]
  .rw[gO,lB (by simp;omega),if_neg J,dK j J];rfl
 obtain⟨F,I⟩:∃F,F=(y.cF 3).jq.iL (λ_=>false) λ_=> []:=⟨_,rfl⟩;have dO:∀j,F.eu j=[]:=λj=>by rw[I];rfl
 have cD:∀j,F.bq.getD j []=if j=(S.gen+1)%2 then eI ((S.gen+1)%2) (kc H b.D.n (S.gen+1)) else b.D.bq.getD j []:=λj=>by rw[I];exact dM j
 have dP:F.n=b.D.n:=by rw[I];exact(uG (y.cF 3)).trans cA
 have bA:F.d=S.T.C.D.d:=by rw[I];exact dJ.trans bc
 obtain⟨cE,dS⟩:=main F (by rw[I];exact ap.iL _ _) (bA.trans bc.symm) ⟨dP,λj o=>(by rw[I]at o;cases o),λj o=>(by rw[I]at o;cases o)⟩ (λi hi=>by
  have h1:F.now i=F.bq.getD i []:=by rw[I];rfl
  rw[h1,cD,if_neg J,cC]) (λq a=>by
   rw[I]at a;rcases a with e|e|e|⟨x,hx,e⟩
   .exact bz q (.inl e)
   .exact bz q (.inr (.inl e))
   .exact bz q (.inr (.inr (.inl e)))
   .cases hx) λj o=>(by rw[I]at o;cases o)
 refine⟨0,rfl,λhx=>(by cases hx),λ_=>⟨_,rfl,_,by rw[av];exact cu.cell,(Kz cE.s).use ?_⟩⟩;rintro _ aq ⟨rfl,s2,dT,ar,cG⟩;have af:=dI (λj=>F.bq.getD j []) cD;have dU:f2 0=true/\f2 1=true:=⟨(af.g 0).2 (.inr (.inl (by decide))),(af.g 1).2 (.inr (.inl (by decide)))⟩;obtain⟨dV,e1⟩:=cE.space dT ar cG (λj o=>by
  have o:F.b6 j=true:=o;rw[I]at o;cases o) dU
 have e2:=ar.size;have dW:=cu.ak ar (h.t.dX _ h.es).2.1;have dY:=dz.ak ar λhf=>by
  have h1:=h.t.lt (q:=am) (.inr (.inr (.inl hf)));omega
 have dZ:=dV.iL (s:=f2) (z:=λ_=> []) (λf hf j d0 _ _=>by
  have h1:=cm f hf;unfold Fr.hZ at h1;rw[d0]at h1;simpa using h1) (λj _=>dO j) λj o=>.inl o
 obtain⟨gj,A⟩:∃gj:bf,gj=(((S.T.jN f2).dL {b with D:=F} G).oE f2 f2 S.T.s1 s2).dL {b with D:=F.iL f2 λ_=> []} G:=⟨_,rfl⟩;have d1:ck aq gj:=by rw[A];exact dZ
 have aX:Ext aq aq.drew:=bC _;have cH:Var aq.drew S.st (iY S.T.bh S.T.C.D.d S.T.C.c S.T.sb S.l S.u S.gen S.now S.first S.pending S.keys S.failed) 197:=dW.ext aX;have d2:=dY.ext aX;have d3:=d1.ext aX;have aY:gj.E=S.T.E:=by rw[A];rfl
 refine⟨rfl,aQ ⟨λ_=>False,id,gU d2 ⟨_,rfl,id,_,by rw[av];exact cH.cell,_,rfl,?_⟩⟩⟩;rw[av,cg,a4];refine LC cH H λcI cJ cK=>?_;have d4:=d3.hG (by rw[aY];exact h.es) cK;obtain⟨bH,bL⟩:=ef cJ (i:=13) (by simp[iY]);have cM:=er cJ (i:=13) (.int .u64 ((S.gen+1:Nat):Int));have d5:=dD cI S.st 13 (.int .u64 ((S.gen+1:Nat):Int));refine⟨_,rfl,by rw[av];exact bH,by rw[av];exact bL,aQ ?_⟩;rw[av,cg];obtain⟨d6,d7⟩:=ef cM (i:=16) (by simp[iY]);have cO:=er cM (i:=16) (0:Int);have bB:=d5.trans (dD _ S.st 16 (0:Int));refine⟨_,rfl,by rw[av];exact d6,by rw[av];exact d7,aQ ?_⟩;rw[av,cg];generalize (cI.setCell ⟨S.st,13,none⟩ (.int .u64 ((S.gen+1:Nat):Int))).setCell ⟨S.st,16,none⟩ (0:Int)=cP at cO bB⊢;have d8:=d4.hG (by rw[aY];exact h.es) bB;have bD:Ext cP cP.drew:=bC _;have bG:=cO.ext bD;have d9:=d8.ext bD;refine aQ ⟨_,rfl,id,_,bG.cell,_,rfl,id,_,by rw[av];exact bG.cell,?_⟩;have d_:IntKind.wrap .u64 (((S.gen+1:Nat):Int)+1)=((S.gen+2:Nat):Int):=by rw[eG J J];omega
 rw[d_];have e3:gj.gen=S.gen+1:=by rw[A];exact cY
 have cQ:gj.bh=S.T.bh:=by rw[A];rfl
 have cR:=Lz d9 (gen:=S.gen+2) J J;rw[cQ]at cR;refine cR.use ?_;rintro _ ea ⟨rfl,eb,cT⟩;have ec:=bG.ak cT (h.t.dX _ h.es).1;have ed:∀q,(gj.nk (S.gen+2)).M q->S.T.M q\/w.heap.size<=q:=λq a=>by
  rw[A]at a;rcases a with a|a|a|a
  .exact(dS q a).imp .inl id
  .exact .inl (.inr (.inl a))
  .rcases cG q a with h1|h1
   .exact .inl (.inr (.inr (.inl h1)))
   .have:=ac.size;exact .inr J
  .exact .inl (.inr (.inr (.inr a)))
 refine⟨rfl,⟨S.st,gj.nk (S.gen+2),S.l,H,S.gen+1,S.now,S.first,0,S.keys,S.failed⟩,⟨rfl,?_,by rw[A];rfl,rfl,?_,λa=>?_,?_,ed,aY,by rw[A];rfl,by rw[A];exact(show F.r1=y.r1 by rw[I];rfl).trans ((show y.r1=b.D.r1 by rw[N];rfl).trans dk)⟩,rfl,.inl ⟨rfl,⟨⟨?_,eb,?_,?_,rfl,?_,?_⟩,?_,h.bZ,?_,?_,h.kv,h.keys,dd _,λ_=>⟨?_,?_,?_⟩,λhf=>?_⟩,Y,rfl,by rw[ab],by rw[ab],rfl⟩⟩
 .rw[A];exact bA
 .rw[A];show F.bu<=_;rw[I];show y.bu<=_;omega
 .rw[A]
  show ba.quiet (F.iL _ _);rw[I];refine⟨λk=>uH y ?_,?_⟩
  .have aR:=(ka (k:=2) (m:=k) (.inr rfl) Q.raw.dev.f4 (cy a (k+1))).1
   rw[N];exact aR
  .show(y.b_.set 3 (gK (y.b_.getD 3 0)).2).getD 3 0= -1
   have aR:=Q.raw.dev.f4;have e4:y.b_.length=4:=by rw[N];show(b.D.b_.set 2 _).length=4;rw[c1];exact aR
   rw[cB a,fE (by rw[c1];omega),iA];rfl
 .have hs:∀q,q=S.st->S.W q:=λq e=>by rw[e];exact h.Fs
  have aJ:ad S.W w aq:=ct dC ar λq _ a=>h.oG (.inr (.inr (.inl a)));have aW:=ct aJ aX λq _ a=>a.elim;have ee:=ct aW cK λq _ a=>hs q a;have eg:=ct ee bB λq _ a=>hs q a;have eh:=ct eg bD λq _ a=>a.elim;exact ct eh cT λq _ a=>h.oG (.inr (.inl a))
 .show Var ea S.st (iY gj.bh gj.C.D.d gj.C.c gj.sb _ _ _ _ _ _ _ _) _
  rw[cQ,show gj.C.D.d=S.T.C.D.d by rw[A];exact bA,show gj.C.c=S.T.C.c by rw[A];exact dj,show gj.sb=S.T.sb by rw[A];rfl];exact ec
 .show gj.E S.st
  rw[aY];exact h.es
 .rw[A];exact af
 .refine⟨au.1,au.2.1,?_,by show S.gen+1+2<_;omega,au.2.2.2.2⟩
  show H.di+1<=S.gen+1;rw[ab];show S.u.di+1+1<=_;omega
 .intro j o
  have o:gj.g j=true:=o;show gj.C.D.b6 j=true;rw[A]at o⊢;exact o
 .refine h.ok.agree (by rw[A];rfl) (by rw[A];rfl) λx hx=>?_
  rw[A];exact(ai x λe=>by
   have:=(h.f x).2 (.inl hx);rw[e,bP]at this;cases this).symm
 .intro j
  have:(gj.nk (S.gen+2)).f j=f2 j:=by rw[A];rfl
  rw[this];exact af.g j
 .intro x hx
  exact⟨(af.two x hx).1,(af.two x hx).2.1⟩
 .intro e
  have h1:=e S.T.n;have h2:(gj.nk (S.gen+2)).C.D.b6 S.T.n=f2 S.T.n:=by rw[A];rfl
  rw[h2,bX.pf S.T.n (bk _)]at h1;cases h1
 .rw[A];rfl
 .have ei:f2 S.u.map=false:=by rw[a2];unfold c9;rw[if_pos rfl]
  have h1:=uD (s:=λi=>f2 i||f2 i) (t:=c9 (λi=>f2 i||f2 i) S.u.map true) (k:=S.u.map) (by simp[ei]) (by simp[c9]) (λi hi=>by simp[c9,hi]) (n:=S.T.n) bN.2.2.2.1;have h2:=m9 (c9 (λi=>f2 i||f2 i) S.u.map true) S.T.n;have e5:cS (gj.nk (S.gen+2))=S.T.n-eO (λi=>f2 i||f2 i) S.T.n:=by rw[A];rfl
  show 1<=cS (gj.nk (S.gen+2));omega
 .have hf:S.failed=true:=hf
  rw[Y]at hf;cases hf
end
theorem LD(a b:Int)(w:I)(T:TypeId)(k:IntKind):Sem.run ah (Builtin.max_ #[T,T] T #[.int k a,.int k b]) w=.ok (.int k (max a b)) w:=by
 simp only[Builtin.max_];unfold Builtin.max2;simp;split<;>omega
theorem fG.trans{S aM a:b7}{w w' b:I}{k l:Nat}(h1:fG k S aM w w')(h2:fG l aM a w' b):fG (k+l) S a w b:=
 ⟨h2.st.trans h1.st,h2.d.trans h1.d,h2.n.trans h1.n,h2.l.trans h1.l,by have:=h1.bu;have:=h2.bu;omega,λh=>h2.q (h1.q h),ct h1.ak h2.ak λq e hm=>h1.back e hm,λq hm=>by
  have:=h1.ak.size
  rcases h2.cV q hm with c|c
  .exact h1.cV q c
  .exact .inr J,h2.E.trans h1.E,h2.G.trans h1.G,h2.r.trans h1.r⟩
theorem fG.mono{S aM:b7}{w w':I}{k l:Nat}(h:fG k S aM w w')(a:k<=l):fG l S aM w w':={h with bu:=by have:=h.bu;omega}
theorem fG.ext{w w':I}(S:b7)(h:Ext w w'):fG 0 S S w w':=⟨rfl,rfl,rfl,rfl,bk _,λh=>h,h.mono λ_ _ h=>h.elim,λq a=>.inl a,rfl,rfl,rfl⟩
section
variable {w w' w1:I}{T:bf}{S aM nm:b7}{pages a8:Y Nat}{L bQ:Y cq}
theorem ke.ext(h:ke w S a8 bQ)(hx:Ext w w'):ke w' S a8 bQ:=⟨h.v.ext hx,h.t.ext hx,h.es,h.jO,h.gen,h.num,h.b6⟩
theorem dR.ext(h:dR w S pages L a8 bQ)(hx:Ext w w'):dR w' S pages L a8 bQ:=⟨h.toke.ext hx,h.ok,h.bZ,h.f,h.two,h.kv,h.keys,h.nj,h.live,h.dead⟩
theorem dR.hG{mw:Nat}(h:dR w S pages L a8 bQ)(a:S.T.E mw)(hs:mw≠S.st)(hc:ad (λq=>q=mw) w w'):dR w' S pages L a8 bQ:=
 ⟨⟨h.v.ak hc λe=>hs e.symm,h.t.hG a hc,h.es,h.jO,h.gen,h.num,h.b6⟩,h.ok,h.bZ,h.f,h.two,h.kv,h.keys,h.nj,h.live,h.dead⟩
theorem Fx(h:dR w S pages L a8 bQ):az ah 66 #[.pointer (some S.st)] w (λv w'=>v=S.keys/\w=w'):=by
 refine okF (Z.Ai (some S.st)) aj.Ai func66 ?_;exact⟨λhb=>(by cases hb),λ_=>⟨_,rfl,_,by rw[av];exact h.v.cell,rfl,rfl⟩⟩
theorem LF(h:dR w S pages L a8 bQ):az ah 133 #[.pointer (some S.st)] w (λv w'=>v=.int .u64 (S.now:Nat)/\w=w'):=by
 refine okF (Z.Aj (some S.st)) aj.Aj func133 ?_;exact⟨λhb=>(by cases hb),λ_=>⟨_,rfl,_,by rw[av];exact h.v.cell,rfl,rfl⟩⟩
theorem LG(h:dR w S pages L a8 bQ):az ah 185 #[.pointer (some S.st)] w (λv w'=>v=S.failed/\w=w'):=by
 refine okF (Z.Ak (some S.st)) aj.Ak func185 ?_;exact⟨λ_=>⟨_,rfl,_,by rw[av];exact h.v.cell,rfl,rfl⟩,λhb=>(by cases hb)⟩
theorem LH(h:dR w S pages L a8 bQ):az ah 65 #[.pointer (some S.st)] w (λv w'=>v=.agg S.u.c.toArray/\Ext w w'):=by
 refine okF (Z.wN (some S.st)) aj.wN func65 ?_;(delta Z.wN fl ae bR aa aE Aa r1 aK b5 db aw;dsimp only);refine aV (vs:=gy.c) rfl λw1 b a f=>⟨λhb=>(by cases hb),λ_=>?_⟩;have hs:=h.v.ext a;refine⟨_,rfl,_,by rw[av];exact hs.cell,_,by rw[av,av];exact hs.cell,_,by rw[av,av];exact hs.cell,_,by rw[av,av];exact hs.cell,_,by rw[av,av];exact hs.cell,_,by rw[av,av];exact hs.cell,jL b rfl S.u λaf d e g=>gU d ⟨rfl,Ext.bO a e (bk _)⟩⟩
def sy(S:b7):Nat:=cS S.T-2*S.T.bg-4
theorem LI(h:dR w S pages L a8 bQ):az ah 250 #[.pointer (some S.st)] w (λv w'=>v=.int .i64 (sy S:Nat)/\Ext w w'):=by
 refine okF (Z.xE (some S.st)) aj.xE func250 ?_;(delta Z.xE aw mQ bx an;dsimp only);refine⟨_,rfl,_,h.v.cell,(Fa h.t).use ?_⟩;rintro _ e ⟨rfl,a⟩;refine⟨_,_,rfl,_,rfl,_,by rw[av];exact(h.v.ext a).cell,(AX (h.t.ext a).s).use ?_⟩;rintro _ b ⟨rfl,c⟩;have j:=h.t.s.bF;have k:=h.t.num.2.1;have l:=m9 (λi=>S.T.f i||S.T.g i) S.T.n;have d:(S.T.n:Int)-eO (λi=>S.T.f i||S.T.g i) S.T.n=((cS S.T:Nat):Int):=by unfold cS;omega
 have m:cS S.T<=S.T.n:=Nat.sub_le _ _;rw[d,bW (n:=2*(S.T.bg:Int)) J J];refine⟨_,rfl,_,b,LD _ _ b _ _,?_,Ext.trans a c⟩;rw[bW (n:=((cS S.T:Nat):Int)-2*(S.T.bg:Int)) J J,bW J J];unfold sy
 congr 1
 omega
end
def ll(c:Prop)(S aM:b7)(pages:Y Nat)(L:Y cq)(a8:Y Nat)(bQ:Y cq)(v:O)(w':I):Prop:=
 (v=.int .i64 0/\c/\dR w' aM pages L pages L/\aM.failed=false/\aM.gen=S.gen+1/\aM.u.clock=S.now/\aM.u.di=S.u.di+1/\aM.pending=0)\/
 (v=.int .i64 3/\¬S.T.C.D.quiet/\dR w' aM a8 bQ a8 bQ/\aM.failed=true/\aM.u=S.u/\aM.gen=S.gen/\(∀j,S.T.g j=true->aM.V j=S.V j)/\((∀j,S.T.g j=true->aM.T.C.D.eN j=[])\/(c/\Fu aM S.gen S.T.g pages L S.now (S.u.di+1))))
theorem Bg.x{c:Prop}{S:b7}{pages a8:Y Nat}{L bQ:Y cq}{w w':I}{v:O}(h:Bg S pages L a8 bQ w v w')(hc:c):∃aM,fG 100 S aM w w'/\aM.now=S.now/\ll c S aM pages L a8 bQ v w':=by
 obtain⟨aM,h1,h2,a⟩:=h;refine⟨aM,h1,h2,?_⟩;rcases a with ⟨a1,a2,a3⟩|⟨a1,a2,a3,a4,a5,cZ,dT,dz⟩
 .exact .inl ⟨a1,hc,a2,a3⟩
 .exact .inr ⟨a1,a2,a3,a4,a5,cZ,dT,.inr ⟨hc,dz⟩⟩
theorem ll.val{c:Prop}{S aM:b7}{pages a8:Y Nat}{L bQ:Y cq}{w':I}{v:O}(h:ll c S aM pages L a8 bQ v w'):∃n:Int,v=n:=by
 rcases h with ⟨a,_⟩|⟨a,_⟩<;>exact⟨_,a⟩
def oH(S aM:b7)(pages:Y Nat)(L:Y cq)(a8:Y Nat)(bQ:Y cq)(v:O)(w':I):Prop:=
 (v=.int .i64 0/\S.pending+1<S.l.batch/\dR w' aM pages L a8 bQ/\aM.failed=false/\aM.gen=S.gen/\aM.u=S.u/\aM.pending=S.pending+1/\aM.first=(if S.pending=0 then S.now else S.first)/\∀j,S.T.g j=true->aM.V j=S.V j)\/
 ll (S.l.batch<=S.pending+1) S aM pages L a8 bQ v w'
section
variable {w w' w1:I}{T:bf}{S aM nm:b7}{pages a8:Y Nat}{L bQ:Y cq}
theorem LJ{d:Int}(hb:ke w S a8 bQ)(r:S.failed=false)(ok:g5 S.T pages L)(bZ:pages.Nodup)(f:∀no,S.T.f no=true↔no∈pages\/no<2\/no=S.u.map)(two:∀x∈pages,2<=x/\x≠S.u.map)(kv:∀p∈L,g3 p.1/\p.2.length<=24)
 (V:¬S.T.C.D.ro/\S.T.C.D.eN=(λ_=> [])/\1<=cS S.T) (W:(S.keys:Int)+d=L.length) (ap:S.pending<1000) (X:L.length<4096) (aq:S.keys<100000) (Y:S.T.C.D.bu<=800000000) (aa:S.gen<=1000000000) (ab:S.T.C.D.quiet):
 az ah 252 #[.pointer (some S.st),d] w (λv w'=>∃aM,fG 100 S aM w w'/\aM.now=S.now/\oH S aM pages L a8 bQ v w'):=by
 refine okF (Z.xF (some S.st) d) aj.xF func252 ?_;(delta Z.xF aw r1 st an ae db aE bx;dsimp only);have I:=hb.num;have ar:S.T.M S.st:=.inr (.inr (.inr (.inl hb.es)));obtain⟨aJ,aW,b,s,t⟩:=hb.set (i:=17) (x:=L.length) (by decide);refine⟨_,rfl,_,by rw[av];exact hb.v.cell,_,rfl,by rw[av];exact aJ,by rw[av];exact aW,aQ ?_⟩;rw[av,cg,W,bW (n:=(L.length:Int)) J J];generalize au:w.setCell ⟨S.st,17,none⟩ L.length=aA at b s t⊢;obtain⟨g,o⟩:∃g,g=if S.pending=0 then S.now else S.first:=⟨_,rfl⟩
 refine k9 (λaR=>Var aR S.st (iY S.T.bh S.T.C.D.d S.T.C.c S.T.sb S.l S.u S.gen S.now g S.pending L.length S.failed) 197/\ck aR S.T/\ad (λq=>q=S.st) w aR) (λax K=>?_) ?_
 .refine⟨_,rfl,_,by rw[av];exact b.cell,λy=>?_,λy=>K _ ⟨?_,s,t⟩⟩
  .have h0:S.pending=0:=by
    have:(S.pending:Int)=0:=by simpa using y
    omega
   obtain⟨z,A⟩:=ef b (i:=15) (by simp[b7.cells,iY]);have ac:=er b (i:=15) (.int .u64 (S.now:Int));have N:=dD aA S.st 15 (.int .u64 (S.now:Int));refine⟨_,rfl,_,by rw[av];exact b.cell,_,rfl,by rw[av];exact z,by rw[av];exact A,aQ (K _ ⟨?_,?_,?_⟩)⟩
   .rw[av,cg,o,if_pos h0];exact ac
   .rw[av,cg];exact s.hG hb.es N
   .rw[av,cg];exact t.trans N
  .have h0:¬S.pending=0:=by
    have:¬(S.pending:Int)=0:=by simpa using y
    omega
   rw[o,if_neg h0];exact b
 rintro aR ⟨B,af,ag⟩;obtain⟨z,A⟩:=ef B (i:=16) (by simp[iY]);have O:=er B (i:=16) (.int .i64 ((S.pending+1:Nat):Int));have E:=dD aR S.st 16 (.int .i64 ((S.pending+1:Nat):Int));have ai:IntKind.wrap .i64 ((S.pending:Int)+1)=((S.pending+1:Nat):Int):=by rw[bW J J];omega
 refine⟨_,rfl,_,by rw[av];exact B.cell,_,rfl,by rw[av];exact z,by rw[av];exact A,aQ ?_⟩;rw[av,cg,ai];have P:=af.hG hb.es E;generalize ay:aR.setCell ⟨S.st,16,none⟩ (.int .i64 ((S.pending+1:Nat):Int))=k at O E P⊢;have F:Ext k k.drew:=bC _;have G:=O.ext F;have ak:=P.ext F;have al:ad (λq=>q=S.st) w k.drew:=ct (ag.trans E) F λq _ H=>H.elim;obtain⟨jP,a⟩:∃jP:b7,jP={S with first:=g,pending:=S.pending+1,keys:=L.length}:=⟨_,rfl⟩;have am:g<=S.now:=by rw[o];split<;>omega
 have Q:dR k.drew jP pages L a8 bQ:=by
  rw[a];exact⟨⟨G,ak,hb.es,hb.jO,hb.gen,⟨I.1,am,I.2.2⟩,hb.b6⟩,ok,bZ,f,two,kv,rfl,by show S.pending+1<=1000;omega,λ_=>V,λhf=>by have hf:S.failed=true:=hf;rw[r]at hf;cases hf⟩
 have R:fG 0 S jP w k.drew:=by
  rw[a];exact⟨rfl,rfl,rfl,rfl,bk _,λh=>h,al.mono λq _ e=>by rw[e];exact hb.Fs,λq H=>.inl H,rfl,rfl,rfl⟩
 refine aQ ⟨_,rfl,id,_,by rw[av];exact G.cell,_,rfl,id,_,by rw[av,av];exact G.cell,λm=>?_,λm=>?_⟩
 .have m:((S.pending+1:Nat):Int)>=(S.l.batch:Int):=b3 m
  have U:=Fv Q (by rw[a];exact r) X (by rw[a];exact Y) (by rw[a];exact aa) (by rw[a];exact ab);rw[show jP.st=S.st by rw[a]]at U;refine U.use ?_;intro v bt ao;obtain⟨aM,r1,b8,a_⟩:=ao.x (c:=S.l.batch<=S.pending+1) J;obtain⟨n,rfl⟩:=a_.val;refine⟨n,rfl,aM,(R.trans r1).mono J,by rw[b8,a],.inr ?_⟩;rw[a]at a_;exact a_
 .have m:¬((S.pending+1:Nat):Int)>=(S.l.batch:Int):=cx m
  exact⟨jP,R.mono J,by rw[a],.inl ⟨rfl,J,Q,by rw[a];exact r,by rw[a],by rw[a],by rw[a],by rw[a];exact o,λj _=>by rw[a];rfl⟩⟩
theorem LK(h:dR w S pages L a8 bQ)(a:L.length<4096)(b:S.T.C.D.bu<=800000000)(d:S.gen<=1000000000)(e:S.T.C.D.quiet):
 az ah 35 #[.pointer (some S.st)] w (λv w'=>(S.failed=true/\v=.int .i64 8/\w=w')\/(S.failed=false/\∃aM,fG 100 S aM w w'/\aM.now=S.now/\ll True S aM pages L a8 bQ v w')):=by
 refine okF (Z.wF (some S.st)) aj.wF func35 ?_;(delta Z.wF ae aw bB bx;dsimp only);refine⟨λhb=>(by cases hb),λ_=>⟨_,rfl,S.failed,by rw[av];exact h.v.cell,λhf=>.inl ⟨hf,rfl,rfl⟩,λhf=>(Fv h hf a b d e).use ?_⟩⟩;intro v w' f;obtain⟨aM,r1,b8,a_⟩:=f.x (c:=True) trivial;obtain⟨n,rfl⟩:=a_.val;exact⟨n,rfl,.inr ⟨hf,aM,r1,b8,a_⟩⟩
end
section
variable {w w' w1:I}{T ay:bf}{S aM nm:b7}{pages a8:Y Nat}{L bQ:Y cq}{k:Nat}
def b7.kO(S:b7)(ay:bf):b7:={S with T:=ay}
theorem ke.to(h:ke w S a8 bQ)(ht:ck w' ay)(a:cD S.T ay w w' k)(f:ay.E=S.T.E)(l:ay.G=S.T.G)(o:∀no,S.T.g no=true->ay.P no=S.T.P no):
 ke w' (S.kO ay) a8 bQ/\fG k S (S.kO ay) w w'/\(S.kO ay).V=S.V:=by
 have aP:ay.C.D.bq=S.T.C.D.bq:=congrArg (λp=>p.1.1) a.bq;have aU:ay.C.D.b_.getD 3 0=S.T.C.D.b_.getD 3 0:=congrArg Prod.snd a.bq;have i:(S.kO ay).V=S.V:=by
  funext j;show ay.C.D.bq.getD j []=S.T.C.D.bq.getD j [];rw[aP]
 refine⟨⟨?_,ht,by show ay.E S.st;rw[f];exact h.es,?_,a.gen.trans h.gen,h.num,λj b=>?_⟩,⟨rfl,a.d,a.n,rfl,a.bu,λe=>⟨λm=>a.calm m (e.1 _),aU.trans e.2⟩,a.ak.mono λq _ e=>h.oG e,a.cV,f,l,congrArg (λp=>p.1.2.2.2.2) a.bq⟩,i⟩
 .show Var w' S.st (iY ay.bh ay.C.D.d ay.C.c ay.sb _ _ _ _ _ _ _ _) _
  rw[a.bh,a.d,a.c,a.sb];exact h.v.ak a.ak (h.t.nf h.es)
 .show iv _ ay.n _ _ ay.g ay.P _ _
  rw[i,a.n,a.g];exact h.jO.agree (λ_ _=>rfl) λx hx=>(o x ((h.jO.g x).2 (.inl hx))).symm
 .have b:ay.g j=true:=b
  rw[a.g]at b;show ay.C.D.b6 j=true;rw[a.b6.1];exact h.b6 j b
theorem cD.ro(h:cD T ay w w' k):ay.C.D.ro↔T.C.D.ro:=by unfold ba.ro;rw[h.b6.1]
theorem dR.to(h:dR w S pages L a8 bQ)(ht:ck w' ay)(a:cD S.T ay w w' k)(c:ay.E=S.T.E)(d:ay.G=S.T.G)(b:A6 S.T ay):
 dR w' (S.kO ay) pages L a8 bQ/\fG k S (S.kO ay) w w'/\(S.kO ay).V=S.V:=by
 obtain⟨h1,h2,i⟩:=h.toke.to ht a c d λno j=>(b.fb no (by rw[j,Bool.or_true])).1;have l:cS ay=cS S.T:=by unfold cS;rw[a.n,b.f,a.g]
 refine⟨⟨h1,b.ok h.ok λx hx=>(h.f x).2 (.inl hx),h.bZ,λno=>by show ay.f no=true↔_;rw[b.f];exact h.f no,h.two,h.kv,h.keys,h.nj,λhf=>?_,λhf=>?_⟩,h2,i⟩
 .obtain⟨a1,a2,a3⟩:=h.live hf
  exact⟨λe=>a1 (a.ro.1 e),a.b6.2.trans a2,by show 1<=cS ay;rw[l];exact a3⟩
 .obtain⟨a1,a2⟩:=h.dead hf
  exact⟨a.ro.2 a1,a2⟩
end
section
variable {w w' w1:I}{T ay:bf}{S aM dm:b7}{pages a8:Y Nat}{L bQ:Y cq}{k:Nat}
structure Bh(S dm:b7):Prop where
 u:dm.u=S.u
 gen:dm.gen=S.gen
 now:dm.now=S.now
 first:dm.first=S.first
 pending:dm.pending=S.pending
 l:dm.l=S.l
 g:dm.T.g=S.T.g
 V:dm.V=S.V
theorem ll.back{c:Prop}{v:O}(h:ll c dm aM pages L a8 bQ v w')(e:Bh S dm)(d:fG k S dm w w1):ll c S aM pages L a8 bQ v w':=by
 unfold ll at h⊢;rw[e.u,e.gen,e.now,e.g,e.V]at h;exact h.imp id λ⟨a,b,c⟩=>⟨a,λf=>b (d.q f),c⟩
theorem oH.back{v:O}(h:oH dm aM pages L a8 bQ v w')(e:Bh S dm)(a:fG k S dm w w1):oH S aM pages L a8 bQ v w':=by
 unfold oH at h⊢;have:=λh=>ll.back (pages:=pages) (L:=L) (a8:=a8) (bQ:=bQ) (c:=S.l.batch<=S.pending+1) (v:=v) (aM:=aM) (w':=w') h e a;rw[e.pending,e.l,e.gen,e.u,e.now,e.first,e.g,e.V]at h;exact h.imp id this
theorem dR.LL{c6:bf}{fM:Y cq}{d:Int}(h:dR w S pages L a8 bQ)(hf:S.failed=false)(m:ck w' c6)(b:cD S.T c6 w w' k)(o:c6.E=S.T.E)(r:c6.G=S.T.G)(s:K6 S.T c6 pages fM)(W:2*S.T.bg+5<=cS S.T)(t:∀p∈fM,g3 p.1/\p.2.length<=24)(hd:(S.keys:Int)+d=fM.length)(y:fM.length<4096)(X:S.keys<4096)(z:S.pending<1000)(Z:S.T.C.D.bu+k<=800000000)(A:S.gen<=1000000000)(B:S.T.C.D.quiet):
 az ah 252 #[.pointer (some S.st),d] w' (λv i=>(∃n:Int,v=n)/\∃aM fV,fG (k+100) S aM w i/\aM.now=S.now/\oH S aM fV fM a8 bQ v i):=by
 obtain⟨⟨fV,aa,F,dJ,H,I⟩,J⟩:=s;obtain⟨K,l,M⟩:=h.toke.to m b o r λno N=>(J no N).1;have O:Bh S (S.kO c6):=⟨rfl,rfl,rfl,rfl,rfl,rfl,b.g,M⟩;obtain⟨P,Q,_⟩:=h.live hf;have R:∀j,j<2\/j=S.u.map->j∉pages:=λj c hm=>by
  have:=h.two j hm;rcases c with c|c
  .omega
  .exact this.2 c
 refine(LJ (d:=d) K hf F dJ (λno=>(I no).trans ?_) (λx hx=>?_) t ⟨λe=>P (b.ro.1 e),b.b6.2.trans Q,by show 1<=cS c6;omega⟩ hd z y (by show S.keys<_;omega) (by have:=b.bu;show c6.C.D.bu<=_;omega) A (l.q B)).mono ?_
 .rw[h.f no]
  constructor
  .rintro(h1|⟨h1|h1,h2⟩)
   .exact .inl h1
   .exact absurd h1 h2
   .exact .inr h1
  .rintro(h1|h1)
   .exact .inl h1
   .exact .inr ⟨.inr h1,R no h1⟩
 .rcases H x hx with h1|h1
  .exact h.two x h1
  .have h2:S.T.f x=false:=by cases ab:S.T.f x<;>simp_all
   refine⟨Nat.le_of_not_lt λU=>?_,λV=>?_⟩
   .rw[(h.f x).2 (.inr (.inl U))]at h2;cases h2
   .rw[(h.f x).2 (.inr (.inr V))]at h2;cases h2
 .rintro v i ⟨aM,r1,b8,a_⟩
  refine⟨?_,aM,fV,l.trans r1,b8,a_.back O l⟩;rcases a_ with ⟨a,_⟩|a
  .exact⟨0,a⟩
  .exact a.val
theorem ua(w:I)(s:ag):az ah 248 #[s] w (λv w'=>v=.bool (decide (1<=s.len/\s.len<=24))/\w=w'):=by
 refine okF (Z.ua s) aj.ua func248 ?_;refine⟨?_,rfl⟩
 congr 1
 rw[eX,du,cT,cT,cT];omega
end
theorem ints_at{w:I}{s:ag}{l:Y Nat}(h:Src 1 w s (ep l)){i:Nat}(hi:i<l.length):∃A:ar,s.a=some A/\((0:Int)<=(i:Int)/\(i:Int)<(s.len:Int))/\w.cell? (A.add (Int.toNat (i:Int)*1))=some (.int .i64 ((l[i]:Nat):Int)):=by
 obtain⟨A,au,hb,hc⟩:=h.at (i:=i) (v:=.int .i64 ((l[i]:Nat):Int)) (by simp[ep,hi]);exact⟨A,au,hb,hc⟩
theorem LM{w:I}{t u:ag}{l m:Y Nat}(c:Src 1 w t (ep l))(hm:Src 1 w u (ep m))(G:l.length<=100000):az ah 172 #[t,u] w (λv w'=>v=.bool (decide (l=m))/\Ext w w'):=by
 refine okF (Z.wg t u) aj.wg func172 ?_;(delta Z.wg ae cR bj bX r1 bz an;dsimp only);have k:=c.len;have o:=hm.len;rw[pW]at k o;refine⟨λa=>⟨?_,.refl _ _⟩,λp=>?_⟩
 .simp only[bne_iff_ne]at a
  have:l≠m:=λe=>a (by subst e;omega);rw[gr this]
 simp only[bne_eq_false_iff_eq]at p;have q:l.length=m.length:=by omega
 refine⟨λn w'=>∃i:Nat,n=i/\i<=l.length/\Ext w w'/\∀ (j:Nat) (h1:j<l.length) (h2:j<m.length),j<i->l[j]=m[j],λn _=>((l.length:Int)-n).toNat,⟨0,rfl,dd _,.refl _ _,λj _ _ h=>J⟩,?_⟩;rintro _ aA ⟨i,rfl,hi,d,f⟩;refine⟨λaI=>aQ ?_,λr=>⟨?_,d⟩⟩
 .have aI:i<l.length:=by have:=b3 aI;omega
  have s:i<m.length:=by omega
  have b:Ext w aA.drew:=ad.drew d;obtain⟨A,au,x,y⟩:=ints_at (c.ext b) aI;obtain⟨B,z,C,D⟩:=ints_at (hm.ext b) s;have E:IntKind.wrap .i64 ((i:Int)+1)=((i+1:Nat):Int):=by rw[bW J J];rfl
  have F:((l.length:Int)-((i+1:Nat):Int)).toNat<((l.length:Int)-(i:Int)).toNat:=by omega
  rw[E];refine⟨A,au,x,id,_,y,B,z,C,id,_,D,λa=>⟨?_,b⟩,λhe=>⟨⟨i+1,rfl,aI,b,λj h1 h2 H=>?_⟩,F⟩⟩
  .have a:l[i]≠m[i]:=λe=>by rw[e]at a;simp at a
   have:l≠m:=λe=>a (by subst e;rfl);rw[gr this]
  .rcases eP j i with g|g
   .exact f j h1 h2 g
   .obtain rfl:j=i:=by omega
    have he:((l[j]:Nat):Int)=((m[j]:Nat):Int):=by simpa using he
    omega
 .have hi:i=l.length:=by have:=cx r;omega
  rw[eB (oZ q λj h1 h2=>f j h1 h2 J)]
theorem Fy:∀ {a b:Y Nat},ep a=ep b->a=b
 | [],[],_=>rfl
 | [],_::_,h=>by cases h
 |_::_,[],h=>by cases h
 |x::a,y::b,h=>by
  have h1:=List.cons.inj h
  have h2:Value.int .i64 (x:Int)=Value.int .i64 (y:Int):=h1.1
  injection h2 with _ h2
  rw[Fy (a:=a) (b:=b) h1.2,show x=y from J]
def Bi(f:Nat->ai)(n:Nat):Y Nat:=(List.range n).filter f
theorem Bj(f:Nat->ai):∀n,m_ f n=ep (Bi f n)
 |0=>rfl
 |n+1=>by
  have a:=Bj f n
  unfold m_ ep Bi at a⊢
  rw[List.range_succ,List.filter_append,e5,←a]
  show(kd f n++(if f n then [(n:Int)] else [])).map _=_
  rw[e5]
  cases hf:f n<;>simp[hf]
section
variable {w w' w1:I}{S aM dm:b7}{pages a8:Y Nat}{L bQ:Y cq}{k:Nat}
theorem LN{gf:Nat->al bo}{m:Int}(M:Var w S.st S.cells 197)(ht:ck w S.T)(es:S.T.E S.st)(ao:g5 (S.T.dL S.T.C gf) pages L)(aq:∀x∈pages,∀bZ,gf x=some bZ->S.T.P x=some bZ\/kK S.T x)(dJ:pages.Nodup)
 (hf:∀no,S.T.f no=true↔no∈pages\/no<2\/no=S.u.map) (two:∀x∈pages,2<=x/\x≠S.u.map) (a5:2<=S.u.map/\S.u.map<S.T.n) (a6:L.length<=4000) (ar:pages.length<=4000) (a7:S.T.C.D.bu<=900000000):
 az ah 123 #[.pointer (some ⟨S.st,0,none⟩),.int .i64 m] w (λv w'=>∃ay,ck w' ay/\ei S.T ay w w' (2*pages.length)/\ay.G=S.T.G/\
  ((v=.int .i64 0/\m=L.length/\∀x∈pages,S.T.P x=gf x)\/(∃e:Int,v=.int .i64 e/\e≠0/\(¬S.T.C.D.calm (2*pages.length)\/(∃x∈pages,kK S.T x)\/m≠L.length)))):=by
 refine okF (Z.w2 (some ⟨S.st,0,none⟩) m) aj.w2 func123 ?_;(delta Z.w2 aw C2 ae r1 ap aa dg bp bn;dsimp only);have O:∀x∈pages,S.T.f x=true/\x<S.T.n:=λx hx=>⟨(hf x).2 (.inl hx),Nat.lt_of_not_le λe=>by
  have:=ht.s.pf x e;rw[(hf x).2 (.inl hx)]at this;cases this⟩
 refine⟨_,rfl,_,M.cell,(Le ht ao O aq dJ J J J).use ?_⟩;rintro v j ⟨ay,Q,g,o,au⟩;have ax:∃ (s:ag) (es:Y Nat) (n e:Int),v=.tuple #[.slice s.a s.len s.cap,.int .i64 n,.int .i64 e]/\aS 1 3 j s (ep es)/\es.length<=4000/\(∀q,aD s q->S.T.N q\/w.heap.size<=q)/\ck j (ay.dw S.T.E λq=>S.T.G q\/aD s q)/\
  ((n=L.length/\e=0/\es.Perm pages/\∀x∈pages,S.T.P x=gf x)\/(e≠0/\(¬S.T.C.D.calm (2*pages.length)\/∃x∈pages,kK S.T x))):=by
  rcases au with ⟨s,es,rfl,r,t,_,aA,aB,aC⟩|⟨e,rfl,aE,aF⟩
  .exact⟨s,es,_,0,rfl,r,by rw[t.length_eq];exact ar,λq c=>(aA q c).1,aC,.inl ⟨rfl,rfl,t,aB⟩⟩
  .refine⟨cC,[],0,e,rfl,aS.none _ _ _,by simp,λq c=>(fx q c).elim,Q.grow (W:=λ_=>False) (ad.refl _ _) (λ_ h=>h.elim) (λq c=>.inl (by rw[g.E];exact c)) (λq c=>.inr (.inl (by rw[o];exact c.resolve_right λh=>fx q h))) (λq c hg=>(ht.dX q c).2.2 (hg.resolve_right λh=>fx q h)),.inr ⟨aE,aF.imp And.right id⟩⟩
 obtain⟨s,es,n,e,rfl,r,a8,aG,R,z⟩:=ax;refine⟨s,n,e,rfl,λd=>?_,λd=>?_⟩
 .have d:e=3:=by simpa using d
  refine⟨ay,Q,g,o,.inr ⟨e,rfl,J,?_⟩⟩;rcases z with ⟨_,A,_⟩|⟨_,A⟩
  .omega
  .exact A.imp id .inl
 have U:=M.ak g.to.ak (ht.nf (by assumption));refine⟨_,rfl,_,by rw[av,av];exact U.cell,aQ ?_⟩;have F:Ext j (j.alloc (.cells #[.int .i64 0,.int .i64 1,.int .i64 ((S.u.map:Nat):Int)] 3)):=cM _ _;have a9:s.len=es.length:=by have:=r.1;rw[pW]at this;omega
 obtain⟨X,aR,aJ,aW,a_,aH,aI⟩:=uu.append (c4:=52) (x:=⟨some ⟨j.heap.size,0,none⟩,3,3⟩) (Src.new (T:=3) j [.int .i64 0,.int .i64 1,.int .i64 ((S.u.map:Nat):Int)] 3 rfl) (r.ext F) (DM [0,1,S.u.map]) (by show(2*(s.len+3)+1000)*8<=_;omega);have aK:aS 1 3 aR X (ep (es++ [0,1,S.u.map])):=by
  have e:ep (es++ [0,1,S.u.map])=ep es++ [.int .i64 0,.int .i64 1,.int .i64 ((S.u.map:Nat):Int)]:=by unfold ep;rw[e5];rfl
  rw[e];exact aW
 refine⟨X,aR,aJ,(Ev aK (by simp;omega)).use ?_⟩;rintro _ B ⟨rfl,aL,p,aM,ab,aN⟩;have H:ad (aD s) j B:=ct (ct (ad.refl _ _) (F.mono λ_ _ h=>h.elim) (V:=aD s) (λq _ h=>h)|>.trans aH) aL λq aO c=>(aI q c).resolve_right (by have:=F.size;omega);have ba:=g.to.ak.size;have eV:ay.dw S.T.E S.T.G=ay:=by rw[←g.E,←o];rfl
 have I:ck B ay:=by
  have:=R.grow (E:=S.T.E) (G:=S.T.G) H (λq c _=>.inr (.inr c)) (λq c=>.inl c) (λq c=>.inr (.inl (.inl c))) λq c=>(ht.dX q c).2.2;rw[←eV];exact this
 have aP:ei S.T ay w B (2*pages.length):={g with to:=g.to.step (E:=ay.E) (G:=ay.G) H (λq c aO=>(aG q c).resolve_right J) (λq c=>.inl c) λq c=>.inl c};have aT:¬aD s S.st:=λc=>(R.dX S.st (by assumption)).2.2 (.inr c);have aU:=U.ak H aT;refine⟨rfl,bK (λb w'=>((b=true->e≠0\/n≠m)/\(b=false->e=0/\n=m))/\Ext B w') (λq c=>⟨λhb=>c _ _ ⟨⟨λ_=>?_,λh=>(by cases h)⟩,.refl _ _⟩,λhb=>?_⟩) ?_⟩
 .rcases Bool.or_eq_true_iff.1 hb with h1|h1
  .exact .inl (by simpa using h1)
  .exact .inr (by simpa using h1)
 .obtain⟨h1,h2⟩:=qq.1 hb
  have h1:e=0:=by simpa using h1
  have h2:n=m:=by simpa using h2
  have hu:=KE I.s;rw[g.to.sb,g.to.n,g.f]at hu;refine⟨_,rfl,_,by rw[av];exact aU.cell,hu.use ?_⟩;rintro _ bl ⟨aV,rfl,ac,af,_⟩;have aX:p.length<=100000:=by rw[ab.length_eq];simp;omega
  rw[Bj]at ac;refine⟨aV,rfl,(LM (aM.ext af).src ac.src aX).use ?_⟩;rintro _ bb ⟨rfl,aY⟩;have aZ:p=Bi S.T.f S.T.n:=by
   rcases z with ⟨_,_,t,_⟩|⟨d,_⟩
   rotate_left
   .exact absurd h1 d
   have ai:p.Perm (pages++ [0,1,S.u.map]):=ab.trans (t.append_right _);have a0:(pages++ [0,1,S.u.map]).Nodup:=by
    refine mH.2 ⟨dJ,by simp;omega,λx hx y k e=>?_⟩;have:=two x hx;subst e;simp only[cW,fh,ft]at k;rcases k with k|k|k
    .omega
    .omega
    .exact this.2 k
   have a1:p.Nodup:=ai.nodup_iff.2 a0;have a2:p.Pairwise λa b=>a<b:=(aN.and a1).imp λh=>by have:=h.1;have:=h.2;omega
   have am:=Lf (f:=S.T.f) (n:=S.T.n) a2 λx=>by
    rw[ai.mem_iff,ed,hf x];simp only[cW,fh,ft];constructor
    .rintro(i|i|i|i)
     .exact⟨(O x i).2,.inl i⟩
     .exact⟨J,.inr (.inl J)⟩
     .exact⟨J,.inr (.inl J)⟩
     .exact⟨J,.inr (.inr i)⟩
    .rintro⟨_,i|i|i⟩
     .exact .inl i
     .exact .inr J
     .exact .inr J
   rw[Bj]at am;exact Fy am
  exact⟨_,rfl,c _ _ ⟨⟨λh=>(by rw[eB aZ]at h;cases h),λ_=>⟨h1,h2⟩⟩,Ext.trans af aY⟩⟩
 .rintro b bc ⟨⟨a3,a4⟩,K⟩
  have an:=(aP.trans (ei.ext ay K)).mono (l:=2*pages.length) J;refine⟨λhb=>⟨ay,I.ext K,an,o,.inr ⟨4,rfl,by decide,?_⟩⟩,λhb=>⟨ay,I.ext K,an,o,.inl ⟨rfl,?_⟩⟩⟩
  .rcases z with ⟨h1,h2,_⟩|⟨_,h2⟩
   .rcases a3 hb with d|d
    .exact absurd h2 d
    .exact .inr (.inr (by rw[←h1];exact λe=>d e.symm))
   .exact h2.imp id .inl
  .obtain⟨h1,h2⟩:=a4 hb
   rcases z with ⟨d,_,_,A⟩|⟨d,_⟩
   .exact⟨by rw[←h2];exact d,A⟩
   .exact absurd h1 d
end
variable {w w':I}
theorem Ext.LO(h:Go.RowKit.Below w.heap.size w w'):Ext w w':=⟨h.os,h.tape,h.output,h.size,λk a _=>h.block k a⟩
theorem aS.LP{sz:Nat}{T:TypeId}{base:Nat}{v:O}{n:Nat}{xs:Y O}(h:w.ownsRow base T sz v n xs):∃s:ag,v=s/\aS sz T w s xs/\s.len=n/\∀q,aD s q->base<=q:=by
 obtain⟨h1,⟨rfl,rfl⟩|⟨g,cap,e,rfl,hb,hg,h2,b,c,d⟩⟩:=h
 .have:xs=[]:=oV.1 J
  subst this;exact⟨⟨none,0,0⟩,rfl,aS.none _ _ _,rfl,λq a=>(fx q a).elim⟩
 .refine⟨⟨some g,n,cap⟩,rfl,aS.mk' hg h1 h2 b c d,rfl,λq a=>?_⟩
  rw[←k_.1 a];exact hb
def uK:O->al (DataW Unit×Y MemPlace):=λ_=>some (.lit (.bool true),[])
theorem LQ{q:Nat}{M:Y (Int×O)}(h:cQ w q encZ M)(t:M.length<=1000000)(j:∀x∈M, -9223372036854775808<=x.1/\x.1<=9223372036854775807):
 ∃D:DataW Unit,w.ownsMap ah 3 uK q M.length D/\(intKeys D).Perm (M.map (·.1))/\Maps.size D=M.length:=by
 obtain⟨L,f,hb,h1,h2,l,m⟩:=h;have c:L.length=M.length:=by rw[←h1.length_eq,dn]
 have n:∀x∈L, -9223372036854775808<=x.1/\x.1<=9223372036854775807:=λx hx=>j (l8 x) (h1.mem_iff.1 (dj.2 ⟨x,hx,rfl⟩));have g:∀x∈L,Go.WideElems.rd ah 3 uK (cP encZ x)=some (.int .i64 x.1,.lit (.bool true)):=λx hx=>by
  have o:(Lit.int .i64 x.1).wf=true:=by
   have:=n x hx;simp[Lit.wf,IntKind.min,IntKind.max,IntKind.signed,IntKind.bits];omega
  exact Go.WideElems.rd_mk (R:=uK) (yv:=(.lit (.bool true),[])) (Maps.keyOf_int_mk (k:=3) (by kernel_rfl) o) rfl
 have i:((L.map (cP encZ)).map (Go.WideElems.rg ah 3 uK))=L.map λx=>(Lit.int .i64 x.1,DataW.lit (.bool true)):=by
  rw[gF];refine nD λx hx=>?_;have:=Go.WideElems.rg_of (g x hx);simp only[Function.comp_apply];exact this
 have r:Go.WideElems.Fit ah 3 uK (L.map (cP encZ)).toArray f:=by
  refine⟨by simp[c];unfold maxLen;omega,⟨λx hx=>?_,?_,?_⟩,λx hx=>?_⟩
  .obtain⟨y,d,rfl⟩:=dj.1 (by simpa using hx:x∈L.map (cP encZ))
   exact m y d
  .simp only[gF]
   exact l
  .simp only[gF]
   have:((λe:MapEntry=>e.key)∘cP encZ)=λx:Int×O×Nat=>encZ x.1:=rfl;show(L.map ((λe:MapEntry=>e.key)∘cP encZ)).Nodup;rw[this];have e:(L.map λx:Int×O×Nat=>encZ x.1)=(L.map (·.1)).map encZ:=by rw[gF];rfl
   rw[e];exact List.Pairwise.map encZ (λa b s he=>s (by cases he;rfl)) h2
  .obtain⟨y,d,rfl⟩:=dj.1 (by simpa using hx:x∈L.map (cP encZ))
   exact⟨_,g y d⟩
 have gY:=Go.WideShapes.sorted_perm (L.map λx=>(Lit.int .i64 x.1,(DataW.lit (.bool true):DataW Unit)));refine⟨_,⟨_,f,hb,r,by simp[c],rfl⟩,?_,?_⟩
 .simp only[i]
  show(List.map (λp:Lit×DataW Unit=>Go.intOf p.1) _).Perm _;refine(gY.map _).trans ?_;rw[gF];have:=h1.map (·.1);rw[gF]at this;exact this
 .simp only[i]
  show List.length _=_;rw[gY.length_eq,dn,c]
theorem LR(m:Nat):AnyZI.SortsIn ah Eu Fence.wide m:=
 ⟨λbc off cap a W b c d=>callsIn_wide.2 (AnyM.slices_Sort_int yt bc off cap a W b c d),λp cap W=>callsIn_wide.2 (AnyM.slices_Sort_int_none yt p cap W)⟩
theorem LS{q:Nat}{M:Y (Int×O)}(h:cQ w q encZ M)(i:M.length<=1000000)(j:∀x∈M, -9223372036854775808<=x.1/\x.1<=9223372036854775807):
 az ah 119 #[.func (.func 164) #[] #[.pointer (some w.heap.size)]] (w.alloc (.cells #[.map (some q)] 98))
  (λv w'=>∃ (s:ag) (ids:Y Int),v=s/\aS 1 3 w' s (ids.map encZ)/\s.len=ids.length/\ids.Perm (M.map (·.1))/\ids.Pairwise (λa b=>decide (a<=b)=true)/\Ext w w'/\∀k,aD s k->w.heap.size<=k):=by
 have d:Ext w (w.alloc (.cells #[.map (some q)] 98)):=ad.alloc (.refl _ _) _;have C:(w.alloc (.cells #[.map (some q)] 98)).heap.size=w.heap.size+1:=by simp
 obtain⟨D,l,m,f⟩:=LQ (h.ext d) i j;have n:=AnyZI.keys_gives (ρ:=Et) {J6 with} Fence.wide 2 trivial rfl J w.heap.size q M.length D (w.alloc (.cells #[.map (some q)] 98)) J (by simp) l;have o:=AnyZI.sorted_in J7 Fence.wide 5 trivial trivial trivial trivial rfl J (LR _) (enters_of func163 (by kernel_rfl) rfl) 164 #[.pointer (some w.heap.size)] trivial (enters_of func164 (by kernel_rfl) rfl) _ _ (by rw[f];unfold maxLen;omega) (by rw[f];omega) _ n;have p:=callsIn_wide.1 (o.mono (R':=λe w'=>∃v,e=.returned v/\∃ (s:ag) (ids:Y Int),v=s/\aS 1 3 w' s (ids.map encZ)/\s.len=ids.length/\ids.Perm (M.map (·.1))/\ids.Pairwise (λa b=>decide (a<=b)=true)/\Ext w w'/\∀k,aD s k->w.heap.size<=k) ?_)
 .exact p
 .rintro e af ⟨v,g,rfl,r,t,_,hb⟩
  obtain⟨s,rfl,u,z,A⟩:=aS.LP t;refine⟨_,rfl,s,g.mergeSort (λx y=>decide (x<=y)),rfl,u,by rw[z,List.length_mergeSort],?_,?_,Ext.trans d (Ext.LO hb),λk B=>by have:=A k B;omega⟩
  .exact(List.mergeSort_perm _ _).trans (r.trans m)
  .exact List.pairwise_mergeSort (λa b c h1 h2=>by simp only[cT]at*;omega) (λa b=>by simp only[jv,cT];omega) g
theorem Bk:∀ (n:Nat) {l:Y Nat},l.Nodup->(∀x∈l,x<n)->l.length<=n
 |0,l,_,h=>by
  cases l with
  |nil=>exact bk _
  |cons x l=>exact absurd (h x (by simp)) (Nat.not_lt_zero _)
 |n+1,l,a,h=>by
  by_cases hm:n∈l
  .have h1:=Bk n (l:=l.erase n) (a.erase n) λx hx=>by
    have h2:=(a.mem_erase_iff).1 hx
    have:=h x h2.2
    have:=h2.1
    omega
   rw[List.length_erase_of_mem hm]at h1
   omega
  .have:=Bk n a λx hx=>by
    have h1:=h x hx
    have h2:x≠n:=λe=>hm (e▸hx)
    omega
   omega
section
variable {D:ba}
theorem cv.Fz(h:cv w D):(D.waits.map hE.i).Nodup:=by
 have h1:=h.m.keys;rw[gF]at h1;refine(vb.1 h1:D.waits.Pairwise _).imp (λa e=>a ?_)|>vb.2;exact congrArg (λn:Nat=>(n:Int)) e
theorem cv.FA(h:cv w D):D.waits.length<=1600:=by
 have h1:=Bk D.n h.Fz λx hx=>by
  obtain⟨y,a,rfl⟩:=dj.1 hx;exact(h.wn y a).2.1
 have:=h.bF;rw[dn]at h1;omega
theorem LU(h:cv w D):az ah 63 #[.pointer (some D.d)] w
 (λv w'=>∃ (s:ag) (ids:Y Int),v=s/\aS 1 3 w' s (ids.map encZ)/\ids.Perm (D.waits.map λx=>(x.i:Int))/\Ext w w'/\∀k,aD s k->w.heap.size<=k):=by
 refine okF (Z.wM (some D.d)) aj.wM func63 ?_;(delta Z.wM aw CY bp;dsimp only);refine⟨_,rfl,_,h.hU,?_⟩;refine Calls.mono (Z.HF (some D.mr) w (λv w'=>v=.func (.func 164) #[] #[.pointer (some w.heap.size)]/\w.alloc (.cells #[.map (some D.mr)] 98)=w') ⟨rfl,rfl⟩) ?_;rintro _ _ ⟨_,rfl,rfl,rfl⟩;have dJ:D.waits.length<=1000000:=by have:=h.FA;omega
 refine⟨⟨164,#[],#[.pointer (some w.heap.size)]⟩,rfl,(LS h.m (by rw[dn];exact dJ) (λx hx=>?_)).use ?_⟩
 .obtain⟨y,a,rfl⟩:=dj.1 hx
  have:=(h.wn y a).2.1;have:=h.bF;show _<=(y.i:Int)/\(y.i:Int)<=_;omega
 .rintro _ e ⟨s,ids,rfl,h1,_,h2,_,b,c⟩
  refine⟨s,rfl,s,ids,rfl,h1,?_,b,c⟩;rw[gF]at h2;exact h2
end
variable {w w':I}{D:ba}
theorem LV(a b:Int)(w:I)(T:TypeId)(k:IntKind):Sem.run ah (Builtin.min_ #[T,T] T #[.int k a,.int k b]) w=.ok (.int k (min a b)) w:=by
 simp only[Builtin.min_];unfold Builtin.min2;simp;split<;>omega
theorem cv.LW(h:cv w D){i:Nat}(hi:i<D.n){x:cL}(hx:x.length=256):bN w ⟨D.lb,i*256,none⟩ (ax x)/\cv (setCells w ⟨D.lb,i*256,none⟩ 0 (ax x)) {D with bq:=D.bq.set i x}/\ad (λq=>q=D.lb) w (setCells w ⟨D.lb,i*256,none⟩ 0 (ax x)):=by
 obtain⟨bH,bL,a⟩:=Fh h.l h.sl hi hx;refine⟨bH,?_,a⟩;generalize setCells w ⟨D.lb,i*256,none⟩ 0 (ax x)=j at bL a;have b:D.d≠D.lb:=h.a1.1;refine⟨?_,bL,h.m.ak a λe=>h.a1.2.2 e.symm,λx hx=>(h.ws x hx).ak a λq f e=>(h.a2 x hx).2.1 (by rw[←e];exact f),?_,λs hs=>?_,h.bT,?_,?_,h.f4,h.fr,h.a1,h.a2,h.a3,h.r⟩
 .have h1:=h.v.ak a b
  have e:({D with bq:=D.bq.set i x}:ba).c=D.c:=by unfold ba.c;simp
  rw[e];exact h1
 .intro z g
  have:=h.wn z g;refine⟨this.1,?_,this.2.2⟩;show z.i<(D.bq.set i x).length;rw[c1];exact this.2.1
 .rcases nH hs with h1|rfl
  .exact h.sl s h1
  .exact hx
 .show 16<=(D.bq.set i x).length;rw[c1];exact h.dN
 .show(D.bq.set i x).length<=1600;rw[c1];exact h.bF
theorem Src.LX{sz:Nat}{s:ag}{vs:Y O}{W:Nat->Prop}(h:Src sz w s vs)(hc:ad W w w')(d:∀k,aD s k->W k->vs=[]):Src sz w' s vs:=⟨h.len,h.nil,λa b=>by
 by_cases c:vs=[]
 .have h0:=h.len
  rw[c]at h0⊢
  rw[←h0];rfl
 .exact hc.aT (λe=>c (d _ ⟨a,b,rfl⟩ e)) _ _ _ (h.rd a b)⟩
structure sA(D aL:ba):Prop where
 d:aL.d=D.d
 waits:aL.waits=[]
 n:aL.n=D.n
 q:aL.quiet
 bu:aL.bu=D.bu
 bq:∀j,aL.bq.getD j []=D.bq.getD j []\/aL.bq.getD j []∈D.eu j
 cV:∀q,bI aL q->bI D q
 r:aL.r1=true
theorem LY(h:cv w D){y:hE}(c:y∈D.waits):D.eu y.i=y.gx:=by
 unfold ba.eu
 cases hf:D.waits.find? λx=>x.i==y.i with
 |none=>
  have:=mI.1 hf y c;simp at this
 |some z=>
  have d:=j1 hf;have e:z.i=y.i:=by simpa using k0 hf
  have h1:=h.Fz;obtain⟨a,f,rfl⟩:=eZ d;obtain⟨b,hb,rfl⟩:=eZ c;have h2:=(List.getElem_inj (i:=a) (j:=b) (h₀:=by simpa using f) (h₁:=by simpa using hb) h1).1 (by simpa using e);subst h2;rfl
theorem LZ{l:ag}{zs:Y Int}(h:cv w D)(O:Src 1 w l (zs.map encZ))(ai:∀q,aD l q->bI D q->zs=[])(bd:zs.length<=1000000)(be:∀z∈zs,z<=9223372036854775807)(bf:D.bu<=1000000000):
 az ah 24 #[.pointer (some D.d),l] w (λv w'=>v=.tuple #[]/\∃aL,cv w' aL/\sA D aL/\ad (bI D) w w'):=by
 refine okF (Z.wA (some D.d) l) aj.wA func24 ?_;(delta Z.wA ae bp cR bj bX r1 bz aw bE fz a_ en an dg;dsimp only);refine⟨λh1=>(by cases h1),λ_=>(LU h).use ?_⟩;rintro _ w1 ⟨s,ids,rfl,Q,R,E,al⟩;have am:=h.bF;have ao:=O.len;rw[dn]at ao;have bg:s.len=ids.length:=by have:=Q.1;rw[dn]at this;omega
 have bh:ids.length<=1600:=by rw[R.length_eq,dn];exact h.FA
 have ap:∀q,aD s q->¬bI D q:=λq a hf=>by have:=al q a;have:=h.lt hf;omega
 have F:bI D D.lb:=.inr (.inl rfl);refine⟨s,rfl,λn6 f=>∃ (i:Nat) (ls:Y cL),n6=(i:Nat)/\i<=ids.length/\cv f {D with bq:=ls}/\ls.length=D.n/\(∀j,ls.getD j []=D.bq.getD j []\/ls.getD j []∈D.eu j)/\ad (λq=>q=D.lb) w1 f,λn6 _=>((ids.length:Int)-n6).toNat,⟨0,D.bq,rfl,dd _,h.ext E,rfl,λj=>.inl rfl,ad.refl _ _⟩,?_⟩;rintro _ f ⟨i,ls,rfl,hi,g,r,iE,u⟩;have aq:=Q.ak u λq a e=>ap q a (by rw[e];exact F);have G:=Src.LX (O.ext E) u λq a e=>by rw[ai q a (by rw[e];exact F)];rfl
 refine⟨λhb=>?_,λhb=>?_⟩
 .have hb:(i:Int)<(s.len:Int):=b3 hb
  have H:i<ids.length:=by omega
  obtain⟨y,p,S⟩:=dj.1 (R.mem_iff.1 (cO H));have ar:IntKind.wrap .i64 ((i:Int)+1)=((i+1:Nat):Int):=by rw[bW J J];omega
  have ay:((ids.length:Int)-((i+1:Nat):Int)).toNat<((ids.length:Int)-(i:Int)).toNat:=by omega
  obtain⟨A,au,aA,I⟩:=aq.src.at (i:=i) (v:=encZ ids[i]) (by simp[H]);refine k9 (λK=>∃ls:Y cL,cv K {D with bq:=ls}/\ls.length=D.n/\(∀j,ls.getD j []=D.bq.getD j []\/ls.getD j []∈D.eu j)/\ad (λq=>q=D.lb) w1 K) (λbi T=>⟨A,au,aA,ids[i],I,?_⟩) ?_
  .refine bK (λb w'=>(b=false->∃t:i<zs.length,0<zs[i])/\f=w') (λq a=>⟨λ_=>a _ _ ⟨λh=>(by cases h),rfl⟩,λU=>?_⟩) ?_
   .have U:¬(i:Int)>=(l.len:Int):=cx U
    have t:i<zs.length:=by omega
    obtain⟨B,V,W,X⟩:=G.at (i:=i) (v:=encZ zs[i]) (by simp[t]);exact⟨B,V,W,zs[i],X,a _ _ ⟨λaB=>⟨t,by have:=cx aB;omega⟩,rfl⟩⟩
   .rintro b _ ⟨aC,rfl⟩
    refine⟨λ_=>T _ ⟨ls,g,r,iE,u⟩,λaE=>?_⟩;obtain⟨t,bk⟩:=aC aE;obtain⟨B,V,W,X⟩:=G.at (i:=i) (v:=encZ zs[i]) (by simp[t]);have aF:=g.m.qV p2 mo (k:=(y.i:Int)) (v:=y.s) (dj.2 ⟨y,p,rfl⟩) false;have L:=g.ext (bC f);have aG:=G.ext (bC f);obtain⟨aH,aI,aK,aM⟩:=aG.at (i:=i) (v:=encZ zs[i]) (by simp[t]);have bl:=(h.wn y p).2.2;have bm:0<y.gx.length:=List.length_pos_iff.2 (h.wn y p).1;obtain⟨k,aN⟩:∃k:Nat,min zs[i] (y.gx.length:Int)=((k+1:Nat):Int):=⟨(min zs[i] (y.gx.length:Int)-1).toNat,J⟩;have C:k<y.gx.length:=by omega
    obtain⟨aO,aP,aR,aS⟩:=p4 (L.ws y p).src (λs hs=>by rw[c7];exact h.bT y p s hs) (by decide) (i:=k) C;have aT:y.i<D.n:=(h.wn y p).2.1;have aU:({D with bq:=ls}:ba).n=D.n:=r;obtain⟨bH,bL,aV⟩:=L.LW (i:=y.i) (by rw[aU];exact aT) (h.bT y p y.gx[k] (cO C));have aa:Addr.add D.lb (Int.toNat (y.i:Int)*256)=⟨D.lb,y.i*256,none⟩:=by rw[dW,av,cg]
    refine⟨_,rfl,some D.mr,g.hU,y.s,f,by rw[←S];exact aF,aQ ⟨λ_=>False,_,rfl,id,⟨some D.lb,ls.length,ls.length⟩,L.fB,aH,aI,aK,id,zs[i],aM,_,f.drew,LV _ _ _ _ _,ad.refl _ _,aP,aR,?_⟩⟩;rw[aO,aN,bW (n:=(((k+1:Nat):Nat):Int)-1) J J];have aX:Int.toNat (((k+1:Nat):Int)-1)=k:=by omega
    rw[aX,←S];refine⟨⟨J,J⟩,id,_,aS,_,rfl,⟨J,by show(y.i:Int)<(ls.length:Int);omega⟩,by rw[aa];exact bH,by simp[c7,h.bT y p y.gx[k] (cO C)],?_⟩;rw[aa];refine aQ (T _ ⟨ls.set y.i y.gx[k],bL,by rw[c1];exact r,λj=>?_,u.trans ((bC f).mono (λ_ _ h=>h.elim)|>.trans aV)⟩);by_cases ab:y.i=j
    .subst ab
     right;rw[fE (by rw[c1];omega),iA,LY h p];exact cO C
    .rw[gO,List.getElem?_set_ne ab,←gO]
     exact iE j
  .rintro K ⟨aY,aJ,aW,a0,a2⟩
   rw[ar];exact⟨⟨i+1,aY,rfl,H,aJ,aW,a0,a2⟩,ay⟩
 .obtain⟨ac,I,a3,M,bn⟩:=cQ.clear (P:=ah) (o:=0) g.m mo
  have a4:D.d≠D.mr:=h.a1.2.1;have a5:=g.v.ak M a4;refine⟨_,rfl,some D.mr,g.hU,_,ac,I,_,rfl,(Eo a5 (by rw[show(ba.c {D with bq:=ls}).length=7 from g.yp];decide)).use ?_⟩;rintro _ af ⟨rfl,a6,N,bo⟩;have a8:=h.f4;have a9:cv af {D with bq:=ls,waits:=[],b_:=[-1, -1, -1, -1],r1:=true}:=by
   have bb:aZ ac D.lb (a7 ax ls).toArray 159:=aZ.ak g.l M h.a1.2.2;have bc:aZ af D.lb (a7 ax ls).toArray 159:=aZ.ak bb N λe=>h.a1.1 e.symm;refine⟨?_,bc,a3.ak N λe=>h.a1.2.1 e.symm,λx hx=>(by cases hx),λx hx=>(by cases hx),g.sl,λx hx=>(by cases hx),?_,?_,rfl,λx hx=>?_,h.a1,λx hx=>(by cases hx),λx hx=>(by cases hx),λ_=>rfl⟩
   .have e:({D with bq:=ls,waits:=[],b_:=[-1, -1, -1, -1],r1:=true}:ba).c=List.replicate 4 (.int .i64 (-1))++(ba.c {D with bq:=ls}).drop 4:=by
     unfold ba.c;dsimp only;rw[List.drop_left' (by rw[dn];exact a8)];rfl
    rw[e];exact a6
   .show 16<=ls.length;rw[r];exact h.dN
   .show ls.length<=1600;rw[r];exact am
   .have hx:x∈ [(-1:Int), -1, -1, -1]:=hx
    simp only[cW,fh,ft,or_self]at hx;omega
  refine⟨rfl,rfl,_,a9,⟨rfl,rfl,r,⟨λk=>⟨.inl rfl,.inl rfl⟩,rfl⟩,rfl,iE,λq a=>?_,rfl⟩,?_⟩
  .rcases a with e|e|e|⟨x,hx,e⟩
   .exact .inl e
   .exact .inr (.inl e)
   .exact .inr (.inr (.inl e))
   .cases hx
  .have h1:ad (bI D) w f:=ct (E.mono λ_ _ h=>h.elim) u λq _ e=>by rw[e];exact F
   have h2:=ct h1 M λq _ e=>by rw[e];exact .inr (.inr (.inl rfl))
   exact ct h2 N λq _ e=>by rw[e];exact .inl rfl
theorem L0:iC ah 167:=⟨_,(kZ (show(Tryz.prog.funcs[167]?).isSome=true by kernel_rfl)).symm,by kernel_rfl,by kernel_rfl⟩
theorem L1{w:I}{s:ag}{l:Y UInt8}(hs:Src 1 w s (ax l))(m:l.length<=1000):
   az ah 166 #[s,.func (.func 167) #[] #[]] w (λv w'=>v=.bool (!(l.all λc=>c==0))/\w=w'):=by
 have o:=len8 hs
 refine okF (Z.we s ⟨167,#[],#[]⟩) aj.we func166 ?_
 (delta Z.we bx;dsimp only)
 refine Calls.mono (Z.HG s ⟨167,#[],#[]⟩ w (λv w'=>(∃i:Int,v=i/\(decide (i>=0))= !(l.all λc=>c==0))/\w=w') ?_) ?_
 · (delta Z.tD cR ae bj bX b8 bz an;dsimp only)
   refine⟨λi w'=>∃j:Nat,i=j/\j<=l.length/\w=w'/\∀ (k:Nat) (a:k<l.length),k<j->l[k]=0,λi _=>((l.length:Int)-i).toNat,⟨0,rfl,dd _,rfl,λk a h=>J⟩,?_⟩
   rintro _ _ ⟨j,rfl,p,rfl,d⟩
   refine⟨λaI=>?_,λb=>?_⟩
   · have aI:j<l.length:=by have:=b3 aI;omega
     obtain⟨A,au,hb,f⟩:=hs.at (oh aI)
     refine⟨A,au,hb,_,f,L0,?_⟩
     refine Calls.mono (Z.H3 ((l[j]).toNat:Int) w (λv w'=>v=.bool (((l[j]).toNat:Int) !=0)/\w=w') ⟨rfl,rfl⟩) ?_
     rintro _ _ ⟨_,rfl,rfl,rfl⟩
     refine⟨_,rfl,λe=>⟨⟨j,rfl,?_⟩,rfl⟩,λg=>?_⟩
     · have:(l.all λc=>c==0)=false:=by
         rw[List.all_eq_false]
         refine⟨l[j],cO _,λh=>?_⟩
         have h:=eq_of_beq h
         rw[h]at e
         simp at e
       rw[this]
       exact eB J
     · have h0:l[j]=0:=by
         have:((l[j]).toNat:Int)=0:=by simpa using g
         exact sS.1 (by show(l[j]).toNat=0;omega)
       rw[bW (n:=(j:Int)+1) J J]
       refine⟨⟨j+1,J,J,rfl,λk a h=>?_⟩,?_⟩
       · rcases eP k j with h1|h1
         · exact d k a h1
         · have:k=j:=by omega
           subst this;exact h0
       · show((l.length:Int)-((j:Int)+1)).toNat<((l.length:Int)-(j:Int)).toNat
         omega
   · have b:j=l.length:=by have:=cx b;omega
     subst b
     refine⟨⟨-1,rfl,?_⟩,rfl⟩
     have:(l.all λc=>c==0)=true:=by
       rw[ny]
       intro c hc
       obtain⟨k,a,rfl⟩:=eZ hc
       rw[d k a a];rfl
     rw[this];rfl
 · rintro _ _ ⟨_,rfl,⟨i,rfl,hi⟩,rfl⟩
   exact⟨i,rfl,by rw[hi],rfl⟩
theorem L2{l:Y Int}{i:Nat}{d:Int}(h:i<l.length):l.set i (l.getD i d)=l:=by
 rw[fE h,List.set_getElem_self]
theorem L3{D:ba}(h:D.quiet){k:Nat}(a:k=1\/k=2):D.b_.getD k 0= -1:=by
 have h1:=h.1 ((D.b_.getD k 0).toNat+1);rcases a with rfl|rfl
 .exact h1.1.resolve_right J
 .exact h1.2.resolve_right J
theorem FB{D:ba}(h:D.quiet)(b:D.b_.length=4){k:Nat}(a:k=1\/k=2):D.cF k=D/\D.fU k=false:=by
 have h1:=L3 h a;unfold ba.cF ba.fU;rw[h1];refine⟨?_,rfl⟩;have e:(gK (-1)).2=D.b_.getD k 0:=by rw[h1];rfl
 rw[e,L2 J]
def takeN(u:cN)(g:Nat):al (cN×Nat)->al (cN×Nat)
 |none=>some (u,g)
 |some x=>if g>x.2 then some (u,g) else some x
def gW(n no:Nat)(l:cL)(a:al (cN×Nat)):Except Int (al (cN×Nat)):=
 if (l.all λc=>c==0)=true then .ok a else match g4 (no:Int) l with
 | .error e=>.error e
 | .ok (u,s,g)=>if s≠n then .error 4 else .ok (takeN u g a)
def jQ(n:Nat)(V:Nat->cL):Nat->Except Int (al (cN×Nat))
 |0=>.ok none
 |i+1=>match jQ n V i with
  | .error e=>.error e
  | .ok a=>gW n i (V i) a
theorem FC{n:Nat}{V:Nat->cL}{e:Int}{i:Nat}(h:jQ n V i=.error e):∀k,jQ n V (i+k)=.error e
 |0=>h
 |k+1=>by
  show jQ n V (i+k+1)=_
  unfold jQ
  rw[FC h k]
def FD:al (cN×Nat)->Except Int (cN×Nat)
 |none=>.error 6
 |some x=>.ok x
def kf(n:Nat)(V:Nat->cL):Except Int (cN×Nat):=match jQ n V 2 with
 | .error e=>.error e
 | .ok a=>FD a
def sB:al (cN×Nat)->cN
 |none=>gy
 |some x=>x.1
def sC:al (cN×Nat)->Nat
 |none=>0
 |some x=>x.2
theorem L4{no:Int}{l:cL}{e:Int}(h:g4 no l=.error e):e≠0:=by
 unfold g4 at h;split at h
 .rename_i e' he
  cases h;exact AP he
 .split at h
  .cases h;decide
  .split at h
   .cases h
   .cases h;decide
theorem rm{w:I}{D:ba}(h:cv w D)(j:D.quiet)(aB:D.bu<=1000000000):
 az ah 121 #[.pointer (some D.d)] w (λv w'=>cv w' D/\ad (λq=>q=D.d) w w'/\(match kf D.n D.now with
  | .error e=>e≠0/\∃u:cN,v=.tuple #[.agg u.c.toArray,.int .u64 0,e]
  | .ok (u,g)=>v=.tuple #[.agg u.c.toArray,.int .u64 (g:Nat),(0:Int)])):=by
 have aQ:=h.dN;refine okF (Z.rm (some D.d)) aj.rm func121 ?_;(delta Z.rm fl C8 ae eK kA r1 aa aK b5 db bR aE bn C1 bx an;dsimp only);refine aV (vs:=gy.c) rfl λw1 ab ac aR=>?_;obtain⟨t,aC⟩:∃t,t=w.heap.size:=⟨_,rfl⟩;rw[←aC]at ab⊢;have aD:t≠D.d:=by have:=h.lt (q:=D.d) (.inl rfl);omega
 have ag:=FB j h.f4 (k:=1) (.inl rfl);refine⟨λa6 aF n6 B=>∃ (i:Nat) (a:al (cN×Nat)),n6=(i:Nat)/\i<=2/\a6=(sC a:Nat)/\aF=a.isSome/\jQ D.n D.now i=.ok a/\cv B D/\Var B t (sB a).c 115/\ad (λq=>q=D.d) w B,λ_ _ n6 _=>(2-n6).toNat,⟨0,none,rfl,by decide,rfl,rfl,rfl,h.ext ac,ab,ac.mono λ_ _ h=>h.elim⟩,?_⟩;rintro _ _ _ B ⟨i,a,rfl,hi,rfl,rfl,ai,N,z,C⟩;have aS:=C.size;have A:∀ {w' am:I},ad (λq=>q=D.d) w w'->ad (λq=>q=t) w' am->ad (λq=>q=D.d) w am:=λh1 h2=>ct h1 h2 λq aT e=>by omega
 refine⟨λhb=>?_,λhb=>?_⟩
 .have O:i<2:=by have:(i:Int)<2:=b3 hb;omega
  have aG:IntKind.wrap .i64 ((i:Int)+1)=((i+1:Nat):Int):=by rw[bW J J];omega
  refine Hk (λn b w'=>∃a':al (cN×Nat),n=(sC a':Nat)/\b=a'.isSome/\jQ D.n D.now (i+1)=.ok a'/\cv w' D/\Var w' t (sB a').c 115/\ad (λq=>q=D.d) w w') (λaU P=>(AN N (i:=i) J aB).use ?_) ?_
  .rintro v aH ⟨E,ao,aI⟩
   rw[ag.1]at E;rcases aI with ⟨ap,_⟩|⟨_,s,rfl,Q⟩
   .rw[ag.2]at ap;cases ap
   have aq:=z.ak ao aD;have ar:ad (λq=>q=D.d) w aH:=C.trans ao;have aW:=E.p3 (i:=i) J;have F:jQ D.n D.now (i+1)=gW D.n i (D.now i) a:=by
    unfold jQ;rw[ai]
   have au:∀e,gW D.n i (D.now i) a=.error e->kf D.n D.now=.error e:=λe he=>by
    unfold kf;have:=FC (F.trans he) (1-i);rw[show i+1+(1-i)=2 from J]at this;rw[this]
   refine⟨s,0,rfl,λhx=>(by cases hx),λ_=>(L1 Q.1 J).use ?_⟩;rintro _ _ ⟨rfl,rfl⟩;refine⟨_,rfl,λm=>P _ _ _ ⟨a,rfl,rfl,?_,E,aq,ar⟩,λm=>(ru Q.1 Q.2.1 J (i:Nat)).use ?_⟩
   .rw[F];unfold gW
    rw[if_pos (by simpa using m)]
   have m:¬((D.now i).all λc=>c==0)=true:=by simpa using m
   rintro v R ⟨rfl,S⟩;have av:=E.ext S;have aw:=aq.ext S;have ax:ad (λq=>q=D.d) w R:=ct ar S λq _ h=>h.elim
   cases G:g4 (i:Int) (D.now i) with
   |error e=>
    have he:=L4 G;have y:=au e (by unfold gW;rw[if_neg m,G]);refine⟨_,_,_,_,_,_,_,_,e,rfl,aV (vs:=gy.c) rfl λaJ T U aL=>jL T rfl gy λH ay V _=>⟨λ_=>?_,λhx=>absurd (by simpa using hx) he⟩⟩;have o:Ext R H:=Ext.bO U V (bk _);have p:=aw.ext o;refine gU p (jL p rfl (sB a) λaf l f _=>gU l ⟨(av.ext o).ak f λq j e=>?_,A (ct ax o λq _ h=>h.elim) f,?_⟩)
    .have:=h.lt j;omega
    .rw[y];exact⟨he,_,rfl⟩
   |ok r=>
    obtain⟨u,oI,g⟩:=r;refine⟨_,_,_,_,_,_,_,_,0,rfl,aV (vs:=gy.c) rfl λaJ T U aL=>jL T rfl u λH ay V _=>⟨λhx=>(by cases hx),λ_=>?_⟩⟩;have o:Ext R H:=Ext.bO U V (bk _);have p:=aw.ext o;have K:=av.ext o;have W:ad (λq=>q=D.d) w H:=ct ax o λq _ h=>h.elim;refine(sn K).use ?_;rintro _ _ ⟨rfl,rfl⟩;refine⟨_,rfl,λL=>?_,λX=>?_⟩
    .have L:oI≠D.n:=λe=>by rw[e]at L;simp at L
     have y:=au 4 (by unfold gW;rw[if_neg m,G];dsimp only;rw[if_pos L]);refine gU p (jL p rfl (sB a) λaf l f _=>gU l ⟨K.ak f λq j e=>?_,A W f,?_⟩)
     .have:=h.lt j;omega
     .rw[y];exact⟨by decide,_,rfl⟩
    .have X:oI=D.n:=by
      have:(oI:Int)=(D.n:Int):=by simpa using X
      omega
     have aA:gW D.n i (D.now i) a=.ok (takeN u g a):=by
      unfold gW;rw[if_neg m,G];dsimp only;rw[if_neg (λe=>e X)]
     refine⟨λM=>?_,λM=>?_⟩
     .have aM:jQ D.n D.now (i+1)=.ok (some (u,g)):=by
       rw[F,aA]
       cases a with
       |none=>rfl
       |some x=>
        have:g>x.2:=by
         have:(g:Int)>((sC (some x):Nat):Int):=by simpa using M
         have e:sC (some x)=x.2:=rfl;omega
        show Except.ok (if g>x.2 then _ else _)=_;rw[if_pos this]
      refine gU ay (jL p rfl u λaf l f _=>P _ _ _ ⟨some (u,g),rfl,rfl,aM,K.ak f λq j e=>?_,l,A W f⟩);have:=h.lt j;omega
     .refine P _ _ _ ⟨a,rfl,rfl,?_,K,p,W⟩
      rw[F,aA]
      cases a with
      |none=>cases M
      |some x=>
       have:¬g>x.2:=by
        have:¬(g:Int)>((sC (some x):Nat):Int):=by simpa using M
        have e:sC (some x)=x.2:=rfl;omega
       show Except.ok (if g>x.2 then _ else _)=_;rw[if_neg this]
  .rintro _ _ aX ⟨a',rfl,rfl,h1,h2,aN,aO⟩
   rw[aG];have aP:(2-((i+1:Nat):Int)).toNat<(2-(i:Int)).toNat:=by omega
   exact⟨⟨i+1,a',rfl,O,rfl,rfl,h1,h2,aN,aO⟩,aP⟩
 .have O:i=2:=by have:¬(i:Int)<2:=cx hb;omega
  subst O;have y:kf D.n D.now=FD a:=by unfold kf;rw[ai]
  refine⟨λY=>gU z (jL z rfl (sB a) λaf l f _=>gU l ⟨N.ak f λq j e=>?_,A C f,?_⟩),λY=>gU z (jL z rfl (sB a) λaf l f _=>gU l ⟨N.ak f λq j e=>?_,A C f,?_⟩)⟩
  .have:=h.lt j;omega
  .rw[y]
   cases a with
   |none=>exact⟨by decide,_,rfl⟩
   |some x=>cases Y
  .have:=h.lt j;omega
  .rw[y]
   cases a with
   |none=>cases Y
   |some x=>rfl
theorem L5{no:Int}{l:Y UInt8}{p:iJ}(h:dA no l=.ok p):l.getD 4 0=1:=by
 by_cases e:l.getD 4 0=1
 .exact e
 .exfalso
  unfold dA at h;split at h
  .cases h
  .split at h
   .cases h
   .first|(rw[if_pos e]at h;cases h)|cases h
theorem L6{no:Int}{l:Y UInt8}{p:iJ}(h:dA no l=.ok p):¬(l.all λc=>c==0)=true:=λa=>by
 have h1:=L5 h
 rw[ny]at a
 rw[gO]at h1
 cases hg:l[4]? with
 |none=>rw[hg]at h1;cases h1
 |some c=>
  rw[hg]at h1
  have:=a c (List.mem_of_getElem? hg)
  have h1:c=1:=h1
  rw[h1]at this;cases this
theorem Bl{no:Int}{l:Y UInt8}{r:cN×Nat×Nat}(h:g4 no l=.ok r):∃p,dA no l=.ok p:=by
 unfold g4 at h
 cases a:dA no l with
 |error e=>rw[a]at h;cases h
 |ok p=>exact⟨p,rfl⟩
theorem uL{n no:Nat}{l:cL}{a:al (cN×Nat)}{u:cN}{g:Nat}(h:g4 (no:Int) l=.ok (u,n,g)):gW n no l a=.ok (takeN u g a):=by
 obtain⟨p,b⟩:=Bl h;unfold gW;rw[if_neg (L6 b),h];dsimp only;rw[if_neg (λe=>e rfl)]
theorem FE{n no:Nat}{a:al (cN×Nat)}:gW n no gL a=.ok a:=by
 unfold gW;rw[if_pos (by unfold gL;rw[List.all_replicate];rfl)]
section
variable {V:Nat->cL}{n gen:Nat}{u:cN}{g:Nat->ai}{P:Nat->al bo}{p:Y Nat}{L:Y cq}
theorem iv.kf(h:iv V n gen u g P p L):kf n V=.ok (u,gen):=by
 have h2:jQ n V 2=.ok (some (u,gen)):=by
  have e:jQ n V 2=(match gW n 0 (V 0) none with| .error e=>.error e| .ok a=>gW n 1 (V 1) a):=rfl;rw[e];have b:=h.yI;have c:=h.Bf;rcases Nat.mod_two_eq_zero_or_one gen with h0|h0
  .rw[h0]at b c
   rw[uL b];show gW n 1 (V 1) (some (u,gen))=_;rcases c with d|⟨f,g',h1,h2⟩
   .rw[show V 1=gL from d,FE]
   .rw[uL (no:=1) h1]
    show Except.ok (if g'>gen then _ else _)=_;rw[if_neg J]
  .rw[h0]at b c
   rcases c with d|⟨f,g',h1,h2⟩
   .rw[show V 0=gL from d,FE]
    exact uL b
   .rw[uL (no:=0) h1]
    show gW n 1 (V 1) (some (f,g'))=_;rw[uL b];show Except.ok (if gen>g' then _ else _)=_;rw[if_pos h2]
 unfold Go.Proofs.YtcfodkffcmfcaaaGreat.kf;rw[h2];rfl
end
theorem FF{g:Nat->ai}{n:Nat}(hg:∀i,n<=i->g i=false):bitsOf ((fN g ((n+7)/8)).map λc=>(c.toNat:Int))=g:=by
 funext i;unfold bitsOf;by_cases hi:i/8<(n+7)/8
 .rw[gO,nE]
  have e:(fN g ((n+7)/8))[i/8]? =some (UInt8.ofNat (byteOf g (i/8))):=by
   unfold fN;rw[nE,List.getElem?_range hi];rfl
  rw[e];have hb:=kH g (i/8);show((((UInt8.ofNat (byteOf g (i/8))).toNat:Nat):Int).toNat).testBit (i%8)=g i;rw[UInt8.toNat_ofNat',hK hb,dW,oy _ _ _ (gq _ (by decide)),Ew]
 .have:(fN g ((n+7)/8)).length<=i/8:=by rw[qf];omega
  rw[gO,lB (by rw[dn];exact this),hg i J];show Nat.testBit (Int.toNat 0) _=false;simp
theorem L7{g:Nat->ai}{n:Nat}(hg:∀i,n<=i->g i=false):qa ((fN g ((n+7)/8)).map λc=>(c.toNat:Int)) n:=
 ⟨by rw[dn,qf],λi hi=>by rw[FF hg];exact hg i hi⟩
theorem rn{w:I}{D:ba}{no:Nat}{g:Nat->ai}(h:cv w D)(N:D.quiet)(O:D.bu<=1000000000)(A:no<D.n)(hg:∀i,D.n<=i->g i=false)
 (hc:(∃gd,dA ((no:Nat):Int) (D.now no)=.ok ⟨4,gd,fN g ((D.n+7)/8)⟩)\/∃e,dA ((no:Nat):Int) (D.now no)=.error e):
 az ah 122 #[.pointer (some ⟨D.d,0,none⟩),.int .i64 (no:Nat)] w (λv w'=>cv w' D/\ad (λq=>q=D.d) w w'/\
  ((∃sb s1 s2,v=.tuple #[.pointer (some ⟨sb,0,none⟩),.int .i64 0]/\(∃gd,dA ((no:Nat):Int) (D.now no)=.ok ⟨4,gd,fN g ((D.n+7)/8)⟩)/\eW w' sb D.n g g s1 s2/\∀k,ga sb s1 s2 k->w.heap.size<=k)\/
   (∃e:Int,v=.tuple #[.pointer none,.int .i64 e]/\e≠0/\∃e',dA ((no:Nat):Int) (D.now no)=.error e'))):=by
 refine okF (Z.rn (some ⟨D.d,0,none⟩) (no:Nat)) aj.rn func122 ?_;(delta Z.rn eK ae qX n0 bR aa aE r1 bE g1 fz a_ bx e0;dsimp only);have ac:=h.bF;have B:=FB N h.f4 (k:=1) (.inl rfl);refine(AN h A O).use ?_;rintro v w1 ⟨l,P,m⟩;rw[B.1]at l;rcases m with ⟨C,_⟩|⟨_,s,rfl,E⟩
 .rw[B.2]at C;cases C
 have af:=l.p3 A;refine⟨s,0,rfl,λhx=>(by cases hx),λ_=>(oe E.1 E.2.1 J _).use ?_⟩;rintro v aC ⟨b,F⟩;have G:=l.ext F;have o:ad (λq=>q=D.d) w aC:=ct P F λq _ h=>h.elim;rcases hc with ⟨gd,a⟩|⟨e,a⟩
 .rw[a]at b
  obtain⟨p,rfl,Q,ag⟩:=b;refine⟨4,gd,p,0,rfl,aV (vs:=[.int .i64 0,.int .u64 0,.slice none 0 0]) rfl λR r t S=>yD 4 gd p r rfl λaR u y T=>⟨λhx=>(by cases hx),λ_=>⟨4,u.cell,λhx=>(by cases hx),λ_=>aQ ?_⟩⟩⟩;have f:Ext aC aR:=Ext.bO t y (bk _);have H:Ext aR aR.drew:=bC _;have U:=u.ext H;have j:=Ext.trans f H;have K:=G.ext j;refine⟨λ_=>False,id,p,by rw[av];exact U.cell,(sn K).use ?_⟩;rintro _ _ ⟨rfl,rfl⟩;have V:=Q.ext j;have hu:ax (fN g ((D.n+7)/8))=((fN g ((D.n+7)/8)).map λc=>((c.toNat:Nat):Int)).map (.int .u8):=by unfold ax;rw[gF];rfl
  have L:=V.src;rw[show(⟨4,gd,fN g ((D.n+7)/8)⟩:iJ).body=fN g ((D.n+7)/8) from rfl,hu]at L;refine⟨_,rfl,ad.refl _ _,(rv L (λx hx=>?_) (by rw[dn,qf];omega) (D.n:Nat)).use ?_⟩
  .obtain⟨c,_,rfl⟩:=dj.1 hx
   have:=c.toNat_lt;omega
  rintro v W ⟨M,m⟩;have X:=K.ext M;have Y:ad (λq=>q=D.d) w W:=ct o (Ext.trans j M) λq _ h=>h.elim;have ak:=h.dN;rcases m with ⟨z,_⟩|⟨_,_,z,_⟩|⟨_,_,_,sb,s1,s2,rfl,gY,hf⟩
  .exact absurd ⟨J,J⟩ z
  .exact absurd (by rw[dW];exact L7 hg) z
  .rw[FF hg,dW]at gY
   refine⟨_,0,rfl,X,Y,.inl ⟨sb,s1,s2,rfl,⟨gd,a⟩,gY,λk ab=>?_⟩⟩;have:=hf k ab;have:=o.size;have:=j.size;omega
 .rw[a]at b
  obtain rfl:=b;have he:=AP a;refine⟨0,0,⟨none,0,0⟩,e,rfl,aV (vs:=[.int .i64 0,.int .u64 0,.slice none 0 0]) rfl λR r t S=>yD 0 0 ⟨none,0,0⟩ r rfl λaR u y T=>⟨λ_=>?_,λhx=>absurd (by simpa using hx) he⟩⟩;have f:Ext aC aR:=Ext.bO t y (bk _);exact⟨G.ext f,ct o f λq _ h=>h.elim,.inr ⟨e,rfl,he,e,a⟩⟩
section
variable {w w':I}{D:ba}{V:Nat->cL}{gen:Nat}{u:cN}{g:Nat->ai}{P:Nat->al bo}{a8:Y Nat}{bQ:Y cq}
def uM(D:ba)(j:Nat):Prop:=¬((D.now j).all λc=>c==0)=true/\∃e,dA (j:Int) (D.now j)=.error e
theorem L8(h:iv V D.n gen u g P a8 bQ)(dr:∀j,g j=true->D.now j=V j\/uM D j):(D.now 0=V 0/\D.now 1=V 1/\kf D.n D.now=.ok (u,gen))\/((∃j,g j=true/\uM D j)/\∃e,kf D.n D.now=.error e):=by
 have iV:g 0=true:=(h.g 0).2 (.inr (.inl (by decide)));have aJ:g 1=true:=(h.g 1).2 (.inr (.inl (by decide)));have bad:∀ (j:Nat) (a:al (cN×Nat)),uM D j->∃e,gW D.n j (D.now j) a=.error e:=λj a ⟨h1,e,h2⟩=>by
  unfold gW;rw[if_neg h1];unfold g4;rw[h2];exact⟨e,rfl⟩
 have aU:jQ D.n D.now 2=(match gW D.n 0 (D.now 0) none with| .error e=>.error e| .ok a=>gW D.n 1 (D.now 1) a):=rfl;rcases dr 0 iV with h0|h0
 .rcases dr 1 aJ with h1|h1
  .refine .inl ⟨h0,h1,?_⟩
   have:=h.kf;unfold kf at this⊢;have b:jQ D.n V 2=(match gW D.n 0 (V 0) none with| .error e=>.error e| .ok a=>gW D.n 1 (V 1) a):=rfl;rw[aU,h0,h1,←b];exact this
  .right
   refine⟨⟨1,aJ,h1⟩,?_⟩;unfold kf;rw[aU]
   cases hs:gW D.n 0 (D.now 0) none with
   |error e=>exact⟨e,rfl⟩
   |ok a=>
    obtain⟨e,he⟩:=bad 1 a h1;dsimp only;rw[he];exact⟨e,rfl⟩
 .right
  refine⟨⟨0,iV,h0⟩,?_⟩;obtain⟨e,he⟩:=bad 0 none h0;unfold kf;rw[aU,he];exact⟨e,rfl⟩
theorem FG{c aN k:Nat}{a:Nat->Prop}(h:dQ (λ_=>False) w (iW c aN k D))(d:∀q,a q->q<w.heap.size/\¬c3 (iW c aN k D) q):dQ a w (iW c aN k D):=
 ⟨h.raw,h.inv.pins,λf hf b=>(by
  have:=(List.mem_replicate.1 (show f∈List.replicate k dE from hf)).2
  rw[this]at b
  cases b),h.inv.un,d,h.inv.oA⟩
theorem rf{l:dM}{b2:Nat->Prop}(h:cv w D)(o:D.quiet)(b1:D.bu<=800000000)(aI:∀j,g j=true->D.eu j=[])(O:hY (l.aq:Nat) (l.batch:Nat) (l.fC:Nat))(a:iv V D.n gen u g P a8 bQ)(dr:∀j,g j=true->D.now j=V j\/uM D j)(hs:D.b6=g)(aJ:D.eN=λ_=> [])(b3:gen<=1000000000)(a_:bQ.length<=4000)(ba:a8.length<=4000)(aL:∀q,b2 q->q<w.heap.size/\¬bI D q):
 az ah 64 #[.pointer (some ⟨D.d,0,none⟩),.agg l.c.toArray] w (λv w'=>ad (bI D) w w'/\
  ((∃S:b7,v=.tuple #[.pointer (some ⟨S.st,0,none⟩),.int .i64 0]/\dR w' S a8 bQ a8 bQ/\S.failed=false/\S.u=u/\S.gen=gen/\S.now=u.clock/\S.pending=0/\S.l=l/\S.T.C.D.d=D.d/\S.T.n=D.n/\S.T.C.D.quiet/\S.T.C.D.bu<=D.bu+9000/\(∀q,S.T.M q->bI D q\/b2 q\/w.heap.size<=q)/\(∀q,S.T.E q↔q=S.st\/b2 q)/\w.heap.size<=S.st/\S.T.C.D.r1=D.r1)\/
   (∃e:Int,v=.tuple #[.pointer none,.int .i64 e]/\e≠0/\∃j,g j=true/\uM D j))):=by
 refine okF (Z.rf (some ⟨D.d,0,none⟩) (l.aq:Nat) (l.batch:Nat) (l.fC:Nat)) aj.rf func64 ?_;(delta Z.rf aE r1 aa aK b5 db bn ae CZ fl bR e0 bx;dsimp only);have b4:=h.dN;have b8:=h.bF;have H:=a.yJ;have Y:g u.map=true:=(a.g _).2 (.inr (.inr rfl));refine aV (vs:=l.c) rfl λw1 ab aM b9=>⟨_,ab.cell,_,by rw[av];exact ab.cell,_,by rw[av];exact ab.cell,(n2 w1 _ _ _ _).use ?_⟩;rintro _ aC ⟨rfl,aO⟩;refine⟨_,rfl,λhb=>?_,λ_=>?_⟩
 .rw[eB O]at hb;cases hb
 have am:=aM.trans aO;have bb:=h.ext am;have bc:=ab.ext aO;refine(rm bb o J).use ?_;rintro v aF ⟨bd,an,I⟩;have b_:=am.size;have cb:=an.size;have cc:=aM.size;have ac:∀q,q=D.d->bI D q:=λq e=>.inl e;have aP:ad (bI D) w aF:=ct (am.mono λ_ _ h=>h.elim) an λq _ e=>ac q e;have be:=bc.ak an λe=>by have:=h.lt (q:=D.d) (.inl rfl);omega
 rcases L8 a dr with ⟨bi,bj,ao⟩|⟨bm,e,ao⟩
 rotate_left
 .rw[ao]at I
  obtain⟨he,bp,rfl⟩:=I;refine⟨_,_,_,_,_,_,0,e,rfl,aV (vs:=gy.c) rfl λbl ap ar br=>jL ap rfl bp λaf au aw _=>⟨λ_=>?_,λhx=>absurd (by simpa using hx) he⟩⟩;have Q:Ext aF af:=Ext.bO ar aw (bk _);exact⟨ct aP Q λq _ h=>h.elim,.inr ⟨e,rfl,he,bm⟩⟩
 rw[ao]at I;obtain rfl:=I;refine⟨_,_,_,_,_,_,_,0,rfl,aV (vs:=gy.c) rfl λbl ap ar br=>jL ap rfl u λaf au aw _=>⟨λhx=>(by cases hx),λ_=>⟨_,by rw[av];exact au.cell,?_⟩⟩⟩;have Q:Ext aF af:=Ext.bO ar aw (bk _);have bs:=bd.ext Q;have bt:=be.ext Q;have aQ:∀i,D.n<=i->g i=false:=λi hi=>by
  cases hg:g i with
  |false=>rfl
  |true=>
   rcases(a.g i).1 hg with h1|h1|h1
   .have:=(a.two i h1).2.2;omega
   .omega
   .have:=H.2.2.2.1;omega
 have aR:=a.mp;have bv:(∃gd,dA ((u.map:Nat):Int) (D.now u.map)=.ok ⟨4,gd,fN g ((D.n+7)/8)⟩)\/∃e,dA ((u.map:Nat):Int) (D.now u.map)=.error e:=by
  rcases dr u.map Y with h1|h1
  .obtain⟨gd,_,h2⟩:=aR
   exact .inl ⟨gd,by rw[h1];exact h2⟩
  .exact .inr h1.2
 refine(rn bs o J H.2.2.2.1 aQ bv).use ?_;rintro v aS ⟨bw,ag,I⟩;have cd:=Q.size;have bz:ad (bI D) w af:=ct aP Q λq _ h=>h.elim;have aT:ad (bI D) w aS:=ct bz ag λq _ e=>ac q e;rcases I with ⟨sb,s1,s2,rfl,⟨gd,bA⟩,gY,bB⟩|⟨e,rfl,he,e',aW⟩
 rotate_left
 .refine⟨none,e,rfl,λ_=>⟨aT,.inr ⟨e,rfl,he,u.map,Y,?_⟩⟩,λhx=>absurd (by simpa using hx) he⟩
  rcases dr u.map Y with h1|h1
  .obtain⟨gd,_,h2⟩:=aR
   rw[h1,h2]at aW;cases aW
  .exact h1
 have aX:∀q,w.heap.size<=q->¬bI D q:=λq o hf=>by have:=h.lt hf;omega
 have ax:=bt.ak ag λe=>aX _ (bk _) (ac _ e);have aY:=au.ak ag λe=>aX _ J (ac _ e);have bC:D.now u.map=V u.map:=by
  rcases dr u.map Y with h1|⟨_,e,h1⟩
  .exact h1
  .rw[bA]at h1;cases h1
 refine⟨_,0,rfl,λhx=>(by cases hx),λ_=>⟨_,ax.cell,_,by rw[av];exact ax.cell,_,by rw[av];exact ax.cell,gU aY ?_⟩⟩;have bD:=n4 bw (l:=l) (u:=u) (gen:=gen) ⟨by have:=O.1;omega,by have:=O.2.1;omega⟩ ⟨J,by have:=H.2.1;omega,J,by have:=H.2.2.1;omega,by have:=H.1;omega⟩ J (λj F=>by rw[aJ,aI j (by rw[←hs];exact F)]) sb;refine bD.use ?_;rintro _ R ⟨c,aN,bh,st,B⟩;have bE:=B.val;subst bE;refine⟨_,0,rfl,λhx=>(by cases hx),λ_=>⟨_,by rw[av];exact(aY.ext B.x).cell,?_⟩⟩;have ce:=ag.size;have cf:=B.x.size;have cg:=B.sv.lt;have ch:=B.hc;have ci:=B.hf;have cj:=B.ht;obtain⟨P',ai⟩:∃P':Nat->al bo,P'=λno=>if no∈a8 then (if D.now no=V no then P no else none) else none:=⟨_,rfl⟩
 obtain⟨T,b⟩:∃T:bf,T=⟨bh,gen+1,u.root,u.bg,iW c aN l.aq D,sb,D.n,g,g,s1,s2,λq=>q=st\/b2 q,λ_=>False,P'⟩:=⟨_,rfl⟩;have U:∀q,c3 (iW c aN l.aq D) q->q=c\/q=aN\/bI D q:=λq h=>h;have W:∀q,ga sb s1 s2 q->w.heap.size<=q/\q<aS.heap.size:=λq o=>⟨by have:=bB q o;omega,gY.lt q o⟩;have bG:∀q,T.X q->q=bh\/ga sb s1 s2 q\/q=st\/b2 q:=λq o=>by
  rw[b]at o;rcases o with h1|h1|h1|h1
  .exact .inl h1
  .exact .inr (.inl h1)
  .exact .inr (.inr h1)
  .exact h1.elim
 have aA:∀q,bI D q->q<w.heap.size:=λq o=>h.lt o;have aZ:ck R T:=by
  have a0:dQ T.X R (iW c aN l.aq D):=FG B.ca λq o=>by
   rcases bG q o with h1|h1|h1|h1
   .refine⟨J,λhf=>?_⟩
    rcases U q hf with h2|h2|h2
    .omega
    .omega
    .have:=aA q h2;omega
   .have z:=W q h1
    refine⟨J,λhf=>?_⟩;rcases U q hf with h2|h2|h2
    .omega
    .omega
    .have:=aA q h2;omega
   .refine⟨J,λhf=>?_⟩
    rcases U q hf with h2|h2|h2
    .omega
    .omega
    .have:=aA q h2;omega
   .have z:=aL q h1
    refine⟨J,λhf=>?_⟩;rcases U q hf with h2|h2|h2
    .omega
    .omega
    .exact z.2 h2
  rw[b]at a0⊢;refine⟨B.im,gY.ext B.x,a0,λhf=>by have:=W bh hf;omega,λq o=>?_,λq o=>o.elim,rfl,⟨H.2.2.1,H.2.1,by show gen+1<_;omega⟩,λno bZ A=>?_,λj F=>.inl (by rw[←hs];exact F),⟨(a.g 0).2 (.inr (.inl (by decide))),(a.g 1).2 (.inr (.inl (by decide)))⟩⟩
  .have o:q=st\/b2 q:=o
   rcases o with h1|h1
   .exact⟨by show q≠bh;omega,λhf=>by have:=W q hf;omega,λh=>h⟩
   .have z:=aL q h1
    exact⟨by show q≠bh;omega,λhf=>by have:=W q hf;omega,λh=>h⟩
  .have A:P' no=some bZ:=A
   rw[ai]at A;dsimp only at A;by_cases h1:no∈a8
   .rw[if_pos h1]at A
    by_cases h2:D.now no=V no
    .rw[if_pos h2]at A
     refine⟨(a.two no h1).2.2,?_⟩;show hX (gen+1) bZ.leaf no ((iW c aN l.aq D).view no) bZ;rw[A3,h2];exact(a.gb no h1 bZ A).mono J
    .rw[if_neg h2]at A;cases A
   .rw[if_neg h1]at A;cases A
 obtain⟨S,y⟩:∃S:b7,S=⟨st,T,l,u,gen,u.clock,0,0,u.keys,false⟩:=⟨_,rfl⟩;have aB:Var R S.st S.cells 197:=by
  rw[y];show Var R st (iY T.bh T.C.D.d T.C.c T.sb _ _ _ _ _ _ _ _) _;rw[b];exact B.sv
 have eV:S.T=T:=by rw[y]
 have aD:S.u=u:=by rw[y]
 have bH:g5 (T.dL T.C P) a8 bQ:=by
  rw[b];exact a.ok
 have a4:=LN (S:=S) (gf:=P) (pages:=a8) (L:=bQ) (m:=((u.keys:Nat):Int)) aB (by rw[eV];exact aZ) (by rw[y,b];exact .inl rfl) (by rw[eV];exact bH) (λx hx bZ A=>?_) a.bZ (λno=>by rw[eV,aD,b];exact a.g no) (λx hx=>by rw[aD];exact⟨(a.two x hx).1,(a.two x hx).2.1⟩) (by rw[eV,aD,b];exact⟨H.2.2.2.2.1,H.2.2.2.1⟩) a_ ba (by rw[eV,b];show D.bu<=_;omega)
 rotate_left
 .rw[eV,b]
  rcases dr x ((a.g x).2 (.inl hx)) with h1|h1
  .left
   show P' x=some bZ;rw[ai];dsimp only;rw[if_pos hx,if_pos h1];exact A
  .right
   obtain⟨_,e,h2⟩:=h1;exact⟨⟨(a.two x hx).2.2,(a.two x hx).1⟩,e,by show dA _ ((iW c aN l.aq D).view x)=_;rw[A3];exact h2⟩
 rw[show S.st=st by rw[y]]at a4;refine a4.use ?_;rintro v bJ ⟨ay,bK,G,a5,I⟩;rw[eV]at G a5 I;have bL:ad (bI D) w R:=ct aT B.x λq _ h=>h.elim;have bM:∀q,T.N q->bI D q\/w.heap.size<=q:=λq o=>by
  rw[b]at o;rcases o with h1|h1|h1|h1
  .rcases U q h1 with h2|h2|h2
   .exact .inr J
   .exact .inr J
   .exact .inl h2
  .have h1:q=bh:=h1
   exact .inr J
  .exact .inr (W q h1).1
  .exact h1.elim
 have a6:ad (bI D) w bJ:=ct bL G.to.ak λq cl o=>(bM q o).resolve_right J;rcases I with ⟨rfl,cm,bN⟩|⟨e,rfl,he,bP⟩
 .refine⟨0,rfl,λhx=>(by cases hx),λ_=>⟨a6,.inl ?_⟩⟩
  have a7:∀x∈a8,D.now x=V x:=λx hx=>by
   rcases dr x ((a.g x).2 (.inl hx)) with h1|⟨_,e,h1⟩
   .exact h1
   .exfalso
    have K:=bN x hx;rw[b]at K;have K:P' x=P x:=K;have aG:∃bZ,P x=some bZ:=by
     rcases a.ok with ⟨_,_,h2,_⟩|h2
     .rw[h2]at hx;cases hx
     .exact h2.node _ x hx
    obtain⟨bZ,dJ⟩:=aG;rw[dJ,ai]at K;dsimp only at K;rw[if_pos hx]at K;by_cases h2:D.now x=V x
    .obtain⟨p,z,_⟩:=a.gb x hx bZ dJ
     rw[h2,z]at h1;cases h1
    .rw[if_neg h2]at K;cases K
  have bS:∀j,g j=true->D.bq.getD j []=V j:=λj F=>by
   have bT:D.now j=D.bq.getD j []:=by rw[yq D (λx hx=>(h.wn x hx).1),if_pos (aI j F)]
   rw[←bT];rcases(a.g j).1 F with h1|h1|h1
   .exact a7 j h1
   .rcases eP j 1 with h2|h2
    .rw[show j=0 from J];exact bi
    .rw[show j=1 from J];exact bj
   .rw[h1];exact bC
  have bU:∀x∈a8,P x=P' x:=λx hx=>by rw[ai];dsimp only;rw[if_pos hx,if_pos (a7 x hx)]
  have bV:dR R S a8 bQ a8 bQ:=by
   have hd:=a.agree bS bU;rw[y];refine⟨⟨by rw[y]at aB;exact aB,aZ,by rw[b];exact .inl rfl,by rw[b];exact hd,by rw[b],⟨a.Fp.clock,dd _,a.Fq,by show gen+2<_;omega,?_,?_,?_⟩,λj F=>?_⟩,?_,a.bZ,by rw[b];exact a.g,λx hx=>⟨(a.two x hx).1,(a.two x hx).2.1⟩,a.kv,a.keys,dd _,λ_=>⟨?_,by rw[b];exact aJ,?_⟩,λhf=>(by cases hf)⟩
   .have:=O.2.2.2.1;show l.batch<=1000;omega
   .have:=O.2.2.2.2.2;show l.fC<=1048576;omega
   .have:=O.2.2.1;show 1<=l.batch;omega
   .have F:T.g j=true:=F
    show T.C.D.b6 j=true;rw[b]at F⊢;show D.b6 j=true;rw[hs];exact F
   .have h1:=hd.ok
    rw[b];exact h1
   .intro e
    have h1:=e D.n;have h2:T.C.D.b6=g:=by rw[b];exact hs
    have h1:T.C.D.b6 D.n=true:=h1;rw[h2,aQ D.n (bk _)]at h1;cases h1
   .obtain⟨j,bW,bX⟩:=a.fr
    have h1:=uD (s:=λi=>g i||g i) (t:=c9 (λi=>g i||g i) j true) (k:=j) (by simp[bX]) (by simp[c9]) (λi hi=>by simp[c9,hi]) (n:=D.n) bW;have h2:=m9 (c9 (λi=>g i||g i) j true) D.n;have z:cS T=D.n-eO (λi=>g i||g i) D.n:=by rw[b];rfl
    show 1<=cS T;omega
  obtain⟨a1,a2,a3⟩:=bV.to bK (by rw[eV];exact G.to) (by rw[eV];exact G.E) (by rw[eV];exact a5) ⟨by rw[eV];exact G.root,by rw[eV];exact G.bg,by rw[eV];exact G.f,λno _=>by rw[eV];exact⟨congrFun G.P no,G.view no⟩⟩;have bY:S.T.C.D.quiet:=by rw[eV,b];exact o
  refine⟨S.kO ay,by rw[show(S.kO ay).st=st by rw[y];rfl],a1,by rw[y];rfl,by rw[y];rfl,by rw[y];rfl,by rw[y];rfl,by rw[y];rfl,by rw[y];rfl,?_,?_,a2.q bY,?_,λq hm=>?_,λq=>?_,?_,?_⟩
  .rw[a2.d,eV,b];rfl
  .rw[a2.n,eV,b]
  .have h1:=a2.bu
   have h2:S.T.C.D.bu=D.bu:=by rw[eV,b];rfl
   omega
  .have h1:=G.to.cV q hm
   rcases h1 with h1|h1
   .rw[b]at h1
    rcases h1 with h1|h1|h1|h1|h1
    .rcases U q h1 with h2|h2|h2
     .exact .inr (.inr J)
     .exact .inr (.inr J)
     .exact .inl h2
    .have h1:q=bh:=h1
     exact .inr (.inr J)
    .exact .inr (.inr (W q h1).1)
    .have h1:q=st\/b2 q:=h1
     rcases h1 with h1|h1
     .exact .inr (.inr J)
     .exact .inr (.inl h1)
    .exact h1.elim
   .exact .inr (.inr J)
  .show ay.E q↔q=(S.kO ay).st\/b2 q
   rw[G.E,b,y];rfl
  .show w.heap.size<=S.st
   rw[y];show w.heap.size<=st;omega
  .rw[a2.r,eV,b];rfl
 .refine⟨e,rfl,λ_=>⟨a6,.inr ⟨e,rfl,he,?_⟩⟩,λhx=>absurd (by simpa using hx) he⟩
  rcases bP with h1|⟨x,hx,h1⟩|h1
  .rw[b]at h1
   exact absurd (o.1 _) h1
  .have a9:=(a.g x).2 (.inl hx)
   refine⟨x,a9,?_⟩;rcases dr x a9 with h2|h2
   .exfalso
    obtain⟨_,aU,z⟩:=h1;rw[b]at z;have z:dA ((x:Nat):Int) ((iW c aN l.aq D).view x)=.error aU:=z;rw[A3,h2]at z;have aG:∃bZ,P x=some bZ:=by
     rcases a.ok with ⟨_,_,aH,_⟩|aH
     .rw[aH]at hx;cases hx
     .exact aH.node _ x hx
    obtain⟨bZ,dJ⟩:=aG;obtain⟨p,b0,_⟩:=a.gb x hx bZ dJ;rw[b0]at z;cases z
   .exact h2
  .exact absurd (by rw[a.keys]) h1
end
structure Bm(D:ba)(l:dM)(b2:Nat->Prop)(k:Nat)(w w':I)(S:b7):Prop where
 live:S.failed=false
 nj:S.pending=0
 now:S.now=S.u.clock
 l:S.l=l
 d:S.T.C.D.d=D.d
 n:S.T.n=D.n
 q:S.T.C.D.quiet
 bu:S.T.C.D.bu<=D.bu+k
 M:∀q,S.T.M q->bI D q\/b2 q\/w.heap.size<=q
 E:∀q,S.T.E q↔q=S.st\/b2 q
 st:w.heap.size<=S.st
 r:S.T.C.D.r1=D.r1
 ak:ad (bI D) w w'
section
variable {w w':I}{D:ba}{b2:Nat->Prop}
theorem L9{l:dM}(h:cv w D)(y:hY (l.aq:Nat) (l.batch:Nat) (l.fC:Nat))(M:∀k,D.calm k)(sm:D.b_.getD 3 0= -1)(N:D.bu<=999999000)(z:∀q,b2 q->q<w.heap.size/\¬bI D q):
 az ah 16 #[.pointer (some D.d),.agg l.c.toArray] w (λv w'=>∃S:b7,v=.tuple #[.pointer (some S.st),(0:Int)]/\dR w' S [] [] [] []/\Bm D l b2 4 w w' S/\S.u=kN/\S.gen=1):=by
 have Z:=h.dN;have O:=h.bF;refine(me h y M sm N).mono ?_;rintro v w' ⟨aL,sb,s1,s2,c,aN,bh,st,kF,R⟩;obtain rfl:=R.Fm.val;have hd:=R.sa;have B:=R.Fm;have aa:=R.ak.size;have ab:=B.x.size;have ac:=B.hc;have ad:=B.hf;have ae:=B.ht;have af:=B.sv.lt;have E:∀j,aL.bq.getD j []=aL.now j:=λj=>by unfold ba.now;rw[hd.waits];rfl
 have m:∀q,c3 (iW c aN l.aq aL) q->q=c\/q=aN\/bI aL q:=λq h=>h;have G:∀q,bI aL q->q<kF.heap.size:=λq b=>by
  rcases R.dq q b with h1|h1
  .have:=h.lt h1;omega
  .omega
 have P:aL.quiet:=⟨hd.calm,hd.b_⟩;obtain⟨T,a⟩:∃T:bf,T=⟨bh,1+1,0,0,iW c aN l.aq aL,sb,D.n,λi=>decide (i<3),λi=>decide (i<3),s1,s2,λq=>q=st\/b2 q,λ_=>False,λ_=>none⟩:=⟨_,rfl⟩;have Q:∀q,b2 q->q<w.heap.size/\¬bI aL q:=λq b=>⟨(z q b).1,λhf=>by
  rcases R.dq q hf with h1|h1
  .exact(z q b).2 h1
  .have:=(z q b).1;omega⟩
 have U:ck w' T:=by
  have H:dQ T.X w' (iW c aN l.aq aL):=FG B.ca λq b=>by
   rw[a]at b;rcases b with h1|h1|h1|h1
   .have h1:q=bh:=h1
    refine⟨J,λhf=>?_⟩;rcases m q hf with h2|h2|h2
    .omega
    .omega
    .have:=G q h2;omega
   .have A:=R.uI q h1
    refine⟨J,λhf=>?_⟩;rcases m q hf with h2|h2|h2
    .omega
    .omega
    .have ag:=B.ca.raw.dev
     exact R.c0 q h1 h2
   .rcases(show q=st\/b2 q from h1) with h1|h1
    .refine⟨J,λhf=>?_⟩
     rcases m q hf with h2|h2|h2
     .omega
     .omega
     .have:=G q h2;omega
    .have A:=Q q h1
     refine⟨J,λhf=>?_⟩;rcases m q hf with h2|h2|h2
     .omega
     .omega
     .exact A.2 h2
   .exact h1.elim
  rw[a]at H⊢;refine⟨B.im,R.sp,H,λhf=>by have:=R.uI bh hf;omega,λq b=>?_,λq b=>b.elim,hd.n,⟨by show 0<D.n;omega,(by decide:0<=12),(by decide:1+1<18446744073709551616)⟩,λno bZ F=>(by cases F),λj f=>.inl ?_,⟨rfl,rfl⟩⟩
  .rcases(show q=st\/b2 q from b) with h1|h1
   .exact⟨by show q≠bh;omega,λhf=>by have:=R.uI q hf;omega,λh=>h⟩
   .have A:=z q h1
    exact⟨by show q≠bh;omega,λhf=>by have:=R.uI q hf;omega,λh=>h⟩
  .have f:aL.b6 j=true:=f
   rw[hd.b6]at f;exact f
 have I:kG kN D.n:=⟨Iff.intro (λ_=>rfl) (λ_=>rfl),by decide,by show 0<D.n;omega,by show 2<D.n;omega,by decide,O⟩;have K:ox kN:=⟨by decide,by decide,by decide,by decide,by decide,by decide⟩;have L:iv (λj=>aL.bq.getD j []) D.n 1 kN (λi=>decide (i<3)) (λ_=>none) [] []:=by
  refine⟨⟨3,J,rfl⟩,?_,.inl ?_,⟨1,bk _,?_⟩,λno=>?_,List.nodup_nil,λx hx=>(by cases hx),.inl ⟨rfl,rfl,rfl,rfl⟩,λx hx=>(by cases hx),rfl,λq b=>(by cases b),K,I,bk _⟩
  .show g4 ((1:Nat):Int) (aL.bq.getD 1 [])=_
   rw[E,hd.now];exact Er K I (by decide) (by decide)
  .show aL.bq.getD 0 []=gL
   rw[E,hd.now];rfl
  .show dA ((2:Nat):Int) (aL.bq.getD 2 [])=_
   rw[E,hd.now];exact ye J ⟨(by decide:1<=4),(by decide:4<=4),(by decide:1<18446744073709551616),by show(fN _ _).length<=232;rw[qf];omega⟩
  .show decide (no<3)=true↔no∈ []\/no<2\/no=2
   simp only[fh,false_or,cT];omega
 obtain⟨S,o⟩:∃S:b7,S=⟨st,T,l,kN,1,0,0,0,0,false⟩:=⟨_,rfl⟩;have V:1<=cS T:=by
  have h1:=uD (s:=λi=>decide (i<3)||decide (i<3)) (t:=c9 (λi=>decide (i<3)||decide (i<3)) 3 true) (k:=3) (by simp) (by simp[c9]) (λi hi=>by simp[c9,hi]) (n:=D.n) J;have h2:=m9 (c9 (λi=>decide (i<3)||decide (i<3)) 3 true) D.n;have A:cS T=D.n-eO (λi=>decide (i<3)||decide (i<3)) D.n:=by rw[a];rfl
  omega
 refine⟨S,by rw[o],?_,?_,by rw[o],by rw[o]⟩
 .rw[o]
  refine⟨⟨?_,U,by rw[a];exact .inl rfl,by rw[a];exact L,by rw[a],⟨(by decide:0<18446744073709551616),bk _,bk _,(by decide:1+2<18446744073709551616),?_,?_,?_⟩,λj f=>?_⟩,.inl ?_,List.nodup_nil,?_,λx hx=>(by cases hx),λp F=>(by cases F),rfl,dd _,λ_=>⟨?_,by rw[a];exact hd.eN,V⟩,λhf=>(by cases hf)⟩
  .show Var w' st (iY T.bh T.C.D.d T.C.c T.sb _ _ _ _ _ _ _ _) _
   rw[a];exact B.sv
  .have:=y.2.2.2.1;show l.batch<=1000;omega
  .have:=y.2.2.2.2.2;show l.fC<=1048576;omega
  .have:=y.2.2.1;show 1<=l.batch;omega
  .have f:T.g j=true:=f
   show T.C.D.b6 j=true;rw[a]at f⊢;show aL.b6 j=true;rw[hd.b6];exact f
  .rw[a];exact⟨rfl,rfl,rfl,rfl⟩
  .intro no
   have W:=L.g no;rw[a];exact W
  .intro e
   have h1:aL.b6 5=true:=by have:=e 5;rw[a]at this;exact this
   rw[hd.b6]at h1;cases h1
 .rw[o]
  refine⟨rfl,rfl,rfl,rfl,by rw[a];exact hd.d,by rw[a],by rw[a];exact P,by rw[a];show aL.bu<=_;rw[hd.bu];omega,λq hm=>?_,λq=>by rw[a],by show w.heap.size<=st;omega,by rw[a];exact hd.r,ct R.ak B.x λq _ h=>h.elim⟩;rw[a]at hm;have Y:∀q,bI aL q->bI D q\/b2 q\/w.heap.size<=q:=λq b=>by
   rcases R.dq q b with h1|h1
   .exact .inl h1
   .exact .inr (.inr h1.1)
  rcases hm with h1|h1|h1|h1|h1
  .rcases m q h1 with h2|h2|h2
   .exact .inr (.inr J)
   .exact .inr (.inr J)
   .exact Y q h2
  .have h1:q=bh:=h1
   exact .inr (.inr J)
  .exact .inr (.inr (R.uI q h1).1)
  .rcases(show q=st\/b2 q from h1) with h1|h1
   .exact .inr (.inr J)
   .exact .inr (.inl h1)
  .exact h1.elim
end
section
variable {V:Nat->cL}{n gen:Nat}{u:cN}{g:Nat->ai}{P:Nat->al bo}{a8:Y Nat}{bQ:Y cq}
theorem iv.sound(h:iv V n gen u g P a8 bQ){j:Nat}(b:g j=true):V j=gL\/∃p,dA (j:Int) (V j)=.ok p:=by
 rcases(h.g j).1 b with h1|h1|h1
 .right
  have c:∃bZ,P j=some bZ:=by
   rcases h.ok with ⟨_,_,h2,_⟩|h2
   .rw[h2]at h1;cases h1
   .exact h2.node _ j h1
  obtain⟨bZ,dJ⟩:=c;obtain⟨p,a,_⟩:=h.gb j h1 bZ dJ;exact⟨p,a⟩
 .by_cases e:j=gen%2
  .right
   rw[e];obtain⟨p,a⟩:=Bl h.yI;exact⟨p,a⟩
  .have e:j=1-gen%2:=by omega
   rcases h.Bf with h2|⟨d,g',h2,_⟩
   .left;rw[e];exact h2
   .right
    rw[e];obtain⟨p,a⟩:=Bl h2;exact⟨p,a⟩
 .right
  rw[h1];obtain⟨_,_,h2⟩:=h.mp;exact⟨_,h2⟩
theorem iv.low(h:iv V n gen u g P a8 bQ):a8.length<=bQ.length:=by
 rcases h.ok with ⟨_,_,h2,_⟩|h2
 .rw[h2];exact dd _
 .exact h2.pages.1
theorem L_{w:I}{D:ba}{l:dM}{b2:Nat->Prop}(h:cv w D)(o:D.quiet)(A:D.bu<=700000000)(f:D.waits=[])(r:hY (l.aq:Nat) (l.batch:Nat) (l.fC:Nat))(b:iv V D.n gen u g P a8 bQ)(dr:∀j,g j=true->D.bq.getD j []=V j)(s:gen<=1000000000)(t:bQ.length<=4000)(x:∀q,b2 q->q<w.heap.size/\¬bI D q):
 az ah 64 #[.pointer (some D.d),.agg l.c.toArray] w (λv w'=>∃S:b7,v=.tuple #[.pointer (some S.st),(0:Int)]/\dR w' S a8 bQ a8 bQ/\Bm D l b2 9000 w w' S/\S.u=u/\S.gen=gen):=by
 have y:∀j,D.eu j=[]:=λj=>by unfold ba.eu;rw[f];rfl
 have i:∀j,D.now j=D.bq.getD j []:=λj=>by unfold ba.now;rw[f];rfl
 have B:=b.low;refine(rf (D:=D.iL g λ_=> []) (b2:=b2) (h.iL _ _) o (by show D.bu<=_;omega) (λj _=>y j) r b (λj a=>.inl ((i j).trans (dr j a))) rfl rfl s t J x).mono ?_;rintro v w' ⟨hc,⟨S,rfl,z,a1,a2,a3,a4,a5,cZ,dT,dz,a9,eo,eL,e7,e1,e8⟩|⟨e,rfl,he,j,a,k,e',m⟩⟩
 .exact⟨S,rfl,z,⟨a1,a5,by rw[a4,a2],cZ,dT,dz,a9,eo,eL,e7,e1,e8,hc⟩,a2,a3⟩
 .exfalso
  have aP:(D.iL g λ_=> []).now j=V j:=(i j).trans (dr j a);rw[aP]at k m;rcases b.sound a with h1|⟨p,h1⟩
  .exact k (by rw[h1];decide+kernel)
  .rw[m]at h1;cases h1
end
structure gm(w0 w:I)(b2:Nat->Prop)(d n:Nat)(l:dM)(S:b7)(pages:Y Nat)(L:Y cq)(a8:Y Nat)(bQ:Y cq)(c:Nat):Prop where
 x:Ext w0 w
 at_:dR w S pages L a8 bQ
 E:∀q,S.T.E q↔q=S.st\/b2 q
 ne:¬b2 S.st
 oJ:∀q,S.T.M q->w0.heap.size<=q
 lim:S.l=l
 d:S.T.C.D.d=d
 n:S.T.n=n
 bu:S.T.C.D.bu<=20000*(c+1)
 hD:L.length<=c/\bQ.length<=c
 gen:S.gen<=c+1
 FH:S.pending<=c
 r:S.T.C.D.r1=true
section
variable {w0 w w':I}{b2:Nat->Prop}{d n gw k c:Nat}{l:dM}{S aM:b7}{pages a8:Y Nat}{L bQ:Y cq}
theorem gm.mx(h:gm w0 w b2 d n l S pages L a8 bQ c){q:Nat}(a:b2 q):S.T.E q/\q≠S.st:=⟨(h.E q).2 (.inr a),λe=>h.ne (e▸a)⟩
theorem gm.ext(h:gm w0 w b2 d n l S pages L a8 bQ c)(hx:Ext w w'):gm w0 w' b2 d n l S pages L a8 bQ c:={h with x:=h.x.trans hx,at_:=h.at_.ext hx}
theorem gm.hG{mw:Nat}(h:gm w0 w b2 d n l S pages L a8 bQ c)(a:b2 mw)(hc:ad (λq=>q=mw) w w'):gm w0 w' b2 d n l S pages L a8 bQ c:=
 {h with x:=Ext.eH h.x hc λq e=>by rw[e];exact h.oJ _ (.inr (.inr (.inr (.inl (h.mx a).1)))),at_:=h.at_.hG (h.mx a).1 (h.mx a).2 hc}
theorem gm.step{fV jR:Y Nat}{lU qh:Y cq}(h:gm w0 w b2 d n l S pages L a8 bQ c)(hs:dR w' aM fV lU jR qh)(hd:fG k S aM w w')(b:k<=20000)(hf:lU.length<=c+1/\qh.length<=c+1)(hg:aM.gen<=S.gen+1)(e:aM.pending<=S.pending+1):gm w0 w' b2 d n l aM fV lU jR qh (c+1):=
 ⟨Ext.eH h.x hd.ak λq a=>h.oJ q a.1,hs,λq=>by rw[hd.E,hd.st];exact h.E q,by rw[hd.st];exact h.ne,λq a=>by
  rcases hd.cV q a with h1|h1
  .exact h.oJ q h1
  .have:=h.x.size;omega,hd.l.trans h.lim,hd.d.trans h.d,hd.n.trans h.n,by have:=hd.bu;have:=h.bu;omega,hf,by have:=h.gen;omega,by have:=h.FH;omega,hd.r.trans h.r⟩
end
section
variable {w0 w w' w1 af:I}{b2:Nat->Prop}{d n gw k c:Nat}{l:dM}{S aM:b7}{pages fV a8 jR:Y Nat}{L lU bQ qh:Y cq}{v:O}
theorem ll.FI{c:Prop}(h:ll c S aM pages L a8 bQ v w')(a:S.T.C.D.quiet):v=.int .i64 0/\c/\dR w' aM pages L pages L/\aM.failed=false/\aM.gen=S.gen+1/\aM.u.clock=S.now/\aM.u.di=S.u.di+1/\aM.pending=0:=by
 rcases h with h|⟨_,h,_⟩
 .exact h
 .exact absurd a h
end
section
variable {w0 w w' w1 af:I}{b2 cf:Nat->Prop}{d n gw k c i:Nat}{l:dM}{S aM:b7}{pages fV a8 jR gh:Y Nat}{L lU bQ qh cz:Y cq}{v:O}{aL:ba}{ls:ag}
theorem dR.grow(h:dR w S pages L a8 bQ)(hx:Ext w w'){b:Nat->Prop}(c:∀q,b q->S.T.E q\/(w.heap.size<=q/\q<w'.heap.size))(hs:b S.st):dR w' (S.kO (S.T.dw b S.T.G)) pages L a8 bQ:=by
 have ht:ck w' (S.T.dw b S.T.G):=h.t.grow (W:=λ_=>False) hx (λ_ d=>d.elim) (λq a=>(c q a).imp id .inr) (λq a=>.inr (.inl a)) λq a hg=>by
  rcases c q a with h1|h1
  .exact(h.t.dX q h1).2.2 hg
  .have:=h.t.lt (q:=q) (.inr (.inr (.inr (.inr hg))));omega
 exact⟨⟨h.v.ext hx,ht,hs,h.jO,h.gen,h.num,h.b6⟩,h.ok,h.bZ,h.f,h.two,h.kv,h.keys,h.nj,h.live,h.dead⟩
def b7.own(S:b7)(cf:Nat->Prop):b7:=S.kO (S.T.dw (λq=>q=S.st\/cf q) S.T.G)
theorem b7.Ma{q:Nat}(b:∀q,S.T.E q↔q=S.st\/b2 q)(h1:∀q,cf q->b2 q\/k<=q)(a:(S.own cf).T.M q):S.T.M q\/k<=q:=by
 rcases a with a|a|a|a|a
 .exact .inl (.inl a)
 .exact .inl (.inr (.inl a))
 .exact .inl (.inr (.inr (.inl a)))
 .rcases(show q=S.st\/cf q from a) with h|h
  .exact .inl (.inr (.inr (.inr (.inl ((b q).2 (.inl h))))))
  .rcases h1 q h with h|h
   .exact .inl (.inr (.inr (.inr (.inl ((b q).2 (.inr h))))))
   .exact .inr h
 .exact .inl (.inr (.inr (.inr (.inr a))))
theorem gm.grow(h:gm w0 w b2 d n l S pages L a8 bQ c)(hx:Ext w w')(b:∀q,cf q->b2 q\/(w.heap.size<=q/\q<w'.heap.size)):gm w0 w' cf d n l (S.own cf) pages L a8 bQ c:=
 ⟨h.x.trans hx,h.at_.grow hx (λq a=>by
  rcases a with h1|h1
  .exact .inl ((h.E q).2 (.inl h1))
  .exact(b q h1).imp (λh2=>(h.E q).2 (.inr h2)) id) (.inl rfl),λq=>Iff.rfl,λhs=>by
  have hs:cf S.st:=hs
  rcases b _ hs with h1|h1
  .exact h.ne h1
  .have:=h.at_.t.lt (q:=S.st) (.inr (.inr (.inr (.inl h.at_.es))));omega,λq a=>by
  rcases b7.Ma h.E (λq a=>(b q a).imp id And.left) a with h1|h1
  .exact h.oJ q h1
  .have:=h.x.size;omega,h.lim,h.d,h.n,h.bu,h.hD,h.gen,h.FH,h.r⟩
theorem dR.bq(h:dR w S pages L a8 bQ)(a:S.failed=false)(b:sA S.T.C.D aL):∀j,S.T.g j=true->aL.bq.getD j []=S.V j:=λj c=>by
 rcases b.bq j with h1|h1
 .exact h1
 .have h2:=h.t.ca.inv.oA j (h.b6 j c)
  rw[(h.live a).2.1]at h2
  rw[h2]at h1;cases h1
end
section
variable {w0 w w' w1 af:I}{b2 cf:Nat->Prop}{d n gw k c i:Nat}{l:dM}{S aM:b7}{pages fV a8 jR gh:Y Nat}{L lU bQ qh cz:Y cq}{v:O}{aL:ba}{ls:ag}
theorem Mb{q b k:Nat}(h:aD ⟨some b,k,k⟩ q):q=b:=by
 obtain⟨A,au,rfl⟩:=h
 cases au;rfl
theorem dR.room(h:dR w S pages L a8 bQ):S.T.n<=cS S.T+pages.length+a8.length+3:=by
 have h1:=Lg (t:=λi=>S.T.f i||S.T.g i) (l:=pages++a8++ [0,1,S.u.map]) S.T.n λi _ hi=>by
  simp only[jv]at hi;simp only[ed,cW,fh,ft];rcases hi with hi|hi
  .rcases(h.f i).1 hi with h2|h2|h2
   .exact .inl (.inl h2)
   .exact .inr J
   .exact .inr (.inr (.inr h2))
  .rcases(h.jO.g i).1 hi with h2|h2|h2
   .exact .inl (.inr h2)
   .exact .inr J
   .exact .inr (.inr (.inr h2))
 simp only[ej,iz,qB]at h1;unfold cS;omega
theorem gm.new{D:ba}(hx:Ext w0 w)(e:dR w' S [] [] [] [])(a:Bm D l b2 4 w w' S)(hu:S.u=kN)(hg:S.gen=1)(b:∀q,bI D q->w0.heap.size<=q)(c:∀q,b2 q->w0.heap.size<=q/\q<w.heap.size)(i:D.bu=0)(f:D.r1=true):gm w0 w' b2 D.d D.n l S [] [] [] [] 0:=
 ⟨Ext.eH hx a.ak b,e,a.E,λh=>by have:=(c _ h).2;have:=a.st;omega,λq g=>by
  rcases a.M q g with h1|h1|h1
  .exact b q h1
  .exact(c q h1).1
  .have:=hx.size;omega,a.l,a.d,a.n,by have:=a.bu;omega,⟨bk _,bk _⟩,J,by rw[a.nj];exact bk _,a.r.trans f⟩
end
section
variable {w0 w w' w1 af:I}{b2 cf:Nat->Prop}{d n gw k c i:Nat}{l:dM}{S aM:b7}{pages fV a8 jR gh:Y Nat}{L lU bQ qh cz:Y cq}{v:O}{aL:ba}{ls:ag}
def qi(b:Nat):dM:=⟨8,1+b%12,1+b/16%12⟩
theorem Mc(b:Nat):hY ((qi b).aq:Nat) ((qi b).batch:Nat) ((qi b).fC:Nat):=by
 unfold hY qi;have h1:b%12<12:=gq _ (by decide);have h2:b/16%12<12:=gq _ (by decide);show(8:Int)<=((8:Nat):Int)/\((8:Nat):Int)<=64/\(1:Int)<=((1+b%12:Nat):Int)/\((1+b%12:Nat):Int)<=1000/\(1:Int)<=((1+b/16%12:Nat):Int)/\((1+b/16%12:Nat):Int)<=1048576;omega
end
section
variable {w w':I}{f b d:Int}
theorem rY(w:I)(f b d:Int):az ah 10 #[.agg #[f,b,.int .u64 d]] w (λv w'=>v=.bool (decide (hY f b d))/\Ext w w'):=by
 refine okF (Z.rY f b d) aj.rY func10 ?_;(delta Z.rY aE r1 aa ae aK b5 db;dsimp only);refine aV (vs:=[f,b,.int .u64 d]) rfl λw1 c hx _=>⟨_,c.cell,uJ (decide (f<=64)) (λ_ k a=>⟨_,c.cell,a _ (.refl _ _)⟩) λaf g=>uJ (decide (b>=1)) (λ_ k a=>⟨_,by rw[av];exact(c.ext g).cell,a _ (.refl _ _)⟩) λr i=>uJ (decide (b<=1000)) (λ_ k a=>⟨_,by rw[av];exact((c.ext g).ext i).cell,a _ (.refl _ _)⟩) λaA o=>uJ (decide (d>=1)) (λ_ k a=>⟨_,by rw[av];exact(((c.ext g).ext i).ext o).cell,a _ (.refl _ _)⟩) λaC p=>uJ (decide (d<=1048576)) (λ_ k a=>⟨_,by rw[av];exact((((c.ext g).ext i).ext o).ext p).cell,a _ (.refl _ _)⟩) λs q=>⟨?_,((((hx.trans g).trans i).trans o).trans p).trans q⟩⟩;have e:∀gh df j l m n:Prop,∀ [Decidable gh] [Decidable df] [Decidable j] [Decidable l] [Decidable m] [Decidable n],(decide gh&&decide df&&decide j&&decide l&&decide m&&decide n)=decide (gh/\df/\j/\l/\m/\n):=λgh df j l m n=>by
  intros
  rw[eX];simp only[du,cT];exact⟨λh=>⟨h.1.1.1.1.1,h.1.1.1.1.2,h.1.1.1.2,h.1.1.2,h.1.2,h.2⟩,λh=>⟨⟨⟨⟨⟨h.1,h.2.1⟩,h.2.2.1⟩,h.2.2.2.1⟩,h.2.2.2.2.1⟩,h.2.2.2.2.2⟩⟩
 exact congrArg Value.bool (e _ _ _ _ _ _)
theorem Md{p:al ar}(h:p=none\/¬hY f b d):az ah 16 #[.pointer p,.agg #[f,b,.int .u64 d]] w (λv w'=>v=.tuple #[.pointer none,(1:Int)]/\Ext w w'):=by
 refine okF (Z.me p f b d) aj.me func16 ?_;(delta Z.me aE r1 aa aK b5 db bn ae bx e0 bp eK iR cR an fl bR;dsimp only);refine aV (vs:=[f,b,.int .u64 d]) rfl λw1 a hx _=>⟨_,a.cell,_,by rw[av];exact a.cell,_,by rw[av];exact a.cell,(n2 w1 p f b d).use ?_⟩;rintro _ aC ⟨rfl,c⟩;refine⟨_,rfl,λ_=>⟨rfl,hx.trans c⟩,λhb=>?_⟩;exfalso;rcases h with rfl|h
 .simp at hb
 .rw[gr h]at hb;simp at hb
set_option maxRecDepth 100000 in
theorem Me.of {v:O} (h:k8 ah w 24 v):∃f b d:Int,v=.agg #[f,b,.int .u64 d]:=by
 have hu:Tryz.prog.underlying 24=some (.struct (fieldsOf ah 24)):=by kernel_rfl
 unfold k8 at h;rw[hu]at h;obtain⟨cs,rfl,fuel,h⟩:=h;have hlen:cs.toList.length=3:=by
  have:=(CF h hu).1;rwa[show Tryz.prog.cellsOf 24=3 by kernel_rfl]at this
 obtain⟨_,f0⟩:=zT h hu 0 (t:=3) (o:=0) (n:=1) (by kernel_rfl) (by kernel_rfl);obtain⟨_,f1⟩:=zT h hu 1 (t:=3) (o:=1) (n:=1) (by kernel_rfl) (by kernel_rfl);obtain⟨_,f2⟩:=zT h hu 2 (t:=22) (o:=2) (n:=1) (by kernel_rfl) (by kernel_rfl);obtain⟨g,e,_⟩:=zH f0 (k:=.i64) (by kernel_rfl);obtain⟨dN,aP,_⟩:=zH f1 (k:=.i64) (by kernel_rfl);obtain⟨bF,aU,_⟩:=zH f2 (k:=.u64) (by kernel_rfl);refine⟨g,dN,bF,?_⟩;have i:cs=cs.toList.toArray:=rfl;rw[i]
 match cs.toList,hlen,e,aP,aU with
 | [a,b,c],_,e,aP,aU=>
  simp at e aP aU;rw[e,aP,aU]
end
section
variable {w:I}{ab st:Nat}{most:Int}
theorem q7{s:al ar}(w:I)(most:Int):az ah 46 #[.pointer s,most] w (λv w'=>Ext w w'/\(((s=none\/most<1\/400<most)/\v=.tuple #[.pointer none,(1:Int)])\/((s≠none/\1<=most/\most<=400)/\v=.tuple #[.pointer (some w.heap.size),(0:Int)]/\Var w' w.heap.size [.pointer s,most] 193))):=by
 refine okF (Z.q7 s most) aj.q7 func46 ?_;delta Z.q7 ae aa;refine⟨λh=>⟨.refl _ _,.inl ⟨?_,rfl⟩⟩,λh=>aV (vs:=[.pointer s,most]) rfl λw1 b hx _=>⟨hx,.inr ⟨?_,rfl,b⟩⟩⟩
 .cases s with
  |none=>exact .inl rfl
  |some a=>simp at h;exact .inr J
 .cases s with
  |none=>simp at h
  |some a=>simp at h;exact⟨by simp,J,J⟩
theorem yK(a:Var w ab [.pointer (some st),most] 193):az ah 34 #[.pointer (some ab)] w (λv w'=>v=.pointer (some st)/\w=w'):=by
 refine okF (Z.wE (some ab)) aj.wE func34 ?_;(delta Z.wE ae aw;dsimp only);exact⟨λh=>(by cases h),λ_=>⟨_,rfl,_,a.cell,rfl,rfl⟩⟩
theorem Mf{S:b7}{pages a8:Y Nat}{L bQ:Y cq}(a:Var w ab [.pointer (some S.st),most] 193)(h:dR w S pages L a8 bQ):az ah 241 #[.pointer (some ab)] w (λv w'=>v=L.length/\w=w'):=by
 refine okF (Z.xz (some ab)) aj.xz func241 ?_;(delta Z.xz fj bx;dsimp only);refine(yK a).use ?_;rintro _ _ ⟨rfl,rfl⟩;refine⟨_,rfl,(Fx h).use ?_⟩;rintro _ _ ⟨rfl,rfl⟩;exact⟨_,rfl,by rw[h.keys],rfl⟩
theorem Mg{a:ar}(s:Int)(p:bS)(w:I):az ah 235 #[.pointer (some a),s,.agg p.c.toArray] w (λv w'=>Ext w w'/\((jJ s p=false/\v=.tuple #[(),false])\/(jJ s p=true/\∃t:ag,v=.tuple #[t,true]/\aS 1 5 w' t (ax (ow s.toNat p))/\∀q,aD t q->w.heap.size<=q))):=by
 refine Z.Ib (some a) s _ w _ ?_;(delta Z.t_ ae aa jg;dsimp only);refine aV (vs:=p.c) rfl λw1 e b i=>⟨λh=>(by cases h),λ_=>⟨p.c,e.rd (bS.aY _),(mZ s p w1).use ?_⟩⟩;rintro _ j ⟨d,⟨hg,rfl⟩|⟨hg,t,rfl,f,hf⟩⟩
 .exact⟨⟨none,0,0⟩,false,rfl,b.trans d,.inl ⟨hg,rfl⟩⟩
 .exact⟨t,true,rfl,b.trans d,.inr ⟨hg,t,rfl,f,λq g=>dG b.size (hf q g)⟩⟩
end
def bP.kv(t:bP):cq:=(ow t.s.toNat t.p,uv t.b.toNat t.u)
section
variable {T:Y bP}{s:Int}{p:bS}
end
theorem Mh{k:Nat}{p:bS}:g3 (ow k p):=by
 have h:=JE k p;have h2:=I0 p.addr;unfold g3;omega
theorem Mi(k:Nat):bJ k 2=[UInt8.ofNat (k/256%256),UInt8.ofNat (k%256)]:=by
 simp[bJ,List.range_succ]
section
variable {T A B:Y bP}{t x:bP}{i m now:Nat}{fr:Key}
def FJ(T:Y bP):Prop:=T.Pairwise λa b=>dU a.kv.1 b.kv.1
theorem Mj:mh (T.map bP.kv)↔FJ T:=vb
end
def bP.ok(t:bP):Prop:=t.fm=true/\t.u<18446744073709551616
theorem bP.ok.k{t:bP}(h:t.ok):jJ t.s t.p=true:=by have:=h.1;unfold bP.fm at this;rw[du]at this;exact this.1
theorem bP.ok.b{t:bP}(h:t.ok):m7 t.b=true:=by have:=h.1;unfold bP.fm at this;rw[du]at this;exact this.2
def sD(S:b7)(cm:Y bP)(aM:b7)(h4:Y bP):Prop:=(aM.u.di=S.u.di/\h4=cm)\/S.u.di<aM.u.di
theorem sD.trans{S aM c:b7}{cm h4 d:Y bP}(h:sD S cm aM h4)(e:sD aM h4 c d):sD S cm c d:=by
 rcases h with ⟨a,rfl⟩|a<;>rcases e with ⟨b,rfl⟩|b
 .exact .inl ⟨b.trans a,rfl⟩
 .exact .inr J
 .exact .inr J
 .exact .inr J
structure ey(w0 w:I)(b2:Nat->Prop)(d n:Nat)(l:dM)(ab most:Nat)(S:b7)(pages a8:Y Nat)(T cm:Y bP)(c:Nat):Prop where
 s:gm w0 w b2 d n l S pages (T.map bP.kv) a8 (cm.map bP.kv) c
 live:S.failed=false
 q:S.T.C.D.quiet
 oK:b2 ab
 v:Var w ab [.pointer (some S.st),most] 193
 ok:∀t∈T,t.ok
 FK:∀t∈cm,t.ok
 p8:S.pending<l.batch
 Mk:S.pending=0->T=cm
 hD:T.length<=most/\cm.length<=most
 sE:1<=most/\most<=400
 a6:n=4*most+64
 Ml:FJ T
section
variable {w0 w w':I}{b2:Nat->Prop}{d n ab most k c:Nat}{l:dM}{S aM:b7}{pages fV a8 jR:Y Nat}{T ay cm h4:Y bP}{tk im:ag}{key:Key}{v:O}{s:Int}{p:bS}
theorem ey.ext(h:ey w0 w b2 d n l ab most S pages a8 T cm c)(hx:Ext w w'):ey w0 w' b2 d n l ab most S pages a8 T cm c:={h with s:=h.s.ext hx,v:=h.v.ext hx}
theorem ey.room(h:ey w0 w b2 d n l ab most S pages a8 T cm c):sy S≠0:=by
 have h1:=h.hD;have e:=h.s.at_.room;have a:=h.s.at_.ok.low (by rw[dn];have:=h.sE;omega);have b:=h.s.at_.jO.low;have f:=h.s.n;have g:=h.a6;rw[dn]at a b;unfold sy;omega
theorem ey.step(h:ey w0 w b2 d n l ab most S pages a8 T cm c)(hs:dR w' aM fV (ay.map bP.kv) jR (h4.map bP.kv))(hd:fG k S aM w w')(f:k<=20000)(r:ay.length<=T.length+1)(a:h4=cm\/h4=ay)(hm:ay.length<=most)(hg:aM.gen<=S.gen+1)(g:aM.pending<=S.pending+1)(hf:aM.failed=false)(b:∀t∈ay,t.ok)(i:aM.pending<l.batch)(j:aM.pending=0->ay=h4):
 ey w0 w' b2 d n l ab most aM fV jR ay h4 (c+1):=by
 have m:=h.s.hD;rw[dn,dn]at m;have e:=h.s.mx h.oK;have o:h4.length<=c+1/\h4.length<=most:=by
  have:=h.hD;rcases a with rfl|rfl<;>omega
 refine⟨h.s.step hs hd f (by rw[dn,dn];omega) hg g,hf,hd.q h.q,h.oK,?_,b,?_,i,j,⟨hm,o.2⟩,h.sE,h.a6,Mj.1 (hs.ok.rising)⟩
 .rw[hd.st]
  exact h.v.ak hd.ak λp=>e.2 (p.2 e.1)
 .rcases a with rfl|rfl
  .exact h.FK
  .exact b
def nn(w0:I)(b2:Nat->Prop)(d n:Nat)(l:dM)(ab most:Nat)(S:b7)(cm ay:Y bP)(w:I)(c:Nat)(w':I):Prop:=
 ∃ (k:Nat) (aM:b7) (fV jR:Y Nat) (h4:Y bP),ey w0 w' b2 d n l ab most aM fV jR ay h4 c/\fG k S aM w w'/\aM.now=S.now/\sD S cm aM h4
theorem ey.more(h:ey w0 w b2 d n l ab most S pages a8 T cm c)(hm:oH S aM fV (ay.map bP.kv) a8 (cm.map bP.kv) v w')(hd:fG k S aM w w')(a:aM.now=S.now)(b:k<=20000)(f:ay.length<=T.length+1)(g:ay.length<=most)(i:∀t∈ay,t.ok):
 v=.int .i64 0/\nn w0 b2 d n l ab most S cm ay w (c+1) w':=by
 have hb:=h.s.at_.num.2.2.2.2.2.2;have j:=h.s.lim;rcases hm with ⟨rfl,h1,hs,hf,hg,hu,m,_⟩|hm
 .exact⟨rfl,k,aM,fV,a8,cm,h.step hs hd b f (.inl rfl) g J J hf i (by rw[←j];omega) (λe=>J),hd,a,.inl ⟨by rw[hu],rfl⟩⟩
 .obtain⟨rfl,_,hs,hf,hg,_,o,m⟩:=hm.FI h.q
  exact⟨rfl,k,aM,fV,fV,ay,h.step hs hd b f (.inr rfl) g J J hf i (by rw[←j];omega) (λ_=>rfl),hd,a,.inr J⟩
end
section
variable {w0 w w' w1:I}{b2:Nat->Prop}{d n ab most k c q:Nat}{l:dM}{S aM jP:b7}{pages fV a8 jR:Y Nat}{T ay cm h4 yL:Y bP}{tk im:ag}{key:Key}{v:O}{s:Int}{p:bS}{vs:Y O}
theorem nn.cat(hd:fG k S jP w w1)(a:jP.now=S.now)(hg:sD S cm jP yL)(h:nn w0 b2 d n l ab most jP yL ay w1 c w'):nn w0 b2 d n l ab most S cm ay w c w':=by
 obtain⟨bL,dm,dV,df,c6,h2,d2,bF,aW⟩:=h;exact⟨k+bL,dm,dV,df,c6,h2,hd.trans d2,bF.trans a,hg.trans aW⟩
theorem nn.pre(hx:Ext w w1)(h:nn w0 b2 d n l ab most S cm ay w1 c w'):nn w0 b2 d n l ab most S cm ay w c w':=nn.cat (.ext S hx) rfl (.inl ⟨rfl,rfl⟩) h
theorem Mm(a:Var w q vs 288)(b:vs.length=21)(t:bP){K:Y O->I->Prop}(f:∀w',ad (λx=>x=q) w w'->K t.c w'):bN w q (Array.toList t.c.toArray)/\Array.size t.c.toArray=21/\ao (setCells w q 0 (Array.toList t.c.toArray)) λd=>∃e:Y O,aT d q 0 21=some e/\K e d:=
 ⟨a.cn (by simp[bP.aY,b]) (bP.plain t),by simp[bP.aY],cU a (us:=t.c) (by simp[bP.aY,b]) rfl λw' g h _=>⟨t.c,g.rd (bP.aY t),f w' h⟩⟩
end
section
variable {B:Nat->Prop}{w w':I}{s:ag}{T:Y bP}{t:bP}{gw i:Nat}{most:Int}{fr:Key}
theorem aS.block{sz q:Nat}{jS:TypeId}{vs:Y O}(h:aS sz jS w s vs)(a:aD s q):∃c,aZ w q c jS:=by
 obtain⟨A,au,rfl⟩:=a;rcases h.2.2.2 with ⟨d,_⟩|⟨b,c,hb,e,_⟩
 .rw[d]at au;cases au
 .rw[hb]at au;cases au
  exact⟨c,e⟩
end
section
variable {w0 w w' w1:I}{b2 cf:Nat->Prop}{d n ab gw most k c q:Nat}{l:dM}{S aM jP:b7}{pages fV a8 jR:Y Nat}{T ay cm h4 yL:Y bP}{s:ag}
theorem ey.grow(h:ey w0 w b2 d n l ab most S pages a8 T cm c)(hx:Ext w w')(a:∀q,cf q->b2 q\/(w.heap.size<=q/\q<w'.heap.size))(b:cf ab):ey w0 w' cf d n l ab most (S.own cf) pages a8 T cm c:=
 ⟨h.s.grow hx a,h.live,h.q,b,h.v.ext hx,h.ok,h.FK,h.p8,h.Mk,h.hD,h.sE,h.a6,h.Ml⟩
theorem ey.hG(h:ey w0 w b2 d n l ab most S pages a8 T cm c)(a:b2 q)(b:ab≠q)(hc:ad (λx=>x=q) w w'):ey w0 w' b2 d n l ab most S pages a8 T cm c:={h with s:=h.s.hG a hc,v:=h.v.ak hc b}
end
section
variable {w0 w w' w1:I}{b2 cf:Nat->Prop}{d n ab gw b most jF k c q i a m now:Nat}{l:dM}{S aM jP:b7}{pages fV a8 jR:Y Nat}{T ay cm h4 yL Oy Q:Y bP}{s t sl:ag}{fr Oz:Key}{jS:TypeId}{st:bP->ai}
theorem mV{p:ar}(b:1<=jF/\jF<=64)(w:I):az ah 105 #[.pointer (some p),jF] w (λv w'=>v=.tuple #[.pointer (some w.heap.size),(0:Int)]/\Ext w w'/\Var w' w.heap.size [.pointer (some p),(),jF] 272):=by
 refine okF (Z.mV (some p) (jF:Nat)) aj.mV func105 ?_;delta Z.mV ae aa;refine⟨λh=>?_,λ_=>aV (vs:=[.pointer (some p),(),jF]) rfl λw1 a hx _=>⟨rfl,hx,a⟩⟩;rw[gr J,gr J]at h;cases h
theorem Mn{p:al ar}{m:Int}(h:((Option.isNone p||decide (m<1))||decide (m>64))=true)(w:I):az ah 105 #[.pointer p,m] w (λv w'=>v=.tuple #[.pointer none,(1:Int)]/\w=w'):=by
 refine okF (Z.mV p m) aj.mV func105 ?_;delta Z.mV ae aa;exact⟨λ_=>⟨rfl,rfl⟩,λhb=>by rw[h]at hb;cases hb⟩
def ln(gw b:Nat)(w w':I):Prop:=∀P:I->Prop,P w->(∀u a,P u->(ad (λq=>q=gw) u a\/ad (λq=>q=b) u a)->P a)->P w'
theorem ln.one(hc:ad (λq=>q=gw) w w'):ln gw b w w':=λ_ h k=>k _ _ h (.inl hc)
theorem ln.two(hc:ad (λq=>q=b) w w'):ln gw b w w':=λ_ h k=>k _ _ h (.inr hc)
theorem ln.trans(h1:ln gw b w w1)(h2:ln gw b w1 w'):ln gw b w w':=λP h k=>h2 P (h1 P h k) k
end
def np(s:Nat×ai)(c:UInt8):Nat×ai:=(s.1+(if s.2 then c.toNat else c.toNat*256), !s.2)
def g6(s:Nat×ai)(l:Y UInt8):Nat×ai:=l.foldl np s
theorem yM:∀ (l:Y UInt8) (s:Nat×ai),(g6 s l).1<=s.1+65280*l.length
 | [],_=>Nat.le_add_right _ _
 |c::l,s=>by
  have h:=yM l (np s c)
  have hc:=c.toNat_lt
  have e:g6 s (c::l)=g6 (np s c) l:=rfl
  rw[e,iz]
  have h2:(np s c).1<=s.1+65280:=by
   unfold np;split<;>simp only<;>omega
  omega
theorem FL(s:Nat×ai)(l r:Y UInt8):g6 s (l++r)=g6 (g6 s l) r:=u6 ..
theorem Mo(s:Nat×ai)(l:Y UInt8)(c:UInt8):g6 s (l++ [c])=np (g6 s l) c:=by rw[FL];rfl
def kg(n:Nat):Nat:=if n<=65535 then n else kg (n%65536+n/65536)
termination_by n
decreasing_by omega
theorem Bn{n:Nat}(h:n<=65535):kg n=n:=by rw[kg,if_pos h]
theorem Mp{n:Nat}(h:65535<n):kg (n%65536+n/65536)=kg n:=by
 conv=>rhs;rw[kg,if_neg J]
theorem FM(n:Nat):kg n<=65535:=by
 induction n using Nat.strongRecOn with
 |_ n a=>
  rw[kg];split
  .assumption
  .exact a _ J
def oL(l:Y UInt8):Nat:=65535^^^kg (g6 (0,false) l).1
def nq(n:Nat)(c:UInt8):Nat:=((n^^^c.toNat)*1099511628211)%18446744073709551616
def uN(n:Nat):Nat:=((n^^^(n/8589934592))*18397679294719823053)%18446744073709551616
def Bo(n:Nat):Nat:=uN n^^^(uN n/8589934592)
def qj(gk:Nat)(l:Y UInt8):Nat:=Bo (l.foldl nq (14695981039346656037^^^gk))
theorem Mq:qj 1 [0,2]=16824252002199258834:=by decide+kernel
theorem Mr:qj 1 [0,0,0,0,0]=14921627313678984130:=by decide+kernel
def iZ(i:Nat):Nat:=(42+i*173)%251
theorem Ms(i:Nat):(iZ i+173)%251=iZ (i+1):=by unfold iZ;omega
theorem Mt:∀i,i<251->∀j,j<i->iZ j≠iZ i:=by
 intro i hi j a e;unfold iZ at e;have h:∀d,d<251->0<d->d*173%251≠0:=by decide+kernel
 refine h (i-j) J J ?_;have aU:i*173=j*173+(i-j)*173:=by rw[←j0];congr 1;omega
 omega
theorem Mu:∀q,q<251->∃i,i<251/\iZ i=q:=by decide+kernel
end Go.Proofs.YtcfodkffcmfcaaaGreat
