/- Contracts of the functions that the statement reaches, and the plain laws over them; each theorem stands with its conditions. -/
import Derived.Test.YtcfodkffcmfcaaaGreatBBNone5
namespace Go.Proofs.YtcfodkffcmfcaaaGreat
open Go aO Go.Proofs.Tryz
def jW:cJ:=⟨1,aH.zero,80,17,0,9⟩
def kT:bD:=⟨2,aH.zero,8080,1,false⟩
structure iw where
 lb:Nat
 ab:Nat
 aN:Nat
 m1:Nat
 m2:Nat
 hb:Nat
 hm:Nat
 sb:Nat
 bm:iM
 bc:Nat
 k:ag
def iw.rc(x:iw):Rec:=⟨jW,[kT],x.bc,x.k⟩
def y6(c0 a7 cl cc b1 bT:Int)(f a t h s:al ar):Y O:=[.int .u64 c0,a7,cl,cc,b1,bT,.pointer f,.pointer a,.pointer t,.pointer h,.pointer s]
def iw.c(x:iw):Y O:=y6 1 6 6 1 1 1 (some x.bm.p) (some x.ab) (some x.aN) (some x.hb) (some x.sb)
def iw.own(x:iw)(q:Nat):Prop:=q=x.aN\/q=x.m1\/q=x.m2\/q=x.hb\/q=x.hm\/gN x.bm [x.rc] q
structure gC(w:I)(x:iw):Prop where
 fw:jU w x.aN x.m1 x.m2 6 [] []
 he:lr w x.hb x.hm 1 1
 b1:dY w x.bm [x.rc]
section
variable {w w' w1:I}{x:iw}
theorem gC.ak{W:Nat->Prop}(h:gC w x)(hc:ad W w w')(a:∀q,x.own q->¬W q):gC w' x:=
 ⟨h.fw.ak hc ⟨a _ (.inl rfl),a _ (.inr (.inl rfl)),a _ (.inr (.inr (.inl rfl)))⟩,h.he.ak hc ⟨a _ (.inr (.inr (.inr (.inl rfl)))),a _ (.inr (.inr (.inr (.inr (.inl rfl)))))⟩,h.b1.ak hc λq b=>a q (.inr (.inr (.inr (.inr (.inr b)))))⟩
theorem gC.ext(h:gC w x)(hx:Ext w w'):gC w' x:=h.ak hx λ_ _=>id
theorem gC.lt(h:gC w x):∀q,x.own q->q<w.heap.size:=by
 rintro q (rfl|rfl|rfl|rfl|rfl|a)
 .exact h.fw.v.lt
 .exact h.fw.bH.lt
 .exact h.fw.bL.lt
 .exact h.he.v.lt
 .exact h.he.k.lt
 .exact h.b1.lt a
def mB(m:Int):ai:= !(decide (m<1)||decide (m>4096))
def mC(m:Int):ai:= !(decide (m<1)||decide (m>64))
def lu(a7 cc b1 bT:Int):ai:=(mB a7&&(h5 cc&&h5 b1))&&mC bT
theorem q8(c0 a7 cl cc b1 bT:Int)(f a:ar)(w:I):az ah 47 #[.agg #[.int .u64 c0,a7,cl,cc,b1,bT],.pointer (some f),.pointer (some a)] w (λv w'=>Ext w w'/\
 ((lu a7 cc b1 bT=false/\v=.tuple #[.pointer none,(1:Int)])\/(lu a7 cc b1 bT=true/\∃lb aN m1 m2 hb hm sb most:Nat,a7=(most:Int)/\v=.tuple #[.pointer (some lb),(0:Int)]/\
   Var w' lb (y6 c0 a7 cl cc b1 bT (some f) (some a) (some aN) (some hb) (some sb)) 172/\jU w' aN m1 m2 most [] []/\lr w' hb hm cc b1/\(∀q,q=lb\/q=aN\/q=m1\/q=m2\/q=hb\/q=hm->w.heap.size<=q)))):=by
 refine okF (Z.q8 c0 a7 cl cc b1 bT (some f) (some a)) aj.q8 func47 ?_;(delta Z.q8 aE ae aK r1 aa e0 db;dsimp only);refine aV (vs:=[.int .u64 c0,a7,cl,cc,b1,bT]) rfl λw1 s t _=>⟨λh=>(by cases h),λ_=>?_⟩;simp only[av,cg];refine⟨a7,s.cell,?_⟩;have x:az ah 103 #[a7] w1 (λv w'=>Ext w1 w'/\∃ (p:al ar) (e:Int),v=.tuple #[.pointer p,e]/\(e !=0)= !mB a7/\(mB a7=true->e=0/\∃b m1 m2 most:Nat,a7=(most:Int)/\p=some ⟨b,0,none⟩/\jU w' b m1 m2 most [] []/\w1.heap.size<=b/\w1.heap.size<=m1/\w1.heap.size<=m2)):=by
  cases hg:mB a7 with
  |false=>
   refine(Nk (m:=a7) (by rw[mB,qz]at hg;exact hg) w1).mono ?_;rintro _ _ ⟨rfl,rfl⟩;exact⟨.refl _ _,_,_,rfl,rfl,λh=>(by cases h)⟩
  |true=>
   obtain⟨most,rfl⟩:∃most:Nat,a7=(most:Int):=⟨a7.toNat,by simp[mB]at hg;omega⟩;refine(mU (most:=most) (by simp[mB]at hg;omega) w1).mono ?_;rintro _ w' ⟨b,m1,m2,rfl,h,hx,hb⟩;exact⟨hx,_,_,rfl,rfl,λ_=>⟨rfl,b,m1,m2,most,rfl,rfl,h,hb⟩⟩
 refine x.use ?_;rintro _ j ⟨k,K,n6,rfl,y,z⟩;have l:=s.ext k;refine⟨_,_,rfl,cc,l.cell,b1,l.cell,(rl cc b1 j).use ?_⟩;rintro v d ⟨n,A⟩;obtain⟨L,n12,rfl,B,C⟩:∃ (p:al ar) (e:Int),v=Value.tuple #[.pointer p,e]/\(e !=0)= !(h5 cc&&h5 b1)/\((h5 cc&&h5 b1)=true->e=0/\∃b m:Nat,p=some ⟨b,0,none⟩/\lr d b m cc b1/\j.heap.size<=b/\j.heap.size<=m):=by
  rcases A with ⟨hg,rfl⟩|⟨hg,b,m,rfl,h⟩
  .exact⟨none,1,rfl,by rw[hg];rfl,λh=>by rw[hg]at h;cases h⟩
  .exact⟨_,0,rfl,by rw[hg];rfl,λ_=>⟨rfl,b,m,rfl,h⟩⟩
 have u:=l.ext n;have D:az ah 105 #[.pointer (some a),bT] d (λv w'=>Ext d w'/\∃ (p:al ar) (e:Int),v=.tuple #[.pointer p,e]/\(e !=0)= !mC bT/\(mC bT=true->e=0/\∃b:Nat,p=some ⟨b,0,none⟩)):=by
  cases hg:mC bT with
  |false=>
   refine(Mn (p:=some a) (m:=bT) (by rw[mC,qz]at hg;exact hg) d).mono ?_;rintro _ _ ⟨rfl,rfl⟩;exact⟨.refl _ _,_,_,rfl,rfl,λh=>(by cases h)⟩
  |true=>
   obtain⟨jF,rfl⟩:∃jF:Nat,bT=(jF:Int):=⟨bT.toNat,by simp[mC]at hg;omega⟩;refine(mV (jF:=jF) (p:=a) (by simp[mC]at hg;omega) d).mono ?_;rintro _ w' ⟨rfl,hx,_⟩;exact⟨hx,_,_,rfl,rfl,λ_=>⟨rfl,_,rfl⟩⟩
 refine⟨_,_,rfl,bT,u.cell,D.use ?_⟩;rintro _ M ⟨i,N,n17,rfl,E,F⟩;have c:=u.ext i;have o:=((t.trans k).trans n).trans i;refine⟨_,_,rfl,?_⟩;rw[y,B,E];have e:((!mB a7|| !(h5 cc&&h5 b1))|| !mC bT)= !lu a7 cc b1 bT:=by unfold lu;cases mB a7<;>cases h5 cc&&h5 b1<;>cases mC bT<;>rfl
 rw[e];refine⟨λhb=>⟨o,.inl ⟨by simpa using hb,by trivial⟩⟩,λhb=>?_⟩;have hg:lu a7 cc b1 bT=true:=by simpa using hb
 have g:=hg;unfold lu at g;rw[du,du]at g;obtain⟨rfl,aN,m1,m2,most,rfl,rfl,G,O,P,Q⟩:=z g.1.1;obtain⟨rfl,hb,hm,rfl,H,R,S⟩:=C g.1.2;obtain⟨rfl,sb,rfl⟩:=F g.2;refine⟨c0,c.cell,_,c.cell,cl,c.cell,cc,c.cell,b1,c.cell,bT,c.cell,(y6 c0 most cl cc b1 bT (some f) (some a) (some aN) (some hb) (some sb)).toArray,by kernel_rfl,aV rfl λT J r _=>⟨o.trans r,.inr ⟨hg,_,aN,m1,m2,hb,hm,sb,most,rfl,rfl,J,((G.ext n).ext i).ext r,(H.ext i).ext r,?_⟩⟩⟩;have fL:=t.size;have fl:=k.size;have z3:=o.size;rintro q (rfl|rfl|rfl|rfl|rfl|rfl)<;>omega
theorem rZ(c0 a7 cl cc b1 bT:Int)(w:I):az ah 11 #[.agg #[.int .u64 c0,a7,cl,cc,b1,bT]] w (λv w'=>v=.bool (lu a7 cc b1 bT)/\Ext w w'):=by
 refine okF (Z.rZ c0 a7 cl cc b1 bT) aj.rZ func11 ?_;(delta Z.rZ aE aK r1 aa ae;dsimp only);refine aV (vs:=[.int .u64 c0,a7,cl,cc,b1,bT]) rfl λw1 a i _=>?_;simp only[av,cg];refine⟨a7,a.cell,gg (decide (a7<=4096)) (λ_ k b=>⟨a7,a.cell,b _ (.refl _ _)⟩) λaf c=>?_⟩;have a:=a.ext c;refine gg (decide (cc>=1)) (λ_ k b=>⟨cc,a.cell,b _ (.refl _ _)⟩) λl d=>?_;have a:=a.ext d;refine gg (decide (cc<=100)) (λ_ k b=>⟨cc,a.cell,b _ (.refl _ _)⟩) λaA e=>?_;have a:=a.ext e;refine gg (decide (b1>=1)) (λ_ k b=>⟨b1,a.cell,b _ (.refl _ _)⟩) λaC f=>?_;have a:=a.ext f;refine gg (decide (b1<=100)) (λ_ k b=>⟨b1,a.cell,b _ (.refl _ _)⟩) λm g=>?_;have a:=a.ext g;refine gg (decide (bT>=1)) (λ_ k b=>⟨bT,a.cell,b _ (.refl _ _)⟩) λn h=>?_;have a:=a.ext h;refine gg (decide (bT<=64)) (λ_ k b=>⟨bT,a.cell,b _ (.refl _ _)⟩) λaF j=>⟨?_,((((((i.trans c).trans d).trans e).trans f).trans g).trans h).trans j⟩
 congr 1
 unfold lu mB mC h5;rw[eX];simp;omega
end
def y7(x:iw)(s k:ag)(e:Int):Y O:=.pointer (some ⟨x.lb,0,none⟩)::(kQ++(.slice s.a s.len s.cap::(jW.c k++ [.int .i64 e])))
structure eA(w0:I)(E:Nat->Prop)(d n:Nat)(l:dM)(x:iw)(wb:Nat)(s k:ag)(e:Int)(S:b7)(T:Y bP)(c:Nat)(w:I):Prop where
 a:∃ (dV p:Y Nat) (cm:Y bP),ey w0 w E d n l x.ab 6 S dV p T cm c
 lb:Var w x.lb x.c 172
 v:Var w wb (y7 x s k e) 167
 mD:Src 1 w s (ax g7)
 sc:s.len<=s.cap
 o:∀q,q=x.lb\/q=wb\/aD s q->E q
 oI:¬aD s wb
 now:S.now=0
def e4(y:Int)(t:ag)(n m:Int)(b:ai)(e:Int):Y O:=[y,t,n,m,b,e]
theorem gX{y:Int}{t:ag}{n m:Int}{b:ai}{e:Int}:∀v∈e4 y t n m b e,Plain v:=dc dF (dc trivial (dc dF (dc dF (dc qk (dc dF kh)))))
section
variable {w0 w w' w1:I}{E:Nat->Prop}{d n:Nat}{l:dM}{x:iw}{wb q c m:Nat}{s k:ag}{e u:Int}{S aM:b7}{T ay:Y bP}{zs us:Y O}{jS:TypeId}
theorem BC{P:Prop}(a:zs.length=us.length)(c:∀v∈us,Plain v){K:I->Prop}(d:∀w',Var w' w.heap.size us jS->Ext w w'->K w')(e:P:=by trivial):ao (w.alloc (.cells zs.toArray jS)) λw1=>bN w1 w.heap.size us/\P/\ao (setCells w1 w.heap.size 0 us) K:=
 aV (vs:=zs) rfl λw1 b hx _=>⟨b.cn a.symm c,e,cU b (us:=us) a.symm rfl λw' f g _=>d w' f (Ext.bO hx g (bk _))⟩
theorem sK{P:Prop}(a:Var w q zs jS)(b:zs.length=us.length)(c:∀v∈us,Plain v){K:I->Prop}(d:∀w',Var w' q us jS->ad (λx=>x=q) w w'->K w')(e:P:=by trivial):bN w q us/\P/\ao (setCells w q 0 us) K:=
 ⟨a.cn b.symm c,e,cU a (us:=us) b.symm rfl λw' f g _=>d w' f g⟩
theorem eA.ext(h:eA w0 E d n l x wb s k e S T c w)(hx:Ext w w'):eA w0 E d n l x wb s k e S T c w':=by
 obtain⟨dV,p,cm,a⟩:=h.a;exact {h with a:=⟨dV,p,cm,a.ext hx⟩,lb:=h.lb.ext hx,v:=h.v.ext hx,mD:=h.mD.ext hx}
theorem eA.mE(h:eA w0 E d n l x wb s k e S T c w)(b:E q):¬S.W q:=by
 obtain⟨dV,p,cm,a⟩:=h.a;have:=a.s.mx b;exact λf=>this.2 (f.2 this.1)
theorem eA.done{j:Nat}(h:eA w0 E d n l x wb s k e S T c w)(hd:fG j S aM w w')(b:aM.now=S.now)(f:∃ (dV p:Y Nat) (cm:Y bP),ey w0 w' E d n l x.ab 6 aM dV p ay cm m):eA w0 E d n l x wb s k e aM ay m w':=
 {a:=f,lb:=h.lb.ak hd.ak (h.mE (h.o _ (.inl rfl))),v:=h.v.ak hd.ak (h.mE (h.o _ (.inr (.inl rfl)))),mD:=h.mD.ak hd.ak λq g=>h.mE (h.o _ (.inr (.inr g))),sc:=h.sc,o:=h.o,oI:=h.oI,now:=b.trans h.now}
theorem eA.set(h:eA w0 E d n l x wb s k e S T c w)(f:E q)(b:x.lb≠q/\wb≠q/\¬aD s q)(g:x.ab≠q)(hc:ad (λx=>x=q) w w'):eA w0 E d n l x wb s k e S T c w':=by
 obtain⟨dV,p,cm,a⟩:=h.a;exact {h with a:=⟨dV,p,cm,a.hG f g hc⟩,lb:=h.lb.ak hc b.1,v:=h.v.ak hc b.2.1,mD:=h.mD.ak hc λy i e=>b.2.2 (e▸i)}
theorem eA.err(h:eA w0 E d n l x wb s k e S T c w)(u:Int):(∃v:O,w.cell? ⟨wb,107,none⟩=some v)/\w.frozen? ⟨wb,107,none⟩=false/\eA w0 E d n l x wb s k u S T c (w.setCell ⟨wb,107,none⟩ (.int .i64 u)):=by
 obtain⟨bH,bL⟩:=ef h.v (i:=107) (by show 107<108;decide);have b:=dD w wb 107 (.int .i64 u);have f:=er h.v (i:=107) (.int .i64 u);obtain⟨dV,p,cm,a⟩:=h.a;refine⟨bH,bL,{h with a:=⟨dV,p,cm,a.hG (h.o wb (.inr (.inl rfl))) (λe=>absurd (Var.inj (e▸a.v) h.v) (by decide)) b⟩,lb:=h.lb.ak b λe=>?_,v:=f,mD:=h.mD.ak b λy g e=>h.oI (e▸g)}⟩;exact absurd (Var.inj (e▸h.lb) h.v) (by decide)
theorem oR(h:eA w0 E d n l x wb s k e S T c w):az ah 73 #[.pointer (some x.lb)] w (λv w'=>v=.int .u64 0/\w=w'):=by
 obtain⟨dV,p,cm,a⟩:=h.a;refine okF (Z.wQ (some x.lb)) aj.wQ func73 ?_;(delta Z.wQ aw fj ek aE;dsimp only);refine⟨_,rfl,_,by rw[av];exact h.lb.cell,(yK a.v).use ?_⟩;rintro _ _ ⟨rfl,rfl⟩;refine⟨_,rfl,(LF a.s.at_).use ?_⟩;rintro _ _ ⟨rfl,rfl⟩;rw[h.now];exact⟨_,rfl,rfl,rfl⟩
theorem NK(h:eA w0 E d n l x wb s k e S T c w)(hb:gC w x):az ah 186 #[.pointer (some x.lb),(1:Int),.agg bS.zero.c.toArray] w (λv w'=>v=.tuple #[(2:Int),true]/\Ext w w'):=by
 refine okF (Z.xj (some x.lb) 1 bS.zero.c.toArray) aj.xj func186 ?_;(delta Z.xj bE aw bp db e0 aE ae ky aa ek hT;dsimp only);refine aV (vs:=bS.zero.c) rfl λw1 A B _=>aQ ?_;have a:=B.trans (bC w1);have m:=A.ext (bC w1);generalize w1.drew=af at a m;have b:=h.lb.ext a;have hb:=hb.ext a;refine⟨λ_=>False,_,rfl,id,_,by rw[av];exact b.cell,_,rfl,id,_,by rw[av];exact b.cell,(Nn hb.he 1).use ?_⟩;rintro _ aF ⟨rfl,f⟩;refine⟨⟨none,0,0⟩,rfl,ad.bA f,(Np (r:=x.rc) (hb.b1.ext f) (dH.2 rfl) rfl).use ?_⟩;rintro _ G ⟨t,rfl,ht,o,_⟩;refine⟨t,rfl,_,rfl,1,((b.ext f).ext o).cell,(rH ht.src λq C=>ht.lt q C).use ?_⟩;rintro _ j ⟨bh,y,z,rfl,g,D⟩;refine⟨_,_,rfl,λh=>(by cases h),λ_=>aQ ?_⟩;have i:=((f.trans o).trans D).trans (bC j);have g:=g.ext (bC j);generalize j.drew=F at i g;refine⟨λ_=>False,_,rfl,id,1,(b.ext i).cell,id,_,(m.ext i).rd (bS.aY _),(rI F).use ?_⟩;rintro _ H ⟨rfl,p⟩;refine⟨_,rfl,λ_=>False,(Ng (g.ext p) 14921627313678984130).use ?_⟩;rintro _ I ⟨rfl,u⟩;exact⟨2,true,rfl,ad.bA u,rfl,((a.trans i).trans p).trans u⟩
theorem Gq(a:Var w wb (y7 x s k e) 167):az ah 179 #[.pointer (some ⟨wb,0,none⟩),.int .i64 0,.bool true] w (λv w'=>v=.int .i64 6/\w=w'):=by
 refine okF (Z.xf (some ⟨wb,0,none⟩) 0 true) aj.xf func179 ?_;(delta Z.xf aw b8 ae bx;dsimp only);refine⟨_,rfl,17,by rw[av];exact a.cell,λ_=>(Ny w).use ?_,λh=>(by cases h)⟩;rintro _ _ ⟨rfl,rfl⟩;exact⟨_,rfl,rfl,rfl⟩
theorem NL(g:Var w wb (y7 x s k e) 167)(u:Int):az ah 134 #[.pointer (some ⟨wb,0,none⟩),.int .i64 1,.agg (fP u).toArray] w (λv w'=>v=.agg (e4 1 dt 1 2 false e).toArray/\Ext w w'):=by
 refine okF (Z.w7 (some ⟨wb,0,none⟩) 1 (fP u).toArray) aj.w7 func134 ?_;(delta Z.w7 z3 r1 aa aK aw bR c6 bd a_ e6 bB;dsimp only);refine aV (vs:=fP u) rfl λw1 h c _=>aV (vs:=e4 0 dt 0 0 false 0) rfl λaf i d _=>aQ ?_;have b:=(c.trans d).trans (bC af);have he:=(h.ext d).ext (bC af);have f:=i.ext (bC af);generalize af.drew=l at b he f;simp only[av,cg];refine⟨id,1,he.cell,id,2,he.cell,_,rfl,id,e,by rw[av];exact(g.ext b).cell,sK (us:=e4 1 dt 1 2 false e) f rfl gX λaF a j=>⟨1,a.cell,dt,a.cell,1,a.cell,2,a.cell,false,a.cell,e,a.cell,rfl,Ext.bO b j c.size⟩⟩
theorem NM(h:eA w0 E d n l x wb s k e S T c w)(u:Int):az ah 129 #[.pointer (some ⟨wb,0,none⟩),.agg (fP u).toArray] w (λv w'=>∃t:ag,v=.agg (e4 1 t 1 2 false e).toArray/\t.len=28/\Ext w w'):=by
 refine okF (Z.w4 (some ⟨wb,0,none⟩) (fP u).toArray) aj.w4 func129 ?_;(delta Z.w4 z3 aa lJ bR bE aw fz a_ vR pn gI eK st vZ r1 bd aK e6 bB c6;dsimp only);refine aV (vs:=fP u) rfl λw1 r g _=>aV (vs:=e4 0 dt 0 0 false 0) rfl λaf y f _=>⟨fP u,(r.ext f).rd rfl,(NL (((h.v.ext g).ext f)) u).use ?_⟩;rintro _ aA ⟨rfl,z⟩;simp only[av,cg];refine⟨1,dt,1,2,false,e,rfl,BC (zs:=e4 0 dt 0 0 false 0) (us:=e4 1 dt 1 2 false e) rfl gX λj C D=>aQ ?_⟩;have i:=(z.trans D).trans (bC j);have A:=C.ext (bC j);generalize j.drew=I at i A;have m:=(g.trans f).trans i;have he:=(r.ext f).ext i;refine⟨λ_=>False,_,rfl,id,s,by rw[av];exact(h.v.ext m).cell,id,aH.zero.c,he.e2 (o:=2) (n:=17) (by show 2+17<=22;decide),id,8080,he.cell,(rA (h.mD.ext m) h.sc).use ?_⟩;rintro _ K ⟨t,rfl,ht,p⟩;have q:=A.ext p;refine⟨t,0,rfl,⟨_,q.cell⟩,aZ.frozen q _ rfl,sH q λF a B _=>?_⟩
 replace a:Var F aA.heap.size (e4 1 t 1 2 false e) 39:=a
 have L:=(g.trans f).size;have M:=z.size;have G:=((y.ext i).ext p).ak B (by have:=y.lt;omega);refine⟨1,a.cell,t,a.cell,1,a.cell,2,a.cell,false,a.cell,e,a.cell,sK (us:=e4 1 t 1 2 false e) G rfl gX λcy b H=>⟨1,b.cell,t,b.cell,1,b.cell,2,b.cell,false,b.cell,e,b.cell,t,rfl,ht,?_⟩⟩;exact Ext.bO (Ext.bO (m.trans p) B J) H g.size
end
section
variable {w w':I}{T:bf}{tk im:ag}{key val:Key}
theorem Gr(h:ck w T)(h0:T.bg=0)(tk:ag):az ah 299 #[.pointer (some T.bh),tk] w (λv w'=>v=.tuple #[(),(0:Int)]/\w=w'):=by
 refine okF (Z.xP (some T.bh) tk) aj.xP func299 ?_;(delta Z.xP aw r1 vQ ae pk gS bR aa bB bd a_ bx st aK bj bX bz ap an;dsimp only);have hc:=h.cells.2.2.2.2;rw[h0]at hc;refine⟨_,rfl,_,h.cells.2.2.2.1,_,rfl,0,hc,λs _ n w'=>s=⟨none,0,0⟩/\n=0/\w=w',λ_ _ _ _=>0,⟨rfl,rfl,rfl⟩,?_⟩;rintro _ _ _ _ ⟨rfl,rfl,rfl⟩;exact⟨λh=>(by cases h),λ_=>⟨rfl,rfl⟩⟩
theorem Gs(h:ck w T)(h0:T.bg=0)(c:Src 1 w tk (ax key)):az ah 249 #[.pointer (some T.bh),tk] w (λv w'=>v=.tuple #[(),false,(0:Int)]/\w=w'):=by
 refine okF (Z.xD (some T.bh) tk) aj.xD func249 ?_;(delta Z.xD ae bn eK an bB a_ gS bR aa bd hT bj bX bz;dsimp only);refine bK (λb w'=>w=w') (λq a=>⟨λh=>(by cases h),λ_=>(pI w tk).use ?_⟩) ?_
 .rintro _ _ ⟨rfl,rfl⟩
  exact⟨_,rfl,a _ _ rfl⟩
 rintro b _ rfl;refine⟨λ_=>⟨λh=>(by cases h),λ_=>⟨rfl,rfl⟩⟩,λ_=>(Gr h h0 tk).use ?_⟩;rintro _ _ ⟨rfl,rfl⟩;exact⟨⟨none,0,0⟩,0,rfl,λ_=>⟨rfl,rfl⟩,λh=>(by cases h)⟩
theorem NN(h:ck w T)(N:¬T.C.D.ro)(h0:T.bg=0)(aJ:T.C.D.bu<=800000000)
 (j:Src 1 w tk (ax key)) (m:Src 1 w im (ax val)) (hg:g3 key/\val.length<=24):
 az ah 290 #[.pointer (some T.bh),tk,im] w (λv w'=>E_ T [] (sh [] key val) w v w'):=by
 have O:=len8 j;have P:=len8 m;refine okF (Z.xL (some T.bh) tk im) aj.xL func290 ?_;(delta Z.xL ae bn bE aw en r1 bx an eK gS bR aa bB a_ bd C3;dsimp only);refine bK (λb w'=>b=false/\w=w') (λq o=>⟨λh=>(by cases h),λ_=>(pI w tk).use ?_⟩) ?_
 .rintro _ _ ⟨rfl,rfl⟩
  refine⟨_,rfl,o _ _ ⟨?_,rfl⟩⟩;have:=hg.1;unfold g3 at this;rw[O,eB this];rfl
 rintro _ _ ⟨rfl,rfl⟩;refine⟨λhb=>?_,λ_=>?_⟩
 .rw[P]at hb
  have:¬(val.length:Int)>24:=by have:=hg.2;omega
  simp[this]at hb
 have y:Ext w w.drew:=bC w;have hd:=h.ext y;have hc:=hd.cells.2.2.2.2;rw[h0]at hc;refine aQ ⟨λ_=>False,_,rfl,id,_,hd.cells.2.1,_,rfl,id,0,hc,(AX hd.s).use ?_⟩;rintro _ Q ⟨rfl,z⟩;have R:((T.n:Int)-eO (λi=>T.f i||T.g i) T.n)=(cS T:Nat):=by
  have:=m9 (λi=>T.f i||T.g i) T.n;unfold cS;omega
 rw[R];have r:=y.trans z;have A:=h.ext r;refine⟨_,rfl,z,λhb=>⟨T,A,(cD.ext T r).mono J,rfl,rfl,.inl ⟨rfl,?_,rfl⟩⟩,λhb=>(Gr A h0 tk).use ?_⟩
 .have hb:((cS T:Nat):Int)<3:=b3 hb
  omega
 have aK:3<=cS T:=by
  have:¬((cS T:Nat):Int)<3:=cx hb;omega
 rintro _ _ ⟨rfl,rfl⟩;refine⟨⟨none,0,0⟩,0,rfl,λhx=>(by cases hx),λ_=>aV (vs:=ml mm cC cC cC) rfl λaL E S aM=>⟨E.cn rfl (uE (b:=true) (K:=cC) (V:=cC) (D:=cC)),rfl,cU E (us:=ml ⟨true,[],[],[]⟩ cC cC cC) rfl rfl λF U W aN=>?_⟩⟩;have X:Ext Q F:=Ext.bO S W (bk _);refine k9 (λY=>F=Y) (λq o=>⟨λab=>(by cases ab),λ_=>o _ rfl⟩) ?_;rintro _ rfl;have p:=r.trans X;have ac:lf ⟨true,[],[],[]⟩:=⟨⟨λ_ h=>(by cases h),List.Pairwise.nil⟩,rfl,rfl,rfl,λ_ h=>(by cases h)⟩;have ad:lf ⟨true,[key],[val],[]⟩:=⟨⟨λk j=>(by rw[dH.1 j];exact hg.1),List.pairwise_singleton _ _⟩,rfl,rfl,rfl,λv m=>(by rw[dH.1 m];exact hg.2)⟩;obtain⟨d0,d1,d2,d3⟩:=dv U;refine⟨true,d0,cC,d1,cC,d2,cC,d3,(rU (B:=λ_=>True) (n:=⟨true,[],[],[]⟩) ⟨c8.none _ _,c8.none _ _,eS.none _ _⟩ ac (by simp) (j.ext p) (m.ext p) hg.1 hg.2).use ?_⟩;rw[show lh ⟨true,[],[],[]⟩ key val=⟨true,[key],[val],[]⟩ from rfl];rintro _ ag ⟨a,c,d,rfl,ai,al⟩;refine⟨_,a,c,d,true,rfl,aV (vs:=ml mm cC cC cC) rfl λaO G am aP=>⟨G.cn rfl uE,rfl,cU G (us:=ml ⟨true,[key],[val],[]⟩ a c d) rfl rfl λH ao ap aR=>⟨λhx=>(by cases hx),λ_=>?_⟩⟩⟩;have I:Ext ag H:=Ext.bO am ap (bk _);have aq:=al.trans I;have L:=p.trans aq;have ar:=h.ext L;obtain⟨d0,d1,d2,d3⟩:=dv ao;have au:dB (λq=>¬T.M q) H ⟨true,[key],[val],[]⟩ a c d:=(ai.ext I).cp λq _ o av=>by have:=(h.ext p).lt av;omega
 refine⟨_,d0,a,d1,c,d2,d,d3,(K5 (a8:=[]) (fM:=sh [] key val) ar N J J List.nodup_nil (λx hx=>(by cases hx)) (by simp) λcf aA af cI aB aC aS aD aE=>?_).use ?_⟩
 .have aF:dB (λq=>¬(T.dw cf aA).M q) af ⟨true,[key],[val],[]⟩ a c d:=(aC.bZ (lo:=0) (au.cp λq _ hb=>⟨dd _,hb⟩)).cp λq _ hb=>hb.2
  exact K3 rfl aB aF (by show T.C.D.bu<=_;omega) (by show 2<=cS T;omega) (by rw[aD];simp) aE ad (by simp) (by have h1:=hg.1;have h2:=hg.2;unfold g3 at h1;show 1+((2+key.length+val.length)+0)<=232;omega) rfl
 intro v w' aG;have aH:=yG.ak (br:=T.C) (w:=w) aG ((cD.ext T L).mono (l:=40) J) (bk _) (λ_=>rfl) (by rw[h0];omega);obtain⟨ay,h1,h2,t,u,aI⟩:=aH;rcases aI with ⟨rfl,e⟩|⟨rfl,e⟩|⟨rfl,e⟩
 .exact⟨2,rfl,ay,h1,h2,t,u,.inl ⟨rfl,e⟩⟩
 .exact⟨0,rfl,ay,h1,h2,t,u,.inr (.inl ⟨rfl,e⟩)⟩
 .exact⟨3,rfl,ay,h1,h2,t,u,.inr (.inr ⟨rfl,e⟩)⟩
end
section
variable {w w':I}{S:b7}{pages a8:Y Nat}{L bQ:Y cq}{tk im:ag}{key val:Key}
theorem Gt(h:dR w S pages L a8 bQ)(h0:S.T.bg=0)(a:Src 1 w tk (ax key)):az ah 236 #[.pointer (some S.st),tk] w (λv w'=>v=.tuple #[(),false,(0:Int)]/\w=w'):=by
 refine okF (Z.xy (some S.st) tk) aj.xy func236 ?_;(delta Z.xy ae aw nX;dsimp only);refine⟨λhb=>(by cases hb),λ_=>⟨_,rfl,_,h.v.cell,(Gs h.t h0 a).use ?_⟩⟩;rintro _ _ ⟨rfl,rfl⟩;exact⟨⟨none,0,0⟩,_,_,rfl,rfl,rfl⟩
theorem NO(h:dR w S [] [] a8 bQ)(h0:S.T.bg=0)(hf:S.failed=false)(g:sy S≠0)(e:S.pending<1000)(K:S.T.C.D.bu<=700000000)(k:S.gen<=1000000000)(i:S.T.C.D.quiet)
 (f:Src 1 w tk (ax key)) (j:Src 1 w im (ax val)) (hg:g3 key/\val.length<=24):
 az ah 242 #[.pointer (some S.st),tk,im] w (λv w'=>∃aM fV,fG 300 S aM w w'/\aM.now=S.now/\oH S aM fV (sh [] key val) a8 bQ v w'):=by
 have l:=len8 f;have m:=len8 j;refine okF (Z.xA (some S.st) tk im) aj.xA func242 ?_;(delta Z.xA ae bn aw bB bx nX;dsimp only);refine bK (λb w'=>b=false/\w=w') (λq o=>⟨λhb=>(by cases hb),λ_=>(ua w tk).use ?_⟩) ?_
 .rintro _ _ ⟨rfl,rfl⟩
  refine⟨_,rfl,o _ _ ⟨?_,rfl⟩⟩;have:=hg.1;unfold g3 at this;rw[l,eB this];rfl
 rintro _ _ ⟨rfl,rfl⟩;refine⟨λh1=>?_,λ_=>⟨_,rfl,false,by rw[av,←hf];exact h.v.cell,λhf=>(by cases hf),λ_=>(LI h).use ?_⟩⟩
 .have:=hg.2
  rw[m,gr J]at h1
  cases h1
 rintro _ L ⟨rfl,a⟩;have c:=h.ext a;obtain⟨r,M,_⟩:=h.live hf;refine⟨_,rfl,λs=>absurd s (by simpa using g),λ_=>⟨_,rfl,_,c.v.cell,(Gs c.t h0 (f.ext a)).use ?_⟩⟩;rintro _ _ ⟨rfl,rfl⟩;refine⟨⟨none,0,0⟩,false,0,rfl,λh=>(by cases h),λ_=>⟨_,rfl,_,c.v.cell,?_⟩⟩;refine(NN c.t r h0 J (f.ext a) (j.ext a) hg).use ?_;rintro v N ⟨c6,u,x,y,z,A⟩;have B:2*S.T.bg+5<=cS S.T:=by unfold sy at g;omega
 rcases A with ⟨_,O,_⟩|⟨rfl,_,E,F⟩|⟨rfl,G,_⟩
 .omega
 .have H:=h.keys
  have I:S.keys=0:=H;refine⟨0,rfl,λh=>(by cases h),λ_=>⟨λht=>(by cases ht),λ_=>(c.LL (d:=1) (fM:=sh [] key val) hf u x y z ⟨E,F⟩ B (λp e=>?_) (by rw[I];rfl) (by show 1<4096;decide) J e J k i).use ?_⟩⟩
  .rcases I6.1 e with rfl|⟨h1,_⟩
   .exact hg
   .cases h1
  .rintro v w' ⟨⟨n,rfl⟩,aM,fV,r1,b8,a_⟩
   exact⟨n,rfl,aM,fV,((fG.ext S a).trans r1).mono J,b8,a_⟩
 .exact absurd (i.1 100) G
end
section
variable {w0 w w':I}{b2:Nat->Prop}{d n ab most c:Nat}{l:dM}{S:b7}{pages a8:Y Nat}{cm:Y bP}{s:Int}{p:bS}
theorem NP(h:ey w0 w b2 d n l ab most S pages a8 [] cm c)(hg:jJ s p=true)(now:Int):az ah 187 #[.pointer (some ab),s,.agg p.c.toArray,.int .u64 now] w (λv w'=>v=.tuple #[.agg bP.zero.c.toArray,false,(0:Int)]/\Ext w w'):=by
 refine Z.H6 (some ab) s _ now w _ ?_;(delta Z.tV l_ aa jg ae aw nX fy b5 db;dsimp only);refine aV (vs:=p.c) rfl λw1 i b q=>aV (vs:=bP.zero.c) rfl λaf j e r=>⟨p.c,(i.ext e).rd (bS.aY _),(Mg s p af).use ?_⟩;have k:=b.trans e;rintro _ aA ⟨f,⟨hf,_⟩|⟨_,tk,rfl,m,_⟩⟩
 .rw[hg]at hf;cases hf
 have g:=k.trans f;have a:=h.ext g;refine⟨tk,true,rfl,λh=>(by cases h),λ_=>⟨_,rfl,_,a.v.cell,(Gt a.s.at_ a.s.at_.ok.empty.2 m.src).use ?_⟩⟩;rintro _ _ ⟨rfl,rfl⟩;exact⟨⟨none,0,0⟩,false,0,rfl,λ_=>⟨_,JD aA,Mm (j.ext f) (bP.aY _) bP.zero λt o=>⟨rfl,Ext.bO g o b.size⟩⟩,λh=>(by cases h)⟩
theorem NQ(h:ey w0 w b2 d n l ab most S pages a8 [] cm c)(hc:c<=20000){t:bP}(ht:t.ok):az ah 189 #[.pointer (some ab),.agg t.c.toArray] w (λv w'=>v=.int .i64 0/\nn w0 b2 d n l ab most S cm [t] w (c+1) w'):=by
 refine Z.H7 (some ab) _ w _ ?_;(delta Z.tW ae aa bn r1 jg aK b5 db aE aw nX bE en bx;dsimp only);refine aV (vs:=t.c) rfl λw1 m H R=>bK (λb w'=>b=false/\Ext w1 w') (λk I=>⟨λh=>(by cases h),λ_=>⟨t.c,m.rd (bP.aY t),(pD t w1).use λv w' K=>by obtain⟨rfl,hx⟩:=K;exact⟨t.fm,rfl,I _ _ ⟨by rw[ht.1];rfl,hx⟩⟩⟩⟩) ?_;rintro _ aF ⟨rfl,o⟩;have j:=m.ext o;refine⟨λhb=>(by cases hb),λ_=>⟨_,j.cell,_,DZ j,(mZ t.s t.p aF).use ?_⟩⟩;rintro _ L ⟨r,⟨hf,_⟩|⟨_,tk,rfl,M,T⟩⟩
 .rw[ht.k]at hf;cases hf
 have y:=j.ext r;refine⟨tk,true,rfl,_,D1 y,_,JC y,(rJ t.b ht.2 L).use ?_⟩;rintro _ z (⟨hf,_⟩|⟨_,im,rfl,N,A,U⟩)
 .rw[ht.b]at hf;cases hf
 have B:=((H.trans o).trans r).trans A;have f:=h.ext B;have C:=M.ext A;refine⟨im,true,rfl,_,rfl,_,f.v.cell,(Gt f.s.at_ f.s.at_.ok.empty.2 C.src).use ?_⟩;rintro _ _ ⟨rfl,rfl⟩;have g:=bC z;have a:=f.ext g;have D:=C.src.ext g;have E:=N.src.ext g;have F:=B.trans g;refine⟨⟨none,0,0⟩,false,0,rfl,λh=>(by cases h),λ_=>aQ ⟨λ_=>False,λ_=>?_,λh=>(by cases h)⟩⟩;generalize z.drew=V at a D E F;refine⟨_,rfl,id,_,a.v.cell,(Mf a.v a.s.at_).use ?_⟩;rintro _ _ ⟨rfl,rfl⟩;have W:=h.sE;have i:=a.s.at_;obtain rfl:pages=[]:=List.eq_nil_of_length_eq_zero (by have:=(i.ok.low (by decide)).2;simpa using this);have hb:=i.num.2.2.2.2.1;have O:=a.s.lim;have X:=a.p8;have Y:=a.s.bu;have ac:=a.s.gen;refine⟨_,rfl,.refl _ _,λG=>absurd (b3 G) (by show¬((0:Nat):Int)>=_;omega),λG=>⟨_,rfl,_,a.v.cell,(NO (key:=ow t.s.toNat t.p) (val:=uv t.b.toNat t.u) i i.ok.empty.2 a.live a.room (by rw[O]at hb;omega) J J a.q D E ⟨Mh,by rw[JF];decide⟩).use ?_⟩⟩;rintro v w' ⟨aM,fV,hd,P,hm⟩;obtain⟨e,Q⟩:=a.more (ay:=[t]) hm hd P J (by simp) (by show 1<=most;omega) λx hx=>by rw[dH.1 hx];exact ht
 subst e;exact⟨0,rfl,rfl,Q.pre F⟩
end
def jX(E:Nat->Prop)(l:Y Nat)(w w':I):Prop:=∃V:Nat->Prop,ad V w w'/\∀q,E q->V q->q∈l
section
variable {w0 w w' w1 aC cA:I}{E:Nat->Prop}{d n:Nat}{l:dM}{x:iw}{wb q iu c:Nat}{s k:ag}{e u y:Int}{S aM:b7}{T ay:Y bP}{vs:Y O}{jS:TypeId}
theorem jX.var{l:Y Nat}(h:jX E l w w')(a:Var w q vs jS)(h0:E q)(b:q∉l):Var w' q vs jS:=by
 obtain⟨V,hc,dr⟩:=h;exact a.ak hc λc=>b (dr q h0 c)
theorem eA.lt(h:eA w0 E d n l x wb s k e S T c w):wb<w.heap.size:=h.v.lt
theorem eA.y8(h:eA w0 E d n l x wb s k e S T c w):Var w x.ab [.pointer (some S.st),.int .i64 ((6:Nat):Int)] 193:=by
 obtain⟨dV,p,cm,a⟩:=h.a;exact a.v
theorem eA.grow(h:eA w0 E d n l x wb s k e S T c w)(hx:Ext w w'):∃aM,eA w0 (λq=>E q\/(w.heap.size<=q/\q<w'.heap.size)) d n l x wb s k e aM T c w':=by
 obtain⟨dV,p,cm,a⟩:=h.a;exact⟨_,⟨⟨dV,p,cm,a.grow hx (λq b=>b) (.inl a.oK)⟩,h.lb.ext hx,h.v.ext hx,h.mD.ext hx,h.sc,λq b=>.inl (h.o q b),h.oI,h.now⟩⟩
theorem NR(h:eA w0 E d n l x wb s k e S T c cA)(hb:gC cA x)(j:¬x.own wb)(g:Var cA w.heap.size bS.zero.c 255){Q:O->I->Prop}
 (m:∀aC w',eA w0 E d n l x wb s k y S T c aC->gC aC x->ad (λq=>q=wb) cA aC->Ext aC w'->Q (.tuple #[.int .i64 2,.bool true]) w'):Z.rq (some ⟨wb,0,none⟩) w ⟨iu,0,none⟩ false y cA Q:=by
 (delta Z.rq aw st ae r1 bn zY bE en aa hT;dsimp only);obtain⟨bH,bL,b⟩:=h.err y;have f:=dD cA wb 107 (.int .i64 y);have i:=hb.ak f λq o e=>j (e▸o);have p:=g.ak f λe=>absurd (Var.inj (e▸g) h.v) (by decide);refine⟨_,rfl,by rw[av];exact bH,by rw[av];exact bL,aQ (aQ ⟨λh=>(by cases h),λ_=>⟨λh=>(by cases h),λ_=>?_⟩⟩)⟩;rw[av];have a:=(bC (cA.setCell ⟨wb,0+107,none⟩ (.int .i64 y))).trans (bC _);refine aQ ⟨λ_=>False,_,rfl,id,_,(b.v.ext a).cell,_,rfl,id,1,by rw[av];exact(b.v.ext a).cell,id,_,(p.ext a).rd (bS.aY _),(NK (b.ext a) (i.ext a)).use ?_⟩;rintro _ t ⟨rfl,r⟩;exact⟨2,true,rfl,m _ _ b i f (a.trans r)⟩
theorem NS(h:eA w0 E d n l x wb s k e S [] c w)(hb:gC w x)(H:¬x.own wb):az ah 131 #[.pointer (some ⟨wb,0,none⟩),.agg bS.zero.c.toArray] w (λv w'=>v=.tuple #[.int .i64 2,.bool true]/\(∃aM,eA w0 E d n l x wb s k 0 aM [] c w')/\gC w' x/\jX E [wb] w w'):=by
 refine okF (Z.w5 (some ⟨wb,0,none⟩) bS.zero.c.toArray) aj.w5 func131 ?_;(delta Z.w5 aw fj bn ae bE en r1 aa ek vO aE l_;dsimp only);refine aV (vs:=bS.zero.c) rfl λw1 J f _=>⟨_,rfl,_,(h.v.ext f).cell,_,rfl,_,by rw[av];exact(h.lb.ext f).cell,?_⟩;obtain⟨dV,p,cm,a⟩:=h.a;have a1:=a.ext f;refine(yK a1.v).use ?_;rintro _ _ ⟨rfl,rfl⟩;refine⟨_,rfl,(LG a1.s.at_).use ?_⟩;rintro _ _ ⟨rfl,rfl⟩;rw[a.live];refine⟨_,rfl,λh=>(by cases h),λ_=>aQ ?_⟩;have b:=f.trans (bC w1);have i:=J.ext (bC w1);generalize w1.drew=aR at b i;have K:=h.lb.ext b;have j:=h.v.ext b;refine⟨λ_=>False,_,rfl,id,_,j.cell,_,rfl,id,_,by rw[av];exact K.cell,_,rfl,id,1,by rw[av];exact j.cell,id,_,i.rd (bS.aY _),_,rfl,id,_,j.cell,?_⟩;have fin:∀ {cA:I} (t:Nat),Ext aR cA->Z.rq (some ⟨wb,0,none⟩) w ⟨t,0,none⟩ false 0 cA (λv w'=>v=.tuple #[.int .i64 2,.bool true]/\(∃aM,eA w0 E d n l x wb s k 0 aM [] c w')/\gC w' x/\jX E [wb] w w'):=by
  intro cA t hx;have m:=b.trans hx;refine NR (h.ext m) (hb.ext m) H (i.ext hx) ?_;intro W w' L M N o;exact⟨rfl,⟨S,L.ext o⟩,M.ext o,_,((ad.bA m).trans N).trans (ad.bA o),λq _ O=>dH.2 O⟩
 have r:∀ {aC:I},Ext aR aC->az ah 187 #[.pointer (some ⟨x.ab,0,none⟩),.int .i64 1,.agg bS.zero.c.toArray,.int .u64 0] aC (λv w'=>v=.tuple #[.agg bP.zero.c.toArray,.bool false,.int .i64 0]/\Ext aC w'):=λP=>NP (a.ext (b.trans P)) (by decide+kernel) 0;have u:∀v∈Array.toList bP.zero.c.toArray,Plain v:=by simpa using bP.plain _
 refine⟨(oR (h.ext b)).use ?_,aV (vs:=bP.zero.c) rfl λX Q g _=>⟨ad.bA g,(oR ((h.ext b).ext g)).use ?_⟩⟩
 .rintro _ _ ⟨rfl,rfl⟩
  refine⟨0,rfl,ad.refl _ _,(r (.refl _ _)).use ?_,aV (vs:=bP.zero.c) rfl λY R y _=>⟨ad.bA y,(r y).use ?_⟩⟩
  .rintro _ ac ⟨rfl,B⟩
   exact⟨_,_,_,rfl,ad.bA B,aV (vs:=bP.zero.c) rfl λcy C D _=>⟨ad.bA D,C.cn (by simp) u,by simp[bP.aY],cU C (us:=bP.zero.c) (by simp) rfl λaf ag T _=>fin _ (B.trans (Ext.bO D T (bk _)))⟩⟩
  .rintro _ ai ⟨rfl,z⟩
   have F:=R.ext z;exact⟨_,_,_,rfl,ad.bA z,F.cn (by simp) u,by simp[bP.aY],cU F (us:=bP.zero.c) (by simp) rfl λd_ ak U _=>fin _ (Ext.bO (y.trans z) U (bk _))⟩
 .rintro _ _ ⟨rfl,rfl⟩
  refine⟨0,rfl,ad.refl _ _,(r g).use ?_⟩;rintro _ al ⟨rfl,A⟩;have G:=Q.ext A;exact⟨_,_,_,rfl,ad.bA A,G.cn (by simp) u,by simp[bP.aY],cU G (us:=bP.zero.c) (by simp) rfl λam an V _=>fin _ (Ext.bO (g.trans A) V (bk _))⟩
end
def kk(u:Nat):bP:=⟨1,bS.zero,2,u⟩
section
variable {w0 w w' w1 bl cy bY d_:I}{E:Nat->Prop}{d n:Nat}{l:dM}{x:iw}{wb q iu c ca:Nat}{s k:ag}{e u y:Int}{S aM:b7}{T ay:Y bP}{vs:Y O}{jS:TypeId}
theorem Gu(hb:gC w x):az ah 85 #[.pointer (some x.bm.p),(1:Int),(2:Int)] w (λv w'=>v=.tuple #[.agg kT.c.toArray,true]/\Ext w w'):=by
 refine(Gb hb.b1 1 2).mono ?_;rintro _ w' ⟨hx,⟨r,a,h1,d,h2,rfl⟩|⟨b,rfl⟩⟩
 .rw[dH]at a
  subst a;exact⟨rfl,hx⟩
 .exact absurd b (by show¬qn [(jW,[kT])] 1 2=false;decide+kernel)
def lY(w0:I)(E:Nat->Prop)(d n:Nat)(l:dM)(x:iw)(wb c:Nat)(w:I)(v:O)(w':I):Prop:=(∃ (t:ag) (e:Int),v=.agg (e4 1 t 1 2 true e).toArray/\t.len=28)/\jX E [wb,x.m1,x.m2] w w'/\
 ∃ (a:Nat->Prop) (aM:b7) (dV p:Y Nat) (cm:Y bP),(∀q,E q->a q)/\ey w0 w' a d n l x.ab 6 aM dV p [kk 9] cm c
theorem NT(h:eA w0 E d n l x wb s k 0 S [] c d_)(hc:c<=1000)(ht:Var d_ iu (kk 9).c 288){K:I->Prop}{Q:O->I->Prop}
 (i:∀ (aC w':I) (y:Int) (aM:b7),ad S.W d_ aC->(w'=aC\/ad (λq=>q=wb) aC w')->eA w0 E d n l x wb s k y aM [kk 9] (c+1) w'->K w'):Z.tO (some ⟨wb,0,none⟩) K ⟨iu,0,none⟩ d_ Q:=by
 (delta Z.tO aw bx r1 ae st;dsimp only);have hx:=bC d_;have b:=h.ext hx;have e:=ht.ext hx;refine aQ ?_;generalize d_.drew=r at hx b e;obtain⟨dV,p,cm,a⟩:=b.a;refine⟨_,rfl,id,_,b.v.cell,_,rfl,id,_,by rw[av];exact b.lb.cell,id,(kk 9).c,e.rd (bP.aY _),(NQ a J (t:=kk 9) ⟨by decide+kernel,by decide⟩).use ?_⟩;rintro _ f ⟨rfl,u,jP,j,gh,cX,a1,d1,dN,aJ⟩;have g:=b.done d1 dN ⟨j,gh,cX,a1⟩;have m:ad S.W d_ f:=(ad.bA hx).trans d1.ak;obtain⟨bH,bL,o⟩:=g.err 0;exact⟨_,rfl,_,rfl,0,by rw[av];exact g.v.cell,λ_=>⟨_,rfl,by rw[av];exact bH,by rw[av];exact bL,aQ (by rw[av];exact i _ _ _ _ m (.inr (dD f wb 107 _)) o)⟩,λh=>(by cases h)⟩
theorem jX.more{L:Y Nat}(h:jX E L w w1){W:Nat->Prop}(hc:ad W w1 w')(b4:∀q,W q->w.heap.size<=q):jX E L w w':=by
 obtain⟨V,c,g⟩:=h;exact⟨V,ct c hc λq a e=>by have:=b4 q e;omega,g⟩
theorem NU(h:eA w0 E d n l x wb s k 0 S [] c w)(hc:c<=1000)(hb:gC w x)(aj:∀q,x.own q->E q)(al:∀q,x.own q->¬aD s q)(M:Ext w bY)(aP:Var bY w.heap.size bS.zero.c 255)(aR:Var bY w1.heap.size (e4 0 dt 0 0 false 0) 39)(he:Var bY iu (fP 0) 178)
 (am:w.heap.size<=iu) (aS:w.heap.size<=w1.heap.size) (an:iu≠w.heap.size/\iu≠w1.heap.size):Z.tP (some ⟨wb,0,none⟩) 2 w w1 ⟨iu,0,none⟩ bY (lY w0 E d n l x wb (c+1) w):=by
 have N:x.own x.m1:=.inr (.inl rfl);have O:x.own x.m2:=.inr (.inr (.inl rfl));have bm:=hb.lt _ N;have bn:=hb.lt _ O;have bo:=h.lt;have la:=h.y8.lt;(delta Z.tP r1 ek ae aw st bE bx aE en aa ky db l_ lJ z3 bR vZ bd a_ aK e6 bB c6;dsimp only);refine k9 (λi=>∃ (cf:Nat->Prop) (y u:Int) (aM:b7),(∀q,E q->cf q)/\cf w1.heap.size/\eA w0 cf d n l x wb s k y aM [kk 9] (c+1) i/\Var i iu (fP u) 178/\Var i w1.heap.size (e4 0 dt 0 0 false 0) 39/\jX E [wb,x.m1,x.m2] w i) (λK aT=>?_) ?_
 .refine⟨6,by rw[av];exact he.cell,(Nz bY).use ?_⟩
  rintro _ _ ⟨rfl,rfl⟩;refine⟨40,rfl,λ_=>⟨_,rfl,_,(h.v.ext M).cell,(oR (h.ext M)).use ?_⟩,λh=>(by cases h)⟩;rintro _ _ ⟨rfl,rfl⟩;refine⟨0,rfl,⟨_,by rw[av];exact he.cell⟩,by rw[av];exact aZ.frozen he _ rfl,?_⟩;rw[av];refine sH he λm P Q _=>aQ ?_;have aU:=Ext.bO M Q am;have G:=aU.trans (bC m)
  replace P:Var m iu (fP (IntKind.wrap .u64 (0+40))) 178:=P
  have C:=P.ext (bC m);have ao:=(aP.ak Q an.1.symm).ext (bC m);have R:=(aR.ak Q an.2.symm).ext (bC m);generalize m.drew=aX at G C ao R;generalize IntKind.wrap .u64 (0+40)=u at C;obtain⟨dm,f⟩:=h.grow G;generalize T:(λq=>E q\/(w.heap.size<=q/\q<aX.heap.size))=cf at f;have r:∀q,E q->cf q:=λq j=>by rw[←T];exact .inl j
  have a0:cf iu:=by rw[←T];exact .inr ⟨am,C.lt⟩
  have H:cf w1.heap.size:=by rw[←T];exact .inr ⟨aS,R.lt⟩
  refine⟨λ_=>False,_,rfl,id,_,f.v.cell,_,rfl,id,_,by rw[av];exact f.lb.cell,_,rfl,id,fH.c,by rw[av,av];exact f.v.e2 (o:=46) (n:=37) (by show 46+37<=108;decide),id,fP u,C.rd rfl,_,rfl,id,_,f.v.cell,(oR f).use ?_⟩;rintro _ _ ⟨rfl,rfl⟩;refine⟨0,rfl,ad.refl _ _,(ND (hb.fw.ext G) (by decide)).use ?_⟩;rintro _ ap ⟨rfl,af,D,a1⟩;obtain⟨a2,a3,a4,a5,a6⟩:=a1 (λz=>eA w0 cf d n l x wb s k 0 dm [] c z/\Var z w.heap.size bS.zero.c 255/\Var z iu (fP u) 178/\Var z w1.heap.size (e4 0 dt 0 0 false 0) 39/\ad (λq=>q=x.m1\/q=x.m2) w z)
   ⟨f.ext D,ao.ext D,C.ext D,R.ext D,ad.bA (G.trans D)⟩ (by
    rintro z bp ⟨aJ,aW,aq,ar,au⟩ (b|b)
    .exact⟨aJ.set (r _ (aj _ N)) ⟨λe=>hb.fw.bH.hO (e▸h.lb),λe=>hb.fw.bH.hO (e▸h.v),al _ N⟩ (λe=>hb.fw.bH.hO (e▸h.y8)) b,aW.ak b J,aq.ak b J,ar.ak b J,au.trans (b.mono λq _ e=>.inl e)⟩
    .exact⟨aJ.set (r _ (aj _ O)) ⟨λe=>hb.fw.bL.hO (e▸h.lb),λe=>hb.fw.bL.hO (e▸h.v),al _ O⟩ (λe=>hb.fw.bL.hO (e▸h.y8)) b,aW.ak b J,aq.ak b J,ar.ak b J,au.trans (b.mono λq _ e=>.inr e)⟩)
  have F:=bC ap;have A:=a2.ext F;have ax:=a3.ext F;have U:=a4.ext F;have ay:=a5.ext F;have az:=a6.trans (ad.bA F);refine⟨0,rfl,λh=>(by cases h),λ_=>⟨λh=>(by cases h),λ_=>aQ ?_⟩⟩;generalize ap.drew=a7 at A ax U ay az;have fin:∀ {d_:I} (t:Nat),Ext a7 d_->Var d_ t (kk 9).c 288->Z.tO (some ⟨wb,0,none⟩) K ⟨t,0,none⟩ d_ (lY w0 E d n l x wb (c+1) w):=by
   intro d_ t L ht;refine NT (A.ext L) hc ht λaC w' y aM X a8 a9=>aT _ ⟨cf,y,u,aM,r,H,a9,?_⟩;have aA:=(U.ext L).ak X (f.mE a0);have gI:=(ay.ext L).ak X (f.mE H);have hU:ad (λq=>dm.W q\/q=wb\/q=x.m1\/q=x.m2) w aC:=((az.mono λq _ h=>.inr (.inr h)).trans (ad.bA L)).trans (X.mono λq _ j=>.inl j);have dr:∀q,E q->(dm.W q\/q=wb\/q=x.m1\/q=x.m2)->q∈ [wb,x.m1,x.m2]:=by
    rintro q h0 (j|j)
    .exact absurd j (f.mE (r q h0))
    .simpa using j
   rcases a8 with rfl|Y
   .exact⟨aA,gI,_,hU,dr⟩
   .exact⟨aA.ak Y J,gI.ak Y J,_,hU.trans (Y.mono λq _ e=>.inr (.inl e)),dr⟩
  refine⟨λ_=>False,id,1,U.cell,id,bS.zero.c,ax.rd (bS.aY _),_,rfl,id,_,A.v.cell,_,rfl,id,9,by rw[av,av];exact A.v.cell,(oR A).use ?_,aV (vs:=bP.zero.c) rfl λbq aB ab _=>⟨ad.bA ab,(oR (A.ext ab)).use ?_⟩⟩
  .rintro _ _ ⟨rfl,rfl⟩
   exact⟨0,rfl,ad.refl _ _,(kk 9).c.toArray,λba=>by kernel_rfl,aV (vs:=bP.zero.c) rfl λbr aF aG _=>⟨ad.bA aG,aF.cn (by simp[bP.aY]) (by simpa using bP.plain _),by simp[bP.aY],cU aF (us:=(kk 9).c) (by simp[bP.aY]) rfl λd_ ac ag _=>fin _ (Ext.bO aG ag (bk _)) ac⟩⟩
  .rintro _ _ ⟨rfl,rfl⟩
   exact⟨0,rfl,ad.refl _ _,(kk 9).c.toArray,λba=>by kernel_rfl,aB.cn (by simp[bP.aY]) (by simpa using bP.plain _),by simp[bP.aY],cU aB (us:=(kk 9).c) (by simp[bP.aY]) rfl λd_ ac ag _=>fin _ (Ext.bO ab ag (bk _)) ac⟩
 rintro i ⟨cf,y,u,aM,r,H,aH,bb,bc,aI⟩;refine⟨fP u,bb.rd rfl,(NM aH u).use ?_⟩;rintro _ be ⟨t,rfl,bf,aL⟩;simp only[av,cg];obtain⟨dV,p,cm,bg⟩:=aH.a;have bs:w.heap.size<=i.heap.size:=by obtain⟨V,c,_⟩:=aI;exact c.size
 have bh:=aL.size;refine⟨1,t,1,2,false,y,rfl,BC (zs:=e4 0 dt 0 0 false 0) (us:=e4 1 t 1 2 false y) rfl gX λbt ah bi=>⟨⟨_,ah.cell⟩,aZ.frozen ah _ rfl,sH ah λaN g bj _=>?_⟩⟩
 replace g:Var aN be.heap.size (e4 1 t 1 2 true y) 39:=g
 have ai:Ext i aN:=Ext.bO (aL.trans bi) bj bh;have bl:=bc.ext ai;exact⟨1,g.cell,t,g.cell,1,g.cell,2,g.cell,true,g.cell,y,g.cell,sK (us:=e4 1 t 1 2 true y) bl rfl gX λbu B aO=>⟨1,B.cell,t,B.cell,1,B.cell,2,B.cell,true,B.cell,y,B.cell,⟨t,y,rfl,bf⟩,(aI.more (ad.bA (W:=λ_=>False) ai) λq h=>h.elim).more aO λq e=>J,cf,aM,dV,p,cm,r,(bg.ext ai).hG H J aO⟩⟩
end
section
variable {w0 w w' w1 bl bG ji:I}{E:Nat->Prop}{d n:Nat}{l:dM}{x:iw}{wb q iu pa c:Nat}{s k:ag}{e u y:Int}{S aM:b7}{T ay:Y bP}{vs:Y O}{jS:TypeId}
theorem NV(h:eA w0 E d n l x wb s k 0 S [] c w)(hc:c<=1000)(hb:gC w x)(A:∀q,x.own q->E q)(B:∀q,x.own q->¬aD s q)(a:Ext w bl)(b:Var bl w.heap.size bS.zero.c 255)(e:Var bl w1.heap.size (e4 0 dt 0 0 false 0) 39)(he:Var bl iu kT.c 51)
 (C:w.heap.size<=w1.heap.size):Z.tQ (some ⟨wb,0,none⟩) 2 w w1 ⟨iu,0,none⟩ bl (lY w0 E d n l x wb (c+1) w):=by
 (delta Z.tQ bE aw en r1 pn gI bx iH aa;dsimp only);have g:=bC bl;have a:=a.trans g;have b:=b.ext g;have e:=e.ext g;have he:=he.ext g;refine aQ ?_;generalize bl.drew=p at a b e he;have f:=h.v.ext a;have z:=a.size;have F:=b.lt;have G:=e.lt;have fin:∀ {cy:I} (t:Nat),Ext p cy->p.heap.size<=t->Var cy t (fP 0) 178->Z.tP (some ⟨wb,0,none⟩) 2 w w1 ⟨t,0,none⟩ cy (lY w0 E d n l x wb (c+1) w):=λt hx ht f=>NU h hc hb A B (a.trans hx) (b.ext hx) (e.ext hx) f J C ⟨J,J⟩;refine⟨λ_=>False,_,rfl,id,1,by rw[av];exact f.cell,id,aH.zero.c,by rw[av];exact he.e2 (o:=1) (n:=17) (by show 1+17<=21;decide),id,8080,by rw[av];exact he.cell,(Gq f).use ?_,aV (vs:=eJ) (by kernel_rfl) λH r i _=>⟨ad.bA i,(Gq (f.ext i)).use ?_⟩⟩
 .rintro _ _ ⟨rfl,rfl⟩
  exact⟨6,rfl,ad.refl _ _,(fP 0).toArray,λD=>by kernel_rfl,aV (vs:=eJ) (by kernel_rfl) λK u y _=>⟨ad.bA y,u.cn (by rfl) (by simpa using Gp 0),by rfl,cU u (us:=fP 0) (by rfl) rfl λcy j m _=>fin _ (Ext.bO y m (bk _)) (bk _) j⟩⟩
 .rintro _ _ ⟨rfl,rfl⟩
  exact⟨6,rfl,ad.refl _ _,(fP 0).toArray,λD=>by kernel_rfl,r.cn (by rfl) (by simpa using Gp 0),by rfl,cU r (us:=fP 0) (by rfl) rfl λcy j m _=>fin _ (Ext.bO i m (bk _)) (bk _) j⟩
theorem NW(h:eA w0 E d n l x wb s k 0 S [] c w)(hc:c<=1000)(hb:gC w x)(A:∀q,x.own q->E q)(B:∀q,x.own q->¬aD s q):az ah 132 #[.pointer (some ⟨wb,0,none⟩),.agg bS.zero.c.toArray,.int .i64 2] w (lY w0 E d n l x wb (c+1) w):=by
 refine okF (Z.w6 (some ⟨wb,0,none⟩) bS.zero.c.toArray 2) aj.w6 func132 ?_;(delta Z.w6 z3 bE aw en r1 fy l9 aa;dsimp only);refine aV (vs:=bS.zero.c) rfl λw1 C j _=>aV (vs:=e4 0 dt 0 0 false 0) rfl λaf D m _=>aQ ?_;have a:=(j.trans m).trans (bC af);have o:=(C.ext m).ext (bC af);have p:=D.ext (bC af);generalize af.drew=F at a o p;have b:=h.v.ext a;have G:=h.lb.ext a;have fin:∀ {bl:I} (t:Nat),Ext F bl->Var bl t kT.c 51->Z.tQ (some ⟨wb,0,none⟩) 2 w w1 ⟨t,0,none⟩ bl (lY w0 E d n l x wb (c+1) w):=λt hx b=>NV h hc hb A B (a.trans hx) (o.ext hx) (p.ext hx) b j.size;refine⟨λ_=>False,_,rfl,id,_,b.cell,_,rfl,id,_,by rw[av];exact G.cell,_,rfl,id,1,by rw[av];exact b.cell,(Gu (hb.ext a)).use ?_,aV (vs:=bD.zero.c) (by kernel_rfl) λK H e _=>⟨ad.bA e,(Gu ((hb.ext a).ext e)).use ?_⟩⟩
 .rintro _ L ⟨rfl,r⟩
  exact⟨_,_,rfl,ad.bA r,aV (vs:=bD.zero.c) (by kernel_rfl) λM u y _=>⟨ad.bA y,u.cn (by simp[bD.aY]) (by simpa using bD.plain _),by simp[bD.aY],cU u (us:=kT.c) (by simp[bD.aY]) rfl λJ f g _=>fin _ (r.trans (Ext.bO y g (bk _))) f⟩⟩
 .rintro _ N ⟨rfl,i⟩
  have z:=H.ext i;exact⟨_,_,rfl,ad.bA i,z.cn (by simp[bD.aY]) (by simpa using bD.plain _),by simp[bD.aY],cU z (us:=kT.c) (by simp[bD.aY]) rfl λJ f g _=>fin _ (Ext.bO (e.trans i) g (bk _)) f⟩
theorem NX:(iS aH.zero 0).getD bS.zero=bS.zero:=by decide+kernel
theorem NY(h:eA w0 E d n l x wb s k e S [] c w)(hc:c<=900)(hb:gC w x)(C:∀q,x.own q->E q)(D:∀q,x.own q->¬aD s q)(F:¬x.own wb)(f:Ext w ji)(i:Var ji pa bS.zero.c 255)(r:Var ji w.heap.size (e4 0 dt 0 0 false 0) 39)(G:w.heap.size<=pa):
 Z.tM (some wb) w pa ji (lY w0 E d n l x wb (c+1) w):=by
 have U:=h.lt;have V:=hb.lt x.m1 (.inr (.inl rfl));have W:=hb.lt x.m2 (.inr (.inr (.inl rfl)));have z:=f.size;(delta Z.tM hT ae lJ bR aa c6 r1 bd a_ aK e6 bB;dsimp only);obtain⟨aM,u⟩:=h.grow f;generalize j:(λq=>E q\/(w.heap.size<=q/\q<ji.heap.size))=cf at u;have g:∀q,E q->cf q:=λq a=>by rw[←j];exact .inl a
 have H:cf pa:=by rw[←j];exact .inr ⟨G,i.lt⟩
 have m:cf w.heap.size:=by rw[←j];exact .inr ⟨bk _,r.lt⟩
 have I:∀q,x.own q->cf q:=λq a=>g q (C q a);refine⟨_,i.rd (bS.aY _),(NS u (hb.ext f) F).use ?_⟩;rintro _ X ⟨rfl,⟨dm,K⟩,L,o⟩;have M:=o.var i H (by simp;omega);have N:=o.var r m (by simp;omega);refine⟨2,true,rfl,λh=>(by cases h),λ_=>⟨_,M.rd (bS.aY _),(NW K J L I D).use ?_⟩⟩;rintro _ Y ⟨⟨t,y,rfl,O⟩,v,qc,nm,dV,p,cm,A,P⟩;have Q:=v.var N m (by simp;omega);have la:=h.y8.lt;simp only[av,cg];refine⟨1,t,1,2,true,y,rfl,sK (us:=e4 1 t 1 2 true y) Q rfl gX λab b B=>⟨1,b.cell,t,b.cell,1,b.cell,2,b.cell,true,b.cell,y,b.cell,⟨t,y,rfl,O⟩,?_,qc,nm,dV,p,cm,λq a=>A q (g q a),P.hG (A _ m) J B⟩⟩;obtain⟨R,cd,aJ⟩:=o;obtain⟨T,cI,aW⟩:=v;refine⟨λq=>R q\/T q,ct (((ad.bA f).trans (cd.mono λ_ _ h=>.inl h)).trans (cI.mono λ_ _ h=>.inr h)) B λq a e=>J,λq h0 a=>?_⟩;rcases a with a|a
 .have:=aJ q (g q h0) a
  simp at this;simp[this]
 .exact aW q (g q h0) a
theorem Gv(hb:gC w x):az ah 85 #[.pointer (some x.bm.p),(0:Int),(0:Int)] w (λv w'=>∃ (z:bD) (b:ai),v=.tuple #[.agg z.c.toArray,b]/\Ext w w'):=by
 refine(Gb hb.b1 0 0).mono ?_;rintro _ w' ⟨hx,⟨r,a,h1,d,h2,rfl⟩|⟨e,rfl⟩⟩
 .exact⟨_,_,rfl,hx⟩
 .exact⟨_,_,rfl,hx⟩
theorem NZ(h:eA w0 E d n l x wb s k e S [] c w)(hc:c<=900)(hb:gC w x)(P:∀q,x.own q->E q)(Q:∀q,x.own q->¬aD s q)(R:¬x.own wb)(a:Ext w bG)(he:Var bG iu eJ 178)(g:Var bG w.heap.size (e4 0 dt 0 0 false 0) 39):
 Z.rh (some ⟨wb,0,none⟩) w ⟨iu,0,none⟩ false bG (lY w0 E d n l x wb (c+1) w):=by
 (delta Z.rh bE aw en r1 fy l9 aa ae z9;dsimp only);refine bK (λ_ w'=>Ext bG w') (λK A=>aQ ?_) ?_
 .have f:=bC bG
  have a:=a.trans f;have he:=he.ext f;generalize bG.drew=ah at f a he;refine⟨λ_=>False,_,rfl,id,_,(h.v.ext a).cell,_,rfl,id,_,by rw[av];exact(h.lb.ext a).cell,id,0,he.cell,id,0,by rw[av];exact he.cell,(Gv (hb.ext a)).use ?_,aV (vs:=bD.zero.c) (by kernel_rfl) λai T m _=>⟨ad.bA m,(Gv ((hb.ext a).ext m)).use ?_⟩⟩
  .rintro _ bY ⟨z,b,rfl,B⟩
   exact⟨_,_,rfl,ad.bA B,aV (vs:=bD.zero.c) (by kernel_rfl) λaj C D _=>⟨ad.bA D,C.cn (by simp[bD.aY]) (by simpa using bD.plain _),by simp[bD.aY],cU C (us:=z.c) (by simp[bD.aY]) rfl λak al U _=>A _ _ ((f.trans B).trans (Ext.bO D U (bk _)))⟩⟩
  .rintro _ am ⟨z,b,rfl,p⟩
   have F:=T.ext p;exact⟨_,_,rfl,ad.bA p,F.cn (by simp[bD.aY]) (by simpa using bD.plain _),by simp[bD.aY],cU F (us:=z.c) (by simp[bD.aY]) rfl λan ao V _=>A _ _ (f.trans (Ext.bO (m.trans p) V (bk _)))⟩
 rintro ap G W;refine⟨λh=>(by cases h),λ_=>aQ ?_⟩;have f:=W.trans (bC G);have a:=a.trans f;have g:=g.ext f;generalize G.drew=r at a g;have i:=h.v.ext a;have z:=a.size;have u:=λw=>od aH.zero 0 w;rw[NX]at u;have fin:∀ {j:I} (t:Nat),Ext r j->r.heap.size<=t->Var j t bS.zero.c 255->Z.tM (some ⟨wb,0,none⟩) w ⟨t,0,none⟩ j (lY w0 E d n l x wb (c+1) w):=λt hx ht i=>NY h hc hb P Q R (a.trans hx) i (g.ext hx) J;refine⟨λ_=>False,_,rfl,id,aH.zero.c,by rw[av,av];exact i.e2 (o:=46) (n:=17) (by show 46+17<=108;decide),_,rfl,id,0,by rw[av,av];exact i.cell,(u r).use ?_,aV (vs:=bS.zero.c) (by kernel_rfl) λX Y H _=>⟨ad.bA H,(u X).use ?_⟩⟩
 .rintro _ aq ⟨rfl,y⟩
  exact⟨_,_,rfl,ad.bA y,aV (vs:=bS.zero.c) (by kernel_rfl) λar L M _=>⟨ad.bA M,L.cn (by simp) (by simpa using bS.plain _),by simp[bS.aY],cU L (us:=bS.zero.c) (by simp) rfl λj ab ac _=>fin _ (y.trans (Ext.bO M ac (bk _))) y.size ab⟩⟩
 .rintro _ au ⟨rfl,N⟩
  have O:=Y.ext N;exact⟨_,_,rfl,O.cn (by simp) (by simpa using bS.plain _),by simp[bS.aY],cU O (us:=bS.zero.c) (by simp) rfl λax af ag _=>fin _ (Ext.bO (H.trans N) ag (bk _)) (bk _) af⟩
theorem N0(h:eA w0 E d n l x wb s k e S [] c w)(hc:c<=900)(hb:gC w x)(F:∀q,x.own q->E q)(G:∀q,x.own q->¬aD s q)(H:¬x.own wb):az ah 71 #[.pointer (some ⟨wb,0,none⟩)] w (lY w0 E d n l x wb (c+1) w):=by
 refine okF (Z.wP (some ⟨wb,0,none⟩)) aj.wP func71 ?_;(delta Z.wP z3 bE aw ek fy aE iH aa;dsimp only);refine aV (vs:=e4 0 dt 0 0 false 0) rfl λw1 J K _=>aQ ?_;have a:=K.trans (bC w1);have u:=J.ext (bC w1);generalize w1.drew=af at a u;have b:=h.v.ext a;have fin:∀ {bG:I} (t:Nat),Ext af bG->Var bG t eJ 178->Z.rh (some ⟨wb,0,none⟩) w ⟨t,0,none⟩ false bG (lY w0 E d n l x wb (c+1) w):=λt hx b=>NZ h hc hb F G H (a.trans hx) b (u.ext hx);have j:∀ {aC:I},Ext af aC->az ah 127 #[.pointer (some ⟨x.aN,0,none⟩),.agg fH.c.toArray,.int .u64 0] aC (λv w'=>v=.tuple #[.agg eJ.toArray,.bool false]/\Ext aC w'):=λhx=>Nl (hb.fw.ext (a.trans hx)) fH 0;refine⟨λ_=>False,_,rfl,id,_,b.cell,_,rfl,id,_,by rw[av];exact(h.lb.ext a).cell,_,rfl,id,fH.c,by rw[av,av];exact b.e2 (o:=46) (n:=37) (by show 46+37<=108;decide),_,rfl,id,_,b.cell,(oR (h.ext a)).use ?_,aV (vs:=eJ) (by kernel_rfl) λN L i _=>⟨ad.bA i,(oR ((h.ext a).ext i)).use ?_⟩⟩
 .rintro _ _ ⟨rfl,rfl⟩
  refine⟨0,rfl,ad.refl _ _,(j (.refl _ _)).use ?_,aV (vs:=eJ) (by kernel_rfl) λO M m _=>⟨ad.bA m,(j m).use ?_⟩⟩
  .rintro _ P ⟨rfl,y⟩
   exact⟨_,_,rfl,ad.bA y,aV (vs:=eJ) (by kernel_rfl) λQ z A _=>⟨ad.bA A,z.cn (by simp) (by simpa using lX),by rfl,cU z (us:=eJ) (by simp) rfl λB f g _=>fin _ (y.trans (Ext.bO A g (bk _))) f⟩⟩
  .rintro _ R ⟨rfl,p⟩
   have C:=M.ext p;exact⟨_,_,rfl,ad.bA p,C.cn (by simp) (by simpa using lX),by rfl,cU C (us:=eJ) (by simp) rfl λB f g _=>fin _ (Ext.bO (m.trans p) g (bk _)) f⟩
 .rintro _ _ ⟨rfl,rfl⟩
  refine⟨0,rfl,ad.refl _ _,(j i).use ?_⟩;rintro _ T ⟨rfl,r⟩;have D:=L.ext r;exact⟨_,_,rfl,ad.bA r,D.cn (by simp) (by simpa using lX),by rfl,cU D (us:=eJ) (by simp) rfl λB f g _=>fin _ (Ext.bO (i.trans r) g (bk _)) f⟩
end
theorem N1{w:I}{b o:Nat}{vs us l:Y O}{T:TypeId}(a:Var w b vs T)(c:l=us)(d:o+us.length<=vs.length){K:I->Prop}(h:∀w',Var w' b (vs.take o++us++vs.drop (o+us.length)) T->ad (λq=>q=b) w w'->K w'):ao (setCells w ⟨b,o,none⟩ 0 l) K:=by
 subst c;refine aQ (h _ ?_ (ad.iG (.refl _ _) _ 0));have h1:=aZ.je (o:=o) a l;have h2:f_ vs.toArray o l=(vs.take o++l++vs.drop (o+l.length)).toArray:=by
  apply Array.ext';rw[jC l vs.toArray o (by simpa using d)]
 unfold Var;rw[←h2];exact h1
section
variable {w0 w w':I}{b2:Nat->Prop}{x:iw}{d n:Nat}{l:dM}{S:b7}{s k:ag}{dV p:Y Nat}{cm:Y bP}
theorem N2(B:ey w0 w b2 d n l x.ab 6 S dV p [] cm 0)(X:S.now=0)(i:Var w x.lb x.c 172)(hb:gC w x)(C:∀q,q=x.lb\/x.own q\/aD s q->b2 q)(hs:Src 1 w s (ax g7))(hc:s.len<=s.cap)(ac:∀q,x.own q->¬aD s q):
 az ah 28 #[.pointer (some ⟨x.lb,0,none⟩),.slice s.a s.len s.cap] w (λv w'=>(∃ (t:ag) (e:Int),v=.agg (e4 1 t 1 2 true e).toArray/\t.len=28)/\jX b2 [x.m1,x.m2] w w'/\
  ∃ (H:Nat->Prop) (aM:b7) (dV p:Y Nat) (cm:Y bP),(∀q,b2 q->H q)/\ey w0 w' H d n l x.ab 6 aM dV p [kk 9] cm 1):=by
 refine okF (Z.wD (some ⟨x.lb,0,none⟩) s) aj.wD func28 ?_;(delta Z.wD z3 ae bR aa c6 r1 bd a_ aK e6 bB nV z4 bE aw pn gI mR b8 hT fy xs lJ;dsimp only);refine aV (vs:=e4 0 dt 0 0 false 0) rfl λw1 af I aB=>⟨λh=>(by cases h),λ_=>(px (hs.ext I) hc).use ?_⟩;rintro _ aC ⟨rfl,D⟩;refine⟨_,_,rfl,lp (us:=kQ) (by rfl) (by rfl) yT λK L E=>⟨λh=>(by cases h),λ_=>⟨kQ,L.rd (by rfl),(.pointer (some ⟨x.lb,0,none⟩)::(kQ++(.slice s.a s.len s.cap::(cJ.zero.c dt++ [.int .i64 0])))).toArray,by kernel_rfl,aV rfl λF ai al _=>aQ ?_⟩⟩⟩;have M:=(I.trans D).trans E;have u:=al.trans (bC F);have f:=M.trans u;have N:=ai.ext (bC F);have y:=L.ext u;generalize F.drew=bl at u f N y;refine⟨λ_=>False,_,rfl,id,_,by rw[av];exact(i.ext f).cell,id,aH.zero.c,by rw[av,av];exact y.e2 (o:=62) (n:=17) (by show 62+17<=82;decide),id,80,by rw[av,av];exact y.cell,id,17,by rw[av,av];exact y.cell,(Nf (r:=x.rc) (hb.ext f).b1 (dH.2 rfl) aH.zero 80 17 rfl).use ?_⟩;rintro _ aE ⟨rfl,j⟩;refine⟨_,_,rfl,λ_=>⟨_,rfl,_,by rw[av];exact((i.ext f).ext j).cell,(Nd (r:=x.rc) ((hb.ext f).ext j).b1 (dH.2 rfl)).use ?_⟩,λh=>(by cases h)⟩;rintro _ cy ⟨k,rfl,_,G,_⟩;have O:=(N.ext j).ext G;refine⟨_,_,rfl,_,rfl,aZ.cn O 84 _ (by show 84+(jW.c k).length<=108;rw[cJ.aY];decide) (cJ.plain jW k),by rfl,?_⟩;rw[av];refine N1 (o:=84) (us:=jW.c k) O rfl (by show 84+(jW.c k).length<=108;rw[cJ.aY];decide) λcA z P=>?_
 replace z:Var cA K.heap.size (y7 x s k 0) 167:=z
 have b4:=(f.trans j).trans G;have fl:=M.size;have m:Ext w cA:=Ext.bO b4 P fl;have z3:=z.lt;have am:=B.grow (cf:=λq=>b2 q\/(w.heap.size<=q/\q<cA.heap.size)) m (λq b=>b) (.inl B.oK);have an:=λq b=>FP hs q b;have ao:eA w0 _ d n l x K.heap.size s k 0 _ [] 0 cA:=⟨⟨dV,p,cm,am⟩,i.ext m,z,hs.ext m,hc,?_,λh=>by have:=an _ h;omega,X⟩
 .refine(N0 ao (by decide) (hb.ext m) (λq b=>.inl (C q (.inr (.inl b)))) ac λh=>by have:=hb.lt _ h;omega).use ?_
  rintro _ aF ⟨⟨t,e,rfl,ht⟩,Q,qc,nm,ap,aq,tB,R,ar⟩;have A:=af.ext ((D.trans E).trans ((u.trans j).trans G));have aG:=D.size;have aI:=E.size;have A:Var cA w.heap.size (e4 0 dt 0 0 false 0) 39:=A.ak P J;have T:b2 w.heap.size\/(w.heap.size<=w.heap.size/\w.heap.size<cA.heap.size):=.inr ⟨bk _,A.lt⟩;have la:=B.v.lt;have aJ:=hb.lt x.m1 (.inr (.inl rfl));have aL:=hb.lt x.m2 (.inr (.inr (.inl rfl)));have au:=Q.var A T (by simp;omega);simp only[av,cg];refine⟨1,t,1,2,true,e,rfl,sK (us:=e4 1 t 1 2 true e) au rfl gX λaN g U=>⟨1,g.cell,t,g.cell,1,g.cell,2,g.cell,true,g.cell,e,g.cell,⟨t,e,rfl,ht⟩,?_,qc,nm,ap,aq,tB,λq b=>R q (.inl b),ar.hG (R _ T) J U⟩⟩;obtain⟨V,ay,aA⟩:=Q;refine⟨λq=>V q/\q<w.heap.size,ct (ct (W:=λq=>V q/\q<w.heap.size) (ad.bA m) ay λq i h=>⟨h,i⟩) U λq b e=>J,λq h0 b=>?_⟩;have:=aA q (.inl h0) b.1;simp only[cW,fh,ft]at this⊢;rcases this with e|e|e
  .omega
  .exact .inl e
  .exact .inr e
 .rintro q (rfl|rfl|b)
  .exact .inl (C _ (.inl rfl))
  .exact .inr ⟨fl,z3⟩
  .exact .inl (C _ (.inr (.inr b)))
end
section
variable {w0 w w' w1:I}{b2 cf:Nat->Prop}{d n k c:Nat}{l:dM}{S aM jP:b7}{pages fV a8 jR gh:Y Nat}{L bQ cz:Y cq}{aL:ba}
theorem gm.N3{V:Nat->cL}{gen:Nat}{u:cN}{g:Nat->ai}{P:Nat->al bo}(h:gm w0 w b2 d n l S pages L a8 bQ c)(hd:cv w1 aL)(e:sA S.T.C.D aL)(k:Ext w0 w1)(x:w.heap.size<=w1.heap.size)(y:iv V n gen u g P gh cz)(dr:∀j,g j=true->aL.bq.getD j []=V j)(z:hY (l.aq:Nat) (l.batch:Nat) (l.fC:Nat))(H:gen<=S.gen+1)(hc:c<=30000)(f:cz.length<=c+1/\cz.length<=4000):
 az ah 64 #[.pointer (some d),.agg l.c.toArray] w1 (λv af=>∃dm:b7,v=.tuple #[.pointer (some dm.st),(0:Int)]/\gm w0 af b2 d n l dm gh cz gh cz (c+1)/\dm.failed=false/\dm.T.C.D.quiet/\dm.u=u/\dm.pending=0/\dm.now=u.clock/\
  ad (bI S.T.C.D) w1 af/\∀q,dm.T.M q->S.T.M q\/w.heap.size<=q):=by
 have I:=h.bu;have K:=h.gen;have m:aL.n=n:=e.n.trans (h.at_.t.n.trans h.n);have o:∀q,bI aL q->S.T.M q:=λq a=>.inl (.inr (.inr (e.cV q a)));have i:∀q,b2 q->S.T.M q:=λq a=>.inr (.inr (.inr (.inl (h.mx a).1)));have A:∀q,b2 q->¬bI S.T.C.D q:=λq a hf=>h.at_.t.nf (h.mx a).1 (.inl (.inr (.inr hf)));have p:=L_ (l:=l) (b2:=b2) hd e.q (by rw[e.bu];omega) e.waits z (by rw[m];exact y) dr J f.2 λq a=>⟨by have:=h.at_.t.lt (i q a);omega,λhf=>A q a (e.cV q hf)⟩;rw[e.d,h.d]at p;refine p.mono ?_;rintro v af ⟨dm,rfl,B,b,hu,hg⟩;have F:Ext w0 af:=Ext.eH k b.ak λq a=>h.oJ q (o q a);have s:∀q,dm.T.M q->S.T.M q\/w1.heap.size<=q:=λq a=>by
  rcases b.M q a with h1|h1|h1
  .exact .inl (o q h1)
  .exact .inl (i q h1)
  .exact .inr h1
 refine⟨dm,rfl,⟨F,B,b.E,λhs=>?_,λq a=>?_,b.l,b.d.trans (e.d.trans h.d),b.n.trans m,?_,⟨f.1,f.1⟩,J,by rw[b.nj];omega,b.r.trans e.r⟩,b.live,b.q,hu,b.nj,by rw[b.now,hu],b.ak.mono λq _ a=>e.cV q a,λq a=>(s q a).imp id λG=>dG x G⟩
 .have:=h.at_.t.lt (i _ hs)
  have:=b.st;omega
 .rcases s q a with h1|h1
  .exact h.oJ q h1
  .have:=k.size;omega
 .have:=b.bu
  have:=e.bu;omega
end
section
variable {w0 w w' w1:I}{b2:Nat->Prop}{d n ab most c:Nat}{l:dM}{S:b7}{pages a8:Y Nat}{T cm:Y bP}
theorem ey.sync(h:ey w0 w b2 d n l ab most S pages a8 T cm c)(hc:c<=9000):az ah 35 #[.pointer (some S.st)] w (λv w'=>v=.int .i64 0/\∃aM:b7,fG 100 S aM w w'/\ey w0 w' b2 d n l ab most aM pages pages T T (c+1)):=by
 have b:=h.s.bu;have e:=h.s.gen;have a:=h.hD.1;have f:=h.sE;have hb:=h.s.at_.num.2.2.2.2.2.2;refine(LK h.s.at_ (by rw[dn];omega) J J h.q).mono ?_;rintro v w' (⟨hf,_⟩|⟨_,aM,hd,g,hx⟩)
 .rw[h.live]at hf;cases hf
 obtain⟨rfl,_,hs,hf,hg,_,i,j⟩:=hx.FI h.q;exact⟨rfl,aM,hd,h.step hs hd J J (.inr rfl) a J J hf h.ok (by have:=h.p8;omega) λ_=>rfl⟩
theorem gm.N4(h:gm w0 w b2 d n l S [] [] [] [] c)(hf:S.failed=false)(a:S.T.C.D.quiet)(b:S.pending<l.batch)(he:b2 ab)(e:Var w ab [.pointer (some S.st),most] 193)(hm:1<=most/\most<=400)(f:n=4*most+64):ey w0 w b2 d n l ab most S [] [] [] [] c:=
 ⟨h,hf,a,he,e,λt ht=>(by cases ht),λt ht=>(by cases ht),b,λ_=>rfl,⟨dd _,dd _⟩,hm,f,List.Pairwise.nil⟩
theorem ey.N5(h:ey w0 w b2 d n l ab most S pages a8 T cm c)(hc:c<=9000):az ah 24 #[.pointer (some d),()] w (λv w'=>v=.tuple #[]/\∃aL,cv w' aL/\sA S.T.C.D aL/\ad (bI S.T.C.D) w w'):=by
 have a:=LZ (l:=⟨none,0,0⟩) (zs:=[]) h.s.at_.t.ca.raw.dev (aS.none 1 3 w).src (λq e _=>rfl) (by simp) (λz b=>(by cases b)) (by have:=h.s.bu;omega);rw[h.s.d]at a;exact a
theorem ey.N6{aL:ba}(h:ey w0 w b2 d n l ab most S pages a8 T cm c)(hc:c<=9000)(hd:cv w1 aL)(a:sA S.T.C.D aL)(e:Ext w0 w1)(f:w.heap.size<=w1.heap.size)(g:hY (l.aq:Nat) (l.batch:Nat) (l.fC:Nat)):
 az ah 64 #[.pointer (some d),.agg l.c.toArray] w1 (λv af=>∃dm:b7,v=.tuple #[.pointer (some dm.st),(0:Int)]/\gm w0 af b2 d n l dm a8 (cm.map bP.kv) a8 (cm.map bP.kv) (c+1)/\ad (bI S.T.C.D) w1 af):=by
 have b:=h.s.at_.jO;rw[h.s.n]at b;have hf:=h.s.hD;have i:=h.hD.2;have j:=h.sE;refine(h.s.N3 (l:=l) hd a e f b (h.s.at_.bq h.live a) g J J ⟨J,by rw[dn];omega⟩).mono ?_;rintro _ af ⟨dm,rfl,a1,_,_,_,_,_,dT,_⟩;exact⟨dm,rfl,a1,dT⟩
end
def lv(c0 a7 cl cc b1 bT:Int):Y O:=[.int .u64 c0,a7,cl,cc,b1,bT]
theorem Gw{c0 a7 cl cc b1 bT:Int}:∀v∈lv c0 a7 cl cc b1 bT,Plain v:=dc dF (dc dF (dc dF (dc dF (dc dF (dc dF kh)))))
section
variable {w0 gp w w':I}{x:iw}{d n:Nat}{l:dM}{S:b7}{s k:ag}
theorem r9(w:I):az ah 48 #[.agg #[.int .u8 1,.int .u8 5,.int .u8 5,.int .u8 0]] w (λv w'=>v=.agg (lv 1 6 6 1 1 1).toArray/\Ext w w'):=by
 refine okF (Z.r9 #[.int .u8 1,.int .u8 5,.int .u8 5,.int .u8 0]) aj.r9 func48 ?_;(delta Z.r9 vV b8 aa bR aE an db aK r1;dsimp only);simp only[av,cg];refine aV (vs:=[.int .u8 1,.int .u8 5,.int .u8 5,.int .u8 0]) rfl λw1 e c _=>aV (vs:=lv 0 0 0 0 0 0) rfl λaf f d _=>?_;have a:=e.ext d;refine⟨by decide,1,a.cell,by decide,5,a.cell,by decide,by decide,5,a.cell,by decide,by decide,0,a.cell,by decide,by decide,0,a.cell,by decide,by decide,by decide,0,a.cell,by decide,sK (us:=lv 1 6 6 1 1 1) f rfl Gw λg b hc=>⟨1,b.cell,6,b.cell,6,b.cell,1,b.cell,1,b.cell,1,b.cell,rfl,Ext.bO (c.trans d) hc c.size⟩⟩
theorem r2(f m:al ar)(w:I):az ah 51 #[.agg (lv 1 6 6 1 1 1).toArray,.pointer f,.pointer m] w (λv w'=>(∃p:al ar,v=.pointer p)/\Ext w w'):=by
 refine okF (Z.r2 1 6 6 1 1 1 f m) aj.r2 func51 ?_;(delta Z.r2 aE db aa aK r1;dsimp only);simp only[av,cg];refine aV (vs:=lv 1 6 6 1 1 1) rfl λw1 a d _=>⟨1,a.cell,6,a.cell,6,a.cell,1,a.cell,1,a.cell,1,a.cell,6,a.cell,aV (vs:=[.int .i64 6,.slice none 0 0]) rfl λb _ c _=>⟨1,(a.ext c).cell,aV (vs:=[.pointer m,.slice none 0 0,.int .i64 1]) rfl λh _ e _=>?_⟩⟩;exact⟨(lv 1 6 6 1 1 1++ [Value.pointer f,.pointer m,.pointer (some ⟨w1.heap.size,0,none⟩),.pointer (some ⟨b.heap.size,0,none⟩),.slice none 0 0,.int .u64 0]).toArray,by kernel_rfl,aV (vs:=(lv 1 6 6 1 1 1++ [.pointer f,.pointer m,.pointer (some ⟨w1.heap.size,0,none⟩),.pointer (some ⟨b.heap.size,0,none⟩),.slice none 0 0,.int .u64 0])) rfl λi _ g _=>⟨⟨_,rfl⟩,((d.trans c).trans e).trans g⟩⟩
set_option maxRecDepth 100000 in
theorem N7 {v:O} (h:k8 ah w 26 v):∃c0 a7 cl cc b1 bT:Int,v=.agg #[.int .u64 c0,a7,cl,cc,b1,bT]:=by
 obtain⟨cs,rfl,h2⟩:=Hz h (d:=(Tryz.prog.underlying 26).get (by kernel_rfl)) (ls:=[.int .u64,.int .i64,.int .i64,.int .i64,.int .i64,.int .i64]) (kZ _).symm (by kernel_rfl) (by kernel_rfl) (by kernel_rfl);obtain⟨_,_,rfl,⟨a,rfl,_⟩,_,_,rfl,⟨b,rfl,_⟩,_,_,rfl,⟨c,rfl,_⟩,_,_,rfl,⟨d,rfl,_⟩,_,_,rfl,⟨f,rfl,_⟩,_,_,rfl,⟨g,rfl,_⟩,rfl⟩:=h2;exact⟨a,b,c,d,f,g,rfl⟩
theorem ix{b i:Nat}{vs:Y O}{u:O}{jS:TypeId}(h:Var w b vs jS)(hi:vs[i]? =some u):w.cell? (Addr.add b i)=some u:=by
 rw[av,cg];rw[h.cell,hi]
end
def oS(d:Nat)(f b dl c0 a7 cl cc b1 bT:Int)(bm a l:al ar):Y O:=[.pointer (some d),f,b,.int .u64 dl,.int .u64 c0,a7,cl,cc,b1,bT,.pointer bm,.pointer a,.pointer l]
def mF(cl a7 cc b1 bT:Int):ai:=(decide (cl>=1)&&decide (cl<=400))&&lu a7 cc b1 bT
section
variable {w0 gp w w' w1:I}{d n bb c:Nat}{l:dM}{S:b7}{f b dl c0 a7 cl cc b1 bT:Int}{st cV:ar}{a0 oT:al ar}
structure Gx(w w':I)(bb d:Nat)(f b dl c0 a7 cl cc b1 bT:Int)(st cV:ar)(ab lb aN m1 m2 hb hm sb most:Nat):Prop where
 N8:a7=(most:Int)
 y9:Var w' ab [.pointer (some st),cl] 193
 o4:Var w' lb (y6 c0 a7 cl cc b1 bT (some cV) (some ab) (some aN) (some hb) (some sb)) 172
 fw:jU w' aN m1 m2 most [] []
 he:lr w' hb hm cc b1
 ia:Var w' bb (oS d f b dl c0 a7 cl cc b1 bT (some cV) (some ab) (some lb)) 62
 N9:∀q,q=ab\/q=lb\/q=aN\/q=m1\/q=m2\/q=hb\/q=hm->w.heap.size<=q
theorem Gy(k:Var w bb (oS d f b dl c0 a7 cl cc b1 bT (some cV) a0 oT) 62):az ah 18 #[.pointer (some bb),.pointer (some st)] w (λv w'=>(mF cl a7 cc b1 bT=false/\v=.int .i64 1/\Ext w w')\/
 (mF cl a7 cc b1 bT=true/\v=.int .i64 0/\∃ (af:I) (ab lb aN m1 m2 hb hm sb most:Nat),Ext w af/\ad (λq=>q=bb) af w'/\Gx w w' bb d f b dl c0 a7 cl cc b1 bT st cV ab lb aN m1 m2 hb hm sb most)):=by
 refine okF (Z.wz (some bb) (some st)) aj.wz func18 ?_;(delta Z.wz aw r1 e0 ae bE ky db aE st;dsimp only);have K:=k.lt;refine⟨_,rfl,cl,by rw[av,av];exact k.cell,(q7 w cl).use ?_⟩;rintro _ l ⟨n,⟨t,rfl⟩|⟨⟨_,h1,h2⟩,rfl,u⟩⟩
 .have e:mF cl a7 cc b1 bT=false:=by
   unfold mF;rcases t with h|h|h
   .cases h
   .rw[gr (p:=cl>=1) J];rfl
   .rw[gr (p:=cl<=400) J,s0];rfl
  exact⟨_,_,rfl,λ_=>.inl ⟨e,rfl,n⟩,λh=>(by cases h)⟩
 have x:(decide (cl>=1)&&decide (cl<=400))=true:=by rw[eB h1,eB h2];rfl
 have g:=n.trans (bC l);have a:=k.ext g;have o:=u.ext (bC l);refine⟨_,_,rfl,λh=>(by cases h),λ_=>aQ ?_⟩;generalize l.drew=y at g a o;refine⟨λ_=>False,_,rfl,id,c0,by rw[av];exact a.cell,a7,by rw[av,av];exact a.cell,cl,by rw[av,av];exact a.cell,cc,by rw[av,av];exact a.cell,b1,by rw[av,av];exact a.cell,bT,by rw[av,av];exact a.cell,_,rfl,id,_,by rw[av];exact a.cell,(q8 c0 a7 cl cc b1 bT cV w.heap.size y).use ?_⟩;rintro _ bl ⟨j,⟨hg,rfl⟩|⟨hg,lb,aN,m1,m2,hb,hm,sb,most,z,rfl,A,B,C,m⟩⟩
 .exact⟨_,_,rfl,λ_=>.inl ⟨by unfold mF;rw[hg,s0],rfl,g.trans j⟩,λh=>(by cases h)⟩
 have D:=g.trans j;have vS:=g.size;have r:=a.ext j;refine⟨_,_,rfl,λh=>(by cases h),λ_=>?_⟩;obtain⟨bH,bL⟩:=ef r (i:=11) (by show 11<13;decide);have s:=er r (i:=11) (.pointer (some w.heap.size));obtain⟨E,F⟩:=ef s (i:=12) (by show 12<13;decide);have G:=er s (i:=12) (.pointer (some lb));have hc:=(dD bl bb 11 (.pointer (some w.heap.size))).trans (dD _ bb 12 (.pointer (some lb)));have L:=λq h=>m q h;refine⟨_,rfl,by rw[av];exact bH,by rw[av];exact bL,aQ ⟨_,rfl,by rw[av,av];exact E,by rw[av,av];exact F,aQ ?_⟩⟩;rw[av,av];have c:∀q,q=lb\/q=aN\/q=m1\/q=m2\/q=hb\/q=hm->¬q=bb:=λq h=>by have:=m q h;omega
 refine .inr ⟨by unfold mF;rw[x,hg];rfl,rfl,bl,w.heap.size,lb,aN,m1,m2,hb,hm,sb,most,D,hc,⟨z,(o.ext j).ak hc J,A.ak hc (c lb (by simp)),B.ak hc ⟨c _ (by simp),c _ (by simp),c _ (by simp)⟩,C.ak hc ⟨c _ (by simp),c _ (by simp)⟩,G,?_⟩⟩;rintro q (rfl|H)
 .exact bk _
 .have:=m q H;omega
def lZ(n f b dl cl a7 cc b1 bT:Int):ai:=(decide (n>=16)&&decide (hY f b dl))&&mF cl a7 cc b1 bT
theorem N_{n:Int}(h:n<16)(w:I):az ah 15 #[n] w (λv w'=>v=.tuple #[.pointer none,(1:Int)]/\w=w'):=by
 refine okF (Z.mT n) aj.mT func15 ?_;(delta Z.mT ae iR aa xs dg;dsimp only);refine⟨λ_=>⟨rfl,rfl⟩,λhb=>?_⟩;rw[eB h]at hb
 cases hb
structure uX(w w':I)(bb d:Nat)(n:Int)(l:dM)(c0 a7 cl cc b1 bT:Int)(S:b7)(gp af:I)(bm:iM)(ab lb aN m1 m2 hb hm sb most:Nat):Prop where
 uY:gm w gp (λ_=>False) d n.toNat l S [] [] [] [] 0
 live:S.failed=false
 q:S.T.C.D.quiet
 p8:S.pending=0
 now:S.now=0
 cG:Ext gp af
 x:Ext gp w'
 BD:dY w' bm []
 Oa:∀q,gN bm [] q->gp.heap.size<=q/\q<bb
 Ob:gp.heap.size<=bb/\bb<af.heap.size
 g:Gx af w' bb d l.aq l.batch l.fC c0 a7 cl cc b1 bT S.st bm.p ab lb aN m1 m2 hb hm sb most
theorem pr(n f b dl c0 a7 cl cc b1 bT:Int)(al:n<=1600)(w:I):az ah 9 #[n,.agg #[f,b,.int .u64 dl],.agg #[.int .u64 c0,a7,cl,cc,b1,bT]] w (λv w'=>Ext w w'/\
 ((lZ n f b dl cl a7 cc b1 bT=false/\v=.tuple #[.pointer none,(1:Int)])\/(lZ n f b dl cl a7 cc b1 bT=true/\∃ (bb d:Nat) (l:dM) (S:b7) (gp af:I) (bm:iM) (ab lb aN m1 m2 hb hm sb most:Nat),v=.tuple #[.pointer (some bb),(0:Int)]/\f=(l.aq:Nat)/\b=(l.batch:Nat)/\dl=(l.fC:Nat)/\
   uX w w' bb d n l c0 a7 cl cc b1 bT S gp af bm ab lb aN m1 m2 hb hm sb most))):=by
 refine okF (Z.pr n f b dl c0 a7 cl cc b1 bT) aj.pr func9 ?_;(delta Z.pr aE e0 ae r1 aa aK b5 db bE fj bx;dsimp only);simp only[av,cg];refine aV (vs:=[f,b,.int .u64 dl]) rfl λw1 D O _=>aV (vs:=lv c0 a7 cl cc b1 bT) rfl λaf E A _=>?_;have r:=O.trans A;by_cases P:n<16
 .refine(N_ P af).use ?_
  rintro _ _ ⟨rfl,rfl⟩;exact⟨_,_,rfl,λ_=>⟨r,.inl ⟨by unfold lZ;rw[gr (p:=n>=16) J];rfl,by trivial⟩⟩,λh=>(by cases h)⟩
 obtain⟨m,rfl⟩:∃m:Nat,n=(m:Int):=⟨n.toNat,J⟩;refine(mT (n:=m) J J af).use ?_;rintro _ am ⟨d,lb,mr,rfl,hd,s,F⟩;have t:=(D.ext A).ext s;refine⟨_,0,rfl,λh=>(by cases h),λ_=>⟨f,t.cell,b,t.cell,dl,t.cell,?_⟩⟩;by_cases j:hY f b dl
 rotate_left
 .refine(Md (.inr j)).use ?_
  rintro _ o ⟨rfl,Q⟩;exact⟨_,_,rfl,λ_=>⟨(r.trans s).trans Q,.inl ⟨by unfold lZ;rw[gr j,s0];rfl,by trivial⟩⟩,λh=>(by cases h)⟩
 obtain⟨l,rfl,rfl,rfl⟩:∃l:dM,f=(l.aq:Nat)/\b=(l.batch:Nat)/\dl=(l.fC:Nat):=by
  obtain⟨aJ,aW,an,ao,ap,ar⟩:=j;exact⟨⟨f.toNat,b.toNat,dl.toNat⟩,by show f=(f.toNat:Int);omega,by show b=(b.toNat:Int);omega,by show dl=(dl.toNat:Int);omega⟩
 refine(L9 (l:=l) (b2:=λ_=>False) hd j (λk=>⟨.inl rfl,.inl rfl⟩) rfl (by show 0<=999999000;omega) (λq h=>h.elim)).use ?_;rintro _ o ⟨R,rfl,T,a,hu,hg⟩;have u:=gm.new (w0:=w) (r.trans s) T a hu hg (λq c=>dG r.size (F q c)) (λq h=>h.elim) rfl rfl;have U:(p6 m d lb mr).n=m:=by show(List.replicate _ gL).length=_;rw[lC]
 rw[U]at u;have f0:∀q,q<af.heap.size->¬bI (p6 m d lb mr) q:=λq c hf=>by have:=F q hf;omega
 have V:=t.ak a.ak (f0 _ (D.ext A).lt);have W:=(E.ext s).ak a.ak (f0 _ E.lt);have i:=bC o;have y:=V.ext i;have g:=W.ext i;refine⟨_,_,rfl,λh=>(by cases h),λ_=>aQ ?_⟩;generalize o.drew=X at i y g;refine⟨λ_=>False,id,_,y.cell,_,y.cell,_,y.cell,id,c0,g.cell,a7,g.cell,cl,g.cell,cc,g.cell,b1,g.cell,bT,g.cell,(pt X).use ?_⟩;rintro _ aw ⟨bm,rfl,B,C,hf⟩;refine⟨_,rfl,ad.bA C,(oS d l.aq l.batch l.fC c0 a7 cl cc b1 bT (some bm.p) none none).toArray,by kernel_rfl,aV rfl λY H K _=>(Gy H).use ?_⟩;have au:=(i.trans C).trans K;have L:=(i.trans C).size;have ac:=H.lt;have ag:decide ((m:Int)>=16)=true:=eB J;rintro _ ai (⟨hg,rfl,z⟩|⟨hg,rfl,ax,ab,lb,aN,m1,m2,hb,hm,sb,most,z,M,G⟩)
 .exact⟨_,rfl,λ_=>⟨u.x.trans (au.trans z),.inl ⟨by unfold lZ;rw[hg,s0],by trivial⟩⟩,λh=>(by cases h)⟩
 .have N:Ext o ai:=Ext.bO (au.trans z) M L
  have ay:=i.size;refine⟨_,rfl,λh=>(by cases h),λ_=>⟨u.x.trans N,.inr ⟨by unfold lZ;rw[hg,ag,eB j];rfl,_,d,l,R,o,Y,bm,ab,lb,aN,m1,m2,hb,hm,sb,most,by trivial,rfl,rfl,rfl,u,a.live,a.q,a.nj,a.now.trans (by rw[hu];rfl),au,N,?_,λq c=>⟨by have:=hf q c;omega,B.lt c⟩,⟨L,ac⟩,G⟩⟩⟩;exact((B.ext K).ext z).ak M λq c e=>by have:=B.lt c;omega
end
def kU:Y O:=e4 0 dt 0 0 false 0
def jt(v:Y O)(e n m:Int)(o:ai):Y O:=v++ [.int .i64 e,.int .i64 n,.int .i64 m,.bool o]
def g_:Y O:=jt kU 0 0 0 false
def hA(k:Int)(s:ag)(id:Int)(sv:cJ)(to:bD):Y O:=.int .i64 k:: .slice s.a s.len s.cap:: .int .i64 id:: .int .i64 0:: .int .u64 0:: .bool false::(sv.c dt++(to.c++ [.slice none 0 0]))
theorem qo(k:Int)(s:ag)(id:Int)(sv:cJ)(to:bD):(hA k s id sv to).length=51:=by simp[hA,cJ.aY,bD.aY]
theorem jY{v:Y O}{e n m:Int}{o:ai}(h:∀u∈v,Plain u):∀u∈jt v e n m o,Plain u:=kP h (dc dF (dc dF (dc dF (dc qk kh))))
section
variable {w w':I}{b:ar}{op:Y O}{k:Int}{R:Y O->I->Prop}
theorem BE{p:al ar}(f:op[0]? =some (.int .i64 k))(h:p=none\/k<1\/14<k):az ah 8 #[.pointer p,.agg op.toArray] w (λv w'=>v=.agg (jt kU 1 0 0 false).toArray/\Ext w w'):=by
 refine okF (Z.mS p op.toArray) aj.mS func8 ?_;(delta Z.mS fL ae r1 aa fy aw lL fK;dsimp only);refine aV (vs:=op) rfl λw1 g b _=>aV (vs:=g_) rfl λaf i d _=>?_;have e:af.cell? ⟨w.heap.size,0,none⟩=some (.int .i64 k):=by rw[(g.ext d).cell,f]
 refine bK (λc w'=>(c=true\/(p≠none/\¬k<1))/\af=w') (λq a=>⟨λ_=>a _ _ ⟨.inl rfl,rfl⟩,λhb=>⟨k,e,a _ _ ⟨?_,rfl⟩⟩⟩) ?_
 .by_cases h1:k<1
  .exact .inl (eB h1)
  .exact .inr ⟨by cases p<;>simp_all,h1⟩
 rintro c _ ⟨hc,rfl⟩;refine bK (λc w'=>c=true/\af=w') (λq a=>⟨λ_=>a _ _ ⟨rfl,rfl⟩,λhb=>⟨k,e,a _ _ ⟨eB ?_,rfl⟩⟩⟩) ?_
 .rcases hc with hc|⟨hc,h1⟩
  .rw[hb]at hc;cases hc
  .rcases h with h|h|h
   .exact absurd h hc
   .exact absurd h h1
   .exact h
 rintro _ _ ⟨rfl,rfl⟩;exact⟨λ_=>⟨(jt kU 1 0 0 false).toArray,by kernel_rfl,i_ i (by rfl) (by rfl) (jY gX) λaR _ hc=>⟨rfl,Ext.bO (b.trans d) hc b.size⟩⟩,λh=>(by cases h)⟩
def Gz(w:I)(R:Y O->I->Prop)(q:Nat)(a:Y O)(w':I):Prop:=
 a.length=10/\(∀u∈a,Plain u)/\Var w' q g_ 41/\∀b af,Ext w' b->ad (λx=>x=q) b af->R a af
theorem GA(z:op[0]? =some (.int .i64 k))(h1:1<=k/\k<=14)(A:op.length=51){Q:O->I->Prop}
 (au:∀ (w0 af:I),Ext w w0->Ext w0 af->Var af w.heap.size op 54->Var af w0.heap.size g_ 41->w.heap.size<w0.heap.size->Calls ah 13 #[.pointer (some b),.agg op.toArray] af λB d=>
 ∃e:Array O,∃j:ai,B=.returned (.tuple #[.agg e,.bool j])/\ao (d.alloc (.cells g_.toArray 41)) λo=>bN o ⟨d.heap.size,0,none⟩ (Array.toList e)/\Array.size e=10/\ao (setCells o ⟨d.heap.size,0,none⟩ 0 (Array.toList e)) λa=>
 (j=true->∃f:Y O,aT a ⟨d.heap.size,0,none⟩ 0 10=some f/\bN a ⟨w0.heap.size,0,none⟩ (Array.toList f.toArray)/\Array.size f.toArray=10/\ao (setCells a ⟨w0.heap.size,0,none⟩ 0 (Array.toList f.toArray)) λbt=>∃p:Y O,aT bt ⟨w0.heap.size,0,none⟩ 0 10=some p/\Q (.agg p.toArray) bt)
 /\(j=false->∃a24:ar,some b=some a24/\∃l:al ar,a.cell? (a24.add 12)=some (.pointer l)/\
  ((Option.isNone l)=true->∃g:Array O,Sem.run ah (Instr.build 41 #[(1,.int .i64 13)]) a=.ok (.agg g) a/\bN a ⟨w0.heap.size,0,none⟩ (Array.toList g)/\Array.size g=10/\ao (setCells a ⟨w0.heap.size,0,none⟩ 0 (Array.toList g)) λr=>∃s:Y O,aT r ⟨w0.heap.size,0,none⟩ 0 10=some s/\Q (.agg s.toArray) r)
  /\((Option.isNone l)=false->∃t:Y O,aT a ⟨w.heap.size,0,none⟩ 0 51=some t/\Calls ah 14 #[.pointer (some b),.agg t.toArray] a λC u=>∃i:Array O,C=.returned (.agg i)/\bN u ⟨w0.heap.size,0,none⟩ (Array.toList i)/\
   Array.size i=10/\ao (setCells u ⟨w0.heap.size,0,none⟩ 0 (Array.toList i)) λbY=>∃v:Y O,aT bY ⟨w0.heap.size,0,none⟩ 0 10=some v/\Q (.agg v.toArray) bY))):
 Z.mS (some b) op.toArray w Q:=by
 (delta Z.mS fL ae r1 aa fy aw lL fK;dsimp only);refine aV (vs:=op) rfl λw1 D E G=>aV (vs:=g_) rfl λaf F x _=>?_;have m:=D.ext x;have y:af.cell? ⟨w.heap.size,0,none⟩=some (.int .i64 k):=by rw[m.cell,z]
 refine bK (λc w'=>c=false/\af=w') (λq n=>⟨λh=>(by cases h),λhb=>⟨k,y,n _ _ ⟨gr J,rfl⟩⟩⟩) ?_;rintro _ _ ⟨rfl,rfl⟩;refine bK (λc w'=>c=false/\af=w') (λq n=>⟨λh=>(by cases h),λhb=>⟨k,y,n _ _ ⟨gr J,rfl⟩⟩⟩) ?_;rintro _ _ ⟨rfl,rfl⟩;exact⟨λh=>(by cases h),λ_=>⟨op,m.rd A,au w1 af E x m F J⟩⟩
theorem BF(g:op[0]? =some (.int .i64 k))(h1:1<=k/\k<=14)(c:op.length=51)
 (au:∀ (w1:I) (q:Nat),Ext w w1->w.heap.size<=q->Var w1 q g_ 41->az ah 13 #[.pointer (some b),.agg op.toArray] w1 (λv w'=>∃a:Y O,v=.tuple #[.agg a.toArray,.bool true]/\Gz w R q a w')):
 az ah 8 #[.pointer (some b),.agg op.toArray] w (λv w'=>∃a:Y O,v=.agg a.toArray/\R a w'):=by
 refine Z.Dd (some b) op.toArray w _ (GA g h1 c λw1 af d i o j p=>(au af _ (d.trans i) d.size j).use ?_);rintro _ r ⟨a,rfl,c,e,l,m⟩;refine⟨_,_,rfl,lp (zs:=g_) (by rfl) c e λs n f=>⟨λ_=>⟨a,n.rd c,i_ (l.ext f) (by rfl) c e λbt _ hc=>⟨a,rfl,m _ _ f hc⟩⟩,λh=>(by cases h)⟩⟩
theorem Oc(d:op[0]? =some (.int .i64 k))(h:k=1\/k=10):az ah 13 #[.pointer (some b),.agg op.toArray] w (λv w'=>v=.tuple #[.agg g_.toArray,.bool false]/\Ext w w'):=by
 refine okF (Z.mc (some b) op.toArray) aj.mc func13 ?_;(delta Z.mc fL r1 aa ae aw bx po aK bd a_ dg fK;dsimp only);refine aV (vs:=op) rfl λw1 f a _=>aV (vs:=g_) rfl λaf g c _=>⟨k,by rw[(f.ext c).cell,d],?_⟩;have e:∀j:Int,j≠1->j≠10->¬(k==j)=true:=λj h1 h2 i=>by have:=eq_of_beq i;omega
 refine⟨λh=>absurd h (e 3 (by decide) (by decide)),λ_=>⟨λh=>absurd h (e 5 (by decide) (by decide)),λ_=>⟨λh=>absurd h (e 8 (by decide) (by decide)),λ_=>⟨λh=>absurd h (e 11 (by decide) (by decide)),λ_=>⟨λh=>absurd h (e 12 (by decide) (by decide)),λ_=>⟨λh=>absurd h (e 13 (by decide) (by decide)),λ_=>⟨λh=>absurd h (e 14 (by decide) (by decide)),λ_=>?_⟩⟩⟩⟩⟩⟩⟩;exact⟨g_.toArray,by kernel_rfl,i_ g (by rfl) (by rfl) (jY gX) λl _ hc=>⟨rfl,Ext.bO (a.trans c) hc a.size⟩⟩
theorem GB{bb lb:Nat}{vs:Y O}(hb:b=⟨bb,0,none⟩)(i:Var w bb vs 62)(j:vs[12]? =some (.pointer (some ⟨lb,0,none⟩)))(f:op[0]? =some (.int .i64 k))(h1:k=1\/k=10)(c:op.length=51)
 (au:∀ (w1:I) (q:Nat),Ext w w1->w.heap.size<=q->Var w1 q g_ 41->az ah 14 #[.pointer (some b),.agg op.toArray] w1 (λv w'=>∃a:Y O,v=.agg a.toArray/\Gz w R q a w')):
 az ah 8 #[.pointer (some b),.agg op.toArray] w (λv w'=>∃a:Y O,v=.agg a.toArray/\R a w'):=by
 subst hb;refine Z.Dd _ op.toArray w _ (GA f J c λw1 af e g l m u=>(Oc f h1).use ?_);rintro _ x ⟨rfl,n⟩;refine⟨_,_,rfl,lp (zs:=g_) (us:=g_) (by rfl) (by rfl) (jY gX) λo y p=>⟨λh=>(by cases h),λ_=>?_⟩⟩;have d:=n.trans p;refine⟨_,rfl,_,by rw[av,(i.ext ((e.trans g).trans d)).cell];exact j,λh=>(by cases h),λ_=>⟨op,(l.ext d).rd c,(au o _ ((e.trans g).trans d) e.size (m.ext d)).use ?_⟩⟩;rintro _ z ⟨a,rfl,c,r,s,t⟩;exact⟨_,rfl,i_ s (by rfl) c r λbY _ hc=>⟨a,rfl,t _ _ (.refl _ _) hc⟩⟩
end
section
variable {w0 w w' w1 aA aF aR:I}{E:Nat->Prop}{bm:iM}{ju:Y Rec}{x:Int×Y kj}{v:O}{q r bb d n c:Nat}{l:dM}{f b dl c0 a7 cl cc b1 bT:Int}{cV a0 oT:al ar}{sv:cJ}{cr:bD}{y:iw}{S:b7}{dV p:Y Nat}{T cm:Y bP}{s:ag}
def sL(bm:iM)(ju:Y Rec)(w:I)(x:Int×Y kj)(a:Y O)(w':I):Prop:=
 a=jt kU x.1 0 0 false/\∃R',dY w' bm R'/\ez R'=x.2/\ad (gN bm ju) w w'/\∀q,gN bm R' q->gN bm ju q\/w.heap.size<=q
theorem sL.fin(l:Step bm ju aA x v aF)(hx:Ext w aA)(m:dY w bm ju)(d:w.heap.size<=q/\q<aA.heap.size)(f:w.heap.size<=r/\r<aA.heap.size)(hc:ad (λx=>x=r) aF aR){g af:I}(h:Ext aR g)(i:ad (λx=>x=q) g af):sL bm ju w x (jt kU x.1 0 0 false) af:=by
 obtain⟨_,R',h1,h2,n,j⟩:=l;have p:=hx.size;have k:∀a,w.heap.size<=a->a<aA.heap.size->∀z,gN bm R' z->¬z=a:=λa aJ aW z b e=>by
  rcases j z b with c|c
  .have:=m.lt c;omega
  .omega
 refine⟨rfl,R',((h1.ak hc (k r f.1 f.2)).ext h).ak i (k q d.1 d.2),h2,?_,λz b=>(j z b).imp id λc=>J⟩;exact ct ((ct ((ad.bA hx).trans n) hc λz o e=>J).trans (ad.bA h)) i λz o e=>by omega
theorem Od(E:Var w bb (oS d f b dl c0 a7 cl cc b1 bT (some ⟨bm.p,0,none⟩) a0 oT) 62)(i:dY w bm ju)(sv:cJ):az ah 8 #[.pointer (some ⟨bb,0,none⟩),.agg (hA 3 dt 0 sv bD.zero).toArray] w (λv w'=>∃r:Y O,v=.agg r.toArray/\sL bm ju w (mz (ez ju) sv dt) r w'):=by
 refine BF (k:=3) rfl (by decide) (qo ..) λw1 q s t j=>?_;refine Z.Ah _ _ w1 _ ?_;(delta Z.mc fL r1 aa ae aw bx po aK bd a_ dg fK;dsimp only);refine aV (vs:=hA 3 dt 0 sv bD.zero) rfl λaf u x _=>aV (vs:=g_) rfl λa F l _=>⟨3,(u.ext l).cell,λ_=>aQ ?_,λh=>(by cases h)⟩;have g:=(x.trans l).trans (bC a);have y:=(u.ext l).ext (bC a);have m:=F.ext (bC a);generalize a.drew=aA at g y m;have b4:=s.trans g;refine⟨_,rfl,id,_,by rw[av];exact(E.ext b4).cell,id,sv.c dt,?_,(MY (i.ext b4) sv dt).use ?_⟩
 .rw[av,cg,y.e2 (o:=6) (n:=23) (by rw[qo];decide)]
  have e:(hA 3 dt 0 sv bD.zero).drop 6=sv.c dt++(bD.zero.c++ [.slice none 0 0]):=by rfl
  rw[e,nG (cJ.aY _ _)]
 intro v aF A;have G:=A;obtain⟨rfl,R',h1,h2,B,K⟩:=G;have fL:=s.size;have fl:=x.size;have C:∀z,w.heap.size<=z->¬gN bm ju z:=λz L hf=>by have:=i.lt hf;omega
 refine⟨_,rfl,(jt kU (mz (ez ju) sv dt).1 0 0 false).toArray,by kernel_rfl,i_ (m.ak B (C _ J)) (by rfl) (by rfl) (jY gX) λaR _ D=>⟨_,rfl,by rfl,jY gX,(((j.ext g).ak B (C _ t))).ak D (by have:=j.lt;omega),λaC M H I=>?_⟩⟩;exact sL.fin A b4 i ⟨t,by have:=j.lt;have:=g.size;omega⟩ ⟨J,m.lt⟩ D H I
theorem Oe(hv:Var w bb (oS d f b dl c0 a7 cl cc b1 bT (some ⟨bm.p,0,none⟩) a0 oT) 62)(hF:dY w bm ju)(id:Int)(cr:bD):az ah 8 #[.pointer (some ⟨bb,0,none⟩),.agg (hA 5 dt id cJ.zero cr).toArray] w (λv w'=>∃ans:Y O,v=.agg ans.toArray/\sL bm ju w (oP (ez ju) id cr) ans w'):=by
 refine BF (k:=5) rfl (by decide) (qo ..) λw1 q hX1 hq ha=>?_;refine Z.Ah _ _ w1 _ ?_;(delta Z.mc fL r1 aa ae aw bx po aK bd a_ dg fK;dsimp only);refine aV (vs:=hA 5 dt id cJ.zero cr) rfl λaf hv2 hx2 _=>aV (vs:=g_) rfl λw3 ha3 hx3 _=>⟨5,(hv2.ext hx3).cell,λh=>(by cases h),λ_=>⟨λ_=>aQ ?_,λh=>(by cases h)⟩⟩;have hX:=(hx2.trans hx3).trans (bC w3);have ho:=(hv2.ext hx3).ext (bC w3);have ha4:=ha3.ext (bC w3);generalize w3.drew=aA at hX ho ha4;have b4:=hX1.trans hX;refine⟨_,rfl,_root_.id,_,by rw[av];exact(hv.ext b4).cell,_root_.id,id,by rw[av];exact ho.cell,_root_.id,cr.c,?_,(Nb (hF.ext b4) id cr).use ?_⟩
 .rw[av,cg,ho.e2 (o:=29) (n:=21) (by rw[qo];decide)]
  have e:(hA 5 dt id cJ.zero cr).drop 29=cr.c++ [.slice none 0 0]:=by rfl
  rw[e,nG (bD.aY cr)]
 intro v aF hst;have hst':=hst;obtain⟨rfl,R',h1,h2,h3,h4⟩:=hst';have fL:=hX1.size;have fl:=hx2.size;have nf:∀z,w.heap.size<=z->¬gN bm ju z:=λz hz hf=>by have:=hF.lt hf;omega
 refine⟨_,rfl,(jt kU (oP (ez ju) id cr).1 0 0 false).toArray,by kernel_rfl,i_ (ha4.ak h3 (nf _ (by omega))) (by rfl) (by rfl) (jY gX) λaR _ hc12=>⟨_,rfl,by rfl,jY gX,(((ha.ext hX).ak h3 (nf _ hq))).ak hc12 (by have:=ha.lt;omega),λaC w6 hx5 hc6=>?_⟩⟩;exact sL.fin hst b4 hF ⟨hq,by have:=ha.lt;have:=hX.size;omega⟩ ⟨by omega,ha4.lt⟩ hc12 hx5 hc6
def GC(w0:I)(E:Nat->Prop)(d n:Nat)(l:dM)(ab:Nat)(T:Y bP)(c:Nat)(L:Y Nat)(P:b7->Y Nat->Y bP->Prop)(w w':I):Prop:=
 jX E L w w'/\∃ (a:Nat->Prop) (S:b7) (dV p:Y Nat) (cm:Y bP),(∀q,E q->a q)/\P S p cm/\ey w0 w' a d n l ab 6 S dV p T cm c
theorem Of{lb:Nat}{vs:Y O}(B:Var w bb vs 62)(C:vs[12]? =some (.pointer (some ⟨y.lb,0,none⟩)))(g:ey w0 w E d n l y.ab 6 S dV p [] cm 0)(P:S.now=0)(i:Var w y.lb y.c 172)(hb:gC w y)(Q:∀q,q=y.lb\/y.own q\/aD s q->E q)(hs:Src 1 w s (ax g7))(hc:s.len<=s.cap)(R:∀q,y.own q->¬aD s q):
 az ah 8 #[.pointer (some ⟨bb,0,none⟩),.agg (hA 1 s 0 cJ.zero bD.zero).toArray] w (λv w'=>∃D:Y O,v=.agg D.toArray/\(∃ (t:ag) (e:Int),D=jt (e4 1 t 1 2 true e) 0 0 0 false)/\GC w0 E d n l y.ab [kk 9] 1 [y.m1,y.m2] (λ_ _ _=>True) w w'):=by
 refine GB (k:=1) rfl B C rfl (.inl rfl) (qo ..) λw1 q F a j=>?_;refine Z.De _ _ w1 _ ?_;(delta Z.q2 fL r1 aa ae aw bd a_ lJ lL fj bx;dsimp only);refine aV (vs:=hA 1 s 0 cJ.zero bD.zero) rfl λaf G H _=>aV (vs:=g_) rfl λb T m _=>⟨1,(G.ext m).cell,λ_=>aQ ?_,λh=>(by cases h)⟩;have f:=(H.trans m).trans (bC b);have I:=(G.ext m).ext (bC b);have o:=T.ext (bC b);generalize b.drew=aA at f I o;have b4:=F.trans f;have fL:=F.size;have fl:=H.size;have ao:=hb.lt y.m1 (.inr (.inl rfl));have ap:=hb.lt y.m2 (.inr (.inr (.inl rfl)));have la:=g.v.lt;have a4:=g.grow (cf:=λq=>E q\/(w.heap.size<=q/\q<aA.heap.size)) b4 (λq a=>a) (.inl g.oK);refine⟨_,rfl,id,_,by rw[av,(B.ext b4).cell];exact C,id,s,by rw[av];exact I.cell,(N2 a4 P (i.ext b4) (hb.ext b4) (λq a=>.inl (Q q a)) (hs.ext b4) hc R).use ?_⟩;rintro _ aF ⟨⟨t,e,rfl,_⟩,r,U,aM,X,ac,h4,u,dz⟩;have K:w.heap.size<=q/\q<aA.heap.size:=⟨a,by have:=j.lt;have:=f.size;omega⟩;have L:w.heap.size<=af.heap.size/\af.heap.size<aA.heap.size:=⟨J,o.lt⟩;have ai:=r.var o (.inr L) (by simp;omega);have aj:=r.var (j.ext f) (.inr K) (by simp;omega);refine⟨1,t,1,2,true,e,rfl,(jt (e4 1 t 1 2 true e) 0 0 0 false).toArray,by kernel_rfl,i_ ai (by rfl) (by rfl) (jY gX) λaq _ x=>⟨_,rfl,by rfl,jY gX,aj.ak x (by have:=j.lt;omega),λaC ar M N=>⟨⟨t,e,rfl⟩,?_,U,aM,X,ac,h4,λz A=>u z (.inl A),trivial,((dz.hG (u _ (.inr L)) J x).ext M).hG (u _ (.inr K)) J N⟩⟩⟩;obtain⟨V,al,am⟩:=r;have an:jX E [y.m1,y.m2] w aF:=⟨λz=>V z/\z<w.heap.size,ct (W:=λz=>V z/\z<w.heap.size) (ad.bA b4) al λz i h=>⟨h,i⟩,λz A h=>am z (.inl A) h.1⟩;exact((an.more x λz e=>J).more (ad.bA (W:=λ_=>False) M) λz h=>h.elim).more N λz e=>by omega
theorem Og{ab lb:Nat}{vs:Y O}(o:Var w bb vs 62)(F:vs[12]? =some (.pointer (some ⟨lb,0,none⟩)))(G:vs[11]? =some (.pointer (some ⟨ab,0,none⟩)))(f:ey w0 w E d n l ab 6 S dV p T cm c)(hc:c<=9000):
 az ah 8 #[.pointer (some ⟨bb,0,none⟩),.agg (hA 10 dt 0 cJ.zero bD.zero).toArray] w (λv w'=>∃r:Y O,v=.agg r.toArray/\r=jt kU 0 0 0 false/\GC w0 E d n l ab T (c+1) [] (λ_ _ cm=>cm=T) w w'):=by
 refine GB (k:=10) rfl o F rfl (.inr rfl) (qo ..) λw1 q t g i=>?_;refine Z.De _ _ w1 _ ?_;(delta Z.q2 fL r1 aa ae aw bd a_ lJ lL fj bx;dsimp only);refine aV (vs:=hA 10 dt 0 cJ.zero bD.zero) rfl λaf H u _=>aV (vs:=g_) rfl λa x y _=>⟨10,(H.ext y).cell,λh=>(by cases h),λ_=>⟨λh=>(by cases h),λ_=>⟨λh=>(by cases h),λ_=>⟨λh=>(by cases h),λ_=>⟨λh=>(by cases h),λ_=>⟨λh=>(by cases h),λ_=>?_⟩⟩⟩⟩⟩⟩;have j:=u.trans y;have b4:=t.trans j;have fL:=t.size;have fl:=u.size;have la:=f.v.lt;have a4:=f.grow (cf:=λq=>E q\/(w.heap.size<=q/\q<a.heap.size)) b4 (λq g=>g) (.inl f.oK);refine⟨_,rfl,_,by rw[av,(o.ext b4).cell];exact G,(yK a4.v).use ?_⟩;rintro _ _ ⟨rfl,rfl⟩;refine⟨_,rfl,(a4.sync hc).use ?_⟩;rintro _ aF ⟨rfl,aM,d8,dz⟩;have mE:∀z,(E z\/(w.heap.size<=z/\z<a.heap.size))->¬(S.own λq=>E q\/(w.heap.size<=q/\q<a.heap.size)).W z:=λz b I=>by
  have:=a4.s.mx b;exact this.2 (I.2 this.1)
 have A:w.heap.size<=q/\q<a.heap.size:=⟨g,by have:=i.lt;have:=j.size;omega⟩;have B:w.heap.size<=af.heap.size/\af.heap.size<a.heap.size:=⟨J,x.lt⟩;have K:=x.ak d8.ak (mE _ (.inr B));have L:=(i.ext j).ak d8.ak (mE _ (.inr A));refine⟨0,rfl,g_.toArray,by kernel_rfl,i_ K (by rfl) (by rfl) (jY gX) λN _ m=>⟨_,rfl,by rfl,jY gX,L.ak m (by have:=i.lt;omega),λaC P C D=>⟨rfl,?_,_,aM,_,_,T,λz b=>.inl b,rfl,((dz.hG (.inr B) J m).ext C).hG (.inr A) J D⟩⟩⟩;have M:jX E [] w aF:=⟨_,(ad.bA b4).trans d8.ak,λz b h=>absurd h (mE z (.inl b))⟩;exact((M.more m λz e=>J).more (ad.bA (W:=λ_=>False) C) λz h=>h.elim).more D λz e=>by omega
end
section
variable {w0 w w' w1 aA:I}{E:Nat->Prop}{bb d n c ab:Nat}{l:dM}{c0 a7 cl cc b1 bT:Int}{cV:ar}{a0 oT:al ar}{S:b7}{dV p:Y Nat}{T cm:Y bP}{aL:ba}
theorem ey.y_(h:ey w0 w E d n l ab 6 S dV p T cm c){q:Nat}(a:E q):¬bI S.T.C.D q:=λhf=>h.s.at_.t.nf (h.s.mx a).1 (.inl (.inr (.inr hf)))
theorem Oh(b:ey w0 aA E d n l ab 6 S dV p T cm c)(hc:c<=9000)(hd:cv w aL)(H:sA S.T.C.D aL)(I:Ext w0 w)(U:aA.heap.size<=w.heap.size)(W:hY (l.aq:Nat) (l.batch:Nat) (l.fC:Nat))(K:Var w bb (oS d l.aq l.batch l.fC c0 a7 cl cc b1 bT (some cV) a0 oT) 62)(A:E bb)(X:mF cl a7 cc b1 bT=true):
 az ah 25 #[.pointer (some ⟨bb,0,none⟩)] w (λv w'=>(∃N:Int,v=.agg (jt kU 0 N (cm.length:Nat) false).toArray)/\Ext w0 w'/\∃V:Nat->Prop,ad V w w'/\∀q,V q->bI S.T.C.D q\/q=bb):=by
 refine okF (Z.wB (some ⟨bb,0,none⟩)) aj.wB func25 ?_;(delta Z.wB fL aw st bE en r1 db e0 aE ae bx aa CX an lL;dsimp only);have ax:=K.lt;have nb:¬bI S.T.C.D bb:=b.y_ A;have wb:w0.heap.size<=bb:=b.s.oJ _ (.inr (.inr (.inr (.inl (b.s.mx A).1))));have Y:∀q,bI S.T.C.D q->q<w.heap.size:=λq j=>by have:=b.s.at_.t.lt (q:=q) (.inl (.inr (.inr j)));omega
 refine aV (vs:=g_) rfl λw1 ac m _=>?_;have L:=K.ext m;obtain⟨bH,bL⟩:=ef L (i:=11) (by show 11<13;decide);have M:=er L (i:=11) (.pointer none);obtain⟨ag,ai⟩:=ef M (i:=12) (by show 12<13;decide);have o:=er M (i:=12) (.pointer none);have f:=(dD w1 bb 11 (.pointer none)).trans (dD _ bb 12 (.pointer none));refine⟨_,rfl,by rw[av];exact bH,by rw[av];exact bL,aQ ⟨_,rfl,by rw[av,av];exact ag,by rw[av,av];exact ai,aQ (aQ ?_)⟩⟩;rw[av,av];generalize (w1.setCell ⟨bb,0+11,none⟩ (.pointer none)).setCell ⟨bb,0+12,none⟩ (.pointer none)=aC at o f
 replace o:Var aC bb (oS d l.aq l.batch l.fC c0 a7 cl cc b1 bT (some cV) none none) 62:=o
 have g:=bC aC;have a:=o.ext g;have O:=((hd.ext m).ak f λq j e=>nb (e▸H.cV q j)).ext g;have P:=(ac.ak f J).ext g;have Q:=(Ext.bO (I.trans m) f wb).trans g;have r:ad (λq=>bI S.T.C.D q\/q=bb) w aC.drew:=((ad.bA m).trans (f.mono λq _ e=>.inr e)).trans (ad.bA g);generalize aC.drew=ay at a O P Q r;refine⟨λ_=>False,_,rfl,id,_,a.cell,_,rfl,id,_,by rw[av];exact a.cell,_,by rw[av,av];exact a.cell,_,by rw[av,av];exact a.cell,(b.N6 hc O H Q (dG U r.size) W).use ?_⟩;rintro _ aB ⟨dm,rfl,uY,B⟩;have al:=a.ak B nb;have am:=P.ak B λhf=>by have:=Y _ hf;omega
 have nZ:=r.size;have ao:=r.trans (B.mono λq _ h=>.inl h);refine⟨_,_,rfl,bK (λe w'=>e=0/\gm w0 w' E d n l dm p (cm.map bP.kv) p (cm.map bP.kv) (c+1)/\Var w' w.heap.size g_ 41/\ad (λq=>bI S.T.C.D q\/q=bb) w w') (λk ap=>⟨λ_=>(Gy al).use ?_,λh=>(by cases h)⟩) ?_⟩
 .rintro _ aD (⟨hg,_⟩|⟨_,rfl,af,_,_,_,_,_,_,_,_,_,F,G,_⟩)
  .rw[X]at hg;cases hg
  .exact⟨_,rfl,ap _ _ ⟨rfl,(uY.ext F).hG A G,(am.ext F).ak G J,(ao.trans (ad.bA F)).trans (G.mono λq _ e=>.inr e)⟩⟩
 rintro _ bG ⟨rfl,y,ar,au⟩;refine⟨λh=>(by cases h),λ_=>(LH y.at_).use ?_⟩;rintro _ aF ⟨rfl,z⟩;refine⟨_,_,_,_,_,_,rfl,_,rfl,(Fx (y.at_.ext z)).use ?_⟩;rintro _ _ ⟨rfl,rfl⟩;refine⟨_,rfl,(jt kU 0 (IntKind.wrap .i64 (dm.u.di:Nat)) (dm.keys:Nat) false).toArray,by kernel_rfl,i_ (ar.ext z) (by rfl) (by rfl) (jY gX) λaG _ R=>⟨⟨IntKind.wrap .i64 (dm.u.di:Nat),?_⟩,Ext.bO (y.x.trans z) R I.size,λq=>bI S.T.C.D q\/q=bb,ct (au.trans (ad.bA z)) R λq j e=>J,λq h=>h⟩⟩;rw[y.at_.keys,dn];rfl
theorem Oi(i:Var w bb (oS d l.aq l.batch l.fC c0 a7 cl cc b1 bT (some cV) a0 oT) 62)(F:E bb)(j:ey w0 w E d n l ab 6 S dV p T cm c)(hc:c<=9000)(R:hY (l.aq:Nat) (l.batch:Nat) (l.fC:Nat))(U:mF cl a7 cc b1 bT=true):
 az ah 8 #[.pointer (some ⟨bb,0,none⟩),.agg (hA 11 dt 0 cJ.zero bD.zero).toArray] w (λv w'=>∃G:Y O,v=.agg G.toArray/\(∃N:Int,G=jt kU 0 N (cm.length:Nat) false)/\Ext w0 w'/\jX E [bb] w w'):=by
 refine BF (k:=11) rfl (by decide) (qo ..) λw1 q H m o=>?_;refine Z.Ah _ _ w1 _ ?_;(delta Z.mc fL r1 aa ae aw bx po aK bd a_ dg fK;dsimp only);refine aV (vs:=hA 11 dt 0 cJ.zero bD.zero) rfl λaf I K _=>aV (vs:=g_) rfl λb X r _=>⟨11,(I.ext r).cell,λh=>(by cases h),λ_=>⟨λh=>(by cases h),λ_=>⟨λh=>(by cases h),λ_=>⟨λ_=>aQ ?_,λh=>(by cases h)⟩⟩⟩⟩;have f:=(K.trans r).trans (bC b);have L:=(I.ext r).ext (bC b);have t:=X.ext (bC b);generalize b.drew=aA at f L t;have b4:=H.trans f;have fL:=H.size;have fl:=K.size;have lb:=i.lt;have a4:=j.grow (cf:=λq=>E q\/(w.heap.size<=q/\q<aA.heap.size)) b4 (λq m=>m) (.inl j.oK);refine⟨_,rfl,id,_,(i.ext b4).cell,id,dt,by rw[av];exact L.cell,(a4.N5 hc).use ?_⟩;rintro _ ac ⟨rfl,aL,hd,ag,g⟩;have ai:Ext w0 ac:=Ext.eH a4.s.x g λz a=>a4.s.oJ z (.inl (.inr (.inr a)));refine⟨rfl,(Oh a4 hc hd ag ai g.size R ((i.ext b4).ak g (a4.y_ (.inl F))) (.inl F) U).use ?_⟩;rintro _ M ⟨⟨N,rfl⟩,aj,V,al,dr⟩;have u:ad (λz=>V z\/bI S.T.C.D z) aA M:=(g.mono λz _ h=>.inr h).trans (al.mono λz _ h=>.inl h);have y:∀z,(E z\/(w.heap.size<=z/\z<aA.heap.size))->z≠bb->¬(V z\/bI S.T.C.D z):=λz a A h=>by
  rcases h with h|h
  .rcases dr z h with h|h
   .exact a4.y_ a h
   .exact A h
  .exact a4.y_ a h
 have am:w.heap.size<=q/\q<aA.heap.size:=⟨m,by have:=o.lt;have:=f.size;omega⟩;have an:w.heap.size<=af.heap.size/\af.heap.size<aA.heap.size:=⟨J,t.lt⟩;have ap:w0.heap.size<=w.heap.size:=j.s.x.size;refine⟨_,rfl,i_ (t.ak u (y _ (.inr an) J)) (by rfl) (by rfl) (jY gX) λar _ B=>⟨_,rfl,by rfl,jY gX,((o.ext f).ak u (y _ (.inr am) J)).ak B (by have:=o.lt;omega),λaC au P Q=>⟨⟨N,rfl⟩,Ext.bO ((Ext.bO aj B J).trans P) Q J,?_⟩⟩⟩;have ao:jX E [bb] w M:=⟨_,(ad.bA b4).trans u,λz a h=>by
  refine dH.2 (Classical.byContradiction λA=>?_);exact y z (.inl a) A h⟩
 exact((ao.more B λz e=>J).more (ad.bA (W:=λ_=>False) P) λz h=>h.elim).more Q λz e=>by omega
end
section
variable {w0 w w' w1 gp af:I}{bb d rb ab lb aN m1 m2 hb hm sb most:Nat}{n c0 a7 cl cc b1 bT:Int}{l:dM}{bm:iM}{S:b7}
theorem uX.ext(h:uX w w1 bb d n l c0 a7 cl cc b1 bT S gp af bm ab lb aN m1 m2 hb hm sb most)(hx:Ext w1 w'):uX w w' bb d n l c0 a7 cl cc b1 bT S gp af bm ab lb aN m1 m2 hb hm sb most:=
 {h with x:=h.x.trans hx,BD:=h.BD.ext hx,g:={h.g with y9:=h.g.y9.ext hx,o4:=h.g.o4.ext hx,fw:=h.g.fw.ext hx,he:=h.g.he.ext hx,ia:=h.g.ia.ext hx}}
theorem q9(n:Int)(w:I):az ah 49 #[n] w (λv w'=>v=.int .i64 (IntKind.wrap .i64 (IntKind.wrap .i64 (4*n)+64))/\w=w'):=by
 refine okF (Z.q9 n) aj.q9 func49 ?_;exact⟨rfl,rfl⟩
theorem r8(w:I):az ah 19 #[.agg #[.int .u8 1,.int .u8 5,.int .u8 5,.int .u8 0],.int .u8 3] w (λv w'=>∃ (oE:I) (bb d rb:Nat) (p:al ar) (S:b7) (gp af:I) (bm:iM) (ab lb aN m1 m2 hb hm sb:Nat),v=.tuple #[.pointer (some rb),true]/\Ext w oE/\
 uX oE w' bb d 88 (qi 3) 1 6 6 1 1 1 S gp af bm ab lb aN m1 m2 hb hm sb 6/\bb<rb/\Var w' rb [.pointer (some bb),.pointer p,()] 77):=by
 refine okF (Z.r8 #[.int .u8 1,.int .u8 5,.int .u8 5,.int .u8 0] 3) aj.r8 func19 ?_;(delta Z.r8 aa C6 vV bR aE bE nY en r1 db aK bx C7 e0 fj ae;dsimp only);refine aV (vs:=[.int .u8 1,.int .u8 5,.int .u8 5,.int .u8 0]) rfl λw1 r s _=>⟨_,r.rd rfl,(r9 w1).use ?_⟩;rintro _ J ⟨rfl,t⟩;simp only[av,cg];refine⟨1,6,6,1,1,1,rfl,BC (zs:=lv 0 0 0 0 0 0) (us:=lv 1 6 6 1 1 1) rfl Gw λaR u x=>aQ ?_⟩;have h:=((s.trans t).trans x).trans (bC aR);have a:=u.ext (bC aR);generalize aR.drew=i at h a;refine⟨λ_=>False,id,6,a.cell,by decide,id,1,a.cell,6,a.cell,6,a.cell,1,a.cell,1,a.cell,1,a.cell,(q9 6 i).use ?_⟩;rintro _ _ ⟨rfl,rfl⟩;have y:=pR (b:=3) (d:=0) (by decide) (by decide) i;refine⟨_,rfl,ad.refl _ _,y.use ?_⟩;rintro _ j ⟨rfl,e⟩;refine⟨_,_,_,rfl,ad.bA e,(pr 88 8 4 1 1 6 6 1 1 1 (by decide) j).use ?_⟩;rintro _ K ⟨m,⟨hg,_⟩|⟨_,bb,d,l,S,gp,af,bm,ab,lb,aN,m1,m2,hb,hm,sb,most,rfl,aP,aU,z,R⟩⟩
 .exact absurd hg (by decide+kernel)
 obtain rfl:l=qi 3:=by
  obtain⟨jo,A,bu⟩:=l;have h1:jo=8:=by dsimp only at aP;omega
  have h2:A=4:=by dsimp only at aU;omega
  have B:bu=1:=by dsimp only at z;omega
  subst h1 h2 B;rfl
 obtain rfl:most=6:=by have:=R.g.N8;omega
 have c:=(a.ext e).ext m;refine⟨_,_,rfl,ad.bA m,1,c.cell,6,c.cell,6,c.cell,1,c.cell,1,c.cell,1,c.cell,aV (vs:=[()]) rfl λL _ f _=>⟨6,(c.ext f).cell,aV (vs:=[(6:Int),()]) rfl λC _ n _=>(r2 _ _ C).use ?_⟩⟩;rintro _ M ⟨⟨p,rfl⟩,o⟩;refine⟨_,rfl,aV (vs:=[.pointer (some bb),.pointer p,()]) rfl λD E F _=>gg true (λ_ k G=>(q9 3 D).use ?_) λN q=>?_⟩
 .rintro _ _ ⟨rfl,rfl⟩
  exact⟨_,rfl,G _ (.refl _ _)⟩
 have H:=((((f.trans n).trans o).trans F).trans q);refine⟨j,bb,d,_,p,S,gp,af,bm,ab,lb,aN,m1,m2,hb,hm,sb,rfl,h.trans e,R.ext H,?_,E.ext q⟩;have:=R.g.ia.lt;have:=((f.trans n).trans o).size;omega
end
section
variable {w0 w w' w1:I}{n:Int}
theorem GD(w:I):az ah 12 #[] w (λv w'=>v=.bool true/\Ext w w'):=by
 refine Z.Ix w _ ?_;(delta Z.uj C5 ae aw aE fK eK z3 aa fL r1 aK;dsimp only);refine⟨#[.int .u8 1,.int .u8 5,.int .u8 5,.int .u8 0],by kernel_rfl,(r8 w).use ?_⟩;rintro _ af ⟨oE,bb,d,rb,p,S,gp,bh,bm,ab,lb,aN,m1,m2,hb,hm,sb,rfl,aL,R,bi,C⟩;have a:=R.g;have T:=R.x;have U:=R.Oa;have V:=a.N9;have bj:=R.Ob;have aM:=C.lt;have aI:∀q,q=ab\/q=lb\/q=aN\/q=m1\/q=m2\/q=hb\/q=hm->q<af.heap.size:=by
  rintro q (rfl|rfl|rfl|rfl|rfl|rfl|rfl)
  .exact a.y9.lt
  .exact a.o4.lt
  .exact a.fw.v.lt
  .exact a.fw.bH.lt
  .exact a.fw.bL.lt
  .exact a.he.v.lt
  .exact a.he.k.lt
 refine⟨_,_,rfl,λh=>(by cases h),λ_=>⟨_,rfl,_,C.cell,(jW.c dt).toArray,by kernel_rfl,(hA 3 dt 0 jW bD.zero).toArray,by kernel_rfl,(Od a.ia R.BD jW).use ?_⟩⟩;rintro _ aO ⟨_,rfl,rfl,D,aQ,W,i,X⟩;have aP:mz (ez []) jW dt=(0,[(jW,[])]):=by decide+kernel
 rw[aP]at W⊢;have fl:=T.size;have iH:=i.size;have z:∀q,bb<=q->¬gN bm [] q:=λq h0 h=>by have:=(U q h).2;omega
 have dN:∀q,bb<=q->q<af.heap.size->¬gN bm D q:=λq h0 h1 h=>(X q h).elim (z q h0) λh=>by omega
 have ac:∀q,gN bm [] q->gp.heap.size<=q:=λq h=>(U q h).1;have ad:∀q,gN bm D q->gp.heap.size<=q:=λq h=>(X q h).elim (ac q) λh=>by omega
 have aR:Ext gp aO:=Ext.eH T i ac;have bn:=V ab (.inl rfl);have bo:=aI ab (.inl rfl);have f:∀q,q=ab\/q=lb\/q=aN\/q=m1\/q=m2\/q=hb\/q=hm->bb<q:=λq h=>by have:=V q h;omega
 have ag:=C.ak i (z _ J);have ai:=a.ia.ak i (z _ (bk _));refine⟨_,rfl,0,rfl,_,rfl,_,ag.cell,kT.c.toArray,by kernel_rfl,(hA 5 dt 1 cJ.zero kT).toArray,by kernel_rfl,(Oe ai aQ 1 kT).use ?_⟩;rintro _ bl ⟨_,rfl,rfl,aS,aT,E,j,aU⟩;rw[W,show oP [(jW,[])] 1 kT=(0,[(jW,[kT])]) by decide+kernel]at E⊢;obtain⟨r,rfl⟩:∃r,aS=[r]:=List.length_eq_one_iff.1 (by have:=congrArg List.length E;simpa[ez] using this);have aV:r.s=jW/\r.bs=[kT]:=by simpa[ez] using E
 obtain⟨bp,bq,F,G⟩:=r;obtain⟨rfl,rfl⟩:=aV;have aj:Ext gp bl:=Ext.eH aR j ad;have aW:=ag.ak j (dN _ J aM);have aX:=ai.ak j (dN _ (bk _) J);have l:∀q,(q=ab\/q=lb\/q=aN\/q=m1\/q=m2\/q=hb\/q=hm)->¬gN bm [] q:=λq h=>z q (by have:=f q h;omega);have nb:∀q,(q=ab\/q=lb\/q=aN\/q=m1\/q=m2\/q=hb\/q=hm)->¬gN bm D q:=λq h=>dN q (by have:=f q h;omega) (aI q h);have aY:=(a.y9.ak i (l _ (by simp))).ak j (nb _ (by simp));have aZ:=(a.o4.ak i (l _ (by simp))).ak j (nb _ (by simp));have a0:=(a.fw.ak i ⟨l _ (by simp),l _ (by simp),l _ (by simp)⟩).ak j ⟨nb _ (by simp),nb _ (by simp),nb _ (by simp)⟩;have a1:=(a.he.ak i ⟨l _ (by simp),l _ (by simp)⟩).ak j ⟨nb _ (by simp),nb _ (by simp)⟩;have al:gC bl ⟨lb,ab,aN,m1,m2,hb,hm,sb,bm,F,G⟩:=⟨a0,a1,aT⟩;have a2:∀q,iw.own ⟨lb,ab,aN,m1,m2,hb,hm,sb,bm,F,G⟩ q->gp.heap.size<=q:=by
  rintro q (rfl|rfl|rfl|rfl|rfl|h)
  .have:=f q (by simp);omega
  .have:=f q (by simp);omega
  .have:=f q (by simp);omega
  .have:=f q (by simp);omega
  .have:=f q (by simp);omega
  .exact(aU q h).elim (ad q) λh=>by omega
 refine⟨_,rfl,0,rfl,fH.c.toArray,by kernel_rfl,(r0 bl).use ?_⟩;rintro _ bG ⟨t,rfl,ht,n,am⟩;have a3:=aj.trans n;have vU:=aj.size;have uY:=R.uY.grow (cf:=λq=>gp.heap.size<=q/\q<bG.heap.size) a3 λq b=>.inr b;have an:=aY.ext n;have ao:=aZ.ext n;have H:=aX.ext n;have o:=aW.ext n;have A:=al.ext n;have a23:ey oE bG (λq=>gp.heap.size<=q/\q<bG.heap.size) d (88:Int).toNat (qi 3) ab 6 _ [] [] [] [] 0:=uY.N4 R.live R.q (by show S.pending<_;rw[R.p8];decide) ⟨J,an.lt⟩ an (by decide) (by decide);refine⟨_,_,rfl,_,rfl,_,o.cell,(hA 1 t 0 cJ.zero bD.zero).toArray,by kernel_rfl,(Of (y:=⟨lb,ab,aN,m1,m2,hb,hm,sb,bm,F,G⟩) (lb:=lb) H rfl a23 R.now ao A ?_ ht.src ht.2.1 ?_).use ?_⟩
 .rintro q (rfl|b|b)
  .exact⟨by have:=f q (by simp);omega,ao.lt⟩
  .exact⟨a2 q b,A.lt q b⟩
  .exact⟨by have:=am q b;omega,ht.lt q b⟩
 .intro q b h
  have:=am q h;have:=al.lt q b;omega
 rintro _ u ⟨_,rfl,⟨K,e,rfl⟩,ap,aq,nm,dV,br,cm,L,_,ar⟩;have au:gp.heap.size<=rb/\rb<bG.heap.size:=⟨J,o.lt⟩;have M:gp.heap.size<=bb/\bb<bG.heap.size:=⟨J,H.lt⟩;have bt:bb<m1/\bb<m2:=⟨f _ (by simp),f _ (by simp)⟩;have a4:rb∉ [m1,m2]:=λh=>by
  simp only[cW,fh,ft]at h;rcases h with h|h
  .exact A.fw.bH.hO (h▸o)
  .exact A.fw.bL.hO (h▸o)
 have a5:=ap.var o au a4;have av:=ap.var H M (by simp;omega);have a6:Array.extract (jt (e4 1 K 1 2 true e) 0 0 0 false).toArray 0 (0+6)=(e4 1 K 1 2 true e).toArray:=by rfl
 refine⟨_,rfl,?_⟩;rw[a6];refine lp (zs:=kU) (us:=e4 1 K 1 2 true e) (by rfl) (by rfl) gX λax ay O=>?_;have aA:=a5.ext O;have aB:=av.ext O;have a7:=ar.grow (cf:=λq=>aq q\/(u.heap.size<=q/\q<ax.heap.size)) O (λq b=>b) (.inl ar.oK);refine⟨_,rfl,_,aA.cell,(hA 10 dt 0 cJ.zero bD.zero).toArray,by kernel_rfl,(Og (lb:=lb) aB rfl rfl a7 (by decide)).use ?_⟩;rintro _ bu ⟨_,rfl,rfl,P,bv,bw,bx,bz,lL,aC,a8,a9⟩;subst a8;have aD:aq u.heap.size\/(u.heap.size<=u.heap.size/\u.heap.size<ax.heap.size):=.inr ⟨bk _,ay.lt⟩;have a_:=P.var aA (.inl (L _ au)) (by simp);have ba:=P.var aB (.inl (L _ M)) (by simp);have bc:=P.var ay aD (by simp);have bA:=av.lt;refine⟨_,rfl,0,rfl,_,rfl,_,a_.cell,(hA 11 dt 0 cJ.zero bD.zero).toArray,by kernel_rfl,(Oi ba (aC _ (.inl (L _ M))) a9 (by decide) (Mc 3) (by decide+kernel)).use ?_⟩;rintro _ bB ⟨_,rfl,⟨N,rfl⟩,bd,be⟩;have bf:=be.var bc (aC _ aD) (by simp;omega);refine⟨_,rfl,lp (zs:=g_) (us:=jt kU 0 N (([kk 9]:Y bP).length:Nat) false) (by rfl) (by rfl) (jY gX) λbC aF aG=>?_⟩;have aH:=bf.ext aG;refine gg true (λ_ k m=>⟨1,aH.cell,m _ (.refl _ _)⟩) λbE B=>gg true (λ_ k m=>⟨2,ix (aH.ext B) rfl,m _ (.refl _ _)⟩) λbF Q=>gg true (λ_ k m=>⟨0,ix ((aF.ext B).ext Q) rfl,m _ (.refl _ _)⟩) λbI aJ=>gg true (λ_ k m=>⟨1,ix (((aF.ext B).ext Q).ext aJ) rfl,m _ (.refl _ _)⟩) λbJ bg=>⟨rfl,?_⟩;exact(((((aL.trans bd).trans aG).trans B).trans Q).trans aJ).trans bg
theorem Oj(w:I):az ah 4 #[.pointer none] w (λv w'=>v=.pointer none/\w=w'):=by
 refine okF (Z.Ad none) aj.Ad func4 ?_;exact⟨λ_=>⟨rfl,rfl⟩,λh=>(by cases h)⟩
theorem Ol(w:I):az ah 5 #[.pointer none] w (λv w'=>v=.pointer none/\w=w'):=by
 refine okF (Z.Ae none) aj.Ae func5 ?_;exact⟨λ_=>⟨rfl,rfl⟩,λh=>(by cases h)⟩
theorem Om(w:I):az ah 6 #[.pointer none] w (λv w'=>v=.pointer none/\w=w'):=by
 refine okF (Z.Af none) aj.Af func6 ?_;exact⟨λ_=>⟨rfl,rfl⟩,λh=>(by cases h)⟩
theorem On(w:I):az ah 7 #[.pointer none] w (λv w'=>v=.pointer none/\w=w'):=by
 refine okF (Z.Ag none) aj.Ag func7 ?_;exact⟨λ_=>⟨rfl,rfl⟩,λh=>(by cases h)⟩
theorem Oo(n f b dl c0 a7 cl cc b1 bT:Int)(w:I):az ah 3 #[.int .i64 n,.agg #[.int .i64 f,.int .i64 b,.int .u64 dl],.agg #[.int .u64 c0,.int .i64 a7,.int .i64 cl,.int .i64 cc,.int .i64 b1,.int .i64 bT]] w (λv w'=>v=.bool true/\Ext w w'):=by
 refine okF (Z.x3 n f b dl c0 a7 cl cc b1 bT) aj.x3 func3 ?_;(delta Z.x3 aE fj ae fK r1 aa aK b5 db e0 bn;dsimp only);refine aV (vs:=[.int .i64 f,.int .i64 b,.int .u64 dl]) rfl λw1 x y _=>aV (vs:=lv c0 a7 cl cc b1 bT) rfl λaf z A _=>(Oj af).use ?_;rintro _ _ ⟨rfl,rfl⟩;refine⟨_,rfl,oM false (λ_ k a=>(Ol af).use ?_) λB i=>oM false (λ_ k a=>(Om B).use ?_) λC j=>oM false (λ_ k a=>(On C).use ?_) λbG l=>oM false (λ_ k a=>⟨(hA 1 dt 0 cJ.zero bD.zero).toArray,by kernel_rfl,(BE (k:=1) (p:=none) rfl (.inl rfl)).use ?_⟩) λcy o=>⟨λh=>absurd h (by decide),λ_=>?_⟩⟩
 .rintro _ _ ⟨rfl,rfl⟩
  exact⟨_,rfl,a _ (.refl _ _)⟩
 .rintro _ _ ⟨rfl,rfl⟩
  exact⟨_,rfl,a _ (.refl _ _)⟩
 .rintro _ _ ⟨rfl,rfl⟩
  exact⟨_,rfl,a _ (.refl _ _)⟩
 .rintro _ P ⟨rfl,hx⟩
  exact⟨_,rfl,1,rfl,a _ hx⟩
 have q:=(((A.trans i).trans j).trans l).trans o;refine bK (λm w'=>m<=200/\cy=w') (λk a=>⟨λ_=>a _ _ ⟨by decide,rfl⟩,λh=>a _ _ ⟨by have:=cx h;omega,rfl⟩⟩) ?_;rintro m _ ⟨hm,rfl⟩;have c:=x.ext q;have hc:=z.ext (((i.trans j).trans l).trans o);refine⟨f,c.cell,b,ix c rfl,dl,ix c rfl,c0,hc.cell,a7,ix hc rfl,cl,ix hc rfl,cc,ix hc rfl,b1,ix hc rfl,bT,ix hc rfl,(pr m f b dl c0 a7 cl cc b1 bT J cy).use ?_⟩;rintro v D ⟨d,E⟩;obtain⟨p,e,rfl,g,he⟩:∃ (p:al ar) (e:Int),v=.tuple #[.pointer p,.int .i64 e]/\(!(Option.isNone p))=lZ m f b dl cl a7 cc b1 bT/\e=(if lZ m f b dl cl a7 cc b1 bT then 0 else 1):=by
  rcases E with ⟨hg,rfl⟩|⟨hg,_,_,_,_,_,_,_,_,_,_,_,_,_,_,_,_,rfl,_⟩
  .exact⟨none,1,rfl,by rw[hg];rfl,by rw[hg];rfl⟩
  .exact⟨_,0,rfl,by rw[hg];rfl,by rw[hg];rfl⟩
 have c:=c.ext d;have hc:=hc.ext d;refine⟨p,e,rfl,gg (decide (hY f b dl)) (λ_ k a=>⟨f,c.cell,b,ix c rfl,dl,ix c rfl,(rY D f b dl).use ?_⟩) λF r=>?_⟩
 .rintro _ Q ⟨rfl,hx⟩
  exact⟨_,rfl,a _ hx⟩
 have hc:=hc.ext r;refine gg (lu a7 cc b1 bT) (λ_ k a=>⟨c0,hc.cell,a7,ix hc rfl,cl,ix hc rfl,cc,ix hc rfl,b1,ix hc rfl,bT,ix hc rfl,(rZ c0 a7 cl cc b1 bT F).use ?_⟩) λR s=>?_
 .rintro _ S ⟨rfl,hx⟩
  exact⟨_,rfl,a _ hx⟩
 have hc:=hc.ext s;refine gg (decide (cl>=1)) (λ_ k a=>⟨cl,ix hc rfl,a _ (.refl _ _)⟩) λT t=>gg (decide (cl<=400)) (λ_ k a=>⟨cl,ix (hc.ext t) rfl,a _ (.refl _ _)⟩) λd_ G=>?_;have u:=((((y.trans q).trans d).trans r).trans s).trans (t.trans G);have H:((((decide (m>=16)&&decide (hY f b dl))&&lu a7 cc b1 bT)&&decide (cl>=1))&&decide (cl<=400))=lZ m f b dl cl a7 cc b1 bT:=by
  unfold lZ mF
  cases decide (m>=16)<;>cases decide (hY f b dl)<;>cases lu a7 cc b1 bT<;>cases decide (cl>=1)<;>cases decide (cl<=400)<;>rfl
 rw[H]
 cases hg:lZ m f b dl cl a7 cc b1 bT with
 |false=>
  rw[hg]at g he;obtain rfl:p=none:=by cases p<;>simp_all
  obtain rfl:e=1:=he;refine⟨λ_=>gg true (λ_ k a=>(GD d_).use ?_) λU K=>⟨rfl,u.trans K⟩,λh=>(by cases h)⟩;rintro _ V ⟨rfl,hx⟩;exact⟨_,rfl,a _ hx⟩
 |true=>
  rw[hg]at g he;obtain rfl:e=0:=he;rw[g];refine⟨λh=>(by cases h),λ_=>gg true (λ_ k a=>⟨(hA 0 dt 0 cJ.zero bD.zero).toArray,by kernel_rfl,(BE (k:=0) rfl (.inr (.inl (by decide)))).use ?_⟩) λW L=>gg true (λ_ k a=>⟨(hA 15 dt 0 cJ.zero bD.zero).toArray,by kernel_rfl,(BE (k:=15) rfl (.inr (.inr (by decide)))).use ?_⟩) λM N=>gg true (λ_ k a=>(GD M).use ?_) λX O=>⟨rfl,((u.trans L).trans N).trans O⟩⟩
  .rintro _ Y ⟨rfl,hx⟩
   exact⟨_,rfl,1,rfl,a _ hx⟩
  .rintro _ ab ⟨rfl,hx⟩
   exact⟨_,rfl,1,rfl,a _ hx⟩
  .rintro _ ac ⟨rfl,hx⟩
   exact⟨_,rfl,a _ hx⟩
end
end Go.Proofs.YtcfodkffcmfcaaaGreat
