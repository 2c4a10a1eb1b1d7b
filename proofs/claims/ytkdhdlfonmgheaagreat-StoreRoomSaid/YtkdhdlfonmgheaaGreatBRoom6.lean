/- Contracts of the functions that the statement reaches, and the plain laws over them; each theorem stands with its conditions. -/
import Derived.Test.YtkdhdlfonmgheaaGreatBRoom5
namespace Go.Proofs.YtkdhdlfonmgheaaGreat
open Go a6 Go.Proofs.Tryz
structure FO(S aJ:cn):Prop where
 u:aJ.u=S.u
 gen:aJ.gen=S.gen
 now:aJ.now=S.now
 failed:aJ.failed=true
 V:aJ.T.C.D.bc=S.T.C.D.bc
 sa:∀j,aJ.T.C.D.dS j=S.T.C.D.c_ j
 aM:aJ.T.C.D.aM=S.T.C.D.aM
section
variable {w w':J}{C:bT}{X:Nat->Prop}{T:aL}{S aJ:cn}{pages aN:O Nat}{L aZ:O aR}
theorem AY(h:fw w S aN aZ)(e:Int)(cD:S.T.C.D.aM<=900000000):
 aP ak 81 #[.pointer (some S.st),e] w (λv w'=>v=e/\∃aJ,dK w' aJ aN aZ aN aZ/\dy 0 S aJ w w'/\FO S aJ):=by
 refine okF (af.sB (some S.st) e) az.sB func81 ?_;(delta af.sB st aT aW al aI r1 aH au bF dj;dsimp only);have aQ:=h.FN;obtain⟨av,ax,a5,cF,bw⟩:=h.set (i:=18) (x:=true) (by decide);refine⟨_,rfl,by rw[ay];exact av,by rw[ay];exact ax,aY ?_⟩;rw[ay,cE];obtain⟨bz,bA⟩:=dB a5 (i:=16) (by simp[cn.cells,gz]);have aR:=dI a5 (i:=16) (0:Int);have ac:=bw.trans (dg _ S.st 16 (0:Int));refine⟨_,rfl,by rw[ay];exact bz,by rw[ay];exact bA,aY ?_⟩;rw[ay,cE];generalize cI:(w.setCell ⟨S.st,18,none⟩ true).setCell ⟨S.st,16,none⟩ (0:Int)=bD at aR ac⊢;have ag:=h.t.nx h.es ac;have cJ:=ac.size;refine⟨_,rfl,_,by rw[ay];exact aR.cell,(Eo ag.s).use ?_⟩;rintro _ bE ⟨rfl,s1,bG,ah,bI⟩;have cK:=ah.size;obtain⟨ai,a6⟩:=ag.space bG ah bI ag.bC ag.low;have a8:=aR.ab ah (h.t.c3 _ h.es).2.1;obtain⟨ga,B⟩:∃ga,ga=S.T.uo S.T.g S.T.g s1 S.T.s2:=⟨_,rfl⟩;rw[←B]at ai a6;have aS:ga.C=S.T.C:=by rw[B];rfl
 have bJ:ga.E=S.T.E:=by rw[B];rfl
 have bK:ga.g=S.T.g:=by rw[B];rfl
 have bL:ga.P=S.T.P:=by rw[B];rfl
 have bM:ga.n=S.T.n:=by rw[B];rfl
 have bO:ga.sb=S.T.sb:=by rw[B];rfl
 have bP:ga.G=S.T.G:=by rw[B];rfl
 have bQ:ga.gen=S.T.gen:=by rw[B];rfl
 have bR:ga.f=S.T.g:=by rw[B];rfl
 have bS:∀q,ga.M q->S.T.M q\/w.heap.size<=q:=λq k=>(a6 q k).imp id λh=>by omega
 have cL:∀ (w':J),Var w' S.st ((S.cells.set 18 true).set 16 (0:Int)) 158->w'.cell? ⟨S.st,2,none⟩=some (.pointer (some S.T.C.c)):=λw' aU=>aU.cell;refine⟨rfl,_,rfl,_,by rw[ay];exact a8.cell,?_⟩;have a9:=AO ai.ca.raw;rw[aS]at a9;refine a9.use ?_;rintro _ am ⟨s,zs,rfl,bU,aV,an,bV⟩;have cM:=an.size
 have bW:∀z∈zs,∃no:Nat,z=(no:Int)/\S.T.g no=false:=λz K=>by
  have:=aV.mem_iff.1 K;unfold iu at this;obtain⟨f,hf,rfl⟩:=dU.1 this;obtain⟨bX,ba⟩:=gI.1 hf;have bb:f.full=true/\f.fi=true:=by unfold Fr.gq at ba;simpa using ba
  obtain⟨no,bN,bZ,ao,ap,bd,b0⟩:=h.t.ca.inv.ok f bX bb.1;refine⟨no,bN,?_⟩
  cases hg:S.T.g no with
  |false=>rfl
  |true=>
   have:=b0 (h.bC no hg);rw[bb.2]at this;cases this
 have cP:zs.length<=64:=by
  rw[aV.length_eq];unfold iu;rw[dr];exact eI (pA _ _) h.t.ca.raw.bZ
 have a0:=ai.ext an;obtain⟨P',a1⟩:∃P':Nat->aq aA,P'=λno=>if S.T.g no=true then S.T.P no else none:=⟨_,rfl⟩
 obtain⟨b1,_⟩:=a0.oZ (P:=P') a0.ca (ec.refl ga.C am) (λno bj p=>by
  rw[a1]at p;dsimp only at p;by_cases hg:S.T.g no=true
  .rw[if_pos hg]at p
   exact a0.dQ no bj (by rw[bL];exact p)
  .rw[if_neg hg]at p;cases p)
 have b2:∀q,aC s q->¬cO S.T.C q:=λq k hf=>by
  have:=bV q k;have:=ai.lt (q:=q) (.inl (by rw[aS];exact hf));omega
 refine⟨s,rfl,λn16 m=>∃ (i:Nat) (aD:bT),n16=(i:Nat)/\i<=zs.length/\bH m (ga.bg aD P')/\ec S.T.C aD am m 0/\aD.D=S.T.C.D/\(∀j,S.T.g j=true->aD.view j=S.T.C.view j)/\(∀f∈aD.aj,f.full=true->f∈S.T.C.aj/\∀z∈zs.take i,f.no≠z)/\a7 1 3 m s (zs.map encZ)/\(∀q,aC s q->¬cO aD q),
  λn16 _=>((zs.length:Int)-n16).toNat,⟨0,S.T.C,rfl,cN _,by rw[←aS];exact b1,.refl _ _,rfl,λ_ _=>rfl,λf hf _=>⟨hf,λz K=>(by simp at K)⟩,bU,b2⟩,?_⟩
 rintro _ m ⟨i,aD,rfl,hi,U,N,F,b3,be,aw,bf⟩;have cQ:s.len=zs.length:=by have:=aw.1;rw[dr]at this;omega
 have b4:∀ (w':J),ad (cO S.T.C) am w'->Var w' S.st ((S.cells.set 18 true).set 16 (0:Int)) 158:=λw' hc=>(a8.ext an).ab hc λhf=>(h.t.ca.inv.eR _ (.inr (.inr (.inl h.es)))).2 hf;have bh:=b4 _ N.ab;refine⟨λL=>?_,λL=>?_⟩
 .have L:(i:Int)<(s.len:Int):=b_ L
  have aB:i<zs.length:=by omega
  obtain⟨A,ar,b5⟩:∃a:ae,s.a=some a/\m.cell? (a.add (Int.toNat (i:Int)*1))=some (.int .i64 zs[i]):=by
   obtain⟨b,c,L,_,_,_,_,b6,_⟩:=aw.cell (i:=i) (v:=encZ zs[i]) (by rw[km,dE aB];rfl);exact⟨_,L,by rw[di,ay,cE,fz];exact b6⟩
  obtain⟨no,bi,b7⟩:=bW _ (cr aB);refine⟨A,ar,⟨I,L⟩,zs[i],b5,_,rfl,_,by rw[ay];exact bh.cell,?_⟩;have bk:=zN U.ca no;rw[bi];have X:aD.c=S.T.C.c:=N.c;have b8:(ga.bg aD P').C.c=S.T.C.c:=X;rw[b8]at bk;refine bk.use ?_;rintro _ cR ⟨⟨b,rfl⟩,bl,b9,aF,aU,cb,cc⟩;have bm:∀j,S.T.g j=true->bl.view j=aD.view j:=λj Y=>aU j λe=>by rw[e,b7]at Y;cases Y
  obtain⟨cd,_⟩:=U.oZ (P:=P') b9 aF (λj bj p=>by
   obtain⟨bB,bx⟩:=U.dQ j bj p;have ce:S.T.g j=true:=by
    cases hg:S.T.g j with
    |true=>rfl
    |false=>rw[a1]at p;simp[hg]at p
   rw[bm j ce];exact⟨bB,bx⟩)
  have cf:((zs.length:Int)-((i+1:Nat):Int)).toNat<((zs.length:Int)-(i:Int)).toNat:=by omega
  have bn:IntKind.wrap .i64 ((i:Int)+1)=((i+1:Nat):Int):=by rw[bu I I];omega
  have cg:=aw.ab aF.ab λq k hf=>bf q k hf;refine⟨b,rfl,⟨i+1,bl,bn,aB,cd,(N.trans aF).mono (bo _),cb.trans F,λj Y=>(bm j Y).trans (b3 j Y),λf hf O=>?_,cg,λq k hf=>?_⟩,by rw[bn];exact cf⟩
  .obtain⟨bN,bZ⟩:=cc f hf O
   obtain⟨ao,ap⟩:=be f bN O;refine⟨ao,λz K=>?_⟩;rw[iW aB,cH,e0]at K;rcases K with K|rfl
   .exact ap z K
   .rw[bi];exact bZ
  .rcases aF.cS q hf with h1|h1
   .exact bf q k h1
   .have:=a7.lt aw q k;omega
 have L:¬(i:Int)<(s.len:Int):=cG L;obtain rfl:i=zs.length:=by omega
 have ch:∀f∈aD.aj,f.full=true->f.fi=false:=λf hf O=>by
  obtain⟨bN,bZ⟩:=be f hf O
  cases hd:f.fi with
  |false=>rfl
  |true=>
   refine absurd rfl (bZ f.no ?_);rw[iB];refine aV.mem_iff.2 (dU.2 ⟨f,gI.2 ⟨bN,?_⟩,rfl⟩);unfold Fr.gq;rw[O,hd];rfl
 have X:aD.c=S.T.C.c:=N.c;obtain⟨e3,y⟩:∃e3,e3=ga.bg aD P':=⟨_,rfl⟩;rw[←y]at U;have f1:e3.C=aD:=by rw[y];rfl
 have f2:e3.E=S.T.E:=by rw[y];exact bJ
 have f3:e3.g=S.T.g:=by rw[y];exact bK
 have f4:e3.P=P':=by rw[y];rfl
 have f5:e3.n=S.T.n:=by rw[y];exact bM
 have f6:e3.sb=S.T.sb:=by rw[y];exact bO
 have f7:e3.G=S.T.G:=by rw[y];exact bP
 have f8:e3.gen=S.T.gen:=by rw[y];exact bQ
 have f9:e3.f=S.T.g:=by rw[y];exact bR
 have a2:∀q,e3.M q->S.T.M q\/w.heap.size<=q:=λq k=>by
  rw[y]at k;rcases k with k|k
  .rcases N.cS q k with h1|h1
   .exact .inl (.inl h1)
   .exact .inr I
  .exact bS q (.inr k)
 have cT:=N.ab.size;refine jd (λaG=>∃a_,fw aG {S with T:=(e3.bY a_ S.T.gen S.u.root S.u.aE S.T.E).bg {aD with D:=aD.D.fB (λ_=>true) aD.D.c_} P',pending:=0,failed:=true} aN aZ/\m.heap.size<=a_/\ad (λq=>q=S.st) m aG) (λcU ci=>aY ?_) ?_
 .have aK:Ext m m.drew:=cw _
  have R:=bh.ext aK;have aL:=U.ext aK;have bp:=aL.ca.raw;rw[f1]at bp;have bq:=mQ bp S.T.sb (S.T.gen:Int) (S.u.root:Int) (S.u.aE:Int);rw[X]at bq;refine⟨λ_=>False,_,rfl,id,_,by rw[ay];exact R.cell,_,rfl,id,_,by rw[ay];exact R.cell,_,rfl,id,_,by rw[ay];exact R.cell,_,rfl,id,_,by rw[ay];exact R.cell,_,rfl,id,_,by rw[ay,ay];exact R.cell,?_⟩;have cj:IntKind.wrap .u64 ((S.gen:Int)+1)=(S.T.gen:Int):=by rw[gJ I (by have:=h.num;omega)];have:=h.gen;omega
  rw[cj];refine bq.use ?_;rintro _ a3 (⟨_,rfl,Z,ck,cV⟩|⟨cl,_⟩)
  rotate_left
  .exact absurd (by rw[F];exact aQ) cl
  have cW:=Z.size;refine⟨_,0,rfl,Z,λ_=>?_,λhx=>(by cases hx)⟩;have br:=R.ext Z;obtain⟨bN,bZ⟩:=dB br (i:=0) (by simp[cn.cells,gz]);have co:=dI br (i:=0) (.pointer (some m.drew.heap.size));have bs:=dg a3 S.st 0 (.pointer (some m.drew.heap.size));have cp:bH a3 (e3.bY m.drew.heap.size S.T.gen S.u.root S.u.aE S.T.E):=by
   refine aL.tree Z (by show Var _ _ [.pointer (some e3.C.c),.pointer (some e3.sb),_,_,_] _;rw[f1,X,f6];exact ck) (.inr (bo _)) (λq k=>?_) ⟨?_,?_,?_⟩ λno bj p=>?_
   .have h1:=aL.lt (q:=q) (.inr (.inr (.inr (.inl (by rw[f2];exact k)))))
    exact⟨I,.inl (by rw[f2];exact k)⟩
   .rw[f5,←h.t.n];have:=aQ.2.2.2.1;omega
   .have:=aQ.2.1;omega
   .exact h.t.num.2.2
   .rw[←f8];exact aL.dQ no bj p
  have cq:=cp.fB (s:=λ_=>true) (z:=e3.C.D.c_) (λf hf j O _ _=>ch f (by rw[←f1];exact hf) O) (λ_ _=>rfl) λ_ _=>.inr λ_=>rfl;have bt:bH a3 ((e3.bY m.drew.heap.size S.T.gen S.u.root S.u.aE S.T.E).bg {e3.C with D:=e3.C.D.fB (λ_=>true) e3.C.D.c_} e3.P):=cq;rw[f1,f4]at bt;refine⟨_,rfl,bN,bZ,aY (ci _ ⟨m.drew.heap.size,⟨?_,bt.nx h.es bs,h.es,?_,h.gen,h.num,λ_ _=>rfl⟩,aK.size,((Ext.trans aK Z).mono λ_ _ h=>h.elim).trans bs⟩)⟩
  .show Var _ _ (gz _ aD.D.d aD.c e3.sb _ _ _ _ _ _ _ _) _
   rw[F,X,f6];exact co
  .show gA (λj=>aD.D.bc.getD j []) e3.n _ _ e3.g P' _ _
   rw[F,f5,f3];exact h.fx.agree (λ_ _=>rfl) λx hx=>by
    rw[a1];dsimp only;rw[if_pos ((h.fx.g x).2 (.inl hx))]
 .rintro aG ⟨a_,H,cX,cs⟩
  obtain⟨l,r⟩:∃l:cn,l={S with T:=(e3.bY a_ S.T.gen S.u.root S.u.aE S.T.E).bg {aD with D:=aD.D.fB (λ_=>true) aD.D.c_} P',pending:=0,failed:=true}:=⟨_,rfl⟩;rw[←r]at H;have Q:l.st=S.st:=by rw[r]
  obtain⟨bN,bZ,ao,ap,bd⟩:=H.set (i:=17) (x:=S.u.keys) (by decide);have ct:∃z:aa,l.cells[12]? =some z/\z=S.u.keys:=⟨_,by rw[r];rfl,rfl⟩;obtain⟨z,cu,rfl⟩:=ct;have cv:({l with keys:=S.u.keys}:cn).cells=l.cells.set 17 S.u.keys:=by rw[r];rfl
  have o:l.T=(e3.bY a_ S.T.gen S.u.root S.u.aE S.T.E).bg {aD with D:=aD.D.fB (λ_=>true) aD.D.c_} P':=by rw[r]
  have gG:l.T.n=S.T.n:=by rw[o];exact f5
  have dZ:l.T.C.D.bc=S.T.C.D.bc:=by rw[o];show aD.D.bc=_;rw[F]
  have aO:l.u=S.u:=by rw[r]
  have cx:l.gen=S.gen:=by rw[r]
  have cy:l.T.f=S.T.g:=by rw[o];exact f9
  have cz:l.T.C.D.ro:=by rw[o];exact λ_=>rfl
  have bv:l.failed=true:=by rw[r]
  refine⟨_,rfl,_,by rw[ay,ay,←Q];exact H.v.cell.trans cu,_,rfl,by rw[ay,←Q];exact bN,by rw[ay,←Q];exact bZ,aY ⟨rfl,{l with keys:=S.u.keys},⟨⟨?_,?_,H.es,H.fx,H.gen,H.num,H.bC⟩,?_,h.fx.bj,λno=>?_,λx hx=>?_,h.fx.jL,h.fx.keys,?_,λhf=>?_,λ_=>⟨cz,rfl,rfl,by rw[r]⟩⟩,?_,⟨aO,cx,by rw[r],bv,dZ,λj=>?_,by rw[show({l with keys:=S.u.keys}:cn).T=l.T from rfl,o];show aD.D.aM=_;rw[F]⟩⟩⟩
  .rw[cv,ay,cE,←Q];exact ao
  .rw[ay,cE,←Q];exact ap
  .show fu l.T aN aZ
   rw[o];have:=H.fx.ok;rw[o,aO]at this;exact this
  .show l.T.f no=true↔no∈aN\/no<2\/no=l.u.map
   rw[cy,aO];exact h.fx.g no
  .rw[show({l with keys:=S.u.keys}:cn).u=S.u from aO]
   exact⟨(h.fx.two x hx).1,(h.fx.two x hx).2.1⟩
  .show l.pending<=1000
   rw[r];exact cN _
  .rw[show({l with keys:=S.u.keys}:cn).failed=true from bv]at hf;cases hf
  .refine⟨Q,?_,gG,by rw[r],?_,λk=>?_,?_,λq k=>?_,?_,?_⟩
   .show l.T.C.D.d=_
    rw[o];show aD.D.d=_;rw[F]
   .show l.T.C.D.aM<=_
    rw[o];show aD.D.aM<=_;rw[F];omega
   .show l.T.C.D.quiet
    rw[o];show aX.quiet (aD.D.fB _ _);rw[F];exact k
   .rw[ay,cE]
    have a4:∀q,q=S.st->S.W q:=λq e=>by rw[e];exact h.xe
    have h1:ad S.W w bD:=ac.mono λq _ e=>a4 q e;have h2:ad S.W w bE:=cm h1 ah λq _ k=>h.kI (.inr (.inr (.inl k)));have cA:ad S.W w am:=cm h2 an λq _ k=>k.elim;have cB:ad S.W w m:=cm cA N.ab λq _ k=>h.kI (.inl k);have cC:ad S.W w aG:=cm cB cs λq _ k=>a4 q k;exact cm cC (V:=λq=>q=S.st) (by rw[←Q];exact bd) λq _ k=>a4 q k
   .have k:l.T.M q:=k
    rw[o]at k;rcases k with k|k|k|k|k
    .exact a2 q (.inl (by rw[f1];exact k))
    .have k:q=a_:=k
     exact .inr I
    .exact a2 q (.inr (.inr (.inl k)))
    .exact .inl (.inr (.inr (.inr (.inl k))))
    .exact a2 q (.inr (.inr (.inr (.inr k))))
   .show l.T.E=_
    rw[o];rfl
   .show l.T.G=_
    rw[o];exact f7
  .show l.T.C.D.dS j=_
   rw[o];show aD.D.c_ j=_;rw[F]
end
theorem gg.mono{gen a no:Nat}{leaf:ai}{l:cL}{n:aA}(h:gg gen leaf no l n)(hg:gen<=a):gg a leaf no l n:=by
 obtain⟨p,h1,h2,b⟩:=h;exact⟨p,h1,eI h2 hg,b⟩
section
variable {w w':J}{C:bT}{X:Nat->Prop}{T:aL}{S aJ:cn}{pages aN:O Nat}{L aZ:O aR}
theorem FP{aw:aX}(h:dD X w C)(hd:cl w' aw)(e:aw.d=C.D.d)(g:jG aw C.D)(k:∀i,2<=i->aw.now i=C.D.now i)(hc:ad (bG C.D) w w')(hf:∀q,bG aw q->bG C.D q\/w.heap.size<=q):
 dD X w' {C with D:=aw}/\∀j,2<=j->({C with D:=aw}:bT).view j=C.view j:=by
 have o:=hc.size;have l:∀q,q<w.heap.size->cO {C with D:=aw} q->cO C q:=λq a b=>by
  rcases b with h1|h1|h1
  .exact .inl h1
  .exact .inr (.inl h1)
  .exact .inr (.inr ((hf q h1).resolve_right I))
 refine⟨⟨h.raw.oM hd e hc hf,h.inv.pins,λf p r=>?_,h.inv.un,λq a=>⟨fl (h.inv.eR q a).1 o,λb=>(h.inv.eR q a).2 (l q (h.inv.eR q a).1 b)⟩,g.2.2⟩,λj s=>?_⟩
 .obtain⟨no,av,ax,t,u,v,x,m⟩:=h.inv.ok f p r
  exact⟨no,av,by rw[show({C with D:=aw}:bT).D.n=aw.n from rfl,g.1];exact ax,bk.re t hc (λq _ c y=>c.1 (.inr (.inr y))) λq a c=>⟨λb=>c.1 (l q a b),c.2⟩,u,λhd=>by show _=aw.now no;rw[k no m];exact v hd,λhs=>x (g.2.1 _ hs),m⟩
 .unfold bT.view
  dsimp only
  cases C.aj.find? λf=>f.full&&f.no==(j:Int) with
  |some f=>rfl
  |none=>exact k j s
theorem bH.AZ{aD:bT}{P:Nat->aq aA}(h:bH w T)(a:dD T.X w' aD)(hc:ad (cO T.C) w w')(e:aD.c=T.C.c)(b:aD.D.n=T.C.D.n)(d:∀no bj,P no=some bj->no<T.n/\gg T.gen bj.leaf no (aD.view no) bj)(f:∀j,aD.D.bC j=true->T.g j=true\/aD.D.ro):
 bH w' (T.bg aD P):=by
 have hx:=h.ca.inv.eR;refine⟨?_,h.s.ab hc λq i hf=>(hx q (.inr (.inl i))).2 hf,a,h.iP,h.c3,h.hL,b.trans h.n,h.num,d,f,h.low⟩;have:=h.t.ab hc λhf=>(hx T.a_ (.inl rfl)).2 hf;unfold j8 at this⊢;rw[←e]at this;exact this
def aL.lr(T:aL)(gen:Nat):aL:={T with gen:=gen}
theorem bH.FQ{gen:Nat}(h:bH w T)(b:Var w' T.a_ (j8 (T.lr gen)) 239)(hc:ad (λq=>q=T.a_) w w')(h1:T.gen<=gen)(h2:gen<18446744073709551616):bH w' (T.lr gen):=
 ⟨b,h.s.ab hc λq c e=>h.iP (e▸c),h.ca.ab hc λq e=>.inl e,h.iP,h.c3,h.hL,h.n,⟨h.num.1,h.num.2.1,h2⟩,λno bj a=>⟨(h.dQ no bj a).1,(h.dQ no bj a).2.mono h1⟩,h.bC,h.low⟩
theorem FR(h:bH w T){gen:Nat}(h1:T.gen<=gen)(h2:gen<18446744073709551616):
 aP ak 164 #[.pointer (some T.a_),.int .u64 (gen:Nat)] w (λv w'=>v=.tuple #[]/\bH w' (T.lr gen)/\ad (λq=>q=T.a_) w w'):=by
 refine af.Cs _ _ w _ ?_;(delta af.qe al st;dsimp only);obtain⟨av,ax⟩:=dB h.t (i:=2) (by simp[j8]);have a:=dI h.t (i:=2) (.int .u64 (gen:Nat));have hc:=dg w T.a_ 2 (.int .u64 (gen:Nat));refine⟨λ_=>⟨_,rfl,by rw[ay];exact av,by rw[ay];exact ax,aY ?_⟩,λb=>(by cases b)⟩;rw[ay,cE];exact⟨rfl,h.FQ a hc h1 h2,hc⟩
def A0(aJ:cn)(gen:Nat)(g:Nat->ai)(pages:O Nat)(L:O aR)(clock db:Nat):Prop:=
 (∀j,g j=true->aJ.T.C.D.dS j=[])\/
 ∃ (a:cM) (av:Nat->ai) (c:Nat->aq aA) (b:cL),(∀j,aJ.T.C.D.dS j=if j=(gen+1)%2 then [b] else [])/\gA (λj=>if j=(gen+1)%2 then b else aJ.V j) aJ.T.n (gen+1) a av c pages L/\a.clock=clock/\a.db=db
def o9(S:cn)(pages:O Nat)(L:O aR)(aN:O Nat)(aZ:O aR)(w:J)(v:aa)(w':J):Prop:=
 ∃aJ,dy 100 S aJ w w'/\aJ.now=S.now/\
  ((v=.int .i64 0/\dK w' aJ pages L pages L/\aJ.failed=false/\aJ.gen=S.gen+1/\aJ.u.clock=S.now/\aJ.u.db=S.u.db+1/\aJ.pending=0)\/
   (v=.int .i64 3/\¬S.T.C.D.quiet/\dK w' aJ aN aZ aN aZ/\aJ.failed=true/\aJ.u=S.u/\aJ.gen=S.gen/\(∀j,S.T.g j=true->aJ.V j=S.V j)/\A0 aJ S.gen S.T.g pages L S.now (S.u.db+1)))
end
section
variable {w w' w1:J}{C:bT}{X:Nat->Prop}{T:aL}{S aJ fa:cn}{pages aN:O Nat}{L aZ:O aR}{f2:Nat->ai}{aD:bT}{P':Nat->aq aA}
def cn.at(S:cn)(f2:Nat->ai)(aD:bT)(P':Nat->aq aA):cn:={S with T:=(S.T.hM f2).bg aD P'}
theorem fw.ur(h:fw w S aN aZ)(ht:bH w' ((S.T.hM f2).bg aD P'))(a:Var w' S.st S.cells 158)(b:aD.D.d=S.T.C.D.d)(e:aD.c=S.T.C.c)(dJ:∀j,S.T.g j=true->aD.D.bc.getD j []=S.V j)(f:∀x∈aN,S.T.P x=P' x)(i:∀j,S.T.g j=true->aD.D.bC j=true):
 fw w' (S.at f2 aD P') aN aZ:=by
 refine⟨?_,ht,h.es,h.fx.agree dJ f,h.gen,h.num,i⟩;show Var w' S.st (gz _ aD.D.d aD.c _ _ _ _ _ _ _ _ _) _;rw[b,e];exact a
theorem dy.at{k:Nat}(hc:ad S.W w w')(b:aD.D.d=S.T.C.D.d)(c:aD.D.aM<=S.T.C.D.aM+k)(a:S.T.C.D.quiet->aD.D.quiet)(hf:∀q,cO aD q->cO S.T.C q\/w.heap.size<=q):dy k S (S.at f2 aD P') w w':=
 ⟨rfl,b,rfl,rfl,c,a,hc,λq a=>by
  rcases a with a|a
  .exact(hf q a).imp .inl id
  .exact .inl (.inr a),rfl,rfl⟩
theorem uu(p:fw w1 fa aN aZ)(a:dy 100 S fa w w1)(r:fa.u=S.u)(s:fa.gen=S.gen)(t:fa.now=S.now)(m:¬S.T.C.D.quiet)(dJ:∀j,S.T.g j=true->fa.V j=S.V j)(x:fa.T.C.D.aM<=900000000)
 (y:(∀j,S.T.g j=true->fa.T.C.D.c_ j=[])\/∃ (e:cM) (av:Nat->ai) (f:Nat->aq aA) (b:cL),(∀j,fa.T.C.D.c_ j=if j=(S.gen+1)%2 then [b] else [])/\gA (λj=>if j=(S.gen+1)%2 then b else fa.V j) fa.T.n (S.gen+1) e av f pages L/\e.clock=S.now/\e.db=S.u.db+1):
 aP ak 81 #[.pointer (some S.st),(3:Int)] w1 (o9 S pages L aN aZ w):=by
 have hf:=AY p 3 x;rw[a.st]at hf;refine hf.mono ?_;rintro v w' ⟨rfl,aJ,hs,hd,c⟩;have o:∀j,aJ.V j=fa.V j:=λj=>by unfold cn.V;rw[c.V]
 refine⟨aJ,⟨hd.st.trans a.st,hd.d.trans a.d,hd.n.trans a.n,hd.l.trans a.l,by rw[c.aM];exact a.aM,λh=>absurd h m,cm a.ab hd.ab λq z i=>a.back z i,λq i=>?_,hd.E.trans a.E,hd.G.trans a.G⟩,c.now.trans t,.inr ⟨rfl,m,hs,c.failed,c.u.trans r,c.gen.trans s,λj k=>(o j).trans (dJ j k),?_⟩⟩
 .have:=a.ab.size
  rcases hd.cS q i with h1|h1
  .exact a.cS q h1
  .exact .inr I
 .rcases y with h1|⟨e,av,f,b,h1,h2,A,B⟩
  .exact .inl λj k=>(c.sa j).trans (h1 j k)
  .exact .inr ⟨e,av,f,b,λj=>(c.sa j).trans (h1 j),by rw[hd.n];exact h2.agree (λj _=>by rw[o]) λ_ _=>rfl,A,B⟩
theorem FT{V:Nat->cL}{no:Nat}{i:Nat->aq aA}(h:dK w S pages L aN aZ)(k:f2=c0 (c0 S.T.f no true) S.u.map false)(K:(S.T.f no||S.T.g no)=false)(A:2<=no)(B:no<S.T.n)(M:L.length<4096)(l:∀x∈pages,i x=S.T.P x)
 (D:V ((S.gen+1)%2)=d_ ((S.gen+1)%2) (ia ⟨S.T.root,S.T.aE,no,S.now,S.u.db+1,L.length⟩ S.T.n (S.gen+1))) (dJ:∀j,j≠(S.gen+1)%2->V j=if j=no then d_ no ⟨4,S.gen+1,fe f2 ((S.T.n+7)/8)⟩ else if S.T.g j=true then S.V j else S.T.C.view j)
 (hg:∀j,S.T.g j=true->S.V j=S.T.C.view j):gA V S.T.n (S.gen+1) ⟨S.T.root,S.T.aE,no,S.now,S.u.db+1,L.length⟩ f2 i pages L:=by
 have E:=h.t.s.bp;have F:=h.num;have m:=h.t.num;have o:=h.fx.o8;have N:=o.2.2.2.2.1;have p:S.T.f S.u.map=true:=(h.f _).2 (.inr (.inr rfl));have q:S.T.f no=false:=by cases O:S.T.f no<;>simp_all
 have r:∀x∈pages,x≠no:=λx hx e=>by
  have:=(h.f x).2 (.inl hx);rw[e,q]at this;cases this
 have G:∀x∈pages,x<S.T.n:=λx hx=>Nat.lt_of_not_le λe=>by
  have:=h.t.s.pf x e;rw[(h.f x).2 (.inl hx)]at this;cases this
 have H:∀j,j≠(S.gen+1)%2->j≠no->V j=S.T.C.view j:=λj h1 h2=>by
  rw[dJ j h1,if_neg h2];by_cases e:S.T.g j=true
  .rw[if_pos e,hg j e]
  .rw[if_neg e]
 have v:jo ⟨S.T.root,S.T.aE,no,S.now,S.u.db+1,L.length⟩ S.T.n:=by
  refine⟨?_,m.2.1,m.1,B,A,E⟩;rcases h.ok with ⟨a1,a2,_⟩|b
  .exact⟨λ_=>a1,λ_=>a2⟩
  .obtain⟨bj,Q,_,a2,_,_⟩:=b.jC
   have:=(h.two S.T.root (by rw[a2];simp)).1;constructor
   .intro e;have e:S.T.root=0:=e;omega
   .intro e
    have e:S.T.aE=0:=e;rw[e]at b;exact b.elim
 have y:mi ⟨S.T.root,S.T.aE,no,S.now,S.u.db+1,L.length⟩:=⟨by show S.T.root<_;omega,by show S.T.aE<_;omega,by show no<_;omega,F.1,by show S.u.db+1<_;omega,by show L.length<_;omega⟩;refine⟨⟨S.u.map,o.2.2.2.1,by rw[k];unfold c0;rw[if_pos rfl]⟩,?_,.inr ⟨S.u,S.gen,?_,I⟩,⟨S.gen+1,bo _,?_⟩,λj=>?_,h.bj,λx hx=>⟨(h.two x hx).1,r x hx,G x hx⟩,?_,λx hx bj z=>?_,rfl,h.jL,y,v,by show S.u.db+1+1<=S.gen+1;omega⟩
 .rw[D]
  exact AJ y v I I
 .have e:1-(S.gen+1)%2=S.gen%2:=by omega
  have J:S.T.g (S.gen%2)=true:=(h.fx.g _).2 (.inr (.inl I));rw[e,dJ _ I,if_neg I,if_pos J];exact h.fx.uq
 .show dk (no:Int) (V no)=_
  rw[dJ _ I,if_pos rfl];exact tH I ⟨(by decide:1<=4),(by decide:4<=4),by show S.gen+1<_;omega,by show(fe _ _).length<=232;rw[nw];omega⟩
 .rw[k]
  show c0 (c0 S.T.f no true) S.u.map false j=true↔j∈pages\/j<2\/j=no;unfold c0;by_cases c:j=S.u.map
  .rw[if_pos c]
   refine⟨λh=>(by cases h),λa=>?_⟩;rcases a with a|a|a
   .exact absurd c (h.two j a).2
   .omega
   .rw[←c,a,q]at p;cases p
  .rw[if_neg c]
   by_cases d:j=no
   .rw[if_pos d];exact⟨λ_=>.inr (.inr d),λ_=>rfl⟩
   .rw[if_neg d,h.f j]
    constructor
    .rintro(a|a|a)
     .exact .inl a
     .exact .inr (.inl a)
     .exact absurd a c
    .rintro(a|a|a)
     .exact .inl a
     .exact .inr (.inl a)
     .exact absurd a d
 .rcases h.ok with ⟨a1,a2,a3,a4⟩|b
  .exact .inl ⟨a1,a2,a3,a4⟩
  .exact .inr (b.agree λx hx=>(l x hx).symm).1
 .rw[l x hx]at z
  rw[H x (by have:=(h.two x hx).1;omega) (r x hx),←h.gen];exact(h.t.dQ x bj z).2
end
section
variable {w w' w1:J}{C:bT}{X:Nat->Prop}{T:aL}{S aJ fa:cn}{pages aN:O Nat}{L aZ:O aR}{f2:Nat->ai}{aD:bT}{P':Nat->aq aA}
theorem FU{f:Nat->ai}{n k:Nat}(h:k<n):l_ f n (k:Int)=c0 f k false:=by
 unfold l_;rw[if_pos ⟨I,I⟩,di]
theorem FV{a_ d c sb gen now first pending keys st:Nat}{l:fc}{u:cM}{failed:ai}(b:Var w st (gz a_ d c sb l u gen now first pending keys failed) 158)(a:cM){K:J->Prop}(e:∀ah,Var ah st (gz a_ d c sb l a gen now first pending keys failed) 158->ad (λq=>q=st) w ah->K ah):
 bt w ⟨st,7,none⟩ [a.root,a.aE,a.map,.int .u64 (a.clock:Nat),.int .u64 (a.db:Nat),a.keys]/\(6:Nat)=6/\
  an (setCells w ⟨st,7,none⟩ 0 [a.root,a.aE,a.map,.int .u64 (a.clock:Nat),.int .u64 (a.db:Nat),a.keys]) K:=
 ⟨bm.b2 b _ _ (by simp[gz]) λv f=>cM.plain a v f,rfl,aY (e _ (bm.je (o:=7) b _) (ad.jW (.refl _ _) _ 0))⟩
theorem A1(h:dK w S pages L aN aZ)(am:S.failed=false)(ds:L.length<4096)(eU:S.T.C.D.aM<=800000000)(eV:S.gen<=1000000000):
 aP ak 94 #[.pointer (some S.st)] w (o9 S pages L aN aZ w):=by
 refine okF (af.sI (some S.st)) az.sI func94 ?_;(delta af.sI e2 al aB r1 bF aW n_ b8 gD U aT st;dsimp only);obtain⟨bw,bx,dt⟩:=h.live am;obtain⟨no,co⟩:=Ae dt;obtain⟨cp,du,_⟩:=zT co;have eW:=h.t.s.bp;have a0:=h.num;have dv:=h.gen;have cq:=h.fx.o8;have cr:S.T.f no=false:=by cases dw:S.T.f no<;>simp_all
 have an:S.T.g no=false:=by cases dw:S.T.g no<;>simp_all
 have cs:2<=no:=Nat.le_of_not_lt λe=>by
  have:=(h.fx.g no).2 (.inr (.inl e));rw[an]at this;cases this
 have eX:S.T.M S.st:=.inr (.inr (.inr (.inl h.es)));refine⟨_,rfl,_,by rw[ay];exact h.v.cell,(zV h.t.s).use ?_⟩;rintro _ ct ⟨rfl,cu,a1⟩;rw[co]at cu⊢;refine⟨(no:Nat),0,rfl,λhx=>(by cases hx),λ_=>aY ?_⟩;have dx:=(h.t.ue (f:=c0 S.T.f no true) cu a1).1;have dz:=h.v.ab a1 (h.t.c3 _ h.es).2.1;have a2:Ext ct ct.drew:=cw _;have bz:=dz.ext a2;have cv:=dx.ext a2;refine⟨_,rfl,id,_,by rw[ay];exact bz.cell,_,rfl,id,_,by rw[ay,ay];exact bz.cell,(zW cv.s (S.u.map:Nat)).use ?_⟩;rintro _ a3 ⟨rfl,cx,a4⟩;rw[FU (by exact cq.2.2.2.1)]at cx;obtain⟨f2,bA⟩:∃f2,f2=c0 (c0 S.T.f no true) S.u.map false:=⟨_,rfl⟩;have cy:eo a3 S.T.sb S.T.n f2 S.T.g S.T.s1 S.T.s2:=by rw[bA];exact cx
 have bB:bH a3 (S.T.hM f2):=(cv.ue (f:=f2) cy a4).1;have cz:=bz.ab a4 (h.t.c3 _ h.es).2.1;refine⟨_,rfl,aY ?_⟩;have a5:Ext a3 a3.drew:=cw _;have cA:=cz.ext a5;have dA:=bB.ext a5;have bD:IntKind.wrap .u64 ((S.gen:Int)+1)=((S.gen+1:Nat):Int):=by rw[gJ I I];omega
 refine⟨λ_=>False,_,rfl,id,_,by rw[ay];exact cA.cell,_,rfl,id,_,by rw[ay];exact cA.cell,(z6 dA.s).use ?_⟩;rintro _ dC ⟨a6,rfl,dE,bE,eY⟩;have dF:a7 1 5 dC a6 (aF (fe f2 ((S.T.n+7)/8))):=by rw[AR];exact dE
 have cB:l3 ⟨4,S.gen+1,fe f2 ((S.T.n+7)/8)⟩:=⟨(by decide:1<=4),(by decide:4<=4),by show S.gen+1<_;omega,by show(fe _ _).length<=232;rw[nw];omega⟩;rw[bD];refine⟨a6,rfl,bE,#[(4:Int),.int .u64 ((S.gen+1:Nat):Int),a6],λeZ=>by kernel_rfl,(tM (s:=a6) (p:=⟨4,S.gen+1,fe f2 ((S.T.n+7)/8)⟩) (no:=no) dF.src I cB).use ?_⟩;rintro _ cC ⟨dG,rfl,cD,cF,dH⟩;have bI:=a5.trans (Ext.trans bE cF);have a8:=bB.ext bI;have cG:=cz.ext bI;have e0:=a1.size;have e1:=a4.size;have e3:=a2.size;have e4:=a5.size;have e5:=bE.size;have a9:ad S.W w cC:=cm (cm (cm (cm (ad.refl _ _) a1 λq _ a=>h.kI (.inr (.inr (.inl a)))) a2 λq _ a=>a.elim) a4 λq _ a=>h.kI (.inr (.inr (.inl a)))) bI λq _ a=>a.elim;have dL:(d_ no ⟨4,S.gen+1,fe f2 ((S.T.n+7)/8)⟩).length=256:=qq _ cB;refine⟨dG,0,rfl,cF,λhx=>(by cases hx),λ_=>⟨_,rfl,_,by rw[ay];exact cG.cell,(zM a8.ca (by show S.T.C.D.aM<=_;omega) (no:=no) (by rw[a8.n];exact cp) cs (λhs=>?_) cD.src dL λq a=>⟨a7.lt cD q a,λhf=>?_⟩).use ?_⟩⟩
 .rcases a8.bC no hs with h1|h1
  .rw[show(S.T.hM f2).g no=S.T.g no from rfl,an]at h1;cases h1
  .exact bw h1
 .have h1:=dH q a
  have h2:=bB.lt (q:=q) (.inl hf);omega
 rintro _ ba ⟨F,cH,cI,bb⟩;have r:ec S.T.C F cC ba 1:=cI;have cJ:∀j,j≠no->F.view j=S.T.C.view j:=λj b=>by
  rcases bb with ⟨_,bK⟩|⟨_,_,bK⟩
  .rw[bK,if_neg b];rfl
  .rw[bK];rfl
 obtain⟨y,bL⟩:∃y:Nat->aq aA,y=λj=>if j=no then none else S.T.P j:=⟨_,rfl⟩
 have aC:∀j,j≠no->y j=S.T.P j:=λj b=>by rw[bL];exact if_neg b
 obtain⟨aD,_⟩:=a8.oZ (P:=y) cH cI λj bj ai=>by
  have b:j≠no:=λe=>by rw[bL]at ai;simp[e]at ai
  rw[cJ j b];exact h.t.dQ j bj (by rw[←aC j b];exact ai)
 have dM:¬cO S.T.C S.st:=(h.t.ca.inv.eR _ (.inr (.inr (.inl h.es)))).2;have bM:=cG.ab r.ab dM;have bO:ad S.W w ba:=cm a9 r.ab λq _ a=>h.kI (.inl a);have be:∀x∈aN,S.T.P x=y x:=λx hx=>(aC x λe=>by
  have:=(h.fx.g x).2 (.inl hx);rw[e,an]at this;cases this).symm
 have bP:F.D.bc=S.T.C.D.bc:=congrArg (λp=>p.1.1) r.bc;have bQ:F.D.b6.getD 3 0=S.T.C.D.b6.getD 3 0:=congrArg Prod.snd r.bc;have dN:fw ba (S.at f2 F y) aN aZ:=h.tofw.ur aD bM r.d r.c (λj b=>by rw[bP];rfl) be λj b=>by rw[r.bC];exact h.bC j b
 have dO:dy 100 S (S.at f2 F y) w ba:=dy.at bO r.d (by have:=r.aM;omega) (λa=>⟨λk=>r.calm k (a.1 _),bQ.trans a.2⟩) λq a=>(r.cS q a).imp id λe=>by have:=a9.size;omega
 have dP:∀j,S.T.g j=true->F.D.c_ j=[]:=λj b=>by
  rw[cH.inv.j6 j (by rw[r.bC];exact h.bC j b),r.l8.2,bx]
 rcases bb with ⟨rfl,bb⟩|⟨rfl,dR,_⟩
 rotate_left
 .exact⟨3,rfl,λ_=>(uu dN dO rfl rfl rfl (λa=>dR (a.1 1)) (λj b=>by unfold cn.V;show F.D.bc.getD j []=_;rw[bP]) (by show F.D.aM<=_;have:=r.aM;omega) (.inl dP)).use λv w' bR=>by
   obtain⟨aJ,r1,bW,ag⟩:=bR;rcases ag with ⟨rfl,bF⟩|⟨rfl,bF⟩
   .exact⟨0,rfl,aJ,r1,bW,.inl ⟨rfl,bF⟩⟩
   .exact⟨3,rfl,aJ,r1,bW,.inr ⟨rfl,bF⟩⟩,λhx=>(by cases hx)⟩
 refine⟨0,rfl,λhx=>(by cases hx),λ_=>⟨_,rfl,_,by rw[ay];exact bM.cell,?_⟩⟩;have cK:=FG aD.ca (by show F.D.aM<=_;have:=r.aM;omega) λj b=>by show F.D.dS j=_;rw[r.l8.2,bx]
 rw[show((S.T.hM f2).bg F y).C.c=S.T.C.c from r.c]at cK;refine cK.use ?_;rintro _ ao ⟨o,R⟩;have dT:¬cO F S.st:=(aD.ca.inv.eR _ (.inr (.inr (.inl h.es)))).2;have bf:=bM.ab R.ab dT;have Y:o.D.d=S.T.C.D.d:=R.d.trans r.d;have bh:o.c=S.T.C.c:=R.c.trans r.c;have aG:∀q,cO o q->cO S.T.C q\/w.heap.size<=q:=λq a=>by
  have:=bO.size;have:=a9.size;rcases R.cS q a with h1|h1
  .exact(r.cS q h1).imp id λe=>by omega
  .exact .inr I
 have bS:ad S.W w ao:=cm bO R.ab λq am a=>by
  have:=a9.size;exact h.kI (.inl ((r.cS q a).resolve_right I))
 have cP:∀ (bU:bT),(∀j,2<=j->bU.view j=F.view j)->∀j bj,y j=some bj->j<S.T.n/\gg S.T.gen bj.leaf j (bU.view j) bj:=λbU dU j bj ai=>by
  have b:j≠no:=λe=>by rw[bL]at ai;simp[e]at ai
  have h1:=h.t.dQ j bj (by rw[←aC j b];exact ai);rw[dU j h1.2.two,cJ j b];exact h1
 have bi:bH ao ((S.T.hM f2).bg o y):=aD.AZ R.at_ R.ab R.c R.n (cP o λj _=>R.view j) λj b=>by
  rw[R.bC.1]at b;rcases aD.bC j b with h1|h1
  .exact .inl h1
  .exact .inr λi=>by rw[R.bC.1];exact h1 i
 have ap:o.D.bC=S.T.C.D.bC:=R.bC.1.trans r.bC;have dV:o.D.dS=λ_=> []:=R.bC.2.trans (r.l8.2.trans bx);have e6:o.D.aM<=S.T.C.D.aM+70:=by have h1:o.D.aM<=F.D.aM+64:=R.aM;have:=r.aM;omega
 have fin:∀ (w1:J) (Z:aa->J->Prop),aP ak 81 #[.pointer (some S.st),(3:Int)] w1 (o9 S pages L aN aZ w)->(∀v w',o9 S pages L aN aZ w v w'->Z v w')->Calls ak 81 #[.pointer (some S.st),(3:Int)] w1 (λe ah=>∃n:Int,e=.returned n/\Z n ah):=λw1 Z bR cQ=>bR.use λv w' hc=>by
  have dW:=hc;obtain⟨aJ,r1,bW,ag⟩:=dW;rcases ag with ⟨rfl,bF⟩|⟨rfl,bF⟩
  .exact⟨0,rfl,cQ _ _ hc⟩
  .exact⟨3,rfl,cQ _ _ hc⟩
 rcases R.g2 with ⟨rfl,dX,cR,dY⟩|⟨rfl,d0,d1⟩
 rotate_left
 .have cT:o.D.bc=S.T.C.D.bc:=d0.trans bP
  have d2:fw ao (S.at f2 o y) aN aZ:=h.tofw.ur bi bf Y bh (λj b=>by rw[cT];rfl) be λj b=>by rw[ap];exact h.bC j b
  have ac:¬S.T.C.D.quiet:=λa=>by
   rcases d1 with h1|h1
   .exact h1 (r.calm 64 (a.1 _))
   .unfold aX.fh at h1
    rw[show((S.T.hM f2).bg F y).C.D.b6.getD 3 0=S.T.C.D.b6.getD 3 0 from bQ,a.2]at h1
    cases h1
  have d3:dy 100 S (S.at f2 o y) w ao:=dy.at bS Y I (λa=>absurd a ac) aG;exact⟨3,rfl,λ_=>fin _ _ (uu d2 d3 rfl rfl rfl ac (λj b=>by unfold cn.V;show o.D.bc.getD j []=_;rw[cT]) (by show o.D.aM<=_;omega) (.inl λj b=>by
   show o.D.c_ j=[];rw[R.at_.inv.j6 j (by rw[ap];exact h.bC j b),dV])) λ_ _ h=>h,λhx=>(by cases hx)⟩
 have aH:∀j,o.D.c_ j=[]:=λj=>by unfold aX.c_;rw[dX];rfl
 have bk:∀j,o.D.bc.getD j []=if j=no then d_ no ⟨4,S.gen+1,fe f2 ((S.T.n+7)/8)⟩ else S.T.C.view j:=λj=>by
  have h1:=FE R.at_ cR j;rw[tW _ (λx hx=>(R.at_.raw.dev.wn x hx).1),if_pos (aH j)]at h1;rw[←h1,R.view];exact bb j
 have aI:∀j,S.T.g j=true->S.V j=S.T.C.view j:=λj b=>(h.view am b).symm;refine⟨0,rfl,λhx=>(by cases hx),λ_=>⟨_,rfl,_,bf.cell,?_⟩⟩;have cU:=AA bi;rw[show((S.T.hM f2).bg o y).a_=S.T.a_ from rfl]at cU;refine cU.use ?_;rintro _ bV ⟨rfl,bX⟩;have bY:Ext bV bV.drew:=cw _;have b0:=(bf.ext bX).ext bY;have d4:IntKind.wrap .u64 ((S.u.db:Int)+1)=((S.u.db+1:Nat):Int):=by rw[gJ I I];omega
 refine⟨_,_,rfl,aY ⟨λ_=>False,_,rfl,id,_,by rw[ay];exact b0.cell,_,rfl,id,_,by rw[ay,ay];exact b0.cell,_,rfl,id,_,by rw[ay];exact b0.cell,?_⟩⟩;rw[d4];obtain⟨G,ae⟩:∃G:cM,G=⟨S.T.root,S.T.aE,no,S.now,S.u.db+1,S.keys⟩:=⟨_,rfl⟩;refine⟨G.c.toArray,λe8=>by rw[ae];kernel_rfl,bl (vs:=fU.c) rfl λe9 cV cW e_=>⟨cW,?_⟩⟩;obtain⟨aK,d5⟩:∃aK,aK=bV.drew.heap.size:=⟨_,rfl⟩;rw[←d5]at cV⊢;refine iT cV rfl G λaO d6 d7 fa=>aY ?_;have fb:=bX.size;have fc:=bY.size;have d8:Ext ao aO:=Ext.ck (Ext.trans bX (bY.trans cW)) d7 I;have cX:Ext aO aO.drew:=cw _;have aQ:Ext ao aO.drew:=Ext.trans d8 cX;have b1:=d6.ext cX;have bm:=bf.ext aQ;have b2:=bi.ext aQ;generalize fd:aO.drew=bn at b1 bm b2 aQ⊢;refine⟨_,rfl,id,_,by rw[ay];exact bm.cell,id,gp b1 ⟨_,rfl,id,_,by rw[ay];exact bm.cell,?_⟩⟩;rw[bD];have d9:mi G:=by
  have h1:=h.t.num;have h2:=h.keys;rw[ae];exact⟨by show S.T.root<_;omega,by show S.T.aE<_;omega,by show no<_;omega,a0.1,by show S.u.db+1<_;omega,by show S.keys<_;omega⟩
 have b4:o.D.n=S.T.n:=R.n.trans (r.n.trans h.t.n);have Q:dD S.T.X bn o:=b2.ca;have cZ:=lS Q.raw.dev I d9 (gen:=S.gen+1) I;rw[Y]at cZ;refine cZ.use ?_;rintro v aR ⟨ar,b5⟩;have ff:=aQ.size;have ea:∀q,cO o q->q<aK:=λq a=>by have:=R.at_.raw.lt a;omega
 have eb:=b1.ab ar λhf=>by have:=ea aK (.inr (.inr hf));omega
 have ed:¬cO o S.st:=(bi.ca.inv.eR _ (.inr (.inr (.inl h.es)))).2;have bq:=bm.ab ar λhf=>ed (.inr (.inr hf));have ee:ad S.W w bn:=cm bS aQ λq _ a=>a.elim;have fi:=bS.size;have b7:ad S.W w aR:=cm ee ar λq am a=>h.kI<| .inl ((aG q (.inr (.inr a))).resolve_right I)
 have main:∀ (A:aX),cl aR A->A.d=o.D.d->jG A o.D->(∀i,2<=i->A.now i=o.D.now i)->(∀q,bG A q->bG o.D q\/bn.heap.size<=q)->(∀j,A.bC j=true->S.T.g j=true)->
  bH aR ((S.T.hM f2).bg {o with D:=A} y)/\∀q,cO {o with D:=A} q->cO S.T.C q\/w.heap.size<=q:=λA aj ef c1 eg c2 b9=>by
  obtain⟨gG,dZ⟩:=FP Q aj ef c1 eg ar c2;refine⟨b2.AZ gG (ar.mono λq _ a=>.inr (.inr a)) rfl c1.1 (cP _ λj b=>(dZ j b).trans (R.view j)) λj b=>.inl (b9 j b),λq a=>?_⟩;rcases a with a|a|a
  .exact aG q (.inl a)
  .exact aG q (.inr (.inl a))
  .rcases c2 q a with h1|h1
   .exact aG q (.inr (.inr h1))
   .exact .inr I
 have fj:¬o.D.ro:=λe=>bw λi=>by rw[←ap];exact e i
 have eh:∀j,o.D.bC j=true->S.T.g j=true:=λj b=>by
  rw[ap]at b;exact(h.t.bC j b).resolve_right bw
 have c4:S.T.C.D.quiet->∀k,o.D.calm k:=λa k=>R.calm k (r.calm _ (a.1 _));rcases b5 with ⟨b_,rfl,aj⟩|⟨b_,s,ei,bd,O,b5⟩
 .obtain⟨au,aS⟩:=main (o.D.cf 2) aj rfl (Q.inv.cf 2) (λi _=>qz o.D 2 i) (λq a=>.inl a) λj b=>eh j b
  have cb:fw aR (S.at f2 {o with D:=o.D.cf 2} y) aN aZ:=h.tofw.ur au bq Y bh (λj b=>by
   show o.D.bc.getD j []=_;rw[bk j,if_neg (λe=>by rw[e,an]at b;cases b),aI j b]) be λj b=>by show o.D.bC j=true;rw[ap];exact h.bC j b
  have ac:¬S.T.C.D.quiet:=λa=>by
   have:=(iN (k:=2) (m:=0) (.inr rfl) Q.raw.dev.f4 (c4 a 1)).2;rw[this]at b_;cases b_
  exact⟨3,rfl,λ_=>fin _ _ (uu cb (dy.at b7 Y (by show o.D.aM<=_;omega) (λa=>absurd a ac) aS) rfl rfl rfl ac (λj b=>by
   show o.D.bc.getD j []=_;rw[bk j,if_neg (λe=>by rw[e,an]at b;cases b),aI j b]) (by show o.D.aM<=_;omega) (.inl λj _=>aH j)) λ_ _ h=>h,λhx=>(by cases hx)⟩
 have c5:∀j,bd.c_ j=if j=(S.gen+1)%2 then [d_ ((S.gen+1)%2) (ia G o.D.n (S.gen+1))] else []:=λj=>by
  rw[O,zA,aH,aH];rfl
 have c6:G=⟨S.T.root,S.T.aE,no,S.now,S.u.db+1,L.length⟩:=by rw[ae,h.keys]
 have c7:∀V:Nat->cL,(∀j,V j=if j=(S.gen+1)%2 then d_ ((S.gen+1)%2) (ia G o.D.n (S.gen+1)) else o.D.bc.getD j [])->gA V S.T.n (S.gen+1) G f2 y pages L:=λV dJ=>by
  rw[c6];refine FT h bA du cs cp ds (λx hx=>aC x λe=>by
   have:=(h.f x).2 (.inl hx);rw[e,cr]at this;cases this) (by rw[dJ,if_pos rfl,c6,b4]) (λj b=>?_) aI
  rw[dJ,if_neg b,bk];by_cases e:j=no
  .rw[if_pos e,if_pos e]
  .rw[if_neg e,if_neg e]
   by_cases cc:S.T.g j=true
   .rw[if_pos cc,aI j cc]
   .rw[if_neg cc]
 have br:∀q,bG bd q->bG o.D q\/bn.heap.size<=q:=by rw[O];exact uk ei
 have ej:∀i,2<=i->bd.now i=o.D.now i:=λi hi=>by rw[O,nh,if_neg I]
 have cd:bd.n=o.D.n:=by rw[O];rfl
 have ce:bd.d=o.D.d:=by rw[O];rfl
 have ek:bd.bc=o.D.bc:=by rw[O];rfl
 have el:bd.aM=o.D.aM+1:=by rw[O];rfl
 have c8:S.T.C.D.quiet->bd.b6.getD 3 0= -1:=λa=>by
  rw[O];show(o.D.b6.set 2 _).getD 3 0=_;have bs:=Q.raw.dev.f4;rw[eQ (by rw[cY];omega),e7 (by decide),←eQ (d:=0),dY];rw[show((S.T.hM f2).bg F y).C.D.b6.getD 3 0=S.T.C.D.b6.getD 3 0 from bQ,a.2];rfl
 rcases b5 with ⟨bt,rfl,aj⟩|⟨bt,rfl,aj⟩
 .obtain⟨A,K⟩:∃A,A=(bd.cf 3).fB S.T.g λj=>if j=(S.gen+1)%2 then [d_ ((S.gen+1)%2) (ia G o.D.n (S.gen+1))] else []:=⟨_,rfl⟩
  obtain⟨au,aS⟩:=main A (by rw[K];exact aj.fB _ _) (by rw[K];exact ce) ⟨by rw[K];exact cd,λj b=>by rw[ap];exact h.bC j (by rw[K]at b;exact b),λj _=>by rw[K];exact c5 j⟩ (λi hi=>by rw[K];exact ej i hi) (λq a=>by rw[K]at a;exact br q a) λj b=>by rw[K]at b;exact b
  have c9:A.bc=o.D.bc:=by rw[K];exact ek
  have fk:A.aM=o.D.aM+1:=by rw[K];exact el
  have da:A.d=S.T.C.D.d:=by rw[K];exact ce.trans Y
  have b9:∀j,A.c_ j=if j=(S.gen+1)%2 then [d_ ((S.gen+1)%2) (ia G o.D.n (S.gen+1))] else []:=λj=>by rw[K];exact c5 j
  have dc:∀j,S.T.g j=true->A.bc.getD j []=S.V j:=λj b=>by rw[c9,bk j,if_neg (λe=>by rw[e,an]at b;cases b),aI j b]
  have cb:fw aR (S.at f2 {o with D:=A} y) aN aZ:=h.tofw.ur au bq da bh dc be λj b=>by rw[K];exact b
  have ac:¬S.T.C.D.quiet:=λa=>by
   unfold aX.fh at bt;rw[c8 a]at bt;cases bt
  exact⟨3,rfl,λ_=>fin _ _ (uu cb (dy.at b7 da (by show A.aM<=_;omega) (λa=>absurd a ac) aS) rfl rfl rfl ac dc (by show A.aM<=_;omega) (.inr ⟨G,f2,y,_,b9,c7 _ λj=>by show(if _ then _ else A.bc.getD j [])=_;rw[c9],by rw[ae],by rw[ae]⟩)) λ_ _ h=>h,λhx=>(by cases hx)⟩
 have em:∀j,S.T.n<=j->o.D.bc.getD j []=[]:=λj b=>by
  rw[fg,kQ (by have:o.D.bc.length=S.T.n:=b4;omega)];rfl
 have dd:∀j,o.D.now j=o.D.bc.getD j []:=λj=>by rw[tW _ (λx hx=>(Q.raw.dev.wn x hx).1),if_pos (aH j)]
 have fl:bd.n=S.T.n:=cd.trans b4;have en:∀j,(bd.cf 3).ib.bc.getD j []=if j=(S.gen+1)%2 then d_ ((S.gen+1)%2) (ia G o.D.n (S.gen+1)) else o.D.bc.getD j []:=λj=>by
  show((List.range bd.n).map bd.now).getD j []=_;have fm:16<=bd.n:=by have:16<=o.D.n:=Q.raw.dev.bJ;omega
  by_cases b:j<bd.n
  .rw[eQ (by simp;exact b),List.getElem_map,List.getElem_range,O,nh,dd]
  .rw[fg,kQ (by simp;omega),if_neg I,em j I];rfl
 obtain⟨H,N⟩:∃H,H=(bd.cf 3).ib.fB (λ_=>false) λ_=> []:=⟨_,rfl⟩;have eq:∀j,H.c_ j=[]:=λj=>by rw[N];rfl
 have de:∀j,H.bc.getD j []=if j=(S.gen+1)%2 then d_ ((S.gen+1)%2) (ia G o.D.n (S.gen+1)) else o.D.bc.getD j []:=λj=>by rw[N];exact en j
 have er:H.n=o.D.n:=by rw[N];exact(qI (bd.cf 3)).trans cd
 have cg:H.d=S.T.C.D.d:=by rw[N];exact ce.trans Y
 obtain⟨au,aS⟩:=main H (by rw[N];exact aj.fB _ _) (cg.trans Y.symm) ⟨er,λj b=>(by rw[N]at b;cases b),λj b=>(by rw[N]at b;cases b)⟩ (λi hi=>by
  have h1:H.now i=H.bc.getD i []:=by rw[N];rfl
  rw[h1,de,if_neg I,dd]) (λq a=>by
   rw[N]at a;rcases a with e|e|e|⟨x,hx,e⟩
   .exact br q (.inl e)
   .exact br q (.inr (.inl e))
   .exact br q (.inr (.inr (.inl e)))
   .cases hx) λj b=>(by rw[N]at b;cases b)
 refine⟨0,rfl,λhx=>(by cases hx),λ_=>⟨_,rfl,_,by rw[ay];exact bq.cell,(En au.s).use ?_⟩⟩;rintro _ aU ⟨rfl,s2,et,aV,df⟩;have aw:=c7 (λj=>H.bc.getD j []) de;have eu:f2 0=true/\f2 1=true:=⟨(aw.g 0).2 (.inr (.inl (by decide))),(aw.g 1).2 (.inr (.inl (by decide)))⟩;obtain⟨ev,fn⟩:=au.space et aV df (λj b=>by
  have b:H.bC j=true:=b;rw[N]at b;cases b) eu
 have fo:=aV.size;have ew:=bq.ab aV (h.t.c3 _ h.es).2.1;have ex:=eb.ab aV λhf=>by
  have h1:=h.t.lt (q:=aK) (.inr (.inr (.inl hf)));omega
 have ey:=ev.fB (s:=f2) (z:=λ_=> []) (λf hf j ez _ _=>by
  have h1:=cR f hf;unfold Fr.gq at h1;rw[ez]at h1;simpa using h1) (λj _=>eq j) λj b=>.inl b
 obtain⟨fq,B⟩:∃fq:aL,fq=(((S.T.hM f2).bg {o with D:=H} y).uo f2 f2 S.T.s1 s2).bg {o with D:=H.fB f2 λ_=> []} y:=⟨_,rfl⟩;have eA:bH aU fq:=by rw[B];exact ey
 have bu:Ext aU aU.drew:=cw _;have dh:Var aU.drew S.st (gz S.T.a_ S.T.C.D.d S.T.C.c S.T.sb S.l S.u S.gen S.now S.first S.pending S.keys S.failed) 158:=ew.ext bu;have eB:=ex.ext bu;have eC:=eA.ext bu;have bv:fq.E=S.T.E:=by rw[B];rfl
 refine⟨rfl,aY ⟨λ_=>False,id,gp eB ⟨_,rfl,id,_,by rw[ay];exact dh.cell,_,rfl,?_⟩⟩⟩;rw[ay,cE,bD];refine FV dh G λdi dj dk=>?_;have eD:=eC.nx (by rw[bv];exact h.es) dk;obtain⟨bN,bZ⟩:=dB dj (i:=13) (by simp[gz]);have dl:=dI dj (i:=13) (.int .u64 ((S.gen+1:Nat):Int));have eE:=dg di S.st 13 (.int .u64 ((S.gen+1:Nat):Int));refine⟨_,rfl,by rw[ay];exact bN,by rw[ay];exact bZ,aY ?_⟩;rw[ay,cE];obtain⟨eF,eG⟩:=dB dl (i:=16) (by simp[gz]);have dm:=dI dl (i:=16) (0:Int);have ch:=eE.trans (dg _ S.st 16 (0:Int));refine⟨_,rfl,by rw[ay];exact eF,by rw[ay];exact eG,aY ?_⟩;rw[ay,cE];generalize (di.setCell ⟨S.st,13,none⟩ (.int .u64 ((S.gen+1:Nat):Int))).setCell ⟨S.st,16,none⟩ (0:Int)=dn at dm ch⊢;have eH:=eD.nx (by rw[bv];exact h.es) ch;have ci:Ext dn dn.drew:=cw _;have cj:=dm.ext ci;have eI:=eH.ext ci;refine aY ⟨_,rfl,id,_,cj.cell,_,rfl,id,_,by rw[ay];exact cj.cell,?_⟩;have eJ:IntKind.wrap .u64 (((S.gen+1:Nat):Int)+1)=((S.gen+2:Nat):Int):=by rw[gJ I I];omega
 rw[eJ];have fp:fq.gen=S.gen+1:=by rw[B];exact dv
 have dp:fq.a_=S.T.a_:=by rw[B];rfl
 have dq:=FR eI (gen:=S.gen+2) I I;rw[dp]at dq;refine dq.use ?_;rintro _ eK ⟨rfl,eL,dr⟩;have eM:=cj.ab dr (h.t.c3 _ h.es).1;have eN:∀q,(fq.lr (S.gen+2)).M q->S.T.M q\/w.heap.size<=q:=λq a=>by
  rw[B]at a;rcases a with a|a|a|a
  .exact(aS q a).imp .inl id
  .exact .inl (.inr (.inl a))
  .rcases df q a with h1|h1
   .exact .inl (.inr (.inr (.inl h1)))
   .have:=ar.size;exact .inr I
  .exact .inl (.inr (.inr (.inr a)))
 refine⟨rfl,⟨S.st,fq.lr (S.gen+2),S.l,G,S.gen+1,S.now,S.first,0,S.keys,S.failed⟩,⟨rfl,?_,by rw[B];rfl,rfl,?_,λa=>?_,?_,eN,bv,by rw[B];rfl⟩,rfl,.inl ⟨rfl,⟨⟨?_,eL,?_,?_,rfl,?_,?_⟩,?_,h.bj,?_,?_,h.jL,h.keys,cN _,λ_=>⟨?_,?_,?_⟩,λhf=>?_⟩,am,rfl,by rw[ae],by rw[ae],rfl⟩⟩
 .rw[B];exact cg
 .rw[B];show H.aM<=_;rw[N];show bd.aM<=_;omega
 .rw[B]
  show aX.quiet (H.fB _ _);rw[N];refine⟨λk=>qJ bd ?_,?_⟩
  .have bs:=(iN (k:=2) (m:=k) (.inr rfl) Q.raw.dev.f4 (c4 a (k+1))).1
   rw[O];exact bs
  .show(bd.b6.set 3 (fR (bd.b6.getD 3 0)).2).getD 3 0= -1
   have bs:=Q.raw.dev.f4;have fr:bd.b6.length=4:=by rw[O];show(o.D.b6.set 2 _).length=4;rw[cY];exact bs
   rw[c8 a,eQ (by rw[cY];omega),gW];rfl
 .have hs:∀q,q=S.st->S.W q:=λq e=>by rw[e];exact h.xe
  have av:ad S.W w aU:=cm b7 aV λq _ a=>h.kI (.inr (.inr (.inl a)));have ax:=cm av bu λq _ a=>a.elim;have eO:=cm ax dk λq _ a=>hs q a;have eP:=cm eO ch λq _ a=>hs q a;have eS:=cm eP ci λq _ a=>a.elim;exact cm eS dr λq _ a=>h.kI (.inr (.inl a))
 .show Var eK S.st (gz fq.a_ fq.C.D.d fq.C.c fq.sb _ _ _ _ _ _ _ _) _
  rw[dp,show fq.C.D.d=S.T.C.D.d by rw[B];exact cg,show fq.C.c=S.T.C.c by rw[B];exact bh,show fq.sb=S.T.sb by rw[B];rfl];exact eM
 .show fq.E S.st
  rw[bv];exact h.es
 .rw[B];exact aw
 .refine⟨a0.1,a0.2.1,?_,by show S.gen+1+2<_;omega,a0.2.2.2.2⟩
  show G.db+1<=S.gen+1;rw[ae];show S.u.db+1+1<=_;omega
 .intro j b
  have b:fq.g j=true:=b;show fq.C.D.bC j=true;rw[B]at b⊢;exact b
 .refine h.ok.agree (by rw[B];rfl) (by rw[B];rfl) λx hx=>?_
  rw[B];exact(aC x λe=>by
   have:=(h.f x).2 (.inl hx);rw[e,cr]at this;cases this).symm
 .intro j
  have:(fq.lr (S.gen+2)).f j=f2 j:=by rw[B];rfl
  rw[this];exact aw.g j
 .intro x hx
  exact⟨(aw.two x hx).1,(aw.two x hx).2.1⟩
 .intro e
  have h1:=e S.T.n;have h2:(fq.lr (S.gen+2)).C.D.bC S.T.n=f2 S.T.n:=by rw[B];rfl
  rw[h2,cy.pf S.T.n (bo _)]at h1;cases h1
 .rw[B];rfl
 .have eT:f2 S.u.map=false:=by rw[bA];unfold c0;rw[if_pos rfl]
  have h1:=qF (s:=λi=>f2 i||f2 i) (t:=c0 (λi=>f2 i||f2 i) S.u.map true) (k:=S.u.map) (by simp[eT]) (by simp[c0]) (λi hi=>by simp[c0,hi]) (n:=S.T.n) cq.2.2.2.1;have h2:=lk (c0 (λi=>f2 i||f2 i) S.u.map true) S.T.n;have fs:b3 (fq.lr (S.gen+2))=S.T.n-ep (λi=>f2 i||f2 i) S.T.n:=by rw[B];rfl
  show 1<=b3 (fq.lr (S.gen+2));omega
 .have hf:S.failed=true:=hf
  rw[am]at hf;cases hf
end
theorem FW(a b:Int)(w:J)(T:TypeId)(k:IntKind):Sem.run ak (Builtin.max_ #[T,T] T #[.int k a,.int k b]) w=.ok (.int k (max a b)) w:=by
 simp only[Builtin.max_];unfold Builtin.max2;simp;split<;>omega
theorem dy.trans{S aJ b:cn}{w w' c:J}{k l:Nat}(h1:dy k S aJ w w')(h2:dy l aJ b w' c):dy (k+l) S b w c:=
 ⟨h2.st.trans h1.st,h2.d.trans h1.d,h2.n.trans h1.n,h2.l.trans h1.l,by have:=h1.aM;have:=h2.aM;omega,λh=>h2.q (h1.q h),cm h1.ab h2.ab λq f a=>h1.back f a,λq a=>by
  have:=h1.ab.size
  rcases h2.cS q a with e|e
  .exact h1.cS q e
  .exact .inr I,h2.E.trans h1.E,h2.G.trans h1.G⟩
theorem dy.mono{S aJ:cn}{w w':J}{k l:Nat}(h:dy k S aJ w w')(a:k<=l):dy l S aJ w w':={h with aM:=by have:=h.aM;omega}
theorem dy.ext{w w':J}(S:cn)(h:Ext w w'):dy 0 S S w w':=⟨rfl,rfl,rfl,rfl,bo _,λh=>h,h.mono λ_ _ h=>h.elim,λq a=>.inl a,rfl,rfl⟩
section
variable {w w' w1:J}{T:aL}{S aJ fa:cn}{pages aN:O Nat}{L aZ:O aR}
theorem fw.ext(h:fw w S aN aZ)(hx:Ext w w'):fw w' S aN aZ:=⟨h.v.ext hx,h.t.ext hx,h.es,h.fx,h.gen,h.num,h.bC⟩
theorem dK.ext(h:dK w S pages L aN aZ)(hx:Ext w w'):dK w' S pages L aN aZ:=⟨h.tofw.ext hx,h.ok,h.bj,h.f,h.two,h.jL,h.keys,h.j_,h.live,h.dead⟩
def gU(S:cn):Nat:=b3 S.T-2*S.T.aE-4
theorem A2(h:dK w S pages L aN aZ):aP ak 82 #[.pointer (some S.st)] w (λv w'=>v=.int .i64 (gU S:Nat)/\Ext w w'):=by
 refine okF (af.sC (some S.st)) az.sC func82 ?_;(delta af.sC e2 aB au;dsimp only);refine⟨_,rfl,_,h.v.cell,(AA h.t).use ?_⟩;rintro _ e ⟨rfl,a⟩;refine⟨_,_,rfl,_,rfl,_,by rw[ay];exact(h.v.ext a).cell,(wE (h.t.ext a).s).use ?_⟩;rintro _ b ⟨rfl,c⟩;have j:=h.t.s.bp;have k:=h.t.num.2.1;have l:=lk (λi=>S.T.f i||S.T.g i) S.T.n;have d:(S.T.n:Int)-ep (λi=>S.T.f i||S.T.g i) S.T.n=((b3 S.T:Nat):Int):=by unfold b3;omega
 have m:b3 S.T<=S.T.n:=Nat.sub_le _ _;rw[d,bu (n:=2*(S.T.aE:Int)) I I];refine⟨_,rfl,_,b,FW _ _ b _ _,?_,Ext.trans a c⟩;rw[bu (n:=((b3 S.T:Nat):Int)-2*(S.T.aE:Int)) I I,bu I I];unfold gU
 congr 1
 omega
end
def iv(c:Prop)(S aJ:cn)(pages:O Nat)(L:O aR)(aN:O Nat)(aZ:O aR)(v:aa)(w':J):Prop:=
 (v=.int .i64 0/\c/\dK w' aJ pages L pages L/\aJ.failed=false/\aJ.gen=S.gen+1/\aJ.u.clock=S.now/\aJ.u.db=S.u.db+1/\aJ.pending=0)\/
 (v=.int .i64 3/\¬S.T.C.D.quiet/\dK w' aJ aN aZ aN aZ/\aJ.failed=true/\aJ.u=S.u/\aJ.gen=S.gen/\(∀j,S.T.g j=true->aJ.V j=S.V j)/\((∀j,S.T.g j=true->aJ.T.C.D.dS j=[])\/(c/\A0 aJ S.gen S.T.g pages L S.now (S.u.db+1))))
theorem o9.x{c:Prop}{S:cn}{pages aN:O Nat}{L aZ:O aR}{w w':J}{v:aa}(h:o9 S pages L aN aZ w v w')(hc:c):∃aJ,dy 100 S aJ w w'/\aJ.now=S.now/\iv c S aJ pages L aN aZ v w':=by
 obtain⟨aJ,h1,h2,a⟩:=h;refine⟨aJ,h1,h2,?_⟩;rcases a with ⟨a1,a2,a3⟩|⟨a1,a2,a3,a4,a5,de,dN,dY⟩
 .exact .inl ⟨a1,hc,a2,a3⟩
 .exact .inr ⟨a1,a2,a3,a4,a5,de,dN,.inr ⟨hc,dY⟩⟩
theorem iv.val{c:Prop}{S aJ:cn}{pages aN:O Nat}{L aZ:O aR}{w':J}{v:aa}(h:iv c S aJ pages L aN aZ v w'):∃n:Int,v=n:=by
 rcases h with ⟨a,_⟩|⟨a,_⟩<;>exact⟨_,a⟩
def kJ(S aJ:cn)(pages:O Nat)(L:O aR)(aN:O Nat)(aZ:O aR)(v:aa)(w':J):Prop:=
 (v=.int .i64 0/\S.pending+1<S.l.batch/\dK w' aJ pages L aN aZ/\aJ.failed=false/\aJ.gen=S.gen/\aJ.u=S.u/\aJ.pending=S.pending+1/\aJ.first=(if S.pending=0 then S.now else S.first)/\∀j,S.T.g j=true->aJ.V j=S.V j)\/
 iv (S.l.batch<=S.pending+1) S aJ pages L aN aZ v w'
section
variable {w w' w1:J}{T:aL}{S aJ fa:cn}{pages aN:O Nat}{L aZ:O aR}
theorem FX{d:Int}(b:fw w S aN aZ)(y:S.failed=false)(ok:fu S.T pages L)(bj:pages.Nodup)(f:∀no,S.T.f no=true↔no∈pages\/no<2\/no=S.u.map)(two:∀x∈pages,2<=x/\x≠S.u.map)(jL:∀p∈L,cD p.1/\p.2.length<=24)
 (Y:¬S.T.C.D.ro/\S.T.C.D.dS=(λ_=> [])/\1<=b3 S.T) (Z:(S.keys:Int)+d=L.length) (ar:S.pending<1000) (aa:L.length<4096) (aw:S.keys<100000) (ab:S.T.C.D.aM<=800000000) (ac:S.gen<=1000000000):
 aP ak 84 #[.pointer (some S.st),d] w (λv w'=>∃aJ,dy 100 S aJ w w'/\aJ.now=S.now/\kJ S aJ pages L aN aZ v w'):=by
 refine okF (af.sE (some S.st) d) az.sE func84 ?_;(delta af.sE r1 st au al bF aB;dsimp only);have O:=b.num;have aA:S.T.M S.st:=.inr (.inr (.inr (.inl b.es)));obtain⟨av,ax,g,z,A⟩:=b.set (i:=17) (x:=L.length) (by decide);refine⟨_,rfl,_,by rw[ay];exact b.v.cell,_,rfl,by rw[ay];exact av,by rw[ay];exact ax,aY ?_⟩;rw[ay,cE,Z,bu (n:=(L.length:Int)) I I];generalize aC:w.setCell ⟨S.st,17,none⟩ L.length=ae at g z A⊢;obtain⟨o,t⟩:∃o,o=if S.pending=0 then S.now else S.first:=⟨_,rfl⟩
 refine jd (λk=>Var k S.st (gz S.T.a_ S.T.C.D.d S.T.C.c S.T.sb S.l S.u S.gen S.now o S.pending L.length S.failed) 158/\bH k S.T/\ad (λq=>q=S.st) w k) (λaD P=>?_) ?_
 .refine⟨_,rfl,_,by rw[ay];exact g.cell,λB=>?_,λB=>P _ ⟨?_,z,A⟩⟩
  .have h0:S.pending=0:=by
    have:(S.pending:Int)=0:=by simpa using B
    omega
   obtain⟨E,F⟩:=dB g (i:=15) (by simp[cn.cells,gz]);have ah:=dI g (i:=15) (.int .u64 (S.now:Int));have Q:=dg ae S.st 15 (.int .u64 (S.now:Int));refine⟨_,rfl,_,by rw[ay];exact g.cell,_,rfl,by rw[ay];exact E,by rw[ay];exact F,aY (P _ ⟨?_,?_,?_⟩)⟩
   .rw[ay,cE,t,if_pos h0];exact ah
   .rw[ay,cE];exact z.nx b.es Q
   .rw[ay,cE];exact A.trans Q
  .have h0:¬S.pending=0:=by
    have:¬(S.pending:Int)=0:=by simpa using B
    omega
   rw[t,if_neg h0];exact g
 rintro k ⟨G,ai,aj⟩;obtain⟨E,F⟩:=dB G (i:=16) (by simp[gz]);have R:=dI G (i:=16) (.int .i64 ((S.pending+1:Nat):Int));have H:=dg k S.st 16 (.int .i64 ((S.pending+1:Nat):Int));have am:IntKind.wrap .i64 ((S.pending:Int)+1)=((S.pending+1:Nat):Int):=by rw[bu I I];omega
 refine⟨_,rfl,_,by rw[ay];exact G.cell,_,rfl,by rw[ay];exact E,by rw[ay];exact F,aY ?_⟩;rw[ay,cE,am];have U:=ai.nx b.es H;generalize aE:k.setCell ⟨S.st,16,none⟩ (.int .i64 ((S.pending+1:Nat):Int))=r at R H U⊢;have J:Ext r r.drew:=cw _;have K:=R.ext J;have an:=U.ext J;have ao:ad (λq=>q=S.st) w r.drew:=cm (aj.trans H) J λq _ N=>N.elim;obtain⟨m,a⟩:∃m:cn,m={S with first:=o,pending:=S.pending+1,keys:=L.length}:=⟨_,rfl⟩;have ap:o<=S.now:=by rw[t];split<;>omega
 have V:dK r.drew m pages L aN aZ:=by
  rw[a];exact⟨⟨K,an,b.es,b.fx,b.gen,⟨O.1,ap,O.2.2⟩,b.bC⟩,ok,bj,f,two,jL,rfl,by show S.pending+1<=1000;omega,λ_=>Y,λhf=>by have hf:S.failed=true:=hf;rw[y]at hf;cases hf⟩
 have W:dy 0 S m w r.drew:=by
  rw[a];exact⟨rfl,rfl,rfl,rfl,bo _,λh=>h,ao.mono λq _ e=>by rw[e];exact b.xe,λq N=>.inl N,rfl,rfl⟩
 refine aY ⟨_,rfl,id,_,by rw[ay];exact K.cell,_,rfl,id,_,by rw[ay,ay];exact K.cell,λs=>?_,λs=>?_⟩
 .have s:((S.pending+1:Nat):Int)>=(S.l.batch:Int):=b_ s
  have X:=A1 V (by rw[a];exact y) aa (by rw[a];exact ab) (by rw[a];exact ac);rw[show m.st=S.st by rw[a]]at X;refine X.use ?_;intro v aF aq;obtain⟨aJ,r1,bW,ag⟩:=aq.x (c:=S.l.batch<=S.pending+1) I;obtain⟨n,rfl⟩:=ag.val;refine⟨n,rfl,aJ,(W.trans r1).mono I,by rw[bW,a],.inr ?_⟩;rw[a]at ag;exact ag
 .have s:¬((S.pending+1:Nat):Int)>=(S.l.batch:Int):=cG s
  exact⟨m,W.mono I,by rw[a],.inl ⟨rfl,I,V,by rw[a];exact y,by rw[a],by rw[a],by rw[a],by rw[a];exact t,λj _=>by rw[a];rfl⟩⟩
theorem FY(h:dK w S pages L aN aZ)(a:L.length<4096)(b:S.T.C.D.aM<=800000000)(d:S.gen<=1000000000):
 aP ak 34 #[.pointer (some S.st)] w (λv w'=>(S.failed=true/\v=.int .i64 8/\w=w')\/(S.failed=false/\∃aJ,dy 100 S aJ w w'/\aJ.now=S.now/\iv True S aJ pages L aN aZ v w')):=by
 refine okF (af.sn (some S.st)) az.sn func34 ?_;(delta af.sn al a8 aB;dsimp only);refine⟨λe=>(by cases e),λ_=>⟨_,rfl,S.failed,by rw[ay];exact h.v.cell,λhf=>.inl ⟨hf,rfl,rfl⟩,λhf=>(A1 h hf a b d).use ?_⟩⟩;intro v w' f;obtain⟨aJ,r1,bW,ag⟩:=f.x (c:=True) trivial;obtain⟨n,rfl⟩:=ag.val;exact⟨n,rfl,.inr ⟨hf,aJ,r1,bW,ag⟩⟩
end
section
variable {w w' w1:J}{T ao:aL}{S aJ fa:cn}{pages aN:O Nat}{L aZ:O aR}{k:Nat}
def cn.bY(S:cn)(ao:aL):cn:={S with T:=ao}
theorem fw.to(h:fw w S aN aZ)(ht:bH w' ao)(a:bO S.T ao w w' k)(f:ao.E=S.T.E)(l:ao.G=S.T.G)(o:∀no,S.T.g no=true->ao.P no=S.T.P no):
 fw w' (S.bY ao) aN aZ/\dy k S (S.bY ao) w w'/\(S.bY ao).V=S.V:=by
 have r:ao.C.D.bc=S.T.C.D.bc:=congrArg (λp=>p.1.1) a.bc;have s:ao.C.D.b6.getD 3 0=S.T.C.D.b6.getD 3 0:=congrArg Prod.snd a.bc;have i:(S.bY ao).V=S.V:=by
  funext j;show ao.C.D.bc.getD j []=S.T.C.D.bc.getD j [];rw[r]
 refine⟨⟨?_,ht,by show ao.E S.st;rw[f];exact h.es,?_,a.gen.trans h.gen,h.num,λj b=>?_⟩,⟨rfl,a.d,a.n,rfl,a.aM,λe=>⟨λm=>a.calm m (e.1 _),s.trans e.2⟩,a.ab.mono λq _ e=>h.kI e,a.cS,f,l⟩,i⟩
 .show Var w' S.st (gz ao.a_ ao.C.D.d ao.C.c ao.sb _ _ _ _ _ _ _ _) _
  rw[a.a_,a.d,a.c,a.sb];exact h.v.ab a.ab (h.t.iM h.es)
 .show gA _ ao.n _ _ ao.g ao.P _ _
  rw[i,a.n,a.g];exact h.fx.agree (λ_ _=>rfl) λx hx=>(o x ((h.fx.g x).2 (.inl hx))).symm
 .have b:ao.g j=true:=b
  rw[a.g]at b;show ao.C.D.bC j=true;rw[a.bC.1];exact h.bC j b
theorem bO.ro(h:bO T ao w w' k):ao.C.D.ro↔T.C.D.ro:=by unfold aX.ro;rw[h.bC.1]
theorem dK.to(h:dK w S pages L aN aZ)(ht:bH w' ao)(a:bO S.T ao w w' k)(c:ao.E=S.T.E)(d:ao.G=S.T.G)(b:h_ S.T ao):
 dK w' (S.bY ao) pages L aN aZ/\dy k S (S.bY ao) w w'/\(S.bY ao).V=S.V:=by
 obtain⟨h1,h2,i⟩:=h.tofw.to ht a c d λno j=>(b.ee no (by rw[j,Bool.or_true])).1;have l:b3 ao=b3 S.T:=by unfold b3;rw[a.n,b.f,a.g]
 refine⟨⟨h1,b.ok h.ok λx hx=>(h.f x).2 (.inl hx),h.bj,λno=>by show ao.f no=true↔_;rw[b.f];exact h.f no,h.two,h.jL,h.keys,h.j_,λhf=>?_,λhf=>?_⟩,h2,i⟩
 .obtain⟨a1,a2,a3⟩:=h.live hf
  exact⟨λe=>a1 (a.ro.1 e),a.bC.2.trans a2,by show 1<=b3 ao;rw[l];exact a3⟩
 .obtain⟨a1,a2⟩:=h.dead hf
  exact⟨a.ro.2 a1,a2⟩
theorem FZ{tk:Y}{key:Key}(h:dK w S pages L aN aZ)(b:S.T.C.D.aM<=800000000)(c:Src 1 w tk (aF key))(d:∀q,aC tk q->q<w.heap.size/\¬S.T.M q):
 aP ak 55 #[.pointer (some S.st),tk] w (λv w'=>∃aD,dK w' (S.bY (S.T.bg aD S.T.P)) pages L aN aZ/\dy 30 S (S.bY (S.T.bg aD S.T.P)) w w'/\wW S.T L key w v w'):=by
 refine okF (af.sq (some S.st) tk) az.sq func55 ?_;(delta af.sq al lP;dsimp only);refine⟨λe=>(by cases e),λ_=>⟨_,rfl,_,h.v.cell,(wX h.t h.ok b c d).use ?_⟩⟩;intro v w' a;have f:=a;obtain⟨aD,h1,h2,g,i⟩:=a;obtain⟨a1,a2,_⟩:=h.to h1 h2 rfl rfl (.bg g);have fin:(λv w'=>∃aD,dK w' (S.bY (S.T.bg aD S.T.P)) pages L aN aZ/\dy 30 S (S.bY (S.T.bg aD S.T.P)) w w'/\wW S.T L key w v w') v w':=⟨aD,a1,a2,f⟩;rcases i with ⟨rfl,_⟩|⟨t,x,rfl,_⟩|⟨rfl,_⟩
 .exact⟨⟨none,0,0⟩,_,_,rfl,fin⟩
 .exact⟨t,_,_,rfl,fin⟩
 .exact⟨⟨none,0,0⟩,_,_,rfl,fin⟩
end
theorem xf(k v:Key):∀L:O aR,(gd L k v).length=(eA L k).length+1
 | []=>rfl
 |p::L=>by
  have b:=xf k v L
  unfold gd eA at b⊢
  simp only[cF,fy,q5]at b⊢
  by_cases h1:bX p.1 k
  .have h2:¬bX k p.1:=j1 h1
   have a:p.1≠k:=λe=>by rw[e]at h1;exact j1 h1 h1
   rw[if_pos (dL h1),if_neg (by simpa using h2),if_pos (dL a)]
   simp only[fy];omega
  .by_cases h2:bX k p.1
   .have a:p.1≠k:=λe=>h1 (by rw[e]at h2;exact absurd h2 (λh=>j1 h h))
    rw[if_neg (by simpa using h1),if_pos (dL h2),if_pos (dL a)]
    simp only[fy];omega
   .have a:p.1=k:=by
     rcases vw p.1 k with h|h|h
     .exact absurd h h1
     .exact h
     .exact absurd h h2
    rw[if_neg (by simpa using h1),if_neg (by simpa using h2),if_neg (by simpa using a)];omega
theorem qL{k:Key}:∀ {L:O aR},h3 L->L.length=(eA L k).length+(if eV L k=none then 0 else 1)
 | [],_=>rfl
 |p::L,h=>by
  have h0:=kk.1 h
  have d:=qL (k:=k) h0.2
  by_cases e:p.1=k
  .have h1:∀q∈L,q.1≠k:=λq b c=>by
    have:=h0.1 q b
    rw[e,c]at this
    exact j1 this this
   have h2:eA (p::L) k=L:=by
    have:eA (p::L) k=eA L k:=by unfold eA;rw[q5];simp[e]
    rw[this,qn h1]
   have a:eV (p::L) k≠none:=by unfold eV;simp[e]
   rw[h2,if_neg a];rfl
  .have h2:(eA (p::L) k).length=(eA L k).length+1:=by unfold eA;rw[q5];simp[e]
   have a:eV (p::L) k=eV L k:=by unfold eV;simp[e]
   rw[h2,a,fy];omega
section
variable {w w' w1:J}{T ao:aL}{S aJ cI:cn}{pages aN:O Nat}{L aZ:O aR}{k:Nat}
structure kf(S cI:cn):Prop where
 u:cI.u=S.u
 gen:cI.gen=S.gen
 now:cI.now=S.now
 first:cI.first=S.first
 pending:cI.pending=S.pending
 l:cI.l=S.l
 g:cI.T.g=S.T.g
 V:cI.V=S.V
theorem iv.back{c:Prop}{v:aa}(h:iv c cI aJ pages L aN aZ v w')(e:kf S cI)(d:dy k S cI w w1):iv c S aJ pages L aN aZ v w':=by
 unfold iv at h⊢;rw[e.u,e.gen,e.now,e.g,e.V]at h;exact h.imp id λ⟨a,b,c⟩=>⟨a,λf=>b (d.q f),c⟩
theorem kJ.back{v:aa}(h:kJ cI aJ pages L aN aZ v w')(e:kf S cI)(a:dy k S cI w w1):kJ S aJ pages L aN aZ v w':=by
 unfold kJ at h⊢;have:=λh=>iv.back (pages:=pages) (L:=L) (aN:=aN) (aZ:=aZ) (c:=S.l.batch<=S.pending+1) (v:=v) (aJ:=aJ) (w':=w') h e a;rw[e.pending,e.l,e.gen,e.u,e.now,e.first,e.g,e.V]at h;exact h.imp id this
theorem qM(b:fw w1 cI aN aZ)(d:dy k S cI w w1)(e:kf S cI)(h:¬S.T.C.D.quiet)(i:cI.T.C.D.dS=λ_=> [])(l:cI.T.C.D.aM<=900000000):
 aP ak 81 #[.pointer (some S.st),(3:Int)] w1 (λv w'=>v=.int .i64 3/\∃aJ,dy k S aJ w w'/\aJ.now=S.now/\∀c pages L,iv c S aJ pages L aN aZ v w'):=by
 have hf:=AY b 3 l;rw[d.st]at hf;refine hf.mono ?_;rintro v w' ⟨rfl,aJ,hs,hd,a⟩;refine⟨rfl,aJ,d.trans hd,a.now.trans e.now,λc pages L=>.inr ⟨rfl,h,hs,a.failed,a.u.trans e.u,a.gen.trans e.gen,λj f=>?_,.inl λj f=>?_⟩⟩
 .rw[←e.V];unfold cn.V;rw[a.V]
 .rw[a.sa j,b.t.ca.inv.j6 j (b.bC j (by rw[e.g];exact f)),i]
theorem dK.A3{b7:aL}{dx:O aR}{d:Int}(h:dK w S pages L aN aZ)(hf:S.failed=false)(m:bH w' b7)(b:bO S.T b7 w w' k)(o:b7.E=S.T.E)(q:b7.G=S.T.G)(r:Az S.T b7 pages dx)(W:2*S.T.aE+5<=b3 S.T)(s:∀p∈dx,cD p.1/\p.2.length<=24)(hd:(S.keys:Int)+d=dx.length)(t:dx.length<4096)(X:S.keys<4096)(y:S.pending<1000)(Y:S.T.C.D.aM+k<=800000000)(z:S.gen<=1000000000):
 aP ak 84 #[.pointer (some S.st),d] w' (λv i=>(∃n:Int,v=n)/\∃aJ fV,dy (k+100) S aJ w i/\aJ.now=S.now/\kJ S aJ fV dx aN aZ v i):=by
 obtain⟨⟨fV,Z,A,cT,B,F⟩,H⟩:=r;obtain⟨I,l,J⟩:=h.tofw.to m b o q λno K=>(H no K).1;have M:kf S (S.bY b7):=⟨rfl,rfl,rfl,rfl,rfl,rfl,b.g,J⟩;obtain⟨N,P,_⟩:=h.live hf;have Q:∀j,j<2\/j=S.u.map->j∉pages:=λj c R=>by
  have:=h.two j R;rcases c with c|c
  .omega
  .exact this.2 c
 refine(FX (d:=d) I hf A cT (λno=>(F no).trans ?_) (λx hx=>?_) s ⟨λe=>N (b.ro.1 e),b.bC.2.trans P,by show 1<=b3 b7;omega⟩ hd y t (by show S.keys<_;omega) (by have:=b.aM;show b7.C.D.aM<=_;omega) z).mono ?_
 .rw[h.f no]
  constructor
  .rintro(h1|⟨h1|h1,h2⟩)
   .exact .inl h1
   .exact absurd h1 h2
   .exact .inr h1
  .rintro(h1|h1)
   .exact .inl h1
   .exact .inr ⟨.inr h1,Q no h1⟩
 .rcases B x hx with h1|h1
  .exact h.two x h1
  .have h2:S.T.f x=false:=by cases aa:S.T.f x<;>simp_all
   refine⟨Nat.le_of_not_lt λU=>?_,λV=>?_⟩
   .rw[(h.f x).2 (.inr (.inl U))]at h2;cases h2
   .rw[(h.f x).2 (.inr (.inr V))]at h2;cases h2
 .rintro v i ⟨aJ,r1,bW,ag⟩
  refine⟨?_,aJ,fV,l.trans r1,bW,ag.back M l⟩;rcases ag with ⟨a,_⟩|a
  .exact⟨0,a⟩
  .exact a.val
theorem oe(w:J)(s:Y):aP ak 79 #[s] w (λv w'=>v=.bool (decide (1<=s.len/\s.len<=24))/\w=w'):=by
 refine okF (af.oe s) az.oe func79 ?_;refine⟨?_,rfl⟩
 congr 1
 rw[fD,dT,cR,cR,cR];omega
theorem A4{tk dC:Y}{key val:Key}(h:dK w S pages L aN aZ)(a5:L.length<4000)(F:S.pending<1000)(a6:S.T.C.D.aM<=700000000)(am:S.gen<=1000000000)
 (G:Src 1 w tk (aF key)) (z:∀q,aC tk q->q<w.heap.size/\¬S.T.M q) (U:Src 1 w dC (aF val)) (V:∀q,aC dC q->q<w.heap.size/\¬S.T.M q):
 aP ak 23 #[.pointer (some S.st),tk,dC] w (λv w'=>(v=.int .i64 1/\¬(cD key/\val.length<=24)/\w=w')\/((cD key/\val.length<=24)/\
  ((S.failed=true/\v=.int .i64 8/\w=w')\/(S.failed=false/\∃aJ,dy 300 S aJ w w'/\aJ.now=S.now/\
    ((v=.int .i64 2/\gU S=0/\dK w' S pages L aN aZ/\aJ=S)\/(gU S≠0/\∃fV,kJ S aJ fV (gd L key val) aN aZ v w')))))):=by
 have an:tk.len=key.length:=by have:=G.len;rw[dA]at this;omega
 have a7:dC.len=val.length:=by have:=U.len;rw[dA]at this;omega
 have a9:=h.t.s.bp;refine okF (af.sk (some S.st) tk dC) az.sk func23 ?_;(delta af.sk al aH a8 aB lP;dsimp only);refine ct (λb w'=>(b=false↔cD key)/\w=w') (λq a=>⟨λA=>(by cases A),λ_=>(oe w tk).use ?_⟩) ?_
 .rintro _ _ ⟨rfl,rfl⟩
  refine⟨_,rfl,a _ _ ⟨?_,rfl⟩⟩;unfold cD;rw[an,q1,cR]
 rintro b _ ⟨A,rfl⟩;refine⟨λh1=>.inl ⟨rfl,λhg=>?_,rfl⟩,λh1=>?_⟩
 .rcases Bool.or_eq_true_iff.1 h1 with h2|h2
  .rw[A.2 hg.1]at h2;cases h2
  .have:=b_ h2;have:=hg.2;omega
 have hg:cD key/\val.length<=24:=by
  have h2:=nB.1 h1;have W:=cG h2.2;exact⟨A.1 h2.1,I⟩
 refine⟨_,rfl,S.failed,by rw[ay];exact h.v.cell,λhf=>.inr ⟨hg,.inl ⟨hf,rfl,rfl⟩⟩,λhf=>(A2 h).use ?_⟩;rintro _ a_ ⟨rfl,l⟩;have r:=h.ext l;obtain⟨ao,ap,_⟩:=h.live hf;refine⟨_,rfl,λH=>.inr ⟨hg,.inr ⟨hf,S,(dy.ext S l).mono I,rfl,.inl ⟨rfl,?_,r,rfl⟩⟩⟩,λH=>?_⟩
 .have:((gU S:Nat):Int)=0:=by simpa using H
  omega
 have B:gU S≠0:=by
  have:¬((gU S:Nat):Int)=0:=by simpa using H
  omega
 refine⟨_,rfl,_,r.v.cell,(wX r.t r.ok I (G.ext l) λq a=>⟨by have:=(z q a).1;have:=l.size;omega,(z q a).2⟩).use ?_⟩;rintro v J ⟨i,X,m,aq,E⟩;obtain⟨o,Z,aa⟩:=r.to X m rfl rfl (.bg aq);have u:dy 30 S (S.bY (S.T.bg i S.T.P)) w J:=((dy.ext S l).trans Z).mono I;have K:kf S (S.bY (S.T.bg i S.T.P)):=⟨rfl,rfl,rfl,rfl,rfl,rfl,rfl,aa⟩;have N:(S.bY (S.T.bg i S.T.P)).T.C.D.dS=λ_=> []:=m.bC.2.trans ap;have ba:i.D.aM<=S.T.C.D.aM+30:=m.aM;have ar:∀n:Int,v=.tuple #[(),false,(3:Int)]->¬S.T.C.D.quiet->aP ak 81 #[.pointer (some S.st),(3:Int)] J (λv w'=>v=.int .i64 3/\∃aJ,dy 30 S aJ w w'/\aJ.now=S.now/\∀c pages L,iv c S aJ pages L aN aZ v w'):=λ_ _ a=>qM o.tofw u K a N (by show i.D.aM<=_;omega);have au:∃ (t:Y) (e:ai) (n:Int),v=.tuple #[t,e,n]/\((n=0/\(e=true↔eV L key≠none))\/(n=3/\¬S.T.C.D.quiet)):=by
  rcases E with ⟨rfl,j⟩|⟨t,x,rfl,_,hs,_⟩|⟨rfl,_,O⟩
  .exact⟨⟨none,0,0⟩,false,0,rfl,.inl ⟨rfl,λh=>(by cases h),λh=>absurd (j hg.1) h⟩⟩
  .exact⟨t,true,0,rfl,.inl ⟨rfl,λ_=>by rw[hs];simp,λ_=>rfl⟩⟩
  .exact⟨⟨none,0,0⟩,false,3,rfl,.inr ⟨rfl,λa=>O (a.1 30)⟩⟩
 clear ar E;obtain⟨t,e,n,rfl,av⟩:=au;rcases av with ⟨rfl,he⟩|⟨rfl,Q⟩
 rotate_left
 .refine⟨t,e,3,rfl,λ_=>(qM o.tofw u K Q N (by show i.D.aM<=_;omega)).use ?_,λh=>(by cases h)⟩
  rintro _ aw ⟨rfl,aJ,r1,bW,ag⟩;exact⟨3,rfl,.inr ⟨hg,.inr ⟨hf,aJ,r1.mono I,bW,.inr ⟨B,[],.inr (ag _ _ _)⟩⟩⟩⟩
 have bb:=l.size;have bc:=m.ab.size;have ac:∀s:Y,(∀q,aC s q->q<w.heap.size/\¬S.T.M q)->∀q,aC s q->q<J.heap.size/\¬(S.T.bg i S.T.P).M q:=λs hs q a=>⟨by have:=(hs q a).1;omega,λax=>by
  rcases m.cS q ax with h2|h2
  .exact(hs q a).2 h2
  .have:=(hs q a).1;omega⟩
 have aA:=(G.ext l).ab m.ab λq a j=>(z q a).2 (aL.gm j);have aD:=(U.ext l).ab m.ab λq a j=>(V q a).2 (aL.gm j);have aG:¬(S.T.bg i S.T.P).C.D.ro:=λe=>ao (m.ro.1 e);refine⟨t,e,0,rfl,λh=>(by cases h),λ_=>⟨_,rfl,_,o.v.cell,?_⟩⟩;refine(E4 X aG o.ok I o.bj (λx hx=>(o.f x).2 (.inl hx)) (by show i.D.aM<=_;omega) aA (ac tk z) aD (ac dC V)).use ?_;rintro v aI (⟨_,aK,_⟩|⟨_,_,b7,ad,y,ae,ah,E⟩)
 .exact absurd hg aK
 have aO:b3 (S.T.bg i S.T.P)=b3 S.T:=rfl;have aQ:(S.T.bg i S.T.P).aE=S.T.aE:=rfl;have aR:2*S.T.aE+5<=b3 S.T:=by unfold gU at B;omega
 rcases E with ⟨_,aS,_⟩|⟨rfl,_,⟨fV,aT,aU,cT,aV,aW⟩,R⟩|⟨rfl,O,bd,be,bf,R⟩
 .rw[aO,aQ]at aS;omega
 .have hlen:(S.keys:Int)+(if e=true then 0 else 1)=(gd L key val).length:=by
   have h1:=xf key val L;have h2:=qL (k:=key) h.ok.rising;have W:=h.keys;by_cases j:eV L key=none
   .have:¬e=true:=λh=>he.1 h j
    rw[if_pos j]at h2;rw[if_neg this];omega
   .rw[if_neg j]at h2
    rw[if_pos (he.2 j)];omega
  have W:=h.keys;have aX:(gd L key val).length<4096:=by split at hlen<;>omega
  have aj:=λd hd=>o.A3 (d:=d) hf ad y ae ah ⟨⟨fV,aT,aU,cT,aV,aW⟩,R⟩ aR (λp F=>by
   rcases yO.1 F with rfl|⟨h1,_⟩
   .exact hg
   .exact h.jL p h1) hd aX (by show S.keys<_;omega) F (by show i.D.aM+100<=_;omega) am
  refine⟨0,rfl,λh=>(by cases h),λ_=>⟨λht=>(aj 0 (by rw[←hlen,if_pos ht];rfl)).use ?_,λht=>(aj 1 (by rw[←hlen,if_neg (by rw[ht];decide)];rfl)).use ?_⟩⟩
  all_goals
   rintro v w' ⟨⟨n,rfl⟩,aJ,fV,r1,bW,ag⟩;exact⟨n,rfl,.inr ⟨hg,.inr ⟨hf,aJ,(u.trans r1).mono I,bW,.inr ⟨B,fV,ag.back K u⟩⟩⟩⟩
 .obtain⟨aY,a0,a1⟩:=o.tofw.to ad y ae ah λno a2=>(R no (by show(S.T.f no||S.T.g no)=true;rw[show S.T.g no=true from a2,Bool.or_true])).1
  have a3:dy 130 S (S.bY b7) w aI:=(u.trans a0).mono I;have a4:kf S (S.bY b7):=⟨rfl,rfl,rfl,rfl,rfl,rfl,y.g,a1.trans aa⟩;have Q:¬S.T.C.D.quiet:=λa=>O ((Z.q a).1 100);refine⟨3,rfl,λ_=>(qM aY a3 a4 Q (y.bC.2.trans N) (by have:=y.aM;show b7.C.D.aM<=_;have e:(S.T.bg i S.T.P).C.D.aM=i.D.aM:=rfl;omega)).use ?_,λh=>(by cases h)⟩;rintro _ aw ⟨rfl,aJ,r1,bW,ag⟩;exact⟨3,rfl,.inr ⟨hg,.inr ⟨hf,aJ,r1.mono I,bW,.inr ⟨B,[],.inr (ag _ _ _)⟩⟩⟩⟩
end
section
variable {w w' w1:J}{T ao:aL}{S aJ cI:cn}{pages aN:O Nat}{L aZ:O aR}{k:Nat}
theorem F0{tk:Y}{key:Key}(h:dK w S pages L aN aZ)(aV:L.length<4000)(H:S.pending<1000)(aW:S.T.C.D.aM<=700000000)(ad:S.gen<=1000000000)
 (J:Src 1 w tk (aF key)) (o:∀q,aC tk q->q<w.heap.size/\¬S.T.M q):
 aP ak 22 #[.pointer (some S.st),tk] w (λv w'=>(v=.tuple #[false,(1:Int)]/\¬cD key/\w=w')\/(cD key/\
  ((S.failed=true/\v=.tuple #[false,(8:Int)]/\w=w')\/(S.failed=false/\∃aJ,dy 300 S aJ w w'/\aJ.now=S.now/\
    ((v=.tuple #[false,(0:Int)]/\eV L key=none/\dK w' aJ pages L aN aZ/\kf S aJ/\aJ.failed=false)\/
     (v=.tuple #[false,(2:Int)]/\eV L key≠none/\gU S=0/\dK w' aJ pages L aN aZ/\kf S aJ/\aJ.failed=false)\/
     (∃n:Int,v=.tuple #[.bool (n==0),n]/\eV L key≠none/\gU S≠0/\∃fV,kJ S aJ fV (eA L key) aN aZ n w')\/
     (v=.tuple #[false,(3:Int)]/\∀c pages L,iv c S aJ pages L aN aZ (3:Int) w')))))):=by
 have ae:tk.len=key.length:=by have:=J.len;rw[dA]at this;omega
 have aX:=h.t.s.bp;refine okF (af.sj (some S.st) tk) az.sj func22 ?_;(delta af.sj al aH a8 lP aB rU;dsimp only);refine ct (λb w'=>(b=false↔cD key)/\w=w') (λq i=>⟨λu=>(by cases u),λ_=>(oe w tk).use ?_⟩) ?_
 .rintro _ _ ⟨rfl,rfl⟩
  refine⟨_,rfl,i _ _ ⟨?_,rfl⟩⟩;unfold cD;rw[ae,q1,cR]
 rintro b _ ⟨u,rfl⟩;refine⟨λh1=>.inl ⟨rfl,λhg=>?_,rfl⟩,λh1=>?_⟩
 .rw[u.2 hg]at h1;cases h1
 have hg:cD key:=u.1 h1;refine⟨_,rfl,S.failed,by rw[ay];exact h.v.cell,λhf=>.inr ⟨hg,.inl ⟨hf,rfl,rfl⟩⟩,λhf=>?_⟩;obtain⟨ah,aj,_⟩:=h.live hf;refine⟨_,rfl,_,h.v.cell,(wX h.t h.ok I J o).use ?_⟩;rintro v aY ⟨a,am,m,an,y⟩;obtain⟨z,A,V⟩:=h.to am m rfl rfl (.bg an);have B:kf S (S.bY (S.T.bg a S.T.P)):=⟨rfl,rfl,rfl,rfl,rfl,rfl,rfl,V⟩;have W:(S.bY (S.T.bg a S.T.P)).T.C.D.dS=λ_=> []:=m.bC.2.trans aj;have a0:a.D.aM<=S.T.C.D.aM+30:=m.aM;have ao:∃ (t:Y) (e:ai) (n:Int),v=.tuple #[t,e,n]/\((n=0/\(e=true↔eV L key≠none))\/(n=3/\¬S.T.C.D.quiet)):=by
  rcases y with ⟨rfl,j⟩|⟨t,x,rfl,_,hs,_⟩|⟨rfl,_,K⟩
  .exact⟨⟨none,0,0⟩,false,0,rfl,.inl ⟨rfl,λh=>(by cases h),λh=>absurd (j hg) h⟩⟩
  .exact⟨t,true,0,rfl,.inl ⟨rfl,λ_=>by rw[hs];simp,λ_=>rfl⟩⟩
  .exact⟨⟨none,0,0⟩,false,3,rfl,.inr ⟨rfl,λi=>K (i.1 30)⟩⟩
 clear y;obtain⟨t,e,n,rfl,ap⟩:=ao;rcases ap with ⟨rfl,he⟩|⟨rfl,N⟩
 rotate_left
 .refine⟨t,e,3,rfl,λ_=>(qM z.tofw A B N W (by show a.D.aM<=_;omega)).use ?_,λh=>(by cases h)⟩
  rintro _ E ⟨rfl,aJ,r1,bW,ag⟩;exact⟨3,rfl,.inr ⟨hg,.inr ⟨hf,aJ,r1.mono I,bW,.inr (.inr (.inr ⟨rfl,ag⟩))⟩⟩⟩
 refine⟨t,e,0,rfl,λh=>(by cases h),λ_=>⟨λO=>?_,λO=>(A2 z).use ?_⟩⟩
 .have j:eV L key=none:=by
   cases aq:eV L key with
   |none=>rfl
   |some x=>
    have:e=true:=he.2 (by rw[aq];simp);rw[this]at O;cases O
  exact .inr ⟨hg,.inr ⟨hf,_,A.mono I,rfl,.inl ⟨rfl,j,z,B,hf⟩⟩⟩
 have j:eV L key≠none:=he.1 (by cases e<;>simp_all);rintro _ E ⟨rfl,F⟩;have l:=z.ext F;have G:dy 30 S (S.bY (S.T.bg a S.T.P)) w E:=(A.trans (dy.ext _ F)).mono I;have ar:gU (S.bY (S.T.bg a S.T.P))=gU S:=rfl;rw[ar];refine⟨_,rfl,λQ=>.inr ⟨hg,.inr ⟨hf,_,G.mono I,rfl,.inr (.inl ⟨rfl,j,?_,l,B,hf⟩)⟩⟩,λQ=>?_⟩
 .have:((gU S:Nat):Int)=0:=by simpa using Q
  omega
 have X:gU S≠0:=by
  have:¬((gU S:Nat):Int)=0:=by simpa using Q
  omega
 have a1:=m.ab.size;have a2:=F.size;have au:∀q,aC tk q->q<E.heap.size/\¬(S.T.bg a S.T.P).M q:=λq i=>⟨by have:=(o q i).1;omega,λav=>by
  rcases m.cS q av with h2|h2
  .exact(o q i).2 h2
  .have:=(o q i).1;omega⟩
 have aw:=(J.ab m.ab λq i j=>(o q i).2 (aL.gm j)).ext F;have ax:¬(S.T.bg a S.T.P).C.D.ro:=λe=>ah (m.ro.1 e);refine⟨_,rfl,_,l.v.cell,?_⟩;refine(E7 l.t ax l.ok I l.bj (λx hx=>(l.f x).2 (.inl hx)) (by show a.D.aM<=_;omega) aw au).use ?_;rintro v aA ⟨b7,Z,r,aa,ac,y⟩;have aD:b3 (S.T.bg a S.T.P)=b3 S.T:=rfl;have aG:(S.T.bg a S.T.P).aE=S.T.aE:=rfl;have aI:2*S.T.aE+5<=b3 S.T:=by unfold gU at X;omega
 rcases y with ⟨_,R,_⟩|⟨_,_,R,_⟩|⟨_,_,_,U,_⟩|⟨rfl,_,_,_,aK⟩|⟨rfl,_,K,aO⟩
 .exact absurd hg R
 .exact absurd R j
 .have U:b3 (S.T.bg a S.T.P)<2*(S.T.bg a S.T.P).aE+3:=U
  rw[aD,aG]at U;omega
 .have h2:=qL (k:=key) h.ok.rising
  rw[if_neg j]at h2;have a3:=h.keys;refine⟨true,0,rfl,λh=>(by cases h),λ_=>(l.A3 (d:= -1) hf Z r aa ac aK aI (λp H=>h.jL p (gI.1 H).1) (by show(S.keys:Int)+ -1=_;omega) I (by show S.keys<_;omega) H (by show a.D.aM+100<=_;omega) ad).use ?_⟩;rintro v w' ⟨⟨n,rfl⟩,aJ,fV,r1,bW,ag⟩;exact⟨n,rfl,.inr ⟨hg,.inr ⟨hf,aJ,(G.trans r1).mono I,bW,.inr (.inr (.inl ⟨n,rfl,j,X,fV,ag.back B G⟩))⟩⟩⟩
 .obtain⟨aQ,aR,aS⟩:=l.to Z r aa ac aO
  have aT:dy 130 S (S.bY b7) w aA:=(G.trans aR).mono I;have aU:kf S (S.bY b7):=⟨rfl,rfl,rfl,rfl,rfl,rfl,r.g,aS.trans V⟩;have N:¬S.T.C.D.quiet:=λi=>K ((A.q i).1 100);refine⟨false,3,rfl,λ_=>(qM aQ.tofw aT aU N (r.bC.2.trans W) (by have a4:b7.C.D.aM<=a.D.aM+100:=r.aM;show b7.C.D.aM<=_;omega)).use ?_,λh=>(by cases h)⟩;rintro _ E ⟨rfl,aJ,r1,bW,ag⟩;exact⟨3,rfl,.inr ⟨hg,.inr ⟨hf,aJ,r1.mono I,bW,.inr (.inr (.inr ⟨rfl,ag⟩))⟩⟩⟩
end
theorem ints_at{w:J}{s:Y}{l:O Nat}(h:Src 1 w s (dv l)){i:Nat}(hi:i<l.length):∃A:ae,s.a=some A/\((0:Int)<=(i:Int)/\(i:Int)<(s.len:Int))/\w.cell? (A.add (Int.toNat (i:Int)*1))=some (.int .i64 ((l[i]:Nat):Int)):=by
 obtain⟨A,ar,b,hc⟩:=h.at (i:=i) (v:=.int .i64 ((l[i]:Nat):Int)) (by simp[dv,hi]);exact⟨A,ar,b,hc⟩
theorem F1{w:J}{t u:Y}{l m:O Nat}(c:Src 1 w t (dv l))(d:Src 1 w u (dv m))(K:l.length<=100000):aP ak 154 #[t,u] w (λv w'=>v=.bool (decide (l=m))/\Ext w w'):=by
 refine okF (af.r4 t u) az.r4 func154 ?_;(delta af.r4 al aI r1 au;dsimp only);have o:=c.len;have p:=d.len;rw[l6]at o p;refine⟨λa=>⟨?_,.refl _ _⟩,λq=>?_⟩
 .simp only[bne_iff_ne]at a
  have:l≠m:=λe=>a (by subst e;omega);rw[ig this]
 simp only[bne_eq_false_iff_eq]at q;have r:l.length=m.length:=by omega
 refine⟨λn w'=>∃i:Nat,n=i/\i<=l.length/\Ext w w'/\∀ (j:Nat) (h1:j<l.length) (h2:j<m.length),j<i->l[j]=m[j],λn _=>((l.length:Int)-n).toNat,⟨0,rfl,cN _,.refl _ _,λj _ _ h=>I⟩,?_⟩;rintro _ s ⟨i,rfl,hi,f,g⟩;refine⟨λaK=>aY ?_,λx=>⟨?_,f⟩⟩
 .have aK:i<l.length:=by have:=b_ aK;omega
  have y:i<m.length:=by omega
  have b:Ext w s.drew:=ad.drew f;obtain⟨A,ar,z,C⟩:=ints_at (c.ext b) aK;obtain⟨B,D,E,F⟩:=ints_at (d.ext b) y;have G:IntKind.wrap .i64 ((i:Int)+1)=((i+1:Nat):Int):=by rw[bu I I];rfl
  have H:((l.length:Int)-((i+1:Nat):Int)).toNat<((l.length:Int)-(i:Int)).toNat:=by omega
  rw[G];refine⟨A,ar,z,id,_,C,B,D,E,id,_,F,λa=>⟨?_,b⟩,λhe=>⟨⟨i+1,rfl,aK,b,λj h1 h2 L=>?_⟩,H⟩⟩
  .have a:l[i]≠m[i]:=λe=>by rw[e]at a;simp at a
   have:l≠m:=λe=>a (by subst e;rfl);rw[ig this]
  .rcases dR j i with k|k
   .exact g j h1 h2 k
   .obtain rfl:j=i:=by omega
    have he:((l[j]:Nat):Int)=((m[j]:Nat):Int):=by simpa using he
    omega
 .have hi:i=l.length:=by have:=cG x;omega
  rw[dL (List.ext_getElem r λj h1 h2=>g j h1 h2 I)]
theorem A5:∀ {a b:O Nat},dv a=dv b->a=b
 | [],[],_=>rfl
 | [],_::_,h=>by cases h
 |_::_,[],h=>by cases h
 |x::a,y::b,h=>by
  have h1:=List.cons.inj h
  have h2:Value.int .i64 (x:Int)=Value.int .i64 (y:Int):=h1.1
  injection h2 with _ h2
  rw[A5 (a:=a) (b:=b) h1.2,show x=y from I]
def xg(f:Nat->ai)(n:Nat):O Nat:=(List.range n).filter f
theorem xh(f:Nat->ai):∀n,ll f n=dv (xg f n)
 |0=>rfl
 |n+1=>by
  have a:=xh f n
  unfold ll dv xg at a⊢
  rw[List.range_succ,kj,fm,←a]
  show(iO f n++(if f n then [(n:Int)] else [])).map _=_
  rw[fm]
  cases hf:f n<;>simp[hf]
section
variable {w w' w1:J}{S aJ cI:cn}{pages aN:O Nat}{L aZ:O aR}{k:Nat}
theorem A6{fk:Nat->aq aA}{m:Int}(Q:Var w S.st S.cells 158)(ht:bH w S.T)(es:S.T.E S.st)(ap:fu (S.T.bg S.T.C fk) pages L)(ar:∀x∈pages,∀bj,fk x=some bj->S.T.P x=some bj\/iS S.T x)(cT:pages.Nodup)
 (hf:∀no,S.T.f no=true↔no∈pages\/no<2\/no=S.u.map) (two:∀x∈pages,2<=x/\x≠S.u.map) (a9:2<=S.u.map/\S.u.map<S.T.n) (a_:L.length<=4000) (au:pages.length<=4000) (ba:S.T.C.D.aM<=900000000):
 aP ak 86 #[.pointer (some ⟨S.st,0,none⟩),.int .i64 m] w (λv w'=>∃ao,bH w' ao/\dW S.T ao w w' (2*pages.length)/\ao.G=S.T.G/\
  ((v=.int .i64 0/\m=L.length/\∀x∈pages,S.T.P x=fk x)\/(∃e:Int,v=.int .i64 e/\e≠0/\(¬S.T.C.D.calm (2*pages.length)\/(∃x∈pages,iS S.T x)\/m≠L.length)))):=by
 refine okF (af.sG (some ⟨S.st,0,none⟩) m) az.sG func86 ?_;(delta af.sG yz al r1 U aT aW aH;dsimp only);have R:∀x∈pages,S.T.f x=true/\x<S.T.n:=λx hx=>⟨(hf x).2 (.inl hx),Nat.lt_of_not_le λe=>by
  have:=ht.s.pf x e;rw[(hf x).2 (.inl hx)]at this;cases this⟩
 refine⟨_,rfl,_,Q.cell,(Fm ht ap R ar cT I I I).use ?_⟩;rintro v j ⟨ao,X,g,p,aw⟩;have aB:∃ (s:Y) (es:O Nat) (n e:Int),v=.tuple #[.slice s.a s.len s.cap,.int .i64 n,.int .i64 e]/\a7 1 3 j s (dv es)/\es.length<=4000/\(∀q,aC s q->S.T.N q\/w.heap.size<=q)/\bH j (ao.cg S.T.E λq=>S.T.G q\/aC s q)/\
  ((n=L.length/\e=0/\es.Perm pages/\∀x∈pages,S.T.P x=fk x)\/(e≠0/\(¬S.T.C.D.calm (2*pages.length)\/∃x∈pages,iS S.T x))):=by
  rcases aw with ⟨s,es,rfl,t,z,_,aD,aE,aF⟩|⟨e,rfl,aG,aI⟩
  .exact⟨s,es,_,0,rfl,t,by rw[z.length_eq];exact au,λq c=>(aD q c).1,aF,.inl ⟨rfl,rfl,z,aE⟩⟩
  .refine⟨bn,[],0,e,rfl,a7.none _ _ _,by simp,λq c=>(gu q c).elim,X.grow (W:=λ_=>False) (ad.refl _ _) (λ_ h=>h.elim) (λq c=>.inl (by rw[g.E];exact c)) (λq c=>.inr (.inl (by rw[p];exact c.resolve_right λh=>gu q h))) (λq c hg=>(ht.c3 q c).2.2 (hg.resolve_right λh=>gu q h)),.inr ⟨aG,aI.imp And.right id⟩⟩
 obtain⟨s,es,n,e,rfl,t,bb,aJ,Z,A⟩:=aB;refine⟨s,n,e,rfl,λd=>?_,λd=>?_⟩
 .have d:e=3:=by simpa using d
  refine⟨ao,X,g,p,.inr ⟨e,rfl,I,?_⟩⟩;rcases A with ⟨_,B,_⟩|⟨_,B⟩
  .omega
  .exact B.imp id .inl
 have aa:=Q.ab g.to.ab (ht.iM (by assumption));refine⟨_,rfl,_,by rw[ay,ay];exact aa.cell,aY ?_⟩;have H:Ext j (j.alloc (.cells #[.int .i64 0,.int .i64 1,.int .i64 ((S.u.map:Nat):Int)] 3)):=eu _ _;have bc:s.len=es.length:=by have:=t.1;rw[l6]at this;omega
 obtain⟨ac,ae,av,ax,bd,aK,aL⟩:=oQ.append (dG:=58) (x:=⟨some ⟨j.heap.size,0,none⟩,3,3⟩) (Src.new (T:=3) j [.int .i64 0,.int .i64 1,.int .i64 ((S.u.map:Nat):Int)] 3 rfl) (t.ext H) (vW [0,1,S.u.map]) (by show(2*(s.len+3)+1000)*8<=_;omega);have aN:a7 1 3 ae ac (dv (es++ [0,1,S.u.map])):=by
  have e:dv (es++ [0,1,S.u.map])=dv es++ [.int .i64 0,.int .i64 1,.int .i64 ((S.u.map:Nat):Int)]:=by unfold dv;rw[fm];rfl
  rw[e];exact ax
 refine⟨ac,ae,av,(AF aN (by simp;omega)).use ?_⟩;rintro _ F ⟨rfl,aO,r,aQ,ag,aR⟩;have J:ad (aC s) j F:=cm (cm (ad.refl _ _) (H.mono λ_ _ h=>h.elim) (V:=aC s) (λq _ h=>h)|>.trans aK) aO λq aS c=>(aL q c).resolve_right (by have:=H.size;omega);have be:=g.to.ab.size;have e1:ao.cg S.T.E S.T.G=ao:=by rw[←g.E,←p];rfl
 have K:bH F ao:=by
  have:=Z.grow (E:=S.T.E) (G:=S.T.G) J (λq c _=>.inr (.inr c)) (λq c=>.inl c) (λq c=>.inr (.inl (.inl c))) λq c=>(ht.c3 q c).2.2;rw[←e1];exact this
 have aU:dW S.T ao w F (2*pages.length):={g with to:=g.to.step (E:=ao.E) (G:=ao.G) J (λq c aS=>(aJ q c).resolve_right I) (λq c=>.inl c) λq c=>.inl c};have aV:¬aC s S.st:=λc=>(Z.c3 S.st (by assumption)).2.2 (.inr c);have aX:=aa.ab J aV;refine⟨rfl,ct (λb w'=>((b=true->e≠0\/n≠m)/\(b=false->e=0/\n=m))/\Ext F w') (λq c=>⟨λk=>c _ _ ⟨⟨λ_=>?_,λh=>(by cases h)⟩,.refl _ _⟩,λk=>?_⟩) ?_⟩
 .rcases Bool.or_eq_true_iff.1 k with h1|h1
  .exact .inl (by simpa using h1)
  .exact .inr (by simpa using h1)
 .obtain⟨h1,h2⟩:=nB.1 k
  have h1:e=0:=by simpa using h1
  have h2:n=m:=by simpa using h2
  have hu:=Eu K.s;rw[g.to.sb,g.to.n,g.f]at hu;refine⟨_,rfl,_,by rw[ay];exact aX.cell,hu.use ?_⟩;rintro _ bf ⟨aZ,rfl,ah,ai,_⟩;have a0:r.length<=100000:=by rw[ag.length_eq];simp;omega
  rw[xh]at ah;refine⟨aZ,rfl,(F1 (aQ.ext ai).src ah.src a0).use ?_⟩;rintro _ bh ⟨rfl,a1⟩;have a2:r=xg S.T.f S.T.n:=by
   rcases A with ⟨_,_,z,_⟩|⟨d,_⟩
   rotate_left
   .exact absurd h1 d
   have aj:r.Perm (pages++ [0,1,S.u.map]):=ag.trans (z.append_right _);have a3:(pages++ [0,1,S.u.map]).Nodup:=by
    refine nE.2 ⟨cT,by simp;omega,λx hx y o e=>?_⟩;have:=two x hx;subst e;simp only[cP,eE,eL]at o;rcases o with o|o|o
    .omega
    .omega
    .exact this.2 o
   have a4:r.Nodup:=aj.nodup_iff.2 a3;have a5:r.Pairwise λa b=>a<b:=(aR.and a4).imp λh=>by have:=h.1;have:=h.2;omega
   have am:=FK (f:=S.T.f) (n:=S.T.n) a5 λx=>by
    rw[aj.mem_iff,cH,hf x];simp only[cP,eE,eL];constructor
    .rintro(i|i|i|i)
     .exact⟨(R x i).2,.inl i⟩
     .exact⟨I,.inr (.inl I)⟩
     .exact⟨I,.inr (.inl I)⟩
     .exact⟨I,.inr (.inr i)⟩
    .rintro⟨_,i|i|i⟩
     .exact .inl i
     .exact .inr I
     .exact .inr I
   rw[xh]at am;exact A5 am
  exact⟨_,rfl,c _ _ ⟨⟨λh=>(by rw[dL a2]at h;cases h),λ_=>⟨h1,h2⟩⟩,Ext.trans ai a1⟩⟩
 .rintro b bi ⟨⟨a6,a8⟩,M⟩
  have an:=(aU.trans (dW.ext ao M)).mono (l:=2*pages.length) I;refine⟨λk=>⟨ao,K.ext M,an,p,.inr ⟨4,rfl,by decide,?_⟩⟩,λk=>⟨ao,K.ext M,an,p,.inl ⟨rfl,?_⟩⟩⟩
  .rcases A with ⟨h1,h2,_⟩|⟨_,h2⟩
   .rcases a6 k with d|d
    .exact absurd h2 d
    .exact .inr (.inr (by rw[←h1];exact λe=>d e.symm))
   .exact h2.imp id .inl
  .obtain⟨h1,h2⟩:=a8 k
   rcases A with ⟨d,_,_,B⟩|⟨d,_⟩
   .exact⟨by rw[←h2];exact d,B⟩
   .exact absurd h1 d
end
section
variable {w w' w1:J}{S aJ cI:cn}{pages aN:O Nat}{L aZ:O aR}{k:Nat}
theorem F2(h:dK w S pages L aN aZ)(c:S.T.C.D.quiet)(d:L.length<=4000)(i:pages.length<=4000)(j:S.T.C.D.aM<=900000000):
 aP ak 25 #[.pointer (some S.st)] w (λv w'=>v=.int .i64 0/\∃ao,dK w' (S.bY ao) pages L aN aZ/\dy (2*pages.length) S (S.bY ao) w w'/\kf S (S.bY ao)):=by
 refine okF (af.sm (some S.st)) az.sm func25 ?_;(delta af.sm al r1 aB;dsimp only);have b:=h.fx.o8;refine⟨λk=>(by cases k),λ_=>⟨_,rfl,_,by rw[ay];exact h.v.cell,(A6 (fk:=S.T.P) h.v h.t h.es h.ok (λ_ _ _ h=>.inl h) h.bj h.f h.two ⟨b.2.2.2.2.1,b.2.2.2.1⟩ d i j).use ?_⟩⟩;rintro v w' ⟨ao,l,a,m,n⟩;obtain⟨a1,a2,a3⟩:=h.to l a.to a.E m ⟨a.root,a.aE,a.f,λno _=>⟨congrFun a.P no,a.view no⟩⟩;rcases n with ⟨rfl,_⟩|⟨e,_,_,h1|⟨x,hx,h1⟩|h1⟩
 .exact⟨0,rfl,rfl,ao,a1,a2,rfl,rfl,rfl,rfl,rfl,rfl,a.to.g,a3⟩
 .exact absurd (c.1 _) h1
 .exact absurd h1 (h.t.FJ h.ok hx)
 .exact absurd (by rw[h.keys]) h1
end
variable {w w':J}
theorem Ext.F3(h:Go.RowKit.Below w.heap.size w w'):Ext w w':=⟨h.os,h.tape,h.output,h.size,λk a _=>h.block k a⟩
theorem a7.F4{sz:Nat}{T:TypeId}{base:Nat}{v:aa}{n:Nat}{xs:O aa}(h:w.ownsRow base T sz v n xs):∃s:Y,v=s/\a7 sz T w s xs/\s.len=n/\∀q,aC s q->base<=q:=by
 obtain⟨h1,⟨rfl,rfl⟩|⟨g,cap,f,rfl,b,hg,h2,c,d,e⟩⟩:=h
 .have:xs=[]:=kM.1 I
  subst this;exact⟨⟨none,0,0⟩,rfl,a7.none _ _ _,rfl,λq a=>(gu q a).elim⟩
 .refine⟨⟨some g,n,cap⟩,rfl,a7.mk' hg h1 h2 c d e,rfl,λq a=>?_⟩
  rw[←mF.1 a];exact b
def qN:aa->aq (DataW Unit×O MemPlace):=λ_=>some (.lit (.bool true),[])
theorem F5{q:Nat}{M:O (Int×aa)}(h:dV w q encZ M)(u:M.length<=1000000)(j:∀x∈M, -9223372036854775808<=x.1/\x.1<=9223372036854775807):
 ∃D:DataW Unit,w.ownsMap ak 3 qN q M.length D/\(intKeys D).Perm (M.map (·.1))/\Maps.size D=M.length:=by
 obtain⟨L,f,l,h1,h2,m,n⟩:=h;have c:L.length=M.length:=by rw[←h1.length_eq,dr]
 have o:∀x∈L, -9223372036854775808<=x.1/\x.1<=9223372036854775807:=λx hx=>j (kt x) (h1.mem_iff.1 (dU.2 ⟨x,hx,rfl⟩));have g:∀x∈L,Go.WideElems.rd ak 3 qN (dn encZ x)=some (.int .i64 x.1,.lit (.bool true)):=λx hx=>by
  have r:(Lit.int .i64 x.1).wf=true:=by
   have:=o x hx;simp[Lit.wf,IntKind.min,IntKind.max,IntKind.signed,IntKind.bits];omega
  exact Go.WideElems.rd_mk (R:=qN) (yv:=(.lit (.bool true),[])) (Maps.keyOf_int_mk (k:=3) (by kernel_rfl) r) rfl
 have i:((L.map (dn encZ)).map (Go.WideElems.rg ak 3 qN))=L.map λx=>(Lit.int .i64 x.1,DataW.lit (.bool true)):=by
  rw[g8];refine List.map_congr_left λx hx=>?_;have:=Go.WideElems.rg_of (g x hx);simp only[Function.comp_apply];exact this
 have s:Go.WideElems.Fit ak 3 qN (L.map (dn encZ)).toArray f:=by
  refine⟨by simp[c];unfold maxLen;omega,⟨λx hx=>?_,?_,?_⟩,λx hx=>?_⟩
  .obtain⟨y,d,rfl⟩:=dU.1 (by simpa using hx:x∈L.map (dn encZ))
   exact n y d
  .simp only[g8]
   exact m
  .simp only[g8]
   have:((λe:MapEntry=>e.key)∘dn encZ)=λx:Int×aa×Nat=>encZ x.1:=rfl;show(L.map ((λe:MapEntry=>e.key)∘dn encZ)).Nodup;rw[this];have e:(L.map λx:Int×aa×Nat=>encZ x.1)=(L.map (·.1)).map encZ:=by rw[g8];rfl
   rw[e];exact List.Pairwise.map encZ (λa b t he=>t (by cases he;rfl)) h2
  .obtain⟨y,d,rfl⟩:=dU.1 (by simpa using hx:x∈L.map (dn encZ))
   exact⟨_,g y d⟩
 have fA:=Go.WideShapes.sorted_perm (L.map λx=>(Lit.int .i64 x.1,(DataW.lit (.bool true):DataW Unit)));refine⟨_,⟨_,f,l,s,by simp[c],rfl⟩,?_,?_⟩
 .simp only[i]
  show(List.map (λp:Lit×DataW Unit=>Go.intOf p.1) _).Perm _;refine(fA.map _).trans ?_;rw[g8];have:=h1.map (·.1);rw[g8]at this;exact this
 .simp only[i]
  show List.length _=_;rw[fA.length_eq,dr,c]
theorem F6(m:Nat):AnyZI.SortsIn ak AD Fence.wide m:=
 ⟨λbR off cap ss W a b c=>callsIn_wide.2 (AnyM.slices_Sort_int uj bR off cap ss W a b c),λp cap W=>callsIn_wide.2 (AnyM.slices_Sort_int_none uj p cap W)⟩
theorem F7{q:Nat}{M:O (Int×aa)}(h:dV w q encZ M)(g:M.length<=1000000)(i:∀x∈M, -9223372036854775808<=x.1/\x.1<=9223372036854775807):
 aP ak 177 #[.func (.func 232) #[] #[.pointer (some w.heap.size)]] (w.alloc (.cells #[.map (some q)] 137))
  (λv w'=>∃ (s:Y) (ids:O Int),v=s/\a7 1 3 w' s (ids.map encZ)/\s.len=ids.length/\ids.Perm (M.map (·.1))/\ids.Pairwise (λa b=>decide (a<=b)=true)/\Ext w w'/\∀k,aC s k->w.heap.size<=k):=by
 have d:Ext w (w.alloc (.cells #[.map (some q)] 137)):=ad.alloc (.refl _ _) _;have C:(w.alloc (.cells #[.map (some q)] 137)).heap.size=w.heap.size+1:=by simp
 obtain⟨D,j,l,f⟩:=F5 (h.ext d) g i;have m:=AnyZI.keys_gives (ρ:=AB) {E_ with} Fence.wide 2 trivial rfl I w.heap.size q M.length D (w.alloc (.cells #[.map (some q)] 137)) I (by simp) j;have n:=AnyZI.sorted_in Fa Fence.wide 5 trivial trivial trivial trivial rfl I (F6 _) (enters_of func153 (by kernel_rfl) rfl) 232 #[.pointer (some w.heap.size)] trivial (enters_of func232 (by kernel_rfl) rfl) _ _ (by rw[f];unfold maxLen;omega) (by rw[f];omega) _ m;have o:=callsIn_wide.1 (n.mono (R':=λe w'=>∃v,e=.returned v/\∃ (s:Y) (ids:O Int),v=s/\a7 1 3 w' s (ids.map encZ)/\s.len=ids.length/\ids.Perm (M.map (·.1))/\ids.Pairwise (λa b=>decide (a<=b)=true)/\Ext w w'/\∀k,aC s k->w.heap.size<=k) ?_)
 .exact o
 .rintro e ah ⟨v,ss,rfl,p,r,_,t⟩
  obtain⟨s,rfl,u,z,A⟩:=a7.F4 r;refine⟨_,rfl,s,ss.mergeSort (λx y=>decide (x<=y)),rfl,u,by rw[z,List.length_mergeSort],?_,?_,Ext.trans d (Ext.F3 t),λk B=>by have:=A k B;omega⟩
  .exact(List.mergeSort_perm _ _).trans (p.trans l)
  .exact List.pairwise_mergeSort (λa b c h1 h2=>by simp only[cR]at*;omega) (λa b=>by simp only[ic,cR];omega) ss
theorem uv:∀ (n:Nat) {l:O Nat},l.Nodup->(∀x∈l,x<n)->l.length<=n
 |0,l,_,h=>by
  cases l with
  |nil=>exact bo _
  |cons x l=>exact absurd (h x (by simp)) (Nat.not_lt_zero _)
 |n+1,l,a,h=>by
  by_cases b:n∈l
  .have h1:=uv n (l:=l.erase n) (a.erase n) λx hx=>by
    have h2:=(a.mem_erase_iff).1 hx
    have:=h x h2.2
    have:=h2.1
    omega
   rw[List.length_erase_of_mem b]at h1
   omega
  .have:=uv n a λx hx=>by
    have h1:=h x hx
    have h2:x≠n:=λe=>b (e▸hx)
    omega
   omega
section
variable {D:aX}
theorem cl.A7(h:cl w D):(D.waits.map gx.i).Nodup:=by
 have h1:=h.m.keys;rw[g8]at h1;refine(List.pairwise_map.1 h1:D.waits.Pairwise _).imp (λa e=>a ?_)|>List.pairwise_map.2;exact congrArg (λn:Nat=>(n:Int)) e
theorem cl.A8(h:cl w D):D.waits.length<=1600:=by
 have h1:=uv D.n h.A7 λx hx=>by
  obtain⟨y,a,rfl⟩:=dU.1 hx;exact(h.wn y a).2.1
 have:=h.bp;rw[dr]at h1;omega
theorem F8(h:cl w D):aP ak 112 #[.pointer (some D.d)] w
 (λv w'=>∃ (s:Y) (ids:O Int),v=s/\a7 1 3 w' s (ids.map encZ)/\ids.Perm (D.waits.map λx=>(x.i:Int))/\Ext w w'/\∀k,aC s k->w.heap.size<=k):=by
 refine okF (af.sK (some D.d)) az.sK func112 ?_;(delta af.sK yB aW;dsimp only);refine⟨_,rfl,_,h.aW,?_⟩;refine Calls.mono (af.Cc (some D.mr) w (λv w'=>v=.func (.func 232) #[] #[.pointer (some w.heap.size)]/\w.alloc (.cells #[.map (some D.mr)] 137)=w') ⟨rfl,rfl⟩) ?_;rintro _ _ ⟨_,rfl,rfl,rfl⟩;have cT:D.waits.length<=1000000:=by have:=h.A8;omega
 refine⟨⟨232,#[],#[.pointer (some w.heap.size)]⟩,rfl,(F7 h.m (by rw[dr];exact cT) (λx hx=>?_)).use ?_⟩
 .obtain⟨y,a,rfl⟩:=dU.1 hx
  have:=(h.wn y a).2.1;have:=h.bp;show _<=(y.i:Int)/\(y.i:Int)<=_;omega
 .rintro _ e ⟨s,ids,rfl,h1,_,h2,_,b,c⟩
  refine⟨s,rfl,s,ids,rfl,h1,?_,b,c⟩;rw[g8]at h2;exact h2
end
variable {w w':J}{D:aX}
theorem F9(a b:Int)(w:J)(T:TypeId)(k:IntKind):Sem.run ak (Builtin.min_ #[T,T] T #[.int k a,.int k b]) w=.ok (.int k (min a b)) w:=by
 simp only[Builtin.min_];unfold Builtin.min2;simp;split<;>omega
theorem cl.F_(h:cl w D){i:Nat}(hi:i<D.n){x:cL}(hx:x.length=256):bt w ⟨D.lb,i*256,none⟩ (aF x)/\cl (setCells w ⟨D.lb,i*256,none⟩ 0 (aF x)) {D with bc:=D.bc.set i x}/\ad (λq=>q=D.lb) w (setCells w ⟨D.lb,i*256,none⟩ 0 (aF x)):=by
 obtain⟨bN,bZ,a⟩:=AM h.l h.sl hi hx;refine⟨bN,?_,a⟩;generalize setCells w ⟨D.lb,i*256,none⟩ 0 (aF x)=j at bZ a;have b:D.d≠D.lb:=h.a1.1;refine⟨?_,bZ,h.m.ab a λe=>h.a1.2.2 e.symm,λx hx=>(h.ws x hx).ab a λq f e=>(h.a2 x hx).2.1 (by rw[←e];exact f),?_,λs hs=>?_,h.jF,?_,?_,h.f4,h.fr,h.a1,h.a2,h.a3⟩
 .have h1:=h.v.ab a b
  have e:({D with bc:=D.bc.set i x}:aX).c=D.c:=by unfold aX.c;simp
  rw[e];exact h1
 .intro z g
  have:=h.wn z g;refine⟨this.1,?_,this.2.2⟩;show z.i<(D.bc.set i x).length;rw[cY];exact this.2.1
 .rcases kR hs with h1|rfl
  .exact h.sl s h1
  .exact hx
 .show 16<=(D.bc.set i x).length;rw[cY];exact h.bJ
 .show(D.bc.set i x).length<=1600;rw[cY];exact h.bp
theorem Src.Ga{sz:Nat}{s:Y}{vs:O aa}{W:Nat->Prop}(h:Src sz w s vs)(hc:ad W w w')(d:∀k,aC s k->W k->vs=[]):Src sz w' s vs:=⟨h.len,h.nil,λa b=>by
 by_cases c:vs=[]
 .have h0:=h.len
  rw[c]at h0⊢
  rw[←h0];rfl
 .exact hc.cz (λe=>c (d _ ⟨a,b,rfl⟩ e)) _ _ _ (h.rd a b)⟩
structure xi(D aw:aX):Prop where
 d:aw.d=D.d
 waits:aw.waits=[]
 n:aw.n=D.n
 q:aw.quiet
 aM:aw.aM=D.aM
 bc:∀j,aw.bc.getD j []=D.bc.getD j []\/aw.bc.getD j []∈D.c_ j
 cS:∀q,bG aw q->bG D q
theorem Gb(h:cl w D){y:gx}(c:y∈D.waits):D.c_ y.i=y.fI:=by
 unfold aX.c_
 cases hf:D.waits.find? λx=>x.i==y.i with
 |none=>
  have:=iY.1 hf y c;simp at this
 |some z=>
  have d:=iE hf;have e:z.i=y.i:=by simpa using jr hf
  have h1:=h.A7;obtain⟨a,f,rfl⟩:=eK d;obtain⟨b,g,rfl⟩:=eK c;have h2:=(List.getElem_inj (i:=a) (j:=b) (h₀:=by simpa using f) (h₁:=by simpa using g) h1).1 (by simpa using e);subst h2;rfl
theorem Gc{l:Y}{zs:O Int}(h:cl w D)(R:Src 1 w l (zs.map encZ))(aj:∀q,aC l q->bG D q->zs=[])(bg:zs.length<=1000000)(bh:∀z∈zs,z<=9223372036854775807)(bi:D.aM<=1000000000):
 aP ak 45 #[.pointer (some D.d),l] w (λv w'=>v=.tuple #[]/\∃aw,cl w' aw/\xi D aw/\ad (bG D) w w'):=by
 refine okF (af.so (some D.d) l) az.so func45 ?_;(delta af.so al aW aI r1 ag au aT;dsimp only);refine⟨λh1=>(by cases h1),λ_=>(F8 h).use ?_⟩;rintro _ w1 ⟨s,ids,rfl,S,T,E,am⟩;have an:=h.bp;have ao:=R.len;rw[dr]at ao;have bj:s.len=ids.length:=by have:=S.1;rw[dr]at this;omega
 have bk:ids.length<=1600:=by rw[T.length_eq,dr];exact h.A8
 have ap:∀q,aC s q->¬bG D q:=λq a hf=>by have:=am q a;have:=h.lt hf;omega
 have F:bG D D.lb:=.inr (.inl rfl);refine⟨s,rfl,λn6 f=>∃ (i:Nat) (ls:O cL),n6=(i:Nat)/\i<=ids.length/\cl f {D with bc:=ls}/\ls.length=D.n/\(∀j,ls.getD j []=D.bc.getD j []\/ls.getD j []∈D.c_ j)/\ad (λq=>q=D.lb) w1 f,λn6 _=>((ids.length:Int)-n6).toNat,⟨0,D.bc,rfl,cN _,h.ext E,rfl,λj=>.inl rfl,ad.refl _ _⟩,?_⟩;rintro _ f ⟨i,ls,rfl,hi,g,r,g0,u⟩;have aq:=S.ab u λq a e=>ap q a (by rw[e];exact F);have G:=Src.Ga (R.ext E) u λq a e=>by rw[aj q a (by rw[e];exact F)];rfl
 refine⟨λH=>?_,λH=>?_⟩
 .have H:(i:Int)<(s.len:Int):=b_ H
  have J:i<ids.length:=by omega
  obtain⟨y,p,U⟩:=dU.1 (T.mem_iff.1 (cr J));have aA:IntKind.wrap .i64 ((i:Int)+1)=((i+1:Nat):Int):=by rw[bu I I];omega
  have aB:((ids.length:Int)-((i+1:Nat):Int)).toNat<((ids.length:Int)-(i:Int)).toNat:=by omega
  obtain⟨A,ar,aD,K⟩:=aq.src.at (i:=i) (v:=encZ ids[i]) (by simp[J]);refine jd (λL=>∃ls:O cL,cl L {D with bc:=ls}/\ls.length=D.n/\(∀j,ls.getD j []=D.bc.getD j []\/ls.getD j []∈D.c_ j)/\ad (λq=>q=D.lb) w1 L) (λbl V=>⟨A,ar,aD,ids[i],K,?_⟩) ?_
  .refine ct (λb w'=>(b=false->∃t:i<zs.length,0<zs[i])/\f=w') (λq a=>⟨λ_=>a _ _ ⟨λh=>(by cases h),rfl⟩,λW=>?_⟩) ?_
   .have W:¬(i:Int)>=(l.len:Int):=cG W
    have t:i<zs.length:=by omega
    obtain⟨B,X,Z,aa⟩:=G.at (i:=i) (v:=encZ zs[i]) (by simp[t]);exact⟨B,X,Z,zs[i],aa,a _ _ ⟨λaE=>⟨t,by have:=cG aE;omega⟩,rfl⟩⟩
   .rintro b _ ⟨aG,rfl⟩
    refine⟨λ_=>V _ ⟨ls,g,r,g0,u⟩,λaH=>?_⟩;obtain⟨t,bn⟩:=aG aH;obtain⟨B,X,Z,aa⟩:=G.at (i:=i) (v:=encZ zs[i]) (by simp[t]);have aJ:=g.m.ve nf kC (k:=(y.i:Int)) (v:=y.s) (dU.2 ⟨y,p,rfl⟩) false;have M:=g.ext (cw f);have aK:=G.ext (cw f);obtain⟨aL,aN,aO,aQ⟩:=aK.at (i:=i) (v:=encZ zs[i]) (by simp[t]);have bo:=(h.wn y p).2.2;have bq:0<y.fI.length:=qW.2 (h.wn y p).1;obtain⟨k,aR⟩:∃k:Nat,min zs[i] (y.fI.length:Int)=((k+1:Nat):Int):=⟨(min zs[i] (y.fI.length:Int)-1).toNat,I⟩;have C:k<y.fI.length:=by omega
    obtain⟨aS,aU,aV,aZ⟩:=wh (M.ws y p).src (λs hs=>by rw[dA];exact h.jF y p s hs) (by decide) (i:=k) C;have a0:y.i<D.n:=(h.wn y p).2.1;have a2:({D with bc:=ls}:aX).n=D.n:=r;obtain⟨bN,bZ,a3⟩:=M.F_ (i:=y.i) (by rw[a2];exact a0) (h.jF y p y.fI[k] (cr C));have ac:Addr.add D.lb (Int.toNat (y.i:Int)*256)=⟨D.lb,y.i*256,none⟩:=by rw[di,ay,cE]
    refine⟨_,rfl,some D.mr,g.aW,y.s,f,by rw[←U];exact aJ,aY ⟨λ_=>False,_,rfl,id,⟨some D.lb,ls.length,ls.length⟩,M.dj,aL,aN,aO,id,zs[i],aQ,_,f.drew,F9 _ _ _ _ _,ad.refl _ _,aU,aV,?_⟩⟩;rw[aS,aR,bu (n:=(((k+1:Nat):Nat):Int)-1) I I];have a4:Int.toNat (((k+1:Nat):Int)-1)=k:=by omega
    rw[a4,←U];refine⟨⟨I,I⟩,id,_,aZ,_,rfl,⟨I,by show(y.i:Int)<(ls.length:Int);omega⟩,by rw[ac];exact bN,by simp[dA,h.jF y p y.fI[k] (cr C)],?_⟩;rw[ac];refine aY (V _ ⟨ls.set y.i y.fI[k],bZ,by rw[cY];exact r,λj=>?_,u.trans ((cw f).mono (λ_ _ h=>h.elim)|>.trans a3)⟩);by_cases ae:y.i=j
    .subst ae
     right;rw[eQ (by rw[cY];omega),gW,Gb h p];exact cr C
    .rw[fg,List.getElem?_set_ne ae,←fg]
     exact g0 j
  .rintro L ⟨a5,av,ax,a6,a7⟩
   rw[aA];exact⟨⟨i+1,a5,rfl,J,av,ax,a6,a7⟩,aB⟩
 .obtain⟨ah,K,a8,N,br⟩:=dV.clear (P:=ak) (o:=0) g.m kC
  have a9:D.d≠D.mr:=h.a1.2.1;have a_:=g.v.ab N a9;refine⟨_,rfl,some D.mr,g.aW,_,ah,K,_,rfl,(zC a_ (by rw[show(aX.c {D with bc:=ls}).length=7 from g.tV];decide)).use ?_⟩;rintro _ ai ⟨rfl,ba,Q,bs⟩;have bb:=h.f4;have bd:cl ai {D with bc:=ls,waits:=[],b6:=[-1, -1, -1, -1]}:=by
   have be:bm ah D.lb (b5 aF ls).toArray 182:=bm.ab g.l N h.a1.2.2;have bf:bm ai D.lb (b5 aF ls).toArray 182:=bm.ab be Q λe=>h.a1.1 e.symm;refine⟨?_,bf,a8.ab Q λe=>h.a1.2.1 e.symm,λx hx=>(by cases hx),λx hx=>(by cases hx),g.sl,λx hx=>(by cases hx),?_,?_,rfl,λx hx=>?_,h.a1,λx hx=>(by cases hx),λx hx=>(by cases hx)⟩
   .have e:({D with bc:=ls,waits:=[],b6:=[-1, -1, -1, -1]}:aX).c=List.replicate 4 (.int .i64 (-1))++(aX.c {D with bc:=ls}).drop 4:=by
     unfold aX.c;dsimp only;rw[List.drop_left' (by rw[dr];exact bb)];rfl
    rw[e];exact ba
   .show 16<=ls.length;rw[r];exact h.bJ
   .show ls.length<=1600;rw[r];exact an
   .have hx:x∈ [(-1:Int), -1, -1, -1]:=hx
    simp only[cP,eE,eL,or_self]at hx;omega
  refine⟨rfl,rfl,_,bd,⟨rfl,rfl,r,⟨λk=>⟨.inl rfl,.inl rfl⟩,rfl⟩,rfl,g0,λq a=>?_⟩,?_⟩
  .rcases a with e|e|e|⟨x,hx,e⟩
   .exact .inl e
   .exact .inr (.inl e)
   .exact .inr (.inr (.inl e))
   .cases hx
  .have h1:ad (bG D) w f:=cm (E.mono λ_ _ h=>h.elim) u λq _ e=>by rw[e];exact F
   have h2:=cm h1 N λq _ e=>by rw[e];exact .inr (.inr (.inl rfl))
   exact cm h2 Q λq _ e=>by rw[e];exact .inl rfl
theorem Gd:ih ak 170:=⟨_,(Option.some_get (show(Tryz.prog.funcs[170]?).isSome=true by kernel_rfl)).symm,by kernel_rfl,by kernel_rfl⟩
theorem Ge{w:J}{s:Y}{l:O UInt8}(hs:Src 1 w s (aF l))(o:l.length<=1000):
   aP ak 169 #[s,.func (.func 170) #[] #[]] w (λv w'=>v=.bool (!(l.all λc=>c==0))/\w=w'):=by
 have p:=len8 hs
 refine okF (af.r5 s ⟨170,#[],#[]⟩) az.r5 func169 ?_
 (delta af.r5 aB;dsimp only)
 refine Calls.mono (af.Cd s ⟨170,#[],#[]⟩ w (λv w'=>(∃i:Int,v=i/\(decide (i>=0))= !(l.all λc=>c==0))/\w=w') ?_) ?_
 · (delta af.p4 al aI bW au;dsimp only)
   refine⟨λi w'=>∃j:Nat,i=j/\j<=l.length/\w=w'/\∀ (k:Nat) (a:k<l.length),k<j->l[k]=0,λi _=>((l.length:Int)-i).toNat,⟨0,rfl,cN _,rfl,λk a h=>I⟩,?_⟩
   rintro _ _ ⟨j,rfl,q,rfl,d⟩
   refine⟨λaK=>?_,λb=>?_⟩
   · have aK:j<l.length:=by have:=b_ aK;omega
     obtain⟨A,ar,f,g⟩:=hs.at (m5 aK)
     refine⟨A,ar,f,_,g,Gd,?_⟩
     refine Calls.mono (af.Ct ((l[j]).toNat:Int) w (λv w'=>v=.bool (((l[j]).toNat:Int) !=0)/\w=w') ⟨rfl,rfl⟩) ?_
     rintro _ _ ⟨_,rfl,rfl,rfl⟩
     refine⟨_,rfl,λe=>⟨⟨j,rfl,?_⟩,rfl⟩,λm=>?_⟩
     · have:(l.all λc=>c==0)=false:=by
         rw[List.all_eq_false]
         refine⟨l[j],cr _,λh=>?_⟩
         have h:=eq_of_beq h
         rw[h]at e
         simp at e
       rw[this]
       exact dL I
     · have h0:l[j]=0:=by
         have:((l[j]).toNat:Int)=0:=by simpa using m
         exact UInt8.toNat_inj.1 (by show(l[j]).toNat=0;omega)
       rw[bu (n:=(j:Int)+1) I I]
       refine⟨⟨j+1,I,I,rfl,λk a h=>?_⟩,?_⟩
       · rcases dR k j with h1|h1
         · exact d k a h1
         · have:k=j:=by omega
           subst this;exact h0
       · show((l.length:Int)-((j:Int)+1)).toNat<((l.length:Int)-(j:Int)).toNat
         omega
   · have b:j=l.length:=by have:=cG b;omega
     subst b
     refine⟨⟨-1,rfl,?_⟩,rfl⟩
     have:(l.all λc=>c==0)=true:=by
       rw[lv]
       intro c hc
       obtain⟨k,a,rfl⟩:=eK hc
       rw[d k a a];rfl
     rw[this];rfl
 · rintro _ _ ⟨_,rfl,⟨i,rfl,hi⟩,rfl⟩
   exact⟨i,rfl,by rw[hi],rfl⟩
theorem Gf{l:O Int}{i:Nat}{d:Int}(h:i<l.length):l.set i (l.getD i d)=l:=by
 rw[eQ h,List.set_getElem_self]
theorem Gg{D:aX}(h:D.quiet){k:Nat}(a:k=1\/k=2):D.b6.getD k 0= -1:=by
 have h1:=h.1 ((D.b6.getD k 0).toNat+1);rcases a with rfl|rfl
 .exact h1.1.resolve_right I
 .exact h1.2.resolve_right I
theorem A9{D:aX}(h:D.quiet)(b:D.b6.length=4){k:Nat}(a:k=1\/k=2):D.cf k=D/\D.fh k=false:=by
 have h1:=Gg h a;unfold aX.cf aX.fh;rw[h1];refine⟨?_,rfl⟩;have e:(fR (-1)).2=D.b6.getD k 0:=by rw[h1];rfl
 rw[e,Gf I]
def takeN(u:cM)(g:Nat):aq (cM×Nat)->aq (cM×Nat)
 |none=>some (u,g)
 |some x=>if g>x.2 then some (u,g) else some x
def gh(n no:Nat)(l:cL)(acc:aq (cM×Nat)):Except Int (aq (cM×Nat)):=
 if (l.all λc=>c==0)=true then .ok acc else match gn (no:Int) l with
 | .error e=>.error e
 | .ok (u,s,g)=>if s≠n then .error 4 else .ok (takeN u g acc)
def iw(n:Nat)(V:Nat->cL):Nat->Except Int (aq (cM×Nat))
 |0=>.ok none
 |i+1=>match iw n V i with
  | .error e=>.error e
  | .ok a=>gh n i (V i) a
theorem A_{n:Nat}{V:Nat->cL}{e:Int}{i:Nat}(h:iw n V i=.error e):∀k,iw n V (i+k)=.error e
 |0=>h
 |k+1=>by
  show iw n V (i+k+1)=_
  unfold iw
  rw[A_ h k]
def Ba:aq (cM×Nat)->Except Int (cM×Nat)
 |none=>.error 6
 |some x=>.ok x
def iU(n:Nat)(V:Nat->cL):Except Int (cM×Nat):=match iw n V 2 with
 | .error e=>.error e
 | .ok a=>Ba a
def o_:aq (cM×Nat)->cM
 |none=>fU
 |some x=>x.1
def pb:aq (cM×Nat)->Nat
 |none=>0
 |some x=>x.2
theorem Gh{no:Int}{l:cL}{e:Int}(h:gn no l=.error e):e≠0:=by
 unfold gn at h;split at h
 .rename_i a he
  cases h;exact w5 he
 .split at h
  .cases h;decide
  .split at h
   .cases h
   .cases h;decide
theorem og{w:J}{D:aX}(h:cl w D)(j:D.quiet)(aD:D.aM<=1000000000):
 aP ak 109 #[.pointer (some D.d)] w (λv w'=>cl w' D/\ad (λq=>q=D.d) w w'/\(match iU D.n D.now with
  | .error e=>e≠0/\∃u:cM,v=.tuple #[.agg u.c.toArray,.int .u64 0,e]
  | .ok (u,g)=>v=.tuple #[.agg u.c.toArray,.int .u64 (g:Nat),(0:Int)])):=by
 have aU:=h.bJ;refine okF (af.og (some D.d)) az.og func109 ?_;(delta af.og gD al b8 vi r1 U bF aH yA aB au;dsimp only);refine bl (vs:=fU.c) rfl λw1 ae ag aV=>?_;obtain⟨t,aE⟩:∃t,t=w.heap.size:=⟨_,rfl⟩;rw[←aE]at ae⊢;have aF:t≠D.d:=by have:=h.lt (q:=D.d) (.inl rfl);omega
 have ai:=A9 j h.f4 (k:=1) (.inl rfl);refine⟨λaG aI n6 C=>∃ (i:Nat) (a:aq (cM×Nat)),n6=(i:Nat)/\i<=2/\aG=(pb a:Nat)/\aI=a.isSome/\iw D.n D.now i=.ok a/\cl C D/\Var C t (o_ a).c 104/\ad (λq=>q=D.d) w C,λ_ _ n6 _=>(2-n6).toNat,⟨0,none,rfl,by decide,rfl,rfl,rfl,h.ext ag,ae,ag.mono λ_ _ h=>h.elim⟩,?_⟩;rintro _ _ _ C ⟨i,a,rfl,hi,rfl,rfl,aj,O,A,E⟩;have aW:=E.size;have B:∀ {w' am:J},ad (λq=>q=D.d) w w'->ad (λq=>q=t) w' am->ad (λq=>q=D.d) w am:=λh1 h2=>cm h1 h2 λq aY e=>by omega
 refine⟨λP=>?_,λP=>?_⟩
 .have Q:i<2:=by have:(i:Int)<2:=b_ P;omega
  have aJ:IntKind.wrap .i64 ((i:Int)+1)=((i+1:Nat):Int):=by rw[bu I I];omega
  refine rE (λn b w'=>∃y:aq (cM×Nat),n=(pb y:Nat)/\b=y.isSome/\iw D.n D.now (i+1)=.ok y/\cl w' D/\Var w' t (o_ y).c 104/\ad (λq=>q=D.d) w w') (λaZ R=>(wj O (i:=i) I aD).use ?_) ?_
  .rintro v aK ⟨F,an,aL⟩
   rw[ai.1]at F;rcases aL with ⟨ao,_⟩|⟨_,s,rfl,S⟩
   .rw[ai.2]at ao;cases ao
   have ap:=A.ab an aF;have ar:ad (λq=>q=D.d) w aK:=E.trans an;have a0:=F.ng (i:=i) I;have G:iw D.n D.now (i+1)=gh D.n i (D.now i) a:=by
    unfold iw;rw[aj]
   have av:∀e,gh D.n i (D.now i) a=.error e->iU D.n D.now=.error e:=λe he=>by
    unfold iU;have:=A_ (G.trans he) (1-i);rw[show i+1+(1-i)=2 from I]at this;rw[this]
   refine⟨s,0,rfl,λhx=>(by cases hx),λ_=>(Ge S.1 I).use ?_⟩;rintro _ _ ⟨rfl,rfl⟩;refine⟨_,rfl,λm=>R _ _ _ ⟨a,rfl,rfl,?_,F,ap,ar⟩,λm=>(ov S.1 S.2.1 I (i:Nat)).use ?_⟩
   .rw[G];unfold gh
    rw[if_pos (by simpa using m)]
   have m:¬((D.now i).all λc=>c==0)=true:=by simpa using m
   rintro v T ⟨rfl,V⟩;have aw:=F.ext V;have ax:=ap.ext V;have ay:ad (λq=>q=D.d) w T:=cm ar V λq _ h=>h.elim
   cases H:gn (i:Int) (D.now i) with
   |error e=>
    have he:=Gh H;have z:=av e (by unfold gh;rw[if_neg m,H]);refine⟨_,_,_,_,_,_,_,_,e,rfl,bl (vs:=fU.c) rfl λaN W X aO=>iT W rfl fU λK aA Y _=>⟨λ_=>?_,λhx=>absurd (by simpa using hx) he⟩⟩;have o:Ext T K:=Ext.ck X Y (bo _);have p:=ax.ext o;refine gp p (iT p rfl (o_ a) λah l f _=>gp l ⟨(aw.ext o).ab f λq j e=>?_,B (cm ay o λq _ h=>h.elim) f,?_⟩)
    .have:=h.lt j;omega
    .rw[z];exact⟨he,_,rfl⟩
   |ok r=>
    obtain⟨u,ir,g⟩:=r;refine⟨_,_,_,_,_,_,_,_,0,rfl,bl (vs:=fU.c) rfl λaN W X aO=>iT W rfl u λK aA Y _=>⟨λhx=>(by cases hx),λ_=>?_⟩⟩;have o:Ext T K:=Ext.ck X Y (bo _);have p:=ax.ext o;have L:=aw.ext o;have Z:ad (λq=>q=D.d) w K:=cm ay o λq _ h=>h.elim;refine(oV L).use ?_;rintro _ _ ⟨rfl,rfl⟩;refine⟨_,rfl,λM=>?_,λaa=>?_⟩
    .have M:ir≠D.n:=λe=>by rw[e]at M;simp at M
     have z:=av 4 (by unfold gh;rw[if_neg m,H];dsimp only;rw[if_pos M]);refine gp p (iT p rfl (o_ a) λah l f _=>gp l ⟨L.ab f λq j e=>?_,B Z f,?_⟩)
     .have:=h.lt j;omega
     .rw[z];exact⟨by decide,_,rfl⟩
    .have aa:ir=D.n:=by
      have:(ir:Int)=(D.n:Int):=by simpa using aa
      omega
     have aC:gh D.n i (D.now i) a=.ok (takeN u g a):=by
      unfold gh;rw[if_neg m,H];dsimp only;rw[if_neg (λe=>e aa)]
     refine⟨λN=>?_,λN=>?_⟩
     .have aQ:iw D.n D.now (i+1)=.ok (some (u,g)):=by
       rw[G,aC]
       cases a with
       |none=>rfl
       |some x=>
        have:g>x.2:=by
         have:(g:Int)>((pb (some x):Nat):Int):=by simpa using N
         have e:pb (some x)=x.2:=rfl;omega
        show Except.ok (if g>x.2 then _ else _)=_;rw[if_pos this]
      refine gp aA (iT p rfl u λah l f _=>R _ _ _ ⟨some (u,g),rfl,rfl,aQ,L.ab f λq j e=>?_,l,B Z f⟩);have:=h.lt j;omega
     .refine R _ _ _ ⟨a,rfl,rfl,?_,L,p,Z⟩
      rw[G,aC]
      cases a with
      |none=>cases N
      |some x=>
       have:¬g>x.2:=by
        have:¬(g:Int)>((pb (some x):Nat):Int):=by simpa using N
        have e:pb (some x)=x.2:=rfl;omega
       show Except.ok (if g>x.2 then _ else _)=_;rw[if_neg this]
  .rintro _ _ a1 ⟨y,rfl,rfl,h1,h2,aR,aS⟩
   rw[aJ];have aT:(2-((i+1:Nat):Int)).toNat<(2-(i:Int)).toNat:=by omega
   exact⟨⟨i+1,y,rfl,Q,rfl,rfl,h1,h2,aR,aS⟩,aT⟩
 .have Q:i=2:=by have:¬(i:Int)<2:=cG P;omega
  subst Q;have z:iU D.n D.now=Ba a:=by unfold iU;rw[aj]
  refine⟨λac=>gp A (iT A rfl (o_ a) λah l f _=>gp l ⟨O.ab f λq j e=>?_,B E f,?_⟩),λac=>gp A (iT A rfl (o_ a) λah l f _=>gp l ⟨O.ab f λq j e=>?_,B E f,?_⟩)⟩
  .have:=h.lt j;omega
  .rw[z]
   cases a with
   |none=>exact⟨by decide,_,rfl⟩
   |some x=>cases ac
  .have:=h.lt j;omega
  .rw[z]
   cases a with
   |none=>cases ac
   |some x=>rfl
theorem Gi{no:Int}{l:O UInt8}{p:g4}(h:dk no l=.ok p):l.getD 4 0=1:=by
 by_cases e:l.getD 4 0=1
 .exact e
 .exfalso
  unfold dk at h;split at h
  .cases h
  .split at h
   .cases h
   .first|(rw[if_pos e]at h;cases h)|cases h
theorem Gj{no:Int}{l:O UInt8}{p:g4}(h:dk no l=.ok p):¬(l.all λc=>c==0)=true:=λa=>by
 have h1:=Gi h
 rw[lv]at a
 rw[fg]at h1
 cases hg:l[4]? with
 |none=>rw[hg]at h1;cases h1
 |some c=>
  rw[hg]at h1
  have:=a c (List.mem_of_getElem? hg)
  have h1:c=1:=h1
  rw[h1]at this;cases this
theorem xj{no:Int}{l:O UInt8}{r:cM×Nat×Nat}(h:gn no l=.ok r):∃p,dk no l=.ok p:=by
 unfold gn at h
 cases a:dk no l with
 |error e=>rw[a]at h;cases h
 |ok p=>exact⟨p,rfl⟩
theorem qO{n no:Nat}{l:cL}{a:aq (cM×Nat)}{u:cM}{g:Nat}(h:gn (no:Int) l=.ok (u,n,g)):gh n no l a=.ok (takeN u g a):=by
 obtain⟨p,b⟩:=xj h;unfold gh;rw[if_neg (Gj b),h];dsimp only;rw[if_neg (λe=>e rfl)]
theorem Bb{n no:Nat}{a:aq (cM×Nat)}:gh n no fK a=.ok a:=by
 unfold gh;rw[if_pos (by unfold fK;rw[List.all_replicate];rfl)]
section
variable {V:Nat->cL}{n gen:Nat}{u:cM}{g:Nat->ai}{P:Nat->aq aA}{p:O Nat}{L:O aR}
theorem gA.iU(h:gA V n gen u g P p L):iU n V=.ok (u,gen):=by
 have h2:iw n V 2=.ok (some (u,gen)):=by
  have e:iw n V 2=(match gh n 0 (V 0) none with| .error e=>.error e| .ok a=>gh n 1 (V 1) a):=rfl;rw[e];have b:=h.uq;have c:=h.xd;rcases Nat.mod_two_eq_zero_or_one gen with h0|h0
  .rw[h0]at b c
   rw[qO b];show gh n 1 (V 1) (some (u,gen))=_;rcases c with d|⟨f,g',h1,h2⟩
   .rw[show V 1=fK from d,Bb]
   .rw[qO (no:=1) h1]
    show Except.ok (if g'>gen then _ else _)=_;rw[if_neg I]
  .rw[h0]at b c
   rcases c with d|⟨f,g',h1,h2⟩
   .rw[show V 0=fK from d,Bb]
    exact qO b
   .rw[qO (no:=0) h1]
    show gh n 1 (V 1) (some (f,g'))=_;rw[qO b];show Except.ok (if gen>g' then _ else _)=_;rw[if_pos h2]
 unfold Go.Proofs.YtkdhdlfonmgheaaGreat.iU;rw[h2];rfl
end
theorem Bc{g:Nat->ai}{n:Nat}(hg:∀i,n<=i->g i=false):bitsOf ((fe g ((n+7)/8)).map λc=>(c.toNat:Int))=g:=by
 funext i;unfold bitsOf;by_cases hi:i/8<(n+7)/8
 .rw[fg,km]
  have e:(fe g ((n+7)/8))[i/8]? =some (UInt8.ofNat (byteOf g (i/8))):=by
   unfold fe;rw[km,List.getElem?_range hi];rfl
  rw[e];have a:=jk g (i/8);show((((UInt8.ofNat (byteOf g (i/8))).toNat:Nat):Int).toNat).testBit (i%8)=g i;rw[pB,iF a,di,l9 _ _ _ (gB _ (by decide)),zO]
 .have:(fe g ((n+7)/8)).length<=i/8:=by rw[nw];omega
  rw[fg,kQ (by rw[dr];exact this),hg i I];show Nat.testBit (Int.toNat 0) _=false;simp
theorem Gk{g:Nat->ai}{n:Nat}(hg:∀i,n<=i->g i=false):nv ((fe g ((n+7)/8)).map λc=>(c.toNat:Int)) n:=
 ⟨by rw[dr,nw],λi hi=>by rw[Bc hg];exact hg i hi⟩
theorem oh{w:J}{D:aX}{no:Nat}{g:Nat->ai}(h:cl w D)(P:D.quiet)(Q:D.aM<=1000000000)(C:no<D.n)(hg:∀i,D.n<=i->g i=false)
 (hc:(∃eZ,dk ((no:Nat):Int) (D.now no)=.ok ⟨4,eZ,fe g ((D.n+7)/8)⟩)\/∃e,dk ((no:Nat):Int) (D.now no)=.error e):
 aP ak 110 #[.pointer (some ⟨D.d,0,none⟩),.int .i64 (no:Nat)] w (λv w'=>cl w' D/\ad (λq=>q=D.d) w w'/\
  ((∃sb s1 s2,v=.tuple #[.pointer (some ⟨sb,0,none⟩),.int .i64 0]/\(∃eZ,dk ((no:Nat):Int) (D.now no)=.ok ⟨4,eZ,fe g ((D.n+7)/8)⟩)/\eo w' sb D.n g g s1 s2/\∀k,eY sb s1 s2 k->w.heap.size<=k)\/
   (∃e:Int,v=.tuple #[.pointer none,.int .i64 e]/\e≠0/\∃R,dk ((no:Nat):Int) (D.now no)=.error R))):=by
 refine okF (af.oh (some ⟨D.d,0,none⟩) (no:Nat)) az.oh func110 ?_;(delta af.oh b8 al kv z3 U r1 ag aB dj;dsimp only);have ah:=h.bp;have E:=A9 P h.f4 (k:=1) (.inl rfl);refine(wj h C Q).use ?_;rintro v w1 ⟨m,S,o⟩;rw[E.1]at m;rcases o with ⟨F,_⟩|⟨_,s,rfl,G⟩
 .rw[E.2]at F;cases F
 have aj:=m.ng C;refine⟨s,0,rfl,λhx=>(by cases hx),λ_=>(lV G.1 G.2.1 I _).use ?_⟩;rintro v p ⟨f,H⟩;have K:=m.ext H;have r:ad (λq=>q=D.d) w p:=cm S H λq _ h=>h.elim;rcases hc with ⟨eZ,a⟩|⟨e,a⟩
 .rw[a]at f
  obtain⟨t,rfl,T,am⟩:=f;refine⟨4,eZ,t,0,rfl,bl (vs:=[.int .i64 0,.int .u64 0,.slice none 0 0]) rfl λV u y W=>uc 4 eZ t u rfl λb z A X=>⟨λhx=>(by cases hx),λ_=>⟨4,z.cell,λhx=>(by cases hx),λ_=>aY ?_⟩⟩⟩;have j:Ext p b:=Ext.ck y A (bo _);have L:Ext b b.drew:=cw _;have Y:=z.ext L;have l:=Ext.trans j L;have M:=K.ext l;refine⟨λ_=>False,id,t,by rw[ay];exact Y.cell,(oV M).use ?_⟩;rintro _ _ ⟨rfl,rfl⟩;have Z:=T.ext l;have hu:aF (fe g ((D.n+7)/8))=((fe g ((D.n+7)/8)).map λc=>((c.toNat:Nat):Int)).map (.int .u8):=by unfold aF;rw[g8];rfl
  have N:=Z.src;rw[show(⟨4,eZ,fe g ((D.n+7)/8)⟩:g4).body=fe g ((D.n+7)/8) from rfl,hu]at N;refine⟨_,rfl,ad.refl _ _,(ow N (λx hx=>?_) (by rw[dr,nw];omega) (D.n:Nat)).use ?_⟩
  .obtain⟨c,_,rfl⟩:=dU.1 hx
   have:=c.toNat_lt;omega
  rintro v aa ⟨O,o⟩;have ab:=M.ext O;have ac:ad (λq=>q=D.d) w aa:=cm r (Ext.trans l O) λq _ h=>h.elim;have an:=h.bJ;rcases o with ⟨B,_⟩|⟨_,_,B,_⟩|⟨_,_,_,sb,s1,s2,rfl,fA,hf⟩
  .exact absurd ⟨I,I⟩ B
  .exact absurd (by rw[di];exact Gk hg) B
  .rw[Bc hg,di]at fA
   refine⟨_,0,rfl,ab,ac,.inl ⟨sb,s1,s2,rfl,⟨eZ,a⟩,fA,λk ae=>?_⟩⟩;have:=hf k ae;have:=r.size;have:=l.size;omega
 .rw[a]at f
  obtain rfl:=f;have he:=w5 a;refine⟨0,0,⟨none,0,0⟩,e,rfl,bl (vs:=[.int .i64 0,.int .u64 0,.slice none 0 0]) rfl λV u y W=>uc 0 0 ⟨none,0,0⟩ u rfl λb z A X=>⟨λ_=>?_,λhx=>absurd (by simpa using hx) he⟩⟩;have j:Ext p b:=Ext.ck y A (bo _);exact⟨K.ext j,cm r j λq _ h=>h.elim,.inr ⟨e,rfl,he,e,a⟩⟩
section
variable {w w':J}{D:aX}{V:Nat->cL}{gen:Nat}{u:cM}{g:Nat->ai}{P:Nat->aq aA}{aN:O Nat}{aZ:O aR}
def qP(D:aX)(j:Nat):Prop:=¬((D.now j).all λc=>c==0)=true/\∃e,dk (j:Int) (D.now j)=.error e
theorem Gl(h:gA V D.n gen u g P aN aZ)(dJ:∀j,g j=true->D.now j=V j\/qP D j):(D.now 0=V 0/\D.now 1=V 1/\iU D.n D.now=.ok (u,gen))\/((∃j,g j=true/\qP D j)/\∃e,iU D.n D.now=.error e):=by
 have lg:g 0=true:=(h.g 0).2 (.inr (.inl (by decide)));have av:g 1=true:=(h.g 1).2 (.inr (.inl (by decide)));have bad:∀ (j:Nat) (a:aq (cM×Nat)),qP D j->∃e,gh D.n j (D.now j) a=.error e:=λj a ⟨h1,e,h2⟩=>by
  unfold gh;rw[if_neg h1];unfold gn;rw[h2];exact⟨e,rfl⟩
 have b:iw D.n D.now 2=(match gh D.n 0 (D.now 0) none with| .error e=>.error e| .ok a=>gh D.n 1 (D.now 1) a):=rfl;rcases dJ 0 lg with h0|h0
 .rcases dJ 1 av with h1|h1
  .refine .inl ⟨h0,h1,?_⟩
   have:=h.iU;unfold iU at this⊢;have c:iw D.n V 2=(match gh D.n 0 (V 0) none with| .error e=>.error e| .ok a=>gh D.n 1 (V 1) a):=rfl;rw[b,h0,h1,←c];exact this
  .right
   refine⟨⟨1,av,h1⟩,?_⟩;unfold iU;rw[b]
   cases hs:gh D.n 0 (D.now 0) none with
   |error e=>exact⟨e,rfl⟩
   |ok a=>
    obtain⟨e,he⟩:=bad 1 a h1;dsimp only;rw[he];exact⟨e,rfl⟩
 .right
  refine⟨⟨0,lg,h0⟩,?_⟩;obtain⟨e,he⟩:=bad 0 none h0;unfold iU;rw[b,he];exact⟨e,rfl⟩
theorem Bd{c aU k:Nat}{a:Nat->Prop}(h:dD (λ_=>False) w (hK c aU k D))(d:∀q,a q->q<w.heap.size/\¬cO (hK c aU k D) q):dD a w (hK c aU k D):=
 ⟨h.raw,h.inv.pins,λf hf b=>(by
  have:=(List.mem_replicate.1 (show f∈List.replicate k dp from hf)).2
  rw[this]at b
  cases b),h.inv.un,d,h.inv.j6⟩
theorem oc{l:fc}{c9:Nat->Prop}(h:cl w D)(o:D.quiet)(b4:D.aM<=800000000)(aI:∀j,g j=true->D.c_ j=[])(K:jJ (l.aj:Nat) (l.batch:Nat) (l.gk:Nat))(a:gA V D.n gen u g P aN aZ)(dJ:∀j,g j=true->D.now j=V j\/qP D j)(hs:D.bC=g)(aJ:D.dS=λ_=> [])(b5:gen<=1000000000)(bd:aZ.length<=4000)(be:aN.length<=4000)(aK:∀q,c9 q->q<w.heap.size/\¬bG D q):
 aP ak 41 #[.pointer (some ⟨D.d,0,none⟩),.agg l.c.toArray] w (λv w'=>ad (bG D) w w'/\
  ((∃S:cn,v=.tuple #[.pointer (some ⟨S.st,0,none⟩),.int .i64 0]/\dK w' S aN aZ aN aZ/\S.failed=false/\S.u=u/\S.gen=gen/\S.now=u.clock/\S.pending=0/\S.l=l/\S.T.C.D.d=D.d/\S.T.n=D.n/\S.T.C.D.quiet/\S.T.C.D.aM<=D.aM+9000/\(∀q,S.T.M q->bG D q\/c9 q\/w.heap.size<=q)/\(∀q,S.T.E q↔q=S.st\/c9 q)/\w.heap.size<=S.st)\/
   (∃e:Int,v=.tuple #[.pointer none,.int .i64 e]/\e≠0/\∃j,g j=true/\qP D j))):=by
 refine okF (af.oc (some ⟨D.d,0,none⟩) (l.aj:Nat) (l.batch:Nat) (l.gk:Nat)) az.oc func41 ?_;(delta af.oc r1 U bF aH al yy gD dj aB;dsimp only);have b6:=h.bJ;have b7:=h.bp;have G:=a.o8;have Y:g u.map=true:=(a.g _).2 (.inr (.inr rfl));refine bl (vs:=l.c) rfl λw1 Z aO b8=>⟨_,Z.cell,_,by rw[ay];exact Z.cell,_,by rw[ay];exact Z.cell,(mO w1 _ _ _ _).use ?_⟩;rintro _ b9 ⟨rfl,aQ⟩;refine⟨_,rfl,λaR=>?_,λ_=>?_⟩
 .rw[dL K]at aR;cases aR
 have ah:=aO.trans aQ;have bf:=h.ext ah;have bh:=Z.ext aQ;refine(og bf o I).use ?_;rintro v ai ⟨bi,am,H⟩;have b_:=ah.size;have cb:=am.size;have cc:=aO.size;have aa:∀q,q=D.d->bG D q:=λq e=>.inl e;have aS:ad (bG D) w ai:=cm (ah.mono λ_ _ h=>h.elim) am λq _ e=>aa q e;have bk:=bh.ab am λe=>by have:=h.lt (q:=D.d) (.inl rfl);omega
 rcases Gl a dJ with ⟨bm,bn,an⟩|⟨bq,e,an⟩
 rotate_left
 .rw[an]at H
  obtain⟨he,br,rfl⟩:=H;refine⟨_,_,_,_,_,_,0,e,rfl,bl (vs:=fU.c) rfl λbs ap ar bt=>iT ap rfl br λac au av _=>⟨λ_=>?_,λhx=>absurd (by simpa using hx) he⟩⟩;have O:Ext ai ac:=Ext.ck ar av (bo _);exact⟨cm aS O λq _ h=>h.elim,.inr ⟨e,rfl,he,bq⟩⟩
 rw[an]at H;obtain rfl:=H;refine⟨_,_,_,_,_,_,_,0,rfl,bl (vs:=fU.c) rfl λbs ap ar bt=>iT ap rfl u λac au av _=>⟨λhx=>(by cases hx),λ_=>⟨_,by rw[ay];exact au.cell,?_⟩⟩⟩;have O:Ext ai ac:=Ext.ck ar av (bo _);have bu:=bi.ext O;have bv:=bk.ext O;have aT:∀i,D.n<=i->g i=false:=λi hi=>by
  cases hg:g i with
  |false=>rfl
  |true=>
   rcases(a.g i).1 hg with h1|h1|h1
   .have:=(a.two i h1).2.2;omega
   .omega
   .have:=G.2.2.2.1;omega
 have aV:=a.mp;have bw:(∃eZ,dk ((u.map:Nat):Int) (D.now u.map)=.ok ⟨4,eZ,fe g ((D.n+7)/8)⟩)\/∃e,dk ((u.map:Nat):Int) (D.now u.map)=.error e:=by
  rcases dJ u.map Y with h1|h1
  .obtain⟨eZ,_,h2⟩:=aV
   exact .inl ⟨eZ,by rw[h1];exact h2⟩
  .exact .inr h1.2
 refine(oh bu o I G.2.2.2.1 aT bw).use ?_;rintro v aW ⟨bx,ae,H⟩;have cd:=O.size;have bz:ad (bG D) w ac:=cm aS O λq _ h=>h.elim;have aX:ad (bG D) w aW:=cm bz ae λq _ e=>aa q e;rcases H with ⟨sb,s1,s2,rfl,⟨eZ,bA⟩,fA,bB⟩|⟨e,rfl,he,ce,aY⟩
 rotate_left
 .refine⟨none,e,rfl,λ_=>⟨aX,.inr ⟨e,rfl,he,u.map,Y,?_⟩⟩,λhx=>absurd (by simpa using hx) he⟩
  rcases dJ u.map Y with h1|h1
  .obtain⟨eZ,_,h2⟩:=aV
   rw[h1,h2]at aY;cases aY
  .exact h1
 have a0:∀q,w.heap.size<=q->¬bG D q:=λq o hf=>by have:=h.lt hf;omega
 have aw:=bv.ab ae λe=>a0 _ (bo _) (aa _ e);have a4:=au.ab ae λe=>a0 _ I (aa _ e);have bD:D.now u.map=V u.map:=by
  rcases dJ u.map Y with h1|⟨_,e,h1⟩
  .exact h1
  .rw[bA]at h1;cases h1
 refine⟨_,0,rfl,λhx=>(by cases hx),λ_=>⟨_,aw.cell,_,by rw[ay];exact aw.cell,_,by rw[ay];exact aw.cell,gp a4 ?_⟩⟩;have bE:=lT bx (l:=l) (u:=u) (gen:=gen) ⟨by have:=K.1;omega,by have:=K.2.1;omega⟩ ⟨I,by have:=G.2.1;omega,I,by have:=G.2.2.1;omega,by have:=G.1;omega⟩ I (λj A=>by rw[aJ,aI j (by rw[←hs];exact A)]) sb;refine bE.use ?_;rintro _ Q ⟨c,aU,a_,st,B⟩;have bI:=B.val;subst bI;refine⟨_,0,rfl,λhx=>(by cases hx),λ_=>⟨_,by rw[ay];exact(a4.ext B.x).cell,?_⟩⟩;have cf:=ae.size;have cg:=B.x.size;have ch:=B.sv.lt;have ci:=B.hc;have cj:=B.hf;have co:=B.ht;obtain⟨P',ag⟩:∃P':Nat->aq aA,P'=λno=>if no∈aN then (if D.now no=V no then P no else none) else none:=⟨_,rfl⟩
 obtain⟨T,b⟩:∃T:aL,T=⟨a_,gen+1,u.root,u.aE,hK c aU l.aj D,sb,D.n,g,g,s1,s2,λq=>q=st\/c9 q,λ_=>False,P'⟩:=⟨_,rfl⟩;have R:∀q,cO (hK c aU l.aj D) q->q=c\/q=aU\/bG D q:=λq h=>h;have W:∀q,eY sb s1 s2 q->w.heap.size<=q/\q<aW.heap.size:=λq o=>⟨by have:=bB q o;omega,fA.lt q o⟩;have bK:∀q,T.X q->q=a_\/eY sb s1 s2 q\/q=st\/c9 q:=λq o=>by
  rw[b]at o;rcases o with h1|h1|h1|h1
  .exact .inl h1
  .exact .inr (.inl h1)
  .exact .inr (.inr h1)
  .exact h1.elim
 have ax:∀q,bG D q->q<w.heap.size:=λq o=>h.lt o;have a5:bH Q T:=by
  have a6:dD T.X Q (hK c aU l.aj D):=Bd B.ca λq o=>by
   rcases bK q o with h1|h1|h1|h1
   .refine⟨I,λhf=>?_⟩
    rcases R q hf with h2|h2|h2
    .omega
    .omega
    .have:=ax q h2;omega
   .have y:=W q h1
    refine⟨I,λhf=>?_⟩;rcases R q hf with h2|h2|h2
    .omega
    .omega
    .have:=ax q h2;omega
   .refine⟨I,λhf=>?_⟩
    rcases R q hf with h2|h2|h2
    .omega
    .omega
    .have:=ax q h2;omega
   .have y:=aK q h1
    refine⟨I,λhf=>?_⟩;rcases R q hf with h2|h2|h2
    .omega
    .omega
    .exact y.2 h2
  rw[b]at a6⊢;refine⟨B.dC,fA.ext B.x,a6,λhf=>by have:=W a_ hf;omega,λq o=>?_,λq o=>o.elim,rfl,⟨G.2.2.1,G.2.1,by show gen+1<_;omega⟩,λno bj z=>?_,λj A=>.inl (by rw[←hs];exact A),⟨(a.g 0).2 (.inr (.inl (by decide))),(a.g 1).2 (.inr (.inl (by decide)))⟩⟩
  .have o:q=st\/c9 q:=o
   rcases o with h1|h1
   .exact⟨by show q≠a_;omega,λhf=>by have:=W q hf;omega,λh=>h⟩
   .have y:=aK q h1
    exact⟨by show q≠a_;omega,λhf=>by have:=W q hf;omega,λh=>h⟩
  .have z:P' no=some bj:=z
   rw[ag]at z;dsimp only at z;by_cases h1:no∈aN
   .rw[if_pos h1]at z
    by_cases h2:D.now no=V no
    .rw[if_pos h2]at z
     refine⟨(a.two no h1).2.2,?_⟩;show gg (gen+1) bj.leaf no ((hK c aU l.aj D).view no) bj;rw[wx,h2];exact(a.dQ no h1 bj z).mono I
    .rw[if_neg h2]at z;cases z
   .rw[if_neg h1]at z;cases z
 obtain⟨S,r⟩:∃S:cn,S=⟨st,T,l,u,gen,u.clock,0,0,u.keys,false⟩:=⟨_,rfl⟩;have aC:Var Q S.st S.cells 158:=by
  rw[r];show Var Q st (gz T.a_ T.C.D.d T.C.c T.sb _ _ _ _ _ _ _ _) _;rw[b];exact B.sv
 have e1:S.T=T:=by rw[r]
 have aD:S.u=u:=by rw[r]
 have bL:fu (T.bg T.C P) aN aZ:=by
  rw[b];exact a.ok
 have a7:=A6 (S:=S) (fk:=P) (pages:=aN) (L:=aZ) (m:=((u.keys:Nat):Int)) aC (by rw[e1];exact a5) (by rw[r,b];exact .inl rfl) (by rw[e1];exact bL) (λx hx bj z=>?_) a.bj (λno=>by rw[e1,aD,b];exact a.g no) (λx hx=>by rw[aD];exact⟨(a.two x hx).1,(a.two x hx).2.1⟩) (by rw[e1,aD,b];exact⟨G.2.2.2.2.1,G.2.2.2.1⟩) bd be (by rw[e1,b];show D.aM<=_;omega)
 rotate_left
 .rw[e1,b]
  rcases dJ x ((a.g x).2 (.inl hx)) with h1|h1
  .left
   show P' x=some bj;rw[ag];dsimp only;rw[if_pos hx,if_pos h1];exact z
  .right
   obtain⟨_,e,h2⟩:=h1;exact⟨⟨(a.two x hx).2.2,(a.two x hx).1⟩,e,by show dk _ ((hK c aU l.aj D).view x)=_;rw[wx];exact h2⟩
 rw[show S.st=st by rw[r]]at a7;refine a7.use ?_;rintro v bM ⟨ao,bN,F,a8,H⟩;rw[e1]at F a8 H;have bO:ad (bG D) w Q:=cm aX B.x λq _ h=>h.elim;have bP:∀q,T.N q->bG D q\/w.heap.size<=q:=λq o=>by
  rw[b]at o;rcases o with h1|h1|h1|h1
  .rcases R q h1 with h2|h2|h2
   .exact .inr I
   .exact .inr I
   .exact .inl h2
  .have h1:q=a_:=h1
   exact .inr I
  .exact .inr (W q h1).1
  .exact h1.elim
 have a9:ad (bG D) w bM:=cm bO F.to.ab λq cp o=>(bP q o).resolve_right I;rcases H with ⟨rfl,cq,bQ⟩|⟨e,rfl,he,bR⟩
 .refine⟨0,rfl,λhx=>(by cases hx),λ_=>⟨a9,.inl ?_⟩⟩
  have ba:∀x∈aN,D.now x=V x:=λx hx=>by
   rcases dJ x ((a.g x).2 (.inl hx)) with h1|⟨_,e,h1⟩
   .exact h1
   .exfalso
    have J:=bQ x hx;rw[b]at J;have J:P' x=P x:=J;have aF:∃bj,P x=some bj:=by
     rcases a.ok with ⟨_,_,h2,_⟩|h2
     .rw[h2]at hx;cases hx
     .exact h2.node _ x hx
    obtain⟨bj,cT⟩:=aF;rw[cT,ag]at J;dsimp only at J;rw[if_pos hx]at J;by_cases h2:D.now x=V x
    .obtain⟨p,y,_⟩:=a.dQ x hx bj cT
     rw[h2,y]at h1;cases h1
    .rw[if_neg h2]at J;cases J
  have bS:∀j,g j=true->D.bc.getD j []=V j:=λj A=>by
   have bT:D.now j=D.bc.getD j []:=by rw[tW D (λx hx=>(h.wn x hx).1),if_pos (aI j A)]
   rw[←bT];rcases(a.g j).1 A with h1|h1|h1
   .exact ba j h1
   .rcases dR j 1 with h2|h2
    .rw[show j=0 from I];exact bm
    .rw[show j=1 from I];exact bn
   .rw[h1];exact bD
  have bU:∀x∈aN,P x=P' x:=λx hx=>by rw[ag];dsimp only;rw[if_pos hx,if_pos (ba x hx)]
  have bV:dK Q S aN aZ aN aZ:=by
   have hd:=a.agree bS bU;rw[r];refine⟨⟨by rw[r]at aC;exact aC,a5,by rw[b];exact .inl rfl,by rw[b];exact hd,by rw[b],⟨a.AW.clock,cN _,a.AX,by show gen+2<_;omega,?_,?_,?_⟩,λj A=>?_⟩,?_,a.bj,by rw[b];exact a.g,λx hx=>⟨(a.two x hx).1,(a.two x hx).2.1⟩,a.jL,a.keys,cN _,λ_=>⟨?_,by rw[b];exact aJ,?_⟩,λhf=>(by cases hf)⟩
   .have:=K.2.2.2.1;show l.batch<=1000;omega
   .have:=K.2.2.2.2.2;show l.gk<=1048576;omega
   .have:=K.2.2.1;show 1<=l.batch;omega
   .have A:T.g j=true:=A
    show T.C.D.bC j=true;rw[b]at A⊢;show D.bC j=true;rw[hs];exact A
   .have h1:=hd.ok
    rw[b];exact h1
   .intro e
    have h1:=e D.n;have h2:T.C.D.bC=g:=by rw[b];exact hs
    have h1:T.C.D.bC D.n=true:=h1;rw[h2,aT D.n (bo _)]at h1;cases h1
   .obtain⟨j,bW,bX⟩:=a.fr
    have h1:=qF (s:=λi=>g i||g i) (t:=c0 (λi=>g i||g i) j true) (k:=j) (by simp[bX]) (by simp[c0]) (λi hi=>by simp[c0,hi]) (n:=D.n) bW;have h2:=lk (c0 (λi=>g i||g i) j true) D.n;have y:b3 T=D.n-ep (λi=>g i||g i) D.n:=by rw[b];rfl
    show 1<=b3 T;omega
  obtain⟨a1,a2,a3⟩:=bV.to bN (by rw[e1];exact F.to) (by rw[e1];exact F.E) (by rw[e1];exact a8) ⟨by rw[e1];exact F.root,by rw[e1];exact F.aE,by rw[e1];exact F.f,λno _=>by rw[e1];exact⟨congrFun F.P no,F.view no⟩⟩;have bZ:S.T.C.D.quiet:=by rw[e1,b];exact o
  refine⟨S.bY ao,by rw[show(S.bY ao).st=st by rw[r];rfl],a1,by rw[r];rfl,by rw[r];rfl,by rw[r];rfl,by rw[r];rfl,by rw[r];rfl,by rw[r];rfl,?_,?_,a2.q bZ,?_,λq b0=>?_,λq=>?_,?_⟩
  .rw[a2.d,e1,b];rfl
  .rw[a2.n,e1,b]
  .have h1:=a2.aM
   have h2:S.T.C.D.aM=D.aM:=by rw[e1,b];rfl
   omega
  .have h1:=F.to.cS q b0
   rcases h1 with h1|h1
   .rw[b]at h1
    rcases h1 with h1|h1|h1|h1|h1
    .rcases R q h1 with h2|h2|h2
     .exact .inr (.inr I)
     .exact .inr (.inr I)
     .exact .inl h2
    .have h1:q=a_:=h1
     exact .inr (.inr I)
    .exact .inr (.inr (W q h1).1)
    .have h1:q=st\/c9 q:=h1
     rcases h1 with h1|h1
     .exact .inr (.inr I)
     .exact .inr (.inl h1)
    .exact h1.elim
   .exact .inr (.inr I)
  .show ao.E q↔q=(S.bY ao).st\/c9 q
   rw[F.E,b,r];rfl
  .show w.heap.size<=S.st
   rw[r];show w.heap.size<=st;omega
 .refine⟨e,rfl,λ_=>⟨a9,.inr ⟨e,rfl,he,?_⟩⟩,λhx=>absurd (by simpa using hx) he⟩
  rcases bR with h1|⟨x,hx,h1⟩|h1
  .rw[b]at h1
   exact absurd (o.1 _) h1
  .have bb:=(a.g x).2 (.inl hx)
   refine⟨x,bb,?_⟩;rcases dJ x bb with h2|h2
   .exfalso
    obtain⟨_,b1,y⟩:=h1;rw[b]at y;have y:dk ((x:Nat):Int) ((hK c aU l.aj D).view x)=.error b1:=y;rw[wx,h2]at y;have aF:∃bj,P x=some bj:=by
     rcases a.ok with ⟨_,_,aG,_⟩|aG
     .rw[aG]at hx;cases hx
     .exact aG.node _ x hx
    obtain⟨bj,cT⟩:=aF;obtain⟨p,b2,_⟩:=a.dQ x hx bj cT;rw[b2]at y;cases y
   .exact h2
  .exact absurd (by rw[a.keys]) h1
end
structure xk(D:aX)(l:fc)(c9:Nat->Prop)(k:Nat)(w w':J)(S:cn):Prop where
 live:S.failed=false
 j_:S.pending=0
 now:S.now=S.u.clock
 l:S.l=l
 d:S.T.C.D.d=D.d
 n:S.T.n=D.n
 q:S.T.C.D.quiet
 aM:S.T.C.D.aM<=D.aM+k
 M:∀q,S.T.M q->bG D q\/c9 q\/w.heap.size<=q
 E:∀q,S.T.E q↔q=S.st\/c9 q
 st:w.heap.size<=S.st
 ab:ad (bG D) w w'
section
variable {w w':J}{D:aX}{c9:Nat->Prop}
theorem Be{l:fc}(h:cl w D)(r:jJ (l.aj:Nat) (l.batch:Nat) (l.gk:Nat))(M:∀k,D.calm k)(oS:D.b6.getD 3 0= -1)(N:D.aM<=999999000)(y:∀q,c9 q->q<w.heap.size/\¬bG D q):
 aP ak 19 #[.pointer (some D.d),.agg l.c.toArray] w (λv w'=>∃S:cn,v=.tuple #[.pointer (some S.st),(0:Int)]/\dK w' S [] [] [] []/\xk D l c9 4 w w' S/\S.u=jq/\S.gen=1):=by
 have Z:=h.bJ;have O:=h.bp;refine(mN h r M oS N).mono ?_;rintro v w' ⟨aw,sb,s1,s2,c,aU,a_,st,ji,R⟩;obtain rfl:=R.AT.val;have hd:=R.oM;have B:=R.AT;have aa:=R.ab.size;have ac:=B.x.size;have ad:=B.hc;have ae:=B.hf;have af:=B.ht;have ag:=B.sv.lt;have A:∀j,aw.bc.getD j []=aw.now j:=λj=>by unfold aX.now;rw[hd.waits];rfl
 have m:∀q,cO (hK c aU l.aj aw) q->q=c\/q=aU\/bG aw q:=λq h=>h;have F:∀q,bG aw q->q<ji.heap.size:=λq b=>by
  rcases R.dq q b with h1|h1
  .have:=h.lt h1;omega
  .omega
 have P:aw.quiet:=⟨hd.calm,hd.b6⟩;obtain⟨T,a⟩:∃T:aL,T=⟨a_,1+1,0,0,hK c aU l.aj aw,sb,D.n,λi=>decide (i<3),λi=>decide (i<3),s1,s2,λq=>q=st\/c9 q,λ_=>False,λ_=>none⟩:=⟨_,rfl⟩;have Q:∀q,c9 q->q<w.heap.size/\¬bG aw q:=λq b=>⟨(y q b).1,λhf=>by
  rcases R.dq q hf with h1|h1
  .exact(y q b).2 h1
  .have:=(y q b).1;omega⟩
 have U:bH w' T:=by
  have G:dD T.X w' (hK c aU l.aj aw):=Bd B.ca λq b=>by
   rw[a]at b;rcases b with h1|h1|h1|h1
   .have h1:q=a_:=h1
    refine⟨I,λhf=>?_⟩;rcases m q hf with h2|h2|h2
    .omega
    .omega
    .have:=F q h2;omega
   .have z:=R.qK q h1
    refine⟨I,λhf=>?_⟩;rcases m q hf with h2|h2|h2
    .omega
    .omega
    .have ah:=B.ca.raw.dev
     exact R.FI q h1 h2
   .rcases(show q=st\/c9 q from h1) with h1|h1
    .refine⟨I,λhf=>?_⟩
     rcases m q hf with h2|h2|h2
     .omega
     .omega
     .have:=F q h2;omega
    .have z:=Q q h1
     refine⟨I,λhf=>?_⟩;rcases m q hf with h2|h2|h2
     .omega
     .omega
     .exact z.2 h2
   .exact h1.elim
  rw[a]at G⊢;refine⟨B.dC,R.sp,G,λhf=>by have:=R.qK a_ hf;omega,λq b=>?_,λq b=>b.elim,hd.n,⟨by show 0<D.n;omega,(by decide:0<=12),(by decide:1+1<18446744073709551616)⟩,λno bj E=>(by cases E),λj f=>.inl ?_,⟨rfl,rfl⟩⟩
  .rcases(show q=st\/c9 q from b) with h1|h1
   .exact⟨by show q≠a_;omega,λhf=>by have:=R.qK q hf;omega,λh=>h⟩
   .have z:=y q h1
    exact⟨by show q≠a_;omega,λhf=>by have:=R.qK q hf;omega,λh=>h⟩
  .have f:aw.bC j=true:=f
   rw[hd.bC]at f;exact f
 have H:jo jq D.n:=⟨Iff.intro (λ_=>rfl) (λ_=>rfl),by decide,by show 0<D.n;omega,by show 2<D.n;omega,by decide,O⟩;have J:mi jq:=⟨by decide,by decide,by decide,by decide,by decide,by decide⟩;have K:gA (λj=>aw.bc.getD j []) D.n 1 jq (λi=>decide (i<3)) (λ_=>none) [] []:=by
  refine⟨⟨3,I,rfl⟩,?_,.inl ?_,⟨1,bo _,?_⟩,λno=>?_,List.nodup_nil,λx hx=>(by cases hx),.inl ⟨rfl,rfl,rfl,rfl⟩,λx hx=>(by cases hx),rfl,λq b=>(by cases b),J,H,bo _⟩
  .show gn ((1:Nat):Int) (aw.bc.getD 1 [])=_
   rw[A,hd.now];exact AJ J H (by decide) (by decide)
  .show aw.bc.getD 0 []=fK
   rw[A,hd.now];rfl
  .show dk ((2:Nat):Int) (aw.bc.getD 2 [])=_
   rw[A,hd.now];exact tH I ⟨(by decide:1<=4),(by decide:4<=4),(by decide:1<18446744073709551616),by show(fe _ _).length<=232;rw[nw];omega⟩
  .show decide (no<3)=true↔no∈ []\/no<2\/no=2
   simp only[eE,false_or,cR];omega
 obtain⟨S,o⟩:∃S:cn,S=⟨st,T,l,jq,1,0,0,0,0,false⟩:=⟨_,rfl⟩;have V:1<=b3 T:=by
  have h1:=qF (s:=λi=>decide (i<3)||decide (i<3)) (t:=c0 (λi=>decide (i<3)||decide (i<3)) 3 true) (k:=3) (by simp) (by simp[c0]) (λi hi=>by simp[c0,hi]) (n:=D.n) I;have h2:=lk (c0 (λi=>decide (i<3)||decide (i<3)) 3 true) D.n;have z:b3 T=D.n-ep (λi=>decide (i<3)||decide (i<3)) D.n:=by rw[a];rfl
  omega
 refine⟨S,by rw[o],?_,?_,by rw[o],by rw[o]⟩
 .rw[o]
  refine⟨⟨?_,U,by rw[a];exact .inl rfl,by rw[a];exact K,by rw[a],⟨(by decide:0<18446744073709551616),bo _,bo _,(by decide:1+2<18446744073709551616),?_,?_,?_⟩,λj f=>?_⟩,.inl ?_,List.nodup_nil,?_,λx hx=>(by cases hx),λp E=>(by cases E),rfl,cN _,λ_=>⟨?_,by rw[a];exact hd.dS,V⟩,λhf=>(by cases hf)⟩
  .show Var w' st (gz T.a_ T.C.D.d T.C.c T.sb _ _ _ _ _ _ _ _) _
   rw[a];exact B.sv
  .have:=r.2.2.2.1;show l.batch<=1000;omega
  .have:=r.2.2.2.2.2;show l.gk<=1048576;omega
  .have:=r.2.2.1;show 1<=l.batch;omega
  .have f:T.g j=true:=f
   show T.C.D.bC j=true;rw[a]at f⊢;show aw.bC j=true;rw[hd.bC];exact f
  .rw[a];exact⟨rfl,rfl,rfl,rfl⟩
  .intro no
   have W:=K.g no;rw[a];exact W
  .intro e
   have h1:aw.bC 5=true:=by have:=e 5;rw[a]at this;exact this
   rw[hd.bC]at h1;cases h1
 .rw[o]
  refine⟨rfl,rfl,rfl,rfl,by rw[a];exact hd.d,by rw[a],by rw[a];exact P,by rw[a];show aw.aM<=_;rw[hd.aM];omega,λq L=>?_,λq=>by rw[a],by show w.heap.size<=st;omega,cm R.ab B.x λq _ h=>h.elim⟩;rw[a]at L;have Y:∀q,bG aw q->bG D q\/c9 q\/w.heap.size<=q:=λq b=>by
   rcases R.dq q b with h1|h1
   .exact .inl h1
   .exact .inr (.inr h1.1)
  rcases L with h1|h1|h1|h1|h1
  .rcases m q h1 with h2|h2|h2
   .exact .inr (.inr I)
   .exact .inr (.inr I)
   .exact Y q h2
  .have h1:q=a_:=h1
   exact .inr (.inr I)
  .exact .inr (.inr (R.qK q h1).1)
  .rcases(show q=st\/c9 q from h1) with h1|h1
   .exact .inr (.inr I)
   .exact .inr (.inl h1)
  .exact h1.elim
end
theorem Gm{i n m:Nat}{a:Nat}(b:n=a)(h:(decide ((i:Int)<(n:Int))&&decide ((i:Int)<(m:Int)))=true):i<a/\i<m:=by
 rw[dT,cR,cR]at h;omega
theorem Gn{i:Nat}(h:i<=1000000):IntKind.wrap .i64 ((i:Int)+1)=((i+1:Nat):Int):=by rw[bu I I];omega
section
variable {w0 w w':J}{um ef:Nat}{T ao:aL}{r h k c:Nat}{pages aN:O Nat}{L jK aZ:O aR}{V:Nat->cL}{ms l:Y}{A:O g6}
theorem Gp{kind n:Int}{b sv:Y}:∀v∈ [Value.int .i64 kind,b,sv,n],Plain v:=by
 intro v a;simp only[cP,eE,eL]at a;rcases a with rfl|rfl|rfl|rfl<;>trivial
end
section
variable {w0 w w':J}{um ef:Nat}{T ao:aL}{r h k c:Nat}{pages aN:O Nat}{L jK aZ:O aR}{V:Nat->cL}{ms l:Y}{A:O g6}
theorem Gq(w:J):Src 1 w bn (aF []):=(a7.none 1 5 w).src
end
theorem Bf:∀ {a b:O Nat},a.Nodup->(∀x∈a,x∈b)->a.length<=b.length
 | [],_,_,_=>cN _
 |x::a,b,d,hs=>by
  obtain⟨h1,h2⟩:=List.nodup_cons.1 d
  have hx:=hs x (by simp)
  have:=Bf (a:=a) (b:=b.erase x) h2 λy c=>(List.mem_erase_of_ne (λe=>h1 (by rw[←e];exact c))).2 (hs y (iV _ c))
  rw[List.length_erase_of_mem hx]at this
  have:=List.length_pos_of_mem hx
  rw[fy];omega
theorem Gr{t:Nat->ai}{l:O Nat}(n:Nat)(h:∀i,i<n->t i=true->i∈l):ep t n<=l.length:=by
 have h1:∀n,ep t n=((List.range n).filter t).length:=by
  intro n
  induction n with
  |zero=>rfl
  |succ n a=>
   rw[List.range_succ,kj,cF,ep,a,q5,List.filter_nil]
   cases t n<;>rfl
 rw[h1];refine Bf (List.nodup_range.filter t) λx hx=>?_;rw[gI,iA]at hx;exact h x hx.1 hx.2
section
variable {V:Nat->cL}{n gen:Nat}{u:cM}{g:Nat->ai}{P:Nat->aq aA}{aN:O Nat}{aZ:O aR}
theorem gA.sound(h:gA V n gen u g P aN aZ){j:Nat}(b:g j=true):V j=fK\/∃p,dk (j:Int) (V j)=.ok p:=by
 rcases(h.g j).1 b with h1|h1|h1
 .right
  have c:∃bj,P j=some bj:=by
   rcases h.ok with ⟨_,_,h2,_⟩|h2
   .rw[h2]at h1;cases h1
   .exact h2.node _ j h1
  obtain⟨bj,cT⟩:=c;obtain⟨p,a,_⟩:=h.dQ j h1 bj cT;exact⟨p,a⟩
 .by_cases e:j=gen%2
  .right
   rw[e];obtain⟨p,a⟩:=xj h.uq;exact⟨p,a⟩
  .have e:j=1-gen%2:=by omega
   rcases h.xd with h2|⟨d,g',h2,_⟩
   .left;rw[e];exact h2
   .right
    rw[e];obtain⟨p,a⟩:=xj h2;exact⟨p,a⟩
 .right
  rw[h1];obtain⟨_,_,h2⟩:=h.mp;exact⟨_,h2⟩
theorem gA.low(h:gA V n gen u g P aN aZ):aN.length<=aZ.length:=by
 rcases h.ok with ⟨_,_,h2,_⟩|h2
 .rw[h2];exact cN _
 .exact h2.pages.1
theorem Gs{w:J}{D:aX}{l:fc}{c9:Nat->Prop}(h:cl w D)(o:D.quiet)(B:D.aM<=700000000)(f:D.waits=[])(r:jJ (l.aj:Nat) (l.batch:Nat) (l.gk:Nat))(b:gA V D.n gen u g P aN aZ)(dJ:∀j,g j=true->D.bc.getD j []=V j)(s:gen<=1000000000)(t:aZ.length<=4000)(x:∀q,c9 q->q<w.heap.size/\¬bG D q):
 aP ak 41 #[.pointer (some D.d),.agg l.c.toArray] w (λv w'=>∃S:cn,v=.tuple #[.pointer (some S.st),(0:Int)]/\dK w' S aN aZ aN aZ/\xk D l c9 9000 w w' S/\S.u=u/\S.gen=gen):=by
 have y:∀j,D.c_ j=[]:=λj=>by unfold aX.c_;rw[f];rfl
 have i:∀j,D.now j=D.bc.getD j []:=λj=>by unfold aX.now;rw[f];rfl
 have C:=b.low;refine(oc (D:=D.fB g λ_=> []) (c9:=c9) (h.fB _ _) o (by show D.aM<=_;omega) (λj _=>y j) r b (λj a=>.inl ((i j).trans (dJ j a))) rfl rfl s t I x).mono ?_;rintro v w' ⟨hc,⟨S,rfl,z,a1,a2,a3,a4,a5,de,dN,dY,a9,eU,ez,dd,er⟩|⟨e,rfl,he,j,a,k,E,m⟩⟩
 .exact⟨S,rfl,z,⟨a1,a5,by rw[a4,a2],de,dN,dY,a9,eU,ez,dd,er,hc⟩,a2,a3⟩
 .exfalso
  have A:(D.fB g λ_=> []).now j=V j:=(i j).trans (dJ j a);rw[A]at k m;rcases b.sound a with h1|⟨p,h1⟩
  .exact k (by rw[h1];decide+kernel)
  .rw[m]at h1;cases h1
end
theorem Gt{a:(ai->J->Prop)->Prop}{rest:ai->J->Prop}{w0:J}{b:ai}(c:ai)(h1:b=true->∀k:ai->J->Prop,(∀w',Ext w0 w'->k c w')->a k)(h2:∀w',Ext w0 w'->rest (b&&c) w'):
 bL (λk=>(b=true->a k)/\(b=false->k false w0)) rest:=
 ⟨⟨λh=>h1 h rest (λw' hx=>by have:=h2 w' hx;rwa[h,iz]at this),λh=>by have:=h2 w0 (.refl _ _);rwa[h,kP]at this⟩⟩
theorem k5{b d:Nat}(k:b<256)(hd:d<256)(w:J):aP ak 20 #[.int .u8 (b:Nat),.int .u8 (d:Nat)] w (λv w'=>v=.agg (fc.c ⟨8,1+b%12,1+d%12⟩).toArray/\Ext w w'):=by
 refine af.CE _ _ w _ ?_;(delta af.k5 U au r1 bF;dsimp only);have g:IntKind.wrap .i64 (1+IntKind.wrap .i64 (Int.tmod (b:Int) 12))=((1+b%12:Nat):Int):=by
  rw[nJ I,bu (n:=(b:Int)%12) I I,bu I I];omega
 have h:IntKind.wrap .u64 (1+IntKind.wrap .u64 (Int.tmod (d:Int) 12))=((1+d%12:Nat):Int):=by
  rw[nJ I,gJ (n:=(d:Int)%12) I I,gJ I I];omega
 rw[g,h];refine bl (vs:=[(0:Int),(0:Int),.int .u64 0]) rfl λw1 e i l=>⟨by decide,by decide,e.b2 rfl (λv f=>?_),rfl,cp e (us:=fc.c ⟨8,1+b%12,1+d%12⟩) rfl rfl λah a j m=>⟨_,a.cell,_,by rw[ay];exact a.cell,_,by rw[ay];exact a.cell,rfl,Ext.ck i j (bo _)⟩⟩;simp only[cP,eE,eL]at f;rcases f with rfl|rfl|rfl<;>trivial
structure fW(w0 w:J)(c9:Nat->Prop)(d n:Nat)(l:fc)(S:cn)(pages:O Nat)(L:O aR)(aN:O Nat)(aZ:O aR)(c:Nat):Prop where
 x:Ext w0 w
 at_:dK w S pages L aN aZ
 E:∀q,S.T.E q↔q=S.st\/c9 q
 ne:¬c9 S.st
 qQ:∀q,S.T.M q->w0.heap.size<=q
 lim:S.l=l
 d:S.T.C.D.d=d
 n:S.T.n=n
 aM:S.T.C.D.aM<=20000*(c+1)
 fH:L.length<=c/\aZ.length<=c
 gen:S.gen<=c+1
 uw:S.pending<=c
section
variable {w0 w w':J}{c9:Nat->Prop}{d n ef k c:Nat}{l:fc}{S aJ:cn}{pages aN:O Nat}{L aZ:O aR}{m:mg}
theorem fW.Bg(h:fW w0 w c9 d n l S pages L aN aZ c){q:Nat}(a:c9 q):S.T.E q/\q≠S.st:=⟨(h.E q).2 (.inr a),λe=>h.ne (e▸a)⟩
theorem fW.low(h:fW w0 w c9 d n l S pages L aN aZ c)(hc:c<=4000):pages.length<=L.length:=(h.at_.ok.low (by have:=h.fH.1;omega)).2
theorem fW.ext(h:fW w0 w c9 d n l S pages L aN aZ c)(hx:Ext w w'):fW w0 w' c9 d n l S pages L aN aZ c:={h with x:=h.x.trans hx,at_:=h.at_.ext hx}
theorem fW.mono{e:Nat}(h:fW w0 w c9 d n l S pages L aN aZ c)(he:c<=e):fW w0 w c9 d n l S pages L aN aZ e:={h with aM:=by have:=h.aM;omega,fH:=⟨by have:=h.fH.1;omega,by have:=h.fH.2;omega⟩,gen:=by have:=h.gen;omega,uw:=by have:=h.uw;omega}
theorem fW.step{fV jM:O Nat}{jK ix:O aR}(h:fW w0 w c9 d n l S pages L aN aZ c)(hs:dK w' aJ fV jK jM ix)(hd:dy k S aJ w w')(b:k<=20000)(hf:jK.length<=c+1/\ix.length<=c+1)(hg:aJ.gen<=S.gen+1)(e:aJ.pending<=S.pending+1):fW w0 w' c9 d n l aJ fV jK jM ix (c+1):=
 ⟨Ext.dc h.x hd.ab λq a=>h.qQ q a.1,hs,λq=>by rw[hd.E,hd.st];exact h.E q,by rw[hd.st];exact h.ne,λq a=>by
  rcases hd.cS q a with h1|h1
  .exact h.qQ q h1
  .have:=h.x.size;omega,hd.l.trans h.lim,hd.d.trans h.d,hd.n.trans h.n,by have:=hd.aM;have:=h.aM;omega,hf,by have:=h.gen;omega,by have:=h.uw;omega⟩
end
section
variable {w0 w w' w1 ah:J}{c9:Nat->Prop}{d n ef k c:Nat}{l:fc}{S aJ:cn}{pages fV aN jM:O Nat}{L jK aZ ix:O aR}{m:mg}{v:aa}
theorem iv.pc{c:Prop}(h:iv c S aJ pages L aN aZ v w')(a:S.T.C.D.quiet):v=.int .i64 0/\c/\dK w' aJ pages L pages L/\aJ.failed=false/\aJ.gen=S.gen+1/\aJ.u.clock=S.now/\aJ.u.db=S.u.db+1/\aJ.pending=0:=by
 rcases h with h|⟨_,h,_⟩
 .exact h
 .exact absurd a h
end
section
variable {w0 w w' w1 ah:J}{c9 bV:Nat->Prop}{d n ef k c i:Nat}{l:fc}{S aJ:cn}{pages fV aN jM bB:O Nat}{L jK aZ ix bq:O aR}{m:mg}{v:aa}{aw:aX}{ls:Y}
theorem dK.bc(h:dK w S pages L aN aZ)(a:S.failed=false)(b:xi S.T.C.D aw):∀j,S.T.g j=true->aw.bc.getD j []=S.V j:=λj c=>by
 rcases b.bc j with h1|h1
 .exact h1
 .have h2:=h.t.ca.inv.j6 j (h.bC j c)
  rw[(h.live a).2.1]at h2
  rw[h2]at h1;cases h1
theorem fW.found{V:Nat->cL}{gen:Nat}{u:cM}{g:Nat->ai}{P:Nat->aq aA}(h:fW w0 w c9 d n l S pages L aN aZ c)(hd:cl w1 aw)(e:xi S.T.C.D aw)(i:ad (bG S.T.C.D) w w1)(G:gA V n gen u g P bB bq)(dJ:∀j,g j=true->aw.bc.getD j []=V j)(H:jJ (l.aj:Nat) (l.batch:Nat) (l.gk:Nat))(O:gen<=S.gen+1)(hc:c<=3000)(r:bq.length<=c+1):
 aP ak 41 #[.pointer (some d),.agg l.c.toArray] w1 (λv ah=>∃cI:cn,v=.tuple #[.pointer (some cI.st),(0:Int)]/\fW w0 ah c9 d n l cI bB bq bB bq (c+1)/\cI.failed=false/\cI.T.C.D.quiet/\cI.u=u/\cI.gen=gen/\cI.pending=0/\cI.now=u.clock/\
  ∀ef m,c9 ef->mh (λq=>¬S.T.M q) w ef m->mh (λq=>¬cI.T.M q) ah ef m):=by
 have Q:=h.aM;have R:=h.gen;have s:aw.n=n:=e.n.trans (h.at_.t.n.trans h.n);have U:=i.size;have k:∀q,bG aw q->S.T.M q:=λq a=>.inl (.inr (.inr (e.cS q a)));have o:∀q,c9 q->S.T.M q:=λq a=>.inr (.inr (.inr (.inl (h.Bg a).1)));have p:∀q,c9 q->¬bG S.T.C.D q:=λq a hf=>h.at_.t.iM (h.Bg a).1 (.inl (.inr (.inr hf)));have y:=Gs (l:=l) (c9:=c9) hd e.q (by rw[e.aM];omega) e.waits H (by rw[s];exact G) dJ I I λq a=>⟨by have:=h.at_.t.lt (o q a);omega,λhf=>p q a (e.cS q hf)⟩;rw[e.d,h.d]at y;refine y.mono ?_;rintro v ah ⟨cI,rfl,J,b,hu,hg⟩;have z:Ext w0 w1:=Ext.dc h.x i λq a=>h.qQ q (.inl (.inr (.inr a)));have K:Ext w0 ah:=Ext.dc z b.ab λq a=>h.qQ q (k q a);have A:∀q,cI.T.M q->S.T.M q\/w1.heap.size<=q:=λq a=>by
  rcases b.M q a with h1|h1|h1
  .exact .inl (k q h1)
  .exact .inl (o q h1)
  .exact .inr h1
 refine⟨cI,rfl,⟨K,J,b.E,λhs=>?_,λq a=>?_,b.l,b.d.trans (e.d.trans h.d),b.n.trans s,?_,⟨r,r⟩,I,by rw[b.j_];omega⟩,b.live,b.q,hu,hg,b.j_,by rw[b.now,hu],λef m he N=>?_⟩
 .have:=h.at_.t.lt (o _ hs)
  have:=b.st;omega
 .rcases A q a with h1|h1
  .exact h.qQ q h1
  .have:=z.size;omega
 .have:=b.aM
  have:=e.aM;omega
 .have B:cI.T.M ef:=.inr (.inr (.inr (.inl ((b.E ef).2 (.inr he)))))
  have h1:=N.ab i (p ef he) λq a _ hf=>a (.inl (.inr (.inr hf)));have h2:=h1.aV (C:=λq=>¬S.T.M q/\¬cI.T.M q) (λq W F=>⟨F,λa=>by
   rcases A q a with f|f
   .exact F f
   .omega⟩) λf=>f.2 B
  exact(h2.ab b.ab (λhf=>p ef he (e.cS ef hf)) λq a _ hf=>a.1 (k q hf)).aV (λ_ _ h=>h.2) λh=>h B
end
section
variable {w0 w w' w1 ah:J}{c9 bV:Nat->Prop}{d n ef k c i:Nat}{l:fc}{S aJ:cn}{pages fV aN jM bB:O Nat}{L jK aZ ix bq:O aR}{m:mg}{v:aa}{aw:aX}{ls:Y}
theorem qR{q b k:Nat}(h:aC ⟨some b,k,k⟩ q):q=b:=by
 obtain⟨A,ar,rfl⟩:=h
 cases ar;rfl
theorem dK.room(h:dK w S pages L aN aZ):S.T.n<=b3 S.T+pages.length+aN.length+3:=by
 have h1:=Gr (t:=λi=>S.T.f i||S.T.g i) (l:=pages++aN++ [0,1,S.u.map]) S.T.n λi _ hi=>by
  simp only[ic]at hi;simp only[cH,cP,eE,eL];rcases hi with hi|hi
  .rcases(h.f i).1 hi with h2|h2|h2
   .exact .inl (.inl h2)
   .exact .inr I
   .exact .inr (.inr (.inr h2))
  .rcases(h.fx.g i).1 hi with h2|h2|h2
   .exact .inl (.inr h2)
   .exact .inr I
   .exact .inr (.inr (.inr h2))
 simp only[cF,fy,jQ]at h1;unfold b3;omega
theorem fW.new{D:aX}(hx:Ext w0 w)(e:dK w' S [] [] [] [])(a:xk D l c9 4 w w' S)(hu:S.u=jq)(hg:S.gen=1)(b:∀q,bG D q->w0.heap.size<=q)(c:∀q,c9 q->w0.heap.size<=q/\q<w.heap.size)(g:D.aM=0):fW w0 w' c9 D.d D.n l S [] [] [] [] 0:=
 ⟨Ext.dc hx a.ab b,e,a.E,λh=>by have:=(c _ h).2;have:=a.st;omega,λq f=>by
  rcases a.M q f with h1|h1|h1
  .exact b q h1
  .exact(c q h1).1
  .have:=hx.size;omega,a.l,a.d,a.n,by have:=a.aM;omega,⟨bo _,bo _⟩,I,by rw[a.j_];exact bo _⟩
theorem Gu(w:J):aP ak 26 #[] w (λv w'=>v=true/\Ext w w'):=by
 refine af.CF w _ ?_;(delta af.ql dj pZ al vh U aB aT lP;dsimp only);refine(mM (n:=40) I I w).use ?_;rintro _ w1 ⟨d,lb,mr,rfl,hd,Z,aa⟩;refine⟨_,0,rfl,(k5 (b:=9) (d:=9) I I w1).use ?_⟩;rintro _ aX ⟨rfl,F⟩;have r:jJ (((⟨8,1+9%12,1+9%12⟩:fc).aj:Nat):Int) (((⟨8,1+9%12,1+9%12⟩:fc).batch:Nat):Int) (((⟨8,1+9%12,1+9%12⟩:fc).gk:Nat):Int):=by unfold jJ;decide
 generalize G:(⟨8,1+9%12,1+9%12⟩:fc)=H at r;have ab:H.batch=10:=by rw[←G]
 have ac:=hd.ext F;refine⟨_,_,_,rfl,(Be (l:=H) (c9:=λ_=>False) ac r (λk=>⟨.inl rfl,.inl rfl⟩) rfl (by show 0<=999999000;omega) (λq h=>h.elim)).use ?_⟩;rintro _ s ⟨j,rfl,ae,f,hu,hg⟩;have u:=fW.new (w0:=w) (Z.trans F) ae f hu hg (λq a=>aa q a) (λq h=>h.elim) rfl;refine⟨_,0,rfl,λh=>(by cases h),λ_=>?_⟩;obtain⟨m,bN,bZ,ag,aZ⟩:=tL s [97];obtain⟨y,ah,ai,K,a0⟩:=tL m [49];have g:=u.ext (ag.trans K);have am:∀q,aC ⟨some s.heap.size,1,1⟩ q->q<y.heap.size/\¬j.T.M q:=λq a=>by
  have e:=qR a;exact⟨I,λc=>by have:=u.at_.t.lt c;omega⟩
 have an:∀q,aC ⟨some m.heap.size,1,1⟩ q->q<y.heap.size/\¬j.T.M q:=λq a=>by
  have e:=qR a;exact⟨I,λc=>by have:=u.at_.t.lt c;omega⟩
 have L:=f.q;refine aY ⟨⟨some s.heap.size,1,1⟩,m,bN,aY ⟨⟨some m.heap.size,1,1⟩,y,ah,(A4 (key:=[97]) (val:=[49]) g.at_ (by decide) (by rw[f.j_];decide) (by have:=g.aM;omega) (by rw[hg];decide) (bZ.ext K) am ai an).use ?_⟩⟩;rintro v a1 (⟨_,ao,_⟩|⟨_,⟨hf,_⟩|⟨_,a2,A,a3,⟨_,N,_⟩|⟨_,pages,c⟩⟩⟩)
 .exact absurd ⟨⟨by decide,by decide⟩,by decide⟩ ao
 .rw[f.live]at hf;cases hf
 .exfalso
  have h1:=g.at_.room;rw[g.n]at h1;have e:(ni 40 d lb mr).n=40:=by show(List.replicate 40 fK).length=40;rw[kS]
  have ap:j.T.aE=0:=by
   rcases g.at_.ok with ⟨h2,_⟩|h2
   .exact h2
   .have:=h2.pages.2.1;simp at this
  unfold gU at N;rw[e]at h1;rw[ap]at N;simp only[jQ]at h1;omega
 have aq:j.pending=0:=f.j_;rcases c with ⟨rfl,_,B,ar,au,a4,a5,_⟩|c
 rotate_left
 .have:=(c.pc L).2.1
  rw[f.l,ab,aq]at this;omega
 have av:gd [] [97] [49]=[(([97],[49]):aR)]:=by decide
 rw[av]at B;have O:=g.step B A I ⟨by decide,by decide⟩ I I;have ax:=A.q L;have P:=FY B (by decide) (by have:=O.aM;omega) (by rw[au,hg];decide);rw[A.st]at P;refine⟨0,rfl,P.use ?_⟩;rintro v Q (⟨hf,_⟩|⟨_,cI,ay,a6,hx⟩)
 .rw[ar]at hf;cases hf
 obtain⟨rfl,_,o,az,a7,_,_,a8⟩:=hx.pc ax;have p:=O.step o ay I ⟨by decide,by decide⟩ I I;have R:=Gc (l:=bn) (zs:=[]) o.t.ca.raw.dev (Gq Q) (λq a=>(gu q a).elim) (by decide) (λz aA=>(by cases aA)) (by have:=p.aM;omega);rw[p.d]at R;refine⟨0,rfl,R.use ?_⟩;rintro _ aF ⟨rfl,aw,aG,S,aH⟩;refine⟨rfl,(k5 (b:=9) (d:=9) I I aF).use ?_⟩;rintro _ aI ⟨rfl,V⟩;rw[G];have aJ:ad (bG cI.T.C.D) Q aI:=aH.trans (V.mono λ_ _ h=>h.elim);have W:=o.fx;rw[p.n]at W;refine⟨_,_,_,rfl,(p.found (aG.ext V) S aJ W (o.bc az S) r I (by decide) (by decide)).use ?_⟩;rintro _ X ⟨fa,rfl,Y,a9,aK,_⟩;obtain⟨aL,bJ,bp,aN,a_⟩:=tL X [97];have E:=Y.ext aN;refine⟨_,0,rfl,aY ⟨⟨some X.heap.size,1,1⟩,aL,bJ,(FZ (key:=[97]) E.at_ (by have:=E.aM;omega) bp λq a=>?_).use ?_⟩⟩
 .have e:=qR a
  exact⟨I,λc=>by have:=Y.at_.t.lt c;omega⟩
 rintro v aO ⟨aD,aQ,aS,_,_,_,_,aU⟩;have aV:=E.step aQ aS I ⟨by decide,by decide⟩ (by show fa.gen<=fa.gen+1;omega) (by show fa.pending<=fa.pending+1;omega);rcases aU with ⟨_,i⟩|⟨t,x,rfl,_,i,ht⟩|⟨_,_,i⟩
 .have aW:eV [(([97],[49]):aR)] [97]=none:=i ⟨by decide,by decide⟩
  exact absurd aW (by decide)
 .have e:eV [(([97],[49]):aR)] [97]=some [49]:=by decide
  rw[e]at i;obtain rfl:=Option.some.inj i;refine⟨t,true,0,rfl,ct (λb w'=>b=true/\aO=w') (λq a=>⟨λ_=>⟨_,_,vV ht.1,a _ _ ⟨?_,rfl⟩⟩,λh=>(by cases h)⟩) ?_⟩
  .exact beq_self_eq_true _
  .rintro _ _ ⟨rfl,rfl⟩
   exact⟨rfl,aV.x⟩
 .exact absurd (aK.1 30) i
end
def lu(b:Nat):Key:=[UInt8.ofNat b,1,2,3,4,5,6,7,8,9,10,11,12,13]
def jN(c:Nat)(L:O aR):Prop:=∀p∈L,∃b,b<c/\p.1=lu b
theorem jN.len{c:Nat}(hc:c<=40){L:O aR}(g:h3 L)(h:jN c L):L.length<=c:=by
 have h1:=uv c (l:=L.map λp=>(p.1.headD 0).toNat) ?_ ?_
 .rwa[dr]at h1
 .refine List.Pairwise.map _ (λ_ _ h=>h) (g.imp_of_mem λ{a b} i f d=>?_)
  obtain⟨x,hx,ex⟩:=h a i;obtain⟨y,m,j⟩:=h b f;intro e;rw[ex,j]at e d;have e:(UInt8.ofNat x).toNat=(UInt8.ofNat y).toNat:=e;simp only[pB]at e;have:x=y:=by omega
  rw[this]at d;exact absurd d (mY _)
 .intro x hx
  obtain⟨p,k,rfl⟩:=dU.1 hx;obtain⟨b,f,e⟩:=h p k;rw[e];show(UInt8.ofNat b).toNat<c;simp only[pB];omega
section
variable {w0 w w':J}{c9:Nat->Prop}{d n k c i:Nat}{l:fc}{S aJ:cn}{pages fV aN jM:O Nat}{L jK aZ ix:O aR}{v:aa}{ls:Y}{A:O g6}
theorem kJ.pc(h:kJ S aJ pages L aN aZ v w')(a:S.T.C.D.quiet):v=.int .i64 0/\aJ.failed=false/\aJ.gen<=S.gen+1/\aJ.pending<=S.pending+1/\∃jM ix,dK w' aJ pages L jM ix/\(ix=aZ\/ix=L):=by
 rcases h with ⟨rfl,_,hs,hf,hg,_,b,_⟩|h
 .exact⟨rfl,hf,I,I,aN,aZ,hs,.inl rfl⟩
 .obtain⟨rfl,_,hs,hf,hg,_,_,b⟩:=h.pc a
  exact⟨rfl,hf,I,I,pages,L,hs,.inr rfl⟩
theorem roomy{N:Nat}(h:dK w S pages L aN aZ)(a:N<=40)(b:S.T.n=4*N+64)(h1:L.length<=N)(h2:aZ.length<=N):gU S≠0:=by
 have c:=h.room;have d:=h.ok.low I;have e:=h.fx.low;unfold gU;omega
theorem Gv{a b:Nat}(b0:a<256)(bh:b<256)(ny:kc w ls A):
 aP ak 4 #[.int .u8 (a:Nat),.int .u8 (b:Nat),ls] w (λv w'=>v=true/\Ext w w'):=by
 have bi:=ny.len;refine okF (af.tt (a:Nat) (b:Nat) ls) az.tt func4 ?_;(delta af.tt dj au pZ al aI r1 ag yC rW U rU bW st aW aB aH;dsimp only);obtain⟨N,b1⟩:∃N,N=1+a%40:=⟨_,rfl⟩;have ar:1<=N/\N<=40:=by omega
 have bj:IntKind.wrap .i64 (1+(IntKind.wrap .i64 (Int.tmod (a:Int) 40)))=(N:Int):=by
  rw[nJ I,bu (n:=(a:Int)%40) I I,bu I I];omega
 have bm:IntKind.wrap .i64 ((IntKind.wrap .i64 (4*(N:Int)))+64)=((4*N+64:Nat):Int):=by
  rw[bu (n:=4*(N:Int)) I I,bu I I];omega
 have bn:IntKind.wrap .u8 (N:Int)=(N:Int):=by show(N:Int)%256=_;omega
 rw[bj,bm,bn];refine⟨by decide,(mM (n:=4*N+64) I I w).use ?_⟩;rintro _ w1 ⟨d,lb,mr,rfl,hd,bp,bq⟩;refine⟨_,0,rfl,(k5 (b:=b) (d:=1) bh I w1).use ?_⟩;rintro _ b3 ⟨rfl,aQ⟩;have aS:jJ (((⟨8,1+b%12,1+1%12⟩:fc).aj:Nat):Int) (((⟨8,1+b%12,1+1%12⟩:fc).batch:Nat):Int) (((⟨8,1+b%12,1+1%12⟩:fc).gk:Nat):Int):=by
  unfold jJ;have h1:b%12<12:=gB _ (by decide);show(8:Int)<=((8:Nat):Int)/\((8:Nat):Int)<=64/\(1:Int)<=((1+b%12:Nat):Int)/\((1+b%12:Nat):Int)<=1000/\(1:Int)<=((1+1%12:Nat):Int)/\((1+1%12:Nat):Int)<=1048576;omega
 generalize (⟨8,1+b%12,1+1%12⟩:fc)=K at aS;refine⟨_,_,_,rfl,(Be (l:=K) (c9:=λ_=>False) (hd.ext aQ) aS (λk=>⟨.inl rfl,.inl rfl⟩) rfl (by show 0<=999999000;omega) (λq h=>h.elim)).use ?_⟩;rintro _ b4 ⟨P,rfl,br,av,hu,hg⟩;have aU:=fW.new (w0:=w) (bp.trans aQ) br av hu hg (λq f=>bq q f) (λq h=>h.elim) rfl;have bs:(ni (4*N+64) d lb mr).n=4*N+64:=by show(List.replicate _ fK).length=_;rw[kS]
 rw[bs]at aU;refine⟨_,0,rfl,λh=>(by cases h),λ_=>⟨λn w'=>∃ (i:Nat) (S:cn) (pages aN:O Nat) (L aZ:O aR),n=(i:Int)/\i<=150/\i<=A.length/\S.st=P.st/\fW w w' (λ_=>False) d (4*N+64) K S pages L aN aZ i/\S.failed=false/\S.T.C.D.quiet/\jN N L/\jN N aZ,
  λn _=>((150:Int)-n).toNat,⟨0,P,[],[],[],[],rfl,I,cN _,rfl,aU,av.live,av.q,λp j=>(by cases j),λp j=>(by cases j)⟩,?_⟩⟩
 rintro _ aV ⟨i,S,pages,aN,L,aZ,rfl,hi,b5,s,g,hf,f,y,E⟩;have b6:=g.fH;have bt:=y.len ar.2 g.at_.ok.rising;have b7:=g.aM;have bv:=g.gen;have b8:=g.uw;refine⟨λaK=>?_,λbv=>?_⟩
 rotate_left
 .have b9:=g.low I
  have aX:=F2 g.at_ f I I I;rw[s]at aX;refine aX.use ?_;rintro _ bw ⟨rfl,ao,hs,r,he⟩;have bx:=g.step hs r I ⟨I,I⟩ (by rw[he.gen];omega) (by rw[he.pending];omega);refine⟨0,rfl,Gt true (λ_ k y=>(Gu bw).use λv w' h=>by obtain⟨rfl,hx⟩:=h;exact⟨_,rfl,y _ hx⟩) λca bz=>⟨rfl,bx.x.trans bz⟩⟩
 have bA:aZ.length<=N:=by
  have bB:h3 aZ:=by
   rcases g.at_.fx.ok with ⟨_,_,_,e⟩|bC
   .rw[e];exact List.Pairwise.nil
   .exact fu.rising (T:=(S.T.lq S.u.root S.u.aE)) (.inr bC)
  exact E.len ar.2 bB
 have a0:=roomy g.at_ ar.2 g.n bt bA;obtain⟨h1,h2⟩:=Gm (m:=150) bi aK;have bD:∀ (z:J),(∃ (S:cn) (pages aN:O Nat) (L aZ:O aR),S.st=P.st/\fW w z (λ_=>False) d (4*N+64) K S pages L aN aZ (i+1)/\S.failed=false/\S.T.C.D.quiet/\jN N L/\jN N aZ)->(∃ (ai:Nat) (S:cn) (pages aN:O Nat) (L aZ:O aR),IntKind.wrap .i64 ((i:Int)+1)=(ai:Int)/\ai<=150/\ai<=A.length/\S.st=P.st/\fW w z (λ_=>False) d (4*N+64) K S pages L aN aZ ai/\S.failed=false/\S.T.C.D.quiet/\jN N L/\jN N aZ)/\((150:Int)-IntKind.wrap .i64 ((i:Int)+1)).toNat<((150:Int)-(i:Int)).toNat:=λz ⟨S,pages,aN,L,aZ,h⟩=>by
  rw[Gn I];exact⟨⟨i+1,S,pages,aN,L,aZ,rfl,I,I,h⟩,I⟩
 refine jd (λz=>∃ (S:cn) (pages aN:O Nat) (L aZ:O aR),S.st=P.st/\fW w z (λ_=>False) d (4*N+64) K S pages L aN aZ (i+1)/\S.failed=false/\S.T.C.D.quiet/\jN N L/\jN N aZ) (λcb Q=>?_) λz h=>bD z h;obtain⟨a1,aw,a2,bI,aB,aT,aH⟩:=(ny.ext g.x).at h1;have am:=(ny.ok A[i] (cr h1)).ext g.x;refine⟨a1,aw,a2,_,bI,(A[i]).tk,aB,(A[i]).dC,aT,_,aH,(oI (A[i]).kind (A[i]).n am.k am.AU am.v am.lK).use ?_⟩;rintro _ R ⟨F,sv,rfl,ax,tk,dC⟩;refine⟨_,F,sv,_,rfl,bl (vs:=[(0:Int),(),(),(0:Int)]) rfl λcc a3 bE cd=>⟨a3.b2 rfl Gp,rfl,cp a3 (us:=[(A[i]).kind,F,sv,(A[i]).n]) rfl rfl λB G bF _=>?_⟩⟩;have V:Ext R B:=Ext.ck bE bF (bo _);have H:=g.ext (ax.trans V);have W:=bk.ext tk V;have bG:=bk.ext dC V;have aA:∀q,aV.heap.size<=q->¬S.T.M q:=λq f X=>by have:=g.at_.t.lt X;omega
 have ce:=ax.size;obtain⟨cf,an,_,d0,_⟩:=(ny.ext H.x).at h1;rw[aw]at an
 cases an;have hlen:(List.take 26 (A[i]).key).length<=26:=by rw[cC];omega
 refine⟨a1,aw,a2,_,d0,λbH=>?_,λbH=>?_⟩
 .have a4:=F0 (key:=(A[i]).key.take 26) H.at_ I I I I W.1 λq f=>⟨(W.2.2 q f).2,aA q (W.2.2 q f).1⟩
  rw[s]at a4;refine⟨F,by rw[ay];exact G.cell,a4.use ?_⟩;have bJ:=H.mono (Nat.le_succ i);rintro v cg (⟨rfl,_,rfl⟩|⟨_,⟨Y,_⟩|⟨_,aJ,r,bK,⟨rfl,_,hs,he,Z⟩|⟨_,_,aC,_⟩|⟨e,rfl,ch,_,fV,X⟩|⟨_,hx⟩⟩⟩)
  .exact⟨_,_,rfl,λh=>(by cases h),λ_=>Q _ ⟨S,pages,aN,L,aZ,s,bJ,hf,f,y,E⟩⟩
  .rw[hf]at Y;cases Y
  .exact⟨_,_,rfl,λh=>(by cases h),λ_=>Q _ ⟨aJ,pages,aN,L,aZ,r.st.trans s,H.step hs r I ⟨I,I⟩ (by rw[he.gen];omega) (by rw[he.pending];omega),Z,r.q f,y,E⟩⟩
  .exact absurd aC a0
  .obtain⟨he,Z,bL,bM,jM,ix,hs,aa⟩:=X.pc f
   obtain rfl:e=0:=by cases he;rfl
   have a5:jN N (eA L ((A[i]).key.take 26)):=λp j=>y p (gI.1 j).1;have bO:=qL (k:=(A[i]).key.take 26) g.at_.ok.rising;refine⟨_,_,rfl,λh=>(by cases h),λ_=>Q _ ⟨aJ,fV,jM,_,ix,r.st.trans s,H.step hs r I ⟨I,?_⟩ I I,Z,r.q f,a5,?_⟩⟩
   .rcases aa with rfl|rfl
    .omega
    .omega
   .rcases aa with rfl|rfl
    .exact E
    .exact a5
  .rcases hx True pages L with ⟨aD,_⟩|⟨_,aD,_⟩
   .cases aD
   .exact absurd f aD
 .have ci:=len8 W.1
  refine⟨F,by rw[ay];exact G.cell,λj=>?_,λj=>Q _ ⟨S,pages,aN,L,aZ,s,H.mono (Nat.le_succ i),hf,f,y,E⟩⟩;have j:(F.len:Int)>0:=b_ j;obtain⟨bP,an,bQ,a6⟩:=Fo W.1 (i:=0) I;obtain⟨x,hx⟩:∃x,x=((List.take 26 (A[i]).key)[0]'I).toNat:=⟨_,rfl⟩;rw[←hx]at a6;refine⟨F,by rw[ay];exact G.cell,bP,an,bQ,_,a6,I,?_⟩;have bR:Int.tmod (x:Int) (N:Int)=((x%N:Nat):Int):=by rw[nJ I];rfl
  have bS:x%N<N:=gB _ I;have bT: #[Value.int .u8 (Int.tmod (x:Int) (N:Int)),.int .u8 1,.int .u8 2,.int .u8 3,.int .u8 4,.int .u8 5,.int .u8 6,.int .u8 7,.int .u8 8,.int .u8 9,.int .u8 10,.int .u8 11,.int .u8 12,.int .u8 13]=(aF (lu (x%N))).toArray:=by
   rw[bR];have:((UInt8.ofNat (x%N)).toNat:Int)=((x%N:Nat):Int):=by simp only[pB];omega
   show _= #[Value.int .u8 ((UInt8.ofNat (x%N)).toNat:Int),_,_,_,_,_,_,_,_,_,_,_,_,_];rw[this];rfl
  rw[bT];refine bl (vs:=aF (lu (x%N))) rfl λa7 bU ap cj=>?_;have a8:=G.ext ap;obtain⟨bN,bZ⟩:=dB a8 (i:=1) (by show 1<4;decide);rw[w3,cE];refine⟨bN,bZ,aY (aY ?_)⟩;have a9:=dI a8 (i:=1) (.slice (some B.heap.size) 14 14);have ac:=dg a7 R.heap.size 1 (.slice (some B.heap.size) 14 14);generalize a7.setCell ⟨R.heap.size,1,none⟩ (.slice (some B.heap.size) 14 14)=ae at a9 ac;have ah:=cw ae;have aG:Ext aV ae.drew:=(Ext.ck ((ax.trans V).trans ap) ac I).trans ah;have a_:Src 1 ae.drew ⟨some B.heap.size,14,14⟩ (aF (lu (x%N))):=(((bU.vI (o:=0) (n:=14) (c:=14) (l:=lu (x%N)) (by rw[dA];exact bo _) (by rw[lG,dP (by rw[dA];exact bo _)])).ab ac λq f e=>by have:=qR f;have:=G.lt;omega).ext ah);have ba:Src 1 ae.drew sv (aF (List.take 26 (A[i]).val)):=((bG.1.ext ap).ab ac λq f e=>by have cl:=(dC.2.2 q f).2;omega).ext ah;have aL:=a9.ext ah;have bb:=g.ext aG;have cm:=ap.size;have co:=ac.size;have bV:=ah.size;have cq:=G.lt;generalize ae.drew=aO at aG a_ ba aL bb bV;refine⟨λq=>aO.heap.size<=q,by show¬aO.heap.size<=R.heap.size;omega,⟨some B.heap.size,14,14⟩,aL.cell,by rw[w3];show¬aO.heap.size<=R.heap.size;omega,sv,by rw[w3];exact aL.cell,(w2 ba dC.2.1 24 (by decide)).use ?_⟩;rintro _ cs ⟨bc,rfl,bd,aq,bX⟩;have be:=bb.ext aq;have ct:=aq.size;have cu:=V.size;have bf:=A4 (key:=lu (x%N)) (val:=(List.take 26 (A[i]).val).take 24) (tk:=⟨some B.heap.size,14,14⟩) (dC:=bc) be.at_ I I I I (a_.ext aq) (λq f=>by have e:=qR f;exact⟨I,aA q I⟩) bd.src λq f=>⟨bd.lt q f,aA q (by have:=bX q f;have:=aG.size;omega)⟩;rw[s]at bf;refine⟨bc,rfl,ad.cK aq,bf.use ?_⟩;rintro v cv (⟨_,bY,_⟩|⟨_,⟨Y,_⟩|⟨_,aJ,r,bK,⟨_,aC,_⟩|⟨_,fV,X⟩⟩⟩)
  .exact absurd ⟨⟨(by decide:1<=14),(by decide:14<=24)⟩,by rw[cC];omega⟩ bY
  .rw[hf]at Y;cases Y
  .exact absurd aC a0
  obtain⟨rfl,Z,bL,bM,jM,ix,hs,aa⟩:=X.pc f;have bg:jN N (gd L (lu (x%N)) ((List.take 26 (A[i]).val).take 24)):=λp j=>by
   rcases yO.1 j with rfl|⟨j,_⟩
   .exact⟨_,bS,rfl⟩
   .exact y p j
  have cx:=xf (lu (x%N)) ((List.take 26 (A[i]).val).take 24) L;have bO:=qL (k:=lu (x%N)) g.at_.ok.rising;refine⟨_,rfl,λh=>(by cases h),λ_=>Q _ ⟨aJ,fV,jM,_,ix,r.st.trans s,be.step hs r I ⟨I,?_⟩ I I,Z,r.q f,bg,?_⟩⟩
  .rcases aa with rfl|rfl
   .omega
   .omega
  .rcases aa with rfl|rfl
   .exact E
   .exact bg
end
end Go.Proofs.YtkdhdlfonmgheaaGreat
