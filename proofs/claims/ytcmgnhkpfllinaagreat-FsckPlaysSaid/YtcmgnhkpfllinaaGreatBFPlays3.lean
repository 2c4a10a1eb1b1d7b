/- Contracts of the functions that the statement reaches, and the plain laws over them; each theorem stands with its conditions. -/
import Derived.OpenShut
import Derived.Shelf.SlIterI.Nil
import Derived.Shelf.SortM.Plain
import Derived.Shelf.SortM.SortNone
import Derived.Test.YtcmgnhkpfllinaaGreatProg
import Derived.Test.YtcmgnhkpfllinaaGreatRows
import Derived.Test.YtcmgnhkpfllinaaGreatBFPlays2
namespace Go.Proofs.YtcmgnhkpfllinaaGreat
open Go aU Go.Proofs.Tryz
variable{w:J}{l:O UInt8}{zs:O Int}
theorem ID{b:U}{a8 a k:Nat}(f:Var w a8 [b,a] 290)(hs:Src 1 w b (aC l))(hc:b.len<=b.cap)(g:1<=k/\k<=8)(j:a+k<=l.length)(m:l.length<=1000):
 aI aj 191 #[.pointer (some a8),k] w (λv w'=>v=.int .u64 (ct l a k:Nat)/\Var w' a8 [b,.int .i64 ((a+k:Nat):Int)] 290/\aa (λq=>q=a8) w w'):=by
 refine ad.Ha _ (k:Nat) w _ ?_;(delta ad.tE b1 aE dC aJ gI r1 qX st ai aF;dsimp only);have d:=cc w;have c:=f.ext d;refine aH ⟨λ_=>False,_,rfl,id,b,c.cell,_,rfl,id,_,c.cell,(l1 (hs.ext d) hc g j I).use ?_⟩;rintro _ _ ⟨rfl,rfl⟩;obtain⟨bJ,b4⟩:=dT c (i:=1) U9;refine⟨_,true,rfl,_,rfl,_,c.cell,_,rfl,bJ,b4,aH ⟨rfl,?_,?_⟩⟩
 .rw[aw]
  have h1:=ei c (i:=1) (.int .i64 (IntKind.wrap .i64 ((a:Nat)+(k:Nat))));have e:IntKind.wrap .i64 ((a:Int)+(k:Int))=((a+k:Nat):Int):=by rw[bl I I];omega
  rw[e]at h1⊢;exact h1
 .rw[aw]
  exact cn (d.mono λ_ _ h=>h.elim) (dz _ _ _ _) λq _ e=>e
def Dt:Except Int (cD×Nat×Nat)->Y
 | .ok (u,n,g)=>.tuple #[.agg u.c.toArray,n,.int .u64 (g:Nat),U8]
 | .error e=>.tuple #[.agg cZ.c.toArray,U8,.int .u64 0,e]
theorem oK{no:Int}{e:Int}(h:cG no l=.error e):e≠0:=by
 unfold cG at h
 repeat' split at h
 all_goals first|(cases h;decide)|cases h
theorem pD{s:U}(hs:Src 1 w s (aC l))(hc:s.len<=s.cap)(aS:l.length<=1000)(no:Int):
 aI aj 136 #[.int .i64 no,.slice s.a s.len s.cap] w (λv w'=>v=Dt (eD no l)/\Ext w w'):=by
 refine okF (ad.pD no s) ay.pD func136 ?_;(delta ad.pD eo jR z4 bf ae aF af r1 aT bZ c0 av aJ y2 ed st ai b1 vz od;dsimp only);refine bg (vs:=cZ.c) rfl λw1 ak G bH=>(mG (hs.ext G) hc aS no).use ?_;rintro _ ah ⟨o,V⟩;obtain⟨ub,aU⟩:=U6 w.heap.size;rw[←aU]at ak⊢;have H:=ak.ext V
 cases A:cG no l with
 |error e=>
  rw[A]at o;have W:=oK A;have hd:eD no l=.error e:=by unfold eD;rw[A]
  rw[hd];obtain rfl:_=_:=o;refine⟨0,0,⟨none,0,0⟩,e,rfl,bg (vs:=[.int .i64 0,.int .u64 0,.slice none 0 0]) rfl λaV L al aW=>⟨L.cF rfl (λv M=>?_),rfl,c6 L (us:=[.int .i64 0,.int .u64 0,.slice none 0 0]) rfl rfl λB r am aX=>⟨λ_=>?_,λh=>?_⟩⟩⟩
  .simp only[cN,er,ez]at M
   rcases M with rfl|rfl|rfl<;>trivial
  .have t:Ext ah B:=Ext.bQ al am (a_ _)
   have i:=H.ext t;refine fe (u:=cZ) i (fQ i rfl cZ λC an aY bI=>fe (u:=cZ) an ⟨rfl,?_⟩);exact Ext.bQ (Ext.trans (Ext.trans G V) t) aY I
  .simp at h;exact absurd h W
 |ok p=>
  rw[A]at o;obtain⟨sb,rfl,X,aZ⟩:=o;refine⟨_,_,sb,0,rfl,bg (vs:=[.int .i64 0,.int .u64 0,.slice none 0 0]) rfl λaV L al aW=>⟨L.cF rfl (λv M=>?_),rfl,c6 L (us:=[.int .i64 (p.kind:Nat),.int .u64 (p.gen:Nat),.slice sb.a sb.len sb.cap]) rfl rfl λB r am aX=>⟨λh=>(by simp at h),λ_=>⟨_,r.cell,?_⟩⟩⟩⟩
  .simp only[cN,er,ez]at M
   rcases M with rfl|rfl|rfl<;>trivial
  have t:Ext ah B:=Ext.bQ al am (a_ _);have ap:=Ext.trans (Ext.trans G V) t;obtain⟨N,a0⟩:=U6 ah.heap.size;rw[←a0]at r⊢;have i:=H.ext t;have a1:sb.len=p.body.length:=by have:=X.1;rw[dO]at this;omega
  have bK:=(Ext.trans G V).size;have a2:p.kind≠3\/p.body.length≠33->eD no l=.error 4:=λh=>by
   unfold eD;rw[A];exact if_pos h
  refine cx (λb w'=>b=decide (p.kind≠3\/p.body.length≠33)/\B=w') (λq d=>⟨λh=>d _ _ ⟨?_,rfl⟩,λh=>⟨sb,by rw[aw];exact r.cell,d _ _ ⟨?_,rfl⟩⟩⟩) ?_
  .have:p.kind≠3:=λe=>by rw[e]at h;simp at h
   rw[dm (.inl this)]
  .have a3:p.kind=3:=by
    have:((p.kind:Nat):Int)=3:=by simpa using h
    omega
   rw[a1,ek,cq];constructor
   .intro P
    refine .inr λe=>?_;rw[e]at P;simp at P
   .rintro(P|P)
    .exact absurd a3 P
    .rw[bne_iff_ne];omega
  rintro _ _ ⟨rfl,rfl⟩;have aK:∀ {C:J}{vs:O Y},Var C ub vs 90->vs.length=6->Ext w C->(eD no l=.error 4)->c5 C ⟨ub,0,none⟩ [.int .i64 0,.int .i64 0,.int .i64 0,.int .u64 0,.int .u64 0,.int .i64 0]/\(6:Nat)=6/\au (setCells C ⟨ub,0,none⟩ 0 [.int .i64 0,.int .i64 0,.int .i64 0,.int .u64 0,.int .u64 0,.int .i64 0]) λm=>
   ∃bL:Int,m.cell? ⟨ub,0,none⟩=some (.int .i64 bL)/\∃bz:Int,m.cell? (Addr.add ⟨ub,0,none⟩ 1)=some (.int .i64 bz)/\∃aL:Int,m.cell? (Addr.add ⟨ub,0,none⟩ 2)=some (.int .i64 aL)/\
   ∃aM:Int,m.cell? (Addr.add ⟨ub,0,none⟩ 3)=some (.int .u64 aM)/\∃n5:Int,m.cell? (Addr.add ⟨ub,0,none⟩ 4)=some (.int .u64 n5)/\∃n6:Int,m.cell? (Addr.add ⟨ub,0,none⟩ 5)=some (.int .i64 n6)/\
   (Value.tuple #[.agg #[.int .i64 bL,.int .i64 bz,.int .i64 aL,.int .u64 aM,.int .u64 n5,.int .i64 n6],.int .i64 0,.int .u64 0,.int .i64 4]=Dt (eD no l)/\Ext w m):=by
   intro C vs an a4 a5 hd;rw[hd];exact fQ an a4 cZ λm a6 a7 bM=>fe (u:=cZ) a6 ⟨rfl,Ext.bQ a5 a7 I⟩
  refine⟨λh=>?_,λh=>?_⟩
  .exact fe (u:=cZ) i (aK i rfl ap (a2 (bB h)))
  have aq:=bT h;have bN:p.kind=3:=nQ λh=>aq (.inl h);have bO:p.body.length=33:=nQ λh=>aq (.inr h);have a9:=(X.ext t).src;have ba:sb.len<=sb.cap:=X.2.1;have aN:∀q,ar sb q->q<B:=(X.ext t).lt;refine⟨sb,by rw[aw];exact r.cell,bg (vs:=[.slice sb.a sb.len sb.cap,.int .i64 ((0:Nat):Int)]) rfl λbb aO Z bP=>?_⟩;obtain⟨a8,bc⟩:=U6 B.heap.size;rw[←bc]at aO aN⊢;have W:a8≠ub:=by have:=i.lt;omega
  have bd:a8≠N:=by have:=r.lt;omega
  have be:=a9.ext Z;have bh:=i.ext Z;have bi:=r.ext Z;have bj:=Ext.trans ap Z;have bk:w<=a8:=by have:=ap.size;omega
  obtain⟨db,D⟩:=U6 (λw' vs a=>Var w' a8 [.slice sb.a sb.len sb.cap,.int .i64 ((a:Nat):Int)] 290/\Src 1 w' sb (aC p.body)/\Var w' ub vs 90/\Var w' N [.int .i64 (p.kind:Nat),.int .u64 (p.gen:Nat),.slice sb.a sb.len sb.cap] 137/\Ext w w':J->O Y->U1);have bm:∀q,ar sb q->q≠ub:=λq d e=>by
   have:=aZ q d;have:=H.lt;have:=G.size;have:=ak.lt;omega
  have y:∀ {w':J}{vs:O Y}{a k:Nat}{R:Ending->U2},db w' vs a->1<=k/\k<=8->a+k<=33->(∀f,db f vs (a+k)->R (.returned (.int .u64 (ct p.body a k:Nat))) f)->Calls aj 191 #[.pointer (some ⟨a8,0,none⟩),.int .i64 (k:Nat)] w' R:=by
   intro w' vs a k R z ax bR bn;rw[D]at z;obtain⟨bJ,b4,Q,az,aA⟩:=z;refine(ID bJ b4 ba ax I I).use ?_;rintro _ f ⟨rfl,ao,aa⟩;refine bn f ?_;rw[D];exact⟨ao,b4.ab aa λq d e=>by have:=aN q d;omega,Q.ab aa (λe=>W e.symm),az.ab aa (λe=>bd e.symm),Ext.bQ aA aa bk⟩
  have j9:∀ {w':J}{vs:O Y}{a:Nat} (j:Nat) (v:Y) {K:U2},db w' vs a->j<vs.length->(∀f,db f (vs.set j v) a->K f)->(∃u:Y,w'.cell? ⟨ub,j,none⟩=some u)/\w'.frozen? ⟨ub,j,none⟩=false/\au (w'.setCell ⟨ub,j,none⟩ v) K:=by
   intro w' vs a j v K z ac aB;rw[D]at z;obtain⟨bJ,b4,Q,az,aA⟩:=z;have hc:=dz w' ub j v;refine⟨(dT Q ac).1,(dT Q ac).2,aH (aB _ ?_)⟩;rw[D];exact⟨bJ.ab hc W,b4.ab hc bm,ei Q v,az.ab hc (λe=>by have:=i.lt;have:=H.lt;omega),Ext.bQ aA hc I⟩
  have S:∀ {w':J}{vs:O Y}{a:Nat} (j:Nat) (v:Y) {K:U2},db w' vs a->j<vs.length->(∀f,db f (vs.set j v) a->K f)->(∃u:Y,w'.cell? (Addr.add ⟨ub,0,none⟩ j)=some u)/\w'.frozen? (Addr.add ⟨ub,0,none⟩ j)=false/\au (w'.setCell (Addr.add ⟨ub,0,none⟩ j) v) K:=by
   intro w' vs a j v K z ac aB;rw[aw,cT];exact j9 j v z ac aB
  have bo:db bb cZ.c 0:=by rw[D];exact⟨aO,be,bh,bi,bj⟩
  have ag:∀a,a+4<=33->ct p.body a 4<4294967296:=λa bp=>nu 4 _ (by rw[cQ,dW];omega);have bq:ct p.body 4 1<256:=nu 1 _ (by rw[cQ,dW];omega);have bS:∀a,a+8<=33->ct p.body a 8<18446744073709551616:=λa bp=>nu 8 _ (by rw[cQ,dW];omega);have T:∀ {x:Nat},x<4294967296->IntKind.wrap .i64 ((x:Nat):Int)=((x:Nat):Int):=λhx=>bl I I;refine y (k:=4) bo (by decide) (by decide) λbU t43=>⟨_,rfl,y (k:=1) t43 (by decide) (by decide) λbV t46=>⟨_,rfl,y (k:=4) t46 (by decide) (by decide) λbW t49=>⟨_,rfl,?_⟩⟩⟩;rw[T (ag 0 (by decide)),T (x:=ct p.body (0+4) 1) (by have:=bq;show ct p.body 4 1<_;omega),T (ag (0+4+1) (by decide))];refine j9 0 _ t49 (by simp[cZ,cD.c]) λbX t52=>S 1 _ t52 (by simp[cZ,cD.c]) λbY t53=>S 2 _ t53 (by simp[cZ,cD.c]) λb0 t54=>?_;refine(y (k:=4) t54 (by decide) (by decide) λb2 t55=>⟨_,rfl,y (k:=8) t55 (by decide) (by decide) λb3 t58=>⟨_,rfl,y (k:=8) t58 (by decide) (by decide) λb5 t61=>⟨_,rfl,y (k:=4) t61 (by decide) (by decide) λb6 t64=>⟨_,rfl,?_⟩⟩⟩⟩);rw[T (ag (0+4+1+4) (by decide)),T (ag (0+4+1+4+4+8+8) (by decide))];refine S 3 _ t64 (by simp[cZ,cD.c]) λb7 t67=>S 4 _ t67 (by simp[cZ,cD.c]) λb8 t68=>S 5 _ t68 (by simp[cZ,cD.c]) λE t69=>?_;obtain⟨u,hu⟩:=U6 (nB p.body);obtain⟨n,aP⟩:=U6 (ct p.body 9 4);rw[D]at t69;obtain⟨_,_,g,br,aQ⟩:=t69;have g:Var E ub u.c 90:=by rw[hu];exact g
  have o:eD no l=if g8 u n then .ok (u,n,p.gen) else .error 4:=by
   unfold eD;rw[A,hu,aP];exact if_neg aq
  rw[show ct p.body (0+4+1+4) 4=n from aP.symm];refine⟨(u.root:Nat),g.cell,(u.aD:Nat),by rw[aw];exact g.cell,cx (λb w'=>b=(!((((u.root:Nat):Int)==0)==(((u.aD:Nat):Int)==0))||decide (((u.aD:Nat):Int)>12))/\E=w') (λq d=>⟨λh=>d _ _ ⟨by rw[h,Bool.true_or],rfl⟩,λh=>⟨_,by rw[aw];exact g.cell,d _ _ ⟨by rw[h,lP],rfl⟩⟩⟩) ?_⟩;rintro c3 _ ⟨bs,rfl⟩;refine cx (λb w'=>b=(c3||decide (((u.root:Nat):Int)>=(n:Nat)))/\E=w') (λq d=>⟨λh=>d _ _ ⟨by rw[h,Bool.true_or],rfl⟩,λh=>⟨_,g.cell,d _ _ ⟨by rw[h,lP],rfl⟩⟩⟩) ?_;rintro cu _ ⟨bt,rfl⟩;refine cx (λb w'=>b=(cu||decide (((u.map:Nat):Int)>=(n:Nat)))/\E=w') (λq d=>⟨λh=>d _ _ ⟨by rw[h,Bool.true_or],rfl⟩,λh=>⟨_,by rw[aw];exact g.cell,d _ _ ⟨by rw[h,lP],rfl⟩⟩⟩) ?_;rintro bu _ ⟨bv,rfl⟩;refine cx (λb w'=>b=(bu||decide (((u.map:Nat):Int)<2))/\E=w') (λq d=>⟨λh=>d _ _ ⟨by rw[h,Bool.true_or],rfl⟩,λh=>⟨_,by rw[aw];exact g.cell,d _ _ ⟨by rw[h,lP],rfl⟩⟩⟩) ?_;rintro bw _ ⟨bx,rfl⟩;have bA:(bw||decide (((n:Nat):Int)>1600))= !decide (g8 u n):=by
   have bC:(((u.root:Nat):Int)==0)=decide (u.root=0):=by rw[ek];simp
   have bD:(((u.aD:Nat):Int)==0)=decide (u.aD=0):=by rw[ek];simp
   rw[bx,bv,bt,bs,bC,bD,ek];unfold g8;by_cases h1:u.root=0<;>by_cases bE:u.aD=0<;>simp[h1,bE]<;>omega
  rw[bA];refine⟨λh=>?_,λh=>?_⟩
  .have bF:¬g8 u n:=λhg=>by rw[dm hg]at h;cases h
   exact aK g rfl aQ (by rw[o,if_neg bF])
  .have hg:g8 u n:=nQ λhg=>by rw[ib hg]at h;cases h
   rw[o,if_pos hg];have aE:=cc E;have aG:=g.ext aE;have bG:=br.ext aE;have b9:ub≠N:=by have:=i.lt;have:=H.lt;omega
   refine aH ⟨λ_=>False,id,fe aG ⟨id,_,by rw[aw];exact bG.cell,fQ aG rfl u λb_ aR F ca=>⟨?_,fe aR ⟨rfl,Ext.bQ (Ext.trans aQ aE) F I⟩⟩⟩⟩;refine⟨F.os,F.tape,F.output,F.size,λk ax _=>?_⟩;by_cases e:k=ub
   .rw[e];exact aR.trans aG.symm
   .exact F.block k ax e
theorem rk{s:U}(hs:Src 1 w s (aC l))(hc:s.len<=s.cap)(o:l.length<=1000)(no:Int):
 aI aj 150 #[no,s] w (λv w'=>(match eD no l with
  | .ok (u,_,g)=>v=.tuple #[.agg u.c.toArray,.int .u64 (g:Nat),U8]
  | .error e=>v=.tuple #[.agg cZ.c.toArray,.int .u64 0,e])/\Ext w w'):=by
 refine okF (ad.rk no s) ay.rk func150 ?_;(delta ad.rk eo vx bf ae aF r1 aT bZ c0;dsimp only);refine bg (vs:=cZ.c) rfl λw1 m f A=>(pD (hs.ext f) hc o no).use ?_;rintro _ ah ⟨rfl,d⟩;have fin:∀ (u:cD) (n g:Nat) (e:Int),∃B n5 n6 n7 n8 n9 n10 n11 n12:Int,True:=λ_ _ _ _=>⟨0,0,0,0,0,0,0,0,0,trivial⟩
 cases hd:eD no l with
 |error e=>
  refine⟨_,_,_,_,_,_,_,_,_,rfl,bg (vs:=cZ.c) rfl λp h a q=>fQ h rfl cZ λt i b x=>fe (u:=cZ) i (fQ ((m.ext d).ext (Ext.bQ a b (a_ _))) rfl cZ λy j k z=>fe (u:=cZ) j ⟨rfl,?_⟩)⟩;exact Ext.bQ (Ext.trans (Ext.trans f d) (Ext.bQ a b (a_ _))) k (a_ _)
 |ok r=>
  obtain⟨u,n,g⟩:=r;refine⟨_,_,_,_,_,_,_,_,_,rfl,bg (vs:=cZ.c) rfl λp h a q=>fQ h rfl u λt i b x=>fe (u:=u) i (fQ ((m.ext d).ext (Ext.bQ a b (a_ _))) rfl u λy j k z=>fe (u:=u) j ⟨rfl,?_⟩)⟩;exact Ext.bQ (Ext.trans (Ext.trans f d) (Ext.bQ a b (a_ _))) k (a_ _)
theorem IE:jN aj 149:=⟨_,(qu (show(Tryz.prog.funcs[149]?).isSome=true by kernel_rfl)).symm,by kernel_rfl,by kernel_rfl⟩
theorem IF{s:U}(hs:Src 1 w s (aC l))(o:l.length<=1000):
   aI aj 134 #[s,.func (.func 149) #[] #[]] w (λv w'=>v=.bool (!(l.all λc=>c==0))/\w=w'):=by
 have p:=len8 hs
 refine okF (ad.pz s ⟨149,#[],#[]⟩) ay.pz func134 ?_
 (delta ad.pz b5;dsimp only)
 refine Calls.mono (ad.Cx s ⟨149,#[],#[]⟩ w (λv w'=>(∃i:Int,v=i/\(decide (i>=0))= !(l.all λc=>c==0))/\w=w') ?_) ?_
 · (delta ad.q4 cW af aQ aO bA aV ai;dsimp only)
   refine⟨λi w'=>∃j:Nat,i=j/\j<=l.length/\w=w'/\∀ (k:Nat) (a:k<l.length),k<j->l[k]=0,λi _=>((l.length:Int)-i).toNat,⟨0,rfl,cw _,rfl,λk a h=>I⟩,?_⟩
   rintro _ _ ⟨j,rfl,q,rfl,d⟩
   refine⟨λaB=>?_,λb=>?_⟩
   · have aB:j<l.length:=U4 (bB aB)
     obtain⟨A,ak,f,g⟩:=hs.at (oD aB)
     refine⟨A,ak,f,_,g,IE,?_⟩
     refine Calls.mono (ad.G5 ((l[j]).toNat:Int) w (λv w'=>v=.bool (((l[j]).toNat:Int) !=0)/\w=w') ⟨rfl,rfl⟩) ?_
     rintro _ _ ⟨_,rfl,rfl,rfl⟩
     refine⟨_,rfl,λe=>⟨⟨j,rfl,?_⟩,rfl⟩,λm=>?_⟩
     · have:(l.all λc=>c==0)=false:=by
         rw[List.all_eq_false]
         refine⟨l[j],cg _,λh=>?_⟩
         have h:=eq_of_beq h
         rw[h]at e
         simp at e
       rw[this]
       exact dm I
     · have h0:l[j]=0:=by
         have:((l[j]).toNat:Int)=0:=by simpa using m
         exact qm.1 (by show(l[j]).toNat=0;omega)
       rw[bl (n:=(j:Int)+1) I I]
       refine⟨⟨j+1,I,I,rfl,λk a h=>?_⟩,?_⟩
       · rcases dA k j with h1|h1
         · exact d k a h1
         · have:k=j:=I
           subst this;exact h0
       · show((l.length:Int)-((j:Int)+1)).toNat<((l.length:Int)-(j:Int)).toNat
         omega
   · have b:j=l.length:=U4 (bT b)
     subst b
     refine⟨⟨-1,rfl,?_⟩,rfl⟩
     have:(l.all λc=>c==0)=true:=by
       rw[kM]
       intro c hc
       obtain⟨k,a,rfl⟩:=eO hc
       rw[d k a a];rfl
     rw[this];rfl
 · rintro _ _ ⟨_,rfl,⟨i,rfl,hi⟩,rfl⟩
   exact⟨i,rfl,by rw[hi],rfl⟩
def eT(n no:Nat)(b:bY):cD×Nat×Nat:=
 if b.all (λc=>c==0) then (cZ,0,0) else match eD no b with
  | .ok (u,_,g)=>if n<=u.root\/n<=u.map then (cZ,0,1) else (u,g,2)
  | .error _=>(cZ,0,1)
theorem Du{no:Int}{e:Int}(h:eD no l=.error e):e≠0:=by
 unfold eD at h;split at h
 .rename_i a he
  cases h;exact oK he
 .split at h
  .cases h;decide
  .split at h
   .cases h
   .cases h;decide
theorem IG{B:U1}{lb no:Nat}{vs:O Y}{ss:U}{secs:O bY}(H:Var w lb vs 158)(K:vs[10]? =some (.slice ss.a ss.len ss.cap))(hs:bo B w ss secs)(Z:∀l∈secs,l.length=256)(L:no<secs.length):
 aI aj 76 #[.pointer (some lb),no] w (λv w'=>v=.tuple #[.agg (eT secs.length no secs[no]).1.c.toArray,.int .u64 ((eT secs.length no secs[no]).2.1:Nat),.int .i64 ((eT secs.length no secs[no]).2.2:Nat)]/\Ext w w'):=by
 have av:(secs[no]).length=256:=Z _ (cg L);refine ad.GS _ (no:Int) w _ ?_;(delta ad.tp eo aE aJ aQ aO aV bR af bf ae aF r1 aT bZ c0 oc vG vE;dsimp only);obtain⟨ub,aa⟩:=U6 w.heap.size;refine bg (vs:=cZ.c) rfl λw1 x q ax=>?_;rw[←aa]at x⊢;have ab:=bo.ext hs q;have ac:=H.ext q;have ag:w1.cell? (Addr.add lb 10)=some (.slice ss.a ss.len ss.cap):=by
  rw[aw,ac.cell];exact K
 obtain⟨A,t,ak,ah,hc,ht,_⟩:=ab.at L;refine⟨_,rfl,ss,ag,A,ak,ah,t,hc,(IF ht.1 I).use ?_⟩;rintro _ _ ⟨rfl,rfl⟩;have ay:=bo.len hs;have fin:∀ {i:J}{us:O Y} (u:cD) (n:Int) (k:Int),Ext w i->Var i ub us 90->us.length=6->((eT secs.length no secs[no]).1=u/\(((eT secs.length no secs[no]).2.1:Nat):Int)=n/\(((eT secs.length no secs[no]).2.2:Nat):Int)=k)->
  c5 i ub [u.root,u.aD,u.map,.int .u64 (u.clock:Nat),.int .u64 (u.dI:Nat),u.keys]/\(6:Nat)=6/\
   au (setCells i ub 0 [u.root,u.aD,u.map,.int .u64 (u.clock:Nat),.int .u64 (u.dI:Nat),u.keys]) λb=>
   ∃bL:Int,b.cell? ub=some (.int .i64 bL)/\∃bz:Int,b.cell? (Addr.add ub 1)=some (.int .i64 bz)/\∃M:Int,b.cell? (Addr.add ub 2)=some (.int .i64 M)/\
   ∃N:Int,b.cell? (Addr.add ub 3)=some (.int .u64 N)/\∃n5:Int,b.cell? (Addr.add ub 4)=some (.int .u64 n5)/\∃n6:Int,b.cell? (Addr.add ub 5)=some (.int .i64 n6)/\
   (Value.tuple #[.agg #[bL,bz,M,.int .u64 N,.int .u64 n5,n6],.int .u64 n,k]=.tuple #[.agg (eT secs.length no secs[no]).1.c.toArray,.int .u64 ((eT secs.length no secs[no]).2.1:Nat),.int .i64 ((eT secs.length no secs[no]).2.2:Nat)]/\Ext w b):=by
  intro i us u n k hx ai al j;obtain⟨r1,bA,aJ⟩:=j;rw[r1,bA,aJ];exact fQ ai al u λb am an az=>fe am ⟨rfl,Ext.bQ hx an I⟩
 refine⟨_,rfl,λy=>?_,λy=>?_⟩
 .have h0:((secs[no]).all λc=>c==0)=true:=by revert y;cases (secs[no]).all λc=>c==0<;>simp
  refine fin cZ 0 0 q x rfl ?_;unfold eT;rw[if_pos h0];exact⟨rfl,rfl,rfl⟩
 have h0:¬((secs[no]).all λc=>c==0)=true:=by revert y;cases (secs[no]).all λc=>c==0<;>simp
 refine(rk ht.1 ht.2.1 I (no:Int)).use ?_;rintro v P ⟨hd,Q⟩;have R:=q.trans Q;have S:=x.ext Q
 cases o:eD (no:Int) secs[no] with
 |error e=>
  rw[o]at hd;obtain rfl:v=_:=hd;refine⟨_,_,_,_,_,_,_,e,rfl,bg (vs:=cZ.c) rfl λao z C ap=>fQ z rfl cZ λd T D aq=>?_⟩;have p:Ext P d:=Ext.bQ C D (a_ _);have f:=cc d;have ar:=Du o;refine aH ⟨λ_=>⟨λ_=>fin cZ 0 1 ((R.trans p).trans f) ((S.ext p).ext f) rfl ?_,nofun⟩,λh=>?_⟩
  .unfold eT
   rw[if_neg h0,o];exact⟨rfl,rfl,rfl⟩
  .simp at h;exact absurd h ar
 |ok r=>
  obtain⟨u,m,g⟩:=r;rw[o]at hd;obtain rfl:v=_:=hd;refine⟨_,_,_,_,_,_,_,0,rfl,bg (vs:=cZ.c) rfl λao z C ap=>fQ z rfl u λd T D aq=>?_⟩;have p:Ext P d:=Ext.bQ C D (a_ _);have f:=cc d;have s:=(R.trans p).trans f;have E:=T.ext f;have F:=(S.ext p).ext f;have V:d.drew.cell? (Addr.add lb 10)=some (.slice ss.a ss.len ss.cap):=by
   rw[aw,(H.ext s).cell];exact K
  have W:eT secs.length no secs[no]=if secs.length<=u.root\/secs.length<=u.map then (cZ,0,1) else (u,g,2):=by
   unfold eT;rw[if_neg h0,o]
  have X:secs.length<=u.root\/secs.length<=u.map->(eT secs.length no secs[no]).1=cZ/\(((eT secs.length no secs[no]).2.1:Nat):Int)=0/\(((eT secs.length no secs[no]).2.2:Nat):Int)=1:=λh=>by
   rw[W,if_pos h];exact⟨rfl,rfl,rfl⟩
  refine aH ⟨nofun,λ_=>⟨id,_,E.cell,_,rfl,id,ss,V,λj=>⟨λ_=>fin cZ 0 1 s F rfl (X (.inl ?_)),nofun⟩,λj=>⟨id,_,E.cell,_,rfl,id,ss,V,λG=>fin cZ 0 1 s F rfl (X (.inr ?_)),λG=>?_⟩⟩⟩
  .have:=bB j;omega
  .have:=bB G;omega
  .have h1:=bT j
   have aA:=bT G;refine fe E (fin u (g:Int) 2 s F rfl ?_);rw[W,if_neg I];exact⟨rfl,rfl,rfl⟩
variable {w w':J}
theorem Src.cut{sz:Nat}{s:U}{vs:O Y}{lo hi:Nat}(h:Src sz w s vs)(hc:s.len<=s.cap)(h1:lo<=hi)(d:hi<=s.len):
 Src sz w ⟨bj s.a sz lo s.cap,hi-lo,s.cap-lo⟩ ((vs.drop (lo*sz)).take ((hi-lo)*sz)):=by
 have g:=h.len;have i:hi*sz<=s.len*sz:=ml _ d;have j:lo*sz+(hi-lo)*sz=hi*sz:=by rw[←jw,Nat.add_sub_cancel' h1]
 refine⟨by simp;omega,λc=>?_,λa b=>?_⟩
 .have f:s.a=none:=by
   unfold bj at c;split at c
   .exact c
   .simpa using c
  simp[h.nil f]
 .show cv w a 0 ((hi-lo)*sz)=_
  by_cases e:hi=lo
  .rw[show hi-lo=0 from I];simp[cv]
  .have ak:∃A,s.a=some A/\a=A.add (lo*sz):=by
    unfold bj at b;rw[if_neg I]at b
    cases hs:s.a with
    |none=>rw[hs]at b;cases b
    |some A=>rw[hs]at b;exact⟨A,rfl,by simpa using b.symm⟩
   obtain⟨A,ak,rfl⟩:=ak;exact Ck (h.rd A ak) I
theorem Dv{s:U}{sz n:Nat}{q:Nat}:ar ⟨bj s.a sz 0 s.cap,n-0,s.cap-0⟩ q↔ar s q:=by
 rw[vn];exact kO
section
variable {P:Program}{dN e c7:TypeId}{sz bytes:Nat}
end
theorem xM(c:zs.Pairwise λa b=>a<=b){i j:Nat}(e:i<=j)(d:j<zs.length):zs[i]<=zs[j]:=by
 rcases dA i j with h|h
 .exact lT.1 c i j I d h
 .have:i=j:=I
  subst this;exact Int.le_refl _
theorem Dw(c:zs.Pairwise λa b=>a<=b){k:Nat}(h:k<=zs.length)(f:∀ (j:Nat) (d:j+1<zs.length),j+1<k->zs[j]≠zs[j+1]):(zs.take k).Pairwise λa b=>a<b:=by
 refine lT.2 λi j hi d l=>?_;rw[cQ]at hi d;rw[mu,mu];have h1:=xM c (i:=i) (j:=j-1) I I;have m:=xM c (i:=j-1) (j:=j) I I;have g:=f (j-1) I I;have e:j-1+1=j:=I
 simp only[e]at g;omega
theorem IH{s:U}(h:aL 1 3 w s (zs.map encZ))(M:zs.Pairwise λa b=>a<=b)(bg:zs.length<=1000000):
 aI aj 152 #[s] w (λv w'=>∃ (Z:U) (ys:O Int),v=Z/\aL 1 3 w' Z (ys.map encZ)/\ys.Pairwise (λa b=>a<b)/\(∀x,x∈ys↔x∈zs)/\aa (ar s) w w'/\∀q,ar Z q↔ar s q):=by
 have ab:s.len=zs.length:=by have:=h.1;rw[cV]at this;omega
 refine okF (ad.vO s) ay.vO func152 ?_;(delta ad.vO af cW aQ aO r1 aV ai gg st;dsimp only);refine⟨λaB=>?_,λap=>?_⟩
 .have aB:=bB aB
  refine⟨s,zs,rfl,h,?_,λx=>kO,.refl _ _,λq=>kO⟩
  match zs,ab with
  | [],_=>exact List.Pairwise.nil
  | [a],_=>exact List.pairwise_singleton _ _
  |a::b::l,ab=>simp at ab;omega
 have ap:=bT ap;obtain⟨b,bM,f,_⟩:∃b c,s.a=some ⟨b,0,none⟩/\bp w b c 3:=by
  obtain⟨_,hc⟩|⟨b,c,f,B,_⟩:=h.2.2.2
  .have:=h.2.1;omega
  .exact⟨b,c,f,B⟩
 have bh:=h.2.1;refine⟨λn w'=>∃k:Nat,n=(k:Int)/\1<=k/\k<=zs.length/\Ext w w'/\∀ (j:Nat) (t:j+1<zs.length),j+1<k->zs[j]≠zs[j+1],
  λn _=>((zs.length:Int)-n).toNat,⟨1,rfl,a_ _,I,.refl _ _,λj t h1=>I⟩,?_⟩
 rintro _ aE ⟨k,rfl,bi,aq,hx,ac⟩;have N:∀ {w':J}{d:O Int},aL 1 3 w' s (d.map encZ)->∀ (j:Nat) (t:j<d.length),w'.cell? ⟨b,j,none⟩=some (.int .i64 d[j]):=λ{w' d} D j t=>by
  obtain⟨au,c,E,_,_,_,_,Q,_⟩:=D.cell (i:=j) (v:=encZ d[j]) (by rw[ko,dB t];rfl);rw[f]at E;cases E;exact Q
 have F:∀n:Nat,(Addr.mk b 0 none).add (Int.toNat (n:Int)*1)=⟨b,n,none⟩:=λn=>by rw[cS,aw,cT,eY]
 refine⟨λaB=>?_,λaF=>?_⟩
 .have R:k<zs.length:=by
   have:(k:Int)<(s.len:Int):=bB aB;omega
  have ae:=cc aE;have S:=(h.ext hx).ext ae;have aG:IntKind.wrap .i64 ((k:Int)-1)=((k-1:Nat):Int):=by rw[bl I I];omega
  rw[aG];refine aH ⟨_,f,⟨I,by show(k:Int)<(s.len:Int);omega⟩,id,zs[k],by rw[F];exact N S k R,_,f,⟨I,by show((k-1:Nat):Int)<(s.len:Int);omega⟩,id,zs[k-1],by rw[F];exact N S (k-1) I,λag=>?_,λah=>?_⟩
  rotate_left
  .have ah:zs[k]≠zs[k-1]:=by simpa using ah
   have aJ:IntKind.wrap .i64 ((k:Int)+1)=((k+1:Nat):Int):=by rw[bl I I];omega
   rw[aJ];refine⟨⟨k+1,rfl,I,I,Ext.trans hx ae,λj t bk=>?_⟩,by show((zs.length:Int)-((k+1:Nat):Int)).toNat<((zs.length:Int)-(k:Int)).toNat;omega⟩;by_cases e:j+1=k
   .subst e
    intro g;exact ah (by rw[←g];rfl)
   .exact ac j t I
  have ag:zs[k]=zs[k-1]:=by simpa using ag
  refine⟨⟨I,by show(k:Int)<=(s.len:Int);omega⟩,λn12 n13 w'=>∃ (m i:Nat) (d:O Int),n12=(i:Int)/\n13=(m:Int)/\1<=m/\k+m<=zs.length/\i<k+m/\k<=i/\d.length=zs.length/\aL 1 3 w' s (d.map encZ)/\aa (ar s) w w'/\(d.take i).Pairwise (λa b=>a<b)/\(∀x,x∈d.take i↔x∈zs.take (k+m))/\∀ (j:Nat) (h1:j<d.length) (G:j<zs.length),i<=j->d[j]=zs[j],
   λ_ n _=>((zs.length:Int)-n).toNat,⟨1,k,zs,rfl,rfl,a_ _,I,I,a_ _,rfl,S,(Ext.trans hx ae).mono λ_ _ h=>h.elim,Dw M aq ac,λx=>?_,λ_ _ _ _=>rfl⟩,?_⟩
  .rw[gv R,cE,dV]
   constructor
   .exact .inl
   .rintro(g|g)
    .exact g
    .rw[g,ag]
     exact uI.2 ⟨k-1,by rw[cQ];omega,by rw[mu]⟩
  rintro _ _ H ⟨m,i,d,rfl,rfl,bm,bn,bo,aK,Q,D,hc,ak,K,V⟩;have aM:bj s.a 1 (Int.toNat (k:Int)) s.cap=some ⟨b,k,none⟩:=by
   rw[f,cS,po I,cT,eY]
  have al:∀n:Nat,(Addr.mk b k none).add (Int.toNat (n:Int)*1)=⟨b,k+n,none⟩:=λn=>by rw[cS,aw,eY]
  rw[aM,cS];refine⟨λaN=>?_,λaP=>?_⟩
  .have C:k+m<zs.length:=by
    have:(m:Int)<((s.len-k:Nat):Int):=bB aN;omega
   have aS:IntKind.wrap .i64 ((m:Int)-1)=((m-1:Nat):Int):=by rw[bl I I];omega
   have aT:IntKind.wrap .i64 ((m:Int)+1)=((m+1:Nat):Int):=by rw[bl I I];omega
   rw[aS,aT];have am:=cc H;have L:=D.ext am;have bq:zs[k+m-1]<=zs[k+m]:=xM M I C;have aU:d[k+m]=zs[k+m]:=V _ I C I;have aW:d[k+m-1]=zs[k+m-1]:=V _ I I I;have aR:H.drew.cell? ⟨b,k+m,none⟩=some (.int .i64 zs[k+m]):=by rw[N L (k+m) I,aU]
   have a7:H.drew.cell? ⟨b,k+(m-1),none⟩=some (.int .i64 zs[k+m-1]):=by
    have:k+(m-1)=k+m-1:=I
    rw[this,N L (k+m-1) I,aW]
   have br:(k+(m+1))=(k+m)+1:=I
   refine cx (λn25 an=>∃ (p:Nat) (r:O Int),n25=(p:Int)/\p<k+m+1/\k<=p/\r.length=zs.length/\aL 1 3 an s (r.map encZ)/\aa (ar s) w an/\(r.take p).Pairwise (λa b=>a<b)/\(∀x,x∈r.take p↔x∈zs.take (k+m+1))/\∀ (j:Nat) (h1:j<r.length) (G:j<zs.length),p<=j->r[j]=zs[j]) (λq X=>aH ⟨_,rfl,⟨I,by show(m:Int)<((s.len-k:Nat):Int);omega⟩,id,zs[k+m],by rw[al];exact aR,_,rfl,⟨I,by show((m-1:Nat):Int)<((s.len-k:Nat):Int);omega⟩,id,zs[k+m-1],by rw[al];exact a7,λhd=>?_,λhd=>?_⟩) ?_
   .have hd:zs[k+m]≠zs[k+m-1]:=by simpa using hd
    have aX:IntKind.wrap .i64 ((i:Int)+1)=((i+1:Nat):Int):=by rw[bl I I];omega
    have bs:i<s.len:=I
    obtain⟨au,bt,E,B,av,_,bu,aY,_⟩:=L.cell (i:=i) (v:=encZ (d[i]'I)) (by rw[ko,dB I];rfl);rw[f]at E;cases E;have ax:=L.set (i:=i) f (.int .i64 zs[k+m]);have aZ:(d.map encZ).set i (.int .i64 zs[k+m])=(d.set i zs[k+m]).map encZ:=by rw[List.map_set]
    rw[aZ]at ax;refine⟨_,rfl,⟨I,by show(m:Int)<((s.len-k:Nat):Int);omega⟩,zs[k+m],by rw[al];exact aR,_,f,⟨I,by show(i:Int)<(s.len:Int);omega⟩,⟨_,by rw[F];exact aY⟩,by rw[F];exact bp.frozen B _ rfl,?_⟩;rw[F,aX];refine aH (X _ _ ⟨i+1,d.set i zs[k+m],rfl,I,I,by rw[c_];exact Q,ax,?_,?_,λx=>?_,λj h1 G bv=>?_⟩)
    .exact(cn hc (am.mono λ_ _ h=>h.elim) λq _ h=>h).trans ((dz _ _ _ _).mono λq _ e=>⟨_,f,e.symm⟩)
    .rw[gv (by rw[c_];omega),List.take_set_of_le (a_ _),hW]
     refine m0.2 ⟨ak,List.pairwise_singleton _ _,λy a0 z a1=>?_⟩;rw[dV.1 a1];obtain⟨a,a2,rfl⟩:=eO ((K y).1 a0);rw[cQ]at a2;rw[mu];have:=xM M (i:=a) (j:=k+m-1) I I;omega
    .rw[gv (by rw[c_];omega),List.take_set_of_le (a_ _),hW,gv C,cE,cE,K]
    .rw[fD I]
     exact V j I G I
   .have hd:zs[k+m]=zs[k+m-1]:=by simpa using hd
    refine X _ _ ⟨i,d,rfl,I,aK,Q,L,cn hc (am.mono λ_ _ h=>h.elim) λq _ h=>h,ak,λx=>?_,V⟩;rw[K,gv C,cE,dV];constructor
    .exact .inl
    .rintro(g|g)
     .exact g
     .rw[g,hd]
      exact uI.2 ⟨k+m-1,by rw[cQ];omega,by rw[mu]⟩
   .rintro _ an ⟨p,r,rfl,ao,a3,a4,a5,a6,a8,a9,ba⟩
    exact⟨⟨m+1,p,r,rfl,rfl,I,I,I,a3,a4,a5,a6,a8,a9,ba⟩,by show((zs.length:Int)-((m+1:Nat):Int)).toNat<((zs.length:Int)-(m:Int)).toNat;omega⟩
  .have C:k+m=zs.length:=by
    have:¬(m:Int)<((s.len-k:Nat):Int):=bT aP;omega
   rw[C,gD]at K;rw[cS,vn];obtain⟨c,B,av,bb⟩:∃c,bp H b c 3/\c.size=s.cap/\c.toList.take s.len=d.map encZ:=by
    obtain⟨_,bw⟩|⟨au,c,h1,G,bc,az⟩:=D.2.2.2
    .omega
    .rw[f]at h1;cases h1
     exact⟨c,G,by rw[bc,eY],by rw[eY]at az;exact az⟩
   have bd:=D.2.2.1;have S:∀z:Y,z=.int .i64 0->z.cells.size=1:=λz e=>by rw[e];rfl
   obtain⟨aA,bx,be⟩:=Ci (P:=aj) (w:=H) (T:=72) (o:=0) (n:=s.len-i) (c:=s.cap-i) (A:=⟨b,i,none⟩) (z:=.int .i64 0) (sz:=1) U3 ((qu (show(Tryz.prog.info? 3).isSome=true by kernel_rfl)).symm) U3 rfl I (λaA aC=>by
    refine bp.cF B _ _ (by rw[aC];simp[Builtin.zeroCells,Value.cells];omega) λu hu=>?_;rw[aC]at hu;simp only[Builtin.zeroCells,Array.toList_map,df]at hu;obtain⟨j,t,rfl⟩:=hu;have:∀n,n<1->(#[Value.int .i64 0]:Array Y)[n]! =.int .i64 0:=λn bz=>by
     have:n=0:=I
     subst this;rfl
    have bf:j%1<1:=I
    have:=this (j%1) bf;show Plain ((#[Value.int .i64 0]:Array Y)[j%1]!);rw[this];trivial)
   have aD:bj s.a 1 (Int.toNat (i:Int)) s.cap=some ⟨b,i,none⟩:=by rw[f,cS,po I,cT,eY]
   rw[cS]at aD;refine⟨⟨I,by show(i:Int)<=(s.len:Int);omega⟩,_,_,by rw[aD];exact be,⟨I,by show(i:Int)<=(s.cap:Int);omega⟩,⟨s.a,i,s.cap⟩,d.take i,rfl,?_,ak,K,?_,λq=>kO⟩
   .rw[f]
    refine aL.mk' (bp.j9 B aA) (by simp;omega) I bd (by rw[jb,av,eY]) ?_;rw[lv _ _ _ I,eY,cU,nR (by simp;omega),o1,Nat.min_self];rw[m3,←bb,o1,km I]
   .exact hc.trans (aa.mono (W:=λq=>q=b) (aa.kT (.refl _ _) _ 0) (λq _ X=>⟨_,f,X.symm⟩))
 .exact⟨s,zs,rfl,h.ext hx,by
   have R:k=zs.length:=by
    have:¬(k:Int)<(s.len:Int):=bT aF;omega
   have h1:=Dw M aq ac;rw[R,gD]at h1;exact h1,λx=>kO,hx.mono λ_ _ h=>h.elim,λq=>kO⟩
end Go.Proofs.YtcmgnhkpfllinaaGreat
namespace Go.Proofs.YtcmgnhkpfllinaaGreat
open Go Go.Proofs Go.Shelf
def Dx:Go.Shelf.Ren:=⟨λ |7=>133|10=>189|n=>n,λ |23=>125|26=>3|3=>124|28=>232|0=>0|27=>231|33=>177|4=>4|n=>n,λ |n=>n⟩
theorem II:Go.Proofs.SlLaysZI.n7 Tryz.prog Dx:={
 mixed:=by kernel_rfl
 f7:=⟨Tryz.f133.name,by decide,Tryz.func133.trans (congrArg some U3)⟩
 f10:=⟨Tryz.f189.name,by decide,Tryz.func189.trans (congrArg some U3)⟩
 t0:=Tryz.underlying0
 a0:=Tryz.isAgg0
 z0:=Tryz.sizeOf0
 v0:=Tryz.zeroValue0
 t4:=Tryz.underlying4
 a4:=Tryz.isAgg4
 z4:=Tryz.sizeOf4
 v4:=Tryz.zeroValue4
 t23:=Tryz.underlying125
 a23:=Tryz.isAgg125
 z23:=Tryz.sizeOf125
 v23:=Tryz.zeroValue125
 t26:=Tryz.underlying3
 a26:=Tryz.isAgg3
 z26:=Tryz.sizeOf3
 v26:=Tryz.zeroValue3
 t27:=Tryz.underlying231
 a27:=Tryz.isAgg231
 z27:=Tryz.sizeOf231
 v27:=Tryz.zeroValue231
 t28:=Tryz.underlying232
 a28:=Tryz.isAgg232
 z28:=Tryz.sizeOf232
 v28:=Tryz.zeroValue232
 t33:=Tryz.underlying177
 a33:=Tryz.isAgg177
 z33:=Tryz.sizeOf177
 v33:=Tryz.zeroValue177}
def Dy:Go.Shelf.Ren:=⟨λ |6=>132|8=>188|9=>140|11=>235|13=>197|12=>196|23=>246|24=>247|14=>237|15=>238|16=>239|17=>240|18=>241|19=>242|20=>243|21=>244|22=>245|25=>267|26=>268|27=>269|28=>270|29=>271|30=>272|31=>278|n=>n,λ |26=>3|28=>232|24=>72|0=>0|3=>3|37=>30|48=>211|50=>23|4=>4|40=>330|39=>329|45=>224|5=>5|9=>9|51=>351|55=>355|57=>359|58=>226|33=>177|n=>n,λ |n=>n⟩
theorem IJ:Go.Proofs.SlLaysZI.n6 Tryz.prog Dy:={
 mixed:=by kernel_rfl
 f6:=⟨Tryz.f132.name,by decide,Tryz.func132.trans (congrArg some U3)⟩
 f8:=⟨Tryz.f188.name,by decide,Tryz.func188.trans (congrArg some U3)⟩
 f11:=⟨Tryz.f235.name,by decide,Tryz.func235.trans (congrArg some U3)⟩
 t0:=Tryz.underlying0
 a0:=Tryz.isAgg0
 z0:=Tryz.sizeOf0
 v0:=Tryz.zeroValue0
 t24:=Tryz.underlying72
 a24:=Tryz.isAgg72
 z24:=Tryz.sizeOf72
 v24:=Tryz.zeroValue72
 t26:=Tryz.underlying3
 a26:=Tryz.isAgg3
 z26:=Tryz.sizeOf3
 v26:=Tryz.zeroValue3
 t28:=Tryz.underlying232
 a28:=Tryz.isAgg232
 z28:=Tryz.sizeOf232
 v28:=Tryz.zeroValue232
 i26:=by kernel_rfl}
def IK:Go.Shelf.Ren:=⟨λ |5=>140|8=>197|7=>196|19=>246|20=>247|10=>237|11=>238|12=>239|13=>240|14=>241|15=>242|16=>243|17=>244|18=>245|30=>267|31=>268|32=>269|33=>270|34=>271|35=>272|40=>278|n=>n,λ |23=>72|25=>3|3=>3|32=>30|22=>72|0=>0|44=>211|46=>23|4=>4|36=>330|35=>329|41=>224|5=>5|9=>9|53=>351|57=>355|63=>359|64=>226|n=>n,λ |n=>n⟩
theorem xN:Go.Proofs.SlLaysM.n5 Tryz.prog IK:={
 mixed:=by kernel_rfl
 f5:=⟨Tryz.f140.name,by decide,Tryz.func140.trans (congrArg some U3)⟩
 f7:=⟨Tryz.f196.name,by decide,Tryz.func196.trans (congrArg some U3)⟩
 f8:=Tryz.func197.trans (congrArg some U3)
 f10:=⟨Tryz.f237.name,by decide,Tryz.func237.trans (congrArg some U3)⟩
 f11:=⟨Tryz.f238.name,by decide,Tryz.func238.trans (congrArg some U3)⟩
 f12:=⟨Tryz.f239.name,by decide,Tryz.func239.trans (congrArg some U3)⟩
 f13:=⟨Tryz.f240.name,by decide,Tryz.func240.trans (congrArg some U3)⟩
 f14:=⟨Tryz.f241.name,by decide,Tryz.func241.trans (congrArg some U3)⟩
 f15:=⟨Tryz.f242.name,by decide,Tryz.func242.trans (congrArg some U3)⟩
 f16:=⟨Tryz.f243.name,by decide,Tryz.func243.trans (congrArg some U3)⟩
 f17:=⟨Tryz.f244.name,by decide,Tryz.func244.trans (congrArg some U3)⟩
 f18:=⟨Tryz.f245.name,by decide,Tryz.func245.trans (congrArg some U3)⟩
 f19:=Tryz.func246.trans (congrArg some U3)
 f20:=Tryz.func247.trans (congrArg some U3)
 f30:=⟨Tryz.f267.name,by decide,Tryz.func267.trans (congrArg some U3)⟩
 f31:=Tryz.func268.trans (congrArg some U3)
 f32:=Tryz.func269.trans (congrArg some U3)
 f33:=⟨Tryz.f270.name,by decide,Tryz.func270.trans (congrArg some U3)⟩
 f34:=⟨Tryz.f271.name,by decide,Tryz.func271.trans (congrArg some U3)⟩
 f35:=⟨Tryz.f272.name,by decide,Tryz.func272.trans (congrArg some U3)⟩
 f40:=⟨Tryz.f278.name,by decide,Tryz.func278.trans (congrArg some U3)⟩
 t0:=Tryz.underlying0
 a0:=Tryz.isAgg0
 z0:=Tryz.sizeOf0
 v0:=Tryz.zeroValue0
 t3:=Tryz.underlying3
 a3:=Tryz.isAgg3
 z3:=Tryz.sizeOf3
 v3:=Tryz.zeroValue3
 t4:=Tryz.underlying4
 a4:=Tryz.isAgg4
 z4:=Tryz.sizeOf4
 v4:=Tryz.zeroValue4
 t5:=Tryz.underlying5
 a5:=Tryz.isAgg5
 z5:=Tryz.sizeOf5
 v5:=Tryz.zeroValue5
 t9:=Tryz.underlying9
 a9:=Tryz.isAgg9
 z9:=Tryz.sizeOf9
 v9:=Tryz.zeroValue9
 t22:=Tryz.underlying72
 a22:=Tryz.isAgg72
 z22:=Tryz.sizeOf72
 v22:=Tryz.zeroValue72
 t23:=Tryz.underlying72
 a23:=Tryz.isAgg72
 z23:=Tryz.sizeOf72
 v23:=Tryz.zeroValue72
 t25:=Tryz.underlying3
 a25:=Tryz.isAgg3
 z25:=Tryz.sizeOf3
 v25:=Tryz.zeroValue3
 t32:=Tryz.underlying30
 a32:=Tryz.isAgg30
 z32:=Tryz.sizeOf30
 v32:=Tryz.zeroValue30
 t35:=Tryz.underlying329
 a35:=Tryz.isAgg329
 z35:=Tryz.sizeOf329
 v35:=Tryz.zeroValue329
 t36:=Tryz.underlying330
 a36:=Tryz.isAgg330
 z36:=Tryz.sizeOf330
 v36:=Tryz.zeroValue330
 t41:=Tryz.underlying224
 a41:=Tryz.isAgg224
 z41:=Tryz.sizeOf224
 v41:=Tryz.zeroValue224
 t44:=Tryz.underlying211
 a44:=Tryz.isAgg211
 z44:=Tryz.sizeOf211
 v44:=Tryz.zeroValue211
 t46:=Tryz.underlying23
 a46:=Tryz.isAgg23
 z46:=Tryz.sizeOf23
 v46:=Tryz.zeroValue23
 t53:=Tryz.underlying351
 a53:=Tryz.isAgg351
 z53:=Tryz.sizeOf351
 v53:=Tryz.zeroValue351
 t57:=Tryz.underlying355
 a57:=Tryz.isAgg355
 z57:=Tryz.sizeOf355
 v57:=Tryz.zeroValue355
 t63:=Tryz.underlying359
 a63:=Tryz.isAgg359
 z63:=Tryz.sizeOf359
 v63:=Tryz.zeroValue359
 t64:=Tryz.underlying226
 a64:=Tryz.isAgg226
 z64:=Tryz.sizeOf226
 v64:=Tryz.zeroValue226}
end Go.Proofs.YtcmgnhkpfllinaaGreat
namespace Go.Proofs.YtcmgnhkpfllinaaGreat
open Go aU Go.Proofs.Tryz
variable{w w':J}{T:TypeId}{m i k q a8 j hd no:Nat}{f t:Nat->ag}{W V:U1}{ns:O Int}{l:bY}{D az:aS}
theorem IL{b n:Nat}{c:Array Y}{os:Array Obj}{zs:O Int}(h:bp w b c T)(g:zs.length<=c.size):
 ∃c':Array Y,bp (Go.Sort.grow (Go.Sort.putRow (Value.int .i64) (Go.Sort.ahead w n) b 0 zs.toArray) os) b c' T/\c'.size=c.size/\c'.toList.take zs.length=zs.map encZ/\aa (λq=>q=b) w (Go.Sort.grow (Go.Sort.putRow (Value.int .i64) (Go.Sort.ahead w n) b 0 zs.toArray) os):=by
 have aB:=h.lt;have d:∀k,k<w.heap.size->(Go.Sort.grow (Go.Sort.putRow (Value.int .i64) (Go.Sort.ahead w n) b 0 zs.toArray) os).heap[k]? =(w.heap.modify b (Go.Sort.onCells (Go.Sort.putCells (Value.int .i64) 0 zs.toArray)))[k]? :=λk a=>by
  show((w.heap.modify b _)++os)[k]? =_;rw[Array.getElem?_append_left (by simpa using a)]
 refine⟨Go.Sort.putCells (Value.int .i64) 0 zs.toArray c,?_,by simp[Go.Sort.putCells],?_,rfl,rfl,rfl,?_,λk a f=>?_⟩
 .unfold bp at h⊢
  rw[d b aB,uC,if_pos rfl,h];rfl
 .apply List.ext_getElem?
  intro i;rw[su];split
  .rename_i hi
   rw[Array.getElem?_toList,Go.Sort.putCells,Array.getElem?_mapIdx,Array.getElem?_eq_getElem I,mX,if_pos ⟨cw _,by simpa using hi⟩,ko,dB hi];simp[hi]
  .rename_i hi
   rw[mw (by simpa using hi)]
 .show w.heap.size<=((w.heap.modify b _)++os).size
  simp
 .rw[d k a,uC,if_neg (λe=>f e.symm)]
theorem zY(ds:O Nat):dv ds=(ds.map λd=>((d:Nat):Int)).map encZ:=by simp[dv]
theorem zZ{s:U}{zs:O Int}(h:aL 1 3 w s (zs.map encZ))(G:zs.length<=1000000):
 aI aj 140 #[s] w (λv w'=>v=.tuple #[]/\aa (ar s) w w'/\∃ys:O Int,aL 1 3 w' s (ys.map encZ)/\ys.Perm zs/\ys.Pairwise λa b=>a<=b):=by
 have H:s.len=zs.length:=by have:=h.1;rw[cV]at this;omega
 rcases o4 zs.length with h0|h0
 .have hd:zs=[]:=kN.1 h0
  have e:s.len=0:=I
  rw[e];refine Calls.mono (AnyM.slices_Sort_int_none xN s.a s.cap w) ?_;rintro _ _ ⟨rfl,rfl⟩;exact⟨_,rfl,rfl,.refl _ _,[],by rw[hd]at h;exact h,by rw[hd],List.Pairwise.nil⟩
 obtain⟨h1,k,u,z⟩:=h;obtain⟨_,f⟩|⟨b,c,g,d,A,B⟩:=z
 .omega
 have C:Go.Sort.Holds (Value.int .i64) w b 0 zs.toArray:=λj D=>by
  have m:j<zs.length:=by simpa using D
  refine⟨?_,bp.frozen d _ rfl⟩;rw[d.cell,cT];have e:=congrArg (λl=>l[j]?) B;simp only[su,ko,dB m,mX]at e;rw[if_pos I,Array.getElem?_toList]at e;rw[e];simp[m]
 have E:=AnyM.slices_Sort_int xN b 0 s.cap zs w C d.lt I;rw[g];have e:s.len=zs.length:=I
 rw[e];refine Calls.mono E ?_;rintro _ w' ⟨rfl,n,os,rfl⟩;obtain⟨c',ao,o,p,r⟩:=IL (n:=n) (os:=os) (zs:=zs.mergeSort λx y=>decide (x<=y)) d (by rw[List.length_mergeSort];omega);have i:=List.mergeSort_perm zs λx y=>decide (x<=y);have t:(zs.mergeSort λx y=>decide (x<=y)).Pairwise λa b=>decide (a<=b)=true:=List.pairwise_mergeSort (λa b c h1 k=>by simp only[cq]at*;omega) (λa b=>by simp only[fC,cq];omega) zs;generalize (zs.mergeSort λx y=>decide (x<=y))=ys at ao o p r i t;refine⟨_,rfl,rfl,r.mono λq _ e=>⟨b,g,e.symm⟩,ys,?_,i,t.imp λh=>bB h⟩;have F:=i.length_eq;have f:=aL.mk' (sz:=1) (n:=s.len) (cap:=s.cap) ao (vs:=ys.map encZ) (by rw[cV];omega) k u (o▸A) (by rw[eY,e,←F];exact p);rw[←g]at f;exact f
theorem Dz{s:U}{ds:O Nat}(h:aL 1 3 w s (dv ds))(g:ds.length<=1000000):
 aI aj 140 #[.slice s.a s.len s.cap] w (λv w'=>v=.tuple #[]/\aa (ar s) w w'/\∃es:O Nat,aL 1 3 w' s (dv es)/\es.Perm ds/\es.Pairwise λa b=>a<=b):=by
 rw[zY]at h;refine(zZ h (by rw[cV];exact g)).mono ?_;rintro v w' ⟨rfl,hc,ys,i,e,j⟩;have f:∀y∈ys,0<=y:=λy c=>by
  obtain⟨d,_,rfl⟩:=df.1 (e.mem_iff.1 c);omega
 have k:(ys.map Int.toNat).map (λd=>((d:Nat):Int))=ys:=by
  rw[g2]
  conv=>rhs;rw[←List.map_id ys]
  refine qt λy c=>?_;have:=f y c;show((y.toNat:Nat):Int)=y;omega
 refine⟨rfl,hc,ys.map Int.toNat,by rw[zY,k];exact i,?_,?_⟩
 .have:=e.map Int.toNat
  rw[g2]at this;have l:(Int.toNat∘ λd:Nat=>((d:Nat):Int))=id:=by funext d;simp
  rw[l,List.map_id]at this;exact this
 .rw[List.pairwise_map]
  exact j.imp_of_mem λm n o=>by
   have:=f _ m;omega
def l8(a c3 cu b c d e f:ag):Nat:=
 a.toNat+2*c3.toNat+4*cu.toNat+8*b.toNat+16*c.toNat+32*d.toNat+64*e.toNat+128*f.toNat
def byteOf(f:Nat->ag)(i:Nat):Nat:=l8 (f (8*i)) (f (8*i+1)) (f (8*i+2)) (f (8*i+3)) (f (8*i+4)) (f (8*i+5)) (f (8*i+6)) (f (8*i+7))
theorem IM:∀a c3 cu b c d e f:ag,l8 a c3 cu b c d e f<256:=by decide+kernel
theorem IN:∀a c3 cu b c d e f:ag,
 (l8 a c3 cu b c d e f).testBit 0=a/\(l8 a c3 cu b c d e f).testBit 1=c3/\(l8 a c3 cu b c d e f).testBit 2=cu/\(l8 a c3 cu b c d e f).testBit 3=b/\
 (l8 a c3 cu b c d e f).testBit 4=c/\(l8 a c3 cu b c d e f).testBit 5=d/\(l8 a c3 cu b c d e f).testBit 6=e/\(l8 a c3 cu b c d e f).testBit 7=f:=by decide+kernel
theorem k2(f:Nat->ag)(i:Nat):byteOf f i<256:=IM _ _ _ _ _ _ _ _
theorem oL(f:Nat->ag)(i j:Nat)(a:j<8):(byteOf f i).testBit j=f (8*i+j):=by
 obtain⟨h0,h1,b,c,d,e,g,h⟩:=IN (f (8*i)) (f (8*i+1)) (f (8*i+2)) (f (8*i+3)) (f (8*i+4)) (f (8*i+5)) (f (8*i+6)) (f (8*i+7));have:j=0\/j=1\/j=2\/j=3\/j=4\/j=5\/j=6\/j=7:=by omega
 unfold byteOf;rcases this with rfl|rfl|rfl|rfl|rfl|rfl|rfl|rfl<;>assumption
theorem IP{x y:Nat}(hx:x<256)(b:y<256)(h:∀j,j<8->x.testBit j=y.testBit j):x=y:=by
 apply Nat.eq_of_testBit_eq;intro j;by_cases a:j<8
 .exact h j a
 .have p:256<=2^j:=by
   have:=sE (n:=2) I (by omega:8<=j);simpa using this
  rw[Nat.testBit_lt_two_pow I,Nat.testBit_lt_two_pow I]
theorem xO(f:Nat->ag)(i x:Nat)(hx:x<256)(h:∀j,j<8->x.testBit j=f (8*i+j)):x=byteOf f i:=
 IP hx (k2 f i) λj a=>by rw[h j a,oL f i j a]
def c9(f:Nat->ag)(k:Nat)(b:ag):Nat->ag:=λi=>if i=k then b else f i
theorem IQ:∀x:Nat,x<256->∀j:Nat,j<8->(kS .u8 (Int.fdiv (x:Int) (2^(min (Int.toNat (j:Int)) 8))) 1==1)=x.testBit j:=by decide+kernel
theorem IS:∀x:Nat,x<256->∀j:Nat,j<8->nX .u8 (x:Int) (IntKind.wrap .u8 (1*2^(min (Int.toNat (j:Int)) 8)))=((x|||2^j:Nat):Int):=by decide+kernel
theorem IT:∀x:Nat,x<256->∀j:Nat,j<8->Bo .u8 (x:Int) (IntKind.wrap .u8 (1*2^(min (Int.toNat (j:Int)) 8)))=((x&&&(255-2^j):Nat):Int):=by decide+kernel
theorem z1:∀x:Nat,x<256->∀y:Nat,y<256->x|||y<256:=λ_ hx _ a=>Nat.or_lt_two_pow (n:=8) hx a
theorem IU:∀j:Nat,j<8->∀k:Nat,k<8->(255-2^j).testBit k=(k !=j):=by decide+kernel
theorem IV(x y:Nat)(hx:x<256)(a:y<256):nX .u8 (x:Int) (y:Int)=((x|||y:Nat):Int):=by
 have h:=z1 x hx y a;have e:(BitVec.ofInt 8 (x:Int)|||BitVec.ofInt 8 (y:Int)).toNat=x|||y:=by
  simp only[BitVec.ofInt_natCast,BitVec.toNat_or,BitVec.toNat_ofNat];rw[jx (by simpa using hx),jx (by simpa using a)]
 show IntKind.wrap .u8 (((BitVec.ofInt 8 (x:Int)|||BitVec.ofInt 8 (y:Int)).toNat:Nat):Int)=_;rw[e];have:((x|||y:Nat):Int)%256=((x|||y:Nat):Int):=Int.emod_eq_of_lt I I;simp[IntKind.wrap,IntKind.signed,IntKind.bits,this]
theorem DA(k:Nat):8*(k/8)+k%8=k:=Nat.div_add_mod k 8
theorem IW(f:Nat->ag)(k:Nat):byteOf f (k/8)|||2^(k%8)=byteOf (c9 f k true) (k/8):=by
 refine xO _ _ _ (z1 _ (k2 _ _) _ ?_) λj b=>?_
 .have:k%8<8:=gu _ I
  have:=Nat.pow_lt_pow_right (a:=2) I this;simpa using this
 .rw[nK,oL _ _ _ b,so,c9]
  by_cases h:8*(k/8)+j=k
  .rw[if_pos h]
   have:k%8=j:=I
   simp[this]
  .rw[if_neg h]
   have:¬k%8=j:=I
   simp[this]
theorem IX(f:Nat->ag)(k:Nat):byteOf f (k/8)&&&(255-2^(k%8))=byteOf (c9 f k false) (k/8):=by
 refine xO _ _ _ (Nat.lt_of_le_of_lt Nat.and_le_left (k2 _ _)) λj a=>?_;rw[Nat.testBit_and,oL _ _ _ a,IU _ (gu _ I) _ a,c9];by_cases h:8*(k/8)+j=k
 .rw[if_pos h]
  have:j=k%8:=I
  simp[this]
 .rw[if_neg h]
  have:¬j=k%8:=I
  simp[this]
theorem IY(f:Nat->ag)(k i:Nat)(b:ag)(h:i≠k/8):byteOf (c9 f k b) i=byteOf f i:=by
 have e:∀j,j<8->c9 f k b (8*i+j)=f (8*i+j):=λj a=>by
  unfold c9;rw[if_neg];omega
 unfold byteOf;rw[e 1 I,e 2 I,e 3 I,e 4 I,e 5 I,e 6 I,e 7 I];have:=e 0 I;simp only[lO]at this;rw[this]
def e8(f:Nat->ag)(m:Nat):O Y:=(List.range m).map λi=>.int .u8 (byteOf f i)
def iu(f:Nat->ag)(m:Nat):O Y:=(List.range m).map λi=>.bool (f i)
theorem z2(f:Nat->ag)(m:Nat):(e8 f m).length=m:=by simp[e8]
theorem xP(f:Nat->ag)(m:Nat):(iu f m).length=m:=by simp[iu]
theorem p3(f:Nat->ag)(h:i<m):(e8 f m)[i]? =some (.int .u8 (byteOf f i)):=by simp[e8,h]
theorem tX(f:Nat->ag)(h:i<m):(iu f m)[i]? =some (.bool (f i)):=by simp[iu,h]
theorem DB(f:Nat->ag)(k m:Nat)(b:ag):(e8 f m).set (k/8) (.int .u8 (byteOf (c9 f k b) (k/8)))=e8 (c9 f k b) m:=by
 apply List.ext_getElem?;intro i;rw[List.getElem?_set];by_cases hi:i<m
 .rw[p3 (c9 f k b) hi]
  by_cases h:k/8=i
  .subst h
   simp[z2,hi]
  .rw[if_neg h,p3 _ hi,IY f k i b I]
 .have h1:(e8 (c9 f k b) m)[i]? =none:=by simp[e8];omega
  have a:(e8 f m)[i]? =none:=by simp[e8];omega
  rw[h1,a];split
  .simp[z2];omega
  .rfl
theorem DC(f:Nat->ag)(k m:Nat)(b:ag):(iu f m).set k b=iu (c9 f k b) m:=by
 apply List.ext_getElem?;intro i;rw[List.getElem?_set];by_cases hi:i<m
 .rw[tX (c9 f k b) hi]
  by_cases h:k=i
  .subst h
   simp[xP,hi,c9]
  .rw[if_neg h,tX _ hi]
   simp[c9,Ne.symm h]
 .have h1:(iu (c9 f k b) m)[i]? =none:=by simp[iu];omega
  have a:(iu f m)[i]? =none:=by simp[iu];omega
  rw[h1,a];split
  .simp[xP];omega
  .rfl
theorem DD(k:Nat):Int.tdiv (k:Int) 8=((k/8:Nat):Int):=by
 rw[Int.tdiv_eq_ediv_of_nonneg I];omega
theorem rZ(k:Nat):Int.tmod (k:Int) 8=((k%8:Nat):Int):=by
 rw[nT I];omega
theorem tY(h:k<=9223372036854775807):IntKind.wrap .i64 (Int.tdiv (k:Int) 8)=((k/8:Nat):Int):=by
 rw[DD,bl I I]
theorem DE{s:U}{b:Nat}(h:s.a=some ⟨b,0,none⟩):ar s b:=⟨_,h,rfl⟩
theorem p4{s:U}(h:aL 1 5 w s (e8 f m))(a:k/8<m)(d:k<=9223372036854775807):
 aI aj 198 #[s,k] w (λv w'=>v=.bool (f k)/\w=w'):=by
 refine okF (ad.wY s k) ay.wY func198 ?_;(delta ad.wY aQ aO ai bA;dsimp only);obtain⟨b,c,e,g,i,hi,j,hc,_⟩:=h.cell (p3 f a);refine⟨by decide,_,e,?_⟩;rw[tY d,rZ];refine⟨⟨I,I⟩,(byteOf f (k/8):Int),?_,by decide,I,?_,rfl⟩
 .rw[eY,cS,aw,cT];exact hc
 .rw[IQ _ (k2 _ _) _ (gu _ I),oL _ _ _ (gu _ I),DA]
theorem DF{s:U}(h:aL 1 5 w s (e8 f m))(e:k/8<m)(g:k<=9223372036854775807):
 aI aj 111 #[s,k] w (λv w'=>v=.tuple #[]/\aL 1 5 w' s (e8 (c9 f k true) m)/\aa (ar s) w w'):=by
 refine okF (ad.wD s k) ay.wD func111 ?_;(delta ad.wD au aQ aO ai bA st;dsimp only);obtain⟨b,c,d,i,l,hi,n,hc,_⟩:=h.cell (p3 f e);have a:(Addr.mk b 0 none).add (Int.toNat ((k/8:Nat):Int)*1)=⟨b,k/8,none⟩:=by rw[eY,cS,aw,cT]
 rw[tY g,rZ];refine⟨by decide,_,d,⟨I,I⟩,by simp,(byteOf f (k/8):Int),by rw[a];exact hc,by decide,I,_,d,⟨I,I⟩,⟨_,by rw[a];exact hc⟩,by rw[a];exact i.drew.frozen _ rfl,rfl,?_,?_⟩
 .rw[a,IS _ (k2 _ _) _ (gu _ I),IW,←DB]
  have j:aL 1 5 w.drew s (e8 f m):=h.ab (W:=λ_=>False) (aa.drew (.refl _ _)) (λ_ _ h=>h);exact j.set d _
 .rw[a]
  exact aa.set (aa.drew (.refl _ _)) (λ_=>DE d) _
theorem IZ{s:U}(h:aL 1 5 w s (e8 f m))(e:k/8<m)(g:k<=9223372036854775807):
 aI aj 203 #[s,k] w (λv w'=>v=.tuple #[]/\aL 1 5 w' s (e8 (c9 f k false) m)/\aa (ar s) w w'):=by
 refine okF (ad.wZ s k) ay.wZ func203 ?_;(delta ad.wZ au aQ aO ai bA st;dsimp only);obtain⟨b,c,d,i,l,hi,n,hc,_⟩:=h.cell (p3 f e);have a:(Addr.mk b 0 none).add (Int.toNat ((k/8:Nat):Int)*1)=⟨b,k/8,none⟩:=by rw[eY,cS,aw,cT]
 rw[tY g,rZ];refine⟨by decide,_,d,⟨I,I⟩,by simp,(byteOf f (k/8):Int),by rw[a];exact hc,by decide,I,_,d,⟨I,I⟩,⟨_,by rw[a];exact hc⟩,by rw[a];exact i.drew.frozen _ rfl,rfl,?_,?_⟩
 .rw[a,IT _ (k2 _ _) _ (gu _ I),IX,←DB]
  have j:aL 1 5 w.drew s (e8 f m):=h.ab (W:=λ_=>False) (aa.drew (.refl _ _)) (λ_ _ h=>h);exact j.set d _
 .rw[a]
  exact aa.set (aa.drew (.refl _ _)) (λ_=>DE d) _
structure e1(w:J)(b n:Nat)(f g:Nat->ag)(s1 s2:U):Prop where
 bn:bp w b #[n,s1,s2] 209
 now:aL 1 5 w s1 (e8 f ((n+7)/8))
 sure:aL 1 5 w s2 (e8 g ((n+7)/8))
 d1:∀k,ar s1 k->k≠b/\¬ar s2 k
 d2:∀k,ar s2 k->k≠b
 bL:1<=n
 bz:n<=1600
 pf:∀i,n<=i->f i=false
 dZ:∀i,n<=i->g i=false
def eH(b:Nat)(s1 s2:U)(k:Nat):Prop:=k=b\/ar s1 k\/ar s2 k
section
variable {w w':J}{b n:Nat}{f g:Nat->ag}{s1 s2:U}
theorem e1.ab(h:e1 w b n f g s1 s2)(hc:aa W w w')(a:∀k,eH b s1 s2 k->¬W k):e1 w' b n f g s1 s2:=
 ⟨h.bn.ab hc (a b (.inl rfl)),h.now.ab hc λk c=>a k (.inr (.inl c)),h.sure.ab hc λk c=>a k (.inr (.inr c)),h.d1,h.d2,h.bL,h.bz,h.pf,h.dZ⟩
theorem e1.ext(h:e1 w b n f g s1 s2)(hc:Ext w w'):e1 w' b n f g s1 s2:=h.ab hc λ_ _ h=>h
theorem e1.lt(h:e1 w b n f g s1 s2):∀k,eH b s1 s2 k->k<w:=by
 rintro k (rfl|a|a)
 .exact h.bn.lt
 .exact h.now.lt k a
 .exact h.sure.lt k a
theorem e1.bM(h:e1 w b n f g s1 s2):w.cell? b=some (.int .i64 n):=by rw[h.bn.cell];rfl
theorem e1.aR(h:e1 w b n f g s1 s2):w.cell? ((Addr.mk b 0 none).add 1)=some (.slice s1.a s1.len s1.cap):=by rw[aw,h.bn.cell];rfl
theorem e1.a7(h:e1 w b n f g s1 s2):w.cell? ((Addr.mk b 0 none).add 2)=some (.slice s2.a s2.len s2.cap):=by rw[aw,h.bn.cell];rfl
theorem I0(h:e1 w b n f g s1 s2)(a:k<n):
 aI aj 201 #[.pointer (some b),k] w (λv w'=>v=.bool (f k||g k)/\w=w'):=by
 have c:=h.bz;refine ad.Hb _ k w _ ?_;(delta ad.tF aE aJ bR af;dsimp only);refine⟨_,rfl,s1,h.aR,(p4 h.now (k:=k) I I).use ?_⟩;rintro _ _ ⟨rfl,rfl⟩;refine⟨_,rfl,⟨λhf=>⟨by rw[hf];rfl,rfl⟩,λhf=>⟨_,rfl,s2,h.a7,(p4 h.sure (k:=k) I I).use ?_⟩⟩⟩;rintro _ _ ⟨rfl,rfl⟩;exact⟨_,rfl,by rw[hf];rfl,rfl⟩
theorem z6(h:e1 w b n f g s1 s2)(k:Int):
 aI aj 202 #[.pointer (some b),k] w (λv w'=>v=.bool (decide (0<=k)&&decide (k<n))/\w=w'):=by
 refine ad.Hc _ k w _ ?_;(delta ad.tG af aE r1;dsimp only);refine⟨?_⟩;refine⟨λh1=>⟨_,rfl,n,h.bM,?_,rfl⟩,λh1=>⟨?_,rfl⟩⟩
 .have:0<=k:=by simpa using h1
  simp[this]
 .have:¬0<=k:=by simpa using h1
  simp[this]
def firstFree(t:Nat->ag)(n:Nat):an Nat:=(List.range n).find? λi=> !t i
theorem I1{n:Nat}(e:k<n)(ht:t k=false)(c:∀i,i<k->t i=true):firstFree t n=some k:=by
 unfold firstFree;rw[List.find?_eq_some_iff_append];refine⟨by simp[ht],List.range k,(List.range' (k+1) (n-(k+1))),?_,λa d=>?_⟩
 .have b:=List.range'_append (s:=0) (m:=k) (n:=n-(k+1)+1) (step:=1)
  rw[uD,uD,←List.range'_succ];rw[mY,cT]at b;rw[b]
  congr 1
  omega
 .simp[c a (iV.1 d)]
theorem I2{n:Nat}(b:∀i,i<n->t i=true):firstFree t n=none:=by
 unfold firstFree;rw[kn];intro a c;simp[b a (iV.1 c)]
theorem DG{n:Nat}(h:firstFree t n=some k):k<n/\t k=false/\∀i,i<k->t i=true:=by
 unfold firstFree at h;obtain⟨h1,b,lb,a,e⟩:=List.find?_eq_some_iff_append.1 h;have f:k<n:=iV.1 (by rw[a];simp);refine⟨f,by simpa using h1,λi hi=>?_⟩;have hlen:b.length=k:=by
  have c:(List.range n)[b.length]? =some k:=by rw[a];simp
  rw[List.getElem?_range (by
   have:=congrArg List.length a;simp at this;omega)]at c
  simpa using c
 have d:(List.range n)[i]? =some i:=List.getElem?_range I;rw[a,List.getElem?_append_left I]at d;have:=e i (List.mem_of_getElem? d);simpa using this
theorem I3{n:Nat}(h:firstFree t n=none):∀i,i<n->t i=true:=by
 unfold firstFree at h;rw[kn]at h;intro i hi;have:=h i (iV.2 hi);simpa using this
def I4(o:an Nat):Y:=
 match o with
 |some k=>.tuple #[.int .i64 (k:Int),U8]
 |none=>.tuple #[.int .i64 (-1),(2:Int)]
def I5(o:an Nat)(f:Nat->ag):Nat->ag:=
 match o with
 |some k=>c9 f k true
 |none=>f
theorem DH{n:Nat}{x:ag}(h:∀i,n<=i->f i=false)(a:k<n):∀i,n<=i->c9 f k x i=false:=λi hi=>by
 unfold c9
 rw[if_neg I]
 exact h i hi
theorem DI(h:e1 w b n f g s1 s2):
 aI aj 144 #[.pointer (some b)] w (λv w'=>v=I4 (firstFree (λi=>f i||g i) n)/\e1 w' b n (I5 (firstFree (λi=>f i||g i) n) f) g s1 s2/\aa (eH b s1 s2) w w'):=by
 have r:=h.bz;refine ad.G2 _ w _ ?_;(delta ad.tx af aE r1 cW bR aJ e6 ai;dsimp only);refine⟨λh1=>by simp at h1,λ_=>⟨_,rfl,n,h.bM,λi w'=>∃k:Nat,i=k/\k<=n/\w=w'/\∀j,j<k->(f j||g j)=true,λi _=>(n-i).toNat,⟨0,rfl,I,rfl,λj l=>I⟩,?_⟩⟩;rintro _ _ ⟨k,rfl,a,rfl,d⟩;refine⟨λaB=>(I0 h (k:=k) (by simpa using aB)).use ?_,λm=>?_⟩
 .have c:k<n:=by simpa using aB
  rintro _ _ ⟨rfl,rfl⟩;refine⟨_,rfl,λht=>⟨_,rfl,s1,h.aR,(DF h.now (k:=k) I I).use ?_⟩,λht=>?_⟩
  .rintro _ w' ⟨rfl,o,hc⟩
   have e:(f k||g k)=false:=by simpa using ht
   have p:=I1 (t:=λi=>f i||g i) c e d;rw[p];refine⟨rfl,rfl,⟨h.bn.ab hc λq=>(h.d1 b q).1 rfl,o,h.sure.ab hc λk a h1=>(h.d1 k h1).2 a,h.d1,h.d2,h.bL,h.bz,DH h.pf c,h.dZ⟩,hc.mono λk _ a=>.inr (.inl a)⟩
  .have e:(f k||g k)=true:=by cases hx:(f k||g k)<;>simp[hx]at ht⊢
   rw[bl I I];refine⟨⟨k+1,I,I,rfl,λj l=>?_⟩,(show((n:Int)-((k:Int)+1)).toNat<((n:Int)-(k:Int)).toNat from I)⟩;rcases dA j k with h1|h1
   .exact d j h1
   .have:j=k:=I
    subst this;exact e
 .have c:k=n:=by
   have:¬(k:Int)<n:=by simpa using m
   omega
  subst c;rw[I2 d];exact⟨rfl,h,.refl _ _⟩
def xQ(f:Nat->ag)(n:Nat)(k:Int):Int:=if 0<=k/\k<n then (if f k.toNat then 0 else 6) else 1
def oM(f:Nat->ag)(n:Nat)(k:Int):Nat->ag:=if 0<=k/\k<n then c9 f k.toNat false else f
theorem I6{x:ag}(h:f k=x):c9 f k x=f:=by
 funext i;unfold c9;split
 .rename_i hi;rw[hi,h]
 .rfl
theorem DJ(h:e1 w b n f g s1 s2)(k:Int):
 aI aj 145 #[.pointer (some b),k] w (λv w'=>v=.int .i64 (xQ f n k)/\e1 w' b n (oM f n k) g s1 s2/\aa (eH b s1 s2) w w'):=by
 have o:=h.bz;refine ad.G3 _ k w _ ?_;(delta ad.tz bR af aE aJ e6;dsimp only);refine(z6 h k).use ?_;rintro _ _ ⟨rfl,rfl⟩;refine⟨_,rfl,λh1=>?_,λh1=>?_⟩
 .have:¬(0<=k/\k<n):=by
   rintro⟨a,e⟩;simp[a,e]at h1
  exact⟨by rw[xQ,if_neg this],by rw[oM,if_neg this];exact h,.refl _ _⟩
 .have c:0<=k/\k<n:=by simpa using h1
  obtain⟨m,rfl⟩:=sK c.1;have i:m<n:=I
  refine⟨_,rfl,s1,h.aR,(p4 h.now (k:=m) I I).use ?_⟩;rintro _ _ ⟨rfl,rfl⟩;refine⟨_,rfl,λa=>?_,λa=>⟨_,rfl,s1,h.aR,(IZ h.now (k:=m) I I).use ?_⟩⟩
  .have hf:f m=false:=by simpa using a
   refine⟨by rw[xQ,if_pos c,cS,hf];rfl,?_,.refl _ _⟩;rw[oM,if_pos c,cS,I6 hf];exact h
  .rintro _ w' ⟨rfl,j,hc⟩
   have hf:f m=true:=by simpa using a
   refine⟨rfl,by rw[xQ,if_pos c,cS,hf];rfl,?_,hc.mono λk _ d=>.inr (.inl d)⟩;rw[oM,if_pos c,cS];exact⟨h.bn.ab hc λl=>(h.d1 b l).1 rfl,j,h.sure.ab hc λk d h1=>(h.d1 k h1).2 d,h.d1,h.d2,h.bL,h.bz,DH h.pf i,h.dZ⟩
theorem DK(h:e1 w b n f g s1 s2)(k:Int):
 aI aj 153 #[.pointer (some b),k] w (λv w'=>v=.bool (decide (0<=k)&&decide (k<n)&&f k.toNat)/\w=w'):=by
 have c:=h.bz;refine ad.G7 _ k w _ ?_;(delta ad.tC bR af aE aJ;dsimp only);refine(z6 h k).use ?_;rintro _ _ ⟨rfl,rfl⟩;refine⟨_,rfl,⟨λh1=>?_,λh1=>⟨by rw[h1];rfl,rfl⟩⟩⟩;have a:0<=k/\k<n:=by simpa using h1
 obtain⟨m,rfl⟩:=sK a.1;refine⟨_,rfl,s1,h.aR,(p4 h.now (k:=m) I I).use ?_⟩;rintro _ _ ⟨rfl,rfl⟩;exact⟨_,rfl,by rw[h1,cS];rfl,rfl⟩
theorem I7(h:e1 w b n f g s1 s2)(k:Int):
 aI aj 229 #[.pointer (some b),k] w (λv w'=>v=.bool (decide (0<=k)&&decide (k<n)&&f k.toNat&& !(g k.toNat))/\w=w'):=by
 have d:=h.bz;refine ad.Hf _ k w _ ?_;(delta ad.tH bR af aE aJ;dsimp only);refine(z6 h k).use ?_;rintro _ _ ⟨rfl,rfl⟩;refine⟨_,rfl,⟨λh1=>?_,λh1=>⟨(λh=>by cases h),λ_=>⟨by rw[h1];rfl,rfl⟩⟩⟩⟩;have c:0<=k/\k<n:=by simpa using h1
 obtain⟨m,rfl⟩:=sK c.1;refine⟨_,rfl,s1,h.aR,(p4 h.now (k:=m) I I).use ?_⟩;rintro _ _ ⟨rfl,rfl⟩;refine⟨_,rfl,λa=>⟨_,rfl,s2,h.a7,(p4 h.sure (k:=m) I I).use ?_⟩,λa=>⟨by rw[h1,cS,a];rfl,rfl⟩⟩;rintro _ _ ⟨rfl,rfl⟩;exact⟨_,rfl,by rw[h1,cS,a];rfl,rfl⟩
end
theorem I8:hY aj 206 5 1 1:=⟨by kernel_rfl⟩
theorem nC:hY aj 39 5 1 1:=⟨by kernel_rfl⟩
theorem I9:hY aj 72 3 1 8:=⟨by kernel_rfl⟩
theorem I_(n:Nat):ie aj 5 n=(List.replicate n (.int .u8 0)).toArray:=B7 U3 U3 n
theorem DL(f:Nat->ag)(m:Nat):∀v∈e8 f m,Plain v:=by
 intro v a;obtain⟨i,_,rfl⟩:=df.1 a;trivial
theorem Ja{s:U}{xs:O Y}(h:Src 1 w s xs)(d:∀v∈xs,Plain v)(j:s.len<=1000000):
 aI aj 173 #[s] w (λv w'=>∃b:U,v=b/\aL 1 5 w' b xs/\Ext w w'/\∀k,ar b k->w<=k):=by
 refine okF (ad.vQ s) ay.vQ func173 ?_;(delta ad.vQ au af ap ae;dsimp only);refine⟨λc=>?_,λ_=>?_⟩
 .have c:s.a=none:=by simpa using c
  rw[h.nil c];exact⟨⟨none,0,0⟩,rfl,aL.none _ _ _,.refl _ _,λk e=>(gE k e).elim⟩
 .obtain⟨b,w',h1,f,l,g,i,_⟩:=I8.clone (c7:=206) h d I
  exact⟨b,w',h1,b,rfl,f,g,i⟩
theorem DM{s:U}{xs:O Y}(h:Src 1 w s xs)(d:∀v∈xs,Plain v)(j:s.len<=1000000):
 aI aj 46 #[s] w (λv w'=>∃b:U,v=b/\aL 1 5 w' b xs/\Ext w w'/\∀k,ar b k->w<=k):=by
 refine okF (ad.py s) ay.py func46 ?_;(delta ad.py au af ap ae;dsimp only);refine⟨λc=>?_,λ_=>?_⟩
 .have c:s.a=none:=by simpa using c
  rw[h.nil c];exact⟨⟨none,0,0⟩,rfl,aL.none _ _ _,.refl _ _,λk e=>(gE k e).elim⟩
 .obtain⟨b,w',h1,f,l,g,i,_⟩:=nC.clone (c7:=39) h d I
  exact⟨b,w',h1,b,rfl,f,g,i⟩
section
variable {w w':J}{b n:Nat}{f g:Nat->ag}{s1 s2:U}
theorem xR(h:aL 1 T w s1 (e8 f m)):s1.len=m:=by
 have:=h.1;rw[z2]at this;omega
theorem z7{u:Y}(c:bp w b #[n,s1,u] 209)(h1:aL 1 5 w s1 (e8 f m))(hd:∀k,ar s1 k->k≠b)(g:m<=1000000):
 aI aj 112 #[.pointer (some b)] w (λv w'=>v=.tuple #[]/\∃a:U,bp w' b #[n,s1,a] 209/\
  aL 1 5 w' s1 (e8 f m)/\aL 1 5 w' a (e8 f m)/\aa (λk=>k=b) w w'/\∀k,ar a k->w<=k):=by
 refine ad.GW _ w _ ?_;(delta ad.tt au af aE aJ bU st;dsimp only);refine⟨λ_=>⟨_,rfl,s1,by rw[aw,c.cell];rfl,(Ja h1.src (DL f m) (by rw[xR h1];exact g)).use ?_⟩,λh=>by simp at h⟩;rintro _ ah ⟨a,rfl,i,hx,hf⟩;have d:=c.ext hx;have j:∀k,ar a k->k≠b:=λk l e=>U5 (hf k l) c.lt
 refine⟨a,rfl,_,rfl,⟨_,by rw[aw,d.cell];rfl⟩,d.frozen _ rfl,rfl,a,?_,?_,?_,?_,hf⟩
 .rw[aw];exact d.set 2 _
 .exact(h1.ext hx).ab (W:=λk=>k=b) (aa.set (.refl _ _) (λ_=>by rw[aw]) _) hd
 .exact i.ab (W:=λk=>k=b) (aa.set (.refl _ _) (λ_=>by rw[aw]) _) j
 .exact(aa.da hx).set (λ_=>by rw[aw]) _
theorem Jb(h:e1 w b n f g s1 s2):
 aI aj 112 #[.pointer (some b)] w (λv w'=>v=.tuple #[]/\∃c:U,e1 w' b n f f s1 c/\aa (eH b s1 s2) w w'/\∀k,eH b s1 c k->eH b s1 s2 k\/w<=k):=by
 have o:=h.bz;refine(z7 h.bn h.now (λk a=>(h.d1 k a).1) I).mono ?_;rintro _ w' ⟨rfl,c,h1,i,j,l,d⟩;refine⟨rfl,c,⟨h1,i,j,λk a=>⟨(h.d1 k a).1,λm=>?_⟩,λk a e=>?_,h.bL,h.bz,h.pf,h.pf⟩,l.mono λk _ a=>.inl a,λk a=>?_⟩
 .have:=d k m;have:=h.now.lt k a;omega
 .have:=d k a;have:=h.bn.lt;omega
 .obtain rfl|a|a:=a
  .exact .inl (.inl rfl)
  .exact .inl (.inr (.inl a))
  .exact .inr (d k a)
def r0(x:Nat):Nat:=(x.testBit 0).toNat+(x.testBit 1).toNat+(x.testBit 2).toNat+(x.testBit 3).toNat+(x.testBit 4).toNat+(x.testBit 5).toNat+(x.testBit 6).toNat+(x.testBit 7).toNat
def cH(t:Nat->ag):Nat->Nat
 |0=>0
 |k+1=>cH t k+(t k).toNat
theorem l9(t:Nat->ag):∀k,cH t k<=k
 |0=>a_ _
 |k+1=>by have:=l9 t k;have:=Bool.toNat_le (t k);simp only[cH];omega
theorem Jc(t:Nat->ag)(i:Nat):cH t (8*(i+1))=cH t (8*i)+r0 (byteOf t i):=by
 have h:∀j,j<8->(byteOf t i).testBit j=t (8*i+j):=λj a=>oL t i j a;unfold r0;rw[h 0 I,h 1 I,h 2 I,h 3 I,h 4 I,h 5 I,h 6 I,h 7 I];show cH t (8*i+7+1)=_;simp only[cH,lO];omega
theorem DN(t:Nat->ag)(n:Nat)(h:∀i,n<=i->t i=false):∀k,cH t (n+k)=cH t n
 |0=>rfl
 |k+1=>by
  have:=DN t n h k
  show cH t (n+k)+(t (n+k)).toNat=_
  rw[this,h (n+k) I]
  rfl
theorem Jd:∀x:Nat,x<256->(yq (ByteArray.mk #[0,1,1,2,1,2,2,3,1,2,2,3,2,3,3,4,1,2,2,3,2,3,3,4,2,3,3,4,3,4,4,5,1,2,2,3,2,3,3,4,2,3,3,4,3,4,4,5,2,3,3,4,3,4,4,5,3,4,4,5,4,5,5,6,1,2,2,3,2,3,3,4,2,3,3,4,3,4,4,5,2,3,3,4,3,4,4,5,3,4,4,5,4,5,5,6,2,3,3,4,3,4,4,5,3,4,4,5,4,5,5,6,3,4,4,5,4,5,5,6,4,5,5,6,5,6,6,7,1,2,2,3,2,3,3,4,2,3,3,4,3,4,4,5,2,3,3,4,3,4,4,5,3,4,4,5,4,5,5,6,2,3,3,4,3,4,4,5,3,4,4,5,4,5,5,6,3,4,4,5,4,5,5,6,4,5,5,6,5,6,6,7,2,3,3,4,3,4,4,5,3,4,4,5,4,5,5,6,3,4,4,5,4,5,5,6,4,5,5,6,5,6,6,7,3,4,4,5,4,5,5,6,4,5,5,6,5,6,6,7,4,5,5,6,5,6,6,7,5,6,6,7,6,7,7,8]) x).map (·.toNat)=some (r0 x):=by decide+kernel
theorem DO(x:Nat):r0 x<=8:=by
 unfold r0;have h:∀b:ag,b.toNat<=1:=Bool.toNat_le;have:=h (x.testBit 0);have:=h (x.testBit 1);have:=h (x.testBit 2);have:=h (x.testBit 3);have:=h (x.testBit 4);have:=h (x.testBit 5);have:=h (x.testBit 6);have:=h (x.testBit 7);omega
theorem Je(w:J)(x:Nat)(hx:x<256):aI aj 181 #[.int .u8 x] w (λv w'=>v=.int .i64 (r0 x)/\w=w'):=by
 refine okF (ad.vR x) ay.vR func181 ?_;delta ad.vR ai;have h:=Jd x hx;refine⟨I,?_⟩
 cases a:yq _ x with
 |none=>rw[a]at h;cases h
 |some y=>
  rw[a]at h;simp only[mX,Option.some.injEq]at h;refine⟨y,a,?_,rfl⟩;rw[h,bl I (U4 (DO x))]
theorem Jf(f g:Nat->ag)(i:Nat):byteOf f i|||byteOf g i=byteOf (λk=>f k||g k) i:=
 xO _ _ _ (z1 _ (k2 _ _) _ (k2 _ _)) λj a=>by rw[nK,oL _ _ _ a,oL _ _ _ a]
theorem z8(h:e1 w b n f g s1 s2):
 aI aj 129 #[.pointer (some b)] w (λv w'=>v=.int .i64 ((n:Int)-cH (λi=>f i||g i) n)/\Ext w w'):=by
 have p:=h.bz;have q:=xR h.now;have s:=xR h.sure;refine ad.GX _ w _ ?_;(delta ad.tu au af aE r1 aJ gg b1 dC aQ aO ky bA aV b5 ai;dsimp only);refine⟨λh1=>by simp at h1,λ_=>⟨_,rfl,n,h.bM,_,rfl,s1,h.aR,λr i w'=>∃k:Nat,i=k/\k<=s1.len/\Ext w w'/\r=(n:Int)-cH (λi=>f i||g i) (8*k),λ_ i _=>((s1.len:Int)-i).toNat,⟨0,rfl,I,.refl _ _,by simp[cH]⟩,?_⟩⟩;rintro _ _ w1 ⟨k,rfl,t,hx,rfl⟩;refine⟨λaB=>?_,λc=>?_⟩
 .have d:k<s1.len:=by simpa using aB
  have h1:=h.ext hx.drew;obtain⟨c3,aR,j,u,_,_,_,l,_⟩:=h1.now.cell (p3 f (i:=k) I);obtain⟨cu,a7,m,x,_,_,_,o,_⟩:=h1.sure.cell (p3 g (i:=k) I);have a:∀b:Nat,(Addr.mk b 0 none).add (Int.toNat (k:Int)*1)=⟨b,k,none⟩:=λb=>by rw[eY,cS,aw,cT]
  refine⟨λ_=>False,_,rfl,by simp,s1,h1.aR,_,j,I,by simp,_,by rw[a];exact l,_,rfl,by simp,s2,h1.a7,_,m,I,by simp,_,by rw[a];exact o,?_⟩;rw[IV _ _ (k2 _ _) (k2 _ _),Jf];refine(Je _ _ (k2 _ _)).use ?_;rintro _ _ ⟨rfl,rfl⟩;have:=DO (byteOf (λi=>f i||g i) k);have:=l9 (λi=>f i||g i) (8*k);refine⟨_,rfl,.refl _ _,?_⟩;rw[bl (n:=(n:Int)-_-_) I I,bl (n:=(k:Int)+1) I I];exact⟨⟨k+1,I,I,hx.drew,by rw[Jc];omega⟩,(show((s1.len:Int)-((k:Int)+1)).toNat<((s1.len:Int)-(k:Int)).toNat from I)⟩
 .have d:k=s1.len:=by
   have:¬(k:Int)<s1.len:=by simpa using c
   omega
  refine⟨?_,hx⟩;have e:8*k=n+(8*k-n):=I
  rw[e,DN _ _ (λi hi=>by simp[h.pf i hi,h.dZ i hi])]
def ff(f:Nat->ag):Nat->O Int
 |0=> []
 |k+1=>ff f k++(if f k then [(k:Int)] else [])
def mO(f:Nat->ag)(k:Nat):O Y:=(ff f k).map (.int .i64)
theorem xS(f:Nat->ag):∀k,(ff f k).length<=k
 |0=>a_ _
 |k+1=>by have:=xS f k;simp only[ff,b6];split<;>simp<;>omega
theorem DP(h:e1 w b n f g s1 s2):
 aI aj 142 #[.pointer (some b)] w (λv w'=>∃s:U,v=s/\aL 1 3 w' s (mO f n)/\Ext w w'/\∀k,ar s k->w<=k):=by
 have B:=h.bz;refine ad.G1 _ w _ ?_;(delta ad.tw au af aE r1 jd aJ bR ap ae ai;dsimp only);refine⟨λh1=>by simp at h1,λ_=>⟨_,rfl,n,h.bM,λs i w'=>∃k:Nat,i=k/\k<=n/\Ext w w'/\aL 1 3 w' s (mO f k)/\∀k,ar s k->w<=k,λ_ i _=>((n:Int)-i).toNat,
  ⟨0,rfl,I,.refl _ _,aL.none _ _ _,λk l=>(gE k l).elim⟩,?_⟩⟩
 rintro s _ w1 ⟨k,rfl,l,hx,c,d⟩;refine⟨λaB=>?_,λp=>?_⟩
 .have m:k<n:=by simpa using aB
  have h1:=h.ext hx;refine cx (λa w'=>Ext w w'/\aL 1 3 w' a (mO f (k+1))/\∀k,ar a k->w<=k) (λq o=>⟨_,rfl,s1,h1.aR,(p4 h1.now (k:=k) I I).use ?_⟩) ?_
  .rintro _ _ ⟨rfl,rfl⟩
   refine⟨_,rfl,λhf=>?_,λhf=>?_⟩
   .have hlen:s.len<=k:=by
     have:=c.1;have:=xS f k;simp[mO]at*;omega
    obtain⟨a,w',h1,r,C,t,u⟩:=I9.push (c7:=72) (xs:=[k]) rfl c (by simp[Plain]) I;refine⟨a,w',h1,o _ _ ⟨?_,?_,?_⟩⟩
    .exact((aa.da hx).trans t).mono λk l x=>U4 (d k x)
    .simpa[mO,ff,hf] using r
    .intro j e
     rcases u j e with e|e
     .exact d j e
     .have:=hx.size;omega
   .exact o _ _ ⟨hx,by simpa[mO,ff,hf] using c,d⟩
  .rintro a w' ⟨y,z,A⟩
   rw[bl I I];exact⟨⟨k+1,I,I,y,z,A⟩,(show((n:Int)-((k:Int)+1)).toNat<((n:Int)-(k:Int)).toNat from I)⟩
 .have m:k=n:=by
   have:¬(k:Int)<n:=by simpa using p
   omega
  subst m;exact⟨s,rfl,c,hx,d⟩
theorem DQ(h:e1 w b n f g s1 s2):
 aI aj 57 #[.pointer (some b)] w (λv w'=>∃s:U,v=s/\aL 1 5 w' s (e8 f ((n+7)/8))/\Ext w w'/\∀k,ar s k->w<=k):=by
 have c:=h.bz;refine ad.GP _ w _ ?_;(delta ad.tn af aE aJ bU;dsimp only);refine⟨λh1=>by simp at h1,λ_=>⟨_,rfl,s1,h.aR,(DM h.now.src (DL f _) (by rw[xR h.now];omega)).use ?_⟩⟩;rintro _ ah ⟨s,rfl,a,hx,hf⟩;exact⟨s,rfl,s,rfl,a,hx,hf⟩
end
theorem DR(w:J)(n:Int):aI aj 109 #[n] w (λv w'=>v=.bool (decide (1<=n/\n<=1600))/\w=w'):=by
 refine okF (ad.wB n) ay.wB func109 ?_;unfold ad.wB;refine⟨?_,rfl⟩;simp[Bool.decide_and]
theorem DS(w:J)(n:Nat)(a:n<=1600):aI aj 110 #[n] w (λv w'=>v=.int .i64 (((n+7)/8:Nat):Int)/\w=w'):=by
 refine okF (ad.wC n) ay.wC func110 ?_;delta ad.wC ai;refine⟨by decide,?_,rfl⟩;rw[bl (n:=(n:Int)+8) I I,bl (n:=(n:Int)+8-1) I I,show(n:Int)+8-1=((n+7:Nat):Int) from I,DD,bl I I]
theorem Jg(m:Nat):e8 (λi=>decide (i<0)) m=List.replicate m (.int .u8 0):=by
 apply List.ext_getElem
 .simp[e8]
 .intro i h1 a
  simp[e8,byteOf,l8]
theorem Jh(j:Nat):c9 (λi=>decide (i<j)) j true=λi=>decide (i<j+1):=by
 funext i;unfold c9;split
 .rename_i h;simp[h]
 .rename_i h;simp;omega
theorem q6(w:J)(n first:Int):
 aI aj 54 #[.int .i64 n,.int .i64 first] w (λv w'=>(¬(1<=n/\n<=1600/\0<=first/\first<=n)/\v=.tuple #[.pointer none,.int .i64 1]/\w=w')\/
  (1<=n/\n<=1600/\0<=first/\first<=n/\∃b s1 s2,v=.tuple #[.pointer (some ⟨b,0,none⟩),.int .i64 0]/\e1 w' b n.toNat (λi=>decide (i<first.toNat)) (λi=>decide (i<first.toNat)) s1 s2/\Ext w w'/\∀k,eH b s1 s2 k->w<=k)):=by
 refine okF (ad.q6 n first) ay.q6 func54 ?_;(delta ad.q6 au bR af b5 ly ae cW xs aJ e6 ai;dsimp only);refine(DR w n).use ?_;rintro _ _ ⟨rfl,rfl⟩;refine⟨_,rfl,λh=>.inl ⟨λhc=>?_,rfl,rfl⟩,λh=>?_⟩
 .simp at h;omega
 simp at h;obtain⟨⟨⟨F,G⟩,H⟩,K⟩:=h;obtain⟨n,rfl⟩:=sK (by omega:0<=n);obtain⟨first,rfl⟩:=sK (by omega:0<=first);refine(DS w n I).use ?_;rintro _ _ ⟨rfl,rfl⟩;refine⟨_,rfl,I,?_⟩;simp only[cS];rw[I_];obtain⟨m,f⟩:=U6 ((n+7)/8);rw[←f];have l:=aL.new (sz:=1) (T:=5) w (List.replicate m (.int .u8 0)) m U9 (by show m<=2^63-1;omega);rw[←Jg]at l⊢;have ak:Ext w (w.alloc (.cells (e8 (λi=>decide (i<0)) m).toArray 5)):=aa.alloc (.refl _ _) _;generalize s:w.alloc (.cells (e8 (λi=>decide (i<0)) m).toArray 5)=w1 at*;have L:w1.heap.size=w+1:=by rw[←s];simp
 have t:=bp.new w1 #[.int .i64 (n:Int),.slice (some ⟨w,0,none⟩) m m,.slice none 0 0] 209;have u:=aa.alloc ak (.cells #[.int .i64 (n:Int),.slice (some ⟨w,0,none⟩) m m,.slice none 0 0] 209);have x:=l.ext (aa.alloc (.refl _ w1) (.cells #[.int .i64 (n:Int),.slice (some ⟨w,0,none⟩) m m,.slice none 0 0] 209));refine⟨λi w'=>∃j:Nat,i=j/\j<=first/\Ext w w'/\bp w' w1.heap.size #[.int .i64 (n:Int),.slice (some ⟨w,0,none⟩) m m,.slice none 0 0] 209/\
  aL 1 5 w' ⟨some ⟨w,0,none⟩,m,m⟩ (e8 (λi=>decide (i<j)) m),λi _=>((first:Int)-i).toNat,⟨0,rfl,I,u,t,x⟩,?_⟩
 rintro _ ah ⟨j,rfl,M,hx,d,o⟩;refine⟨λaB=>?_,λy=>?_⟩
 .have p:j<first:=by simpa using aB
  refine⟨_,rfl,⟨some ⟨w,0,none⟩,m,m⟩,by rw[aw,d.cell];rfl,(DF o (k:=j) I I).use ?_⟩;rintro _ z ⟨rfl,q,hc⟩;rw[Jh]at q;rw[bl I I];refine⟨rfl,⟨j+1,I,I,?_,d.ab hc ?_,q⟩,(show((first:Int)-((j:Int)+1)).toNat<((first:Int)-(j:Int)).toNat from I)⟩
  .exact((aa.da hx).trans hc).mono λk a c=>by rw[hZ]at c;simp at c;omega
  .intro c
   rw[hZ]at c;simp at c;omega
 .have p:j=first:=by
   have:¬(j:Int)<first:=by simpa using y
   omega
  subst p;have r:∀i,n<=i->decide (i<j)=false:=λi hi=>by simp;omega
  refine(z7 d o (λk a e=>?_) I).use ?_
  .rw[hZ]at a
   simp at a;omega
  rintro _ z ⟨rfl,A,h1,B,C,D,g⟩;have N:=d.lt;refine⟨rfl,.inr ⟨I,I,I,I,w1.heap.size,⟨some ⟨w,0,none⟩,m,m⟩,A,rfl,⟨h1,?_,?_,λk a=>⟨λe=>?_,λE=>?_⟩,λk a e=>?_,I,I,r,r⟩,?_,?_⟩⟩
  .simp only[←f];exact B
  .simp only[←f];exact C
  .rw[hZ]at a
   simp at a;omega
  .rw[hZ]at a
   simp at a;have:=g k E;omega
  .have:=g k a
   omega
  .exact((aa.da hx).trans D).mono λk a e=>by omega
  .rintro k (rfl|a|a)
   .omega
   .rw[hZ]at a
    simp at a;omega
   .have:=g k a
    have:=hx.size;omega
theorem Ji:hY aj 174 4 1 1:=⟨by kernel_rfl⟩
theorem DT(f:Nat->ag)(m:Nat):iu f (m+1)=iu f m++ [.bool (f m)]:=by simp[iu,sF]
structure e2(w:J)(b n:Nat)(f g:Nat->ag)(s1 s2:U):Prop where
 bn:bp w b #[s1,s2] 176
 now:aL 1 4 w s1 (iu f n)
 sure:aL 1 4 w s2 (iu g n)
 d1:∀k,ar s1 k->k≠b/\¬ar s2 k
 d2:∀k,ar s2 k->k≠b
section
variable {w w':J}{b n:Nat}{f g:Nat->ag}{s1 s2:U}
theorem e2.ab(h:e2 w b n f g s1 s2)(hc:aa W w w')(a:∀k,eH b s1 s2 k->¬W k):e2 w' b n f g s1 s2:=
 ⟨h.bn.ab hc (a b (.inl rfl)),h.now.ab hc λk c=>a k (.inr (.inl c)),h.sure.ab hc λk c=>a k (.inr (.inr c)),h.d1,h.d2⟩
theorem e2.ext(h:e2 w b n f g s1 s2)(hc:Ext w w'):e2 w' b n f g s1 s2:=h.ab hc λ_ _ h=>h
theorem e2.lt(h:e2 w b n f g s1 s2):∀k,eH b s1 s2 k->k<w:=by
 rintro k (rfl|a|a)
 .exact h.bn.lt
 .exact h.now.lt k a
 .exact h.sure.lt k a
theorem e2.bM(h:e2 w b n f g s1 s2):w.cell? b=some (.slice s1.a s1.len s1.cap):=by rw[h.bn.cell];rfl
theorem e2.aR(h:e2 w b n f g s1 s2):w.cell? ((Addr.mk b 0 none).add 1)=some (.slice s2.a s2.len s2.cap):=by rw[aw,h.bn.cell];rfl
theorem e2.DU(h:e2 w b n f g s1 s2):s1.len=n:=by have:=h.now.1;rw[xP]at this;omega
theorem e2.Jj(h:e2 w b n f g s1 s2):s2.len=n:=by have:=h.sure.1;rw[xP]at this;omega
theorem DV{s x:U}{vs:O Y}{c:ag}(e:aL 1 4 w s vs)(d:Src 1 w x [.bool c])(hs:s.len<=1000000):
 ∃ (b:U) (w':J),Sem.run aj (Builtin.append_ #[174,174] 174 #[.slice s.a s.len s.cap,.slice x.a x.len x.cap]) w=.ok (.slice b.a b.len b.cap) w'/\
  aL 1 4 w' b (vs++ [.bool c])/\aa (ar s) w w'/\(∀k,ar b k->ar s k\/w<=k):=by
 have hx:=d.len;simp at hx;obtain⟨b,w',h1,f,_,g,h⟩:=Ji.append (c7:=174) d e (by simp[Plain]) I;exact⟨b,w',h1,f,g,h⟩
def p5(s1 s2:U)(k:Nat):Prop:=ar s1 k\/ar s2 k
def Grown(w w':J)(b n:Nat)(f g:Nat->ag)(s1 s2 t1 t2:U):Prop:=
 bp w' b #[s1,s2] 176/\aL 1 4 w' t1 (iu f (n+1))/\aL 1 4 w' t2 (iu g (n+1))/\aa (p5 s1 s2) w w'/\
 (∀k,ar t1 k->k≠b/\¬ar t2 k)/\(∀k,ar t2 k->k≠b)/\(∀k,p5 t1 t2 k->p5 s1 s2 k\/w<=k)
theorem grow(h:e2 w b n f g s1 s2)(z:n<=100000){l:J}(ak:Ext w l){m:U}(t:Src 1 l m [.bool (f n)]):
 ∃ (t1:U) (w1:J),Sem.run aj (Builtin.append_ #[174,174] 174 #[.slice s1.a s1.len s1.cap,.slice m.a m.len m.cap]) l=.ok (.slice t1.a t1.len t1.cap) w1/\
  aa (p5 s1 s2) l w1/\∀ {d:J},Ext w1 d->∀ {i:U},Src 1 d i [.bool (g n)]->
  ∃ (t2:U) (ah:J),Sem.run aj (Builtin.append_ #[174,174] 174 #[.slice s2.a s2.len s2.cap,.slice i.a i.len i.cap]) d=.ok (.slice t2.a t2.len t2.cap) ah/\
   aa (p5 s1 s2) d ah/\Grown w ah b n f g s1 s2 t1 t2:=by
 have p:=h.ext ak;obtain⟨t1,w1,r1,q,aR,f1⟩:=DV p.now t (by rw[h.DU];omega);refine⟨t1,w1,r1,aR.mono λk _ c=>.inl c,?_⟩;intro d j i u;have A:=ak.size;have B:=j.size;have C:=aR.size;have v:aL 1 4 d s2 (iu g n):=(p.sure.ab aR λk c h1=>(h.d1 k h1).2 c).ext j;obtain⟨t2,ah,bA,x,a7,f2⟩:=DV v u (by rw[h.Jj];omega);have r:∀k,ar t1 k->¬ar s2 k:=λk c o=>by
  rcases f1 k c with h1|h1
  .exact(h.d1 k h1).2 o
  .have:=h.sure.lt k o;omega
 have y:∀k,ar t1 k->k<w1:=λk c=>q.lt k c;refine⟨t2,ah,bA,a7.mono λk _ c=>.inr c,?_,?_,?_,?_,?_,?_,?_⟩
 .exact((p.bn.ab aR λc=>(h.d1 b c).1 rfl).ext j).ab a7 λc=>h.d2 b c rfl
 .rw[DT]
  exact(q.ext j).ab a7 r
 .rw[DT];exact x
 .refine(aa.da ak).trans ((aR.mono λk _ c=>.inl c).trans ((aa.da j).trans (a7.mono λk _ c=>.inr c)))
 .intro k c
  refine⟨λe=>?_,λo=>?_⟩
  .rcases f1 k c with h1|h1
   .exact(h.d1 k h1).1 e
   .have:=h.bn.lt;omega
  .rcases f2 k o with s|s
   .exact r k c s
   .have:=y k c;omega
 .intro k c e
  rcases f2 k c with h1|h1
  .exact h.d2 k h1 e
  .have:=h.bn.lt;omega
 .rintro k (c|c)
  .rcases f1 k c with h1|h1
   .exact .inl (.inl h1)
   .exact .inr I
  .rcases f2 k c with h1|h1
   .exact .inl (.inr h1)
   .exact .inr I
theorem Grown.bM{t1 t2:U}(h:Grown w w' b n f g s1 s2 t1 t2):(∃u,w'.cell? b=some u)/\w'.frozen? b=false:=⟨⟨_,by rw[h.1.cell];rfl⟩,h.1.frozen _ rfl⟩
theorem Grown.aR{t1 t2:U}(h:Grown w w' b n f g s1 s2 t1 t2)(v:Y):(∃u,(w'.setCell b v).cell? ((Addr.mk b 0 none).add 1)=some u)/\(w'.setCell b v).frozen? ((Addr.mk b 0 none).add 1)=false:=by
 rw[aw];exact⟨⟨_,by rw[(h.1.set 0 v).cell];rfl⟩,(h.1.set 0 v).frozen _ rfl⟩
theorem Grown.fin{t1 t2:U}(h:Grown w w' b n f g s1 s2 t1 t2):
 e2 ((w'.setCell b t1).setCell ((Addr.mk b 0 none).add 1) t2) b (n+1) f g t1 t2/\
 aa (eH b s1 s2) w ((w'.setCell b t1).setCell ((Addr.mk b 0 none).add 1) t2)/\
 ∀k,eH b t1 t2 k->eH b s1 s2 k\/w<=k:=by
 obtain⟨h1,e,i,j,c,d,l⟩:=h;rw[aw];have hc:aa (λk=>k=b) w' ((w'.setCell b t1).setCell ⟨b,0+1,none⟩ t2):=
  aa.set (W:=λk=>k=b) (aa.set (W:=λk=>k=b) (.refl _ _) (λ_=>rfl) _) (λ_=>rfl) _
 refine⟨⟨(h1.set 0 _).set 1 _,e.ab hc λk a=>(c k a).1,i.ab hc d,c,d⟩,?_,?_⟩
 .exact(j.mono λk _ a=>.inr a).trans (hc.mono λk _ a=>.inl a)
 .rintro k (rfl|a)
  .exact .inl (.inl rfl)
  .rcases l k a with h|h
   .exact .inl (.inr h)
   .exact .inr h
theorem Jk(w:J)(n first:Int)(y:n<=100000):
 aI aj 160 #[.int .i64 n,.int .i64 first] w (λv w'=>∃b s1 s2,v=.pointer (some ⟨b,0,none⟩)/\e2 w' b n.toNat (λi=>decide ((i:Int)<first)) (λi=>decide ((i:Int)<first)) s1 s2/\Ext w w'/\∀k,eH b s1 s2 k->w<=k):=by
 refine okF (ad.xh n first) ay.xh func160 ?_;(delta ad.xh au cW af b1 xs ae dC aJ ap vI st ai;dsimp only);refine⟨λi w'=>∃j:Nat,i=j/\j<=n.toNat/\Ext w w'/\∃s1 s2,e2 w' w j (λi=>decide ((i:Int)<first)) (λi=>decide ((i:Int)<first)) s1 s2/\∀k,eH w s1 s2 k->w<=k,
  λi _=>(n-i).toNat,⟨0,rfl,I,aa.alloc (.refl _ _) _,⟨none,0,0⟩,⟨none,0,0⟩,⟨bp.new w _ _,aL.none _ _ _,aL.none _ _ _,λk c=>(gE k c).elim,λk c=>(gE k c).elim⟩,?_⟩,?_⟩
 .rintro k (rfl|c|c)
  .exact a_ _
  .exact(gE k c).elim
  .exact(gE k c).elim
 rintro _ w1 ⟨j,rfl,z,hx,s1,s2,h,f⟩;refine⟨λaB=>?_,λr=>?_⟩
 .have s:(j:Int)<n:=by simpa using aB
  have hd:=h.ext (aa.drew (.refl _ w1));have q:¬p5 s1 s2 w.heap.size:=by
   rintro(c|c)
   .exact(h.d1 _ c).1 rfl
   .exact h.d2 _ c rfl
  have g:∀ {w':J}{t1 t2:U},Grown w1.drew w' w j (λi=>decide ((i:Int)<first)) (λi=>decide ((i:Int)<first)) s1 s2 t1 t2->
   (∃l:Nat,IntKind.wrap .i64 ((j:Int)+1)=l/\l<=n.toNat/\Ext w ((w'.setCell ⟨w,0,none⟩ (.slice t1.a t1.len t1.cap)).setCell ((Addr.mk w 0 none).add 1) (.slice t2.a t2.len t2.cap))/\
     ∃s1 s2,e2 ((w'.setCell ⟨w,0,none⟩ (.slice t1.a t1.len t1.cap)).setCell ((Addr.mk w 0 none).add 1) (.slice t2.a t2.len t2.cap)) w l (λi=>decide ((i:Int)<first)) (λi=>decide ((i:Int)<first)) s1 s2/\∀k,eH w s1 s2 k->w<=k)/\
     (n-IntKind.wrap .i64 ((j:Int)+1)).toNat<(n-(j:Int)).toNat:=by
   intro w' t1 t2 hg;obtain⟨ao,t,u⟩:=hg.fin;rw[bl I I];refine⟨⟨j+1,I,I,?_,t1,t2,ao,?_⟩,I⟩
   .exact((aa.da hx.drew).trans t).mono λk c x=>U4 (f k x)
   .intro k c
    rcases u k c with h1|h1
    .exact f k h1
    .have:=hx.size
     simp only[Gl]at h1;omega
  have d:∀ah:J,Src 1 (ah.alloc (.cells #[.bool (decide ((j:Int)<first))] 4)) ⟨some ⟨ah,0,none⟩,1,1⟩ [.bool (decide ((j:Int)<first))]:=λah=>Src.new (T:=4) ah [.bool (decide ((j:Int)<first))] 1 rfl;have m:j<=100000:=I
  refine⟨p5 s1 s2,_,rfl,q,s1,hd.bM,_,rfl,q,s2,hd.aR,⟨aa.alloc (.refl _ _) _,?_,?_⟩,aa.alloc (.refl _ _) _,aa.alloc (.refl _ _) _,?_⟩
  .obtain⟨t1,ah,r1,aR,b4⟩:=grow hd m (aa.alloc (.refl _ _) _) (d _)
   obtain⟨t2,e,bA,a7,hg⟩:=b4 (aa.alloc (.refl _ ah) _) (d _);exact⟨t1,ah,r1,aR,aa.alloc (.refl _ _) _,t2,e,bA,a7,_,rfl,hg.bM.1,hg.bM.2,_,rfl,(hg.aR _).1,(hg.aR _).2,g hg⟩
  .have ak:Ext w1.drew ((w1.drew.alloc (.cells #[.bool (decide ((j:Int)<first))] 4)).alloc (.cells #[.bool (decide ((j:Int)<first))] 4)):=aa.alloc (aa.alloc (.refl _ _) _) _
   obtain⟨t1,ah,r1,aR,b4⟩:=grow hd m ak ((d w1.drew).alloc _);have o:=(d (w1.drew.alloc (.cells #[.bool (decide ((j:Int)<first))] 4))).ab aR (λk c p=>by
    rw[hZ]at c;have:=hd.lt k (.inr p);simp at c this;omega)
   obtain⟨t2,e,bA,a7,hg⟩:=b4 (.refl _ ah) o;exact⟨aa.alloc (.refl _ _) _,t1,ah,r1,aR,t2,e,bA,a7,_,rfl,hg.bM.1,hg.bM.2,_,rfl,(hg.aR _).1,(hg.aR _).2,g hg⟩
  .have ak:Ext w1.drew ((w1.drew.alloc (.cells #[.bool (decide ((j:Int)<first))] 4)).alloc (.cells #[.bool (decide ((j:Int)<first))] 4)):=aa.alloc (aa.alloc (.refl _ _) _) _
   obtain⟨t1,ah,r1,aR,b4⟩:=grow hd m ak (d (w1.drew.alloc (.cells #[.bool (decide ((j:Int)<first))] 4)));have o:=((d w1.drew).alloc (.cells #[.bool (decide ((j:Int)<first))] 4)).ab aR (λk c p=>by
    rw[hZ]at c;have:=hd.lt k (.inr p);simp at c this;omega)
   obtain⟨t2,e,bA,a7,hg⟩:=b4 (.refl _ ah) o;exact⟨t1,ah,r1,aR,t2,e,bA,a7,_,rfl,hg.bM.1,hg.bM.2,_,rfl,(hg.aR _).1,(hg.aR _).2,g hg⟩
 .have s:(j:Int)=n.toNat:=by
   have:¬(j:Int)<n:=by simpa using r
   omega
  have:j=n.toNat:=I
  subst this;exact⟨_,s1,s2,rfl,h,hx,f⟩
end
section
variable {w w':J}{b n:Nat}{f g:Nat->ag}{s1 s2:U}
theorem e2.Jl(h:e2 w b n f g s1 s2){A:ax}(x:ag)(d:ar s1 A.block)(c:aL 1 4 (w.setCell A x) s1 ((iu f n).set k x)):
 e2 (w.setCell A x) b n (c9 f k x) g s1 s2/\aa (eH b s1 s2) w (w.setCell A x):=by
 have hc:aa (ar s1) w (w.setCell A x):=aa.set (.refl _ _) (λ_=>d) _;rw[DC]at c;exact⟨⟨h.bn.ab hc λa=>(h.d1 b a).1 rfl,c,h.sure.ab hc λk a h1=>(h.d1 k h1).2 a,h.d1,h.d2⟩,hc.mono λk _ a=>.inr (.inl a)⟩
theorem e2.Jm(h:e2 w b n f g s1 s2){A:ax}(x:ag)(d:ar s2 A.block)(c:aL 1 4 (w.setCell A x) s2 ((iu g n).set k x)):
 e2 (w.setCell A x) b n f (c9 g k x) s1 s2/\aa (eH b s1 s2) w (w.setCell A x):=by
 have hc:aa (ar s2) w (w.setCell A x):=aa.set (.refl _ _) (λ_=>d) _;rw[DC]at c;exact⟨⟨h.bn.ab hc λa=>h.d2 b a rfl,h.now.ab hc λk a h1=>(h.d1 k a).2 h1,c,h.d1,h.d2⟩,hc.mono λk _ a=>.inr (.inr a)⟩
end
def bitsOf(ns:O Int)(i:Nat):ag:=((ns.getD (i/8) 0).toNat).testBit (i%8)
theorem tZ(ns:O Int)(i:Nat)(h:8*ns.length<=i):bitsOf ns i=false:=by
 unfold bitsOf;have:ns.length<=i/8:=I
 simp[List.getD,mw this]
theorem Jn(ns:O Int)(h:∀n∈ns,0<=n/\n<=255):ns.map (Value.int .u8)=e8 (bitsOf ns) ns.length:=by
 apply List.ext_getElem
 .simp[e8]
 .intro i h1 c
  have hi:i<ns.length:=by simpa using h1
  simp only[e8,List.getElem_map,List.getElem_range]
  congr 1
  obtain⟨hK,ao⟩:=h ns[i] (cg hi);have:=xO (bitsOf ns) i ns[i].toNat I (λj d=>by
   unfold bitsOf;have a:(8*i+j)/8=i:=I
   have b:(8*i+j)%8=j:=I
   rw[a,b];simp[List.getD,hi])
  rw[←this];omega
theorem Jo:∀x:Nat,x<256->∀j:Nat,j<8->((Int.tmod (Int.fdiv (x:Int) (2^(min (Int.toNat (IntKind.wrap .u64 (j:Int))) 8))) 2)==1)=x.testBit j/\(0:Int)<=IntKind.wrap .u64 (j:Int):=by decide+kernel
theorem Jp:∀x:Nat,x<256->∀j:Nat,j<8->decide (Int.fdiv (x:Int) (2^(min (Int.toNat (j:Int)) 8))>0)=(List.range 8).any (λk=>decide (j<=k)&&x.testBit k):=by decide+kernel
def below(f:Nat->ag)(k:Nat)(i:Nat):ag:=decide (i<k)&&f i
theorem Jq(f:Nat->ag):below f 0=λ_=>false:=by funext i;simp[below]
theorem Jr(h:f k=true):c9 (below f k) k true=below f (k+1):=by
 funext i;unfold c9 below;by_cases hi:i=k
 .subst hi;simp[h]
 .rw[if_neg hi]
  have:(i<k+1)↔i<k:=I
  simp[this]
theorem Js(h:f k=false):below f k=below f (k+1):=by
 funext i;unfold below;by_cases hi:i=k
 .subst hi;simp[h]
 .have:(i<k+1)↔i<k:=I
  simp[this]
theorem Jt{n:Nat}(h:∀i,n<=i->f i=false):below f n=f:=by
 funext i;unfold below;by_cases hi:i<n
 .simp[hi]
 .simp[hi,h i I]
section
variable {w w':J}{b n:Nat}{f g:Nat->ag}{s1 s2:U}
theorem Ju(n:Nat)(h:n<=100000):IntKind.wrap .i64 (Int.tdiv (IntKind.wrap .i64 ((n:Int)+7)) 8)=(((n+7)/8:Nat):Int):=by
 rw[bl (n:=(n:Int)+7) I I,show(n:Int)+7=((n+7:Nat):Int) from I,tY I]
def iv(ns:O Int)(n:Nat):Prop:=ns.length=(n+7)/8/\∀i,n<=i->bitsOf ns i=false
theorem Jv(n:Nat):(λi:Nat=>decide ((i:Int)<0))=λ_=>false:=by funext i;simp
theorem Jw{s:U}(hs:Src 1 w s (ns.map (.int .u8)))(p:∀x∈ns,(0:Int)<=x/\x<=255)(n:Nat)(al:n<=1600):
 aI aj 84 #[.slice s.a s.len s.cap,.int .i64 n] w (λv w'=>Ext w w'/\((¬iv ns n/\v=.pointer none)\/
  (iv ns n/\∃b s1 s2,v=.pointer (some ⟨b,0,none⟩)/\e2 w' b n (bitsOf ns) (bitsOf ns) s1 s2/\∀k,eH b s1 s2 k->w<=k))):=by
 have hlen:s.len=ns.length:=by have:=hs.len;simp at this;omega
 refine okF (ad.xg s n) ay.xg func84 ?_;(delta ad.xg au af ai jS cW aQ aO bA b1 aE dC aJ st aV;dsimp only);rw[Ju n I,hlen];refine⟨by decide,λf=>?_,λo=>?_⟩
 .have f:¬ns.length=(n+7)/8:=by
   intro h;rw[h]at f;simp at f
  exact⟨.refl _ _,.inl ⟨λh=>f h.1,rfl⟩⟩
 have o:ns.length=(n+7)/8:=by
  have:=o;simp only[bne_eq_false_iff_eq]at this;omega
 refine(Jk w n 0 I).use ?_;rintro _ w1 ⟨b,s1,s2,rfl,h,hx,r⟩;rw[cS,Jv n]at h;have am:ns.length<=201:=I
 rw[bl (n:=8*((ns.length:Nat):Int)) I I];refine⟨_,rfl,λi w'=>∃k:Nat,i=k/\k<=8*ns.length/\Ext w w'/\e2 w' b n (below (bitsOf ns) k) (below (bitsOf ns) k) s1 s2/\∀i,i<k->n<=i->bitsOf ns i=false,λi _=>(8*(ns.length:Int)-i).toNat,
  ⟨0,rfl,I,hx,by rw[Jq];exact h,λi hi=>I⟩,?_⟩
 rintro _ ah ⟨k,rfl,E,d,g,t⟩;refine⟨λaB=>?_,λe=>?_⟩
 .have u:k<8*ns.length:=by
   have:(k:Int)<8*(ns.length:Int):=by simpa using aB
   omega
  have j:k/8<ns.length:=I
  obtain⟨x,y⟩:∃x:Nat,ns[k/8]=(x:Int):=⟨ns[k/8].toNat,U4 (p _ (cg j))⟩;have F:x<256:=U4 (p _ (cg j))
  have G:bitsOf ns k=x.testBit (k%8):=by
   unfold bitsOf;simp[List.getD,j,y]
  obtain⟨A,ak,l,hc⟩:=(hs.ext d).at (i:=k/8) (v:=.int .u8 x) (by simp[j,y]);rw[hlen]at l;obtain⟨H,J⟩:=Jo x F (k%8) (gu _ I);refine jQ (λw'=>Ext w w'/\e2 w' b n (below (bitsOf ns) (k+1)) (below (bitsOf ns) (k+1)) s1 s2/\∀i,i<k+1->n<=i->bitsOf ns i=false) (λq z=>⟨by decide,?_⟩) ?_
  .rw[tY I,rZ]
   refine⟨A,ak,l,x,hc,by decide,J,by decide,?_⟩;rw[H,←G];refine⟨λht=>⟨λe=>?_,λaB=>?_⟩,λhf=>z _ ⟨d,?_,?_⟩⟩
   .have e:n<=k:=by
     have:(k:Int)>=n:=by simpa using e
     omega
    exact⟨d,.inl ⟨(λhg=>by rw[hg.2 k e]at ht;cases ht),rfl⟩⟩
   .have aB:k<n:=by
     have:¬(k:Int)>=n:=by simpa using aB
     omega
    have m:=g.ext (aa.drew (.refl _ ah));obtain⟨K,L,M,N,P,Q,R⟩:=m.now.at (tX (below (bitsOf ns) k) aB);obtain⟨B,fE⟩:=m.Jl true Q (R _);obtain⟨S,T,V,W,X,Y,Z⟩:=B.sure.at (tX (below (bitsOf ns) k) aB);obtain⟨C,fW⟩:=B.Jm true Y (Z _);refine⟨λ_=>False,_,rfl,by simp,s1,m.bM,_,rfl,by simp,s2,m.aR,K,L,M,⟨_,N⟩,P,S,T,V,⟨_,W⟩,X,z _ ⟨?_,?_,?_⟩⟩
    .exact((aa.da d.drew).trans (fE.trans fW)).mono λk E ab=>U4 (r k ab)
    .rw[Jr ht]at C;exact C
    .intro i hi D;omega
   .rw[←Js hf];exact g
   .intro i hi D
    rcases dA i k with c|c
    .exact t i c D
    .have:i=k:=I
     rw[this];exact hf
  .rintro w' ⟨ac,ae,ag⟩
   rw[bl I I];exact⟨⟨k+1,I,I,ac,ae,ag⟩,(show(8*(ns.length:Int)-((k:Int)+1)).toNat<(8*(ns.length:Int)-(k:Int)).toNat from I)⟩
 .have u:k=8*ns.length:=by
   have:¬(k:Int)<8*(ns.length:Int):=by simpa using e
   omega
  subst u;have l:below (bitsOf ns) (8*ns.length)=bitsOf ns:=Jt (λi hi=>tZ ns i hi);rw[l]at g;refine⟨d,.inr ⟨⟨o,λi hi=>?_⟩,b,s1,s2,rfl,g,r⟩⟩;rcases dA i (8*ns.length) with c|c
  .exact t i c hi
  .exact tZ ns i c
theorem Jx{n:Nat}(l:ns.length=(n+7)/8)(m:0<n%8){x:Nat}(hx:x<256)(a:ns[ns.length-1]? =some (x:Int)):
 decide (Int.fdiv (x:Int) (2^(min (Int.toNat ((n%8:Nat):Int)) 8))>0)=false↔∀i,n<=i->bitsOf ns i=false:=by
 rw[Jp x hx _ (gu _ I)];have f:ns.length-1=n/8:=I
 rw[f]at a;rw[qk];constructor
 .intro h i hi
  rcases dA i (8*ns.length) with c|c
  .have e:i/8=n/8:=I
   unfold bitsOf;rw[e];simp only[List.getD,a,sw,cS];have:=h (i%8) (iV.2 (gu _ I));have b:n%8<=i%8:=I
   simpa[b] using this
  .exact tZ ns i c
 .intro h k d
  have d:=iV.1 d;by_cases b:n%8<=k
  .have:=h (8*(n/8)+k) I
   unfold bitsOf at this;have g:(8*(n/8)+k)/8=n/8:=I
   have j:(8*(n/8)+k)%8=k:=I
   rw[g,j]at this;simp only[List.getD,a,sw,cS]at this;simp[this]
  .simp[b]
theorem ot{s:U}(hs:Src 1 w s (ns.map (.int .u8)))(m:∀n∈ns,(0:Int)<=n/\n<=255)(Q:ns.length<=1000000)(n:Int):
 aI aj 138 #[.slice s.a s.len s.cap,.int .i64 n] w (λv w'=>Ext w w'/\((¬(1<=n/\n<=1600)/\v=.tuple #[.pointer none,.int .i64 1])\/
  (1<=n/\n<=1600/\¬iv ns n.toNat/\v=.tuple #[.pointer none,.int .i64 4])\/
  (1<=n/\n<=1600/\iv ns n.toNat/\∃b s1 s2,v=.tuple #[.pointer (some ⟨b,0,none⟩),.int .i64 0]/\e1 w' b n.toNat (bitsOf ns) (bitsOf ns) s1 s2/\∀k,eH b s1 s2 k->w<=k))):=by
 have hlen:s.len=ns.length:=by have:=hs.len;simp at this;omega
 refine okF (ad.ot s n) ay.ot func138 ?_;(delta ad.ot au bR af b5 ai bA bU e6 ae;dsimp only);refine(DR w n).use ?_;rintro _ _ ⟨rfl,rfl⟩;refine⟨_,rfl,λh=>⟨.refl _ _,.inl ⟨by simp at h;omega,rfl⟩⟩,λh=>?_⟩;have h:1<=n/\n<=1600:=by simpa using h
 obtain⟨n,rfl⟩:=sK (by omega:0<=n);simp only[cS];refine(DS w n I).use ?_;rintro _ _ ⟨rfl,rfl⟩;refine⟨_,rfl,cx (λc w'=>(c=true↔¬iv ns n)/\w=w') (λq u=>⟨λf=>u _ _ ⟨?_,rfl⟩,λg=>⟨by decide,?_⟩⟩) ?_⟩
 .have f:¬ns.length=(n+7)/8:=by
   intro h;rw[hlen,h]at f;simp at f
  exact⟨λ_ hg=>f hg.1,λ_=>rfl⟩
 .have g:ns.length=(n+7)/8:=by
   simp only[bne_eq_false_iff_eq]at g;omega
  refine cx (λc w'=>(c=true↔¬iv ns n)/\w=w') (λR y=>⟨λj=>?_,λj=>y _ _ ⟨?_,rfl⟩⟩) ?_
  .rw[rZ]at j⊢
   have z:0<n%8:=by
    have:((n%8:Nat):Int)>0:=by simpa using j
    omega
   have o:ns.length-1<ns.length:=I
   obtain⟨x,F⟩:∃x:Nat,ns[ns.length-1]=(x:Int):=⟨ns[ns.length-1].toNat,U4 (m _ (cg o))⟩;have G:x<256:=U4 (m _ (cg o))
   have B:ns[ns.length-1]? =some (x:Int):=by rw[dB o,F]
   obtain⟨A,ak,C,hc⟩:=hs.at (i:=ns.length-1) (v:=.int .u8 x) (by rw[ko,B];rfl);rw[hlen,bl I I,show(((ns.length:Nat):Int)-1)=((ns.length-1:Nat):Int) from I];rw[hlen]at C;refine⟨A,ak,C,x,hc,by decide,I,y _ _ ⟨?_,rfl⟩⟩;have D:=Jx g z G B;constructor
   .intro ht hg
    have:=D.2 hg.2;rw[ht]at this;cases this
   .intro p
    cases hd:decide (Int.fdiv (x:Int) (2^(min (Int.toNat ((n%8:Nat):Int)) 8))>0) with
    |true=>rfl
    |false=>exact(p ⟨g,D.1 hd⟩).elim
  .rw[rZ]at j
   have z:n%8=0:=by
    have:¬((n%8:Nat):Int)>0:=by simpa using j
    omega
   constructor
   .intro h;cases h
   .intro p
    exact(p ⟨g,λi hi=>tZ ns i I⟩).elim
  .rintro c _ ⟨hc,rfl⟩
   exact u _ _ ⟨hc,rfl⟩
 .rintro c _ ⟨hc,rfl⟩
  refine⟨λht=>⟨.refl _ _,.inr (.inl ⟨h.1,h.2,hc.1 ht,trivial⟩)⟩,λhf=>?_⟩;have hg:iv ns n:=by
   rcases Classical.em (iv ns n) with h|h
   .exact h
   .rw[hc.2 h]at hf;cases hf
  refine(DM hs (Gp _ _) I).use ?_;rintro _ ah ⟨t,rfl,l,hx,H⟩;rw[Jn ns m,hg.1]at l;have J:=bp.new ah #[.int .i64 (n:Int),.slice t.a t.len t.cap,.slice none 0 0] 209;have E:Ext ah (ah.alloc (.cells #[.int .i64 (n:Int),.slice t.a t.len t.cap,.slice none 0 0] 209)):=aa.alloc (.refl _ _) _;have f:∀k,ar t k->k≠ah.heap.size:=λk d e=>U4 (l.lt k d)
  refine⟨t,rfl,(z7 J (l.ext E) f I).use ?_⟩;rintro _ S ⟨rfl,K,h1,L,M,N,r⟩;have T:=hx.size;refine⟨rfl,?_,.inr (.inr ⟨h.1,h.2,hg,ah.heap.size,t,K,rfl,⟨h1,L,M,λk d=>⟨f k d,λP=>?_⟩,λk d e=>?_,I,I,hg.2,hg.2⟩,?_⟩)⟩
  .exact((aa.da (hx.trans E)).trans N).mono λk d e=>by omega
  .have:=r k P
   have:=l.lt k d;simp at*;omega
  .have:=r k d
   simp at this;omega
  .rintro k (rfl|d|d)
   .omega
   .exact H k d
   .have:=r k d
    simp at this;omega
end
structure Fr where
 full:ag
 gN:ag
 used:ag
 no:Int
 pins:Int
 b:U
 l:bY
def Fr.c(f:Fr):O Y:=[f.full,f.gN,f.used,f.no,f.pins,f.b]
def dU:Fr:=⟨false,false,false,0,0,⟨none,0,0⟩,[]⟩
structure cp where
 c:Nat
 a8:Nat
 al:O Fr
 hand:Nat
 D:aS
def di(C:cp)(q:Nat):Prop:=q=C.c\/q=C.a8\/bO C.D q
structure fA(w:J)(C:cp):Prop where
 v:Var w C.c [.pointer (some C.D.d),.slice (some C.a8) C.al.length C.al.length,C.hand] 268
 f:bp w C.a8 (cl Fr.c C.al).toArray 275
 dev:cf w C.D
 bJ:8<=C.al.length
 b4:C.al.length<=64
 hd:C.hand<C.al.length
 a1:C.c≠C.a8/\¬bO C.D C.c/\¬bO C.D C.a8
structure DW(X:U1)(w:J)(C:cp)(f:Fr)(no:Nat):Prop where
 num:f.no=no
 lt:no<C.D.n
 Md:bI (λq=>¬di C q/\¬X q) w f.b f.l
 len:f.l.length=256
 clean:f.gN=false->f.l=C.D.now no
 cj:C.D.cj no=true->f.gN=false
 two:2<=no
structure gY(X:U1)(w:J)(C:cp):Prop where
 pins:∀f∈C.al,f.pins=0
 ok:∀f∈C.al,f.full=true->∃no:Nat,DW X w C f no
 un:∀ (i j:Nat) (hi:i<C.al.length) (a:j<C.al.length),(C.al[i]).full=true->(C.al[j]).full=true->(C.al[i]).no=(C.al[j]).no->i=j
 fB:∀q,X q->q<w/\¬di C q
 nD:∀j,C.D.cj j=true->C.D.eC j=C.D.eS j
def lI(az D:aS):Prop:=az.n=D.n/\(∀j,az.cj j=true->D.cj j=true)/\∀j,az.cj j=true->az.eC j=az.eS j
theorem gY.t_{X:U1}{C:cp}(h:gY X w C):lI C.D C.D:=⟨rfl,λ_ h=>h,h.nD⟩
theorem gY.cI{X:U1}{C:cp}(h:gY X w C)(k:Nat):lI (C.D.cI k) C.D:=⟨rfl,λ_ h=>h,h.nD⟩
structure ej(X:U1)(w:J)(C:cp):Prop where
 raw:fA w C
 inv:gY X w C
def cp.view(C:cp)(no:Nat):bY:=match C.al.find? λf=>f.full&&f.no==(no:Int) with
 |some f=>f.l
 |none=>C.D.now no
theorem Fr.z_(f:Fr):f.c.length=6:=rfl
theorem xT(l:O Fr):∀x∈l,(Fr.c x).length=6:=λx _=>rfl
section
variable {w w':J}{C:cp}{X:U1}
theorem fA.lt(h:fA w C)(a:di C q):q<w:=by
 obtain rfl|rfl|a:=a
 .exact h.v.lt
 .exact bp.lt h.f
 .exact h.dev.lt a
theorem fA.ab(h:fA w C)(hc:aa W w w')(a:∀q,di C q->¬W q):fA w' C:=
 ⟨h.v.ab hc (a _ (.inl rfl)),bp.ab h.f hc (a _ (.inr (.inl rfl))),h.dev.ab hc λq b=>a q (.inr (.inr b)),h.bJ,h.b4,h.hd,h.a1⟩
theorem fA.ext(h:fA w C)(hc:Ext w w'):fA w' C:=h.ab hc λ_ _ h=>h
theorem gY.ab(h:gY X w C)(hc:aa W w w')(b:∀q,W q->di C q\/X q):gY X w' C:=
 ⟨h.pins,λf hf c=>by
  obtain⟨no,ao,d,e,g,i,j,k⟩:=h.ok f hf c
  exact⟨no,ao,d,bI.ab e hc λq a l=>by
   rcases b q l with h1|h1
   .exact a.1 h1
   .exact a.2 h1,g,i,j,k⟩,h.un,λq a=>⟨ga (h.fB q a).1 hc.size,(h.fB q a).2⟩,h.nD⟩
theorem ej.ab(h:ej X w C)(hc:aa W w w')(b:∀q,W q->X q):ej X w' C:=
 ⟨h.raw.ab hc λq c a=>(h.inv.fB q (b q a)).2 c,h.inv.ab hc λq a=>.inr (b q a)⟩
theorem ej.ext(h:ej X w C)(hc:Ext w w'):ej X w' C:=h.ab hc λ_ h=>h.elim
theorem ua(a8 i:Nat):Addr.add a8 (Int.toNat (i:Int)*6)=⟨a8,i*6,none⟩:=by rw[cS,aw,cT]
theorem fA.cells(h:fA w C):w.cell? C.c=some (.pointer (some C.D.d))/\w.cell? (Addr.add C.c 1)=some (.slice (some C.a8) C.al.length C.al.length)/\w.cell? (Addr.add C.c 2)=some (.int .i64 C.hand):=by
 rw[aw,aw];exact⟨h.v.cell,h.v.cell,h.v.cell⟩
theorem k3{fs:O Fr}(h:bp w a8 (cl Fr.c fs).toArray T)(hi:i<fs.length)(a:j<6):w.cell? ⟨a8,i*6+j,none⟩=((fs[i]).c)[j]? :=by
 rw[bp.cell h];simp only[sr];exact p0 (xT fs) hi a
theorem oN{fs:O Fr}(h:bp w a8 (cl Fr.c fs).toArray T)(hi:i<fs.length)(a:j<6){v:Y}(b:Fr)(hf:b.c=(fs[i]).c.set j v):
 (∃u:Y,w.cell? ⟨a8,i*6+j,none⟩=some u)/\w.frozen? ⟨a8,i*6+j,none⟩=false/\bp (w.setCell ⟨a8,i*6+j,none⟩ v) a8 (cl Fr.c (fs.set i b)).toArray T/\aa (λq=>q=a8) w (w.setCell ⟨a8,i*6+j,none⟩ v):=by
 refine⟨⟨((fs[i]).c)[j]'(by rw[Fr.z_];exact a),by rw[k3 h hi a,dB (by rw[Fr.z_];exact a)]⟩,bp.frozen h _ rfl,?_,dz _ _ _ _⟩;have:=ei (vs:=cl Fr.c fs) h (i:=i*6+j) v;rw[zP (xT fs) hi a hf]at this;exact this
theorem Aa{fs:O Fr}(h:bp w a8 (cl Fr.c fs).toArray T)(hi:i<fs.length)(a:Fr):
 c5 w ⟨a8,i*6,none⟩ a.c/\bp (setCells w ⟨a8,i*6,none⟩ 0 a.c) a8 (cl Fr.c (fs.set i a)).toArray T/\aa (λq=>q=a8) w (setCells w ⟨a8,i*6,none⟩ 0 a.c):=by
 have f:=gL (c:=Fr.c) fs (xT fs);have d:i*6+a.c.length<=(cl Fr.c fs).toArray.size:=by
  rw[sJ,f,Fr.z_];omega
 refine⟨bp.cF h _ _ d ?_,?_,aa.kT (.refl _ _) _ 0⟩
 .intro v b
  unfold Fr.c at b;simp only[cN,er,ez]at b;rcases b with rfl|rfl|rfl|rfl|rfl|rfl<;>trivial
 .have h0:=bp.j9 (o:=i*6) h a.c
  have e:g4 (cl Fr.c fs).toArray (i*6) a.c=(cl Fr.c (fs.set i a)).toArray:=by
   have h1:=lv a.c (cl Fr.c fs).toArray (i*6) d;have g:=Dh (xT fs) hi a;have j:a.c.length=6:=rfl;rw[j]at h1;have k:(g4 (cl Fr.c fs).toArray (i*6) a.c).toList=cl Fr.c (fs.set i a):=h1.trans g;rw[←k]
  rw[e]at h0;exact h0
theorem DX(h:fA w C)(no:Int):aI aj 204 #[.pointer (some C.c),no] w (λv w'=>v=.bool (decide (0<=no/\no<C.D.n))/\w=w'):=by
 refine okF (ad.w2 (some C.c) no) ay.w2 func204 ?_;(delta ad.w2 af aE b5;dsimp only);refine cx (λb w'=>b=decide (0<=no/\no<C.D.n)/\w=w') (λq d=>⟨λa=>⟨_,rfl,_,h.cells.1,(oI h.dev).use ?_⟩,λa=>d _ _ ⟨?_,rfl⟩⟩) ?_
 .rintro _ _ ⟨rfl,rfl⟩
  have a:0<=no:=by simpa using a
  refine⟨_,rfl,d _ _ ⟨?_,rfl⟩⟩;rw[ek,cq,cq];exact⟨λh=>⟨a,h⟩,λh=>h.2⟩
 .have a:¬0<=no:=by simpa using a
  rw[ib (λh=>a h.1)]
 .rintro _ _ ⟨rfl,rfl⟩
  exact⟨rfl,rfl⟩
def AtR(C:cp)(no:Int)(v:Y):Prop:=
 (∃ (i:Nat) (hi:i<C.al.length),v=.pointer (some ⟨C.a8,i*6,none⟩)/\(C.al[i]).full=true/\(C.al[i]).no=no)\/
 (v=.pointer none/\∀f∈C.al,f.full=true->f.no≠no)
theorem xU(h:fA w C)(no:Int):aI aj 180 #[.pointer (some C.c),no] w (λv w'=>AtR C no v/\w=w'):=by
 obtain⟨bM,aR,a7⟩:=h.cells;have d:=h.b4;refine okF (ad.wV (some C.c) no) ay.wV func180 ?_;(delta ad.wV af aE aJ cW aQ aO aV aW r1 ai;dsimp only);refine⟨nofun,λ_=>⟨_,rfl,⟨some C.a8,C.al.length,C.al.length⟩,aR,λi w'=>∃j:Nat,i=j/\j<=C.al.length/\w=w'/\∀ (k:Nat) (d:k<C.al.length),k<j->(C.al[k]).full=true->(C.al[k]).no≠no,λi _=>((C.al.length:Int)-i).toNat,⟨0,rfl,cw _,rfl,λk _ h=>I⟩,?_⟩⟩;rintro _ _ ⟨j,rfl,s,rfl,g⟩;refine⟨λaB=>?_,λe=>?_⟩
 .have aB:(j:Int)<(C.al.length:Int):=bB aB
  have aB:j<C.al.length:=I
  refine⟨_,rfl,⟨some C.a8,C.al.length,C.al.length⟩,aR,_,rfl,⟨I,by show(j:Int)<(C.al.length:Int);omega⟩,_,rfl,?_⟩;rw[ua];have f0:=k3 h.f aB (j:=0) (by decide);have f3:=k3 h.f aB (j:=3) (by decide);refine⟨(C.al[j]).full,f0,cx (λb w'=>w=w'/\(b=true↔((C.al[j]).full=true/\(C.al[j]).no=no))) (λq l=>⟨λa=>⟨_,rfl,(C.al[j]).no,f3,l _ _ ⟨rfl,?_⟩⟩,λa=>l _ _ ⟨rfl,?_⟩⟩) ?_⟩
  .rw[gP]
   exact⟨λh=>⟨a,h⟩,λh=>h.2⟩
  .rw[a]
   exact⟨nofun,λh=>(by cases h.1)⟩
  rintro b w' ⟨rfl,a⟩;refine⟨λh1=>⟨.inl ⟨j,aB,rfl,(a.1 h1).1,(a.1 h1).2⟩,rfl⟩,λh1=>?_⟩;rw[bl (n:=(j:Int)+1) I I];refine⟨⟨j+1,I,I,rfl,λk d t m=>?_⟩,?_⟩
  .rcases dA k j with o|o
   .exact g k d o m
   .have:k=j:=I
    subst this;intro p;rw[a.2 ⟨m,p⟩]at h1;cases h1
  .show((C.al.length:Int)-((j:Int)+1)).toNat<((C.al.length:Int)-(j:Int)).toNat
   omega
 .have e:j=C.al.length:=by
   have:¬((j:Int)<(C.al.length:Int)):=bT e;omega
  subst e;refine⟨.inr ⟨rfl,λf hf r=>?_⟩,rfl⟩;obtain⟨k,d,rfl⟩:=eO hf;exact g k d d r
theorem Jy(h:fA w C):aI aj 250 #[.pointer (some C.c)] w (λv w'=>((∃ (i:Nat) (hi:i<C.al.length),v=.pointer (some ⟨C.a8,i*6,none⟩)/\(C.al[i]).full=false)\/(v=.pointer none/\∀f∈C.al,f.full=true))/\w=w'):=by
 obtain⟨bM,aR,a7⟩:=h.cells;have a:=h.b4;refine okF (ad.w9 (some C.c)) ay.w9 func250 ?_;(delta ad.w9 aE aJ cW af aQ aO aW aV ai;dsimp only);refine⟨_,rfl,⟨some C.a8,C.al.length,C.al.length⟩,aR,λi w'=>∃j:Nat,i=j/\j<=C.al.length/\w=w'/\∀ (k:Nat) (a:k<C.al.length),k<j->(C.al[k]).full=true,λi _=>((C.al.length:Int)-i).toNat,⟨0,rfl,cw _,rfl,λk _ h=>I⟩,?_⟩;rintro _ _ ⟨j,rfl,l,rfl,e⟩;refine⟨λaB=>?_,λb=>?_⟩
 .have aB:(j:Int)<(C.al.length:Int):=bB aB
  have aB:j<C.al.length:=I
  have f0:=k3 h.f aB (j:=0) (by decide);refine⟨_,rfl,⟨some C.a8,C.al.length,C.al.length⟩,aR,_,rfl,⟨I,by show(j:Int)<(C.al.length:Int);omega⟩,(C.al[j]).full,by rw[ua];exact f0,λd=>⟨_,rfl,⟨some C.a8,C.al.length,C.al.length⟩,aR,_,rfl,⟨I,by show(j:Int)<(C.al.length:Int);omega⟩,.inl ⟨j,aB,by rw[ua],by simpa using d⟩,rfl⟩,λd=>?_⟩;rw[bl (n:=(j:Int)+1) I I];refine⟨⟨j+1,I,I,rfl,λk a m=>?_⟩,?_⟩
  .rcases dA k j with g|g
   .exact e k a g
   .have:k=j:=I
    subst this;simpa using d
  .show((C.al.length:Int)-((j:Int)+1)).toNat<((C.al.length:Int)-(j:Int)).toNat
   omega
 .have b:j=C.al.length:=by
   have:¬((j:Int)<(C.al.length:Int)):=bT b;omega
  subst b;refine⟨.inr ⟨rfl,λf hf=>?_⟩,rfl⟩;obtain⟨k,a,rfl⟩:=eO hf;exact e k a a
def iP(fs gs:O Fr):Prop:=gs.length=fs.length/\∀ (i:Nat) (h1:i<fs.length) (a:i<gs.length),gs[i]={fs[i] with used:=(gs[i]).used}
theorem iP.refl(fs:O Fr):iP fs fs:=⟨rfl,λi h1 a=>rfl⟩
theorem iP.set{fs gs:O Fr}(h:iP fs gs)(hi:i<gs.length)(u:ag):iP fs (gs.set i {gs[i] with used:=u}):=by
 refine⟨by rw[c_];exact h.1,λj h1 a=>?_⟩;rw[uJ];split
 .rename_i e
  subst e;have:=h.2 i h1 hi;rw[this]
 .exact h.2 j h1 _
theorem Jz(h:fA w C)(B:∀f∈C.al,f.pins=0):aI aj 251 #[.pointer (some C.c)] w (λv w'=>∃ (i:Nat) (gs:O Fr) (hd:Nat),i<C.al.length/\v=.pointer (some ⟨C.a8,i*6,none⟩)/\iP C.al gs/\fA w' {C with al:=gs,hand:=hd}/\aa (λq=>q=C.c\/q=C.a8) w w'):=by
 obtain⟨bM,aR,a7⟩:=h.cells;have R:=h.bJ;have S:=h.b4;have D:=h.hd;refine okF (ad.w_ (some C.c)) ay.w_ func251 ?_;(delta ad.w_ aE r1 aJ gg af ai aQ aO aV aW st;dsimp only);refine⟨_,rfl,_,a7,_,rfl,⟨some C.a8,C.al.length,C.al.length⟩,aR,λcL i w'=>∃ (s:Nat) (gs:O Fr),i=s/\s<=C.al.length/\cL=(((C.hand+s)%C.al.length:Nat):Int)/\iP C.al gs/\fA w' {C with al:=gs}/\aa (λq=>q=C.c\/q=C.a8) w w'/\∀ (t:Nat) (hx:(C.hand+t)%C.al.length<gs.length),t<s->(gs[(C.hand+t)%C.al.length]).used=false,
  λ_ i _=>(2*(C.al.length:Int)-i).toNat,⟨0,C.al,rfl,cw _,by rw[lO,jx D],iP.refl _,h,.refl _ _,λt _ h=>I⟩,?_⟩
 rintro _ _ w1 ⟨s,gs,rfl,hs,rfl,m,b,hc,r⟩;have u:gs.length=C.al.length:=m.1;obtain⟨i,hi⟩:=U6 ((C.hand+s)%C.al.length);have d:i<gs.length:=by rw[hi,u];exact gu _ I
 rw[←hi];obtain⟨d0,d1,d2⟩:=b.cells;have d1:w1.cell? (Addr.add C.c 1)=some (.slice (some C.a8) gs.length gs.length):=d1;have hf:bp w1 C.a8 (cl Fr.c gs).toArray 275:=b.f;rw[bl (n:=2*(C.al.length:Int)) I I];have E:IntKind.wrap .i64 ((i:Int)+1)=((i+1:Nat):Int):=by rw[bl I I];rfl
 have x:Int.tmod ((i+1:Nat):Int) (gs.length:Int)=(((i+1)%gs.length:Nat):Int):=by
  rw[nT I];rfl
 have F:(i+1)%gs.length=(C.hand+(s+1))%C.al.length:=by
  rw[hi,u,Nat.mod_add_mod];rfl
 refine⟨λaB=>?_,λG=>?_⟩
 .refine cx (λa w'=>a=(((C.hand+(s+1))%C.al.length:Nat):Int)/\∃g:O Fr,s+1<=C.al.length/\iP C.al g/\fA w' {C with al:=g}/\aa (λq=>q=C.c\/q=C.a8) w w'/\∀ (t:Nat) (hx:(C.hand+t)%C.al.length<g.length),t<s+1->(g[(C.hand+t)%C.al.length]).used=false) (λq k=>⟨_,rfl,⟨some C.a8,gs.length,gs.length⟩,d1,_,rfl,⟨I,by show(i:Int)<(gs.length:Int);omega⟩,_,rfl,⟨some C.a8,gs.length,gs.length⟩,d1,by show(gs.length:Int)≠0;omega,_,rfl,?_⟩) ?_
  .rw[ua,E]
   have f4:=k3 hf d (j:=4) (by decide);have f2:=k3 hf d (j:=2) (by decide);have H:(gs[i]).pins=0:=by
    have h1:=m.2 i I d;have l:(gs[i]).pins=(C.al[i]'I).pins:=by rw[h1]
    rw[l];exact B _ (cg _)
   refine⟨(gs[i]).pins,f4,λy=>?_,λ_=>⟨_,rfl,(gs[i]).used,f2,λhu=>⟨_,rfl,?_⟩,λhu=>⟨_,rfl,?_⟩⟩⟩
   .rw[H]at y;simp at y
   .have J:s<C.al.length:=by
     rcases dA s C.al.length with h1|h1
     .exact h1
     .have es:s=C.al.length:=I
      have z:(C.hand+0)%C.al.length=i:=by rw[hi,es,Nat.add_mod_right];rfl
      have l:=r 0 (z▸d) I;have o:(gs[i]).used=false:=by
       have e:gs[(C.hand+0)%C.al.length]'(z▸d)=gs[i]:=by congr 1
       rw[←e];exact l
      rw[o]at hu;cases hu
    obtain⟨ao,K,L,p⟩:=oN hf d (j:=2) (by decide) (v:=false) {gs[i] with used:=false} rfl;rw[aw];refine⟨ao,K,aH (k _ _ ⟨by rw[x,F],gs.set i {gs[i] with used:=false},J,m.set d false,?_,hc.trans (p.mono λq _ e=>.inr e),λt hx ht=>?_⟩)⟩
    .have M:=b.v.ab p h.a1.1
     refine⟨?_,L,b.dev.ab p (λq k e=>h.a1.2.2 (e▸k)),?_,?_,?_,h.a1⟩
     .show Var _ _ [_,.slice (some C.a8) (gs.set i _).length (gs.set i _).length,_] _
      rw[c_];exact M
     .show 8<=(gs.set i _).length;rw[c_];omega
     .show(gs.set i _).length<=64;rw[c_];omega
     .show C.hand<(gs.set i _).length;rw[c_];omega
    .rw[uJ]
     split
     .rfl
     .rename_i N
      rcases dA t s with h1|h1
      .exact r t _ h1
      .have:t=s:=I
       subst this;exact absurd hi N
   .obtain⟨s1,s2⟩:=dT b.v (i:=2) U9
    rw[aw,x];refine⟨s1,s2,aH ⟨i,gs,(i+1)%gs.length,I,rfl,m,?_,hc.trans ((dz _ _ _ _).mono λq _ e=>.inl e)⟩⟩;have A:=dz w1 C.c 2 (.int .i64 (((i+1)%gs.length:Nat):Int));refine⟨ei b.v (i:=2) (.int .i64 (((i+1)%gs.length:Nat):Int)),bp.ab hf A (λe=>h.a1.1 e.symm),b.dev.ab A (λq k e=>h.a1.2.1 (e▸k)),b.bJ,b.b4,?_,h.a1⟩;exact gu _ I
  .rintro a w' ⟨rfl,g,h1,l,o,P,Q⟩
   rw[bl (n:=(s:Int)+1) I I];refine⟨⟨s+1,g,I,h1,rfl,l,o,P,Q⟩,?_⟩;show(2*(C.al.length:Int)-((s:Int)+1)).toNat<(2*(C.al.length:Int)-(s:Int)).toNat;omega
 .have:=bT G
  omega
end
structure eL(C aM:cp)(w w':J)(k:Nat):Prop where
 c:aM.c=C.c
 d:aM.D.d=C.D.d
 len:aM.al.length=C.al.length
 bk:aM.D.key=C.D.key
 aZ:aM.D.aZ<=C.D.aZ+k
 calm:∀m,C.D.calm (m+k)->aM.D.calm m
 ab:aa (di C) w w'
 dr:∀q,di aM q->di C q\/w<=q
theorem eL.refl(C:cp)(w:J):eL C C w w 0:=⟨rfl,rfl,rfl,rfl,a_ _,λ_ h=>h,.refl _ _,λ_ h=>.inl h⟩
theorem eL.ext(C:cp)(h:Ext w w'):eL C C w w' 0:=⟨rfl,rfl,rfl,rfl,a_ _,λ_ h=>h,aa.da h,λ_ h=>.inl h⟩
theorem eL.trans{C aM b:cp}{e:J}{l:Nat}(h1:eL C aM w w' k)(a:eL aM b w' e l):eL C b w e (k+l):=by
 have hs:=h1.ab.size;refine⟨a.c.trans h1.c,a.d.trans h1.d,a.len.trans h1.len,a.bk.trans h1.bk,U5 h1.aZ a.aZ,λm g=>a.calm m (h1.calm (m+l) (by rw[show m+l+k=m+(k+l) from I];exact g)),cn h1.ab a.ab λq f h=>(h1.dr q h).resolve_right I,λq f=>?_⟩;rcases a.dr q f with h|h
 .exact h1.dr q h
 .exact .inr I
theorem eL.mono{C aM:cp}{l:Nat}(h:eL C aM w w' k)(b:k<=l):eL C aM w w' l:=
 ⟨h.c,h.d,h.len,h.bk,U4 h.aZ,λm a=>h.calm m (gM a I),h.ab,h.dr⟩
theorem eL.cj{C aM:cp}(h:eL C aM w w' k):aM.D.cj=C.D.cj:=congrArg (λk:(O bY×(Nat->ag)×(Nat->O bY)×(Int->Prop)×ag)×Int=>k.1.2.1) h.bk
theorem eL.p6{C aM:cp}(h:eL C aM w w' k):aM.D.cj=C.D.cj/\aM.D.eS=C.D.eS:=⟨h.cj,congrArg (λk:(O bY×(Nat->ag)×(Nat->O bY)×(Int->Prop)×ag)×Int=>k.1.2.2.1) h.bk⟩
theorem eL.n{C aM:cp}(h:eL C aM w w' k):aM.D.n=C.D.n:=congrArg (λk:(O bY×(Nat->ag)×(Nat->O bY)×(Int->Prop)×ag)×Int=>k.1.1.length) h.bk
section
variable {w w':J}{C:cp}{X:U1}
theorem nE{fs:O Fr}{c:Nat}(un:∀ (i j:Nat) (hi:i<fs.length) (d:j<fs.length),(fs[i]).full=true->(fs[j]).full=true->(fs[i]).no=(fs[j]).no->i=j)(hi:i<fs.length)(hf:(fs[i]).full=true)(e:(fs[i]).no=no):(cp.mk c a8 fs hd D).view no=(fs[i]).l:=by
 unfold cp.view
 cases a:fs.find? λf=>f.full&&f.no==(no:Int) with
 |none=>
  have:=kn.1 a _ (cg hi);simp[hf,e]at this
 |some f=>
  have g:=jL a;have b:=kP a;simp only[dM,gP]at b;obtain⟨j,d,rfl⟩:=eO g;have:=un i j hi d hf b.1 (by rw[e,b.2]);subst this;simp only
theorem nF{fs:O Fr}{c:Nat}(h:∀f∈fs,f.full=true->f.no≠no):(cp.mk c a8 fs hd D).view no=D.now no:=by
 unfold cp.view
 cases b:fs.find? λf=>f.full&&f.no==(no:Int) with
 |none=>rfl
 |some f=>
  have d:=jL b;have a:=kP b;simp only[dM,gP]at a;exact absurd a.2 (h f d a.1)
theorem xV(D:aS)(k i:Nat):(D.cI k).now i=D.now i:=rfl
theorem bI.re{B b:U1}{t:U}{l:Key}(h:bI B w t l)(hc:aa V w w')(c:∀q,q<w.heap.size->B q->¬V q)(d:∀q,q<w.heap.size->B q->b q):bI b w' t l:=
 ⟨h.1.ab hc λq a=>c q (h.2.2 q a).2 (h.2.2 q a).1,h.2.1,λq a=>⟨d q (h.2.2 q a).2 (h.2.2 q a).1,ga (h.2.2 q a).2 hc.size⟩⟩
theorem uc{gs:O Fr}(h:gY X w C)(hs:iP C.al gs)(hc:aa V w w')(eG:∀q,q<w.heap.size->V q->di C q)(m:lI az C.D)(u:∀i,az.now i=C.D.now i)(v:∀q,bO az q->bO C.D q\/w<=q):gY X w' {C with al:=gs,hand:=hd,D:=az}:=by
 have x:=hc.size;have r:∀q,q<w.heap.size->di {C with al:=gs,hand:=hd,D:=az} q->di C q:=λq a hf=>by
  obtain h1|h1|h1:=hf
  .exact .inl h1
  .exact .inr (.inl h1)
  .exact .inr (.inr ((v q h1).resolve_right I))
 have g:∀ (i:Nat) (hi:i<gs.length),∃c:i<C.al.length,gs[i]={C.al[i] with used:=(gs[i]).used}:=λi hi=>⟨by rw[←hs.1];exact hi,hs.2 i (hs.1▸hi) hi⟩;refine⟨λf hf=>?_,λf hf y=>?_,λi j hi z h1 A B=>?_,λq a=>⟨ga (h.fB q a).1 x,λhf=>(h.fB q a).2 (r q (h.fB q a).1 hf)⟩,m.2.2⟩
 .obtain⟨i,hi,rfl⟩:=eO hf
  obtain⟨c,e⟩:=g i hi;have:(gs[i]).pins=(C.al[i]).pins:=by rw[e]
  rw[this];exact h.pins _ (cg c)
 .obtain⟨i,hi,rfl⟩:=eO hf
  obtain⟨c,e⟩:=g i hi;have n:(gs[i]).full=(C.al[i]).full:=by rw[e]
  have o:(gs[i]).no=(C.al[i]).no:=by rw[e]
  have p:(gs[i]).b=(C.al[i]).b:=by rw[e]
  have d:(gs[i]).l=(C.al[i]).l:=by rw[e]
  have s:(gs[i]).gN=(C.al[i]).gN:=by rw[e]
  obtain⟨no,ao,E,F,G,H,J,K⟩:=h.ok _ (cg c) (n▸y);refine⟨no,by rw[o];exact ao,by rw[m.1];exact E,?_,by rw[d];exact G,λhd=>by rw[d,u];exact H (s▸hd),λhs=>by rw[s];exact J (m.2.1 _ hs),K⟩;rw[p,d];exact bI.re F hc (λq a k L=>k.1 (eG q a L)) λq a k=>⟨λhf=>k.1 (r q a hf),k.2⟩
 .obtain⟨c,e⟩:=g i hi
  obtain⟨M,t⟩:=g j z;have n:(gs[i]).full=(C.al[i]).full:=by rw[e]
  have o:(gs[i]).no=(C.al[i]).no:=by rw[e]
  have p:(gs[j]).full=(C.al[j]).full:=by rw[t]
  have d:(gs[j]).no=(C.al[j]).no:=by rw[t]
  exact h.un i j c M (n▸h1) (p▸A) (by rw[←o,←d];exact B)
theorem ud{gs:O Fr}(h:gY X w C)(hs:iP C.al gs)(s:∀i,az.now i=C.D.now i)(no:Nat):(cp.mk C.c C.a8 gs hd az).view no=C.view no:=by
 have g:∀ (i:Nat) (hi:i<gs.length),∃k:i<C.al.length,gs[i]={C.al[i] with used:=(gs[i]).used}:=λi hi=>⟨by rw[←hs.1];exact hi,hs.2 i (hs.1▸hi) hi⟩;by_cases hex:∃ (i:Nat) (hi:i<C.al.length),(C.al[i]).full=true/\(C.al[i]).no=no
 .obtain⟨i,hi,h1,d⟩:=hex
  have o:i<gs.length:=by rw[hs.1];exact hi
  obtain⟨k,e⟩:=g i o;have m:(gs[i]).full=(C.al[i]).full:=by rw[e]
  have n:(gs[i]).no=(C.al[i]).no:=by rw[e]
  have t:(gs[i]).l=(C.al[i]).l:=by rw[e]
  have u:∀ (i j:Nat) (hi:i<gs.length) (B:j<gs.length),(gs[i]).full=true->(gs[j]).full=true->(gs[i]).no=(gs[j]).no->i=j:=by
   intro a b v x bJ b4 y;obtain⟨z,p⟩:=g a v;obtain⟨A,q⟩:=g b x;have f1:(gs[a]).full=(C.al[a]).full:=by rw[p]
   have f2:(gs[a]).no=(C.al[a]).no:=by rw[p]
   have f3:(gs[b]).full=(C.al[b]).full:=by rw[q]
   have f4:(gs[b]).no=(C.al[b]).no:=by rw[q]
   exact h.un a b z A (f1▸bJ) (f3▸b4) (by rw[←f2,←f4];exact y)
  rw[nE u o (m▸h1) (n▸d),t];exact(nE (fs:=C.al) (D:=C.D) (c:=C.c) (a8:=C.a8) (hd:=C.hand) h.un hi h1 d).symm
 .have r:∀f∈C.al,f.full=true->f.no≠no:=λf hf h1 d=>by
   obtain⟨i,hi,rfl⟩:=eO hf;exact hex ⟨i,hi,h1,d⟩
  have e:C.view no=C.D.now no:=nF (fs:=C.al) (D:=C.D) (c:=C.c) (a8:=C.a8) (hd:=C.hand) r;rw[e,←s];refine nF λf hf h1 d=>?_;obtain⟨i,hi,rfl⟩:=eO hf;obtain⟨k,e⟩:=g i hi;have m:(gs[i]).full=(C.al[i]).full:=by rw[e]
  have n:(gs[i]).no=(C.al[i]).no:=by rw[e]
  exact r _ (cg k) (m▸h1) (n▸d)
theorem Ab(hi:i<C.al.length)(h:gY X w C)(hc:aa V w w')(eG:∀q,q<w.heap.size->V q->di C q)(m:lI az C.D)
 (u:∀j:Nat,((C.al[i]).full=true->(C.al[i]).no≠j)->az.now j=C.D.now j) (v:∀q,bO az q->bO C.D q\/w<=q) (f0:Fr) (n:f0.full=false) (x:f0.pins=0):gY X w' {C with al:=C.al.set i f0,D:=az}:=by
 have y:=hc.size;have p:∀q,q<w.heap.size->di {C with al:=C.al.set i f0,D:=az} q->di C q:=λq c hf=>by
  obtain h1|h1|h1:=hf
  .exact .inl h1
  .exact .inr (.inl h1)
  .exact .inr (.inr ((v q h1).resolve_right I))
 refine⟨λf hf=>?_,λf hf d=>?_,λa b z g h1 l o=>?_,λq c=>⟨ga (h.fB q c).1 y,λhf=>(h.fB q c).2 (p q (h.fB q c).1 hf)⟩,m.2.2⟩
 .rcases mx hf with hf|rfl
  .exact h.pins f hf
  .exact x
 .obtain⟨k,A,rfl⟩:=eO hf
  have r:k<C.al.length:=by simpa using A
  by_cases e:i=k
  .subst e
   simp only[hW]at d;rw[n]at d;cases d
  .simp only[fD e]at d⊢
   obtain⟨no,ao,B,E,F,G,H,J⟩:=h.ok _ (cg r) d;refine⟨no,ao,by rw[m.1];exact B,bI.re E hc (λq c g K=>g.1 (eG q c K)) λq c g=>⟨λhf=>g.1 (p q c hf),g.2⟩,F,λhd=>?_,λhs=>H (m.2.1 _ hs),J⟩;show _=az.now no;rw[u no λL he=>e (h.un i k hi r L d (by rw[he,ao]))];exact G hd
 .have M:a<C.al.length:=by simpa using z
  have N:b<C.al.length:=by simpa using g
  by_cases s:i=a
  .subst s
   simp only[hW]at h1;rw[n]at h1;cases h1
  by_cases t:i=b
  .subst t
   simp only[hW]at l;rw[n]at l;cases l
  simp only[fD s]at h1 o;simp only[fD t]at l o;exact h.un a b M N h1 l o
theorem DY(hi:i<C.al.length)(h:gY X w C)(y:(C.al[i]).full=true->∀j:Nat,(C.al[i]).no=j->az.now j=(C.al[i]).l)(z:∀j:Nat,((C.al[i]).full=true->(C.al[i]).no≠j)->az.now j=C.D.now j)(f0:Fr)(n:f0.full=false)(no:Nat):
 (cp.mk C.c C.a8 (C.al.set i f0) hd az).view no=C.view no:=by
 by_cases hex:∃ (k:Nat) (m:k<C.al.length),(C.al[k]).full=true/\(C.al[k]).no=no
 .obtain⟨k,m,h1,d⟩:=hex
  have p:=nE (fs:=C.al) (D:=C.D) (c:=C.c) (a8:=C.a8) (hd:=C.hand) h.un m h1 d;have p:C.view no=(C.al[k]).l:=p;rw[p];by_cases e:i=k
  .subst e
   rw[←y h1 no d];refine nF λf hf ao u=>?_;obtain⟨a,o,rfl⟩:=eO hf;have q:a<C.al.length:=by simpa using o
   by_cases g:i=a
   .subst g
    simp only[hW]at ao;rw[n]at ao;cases ao
   .simp only[fD g]at ao u
    exact g (h.un i a hi q h1 ao (by rw[d,u]))
  .have A:k<(C.al.set i f0).length:=by simpa using m
   have r:(C.al.set i f0)[k]=C.al[k]:=fD e _;have B:∀ (a b:Nat) (o:a<(C.al.set i f0).length) (v:b<(C.al.set i f0).length),((C.al.set i f0)[a]).full=true->((C.al.set i f0)[b]).full=true->((C.al.set i f0)[a]).no=((C.al.set i f0)[b]).no->a=b:=by
    intro a b o v h1 d s;have q:a<C.al.length:=by simpa using o
    have E:b<C.al.length:=by simpa using v
    by_cases g:i=a
    .subst g
     simp only[hW]at h1;rw[n]at h1;cases h1
    by_cases x:i=b
    .subst x
     simp only[hW]at d;rw[n]at d;cases d
    simp only[fD g]at h1 s;simp only[fD x]at d s;exact h.un a b q E h1 d s
   rw[nE B A (r▸h1) (r▸d),r]
 .have t:∀f∈C.al,f.full=true->f.no≠no:=λf hf h1 d=>by
   obtain⟨k,m,rfl⟩:=eO hf;exact hex ⟨k,m,h1,d⟩
  have e:C.view no=C.D.now no:=nF (fs:=C.al) (D:=C.D) (c:=C.c) (a8:=C.a8) (hd:=C.hand) t;rw[e,←z no λh1 d=>t _ (cg hi) h1 d];refine nF λf hf h1 d=>?_;rcases mx hf with hf|rfl
  .exact t f hf h1 d
  .rw[n]at h1;cases h1
theorem DZ{X:U1}{C:cp}(h:gY X w C){s:U}(hs:¬C.D.cj no=true):lI (C.D.put no s l) C.D:=
 ⟨rfl,λ_ h=>h,λj a=>by
  have a:C.D.cj j=true:=a
  rw[Dn,if_neg λe=>hs (by rw[←e];exact a)];exact h.nD j a⟩
theorem D1(D:aS){s:U}(hs:¬D.cj no=true):(D.put no s l).key=D.key:=by
 have h1:=rX D (k:=2) (.inr rfl);unfold aS.key at h1⊢;have b:(D.put no s l).kD=D.kD:=by
  funext n;exact propext ⟨λ_ h=>absurd (h no) hs,λ_ h=>absurd (h no) hs⟩
 rw[b];have a:=congrArg Prod.snd h1;show((D.bk,D.cj,D.eS,D.kD,D.r1),(D.cI 2).bN.getD 3 0)=_;have a:(D.cI 2).bN.getD 3 0=D.bN.getD 3 0:=a;rw[a]
def D2(X:U1)(C:cp)(w:J)(v:Y)(w':J):Prop:=
 ∃aM:cp,ej X w' aM/\eL C aM w w' 1/\aM.a8=C.a8/\(∀j,aM.view j=C.view j)/\(∀f∈aM.al,f.full=true->∃g∈C.al,g.full=true/\g.no=f.no)/\
  ((∃ (i:Nat) (hi:i<aM.al.length),v=.tuple #[.pointer (some ⟨C.a8,i*6,none⟩),U8]/\(aM.al[i]).full=false/\((aM.al[i]).pins=0))\/
   (v=.tuple #[.pointer none,(3:Int)]/\¬C.D.calm 1))
theorem D3(h:ej X w C)(aq:C.D.aZ<=1000000000):aI aj 205 #[.pointer (some C.c)] w (D2 X C w):=by
 have T:=h.raw;refine okF (ad.w3 (some C.c)) ay.w3 func205 ?_;(delta ad.w3 jS af aE aW r1 aJ b5 bf;dsimp only);refine(Jy T).use ?_;rintro _ _ ⟨he,rfl⟩;obtain⟨i,hi,rfl,hf⟩|⟨rfl,ar⟩:=he
 .exact⟨_,rfl,λ_=>⟨C,h,(eL.refl C w).mono (cw _),rfl,λ_=>rfl,λf hf H=>⟨f,hf,H,rfl⟩,.inl ⟨i,hi,rfl,hf,h.inv.pins _ (cg hi)⟩⟩,nofun⟩
 refine⟨_,rfl,nofun,λ_=>(Jz T h.inv.pins).use ?_⟩;rintro _ w1 ⟨i,gs,hd,hi,rfl,z,r,av⟩;have U:i<gs.length:=by rw[z.1];exact hi
 have L:aa (di C) w w1:=av.mono λq _ n=>by
  obtain n|n:=n
  .exact .inl n
  .exact .inr (.inl n)
 have E:=uc (hd:=hd) (az:=C.D) h.inv z L (λq _ h=>h) h.inv.t_ (λ_=>rfl) λq n=>.inl n;have P:=ud (hd:=hd) (az:=C.D) h.inv z λ_=>rfl;obtain⟨a,F⟩:∃a:cp,a={C with al:=gs,hand:=hd}:=⟨_,rfl⟩;have E:gY X w1 a:=by rw[F];exact E
 have r:fA w1 a:=by rw[F];exact r
 have P:∀no,a.view no=C.view no:=by rw[F];exact P
 have W:∀q,di a q↔di C q:=by rw[F];exact λq=>kO
 have o:a.D=C.D:=by rw[F]
 have p:a.c=C.c/\a.a8=C.a8:=by rw[F];exact⟨rfl,rfl⟩
 have I:a.al=gs:=by rw[F]
 have A:i<a.al.length:=by rw[I];exact U
 have R:(a.al[i]).full=true:=by
  have e:=z.2 i hi U;have:(gs[i]).full=(C.al[i]).full:=by rw[e]
  simp only[I];rw[this];exact ar _ (cg hi)
 have Y:∀f∈a.al,f.full=true->∃g∈C.al,g.full=true/\g.no=f.no:=by
  rw[I];intro f hf H;obtain⟨k,Z,rfl⟩:=eO hf;have ac:k<C.al.length:=by rw[←z.1];exact Z
  have e:=z.2 k ac Z;have aA:(gs[k]).full=(C.al[k]).full:=by rw[e]
  have aB:(gs[k]).no=(C.al[k]).no:=by rw[e]
  exact⟨C.al[k],cg ac,by rw[←aA];exact H,aB.symm⟩
 obtain⟨no,ao,aC,ae,aD,aF,aG⟩:=E.ok _ (cg A) R;have f1:=k3 r.f A (j:=1) (by decide)
 have fin:∀ (ah:J) (az:aS),aa (di C) w1 ah->fA ah {a with D:=az}->eL C {a with D:=az} w ah 1->lI az C.D->(∀j:Nat,(a.al[i]).no≠j->az.now j=C.D.now j)->(∀j:Nat,(a.al[i]).no=j->az.now j=(a.al[i]).l)->(∀q,bO az q->bO C.D q\/w1<=q)->
  ∃fu:ax,(some ⟨C.a8,i*6,none⟩:an ax)=some fu/\c5 ah fu [false,false,false,U8,U8,()]/\(6:Nat)=6/\au (setCells ah fu 0 [false,false,false,U8,U8,()]) λaK=>D2 X C w (.tuple #[.pointer (some ⟨C.a8,i*6,none⟩),U8]) aK:=by
  intro ah az aL t B aM ag aN K;have aO:bp ah a.a8 (cl Fr.c a.al).toArray 275:=t.f;obtain⟨s1,s2,M⟩:=Aa aO A dU;rw[p.2]at s1 s2 M;have aP:gY X (setCells ah ⟨C.a8,i*6,none⟩ 0 dU.c) {a with al:=a.al.set i dU,D:=az}:=by
   refine Ab (V:=di C) (w:=w1) A E (aL.trans (M.mono λq _ e=>.inr (.inl e))) (λq _ n=>(W q).2 n) (o▸aM) (λj u=>by rw[o];exact ag j λe=>u R e) (λq n=>by rw[o];exact K q n) dU rfl rfl
  have aQ:=t.v;refine⟨_,rfl,s1,rfl,aH ⟨{a with al:=a.al.set i dU,D:=az},⟨?_,aP⟩,?_,p.2,λj=>?_,λf hf H=>?_,.inl ⟨i,by show i<(a.al.set i dU).length;rw[c_];exact A,rfl,by simp[dU],by simp[dU]⟩⟩⟩
  .have aR:a.c≠C.a8:=by have:=t.a1.1;rw[←p.2];exact this
   refine⟨?_,by show bp _ a.a8 _ _;rw[p.2];exact s2,t.dev.ab M (λq n e=>t.a1.2.2 (by rw[show({a with D:=az}:cp).a8=a.a8 from rfl,p.2,←e];exact n)),?_,?_,?_,t.a1⟩
   .have:=aQ.ab M aR
    show Var _ _ [_,.slice _ (a.al.set i dU).length (a.al.set i dU).length,_] _;rw[c_];exact this
   .show 8<=(a.al.set i dU).length;rw[c_];exact t.bJ
   .show(a.al.set i dU).length<=64;rw[c_];exact t.b4
   .show a.hand<(a.al.set i dU).length;rw[c_];exact t.hd
  .refine⟨B.c,B.d,by show(a.al.set i dU).length=_;rw[c_];exact B.len,B.bk,B.aZ,B.calm,B.ab.trans (M.mono λq _ e=>.inr (.inl e)),B.dr⟩
  .rw[←P]
   exact DY A E (λ_ j u=>aN j u) (λj u=>by rw[o];exact ag j λe=>u R e) dU rfl j
  .rcases mx hf with hf|rfl
   .exact Y f hf H
   .cases H
 refine⟨_,rfl,nofun,λ_=>jQ (λah=>∃az:aS,aa (di C) w1 ah/\fA ah {a with D:=az}/\eL C {a with D:=az} w ah 1/\lI az C.D/\(∀j:Nat,(a.al[i]).no≠j->az.now j=C.D.now j)/\(∀j:Nat,(a.al[i]).no=j->az.now j=(a.al[i]).l)/\(∀q,bO az q->bO C.D q\/w1<=q)) (λq n=>⟨_,rfl,(a.al[i]).gN,?_,λaT=>?_,λaU=>n _ ⟨C.D,.refl _ _,?_,?_,h.inv.t_,λ_ _=>rfl,λj u=>?_,λq h=>.inl h⟩⟩) ?_⟩
 .rw[aw,←p.2];exact f1
 .
  have Q:=cc w1;have y:=r.ext Q;obtain⟨ai,_,_⟩:=y.cells;rw[p.1,o]at ai;have f3:=k3 y.f A (j:=3) (by decide);have f5:=k3 y.f A (j:=5) (by decide);rw[p.2]at f3 f5;refine aH ⟨_,rfl,id,_,ai,_,rfl,id,(no:Int),?_,_,rfl,id,(a.al[i]).b,f5,?_⟩
  .rw[aw,f3]
   show some (Value.int .i64 (a.al[i]).no)=_;rw[ao]
  have aV:cf w1.drew C.D:=by rw[←o];exact y.dev
  have ak:¬C.D.cj no=true:=λhs=>by
   have:=aG (o▸hs);rw[aT]at this;cases this
  refine(xL aV (i:=no) (o▸aC) aq (ae.1.ext Q) aD λq n hf=>(ae.2.2 q n).1.1 (.inr (.inr (o▸hf)))).use ?_;rintro a7 ah aX;obtain⟨am,rfl,S,G⟩|⟨am,rfl,s,S,G,aY⟩:=aX
  .have N:aa (di C) w1 ah:=(aa.da Q).trans (G.mono λq _ e=>.inr (.inr (.inl e)))
   refine⟨3,rfl,λ_=>⟨{a with D:=C.D.cI 2},⟨?_,?_⟩,?_,p.2,λj=>?_,Y,.inr ⟨rfl,λa0=>?_⟩⟩,nofun⟩
   .have t:=y.v.ab G (λe=>y.a1.2.1 (.inl (o▸e)))
    rw[o]at t;have ap:=r.a1;rw[o]at ap;exact⟨t,bp.ab y.f G (λe=>y.a1.2.2 (.inl (o▸e))),S,r.bJ,r.b4,r.hd,ap⟩
   .have:=uc (C:=a) (hd:=a.hand) (az:=C.D.cI 2) E (iP.refl _) N (λq _ n=>(W q).2 n) (by rw[o];exact h.inv.cI 2) (λj=>by rw[o];rfl) λq n=>.inl (o▸n)
    exact this
   .refine⟨p.1,rfl,by show a.al.length=_;rw[I];exact z.1,rX C.D (.inr rfl),Nat.le_succ _,λm O=>(kE (.inr rfl) h.raw.dev.f4 O).1,L.trans N,λq n=>.inl ?_⟩
    obtain e|e|e:=n
    .exact .inl (p.1▸e)
    .exact .inr (.inl (p.2▸e))
    .exact .inr (.inr e)
   .rw[←P]
    exact ud (C:=a) E (iP.refl _) (λj=>by rw[o];rfl) j
   .have:=(kE (k:=2) (m:=0) (.inr rfl) h.raw.dev.f4 a0).2
    rw[am]at this;cases this
  .have N:aa (di C) w1 ah:=(aa.da Q).trans (G.mono λq _ e=>.inr (.inr e))
   have K:∀q,bO (C.D.put no s (a.al[i]).l) q->bO C.D q\/w1<=q:=by
    rintro q (e|e|e|⟨x,hx,e⟩)
    .exact .inl (.inl e)
    .exact .inl (.inr (.inl e))
    .exact .inl (.inr (.inr (.inl e)))
    .rcases cN.1 hx with rfl|hx
     .exact aY q e
     .exact .inl (.inr (.inr (.inr ⟨x,(j4.1 hx).1,e⟩)))
   have cO:∀q,bO C.D q->q≠a.c/\q≠a.a8:=λq n=>⟨λe=>r.a1.2.1 (by rw[o,←e];exact n),λe=>r.a1.2.2 (by rw[o,←e];exact n)⟩;refine⟨0,rfl,nofun,λ_=>n _ ⟨C.D.put no s (a.al[i]).l,N,?_,?_,DZ h.inv ak,λj u=>?_,λj u=>?_,K⟩⟩
   .have t:=y.v.ab G (λe=>(cO _ e).1 rfl)
    rw[o]at t;have a6:a.c<w1.heap.size:=r.v.lt;have a9:a.a8<w1.heap.size:=bp.lt r.f;refine⟨t,bp.ab y.f G (λe=>(cO _ e).2 rfl),S,r.bJ,r.b4,r.hd,r.a1.1,λe=>?_,λe=>?_⟩
    .rcases K _ e with h1|h1
     .exact(cO _ h1).1 rfl
     .have:a.c<w1.heap.size:=a6
      have h1:w1.heap.size<=a.c:=h1;omega
    .rcases K _ e with h1|h1
     .exact(cO _ h1).2 rfl
     .have h1:w1.heap.size<=a.a8:=h1
      omega
   .refine⟨p.1,rfl,by show a.al.length=_;rw[I];exact z.1,D1 C.D ak,a_ _,λm O=>(kE (.inr rfl) h.raw.dev.f4 O).1,L.trans N,λq n=>?_⟩
    obtain e|e|e:=n
    .exact .inl (.inl (p.1▸e))
    .exact .inl (.inr (.inl (p.2▸e)))
    .rcases K q e with h1|h1
     .exact .inl (.inr (.inr h1))
     .exact .inr (fg L.size h1)
   .rw[p2,if_neg (λe=>u (by rw[ao,e]))]
   .rw[p2,if_pos (by rw[ao]at u;omega)]
 .rw[←o];exact r
 .refine⟨p.1,rfl,by show a.al.length=_;rw[I];exact z.1,rfl,Nat.le_succ _,λm O=>gM O (Nat.le_succ _),L,λq n=>.inl ?_⟩
  obtain e|e|e:=n
  .exact .inl (p.1▸e)
  .exact .inr (.inl (p.2▸e))
  .exact .inr (.inr e)
 .have:no=j:=by rw[ao]at u;omega
  subst this;rw[←o];exact(aF aU).symm
 .rintro ah ⟨az,a1,a2,a3,a4,a5,ee,eR⟩
  exact fin ah az a1 a2 a3 a4 a5 ee eR
end
def ue(fs:O Fr):Prop:=∀ (i j:Nat) (hi:i<fs.length) (a:j<fs.length),(fs[i]).full=true->(fs[j]).full=true->(fs[i]).no=(fs[j]).no->i=j
theorem D4{fs gs:O Fr}{c c' n o:Nat}(p:ue fs)(q:ue gs)(h1:∀ (i:Nat) (hi:i<fs.length),(fs[i]).full=true->(fs[i]).no=j->∃ (k:Nat) (a:k<gs.length),(gs[k]).full=true/\(gs[k]).no=j/\(gs[k]).l=(fs[i]).l)
 (b:(∀f∈fs,f.full=true->f.no≠j)->(∀f∈gs,f.full=true->f.no≠j)/\az.now j=D.now j):(cp.mk c' n gs o az).view j=(cp.mk c a8 fs hd D).view j:=by
 by_cases hex:∃ (k:Nat) (a:k<fs.length),(fs[k]).full=true/\(fs[k]).no=j
 .obtain⟨k,a,ao,g⟩:=hex
  obtain⟨m,r,d,e,s⟩:=h1 k a ao g;rw[nE p a ao g,nE q r d e,s]
 .have h:∀f∈fs,f.full=true->f.no≠j:=λf hf h1 b=>by
   obtain⟨k,a,rfl⟩:=eO hf;exact hex ⟨k,a,h1,b⟩
  obtain⟨d,e⟩:=b h;rw[nF h,nF d,e]
section
variable {w w':J}{C:cp}{X:U1}
theorem Ac(hi:i<C.al.length)(h:gY X w C)(hc:aa V w w')(eG:∀q,q<w.heap.size->V q->di C q)(s:lI az C.D)(B:∀j,az.now j=C.D.now j)(E:∀q,bO az q↔bO C.D q)
 (d:Fr) (Q:d.full=true) (F:d.pins=0) (t:DW X w' {C with al:=C.al.set i d,D:=az} d no) (u:∀ (k:Nat) (v:k<C.al.length),k≠i->(C.al[k]).full=true->(C.al[k]).no≠no):gY X w' {C with al:=C.al.set i d,D:=az}:=by
 have G:=hc.size;have x:∀q,di {C with al:=C.al.set i d,D:=az} q->di C q:=λq hf=>by
  obtain h1|h1|h1:=hf
  .exact .inl h1
  .exact .inr (.inl h1)
  .exact .inr (.inr ((E q).1 h1))
 refine⟨λf hf=>?_,λf hf y=>?_,λa b H g h1 o c=>?_,λq p=>⟨ga (h.fB q p).1 G,λhf=>(h.fB q p).2 (x q hf)⟩,s.2.2⟩
 .rcases mx hf with hf|rfl
  .exact h.pins f hf
  .exact F
 .obtain⟨k,v,rfl⟩:=eO hf
  have I:k<C.al.length:=by simpa using v
  by_cases e:i=k
  .subst e
   simp only[hW];exact⟨no,t⟩
  .simp only[fD e]at y⊢
   obtain⟨m,ao,J,K,L,M,N,O⟩:=h.ok _ (cg I) y;exact⟨m,ao,by show m<az.n;rw[s.1];exact J,bI.re K hc (λq p g P=>g.1 (eG q p P)) λq _ g=>⟨λhf=>g.1 (x q hf),g.2⟩,L,λhd=>by show _=az.now m;rw[B];exact M hd,λhs=>N (s.2.1 _ hs),O⟩
 .have z:a<C.al.length:=by simpa using H
  have A:b<C.al.length:=by simpa using g
  by_cases r:i=a
  .by_cases l:i=b
   .omega
   .subst r
    simp only[hW]at c;simp only[fD l]at o c;exact absurd (c▸t.num) (u b A (λe=>l e.symm) o)
  .by_cases l:i=b
   .subst l
    simp only[hW]at c;simp only[fD r]at h1 c;exact absurd (c▸t.num) (u a z (λe=>r e.symm) h1)
   .simp only[fD r]at h1 c
    simp only[fD l]at o c;exact h.un a b z A h1 o c
theorem JA(hi:i<C.al.length)(h:ue C.al)(j:Fr)(l:j.no=no)(m:∀ (k:Nat) (r:k<C.al.length),k≠i->(C.al[k]).full=true->(C.al[k]).no≠no):ue (C.al.set i j):=by
 intro a b p q h1 f c;have n:a<C.al.length:=by simpa using p
 have o:b<C.al.length:=by simpa using q
 by_cases g:i=a
 .by_cases d:i=b
  .omega
  .subst g
   simp only[hW]at c;simp only[fD d]at f c;exact absurd (c▸l) (m b o (λe=>d e.symm) f)
 .by_cases d:i=b
  .subst d
   simp only[hW]at c;simp only[fD g]at h1 c;exact absurd (c▸l) (m a n (λe=>g e.symm) h1)
  .simp only[fD g]at h1 c
   simp only[fD d]at f c;exact h a b n o h1 f c
theorem Ad(hi:i<C.al.length)(h:ue C.al)(n:∀j,az.now j=C.D.now j)(a:Fr)(o:a.full=true)(d:a.no=no)(hold:(C.al[i]).full=true->(C.al[i]).no=no)(p:∀ (k:Nat) (m:k<C.al.length),k≠i->(C.al[k]).full=true->(C.al[k]).no≠no)(j:Nat):
 (cp.mk C.c C.a8 (C.al.set i a) hd az).view j=if j=no then a.l else C.view j:=by
 have hu:=JA hi h a d p;have q:i<(C.al.set i a).length:=by simpa using hi
 by_cases e:j=no
 .subst e
  rw[if_pos rfl,nE hu q (by simp[o]) (by simpa using d)];simp
 .rw[if_neg e]
  refine D4 (fs:=C.al) (D:=C.D) (c:=C.c) (a8:=C.a8) (hd:=C.hand) h hu (λk m ao b=>?_) λr=>⟨λf hf ao b=>?_,n j⟩
  .have g:i≠k:=λs=>by
    subst s;have:=hold ao;rw[b]at this;exact e I
   have t:k<(C.al.set i a).length:=by simpa using m
   exact⟨k,t,by simp only[fD g];exact ao,by simp only[fD g];exact b,by simp only[fD g]⟩
  .rcases mx hf with hf|rfl
   .exact r f hf ao b
   .rw[d]at b
    exact e I
def JB(X:U1)(C:cp)(no:Nat)(w:J)(v:Y)(w':J):Prop:=
 ∃aM:cp,ej X w' aM/\eL C aM w w' 2/\(∀j,aM.view j=C.view j)/\
  ((∃s:U,v=.tuple #[s,U8]/\bI (λq=>w<=q/\¬di aM q/\¬X q) w' s (C.view no))\/(v=.tuple #[(),(3:Int)]/\¬C.D.calm 2))
theorem JC(h:ej X w C)(a7:C.D.aZ<=999999999)(aD:no<C.D.n)(aF:2<=no):aI aj 222 #[.pointer (some C.c),no] w (JB X C no w):=by
 have r:=h.raw;refine okF (ad.w4 (some C.c) (no:Int)) ay.w4 func222 ?_;(delta ad.w4 bR af jS aE st aJ bU gR dY bf;dsimp only);refine(DX r _).use ?_;rintro _ _ ⟨rfl,rfl⟩;refine⟨_,rfl,λF=>?_,λ_=>(xU r _).use ?_⟩
 .have:decide (0<=(no:Int)/\(no:Int)<C.D.n)=true:=dm ⟨I,I⟩
  rw[this]at F;cases F
 rintro _ _ ⟨aG,rfl⟩;obtain⟨i,hi,rfl,hf,aK⟩|⟨rfl,aL⟩:=aG
 .
  obtain⟨ao,aM,M,J⟩:=oN r.f hi (j:=2) (by decide) (v:=true) {C.al[i] with used:=true} rfl;have ae:iP C.al (C.al.set i {C.al[i] with used:=true}):=(iP.refl C.al).set hi true;have K:aa (di C) w (w.setCell ⟨C.a8,i*6+2,none⟩ true):=J.mono λq _ e=>.inr (.inl e);have hinv:=uc (hd:=C.hand) (az:=C.D) h.inv ae K (λq _ h=>h) h.inv.t_ (λ_=>rfl) λq p=>.inl p;have aN:=ud (hd:=C.hand) (az:=C.D) h.inv ae λ_=>rfl;obtain⟨w1,ag⟩:=U6 (w.setCell ⟨C.a8,i*6+2,none⟩ true);rw[←ag]at M J K hinv;have N:fA w1 {C with al:=C.al.set i {C.al[i] with used:=true}}:=by
   refine⟨?_,M,r.dev.ab J (λq p e=>r.a1.2.2 (e▸p)),?_,?_,?_,r.a1⟩
   .have:=r.v.ab J r.a1.1
    show Var _ _ [_,.slice _ (C.al.set i _).length (C.al.set i _).length,_] _;rw[c_];exact this
   .show 8<=(C.al.set i _).length;rw[c_];exact r.bJ
   .show(C.al.set i _).length<=64;rw[c_];exact r.b4
   .show C.hand<(C.al.set i _).length;rw[c_];exact r.hd
  obtain⟨a,O⟩:∃a:cp,a={C with al:=C.al.set i {C.al[i] with used:=true}}:=⟨_,rfl⟩;have P:ej X w1 a:=by rw[O];exact⟨N,hinv⟩
  have ai:i<(C.al.set i {C.al[i] with used:=true}).length:=by simpa using hi
  have f5:=k3 M ai (j:=5) (by decide);obtain⟨m,bJ,b4,ak,am,a9,a_,ba⟩:=hinv.ok ((C.al.set i {C.al[i] with used:=true})[i]) (cg ai) (by simp[hf]);have aO:((C.al.set i {C.al[i] with used:=true})[i]).b=(C.al[i]).b:=by simp
  have an:((C.al.set i {C.al[i] with used:=true})[i]).l=(C.al[i]).l:=by simp
  rw[aO,an]at ak;rw[an]at am;refine⟨_,rfl,λ_=>⟨_,rfl,ao,aM,?_⟩,nofun⟩;rw[aw,←ag];refine aH ⟨_,rfl,(C.al[i]).b,by rw[aw,f5];simp[Fr.c],(mM (B:=λq=>w1<=q) ak.1 (by rw[am];omega) (λq p=>p)).use ?_⟩;rintro _ ah ⟨s,rfl,hs,ap,_⟩;have aP:C.view no=(C.al[i]).l:=nE (fs:=C.al) (D:=C.D) (c:=C.c) (a8:=C.a8) (hd:=C.hand) h.inv.un hi hf aK;have aQ:=K.size;refine⟨s,rfl,a,P.ext ap,?_,?_,.inl ⟨s,rfl,?_⟩⟩
  .rw[O]
   exact⟨rfl,rfl,by show(C.al.set i _).length=_;rw[c_],rfl,Nat.le_add_right _ _,λm Q=>gM Q I,K.trans (aa.da ap),λq p=>.inl p⟩
  .intro j;rw[O];exact aN j
  .rw[aP]
   refine bI.bh hs λq _ p=>⟨I,λhf=>?_,λG=>?_⟩
   .have:=P.raw.lt hf;omega
   .have:=(P.inv.fB q G).1;omega
 .
  refine⟨_,rfl,nofun,λ_=>(D3 h I).use ?_⟩;rintro _ w1 ⟨a,o,y,A,H,aR,N⟩;obtain⟨i,hi,rfl,aS,bb⟩|⟨rfl,aT⟩:=N
  .refine⟨_,_,rfl,λh=>(by simp at h),λ_=>⟨_,rfl,some C.D.d,?_,?_⟩⟩
   .have:=o.raw.cells.1
    rw[y.c,y.d]at this;exact this
   have R:no<a.D.n:=by rw[y.n];exact aD
   have bc:=y.aZ;rw[←y.d];refine(tW o.raw.dev R I).use ?_;rintro bd ah ⟨aq,L,aU⟩;have ar:=λq=>o.raw.lt (q:=q);have S:aa (di a) w1 ah:=L.mono λq _ e=>.inr (.inr (.inl e))
   have T:∀f∈a.al,f.full=true->f.no≠no:=λf hf aV aW=>by
    obtain⟨g,hg,h1,aX⟩:=aR f hf aV;exact aL g hg h1 (by rw[aX,aW])
   have aY:a.D.calm 1\/¬C.D.calm 2:=by
    rcases Classical.em (C.D.calm 2) with h1|h1
    .exact .inl (y.calm 1 h1)
    .exact .inr h1
   have au:a.view no=a.D.now no:=nF (fs:=a.al) (D:=a.D) (c:=a.c) (a8:=a.a8) (hd:=a.hand) T;have U:∀q,bO a.D q->q≠a.c/\q≠a.a8:=λq p=>⟨λe=>o.raw.a1.2.1 (e▸p),λe=>o.raw.a1.2.2 (e▸p)⟩;have a0:gY X ah {a with D:=a.D.cI 1}:=uc (C:=a) (hd:=a.hand) (az:=a.D.cI 1) o.inv (iP.refl _) S (λq _ h=>h) (o.inv.cI 1) (λ_=>rfl) λq p=>.inl p;have u:eL C {a with D:=a.D.cI 1} w ah 2:=by
    have:eL a {a with D:=a.D.cI 1} w1 ah 1:=⟨rfl,rfl,rfl,rX a.D (.inl rfl),Nat.le_succ _,λm Q=>(kE (.inl rfl) o.raw.dev.f4 Q).1,S,λq p=>.inl p⟩;exact y.trans this
   have a2:∀j,({a with D:=a.D.cI 1}:cp).view j=C.view j:=λj=>by rw[←H];exact ud (C:=a) o.inv (iP.refl _) (λ_=>rfl) j
   have W:fA ah {a with D:=a.D.cI 1}:=⟨o.raw.v.ab L (λe=>(U _ (.inl rfl)).1 e.symm),bp.ab o.raw.f L (λe=>(U _ (.inl rfl)).2 e.symm),aq,o.raw.bJ,o.raw.b4,o.raw.hd,o.raw.a1⟩;obtain⟨F,rfl⟩|⟨F,s,rfl,hs⟩:=aU
   .refine⟨⟨none,0,0⟩,3,rfl,λ_=>⟨{a with D:=a.D.cI 1},⟨W,a0⟩,u,a2,.inr ⟨rfl,?_⟩⟩,λh=>(by simp at h)⟩
    obtain h1|h1:=aY
    .have:=(kE (k:=1) (m:=0) (.inl rfl) o.raw.dev.f4 h1).2
     rw[F]at this;cases this
    .exact h1
   .have av:(a.D.now no).length=256:=o.raw.dev.nA R
    obtain⟨s1,s2,z⟩:=Aa W.f hi ⟨true,false,true,(no:Int),0,s,a.D.now no⟩;rw[A]at s1 s2 z;have be:=L.size;have aQ:=y.ab.size;refine⟨s,_,rfl,λh=>(by simp at h),λ_=>⟨_,rfl,s1,rfl,?_⟩⟩;obtain⟨x,ax⟩:=U6 (setCells ah ⟨C.a8,i*6,none⟩ 0 (Fr.c ⟨true,false,true,(no:Int),0,s,a.D.now no⟩));rw[←ax]at s2 z;have hg:setCells ah ⟨C.a8,i*6,none⟩ 0 [true,false,true,no,U8,s]=x:=ax.symm;rw[hg];have aA:aa (di a) ah x:=z.mono λq _ e=>.inr (.inl (A▸e));have aB:bI (λq=>w1<=q) x s (a.D.now no):=bI.ab hs z λq p e=>by
     have:=ar C.a8 (.inr (.inl A.symm));omega
    have a3:gY X x {a with al:=a.al.set i ⟨true,false,true,(no:Int),0,s,a.D.now no⟩,D:=a.D.cI 1}:=by
     refine Ac (w:=w1) (V:=di a) (az:=a.D.cI 1) hi (no:=no) o.inv (S.trans aA) (λq _ h=>h) (o.inv.cI 1) (λ_=>rfl) (λq=>kO) ⟨true,false,true,(no:Int),0,s,a.D.now no⟩ rfl rfl ⟨rfl,R,?_,av,λ_=>rfl,λ_=>rfl,aF⟩ λk Y _ h1=>T _ (cg Y) h1;refine bI.bh aB λq _ p=>⟨λhf=>?_,λG=>?_⟩
     .have:di a q:=hf
      have:=ar q this;omega
     .have:=(o.inv.fB q G).1;omega
    have a4:∀j,({a with al:=a.al.set i ⟨true,false,true,(no:Int),0,s,a.D.now no⟩,D:=a.D.cI 1}:cp).view j=C.view j:=λj=>by
     have:=Ad (hd:=a.hand) (az:=a.D.cI 1) hi (no:=no) o.inv.un (λ_=>rfl) ⟨true,false,true,(no:Int),0,s,a.D.now no⟩ rfl rfl (λh1=>by rw[aS]at h1;cases h1) (λk Y _ h1=>T _ (cg Y) h1) j;rw[show({a with al:=a.al.set i ⟨true,false,true,(no:Int),0,s,a.D.now no⟩,D:=a.D.cI 1}:cp)=cp.mk a.c a.a8 (a.al.set i ⟨true,false,true,(no:Int),0,s,a.D.now no⟩) a.hand (a.D.cI 1) from rfl,this];by_cases e:j=no
     .rw[if_pos e,e,←H,au]
     .rw[if_neg e,H]
    have a5:fA x {a with al:=a.al.set i ⟨true,false,true,(no:Int),0,s,a.D.now no⟩,D:=a.D.cI 1}:=by
     refine⟨?_,by show bp _ a.a8 _ _;rw[A];exact s2,aq.ab z (λq p e=>(U q p).2 (A▸e)),?_,?_,?_,o.raw.a1⟩
     .have:=W.v.ab z (λe=>o.raw.a1.1 (A▸e))
      show Var _ _ [_,.slice _ (a.al.set i _).length (a.al.set i _).length,_] _;rw[c_];exact this
     .show 8<=(a.al.set i _).length;rw[c_];exact o.raw.bJ
     .show(a.al.set i _).length<=64;rw[c_];exact o.raw.b4
     .show a.hand<(a.al.set i _).length;rw[c_];exact o.raw.hd
    obtain⟨E,Z⟩:∃E:cp,E={a with al:=a.al.set i ⟨true,false,true,(no:Int),0,s,a.D.now no⟩,D:=a.D.cI 1}:=⟨_,rfl⟩;have ac:ej X x E:=by rw[Z];exact⟨a5,a3⟩
    have a6:eL C E w x 2:=by
     rw[Z];exact⟨u.c,u.d,by show(a.al.set i _).length=_;rw[c_];exact u.len,u.bk,u.aZ,u.calm,cn u.ab aA λq p h=>(u.dr q h).resolve_right I,u.dr⟩
    refine aH ((mM (B:=λq=>x<=q) aB.1 (by rw[av];omega) (λq p=>p)).use ?_);rintro _ bg ⟨t,rfl,ht,aC,_⟩;have bi:=z.size;refine⟨t,rfl,E,ac.ext aC,?_,?_,.inl ⟨t,rfl,?_⟩⟩
    .exact(a6.trans (eL.ext E aC)).mono I
    .intro j;rw[Z];exact a4 j
    .rw[←H,au]
     refine bI.bh ht λq _ p=>⟨I,λhf=>?_,λG=>?_⟩
     .have:=ac.raw.lt hf;omega
     .have:=(ac.inv.fB q G).1;omega
  .refine⟨_,_,rfl,λ_=>⟨a,o,y.mono I,H,.inr ⟨rfl,λhc=>aT (gM hc I)⟩⟩,λh=>(by simp at h)⟩
end
section
variable {w w':J}{C:cp}{X:U1}
def D5(X:U1)(C:cp)(no:Nat)(l:bY)(w:J)(v:Y)(w':J):Prop:=
 ∃aM:cp,ej X w' aM/\eL C aM w w' 1/\
  ((v=.int .i64 0/\∀j,aM.view j=if j=no then l else C.view j)\/(v=.int .i64 3/\¬C.D.calm 1/\∀j,aM.view j=C.view j))
theorem Ae{a:Fr}(h:fA w C)(hc:aa (λq=>q=C.a8) w w')(b:bp w' C.a8 (cl Fr.c (C.al.set i a)).toArray 275):fA w' {C with al:=C.al.set i a}:=by
 refine⟨?_,b,h.dev.ab hc (λq d e=>h.a1.2.2 (e▸d)),?_,?_,?_,h.a1⟩
 .have:=h.v.ab hc h.a1.1
  show Var _ _ [_,.slice _ (C.al.set i _).length (C.al.set i _).length,_] _;rw[c_];exact this
 .show 8<=(C.al.set i _).length;rw[c_];exact h.bJ
 .show(C.al.set i _).length<=64;rw[c_];exact h.b4
 .show C.hand<(C.al.set i _).length;rw[c_];exact h.hd
theorem set_set{fs:O Fr}(f g:Fr):(fs.set i f).set i g=fs.set i g:=List.set_set ..
theorem D6(h:ej X w C)(bs:C.D.aZ<=999999999)(aD:no<C.D.n)(aF:2<=no)(aG:¬C.D.cj no=true){b:U}(ag:Src 1 w b (aC l))(ai:l.length=256)(ak:∀q,ar b q->q<w/\¬di C q):
 aI aj 146 #[.pointer (some C.c),no,b] w (D5 X C no l w):=by
 have O:=h.raw;have aJ:=len8 ag;refine okF (ad.wO (some C.c) (no:Int) b) ay.wO func146 ?_;(delta ad.wO bR af jS gR aE st bU;dsimp only);refine(DX O _).use ?_;rintro _ _ ⟨rfl,rfl⟩;have aK:decide (0<=(no:Int)/\(no:Int)<C.D.n)=true:=dm ⟨I,I⟩;refine⟨_,rfl,λh1=>?_,λ_=>(xU O _).use ?_⟩
 .rw[aK,aJ,ai]at h1
  simp at h1
 rintro _ _ ⟨aL,rfl⟩
 have fin:∀ (w1:J) (a:cp) (i:Nat) (hi:i<a.al.length) (f1:Fr),ej X w1 a->eL C a w w1 1->a.a8=C.a8->(∀j,a.view j=C.view j)->f1.pins=0->∀ah:J,bp ah a.a8 (cl Fr.c (a.al.set i f1)).toArray 275->aa (λq=>q=a.a8) w1 ah->f1.full=true->f1.no=(no:Int)->
  ((a.al[i]).full=true->(a.al[i]).no=(no:Int))->(∀ (k:Nat) (E:k<a.al.length),k≠i->(a.al[k]).full=true->(a.al[k]).no≠(no:Int))->
  Calls aj 46 #[b] ah λaM P=>∃am:U,aM=.returned am/\∃fu:ax,(some ⟨C.a8,i*6,none⟩:an ax)=some fu/\(∃u:Y,P.cell? (fu.add 5)=some u)/\P.frozen? (fu.add 5)=false/\
   au (P.setCell (fu.add 5) am) λQ=>∃a23:ax,(some ⟨C.a8,i*6,none⟩:an ax)=some a23/\(∃u:Y,Q.cell? (a23.add 1)=some u)/\Q.frozen? (a23.add 1)=false/\
   au (Q.setCell (a23.add 1) true) λR=>∃H:ax,(some ⟨C.a8,i*6,none⟩:an ax)=some H/\(∃u:Y,R.cell? (H.add 2)=some u)/\R.frozen? (H.add 2)=false/\
   au (R.setCell (H.add 2) true) λaN=>D5 X C no l w (0:Int) aN:=by
  intro w1 a i hi f1 y o x aO S ah aP K L ap hold aq;have bt:=o.ab.size;have bu:=K.size;have bv:a.a8<w1.heap.size:=y.raw.lt (.inr (.inl rfl));have aQ:Src 1 ah b (aC l):=by
   refine(ag.ab o.ab λq m hf=>(ak q m).2 hf).ab K λq m e=>(ak q m).2 (.inr (.inl (x▸e)))
  refine(mM (B:=λq=>ah<=q) aQ I (λq m=>m)).use ?_;rintro _ aR ⟨s,rfl,hs,av,_⟩;have aS:=bp.ext aP av;have T:i<(a.al.set i f1).length:=by rw[c_];exact hi
  have W:(a.al.set i f1)[i]=f1:=by simp
  obtain⟨a1,a2,a3,a4⟩:=oN aS T (j:=5) (by decide) (v:=s) {f1 with b:=s} (by rw[W];rfl);rw[set_set]at a3;have aT:i<(a.al.set i {f1 with b:=s}).length:=by rw[c_];exact hi
  have aU:(a.al.set i {f1 with b:=s})[i]={f1 with b:=s}:=by simp
  obtain⟨c3,cu,z,A⟩:=oN a3 aT (j:=1) (by decide) (v:=true) {f1 with b:=s,gN:=true} (by rw[aU];rfl);rw[set_set]at z;have aV:i<(a.al.set i {f1 with b:=s,gN:=true}).length:=by rw[c_];exact hi
  have aW:(a.al.set i {f1 with b:=s,gN:=true})[i]={f1 with b:=s,gN:=true}:=by simp
  obtain⟨d1,d2,d3,d4⟩:=oN z aV (j:=2) (by decide) (v:=true) {f1 with b:=s,gN:=true,used:=true,l:=l} (by rw[aW];rfl);rw[set_set]at d3;rw[x]at a1 a2 a3 a4 c3 cu z A d1 d2 d3 d4 K;refine⟨s,rfl,_,rfl,a1,a2,?_⟩;rw[aw];refine aH ⟨_,rfl,c3,cu,?_⟩;rw[aw];refine aH ⟨_,rfl,d1,d2,?_⟩;rw[aw];have M:=(K.trans (aa.da av)).trans (a4.trans (A.trans d4));obtain⟨t,r⟩:∃t:Fr,t={f1 with b:=s,gN:=true,used:=true,l:=l}:=⟨_,rfl⟩;obtain⟨F,Z⟩:=U6 ((((aR.setCell ⟨C.a8,i*6+5,none⟩ s).setCell ⟨C.a8,i*6+1,none⟩ true).setCell ⟨C.a8,i*6+2,none⟩ true));rw[←Z,←r]at d3;rw[←Z]at M⊢;have aX:bI (λq=>ah<=q) F s l:=by
   have h1:=bI.ab hs a4 λq m e=>by rw[←x]at e;omega
   have G:=bI.ab h1 A λq m e=>by rw[←x]at e;omega
   have aY:=bI.ab G d4 λq m e=>by rw[←x]at e;omega
   rw[Z];exact aY
  have a0:fA F {a with al:=a.al.set i t}:=Ae y.raw (x▸M) (x▸d3);have a5:gY X F {a with al:=a.al.set i t}:=by
   refine Ac (w:=w1) (V:=λq=>q=C.a8) (az:=a.D) hi (no:=no) y.inv M (λq _ e=>.inr (.inl (x▸e))) y.inv.t_ (λ_=>rfl) (λq=>kO) t (r▸L) (r▸S) ⟨by rw[r];exact ap,by show no<a.D.n;rw[o.n];exact aD,?_,by rw[r];exact ai,λhd=>(by rw[r]at hd;cases hd),λhs=>absurd (o.cj▸hs) aG,aF⟩ aq;rw[r];refine bI.bh aX λq _ m=>⟨λhf=>?_,λa6=>?_⟩
   .have:di a q:=hf
    have:=y.raw.lt this;omega
   .have:=(y.inv.fB q a6).1;omega
  refine aH ⟨{a with al:=a.al.set i t},⟨a0,a5⟩,⟨o.c,o.d,by show(a.al.set i _).length=_;rw[c_];exact o.len,o.bk,o.aZ,o.calm,cn o.ab M λq m e=>.inr (.inl e),o.dr⟩,.inl ⟨rfl,λj=>?_⟩⟩;have:=Ad (C:=a) (hd:=a.hand) (az:=a.D) hi (no:=no) y.inv.un (λ_=>rfl) t (r▸L) (r▸ap) hold aq j;rw[show({a with al:=a.al.set i t}:cp)=cp.mk a.c a.a8 (a.al.set i t) a.hand a.D from rfl,this,aO];rw[r]
 obtain⟨i,hi,rfl,hf,ac⟩|⟨rfl,a7⟩:=aL
 .refine⟨_,rfl,cx (λp w'=>p=some ⟨C.a8,i*6,none⟩/\w=w') (λq m=>⟨nofun,λ_=>m _ _ ⟨rfl,rfl⟩⟩) ?_⟩
  rintro _ _ ⟨rfl,rfl⟩;have e:C.al.set i C.al[i]=C.al:=sI _;exact fin w C i hi C.al[i] h ((eL.refl C w).mono (cw _)) rfl (λ_=>rfl) (h.inv.pins _ (cg hi)) w (e▸O.f) (.refl _ _) hf ac (λ_=>ac) λk E a9 h1 G=>a9 (h.inv.un k i E hi h1 hf (by rw[G,ac]))
 .refine⟨_,rfl,cx (λp ah=>∃ (w1:J) (a:cp) (i:Nat) (hi:i<a.al.length) (f1:Fr),p=some ⟨C.a8,i*6,none⟩/\ej X w1 a/\eL C a w w1 1/\a.a8=C.a8/\(∀j,a.view j=C.view j)/\f1.pins=0/\bp ah a.a8 (cl Fr.c (a.al.set i f1)).toArray 275/\aa (λq=>q=a.a8) w1 ah/\f1.full=true/\f1.no=(no:Int)/\
   ((a.al[i]).full=true->(a.al[i]).no=(no:Int))/\(∀ (k:Nat) (E:k<a.al.length),k≠i->(a.al[k]).full=true->(a.al[k]).no≠(no:Int))) (λq m=>⟨λ_=>(D3 h I).use ?_,nofun⟩) ?_⟩
  .rintro _ w1 ⟨a,ae,aA,N,aB,a_,ba⟩
   have bb:∀f∈a.al,f.full=true->f.no≠(no:Int):=λf hf L bc=>by
    obtain⟨g,hg,h1,G⟩:=a_ f hf L;exact a7 g hg h1 (by rw[G,bc])
   obtain⟨i,hi,rfl,bd,S⟩|⟨rfl,be⟩:=ba
   .obtain⟨a1,a2,a3,a4⟩:=oN ae.raw.f hi (j:=0) (by decide) (v:=true) {a.al[i] with full:=true} rfl
    have T:i<(a.al.set i {a.al[i] with full:=true}).length:=by rw[c_];exact hi
    have W:(a.al.set i {a.al[i] with full:=true})[i]={a.al[i] with full:=true}:=by simp
    obtain⟨c3,cu,z,A⟩:=oN a3 T (j:=3) (by decide) (v:=no) {a.al[i] with full:=true,no:=(no:Int)} (by rw[W];rfl);rw[set_set]at z;rw[N]at a1 a2 c3 cu z a4 A;refine⟨_,_,rfl,λh=>(by simp at h),λ_=>⟨_,rfl,a1,a2,aH ⟨_,rfl,c3,cu,aH ?_⟩⟩⟩;rw[aw];exact m _ _ ⟨w1,a,i,hi,{a.al[i] with full:=true,no:=(no:Int)},rfl,ae,aA,N,aB,S,by rw[N];exact z,by rw[N];exact a4.trans A,rfl,rfl,λh1=>(by rw[bd]at h1;cases h1),λk E _ h1=>bb _ (cg E) h1⟩
   .exact⟨_,_,rfl,λ_=>⟨a,ae,aA,.inr ⟨rfl,be,aB⟩⟩,λh=>(by simp at h)⟩
  .rintro p ah ⟨w1,a,i,hi,f1,rfl,ao,bf,bg,bi,bj,bl,bm,bn,bo,bq,br⟩
   exact fin w1 a i hi f1 ao bf bg bi bj ah bl bm bn bo bq br
theorem JD(h:ej X w C)(no:Nat):aI aj 127 #[.pointer (some C.c),no] w (λv w'=>(∃b:ag,v=b)/\∃aM:cp,ej X w' aM/\eL C aM w w' 0/\(∀j,j≠no->aM.view j=C.view j)/\aM.D=C.D/\∀f∈aM.al,f.full=true->f∈C.al/\f.no≠(no:Int)):=by
 have g:=h.raw;refine okF (ad.wK (some C.c) (no:Int)) ay.wK func127 ?_;(delta ad.wK jS af aE r1 bf;dsimp only);refine(xU g _).use ?_;rintro _ _ ⟨y,rfl⟩;obtain⟨i,hi,rfl,hf,s⟩|⟨rfl,z⟩:=y
 .have f4:=k3 g.f hi (j:=4) (by decide)
  have A:=h.inv.pins _ (cg hi);refine⟨_,rfl,cx (λb w'=>b=false/\w=w') (λq l=>⟨nofun,λ_=>⟨_,rfl,(C.al[i]).pins,f4,l _ _ ⟨by rw[A];rfl,rfl⟩⟩⟩) ?_⟩;rintro _ _ ⟨rfl,rfl⟩;obtain⟨s1,s2,m⟩:=Aa g.f hi dU;refine⟨nofun,λ_=>⟨_,rfl,s1,rfl,aH ⟨⟨true,rfl⟩,{C with al:=C.al.set i dU},⟨Ae g m s2,?_⟩,?_,λj B=>?_,rfl,λf E ao=>?_⟩⟩⟩
  .exact Ab (V:=λq=>q=C.a8) (az:=C.D) hi h.inv m (λq _ e=>.inr (.inl e)) h.inv.t_ (λ_ _=>rfl) (λq h=>.inl h) dU rfl rfl
  .exact⟨rfl,rfl,by show(C.al.set i _).length=_;rw[c_],rfl,a_ _,λ_ h=>h,m.mono λq _ e=>.inr (.inl e),λq h=>.inl h⟩
  .refine D4 (fs:=C.al) (D:=C.D) (c:=C.c) (a8:=C.a8) (hd:=C.hand) h.inv.un (λa b F G h1 n o=>?_) (λk p ao d=>?_) λH=>⟨λf hf ao d=>?_,rfl⟩
   .have J:a<C.al.length:=by simpa using F
    have K:b<C.al.length:=by simpa using G
    by_cases t:i=a
    .subst t
     simp[dU]at h1
    by_cases u:i=b
    .subst u
     simp[dU]at n
    simp only[fD t]at h1 o;simp only[fD u]at n o;exact h.inv.un a b J K h1 n o
   .have r:i≠k:=λe=>by
     subst e;rw[s]at d;exact B I
    exact⟨k,by rw[c_];exact p,by simp only[fD r];exact ao,by simp only[fD r];exact d,by simp only[fD r]⟩
   .rcases mx hf with hf|rfl
    .exact H f hf ao d
    .cases ao
  .obtain⟨k,p,rfl⟩:=eO E
   have x:k<C.al.length:=by simpa using p
   by_cases e:i=k
   .subst e
    simp[dU]at ao
   .simp only[fD e]at ao⊢
    exact⟨cg x,λd=>e (h.inv.un i k hi x hf ao (s.trans d.symm))⟩
 .refine⟨_,rfl,cx (λb w'=>b=true/\w=w') (λq l=>⟨λ_=>l _ _ ⟨rfl,rfl⟩,nofun⟩) ?_⟩
  rintro _ _ ⟨rfl,rfl⟩;exact⟨λ_=>⟨⟨false,rfl⟩,C,h,eL.refl C w,λ_ _=>rfl,rfl,λf hf ao=>⟨hf,z f hf ao⟩⟩,nofun⟩
end
theorem JE(n:Nat):ie aj 275 n=(cl Fr.c (List.replicate n dU)).toArray:=by
 have a:((Tryz.prog.info? 275).bind (·.zero)).map (·.cells)=some dU.c.toArray:=by kernel_rfl
 have hc:Tryz.prog.cellsOf 275=6:=by kernel_rfl
 unfold ie;rw[hc]
 cases hi:(Tryz.prog.info? 275).bind (·.zero) with
 |none=>rw[hi]at a;cases a
 |some z=>
  rw[hi]at a;simp only[mX,Option.some.injEq]at a;simp only[sw,a];apply Array.ext
  .simp[gL (c:=Fr.c) (sz:=6) (List.replicate n dU) (λx _=>rfl)]
  .intro i h1 d
   have e:n*6≠0:=by
    intro h;simp[h]at h1
   have k:i<n*6:=by simpa using h1
   simp only[e,if_false,Array.getElem_map,Array.getElem_range,List.getElem_toArray];have b:dU.c.toArray.size=6:=rfl;have aB:i%6<6:=gu _ I;have f:i/6<(List.replicate n dU).length:=by rw[nS];omega
   have hg:=p0 (c:=Fr.c) (sz:=6) (l:=List.replicate n dU) (λx _=>rfl) (i:=i/6) (j:=i%6) f aB;rw[show i/6*6+i%6=i from I]at hg;have g:i<(cl Fr.c (List.replicate n dU)).length:=by simpa using d
   rw[dB g]at hg;have he:((List.replicate n dU)[i/6]).c=dU.c:=by simp
   rw[he,dB (show i%6<dU.c.length from aB)]at hg;have hg:=Option.some.inj hg;rw[hg,b,getElem!_pos dU.c.toArray (i%6) (b▸aB)];simp
def ji(c a8 k:Nat)(D:aS):cp:=⟨c,a8,List.replicate k dU,0,D⟩
theorem Af(c a8 k:Nat)(D:aS)(j:Nat):(ji c a8 k D).view j=D.now j:=by
 refine nF λf hf h1=>?_;rw[uF hf]at h1
 cases h1
theorem ra(h:cf w D)(h1:8<=k)(m:k<=64)(n:∀j,D.cj j=true->D.eC j=D.eS j):aI aj 120 #[.pointer (some D.d),k] w (λv w'=>∃c a8:Nat,v=.tuple #[.pointer (some c),U8]/\ej (λ_=>False) w' (ji c a8 k D)/\Ext w w'/\w.heap.size<=c/\w.heap.size<=a8):=by
 refine okF (ad.ra (some D.d) (k:Int)) ay.ra func120 ?_;delta ad.ra af ly ae;refine⟨λh=>?_,λ_=>⟨⟨I,I,I,I⟩,?_⟩⟩
 .simp only[Option.isNone_some,lP,fC,cq]at h;omega
 rw[JE,cS];have g:=bp.new w (cl Fr.c (List.replicate k dU)).toArray 275;have a:=dc w (.cells (cl Fr.c (List.replicate k dU)).toArray 275);have o:=iN w (.cells (cl Fr.c (List.replicate k dU)).toArray 275);obtain⟨w1,p⟩:=U6 (w.alloc (.cells (cl Fr.c (List.replicate k dU)).toArray 275));rw[←p]at g a o⊢;refine aH (bg (vs:=[.pointer (some D.d),.slice (some w.heap.size) k k,U8]) rfl λah r b t=>⟨w1.heap.size,w.heap.size,rfl,⟨⟨?_,bp.ext g b,h.ext (a.trans b),?_,?_,?_,?_,?_,?_⟩,⟨λf hf=>?_,λf hf l=>?_,λi j hi u h1=>?_,λq s=>s.elim,n⟩⟩,a.trans b,I,a_ _⟩)
 .show Var _ _ [_,.slice _ (List.replicate k dU).length (List.replicate k dU).length,_] _
  rw[nS];exact r
 .show 8<=(List.replicate k dU).length;simpa using h1
 .show(List.replicate k dU).length<=64;simpa using m
 .show 0<(List.replicate k dU).length;simp;omega
 .show w1.heap.size≠w.heap.size;omega
 .intro e
  have:=h.lt e;have:w1.heap.size<w.heap.size:=this;omega
 .intro e
  have:=h.lt e;have:w.heap.size<w.heap.size:=this;omega
 .rw[uF hf];rfl
 .rw[uF hf]at l;cases l
 .simp[ji,dU]at h1
structure aN where
 bE:Nat
 gen:Nat
 root:Nat
 aD:Nat
 C:cp
 sb:Nat
 n:Nat
 f:Nat->ag
 g:Nat->ag
 s1:U
 s2:U
 E:U1
 G:U1
 P:Nat->an aA
def aN.cJ(T:aN)(E G:U1):aN:={T with E:=E,G:=G}
def aN.bK(T:aN)(C:cp)(P:Nat->an aA):aN:={T with C:=C,P:=P}
def aN.X(T:aN)(q:Nat):Prop:=q=T.bE\/eH T.sb T.s1 T.s2 q\/T.E q\/T.G q
def aN.M(T:aN)(q:Nat):Prop:=di T.C q\/T.X q
def aN.N(T:aN)(q:Nat):Prop:=di T.C q\/q=T.bE\/eH T.sb T.s1 T.s2 q\/T.G q
theorem aN.hL{T:aN}(h:T.N q):T.M q:=h.imp id (Or.imp id (Or.imp id .inr))
def g9(gen:Nat)(leaf:ag)(no:Nat)(l:bY)(n:aA):Prop:=
 ∃p:h4,cG (no:Int) l=.ok p/\p.gen<=gen/\p.kind=(if leaf then 1 else 2)/\gX leaf p.body n/\2<=no
def mP(T:aN):O Y:=[.pointer (some T.C.c),.pointer (some T.sb),.int .u64 (T.gen:Nat),T.root,T.aD]
structure cm(w:J)(T:aN):Prop where
 t:Var w T.bE (mP T) 243
 s:e1 w T.sb T.n T.f T.g T.s1 T.s2
 ca:ej T.X w T.C
 k4:¬eH T.sb T.s1 T.s2 T.bE
 dF:∀q,T.E q->q≠T.bE/\¬eH T.sb T.s1 T.s2 q/\¬T.G q
 ki:∀q,T.G q->q≠T.bE/\¬eH T.sb T.s1 T.s2 q
 n:T.C.D.n=T.n
 num:T.root<T.n/\T.aD<=12/\T.gen<18446744073709551616
 eM:∀no bu,T.P no=some bu->no<T.n/\g9 T.gen bu.leaf no (T.C.view no) bu
 cj:∀j,T.C.D.cj j=true->T.g j=true\/T.C.D.ro
 low:T.g 0=true/\T.g 1=true
structure b_(T aq:aN)(w w':J)(k:Nat):Prop where
 bE:aq.bE=T.bE
 sb:aq.sb=T.sb
 n:aq.n=T.n
 g:aq.g=T.g
 s1:aq.s1=T.s1
 s2:aq.s2=T.s2
 c:aq.C.c=T.C.c
 d:aq.C.D.d=T.C.D.d
 bk:aq.C.D.key=T.C.D.key
 gen:aq.gen=T.gen
 aZ:aq.C.D.aZ<=T.C.D.aZ+k
 calm:∀m,T.C.D.calm (m+k)->aq.C.D.calm m
 ab:aa T.N w w'
 dr:∀q,aq.M q->T.M q\/w<=q
 fn:∀q,aq.N q->T.N q\/w<=q
theorem b_.cj{T aq:aN}(h:b_ T aq w w' k):aq.C.D.cj=T.C.D.cj/\aq.C.D.eS=T.C.D.eS:=by
 have:=congrArg Prod.fst h.bk;exact⟨congrArg (λp=>p.2.1) this,congrArg (λp=>p.2.2.1) this⟩
theorem b_.refl(T:aN)(w:J):b_ T T w w 0:=⟨rfl,rfl,rfl,rfl,rfl,rfl,rfl,rfl,rfl,rfl,a_ _,λ_ h=>h,.refl _ _,λ_ h=>.inl h,λ_ h=>.inl h⟩
theorem b_.ext(T:aN)(h:Ext w w'):b_ T T w w' 0:=⟨rfl,rfl,rfl,rfl,rfl,rfl,rfl,rfl,rfl,rfl,a_ _,λ_ h=>h,aa.da h,λ_ h=>.inl h,λ_ h=>.inl h⟩
theorem b_.trans{T aq e:aN}{f:J}{l:Nat}(h1:b_ T aq w w' k)(a:b_ aq e w' f l):b_ T e w f (k+l):=by
 have hs:=h1.ab.size;refine⟨a.bE.trans h1.bE,a.sb.trans h1.sb,a.n.trans h1.n,a.g.trans h1.g,a.s1.trans h1.s1,a.s2.trans h1.s2,a.c.trans h1.c,a.d.trans h1.d,a.bk.trans h1.bk,a.gen.trans h1.gen,U5 h1.aZ a.aZ,
  λm i=>a.calm m (h1.calm (m+l) (by rw[show m+l+k=m+(k+l) from I];exact i)),cn h1.ab a.ab λq b h=>(h1.fn q h).resolve_right I,λq b=>?_,λq b=>?_⟩
 .rcases a.dr q b with h|h
  .exact h1.dr q h
  .exact .inr I
 .rcases a.fn q b with h|h
  .exact h1.fn q h
  .exact .inr I
theorem b_.mono{T aq:aN}{l:Nat}(h:b_ T aq w w' k)(b:k<=l):b_ T aq w w' l:=
 ⟨h.bE,h.sb,h.n,h.g,h.s1,h.s2,h.c,h.d,h.bk,h.gen,U4 h.aZ,λm a=>h.calm m (gM a I),h.ab,h.dr,h.fn⟩
theorem b_.bu{T aq:aN}{lo:Nat}(h:b_ T aq w w' k){n:aA}{K V D:U}(e:b2 (λq=>lo<=q/\¬T.M q) w n K V D):b2 (λq=>lo<=q/\¬aq.M q) w' n K V D:=by
 have h1:b2 (λq=>q<w/\lo<=q/\¬T.M q) w n K V D:=e.bh λq b a=>⟨b,a⟩;refine(b2.ab h1 h.ab λq b c=>b.2.2 (aN.hL c)).bh λq _ a=>⟨a.2.1,λc=>?_⟩;rcases h.dr q c with d|d
 .exact a.2.2 d
 .have:=a.1;omega
section
variable {w w':J}{T aq:aN}
theorem b_.step{E G:U1}{w1:J}(h:b_ T aq w w1 k)(hc:aa W w1 w')(cz:∀q,W q->q<w->T.N q)(e:∀q,E q->aq.E q\/aq.G q\/w<=q)(b:∀q,G q->aq.G q\/w<=q):b_ T (aq.cJ E G) w w' k:=by
 refine⟨h.bE,h.sb,h.n,h.g,h.s1,h.s2,h.c,h.d,h.bk,h.gen,h.aZ,h.calm,cn h.ab hc λq a f=>cz q f a,λq a=>?_,λq a=>?_⟩
 .obtain a|a|a|a|a:=a
  .exact h.dr q (.inl a)
  .exact h.dr q (.inr (.inl a))
  .exact h.dr q (.inr (.inr (.inl a)))
  .rcases e q a with h1|h1|h1
   .exact h.dr q (.inr (.inr (.inr (.inl h1))))
   .exact h.dr q (.inr (.inr (.inr (.inr h1))))
   .exact .inr h1
  .rcases b q a with h1|h1
   .exact h.dr q (.inr (.inr (.inr (.inr h1))))
   .exact .inr h1
 .obtain a|a|a|a:=a
  .exact h.fn q (.inl a)
  .exact h.fn q (.inr (.inl a))
  .exact h.fn q (.inr (.inr (.inl a)))
  .rcases b q a with h1|h1
   .exact h.fn q (.inr (.inr (.inr h1)))
   .exact .inr h1
theorem b_.local{ck k5 a Ag:U1}{w1:J}(h:b_ (T.cJ ck a) aq w1 w' k)(hx:Ext w w1)(b:∀q,ck q->T.E q\/w<=q)(c:∀q,a q->T.G q\/w<=q)
 (d:∀q,k5 q->aq.E q\/aq.G q) (e:∀q,Ag q->aq.G q):b_ T (aq.cJ k5 Ag) w w' k:=by
 have h0:b_ T (T.cJ ck a) w w1 0:=(b_.ext T (w:=w) (w':=w) (aa.refl _ _)).step (W:=λ_=>False) hx (λ_ h=>h.elim) (λq h=>(b q h).imp id .inr) c;have h1:=h0.trans h;rw[cT]at h1;exact h1.step (W:=λ_=>False) (aa.refl _ _) (λ_ h=>h.elim) (λq h=>(d q h).imp id .inl) λq h=>.inl (e q h)
theorem cm.lt(h:cm w T)(a:T.M q):q<w:=by
 obtain a|a:=a
 .exact h.ca.raw.lt a
 .exact(h.ca.inv.fB q a).1
theorem cm.kg(h:cm w T)(b:T.E q):¬T.N q:=by
 rintro(a|a|a|a)
 .exact(h.ca.inv.fB q (.inr (.inr (.inl b)))).2 a
 .exact(h.dF q b).1 a
 .exact(h.dF q b).2.1 a
 .exact(h.dF q b).2.2 a
theorem cm.ext(h:cm w T)(hx:Ext w w'):cm w' T:=⟨h.t.ext hx,h.s.ext hx,h.ca.ext hx,h.k4,h.dF,h.ki,h.n,h.num,h.eM,h.cj,h.low⟩
theorem ej.grow{X d:U1}{C:cp}(h:ej X w C)(hc:aa W w w')(cz:∀q,W q->q<w->X q)(e:∀q,d q->X q\/(w<=q/\q<w')):ej d w' C:=by
 have g:aa X w w':=cn (W:=X) (aa.refl _ _) hc λq a i=>cz q i a;refine⟨h.raw.ab g λq a hx=>(h.inv.fB q hx).2 a,h.inv.pins,λf hf j=>?_,h.inv.un,λq a=>?_,h.inv.nD⟩
 .obtain⟨no,ao,k,m,n,o,p,r⟩:=h.inv.ok f hf j
  have s:bI (λq=>q<w/\¬di C q/\¬X q) w f.b f.l:=bI.bh m λq a c=>⟨a,c⟩;refine⟨no,ao,k,bI.bh (bI.ab s g λq a hx=>a.2.2 hx) λq _ c=>⟨c.2.1,λt=>?_⟩,n,o,p,r⟩;rcases e q t with h1|h1
  .exact c.2.2 h1
  .have:=c.1;omega
 .rcases e q a with h1|h1
  .exact⟨ga (h.inv.fB q h1).1 hc.size,(h.inv.fB q h1).2⟩
  .exact⟨h1.2,λhf=>U4 (h.raw.lt hf)⟩
theorem cm.grow{E G:U1}(h:cm w T)(hc:aa W w w')(cz:∀q,W q->q<w->T.E q\/T.G q)(c:∀q,E q->T.E q\/T.G q\/(w<=q/\q<w'))(f:∀q,G q->T.E q\/T.G q\/(w<=q/\q<w'))(j:∀q,E q->¬G q):cm w' (T.cJ E G):=by
 have b:∀q,T.E q\/T.G q->q≠T.bE/\¬eH T.sb T.s1 T.s2 q:=λq a=>by
  obtain a|a:=a
  .exact⟨(h.dF q a).1,(h.dF q a).2.1⟩
  .exact h.ki q a
 have g:aa (λq=>T.E q\/T.G q) w w':=cn (W:=λq=>T.E q\/T.G q) (aa.refl _ _) hc λq a k=>cz q k a;have d:∀q,T.E q\/T.G q\/(w<=q/\q<w')->q≠T.bE/\¬eH T.sb T.s1 T.s2 q:=λq a=>by
  obtain a|a|a:=a
  .exact b q (.inl a)
  .exact b q (.inr a)
  .exact⟨λe=>by have l:=h.lt (q:=q) (.inr (.inl e));omega,λe=>by have l:=h.lt (q:=q) (.inr (.inr (.inl e)));omega⟩
 have i:∀q,T.E q\/T.G q\/(w<=q/\q<w')->T.X q\/(w<=q/\q<w'):=λq a=>by
  obtain a|a|a:=a
  .exact .inl (.inr (.inr (.inl a)))
  .exact .inl (.inr (.inr (.inr a)))
  .exact .inr a
 refine⟨h.t.ab g λe=>(b _ e).1 rfl,h.s.ab g λq a e=>(b q e).2 a,h.ca.grow hc (λq a m=>.inr (.inr (cz q a m))) λq a=>?_,h.k4,λq a=>⟨(d q (c q a)).1,(d q (c q a)).2,j q a⟩,λq a=>d q (f q a),h.n,h.num,h.eM,h.cj,h.low⟩;obtain a|a|a|a:=a
 .exact .inl (.inl a)
 .exact .inl (.inr (.inl a))
 .exact i q (c q a)
 .exact i q (f q a)
theorem cm.cells(h:cm w T):w.cell? T.bE=some (.pointer (some T.C.c))/\w.cell? (Addr.add T.bE 1)=some (.pointer (some T.sb))/\w.cell? (Addr.add T.bE 2)=some (.int .u64 (T.gen:Nat))/\
 w.cell? (Addr.add T.bE 3)=some (.int .i64 (T.root:Nat))/\w.cell? (Addr.add T.bE 4)=some (.int .i64 (T.aD:Nat)):=by
 rw[aw,aw,aw,aw];exact⟨h.t.cell,h.t.cell,h.t.cell,h.t.cell,h.t.cell⟩
theorem cm.JF(h:cm w T)(a:no<T.n):(T.C.view no).length=256:=by
 unfold cp.view
 cases hf:T.C.al.find? λf=>f.full&&f.no==(no:Int) with
 |some f=>
  have h1:=jL hf;have b:=kP hf;obtain⟨m,c⟩:=h.ca.inv.ok f h1 (by
   have:(f.full&&f.no==(no:Int))=true:=b;exact(Bool.and_eq_true_iff.1 this).1)
  exact c.len
 |none=>exact h.ca.raw.dev.nA (h.n▸a)
theorem cm.xW{aM:cp}{P:Nat->an aA}(h:cm w T)(e:ej T.X w' aM)(a:eL T.C aM w w' k)(f:∀no bu,P no=some bu->no<T.n/\g9 T.gen bu.leaf no (aM.view no) bu):
 cm w' (T.bK aM P)/\b_ T (T.bK aM P) w w' k:=by
 have hx:=h.ca.inv.fB;have hc:=a.ab;refine⟨⟨?_,h.s.ab hc λq b hf=>(hx q (.inr (.inl b))).2 hf,e,h.k4,h.dF,h.ki,?_,h.num,f,λj l=>by unfold aS.ro;show T.g j=true\/∀i,aM.D.cj i=true;rw[a.cj];exact h.cj j (a.cj▸l),h.low⟩,⟨rfl,rfl,rfl,rfl,rfl,rfl,a.c,a.d,a.bk,rfl,a.aZ,a.calm,hc.mono λq _ b=>.inl b,?_,?_⟩⟩
 .have:=h.t.ab hc λhf=>(hx T.bE (.inl rfl)).2 hf
  unfold mP at this⊢;rw[←a.c]at this;exact this
 .show aM.D.n=T.n
  rw[a.n,h.n]
 .rintro q (b|b)
  .rcases a.dr q b with h1|h1
   .exact .inl (.inl h1)
   .exact .inr h1
  .exact .inl (.inr b)
 .rintro q (b|b)
  .rcases a.dr q b with h1|h1
   .exact .inl (.inl h1)
   .exact .inr h1
  .exact .inl (.inr b)
end
def JG(T:aN)(leaf:ag)(no:Nat)(e:Int):Prop:=
 (e=3/\¬T.C.D.calm 2)\/cG (no:Int) (T.C.view no)=.error e\/(e=4/\(∃p,cG (no:Int) (T.C.view no)=.ok p)/\∀n,¬g9 T.gen leaf no (T.C.view no) n)
def p7(T:aN)(leaf:ag)(no:Nat)(w:J)(v:Y)(w':J):Prop:=
 ∃aM:cp,cm w' (T.bK aM T.P)/\b_ T (T.bK aM T.P) w w' 2/\(∀j,aM.view j=T.C.view j)/\
  ((∃ (n:aA) (K V D:U),v=.tuple #[dg n K V D,U8]/\g9 T.gen leaf no (T.C.view no) n/\b2 (λq=>w<=q/\¬(T.bK aM T.P).M q) w' n K V D)\/
    (∃e:Int,v=.tuple #[dg jW bG bG bG,e]/\JG T leaf no e/\e≠0))
theorem D7{no:Int}{e:Int}(h:cG no l=.error e):e≠0:=by
 intro he;subst he;unfold cG at h
 repeat' split at h
 all_goals first|(injection h with h;exact absurd h (by decide))|cases h
theorem JH{no:Int}{p:h4}(h:cG no l=.ok p):p.body.length<=256:=by
 unfold cG at h
 repeat' split at h
 all_goals first|(cases h;done)|skip
 rename_i h1 _ _ _ _ _;injection h with h
 rw[←h];show(List.take _ (List.drop 24 l)).length<=256;rw[cQ,dW];omega
theorem lJ{h:Nat}{vs:O Y}(n g:Int)(s:U)(a:Var w' h vs 137)(b:vs.length=3){K:U2}(c:∀ah,Var ah h [n,.int .u64 g,s] 137->aa (λq=>q=h) w' ah->ah.heap.size=w'->K ah):
 c5 w' h [n,.int .u64 g,s]/\(3:Nat)=3/\au (setCells w' h 0 [n,.int .u64 g,s]) K:=by
 refine⟨a.cF (by rw[b];rfl) ?_,rfl,c6 a (us:=[n,.int .u64 g,s]) (by rw[b];rfl) rfl c⟩;intro v a;simp only[cN,er,ez]at a;rcases a with rfl|rfl|rfl<;>trivial
theorem Ah{T:aN}(h:cm w T)(aO:T.C.D.aZ<=999999999)(al:no<T.n)(am:2<=no)(leaf:ag):
 aI aj 175 #[.pointer (some T.bE),no,leaf] w (p7 T leaf no w):=by
 have bi:=h.s.bz;have aP:=h.JF al;refine okF (ad.wT (some T.bE) (no:Int) leaf) ay.wT func175 ?_;(delta ad.wT z3 aE dY af bf ae tf aW av aJ jR z4 aF bZ c0 r1 tg kU;dsimp only);refine bg (vs:=[false,(),(),()]) rfl λw1 aQ an bj=>?_;obtain⟨o,N⟩:=U6 (λq=>T.G q\/q=w.heap.size);have ap:o w.heap.size:=by rw[N];exact .inr rfl
 have O:∀q,T.G q->o q:=λq c=>by rw[N];exact .inl c
 have R:∀q,o q->T.G q\/q=w.heap.size:=λq c=>by rw[N]at c;exact c
 have h1:cm w1 (T.cJ T.E o):=h.grow (W:=λ_=>False) an (λ_ h=>h.elim) (λq c=>.inl c) (λq c=>.inr ((R q c).imp id λe=>⟨I,I⟩)) λq c hg=>by
  rcases R q hg with t|t
  .exact(h.dF q c).2.2 t
  .have:=h.lt (q:=q) (.inr (.inr (.inr (.inl c))));omega
 refine⟨_,rfl,_,h1.cells.1,(JC h1.ca aO (no:=no) (h1.n▸al) am).use ?_⟩;rintro _ m ⟨aM,aR,S,u,aS⟩;obtain⟨X,aT⟩:=h1.xW (P:=T.P) aR S (λno bu aU=>by rw[u];exact h1.eM no bu aU);have bk:=S.ab.size;have aq:Var m w [false,(),(),()] 169:=aQ.ab S.ab λhf=>(h1.ca.inv.fB _ (.inr (.inr (.inr ap)))).2 hf
 have fin:∀w':J,aa (λq=>q=w) m w'->cm w' (T.bK aM T.P)/\b_ T (T.bK aM T.P) w w' 2:=λw' hc=>by
  refine⟨X.grow (E:=T.E) (G:=T.G) hc (λq e _=>.inr (e▸ap)) (λq c=>.inl c) (λq c=>.inr (.inl (O q c))) λq c=>(h.dF q c).2.2,?_⟩;have aV:=aT.local an (λq c=>.inl c) (λq c=>(R q c).imp id λe=>I) (k5:=T.E) (Ag:=T.G) (λq c=>.inl c) O;exact aV.step hc (λq e bl=>I) (λq c=>.inl c) λq c=>.inl c
 have aX:∀ {w':J}{n:aA}{K V D:U}{B:U1},b2 (λq=>m<=q) w' n K V D->b2 (λq=>w<=q/\¬(T.bK aM T.P).M q) w' n K V D:=λaY=>by
  refine aY.bh λq _ c=>⟨I,λj=>?_⟩;have:q<m:=X.lt (q:=q) (by
   obtain j|j|j|j|j:=j
   .exact .inl j
   .exact .inr (.inl j)
   .exact .inr (.inr (.inl j))
   .exact .inr (.inr (.inr (.inl j)))
   .exact .inr (.inr (.inr (.inr (O q j)))))
  omega
 obtain⟨s,rfl,hs⟩|⟨rfl,a0⟩:=aS
 .refine⟨s,0,rfl,nofun,λ_=>(mG hs.1 hs.2.1 (by show(T.C.view no).length<=1000;rw[aP];omega) _).use ?_⟩
  rintro _ a1 ⟨z,H⟩;have ar:=aq.ext H;have bm:=H.size;have a2:(T.cJ T.E o).C.view no=T.C.view no:=rfl;rw[a2]at z
  cases g:cG (no:Int) (T.C.view no) with
  |error e=>
   rw[g]at z;obtain rfl:=z;refine⟨0,0,⟨none,0,0⟩,e,rfl,bg (vs:=[U8,.int .u64 0,()]) rfl λa3 Y v a4=>?_⟩;refine lJ 0 0 ⟨none,0,0⟩ Y rfl λf au x a5=>⟨λ_=>?_,λd=>?_⟩
   .have Z:Var f w [false,(),(),()] 169:=(ar.ext v).ab x I
    refine jh false bG bG bG Z rfl (Q:=λb K V D ah=>p7 T leaf no w (.tuple #[.agg #[b,K,V,D],e]) ah) λl i=>?_;obtain⟨f1,f2⟩:=fin l (cn (W:=λq=>q=w) (aa.da (Ext.bQ (H.trans v) x I)) i λq _ e=>e);exact⟨aM,f1,f2,u,.inr ⟨e,rfl,.inr (.inl g),D7 g⟩⟩
   .have:=D7 g
    simp at d;omega
  |ok p=>
   rw[g]at z;obtain⟨A,rfl,ac,bn⟩:=z;refine⟨p.kind,p.gen,A,0,rfl,bg (vs:=[U8,.int .u64 0,()]) rfl λa3 Y v a4=>?_⟩;refine lJ p.kind p.gen A Y rfl λf au x a5=>⟨nofun,λ_=>aH ?_⟩;have Z:Var f w [false,(),(),()] 169:=(ar.ext v).ab x I;have a6:Ext m f:=Ext.bQ (H.trans v) x I;have F:Ext m f.drew:=a6.trans (cc _);have ai:Var f.drew w [false,(),(),()] 169:=Z.drew;have L:=au.drew;have a7:=(X.ext F).cells;obtain⟨b,d⟩:=U6 a1.heap.size;rw[←d]at L⊢;have ak:f.drew.cell? b=some (.int .i64 (p.kind:Nat)):=L.cell;have a8:f.drew.cell? (Addr.add b 1)=some (.int .u64 (p.gen:Nat)):=by rw[aw];exact L.cell
   have a9:f.drew.cell? (Addr.add b 2)=some (.slice A.a A.len A.cap):=by rw[aw];exact L.cell
   have bo:m.heap.size<=f.drew.heap.size:=F.size;refine⟨id,_,a8,_,rfl,id,_,a7.2.2.1,λhg=>?_,λhg=>⟨id,_,ak,?_⟩⟩
   .have hg:T.gen<p.gen:=by
     have:(p.gen:Int)>(T.gen:Int):=bB hg;omega
    refine cx (λb w'=>b=true/\w'=f.drew) (λq c=>⟨λ_=>c _ _ ⟨rfl,rfl⟩,λh=>by cases h⟩) ?_;rintro _ _ ⟨rfl,rfl⟩;refine⟨λ_=>?_,nofun⟩;refine jh false bG bG bG ai rfl (Q:=λb K V D ah=>p7 T leaf no w (.tuple #[.agg #[b,K,V,D],(4:Int)]) ah) λl i=>?_;obtain⟨f1,f2⟩:=fin l (cn (W:=λq=>q=w) (aa.da F) i λq _ e=>e);refine⟨aM,f1,f2,u,.inr ⟨4,rfl,.inr (.inr ⟨rfl,⟨p,g⟩,?_⟩),by decide⟩⟩;rintro n ⟨ax,ao,az,_⟩;rw[g]at ao;cases ao;omega
   .have hg:p.gen<=T.gen:=by
     have:¬(p.gen:Int)>(T.gen:Int):=bT hg;omega
    refine cx (λb w'=>w'=f.drew/\(b=false↔p.kind=(if leaf then 1 else 2))) (λq c=>⟨λh=>c _ _ ⟨rfl,?_⟩,λh=>⟨_,ak,cx (λb w'=>w'=f.drew/\(b=false↔p.kind=(if leaf then 1 else 2))) (λr aB=>⟨λt=>⟨_,ak,aB _ _ ⟨rfl,?_⟩⟩,λt=>aB _ _ ⟨rfl,?_⟩⟩) λb w' a_=>c b w' a_⟩⟩) ?_
    .refine⟨nofun,λy=>?_⟩
     rw[y]at h
     cases leaf<;>simp at h
    .cases leaf
     .simp
      exact Int.ofNat_inj
     .simp at t h;omega
    .cases leaf
     .simp at t h;omega
     .simp at t
      simp;omega
    rintro bp _ ⟨rfl,y⟩;refine⟨λd=>?_,λd=>⟨_,a9,(ou ((ac.ext (Ext.bQ v x I|>.trans (cc _))).src) ?_ ?_ ?_ leaf).use ?_⟩⟩
    .refine jh false bG bG bG ai rfl (Q:=λb K V D ah=>p7 T leaf no w (.tuple #[.agg #[b,K,V,D],(4:Int)]) ah) λl i=>?_
     obtain⟨f1,f2⟩:=fin l (cn (W:=λq=>q=w) (aa.da F) i λq _ e=>e);refine⟨aM,f1,f2,u,.inr ⟨4,rfl,.inr (.inr ⟨rfl,⟨p,g⟩,?_⟩),by decide⟩⟩;rintro n ⟨ax,ao,az,aC,_⟩;rw[g]at ao;cases ao;rw[y.2 aC]at d;cases d
    .exact ac.2.1
    .intro k y
     have:=aL.lt ac k y;have:=v.size;show k<f;omega
    .have:=JH g
     omega
    rintro _ ba ⟨bb,aD⟩;have aG:Ext m ba:=F.trans aD;have aK:=ai.ext aD;obtain⟨n,K,V,D,rfl,bc,cO⟩|⟨rfl,bd⟩:=bb
    .refine⟨n.leaf,K,V,D,0,rfl,?_⟩
     refine jh n.leaf K V D aK rfl (Q:=λb K V D ah=>p7 T leaf no w (.tuple #[.agg #[b,K,V,D],U8]) ah) λl i=>?_;obtain⟨f1,f2⟩:=fin l (cn (W:=λq=>q=w) (aa.da aG) i λq _ e=>e);refine⟨aM,f1,f2,u,.inl ⟨n,K,V,D,rfl,⟨p,g,hg,y.1 d,bc,am⟩,?_⟩⟩;refine aX (B:=λ_=>True) (b2.ab (cO.bh λq _ c=>?_) i λq c e=>?_)
     .omega
     .have:m<=q:=c
      omega
    .refine⟨false,bG,bG,bG,4,rfl,?_⟩
     refine jh false bG bG bG aK rfl (Q:=λb K V D ah=>p7 T leaf no w (.tuple #[.agg #[b,K,V,D],(4:Int)]) ah) λl i=>?_;obtain⟨f1,f2⟩:=fin l (cn (W:=λq=>q=w) (aa.da aG) i λq _ e=>e);refine⟨aM,f1,f2,u,.inr ⟨4,rfl,.inr (.inr ⟨rfl,⟨p,g⟩,?_⟩),by decide⟩⟩;rintro n ⟨ax,ao,az,aC,be,_⟩;rw[g]at ao;cases ao;exact bd n be
 .refine⟨⟨none,0,0⟩,3,rfl,λ_=>?_,nofun⟩
  refine jh false bG bG bG aq rfl (Q:=λb K V D ah=>p7 T leaf no w (.tuple #[.agg #[b,K,V,D],(3:Int)]) ah) λl i=>?_;obtain⟨f1,f2⟩:=fin l i;exact⟨aM,f1,f2,u,.inr ⟨3,rfl,.inl ⟨rfl,a0⟩,by decide⟩⟩
end Go.Proofs.YtcmgnhkpfllinaaGreat
