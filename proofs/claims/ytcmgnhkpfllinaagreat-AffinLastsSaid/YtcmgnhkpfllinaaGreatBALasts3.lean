/- Contracts of the functions that the statement reaches, and the plain laws over them; each theorem stands with its conditions. -/
import Derived.OpenShut
import Derived.Shelf.SlIterI.Nil
import Derived.Shelf.SortM.Plain
import Derived.Shelf.SortM.SortNone
import Derived.Test.YtcmgnhkpfllinaaGreatProg
import Derived.Test.YtcmgnhkpfllinaaGreatRows
import Derived.Test.YtcmgnhkpfllinaaGreatBALasts2
namespace Go.Proofs.YtcmgnhkpfllinaaGreat
open Go aS Go.Proofs.Tryz
variable{i j k sz:Nat}{P:Program}{T:TypeId}{α:Type}{w w0:J}{s:ad}{l:O UInt8}
section
variable {α:Type}{c:α->O aa}{sz:Nat}
def bl(c:α->O aa)(l:O α):O aa:=(l.map c).flatten
theorem ke(l m:O α):bl c (l++m)=bl c l++bl c m:=by simp[bl]
theorem si(x:α)(l:O α):bl c (x::l)=c x++bl c l:=rfl
theorem e5:∀ (l:O α),(∀x∈l,(c x).length=sz)->(bl c l).length=l.length*sz
 | [],_=>by simp[bl]
 |x::l,h=>by
  rw[si,cz,h x U9,e5 l λy a=>h y (by simp[a]),fi,jT];omega
theorem Kc{l:O α}(h:i<l.length):l=l.take i++l[i]::l.drop (i+1):=by rw[←kp h,ga]
theorem A5{l:O α}(hc:∀x∈l,(c x).length=sz)(h:i<l.length):(bl c l).take (i*sz)=bl c (l.take i)/\(bl c l).drop (i*sz)=c l[i]++bl c (l.drop (i+1)):=by
 have a:(bl c (l.take i)).length=i*sz:=by
  rw[e5 _ λx hx=>hc x (fq hx),cF,iX I]
 have e:bl c l=bl c (l.take i)++(c l[i]++bl c (l.drop (i+1))):=by
  conv=>lhs;rw[Kc h]
  rw[ke,si]
 rw[e];exact⟨nB a,drop_left' a⟩
theorem Ex{l:O α}(hc:∀x∈l,(c x).length=sz)(h:i<l.length):((bl c l).drop (i*sz)).take sz=c l[i]:=by
 rw[(A5 hc h).2];exact nB (hc _ (cJ h))
theorem yq{l:O α}(hc:∀x∈l,(c x).length=sz)(h:i<l.length)(a:j<sz):(bl c l)[i*sz+j]? =(c l[i])[j]? :=by
 rw[←Ex hc h,List.getElem?_take_of_lt a,uT]
theorem Ey{l:O α}(hc:∀x∈l,(c x).length=sz)(h:i<l.length)(x:α):(bl c l).take (i*sz)++c x++(bl c l).drop (i*sz+sz)=bl c (l.set i x):=by
 have h1:=A5 hc h;have h2:(bl c l).drop (i*sz+sz)=bl c (l.drop (i+1)):=by
  rw[←lu,h1.2];exact drop_left' (hc _ (cJ h))
 rw[h1.1,h2,y0,if_pos h,ke,si,cO]
theorem Ke{l:O α}(hc:∀x∈l,(c x).length=sz)(h:i<l.length)(a:j<sz){x:α}{v:aa}(hx:c x=(c l[i]).set j v):(bl c l).set (i*sz+j) v=bl c (l.set i x):=by
 have b:(c l[i]).length=sz:=hc _ (cJ h);have h1:=A5 hc h;have e:bl c l=bl c (l.take i)++(c l[i]++bl c (l.drop (i+1))):=by
  conv=>lhs;rw[←ga (i*sz) (bl c l),h1.1,h1.2]
 have d:(bl c (l.take i)).length=i*sz:=by
  rw[e5 _ λx hx=>hc x (fq hx),cF,iX I]
 rw[e,uZ _ _ I,show i*sz+j-(bl c (l.take i)).length=j from I,List.set_append_left _ _ I,←hx,y0,if_pos h,ke,si]
end
section
variable {α:Type} [DecidableEq α] {P:Program}{w:J}{iB fv T:TypeId}{enc:α->aa}{r:Nat}{M:O (α×aa)}{k:α}{v:aa}
theorem Kf(f:om P iB enc)(j:P.underlying T=some (.map iB fv))(h:eK w r enc M)(l:∀v,(k,v)∉M)(v:aa):
 ∃w1:J,(Instr.mapUpdate T (.map (some r)) (enc k) v).run P w=.ok () w1/\ag (λq=>q=r) w w1/\w1.heap.size=w/\eK w1 r enc ((k,v)::M):=by
 have aI:=h.lt;obtain⟨L,c,h,h1,h2,m,g⟩:=h;have i:=Dk h1 l;have hf:=f.find L k w;rw[zF i]at hf;refine⟨js w r (.map ((L.map (ec enc)).toArray.push ⟨enc k,v,c⟩) (c+1)),?_,tm _ _ _,vM _ _ _,L++ [(k,v,c)],c+1,?_,?_,?_,?_,?_⟩
 .simp only[Instr.mapUpdate,Sem.run_bind,di j,Result.andThen,nn h,Sem.run_pure,f.check,hf,zH h]
 .rw[vN aI]
  simp[ec]
 .rw[fP]
  have:([(k,v,c)]:O (α×aa×Nat)).map mE=[(k,v)]:=rfl;rw[this];exact(sQ).trans (List.Perm.cons _ h1)
 .rw[fP,o8]
  refine⟨h2,by simp,λa e b d=>?_⟩;obtain⟨x,hx,rfl⟩:=eJ.1 e;simp only[hJ,List.map_nil,e8]at d;subst d;exact i x hx
 .rw[fP,o8]
  refine⟨m,by simp,λa e b d=>?_⟩;obtain⟨x,hx,rfl⟩:=eJ.1 e;simp only[hJ,List.map_nil,e8]at d;subst d;have:=g x hx;omega
 .intro x hx
  rcases cR.1 hx with hx|hx
  .have:=g x hx;omega
  .rw[e8.1 hx];show c<c+1;omega
theorem Kg(c:om P iB enc)(g:P.underlying T=some (.map iB fv))(h:eK w r enc ((k,v)::M))(b:aa):
 ∃w1:J,(Instr.mapUpdate T (.map (some r)) (enc k) b).run P w=.ok () w1/\ag (λq=>q=r) w w1/\w1.heap.size=w/\eK w1 r enc ((k,b)::M):=by
 have aI:=h.lt;obtain⟨n,bn,bK,a,f,h,h1,h2,i,d,_⟩:=h.split;have hf:=c.find (bn++(k,v,a)::bK) k w;rw[zG (Dj h2),cA]at hf;have hg:((bn++(k,v,a)::bK).map (ec enc)).toArray[bn.length]? =some ⟨enc k,v,a⟩:=by simp[ec]
 have j:((bn++(k,v,a)::bK).map (ec enc)).toArray.modify bn.length (λe=>{e with key:=enc k,val:=b})=((bn++(k,b,a)::bK).map (ec enc)).toArray:=by
  apply Array.toList_inj.1;rw[Array.toList_modify,fP,hJ];have:=Di (λe=>{e with key:=enc k,val:=b}) (ec enc (k,v,a)) (bK.map (ec enc)) (bn.map (ec enc));rw[cU]at this;rw[this];simp[ec]
 refine⟨js w r (.map ((bn++(k,b,a)::bK).map (ec enc)).toArray f),?_,tm _ _ _,vM _ _ _,bn++(k,b,a)::bK,f,vN aI _,?_,?_,?_,?_⟩
 .simp only[Instr.mapUpdate,Sem.run_bind,di g,Result.andThen,nn h,Sem.run_pure,c.check,hf,hg,mq,sM,Instr.keyThatStays,c.bits,if_true,zH h,j]
 .rw[fP,hJ]
  rw[fP]at h1;exact n0.trans (h1.cons _)
 .simpa using h2
 .simpa using i
 .intro x hx
  rcases cR.1 hx with hx|hx
  .exact d x (by simp[hx])
  .rcases cZ.1 hx with rfl|hx
   .exact d (k,v,a) U9
   .exact d x (by simp[hx])
end
abbrev c7:=O UInt8
structure h7 where
 i:Nat
 s:ad
 gK:O c7
structure a8 where
 d:Nat
 lb:Nat
 mr:Nat
 cu:O Int
 bJ:O c7
 waits:O h7
 writes:Int
 aX:Nat
 cl:Nat->ao
 eW:Nat->O c7
 r1:ao
def h7.e(x:h7):Int×aa:=((x.i:Int),x.s)
def a8.c(D:a8):O aa:=D.cu.map (.int .i64)++ [.slice (some ⟨D.lb,0,none⟩) D.bJ.length D.bJ.length,.map (some D.mr),.int .i64 D.writes]
def a8.n(D:a8):Nat:=D.bJ.length
abbrev encZ:Int->aa:=λn=>n
theorem ql:om aj 3 encZ:=om.int U3
theorem mR:Tryz.prog.underlying 125=some (.map 3 124):=by kernel_rfl
theorem Ez:(Tryz.prog.info? 124).bind (·.zero)=some (.slice none 0 0):=by kernel_rfl
theorem uo{z:aa}(h:(P.info? T).bind (·.zero)=some z):∃i,P.info? T=some i/\i.zero=some z:=by
 cases hi:P.info? T with
 |none=>rw[hi]at h;cases h
 |some i=>rw[hi]at h;exact⟨i,rfl,h⟩
def b4(D:a8)(q:Nat):Prop:=q=D.d\/q=D.lb\/q=D.mr\/∃x∈D.waits,aD x.s q
structure cL(w:J)(D:a8):Prop where
 v:Var w D.d D.c 129
 l:bu w D.lb (bl aC D.bJ).toArray 151
 m:eK w D.mr encZ (D.waits.map h7.e)
 ws:∀x∈D.waits,aR 256 151 w x.s (bl aC x.gK)
 wn:∀x∈D.waits,x.gK≠ []/\x.i<D.n/\x.gK.length<=D.aX
 sl:∀s∈D.bJ,s.length=256
 lK:∀x∈D.waits,∀s∈x.gK,s.length=256
 b6:16<=D.n
 bx:D.n<=1600
 f4:D.cu.length=4
 fr:∀x∈D.cu, -1<=x/\x<=9223372036854775807
 a1:D.d≠D.lb/\D.d≠D.mr/\D.lb≠D.mr
 a2:∀x∈D.waits,¬aD x.s D.d/\¬aD x.s D.lb/\¬aD x.s D.mr
 a3:∀x∈D.waits,∀y∈D.waits,x.i≠y.i->∀q,aD x.s q->¬aD y.s q
 r:D.r1=true->D.cu.getD 1 0= -1
theorem Kh{cu:O Int}{x:Int}(a:cu.length=4)(h:cu.getD 1 0= -1)(hx:k=1->x= -1):(cu.set k x).getD 1 0= -1:=by
 rw[ft]at h⊢;by_cases e:k=1
 .subst e
  rw[List.getElem?_set_self I,hx rfl];rfl
 .rw[List.getElem?_set_ne e];exact h
section
variable {w w':J}{D:a8}
theorem cL.ah{W:U1}(h:cL w D)(hc:ag W w w')(a:∀q,b4 D q->¬W q):cL w' D:=
 ⟨h.v.ah hc (a _ (.inl rfl)),bu.ah h.l hc (a _ (.inr (.inl rfl))),h.m.ah hc (a _ (.inr (.inr (.inl rfl)))),λx hx=>(h.ws x hx).ah hc λq b=>a q (.inr (.inr (.inr ⟨x,hx,b⟩))),h.wn,h.sl,h.lK,h.b6,h.bx,h.f4,h.fr,h.a1,h.a2,h.a3,h.r⟩
theorem cL.ext(h:cL w D)(hc:Ext w w'):cL w' D:=h.ah hc λ_ _ h=>h
theorem cL.lt(h:cL w D){q:Nat}(a:b4 D q):q<w:=by
 obtain rfl|rfl|rfl|⟨x,hx,a⟩:=a
 .exact h.v.lt
 .exact bu.lt h.l
 .exact h.m.lt
 .exact(h.ws x hx).lt q a
theorem cL.Ki(h:cL w D)(a:k<4):w.cell? ⟨D.d,k,none⟩=some (.int .i64 (D.cu.getD k 0)):=by
 rw[h.v.cell];unfold a8.c;have:=h.f4;rw[u0 (by rw[cU];omega),mz,dR I,fB I];rfl
theorem cL.e3(h:cL w D):w.cell? (Addr.add ⟨D.d,0,none⟩ 4)=some (.slice (some ⟨D.lb,0,none⟩) D.bJ.length D.bJ.length):=by
 rw[aA,h.v.cell];unfold a8.c;have:=h.f4;rw[hL (by rw[cU];omega),cU,this];rfl
theorem cL.gg(h:cL w D):w.cell? (Addr.add ⟨D.d,0,none⟩ 5)=some (.map (some D.mr)):=by
 rw[aA,h.v.cell];unfold a8.c;have:=h.f4;rw[hL (by rw[cU];omega),cU,this];rfl
theorem cL.yr(h:cL w D):D.c.length=7:=by
 unfold a8.c;have:=h.f4;simp;omega
def a8.now(D:a8)(i:Nat):c7:=match D.waits.find? λx=>x.i==i with
 |some x=>x.gK.getLastD []
 |none=>D.bJ.getD i []
theorem Kj{l:O α}{d:α}(h:l≠ []):l.getLastD d∈l:=by
 cases l with
 |nil=>exact absurd rfl h
 |cons a l=>
  rw[List.getLastD_cons];rw[←List.getLast_eq_getLastD];exact List.getLast_mem h
theorem cL.qm(h:cL w D)(hi:i<D.n):(D.now i).length=256:=by
 unfold a8.now
 cases hf:D.waits.find? λx=>x.i==i with
 |some x=>
  have hx:=jY hf;exact h.lK x hx _ (Kj (h.wn x hx).1)
 |none=>
  have a:i<D.bJ.length:=hi;rw[show(match (none:au h7) with|some x=>x.gK.getLastD []|none=>D.bJ.getD i [])=D.bJ.getD i [] from rfl,fB a];exact h.sl _ (cJ _)
theorem sj(h:cL w D):aH aj 55 #[.pointer (some D.d)] w (λv w'=>v=D.n/\w=w'):=by
 refine okF (ae.wQ (some D.d)) ax.wQ func55 ?_;(delta ae.wQ ak al;dsimp only);exact⟨nofun,λ_=>⟨_,rfl,⟨some D.lb,D.bJ.length,D.bJ.length⟩,h.e3,rfl,rfl⟩⟩
theorem EA(h:cL w D)(i:Int):aH aj 85 #[.pointer (some D.d),i] w (λv w'=>v=.bool (decide (0<=i/\i<D.n))/\w=w'):=by
 refine okF (ae.w5 (some D.d) i) ax.w5 func85 ?_;(delta ae.w5 ak al;dsimp only);refine cc (λb w'=>b=decide (0<=i/\i<D.n)/\w=w') (λq c=>⟨λa=>⟨_,rfl,⟨some D.lb,D.bJ.length,D.bJ.length⟩,h.e3,c _ _ ⟨?_,rfl⟩⟩,λa=>c _ _ ⟨?_,rfl⟩⟩) ?_
 .have a:0<=i:=by simpa using a
  rw[eG,b8,b8];exact⟨λh=>⟨a,h⟩,λh=>h.2⟩
 .have a:¬0<=i:=by simpa using a
  rw[gS (λh=>a h.1)]
 .rintro _ _ ⟨rfl,rfl⟩
  exact⟨rfl,rfl⟩
end
def g1(f:Int):ao×Int:=if f= -1 then (false, -1) else if f=0 then (true, -1) else (false,f-1)
theorem Kk{f:Int}(h: -1<=f/\f<=9223372036854775807): -1<=(g1 f).2/\(g1 f).2<=9223372036854775807:=by
 unfold g1;split
 .exact⟨by decide,by decide⟩
 .split
  .exact⟨by decide,by decide⟩
  .show -1<=f-1/\f-1<=_;omega
def a8.cN(D:a8)(k:Nat):a8:={D with cu:=D.cu.set k (g1 (D.cu.getD k 0)).2}
def a8.gh(D:a8)(k:Nat):ao:=(g1 (D.cu.getD k 0)).1
theorem A6{D:a8}(h:cL w D)(p:k<4):
 aH aj 117 #[.pointer (some ⟨D.d,0,none⟩),.int .i64 ((k:Nat):Int)] w (λv w'=>v=.bool (D.gh k)/\cL w' (D.cN k)/\ag (λq=>q=D.d) w w'/\w'.heap.size=w):=by
 have hf:=h.Ki p;have g:=h.f4;have s: -1<=D.cu.getD k 0/\D.cu.getD k 0<=9223372036854775807:=by rw[fB I];exact h.fr _ (cJ _)
 have j:∀ (w1:J),cL w1 D->cL (w1.setCell ⟨D.d,k,none⟩ (.int .i64 (g1 (D.cu.getD k 0)).2)) (D.cN k):=by
  intro w1 h1;have hc:=dU w1 D.d k (.int .i64 (g1 (D.cu.getD k 0)).2);have n:=eE h1.v (i:=k) (.int .i64 (g1 (D.cu.getD k 0)).2);have e:D.c.set k (.int .i64 (g1 (D.cu.getD k 0)).2)=(D.cN k).c:=by
   unfold a8.c a8.cN;rw[List.set_append_left _ _ (by rw[cU];omega),←List.map_set]
  rw[e]at n;refine⟨n,bu.ah h1.l hc (λe=>h.a1.1 e.symm),h1.m.ah hc (λe=>h.a1.2.1 e.symm),λx hx=>(h1.ws x hx).ah hc λq t e=>(h.a2 x hx).1 (by subst e;exact t),h.wn,h.sl,h.lK,h.b6,h.bx,by show(D.cu.set k _).length=4;rw[dp];exact g,λx hx=>?_,h.a1,h.a2,h.a3,λo=>Kh g (h.r o) λe=>by subst e;rw[h.r o];rfl⟩;rcases m_ hx with hx|rfl
  .exact h.fr x hx
  .exact Kk s
 have f:Addr.add ⟨D.d,0,none⟩ (Int.toNat ((k:Nat):Int)*1)=⟨D.d,k,none⟩:=by rw[c2,f_,aA,cA]
 refine okF (ae.xe (some ⟨D.d,0,none⟩) ((k:Nat):Int)) ax.xe func117 ?_;(delta ae.xe r1 ak st ar;dsimp only);refine⟨_,rfl,⟨I,by show(k:Int)<4;omega⟩,D.cu.getD k 0,by rw[f];exact hf,λh1=>?_,λh1=>⟨λh2=>⟨_,rfl,⟨I,by show(k:Int)<4;omega⟩,?_⟩,λh2=>aT ⟨_,rfl,⟨I,by show(k:Int)<4;omega⟩,id,_,by rw[f];exact hf,_,rfl,⟨I,by show(k:Int)<4;omega⟩,?_⟩⟩⟩
 .have h1:D.cu.getD k 0= -1:=by simpa using h1
  have a:D.gh k=false:=by unfold a8.gh g1;rw[if_pos h1]
  have b:D.cN k=D:=by
   unfold a8.cN g1;rw[if_pos h1];have:D.cu.set k (-1)=D.cu:=by
    rw[←h1,fB I];exact List.set_getElem_self _
   rw[this]
  rw[a,b];exact⟨rfl,h,.refl _ _,rfl⟩
 .have h1:D.cu.getD k 0≠ -1:=by simpa using h1
  have h2:D.cu.getD k 0=0:=by simpa using h2
  have hs:=ez h.v (i:=k) (by rw[h.yr];omega);have a:D.gh k=true:=by unfold a8.gh g1;rw[if_neg h1,if_pos h2]
  have b:(g1 (D.cu.getD k 0)).2= -1:=by unfold g1;rw[if_neg h1,if_pos h2]
  have:=j w h;rw[b]at this;rw[f,a];exact⟨hs.1,hs.2,aT ⟨rfl,this,dU _ _ _ _,by simp[World.setCell]⟩⟩
 .have h1:D.cu.getD k 0≠ -1:=by simpa using h1
  have h2:D.cu.getD k 0≠0:=by simpa using h2
  have hd:=h.ext (cw w);have hs:=ez hd.v (i:=k) (by rw[h.yr];omega);have a:D.gh k=false:=by unfold a8.gh g1;rw[if_neg h1,if_neg h2]
  have b:(g1 (D.cu.getD k 0)).2=D.cu.getD k 0-1:=by unfold g1;rw[if_neg h1,if_neg h2]
  have:=j w.drew hd;rw[b]at this;rw[f,a,bq I I];exact⟨hs.1,hs.2,aT ⟨rfl,this,(ag.cX (cw w)).trans (dU _ _ _ _),by simp[World.setCell]⟩⟩
def a8.eQ(D:a8)(i:Nat):O c7:=match D.waits.find? λx=>x.i==i with
 |some x=>x.gK
 |none=> []
theorem yt(D:a8)(h:∀x∈D.waits,x.gK≠ [])(i:Nat):D.now i=if D.eQ i=[] then D.bJ.getD i [] else (D.eQ i).getLastD []:=by
 unfold a8.now a8.eQ
 cases hf:D.waits.find? λx=>x.i==i with
 |some x=>
  have hx:=jY hf;simp only;rw[if_neg (h x hx)]
 |none=>simp
def a8.calm(D:a8)(k:Nat):Prop:=(D.cu.getD 1 0= -1\/(k:Int)<=D.cu.getD 1 0)/\(D.cu.getD 2 0= -1\/(k:Int)<=D.cu.getD 2 0)
def a8.k7(D:a8):Int->Prop:=λn=>(∀j,D.cl j=true)->D.writes=n
def a8.ro(D:a8):Prop:=∀i,D.cl i=true
def a8.key(D:a8):(O c7×(Nat->ao)×(Nat->O c7)×(Int->Prop)×ao)×Int:=((D.bJ,D.cl,D.eW,D.k7,D.r1),D.cu.getD 3 0)
theorem cE{W V:U1}{w' b:J}(h1:ag W w w')(h2:ag V w' b)(h:∀q,q<w.heap.size->V q->W q):ag W w b:=
 ⟨h2.os.trans h1.os,h2.tape.trans h1.tape,h2.output.trans h1.output,eO h1.size h2.size,λk a cv=>(h2.block k (fO a h1.size) λc=>cv (h k a c)).trans (h1.block k a cv)⟩
theorem gq{D:a8}{l:Nat}(h:D.calm k)(a:l<=k):D.calm l:=⟨h.1.imp id λh=>I,h.2.imp id λh=>I⟩
theorem kI{D:a8}{m:Nat}(c:k=1\/k=2)(e:D.cu.length=4)(h:D.calm (m+1)):(D.cN k).calm m/\D.gh k=false:=by
 obtain⟨h1,h2⟩:=h;have jq:1<D.cu.length:=I
 have d:2<D.cu.length:=I
 obtain rfl|rfl:=c
 .have a:(D.cN 1).cu.getD 1 0=(g1 (D.cu.getD 1 0)).2:=by
   show(D.cu.set 1 _).getD 1 0=_;rw[fB (by rw[dp];omega),iY]
  have b:(D.cN 1).cu.getD 2 0=D.cu.getD 2 0:=by
   show(D.cu.set 1 _).getD 2 0=_;rw[fB (by rw[dp];omega),fQ I,fB d]
  unfold a8.calm a8.gh;rw[a,b];unfold g1;obtain h1|h1:=h1
  .rw[if_pos h1]
   exact⟨⟨.inl rfl,h2.imp id λh=>I⟩,rfl⟩
  .rw[if_neg I,if_neg I]
   exact⟨⟨.inr (by show(m:Int)<=_-1;omega),h2.imp id λh=>I⟩,rfl⟩
 .have a:(D.cN 2).cu.getD 2 0=(g1 (D.cu.getD 2 0)).2:=by
   show(D.cu.set 2 _).getD 2 0=_;rw[fB (by rw[dp];omega),iY]
  have b:(D.cN 2).cu.getD 1 0=D.cu.getD 1 0:=by
   show(D.cu.set 2 _).getD 1 0=_;rw[fB (by rw[dp];omega),fQ I,fB jq]
  unfold a8.calm a8.gh;rw[a,b];unfold g1;obtain h2|h2:=h2
  .rw[if_pos h2]
   exact⟨⟨h1.imp id λh=>I,.inl rfl⟩,rfl⟩
  .rw[if_neg I,if_neg I]
   exact⟨⟨h1.imp id λh=>I,.inr (by show(m:Int)<=_-1;omega)⟩,rfl⟩
theorem sk(D:a8)(a:k=1\/k=2):(D.cN k).key=D.key:=by
 unfold a8.key a8.cN;rcases a with rfl|rfl<;>simp[ft]<;>rfl
theorem qn{c:α->O aa}{l:O α}(h:Src sz w s (bl c l))(hc:∀x∈l,(c x).length=sz)(e:0<sz)(hi:i<l.length):
 s.len=l.length/\∃A,s.a=some A/\bf w (A.add (i*sz)) 0 sz=some (c l[i]):=by
 have b:s.len=l.length:=by
  have:=h.len;rw[e5 l hc]at this;exact(Nat.eq_of_mul_eq_mul_right e this).symm
 refine⟨b,?_⟩
 cases d:s.a with
 |none=>
  have:=congrArg List.length (h.nil d);rw[e5 l hc,lv]at this;have:l.length*sz≠0:=Nat.mul_ne_zero I I;omega
 |some A=>
  refine⟨A,rfl,?_⟩;have f:i*sz+sz<=s.len*sz:=by
   rw[b,←Nat.succ_mul];exact nZ _ hi
  rw[zL (h.rd A d) f,Ex hc hi]
def sn:O aa:=aC (List.replicate 256 0)
def A7(D:a8)(i:Nat)(w:J)(v:aa)(w':J):Prop:=v=.agg (aC (D.now i)).toArray/\Ext w w'
theorem EB{D:a8}(h:cL w D)(hi:i<D.n)(Q:D.aX<=1000000000):
 aH aj 118 #[.pointer (some D.d),i] w (A7 D i w):=by
 have R:=h.bx;have f:=h.qm hi;refine okF (ae.xf (some D.d) (i:Int)) ax.xf func118 ?_;(delta ae.xf vX ak ar z_ Y al jb;dsimp only);refine a6 (vs:=sn) U3 λw1 g u _=>?_;have hd:=h.ext u;refine⟨_,rfl,some D.mr,hd.gg,?_⟩;have y:sn.length=256:=by rw[sn,de,m5]
 have fin:∀ (K:O aa->U2),(∀a,Ext w a->K (aC (D.now i)) a)->bp w1 w (Array.toList (aC (D.now i)).toArray)/\Array.size (aC (D.now i)).toArray=256/\an (setCells w1 w 0 (Array.toList (aC (D.now i)).toArray)) λa=>∃b:O aa,bf a w 0 256=some b/\K b a:=by
  intro K E;refine⟨g.ct (by rw[sR,de,f,y]) (by rw[sR];exact jd _),by simp[de,f],cP g (us:=aC (D.now i)) (by rw[de,f,y]) rfl λa F G _=>⟨_,F.rd (by rw[de,f]),E a (Ext.cp u G (bk _))⟩⟩
 cases hf:D.waits.find? λx=>x.i==i with
 |some x=>
  have hx:=jY hf;have H:x.i=i:=by
   have:=kR hf;exact eq_of_beq this
  have j:=hd.m.zI ql mR (k:=(i:Int)) (v:=x.s) (eJ.2 ⟨x,hx,by unfold h7.e;rw[H]⟩) false;have L:=(h.wn x hx).1;have hlen:0<x.gK.length:=u4.2 L;have S:=(h.wn x hx).2.2;obtain⟨z,A,av,p⟩:=qn (hd.ws x hx).src (λs hs=>by rw[de];exact h.lK x hx s hs) (by decide) (i:=x.gK.length-1) I;have q:D.now i=x.gK[x.gK.length-1]'I:=by
   unfold a8.now;rw[hf];show x.gK.getLastD []=_;rw[List.getLastD_eq_getLast?,y1,dR I];rfl
  refine⟨x.s,w1,j,λ_=>⟨A,av,?_⟩,λr=>?_⟩
  .rw[z,bq (n:=(x.gK.length:Int)-1) I I]
   have M:Int.toNat ((x.gK.length:Int)-1)=x.gK.length-1:=I
   rw[M];refine⟨⟨I,I⟩,_,p,?_⟩;rw[←q];exact fin (λb a=>A7 D i w (.agg b.toArray) a) λa t=>⟨rfl,t⟩
  .have:=cr r
   omega
 |none=>
  obtain⟨T,h1,h2⟩:=uo Ez;have j:=hd.m.Dl ql mR (k:=(i:Int)) h1 h2 (λv g=>by
   obtain⟨x,hx,he⟩:=eJ.1 g;have N:=jX.1 hf x hx;unfold h7.e at he;simp only[Prod.mk.injEq]at he;apply N;have:x.i=i:=I
   rw[this];simp) false
  have B:i<D.bJ.length:=hi;have q:D.now i=D.bJ[i]:=by
   unfold a8.now;rw[hf];exact fB B
  have P:Src 256 w1 ⟨some D.lb,D.bJ.length,D.bJ.length⟩ (bl aC D.bJ):=by
   have C:=e5 (c:=aC) (sz:=256) D.bJ λs hs=>by rw[de];exact h.sl s hs
   have:=bu.tn (sz:=256) (o:=0) (n:=D.bJ.length) (cap:=D.bJ.length) hd.l (by simp[C]);rw[iV,sR,dO (by rw[C];exact bk _)]at this;exact this
  obtain⟨z,A,av,p⟩:=qn P (λs hs=>by rw[de];exact h.sl s hs) (by decide) B;refine⟨⟨none,0,0⟩,w1,j,λr=>by simp at r,λ_=>⟨_,rfl,_,hd.e3,A,av,⟨I,by show(i:Int)<(D.bJ.length:Int);omega⟩,_,p,?_⟩⟩;rw[←q];exact fin (λb a=>A7 D i w (.agg b.toArray) a) λa t=>⟨rfl,t⟩
def Kl(D:a8)(i:Nat)(w:J)(v:aa)(w':J):Prop:=
 cL w' (D.cN 1)/\ag (λq=>q=D.d) w w'/\
  ((D.gh 1=true/\v=.tuple #[(),(3:Int)])\/
   (D.gh 1=false/\∃s:ad,v=.tuple #[s,U8]/\bI (λq=>w<=q) w' s (D.now i)))
theorem A8{D:a8}(h:cL w D)(hi:i<D.n)(x:D.aX<=1000000000):
 aH aj 75 #[.pointer (some D.d),i] w (Kl D i w):=by
 refine okF (ae.w4 (some D.d) (i:Int)) ax.w4 func75 ?_;delta ae.w4 bP ak l2 vX Y;refine(EA h _).use ?_;rintro _ _ ⟨rfl,rfl⟩;refine⟨_,rfl,λa=>?_,λ_=>⟨_,rfl,(A6 h (k:=1) (by decide)).use ?_⟩⟩
 .have a:¬(0<=(i:Int)/\(i:Int)<D.n):=by simpa using a
  omega
 rintro _ ai ⟨rfl,b,j,z⟩;refine⟨_,rfl,λa=>⟨b,j,.inl ⟨a,rfl⟩⟩,λa=>(EB b (i:=i) hi x).use ?_⟩;rintro _ m ⟨rfl,g⟩;have f:=h.qm hi;refine⟨_,rfl,a6 (vs:=sn) U3 λB p r C=>⟨p.ct (by rw[sR,de];show(D.now i).length=_;rw[f,sn,de,m5]) (by rw[sR];exact jd _),by rw[ve,de];exact f,cP p (us:=aC (D.now i)) (by rw[de,f,sn,de,m5]) rfl λE s t F=>?_⟩⟩;have G:=g.size;have aI:D.d<ai.heap.size:=b.v.lt;refine⟨(b.ext (g.trans r)).ah t (λq u e=>by have:=b.lt u;omega),cE (j.trans (ag.cX (g.trans r))) t λq u e=>I,.inr ⟨a,⟨some m.heap.size,256,256⟩,rfl,?_,bk _,λk y=>?_⟩⟩
 .have:=s.r5 (o:=0) (n:=256) (c:=256) (l:=D.now i) (by rw[de,f];decide) (by rw[iV,dO (by rw[de,f];decide)])
  exact this
 .obtain⟨A,av,rfl⟩:=y
  cases av;have:=s.lt;exact⟨by show w.heap.size<=m.heap.size;omega,this⟩
theorem EC:∀ (l:O aa) (k:Nat) (a:Array aa),(l.zipIdx k).foldl (λcs (p:aa×Nat)=>cs.setIfInBounds p.2 p.1) a=gV a k l
 | [],_,_=>rfl
 |v::l,k,a=>by
  rw[List.zipIdx_cons,List.foldl_cons]
  exact EC l (k+1) (a.setIfInBounds k v)
theorem A9{e:TypeId}{d:TypeDesc}{i:TypeInfo}{z:aa}{cs:Array aa}(w:J)(h1:P.underlying T=some (.slice e))(h2:P.underlying e=some d)(f:P.cellsOf e=sz)(hi:P.info? e=some i)(g:i.zero=some z)(a:cs.size=sz)(o:sz≠0)(q:sz<=16777216):
 Sem.run P (Instr.buildSlice T 1 #[(0,.agg cs)]) w=.ok (.slice (some w) 1 1) (w.alloc (.cells cs e)):=by
 have b:=iA (P:=P) (w:=w) h2;rw[f]at b;have h:Instr.fill (λi=>some (i*sz,sz)) ((Array.range (1*sz)).map λx=>z.cells[x%z.cells.size]!) [(0,.agg cs)]=some cs:=by
  have hc:(Value.agg cs).cells=cs:=rfl;rw[Instr.fill];simp only[hc];rw[if_neg (by simp[a]),Instr.fill];rw[←Array.foldl_toList,Array.toList_zipIdx];have e:(λ(cs:Array aa) (x:aa×Nat)=>match x with|(c,j)=>cs.setIfInBounds (0*sz+j) c)=λcs (p:aa×Nat)=>cs.setIfInBounds p.2 p.1:=by
   funext cs x;obtain⟨c,j⟩:=x;simp
  rw[e,EC]
  congr 1
  apply Array.toList_inj.1;rw[l1 _ _ _ (by simp[a])];simp[a]
 have k:=n4 (w:=w) hi;have l:¬(1*sz>2^24):=by
  have:(2:Nat)^24=16777216:=rfl;omega
 have m:¬(1*sz=0):=I
 have n:Instr.fill (λi=>some (i*sz,sz)) ((Array.range (1*sz)).map λx=>z.cells[x%z.cells.size]!) (#[(0,Value.agg cs)]:Array (Nat×aa)).toList=some cs:=h;simp only[Instr.buildSlice,Sem.run_bind,di h1,b,Result.andThen,l,m,if_false,zeroValue,k,g,Sem.run_pure,n];simp[newRow,newObj,Sem.run]
theorem ED(w:J)(l:c7)(a:l.length=256):
 Sem.run aj (Instr.buildSlice 124 1 #[(0,.agg (aC l).toArray)]) w=.ok (.slice (some w) 1 1) (w.alloc (.cells (aC l).toArray 151)):=by
 have h:((Tryz.prog.info? 151).bind (·.zero)).isSome=true:=by kernel_rfl
 obtain⟨z,b⟩:=nU.1 h;obtain⟨i,hi,c⟩:=uo b;exact A9 (d:=.array 256 5) (sz:=256) w U3 U3 U3 hi c (by rw[ve,de,a]) (by decide) (by decide)
theorem Km:ij aj 124 151 256 256:=⟨by kernel_rfl⟩
theorem Kn{c:α->O aa}{l:O α}(h:∀x∈l,∀v∈c x,Plain v):∀v∈bl c l,Plain v:=by
 intro v a;obtain⟨x,hx,a⟩:=List.mem_flatten.1 a;obtain⟨b,d,rfl⟩:=eJ.1 hx;exact h b d v a
def a8.put(D:a8)(i:Nat)(s:ad)(l:c7):a8:=
 {D.cN 2 with waits:=⟨i,s,D.eQ i++ [l]⟩::D.waits.filter (λx=>x.i !=i),writes:=IntKind.wrap .i64 (D.writes+1),aX:=D.aX+1}
theorem EE{D:a8}(h:j≠i):(D.waits.filter λx=>x.i !=i).find? (λx=>x.i==j)=D.waits.find? λx=>x.i==j:=by
 rw[List.find?_filter]
 congr 1
 funext x;by_cases e:x.i=j
 .rw[e];simp[h]
 .simp[e]
theorem EF(D:a8)(i:Nat)(s:ad)(l:c7)(j:Nat):(D.put i s l).eQ j=if j=i then D.eQ i++ [l] else D.eQ j:=by
 unfold a8.eQ a8.put;by_cases h:j=i
 .subst h
  simp[a8.eQ]
 .rw[if_neg h]
  simp only;rw[List.find?_cons_of_neg (by simp;omega),EE h]
theorem qo(D:a8)(i:Nat)(s:ad)(l:c7)(j:Nat):(D.put i s l).now j=if j=i then l else D.now j:=by
 unfold a8.now a8.put;by_cases h:j=i
 .subst h
  simp
 .rw[if_neg h]
  simp only;rw[List.find?_cons_of_neg (by simp;omega),EE h];rfl
def EG(D:a8)(i:Nat)(l:c7)(w:J)(v:aa)(w':J):Prop:=
 (D.gh 2=true/\v=.int .i64 3/\cL w' (D.cN 2)/\ag (λq=>q=D.d) w w')\/
 (D.gh 2=false/\v=.int .i64 0/\∃s:ad,cL w' (D.put i s l)/\ag (b4 D) w w'/\∀q,aD s q->b4 D q\/w<=q)
theorem yu{D:a8}{b:ad}{l:c7}(h:cL w D)(hi:i<D.n)(be:D.aX<=1000000000)(X:Src 1 w b (aC l))(K:l.length=256)(hd:∀q,aD b q->¬b4 D q):
 aH aj 58 #[.pointer (some ⟨D.d,0,none⟩),.int .i64 ((i:Nat):Int),.slice b.a b.len b.cap] w (EG D i l w):=by
 have aB:=len8 X;have bg:=h.bx;refine okF (ae.wS (some ⟨D.d,0,none⟩) ((i:Nat):Int) b) ax.wS func58 ?_;(delta ae.wS bP ak zU r1 st ar;dsimp only);refine(EA h _).use ?_;rintro _ _ ⟨rfl,rfl⟩;have aU:decide (0<=(i:Int)/\(i:Int)<D.n)=true:=dh ⟨I,I⟩;refine⟨_,rfl,λh1=>?_,λ_=>⟨_,rfl,(A6 h (k:=2) (by decide)).use ?_⟩⟩
 .rw[aU,aB,K]at h1
  simp at h1
 rintro _ ai ⟨rfl,G,Y,bh⟩;refine⟨_,rfl,λZ=>.inl ⟨Z,rfl,G,Y⟩,λZ=>aT ?_⟩;obtain⟨p,hold⟩:∃p:ad,(match D.waits.find? λx=>x.i==i with|some x=>x.s|none=>⟨none,0,0⟩)=p:=⟨_,rfl⟩;have z:=G.ext (cw ai);have aV:Src 1 ai.drew b (aC l):=(X.ah Y λq f e=>hd q f (.inl e)).ext (cw ai)
 have aW:aR 256 151 ai.drew p (bl aC (D.eQ i))/\(∀q,aD p q->b4 D q/\q≠D.d/\q≠D.lb/\q≠D.mr)/\(∀x∈D.waits,x.i≠i->∀q,aD x.s q->¬aD p q)/\(D.eQ i).length<=D.aX/\(∀s∈D.eQ i,s.length=256)/\
  ∀w':J,eK w' D.mr encZ (D.waits.map h7.e)->Sem.run aj (Instr.lookup 125 (.map (some D.mr)) (.int .i64 ((i:Nat):Int)) false) w'=.ok (.slice p.a p.len p.cap) w':=by
  cases hf:D.waits.find? λx=>x.i==i with
  |some x=>
   rw[hf]at hold;have hold:x.s=p:=hold;subst hold;have hx:=jY hf;have S:x.i=i:=by
    have:=kR hf;exact eq_of_beq this
   have e:D.eQ i=x.gK:=by unfold a8.eQ;rw[hf]
   rw[e];refine⟨z.ws x hx,λq f=>⟨.inr (.inr (.inr ⟨x,hx,f⟩)),λe=>(h.a2 x hx).1 (e▸f),λe=>(h.a2 x hx).2.1 (e▸f),λe=>(h.a2 x hx).2.2 (e▸f)⟩,λy t B=>h.a3 y t x hx I,(h.wn x hx).2.2,h.lK x hx,λw' L=>L.zI ql mR (k:=(i:Int)) (v:=.slice x.s.a x.s.len x.s.cap) (eJ.2 ⟨x,hx,by unfold h7.e;rw[S]⟩) false⟩
  |none=>
   rw[hf]at hold;have hold:(⟨none,0,0⟩:ad)=p:=hold;subst hold;have e:D.eQ i=[]:=by unfold a8.eQ;rw[hf]
   rw[e];obtain⟨bi,h1,h2⟩:=uo Ez;refine⟨aR.none _ _ _,λq f=>(fH q f).elim,λx _ _ q _ f=>(fH q f).elim,cI _,λs hs=>(by cases hs),λw' L=>L.Dl ql mR (k:=(i:Int)) h1 h2 (λv ab=>?_) false⟩;obtain⟨x,hx,he⟩:=eJ.1 ab;have aY:=jX.1 hf x hx;unfold h7.e at he;simp only[Prod.mk.injEq]at he;apply aY;have:x.i=i:=I
   rw[this];simp
 obtain⟨aE,C,aF,bj,aG,aI⟩:=aW;obtain⟨A,av,aZ⟩:∃A,b.a=some A/\bf ai.drew A 0 256=some (aC l):=by
  cases aJ:b.a with
  |none=>
   have:=congrArg List.length (X.nil aJ);rw[de,K]at this
   cases this
  |some A=>
   refine⟨A,rfl,?_⟩;have:=aV.rd A aJ;rwa[aB,K]at this
 have a0:¬aD p A.block:=λf=>hd _ ⟨A,av,rfl⟩ (C _ f).1
 have aK:∀E:J,Ext ai.drew E->∃ (g:ad) (j:J),Sem.run aj (Builtin.append_ #[124,124] 124 #[.slice p.a p.len p.cap,.slice (some ⟨E,0,none⟩) 1 1]) (E.alloc (.cells (aC l).toArray 151))=.ok (.slice g.a g.len g.cap) j/\
  aR 256 151 j g (bl aC (D.eQ i++ [l]))/\ag (aD p) E j/\(∀k,aD g k->aD p k\/E<=k)/\ag (aD p) (E.alloc (.cells (aC l).toArray 151)) j:=by
  intro E a4;have hlen:p.len=(D.eQ i).length:=by
   have:=aE.1;rw[e5 (c:=aC) (sz:=256) _ λs hs=>by rw[de];exact aG s hs]at this;omega
  have ac:=c5 E (.cells (aC l).toArray 151);obtain⟨g,j,ay,az,F,M,N⟩:=Km.append (cB:=124) (x:=⟨some ⟨E,0,none⟩,1,1⟩) (Src.new (T:=151) E (aC l) 1 (by rw[de,K])) (aE.ext (a4.trans ac)) (jd l) (by rw[hlen];show(2*(_+1)+1000)*256<=_;omega);refine⟨g,j,ay,?_,(ag.cX ac).trans M,λk a5=>(N k a5).imp id λh=>?_,M⟩
  .rw[ke]
   have:bl aC [l]=aC l:=by simp[bl]
   rw[this];exact az
  .have:=ac.size;omega
 have aL:∀ (j:J) (g:ad),eK j D.mr encZ (D.waits.map h7.e)->∃o:J,Sem.run aj (Instr.mapUpdate 125 (.map (some D.mr)) (.int .i64 ((i:Nat):Int)) (.slice g.a g.len g.cap)) j=.ok () o/\ag (λq=>q=D.mr) j o/\
  eK o D.mr encZ ((h7.mk i g (D.eQ i++ [l])::D.waits.filter λx=>x.i !=i).map h7.e):=by
  intro j g L;have al:=L.keys;rw[iW]at al
  cases hf:D.waits.find? λx=>x.i==i with
  |some x=>
   have hx:=jY hf;have S:x.i=i:=by
    have:=kR hf;exact eq_of_beq this
   obtain⟨bn,bK,he⟩:=List.append_of_mem hx;have B:∀y∈bn++bK,y.i≠i:=by
    intro y t e;rw[he,fP,hJ]at al;have h1:=(n0.nodup_iff).1 al;rw[List.nodup_cons]at h1;apply h1.1;rw[←fP];refine eJ.2 ⟨y,t,?_⟩;show((y.i:Nat):Int)=((x.i:Nat):Int);omega
   have am:D.waits.filter (λx=>x.i !=i)=bn++bK:=by
    rw[he,gE,List.filter_cons_of_neg (by simp[S])];rw[jU.2 λy t=>by have:=B y (kt _ t);simpa using this,jU.2 λy t=>by have:=B y (iy _ t);simpa using this]
   have a6:(D.waits.map h7.e).Perm (((i:Int),.slice x.s.a x.s.len x.s.cap)::(bn++bK).map h7.e):=by
    rw[he,fP,hJ,fP];have:x.e=((i:Int),.slice x.s.a x.s.len x.s.cap):=by unfold h7.e;rw[S]
    rw[this];exact n0
   obtain⟨o,ay,az,_,F⟩:=Kg ql mR (L.perm a6) (.slice g.a g.len g.cap);refine⟨o,ay,az,?_⟩;rw[am];exact F
  |none=>
   have B:∀y∈D.waits,y.i≠i:=λy t e=>by
    have:=jX.1 hf y t;rw[e]at this;simp at this
   have am:D.waits.filter (λx=>x.i !=i)=D.waits:=jU.2 λy t=>by simpa using B y t
   obtain⟨o,ay,az,_,F⟩:=Kf ql mR (k:=(i:Int)) L (λv ab=>by
    obtain⟨x,hx,he⟩:=eJ.1 ab;unfold h7.e at he;simp only[Prod.mk.injEq]at he;exact B x hx I) (.slice g.a g.len g.cap)
   refine⟨o,ay,az,?_⟩;rw[am];exact F
 have fin:∀ (j o:J) (g:ad),ag (aD p) ai.drew j->aR 256 151 j g (bl aC (D.eQ i++ [l]))->(∀k,aD g k->aD p k\/ai.drew.heap.size<=k)->ag (λq=>q=D.mr) j o->eK o D.mr encZ ((h7.mk i g (D.eQ i++ [l])::D.waits.filter λx=>x.i !=i).map h7.e)->
  ∃aM:af,(some ⟨D.d,0,none⟩:au af)=some aM/\∃n24:Int,o.cell? (aM.add 6)=some (.int .i64 n24)/\∃U:af,(some ⟨D.d,0,none⟩:au af)=some U/\(∃u:aa,o.cell? (U.add 6)=some u)/\o.frozen? (U.add 6)=false/\an (o.setCell (U.add 6) (.int .i64 (IntKind.wrap .i64 (n24+1)))) λa7=>EG D i l w (.int .i64 0) a7:=by
  intro j o g V a9 ao aN a_;have ba:=z.v.ah V λf=>(C _ f).2.1 rfl;have ap:Var o D.d (D.cN 2).c 129:=ba.ah aN h.a1.2.1;have hlen:(D.cN 2).c.length=7:=G.yr;obtain⟨s1,s2⟩:=ez ap (i:=6) (by rw[hlen];decide);have aO:o.cell? (Addr.add ⟨D.d,0,none⟩ 6)=some (.int .i64 D.writes):=by
   rw[aA,cA,ap.cell];unfold a8.c;have:=G.f4;rw[hL (by rw[cU];omega),cU,this];rfl
  rw[aA,cA]at aO;refine⟨_,rfl,D.writes,by rw[aA,cA];exact aO,_,rfl,by rw[aA,cA];exact s1,by rw[aA,cA];exact s2,?_⟩;rw[aA,cA];have aP:=dU o D.d 6 (.int .i64 (IntKind.wrap .i64 (D.writes+1)));have aQ:=eE ap (i:=6) (.int .i64 (IntKind.wrap .i64 (D.writes+1)));have bb:(D.cN 2).c.set 6 (.int .i64 (IntKind.wrap .i64 (D.writes+1)))=(D.put i g l).c:=by
   have bc:=G.f4;have O:(D.put i g l).c=(D.cN 2).cu.map (.int .i64)++ [.slice (some ⟨D.lb,0,none⟩) D.bJ.length D.bJ.length,.map (some D.mr),.int .i64 (IntKind.wrap .i64 (D.writes+1))]:=rfl;have P:(D.cN 2).c=(D.cN 2).cu.map (.int .i64)++ [.slice (some ⟨D.lb,0,none⟩) D.bJ.length D.bJ.length,.map (some D.mr),.int .i64 D.writes]:=rfl;rw[O,P,uZ _ _ (by rw[cU];omega),cU,bc];rfl
  rw[bb]at aQ;have W:ag (λq=>q=D.mr\/q=D.d) j (o.setCell ⟨D.d,6,none⟩ (.int .i64 (IntKind.wrap .i64 (D.writes+1)))):=(aN.mono λq _ e=>.inl e).trans (aP.mono λq _ e=>.inr e);have Q:∀q,aD g q->q≠D.d/\q≠D.lb/\q≠D.mr:=λq f=>by
   have bk:=z.lt (q:=D.d) (.inl rfl);have bm:=z.lt (q:=D.lb) (.inr (.inl rfl));have bo:=z.lt (q:=D.mr) (.inr (.inr (.inl rfl)));rcases ao q f with h1|h1
   .exact(C q h1).2
   .exact⟨I,I,I⟩
  have H:∀x∈D.waits.filter (λx=>x.i !=i),x∈D.waits/\x.i≠i:=λx hx=>by
   obtain⟨h1,h2⟩:=gw.1 hx;exact⟨h1,by simpa using h2⟩
  refine aT (.inr ⟨Z,rfl,g,⟨aQ,?_,?_,?_,?_,h.sl,?_,h.b6,h.bx,G.f4,G.fr,h.a1,?_,?_,G.r⟩,?_,?_⟩)
  .exact bu.ah (bu.ah z.l V λf=>(C _ f).2.2.1 rfl) W (by
    rintro(e|e)
    .exact h.a1.2.2 e
    .exact h.a1.1 e.symm)
  .exact a_.ah aP (λe=>h.a1.2.1 e.symm)
  .intro x hx
   rcases cZ.1 hx with rfl|hx
   .exact a9.ah W λq f=>by
     rintro(e|e)
     .exact(Q q f).2.2 e
     .exact(Q q f).1 e
   .obtain⟨h1,h2⟩:=H x hx
    refine((z.ws x h1).ah V λq f=>aF x h1 h2 q f).ah W λq f=>?_;rintro(e|e)
    .exact(h.a2 x h1).2.2 (e▸f)
    .exact(h.a2 x h1).1 (e▸f)
  .intro x hx
   rcases cZ.1 hx with rfl|hx
   .refine⟨by simp,hi,?_⟩
    show(D.eQ i++ [l]).length<=D.aX+1;rw[cz,jW];omega
   .obtain⟨h1,h2⟩:=H x hx
    have:=h.wn x h1;exact⟨this.1,this.2.1,Nat.le_succ_of_le this.2.2⟩
  .intro x hx
   rcases cZ.1 hx with rfl|hx
   .intro s hs
    rcases cR.1 hs with hs|hs
    .exact aG s hs
    .rw[e8.1 hs];exact K
   .exact h.lK x (H x hx).1
  .intro x hx
   rcases cZ.1 hx with rfl|hx
   .exact⟨λf=>(Q _ f).1 rfl,λf=>(Q _ f).2.1 rfl,λf=>(Q _ f).2.2 rfl⟩
   .exact h.a2 x (H x hx).1
  .have aS:∀y∈D.waits,y.i≠i->∀q,aD y.s q->¬aD g q:=λy t B q f R=>by
    rcases ao q R with h1|h1
    .exact aF y t B q f h1
    .have:=(z.ws y t).lt q f;omega
   intro x hx y t B q f R;rcases cZ.1 hx with rfl|hx
   .rcases cZ.1 t with rfl|t
    .exact B rfl
    .exact aS y (H y t).1 (λe=>B e.symm) q R f
   .rcases cZ.1 t with rfl|t
    .exact aS x (H x hx).1 B q f R
    .exact h.a3 x (H x hx).1 y (H y t).1 B q f R
  .refine((Y.mono λq _ e=>.inl e).trans ((ag.cX (cw ai)).trans (V.mono λq _ f=>(C q f).1))).trans (W.mono λq _ f=>?_)
   obtain e|e:=f
   .exact .inr (.inr (.inl e))
   .exact .inl e
  .intro q f
   rcases ao q f with h1|h1
   .exact .inl (C q h1).1
   .have:ai.drew.heap.size=ai:=rfl
    exact .inr I
 refine⟨aD p,_,rfl,λf=>(C _ f).2.1 rfl,some D.mr,z.gg,_,rfl,λf=>(C _ f).2.1 rfl,some D.mr,z.gg,I,A,av,a0,_,aZ,⟨?_,?_⟩⟩
 .obtain⟨g,j,ay,az,F,M,N⟩:=aK ai.drew (.refl _ _)
  have aq:=z.m.ah F λf=>(C _ f).2.2.2 rfl;obtain⟨o,O,P,aw⟩:=aL j g aq;exact⟨p,_,aI _ z.m,.refl _ _,⟨some ⟨ai.drew.heap.size,0,none⟩,1,1⟩,_,ED _ l K,ag.cX (c5 _ _),g,j,ay,N,o,O,fin j o g F az M P aw⟩
 .obtain⟨g,j,ay,az,F,M,N⟩:=aK ai.drew (.refl _ _)
  have bd:=z.m.ext (c5 ai.drew (.cells (aC l).toArray 151));have aq:=z.m.ah F λf=>(C _ f).2.2.2 rfl;obtain⟨o,O,P,aw⟩:=aL j g aq;exact⟨⟨some ⟨ai.drew.heap.size,0,none⟩,1,1⟩,_,ED _ l K,ag.cX (c5 _ _),p,_,aI _ bd,.refl _ _,g,j,ay,N,o,O,fin j o g F az M P aw⟩
theorem Ko{e:TypeId}{v:aa}(a:((P.info? e).bind (·.zero)).map (·.cells)=some (List.replicate sz v).toArray)(hc:P.cellsOf e=sz)(hs:0<sz)(n:Nat):ig P e n=(List.replicate (n*sz) v).toArray:=by
 unfold ig;rw[hc]
 cases hi:(P.info? e).bind (·.zero) with
 |none=>rw[hi]at a;cases a
 |some z=>
  rw[hi]at a;simp only[mq,Option.some.injEq]at a;simp only[sM];apply Array.ext
  .simp
  .intro i h1 h2
   have b:n*sz≠0:=by
    intro h;simp[h]at h2
   simp only[b,if_false,a,Array.getElem_map,Array.getElem_range];have aI:i%sz<sz:=hG _ hs;simp[aI]
theorem Kp(m n:Nat):bl aC (List.replicate n (List.replicate m 0))=List.replicate (n*m) (.int .u8 0):=by
 induction n with
 |zero=>simp[bl]
 |succ n a=>
  rw[List.replicate_succ,si,a,jT,Nat.one_mul,Nat.add_comm];have e:aC (List.replicate m 0)=List.replicate m (Value.int .u8 0):=by simp[aC]
  rw[e,List.replicate_append_replicate]
def g2:c7:=List.replicate 256 0
theorem Kq(n:Nat):ig aj 151 n=(bl aC (List.replicate n g2)).toArray:=by
 unfold g2;rw[Kp];exact Ko U3 U3 (by decide) n
def so(n d lb mr:Nat):a8:=⟨d,lb,mr,[-1, -1, -1, -1],List.replicate n g2,[],0,0,λ_=>false,λ_=> [],true⟩
theorem EH{b:Nat}{vs:O aa}(h:Var w b vs T)(g:4<=vs.length):
 aH aj 52 #[.pointer (some b)] w (λv w'=>v=.tuple #[]/\Var w' b (List.replicate 4 (.int .i64 (-1))++vs.drop 4) T/\ag (λq=>q=b) w w'/\w'.heap.size=w):=by
 refine okF (ae.wP (some b)) ax.wP func52 ?_;(delta ae.wP ak st ar;dsimp only);refine⟨λi w'=>∃j:Nat,i=j/\j<=4/\Var w' b (List.replicate j (.int .i64 (-1))++vs.drop j) T/\ag (λq=>q=b) w w'/\w'.heap.size=w,λi _=>((4:Int)-i).toNat,⟨0,rfl,I,h,.refl _ _,rfl⟩,?_⟩;rintro _ w1 ⟨j,rfl,k,c,hc,f⟩;refine⟨λaI=>?_,λd=>?_⟩
 .have aI:j<4:=U4 (b2 aI)
  have a:Addr.add b (Int.toNat (j:Int)*1)=⟨b,j,none⟩:=by rw[c2,f_,aA,cA]
  obtain⟨s1,s2⟩:=ez c (i:=j) (by simp;omega);rw[bq (n:=(j:Int)+1) I I];refine⟨_,rfl,⟨I,by show(j:Int)<4;omega⟩,by rw[a];exact s1,by rw[a];exact s2,aT ⟨⟨j+1,I,I,?_,?_,?_⟩,?_⟩⟩
  .have:=eE c (i:=j) (.int .i64 (-1))
   rw[a];have e:(List.replicate j (Value.int .i64 (-1))++vs.drop j).set j (.int .i64 (-1))=List.replicate (j+1) (.int .i64 (-1))++vs.drop (j+1):=by
    rw[uZ _ _ U9,m5,o5,kp (show j<vs.length from I),List.set_cons_zero,List.replicate_succ',cO];rfl
   rwa[e]at this
  .rw[a];exact hc.trans (dU _ _ _ _)
  .rw[a];simpa[World.setCell] using f
  .show((4:Int)-((j:Int)+1)).toNat<((4:Int)-(j:Int)).toNat
   omega
 .have d:j=4:=U4 (cr d)
  subst d;exact⟨rfl,c,hc,f⟩
theorem rp{n:Nat}(h1:16<=n)(h2:n<=1600)(w:J):
 aH aj 20 #[.int .i64 ((n:Nat):Int)] w (λv w'=>∃d lb mr:Nat,v=.tuple #[.pointer (some ⟨d,0,none⟩),.int .i64 0]/\cL w' (so n d lb mr)/\Ext w w'/\∀q,b4 (so n d lb mr) q->w.heap.size<=q):=by
 refine okF (ae.rp ((n:Nat):Int)) ax.rp func20 ?_;delta ae.rp ak lE Y fI;refine⟨λh=>?_,λ_=>⟨⟨I,I,I,I⟩,?_⟩⟩
 .simp only[jE,b8]at h;omega
 rw[Kq,c2];have g:=bu.new w (bl aC (List.replicate n g2)).toArray 151;have i:=c5 w (.cells (bl aC (List.replicate n g2)).toArray 151);have j:=qe w (.cells (bl aC (List.replicate n g2)).toArray 151);obtain⟨w1,k⟩:=U6 (w.alloc (.cells (bl aC (List.replicate n g2)).toArray 151));rw[←k]at g i j⊢;obtain⟨ay,az⟩:=eK.make (P:=aj) (enc:=encZ) 125 w1;have a:=c5 w1 (.map #[] 0);have l:=qe w1 (.map #[] 0);obtain⟨ai,m⟩:=U6 (w1.alloc (.map #[] 0));rw[←m]at ay az a l;refine aT ⟨some w1.heap.size,ai,ay,#[.int .i64 0,.int .i64 0,.int .i64 0,.int .i64 0,.slice (some ⟨w.heap.size,0,none⟩) n n,.map (some w1.heap.size),.int .i64 0],by kernel_rfl,a6 (vs:=[.int .i64 0,.int .i64 0,.int .i64 0,.int .i64 0,.slice (some ⟨w.heap.size,0,none⟩) n n,.map (some w1.heap.size),.int .i64 0]) rfl λr o b t=>⟨_,rfl,(EH o (by show 4<=7;decide)).use ?_⟩⟩;rintro _ u ⟨rfl,p,f,y⟩;refine⟨rfl,ai.heap.size,w.heap.size,w1.heap.size,rfl,⟨?_,?_,?_,λx hx=>(by cases hx),λx hx=>(by cases hx),λs hs=>?_,λx hx=>(by cases hx),?_,?_,rfl,λx hx=>?_,?_,λx hx=>(by cases hx),λx hx=>(by cases hx),λ_=>rfl⟩,Ext.cp (i.trans (a.trans b)) f I,?_⟩
 .have e:(so n ai.heap.size w.heap.size w1.heap.size).c=List.replicate 4 (.int .i64 (-1))++ [Value.int .i64 0,.int .i64 0,.int .i64 0,.int .i64 0,.slice (some ⟨w.heap.size,0,none⟩) n n,.map (some w1.heap.size),.int .i64 0].drop 4:=by
   unfold a8.c so;simp
  rw[e];exact p
 .exact bu.ah ((g.ext a).ext b) f (by show¬w.heap.size=ai.heap.size;omega)
 .exact(az.ext b).ah f I
 .rw[va hs,g2,m5]
 .show 16<=(List.replicate n g2).length;simpa using h1
 .show(List.replicate n g2).length<=1600;simpa using h2
 .have:x= -1:=by
   simp[so]at hx;exact hx
  subst this;exact⟨by decide,by decide⟩
 .exact⟨by show ai.heap.size≠w.heap.size;omega,by show ai.heap.size≠w1.heap.size;omega,by show w.heap.size≠w1.heap.size;omega⟩
 .rintro q (rfl|rfl|rfl|⟨x,hx,_⟩)
  .show w.heap.size<=ai.heap.size;omega
  .exact bk _
  .show w.heap.size<=w1.heap.size;omega
  .cases hx
structure c_ where
 root:Nat
 aK:Nat
 map:Nat
 clock:Nat
 dc:Nat
 keys:Nat
 deriving DecidableEq
def gL:c_:=⟨0,0,0,0,0,0⟩
def c_.c(u:c_):O aa:=[u.root,u.aK,u.map,.int .u64 (u.clock:Nat),.int .u64 (u.dc:Nat),u.keys]
structure oT(u:c_):Prop where
 root:u.root<4294967296
 aK:u.aK<256
 map:u.map<4294967296
 clock:u.clock<18446744073709551616
 dc:u.dc<18446744073709551616
 keys:u.keys<4294967296
def h_(u:c_)(n:Nat):O UInt8:=[]++bQ u.root 4++bQ u.aK 1++bQ u.map 4++bQ n 4++bQ u.clock 8++bQ u.dc 8++bQ u.keys 4
def qp(b:O UInt8):c_:=⟨dt b 0 4,dt b 4 1,dt b 5 4,dt b 13 8,dt b 21 8,dt b 29 4⟩
def k8(u:c_)(n:Nat):Prop:=(u.root=0↔u.aK=0)/\u.aK<=12/\u.root<n/\u.map<n/\2<=u.map/\n<=1600
instance NT(u:c_)(n:Nat):Decidable (k8 u n):=by unfold k8;infer_instance
def hU(no:Int)(l:O UInt8):Except Int (c_×Nat×Nat):=match dX no l with
 | .error e=>.error e
 | .ok p=>if p.kind≠3\/p.body.length≠33 then .error 4 else if k8 (qp p.body) (dt p.body 9 4) then .ok (qp p.body,dt p.body 9 4,p.gen) else .error 4
theorem EI(u:c_)(n:Nat):(h_ u n).length=33:=by simp[h_,dI]
theorem Kr{u:c_}{n:Nat}(h:oT u)(c:n<4294967296):qp (h_ u n)=u/\dt (h_ u n) 9 4=n:=by
 have e:∀ {k x m:Nat} (a b:O UInt8),h_ u n=a++(bQ x k++b)->a.length=m->x<256^k->dt (h_ u n) m k=x:=λa b he d hx=>by rw[he];exact ug d hx
 have f:=h.keys;refine⟨?_,e (bQ u.root 4++bQ u.aK 1++bQ u.map 4) (bQ u.clock 8++(bQ u.dc 8++bQ u.keys 4)) (by simp[h_]) (by simp[dI]) c⟩;unfold qp;rw[e (m:=0) [] (bQ u.aK 1++(bQ u.map 4++(bQ n 4++(bQ u.clock 8++(bQ u.dc 8++bQ u.keys 4))))) (by simp[h_]) rfl h.root,
  e (bQ u.root 4) (bQ u.map 4++(bQ n 4++(bQ u.clock 8++(bQ u.dc 8++bQ u.keys 4)))) (by simp[h_]) (by simp[dI]) h.aK,
  e (bQ u.root 4++bQ u.aK 1) (bQ n 4++(bQ u.clock 8++(bQ u.dc 8++bQ u.keys 4))) (by simp[h_]) (by simp[dI]) h.map,
  e (bQ u.root 4++bQ u.aK 1++bQ u.map 4++bQ n 4) (bQ u.dc 8++bQ u.keys 4) (by simp[h_]) (by simp[dI]) h.clock,
  e (bQ u.root 4++bQ u.aK 1++bQ u.map 4++bQ n 4++bQ u.clock 8) (bQ u.keys 4) (by simp[h_]) (by simp[dI]) h.dc,
  e (bQ u.root 4++bQ u.aK 1++bQ u.map 4++bQ n 4++bQ u.clock 8++bQ u.dc 8) [] (by simp[h_]) (by simp[dI]) f]
def kJ(u:c_)(n gen:Nat):jg:=⟨3,gen,h_ u n⟩
theorem A_{u:c_}{n gen:Nat}(hg:gen<18446744073709551616):oN (kJ u n gen):=⟨(by decide:1<=3),(by decide:3<=4),hg,by show(h_ u n).length<=232;rw[EI];decide⟩
theorem EJ{u:c_}{n gen no:Nat}(h:oT u)(hu:k8 u n)(hg:gen<18446744073709551616)(a:no<1600):hU no (eX no (kJ u n gen))=.ok (u,n,gen):=by
 unfold hU;rw[yb a (A_ hg)];have b:n<4294967296:=U4 hu.2.2.2.2.2
 obtain⟨h1,h2⟩:=Kr h b;show(if (3:Nat)≠3\/(h_ u n).length≠33 then _ else if k8 (qp (h_ u n)) (dt (h_ u n) 9 4) then Except.ok (qp (h_ u n),dt (h_ u n) 9 4,gen) else _)=_;rw[h1,h2,if_neg (by rw[EI];simp),if_pos hu]
section
variable {w w':J}{h:Nat}{vs:O aa}{u:c_}
theorem c_.plain(u:c_):∀v∈u.c,Plain v:=by
 intro v a;simp only[c_.c,cZ,e2,e_]at a;rcases a with rfl|rfl|rfl|rfl|rfl|rfl<;>trivial
theorem hE(a:Var w h u.c 90){K:Int->Int->Int->Int->Int->Int->Prop}(d:K (u.root:Nat) (u.aK:Nat) (u.map:Nat) (u.clock:Nat) (u.dc:Nat) (u.keys:Nat)):
 ∃b6:Int,w.cell? h=some (.int .i64 b6)/\∃bx:Int,w.cell? (Addr.add h 1)=some (.int .i64 bx)/\∃b:Int,w.cell? (Addr.add h 2)=some (.int .i64 b)/\
  ∃bA:Int,w.cell? (Addr.add h 3)=some (.int .u64 bA)/\∃n5:Int,w.cell? (Addr.add h 4)=some (.int .u64 n5)/\∃n6:Int,w.cell? (Addr.add h 5)=some (.int .i64 n6)/\K b6 bx b bA n5 n6:=
 ⟨_,a.cell,_,a.cell,_,a.cell,_,a.cell,_,a.cell,_,a.cell,d⟩
theorem kf(a:Var w h vs 90)(b:vs.length=6)(u:c_){K:U2}(d:∀ai,Var ai h u.c 90->ag (λq=>q=h) w ai->ai.heap.size=w->K ai):
 bp w h [u.root,u.aK,u.map,.int .u64 (u.clock:Nat),.int .u64 (u.dc:Nat),u.keys]/\(6:Nat)=6/\
  an (setCells w h 0 [u.root,u.aK,u.map,.int .u64 (u.clock:Nat),.int .u64 (u.dc:Nat),u.keys]) K:=
 ⟨a.ct (by rw[b];rfl) u.plain,rfl,cP a (us:=u.c) (by rw[b];rfl) rfl λai e hc f=>d ai e hc f⟩
end
theorem rD{u:c_}(h:oT u){n:Nat}(t:n<4294967296):aH aj 119 #[.agg u.c.toArray,n] w (λv w'=>∃s:ad,v=s/\aR 1 5 w' s (aC (h_ u n))/\Ext w w'/\g0 w s):=by
 have h1:=h.root;have h2:=h.aK;have y:=h.map;have U:=h.clock;have V:=h.dc;have z:=h.keys;have a:∀ {x:Nat},x<4294967296->IntKind.wrap .u64 (x:Int)=(x:Int):=λ{x} hx=>gF I I;refine okF (ae.rD (u.root:Nat) (u.aK:Nat) (u.map:Nat) (u.clock:Nat) (u.dc:Nat) (u.keys:Nat) (n:Nat)) ax.rD func119 ?_;(delta ae.rD r1 Y bH bO;dsimp only);refine a6 (vs:=u.c) rfl λw1 b A W=>⟨_,b.cell,?_⟩;rw[a h1];refine(hA (s:=⟨none,0,0⟩) (l:=[]) (aR.none 1 5 w1).src (cI _) (n:=u.root) I (by decide)).use ?_;rintro _ ai ⟨s2,rfl,B,d,X⟩;have e:=b.ext d;refine⟨s2,rfl,_,e.cell,?_⟩;rw[a (x:=u.aK) I];refine(hA B.src (by simp[dI]) (n:=u.aK) I (by decide)).use ?_;rintro _ Z ⟨C,rfl,D,f,aa⟩;have g:=e.ext f;refine⟨C,rfl,_,g.cell,?_⟩;rw[a y];refine(hA D.src (by simp[dI]) (n:=u.map) I (by decide)).use ?_;rintro _ ab ⟨E,rfl,F,i,ac⟩;have G:=g.ext i;refine⟨E,rfl,?_⟩;rw[a t];refine(hA F.src (by simp[dI]) (n:=n) I (by decide)).use ?_;rintro _ af ⟨H,rfl,K,j,ag⟩;have k:=G.ext j;refine⟨H,rfl,_,k.cell,?_⟩;refine(hA K.src (by simp[dI]) (n:=u.clock) I (by decide)).use ?_;rintro _ ah ⟨L,rfl,M,m,ak⟩;have o:=k.ext m;refine⟨L,rfl,_,o.cell,?_⟩;refine(hA M.src (by simp[dI]) (n:=u.dc) I (by decide)).use ?_;rintro _ al ⟨N,rfl,O,p,am⟩;have P:=o.ext p;refine⟨N,rfl,_,P.cell,?_⟩;rw[a z];refine(hA O.src (by simp[dI]) (n:=u.keys) I (by decide)).use ?_;rintro _ an ⟨cG,rfl,Q,R,S⟩;have r:=Ext.trans (Ext.trans (Ext.trans (Ext.trans (Ext.trans (Ext.trans A d) f) i) j) m) p;refine⟨cG,rfl,cG,rfl,Q,Ext.trans r R,λq T=>?_⟩;have:=S q T;have:=r.size;omega
theorem Ks{b:ad}{aU a:Nat}(f:Var w aU [b,a] 290)(hs:Src 1 w b (aC l))(hc:b.len<=b.cap)(g:1<=k/\k<=8)(j:a+k<=l.length)(m:l.length<=1000):
 aH aj 191 #[.pointer (some aU),k] w (λv w'=>v=.int .u64 (dt l a k:Nat)/\Var w' aU [b,.int .i64 ((a+k:Nat):Int)] 290/\ag (λq=>q=aU) w w'):=by
 refine ae.Ir _ (k:Nat) w _ ?_;(delta ae.tQ al r1 mG st ar;dsimp only);have d:=cw w;have c:=f.ext d;refine aT ⟨λ_=>False,_,rfl,id,b,c.cell,_,rfl,id,_,c.cell,(kE (hs.ext d) hc g j I).use ?_⟩;rintro _ _ ⟨rfl,rfl⟩;obtain⟨b1,cf⟩:=ez c (i:=1) U9;refine⟨_,true,rfl,_,rfl,_,c.cell,_,rfl,b1,cf,aT ⟨rfl,?_,?_⟩⟩
 .rw[aA]
  have h1:=eE c (i:=1) (.int .i64 (IntKind.wrap .i64 ((a:Nat)+(k:Nat))));have e:IntKind.wrap .i64 ((a:Int)+(k:Int))=((a+k:Nat):Int):=by rw[bq I I];omega
  rw[e]at h1⊢;exact h1
 .rw[aA]
  exact cE (d.mono λ_ _ h=>h.elim) (dU _ _ _ _) λq _ e=>e
def EK:Except Int (c_×Nat×Nat)->aa
 | .ok (u,n,g)=>.tuple #[.agg u.c.toArray,n,.int .u64 (g:Nat),U8]
 | .error e=>.tuple #[.agg gL.c.toArray,U8,.int .u64 0,e]
theorem Ba{no:Int}{e:Int}(h:dX no l=.error e):e≠0:=by
 unfold dX at h
 repeat' split at h
 all_goals first|(cases h;decide)|cases h
theorem rI(hs:Src 1 w s (aC l))(hc:s.len<=s.cap)(aP:l.length<=1000)(no:Int):
 aH aj 136 #[.int .i64 no,.slice s.a s.len s.cap] w (λv w'=>v=EK (hU no l)/\Ext w w'):=by
 refine okF (ae.rI no s) ax.rI func136 ?_;(delta ae.rI gI rf ou Y ak r1 bO al zV kY st ar;dsimp only);refine a6 (vs:=gL.c) rfl λw1 af H bC=>(oA (hs.ext H) hc aP no).use ?_;rintro _ ai ⟨r,V⟩;obtain⟨d,aQ⟩:=U6 w.heap.size;rw[←aQ]at af⊢;have L:=af.ext V
 cases B:dX no l with
 |error e=>
  rw[B]at r;have W:=Ba B;have hd:hU no l=.error e:=by unfold hU;rw[B]
  rw[hd];obtain rfl:_=_:=r;refine⟨0,0,⟨none,0,0⟩,e,rfl,a6 (vs:=[.int .i64 0,.int .u64 0,.slice none 0 0]) rfl λaR M ag aS=>⟨M.ct rfl (λv N=>?_),rfl,cP M (us:=[.int .i64 0,.int .u64 0,.slice none 0 0]) rfl rfl λC t am aV=>⟨λ_=>?_,λh=>?_⟩⟩⟩
  .simp only[cZ,e2,e_]at N
   rcases N with rfl|rfl|rfl<;>trivial
  .have y:Ext ai C:=Ext.cp ag am (bk _)
   have m:=L.ext y;refine hE (u:=gL) m (kf m rfl gL λD ao aW bD=>hE (u:=gL) ao ⟨rfl,?_⟩);exact Ext.cp (Ext.trans (Ext.trans H V) y) aW I
  .simp at h;exact absurd h W
 |ok p=>
  rw[B]at r;obtain⟨sb,rfl,X,aX⟩:=r;refine⟨_,_,sb,0,rfl,a6 (vs:=[.int .i64 0,.int .u64 0,.slice none 0 0]) rfl λaR M ag aS=>⟨M.ct rfl (λv N=>?_),rfl,cP M (us:=[.int .i64 (p.kind:Nat),.int .u64 (p.gen:Nat),.slice sb.a sb.len sb.cap]) rfl rfl λC t am aV=>⟨λh=>(by simp at h),λ_=>⟨_,t.cell,?_⟩⟩⟩⟩
  .simp only[cZ,e2,e_]at N
   rcases N with rfl|rfl|rfl<;>trivial
  have y:Ext ai C:=Ext.cp ag am (bk _);have ap:=Ext.trans (Ext.trans H V) y;obtain⟨P,aY⟩:=U6 ai.heap.size;rw[←aY]at t⊢;have m:=L.ext y;have aZ:sb.len=p.body.length:=by have:=X.1;rw[de]at this;omega
  have bE:=(Ext.trans H V).size;have a0:p.kind≠3\/p.body.length≠33->hU no l=.error 4:=λh=>by
   unfold hU;rw[B];exact if_pos h
  refine cc (λb w'=>b=decide (p.kind≠3\/p.body.length≠33)/\C=w') (λq f=>⟨λh=>f _ _ ⟨?_,rfl⟩,λh=>⟨sb,by rw[aA];exact t.cell,f _ _ ⟨?_,rfl⟩⟩⟩) ?_
  .have:p.kind≠3:=λe=>by rw[e]at h;simp at h
   rw[dh (.inl this)]
  .have a1:p.kind=3:=by
    have:((p.kind:Nat):Int)=3:=by simpa using h
    omega
   rw[aZ,eG,b8];constructor
   .intro Q
    refine .inr λe=>?_;rw[e]at Q;simp at Q
   .rintro(Q|Q)
    .exact absurd a1 Q
    .rw[bne_iff_ne];omega
  rintro _ _ ⟨rfl,rfl⟩;have aG:∀ {D:J}{vs:O aa},Var D d vs 90->vs.length=6->Ext w D->(hU no l=.error 4)->bp D ⟨d,0,none⟩ [.int .i64 0,.int .i64 0,.int .i64 0,.int .u64 0,.int .u64 0,.int .i64 0]/\(6:Nat)=6/\an (setCells D ⟨d,0,none⟩ 0 [.int .i64 0,.int .i64 0,.int .i64 0,.int .u64 0,.int .u64 0,.int .i64 0]) λo=>
   ∃b6:Int,o.cell? ⟨d,0,none⟩=some (.int .i64 b6)/\∃bx:Int,o.cell? (Addr.add ⟨d,0,none⟩ 1)=some (.int .i64 bx)/\∃aI:Int,o.cell? (Addr.add ⟨d,0,none⟩ 2)=some (.int .i64 aI)/\
   ∃bA:Int,o.cell? (Addr.add ⟨d,0,none⟩ 3)=some (.int .u64 bA)/\∃n5:Int,o.cell? (Addr.add ⟨d,0,none⟩ 4)=some (.int .u64 n5)/\∃n6:Int,o.cell? (Addr.add ⟨d,0,none⟩ 5)=some (.int .i64 n6)/\
   (Value.tuple #[.agg #[.int .i64 b6,.int .i64 bx,.int .i64 aI,.int .u64 bA,.int .u64 n5,.int .i64 n6],.int .i64 0,.int .u64 0,.int .i64 4]=EK (hU no l)/\Ext w o):=by
   intro D vs ao a2 a3 hd;rw[hd];exact kf ao a2 gL λo a4 a5 bF=>hE (u:=gL) a4 ⟨rfl,Ext.cp a3 a5 I⟩
  refine⟨λh=>?_,λh=>?_⟩
  .exact hE (u:=gL) m (aG m rfl ap (a0 (b2 h)))
  have aq:=cr h;have bG:p.kind=3:=qO λh=>aq (.inl h);have bH:p.body.length=33:=qO λh=>aq (.inr h);have a7:=(X.ext y).src;have a8:sb.len<=sb.cap:=X.2.1;have aJ:∀q,aD sb q->q<C:=(X.ext y).lt;refine⟨sb,by rw[aA];exact t.cell,a6 (vs:=[.slice sb.a sb.len sb.cap,.int .i64 ((0:Nat):Int)]) rfl λa9 aL Z bI=>?_⟩;obtain⟨aU,a_⟩:=U6 C.heap.size;rw[←a_]at aL aJ⊢;have W:aU≠d:=by have:=m.lt;omega
  have ba:aU≠P:=by have:=t.lt;omega
  have bb:=a7.ext Z;have bc:=m.ext Z;have bd:=t.ext Z;have be:=Ext.trans ap Z;have bf:w<=aU:=by have:=ap.size;omega
  obtain⟨b_,E⟩:=U6 (λw' vs a=>Var w' aU [.slice sb.a sb.len sb.cap,.int .i64 ((a:Nat):Int)] 290/\Src 1 w' sb (aC p.body)/\Var w' d vs 90/\Var w' P [.int .i64 (p.kind:Nat),.int .u64 (p.gen:Nat),.slice sb.a sb.len sb.cap] 137/\Ext w w':J->O aa->U1);have bg:∀q,aD sb q->q≠d:=λq f e=>by
   have:=aX q f;have:=L.lt;have:=H.size;have:=af.lt;omega
  have z:∀ {w':J}{vs:O aa}{a k:Nat}{R:Ending->U2},b_ w' vs a->1<=k/\k<=8->a+k<=33->(∀g,b_ g vs (a+k)->R (.returned (.int .u64 (dt p.body a k:Nat))) g)->Calls aj 191 #[.pointer (some ⟨aU,0,none⟩),.int .i64 (k:Nat)] w' R:=by
   intro w' vs a k R A au bJ bh;rw[E]at A;obtain⟨b1,cf,S,av,aw⟩:=A;refine(Ks b1 cf a8 au I I).use ?_;rintro _ g ⟨rfl,ay,az⟩;refine bh g ?_;rw[E];exact⟨ay,cf.ah az λq f e=>by have:=aJ q f;omega,S.ah az (λe=>W e.symm),av.ah az (λe=>ba e.symm),Ext.cp aw az bf⟩
  have kB:∀ {w':J}{vs:O aa}{a:Nat} (j:Nat) (v:aa) {K:U2},b_ w' vs a->j<vs.length->(∀g,b_ g (vs.set j v) a->K g)->(∃u:aa,w'.cell? ⟨d,j,none⟩=some u)/\w'.frozen? ⟨d,j,none⟩=false/\an (w'.setCell ⟨d,j,none⟩ v) K:=by
   intro w' vs a j v K A ab aB;rw[E]at A;obtain⟨b1,cf,S,av,aw⟩:=A;have hc:=dU w' d j v;refine⟨(ez S ab).1,(ez S ab).2,aT (aB _ ?_)⟩;rw[E];exact⟨b1.ah hc W,cf.ah hc bg,eE S v,av.ah hc (λe=>by have:=m.lt;have:=L.lt;omega),Ext.cp aw hc I⟩
  have T:∀ {w':J}{vs:O aa}{a:Nat} (j:Nat) (v:aa) {K:U2},b_ w' vs a->j<vs.length->(∀g,b_ g (vs.set j v) a->K g)->(∃u:aa,w'.cell? (Addr.add ⟨d,0,none⟩ j)=some u)/\w'.frozen? (Addr.add ⟨d,0,none⟩ j)=false/\an (w'.setCell (Addr.add ⟨d,0,none⟩ j) v) K:=by
   intro w' vs a j v K A ab aB;rw[aA,cA];exact kB j v A ab aB
  have bi:b_ a9 gL.c 0:=by rw[E];exact⟨aL,bb,bc,bd,be⟩
  have ac:∀a,a+4<=33->dt p.body a 4<4294967296:=λa bj=>oH 4 _ (by rw[cF,eH];omega);have bl:dt p.body 4 1<256:=oH 1 _ (by rw[cF,eH];omega);have bK:∀a,a+8<=33->dt p.body a 8<18446744073709551616:=λa bj=>oH 8 _ (by rw[cF,eH];omega);have U:∀ {x:Nat},x<4294967296->IntKind.wrap .i64 ((x:Nat):Int)=((x:Nat):Int):=λhx=>bq I I;refine z (k:=4) bi (by decide) (by decide) λbL t43=>⟨_,rfl,z (k:=1) t43 (by decide) (by decide) λbM t46=>⟨_,rfl,z (k:=4) t46 (by decide) (by decide) λbN t49=>⟨_,rfl,?_⟩⟩⟩;rw[U (ac 0 (by decide)),U (x:=dt p.body (0+4) 1) (by have:=bl;show dt p.body 4 1<_;omega),U (ac (0+4+1) (by decide))];refine kB 0 _ t49 (by simp[gL,c_.c]) λbP t52=>T 1 _ t52 (by simp[gL,c_.c]) λbQ t53=>T 2 _ t53 (by simp[gL,c_.c]) λbR t54=>?_;refine(z (k:=4) t54 (by decide) (by decide) λbS t55=>⟨_,rfl,z (k:=8) t55 (by decide) (by decide) λbT t58=>⟨_,rfl,z (k:=8) t58 (by decide) (by decide) λbU t61=>⟨_,rfl,z (k:=4) t61 (by decide) (by decide) λbV t64=>⟨_,rfl,?_⟩⟩⟩⟩);rw[U (ac (0+4+1+4) (by decide)),U (ac (0+4+1+4+4+8+8) (by decide))];refine T 3 _ t64 (by simp[gL,c_.c]) λbW t67=>T 4 _ t67 (by simp[gL,c_.c]) λbX t68=>T 5 _ t68 (by simp[gL,c_.c]) λF t69=>?_;obtain⟨u,hu⟩:=U6 (qp p.body);obtain⟨n,aM⟩:=U6 (dt p.body 9 4);rw[E]at t69;obtain⟨_,_,i,bm,aN⟩:=t69;have i:Var F d u.c 90:=by rw[hu];exact i
  have r:hU no l=if k8 u n then .ok (u,n,p.gen) else .error 4:=by
   unfold hU;rw[B,hu,aM];exact if_neg aq
  rw[show dt p.body (0+4+1+4) 4=n from aM.symm];refine⟨(u.root:Nat),i.cell,(u.aK:Nat),by rw[aA];exact i.cell,cc (λb w'=>b=(!((((u.root:Nat):Int)==0)==(((u.aK:Nat):Int)==0))||decide (((u.aK:Nat):Int)>12))/\F=w') (λq f=>⟨λh=>f _ _ ⟨by rw[h,qP],rfl⟩,λh=>⟨_,by rw[aA];exact i.cell,f _ _ ⟨by rw[h,jR],rfl⟩⟩⟩) ?_⟩;rintro cH _ ⟨bn,rfl⟩;refine cc (λb w'=>b=(cH||decide (((u.root:Nat):Int)>=(n:Nat)))/\F=w') (λq f=>⟨λh=>f _ _ ⟨by rw[h,qP],rfl⟩,λh=>⟨_,i.cell,f _ _ ⟨by rw[h,jR],rfl⟩⟩⟩) ?_;rintro ck _ ⟨bo,rfl⟩;refine cc (λb w'=>b=(ck||decide (((u.map:Nat):Int)>=(n:Nat)))/\F=w') (λq f=>⟨λh=>f _ _ ⟨by rw[h,qP],rfl⟩,λh=>⟨_,by rw[aA];exact i.cell,f _ _ ⟨by rw[h,jR],rfl⟩⟩⟩) ?_;rintro br _ ⟨bs,rfl⟩;refine cc (λb w'=>b=(br||decide (((u.map:Nat):Int)<2))/\F=w') (λq f=>⟨λh=>f _ _ ⟨by rw[h,qP],rfl⟩,λh=>⟨_,by rw[aA];exact i.cell,f _ _ ⟨by rw[h,jR],rfl⟩⟩⟩) ?_;rintro bt _ ⟨bu,rfl⟩;have bv:(bt||decide (((n:Nat):Int)>1600))= !decide (k8 u n):=by
   have bw:(((u.root:Nat):Int)==0)=decide (u.root=0):=by rw[eG];simp
   have bz:(((u.aK:Nat):Int)==0)=decide (u.aK=0):=by rw[eG];simp
   rw[bu,bs,bo,bn,bw,bz,eG];unfold k8;by_cases h1:u.root=0<;>by_cases h2:u.aK=0<;>simp[h1,h2]<;>omega
  rw[bv];refine⟨λh=>?_,λh=>?_⟩
  .have bB:¬k8 u n:=λhg=>by rw[dh hg]at h;cases h
   exact aG i rfl aN (by rw[r,if_neg bB])
  .have hg:k8 u n:=qO λhg=>by rw[gS hg]at h;cases h
   rw[r,if_pos hg];have aE:=cw F;have aF:=i.ext aE;have nE:=bm.ext aE;have bY:d≠P:=by have:=m.lt;have:=L.lt;omega
   refine aT ⟨λ_=>False,id,hE aF ⟨id,_,by rw[aA];exact nE.cell,kf aF rfl u λbZ aO G b0=>⟨?_,hE aO ⟨rfl,Ext.cp (Ext.trans aN aE) G I⟩⟩⟩⟩;refine⟨G.os,G.tape,G.output,G.size,λk au _=>?_⟩;by_cases e:k=d
   .rw[e];exact aO.trans aF.symm
   .exact G.block k au e
variable {w w':J}
theorem Src.cut{vs:O aa}{lo hi:Nat}(h:Src sz w s vs)(hc:s.len<=s.cap)(h1:lo<=hi)(h2:hi<=s.len):
 Src sz w ⟨a7 s.a sz lo s.cap,hi-lo,s.cap-lo⟩ ((vs.drop (lo*sz)).take ((hi-lo)*sz)):=by
 have f:=h.len;have g:hi*sz<=s.len*sz:=nZ _ h2;have i:lo*sz+(hi-lo)*sz=hi*sz:=by rw[←jT,Nat.add_sub_cancel' h1]
 refine⟨by simp;omega,λc=>?_,λa b=>?_⟩
 .have d:s.a=none:=by
   unfold a7 at c;split at c
   .exact c
   .simpa using c
  simp[h.nil d]
 .show bf w a 0 ((hi-lo)*sz)=_
  by_cases e:hi=lo
  .rw[show hi-lo=0 from I];simp[bf]
  .have av:∃A,s.a=some A/\a=A.add (lo*sz):=by
    unfold a7 at b;rw[if_neg I]at b
    cases hs:s.a with
    |none=>rw[hs]at b;cases b
    |some A=>rw[hs]at b;exact⟨A,rfl,by simpa using b.symm⟩
   obtain⟨A,av,rfl⟩:=av;exact zL (h.rd A av) I
theorem Kt{n:Nat}{q:Nat}:aD ⟨a7 s.a sz 0 s.cap,n-0,s.cap-0⟩ q↔aD s q:=by
 rw[zJ];exact Iff.rfl
section
variable {P:Program}{cS e cB:TypeId}{sz bytes:Nat}
structure eF(sz:Nat)(e:TypeId)(w0 w:J)(s:ad)(l:O aa):Prop where
 o:aR sz e w s l
 x:Ext w0 w
 f:∀q,aD s q->w0<=q
theorem Ext.new{a:U1}{w1 ai:J}(hx:Ext w0 w1)(h:ag a w1 ai)(cv:∀q,a q->w0<=q):Ext w0 ai/\ag (λq=>w0<=q) w1 ai:=
 ⟨Ext.d_ hx h cv,h.mono λq _ b=>cv q b⟩
theorem eF.app(h:ij P cS e sz bytes){w1:J}{x:ad}{l xs:O aa}(hs:eF sz e w0 w1 s l)(hx:Src sz w1 x xs)(d:∀v∈xs,Plain v)(g:(2*(s.len+x.len)+1000)*bytes<=281474976710656):
 ∃ (a:ad) (ai:J),Sem.run P (Builtin.append_ #[cS,cS] cB #[s,x]) w1=.ok a ai/\ag (λq=>w0<=q) w1 ai/\eF sz e w0 ai a (l++xs)/\
  a.len=s.len+x.len/\ag (aD s) w1 ai/\∀q,aD a q->aD s q\/w1<=q:=by
 obtain⟨a,ai,ay,az,i,b,c⟩:=h.append (cB:=cB) hx hs.o d g;obtain⟨b1,cf⟩:=Ext.new hs.x b hs.f;exact⟨a,ai,ay,cf,⟨az,b1,λq j=>(c q j).elim (hs.f q) λh=>eO hs.x.size h⟩,i,b,c⟩
theorem size_le{a b c:Nat}(h:(2*b+1000)*c<=281474976710656)(d:a<=b):(2*a+1000)*c<=281474976710656:=eO (nZ _ I) h
theorem EL(h:ij P cS e sz bytes){x jq H:O aa}{s1 s2:ad}
 (S:∀w:J,Sem.run P (Instr.buildSlice cS 0 #[]) w=.ok (.slice (some w) 0 0) (w.alloc (.cells #[] e)))
 (cH:∀w:J,Sem.run P (Instr.buildSlice cS 1 #[(0,.agg x.toArray)]) w=.ok (.slice (some w) 1 1) (w.alloc (.cells x.toArray e)))
 (hx:x.length=sz) (h1:Src sz w0 s1 jq) (h2:Src sz w0 s2 H) (aL:∀v∈x,Plain v) (bh:∀v∈jq,Plain v) (bj:∀v∈H,Plain v)
 (u:(2*(s1.len+s2.len+1)+1000)*bytes<=281474976710656) {K:ad->U2} (al:∀U w',eF sz e w0 w' U (jq++x++H)->K U w'):
 (∃L:ad,∃p:J,Sem.run P (Instr.buildSlice cS 0 #[]) w0=.ok L p/\ag (λq=>w0<=q) w0 p/\(
   (∃d:ad,∃g:J,Sem.run P (Builtin.append_ #[cS,cS] cB #[L,s1]) p=.ok d g/\ag (λq=>w0<=q) p g/\
     ∃m:ad,∃z:J,Sem.run P (Instr.buildSlice cS 1 #[(0,.agg x.toArray)]) g=.ok m z/\ag (λq=>w0<=q) g z/\
     ∃i:ad,∃c:J,Sem.run P (Builtin.append_ #[cS,cS] cB #[d,m]) z=.ok i c/\ag (λq=>w0<=q) z c/\
     ∃n:ad,∃k:J,Sem.run P (Builtin.append_ #[cS,cS] cB #[i,s2]) c=.ok n k/\ag (λq=>w0<=q) c k/\K n k)/\
   (∃V:ad,∃A:J,Sem.run P (Instr.buildSlice cS 1 #[(0,.agg x.toArray)]) p=.ok V A/\ag (λq=>w0<=q) p A/\
     ∃W:ad,∃B:J,Sem.run P (Builtin.append_ #[cS,cS] cB #[L,s1]) A=.ok W B/\ag (λq=>w0<=q) A B/\
     ∃X:ad,∃C:J,Sem.run P (Builtin.append_ #[cS,cS] cB #[W,V]) B=.ok X C/\ag (λq=>w0<=q) B C/\
     ∃Y:ad,∃M:J,Sem.run P (Builtin.append_ #[cS,cS] cB #[X,s2]) C=.ok Y M/\ag (λq=>w0<=q) C M/\K Y M)))/\
 (∃Z:ad,∃D:J,Sem.run P (Instr.buildSlice cS 1 #[(0,.agg x.toArray)]) w0=.ok Z D/\ag (λq=>w0<=q) w0 D/\
   ∃ab:ad,∃E:J,Sem.run P (Instr.buildSlice cS 0 #[]) D=.ok ab E/\ag (λq=>w0<=q) D E/\
   ∃ac:ad,∃F:J,Sem.run P (Builtin.append_ #[cS,cS] cB #[ab,s1]) E=.ok ac F/\ag (λq=>w0<=q) E F/\
   ∃ae:ad,∃G:J,Sem.run P (Builtin.append_ #[cS,cS] cB #[ac,Z]) F=.ok ae G/\ag (λq=>w0<=q) F G/\
   ∃af:ad,∃N:J,Sem.run P (Builtin.append_ #[cS,cS] cB #[ae,s2]) G=.ok af N/\ag (λq=>w0<=q) G N/\K af N):=by
 have lF:∀ (w:J) (o:Obj),Ext w (w.alloc o):=λw o=>ag.alloc (.refl _ _) o;have dM:∀w:J,Ext w0 w->eF sz e w0 (w.alloc (.cells #[] e)) ⟨some w.heap.size,0,0⟩ []:=λw aj=>
  ⟨aR.new (T:=e) w [] 0 U9 (by decide),Ext.trans aj (lF w _),λq l=>by rw[jr]at l;have:=aj.size;simp at l;omega⟩
 have Q:∀w:J,Src sz (w.alloc (.cells x.toArray e)) ⟨some w.heap.size,1,1⟩ x:=λw=>Src.new w x 1 (by simpa using hx);have qq:∀ {w ai:J},Ext w ai->ag (λq=>w0<=q) w ai:=λh=>ag.cX h;have am:∀ {s:ad}{a b:J},eF sz e w0 a s []->Ext a b->eF sz e w0 b s []:=λh hx=>⟨h.o.ext hx,Ext.trans h.x hx,h.f⟩
 have tail:∀ {w1 ai:J}{d m:ad},eF sz e w0 w1 d jq->d.len=s1.len->Ext w1 ai->Src sz ai m x->m.len=1->
  ∃i:ad,∃c:J,Sem.run P (Builtin.append_ #[cS,cS] cB #[d,m]) ai=.ok i c/\ag (λq=>w0<=q) ai c/\
   ∃n:ad,∃k:J,Sem.run P (Builtin.append_ #[cS,cS] cB #[i,s2]) c=.ok n k/\ag (λq=>w0<=q) c k/\K n k:=by
  intro w1 ai d m hf aq ak an ar;have ao:eF sz e w0 ai d jq:=⟨hf.o.ext ak,Ext.trans hf.x ak,hf.f⟩;obtain⟨i,c,ay,az,j,t,_,_⟩:=eF.app (cB:=cB) h ao an aL (size_le u I);obtain⟨n,k,b1,cf,ap,_,_,_⟩:=eF.app (cB:=cB) h j (h2.ext j.x) bj (size_le u I);exact⟨i,c,ay,az,n,k,b1,cf,al _ _ ap⟩
 refine⟨⟨⟨some w0.heap.size,0,0⟩,_,S w0,qq (lF _ _),?_,?_⟩,?_⟩
 .have f0:=dM w0 (.refl _ _)
  obtain⟨d,g,ay,az,j,t,_,_⟩:=eF.app (cB:=cB) h f0 (h1.ext f0.x) bh (size_le u (by simp;omega));rw[hK]at j;obtain⟨i,c,r⟩:=tail j (by simpa using t) (lF g (.cells x.toArray e)) (Q g) rfl;exact⟨d,g,ay,az,⟨some g.heap.size,1,1⟩,_,cH g,qq (lF _ _),i,c,r⟩
 .have f0:=am (dM w0 (.refl _ _)) (lF _ (.cells x.toArray e))
  obtain⟨d,g,ay,az,j,t,R,_⟩:=eF.app (cB:=cB) h f0 (h1.ext f0.x) bh (size_le u (by simp;omega));rw[hK]at j;have hs:=(Q (w0.alloc (.cells #[] e))).ah R λq l y=>by
   rw[jr]at l y;simp at l y;omega
  obtain⟨i,c,r⟩:=tail j (by simpa using t) (.refl _ _) hs rfl;exact⟨⟨some ⟨(w0.alloc (.cells #[] e)).heap.size,0,none⟩,1,1⟩,_,cH _,qq (lF _ _),d,g,ay,az,i,c,r⟩
 .have f0:=dM (w0.alloc (.cells x.toArray e)) (lF _ _)
  obtain⟨d,g,ay,az,j,t,R,_⟩:=eF.app (cB:=cB) h f0 (h1.ext f0.x) bh (size_le u (by simp;omega));rw[hK]at j;have hs:=((Q w0).alloc (.cells #[] e)).ah R λq l y=>by
   rw[jr]at l y;simp at l y;omega
  obtain⟨i,c,r⟩:=tail j (by simpa using t) (.refl _ _) hs rfl;exact⟨⟨some w0.heap.size,1,1⟩,_,cH _,qq (lF _ _),⟨some ⟨(w0.alloc (.cells x.toArray e)).heap.size,0,none⟩,0,0⟩,_,S _,qq (lF _ _),d,g,ay,az,i,c,r⟩
end
end Go.Proofs.YtcmgnhkpfllinaaGreat
namespace Go.Proofs.YtcmgnhkpfllinaaGreat
open Go Go.Proofs Go.Shelf
def EM:Go.Shelf.Ren:=⟨λ |7=>133|10=>189|n=>n,λ |23=>125|26=>3|3=>124|28=>232|0=>0|27=>231|33=>177|4=>4|n=>n,λ |n=>n⟩
theorem Ku:Go.Proofs.SlLaysZI.n7 Tryz.prog EM:={
 mixed:=by kernel_rfl
 f7:=⟨Tryz.f133.name,by decide,Tryz.func133.trans (congrArg some U3)⟩
 f10:=⟨Tryz.f189.name,by decide,Tryz.func189.trans (congrArg some U3)⟩
 t0:=Tryz.underlying0
 a0:=Tryz.isAgg0
 z0:=Tryz.sizeOf0
 v0:=Tryz.zeroValue0
 t4:=Tryz.underlying4
 a4:=Tryz.isAgg4
 z4:=Tryz.sizeOf4
 v4:=Tryz.zeroValue4
 t23:=Tryz.underlying125
 a23:=Tryz.isAgg125
 z23:=Tryz.sizeOf125
 v23:=Tryz.zeroValue125
 t26:=Tryz.underlying3
 a26:=Tryz.isAgg3
 z26:=Tryz.sizeOf3
 v26:=Tryz.zeroValue3
 t27:=Tryz.underlying231
 a27:=Tryz.isAgg231
 z27:=Tryz.sizeOf231
 v27:=Tryz.zeroValue231
 t28:=Tryz.underlying232
 a28:=Tryz.isAgg232
 z28:=Tryz.sizeOf232
 v28:=Tryz.zeroValue232
 t33:=Tryz.underlying177
 a33:=Tryz.isAgg177
 z33:=Tryz.sizeOf177
 v33:=Tryz.zeroValue177}
def EN:Go.Shelf.Ren:=⟨λ |6=>132|8=>188|9=>140|11=>235|13=>197|12=>196|23=>246|24=>247|14=>237|15=>238|16=>239|17=>240|18=>241|19=>242|20=>243|21=>244|22=>245|25=>267|26=>268|27=>269|28=>270|29=>271|30=>272|31=>278|n=>n,λ |26=>3|28=>232|24=>72|0=>0|3=>3|37=>30|48=>211|50=>23|4=>4|40=>330|39=>329|45=>224|5=>5|9=>9|51=>351|55=>355|57=>359|58=>226|33=>177|n=>n,λ |n=>n⟩
theorem Kv:Go.Proofs.SlLaysZI.n6 Tryz.prog EN:={
 mixed:=by kernel_rfl
 f6:=⟨Tryz.f132.name,by decide,Tryz.func132.trans (congrArg some U3)⟩
 f8:=⟨Tryz.f188.name,by decide,Tryz.func188.trans (congrArg some U3)⟩
 f11:=⟨Tryz.f235.name,by decide,Tryz.func235.trans (congrArg some U3)⟩
 t0:=Tryz.underlying0
 a0:=Tryz.isAgg0
 z0:=Tryz.sizeOf0
 v0:=Tryz.zeroValue0
 t24:=Tryz.underlying72
 a24:=Tryz.isAgg72
 z24:=Tryz.sizeOf72
 v24:=Tryz.zeroValue72
 t26:=Tryz.underlying3
 a26:=Tryz.isAgg3
 z26:=Tryz.sizeOf3
 v26:=Tryz.zeroValue3
 t28:=Tryz.underlying232
 a28:=Tryz.isAgg232
 z28:=Tryz.sizeOf232
 v28:=Tryz.zeroValue232
 i26:=by kernel_rfl}
def Kw:Go.Shelf.Ren:=⟨λ |5=>140|8=>197|7=>196|19=>246|20=>247|10=>237|11=>238|12=>239|13=>240|14=>241|15=>242|16=>243|17=>244|18=>245|30=>267|31=>268|32=>269|33=>270|34=>271|35=>272|40=>278|n=>n,λ |23=>72|25=>3|3=>3|32=>30|22=>72|0=>0|44=>211|46=>23|4=>4|36=>330|35=>329|41=>224|5=>5|9=>9|53=>351|57=>355|63=>359|64=>226|n=>n,λ |n=>n⟩
theorem yw:Go.Proofs.SlLaysM.n5 Tryz.prog Kw:={
 mixed:=by kernel_rfl
 f5:=⟨Tryz.f140.name,by decide,Tryz.func140.trans (congrArg some U3)⟩
 f7:=⟨Tryz.f196.name,by decide,Tryz.func196.trans (congrArg some U3)⟩
 f8:=Tryz.func197.trans (congrArg some U3)
 f10:=⟨Tryz.f237.name,by decide,Tryz.func237.trans (congrArg some U3)⟩
 f11:=⟨Tryz.f238.name,by decide,Tryz.func238.trans (congrArg some U3)⟩
 f12:=⟨Tryz.f239.name,by decide,Tryz.func239.trans (congrArg some U3)⟩
 f13:=⟨Tryz.f240.name,by decide,Tryz.func240.trans (congrArg some U3)⟩
 f14:=⟨Tryz.f241.name,by decide,Tryz.func241.trans (congrArg some U3)⟩
 f15:=⟨Tryz.f242.name,by decide,Tryz.func242.trans (congrArg some U3)⟩
 f16:=⟨Tryz.f243.name,by decide,Tryz.func243.trans (congrArg some U3)⟩
 f17:=⟨Tryz.f244.name,by decide,Tryz.func244.trans (congrArg some U3)⟩
 f18:=⟨Tryz.f245.name,by decide,Tryz.func245.trans (congrArg some U3)⟩
 f19:=Tryz.func246.trans (congrArg some U3)
 f20:=Tryz.func247.trans (congrArg some U3)
 f30:=⟨Tryz.f267.name,by decide,Tryz.func267.trans (congrArg some U3)⟩
 f31:=Tryz.func268.trans (congrArg some U3)
 f32:=Tryz.func269.trans (congrArg some U3)
 f33:=⟨Tryz.f270.name,by decide,Tryz.func270.trans (congrArg some U3)⟩
 f34:=⟨Tryz.f271.name,by decide,Tryz.func271.trans (congrArg some U3)⟩
 f35:=⟨Tryz.f272.name,by decide,Tryz.func272.trans (congrArg some U3)⟩
 f40:=⟨Tryz.f278.name,by decide,Tryz.func278.trans (congrArg some U3)⟩
 t0:=Tryz.underlying0
 a0:=Tryz.isAgg0
 z0:=Tryz.sizeOf0
 v0:=Tryz.zeroValue0
 t3:=Tryz.underlying3
 a3:=Tryz.isAgg3
 z3:=Tryz.sizeOf3
 v3:=Tryz.zeroValue3
 t4:=Tryz.underlying4
 a4:=Tryz.isAgg4
 z4:=Tryz.sizeOf4
 v4:=Tryz.zeroValue4
 t5:=Tryz.underlying5
 a5:=Tryz.isAgg5
 z5:=Tryz.sizeOf5
 v5:=Tryz.zeroValue5
 t9:=Tryz.underlying9
 a9:=Tryz.isAgg9
 z9:=Tryz.sizeOf9
 v9:=Tryz.zeroValue9
 t22:=Tryz.underlying72
 a22:=Tryz.isAgg72
 z22:=Tryz.sizeOf72
 v22:=Tryz.zeroValue72
 t23:=Tryz.underlying72
 a23:=Tryz.isAgg72
 z23:=Tryz.sizeOf72
 v23:=Tryz.zeroValue72
 t25:=Tryz.underlying3
 a25:=Tryz.isAgg3
 z25:=Tryz.sizeOf3
 v25:=Tryz.zeroValue3
 t32:=Tryz.underlying30
 a32:=Tryz.isAgg30
 z32:=Tryz.sizeOf30
 v32:=Tryz.zeroValue30
 t35:=Tryz.underlying329
 a35:=Tryz.isAgg329
 z35:=Tryz.sizeOf329
 v35:=Tryz.zeroValue329
 t36:=Tryz.underlying330
 a36:=Tryz.isAgg330
 z36:=Tryz.sizeOf330
 v36:=Tryz.zeroValue330
 t41:=Tryz.underlying224
 a41:=Tryz.isAgg224
 z41:=Tryz.sizeOf224
 v41:=Tryz.zeroValue224
 t44:=Tryz.underlying211
 a44:=Tryz.isAgg211
 z44:=Tryz.sizeOf211
 v44:=Tryz.zeroValue211
 t46:=Tryz.underlying23
 a46:=Tryz.isAgg23
 z46:=Tryz.sizeOf23
 v46:=Tryz.zeroValue23
 t53:=Tryz.underlying351
 a53:=Tryz.isAgg351
 z53:=Tryz.sizeOf351
 v53:=Tryz.zeroValue351
 t57:=Tryz.underlying355
 a57:=Tryz.isAgg355
 z57:=Tryz.sizeOf355
 v57:=Tryz.zeroValue355
 t63:=Tryz.underlying359
 a63:=Tryz.isAgg359
 z63:=Tryz.sizeOf359
 v63:=Tryz.zeroValue359
 t64:=Tryz.underlying226
 a64:=Tryz.isAgg226
 z64:=Tryz.sizeOf226
 v64:=Tryz.zeroValue226}
end Go.Proofs.YtcmgnhkpfllinaaGreat
namespace Go.Proofs.YtcmgnhkpfllinaaGreat
open Go aS Go.Proofs.Tryz
variable{w w':J}{T:TypeId}{s:ad}{m i k aU j hd no:Nat}{f t:Nat->ao}{W X V:U1}{D aF:a8}{l:c7}
theorem Kx{b n:Nat}{c:Array aa}{os:Array Obj}{zs:O Int}(h:bu w b c T)(g:zs.length<=c.size):
 ∃c':Array aa,bu (Go.Sort.grow (Go.Sort.putRow (Value.int .i64) (Go.Sort.ahead w n) b 0 zs.toArray) os) b c' T/\c'.size=c.size/\c'.toList.take zs.length=zs.map encZ/\ag (λq=>q=b) w (Go.Sort.grow (Go.Sort.putRow (Value.int .i64) (Go.Sort.ahead w n) b 0 zs.toArray) os):=by
 have aI:=h.lt;have d:∀k,k<w.heap.size->(Go.Sort.grow (Go.Sort.putRow (Value.int .i64) (Go.Sort.ahead w n) b 0 zs.toArray) os).heap[k]? =(w.heap.modify b (Go.Sort.onCells (Go.Sort.putCells (Value.int .i64) 0 zs.toArray)))[k]? :=λk a=>by
  show((w.heap.modify b _)++os)[k]? =_;rw[Array.getElem?_append_left (by simpa using a)]
 refine⟨Go.Sort.putCells (Value.int .i64) 0 zs.toArray c,?_,by simp[Go.Sort.putCells],?_,rfl,rfl,rfl,?_,λk a f=>?_⟩
 .unfold bu at h⊢
  rw[d b aI,uS,if_pos rfl,h];rfl
 .apply List.ext_getElem?
  intro i;rw[uW];split
  .rename_i hi
   rw[Array.getElem?_toList,Go.Sort.putCells,Array.getElem?_mapIdx,Array.getElem?_eq_getElem I,mq,if_pos ⟨cI _,by simpa using hi⟩,mz,dR hi];simp[hi]
  .rename_i hi
   rw[m9 (by simpa using hi)]
 .show w.heap.size<=((w.heap.modify b _)++os).size
  simp
 .rw[d k a,uS,if_neg (λe=>f e.symm)]
theorem Bb(ds:O Nat):ej ds=(ds.map λd=>((d:Nat):Int)).map encZ:=by simp[ej]
theorem EO{zs:O Int}(h:aR 1 3 w s (zs.map encZ))(E:zs.length<=1000000):
 aH aj 140 #[s] w (λv w'=>v=.tuple #[]/\ag (aD s) w w'/\∃ys:O Int,aR 1 3 w' s (ys.map encZ)/\ys.Perm zs/\ys.Pairwise λa b=>a<=b):=by
 have F:s.len=zs.length:=by have:=h.1;rw[cU]at this;omega
 rcases pg zs.length with h0|h0
 .have hd:zs=[]:=mo.1 h0
  have e:s.len=0:=I
  rw[e];refine Calls.mono (AnyM.slices_Sort_int_none yw s.a s.cap w) ?_;rintro _ _ ⟨rfl,rfl⟩;exact⟨_,rfl,rfl,.refl _ _,[],by rw[hd]at h;exact h,by rw[hd],List.Pairwise.nil⟩
 obtain⟨h1,h2,r,t⟩:=h;obtain⟨_,f⟩|⟨b,c,g,d,u,z⟩:=t
 .omega
 have A:Go.Sort.Holds (Value.int .i64) w b 0 zs.toArray:=λj B=>by
  have k:j<zs.length:=by simpa using B
  refine⟨?_,bu.frozen d _ rfl⟩;rw[d.cell,cA];have e:=congrArg (λl=>l[j]?) z;simp only[uW,mz,dR k,mq]at e;rw[if_pos I,Array.getElem?_toList]at e;rw[e];simp[k]
 have C:=AnyM.slices_Sort_int yw b 0 s.cap zs w A d.lt I;rw[g];have e:s.len=zs.length:=I
 rw[e];refine Calls.mono C ?_;rintro _ w' ⟨rfl,n,os,rfl⟩;obtain⟨c',ay,az,m,o⟩:=Kx (n:=n) (os:=os) (zs:=zs.mergeSort λx y=>decide (x<=y)) d (by rw[List.length_mergeSort];omega);have i:=List.mergeSort_perm zs λx y=>decide (x<=y);have p:(zs.mergeSort λx y=>decide (x<=y)).Pairwise λa b=>decide (a<=b)=true:=List.pairwise_mergeSort (λa b c h1 h2=>by simp only[b8]at*;omega) (λa b=>by simp only[jE,b8];omega) zs;generalize (zs.mergeSort λx y=>decide (x<=y))=ys at ay az m o i p;refine⟨_,rfl,rfl,o.mono λq _ e=>⟨b,g,e.symm⟩,ys,?_,i,p.imp λh=>b2 h⟩;have D:=i.length_eq;have f:=aR.mk' (sz:=1) (n:=s.len) (cap:=s.cap) ay (vs:=ys.map encZ) (by rw[cU];omega) h2 r (az▸u) (by rw[f_,e,←D];exact m);rw[←g]at f;exact f
theorem EP{ds:O Nat}(h:aR 1 3 w s (ej ds))(g:ds.length<=1000000):
 aH aj 140 #[.slice s.a s.len s.cap] w (λv w'=>v=.tuple #[]/\ag (aD s) w w'/\∃es:O Nat,aR 1 3 w' s (ej es)/\es.Perm ds/\es.Pairwise λa b=>a<=b):=by
 rw[Bb]at h;refine(EO h (by rw[cU];exact g)).mono ?_;rintro v w' ⟨rfl,hc,ys,i,e,j⟩;have f:∀y∈ys,0<=y:=λy c=>by
  obtain⟨d,_,rfl⟩:=eJ.1 (e.mem_iff.1 c);omega
 have k:(ys.map Int.toNat).map (λd=>((d:Nat):Int))=ys:=by
  rw[iW]
  conv=>rhs;rw[←List.map_id ys]
  refine u9 λy c=>?_;have:=f y c;show((y.toNat:Nat):Int)=y;omega
 refine⟨rfl,hc,ys.map Int.toNat,by rw[Bb,k];exact i,?_,?_⟩
 .have:=e.map Int.toNat
  rw[iW]at this;have l:(Int.toNat∘ λd:Nat=>((d:Nat):Int))=id:=by funext d;simp
  rw[l,List.map_id]at this;exact this
 .rw[List.pairwise_map]
  exact j.imp_of_mem λm n o=>by
   have:=f _ m;omega
def mc(a cH ck b c d e f:ao):Nat:=
 a.toNat+2*cH.toNat+4*ck.toNat+8*b.toNat+16*c.toNat+32*d.toNat+64*e.toNat+128*f.toNat
def byteOf(f:Nat->ao)(i:Nat):Nat:=mc (f (8*i)) (f (8*i+1)) (f (8*i+2)) (f (8*i+3)) (f (8*i+4)) (f (8*i+5)) (f (8*i+6)) (f (8*i+7))
theorem Ky:∀a cH ck b c d e f:ao,mc a cH ck b c d e f<256:=by decide+kernel
theorem Kz:∀a cH ck b c d e f:ao,
 (mc a cH ck b c d e f).testBit 0=a/\(mc a cH ck b c d e f).testBit 1=cH/\(mc a cH ck b c d e f).testBit 2=ck/\(mc a cH ck b c d e f).testBit 3=b/\
 (mc a cH ck b c d e f).testBit 4=c/\(mc a cH ck b c d e f).testBit 5=d/\(mc a cH ck b c d e f).testBit 6=e/\(mc a cH ck b c d e f).testBit 7=f:=by decide+kernel
theorem k9(f:Nat->ao)(i:Nat):byteOf f i<256:=Ky _ _ _ _ _ _ _ _
theorem oU(f:Nat->ao)(i j:Nat)(a:j<8):(byteOf f i).testBit j=f (8*i+j):=by
 obtain⟨h0,h1,h2,b,c,d,e,g⟩:=Kz (f (8*i)) (f (8*i+1)) (f (8*i+2)) (f (8*i+3)) (f (8*i+4)) (f (8*i+5)) (f (8*i+6)) (f (8*i+7));have:j=0\/j=1\/j=2\/j=3\/j=4\/j=5\/j=6\/j=7:=by omega
 unfold byteOf;rcases this with rfl|rfl|rfl|rfl|rfl|rfl|rfl|rfl<;>assumption
theorem KA{x y:Nat}(hx:x<256)(b:y<256)(h:∀j,j<8->x.testBit j=y.testBit j):x=y:=by
 apply Nat.eq_of_testBit_eq;intro j;by_cases a:j<8
 .exact h j a
 .have p:256<=2^j:=by
   have:=u3 (n:=2) I (by omega:8<=j);simpa using this
  rw[Nat.testBit_lt_two_pow I,Nat.testBit_lt_two_pow I]
theorem yx(f:Nat->ao)(i x:Nat)(hx:x<256)(h:∀j,j<8->x.testBit j=f (8*i+j)):x=byteOf f i:=
 KA hx (k9 f i) λj a=>by rw[h j a,oU f i j a]
def dA(f:Nat->ao)(k:Nat)(b:ao):Nat->ao:=λi=>if i=k then b else f i
theorem KB:∀x:Nat,x<256->∀j:Nat,j<8->(jZ .u8 (Int.fdiv (x:Int) (2^(min (Int.toNat (j:Int)) 8))) 1==1)=x.testBit j:=by decide+kernel
theorem KC:∀x:Nat,x<256->∀j:Nat,j<8->oa .u8 (x:Int) (IntKind.wrap .u8 (1*2^(min (Int.toNat (j:Int)) 8)))=((x|||2^j:Nat):Int):=by decide+kernel
theorem KD:∀x:Nat,x<256->∀j:Nat,j<8->Cp .u8 (x:Int) (IntKind.wrap .u8 (1*2^(min (Int.toNat (j:Int)) 8)))=((x&&&(255-2^j):Nat):Int):=by decide+kernel
theorem Bc:∀x:Nat,x<256->∀y:Nat,y<256->x|||y<256:=λ_ hx _ a=>Nat.or_lt_two_pow (n:=8) hx a
theorem KE:∀j:Nat,j<8->∀k:Nat,k<8->(255-2^j).testBit k=(k !=j):=by decide+kernel
theorem KF(x y:Nat)(hx:x<256)(a:y<256):oa .u8 (x:Int) (y:Int)=((x|||y:Nat):Int):=by
 have h:=Bc x hx y a;have e:(BitVec.ofInt 8 (x:Int)|||BitVec.ofInt 8 (y:Int)).toNat=x|||y:=by
  simp only[BitVec.ofInt_natCast,BitVec.toNat_or,BitVec.toNat_ofNat];rw[kr (by simpa using hx),kr (by simpa using a)]
 show IntKind.wrap .u8 (((BitVec.ofInt 8 (x:Int)|||BitVec.ofInt 8 (y:Int)).toNat:Nat):Int)=_;rw[e];have:((x|||y:Nat):Int)%256=((x|||y:Nat):Int):=Int.emod_eq_of_lt I I;simp[IntKind.wrap,IntKind.signed,IntKind.bits,this]
theorem ER(k:Nat):8*(k/8)+k%8=k:=Nat.div_add_mod k 8
theorem KG(f:Nat->ao)(k:Nat):byteOf f (k/8)|||2^(k%8)=byteOf (dA f k true) (k/8):=by
 refine yx _ _ _ (Bc _ (k9 _ _) _ ?_) λj b=>?_
 .have:k%8<8:=hG _ I
  have:=Nat.pow_lt_pow_right (a:=2) I this;simpa using this
 .rw[nW,oU _ _ _ b,sK,dA]
  by_cases h:8*(k/8)+j=k
  .rw[if_pos h]
   have:k%8=j:=I
   simp[this]
  .rw[if_neg h]
   have:¬k%8=j:=I
   simp[this]
theorem KH(f:Nat->ao)(k:Nat):byteOf f (k/8)&&&(255-2^(k%8))=byteOf (dA f k false) (k/8):=by
 refine yx _ _ _ (Nat.lt_of_le_of_lt Nat.and_le_left (k9 _ _)) λj a=>?_;rw[Nat.testBit_and,oU _ _ _ a,KE _ (hG _ I) _ a,dA];by_cases h:8*(k/8)+j=k
 .rw[if_pos h]
  have:j=k%8:=I
  simp[this]
 .rw[if_neg h]
  have:¬j=k%8:=I
  simp[this]
theorem KI(f:Nat->ao)(k i:Nat)(b:ao)(h:i≠k/8):byteOf (dA f k b) i=byteOf f i:=by
 have e:∀j,j<8->dA f k b (8*i+j)=f (8*i+j):=λj a=>by
  unfold dA;rw[if_neg];omega
 unfold byteOf;rw[e 1 I,e 2 I,e 3 I,e 4 I,e 5 I,e 6 I,e 7 I];have:=e 0 I;simp only[lU]at this;rw[this]
def e6(f:Nat->ao)(m:Nat):O aa:=(List.range m).map λi=>.int .u8 (byteOf f i)
theorem Bd(f:Nat->ao)(m:Nat):(e6 f m).length=m:=by simp[e6]
theorem qs(f:Nat->ao)(h:i<m):(e6 f m)[i]? =some (.int .u8 (byteOf f i)):=by simp[e6,h]
theorem ES(f:Nat->ao)(k m:Nat)(b:ao):(e6 f m).set (k/8) (.int .u8 (byteOf (dA f k b) (k/8)))=e6 (dA f k b) m:=by
 apply List.ext_getElem?;intro i;rw[List.getElem?_set];by_cases hi:i<m
 .rw[qs (dA f k b) hi]
  by_cases h:k/8=i
  .subst h
   simp[Bd,hi]
  .rw[if_neg h,qs _ hi,KI f k i b I]
 .have h1:(e6 (dA f k b) m)[i]? =none:=by simp[e6];omega
  have h2:(e6 f m)[i]? =none:=by simp[e6];omega
  rw[h1,h2];split
  .simp[Bd];omega
  .rfl
theorem ET(k:Nat):Int.tdiv (k:Int) 8=((k/8:Nat):Int):=by
 rw[yZ I];omega
theorem uq(k:Nat):Int.tmod (k:Int) 8=((k%8:Nat):Int):=by
 rw[o7 I];omega
theorem Be(h:k<=9223372036854775807):IntKind.wrap .i64 (Int.tdiv (k:Int) 8)=((k/8:Nat):Int):=by
 rw[ET,bq I I]
theorem EU{b:Nat}(h:s.a=some ⟨b,0,none⟩):aD s b:=⟨_,h,rfl⟩
theorem qt(h:aR 1 5 w s (e6 f m))(a:k/8<m)(d:k<=9223372036854775807):
 aH aj 198 #[s,k] w (λv w'=>v=.bool (f k)/\w=w'):=by
 refine okF (ae.xy s k) ax.xy func198 ?_;(delta ae.xy aO ar cq;dsimp only);obtain⟨b,c,e,g,i,hi,j,hc,_⟩:=h.cell (qs f a);refine⟨by decide,_,e,?_⟩;rw[Be d,uq];refine⟨⟨I,I⟩,(byteOf f (k/8):Int),?_,by decide,I,?_,rfl⟩
 .rw[f_,c2,aA,cA];exact hc
 .rw[KB _ (k9 _ _) _ (hG _ I),oU _ _ _ (hG _ I),ER]
theorem EV(h:aR 1 5 w s (e6 f m))(e:k/8<m)(g:k<=9223372036854775807):
 aH aj 111 #[s,k] w (λv w'=>v=.tuple #[]/\aR 1 5 w' s (e6 (dA f k true) m)/\ag (aD s) w w'):=by
 refine okF (ae.xb s k) ax.xb func111 ?_;(delta ae.xb an aO ar cq st;dsimp only);obtain⟨b,c,d,i,l,hi,n,hc,_⟩:=h.cell (qs f e);have a:(Addr.mk b 0 none).add (Int.toNat ((k/8:Nat):Int)*1)=⟨b,k/8,none⟩:=by rw[f_,c2,aA,cA]
 rw[Be g,uq];refine⟨by decide,_,d,⟨I,I⟩,by simp,(byteOf f (k/8):Int),by rw[a];exact hc,by decide,I,_,d,⟨I,I⟩,⟨_,by rw[a];exact hc⟩,by rw[a];exact i.drew.frozen _ rfl,rfl,?_,?_⟩
 .rw[a,KC _ (k9 _ _) _ (hG _ I),KG,←ES]
  have j:aR 1 5 w.drew s (e6 f m):=h.ah (W:=λ_=>False) (ag.drew (.refl _ _)) (λ_ _ h=>h);exact j.set d _
 .rw[a]
  exact ag.set (ag.drew (.refl _ _)) (λ_=>EU d) _
theorem KJ(h:aR 1 5 w s (e6 f m))(e:k/8<m)(g:k<=9223372036854775807):
 aH aj 203 #[s,k] w (λv w'=>v=.tuple #[]/\aR 1 5 w' s (e6 (dA f k false) m)/\ag (aD s) w w'):=by
 refine okF (ae.xz s k) ax.xz func203 ?_;(delta ae.xz an aO ar cq st;dsimp only);obtain⟨b,c,d,i,l,hi,n,hc,_⟩:=h.cell (qs f e);have a:(Addr.mk b 0 none).add (Int.toNat ((k/8:Nat):Int)*1)=⟨b,k/8,none⟩:=by rw[f_,c2,aA,cA]
 rw[Be g,uq];refine⟨by decide,_,d,⟨I,I⟩,by simp,(byteOf f (k/8):Int),by rw[a];exact hc,by decide,I,_,d,⟨I,I⟩,⟨_,by rw[a];exact hc⟩,by rw[a];exact i.drew.frozen _ rfl,rfl,?_,?_⟩
 .rw[a,KD _ (k9 _ _) _ (hG _ I),KH,←ES]
  have j:aR 1 5 w.drew s (e6 f m):=h.ah (W:=λ_=>False) (ag.drew (.refl _ _)) (λ_ _ h=>h);exact j.set d _
 .rw[a]
  exact ag.set (ag.drew (.refl _ _)) (λ_=>EU d) _
structure fc(w:J)(b n:Nat)(f g:Nat->ao)(s1 s2:ad):Prop where
 bE:bu w b #[n,s1,s2] 209
 now:aR 1 5 w s1 (e6 f ((n+7)/8))
 sure:aR 1 5 w s2 (e6 g ((n+7)/8))
 d1:∀k,aD s1 k->k≠b/\¬aD s2 k
 d2:∀k,aD s2 k->k≠b
 b6:1<=n
 bx:n<=1600
 pf:∀i,n<=i->f i=false
 c0:∀i,n<=i->g i=false
def gr(b:Nat)(s1 s2:ad)(k:Nat):Prop:=k=b\/aD s1 k\/aD s2 k
section
variable {w w':J}{b n:Nat}{f g:Nat->ao}{s1 s2:ad}
theorem fc.ah(h:fc w b n f g s1 s2)(hc:ag W w w')(a:∀k,gr b s1 s2 k->¬W k):fc w' b n f g s1 s2:=
 ⟨h.bE.ah hc (a b (.inl rfl)),h.now.ah hc λk c=>a k (.inr (.inl c)),h.sure.ah hc λk c=>a k (.inr (.inr c)),h.d1,h.d2,h.b6,h.bx,h.pf,h.c0⟩
theorem fc.ext(h:fc w b n f g s1 s2)(hc:Ext w w'):fc w' b n f g s1 s2:=h.ah hc λ_ _ h=>h
theorem fc.lt(h:fc w b n f g s1 s2):∀k,gr b s1 s2 k->k<w:=by
 rintro k (rfl|a|a)
 .exact h.bE.lt
 .exact h.now.lt k a
 .exact h.sure.lt k a
theorem fc.b9(h:fc w b n f g s1 s2):w.cell? b=some (.int .i64 n):=by rw[h.bE.cell];rfl
theorem fc.aZ(h:fc w b n f g s1 s2):w.cell? ((Addr.mk b 0 none).add 1)=some (.slice s1.a s1.len s1.cap):=by rw[aA,h.bE.cell];rfl
theorem fc.bo(h:fc w b n f g s1 s2):w.cell? ((Addr.mk b 0 none).add 2)=some (.slice s2.a s2.len s2.cap):=by rw[aA,h.bE.cell];rfl
theorem KK(h:fc w b n f g s1 s2)(a:k<n):
 aH aj 201 #[.pointer (some b),k] w (λv w'=>v=.bool (f k||g k)/\w=w'):=by
 have c:=h.bx;refine ae.Is _ k w _ ?_;(delta ae.tR al bP ak;dsimp only);refine⟨_,rfl,s1,h.aZ,(qt h.now (k:=k) I I).use ?_⟩;rintro _ _ ⟨rfl,rfl⟩;refine⟨_,rfl,⟨λhf=>⟨by rw[hf];rfl,rfl⟩,λhf=>⟨_,rfl,s2,h.bo,(qt h.sure (k:=k) I I).use ?_⟩⟩⟩;rintro _ _ ⟨rfl,rfl⟩;exact⟨_,rfl,by rw[hf];rfl,rfl⟩
theorem Bf(h:fc w b n f g s1 s2)(k:Int):
 aH aj 202 #[.pointer (some b),k] w (λv w'=>v=.bool (decide (0<=k)&&decide (k<n))/\w=w'):=by
 refine ae.It _ k w _ ?_;(delta ae.tS ak r1;dsimp only);refine⟨?_⟩;refine⟨λh1=>⟨_,rfl,n,h.b9,?_,rfl⟩,λh1=>⟨?_,rfl⟩⟩
 .have:0<=k:=by simpa using h1
  simp[this]
 .have:¬0<=k:=by simpa using h1
  simp[this]
def firstFree(t:Nat->ao)(n:Nat):au Nat:=(List.range n).find? λi=> !t i
theorem KL{n:Nat}(e:k<n)(ht:t k=false)(c:∀i,i<k->t i=true):firstFree t n=some k:=by
 unfold firstFree;rw[List.find?_eq_some_iff_append];refine⟨by simp[ht],List.range k,(List.range' (k+1) (n-(k+1))),?_,λa d=>?_⟩
 .have b:=List.range'_append (s:=0) (m:=k) (n:=n-(k+1)+1) (step:=1)
  rw[uU,uU,←List.range'_succ];rw[Nat.one_mul,cA]at b;rw[b]
  congr 1
  omega
 .simp[c a (jS.1 d)]
theorem KM{n:Nat}(b:∀i,i<n->t i=true):firstFree t n=none:=by
 unfold firstFree;rw[jX];intro a c;simp[b a (jS.1 c)]
theorem EW{n:Nat}(h:firstFree t n=some k):k<n/\t k=false/\∀i,i<k->t i=true:=by
 unfold firstFree at h;obtain⟨h1,la,lb,h2,c⟩:=List.find?_eq_some_iff_append.1 h;have d:k<n:=jS.1 (by rw[h2];simp);refine⟨d,by simpa using h1,λi hi=>?_⟩;have hlen:la.length=k:=by
  have a:(List.range n)[la.length]? =some k:=by rw[h2];simp
  rw[List.getElem?_range (by
   have:=congrArg List.length h2;simp at this;omega)]at a
  simpa using a
 have b:(List.range n)[i]? =some i:=List.getElem?_range I;rw[h2,u0 I]at b;have:=c i (List.mem_of_getElem? b);simpa using this
theorem KN{n:Nat}(h:firstFree t n=none):∀i,i<n->t i=true:=by
 unfold firstFree at h;rw[jX]at h;intro i hi;have:=h i (jS.2 hi);simpa using this
def KO(o:au Nat):aa:=
 match o with
 |some k=>.tuple #[.int .i64 (k:Int),U8]
 |none=>.tuple #[.int .i64 (-1),(2:Int)]
def KP(o:au Nat)(f:Nat->ao):Nat->ao:=
 match o with
 |some k=>dA f k true
 |none=>f
theorem EX{n:Nat}{x:ao}(h:∀i,n<=i->f i=false)(a:k<n):∀i,n<=i->dA f k x i=false:=λi hi=>by
 unfold dA
 rw[if_neg I]
 exact h i hi
theorem EY(h:fc w b n f g s1 s2):
 aH aj 144 #[.pointer (some b)] w (λv w'=>v=KO (firstFree (λi=>f i||g i) n)/\fc w' b n (KP (firstFree (λi=>f i||g i) n) f) g s1 s2/\ag (gr b s1 s2) w w'):=by
 have r:=h.bx;refine ae.Ig _ w _ ?_;(delta ae.tK ak r1 bP al fI ar;dsimp only);refine⟨λh1=>by simp at h1,λ_=>⟨_,rfl,n,h.b9,λi w'=>∃k:Nat,i=k/\k<=n/\w=w'/\∀j,j<k->(f j||g j)=true,λi _=>(n-i).toNat,⟨0,rfl,I,rfl,λj l=>I⟩,?_⟩⟩;rintro _ _ ⟨k,rfl,a,rfl,d⟩;refine⟨λaI=>(KK h (k:=k) (by simpa using aI)).use ?_,λm=>?_⟩
 .have c:k<n:=by simpa using aI
  rintro _ _ ⟨rfl,rfl⟩;refine⟨_,rfl,λht=>⟨_,rfl,s1,h.aZ,(EV h.now (k:=k) I I).use ?_⟩,λht=>?_⟩
  .rintro _ w' ⟨rfl,o,hc⟩
   have e:(f k||g k)=false:=by simpa using ht
   have p:=KL (t:=λi=>f i||g i) c e d;rw[p];refine⟨rfl,rfl,⟨h.bE.ah hc λq=>(h.d1 b q).1 rfl,o,h.sure.ah hc λk a h1=>(h.d1 k h1).2 a,h.d1,h.d2,h.b6,h.bx,EX h.pf c,h.c0⟩,hc.mono λk _ a=>.inr (.inl a)⟩
  .have e:(f k||g k)=true:=by cases hx:(f k||g k)<;>simp[hx]at ht⊢
   rw[bq I I];refine⟨⟨k+1,I,I,rfl,λj l=>?_⟩,(show((n:Int)-((k:Int)+1)).toNat<((n:Int)-(k:Int)).toNat from I)⟩;rcases dV j k with h1|h1
   .exact d j h1
   .have:j=k:=I
    subst this;exact e
 .have c:k=n:=by
   have:¬(k:Int)<n:=by simpa using m
   omega
  subst c;rw[KM d];exact⟨rfl,h,.refl _ _⟩
def yy(f:Nat->ao)(n:Nat)(k:Int):Int:=if 0<=k/\k<n then (if f k.toNat then 0 else 6) else 1
def oV(f:Nat->ao)(n:Nat)(k:Int):Nat->ao:=if 0<=k/\k<n then dA f k.toNat false else f
theorem KQ{x:ao}(h:f k=x):dA f k x=f:=by
 funext i;unfold dA;split
 .rename_i hi;rw[hi,h]
 .rfl
theorem EZ(h:fc w b n f g s1 s2)(k:Int):
 aH aj 145 #[.pointer (some b),k] w (λv w'=>v=.int .i64 (yy f n k)/\fc w' b n (oV f n k) g s1 s2/\ag (gr b s1 s2) w w'):=by
 have l:=h.bx;refine ae.Ih _ k w _ ?_;(delta ae.tL bP ak al fI;dsimp only);refine(Bf h k).use ?_;rintro _ _ ⟨rfl,rfl⟩;refine⟨_,rfl,λh1=>?_,λh1=>?_⟩
 .have:¬(0<=k/\k<n):=by
   rintro⟨h2,d⟩;simp[h2,d]at h1
  exact⟨by rw[yy,if_neg this],by rw[oV,if_neg this];exact h,.refl _ _⟩
 .have a:0<=k/\k<n:=by simpa using h1
  obtain⟨m,rfl⟩:=sS a.1;have e:m<n:=I
  refine⟨_,rfl,s1,h.aZ,(qt h.now (k:=m) I I).use ?_⟩;rintro _ _ ⟨rfl,rfl⟩;refine⟨_,rfl,λh2=>?_,λh2=>⟨_,rfl,s1,h.aZ,(KJ h.now (k:=m) I I).use ?_⟩⟩
  .have hf:f m=false:=by simpa using h2
   refine⟨by rw[yy,if_pos a,c2,hf];rfl,?_,.refl _ _⟩;rw[oV,if_pos a,c2,KQ hf];exact h
  .rintro _ w' ⟨rfl,i,hc⟩
   have hf:f m=true:=by simpa using h2
   refine⟨rfl,by rw[yy,if_pos a,c2,hf];rfl,?_,hc.mono λk _ c=>.inr (.inl c)⟩;rw[oV,if_pos a,c2];exact⟨h.bE.ah hc λj=>(h.d1 b j).1 rfl,i,h.sure.ah hc λk c h1=>(h.d1 k h1).2 c,h.d1,h.d2,h.b6,h.bx,EX h.pf e,h.c0⟩
theorem KR(h:fc w b n f g s1 s2)(k:Int):
 aH aj 153 #[.pointer (some b),k] w (λv w'=>v=.bool (decide (0<=k)&&decide (k<n)&&f k.toNat)/\w=w'):=by
 have c:=h.bx;refine ae.Ij _ k w _ ?_;(delta ae.tN bP ak al;dsimp only);refine(Bf h k).use ?_;rintro _ _ ⟨rfl,rfl⟩;refine⟨_,rfl,⟨λh1=>?_,λh1=>⟨by rw[h1];rfl,rfl⟩⟩⟩;have a:0<=k/\k<n:=by simpa using h1
 obtain⟨m,rfl⟩:=sS a.1;refine⟨_,rfl,s1,h.aZ,(qt h.now (k:=m) I I).use ?_⟩;rintro _ _ ⟨rfl,rfl⟩;exact⟨_,rfl,by rw[h1,c2];rfl,rfl⟩
theorem KS(h:fc w b n f g s1 s2)(k:Int):
 aH aj 229 #[.pointer (some b),k] w (λv w'=>v=.bool (decide (0<=k)&&decide (k<n)&&f k.toNat&& !(g k.toNat))/\w=w'):=by
 have c:=h.bx;refine ae.Iy _ k w _ ?_;(delta ae.tT bP ak al;dsimp only);refine(Bf h k).use ?_;rintro _ _ ⟨rfl,rfl⟩;refine⟨_,rfl,⟨λh1=>?_,λh1=>⟨(λh=>by cases h),λ_=>⟨by rw[h1];rfl,rfl⟩⟩⟩⟩;have a:0<=k/\k<n:=by simpa using h1
 obtain⟨m,rfl⟩:=sS a.1;refine⟨_,rfl,s1,h.aZ,(qt h.now (k:=m) I I).use ?_⟩;rintro _ _ ⟨rfl,rfl⟩;refine⟨_,rfl,λh2=>⟨_,rfl,s2,h.bo,(qt h.sure (k:=m) I I).use ?_⟩,λh2=>⟨by rw[h1,c2,h2];rfl,rfl⟩⟩;rintro _ _ ⟨rfl,rfl⟩;exact⟨_,rfl,by rw[h1,c2,h2];rfl,rfl⟩
end
theorem KT:ij aj 206 5 1 1:=⟨by kernel_rfl⟩
theorem E0:ij aj 39 5 1 1:=⟨by kernel_rfl⟩
theorem KU:ij aj 72 3 1 8:=⟨by kernel_rfl⟩
theorem KV(n:Nat):ig aj 5 n=(List.replicate n (.int .u8 0)).toArray:=C7 U3 U3 n
theorem E1(f:Nat->ao)(m:Nat):∀v∈e6 f m,Plain v:=by
 intro v a;obtain⟨i,_,rfl⟩:=eJ.1 a;trivial
theorem KW{xs:O aa}(h:Src 1 w s xs)(d:∀v∈xs,Plain v)(i:s.len<=1000000):
 aH aj 173 #[s] w (λv w'=>∃b:ad,v=b/\aR 1 5 w' b xs/\Ext w w'/\∀k,aD b k->w<=k):=by
 refine okF (ae.wx s) ax.wx func173 ?_;delta ae.wx an ak Y;refine⟨λc=>?_,λ_=>?_⟩
 .have c:s.a=none:=by simpa using c
  rw[h.nil c];exact⟨⟨none,0,0⟩,rfl,aR.none _ _ _,.refl _ _,λk e=>(fH k e).elim⟩
 .obtain⟨b,w',h1,h2,j,f,g,_⟩:=KT.clone (cB:=206) h d I
  exact⟨b,w',h1,b,rfl,h2,f,g⟩
theorem E2{xs:O aa}(h:Src 1 w s xs)(d:∀v∈xs,Plain v)(i:s.len<=1000000):
 aH aj 46 #[s] w (λv w'=>∃b:ad,v=b/\aR 1 5 w' b xs/\Ext w w'/\∀k,aD b k->w<=k):=by
 refine okF (ae.pJ s) ax.pJ func46 ?_;delta ae.pJ an ak Y;refine⟨λc=>?_,λ_=>?_⟩
 .have c:s.a=none:=by simpa using c
  rw[h.nil c];exact⟨⟨none,0,0⟩,rfl,aR.none _ _ _,.refl _ _,λk e=>(fH k e).elim⟩
 .obtain⟨b,w',h1,h2,j,f,g,_⟩:=E0.clone (cB:=39) h d I
  exact⟨b,w',h1,b,rfl,h2,f,g⟩
section
variable {w w':J}{b n:Nat}{f g:Nat->ao}{s1 s2:ad}
theorem yz(h:aR 1 T w s1 (e6 f m)):s1.len=m:=by
 have:=h.1;rw[Bd]at this;omega
theorem Bg{u:aa}(c:bu w b #[n,s1,u] 209)(h1:aR 1 5 w s1 (e6 f m))(hd:∀k,aD s1 k->k≠b)(g:m<=1000000):
 aH aj 112 #[.pointer (some b)] w (λv w'=>v=.tuple #[]/\∃a:ad,bu w' b #[n,s1,a] 209/\
  aR 1 5 w' s1 (e6 f m)/\aR 1 5 w' a (e6 f m)/\ag (λk=>k=b) w w'/\∀k,aD a k->w<=k):=by
 refine ae.H9 _ w _ ?_;(delta ae.tG an ak al bH st;dsimp only);refine⟨λ_=>⟨_,rfl,s1,by rw[aA,c.cell];rfl,(KW h1.src (E1 f m) (by rw[yz h1];exact g)).use ?_⟩,λh=>by simp at h⟩;rintro _ ai ⟨a,rfl,h2,hx,hf⟩;have d:=c.ext hx;have i:∀k,aD a k->k≠b:=λk j e=>U5 (hf k j) c.lt
 refine⟨a,rfl,_,rfl,⟨_,by rw[aA,d.cell];rfl⟩,d.frozen _ rfl,rfl,a,?_,?_,?_,?_,hf⟩
 .rw[aA];exact d.set 2 _
 .exact(h1.ext hx).ah (W:=λk=>k=b) (ag.set (.refl _ _) (λ_=>by rw[aA]) _) hd
 .exact h2.ah (W:=λk=>k=b) (ag.set (.refl _ _) (λ_=>by rw[aA]) _) i
 .exact(ag.cX hx).set (λ_=>by rw[aA]) _
theorem KX(h:fc w b n f g s1 s2):
 aH aj 112 #[.pointer (some b)] w (λv w'=>v=.tuple #[]/\∃c:ad,fc w' b n f f s1 c/\ag (gr b s1 s2) w w'/\∀k,gr b s1 c k->gr b s1 s2 k\/w<=k):=by
 have m:=h.bx;refine(Bg h.bE h.now (λk a=>(h.d1 k a).1) I).mono ?_;rintro _ w' ⟨rfl,c,h1,h2,i,j,d⟩;refine⟨rfl,c,⟨h1,h2,i,λk a=>⟨(h.d1 k a).1,λl=>?_⟩,λk a e=>?_,h.b6,h.bx,h.pf,h.pf⟩,j.mono λk _ a=>.inl a,λk a=>?_⟩
 .have:=d k l;have:=h.now.lt k a;omega
 .have:=d k a;have:=h.bE.lt;omega
 .obtain rfl|a|a:=a
  .exact .inl (.inl rfl)
  .exact .inl (.inr (.inl a))
  .exact .inr (d k a)
def sq(x:Nat):Nat:=(x.testBit 0).toNat+(x.testBit 1).toNat+(x.testBit 2).toNat+(x.testBit 3).toNat+(x.testBit 4).toNat+(x.testBit 5).toNat+(x.testBit 6).toNat+(x.testBit 7).toNat
def e1(t:Nat->ao):Nat->Nat
 |0=>0
 |k+1=>e1 t k+(t k).toNat
theorem nF(t:Nat->ao):∀k,e1 t k<=k
 |0=>bk _
 |k+1=>by have:=nF t k;have:=Bool.toNat_le (t k);simp only[e1];omega
theorem KY(t:Nat->ao)(i:Nat):e1 t (8*(i+1))=e1 t (8*i)+sq (byteOf t i):=by
 have h:∀j,j<8->(byteOf t i).testBit j=t (8*i+j):=λj a=>oU t i j a;unfold sq;rw[h 0 I,h 1 I,h 2 I,h 3 I,h 4 I,h 5 I,h 6 I,h 7 I];show e1 t (8*i+7+1)=_;simp only[e1,lU];omega
theorem E3(t:Nat->ao)(n:Nat)(h:∀i,n<=i->t i=false):∀k,e1 t (n+k)=e1 t n
 |0=>rfl
 |k+1=>by
  have:=E3 t n h k
  show e1 t (n+k)+(t (n+k)).toNat=_
  rw[this,h (n+k) I]
  rfl
theorem KZ:∀x:Nat,x<256->(y_ (ByteArray.mk #[0,1,1,2,1,2,2,3,1,2,2,3,2,3,3,4,1,2,2,3,2,3,3,4,2,3,3,4,3,4,4,5,1,2,2,3,2,3,3,4,2,3,3,4,3,4,4,5,2,3,3,4,3,4,4,5,3,4,4,5,4,5,5,6,1,2,2,3,2,3,3,4,2,3,3,4,3,4,4,5,2,3,3,4,3,4,4,5,3,4,4,5,4,5,5,6,2,3,3,4,3,4,4,5,3,4,4,5,4,5,5,6,3,4,4,5,4,5,5,6,4,5,5,6,5,6,6,7,1,2,2,3,2,3,3,4,2,3,3,4,3,4,4,5,2,3,3,4,3,4,4,5,3,4,4,5,4,5,5,6,2,3,3,4,3,4,4,5,3,4,4,5,4,5,5,6,3,4,4,5,4,5,5,6,4,5,5,6,5,6,6,7,2,3,3,4,3,4,4,5,3,4,4,5,4,5,5,6,3,4,4,5,4,5,5,6,4,5,5,6,5,6,6,7,3,4,4,5,4,5,5,6,4,5,5,6,5,6,6,7,4,5,5,6,5,6,6,7,5,6,6,7,6,7,7,8]) x).map (·.toNat)=some (sq x):=by decide+kernel
theorem E4(x:Nat):sq x<=8:=by
 unfold sq;have h:∀b:ao,b.toNat<=1:=Bool.toNat_le;have:=h (x.testBit 0);have:=h (x.testBit 1);have:=h (x.testBit 2);have:=h (x.testBit 3);have:=h (x.testBit 4);have:=h (x.testBit 5);have:=h (x.testBit 6);have:=h (x.testBit 7);omega
theorem K0(w:J)(x:Nat)(hx:x<256):aH aj 181 #[.int .u8 x] w (λv w'=>v=.int .i64 (sq x)/\w=w'):=by
 refine okF (ae.wy x) ax.wy func181 ?_;delta ae.wy ar;have h:=KZ x hx;refine⟨I,?_⟩
 cases a:y_ _ x with
 |none=>rw[a]at h;cases h
 |some y=>
  rw[a]at h;simp only[mq,Option.some.injEq]at h;refine⟨y,a,?_,rfl⟩;rw[h,bq I (U4 (E4 x))]
theorem K1(f g:Nat->ao)(i:Nat):byteOf f i|||byteOf g i=byteOf (λk=>f k||g k) i:=
 yx _ _ _ (Bc _ (k9 _ _) _ (k9 _ _)) λj a=>by rw[nW,oU _ _ _ a,oU _ _ _ a]
theorem Bh(h:fc w b n f g s1 s2):
 aH aj 129 #[.pointer (some b)] w (λv w'=>v=.int .i64 ((n:Int)-e1 (λi=>f i||g i) n)/\Ext w w'):=by
 have p:=h.bx;have q:=yz h.now;have s:=yz h.sure;refine ae.H_ _ w _ ?_;(delta ae.tH an ak r1 al aO cq bB ar;dsimp only);refine⟨λh1=>by simp at h1,λ_=>⟨_,rfl,n,h.b9,_,rfl,s1,h.aZ,λr i w'=>∃k:Nat,i=k/\k<=s1.len/\Ext w w'/\r=(n:Int)-e1 (λi=>f i||g i) (8*k),λ_ i _=>((s1.len:Int)-i).toNat,⟨0,rfl,I,.refl _ _,by simp[e1]⟩,?_⟩⟩;rintro _ _ w1 ⟨k,rfl,t,hx,rfl⟩;refine⟨λaI=>?_,λc=>?_⟩
 .have d:k<s1.len:=by simpa using aI
  have h1:=h.ext hx.drew;obtain⟨cH,aZ,j,u,_,_,_,l,_⟩:=h1.now.cell (qs f (i:=k) I);obtain⟨ck,bo,m,x,_,_,_,o,_⟩:=h1.sure.cell (qs g (i:=k) I);have a:∀b:Nat,(Addr.mk b 0 none).add (Int.toNat (k:Int)*1)=⟨b,k,none⟩:=λb=>by rw[f_,c2,aA,cA]
  refine⟨λ_=>False,_,rfl,by simp,s1,h1.aZ,_,j,I,by simp,_,by rw[a];exact l,_,rfl,by simp,s2,h1.bo,_,m,I,by simp,_,by rw[a];exact o,?_⟩;rw[KF _ _ (k9 _ _) (k9 _ _),K1];refine(K0 _ _ (k9 _ _)).use ?_;rintro _ _ ⟨rfl,rfl⟩;have:=E4 (byteOf (λi=>f i||g i) k);have:=nF (λi=>f i||g i) (8*k);refine⟨_,rfl,.refl _ _,?_⟩;rw[bq (n:=(n:Int)-_-_) I I,bq (n:=(k:Int)+1) I I];exact⟨⟨k+1,I,I,hx.drew,by rw[KY];omega⟩,(show((s1.len:Int)-((k:Int)+1)).toNat<((s1.len:Int)-(k:Int)).toNat from I)⟩
 .have d:k=s1.len:=by
   have:¬(k:Int)<s1.len:=by simpa using c
   omega
  refine⟨?_,hx⟩;have e:8*k=n+(8*k-n):=I
  rw[e,E3 _ _ (λi hi=>by simp[h.pf i hi,h.c0 i hi])]
def kK(f:Nat->ao):Nat->O Int
 |0=> []
 |k+1=>kK f k++(if f k then [(k:Int)] else [])
def nG(f:Nat->ao)(k:Nat):O aa:=(kK f k).map (.int .i64)
theorem E5(f:Nat->ao):∀k,(kK f k).length<=k
 |0=>bk _
 |k+1=>by have:=E5 f k;simp only[kK,cz];split<;>simp<;>omega
theorem K2(h:fc w b n f g s1 s2):
 aH aj 142 #[.pointer (some b)] w (λv w'=>∃s:ad,v=s/\aR 1 3 w' s (nG f n)/\Ext w w'/\∀k,aD s k->w<=k):=by
 have A:=h.bx;refine ae.Ie _ w _ ?_;(delta ae.tJ an ak r1 al bP wi Y ar;dsimp only);refine⟨λh1=>by simp at h1,λ_=>⟨_,rfl,n,h.b9,λs i w'=>∃k:Nat,i=k/\k<=n/\Ext w w'/\aR 1 3 w' s (nG f k)/\∀k,aD s k->w<=k,λ_ i _=>((n:Int)-i).toNat,
  ⟨0,rfl,I,.refl _ _,aR.none _ _ _,λk l=>(fH k l).elim⟩,?_⟩⟩
 rintro s _ w1 ⟨k,rfl,l,hx,c,d⟩;refine⟨λaI=>?_,λp=>?_⟩
 .have m:k<n:=by simpa using aI
  have h1:=h.ext hx;refine cc (λa w'=>Ext w w'/\aR 1 3 w' a (nG f (k+1))/\∀k,aD a k->w<=k) (λq o=>⟨_,rfl,s1,h1.aZ,(qt h1.now (k:=k) I I).use ?_⟩) ?_
  .rintro _ _ ⟨rfl,rfl⟩
   refine⟨_,rfl,λhf=>?_,λhf=>?_⟩
   .have hlen:s.len<=k:=by
     have:=c.1;have:=E5 f k;simp[nG]at*;omega
    obtain⟨a,w',h1,h2,B,r,t⟩:=KU.push (cB:=72) (xs:=[k]) rfl c (by simp[Plain]) I;refine⟨a,w',h1,o _ _ ⟨?_,?_,?_⟩⟩
    .exact((ag.cX hx).trans r).mono λk l u=>U4 (d k u)
    .simpa[nG,kK,hf] using h2
    .intro j e
     rcases t j e with e|e
     .exact d j e
     .have:=hx.size;omega
   .exact o _ _ ⟨hx,by simpa[nG,kK,hf] using c,d⟩
  .rintro a w' ⟨x,y,z⟩
   rw[bq I I];exact⟨⟨k+1,I,I,x,y,z⟩,(show((n:Int)-((k:Int)+1)).toNat<((n:Int)-(k:Int)).toNat from I)⟩
 .have m:k=n:=by
   have:¬(k:Int)<n:=by simpa using p
   omega
  subst m;exact⟨s,rfl,c,hx,d⟩
theorem E6(h:fc w b n f g s1 s2):
 aH aj 57 #[.pointer (some b)] w (λv w'=>∃s:ad,v=s/\aR 1 5 w' s (e6 f ((n+7)/8))/\Ext w w'/\∀k,aD s k->w<=k):=by
 have a:=h.bx;refine ae.H0 _ w _ ?_;(delta ae.tD ak al bH;dsimp only);refine⟨λh1=>by simp at h1,λ_=>⟨_,rfl,s1,h.aZ,(E2 h.now.src (E1 f _) (by rw[yz h.now];omega)).use ?_⟩⟩;rintro _ ai ⟨s,rfl,h2,hx,hf⟩;exact⟨s,rfl,s,rfl,h2,hx,hf⟩
end
theorem E7(w:J)(n:Int):aH aj 109 #[n] w (λv w'=>v=.bool (decide (1<=n/\n<=1600))/\w=w'):=by
 refine okF (ae.w_ n) ax.w_ func109 ?_;unfold ae.w_;refine⟨?_,rfl⟩;simp[Bool.decide_and]
theorem E8(w:J)(n:Nat)(a:n<=1600):aH aj 110 #[n] w (λv w'=>v=.int .i64 (((n+7)/8:Nat):Int)/\w=w'):=by
 refine okF (ae.xa n) ax.xa func110 ?_;delta ae.xa ar;refine⟨by decide,?_,rfl⟩;rw[bq (n:=(n:Int)+8) I I,bq (n:=(n:Int)+8-1) I I,show(n:Int)+8-1=((n+7:Nat):Int) from I,ET,bq I I]
theorem K3(m:Nat):e6 (λi=>decide (i<0)) m=List.replicate m (.int .u8 0):=by
 apply mw
 .simp[e6]
 .intro i h1 h2
  simp[e6,byteOf,mc]
theorem K4(j:Nat):dA (λi=>decide (i<j)) j true=λi=>decide (i<j+1):=by
 funext i;unfold dA;split
 .rename_i h;simp[h]
 .rename_i h;simp;omega
theorem rv(w:J)(n first:Int):
 aH aj 54 #[.int .i64 n,.int .i64 first] w (λv w'=>(¬(1<=n/\n<=1600/\0<=first/\first<=n)/\v=.tuple #[.pointer none,.int .i64 1]/\w=w')\/
  (1<=n/\n<=1600/\0<=first/\first<=n/\∃b s1 s2,v=.tuple #[.pointer (some ⟨b,0,none⟩),.int .i64 0]/\fc w' b n.toNat (λi=>decide (i<first.toNat)) (λi=>decide (i<first.toNat)) s1 s2/\Ext w w'/\∀k,gr b s1 s2 k->w<=k)):=by
 refine okF (ae.rv n first) ax.rv func54 ?_;(delta ae.rv an bP ak bB lE Y al fI ar;dsimp only);refine(E7 w n).use ?_;rintro _ _ ⟨rfl,rfl⟩;refine⟨_,rfl,λh=>.inl ⟨λhc=>?_,rfl,rfl⟩,λh=>?_⟩
 .simp at h;omega
 simp at h;obtain⟨⟨⟨E,F⟩,G⟩,H⟩:=h;obtain⟨n,rfl⟩:=sS (by omega:0<=n);obtain⟨first,rfl⟩:=sS (by omega:0<=first);refine(E8 w n I).use ?_;rintro _ _ ⟨rfl,rfl⟩;refine⟨_,rfl,I,?_⟩;simp only[c2];rw[KV];obtain⟨m,f⟩:=U6 ((n+7)/8);rw[←f];have l:=aR.new (sz:=1) (T:=5) w (List.replicate m (.int .u8 0)) m U9 (by show m<=2^63-1;omega);rw[←K3]at l⊢;have av:Ext w (w.alloc (.cells (e6 (λi=>decide (i<0)) m).toArray 5)):=ag.alloc (.refl _ _) _;generalize s:w.alloc (.cells (e6 (λi=>decide (i<0)) m).toArray 5)=w1 at*;have K:w1.heap.size=w+1:=by rw[←s];simp
 have t:=bu.new w1 #[.int .i64 (n:Int),.slice (some ⟨w,0,none⟩) m m,.slice none 0 0] 209;have u:=ag.alloc av (.cells #[.int .i64 (n:Int),.slice (some ⟨w,0,none⟩) m m,.slice none 0 0] 209);have x:=l.ext (ag.alloc (.refl _ w1) (.cells #[.int .i64 (n:Int),.slice (some ⟨w,0,none⟩) m m,.slice none 0 0] 209));refine⟨λi w'=>∃j:Nat,i=j/\j<=first/\Ext w w'/\bu w' w1.heap.size #[.int .i64 (n:Int),.slice (some ⟨w,0,none⟩) m m,.slice none 0 0] 209/\
  aR 1 5 w' ⟨some ⟨w,0,none⟩,m,m⟩ (e6 (λi=>decide (i<j)) m),λi _=>((first:Int)-i).toNat,⟨0,rfl,I,u,t,x⟩,?_⟩
 rintro _ ai ⟨j,rfl,L,hx,d,o⟩;refine⟨λaI=>?_,λy=>?_⟩
 .have p:j<first:=by simpa using aI
  refine⟨_,rfl,⟨some ⟨w,0,none⟩,m,m⟩,by rw[aA,d.cell];rfl,(EV o (k:=j) I I).use ?_⟩;rintro _ z ⟨rfl,q,hc⟩;rw[K4]at q;rw[bq I I];refine⟨rfl,⟨j+1,I,I,?_,d.ah hc ?_,q⟩,(show((first:Int)-((j:Int)+1)).toNat<((first:Int)-(j:Int)).toNat from I)⟩
  .exact((ag.cX hx).trans hc).mono λk a c=>by rw[jr]at c;simp at c;omega
  .intro c
   rw[jr]at c;simp at c;omega
 .have p:j=first:=by
   have:¬(j:Int)<first:=by simpa using y
   omega
  subst p;have r:∀i,n<=i->decide (i<j)=false:=λi hi=>by simp;omega
  refine(Bg d o (λk a e=>?_) I).use ?_
  .rw[jr]at a
   simp at a;omega
  rintro _ z ⟨rfl,A,h1,h2,B,C,g⟩;have M:=d.lt;refine⟨rfl,.inr ⟨I,I,I,I,w1.heap.size,⟨some ⟨w,0,none⟩,m,m⟩,A,rfl,⟨h1,?_,?_,λk a=>⟨λe=>?_,λD=>?_⟩,λk a e=>?_,I,I,r,r⟩,?_,?_⟩⟩
  .simp only[←f];exact h2
  .simp only[←f];exact B
  .rw[jr]at a
   simp at a;omega
  .rw[jr]at a
   simp at a;have:=g k D;omega
  .have:=g k a
   omega
  .exact((ag.cX hx).trans C).mono λk a e=>by omega
  .rintro k (rfl|a|a)
   .omega
   .rw[jr]at a
    simp at a;omega
   .have:=g k a
    have:=hx.size;omega
def bitsOf(ns:O Int)(i:Nat):ao:=((ns.getD (i/8) 0).toNat).testBit (i%8)
theorem E9(ns:O Int)(i:Nat)(h:8*ns.length<=i):bitsOf ns i=false:=by
 unfold bitsOf;have:ns.length<=i/8:=I
 simp[List.getD,m9 this]
theorem K5(ns:O Int)(h:∀n∈ns,0<=n/\n<=255):ns.map (Value.int .u8)=e6 (bitsOf ns) ns.length:=by
 apply mw
 .simp[e6]
 .intro i h1 h2
  have hi:i<ns.length:=by simpa using h1
  simp only[e6,vf,List.getElem_range]
  congr 1
  obtain⟨lJ,ay⟩:=h ns[i] (cJ hi);have:=yx (bitsOf ns) i ns[i].toNat I (λj c=>by
   unfold bitsOf;have a:(8*i+j)/8=i:=I
   have b:(8*i+j)%8=j:=I
   rw[a,b];simp[List.getD,hi])
  rw[←this];omega
theorem K6:∀x:Nat,x<256->∀j:Nat,j<8->decide (Int.fdiv (x:Int) (2^(min (Int.toNat (j:Int)) 8))>0)=(List.range 8).any (λk=>decide (j<=k)&&x.testBit k):=by decide+kernel
section
variable {w w':J}{b n:Nat}{f g:Nat->ao}{s1 s2:ad}
def qu(ns:O Int)(n:Nat):Prop:=ns.length=(n+7)/8/\∀i,n<=i->bitsOf ns i=false
theorem K7{ns:O Int}{n:Nat}(l:ns.length=(n+7)/8)(m:0<n%8){x:Nat}(hx:x<256)(a:ns[ns.length-1]? =some (x:Int)):
 decide (Int.fdiv (x:Int) (2^(min (Int.toNat ((n%8:Nat):Int)) 8))>0)=false↔∀i,n<=i->bitsOf ns i=false:=by
 rw[K6 x hx _ (hG _ I)];have f:ns.length-1=n/8:=I
 rw[f]at a;rw[qG];constructor
 .intro h i hi
  rcases dV i (8*ns.length) with c|c
  .have e:i/8=n/8:=I
   unfold bitsOf;rw[e];simp only[List.getD,a,sM,c2];have:=h (i%8) (jS.2 (hG _ I));have b:n%8<=i%8:=I
   simpa[b] using this
  .exact E9 ns i c
 .intro h k d
  have d:=jS.1 d;by_cases b:n%8<=k
  .have:=h (8*(n/8)+k) I
   unfold bitsOf at this;have g:(8*(n/8)+k)/8=n/8:=I
   have j:(8*(n/8)+k)%8=k:=I
   rw[g,j]at this;simp only[List.getD,a,sM,c2]at this;simp[this]
  .simp[b]
theorem rJ{ns:O Int}(hs:Src 1 w s (ns.map (.int .u8)))(m:∀n∈ns,(0:Int)<=n/\n<=255)(P:ns.length<=1000000)(n:Int):
 aH aj 138 #[.slice s.a s.len s.cap,.int .i64 n] w (λv w'=>Ext w w'/\((¬(1<=n/\n<=1600)/\v=.tuple #[.pointer none,.int .i64 1])\/
  (1<=n/\n<=1600/\¬qu ns n.toNat/\v=.tuple #[.pointer none,.int .i64 4])\/
  (1<=n/\n<=1600/\qu ns n.toNat/\∃b s1 s2,v=.tuple #[.pointer (some ⟨b,0,none⟩),.int .i64 0]/\fc w' b n.toNat (bitsOf ns) (bitsOf ns) s1 s2/\∀k,gr b s1 s2 k->w<=k))):=by
 have hlen:s.len=ns.length:=by have:=hs.len;simp at this;omega
 refine okF (ae.rJ s n) ax.rJ func138 ?_;(delta ae.rJ an bP ak bB ar cq bH fI Y;dsimp only);refine(E7 w n).use ?_;rintro _ _ ⟨rfl,rfl⟩;refine⟨_,rfl,λh=>⟨.refl _ _,.inl ⟨by simp at h;omega,rfl⟩⟩,λh=>?_⟩;have h:1<=n/\n<=1600:=by simpa using h
 obtain⟨n,rfl⟩:=sS (by omega:0<=n);simp only[c2];refine(E8 w n I).use ?_;rintro _ _ ⟨rfl,rfl⟩;refine⟨_,rfl,cc (λc w'=>(c=true↔¬qu ns n)/\w=w') (λq u=>⟨λf=>u _ _ ⟨?_,rfl⟩,λg=>⟨by decide,?_⟩⟩) ?_⟩
 .have f:¬ns.length=(n+7)/8:=by
   intro h;rw[hlen,h]at f;simp at f
  exact⟨λ_ hg=>f hg.1,λ_=>rfl⟩
 .have g:ns.length=(n+7)/8:=by
   simp only[bne_eq_false_iff_eq]at g;omega
  refine cc (λc w'=>(c=true↔¬qu ns n)/\w=w') (λQ y=>⟨λj=>?_,λj=>y _ _ ⟨?_,rfl⟩⟩) ?_
  .rw[uq]at j⊢
   have z:0<n%8:=by
    have:((n%8:Nat):Int)>0:=by simpa using j
    omega
   have o:ns.length-1<ns.length:=I
   obtain⟨x,F⟩:∃x:Nat,ns[ns.length-1]=(x:Int):=⟨ns[ns.length-1].toNat,U4 (m _ (cJ o))⟩;have G:x<256:=U4 (m _ (cJ o))
   have B:ns[ns.length-1]? =some (x:Int):=by rw[dR o,F]
   obtain⟨A,av,C,hc⟩:=hs.at (i:=ns.length-1) (v:=.int .u8 x) (by rw[mz,B];rfl);rw[hlen,bq I I,show(((ns.length:Nat):Int)-1)=((ns.length-1:Nat):Int) from I];rw[hlen]at C;refine⟨A,av,C,x,hc,by decide,I,y _ _ ⟨?_,rfl⟩⟩;have D:=K7 g z G B;constructor
   .intro ht hg
    have:=D.2 hg.2;rw[ht]at this;cases this
   .intro p
    cases hd:decide (Int.fdiv (x:Int) (2^(min (Int.toNat ((n%8:Nat):Int)) 8))>0) with
    |true=>rfl
    |false=>exact(p ⟨g,D.1 hd⟩).elim
  .rw[uq]at j
   have z:n%8=0:=by
    have:¬((n%8:Nat):Int)>0:=by simpa using j
    omega
   constructor
   .intro h;cases h
   .intro p
    exact(p ⟨g,λi hi=>E9 ns i I⟩).elim
  .rintro c _ ⟨hc,rfl⟩
   exact u _ _ ⟨hc,rfl⟩
 .rintro c _ ⟨hc,rfl⟩
  refine⟨λht=>⟨.refl _ _,.inr (.inl ⟨h.1,h.2,hc.1 ht,trivial⟩)⟩,λhf=>?_⟩;have hg:qu ns n:=by
   rcases Classical.em (qu ns n) with h|h
   .exact h
   .rw[hc.2 h]at hf;cases hf
  refine(E2 hs (Hw _ _) I).use ?_;rintro _ ai ⟨t,rfl,l,hx,H⟩;rw[K5 ns m,hg.1]at l;have J:=bu.new ai #[.int .i64 (n:Int),.slice t.a t.len t.cap,.slice none 0 0] 209;have E:Ext ai (ai.alloc (.cells #[.int .i64 (n:Int),.slice t.a t.len t.cap,.slice none 0 0] 209)):=ag.alloc (.refl _ _) _;have f:∀k,aD t k->k≠ai.heap.size:=λk d e=>U4 (l.lt k d)
  refine⟨t,rfl,(Bg J (l.ext E) f I).use ?_⟩;rintro _ R ⟨rfl,K,h1,h2,L,M,r⟩;have S:=hx.size;refine⟨rfl,?_,.inr (.inr ⟨h.1,h.2,hg,ai.heap.size,t,K,rfl,⟨h1,h2,L,λk d=>⟨f k d,λN=>?_⟩,λk d e=>?_,I,I,hg.2,hg.2⟩,?_⟩)⟩
  .exact((ag.cX (hx.trans E)).trans M).mono λk d e=>by omega
  .have:=r k N
   have:=l.lt k d;simp at*;omega
  .have:=r k d
   simp at this;omega
  .rintro k (rfl|d|d)
   .omega
   .exact H k d
   .have:=r k d
    simp at this;omega
end
structure Fr where
 full:ao
 gM:ao
 used:ao
 no:Int
 pins:Int
 b:ad
 l:c7
def Fr.c(f:Fr):O aa:=[f.full,f.gM,f.used,f.no,f.pins,f.b]
def dM:Fr:=⟨false,false,false,0,0,⟨none,0,0⟩,[]⟩
structure cn where
 c:Nat
 aU:Nat
 aw:O Fr
 hand:Nat
 D:a8
def du(C:cn)(q:Nat):Prop:=q=C.c\/q=C.aU\/b4 C.D q
structure fC(w:J)(C:cn):Prop where
 v:Var w C.c [.pointer (some C.D.d),.slice (some C.aU) C.aw.length C.aw.length,C.hand] 268
 f:bu w C.aU (bl Fr.c C.aw).toArray 275
 dev:cL w C.D
 b1:8<=C.aw.length
 cf:C.aw.length<=64
 hd:C.hand<C.aw.length
 a1:C.c≠C.aU/\¬b4 C.D C.c/\¬b4 C.D C.aU
structure E_(X:U1)(w:J)(C:cn)(f:Fr)(no:Nat):Prop where
 num:f.no=no
 lt:no<C.D.n
 qv:bI (λq=>¬du C q/\¬X q) w f.b f.l
 len:f.l.length=256
 clean:f.gM=false->f.l=C.D.now no
 cl:C.D.cl no=true->f.gM=false
 two:2<=no
structure g3(X:U1)(w:J)(C:cn):Prop where
 pins:∀f∈C.aw,f.pins=0
 ok:∀f∈C.aw,f.full=true->∃no:Nat,E_ X w C f no
 un:∀ (i j:Nat) (hi:i<C.aw.length) (a:j<C.aw.length),(C.aw[i]).full=true->(C.aw[j]).full=true->(C.aw[i]).no=(C.aw[j]).no->i=j
 fD:∀q,X q->q<w/\¬du C q
 oW:∀j,C.D.cl j=true->C.D.eQ j=C.D.eW j
def lL(aF D:a8):Prop:=aF.n=D.n/\(∀j,aF.cl j=true->D.cl j=true)/\∀j,aF.cl j=true->aF.eQ j=aF.eW j
theorem g3.ur{C:cn}(h:g3 X w C):lL C.D C.D:=⟨rfl,λ_ h=>h,h.oW⟩
theorem g3.cN{C:cn}(h:g3 X w C)(k:Nat):lL (C.D.cN k) C.D:=⟨rfl,λ_ h=>h,h.oW⟩
structure eu(X:U1)(w:J)(C:cn):Prop where
 raw:fC w C
 inv:g3 X w C
def cn.view(C:cn)(no:Nat):c7:=match C.aw.find? λf=>f.full&&f.no==(no:Int) with
 |some f=>f.l
 |none=>C.D.now no
theorem Fr.ba(f:Fr):f.c.length=6:=rfl
theorem yA(l:O Fr):∀x∈l,(Fr.c x).length=6:=λx _=>rfl
section
variable {w w':J}{C:cn}{X:U1}
theorem fC.lt(h:fC w C){q:Nat}(a:du C q):q<w:=by
 obtain rfl|rfl|a:=a
 .exact h.v.lt
 .exact bu.lt h.f
 .exact h.dev.lt a
theorem fC.ah(h:fC w C)(hc:ag W w w')(a:∀q,du C q->¬W q):fC w' C:=
 ⟨h.v.ah hc (a _ (.inl rfl)),bu.ah h.f hc (a _ (.inr (.inl rfl))),h.dev.ah hc λq b=>a q (.inr (.inr b)),h.b1,h.cf,h.hd,h.a1⟩
theorem fC.ext(h:fC w C)(hc:Ext w w'):fC w' C:=h.ah hc λ_ _ h=>h
theorem g3.ah(h:g3 X w C)(hc:ag W w w')(b:∀q,W q->du C q\/X q):g3 X w' C:=
 ⟨h.pins,λf hf c=>by
  obtain⟨no,ay,az,d,e,g,i,j⟩:=h.ok f hf c
  exact⟨no,ay,az,bI.ah d hc λq a k=>by
   rcases b q k with h1|h1
   .exact a.1 h1
   .exact a.2 h1,e,g,i,j⟩,h.un,λq a=>⟨fO (h.fD q a).1 hc.size,(h.fD q a).2⟩,h.oW⟩
theorem eu.ah(h:eu X w C)(hc:ag W w w')(b:∀q,W q->X q):eu X w' C:=
 ⟨h.raw.ah hc λq c a=>(h.inv.fD q (b q a)).2 c,h.inv.ah hc λq a=>.inr (b q a)⟩
theorem eu.ext(h:eu X w C)(hc:Ext w w'):eu X w' C:=h.ah hc λ_ h=>h.elim
theorem uu(aU i:Nat):Addr.add aU (Int.toNat (i:Int)*6)=⟨aU,i*6,none⟩:=by rw[c2,aA,cA]
theorem fC.cells(h:fC w C):w.cell? C.c=some (.pointer (some C.D.d))/\w.cell? (Addr.add C.c 1)=some (.slice (some C.aU) C.aw.length C.aw.length)/\w.cell? (Addr.add C.c 2)=some (.int .i64 C.hand):=by
 rw[aA,aA];exact⟨h.v.cell,h.v.cell,h.v.cell⟩
theorem k_{fs:O Fr}(h:bu w aU (bl Fr.c fs).toArray T)(hi:i<fs.length)(a:j<6):w.cell? ⟨aU,i*6+j,none⟩=((fs[i]).c)[j]? :=by
 rw[bu.cell h];simp only[sL];exact yq (yA fs) hi a
theorem oX{fs:O Fr}(h:bu w aU (bl Fr.c fs).toArray T)(hi:i<fs.length)(a:j<6){v:aa}(b:Fr)(hf:b.c=(fs[i]).c.set j v):
 (∃u:aa,w.cell? ⟨aU,i*6+j,none⟩=some u)/\w.frozen? ⟨aU,i*6+j,none⟩=false/\bu (w.setCell ⟨aU,i*6+j,none⟩ v) aU (bl Fr.c (fs.set i b)).toArray T/\ag (λq=>q=aU) w (w.setCell ⟨aU,i*6+j,none⟩ v):=by
 refine⟨⟨((fs[i]).c)[j]'(by rw[Fr.ba];exact a),by rw[k_ h hi a,dR (by rw[Fr.ba];exact a)]⟩,bu.frozen h _ rfl,?_,dU _ _ _ _⟩;have:=eE (vs:=bl Fr.c fs) h (i:=i*6+j) v;rw[Ke (yA fs) hi a hf]at this;exact this
theorem Bi{fs:O Fr}(h:bu w aU (bl Fr.c fs).toArray T)(hi:i<fs.length)(a:Fr):
 bp w ⟨aU,i*6,none⟩ a.c/\bu (setCells w ⟨aU,i*6,none⟩ 0 a.c) aU (bl Fr.c (fs.set i a)).toArray T/\ag (λq=>q=aU) w (setCells w ⟨aU,i*6,none⟩ 0 a.c):=by
 have f:=e5 (c:=Fr.c) fs (yA fs);have d:i*6+a.c.length<=(bl Fr.c fs).toArray.size:=by
  rw[ve,f,Fr.ba];omega
 refine⟨bu.ct h _ _ d ?_,?_,ag.kA (.refl _ _) _ 0⟩
 .intro v b
  unfold Fr.c at b;simp only[cZ,e2,e_]at b;rcases b with rfl|rfl|rfl|rfl|rfl|rfl<;>trivial
 .have h0:=bu.kB (o:=i*6) h a.c
  have e:gV (bl Fr.c fs).toArray (i*6) a.c=(bl Fr.c (fs.set i a)).toArray:=by
   have h1:=l1 a.c (bl Fr.c fs).toArray (i*6) d;have h2:=Ey (yA fs) hi a;have g:a.c.length=6:=rfl;rw[g]at h1;have j:(gV (bl Fr.c fs).toArray (i*6) a.c).toList=bl Fr.c (fs.set i a):=h1.trans h2;rw[←j]
  rw[e]at h0;exact h0
theorem Fa(h:fC w C)(no:Int):aH aj 204 #[.pointer (some C.c),no] w (λv w'=>v=.bool (decide (0<=no/\no<C.D.n))/\w=w'):=by
 refine okF (ae.xA (some C.c) no) ax.xA func204 ?_;delta ae.xA ak bB;refine cc (λb w'=>b=decide (0<=no/\no<C.D.n)/\w=w') (λq d=>⟨λa=>⟨_,rfl,_,h.cells.1,(sj h.dev).use ?_⟩,λa=>d _ _ ⟨?_,rfl⟩⟩) ?_
 .rintro _ _ ⟨rfl,rfl⟩
  have a:0<=no:=by simpa using a
  refine⟨_,rfl,d _ _ ⟨?_,rfl⟩⟩;rw[eG,b8,b8];exact⟨λh=>⟨a,h⟩,λh=>h.2⟩
 .have a:¬0<=no:=by simpa using a
  rw[gS (λh=>a h.1)]
 .rintro _ _ ⟨rfl,rfl⟩
  exact⟨rfl,rfl⟩
def AtR(C:cn)(no:Int)(v:aa):Prop:=
 (∃ (i:Nat) (hi:i<C.aw.length),v=.pointer (some ⟨C.aU,i*6,none⟩)/\(C.aw[i]).full=true/\(C.aw[i]).no=no)\/
 (v=.pointer none/\∀f∈C.aw,f.full=true->f.no≠no)
theorem yB(h:fC w C)(no:Int):aH aj 180 #[.pointer (some C.c),no] w (λv w'=>AtR C no v/\w=w'):=by
 obtain⟨b9,aZ,bo⟩:=h.cells;have d:=h.cf;refine okF (ae.xv (some C.c) no) ax.xv func180 ?_;(delta ae.xv ak al aO aW r1 ar;dsimp only);refine⟨nofun,λ_=>⟨_,rfl,⟨some C.aU,C.aw.length,C.aw.length⟩,aZ,λi w'=>∃j:Nat,i=j/\j<=C.aw.length/\w=w'/\∀ (k:Nat) (d:k<C.aw.length),k<j->(C.aw[k]).full=true->(C.aw[k]).no≠no,λi _=>((C.aw.length:Int)-i).toNat,⟨0,rfl,cI _,rfl,λk _ h=>I⟩,?_⟩⟩;rintro _ _ ⟨j,rfl,s,rfl,g⟩;refine⟨λaI=>?_,λe=>?_⟩
 .have aI:(j:Int)<(C.aw.length:Int):=b2 aI
  have aI:j<C.aw.length:=I
  refine⟨_,rfl,⟨some C.aU,C.aw.length,C.aw.length⟩,aZ,_,rfl,⟨I,by show(j:Int)<(C.aw.length:Int);omega⟩,_,rfl,?_⟩;rw[uu];have f0:=k_ h.f aI (j:=0) (by decide);have f3:=k_ h.f aI (j:=3) (by decide);refine⟨(C.aw[j]).full,f0,cc (λb w'=>w=w'/\(b=true↔((C.aw[j]).full=true/\(C.aw[j]).no=no))) (λq l=>⟨λa=>⟨_,rfl,(C.aw[j]).no,f3,l _ _ ⟨rfl,?_⟩⟩,λa=>l _ _ ⟨rfl,?_⟩⟩) ?_⟩
  .rw[kq]
   exact⟨λh=>⟨a,h⟩,λh=>h.2⟩
  .rw[a]
   exact⟨nofun,λh=>(by cases h.1)⟩
  rintro b w' ⟨rfl,a⟩;refine⟨λh1=>⟨.inl ⟨j,aI,rfl,(a.1 h1).1,(a.1 h1).2⟩,rfl⟩,λh1=>?_⟩;rw[bq (n:=(j:Int)+1) I I];refine⟨⟨j+1,I,I,rfl,λk d h2 m=>?_⟩,?_⟩
  .rcases dV k j with o|o
   .exact g k d o m
   .have:k=j:=I
    subst this;intro p;rw[a.2 ⟨m,p⟩]at h1;cases h1
  .show((C.aw.length:Int)-((j:Int)+1)).toNat<((C.aw.length:Int)-(j:Int)).toNat
   omega
 .have e:j=C.aw.length:=by
   have:¬((j:Int)<(C.aw.length:Int)):=cr e;omega
  subst e;refine⟨.inr ⟨rfl,λf hf r=>?_⟩,rfl⟩;obtain⟨k,d,rfl⟩:=fe hf;exact g k d d r
theorem K8(h:fC w C):aH aj 250 #[.pointer (some C.c)] w (λv w'=>((∃ (i:Nat) (hi:i<C.aw.length),v=.pointer (some ⟨C.aU,i*6,none⟩)/\(C.aw[i]).full=false)\/(v=.pointer none/\∀f∈C.aw,f.full=true))/\w=w'):=by
 obtain⟨b9,aZ,bo⟩:=h.cells;have a:=h.cf;refine okF (ae.xJ (some C.c)) ax.xJ func250 ?_;(delta ae.xJ al ak aO aW ar;dsimp only);refine⟨_,rfl,⟨some C.aU,C.aw.length,C.aw.length⟩,aZ,λi w'=>∃j:Nat,i=j/\j<=C.aw.length/\w=w'/\∀ (k:Nat) (a:k<C.aw.length),k<j->(C.aw[k]).full=true,λi _=>((C.aw.length:Int)-i).toNat,⟨0,rfl,cI _,rfl,λk _ h=>I⟩,?_⟩;rintro _ _ ⟨j,rfl,l,rfl,e⟩;refine⟨λaI=>?_,λb=>?_⟩
 .have aI:(j:Int)<(C.aw.length:Int):=b2 aI
  have aI:j<C.aw.length:=I
  have f0:=k_ h.f aI (j:=0) (by decide);refine⟨_,rfl,⟨some C.aU,C.aw.length,C.aw.length⟩,aZ,_,rfl,⟨I,by show(j:Int)<(C.aw.length:Int);omega⟩,(C.aw[j]).full,by rw[uu];exact f0,λd=>⟨_,rfl,⟨some C.aU,C.aw.length,C.aw.length⟩,aZ,_,rfl,⟨I,by show(j:Int)<(C.aw.length:Int);omega⟩,.inl ⟨j,aI,by rw[uu],by simpa using d⟩,rfl⟩,λd=>?_⟩;rw[bq (n:=(j:Int)+1) I I];refine⟨⟨j+1,I,I,rfl,λk a h2=>?_⟩,?_⟩
  .rcases dV k j with g|g
   .exact e k a g
   .have:k=j:=I
    subst this;simpa using d
  .show((C.aw.length:Int)-((j:Int)+1)).toNat<((C.aw.length:Int)-(j:Int)).toNat
   omega
 .have b:j=C.aw.length:=by
   have:¬((j:Int)<(C.aw.length:Int)):=cr b;omega
  subst b;refine⟨.inr ⟨rfl,λf hf=>?_⟩,rfl⟩;obtain⟨k,a,rfl⟩:=fe hf;exact e k a a
def iL(fs gs:O Fr):Prop:=gs.length=fs.length/\∀ (i:Nat) (h1:i<fs.length) (h2:i<gs.length),gs[i]={fs[i] with used:=(gs[i]).used}
theorem iL.refl(fs:O Fr):iL fs fs:=⟨rfl,λi h1 h2=>rfl⟩
theorem iL.set{fs gs:O Fr}(h:iL fs gs)(hi:i<gs.length)(u:ao):iL fs (gs.set i {gs[i] with used:=u}):=by
 refine⟨by rw[dp];exact h.1,λj h1 h2=>?_⟩;rw[o_];split
 .rename_i e
  subst e;have:=h.2 i h1 hi;rw[this]
 .exact h.2 j h1 _
theorem K9(h:fC w C)(A:∀f∈C.aw,f.pins=0):aH aj 251 #[.pointer (some C.c)] w (λv w'=>∃ (i:Nat) (gs:O Fr) (hd:Nat),i<C.aw.length/\v=.pointer (some ⟨C.aU,i*6,none⟩)/\iL C.aw gs/\fC w' {C with aw:=gs,hand:=hd}/\ag (λq=>q=C.c\/q=C.aU) w w'):=by
 obtain⟨b9,aZ,bo⟩:=h.cells;have P:=h.b1;have Q:=h.cf;have B:=h.hd;refine okF (ae.xK (some C.c)) ax.xK func251 ?_;(delta ae.xK r1 al ak ar aO aW st;dsimp only);refine⟨_,rfl,_,bo,_,rfl,⟨some C.aU,C.aw.length,C.aw.length⟩,aZ,λat' i w'=>∃ (s:Nat) (gs:O Fr),i=s/\s<=C.aw.length/\at'=(((C.hand+s)%C.aw.length:Nat):Int)/\iL C.aw gs/\fC w' {C with aw:=gs}/\ag (λq=>q=C.c\/q=C.aU) w w'/\∀ (t:Nat) (hx:(C.hand+t)%C.aw.length<gs.length),t<s->(gs[(C.hand+t)%C.aw.length]).used=false,
  λ_ i _=>(2*(C.aw.length:Int)-i).toNat,⟨0,C.aw,rfl,cI _,by rw[lU,kr B],iL.refl _,h,.refl _ _,λt _ h=>I⟩,?_⟩
 rintro _ _ w1 ⟨s,gs,rfl,hs,rfl,l,b,hc,p⟩;have r:gs.length=C.aw.length:=l.1;obtain⟨i,hi⟩:=U6 ((C.hand+s)%C.aw.length);have d:i<gs.length:=by rw[hi,r];exact hG _ I
 rw[←hi];obtain⟨d0,d1,d2⟩:=b.cells;have d1:w1.cell? (Addr.add C.c 1)=some (.slice (some C.aU) gs.length gs.length):=d1;have hf:bu w1 C.aU (bl Fr.c gs).toArray 275:=b.f;rw[bq (n:=2*(C.aw.length:Int)) I I];have D:IntKind.wrap .i64 ((i:Int)+1)=((i+1:Nat):Int):=by rw[bq I I];rfl
 have u:Int.tmod ((i+1:Nat):Int) (gs.length:Int)=(((i+1)%gs.length:Nat):Int):=by
  rw[o7 I];rfl
 have E:(i+1)%gs.length=(C.hand+(s+1))%C.aw.length:=by
  rw[hi,r,Nat.mod_add_mod];rfl
 refine⟨λaI=>?_,λF=>?_⟩
 .refine cc (λa w'=>a=(((C.hand+(s+1))%C.aw.length:Nat):Int)/\∃g:O Fr,s+1<=C.aw.length/\iL C.aw g/\fC w' {C with aw:=g}/\ag (λq=>q=C.c\/q=C.aU) w w'/\∀ (t:Nat) (hx:(C.hand+t)%C.aw.length<g.length),t<s+1->(g[(C.hand+t)%C.aw.length]).used=false) (λq k=>⟨_,rfl,⟨some C.aU,gs.length,gs.length⟩,d1,_,rfl,⟨I,by show(i:Int)<(gs.length:Int);omega⟩,_,rfl,⟨some C.aU,gs.length,gs.length⟩,d1,by show(gs.length:Int)≠0;omega,_,rfl,?_⟩) ?_
  .rw[uu,D]
   have f4:=k_ hf d (j:=4) (by decide);have f2:=k_ hf d (j:=2) (by decide);have G:(gs[i]).pins=0:=by
    have h1:=l.2 i I d;have h2:(gs[i]).pins=(C.aw[i]'I).pins:=by rw[h1]
    rw[h2];exact A _ (cJ _)
   refine⟨(gs[i]).pins,f4,λx=>?_,λ_=>⟨_,rfl,(gs[i]).used,f2,λhu=>⟨_,rfl,?_⟩,λhu=>⟨_,rfl,?_⟩⟩⟩
   .rw[G]at x;simp at x
   .have H:s<C.aw.length:=by
     rcases dV s C.aw.length with h1|h1
     .exact h1
     .have es:s=C.aw.length:=I
      have y:(C.hand+0)%C.aw.length=i:=by rw[hi,es,Nat.add_mod_right];rfl
      have h2:=p 0 (y▸d) I;have m:(gs[i]).used=false:=by
       have e:gs[(C.hand+0)%C.aw.length]'(y▸d)=gs[i]:=by congr 1
       rw[←e];exact h2
      rw[m]at hu;cases hu
    obtain⟨ay,az,J,o⟩:=oX hf d (j:=2) (by decide) (v:=false) {gs[i] with used:=false} rfl;rw[aA];refine⟨ay,az,aT (k _ _ ⟨by rw[u,E],gs.set i {gs[i] with used:=false},H,l.set d false,?_,hc.trans (o.mono λq _ e=>.inr e),λt hx ht=>?_⟩)⟩
    .have K:=b.v.ah o h.a1.1
     refine⟨?_,J,b.dev.ah o (λq k e=>h.a1.2.2 (e▸k)),?_,?_,?_,h.a1⟩
     .show Var _ _ [_,.slice (some C.aU) (gs.set i _).length (gs.set i _).length,_] _
      rw[dp];exact K
     .show 8<=(gs.set i _).length;rw[dp];omega
     .show(gs.set i _).length<=64;rw[dp];omega
     .show C.hand<(gs.set i _).length;rw[dp];omega
    .rw[o_]
     split
     .rfl
     .rename_i L
      rcases dV t s with h1|h1
      .exact p t _ h1
      .have:t=s:=I
       subst this;exact absurd hi L
   .obtain⟨s1,s2⟩:=ez b.v (i:=2) U9
    rw[aA,u];refine⟨s1,s2,aT ⟨i,gs,(i+1)%gs.length,I,rfl,l,?_,hc.trans ((dU _ _ _ _).mono λq _ e=>.inl e)⟩⟩;have z:=dU w1 C.c 2 (.int .i64 (((i+1)%gs.length:Nat):Int));refine⟨eE b.v (i:=2) (.int .i64 (((i+1)%gs.length:Nat):Int)),bu.ah hf z (λe=>h.a1.1 e.symm),b.dev.ah z (λq k e=>h.a1.2.1 (e▸k)),b.b1,b.cf,?_,h.a1⟩;exact hG _ I
  .rintro a w' ⟨rfl,g,h1,h2,m,M,N⟩
   rw[bq (n:=(s:Int)+1) I I];refine⟨⟨s+1,g,I,h1,rfl,h2,m,M,N⟩,?_⟩;show(2*(C.aw.length:Int)-((s:Int)+1)).toNat<(2*(C.aw.length:Int)-(s:Int)).toNat;omega
 .have:=cr F
  omega
end
structure eR(C aM:cn)(w w':J)(k:Nat):Prop where
 c:aM.c=C.c
 d:aM.D.d=C.D.d
 len:aM.aw.length=C.aw.length
 bJ:aM.D.key=C.D.key
 aX:aM.D.aX<=C.D.aX+k
 calm:∀m,C.D.calm (m+k)->aM.D.calm m
 ah:ag (du C) w w'
 c1:∀q,du aM q->du C q\/w<=q
theorem eR.refl(C:cn)(w:J):eR C C w w 0:=⟨rfl,rfl,rfl,rfl,bk _,λ_ h=>h,.refl _ _,λ_ h=>.inl h⟩
theorem eR.ext(C:cn)(h:Ext w w'):eR C C w w' 0:=⟨rfl,rfl,rfl,rfl,bk _,λ_ h=>h,ag.cX h,λ_ h=>.inl h⟩
theorem eR.trans{C aM a:cn}{b:J}{l:Nat}(h1:eR C aM w w' k)(h2:eR aM a w' b l):eR C a w b (k+l):=by
 have hs:=h1.ah.size;refine⟨h2.c.trans h1.c,h2.d.trans h1.d,h2.len.trans h1.len,h2.bJ.trans h1.bJ,U5 h1.aX h2.aX,λm f=>h2.calm m (h1.calm (m+l) (by rw[show m+l+k=m+(k+l) from I];exact f)),cE h1.ah h2.ah λq e h=>(h1.c1 q h).resolve_right I,λq e=>?_⟩;rcases h2.c1 q e with h|h
 .exact h1.c1 q h
 .exact .inr I
theorem eR.mono{C aM:cn}{l:Nat}(h:eR C aM w w' k)(b:k<=l):eR C aM w w' l:=
 ⟨h.c,h.d,h.len,h.bJ,U4 h.aX,λm a=>h.calm m (gq a I),h.ah,h.c1⟩
theorem eR.cl{C aM:cn}(h:eR C aM w w' k):aM.D.cl=C.D.cl:=congrArg (λk:(O c7×(Nat->ao)×(Nat->O c7)×(Int->Prop)×ao)×Int=>k.1.2.1) h.bJ
theorem eR.qw{C aM:cn}(h:eR C aM w w' k):aM.D.cl=C.D.cl/\aM.D.eW=C.D.eW:=⟨h.cl,congrArg (λk:(O c7×(Nat->ao)×(Nat->O c7)×(Int->Prop)×ao)×Int=>k.1.2.2.1) h.bJ⟩
theorem eR.n{C aM:cn}(h:eR C aM w w' k):aM.D.n=C.D.n:=congrArg (λk:(O c7×(Nat->ao)×(Nat->O c7)×(Int->Prop)×ao)×Int=>k.1.1.length) h.bJ
section
variable {w w':J}{C:cn}{X:U1}
theorem nH{fs:O Fr}{c:Nat}(un:∀ (i j:Nat) (hi:i<fs.length) (d:j<fs.length),(fs[i]).full=true->(fs[j]).full=true->(fs[i]).no=(fs[j]).no->i=j)(hi:i<fs.length)(hf:(fs[i]).full=true)(e:(fs[i]).no=no):(cn.mk c aU fs hd D).view no=(fs[i]).l:=by
 unfold cn.view
 cases a:fs.find? λf=>f.full&&f.no==(no:Int) with
 |none=>
  have:=jX.1 a _ (cJ hi);simp[hf,e]at this
 |some f=>
  have g:=jY a;have b:=kR a;simp only[dg,kq]at b;obtain⟨j,d,rfl⟩:=fe g;have:=un i j hi d hf b.1 (by rw[e,b.2]);subst this;simp only
theorem nI{fs:O Fr}{c:Nat}(h:∀f∈fs,f.full=true->f.no≠no):(cn.mk c aU fs hd D).view no=D.now no:=by
 unfold cn.view
 cases b:fs.find? λf=>f.full&&f.no==(no:Int) with
 |none=>rfl
 |some f=>
  have d:=jY b;have a:=kR b;simp only[dg,kq]at a;exact absurd a.2 (h f d a.1)
theorem yC(D:a8)(k i:Nat):(D.cN k).now i=D.now i:=rfl
theorem bI.re{B b:U1}{t:ad}{l:Key}(h:bI B w t l)(hc:ag V w w')(c:∀q,q<w.heap.size->B q->¬V q)(d:∀q,q<w.heap.size->B q->b q):bI b w' t l:=
 ⟨h.1.ah hc λq a=>c q (h.2.2 q a).2 (h.2.2 q a).1,h.2.1,λq a=>⟨d q (h.2.2 q a).2 (h.2.2 q a).1,fO (h.2.2 q a).2 hc.size⟩⟩
theorem uv{gs:O Fr}(h:g3 X w C)(hs:iL C.aw gs)(hc:ag V w w')(eN:∀q,q<w.heap.size->V q->du C q)(m:lL aF C.D)(u:∀i,aF.now i=C.D.now i)(v:∀q,b4 aF q->b4 C.D q\/w<=q):g3 X w' {C with aw:=gs,hand:=hd,D:=aF}:=by
 have x:=hc.size;have r:∀q,q<w.heap.size->du {C with aw:=gs,hand:=hd,D:=aF} q->du C q:=λq a hf=>by
  obtain h1|h1|h1:=hf
  .exact .inl h1
  .exact .inr (.inl h1)
  .exact .inr (.inr ((v q h1).resolve_right I))
 have g:∀ (i:Nat) (hi:i<gs.length),∃c:i<C.aw.length,gs[i]={C.aw[i] with used:=(gs[i]).used}:=λi hi=>⟨by rw[←hs.1];exact hi,hs.2 i (hs.1▸hi) hi⟩;refine⟨λf hf=>?_,λf hf y=>?_,λi j hi z h1 h2 A=>?_,λq a=>⟨fO (h.fD q a).1 x,λhf=>(h.fD q a).2 (r q (h.fD q a).1 hf)⟩,m.2.2⟩
 .obtain⟨i,hi,rfl⟩:=fe hf
  obtain⟨c,e⟩:=g i hi;have:(gs[i]).pins=(C.aw[i]).pins:=by rw[e]
  rw[this];exact h.pins _ (cJ c)
 .obtain⟨i,hi,rfl⟩:=fe hf
  obtain⟨c,e⟩:=g i hi;have n:(gs[i]).full=(C.aw[i]).full:=by rw[e]
  have o:(gs[i]).no=(C.aw[i]).no:=by rw[e]
  have p:(gs[i]).b=(C.aw[i]).b:=by rw[e]
  have d:(gs[i]).l=(C.aw[i]).l:=by rw[e]
  have s:(gs[i]).gM=(C.aw[i]).gM:=by rw[e]
  obtain⟨no,ay,az,B,E,F,G,H⟩:=h.ok _ (cJ c) (n▸y);refine⟨no,by rw[o];exact ay,by rw[m.1];exact az,?_,by rw[d];exact E,λhd=>by rw[d,u];exact F (s▸hd),λhs=>by rw[s];exact G (m.2.1 _ hs),H⟩;rw[p,d];exact bI.re B hc (λq a k J=>k.1 (eN q a J)) λq a k=>⟨λhf=>k.1 (r q a hf),k.2⟩
 .obtain⟨c,e⟩:=g i hi
  obtain⟨K,t⟩:=g j z;have n:(gs[i]).full=(C.aw[i]).full:=by rw[e]
  have o:(gs[i]).no=(C.aw[i]).no:=by rw[e]
  have p:(gs[j]).full=(C.aw[j]).full:=by rw[t]
  have d:(gs[j]).no=(C.aw[j]).no:=by rw[t]
  exact h.un i j c K (n▸h1) (p▸h2) (by rw[←o,←d];exact A)
theorem uw{gs:O Fr}(h:g3 X w C)(hs:iL C.aw gs)(r:∀i,aF.now i=C.D.now i)(no:Nat):(cn.mk C.c C.aU gs hd aF).view no=C.view no:=by
 have d:∀ (i:Nat) (hi:i<gs.length),∃g:i<C.aw.length,gs[i]={C.aw[i] with used:=(gs[i]).used}:=λi hi=>⟨by rw[←hs.1];exact hi,hs.2 i (hs.1▸hi) hi⟩;by_cases hex:∃ (i:Nat) (hi:i<C.aw.length),(C.aw[i]).full=true/\(C.aw[i]).no=no
 .obtain⟨i,hi,h1,h2⟩:=hex
  have n:i<gs.length:=by rw[hs.1];exact hi
  obtain⟨g,e⟩:=d i n;have k:(gs[i]).full=(C.aw[i]).full:=by rw[e]
  have m:(gs[i]).no=(C.aw[i]).no:=by rw[e]
  have s:(gs[i]).l=(C.aw[i]).l:=by rw[e]
  have t:∀ (i j:Nat) (hi:i<gs.length) (A:j<gs.length),(gs[i]).full=true->(gs[j]).full=true->(gs[i]).no=(gs[j]).no->i=j:=by
   intro a b u v b1 cf x;obtain⟨y,o⟩:=d a u;obtain⟨z,p⟩:=d b v;have f1:(gs[a]).full=(C.aw[a]).full:=by rw[o]
   have f2:(gs[a]).no=(C.aw[a]).no:=by rw[o]
   have f3:(gs[b]).full=(C.aw[b]).full:=by rw[p]
   have f4:(gs[b]).no=(C.aw[b]).no:=by rw[p]
   exact h.un a b y z (f1▸b1) (f3▸cf) (by rw[←f2,←f4];exact x)
  rw[nH t n (k▸h1) (m▸h2),s];exact(nH (fs:=C.aw) (D:=C.D) (c:=C.c) (aU:=C.aU) (hd:=C.hand) h.un hi h1 h2).symm
 .have q:∀f∈C.aw,f.full=true->f.no≠no:=λf hf h1 h2=>by
   obtain⟨i,hi,rfl⟩:=fe hf;exact hex ⟨i,hi,h1,h2⟩
  have e:C.view no=C.D.now no:=nI (fs:=C.aw) (D:=C.D) (c:=C.c) (aU:=C.aU) (hd:=C.hand) q;rw[e,←r];refine nI λf hf h1 h2=>?_;obtain⟨i,hi,rfl⟩:=fe hf;obtain⟨g,e⟩:=d i hi;have k:(gs[i]).full=(C.aw[i]).full:=by rw[e]
  have m:(gs[i]).no=(C.aw[i]).no:=by rw[e]
  exact q _ (cJ g) (k▸h1) (m▸h2)
theorem Bj(hi:i<C.aw.length)(h:g3 X w C)(hc:ag V w w')(eN:∀q,q<w.heap.size->V q->du C q)(l:lL aF C.D)
 (t:∀j:Nat,((C.aw[i]).full=true->(C.aw[i]).no≠j)->aF.now j=C.D.now j) (u:∀q,b4 aF q->b4 C.D q\/w<=q) (f0:Fr) (m:f0.full=false) (v:f0.pins=0):g3 X w' {C with aw:=C.aw.set i f0,D:=aF}:=by
 have x:=hc.size;have o:∀q,q<w.heap.size->du {C with aw:=C.aw.set i f0,D:=aF} q->du C q:=λq c hf=>by
  obtain h1|h1|h1:=hf
  .exact .inl h1
  .exact .inr (.inl h1)
  .exact .inr (.inr ((u q h1).resolve_right I))
 refine⟨λf hf=>?_,λf hf d=>?_,λa b y g h1 h2 n=>?_,λq c=>⟨fO (h.fD q c).1 x,λhf=>(h.fD q c).2 (o q (h.fD q c).1 hf)⟩,l.2.2⟩
 .rcases m_ hf with hf|rfl
  .exact h.pins f hf
  .exact v
 .obtain⟨k,z,rfl⟩:=fe hf
  have p:k<C.aw.length:=by simpa using z
  by_cases e:i=k
  .subst e
   simp only[iY]at d;rw[m]at d;cases d
  .simp only[fQ e]at d⊢
   obtain⟨no,ay,az,A,B,E,F,G⟩:=h.ok _ (cJ p) d;refine⟨no,ay,by rw[l.1];exact az,bI.re A hc (λq c g H=>g.1 (eN q c H)) λq c g=>⟨λhf=>g.1 (o q c hf),g.2⟩,B,λhd=>?_,λhs=>F (l.2.1 _ hs),G⟩;show _=aF.now no;rw[t no λJ he=>e (h.un i k hi p J d (by rw[he,ay]))];exact E hd
 .have K:a<C.aw.length:=by simpa using y
  have L:b<C.aw.length:=by simpa using g
  by_cases r:i=a
  .subst r
   simp only[iY]at h1;rw[m]at h1;cases h1
  by_cases s:i=b
  .subst s
   simp only[iY]at h2;rw[m]at h2;cases h2
  simp only[fQ r]at h1 n;simp only[fQ s]at h2 n;exact h.un a b K L h1 h2 n
theorem Fb(hi:i<C.aw.length)(h:g3 X w C)(v:(C.aw[i]).full=true->∀j:Nat,(C.aw[i]).no=j->aF.now j=(C.aw[i]).l)(x:∀j:Nat,((C.aw[i]).full=true->(C.aw[i]).no≠j)->aF.now j=C.D.now j)(f0:Fr)(m:f0.full=false)(no:Nat):
 (cn.mk C.c C.aU (C.aw.set i f0) hd aF).view no=C.view no:=by
 by_cases hex:∃ (k:Nat) (g:k<C.aw.length),(C.aw[k]).full=true/\(C.aw[k]).no=no
 .obtain⟨k,g,h1,h2⟩:=hex
  have o:=nH (fs:=C.aw) (D:=C.D) (c:=C.c) (aU:=C.aU) (hd:=C.hand) h.un g h1 h2;have o:C.view no=(C.aw[k]).l:=o;rw[o];by_cases e:i=k
  .subst e
   rw[←v h1 no h2];refine nI λf hf ay az=>?_;obtain⟨a,n,rfl⟩:=fe hf;have p:a<C.aw.length:=by simpa using n
   by_cases d:i=a
   .subst d
    simp only[iY]at ay;rw[m]at ay;cases ay
   .simp only[fQ d]at ay az
    exact d (h.un i a hi p h1 ay (by rw[h2,az]))
  .have y:k<(C.aw.set i f0).length:=by simpa using g
   have q:(C.aw.set i f0)[k]=C.aw[k]:=fQ e _;have z:∀ (a b:Nat) (n:a<(C.aw.set i f0).length) (t:b<(C.aw.set i f0).length),((C.aw.set i f0)[a]).full=true->((C.aw.set i f0)[b]).full=true->((C.aw.set i f0)[a]).no=((C.aw.set i f0)[b]).no->a=b:=by
    intro a b n t h1 h2 r;have p:a<C.aw.length:=by simpa using n
    have A:b<C.aw.length:=by simpa using t
    by_cases d:i=a
    .subst d
     simp only[iY]at h1;rw[m]at h1;cases h1
    by_cases u:i=b
    .subst u
     simp only[iY]at h2;rw[m]at h2;cases h2
    simp only[fQ d]at h1 r;simp only[fQ u]at h2 r;exact h.un a b p A h1 h2 r
   rw[nH z y (q▸h1) (q▸h2),q]
 .have s:∀f∈C.aw,f.full=true->f.no≠no:=λf hf h1 h2=>by
   obtain⟨k,g,rfl⟩:=fe hf;exact hex ⟨k,g,h1,h2⟩
  have e:C.view no=C.D.now no:=nI (fs:=C.aw) (D:=C.D) (c:=C.c) (aU:=C.aU) (hd:=C.hand) s;rw[e,←x no λh1 h2=>s _ (cJ hi) h1 h2];refine nI λf hf h1 h2=>?_;rcases m_ hf with hf|rfl
  .exact s f hf h1 h2
  .rw[m]at h1;cases h1
theorem Fc{C:cn}(h:g3 X w C)(hs:¬C.D.cl no=true):lL (C.D.put no s l) C.D:=
 ⟨rfl,λ_ h=>h,λj a=>by
  have a:C.D.cl j=true:=a
  rw[EF,if_neg λe=>hs (by rw[←e];exact a)];exact h.oW j a⟩
theorem Fe(D:a8)(hs:¬D.cl no=true):(D.put no s l).key=D.key:=by
 have h1:=sk D (k:=2) (.inr rfl);unfold a8.key at h1⊢;have h2:(D.put no s l).k7=D.k7:=by
  funext n;exact propext ⟨λ_ h=>absurd (h no) hs,λ_ h=>absurd (h no) hs⟩
 rw[h2];have a:=congrArg Prod.snd h1;show((D.bJ,D.cl,D.eW,D.k7,D.r1),(D.cN 2).cu.getD 3 0)=_;have a:(D.cN 2).cu.getD 3 0=D.cu.getD 3 0:=a;rw[a]
def Ff(X:U1)(C:cn)(w:J)(v:aa)(w':J):Prop:=
 ∃aM:cn,eu X w' aM/\eR C aM w w' 1/\aM.aU=C.aU/\(∀j,aM.view j=C.view j)/\(∀f∈aM.aw,f.full=true->∃g∈C.aw,g.full=true/\g.no=f.no)/\
  ((∃ (i:Nat) (hi:i<aM.aw.length),v=.tuple #[.pointer (some ⟨C.aU,i*6,none⟩),U8]/\(aM.aw[i]).full=false/\((aM.aw[i]).pins=0))\/
   (v=.tuple #[.pointer none,(3:Int)]/\¬C.D.calm 1))
theorem Fg(h:eu X w C)(aq:C.D.aX<=1000000000):aH aj 205 #[.pointer (some C.c)] w (Ff X C w):=by
 have T:=h.raw;refine okF (ae.xB (some C.c)) ax.xB func205 ?_;(delta ae.xB iD ak aW r1 al bB;dsimp only);refine(K8 T).use ?_;rintro _ _ ⟨he,rfl⟩;obtain⟨i,hi,rfl,hf⟩|⟨rfl,ar⟩:=he
 .exact⟨_,rfl,λ_=>⟨C,h,(eR.refl C w).mono (cI _),rfl,λ_=>rfl,λf hf H=>⟨f,hf,H,rfl⟩,.inl ⟨i,hi,rfl,hf,h.inv.pins _ (cJ hi)⟩⟩,nofun⟩
 refine⟨_,rfl,nofun,λ_=>(K9 T h.inv.pins).use ?_⟩;rintro _ w1 ⟨i,gs,hd,hi,rfl,z,r,av⟩;have U:i<gs.length:=by rw[z.1];exact hi
 have L:ag (du C) w w1:=av.mono λq _ n=>by
  obtain n|n:=n
  .exact .inl n
  .exact .inr (.inl n)
 have E:=uv (hd:=hd) (aF:=C.D) h.inv z L (λq _ h=>h) h.inv.ur (λ_=>rfl) λq n=>.inl n;have P:=uw (hd:=hd) (aF:=C.D) h.inv z λ_=>rfl;obtain⟨a,F⟩:∃a:cn,a={C with aw:=gs,hand:=hd}:=⟨_,rfl⟩;have E:g3 X w1 a:=by rw[F];exact E
 have r:fC w1 a:=by rw[F];exact r
 have P:∀no,a.view no=C.view no:=by rw[F];exact P
 have W:∀q,du a q↔du C q:=by rw[F];exact λq=>Iff.rfl
 have o:a.D=C.D:=by rw[F]
 have p:a.c=C.c/\a.aU=C.aU:=by rw[F];exact⟨rfl,rfl⟩
 have I:a.aw=gs:=by rw[F]
 have A:i<a.aw.length:=by rw[I];exact U
 have R:(a.aw[i]).full=true:=by
  have e:=z.2 i hi U;have:(gs[i]).full=(C.aw[i]).full:=by rw[e]
  simp only[I];rw[this];exact ar _ (cJ hi)
 have Y:∀f∈a.aw,f.full=true->∃g∈C.aw,g.full=true/\g.no=f.no:=by
  rw[I];intro f hf H;obtain⟨k,Z,rfl⟩:=fe hf;have aa:k<C.aw.length:=by rw[←z.1];exact Z
  have e:=z.2 k aa Z;have aB:(gs[k]).full=(C.aw[k]).full:=by rw[e]
  have aC:(gs[k]).no=(C.aw[k]).no:=by rw[e]
  exact⟨C.aw[k],cJ aa,by rw[←aB];exact H,aC.symm⟩
 obtain⟨no,ay,az,ab,aD,aE,aG⟩:=E.ok _ (cJ A) R;have f1:=k_ r.f A (j:=1) (by decide)
 have fin:∀ (ai:J) (aF:a8),ag (du C) w1 ai->fC ai {a with D:=aF}->eR C {a with D:=aF} w ai 1->lL aF C.D->(∀j:Nat,(a.aw[i]).no≠j->aF.now j=C.D.now j)->(∀j:Nat,(a.aw[i]).no=j->aF.now j=(a.aw[i]).l)->(∀q,b4 aF q->b4 C.D q\/w1<=q)->
  ∃fa:af,(some ⟨C.aU,i*6,none⟩:au af)=some fa/\bp ai fa [false,false,false,U8,U8,()]/\(6:Nat)=6/\an (setCells ai fa 0 [false,false,false,U8,U8,()]) λaI=>Ff X C w (.tuple #[.pointer (some ⟨C.aU,i*6,none⟩),U8]) aI:=by
  intro ai aF aJ t B aK ac aL K;have aM:bu ai a.aU (bl Fr.c a.aw).toArray 275:=t.f;obtain⟨s1,s2,M⟩:=Bi aM A dM;rw[p.2]at s1 s2 M;have aN:g3 X (setCells ai ⟨C.aU,i*6,none⟩ 0 dM.c) {a with aw:=a.aw.set i dM,D:=aF}:=by
   refine Bj (V:=du C) (w:=w1) A E (aJ.trans (M.mono λq _ e=>.inr (.inl e))) (λq _ n=>(W q).2 n) (o▸aK) (λj u=>by rw[o];exact ac j λe=>u R e) (λq n=>by rw[o];exact K q n) dM rfl rfl
  have aO:=t.v;refine⟨_,rfl,s1,rfl,aT ⟨{a with aw:=a.aw.set i dM,D:=aF},⟨?_,aN⟩,?_,p.2,λj=>?_,λf hf H=>?_,.inl ⟨i,by show i<(a.aw.set i dM).length;rw[dp];exact A,rfl,by simp[dM],by simp[dM]⟩⟩⟩
  .have aP:a.c≠C.aU:=by have:=t.a1.1;rw[←p.2];exact this
   refine⟨?_,by show bu _ a.aU _ _;rw[p.2];exact s2,t.dev.ah M (λq n e=>t.a1.2.2 (by rw[show({a with D:=aF}:cn).aU=a.aU from rfl,p.2,←e];exact n)),?_,?_,?_,t.a1⟩
   .have:=aO.ah M aP
    show Var _ _ [_,.slice _ (a.aw.set i dM).length (a.aw.set i dM).length,_] _;rw[dp];exact this
   .show 8<=(a.aw.set i dM).length;rw[dp];exact t.b1
   .show(a.aw.set i dM).length<=64;rw[dp];exact t.cf
   .show a.hand<(a.aw.set i dM).length;rw[dp];exact t.hd
  .refine⟨B.c,B.d,by show(a.aw.set i dM).length=_;rw[dp];exact B.len,B.bJ,B.aX,B.calm,B.ah.trans (M.mono λq _ e=>.inr (.inl e)),B.c1⟩
  .rw[←P]
   exact Fb A E (λ_ j u=>aL j u) (λj u=>by rw[o];exact ac j λe=>u R e) dM rfl j
  .rcases m_ hf with hf|rfl
   .exact Y f hf H
   .cases H
 refine⟨_,rfl,nofun,λ_=>j2 (λai=>∃aF:a8,ag (du C) w1 ai/\fC ai {a with D:=aF}/\eR C {a with D:=aF} w ai 1/\lL aF C.D/\(∀j:Nat,(a.aw[i]).no≠j->aF.now j=C.D.now j)/\(∀j:Nat,(a.aw[i]).no=j->aF.now j=(a.aw[i]).l)/\(∀q,b4 aF q->b4 C.D q\/w1<=q)) (λq n=>⟨_,rfl,(a.aw[i]).gM,?_,λaQ=>?_,λaR=>n _ ⟨C.D,.refl _ _,?_,?_,h.inv.ur,λ_ _=>rfl,λj u=>?_,λq h=>.inl h⟩⟩) ?_⟩
 .rw[aA,←p.2];exact f1
 .
  have Q:=cw w1;have y:=r.ext Q;obtain⟨ad,_,_⟩:=y.cells;rw[p.1,o]at ad;have f3:=k_ y.f A (j:=3) (by decide);have f5:=k_ y.f A (j:=5) (by decide);rw[p.2]at f3 f5;refine aT ⟨_,rfl,id,_,ad,_,rfl,id,(no:Int),?_,_,rfl,id,(a.aw[i]).b,f5,?_⟩
  .rw[aA,f3]
   show some (Value.int .i64 (a.aw[i]).no)=_;rw[ay]
  have aS:cL w1.drew C.D:=by rw[←o];exact y.dev
  have am:¬C.D.cl no=true:=λhs=>by
   have:=aG (o▸hs);rw[aQ]at this;cases this
  refine(yu aS (i:=no) (o▸az) aq (ab.1.ext Q) aD λq n hf=>(ab.2.2 q n).1.1 (.inr (.inr (o▸hf)))).use ?_;rintro v2 ai aV;obtain⟨ao,rfl,S,G⟩|⟨ao,rfl,s,S,G,aY⟩:=aV
  .have N:ag (du C) w1 ai:=(ag.cX Q).trans (G.mono λq _ e=>.inr (.inr (.inl e)))
   refine⟨3,rfl,λ_=>⟨{a with D:=C.D.cN 2},⟨?_,?_⟩,?_,p.2,λj=>?_,Y,.inr ⟨rfl,λaZ=>?_⟩⟩,nofun⟩
   .have t:=y.v.ah G (λe=>y.a1.2.1 (.inl (o▸e)))
    rw[o]at t;have ap:=r.a1;rw[o]at ap;exact⟨t,bu.ah y.f G (λe=>y.a1.2.2 (.inl (o▸e))),S,r.b1,r.cf,r.hd,ap⟩
   .have:=uv (C:=a) (hd:=a.hand) (aF:=C.D.cN 2) E (iL.refl _) N (λq _ n=>(W q).2 n) (by rw[o];exact h.inv.cN 2) (λj=>by rw[o];rfl) λq n=>.inl (o▸n)
    exact this
   .refine⟨p.1,rfl,by show a.aw.length=_;rw[I];exact z.1,sk C.D (.inr rfl),Nat.le_succ _,λm O=>(kI (.inr rfl) h.raw.dev.f4 O).1,L.trans N,λq n=>.inl ?_⟩
    obtain e|e|e:=n
    .exact .inl (p.1▸e)
    .exact .inr (.inl (p.2▸e))
    .exact .inr (.inr e)
   .rw[←P]
    exact uw (C:=a) E (iL.refl _) (λj=>by rw[o];rfl) j
   .have:=(kI (k:=2) (m:=0) (.inr rfl) h.raw.dev.f4 aZ).2
    rw[ao]at this;cases this
  .have N:ag (du C) w1 ai:=(ag.cX Q).trans (G.mono λq _ e=>.inr (.inr e))
   have K:∀q,b4 (C.D.put no s (a.aw[i]).l) q->b4 C.D q\/w1<=q:=by
    rintro q (e|e|e|⟨x,hx,e⟩)
    .exact .inl (.inl e)
    .exact .inl (.inr (.inl e))
    .exact .inl (.inr (.inr (.inl e)))
    .rcases cZ.1 hx with rfl|hx
     .exact aY q e
     .exact .inl (.inr (.inr (.inr ⟨x,(gw.1 hx).1,e⟩)))
   have dd:∀q,b4 C.D q->q≠a.c/\q≠a.aU:=λq n=>⟨λe=>r.a1.2.1 (by rw[o,←e];exact n),λe=>r.a1.2.2 (by rw[o,←e];exact n)⟩;refine⟨0,rfl,nofun,λ_=>n _ ⟨C.D.put no s (a.aw[i]).l,N,?_,?_,Fc h.inv am,λj u=>?_,λj u=>?_,K⟩⟩
   .have t:=y.v.ah G (λe=>(dd _ e).1 rfl)
    rw[o]at t;have a0:a.c<w1.heap.size:=r.v.lt;have a6:a.aU<w1.heap.size:=bu.lt r.f;refine⟨t,bu.ah y.f G (λe=>(dd _ e).2 rfl),S,r.b1,r.cf,r.hd,r.a1.1,λe=>?_,λe=>?_⟩
    .rcases K _ e with h1|h1
     .exact(dd _ h1).1 rfl
     .have:a.c<w1.heap.size:=a0
      have h1:w1.heap.size<=a.c:=h1;omega
    .rcases K _ e with h1|h1
     .exact(dd _ h1).2 rfl
     .have h1:w1.heap.size<=a.aU:=h1
      omega
   .refine⟨p.1,rfl,by show a.aw.length=_;rw[I];exact z.1,Fe C.D am,bk _,λm O=>(kI (.inr rfl) h.raw.dev.f4 O).1,L.trans N,λq n=>?_⟩
    obtain e|e|e:=n
    .exact .inl (.inl (p.1▸e))
    .exact .inl (.inr (.inl (p.2▸e)))
    .rcases K q e with h1|h1
     .exact .inl (.inr (.inr h1))
     .exact .inr (eO L.size h1)
   .rw[qo,if_neg (λe=>u (by rw[ay,e]))]
   .rw[qo,if_pos (by rw[ay]at u;omega)]
 .rw[←o];exact r
 .refine⟨p.1,rfl,by show a.aw.length=_;rw[I];exact z.1,rfl,Nat.le_succ _,λm O=>gq O (Nat.le_succ _),L,λq n=>.inl ?_⟩
  obtain e|e|e:=n
  .exact .inl (p.1▸e)
  .exact .inr (.inl (p.2▸e))
  .exact .inr (.inr e)
 .have:no=j:=by rw[ay]at u;omega
  subst this;rw[←o];exact(aE aR).symm
 .rintro ai ⟨aF,a1,a2,a3,a4,a5,dw,dj⟩
  exact fin ai aF a1 a2 a3 a4 a5 dw dj
end
def ux(fs:O Fr):Prop:=∀ (i j:Nat) (hi:i<fs.length) (a:j<fs.length),(fs[i]).full=true->(fs[j]).full=true->(fs[i]).no=(fs[j]).no->i=j
theorem Fh{fs gs:O Fr}{c c' g h:Nat}(n:ux fs)(o:ux gs)(h1:∀ (i:Nat) (hi:i<fs.length),(fs[i]).full=true->(fs[i]).no=j->∃ (k:Nat) (a:k<gs.length),(gs[k]).full=true/\(gs[k]).no=j/\(gs[k]).l=(fs[i]).l)
 (h2:(∀f∈fs,f.full=true->f.no≠j)->(∀f∈gs,f.full=true->f.no≠j)/\aF.now j=D.now j):(cn.mk c' g gs h aF).view j=(cn.mk c aU fs hd D).view j:=by
 by_cases hex:∃ (k:Nat) (a:k<fs.length),(fs[k]).full=true/\(fs[k]).no=j
 .obtain⟨k,a,ay,az⟩:=hex
  obtain⟨m,p,b,d,q⟩:=h1 k a ay az;rw[nH n a ay az,nH o p b d,q]
 .have e:∀f∈fs,f.full=true->f.no≠j:=λf hf h1 h2=>by
   obtain⟨k,a,rfl⟩:=fe hf;exact hex ⟨k,a,h1,h2⟩
  obtain⟨b,d⟩:=h2 e;rw[nI e,nI b,d]
section
variable {w w':J}{C:cn}{X:U1}
theorem Bk(hi:i<C.aw.length)(h:g3 X w C)(hc:ag V w w')(eN:∀q,q<w.heap.size->V q->du C q)(r:lL aF C.D)(A:∀j,aF.now j=C.D.now j)(B:∀q,b4 aF q↔b4 C.D q)
 (d:Fr) (O:d.full=true) (E:d.pins=0) (s:E_ X w' {C with aw:=C.aw.set i d,D:=aF} d no) (t:∀ (k:Nat) (u:k<C.aw.length),k≠i->(C.aw[k]).full=true->(C.aw[k]).no≠no):g3 X w' {C with aw:=C.aw.set i d,D:=aF}:=by
 have F:=hc.size;have v:∀q,du {C with aw:=C.aw.set i d,D:=aF} q->du C q:=λq hf=>by
  obtain h1|h1|h1:=hf
  .exact .inl h1
  .exact .inr (.inl h1)
  .exact .inr (.inr ((B q).1 h1))
 refine⟨λf hf=>?_,λf hf x=>?_,λa b G g h1 h2 c=>?_,λq o=>⟨fO (h.fD q o).1 F,λhf=>(h.fD q o).2 (v q hf)⟩,r.2.2⟩
 .rcases m_ hf with hf|rfl
  .exact h.pins f hf
  .exact E
 .obtain⟨k,u,rfl⟩:=fe hf
  have H:k<C.aw.length:=by simpa using u
  by_cases e:i=k
  .subst e
   simp only[iY];exact⟨no,s⟩
  .simp only[fQ e]at x⊢
   obtain⟨m,ay,az,I,J,K,L,M⟩:=h.ok _ (cJ H) x;exact⟨m,ay,by show m<aF.n;rw[r.1];exact az,bI.re I hc (λq o g N=>g.1 (eN q o N)) λq _ g=>⟨λhf=>g.1 (v q hf),g.2⟩,J,λhd=>by show _=aF.now m;rw[A];exact K hd,λhs=>L (r.2.1 _ hs),M⟩
 .have y:a<C.aw.length:=by simpa using G
  have z:b<C.aw.length:=by simpa using g
  by_cases p:i=a
  .by_cases l:i=b
   .omega
   .subst p
    simp only[iY]at c;simp only[fQ l]at h2 c;exact absurd (c▸s.num) (t b z (λe=>l e.symm) h2)
  .by_cases l:i=b
   .subst l
    simp only[iY]at c;simp only[fQ p]at h1 c;exact absurd (c▸s.num) (t a y (λe=>p e.symm) h1)
   .simp only[fQ p]at h1 c
    simp only[fQ l]at h2 c;exact h.un a b y z h1 h2 c
theorem K_(hi:i<C.aw.length)(h:ux C.aw)(g:Fr)(j:g.no=no)(l:∀ (k:Nat) (q:k<C.aw.length),k≠i->(C.aw[k]).full=true->(C.aw[k]).no≠no):ux (C.aw.set i g):=by
 intro a b o p h1 h2 c;have m:a<C.aw.length:=by simpa using o
 have n:b<C.aw.length:=by simpa using p
 by_cases f:i=a
 .by_cases d:i=b
  .omega
  .subst f
   simp only[iY]at c;simp only[fQ d]at h2 c;exact absurd (c▸j) (l b n (λe=>d e.symm) h2)
 .by_cases d:i=b
  .subst d
   simp only[iY]at c;simp only[fQ f]at h1 c;exact absurd (c▸j) (l a m (λe=>f e.symm) h1)
  .simp only[fQ f]at h1 c
   simp only[fQ d]at h2 c;exact h a b m n h1 h2 c
theorem Bl(hi:i<C.aw.length)(h:ux C.aw)(m:∀j,aF.now j=C.D.now j)(a:Fr)(n:a.full=true)(b:a.no=no)(hold:(C.aw[i]).full=true->(C.aw[i]).no=no)(o:∀ (k:Nat) (g:k<C.aw.length),k≠i->(C.aw[k]).full=true->(C.aw[k]).no≠no)(j:Nat):
 (cn.mk C.c C.aU (C.aw.set i a) hd aF).view j=if j=no then a.l else C.view j:=by
 have hu:=K_ hi h a b o;have p:i<(C.aw.set i a).length:=by simpa using hi
 by_cases e:j=no
 .subst e
  rw[if_pos rfl,nH hu p (by simp[n]) (by simpa using b)];simp
 .rw[if_neg e]
  refine Fh (fs:=C.aw) (D:=C.D) (c:=C.c) (aU:=C.aU) (hd:=C.hand) h hu (λk g ay az=>?_) λq=>⟨λf hf ay az=>?_,m j⟩
  .have d:i≠k:=λr=>by
    subst r;have:=hold ay;rw[az]at this;exact e I
   have s:k<(C.aw.set i a).length:=by simpa using g
   exact⟨k,s,by simp only[fQ d];exact ay,by simp only[fQ d];exact az,by simp only[fQ d]⟩
  .rcases m_ hf with hf|rfl
   .exact q f hf ay az
   .rw[b]at az
    exact e I
def La(X:U1)(C:cn)(no:Nat)(w:J)(v:aa)(w':J):Prop:=
 ∃aM:cn,eu X w' aM/\eR C aM w w' 2/\(∀j,aM.view j=C.view j)/\
  ((∃s:ad,v=.tuple #[s,U8]/\bI (λq=>w<=q/\¬du aM q/\¬X q) w' s (C.view no))\/(v=.tuple #[(),(3:Int)]/\¬C.D.calm 2))
theorem Lb(h:eu X w C)(a5:C.D.aX<=999999999)(aD:no<C.D.n)(aE:2<=no):aH aj 222 #[.pointer (some C.c),no] w (La X C no w):=by
 have r:=h.raw;refine okF (ae.xE (some C.c) (no:Int)) ax.xE func222 ?_;(delta ae.xE bP ak iD st al bH hO dH;dsimp only);refine(Fa r _).use ?_;rintro _ _ ⟨rfl,rfl⟩;refine⟨_,rfl,λF=>?_,λ_=>(yB r _).use ?_⟩
 .have:decide (0<=(no:Int)/\(no:Int)<C.D.n)=true:=dh ⟨I,I⟩
  rw[this]at F;cases F
 rintro _ _ ⟨aG,rfl⟩;obtain⟨i,hi,rfl,hf,aI⟩|⟨rfl,aJ⟩:=aG
 .
  obtain⟨ay,az,M,J⟩:=oX r.f hi (j:=2) (by decide) (v:=true) {C.aw[i] with used:=true} rfl;have ab:iL C.aw (C.aw.set i {C.aw[i] with used:=true}):=(iL.refl C.aw).set hi true;have K:ag (du C) w (w.setCell ⟨C.aU,i*6+2,none⟩ true):=J.mono λq _ e=>.inr (.inl e);have hinv:=uv (hd:=C.hand) (aF:=C.D) h.inv ab K (λq _ h=>h) h.inv.ur (λ_=>rfl) λq p=>.inl p;have aK:=uw (hd:=C.hand) (aF:=C.D) h.inv ab λ_=>rfl;obtain⟨w1,ac⟩:=U6 (w.setCell ⟨C.aU,i*6+2,none⟩ true);rw[←ac]at M J K hinv;have N:fC w1 {C with aw:=C.aw.set i {C.aw[i] with used:=true}}:=by
   refine⟨?_,M,r.dev.ah J (λq p e=>r.a1.2.2 (e▸p)),?_,?_,?_,r.a1⟩
   .have:=r.v.ah J r.a1.1
    show Var _ _ [_,.slice _ (C.aw.set i _).length (C.aw.set i _).length,_] _;rw[dp];exact this
   .show 8<=(C.aw.set i _).length;rw[dp];exact r.b1
   .show(C.aw.set i _).length<=64;rw[dp];exact r.cf
   .show C.hand<(C.aw.set i _).length;rw[dp];exact r.hd
  obtain⟨a,O⟩:∃a:cn,a={C with aw:=C.aw.set i {C.aw[i] with used:=true}}:=⟨_,rfl⟩;have P:eu X w1 a:=by rw[O];exact⟨N,hinv⟩
  have dW:i<(C.aw.set i {C.aw[i] with used:=true}).length:=by simpa using hi
  have f5:=k_ M dW (j:=5) (by decide);obtain⟨m,b1,cf,ad,af,a6,a7,a8⟩:=hinv.ok ((C.aw.set i {C.aw[i] with used:=true})[i]) (cJ dW) (by simp[hf]);have aL:((C.aw.set i {C.aw[i] with used:=true})[i]).b=(C.aw[i]).b:=by simp
  have am:((C.aw.set i {C.aw[i] with used:=true})[i]).l=(C.aw[i]).l:=by simp
  rw[aL,am]at ad;rw[am]at af;refine⟨_,rfl,λ_=>⟨_,rfl,ay,az,?_⟩,nofun⟩;rw[aA,←ac];refine aT ⟨_,rfl,(C.aw[i]).b,by rw[aA,f5];simp[Fr.c],(mP (B:=λq=>w1<=q) ad.1 (by rw[af];omega) (λq p=>p)).use ?_⟩;rintro _ ai ⟨s,rfl,hs,an,_⟩;have aM:C.view no=(C.aw[i]).l:=nH (fs:=C.aw) (D:=C.D) (c:=C.c) (aU:=C.aU) (hd:=C.hand) h.inv.un hi hf aI;have aN:=K.size;refine⟨s,rfl,a,P.ext an,?_,?_,.inl ⟨s,rfl,?_⟩⟩
  .rw[O]
   exact⟨rfl,rfl,by show(C.aw.set i _).length=_;rw[dp],rfl,Nat.le_add_right _ _,λm Q=>gq Q I,K.trans (ag.cX an),λq p=>.inl p⟩
  .intro j;rw[O];exact aK j
  .rw[aM]
   refine bI.bg hs λq _ p=>⟨I,λhf=>?_,λG=>?_⟩
   .have:=P.raw.lt hf;omega
   .have:=(P.inv.fD q G).1;omega
 .
  refine⟨_,rfl,nofun,λ_=>(Fg h I).use ?_⟩;rintro _ w1 ⟨a,o,y,A,H,aO,N⟩;obtain⟨i,hi,rfl,aP,a9⟩|⟨rfl,aQ⟩:=N
  .refine⟨_,_,rfl,λh=>(by simp at h),λ_=>⟨_,rfl,some C.D.d,?_,?_⟩⟩
   .have:=o.raw.cells.1
    rw[y.c,y.d]at this;exact this
   have R:no<a.D.n:=by rw[y.n];exact aD
   have a_:=y.aX;rw[←y.d];refine(A8 o.raw.dev R I).use ?_;rintro v2 ai ⟨ao,L,aR⟩;have ap:=λq=>o.raw.lt (q:=q);have S:ag (du a) w1 ai:=L.mono λq _ e=>.inr (.inr (.inl e))
   have T:∀f∈a.aw,f.full=true->f.no≠no:=λf hf aS aV=>by
    obtain⟨g,hg,h1,h2⟩:=aO f hf aS;exact aJ g hg h1 (by rw[h2,aV])
   have aW:a.D.calm 1\/¬C.D.calm 2:=by
    rcases Classical.em (C.D.calm 2) with h1|h1
    .exact .inl (y.calm 1 h1)
    .exact .inr h1
   have aq:a.view no=a.D.now no:=nI (fs:=a.aw) (D:=a.D) (c:=a.c) (aU:=a.aU) (hd:=a.hand) T;have U:∀q,b4 a.D q->q≠a.c/\q≠a.aU:=λq p=>⟨λe=>o.raw.a1.2.1 (e▸p),λe=>o.raw.a1.2.2 (e▸p)⟩;have aY:g3 X ai {a with D:=a.D.cN 1}:=uv (C:=a) (hd:=a.hand) (aF:=a.D.cN 1) o.inv (iL.refl _) S (λq _ h=>h) (o.inv.cN 1) (λ_=>rfl) λq p=>.inl p;have u:eR C {a with D:=a.D.cN 1} w ai 2:=by
    have:eR a {a with D:=a.D.cN 1} w1 ai 1:=⟨rfl,rfl,rfl,sk a.D (.inl rfl),Nat.le_succ _,λm Q=>(kI (.inl rfl) o.raw.dev.f4 Q).1,S,λq p=>.inl p⟩;exact y.trans this
   have aZ:∀j,({a with D:=a.D.cN 1}:cn).view j=C.view j:=λj=>by rw[←H];exact uw (C:=a) o.inv (iL.refl _) (λ_=>rfl) j
   have W:fC ai {a with D:=a.D.cN 1}:=⟨o.raw.v.ah L (λe=>(U _ (.inl rfl)).1 e.symm),bu.ah o.raw.f L (λe=>(U _ (.inl rfl)).2 e.symm),ao,o.raw.b1,o.raw.cf,o.raw.hd,o.raw.a1⟩;obtain⟨F,rfl⟩|⟨F,s,rfl,hs⟩:=aR
   .refine⟨⟨none,0,0⟩,3,rfl,λ_=>⟨{a with D:=a.D.cN 1},⟨W,aY⟩,u,aZ,.inr ⟨rfl,?_⟩⟩,λh=>(by simp at h)⟩
    obtain h1|h1:=aW
    .have:=(kI (k:=1) (m:=0) (.inl rfl) o.raw.dev.f4 h1).2
     rw[F]at this;cases this
    .exact h1
   .have ar:(a.D.now no).length=256:=o.raw.dev.qm R
    obtain⟨s1,s2,z⟩:=Bi W.f hi ⟨true,false,true,(no:Int),0,s,a.D.now no⟩;rw[A]at s1 s2 z;have ba:=L.size;have aN:=y.ah.size;refine⟨s,_,rfl,λh=>(by simp at h),λ_=>⟨_,rfl,s1,rfl,?_⟩⟩;obtain⟨x,au⟩:=U6 (setCells ai ⟨C.aU,i*6,none⟩ 0 (Fr.c ⟨true,false,true,(no:Int),0,s,a.D.now no⟩));rw[←au]at s2 z;have hg:setCells ai ⟨C.aU,i*6,none⟩ 0 [true,false,true,no,U8,s]=x:=au.symm;rw[hg];have av:ag (du a) ai x:=z.mono λq _ e=>.inr (.inl (A▸e));have aB:bI (λq=>w1<=q) x s (a.D.now no):=bI.ah hs z λq p e=>by
     have:=ap C.aU (.inr (.inl A.symm));omega
    have a0:g3 X x {a with aw:=a.aw.set i ⟨true,false,true,(no:Int),0,s,a.D.now no⟩,D:=a.D.cN 1}:=by
     refine Bk (w:=w1) (V:=du a) (aF:=a.D.cN 1) hi (no:=no) o.inv (S.trans av) (λq _ h=>h) (o.inv.cN 1) (λ_=>rfl) (λq=>Iff.rfl) ⟨true,false,true,(no:Int),0,s,a.D.now no⟩ rfl rfl ⟨rfl,R,?_,ar,λ_=>rfl,λ_=>rfl,aE⟩ λk Y _ h1=>T _ (cJ Y) h1;refine bI.bg aB λq _ p=>⟨λhf=>?_,λG=>?_⟩
     .have:du a q:=hf
      have:=ap q this;omega
     .have:=(o.inv.fD q G).1;omega
    have a2:∀j,({a with aw:=a.aw.set i ⟨true,false,true,(no:Int),0,s,a.D.now no⟩,D:=a.D.cN 1}:cn).view j=C.view j:=λj=>by
     have:=Bl (hd:=a.hand) (aF:=a.D.cN 1) hi (no:=no) o.inv.un (λ_=>rfl) ⟨true,false,true,(no:Int),0,s,a.D.now no⟩ rfl rfl (λh1=>by rw[aP]at h1;cases h1) (λk Y _ h1=>T _ (cJ Y) h1) j;rw[show({a with aw:=a.aw.set i ⟨true,false,true,(no:Int),0,s,a.D.now no⟩,D:=a.D.cN 1}:cn)=cn.mk a.c a.aU (a.aw.set i ⟨true,false,true,(no:Int),0,s,a.D.now no⟩) a.hand (a.D.cN 1) from rfl,this];by_cases e:j=no
     .rw[if_pos e,e,←H,aq]
     .rw[if_neg e,H]
    have a3:fC x {a with aw:=a.aw.set i ⟨true,false,true,(no:Int),0,s,a.D.now no⟩,D:=a.D.cN 1}:=by
     refine⟨?_,by show bu _ a.aU _ _;rw[A];exact s2,ao.ah z (λq p e=>(U q p).2 (A▸e)),?_,?_,?_,o.raw.a1⟩
     .have:=W.v.ah z (λe=>o.raw.a1.1 (A▸e))
      show Var _ _ [_,.slice _ (a.aw.set i _).length (a.aw.set i _).length,_] _;rw[dp];exact this
     .show 8<=(a.aw.set i _).length;rw[dp];exact o.raw.b1
     .show(a.aw.set i _).length<=64;rw[dp];exact o.raw.cf
     .show a.hand<(a.aw.set i _).length;rw[dp];exact o.raw.hd
    obtain⟨E,Z⟩:∃E:cn,E={a with aw:=a.aw.set i ⟨true,false,true,(no:Int),0,s,a.D.now no⟩,D:=a.D.cN 1}:=⟨_,rfl⟩;have aa:eu X x E:=by rw[Z];exact⟨a3,a0⟩
    have a4:eR C E w x 2:=by
     rw[Z];exact⟨u.c,u.d,by show(a.aw.set i _).length=_;rw[dp];exact u.len,u.bJ,u.aX,u.calm,cE u.ah av λq p h=>(u.c1 q h).resolve_right I,u.c1⟩
    refine aT ((mP (B:=λq=>x<=q) aB.1 (by rw[ar];omega) (λq p=>p)).use ?_);rintro _ bb ⟨t,rfl,ht,aC,_⟩;have bc:=z.size;refine⟨t,rfl,E,aa.ext aC,?_,?_,.inl ⟨t,rfl,?_⟩⟩
    .exact(a4.trans (eR.ext E aC)).mono I
    .intro j;rw[Z];exact a2 j
    .rw[←H,aq]
     refine bI.bg ht λq _ p=>⟨I,λhf=>?_,λG=>?_⟩
     .have:=aa.raw.lt hf;omega
     .have:=(aa.inv.fD q G).1;omega
  .refine⟨_,_,rfl,λ_=>⟨a,o,y.mono I,H,.inr ⟨rfl,λhc=>aQ (gq hc I)⟩⟩,λh=>(by simp at h)⟩
end
section
variable {w w':J}{C:cn}{X:U1}
def Fi(X:U1)(C:cn)(no:Nat)(l:c7)(w:J)(v:aa)(w':J):Prop:=
 ∃aM:cn,eu X w' aM/\eR C aM w w' 1/\
  ((v=.int .i64 0/\∀j,aM.view j=if j=no then l else C.view j)\/(v=.int .i64 3/\¬C.D.calm 1/\∀j,aM.view j=C.view j))
theorem Bm{a:Fr}(h:fC w C)(hc:ag (λq=>q=C.aU) w w')(b:bu w' C.aU (bl Fr.c (C.aw.set i a)).toArray 275):fC w' {C with aw:=C.aw.set i a}:=by
 refine⟨?_,b,h.dev.ah hc (λq d e=>h.a1.2.2 (e▸d)),?_,?_,?_,h.a1⟩
 .have:=h.v.ah hc h.a1.1
  show Var _ _ [_,.slice _ (C.aw.set i _).length (C.aw.set i _).length,_] _;rw[dp];exact this
 .show 8<=(C.aw.set i _).length;rw[dp];exact h.b1
 .show(C.aw.set i _).length<=64;rw[dp];exact h.cf
 .show C.hand<(C.aw.set i _).length;rw[dp];exact h.hd
theorem set_set{fs:O Fr}(f g:Fr):(fs.set i f).set i g=fs.set i g:=List.set_set ..
theorem Fj(h:eu X w C)(bq:C.D.aX<=999999999)(aB:no<C.D.n)(aE:2<=no)(aG:¬C.D.cl no=true){b:ad}(ab:Src 1 w b (aC l))(ac:l.length=256)(al:∀q,aD b q->q<w/\¬du C q):
 aH aj 146 #[.pointer (some C.c),no,b] w (Fi X C no l w):=by
 have O:=h.raw;have aI:=len8 ab;refine okF (ae.xm (some C.c) (no:Int) b) ax.xm func146 ?_;(delta ae.xm bP ak iD hO st bH;dsimp only);refine(Fa O _).use ?_;rintro _ _ ⟨rfl,rfl⟩;have aJ:decide (0<=(no:Int)/\(no:Int)<C.D.n)=true:=dh ⟨I,I⟩;refine⟨_,rfl,λh1=>?_,λ_=>(yB O _).use ?_⟩
 .rw[aJ,aI,ac]at h1
  simp at h1
 rintro _ _ ⟨aK,rfl⟩
 have fin:∀ (w1:J) (a:cn) (i:Nat) (hi:i<a.aw.length) (f1:Fr),eu X w1 a->eR C a w w1 1->a.aU=C.aU->(∀j,a.view j=C.view j)->f1.pins=0->∀ai:J,bu ai a.aU (bl Fr.c (a.aw.set i f1)).toArray 275->ag (λq=>q=a.aU) w1 ai->f1.full=true->f1.no=(no:Int)->
  ((a.aw[i]).full=true->(a.aw[i]).no=(no:Int))->(∀ (k:Nat) (E:k<a.aw.length),k≠i->(a.aw[k]).full=true->(a.aw[k]).no≠(no:Int))->
  Calls aj 46 #[b] ai λaL P=>∃am:ad,aL=.returned am/\∃fa:af,(some ⟨C.aU,i*6,none⟩:au af)=some fa/\(∃u:aa,P.cell? (fa.add 5)=some u)/\P.frozen? (fa.add 5)=false/\
   an (P.setCell (fa.add 5) am) λQ=>∃G:af,(some ⟨C.aU,i*6,none⟩:au af)=some G/\(∃u:aa,Q.cell? (G.add 1)=some u)/\Q.frozen? (G.add 1)=false/\
   an (Q.setCell (G.add 1) true) λR=>∃H:af,(some ⟨C.aU,i*6,none⟩:au af)=some H/\(∃u:aa,R.cell? (H.add 2)=some u)/\R.frozen? (H.add 2)=false/\
   an (R.setCell (H.add 2) true) λaM=>Fi X C no l w (0:Int) aM:=by
  intro w1 a i hi f1 y o x aN S ai aO K L ao hold ap;have br:=o.ah.size;have bs:=K.size;have bt:a.aU<w1.heap.size:=y.raw.lt (.inr (.inl rfl));have aP:Src 1 ai b (aC l):=by
   refine(ab.ah o.ah λq m hf=>(al q m).2 hf).ah K λq m e=>(al q m).2 (.inr (.inl (x▸e)))
  refine(mP (B:=λq=>ai<=q) aP I (λq m=>m)).use ?_;rintro _ aQ ⟨s,rfl,hs,aq,_⟩;have aR:=bu.ext aO aq;have T:i<(a.aw.set i f1).length:=by rw[dp];exact hi
  have U:(a.aw.set i f1)[i]=f1:=by simp
  obtain⟨a1,a2,a3,a4⟩:=oX aR T (j:=5) (by decide) (v:=s) {f1 with b:=s} (by rw[U];rfl);rw[set_set]at a3;have aS:i<(a.aw.set i {f1 with b:=s}).length:=by rw[dp];exact hi
  have aV:(a.aw.set i {f1 with b:=s})[i]={f1 with b:=s}:=by simp
  obtain⟨cH,ck,z,A⟩:=oX a3 aS (j:=1) (by decide) (v:=true) {f1 with b:=s,gM:=true} (by rw[aV];rfl);rw[set_set]at z;have aW:i<(a.aw.set i {f1 with b:=s,gM:=true}).length:=by rw[dp];exact hi
  have aY:(a.aw.set i {f1 with b:=s,gM:=true})[i]={f1 with b:=s,gM:=true}:=by simp
  obtain⟨d1,d2,d3,d4⟩:=oX z aW (j:=2) (by decide) (v:=true) {f1 with b:=s,gM:=true,used:=true,l:=l} (by rw[aY];rfl);rw[set_set]at d3;rw[x]at a1 a2 a3 a4 cH ck z A d1 d2 d3 d4 K;refine⟨s,rfl,_,rfl,a1,a2,?_⟩;rw[aA];refine aT ⟨_,rfl,cH,ck,?_⟩;rw[aA];refine aT ⟨_,rfl,d1,d2,?_⟩;rw[aA];have M:=(K.trans (ag.cX aq)).trans (a4.trans (A.trans d4));obtain⟨t,r⟩:∃t:Fr,t={f1 with b:=s,gM:=true,used:=true,l:=l}:=⟨_,rfl⟩;obtain⟨F,W⟩:=U6 ((((aQ.setCell ⟨C.aU,i*6+5,none⟩ s).setCell ⟨C.aU,i*6+1,none⟩ true).setCell ⟨C.aU,i*6+2,none⟩ true));rw[←W,←r]at d3;rw[←W]at M⊢;have aZ:bI (λq=>ai<=q) F s l:=by
   have h1:=bI.ah hs a4 λq m e=>by rw[←x]at e;omega
   have h2:=bI.ah h1 A λq m e=>by rw[←x]at e;omega
   have a0:=bI.ah h2 d4 λq m e=>by rw[←x]at e;omega
   rw[W];exact a0
  have a5:fC F {a with aw:=a.aw.set i t}:=Bm y.raw (x▸M) (x▸d3);have a6:g3 X F {a with aw:=a.aw.set i t}:=by
   refine Bk (w:=w1) (V:=λq=>q=C.aU) (aF:=a.D) hi (no:=no) y.inv M (λq _ e=>.inr (.inl (x▸e))) y.inv.ur (λ_=>rfl) (λq=>Iff.rfl) t (r▸L) (r▸S) ⟨by rw[r];exact ao,by show no<a.D.n;rw[o.n];exact aB,?_,by rw[r];exact ac,λhd=>(by rw[r]at hd;cases hd),λhs=>absurd (o.cl▸hs) aG,aE⟩ ap;rw[r];refine bI.bg aZ λq _ m=>⟨λhf=>?_,λa7=>?_⟩
   .have:du a q:=hf
    have:=y.raw.lt this;omega
   .have:=(y.inv.fD q a7).1;omega
  refine aT ⟨{a with aw:=a.aw.set i t},⟨a5,a6⟩,⟨o.c,o.d,by show(a.aw.set i _).length=_;rw[dp];exact o.len,o.bJ,o.aX,o.calm,cE o.ah M λq m e=>.inr (.inl e),o.c1⟩,.inl ⟨rfl,λj=>?_⟩⟩;have:=Bl (C:=a) (hd:=a.hand) (aF:=a.D) hi (no:=no) y.inv.un (λ_=>rfl) t (r▸L) (r▸ao) hold ap j;rw[show({a with aw:=a.aw.set i t}:cn)=cn.mk a.c a.aU (a.aw.set i t) a.hand a.D from rfl,this,aN];rw[r]
 obtain⟨i,hi,rfl,hf,Y⟩|⟨rfl,a8⟩:=aK
 .refine⟨_,rfl,cc (λp w'=>p=some ⟨C.aU,i*6,none⟩/\w=w') (λq m=>⟨nofun,λ_=>m _ _ ⟨rfl,rfl⟩⟩) ?_⟩
  rintro _ _ ⟨rfl,rfl⟩;have e:C.aw.set i C.aw[i]=C.aw:=List.set_getElem_self _;exact fin w C i hi C.aw[i] h ((eR.refl C w).mono (cI _)) rfl (λ_=>rfl) (h.inv.pins _ (cJ hi)) w (e▸O.f) (.refl _ _) hf Y (λ_=>Y) λk E a9 h1 h2=>a9 (h.inv.un k i E hi h1 hf (by rw[h2,Y]))
 .refine⟨_,rfl,cc (λp ai=>∃ (w1:J) (a:cn) (i:Nat) (hi:i<a.aw.length) (f1:Fr),p=some ⟨C.aU,i*6,none⟩/\eu X w1 a/\eR C a w w1 1/\a.aU=C.aU/\(∀j,a.view j=C.view j)/\f1.pins=0/\bu ai a.aU (bl Fr.c (a.aw.set i f1)).toArray 275/\ag (λq=>q=a.aU) w1 ai/\f1.full=true/\f1.no=(no:Int)/\
   ((a.aw[i]).full=true->(a.aw[i]).no=(no:Int))/\(∀ (k:Nat) (E:k<a.aw.length),k≠i->(a.aw[k]).full=true->(a.aw[k]).no≠(no:Int))) (λq m=>⟨λ_=>(Fg h I).use ?_,nofun⟩) ?_⟩
  .rintro _ w1 ⟨a,Z,ar,N,av,a_,ba⟩
   have bb:∀f∈a.aw,f.full=true->f.no≠(no:Int):=λf hf L bc=>by
    obtain⟨g,hg,h1,h2⟩:=a_ f hf L;exact a8 g hg h1 (by rw[h2,bc])
   obtain⟨i,hi,rfl,bd,S⟩|⟨rfl,be⟩:=ba
   .obtain⟨a1,a2,a3,a4⟩:=oX Z.raw.f hi (j:=0) (by decide) (v:=true) {a.aw[i] with full:=true} rfl
    have T:i<(a.aw.set i {a.aw[i] with full:=true}).length:=by rw[dp];exact hi
    have U:(a.aw.set i {a.aw[i] with full:=true})[i]={a.aw[i] with full:=true}:=by simp
    obtain⟨cH,ck,z,A⟩:=oX a3 T (j:=3) (by decide) (v:=no) {a.aw[i] with full:=true,no:=(no:Int)} (by rw[U];rfl);rw[set_set]at z;rw[N]at a1 a2 cH ck z a4 A;refine⟨_,_,rfl,λh=>(by simp at h),λ_=>⟨_,rfl,a1,a2,aT ⟨_,rfl,cH,ck,aT ?_⟩⟩⟩;rw[aA];exact m _ _ ⟨w1,a,i,hi,{a.aw[i] with full:=true,no:=(no:Int)},rfl,Z,ar,N,av,S,by rw[N];exact z,by rw[N];exact a4.trans A,rfl,rfl,λh1=>(by rw[bd]at h1;cases h1),λk E _ h1=>bb _ (cJ E) h1⟩
   .exact⟨_,_,rfl,λ_=>⟨a,Z,ar,.inr ⟨rfl,be,av⟩⟩,λh=>(by simp at h)⟩
  .rintro p ai ⟨w1,a,i,hi,f1,rfl,ay,az,bf,bh,bi,bj,bk,bm,bn,bo,bp⟩
   exact fin w1 a i hi f1 ay az bf bh bi ai bj bk bm bn bo bp
theorem Lc(h:eu X w C)(no:Nat):aH aj 127 #[.pointer (some C.c),no] w (λv w'=>(∃b:ao,v=b)/\∃aM:cn,eu X w' aM/\eR C aM w w' 0/\(∀j,j≠no->aM.view j=C.view j)/\aM.D=C.D/\∀f∈aM.aw,f.full=true->f∈C.aw/\f.no≠(no:Int)):=by
 have d:=h.raw;refine okF (ae.xi (some C.c) (no:Int)) ax.xi func127 ?_;(delta ae.xi iD ak r1;dsimp only);refine(yB d _).use ?_;rintro _ _ ⟨u,rfl⟩;obtain⟨i,hi,rfl,hf,p⟩|⟨rfl,x⟩:=u
 .have f4:=k_ d.f hi (j:=4) (by decide)
  have y:=h.inv.pins _ (cJ hi);refine⟨_,rfl,cc (λb w'=>b=false/\w=w') (λq g=>⟨nofun,λ_=>⟨_,rfl,(C.aw[i]).pins,f4,g _ _ ⟨by rw[y];rfl,rfl⟩⟩⟩) ?_⟩;rintro _ _ ⟨rfl,rfl⟩;obtain⟨s1,s2,l⟩:=Bi d.f hi dM;refine⟨nofun,λ_=>⟨_,rfl,s1,rfl,aT ⟨⟨true,rfl⟩,{C with aw:=C.aw.set i dM},⟨Bm d l s2,?_⟩,?_,λj z=>?_,rfl,λf A ay=>?_⟩⟩⟩
  .exact Bj (V:=λq=>q=C.aU) (aF:=C.D) hi h.inv l (λq _ e=>.inr (.inl e)) h.inv.ur (λ_ _=>rfl) (λq h=>.inl h) dM rfl rfl
  .exact⟨rfl,rfl,by show(C.aw.set i _).length=_;rw[dp],rfl,bk _,λ_ h=>h,l.mono λq _ e=>.inr (.inl e),λq h=>.inl h⟩
  .refine Fh (fs:=C.aw) (D:=C.D) (c:=C.c) (aU:=C.aU) (hd:=C.hand) h.inv.un (λa b B E h1 h2 m=>?_) (λk n ay az=>?_) λF=>⟨λf hf ay az=>?_,rfl⟩
   .have G:a<C.aw.length:=by simpa using B
    have H:b<C.aw.length:=by simpa using E
    by_cases r:i=a
    .subst r
     simp[dM]at h1
    by_cases s:i=b
    .subst s
     simp[dM]at h2
    simp only[fQ r]at h1 m;simp only[fQ s]at h2 m;exact h.inv.un a b G H h1 h2 m
   .have o:i≠k:=λe=>by
     subst e;rw[p]at az;exact z I
    exact⟨k,by rw[dp];exact n,by simp only[fQ o];exact ay,by simp only[fQ o];exact az,by simp only[fQ o]⟩
   .rcases m_ hf with hf|rfl
    .exact F f hf ay az
    .cases ay
  .obtain⟨k,n,rfl⟩:=fe A
   have t:k<C.aw.length:=by simpa using n
   by_cases e:i=k
   .subst e
    simp[dM]at ay
   .simp only[fQ e]at ay⊢
    exact⟨cJ t,λaz=>e (h.inv.un i k hi t hf ay (p.trans az.symm))⟩
 .refine⟨_,rfl,cc (λb w'=>b=true/\w=w') (λq g=>⟨λ_=>g _ _ ⟨rfl,rfl⟩,nofun⟩) ?_⟩
  rintro _ _ ⟨rfl,rfl⟩;exact⟨λ_=>⟨⟨false,rfl⟩,C,h,eR.refl C w,λ_ _=>rfl,rfl,λf hf ay=>⟨hf,x f hf ay⟩⟩,nofun⟩
end
theorem Ld(n:Nat):ig aj 275 n=(bl Fr.c (List.replicate n dM)).toArray:=by
 have a:((Tryz.prog.info? 275).bind (·.zero)).map (·.cells)=some dM.c.toArray:=by kernel_rfl
 have hc:Tryz.prog.cellsOf 275=6:=by kernel_rfl
 unfold ig;rw[hc]
 cases hi:(Tryz.prog.info? 275).bind (·.zero) with
 |none=>rw[hi]at a;cases a
 |some z=>
  rw[hi]at a;simp only[mq,Option.some.injEq]at a;simp only[sM,a];apply Array.ext
  .simp[e5 (c:=Fr.c) (sz:=6) (List.replicate n dM) (λx _=>rfl)]
  .intro i h1 h2
   have d:n*6≠0:=by
    intro h;simp[h]at h1
   have g:i<n*6:=by simpa using h1
   simp only[d,if_false,Array.getElem_map,Array.getElem_range,List.getElem_toArray];have b:dM.c.toArray.size=6:=rfl;have aI:i%6<6:=hG _ I;have e:i/6<(List.replicate n dM).length:=by rw[m5];omega
   have hg:=yq (c:=Fr.c) (sz:=6) (l:=List.replicate n dM) (λx _=>rfl) (i:=i/6) (j:=i%6) e aI;rw[show i/6*6+i%6=i from I]at hg;have f:i<(bl Fr.c (List.replicate n dM)).length:=by simpa using h2
   rw[dR f]at hg;have he:((List.replicate n dM)[i/6]).c=dM.c:=by simp
   rw[he,dR (show i%6<dM.c.length from aI)]at hg;have hg:=Option.some.inj hg;rw[hg,b,getElem!_pos dM.c.toArray (i%6) (b▸aI)];simp
def jx(c aU k:Nat)(D:a8):cn:=⟨c,aU,List.replicate k dM,0,D⟩
theorem Bn(c aU k:Nat)(D:a8)(j:Nat):(jx c aU k D).view j=D.now j:=by
 refine nI λf hf h1=>?_;rw[va hf]at h1
 cases h1
theorem rE(h:cL w D)(h1:8<=k)(h2:k<=64)(m:∀j,D.cl j=true->D.eQ j=D.eW j):aH aj 120 #[.pointer (some D.d),k] w (λv w'=>∃c aU:Nat,v=.tuple #[.pointer (some c),U8]/\eu (λ_=>False) w' (jx c aU k D)/\Ext w w'/\w.heap.size<=c/\w.heap.size<=aU):=by
 refine okF (ae.rE (some D.d) (k:Int)) ax.rE func120 ?_;delta ae.rE ak lE Y;refine⟨λh=>?_,λ_=>⟨⟨I,I,I,I⟩,?_⟩⟩
 .simp only[Option.isNone_some,jR,jE,b8]at h;omega
 rw[Ld,c2];have g:=bu.new w (bl Fr.c (List.replicate k dM)).toArray 275;have a:=c5 w (.cells (bl Fr.c (List.replicate k dM)).toArray 275);have n:=qe w (.cells (bl Fr.c (List.replicate k dM)).toArray 275);obtain⟨w1,o⟩:=U6 (w.alloc (.cells (bl Fr.c (List.replicate k dM)).toArray 275));rw[←o]at g a n⊢;refine aT (a6 (vs:=[.pointer (some D.d),.slice (some w.heap.size) k k,U8]) rfl λai p b s=>⟨w1.heap.size,w.heap.size,rfl,⟨⟨?_,bu.ext g b,h.ext (a.trans b),?_,?_,?_,?_,?_,?_⟩,⟨λf hf=>?_,λf hf l=>?_,λi j hi t h1=>?_,λq r=>r.elim,m⟩⟩,a.trans b,I,bk _⟩)
 .show Var _ _ [_,.slice _ (List.replicate k dM).length (List.replicate k dM).length,_] _
  rw[m5];exact p
 .show 8<=(List.replicate k dM).length;simpa using h1
 .show(List.replicate k dM).length<=64;simpa using h2
 .show 0<(List.replicate k dM).length;simp;omega
 .show w1.heap.size≠w.heap.size;omega
 .intro e
  have:=h.lt e;have:w1.heap.size<w.heap.size:=this;omega
 .intro e
  have:=h.lt e;have:w.heap.size<w.heap.size:=this;omega
 .rw[va hf];rfl
 .rw[va hf]at l;cases l
 .simp[jx,dM]at h1
end Go.Proofs.YtcmgnhkpfllinaaGreat
