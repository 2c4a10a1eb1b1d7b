/- Contracts of the functions that the statement reaches, and the plain laws over them; each theorem stands with its conditions. -/
import Derived.OpenShut
import Derived.Shelf.SlIterI.Nil
import Derived.Shelf.SortM.Plain
import Derived.Shelf.SortM.SortNone
import Derived.Test.YtcmgnhkpfllinaaGreatProg
import Derived.Test.YtcmgnhkpfllinaaGreatRows
import Derived.Test.YtcmgnhkpfllinaaGreatBSFew2
namespace Go.Proofs.YtcmgnhkpfllinaaGreat
open Go aQ Go.Proofs.Tryz
section
variable {α:Type}{c:α->O aa}{sz:Nat}
def bu(c:α->O aa)(l:O α):O aa:=(l.map c).flatten
theorem lN(l m:O α):bu c (l++m)=bu c l++bu c m:=by simp[bu]
theorem qV(x:α)(l:O α):bu c (x::l)=c x++bu c l:=rfl
theorem fA:∀ (l:O α),(∀x∈l,(c x).length=sz)->(bu c l).length=l.length*sz
 | [],_=>by simp[bu]
 |x::l,h=>by
  rw[qV,cp,h x (by simp),fA l λy a=>h y (by simp[a]),fY,ic];omega
theorem G1{l:O α}{i:Nat}(h:i<l.length):l=l.take i++l[i]::l.drop (i+1):=by rw[←jW h,fI]
theorem yD{l:O α}(hc:∀x∈l,(c x).length=sz){i:Nat}(h:i<l.length):(bu c l).take (i*sz)=bu c (l.take i)/\(bu c l).drop (i*sz)=c l[i]++bu c (l.drop (i+1)):=by
 have a:(bu c (l.take i)).length=i*sz:=by
  rw[fA _ λx hx=>hc x (fK hx),cI,hV I]
 have e:bu c l=bu c (l.take i)++(c l[i]++bu c (l.drop (i+1))):=by
  conv=>lhs;rw[G1 h]
  rw[lN,qV]
 rw[e];exact⟨mw a,drop_left' a⟩
theorem B0{l:O α}(hc:∀x∈l,(c x).length=sz){i:Nat}(h:i<l.length):((bu c l).drop (i*sz)).take sz=c l[i]:=by
 rw[(yD hc h).2];exact mw (hc _ (cN h))
theorem vZ{l:O α}(hc:∀x∈l,(c x).length=sz){i j:Nat}(h:i<l.length)(a:j<sz):(bu c l)[i*sz+j]? =(c l[i])[j]? :=by
 rw[←B0 hc h,List.getElem?_take_of_lt a,sZ]
theorem B1{l:O α}(hc:∀x∈l,(c x).length=sz){i:Nat}(h:i<l.length)(x:α):(bu c l).take (i*sz)++c x++(bu c l).drop (i*sz+sz)=bu c (l.set i x):=by
 have h1:=yD hc h;have h2:(bu c l).drop (i*sz+sz)=bu c (l.drop (i+1)):=by
  rw[←kT,h1.2];exact drop_left' (hc _ (cN h))
 rw[h1.1,h2,wK,if_pos h,lN,qV,cz]
theorem G2{l:O α}(hc:∀x∈l,(c x).length=sz){i j:Nat}(h:i<l.length)(a:j<sz){x:α}{v:aa}(hx:c x=(c l[i]).set j v):(bu c l).set (i*sz+j) v=bu c (l.set i x):=by
 have b:(c l[i]).length=sz:=hc _ (cN h);have h1:=yD hc h;have e:bu c l=bu c (l.take i)++(c l[i]++bu c (l.drop (i+1))):=by
  conv=>lhs;rw[←fI (i*sz) (bu c l),h1.1,h1.2]
 have d:(bu c (l.take i)).length=i*sz:=by
  rw[fA _ λx hx=>hc x (fK hx),cI,hV I]
 rw[e,s7 _ _ I,show i*sz+j-(bu c (l.take i)).length=j from I,List.set_append_left _ _ I,←hx,wK,if_pos h,lN,qV]
end
section
variable {α:Type} [DecidableEq α] {P:Program}{w:J}{g4 lB T:TypeId}{enc:α->aa}{r:Nat}{M:O (α×aa)}{k:α}{v:aa}
theorem G3(f:m9 P g4 enc)(j:P.underlying T=some (.map g4 lB))(h:eB w r enc M)(l:∀v,(k,v)∉M)(v:aa):
 ∃w1:J,(Instr.mapUpdate T (.map (some r)) (enc k) v).run P w=.ok () w1/\af (λq=>q=r) w w1/\w1.heap.size=w.heap.size/\eB w1 r enc ((k,v)::M):=by
 have aH:=h.lt;obtain⟨L,c,h,h1,h2,m,g⟩:=h;have i:=AO h1 l;have hf:=f.find L k w;rw[xp i]at hf;refine⟨iq w r (.map ((L.map (en enc)).toArray.push ⟨enc k,v,c⟩) (c+1)),?_,rV _ _ _,tM _ _ _,L++ [(k,v,c)],c+1,?_,?_,?_,?_,?_⟩
 .simp only[Instr.mapUpdate,Sem.run_bind,cZ j,Result.andThen,mf h,Sem.run_pure,f.check,hf,xr h]
 .rw[tN aH]
  simp[en]
 .rw[fJ]
  have:([(k,v,c)]:O (α×aa×Nat)).map mc=[(k,v)]:=rfl;rw[this];exact(rm).trans (List.Perm.cons _ h1)
 .rw[fJ,s5]
  refine⟨h2,by simp,λa e b d=>?_⟩;obtain⟨x,hx,rfl⟩:=fD.1 e;simp only[g0,List.map_nil,fb]at d;subst d;exact i x hx
 .rw[fJ,s5]
  refine⟨m,by simp,λa e b d=>?_⟩;obtain⟨x,hx,rfl⟩:=fD.1 e;simp only[g0,List.map_nil,fb]at d;subst d;have:=g x hx;omega
 .intro x hx
  rcases cK.1 hx with hx|hx
  .have:=g x hx;omega
  .rw[fb.1 hx];show c<c+1;omega
theorem G4(c:m9 P g4 enc)(g:P.underlying T=some (.map g4 lB))(h:eB w r enc ((k,v)::M))(b:aa):
 ∃w1:J,(Instr.mapUpdate T (.map (some r)) (enc k) b).run P w=.ok () w1/\af (λq=>q=r) w w1/\w1.heap.size=w.heap.size/\eB w1 r enc ((k,b)::M):=by
 have aH:=h.lt;obtain⟨n,bc,bt,a,f,h,h1,h2,i,d,_⟩:=h.split;have hf:=c.find (bc++(k,v,a)::bt) k w;rw[xq (AN h2),cR]at hf;have hg:((bc++(k,v,a)::bt).map (en enc)).toArray[bc.length]? =some ⟨enc k,v,a⟩:=by simp[en]
 have j:((bc++(k,v,a)::bt).map (en enc)).toArray.modify bc.length (λe=>{e with key:=enc k,val:=b})=((bc++(k,b,a)::bt).map (en enc)).toArray:=by
  apply Array.toList_inj.1;rw[Array.toList_modify,fJ,g0];have:=AM (λe=>{e with key:=enc k,val:=b}) (en enc (k,v,a)) (bt.map (en enc)) (bc.map (en enc));rw[di]at this;rw[this];simp[en]
 refine⟨iq w r (.map ((bc++(k,b,a)::bt).map (en enc)).toArray f),?_,rV _ _ _,tM _ _ _,bc++(k,b,a)::bt,f,tN aH _,?_,?_,?_,?_⟩
 .simp only[Instr.mapUpdate,Sem.run_bind,cZ g,Result.andThen,mf h,Sem.run_pure,c.check,hf,hg,lY,Option.getD_some,Instr.keyThatStays,c.bits,if_true,xr h,j]
 .rw[fJ,g0]
  rw[fJ]at h1;exact mU.trans (h1.cons _)
 .simpa using h2
 .simpa using i
 .intro x hx
  rcases cK.1 hx with hx|hx
  .exact d x (by simp[hx])
  .rcases cX.1 hx with rfl|hx
   .exact d (k,v,a) (by simp)
   .exact d x (by simp[hx])
end
abbrev dc:=O UInt8
structure hF where
 i:Nat
 s:ad
 iy:O dc
structure ba where
 d:Nat
 lb:Nat
 mr:Nat
 cf:O Int
 b4:O dc
 waits:O hF
 writes:Int
 a6:Nat
 b7:Nat->al
 eG:Nat->O dc
 r1:al
def hF.e(x:hF):Int×aa:=((x.i:Int),x.s)
def ba.c(D:ba):O aa:=D.cf.map (.int .i64)++ [.slice (some ⟨D.lb,0,none⟩) D.b4.length D.b4.length,.map (some D.mr),.int .i64 D.writes]
def ba.n(D:ba):Nat:=D.b4.length
abbrev encZ:Int->aa:=λn=>n
theorem qW:m9 aj 3 encZ:=m9.int (by kernel_rfl)
theorem nC:Tryz.prog.underlying 125=some (.map 3 124):=by kernel_rfl
theorem B2:(Tryz.prog.info? 124).bind (·.zero)=some (.slice none 0 0):=by kernel_rfl
theorem sG{P:Program}{T:TypeId}{z:aa}(h:(P.info? T).bind (·.zero)=some z):∃i,P.info? T=some i/\i.zero=some z:=by
 cases hi:P.info? T with
 |none=>rw[hi]at h;cases h
 |some i=>rw[hi]at h;exact⟨i,rfl,h⟩
def cm(D:ba)(q:Nat):Prop:=q=D.d\/q=D.lb\/q=D.mr\/∃x∈D.waits,aB x.s q
structure dd(w:J)(D:ba):Prop where
 v:Var w D.d D.c 129
 l:bm w D.lb (bu az D.b4).toArray 151
 m:eB w D.mr encZ (D.waits.map hF.e)
 ws:∀x∈D.waits,aW 256 151 w x.s (bu az x.iy)
 wn:∀x∈D.waits,x.iy≠ []/\x.i<D.n/\x.iy.length<=D.a6
 sl:∀s∈D.b4,s.length=256
 nD:∀x∈D.waits,∀s∈x.iy,s.length=256
 cc:16<=D.n
 bA:D.n<=1600
 f4:D.cf.length=4
 fr:∀x∈D.cf, -1<=x/\x<=9223372036854775807
 a1:D.d≠D.lb/\D.d≠D.mr/\D.lb≠D.mr
 a2:∀x∈D.waits,¬aB x.s D.d/\¬aB x.s D.lb/\¬aB x.s D.mr
 a3:∀x∈D.waits,∀y∈D.waits,x.i≠y.i->∀q,aB x.s q->¬aB y.s q
 r:D.r1=true->D.cf.getD 1 0= -1
theorem G5{cf:O Int}{k:Nat}{x:Int}(a:cf.length=4)(h:cf.getD 1 0= -1)(hx:k=1->x= -1):(cf.set k x).getD 1 0= -1:=by
 rw[fL]at h⊢;by_cases e:k=1
 .subst e
  rw[List.getElem?_set_self I,hx rfl];rfl
 .rw[List.getElem?_set_ne e];exact h
section
variable {w w':J}{D:ba}
theorem dd.ah{W:Nat->Prop}(h:dd w D)(hc:af W w w')(a:∀q,cm D q->¬W q):dd w' D:=
 ⟨h.v.ah hc (a _ (.inl rfl)),bm.ah h.l hc (a _ (.inr (.inl rfl))),h.m.ah hc (a _ (.inr (.inr (.inl rfl)))),λx hx=>(h.ws x hx).ah hc λq b=>a q (.inr (.inr (.inr ⟨x,hx,b⟩))),h.wn,h.sl,h.nD,h.cc,h.bA,h.f4,h.fr,h.a1,h.a2,h.a3,h.r⟩
theorem dd.ext(h:dd w D)(hc:Ext w w'):dd w' D:=h.ah hc λ_ _ h=>h
theorem dd.lt(h:dd w D){q:Nat}(a:cm D q):q<w.heap.size:=by
 rcases a with rfl|rfl|rfl|⟨x,hx,a⟩
 .exact h.v.lt
 .exact bm.lt h.l
 .exact h.m.lt
 .exact(h.ws x hx).lt q a
theorem dd.G6(h:dd w D){k:Nat}(a:k<4):w.cell? ⟨D.d,k,none⟩=some (.int .i64 (D.cf.getD k 0)):=by
 rw[h.v.cell];unfold ba.c;have:=h.f4;rw[s8 (by rw[di];omega),nW,dC I,fz I];rfl
theorem dd.fF(h:dd w D):w.cell? (Addr.add ⟨D.d,0,none⟩ 4)=some (.slice (some ⟨D.lb,0,none⟩) D.b4.length D.b4.length):=by
 rw[aA,h.v.cell];unfold ba.c;have:=h.f4;rw[iH (by rw[di];omega),di,this];rfl
theorem dd.iR(h:dd w D):w.cell? (Addr.add ⟨D.d,0,none⟩ 5)=some (.map (some D.mr)):=by
 rw[aA,h.v.cell];unfold ba.c;have:=h.f4;rw[iH (by rw[di];omega),di,this];rfl
theorem dd.yE(h:dd w D):D.c.length=7:=by
 unfold ba.c;have:=h.f4;simp;omega
def ba.now(D:ba)(i:Nat):dc:=match D.waits.find? λx=>x.i==i with
 |some x=>x.iy.getLastD []
 |none=>D.b4.getD i []
theorem G7{α:Type}{l:O α}{d:α}(h:l≠ []):l.getLastD d∈l:=by
 cases l with
 |nil=>exact absurd rfl h
 |cons a l=>
  rw[List.getLastD_cons];rw[←List.getLast_eq_getLastD];exact List.getLast_mem h
theorem dd.sH(h:dd w D){i:Nat}(hi:i<D.n):(D.now i).length=256:=by
 unfold ba.now
 cases hf:D.waits.find? λx=>x.i==i with
 |some x=>
  have hx:=j0 hf;exact h.nD x hx _ (G7 (h.wn x hx).1)
 |none=>
  have a:i<D.b4.length:=hi;rw[show(match (none:av hF) with|some x=>x.iy.getLastD []|none=>D.b4.getD i [])=D.b4.getD i [] from rfl,fz a];exact h.sl _ (cN _)
theorem v7(h:dd w D):aJ aj 55 #[.pointer (some D.d)] w (λv w'=>v=D.n/\w=w'):=by
 refine okF (ae.uA (some D.d)) ax.uA func55 ?_;(delta ae.uA ak r1;dsimp only);exact⟨λh=>(by cases h),λ_=>⟨_,rfl,⟨some D.lb,D.b4.length,D.b4.length⟩,h.fF,rfl,rfl⟩⟩
theorem B3(h:dd w D)(i:Int):aJ aj 85 #[.pointer (some D.d),i] w (λv w'=>v=.bool (decide (0<=i/\i<D.n))/\w=w'):=by
 refine okF (ae.uL (some D.d) i) ax.uL func85 ?_;(delta ae.uL ak r1;dsimp only);refine cA (λb w'=>b=decide (0<=i/\i<D.n)/\w=w') (λq c=>⟨λa=>⟨_,rfl,⟨some D.lb,D.b4.length,D.b4.length⟩,h.fF,c _ _ ⟨?_,rfl⟩⟩,λa=>c _ _ ⟨?_,rfl⟩⟩) ?_
 .have a:0<=i:=by simpa using a
  rw[fC,cq,cq];exact⟨λh=>⟨a,h⟩,λh=>h.2⟩
 .have a:¬0<=i:=by simpa using a
  rw[ih (λh=>a h.1)]
 .rintro _ _ ⟨rfl,rfl⟩
  exact⟨rfl,rfl⟩
end
def gz(f:Int):al×Int:=if f= -1 then (false, -1) else if f=0 then (true, -1) else (false,f-1)
theorem G8{f:Int}(h: -1<=f/\f<=9223372036854775807): -1<=(gz f).2/\(gz f).2<=9223372036854775807:=by
 unfold gz;split
 .exact⟨by decide,by decide⟩
 .split
  .exact⟨by decide,by decide⟩
  .show -1<=f-1/\f-1<=_;omega
def ba.cD(D:ba)(k:Nat):ba:={D with cf:=D.cf.set k (gz (D.cf.getD k 0)).2}
def ba.fX(D:ba)(k:Nat):al:=(gz (D.cf.getD k 0)).1
theorem yF{w:J}{D:ba}(h:dd w D){k:Nat}(p:k<4):
 aJ aj 117 #[.pointer (some D.d),k] w (λv w'=>v=.bool (D.fX k)/\dd w' (D.cD k)/\af (λq=>q=D.d) w w'/\w'.heap.size=w.heap.size):=by
 have hf:=h.G6 p;have g:=h.f4;have s: -1<=D.cf.getD k 0/\D.cf.getD k 0<=9223372036854775807:=by rw[fz I];exact h.fr _ (cN _)
 have j:∀ (w1:J),dd w1 D->dd (w1.setCell ⟨D.d,k,none⟩ (.int .i64 (gz (D.cf.getD k 0)).2)) (D.cD k):=by
  intro w1 h1;have hc:=dU w1 D.d k (.int .i64 (gz (D.cf.getD k 0)).2);have n:=ez h1.v (i:=k) (.int .i64 (gz (D.cf.getD k 0)).2);have e:D.c.set k (.int .i64 (gz (D.cf.getD k 0)).2)=(D.cD k).c:=by
   unfold ba.c ba.cD;rw[List.set_append_left _ _ (by rw[di];omega),←List.map_set]
  rw[e]at n;refine⟨n,bm.ah h1.l hc (λe=>h.a1.1 e.symm),h1.m.ah hc (λe=>h.a1.2.1 e.symm),λx hx=>(h1.ws x hx).ah hc λq t e=>(h.a2 x hx).1 (by subst e;exact t),h.wn,h.sl,h.nD,h.cc,h.bA,by show(D.cf.set k _).length=4;rw[dj];exact g,λx hx=>?_,h.a1,h.a2,h.a3,λo=>G5 g (h.r o) λe=>by subst e;rw[h.r o];rfl⟩;rcases mX hx with hx|rfl
  .exact h.fr x hx
  .exact G8 s
 have f:Addr.add D.d (Int.toNat (k:Int)*1)=⟨D.d,k,none⟩:=by rw[dg,ft,aA,cR]
 refine okF (ae.uT (some D.d) (k:Int)) ax.uT func117 ?_;(delta ae.uT aF ak st aq;dsimp only);refine⟨_,rfl,⟨I,by show(k:Int)<4;omega⟩,D.cf.getD k 0,by rw[f];exact hf,λh1=>?_,λh1=>⟨λh2=>⟨_,rfl,⟨I,by show(k:Int)<4;omega⟩,?_⟩,λh2=>aX ⟨_,rfl,⟨I,by show(k:Int)<4;omega⟩,id,_,by rw[f];exact hf,_,rfl,⟨I,by show(k:Int)<4;omega⟩,?_⟩⟩⟩
 .have h1:D.cf.getD k 0= -1:=by simpa using h1
  have a:D.fX k=false:=by unfold ba.fX gz;rw[if_pos h1]
  have b:D.cD k=D:=by
   unfold ba.cD gz;rw[if_pos h1];have:D.cf.set k (-1)=D.cf:=by
    rw[←h1,fz I];exact List.set_getElem_self _
   rw[this]
  rw[a,b];exact⟨rfl,h,.refl _ _,rfl⟩
 .have h1:D.cf.getD k 0≠ -1:=by simpa using h1
  have h2:D.cf.getD k 0=0:=by simpa using h2
  have hs:=eA h.v (i:=k) (by rw[h.yE];omega);have a:D.fX k=true:=by unfold ba.fX gz;rw[if_neg h1,if_pos h2]
  have b:(gz (D.cf.getD k 0)).2= -1:=by unfold gz;rw[if_neg h1,if_pos h2]
  have:=j w h;rw[b]at this;rw[f,a];exact⟨hs.1,hs.2,aX ⟨rfl,this,dU _ _ _ _,by simp[World.setCell]⟩⟩
 .have h1:D.cf.getD k 0≠ -1:=by simpa using h1
  have h2:D.cf.getD k 0≠0:=by simpa using h2
  have hd:=h.ext (cG w);have hs:=eA hd.v (i:=k) (by rw[h.yE];omega);have a:D.fX k=false:=by unfold ba.fX gz;rw[if_neg h1,if_neg h2]
  have b:(gz (D.cf.getD k 0)).2=D.cf.getD k 0-1:=by unfold gz;rw[if_neg h1,if_neg h2]
  have:=j w.drew hd;rw[b]at this;rw[f,a,bn I I];exact⟨hs.1,hs.2,aX ⟨rfl,this,(af.c0 (cG w)).trans (dU _ _ _ _),by simp[World.setCell]⟩⟩
def ba.e8(D:ba)(i:Nat):O dc:=match D.waits.find? λx=>x.i==i with
 |some x=>x.iy
 |none=> []
theorem yG(D:ba)(h:∀x∈D.waits,x.iy≠ [])(i:Nat):D.now i=if D.e8 i=[] then D.b4.getD i [] else (D.e8 i).getLastD []:=by
 unfold ba.now ba.e8
 cases hf:D.waits.find? λx=>x.i==i with
 |some x=>
  have hx:=j0 hf;simp only;rw[if_neg (h x hx)]
 |none=>simp
def ba.calm(D:ba)(k:Nat):Prop:=(D.cf.getD 1 0= -1\/(k:Int)<=D.cf.getD 1 0)/\(D.cf.getD 2 0= -1\/(k:Int)<=D.cf.getD 2 0)
def ba.ki(D:ba):Int->Prop:=λn=>(∀j,D.b7 j=true)->D.writes=n
def ba.ro(D:ba):Prop:=∀i,D.b7 i=true
def ba.key(D:ba):(O dc×(Nat->al)×(Nat->O dc)×(Int->Prop)×al)×Int:=((D.b4,D.b7,D.eG,D.ki,D.r1),D.cf.getD 3 0)
theorem c2{W V:Nat->Prop}{w w' b:J}(h1:af W w w')(h2:af V w' b)(h:∀q,q<w.heap.size->V q->W q):af W w b:=
 ⟨h2.os.trans h1.os,h2.tape.trans h1.tape,h2.output.trans h1.output,eK h1.size h2.size,λk a cw=>(h2.block k (fa a h1.size) λc=>cw (h k a c)).trans (h1.block k a cw)⟩
theorem gf{D:ba}{k l:Nat}(h:D.calm k)(a:l<=k):D.calm l:=⟨h.1.imp id λh=>I,h.2.imp id λh=>I⟩
theorem jM{D:ba}{k m:Nat}(c:k=1\/k=2)(f:D.cf.length=4)(h:D.calm (m+1)):(D.cD k).calm m/\D.fX k=false:=by
 obtain⟨h1,h2⟩:=h;have d:1<D.cf.length:=by omega
 have e:2<D.cf.length:=by omega
 rcases c with rfl|rfl
 .have a:(D.cD 1).cf.getD 1 0=(gz (D.cf.getD 1 0)).2:=by
   show(D.cf.set 1 _).getD 1 0=_;rw[fz (by rw[dj];omega),ij]
  have b:(D.cD 1).cf.getD 2 0=D.cf.getD 2 0:=by
   show(D.cf.set 1 _).getD 2 0=_;rw[fz (by rw[dj];omega),fl I,fz e]
  unfold ba.calm ba.fX;rw[a,b];unfold gz;rcases h1 with h1|h1
  .rw[if_pos h1]
   exact⟨⟨.inl rfl,h2.imp id λh=>I⟩,rfl⟩
  .rw[if_neg I,if_neg I]
   exact⟨⟨.inr (by show(m:Int)<=_-1;omega),h2.imp id λh=>I⟩,rfl⟩
 .have a:(D.cD 2).cf.getD 2 0=(gz (D.cf.getD 2 0)).2:=by
   show(D.cf.set 2 _).getD 2 0=_;rw[fz (by rw[dj];omega),ij]
  have b:(D.cD 2).cf.getD 1 0=D.cf.getD 1 0:=by
   show(D.cf.set 2 _).getD 1 0=_;rw[fz (by rw[dj];omega),fl I,fz d]
  unfold ba.calm ba.fX;rw[a,b];unfold gz;rcases h2 with h2|h2
  .rw[if_pos h2]
   exact⟨⟨h1.imp id λh=>I,.inl rfl⟩,rfl⟩
  .rw[if_neg I,if_neg I]
   exact⟨⟨h1.imp id λh=>I,.inr (by show(m:Int)<=_-1;omega)⟩,rfl⟩
theorem qX(D:ba){k:Nat}(a:k=1\/k=2):(D.cD k).key=D.key:=by
 unfold ba.key ba.cD;rcases a with rfl|rfl<;>simp[fL]<;>rfl
theorem yH{sz:Nat}{w:J}{s:ad}{α:Type}{c:α->O aa}{l:O α}(h:Src sz w s (bu c l))(hc:∀x∈l,(c x).length=sz)(e:0<sz){i:Nat}(hi:i<l.length):
 s.len=l.length/\∃A,s.a=some A/\bw w (A.add (i*sz)) 0 sz=some (c l[i]):=by
 have b:s.len=l.length:=by
  have:=h.len;rw[fA l hc]at this;exact(Nat.eq_of_mul_eq_mul_right e this).symm
 refine⟨b,?_⟩
 cases d:s.a with
 |none=>
  have:=congrArg List.length (h.nil d);rw[fA l hc,kW]at this;have:l.length*sz≠0:=Nat.mul_ne_zero I I;omega
 |some A=>
  refine⟨A,rfl,?_⟩;have f:i*sz+sz<=s.len*sz:=by
   rw[b,←Nat.succ_mul];exact mS _ hi
  rw[xv (h.rd A d) f,B0 hc hi]
def qY:O aa:=az (List.replicate 256 0)
def yI(D:ba)(i:Nat)(w:J)(v:aa)(w':J):Prop:=v=.agg (az (D.now i)).toArray/\Ext w w'
theorem B4{w:J}{D:ba}(h:dd w D){i:Nat}(hi:i<D.n)(Q:D.a6<=1000000000):
 aJ aj 118 #[.pointer (some D.d),i] w (yI D i w):=by
 have R:=h.bA;have f:=h.sH hi;refine okF (ae.uU (some D.d) (i:Int)) ax.uU func118 ?_;(delta ae.uU z5 ak aq xL Y r1 ou;dsimp only);refine a8 (vs:=qY) (by kernel_rfl) λw1 g u _=>?_;have hd:=h.ext u;refine⟨_,rfl,some D.mr,hd.iR,?_⟩;have y:qY.length=256:=by rw[qY,c4,l1]
 have fin:∀ (K:O aa->J->Prop),(∀a,Ext w a->K (az (D.now i)) a)->bI w1 w.heap.size (Array.toList (az (D.now i)).toArray)/\Array.size (az (D.now i)).toArray=256/\ao (setCells w1 w.heap.size 0 (Array.toList (az (D.now i)).toArray)) λa=>∃b:O aa,bw a w.heap.size 0 256=some b/\K b a:=by
  intro K E;refine⟨g.cl (by rw[rq,c4,f,y]) (by rw[rq];exact iM _),by simp[c4,f],cP g (us:=az (D.now i)) (by rw[c4,f,y]) rfl λa F G _=>⟨_,F.rd (by rw[c4,f]),E a (Ext.cy u G (bl _))⟩⟩
 cases hf:D.waits.find? λx=>x.i==i with
 |some x=>
  have hx:=j0 hf;have H:x.i=i:=by
   have:=kU hf;exact eq_of_beq this
  have j:=hd.m.AP qW nC (k:=(i:Int)) (v:=x.s) (fD.2 ⟨x,hx,by unfold hF.e;rw[H]⟩) false;have L:=(h.wn x hx).1;have hlen:0<x.iy.length:=List.length_pos_iff.2 L;have S:=(h.wn x hx).2.2;obtain⟨z,A,au,p⟩:=yH (hd.ws x hx).src (λs hs=>by rw[c4];exact h.nD x hx s hs) (by decide) (i:=x.iy.length-1) I;have q:D.now i=x.iy[x.iy.length-1]'I:=by
   unfold ba.now;rw[hf];show x.iy.getLastD []=_;rw[List.getLastD_eq_getLast?,List.getLast?_eq_getElem?,dC I];rfl
  refine⟨x.s,w1,j,λ_=>⟨A,au,?_⟩,λr=>?_⟩
  .rw[z,bn (n:=(x.iy.length:Int)-1) I I]
   have M:Int.toNat ((x.iy.length:Int)-1)=x.iy.length-1:=by omega
   rw[M];refine⟨⟨I,I⟩,_,p,?_⟩;rw[←q];exact fin (λb a=>yI D i w (.agg b.toArray) a) λa t=>⟨rfl,t⟩
  .have:=cH r
   omega
 |none=>
  obtain⟨T,h1,h2⟩:=sG B2;have j:=hd.m.AQ qW nC (k:=(i:Int)) h1 h2 (λv g=>by
   obtain⟨x,hx,he⟩:=fD.1 g;have N:=jZ.1 hf x hx;unfold hF.e at he;simp only[Prod.mk.injEq]at he;apply N;have:x.i=i:=by omega
   rw[this];simp) false
  have B:i<D.b4.length:=hi;have q:D.now i=D.b4[i]:=by
   unfold ba.now;rw[hf];exact fz B
  have P:Src 256 w1 ⟨some D.lb,D.b4.length,D.b4.length⟩ (bu az D.b4):=by
   have C:=fA (c:=az) (sz:=256) D.b4 λs hs=>by rw[c4];exact h.sl s hs
   have:=bm.rW (sz:=256) (o:=0) (n:=D.b4.length) (cap:=D.b4.length) hd.l (by simp[C]);rw[iF,rq,dX (by rw[C];exact bl _)]at this;exact this
  obtain⟨z,A,au,p⟩:=yH P (λs hs=>by rw[c4];exact h.sl s hs) (by decide) B;refine⟨⟨none,0,0⟩,w1,j,λr=>by simp at r,λ_=>⟨_,rfl,_,hd.fF,A,au,⟨I,by show(i:Int)<(D.b4.length:Int);omega⟩,_,p,?_⟩⟩;rw[←q];exact fin (λb a=>yI D i w (.agg b.toArray) a) λa t=>⟨rfl,t⟩
def G9(D:ba)(i:Nat)(w:J)(v:aa)(w':J):Prop:=
 dd w' (D.cD 1)/\af (λq=>q=D.d) w w'/\
  ((D.fX 1=true/\v=.tuple #[(),(3:Int)])\/
   (D.fX 1=false/\∃s:ad,v=.tuple #[s,(0:Int)]/\bq (λq=>w.heap.size<=q) w' s (D.now i)))
theorem G_{w:J}{D:ba}(h:dd w D){i:Nat}(hi:i<D.n)(x:D.a6<=1000000000):
 aJ aj 75 #[.pointer (some D.d),i] w (G9 D i w):=by
 refine okF (ae.uK (some D.d) (i:Int)) ax.uK func75 ?_;delta ae.uK b6 ak p5 z5 Y;refine(B3 h _).use ?_;rintro _ _ ⟨rfl,rfl⟩;refine⟨_,rfl,λa=>?_,λ_=>⟨_,rfl,(yF h (k:=1) (by decide)).use ?_⟩⟩
 .have a:¬(0<=(i:Int)/\(i:Int)<D.n):=by simpa using a
  omega
 rintro _ ai ⟨rfl,b,j,z⟩;refine⟨_,rfl,λa=>⟨b,j,.inl ⟨a,rfl⟩⟩,λa=>(B4 b (i:=i) hi x).use ?_⟩;rintro _ m ⟨rfl,g⟩;have f:=h.sH hi;refine⟨_,rfl,a8 (vs:=qY) (by kernel_rfl) λB p r C=>⟨p.cl (by rw[rq,c4];show(D.now i).length=_;rw[f,qY,c4,l1]) (by rw[rq];exact iM _),by rw[tc,c4];exact f,cP p (us:=az (D.now i)) (by rw[c4,f,qY,c4,l1]) rfl λE s t F=>?_⟩⟩;have G:=g.size;have aH:D.d<ai.heap.size:=b.v.lt;refine⟨(b.ext (g.trans r)).ah t (λq u e=>by have:=b.lt u;omega),c2 (j.trans (af.c0 (g.trans r))) t λq u e=>I,.inr ⟨a,⟨some m.heap.size,256,256⟩,rfl,?_,bl _,λk y=>?_⟩⟩
 .have:=s.qH (o:=0) (n:=256) (c:=256) (l:=D.now i) (by rw[c4,f];decide) (by rw[iF,dX (by rw[c4,f];decide)])
  exact this
 .obtain⟨A,au,rfl⟩:=y
  cases au;have:=s.lt;exact⟨by show w.heap.size<=m.heap.size;omega,this⟩
theorem B5:∀ (l:O aa) (k:Nat) (a:Array aa),(l.zipIdx k).foldl (λcs (p:aa×Nat)=>cs.setIfInBounds p.2 p.1) a=gk a k l
 | [],_,_=>rfl
 |v::l,k,a=>by
  rw[List.zipIdx_cons,List.foldl_cons]
  exact B5 l (k+1) (a.setIfInBounds k v)
theorem yJ{P:Program}{T e:TypeId}{d:TypeDesc}{i:TypeInfo}{z:aa}{sz:Nat}{cs:Array aa}(w:J)(h1:P.underlying T=some (.slice e))(h2:P.underlying e=some d)(f:P.cellsOf e=sz)(hi:P.info? e=some i)(g:i.zero=some z)(a:cs.size=sz)(o:sz≠0)(q:sz<=16777216):
 Sem.run P (Instr.buildSlice T 1 #[(0,.agg cs)]) w=.ok (.slice (some w.heap.size) 1 1) (w.alloc (.cells cs e)):=by
 have b:=g2 (P:=P) (w:=w) h2;rw[f]at b;have h:Instr.fill (λi=>some (i*sz,sz)) ((Array.range (1*sz)).map λx=>z.cells[x%z.cells.size]!) [(0,.agg cs)]=some cs:=by
  have hc:(Value.agg cs).cells=cs:=rfl;rw[Instr.fill];simp only[hc];rw[if_neg (by simp[a]),Instr.fill];rw[←Array.foldl_toList,Array.toList_zipIdx];have e:(λ(cs:Array aa) (x:aa×Nat)=>match x with|(c,j)=>cs.setIfInBounds (0*sz+j) c)=λcs (p:aa×Nat)=>cs.setIfInBounds p.2 p.1:=by
   funext cs x;obtain⟨c,j⟩:=x;simp
  rw[e,B5]
  congr 1
  apply Array.toList_inj.1;rw[k4 _ _ _ (by simp[a])];simp[a]
 have k:=mZ (w:=w) hi;have l:¬(1*sz>2^24):=by
  have:(2:Nat)^24=16777216:=rfl;omega
 have m:¬(1*sz=0):=by omega
 have n:Instr.fill (λi=>some (i*sz,sz)) ((Array.range (1*sz)).map λx=>z.cells[x%z.cells.size]!) (#[(0,Value.agg cs)]:Array (Nat×aa)).toList=some cs:=h;simp only[Instr.buildSlice,Sem.run_bind,cZ h1,b,Result.andThen,l,m,if_false,zeroValue,k,g,Sem.run_pure,n];simp[newRow,newObj,Sem.run]
theorem B6(w:J)(l:dc)(a:l.length=256):
 Sem.run aj (Instr.buildSlice 124 1 #[(0,.agg (az l).toArray)]) w=.ok (.slice (some w.heap.size) 1 1) (w.alloc (.cells (az l).toArray 151)):=by
 have h:((Tryz.prog.info? 151).bind (·.zero)).isSome=true:=by kernel_rfl
 obtain⟨z,b⟩:=mL.1 h;obtain⟨i,hi,c⟩:=sG b;exact yJ (d:=.array 256 5) (sz:=256) w (by kernel_rfl) (by kernel_rfl) (by kernel_rfl) hi c (by rw[tc,c4,a]) (by decide) (by decide)
theorem Ha:g3 aj 124 151 256 256:=⟨by kernel_rfl⟩
theorem Hb{α:Type}{c:α->O aa}{l:O α}(h:∀x∈l,∀v∈c x,Plain v):∀v∈bu c l,Plain v:=by
 intro v a;obtain⟨x,hx,a⟩:=List.mem_flatten.1 a;obtain⟨b,d,rfl⟩:=fD.1 hx;exact h b d v a
def ba.put(D:ba)(i:Nat)(s:ad)(l:dc):ba:=
 {D.cD 2 with waits:=⟨i,s,D.e8 i++ [l]⟩::D.waits.filter (λx=>x.i !=i),writes:=IntKind.wrap .i64 (D.writes+1),a6:=D.a6+1}
theorem B7{D:ba}{i j:Nat}(h:j≠i):(D.waits.filter λx=>x.i !=i).find? (λx=>x.i==j)=D.waits.find? λx=>x.i==j:=by
 rw[List.find?_filter]
 congr 1
 funext x;by_cases e:x.i=j
 .rw[e];simp[h]
 .simp[e]
theorem B8(D:ba)(i:Nat)(s:ad)(l:dc)(j:Nat):(D.put i s l).e8 j=if j=i then D.e8 i++ [l] else D.e8 j:=by
 unfold ba.e8 ba.put;by_cases h:j=i
 .subst h
  simp[ba.e8]
 .rw[if_neg h]
  simp only;rw[List.find?_cons_of_neg (by simp;omega),B7 h]
theorem pc(D:ba)(i:Nat)(s:ad)(l:dc)(j:Nat):(D.put i s l).now j=if j=i then l else D.now j:=by
 unfold ba.now ba.put;by_cases h:j=i
 .subst h
  simp
 .rw[if_neg h]
  simp only;rw[List.find?_cons_of_neg (by simp;omega),B7 h];rfl
def B9(D:ba)(i:Nat)(l:dc)(w:J)(v:aa)(w':J):Prop:=
 (D.fX 2=true/\v=.int .i64 3/\dd w' (D.cD 2)/\af (λq=>q=D.d) w w')\/
 (D.fX 2=false/\v=.int .i64 0/\∃s:ad,dd w' (D.put i s l)/\af (cm D) w w'/\∀q,aB s q->cm D q\/w.heap.size<=q)
theorem v8{w:J}{D:ba}{b:ad}{l:dc}(h:dd w D){i:Nat}(hi:i<D.n)(bg:D.a6<=1000000000)(X:Src 1 w b (az l))(K:l.length=256)(hd:∀q,aB b q->¬cm D q):
 aJ aj 58 #[.pointer (some ⟨D.d,0,none⟩),.int .i64 ((i:Nat):Int),.slice b.a b.len b.cap] w (B9 D i l w):=by
 have aD:=len8 X;have bh:=h.bA;refine okF (ae.uC (some ⟨D.d,0,none⟩) ((i:Nat):Int) b) ax.uC func58 ?_;(delta ae.uC b6 ak xC aF st aq;dsimp only);refine(B3 h _).use ?_;rintro _ _ ⟨rfl,rfl⟩;have aT:decide (0<=(i:Int)/\(i:Int)<D.n)=true:=dI ⟨I,I⟩;refine⟨_,rfl,λh1=>?_,λ_=>⟨_,rfl,(yF h (k:=2) (by decide)).use ?_⟩⟩
 .rw[aT,aD,K]at h1
  simp at h1
 rintro _ ai ⟨rfl,G,Y,bi⟩;refine⟨_,rfl,λZ=>.inl ⟨Z,rfl,G,Y⟩,λZ=>aX ?_⟩;obtain⟨p,hold⟩:∃p:ad,(match D.waits.find? λx=>x.i==i with|some x=>x.s|none=>⟨none,0,0⟩)=p:=⟨_,rfl⟩;have z:=G.ext (cG ai);have aU:Src 1 ai.drew b (az l):=(X.ah Y λq f e=>hd q f (.inl e)).ext (cG ai)
 have aV:aW 256 151 ai.drew p (bu az (D.e8 i))/\(∀q,aB p q->cm D q/\q≠D.d/\q≠D.lb/\q≠D.mr)/\(∀x∈D.waits,x.i≠i->∀q,aB x.s q->¬aB p q)/\(D.e8 i).length<=D.a6/\(∀s∈D.e8 i,s.length=256)/\
  ∀w':J,eB w' D.mr encZ (D.waits.map hF.e)->Sem.run aj (Instr.lookup 125 (.map (some D.mr)) (.int .i64 ((i:Nat):Int)) false) w'=.ok (.slice p.a p.len p.cap) w':=by
  cases hf:D.waits.find? λx=>x.i==i with
  |some x=>
   rw[hf]at hold;have hold:x.s=p:=hold;subst hold;have hx:=j0 hf;have S:x.i=i:=by
    have:=kU hf;exact eq_of_beq this
   have e:D.e8 i=x.iy:=by unfold ba.e8;rw[hf]
   rw[e];refine⟨z.ws x hx,λq f=>⟨.inr (.inr (.inr ⟨x,hx,f⟩)),λe=>(h.a2 x hx).1 (e▸f),λe=>(h.a2 x hx).2.1 (e▸f),λe=>(h.a2 x hx).2.2 (e▸f)⟩,λy t B=>h.a3 y t x hx I,(h.wn x hx).2.2,h.nD x hx,λw' L=>L.AP qW nC (k:=(i:Int)) (v:=.slice x.s.a x.s.len x.s.cap) (fD.2 ⟨x,hx,by unfold hF.e;rw[S]⟩) false⟩
  |none=>
   rw[hf]at hold;have hold:(⟨none,0,0⟩:ad)=p:=hold;subst hold;have e:D.e8 i=[]:=by unfold ba.e8;rw[hf]
   rw[e];obtain⟨bj,h1,h2⟩:=sG B2;refine⟨aW.none _ _ _,λq f=>(fZ q f).elim,λx _ _ q _ f=>(fZ q f).elim,cL _,λs hs=>(by cases hs),λw' L=>L.AQ qW nC (k:=(i:Int)) h1 h2 (λv ab=>?_) false⟩;obtain⟨x,hx,he⟩:=fD.1 ab;have aY:=jZ.1 hf x hx;unfold hF.e at he;simp only[Prod.mk.injEq]at he;apply aY;have:x.i=i:=by omega
   rw[this];simp
 obtain⟨aE,C,aG,bk,aH,aI⟩:=aV;obtain⟨A,au,aZ⟩:∃A,b.a=some A/\bw ai.drew A 0 256=some (az l):=by
  cases aK:b.a with
  |none=>
   have:=congrArg List.length (X.nil aK);rw[c4,K]at this
   cases this
  |some A=>
   refine⟨A,rfl,?_⟩;have:=aU.rd A aK;rwa[aD,K]at this
 have a0:¬aB p A.block:=λf=>hd _ ⟨A,au,rfl⟩ (C _ f).1
 have aL:∀E:J,Ext ai.drew E->∃ (g:ad) (j:J),Sem.run aj (Builtin.append_ #[124,124] 124 #[.slice p.a p.len p.cap,.slice (some ⟨E.heap.size,0,none⟩) 1 1]) (E.alloc (.cells (az l).toArray 151))=.ok (.slice g.a g.len g.cap) j/\
  aW 256 151 j g (bu az (D.e8 i++ [l]))/\af (aB p) E j/\(∀k,aB g k->aB p k\/E.heap.size<=k)/\af (aB p) (E.alloc (.cells (az l).toArray 151)) j:=by
  intro E a4;have hlen:p.len=(D.e8 i).length:=by
   have:=aE.1;rw[fA (c:=az) (sz:=256) _ λs hs=>by rw[c4];exact aH s hs]at this;omega
  have ac:=da E (.cells (az l).toArray 151);obtain⟨g,j,aw,ay,F,M,N⟩:=Ha.append (cB:=124) (x:=⟨some ⟨E.heap.size,0,none⟩,1,1⟩) (Src.new (T:=151) E (az l) 1 (by rw[c4,K])) (aE.ext (a4.trans ac)) (iM l) (by rw[hlen];show(2*(_+1)+1000)*256<=_;omega);refine⟨g,j,aw,?_,(af.c0 ac).trans M,λk a5=>(N k a5).imp id λh=>?_,M⟩
  .rw[lN]
   have:bu az [l]=az l:=by simp[bu]
   rw[this];exact ay
  .have:=ac.size;omega
 have aM:∀ (j:J) (g:ad),eB j D.mr encZ (D.waits.map hF.e)->∃o:J,Sem.run aj (Instr.mapUpdate 125 (.map (some D.mr)) (.int .i64 ((i:Nat):Int)) (.slice g.a g.len g.cap)) j=.ok () o/\af (λq=>q=D.mr) j o/\
  eB o D.mr encZ ((hF.mk i g (D.e8 i++ [l])::D.waits.filter λx=>x.i !=i).map hF.e):=by
  intro j g L;have al:=L.keys;rw[nS]at al
  cases hf:D.waits.find? λx=>x.i==i with
  |some x=>
   have hx:=j0 hf;have S:x.i=i:=by
    have:=kU hf;exact eq_of_beq this
   obtain⟨bc,bt,he⟩:=List.append_of_mem hx;have B:∀y∈bc++bt,y.i≠i:=by
    intro y t e;rw[he,fJ,g0]at al;have h1:=(mU.nodup_iff).1 al;rw[List.nodup_cons]at h1;apply h1.1;rw[←fJ];refine fD.2 ⟨y,t,?_⟩;show((y.i:Nat):Int)=((x.i:Nat):Int);omega
   have am:D.waits.filter (λx=>x.i !=i)=bc++bt:=by
    rw[he,g1,List.filter_cons_of_neg (by simp[S])];rw[ie.2 λy t=>by have:=B y (jY _ t);simpa using this,ie.2 λy t=>by have:=B y (ig _ t);simpa using this]
   have a7:(D.waits.map hF.e).Perm (((i:Int),.slice x.s.a x.s.len x.s.cap)::(bc++bt).map hF.e):=by
    rw[he,fJ,g0,fJ];have:x.e=((i:Int),.slice x.s.a x.s.len x.s.cap):=by unfold hF.e;rw[S]
    rw[this];exact mU
   obtain⟨o,aw,ay,_,F⟩:=G4 qW nC (L.perm a7) (.slice g.a g.len g.cap);refine⟨o,aw,ay,?_⟩;rw[am];exact F
  |none=>
   have B:∀y∈D.waits,y.i≠i:=λy t e=>by
    have:=jZ.1 hf y t;rw[e]at this;simp at this
   have am:D.waits.filter (λx=>x.i !=i)=D.waits:=ie.2 λy t=>by simpa using B y t
   obtain⟨o,aw,ay,_,F⟩:=G3 qW nC (k:=(i:Int)) L (λv ab=>by
    obtain⟨x,hx,he⟩:=fD.1 ab;unfold hF.e at he;simp only[Prod.mk.injEq]at he;exact B x hx I) (.slice g.a g.len g.cap)
   refine⟨o,aw,ay,?_⟩;rw[am];exact F
 have fin:∀ (j o:J) (g:ad),af (aB p) ai.drew j->aW 256 151 j g (bu az (D.e8 i++ [l]))->(∀k,aB g k->aB p k\/ai.drew.heap.size<=k)->af (λq=>q=D.mr) j o->eB o D.mr encZ ((hF.mk i g (D.e8 i++ [l])::D.waits.filter λx=>x.i !=i).map hF.e)->
  ∃aN:ag,(some ⟨D.d,0,none⟩:av ag)=some aN/\∃n24:Int,o.cell? (aN.add 6)=some (.int .i64 n24)/\∃U:ag,(some ⟨D.d,0,none⟩:av ag)=some U/\(∃u:aa,o.cell? (U.add 6)=some u)/\o.frozen? (U.add 6)=false/\ao (o.setCell (U.add 6) (.int .i64 (IntKind.wrap .i64 (n24+1)))) λa8=>B9 D i l w (.int .i64 0) a8:=by
  intro j o g V a9 an aO a_;have bb:=z.v.ah V λf=>(C _ f).2.1 rfl;have ap:Var o D.d (D.cD 2).c 129:=bb.ah aO h.a1.2.1;have hlen:(D.cD 2).c.length=7:=G.yE;obtain⟨s1,s2⟩:=eA ap (i:=6) (by rw[hlen];decide);have aP:o.cell? (Addr.add ⟨D.d,0,none⟩ 6)=some (.int .i64 D.writes):=by
   rw[aA,cR,ap.cell];unfold ba.c;have:=G.f4;rw[iH (by rw[di];omega),di,this];rfl
  rw[aA,cR]at aP;refine⟨_,rfl,D.writes,by rw[aA,cR];exact aP,_,rfl,by rw[aA,cR];exact s1,by rw[aA,cR];exact s2,?_⟩;rw[aA,cR];have aQ:=dU o D.d 6 (.int .i64 (IntKind.wrap .i64 (D.writes+1)));have aR:=ez ap (i:=6) (.int .i64 (IntKind.wrap .i64 (D.writes+1)));have bd:(D.cD 2).c.set 6 (.int .i64 (IntKind.wrap .i64 (D.writes+1)))=(D.put i g l).c:=by
   have be:=G.f4;have O:(D.put i g l).c=(D.cD 2).cf.map (.int .i64)++ [.slice (some ⟨D.lb,0,none⟩) D.b4.length D.b4.length,.map (some D.mr),.int .i64 (IntKind.wrap .i64 (D.writes+1))]:=rfl;have P:(D.cD 2).c=(D.cD 2).cf.map (.int .i64)++ [.slice (some ⟨D.lb,0,none⟩) D.b4.length D.b4.length,.map (some D.mr),.int .i64 D.writes]:=rfl;rw[O,P,s7 _ _ (by rw[di];omega),di,be];rfl
  rw[bd]at aR;have W:af (λq=>q=D.mr\/q=D.d) j (o.setCell ⟨D.d,6,none⟩ (.int .i64 (IntKind.wrap .i64 (D.writes+1)))):=(aO.mono λq _ e=>.inl e).trans (aQ.mono λq _ e=>.inr e);have Q:∀q,aB g q->q≠D.d/\q≠D.lb/\q≠D.mr:=λq f=>by
   have bl:=z.lt (q:=D.d) (.inl rfl);have bn:=z.lt (q:=D.lb) (.inr (.inl rfl));have bo:=z.lt (q:=D.mr) (.inr (.inr (.inl rfl)));rcases an q f with h1|h1
   .exact(C q h1).2
   .exact⟨I,I,I⟩
  have H:∀x∈D.waits.filter (λx=>x.i !=i),x∈D.waits/\x.i≠i:=λx hx=>by
   obtain⟨h1,h2⟩:=gG.1 hx;exact⟨h1,by simpa using h2⟩
  refine aX (.inr ⟨Z,rfl,g,⟨aR,?_,?_,?_,?_,h.sl,?_,h.cc,h.bA,G.f4,G.fr,h.a1,?_,?_,G.r⟩,?_,?_⟩)
  .exact bm.ah (bm.ah z.l V λf=>(C _ f).2.2.1 rfl) W (by
    rintro(e|e)
    .exact h.a1.2.2 e
    .exact h.a1.1 e.symm)
  .exact a_.ah aQ (λe=>h.a1.2.1 e.symm)
  .intro x hx
   rcases cX.1 hx with rfl|hx
   .exact a9.ah W λq f=>by
     rintro(e|e)
     .exact(Q q f).2.2 e
     .exact(Q q f).1 e
   .obtain⟨h1,h2⟩:=H x hx
    refine((z.ws x h1).ah V λq f=>aG x h1 h2 q f).ah W λq f=>?_;rintro(e|e)
    .exact(h.a2 x h1).2.2 (e▸f)
    .exact(h.a2 x h1).1 (e▸f)
  .intro x hx
   rcases cX.1 hx with rfl|hx
   .refine⟨by simp,hi,?_⟩
    show(D.e8 i++ [l]).length<=D.a6+1;rw[cp,iG];omega
   .obtain⟨h1,h2⟩:=H x hx
    have:=h.wn x h1;exact⟨this.1,this.2.1,Nat.le_succ_of_le this.2.2⟩
  .intro x hx
   rcases cX.1 hx with rfl|hx
   .intro s hs
    rcases cK.1 hs with hs|hs
    .exact aH s hs
    .rw[fb.1 hs];exact K
   .exact h.nD x (H x hx).1
  .intro x hx
   rcases cX.1 hx with rfl|hx
   .exact⟨λf=>(Q _ f).1 rfl,λf=>(Q _ f).2.1 rfl,λf=>(Q _ f).2.2 rfl⟩
   .exact h.a2 x (H x hx).1
  .have aS:∀y∈D.waits,y.i≠i->∀q,aB y.s q->¬aB g q:=λy t B q f R=>by
    rcases an q R with h1|h1
    .exact aG y t B q f h1
    .have:=(z.ws y t).lt q f;omega
   intro x hx y t B q f R;rcases cX.1 hx with rfl|hx
   .rcases cX.1 t with rfl|t
    .exact B rfl
    .exact aS y (H y t).1 (λe=>B e.symm) q R f
   .rcases cX.1 t with rfl|t
    .exact aS x (H x hx).1 B q f R
    .exact h.a3 x (H x hx).1 y (H y t).1 B q f R
  .refine((Y.mono λq _ e=>.inl e).trans ((af.c0 (cG ai)).trans (V.mono λq _ f=>(C q f).1))).trans (W.mono λq _ f=>?_)
   rcases f with e|e
   .exact .inr (.inr (.inl e))
   .exact .inl e
  .intro q f
   rcases an q f with h1|h1
   .exact .inl (C q h1).1
   .have:ai.drew.heap.size=ai.heap.size:=rfl
    exact .inr I
 refine⟨aB p,_,rfl,λf=>(C _ f).2.1 rfl,some D.mr,z.iR,_,rfl,λf=>(C _ f).2.1 rfl,some D.mr,z.iR,I,A,au,a0,_,aZ,⟨?_,?_⟩⟩
 .obtain⟨g,j,aw,ay,F,M,N⟩:=aL ai.drew (.refl _ _)
  have ar:=z.m.ah F λf=>(C _ f).2.2.2 rfl;obtain⟨o,O,P,aC⟩:=aM j g ar;exact⟨p,_,aI _ z.m,.refl _ _,⟨some ⟨ai.drew.heap.size,0,none⟩,1,1⟩,_,B6 _ l K,af.c0 (da _ _),g,j,aw,N,o,O,fin j o g F ay M P aC⟩
 .obtain⟨g,j,aw,ay,F,M,N⟩:=aL ai.drew (.refl _ _)
  have bf:=z.m.ext (da ai.drew (.cells (az l).toArray 151));have ar:=z.m.ah F λf=>(C _ f).2.2.2 rfl;obtain⟨o,O,P,aC⟩:=aM j g ar;exact⟨⟨some ⟨ai.drew.heap.size,0,none⟩,1,1⟩,_,B6 _ l K,af.c0 (da _ _),p,_,aI _ bf,.refl _ _,g,j,aw,N,o,O,fin j o g F ay M P aC⟩
theorem Hc{P:Program}{e:TypeId}{v:aa}{sz:Nat}(a:((P.info? e).bind (·.zero)).map (·.cells)=some (List.replicate sz v).toArray)(hc:P.cellsOf e=sz)(hs:0<sz)(n:Nat):gS P e n=(List.replicate (n*sz) v).toArray:=by
 unfold gS;rw[hc]
 cases hi:(P.info? e).bind (·.zero) with
 |none=>rw[hi]at a;cases a
 |some z=>
  rw[hi]at a;simp only[lY,Option.some.injEq]at a;simp only[Option.getD_some];apply Array.ext
  .simp
  .intro i h1 h2
   have b:n*sz≠0:=by
    intro h;simp[h]at h2
   simp only[b,if_false,a,Array.getElem_map,Array.getElem_range];have aH:i%sz<sz:=gZ _ hs;simp[aH]
theorem Hd(m n:Nat):bu az (List.replicate n (List.replicate m 0))=List.replicate (n*m) (.int .u8 0):=by
 induction n with
 |zero=>simp[bu]
 |succ n a=>
  rw[List.replicate_succ,qV,a,ic,nR,Nat.add_comm];have e:az (List.replicate m 0)=List.replicate m (Value.int .u8 0):=by simp[az]
  rw[e,List.replicate_append_replicate]
def hG:dc:=List.replicate 256 0
theorem He(n:Nat):gS aj 151 n=(bu az (List.replicate n hG)).toArray:=by
 unfold hG;rw[Hd];exact Hc (by kernel_rfl) (by kernel_rfl) (by decide) n
def qZ(n d lb mr:Nat):ba:=⟨d,lb,mr,[-1, -1, -1, -1],List.replicate n hG,[],0,0,λ_=>false,λ_=> [],true⟩
theorem Hf{w:J}{b:Nat}{vs:O aa}{T:TypeId}(h:Var w b vs T)(g:4<=vs.length):
 aJ aj 52 #[.pointer (some b)] w (λv w'=>v=.tuple #[]/\Var w' b (List.replicate 4 (.int .i64 (-1))++vs.drop 4) T/\af (λq=>q=b) w w'/\w'.heap.size=w.heap.size):=by
 refine okF (ae.uz (some b)) ax.uz func52 ?_;(delta ae.uz ak st aq;dsimp only);refine⟨λi w'=>∃j:Nat,i=j/\j<=4/\Var w' b (List.replicate j (.int .i64 (-1))++vs.drop j) T/\af (λq=>q=b) w w'/\w'.heap.size=w.heap.size,λi _=>((4:Int)-i).toNat,⟨0,rfl,I,h,.refl _ _,rfl⟩,?_⟩;rintro _ w1 ⟨j,rfl,k,c,hc,f⟩;refine⟨λaH=>?_,λd=>?_⟩
 .have aH:j<4:=by have:=cj aH;omega
  have a:Addr.add b (Int.toNat (j:Int)*1)=⟨b,j,none⟩:=by rw[dg,ft,aA,cR]
  obtain⟨s1,s2⟩:=eA c (i:=j) (by simp;omega);rw[bn (n:=(j:Int)+1) I I];refine⟨_,rfl,⟨I,by show(j:Int)<4;omega⟩,by rw[a];exact s1,by rw[a];exact s2,aX ⟨⟨j+1,I,I,?_,?_,?_⟩,?_⟩⟩
  .have:=ez c (i:=j) (.int .i64 (-1))
   rw[a];have e:(List.replicate j (Value.int .i64 (-1))++vs.drop j).set j (.int .i64 (-1))=List.replicate (j+1) (.int .i64 (-1))++vs.drop (j+1):=by
    rw[s7 _ _ (by simp),l1,nQ,jW (show j<vs.length from I),List.set_cons_zero,List.replicate_succ',cz];rfl
   rwa[e]at this
  .rw[a];exact hc.trans (dU _ _ _ _)
  .rw[a];simpa[World.setCell] using f
  .show((4:Int)-((j:Int)+1)).toNat<((4:Int)-(j:Int)).toNat
   omega
 .have d:j=4:=by have:=cH d;omega
  subst d;exact⟨rfl,c,hc,f⟩
theorem qd{n:Nat}(h1:16<=n)(h2:n<=1600)(w:J):
 aJ aj 20 #[n] w (λv w'=>∃d lb mr:Nat,v=.tuple #[.pointer (some d),(0:Int)]/\dd w' (qZ n d lb mr)/\Ext w w'/\∀q,cm (qZ n d lb mr) q->w.heap.size<=q):=by
 refine okF (ae.qd (n:Int)) ax.qd func20 ?_;delta ae.qd ak kE Y gJ;refine⟨λh=>?_,λ_=>⟨⟨I,I,I,I⟩,?_⟩⟩
 .simp only[iY,cq]at h;omega
 rw[He,dg];have g:=bm.new w (bu az (List.replicate n hG)).toArray 151;have i:=da w (.cells (bu az (List.replicate n hG)).toArray 151);have j:=o6 w (.cells (bu az (List.replicate n hG)).toArray 151);obtain⟨w1,k⟩:∃w1,w1=w.alloc (.cells (bu az (List.replicate n hG)).toArray 151):=⟨_,rfl⟩;rw[←k]at g i j⊢;obtain⟨aw,ay⟩:=eB.make (P:=aj) (enc:=encZ) 125 w1;have a:=da w1 (.map #[] 0);have l:=o6 w1 (.map #[] 0);obtain⟨ai,m⟩:∃ai,ai=w1.alloc (.map #[] 0):=⟨_,rfl⟩;rw[←m]at aw ay a l;refine aX ⟨some w1.heap.size,ai,aw,#[(0:Int),(0:Int),(0:Int),(0:Int),.slice (some w.heap.size) n n,.map (some w1.heap.size),(0:Int)],by kernel_rfl,a8 (vs:=[(0:Int),(0:Int),(0:Int),(0:Int),.slice (some w.heap.size) n n,.map (some w1.heap.size),(0:Int)]) rfl λr o b t=>⟨_,rfl,(Hf o (by show 4<=7;decide)).use ?_⟩⟩;rintro _ u ⟨rfl,p,f,y⟩;refine⟨rfl,ai.heap.size,w.heap.size,w1.heap.size,rfl,⟨?_,?_,?_,λx hx=>(by cases hx),λx hx=>(by cases hx),λs hs=>?_,λx hx=>(by cases hx),?_,?_,rfl,λx hx=>?_,?_,λx hx=>(by cases hx),λx hx=>(by cases hx),λ_=>rfl⟩,Ext.cy (i.trans (a.trans b)) f I,?_⟩
 .have e:(qZ n ai.heap.size w.heap.size w1.heap.size).c=List.replicate 4 (.int .i64 (-1))++ [Value.int .i64 0,(0:Int),(0:Int),(0:Int),.slice (some w.heap.size) n n,.map (some w1.heap.size),(0:Int)].drop 4:=by
   unfold ba.c qZ;simp
  rw[e];exact p
 .exact bm.ah ((g.ext a).ext b) f (by show¬w.heap.size=ai.heap.size;omega)
 .exact(ay.ext b).ah f I
 .rw[wJ hs,hG,l1]
 .show 16<=(List.replicate n hG).length;simpa using h1
 .show(List.replicate n hG).length<=1600;simpa using h2
 .have:x= -1:=by
   simp[qZ]at hx;exact hx
  subst this;exact⟨by decide,by decide⟩
 .exact⟨by show ai.heap.size≠w.heap.size;omega,by show ai.heap.size≠w1.heap.size;omega,by show w.heap.size≠w1.heap.size;omega⟩
 .rintro q (rfl|rfl|rfl|⟨x,hx,_⟩)
  .show w.heap.size<=ai.heap.size;omega
  .exact bl _
  .show w.heap.size<=w1.heap.size;omega
  .cases hx
structure eP where
 root:Nat
 aL:Nat
 map:Nat
 clock:Nat
 dn:Nat
 keys:Nat
 deriving DecidableEq
def B_:eP:=⟨0,0,0,0,0,0⟩
def eP.c(u:eP):O aa:=[u.root,u.aL,u.map,.int .u64 (u.clock:Nat),.int .u64 (u.dn:Nat),u.keys]
structure nE(u:eP):Prop where
 root:u.root<4294967296
 aL:u.aL<256
 map:u.map<4294967296
 clock:u.clock<18446744073709551616
 dn:u.dn<18446744073709551616
 keys:u.keys<4294967296
def gO(u:eP)(n:Nat):O UInt8:=[]++bL u.root 4++bL u.aL 1++bL u.map 4++bL n 4++bL u.clock 8++bL u.dn 8++bL u.keys 4
def q0(b:O UInt8):eP:=⟨dz b 0 4,dz b 4 1,dz b 5 4,dz b 13 8,dz b 21 8,dz b 29 4⟩
def nF(u:eP)(n:Nat):Prop:=(u.root=0↔u.aL=0)/\u.aL<=12/\u.root<n/\u.map<n/\2<=u.map/\n<=1600
instance Kj(u:eP)(n:Nat):Decidable (nF u n):=by unfold nF;infer_instance
def sI(no:Int)(l:O UInt8):Except Int (eP×Nat×Nat):=match fe no l with
 | .error e=>.error e
 | .ok p=>if p.kind≠3\/p.body.length≠33 then .error 4 else if nF (q0 p.body) (dz p.body 9 4) then .ok (q0 p.body,dz p.body 9 4,p.gen) else .error 4
theorem Ca(u:eP)(n:Nat):(gO u n).length=33:=by simp[gO,du]
theorem Hg{u:eP}{n:Nat}(h:nE u)(c:n<4294967296):q0 (gO u n)=u/\dz (gO u n) 9 4=n:=by
 have e:∀ {k x m:Nat} (a b:O UInt8),gO u n=a++(bL x k++b)->a.length=m->x<256^k->dz (gO u n) m k=x:=λa b he d hx=>by rw[he];exact sA d hx
 have f:=h.keys;refine⟨?_,e (bL u.root 4++bL u.aL 1++bL u.map 4) (bL u.clock 8++(bL u.dn 8++bL u.keys 4)) (by simp[gO]) (by simp[du]) c⟩;unfold q0;rw[e (m:=0) [] (bL u.aL 1++(bL u.map 4++(bL n 4++(bL u.clock 8++(bL u.dn 8++bL u.keys 4))))) (by simp[gO]) rfl h.root,
  e (bL u.root 4) (bL u.map 4++(bL n 4++(bL u.clock 8++(bL u.dn 8++bL u.keys 4)))) (by simp[gO]) (by simp[du]) h.aL,
  e (bL u.root 4++bL u.aL 1) (bL n 4++(bL u.clock 8++(bL u.dn 8++bL u.keys 4))) (by simp[gO]) (by simp[du]) h.map,
  e (bL u.root 4++bL u.aL 1++bL u.map 4++bL n 4) (bL u.dn 8++bL u.keys 4) (by simp[gO]) (by simp[du]) h.clock,
  e (bL u.root 4++bL u.aL 1++bL u.map 4++bL n 4++bL u.clock 8) (bL u.keys 4) (by simp[gO]) (by simp[du]) h.dn,
  e (bL u.root 4++bL u.aL 1++bL u.map 4++bL n 4++bL u.clock 8++bL u.dn 8) [] (by simp[gO]) (by simp[du]) f]
def jN(u:eP)(n gen:Nat):jh:=⟨3,gen,gO u n⟩
theorem yK{u:eP}{n gen:Nat}(hg:gen<18446744073709551616):nz (jN u n gen):=⟨(by decide:1<=3),(by decide:3<=4),hg,by show(gO u n).length<=232;rw[Ca];decide⟩
theorem Cb{u:eP}{n gen no:Nat}(h:nE u)(hu:nF u n)(hg:gen<18446744073709551616)(a:no<1600):sI no (eE no (jN u n gen))=.ok (u,n,gen):=by
 unfold sI;rw[vL a (yK hg)];have b:n<4294967296:=by have:=hu.2.2.2.2.2;omega
 obtain⟨h1,h2⟩:=Hg h b;show(if (3:Nat)≠3\/(gO u n).length≠33 then _ else if nF (q0 (gO u n)) (dz (gO u n) 9 4) then Except.ok (q0 (gO u n),dz (gO u n) 9 4,gen) else _)=_;rw[h1,h2,if_neg (by rw[Ca];simp),if_pos hu]
section
variable {w w':J}{h:Nat}{vs:O aa}{u:eP}
theorem eP.plain(u:eP):∀v∈u.c,Plain v:=by
 intro v a;simp only[eP.c,cX,fk,fv]at a;rcases a with rfl|rfl|rfl|rfl|rfl|rfl<;>trivial
theorem q1(a:Var w h u.c 90){K:Int->Int->Int->Int->Int->Int->Prop}(d:K (u.root:Nat) (u.aL:Nat) (u.map:Nat) (u.clock:Nat) (u.dn:Nat) (u.keys:Nat)):
 ∃cc:Int,w.cell? h=some (.int .i64 cc)/\∃bA:Int,w.cell? (Addr.add h 1)=some (.int .i64 bA)/\∃b:Int,w.cell? (Addr.add h 2)=some (.int .i64 b)/\
  ∃bV:Int,w.cell? (Addr.add h 3)=some (.int .u64 bV)/\∃n5:Int,w.cell? (Addr.add h 4)=some (.int .u64 n5)/\∃n6:Int,w.cell? (Addr.add h 5)=some (.int .i64 n6)/\K cc bA b bV n5 n6:=
 ⟨_,a.cell,_,by rw[aA];exact a.cell,_,by rw[aA];exact a.cell,_,by rw[aA];exact a.cell,_,by rw[aA];exact a.cell,_,by rw[aA];exact a.cell,d⟩
theorem Cc(a:Var w h vs 90)(b:vs.length=6)(u:eP){K:J->Prop}(d:∀ai,Var ai h u.c 90->af (λq=>q=h) w ai->ai.heap.size=w.heap.size->K ai):
 bI w h [u.root,u.aL,u.map,.int .u64 (u.clock:Nat),.int .u64 (u.dn:Nat),u.keys]/\(6:Nat)=6/\
  ao (setCells w h 0 [u.root,u.aL,u.map,.int .u64 (u.clock:Nat),.int .u64 (u.dn:Nat),u.keys]) K:=
 ⟨a.cl (by rw[b];rfl) u.plain,rfl,cP a (us:=u.c) (by rw[b];rfl) rfl λai e hc f=>d ai e hc f⟩
end
theorem ql{w:J}{u:eP}(h:nE u){n:Nat}(y:n<4294967296):aJ aj 119 #[.agg u.c.toArray,n] w (λv w'=>∃s:ad,v=s/\aW 1 5 w' s (az (gO u n))/\Ext w w'/\gq w s):=by
 have h1:=h.root;have h2:=h.aL;have z:=h.map;have V:=h.clock;have W:=h.dn;have A:=h.keys;have a:∀ {x:Nat},x<4294967296->IntKind.wrap .u64 (x:Int)=(x:Int):=λ{x} hx=>gw I I;refine okF (ae.ql (u.root:Nat) (u.aL:Nat) (u.map:Nat) (u.clock:Nat) (u.dn:Nat) (u.keys:Nat) (n:Nat)) ax.ql func119 ?_;(delta ae.ql aF Y bD cr;dsimp only);refine a8 (vs:=u.c) rfl λw1 b B X=>⟨_,b.cell,?_⟩;rw[a h1];refine(gL (s:=⟨none,0,0⟩) (l:=[]) (aW.none 1 5 w1).src (cL _) (n:=u.root) I (by decide)).use ?_;rintro _ ai ⟨s2,rfl,C,d,Z⟩;have e:=b.ext d;refine⟨s2,rfl,_,by rw[aA];exact e.cell,?_⟩;rw[a (x:=u.aL) I];refine(gL C.src (by simp[du]) (n:=u.aL) I (by decide)).use ?_;rintro _ aa ⟨D,rfl,E,f,ab⟩;have g:=e.ext f;refine⟨D,rfl,_,by rw[aA];exact g.cell,?_⟩;rw[a z];refine(gL E.src (by simp[du]) (n:=u.map) I (by decide)).use ?_;rintro _ ac ⟨F,rfl,G,i,af⟩;have H:=g.ext i;refine⟨F,rfl,?_⟩;rw[a y];refine(gL G.src (by simp[du]) (n:=n) I (by decide)).use ?_;rintro _ ag ⟨K,rfl,L,j,ah⟩;have k:=H.ext j;refine⟨K,rfl,_,by rw[aA];exact k.cell,?_⟩;refine(gL L.src (by simp[du]) (n:=u.clock) I (by decide)).use ?_;rintro _ ak ⟨M,rfl,N,m,al⟩;have o:=k.ext m;refine⟨M,rfl,_,by rw[aA];exact o.cell,?_⟩;refine(gL N.src (by simp[du]) (n:=u.dn) I (by decide)).use ?_;rintro _ am ⟨O,rfl,P,p,an⟩;have Q:=o.ext p;refine⟨O,rfl,_,by rw[aA];exact Q.cell,?_⟩;rw[a A];refine(gL P.src (by simp[du]) (n:=u.keys) I (by decide)).use ?_;rintro _ ao ⟨r,rfl,R,S,T⟩;have t:=Ext.trans (Ext.trans (Ext.trans (Ext.trans (Ext.trans (Ext.trans B d) f) i) j) m) p;refine⟨r,rfl,r,rfl,R,Ext.trans t S,λq U=>?_⟩;have:=T q U;have:=t.size;omega
variable {w w':J}
theorem Src.cut{sz:Nat}{s:ad}{vs:O aa}{lo hi:Nat}(h:Src sz w s vs)(hc:s.len<=s.cap)(h1:lo<=hi)(h2:hi<=s.len):
 Src sz w ⟨aY s.a sz lo s.cap,hi-lo,s.cap-lo⟩ ((vs.drop (lo*sz)).take ((hi-lo)*sz)):=by
 have f:=h.len;have g:hi*sz<=s.len*sz:=mS _ h2;have i:lo*sz+(hi-lo)*sz=hi*sz:=by rw[←ic,Nat.add_sub_cancel' h1]
 refine⟨by simp;omega,λc=>?_,λa b=>?_⟩
 .have d:s.a=none:=by
   unfold aY at c;split at c
   .exact c
   .simpa using c
  simp[h.nil d]
 .show bw w a 0 ((hi-lo)*sz)=_
  by_cases e:hi=lo
  .rw[show hi-lo=0 from I];simp[bw]
  .have au:∃A,s.a=some A/\a=A.add (lo*sz):=by
    unfold aY at b;rw[if_neg I]at b
    cases hs:s.a with
    |none=>rw[hs]at b;cases b
    |some A=>rw[hs]at b;exact⟨A,rfl,by simpa using b.symm⟩
   obtain⟨A,au,rfl⟩:=au;exact xv (h.rd A au) I
theorem Hh{s:ad}{sz n:Nat}{q:Nat}:aB ⟨aY s.a sz 0 s.cap,n-0,s.cap-0⟩ q↔aB s q:=by
 rw[xt];exact Iff.rfl
section
variable {P:Program}{cE e cB:TypeId}{sz bytes:Nat}
structure hJ(sz:Nat)(e:TypeId)(w0 w:J)(s:ad)(l:O aa):Prop where
 o:aW sz e w s l
 x:Ext w0 w
 f:∀q,aB s q->w0.heap.size<=q
theorem Ext.new{a:Nat->Prop}{w0 w1 ai:J}(hx:Ext w0 w1)(h:af a w1 ai)(cw:∀q,a q->w0.heap.size<=q):Ext w0 ai/\af (λq=>w0.heap.size<=q) w1 ai:=
 ⟨Ext.dS hx h cw,h.mono λq _ b=>cw q b⟩
theorem hJ.app(h:g3 P cE e sz bytes){w0 w1:J}{s x:ad}{l xs:O aa}(hs:hJ sz e w0 w1 s l)(hx:Src sz w1 x xs)(d:∀v∈xs,Plain v)(g:(2*(s.len+x.len)+1000)*bytes<=281474976710656):
 ∃ (a:ad) (ai:J),Sem.run P (Builtin.append_ #[cE,cE] cB #[s,x]) w1=.ok a ai/\af (λq=>w0.heap.size<=q) w1 ai/\hJ sz e w0 ai a (l++xs)/\
  a.len=s.len+x.len/\af (aB s) w1 ai/\∀q,aB a q->aB s q\/w1.heap.size<=q:=by
 obtain⟨a,ai,aw,ay,i,b,c⟩:=h.append (cB:=cB) hx hs.o d g;obtain⟨b9,ct⟩:=Ext.new hs.x b hs.f;exact⟨a,ai,aw,ct,⟨ay,b9,λq j=>(c q j).elim (hs.f q) λh=>eK hs.x.size h⟩,i,b,c⟩
theorem size_le{a b c:Nat}(h:(2*b+1000)*c<=281474976710656)(d:a<=b):(2*a+1000)*c<=281474976710656:=eK (mS _ I) h
theorem Cd(h:g3 P cE e sz bytes){x u M:O aa}{s1 s2:ad}{w0:J}
 (V:∀w:J,Sem.run P (Instr.buildSlice cE 0 #[]) w=.ok (.slice (some w.heap.size) 0 0) (w.alloc (.cells #[] e)))
 (cx:∀w:J,Sem.run P (Instr.buildSlice cE 1 #[(0,.agg x.toArray)]) w=.ok (.slice (some w.heap.size) 1 1) (w.alloc (.cells x.toArray e)))
 (hx:x.length=sz) (h1:Src sz w0 s1 u) (h2:Src sz w0 s2 M) (aO:∀v∈x,Plain v) (bk:∀v∈u,Plain v) (bh:∀v∈M,Plain v)
 (y:(2*(s1.len+s2.len+1)+1000)*bytes<=281474976710656) {K:ad->J->Prop} (an:∀W w',hJ sz e w0 w' W (u++x++M)->K W w'):
 (∃N:ad,∃p:J,Sem.run P (Instr.buildSlice cE 0 #[]) w0=.ok N p/\af (λq=>w0.heap.size<=q) w0 p/\(
   (∃d:ad,∃g:J,Sem.run P (Builtin.append_ #[cE,cE] cB #[N,s1]) p=.ok d g/\af (λq=>w0.heap.size<=q) p g/\
     ∃m:ad,∃B:J,Sem.run P (Instr.buildSlice cE 1 #[(0,.agg x.toArray)]) g=.ok m B/\af (λq=>w0.heap.size<=q) g B/\
     ∃i:ad,∃c:J,Sem.run P (Builtin.append_ #[cE,cE] cB #[d,m]) B=.ok i c/\af (λq=>w0.heap.size<=q) B c/\
     ∃n:ad,∃k:J,Sem.run P (Builtin.append_ #[cE,cE] cB #[i,s2]) c=.ok n k/\af (λq=>w0.heap.size<=q) c k/\K n k)/\
   (∃X:ad,∃C:J,Sem.run P (Instr.buildSlice cE 1 #[(0,.agg x.toArray)]) p=.ok X C/\af (λq=>w0.heap.size<=q) p C/\
     ∃Y:ad,∃D:J,Sem.run P (Builtin.append_ #[cE,cE] cB #[N,s1]) C=.ok Y D/\af (λq=>w0.heap.size<=q) C D/\
     ∃Z:ad,∃E:J,Sem.run P (Builtin.append_ #[cE,cE] cB #[Y,X]) D=.ok Z E/\af (λq=>w0.heap.size<=q) D E/\
     ∃ab:ad,∃Q:J,Sem.run P (Builtin.append_ #[cE,cE] cB #[Z,s2]) E=.ok ab Q/\af (λq=>w0.heap.size<=q) E Q/\K ab Q)))/\
 (∃ac:ad,∃F:J,Sem.run P (Instr.buildSlice cE 1 #[(0,.agg x.toArray)]) w0=.ok ac F/\af (λq=>w0.heap.size<=q) w0 F/\
   ∃ae:ad,∃G:J,Sem.run P (Instr.buildSlice cE 0 #[]) F=.ok ae G/\af (λq=>w0.heap.size<=q) F G/\
   ∃ag:ad,∃H:J,Sem.run P (Builtin.append_ #[cE,cE] cB #[ae,s1]) G=.ok ag H/\af (λq=>w0.heap.size<=q) G H/\
   ∃aj:ad,∃L:J,Sem.run P (Builtin.append_ #[cE,cE] cB #[ag,ac]) H=.ok aj L/\af (λq=>w0.heap.size<=q) H L/\
   ∃ak:ad,∃R:J,Sem.run P (Builtin.append_ #[cE,cE] cB #[aj,s2]) L=.ok ak R/\af (λq=>w0.heap.size<=q) L R/\K ak R):=by
 have lC:∀ (w:J) (o:Obj),Ext w (w.alloc o):=λw o=>af.alloc (.refl _ _) o;have dp:∀w:J,Ext w0 w->hJ sz e w0 (w.alloc (.cells #[] e)) ⟨some w.heap.size,0,0⟩ []:=λw al=>
  ⟨aW.new (T:=e) w [] 0 (by simp) (by decide),Ext.trans al (lC w _),λq l=>by rw[jb]at l;have:=al.size;simp at l;omega⟩
 have S:∀w:J,Src sz (w.alloc (.cells x.toArray e)) ⟨some w.heap.size,1,1⟩ x:=λw=>Src.new w x 1 (by simpa using hx);have z:∀ {w ai:J},Ext w ai->af (λq=>w0.heap.size<=q) w ai:=λh=>af.c0 h;have ao:∀ {s:ad}{a b:J},hJ sz e w0 a s []->Ext a b->hJ sz e w0 b s []:=λh hx=>⟨h.o.ext hx,Ext.trans h.x hx,h.f⟩
 have tail:∀ {w1 ai:J}{d m:ad},hJ sz e w0 w1 d u->d.len=s1.len->Ext w1 ai->Src sz ai m x->m.len=1->
  ∃i:ad,∃c:J,Sem.run P (Builtin.append_ #[cE,cE] cB #[d,m]) ai=.ok i c/\af (λq=>w0.heap.size<=q) ai c/\
   ∃n:ad,∃k:J,Sem.run P (Builtin.append_ #[cE,cE] cB #[i,s2]) c=.ok n k/\af (λq=>w0.heap.size<=q) c k/\K n k:=by
  intro w1 ai d m hf au am ap av;have aq:hJ sz e w0 ai d u:=⟨hf.o.ext am,Ext.trans hf.x am,hf.f⟩;obtain⟨i,c,aw,ay,j,t,_,_⟩:=hJ.app (cB:=cB) h aq ap aO (size_le y I);obtain⟨n,k,b9,ct,ar,_,_,_⟩:=hJ.app (cB:=cB) h j (h2.ext j.x) bh (size_le y I);exact⟨i,c,aw,ay,n,k,b9,ct,an _ _ ar⟩
 refine⟨⟨⟨some w0.heap.size,0,0⟩,_,V w0,z (lC _ _),?_,?_⟩,?_⟩
 .have f0:=dp w0 (.refl _ _)
  obtain⟨d,g,aw,ay,j,t,_,_⟩:=hJ.app (cB:=cB) h f0 (h1.ext f0.x) bk (size_le y (by simp;omega));rw[hU]at j;obtain⟨i,c,r⟩:=tail j (by simpa using t) (lC g (.cells x.toArray e)) (S g) rfl;exact⟨d,g,aw,ay,⟨some g.heap.size,1,1⟩,_,cx g,z (lC _ _),i,c,r⟩
 .have f0:=ao (dp w0 (.refl _ _)) (lC _ (.cells x.toArray e))
  obtain⟨d,g,aw,ay,j,t,U,_⟩:=hJ.app (cB:=cB) h f0 (h1.ext f0.x) bk (size_le y (by simp;omega));rw[hU]at j;have hs:=(S (w0.alloc (.cells #[] e))).ah U λq l A=>by
   rw[jb]at l A;simp at l A;omega
  obtain⟨i,c,r⟩:=tail j (by simpa using t) (.refl _ _) hs rfl;exact⟨⟨some ⟨(w0.alloc (.cells #[] e)).heap.size,0,none⟩,1,1⟩,_,cx _,z (lC _ _),d,g,aw,ay,i,c,r⟩
 .have f0:=dp (w0.alloc (.cells x.toArray e)) (lC _ _)
  obtain⟨d,g,aw,ay,j,t,U,_⟩:=hJ.app (cB:=cB) h f0 (h1.ext f0.x) bk (size_le y (by simp;omega));rw[hU]at j;have hs:=((S w0).alloc (.cells #[] e)).ah U λq l A=>by
   rw[jb]at l A;simp at l A;omega
  obtain⟨i,c,r⟩:=tail j (by simpa using t) (.refl _ _) hs rfl;exact⟨⟨some w0.heap.size,1,1⟩,_,cx _,z (lC _ _),⟨some ⟨(w0.alloc (.cells x.toArray e)).heap.size,0,none⟩,0,0⟩,_,V _,z (lC _ _),d,g,aw,ay,i,c,r⟩
end
end Go.Proofs.YtcmgnhkpfllinaaGreat
namespace Go.Proofs.YtcmgnhkpfllinaaGreat
open Go Go.Proofs Go.Shelf
def Hi:Go.Shelf.Ren:=⟨λ |5=>140|8=>197|7=>196|19=>246|20=>247|10=>237|11=>238|12=>239|13=>240|14=>241|15=>242|16=>243|17=>244|18=>245|30=>267|31=>268|32=>269|33=>270|34=>271|35=>272|40=>278|n=>n,λ |23=>72|25=>3|3=>3|32=>30|22=>72|0=>0|44=>211|46=>23|4=>4|36=>330|35=>329|41=>224|5=>5|9=>9|53=>351|57=>355|63=>359|64=>226|n=>n,λ |n=>n⟩
theorem Ce:Go.Proofs.SlLaysM.n5 Tryz.prog Hi:={
 mixed:=by kernel_rfl
 f5:=⟨Tryz.f140.name,by decide,Tryz.func140.trans (congrArg some (by kernel_rfl))⟩
 f7:=⟨Tryz.f196.name,by decide,Tryz.func196.trans (congrArg some (by kernel_rfl))⟩
 f8:=Tryz.func197.trans (congrArg some (by kernel_rfl))
 f10:=⟨Tryz.f237.name,by decide,Tryz.func237.trans (congrArg some (by kernel_rfl))⟩
 f11:=⟨Tryz.f238.name,by decide,Tryz.func238.trans (congrArg some (by kernel_rfl))⟩
 f12:=⟨Tryz.f239.name,by decide,Tryz.func239.trans (congrArg some (by kernel_rfl))⟩
 f13:=⟨Tryz.f240.name,by decide,Tryz.func240.trans (congrArg some (by kernel_rfl))⟩
 f14:=⟨Tryz.f241.name,by decide,Tryz.func241.trans (congrArg some (by kernel_rfl))⟩
 f15:=⟨Tryz.f242.name,by decide,Tryz.func242.trans (congrArg some (by kernel_rfl))⟩
 f16:=⟨Tryz.f243.name,by decide,Tryz.func243.trans (congrArg some (by kernel_rfl))⟩
 f17:=⟨Tryz.f244.name,by decide,Tryz.func244.trans (congrArg some (by kernel_rfl))⟩
 f18:=⟨Tryz.f245.name,by decide,Tryz.func245.trans (congrArg some (by kernel_rfl))⟩
 f19:=Tryz.func246.trans (congrArg some (by kernel_rfl))
 f20:=Tryz.func247.trans (congrArg some (by kernel_rfl))
 f30:=⟨Tryz.f267.name,by decide,Tryz.func267.trans (congrArg some (by kernel_rfl))⟩
 f31:=Tryz.func268.trans (congrArg some (by kernel_rfl))
 f32:=Tryz.func269.trans (congrArg some (by kernel_rfl))
 f33:=⟨Tryz.f270.name,by decide,Tryz.func270.trans (congrArg some (by kernel_rfl))⟩
 f34:=⟨Tryz.f271.name,by decide,Tryz.func271.trans (congrArg some (by kernel_rfl))⟩
 f35:=⟨Tryz.f272.name,by decide,Tryz.func272.trans (congrArg some (by kernel_rfl))⟩
 f40:=⟨Tryz.f278.name,by decide,Tryz.func278.trans (congrArg some (by kernel_rfl))⟩
 t0:=Tryz.underlying0
 a0:=Tryz.isAgg0
 z0:=Tryz.sizeOf0
 v0:=Tryz.zeroValue0
 t3:=Tryz.underlying3
 a3:=Tryz.isAgg3
 z3:=Tryz.sizeOf3
 v3:=Tryz.zeroValue3
 t4:=Tryz.underlying4
 a4:=Tryz.isAgg4
 z4:=Tryz.sizeOf4
 v4:=Tryz.zeroValue4
 t5:=Tryz.underlying5
 a5:=Tryz.isAgg5
 z5:=Tryz.sizeOf5
 v5:=Tryz.zeroValue5
 t9:=Tryz.underlying9
 a9:=Tryz.isAgg9
 z9:=Tryz.sizeOf9
 v9:=Tryz.zeroValue9
 t22:=Tryz.underlying72
 a22:=Tryz.isAgg72
 z22:=Tryz.sizeOf72
 v22:=Tryz.zeroValue72
 t23:=Tryz.underlying72
 a23:=Tryz.isAgg72
 z23:=Tryz.sizeOf72
 v23:=Tryz.zeroValue72
 t25:=Tryz.underlying3
 a25:=Tryz.isAgg3
 z25:=Tryz.sizeOf3
 v25:=Tryz.zeroValue3
 t32:=Tryz.underlying30
 a32:=Tryz.isAgg30
 z32:=Tryz.sizeOf30
 v32:=Tryz.zeroValue30
 t35:=Tryz.underlying329
 a35:=Tryz.isAgg329
 z35:=Tryz.sizeOf329
 v35:=Tryz.zeroValue329
 t36:=Tryz.underlying330
 a36:=Tryz.isAgg330
 z36:=Tryz.sizeOf330
 v36:=Tryz.zeroValue330
 t41:=Tryz.underlying224
 a41:=Tryz.isAgg224
 z41:=Tryz.sizeOf224
 v41:=Tryz.zeroValue224
 t44:=Tryz.underlying211
 a44:=Tryz.isAgg211
 z44:=Tryz.sizeOf211
 v44:=Tryz.zeroValue211
 t46:=Tryz.underlying23
 a46:=Tryz.isAgg23
 z46:=Tryz.sizeOf23
 v46:=Tryz.zeroValue23
 t53:=Tryz.underlying351
 a53:=Tryz.isAgg351
 z53:=Tryz.sizeOf351
 v53:=Tryz.zeroValue351
 t57:=Tryz.underlying355
 a57:=Tryz.isAgg355
 z57:=Tryz.sizeOf355
 v57:=Tryz.zeroValue355
 t63:=Tryz.underlying359
 a63:=Tryz.isAgg359
 z63:=Tryz.sizeOf359
 v63:=Tryz.zeroValue359
 t64:=Tryz.underlying226
 a64:=Tryz.isAgg226
 z64:=Tryz.sizeOf226
 v64:=Tryz.zeroValue226}
end Go.Proofs.YtcmgnhkpfllinaaGreat
namespace Go.Proofs.YtcmgnhkpfllinaaGreat
open Go aQ Go.Proofs.Tryz
theorem Hj{w:J}{b n:Nat}{c:Array aa}{T:TypeId}{os:Array Obj}{zs:O Int}(h:bm w b c T)(g:zs.length<=c.size):
 ∃c':Array aa,bm (Go.Sort.grow (Go.Sort.putRow (Value.int .i64) (Go.Sort.ahead w n) b 0 zs.toArray) os) b c' T/\c'.size=c.size/\c'.toList.take zs.length=zs.map encZ/\af (λq=>q=b) w (Go.Sort.grow (Go.Sort.putRow (Value.int .i64) (Go.Sort.ahead w n) b 0 zs.toArray) os):=by
 have aH:=h.lt;have d:∀k,k<w.heap.size->(Go.Sort.grow (Go.Sort.putRow (Value.int .i64) (Go.Sort.ahead w n) b 0 zs.toArray) os).heap[k]? =(w.heap.modify b (Go.Sort.onCells (Go.Sort.putCells (Value.int .i64) 0 zs.toArray)))[k]? :=λk a=>by
  show((w.heap.modify b _)++os)[k]? =_;rw[Array.getElem?_append_left (by simpa using a)]
 refine⟨Go.Sort.putCells (Value.int .i64) 0 zs.toArray c,?_,by simp[Go.Sort.putCells],?_,rfl,rfl,rfl,?_,λk a f=>?_⟩
 .unfold bm at h⊢
  rw[d b aH,sY,if_pos rfl,h];rfl
 .apply List.ext_getElem?
  intro i;rw[s4];split
  .rename_i hi
   rw[Array.getElem?_toList,Go.Sort.putCells,Array.getElem?_mapIdx,Array.getElem?_eq_getElem I,lY,if_pos ⟨cL _,by simpa using hi⟩,nW,dC hi];simp[hi]
  .rename_i hi
   rw[nZ (by simpa using hi)]
 .show w.heap.size<=((w.heap.modify b _)++os).size
  simp
 .rw[d k a,sY,if_neg (λe=>f e.symm)]
theorem Hk{w:J}{s:ad}{zs:O Int}(h:aW 1 3 w s (zs.map encZ))(E:zs.length<=1000000):
 aJ aj 140 #[s] w (λv w'=>v=.tuple #[]/\af (aB s) w w'/\∃ys:O Int,aW 1 3 w' s (ys.map encZ)/\ys.Perm zs/\ys.Pairwise λa b=>a<=b):=by
 have F:s.len=zs.length:=by have:=h.1;rw[di]at this;omega
 rcases n0 zs.length with h0|h0
 .have hd:zs=[]:=lX.1 h0
  have e:s.len=0:=by omega
  rw[e];refine Calls.mono (AnyM.slices_Sort_int_none Ce s.a s.cap w) ?_;rintro _ _ ⟨rfl,rfl⟩;exact⟨_,rfl,rfl,.refl _ _,[],by rw[hd]at h;exact h,by rw[hd],List.Pairwise.nil⟩
 obtain⟨h1,h2,r,t⟩:=h;rcases t with ⟨_,f⟩|⟨b,c,g,d,u,z⟩
 .omega
 have A:Go.Sort.Holds (Value.int .i64) w b 0 zs.toArray:=λj B=>by
  have k:j<zs.length:=by simpa using B
  refine⟨?_,bm.frozen d _ rfl⟩;rw[d.cell,cR];have e:=congrArg (λl=>l[j]?) z;simp only[s4,nW,dC k,lY]at e;rw[if_pos I,Array.getElem?_toList]at e;rw[e];simp[k]
 have C:=AnyM.slices_Sort_int Ce b 0 s.cap zs w A d.lt I;rw[g];have e:s.len=zs.length:=by omega
 rw[e];refine Calls.mono C ?_;rintro _ w' ⟨rfl,n,os,rfl⟩;obtain⟨c',aw,ay,m,o⟩:=Hj (n:=n) (os:=os) (zs:=zs.mergeSort λx y=>decide (x<=y)) d (by rw[List.length_mergeSort];omega);have i:=List.mergeSort_perm zs λx y=>decide (x<=y);have p:(zs.mergeSort λx y=>decide (x<=y)).Pairwise λa b=>decide (a<=b)=true:=List.pairwise_mergeSort (λa b c h1 h2=>by simp only[cq]at*;omega) (λa b=>by simp only[iY,cq];omega) zs;generalize (zs.mergeSort λx y=>decide (x<=y))=ys at aw ay m o i p;refine⟨_,rfl,rfl,o.mono λq _ e=>⟨b,g,e.symm⟩,ys,?_,i,p.imp λh=>cj h⟩;have D:=i.length_eq;have f:=aW.mk' (sz:=1) (n:=s.len) (cap:=s.cap) aw (vs:=ys.map encZ) (by rw[di];omega) h2 r (by rw[ay];exact u) (by rw[ft,e,←D];exact m);rw[←g]at f;exact f
def lg(a cx b3 b c d e f:al):Nat:=
 a.toNat+2*cx.toNat+4*b3.toNat+8*b.toNat+16*c.toNat+32*d.toNat+64*e.toNat+128*f.toNat
def byteOf(f:Nat->al)(i:Nat):Nat:=lg (f (8*i)) (f (8*i+1)) (f (8*i+2)) (f (8*i+3)) (f (8*i+4)) (f (8*i+5)) (f (8*i+6)) (f (8*i+7))
theorem Hl:∀a cx b3 b c d e f:al,lg a cx b3 b c d e f<256:=by decide+kernel
theorem Hm:∀a cx b3 b c d e f:al,
 (lg a cx b3 b c d e f).testBit 0=a/\(lg a cx b3 b c d e f).testBit 1=cx/\(lg a cx b3 b c d e f).testBit 2=b3/\(lg a cx b3 b c d e f).testBit 3=b/\
 (lg a cx b3 b c d e f).testBit 4=c/\(lg a cx b3 b c d e f).testBit 5=d/\(lg a cx b3 b c d e f).testBit 6=e/\(lg a cx b3 b c d e f).testBit 7=f:=by decide+kernel
theorem kK(f:Nat->al)(i:Nat):byteOf f i<256:=Hl _ _ _ _ _ _ _ _
theorem pd(f:Nat->al)(i j:Nat)(a:j<8):(byteOf f i).testBit j=f (8*i+j):=by
 obtain⟨h0,h1,h2,b,c,d,e,g⟩:=Hm (f (8*i)) (f (8*i+1)) (f (8*i+2)) (f (8*i+3)) (f (8*i+4)) (f (8*i+5)) (f (8*i+6)) (f (8*i+7));have:j=0\/j=1\/j=2\/j=3\/j=4\/j=5\/j=6\/j=7:=by omega
 unfold byteOf;rcases this with rfl|rfl|rfl|rfl|rfl|rfl|rfl|rfl<;>assumption
theorem Hn{x y:Nat}(hx:x<256)(b:y<256)(h:∀j,j<8->x.testBit j=y.testBit j):x=y:=by
 apply Nat.eq_of_testBit_eq;intro j;by_cases a:j<8
 .exact h j a
 .have p:256<=2^j:=by
   have:=s9 (n:=2) I (by omega:8<=j);simpa using this
  rw[Nat.testBit_lt_two_pow I,Nat.testBit_lt_two_pow I]
theorem yL(f:Nat->al)(i x:Nat)(hx:x<256)(h:∀j,j<8->x.testBit j=f (8*i+j)):x=byteOf f i:=
 Hn hx (kK f i) λj a=>by rw[h j a,pd f i j a]
def dk(f:Nat->al)(k:Nat)(b:al):Nat->al:=λi=>if i=k then b else f i
theorem Ho:∀x:Nat,x<256->∀j:Nat,j<8->(iZ .u8 (Int.fdiv (x:Int) (2^(min (Int.toNat (j:Int)) 8))) 1==1)=x.testBit j:=by decide+kernel
theorem Hp:∀x:Nat,x<256->∀j:Nat,j<8->m3 .u8 (x:Int) (IntKind.wrap .u8 (1*2^(min (Int.toNat (j:Int)) 8)))=((x|||2^j:Nat):Int):=by decide+kernel
theorem Hq:∀x:Nat,x<256->∀j:Nat,j<8->zM .u8 (x:Int) (IntKind.wrap .u8 (1*2^(min (Int.toNat (j:Int)) 8)))=((x&&&(255-2^j):Nat):Int):=by decide+kernel
theorem yM:∀x:Nat,x<256->∀y:Nat,y<256->x|||y<256:=λ_ hx _ a=>Nat.or_lt_two_pow (n:=8) hx a
theorem Hr:∀j:Nat,j<8->∀k:Nat,k<8->(255-2^j).testBit k=(k !=j):=by decide+kernel
theorem Hs(x y:Nat)(hx:x<256)(a:y<256):m3 .u8 (x:Int) (y:Int)=((x|||y:Nat):Int):=by
 have h:=yM x hx y a;have e:(BitVec.ofInt 8 (x:Int)|||BitVec.ofInt 8 (y:Int)).toNat=x|||y:=by
  simp only[BitVec.ofInt_natCast,BitVec.toNat_or,BitVec.toNat_ofNat];rw[jX (by simpa using hx),jX (by simpa using a)]
 show IntKind.wrap .u8 (((BitVec.ofInt 8 (x:Int)|||BitVec.ofInt 8 (y:Int)).toNat:Nat):Int)=_;rw[e];have:((x|||y:Nat):Int)%256=((x|||y:Nat):Int):=Int.emod_eq_of_lt I I;simp[IntKind.wrap,IntKind.signed,IntKind.bits,this]
theorem Ht(k:Nat):8*(k/8)+k%8=k:=Nat.div_add_mod k 8
theorem Hu(f:Nat->al)(k:Nat):byteOf f (k/8)|||2^(k%8)=byteOf (dk f k true) (k/8):=by
 refine yL _ _ _ (yM _ (kK _ _) _ ?_) λj b=>?_
 .have:k%8<8:=gZ _ I
  have:=Nat.pow_lt_pow_right (a:=2) I this;simpa using this
 .rw[mM,pd _ _ _ b,rf,dk]
  by_cases h:8*(k/8)+j=k
  .rw[if_pos h]
   have:k%8=j:=by omega
   simp[this]
  .rw[if_neg h]
   have:¬k%8=j:=by omega
   simp[this]
theorem Hv(f:Nat->al)(k:Nat):byteOf f (k/8)&&&(255-2^(k%8))=byteOf (dk f k false) (k/8):=by
 refine yL _ _ _ (Nat.lt_of_le_of_lt Nat.and_le_left (kK _ _)) λj a=>?_;rw[Nat.testBit_and,pd _ _ _ a,Hr _ (gZ _ I) _ a,dk];by_cases h:8*(k/8)+j=k
 .rw[if_pos h]
  have:j=k%8:=by omega
  simp[this]
 .rw[if_neg h]
  have:¬j=k%8:=by omega
  simp[this]
theorem Hw(f:Nat->al)(k i:Nat)(b:al)(h:i≠k/8):byteOf (dk f k b) i=byteOf f i:=by
 have e:∀j,j<8->dk f k b (8*i+j)=f (8*i+j):=λj a=>by
  unfold dk;rw[if_neg];omega
 unfold byteOf;rw[e 1 I,e 2 I,e 3 I,e 4 I,e 5 I,e 6 I,e 7 I];have:=e 0 I;simp only[lV]at this;rw[this]
def e0(f:Nat->al)(m:Nat):O aa:=(List.range m).map λi=>.int .u8 (byteOf f i)
theorem yN(f:Nat->al)(m:Nat):(e0 f m).length=m:=by simp[e0]
theorem pe(f:Nat->al){m i:Nat}(h:i<m):(e0 f m)[i]? =some (.int .u8 (byteOf f i)):=by simp[e0,h]
theorem Cf(f:Nat->al)(k m:Nat)(b:al):(e0 f m).set (k/8) (.int .u8 (byteOf (dk f k b) (k/8)))=e0 (dk f k b) m:=by
 apply List.ext_getElem?;intro i;rw[List.getElem?_set];by_cases hi:i<m
 .rw[pe (dk f k b) hi]
  by_cases h:k/8=i
  .subst h
   simp[yN,hi]
  .rw[if_neg h,pe _ hi,Hw f k i b I]
 .have h1:(e0 (dk f k b) m)[i]? =none:=by simp[e0];omega
  have h2:(e0 f m)[i]? =none:=by simp[e0];omega
  rw[h1,h2];split
  .simp[yN];omega
  .rfl
theorem Cg(k:Nat):Int.tdiv (k:Int) 8=((k/8:Nat):Int):=by
 rw[wI I];omega
theorem yO(k:Nat):Int.tmod (k:Int) 8=((k%8:Nat):Int):=by
 rw[mT I];omega
theorem yP{k:Nat}(h:k<=9223372036854775807):IntKind.wrap .i64 (Int.tdiv (k:Int) 8)=((k/8:Nat):Int):=by
 rw[Cg,bn I I]
theorem Ch{s:ad}{b:Nat}(h:s.a=some ⟨b,0,none⟩):aB s b:=⟨_,h,rfl⟩
theorem sJ{w:J}{s:ad}{f:Nat->al}{m k:Nat}(h:aW 1 5 w s (e0 f m))(a:k/8<m)(d:k<=9223372036854775807):
 aJ aj 198 #[s,k] w (λv w'=>v=.bool (f k)/\w=w'):=by
 refine okF (ae.va s k) ax.va func198 ?_;(delta ae.va aP aq dm;dsimp only);obtain⟨b,c,e,g,i,hi,j,hc,_⟩:=h.cell (pe f a);refine⟨by decide,_,e,?_⟩;rw[yP d,yO];refine⟨⟨I,I⟩,(byteOf f (k/8):Int),?_,by decide,I,?_,rfl⟩
 .rw[ft,dg,aA,cR];exact hc
 .rw[Ho _ (kK _ _) _ (gZ _ I),pd _ _ _ (gZ _ I),Ht]
theorem Ci{w:J}{s:ad}{f:Nat->al}{m k:Nat}(h:aW 1 5 w s (e0 f m))(e:k/8<m)(g:k<=9223372036854775807):
 aJ aj 111 #[s,k] w (λv w'=>v=.tuple #[]/\aW 1 5 w' s (e0 (dk f k true) m)/\af (aB s) w w'):=by
 refine okF (ae.uQ s k) ax.uQ func111 ?_;(delta ae.uQ ao aP aq dm st;dsimp only);obtain⟨b,c,d,i,l,hi,n,hc,_⟩:=h.cell (pe f e);have a:(Addr.mk b 0 none).add (Int.toNat ((k/8:Nat):Int)*1)=⟨b,k/8,none⟩:=by rw[ft,dg,aA,cR]
 rw[yP g,yO];refine⟨by decide,_,d,⟨I,I⟩,by simp,(byteOf f (k/8):Int),by rw[a];exact hc,by decide,I,_,d,⟨I,I⟩,⟨_,by rw[a];exact hc⟩,by rw[a];exact i.drew.frozen _ rfl,rfl,?_,?_⟩
 .rw[a,Hp _ (kK _ _) _ (gZ _ I),Hu,←Cf]
  have j:aW 1 5 w.drew s (e0 f m):=h.ah (W:=λ_=>False) (af.drew (.refl _ _)) (λ_ _ h=>h);exact j.set d _
 .rw[a]
  exact af.set (af.drew (.refl _ _)) (λ_=>Ch d) _
theorem Hx{w:J}{s:ad}{f:Nat->al}{m k:Nat}(h:aW 1 5 w s (e0 f m))(e:k/8<m)(g:k<=9223372036854775807):
 aJ aj 203 #[s,k] w (λv w'=>v=.tuple #[]/\aW 1 5 w' s (e0 (dk f k false) m)/\af (aB s) w w'):=by
 refine okF (ae.vb s k) ax.vb func203 ?_;(delta ae.vb ao aP aq dm st;dsimp only);obtain⟨b,c,d,i,l,hi,n,hc,_⟩:=h.cell (pe f e);have a:(Addr.mk b 0 none).add (Int.toNat ((k/8:Nat):Int)*1)=⟨b,k/8,none⟩:=by rw[ft,dg,aA,cR]
 rw[yP g,yO];refine⟨by decide,_,d,⟨I,I⟩,by simp,(byteOf f (k/8):Int),by rw[a];exact hc,by decide,I,_,d,⟨I,I⟩,⟨_,by rw[a];exact hc⟩,by rw[a];exact i.drew.frozen _ rfl,rfl,?_,?_⟩
 .rw[a,Hq _ (kK _ _) _ (gZ _ I),Hv,←Cf]
  have j:aW 1 5 w.drew s (e0 f m):=h.ah (W:=λ_=>False) (af.drew (.refl _ _)) (λ_ _ h=>h);exact j.set d _
 .rw[a]
  exact af.set (af.drew (.refl _ _)) (λ_=>Ch d) _
structure fg(w:J)(b n:Nat)(f g:Nat->al)(s1 s2:ad):Prop where
 bU:bm w b #[n,s1,s2] 209
 now:aW 1 5 w s1 (e0 f ((n+7)/8))
 sure:aW 1 5 w s2 (e0 g ((n+7)/8))
 d1:∀k,aB s1 k->k≠b/\¬aB s2 k
 d2:∀k,aB s2 k->k≠b
 cc:1<=n
 bA:n<=1600
 pf:∀i,n<=i->f i=false
 cU:∀i,n<=i->g i=false
def gA(b:Nat)(s1 s2:ad)(k:Nat):Prop:=k=b\/aB s1 k\/aB s2 k
section
variable {w w':J}{b n:Nat}{f g:Nat->al}{s1 s2:ad}
theorem fg.ah{W:Nat->Prop}(h:fg w b n f g s1 s2)(hc:af W w w')(a:∀k,gA b s1 s2 k->¬W k):fg w' b n f g s1 s2:=
 ⟨h.bU.ah hc (a b (.inl rfl)),h.now.ah hc λk c=>a k (.inr (.inl c)),h.sure.ah hc λk c=>a k (.inr (.inr c)),h.d1,h.d2,h.cc,h.bA,h.pf,h.cU⟩
theorem fg.ext(h:fg w b n f g s1 s2)(hc:Ext w w'):fg w' b n f g s1 s2:=h.ah hc λ_ _ h=>h
theorem fg.lt(h:fg w b n f g s1 s2):∀k,gA b s1 s2 k->k<w.heap.size:=by
 rintro k (rfl|a|a)
 .exact h.bU.lt
 .exact h.now.lt k a
 .exact h.sure.lt k a
theorem fg.bS(h:fg w b n f g s1 s2):w.cell? b=some (.int .i64 n):=by rw[h.bU.cell];rfl
theorem fg.aU(h:fg w b n f g s1 s2):w.cell? ((Addr.mk b 0 none).add 1)=some (.slice s1.a s1.len s1.cap):=by rw[aA,h.bU.cell];rfl
theorem fg.a_(h:fg w b n f g s1 s2):w.cell? ((Addr.mk b 0 none).add 2)=some (.slice s2.a s2.len s2.cap):=by rw[aA,h.bU.cell];rfl
theorem Hy(h:fg w b n f g s1 s2){k:Nat}(a:k<n):
 aJ aj 201 #[.pointer (some b),k] w (λv w'=>v=.bool (f k||g k)/\w=w'):=by
 have c:=h.bA;refine ae.Fc _ k w _ ?_;(delta ae.sg r1 b6 ak;dsimp only);refine⟨_,rfl,s1,h.aU,(sJ h.now (k:=k) I I).use ?_⟩;rintro _ _ ⟨rfl,rfl⟩;refine⟨_,rfl,⟨λhf=>⟨by rw[hf];rfl,rfl⟩,λhf=>⟨_,rfl,s2,h.a_,(sJ h.sure (k:=k) I I).use ?_⟩⟩⟩;rintro _ _ ⟨rfl,rfl⟩;exact⟨_,rfl,by rw[hf];rfl,rfl⟩
theorem Cj(h:fg w b n f g s1 s2)(k:Int):
 aJ aj 202 #[.pointer (some b),k] w (λv w'=>v=.bool (decide (0<=k)&&decide (k<n))/\w=w'):=by
 refine ae.Fe _ k w _ ?_;(delta ae.sh ak aF;dsimp only);refine⟨?_⟩;refine⟨λh1=>⟨_,rfl,n,h.bS,?_,rfl⟩,λh1=>⟨?_,rfl⟩⟩
 .have:0<=k:=by simpa using h1
  simp[this]
 .have:¬0<=k:=by simpa using h1
  simp[this]
def firstFree(t:Nat->al)(n:Nat):av Nat:=(List.range n).find? λi=> !t i
theorem Hz{t:Nat->al}{n k:Nat}(e:k<n)(ht:t k=false)(c:∀i,i<k->t i=true):firstFree t n=some k:=by
 unfold firstFree;rw[List.find?_eq_some_iff_append];refine⟨by simp[ht],List.range k,(List.range' (k+1) (n-(k+1))),?_,λa d=>?_⟩
 .have b:=List.range'_append (s:=0) (m:=k) (n:=n-(k+1)+1) (step:=1)
  rw[s0,s0,←List.range'_succ];rw[nR,cR]at b;rw[b]
  congr 1
  omega
 .simp[c a (jV.1 d)]
theorem HA{t:Nat->al}{n:Nat}(b:∀i,i<n->t i=true):firstFree t n=none:=by
 unfold firstFree;rw[jZ];intro a c;simp[b a (jV.1 c)]
theorem Ck{t:Nat->al}{n k:Nat}(h:firstFree t n=some k):k<n/\t k=false/\∀i,i<k->t i=true:=by
 unfold firstFree at h;obtain⟨h1,la,lb,h2,c⟩:=List.find?_eq_some_iff_append.1 h;have d:k<n:=jV.1 (by rw[h2];simp);refine⟨d,by simpa using h1,λi hi=>?_⟩;have hlen:la.length=k:=by
  have a:(List.range n)[la.length]? =some k:=by rw[h2];simp
  rw[List.getElem?_range (by
   have:=congrArg List.length h2;simp at this;omega)]at a
  simpa using a
 have b:(List.range n)[i]? =some i:=List.getElem?_range I;rw[h2,s8 I]at b;have:=c i (List.mem_of_getElem? b);simpa using this
theorem HB{t:Nat->al}{n:Nat}(h:firstFree t n=none):∀i,i<n->t i=true:=by
 unfold firstFree at h;rw[jZ]at h;intro i hi;have:=h i (jV.2 hi);simpa using this
def HC(o:av Nat):aa:=
 match o with
 |some k=>.tuple #[.int .i64 (k:Int),(0:Int)]
 |none=>.tuple #[.int .i64 (-1),(2:Int)]
def HD(o:av Nat)(f:Nat->al):Nat->al:=
 match o with
 |some k=>dk f k true
 |none=>f
theorem Cl{f:Nat->al}{n k:Nat}{x:al}(h:∀i,n<=i->f i=false)(a:k<n):∀i,n<=i->dk f k x i=false:=λi hi=>by
 unfold dk
 rw[if_neg I]
 exact h i hi
theorem Cm(h:fg w b n f g s1 s2):
 aJ aj 144 #[.pointer (some b)] w (λv w'=>v=HC (firstFree (λi=>f i||g i) n)/\fg w' b n (HD (firstFree (λi=>f i||g i) n) f) g s1 s2/\af (gA b s1 s2) w w'):=by
 have r:=h.bA;refine ae.E5 _ w _ ?_;(delta ae.r_ ak aF b6 r1 gJ aq;dsimp only);refine⟨λh1=>by simp at h1,λ_=>⟨_,rfl,n,h.bS,λi w'=>∃k:Nat,i=k/\k<=n/\w=w'/\∀j,j<k->(f j||g j)=true,λi _=>(n-i).toNat,⟨0,rfl,I,rfl,λj l=>I⟩,?_⟩⟩;rintro _ _ ⟨k,rfl,a,rfl,d⟩;refine⟨λaH=>(Hy h (k:=k) (by simpa using aH)).use ?_,λm=>?_⟩
 .have c:k<n:=by simpa using aH
  rintro _ _ ⟨rfl,rfl⟩;refine⟨_,rfl,λht=>⟨_,rfl,s1,h.aU,(Ci h.now (k:=k) I I).use ?_⟩,λht=>?_⟩
  .rintro _ w' ⟨rfl,o,hc⟩
   have e:(f k||g k)=false:=by simpa using ht
   have p:=Hz (t:=λi=>f i||g i) c e d;rw[p];refine⟨rfl,rfl,⟨h.bU.ah hc λq=>(h.d1 b q).1 rfl,o,h.sure.ah hc λk a h1=>(h.d1 k h1).2 a,h.d1,h.d2,h.cc,h.bA,Cl h.pf c,h.cU⟩,hc.mono λk _ a=>.inr (.inl a)⟩
  .have e:(f k||g k)=true:=by cases hx:(f k||g k)<;>simp[hx]at ht⊢
   rw[bn I I];refine⟨⟨k+1,I,I,rfl,λj l=>?_⟩,(show((n:Int)-((k:Int)+1)).toNat<((n:Int)-(k:Int)).toNat from I)⟩;rcases ec j k with h1|h1
   .exact d j h1
   .have:j=k:=by omega
    subst this;exact e
 .have c:k=n:=by
   have:¬(k:Int)<n:=by simpa using m
   omega
  subst c;rw[HA d];exact⟨rfl,h,.refl _ _⟩
def v_(f:Nat->al)(n:Nat)(k:Int):Int:=if 0<=k/\k<n then (if f k.toNat then 0 else 6) else 1
def nG(f:Nat->al)(n:Nat)(k:Int):Nat->al:=if 0<=k/\k<n then dk f k.toNat false else f
theorem HE{f:Nat->al}{k:Nat}{x:al}(h:f k=x):dk f k x=f:=by
 funext i;unfold dk;split
 .rename_i hi;rw[hi,h]
 .rfl
theorem Cn(h:fg w b n f g s1 s2)(k:Int):
 aJ aj 145 #[.pointer (some b),k] w (λv w'=>v=.int .i64 (v_ f n k)/\fg w' b n (nG f n k) g s1 s2/\af (gA b s1 s2) w w'):=by
 have l:=h.bA;refine ae.E6 _ k w _ ?_;(delta ae.sd b6 ak r1 gJ;dsimp only);refine(Cj h k).use ?_;rintro _ _ ⟨rfl,rfl⟩;refine⟨_,rfl,λh1=>?_,λh1=>?_⟩
 .have:¬(0<=k/\k<n):=by
   rintro⟨h2,d⟩;simp[h2,d]at h1
  exact⟨by rw[v_,if_neg this],by rw[nG,if_neg this];exact h,.refl _ _⟩
 .have a:0<=k/\k<n:=by simpa using h1
  obtain⟨m,rfl⟩:=wL a.1;have e:m<n:=by omega
  refine⟨_,rfl,s1,h.aU,(sJ h.now (k:=m) I I).use ?_⟩;rintro _ _ ⟨rfl,rfl⟩;refine⟨_,rfl,λh2=>?_,λh2=>⟨_,rfl,s1,h.aU,(Hx h.now (k:=m) I I).use ?_⟩⟩
  .have hf:f m=false:=by simpa using h2
   refine⟨by rw[v_,if_pos a,dg,hf];rfl,?_,.refl _ _⟩;rw[nG,if_pos a,dg,HE hf];exact h
  .rintro _ w' ⟨rfl,i,hc⟩
   have hf:f m=true:=by simpa using h2
   refine⟨rfl,by rw[v_,if_pos a,dg,hf];rfl,?_,hc.mono λk _ c=>.inr (.inl c)⟩;rw[nG,if_pos a,dg];exact⟨h.bU.ah hc λj=>(h.d1 b j).1 rfl,i,h.sure.ah hc λk c h1=>(h.d1 k h1).2 c,h.d1,h.d2,h.cc,h.bA,Cl h.pf e,h.cU⟩
theorem HF(h:fg w b n f g s1 s2)(k:Int):
 aJ aj 229 #[.pointer (some b),k] w (λv w'=>v=.bool (decide (0<=k)&&decide (k<n)&&f k.toNat&& !(g k.toNat))/\w=w'):=by
 have c:=h.bA;refine ae.Fj _ k w _ ?_;(delta ae.si b6 ak r1;dsimp only);refine(Cj h k).use ?_;rintro _ _ ⟨rfl,rfl⟩;refine⟨_,rfl,⟨λh1=>?_,λh1=>⟨(λh=>by cases h),λ_=>⟨by rw[h1];rfl,rfl⟩⟩⟩⟩;have a:0<=k/\k<n:=by simpa using h1
 obtain⟨m,rfl⟩:=wL a.1;refine⟨_,rfl,s1,h.aU,(sJ h.now (k:=m) I I).use ?_⟩;rintro _ _ ⟨rfl,rfl⟩;refine⟨_,rfl,λh2=>⟨_,rfl,s2,h.a_,(sJ h.sure (k:=m) I I).use ?_⟩,λh2=>⟨by rw[h1,dg,h2];rfl,rfl⟩⟩;rintro _ _ ⟨rfl,rfl⟩;exact⟨_,rfl,by rw[h1,dg,h2];rfl,rfl⟩
end
theorem HG:g3 aj 206 5 1 1:=⟨by kernel_rfl⟩
theorem Co:g3 aj 39 5 1 1:=⟨by kernel_rfl⟩
theorem HH(n:Nat):gS aj 5 n=(List.replicate n (.int .u8 0)).toArray:=Az (by kernel_rfl) (by kernel_rfl) n
theorem Cp(f:Nat->al)(m:Nat):∀v∈e0 f m,Plain v:=by
 intro v a;obtain⟨i,_,rfl⟩:=fD.1 a;trivial
theorem HI{w:J}{s:ad}{xs:O aa}(h:Src 1 w s xs)(d:∀v∈xs,Plain v)(i:s.len<=1000000):
 aJ aj 173 #[s] w (λv w'=>∃b:ad,v=b/\aW 1 5 w' b xs/\Ext w w'/\∀k,aB b k->w.heap.size<=k):=by
 refine okF (ae.ud s) ax.ud func173 ?_;delta ae.ud ao ak Y;refine⟨λc=>?_,λ_=>?_⟩
 .have c:s.a=none:=by simpa using c
  rw[h.nil c];exact⟨⟨none,0,0⟩,rfl,aW.none _ _ _,.refl _ _,λk e=>(fZ k e).elim⟩
 .obtain⟨b,w',h1,h2,j,f,g,_⟩:=HG.clone (cB:=206) h d I
  exact⟨b,w',h1,b,rfl,h2,f,g⟩
theorem HJ{w:J}{s:ad}{xs:O aa}(h:Src 1 w s xs)(d:∀v∈xs,Plain v)(i:s.len<=1000000):
 aJ aj 46 #[s] w (λv w'=>∃b:ad,v=b/\aW 1 5 w' b xs/\Ext w w'/\∀k,aB b k->w.heap.size<=k):=by
 refine okF (ae.ox s) ax.ox func46 ?_;delta ae.ox ao ak Y;refine⟨λc=>?_,λ_=>?_⟩
 .have c:s.a=none:=by simpa using c
  rw[h.nil c];exact⟨⟨none,0,0⟩,rfl,aW.none _ _ _,.refl _ _,λk e=>(fZ k e).elim⟩
 .obtain⟨b,w',h1,h2,j,f,g,_⟩:=Co.clone (cB:=39) h d I
  exact⟨b,w',h1,b,rfl,h2,f,g⟩
section
variable {w w':J}{b n:Nat}{f g:Nat->al}{s1 s2:ad}
theorem wa{T:TypeId}{m:Nat}(h:aW 1 T w s1 (e0 f m)):s1.len=m:=by
 have:=h.1;rw[yN]at this;omega
theorem Cq{m:Nat}{u:aa}(c:bm w b #[n,s1,u] 209)(h1:aW 1 5 w s1 (e0 f m))(hd:∀k,aB s1 k->k≠b)(g:m<=1000000):
 aJ aj 112 #[.pointer (some b)] w (λv w'=>v=.tuple #[]/\∃a:ad,bm w' b #[n,s1,a] 209/\
  aW 1 5 w' s1 (e0 f m)/\aW 1 5 w' a (e0 f m)/\af (λk=>k=b) w w'/\∀k,aB a k->w.heap.size<=k):=by
 refine ae.E1 _ w _ ?_;(delta ae.r7 ao ak r1 bD st;dsimp only);refine⟨λ_=>⟨_,rfl,s1,by rw[aA,c.cell];rfl,(HI h1.src (Cp f m) (by rw[wa h1];exact g)).use ?_⟩,λh=>by simp at h⟩;rintro _ ai ⟨a,rfl,h2,hx,hf⟩;have d:=c.ext hx;have i:∀k,aB a k->k≠b:=λk j e=>by have:=hf k j;have:=c.lt;omega
 refine⟨a,rfl,_,rfl,⟨_,by rw[aA,d.cell];rfl⟩,d.frozen _ rfl,rfl,a,?_,?_,?_,?_,hf⟩
 .rw[aA];exact d.set 2 _
 .exact(h1.ext hx).ah (W:=λk=>k=b) (af.set (.refl _ _) (λ_=>by rw[aA]) _) hd
 .exact h2.ah (W:=λk=>k=b) (af.set (.refl _ _) (λ_=>by rw[aA]) _) i
 .exact(af.c0 hx).set (λ_=>by rw[aA]) _
theorem HK(h:fg w b n f g s1 s2):
 aJ aj 112 #[.pointer (some b)] w (λv w'=>v=.tuple #[]/\∃c:ad,fg w' b n f f s1 c/\af (gA b s1 s2) w w'/\∀k,gA b s1 c k->gA b s1 s2 k\/w.heap.size<=k):=by
 have m:=h.bA;refine(Cq h.bU h.now (λk a=>(h.d1 k a).1) I).mono ?_;rintro _ w' ⟨rfl,c,h1,h2,i,j,d⟩;refine⟨rfl,c,⟨h1,h2,i,λk a=>⟨(h.d1 k a).1,λl=>?_⟩,λk a e=>?_,h.cc,h.bA,h.pf,h.pf⟩,j.mono λk _ a=>.inl a,λk a=>?_⟩
 .have:=d k l;have:=h.now.lt k a;omega
 .have:=d k a;have:=h.bU.lt;omega
 .rcases a with rfl|a|a
  .exact .inl (.inl rfl)
  .exact .inl (.inr (.inl a))
  .exact .inr (d k a)
def q2(x:Nat):Nat:=(x.testBit 0).toNat+(x.testBit 1).toNat+(x.testBit 2).toNat+(x.testBit 3).toNat+(x.testBit 4).toNat+(x.testBit 5).toNat+(x.testBit 6).toNat+(x.testBit 7).toNat
def eQ(t:Nat->al):Nat->Nat
 |0=>0
 |k+1=>eQ t k+(t k).toNat
theorem nH(t:Nat->al):∀k,eQ t k<=k
 |0=>bl _
 |k+1=>by have:=nH t k;have:=Bool.toNat_le (t k);simp only[eQ];omega
theorem HL(t:Nat->al)(i:Nat):eQ t (8*(i+1))=eQ t (8*i)+q2 (byteOf t i):=by
 have h:∀j,j<8->(byteOf t i).testBit j=t (8*i+j):=λj a=>pd t i j a;unfold q2;rw[h 0 I,h 1 I,h 2 I,h 3 I,h 4 I,h 5 I,h 6 I,h 7 I];show eQ t (8*i+7+1)=_;simp only[eQ,lV];omega
theorem Cr(t:Nat->al)(n:Nat)(h:∀i,n<=i->t i=false):∀k,eQ t (n+k)=eQ t n
 |0=>rfl
 |k+1=>by
  have:=Cr t n h k
  show eQ t (n+k)+(t (n+k)).toNat=_
  rw[this,h (n+k) I]
  rfl
theorem HM:∀x:Nat,x<256->(wV (ByteArray.mk #[0,1,1,2,1,2,2,3,1,2,2,3,2,3,3,4,1,2,2,3,2,3,3,4,2,3,3,4,3,4,4,5,1,2,2,3,2,3,3,4,2,3,3,4,3,4,4,5,2,3,3,4,3,4,4,5,3,4,4,5,4,5,5,6,1,2,2,3,2,3,3,4,2,3,3,4,3,4,4,5,2,3,3,4,3,4,4,5,3,4,4,5,4,5,5,6,2,3,3,4,3,4,4,5,3,4,4,5,4,5,5,6,3,4,4,5,4,5,5,6,4,5,5,6,5,6,6,7,1,2,2,3,2,3,3,4,2,3,3,4,3,4,4,5,2,3,3,4,3,4,4,5,3,4,4,5,4,5,5,6,2,3,3,4,3,4,4,5,3,4,4,5,4,5,5,6,3,4,4,5,4,5,5,6,4,5,5,6,5,6,6,7,2,3,3,4,3,4,4,5,3,4,4,5,4,5,5,6,3,4,4,5,4,5,5,6,4,5,5,6,5,6,6,7,3,4,4,5,4,5,5,6,4,5,5,6,5,6,6,7,4,5,5,6,5,6,6,7,5,6,6,7,6,7,7,8]) x).map (·.toNat)=some (q2 x):=by decide+kernel
theorem Cs(x:Nat):q2 x<=8:=by
 unfold q2;have h:∀b:al,b.toNat<=1:=Bool.toNat_le;have:=h (x.testBit 0);have:=h (x.testBit 1);have:=h (x.testBit 2);have:=h (x.testBit 3);have:=h (x.testBit 4);have:=h (x.testBit 5);have:=h (x.testBit 6);have:=h (x.testBit 7);omega
theorem HN(w:J)(x:Nat)(hx:x<256):aJ aj 181 #[.int .u8 x] w (λv w'=>v=.int .i64 (q2 x)/\w=w'):=by
 refine okF (ae.ue x) ax.ue func181 ?_;delta ae.ue aq;have h:=HM x hx;refine⟨I,?_⟩
 cases a:wV _ x with
 |none=>rw[a]at h;cases h
 |some y=>
  rw[a]at h;simp only[lY,Option.some.injEq]at h;refine⟨y,a,?_,rfl⟩;rw[h,bn I (by have:=Cs x;omega)]
theorem HO(f g:Nat->al)(i:Nat):byteOf f i|||byteOf g i=byteOf (λk=>f k||g k) i:=
 yL _ _ _ (yM _ (kK _ _) _ (kK _ _)) λj a=>by rw[mM,pd _ _ _ a,pd _ _ _ a]
theorem yQ(h:fg w b n f g s1 s2):
 aJ aj 129 #[.pointer (some b)] w (λv w'=>v=.int .i64 ((n:Int)-eQ (λi=>f i||g i) n)/\Ext w w'):=by
 have p:=h.bA;have q:=wa h.now;have s:=wa h.sure;refine ae.E2 _ w _ ?_;(delta ae.r8 ao ak aF r1 aP dm bY aq;dsimp only);refine⟨λh1=>by simp at h1,λ_=>⟨_,rfl,n,h.bS,_,rfl,s1,h.aU,λr i w'=>∃k:Nat,i=k/\k<=s1.len/\Ext w w'/\r=(n:Int)-eQ (λi=>f i||g i) (8*k),λ_ i _=>((s1.len:Int)-i).toNat,⟨0,rfl,I,.refl _ _,by simp[eQ]⟩,?_⟩⟩;rintro _ _ w1 ⟨k,rfl,t,hx,rfl⟩;refine⟨λaH=>?_,λc=>?_⟩
 .have d:k<s1.len:=by simpa using aH
  have h1:=h.ext hx.drew;obtain⟨cx,aU,j,u,_,_,_,l,_⟩:=h1.now.cell (pe f (i:=k) I);obtain⟨b3,a_,m,x,_,_,_,o,_⟩:=h1.sure.cell (pe g (i:=k) I);have a:∀b:Nat,(Addr.mk b 0 none).add (Int.toNat (k:Int)*1)=⟨b,k,none⟩:=λb=>by rw[ft,dg,aA,cR]
  refine⟨λ_=>False,_,rfl,by simp,s1,h1.aU,_,j,I,by simp,_,by rw[a];exact l,_,rfl,by simp,s2,h1.a_,_,m,I,by simp,_,by rw[a];exact o,?_⟩;rw[Hs _ _ (kK _ _) (kK _ _),HO];refine(HN _ _ (kK _ _)).use ?_;rintro _ _ ⟨rfl,rfl⟩;have:=Cs (byteOf (λi=>f i||g i) k);have:=nH (λi=>f i||g i) (8*k);refine⟨_,rfl,.refl _ _,?_⟩;rw[bn (n:=(n:Int)-_-_) I I,bn (n:=(k:Int)+1) I I];exact⟨⟨k+1,I,I,hx.drew,by rw[HL];omega⟩,(show((s1.len:Int)-((k:Int)+1)).toNat<((s1.len:Int)-(k:Int)).toNat from I)⟩
 .have d:k=s1.len:=by
   have:¬(k:Int)<s1.len:=by simpa using c
   omega
  refine⟨?_,hx⟩;have e:8*k=n+(8*k-n):=by omega
  rw[e,Cr _ _ (λi hi=>by simp[h.pf i hi,h.cU i hi])]
theorem Ct(h:fg w b n f g s1 s2):
 aJ aj 57 #[.pointer (some b)] w (λv w'=>∃s:ad,v=s/\aW 1 5 w' s (e0 f ((n+7)/8))/\Ext w w'/\∀k,aB s k->w.heap.size<=k):=by
 have a:=h.bA;refine ae.EU _ w _ ?_;(delta ae.r5 ua ak r1 bD;dsimp only);refine⟨λh1=>by simp at h1,λ_=>⟨_,rfl,s1,h.aU,(HJ h.now.src (Cp f _) (by rw[wa h.now];omega)).use ?_⟩⟩;rintro _ ai ⟨s,rfl,h2,hx,hf⟩;exact⟨s,rfl,s,rfl,h2,hx,hf⟩
end
theorem HP(w:J)(n:Int):aJ aj 109 #[n] w (λv w'=>v=.bool (decide (1<=n/\n<=1600))/\w=w'):=by
 refine okF (ae.uO n) ax.uO func109 ?_;unfold ae.uO;refine⟨?_,rfl⟩;simp[Bool.decide_and]
theorem HQ(w:J)(n:Nat)(a:n<=1600):aJ aj 110 #[n] w (λv w'=>v=.int .i64 (((n+7)/8:Nat):Int)/\w=w'):=by
 refine okF (ae.uP n) ax.uP func110 ?_;delta ae.uP aq;refine⟨by decide,?_,rfl⟩;rw[bn (n:=(n:Int)+8) I I,bn (n:=(n:Int)+8-1) I I,show(n:Int)+8-1=((n+7:Nat):Int) from I,Cg,bn I I]
theorem HR(m:Nat):e0 (λi=>decide (i<0)) m=List.replicate m (.int .u8 0):=by
 apply mV
 .simp[e0]
 .intro i h1 h2
  simp[e0,byteOf,lg]
theorem HS(j:Nat):dk (λi=>decide (i<j)) j true=λi=>decide (i<j+1):=by
 funext i;unfold dk;split
 .rename_i h;simp[h]
 .rename_i h;simp;omega
theorem qh(w:J)(n first:Int):
 aJ aj 54 #[.int .i64 n,.int .i64 first] w (λv w'=>(¬(1<=n/\n<=1600/\0<=first/\first<=n)/\v=.tuple #[.pointer none,.int .i64 1]/\w=w')\/
  (1<=n/\n<=1600/\0<=first/\first<=n/\∃b s1 s2,v=.tuple #[.pointer (some ⟨b,0,none⟩),.int .i64 0]/\fg w' b n.toNat (λi=>decide (i<first.toNat)) (λi=>decide (i<first.toNat)) s1 s2/\Ext w w'/\∀k,gA b s1 s2 k->w.heap.size<=k)):=by
 refine okF (ae.qh n first) ax.qh func54 ?_;(delta ae.qh ao b6 ak bY kE Y r1 gJ aq;dsimp only);refine(HP w n).use ?_;rintro _ _ ⟨rfl,rfl⟩;refine⟨_,rfl,λh=>.inl ⟨λhc=>?_,rfl,rfl⟩,λh=>?_⟩
 .simp at h;omega
 simp at h;obtain⟨⟨⟨E,F⟩,G⟩,H⟩:=h;obtain⟨n,rfl⟩:=wL (by omega:0<=n);obtain⟨first,rfl⟩:=wL (by omega:0<=first);refine(HQ w n I).use ?_;rintro _ _ ⟨rfl,rfl⟩;refine⟨_,rfl,I,?_⟩;simp only[dg];rw[HH];obtain⟨m,f⟩:∃m,m=(n+7)/8:=⟨_,rfl⟩;rw[←f];have l:=aW.new (sz:=1) (T:=5) w (List.replicate m (.int .u8 0)) m (by simp) (by show m<=2^63-1;omega);rw[←HR]at l⊢;have au:Ext w (w.alloc (.cells (e0 (λi=>decide (i<0)) m).toArray 5)):=af.alloc (.refl _ _) _;generalize s:w.alloc (.cells (e0 (λi=>decide (i<0)) m).toArray 5)=w1 at*;have K:w1.heap.size=w.heap.size+1:=by rw[←s];simp
 have t:=bm.new w1 #[.int .i64 (n:Int),.slice (some ⟨w.heap.size,0,none⟩) m m,.slice none 0 0] 209;have u:=af.alloc au (.cells #[.int .i64 (n:Int),.slice (some ⟨w.heap.size,0,none⟩) m m,.slice none 0 0] 209);have x:=l.ext (af.alloc (.refl _ w1) (.cells #[.int .i64 (n:Int),.slice (some ⟨w.heap.size,0,none⟩) m m,.slice none 0 0] 209));refine⟨λi w'=>∃j:Nat,i=j/\j<=first/\Ext w w'/\bm w' w1.heap.size #[.int .i64 (n:Int),.slice (some ⟨w.heap.size,0,none⟩) m m,.slice none 0 0] 209/\
  aW 1 5 w' ⟨some ⟨w.heap.size,0,none⟩,m,m⟩ (e0 (λi=>decide (i<j)) m),λi _=>((first:Int)-i).toNat,⟨0,rfl,I,u,t,x⟩,?_⟩
 rintro _ ai ⟨j,rfl,L,hx,d,o⟩;refine⟨λaH=>?_,λy=>?_⟩
 .have p:j<first:=by simpa using aH
  refine⟨_,rfl,⟨some ⟨w.heap.size,0,none⟩,m,m⟩,by rw[aA,d.cell];rfl,(Ci o (k:=j) I I).use ?_⟩;rintro _ z ⟨rfl,q,hc⟩;rw[HS]at q;rw[bn I I];refine⟨rfl,⟨j+1,I,I,?_,d.ah hc ?_,q⟩,(show((first:Int)-((j:Int)+1)).toNat<((first:Int)-(j:Int)).toNat from I)⟩
  .exact((af.c0 hx).trans hc).mono λk a c=>by rw[jb]at c;simp at c;omega
  .intro c
   rw[jb]at c;simp at c;omega
 .have p:j=first:=by
   have:¬(j:Int)<first:=by simpa using y
   omega
  subst p;have r:∀i,n<=i->decide (i<j)=false:=λi hi=>by simp;omega
  refine(Cq d o (λk a e=>?_) I).use ?_
  .rw[jb]at a
   simp at a;omega
  rintro _ z ⟨rfl,A,h1,h2,B,C,g⟩;have M:=d.lt;refine⟨rfl,.inr ⟨I,I,I,I,w1.heap.size,⟨some ⟨w.heap.size,0,none⟩,m,m⟩,A,rfl,⟨h1,?_,?_,λk a=>⟨λe=>?_,λD=>?_⟩,λk a e=>?_,I,I,r,r⟩,?_,?_⟩⟩
  .simp only[←f];exact h2
  .simp only[←f];exact B
  .rw[jb]at a
   simp at a;omega
  .rw[jb]at a
   simp at a;have:=g k D;omega
  .have:=g k a
   omega
  .exact((af.c0 hx).trans C).mono λk a e=>by omega
  .rintro k (rfl|a|a)
   .omega
   .rw[jb]at a
    simp at a;omega
   .have:=g k a
    have:=hx.size;omega
structure Fr where
 full:al
 gg:al
 used:al
 no:Int
 pins:Int
 b:ad
 l:dc
def Fr.c(f:Fr):O aa:=[f.full,f.gg,f.used,f.no,f.pins,f.b]
def dp:Fr:=⟨false,false,false,0,0,⟨none,0,0⟩,[]⟩
structure b2 where
 c:Nat
 aV:Nat
 an:O Fr
 hand:Nat
 D:ba
def c6(C:b2)(q:Nat):Prop:=q=C.c\/q=C.aV\/cm C.D q
structure e9(w:J)(C:b2):Prop where
 v:Var w C.c [.pointer (some C.D.d),.slice (some C.aV) C.an.length C.an.length,C.hand] 268
 f:bm w C.aV (bu Fr.c C.an).toArray 275
 dev:dd w C.D
 b9:8<=C.an.length
 ct:C.an.length<=64
 hd:C.hand<C.an.length
 a1:C.c≠C.aV/\¬cm C.D C.c/\¬cm C.D C.aV
structure Cu(X:Nat->Prop)(w:J)(C:b2)(f:Fr)(no:Nat):Prop where
 num:f.no=no
 lt:no<C.D.n
 yR:bq (λq=>¬c6 C q/\¬X q) w f.b f.l
 len:f.l.length=256
 clean:f.gg=false->f.l=C.D.now no
 b7:C.D.b7 no=true->f.gg=false
 two:2<=no
structure gr(X:Nat->Prop)(w:J)(C:b2):Prop where
 pins:∀f∈C.an,f.pins=0
 ok:∀f∈C.an,f.full=true->∃no:Nat,Cu X w C f no
 un:∀ (i j:Nat) (hi:i<C.an.length) (a:j<C.an.length),(C.an[i]).full=true->(C.an[j]).full=true->(C.an[i]).no=(C.an[j]).no->i=j
 e_:∀q,X q->q<w.heap.size/\¬c6 C q
 pg:∀j,C.D.b7 j=true->C.D.e8 j=C.D.eG j
def kL(aC D:ba):Prop:=aC.n=D.n/\(∀j,aC.b7 j=true->D.b7 j=true)/\∀j,aC.b7 j=true->aC.e8 j=aC.eG j
theorem gr.sK{X:Nat->Prop}{w:J}{C:b2}(h:gr X w C):kL C.D C.D:=⟨rfl,λ_ h=>h,h.pg⟩
theorem gr.cD{X:Nat->Prop}{w:J}{C:b2}(h:gr X w C)(k:Nat):kL (C.D.cD k) C.D:=⟨rfl,λ_ h=>h,h.pg⟩
structure dW(X:Nat->Prop)(w:J)(C:b2):Prop where
 raw:e9 w C
 inv:gr X w C
def b2.view(C:b2)(no:Nat):dc:=match C.an.find? λf=>f.full&&f.no==(no:Int) with
 |some f=>f.l
 |none=>C.D.now no
theorem Fr.bF(f:Fr):f.c.length=6:=rfl
theorem wc(l:O Fr):∀x∈l,(Fr.c x).length=6:=λx _=>rfl
section
variable {w w':J}{C:b2}{X:Nat->Prop}
theorem e9.lt(h:e9 w C){q:Nat}(a:c6 C q):q<w.heap.size:=by
 rcases a with rfl|rfl|a
 .exact h.v.lt
 .exact bm.lt h.f
 .exact h.dev.lt a
theorem e9.ah{W:Nat->Prop}(h:e9 w C)(hc:af W w w')(a:∀q,c6 C q->¬W q):e9 w' C:=
 ⟨h.v.ah hc (a _ (.inl rfl)),bm.ah h.f hc (a _ (.inr (.inl rfl))),h.dev.ah hc λq b=>a q (.inr (.inr b)),h.b9,h.ct,h.hd,h.a1⟩
theorem e9.ext(h:e9 w C)(hc:Ext w w'):e9 w' C:=h.ah hc λ_ _ h=>h
theorem gr.ah{W:Nat->Prop}(h:gr X w C)(hc:af W w w')(b:∀q,W q->c6 C q\/X q):gr X w' C:=
 ⟨h.pins,λf hf c=>by
  obtain⟨no,aw,ay,d,e,g,i,j⟩:=h.ok f hf c
  exact⟨no,aw,ay,bq.ah d hc λq a k=>by
   rcases b q k with h1|h1
   .exact a.1 h1
   .exact a.2 h1,e,g,i,j⟩,h.un,λq a=>⟨fa (h.e_ q a).1 hc.size,(h.e_ q a).2⟩,h.pg⟩
theorem dW.ah{W:Nat->Prop}(h:dW X w C)(hc:af W w w')(b:∀q,W q->X q):dW X w' C:=
 ⟨h.raw.ah hc λq c a=>(h.inv.e_ q (b q a)).2 c,h.inv.ah hc λq a=>.inr (b q a)⟩
theorem dW.ext(h:dW X w C)(hc:Ext w w'):dW X w' C:=h.ah hc λ_ h=>h.elim
theorem sL(aV i:Nat):Addr.add aV (Int.toNat (i:Int)*6)=⟨aV,i*6,none⟩:=by rw[dg,aA,cR]
theorem e9.cells(h:e9 w C):w.cell? C.c=some (.pointer (some C.D.d))/\w.cell? (Addr.add C.c 1)=some (.slice (some C.aV) C.an.length C.an.length)/\w.cell? (Addr.add C.c 2)=some (.int .i64 C.hand):=by
 rw[aA,aA];exact⟨h.v.cell,h.v.cell,h.v.cell⟩
theorem kj{w:J}{aV:Nat}{fs:O Fr}{T:TypeId}(h:bm w aV (bu Fr.c fs).toArray T){i j:Nat}(hi:i<fs.length)(a:j<6):w.cell? ⟨aV,i*6+j,none⟩=((fs[i]).c)[j]? :=by
 rw[bm.cell h];simp only[ri];exact vZ (wc fs) hi a
theorem nI{w:J}{aV:Nat}{fs:O Fr}{T:TypeId}(h:bm w aV (bu Fr.c fs).toArray T){i j:Nat}(hi:i<fs.length)(a:j<6){v:aa}(b:Fr)(hf:b.c=(fs[i]).c.set j v):
 (∃u:aa,w.cell? ⟨aV,i*6+j,none⟩=some u)/\w.frozen? ⟨aV,i*6+j,none⟩=false/\bm (w.setCell ⟨aV,i*6+j,none⟩ v) aV (bu Fr.c (fs.set i b)).toArray T/\af (λq=>q=aV) w (w.setCell ⟨aV,i*6+j,none⟩ v):=by
 refine⟨⟨((fs[i]).c)[j]'(by rw[Fr.bF];exact a),by rw[kj h hi a,dC (by rw[Fr.bF];exact a)]⟩,bm.frozen h _ rfl,?_,dU _ _ _ _⟩;have:=ez (vs:=bu Fr.c fs) h (i:=i*6+j) v;rw[G2 (wc fs) hi a hf]at this;exact this
theorem yS{w:J}{aV:Nat}{fs:O Fr}{T:TypeId}(h:bm w aV (bu Fr.c fs).toArray T){i:Nat}(hi:i<fs.length)(a:Fr):
 bI w ⟨aV,i*6,none⟩ a.c/\bm (setCells w ⟨aV,i*6,none⟩ 0 a.c) aV (bu Fr.c (fs.set i a)).toArray T/\af (λq=>q=aV) w (setCells w ⟨aV,i*6,none⟩ 0 a.c):=by
 have f:=fA (c:=Fr.c) fs (wc fs);have d:i*6+a.c.length<=(bu Fr.c fs).toArray.size:=by
  rw[tc,f,Fr.bF];omega
 refine⟨bm.cl h _ _ d ?_,?_,af.jC (.refl _ _) _ 0⟩
 .intro v b
  unfold Fr.c at b;simp only[cX,fk,fv]at b;rcases b with rfl|rfl|rfl|rfl|rfl|rfl<;>trivial
 .have h0:=bm.k5 (o:=i*6) h a.c
  have e:gk (bu Fr.c fs).toArray (i*6) a.c=(bu Fr.c (fs.set i a)).toArray:=by
   have h1:=k4 a.c (bu Fr.c fs).toArray (i*6) d;have h2:=B1 (wc fs) hi a;have g:a.c.length=6:=rfl;rw[g]at h1;have j:(gk (bu Fr.c fs).toArray (i*6) a.c).toList=bu Fr.c (fs.set i a):=h1.trans h2;rw[←j]
  rw[e]at h0;exact h0
theorem Cv(h:e9 w C)(no:Int):aJ aj 204 #[.pointer (some C.c),no] w (λv w'=>v=.bool (decide (0<=no/\no<C.D.n))/\w=w'):=by
 refine okF (ae.vc (some C.c) no) ax.vc func204 ?_;delta ae.vc ak bY;refine cA (λb w'=>b=decide (0<=no/\no<C.D.n)/\w=w') (λq d=>⟨λa=>⟨_,rfl,_,h.cells.1,(v7 h.dev).use ?_⟩,λa=>d _ _ ⟨?_,rfl⟩⟩) ?_
 .rintro _ _ ⟨rfl,rfl⟩
  have a:0<=no:=by simpa using a
  refine⟨_,rfl,d _ _ ⟨?_,rfl⟩⟩;rw[fC,cq,cq];exact⟨λh=>⟨a,h⟩,λh=>h.2⟩
 .have a:¬0<=no:=by simpa using a
  rw[ih (λh=>a h.1)]
 .rintro _ _ ⟨rfl,rfl⟩
  exact⟨rfl,rfl⟩
def AtR(C:b2)(no:Int)(v:aa):Prop:=
 (∃ (i:Nat) (hi:i<C.an.length),v=.pointer (some ⟨C.aV,i*6,none⟩)/\(C.an[i]).full=true/\(C.an[i]).no=no)\/
 (v=.pointer none/\∀f∈C.an,f.full=true->f.no≠no)
theorem we(h:e9 w C)(no:Int):aJ aj 180 #[.pointer (some C.c),no] w (λv w'=>AtR C no v/\w=w'):=by
 obtain⟨bS,aU,a_⟩:=h.cells;have d:=h.ct;refine okF (ae.u9 (some C.c) no) ax.u9 func180 ?_;(delta ae.u9 ak r1 aP aT aF aq;dsimp only);refine⟨λh=>(by cases h),λ_=>⟨_,rfl,⟨some C.aV,C.an.length,C.an.length⟩,aU,λi w'=>∃j:Nat,i=j/\j<=C.an.length/\w=w'/\∀ (k:Nat) (d:k<C.an.length),k<j->(C.an[k]).full=true->(C.an[k]).no≠no,λi _=>((C.an.length:Int)-i).toNat,⟨0,rfl,cL _,rfl,λk _ h=>I⟩,?_⟩⟩;rintro _ _ ⟨j,rfl,s,rfl,g⟩;refine⟨λaH=>?_,λe=>?_⟩
 .have aH:(j:Int)<(C.an.length:Int):=cj aH
  have aH:j<C.an.length:=by omega
  refine⟨_,rfl,⟨some C.aV,C.an.length,C.an.length⟩,aU,_,rfl,⟨I,by show(j:Int)<(C.an.length:Int);omega⟩,_,rfl,?_⟩;rw[sL];have f0:=kj h.f aH (j:=0) (by decide);have f3:=kj h.f aH (j:=3) (by decide);refine⟨(C.an[j]).full,f0,cA (λb w'=>w=w'/\(b=true↔((C.an[j]).full=true/\(C.an[j]).no=no))) (λq l=>⟨λa=>⟨_,rfl,(C.an[j]).no,by rw[aA];exact f3,l _ _ ⟨rfl,?_⟩⟩,λa=>l _ _ ⟨rfl,?_⟩⟩) ?_⟩
  .rw[kt]
   exact⟨λh=>⟨a,h⟩,λh=>h.2⟩
  .rw[a]
   exact⟨λh=>(by cases h),λh=>(by cases h.1)⟩
  rintro b w' ⟨rfl,a⟩;refine⟨λh1=>⟨.inl ⟨j,aH,rfl,(a.1 h1).1,(a.1 h1).2⟩,rfl⟩,λh1=>?_⟩;rw[bn (n:=(j:Int)+1) I I];refine⟨⟨j+1,I,I,rfl,λk d h2 m=>?_⟩,?_⟩
  .rcases ec k j with o|o
   .exact g k d o m
   .have:k=j:=by omega
    subst this;intro p;rw[a.2 ⟨m,p⟩]at h1;cases h1
  .show((C.an.length:Int)-((j:Int)+1)).toNat<((C.an.length:Int)-(j:Int)).toNat
   omega
 .have e:j=C.an.length:=by
   have:¬((j:Int)<(C.an.length:Int)):=cH e;omega
  subst e;refine⟨.inr ⟨rfl,λf hf r=>?_⟩,rfl⟩;obtain⟨k,d,rfl⟩:=fj hf;exact g k d d r
theorem HT(h:e9 w C):aJ aj 250 #[.pointer (some C.c)] w (λv w'=>((∃ (i:Nat) (hi:i<C.an.length),v=.pointer (some ⟨C.aV,i*6,none⟩)/\(C.an[i]).full=false)\/(v=.pointer none/\∀f∈C.an,f.full=true))/\w=w'):=by
 obtain⟨bS,aU,a_⟩:=h.cells;have a:=h.ct;refine okF (ae.vl (some C.c)) ax.vl func250 ?_;(delta ae.vl r1 ak aP aT aq;dsimp only);refine⟨_,rfl,⟨some C.aV,C.an.length,C.an.length⟩,aU,λi w'=>∃j:Nat,i=j/\j<=C.an.length/\w=w'/\∀ (k:Nat) (a:k<C.an.length),k<j->(C.an[k]).full=true,λi _=>((C.an.length:Int)-i).toNat,⟨0,rfl,cL _,rfl,λk _ h=>I⟩,?_⟩;rintro _ _ ⟨j,rfl,l,rfl,e⟩;refine⟨λaH=>?_,λb=>?_⟩
 .have aH:(j:Int)<(C.an.length:Int):=cj aH
  have aH:j<C.an.length:=by omega
  have f0:=kj h.f aH (j:=0) (by decide);refine⟨_,rfl,⟨some C.aV,C.an.length,C.an.length⟩,aU,_,rfl,⟨I,by show(j:Int)<(C.an.length:Int);omega⟩,(C.an[j]).full,by rw[sL];exact f0,λd=>⟨_,rfl,⟨some C.aV,C.an.length,C.an.length⟩,aU,_,rfl,⟨I,by show(j:Int)<(C.an.length:Int);omega⟩,.inl ⟨j,aH,by rw[sL],by simpa using d⟩,rfl⟩,λd=>?_⟩;rw[bn (n:=(j:Int)+1) I I];refine⟨⟨j+1,I,I,rfl,λk a h2=>?_⟩,?_⟩
  .rcases ec k j with g|g
   .exact e k a g
   .have:k=j:=by omega
    subst this;simpa using d
  .show((C.an.length:Int)-((j:Int)+1)).toNat<((C.an.length:Int)-(j:Int)).toNat
   omega
 .have b:j=C.an.length:=by
   have:¬((j:Int)<(C.an.length:Int)):=cH b;omega
  subst b;refine⟨.inr ⟨rfl,λf hf=>?_⟩,rfl⟩;obtain⟨k,a,rfl⟩:=fj hf;exact e k a a
def hK(fs gs:O Fr):Prop:=gs.length=fs.length/\∀ (i:Nat) (h1:i<fs.length) (h2:i<gs.length),gs[i]={fs[i] with used:=(gs[i]).used}
theorem hK.refl(fs:O Fr):hK fs fs:=⟨rfl,λi h1 h2=>rfl⟩
theorem hK.set{fs gs:O Fr}(h:hK fs gs){i:Nat}(hi:i<gs.length)(u:al):hK fs (gs.set i {gs[i] with used:=u}):=by
 refine⟨by rw[dj];exact h.1,λj h1 h2=>?_⟩;rw[nT];split
 .rename_i e
  subst e;have:=h.2 i h1 hi;rw[this]
 .exact h.2 j h1 _
theorem HU(h:e9 w C)(A:∀f∈C.an,f.pins=0):aJ aj 251 #[.pointer (some C.c)] w (λv w'=>∃ (i:Nat) (gs:O Fr) (hd:Nat),i<C.an.length/\v=.pointer (some ⟨C.aV,i*6,none⟩)/\hK C.an gs/\e9 w' {C with an:=gs,hand:=hd}/\af (λq=>q=C.c\/q=C.aV) w w'):=by
 obtain⟨bS,aU,a_⟩:=h.cells;have P:=h.b9;have Q:=h.ct;have B:=h.hd;refine okF (ae.vm (some C.c)) ax.vm func251 ?_;(delta ae.vm aF r1 ak aq aP aT st;dsimp only);refine⟨_,rfl,_,a_,_,rfl,⟨some C.aV,C.an.length,C.an.length⟩,aU,λat' i w'=>∃ (s:Nat) (gs:O Fr),i=s/\s<=C.an.length/\at'=(((C.hand+s)%C.an.length:Nat):Int)/\hK C.an gs/\e9 w' {C with an:=gs}/\af (λq=>q=C.c\/q=C.aV) w w'/\∀ (t:Nat) (hx:(C.hand+t)%C.an.length<gs.length),t<s->(gs[(C.hand+t)%C.an.length]).used=false,
  λ_ i _=>(2*(C.an.length:Int)-i).toNat,⟨0,C.an,rfl,cL _,by rw[lV,jX B],hK.refl _,h,.refl _ _,λt _ h=>I⟩,?_⟩
 rintro _ _ w1 ⟨s,gs,rfl,hs,rfl,l,b,hc,p⟩;have r:gs.length=C.an.length:=l.1;obtain⟨i,hi⟩:∃i,i=(C.hand+s)%C.an.length:=⟨_,rfl⟩;have d:i<gs.length:=by rw[hi,r];exact gZ _ I
 rw[←hi];obtain⟨d0,d1,d2⟩:=b.cells;have d1:w1.cell? (Addr.add C.c 1)=some (.slice (some C.aV) gs.length gs.length):=d1;have hf:bm w1 C.aV (bu Fr.c gs).toArray 275:=b.f;rw[bn (n:=2*(C.an.length:Int)) I I];have D:IntKind.wrap .i64 ((i:Int)+1)=((i+1:Nat):Int):=by rw[bn I I];rfl
 have u:Int.tmod ((i+1:Nat):Int) (gs.length:Int)=(((i+1)%gs.length:Nat):Int):=by
  rw[mT I];rfl
 have E:(i+1)%gs.length=(C.hand+(s+1))%C.an.length:=by
  rw[hi,r,Nat.mod_add_mod];rfl
 refine⟨λaH=>?_,λF=>?_⟩
 .refine cA (λa w'=>a=(((C.hand+(s+1))%C.an.length:Nat):Int)/\∃g:O Fr,s+1<=C.an.length/\hK C.an g/\e9 w' {C with an:=g}/\af (λq=>q=C.c\/q=C.aV) w w'/\∀ (t:Nat) (hx:(C.hand+t)%C.an.length<g.length),t<s+1->(g[(C.hand+t)%C.an.length]).used=false) (λq k=>⟨_,rfl,⟨some C.aV,gs.length,gs.length⟩,d1,_,rfl,⟨I,by show(i:Int)<(gs.length:Int);omega⟩,_,rfl,⟨some C.aV,gs.length,gs.length⟩,d1,by show(gs.length:Int)≠0;omega,_,rfl,?_⟩) ?_
  .rw[sL,D]
   have f4:=kj hf d (j:=4) (by decide);have f2:=kj hf d (j:=2) (by decide);have G:(gs[i]).pins=0:=by
    have h1:=l.2 i I d;have h2:(gs[i]).pins=(C.an[i]'I).pins:=by rw[h1]
    rw[h2];exact A _ (cN _)
   refine⟨(gs[i]).pins,by rw[aA];exact f4,λx=>?_,λ_=>⟨_,rfl,(gs[i]).used,by rw[aA];exact f2,λhu=>⟨_,rfl,?_⟩,λhu=>⟨_,rfl,?_⟩⟩⟩
   .rw[G]at x;simp at x
   .have H:s<C.an.length:=by
     rcases ec s C.an.length with h1|h1
     .exact h1
     .have es:s=C.an.length:=by omega
      have y:(C.hand+0)%C.an.length=i:=by rw[hi,es,Nat.add_mod_right];rfl
      have h2:=p 0 (by rw[y];exact d) I;have m:(gs[i]).used=false:=by
       have e:gs[(C.hand+0)%C.an.length]'(by rw[y];exact d)=gs[i]:=by congr 1
       rw[←e];exact h2
      rw[m]at hu;cases hu
    obtain⟨aw,ay,J,o⟩:=nI hf d (j:=2) (by decide) (v:=false) {gs[i] with used:=false} rfl;rw[aA];refine⟨aw,ay,aX (k _ _ ⟨by rw[u,E],gs.set i {gs[i] with used:=false},H,l.set d false,?_,hc.trans (o.mono λq _ e=>.inr e),λt hx ht=>?_⟩)⟩
    .have K:=b.v.ah o h.a1.1
     refine⟨?_,J,b.dev.ah o (λq k e=>h.a1.2.2 (e▸k)),?_,?_,?_,h.a1⟩
     .show Var _ _ [_,.slice (some C.aV) (gs.set i _).length (gs.set i _).length,_] _
      rw[dj];exact K
     .show 8<=(gs.set i _).length;rw[dj];omega
     .show(gs.set i _).length<=64;rw[dj];omega
     .show C.hand<(gs.set i _).length;rw[dj];omega
    .rw[nT]
     split
     .rfl
     .rename_i L
      rcases ec t s with h1|h1
      .exact p t _ h1
      .have:t=s:=by omega
       subst this;exact absurd hi L
   .obtain⟨s1,s2⟩:=eA b.v (i:=2) (by simp)
    rw[aA,u];refine⟨s1,s2,aX ⟨i,gs,(i+1)%gs.length,I,rfl,l,?_,hc.trans ((dU _ _ _ _).mono λq _ e=>.inl e)⟩⟩;have z:=dU w1 C.c 2 (.int .i64 (((i+1)%gs.length:Nat):Int));refine⟨ez b.v (i:=2) (.int .i64 (((i+1)%gs.length:Nat):Int)),bm.ah hf z (λe=>h.a1.1 e.symm),b.dev.ah z (λq k e=>h.a1.2.1 (e▸k)),b.b9,b.ct,?_,h.a1⟩;exact gZ _ I
  .rintro a w' ⟨rfl,g,h1,h2,m,M,N⟩
   rw[bn (n:=(s:Int)+1) I I];refine⟨⟨s+1,g,I,h1,rfl,h2,m,M,N⟩,?_⟩;show(2*(C.an.length:Int)-((s:Int)+1)).toNat<(2*(C.an.length:Int)-(s:Int)).toNat;omega
 .have:=cH F
  omega
end
structure er(C aI:b2)(w w':J)(k:Nat):Prop where
 c:aI.c=C.c
 d:aI.D.d=C.D.d
 len:aI.an.length=C.an.length
 b4:aI.D.key=C.D.key
 a6:aI.D.a6<=C.D.a6+k
 calm:∀m,C.D.calm (m+k)->aI.D.calm m
 ah:af (c6 C) w w'
 c3:∀q,c6 aI q->c6 C q\/w.heap.size<=q
theorem er.refl(C:b2)(w:J):er C C w w 0:=⟨rfl,rfl,rfl,rfl,bl _,λ_ h=>h,.refl _ _,λ_ h=>.inl h⟩
theorem er.ext{w w':J}(C:b2)(h:Ext w w'):er C C w w' 0:=⟨rfl,rfl,rfl,rfl,bl _,λ_ h=>h,af.c0 h,λ_ h=>.inl h⟩
theorem er.trans{C aI a:b2}{w w' b:J}{k l:Nat}(h1:er C aI w w' k)(h2:er aI a w' b l):er C a w b (k+l):=by
 have hs:=h1.ah.size;refine⟨h2.c.trans h1.c,h2.d.trans h1.d,h2.len.trans h1.len,h2.b4.trans h1.b4,by have:=h1.a6;have:=h2.a6;omega,λm f=>h2.calm m (h1.calm (m+l) (by rw[show m+l+k=m+(k+l) from I];exact f)),c2 h1.ah h2.ah λq e h=>(h1.c3 q h).resolve_right I,λq e=>?_⟩;rcases h2.c3 q e with h|h
 .exact h1.c3 q h
 .exact .inr I
theorem er.mono{C aI:b2}{w w':J}{k l:Nat}(h:er C aI w w' k)(b:k<=l):er C aI w w' l:=
 ⟨h.c,h.d,h.len,h.b4,by have:=h.a6;omega,λm a=>h.calm m (gf a I),h.ah,h.c3⟩
theorem er.b7{C aI:b2}{w w':J}{k:Nat}(h:er C aI w w' k):aI.D.b7=C.D.b7:=congrArg (λk:(O dc×(Nat->al)×(Nat->O dc)×(Int->Prop)×al)×Int=>k.1.2.1) h.b4
theorem er.ph{C aI:b2}{w w':J}{k:Nat}(h:er C aI w w' k):aI.D.b7=C.D.b7/\aI.D.eG=C.D.eG:=⟨h.b7,congrArg (λk:(O dc×(Nat->al)×(Nat->O dc)×(Int->Prop)×al)×Int=>k.1.2.2.1) h.b4⟩
theorem er.n{C aI:b2}{w w':J}{k:Nat}(h:er C aI w w' k):aI.D.n=C.D.n:=congrArg (λk:(O dc×(Nat->al)×(Nat->O dc)×(Int->Prop)×al)×Int=>k.1.1.length) h.b4
section
variable {w w':J}{C:b2}{X:Nat->Prop}
theorem my{fs:O Fr}{D:ba}{c aV hd:Nat}(un:∀ (i j:Nat) (hi:i<fs.length) (d:j<fs.length),(fs[i]).full=true->(fs[j]).full=true->(fs[i]).no=(fs[j]).no->i=j){i:Nat}(hi:i<fs.length){no:Nat}(hf:(fs[i]).full=true)(e:(fs[i]).no=no):(b2.mk c aV fs hd D).view no=(fs[i]).l:=by
 unfold b2.view
 cases a:fs.find? λf=>f.full&&f.no==(no:Int) with
 |none=>
  have:=jZ.1 a _ (cN hi);simp[hf,e]at this
 |some f=>
  have g:=j0 a;have b:=kU a;simp only[c7,kt]at b;obtain⟨j,d,rfl⟩:=fj g;have:=un i j hi d hf b.1 (by rw[e,b.2]);subst this;simp only
theorem nJ{fs:O Fr}{D:ba}{c aV hd:Nat}{no:Nat}(h:∀f∈fs,f.full=true->f.no≠no):(b2.mk c aV fs hd D).view no=D.now no:=by
 unfold b2.view
 cases b:fs.find? λf=>f.full&&f.no==(no:Int) with
 |none=>rfl
 |some f=>
  have d:=j0 b;have a:=kU b;simp only[c7,kt]at a;exact absurd a.2 (h f d a.1)
theorem wg(D:ba)(k i:Nat):(D.cD k).now i=D.now i:=rfl
theorem bq.re{B b:Nat->Prop}{w w':J}{t:ad}{l:Key}{V:Nat->Prop}(h:bq B w t l)(hc:af V w w')(c:∀q,q<w.heap.size->B q->¬V q)(d:∀q,q<w.heap.size->B q->b q):bq b w' t l:=
 ⟨h.1.ah hc λq a=>c q (h.2.2 q a).2 (h.2.2 q a).1,h.2.1,λq a=>⟨d q (h.2.2 q a).2 (h.2.2 q a).1,fa (h.2.2 q a).2 hc.size⟩⟩
theorem sM{gs:O Fr}{hd:Nat}{aC:ba}{V:Nat->Prop}(h:gr X w C)(hs:hK C.an gs)(hc:af V w w')(gd:∀q,q<w.heap.size->V q->c6 C q)(m:kL aC C.D)(u:∀i,aC.now i=C.D.now i)(v:∀q,cm aC q->cm C.D q\/w.heap.size<=q):gr X w' {C with an:=gs,hand:=hd,D:=aC}:=by
 have x:=hc.size;have r:∀q,q<w.heap.size->c6 {C with an:=gs,hand:=hd,D:=aC} q->c6 C q:=λq a hf=>by
  rcases hf with h1|h1|h1
  .exact .inl h1
  .exact .inr (.inl h1)
  .exact .inr (.inr ((v q h1).resolve_right I))
 have g:∀ (i:Nat) (hi:i<gs.length),∃c:i<C.an.length,gs[i]={C.an[i] with used:=(gs[i]).used}:=λi hi=>⟨by rw[←hs.1];exact hi,hs.2 i (by rw[←hs.1];exact hi) hi⟩;refine⟨λf hf=>?_,λf hf y=>?_,λi j hi z h1 h2 A=>?_,λq a=>⟨fa (h.e_ q a).1 x,λhf=>(h.e_ q a).2 (r q (h.e_ q a).1 hf)⟩,m.2.2⟩
 .obtain⟨i,hi,rfl⟩:=fj hf
  obtain⟨c,e⟩:=g i hi;have:(gs[i]).pins=(C.an[i]).pins:=by rw[e]
  rw[this];exact h.pins _ (cN c)
 .obtain⟨i,hi,rfl⟩:=fj hf
  obtain⟨c,e⟩:=g i hi;have n:(gs[i]).full=(C.an[i]).full:=by rw[e]
  have o:(gs[i]).no=(C.an[i]).no:=by rw[e]
  have p:(gs[i]).b=(C.an[i]).b:=by rw[e]
  have d:(gs[i]).l=(C.an[i]).l:=by rw[e]
  have s:(gs[i]).gg=(C.an[i]).gg:=by rw[e]
  obtain⟨no,aw,ay,B,E,F,G,H⟩:=h.ok _ (cN c) (by rw[←n];exact y);refine⟨no,by rw[o];exact aw,by rw[m.1];exact ay,?_,by rw[d];exact E,λhd=>by rw[d,u];exact F (by rw[←s];exact hd),λhs=>by rw[s];exact G (m.2.1 _ hs),H⟩;rw[p,d];exact bq.re B hc (λq a k J=>k.1 (gd q a J)) λq a k=>⟨λhf=>k.1 (r q a hf),k.2⟩
 .obtain⟨c,e⟩:=g i hi
  obtain⟨K,t⟩:=g j z;have n:(gs[i]).full=(C.an[i]).full:=by rw[e]
  have o:(gs[i]).no=(C.an[i]).no:=by rw[e]
  have p:(gs[j]).full=(C.an[j]).full:=by rw[t]
  have d:(gs[j]).no=(C.an[j]).no:=by rw[t]
  exact h.un i j c K (by rw[←n];exact h1) (by rw[←p];exact h2) (by rw[←o,←d];exact A)
theorem sN{gs:O Fr}{hd:Nat}{aC:ba}(h:gr X w C)(hs:hK C.an gs)(r:∀i,aC.now i=C.D.now i)(no:Nat):(b2.mk C.c C.aV gs hd aC).view no=C.view no:=by
 have d:∀ (i:Nat) (hi:i<gs.length),∃g:i<C.an.length,gs[i]={C.an[i] with used:=(gs[i]).used}:=λi hi=>⟨by rw[←hs.1];exact hi,hs.2 i (by rw[←hs.1];exact hi) hi⟩;by_cases hex:∃ (i:Nat) (hi:i<C.an.length),(C.an[i]).full=true/\(C.an[i]).no=no
 .obtain⟨i,hi,h1,h2⟩:=hex
  have n:i<gs.length:=by rw[hs.1];exact hi
  obtain⟨g,e⟩:=d i n;have k:(gs[i]).full=(C.an[i]).full:=by rw[e]
  have m:(gs[i]).no=(C.an[i]).no:=by rw[e]
  have s:(gs[i]).l=(C.an[i]).l:=by rw[e]
  have t:∀ (i j:Nat) (hi:i<gs.length) (A:j<gs.length),(gs[i]).full=true->(gs[j]).full=true->(gs[i]).no=(gs[j]).no->i=j:=by
   intro a b u v b9 ct x;obtain⟨y,o⟩:=d a u;obtain⟨z,p⟩:=d b v;have f1:(gs[a]).full=(C.an[a]).full:=by rw[o]
   have f2:(gs[a]).no=(C.an[a]).no:=by rw[o]
   have f3:(gs[b]).full=(C.an[b]).full:=by rw[p]
   have f4:(gs[b]).no=(C.an[b]).no:=by rw[p]
   exact h.un a b y z (by rw[←f1];exact b9) (by rw[←f3];exact ct) (by rw[←f2,←f4];exact x)
  rw[my t n (by rw[k];exact h1) (by rw[m];exact h2),s];exact(my (fs:=C.an) (D:=C.D) (c:=C.c) (aV:=C.aV) (hd:=C.hand) h.un hi h1 h2).symm
 .have q:∀f∈C.an,f.full=true->f.no≠no:=λf hf h1 h2=>by
   obtain⟨i,hi,rfl⟩:=fj hf;exact hex ⟨i,hi,h1,h2⟩
  have e:C.view no=C.D.now no:=nJ (fs:=C.an) (D:=C.D) (c:=C.c) (aV:=C.aV) (hd:=C.hand) q;rw[e,←r];refine nJ λf hf h1 h2=>?_;obtain⟨i,hi,rfl⟩:=fj hf;obtain⟨g,e⟩:=d i hi;have k:(gs[i]).full=(C.an[i]).full:=by rw[e]
  have m:(gs[i]).no=(C.an[i]).no:=by rw[e]
  exact q _ (cN g) (by rw[←k];exact h1) (by rw[←m];exact h2)
theorem yT{i:Nat}(hi:i<C.an.length){aC:ba}{V:Nat->Prop}(h:gr X w C)(hc:af V w w')(gd:∀q,q<w.heap.size->V q->c6 C q)(l:kL aC C.D)
 (t:∀j:Nat,((C.an[i]).full=true->(C.an[i]).no≠j)->aC.now j=C.D.now j) (u:∀q,cm aC q->cm C.D q\/w.heap.size<=q) (f0:Fr) (m:f0.full=false) (v:f0.pins=0):gr X w' {C with an:=C.an.set i f0,D:=aC}:=by
 have x:=hc.size;have o:∀q,q<w.heap.size->c6 {C with an:=C.an.set i f0,D:=aC} q->c6 C q:=λq c hf=>by
  rcases hf with h1|h1|h1
  .exact .inl h1
  .exact .inr (.inl h1)
  .exact .inr (.inr ((u q h1).resolve_right I))
 refine⟨λf hf=>?_,λf hf d=>?_,λa b y g h1 h2 n=>?_,λq c=>⟨fa (h.e_ q c).1 x,λhf=>(h.e_ q c).2 (o q (h.e_ q c).1 hf)⟩,l.2.2⟩
 .rcases mX hf with hf|rfl
  .exact h.pins f hf
  .exact v
 .obtain⟨k,z,rfl⟩:=fj hf
  have p:k<C.an.length:=by simpa using z
  by_cases e:i=k
  .subst e
   simp only[ij]at d;rw[m]at d;cases d
  .simp only[fl e]at d⊢
   obtain⟨no,aw,ay,A,B,E,F,G⟩:=h.ok _ (cN p) d;refine⟨no,aw,by rw[l.1];exact ay,bq.re A hc (λq c g H=>g.1 (gd q c H)) λq c g=>⟨λhf=>g.1 (o q c hf),g.2⟩,B,λhd=>?_,λhs=>F (l.2.1 _ hs),G⟩;show _=aC.now no;rw[t no λJ he=>e (h.un i k hi p J d (by rw[he,aw]))];exact E hd
 .have K:a<C.an.length:=by simpa using y
  have L:b<C.an.length:=by simpa using g
  by_cases r:i=a
  .subst r
   simp only[ij]at h1;rw[m]at h1;cases h1
  by_cases s:i=b
  .subst s
   simp only[ij]at h2;rw[m]at h2;cases h2
  simp only[fl r]at h1 n;simp only[fl s]at h2 n;exact h.un a b K L h1 h2 n
theorem Cw{i:Nat}(hi:i<C.an.length){aC:ba}{hd:Nat}(h:gr X w C)(v:(C.an[i]).full=true->∀j:Nat,(C.an[i]).no=j->aC.now j=(C.an[i]).l)(x:∀j:Nat,((C.an[i]).full=true->(C.an[i]).no≠j)->aC.now j=C.D.now j)(f0:Fr)(m:f0.full=false)(no:Nat):
 (b2.mk C.c C.aV (C.an.set i f0) hd aC).view no=C.view no:=by
 by_cases hex:∃ (k:Nat) (g:k<C.an.length),(C.an[k]).full=true/\(C.an[k]).no=no
 .obtain⟨k,g,h1,h2⟩:=hex
  have o:=my (fs:=C.an) (D:=C.D) (c:=C.c) (aV:=C.aV) (hd:=C.hand) h.un g h1 h2;have o:C.view no=(C.an[k]).l:=o;rw[o];by_cases e:i=k
  .subst e
   rw[←v h1 no h2];refine nJ λf hf aw ay=>?_;obtain⟨a,n,rfl⟩:=fj hf;have p:a<C.an.length:=by simpa using n
   by_cases d:i=a
   .subst d
    simp only[ij]at aw;rw[m]at aw;cases aw
   .simp only[fl d]at aw ay
    exact d (h.un i a hi p h1 aw (by rw[h2,ay]))
  .have y:k<(C.an.set i f0).length:=by simpa using g
   have q:(C.an.set i f0)[k]=C.an[k]:=fl e _;have z:∀ (a b:Nat) (n:a<(C.an.set i f0).length) (t:b<(C.an.set i f0).length),((C.an.set i f0)[a]).full=true->((C.an.set i f0)[b]).full=true->((C.an.set i f0)[a]).no=((C.an.set i f0)[b]).no->a=b:=by
    intro a b n t h1 h2 r;have p:a<C.an.length:=by simpa using n
    have A:b<C.an.length:=by simpa using t
    by_cases d:i=a
    .subst d
     simp only[ij]at h1;rw[m]at h1;cases h1
    by_cases u:i=b
    .subst u
     simp only[ij]at h2;rw[m]at h2;cases h2
    simp only[fl d]at h1 r;simp only[fl u]at h2 r;exact h.un a b p A h1 h2 r
   rw[my z y (by rw[q];exact h1) (by rw[q];exact h2),q]
 .have s:∀f∈C.an,f.full=true->f.no≠no:=λf hf h1 h2=>by
   obtain⟨k,g,rfl⟩:=fj hf;exact hex ⟨k,g,h1,h2⟩
  have e:C.view no=C.D.now no:=nJ (fs:=C.an) (D:=C.D) (c:=C.c) (aV:=C.aV) (hd:=C.hand) s;rw[e,←x no λh1 h2=>s _ (cN hi) h1 h2];refine nJ λf hf h1 h2=>?_;rcases mX hf with hf|rfl
  .exact s f hf h1 h2
  .rw[m]at h1;cases h1
theorem Cx{X:Nat->Prop}{w:J}{C:b2}(h:gr X w C){no:Nat}{s:ad}{l:dc}(hs:¬C.D.b7 no=true):kL (C.D.put no s l) C.D:=
 ⟨rfl,λ_ h=>h,λj a=>by
  have a:C.D.b7 j=true:=a
  rw[B8,if_neg λe=>hs (by rw[←e];exact a)];exact h.pg j a⟩
theorem Cy(D:ba){no:Nat}{s:ad}{l:dc}(hs:¬D.b7 no=true):(D.put no s l).key=D.key:=by
 have h1:=qX D (k:=2) (.inr rfl);unfold ba.key at h1⊢;have h2:(D.put no s l).ki=D.ki:=by
  funext n;exact propext ⟨λ_ h=>absurd (h no) hs,λ_ h=>absurd (h no) hs⟩
 rw[h2];have a:=congrArg Prod.snd h1;show((D.b4,D.b7,D.eG,D.ki,D.r1),(D.cD 2).cf.getD 3 0)=_;have a:(D.cD 2).cf.getD 3 0=D.cf.getD 3 0:=a;rw[a]
def Cz(X:Nat->Prop)(C:b2)(w:J)(v:aa)(w':J):Prop:=
 ∃aI:b2,dW X w' aI/\er C aI w w' 1/\aI.aV=C.aV/\(∀j,aI.view j=C.view j)/\(∀f∈aI.an,f.full=true->∃g∈C.an,g.full=true/\g.no=f.no)/\
  ((∃ (i:Nat) (hi:i<aI.an.length),v=.tuple #[.pointer (some ⟨C.aV,i*6,none⟩),(0:Int)]/\(aI.an[i]).full=false/\((aI.an[i]).pins=0))\/
   (v=.tuple #[.pointer none,(3:Int)]/\¬C.D.calm 1))
theorem CA(h:dW X w C)(ar:C.D.a6<=1000000000):aJ aj 205 #[.pointer (some C.c)] w (Cz X C w):=by
 have U:=h.raw;refine okF (ae.vd (some C.c)) ax.vd func205 ?_;(delta ae.vd j6 ak aT aF r1 bY;dsimp only);refine(HT U).use ?_;rintro _ _ ⟨he,rfl⟩;rcases he with ⟨i,hi,rfl,hf⟩|⟨rfl,au⟩
 .exact⟨_,rfl,λ_=>⟨C,h,(er.refl C w).mono (cL _),rfl,λ_=>rfl,λf hf H=>⟨f,hf,H,rfl⟩,.inl ⟨i,hi,rfl,hf,h.inv.pins _ (cN hi)⟩⟩,λh=>(by cases h)⟩
 refine⟨_,rfl,λh=>(by cases h),λ_=>(HU U h.inv.pins).use ?_⟩;rintro _ w1 ⟨i,gs,hd,hi,rfl,z,r,az⟩;have W:i<gs.length:=by rw[z.1];exact hi
 have L:af (c6 C) w w1:=az.mono λq _ n=>by
  rcases n with n|n
  .exact .inl n
  .exact .inr (.inl n)
 have E:=sM (hd:=hd) (aC:=C.D) h.inv z L (λq _ h=>h) h.inv.sK (λ_=>rfl) λq n=>.inl n;have P:=sN (hd:=hd) (aC:=C.D) h.inv z λ_=>rfl;obtain⟨a,F⟩:∃a:b2,a={C with an:=gs,hand:=hd}:=⟨_,rfl⟩;have E:gr X w1 a:=by rw[F];exact E
 have r:e9 w1 a:=by rw[F];exact r
 have P:∀no,a.view no=C.view no:=by rw[F];exact P
 have Y:∀q,c6 a q↔c6 C q:=by rw[F];exact λq=>Iff.rfl
 have o:a.D=C.D:=by rw[F]
 have p:a.c=C.c/\a.aV=C.aV:=by rw[F];exact⟨rfl,rfl⟩
 have I:a.an=gs:=by rw[F]
 have A:i<a.an.length:=by rw[I];exact W
 have R:(a.an[i]).full=true:=by
  have e:=z.2 i hi W;have:(gs[i]).full=(C.an[i]).full:=by rw[e]
  simp only[I];rw[this];exact au _ (cN hi)
 have Z:∀f∈a.an,f.full=true->∃g∈C.an,g.full=true/\g.no=f.no:=by
  rw[I];intro f hf H;obtain⟨k,aa,rfl⟩:=fj hf;have ab:k<C.an.length:=by rw[←z.1];exact aa
  have e:=z.2 k ab aa;have aB:(gs[k]).full=(C.an[k]).full:=by rw[e]
  have aD:(gs[k]).no=(C.an[k]).no:=by rw[e]
  exact⟨C.an[k],cN ab,by rw[←aB];exact H,aD.symm⟩
 obtain⟨no,aw,ay,ac,aE,aG,aH⟩:=E.ok _ (cN A) R;have f1:=kj r.f A (j:=1) (by decide)
 have fin:∀ (ai:J) (aC:ba),af (c6 C) w1 ai->e9 ai {a with D:=aC}->er C {a with D:=aC} w ai 1->kL aC C.D->(∀j:Nat,(a.an[i]).no≠j->aC.now j=C.D.now j)->(∀j:Nat,(a.an[i]).no=j->aC.now j=(a.an[i]).l)->(∀q,cm aC q->cm C.D q\/w1.heap.size<=q)->
  ∃S:ag,(some ⟨C.aV,i*6,none⟩:av ag)=some S/\bI ai S [false,false,false,(0:Int),(0:Int),()]/\(6:Nat)=6/\ao (setCells ai S 0 [false,false,false,(0:Int),(0:Int),()]) λaI=>Cz X C w (.tuple #[.pointer (some ⟨C.aV,i*6,none⟩),(0:Int)]) aI:=by
  intro ai aC aK t B aL ad aM K;have aN:bm ai a.aV (bu Fr.c a.an).toArray 275:=t.f;obtain⟨s1,s2,M⟩:=yS aN A dp;rw[p.2]at s1 s2 M;have aO:gr X (setCells ai ⟨C.aV,i*6,none⟩ 0 dp.c) {a with an:=a.an.set i dp,D:=aC}:=by
   refine yT (V:=c6 C) (w:=w1) A E (aK.trans (M.mono λq _ e=>.inr (.inl e))) (λq _ n=>(Y q).2 n) (by rw[o];exact aL) (λj u=>by rw[o];exact ad j λe=>u R e) (λq n=>by rw[o];exact K q n) dp rfl rfl
  have aP:=t.v;refine⟨_,rfl,s1,rfl,aX ⟨{a with an:=a.an.set i dp,D:=aC},⟨?_,aO⟩,?_,p.2,λj=>?_,λf hf H=>?_,.inl ⟨i,by show i<(a.an.set i dp).length;rw[dj];exact A,rfl,by simp[dp],by simp[dp]⟩⟩⟩
  .have aQ:a.c≠C.aV:=by have:=t.a1.1;rw[←p.2];exact this
   refine⟨?_,by show bm _ a.aV _ _;rw[p.2];exact s2,t.dev.ah M (λq n e=>t.a1.2.2 (by rw[show({a with D:=aC}:b2).aV=a.aV from rfl,p.2,←e];exact n)),?_,?_,?_,t.a1⟩
   .have:=aP.ah M aQ
    show Var _ _ [_,.slice _ (a.an.set i dp).length (a.an.set i dp).length,_] _;rw[dj];exact this
   .show 8<=(a.an.set i dp).length;rw[dj];exact t.b9
   .show(a.an.set i dp).length<=64;rw[dj];exact t.ct
   .show a.hand<(a.an.set i dp).length;rw[dj];exact t.hd
  .refine⟨B.c,B.d,by show(a.an.set i dp).length=_;rw[dj];exact B.len,B.b4,B.a6,B.calm,B.ah.trans (M.mono λq _ e=>.inr (.inl e)),B.c3⟩
  .rw[←P]
   exact Cw A E (λ_ j u=>aM j u) (λj u=>by rw[o];exact ad j λe=>u R e) dp rfl j
  .rcases mX hf with hf|rfl
   .exact Z f hf H
   .cases H
 refine⟨_,rfl,λh=>(by cases h),λ_=>k2 (λai=>∃aC:ba,af (c6 C) w1 ai/\e9 ai {a with D:=aC}/\er C {a with D:=aC} w ai 1/\kL aC C.D/\(∀j:Nat,(a.an[i]).no≠j->aC.now j=C.D.now j)/\(∀j:Nat,(a.an[i]).no=j->aC.now j=(a.an[i]).l)/\(∀q,cm aC q->cm C.D q\/w1.heap.size<=q)) (λq n=>⟨_,rfl,(a.an[i]).gg,?_,λaR=>?_,λaS=>n _ ⟨C.D,.refl _ _,?_,?_,h.inv.sK,λ_ _=>rfl,λj u=>?_,λq h=>.inl h⟩⟩) ?_⟩
 .rw[aA,←p.2];exact f1
 .
  have Q:=cG w1;have y:=r.ext Q;obtain⟨al,_,_⟩:=y.cells;rw[p.1,o]at al;have f3:=kj y.f A (j:=3) (by decide);have f5:=kj y.f A (j:=5) (by decide);rw[p.2]at f3 f5;refine aX ⟨_,rfl,id,_,al,_,rfl,id,(no:Int),?_,_,rfl,id,(a.an[i]).b,by rw[aA];exact f5,?_⟩
  .rw[aA,f3]
   show some (Value.int .i64 (a.an[i]).no)=_;rw[aw]
  have aU:dd w1.drew C.D:=by rw[←o];exact y.dev
  have am:¬C.D.b7 no=true:=λhs=>by
   have:=aH (by rw[o];exact hs);rw[aR]at this;cases this
  refine(v8 aU (i:=no) (by rw[←o];exact ay) ar (ac.1.ext Q) aE λq n hf=>(ac.2.2 q n).1.1 (.inr (.inr (by rw[o];exact hf)))).use ?_;rintro v2 ai aW;rcases aW with ⟨ap,rfl,T,G⟩|⟨ap,rfl,s,T,G,aY⟩
  .have N:af (c6 C) w1 ai:=(af.c0 Q).trans (G.mono λq _ e=>.inr (.inr (.inl e)))
   refine⟨3,rfl,λ_=>⟨{a with D:=C.D.cD 2},⟨?_,?_⟩,?_,p.2,λj=>?_,Z,.inr ⟨rfl,λaZ=>?_⟩⟩,λh=>(by cases h)⟩
   .have t:=y.v.ah G (λe=>y.a1.2.1 (.inl (by rw[o];exact e)))
    rw[o]at t;have aq:=r.a1;rw[o]at aq;exact⟨t,bm.ah y.f G (λe=>y.a1.2.2 (.inl (by rw[o];exact e))),T,r.b9,r.ct,r.hd,aq⟩
   .have:=sM (C:=a) (hd:=a.hand) (aC:=C.D.cD 2) E (hK.refl _) N (λq _ n=>(Y q).2 n) (by rw[o];exact h.inv.cD 2) (λj=>by rw[o];rfl) λq n=>.inl (by rw[o];exact n)
    exact this
   .refine⟨p.1,rfl,by show a.an.length=_;rw[I];exact z.1,qX C.D (.inr rfl),Nat.le_succ _,λm O=>(jM (.inr rfl) h.raw.dev.f4 O).1,L.trans N,λq n=>.inl ?_⟩
    rcases n with e|e|e
    .exact .inl (by rw[←p.1];exact e)
    .exact .inr (.inl (by rw[←p.2];exact e))
    .exact .inr (.inr e)
   .rw[←P]
    exact sN (C:=a) E (hK.refl _) (λj=>by rw[o];rfl) j
   .have:=(jM (k:=2) (m:=0) (.inr rfl) h.raw.dev.f4 aZ).2
    rw[ap]at this;cases this
  .have N:af (c6 C) w1 ai:=(af.c0 Q).trans (G.mono λq _ e=>.inr (.inr e))
   have K:∀q,cm (C.D.put no s (a.an[i]).l) q->cm C.D q\/w1.heap.size<=q:=by
    rintro q (e|e|e|⟨x,hx,e⟩)
    .exact .inl (.inl e)
    .exact .inl (.inr (.inl e))
    .exact .inl (.inr (.inr (.inl e)))
    .rcases cX.1 hx with rfl|hx
     .exact aY q e
     .exact .inl (.inr (.inr (.inr ⟨x,(gG.1 hx).1,e⟩)))
   have eg:∀q,cm C.D q->q≠a.c/\q≠a.aV:=λq n=>⟨λe=>r.a1.2.1 (by rw[o,←e];exact n),λe=>r.a1.2.2 (by rw[o,←e];exact n)⟩;refine⟨0,rfl,λh=>(by cases h),λ_=>n _ ⟨C.D.put no s (a.an[i]).l,N,?_,?_,Cx h.inv am,λj u=>?_,λj u=>?_,K⟩⟩
   .have t:=y.v.ah G (λe=>(eg _ e).1 rfl)
    rw[o]at t;have a0:a.c<w1.heap.size:=r.v.lt;have a7:a.aV<w1.heap.size:=bm.lt r.f;refine⟨t,bm.ah y.f G (λe=>(eg _ e).2 rfl),T,r.b9,r.ct,r.hd,r.a1.1,λe=>?_,λe=>?_⟩
    .rcases K _ e with h1|h1
     .exact(eg _ h1).1 rfl
     .have:a.c<w1.heap.size:=a0
      have h1:w1.heap.size<=a.c:=h1;omega
    .rcases K _ e with h1|h1
     .exact(eg _ h1).2 rfl
     .have h1:w1.heap.size<=a.aV:=h1
      omega
   .refine⟨p.1,rfl,by show a.an.length=_;rw[I];exact z.1,Cy C.D am,bl _,λm O=>(jM (.inr rfl) h.raw.dev.f4 O).1,L.trans N,λq n=>?_⟩
    rcases n with e|e|e
    .exact .inl (.inl (by rw[←p.1];exact e))
    .exact .inl (.inr (.inl (by rw[←p.2];exact e)))
    .rcases K q e with h1|h1
     .exact .inl (.inr (.inr h1))
     .exact .inr (eK L.size h1)
   .rw[pc,if_neg (λe=>u (by rw[aw,e]))]
   .rw[pc,if_pos (by rw[aw]at u;omega)]
 .rw[←o];exact r
 .refine⟨p.1,rfl,by show a.an.length=_;rw[I];exact z.1,rfl,Nat.le_succ _,λm O=>gf O (Nat.le_succ _),L,λq n=>.inl ?_⟩
  rcases n with e|e|e
  .exact .inl (by rw[←p.1];exact e)
  .exact .inr (.inl (by rw[←p.2];exact e))
  .exact .inr (.inr e)
 .have:no=j:=by rw[aw]at u;omega
  subst this;rw[←o];exact(aG aS).symm
 .rintro ai ⟨aC,a1,a2,a3,a4,a5,dK,c9⟩
  exact fin ai aC a1 a2 a3 a4 a5 dK c9
end
def sO(fs:O Fr):Prop:=∀ (i j:Nat) (hi:i<fs.length) (a:j<fs.length),(fs[i]).full=true->(fs[j]).full=true->(fs[i]).no=(fs[j]).no->i=j
theorem CB{fs gs:O Fr}{D aC:ba}{c aV hd c' g h j:Nat}(n:sO fs)(o:sO gs)(h1:∀ (i:Nat) (hi:i<fs.length),(fs[i]).full=true->(fs[i]).no=j->∃ (k:Nat) (a:k<gs.length),(gs[k]).full=true/\(gs[k]).no=j/\(gs[k]).l=(fs[i]).l)
 (h2:(∀f∈fs,f.full=true->f.no≠j)->(∀f∈gs,f.full=true->f.no≠j)/\aC.now j=D.now j):(b2.mk c' g gs h aC).view j=(b2.mk c aV fs hd D).view j:=by
 by_cases hex:∃ (k:Nat) (a:k<fs.length),(fs[k]).full=true/\(fs[k]).no=j
 .obtain⟨k,a,aw,ay⟩:=hex
  obtain⟨m,p,b,d,q⟩:=h1 k a aw ay;rw[my n a aw ay,my o p b d,q]
 .have e:∀f∈fs,f.full=true->f.no≠j:=λf hf h1 h2=>by
   obtain⟨k,a,rfl⟩:=fj hf;exact hex ⟨k,a,h1,h2⟩
  obtain⟨b,d⟩:=h2 e;rw[nJ e,nJ b,d]
section
variable {w w':J}{C:b2}{X:Nat->Prop}
theorem yU{i:Nat}(hi:i<C.an.length){no:Nat}{V:Nat->Prop}(h:gr X w C)(hc:af V w w')(gd:∀q,q<w.heap.size->V q->c6 C q){aC:ba}(r:kL aC C.D)(A:∀j,aC.now j=C.D.now j)(B:∀q,cm aC q↔cm C.D q)
 (d:Fr) (O:d.full=true) (E:d.pins=0) (s:Cu X w' {C with an:=C.an.set i d,D:=aC} d no) (t:∀ (k:Nat) (u:k<C.an.length),k≠i->(C.an[k]).full=true->(C.an[k]).no≠no):gr X w' {C with an:=C.an.set i d,D:=aC}:=by
 have F:=hc.size;have v:∀q,c6 {C with an:=C.an.set i d,D:=aC} q->c6 C q:=λq hf=>by
  rcases hf with h1|h1|h1
  .exact .inl h1
  .exact .inr (.inl h1)
  .exact .inr (.inr ((B q).1 h1))
 refine⟨λf hf=>?_,λf hf x=>?_,λa b G g h1 h2 c=>?_,λq o=>⟨fa (h.e_ q o).1 F,λhf=>(h.e_ q o).2 (v q hf)⟩,r.2.2⟩
 .rcases mX hf with hf|rfl
  .exact h.pins f hf
  .exact E
 .obtain⟨k,u,rfl⟩:=fj hf
  have H:k<C.an.length:=by simpa using u
  by_cases e:i=k
  .subst e
   simp only[ij];exact⟨no,s⟩
  .simp only[fl e]at x⊢
   obtain⟨m,aw,ay,I,J,K,L,M⟩:=h.ok _ (cN H) x;exact⟨m,aw,by show m<aC.n;rw[r.1];exact ay,bq.re I hc (λq o g N=>g.1 (gd q o N)) λq _ g=>⟨λhf=>g.1 (v q hf),g.2⟩,J,λhd=>by show _=aC.now m;rw[A];exact K hd,λhs=>L (r.2.1 _ hs),M⟩
 .have y:a<C.an.length:=by simpa using G
  have z:b<C.an.length:=by simpa using g
  by_cases p:i=a
  .by_cases l:i=b
   .omega
   .subst p
    simp only[ij]at c;simp only[fl l]at h2 c;exact absurd (by rw[←c];exact s.num) (t b z (λe=>l e.symm) h2)
  .by_cases l:i=b
   .subst l
    simp only[ij]at c;simp only[fl p]at h1 c;exact absurd (by rw[c];exact s.num) (t a y (λe=>p e.symm) h1)
   .simp only[fl p]at h1 c
    simp only[fl l]at h2 c;exact h.un a b y z h1 h2 c
theorem HV{i:Nat}(hi:i<C.an.length){no:Nat}(h:sO C.an)(g:Fr)(j:g.no=no)(l:∀ (k:Nat) (q:k<C.an.length),k≠i->(C.an[k]).full=true->(C.an[k]).no≠no):sO (C.an.set i g):=by
 intro a b o p h1 h2 c;have m:a<C.an.length:=by simpa using o
 have n:b<C.an.length:=by simpa using p
 by_cases f:i=a
 .by_cases d:i=b
  .omega
  .subst f
   simp only[ij]at c;simp only[fl d]at h2 c;exact absurd (by rw[←c];exact j) (l b n (λe=>d e.symm) h2)
 .by_cases d:i=b
  .subst d
   simp only[ij]at c;simp only[fl f]at h1 c;exact absurd (by rw[c];exact j) (l a m (λe=>f e.symm) h1)
  .simp only[fl f]at h1 c
   simp only[fl d]at h2 c;exact h a b m n h1 h2 c
theorem yV{i:Nat}(hi:i<C.an.length){no:Nat}(h:sO C.an){aC:ba}(m:∀j,aC.now j=C.D.now j)(a:Fr)(n:a.full=true)(b:a.no=no)(hold:(C.an[i]).full=true->(C.an[i]).no=no)(o:∀ (k:Nat) (g:k<C.an.length),k≠i->(C.an[k]).full=true->(C.an[k]).no≠no){hd:Nat}(j:Nat):
 (b2.mk C.c C.aV (C.an.set i a) hd aC).view j=if j=no then a.l else C.view j:=by
 have hu:=HV hi h a b o;have p:i<(C.an.set i a).length:=by simpa using hi
 by_cases e:j=no
 .subst e
  rw[if_pos rfl,my hu p (by simp[n]) (by simpa using b)];simp
 .rw[if_neg e]
  refine CB (fs:=C.an) (D:=C.D) (c:=C.c) (aV:=C.aV) (hd:=C.hand) h hu (λk g aw ay=>?_) λq=>⟨λf hf aw ay=>?_,m j⟩
  .have d:i≠k:=λr=>by
    subst r;have:=hold aw;rw[ay]at this;exact e I
   have s:k<(C.an.set i a).length:=by simpa using g
   exact⟨k,s,by simp only[fl d];exact aw,by simp only[fl d];exact ay,by simp only[fl d]⟩
  .rcases mX hf with hf|rfl
   .exact q f hf aw ay
   .rw[b]at ay
    exact e I
def HW(X:Nat->Prop)(C:b2)(no:Nat)(w:J)(v:aa)(w':J):Prop:=
 ∃aI:b2,dW X w' aI/\er C aI w w' 2/\(∀j,aI.view j=C.view j)/\
  ((∃s:ad,v=.tuple #[s,(0:Int)]/\bq (λq=>w.heap.size<=q/\¬c6 aI q/\¬X q) w' s (C.view no))\/(v=.tuple #[(),(3:Int)]/\¬C.D.calm 2))
theorem HX(h:dW X w C)(a3:C.D.a6<=999999999){no:Nat}(aD:no<C.D.n)(aE:2<=no):aJ aj 222 #[.pointer (some C.c),no] w (HW X C no w):=by
 have r:=h.raw;refine okF (ae.vg (some C.c) (no:Int)) ax.vg func222 ?_;(delta ae.vg b6 ak j6 st r1 bD h5 ey;dsimp only);refine(Cv r _).use ?_;rintro _ _ ⟨rfl,rfl⟩;refine⟨_,rfl,λF=>?_,λ_=>(we r _).use ?_⟩
 .have:decide (0<=(no:Int)/\(no:Int)<C.D.n)=true:=dI ⟨I,I⟩
  rw[this]at F;cases F
 rintro _ _ ⟨aF,rfl⟩;rcases aF with ⟨i,hi,rfl,hf,aG⟩|⟨rfl,aH⟩
 .
  obtain⟨aw,ay,M,J⟩:=nI r.f hi (j:=2) (by decide) (v:=true) {C.an[i] with used:=true} rfl;have ab:hK C.an (C.an.set i {C.an[i] with used:=true}):=(hK.refl C.an).set hi true;have K:af (c6 C) w (w.setCell ⟨C.aV,i*6+2,none⟩ true):=J.mono λq _ e=>.inr (.inl e);have hinv:=sM (hd:=C.hand) (aC:=C.D) h.inv ab K (λq _ h=>h) h.inv.sK (λ_=>rfl) λq p=>.inl p;have aI:=sN (hd:=C.hand) (aC:=C.D) h.inv ab λ_=>rfl;obtain⟨w1,ac⟩:∃w1,w1=w.setCell ⟨C.aV,i*6+2,none⟩ true:=⟨_,rfl⟩;rw[←ac]at M J K hinv;have N:e9 w1 {C with an:=C.an.set i {C.an[i] with used:=true}}:=by
   refine⟨?_,M,r.dev.ah J (λq p e=>r.a1.2.2 (e▸p)),?_,?_,?_,r.a1⟩
   .have:=r.v.ah J r.a1.1
    show Var _ _ [_,.slice _ (C.an.set i _).length (C.an.set i _).length,_] _;rw[dj];exact this
   .show 8<=(C.an.set i _).length;rw[dj];exact r.b9
   .show(C.an.set i _).length<=64;rw[dj];exact r.ct
   .show C.hand<(C.an.set i _).length;rw[dj];exact r.hd
  obtain⟨a,O⟩:∃a:b2,a={C with an:=C.an.set i {C.an[i] with used:=true}}:=⟨_,rfl⟩;have P:dW X w1 a:=by rw[O];exact⟨N,hinv⟩
  have dN:i<(C.an.set i {C.an[i] with used:=true}).length:=by simpa using hi
  have f5:=kj M dN (j:=5) (by decide);obtain⟨m,b9,ct,ad,ag,a4,a5,a8⟩:=hinv.ok ((C.an.set i {C.an[i] with used:=true})[i]) (cN dN) (by simp[hf]);have aK:((C.an.set i {C.an[i] with used:=true})[i]).b=(C.an[i]).b:=by simp
  have al:((C.an.set i {C.an[i] with used:=true})[i]).l=(C.an[i]).l:=by simp
  rw[aK,al]at ad;rw[al]at ag;refine⟨_,rfl,λ_=>⟨_,rfl,by rw[aA];exact aw,by rw[aA];exact ay,?_⟩,λh=>(by cases h)⟩;rw[aA,←ac];refine aX ⟨_,rfl,(C.an[i]).b,by rw[aA,f5];simp[Fr.c],(lL (B:=λq=>w1.heap.size<=q) ad.1 (by rw[ag];omega) (λq p=>p)).use ?_⟩;rintro _ ai ⟨s,rfl,hs,am,_⟩;have aL:C.view no=(C.an[i]).l:=my (fs:=C.an) (D:=C.D) (c:=C.c) (aV:=C.aV) (hd:=C.hand) h.inv.un hi hf aG;have aM:=K.size;refine⟨s,rfl,a,P.ext am,?_,?_,.inl ⟨s,rfl,?_⟩⟩
  .rw[O]
   exact⟨rfl,rfl,by show(C.an.set i _).length=_;rw[dj],rfl,Nat.le_add_right _ _,λm Q=>gf Q I,K.trans (af.c0 am),λq p=>.inl p⟩
  .intro j;rw[O];exact aI j
  .rw[aL]
   refine bq.a7 hs λq _ p=>⟨I,λhf=>?_,λG=>?_⟩
   .have:=P.raw.lt hf;omega
   .have:=(P.inv.e_ q G).1;omega
 .
  refine⟨_,rfl,λh=>(by cases h),λ_=>(CA h I).use ?_⟩;rintro _ w1 ⟨a,o,y,A,H,aN,N⟩;rcases N with ⟨i,hi,rfl,aO,a9⟩|⟨rfl,aP⟩
  .refine⟨_,_,rfl,λh=>(by simp at h),λ_=>⟨_,rfl,some C.D.d,?_,?_⟩⟩
   .have:=o.raw.cells.1
    rw[y.c,y.d]at this;exact this
   have R:no<a.D.n:=by rw[y.n];exact aD
   have a_:=y.a6;rw[←y.d];refine(G_ o.raw.dev R I).use ?_;rintro v2 ai ⟨ao,L,aQ⟩;have ap:=λq=>o.raw.lt (q:=q);have S:af (c6 a) w1 ai:=L.mono λq _ e=>.inr (.inr (.inl e))
   have T:∀f∈a.an,f.full=true->f.no≠no:=λf hf aR aS=>by
    obtain⟨g,hg,h1,h2⟩:=aN f hf aR;exact aH g hg h1 (by rw[h2,aS])
   have aT:a.D.calm 1\/¬C.D.calm 2:=by
    rcases Classical.em (C.D.calm 2) with h1|h1
    .exact .inl (y.calm 1 h1)
    .exact .inr h1
   have aq:a.view no=a.D.now no:=nJ (fs:=a.an) (D:=a.D) (c:=a.c) (aV:=a.aV) (hd:=a.hand) T;have U:∀q,cm a.D q->q≠a.c/\q≠a.aV:=λq p=>⟨λe=>o.raw.a1.2.1 (e▸p),λe=>o.raw.a1.2.2 (e▸p)⟩;have aU:gr X ai {a with D:=a.D.cD 1}:=sM (C:=a) (hd:=a.hand) (aC:=a.D.cD 1) o.inv (hK.refl _) S (λq _ h=>h) (o.inv.cD 1) (λ_=>rfl) λq p=>.inl p;have u:er C {a with D:=a.D.cD 1} w ai 2:=by
    have:er a {a with D:=a.D.cD 1} w1 ai 1:=⟨rfl,rfl,rfl,qX a.D (.inl rfl),Nat.le_succ _,λm Q=>(jM (.inl rfl) o.raw.dev.f4 Q).1,S,λq p=>.inl p⟩;exact y.trans this
   have aW:∀j,({a with D:=a.D.cD 1}:b2).view j=C.view j:=λj=>by rw[←H];exact sN (C:=a) o.inv (hK.refl _) (λ_=>rfl) j
   have W:e9 ai {a with D:=a.D.cD 1}:=⟨o.raw.v.ah L (λe=>(U _ (.inl rfl)).1 e.symm),bm.ah o.raw.f L (λe=>(U _ (.inl rfl)).2 e.symm),ao,o.raw.b9,o.raw.ct,o.raw.hd,o.raw.a1⟩;rcases aQ with ⟨F,rfl⟩|⟨F,s,rfl,hs⟩
   .refine⟨⟨none,0,0⟩,3,rfl,λ_=>⟨{a with D:=a.D.cD 1},⟨W,aU⟩,u,aW,.inr ⟨rfl,?_⟩⟩,λh=>(by simp at h)⟩
    rcases aT with h1|h1
    .have:=(jM (k:=1) (m:=0) (.inl rfl) o.raw.dev.f4 h1).2
     rw[F]at this;cases this
    .exact h1
   .have ar:(a.D.now no).length=256:=o.raw.dev.sH R
    obtain⟨s1,s2,z⟩:=yS W.f hi ⟨true,false,true,(no:Int),0,s,a.D.now no⟩;rw[A]at s1 s2 z;have ba:=L.size;have aM:=y.ah.size;refine⟨s,_,rfl,λh=>(by simp at h),λ_=>⟨_,rfl,s1,rfl,?_⟩⟩;obtain⟨x,au⟩:∃x,x=setCells ai ⟨C.aV,i*6,none⟩ 0 (Fr.c ⟨true,false,true,(no:Int),0,s,a.D.now no⟩):=⟨_,rfl⟩;rw[←au]at s2 z;have hg:setCells ai ⟨C.aV,i*6,none⟩ 0 [true,false,true,no,(0:Int),s]=x:=au.symm;rw[hg];have av:af (c6 a) ai x:=z.mono λq _ e=>.inr (.inl (by rw[A];exact e));have az:bq (λq=>w1.heap.size<=q) x s (a.D.now no):=bq.ah hs z λq p e=>by
     have:=ap C.aV (.inr (.inl A.symm));omega
    have aY:gr X x {a with an:=a.an.set i ⟨true,false,true,(no:Int),0,s,a.D.now no⟩,D:=a.D.cD 1}:=by
     refine yU (w:=w1) (V:=c6 a) (aC:=a.D.cD 1) hi (no:=no) o.inv (S.trans av) (λq _ h=>h) (o.inv.cD 1) (λ_=>rfl) (λq=>Iff.rfl) ⟨true,false,true,(no:Int),0,s,a.D.now no⟩ rfl rfl ⟨rfl,R,?_,ar,λ_=>rfl,λ_=>rfl,aE⟩ λk Y _ h1=>T _ (cN Y) h1;refine bq.a7 az λq _ p=>⟨λhf=>?_,λG=>?_⟩
     .have:c6 a q:=hf
      have:=ap q this;omega
     .have:=(o.inv.e_ q G).1;omega
    have aZ:∀j,({a with an:=a.an.set i ⟨true,false,true,(no:Int),0,s,a.D.now no⟩,D:=a.D.cD 1}:b2).view j=C.view j:=λj=>by
     have:=yV (hd:=a.hand) (aC:=a.D.cD 1) hi (no:=no) o.inv.un (λ_=>rfl) ⟨true,false,true,(no:Int),0,s,a.D.now no⟩ rfl rfl (λh1=>by rw[aO]at h1;cases h1) (λk Y _ h1=>T _ (cN Y) h1) j;rw[show({a with an:=a.an.set i ⟨true,false,true,(no:Int),0,s,a.D.now no⟩,D:=a.D.cD 1}:b2)=b2.mk a.c a.aV (a.an.set i ⟨true,false,true,(no:Int),0,s,a.D.now no⟩) a.hand (a.D.cD 1) from rfl,this];by_cases e:j=no
     .rw[if_pos e,e,←H,aq]
     .rw[if_neg e,H]
    have a0:e9 x {a with an:=a.an.set i ⟨true,false,true,(no:Int),0,s,a.D.now no⟩,D:=a.D.cD 1}:=by
     refine⟨?_,by show bm _ a.aV _ _;rw[A];exact s2,ao.ah z (λq p e=>(U q p).2 (by rw[A];exact e)),?_,?_,?_,o.raw.a1⟩
     .have:=W.v.ah z (λe=>o.raw.a1.1 (by rw[A];exact e))
      show Var _ _ [_,.slice _ (a.an.set i _).length (a.an.set i _).length,_] _;rw[dj];exact this
     .show 8<=(a.an.set i _).length;rw[dj];exact o.raw.b9
     .show(a.an.set i _).length<=64;rw[dj];exact o.raw.ct
     .show a.hand<(a.an.set i _).length;rw[dj];exact o.raw.hd
    obtain⟨E,Z⟩:∃E:b2,E={a with an:=a.an.set i ⟨true,false,true,(no:Int),0,s,a.D.now no⟩,D:=a.D.cD 1}:=⟨_,rfl⟩;have aa:dW X x E:=by rw[Z];exact⟨a0,aY⟩
    have a2:er C E w x 2:=by
     rw[Z];exact⟨u.c,u.d,by show(a.an.set i _).length=_;rw[dj];exact u.len,u.b4,u.a6,u.calm,c2 u.ah av λq p h=>(u.c3 q h).resolve_right I,u.c3⟩
    refine aX ((lL (B:=λq=>x.heap.size<=q) az.1 (by rw[ar];omega) (λq p=>p)).use ?_);rintro _ bb ⟨t,rfl,ht,aB,_⟩;have bc:=z.size;refine⟨t,rfl,E,aa.ext aB,?_,?_,.inl ⟨t,rfl,?_⟩⟩
    .exact(a2.trans (er.ext E aB)).mono I
    .intro j;rw[Z];exact aZ j
    .rw[←H,aq]
     refine bq.a7 ht λq _ p=>⟨I,λhf=>?_,λG=>?_⟩
     .have:=aa.raw.lt hf;omega
     .have:=(aa.inv.e_ q G).1;omega
  .refine⟨_,_,rfl,λ_=>⟨a,o,y.mono I,H,.inr ⟨rfl,λhc=>aP (gf hc I)⟩⟩,λh=>(by simp at h)⟩
end
section
variable {w w':J}{C:b2}{X:Nat->Prop}
def CC(X:Nat->Prop)(C:b2)(no:Nat)(l:dc)(w:J)(v:aa)(w':J):Prop:=
 ∃aI:b2,dW X w' aI/\er C aI w w' 1/\
  ((v=.int .i64 0/\∀j,aI.view j=if j=no then l else C.view j)\/(v=.int .i64 3/\¬C.D.calm 1/\∀j,aI.view j=C.view j))
theorem yW{i:Nat}{a:Fr}(h:e9 w C)(hc:af (λq=>q=C.aV) w w')(b:bm w' C.aV (bu Fr.c (C.an.set i a)).toArray 275):e9 w' {C with an:=C.an.set i a}:=by
 refine⟨?_,b,h.dev.ah hc (λq d e=>h.a1.2.2 (e▸d)),?_,?_,?_,h.a1⟩
 .have:=h.v.ah hc h.a1.1
  show Var _ _ [_,.slice _ (C.an.set i _).length (C.an.set i _).length,_] _;rw[dj];exact this
 .show 8<=(C.an.set i _).length;rw[dj];exact h.b9
 .show(C.an.set i _).length<=64;rw[dj];exact h.ct
 .show C.hand<(C.an.set i _).length;rw[dj];exact h.hd
theorem set_set{fs:O Fr}{i:Nat}(f g:Fr):(fs.set i f).set i g=fs.set i g:=List.set_set ..
theorem CD(h:dW X w C)(bs:C.D.a6<=999999999){no:Nat}(aF:no<C.D.n)(aG:2<=no)(aH:¬C.D.b7 no=true){b:ad}{l:dc}(ac:Src 1 w b (az l))(al:l.length=256)(am:∀q,aB b q->q<w.heap.size/\¬c6 C q):
 aJ aj 146 #[.pointer (some C.c),no,b] w (CC X C no l w):=by
 have P:=h.raw;have aI:=len8 ac;refine okF (ae.uZ (some C.c) (no:Int) b) ax.uZ func146 ?_;(delta ae.uZ b6 ak j6 h5 st bD;dsimp only);refine(Cv P _).use ?_;rintro _ _ ⟨rfl,rfl⟩;have aK:decide (0<=(no:Int)/\(no:Int)<C.D.n)=true:=dI ⟨I,I⟩;refine⟨_,rfl,λh1=>?_,λ_=>(we P _).use ?_⟩
 .rw[aK,aI,al]at h1
  simp at h1
 rintro _ _ ⟨aL,rfl⟩
 have fin:∀ (w1:J) (a:b2) (i:Nat) (hi:i<a.an.length) (f1:Fr),dW X w1 a->er C a w w1 1->a.aV=C.aV->(∀j,a.view j=C.view j)->f1.pins=0->∀ai:J,bm ai a.aV (bu Fr.c (a.an.set i f1)).toArray 275->af (λq=>q=a.aV) w1 ai->f1.full=true->f1.no=(no:Int)->
  ((a.an[i]).full=true->(a.an[i]).no=(no:Int))->(∀ (k:Nat) (E:k<a.an.length),k≠i->(a.an[k]).full=true->(a.an[k]).no≠(no:Int))->
  Calls aj 46 #[b] ai λaM Q=>∃ap:ad,aM=.returned ap/\∃G:ag,(some ⟨C.aV,i*6,none⟩:av ag)=some G/\(∃u:aa,Q.cell? (G.add 5)=some u)/\Q.frozen? (G.add 5)=false/\
   ao (Q.setCell (G.add 5) ap) λR=>∃H:ag,(some ⟨C.aV,i*6,none⟩:av ag)=some H/\(∃u:aa,R.cell? (H.add 1)=some u)/\R.frozen? (H.add 1)=false/\
   ao (R.setCell (H.add 1) true) λS=>∃K:ag,(some ⟨C.aV,i*6,none⟩:av ag)=some K/\(∃u:aa,S.cell? (K.add 2)=some u)/\S.frozen? (K.add 2)=false/\
   ao (S.setCell (K.add 2) true) λaN=>CC X C no l w (0:Int) aN:=by
  intro w1 a i hi f1 y o x aO T ai aP L M aq hold ar;have bt:=o.ah.size;have bv:=L.size;have bw:a.aV<w1.heap.size:=y.raw.lt (.inr (.inl rfl));have aQ:Src 1 ai b (az l):=by
   refine(ac.ah o.ah λq m hf=>(am q m).2 hf).ah L λq m e=>(am q m).2 (.inr (.inl (by rw[←x];exact e)))
  refine(lL (B:=λq=>ai.heap.size<=q) aQ I (λq m=>m)).use ?_;rintro _ aR ⟨s,rfl,hs,au,_⟩;have aS:=bm.ext aP au;have U:i<(a.an.set i f1).length:=by rw[dj];exact hi
  have W:(a.an.set i f1)[i]=f1:=by simp
  obtain⟨a1,a2,a3,a4⟩:=nI aS U (j:=5) (by decide) (v:=s) {f1 with b:=s} (by rw[W];rfl);rw[set_set]at a3;have aT:i<(a.an.set i {f1 with b:=s}).length:=by rw[dj];exact hi
  have aU:(a.an.set i {f1 with b:=s})[i]={f1 with b:=s}:=by simp
  obtain⟨cx,b3,z,A⟩:=nI a3 aT (j:=1) (by decide) (v:=true) {f1 with b:=s,gg:=true} (by rw[aU];rfl);rw[set_set]at z;have aW:i<(a.an.set i {f1 with b:=s,gg:=true}).length:=by rw[dj];exact hi
  have aY:(a.an.set i {f1 with b:=s,gg:=true})[i]={f1 with b:=s,gg:=true}:=by simp
  obtain⟨d1,d2,d3,d4⟩:=nI z aW (j:=2) (by decide) (v:=true) {f1 with b:=s,gg:=true,used:=true,l:=l} (by rw[aY];rfl);rw[set_set]at d3;rw[x]at a1 a2 a3 a4 cx b3 z A d1 d2 d3 d4 L;refine⟨s,rfl,_,rfl,by rw[aA];exact a1,by rw[aA];exact a2,?_⟩;rw[aA];refine aX ⟨_,rfl,by rw[aA];exact cx,by rw[aA];exact b3,?_⟩;rw[aA];refine aX ⟨_,rfl,by rw[aA];exact d1,by rw[aA];exact d2,?_⟩;rw[aA];have N:=(L.trans (af.c0 au)).trans (a4.trans (A.trans d4));obtain⟨t,r⟩:∃t:Fr,t={f1 with b:=s,gg:=true,used:=true,l:=l}:=⟨_,rfl⟩;obtain⟨F,Y⟩:∃F,F=(((aR.setCell ⟨C.aV,i*6+5,none⟩ s).setCell ⟨C.aV,i*6+1,none⟩ true).setCell ⟨C.aV,i*6+2,none⟩ true):=⟨_,rfl⟩;rw[←Y,←r]at d3;rw[←Y]at N⊢;have aZ:bq (λq=>ai.heap.size<=q) F s l:=by
   have h1:=bq.ah hs a4 λq m e=>by rw[←x]at e;omega
   have h2:=bq.ah h1 A λq m e=>by rw[←x]at e;omega
   have a0:=bq.ah h2 d4 λq m e=>by rw[←x]at e;omega
   rw[Y];exact a0
  have a5:e9 F {a with an:=a.an.set i t}:=yW y.raw (by rw[x];exact N) (by rw[x];exact d3);have a8:gr X F {a with an:=a.an.set i t}:=by
   refine yU (w:=w1) (V:=λq=>q=C.aV) (aC:=a.D) hi (no:=no) y.inv N (λq _ e=>.inr (.inl (by rw[x];exact e))) y.inv.sK (λ_=>rfl) (λq=>Iff.rfl) t (by rw[r];exact M) (by rw[r];exact T) ⟨by rw[r];exact aq,by show no<a.D.n;rw[o.n];exact aF,?_,by rw[r];exact al,λhd=>(by rw[r]at hd;cases hd),λhs=>absurd (by rw[←o.b7];exact hs) aH,aG⟩ ar;rw[r];refine bq.a7 aZ λq _ m=>⟨λhf=>?_,λa9=>?_⟩
   .have:c6 a q:=hf
    have:=y.raw.lt this;omega
   .have:=(y.inv.e_ q a9).1;omega
  refine aX ⟨{a with an:=a.an.set i t},⟨a5,a8⟩,⟨o.c,o.d,by show(a.an.set i _).length=_;rw[dj];exact o.len,o.b4,o.a6,o.calm,c2 o.ah N λq m e=>.inr (.inl e),o.c3⟩,.inl ⟨rfl,λj=>?_⟩⟩;have:=yV (C:=a) (hd:=a.hand) (aC:=a.D) hi (no:=no) y.inv.un (λ_=>rfl) t (by rw[r];exact M) (by rw[r];exact aq) hold ar j;rw[show({a with an:=a.an.set i t}:b2)=b2.mk a.c a.aV (a.an.set i t) a.hand a.D from rfl,this,aO];rw[r]
 rcases aL with ⟨i,hi,rfl,hf,Z⟩|⟨rfl,a_⟩
 .refine⟨_,rfl,cA (λp w'=>p=some ⟨C.aV,i*6,none⟩/\w=w') (λq m=>⟨λh=>(by cases h),λ_=>m _ _ ⟨rfl,rfl⟩⟩) ?_⟩
  rintro _ _ ⟨rfl,rfl⟩;have e:C.an.set i C.an[i]=C.an:=List.set_getElem_self _;exact fin w C i hi C.an[i] h ((er.refl C w).mono (cL _)) rfl (λ_=>rfl) (h.inv.pins _ (cN hi)) w (by rw[e];exact P.f) (.refl _ _) hf Z (λ_=>Z) λk E ba h1 h2=>ba (h.inv.un k i E hi h1 hf (by rw[h2,Z]))
 .refine⟨_,rfl,cA (λp ai=>∃ (w1:J) (a:b2) (i:Nat) (hi:i<a.an.length) (f1:Fr),p=some ⟨C.aV,i*6,none⟩/\dW X w1 a/\er C a w w1 1/\a.aV=C.aV/\(∀j,a.view j=C.view j)/\f1.pins=0/\bm ai a.aV (bu Fr.c (a.an.set i f1)).toArray 275/\af (λq=>q=a.aV) w1 ai/\f1.full=true/\f1.no=(no:Int)/\
   ((a.an[i]).full=true->(a.an[i]).no=(no:Int))/\(∀ (k:Nat) (E:k<a.an.length),k≠i->(a.an[k]).full=true->(a.an[k]).no≠(no:Int))) (λq m=>⟨λ_=>(CA h I).use ?_,λh=>(by cases h)⟩) ?_⟩
  .rintro _ w1 ⟨a,ab,aD,O,aE,bb,bc⟩
   have bd:∀f∈a.an,f.full=true->f.no≠(no:Int):=λf hf M be=>by
    obtain⟨g,hg,h1,h2⟩:=bb f hf M;exact a_ g hg h1 (by rw[h2,be])
   rcases bc with ⟨i,hi,rfl,bf,T⟩|⟨rfl,bg⟩
   .obtain⟨a1,a2,a3,a4⟩:=nI ab.raw.f hi (j:=0) (by decide) (v:=true) {a.an[i] with full:=true} rfl
    have U:i<(a.an.set i {a.an[i] with full:=true}).length:=by rw[dj];exact hi
    have W:(a.an.set i {a.an[i] with full:=true})[i]={a.an[i] with full:=true}:=by simp
    obtain⟨cx,b3,z,A⟩:=nI a3 U (j:=3) (by decide) (v:=no) {a.an[i] with full:=true,no:=(no:Int)} (by rw[W];rfl);rw[set_set]at z;rw[O]at a1 a2 cx b3 z a4 A;refine⟨_,_,rfl,λh=>(by simp at h),λ_=>⟨_,rfl,a1,a2,aX ⟨_,rfl,by rw[aA];exact cx,by rw[aA];exact b3,aX ?_⟩⟩⟩;rw[aA];exact m _ _ ⟨w1,a,i,hi,{a.an[i] with full:=true,no:=(no:Int)},rfl,ab,aD,O,aE,T,by rw[O];exact z,by rw[O];exact a4.trans A,rfl,rfl,λh1=>(by rw[bf]at h1;cases h1),λk E _ h1=>bd _ (cN E) h1⟩
   .exact⟨_,_,rfl,λ_=>⟨a,ab,aD,.inr ⟨rfl,bg,aE⟩⟩,λh=>(by simp at h)⟩
  .rintro p ai ⟨w1,a,i,hi,f1,rfl,aw,ay,bh,bi,bj,bk,bl,bn,bo,bp,br⟩
   exact fin w1 a i hi f1 aw ay bh bi bj ai bk bl bn bo bp br
theorem HY(h:dW X w C)(no:Nat):aJ aj 127 #[.pointer (some C.c),no] w (λv w'=>(∃b:al,v=b)/\∃aI:b2,dW X w' aI/\er C aI w w' 0/\(∀j,j≠no->aI.view j=C.view j)/\aI.D=C.D/\∀f∈aI.an,f.full=true->f∈C.an/\f.no≠(no:Int)):=by
 have d:=h.raw;refine okF (ae.uX (some C.c) (no:Int)) ax.uX func127 ?_;(delta ae.uX j6 ak aF;dsimp only);refine(we d _).use ?_;rintro _ _ ⟨u,rfl⟩;rcases u with ⟨i,hi,rfl,hf,p⟩|⟨rfl,x⟩
 .have f4:=kj d.f hi (j:=4) (by decide)
  have y:=h.inv.pins _ (cN hi);refine⟨_,rfl,cA (λb w'=>b=false/\w=w') (λq g=>⟨λh=>(by cases h),λ_=>⟨_,rfl,(C.an[i]).pins,by rw[aA];exact f4,g _ _ ⟨by rw[y];rfl,rfl⟩⟩⟩) ?_⟩;rintro _ _ ⟨rfl,rfl⟩;obtain⟨s1,s2,l⟩:=yS d.f hi dp;refine⟨λh=>(by cases h),λ_=>⟨_,rfl,s1,rfl,aX ⟨⟨true,rfl⟩,{C with an:=C.an.set i dp},⟨yW d l s2,?_⟩,?_,λj z=>?_,rfl,λf A aw=>?_⟩⟩⟩
  .exact yT (V:=λq=>q=C.aV) (aC:=C.D) hi h.inv l (λq _ e=>.inr (.inl e)) h.inv.sK (λ_ _=>rfl) (λq h=>.inl h) dp rfl rfl
  .exact⟨rfl,rfl,by show(C.an.set i _).length=_;rw[dj],rfl,bl _,λ_ h=>h,l.mono λq _ e=>.inr (.inl e),λq h=>.inl h⟩
  .refine CB (fs:=C.an) (D:=C.D) (c:=C.c) (aV:=C.aV) (hd:=C.hand) h.inv.un (λa b B E h1 h2 m=>?_) (λk n aw ay=>?_) λF=>⟨λf hf aw ay=>?_,rfl⟩
   .have G:a<C.an.length:=by simpa using B
    have H:b<C.an.length:=by simpa using E
    by_cases r:i=a
    .subst r
     simp[dp]at h1
    by_cases s:i=b
    .subst s
     simp[dp]at h2
    simp only[fl r]at h1 m;simp only[fl s]at h2 m;exact h.inv.un a b G H h1 h2 m
   .have o:i≠k:=λe=>by
     subst e;rw[p]at ay;exact z I
    exact⟨k,by rw[dj];exact n,by simp only[fl o];exact aw,by simp only[fl o];exact ay,by simp only[fl o]⟩
   .rcases mX hf with hf|rfl
    .exact F f hf aw ay
    .cases aw
  .obtain⟨k,n,rfl⟩:=fj A
   have t:k<C.an.length:=by simpa using n
   by_cases e:i=k
   .subst e
    simp[dp]at aw
   .simp only[fl e]at aw⊢
    exact⟨cN t,λay=>e (h.inv.un i k hi t hf aw (p.trans ay.symm))⟩
 .refine⟨_,rfl,cA (λb w'=>b=true/\w=w') (λq g=>⟨λ_=>g _ _ ⟨rfl,rfl⟩,λh=>(by cases h)⟩) ?_⟩
  rintro _ _ ⟨rfl,rfl⟩;exact⟨λ_=>⟨⟨false,rfl⟩,C,h,er.refl C w,λ_ _=>rfl,rfl,λf hf aw=>⟨hf,x f hf aw⟩⟩,λh=>(by cases h)⟩
end
theorem HZ(n:Nat):gS aj 275 n=(bu Fr.c (List.replicate n dp)).toArray:=by
 have a:((Tryz.prog.info? 275).bind (·.zero)).map (·.cells)=some dp.c.toArray:=by kernel_rfl
 have hc:Tryz.prog.cellsOf 275=6:=by kernel_rfl
 unfold gS;rw[hc]
 cases hi:(Tryz.prog.info? 275).bind (·.zero) with
 |none=>rw[hi]at a;cases a
 |some z=>
  rw[hi]at a;simp only[lY,Option.some.injEq]at a;simp only[Option.getD_some,a];apply Array.ext
  .simp[fA (c:=Fr.c) (sz:=6) (List.replicate n dp) (λx _=>rfl)]
  .intro i h1 h2
   have d:n*6≠0:=by
    intro h;simp[h]at h1
   have g:i<n*6:=by simpa using h1
   simp only[d,if_false,Array.getElem_map,Array.getElem_range,List.getElem_toArray];have b:dp.c.toArray.size=6:=rfl;have aH:i%6<6:=gZ _ I;have e:i/6<(List.replicate n dp).length:=by rw[l1];omega
   have hg:=vZ (c:=Fr.c) (sz:=6) (l:=List.replicate n dp) (λx _=>rfl) (i:=i/6) (j:=i%6) e aH;rw[show i/6*6+i%6=i from I]at hg;have f:i<(bu Fr.c (List.replicate n dp)).length:=by simpa using h2
   rw[dC f]at hg;have he:((List.replicate n dp)[i/6]).c=dp.c:=by simp
   rw[he,dC (show i%6<dp.c.length from aH)]at hg;have hg:=Option.some.inj hg;rw[hg,b,getElem!_pos dp.c.toArray (i%6) (by rw[b];exact aH)];simp
def lO(c aV k:Nat)(D:ba):b2:=⟨c,aV,List.replicate k dp,0,D⟩
theorem qm{w:J}{D:ba}(h:dd w D){k:Nat}(h1:8<=k)(h2:k<=64)(m:∀j,D.b7 j=true->D.e8 j=D.eG j):aJ aj 120 #[.pointer (some D.d),k] w (λv w'=>∃c aV:Nat,v=.tuple #[.pointer (some c),(0:Int)]/\dW (λ_=>False) w' (lO c aV k D)/\Ext w w'/\w.heap.size<=c/\w.heap.size<=aV):=by
 refine okF (ae.qm (some D.d) (k:Int)) ax.qm func120 ?_;delta ae.qm ak kE Y;refine⟨λh=>?_,λ_=>⟨⟨I,I,I,I⟩,?_⟩⟩
 .simp only[Option.isNone_some,mO,iY,cq]at h;omega
 rw[HZ,dg];have g:=bm.new w (bu Fr.c (List.replicate k dp)).toArray 275;have a:=da w (.cells (bu Fr.c (List.replicate k dp)).toArray 275);have n:=o6 w (.cells (bu Fr.c (List.replicate k dp)).toArray 275);obtain⟨w1,o⟩:∃w1,w1=w.alloc (.cells (bu Fr.c (List.replicate k dp)).toArray 275):=⟨_,rfl⟩;rw[←o]at g a n⊢;refine aX (a8 (vs:=[.pointer (some D.d),.slice (some w.heap.size) k k,(0:Int)]) rfl λai p b s=>⟨w1.heap.size,w.heap.size,rfl,⟨⟨?_,bm.ext g b,h.ext (a.trans b),?_,?_,?_,?_,?_,?_⟩,⟨λf hf=>?_,λf hf l=>?_,λi j hi t h1=>?_,λq r=>r.elim,m⟩⟩,a.trans b,I,bl _⟩)
 .show Var _ _ [_,.slice _ (List.replicate k dp).length (List.replicate k dp).length,_] _
  rw[l1];exact p
 .show 8<=(List.replicate k dp).length;simpa using h1
 .show(List.replicate k dp).length<=64;simpa using h2
 .show 0<(List.replicate k dp).length;simp;omega
 .show w1.heap.size≠w.heap.size;omega
 .intro e
  have:=h.lt e;have:w1.heap.size<w.heap.size:=this;omega
 .intro e
  have:=h.lt e;have:w.heap.size<w.heap.size:=this;omega
 .rw[wJ hf];rfl
 .rw[wJ hf]at l;cases l
 .simp[lO,dp]at h1
structure aK where
 bg:Nat
 gen:Nat
 root:Nat
 aL:Nat
 C:b2
 sb:Nat
 n:Nat
 f:Nat->al
 g:Nat->al
 s1:ad
 s2:ad
 E:Nat->Prop
 G:Nat->Prop
 P:Nat->av aD
def aK.cu(T:aK)(E G:Nat->Prop):aK:={T with E:=E,G:=G}
def aK.bx(T:aK)(C:b2)(P:Nat->av aD):aK:={T with C:=C,P:=P}
def aK.X(T:aK)(q:Nat):Prop:=q=T.bg\/gA T.sb T.s1 T.s2 q\/T.E q\/T.G q
def aK.M(T:aK)(q:Nat):Prop:=c6 T.C q\/T.X q
def aK.N(T:aK)(q:Nat):Prop:=c6 T.C q\/q=T.bg\/gA T.sb T.s1 T.s2 q\/T.G q
theorem aK.gB{T:aK}{q:Nat}(h:T.N q):T.M q:=h.imp id (Or.imp id (Or.imp id .inr))
def gP(gen:Nat)(leaf:al)(no:Nat)(l:dc)(n:aD):Prop:=
 ∃p:jh,fe (no:Int) l=.ok p/\p.gen<=gen/\p.kind=(if leaf then 1 else 2)/\lJ leaf p.body n/\2<=no
def lP(T:aK):O aa:=[.pointer (some T.C.c),.pointer (some T.sb),.int .u64 (T.gen:Nat),T.root,T.aL]
structure b8(w:J)(T:aK):Prop where
 t:Var w T.bg (lP T) 243
 s:fg w T.sb T.n T.f T.g T.s1 T.s2
 ca:dW T.X w T.C
 kk:¬gA T.sb T.s1 T.s2 T.bg
 dO:∀q,T.E q->q≠T.bg/\¬gA T.sb T.s1 T.s2 q/\¬T.G q
 jk:∀q,T.G q->q≠T.bg/\¬gA T.sb T.s1 T.s2 q
 n:T.C.D.n=T.n
 num:T.root<T.n/\T.aL<=12/\T.gen<18446744073709551616
 eR:∀no b_,T.P no=some b_->no<T.n/\gP T.gen b_.leaf no (T.C.view no) b_
 b7:∀j,T.C.D.b7 j=true->T.g j=true\/T.C.D.ro
 low:T.g 0=true/\T.g 1=true
structure bO(T ar:aK)(w w':J)(k:Nat):Prop where
 bg:ar.bg=T.bg
 sb:ar.sb=T.sb
 n:ar.n=T.n
 g:ar.g=T.g
 s1:ar.s1=T.s1
 s2:ar.s2=T.s2
 c:ar.C.c=T.C.c
 d:ar.C.D.d=T.C.D.d
 b4:ar.C.D.key=T.C.D.key
 gen:ar.gen=T.gen
 a6:ar.C.D.a6<=T.C.D.a6+k
 calm:∀m,T.C.D.calm (m+k)->ar.C.D.calm m
 ah:af T.N w w'
 c3:∀q,ar.M q->T.M q\/w.heap.size<=q
 fn:∀q,ar.N q->T.N q\/w.heap.size<=q
theorem bO.b7{T ar:aK}{w w':J}{k:Nat}(h:bO T ar w w' k):ar.C.D.b7=T.C.D.b7/\ar.C.D.eG=T.C.D.eG:=by
 have:=congrArg Prod.fst h.b4;exact⟨congrArg (λp=>p.2.1) this,congrArg (λp=>p.2.2.1) this⟩
theorem bO.refl(T:aK)(w:J):bO T T w w 0:=⟨rfl,rfl,rfl,rfl,rfl,rfl,rfl,rfl,rfl,rfl,bl _,λ_ h=>h,.refl _ _,λ_ h=>.inl h,λ_ h=>.inl h⟩
theorem bO.ext{w w':J}(T:aK)(h:Ext w w'):bO T T w w' 0:=⟨rfl,rfl,rfl,rfl,rfl,rfl,rfl,rfl,rfl,rfl,bl _,λ_ h=>h,af.c0 h,λ_ h=>.inl h,λ_ h=>.inl h⟩
theorem bO.trans{T ar b:aK}{w w' e:J}{k l:Nat}(h1:bO T ar w w' k)(h2:bO ar b w' e l):bO T b w e (k+l):=by
 have hs:=h1.ah.size;refine⟨h2.bg.trans h1.bg,h2.sb.trans h1.sb,h2.n.trans h1.n,h2.g.trans h1.g,h2.s1.trans h1.s1,h2.s2.trans h1.s2,h2.c.trans h1.c,h2.d.trans h1.d,h2.b4.trans h1.b4,h2.gen.trans h1.gen,by have:=h1.a6;have:=h2.a6;omega,
  λm f=>h2.calm m (h1.calm (m+l) (by rw[show m+l+k=m+(k+l) from I];exact f)),c2 h1.ah h2.ah λq a h=>(h1.fn q h).resolve_right I,λq a=>?_,λq a=>?_⟩
 .rcases h2.c3 q a with h|h
  .exact h1.c3 q h
  .exact .inr I
 .rcases h2.fn q a with h|h
  .exact h1.fn q h
  .exact .inr I
theorem bO.mono{T ar:aK}{w w':J}{k l:Nat}(h:bO T ar w w' k)(b:k<=l):bO T ar w w' l:=
 ⟨h.bg,h.sb,h.n,h.g,h.s1,h.s2,h.c,h.d,h.b4,h.gen,by have:=h.a6;omega,λm a=>h.calm m (gf a I),h.ah,h.c3,h.fn⟩
theorem bO.b_{T ar:aK}{w w':J}{k lo:Nat}(h:bO T ar w w' k){n:aD}{K V D:ad}(d:bQ (λq=>lo<=q/\¬T.M q) w n K V D):bQ (λq=>lo<=q/\¬ar.M q) w' n K V D:=by
 have h1:bQ (λq=>q<w.heap.size/\lo<=q/\¬T.M q) w n K V D:=d.a7 λq b a=>⟨b,a⟩;refine(bQ.ah h1 h.ah λq b c=>b.2.2 (aK.gB c)).a7 λq _ a=>⟨a.2.1,λc=>?_⟩;rcases h.c3 q c with h2|h2
 .exact a.2.2 h2
 .have:=a.1;omega
section
variable {w w':J}{T ar:aK}
theorem bO.step{W E G:Nat->Prop}{w1:J}{k:Nat}(h:bO T ar w w1 k)(hc:af W w1 w')(cw:∀q,W q->q<w.heap.size->T.N q)(e:∀q,E q->ar.E q\/ar.G q\/w.heap.size<=q)(b:∀q,G q->ar.G q\/w.heap.size<=q):bO T (ar.cu E G) w w' k:=by
 refine⟨h.bg,h.sb,h.n,h.g,h.s1,h.s2,h.c,h.d,h.b4,h.gen,h.a6,h.calm,c2 h.ah hc λq a f=>cw q f a,λq a=>?_,λq a=>?_⟩
 .rcases a with a|a|a|a|a
  .exact h.c3 q (.inl a)
  .exact h.c3 q (.inr (.inl a))
  .exact h.c3 q (.inr (.inr (.inl a)))
  .rcases e q a with h1|h1|h1
   .exact h.c3 q (.inr (.inr (.inr (.inl h1))))
   .exact h.c3 q (.inr (.inr (.inr (.inr h1))))
   .exact .inr h1
  .rcases b q a with h1|h1
   .exact h.c3 q (.inr (.inr (.inr (.inr h1))))
   .exact .inr h1
 .rcases a with a|a|a|a
  .exact h.fn q (.inl a)
  .exact h.fn q (.inr (.inl a))
  .exact h.fn q (.inr (.inr (.inl a)))
  .rcases b q a with h1|h1
   .exact h.fn q (.inr (.inr (.inr h1)))
   .exact .inr h1
theorem bO.local{bM kl a yX:Nat->Prop}{w1:J}{k:Nat}(h:bO (T.cu bM a) ar w1 w' k)(hx:Ext w w1)(b:∀q,bM q->T.E q\/w.heap.size<=q)(c:∀q,a q->T.G q\/w.heap.size<=q)
 (d:∀q,kl q->ar.E q\/ar.G q) (e:∀q,yX q->ar.G q):bO T (ar.cu kl yX) w w' k:=by
 have h0:bO T (T.cu bM a) w w1 0:=(bO.ext T (w:=w) (w':=w) (af.refl _ _)).step (W:=λ_=>False) hx (λ_ h=>h.elim) (λq h=>(b q h).imp id .inr) c;have h1:=h0.trans h;rw[cR]at h1;exact h1.step (W:=λ_=>False) (af.refl _ _) (λ_ h=>h.elim) (λq h=>(d q h).imp id .inl) λq h=>.inl (e q h)
theorem b8.lt(h:b8 w T){q:Nat}(a:T.M q):q<w.heap.size:=by
 rcases a with a|a
 .exact h.ca.raw.lt a
 .exact(h.ca.inv.e_ q a).1
theorem b8.kJ(h:b8 w T){q:Nat}(b:T.E q):¬T.N q:=by
 rintro(a|a|a|a)
 .exact(h.ca.inv.e_ q (.inr (.inr (.inl b)))).2 a
 .exact(h.dO q b).1 a
 .exact(h.dO q b).2.1 a
 .exact(h.dO q b).2.2 a
theorem b8.ext(h:b8 w T)(hx:Ext w w'):b8 w' T:=⟨h.t.ext hx,h.s.ext hx,h.ca.ext hx,h.kk,h.dO,h.jk,h.n,h.num,h.eR,h.b7,h.low⟩
theorem dW.grow{X d W:Nat->Prop}{C:b2}(h:dW X w C)(hc:af W w w')(cw:∀q,W q->q<w.heap.size->X q)(e:∀q,d q->X q\/(w.heap.size<=q/\q<w'.heap.size)):dW d w' C:=by
 have g:af X w w':=c2 (W:=X) (af.refl _ _) hc λq a i=>cw q i a;refine⟨h.raw.ah g λq a hx=>(h.inv.e_ q hx).2 a,h.inv.pins,λf hf j=>?_,h.inv.un,λq a=>?_,h.inv.pg⟩
 .obtain⟨no,aw,ay,k,m,n,o,p⟩:=h.inv.ok f hf j
  have r:bq (λq=>q<w.heap.size/\¬c6 C q/\¬X q) w f.b f.l:=bq.a7 k λq a c=>⟨a,c⟩;refine⟨no,aw,ay,bq.a7 (bq.ah r g λq a hx=>a.2.2 hx) λq _ c=>⟨c.2.1,λs=>?_⟩,m,n,o,p⟩;rcases e q s with h1|h1
  .exact c.2.2 h1
  .have:=c.1;omega
 .rcases e q a with h1|h1
  .exact⟨fa (h.inv.e_ q h1).1 hc.size,(h.inv.e_ q h1).2⟩
  .exact⟨h1.2,λhf=>by have:=h.raw.lt hf;omega⟩
theorem b8.grow{E G W:Nat->Prop}(h:b8 w T)(hc:af W w w')(cw:∀q,W q->q<w.heap.size->T.E q\/T.G q)(c:∀q,E q->T.E q\/T.G q\/(w.heap.size<=q/\q<w'.heap.size))(f:∀q,G q->T.E q\/T.G q\/(w.heap.size<=q/\q<w'.heap.size))(j:∀q,E q->¬G q):b8 w' (T.cu E G):=by
 have b:∀q,T.E q\/T.G q->q≠T.bg/\¬gA T.sb T.s1 T.s2 q:=λq a=>by
  rcases a with a|a
  .exact⟨(h.dO q a).1,(h.dO q a).2.1⟩
  .exact h.jk q a
 have g:af (λq=>T.E q\/T.G q) w w':=c2 (W:=λq=>T.E q\/T.G q) (af.refl _ _) hc λq a k=>cw q k a;have d:∀q,T.E q\/T.G q\/(w.heap.size<=q/\q<w'.heap.size)->q≠T.bg/\¬gA T.sb T.s1 T.s2 q:=λq a=>by
  rcases a with a|a|a
  .exact b q (.inl a)
  .exact b q (.inr a)
  .exact⟨λe=>by have h2:=h.lt (q:=q) (.inr (.inl e));omega,λe=>by have h2:=h.lt (q:=q) (.inr (.inr (.inl e)));omega⟩
 have i:∀q,T.E q\/T.G q\/(w.heap.size<=q/\q<w'.heap.size)->T.X q\/(w.heap.size<=q/\q<w'.heap.size):=λq a=>by
  rcases a with a|a|a
  .exact .inl (.inr (.inr (.inl a)))
  .exact .inl (.inr (.inr (.inr a)))
  .exact .inr a
 refine⟨h.t.ah g λe=>(b _ e).1 rfl,h.s.ah g λq a e=>(b q e).2 a,h.ca.grow hc (λq a l=>.inr (.inr (cw q a l))) λq a=>?_,h.kk,λq a=>⟨(d q (c q a)).1,(d q (c q a)).2,j q a⟩,λq a=>d q (f q a),h.n,h.num,h.eR,h.b7,h.low⟩;rcases a with a|a|a|a
 .exact .inl (.inl a)
 .exact .inl (.inr (.inl a))
 .exact i q (c q a)
 .exact i q (f q a)
theorem b8.cells(h:b8 w T):w.cell? T.bg=some (.pointer (some T.C.c))/\w.cell? (Addr.add T.bg 1)=some (.pointer (some T.sb))/\w.cell? (Addr.add T.bg 2)=some (.int .u64 (T.gen:Nat))/\
 w.cell? (Addr.add T.bg 3)=some (.int .i64 (T.root:Nat))/\w.cell? (Addr.add T.bg 4)=some (.int .i64 (T.aL:Nat)):=by
 rw[aA,aA,aA,aA];exact⟨h.t.cell,h.t.cell,h.t.cell,h.t.cell,h.t.cell⟩
theorem b8.H0(h:b8 w T){no:Nat}(a:no<T.n):(T.C.view no).length=256:=by
 unfold b2.view
 cases hf:T.C.an.find? λf=>f.full&&f.no==(no:Int) with
 |some f=>
  have h1:=j0 hf;have h2:=kU hf;obtain⟨m,b⟩:=h.ca.inv.ok f h1 (by
   have:(f.full&&f.no==(no:Int))=true:=h2;exact(Bool.and_eq_true_iff.1 this).1)
  exact b.len
 |none=>exact h.ca.raw.dev.sH (by rw[h.n];exact a)
theorem b8.wh{aI:b2}{k:Nat}{P:Nat->av aD}(h:b8 w T)(e:dW T.X w' aI)(a:er T.C aI w w' k)(f:∀no b_,P no=some b_->no<T.n/\gP T.gen b_.leaf no (aI.view no) b_):
 b8 w' (T.bx aI P)/\bO T (T.bx aI P) w w' k:=by
 have hx:=h.ca.inv.e_;have hc:=a.ah;refine⟨⟨?_,h.s.ah hc λq b hf=>(hx q (.inr (.inl b))).2 hf,e,h.kk,h.dO,h.jk,?_,h.num,f,λj l=>by unfold ba.ro;show T.g j=true\/∀i,aI.D.b7 i=true;rw[a.b7];exact h.b7 j (by rw[←a.b7];exact l),h.low⟩,⟨rfl,rfl,rfl,rfl,rfl,rfl,a.c,a.d,a.b4,rfl,a.a6,a.calm,hc.mono λq _ b=>.inl b,?_,?_⟩⟩
 .have:=h.t.ah hc λhf=>(hx T.bg (.inl rfl)).2 hf
  unfold lP at this⊢;rw[←a.c]at this;exact this
 .show aI.D.n=T.n
  rw[a.n,h.n]
 .rintro q (b|b)
  .rcases a.c3 q b with h1|h1
   .exact .inl (.inl h1)
   .exact .inr h1
  .exact .inl (.inr b)
 .rintro q (b|b)
  .rcases a.c3 q b with h1|h1
   .exact .inl (.inl h1)
   .exact .inr h1
  .exact .inl (.inr b)
end
def H2(T:aK)(leaf:al)(no:Nat)(e:Int):Prop:=
 (e=3/\¬T.C.D.calm 2)\/fe (no:Int) (T.C.view no)=.error e\/(e=4/\(∃p,fe (no:Int) (T.C.view no)=.ok p)/\∀n,¬gP T.gen leaf no (T.C.view no) n)
def pj(T:aK)(leaf:al)(no:Nat)(w:J)(v:aa)(w':J):Prop:=
 ∃aI:b2,b8 w' (T.bx aI T.P)/\bO T (T.bx aI T.P) w w' 2/\(∀j,aI.view j=T.C.view j)/\
  ((∃ (n:aD) (K V D:ad),v=.tuple #[db n K V D,(0:Int)]/\gP T.gen leaf no (T.C.view no) n/\bQ (λq=>w.heap.size<=q/\¬(T.bx aI T.P).M q) w' n K V D)\/
    (∃e:Int,v=.tuple #[db iP bH bH bH,e]/\H2 T leaf no e/\e≠0))
theorem CE{no:Int}{l:dc}{e:Int}(h:fe no l=.error e):e≠0:=by
 intro he;subst he;unfold fe at h
 repeat' split at h
 all_goals first|(injection h with h;exact absurd h (by decide))|cases h
theorem H3{no:Int}{l:dc}{p:jh}(h:fe no l=.ok p):p.body.length<=256:=by
 unfold fe at h
 repeat' split at h
 all_goals first|(cases h;done)|skip
 rename_i h1 _ _ _ _ _;injection h with h
 rw[←h];show(List.take _ (List.drop 24 l)).length<=256;rw[cI,ed];omega
theorem CF{w':J}{h:Nat}{vs:O aa}(n g:Int)(s:ad)(a:Var w' h vs 137)(b:vs.length=3){K:J->Prop}(c:∀ai,Var ai h [n,.int .u64 g,s] 137->af (λq=>q=h) w' ai->ai.heap.size=w'.heap.size->K ai):
 bI w' h [n,.int .u64 g,s]/\(3:Nat)=3/\ao (setCells w' h 0 [n,.int .u64 g,s]) K:=by
 refine⟨a.cl (by rw[b];rfl) ?_,rfl,cP a (us:=[n,.int .u64 g,s]) (by rw[b];rfl) rfl c⟩;intro v a;simp only[cX,fk,fv]at a;rcases a with rfl|rfl|rfl<;>trivial
theorem yY{w:J}{T:aK}(h:b8 w T)(aE:T.C.D.a6<=999999999){no:Nat}(ac:no<T.n)(ag:2<=no)(leaf:al):
 aJ aj 175 #[.pointer (some T.bg),no,leaf] w (pj T leaf no w):=by
 have bd:=h.s.bA;have aG:=h.H0 ac;refine okF (ae.u6 (some T.bg) (no:Int) leaf) ax.u6 func175 ?_;(delta ae.u6 z4 ey ak xO Y fx aT r1 AU tW cr aF rZ k6;dsimp only);refine a8 (vs:=[false,(),(),()]) rfl λw1 aH am be=>?_;obtain⟨o,L⟩:∃o,o=λq=>T.G q\/q=w.heap.size:=⟨_,rfl⟩;have an:o w.heap.size:=by rw[L];exact .inr rfl
 have N:∀q,T.G q->o q:=λq c=>by rw[L];exact .inl c
 have O:∀q,o q->T.G q\/q=w.heap.size:=λq c=>by rw[L]at c;exact c
 have h1:b8 w1 (T.cu T.E o):=h.grow (W:=λ_=>False) am (λ_ h=>h.elim) (λq c=>.inl c) (λq c=>.inr ((O q c).imp id λe=>⟨I,I⟩)) λq c hg=>by
  rcases O q hg with h2|h2
  .exact(h.dO q c).2.2 h2
  .have:=h.lt (q:=q) (.inr (.inr (.inr (.inl c))));omega
 refine⟨_,rfl,_,h1.cells.1,(HX h1.ca aE (no:=no) (by rw[h1.n];exact ac) ag).use ?_⟩;rintro _ m ⟨aI,aL,R,t,aM⟩;obtain⟨S,aN⟩:=h1.wh (P:=T.P) aL R (λno b_ aO=>by rw[t];exact h1.eR no b_ aO);have bf:=R.ah.size;have ao:Var m w.heap.size [false,(),(),()] 169:=aH.ah R.ah λhf=>(h1.ca.inv.e_ _ (.inr (.inr (.inr an)))).2 hf
 have fin:∀w':J,af (λq=>q=w.heap.size) m w'->b8 w' (T.bx aI T.P)/\bO T (T.bx aI T.P) w w' 2:=λw' hc=>by
  refine⟨S.grow (E:=T.E) (G:=T.G) hc (λq e _=>.inr (by rw[e];exact an)) (λq c=>.inl c) (λq c=>.inr (.inl (N q c))) λq c=>(h.dO q c).2.2,?_⟩;have aP:=aN.local am (λq c=>.inl c) (λq c=>(O q c).imp id λe=>I) (kl:=T.E) (yX:=T.G) (λq c=>.inl c) N;exact aP.step hc (λq e bh=>I) (λq c=>.inl c) λq c=>.inl c
 have aQ:∀ {w':J}{n:aD}{K V D:ad}{B:Nat->Prop},bQ (λq=>m.heap.size<=q) w' n K V D->bQ (λq=>w.heap.size<=q/\¬(T.bx aI T.P).M q) w' n K V D:=λaR=>by
  refine aR.a7 λq _ c=>⟨I,λj=>?_⟩;have:q<m.heap.size:=S.lt (q:=q) (by
   rcases j with j|j|j|j|j
   .exact .inl j
   .exact .inr (.inl j)
   .exact .inr (.inr (.inl j))
   .exact .inr (.inr (.inr (.inl j)))
   .exact .inr (.inr (.inr (.inr (N q j)))))
  omega
 rcases aM with ⟨s,rfl,hs⟩|⟨rfl,aS⟩
 .refine⟨s,0,rfl,λd=>(by cases d),λ_=>(qq hs.1 hs.2.1 (by show(T.C.view no).length<=1000;rw[aG];omega) _).use ?_⟩
  rintro _ aU ⟨y,F⟩;have ap:=ao.ext F;have bi:=F.size;have aV:(T.cu T.E o).C.view no=T.C.view no:=rfl;rw[aV]at y
  cases g:fe (no:Int) (T.C.view no) with
  |error e=>
   rw[g]at y;obtain rfl:=y;refine⟨0,0,⟨none,0,0⟩,e,rfl,a8 (vs:=[(0:Int),.int .u64 0,()]) rfl λaY U u aZ=>?_⟩;refine CF 0 0 ⟨none,0,0⟩ U rfl λf aq v a0=>⟨λ_=>?_,λd=>?_⟩
   .have X:Var f w.heap.size [false,(),(),()] 169:=(ap.ext u).ah v I
    refine iQ false bH bH bH X rfl (Q:=λb K V D ai=>pj T leaf no w (.tuple #[.agg #[b,K,V,D],e]) ai) λl i=>?_;obtain⟨f1,f2⟩:=fin l (c2 (W:=λq=>q=w.heap.size) (af.c0 (Ext.cy (F.trans u) v I)) i λq _ e=>e);exact⟨aI,f1,f2,t,.inr ⟨e,rfl,.inr (.inl g),CE g⟩⟩
   .have:=CE g
    simp at d;omega
  |ok p=>
   rw[g]at y;obtain⟨z,rfl,Z,bj⟩:=y;refine⟨p.kind,p.gen,z,0,rfl,a8 (vs:=[(0:Int),.int .u64 0,()]) rfl λaY U u aZ=>?_⟩;refine CF p.kind p.gen z U rfl λf aq v a0=>⟨λd=>(by cases d),λ_=>aX ?_⟩;have X:Var f w.heap.size [false,(),(),()] 169:=(ap.ext u).ah v I;have a1:Ext m f:=Ext.cy (F.trans u) v I;have A:Ext m f.drew:=a1.trans (cG _);have aa:Var f.drew w.heap.size [false,(),(),()] 169:=X.drew;have H:=aq.drew;have a2:=(S.ext A).cells;obtain⟨b,d⟩:∃b,b=aU.heap.size:=⟨_,rfl⟩;rw[←d]at H⊢;have ab:f.drew.cell? b=some (.int .i64 (p.kind:Nat)):=H.cell;have a3:f.drew.cell? (Addr.add b 1)=some (.int .u64 (p.gen:Nat)):=by rw[aA];exact H.cell
   have a4:f.drew.cell? (Addr.add b 2)=some (.slice z.a z.len z.cap):=by rw[aA];exact H.cell
   have bk:m.heap.size<=f.drew.heap.size:=A.size;refine⟨id,_,a3,_,rfl,id,_,a2.2.2.1,λhg=>?_,λhg=>⟨id,_,ab,?_⟩⟩
   .have hg:T.gen<p.gen:=by
     have:(p.gen:Int)>(T.gen:Int):=cj hg;omega
    refine cA (λb w'=>b=true/\w'=f.drew) (λq c=>⟨λ_=>c _ _ ⟨rfl,rfl⟩,λh=>by cases h⟩) ?_;rintro _ _ ⟨rfl,rfl⟩;refine⟨λ_=>?_,λh=>(by cases h)⟩;refine iQ false bH bH bH aa rfl (Q:=λb K V D ai=>pj T leaf no w (.tuple #[.agg #[b,K,V,D],(4:Int)]) ai) λl i=>?_;obtain⟨f1,f2⟩:=fin l (c2 (W:=λq=>q=w.heap.size) (af.c0 A) i λq _ e=>e);refine⟨aI,f1,f2,t,.inr ⟨4,rfl,.inr (.inr ⟨rfl,⟨p,g⟩,?_⟩),by decide⟩⟩;rintro n ⟨ar,aw,ay,_⟩;rw[g]at aw;cases aw;omega
   .have hg:p.gen<=T.gen:=by
     have:¬(p.gen:Int)>(T.gen:Int):=cH hg;omega
    refine cA (λb w'=>w'=f.drew/\(b=false↔p.kind=(if leaf then 1 else 2))) (λq c=>⟨λh=>c _ _ ⟨rfl,?_⟩,λh=>⟨_,ab,cA (λb w'=>w'=f.drew/\(b=false↔p.kind=(if leaf then 1 else 2))) (λr au=>⟨λh2=>⟨_,ab,au _ _ ⟨rfl,?_⟩⟩,λh2=>au _ _ ⟨rfl,?_⟩⟩) λb w' a5=>c b w' a5⟩⟩) ?_
    .refine⟨λh=>(by cases h),λx=>?_⟩
     rw[x]at h
     cases leaf<;>simp at h
    .cases leaf
     .simp
      exact Int.ofNat_inj
     .simp at h2 h;omega
    .cases leaf
     .simp at h2 h;omega
     .simp at h2
      simp;omega
    rintro bl _ ⟨rfl,x⟩;refine⟨λd=>?_,λd=>⟨_,a4,(qw ((Z.ext (Ext.cy u v I|>.trans (cG _))).src) ?_ ?_ ?_ leaf).use ?_⟩⟩
    .refine iQ false bH bH bH aa rfl (Q:=λb K V D ai=>pj T leaf no w (.tuple #[.agg #[b,K,V,D],(4:Int)]) ai) λl i=>?_
     obtain⟨f1,f2⟩:=fin l (c2 (W:=λq=>q=w.heap.size) (af.c0 A) i λq _ e=>e);refine⟨aI,f1,f2,t,.inr ⟨4,rfl,.inr (.inr ⟨rfl,⟨p,g⟩,?_⟩),by decide⟩⟩;rintro n ⟨ar,aw,ay,av,_⟩;rw[g]at aw;cases aw;rw[x.2 av]at d;cases d
    .exact Z.2.1
    .intro k x
     have:=aW.lt Z k x;have:=u.size;show k<f.heap.size;omega
    .have:=H3 g
     omega
    rintro _ a9 ⟨a_,az⟩;have aB:Ext m a9:=A.trans az;have aC:=aa.ext az;rcases a_ with ⟨n,K,V,D,rfl,ba,eg⟩|⟨rfl,bb⟩
    .refine⟨n.leaf,K,V,D,0,rfl,?_⟩
     refine iQ n.leaf K V D aC rfl (Q:=λb K V D ai=>pj T leaf no w (.tuple #[.agg #[b,K,V,D],(0:Int)]) ai) λl i=>?_;obtain⟨f1,f2⟩:=fin l (c2 (W:=λq=>q=w.heap.size) (af.c0 aB) i λq _ e=>e);refine⟨aI,f1,f2,t,.inl ⟨n,K,V,D,rfl,⟨p,g,hg,x.1 d,ba,ag⟩,?_⟩⟩;refine aQ (B:=λ_=>True) (bQ.ah (eg.a7 λq _ c=>?_) i λq c e=>?_)
     .omega
     .have:m.heap.size<=q:=c
      omega
    .refine⟨false,bH,bH,bH,4,rfl,?_⟩
     refine iQ false bH bH bH aC rfl (Q:=λb K V D ai=>pj T leaf no w (.tuple #[.agg #[b,K,V,D],(4:Int)]) ai) λl i=>?_;obtain⟨f1,f2⟩:=fin l (c2 (W:=λq=>q=w.heap.size) (af.c0 aB) i λq _ e=>e);refine⟨aI,f1,f2,t,.inr ⟨4,rfl,.inr (.inr ⟨rfl,⟨p,g⟩,?_⟩),by decide⟩⟩;rintro n ⟨ar,aw,ay,av,bc,_⟩;rw[g]at aw;cases aw;exact bb n bc
 .refine⟨⟨none,0,0⟩,3,rfl,λ_=>?_,λd=>(by cases d)⟩
  refine iQ false bH bH bH ao rfl (Q:=λb K V D ai=>pj T leaf no w (.tuple #[.agg #[b,K,V,D],(3:Int)]) ai) λl i=>?_;obtain⟨f1,f2⟩:=fin l i;exact⟨aI,f1,f2,t,.inr ⟨3,rfl,.inl ⟨rfl,aS⟩,by decide⟩⟩
structure dr where
 no:Nat
 n:aD
 cM:Nat
 K:ad
 V:ad
 D:ad
def dr.c(s:dr):O aa:=[s.no,s.n.leaf,s.K,s.V,s.D,s.cM]
def dr.st(s:dr):Nat×aD×Nat:=(s.no,s.n,s.cM)
theorem nK(l:O dr):∀x∈l,(dr.c x).length=6:=λ_ _=>rfl
structure km(B:Nat->Prop)(w:J)(s:ad)(l:O dr):Prop where
 own:aW 6 223 w s (bu dr.c l)
 pk:∀q,aB s q->B q
 b_:∀x∈l,bQ B w x.n x.K x.V x.D
def nL(P:Nat->av aD)(k:Key):Nat->Nat->O (Nat×aD×Nat)->Prop
 |0,_,l=>l=[]
 |h+1,no,l=>∃n rest,P no=some n/\n.leaf=decide (h=0)/\l=(no,n,if h=0 then 0 else c_ n.keys k)::rest/\nL P k h (n.kids.getD (c_ n.keys k) 0) rest
theorem nL.length{P:Nat->av aD}{k:Key}:∀ {h no:Nat}{l:O (Nat×aD×Nat)},nL P k h no l->l.length=h
 |0,_,_,h=>by rw[h];rfl
 |h+1,_,_,⟨n,rest,_,_,a,b⟩=>by rw[a,fY,nL.length b]
theorem gP.uniq{gen no:Nat}{leaf:al}{l:dc}{n m:aD}(h1:gP gen leaf no l n)(h2:gP gen leaf no l m):n=m:=by
 obtain⟨p,a1,a2,a3,a4⟩:=h1;obtain⟨q,cx,b3,b,a⟩:=h2;rw[a1]at cx
 cases cx;exact lJ.uniq a4.1 a.1
theorem gP.is{gen no:Nat}{leaf:al}{l:dc}{n:aD}(h:gP gen leaf no l n):n.leaf=leaf/\cC n/\bz n<=232:=by
 obtain⟨p,_,_,_,a,_⟩:=h;exact⟨a.2.1,a.1,a.2.2.1⟩
theorem gP.two{gen no:Nat}{leaf:al}{l:dc}{n:aD}(h:gP gen leaf no l n):2<=no:=by
 obtain⟨p,_,_,_,_,a⟩:=h;exact a
theorem cC.eU{n:aD}(h:cC n):n.keys.Pairwise bo:=by
 rcases h with h|h
 .exact h.eU
 .exact h.eU
def H4(T:aK)(steps:O (Nat×aD×Nat))(w:J)(v:aa)(w':J):Prop:=
 ∃aI:b2,b8 w' (T.bx aI T.P)/\bO T (T.bx aI T.P) w w' (2*T.aL)/\(∀j,aI.view j=T.C.view j)/\
  ((∃ (s:ad) (l:O dr),v=.tuple #[s,(0:Int)]/\l.map dr.st=steps/\km (λq=>w.heap.size<=q/\¬(T.bx aI T.P).M q) w' s l)\/(v=.tuple #[(),(3:Int)]/\¬T.C.D.calm (2*T.aL)))
theorem H5(w:J)(cs:Array aa)(h:cs.size=6):Sem.run aj (Instr.buildSlice 219 1 #[(0,.agg cs)]) w=.ok (.slice (some w.heap.size) 1 1) (w.alloc (.cells cs 223)):=by
 have h0:((Tryz.prog.info? 223).bind (·.zero)).isSome=true:=by kernel_rfl
 obtain⟨z,a⟩:=mL.1 h0;obtain⟨i,hi,b⟩:=sG a;have h1:(Tryz.prog.underlying 223).isSome=true:=by kernel_rfl
 obtain⟨d,hd⟩:=mL.1 h1;exact yJ (sz:=6) w (by kernel_rfl) hd (by kernel_rfl) hi b h (by decide) (by decide)
theorem H6:g3 aj 219 223 6 96:=⟨by kernel_rfl⟩
end Go.Proofs.YtcmgnhkpfllinaaGreat
