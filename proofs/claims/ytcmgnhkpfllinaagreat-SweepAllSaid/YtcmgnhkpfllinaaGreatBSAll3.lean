/- Contracts of the functions that the statement reaches, and the plain laws over them; each theorem stands with its conditions. -/
import Derived.OpenShut
import Derived.Shelf.SlIterI.Nil
import Derived.Shelf.SortM.Plain
import Derived.Shelf.SortM.SortNone
import Derived.Test.YtcmgnhkpfllinaaGreatProg
import Derived.Test.YtcmgnhkpfllinaaGreatRows
import Derived.Test.YtcmgnhkpfllinaaGreatBSAll2
namespace Go.Proofs.YtcmgnhkpfllinaaGreat
open Go aQ Go.Proofs.Tryz
section
variable {α:Type}{c:α->O aa}{sz:Nat}
def bz(c:α->O aa)(l:O α):O aa:=(l.map c).flatten
theorem lU(l m:O α):bz c (l++m)=bz c l++bz c m:=by simp[bz]
theorem qV(x:α)(l:O α):bz c (x::l)=c x++bz c l:=rfl
theorem fD:∀ (l:O α),(∀x∈l,(c x).length=sz)->(bz c l).length=l.length*sz
 | [],_=>by simp[bz]
 |x::l,h=>by
  rw[qV,ct,h x (by simp),fD l λy a=>h y (by simp[a]),f_,jc];omega
theorem Hk{l:O α}{i:Nat}(h:i<l.length):l=l.take i++l[i]::l.drop (i+1):=by rw[←j0 h,fK]
theorem yN{l:O α}(hc:∀x∈l,(c x).length=sz){i:Nat}(h:i<l.length):(bz c l).take (i*sz)=bz c (l.take i)/\(bz c l).drop (i*sz)=c l[i]++bz c (l.drop (i+1)):=by
 have a:(bz c (l.take i)).length=i*sz:=by
  rw[fD _ λx hx=>hc x (fM hx),cG,hZ I]
 have e:bz c l=bz c (l.take i)++(c l[i]++bz c (l.drop (i+1))):=by
  conv=>lhs;rw[Hk h]
  rw[lU,qV]
 rw[e];exact⟨mA a,drop_left' a⟩
theorem Cd{l:O α}(hc:∀x∈l,(c x).length=sz){i:Nat}(h:i<l.length):((bz c l).drop (i*sz)).take sz=c l[i]:=by
 rw[(yN hc h).2];exact mA (hc _ (cL h))
theorem wc{l:O α}(hc:∀x∈l,(c x).length=sz){i j:Nat}(h:i<l.length)(a:j<sz):(bz c l)[i*sz+j]? =(c l[i])[j]? :=by
 rw[←Cd hc h,List.getElem?_take_of_lt a,s6]
theorem Ce{l:O α}(hc:∀x∈l,(c x).length=sz){i:Nat}(h:i<l.length)(x:α):(bz c l).take (i*sz)++c x++(bz c l).drop (i*sz+sz)=bz c (l.set i x):=by
 have h1:=yN hc h;have h2:(bz c l).drop (i*sz+sz)=bz c (l.drop (i+1)):=by
  rw[←kY,h1.2];exact drop_left' (hc _ (cL h))
 rw[h1.1,h2,wR,if_pos h,lU,qV,cB]
theorem Hl{l:O α}(hc:∀x∈l,(c x).length=sz){i j:Nat}(h:i<l.length)(a:j<sz){x:α}{v:aa}(hx:c x=(c l[i]).set j v):(bz c l).set (i*sz+j) v=bz c (l.set i x):=by
 have b:(c l[i]).length=sz:=hc _ (cL h);have h1:=yN hc h;have e:bz c l=bz c (l.take i)++(c l[i]++bz c (l.drop (i+1))):=by
  conv=>lhs;rw[←fK (i*sz) (bz c l),h1.1,h1.2]
 have d:(bz c (l.take i)).length=i*sz:=by
  rw[fD _ λx hx=>hc x (fM hx),cG,hZ I]
 rw[e,tb _ _ I,show i*sz+j-(bz c (l.take i)).length=j from I,List.set_append_left _ _ I,←hx,wR,if_pos h,lU,qV]
end
section
variable {α:Type} [DecidableEq α] {P:Program}{w:J}{hC lG T:TypeId}{enc:α->aa}{r:Nat}{M:O (α×aa)}{k:α}{v:aa}
theorem Hm(f:m9 P hC enc)(j:P.underlying T=some (.map hC lG))(h:eF w r enc M)(l:∀v,(k,v)∉M)(v:aa):
 ∃w1:J,(Instr.mapUpdate T (.map (some r)) (enc k) v).run P w=.ok () w1/\af (λq=>q=r) w w1/\w1.heap.size=w.heap.size/\eF w1 r enc ((k,v)::M):=by
 have aH:=h.lt;obtain⟨L,c,h,h1,h2,m,g⟩:=h;have i:=A3 h1 l;have hf:=f.find L k w;rw[xx i]at hf;refine⟨ix w r (.map ((L.map (en enc)).toArray.push ⟨enc k,v,c⟩) (c+1)),?_,rW _ _ _,tQ _ _ _,L++ [(k,v,c)],c+1,?_,?_,?_,?_,?_⟩
 .simp only[Instr.mapUpdate,Sem.run_bind,c2 j,Result.andThen,mm h,Sem.run_pure,f.check,hf,xz h]
 .rw[tR aH]
  simp[en]
 .rw[fL]
  have:([(k,v,c)]:O (α×aa×Nat)).map mj=[(k,v)]:=rfl;rw[this];exact(rm).trans (List.Perm.cons _ h1)
 .rw[fL,s_]
  refine⟨h2,by simp,λa e b d=>?_⟩;obtain⟨x,hx,rfl⟩:=fF.1 e;simp only[g9,List.map_nil,fg]at d;subst d;exact i x hx
 .rw[fL,s_]
  refine⟨m,by simp,λa e b d=>?_⟩;obtain⟨x,hx,rfl⟩:=fF.1 e;simp only[g9,List.map_nil,fg]at d;subst d;have:=g x hx;omega
 .intro x hx
  rcases cO.1 hx with hx|hx
  .have:=g x hx;omega
  .rw[fg.1 hx];show c<c+1;omega
theorem Hn(c:m9 P hC enc)(g:P.underlying T=some (.map hC lG))(h:eF w r enc ((k,v)::M))(b:aa):
 ∃w1:J,(Instr.mapUpdate T (.map (some r)) (enc k) b).run P w=.ok () w1/\af (λq=>q=r) w w1/\w1.heap.size=w.heap.size/\eF w1 r enc ((k,b)::M):=by
 have aH:=h.lt;obtain⟨n,bd,bB,a,f,h,h1,h2,i,d,_⟩:=h.split;have hf:=c.find (bd++(k,v,a)::bB) k w;rw[xy (A2 h2),cT]at hf;have hg:((bd++(k,v,a)::bB).map (en enc)).toArray[bd.length]? =some ⟨enc k,v,a⟩:=by simp[en]
 have j:((bd++(k,v,a)::bB).map (en enc)).toArray.modify bd.length (λe=>{e with key:=enc k,val:=b})=((bd++(k,b,a)::bB).map (en enc)).toArray:=by
  apply Array.toList_inj.1;rw[Array.toList_modify,fL,g9];have:=A1 (λe=>{e with key:=enc k,val:=b}) (en enc (k,v,a)) (bB.map (en enc)) (bd.map (en enc));rw[dk]at this;rw[this];simp[en]
 refine⟨ix w r (.map ((bd++(k,b,a)::bB).map (en enc)).toArray f),?_,rW _ _ _,tQ _ _ _,bd++(k,b,a)::bB,f,tR aH _,?_,?_,?_,?_⟩
 .simp only[Instr.mapUpdate,Sem.run_bind,c2 g,Result.andThen,mm h,Sem.run_pure,c.check,hf,hg,l4,Option.getD_some,Instr.keyThatStays,c.bits,if_true,xz h,j]
 .rw[fL,g9]
  rw[fL]at h1;exact mU.trans (h1.cons _)
 .simpa using h2
 .simpa using i
 .intro x hx
  rcases cO.1 hx with hx|hx
  .exact d x (by simp[hx])
  .rcases cY.1 hx with rfl|hx
   .exact d (k,v,a) (by simp)
   .exact d x (by simp[hx])
end
abbrev de:=O UInt8
structure hN where
 i:Nat
 s:ad
 iD:O de
structure bc where
 d:Nat
 lb:Nat
 mr:Nat
 ck:O Int
 b5:O de
 waits:O hN
 writes:Int
 a7:Nat
 b6:Nat->al
 eI:Nat->O de
 r1:al
def hN.e(x:hN):Int×aa:=((x.i:Int),x.s)
def bc.c(D:bc):O aa:=D.ck.map (.int .i64)++ [.slice (some ⟨D.lb,0,none⟩) D.b5.length D.b5.length,.map (some D.mr),.int .i64 D.writes]
def bc.n(D:bc):Nat:=D.b5.length
abbrev encZ:Int->aa:=λn=>n
theorem qW:m9 aj 3 encZ:=m9.int (by kernel_rfl)
theorem nB:Tryz.prog.underlying 125=some (.map 3 124):=by kernel_rfl
theorem Cf:(Tryz.prog.info? 124).bind (·.zero)=some (.slice none 0 0):=by kernel_rfl
theorem sJ{P:Program}{T:TypeId}{z:aa}(h:(P.info? T).bind (·.zero)=some z):∃i,P.info? T=some i/\i.zero=some z:=by
 cases hi:P.info? T with
 |none=>rw[hi]at h;cases h
 |some i=>rw[hi]at h;exact⟨i,rfl,h⟩
def cn(D:bc)(q:Nat):Prop:=q=D.d\/q=D.lb\/q=D.mr\/∃x∈D.waits,aB x.s q
structure df(w:J)(D:bc):Prop where
 v:Var w D.d D.c 129
 l:bp w D.lb (bz az D.b5).toArray 151
 m:eF w D.mr encZ (D.waits.map hN.e)
 ws:∀x∈D.waits,aV 256 151 w x.s (bz az x.iD)
 wn:∀x∈D.waits,x.iD≠ []/\x.i<D.n/\x.iD.length<=D.a7
 sl:∀s∈D.b5,s.length=256
 nC:∀x∈D.waits,∀s∈x.iD,s.length=256
 b_:16<=D.n
 bu:D.n<=1600
 f4:D.ck.length=4
 fr:∀x∈D.ck, -1<=x/\x<=9223372036854775807
 a1:D.d≠D.lb/\D.d≠D.mr/\D.lb≠D.mr
 a2:∀x∈D.waits,¬aB x.s D.d/\¬aB x.s D.lb/\¬aB x.s D.mr
 a3:∀x∈D.waits,∀y∈D.waits,x.i≠y.i->∀q,aB x.s q->¬aB y.s q
 r:D.r1=true->D.ck.getD 1 0= -1
theorem Ho{ck:O Int}{k:Nat}{x:Int}(a:ck.length=4)(h:ck.getD 1 0= -1)(hx:k=1->x= -1):(ck.set k x).getD 1 0= -1:=by
 rw[fN]at h⊢;by_cases e:k=1
 .subst e
  rw[List.getElem?_set_self I,hx rfl];rfl
 .rw[List.getElem?_set_ne e];exact h
section
variable {w w':J}{D:bc}
theorem df.ah{W:Nat->Prop}(h:df w D)(hc:af W w w')(a:∀q,cn D q->¬W q):df w' D:=
 ⟨h.v.ah hc (a _ (.inl rfl)),bp.ah h.l hc (a _ (.inr (.inl rfl))),h.m.ah hc (a _ (.inr (.inr (.inl rfl)))),λx hx=>(h.ws x hx).ah hc λq b=>a q (.inr (.inr (.inr ⟨x,hx,b⟩))),h.wn,h.sl,h.nC,h.b_,h.bu,h.f4,h.fr,h.a1,h.a2,h.a3,h.r⟩
theorem df.ext(h:df w D)(hc:Ext w w'):df w' D:=h.ah hc λ_ _ h=>h
theorem df.lt(h:df w D){q:Nat}(a:cn D q):q<w.heap.size:=by
 rcases a with rfl|rfl|rfl|⟨x,hx,a⟩
 .exact h.v.lt
 .exact bp.lt h.l
 .exact h.m.lt
 .exact(h.ws x hx).lt q a
theorem df.Hp(h:df w D){k:Nat}(a:k<4):w.cell? ⟨D.d,k,none⟩=some (.int .i64 (D.ck.getD k 0)):=by
 rw[h.v.cell];unfold bc.c;have:=h.f4;rw[tc (by rw[dk];omega),nU,dH I,fC I];rfl
theorem df.fH(h:df w D):w.cell? (Addr.add ⟨D.d,0,none⟩ 4)=some (.slice (some ⟨D.lb,0,none⟩) D.b5.length D.b5.length):=by
 rw[aA,h.v.cell];unfold bc.c;have:=h.f4;rw[iq (by rw[dk];omega),dk,this];rfl
theorem df.iX(h:df w D):w.cell? (Addr.add ⟨D.d,0,none⟩ 5)=some (.map (some D.mr)):=by
 rw[aA,h.v.cell];unfold bc.c;have:=h.f4;rw[iq (by rw[dk];omega),dk,this];rfl
theorem df.yO(h:df w D):D.c.length=7:=by
 unfold bc.c;have:=h.f4;simp;omega
def bc.now(D:bc)(i:Nat):de:=match D.waits.find? λx=>x.i==i with
 |some x=>x.iD.getLastD []
 |none=>D.b5.getD i []
theorem Hq{α:Type}{l:O α}{d:α}(h:l≠ []):l.getLastD d∈l:=by
 cases l with
 |nil=>exact absurd rfl h
 |cons a l=>
  rw[List.getLastD_cons];rw[←List.getLast_eq_getLastD];exact List.getLast_mem h
theorem df.sK(h:df w D){i:Nat}(hi:i<D.n):(D.now i).length=256:=by
 unfold bc.now
 cases hf:D.waits.find? λx=>x.i==i with
 |some x=>
  have hx:=je hf;exact h.nC x hx _ (Hq (h.wn x hx).1)
 |none=>
  have a:i<D.b5.length:=hi;rw[show(match (none:av hN) with|some x=>x.iD.getLastD []|none=>D.b5.getD i [])=D.b5.getD i [] from rfl,fC a];exact h.sl _ (cL _)
theorem we(h:df w D):aI aj 55 #[.pointer (some D.d)] w (λv w'=>v=D.n/\w=w'):=by
 refine okF (ae.uF (some D.d)) ax.uF func55 ?_;(delta ae.uF ak r1;dsimp only);exact⟨λh=>(by cases h),λ_=>⟨_,rfl,⟨some D.lb,D.b5.length,D.b5.length⟩,h.fH,rfl,rfl⟩⟩
theorem Cg(h:df w D)(i:Int):aI aj 85 #[.pointer (some D.d),i] w (λv w'=>v=.bool (decide (0<=i/\i<D.n))/\w=w'):=by
 refine okF (ae.uQ (some D.d) i) ax.uQ func85 ?_;(delta ae.uQ ak r1;dsimp only);refine cw (λb w'=>b=decide (0<=i/\i<D.n)/\w=w') (λq c=>⟨λa=>⟨_,rfl,⟨some D.lb,D.b5.length,D.b5.length⟩,h.fH,c _ _ ⟨?_,rfl⟩⟩,λa=>c _ _ ⟨?_,rfl⟩⟩) ?_
 .have a:0<=i:=by simpa using a
  rw[fv,cp,cp];exact⟨λh=>⟨a,h⟩,λh=>h.2⟩
 .have a:¬0<=i:=by simpa using a
  rw[h4 (λh=>a h.1)]
 .rintro _ _ ⟨rfl,rfl⟩
  exact⟨rfl,rfl⟩
end
def gD(f:Int):al×Int:=if f= -1 then (false, -1) else if f=0 then (true, -1) else (false,f-1)
theorem Hr{f:Int}(h: -1<=f/\f<=9223372036854775807): -1<=(gD f).2/\(gD f).2<=9223372036854775807:=by
 unfold gD;split
 .exact⟨by decide,by decide⟩
 .split
  .exact⟨by decide,by decide⟩
  .show -1<=f-1/\f-1<=_;omega
def bc.cF(D:bc)(k:Nat):bc:={D with ck:=D.ck.set k (gD (D.ck.getD k 0)).2}
def bc.fZ(D:bc)(k:Nat):al:=(gD (D.ck.getD k 0)).1
theorem yP{w:J}{D:bc}(h:df w D){k:Nat}(p:k<4):
 aI aj 117 #[.pointer (some D.d),k] w (λv w'=>v=.bool (D.fZ k)/\df w' (D.cF k)/\af (λq=>q=D.d) w w'/\w'.heap.size=w.heap.size):=by
 have hf:=h.Hp p;have g:=h.f4;have s: -1<=D.ck.getD k 0/\D.ck.getD k 0<=9223372036854775807:=by rw[fC I];exact h.fr _ (cL _)
 have j:∀ (w1:J),df w1 D->df (w1.setCell ⟨D.d,k,none⟩ (.int .i64 (gD (D.ck.getD k 0)).2)) (D.cF k):=by
  intro w1 h1;have hc:=dZ w1 D.d k (.int .i64 (gD (D.ck.getD k 0)).2);have n:=eA h1.v (i:=k) (.int .i64 (gD (D.ck.getD k 0)).2);have e:D.c.set k (.int .i64 (gD (D.ck.getD k 0)).2)=(D.cF k).c:=by
   unfold bc.c bc.cF;rw[List.set_append_left _ _ (by rw[dk];omega),←List.map_set]
  rw[e]at n;refine⟨n,bp.ah h1.l hc (λe=>h.a1.1 e.symm),h1.m.ah hc (λe=>h.a1.2.1 e.symm),λx hx=>(h1.ws x hx).ah hc λq t e=>(h.a2 x hx).1 (by subst e;exact t),h.wn,h.sl,h.nC,h.b_,h.bu,by show(D.ck.set k _).length=4;rw[dr];exact g,λx hx=>?_,h.a1,h.a2,h.a3,λo=>Ho g (h.r o) λe=>by subst e;rw[h.r o];rfl⟩;rcases mX hx with hx|rfl
  .exact h.fr x hx
  .exact Hr s
 have f:Addr.add D.d (Int.toNat (k:Int)*1)=⟨D.d,k,none⟩:=by rw[di,fw,aA,cT]
 refine okF (ae.uY (some D.d) (k:Int)) ax.uY func117 ?_;(delta ae.uY aG ak st aq;dsimp only);refine⟨_,rfl,⟨I,by show(k:Int)<4;omega⟩,D.ck.getD k 0,by rw[f];exact hf,λh1=>?_,λh1=>⟨λh2=>⟨_,rfl,⟨I,by show(k:Int)<4;omega⟩,?_⟩,λh2=>aX ⟨_,rfl,⟨I,by show(k:Int)<4;omega⟩,id,_,by rw[f];exact hf,_,rfl,⟨I,by show(k:Int)<4;omega⟩,?_⟩⟩⟩
 .have h1:D.ck.getD k 0= -1:=by simpa using h1
  have a:D.fZ k=false:=by unfold bc.fZ gD;rw[if_pos h1]
  have b:D.cF k=D:=by
   unfold bc.cF gD;rw[if_pos h1];have:D.ck.set k (-1)=D.ck:=by
    rw[←h1,fC I];exact List.set_getElem_self _
   rw[this]
  rw[a,b];exact⟨rfl,h,.refl _ _,rfl⟩
 .have h1:D.ck.getD k 0≠ -1:=by simpa using h1
  have h2:D.ck.getD k 0=0:=by simpa using h2
  have hs:=eB h.v (i:=k) (by rw[h.yO];omega);have a:D.fZ k=true:=by unfold bc.fZ gD;rw[if_neg h1,if_pos h2]
  have b:(gD (D.ck.getD k 0)).2= -1:=by unfold gD;rw[if_neg h1,if_pos h2]
  have:=j w h;rw[b]at this;rw[f,a];exact⟨hs.1,hs.2,aX ⟨rfl,this,dZ _ _ _ _,by simp[World.setCell]⟩⟩
 .have h1:D.ck.getD k 0≠ -1:=by simpa using h1
  have h2:D.ck.getD k 0≠0:=by simpa using h2
  have hd:=h.ext (cA w);have hs:=eB hd.v (i:=k) (by rw[h.yO];omega);have a:D.fZ k=false:=by unfold bc.fZ gD;rw[if_neg h1,if_neg h2]
  have b:(gD (D.ck.getD k 0)).2=D.ck.getD k 0-1:=by unfold gD;rw[if_neg h1,if_neg h2]
  have:=j w.drew hd;rw[b]at this;rw[f,a,br I I];exact⟨hs.1,hs.2,aX ⟨rfl,this,(af.cW (cA w)).trans (dZ _ _ _ _),by simp[World.setCell]⟩⟩
def bc.fa(D:bc)(i:Nat):O de:=match D.waits.find? λx=>x.i==i with
 |some x=>x.iD
 |none=> []
theorem yQ(D:bc)(h:∀x∈D.waits,x.iD≠ [])(i:Nat):D.now i=if D.fa i=[] then D.b5.getD i [] else (D.fa i).getLastD []:=by
 unfold bc.now bc.fa
 cases hf:D.waits.find? λx=>x.i==i with
 |some x=>
  have hx:=je hf;simp only;rw[if_neg (h x hx)]
 |none=>simp
def bc.calm(D:bc)(k:Nat):Prop:=(D.ck.getD 1 0= -1\/(k:Int)<=D.ck.getD 1 0)/\(D.ck.getD 2 0= -1\/(k:Int)<=D.ck.getD 2 0)
def bc.ko(D:bc):Int->Prop:=λn=>(∀j,D.b6 j=true)->D.writes=n
def bc.ro(D:bc):Prop:=∀i,D.b6 i=true
def bc.key(D:bc):(O de×(Nat->al)×(Nat->O de)×(Int->Prop)×al)×Int:=((D.b5,D.b6,D.eI,D.ko,D.r1),D.ck.getD 3 0)
theorem c0{W V:Nat->Prop}{w w' b:J}(h1:af W w w')(h2:af V w' b)(h:∀q,q<w.heap.size->V q->W q):af W w b:=
 ⟨h2.os.trans h1.os,h2.tape.trans h1.tape,h2.output.trans h1.output,eE h1.size h2.size,λk a cx=>(h2.block k (ff a h1.size) λc=>cx (h k a c)).trans (h1.block k a cx)⟩
theorem gf{D:bc}{k l:Nat}(h:D.calm k)(a:l<=k):D.calm l:=⟨h.1.imp id λh=>I,h.2.imp id λh=>I⟩
theorem jR{D:bc}{k m:Nat}(c:k=1\/k=2)(f:D.ck.length=4)(h:D.calm (m+1)):(D.cF k).calm m/\D.fZ k=false:=by
 obtain⟨h1,h2⟩:=h;have d:1<D.ck.length:=by omega
 have e:2<D.ck.length:=by omega
 rcases c with rfl|rfl
 .have a:(D.cF 1).ck.getD 1 0=(gD (D.ck.getD 1 0)).2:=by
   show(D.ck.set 1 _).getD 1 0=_;rw[fC (by rw[dr];omega),ir]
  have b:(D.cF 1).ck.getD 2 0=D.ck.getD 2 0:=by
   show(D.ck.set 1 _).getD 2 0=_;rw[fC (by rw[dr];omega),fp I,fC e]
  unfold bc.calm bc.fZ;rw[a,b];unfold gD;rcases h1 with h1|h1
  .rw[if_pos h1]
   exact⟨⟨.inl rfl,h2.imp id λh=>I⟩,rfl⟩
  .rw[if_neg I,if_neg I]
   exact⟨⟨.inr (by show(m:Int)<=_-1;omega),h2.imp id λh=>I⟩,rfl⟩
 .have a:(D.cF 2).ck.getD 2 0=(gD (D.ck.getD 2 0)).2:=by
   show(D.ck.set 2 _).getD 2 0=_;rw[fC (by rw[dr];omega),ir]
  have b:(D.cF 2).ck.getD 1 0=D.ck.getD 1 0:=by
   show(D.ck.set 2 _).getD 1 0=_;rw[fC (by rw[dr];omega),fp I,fC d]
  unfold bc.calm bc.fZ;rw[a,b];unfold gD;rcases h2 with h2|h2
  .rw[if_pos h2]
   exact⟨⟨h1.imp id λh=>I,.inl rfl⟩,rfl⟩
  .rw[if_neg I,if_neg I]
   exact⟨⟨h1.imp id λh=>I,.inr (by show(m:Int)<=_-1;omega)⟩,rfl⟩
theorem qX(D:bc){k:Nat}(a:k=1\/k=2):(D.cF k).key=D.key:=by
 unfold bc.key bc.cF;rcases a with rfl|rfl<;>simp[fN]<;>rfl
theorem wg{sz:Nat}{w:J}{s:ad}{α:Type}{c:α->O aa}{l:O α}(h:Src sz w s (bz c l))(hc:∀x∈l,(c x).length=sz)(e:0<sz){i:Nat}(hi:i<l.length):
 s.len=l.length/\∃A,s.a=some A/\bn w (A.add (i*sz)) 0 sz=some (c l[i]):=by
 have b:s.len=l.length:=by
  have:=h.len;rw[fD l hc]at this;exact(Nat.eq_of_mul_eq_mul_right e this).symm
 refine⟨b,?_⟩
 cases d:s.a with
 |none=>
  have:=congrArg List.length (h.nil d);rw[fD l hc,k1]at this;have:l.length*sz≠0:=Nat.mul_ne_zero I I;omega
 |some A=>
  refine⟨A,rfl,?_⟩;have f:i*sz+sz<=s.len*sz:=by
   rw[b,←Nat.succ_mul];exact mS _ hi
  rw[xC (h.rd A d) f,Cd hc hi]
def qY:O aa:=az (List.replicate 256 0)
def yR(D:bc)(i:Nat)(w:J)(v:aa)(w':J):Prop:=v=.agg (az (D.now i)).toArray/\Ext w w'
theorem Ch{w:J}{D:bc}(h:df w D){i:Nat}(hi:i<D.n)(Q:D.a7<=1000000000):
 aI aj 118 #[.pointer (some D.d),i] w (yR D i w):=by
 have R:=h.bu;have f:=h.sK hi;refine okF (ae.uZ (some D.d) (i:Int)) ax.uZ func118 ?_;(delta ae.uZ z5 ak aq xT Y r1 ou;dsimp only);refine a8 (vs:=qY) (by kernel_rfl) λw1 g u _=>?_;have hd:=h.ext u;refine⟨_,rfl,some D.mr,hd.iX,?_⟩;have y:qY.length=256:=by rw[qY,c7,l7]
 have fin:∀ (K:O aa->J->Prop),(∀a,Ext w a->K (az (D.now i)) a)->bD w1 w.heap.size (Array.toList (az (D.now i)).toArray)/\Array.size (az (D.now i)).toArray=256/\an (setCells w1 w.heap.size 0 (Array.toList (az (D.now i)).toArray)) λa=>∃b:O aa,bn a w.heap.size 0 256=some b/\K b a:=by
  intro K E;refine⟨g.cj (by rw[rq,c7,f,y]) (by rw[rq];exact iS _),by simp[c7,f],cN g (us:=az (D.now i)) (by rw[c7,f,y]) rfl λa F G _=>⟨_,F.rd (by rw[c7,f]),E a (Ext.cu u G (bl _))⟩⟩
 cases hf:D.waits.find? λx=>x.i==i with
 |some x=>
  have hx:=je hf;have H:x.i=i:=by
   have:=j6 hf;exact eq_of_beq this
  have j:=hd.m.A4 qW nB (k:=(i:Int)) (v:=x.s) (fF.2 ⟨x,hx,by unfold hN.e;rw[H]⟩) false;have L:=(h.wn x hx).1;have hlen:0<x.iD.length:=List.length_pos_iff.2 L;have S:=(h.wn x hx).2.2;obtain⟨z,A,ar,p⟩:=wg (hd.ws x hx).src (λs hs=>by rw[c7];exact h.nC x hx s hs) (by decide) (i:=x.iD.length-1) I;have q:D.now i=x.iD[x.iD.length-1]'I:=by
   unfold bc.now;rw[hf];show x.iD.getLastD []=_;rw[List.getLastD_eq_getLast?,List.getLast?_eq_getElem?,dH I];rfl
  refine⟨x.s,w1,j,λ_=>⟨A,ar,?_⟩,λr=>?_⟩
  .rw[z,br (n:=(x.iD.length:Int)-1) I I]
   have M:Int.toNat ((x.iD.length:Int)-1)=x.iD.length-1:=by omega
   rw[M];refine⟨⟨I,I⟩,_,p,?_⟩;rw[←q];exact fin (λb a=>yR D i w (.agg b.toArray) a) λa t=>⟨rfl,t⟩
  .have:=cC r
   omega
 |none=>
  obtain⟨T,h1,h2⟩:=sJ Cf;have j:=hd.m.A5 qW nB (k:=(i:Int)) h1 h2 (λv g=>by
   obtain⟨x,hx,he⟩:=fF.1 g;have N:=jE.1 hf x hx;unfold hN.e at he;simp only[Prod.mk.injEq]at he;apply N;have:x.i=i:=by omega
   rw[this];simp) false
  have B:i<D.b5.length:=hi;have q:D.now i=D.b5[i]:=by
   unfold bc.now;rw[hf];exact fC B
  have P:Src 256 w1 ⟨some D.lb,D.b5.length,D.b5.length⟩ (bz az D.b5):=by
   have C:=fD (c:=az) (sz:=256) D.b5 λs hs=>by rw[c7];exact h.sl s hs
   have:=bp.rX (sz:=256) (o:=0) (n:=D.b5.length) (cap:=D.b5.length) hd.l (by simp[C]);rw[iK,rq,dO (by rw[C];exact bl _)]at this;exact this
  obtain⟨z,A,ar,p⟩:=wg P (λs hs=>by rw[c7];exact h.sl s hs) (by decide) B;refine⟨⟨none,0,0⟩,w1,j,λr=>by simp at r,λ_=>⟨_,rfl,_,hd.fH,A,ar,⟨I,by show(i:Int)<(D.b5.length:Int);omega⟩,_,p,?_⟩⟩;rw[←q];exact fin (λb a=>yR D i w (.agg b.toArray) a) λa t=>⟨rfl,t⟩
def Hs(D:bc)(i:Nat)(w:J)(v:aa)(w':J):Prop:=
 df w' (D.cF 1)/\af (λq=>q=D.d) w w'/\
  ((D.fZ 1=true/\v=.tuple #[(),(3:Int)])\/
   (D.fZ 1=false/\∃s:ad,v=.tuple #[s,(0:Int)]/\bw (λq=>w.heap.size<=q) w' s (D.now i)))
theorem Ht{w:J}{D:bc}(h:df w D){i:Nat}(hi:i<D.n)(x:D.a7<=1000000000):
 aI aj 75 #[.pointer (some D.d),i] w (Hs D i w):=by
 refine okF (ae.uP (some D.d) (i:Int)) ax.uP func75 ?_;delta ae.uP b8 ak p5 z5 Y;refine(Cg h _).use ?_;rintro _ _ ⟨rfl,rfl⟩;refine⟨_,rfl,λa=>?_,λ_=>⟨_,rfl,(yP h (k:=1) (by decide)).use ?_⟩⟩
 .have a:¬(0<=(i:Int)/\(i:Int)<D.n):=by simpa using a
  omega
 rintro _ ai ⟨rfl,b,j,z⟩;refine⟨_,rfl,λa=>⟨b,j,.inl ⟨a,rfl⟩⟩,λa=>(Ch b (i:=i) hi x).use ?_⟩;rintro _ m ⟨rfl,g⟩;have f:=h.sK hi;refine⟨_,rfl,a8 (vs:=qY) (by kernel_rfl) λB p r C=>⟨p.cj (by rw[rq,c7];show(D.now i).length=_;rw[f,qY,c7,l7]) (by rw[rq];exact iS _),by rw[th,c7];exact f,cN p (us:=az (D.now i)) (by rw[c7,f,qY,c7,l7]) rfl λE s t F=>?_⟩⟩;have G:=g.size;have aH:D.d<ai.heap.size:=b.v.lt;refine⟨(b.ext (g.trans r)).ah t (λq u e=>by have:=b.lt u;omega),c0 (j.trans (af.cW (g.trans r))) t λq u e=>I,.inr ⟨a,⟨some m.heap.size,256,256⟩,rfl,?_,bl _,λk y=>?_⟩⟩
 .have:=s.qH (o:=0) (n:=256) (c:=256) (l:=D.now i) (by rw[c7,f];decide) (by rw[iK,dO (by rw[c7,f];decide)])
  exact this
 .obtain⟨A,ar,rfl⟩:=y
  cases ar;have:=s.lt;exact⟨by show w.heap.size<=m.heap.size;omega,this⟩
theorem Ci:∀ (l:O aa) (k:Nat) (a:Array aa),(l.zipIdx k).foldl (λcs (p:aa×Nat)=>cs.setIfInBounds p.2 p.1) a=gl a k l
 | [],_,_=>rfl
 |v::l,k,a=>by
  rw[List.zipIdx_cons,List.foldl_cons]
  exact Ci l (k+1) (a.setIfInBounds k v)
theorem yS{P:Program}{T e:TypeId}{d:TypeDesc}{i:TypeInfo}{z:aa}{sz:Nat}{cs:Array aa}(w:J)(h1:P.underlying T=some (.slice e))(h2:P.underlying e=some d)(f:P.cellsOf e=sz)(hi:P.info? e=some i)(g:i.zero=some z)(a:cs.size=sz)(o:sz≠0)(q:sz<=16777216):
 Sem.run P (Instr.buildSlice T 1 #[(0,.agg cs)]) w=.ok (.slice (some w.heap.size) 1 1) (w.alloc (.cells cs e)):=by
 have b:=g_ (P:=P) (w:=w) h2;rw[f]at b;have h:Instr.fill (λi=>some (i*sz,sz)) ((Array.range (1*sz)).map λx=>z.cells[x%z.cells.size]!) [(0,.agg cs)]=some cs:=by
  have hc:(Value.agg cs).cells=cs:=rfl;rw[Instr.fill];simp only[hc];rw[if_neg (by simp[a]),Instr.fill];rw[←Array.foldl_toList,Array.toList_zipIdx];have e:(λ(cs:Array aa) (x:aa×Nat)=>match x with|(c,j)=>cs.setIfInBounds (0*sz+j) c)=λcs (p:aa×Nat)=>cs.setIfInBounds p.2 p.1:=by
   funext cs x;obtain⟨c,j⟩:=x;simp
  rw[e,Ci]
  congr 1
  apply Array.toList_inj.1;rw[k8 _ _ _ (by simp[a])];simp[a]
 have k:=mZ (w:=w) hi;have l:¬(1*sz>2^24):=by
  have:(2:Nat)^24=16777216:=rfl;omega
 have m:¬(1*sz=0):=by omega
 have n:Instr.fill (λi=>some (i*sz,sz)) ((Array.range (1*sz)).map λx=>z.cells[x%z.cells.size]!) (#[(0,Value.agg cs)]:Array (Nat×aa)).toList=some cs:=h;simp only[Instr.buildSlice,Sem.run_bind,c2 h1,b,Result.andThen,l,m,if_false,zeroValue,k,g,Sem.run_pure,n];simp[newRow,newObj,Sem.run]
theorem Cj(w:J)(l:de)(a:l.length=256):
 Sem.run aj (Instr.buildSlice 124 1 #[(0,.agg (az l).toArray)]) w=.ok (.slice (some w.heap.size) 1 1) (w.alloc (.cells (az l).toArray 151)):=by
 have h:((Tryz.prog.info? 151).bind (·.zero)).isSome=true:=by kernel_rfl
 obtain⟨z,b⟩:=mM.1 h;obtain⟨i,hi,c⟩:=sJ b;exact yS (d:=.array 256 5) (sz:=256) w (by kernel_rfl) (by kernel_rfl) (by kernel_rfl) hi c (by rw[th,c7,a]) (by decide) (by decide)
theorem Hu:hA aj 124 151 256 256:=⟨by kernel_rfl⟩
theorem Hv{α:Type}{c:α->O aa}{l:O α}(h:∀x∈l,∀v∈c x,Plain v):∀v∈bz c l,Plain v:=by
 intro v a;obtain⟨x,hx,a⟩:=List.mem_flatten.1 a;obtain⟨b,d,rfl⟩:=fF.1 hx;exact h b d v a
def bc.put(D:bc)(i:Nat)(s:ad)(l:de):bc:=
 {D.cF 2 with waits:=⟨i,s,D.fa i++ [l]⟩::D.waits.filter (λx=>x.i !=i),writes:=IntKind.wrap .i64 (D.writes+1),a7:=D.a7+1}
theorem Ck{D:bc}{i j:Nat}(h:j≠i):(D.waits.filter λx=>x.i !=i).find? (λx=>x.i==j)=D.waits.find? λx=>x.i==j:=by
 rw[List.find?_filter]
 congr 1
 funext x;by_cases e:x.i=j
 .rw[e];simp[h]
 .simp[e]
theorem Cl(D:bc)(i:Nat)(s:ad)(l:de)(j:Nat):(D.put i s l).fa j=if j=i then D.fa i++ [l] else D.fa j:=by
 unfold bc.fa bc.put;by_cases h:j=i
 .subst h
  simp[bc.fa]
 .rw[if_neg h]
  simp only;rw[List.find?_cons_of_neg (by simp;omega),Ck h]
theorem pc(D:bc)(i:Nat)(s:ad)(l:de)(j:Nat):(D.put i s l).now j=if j=i then l else D.now j:=by
 unfold bc.now bc.put;by_cases h:j=i
 .subst h
  simp
 .rw[if_neg h]
  simp only;rw[List.find?_cons_of_neg (by simp;omega),Ck h];rfl
def Cm(D:bc)(i:Nat)(l:de)(w:J)(v:aa)(w':J):Prop:=
 (D.fZ 2=true/\v=.int .i64 3/\df w' (D.cF 2)/\af (λq=>q=D.d) w w')\/
 (D.fZ 2=false/\v=.int .i64 0/\∃s:ad,df w' (D.put i s l)/\af (cn D) w w'/\∀q,aB s q->cn D q\/w.heap.size<=q)
theorem wh{w:J}{D:bc}{b:ad}{l:de}(h:df w D){i:Nat}(hi:i<D.n)(bg:D.a7<=1000000000)(X:Src 1 w b (az l))(K:l.length=256)(hd:∀q,aB b q->¬cn D q):
 aI aj 58 #[.pointer (some ⟨D.d,0,none⟩),.int .i64 ((i:Nat):Int),.slice b.a b.len b.cap] w (Cm D i l w):=by
 have aD:=len8 X;have bh:=h.bu;refine okF (ae.uH (some ⟨D.d,0,none⟩) ((i:Nat):Int) b) ax.uH func58 ?_;(delta ae.uH b8 ak xK aG st aq;dsimp only);refine(Cg h _).use ?_;rintro _ _ ⟨rfl,rfl⟩;have aT:decide (0<=(i:Int)/\(i:Int)<D.n)=true:=dI ⟨I,I⟩;refine⟨_,rfl,λh1=>?_,λ_=>⟨_,rfl,(yP h (k:=2) (by decide)).use ?_⟩⟩
 .rw[aT,aD,K]at h1
  simp at h1
 rintro _ ai ⟨rfl,G,Y,bi⟩;refine⟨_,rfl,λZ=>.inl ⟨Z,rfl,G,Y⟩,λZ=>aX ?_⟩;obtain⟨p,hold⟩:∃p:ad,(match D.waits.find? λx=>x.i==i with|some x=>x.s|none=>⟨none,0,0⟩)=p:=⟨_,rfl⟩;have z:=G.ext (cA ai);have aU:Src 1 ai.drew b (az l):=(X.ah Y λq f e=>hd q f (.inl e)).ext (cA ai)
 have aW:aV 256 151 ai.drew p (bz az (D.fa i))/\(∀q,aB p q->cn D q/\q≠D.d/\q≠D.lb/\q≠D.mr)/\(∀x∈D.waits,x.i≠i->∀q,aB x.s q->¬aB p q)/\(D.fa i).length<=D.a7/\(∀s∈D.fa i,s.length=256)/\
  ∀w':J,eF w' D.mr encZ (D.waits.map hN.e)->Sem.run aj (Instr.lookup 125 (.map (some D.mr)) (.int .i64 ((i:Nat):Int)) false) w'=.ok (.slice p.a p.len p.cap) w':=by
  cases hf:D.waits.find? λx=>x.i==i with
  |some x=>
   rw[hf]at hold;have hold:x.s=p:=hold;subst hold;have hx:=je hf;have S:x.i=i:=by
    have:=j6 hf;exact eq_of_beq this
   have e:D.fa i=x.iD:=by unfold bc.fa;rw[hf]
   rw[e];refine⟨z.ws x hx,λq f=>⟨.inr (.inr (.inr ⟨x,hx,f⟩)),λe=>(h.a2 x hx).1 (e▸f),λe=>(h.a2 x hx).2.1 (e▸f),λe=>(h.a2 x hx).2.2 (e▸f)⟩,λy t B=>h.a3 y t x hx I,(h.wn x hx).2.2,h.nC x hx,λw' L=>L.A4 qW nB (k:=(i:Int)) (v:=.slice x.s.a x.s.len x.s.cap) (fF.2 ⟨x,hx,by unfold hN.e;rw[S]⟩) false⟩
  |none=>
   rw[hf]at hold;have hold:(⟨none,0,0⟩:ad)=p:=hold;subst hold;have e:D.fa i=[]:=by unfold bc.fa;rw[hf]
   rw[e];obtain⟨bj,h1,h2⟩:=sJ Cf;refine⟨aV.none _ _ _,λq f=>(fV q f).elim,λx _ _ q _ f=>(fV q f).elim,cP _,λs hs=>(by cases hs),λw' L=>L.A5 qW nB (k:=(i:Int)) h1 h2 (λv ab=>?_) false⟩;obtain⟨x,hx,he⟩:=fF.1 ab;have aY:=jE.1 hf x hx;unfold hN.e at he;simp only[Prod.mk.injEq]at he;apply aY;have:x.i=i:=by omega
   rw[this];simp
 obtain⟨aE,C,aF,bk,aH,aJ⟩:=aW;obtain⟨A,ar,aZ⟩:∃A,b.a=some A/\bn ai.drew A 0 256=some (az l):=by
  cases aK:b.a with
  |none=>
   have:=congrArg List.length (X.nil aK);rw[c7,K]at this
   cases this
  |some A=>
   refine⟨A,rfl,?_⟩;have:=aU.rd A aK;rwa[aD,K]at this
 have a0:¬aB p A.block:=λf=>hd _ ⟨A,ar,rfl⟩ (C _ f).1
 have aL:∀E:J,Ext ai.drew E->∃ (g:ad) (j:J),Sem.run aj (Builtin.append_ #[124,124] 124 #[.slice p.a p.len p.cap,.slice (some ⟨E.heap.size,0,none⟩) 1 1]) (E.alloc (.cells (az l).toArray 151))=.ok (.slice g.a g.len g.cap) j/\
  aV 256 151 j g (bz az (D.fa i++ [l]))/\af (aB p) E j/\(∀k,aB g k->aB p k\/E.heap.size<=k)/\af (aB p) (E.alloc (.cells (az l).toArray 151)) j:=by
  intro E a4;have hlen:p.len=(D.fa i).length:=by
   have:=aE.1;rw[fD (c:=az) (sz:=256) _ λs hs=>by rw[c7];exact aH s hs]at this;omega
  have ac:=dc E (.cells (az l).toArray 151);obtain⟨g,j,aw,ay,F,M,N⟩:=Hu.append (cD:=124) (x:=⟨some ⟨E.heap.size,0,none⟩,1,1⟩) (Src.new (T:=151) E (az l) 1 (by rw[c7,K])) (aE.ext (a4.trans ac)) (iS l) (by rw[hlen];show(2*(_+1)+1000)*256<=_;omega);refine⟨g,j,aw,?_,(af.cW ac).trans M,λk a5=>(N k a5).imp id λh=>?_,M⟩
  .rw[lU]
   have:bz az [l]=az l:=by simp[bz]
   rw[this];exact ay
  .have:=ac.size;omega
 have aM:∀ (j:J) (g:ad),eF j D.mr encZ (D.waits.map hN.e)->∃o:J,Sem.run aj (Instr.mapUpdate 125 (.map (some D.mr)) (.int .i64 ((i:Nat):Int)) (.slice g.a g.len g.cap)) j=.ok () o/\af (λq=>q=D.mr) j o/\
  eF o D.mr encZ ((hN.mk i g (D.fa i++ [l])::D.waits.filter λx=>x.i !=i).map hN.e):=by
  intro j g L;have al:=L.keys;rw[nQ]at al
  cases hf:D.waits.find? λx=>x.i==i with
  |some x=>
   have hx:=je hf;have S:x.i=i:=by
    have:=j6 hf;exact eq_of_beq this
   obtain⟨bd,bB,he⟩:=List.append_of_mem hx;have B:∀y∈bd++bB,y.i≠i:=by
    intro y t e;rw[he,fL,g9]at al;have h1:=(mU.nodup_iff).1 al;rw[List.nodup_cons]at h1;apply h1.1;rw[←fL];refine fF.2 ⟨y,t,?_⟩;show((y.i:Nat):Int)=((x.i:Nat):Int);omega
   have am:D.waits.filter (λx=>x.i !=i)=bd++bB:=by
    rw[he,gN,List.filter_cons_of_neg (by simp[S])];rw[il.2 λy t=>by have:=B y (j5 _ t);simpa using this,il.2 λy t=>by have:=B y (im _ t);simpa using this]
   have a6:(D.waits.map hN.e).Perm (((i:Int),.slice x.s.a x.s.len x.s.cap)::(bd++bB).map hN.e):=by
    rw[he,fL,g9,fL];have:x.e=((i:Int),.slice x.s.a x.s.len x.s.cap):=by unfold hN.e;rw[S]
    rw[this];exact mU
   obtain⟨o,aw,ay,_,F⟩:=Hn qW nB (L.perm a6) (.slice g.a g.len g.cap);refine⟨o,aw,ay,?_⟩;rw[am];exact F
  |none=>
   have B:∀y∈D.waits,y.i≠i:=λy t e=>by
    have:=jE.1 hf y t;rw[e]at this;simp at this
   have am:D.waits.filter (λx=>x.i !=i)=D.waits:=il.2 λy t=>by simpa using B y t
   obtain⟨o,aw,ay,_,F⟩:=Hm qW nB (k:=(i:Int)) L (λv ab=>by
    obtain⟨x,hx,he⟩:=fF.1 ab;unfold hN.e at he;simp only[Prod.mk.injEq]at he;exact B x hx I) (.slice g.a g.len g.cap)
   refine⟨o,aw,ay,?_⟩;rw[am];exact F
 have fin:∀ (j o:J) (g:ad),af (aB p) ai.drew j->aV 256 151 j g (bz az (D.fa i++ [l]))->(∀k,aB g k->aB p k\/ai.drew.heap.size<=k)->af (λq=>q=D.mr) j o->eF o D.mr encZ ((hN.mk i g (D.fa i++ [l])::D.waits.filter λx=>x.i !=i).map hN.e)->
  ∃aN:ag,(some ⟨D.d,0,none⟩:av ag)=some aN/\∃n24:Int,o.cell? (aN.add 6)=some (.int .i64 n24)/\∃U:ag,(some ⟨D.d,0,none⟩:av ag)=some U/\(∃u:aa,o.cell? (U.add 6)=some u)/\o.frozen? (U.add 6)=false/\an (o.setCell (U.add 6) (.int .i64 (IntKind.wrap .i64 (n24+1)))) λa8=>Cm D i l w (.int .i64 0) a8:=by
  intro j o g V a9 ao aO a_;have ba:=z.v.ah V λf=>(C _ f).2.1 rfl;have ap:Var o D.d (D.cF 2).c 129:=ba.ah aO h.a1.2.1;have hlen:(D.cF 2).c.length=7:=G.yO;obtain⟨s1,s2⟩:=eB ap (i:=6) (by rw[hlen];decide);have aP:o.cell? (Addr.add ⟨D.d,0,none⟩ 6)=some (.int .i64 D.writes):=by
   rw[aA,cT,ap.cell];unfold bc.c;have:=G.f4;rw[iq (by rw[dk];omega),dk,this];rfl
  rw[aA,cT]at aP;refine⟨_,rfl,D.writes,by rw[aA,cT];exact aP,_,rfl,by rw[aA,cT];exact s1,by rw[aA,cT];exact s2,?_⟩;rw[aA,cT];have aQ:=dZ o D.d 6 (.int .i64 (IntKind.wrap .i64 (D.writes+1)));have aR:=eA ap (i:=6) (.int .i64 (IntKind.wrap .i64 (D.writes+1)));have bb:(D.cF 2).c.set 6 (.int .i64 (IntKind.wrap .i64 (D.writes+1)))=(D.put i g l).c:=by
   have be:=G.f4;have O:(D.put i g l).c=(D.cF 2).ck.map (.int .i64)++ [.slice (some ⟨D.lb,0,none⟩) D.b5.length D.b5.length,.map (some D.mr),.int .i64 (IntKind.wrap .i64 (D.writes+1))]:=rfl;have P:(D.cF 2).c=(D.cF 2).ck.map (.int .i64)++ [.slice (some ⟨D.lb,0,none⟩) D.b5.length D.b5.length,.map (some D.mr),.int .i64 D.writes]:=rfl;rw[O,P,tb _ _ (by rw[dk];omega),dk,be];rfl
  rw[bb]at aR;have W:af (λq=>q=D.mr\/q=D.d) j (o.setCell ⟨D.d,6,none⟩ (.int .i64 (IntKind.wrap .i64 (D.writes+1)))):=(aO.mono λq _ e=>.inl e).trans (aQ.mono λq _ e=>.inr e);have Q:∀q,aB g q->q≠D.d/\q≠D.lb/\q≠D.mr:=λq f=>by
   have bl:=z.lt (q:=D.d) (.inl rfl);have bm:=z.lt (q:=D.lb) (.inr (.inl rfl));have bo:=z.lt (q:=D.mr) (.inr (.inr (.inl rfl)));rcases ao q f with h1|h1
   .exact(C q h1).2
   .exact⟨I,I,I⟩
  have H:∀x∈D.waits.filter (λx=>x.i !=i),x∈D.waits/\x.i≠i:=λx hx=>by
   obtain⟨h1,h2⟩:=gi.1 hx;exact⟨h1,by simpa using h2⟩
  refine aX (.inr ⟨Z,rfl,g,⟨aR,?_,?_,?_,?_,h.sl,?_,h.b_,h.bu,G.f4,G.fr,h.a1,?_,?_,G.r⟩,?_,?_⟩)
  .exact bp.ah (bp.ah z.l V λf=>(C _ f).2.2.1 rfl) W (by
    rintro(e|e)
    .exact h.a1.2.2 e
    .exact h.a1.1 e.symm)
  .exact a_.ah aQ (λe=>h.a1.2.1 e.symm)
  .intro x hx
   rcases cY.1 hx with rfl|hx
   .exact a9.ah W λq f=>by
     rintro(e|e)
     .exact(Q q f).2.2 e
     .exact(Q q f).1 e
   .obtain⟨h1,h2⟩:=H x hx
    refine((z.ws x h1).ah V λq f=>aF x h1 h2 q f).ah W λq f=>?_;rintro(e|e)
    .exact(h.a2 x h1).2.2 (e▸f)
    .exact(h.a2 x h1).1 (e▸f)
  .intro x hx
   rcases cY.1 hx with rfl|hx
   .refine⟨by simp,hi,?_⟩
    show(D.fa i++ [l]).length<=D.a7+1;rw[ct,jd];omega
   .obtain⟨h1,h2⟩:=H x hx
    have:=h.wn x h1;exact⟨this.1,this.2.1,Nat.le_succ_of_le this.2.2⟩
  .intro x hx
   rcases cY.1 hx with rfl|hx
   .intro s hs
    rcases cO.1 hs with hs|hs
    .exact aH s hs
    .rw[fg.1 hs];exact K
   .exact h.nC x (H x hx).1
  .intro x hx
   rcases cY.1 hx with rfl|hx
   .exact⟨λf=>(Q _ f).1 rfl,λf=>(Q _ f).2.1 rfl,λf=>(Q _ f).2.2 rfl⟩
   .exact h.a2 x (H x hx).1
  .have aS:∀y∈D.waits,y.i≠i->∀q,aB y.s q->¬aB g q:=λy t B q f R=>by
    rcases ao q R with h1|h1
    .exact aF y t B q f h1
    .have:=(z.ws y t).lt q f;omega
   intro x hx y t B q f R;rcases cY.1 hx with rfl|hx
   .rcases cY.1 t with rfl|t
    .exact B rfl
    .exact aS y (H y t).1 (λe=>B e.symm) q R f
   .rcases cY.1 t with rfl|t
    .exact aS x (H x hx).1 B q f R
    .exact h.a3 x (H x hx).1 y (H y t).1 B q f R
  .refine((Y.mono λq _ e=>.inl e).trans ((af.cW (cA ai)).trans (V.mono λq _ f=>(C q f).1))).trans (W.mono λq _ f=>?_)
   rcases f with e|e
   .exact .inr (.inr (.inl e))
   .exact .inl e
  .intro q f
   rcases ao q f with h1|h1
   .exact .inl (C q h1).1
   .have:ai.drew.heap.size=ai.heap.size:=rfl
    exact .inr I
 refine⟨aB p,_,rfl,λf=>(C _ f).2.1 rfl,some D.mr,z.iX,_,rfl,λf=>(C _ f).2.1 rfl,some D.mr,z.iX,I,A,ar,a0,_,aZ,⟨?_,?_⟩⟩
 .obtain⟨g,j,aw,ay,F,M,N⟩:=aL ai.drew (.refl _ _)
  have au:=z.m.ah F λf=>(C _ f).2.2.2 rfl;obtain⟨o,O,P,aC⟩:=aM j g au;exact⟨p,_,aJ _ z.m,.refl _ _,⟨some ⟨ai.drew.heap.size,0,none⟩,1,1⟩,_,Cj _ l K,af.cW (dc _ _),g,j,aw,N,o,O,fin j o g F ay M P aC⟩
 .obtain⟨g,j,aw,ay,F,M,N⟩:=aL ai.drew (.refl _ _)
  have bf:=z.m.ext (dc ai.drew (.cells (az l).toArray 151));have au:=z.m.ah F λf=>(C _ f).2.2.2 rfl;obtain⟨o,O,P,aC⟩:=aM j g au;exact⟨⟨some ⟨ai.drew.heap.size,0,none⟩,1,1⟩,_,Cj _ l K,af.cW (dc _ _),p,_,aJ _ bf,.refl _ _,g,j,aw,N,o,O,fin j o g F ay M P aC⟩
theorem Hw{P:Program}{e:TypeId}{v:aa}{sz:Nat}(a:((P.info? e).bind (·.zero)).map (·.cells)=some (List.replicate sz v).toArray)(hc:P.cellsOf e=sz)(hs:0<sz)(n:Nat):gZ P e n=(List.replicate (n*sz) v).toArray:=by
 unfold gZ;rw[hc]
 cases hi:(P.info? e).bind (·.zero) with
 |none=>rw[hi]at a;cases a
 |some z=>
  rw[hi]at a;simp only[l4,Option.some.injEq]at a;simp only[Option.getD_some];apply Array.ext
  .simp
  .intro i h1 h2
   have b:n*sz≠0:=by
    intro h;simp[h]at h2
   simp only[b,if_false,a,Array.getElem_map,Array.getElem_range];have aH:i%sz<sz:=g8 _ hs;simp[aH]
theorem Hx(m n:Nat):bz az (List.replicate n (List.replicate m 0))=List.replicate (n*m) (.int .u8 0):=by
 induction n with
 |zero=>simp[bz]
 |succ n a=>
  rw[List.replicate_succ,qV,a,jc,Nat.one_mul,Nat.add_comm];have e:az (List.replicate m 0)=List.replicate m (Value.int .u8 0):=by simp[az]
  rw[e,List.replicate_append_replicate]
def hO:de:=List.replicate 256 0
theorem Hy(n:Nat):gZ aj 151 n=(bz az (List.replicate n hO)).toArray:=by
 unfold hO;rw[Hx];exact Hw (by kernel_rfl) (by kernel_rfl) (by decide) n
def qZ(n d lb mr:Nat):bc:=⟨d,lb,mr,[-1, -1, -1, -1],List.replicate n hO,[],0,0,λ_=>false,λ_=> [],true⟩
theorem Hz{w:J}{b:Nat}{vs:O aa}{T:TypeId}(h:Var w b vs T)(g:4<=vs.length):
 aI aj 52 #[.pointer (some b)] w (λv w'=>v=.tuple #[]/\Var w' b (List.replicate 4 (.int .i64 (-1))++vs.drop 4) T/\af (λq=>q=b) w w'/\w'.heap.size=w.heap.size):=by
 refine okF (ae.uE (some b)) ax.uE func52 ?_;(delta ae.uE ak st aq;dsimp only);refine⟨λi w'=>∃j:Nat,i=j/\j<=4/\Var w' b (List.replicate j (.int .i64 (-1))++vs.drop j) T/\af (λq=>q=b) w w'/\w'.heap.size=w.heap.size,λi _=>((4:Int)-i).toNat,⟨0,rfl,I,h,.refl _ _,rfl⟩,?_⟩;rintro _ w1 ⟨j,rfl,k,c,hc,f⟩;refine⟨λaH=>?_,λd=>?_⟩
 .have aH:j<4:=by have:=cf aH;omega
  have a:Addr.add b (Int.toNat (j:Int)*1)=⟨b,j,none⟩:=by rw[di,fw,aA,cT]
  obtain⟨s1,s2⟩:=eB c (i:=j) (by simp;omega);rw[br (n:=(j:Int)+1) I I];refine⟨_,rfl,⟨I,by show(j:Int)<4;omega⟩,by rw[a];exact s1,by rw[a];exact s2,aX ⟨⟨j+1,I,I,?_,?_,?_⟩,?_⟩⟩
  .have:=eA c (i:=j) (.int .i64 (-1))
   rw[a];have e:(List.replicate j (Value.int .i64 (-1))++vs.drop j).set j (.int .i64 (-1))=List.replicate (j+1) (.int .i64 (-1))++vs.drop (j+1):=by
    rw[tb _ _ (by simp),l7,nP,j0 (show j<vs.length from I),List.set_cons_zero,List.replicate_succ',cB];rfl
   rwa[e]at this
  .rw[a];exact hc.trans (dZ _ _ _ _)
  .rw[a];simpa[World.setCell] using f
  .show((4:Int)-((j:Int)+1)).toNat<((4:Int)-(j:Int)).toNat
   omega
 .have d:j=4:=by have:=cC d;omega
  subst d;exact⟨rfl,c,hc,f⟩
theorem qd{n:Nat}(h1:16<=n)(h2:n<=1600)(w:J):
 aI aj 20 #[n] w (λv w'=>∃d lb mr:Nat,v=.tuple #[.pointer (some d),(0:Int)]/\df w' (qZ n d lb mr)/\Ext w w'/\∀q,cn (qZ n d lb mr) q->w.heap.size<=q):=by
 refine okF (ae.qd (n:Int)) ax.qd func20 ?_;delta ae.qd ak kH Y gQ;refine⟨λh=>?_,λ_=>⟨⟨I,I,I,I⟩,?_⟩⟩
 .simp only[jb,cp]at h;omega
 rw[Hy,di];have g:=bp.new w (bz az (List.replicate n hO)).toArray 151;have i:=dc w (.cells (bz az (List.replicate n hO)).toArray 151);have j:=o6 w (.cells (bz az (List.replicate n hO)).toArray 151);obtain⟨w1,k⟩:∃w1,w1=w.alloc (.cells (bz az (List.replicate n hO)).toArray 151):=⟨_,rfl⟩;rw[←k]at g i j⊢;obtain⟨aw,ay⟩:=eF.make (P:=aj) (enc:=encZ) 125 w1;have a:=dc w1 (.map #[] 0);have l:=o6 w1 (.map #[] 0);obtain⟨ai,m⟩:∃ai,ai=w1.alloc (.map #[] 0):=⟨_,rfl⟩;rw[←m]at aw ay a l;refine aX ⟨some w1.heap.size,ai,aw,#[(0:Int),(0:Int),(0:Int),(0:Int),.slice (some w.heap.size) n n,.map (some w1.heap.size),(0:Int)],by kernel_rfl,a8 (vs:=[(0:Int),(0:Int),(0:Int),(0:Int),.slice (some w.heap.size) n n,.map (some w1.heap.size),(0:Int)]) rfl λr o b t=>⟨_,rfl,(Hz o (by show 4<=7;decide)).use ?_⟩⟩;rintro _ u ⟨rfl,p,f,y⟩;refine⟨rfl,ai.heap.size,w.heap.size,w1.heap.size,rfl,⟨?_,?_,?_,λx hx=>(by cases hx),λx hx=>(by cases hx),λs hs=>?_,λx hx=>(by cases hx),?_,?_,rfl,λx hx=>?_,?_,λx hx=>(by cases hx),λx hx=>(by cases hx),λ_=>rfl⟩,Ext.cu (i.trans (a.trans b)) f I,?_⟩
 .have e:(qZ n ai.heap.size w.heap.size w1.heap.size).c=List.replicate 4 (.int .i64 (-1))++ [Value.int .i64 0,(0:Int),(0:Int),(0:Int),.slice (some w.heap.size) n n,.map (some w1.heap.size),(0:Int)].drop 4:=by
   unfold bc.c qZ;simp
  rw[e];exact p
 .exact bp.ah ((g.ext a).ext b) f (by show¬w.heap.size=ai.heap.size;omega)
 .exact(ay.ext b).ah f I
 .rw[wQ hs,hO,l7]
 .show 16<=(List.replicate n hO).length;simpa using h1
 .show(List.replicate n hO).length<=1600;simpa using h2
 .have:x= -1:=by
   simp[qZ]at hx;exact hx
  subst this;exact⟨by decide,by decide⟩
 .exact⟨by show ai.heap.size≠w.heap.size;omega,by show ai.heap.size≠w1.heap.size;omega,by show w.heap.size≠w1.heap.size;omega⟩
 .rintro q (rfl|rfl|rfl|⟨x,hx,_⟩)
  .show w.heap.size<=ai.heap.size;omega
  .exact bl _
  .show w.heap.size<=w1.heap.size;omega
  .cases hx
structure eR where
 root:Nat
 aL:Nat
 map:Nat
 clock:Nat
 dv:Nat
 keys:Nat
 deriving DecidableEq
def Cn:eR:=⟨0,0,0,0,0,0⟩
def eR.c(u:eR):O aa:=[u.root,u.aL,u.map,.int .u64 (u.clock:Nat),.int .u64 (u.dv:Nat),u.keys]
structure nD(u:eR):Prop where
 root:u.root<4294967296
 aL:u.aL<256
 map:u.map<4294967296
 clock:u.clock<18446744073709551616
 dv:u.dv<18446744073709551616
 keys:u.keys<4294967296
def gV(u:eR)(n:Nat):O UInt8:=[]++bM u.root 4++bM u.aL 1++bM u.map 4++bM n 4++bM u.clock 8++bM u.dv 8++bM u.keys 4
def q0(b:O UInt8):eR:=⟨dC b 0 4,dC b 4 1,dC b 5 4,dC b 13 8,dC b 21 8,dC b 29 4⟩
def nE(u:eR)(n:Nat):Prop:=(u.root=0↔u.aL=0)/\u.aL<=12/\u.root<n/\u.map<n/\2<=u.map/\n<=1600
instance KE(u:eR)(n:Nat):Decidable (nE u n):=by unfold nE;infer_instance
def sL(no:Int)(l:O UInt8):Except Int (eR×Nat×Nat):=match fi no l with
 | .error e=>.error e
 | .ok p=>if p.kind≠3\/p.body.length≠33 then .error 4 else if nE (q0 p.body) (dC p.body 9 4) then .ok (q0 p.body,dC p.body 9 4,p.gen) else .error 4
theorem Co(u:eR)(n:Nat):(gV u n).length=33:=by simp[gV,dy]
theorem HA{u:eR}{n:Nat}(h:nD u)(c:n<4294967296):q0 (gV u n)=u/\dC (gV u n) 9 4=n:=by
 have e:∀ {k x m:Nat} (a b:O UInt8),gV u n=a++(bM x k++b)->a.length=m->x<256^k->dC (gV u n) m k=x:=λa b he d hx=>by rw[he];exact sD d hx
 have f:=h.keys;refine⟨?_,e (bM u.root 4++bM u.aL 1++bM u.map 4) (bM u.clock 8++(bM u.dv 8++bM u.keys 4)) (by simp[gV]) (by simp[dy]) c⟩;unfold q0;rw[e (m:=0) [] (bM u.aL 1++(bM u.map 4++(bM n 4++(bM u.clock 8++(bM u.dv 8++bM u.keys 4))))) (by simp[gV]) rfl h.root,
  e (bM u.root 4) (bM u.map 4++(bM n 4++(bM u.clock 8++(bM u.dv 8++bM u.keys 4)))) (by simp[gV]) (by simp[dy]) h.aL,
  e (bM u.root 4++bM u.aL 1) (bM n 4++(bM u.clock 8++(bM u.dv 8++bM u.keys 4))) (by simp[gV]) (by simp[dy]) h.map,
  e (bM u.root 4++bM u.aL 1++bM u.map 4++bM n 4) (bM u.dv 8++bM u.keys 4) (by simp[gV]) (by simp[dy]) h.clock,
  e (bM u.root 4++bM u.aL 1++bM u.map 4++bM n 4++bM u.clock 8) (bM u.keys 4) (by simp[gV]) (by simp[dy]) h.dv,
  e (bM u.root 4++bM u.aL 1++bM u.map 4++bM n 4++bM u.clock 8++bM u.dv 8) [] (by simp[gV]) (by simp[dy]) f]
def jS(u:eR)(n gen:Nat):jo:=⟨3,gen,gV u n⟩
theorem yT{u:eR}{n gen:Nat}(hg:gen<18446744073709551616):ny (jS u n gen):=⟨(by decide:1<=3),(by decide:3<=4),hg,by show(gV u n).length<=232;rw[Co];decide⟩
theorem Cp{u:eR}{n gen no:Nat}(h:nD u)(hu:nE u n)(hg:gen<18446744073709551616)(a:no<1600):sL no (eG no (jS u n gen))=.ok (u,n,gen):=by
 unfold sL;rw[vQ a (yT hg)];have b:n<4294967296:=by have:=hu.2.2.2.2.2;omega
 obtain⟨h1,h2⟩:=HA h b;show(if (3:Nat)≠3\/(gV u n).length≠33 then _ else if nE (q0 (gV u n)) (dC (gV u n) 9 4) then Except.ok (q0 (gV u n),dC (gV u n) 9 4,gen) else _)=_;rw[h1,h2,if_neg (by rw[Co];simp),if_pos hu]
section
variable {w w':J}{h:Nat}{vs:O aa}{u:eR}
theorem eR.plain(u:eR):∀v∈u.c,Plain v:=by
 intro v a;simp only[eR.c,cY,fo,fy]at a;rcases a with rfl|rfl|rfl|rfl|rfl|rfl<;>trivial
theorem q1(a:Var w h u.c 90){K:Int->Int->Int->Int->Int->Int->Prop}(d:K (u.root:Nat) (u.aL:Nat) (u.map:Nat) (u.clock:Nat) (u.dv:Nat) (u.keys:Nat)):
 ∃b_:Int,w.cell? h=some (.int .i64 b_)/\∃bu:Int,w.cell? (Addr.add h 1)=some (.int .i64 bu)/\∃b:Int,w.cell? (Addr.add h 2)=some (.int .i64 b)/\
  ∃bT:Int,w.cell? (Addr.add h 3)=some (.int .u64 bT)/\∃n5:Int,w.cell? (Addr.add h 4)=some (.int .u64 n5)/\∃n6:Int,w.cell? (Addr.add h 5)=some (.int .i64 n6)/\K b_ bu b bT n5 n6:=
 ⟨_,a.cell,_,by rw[aA];exact a.cell,_,by rw[aA];exact a.cell,_,by rw[aA];exact a.cell,_,by rw[aA];exact a.cell,_,by rw[aA];exact a.cell,d⟩
theorem Cq(a:Var w h vs 90)(b:vs.length=6)(u:eR){K:J->Prop}(d:∀ai,Var ai h u.c 90->af (λq=>q=h) w ai->ai.heap.size=w.heap.size->K ai):
 bD w h [u.root,u.aL,u.map,.int .u64 (u.clock:Nat),.int .u64 (u.dv:Nat),u.keys]/\(6:Nat)=6/\
  an (setCells w h 0 [u.root,u.aL,u.map,.int .u64 (u.clock:Nat),.int .u64 (u.dv:Nat),u.keys]) K:=
 ⟨a.cj (by rw[b];rfl) u.plain,rfl,cN a (us:=u.c) (by rw[b];rfl) rfl λai e hc f=>d ai e hc f⟩
end
theorem ql{w:J}{u:eR}(h:nD u){n:Nat}(y:n<4294967296):aI aj 119 #[.agg u.c.toArray,n] w (λv w'=>∃s:ad,v=s/\aV 1 5 w' s (az (gV u n))/\Ext w w'/\gr w s):=by
 have h1:=h.root;have h2:=h.aL;have z:=h.map;have V:=h.clock;have W:=h.dv;have A:=h.keys;have a:∀ {x:Nat},x<4294967296->IntKind.wrap .u64 (x:Int)=(x:Int):=λ{x} hx=>gz I I;refine okF (ae.ql (u.root:Nat) (u.aL:Nat) (u.map:Nat) (u.clock:Nat) (u.dv:Nat) (u.keys:Nat) (n:Nat)) ax.ql func119 ?_;(delta ae.ql aG Y bG cm;dsimp only);refine a8 (vs:=u.c) rfl λw1 b B X=>⟨_,b.cell,?_⟩;rw[a h1];refine(gS (s:=⟨none,0,0⟩) (l:=[]) (aV.none 1 5 w1).src (cP _) (n:=u.root) I (by decide)).use ?_;rintro _ ai ⟨s2,rfl,C,d,Z⟩;have e:=b.ext d;refine⟨s2,rfl,_,by rw[aA];exact e.cell,?_⟩;rw[a (x:=u.aL) I];refine(gS C.src (by simp[dy]) (n:=u.aL) I (by decide)).use ?_;rintro _ aa ⟨D,rfl,E,f,ab⟩;have g:=e.ext f;refine⟨D,rfl,_,by rw[aA];exact g.cell,?_⟩;rw[a z];refine(gS E.src (by simp[dy]) (n:=u.map) I (by decide)).use ?_;rintro _ ac ⟨F,rfl,G,i,af⟩;have H:=g.ext i;refine⟨F,rfl,?_⟩;rw[a y];refine(gS G.src (by simp[dy]) (n:=n) I (by decide)).use ?_;rintro _ ag ⟨K,rfl,L,j,ah⟩;have k:=H.ext j;refine⟨K,rfl,_,by rw[aA];exact k.cell,?_⟩;refine(gS L.src (by simp[dy]) (n:=u.clock) I (by decide)).use ?_;rintro _ ak ⟨M,rfl,N,m,al⟩;have o:=k.ext m;refine⟨M,rfl,_,by rw[aA];exact o.cell,?_⟩;refine(gS N.src (by simp[dy]) (n:=u.dv) I (by decide)).use ?_;rintro _ am ⟨O,rfl,P,p,an⟩;have Q:=o.ext p;refine⟨O,rfl,_,by rw[aA];exact Q.cell,?_⟩;rw[a A];refine(gS P.src (by simp[dy]) (n:=u.keys) I (by decide)).use ?_;rintro _ ao ⟨r,rfl,R,S,T⟩;have t:=Ext.trans (Ext.trans (Ext.trans (Ext.trans (Ext.trans (Ext.trans B d) f) i) j) m) p;refine⟨r,rfl,r,rfl,R,Ext.trans t S,λq U=>?_⟩;have:=T q U;have:=t.size;omega
variable {w w':J}
theorem Src.cut{sz:Nat}{s:ad}{vs:O aa}{lo hi:Nat}(h:Src sz w s vs)(hc:s.len<=s.cap)(h1:lo<=hi)(h2:hi<=s.len):
 Src sz w ⟨aY s.a sz lo s.cap,hi-lo,s.cap-lo⟩ ((vs.drop (lo*sz)).take ((hi-lo)*sz)):=by
 have f:=h.len;have g:hi*sz<=s.len*sz:=mS _ h2;have i:lo*sz+(hi-lo)*sz=hi*sz:=by rw[←jc,Nat.add_sub_cancel' h1]
 refine⟨by simp;omega,λc=>?_,λa b=>?_⟩
 .have d:s.a=none:=by
   unfold aY at c;split at c
   .exact c
   .simpa using c
  simp[h.nil d]
 .show bn w a 0 ((hi-lo)*sz)=_
  by_cases e:hi=lo
  .rw[show hi-lo=0 from I];simp[bn]
  .have ar:∃A,s.a=some A/\a=A.add (lo*sz):=by
    unfold aY at b;rw[if_neg I]at b
    cases hs:s.a with
    |none=>rw[hs]at b;cases b
    |some A=>rw[hs]at b;exact⟨A,rfl,by simpa using b.symm⟩
   obtain⟨A,ar,rfl⟩:=ar;exact xC (h.rd A ar) I
theorem HB{s:ad}{sz n:Nat}{q:Nat}:aB ⟨aY s.a sz 0 s.cap,n-0,s.cap-0⟩ q↔aB s q:=by
 rw[xA];exact Iff.rfl
section
variable {P:Program}{cH e cD:TypeId}{sz bytes:Nat}
structure hT(sz:Nat)(e:TypeId)(w0 w:J)(s:ad)(l:O aa):Prop where
 o:aV sz e w s l
 x:Ext w0 w
 f:∀q,aB s q->w0.heap.size<=q
theorem Ext.new{a:Nat->Prop}{w0 w1 ai:J}(hx:Ext w0 w1)(h:af a w1 ai)(cx:∀q,a q->w0.heap.size<=q):Ext w0 ai/\af (λq=>w0.heap.size<=q) w1 ai:=
 ⟨Ext.dX hx h cx,h.mono λq _ b=>cx q b⟩
theorem hT.app(h:hA P cH e sz bytes){w0 w1:J}{s x:ad}{l xs:O aa}(hs:hT sz e w0 w1 s l)(hx:Src sz w1 x xs)(d:∀v∈xs,Plain v)(g:(2*(s.len+x.len)+1000)*bytes<=281474976710656):
 ∃ (a:ad) (ai:J),Sem.run P (Builtin.append_ #[cH,cH] cD #[s,x]) w1=.ok a ai/\af (λq=>w0.heap.size<=q) w1 ai/\hT sz e w0 ai a (l++xs)/\
  a.len=s.len+x.len/\af (aB s) w1 ai/\∀q,aB a q->aB s q\/w1.heap.size<=q:=by
 obtain⟨a,ai,aw,ay,i,b,c⟩:=h.append (cD:=cD) hx hs.o d g;obtain⟨b9,cq⟩:=Ext.new hs.x b hs.f;exact⟨a,ai,aw,cq,⟨ay,b9,λq j=>(c q j).elim (hs.f q) λh=>eE hs.x.size h⟩,i,b,c⟩
theorem size_le{a b c:Nat}(h:(2*b+1000)*c<=281474976710656)(d:a<=b):(2*a+1000)*c<=281474976710656:=eE (mS _ I) h
theorem Cr(h:hA P cH e sz bytes){x u M:O aa}{s1 s2:ad}{w0:J}
 (V:∀w:J,Sem.run P (Instr.buildSlice cH 0 #[]) w=.ok (.slice (some w.heap.size) 0 0) (w.alloc (.cells #[] e)))
 (cy:∀w:J,Sem.run P (Instr.buildSlice cH 1 #[(0,.agg x.toArray)]) w=.ok (.slice (some w.heap.size) 1 1) (w.alloc (.cells x.toArray e)))
 (hx:x.length=sz) (h1:Src sz w0 s1 u) (h2:Src sz w0 s2 M) (aM:∀v∈x,Plain v) (bk:∀v∈u,Plain v) (bf:∀v∈M,Plain v)
 (y:(2*(s1.len+s2.len+1)+1000)*bytes<=281474976710656) {K:ad->J->Prop} (an:∀W w',hT sz e w0 w' W (u++x++M)->K W w'):
 (∃N:ad,∃p:J,Sem.run P (Instr.buildSlice cH 0 #[]) w0=.ok N p/\af (λq=>w0.heap.size<=q) w0 p/\(
   (∃d:ad,∃g:J,Sem.run P (Builtin.append_ #[cH,cH] cD #[N,s1]) p=.ok d g/\af (λq=>w0.heap.size<=q) p g/\
     ∃m:ad,∃B:J,Sem.run P (Instr.buildSlice cH 1 #[(0,.agg x.toArray)]) g=.ok m B/\af (λq=>w0.heap.size<=q) g B/\
     ∃i:ad,∃c:J,Sem.run P (Builtin.append_ #[cH,cH] cD #[d,m]) B=.ok i c/\af (λq=>w0.heap.size<=q) B c/\
     ∃n:ad,∃k:J,Sem.run P (Builtin.append_ #[cH,cH] cD #[i,s2]) c=.ok n k/\af (λq=>w0.heap.size<=q) c k/\K n k)/\
   (∃X:ad,∃C:J,Sem.run P (Instr.buildSlice cH 1 #[(0,.agg x.toArray)]) p=.ok X C/\af (λq=>w0.heap.size<=q) p C/\
     ∃Y:ad,∃D:J,Sem.run P (Builtin.append_ #[cH,cH] cD #[N,s1]) C=.ok Y D/\af (λq=>w0.heap.size<=q) C D/\
     ∃Z:ad,∃E:J,Sem.run P (Builtin.append_ #[cH,cH] cD #[Y,X]) D=.ok Z E/\af (λq=>w0.heap.size<=q) D E/\
     ∃ab:ad,∃Q:J,Sem.run P (Builtin.append_ #[cH,cH] cD #[Z,s2]) E=.ok ab Q/\af (λq=>w0.heap.size<=q) E Q/\K ab Q)))/\
 (∃ac:ad,∃F:J,Sem.run P (Instr.buildSlice cH 1 #[(0,.agg x.toArray)]) w0=.ok ac F/\af (λq=>w0.heap.size<=q) w0 F/\
   ∃ae:ad,∃G:J,Sem.run P (Instr.buildSlice cH 0 #[]) F=.ok ae G/\af (λq=>w0.heap.size<=q) F G/\
   ∃ag:ad,∃H:J,Sem.run P (Builtin.append_ #[cH,cH] cD #[ae,s1]) G=.ok ag H/\af (λq=>w0.heap.size<=q) G H/\
   ∃aj:ad,∃L:J,Sem.run P (Builtin.append_ #[cH,cH] cD #[ag,ac]) H=.ok aj L/\af (λq=>w0.heap.size<=q) H L/\
   ∃ak:ad,∃R:J,Sem.run P (Builtin.append_ #[cH,cH] cD #[aj,s2]) L=.ok ak R/\af (λq=>w0.heap.size<=q) L R/\K ak R):=by
 have lH:∀ (w:J) (o:Obj),Ext w (w.alloc o):=λw o=>af.alloc (.refl _ _) o;have dw:∀w:J,Ext w0 w->hT sz e w0 (w.alloc (.cells #[] e)) ⟨some w.heap.size,0,0⟩ []:=λw al=>
  ⟨aV.new (T:=e) w [] 0 (by simp) (by decide),Ext.trans al (lH w _),λq l=>by rw[ji]at l;have:=al.size;simp at l;omega⟩
 have S:∀w:J,Src sz (w.alloc (.cells x.toArray e)) ⟨some w.heap.size,1,1⟩ x:=λw=>Src.new w x 1 (by simpa using hx);have z:∀ {w ai:J},Ext w ai->af (λq=>w0.heap.size<=q) w ai:=λh=>af.cW h;have ao:∀ {s:ad}{a b:J},hT sz e w0 a s []->Ext a b->hT sz e w0 b s []:=λh hx=>⟨h.o.ext hx,Ext.trans h.x hx,h.f⟩
 have tail:∀ {w1 ai:J}{d m:ad},hT sz e w0 w1 d u->d.len=s1.len->Ext w1 ai->Src sz ai m x->m.len=1->
  ∃i:ad,∃c:J,Sem.run P (Builtin.append_ #[cH,cH] cD #[d,m]) ai=.ok i c/\af (λq=>w0.heap.size<=q) ai c/\
   ∃n:ad,∃k:J,Sem.run P (Builtin.append_ #[cH,cH] cD #[i,s2]) c=.ok n k/\af (λq=>w0.heap.size<=q) c k/\K n k:=by
  intro w1 ai d m hf au am ap av;have aq:hT sz e w0 ai d u:=⟨hf.o.ext am,Ext.trans hf.x am,hf.f⟩;obtain⟨i,c,aw,ay,j,t,_,_⟩:=hT.app (cD:=cD) h aq ap aM (size_le y I);obtain⟨n,k,b9,cq,ar,_,_,_⟩:=hT.app (cD:=cD) h j (h2.ext j.x) bf (size_le y I);exact⟨i,c,aw,ay,n,k,b9,cq,an _ _ ar⟩
 refine⟨⟨⟨some w0.heap.size,0,0⟩,_,V w0,z (lH _ _),?_,?_⟩,?_⟩
 .have f0:=dw w0 (.refl _ _)
  obtain⟨d,g,aw,ay,j,t,_,_⟩:=hT.app (cD:=cD) h f0 (h1.ext f0.x) bk (size_le y (by simp;omega));rw[hY]at j;obtain⟨i,c,r⟩:=tail j (by simpa using t) (lH g (.cells x.toArray e)) (S g) rfl;exact⟨d,g,aw,ay,⟨some g.heap.size,1,1⟩,_,cy g,z (lH _ _),i,c,r⟩
 .have f0:=ao (dw w0 (.refl _ _)) (lH _ (.cells x.toArray e))
  obtain⟨d,g,aw,ay,j,t,U,_⟩:=hT.app (cD:=cD) h f0 (h1.ext f0.x) bk (size_le y (by simp;omega));rw[hY]at j;have hs:=(S (w0.alloc (.cells #[] e))).ah U λq l A=>by
   rw[ji]at l A;simp at l A;omega
  obtain⟨i,c,r⟩:=tail j (by simpa using t) (.refl _ _) hs rfl;exact⟨⟨some ⟨(w0.alloc (.cells #[] e)).heap.size,0,none⟩,1,1⟩,_,cy _,z (lH _ _),d,g,aw,ay,i,c,r⟩
 .have f0:=dw (w0.alloc (.cells x.toArray e)) (lH _ _)
  obtain⟨d,g,aw,ay,j,t,U,_⟩:=hT.app (cD:=cD) h f0 (h1.ext f0.x) bk (size_le y (by simp;omega));rw[hY]at j;have hs:=((S w0).alloc (.cells #[] e)).ah U λq l A=>by
   rw[ji]at l A;simp at l A;omega
  obtain⟨i,c,r⟩:=tail j (by simpa using t) (.refl _ _) hs rfl;exact⟨⟨some w0.heap.size,1,1⟩,_,cy _,z (lH _ _),⟨some ⟨(w0.alloc (.cells x.toArray e)).heap.size,0,none⟩,0,0⟩,_,V _,z (lH _ _),d,g,aw,ay,i,c,r⟩
end
end Go.Proofs.YtcmgnhkpfllinaaGreat
namespace Go.Proofs.YtcmgnhkpfllinaaGreat
open Go Go.Proofs Go.Shelf
def HC:Go.Shelf.Ren:=⟨λ |5=>140|8=>197|7=>196|19=>246|20=>247|10=>237|11=>238|12=>239|13=>240|14=>241|15=>242|16=>243|17=>244|18=>245|30=>267|31=>268|32=>269|33=>270|34=>271|35=>272|40=>278|n=>n,λ |23=>72|25=>3|3=>3|32=>30|22=>72|0=>0|44=>211|46=>23|4=>4|36=>330|35=>329|41=>224|5=>5|9=>9|53=>351|57=>355|63=>359|64=>226|n=>n,λ |n=>n⟩
theorem Cs:Go.Proofs.SlLaysM.n5 Tryz.prog HC:={
 mixed:=by kernel_rfl
 f5:=⟨Tryz.f140.name,by decide,Tryz.func140.trans (congrArg some (by kernel_rfl))⟩
 f7:=⟨Tryz.f196.name,by decide,Tryz.func196.trans (congrArg some (by kernel_rfl))⟩
 f8:=Tryz.func197.trans (congrArg some (by kernel_rfl))
 f10:=⟨Tryz.f237.name,by decide,Tryz.func237.trans (congrArg some (by kernel_rfl))⟩
 f11:=⟨Tryz.f238.name,by decide,Tryz.func238.trans (congrArg some (by kernel_rfl))⟩
 f12:=⟨Tryz.f239.name,by decide,Tryz.func239.trans (congrArg some (by kernel_rfl))⟩
 f13:=⟨Tryz.f240.name,by decide,Tryz.func240.trans (congrArg some (by kernel_rfl))⟩
 f14:=⟨Tryz.f241.name,by decide,Tryz.func241.trans (congrArg some (by kernel_rfl))⟩
 f15:=⟨Tryz.f242.name,by decide,Tryz.func242.trans (congrArg some (by kernel_rfl))⟩
 f16:=⟨Tryz.f243.name,by decide,Tryz.func243.trans (congrArg some (by kernel_rfl))⟩
 f17:=⟨Tryz.f244.name,by decide,Tryz.func244.trans (congrArg some (by kernel_rfl))⟩
 f18:=⟨Tryz.f245.name,by decide,Tryz.func245.trans (congrArg some (by kernel_rfl))⟩
 f19:=Tryz.func246.trans (congrArg some (by kernel_rfl))
 f20:=Tryz.func247.trans (congrArg some (by kernel_rfl))
 f30:=⟨Tryz.f267.name,by decide,Tryz.func267.trans (congrArg some (by kernel_rfl))⟩
 f31:=Tryz.func268.trans (congrArg some (by kernel_rfl))
 f32:=Tryz.func269.trans (congrArg some (by kernel_rfl))
 f33:=⟨Tryz.f270.name,by decide,Tryz.func270.trans (congrArg some (by kernel_rfl))⟩
 f34:=⟨Tryz.f271.name,by decide,Tryz.func271.trans (congrArg some (by kernel_rfl))⟩
 f35:=⟨Tryz.f272.name,by decide,Tryz.func272.trans (congrArg some (by kernel_rfl))⟩
 f40:=⟨Tryz.f278.name,by decide,Tryz.func278.trans (congrArg some (by kernel_rfl))⟩
 t0:=Tryz.underlying0
 a0:=Tryz.isAgg0
 z0:=Tryz.sizeOf0
 v0:=Tryz.zeroValue0
 t3:=Tryz.underlying3
 a3:=Tryz.isAgg3
 z3:=Tryz.sizeOf3
 v3:=Tryz.zeroValue3
 t4:=Tryz.underlying4
 a4:=Tryz.isAgg4
 z4:=Tryz.sizeOf4
 v4:=Tryz.zeroValue4
 t5:=Tryz.underlying5
 a5:=Tryz.isAgg5
 z5:=Tryz.sizeOf5
 v5:=Tryz.zeroValue5
 t9:=Tryz.underlying9
 a9:=Tryz.isAgg9
 z9:=Tryz.sizeOf9
 v9:=Tryz.zeroValue9
 t22:=Tryz.underlying72
 a22:=Tryz.isAgg72
 z22:=Tryz.sizeOf72
 v22:=Tryz.zeroValue72
 t23:=Tryz.underlying72
 a23:=Tryz.isAgg72
 z23:=Tryz.sizeOf72
 v23:=Tryz.zeroValue72
 t25:=Tryz.underlying3
 a25:=Tryz.isAgg3
 z25:=Tryz.sizeOf3
 v25:=Tryz.zeroValue3
 t32:=Tryz.underlying30
 a32:=Tryz.isAgg30
 z32:=Tryz.sizeOf30
 v32:=Tryz.zeroValue30
 t35:=Tryz.underlying329
 a35:=Tryz.isAgg329
 z35:=Tryz.sizeOf329
 v35:=Tryz.zeroValue329
 t36:=Tryz.underlying330
 a36:=Tryz.isAgg330
 z36:=Tryz.sizeOf330
 v36:=Tryz.zeroValue330
 t41:=Tryz.underlying224
 a41:=Tryz.isAgg224
 z41:=Tryz.sizeOf224
 v41:=Tryz.zeroValue224
 t44:=Tryz.underlying211
 a44:=Tryz.isAgg211
 z44:=Tryz.sizeOf211
 v44:=Tryz.zeroValue211
 t46:=Tryz.underlying23
 a46:=Tryz.isAgg23
 z46:=Tryz.sizeOf23
 v46:=Tryz.zeroValue23
 t53:=Tryz.underlying351
 a53:=Tryz.isAgg351
 z53:=Tryz.sizeOf351
 v53:=Tryz.zeroValue351
 t57:=Tryz.underlying355
 a57:=Tryz.isAgg355
 z57:=Tryz.sizeOf355
 v57:=Tryz.zeroValue355
 t63:=Tryz.underlying359
 a63:=Tryz.isAgg359
 z63:=Tryz.sizeOf359
 v63:=Tryz.zeroValue359
 t64:=Tryz.underlying226
 a64:=Tryz.isAgg226
 z64:=Tryz.sizeOf226
 v64:=Tryz.zeroValue226}
end Go.Proofs.YtcmgnhkpfllinaaGreat
namespace Go.Proofs.YtcmgnhkpfllinaaGreat
open Go aQ Go.Proofs.Tryz
theorem HD{w:J}{b n:Nat}{c:Array aa}{T:TypeId}{os:Array Obj}{zs:O Int}(h:bp w b c T)(g:zs.length<=c.size):
 ∃c':Array aa,bp (Go.Sort.grow (Go.Sort.putRow (Value.int .i64) (Go.Sort.ahead w n) b 0 zs.toArray) os) b c' T/\c'.size=c.size/\c'.toList.take zs.length=zs.map encZ/\af (λq=>q=b) w (Go.Sort.grow (Go.Sort.putRow (Value.int .i64) (Go.Sort.ahead w n) b 0 zs.toArray) os):=by
 have aH:=h.lt;have d:∀k,k<w.heap.size->(Go.Sort.grow (Go.Sort.putRow (Value.int .i64) (Go.Sort.ahead w n) b 0 zs.toArray) os).heap[k]? =(w.heap.modify b (Go.Sort.onCells (Go.Sort.putCells (Value.int .i64) 0 zs.toArray)))[k]? :=λk a=>by
  show((w.heap.modify b _)++os)[k]? =_;rw[Array.getElem?_append_left (by simpa using a)]
 refine⟨Go.Sort.putCells (Value.int .i64) 0 zs.toArray c,?_,by simp[Go.Sort.putCells],?_,rfl,rfl,rfl,?_,λk a f=>?_⟩
 .unfold bp at h⊢
  rw[d b aH,s5,if_pos rfl,h];rfl
 .apply List.ext_getElem?
  intro i;rw[s9];split
  .rename_i hi
   rw[Array.getElem?_toList,Go.Sort.putCells,Array.getElem?_mapIdx,Array.getElem?_eq_getElem I,l4,if_pos ⟨cP _,by simpa using hi⟩,nU,dH hi];simp[hi]
  .rename_i hi
   rw[nX (by simpa using hi)]
 .show w.heap.size<=((w.heap.modify b _)++os).size
  simp
 .rw[d k a,s5,if_neg (λe=>f e.symm)]
theorem HE{w:J}{s:ad}{zs:O Int}(h:aV 1 3 w s (zs.map encZ))(E:zs.length<=1000000):
 aI aj 140 #[s] w (λv w'=>v=.tuple #[]/\af (aB s) w w'/\∃ys:O Int,aV 1 3 w' s (ys.map encZ)/\ys.Perm zs/\ys.Pairwise λa b=>a<=b):=by
 have F:s.len=zs.length:=by have:=h.1;rw[dk]at this;omega
 rcases nY zs.length with h0|h0
 .have hd:zs=[]:=l3.1 h0
  have e:s.len=0:=by omega
  rw[e];refine Calls.mono (AnyM.slices_Sort_int_none Cs s.a s.cap w) ?_;rintro _ _ ⟨rfl,rfl⟩;exact⟨_,rfl,rfl,.refl _ _,[],by rw[hd]at h;exact h,by rw[hd],List.Pairwise.nil⟩
 obtain⟨h1,h2,r,t⟩:=h;rcases t with ⟨_,f⟩|⟨b,c,g,d,u,z⟩
 .omega
 have A:Go.Sort.Holds (Value.int .i64) w b 0 zs.toArray:=λj B=>by
  have k:j<zs.length:=by simpa using B
  refine⟨?_,bp.frozen d _ rfl⟩;rw[d.cell,cT];have e:=congrArg (λl=>l[j]?) z;simp only[s9,nU,dH k,l4]at e;rw[if_pos I,Array.getElem?_toList]at e;rw[e];simp[k]
 have C:=AnyM.slices_Sort_int Cs b 0 s.cap zs w A d.lt I;rw[g];have e:s.len=zs.length:=by omega
 rw[e];refine Calls.mono C ?_;rintro _ w' ⟨rfl,n,os,rfl⟩;obtain⟨c',aw,ay,m,o⟩:=HD (n:=n) (os:=os) (zs:=zs.mergeSort λx y=>decide (x<=y)) d (by rw[List.length_mergeSort];omega);have i:=List.mergeSort_perm zs λx y=>decide (x<=y);have p:(zs.mergeSort λx y=>decide (x<=y)).Pairwise λa b=>decide (a<=b)=true:=List.pairwise_mergeSort (λa b c h1 h2=>by simp only[cp]at*;omega) (λa b=>by simp only[jb,cp];omega) zs;generalize (zs.mergeSort λx y=>decide (x<=y))=ys at aw ay m o i p;refine⟨_,rfl,rfl,o.mono λq _ e=>⟨b,g,e.symm⟩,ys,?_,i,p.imp λh=>cf h⟩;have D:=i.length_eq;have f:=aV.mk' (sz:=1) (n:=s.len) (cap:=s.cap) aw (vs:=ys.map encZ) (by rw[dk];omega) h2 r (by rw[ay];exact u) (by rw[fw,e,←D];exact m);rw[←g]at f;exact f
def lp(a cy b4 b c d e f:al):Nat:=
 a.toNat+2*cy.toNat+4*b4.toNat+8*b.toNat+16*c.toNat+32*d.toNat+64*e.toNat+128*f.toNat
def byteOf(f:Nat->al)(i:Nat):Nat:=lp (f (8*i)) (f (8*i+1)) (f (8*i+2)) (f (8*i+3)) (f (8*i+4)) (f (8*i+5)) (f (8*i+6)) (f (8*i+7))
theorem HF:∀a cy b4 b c d e f:al,lp a cy b4 b c d e f<256:=by decide+kernel
theorem HG:∀a cy b4 b c d e f:al,
 (lp a cy b4 b c d e f).testBit 0=a/\(lp a cy b4 b c d e f).testBit 1=cy/\(lp a cy b4 b c d e f).testBit 2=b4/\(lp a cy b4 b c d e f).testBit 3=b/\
 (lp a cy b4 b c d e f).testBit 4=c/\(lp a cy b4 b c d e f).testBit 5=d/\(lp a cy b4 b c d e f).testBit 6=e/\(lp a cy b4 b c d e f).testBit 7=f:=by decide+kernel
theorem kM(f:Nat->al)(i:Nat):byteOf f i<256:=HF _ _ _ _ _ _ _ _
theorem pd(f:Nat->al)(i j:Nat)(a:j<8):(byteOf f i).testBit j=f (8*i+j):=by
 obtain⟨h0,h1,h2,b,c,d,e,g⟩:=HG (f (8*i)) (f (8*i+1)) (f (8*i+2)) (f (8*i+3)) (f (8*i+4)) (f (8*i+5)) (f (8*i+6)) (f (8*i+7));have:j=0\/j=1\/j=2\/j=3\/j=4\/j=5\/j=6\/j=7:=by omega
 unfold byteOf;rcases this with rfl|rfl|rfl|rfl|rfl|rfl|rfl|rfl<;>assumption
theorem HH{x y:Nat}(hx:x<256)(b:y<256)(h:∀j,j<8->x.testBit j=y.testBit j):x=y:=by
 apply Nat.eq_of_testBit_eq;intro j;by_cases a:j<8
 .exact h j a
 .have p:256<=2^j:=by
   have:=td (n:=2) I (by omega:8<=j);simpa using this
  rw[Nat.testBit_lt_two_pow I,Nat.testBit_lt_two_pow I]
theorem yU(f:Nat->al)(i x:Nat)(hx:x<256)(h:∀j,j<8->x.testBit j=f (8*i+j)):x=byteOf f i:=
 HH hx (kM f i) λj a=>by rw[h j a,pd f i j a]
def dt(f:Nat->al)(k:Nat)(b:al):Nat->al:=λi=>if i=k then b else f i
theorem HI:∀x:Nat,x<256->∀j:Nat,j<8->(jf .u8 (Int.fdiv (x:Int) (2^(min (Int.toNat (j:Int)) 8))) 1==1)=x.testBit j:=by decide+kernel
theorem HJ:∀x:Nat,x<256->∀j:Nat,j<8->m3 .u8 (x:Int) (IntKind.wrap .u8 (1*2^(min (Int.toNat (j:Int)) 8)))=((x|||2^j:Nat):Int):=by decide+kernel
theorem HK:∀x:Nat,x<256->∀j:Nat,j<8->z2 .u8 (x:Int) (IntKind.wrap .u8 (1*2^(min (Int.toNat (j:Int)) 8)))=((x&&&(255-2^j):Nat):Int):=by decide+kernel
theorem yV:∀x:Nat,x<256->∀y:Nat,y<256->x|||y<256:=λ_ hx _ a=>Nat.or_lt_two_pow (n:=8) hx a
theorem HL:∀j:Nat,j<8->∀k:Nat,k<8->(255-2^j).testBit k=(k !=j):=by decide+kernel
theorem HM(x y:Nat)(hx:x<256)(a:y<256):m3 .u8 (x:Int) (y:Int)=((x|||y:Nat):Int):=by
 have h:=yV x hx y a;have e:(BitVec.ofInt 8 (x:Int)|||BitVec.ofInt 8 (y:Int)).toNat=x|||y:=by
  simp only[BitVec.ofInt_natCast,BitVec.toNat_or,BitVec.toNat_ofNat];rw[j4 (by simpa using hx),j4 (by simpa using a)]
 show IntKind.wrap .u8 (((BitVec.ofInt 8 (x:Int)|||BitVec.ofInt 8 (y:Int)).toNat:Nat):Int)=_;rw[e];have:((x|||y:Nat):Int)%256=((x|||y:Nat):Int):=Int.emod_eq_of_lt I I;simp[IntKind.wrap,IntKind.signed,IntKind.bits,this]
theorem HN(k:Nat):8*(k/8)+k%8=k:=Nat.div_add_mod k 8
theorem HO(f:Nat->al)(k:Nat):byteOf f (k/8)|||2^(k%8)=byteOf (dt f k true) (k/8):=by
 refine yU _ _ _ (yV _ (kM _ _) _ ?_) λj b=>?_
 .have:k%8<8:=g8 _ I
  have:=Nat.pow_lt_pow_right (a:=2) I this;simpa using this
 .rw[mN,pd _ _ _ b,rf,dt]
  by_cases h:8*(k/8)+j=k
  .rw[if_pos h]
   have:k%8=j:=by omega
   simp[this]
  .rw[if_neg h]
   have:¬k%8=j:=by omega
   simp[this]
theorem HP(f:Nat->al)(k:Nat):byteOf f (k/8)&&&(255-2^(k%8))=byteOf (dt f k false) (k/8):=by
 refine yU _ _ _ (Nat.lt_of_le_of_lt Nat.and_le_left (kM _ _)) λj a=>?_;rw[Nat.testBit_and,pd _ _ _ a,HL _ (g8 _ I) _ a,dt];by_cases h:8*(k/8)+j=k
 .rw[if_pos h]
  have:j=k%8:=by omega
  simp[this]
 .rw[if_neg h]
  have:¬j=k%8:=by omega
  simp[this]
theorem HQ(f:Nat->al)(k i:Nat)(b:al)(h:i≠k/8):byteOf (dt f k b) i=byteOf f i:=by
 have e:∀j,j<8->dt f k b (8*i+j)=f (8*i+j):=λj a=>by
  unfold dt;rw[if_neg];omega
 unfold byteOf;rw[e 1 I,e 2 I,e 3 I,e 4 I,e 5 I,e 6 I,e 7 I];have:=e 0 I;simp only[ly]at this;rw[this]
def e1(f:Nat->al)(m:Nat):O aa:=(List.range m).map λi=>.int .u8 (byteOf f i)
theorem yW(f:Nat->al)(m:Nat):(e1 f m).length=m:=by simp[e1]
theorem pe(f:Nat->al){m i:Nat}(h:i<m):(e1 f m)[i]? =some (.int .u8 (byteOf f i)):=by simp[e1,h]
theorem Ct(f:Nat->al)(k m:Nat)(b:al):(e1 f m).set (k/8) (.int .u8 (byteOf (dt f k b) (k/8)))=e1 (dt f k b) m:=by
 apply List.ext_getElem?;intro i;rw[List.getElem?_set];by_cases hi:i<m
 .rw[pe (dt f k b) hi]
  by_cases h:k/8=i
  .subst h
   simp[yW,hi]
  .rw[if_neg h,pe _ hi,HQ f k i b I]
 .have h1:(e1 (dt f k b) m)[i]? =none:=by simp[e1];omega
  have h2:(e1 f m)[i]? =none:=by simp[e1];omega
  rw[h1,h2];split
  .simp[yW];omega
  .rfl
theorem Cu(k:Nat):Int.tdiv (k:Int) 8=((k/8:Nat):Int):=by
 rw[wP I];omega
theorem yX(k:Nat):Int.tmod (k:Int) 8=((k%8:Nat):Int):=by
 rw[mT I];omega
theorem yY{k:Nat}(h:k<=9223372036854775807):IntKind.wrap .i64 (Int.tdiv (k:Int) 8)=((k/8:Nat):Int):=by
 rw[Cu,br I I]
theorem Cv{s:ad}{b:Nat}(h:s.a=some ⟨b,0,none⟩):aB s b:=⟨_,h,rfl⟩
theorem sM{w:J}{s:ad}{f:Nat->al}{m k:Nat}(h:aV 1 5 w s (e1 f m))(a:k/8<m)(d:k<=9223372036854775807):
 aI aj 198 #[s,k] w (λv w'=>v=.bool (f k)/\w=w'):=by
 refine okF (ae.vf s k) ax.vf func198 ?_;(delta ae.vf aP aq du;dsimp only);obtain⟨b,c,e,g,i,hi,j,hc,_⟩:=h.cell (pe f a);refine⟨by decide,_,e,?_⟩;rw[yY d,yX];refine⟨⟨I,I⟩,(byteOf f (k/8):Int),?_,by decide,I,?_,rfl⟩
 .rw[fw,di,aA,cT];exact hc
 .rw[HI _ (kM _ _) _ (g8 _ I),pd _ _ _ (g8 _ I),HN]
theorem Cw{w:J}{s:ad}{f:Nat->al}{m k:Nat}(h:aV 1 5 w s (e1 f m))(e:k/8<m)(g:k<=9223372036854775807):
 aI aj 111 #[s,k] w (λv w'=>v=.tuple #[]/\aV 1 5 w' s (e1 (dt f k true) m)/\af (aB s) w w'):=by
 refine okF (ae.uV s k) ax.uV func111 ?_;(delta ae.uV an aP aq du st;dsimp only);obtain⟨b,c,d,i,l,hi,n,hc,_⟩:=h.cell (pe f e);have a:(Addr.mk b 0 none).add (Int.toNat ((k/8:Nat):Int)*1)=⟨b,k/8,none⟩:=by rw[fw,di,aA,cT]
 rw[yY g,yX];refine⟨by decide,_,d,⟨I,I⟩,by simp,(byteOf f (k/8):Int),by rw[a];exact hc,by decide,I,_,d,⟨I,I⟩,⟨_,by rw[a];exact hc⟩,by rw[a];exact i.drew.frozen _ rfl,rfl,?_,?_⟩
 .rw[a,HJ _ (kM _ _) _ (g8 _ I),HO,←Ct]
  have j:aV 1 5 w.drew s (e1 f m):=h.ah (W:=λ_=>False) (af.drew (.refl _ _)) (λ_ _ h=>h);exact j.set d _
 .rw[a]
  exact af.set (af.drew (.refl _ _)) (λ_=>Cv d) _
theorem HR{w:J}{s:ad}{f:Nat->al}{m k:Nat}(h:aV 1 5 w s (e1 f m))(e:k/8<m)(g:k<=9223372036854775807):
 aI aj 203 #[s,k] w (λv w'=>v=.tuple #[]/\aV 1 5 w' s (e1 (dt f k false) m)/\af (aB s) w w'):=by
 refine okF (ae.vg s k) ax.vg func203 ?_;(delta ae.vg an aP aq du st;dsimp only);obtain⟨b,c,d,i,l,hi,n,hc,_⟩:=h.cell (pe f e);have a:(Addr.mk b 0 none).add (Int.toNat ((k/8:Nat):Int)*1)=⟨b,k/8,none⟩:=by rw[fw,di,aA,cT]
 rw[yY g,yX];refine⟨by decide,_,d,⟨I,I⟩,by simp,(byteOf f (k/8):Int),by rw[a];exact hc,by decide,I,_,d,⟨I,I⟩,⟨_,by rw[a];exact hc⟩,by rw[a];exact i.drew.frozen _ rfl,rfl,?_,?_⟩
 .rw[a,HK _ (kM _ _) _ (g8 _ I),HP,←Ct]
  have j:aV 1 5 w.drew s (e1 f m):=h.ah (W:=λ_=>False) (af.drew (.refl _ _)) (λ_ _ h=>h);exact j.set d _
 .rw[a]
  exact af.set (af.drew (.refl _ _)) (λ_=>Cv d) _
structure fk(w:J)(b n:Nat)(f g:Nat->al)(s1 s2:ad):Prop where
 bO:bp w b #[n,s1,s2] 209
 now:aV 1 5 w s1 (e1 f ((n+7)/8))
 sure:aV 1 5 w s2 (e1 g ((n+7)/8))
 d1:∀k,aB s1 k->k≠b/\¬aB s2 k
 d2:∀k,aB s2 k->k≠b
 b_:1<=n
 bu:n<=1600
 pf:∀i,n<=i->f i=false
 cJ:∀i,n<=i->g i=false
def gE(b:Nat)(s1 s2:ad)(k:Nat):Prop:=k=b\/aB s1 k\/aB s2 k
section
variable {w w':J}{b n:Nat}{f g:Nat->al}{s1 s2:ad}
theorem fk.ah{W:Nat->Prop}(h:fk w b n f g s1 s2)(hc:af W w w')(a:∀k,gE b s1 s2 k->¬W k):fk w' b n f g s1 s2:=
 ⟨h.bO.ah hc (a b (.inl rfl)),h.now.ah hc λk c=>a k (.inr (.inl c)),h.sure.ah hc λk c=>a k (.inr (.inr c)),h.d1,h.d2,h.b_,h.bu,h.pf,h.cJ⟩
theorem fk.ext(h:fk w b n f g s1 s2)(hc:Ext w w'):fk w' b n f g s1 s2:=h.ah hc λ_ _ h=>h
theorem fk.lt(h:fk w b n f g s1 s2):∀k,gE b s1 s2 k->k<w.heap.size:=by
 rintro k (rfl|a|a)
 .exact h.bO.lt
 .exact h.now.lt k a
 .exact h.sure.lt k a
theorem fk.bV(h:fk w b n f g s1 s2):w.cell? b=some (.int .i64 n):=by rw[h.bO.cell];rfl
theorem fk.aU(h:fk w b n f g s1 s2):w.cell? ((Addr.mk b 0 none).add 1)=some (.slice s1.a s1.len s1.cap):=by rw[aA,h.bO.cell];rfl
theorem fk.ba(h:fk w b n f g s1 s2):w.cell? ((Addr.mk b 0 none).add 2)=some (.slice s2.a s2.len s2.cap):=by rw[aA,h.bO.cell];rfl
theorem HS(h:fk w b n f g s1 s2){k:Nat}(a:k<n):
 aI aj 201 #[.pointer (some b),k] w (λv w'=>v=.bool (f k||g k)/\w=w'):=by
 have c:=h.bu;refine ae.Fz _ k w _ ?_;(delta ae.sj r1 b8 ak;dsimp only);refine⟨_,rfl,s1,h.aU,(sM h.now (k:=k) I I).use ?_⟩;rintro _ _ ⟨rfl,rfl⟩;refine⟨_,rfl,⟨λhf=>⟨by rw[hf];rfl,rfl⟩,λhf=>⟨_,rfl,s2,h.ba,(sM h.sure (k:=k) I I).use ?_⟩⟩⟩;rintro _ _ ⟨rfl,rfl⟩;exact⟨_,rfl,by rw[hf];rfl,rfl⟩
theorem Cx(h:fk w b n f g s1 s2)(k:Int):
 aI aj 202 #[.pointer (some b),k] w (λv w'=>v=.bool (decide (0<=k)&&decide (k<n))/\w=w'):=by
 refine ae.FA _ k w _ ?_;(delta ae.sk ak aG;dsimp only);refine⟨?_⟩;refine⟨λh1=>⟨_,rfl,n,h.bV,?_,rfl⟩,λh1=>⟨?_,rfl⟩⟩
 .have:0<=k:=by simpa using h1
  simp[this]
 .have:¬0<=k:=by simpa using h1
  simp[this]
def firstFree(t:Nat->al)(n:Nat):av Nat:=(List.range n).find? λi=> !t i
theorem HT{t:Nat->al}{n k:Nat}(e:k<n)(ht:t k=false)(c:∀i,i<k->t i=true):firstFree t n=some k:=by
 unfold firstFree;rw[List.find?_eq_some_iff_append];refine⟨by simp[ht],List.range k,(List.range' (k+1) (n-(k+1))),?_,λa d=>?_⟩
 .have b:=List.range'_append (s:=0) (m:=k) (n:=n-(k+1)+1) (step:=1)
  rw[s7,s7,←List.range'_succ];rw[Nat.one_mul,cT]at b;rw[b]
  congr 1
  omega
 .simp[c a (jZ.1 d)]
theorem HU{t:Nat->al}{n:Nat}(b:∀i,i<n->t i=true):firstFree t n=none:=by
 unfold firstFree;rw[jE];intro a c;simp[b a (jZ.1 c)]
theorem Cy{t:Nat->al}{n k:Nat}(h:firstFree t n=some k):k<n/\t k=false/\∀i,i<k->t i=true:=by
 unfold firstFree at h;obtain⟨h1,la,lb,h2,c⟩:=List.find?_eq_some_iff_append.1 h;have d:k<n:=jZ.1 (by rw[h2];simp);refine⟨d,by simpa using h1,λi hi=>?_⟩;have hlen:la.length=k:=by
  have a:(List.range n)[la.length]? =some k:=by rw[h2];simp
  rw[List.getElem?_range (by
   have:=congrArg List.length h2;simp at this;omega)]at a
  simpa using a
 have b:(List.range n)[i]? =some i:=List.getElem?_range I;rw[h2,tc I]at b;have:=c i (List.mem_of_getElem? b);simpa using this
theorem HV{t:Nat->al}{n:Nat}(h:firstFree t n=none):∀i,i<n->t i=true:=by
 unfold firstFree at h;rw[jE]at h;intro i hi;have:=h i (jZ.2 hi);simpa using this
def HW(o:av Nat):aa:=
 match o with
 |some k=>.tuple #[.int .i64 (k:Int),(0:Int)]
 |none=>.tuple #[.int .i64 (-1),(2:Int)]
def HX(o:av Nat)(f:Nat->al):Nat->al:=
 match o with
 |some k=>dt f k true
 |none=>f
theorem Cz{f:Nat->al}{n k:Nat}{x:al}(h:∀i,n<=i->f i=false)(a:k<n):∀i,n<=i->dt f k x i=false:=λi hi=>by
 unfold dt
 rw[if_neg I]
 exact h i hi
theorem CA(h:fk w b n f g s1 s2):
 aI aj 144 #[.pointer (some b)] w (λv w'=>v=HW (firstFree (λi=>f i||g i) n)/\fk w' b n (HX (firstFree (λi=>f i||g i) n) f) g s1 s2/\af (gE b s1 s2) w w'):=by
 have r:=h.bu;refine ae.Fq _ w _ ?_;(delta ae.sf ak aG b8 r1 gQ aq;dsimp only);refine⟨λh1=>by simp at h1,λ_=>⟨_,rfl,n,h.bV,λi w'=>∃k:Nat,i=k/\k<=n/\w=w'/\∀j,j<k->(f j||g j)=true,λi _=>(n-i).toNat,⟨0,rfl,I,rfl,λj l=>I⟩,?_⟩⟩;rintro _ _ ⟨k,rfl,a,rfl,d⟩;refine⟨λaH=>(HS h (k:=k) (by simpa using aH)).use ?_,λm=>?_⟩
 .have c:k<n:=by simpa using aH
  rintro _ _ ⟨rfl,rfl⟩;refine⟨_,rfl,λht=>⟨_,rfl,s1,h.aU,(Cw h.now (k:=k) I I).use ?_⟩,λht=>?_⟩
  .rintro _ w' ⟨rfl,o,hc⟩
   have e:(f k||g k)=false:=by simpa using ht
   have p:=HT (t:=λi=>f i||g i) c e d;rw[p];refine⟨rfl,rfl,⟨h.bO.ah hc λq=>(h.d1 b q).1 rfl,o,h.sure.ah hc λk a h1=>(h.d1 k h1).2 a,h.d1,h.d2,h.b_,h.bu,Cz h.pf c,h.cJ⟩,hc.mono λk _ a=>.inr (.inl a)⟩
  .have e:(f k||g k)=true:=by cases hx:(f k||g k)<;>simp[hx]at ht⊢
   rw[br I I];refine⟨⟨k+1,I,I,rfl,λj l=>?_⟩,(show((n:Int)-((k:Int)+1)).toNat<((n:Int)-(k:Int)).toNat from I)⟩;rcases ei j k with h1|h1
   .exact d j h1
   .have:j=k:=by omega
    subst this;exact e
 .have c:k=n:=by
   have:¬(k:Int)<n:=by simpa using m
   omega
  subst c;rw[HU d];exact⟨rfl,h,.refl _ _⟩
def wi(f:Nat->al)(n:Nat)(k:Int):Int:=if 0<=k/\k<n then (if f k.toNat then 0 else 6) else 1
def nF(f:Nat->al)(n:Nat)(k:Int):Nat->al:=if 0<=k/\k<n then dt f k.toNat false else f
theorem HY{f:Nat->al}{k:Nat}{x:al}(h:f k=x):dt f k x=f:=by
 funext i;unfold dt;split
 .rename_i hi;rw[hi,h]
 .rfl
theorem CB(h:fk w b n f g s1 s2)(k:Int):
 aI aj 145 #[.pointer (some b),k] w (λv w'=>v=.int .i64 (wi f n k)/\fk w' b n (nF f n k) g s1 s2/\af (gE b s1 s2) w w'):=by
 have l:=h.bu;refine ae.Fs _ k w _ ?_;(delta ae.sg b8 ak r1 gQ;dsimp only);refine(Cx h k).use ?_;rintro _ _ ⟨rfl,rfl⟩;refine⟨_,rfl,λh1=>?_,λh1=>?_⟩
 .have:¬(0<=k/\k<n):=by
   rintro⟨h2,d⟩;simp[h2,d]at h1
  exact⟨by rw[wi,if_neg this],by rw[nF,if_neg this];exact h,.refl _ _⟩
 .have a:0<=k/\k<n:=by simpa using h1
  obtain⟨m,rfl⟩:=wS a.1;have e:m<n:=by omega
  refine⟨_,rfl,s1,h.aU,(sM h.now (k:=m) I I).use ?_⟩;rintro _ _ ⟨rfl,rfl⟩;refine⟨_,rfl,λh2=>?_,λh2=>⟨_,rfl,s1,h.aU,(HR h.now (k:=m) I I).use ?_⟩⟩
  .have hf:f m=false:=by simpa using h2
   refine⟨by rw[wi,if_pos a,di,hf];rfl,?_,.refl _ _⟩;rw[nF,if_pos a,di,HY hf];exact h
  .rintro _ w' ⟨rfl,i,hc⟩
   have hf:f m=true:=by simpa using h2
   refine⟨rfl,by rw[wi,if_pos a,di,hf];rfl,?_,hc.mono λk _ c=>.inr (.inl c)⟩;rw[nF,if_pos a,di];exact⟨h.bO.ah hc λj=>(h.d1 b j).1 rfl,i,h.sure.ah hc λk c h1=>(h.d1 k h1).2 c,h.d1,h.d2,h.b_,h.bu,Cz h.pf e,h.cJ⟩
theorem HZ(h:fk w b n f g s1 s2)(k:Int):
 aI aj 229 #[.pointer (some b),k] w (λv w'=>v=.bool (decide (0<=k)&&decide (k<n)&&f k.toNat&& !(g k.toNat))/\w=w'):=by
 have c:=h.bu;refine ae.FF _ k w _ ?_;(delta ae.sn b8 ak r1;dsimp only);refine(Cx h k).use ?_;rintro _ _ ⟨rfl,rfl⟩;refine⟨_,rfl,⟨λh1=>?_,λh1=>⟨(λh=>by cases h),λ_=>⟨by rw[h1];rfl,rfl⟩⟩⟩⟩;have a:0<=k/\k<n:=by simpa using h1
 obtain⟨m,rfl⟩:=wS a.1;refine⟨_,rfl,s1,h.aU,(sM h.now (k:=m) I I).use ?_⟩;rintro _ _ ⟨rfl,rfl⟩;refine⟨_,rfl,λh2=>⟨_,rfl,s2,h.ba,(sM h.sure (k:=m) I I).use ?_⟩,λh2=>⟨by rw[h1,di,h2];rfl,rfl⟩⟩;rintro _ _ ⟨rfl,rfl⟩;exact⟨_,rfl,by rw[h1,di,h2];rfl,rfl⟩
end
theorem H0:hA aj 206 5 1 1:=⟨by kernel_rfl⟩
theorem CC:hA aj 39 5 1 1:=⟨by kernel_rfl⟩
theorem H2(n:Nat):gZ aj 5 n=(List.replicate n (.int .u8 0)).toArray:=AP (by kernel_rfl) (by kernel_rfl) n
theorem CD(f:Nat->al)(m:Nat):∀v∈e1 f m,Plain v:=by
 intro v a;obtain⟨i,_,rfl⟩:=fF.1 a;trivial
theorem H3{w:J}{s:ad}{xs:O aa}(h:Src 1 w s xs)(d:∀v∈xs,Plain v)(i:s.len<=1000000):
 aI aj 173 #[s] w (λv w'=>∃b:ad,v=b/\aV 1 5 w' b xs/\Ext w w'/\∀k,aB b k->w.heap.size<=k):=by
 refine okF (ae.uh s) ax.uh func173 ?_;delta ae.uh an ak Y;refine⟨λc=>?_,λ_=>?_⟩
 .have c:s.a=none:=by simpa using c
  rw[h.nil c];exact⟨⟨none,0,0⟩,rfl,aV.none _ _ _,.refl _ _,λk e=>(fV k e).elim⟩
 .obtain⟨b,w',h1,h2,j,f,g,_⟩:=H0.clone (cD:=206) h d I
  exact⟨b,w',h1,b,rfl,h2,f,g⟩
theorem H4{w:J}{s:ad}{xs:O aa}(h:Src 1 w s xs)(d:∀v∈xs,Plain v)(i:s.len<=1000000):
 aI aj 46 #[s] w (λv w'=>∃b:ad,v=b/\aV 1 5 w' b xs/\Ext w w'/\∀k,aB b k->w.heap.size<=k):=by
 refine okF (ae.ox s) ax.ox func46 ?_;delta ae.ox an ak Y;refine⟨λc=>?_,λ_=>?_⟩
 .have c:s.a=none:=by simpa using c
  rw[h.nil c];exact⟨⟨none,0,0⟩,rfl,aV.none _ _ _,.refl _ _,λk e=>(fV k e).elim⟩
 .obtain⟨b,w',h1,h2,j,f,g,_⟩:=CC.clone (cD:=39) h d I
  exact⟨b,w',h1,b,rfl,h2,f,g⟩
section
variable {w w':J}{b n:Nat}{f g:Nat->al}{s1 s2:ad}
theorem wj{T:TypeId}{m:Nat}(h:aV 1 T w s1 (e1 f m)):s1.len=m:=by
 have:=h.1;rw[yW]at this;omega
theorem CE{m:Nat}{u:aa}(c:bp w b #[n,s1,u] 209)(h1:aV 1 5 w s1 (e1 f m))(hd:∀k,aB s1 k->k≠b)(g:m<=1000000):
 aI aj 112 #[.pointer (some b)] w (λv w'=>v=.tuple #[]/\∃a:ad,bp w' b #[n,s1,a] 209/\
  aV 1 5 w' s1 (e1 f m)/\aV 1 5 w' a (e1 f m)/\af (λk=>k=b) w w'/\∀k,aB a k->w.heap.size<=k):=by
 refine ae.Fl _ w _ ?_;(delta ae.r_ an ak r1 bG st;dsimp only);refine⟨λ_=>⟨_,rfl,s1,by rw[aA,c.cell];rfl,(H3 h1.src (CD f m) (by rw[wj h1];exact g)).use ?_⟩,λh=>by simp at h⟩;rintro _ ai ⟨a,rfl,h2,hx,hf⟩;have d:=c.ext hx;have i:∀k,aB a k->k≠b:=λk j e=>by have:=hf k j;have:=c.lt;omega
 refine⟨a,rfl,_,rfl,⟨_,by rw[aA,d.cell];rfl⟩,d.frozen _ rfl,rfl,a,?_,?_,?_,?_,hf⟩
 .rw[aA];exact d.set 2 _
 .exact(h1.ext hx).ah (W:=λk=>k=b) (af.set (.refl _ _) (λ_=>by rw[aA]) _) hd
 .exact h2.ah (W:=λk=>k=b) (af.set (.refl _ _) (λ_=>by rw[aA]) _) i
 .exact(af.cW hx).set (λ_=>by rw[aA]) _
theorem H5(h:fk w b n f g s1 s2):
 aI aj 112 #[.pointer (some b)] w (λv w'=>v=.tuple #[]/\∃c:ad,fk w' b n f f s1 c/\af (gE b s1 s2) w w'/\∀k,gE b s1 c k->gE b s1 s2 k\/w.heap.size<=k):=by
 have m:=h.bu;refine(CE h.bO h.now (λk a=>(h.d1 k a).1) I).mono ?_;rintro _ w' ⟨rfl,c,h1,h2,i,j,d⟩;refine⟨rfl,c,⟨h1,h2,i,λk a=>⟨(h.d1 k a).1,λl=>?_⟩,λk a e=>?_,h.b_,h.bu,h.pf,h.pf⟩,j.mono λk _ a=>.inl a,λk a=>?_⟩
 .have:=d k l;have:=h.now.lt k a;omega
 .have:=d k a;have:=h.bO.lt;omega
 .rcases a with rfl|a|a
  .exact .inl (.inl rfl)
  .exact .inl (.inr (.inl a))
  .exact .inr (d k a)
def q2(x:Nat):Nat:=(x.testBit 0).toNat+(x.testBit 1).toNat+(x.testBit 2).toNat+(x.testBit 3).toNat+(x.testBit 4).toNat+(x.testBit 5).toNat+(x.testBit 6).toNat+(x.testBit 7).toNat
def eS(t:Nat->al):Nat->Nat
 |0=>0
 |k+1=>eS t k+(t k).toNat
theorem nG(t:Nat->al):∀k,eS t k<=k
 |0=>bl _
 |k+1=>by have:=nG t k;have:=Bool.toNat_le (t k);simp only[eS];omega
theorem H6(t:Nat->al)(i:Nat):eS t (8*(i+1))=eS t (8*i)+q2 (byteOf t i):=by
 have h:∀j,j<8->(byteOf t i).testBit j=t (8*i+j):=λj a=>pd t i j a;unfold q2;rw[h 0 I,h 1 I,h 2 I,h 3 I,h 4 I,h 5 I,h 6 I,h 7 I];show eS t (8*i+7+1)=_;simp only[eS,ly];omega
theorem CF(t:Nat->al)(n:Nat)(h:∀i,n<=i->t i=false):∀k,eS t (n+k)=eS t n
 |0=>rfl
 |k+1=>by
  have:=CF t n h k
  show eS t (n+k)+(t (n+k)).toNat=_
  rw[this,h (n+k) I]
  rfl
theorem H7:∀x:Nat,x<256->(w4 (ByteArray.mk #[0,1,1,2,1,2,2,3,1,2,2,3,2,3,3,4,1,2,2,3,2,3,3,4,2,3,3,4,3,4,4,5,1,2,2,3,2,3,3,4,2,3,3,4,3,4,4,5,2,3,3,4,3,4,4,5,3,4,4,5,4,5,5,6,1,2,2,3,2,3,3,4,2,3,3,4,3,4,4,5,2,3,3,4,3,4,4,5,3,4,4,5,4,5,5,6,2,3,3,4,3,4,4,5,3,4,4,5,4,5,5,6,3,4,4,5,4,5,5,6,4,5,5,6,5,6,6,7,1,2,2,3,2,3,3,4,2,3,3,4,3,4,4,5,2,3,3,4,3,4,4,5,3,4,4,5,4,5,5,6,2,3,3,4,3,4,4,5,3,4,4,5,4,5,5,6,3,4,4,5,4,5,5,6,4,5,5,6,5,6,6,7,2,3,3,4,3,4,4,5,3,4,4,5,4,5,5,6,3,4,4,5,4,5,5,6,4,5,5,6,5,6,6,7,3,4,4,5,4,5,5,6,4,5,5,6,5,6,6,7,4,5,5,6,5,6,6,7,5,6,6,7,6,7,7,8]) x).map (·.toNat)=some (q2 x):=by decide+kernel
theorem CG(x:Nat):q2 x<=8:=by
 unfold q2;have h:∀b:al,b.toNat<=1:=Bool.toNat_le;have:=h (x.testBit 0);have:=h (x.testBit 1);have:=h (x.testBit 2);have:=h (x.testBit 3);have:=h (x.testBit 4);have:=h (x.testBit 5);have:=h (x.testBit 6);have:=h (x.testBit 7);omega
theorem H8(w:J)(x:Nat)(hx:x<256):aI aj 181 #[.int .u8 x] w (λv w'=>v=.int .i64 (q2 x)/\w=w'):=by
 refine okF (ae.ui x) ax.ui func181 ?_;delta ae.ui aq;have h:=H7 x hx;refine⟨I,?_⟩
 cases a:w4 _ x with
 |none=>rw[a]at h;cases h
 |some y=>
  rw[a]at h;simp only[l4,Option.some.injEq]at h;refine⟨y,a,?_,rfl⟩;rw[h,br I (by have:=CG x;omega)]
theorem H9(f g:Nat->al)(i:Nat):byteOf f i|||byteOf g i=byteOf (λk=>f k||g k) i:=
 yU _ _ _ (yV _ (kM _ _) _ (kM _ _)) λj a=>by rw[mN,pd _ _ _ a,pd _ _ _ a]
theorem yZ(h:fk w b n f g s1 s2):
 aI aj 129 #[.pointer (some b)] w (λv w'=>v=.int .i64 ((n:Int)-eS (λi=>f i||g i) n)/\Ext w w'):=by
 have p:=h.bu;have q:=wj h.now;have s:=wj h.sure;refine ae.Fm _ w _ ?_;(delta ae.sd an ak aG r1 aP du bX aq;dsimp only);refine⟨λh1=>by simp at h1,λ_=>⟨_,rfl,n,h.bV,_,rfl,s1,h.aU,λr i w'=>∃k:Nat,i=k/\k<=s1.len/\Ext w w'/\r=(n:Int)-eS (λi=>f i||g i) (8*k),λ_ i _=>((s1.len:Int)-i).toNat,⟨0,rfl,I,.refl _ _,by simp[eS]⟩,?_⟩⟩;rintro _ _ w1 ⟨k,rfl,t,hx,rfl⟩;refine⟨λaH=>?_,λc=>?_⟩
 .have d:k<s1.len:=by simpa using aH
  have h1:=h.ext hx.drew;obtain⟨cy,aU,j,u,_,_,_,l,_⟩:=h1.now.cell (pe f (i:=k) I);obtain⟨b4,ba,m,x,_,_,_,o,_⟩:=h1.sure.cell (pe g (i:=k) I);have a:∀b:Nat,(Addr.mk b 0 none).add (Int.toNat (k:Int)*1)=⟨b,k,none⟩:=λb=>by rw[fw,di,aA,cT]
  refine⟨λ_=>False,_,rfl,by simp,s1,h1.aU,_,j,I,by simp,_,by rw[a];exact l,_,rfl,by simp,s2,h1.ba,_,m,I,by simp,_,by rw[a];exact o,?_⟩;rw[HM _ _ (kM _ _) (kM _ _),H9];refine(H8 _ _ (kM _ _)).use ?_;rintro _ _ ⟨rfl,rfl⟩;have:=CG (byteOf (λi=>f i||g i) k);have:=nG (λi=>f i||g i) (8*k);refine⟨_,rfl,.refl _ _,?_⟩;rw[br (n:=(n:Int)-_-_) I I,br (n:=(k:Int)+1) I I];exact⟨⟨k+1,I,I,hx.drew,by rw[H6];omega⟩,(show((s1.len:Int)-((k:Int)+1)).toNat<((s1.len:Int)-(k:Int)).toNat from I)⟩
 .have d:k=s1.len:=by
   have:¬(k:Int)<s1.len:=by simpa using c
   omega
  refine⟨?_,hx⟩;have e:8*k=n+(8*k-n):=by omega
  rw[e,CF _ _ (λi hi=>by simp[h.pf i hi,h.cJ i hi])]
theorem CH(h:fk w b n f g s1 s2):
 aI aj 57 #[.pointer (some b)] w (λv w'=>∃s:ad,v=s/\aV 1 5 w' s (e1 f ((n+7)/8))/\Ext w w'/\∀k,aB s k->w.heap.size<=k):=by
 have a:=h.bu;refine ae.Fe _ w _ ?_;(delta ae.r8 uf ak r1 bG;dsimp only);refine⟨λh1=>by simp at h1,λ_=>⟨_,rfl,s1,h.aU,(H4 h.now.src (CD f _) (by rw[wj h.now];omega)).use ?_⟩⟩;rintro _ ai ⟨s,rfl,h2,hx,hf⟩;exact⟨s,rfl,s,rfl,h2,hx,hf⟩
end
theorem H_(w:J)(n:Int):aI aj 109 #[n] w (λv w'=>v=.bool (decide (1<=n/\n<=1600))/\w=w'):=by
 refine okF (ae.uT n) ax.uT func109 ?_;unfold ae.uT;refine⟨?_,rfl⟩;simp[Bool.decide_and]
theorem Ia(w:J)(n:Nat)(a:n<=1600):aI aj 110 #[n] w (λv w'=>v=.int .i64 (((n+7)/8:Nat):Int)/\w=w'):=by
 refine okF (ae.uU n) ax.uU func110 ?_;delta ae.uU aq;refine⟨by decide,?_,rfl⟩;rw[br (n:=(n:Int)+8) I I,br (n:=(n:Int)+8-1) I I,show(n:Int)+8-1=((n+7:Nat):Int) from I,Cu,br I I]
theorem Ib(m:Nat):e1 (λi=>decide (i<0)) m=List.replicate m (.int .u8 0):=by
 apply mV
 .simp[e1]
 .intro i h1 h2
  simp[e1,byteOf,lp]
theorem Ic(j:Nat):dt (λi=>decide (i<j)) j true=λi=>decide (i<j+1):=by
 funext i;unfold dt;split
 .rename_i h;simp[h]
 .rename_i h;simp;omega
theorem qh(w:J)(n first:Int):
 aI aj 54 #[.int .i64 n,.int .i64 first] w (λv w'=>(¬(1<=n/\n<=1600/\0<=first/\first<=n)/\v=.tuple #[.pointer none,.int .i64 1]/\w=w')\/
  (1<=n/\n<=1600/\0<=first/\first<=n/\∃b s1 s2,v=.tuple #[.pointer (some ⟨b,0,none⟩),.int .i64 0]/\fk w' b n.toNat (λi=>decide (i<first.toNat)) (λi=>decide (i<first.toNat)) s1 s2/\Ext w w'/\∀k,gE b s1 s2 k->w.heap.size<=k)):=by
 refine okF (ae.qh n first) ax.qh func54 ?_;(delta ae.qh an b8 ak bX kH Y r1 gQ aq;dsimp only);refine(H_ w n).use ?_;rintro _ _ ⟨rfl,rfl⟩;refine⟨_,rfl,λh=>.inl ⟨λhc=>?_,rfl,rfl⟩,λh=>?_⟩
 .simp at h;omega
 simp at h;obtain⟨⟨⟨E,F⟩,G⟩,H⟩:=h;obtain⟨n,rfl⟩:=wS (by omega:0<=n);obtain⟨first,rfl⟩:=wS (by omega:0<=first);refine(Ia w n I).use ?_;rintro _ _ ⟨rfl,rfl⟩;refine⟨_,rfl,I,?_⟩;simp only[di];rw[H2];obtain⟨m,f⟩:∃m,m=(n+7)/8:=⟨_,rfl⟩;rw[←f];have l:=aV.new (sz:=1) (T:=5) w (List.replicate m (.int .u8 0)) m (by simp) (by show m<=2^63-1;omega);rw[←Ib]at l⊢;have ar:Ext w (w.alloc (.cells (e1 (λi=>decide (i<0)) m).toArray 5)):=af.alloc (.refl _ _) _;generalize s:w.alloc (.cells (e1 (λi=>decide (i<0)) m).toArray 5)=w1 at*;have K:w1.heap.size=w.heap.size+1:=by rw[←s];simp
 have t:=bp.new w1 #[.int .i64 (n:Int),.slice (some ⟨w.heap.size,0,none⟩) m m,.slice none 0 0] 209;have u:=af.alloc ar (.cells #[.int .i64 (n:Int),.slice (some ⟨w.heap.size,0,none⟩) m m,.slice none 0 0] 209);have x:=l.ext (af.alloc (.refl _ w1) (.cells #[.int .i64 (n:Int),.slice (some ⟨w.heap.size,0,none⟩) m m,.slice none 0 0] 209));refine⟨λi w'=>∃j:Nat,i=j/\j<=first/\Ext w w'/\bp w' w1.heap.size #[.int .i64 (n:Int),.slice (some ⟨w.heap.size,0,none⟩) m m,.slice none 0 0] 209/\
  aV 1 5 w' ⟨some ⟨w.heap.size,0,none⟩,m,m⟩ (e1 (λi=>decide (i<j)) m),λi _=>((first:Int)-i).toNat,⟨0,rfl,I,u,t,x⟩,?_⟩
 rintro _ ai ⟨j,rfl,L,hx,d,o⟩;refine⟨λaH=>?_,λy=>?_⟩
 .have p:j<first:=by simpa using aH
  refine⟨_,rfl,⟨some ⟨w.heap.size,0,none⟩,m,m⟩,by rw[aA,d.cell];rfl,(Cw o (k:=j) I I).use ?_⟩;rintro _ z ⟨rfl,q,hc⟩;rw[Ic]at q;rw[br I I];refine⟨rfl,⟨j+1,I,I,?_,d.ah hc ?_,q⟩,(show((first:Int)-((j:Int)+1)).toNat<((first:Int)-(j:Int)).toNat from I)⟩
  .exact((af.cW hx).trans hc).mono λk a c=>by rw[ji]at c;simp at c;omega
  .intro c
   rw[ji]at c;simp at c;omega
 .have p:j=first:=by
   have:¬(j:Int)<first:=by simpa using y
   omega
  subst p;have r:∀i,n<=i->decide (i<j)=false:=λi hi=>by simp;omega
  refine(CE d o (λk a e=>?_) I).use ?_
  .rw[ji]at a
   simp at a;omega
  rintro _ z ⟨rfl,A,h1,h2,B,C,g⟩;have M:=d.lt;refine⟨rfl,.inr ⟨I,I,I,I,w1.heap.size,⟨some ⟨w.heap.size,0,none⟩,m,m⟩,A,rfl,⟨h1,?_,?_,λk a=>⟨λe=>?_,λD=>?_⟩,λk a e=>?_,I,I,r,r⟩,?_,?_⟩⟩
  .simp only[←f];exact h2
  .simp only[←f];exact B
  .rw[ji]at a
   simp at a;omega
  .rw[ji]at a
   simp at a;have:=g k D;omega
  .have:=g k a
   omega
  .exact((af.cW hx).trans C).mono λk a e=>by omega
  .rintro k (rfl|a|a)
   .omega
   .rw[ji]at a
    simp at a;omega
   .have:=g k a
    have:=hx.size;omega
structure Fr where
 full:al
 gg:al
 used:al
 no:Int
 pins:Int
 b:ad
 l:de
def Fr.c(f:Fr):O aa:=[f.full,f.gg,f.used,f.no,f.pins,f.b]
def dw:Fr:=⟨false,false,false,0,0,⟨none,0,0⟩,[]⟩
structure b3 where
 c:Nat
 aW:Nat
 ao:O Fr
 hand:Nat
 D:bc
def c9(C:b3)(q:Nat):Prop:=q=C.c\/q=C.aW\/cn C.D q
structure fb(w:J)(C:b3):Prop where
 v:Var w C.c [.pointer (some C.D.d),.slice (some C.aW) C.ao.length C.ao.length,C.hand] 268
 f:bp w C.aW (bz Fr.c C.ao).toArray 275
 dev:df w C.D
 b9:8<=C.ao.length
 cq:C.ao.length<=64
 hd:C.hand<C.ao.length
 a1:C.c≠C.aW/\¬cn C.D C.c/\¬cn C.D C.aW
structure CI(X:Nat->Prop)(w:J)(C:b3)(f:Fr)(no:Nat):Prop where
 num:f.no=no
 lt:no<C.D.n
 y0:bw (λq=>¬c9 C q/\¬X q) w f.b f.l
 len:f.l.length=256
 clean:f.gg=false->f.l=C.D.now no
 b6:C.D.b6 no=true->f.gg=false
 two:2<=no
structure gu(X:Nat->Prop)(w:J)(C:b3):Prop where
 pins:∀f∈C.ao,f.pins=0
 ok:∀f∈C.ao,f.full=true->∃no:Nat,CI X w C f no
 un:∀ (i j:Nat) (hi:i<C.ao.length) (a:j<C.ao.length),(C.ao[i]).full=true->(C.ao[j]).full=true->(C.ao[i]).no=(C.ao[j]).no->i=j
 fc:∀q,X q->q<w.heap.size/\¬c9 C q
 pg:∀j,C.D.b6 j=true->C.D.fa j=C.D.eI j
def kN(aE D:bc):Prop:=aE.n=D.n/\(∀j,aE.b6 j=true->D.b6 j=true)/\∀j,aE.b6 j=true->aE.fa j=aE.eI j
theorem gu.sN{X:Nat->Prop}{w:J}{C:b3}(h:gu X w C):kN C.D C.D:=⟨rfl,λ_ h=>h,h.pg⟩
theorem gu.cF{X:Nat->Prop}{w:J}{C:b3}(h:gu X w C)(k:Nat):kN (C.D.cF k) C.D:=⟨rfl,λ_ h=>h,h.pg⟩
structure ec(X:Nat->Prop)(w:J)(C:b3):Prop where
 raw:fb w C
 inv:gu X w C
def b3.view(C:b3)(no:Nat):de:=match C.ao.find? λf=>f.full&&f.no==(no:Int) with
 |some f=>f.l
 |none=>C.D.now no
theorem Fr.bq(f:Fr):f.c.length=6:=rfl
theorem wk(l:O Fr):∀x∈l,(Fr.c x).length=6:=λx _=>rfl
section
variable {w w':J}{C:b3}{X:Nat->Prop}
theorem fb.lt(h:fb w C){q:Nat}(a:c9 C q):q<w.heap.size:=by
 rcases a with rfl|rfl|a
 .exact h.v.lt
 .exact bp.lt h.f
 .exact h.dev.lt a
theorem fb.ah{W:Nat->Prop}(h:fb w C)(hc:af W w w')(a:∀q,c9 C q->¬W q):fb w' C:=
 ⟨h.v.ah hc (a _ (.inl rfl)),bp.ah h.f hc (a _ (.inr (.inl rfl))),h.dev.ah hc λq b=>a q (.inr (.inr b)),h.b9,h.cq,h.hd,h.a1⟩
theorem fb.ext(h:fb w C)(hc:Ext w w'):fb w' C:=h.ah hc λ_ _ h=>h
theorem gu.ah{W:Nat->Prop}(h:gu X w C)(hc:af W w w')(b:∀q,W q->c9 C q\/X q):gu X w' C:=
 ⟨h.pins,λf hf c=>by
  obtain⟨no,aw,ay,d,e,g,i,j⟩:=h.ok f hf c
  exact⟨no,aw,ay,bw.ah d hc λq a k=>by
   rcases b q k with h1|h1
   .exact a.1 h1
   .exact a.2 h1,e,g,i,j⟩,h.un,λq a=>⟨ff (h.fc q a).1 hc.size,(h.fc q a).2⟩,h.pg⟩
theorem ec.ah{W:Nat->Prop}(h:ec X w C)(hc:af W w w')(b:∀q,W q->X q):ec X w' C:=
 ⟨h.raw.ah hc λq c a=>(h.inv.fc q (b q a)).2 c,h.inv.ah hc λq a=>.inr (b q a)⟩
theorem ec.ext(h:ec X w C)(hc:Ext w w'):ec X w' C:=h.ah hc λ_ h=>h.elim
theorem sO(aW i:Nat):Addr.add aW (Int.toNat (i:Int)*6)=⟨aW,i*6,none⟩:=by rw[di,aA,cT]
theorem fb.cells(h:fb w C):w.cell? C.c=some (.pointer (some C.D.d))/\w.cell? (Addr.add C.c 1)=some (.slice (some C.aW) C.ao.length C.ao.length)/\w.cell? (Addr.add C.c 2)=some (.int .i64 C.hand):=by
 rw[aA,aA];exact⟨h.v.cell,h.v.cell,h.v.cell⟩
theorem kp{w:J}{aW:Nat}{fs:O Fr}{T:TypeId}(h:bp w aW (bz Fr.c fs).toArray T){i j:Nat}(hi:i<fs.length)(a:j<6):w.cell? ⟨aW,i*6+j,none⟩=((fs[i]).c)[j]? :=by
 rw[bp.cell h];simp only[ri];exact wc (wk fs) hi a
theorem nH{w:J}{aW:Nat}{fs:O Fr}{T:TypeId}(h:bp w aW (bz Fr.c fs).toArray T){i j:Nat}(hi:i<fs.length)(a:j<6){v:aa}(b:Fr)(hf:b.c=(fs[i]).c.set j v):
 (∃u:aa,w.cell? ⟨aW,i*6+j,none⟩=some u)/\w.frozen? ⟨aW,i*6+j,none⟩=false/\bp (w.setCell ⟨aW,i*6+j,none⟩ v) aW (bz Fr.c (fs.set i b)).toArray T/\af (λq=>q=aW) w (w.setCell ⟨aW,i*6+j,none⟩ v):=by
 refine⟨⟨((fs[i]).c)[j]'(by rw[Fr.bq];exact a),by rw[kp h hi a,dH (by rw[Fr.bq];exact a)]⟩,bp.frozen h _ rfl,?_,dZ _ _ _ _⟩;have:=eA (vs:=bz Fr.c fs) h (i:=i*6+j) v;rw[Hl (wk fs) hi a hf]at this;exact this
theorem y1{w:J}{aW:Nat}{fs:O Fr}{T:TypeId}(h:bp w aW (bz Fr.c fs).toArray T){i:Nat}(hi:i<fs.length)(a:Fr):
 bD w ⟨aW,i*6,none⟩ a.c/\bp (setCells w ⟨aW,i*6,none⟩ 0 a.c) aW (bz Fr.c (fs.set i a)).toArray T/\af (λq=>q=aW) w (setCells w ⟨aW,i*6,none⟩ 0 a.c):=by
 have f:=fD (c:=Fr.c) fs (wk fs);have d:i*6+a.c.length<=(bz Fr.c fs).toArray.size:=by
  rw[th,f,Fr.bq];omega
 refine⟨bp.cj h _ _ d ?_,?_,af.jK (.refl _ _) _ 0⟩
 .intro v b
  unfold Fr.c at b;simp only[cY,fo,fy]at b;rcases b with rfl|rfl|rfl|rfl|rfl|rfl<;>trivial
 .have h0:=bp.k9 (o:=i*6) h a.c
  have e:gl (bz Fr.c fs).toArray (i*6) a.c=(bz Fr.c (fs.set i a)).toArray:=by
   have h1:=k8 a.c (bz Fr.c fs).toArray (i*6) d;have h2:=Ce (wk fs) hi a;have g:a.c.length=6:=rfl;rw[g]at h1;have j:(gl (bz Fr.c fs).toArray (i*6) a.c).toList=bz Fr.c (fs.set i a):=h1.trans h2;rw[←j]
  rw[e]at h0;exact h0
theorem CJ(h:fb w C)(no:Int):aI aj 204 #[.pointer (some C.c),no] w (λv w'=>v=.bool (decide (0<=no/\no<C.D.n))/\w=w'):=by
 refine okF (ae.vh (some C.c) no) ax.vh func204 ?_;delta ae.vh ak bX;refine cw (λb w'=>b=decide (0<=no/\no<C.D.n)/\w=w') (λq d=>⟨λa=>⟨_,rfl,_,h.cells.1,(we h.dev).use ?_⟩,λa=>d _ _ ⟨?_,rfl⟩⟩) ?_
 .rintro _ _ ⟨rfl,rfl⟩
  have a:0<=no:=by simpa using a
  refine⟨_,rfl,d _ _ ⟨?_,rfl⟩⟩;rw[fv,cp,cp];exact⟨λh=>⟨a,h⟩,λh=>h.2⟩
 .have a:¬0<=no:=by simpa using a
  rw[h4 (λh=>a h.1)]
 .rintro _ _ ⟨rfl,rfl⟩
  exact⟨rfl,rfl⟩
def AtR(C:b3)(no:Int)(v:aa):Prop:=
 (∃ (i:Nat) (hi:i<C.ao.length),v=.pointer (some ⟨C.aW,i*6,none⟩)/\(C.ao[i]).full=true/\(C.ao[i]).no=no)\/
 (v=.pointer none/\∀f∈C.ao,f.full=true->f.no≠no)
theorem wm(h:fb w C)(no:Int):aI aj 180 #[.pointer (some C.c),no] w (λv w'=>AtR C no v/\w=w'):=by
 obtain⟨bV,aU,ba⟩:=h.cells;have d:=h.cq;refine okF (ae.vd (some C.c) no) ax.vd func180 ?_;(delta ae.vd ak r1 aP aT aG aq;dsimp only);refine⟨λh=>(by cases h),λ_=>⟨_,rfl,⟨some C.aW,C.ao.length,C.ao.length⟩,aU,λi w'=>∃j:Nat,i=j/\j<=C.ao.length/\w=w'/\∀ (k:Nat) (d:k<C.ao.length),k<j->(C.ao[k]).full=true->(C.ao[k]).no≠no,λi _=>((C.ao.length:Int)-i).toNat,⟨0,rfl,cP _,rfl,λk _ h=>I⟩,?_⟩⟩;rintro _ _ ⟨j,rfl,s,rfl,g⟩;refine⟨λaH=>?_,λe=>?_⟩
 .have aH:(j:Int)<(C.ao.length:Int):=cf aH
  have aH:j<C.ao.length:=by omega
  refine⟨_,rfl,⟨some C.aW,C.ao.length,C.ao.length⟩,aU,_,rfl,⟨I,by show(j:Int)<(C.ao.length:Int);omega⟩,_,rfl,?_⟩;rw[sO];have f0:=kp h.f aH (j:=0) (by decide);have f3:=kp h.f aH (j:=3) (by decide);refine⟨(C.ao[j]).full,f0,cw (λb w'=>w=w'/\(b=true↔((C.ao[j]).full=true/\(C.ao[j]).no=no))) (λq l=>⟨λa=>⟨_,rfl,(C.ao[j]).no,by rw[aA];exact f3,l _ _ ⟨rfl,?_⟩⟩,λa=>l _ _ ⟨rfl,?_⟩⟩) ?_⟩
  .rw[j2]
   exact⟨λh=>⟨a,h⟩,λh=>h.2⟩
  .rw[a]
   exact⟨λh=>(by cases h),λh=>(by cases h.1)⟩
  rintro b w' ⟨rfl,a⟩;refine⟨λh1=>⟨.inl ⟨j,aH,rfl,(a.1 h1).1,(a.1 h1).2⟩,rfl⟩,λh1=>?_⟩;rw[br (n:=(j:Int)+1) I I];refine⟨⟨j+1,I,I,rfl,λk d h2 m=>?_⟩,?_⟩
  .rcases ei k j with o|o
   .exact g k d o m
   .have:k=j:=by omega
    subst this;intro p;rw[a.2 ⟨m,p⟩]at h1;cases h1
  .show((C.ao.length:Int)-((j:Int)+1)).toNat<((C.ao.length:Int)-(j:Int)).toNat
   omega
 .have e:j=C.ao.length:=by
   have:¬((j:Int)<(C.ao.length:Int)):=cC e;omega
  subst e;refine⟨.inr ⟨rfl,λf hf r=>?_⟩,rfl⟩;obtain⟨k,d,rfl⟩:=e2 hf;exact g k d d r
theorem Ie(h:fb w C):aI aj 250 #[.pointer (some C.c)] w (λv w'=>((∃ (i:Nat) (hi:i<C.ao.length),v=.pointer (some ⟨C.aW,i*6,none⟩)/\(C.ao[i]).full=false)\/(v=.pointer none/\∀f∈C.ao,f.full=true))/\w=w'):=by
 obtain⟨bV,aU,ba⟩:=h.cells;have a:=h.cq;refine okF (ae.vq (some C.c)) ax.vq func250 ?_;(delta ae.vq r1 ak aP aT aq;dsimp only);refine⟨_,rfl,⟨some C.aW,C.ao.length,C.ao.length⟩,aU,λi w'=>∃j:Nat,i=j/\j<=C.ao.length/\w=w'/\∀ (k:Nat) (a:k<C.ao.length),k<j->(C.ao[k]).full=true,λi _=>((C.ao.length:Int)-i).toNat,⟨0,rfl,cP _,rfl,λk _ h=>I⟩,?_⟩;rintro _ _ ⟨j,rfl,l,rfl,e⟩;refine⟨λaH=>?_,λb=>?_⟩
 .have aH:(j:Int)<(C.ao.length:Int):=cf aH
  have aH:j<C.ao.length:=by omega
  have f0:=kp h.f aH (j:=0) (by decide);refine⟨_,rfl,⟨some C.aW,C.ao.length,C.ao.length⟩,aU,_,rfl,⟨I,by show(j:Int)<(C.ao.length:Int);omega⟩,(C.ao[j]).full,by rw[sO];exact f0,λd=>⟨_,rfl,⟨some C.aW,C.ao.length,C.ao.length⟩,aU,_,rfl,⟨I,by show(j:Int)<(C.ao.length:Int);omega⟩,.inl ⟨j,aH,by rw[sO],by simpa using d⟩,rfl⟩,λd=>?_⟩;rw[br (n:=(j:Int)+1) I I];refine⟨⟨j+1,I,I,rfl,λk a h2=>?_⟩,?_⟩
  .rcases ei k j with g|g
   .exact e k a g
   .have:k=j:=by omega
    subst this;simpa using d
  .show((C.ao.length:Int)-((j:Int)+1)).toNat<((C.ao.length:Int)-(j:Int)).toNat
   omega
 .have b:j=C.ao.length:=by
   have:¬((j:Int)<(C.ao.length:Int)):=cC b;omega
  subst b;refine⟨.inr ⟨rfl,λf hf=>?_⟩,rfl⟩;obtain⟨k,a,rfl⟩:=e2 hf;exact e k a a
def hU(fs gs:O Fr):Prop:=gs.length=fs.length/\∀ (i:Nat) (h1:i<fs.length) (h2:i<gs.length),gs[i]={fs[i] with used:=(gs[i]).used}
theorem hU.refl(fs:O Fr):hU fs fs:=⟨rfl,λi h1 h2=>rfl⟩
theorem hU.set{fs gs:O Fr}(h:hU fs gs){i:Nat}(hi:i<gs.length)(u:al):hU fs (gs.set i {gs[i] with used:=u}):=by
 refine⟨by rw[dr];exact h.1,λj h1 h2=>?_⟩;rw[nR];split
 .rename_i e
  subst e;have:=h.2 i h1 hi;rw[this]
 .exact h.2 j h1 _
theorem Ig(h:fb w C)(A:∀f∈C.ao,f.pins=0):aI aj 251 #[.pointer (some C.c)] w (λv w'=>∃ (i:Nat) (gs:O Fr) (hd:Nat),i<C.ao.length/\v=.pointer (some ⟨C.aW,i*6,none⟩)/\hU C.ao gs/\fb w' {C with ao:=gs,hand:=hd}/\af (λq=>q=C.c\/q=C.aW) w w'):=by
 obtain⟨bV,aU,ba⟩:=h.cells;have P:=h.b9;have Q:=h.cq;have B:=h.hd;refine okF (ae.vr (some C.c)) ax.vr func251 ?_;(delta ae.vr aG r1 ak aq aP aT st;dsimp only);refine⟨_,rfl,_,ba,_,rfl,⟨some C.aW,C.ao.length,C.ao.length⟩,aU,λat' i w'=>∃ (s:Nat) (gs:O Fr),i=s/\s<=C.ao.length/\at'=(((C.hand+s)%C.ao.length:Nat):Int)/\hU C.ao gs/\fb w' {C with ao:=gs}/\af (λq=>q=C.c\/q=C.aW) w w'/\∀ (t:Nat) (hx:(C.hand+t)%C.ao.length<gs.length),t<s->(gs[(C.hand+t)%C.ao.length]).used=false,
  λ_ i _=>(2*(C.ao.length:Int)-i).toNat,⟨0,C.ao,rfl,cP _,by rw[ly,j4 B],hU.refl _,h,.refl _ _,λt _ h=>I⟩,?_⟩
 rintro _ _ w1 ⟨s,gs,rfl,hs,rfl,l,b,hc,p⟩;have r:gs.length=C.ao.length:=l.1;obtain⟨i,hi⟩:∃i,i=(C.hand+s)%C.ao.length:=⟨_,rfl⟩;have d:i<gs.length:=by rw[hi,r];exact g8 _ I
 rw[←hi];obtain⟨d0,d1,d2⟩:=b.cells;have d1:w1.cell? (Addr.add C.c 1)=some (.slice (some C.aW) gs.length gs.length):=d1;have hf:bp w1 C.aW (bz Fr.c gs).toArray 275:=b.f;rw[br (n:=2*(C.ao.length:Int)) I I];have D:IntKind.wrap .i64 ((i:Int)+1)=((i+1:Nat):Int):=by rw[br I I];rfl
 have u:Int.tmod ((i+1:Nat):Int) (gs.length:Int)=(((i+1)%gs.length:Nat):Int):=by
  rw[mT I];rfl
 have E:(i+1)%gs.length=(C.hand+(s+1))%C.ao.length:=by
  rw[hi,r,Nat.mod_add_mod];rfl
 refine⟨λaH=>?_,λF=>?_⟩
 .refine cw (λa w'=>a=(((C.hand+(s+1))%C.ao.length:Nat):Int)/\∃g:O Fr,s+1<=C.ao.length/\hU C.ao g/\fb w' {C with ao:=g}/\af (λq=>q=C.c\/q=C.aW) w w'/\∀ (t:Nat) (hx:(C.hand+t)%C.ao.length<g.length),t<s+1->(g[(C.hand+t)%C.ao.length]).used=false) (λq k=>⟨_,rfl,⟨some C.aW,gs.length,gs.length⟩,d1,_,rfl,⟨I,by show(i:Int)<(gs.length:Int);omega⟩,_,rfl,⟨some C.aW,gs.length,gs.length⟩,d1,by show(gs.length:Int)≠0;omega,_,rfl,?_⟩) ?_
  .rw[sO,D]
   have f4:=kp hf d (j:=4) (by decide);have f2:=kp hf d (j:=2) (by decide);have G:(gs[i]).pins=0:=by
    have h1:=l.2 i I d;have h2:(gs[i]).pins=(C.ao[i]'I).pins:=by rw[h1]
    rw[h2];exact A _ (cL _)
   refine⟨(gs[i]).pins,by rw[aA];exact f4,λx=>?_,λ_=>⟨_,rfl,(gs[i]).used,by rw[aA];exact f2,λhu=>⟨_,rfl,?_⟩,λhu=>⟨_,rfl,?_⟩⟩⟩
   .rw[G]at x;simp at x
   .have H:s<C.ao.length:=by
     rcases ei s C.ao.length with h1|h1
     .exact h1
     .have es:s=C.ao.length:=by omega
      have y:(C.hand+0)%C.ao.length=i:=by rw[hi,es,Nat.add_mod_right];rfl
      have h2:=p 0 (by rw[y];exact d) I;have m:(gs[i]).used=false:=by
       have e:gs[(C.hand+0)%C.ao.length]'(by rw[y];exact d)=gs[i]:=by congr 1
       rw[←e];exact h2
      rw[m]at hu;cases hu
    obtain⟨aw,ay,J,o⟩:=nH hf d (j:=2) (by decide) (v:=false) {gs[i] with used:=false} rfl;rw[aA];refine⟨aw,ay,aX (k _ _ ⟨by rw[u,E],gs.set i {gs[i] with used:=false},H,l.set d false,?_,hc.trans (o.mono λq _ e=>.inr e),λt hx ht=>?_⟩)⟩
    .have K:=b.v.ah o h.a1.1
     refine⟨?_,J,b.dev.ah o (λq k e=>h.a1.2.2 (e▸k)),?_,?_,?_,h.a1⟩
     .show Var _ _ [_,.slice (some C.aW) (gs.set i _).length (gs.set i _).length,_] _
      rw[dr];exact K
     .show 8<=(gs.set i _).length;rw[dr];omega
     .show(gs.set i _).length<=64;rw[dr];omega
     .show C.hand<(gs.set i _).length;rw[dr];omega
    .rw[nR]
     split
     .rfl
     .rename_i L
      rcases ei t s with h1|h1
      .exact p t _ h1
      .have:t=s:=by omega
       subst this;exact absurd hi L
   .obtain⟨s1,s2⟩:=eB b.v (i:=2) (by simp)
    rw[aA,u];refine⟨s1,s2,aX ⟨i,gs,(i+1)%gs.length,I,rfl,l,?_,hc.trans ((dZ _ _ _ _).mono λq _ e=>.inl e)⟩⟩;have z:=dZ w1 C.c 2 (.int .i64 (((i+1)%gs.length:Nat):Int));refine⟨eA b.v (i:=2) (.int .i64 (((i+1)%gs.length:Nat):Int)),bp.ah hf z (λe=>h.a1.1 e.symm),b.dev.ah z (λq k e=>h.a1.2.1 (e▸k)),b.b9,b.cq,?_,h.a1⟩;exact g8 _ I
  .rintro a w' ⟨rfl,g,h1,h2,m,M,N⟩
   rw[br (n:=(s:Int)+1) I I];refine⟨⟨s+1,g,I,h1,rfl,h2,m,M,N⟩,?_⟩;show(2*(C.ao.length:Int)-((s:Int)+1)).toNat<(2*(C.ao.length:Int)-(s:Int)).toNat;omega
 .have:=cC F
  omega
end
structure er(C aJ:b3)(w w':J)(k:Nat):Prop where
 c:aJ.c=C.c
 d:aJ.D.d=C.D.d
 len:aJ.ao.length=C.ao.length
 b5:aJ.D.key=C.D.key
 a7:aJ.D.a7<=C.D.a7+k
 calm:∀m,C.D.calm (m+k)->aJ.D.calm m
 ah:af (c9 C) w w'
 c1:∀q,c9 aJ q->c9 C q\/w.heap.size<=q
theorem er.refl(C:b3)(w:J):er C C w w 0:=⟨rfl,rfl,rfl,rfl,bl _,λ_ h=>h,.refl _ _,λ_ h=>.inl h⟩
theorem er.ext{w w':J}(C:b3)(h:Ext w w'):er C C w w' 0:=⟨rfl,rfl,rfl,rfl,bl _,λ_ h=>h,af.cW h,λ_ h=>.inl h⟩
theorem er.trans{C aJ a:b3}{w w' b:J}{k l:Nat}(h1:er C aJ w w' k)(h2:er aJ a w' b l):er C a w b (k+l):=by
 have hs:=h1.ah.size;refine⟨h2.c.trans h1.c,h2.d.trans h1.d,h2.len.trans h1.len,h2.b5.trans h1.b5,by have:=h1.a7;have:=h2.a7;omega,λm f=>h2.calm m (h1.calm (m+l) (by rw[show m+l+k=m+(k+l) from I];exact f)),c0 h1.ah h2.ah λq e h=>(h1.c1 q h).resolve_right I,λq e=>?_⟩;rcases h2.c1 q e with h|h
 .exact h1.c1 q h
 .exact .inr I
theorem er.mono{C aJ:b3}{w w':J}{k l:Nat}(h:er C aJ w w' k)(b:k<=l):er C aJ w w' l:=
 ⟨h.c,h.d,h.len,h.b5,by have:=h.a7;omega,λm a=>h.calm m (gf a I),h.ah,h.c1⟩
theorem er.b6{C aJ:b3}{w w':J}{k:Nat}(h:er C aJ w w' k):aJ.D.b6=C.D.b6:=congrArg (λk:(O de×(Nat->al)×(Nat->O de)×(Int->Prop)×al)×Int=>k.1.2.1) h.b5
theorem er.ph{C aJ:b3}{w w':J}{k:Nat}(h:er C aJ w w' k):aJ.D.b6=C.D.b6/\aJ.D.eI=C.D.eI:=⟨h.b6,congrArg (λk:(O de×(Nat->al)×(Nat->O de)×(Int->Prop)×al)×Int=>k.1.2.2.1) h.b5⟩
theorem er.n{C aJ:b3}{w w':J}{k:Nat}(h:er C aJ w w' k):aJ.D.n=C.D.n:=congrArg (λk:(O de×(Nat->al)×(Nat->O de)×(Int->Prop)×al)×Int=>k.1.1.length) h.b5
section
variable {w w':J}{C:b3}{X:Nat->Prop}
theorem mC{fs:O Fr}{D:bc}{c aW hd:Nat}(un:∀ (i j:Nat) (hi:i<fs.length) (d:j<fs.length),(fs[i]).full=true->(fs[j]).full=true->(fs[i]).no=(fs[j]).no->i=j){i:Nat}(hi:i<fs.length){no:Nat}(hf:(fs[i]).full=true)(e:(fs[i]).no=no):(b3.mk c aW fs hd D).view no=(fs[i]).l:=by
 unfold b3.view
 cases a:fs.find? λf=>f.full&&f.no==(no:Int) with
 |none=>
  have:=jE.1 a _ (cL hi);simp[hf,e]at this
 |some f=>
  have g:=je a;have b:=j6 a;simp only[c5,j2]at b;obtain⟨j,d,rfl⟩:=e2 g;have:=un i j hi d hf b.1 (by rw[e,b.2]);subst this;simp only
theorem nI{fs:O Fr}{D:bc}{c aW hd:Nat}{no:Nat}(h:∀f∈fs,f.full=true->f.no≠no):(b3.mk c aW fs hd D).view no=D.now no:=by
 unfold b3.view
 cases b:fs.find? λf=>f.full&&f.no==(no:Int) with
 |none=>rfl
 |some f=>
  have d:=je b;have a:=j6 b;simp only[c5,j2]at a;exact absurd a.2 (h f d a.1)
theorem wo(D:bc)(k i:Nat):(D.cF k).now i=D.now i:=rfl
theorem bw.re{B b:Nat->Prop}{w w':J}{t:ad}{l:Key}{V:Nat->Prop}(h:bw B w t l)(hc:af V w w')(c:∀q,q<w.heap.size->B q->¬V q)(d:∀q,q<w.heap.size->B q->b q):bw b w' t l:=
 ⟨h.1.ah hc λq a=>c q (h.2.2 q a).2 (h.2.2 q a).1,h.2.1,λq a=>⟨d q (h.2.2 q a).2 (h.2.2 q a).1,ff (h.2.2 q a).2 hc.size⟩⟩
theorem sP{gs:O Fr}{hd:Nat}{aE:bc}{V:Nat->Prop}(h:gu X w C)(hs:hU C.ao gs)(hc:af V w w')(gd:∀q,q<w.heap.size->V q->c9 C q)(m:kN aE C.D)(u:∀i,aE.now i=C.D.now i)(v:∀q,cn aE q->cn C.D q\/w.heap.size<=q):gu X w' {C with ao:=gs,hand:=hd,D:=aE}:=by
 have x:=hc.size;have r:∀q,q<w.heap.size->c9 {C with ao:=gs,hand:=hd,D:=aE} q->c9 C q:=λq a hf=>by
  rcases hf with h1|h1|h1
  .exact .inl h1
  .exact .inr (.inl h1)
  .exact .inr (.inr ((v q h1).resolve_right I))
 have g:∀ (i:Nat) (hi:i<gs.length),∃c:i<C.ao.length,gs[i]={C.ao[i] with used:=(gs[i]).used}:=λi hi=>⟨by rw[←hs.1];exact hi,hs.2 i (by rw[←hs.1];exact hi) hi⟩;refine⟨λf hf=>?_,λf hf y=>?_,λi j hi z h1 h2 A=>?_,λq a=>⟨ff (h.fc q a).1 x,λhf=>(h.fc q a).2 (r q (h.fc q a).1 hf)⟩,m.2.2⟩
 .obtain⟨i,hi,rfl⟩:=e2 hf
  obtain⟨c,e⟩:=g i hi;have:(gs[i]).pins=(C.ao[i]).pins:=by rw[e]
  rw[this];exact h.pins _ (cL c)
 .obtain⟨i,hi,rfl⟩:=e2 hf
  obtain⟨c,e⟩:=g i hi;have n:(gs[i]).full=(C.ao[i]).full:=by rw[e]
  have o:(gs[i]).no=(C.ao[i]).no:=by rw[e]
  have p:(gs[i]).b=(C.ao[i]).b:=by rw[e]
  have d:(gs[i]).l=(C.ao[i]).l:=by rw[e]
  have s:(gs[i]).gg=(C.ao[i]).gg:=by rw[e]
  obtain⟨no,aw,ay,B,E,F,G,H⟩:=h.ok _ (cL c) (by rw[←n];exact y);refine⟨no,by rw[o];exact aw,by rw[m.1];exact ay,?_,by rw[d];exact E,λhd=>by rw[d,u];exact F (by rw[←s];exact hd),λhs=>by rw[s];exact G (m.2.1 _ hs),H⟩;rw[p,d];exact bw.re B hc (λq a k J=>k.1 (gd q a J)) λq a k=>⟨λhf=>k.1 (r q a hf),k.2⟩
 .obtain⟨c,e⟩:=g i hi
  obtain⟨K,t⟩:=g j z;have n:(gs[i]).full=(C.ao[i]).full:=by rw[e]
  have o:(gs[i]).no=(C.ao[i]).no:=by rw[e]
  have p:(gs[j]).full=(C.ao[j]).full:=by rw[t]
  have d:(gs[j]).no=(C.ao[j]).no:=by rw[t]
  exact h.un i j c K (by rw[←n];exact h1) (by rw[←p];exact h2) (by rw[←o,←d];exact A)
theorem sQ{gs:O Fr}{hd:Nat}{aE:bc}(h:gu X w C)(hs:hU C.ao gs)(r:∀i,aE.now i=C.D.now i)(no:Nat):(b3.mk C.c C.aW gs hd aE).view no=C.view no:=by
 have d:∀ (i:Nat) (hi:i<gs.length),∃g:i<C.ao.length,gs[i]={C.ao[i] with used:=(gs[i]).used}:=λi hi=>⟨by rw[←hs.1];exact hi,hs.2 i (by rw[←hs.1];exact hi) hi⟩;by_cases hex:∃ (i:Nat) (hi:i<C.ao.length),(C.ao[i]).full=true/\(C.ao[i]).no=no
 .obtain⟨i,hi,h1,h2⟩:=hex
  have n:i<gs.length:=by rw[hs.1];exact hi
  obtain⟨g,e⟩:=d i n;have k:(gs[i]).full=(C.ao[i]).full:=by rw[e]
  have m:(gs[i]).no=(C.ao[i]).no:=by rw[e]
  have s:(gs[i]).l=(C.ao[i]).l:=by rw[e]
  have t:∀ (i j:Nat) (hi:i<gs.length) (A:j<gs.length),(gs[i]).full=true->(gs[j]).full=true->(gs[i]).no=(gs[j]).no->i=j:=by
   intro a b u v b9 cq x;obtain⟨y,o⟩:=d a u;obtain⟨z,p⟩:=d b v;have f1:(gs[a]).full=(C.ao[a]).full:=by rw[o]
   have f2:(gs[a]).no=(C.ao[a]).no:=by rw[o]
   have f3:(gs[b]).full=(C.ao[b]).full:=by rw[p]
   have f4:(gs[b]).no=(C.ao[b]).no:=by rw[p]
   exact h.un a b y z (by rw[←f1];exact b9) (by rw[←f3];exact cq) (by rw[←f2,←f4];exact x)
  rw[mC t n (by rw[k];exact h1) (by rw[m];exact h2),s];exact(mC (fs:=C.ao) (D:=C.D) (c:=C.c) (aW:=C.aW) (hd:=C.hand) h.un hi h1 h2).symm
 .have q:∀f∈C.ao,f.full=true->f.no≠no:=λf hf h1 h2=>by
   obtain⟨i,hi,rfl⟩:=e2 hf;exact hex ⟨i,hi,h1,h2⟩
  have e:C.view no=C.D.now no:=nI (fs:=C.ao) (D:=C.D) (c:=C.c) (aW:=C.aW) (hd:=C.hand) q;rw[e,←r];refine nI λf hf h1 h2=>?_;obtain⟨i,hi,rfl⟩:=e2 hf;obtain⟨g,e⟩:=d i hi;have k:(gs[i]).full=(C.ao[i]).full:=by rw[e]
  have m:(gs[i]).no=(C.ao[i]).no:=by rw[e]
  exact q _ (cL g) (by rw[←k];exact h1) (by rw[←m];exact h2)
theorem y2{i:Nat}(hi:i<C.ao.length){aE:bc}{V:Nat->Prop}(h:gu X w C)(hc:af V w w')(gd:∀q,q<w.heap.size->V q->c9 C q)(l:kN aE C.D)
 (t:∀j:Nat,((C.ao[i]).full=true->(C.ao[i]).no≠j)->aE.now j=C.D.now j) (u:∀q,cn aE q->cn C.D q\/w.heap.size<=q) (f0:Fr) (m:f0.full=false) (v:f0.pins=0):gu X w' {C with ao:=C.ao.set i f0,D:=aE}:=by
 have x:=hc.size;have o:∀q,q<w.heap.size->c9 {C with ao:=C.ao.set i f0,D:=aE} q->c9 C q:=λq c hf=>by
  rcases hf with h1|h1|h1
  .exact .inl h1
  .exact .inr (.inl h1)
  .exact .inr (.inr ((u q h1).resolve_right I))
 refine⟨λf hf=>?_,λf hf d=>?_,λa b y g h1 h2 n=>?_,λq c=>⟨ff (h.fc q c).1 x,λhf=>(h.fc q c).2 (o q (h.fc q c).1 hf)⟩,l.2.2⟩
 .rcases mX hf with hf|rfl
  .exact h.pins f hf
  .exact v
 .obtain⟨k,z,rfl⟩:=e2 hf
  have p:k<C.ao.length:=by simpa using z
  by_cases e:i=k
  .subst e
   simp only[ir]at d;rw[m]at d;cases d
  .simp only[fp e]at d⊢
   obtain⟨no,aw,ay,A,B,E,F,G⟩:=h.ok _ (cL p) d;refine⟨no,aw,by rw[l.1];exact ay,bw.re A hc (λq c g H=>g.1 (gd q c H)) λq c g=>⟨λhf=>g.1 (o q c hf),g.2⟩,B,λhd=>?_,λhs=>F (l.2.1 _ hs),G⟩;show _=aE.now no;rw[t no λJ he=>e (h.un i k hi p J d (by rw[he,aw]))];exact E hd
 .have K:a<C.ao.length:=by simpa using y
  have L:b<C.ao.length:=by simpa using g
  by_cases r:i=a
  .subst r
   simp only[ir]at h1;rw[m]at h1;cases h1
  by_cases s:i=b
  .subst s
   simp only[ir]at h2;rw[m]at h2;cases h2
  simp only[fp r]at h1 n;simp only[fp s]at h2 n;exact h.un a b K L h1 h2 n
theorem CK{i:Nat}(hi:i<C.ao.length){aE:bc}{hd:Nat}(h:gu X w C)(v:(C.ao[i]).full=true->∀j:Nat,(C.ao[i]).no=j->aE.now j=(C.ao[i]).l)(x:∀j:Nat,((C.ao[i]).full=true->(C.ao[i]).no≠j)->aE.now j=C.D.now j)(f0:Fr)(m:f0.full=false)(no:Nat):
 (b3.mk C.c C.aW (C.ao.set i f0) hd aE).view no=C.view no:=by
 by_cases hex:∃ (k:Nat) (g:k<C.ao.length),(C.ao[k]).full=true/\(C.ao[k]).no=no
 .obtain⟨k,g,h1,h2⟩:=hex
  have o:=mC (fs:=C.ao) (D:=C.D) (c:=C.c) (aW:=C.aW) (hd:=C.hand) h.un g h1 h2;have o:C.view no=(C.ao[k]).l:=o;rw[o];by_cases e:i=k
  .subst e
   rw[←v h1 no h2];refine nI λf hf aw ay=>?_;obtain⟨a,n,rfl⟩:=e2 hf;have p:a<C.ao.length:=by simpa using n
   by_cases d:i=a
   .subst d
    simp only[ir]at aw;rw[m]at aw;cases aw
   .simp only[fp d]at aw ay
    exact d (h.un i a hi p h1 aw (by rw[h2,ay]))
  .have y:k<(C.ao.set i f0).length:=by simpa using g
   have q:(C.ao.set i f0)[k]=C.ao[k]:=fp e _;have z:∀ (a b:Nat) (n:a<(C.ao.set i f0).length) (t:b<(C.ao.set i f0).length),((C.ao.set i f0)[a]).full=true->((C.ao.set i f0)[b]).full=true->((C.ao.set i f0)[a]).no=((C.ao.set i f0)[b]).no->a=b:=by
    intro a b n t h1 h2 r;have p:a<C.ao.length:=by simpa using n
    have A:b<C.ao.length:=by simpa using t
    by_cases d:i=a
    .subst d
     simp only[ir]at h1;rw[m]at h1;cases h1
    by_cases u:i=b
    .subst u
     simp only[ir]at h2;rw[m]at h2;cases h2
    simp only[fp d]at h1 r;simp only[fp u]at h2 r;exact h.un a b p A h1 h2 r
   rw[mC z y (by rw[q];exact h1) (by rw[q];exact h2),q]
 .have s:∀f∈C.ao,f.full=true->f.no≠no:=λf hf h1 h2=>by
   obtain⟨k,g,rfl⟩:=e2 hf;exact hex ⟨k,g,h1,h2⟩
  have e:C.view no=C.D.now no:=nI (fs:=C.ao) (D:=C.D) (c:=C.c) (aW:=C.aW) (hd:=C.hand) s;rw[e,←x no λh1 h2=>s _ (cL hi) h1 h2];refine nI λf hf h1 h2=>?_;rcases mX hf with hf|rfl
  .exact s f hf h1 h2
  .rw[m]at h1;cases h1
theorem CL{X:Nat->Prop}{w:J}{C:b3}(h:gu X w C){no:Nat}{s:ad}{l:de}(hs:¬C.D.b6 no=true):kN (C.D.put no s l) C.D:=
 ⟨rfl,λ_ h=>h,λj a=>by
  have a:C.D.b6 j=true:=a
  rw[Cl,if_neg λe=>hs (by rw[←e];exact a)];exact h.pg j a⟩
theorem CM(D:bc){no:Nat}{s:ad}{l:de}(hs:¬D.b6 no=true):(D.put no s l).key=D.key:=by
 have h1:=qX D (k:=2) (.inr rfl);unfold bc.key at h1⊢;have h2:(D.put no s l).ko=D.ko:=by
  funext n;exact propext ⟨λ_ h=>absurd (h no) hs,λ_ h=>absurd (h no) hs⟩
 rw[h2];have a:=congrArg Prod.snd h1;show((D.b5,D.b6,D.eI,D.ko,D.r1),(D.cF 2).ck.getD 3 0)=_;have a:(D.cF 2).ck.getD 3 0=D.ck.getD 3 0:=a;rw[a]
def CN(X:Nat->Prop)(C:b3)(w:J)(v:aa)(w':J):Prop:=
 ∃aJ:b3,ec X w' aJ/\er C aJ w w' 1/\aJ.aW=C.aW/\(∀j,aJ.view j=C.view j)/\(∀f∈aJ.ao,f.full=true->∃g∈C.ao,g.full=true/\g.no=f.no)/\
  ((∃ (i:Nat) (hi:i<aJ.ao.length),v=.tuple #[.pointer (some ⟨C.aW,i*6,none⟩),(0:Int)]/\(aJ.ao[i]).full=false/\((aJ.ao[i]).pins=0))\/
   (v=.tuple #[.pointer none,(3:Int)]/\¬C.D.calm 1))
theorem CO(h:ec X w C)(ar:C.D.a7<=1000000000):aI aj 205 #[.pointer (some C.c)] w (CN X C w):=by
 have U:=h.raw;refine okF (ae.vi (some C.c)) ax.vi func205 ?_;(delta ae.vi ke ak aT aG r1 bX;dsimp only);refine(Ie U).use ?_;rintro _ _ ⟨he,rfl⟩;rcases he with ⟨i,hi,rfl,hf⟩|⟨rfl,au⟩
 .exact⟨_,rfl,λ_=>⟨C,h,(er.refl C w).mono (cP _),rfl,λ_=>rfl,λf hf H=>⟨f,hf,H,rfl⟩,.inl ⟨i,hi,rfl,hf,h.inv.pins _ (cL hi)⟩⟩,λh=>(by cases h)⟩
 refine⟨_,rfl,λh=>(by cases h),λ_=>(Ig U h.inv.pins).use ?_⟩;rintro _ w1 ⟨i,gs,hd,hi,rfl,z,r,az⟩;have W:i<gs.length:=by rw[z.1];exact hi
 have L:af (c9 C) w w1:=az.mono λq _ n=>by
  rcases n with n|n
  .exact .inl n
  .exact .inr (.inl n)
 have E:=sP (hd:=hd) (aE:=C.D) h.inv z L (λq _ h=>h) h.inv.sN (λ_=>rfl) λq n=>.inl n;have P:=sQ (hd:=hd) (aE:=C.D) h.inv z λ_=>rfl;obtain⟨a,F⟩:∃a:b3,a={C with ao:=gs,hand:=hd}:=⟨_,rfl⟩;have E:gu X w1 a:=by rw[F];exact E
 have r:fb w1 a:=by rw[F];exact r
 have P:∀no,a.view no=C.view no:=by rw[F];exact P
 have Y:∀q,c9 a q↔c9 C q:=by rw[F];exact λq=>Iff.rfl
 have o:a.D=C.D:=by rw[F]
 have p:a.c=C.c/\a.aW=C.aW:=by rw[F];exact⟨rfl,rfl⟩
 have I:a.ao=gs:=by rw[F]
 have A:i<a.ao.length:=by rw[I];exact W
 have R:(a.ao[i]).full=true:=by
  have e:=z.2 i hi W;have:(gs[i]).full=(C.ao[i]).full:=by rw[e]
  simp only[I];rw[this];exact au _ (cL hi)
 have Z:∀f∈a.ao,f.full=true->∃g∈C.ao,g.full=true/\g.no=f.no:=by
  rw[I];intro f hf H;obtain⟨k,aa,rfl⟩:=e2 hf;have ab:k<C.ao.length:=by rw[←z.1];exact aa
  have e:=z.2 k ab aa;have aB:(gs[k]).full=(C.ao[k]).full:=by rw[e]
  have aC:(gs[k]).no=(C.ao[k]).no:=by rw[e]
  exact⟨C.ao[k],cL ab,by rw[←aB];exact H,aC.symm⟩
 obtain⟨no,aw,ay,ac,aD,aF,aH⟩:=E.ok _ (cL A) R;have f1:=kp r.f A (j:=1) (by decide)
 have fin:∀ (ai:J) (aE:bc),af (c9 C) w1 ai->fb ai {a with D:=aE}->er C {a with D:=aE} w ai 1->kN aE C.D->(∀j:Nat,(a.ao[i]).no≠j->aE.now j=C.D.now j)->(∀j:Nat,(a.ao[i]).no=j->aE.now j=(a.ao[i]).l)->(∀q,cn aE q->cn C.D q\/w1.heap.size<=q)->
  ∃S:ag,(some ⟨C.aW,i*6,none⟩:av ag)=some S/\bD ai S [false,false,false,(0:Int),(0:Int),()]/\(6:Nat)=6/\an (setCells ai S 0 [false,false,false,(0:Int),(0:Int),()]) λaJ=>CN X C w (.tuple #[.pointer (some ⟨C.aW,i*6,none⟩),(0:Int)]) aJ:=by
  intro ai aE aK t B aL ad aM K;have aN:bp ai a.aW (bz Fr.c a.ao).toArray 275:=t.f;obtain⟨s1,s2,M⟩:=y1 aN A dw;rw[p.2]at s1 s2 M;have aO:gu X (setCells ai ⟨C.aW,i*6,none⟩ 0 dw.c) {a with ao:=a.ao.set i dw,D:=aE}:=by
   refine y2 (V:=c9 C) (w:=w1) A E (aK.trans (M.mono λq _ e=>.inr (.inl e))) (λq _ n=>(Y q).2 n) (by rw[o];exact aL) (λj u=>by rw[o];exact ad j λe=>u R e) (λq n=>by rw[o];exact K q n) dw rfl rfl
  have aP:=t.v;refine⟨_,rfl,s1,rfl,aX ⟨{a with ao:=a.ao.set i dw,D:=aE},⟨?_,aO⟩,?_,p.2,λj=>?_,λf hf H=>?_,.inl ⟨i,by show i<(a.ao.set i dw).length;rw[dr];exact A,rfl,by simp[dw],by simp[dw]⟩⟩⟩
  .have aQ:a.c≠C.aW:=by have:=t.a1.1;rw[←p.2];exact this
   refine⟨?_,by show bp _ a.aW _ _;rw[p.2];exact s2,t.dev.ah M (λq n e=>t.a1.2.2 (by rw[show({a with D:=aE}:b3).aW=a.aW from rfl,p.2,←e];exact n)),?_,?_,?_,t.a1⟩
   .have:=aP.ah M aQ
    show Var _ _ [_,.slice _ (a.ao.set i dw).length (a.ao.set i dw).length,_] _;rw[dr];exact this
   .show 8<=(a.ao.set i dw).length;rw[dr];exact t.b9
   .show(a.ao.set i dw).length<=64;rw[dr];exact t.cq
   .show a.hand<(a.ao.set i dw).length;rw[dr];exact t.hd
  .refine⟨B.c,B.d,by show(a.ao.set i dw).length=_;rw[dr];exact B.len,B.b5,B.a7,B.calm,B.ah.trans (M.mono λq _ e=>.inr (.inl e)),B.c1⟩
  .rw[←P]
   exact CK A E (λ_ j u=>aM j u) (λj u=>by rw[o];exact ad j λe=>u R e) dw rfl j
  .rcases mX hf with hf|rfl
   .exact Z f hf H
   .cases H
 refine⟨_,rfl,λh=>(by cases h),λ_=>k6 (λai=>∃aE:bc,af (c9 C) w1 ai/\fb ai {a with D:=aE}/\er C {a with D:=aE} w ai 1/\kN aE C.D/\(∀j:Nat,(a.ao[i]).no≠j->aE.now j=C.D.now j)/\(∀j:Nat,(a.ao[i]).no=j->aE.now j=(a.ao[i]).l)/\(∀q,cn aE q->cn C.D q\/w1.heap.size<=q)) (λq n=>⟨_,rfl,(a.ao[i]).gg,?_,λaR=>?_,λaS=>n _ ⟨C.D,.refl _ _,?_,?_,h.inv.sN,λ_ _=>rfl,λj u=>?_,λq h=>.inl h⟩⟩) ?_⟩
 .rw[aA,←p.2];exact f1
 .
  have Q:=cA w1;have y:=r.ext Q;obtain⟨al,_,_⟩:=y.cells;rw[p.1,o]at al;have f3:=kp y.f A (j:=3) (by decide);have f5:=kp y.f A (j:=5) (by decide);rw[p.2]at f3 f5;refine aX ⟨_,rfl,id,_,al,_,rfl,id,(no:Int),?_,_,rfl,id,(a.ao[i]).b,by rw[aA];exact f5,?_⟩
  .rw[aA,f3]
   show some (Value.int .i64 (a.ao[i]).no)=_;rw[aw]
  have aU:df w1.drew C.D:=by rw[←o];exact y.dev
  have am:¬C.D.b6 no=true:=λhs=>by
   have:=aH (by rw[o];exact hs);rw[aR]at this;cases this
  refine(wh aU (i:=no) (by rw[←o];exact ay) ar (ac.1.ext Q) aD λq n hf=>(ac.2.2 q n).1.1 (.inr (.inr (by rw[o];exact hf)))).use ?_;rintro v2 ai aV;rcases aV with ⟨ap,rfl,T,G⟩|⟨ap,rfl,s,T,G,aY⟩
  .have N:af (c9 C) w1 ai:=(af.cW Q).trans (G.mono λq _ e=>.inr (.inr (.inl e)))
   refine⟨3,rfl,λ_=>⟨{a with D:=C.D.cF 2},⟨?_,?_⟩,?_,p.2,λj=>?_,Z,.inr ⟨rfl,λaZ=>?_⟩⟩,λh=>(by cases h)⟩
   .have t:=y.v.ah G (λe=>y.a1.2.1 (.inl (by rw[o];exact e)))
    rw[o]at t;have aq:=r.a1;rw[o]at aq;exact⟨t,bp.ah y.f G (λe=>y.a1.2.2 (.inl (by rw[o];exact e))),T,r.b9,r.cq,r.hd,aq⟩
   .have:=sP (C:=a) (hd:=a.hand) (aE:=C.D.cF 2) E (hU.refl _) N (λq _ n=>(Y q).2 n) (by rw[o];exact h.inv.cF 2) (λj=>by rw[o];rfl) λq n=>.inl (by rw[o];exact n)
    exact this
   .refine⟨p.1,rfl,by show a.ao.length=_;rw[I];exact z.1,qX C.D (.inr rfl),Nat.le_succ _,λm O=>(jR (.inr rfl) h.raw.dev.f4 O).1,L.trans N,λq n=>.inl ?_⟩
    rcases n with e|e|e
    .exact .inl (by rw[←p.1];exact e)
    .exact .inr (.inl (by rw[←p.2];exact e))
    .exact .inr (.inr e)
   .rw[←P]
    exact sQ (C:=a) E (hU.refl _) (λj=>by rw[o];rfl) j
   .have:=(jR (k:=2) (m:=0) (.inr rfl) h.raw.dev.f4 aZ).2
    rw[ap]at this;cases this
  .have N:af (c9 C) w1 ai:=(af.cW Q).trans (G.mono λq _ e=>.inr (.inr e))
   have K:∀q,cn (C.D.put no s (a.ao[i]).l) q->cn C.D q\/w1.heap.size<=q:=by
    rintro q (e|e|e|⟨x,hx,e⟩)
    .exact .inl (.inl e)
    .exact .inl (.inr (.inl e))
    .exact .inl (.inr (.inr (.inl e)))
    .rcases cY.1 hx with rfl|hx
     .exact aY q e
     .exact .inl (.inr (.inr (.inr ⟨x,(gi.1 hx).1,e⟩)))
   have ej:∀q,cn C.D q->q≠a.c/\q≠a.aW:=λq n=>⟨λe=>r.a1.2.1 (by rw[o,←e];exact n),λe=>r.a1.2.2 (by rw[o,←e];exact n)⟩;refine⟨0,rfl,λh=>(by cases h),λ_=>n _ ⟨C.D.put no s (a.ao[i]).l,N,?_,?_,CL h.inv am,λj u=>?_,λj u=>?_,K⟩⟩
   .have t:=y.v.ah G (λe=>(ej _ e).1 rfl)
    rw[o]at t;have a0:a.c<w1.heap.size:=r.v.lt;have a6:a.aW<w1.heap.size:=bp.lt r.f;refine⟨t,bp.ah y.f G (λe=>(ej _ e).2 rfl),T,r.b9,r.cq,r.hd,r.a1.1,λe=>?_,λe=>?_⟩
    .rcases K _ e with h1|h1
     .exact(ej _ h1).1 rfl
     .have:a.c<w1.heap.size:=a0
      have h1:w1.heap.size<=a.c:=h1;omega
    .rcases K _ e with h1|h1
     .exact(ej _ h1).2 rfl
     .have h1:w1.heap.size<=a.aW:=h1
      omega
   .refine⟨p.1,rfl,by show a.ao.length=_;rw[I];exact z.1,CM C.D am,bl _,λm O=>(jR (.inr rfl) h.raw.dev.f4 O).1,L.trans N,λq n=>?_⟩
    rcases n with e|e|e
    .exact .inl (.inl (by rw[←p.1];exact e))
    .exact .inl (.inr (.inl (by rw[←p.2];exact e)))
    .rcases K q e with h1|h1
     .exact .inl (.inr (.inr h1))
     .exact .inr (eE L.size h1)
   .rw[pc,if_neg (λe=>u (by rw[aw,e]))]
   .rw[pc,if_pos (by rw[aw]at u;omega)]
 .rw[←o];exact r
 .refine⟨p.1,rfl,by show a.ao.length=_;rw[I];exact z.1,rfl,Nat.le_succ _,λm O=>gf O (Nat.le_succ _),L,λq n=>.inl ?_⟩
  rcases n with e|e|e
  .exact .inl (by rw[←p.1];exact e)
  .exact .inr (.inl (by rw[←p.2];exact e))
  .exact .inr (.inr e)
 .have:no=j:=by rw[aw]at u;omega
  subst this;rw[←o];exact(aF aS).symm
 .rintro ai ⟨aE,a1,a2,a3,a4,a5,dK,da⟩
  exact fin ai aE a1 a2 a3 a4 a5 dK da
end
def sR(fs:O Fr):Prop:=∀ (i j:Nat) (hi:i<fs.length) (a:j<fs.length),(fs[i]).full=true->(fs[j]).full=true->(fs[i]).no=(fs[j]).no->i=j
theorem CP{fs gs:O Fr}{D aE:bc}{c aW hd c' g h j:Nat}(n:sR fs)(o:sR gs)(h1:∀ (i:Nat) (hi:i<fs.length),(fs[i]).full=true->(fs[i]).no=j->∃ (k:Nat) (a:k<gs.length),(gs[k]).full=true/\(gs[k]).no=j/\(gs[k]).l=(fs[i]).l)
 (h2:(∀f∈fs,f.full=true->f.no≠j)->(∀f∈gs,f.full=true->f.no≠j)/\aE.now j=D.now j):(b3.mk c' g gs h aE).view j=(b3.mk c aW fs hd D).view j:=by
 by_cases hex:∃ (k:Nat) (a:k<fs.length),(fs[k]).full=true/\(fs[k]).no=j
 .obtain⟨k,a,aw,ay⟩:=hex
  obtain⟨m,p,b,d,q⟩:=h1 k a aw ay;rw[mC n a aw ay,mC o p b d,q]
 .have e:∀f∈fs,f.full=true->f.no≠j:=λf hf h1 h2=>by
   obtain⟨k,a,rfl⟩:=e2 hf;exact hex ⟨k,a,h1,h2⟩
  obtain⟨b,d⟩:=h2 e;rw[nI e,nI b,d]
section
variable {w w':J}{C:b3}{X:Nat->Prop}
theorem y3{i:Nat}(hi:i<C.ao.length){no:Nat}{V:Nat->Prop}(h:gu X w C)(hc:af V w w')(gd:∀q,q<w.heap.size->V q->c9 C q){aE:bc}(r:kN aE C.D)(A:∀j,aE.now j=C.D.now j)(B:∀q,cn aE q↔cn C.D q)
 (d:Fr) (O:d.full=true) (E:d.pins=0) (s:CI X w' {C with ao:=C.ao.set i d,D:=aE} d no) (t:∀ (k:Nat) (u:k<C.ao.length),k≠i->(C.ao[k]).full=true->(C.ao[k]).no≠no):gu X w' {C with ao:=C.ao.set i d,D:=aE}:=by
 have F:=hc.size;have v:∀q,c9 {C with ao:=C.ao.set i d,D:=aE} q->c9 C q:=λq hf=>by
  rcases hf with h1|h1|h1
  .exact .inl h1
  .exact .inr (.inl h1)
  .exact .inr (.inr ((B q).1 h1))
 refine⟨λf hf=>?_,λf hf x=>?_,λa b G g h1 h2 c=>?_,λq o=>⟨ff (h.fc q o).1 F,λhf=>(h.fc q o).2 (v q hf)⟩,r.2.2⟩
 .rcases mX hf with hf|rfl
  .exact h.pins f hf
  .exact E
 .obtain⟨k,u,rfl⟩:=e2 hf
  have H:k<C.ao.length:=by simpa using u
  by_cases e:i=k
  .subst e
   simp only[ir];exact⟨no,s⟩
  .simp only[fp e]at x⊢
   obtain⟨m,aw,ay,I,J,K,L,M⟩:=h.ok _ (cL H) x;exact⟨m,aw,by show m<aE.n;rw[r.1];exact ay,bw.re I hc (λq o g N=>g.1 (gd q o N)) λq _ g=>⟨λhf=>g.1 (v q hf),g.2⟩,J,λhd=>by show _=aE.now m;rw[A];exact K hd,λhs=>L (r.2.1 _ hs),M⟩
 .have y:a<C.ao.length:=by simpa using G
  have z:b<C.ao.length:=by simpa using g
  by_cases p:i=a
  .by_cases l:i=b
   .omega
   .subst p
    simp only[ir]at c;simp only[fp l]at h2 c;exact absurd (by rw[←c];exact s.num) (t b z (λe=>l e.symm) h2)
  .by_cases l:i=b
   .subst l
    simp only[ir]at c;simp only[fp p]at h1 c;exact absurd (by rw[c];exact s.num) (t a y (λe=>p e.symm) h1)
   .simp only[fp p]at h1 c
    simp only[fp l]at h2 c;exact h.un a b y z h1 h2 c
theorem Ih{i:Nat}(hi:i<C.ao.length){no:Nat}(h:sR C.ao)(g:Fr)(j:g.no=no)(l:∀ (k:Nat) (q:k<C.ao.length),k≠i->(C.ao[k]).full=true->(C.ao[k]).no≠no):sR (C.ao.set i g):=by
 intro a b o p h1 h2 c;have m:a<C.ao.length:=by simpa using o
 have n:b<C.ao.length:=by simpa using p
 by_cases f:i=a
 .by_cases d:i=b
  .omega
  .subst f
   simp only[ir]at c;simp only[fp d]at h2 c;exact absurd (by rw[←c];exact j) (l b n (λe=>d e.symm) h2)
 .by_cases d:i=b
  .subst d
   simp only[ir]at c;simp only[fp f]at h1 c;exact absurd (by rw[c];exact j) (l a m (λe=>f e.symm) h1)
  .simp only[fp f]at h1 c
   simp only[fp d]at h2 c;exact h a b m n h1 h2 c
theorem y4{i:Nat}(hi:i<C.ao.length){no:Nat}(h:sR C.ao){aE:bc}(m:∀j,aE.now j=C.D.now j)(a:Fr)(n:a.full=true)(b:a.no=no)(hold:(C.ao[i]).full=true->(C.ao[i]).no=no)(o:∀ (k:Nat) (g:k<C.ao.length),k≠i->(C.ao[k]).full=true->(C.ao[k]).no≠no){hd:Nat}(j:Nat):
 (b3.mk C.c C.aW (C.ao.set i a) hd aE).view j=if j=no then a.l else C.view j:=by
 have hu:=Ih hi h a b o;have p:i<(C.ao.set i a).length:=by simpa using hi
 by_cases e:j=no
 .subst e
  rw[if_pos rfl,mC hu p (by simp[n]) (by simpa using b)];simp
 .rw[if_neg e]
  refine CP (fs:=C.ao) (D:=C.D) (c:=C.c) (aW:=C.aW) (hd:=C.hand) h hu (λk g aw ay=>?_) λq=>⟨λf hf aw ay=>?_,m j⟩
  .have d:i≠k:=λr=>by
    subst r;have:=hold aw;rw[ay]at this;exact e I
   have s:k<(C.ao.set i a).length:=by simpa using g
   exact⟨k,s,by simp only[fp d];exact aw,by simp only[fp d];exact ay,by simp only[fp d]⟩
  .rcases mX hf with hf|rfl
   .exact q f hf aw ay
   .rw[b]at ay
    exact e I
def Ii(X:Nat->Prop)(C:b3)(no:Nat)(w:J)(v:aa)(w':J):Prop:=
 ∃aJ:b3,ec X w' aJ/\er C aJ w w' 2/\(∀j,aJ.view j=C.view j)/\
  ((∃s:ad,v=.tuple #[s,(0:Int)]/\bw (λq=>w.heap.size<=q/\¬c9 aJ q/\¬X q) w' s (C.view no))\/(v=.tuple #[(),(3:Int)]/\¬C.D.calm 2))
theorem Ij(h:ec X w C)(a3:C.D.a7<=999999999){no:Nat}(aC:no<C.D.n)(aD:2<=no):aI aj 222 #[.pointer (some C.c),no] w (Ii X C no w):=by
 have r:=h.raw;refine okF (ae.vl (some C.c) (no:Int)) ax.vl func222 ?_;(delta ae.vl b8 ak ke st r1 bG ia ey;dsimp only);refine(CJ r _).use ?_;rintro _ _ ⟨rfl,rfl⟩;refine⟨_,rfl,λF=>?_,λ_=>(wm r _).use ?_⟩
 .have:decide (0<=(no:Int)/\(no:Int)<C.D.n)=true:=dI ⟨I,I⟩
  rw[this]at F;cases F
 rintro _ _ ⟨aF,rfl⟩;rcases aF with ⟨i,hi,rfl,hf,aG⟩|⟨rfl,aH⟩
 .
  obtain⟨aw,ay,M,J⟩:=nH r.f hi (j:=2) (by decide) (v:=true) {C.ao[i] with used:=true} rfl;have ab:hU C.ao (C.ao.set i {C.ao[i] with used:=true}):=(hU.refl C.ao).set hi true;have K:af (c9 C) w (w.setCell ⟨C.aW,i*6+2,none⟩ true):=J.mono λq _ e=>.inr (.inl e);have hinv:=sP (hd:=C.hand) (aE:=C.D) h.inv ab K (λq _ h=>h) h.inv.sN (λ_=>rfl) λq p=>.inl p;have aJ:=sQ (hd:=C.hand) (aE:=C.D) h.inv ab λ_=>rfl;obtain⟨w1,ac⟩:∃w1,w1=w.setCell ⟨C.aW,i*6+2,none⟩ true:=⟨_,rfl⟩;rw[←ac]at M J K hinv;have N:fb w1 {C with ao:=C.ao.set i {C.ao[i] with used:=true}}:=by
   refine⟨?_,M,r.dev.ah J (λq p e=>r.a1.2.2 (e▸p)),?_,?_,?_,r.a1⟩
   .have:=r.v.ah J r.a1.1
    show Var _ _ [_,.slice _ (C.ao.set i _).length (C.ao.set i _).length,_] _;rw[dr];exact this
   .show 8<=(C.ao.set i _).length;rw[dr];exact r.b9
   .show(C.ao.set i _).length<=64;rw[dr];exact r.cq
   .show C.hand<(C.ao.set i _).length;rw[dr];exact r.hd
  obtain⟨a,O⟩:∃a:b3,a={C with ao:=C.ao.set i {C.ao[i] with used:=true}}:=⟨_,rfl⟩;have P:ec X w1 a:=by rw[O];exact⟨N,hinv⟩
  have dS:i<(C.ao.set i {C.ao[i] with used:=true}).length:=by simpa using hi
  have f5:=kp M dS (j:=5) (by decide);obtain⟨m,b9,cq,ad,ag,a4,a5,a6⟩:=hinv.ok ((C.ao.set i {C.ao[i] with used:=true})[i]) (cL dS) (by simp[hf]);have aK:((C.ao.set i {C.ao[i] with used:=true})[i]).b=(C.ao[i]).b:=by simp
  have al:((C.ao.set i {C.ao[i] with used:=true})[i]).l=(C.ao[i]).l:=by simp
  rw[aK,al]at ad;rw[al]at ag;refine⟨_,rfl,λ_=>⟨_,rfl,by rw[aA];exact aw,by rw[aA];exact ay,?_⟩,λh=>(by cases h)⟩;rw[aA,←ac];refine aX ⟨_,rfl,(C.ao[i]).b,by rw[aA,f5];simp[Fr.c],(lS (B:=λq=>w1.heap.size<=q) ad.1 (by rw[ag];omega) (λq p=>p)).use ?_⟩;rintro _ ai ⟨s,rfl,hs,am,_⟩;have aL:C.view no=(C.ao[i]).l:=mC (fs:=C.ao) (D:=C.D) (c:=C.c) (aW:=C.aW) (hd:=C.hand) h.inv.un hi hf aG;have aM:=K.size;refine⟨s,rfl,a,P.ext am,?_,?_,.inl ⟨s,rfl,?_⟩⟩
  .rw[O]
   exact⟨rfl,rfl,by show(C.ao.set i _).length=_;rw[dr],rfl,Nat.le_add_right _ _,λm Q=>gf Q I,K.trans (af.cW am),λq p=>.inl p⟩
  .intro j;rw[O];exact aJ j
  .rw[aL]
   refine bw.a_ hs λq _ p=>⟨I,λhf=>?_,λG=>?_⟩
   .have:=P.raw.lt hf;omega
   .have:=(P.inv.fc q G).1;omega
 .
  refine⟨_,rfl,λh=>(by cases h),λ_=>(CO h I).use ?_⟩;rintro _ w1 ⟨a,o,y,A,H,aN,N⟩;rcases N with ⟨i,hi,rfl,aO,a8⟩|⟨rfl,aP⟩
  .refine⟨_,_,rfl,λh=>(by simp at h),λ_=>⟨_,rfl,some C.D.d,?_,?_⟩⟩
   .have:=o.raw.cells.1
    rw[y.c,y.d]at this;exact this
   have R:no<a.D.n:=by rw[y.n];exact aC
   have a9:=y.a7;rw[←y.d];refine(Ht o.raw.dev R I).use ?_;rintro v2 ai ⟨an,L,aQ⟩;have ap:=λq=>o.raw.lt (q:=q);have S:af (c9 a) w1 ai:=L.mono λq _ e=>.inr (.inr (.inl e))
   have T:∀f∈a.ao,f.full=true->f.no≠no:=λf hf aR aS=>by
    obtain⟨g,hg,h1,h2⟩:=aN f hf aR;exact aH g hg h1 (by rw[h2,aS])
   have aT:a.D.calm 1\/¬C.D.calm 2:=by
    rcases Classical.em (C.D.calm 2) with h1|h1
    .exact .inl (y.calm 1 h1)
    .exact .inr h1
   have aq:a.view no=a.D.now no:=nI (fs:=a.ao) (D:=a.D) (c:=a.c) (aW:=a.aW) (hd:=a.hand) T;have U:∀q,cn a.D q->q≠a.c/\q≠a.aW:=λq p=>⟨λe=>o.raw.a1.2.1 (e▸p),λe=>o.raw.a1.2.2 (e▸p)⟩;have aU:gu X ai {a with D:=a.D.cF 1}:=sP (C:=a) (hd:=a.hand) (aE:=a.D.cF 1) o.inv (hU.refl _) S (λq _ h=>h) (o.inv.cF 1) (λ_=>rfl) λq p=>.inl p;have u:er C {a with D:=a.D.cF 1} w ai 2:=by
    have:er a {a with D:=a.D.cF 1} w1 ai 1:=⟨rfl,rfl,rfl,qX a.D (.inl rfl),Nat.le_succ _,λm Q=>(jR (.inl rfl) o.raw.dev.f4 Q).1,S,λq p=>.inl p⟩;exact y.trans this
   have aV:∀j,({a with D:=a.D.cF 1}:b3).view j=C.view j:=λj=>by rw[←H];exact sQ (C:=a) o.inv (hU.refl _) (λ_=>rfl) j
   have W:fb ai {a with D:=a.D.cF 1}:=⟨o.raw.v.ah L (λe=>(U _ (.inl rfl)).1 e.symm),bp.ah o.raw.f L (λe=>(U _ (.inl rfl)).2 e.symm),an,o.raw.b9,o.raw.cq,o.raw.hd,o.raw.a1⟩;rcases aQ with ⟨F,rfl⟩|⟨F,s,rfl,hs⟩
   .refine⟨⟨none,0,0⟩,3,rfl,λ_=>⟨{a with D:=a.D.cF 1},⟨W,aU⟩,u,aV,.inr ⟨rfl,?_⟩⟩,λh=>(by simp at h)⟩
    rcases aT with h1|h1
    .have:=(jR (k:=1) (m:=0) (.inl rfl) o.raw.dev.f4 h1).2
     rw[F]at this;cases this
    .exact h1
   .have ar:(a.D.now no).length=256:=o.raw.dev.sK R
    obtain⟨s1,s2,z⟩:=y1 W.f hi ⟨true,false,true,(no:Int),0,s,a.D.now no⟩;rw[A]at s1 s2 z;have ba:=L.size;have aM:=y.ah.size;refine⟨s,_,rfl,λh=>(by simp at h),λ_=>⟨_,rfl,s1,rfl,?_⟩⟩;obtain⟨x,au⟩:∃x,x=setCells ai ⟨C.aW,i*6,none⟩ 0 (Fr.c ⟨true,false,true,(no:Int),0,s,a.D.now no⟩):=⟨_,rfl⟩;rw[←au]at s2 z;have hg:setCells ai ⟨C.aW,i*6,none⟩ 0 [true,false,true,no,(0:Int),s]=x:=au.symm;rw[hg];have av:af (c9 a) ai x:=z.mono λq _ e=>.inr (.inl (by rw[A];exact e));have az:bw (λq=>w1.heap.size<=q) x s (a.D.now no):=bw.ah hs z λq p e=>by
     have:=ap C.aW (.inr (.inl A.symm));omega
    have aY:gu X x {a with ao:=a.ao.set i ⟨true,false,true,(no:Int),0,s,a.D.now no⟩,D:=a.D.cF 1}:=by
     refine y3 (w:=w1) (V:=c9 a) (aE:=a.D.cF 1) hi (no:=no) o.inv (S.trans av) (λq _ h=>h) (o.inv.cF 1) (λ_=>rfl) (λq=>Iff.rfl) ⟨true,false,true,(no:Int),0,s,a.D.now no⟩ rfl rfl ⟨rfl,R,?_,ar,λ_=>rfl,λ_=>rfl,aD⟩ λk Y _ h1=>T _ (cL Y) h1;refine bw.a_ az λq _ p=>⟨λhf=>?_,λG=>?_⟩
     .have:c9 a q:=hf
      have:=ap q this;omega
     .have:=(o.inv.fc q G).1;omega
    have aZ:∀j,({a with ao:=a.ao.set i ⟨true,false,true,(no:Int),0,s,a.D.now no⟩,D:=a.D.cF 1}:b3).view j=C.view j:=λj=>by
     have:=y4 (hd:=a.hand) (aE:=a.D.cF 1) hi (no:=no) o.inv.un (λ_=>rfl) ⟨true,false,true,(no:Int),0,s,a.D.now no⟩ rfl rfl (λh1=>by rw[aO]at h1;cases h1) (λk Y _ h1=>T _ (cL Y) h1) j;rw[show({a with ao:=a.ao.set i ⟨true,false,true,(no:Int),0,s,a.D.now no⟩,D:=a.D.cF 1}:b3)=b3.mk a.c a.aW (a.ao.set i ⟨true,false,true,(no:Int),0,s,a.D.now no⟩) a.hand (a.D.cF 1) from rfl,this];by_cases e:j=no
     .rw[if_pos e,e,←H,aq]
     .rw[if_neg e,H]
    have a0:fb x {a with ao:=a.ao.set i ⟨true,false,true,(no:Int),0,s,a.D.now no⟩,D:=a.D.cF 1}:=by
     refine⟨?_,by show bp _ a.aW _ _;rw[A];exact s2,an.ah z (λq p e=>(U q p).2 (by rw[A];exact e)),?_,?_,?_,o.raw.a1⟩
     .have:=W.v.ah z (λe=>o.raw.a1.1 (by rw[A];exact e))
      show Var _ _ [_,.slice _ (a.ao.set i _).length (a.ao.set i _).length,_] _;rw[dr];exact this
     .show 8<=(a.ao.set i _).length;rw[dr];exact o.raw.b9
     .show(a.ao.set i _).length<=64;rw[dr];exact o.raw.cq
     .show a.hand<(a.ao.set i _).length;rw[dr];exact o.raw.hd
    obtain⟨E,Z⟩:∃E:b3,E={a with ao:=a.ao.set i ⟨true,false,true,(no:Int),0,s,a.D.now no⟩,D:=a.D.cF 1}:=⟨_,rfl⟩;have aa:ec X x E:=by rw[Z];exact⟨a0,aY⟩
    have a2:er C E w x 2:=by
     rw[Z];exact⟨u.c,u.d,by show(a.ao.set i _).length=_;rw[dr];exact u.len,u.b5,u.a7,u.calm,c0 u.ah av λq p h=>(u.c1 q h).resolve_right I,u.c1⟩
    refine aX ((lS (B:=λq=>x.heap.size<=q) az.1 (by rw[ar];omega) (λq p=>p)).use ?_);rintro _ bb ⟨t,rfl,ht,aB,_⟩;have bc:=z.size;refine⟨t,rfl,E,aa.ext aB,?_,?_,.inl ⟨t,rfl,?_⟩⟩
    .exact(a2.trans (er.ext E aB)).mono I
    .intro j;rw[Z];exact aZ j
    .rw[←H,aq]
     refine bw.a_ ht λq _ p=>⟨I,λhf=>?_,λG=>?_⟩
     .have:=aa.raw.lt hf;omega
     .have:=(aa.inv.fc q G).1;omega
  .refine⟨_,_,rfl,λ_=>⟨a,o,y.mono I,H,.inr ⟨rfl,λhc=>aP (gf hc I)⟩⟩,λh=>(by simp at h)⟩
end
section
variable {w w':J}{C:b3}{X:Nat->Prop}
def CQ(X:Nat->Prop)(C:b3)(no:Nat)(l:de)(w:J)(v:aa)(w':J):Prop:=
 ∃aJ:b3,ec X w' aJ/\er C aJ w w' 1/\
  ((v=.int .i64 0/\∀j,aJ.view j=if j=no then l else C.view j)\/(v=.int .i64 3/\¬C.D.calm 1/\∀j,aJ.view j=C.view j))
theorem y5{i:Nat}{a:Fr}(h:fb w C)(hc:af (λq=>q=C.aW) w w')(b:bp w' C.aW (bz Fr.c (C.ao.set i a)).toArray 275):fb w' {C with ao:=C.ao.set i a}:=by
 refine⟨?_,b,h.dev.ah hc (λq d e=>h.a1.2.2 (e▸d)),?_,?_,?_,h.a1⟩
 .have:=h.v.ah hc h.a1.1
  show Var _ _ [_,.slice _ (C.ao.set i _).length (C.ao.set i _).length,_] _;rw[dr];exact this
 .show 8<=(C.ao.set i _).length;rw[dr];exact h.b9
 .show(C.ao.set i _).length<=64;rw[dr];exact h.cq
 .show C.hand<(C.ao.set i _).length;rw[dr];exact h.hd
theorem set_set{fs:O Fr}{i:Nat}(f g:Fr):(fs.set i f).set i g=fs.set i g:=List.set_set ..
theorem CR(h:ec X w C)(br:C.D.a7<=999999999){no:Nat}(aF:no<C.D.n)(aG:2<=no)(aH:¬C.D.b6 no=true){b:ad}{l:de}(ac:Src 1 w b (az l))(al:l.length=256)(am:∀q,aB b q->q<w.heap.size/\¬c9 C q):
 aI aj 146 #[.pointer (some C.c),no,b] w (CQ X C no l w):=by
 have P:=h.raw;have aJ:=len8 ac;refine okF (ae.u6 (some C.c) (no:Int) b) ax.u6 func146 ?_;(delta ae.u6 b8 ak ke ia st bG;dsimp only);refine(CJ P _).use ?_;rintro _ _ ⟨rfl,rfl⟩;have aK:decide (0<=(no:Int)/\(no:Int)<C.D.n)=true:=dI ⟨I,I⟩;refine⟨_,rfl,λh1=>?_,λ_=>(wm P _).use ?_⟩
 .rw[aK,aJ,al]at h1
  simp at h1
 rintro _ _ ⟨aL,rfl⟩
 have fin:∀ (w1:J) (a:b3) (i:Nat) (hi:i<a.ao.length) (f1:Fr),ec X w1 a->er C a w w1 1->a.aW=C.aW->(∀j,a.view j=C.view j)->f1.pins=0->∀ai:J,bp ai a.aW (bz Fr.c (a.ao.set i f1)).toArray 275->af (λq=>q=a.aW) w1 ai->f1.full=true->f1.no=(no:Int)->
  ((a.ao[i]).full=true->(a.ao[i]).no=(no:Int))->(∀ (k:Nat) (E:k<a.ao.length),k≠i->(a.ao[k]).full=true->(a.ao[k]).no≠(no:Int))->
  Calls aj 46 #[b] ai λaM Q=>∃ap:ad,aM=.returned ap/\∃G:ag,(some ⟨C.aW,i*6,none⟩:av ag)=some G/\(∃u:aa,Q.cell? (G.add 5)=some u)/\Q.frozen? (G.add 5)=false/\
   an (Q.setCell (G.add 5) ap) λR=>∃H:ag,(some ⟨C.aW,i*6,none⟩:av ag)=some H/\(∃u:aa,R.cell? (H.add 1)=some u)/\R.frozen? (H.add 1)=false/\
   an (R.setCell (H.add 1) true) λS=>∃K:ag,(some ⟨C.aW,i*6,none⟩:av ag)=some K/\(∃u:aa,S.cell? (K.add 2)=some u)/\S.frozen? (K.add 2)=false/\
   an (S.setCell (K.add 2) true) λaN=>CQ X C no l w (0:Int) aN:=by
  intro w1 a i hi f1 y o x aO T ai aP L M aq hold ar;have bs:=o.ah.size;have bt:=L.size;have bu:a.aW<w1.heap.size:=y.raw.lt (.inr (.inl rfl));have aQ:Src 1 ai b (az l):=by
   refine(ac.ah o.ah λq m hf=>(am q m).2 hf).ah L λq m e=>(am q m).2 (.inr (.inl (by rw[←x];exact e)))
  refine(lS (B:=λq=>ai.heap.size<=q) aQ I (λq m=>m)).use ?_;rintro _ aR ⟨s,rfl,hs,au,_⟩;have aS:=bp.ext aP au;have U:i<(a.ao.set i f1).length:=by rw[dr];exact hi
  have W:(a.ao.set i f1)[i]=f1:=by simp
  obtain⟨a1,a2,a3,a4⟩:=nH aS U (j:=5) (by decide) (v:=s) {f1 with b:=s} (by rw[W];rfl);rw[set_set]at a3;have aT:i<(a.ao.set i {f1 with b:=s}).length:=by rw[dr];exact hi
  have aU:(a.ao.set i {f1 with b:=s})[i]={f1 with b:=s}:=by simp
  obtain⟨cy,b4,z,A⟩:=nH a3 aT (j:=1) (by decide) (v:=true) {f1 with b:=s,gg:=true} (by rw[aU];rfl);rw[set_set]at z;have aV:i<(a.ao.set i {f1 with b:=s,gg:=true}).length:=by rw[dr];exact hi
  have aY:(a.ao.set i {f1 with b:=s,gg:=true})[i]={f1 with b:=s,gg:=true}:=by simp
  obtain⟨d1,d2,d3,d4⟩:=nH z aV (j:=2) (by decide) (v:=true) {f1 with b:=s,gg:=true,used:=true,l:=l} (by rw[aY];rfl);rw[set_set]at d3;rw[x]at a1 a2 a3 a4 cy b4 z A d1 d2 d3 d4 L;refine⟨s,rfl,_,rfl,by rw[aA];exact a1,by rw[aA];exact a2,?_⟩;rw[aA];refine aX ⟨_,rfl,by rw[aA];exact cy,by rw[aA];exact b4,?_⟩;rw[aA];refine aX ⟨_,rfl,by rw[aA];exact d1,by rw[aA];exact d2,?_⟩;rw[aA];have N:=(L.trans (af.cW au)).trans (a4.trans (A.trans d4));obtain⟨t,r⟩:∃t:Fr,t={f1 with b:=s,gg:=true,used:=true,l:=l}:=⟨_,rfl⟩;obtain⟨F,Y⟩:∃F,F=(((aR.setCell ⟨C.aW,i*6+5,none⟩ s).setCell ⟨C.aW,i*6+1,none⟩ true).setCell ⟨C.aW,i*6+2,none⟩ true):=⟨_,rfl⟩;rw[←Y,←r]at d3;rw[←Y]at N⊢;have aZ:bw (λq=>ai.heap.size<=q) F s l:=by
   have h1:=bw.ah hs a4 λq m e=>by rw[←x]at e;omega
   have h2:=bw.ah h1 A λq m e=>by rw[←x]at e;omega
   have a0:=bw.ah h2 d4 λq m e=>by rw[←x]at e;omega
   rw[Y];exact a0
  have a5:fb F {a with ao:=a.ao.set i t}:=y5 y.raw (by rw[x];exact N) (by rw[x];exact d3);have a6:gu X F {a with ao:=a.ao.set i t}:=by
   refine y3 (w:=w1) (V:=λq=>q=C.aW) (aE:=a.D) hi (no:=no) y.inv N (λq _ e=>.inr (.inl (by rw[x];exact e))) y.inv.sN (λ_=>rfl) (λq=>Iff.rfl) t (by rw[r];exact M) (by rw[r];exact T) ⟨by rw[r];exact aq,by show no<a.D.n;rw[o.n];exact aF,?_,by rw[r];exact al,λhd=>(by rw[r]at hd;cases hd),λhs=>absurd (by rw[←o.b6];exact hs) aH,aG⟩ ar;rw[r];refine bw.a_ aZ λq _ m=>⟨λhf=>?_,λa8=>?_⟩
   .have:c9 a q:=hf
    have:=y.raw.lt this;omega
   .have:=(y.inv.fc q a8).1;omega
  refine aX ⟨{a with ao:=a.ao.set i t},⟨a5,a6⟩,⟨o.c,o.d,by show(a.ao.set i _).length=_;rw[dr];exact o.len,o.b5,o.a7,o.calm,c0 o.ah N λq m e=>.inr (.inl e),o.c1⟩,.inl ⟨rfl,λj=>?_⟩⟩;have:=y4 (C:=a) (hd:=a.hand) (aE:=a.D) hi (no:=no) y.inv.un (λ_=>rfl) t (by rw[r];exact M) (by rw[r];exact aq) hold ar j;rw[show({a with ao:=a.ao.set i t}:b3)=b3.mk a.c a.aW (a.ao.set i t) a.hand a.D from rfl,this,aO];rw[r]
 rcases aL with ⟨i,hi,rfl,hf,Z⟩|⟨rfl,a9⟩
 .refine⟨_,rfl,cw (λp w'=>p=some ⟨C.aW,i*6,none⟩/\w=w') (λq m=>⟨λh=>(by cases h),λ_=>m _ _ ⟨rfl,rfl⟩⟩) ?_⟩
  rintro _ _ ⟨rfl,rfl⟩;have e:C.ao.set i C.ao[i]=C.ao:=List.set_getElem_self _;exact fin w C i hi C.ao[i] h ((er.refl C w).mono (cP _)) rfl (λ_=>rfl) (h.inv.pins _ (cL hi)) w (by rw[e];exact P.f) (.refl _ _) hf Z (λ_=>Z) λk E ba h1 h2=>ba (h.inv.un k i E hi h1 hf (by rw[h2,Z]))
 .refine⟨_,rfl,cw (λp ai=>∃ (w1:J) (a:b3) (i:Nat) (hi:i<a.ao.length) (f1:Fr),p=some ⟨C.aW,i*6,none⟩/\ec X w1 a/\er C a w w1 1/\a.aW=C.aW/\(∀j,a.view j=C.view j)/\f1.pins=0/\bp ai a.aW (bz Fr.c (a.ao.set i f1)).toArray 275/\af (λq=>q=a.aW) w1 ai/\f1.full=true/\f1.no=(no:Int)/\
   ((a.ao[i]).full=true->(a.ao[i]).no=(no:Int))/\(∀ (k:Nat) (E:k<a.ao.length),k≠i->(a.ao[k]).full=true->(a.ao[k]).no≠(no:Int))) (λq m=>⟨λ_=>(CO h I).use ?_,λh=>(by cases h)⟩) ?_⟩
  .rintro _ w1 ⟨a,ab,aC,O,aD,bb,bc⟩
   have bd:∀f∈a.ao,f.full=true->f.no≠(no:Int):=λf hf M be=>by
    obtain⟨g,hg,h1,h2⟩:=bb f hf M;exact a9 g hg h1 (by rw[h2,be])
   rcases bc with ⟨i,hi,rfl,bf,T⟩|⟨rfl,bg⟩
   .obtain⟨a1,a2,a3,a4⟩:=nH ab.raw.f hi (j:=0) (by decide) (v:=true) {a.ao[i] with full:=true} rfl
    have U:i<(a.ao.set i {a.ao[i] with full:=true}).length:=by rw[dr];exact hi
    have W:(a.ao.set i {a.ao[i] with full:=true})[i]={a.ao[i] with full:=true}:=by simp
    obtain⟨cy,b4,z,A⟩:=nH a3 U (j:=3) (by decide) (v:=no) {a.ao[i] with full:=true,no:=(no:Int)} (by rw[W];rfl);rw[set_set]at z;rw[O]at a1 a2 cy b4 z a4 A;refine⟨_,_,rfl,λh=>(by simp at h),λ_=>⟨_,rfl,a1,a2,aX ⟨_,rfl,by rw[aA];exact cy,by rw[aA];exact b4,aX ?_⟩⟩⟩;rw[aA];exact m _ _ ⟨w1,a,i,hi,{a.ao[i] with full:=true,no:=(no:Int)},rfl,ab,aC,O,aD,T,by rw[O];exact z,by rw[O];exact a4.trans A,rfl,rfl,λh1=>(by rw[bf]at h1;cases h1),λk E _ h1=>bd _ (cL E) h1⟩
   .exact⟨_,_,rfl,λ_=>⟨a,ab,aC,.inr ⟨rfl,bg,aD⟩⟩,λh=>(by simp at h)⟩
  .rintro p ai ⟨w1,a,i,hi,f1,rfl,aw,ay,bh,bi,bj,bk,bl,bm,bn,bo,bq⟩
   exact fin w1 a i hi f1 aw ay bh bi bj ai bk bl bm bn bo bq
theorem Ik(h:ec X w C)(no:Nat):aI aj 127 #[.pointer (some C.c),no] w (λv w'=>(∃b:al,v=b)/\∃aJ:b3,ec X w' aJ/\er C aJ w w' 0/\(∀j,j≠no->aJ.view j=C.view j)/\aJ.D=C.D/\∀f∈aJ.ao,f.full=true->f∈C.ao/\f.no≠(no:Int)):=by
 have d:=h.raw;refine okF (ae.u4 (some C.c) (no:Int)) ax.u4 func127 ?_;(delta ae.u4 ke ak aG;dsimp only);refine(wm d _).use ?_;rintro _ _ ⟨u,rfl⟩;rcases u with ⟨i,hi,rfl,hf,p⟩|⟨rfl,x⟩
 .have f4:=kp d.f hi (j:=4) (by decide)
  have y:=h.inv.pins _ (cL hi);refine⟨_,rfl,cw (λb w'=>b=false/\w=w') (λq g=>⟨λh=>(by cases h),λ_=>⟨_,rfl,(C.ao[i]).pins,by rw[aA];exact f4,g _ _ ⟨by rw[y];rfl,rfl⟩⟩⟩) ?_⟩;rintro _ _ ⟨rfl,rfl⟩;obtain⟨s1,s2,l⟩:=y1 d.f hi dw;refine⟨λh=>(by cases h),λ_=>⟨_,rfl,s1,rfl,aX ⟨⟨true,rfl⟩,{C with ao:=C.ao.set i dw},⟨y5 d l s2,?_⟩,?_,λj z=>?_,rfl,λf A aw=>?_⟩⟩⟩
  .exact y2 (V:=λq=>q=C.aW) (aE:=C.D) hi h.inv l (λq _ e=>.inr (.inl e)) h.inv.sN (λ_ _=>rfl) (λq h=>.inl h) dw rfl rfl
  .exact⟨rfl,rfl,by show(C.ao.set i _).length=_;rw[dr],rfl,bl _,λ_ h=>h,l.mono λq _ e=>.inr (.inl e),λq h=>.inl h⟩
  .refine CP (fs:=C.ao) (D:=C.D) (c:=C.c) (aW:=C.aW) (hd:=C.hand) h.inv.un (λa b B E h1 h2 m=>?_) (λk n aw ay=>?_) λF=>⟨λf hf aw ay=>?_,rfl⟩
   .have G:a<C.ao.length:=by simpa using B
    have H:b<C.ao.length:=by simpa using E
    by_cases r:i=a
    .subst r
     simp[dw]at h1
    by_cases s:i=b
    .subst s
     simp[dw]at h2
    simp only[fp r]at h1 m;simp only[fp s]at h2 m;exact h.inv.un a b G H h1 h2 m
   .have o:i≠k:=λe=>by
     subst e;rw[p]at ay;exact z I
    exact⟨k,by rw[dr];exact n,by simp only[fp o];exact aw,by simp only[fp o];exact ay,by simp only[fp o]⟩
   .rcases mX hf with hf|rfl
    .exact F f hf aw ay
    .cases aw
  .obtain⟨k,n,rfl⟩:=e2 A
   have t:k<C.ao.length:=by simpa using n
   by_cases e:i=k
   .subst e
    simp[dw]at aw
   .simp only[fp e]at aw⊢
    exact⟨cL t,λay=>e (h.inv.un i k hi t hf aw (p.trans ay.symm))⟩
 .refine⟨_,rfl,cw (λb w'=>b=true/\w=w') (λq g=>⟨λ_=>g _ _ ⟨rfl,rfl⟩,λh=>(by cases h)⟩) ?_⟩
  rintro _ _ ⟨rfl,rfl⟩;exact⟨λ_=>⟨⟨false,rfl⟩,C,h,er.refl C w,λ_ _=>rfl,rfl,λf hf aw=>⟨hf,x f hf aw⟩⟩,λh=>(by cases h)⟩
end
theorem Il(n:Nat):gZ aj 275 n=(bz Fr.c (List.replicate n dw)).toArray:=by
 have a:((Tryz.prog.info? 275).bind (·.zero)).map (·.cells)=some dw.c.toArray:=by kernel_rfl
 have hc:Tryz.prog.cellsOf 275=6:=by kernel_rfl
 unfold gZ;rw[hc]
 cases hi:(Tryz.prog.info? 275).bind (·.zero) with
 |none=>rw[hi]at a;cases a
 |some z=>
  rw[hi]at a;simp only[l4,Option.some.injEq]at a;simp only[Option.getD_some,a];apply Array.ext
  .simp[fD (c:=Fr.c) (sz:=6) (List.replicate n dw) (λx _=>rfl)]
  .intro i h1 h2
   have d:n*6≠0:=by
    intro h;simp[h]at h1
   have g:i<n*6:=by simpa using h1
   simp only[d,if_false,Array.getElem_map,Array.getElem_range,List.getElem_toArray];have b:dw.c.toArray.size=6:=rfl;have aH:i%6<6:=g8 _ I;have e:i/6<(List.replicate n dw).length:=by rw[l7];omega
   have hg:=wc (c:=Fr.c) (sz:=6) (l:=List.replicate n dw) (λx _=>rfl) (i:=i/6) (j:=i%6) e aH;rw[show i/6*6+i%6=i from I]at hg;have f:i<(bz Fr.c (List.replicate n dw)).length:=by simpa using h2
   rw[dH f]at hg;have he:((List.replicate n dw)[i/6]).c=dw.c:=by simp
   rw[he,dH (show i%6<dw.c.length from aH)]at hg;have hg:=Option.some.inj hg;rw[hg,b,getElem!_pos dw.c.toArray (i%6) (by rw[b];exact aH)];simp
def lV(c aW k:Nat)(D:bc):b3:=⟨c,aW,List.replicate k dw,0,D⟩
theorem qm{w:J}{D:bc}(h:df w D){k:Nat}(h1:8<=k)(h2:k<=64)(m:∀j,D.b6 j=true->D.fa j=D.eI j):aI aj 120 #[.pointer (some D.d),k] w (λv w'=>∃c aW:Nat,v=.tuple #[.pointer (some c),(0:Int)]/\ec (λ_=>False) w' (lV c aW k D)/\Ext w w'/\w.heap.size<=c/\w.heap.size<=aW):=by
 refine okF (ae.qm (some D.d) (k:Int)) ax.qm func120 ?_;delta ae.qm ak kH Y;refine⟨λh=>?_,λ_=>⟨⟨I,I,I,I⟩,?_⟩⟩
 .simp only[Option.isNone_some,mP,jb,cp]at h;omega
 rw[Il,di];have g:=bp.new w (bz Fr.c (List.replicate k dw)).toArray 275;have a:=dc w (.cells (bz Fr.c (List.replicate k dw)).toArray 275);have n:=o6 w (.cells (bz Fr.c (List.replicate k dw)).toArray 275);obtain⟨w1,o⟩:∃w1,w1=w.alloc (.cells (bz Fr.c (List.replicate k dw)).toArray 275):=⟨_,rfl⟩;rw[←o]at g a n⊢;refine aX (a8 (vs:=[.pointer (some D.d),.slice (some w.heap.size) k k,(0:Int)]) rfl λai p b s=>⟨w1.heap.size,w.heap.size,rfl,⟨⟨?_,bp.ext g b,h.ext (a.trans b),?_,?_,?_,?_,?_,?_⟩,⟨λf hf=>?_,λf hf l=>?_,λi j hi t h1=>?_,λq r=>r.elim,m⟩⟩,a.trans b,I,bl _⟩)
 .show Var _ _ [_,.slice _ (List.replicate k dw).length (List.replicate k dw).length,_] _
  rw[l7];exact p
 .show 8<=(List.replicate k dw).length;simpa using h1
 .show(List.replicate k dw).length<=64;simpa using h2
 .show 0<(List.replicate k dw).length;simp;omega
 .show w1.heap.size≠w.heap.size;omega
 .intro e
  have:=h.lt e;have:w1.heap.size<w.heap.size:=this;omega
 .intro e
  have:=h.lt e;have:w.heap.size<w.heap.size:=this;omega
 .rw[wQ hf];rfl
 .rw[wQ hf]at l;cases l
 .simp[lV,dw]at h1
structure aK where
 bj:Nat
 gen:Nat
 root:Nat
 aL:Nat
 C:b3
 sb:Nat
 n:Nat
 f:Nat->al
 g:Nat->al
 s1:ad
 s2:ad
 E:Nat->Prop
 G:Nat->Prop
 P:Nat->av aF
def aK.cv(T:aK)(E G:Nat->Prop):aK:={T with E:=E,G:=G}
def aK.bC(T:aK)(C:b3)(P:Nat->av aF):aK:={T with C:=C,P:=P}
def aK.X(T:aK)(q:Nat):Prop:=q=T.bj\/gE T.sb T.s1 T.s2 q\/T.E q\/T.G q
def aK.M(T:aK)(q:Nat):Prop:=c9 T.C q\/T.X q
def aK.N(T:aK)(q:Nat):Prop:=c9 T.C q\/q=T.bj\/gE T.sb T.s1 T.s2 q\/T.G q
theorem aK.gF{T:aK}{q:Nat}(h:T.N q):T.M q:=h.imp id (Or.imp id (Or.imp id .inr))
def gW(gen:Nat)(leaf:al)(no:Nat)(l:de)(n:aF):Prop:=
 ∃p:jo,fi (no:Int) l=.ok p/\p.gen<=gen/\p.kind=(if leaf then 1 else 2)/\lQ leaf p.body n/\2<=no
def lW(T:aK):O aa:=[.pointer (some T.C.c),.pointer (some T.sb),.int .u64 (T.gen:Nat),T.root,T.aL]
structure b7(w:J)(T:aK):Prop where
 t:Var w T.bj (lW T) 243
 s:fk w T.sb T.n T.f T.g T.s1 T.s2
 ca:ec T.X w T.C
 kq:¬gE T.sb T.s1 T.s2 T.bj
 dU:∀q,T.E q->q≠T.bj/\¬gE T.sb T.s1 T.s2 q/\¬T.G q
 js:∀q,T.G q->q≠T.bj/\¬gE T.sb T.s1 T.s2 q
 n:T.C.D.n=T.n
 num:T.root<T.n/\T.aL<=12/\T.gen<18446744073709551616
 eT:∀no cg,T.P no=some cg->no<T.n/\gW T.gen cg.leaf no (T.C.view no) cg
 b6:∀j,T.C.D.b6 j=true->T.g j=true\/T.C.D.ro
 low:T.g 0=true/\T.g 1=true
structure bS(T au:aK)(w w':J)(k:Nat):Prop where
 bj:au.bj=T.bj
 sb:au.sb=T.sb
 n:au.n=T.n
 g:au.g=T.g
 s1:au.s1=T.s1
 s2:au.s2=T.s2
 c:au.C.c=T.C.c
 d:au.C.D.d=T.C.D.d
 b5:au.C.D.key=T.C.D.key
 gen:au.gen=T.gen
 a7:au.C.D.a7<=T.C.D.a7+k
 calm:∀m,T.C.D.calm (m+k)->au.C.D.calm m
 ah:af T.N w w'
 c1:∀q,au.M q->T.M q\/w.heap.size<=q
 fn:∀q,au.N q->T.N q\/w.heap.size<=q
theorem bS.b6{T au:aK}{w w':J}{k:Nat}(h:bS T au w w' k):au.C.D.b6=T.C.D.b6/\au.C.D.eI=T.C.D.eI:=by
 have:=congrArg Prod.fst h.b5;exact⟨congrArg (λp=>p.2.1) this,congrArg (λp=>p.2.2.1) this⟩
theorem bS.refl(T:aK)(w:J):bS T T w w 0:=⟨rfl,rfl,rfl,rfl,rfl,rfl,rfl,rfl,rfl,rfl,bl _,λ_ h=>h,.refl _ _,λ_ h=>.inl h,λ_ h=>.inl h⟩
theorem bS.ext{w w':J}(T:aK)(h:Ext w w'):bS T T w w' 0:=⟨rfl,rfl,rfl,rfl,rfl,rfl,rfl,rfl,rfl,rfl,bl _,λ_ h=>h,af.cW h,λ_ h=>.inl h,λ_ h=>.inl h⟩
theorem bS.trans{T au b:aK}{w w' e:J}{k l:Nat}(h1:bS T au w w' k)(h2:bS au b w' e l):bS T b w e (k+l):=by
 have hs:=h1.ah.size;refine⟨h2.bj.trans h1.bj,h2.sb.trans h1.sb,h2.n.trans h1.n,h2.g.trans h1.g,h2.s1.trans h1.s1,h2.s2.trans h1.s2,h2.c.trans h1.c,h2.d.trans h1.d,h2.b5.trans h1.b5,h2.gen.trans h1.gen,by have:=h1.a7;have:=h2.a7;omega,
  λm f=>h2.calm m (h1.calm (m+l) (by rw[show m+l+k=m+(k+l) from I];exact f)),c0 h1.ah h2.ah λq a h=>(h1.fn q h).resolve_right I,λq a=>?_,λq a=>?_⟩
 .rcases h2.c1 q a with h|h
  .exact h1.c1 q h
  .exact .inr I
 .rcases h2.fn q a with h|h
  .exact h1.fn q h
  .exact .inr I
theorem bS.mono{T au:aK}{w w':J}{k l:Nat}(h:bS T au w w' k)(b:k<=l):bS T au w w' l:=
 ⟨h.bj,h.sb,h.n,h.g,h.s1,h.s2,h.c,h.d,h.b5,h.gen,by have:=h.a7;omega,λm a=>h.calm m (gf a I),h.ah,h.c1,h.fn⟩
theorem bS.cg{T au:aK}{w w':J}{k lo:Nat}(h:bS T au w w' k){n:aF}{K V D:ad}(d:bU (λq=>lo<=q/\¬T.M q) w n K V D):bU (λq=>lo<=q/\¬au.M q) w' n K V D:=by
 have h1:bU (λq=>q<w.heap.size/\lo<=q/\¬T.M q) w n K V D:=d.a_ λq b a=>⟨b,a⟩;refine(bU.ah h1 h.ah λq b c=>b.2.2 (aK.gF c)).a_ λq _ a=>⟨a.2.1,λc=>?_⟩;rcases h.c1 q c with h2|h2
 .exact a.2.2 h2
 .have:=a.1;omega
section
variable {w w':J}{T au:aK}
theorem bS.step{W E G:Nat->Prop}{w1:J}{k:Nat}(h:bS T au w w1 k)(hc:af W w1 w')(cx:∀q,W q->q<w.heap.size->T.N q)(e:∀q,E q->au.E q\/au.G q\/w.heap.size<=q)(b:∀q,G q->au.G q\/w.heap.size<=q):bS T (au.cv E G) w w' k:=by
 refine⟨h.bj,h.sb,h.n,h.g,h.s1,h.s2,h.c,h.d,h.b5,h.gen,h.a7,h.calm,c0 h.ah hc λq a f=>cx q f a,λq a=>?_,λq a=>?_⟩
 .rcases a with a|a|a|a|a
  .exact h.c1 q (.inl a)
  .exact h.c1 q (.inr (.inl a))
  .exact h.c1 q (.inr (.inr (.inl a)))
  .rcases e q a with h1|h1|h1
   .exact h.c1 q (.inr (.inr (.inr (.inl h1))))
   .exact h.c1 q (.inr (.inr (.inr (.inr h1))))
   .exact .inr h1
  .rcases b q a with h1|h1
   .exact h.c1 q (.inr (.inr (.inr (.inr h1))))
   .exact .inr h1
 .rcases a with a|a|a|a
  .exact h.fn q (.inl a)
  .exact h.fn q (.inr (.inl a))
  .exact h.fn q (.inr (.inr (.inl a)))
  .rcases b q a with h1|h1
   .exact h.fn q (.inr (.inr (.inr h1)))
   .exact .inr h1
theorem bS.local{bN kr a y6:Nat->Prop}{w1:J}{k:Nat}(h:bS (T.cv bN a) au w1 w' k)(hx:Ext w w1)(b:∀q,bN q->T.E q\/w.heap.size<=q)(c:∀q,a q->T.G q\/w.heap.size<=q)
 (d:∀q,kr q->au.E q\/au.G q) (e:∀q,y6 q->au.G q):bS T (au.cv kr y6) w w' k:=by
 have h0:bS T (T.cv bN a) w w1 0:=(bS.ext T (w:=w) (w':=w) (af.refl _ _)).step (W:=λ_=>False) hx (λ_ h=>h.elim) (λq h=>(b q h).imp id .inr) c;have h1:=h0.trans h;rw[cT]at h1;exact h1.step (W:=λ_=>False) (af.refl _ _) (λ_ h=>h.elim) (λq h=>(d q h).imp id .inl) λq h=>.inl (e q h)
theorem b7.lt(h:b7 w T){q:Nat}(a:T.M q):q<w.heap.size:=by
 rcases a with a|a
 .exact h.ca.raw.lt a
 .exact(h.ca.inv.fc q a).1
theorem b7.kL(h:b7 w T){q:Nat}(b:T.E q):¬T.N q:=by
 rintro(a|a|a|a)
 .exact(h.ca.inv.fc q (.inr (.inr (.inl b)))).2 a
 .exact(h.dU q b).1 a
 .exact(h.dU q b).2.1 a
 .exact(h.dU q b).2.2 a
theorem b7.ext(h:b7 w T)(hx:Ext w w'):b7 w' T:=⟨h.t.ext hx,h.s.ext hx,h.ca.ext hx,h.kq,h.dU,h.js,h.n,h.num,h.eT,h.b6,h.low⟩
theorem ec.grow{X d W:Nat->Prop}{C:b3}(h:ec X w C)(hc:af W w w')(cx:∀q,W q->q<w.heap.size->X q)(e:∀q,d q->X q\/(w.heap.size<=q/\q<w'.heap.size)):ec d w' C:=by
 have g:af X w w':=c0 (W:=X) (af.refl _ _) hc λq a i=>cx q i a;refine⟨h.raw.ah g λq a hx=>(h.inv.fc q hx).2 a,h.inv.pins,λf hf j=>?_,h.inv.un,λq a=>?_,h.inv.pg⟩
 .obtain⟨no,aw,ay,k,m,n,o,p⟩:=h.inv.ok f hf j
  have r:bw (λq=>q<w.heap.size/\¬c9 C q/\¬X q) w f.b f.l:=bw.a_ k λq a c=>⟨a,c⟩;refine⟨no,aw,ay,bw.a_ (bw.ah r g λq a hx=>a.2.2 hx) λq _ c=>⟨c.2.1,λs=>?_⟩,m,n,o,p⟩;rcases e q s with h1|h1
  .exact c.2.2 h1
  .have:=c.1;omega
 .rcases e q a with h1|h1
  .exact⟨ff (h.inv.fc q h1).1 hc.size,(h.inv.fc q h1).2⟩
  .exact⟨h1.2,λhf=>by have:=h.raw.lt hf;omega⟩
theorem b7.grow{E G W:Nat->Prop}(h:b7 w T)(hc:af W w w')(cx:∀q,W q->q<w.heap.size->T.E q\/T.G q)(c:∀q,E q->T.E q\/T.G q\/(w.heap.size<=q/\q<w'.heap.size))(f:∀q,G q->T.E q\/T.G q\/(w.heap.size<=q/\q<w'.heap.size))(j:∀q,E q->¬G q):b7 w' (T.cv E G):=by
 have b:∀q,T.E q\/T.G q->q≠T.bj/\¬gE T.sb T.s1 T.s2 q:=λq a=>by
  rcases a with a|a
  .exact⟨(h.dU q a).1,(h.dU q a).2.1⟩
  .exact h.js q a
 have g:af (λq=>T.E q\/T.G q) w w':=c0 (W:=λq=>T.E q\/T.G q) (af.refl _ _) hc λq a k=>cx q k a;have d:∀q,T.E q\/T.G q\/(w.heap.size<=q/\q<w'.heap.size)->q≠T.bj/\¬gE T.sb T.s1 T.s2 q:=λq a=>by
  rcases a with a|a|a
  .exact b q (.inl a)
  .exact b q (.inr a)
  .exact⟨λe=>by have h2:=h.lt (q:=q) (.inr (.inl e));omega,λe=>by have h2:=h.lt (q:=q) (.inr (.inr (.inl e)));omega⟩
 have i:∀q,T.E q\/T.G q\/(w.heap.size<=q/\q<w'.heap.size)->T.X q\/(w.heap.size<=q/\q<w'.heap.size):=λq a=>by
  rcases a with a|a|a
  .exact .inl (.inr (.inr (.inl a)))
  .exact .inl (.inr (.inr (.inr a)))
  .exact .inr a
 refine⟨h.t.ah g λe=>(b _ e).1 rfl,h.s.ah g λq a e=>(b q e).2 a,h.ca.grow hc (λq a l=>.inr (.inr (cx q a l))) λq a=>?_,h.kq,λq a=>⟨(d q (c q a)).1,(d q (c q a)).2,j q a⟩,λq a=>d q (f q a),h.n,h.num,h.eT,h.b6,h.low⟩;rcases a with a|a|a|a
 .exact .inl (.inl a)
 .exact .inl (.inr (.inl a))
 .exact i q (c q a)
 .exact i q (f q a)
theorem b7.cells(h:b7 w T):w.cell? T.bj=some (.pointer (some T.C.c))/\w.cell? (Addr.add T.bj 1)=some (.pointer (some T.sb))/\w.cell? (Addr.add T.bj 2)=some (.int .u64 (T.gen:Nat))/\
 w.cell? (Addr.add T.bj 3)=some (.int .i64 (T.root:Nat))/\w.cell? (Addr.add T.bj 4)=some (.int .i64 (T.aL:Nat)):=by
 rw[aA,aA,aA,aA];exact⟨h.t.cell,h.t.cell,h.t.cell,h.t.cell,h.t.cell⟩
theorem b7.Im(h:b7 w T){no:Nat}(a:no<T.n):(T.C.view no).length=256:=by
 unfold b3.view
 cases hf:T.C.ao.find? λf=>f.full&&f.no==(no:Int) with
 |some f=>
  have h1:=je hf;have h2:=j6 hf;obtain⟨m,b⟩:=h.ca.inv.ok f h1 (by
   have:(f.full&&f.no==(no:Int))=true:=h2;exact(Bool.and_eq_true_iff.1 this).1)
  exact b.len
 |none=>exact h.ca.raw.dev.sK (by rw[h.n];exact a)
theorem b7.wq{aJ:b3}{k:Nat}{P:Nat->av aF}(h:b7 w T)(e:ec T.X w' aJ)(a:er T.C aJ w w' k)(f:∀no cg,P no=some cg->no<T.n/\gW T.gen cg.leaf no (aJ.view no) cg):
 b7 w' (T.bC aJ P)/\bS T (T.bC aJ P) w w' k:=by
 have hx:=h.ca.inv.fc;have hc:=a.ah;refine⟨⟨?_,h.s.ah hc λq b hf=>(hx q (.inr (.inl b))).2 hf,e,h.kq,h.dU,h.js,?_,h.num,f,λj l=>by unfold bc.ro;show T.g j=true\/∀i,aJ.D.b6 i=true;rw[a.b6];exact h.b6 j (by rw[←a.b6];exact l),h.low⟩,⟨rfl,rfl,rfl,rfl,rfl,rfl,a.c,a.d,a.b5,rfl,a.a7,a.calm,hc.mono λq _ b=>.inl b,?_,?_⟩⟩
 .have:=h.t.ah hc λhf=>(hx T.bj (.inl rfl)).2 hf
  unfold lW at this⊢;rw[←a.c]at this;exact this
 .show aJ.D.n=T.n
  rw[a.n,h.n]
 .rintro q (b|b)
  .rcases a.c1 q b with h1|h1
   .exact .inl (.inl h1)
   .exact .inr h1
  .exact .inl (.inr b)
 .rintro q (b|b)
  .rcases a.c1 q b with h1|h1
   .exact .inl (.inl h1)
   .exact .inr h1
  .exact .inl (.inr b)
end
def Io(T:aK)(leaf:al)(no:Nat)(e:Int):Prop:=
 (e=3/\¬T.C.D.calm 2)\/fi (no:Int) (T.C.view no)=.error e\/(e=4/\(∃p,fi (no:Int) (T.C.view no)=.ok p)/\∀n,¬gW T.gen leaf no (T.C.view no) n)
def pj(T:aK)(leaf:al)(no:Nat)(w:J)(v:aa)(w':J):Prop:=
 ∃aJ:b3,b7 w' (T.bC aJ T.P)/\bS T (T.bC aJ T.P) w w' 2/\(∀j,aJ.view j=T.C.view j)/\
  ((∃ (n:aF) (K V D:ad),v=.tuple #[dd n K V D,(0:Int)]/\gW T.gen leaf no (T.C.view no) n/\bU (λq=>w.heap.size<=q/\¬(T.bC aJ T.P).M q) w' n K V D)\/
    (∃e:Int,v=.tuple #[dd iV bJ bJ bJ,e]/\Io T leaf no e/\e≠0))
theorem CS{no:Int}{l:de}{e:Int}(h:fi no l=.error e):e≠0:=by
 intro he;subst he;unfold fi at h
 repeat' split at h
 all_goals first|(injection h with h;exact absurd h (by decide))|cases h
theorem Ip{no:Int}{l:de}{p:jo}(h:fi no l=.ok p):p.body.length<=256:=by
 unfold fi at h
 repeat' split at h
 all_goals first|(cases h;done)|skip
 rename_i h1 _ _ _ _ _;injection h with h
 rw[←h];show(List.take _ (List.drop 24 l)).length<=256;rw[cG,ed];omega
theorem CT{w':J}{h:Nat}{vs:O aa}(n g:Int)(s:ad)(a:Var w' h vs 137)(b:vs.length=3){K:J->Prop}(c:∀ai,Var ai h [n,.int .u64 g,s] 137->af (λq=>q=h) w' ai->ai.heap.size=w'.heap.size->K ai):
 bD w' h [n,.int .u64 g,s]/\(3:Nat)=3/\an (setCells w' h 0 [n,.int .u64 g,s]) K:=by
 refine⟨a.cj (by rw[b];rfl) ?_,rfl,cN a (us:=[n,.int .u64 g,s]) (by rw[b];rfl) rfl c⟩;intro v a;simp only[cY,fo,fy]at a;rcases a with rfl|rfl|rfl<;>trivial
theorem y7{w:J}{T:aK}(h:b7 w T)(aD:T.C.D.a7<=999999999){no:Nat}(ac:no<T.n)(ag:2<=no)(leaf:al):
 aI aj 175 #[.pointer (some T.bj),no,leaf] w (pj T leaf no w):=by
 have bd:=h.s.bu;have aE:=h.Im ac;refine okF (ae.vb (some T.bj) (no:Int) leaf) ax.vb func175 ?_;(delta ae.vb z4 ey ak xW Y fA aT r1 A9 t_ cm aG r0 k_;dsimp only);refine a8 (vs:=[false,(),(),()]) rfl λw1 aH am be=>?_;obtain⟨o,L⟩:∃o,o=λq=>T.G q\/q=w.heap.size:=⟨_,rfl⟩;have an:o w.heap.size:=by rw[L];exact .inr rfl
 have N:∀q,T.G q->o q:=λq c=>by rw[L];exact .inl c
 have O:∀q,o q->T.G q\/q=w.heap.size:=λq c=>by rw[L]at c;exact c
 have h1:b7 w1 (T.cv T.E o):=h.grow (W:=λ_=>False) am (λ_ h=>h.elim) (λq c=>.inl c) (λq c=>.inr ((O q c).imp id λe=>⟨I,I⟩)) λq c hg=>by
  rcases O q hg with h2|h2
  .exact(h.dU q c).2.2 h2
  .have:=h.lt (q:=q) (.inr (.inr (.inr (.inl c))));omega
 refine⟨_,rfl,_,h1.cells.1,(Ij h1.ca aD (no:=no) (by rw[h1.n];exact ac) ag).use ?_⟩;rintro _ m ⟨aJ,aL,R,t,aM⟩;obtain⟨S,aN⟩:=h1.wq (P:=T.P) aL R (λno cg aO=>by rw[t];exact h1.eT no cg aO);have bf:=R.ah.size;have ao:Var m w.heap.size [false,(),(),()] 169:=aH.ah R.ah λhf=>(h1.ca.inv.fc _ (.inr (.inr (.inr an)))).2 hf
 have fin:∀w':J,af (λq=>q=w.heap.size) m w'->b7 w' (T.bC aJ T.P)/\bS T (T.bC aJ T.P) w w' 2:=λw' hc=>by
  refine⟨S.grow (E:=T.E) (G:=T.G) hc (λq e _=>.inr (by rw[e];exact an)) (λq c=>.inl c) (λq c=>.inr (.inl (N q c))) λq c=>(h.dU q c).2.2,?_⟩;have aP:=aN.local am (λq c=>.inl c) (λq c=>(O q c).imp id λe=>I) (kr:=T.E) (y6:=T.G) (λq c=>.inl c) N;exact aP.step hc (λq e bg=>I) (λq c=>.inl c) λq c=>.inl c
 have aQ:∀ {w':J}{n:aF}{K V D:ad}{B:Nat->Prop},bU (λq=>m.heap.size<=q) w' n K V D->bU (λq=>w.heap.size<=q/\¬(T.bC aJ T.P).M q) w' n K V D:=λaR=>by
  refine aR.a_ λq _ c=>⟨I,λj=>?_⟩;have:q<m.heap.size:=S.lt (q:=q) (by
   rcases j with j|j|j|j|j
   .exact .inl j
   .exact .inr (.inl j)
   .exact .inr (.inr (.inl j))
   .exact .inr (.inr (.inr (.inl j)))
   .exact .inr (.inr (.inr (.inr (N q j)))))
  omega
 rcases aM with ⟨s,rfl,hs⟩|⟨rfl,aS⟩
 .refine⟨s,0,rfl,λd=>(by cases d),λ_=>(qq hs.1 hs.2.1 (by show(T.C.view no).length<=1000;rw[aE];omega) _).use ?_⟩
  rintro _ aU ⟨y,F⟩;have ap:=ao.ext F;have bh:=F.size;have aW:(T.cv T.E o).C.view no=T.C.view no:=rfl;rw[aW]at y
  cases g:fi (no:Int) (T.C.view no) with
  |error e=>
   rw[g]at y;obtain rfl:=y;refine⟨0,0,⟨none,0,0⟩,e,rfl,a8 (vs:=[(0:Int),.int .u64 0,()]) rfl λaY U u aZ=>?_⟩;refine CT 0 0 ⟨none,0,0⟩ U rfl λf aq v a0=>⟨λ_=>?_,λd=>?_⟩
   .have X:Var f w.heap.size [false,(),(),()] 169:=(ap.ext u).ah v I
    refine iW false bJ bJ bJ X rfl (Q:=λb K V D ai=>pj T leaf no w (.tuple #[.agg #[b,K,V,D],e]) ai) λl i=>?_;obtain⟨f1,f2⟩:=fin l (c0 (W:=λq=>q=w.heap.size) (af.cW (Ext.cu (F.trans u) v I)) i λq _ e=>e);exact⟨aJ,f1,f2,t,.inr ⟨e,rfl,.inr (.inl g),CS g⟩⟩
   .have:=CS g
    simp at d;omega
  |ok p=>
   rw[g]at y;obtain⟨z,rfl,Z,bi⟩:=y;refine⟨p.kind,p.gen,z,0,rfl,a8 (vs:=[(0:Int),.int .u64 0,()]) rfl λaY U u aZ=>?_⟩;refine CT p.kind p.gen z U rfl λf aq v a0=>⟨λd=>(by cases d),λ_=>aX ?_⟩;have X:Var f w.heap.size [false,(),(),()] 169:=(ap.ext u).ah v I;have a1:Ext m f:=Ext.cu (F.trans u) v I;have A:Ext m f.drew:=a1.trans (cA _);have aa:Var f.drew w.heap.size [false,(),(),()] 169:=X.drew;have H:=aq.drew;have a2:=(S.ext A).cells;obtain⟨b,d⟩:∃b,b=aU.heap.size:=⟨_,rfl⟩;rw[←d]at H⊢;have ab:f.drew.cell? b=some (.int .i64 (p.kind:Nat)):=H.cell;have a3:f.drew.cell? (Addr.add b 1)=some (.int .u64 (p.gen:Nat)):=by rw[aA];exact H.cell
   have a4:f.drew.cell? (Addr.add b 2)=some (.slice z.a z.len z.cap):=by rw[aA];exact H.cell
   have bk:m.heap.size<=f.drew.heap.size:=A.size;refine⟨id,_,a3,_,rfl,id,_,a2.2.2.1,λhg=>?_,λhg=>⟨id,_,ab,?_⟩⟩
   .have hg:T.gen<p.gen:=by
     have:(p.gen:Int)>(T.gen:Int):=cf hg;omega
    refine cw (λb w'=>b=true/\w'=f.drew) (λq c=>⟨λ_=>c _ _ ⟨rfl,rfl⟩,λh=>by cases h⟩) ?_;rintro _ _ ⟨rfl,rfl⟩;refine⟨λ_=>?_,λh=>(by cases h)⟩;refine iW false bJ bJ bJ aa rfl (Q:=λb K V D ai=>pj T leaf no w (.tuple #[.agg #[b,K,V,D],(4:Int)]) ai) λl i=>?_;obtain⟨f1,f2⟩:=fin l (c0 (W:=λq=>q=w.heap.size) (af.cW A) i λq _ e=>e);refine⟨aJ,f1,f2,t,.inr ⟨4,rfl,.inr (.inr ⟨rfl,⟨p,g⟩,?_⟩),by decide⟩⟩;rintro n ⟨ar,aw,ay,_⟩;rw[g]at aw;cases aw;omega
   .have hg:p.gen<=T.gen:=by
     have:¬(p.gen:Int)>(T.gen:Int):=cC hg;omega
    refine cw (λb w'=>w'=f.drew/\(b=false↔p.kind=(if leaf then 1 else 2))) (λq c=>⟨λh=>c _ _ ⟨rfl,?_⟩,λh=>⟨_,ab,cw (λb w'=>w'=f.drew/\(b=false↔p.kind=(if leaf then 1 else 2))) (λr au=>⟨λh2=>⟨_,ab,au _ _ ⟨rfl,?_⟩⟩,λh2=>au _ _ ⟨rfl,?_⟩⟩) λb w' a5=>c b w' a5⟩⟩) ?_
    .refine⟨λh=>(by cases h),λx=>?_⟩
     rw[x]at h
     cases leaf<;>simp at h
    .cases leaf
     .simp
      exact Int.ofNat_inj
     .simp at h2 h;omega
    .cases leaf
     .simp at h2 h;omega
     .simp at h2
      simp;omega
    rintro bl _ ⟨rfl,x⟩;refine⟨λd=>?_,λd=>⟨_,a4,(qw ((Z.ext (Ext.cu u v I|>.trans (cA _))).src) ?_ ?_ ?_ leaf).use ?_⟩⟩
    .refine iW false bJ bJ bJ aa rfl (Q:=λb K V D ai=>pj T leaf no w (.tuple #[.agg #[b,K,V,D],(4:Int)]) ai) λl i=>?_
     obtain⟨f1,f2⟩:=fin l (c0 (W:=λq=>q=w.heap.size) (af.cW A) i λq _ e=>e);refine⟨aJ,f1,f2,t,.inr ⟨4,rfl,.inr (.inr ⟨rfl,⟨p,g⟩,?_⟩),by decide⟩⟩;rintro n ⟨ar,aw,ay,av,_⟩;rw[g]at aw;cases aw;rw[x.2 av]at d;cases d
    .exact Z.2.1
    .intro k x
     have:=aV.lt Z k x;have:=u.size;show k<f.heap.size;omega
    .have:=Ip g
     omega
    rintro _ a6 ⟨a9,az⟩;have aB:Ext m a6:=A.trans az;have aC:=aa.ext az;rcases a9 with ⟨n,K,V,D,rfl,ba,ej⟩|⟨rfl,bb⟩
    .refine⟨n.leaf,K,V,D,0,rfl,?_⟩
     refine iW n.leaf K V D aC rfl (Q:=λb K V D ai=>pj T leaf no w (.tuple #[.agg #[b,K,V,D],(0:Int)]) ai) λl i=>?_;obtain⟨f1,f2⟩:=fin l (c0 (W:=λq=>q=w.heap.size) (af.cW aB) i λq _ e=>e);refine⟨aJ,f1,f2,t,.inl ⟨n,K,V,D,rfl,⟨p,g,hg,x.1 d,ba,ag⟩,?_⟩⟩;refine aQ (B:=λ_=>True) (bU.ah (ej.a_ λq _ c=>?_) i λq c e=>?_)
     .omega
     .have:m.heap.size<=q:=c
      omega
    .refine⟨false,bJ,bJ,bJ,4,rfl,?_⟩
     refine iW false bJ bJ bJ aC rfl (Q:=λb K V D ai=>pj T leaf no w (.tuple #[.agg #[b,K,V,D],(4:Int)]) ai) λl i=>?_;obtain⟨f1,f2⟩:=fin l (c0 (W:=λq=>q=w.heap.size) (af.cW aB) i λq _ e=>e);refine⟨aJ,f1,f2,t,.inr ⟨4,rfl,.inr (.inr ⟨rfl,⟨p,g⟩,?_⟩),by decide⟩⟩;rintro n ⟨ar,aw,ay,av,bc,_⟩;rw[g]at aw;cases aw;exact bb n bc
 .refine⟨⟨none,0,0⟩,3,rfl,λ_=>?_,λd=>(by cases d)⟩
  refine iW false bJ bJ bJ ao rfl (Q:=λb K V D ai=>pj T leaf no w (.tuple #[.agg #[b,K,V,D],(3:Int)]) ai) λl i=>?_;obtain⟨f1,f2⟩:=fin l i;exact⟨aJ,f1,f2,t,.inr ⟨3,rfl,.inl ⟨rfl,aS⟩,by decide⟩⟩
structure dx where
 no:Nat
 n:aF
 cR:Nat
 K:ad
 V:ad
 D:ad
def dx.c(s:dx):O aa:=[s.no,s.n.leaf,s.K,s.V,s.D,s.cR]
def dx.st(s:dx):Nat×aF×Nat:=(s.no,s.n,s.cR)
theorem nJ(l:O dx):∀x∈l,(dx.c x).length=6:=λ_ _=>rfl
structure kt(B:Nat->Prop)(w:J)(s:ad)(l:O dx):Prop where
 own:aV 6 223 w s (bz dx.c l)
 pk:∀q,aB s q->B q
 cg:∀x∈l,bU B w x.n x.K x.V x.D
def nK(P:Nat->av aF)(k:Key):Nat->Nat->O (Nat×aF×Nat)->Prop
 |0,_,l=>l=[]
 |h+1,no,l=>∃n rest,P no=some n/\n.leaf=decide (h=0)/\l=(no,n,if h=0 then 0 else db n.keys k)::rest/\nK P k h (n.kids.getD (db n.keys k) 0) rest
theorem nK.length{P:Nat->av aF}{k:Key}:∀ {h no:Nat}{l:O (Nat×aF×Nat)},nK P k h no l->l.length=h
 |0,_,_,h=>by rw[h];rfl
 |h+1,_,_,⟨n,rest,_,_,a,b⟩=>by rw[a,f_,nK.length b]
theorem gW.uniq{gen no:Nat}{leaf:al}{l:de}{n m:aF}(h1:gW gen leaf no l n)(h2:gW gen leaf no l m):n=m:=by
 obtain⟨p,a1,a2,a3,a4⟩:=h1;obtain⟨q,cy,b4,b,a⟩:=h2;rw[a1]at cy
 cases cy;exact lQ.uniq a4.1 a.1
theorem gW.is{gen no:Nat}{leaf:al}{l:de}{n:aF}(h:gW gen leaf no l n):n.leaf=leaf/\cE n/\bE n<=232:=by
 obtain⟨p,_,_,_,a,_⟩:=h;exact⟨a.2.1,a.1,a.2.2.1⟩
theorem gW.two{gen no:Nat}{leaf:al}{l:de}{n:aF}(h:gW gen leaf no l n):2<=no:=by
 obtain⟨p,_,_,_,_,a⟩:=h;exact a
theorem cE.eW{n:aF}(h:cE n):n.keys.Pairwise bt:=by
 rcases h with h|h
 .exact h.eW
 .exact h.eW
def Iq(T:aK)(steps:O (Nat×aF×Nat))(w:J)(v:aa)(w':J):Prop:=
 ∃aJ:b3,b7 w' (T.bC aJ T.P)/\bS T (T.bC aJ T.P) w w' (2*T.aL)/\(∀j,aJ.view j=T.C.view j)/\
  ((∃ (s:ad) (l:O dx),v=.tuple #[s,(0:Int)]/\l.map dx.st=steps/\kt (λq=>w.heap.size<=q/\¬(T.bC aJ T.P).M q) w' s l)\/(v=.tuple #[(),(3:Int)]/\¬T.C.D.calm (2*T.aL)))
theorem Ir(w:J)(cs:Array aa)(h:cs.size=6):Sem.run aj (Instr.buildSlice 219 1 #[(0,.agg cs)]) w=.ok (.slice (some w.heap.size) 1 1) (w.alloc (.cells cs 223)):=by
 have h0:((Tryz.prog.info? 223).bind (·.zero)).isSome=true:=by kernel_rfl
 obtain⟨z,a⟩:=mM.1 h0;obtain⟨i,hi,b⟩:=sJ a;have h1:(Tryz.prog.underlying 223).isSome=true:=by kernel_rfl
 obtain⟨d,hd⟩:=mM.1 h1;exact yS (sz:=6) w (by kernel_rfl) hd (by kernel_rfl) hi b h (by decide) (by decide)
theorem Is:hA aj 219 223 6 96:=⟨by kernel_rfl⟩
end Go.Proofs.YtcmgnhkpfllinaaGreat
