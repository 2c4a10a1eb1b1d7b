/- Contracts of the functions that the statement reaches, and the plain laws over them; each theorem stands with its conditions. -/
import Derived.OpenShut
import Derived.Shelf.SlIterI.Nil
import Derived.Shelf.SortM.Plain
import Derived.Shelf.SortM.SortNone
import Derived.Test.YtcmgnhkpfllinaaGreatProg
import Derived.Test.YtcmgnhkpfllinaaGreatRows
import Derived.Test.YtcmgnhkpfllinaaGreatBSSteps2
namespace Go.Proofs.YtcmgnhkpfllinaaGreat
open Go aQ Go.Proofs.Tryz
section
variable {α:Type}{c:α->O aa}{sz:Nat}
def bn(c:α->O aa)(l:O α):O aa:=(l.map c).flatten
theorem lu(l m:O α):bn c (l++m)=bn c l++bn c m:=by simp[bn]
theorem qX(x:α)(l:O α):bn c (x::l)=c x++bn c l:=rfl
theorem fe:∀ (l:O α),(∀x∈l,(c x).length=sz)->(bn c l).length=l.length*sz
 | [],_=>by simp[bn]
 |x::l,h=>by
  rw[qX,cv,h x (by simp),fe l λy a=>h y (by simp[a]),gh,jf];omega
theorem Hq{l:O α}{i:Nat}(h:i<l.length):l=l.take i++l[i]::l.drop (i+1):=by rw[←j2 h,fK]
theorem yQ{l:O α}(hc:∀x∈l,(c x).length=sz){i:Nat}(h:i<l.length):(bn c l).take (i*sz)=bn c (l.take i)/\(bn c l).drop (i*sz)=c l[i]++bn c (l.drop (i+1)):=by
 have a:(bn c (l.take i)).length=i*sz:=by
  rw[fe _ λx hx=>hc x (fC hx),cz,h4 I]
 have e:bn c l=bn c (l.take i)++(c l[i]++bn c (l.drop (i+1))):=by
  conv=>lhs;rw[Hq h]
  rw[lu,qX]
 rw[e];exact⟨mJ a,drop_left' a⟩
theorem Cf{l:O α}(hc:∀x∈l,(c x).length=sz){i:Nat}(h:i<l.length):((bn c l).drop (i*sz)).take sz=c l[i]:=by
 rw[(yQ hc h).2];exact mJ (hc _ (cP h))
theorem wm{l:O α}(hc:∀x∈l,(c x).length=sz){i j:Nat}(h:i<l.length)(a:j<sz):(bn c l)[i*sz+j]? =(c l[i])[j]? :=by
 rw[←Cf hc h,List.getElem?_take_of_lt a,s5]
theorem Cg{l:O α}(hc:∀x∈l,(c x).length=sz){i:Nat}(h:i<l.length)(x:α):(bn c l).take (i*sz)++c x++(bn c l).drop (i*sz+sz)=bn c (l.set i x):=by
 have h1:=yQ hc h;have h2:(bn c l).drop (i*sz+sz)=bn c (l.drop (i+1)):=by
  rw[←kZ,h1.2];exact drop_left' (hc _ (cP h))
 rw[h1.1,h2,wY,if_pos h,lu,qX,cD]
theorem Hr{l:O α}(hc:∀x∈l,(c x).length=sz){i j:Nat}(h:i<l.length)(a:j<sz){x:α}{v:aa}(hx:c x=(c l[i]).set j v):(bn c l).set (i*sz+j) v=bn c (l.set i x):=by
 have b:(c l[i]).length=sz:=hc _ (cP h);have h1:=yQ hc h;have e:bn c l=bn c (l.take i)++(c l[i]++bn c (l.drop (i+1))):=by
  conv=>lhs;rw[←fK (i*sz) (bn c l),h1.1,h1.2]
 have d:(bn c (l.take i)).length=i*sz:=by
  rw[fe _ λx hx=>hc x (fC hx),cz,h4 I]
 rw[e,ta _ _ I,show i*sz+j-(bn c (l.take i)).length=j from I,List.set_append_left _ _ I,←hx,wY,if_pos h,lu,qX]
end
section
variable {α:Type} [DecidableEq α] {P:Program}{w:J}{hF lO T:TypeId}{enc:α->aa}{r:Nat}{M:O (α×aa)}{k:α}{v:aa}
theorem Hs(f:ng P hF enc)(j:P.underlying T=some (.map hF lO))(h:eH w r enc M)(l:∀v,(k,v)∉M)(v:aa):
 ∃w1:J,(Instr.mapUpdate T (.map (some r)) (enc k) v).run P w=.ok () w1/\af (λq=>q=r) w w1/\w1.heap.size=w.heap.size/\eH w1 r enc ((k,v)::M):=by
 have aH:=h.lt;obtain⟨L,c,h,h1,h2,m,g⟩:=h;have i:=A4 h1 l;have hf:=f.find L k w;rw[xE i]at hf;refine⟨iw w r (.map ((L.map (eu enc)).toArray.push ⟨enc k,v,c⟩) (c+1)),?_,rZ _ _ _,tS _ _ _,L++ [(k,v,c)],c+1,?_,?_,?_,?_,?_⟩
 .simp only[Instr.mapUpdate,Sem.run_bind,c3 j,Result.andThen,mx h,Sem.run_pure,f.check,hf,xG h]
 .rw[tT aH]
  simp[eu]
 .rw[fP]
  have:([(k,v,c)]:O (α×aa×Nat)).map mv=[(k,v)]:=rfl;rw[this];exact(rq).trans (List.Perm.cons _ h1)
 .rw[fP,s9]
  refine⟨h2,by simp,λa e b d=>?_⟩;obtain⟨x,hx,rfl⟩:=fJ.1 e;simp only[g_,List.map_nil,fj]at d;subst d;exact i x hx
 .rw[fP,s9]
  refine⟨m,by simp,λa e b d=>?_⟩;obtain⟨x,hx,rfl⟩:=fJ.1 e;simp only[g_,List.map_nil,fj]at d;subst d;have:=g x hx;omega
 .intro x hx
  rcases cO.1 hx with hx|hx
  .have:=g x hx;omega
  .rw[fj.1 hx];show c<c+1;omega
theorem Ht(c:ng P hF enc)(g:P.underlying T=some (.map hF lO))(h:eH w r enc ((k,v)::M))(b:aa):
 ∃w1:J,(Instr.mapUpdate T (.map (some r)) (enc k) b).run P w=.ok () w1/\af (λq=>q=r) w w1/\w1.heap.size=w.heap.size/\eH w1 r enc ((k,b)::M):=by
 have aH:=h.lt;obtain⟨n,bd,bx,a,f,h,h1,h2,i,d,_⟩:=h.split;have hf:=c.find (bd++(k,v,a)::bx) k w;rw[xF (A3 h2),cR]at hf;have hg:((bd++(k,v,a)::bx).map (eu enc)).toArray[bd.length]? =some ⟨enc k,v,a⟩:=by simp[eu]
 have j:((bd++(k,v,a)::bx).map (eu enc)).toArray.modify bd.length (λe=>{e with key:=enc k,val:=b})=((bd++(k,b,a)::bx).map (eu enc)).toArray:=by
  apply Array.toList_inj.1;rw[Array.toList_modify,fP,g_];have:=A2 (λe=>{e with key:=enc k,val:=b}) (eu enc (k,v,a)) (bx.map (eu enc)) (bd.map (eu enc));rw[dn]at this;rw[this];simp[eu]
 refine⟨iw w r (.map ((bd++(k,b,a)::bx).map (eu enc)).toArray f),?_,rZ _ _ _,tS _ _ _,bd++(k,b,a)::bx,f,tT aH _,?_,?_,?_,?_⟩
 .simp only[Instr.mapUpdate,Sem.run_bind,c3 g,Result.andThen,mx h,Sem.run_pure,c.check,hf,hg,l_,Option.getD_some,Instr.keyThatStays,c.bits,if_true,xG h,j]
 .rw[fP,g_]
  rw[fP]at h1;exact m0.trans (h1.cons _)
 .simpa using h2
 .simpa using i
 .intro x hx
  rcases cO.1 hx with hx|hx
  .exact d x (by simp[hx])
  .rcases c0.1 hx with rfl|hx
   .exact d (k,v,a) (by simp)
   .exact d x (by simp[hx])
end
abbrev dh:=O UInt8
structure hT where
 i:Nat
 s:ad
 iD:O dh
structure bc where
 d:Nat
 lb:Nat
 mr:Nat
 cl:O Int
 b7:O dh
 waits:O hT
 writes:Int
 a7:Nat
 b9:Nat->al
 eL:Nat->O dh
 r1:al
def hT.e(x:hT):Int×aa:=((x.i:Int),x.s)
def bc.c(D:bc):O aa:=D.cl.map (.int .i64)++ [.slice (some ⟨D.lb,0,none⟩) D.b7.length D.b7.length,.map (some D.mr),.int .i64 D.writes]
def bc.n(D:bc):Nat:=D.b7.length
abbrev encZ:Int->aa:=λn=>n
theorem qY:ng aj 3 encZ:=ng.int (by kernel_rfl)
theorem nH:Tryz.prog.underlying 125=some (.map 3 124):=by kernel_rfl
theorem Ch:(Tryz.prog.info? 124).bind (·.zero)=some (.slice none 0 0):=by kernel_rfl
theorem sK{P:Program}{T:TypeId}{z:aa}(h:(P.info? T).bind (·.zero)=some z):∃i,P.info? T=some i/\i.zero=some z:=by
 cases hi:P.info? T with
 |none=>rw[hi]at h;cases h
 |some i=>rw[hi]at h;exact⟨i,rfl,h⟩
def cq(D:bc)(q:Nat):Prop:=q=D.d\/q=D.lb\/q=D.mr\/∃x∈D.waits,aB x.s q
structure di(w:J)(D:bc):Prop where
 v:Var w D.d D.c 129
 l:bj w D.lb (bn az D.b7).toArray 151
 m:eH w D.mr encZ (D.waits.map hT.e)
 ws:∀x∈D.waits,aT 256 151 w x.s (bn az x.iD)
 wn:∀x∈D.waits,x.iD≠ []/\x.i<D.n/\x.iD.length<=D.a7
 sl:∀s∈D.b7,s.length=256
 nI:∀x∈D.waits,∀s∈x.iD,s.length=256
 cc:16<=D.n
 bB:D.n<=1600
 f4:D.cl.length=4
 fr:∀x∈D.cl, -1<=x/\x<=9223372036854775807
 a1:D.d≠D.lb/\D.d≠D.mr/\D.lb≠D.mr
 a2:∀x∈D.waits,¬aB x.s D.d/\¬aB x.s D.lb/\¬aB x.s D.mr
 a3:∀x∈D.waits,∀y∈D.waits,x.i≠y.i->∀q,aB x.s q->¬aB y.s q
 r:D.r1=true->D.cl.getD 1 0= -1
theorem Hu{cl:O Int}{k:Nat}{x:Int}(a:cl.length=4)(h:cl.getD 1 0= -1)(hx:k=1->x= -1):(cl.set k x).getD 1 0= -1:=by
 rw[fQ]at h⊢;by_cases e:k=1
 .subst e
  rw[List.getElem?_set_self I,hx rfl];rfl
 .rw[List.getElem?_set_ne e];exact h
section
variable {w w':J}{D:bc}
theorem di.ah{W:Nat->Prop}(h:di w D)(hc:af W w w')(a:∀q,cq D q->¬W q):di w' D:=
 ⟨h.v.ah hc (a _ (.inl rfl)),bj.ah h.l hc (a _ (.inr (.inl rfl))),h.m.ah hc (a _ (.inr (.inr (.inl rfl)))),λx hx=>(h.ws x hx).ah hc λq b=>a q (.inr (.inr (.inr ⟨x,hx,b⟩))),h.wn,h.sl,h.nI,h.cc,h.bB,h.f4,h.fr,h.a1,h.a2,h.a3,h.r⟩
theorem di.ext(h:di w D)(hc:Ext w w'):di w' D:=h.ah hc λ_ _ h=>h
theorem di.lt(h:di w D){q:Nat}(a:cq D q):q<w.heap.size:=by
 rcases a with rfl|rfl|rfl|⟨x,hx,a⟩
 .exact h.v.lt
 .exact bj.lt h.l
 .exact h.m.lt
 .exact(h.ws x hx).lt q a
theorem di.Hv(h:di w D){k:Nat}(a:k<4):w.cell? ⟨D.d,k,none⟩=some (.int .i64 (D.cl.getD k 0)):=by
 rw[h.v.cell];unfold bc.c;have:=h.f4;rw[tb (by rw[dn];omega),n2,dI I,fH I];rfl
theorem di.fL(h:di w D):w.cell? (Addr.add ⟨D.d,0,none⟩ 4)=some (.slice (some ⟨D.lb,0,none⟩) D.b7.length D.b7.length):=by
 rw[aA,h.v.cell];unfold bc.c;have:=h.f4;rw[il (by rw[dn];omega),dn,this];rfl
theorem di.iY(h:di w D):w.cell? (Addr.add ⟨D.d,0,none⟩ 5)=some (.map (some D.mr)):=by
 rw[aA,h.v.cell];unfold bc.c;have:=h.f4;rw[il (by rw[dn];omega),dn,this];rfl
theorem di.yR(h:di w D):D.c.length=7:=by
 unfold bc.c;have:=h.f4;simp;omega
def bc.now(D:bc)(i:Nat):dh:=match D.waits.find? λx=>x.i==i with
 |some x=>x.iD.getLastD []
 |none=>D.b7.getD i []
theorem Hw{α:Type}{l:O α}{d:α}(h:l≠ []):l.getLastD d∈l:=by
 cases l with
 |nil=>exact absurd rfl h
 |cons a l=>
  rw[List.getLastD_cons];rw[←List.getLast_eq_getLastD];exact List.getLast_mem h
theorem di.sL(h:di w D){i:Nat}(hi:i<D.n):(D.now i).length=256:=by
 unfold bc.now
 cases hf:D.waits.find? λx=>x.i==i with
 |some x=>
  have hx:=j9 hf;exact h.nI x hx _ (Hw (h.wn x hx).1)
 |none=>
  have a:i<D.b7.length:=hi;rw[show(match (none:av hT) with|some x=>x.iD.getLastD []|none=>D.b7.getD i [])=D.b7.getD i [] from rfl,fH a];exact h.sl _ (cP _)
theorem wo(h:di w D):aI aj 55 #[.pointer (some D.d)] w (λv w'=>v=D.n/\w=w'):=by
 refine okF (ae.uI (some D.d)) ax.uI func55 ?_;(delta ae.uI ak r1;dsimp only);exact⟨λh=>(by cases h),λ_=>⟨_,rfl,⟨some D.lb,D.b7.length,D.b7.length⟩,h.fL,rfl,rfl⟩⟩
theorem Ci(h:di w D)(i:Int):aI aj 85 #[.pointer (some D.d),i] w (λv w'=>v=.bool (decide (0<=i/\i<D.n))/\w=w'):=by
 refine okF (ae.uT (some D.d) i) ax.uT func85 ?_;(delta ae.uT ak r1;dsimp only);refine cx (λb w'=>b=decide (0<=i/\i<D.n)/\w=w') (λq c=>⟨λa=>⟨_,rfl,⟨some D.lb,D.b7.length,D.b7.length⟩,h.fL,c _ _ ⟨?_,rfl⟩⟩,λa=>c _ _ ⟨?_,rfl⟩⟩) ?_
 .have a:0<=i:=by simpa using a
  rw[e0,cg,cg];exact⟨λh=>⟨a,h⟩,λh=>h.2⟩
 .have a:¬0<=i:=by simpa using a
  rw[h6 (λh=>a h.1)]
 .rintro _ _ ⟨rfl,rfl⟩
  exact⟨rfl,rfl⟩
end
def gL(f:Int):al×Int:=if f= -1 then (false, -1) else if f=0 then (true, -1) else (false,f-1)
theorem Hx{f:Int}(h: -1<=f/\f<=9223372036854775807): -1<=(gL f).2/\(gL f).2<=9223372036854775807:=by
 unfold gL;split
 .exact⟨by decide,by decide⟩
 .split
  .exact⟨by decide,by decide⟩
  .show -1<=f-1/\f-1<=_;omega
def bc.cJ(D:bc)(k:Nat):bc:={D with cl:=D.cl.set k (gL (D.cl.getD k 0)).2}
def bc.gg(D:bc)(k:Nat):al:=(gL (D.cl.getD k 0)).1
theorem yS{w:J}{D:bc}(h:di w D){k:Nat}(p:k<4):
 aI aj 117 #[.pointer (some D.d),k] w (λv w'=>v=.bool (D.gg k)/\di w' (D.cJ k)/\af (λq=>q=D.d) w w'/\w'.heap.size=w.heap.size):=by
 have hf:=h.Hv p;have g:=h.f4;have s: -1<=D.cl.getD k 0/\D.cl.getD k 0<=9223372036854775807:=by rw[fH I];exact h.fr _ (cP _)
 have j:∀ (w1:J),di w1 D->di (w1.setCell ⟨D.d,k,none⟩ (.int .i64 (gL (D.cl.getD k 0)).2)) (D.cJ k):=by
  intro w1 h1;have hc:=ed w1 D.d k (.int .i64 (gL (D.cl.getD k 0)).2);have n:=eE h1.v (i:=k) (.int .i64 (gL (D.cl.getD k 0)).2);have e:D.c.set k (.int .i64 (gL (D.cl.getD k 0)).2)=(D.cJ k).c:=by
   unfold bc.c bc.cJ;rw[List.set_append_left _ _ (by rw[dn];omega),←List.map_set]
  rw[e]at n;refine⟨n,bj.ah h1.l hc (λe=>h.a1.1 e.symm),h1.m.ah hc (λe=>h.a1.2.1 e.symm),λx hx=>(h1.ws x hx).ah hc λq t e=>(h.a2 x hx).1 (by subst e;exact t),h.wn,h.sl,h.nI,h.cc,h.bB,by show(D.cl.set k _).length=4;rw[dr];exact g,λx hx=>?_,h.a1,h.a2,h.a3,λo=>Hu g (h.r o) λe=>by subst e;rw[h.r o];rfl⟩;rcases m6 hx with hx|rfl
  .exact h.fr x hx
  .exact Hx s
 have f:Addr.add D.d (Int.toNat (k:Int)*1)=⟨D.d,k,none⟩:=by rw[dc,fB,aA,cR]
 refine okF (ae.u3 (some D.d) (k:Int)) ax.u3 func117 ?_;(delta ae.u3 aG ak st aq;dsimp only);refine⟨_,rfl,⟨I,by show(k:Int)<4;omega⟩,D.cl.getD k 0,by rw[f];exact hf,λh1=>?_,λh1=>⟨λh2=>⟨_,rfl,⟨I,by show(k:Int)<4;omega⟩,?_⟩,λh2=>aX ⟨_,rfl,⟨I,by show(k:Int)<4;omega⟩,id,_,by rw[f];exact hf,_,rfl,⟨I,by show(k:Int)<4;omega⟩,?_⟩⟩⟩
 .have h1:D.cl.getD k 0= -1:=by simpa using h1
  have a:D.gg k=false:=by unfold bc.gg gL;rw[if_pos h1]
  have b:D.cJ k=D:=by
   unfold bc.cJ gL;rw[if_pos h1];have:D.cl.set k (-1)=D.cl:=by
    rw[←h1,fH I];exact List.set_getElem_self _
   rw[this]
  rw[a,b];exact⟨rfl,h,.refl _ _,rfl⟩
 .have h1:D.cl.getD k 0≠ -1:=by simpa using h1
  have h2:D.cl.getD k 0=0:=by simpa using h2
  have hs:=eF h.v (i:=k) (by rw[h.yR];omega);have a:D.gg k=true:=by unfold bc.gg gL;rw[if_neg h1,if_pos h2]
  have b:(gL (D.cl.getD k 0)).2= -1:=by unfold gL;rw[if_neg h1,if_pos h2]
  have:=j w h;rw[b]at this;rw[f,a];exact⟨hs.1,hs.2,aX ⟨rfl,this,ed _ _ _ _,by simp[World.setCell]⟩⟩
 .have h1:D.cl.getD k 0≠ -1:=by simpa using h1
  have h2:D.cl.getD k 0≠0:=by simpa using h2
  have hd:=h.ext (cG w);have hs:=eF hd.v (i:=k) (by rw[h.yR];omega);have a:D.gg k=false:=by unfold bc.gg gL;rw[if_neg h1,if_neg h2]
  have b:(gL (D.cl.getD k 0)).2=D.cl.getD k 0-1:=by unfold gL;rw[if_neg h1,if_neg h2]
  have:=j w.drew hd;rw[b]at this;rw[f,a,bq I I];exact⟨hs.1,hs.2,aX ⟨rfl,this,(af.cX (cG w)).trans (ed _ _ _ _),by simp[World.setCell]⟩⟩
def bc.ff(D:bc)(i:Nat):O dh:=match D.waits.find? λx=>x.i==i with
 |some x=>x.iD
 |none=> []
theorem yT(D:bc)(h:∀x∈D.waits,x.iD≠ [])(i:Nat):D.now i=if D.ff i=[] then D.b7.getD i [] else (D.ff i).getLastD []:=by
 unfold bc.now bc.ff
 cases hf:D.waits.find? λx=>x.i==i with
 |some x=>
  have hx:=j9 hf;simp only;rw[if_neg (h x hx)]
 |none=>simp
def bc.calm(D:bc)(k:Nat):Prop:=(D.cl.getD 1 0= -1\/(k:Int)<=D.cl.getD 1 0)/\(D.cl.getD 2 0= -1\/(k:Int)<=D.cl.getD 2 0)
def bc.kq(D:bc):Int->Prop:=λn=>(∀j,D.b9 j=true)->D.writes=n
def bc.ro(D:bc):Prop:=∀i,D.b9 i=true
def bc.key(D:bc):(O dh×(Nat->al)×(Nat->O dh)×(Int->Prop)×al)×Int:=((D.b7,D.b9,D.eL,D.kq,D.r1),D.cl.getD 3 0)
theorem c5{W V:Nat->Prop}{w w' b:J}(h1:af W w w')(h2:af V w' b)(h:∀q,q<w.heap.size->V q->W q):af W w b:=
 ⟨h2.os.trans h1.os,h2.tape.trans h1.tape,h2.output.trans h1.output,eG h1.size h2.size,λk a cA=>(h2.block k (fi a h1.size) λc=>cA (h k a c)).trans (h1.block k a cA)⟩
theorem gm{D:bc}{k l:Nat}(h:D.calm k)(a:l<=k):D.calm l:=⟨h.1.imp id λh=>I,h.2.imp id λh=>I⟩
theorem jS{D:bc}{k m:Nat}(c:k=1\/k=2)(f:D.cl.length=4)(h:D.calm (m+1)):(D.cJ k).calm m/\D.gg k=false:=by
 obtain⟨h1,h2⟩:=h;have d:1<D.cl.length:=by omega
 have e:2<D.cl.length:=by omega
 rcases c with rfl|rfl
 .have a:(D.cJ 1).cl.getD 1 0=(gL (D.cl.getD 1 0)).2:=by
   show(D.cl.set 1 _).getD 1 0=_;rw[fH (by rw[dr];omega),im]
  have b:(D.cJ 1).cl.getD 2 0=D.cl.getD 2 0:=by
   show(D.cl.set 1 _).getD 2 0=_;rw[fH (by rw[dr];omega),fx I,fH e]
  unfold bc.calm bc.gg;rw[a,b];unfold gL;rcases h1 with h1|h1
  .rw[if_pos h1]
   exact⟨⟨.inl rfl,h2.imp id λh=>I⟩,rfl⟩
  .rw[if_neg I,if_neg I]
   exact⟨⟨.inr (by show(m:Int)<=_-1;omega),h2.imp id λh=>I⟩,rfl⟩
 .have a:(D.cJ 2).cl.getD 2 0=(gL (D.cl.getD 2 0)).2:=by
   show(D.cl.set 2 _).getD 2 0=_;rw[fH (by rw[dr];omega),im]
  have b:(D.cJ 2).cl.getD 1 0=D.cl.getD 1 0:=by
   show(D.cl.set 2 _).getD 1 0=_;rw[fH (by rw[dr];omega),fx I,fH d]
  unfold bc.calm bc.gg;rw[a,b];unfold gL;rcases h2 with h2|h2
  .rw[if_pos h2]
   exact⟨⟨h1.imp id λh=>I,.inl rfl⟩,rfl⟩
  .rw[if_neg I,if_neg I]
   exact⟨⟨h1.imp id λh=>I,.inr (by show(m:Int)<=_-1;omega)⟩,rfl⟩
theorem qZ(D:bc){k:Nat}(a:k=1\/k=2):(D.cJ k).key=D.key:=by
 unfold bc.key bc.cJ;rcases a with rfl|rfl<;>simp[fQ]<;>rfl
theorem q0{sz:Nat}{w:J}{s:ad}{α:Type}{c:α->O aa}{l:O α}(h:Src sz w s (bn c l))(hc:∀x∈l,(c x).length=sz)(e:0<sz){i:Nat}(hi:i<l.length):
 s.len=l.length/\∃A,s.a=some A/\bz w (A.add (i*sz)) 0 sz=some (c l[i]):=by
 have b:s.len=l.length:=by
  have:=h.len;rw[fe l hc]at this;exact(Nat.eq_of_mul_eq_mul_right e this).symm
 refine⟨b,?_⟩
 cases d:s.a with
 |none=>
  have:=congrArg List.length (h.nil d);rw[fe l hc,k2]at this;have:l.length*sz≠0:=Nat.mul_ne_zero I I;omega
 |some A=>
  refine⟨A,rfl,?_⟩;have f:i*sz+sz<=s.len*sz:=by
   rw[b,←Nat.succ_mul];exact mZ _ hi
  rw[xJ (h.rd A d) f,Cf hc hi]
def q1:O aa:=az (List.replicate 256 0)
def yU(D:bc)(i:Nat)(w:J)(v:aa)(w':J):Prop:=v=.agg (az (D.now i)).toArray/\Ext w w'
theorem Cj{w:J}{D:bc}(h:di w D){i:Nat}(hi:i<D.n)(Q:D.a7<=1000000000):
 aI aj 118 #[.pointer (some D.d),i] w (yU D i w):=by
 have R:=h.bB;have f:=h.sL hi;refine okF (ae.u4 (some D.d) (i:Int)) ax.u4 func118 ?_;(delta ae.u4 uc ak aq xY Y r1 lQ;dsimp only);refine ba (vs:=q1) (by kernel_rfl) λw1 g u _=>?_;have hd:=h.ext u;refine⟨_,rfl,some D.mr,hd.iY,?_⟩;have y:q1.length=256:=by rw[q1,c9,me]
 have fin:∀ (K:O aa->J->Prop),(∀a,Ext w a->K (az (D.now i)) a)->bJ w1 w.heap.size (Array.toList (az (D.now i)).toArray)/\Array.size (az (D.now i)).toArray=256/\ao (setCells w1 w.heap.size 0 (Array.toList (az (D.now i)).toArray)) λa=>∃b:O aa,bz a w.heap.size 0 256=some b/\K b a:=by
  intro K E;refine⟨g.cn (by rw[ry,c9,f,y]) (by rw[ry];exact iT _),by simp[c9,f],cT g (us:=az (D.now i)) (by rw[c9,f,y]) rfl λa F G _=>⟨_,F.rd (by rw[c9,f]),E a (Ext.cC u G (bk _))⟩⟩
 cases hf:D.waits.find? λx=>x.i==i with
 |some x=>
  have hx:=j9 hf;have H:x.i=i:=by
   have:=k0 hf;exact eq_of_beq this
  have j:=hd.m.A5 qY nH (k:=(i:Int)) (v:=x.s) (fJ.2 ⟨x,hx,by unfold hT.e;rw[H]⟩) false;have L:=(h.wn x hx).1;have hlen:0<x.iD.length:=List.length_pos_iff.2 L;have S:=(h.wn x hx).2.2;obtain⟨z,A,ar,p⟩:=q0 (hd.ws x hx).src (λs hs=>by rw[c9];exact h.nI x hx s hs) (by decide) (i:=x.iD.length-1) I;have q:D.now i=x.iD[x.iD.length-1]'I:=by
   unfold bc.now;rw[hf];show x.iD.getLastD []=_;rw[List.getLastD_eq_getLast?,wZ,dI I];rfl
  refine⟨x.s,w1,j,λ_=>⟨A,ar,?_⟩,λr=>?_⟩
  .rw[z,bq (n:=(x.iD.length:Int)-1) I I]
   have M:Int.toNat ((x.iD.length:Int)-1)=x.iD.length-1:=by omega
   rw[M];refine⟨⟨I,I⟩,_,p,?_⟩;rw[←q];exact fin (λb a=>yU D i w (.agg b.toArray) a) λa t=>⟨rfl,t⟩
  .have:=cE r
   omega
 |none=>
  obtain⟨T,h1,h2⟩:=sK Ch;have j:=hd.m.A6 qY nH (k:=(i:Int)) h1 h2 (λv g=>by
   obtain⟨x,hx,he⟩:=fJ.1 g;have N:=j8.1 hf x hx;unfold hT.e at he;simp only[Prod.mk.injEq]at he;apply N;have:x.i=i:=by omega
   rw[this];simp) false
  have B:i<D.b7.length:=hi;have q:D.now i=D.b7[i]:=by
   unfold bc.now;rw[hf];exact fH B
  have P:Src 256 w1 ⟨some D.lb,D.b7.length,D.b7.length⟩ (bn az D.b7):=by
   have C:=fe (c:=az) (sz:=256) D.b7 λs hs=>by rw[c9];exact h.sl s hs
   have:=bj.r0 (sz:=256) (o:=0) (n:=D.b7.length) (cap:=D.b7.length) hd.l (by simp[C]);rw[iM,ry,dC (by rw[C];exact bk _)]at this;exact this
  obtain⟨z,A,ar,p⟩:=q0 P (λs hs=>by rw[c9];exact h.sl s hs) (by decide) B;refine⟨⟨none,0,0⟩,w1,j,λr=>by simp at r,λ_=>⟨_,rfl,_,hd.fL,A,ar,⟨I,by show(i:Int)<(D.b7.length:Int);omega⟩,_,p,?_⟩⟩;rw[←q];exact fin (λb a=>yU D i w (.agg b.toArray) a) λa t=>⟨rfl,t⟩
def Hy(D:bc)(i:Nat)(w:J)(v:aa)(w':J):Prop:=
 di w' (D.cJ 1)/\af (λq=>q=D.d) w w'/\
  ((D.gg 1=true/\v=.tuple #[(),(3:Int)])\/
   (D.gg 1=false/\∃s:ad,v=.tuple #[s,(0:Int)]/\bu (λq=>w.heap.size<=q) w' s (D.now i)))
theorem Hz{w:J}{D:bc}(h:di w D){i:Nat}(hi:i<D.n)(x:D.a7<=1000000000):
 aI aj 75 #[.pointer (some D.d),i] w (Hy D i w):=by
 refine okF (ae.uS (some D.d) (i:Int)) ax.uS func75 ?_;delta ae.uS b8 ak p8 uc Y;refine(Ci h _).use ?_;rintro _ _ ⟨rfl,rfl⟩;refine⟨_,rfl,λa=>?_,λ_=>⟨_,rfl,(yS h (k:=1) (by decide)).use ?_⟩⟩
 .have a:¬(0<=(i:Int)/\(i:Int)<D.n):=by simpa using a
  omega
 rintro _ ai ⟨rfl,b,j,z⟩;refine⟨_,rfl,λa=>⟨b,j,.inl ⟨a,rfl⟩⟩,λa=>(Cj b (i:=i) hi x).use ?_⟩;rintro _ m ⟨rfl,g⟩;have f:=h.sL hi;refine⟨_,rfl,ba (vs:=q1) (by kernel_rfl) λB p r C=>⟨p.cn (by rw[ry,c9];show(D.now i).length=_;rw[f,q1,c9,me]) (by rw[ry];exact iT _),by rw[th,c9];exact f,cT p (us:=az (D.now i)) (by rw[c9,f,q1,c9,me]) rfl λE s t F=>?_⟩⟩;have G:=g.size;have aH:D.d<ai.heap.size:=b.v.lt;refine⟨(b.ext (g.trans r)).ah t (λq u e=>by have:=b.lt u;omega),c5 (j.trans (af.cX (g.trans r))) t λq u e=>I,.inr ⟨a,⟨some m.heap.size,256,256⟩,rfl,?_,bk _,λk y=>?_⟩⟩
 .have:=s.qJ (o:=0) (n:=256) (c:=256) (l:=D.now i) (by rw[c9,f];decide) (by rw[iM,dC (by rw[c9,f];decide)])
  exact this
 .obtain⟨A,ar,rfl⟩:=y
  cases ar;have:=s.lt;exact⟨by show w.heap.size<=m.heap.size;omega,this⟩
theorem Ck:∀ (l:O aa) (k:Nat) (a:Array aa),(l.zipIdx k).foldl (λcs (p:aa×Nat)=>cs.setIfInBounds p.2 p.1) a=gx a k l
 | [],_,_=>rfl
 |v::l,k,a=>by
  rw[List.zipIdx_cons,List.foldl_cons]
  exact Ck l (k+1) (a.setIfInBounds k v)
theorem yV{P:Program}{T e:TypeId}{d:TypeDesc}{i:TypeInfo}{z:aa}{sz:Nat}{cs:Array aa}(w:J)(h1:P.underlying T=some (.slice e))(h2:P.underlying e=some d)(f:P.cellsOf e=sz)(hi:P.info? e=some i)(g:i.zero=some z)(a:cs.size=sz)(o:sz≠0)(q:sz<=16777216):
 Sem.run P (Instr.buildSlice T 1 #[(0,.agg cs)]) w=.ok (.slice (some w.heap.size) 1 1) (w.alloc (.cells cs e)):=by
 have b:=hD (P:=P) (w:=w) h2;rw[f]at b;have h:Instr.fill (λi=>some (i*sz,sz)) ((Array.range (1*sz)).map λx=>z.cells[x%z.cells.size]!) [(0,.agg cs)]=some cs:=by
  have hc:(Value.agg cs).cells=cs:=rfl;rw[Instr.fill];simp only[hc];rw[if_neg (by simp[a]),Instr.fill];rw[←Array.foldl_toList,Array.toList_zipIdx];have e:(λ(cs:Array aa) (x:aa×Nat)=>match x with|(c,j)=>cs.setIfInBounds (0*sz+j) c)=λcs (p:aa×Nat)=>cs.setIfInBounds p.2 p.1:=by
   funext cs x;obtain⟨c,j⟩:=x;simp
  rw[e,Ck]
  congr 1
  apply Array.toList_inj.1;rw[ld _ _ _ (by simp[a])];simp[a]
 have k:=m7 (w:=w) hi;have l:¬(1*sz>2^24):=by
  have:(2:Nat)^24=16777216:=rfl;omega
 have m:¬(1*sz=0):=by omega
 have n:Instr.fill (λi=>some (i*sz,sz)) ((Array.range (1*sz)).map λx=>z.cells[x%z.cells.size]!) (#[(0,Value.agg cs)]:Array (Nat×aa)).toList=some cs:=h;simp only[Instr.buildSlice,Sem.run_bind,c3 h1,b,Result.andThen,l,m,if_false,zeroValue,k,g,Sem.run_pure,n];simp[newRow,newObj,Sem.run]
theorem Cl(w:J)(l:dh)(a:l.length=256):
 Sem.run aj (Instr.buildSlice 124 1 #[(0,.agg (az l).toArray)]) w=.ok (.slice (some w.heap.size) 1 1) (w.alloc (.cells (az l).toArray 151)):=by
 have h:((Tryz.prog.info? 151).bind (·.zero)).isSome=true:=by kernel_rfl
 obtain⟨z,b⟩:=mT.1 h;obtain⟨i,hi,c⟩:=sK b;exact yV (d:=.array 256 5) (sz:=256) w (by kernel_rfl) (by kernel_rfl) (by kernel_rfl) hi c (by rw[th,c9,a]) (by decide) (by decide)
theorem HA:hE aj 124 151 256 256:=⟨by kernel_rfl⟩
theorem HB{α:Type}{c:α->O aa}{l:O α}(h:∀x∈l,∀v∈c x,Plain v):∀v∈bn c l,Plain v:=by
 intro v a;obtain⟨x,hx,a⟩:=List.mem_flatten.1 a;obtain⟨b,d,rfl⟩:=fJ.1 hx;exact h b d v a
def bc.put(D:bc)(i:Nat)(s:ad)(l:dh):bc:=
 {D.cJ 2 with waits:=⟨i,s,D.ff i++ [l]⟩::D.waits.filter (λx=>x.i !=i),writes:=IntKind.wrap .i64 (D.writes+1),a7:=D.a7+1}
theorem Cm{D:bc}{i j:Nat}(h:j≠i):(D.waits.filter λx=>x.i !=i).find? (λx=>x.i==j)=D.waits.find? λx=>x.i==j:=by
 rw[List.find?_filter]
 congr 1
 funext x;by_cases e:x.i=j
 .rw[e];simp[h]
 .simp[e]
theorem Cn(D:bc)(i:Nat)(s:ad)(l:dh)(j:Nat):(D.put i s l).ff j=if j=i then D.ff i++ [l] else D.ff j:=by
 unfold bc.ff bc.put;by_cases h:j=i
 .subst h
  simp[bc.ff]
 .rw[if_neg h]
  simp only;rw[List.find?_cons_of_neg (by simp;omega),Cm h]
theorem pn(D:bc)(i:Nat)(s:ad)(l:dh)(j:Nat):(D.put i s l).now j=if j=i then l else D.now j:=by
 unfold bc.now bc.put;by_cases h:j=i
 .subst h
  simp
 .rw[if_neg h]
  simp only;rw[List.find?_cons_of_neg (by simp;omega),Cm h];rfl
def Co(D:bc)(i:Nat)(l:dh)(w:J)(v:aa)(w':J):Prop:=
 (D.gg 2=true/\v=.int .i64 3/\di w' (D.cJ 2)/\af (λq=>q=D.d) w w')\/
 (D.gg 2=false/\v=.int .i64 0/\∃s:ad,di w' (D.put i s l)/\af (cq D) w w'/\∀q,aB s q->cq D q\/w.heap.size<=q)
theorem wq{w:J}{D:bc}{b:ad}{l:dh}(h:di w D){i:Nat}(hi:i<D.n)(bg:D.a7<=1000000000)(X:Src 1 w b (az l))(K:l.length=256)(hd:∀q,aB b q->¬cq D q):
 aI aj 58 #[.pointer (some ⟨D.d,0,none⟩),.int .i64 ((i:Nat):Int),.slice b.a b.len b.cap] w (Co D i l w):=by
 have aD:=len8 X;have bh:=h.bB;refine okF (ae.uK (some ⟨D.d,0,none⟩) ((i:Nat):Int) b) ax.uK func58 ?_;(delta ae.uK b8 ak xP aG st aq;dsimp only);refine(Ci h _).use ?_;rintro _ _ ⟨rfl,rfl⟩;have aU:decide (0<=(i:Int)/\(i:Int)<D.n)=true:=dR ⟨I,I⟩;refine⟨_,rfl,λh1=>?_,λ_=>⟨_,rfl,(yS h (k:=2) (by decide)).use ?_⟩⟩
 .rw[aU,aD,K]at h1
  simp at h1
 rintro _ ai ⟨rfl,G,Y,bi⟩;refine⟨_,rfl,λZ=>.inl ⟨Z,rfl,G,Y⟩,λZ=>aX ?_⟩;obtain⟨p,hold⟩:∃p:ad,(match D.waits.find? λx=>x.i==i with|some x=>x.s|none=>⟨none,0,0⟩)=p:=⟨_,rfl⟩;have z:=G.ext (cG ai);have aV:Src 1 ai.drew b (az l):=(X.ah Y λq f e=>hd q f (.inl e)).ext (cG ai)
 have aW:aT 256 151 ai.drew p (bn az (D.ff i))/\(∀q,aB p q->cq D q/\q≠D.d/\q≠D.lb/\q≠D.mr)/\(∀x∈D.waits,x.i≠i->∀q,aB x.s q->¬aB p q)/\(D.ff i).length<=D.a7/\(∀s∈D.ff i,s.length=256)/\
  ∀w':J,eH w' D.mr encZ (D.waits.map hT.e)->Sem.run aj (Instr.lookup 125 (.map (some D.mr)) (.int .i64 ((i:Nat):Int)) false) w'=.ok (.slice p.a p.len p.cap) w':=by
  cases hf:D.waits.find? λx=>x.i==i with
  |some x=>
   rw[hf]at hold;have hold:x.s=p:=hold;subst hold;have hx:=j9 hf;have S:x.i=i:=by
    have:=k0 hf;exact eq_of_beq this
   have e:D.ff i=x.iD:=by unfold bc.ff;rw[hf]
   rw[e];refine⟨z.ws x hx,λq f=>⟨.inr (.inr (.inr ⟨x,hx,f⟩)),λe=>(h.a2 x hx).1 (e▸f),λe=>(h.a2 x hx).2.1 (e▸f),λe=>(h.a2 x hx).2.2 (e▸f)⟩,λy t B=>h.a3 y t x hx I,(h.wn x hx).2.2,h.nI x hx,λw' L=>L.A5 qY nH (k:=(i:Int)) (v:=.slice x.s.a x.s.len x.s.cap) (fJ.2 ⟨x,hx,by unfold hT.e;rw[S]⟩) false⟩
  |none=>
   rw[hf]at hold;have hold:(⟨none,0,0⟩:ad)=p:=hold;subst hold;have e:D.ff i=[]:=by unfold bc.ff;rw[hf]
   rw[e];obtain⟨bk,h1,h2⟩:=sK Ch;refine⟨aT.none _ _ _,λq f=>(f_ q f).elim,λx _ _ q _ f=>(f_ q f).elim,cM _,λs hs=>(by cases hs),λw' L=>L.A6 qY nH (k:=(i:Int)) h1 h2 (λv ab=>?_) false⟩;obtain⟨x,hx,he⟩:=fJ.1 ab;have aY:=j8.1 hf x hx;unfold hT.e at he;simp only[Prod.mk.injEq]at he;apply aY;have:x.i=i:=by omega
   rw[this];simp
 obtain⟨aE,C,aF,bl,aH,aJ⟩:=aW;obtain⟨A,ar,aZ⟩:∃A,b.a=some A/\bz ai.drew A 0 256=some (az l):=by
  cases aK:b.a with
  |none=>
   have:=congrArg List.length (X.nil aK);rw[c9,K]at this
   cases this
  |some A=>
   refine⟨A,rfl,?_⟩;have:=aV.rd A aK;rwa[aD,K]at this
 have a0:¬aB p A.block:=λf=>hd _ ⟨A,ar,rfl⟩ (C _ f).1
 have aL:∀E:J,Ext ai.drew E->∃ (g:ad) (j:J),Sem.run aj (Builtin.append_ #[124,124] 124 #[.slice p.a p.len p.cap,.slice (some ⟨E.heap.size,0,none⟩) 1 1]) (E.alloc (.cells (az l).toArray 151))=.ok (.slice g.a g.len g.cap) j/\
  aT 256 151 j g (bn az (D.ff i++ [l]))/\af (aB p) E j/\(∀k,aB g k->aB p k\/E.heap.size<=k)/\af (aB p) (E.alloc (.cells (az l).toArray 151)) j:=by
  intro E a4;have hlen:p.len=(D.ff i).length:=by
   have:=aE.1;rw[fe (c:=az) (sz:=256) _ λs hs=>by rw[c9];exact aH s hs]at this;omega
  have ac:=c4 E (.cells (az l).toArray 151);obtain⟨g,j,aw,ay,F,M,N⟩:=HA.append (cF:=124) (x:=⟨some ⟨E.heap.size,0,none⟩,1,1⟩) (Src.new (T:=151) E (az l) 1 (by rw[c9,K])) (aE.ext (a4.trans ac)) (iT l) (by rw[hlen];show(2*(_+1)+1000)*256<=_;omega);refine⟨g,j,aw,?_,(af.cX ac).trans M,λk a5=>(N k a5).imp id λh=>?_,M⟩
  .rw[lu]
   have:bn az [l]=az l:=by simp[bn]
   rw[this];exact ay
  .have:=ac.size;omega
 have aM:∀ (j:J) (g:ad),eH j D.mr encZ (D.waits.map hT.e)->∃o:J,Sem.run aj (Instr.mapUpdate 125 (.map (some D.mr)) (.int .i64 ((i:Nat):Int)) (.slice g.a g.len g.cap)) j=.ok () o/\af (λq=>q=D.mr) j o/\
  eH o D.mr encZ ((hT.mk i g (D.ff i++ [l])::D.waits.filter λx=>x.i !=i).map hT.e):=by
  intro j g L;have al:=L.keys;rw[nX]at al
  cases hf:D.waits.find? λx=>x.i==i with
  |some x=>
   have hx:=j9 hf;have S:x.i=i:=by
    have:=k0 hf;exact eq_of_beq this
   obtain⟨bd,bx,he⟩:=List.append_of_mem hx;have B:∀y∈bd++bx,y.i≠i:=by
    intro y t e;rw[he,fP,g_]at al;have h1:=(m0.nodup_iff).1 al;rw[List.nodup_cons]at h1;apply h1.1;rw[←fP];refine fJ.2 ⟨y,t,?_⟩;show((y.i:Nat):Int)=((x.i:Nat):Int);omega
   have am:D.waits.filter (λx=>x.i !=i)=bd++bx:=by
    rw[he,gu,List.filter_cons_of_neg (by simp[S])];rw[ik.2 λy t=>by have:=B y (j7 _ t);simpa using this,ik.2 λy t=>by have:=B y (h5 _ t);simpa using this]
   have a6:(D.waits.map hT.e).Perm (((i:Int),.slice x.s.a x.s.len x.s.cap)::(bd++bx).map hT.e):=by
    rw[he,fP,g_,fP];have:x.e=((i:Int),.slice x.s.a x.s.len x.s.cap):=by unfold hT.e;rw[S]
    rw[this];exact m0
   obtain⟨o,aw,ay,_,F⟩:=Ht qY nH (L.perm a6) (.slice g.a g.len g.cap);refine⟨o,aw,ay,?_⟩;rw[am];exact F
  |none=>
   have B:∀y∈D.waits,y.i≠i:=λy t e=>by
    have:=j8.1 hf y t;rw[e]at this;simp at this
   have am:D.waits.filter (λx=>x.i !=i)=D.waits:=ik.2 λy t=>by simpa using B y t
   obtain⟨o,aw,ay,_,F⟩:=Hs qY nH (k:=(i:Int)) L (λv ab=>by
    obtain⟨x,hx,he⟩:=fJ.1 ab;unfold hT.e at he;simp only[Prod.mk.injEq]at he;exact B x hx I) (.slice g.a g.len g.cap)
   refine⟨o,aw,ay,?_⟩;rw[am];exact F
 have fin:∀ (j o:J) (g:ad),af (aB p) ai.drew j->aT 256 151 j g (bn az (D.ff i++ [l]))->(∀k,aB g k->aB p k\/ai.drew.heap.size<=k)->af (λq=>q=D.mr) j o->eH o D.mr encZ ((hT.mk i g (D.ff i++ [l])::D.waits.filter λx=>x.i !=i).map hT.e)->
  ∃aN:ag,(some ⟨D.d,0,none⟩:av ag)=some aN/\∃n24:Int,o.cell? (aN.add 6)=some (.int .i64 n24)/\∃U:ag,(some ⟨D.d,0,none⟩:av ag)=some U/\(∃u:aa,o.cell? (U.add 6)=some u)/\o.frozen? (U.add 6)=false/\ao (o.setCell (U.add 6) (.int .i64 (IntKind.wrap .i64 (n24+1)))) λa8=>Co D i l w (.int .i64 0) a8:=by
  intro j o g V a9 an aO a_;have ba:=z.v.ah V λf=>(C _ f).2.1 rfl;have ap:Var o D.d (D.cJ 2).c 129:=ba.ah aO h.a1.2.1;have hlen:(D.cJ 2).c.length=7:=G.yR;obtain⟨s1,s2⟩:=eF ap (i:=6) (by rw[hlen];decide);have aP:o.cell? (Addr.add ⟨D.d,0,none⟩ 6)=some (.int .i64 D.writes):=by
   rw[aA,cR,ap.cell];unfold bc.c;have:=G.f4;rw[il (by rw[dn];omega),dn,this];rfl
  rw[aA,cR]at aP;refine⟨_,rfl,D.writes,by rw[aA,cR];exact aP,_,rfl,by rw[aA,cR];exact s1,by rw[aA,cR];exact s2,?_⟩;rw[aA,cR];have aQ:=ed o D.d 6 (.int .i64 (IntKind.wrap .i64 (D.writes+1)));have aR:=eE ap (i:=6) (.int .i64 (IntKind.wrap .i64 (D.writes+1)));have bb:(D.cJ 2).c.set 6 (.int .i64 (IntKind.wrap .i64 (D.writes+1)))=(D.put i g l).c:=by
   have be:=G.f4;have O:(D.put i g l).c=(D.cJ 2).cl.map (.int .i64)++ [.slice (some ⟨D.lb,0,none⟩) D.b7.length D.b7.length,.map (some D.mr),.int .i64 (IntKind.wrap .i64 (D.writes+1))]:=rfl;have P:(D.cJ 2).c=(D.cJ 2).cl.map (.int .i64)++ [.slice (some ⟨D.lb,0,none⟩) D.b7.length D.b7.length,.map (some D.mr),.int .i64 D.writes]:=rfl;rw[O,P,ta _ _ (by rw[dn];omega),dn,be];rfl
  rw[bb]at aR;have W:af (λq=>q=D.mr\/q=D.d) j (o.setCell ⟨D.d,6,none⟩ (.int .i64 (IntKind.wrap .i64 (D.writes+1)))):=(aO.mono λq _ e=>.inl e).trans (aQ.mono λq _ e=>.inr e);have Q:∀q,aB g q->q≠D.d/\q≠D.lb/\q≠D.mr:=λq f=>by
   have bm:=z.lt (q:=D.d) (.inl rfl);have bo:=z.lt (q:=D.lb) (.inr (.inl rfl));have bp:=z.lt (q:=D.mr) (.inr (.inr (.inl rfl)));rcases an q f with h1|h1
   .exact(C q h1).2
   .exact⟨I,I,I⟩
  have H:∀x∈D.waits.filter (λx=>x.i !=i),x∈D.waits/\x.i≠i:=λx hx=>by
   obtain⟨h1,h2⟩:=gr.1 hx;exact⟨h1,by simpa using h2⟩
  refine aX (.inr ⟨Z,rfl,g,⟨aR,?_,?_,?_,?_,h.sl,?_,h.cc,h.bB,G.f4,G.fr,h.a1,?_,?_,G.r⟩,?_,?_⟩)
  .exact bj.ah (bj.ah z.l V λf=>(C _ f).2.2.1 rfl) W (by
    rintro(e|e)
    .exact h.a1.2.2 e
    .exact h.a1.1 e.symm)
  .exact a_.ah aQ (λe=>h.a1.2.1 e.symm)
  .intro x hx
   rcases c0.1 hx with rfl|hx
   .exact a9.ah W λq f=>by
     rintro(e|e)
     .exact(Q q f).2.2 e
     .exact(Q q f).1 e
   .obtain⟨h1,h2⟩:=H x hx
    refine((z.ws x h1).ah V λq f=>aF x h1 h2 q f).ah W λq f=>?_;rintro(e|e)
    .exact(h.a2 x h1).2.2 (e▸f)
    .exact(h.a2 x h1).1 (e▸f)
  .intro x hx
   rcases c0.1 hx with rfl|hx
   .refine⟨by simp,hi,?_⟩
    show(D.ff i++ [l]).length<=D.a7+1;rw[cv,iN];omega
   .obtain⟨h1,h2⟩:=H x hx
    have:=h.wn x h1;exact⟨this.1,this.2.1,Nat.le_succ_of_le this.2.2⟩
  .intro x hx
   rcases c0.1 hx with rfl|hx
   .intro s hs
    rcases cO.1 hs with hs|hs
    .exact aH s hs
    .rw[fj.1 hs];exact K
   .exact h.nI x (H x hx).1
  .intro x hx
   rcases c0.1 hx with rfl|hx
   .exact⟨λf=>(Q _ f).1 rfl,λf=>(Q _ f).2.1 rfl,λf=>(Q _ f).2.2 rfl⟩
   .exact h.a2 x (H x hx).1
  .have aS:∀y∈D.waits,y.i≠i->∀q,aB y.s q->¬aB g q:=λy t B q f R=>by
    rcases an q R with h1|h1
    .exact aF y t B q f h1
    .have:=(z.ws y t).lt q f;omega
   intro x hx y t B q f R;rcases c0.1 hx with rfl|hx
   .rcases c0.1 t with rfl|t
    .exact B rfl
    .exact aS y (H y t).1 (λe=>B e.symm) q R f
   .rcases c0.1 t with rfl|t
    .exact aS x (H x hx).1 B q f R
    .exact h.a3 x (H x hx).1 y (H y t).1 B q f R
  .refine((Y.mono λq _ e=>.inl e).trans ((af.cX (cG ai)).trans (V.mono λq _ f=>(C q f).1))).trans (W.mono λq _ f=>?_)
   rcases f with e|e
   .exact .inr (.inr (.inl e))
   .exact .inl e
  .intro q f
   rcases an q f with h1|h1
   .exact .inl (C q h1).1
   .have:ai.drew.heap.size=ai.heap.size:=rfl
    exact .inr I
 refine⟨aB p,_,rfl,λf=>(C _ f).2.1 rfl,some D.mr,z.iY,_,rfl,λf=>(C _ f).2.1 rfl,some D.mr,z.iY,I,A,ar,a0,_,aZ,⟨?_,?_⟩⟩
 .obtain⟨g,j,aw,ay,F,M,N⟩:=aL ai.drew (.refl _ _)
  have au:=z.m.ah F λf=>(C _ f).2.2.2 rfl;obtain⟨o,O,P,aC⟩:=aM j g au;exact⟨p,_,aJ _ z.m,.refl _ _,⟨some ⟨ai.drew.heap.size,0,none⟩,1,1⟩,_,Cl _ l K,af.cX (c4 _ _),g,j,aw,N,o,O,fin j o g F ay M P aC⟩
 .obtain⟨g,j,aw,ay,F,M,N⟩:=aL ai.drew (.refl _ _)
  have bf:=z.m.ext (c4 ai.drew (.cells (az l).toArray 151));have au:=z.m.ah F λf=>(C _ f).2.2.2 rfl;obtain⟨o,O,P,aC⟩:=aM j g au;exact⟨⟨some ⟨ai.drew.heap.size,0,none⟩,1,1⟩,_,Cl _ l K,af.cX (c4 _ _),p,_,aJ _ bf,.refl _ _,g,j,aw,N,o,O,fin j o g F ay M P aC⟩
theorem HC{P:Program}{e:TypeId}{v:aa}{sz:Nat}(a:((P.info? e).bind (·.zero)).map (·.cells)=some (List.replicate sz v).toArray)(hc:P.cellsOf e=sz)(hs:0<sz)(n:Nat):g1 P e n=(List.replicate (n*sz) v).toArray:=by
 unfold g1;rw[hc]
 cases hi:(P.info? e).bind (·.zero) with
 |none=>rw[hi]at a;cases a
 |some z=>
  rw[hi]at a;simp only[l_,Option.some.injEq]at a;simp only[Option.getD_some];apply Array.ext
  .simp
  .intro i h1 h2
   have b:n*sz≠0:=by
    intro h;simp[h]at h2
   simp only[b,if_false,a,Array.getElem_map,Array.getElem_range];have aH:i%sz<sz:=g9 _ hs;simp[aH]
theorem HD(m n:Nat):bn az (List.replicate n (List.replicate m 0))=List.replicate (n*m) (.int .u8 0):=by
 induction n with
 |zero=>simp[bn]
 |succ n a=>
  rw[List.replicate_succ,qX,a,jf,Nat.one_mul,Nat.add_comm];have e:az (List.replicate m 0)=List.replicate m (Value.int .u8 0):=by simp[az]
  rw[e,List.replicate_append_replicate]
def hU:dh:=List.replicate 256 0
theorem HE(n:Nat):g1 aj 151 n=(bn az (List.replicate n hU)).toArray:=by
 unfold hU;rw[HD];exact HC (by kernel_rfl) (by kernel_rfl) (by decide) n
def q2(n d lb mr:Nat):bc:=⟨d,lb,mr,[-1, -1, -1, -1],List.replicate n hU,[],0,0,λ_=>false,λ_=> [],true⟩
theorem HF{w:J}{b:Nat}{vs:O aa}{T:TypeId}(h:Var w b vs T)(g:4<=vs.length):
 aI aj 52 #[.pointer (some b)] w (λv w'=>v=.tuple #[]/\Var w' b (List.replicate 4 (.int .i64 (-1))++vs.drop 4) T/\af (λq=>q=b) w w'/\w'.heap.size=w.heap.size):=by
 refine okF (ae.uH (some b)) ax.uH func52 ?_;(delta ae.uH ak st aq;dsimp only);refine⟨λi w'=>∃j:Nat,i=j/\j<=4/\Var w' b (List.replicate j (.int .i64 (-1))++vs.drop j) T/\af (λq=>q=b) w w'/\w'.heap.size=w.heap.size,λi _=>((4:Int)-i).toNat,⟨0,rfl,I,h,.refl _ _,rfl⟩,?_⟩;rintro _ w1 ⟨j,rfl,k,c,hc,f⟩;refine⟨λaH=>?_,λd=>?_⟩
 .have aH:j<4:=by have:=cj aH;omega
  have a:Addr.add b (Int.toNat (j:Int)*1)=⟨b,j,none⟩:=by rw[dc,fB,aA,cR]
  obtain⟨s1,s2⟩:=eF c (i:=j) (by simp;omega);rw[bq (n:=(j:Int)+1) I I];refine⟨_,rfl,⟨I,by show(j:Int)<4;omega⟩,by rw[a];exact s1,by rw[a];exact s2,aX ⟨⟨j+1,I,I,?_,?_,?_⟩,?_⟩⟩
  .have:=eE c (i:=j) (.int .i64 (-1))
   rw[a];have e:(List.replicate j (Value.int .i64 (-1))++vs.drop j).set j (.int .i64 (-1))=List.replicate (j+1) (.int .i64 (-1))++vs.drop (j+1):=by
    rw[ta _ _ (by simp),me,nV,j2 (show j<vs.length from I),List.set_cons_zero,List.replicate_succ',cD];rfl
   rwa[e]at this
  .rw[a];exact hc.trans (ed _ _ _ _)
  .rw[a];simpa[World.setCell] using f
  .show((4:Int)-((j:Int)+1)).toNat<((4:Int)-(j:Int)).toNat
   omega
 .have d:j=4:=by have:=cE d;omega
  subst d;exact⟨rfl,c,hc,f⟩
theorem qg{n:Nat}(h1:16<=n)(h2:n<=1600)(w:J):
 aI aj 20 #[n] w (λv w'=>∃d lb mr:Nat,v=.tuple #[.pointer (some d),(0:Int)]/\di w' (q2 n d lb mr)/\Ext w w'/\∀q,cq (q2 n d lb mr) q->w.heap.size<=q):=by
 refine okF (ae.qg (n:Int)) ax.qg func20 ?_;delta ae.qg ak kK Y gT;refine⟨λh=>?_,λ_=>⟨⟨I,I,I,I⟩,?_⟩⟩
 .simp only[je,cg]at h;omega
 rw[HE,dc];have g:=bj.new w (bn az (List.replicate n hU)).toArray 151;have i:=c4 w (.cells (bn az (List.replicate n hU)).toArray 151);have j:=pd w (.cells (bn az (List.replicate n hU)).toArray 151);obtain⟨w1,k⟩:∃w1,w1=w.alloc (.cells (bn az (List.replicate n hU)).toArray 151):=⟨_,rfl⟩;rw[←k]at g i j⊢;obtain⟨aw,ay⟩:=eH.make (P:=aj) (enc:=encZ) 125 w1;have a:=c4 w1 (.map #[] 0);have l:=pd w1 (.map #[] 0);obtain⟨ai,m⟩:∃ai,ai=w1.alloc (.map #[] 0):=⟨_,rfl⟩;rw[←m]at aw ay a l;refine aX ⟨some w1.heap.size,ai,aw,#[(0:Int),(0:Int),(0:Int),(0:Int),.slice (some w.heap.size) n n,.map (some w1.heap.size),(0:Int)],by kernel_rfl,ba (vs:=[(0:Int),(0:Int),(0:Int),(0:Int),.slice (some w.heap.size) n n,.map (some w1.heap.size),(0:Int)]) rfl λr o b t=>⟨_,rfl,(HF o (by show 4<=7;decide)).use ?_⟩⟩;rintro _ u ⟨rfl,p,f,y⟩;refine⟨rfl,ai.heap.size,w.heap.size,w1.heap.size,rfl,⟨?_,?_,?_,λx hx=>(by cases hx),λx hx=>(by cases hx),λs hs=>?_,λx hx=>(by cases hx),?_,?_,rfl,λx hx=>?_,?_,λx hx=>(by cases hx),λx hx=>(by cases hx),λ_=>rfl⟩,Ext.cC (i.trans (a.trans b)) f I,?_⟩
 .have e:(q2 n ai.heap.size w.heap.size w1.heap.size).c=List.replicate 4 (.int .i64 (-1))++ [Value.int .i64 0,(0:Int),(0:Int),(0:Int),.slice (some w.heap.size) n n,.map (some w1.heap.size),(0:Int)].drop 4:=by
   unfold bc.c q2;simp
  rw[e];exact p
 .exact bj.ah ((g.ext a).ext b) f (by show¬w.heap.size=ai.heap.size;omega)
 .exact(ay.ext b).ah f I
 .rw[wX hs,hU,me]
 .show 16<=(List.replicate n hU).length;simpa using h1
 .show(List.replicate n hU).length<=1600;simpa using h2
 .have:x= -1:=by
   simp[q2]at hx;exact hx
  subst this;exact⟨by decide,by decide⟩
 .exact⟨by show ai.heap.size≠w.heap.size;omega,by show ai.heap.size≠w1.heap.size;omega,by show w.heap.size≠w1.heap.size;omega⟩
 .rintro q (rfl|rfl|rfl|⟨x,hx,_⟩)
  .show w.heap.size<=ai.heap.size;omega
  .exact bk _
  .show w.heap.size<=w1.heap.size;omega
  .cases hx
structure eT where
 root:Nat
 aL:Nat
 map:Nat
 clock:Nat
 dw:Nat
 keys:Nat
 deriving DecidableEq
def Cp:eT:=⟨0,0,0,0,0,0⟩
def eT.c(u:eT):O aa:=[u.root,u.aL,u.map,.int .u64 (u.clock:Nat),.int .u64 (u.dw:Nat),u.keys]
structure nJ(u:eT):Prop where
 root:u.root<4294967296
 aL:u.aL<256
 map:u.map<4294967296
 clock:u.clock<18446744073709551616
 dw:u.dw<18446744073709551616
 keys:u.keys<4294967296
def gX(u:eT)(n:Nat):O UInt8:=[]++bN u.root 4++bN u.aL 1++bN u.map 4++bN n 4++bN u.clock 8++bN u.dw 8++bN u.keys 4
def q3(b:O UInt8):eT:=⟨dF b 0 4,dF b 4 1,dF b 5 4,dF b 13 8,dF b 21 8,dF b 29 4⟩
def nK(u:eT)(n:Nat):Prop:=(u.root=0↔u.aL=0)/\u.aL<=12/\u.root<n/\u.map<n/\2<=u.map/\n<=1600
instance KH(u:eT)(n:Nat):Decidable (nK u n):=by unfold nK;infer_instance
def sM(no:Int)(l:O UInt8):Except Int (eT×Nat×Nat):=match fm no l with
 | .error e=>.error e
 | .ok p=>if p.kind≠3\/p.body.length≠33 then .error 4 else if nK (q3 p.body) (dF p.body 9 4) then .ok (q3 p.body,dF p.body 9 4,p.gen) else .error 4
theorem Cq(u:eT)(n:Nat):(gX u n).length=33:=by simp[gX,dz]
theorem HG{u:eT}{n:Nat}(h:nJ u)(c:n<4294967296):q3 (gX u n)=u/\dF (gX u n) 9 4=n:=by
 have e:∀ {k x m:Nat} (a b:O UInt8),gX u n=a++(bN x k++b)->a.length=m->x<256^k->dF (gX u n) m k=x:=λa b he d hx=>by rw[he];exact sE d hx
 have f:=h.keys;refine⟨?_,e (bN u.root 4++bN u.aL 1++bN u.map 4) (bN u.clock 8++(bN u.dw 8++bN u.keys 4)) (by simp[gX]) (by simp[dz]) c⟩;unfold q3;rw[e (m:=0) [] (bN u.aL 1++(bN u.map 4++(bN n 4++(bN u.clock 8++(bN u.dw 8++bN u.keys 4))))) (by simp[gX]) rfl h.root,
  e (bN u.root 4) (bN u.map 4++(bN n 4++(bN u.clock 8++(bN u.dw 8++bN u.keys 4)))) (by simp[gX]) (by simp[dz]) h.aL,
  e (bN u.root 4++bN u.aL 1) (bN n 4++(bN u.clock 8++(bN u.dw 8++bN u.keys 4))) (by simp[gX]) (by simp[dz]) h.map,
  e (bN u.root 4++bN u.aL 1++bN u.map 4++bN n 4) (bN u.dw 8++bN u.keys 4) (by simp[gX]) (by simp[dz]) h.clock,
  e (bN u.root 4++bN u.aL 1++bN u.map 4++bN n 4++bN u.clock 8) (bN u.keys 4) (by simp[gX]) (by simp[dz]) h.dw,
  e (bN u.root 4++bN u.aL 1++bN u.map 4++bN n 4++bN u.clock 8++bN u.dw 8) [] (by simp[gX]) (by simp[dz]) f]
def jT(u:eT)(n gen:Nat):js:=⟨3,gen,gX u n⟩
theorem yW{u:eT}{n gen:Nat}(hg:gen<18446744073709551616):nE (jT u n gen):=⟨(by decide:1<=3),(by decide:3<=4),hg,by show(gX u n).length<=232;rw[Cq];decide⟩
theorem Cr{u:eT}{n gen no:Nat}(h:nJ u)(hu:nK u n)(hg:gen<18446744073709551616)(a:no<1600):sM no (eJ no (jT u n gen))=.ok (u,n,gen):=by
 unfold sM;rw[vW a (yW hg)];have b:n<4294967296:=by have:=hu.2.2.2.2.2;omega
 obtain⟨h1,h2⟩:=HG h b;show(if (3:Nat)≠3\/(gX u n).length≠33 then _ else if nK (q3 (gX u n)) (dF (gX u n) 9 4) then Except.ok (q3 (gX u n),dF (gX u n) 9 4,gen) else _)=_;rw[h1,h2,if_neg (by rw[Cq];simp),if_pos hu]
section
variable {w w':J}{h:Nat}{vs:O aa}{u:eT}
theorem eT.plain(u:eT):∀v∈u.c,Plain v:=by
 intro v a;simp only[eT.c,c0,fw,fD]at a;rcases a with rfl|rfl|rfl|rfl|rfl|rfl<;>trivial
theorem q4(a:Var w h u.c 90){K:Int->Int->Int->Int->Int->Int->Prop}(d:K (u.root:Nat) (u.aL:Nat) (u.map:Nat) (u.clock:Nat) (u.dw:Nat) (u.keys:Nat)):
 ∃cc:Int,w.cell? h=some (.int .i64 cc)/\∃bB:Int,w.cell? (Addr.add h 1)=some (.int .i64 bB)/\∃b:Int,w.cell? (Addr.add h 2)=some (.int .i64 b)/\
  ∃bX:Int,w.cell? (Addr.add h 3)=some (.int .u64 bX)/\∃n5:Int,w.cell? (Addr.add h 4)=some (.int .u64 n5)/\∃n6:Int,w.cell? (Addr.add h 5)=some (.int .i64 n6)/\K cc bB b bX n5 n6:=
 ⟨_,a.cell,_,by rw[aA];exact a.cell,_,by rw[aA];exact a.cell,_,by rw[aA];exact a.cell,_,by rw[aA];exact a.cell,_,by rw[aA];exact a.cell,d⟩
theorem Cs(a:Var w h vs 90)(b:vs.length=6)(u:eT){K:J->Prop}(d:∀ai,Var ai h u.c 90->af (λq=>q=h) w ai->ai.heap.size=w.heap.size->K ai):
 bJ w h [u.root,u.aL,u.map,.int .u64 (u.clock:Nat),.int .u64 (u.dw:Nat),u.keys]/\(6:Nat)=6/\
  ao (setCells w h 0 [u.root,u.aL,u.map,.int .u64 (u.clock:Nat),.int .u64 (u.dw:Nat),u.keys]) K:=
 ⟨a.cn (by rw[b];rfl) u.plain,rfl,cT a (us:=u.c) (by rw[b];rfl) rfl λai e hc f=>d ai e hc f⟩
end
theorem qo{w:J}{u:eT}(h:nJ u){n:Nat}(y:n<4294967296):aI aj 119 #[.agg u.c.toArray,n] w (λv w'=>∃s:ad,v=s/\aT 1 5 w' s (az (gX u n))/\Ext w w'/\gD w s):=by
 have h1:=h.root;have h2:=h.aL;have z:=h.map;have V:=h.clock;have W:=h.dw;have A:=h.keys;have a:∀ {x:Nat},x<4294967296->IntKind.wrap .u64 (x:Int)=(x:Int):=λ{x} hx=>gI I I;refine okF (ae.qo (u.root:Nat) (u.aL:Nat) (u.map:Nat) (u.clock:Nat) (u.dw:Nat) (u.keys:Nat) (n:Nat)) ax.qo func119 ?_;(delta ae.qo aG Y bE cr;dsimp only);refine ba (vs:=u.c) rfl λw1 b B X=>⟨_,b.cell,?_⟩;rw[a h1];refine(gU (s:=⟨none,0,0⟩) (l:=[]) (aT.none 1 5 w1).src (cM _) (n:=u.root) I (by decide)).use ?_;rintro _ ai ⟨s2,rfl,C,d,Z⟩;have e:=b.ext d;refine⟨s2,rfl,_,by rw[aA];exact e.cell,?_⟩;rw[a (x:=u.aL) I];refine(gU C.src (by simp[dz]) (n:=u.aL) I (by decide)).use ?_;rintro _ aa ⟨D,rfl,E,f,ab⟩;have g:=e.ext f;refine⟨D,rfl,_,by rw[aA];exact g.cell,?_⟩;rw[a z];refine(gU E.src (by simp[dz]) (n:=u.map) I (by decide)).use ?_;rintro _ ac ⟨F,rfl,G,i,af⟩;have H:=g.ext i;refine⟨F,rfl,?_⟩;rw[a y];refine(gU G.src (by simp[dz]) (n:=n) I (by decide)).use ?_;rintro _ ag ⟨K,rfl,L,j,ah⟩;have k:=H.ext j;refine⟨K,rfl,_,by rw[aA];exact k.cell,?_⟩;refine(gU L.src (by simp[dz]) (n:=u.clock) I (by decide)).use ?_;rintro _ ak ⟨M,rfl,N,m,al⟩;have o:=k.ext m;refine⟨M,rfl,_,by rw[aA];exact o.cell,?_⟩;refine(gU N.src (by simp[dz]) (n:=u.dw) I (by decide)).use ?_;rintro _ am ⟨O,rfl,P,p,an⟩;have Q:=o.ext p;refine⟨O,rfl,_,by rw[aA];exact Q.cell,?_⟩;rw[a A];refine(gU P.src (by simp[dz]) (n:=u.keys) I (by decide)).use ?_;rintro _ ao ⟨r,rfl,R,S,T⟩;have t:=Ext.trans (Ext.trans (Ext.trans (Ext.trans (Ext.trans (Ext.trans B d) f) i) j) m) p;refine⟨r,rfl,r,rfl,R,Ext.trans t S,λq U=>?_⟩;have:=T q U;have:=t.size;omega
variable {w w':J}
theorem Src.cut{sz:Nat}{s:ad}{vs:O aa}{lo hi:Nat}(h:Src sz w s vs)(hc:s.len<=s.cap)(h1:lo<=hi)(h2:hi<=s.len):
 Src sz w ⟨aZ s.a sz lo s.cap,hi-lo,s.cap-lo⟩ ((vs.drop (lo*sz)).take ((hi-lo)*sz)):=by
 have f:=h.len;have g:hi*sz<=s.len*sz:=mZ _ h2;have i:lo*sz+(hi-lo)*sz=hi*sz:=by rw[←jf,Nat.add_sub_cancel' h1]
 refine⟨by simp;omega,λc=>?_,λa b=>?_⟩
 .have d:s.a=none:=by
   unfold aZ at c;split at c
   .exact c
   .simpa using c
  simp[h.nil d]
 .show bz w a 0 ((hi-lo)*sz)=_
  by_cases e:hi=lo
  .rw[show hi-lo=0 from I];simp[bz]
  .have ar:∃A,s.a=some A/\a=A.add (lo*sz):=by
    unfold aZ at b;rw[if_neg I]at b
    cases hs:s.a with
    |none=>rw[hs]at b;cases b
    |some A=>rw[hs]at b;exact⟨A,rfl,by simpa using b.symm⟩
   obtain⟨A,ar,rfl⟩:=ar;exact xJ (h.rd A ar) I
theorem HH{s:ad}{sz n:Nat}{q:Nat}:aB ⟨aZ s.a sz 0 s.cap,n-0,s.cap-0⟩ q↔aB s q:=by
 rw[xH];exact Iff.rfl
section
variable {P:Program}{cK e cF:TypeId}{sz bytes:Nat}
structure gE(sz:Nat)(e:TypeId)(w0 w:J)(s:ad)(l:O aa):Prop where
 o:aT sz e w s l
 x:Ext w0 w
 f:∀q,aB s q->w0.heap.size<=q
theorem Ext.new{a:Nat->Prop}{w0 w1 ai:J}(hx:Ext w0 w1)(h:af a w1 ai)(cA:∀q,a q->w0.heap.size<=q):Ext w0 ai/\af (λq=>w0.heap.size<=q) w1 ai:=
 ⟨Ext.dT hx h cA,h.mono λq _ b=>cA q b⟩
theorem gE.app(h:hE P cK e sz bytes){w0 w1:J}{s x:ad}{l xs:O aa}(hs:gE sz e w0 w1 s l)(hx:Src sz w1 x xs)(d:∀v∈xs,Plain v)(g:(2*(s.len+x.len)+1000)*bytes<=281474976710656):
 ∃ (a:ad) (ai:J),Sem.run P (Builtin.append_ #[cK,cK] cF #[s,x]) w1=.ok a ai/\af (λq=>w0.heap.size<=q) w1 ai/\gE sz e w0 ai a (l++xs)/\
  a.len=s.len+x.len/\af (aB s) w1 ai/\∀q,aB a q->aB s q\/w1.heap.size<=q:=by
 obtain⟨a,ai,aw,ay,i,b,c⟩:=h.append (cF:=cF) hx hs.o d g;obtain⟨b5,cp⟩:=Ext.new hs.x b hs.f;exact⟨a,ai,aw,cp,⟨ay,b5,λq j=>(c q j).elim (hs.f q) λh=>eG hs.x.size h⟩,i,b,c⟩
theorem size_le{a b c:Nat}(h:(2*b+1000)*c<=281474976710656)(d:a<=b):(2*a+1000)*c<=281474976710656:=eG (mZ _ I) h
theorem Ct(h:hE P cK e sz bytes){x u M:O aa}{s1 s2:ad}{w0:J}
 (V:∀w:J,Sem.run P (Instr.buildSlice cK 0 #[]) w=.ok (.slice (some w.heap.size) 0 0) (w.alloc (.cells #[] e)))
 (cB:∀w:J,Sem.run P (Instr.buildSlice cK 1 #[(0,.agg x.toArray)]) w=.ok (.slice (some w.heap.size) 1 1) (w.alloc (.cells x.toArray e)))
 (hx:x.length=sz) (h1:Src sz w0 s1 u) (h2:Src sz w0 s2 M) (aP:∀v∈x,Plain v) (bl:∀v∈u,Plain v) (bf:∀v∈M,Plain v)
 (y:(2*(s1.len+s2.len+1)+1000)*bytes<=281474976710656) {K:ad->J->Prop} (an:∀W w',gE sz e w0 w' W (u++x++M)->K W w'):
 (∃N:ad,∃p:J,Sem.run P (Instr.buildSlice cK 0 #[]) w0=.ok N p/\af (λq=>w0.heap.size<=q) w0 p/\(
   (∃d:ad,∃g:J,Sem.run P (Builtin.append_ #[cK,cK] cF #[N,s1]) p=.ok d g/\af (λq=>w0.heap.size<=q) p g/\
     ∃m:ad,∃B:J,Sem.run P (Instr.buildSlice cK 1 #[(0,.agg x.toArray)]) g=.ok m B/\af (λq=>w0.heap.size<=q) g B/\
     ∃i:ad,∃c:J,Sem.run P (Builtin.append_ #[cK,cK] cF #[d,m]) B=.ok i c/\af (λq=>w0.heap.size<=q) B c/\
     ∃n:ad,∃k:J,Sem.run P (Builtin.append_ #[cK,cK] cF #[i,s2]) c=.ok n k/\af (λq=>w0.heap.size<=q) c k/\K n k)/\
   (∃X:ad,∃C:J,Sem.run P (Instr.buildSlice cK 1 #[(0,.agg x.toArray)]) p=.ok X C/\af (λq=>w0.heap.size<=q) p C/\
     ∃Y:ad,∃D:J,Sem.run P (Builtin.append_ #[cK,cK] cF #[N,s1]) C=.ok Y D/\af (λq=>w0.heap.size<=q) C D/\
     ∃Z:ad,∃E:J,Sem.run P (Builtin.append_ #[cK,cK] cF #[Y,X]) D=.ok Z E/\af (λq=>w0.heap.size<=q) D E/\
     ∃ab:ad,∃Q:J,Sem.run P (Builtin.append_ #[cK,cK] cF #[Z,s2]) E=.ok ab Q/\af (λq=>w0.heap.size<=q) E Q/\K ab Q)))/\
 (∃ac:ad,∃F:J,Sem.run P (Instr.buildSlice cK 1 #[(0,.agg x.toArray)]) w0=.ok ac F/\af (λq=>w0.heap.size<=q) w0 F/\
   ∃ae:ad,∃G:J,Sem.run P (Instr.buildSlice cK 0 #[]) F=.ok ae G/\af (λq=>w0.heap.size<=q) F G/\
   ∃ag:ad,∃H:J,Sem.run P (Builtin.append_ #[cK,cK] cF #[ae,s1]) G=.ok ag H/\af (λq=>w0.heap.size<=q) G H/\
   ∃aj:ad,∃L:J,Sem.run P (Builtin.append_ #[cK,cK] cF #[ag,ac]) H=.ok aj L/\af (λq=>w0.heap.size<=q) H L/\
   ∃ak:ad,∃R:J,Sem.run P (Builtin.append_ #[cK,cK] cF #[aj,s2]) L=.ok ak R/\af (λq=>w0.heap.size<=q) L R/\K ak R):=by
 have lP:∀ (w:J) (o:Obj),Ext w (w.alloc o):=λw o=>af.alloc (.refl _ _) o;have dx:∀w:J,Ext w0 w->gE sz e w0 (w.alloc (.cells #[] e)) ⟨some w.heap.size,0,0⟩ []:=λw al=>
  ⟨aT.new (T:=e) w [] 0 (by simp) (by decide),Ext.trans al (lP w _),λq l=>by rw[jk]at l;have:=al.size;simp at l;omega⟩
 have S:∀w:J,Src sz (w.alloc (.cells x.toArray e)) ⟨some w.heap.size,1,1⟩ x:=λw=>Src.new w x 1 (by simpa using hx);have z:∀ {w ai:J},Ext w ai->af (λq=>w0.heap.size<=q) w ai:=λh=>af.cX h;have ao:∀ {s:ad}{a b:J},gE sz e w0 a s []->Ext a b->gE sz e w0 b s []:=λh hx=>⟨h.o.ext hx,Ext.trans h.x hx,h.f⟩
 have tail:∀ {w1 ai:J}{d m:ad},gE sz e w0 w1 d u->d.len=s1.len->Ext w1 ai->Src sz ai m x->m.len=1->
  ∃i:ad,∃c:J,Sem.run P (Builtin.append_ #[cK,cK] cF #[d,m]) ai=.ok i c/\af (λq=>w0.heap.size<=q) ai c/\
   ∃n:ad,∃k:J,Sem.run P (Builtin.append_ #[cK,cK] cF #[i,s2]) c=.ok n k/\af (λq=>w0.heap.size<=q) c k/\K n k:=by
  intro w1 ai d m hf au am ap av;have aq:gE sz e w0 ai d u:=⟨hf.o.ext am,Ext.trans hf.x am,hf.f⟩;obtain⟨i,c,aw,ay,j,t,_,_⟩:=gE.app (cF:=cF) h aq ap aP (size_le y I);obtain⟨n,k,b5,cp,ar,_,_,_⟩:=gE.app (cF:=cF) h j (h2.ext j.x) bf (size_le y I);exact⟨i,c,aw,ay,n,k,b5,cp,an _ _ ar⟩
 refine⟨⟨⟨some w0.heap.size,0,0⟩,_,V w0,z (lP _ _),?_,?_⟩,?_⟩
 .have f0:=dx w0 (.refl _ _)
  obtain⟨d,g,aw,ay,j,t,_,_⟩:=gE.app (cF:=cF) h f0 (h1.ext f0.x) bl (size_le y (by simp;omega));rw[hA]at j;obtain⟨i,c,r⟩:=tail j (by simpa using t) (lP g (.cells x.toArray e)) (S g) rfl;exact⟨d,g,aw,ay,⟨some g.heap.size,1,1⟩,_,cB g,z (lP _ _),i,c,r⟩
 .have f0:=ao (dx w0 (.refl _ _)) (lP _ (.cells x.toArray e))
  obtain⟨d,g,aw,ay,j,t,U,_⟩:=gE.app (cF:=cF) h f0 (h1.ext f0.x) bl (size_le y (by simp;omega));rw[hA]at j;have hs:=(S (w0.alloc (.cells #[] e))).ah U λq l A=>by
   rw[jk]at l A;simp at l A;omega
  obtain⟨i,c,r⟩:=tail j (by simpa using t) (.refl _ _) hs rfl;exact⟨⟨some ⟨(w0.alloc (.cells #[] e)).heap.size,0,none⟩,1,1⟩,_,cB _,z (lP _ _),d,g,aw,ay,i,c,r⟩
 .have f0:=dx (w0.alloc (.cells x.toArray e)) (lP _ _)
  obtain⟨d,g,aw,ay,j,t,U,_⟩:=gE.app (cF:=cF) h f0 (h1.ext f0.x) bl (size_le y (by simp;omega));rw[hA]at j;have hs:=((S w0).alloc (.cells #[] e)).ah U λq l A=>by
   rw[jk]at l A;simp at l A;omega
  obtain⟨i,c,r⟩:=tail j (by simpa using t) (.refl _ _) hs rfl;exact⟨⟨some w0.heap.size,1,1⟩,_,cB _,z (lP _ _),⟨some ⟨(w0.alloc (.cells x.toArray e)).heap.size,0,none⟩,0,0⟩,_,V _,z (lP _ _),d,g,aw,ay,i,c,r⟩
end
end Go.Proofs.YtcmgnhkpfllinaaGreat
namespace Go.Proofs.YtcmgnhkpfllinaaGreat
open Go Go.Proofs Go.Shelf
def HI:Go.Shelf.Ren:=⟨λ |5=>140|8=>197|7=>196|19=>246|20=>247|10=>237|11=>238|12=>239|13=>240|14=>241|15=>242|16=>243|17=>244|18=>245|30=>267|31=>268|32=>269|33=>270|34=>271|35=>272|40=>278|n=>n,λ |23=>72|25=>3|3=>3|32=>30|22=>72|0=>0|44=>211|46=>23|4=>4|36=>330|35=>329|41=>224|5=>5|9=>9|53=>351|57=>355|63=>359|64=>226|n=>n,λ |n=>n⟩
theorem Cu:Go.Proofs.SlLaysM.n5 Tryz.prog HI:={
 mixed:=by kernel_rfl
 f5:=⟨Tryz.f140.name,by decide,Tryz.func140.trans (congrArg some (by kernel_rfl))⟩
 f7:=⟨Tryz.f196.name,by decide,Tryz.func196.trans (congrArg some (by kernel_rfl))⟩
 f8:=Tryz.func197.trans (congrArg some (by kernel_rfl))
 f10:=⟨Tryz.f237.name,by decide,Tryz.func237.trans (congrArg some (by kernel_rfl))⟩
 f11:=⟨Tryz.f238.name,by decide,Tryz.func238.trans (congrArg some (by kernel_rfl))⟩
 f12:=⟨Tryz.f239.name,by decide,Tryz.func239.trans (congrArg some (by kernel_rfl))⟩
 f13:=⟨Tryz.f240.name,by decide,Tryz.func240.trans (congrArg some (by kernel_rfl))⟩
 f14:=⟨Tryz.f241.name,by decide,Tryz.func241.trans (congrArg some (by kernel_rfl))⟩
 f15:=⟨Tryz.f242.name,by decide,Tryz.func242.trans (congrArg some (by kernel_rfl))⟩
 f16:=⟨Tryz.f243.name,by decide,Tryz.func243.trans (congrArg some (by kernel_rfl))⟩
 f17:=⟨Tryz.f244.name,by decide,Tryz.func244.trans (congrArg some (by kernel_rfl))⟩
 f18:=⟨Tryz.f245.name,by decide,Tryz.func245.trans (congrArg some (by kernel_rfl))⟩
 f19:=Tryz.func246.trans (congrArg some (by kernel_rfl))
 f20:=Tryz.func247.trans (congrArg some (by kernel_rfl))
 f30:=⟨Tryz.f267.name,by decide,Tryz.func267.trans (congrArg some (by kernel_rfl))⟩
 f31:=Tryz.func268.trans (congrArg some (by kernel_rfl))
 f32:=Tryz.func269.trans (congrArg some (by kernel_rfl))
 f33:=⟨Tryz.f270.name,by decide,Tryz.func270.trans (congrArg some (by kernel_rfl))⟩
 f34:=⟨Tryz.f271.name,by decide,Tryz.func271.trans (congrArg some (by kernel_rfl))⟩
 f35:=⟨Tryz.f272.name,by decide,Tryz.func272.trans (congrArg some (by kernel_rfl))⟩
 f40:=⟨Tryz.f278.name,by decide,Tryz.func278.trans (congrArg some (by kernel_rfl))⟩
 t0:=Tryz.underlying0
 a0:=Tryz.isAgg0
 z0:=Tryz.sizeOf0
 v0:=Tryz.zeroValue0
 t3:=Tryz.underlying3
 a3:=Tryz.isAgg3
 z3:=Tryz.sizeOf3
 v3:=Tryz.zeroValue3
 t4:=Tryz.underlying4
 a4:=Tryz.isAgg4
 z4:=Tryz.sizeOf4
 v4:=Tryz.zeroValue4
 t5:=Tryz.underlying5
 a5:=Tryz.isAgg5
 z5:=Tryz.sizeOf5
 v5:=Tryz.zeroValue5
 t9:=Tryz.underlying9
 a9:=Tryz.isAgg9
 z9:=Tryz.sizeOf9
 v9:=Tryz.zeroValue9
 t22:=Tryz.underlying72
 a22:=Tryz.isAgg72
 z22:=Tryz.sizeOf72
 v22:=Tryz.zeroValue72
 t23:=Tryz.underlying72
 a23:=Tryz.isAgg72
 z23:=Tryz.sizeOf72
 v23:=Tryz.zeroValue72
 t25:=Tryz.underlying3
 a25:=Tryz.isAgg3
 z25:=Tryz.sizeOf3
 v25:=Tryz.zeroValue3
 t32:=Tryz.underlying30
 a32:=Tryz.isAgg30
 z32:=Tryz.sizeOf30
 v32:=Tryz.zeroValue30
 t35:=Tryz.underlying329
 a35:=Tryz.isAgg329
 z35:=Tryz.sizeOf329
 v35:=Tryz.zeroValue329
 t36:=Tryz.underlying330
 a36:=Tryz.isAgg330
 z36:=Tryz.sizeOf330
 v36:=Tryz.zeroValue330
 t41:=Tryz.underlying224
 a41:=Tryz.isAgg224
 z41:=Tryz.sizeOf224
 v41:=Tryz.zeroValue224
 t44:=Tryz.underlying211
 a44:=Tryz.isAgg211
 z44:=Tryz.sizeOf211
 v44:=Tryz.zeroValue211
 t46:=Tryz.underlying23
 a46:=Tryz.isAgg23
 z46:=Tryz.sizeOf23
 v46:=Tryz.zeroValue23
 t53:=Tryz.underlying351
 a53:=Tryz.isAgg351
 z53:=Tryz.sizeOf351
 v53:=Tryz.zeroValue351
 t57:=Tryz.underlying355
 a57:=Tryz.isAgg355
 z57:=Tryz.sizeOf355
 v57:=Tryz.zeroValue355
 t63:=Tryz.underlying359
 a63:=Tryz.isAgg359
 z63:=Tryz.sizeOf359
 v63:=Tryz.zeroValue359
 t64:=Tryz.underlying226
 a64:=Tryz.isAgg226
 z64:=Tryz.sizeOf226
 v64:=Tryz.zeroValue226}
end Go.Proofs.YtcmgnhkpfllinaaGreat
namespace Go.Proofs.YtcmgnhkpfllinaaGreat
open Go aQ Go.Proofs.Tryz
theorem HJ{w:J}{b n:Nat}{c:Array aa}{T:TypeId}{os:Array Obj}{zs:O Int}(h:bj w b c T)(g:zs.length<=c.size):
 ∃c':Array aa,bj (Go.Sort.grow (Go.Sort.putRow (Value.int .i64) (Go.Sort.ahead w n) b 0 zs.toArray) os) b c' T/\c'.size=c.size/\c'.toList.take zs.length=zs.map encZ/\af (λq=>q=b) w (Go.Sort.grow (Go.Sort.putRow (Value.int .i64) (Go.Sort.ahead w n) b 0 zs.toArray) os):=by
 have aH:=h.lt;have d:∀k,k<w.heap.size->(Go.Sort.grow (Go.Sort.putRow (Value.int .i64) (Go.Sort.ahead w n) b 0 zs.toArray) os).heap[k]? =(w.heap.modify b (Go.Sort.onCells (Go.Sort.putCells (Value.int .i64) 0 zs.toArray)))[k]? :=λk a=>by
  show((w.heap.modify b _)++os)[k]? =_;rw[Array.getElem?_append_left (by simpa using a)]
 refine⟨Go.Sort.putCells (Value.int .i64) 0 zs.toArray c,?_,by simp[Go.Sort.putCells],?_,rfl,rfl,rfl,?_,λk a f=>?_⟩
 .unfold bj at h⊢
  rw[d b aH,s4,if_pos rfl,h];rfl
 .apply List.ext_getElem?
  intro i;rw[s8];split
  .rename_i hi
   rw[Array.getElem?_toList,Go.Sort.putCells,Array.getElem?_mapIdx,Array.getElem?_eq_getElem I,l_,if_pos ⟨cM _,by simpa using hi⟩,n2,dI hi];simp[hi]
  .rename_i hi
   rw[n_ (by simpa using hi)]
 .show w.heap.size<=((w.heap.modify b _)++os).size
  simp
 .rw[d k a,s4,if_neg (λe=>f e.symm)]
theorem HK{w:J}{s:ad}{zs:O Int}(h:aT 1 3 w s (zs.map encZ))(E:zs.length<=1000000):
 aI aj 140 #[s] w (λv w'=>v=.tuple #[]/\af (aB s) w w'/\∃ys:O Int,aT 1 3 w' s (ys.map encZ)/\ys.Perm zs/\ys.Pairwise λa b=>a<=b):=by
 have F:s.len=zs.length:=by have:=h.1;rw[dn]at this;omega
 rcases oa zs.length with h0|h0
 .have hd:zs=[]:=l9.1 h0
  have e:s.len=0:=by omega
  rw[e];refine Calls.mono (AnyM.slices_Sort_int_none Cu s.a s.cap w) ?_;rintro _ _ ⟨rfl,rfl⟩;exact⟨_,rfl,rfl,.refl _ _,[],by rw[hd]at h;exact h,by rw[hd],List.Pairwise.nil⟩
 obtain⟨h1,h2,r,t⟩:=h;rcases t with ⟨_,f⟩|⟨b,c,g,d,u,z⟩
 .omega
 have A:Go.Sort.Holds (Value.int .i64) w b 0 zs.toArray:=λj B=>by
  have k:j<zs.length:=by simpa using B
  refine⟨?_,bj.frozen d _ rfl⟩;rw[d.cell,cR];have e:=congrArg (λl=>l[j]?) z;simp only[s8,n2,dI k,l_]at e;rw[if_pos I,Array.getElem?_toList]at e;rw[e];simp[k]
 have C:=AnyM.slices_Sort_int Cu b 0 s.cap zs w A d.lt I;rw[g];have e:s.len=zs.length:=by omega
 rw[e];refine Calls.mono C ?_;rintro _ w' ⟨rfl,n,os,rfl⟩;obtain⟨c',aw,ay,m,o⟩:=HJ (n:=n) (os:=os) (zs:=zs.mergeSort λx y=>decide (x<=y)) d (by rw[List.length_mergeSort];omega);have i:=List.mergeSort_perm zs λx y=>decide (x<=y);have p:(zs.mergeSort λx y=>decide (x<=y)).Pairwise λa b=>decide (a<=b)=true:=List.pairwise_mergeSort (λa b c h1 h2=>by simp only[cg]at*;omega) (λa b=>by simp only[je,cg];omega) zs;generalize (zs.mergeSort λx y=>decide (x<=y))=ys at aw ay m o i p;refine⟨_,rfl,rfl,o.mono λq _ e=>⟨b,g,e.symm⟩,ys,?_,i,p.imp λh=>cj h⟩;have D:=i.length_eq;have f:=aT.mk' (sz:=1) (n:=s.len) (cap:=s.cap) aw (vs:=ys.map encZ) (by rw[dn];omega) h2 r (by rw[ay];exact u) (by rw[fB,e,←D];exact m);rw[←g]at f;exact f
def lv(a cB b6 b c d e f:al):Nat:=
 a.toNat+2*cB.toNat+4*b6.toNat+8*b.toNat+16*c.toNat+32*d.toNat+64*e.toNat+128*f.toNat
def byteOf(f:Nat->al)(i:Nat):Nat:=lv (f (8*i)) (f (8*i+1)) (f (8*i+2)) (f (8*i+3)) (f (8*i+4)) (f (8*i+5)) (f (8*i+6)) (f (8*i+7))
theorem HL:∀a cB b6 b c d e f:al,lv a cB b6 b c d e f<256:=by decide+kernel
theorem HM:∀a cB b6 b c d e f:al,
 (lv a cB b6 b c d e f).testBit 0=a/\(lv a cB b6 b c d e f).testBit 1=cB/\(lv a cB b6 b c d e f).testBit 2=b6/\(lv a cB b6 b c d e f).testBit 3=b/\
 (lv a cB b6 b c d e f).testBit 4=c/\(lv a cB b6 b c d e f).testBit 5=d/\(lv a cB b6 b c d e f).testBit 6=e/\(lv a cB b6 b c d e f).testBit 7=f:=by decide+kernel
theorem kP(f:Nat->al)(i:Nat):byteOf f i<256:=HL _ _ _ _ _ _ _ _
theorem po(f:Nat->al)(i j:Nat)(a:j<8):(byteOf f i).testBit j=f (8*i+j):=by
 obtain⟨h0,h1,h2,b,c,d,e,g⟩:=HM (f (8*i)) (f (8*i+1)) (f (8*i+2)) (f (8*i+3)) (f (8*i+4)) (f (8*i+5)) (f (8*i+6)) (f (8*i+7));have:j=0\/j=1\/j=2\/j=3\/j=4\/j=5\/j=6\/j=7:=by omega
 unfold byteOf;rcases this with rfl|rfl|rfl|rfl|rfl|rfl|rfl|rfl<;>assumption
theorem HN{x y:Nat}(hx:x<256)(b:y<256)(h:∀j,j<8->x.testBit j=y.testBit j):x=y:=by
 apply Nat.eq_of_testBit_eq;intro j;by_cases a:j<8
 .exact h j a
 .have p:256<=2^j:=by
   have:=tc (n:=2) I (by omega:8<=j);simpa using this
  rw[Nat.testBit_lt_two_pow I,Nat.testBit_lt_two_pow I]
theorem yX(f:Nat->al)(i x:Nat)(hx:x<256)(h:∀j,j<8->x.testBit j=f (8*i+j)):x=byteOf f i:=
 HN hx (kP f i) λj a=>by rw[h j a,po f i j a]
def du(f:Nat->al)(k:Nat)(b:al):Nat->al:=λi=>if i=k then b else f i
theorem HO:∀x:Nat,x<256->∀j:Nat,j<8->(jh .u8 (Int.fdiv (x:Int) (2^(min (Int.toNat (j:Int)) 8))) 1==1)=x.testBit j:=by decide+kernel
theorem HP:∀x:Nat,x<256->∀j:Nat,j<8->m9 .u8 (x:Int) (IntKind.wrap .u8 (1*2^(min (Int.toNat (j:Int)) 8)))=((x|||2^j:Nat):Int):=by decide+kernel
theorem HQ:∀x:Nat,x<256->∀j:Nat,j<8->z6 .u8 (x:Int) (IntKind.wrap .u8 (1*2^(min (Int.toNat (j:Int)) 8)))=((x&&&(255-2^j):Nat):Int):=by decide+kernel
theorem yY:∀x:Nat,x<256->∀y:Nat,y<256->x|||y<256:=λ_ hx _ a=>Nat.or_lt_two_pow (n:=8) hx a
theorem HR:∀j:Nat,j<8->∀k:Nat,k<8->(255-2^j).testBit k=(k !=j):=by decide+kernel
theorem HS(x y:Nat)(hx:x<256)(a:y<256):m9 .u8 (x:Int) (y:Int)=((x|||y:Nat):Int):=by
 have h:=yY x hx y a;have e:(BitVec.ofInt 8 (x:Int)|||BitVec.ofInt 8 (y:Int)).toNat=x|||y:=by
  simp only[BitVec.ofInt_natCast,BitVec.toNat_or,BitVec.toNat_ofNat];rw[j6 (by simpa using hx),j6 (by simpa using a)]
 show IntKind.wrap .u8 (((BitVec.ofInt 8 (x:Int)|||BitVec.ofInt 8 (y:Int)).toNat:Nat):Int)=_;rw[e];have:((x|||y:Nat):Int)%256=((x|||y:Nat):Int):=Int.emod_eq_of_lt I I;simp[IntKind.wrap,IntKind.signed,IntKind.bits,this]
theorem HT(k:Nat):8*(k/8)+k%8=k:=Nat.div_add_mod k 8
theorem HU(f:Nat->al)(k:Nat):byteOf f (k/8)|||2^(k%8)=byteOf (du f k true) (k/8):=by
 refine yX _ _ _ (yY _ (kP _ _) _ ?_) λj b=>?_
 .have:k%8<8:=g9 _ I
  have:=Nat.pow_lt_pow_right (a:=2) I this;simpa using this
 .rw[mU,po _ _ _ b,rj,du]
  by_cases h:8*(k/8)+j=k
  .rw[if_pos h]
   have:k%8=j:=by omega
   simp[this]
  .rw[if_neg h]
   have:¬k%8=j:=by omega
   simp[this]
theorem HV(f:Nat->al)(k:Nat):byteOf f (k/8)&&&(255-2^(k%8))=byteOf (du f k false) (k/8):=by
 refine yX _ _ _ (Nat.lt_of_le_of_lt Nat.and_le_left (kP _ _)) λj a=>?_;rw[Nat.testBit_and,po _ _ _ a,HR _ (g9 _ I) _ a,du];by_cases h:8*(k/8)+j=k
 .rw[if_pos h]
  have:j=k%8:=by omega
  simp[this]
 .rw[if_neg h]
  have:¬j=k%8:=by omega
  simp[this]
theorem HW(f:Nat->al)(k i:Nat)(b:al)(h:i≠k/8):byteOf (du f k b) i=byteOf f i:=by
 have e:∀j,j<8->du f k b (8*i+j)=f (8*i+j):=λj a=>by
  unfold du;rw[if_neg];omega
 unfold byteOf;rw[e 1 I,e 2 I,e 3 I,e 4 I,e 5 I,e 6 I,e 7 I];have:=e 0 I;simp only[lF]at this;rw[this]
def e5(f:Nat->al)(m:Nat):O aa:=(List.range m).map λi=>.int .u8 (byteOf f i)
theorem yZ(f:Nat->al)(m:Nat):(e5 f m).length=m:=by simp[e5]
theorem pq(f:Nat->al){m i:Nat}(h:i<m):(e5 f m)[i]? =some (.int .u8 (byteOf f i)):=by simp[e5,h]
theorem Cv(f:Nat->al)(k m:Nat)(b:al):(e5 f m).set (k/8) (.int .u8 (byteOf (du f k b) (k/8)))=e5 (du f k b) m:=by
 apply List.ext_getElem?;intro i;rw[List.getElem?_set];by_cases hi:i<m
 .rw[pq (du f k b) hi]
  by_cases h:k/8=i
  .subst h
   simp[yZ,hi]
  .rw[if_neg h,pq _ hi,HW f k i b I]
 .have h1:(e5 (du f k b) m)[i]? =none:=by simp[e5];omega
  have h2:(e5 f m)[i]? =none:=by simp[e5];omega
  rw[h1,h2];split
  .simp[yZ];omega
  .rfl
theorem Cw(k:Nat):Int.tdiv (k:Int) 8=((k/8:Nat):Int):=by
 rw[wW I];omega
theorem y0(k:Nat):Int.tmod (k:Int) 8=((k%8:Nat):Int):=by
 rw[nW I];omega
theorem y1{k:Nat}(h:k<=9223372036854775807):IntKind.wrap .i64 (Int.tdiv (k:Int) 8)=((k/8:Nat):Int):=by
 rw[Cw,bq I I]
theorem Cx{s:ad}{b:Nat}(h:s.a=some ⟨b,0,none⟩):aB s b:=⟨_,h,rfl⟩
theorem sN{w:J}{s:ad}{f:Nat->al}{m k:Nat}(h:aT 1 5 w s (e5 f m))(a:k/8<m)(d:k<=9223372036854775807):
 aI aj 198 #[s,k] w (λv w'=>v=.bool (f k)/\w=w'):=by
 refine okF (ae.vi s k) ax.vi func198 ?_;(delta ae.vi aO aq dv;dsimp only);obtain⟨b,c,e,g,i,hi,j,hc,_⟩:=h.cell (pq f a);refine⟨by decide,_,e,?_⟩;rw[y1 d,y0];refine⟨⟨I,I⟩,(byteOf f (k/8):Int),?_,by decide,I,?_,rfl⟩
 .rw[fB,dc,aA,cR];exact hc
 .rw[HO _ (kP _ _) _ (g9 _ I),po _ _ _ (g9 _ I),HT]
theorem Cy{w:J}{s:ad}{f:Nat->al}{m k:Nat}(h:aT 1 5 w s (e5 f m))(e:k/8<m)(g:k<=9223372036854775807):
 aI aj 111 #[s,k] w (λv w'=>v=.tuple #[]/\aT 1 5 w' s (e5 (du f k true) m)/\af (aB s) w w'):=by
 refine okF (ae.uY s k) ax.uY func111 ?_;(delta ae.uY ao aO aq dv st;dsimp only);obtain⟨b,c,d,i,l,hi,n,hc,_⟩:=h.cell (pq f e);have a:(Addr.mk b 0 none).add (Int.toNat ((k/8:Nat):Int)*1)=⟨b,k/8,none⟩:=by rw[fB,dc,aA,cR]
 rw[y1 g,y0];refine⟨by decide,_,d,⟨I,I⟩,by simp,(byteOf f (k/8):Int),by rw[a];exact hc,by decide,I,_,d,⟨I,I⟩,⟨_,by rw[a];exact hc⟩,by rw[a];exact i.drew.frozen _ rfl,rfl,?_,?_⟩
 .rw[a,HP _ (kP _ _) _ (g9 _ I),HU,←Cv]
  have j:aT 1 5 w.drew s (e5 f m):=h.ah (W:=λ_=>False) (af.drew (.refl _ _)) (λ_ _ h=>h);exact j.set d _
 .rw[a]
  exact af.set (af.drew (.refl _ _)) (λ_=>Cx d) _
theorem HX{w:J}{s:ad}{f:Nat->al}{m k:Nat}(h:aT 1 5 w s (e5 f m))(e:k/8<m)(g:k<=9223372036854775807):
 aI aj 203 #[s,k] w (λv w'=>v=.tuple #[]/\aT 1 5 w' s (e5 (du f k false) m)/\af (aB s) w w'):=by
 refine okF (ae.vj s k) ax.vj func203 ?_;(delta ae.vj ao aO aq dv st;dsimp only);obtain⟨b,c,d,i,l,hi,n,hc,_⟩:=h.cell (pq f e);have a:(Addr.mk b 0 none).add (Int.toNat ((k/8:Nat):Int)*1)=⟨b,k/8,none⟩:=by rw[fB,dc,aA,cR]
 rw[y1 g,y0];refine⟨by decide,_,d,⟨I,I⟩,by simp,(byteOf f (k/8):Int),by rw[a];exact hc,by decide,I,_,d,⟨I,I⟩,⟨_,by rw[a];exact hc⟩,by rw[a];exact i.drew.frozen _ rfl,rfl,?_,?_⟩
 .rw[a,HQ _ (kP _ _) _ (g9 _ I),HV,←Cv]
  have j:aT 1 5 w.drew s (e5 f m):=h.ah (W:=λ_=>False) (af.drew (.refl _ _)) (λ_ _ h=>h);exact j.set d _
 .rw[a]
  exact af.set (af.drew (.refl _ _)) (λ_=>Cx d) _
structure fp(w:J)(b n:Nat)(f g:Nat->al)(s1 s2:ad):Prop where
 bM:bj w b #[n,s1,s2] 209
 now:aT 1 5 w s1 (e5 f ((n+7)/8))
 sure:aT 1 5 w s2 (e5 g ((n+7)/8))
 d1:∀k,aB s1 k->k≠b/\¬aB s2 k
 d2:∀k,aB s2 k->k≠b
 cc:1<=n
 bB:n<=1600
 pf:∀i,n<=i->f i=false
 cH:∀i,n<=i->g i=false
def gM(b:Nat)(s1 s2:ad)(k:Nat):Prop:=k=b\/aB s1 k\/aB s2 k
section
variable {w w':J}{b n:Nat}{f g:Nat->al}{s1 s2:ad}
theorem fp.ah{W:Nat->Prop}(h:fp w b n f g s1 s2)(hc:af W w w')(a:∀k,gM b s1 s2 k->¬W k):fp w' b n f g s1 s2:=
 ⟨h.bM.ah hc (a b (.inl rfl)),h.now.ah hc λk c=>a k (.inr (.inl c)),h.sure.ah hc λk c=>a k (.inr (.inr c)),h.d1,h.d2,h.cc,h.bB,h.pf,h.cH⟩
theorem fp.ext(h:fp w b n f g s1 s2)(hc:Ext w w'):fp w' b n f g s1 s2:=h.ah hc λ_ _ h=>h
theorem fp.lt(h:fp w b n f g s1 s2):∀k,gM b s1 s2 k->k<w.heap.size:=by
 rintro k (rfl|a|a)
 .exact h.bM.lt
 .exact h.now.lt k a
 .exact h.sure.lt k a
theorem fp.bU(h:fp w b n f g s1 s2):w.cell? b=some (.int .i64 n):=by rw[h.bM.cell];rfl
theorem fp.aW(h:fp w b n f g s1 s2):w.cell? ((Addr.mk b 0 none).add 1)=some (.slice s1.a s1.len s1.cap):=by rw[aA,h.bM.cell];rfl
theorem fp.a8(h:fp w b n f g s1 s2):w.cell? ((Addr.mk b 0 none).add 2)=some (.slice s2.a s2.len s2.cap):=by rw[aA,h.bM.cell];rfl
theorem HY(h:fp w b n f g s1 s2){k:Nat}(a:k<n):
 aI aj 201 #[.pointer (some b),k] w (λv w'=>v=.bool (f k||g k)/\w=w'):=by
 have c:=h.bB;refine ae.FG _ k w _ ?_;(delta ae.sk r1 b8 ak;dsimp only);refine⟨_,rfl,s1,h.aW,(sN h.now (k:=k) I I).use ?_⟩;rintro _ _ ⟨rfl,rfl⟩;refine⟨_,rfl,⟨λhf=>⟨by rw[hf];rfl,rfl⟩,λhf=>⟨_,rfl,s2,h.a8,(sN h.sure (k:=k) I I).use ?_⟩⟩⟩;rintro _ _ ⟨rfl,rfl⟩;exact⟨_,rfl,by rw[hf];rfl,rfl⟩
theorem Cz(h:fp w b n f g s1 s2)(k:Int):
 aI aj 202 #[.pointer (some b),k] w (λv w'=>v=.bool (decide (0<=k)&&decide (k<n))/\w=w'):=by
 refine ae.FH _ k w _ ?_;(delta ae.sn ak aG;dsimp only);refine⟨?_⟩;refine⟨λh1=>⟨_,rfl,n,h.bU,?_,rfl⟩,λh1=>⟨?_,rfl⟩⟩
 .have:0<=k:=by simpa using h1
  simp[this]
 .have:¬0<=k:=by simpa using h1
  simp[this]
def firstFree(t:Nat->al)(n:Nat):av Nat:=(List.range n).find? λi=> !t i
theorem HZ{t:Nat->al}{n k:Nat}(e:k<n)(ht:t k=false)(c:∀i,i<k->t i=true):firstFree t n=some k:=by
 unfold firstFree;rw[List.find?_eq_some_iff_append];refine⟨by simp[ht],List.range k,(List.range' (k+1) (n-(k+1))),?_,λa d=>?_⟩
 .have b:=List.range'_append (s:=0) (m:=k) (n:=n-(k+1)+1) (step:=1)
  rw[s6,s6,←List.range'_succ];rw[Nat.one_mul,cR]at b;rw[b]
  congr 1
  omega
 .simp[c a (j1.1 d)]
theorem H0{t:Nat->al}{n:Nat}(b:∀i,i<n->t i=true):firstFree t n=none:=by
 unfold firstFree;rw[j8];intro a c;simp[b a (j1.1 c)]
theorem CA{t:Nat->al}{n k:Nat}(h:firstFree t n=some k):k<n/\t k=false/\∀i,i<k->t i=true:=by
 unfold firstFree at h;obtain⟨h1,la,lb,h2,c⟩:=List.find?_eq_some_iff_append.1 h;have d:k<n:=j1.1 (by rw[h2];simp);refine⟨d,by simpa using h1,λi hi=>?_⟩;have hlen:la.length=k:=by
  have a:(List.range n)[la.length]? =some k:=by rw[h2];simp
  rw[List.getElem?_range (by
   have:=congrArg List.length h2;simp at this;omega)]at a
  simpa using a
 have b:(List.range n)[i]? =some i:=List.getElem?_range I;rw[h2,tb I]at b;have:=c i (List.mem_of_getElem? b);simpa using this
theorem H2{t:Nat->al}{n:Nat}(h:firstFree t n=none):∀i,i<n->t i=true:=by
 unfold firstFree at h;rw[j8]at h;intro i hi;have:=h i (j1.2 hi);simpa using this
def H3(o:av Nat):aa:=
 match o with
 |some k=>.tuple #[.int .i64 (k:Int),(0:Int)]
 |none=>.tuple #[.int .i64 (-1),(2:Int)]
def H4(o:av Nat)(f:Nat->al):Nat->al:=
 match o with
 |some k=>du f k true
 |none=>f
theorem CB{f:Nat->al}{n k:Nat}{x:al}(h:∀i,n<=i->f i=false)(a:k<n):∀i,n<=i->du f k x i=false:=λi hi=>by
 unfold du
 rw[if_neg I]
 exact h i hi
theorem CC(h:fp w b n f g s1 s2):
 aI aj 144 #[.pointer (some b)] w (λv w'=>v=H3 (firstFree (λi=>f i||g i) n)/\fp w' b n (H4 (firstFree (λi=>f i||g i) n) f) g s1 s2/\af (gM b s1 s2) w w'):=by
 have r:=h.bB;refine ae.Fy _ w _ ?_;(delta ae.sg ak aG b8 r1 gT aq;dsimp only);refine⟨λh1=>by simp at h1,λ_=>⟨_,rfl,n,h.bU,λi w'=>∃k:Nat,i=k/\k<=n/\w=w'/\∀j,j<k->(f j||g j)=true,λi _=>(n-i).toNat,⟨0,rfl,I,rfl,λj l=>I⟩,?_⟩⟩;rintro _ _ ⟨k,rfl,a,rfl,d⟩;refine⟨λaH=>(HY h (k:=k) (by simpa using aH)).use ?_,λm=>?_⟩
 .have c:k<n:=by simpa using aH
  rintro _ _ ⟨rfl,rfl⟩;refine⟨_,rfl,λht=>⟨_,rfl,s1,h.aW,(Cy h.now (k:=k) I I).use ?_⟩,λht=>?_⟩
  .rintro _ w' ⟨rfl,o,hc⟩
   have e:(f k||g k)=false:=by simpa using ht
   have p:=HZ (t:=λi=>f i||g i) c e d;rw[p];refine⟨rfl,rfl,⟨h.bM.ah hc λq=>(h.d1 b q).1 rfl,o,h.sure.ah hc λk a h1=>(h.d1 k h1).2 a,h.d1,h.d2,h.cc,h.bB,CB h.pf c,h.cH⟩,hc.mono λk _ a=>.inr (.inl a)⟩
  .have e:(f k||g k)=true:=by cases hx:(f k||g k)<;>simp[hx]at ht⊢
   rw[bq I I];refine⟨⟨k+1,I,I,rfl,λj l=>?_⟩,(show((n:Int)-((k:Int)+1)).toNat<((n:Int)-(k:Int)).toNat from I)⟩;rcases dX j k with h1|h1
   .exact d j h1
   .have:j=k:=by omega
    subst this;exact e
 .have c:k=n:=by
   have:¬(k:Int)<n:=by simpa using m
   omega
  subst c;rw[H0 d];exact⟨rfl,h,.refl _ _⟩
def wu(f:Nat->al)(n:Nat)(k:Int):Int:=if 0<=k/\k<n then (if f k.toNat then 0 else 6) else 1
def nL(f:Nat->al)(n:Nat)(k:Int):Nat->al:=if 0<=k/\k<n then du f k.toNat false else f
theorem H5{f:Nat->al}{k:Nat}{x:al}(h:f k=x):du f k x=f:=by
 funext i;unfold du;split
 .rename_i hi;rw[hi,h]
 .rfl
theorem CD(h:fp w b n f g s1 s2)(k:Int):
 aI aj 145 #[.pointer (some b),k] w (λv w'=>v=.int .i64 (wu f n k)/\fp w' b n (nL f n k) g s1 s2/\af (gM b s1 s2) w w'):=by
 have l:=h.bB;refine ae.Fz _ k w _ ?_;(delta ae.sh b8 ak r1 gT;dsimp only);refine(Cz h k).use ?_;rintro _ _ ⟨rfl,rfl⟩;refine⟨_,rfl,λh1=>?_,λh1=>?_⟩
 .have:¬(0<=k/\k<n):=by
   rintro⟨h2,d⟩;simp[h2,d]at h1
  exact⟨by rw[wu,if_neg this],by rw[nL,if_neg this];exact h,.refl _ _⟩
 .have a:0<=k/\k<n:=by simpa using h1
  obtain⟨m,rfl⟩:=w2 a.1;have e:m<n:=by omega
  refine⟨_,rfl,s1,h.aW,(sN h.now (k:=m) I I).use ?_⟩;rintro _ _ ⟨rfl,rfl⟩;refine⟨_,rfl,λh2=>?_,λh2=>⟨_,rfl,s1,h.aW,(HX h.now (k:=m) I I).use ?_⟩⟩
  .have hf:f m=false:=by simpa using h2
   refine⟨by rw[wu,if_pos a,dc,hf];rfl,?_,.refl _ _⟩;rw[nL,if_pos a,dc,H5 hf];exact h
  .rintro _ w' ⟨rfl,i,hc⟩
   have hf:f m=true:=by simpa using h2
   refine⟨rfl,by rw[wu,if_pos a,dc,hf];rfl,?_,hc.mono λk _ c=>.inr (.inl c)⟩;rw[nL,if_pos a,dc];exact⟨h.bM.ah hc λj=>(h.d1 b j).1 rfl,i,h.sure.ah hc λk c h1=>(h.d1 k h1).2 c,h.d1,h.d2,h.cc,h.bB,CB h.pf e,h.cH⟩
theorem H6(h:fp w b n f g s1 s2)(k:Int):
 aI aj 229 #[.pointer (some b),k] w (λv w'=>v=.bool (decide (0<=k)&&decide (k<n)&&f k.toNat&& !(g k.toNat))/\w=w'):=by
 have c:=h.bB;refine ae.FM _ k w _ ?_;(delta ae.so b8 ak r1;dsimp only);refine(Cz h k).use ?_;rintro _ _ ⟨rfl,rfl⟩;refine⟨_,rfl,⟨λh1=>?_,λh1=>⟨(λh=>by cases h),λ_=>⟨by rw[h1];rfl,rfl⟩⟩⟩⟩;have a:0<=k/\k<n:=by simpa using h1
 obtain⟨m,rfl⟩:=w2 a.1;refine⟨_,rfl,s1,h.aW,(sN h.now (k:=m) I I).use ?_⟩;rintro _ _ ⟨rfl,rfl⟩;refine⟨_,rfl,λh2=>⟨_,rfl,s2,h.a8,(sN h.sure (k:=m) I I).use ?_⟩,λh2=>⟨by rw[h1,dc,h2];rfl,rfl⟩⟩;rintro _ _ ⟨rfl,rfl⟩;exact⟨_,rfl,by rw[h1,dc,h2];rfl,rfl⟩
end
theorem H7:hE aj 206 5 1 1:=⟨by kernel_rfl⟩
theorem CE:hE aj 39 5 1 1:=⟨by kernel_rfl⟩
theorem H8(n:Nat):g1 aj 5 n=(List.replicate n (.int .u8 0)).toArray:=AQ (by kernel_rfl) (by kernel_rfl) n
theorem CF(f:Nat->al)(m:Nat):∀v∈e5 f m,Plain v:=by
 intro v a;obtain⟨i,_,rfl⟩:=fJ.1 a;trivial
theorem H9{w:J}{s:ad}{xs:O aa}(h:Src 1 w s xs)(d:∀v∈xs,Plain v)(i:s.len<=1000000):
 aI aj 173 #[s] w (λv w'=>∃b:ad,v=b/\aT 1 5 w' b xs/\Ext w w'/\∀k,aB b k->w.heap.size<=k):=by
 refine okF (ae.uk s) ax.uk func173 ?_;delta ae.uk ao ak Y;refine⟨λc=>?_,λ_=>?_⟩
 .have c:s.a=none:=by simpa using c
  rw[h.nil c];exact⟨⟨none,0,0⟩,rfl,aT.none _ _ _,.refl _ _,λk e=>(f_ k e).elim⟩
 .obtain⟨b,w',h1,h2,j,f,g,_⟩:=H7.clone (cF:=206) h d I
  exact⟨b,w',h1,b,rfl,h2,f,g⟩
theorem H_{w:J}{s:ad}{xs:O aa}(h:Src 1 w s xs)(d:∀v∈xs,Plain v)(i:s.len<=1000000):
 aI aj 46 #[s] w (λv w'=>∃b:ad,v=b/\aT 1 5 w' b xs/\Ext w w'/\∀k,aB b k->w.heap.size<=k):=by
 refine okF (ae.oE s) ax.oE func46 ?_;delta ae.oE ao ak Y;refine⟨λc=>?_,λ_=>?_⟩
 .have c:s.a=none:=by simpa using c
  rw[h.nil c];exact⟨⟨none,0,0⟩,rfl,aT.none _ _ _,.refl _ _,λk e=>(f_ k e).elim⟩
 .obtain⟨b,w',h1,h2,j,f,g,_⟩:=CE.clone (cF:=39) h d I
  exact⟨b,w',h1,b,rfl,h2,f,g⟩
section
variable {w w':J}{b n:Nat}{f g:Nat->al}{s1 s2:ad}
theorem wv{T:TypeId}{m:Nat}(h:aT 1 T w s1 (e5 f m)):s1.len=m:=by
 have:=h.1;rw[yZ]at this;omega
theorem CG{m:Nat}{u:aa}(c:bj w b #[n,s1,u] 209)(h1:aT 1 5 w s1 (e5 f m))(hd:∀k,aB s1 k->k≠b)(g:m<=1000000):
 aI aj 112 #[.pointer (some b)] w (λv w'=>v=.tuple #[]/\∃a:ad,bj w' b #[n,s1,a] 209/\
  aT 1 5 w' s1 (e5 f m)/\aT 1 5 w' a (e5 f m)/\af (λk=>k=b) w w'/\∀k,aB a k->w.heap.size<=k):=by
 refine ae.Fu _ w _ ?_;(delta ae.sd ao ak r1 bE st;dsimp only);refine⟨λ_=>⟨_,rfl,s1,by rw[aA,c.cell];rfl,(H9 h1.src (CF f m) (by rw[wv h1];exact g)).use ?_⟩,λh=>by simp at h⟩;rintro _ ai ⟨a,rfl,h2,hx,hf⟩;have d:=c.ext hx;have i:∀k,aB a k->k≠b:=λk j e=>by have:=hf k j;have:=c.lt;omega
 refine⟨a,rfl,_,rfl,⟨_,by rw[aA,d.cell];rfl⟩,d.frozen _ rfl,rfl,a,?_,?_,?_,?_,hf⟩
 .rw[aA];exact d.set 2 _
 .exact(h1.ext hx).ah (W:=λk=>k=b) (af.set (.refl _ _) (λ_=>by rw[aA]) _) hd
 .exact h2.ah (W:=λk=>k=b) (af.set (.refl _ _) (λ_=>by rw[aA]) _) i
 .exact(af.cX hx).set (λ_=>by rw[aA]) _
theorem Ia(h:fp w b n f g s1 s2):
 aI aj 112 #[.pointer (some b)] w (λv w'=>v=.tuple #[]/\∃c:ad,fp w' b n f f s1 c/\af (gM b s1 s2) w w'/\∀k,gM b s1 c k->gM b s1 s2 k\/w.heap.size<=k):=by
 have m:=h.bB;refine(CG h.bM h.now (λk a=>(h.d1 k a).1) I).mono ?_;rintro _ w' ⟨rfl,c,h1,h2,i,j,d⟩;refine⟨rfl,c,⟨h1,h2,i,λk a=>⟨(h.d1 k a).1,λl=>?_⟩,λk a e=>?_,h.cc,h.bB,h.pf,h.pf⟩,j.mono λk _ a=>.inl a,λk a=>?_⟩
 .have:=d k l;have:=h.now.lt k a;omega
 .have:=d k a;have:=h.bM.lt;omega
 .rcases a with rfl|a|a
  .exact .inl (.inl rfl)
  .exact .inl (.inr (.inl a))
  .exact .inr (d k a)
def q5(x:Nat):Nat:=(x.testBit 0).toNat+(x.testBit 1).toNat+(x.testBit 2).toNat+(x.testBit 3).toNat+(x.testBit 4).toNat+(x.testBit 5).toNat+(x.testBit 6).toNat+(x.testBit 7).toNat
def eU(t:Nat->al):Nat->Nat
 |0=>0
 |k+1=>eU t k+(t k).toNat
theorem nM(t:Nat->al):∀k,eU t k<=k
 |0=>bk _
 |k+1=>by have:=nM t k;have:=Bool.toNat_le (t k);simp only[eU];omega
theorem Ib(t:Nat->al)(i:Nat):eU t (8*(i+1))=eU t (8*i)+q5 (byteOf t i):=by
 have h:∀j,j<8->(byteOf t i).testBit j=t (8*i+j):=λj a=>po t i j a;unfold q5;rw[h 0 I,h 1 I,h 2 I,h 3 I,h 4 I,h 5 I,h 6 I,h 7 I];show eU t (8*i+7+1)=_;simp only[eU,lF];omega
theorem CH(t:Nat->al)(n:Nat)(h:∀i,n<=i->t i=false):∀k,eU t (n+k)=eU t n
 |0=>rfl
 |k+1=>by
  have:=CH t n h k
  show eU t (n+k)+(t (n+k)).toNat=_
  rw[this,h (n+k) I]
  rfl
theorem Ic:∀x:Nat,x<256->(xa (ByteArray.mk #[0,1,1,2,1,2,2,3,1,2,2,3,2,3,3,4,1,2,2,3,2,3,3,4,2,3,3,4,3,4,4,5,1,2,2,3,2,3,3,4,2,3,3,4,3,4,4,5,2,3,3,4,3,4,4,5,3,4,4,5,4,5,5,6,1,2,2,3,2,3,3,4,2,3,3,4,3,4,4,5,2,3,3,4,3,4,4,5,3,4,4,5,4,5,5,6,2,3,3,4,3,4,4,5,3,4,4,5,4,5,5,6,3,4,4,5,4,5,5,6,4,5,5,6,5,6,6,7,1,2,2,3,2,3,3,4,2,3,3,4,3,4,4,5,2,3,3,4,3,4,4,5,3,4,4,5,4,5,5,6,2,3,3,4,3,4,4,5,3,4,4,5,4,5,5,6,3,4,4,5,4,5,5,6,4,5,5,6,5,6,6,7,2,3,3,4,3,4,4,5,3,4,4,5,4,5,5,6,3,4,4,5,4,5,5,6,4,5,5,6,5,6,6,7,3,4,4,5,4,5,5,6,4,5,5,6,5,6,6,7,4,5,5,6,5,6,6,7,5,6,6,7,6,7,7,8]) x).map (·.toNat)=some (q5 x):=by decide+kernel
theorem CI(x:Nat):q5 x<=8:=by
 unfold q5;have h:∀b:al,b.toNat<=1:=Bool.toNat_le;have:=h (x.testBit 0);have:=h (x.testBit 1);have:=h (x.testBit 2);have:=h (x.testBit 3);have:=h (x.testBit 4);have:=h (x.testBit 5);have:=h (x.testBit 6);have:=h (x.testBit 7);omega
theorem Ie(w:J)(x:Nat)(hx:x<256):aI aj 181 #[.int .u8 x] w (λv w'=>v=.int .i64 (q5 x)/\w=w'):=by
 refine okF (ae.um x) ax.um func181 ?_;delta ae.um aq;have h:=Ic x hx;refine⟨I,?_⟩
 cases a:xa _ x with
 |none=>rw[a]at h;cases h
 |some y=>
  rw[a]at h;simp only[l_,Option.some.injEq]at h;refine⟨y,a,?_,rfl⟩;rw[h,bq I (by have:=CI x;omega)]
theorem Ig(f g:Nat->al)(i:Nat):byteOf f i|||byteOf g i=byteOf (λk=>f k||g k) i:=
 yX _ _ _ (yY _ (kP _ _) _ (kP _ _)) λj a=>by rw[mU,po _ _ _ a,po _ _ _ a]
theorem y2(h:fp w b n f g s1 s2):
 aI aj 129 #[.pointer (some b)] w (λv w'=>v=.int .i64 ((n:Int)-eU (λi=>f i||g i) n)/\Ext w w'):=by
 have p:=h.bB;have q:=wv h.now;have s:=wv h.sure;refine ae.Fv _ w _ ?_;(delta ae.se ao ak aG r1 aO dv bP aq;dsimp only);refine⟨λh1=>by simp at h1,λ_=>⟨_,rfl,n,h.bU,_,rfl,s1,h.aW,λr i w'=>∃k:Nat,i=k/\k<=s1.len/\Ext w w'/\r=(n:Int)-eU (λi=>f i||g i) (8*k),λ_ i _=>((s1.len:Int)-i).toNat,⟨0,rfl,I,.refl _ _,by simp[eU]⟩,?_⟩⟩;rintro _ _ w1 ⟨k,rfl,t,hx,rfl⟩;refine⟨λaH=>?_,λc=>?_⟩
 .have d:k<s1.len:=by simpa using aH
  have h1:=h.ext hx.drew;obtain⟨cB,aW,j,u,_,_,_,l,_⟩:=h1.now.cell (pq f (i:=k) I);obtain⟨b6,a8,m,x,_,_,_,o,_⟩:=h1.sure.cell (pq g (i:=k) I);have a:∀b:Nat,(Addr.mk b 0 none).add (Int.toNat (k:Int)*1)=⟨b,k,none⟩:=λb=>by rw[fB,dc,aA,cR]
  refine⟨λ_=>False,_,rfl,by simp,s1,h1.aW,_,j,I,by simp,_,by rw[a];exact l,_,rfl,by simp,s2,h1.a8,_,m,I,by simp,_,by rw[a];exact o,?_⟩;rw[HS _ _ (kP _ _) (kP _ _),Ig];refine(Ie _ _ (kP _ _)).use ?_;rintro _ _ ⟨rfl,rfl⟩;have:=CI (byteOf (λi=>f i||g i) k);have:=nM (λi=>f i||g i) (8*k);refine⟨_,rfl,.refl _ _,?_⟩;rw[bq (n:=(n:Int)-_-_) I I,bq (n:=(k:Int)+1) I I];exact⟨⟨k+1,I,I,hx.drew,by rw[Ib];omega⟩,(show((s1.len:Int)-((k:Int)+1)).toNat<((s1.len:Int)-(k:Int)).toNat from I)⟩
 .have d:k=s1.len:=by
   have:¬(k:Int)<s1.len:=by simpa using c
   omega
  refine⟨?_,hx⟩;have e:8*k=n+(8*k-n):=by omega
  rw[e,CH _ _ (λi hi=>by simp[h.pf i hi,h.cH i hi])]
theorem CJ(h:fp w b n f g s1 s2):
 aI aj 57 #[.pointer (some b)] w (λv w'=>∃s:ad,v=s/\aT 1 5 w' s (e5 f ((n+7)/8))/\Ext w w'/\∀k,aB s k->w.heap.size<=k):=by
 have a:=h.bB;refine ae.Fl _ w _ ?_;(delta ae.r9 ui ak r1 bE;dsimp only);refine⟨λh1=>by simp at h1,λ_=>⟨_,rfl,s1,h.aW,(H_ h.now.src (CF f _) (by rw[wv h.now];omega)).use ?_⟩⟩;rintro _ ai ⟨s,rfl,h2,hx,hf⟩;exact⟨s,rfl,s,rfl,h2,hx,hf⟩
end
theorem Ih(w:J)(n:Int):aI aj 109 #[n] w (λv w'=>v=.bool (decide (1<=n/\n<=1600))/\w=w'):=by
 refine okF (ae.uW n) ax.uW func109 ?_;unfold ae.uW;refine⟨?_,rfl⟩;simp[Bool.decide_and]
theorem Ii(w:J)(n:Nat)(a:n<=1600):aI aj 110 #[n] w (λv w'=>v=.int .i64 (((n+7)/8:Nat):Int)/\w=w'):=by
 refine okF (ae.uX n) ax.uX func110 ?_;delta ae.uX aq;refine⟨by decide,?_,rfl⟩;rw[bq (n:=(n:Int)+8) I I,bq (n:=(n:Int)+8-1) I I,show(n:Int)+8-1=((n+7:Nat):Int) from I,Cw,bq I I]
theorem Ij(m:Nat):e5 (λi=>decide (i<0)) m=List.replicate m (.int .u8 0):=by
 apply m3
 .simp[e5]
 .intro i h1 h2
  simp[e5,byteOf,lv]
theorem Ik(j:Nat):du (λi=>decide (i<j)) j true=λi=>decide (i<j+1):=by
 funext i;unfold du;split
 .rename_i h;simp[h]
 .rename_i h;simp;omega
theorem qk(w:J)(n first:Int):
 aI aj 54 #[.int .i64 n,.int .i64 first] w (λv w'=>(¬(1<=n/\n<=1600/\0<=first/\first<=n)/\v=.tuple #[.pointer none,.int .i64 1]/\w=w')\/
  (1<=n/\n<=1600/\0<=first/\first<=n/\∃b s1 s2,v=.tuple #[.pointer (some ⟨b,0,none⟩),.int .i64 0]/\fp w' b n.toNat (λi=>decide (i<first.toNat)) (λi=>decide (i<first.toNat)) s1 s2/\Ext w w'/\∀k,gM b s1 s2 k->w.heap.size<=k)):=by
 refine okF (ae.qk n first) ax.qk func54 ?_;(delta ae.qk ao b8 ak bP kK Y r1 gT aq;dsimp only);refine(Ih w n).use ?_;rintro _ _ ⟨rfl,rfl⟩;refine⟨_,rfl,λh=>.inl ⟨λhc=>?_,rfl,rfl⟩,λh=>?_⟩
 .simp at h;omega
 simp at h;obtain⟨⟨⟨E,F⟩,G⟩,H⟩:=h;obtain⟨n,rfl⟩:=w2 (by omega:0<=n);obtain⟨first,rfl⟩:=w2 (by omega:0<=first);refine(Ii w n I).use ?_;rintro _ _ ⟨rfl,rfl⟩;refine⟨_,rfl,I,?_⟩;simp only[dc];rw[H8];obtain⟨m,f⟩:∃m,m=(n+7)/8:=⟨_,rfl⟩;rw[←f];have l:=aT.new (sz:=1) (T:=5) w (List.replicate m (.int .u8 0)) m (by simp) (by show m<=2^63-1;omega);rw[←Ij]at l⊢;have ar:Ext w (w.alloc (.cells (e5 (λi=>decide (i<0)) m).toArray 5)):=af.alloc (.refl _ _) _;generalize s:w.alloc (.cells (e5 (λi=>decide (i<0)) m).toArray 5)=w1 at*;have K:w1.heap.size=w.heap.size+1:=by rw[←s];simp
 have t:=bj.new w1 #[.int .i64 (n:Int),.slice (some ⟨w.heap.size,0,none⟩) m m,.slice none 0 0] 209;have u:=af.alloc ar (.cells #[.int .i64 (n:Int),.slice (some ⟨w.heap.size,0,none⟩) m m,.slice none 0 0] 209);have x:=l.ext (af.alloc (.refl _ w1) (.cells #[.int .i64 (n:Int),.slice (some ⟨w.heap.size,0,none⟩) m m,.slice none 0 0] 209));refine⟨λi w'=>∃j:Nat,i=j/\j<=first/\Ext w w'/\bj w' w1.heap.size #[.int .i64 (n:Int),.slice (some ⟨w.heap.size,0,none⟩) m m,.slice none 0 0] 209/\
  aT 1 5 w' ⟨some ⟨w.heap.size,0,none⟩,m,m⟩ (e5 (λi=>decide (i<j)) m),λi _=>((first:Int)-i).toNat,⟨0,rfl,I,u,t,x⟩,?_⟩
 rintro _ ai ⟨j,rfl,L,hx,d,o⟩;refine⟨λaH=>?_,λy=>?_⟩
 .have p:j<first:=by simpa using aH
  refine⟨_,rfl,⟨some ⟨w.heap.size,0,none⟩,m,m⟩,by rw[aA,d.cell];rfl,(Cy o (k:=j) I I).use ?_⟩;rintro _ z ⟨rfl,q,hc⟩;rw[Ik]at q;rw[bq I I];refine⟨rfl,⟨j+1,I,I,?_,d.ah hc ?_,q⟩,(show((first:Int)-((j:Int)+1)).toNat<((first:Int)-(j:Int)).toNat from I)⟩
  .exact((af.cX hx).trans hc).mono λk a c=>by rw[jk]at c;simp at c;omega
  .intro c
   rw[jk]at c;simp at c;omega
 .have p:j=first:=by
   have:¬(j:Int)<first:=by simpa using y
   omega
  subst p;have r:∀i,n<=i->decide (i<j)=false:=λi hi=>by simp;omega
  refine(CG d o (λk a e=>?_) I).use ?_
  .rw[jk]at a
   simp at a;omega
  rintro _ z ⟨rfl,A,h1,h2,B,C,g⟩;have M:=d.lt;refine⟨rfl,.inr ⟨I,I,I,I,w1.heap.size,⟨some ⟨w.heap.size,0,none⟩,m,m⟩,A,rfl,⟨h1,?_,?_,λk a=>⟨λe=>?_,λD=>?_⟩,λk a e=>?_,I,I,r,r⟩,?_,?_⟩⟩
  .simp only[←f];exact h2
  .simp only[←f];exact B
  .rw[jk]at a
   simp at a;omega
  .rw[jk]at a
   simp at a;have:=g k D;omega
  .have:=g k a
   omega
  .exact((af.cX hx).trans C).mono λk a e=>by omega
  .rintro k (rfl|a|a)
   .omega
   .rw[jk]at a
    simp at a;omega
   .have:=g k a
    have:=hx.size;omega
structure Fr where
 full:al
 gn:al
 used:al
 no:Int
 pins:Int
 b:ad
 l:dh
def Fr.c(f:Fr):O aa:=[f.full,f.gn,f.used,f.no,f.pins,f.b]
def dx:Fr:=⟨false,false,false,0,0,⟨none,0,0⟩,[]⟩
structure b4 where
 c:Nat
 aY:Nat
 an:O Fr
 hand:Nat
 D:bc
def da(C:b4)(q:Nat):Prop:=q=C.c\/q=C.aY\/cq C.D q
structure fg(w:J)(C:b4):Prop where
 v:Var w C.c [.pointer (some C.D.d),.slice (some C.aY) C.an.length C.an.length,C.hand] 268
 f:bj w C.aY (bn Fr.c C.an).toArray 275
 dev:di w C.D
 b5:8<=C.an.length
 cp:C.an.length<=64
 hd:C.hand<C.an.length
 a1:C.c≠C.aY/\¬cq C.D C.c/\¬cq C.D C.aY
structure CK(X:Nat->Prop)(w:J)(C:b4)(f:Fr)(no:Nat):Prop where
 num:f.no=no
 lt:no<C.D.n
 y3:bu (λq=>¬da C q/\¬X q) w f.b f.l
 len:f.l.length=256
 clean:f.gn=false->f.l=C.D.now no
 b9:C.D.b9 no=true->f.gn=false
 two:2<=no
structure gF(X:Nat->Prop)(w:J)(C:b4):Prop where
 pins:∀f∈C.an,f.pins=0
 ok:∀f∈C.an,f.full=true->∃no:Nat,CK X w C f no
 un:∀ (i j:Nat) (hi:i<C.an.length) (a:j<C.an.length),(C.an[i]).full=true->(C.an[j]).full=true->(C.an[i]).no=(C.an[j]).no->i=j
 fh:∀q,X q->q<w.heap.size/\¬da C q
 pr:∀j,C.D.b9 j=true->C.D.ff j=C.D.eL j
def kQ(aC D:bc):Prop:=aC.n=D.n/\(∀j,aC.b9 j=true->D.b9 j=true)/\∀j,aC.b9 j=true->aC.ff j=aC.eL j
theorem gF.sO{X:Nat->Prop}{w:J}{C:b4}(h:gF X w C):kQ C.D C.D:=⟨rfl,λ_ h=>h,h.pr⟩
theorem gF.cJ{X:Nat->Prop}{w:J}{C:b4}(h:gF X w C)(k:Nat):kQ (C.D.cJ k) C.D:=⟨rfl,λ_ h=>h,h.pr⟩
structure ef(X:Nat->Prop)(w:J)(C:b4):Prop where
 raw:fg w C
 inv:gF X w C
def b4.view(C:b4)(no:Nat):dh:=match C.an.find? λf=>f.full&&f.no==(no:Int) with
 |some f=>f.l
 |none=>C.D.now no
theorem Fr.bF(f:Fr):f.c.length=6:=rfl
theorem wx(l:O Fr):∀x∈l,(Fr.c x).length=6:=λx _=>rfl
section
variable {w w':J}{C:b4}{X:Nat->Prop}
theorem fg.lt(h:fg w C){q:Nat}(a:da C q):q<w.heap.size:=by
 rcases a with rfl|rfl|a
 .exact h.v.lt
 .exact bj.lt h.f
 .exact h.dev.lt a
theorem fg.ah{W:Nat->Prop}(h:fg w C)(hc:af W w w')(a:∀q,da C q->¬W q):fg w' C:=
 ⟨h.v.ah hc (a _ (.inl rfl)),bj.ah h.f hc (a _ (.inr (.inl rfl))),h.dev.ah hc λq b=>a q (.inr (.inr b)),h.b5,h.cp,h.hd,h.a1⟩
theorem fg.ext(h:fg w C)(hc:Ext w w'):fg w' C:=h.ah hc λ_ _ h=>h
theorem gF.ah{W:Nat->Prop}(h:gF X w C)(hc:af W w w')(b:∀q,W q->da C q\/X q):gF X w' C:=
 ⟨h.pins,λf hf c=>by
  obtain⟨no,aw,ay,d,e,g,i,j⟩:=h.ok f hf c
  exact⟨no,aw,ay,bu.ah d hc λq a k=>by
   rcases b q k with h1|h1
   .exact a.1 h1
   .exact a.2 h1,e,g,i,j⟩,h.un,λq a=>⟨fi (h.fh q a).1 hc.size,(h.fh q a).2⟩,h.pr⟩
theorem ef.ah{W:Nat->Prop}(h:ef X w C)(hc:af W w w')(b:∀q,W q->X q):ef X w' C:=
 ⟨h.raw.ah hc λq c a=>(h.inv.fh q (b q a)).2 c,h.inv.ah hc λq a=>.inr (b q a)⟩
theorem ef.ext(h:ef X w C)(hc:Ext w w'):ef X w' C:=h.ah hc λ_ h=>h.elim
theorem sP(aY i:Nat):Addr.add aY (Int.toNat (i:Int)*6)=⟨aY,i*6,none⟩:=by rw[dc,aA,cR]
theorem fg.cells(h:fg w C):w.cell? C.c=some (.pointer (some C.D.d))/\w.cell? (Addr.add C.c 1)=some (.slice (some C.aY) C.an.length C.an.length)/\w.cell? (Addr.add C.c 2)=some (.int .i64 C.hand):=by
 rw[aA,aA];exact⟨h.v.cell,h.v.cell,h.v.cell⟩
theorem kr{w:J}{aY:Nat}{fs:O Fr}{T:TypeId}(h:bj w aY (bn Fr.c fs).toArray T){i j:Nat}(hi:i<fs.length)(a:j<6):w.cell? ⟨aY,i*6+j,none⟩=((fs[i]).c)[j]? :=by
 rw[bj.cell h];simp only[rk];exact wm (wx fs) hi a
theorem nN{w:J}{aY:Nat}{fs:O Fr}{T:TypeId}(h:bj w aY (bn Fr.c fs).toArray T){i j:Nat}(hi:i<fs.length)(a:j<6){v:aa}(b:Fr)(hf:b.c=(fs[i]).c.set j v):
 (∃u:aa,w.cell? ⟨aY,i*6+j,none⟩=some u)/\w.frozen? ⟨aY,i*6+j,none⟩=false/\bj (w.setCell ⟨aY,i*6+j,none⟩ v) aY (bn Fr.c (fs.set i b)).toArray T/\af (λq=>q=aY) w (w.setCell ⟨aY,i*6+j,none⟩ v):=by
 refine⟨⟨((fs[i]).c)[j]'(by rw[Fr.bF];exact a),by rw[kr h hi a,dI (by rw[Fr.bF];exact a)]⟩,bj.frozen h _ rfl,?_,ed _ _ _ _⟩;have:=eE (vs:=bn Fr.c fs) h (i:=i*6+j) v;rw[Hr (wx fs) hi a hf]at this;exact this
theorem y4{w:J}{aY:Nat}{fs:O Fr}{T:TypeId}(h:bj w aY (bn Fr.c fs).toArray T){i:Nat}(hi:i<fs.length)(a:Fr):
 bJ w ⟨aY,i*6,none⟩ a.c/\bj (setCells w ⟨aY,i*6,none⟩ 0 a.c) aY (bn Fr.c (fs.set i a)).toArray T/\af (λq=>q=aY) w (setCells w ⟨aY,i*6,none⟩ 0 a.c):=by
 have f:=fe (c:=Fr.c) fs (wx fs);have d:i*6+a.c.length<=(bn Fr.c fs).toArray.size:=by
  rw[th,f,Fr.bF];omega
 refine⟨bj.cn h _ _ d ?_,?_,af.jJ (.refl _ _) _ 0⟩
 .intro v b
  unfold Fr.c at b;simp only[c0,fw,fD]at b;rcases b with rfl|rfl|rfl|rfl|rfl|rfl<;>trivial
 .have h0:=bj.lf (o:=i*6) h a.c
  have e:gx (bn Fr.c fs).toArray (i*6) a.c=(bn Fr.c (fs.set i a)).toArray:=by
   have h1:=ld a.c (bn Fr.c fs).toArray (i*6) d;have h2:=Cg (wx fs) hi a;have g:a.c.length=6:=rfl;rw[g]at h1;have j:(gx (bn Fr.c fs).toArray (i*6) a.c).toList=bn Fr.c (fs.set i a):=h1.trans h2;rw[←j]
  rw[e]at h0;exact h0
theorem CL(h:fg w C)(no:Int):aI aj 204 #[.pointer (some C.c),no] w (λv w'=>v=.bool (decide (0<=no/\no<C.D.n))/\w=w'):=by
 refine okF (ae.vk (some C.c) no) ax.vk func204 ?_;delta ae.vk ak bP;refine cx (λb w'=>b=decide (0<=no/\no<C.D.n)/\w=w') (λq d=>⟨λa=>⟨_,rfl,_,h.cells.1,(wo h.dev).use ?_⟩,λa=>d _ _ ⟨?_,rfl⟩⟩) ?_
 .rintro _ _ ⟨rfl,rfl⟩
  have a:0<=no:=by simpa using a
  refine⟨_,rfl,d _ _ ⟨?_,rfl⟩⟩;rw[e0,cg,cg];exact⟨λh=>⟨a,h⟩,λh=>h.2⟩
 .have a:¬0<=no:=by simpa using a
  rw[h6 (λh=>a h.1)]
 .rintro _ _ ⟨rfl,rfl⟩
  exact⟨rfl,rfl⟩
def AtR(C:b4)(no:Int)(v:aa):Prop:=
 (∃ (i:Nat) (hi:i<C.an.length),v=.pointer (some ⟨C.aY,i*6,none⟩)/\(C.an[i]).full=true/\(C.an[i]).no=no)\/
 (v=.pointer none/\∀f∈C.an,f.full=true->f.no≠no)
theorem wy(h:fg w C)(no:Int):aI aj 180 #[.pointer (some C.c),no] w (λv w'=>AtR C no v/\w=w'):=by
 obtain⟨bU,aW,a8⟩:=h.cells;have d:=h.cp;refine okF (ae.vg (some C.c) no) ax.vg func180 ?_;(delta ae.vg ak r1 aO aV aG aq;dsimp only);refine⟨λh=>(by cases h),λ_=>⟨_,rfl,⟨some C.aY,C.an.length,C.an.length⟩,aW,λi w'=>∃j:Nat,i=j/\j<=C.an.length/\w=w'/\∀ (k:Nat) (d:k<C.an.length),k<j->(C.an[k]).full=true->(C.an[k]).no≠no,λi _=>((C.an.length:Int)-i).toNat,⟨0,rfl,cM _,rfl,λk _ h=>I⟩,?_⟩⟩;rintro _ _ ⟨j,rfl,s,rfl,g⟩;refine⟨λaH=>?_,λe=>?_⟩
 .have aH:(j:Int)<(C.an.length:Int):=cj aH
  have aH:j<C.an.length:=by omega
  refine⟨_,rfl,⟨some C.aY,C.an.length,C.an.length⟩,aW,_,rfl,⟨I,by show(j:Int)<(C.an.length:Int);omega⟩,_,rfl,?_⟩;rw[sP];have f0:=kr h.f aH (j:=0) (by decide);have f3:=kr h.f aH (j:=3) (by decide);refine⟨(C.an[j]).full,f0,cx (λb w'=>w=w'/\(b=true↔((C.an[j]).full=true/\(C.an[j]).no=no))) (λq l=>⟨λa=>⟨_,rfl,(C.an[j]).no,by rw[aA];exact f3,l _ _ ⟨rfl,?_⟩⟩,λa=>l _ _ ⟨rfl,?_⟩⟩) ?_⟩
  .rw[j4]
   exact⟨λh=>⟨a,h⟩,λh=>h.2⟩
  .rw[a]
   exact⟨λh=>(by cases h),λh=>(by cases h.1)⟩
  rintro b w' ⟨rfl,a⟩;refine⟨λh1=>⟨.inl ⟨j,aH,rfl,(a.1 h1).1,(a.1 h1).2⟩,rfl⟩,λh1=>?_⟩;rw[bq (n:=(j:Int)+1) I I];refine⟨⟨j+1,I,I,rfl,λk d h2 m=>?_⟩,?_⟩
  .rcases dX k j with o|o
   .exact g k d o m
   .have:k=j:=by omega
    subst this;intro p;rw[a.2 ⟨m,p⟩]at h1;cases h1
  .show((C.an.length:Int)-((j:Int)+1)).toNat<((C.an.length:Int)-(j:Int)).toNat
   omega
 .have e:j=C.an.length:=by
   have:¬((j:Int)<(C.an.length:Int)):=cE e;omega
  subst e;refine⟨.inr ⟨rfl,λf hf r=>?_⟩,rfl⟩;obtain⟨k,d,rfl⟩:=fv hf;exact g k d d r
theorem Il(h:fg w C):aI aj 250 #[.pointer (some C.c)] w (λv w'=>((∃ (i:Nat) (hi:i<C.an.length),v=.pointer (some ⟨C.aY,i*6,none⟩)/\(C.an[i]).full=false)\/(v=.pointer none/\∀f∈C.an,f.full=true))/\w=w'):=by
 obtain⟨bU,aW,a8⟩:=h.cells;have a:=h.cp;refine okF (ae.vu (some C.c)) ax.vu func250 ?_;(delta ae.vu r1 ak aO aV aq;dsimp only);refine⟨_,rfl,⟨some C.aY,C.an.length,C.an.length⟩,aW,λi w'=>∃j:Nat,i=j/\j<=C.an.length/\w=w'/\∀ (k:Nat) (a:k<C.an.length),k<j->(C.an[k]).full=true,λi _=>((C.an.length:Int)-i).toNat,⟨0,rfl,cM _,rfl,λk _ h=>I⟩,?_⟩;rintro _ _ ⟨j,rfl,l,rfl,e⟩;refine⟨λaH=>?_,λb=>?_⟩
 .have aH:(j:Int)<(C.an.length:Int):=cj aH
  have aH:j<C.an.length:=by omega
  have f0:=kr h.f aH (j:=0) (by decide);refine⟨_,rfl,⟨some C.aY,C.an.length,C.an.length⟩,aW,_,rfl,⟨I,by show(j:Int)<(C.an.length:Int);omega⟩,(C.an[j]).full,by rw[sP];exact f0,λd=>⟨_,rfl,⟨some C.aY,C.an.length,C.an.length⟩,aW,_,rfl,⟨I,by show(j:Int)<(C.an.length:Int);omega⟩,.inl ⟨j,aH,by rw[sP],by simpa using d⟩,rfl⟩,λd=>?_⟩;rw[bq (n:=(j:Int)+1) I I];refine⟨⟨j+1,I,I,rfl,λk a h2=>?_⟩,?_⟩
  .rcases dX k j with g|g
   .exact e k a g
   .have:k=j:=by omega
    subst this;simpa using d
  .show((C.an.length:Int)-((j:Int)+1)).toNat<((C.an.length:Int)-(j:Int)).toNat
   omega
 .have b:j=C.an.length:=by
   have:¬((j:Int)<(C.an.length:Int)):=cE b;omega
  subst b;refine⟨.inr ⟨rfl,λf hf=>?_⟩,rfl⟩;obtain⟨k,a,rfl⟩:=fv hf;exact e k a a
def hV(fs gs:O Fr):Prop:=gs.length=fs.length/\∀ (i:Nat) (h1:i<fs.length) (h2:i<gs.length),gs[i]={fs[i] with used:=(gs[i]).used}
theorem hV.refl(fs:O Fr):hV fs fs:=⟨rfl,λi h1 h2=>rfl⟩
theorem hV.set{fs gs:O Fr}(h:hV fs gs){i:Nat}(hi:i<gs.length)(u:al):hV fs (gs.set i {gs[i] with used:=u}):=by
 refine⟨by rw[dr];exact h.1,λj h1 h2=>?_⟩;rw[nZ];split
 .rename_i e
  subst e;have:=h.2 i h1 hi;rw[this]
 .exact h.2 j h1 _
theorem Im(h:fg w C)(A:∀f∈C.an,f.pins=0):aI aj 251 #[.pointer (some C.c)] w (λv w'=>∃ (i:Nat) (gs:O Fr) (hd:Nat),i<C.an.length/\v=.pointer (some ⟨C.aY,i*6,none⟩)/\hV C.an gs/\fg w' {C with an:=gs,hand:=hd}/\af (λq=>q=C.c\/q=C.aY) w w'):=by
 obtain⟨bU,aW,a8⟩:=h.cells;have P:=h.b5;have Q:=h.cp;have B:=h.hd;refine okF (ae.vv (some C.c)) ax.vv func251 ?_;(delta ae.vv aG r1 ak aq aO aV st;dsimp only);refine⟨_,rfl,_,a8,_,rfl,⟨some C.aY,C.an.length,C.an.length⟩,aW,λat' i w'=>∃ (s:Nat) (gs:O Fr),i=s/\s<=C.an.length/\at'=(((C.hand+s)%C.an.length:Nat):Int)/\hV C.an gs/\fg w' {C with an:=gs}/\af (λq=>q=C.c\/q=C.aY) w w'/\∀ (t:Nat) (hx:(C.hand+t)%C.an.length<gs.length),t<s->(gs[(C.hand+t)%C.an.length]).used=false,
  λ_ i _=>(2*(C.an.length:Int)-i).toNat,⟨0,C.an,rfl,cM _,by rw[lF,j6 B],hV.refl _,h,.refl _ _,λt _ h=>I⟩,?_⟩
 rintro _ _ w1 ⟨s,gs,rfl,hs,rfl,l,b,hc,p⟩;have r:gs.length=C.an.length:=l.1;obtain⟨i,hi⟩:∃i,i=(C.hand+s)%C.an.length:=⟨_,rfl⟩;have d:i<gs.length:=by rw[hi,r];exact g9 _ I
 rw[←hi];obtain⟨d0,d1,d2⟩:=b.cells;have d1:w1.cell? (Addr.add C.c 1)=some (.slice (some C.aY) gs.length gs.length):=d1;have hf:bj w1 C.aY (bn Fr.c gs).toArray 275:=b.f;rw[bq (n:=2*(C.an.length:Int)) I I];have D:IntKind.wrap .i64 ((i:Int)+1)=((i+1:Nat):Int):=by rw[bq I I];rfl
 have u:Int.tmod ((i+1:Nat):Int) (gs.length:Int)=(((i+1)%gs.length:Nat):Int):=by
  rw[nW I];rfl
 have E:(i+1)%gs.length=(C.hand+(s+1))%C.an.length:=by
  rw[hi,r,Nat.mod_add_mod];rfl
 refine⟨λaH=>?_,λF=>?_⟩
 .refine cx (λa w'=>a=(((C.hand+(s+1))%C.an.length:Nat):Int)/\∃g:O Fr,s+1<=C.an.length/\hV C.an g/\fg w' {C with an:=g}/\af (λq=>q=C.c\/q=C.aY) w w'/\∀ (t:Nat) (hx:(C.hand+t)%C.an.length<g.length),t<s+1->(g[(C.hand+t)%C.an.length]).used=false) (λq k=>⟨_,rfl,⟨some C.aY,gs.length,gs.length⟩,d1,_,rfl,⟨I,by show(i:Int)<(gs.length:Int);omega⟩,_,rfl,⟨some C.aY,gs.length,gs.length⟩,d1,by show(gs.length:Int)≠0;omega,_,rfl,?_⟩) ?_
  .rw[sP,D]
   have f4:=kr hf d (j:=4) (by decide);have f2:=kr hf d (j:=2) (by decide);have G:(gs[i]).pins=0:=by
    have h1:=l.2 i I d;have h2:(gs[i]).pins=(C.an[i]'I).pins:=by rw[h1]
    rw[h2];exact A _ (cP _)
   refine⟨(gs[i]).pins,by rw[aA];exact f4,λx=>?_,λ_=>⟨_,rfl,(gs[i]).used,by rw[aA];exact f2,λhu=>⟨_,rfl,?_⟩,λhu=>⟨_,rfl,?_⟩⟩⟩
   .rw[G]at x;simp at x
   .have H:s<C.an.length:=by
     rcases dX s C.an.length with h1|h1
     .exact h1
     .have es:s=C.an.length:=by omega
      have y:(C.hand+0)%C.an.length=i:=by rw[hi,es,Nat.add_mod_right];rfl
      have h2:=p 0 (by rw[y];exact d) I;have m:(gs[i]).used=false:=by
       have e:gs[(C.hand+0)%C.an.length]'(by rw[y];exact d)=gs[i]:=by congr 1
       rw[←e];exact h2
      rw[m]at hu;cases hu
    obtain⟨aw,ay,J,o⟩:=nN hf d (j:=2) (by decide) (v:=false) {gs[i] with used:=false} rfl;rw[aA];refine⟨aw,ay,aX (k _ _ ⟨by rw[u,E],gs.set i {gs[i] with used:=false},H,l.set d false,?_,hc.trans (o.mono λq _ e=>.inr e),λt hx ht=>?_⟩)⟩
    .have K:=b.v.ah o h.a1.1
     refine⟨?_,J,b.dev.ah o (λq k e=>h.a1.2.2 (e▸k)),?_,?_,?_,h.a1⟩
     .show Var _ _ [_,.slice (some C.aY) (gs.set i _).length (gs.set i _).length,_] _
      rw[dr];exact K
     .show 8<=(gs.set i _).length;rw[dr];omega
     .show(gs.set i _).length<=64;rw[dr];omega
     .show C.hand<(gs.set i _).length;rw[dr];omega
    .rw[nZ]
     split
     .rfl
     .rename_i L
      rcases dX t s with h1|h1
      .exact p t _ h1
      .have:t=s:=by omega
       subst this;exact absurd hi L
   .obtain⟨s1,s2⟩:=eF b.v (i:=2) (by simp)
    rw[aA,u];refine⟨s1,s2,aX ⟨i,gs,(i+1)%gs.length,I,rfl,l,?_,hc.trans ((ed _ _ _ _).mono λq _ e=>.inl e)⟩⟩;have z:=ed w1 C.c 2 (.int .i64 (((i+1)%gs.length:Nat):Int));refine⟨eE b.v (i:=2) (.int .i64 (((i+1)%gs.length:Nat):Int)),bj.ah hf z (λe=>h.a1.1 e.symm),b.dev.ah z (λq k e=>h.a1.2.1 (e▸k)),b.b5,b.cp,?_,h.a1⟩;exact g9 _ I
  .rintro a w' ⟨rfl,g,h1,h2,m,M,N⟩
   rw[bq (n:=(s:Int)+1) I I];refine⟨⟨s+1,g,I,h1,rfl,h2,m,M,N⟩,?_⟩;show(2*(C.an.length:Int)-((s:Int)+1)).toNat<(2*(C.an.length:Int)-(s:Int)).toNat;omega
 .have:=cE F
  omega
end
structure eA(C aJ:b4)(w w':J)(k:Nat):Prop where
 c:aJ.c=C.c
 d:aJ.D.d=C.D.d
 len:aJ.an.length=C.an.length
 b7:aJ.D.key=C.D.key
 a7:aJ.D.a7<=C.D.a7+k
 calm:∀m,C.D.calm (m+k)->aJ.D.calm m
 ah:af (da C) w w'
 c6:∀q,da aJ q->da C q\/w.heap.size<=q
theorem eA.refl(C:b4)(w:J):eA C C w w 0:=⟨rfl,rfl,rfl,rfl,bk _,λ_ h=>h,.refl _ _,λ_ h=>.inl h⟩
theorem eA.ext{w w':J}(C:b4)(h:Ext w w'):eA C C w w' 0:=⟨rfl,rfl,rfl,rfl,bk _,λ_ h=>h,af.cX h,λ_ h=>.inl h⟩
theorem eA.trans{C aJ a:b4}{w w' b:J}{k l:Nat}(h1:eA C aJ w w' k)(h2:eA aJ a w' b l):eA C a w b (k+l):=by
 have hs:=h1.ah.size;refine⟨h2.c.trans h1.c,h2.d.trans h1.d,h2.len.trans h1.len,h2.b7.trans h1.b7,by have:=h1.a7;have:=h2.a7;omega,λm f=>h2.calm m (h1.calm (m+l) (by rw[show m+l+k=m+(k+l) from I];exact f)),c5 h1.ah h2.ah λq e h=>(h1.c6 q h).resolve_right I,λq e=>?_⟩;rcases h2.c6 q e with h|h
 .exact h1.c6 q h
 .exact .inr I
theorem eA.mono{C aJ:b4}{w w':J}{k l:Nat}(h:eA C aJ w w' k)(b:k<=l):eA C aJ w w' l:=
 ⟨h.c,h.d,h.len,h.b7,by have:=h.a7;omega,λm a=>h.calm m (gm a I),h.ah,h.c6⟩
theorem eA.b9{C aJ:b4}{w w':J}{k:Nat}(h:eA C aJ w w' k):aJ.D.b9=C.D.b9:=congrArg (λk:(O dh×(Nat->al)×(Nat->O dh)×(Int->Prop)×al)×Int=>k.1.2.1) h.b7
theorem eA.pt{C aJ:b4}{w w':J}{k:Nat}(h:eA C aJ w w' k):aJ.D.b9=C.D.b9/\aJ.D.eL=C.D.eL:=⟨h.b9,congrArg (λk:(O dh×(Nat->al)×(Nat->O dh)×(Int->Prop)×al)×Int=>k.1.2.2.1) h.b7⟩
theorem eA.n{C aJ:b4}{w w':J}{k:Nat}(h:eA C aJ w w' k):aJ.D.n=C.D.n:=congrArg (λk:(O dh×(Nat->al)×(Nat->O dh)×(Int->Prop)×al)×Int=>k.1.1.length) h.b7
section
variable {w w':J}{C:b4}{X:Nat->Prop}
theorem mL{fs:O Fr}{D:bc}{c aY hd:Nat}(un:∀ (i j:Nat) (hi:i<fs.length) (d:j<fs.length),(fs[i]).full=true->(fs[j]).full=true->(fs[i]).no=(fs[j]).no->i=j){i:Nat}(hi:i<fs.length){no:Nat}(hf:(fs[i]).full=true)(e:(fs[i]).no=no):(b4.mk c aY fs hd D).view no=(fs[i]).l:=by
 unfold b4.view
 cases a:fs.find? λf=>f.full&&f.no==(no:Int) with
 |none=>
  have:=j8.1 a _ (cP hi);simp[hf,e]at this
 |some f=>
  have g:=j9 a;have b:=k0 a;simp only[c8,j4]at b;obtain⟨j,d,rfl⟩:=fv g;have:=un i j hi d hf b.1 (by rw[e,b.2]);subst this;simp only
theorem nO{fs:O Fr}{D:bc}{c aY hd:Nat}{no:Nat}(h:∀f∈fs,f.full=true->f.no≠no):(b4.mk c aY fs hd D).view no=D.now no:=by
 unfold b4.view
 cases b:fs.find? λf=>f.full&&f.no==(no:Int) with
 |none=>rfl
 |some f=>
  have d:=j9 b;have a:=k0 b;simp only[c8,j4]at a;exact absurd a.2 (h f d a.1)
theorem wz(D:bc)(k i:Nat):(D.cJ k).now i=D.now i:=rfl
theorem bu.re{B b:Nat->Prop}{w w':J}{t:ad}{l:Key}{V:Nat->Prop}(h:bu B w t l)(hc:af V w w')(c:∀q,q<w.heap.size->B q->¬V q)(d:∀q,q<w.heap.size->B q->b q):bu b w' t l:=
 ⟨h.1.ah hc λq a=>c q (h.2.2 q a).2 (h.2.2 q a).1,h.2.1,λq a=>⟨d q (h.2.2 q a).2 (h.2.2 q a).1,fi (h.2.2 q a).2 hc.size⟩⟩
theorem sQ{gs:O Fr}{hd:Nat}{aC:bc}{V:Nat->Prop}(h:gF X w C)(hs:hV C.an gs)(hc:af V w w')(gl:∀q,q<w.heap.size->V q->da C q)(m:kQ aC C.D)(u:∀i,aC.now i=C.D.now i)(v:∀q,cq aC q->cq C.D q\/w.heap.size<=q):gF X w' {C with an:=gs,hand:=hd,D:=aC}:=by
 have x:=hc.size;have r:∀q,q<w.heap.size->da {C with an:=gs,hand:=hd,D:=aC} q->da C q:=λq a hf=>by
  rcases hf with h1|h1|h1
  .exact .inl h1
  .exact .inr (.inl h1)
  .exact .inr (.inr ((v q h1).resolve_right I))
 have g:∀ (i:Nat) (hi:i<gs.length),∃c:i<C.an.length,gs[i]={C.an[i] with used:=(gs[i]).used}:=λi hi=>⟨by rw[←hs.1];exact hi,hs.2 i (by rw[←hs.1];exact hi) hi⟩;refine⟨λf hf=>?_,λf hf y=>?_,λi j hi z h1 h2 A=>?_,λq a=>⟨fi (h.fh q a).1 x,λhf=>(h.fh q a).2 (r q (h.fh q a).1 hf)⟩,m.2.2⟩
 .obtain⟨i,hi,rfl⟩:=fv hf
  obtain⟨c,e⟩:=g i hi;have:(gs[i]).pins=(C.an[i]).pins:=by rw[e]
  rw[this];exact h.pins _ (cP c)
 .obtain⟨i,hi,rfl⟩:=fv hf
  obtain⟨c,e⟩:=g i hi;have n:(gs[i]).full=(C.an[i]).full:=by rw[e]
  have o:(gs[i]).no=(C.an[i]).no:=by rw[e]
  have p:(gs[i]).b=(C.an[i]).b:=by rw[e]
  have d:(gs[i]).l=(C.an[i]).l:=by rw[e]
  have s:(gs[i]).gn=(C.an[i]).gn:=by rw[e]
  obtain⟨no,aw,ay,B,E,F,G,H⟩:=h.ok _ (cP c) (by rw[←n];exact y);refine⟨no,by rw[o];exact aw,by rw[m.1];exact ay,?_,by rw[d];exact E,λhd=>by rw[d,u];exact F (by rw[←s];exact hd),λhs=>by rw[s];exact G (m.2.1 _ hs),H⟩;rw[p,d];exact bu.re B hc (λq a k J=>k.1 (gl q a J)) λq a k=>⟨λhf=>k.1 (r q a hf),k.2⟩
 .obtain⟨c,e⟩:=g i hi
  obtain⟨K,t⟩:=g j z;have n:(gs[i]).full=(C.an[i]).full:=by rw[e]
  have o:(gs[i]).no=(C.an[i]).no:=by rw[e]
  have p:(gs[j]).full=(C.an[j]).full:=by rw[t]
  have d:(gs[j]).no=(C.an[j]).no:=by rw[t]
  exact h.un i j c K (by rw[←n];exact h1) (by rw[←p];exact h2) (by rw[←o,←d];exact A)
theorem sR{gs:O Fr}{hd:Nat}{aC:bc}(h:gF X w C)(hs:hV C.an gs)(r:∀i,aC.now i=C.D.now i)(no:Nat):(b4.mk C.c C.aY gs hd aC).view no=C.view no:=by
 have d:∀ (i:Nat) (hi:i<gs.length),∃g:i<C.an.length,gs[i]={C.an[i] with used:=(gs[i]).used}:=λi hi=>⟨by rw[←hs.1];exact hi,hs.2 i (by rw[←hs.1];exact hi) hi⟩;by_cases hex:∃ (i:Nat) (hi:i<C.an.length),(C.an[i]).full=true/\(C.an[i]).no=no
 .obtain⟨i,hi,h1,h2⟩:=hex
  have n:i<gs.length:=by rw[hs.1];exact hi
  obtain⟨g,e⟩:=d i n;have k:(gs[i]).full=(C.an[i]).full:=by rw[e]
  have m:(gs[i]).no=(C.an[i]).no:=by rw[e]
  have s:(gs[i]).l=(C.an[i]).l:=by rw[e]
  have t:∀ (i j:Nat) (hi:i<gs.length) (A:j<gs.length),(gs[i]).full=true->(gs[j]).full=true->(gs[i]).no=(gs[j]).no->i=j:=by
   intro a b u v b5 cp x;obtain⟨y,o⟩:=d a u;obtain⟨z,p⟩:=d b v;have f1:(gs[a]).full=(C.an[a]).full:=by rw[o]
   have f2:(gs[a]).no=(C.an[a]).no:=by rw[o]
   have f3:(gs[b]).full=(C.an[b]).full:=by rw[p]
   have f4:(gs[b]).no=(C.an[b]).no:=by rw[p]
   exact h.un a b y z (by rw[←f1];exact b5) (by rw[←f3];exact cp) (by rw[←f2,←f4];exact x)
  rw[mL t n (by rw[k];exact h1) (by rw[m];exact h2),s];exact(mL (fs:=C.an) (D:=C.D) (c:=C.c) (aY:=C.aY) (hd:=C.hand) h.un hi h1 h2).symm
 .have q:∀f∈C.an,f.full=true->f.no≠no:=λf hf h1 h2=>by
   obtain⟨i,hi,rfl⟩:=fv hf;exact hex ⟨i,hi,h1,h2⟩
  have e:C.view no=C.D.now no:=nO (fs:=C.an) (D:=C.D) (c:=C.c) (aY:=C.aY) (hd:=C.hand) q;rw[e,←r];refine nO λf hf h1 h2=>?_;obtain⟨i,hi,rfl⟩:=fv hf;obtain⟨g,e⟩:=d i hi;have k:(gs[i]).full=(C.an[i]).full:=by rw[e]
  have m:(gs[i]).no=(C.an[i]).no:=by rw[e]
  exact q _ (cP g) (by rw[←k];exact h1) (by rw[←m];exact h2)
theorem y5{i:Nat}(hi:i<C.an.length){aC:bc}{V:Nat->Prop}(h:gF X w C)(hc:af V w w')(gl:∀q,q<w.heap.size->V q->da C q)(l:kQ aC C.D)
 (t:∀j:Nat,((C.an[i]).full=true->(C.an[i]).no≠j)->aC.now j=C.D.now j) (u:∀q,cq aC q->cq C.D q\/w.heap.size<=q) (f0:Fr) (m:f0.full=false) (v:f0.pins=0):gF X w' {C with an:=C.an.set i f0,D:=aC}:=by
 have x:=hc.size;have o:∀q,q<w.heap.size->da {C with an:=C.an.set i f0,D:=aC} q->da C q:=λq c hf=>by
  rcases hf with h1|h1|h1
  .exact .inl h1
  .exact .inr (.inl h1)
  .exact .inr (.inr ((u q h1).resolve_right I))
 refine⟨λf hf=>?_,λf hf d=>?_,λa b y g h1 h2 n=>?_,λq c=>⟨fi (h.fh q c).1 x,λhf=>(h.fh q c).2 (o q (h.fh q c).1 hf)⟩,l.2.2⟩
 .rcases m6 hf with hf|rfl
  .exact h.pins f hf
  .exact v
 .obtain⟨k,z,rfl⟩:=fv hf
  have p:k<C.an.length:=by simpa using z
  by_cases e:i=k
  .subst e
   simp only[im]at d;rw[m]at d;cases d
  .simp only[fx e]at d⊢
   obtain⟨no,aw,ay,A,B,E,F,G⟩:=h.ok _ (cP p) d;refine⟨no,aw,by rw[l.1];exact ay,bu.re A hc (λq c g H=>g.1 (gl q c H)) λq c g=>⟨λhf=>g.1 (o q c hf),g.2⟩,B,λhd=>?_,λhs=>F (l.2.1 _ hs),G⟩;show _=aC.now no;rw[t no λJ he=>e (h.un i k hi p J d (by rw[he,aw]))];exact E hd
 .have K:a<C.an.length:=by simpa using y
  have L:b<C.an.length:=by simpa using g
  by_cases r:i=a
  .subst r
   simp only[im]at h1;rw[m]at h1;cases h1
  by_cases s:i=b
  .subst s
   simp only[im]at h2;rw[m]at h2;cases h2
  simp only[fx r]at h1 n;simp only[fx s]at h2 n;exact h.un a b K L h1 h2 n
theorem CM{i:Nat}(hi:i<C.an.length){aC:bc}{hd:Nat}(h:gF X w C)(v:(C.an[i]).full=true->∀j:Nat,(C.an[i]).no=j->aC.now j=(C.an[i]).l)(x:∀j:Nat,((C.an[i]).full=true->(C.an[i]).no≠j)->aC.now j=C.D.now j)(f0:Fr)(m:f0.full=false)(no:Nat):
 (b4.mk C.c C.aY (C.an.set i f0) hd aC).view no=C.view no:=by
 by_cases hex:∃ (k:Nat) (g:k<C.an.length),(C.an[k]).full=true/\(C.an[k]).no=no
 .obtain⟨k,g,h1,h2⟩:=hex
  have o:=mL (fs:=C.an) (D:=C.D) (c:=C.c) (aY:=C.aY) (hd:=C.hand) h.un g h1 h2;have o:C.view no=(C.an[k]).l:=o;rw[o];by_cases e:i=k
  .subst e
   rw[←v h1 no h2];refine nO λf hf aw ay=>?_;obtain⟨a,n,rfl⟩:=fv hf;have p:a<C.an.length:=by simpa using n
   by_cases d:i=a
   .subst d
    simp only[im]at aw;rw[m]at aw;cases aw
   .simp only[fx d]at aw ay
    exact d (h.un i a hi p h1 aw (by rw[h2,ay]))
  .have y:k<(C.an.set i f0).length:=by simpa using g
   have q:(C.an.set i f0)[k]=C.an[k]:=fx e _;have z:∀ (a b:Nat) (n:a<(C.an.set i f0).length) (t:b<(C.an.set i f0).length),((C.an.set i f0)[a]).full=true->((C.an.set i f0)[b]).full=true->((C.an.set i f0)[a]).no=((C.an.set i f0)[b]).no->a=b:=by
    intro a b n t h1 h2 r;have p:a<C.an.length:=by simpa using n
    have A:b<C.an.length:=by simpa using t
    by_cases d:i=a
    .subst d
     simp only[im]at h1;rw[m]at h1;cases h1
    by_cases u:i=b
    .subst u
     simp only[im]at h2;rw[m]at h2;cases h2
    simp only[fx d]at h1 r;simp only[fx u]at h2 r;exact h.un a b p A h1 h2 r
   rw[mL z y (by rw[q];exact h1) (by rw[q];exact h2),q]
 .have s:∀f∈C.an,f.full=true->f.no≠no:=λf hf h1 h2=>by
   obtain⟨k,g,rfl⟩:=fv hf;exact hex ⟨k,g,h1,h2⟩
  have e:C.view no=C.D.now no:=nO (fs:=C.an) (D:=C.D) (c:=C.c) (aY:=C.aY) (hd:=C.hand) s;rw[e,←x no λh1 h2=>s _ (cP hi) h1 h2];refine nO λf hf h1 h2=>?_;rcases m6 hf with hf|rfl
  .exact s f hf h1 h2
  .rw[m]at h1;cases h1
theorem CN{X:Nat->Prop}{w:J}{C:b4}(h:gF X w C){no:Nat}{s:ad}{l:dh}(hs:¬C.D.b9 no=true):kQ (C.D.put no s l) C.D:=
 ⟨rfl,λ_ h=>h,λj a=>by
  have a:C.D.b9 j=true:=a
  rw[Cn,if_neg λe=>hs (by rw[←e];exact a)];exact h.pr j a⟩
theorem CO(D:bc){no:Nat}{s:ad}{l:dh}(hs:¬D.b9 no=true):(D.put no s l).key=D.key:=by
 have h1:=qZ D (k:=2) (.inr rfl);unfold bc.key at h1⊢;have h2:(D.put no s l).kq=D.kq:=by
  funext n;exact propext ⟨λ_ h=>absurd (h no) hs,λ_ h=>absurd (h no) hs⟩
 rw[h2];have a:=congrArg Prod.snd h1;show((D.b7,D.b9,D.eL,D.kq,D.r1),(D.cJ 2).cl.getD 3 0)=_;have a:(D.cJ 2).cl.getD 3 0=D.cl.getD 3 0:=a;rw[a]
def CP(X:Nat->Prop)(C:b4)(w:J)(v:aa)(w':J):Prop:=
 ∃aJ:b4,ef X w' aJ/\eA C aJ w w' 1/\aJ.aY=C.aY/\(∀j,aJ.view j=C.view j)/\(∀f∈aJ.an,f.full=true->∃g∈C.an,g.full=true/\g.no=f.no)/\
  ((∃ (i:Nat) (hi:i<aJ.an.length),v=.tuple #[.pointer (some ⟨C.aY,i*6,none⟩),(0:Int)]/\(aJ.an[i]).full=false/\((aJ.an[i]).pins=0))\/
   (v=.tuple #[.pointer none,(3:Int)]/\¬C.D.calm 1))
theorem CQ(h:ef X w C)(ar:C.D.a7<=1000000000):aI aj 205 #[.pointer (some C.c)] w (CP X C w):=by
 have U:=h.raw;refine okF (ae.vl (some C.c)) ax.vl func205 ?_;(delta ae.vl kg ak aV aG r1 bP;dsimp only);refine(Il U).use ?_;rintro _ _ ⟨he,rfl⟩;rcases he with ⟨i,hi,rfl,hf⟩|⟨rfl,au⟩
 .exact⟨_,rfl,λ_=>⟨C,h,(eA.refl C w).mono (cM _),rfl,λ_=>rfl,λf hf H=>⟨f,hf,H,rfl⟩,.inl ⟨i,hi,rfl,hf,h.inv.pins _ (cP hi)⟩⟩,λh=>(by cases h)⟩
 refine⟨_,rfl,λh=>(by cases h),λ_=>(Im U h.inv.pins).use ?_⟩;rintro _ w1 ⟨i,gs,hd,hi,rfl,z,r,az⟩;have W:i<gs.length:=by rw[z.1];exact hi
 have L:af (da C) w w1:=az.mono λq _ n=>by
  rcases n with n|n
  .exact .inl n
  .exact .inr (.inl n)
 have E:=sQ (hd:=hd) (aC:=C.D) h.inv z L (λq _ h=>h) h.inv.sO (λ_=>rfl) λq n=>.inl n;have P:=sR (hd:=hd) (aC:=C.D) h.inv z λ_=>rfl;obtain⟨a,F⟩:∃a:b4,a={C with an:=gs,hand:=hd}:=⟨_,rfl⟩;have E:gF X w1 a:=by rw[F];exact E
 have r:fg w1 a:=by rw[F];exact r
 have P:∀no,a.view no=C.view no:=by rw[F];exact P
 have Y:∀q,da a q↔da C q:=by rw[F];exact λq=>Iff.rfl
 have o:a.D=C.D:=by rw[F]
 have p:a.c=C.c/\a.aY=C.aY:=by rw[F];exact⟨rfl,rfl⟩
 have I:a.an=gs:=by rw[F]
 have A:i<a.an.length:=by rw[I];exact W
 have R:(a.an[i]).full=true:=by
  have e:=z.2 i hi W;have:(gs[i]).full=(C.an[i]).full:=by rw[e]
  simp only[I];rw[this];exact au _ (cP hi)
 have Z:∀f∈a.an,f.full=true->∃g∈C.an,g.full=true/\g.no=f.no:=by
  rw[I];intro f hf H;obtain⟨k,aa,rfl⟩:=fv hf;have ab:k<C.an.length:=by rw[←z.1];exact aa
  have e:=z.2 k ab aa;have aB:(gs[k]).full=(C.an[k]).full:=by rw[e]
  have aD:(gs[k]).no=(C.an[k]).no:=by rw[e]
  exact⟨C.an[k],cP ab,by rw[←aB];exact H,aD.symm⟩
 obtain⟨no,aw,ay,ac,aE,aF,aH⟩:=E.ok _ (cP A) R;have f1:=kr r.f A (j:=1) (by decide)
 have fin:∀ (ai:J) (aC:bc),af (da C) w1 ai->fg ai {a with D:=aC}->eA C {a with D:=aC} w ai 1->kQ aC C.D->(∀j:Nat,(a.an[i]).no≠j->aC.now j=C.D.now j)->(∀j:Nat,(a.an[i]).no=j->aC.now j=(a.an[i]).l)->(∀q,cq aC q->cq C.D q\/w1.heap.size<=q)->
  ∃S:ag,(some ⟨C.aY,i*6,none⟩:av ag)=some S/\bJ ai S [false,false,false,(0:Int),(0:Int),()]/\(6:Nat)=6/\ao (setCells ai S 0 [false,false,false,(0:Int),(0:Int),()]) λaJ=>CP X C w (.tuple #[.pointer (some ⟨C.aY,i*6,none⟩),(0:Int)]) aJ:=by
  intro ai aC aK t B aL ad aM K;have aN:bj ai a.aY (bn Fr.c a.an).toArray 275:=t.f;obtain⟨s1,s2,M⟩:=y4 aN A dx;rw[p.2]at s1 s2 M;have aO:gF X (setCells ai ⟨C.aY,i*6,none⟩ 0 dx.c) {a with an:=a.an.set i dx,D:=aC}:=by
   refine y5 (V:=da C) (w:=w1) A E (aK.trans (M.mono λq _ e=>.inr (.inl e))) (λq _ n=>(Y q).2 n) (by rw[o];exact aL) (λj u=>by rw[o];exact ad j λe=>u R e) (λq n=>by rw[o];exact K q n) dx rfl rfl
  have aP:=t.v;refine⟨_,rfl,s1,rfl,aX ⟨{a with an:=a.an.set i dx,D:=aC},⟨?_,aO⟩,?_,p.2,λj=>?_,λf hf H=>?_,.inl ⟨i,by show i<(a.an.set i dx).length;rw[dr];exact A,rfl,by simp[dx],by simp[dx]⟩⟩⟩
  .have aQ:a.c≠C.aY:=by have:=t.a1.1;rw[←p.2];exact this
   refine⟨?_,by show bj _ a.aY _ _;rw[p.2];exact s2,t.dev.ah M (λq n e=>t.a1.2.2 (by rw[show({a with D:=aC}:b4).aY=a.aY from rfl,p.2,←e];exact n)),?_,?_,?_,t.a1⟩
   .have:=aP.ah M aQ
    show Var _ _ [_,.slice _ (a.an.set i dx).length (a.an.set i dx).length,_] _;rw[dr];exact this
   .show 8<=(a.an.set i dx).length;rw[dr];exact t.b5
   .show(a.an.set i dx).length<=64;rw[dr];exact t.cp
   .show a.hand<(a.an.set i dx).length;rw[dr];exact t.hd
  .refine⟨B.c,B.d,by show(a.an.set i dx).length=_;rw[dr];exact B.len,B.b7,B.a7,B.calm,B.ah.trans (M.mono λq _ e=>.inr (.inl e)),B.c6⟩
  .rw[←P]
   exact CM A E (λ_ j u=>aM j u) (λj u=>by rw[o];exact ad j λe=>u R e) dx rfl j
  .rcases m6 hf with hf|rfl
   .exact Z f hf H
   .cases H
 refine⟨_,rfl,λh=>(by cases h),λ_=>k9 (λai=>∃aC:bc,af (da C) w1 ai/\fg ai {a with D:=aC}/\eA C {a with D:=aC} w ai 1/\kQ aC C.D/\(∀j:Nat,(a.an[i]).no≠j->aC.now j=C.D.now j)/\(∀j:Nat,(a.an[i]).no=j->aC.now j=(a.an[i]).l)/\(∀q,cq aC q->cq C.D q\/w1.heap.size<=q)) (λq n=>⟨_,rfl,(a.an[i]).gn,?_,λaR=>?_,λaS=>n _ ⟨C.D,.refl _ _,?_,?_,h.inv.sO,λ_ _=>rfl,λj u=>?_,λq h=>.inl h⟩⟩) ?_⟩
 .rw[aA,←p.2];exact f1
 .
  have Q:=cG w1;have y:=r.ext Q;obtain⟨al,_,_⟩:=y.cells;rw[p.1,o]at al;have f3:=kr y.f A (j:=3) (by decide);have f5:=kr y.f A (j:=5) (by decide);rw[p.2]at f3 f5;refine aX ⟨_,rfl,id,_,al,_,rfl,id,(no:Int),?_,_,rfl,id,(a.an[i]).b,by rw[aA];exact f5,?_⟩
  .rw[aA,f3]
   show some (Value.int .i64 (a.an[i]).no)=_;rw[aw]
  have aT:di w1.drew C.D:=by rw[←o];exact y.dev
  have am:¬C.D.b9 no=true:=λhs=>by
   have:=aH (by rw[o];exact hs);rw[aR]at this;cases this
  refine(wq aT (i:=no) (by rw[←o];exact ay) ar (ac.1.ext Q) aE λq n hf=>(ac.2.2 q n).1.1 (.inr (.inr (by rw[o];exact hf)))).use ?_;rintro v2 ai aU;rcases aU with ⟨ap,rfl,T,G⟩|⟨ap,rfl,s,T,G,aW⟩
  .have N:af (da C) w1 ai:=(af.cX Q).trans (G.mono λq _ e=>.inr (.inr (.inl e)))
   refine⟨3,rfl,λ_=>⟨{a with D:=C.D.cJ 2},⟨?_,?_⟩,?_,p.2,λj=>?_,Z,.inr ⟨rfl,λaZ=>?_⟩⟩,λh=>(by cases h)⟩
   .have t:=y.v.ah G (λe=>y.a1.2.1 (.inl (by rw[o];exact e)))
    rw[o]at t;have aq:=r.a1;rw[o]at aq;exact⟨t,bj.ah y.f G (λe=>y.a1.2.2 (.inl (by rw[o];exact e))),T,r.b5,r.cp,r.hd,aq⟩
   .have:=sQ (C:=a) (hd:=a.hand) (aC:=C.D.cJ 2) E (hV.refl _) N (λq _ n=>(Y q).2 n) (by rw[o];exact h.inv.cJ 2) (λj=>by rw[o];rfl) λq n=>.inl (by rw[o];exact n)
    exact this
   .refine⟨p.1,rfl,by show a.an.length=_;rw[I];exact z.1,qZ C.D (.inr rfl),Nat.le_succ _,λm O=>(jS (.inr rfl) h.raw.dev.f4 O).1,L.trans N,λq n=>.inl ?_⟩
    rcases n with e|e|e
    .exact .inl (by rw[←p.1];exact e)
    .exact .inr (.inl (by rw[←p.2];exact e))
    .exact .inr (.inr e)
   .rw[←P]
    exact sR (C:=a) E (hV.refl _) (λj=>by rw[o];rfl) j
   .have:=(jS (k:=2) (m:=0) (.inr rfl) h.raw.dev.f4 aZ).2
    rw[ap]at this;cases this
  .have N:af (da C) w1 ai:=(af.cX Q).trans (G.mono λq _ e=>.inr (.inr e))
   have K:∀q,cq (C.D.put no s (a.an[i]).l) q->cq C.D q\/w1.heap.size<=q:=by
    rintro q (e|e|e|⟨x,hx,e⟩)
    .exact .inl (.inl e)
    .exact .inl (.inr (.inl e))
    .exact .inl (.inr (.inr (.inl e)))
    .rcases c0.1 hx with rfl|hx
     .exact aW q e
     .exact .inl (.inr (.inr (.inr ⟨x,(gr.1 hx).1,e⟩)))
   have eo:∀q,cq C.D q->q≠a.c/\q≠a.aY:=λq n=>⟨λe=>r.a1.2.1 (by rw[o,←e];exact n),λe=>r.a1.2.2 (by rw[o,←e];exact n)⟩;refine⟨0,rfl,λh=>(by cases h),λ_=>n _ ⟨C.D.put no s (a.an[i]).l,N,?_,?_,CN h.inv am,λj u=>?_,λj u=>?_,K⟩⟩
   .have t:=y.v.ah G (λe=>(eo _ e).1 rfl)
    rw[o]at t;have a0:a.c<w1.heap.size:=r.v.lt;have a6:a.aY<w1.heap.size:=bj.lt r.f;refine⟨t,bj.ah y.f G (λe=>(eo _ e).2 rfl),T,r.b5,r.cp,r.hd,r.a1.1,λe=>?_,λe=>?_⟩
    .rcases K _ e with h1|h1
     .exact(eo _ h1).1 rfl
     .have:a.c<w1.heap.size:=a0
      have h1:w1.heap.size<=a.c:=h1;omega
    .rcases K _ e with h1|h1
     .exact(eo _ h1).2 rfl
     .have h1:w1.heap.size<=a.aY:=h1
      omega
   .refine⟨p.1,rfl,by show a.an.length=_;rw[I];exact z.1,CO C.D am,bk _,λm O=>(jS (.inr rfl) h.raw.dev.f4 O).1,L.trans N,λq n=>?_⟩
    rcases n with e|e|e
    .exact .inl (.inl (by rw[←p.1];exact e))
    .exact .inl (.inr (.inl (by rw[←p.2];exact e)))
    .rcases K q e with h1|h1
     .exact .inl (.inr (.inr h1))
     .exact .inr (eG L.size h1)
   .rw[pn,if_neg (λe=>u (by rw[aw,e]))]
   .rw[pn,if_pos (by rw[aw]at u;omega)]
 .rw[←o];exact r
 .refine⟨p.1,rfl,by show a.an.length=_;rw[I];exact z.1,rfl,Nat.le_succ _,λm O=>gm O (Nat.le_succ _),L,λq n=>.inl ?_⟩
  rcases n with e|e|e
  .exact .inl (by rw[←p.1];exact e)
  .exact .inr (.inl (by rw[←p.2];exact e))
  .exact .inr (.inr e)
 .have:no=j:=by rw[aw]at u;omega
  subst this;rw[←o];exact(aF aS).symm
 .rintro ai ⟨aC,a1,a2,a3,a4,a5,c1,cS⟩
  exact fin ai aC a1 a2 a3 a4 a5 c1 cS
end
def sS(fs:O Fr):Prop:=∀ (i j:Nat) (hi:i<fs.length) (a:j<fs.length),(fs[i]).full=true->(fs[j]).full=true->(fs[i]).no=(fs[j]).no->i=j
theorem CR{fs gs:O Fr}{D aC:bc}{c aY hd c' g h j:Nat}(n:sS fs)(o:sS gs)(h1:∀ (i:Nat) (hi:i<fs.length),(fs[i]).full=true->(fs[i]).no=j->∃ (k:Nat) (a:k<gs.length),(gs[k]).full=true/\(gs[k]).no=j/\(gs[k]).l=(fs[i]).l)
 (h2:(∀f∈fs,f.full=true->f.no≠j)->(∀f∈gs,f.full=true->f.no≠j)/\aC.now j=D.now j):(b4.mk c' g gs h aC).view j=(b4.mk c aY fs hd D).view j:=by
 by_cases hex:∃ (k:Nat) (a:k<fs.length),(fs[k]).full=true/\(fs[k]).no=j
 .obtain⟨k,a,aw,ay⟩:=hex
  obtain⟨m,p,b,d,q⟩:=h1 k a aw ay;rw[mL n a aw ay,mL o p b d,q]
 .have e:∀f∈fs,f.full=true->f.no≠j:=λf hf h1 h2=>by
   obtain⟨k,a,rfl⟩:=fv hf;exact hex ⟨k,a,h1,h2⟩
  obtain⟨b,d⟩:=h2 e;rw[nO e,nO b,d]
section
variable {w w':J}{C:b4}{X:Nat->Prop}
theorem y6{i:Nat}(hi:i<C.an.length){no:Nat}{V:Nat->Prop}(h:gF X w C)(hc:af V w w')(gl:∀q,q<w.heap.size->V q->da C q){aC:bc}(r:kQ aC C.D)(A:∀j,aC.now j=C.D.now j)(B:∀q,cq aC q↔cq C.D q)
 (d:Fr) (O:d.full=true) (E:d.pins=0) (s:CK X w' {C with an:=C.an.set i d,D:=aC} d no) (t:∀ (k:Nat) (u:k<C.an.length),k≠i->(C.an[k]).full=true->(C.an[k]).no≠no):gF X w' {C with an:=C.an.set i d,D:=aC}:=by
 have F:=hc.size;have v:∀q,da {C with an:=C.an.set i d,D:=aC} q->da C q:=λq hf=>by
  rcases hf with h1|h1|h1
  .exact .inl h1
  .exact .inr (.inl h1)
  .exact .inr (.inr ((B q).1 h1))
 refine⟨λf hf=>?_,λf hf x=>?_,λa b G g h1 h2 c=>?_,λq o=>⟨fi (h.fh q o).1 F,λhf=>(h.fh q o).2 (v q hf)⟩,r.2.2⟩
 .rcases m6 hf with hf|rfl
  .exact h.pins f hf
  .exact E
 .obtain⟨k,u,rfl⟩:=fv hf
  have H:k<C.an.length:=by simpa using u
  by_cases e:i=k
  .subst e
   simp only[im];exact⟨no,s⟩
  .simp only[fx e]at x⊢
   obtain⟨m,aw,ay,I,J,K,L,M⟩:=h.ok _ (cP H) x;exact⟨m,aw,by show m<aC.n;rw[r.1];exact ay,bu.re I hc (λq o g N=>g.1 (gl q o N)) λq _ g=>⟨λhf=>g.1 (v q hf),g.2⟩,J,λhd=>by show _=aC.now m;rw[A];exact K hd,λhs=>L (r.2.1 _ hs),M⟩
 .have y:a<C.an.length:=by simpa using G
  have z:b<C.an.length:=by simpa using g
  by_cases p:i=a
  .by_cases l:i=b
   .omega
   .subst p
    simp only[im]at c;simp only[fx l]at h2 c;exact absurd (by rw[←c];exact s.num) (t b z (λe=>l e.symm) h2)
  .by_cases l:i=b
   .subst l
    simp only[im]at c;simp only[fx p]at h1 c;exact absurd (by rw[c];exact s.num) (t a y (λe=>p e.symm) h1)
   .simp only[fx p]at h1 c
    simp only[fx l]at h2 c;exact h.un a b y z h1 h2 c
theorem Io{i:Nat}(hi:i<C.an.length){no:Nat}(h:sS C.an)(g:Fr)(j:g.no=no)(l:∀ (k:Nat) (q:k<C.an.length),k≠i->(C.an[k]).full=true->(C.an[k]).no≠no):sS (C.an.set i g):=by
 intro a b o p h1 h2 c;have m:a<C.an.length:=by simpa using o
 have n:b<C.an.length:=by simpa using p
 by_cases f:i=a
 .by_cases d:i=b
  .omega
  .subst f
   simp only[im]at c;simp only[fx d]at h2 c;exact absurd (by rw[←c];exact j) (l b n (λe=>d e.symm) h2)
 .by_cases d:i=b
  .subst d
   simp only[im]at c;simp only[fx f]at h1 c;exact absurd (by rw[c];exact j) (l a m (λe=>f e.symm) h1)
  .simp only[fx f]at h1 c
   simp only[fx d]at h2 c;exact h a b m n h1 h2 c
theorem y7{i:Nat}(hi:i<C.an.length){no:Nat}(h:sS C.an){aC:bc}(m:∀j,aC.now j=C.D.now j)(a:Fr)(n:a.full=true)(b:a.no=no)(hold:(C.an[i]).full=true->(C.an[i]).no=no)(o:∀ (k:Nat) (g:k<C.an.length),k≠i->(C.an[k]).full=true->(C.an[k]).no≠no){hd:Nat}(j:Nat):
 (b4.mk C.c C.aY (C.an.set i a) hd aC).view j=if j=no then a.l else C.view j:=by
 have hu:=Io hi h a b o;have p:i<(C.an.set i a).length:=by simpa using hi
 by_cases e:j=no
 .subst e
  rw[if_pos rfl,mL hu p (by simp[n]) (by simpa using b)];simp
 .rw[if_neg e]
  refine CR (fs:=C.an) (D:=C.D) (c:=C.c) (aY:=C.aY) (hd:=C.hand) h hu (λk g aw ay=>?_) λq=>⟨λf hf aw ay=>?_,m j⟩
  .have d:i≠k:=λr=>by
    subst r;have:=hold aw;rw[ay]at this;exact e I
   have s:k<(C.an.set i a).length:=by simpa using g
   exact⟨k,s,by simp only[fx d];exact aw,by simp only[fx d];exact ay,by simp only[fx d]⟩
  .rcases m6 hf with hf|rfl
   .exact q f hf aw ay
   .rw[b]at ay
    exact e I
def Ip(X:Nat->Prop)(C:b4)(no:Nat)(w:J)(v:aa)(w':J):Prop:=
 ∃aJ:b4,ef X w' aJ/\eA C aJ w w' 2/\(∀j,aJ.view j=C.view j)/\
  ((∃s:ad,v=.tuple #[s,(0:Int)]/\bu (λq=>w.heap.size<=q/\¬da aJ q/\¬X q) w' s (C.view no))\/(v=.tuple #[(),(3:Int)]/\¬C.D.calm 2))
theorem Iq(h:ef X w C)(a3:C.D.a7<=999999999){no:Nat}(aD:no<C.D.n)(aE:2<=no):aI aj 222 #[.pointer (some C.c),no] w (Ip X C no w):=by
 have r:=h.raw;refine okF (ae.vo (some C.c) (no:Int)) ax.vo func222 ?_;(delta ae.vo b8 ak kg st r1 bE ia ew;dsimp only);refine(CL r _).use ?_;rintro _ _ ⟨rfl,rfl⟩;refine⟨_,rfl,λF=>?_,λ_=>(wy r _).use ?_⟩
 .have:decide (0<=(no:Int)/\(no:Int)<C.D.n)=true:=dR ⟨I,I⟩
  rw[this]at F;cases F
 rintro _ _ ⟨aF,rfl⟩;rcases aF with ⟨i,hi,rfl,hf,aG⟩|⟨rfl,aH⟩
 .
  obtain⟨aw,ay,M,J⟩:=nN r.f hi (j:=2) (by decide) (v:=true) {C.an[i] with used:=true} rfl;have ab:hV C.an (C.an.set i {C.an[i] with used:=true}):=(hV.refl C.an).set hi true;have K:af (da C) w (w.setCell ⟨C.aY,i*6+2,none⟩ true):=J.mono λq _ e=>.inr (.inl e);have hinv:=sQ (hd:=C.hand) (aC:=C.D) h.inv ab K (λq _ h=>h) h.inv.sO (λ_=>rfl) λq p=>.inl p;have aJ:=sR (hd:=C.hand) (aC:=C.D) h.inv ab λ_=>rfl;obtain⟨w1,ac⟩:∃w1,w1=w.setCell ⟨C.aY,i*6+2,none⟩ true:=⟨_,rfl⟩;rw[←ac]at M J K hinv;have N:fg w1 {C with an:=C.an.set i {C.an[i] with used:=true}}:=by
   refine⟨?_,M,r.dev.ah J (λq p e=>r.a1.2.2 (e▸p)),?_,?_,?_,r.a1⟩
   .have:=r.v.ah J r.a1.1
    show Var _ _ [_,.slice _ (C.an.set i _).length (C.an.set i _).length,_] _;rw[dr];exact this
   .show 8<=(C.an.set i _).length;rw[dr];exact r.b5
   .show(C.an.set i _).length<=64;rw[dr];exact r.cp
   .show C.hand<(C.an.set i _).length;rw[dr];exact r.hd
  obtain⟨a,O⟩:∃a:b4,a={C with an:=C.an.set i {C.an[i] with used:=true}}:=⟨_,rfl⟩;have P:ef X w1 a:=by rw[O];exact⟨N,hinv⟩
  have dL:i<(C.an.set i {C.an[i] with used:=true}).length:=by simpa using hi
  have f5:=kr M dL (j:=5) (by decide);obtain⟨m,b5,cp,ad,ag,a4,a5,a6⟩:=hinv.ok ((C.an.set i {C.an[i] with used:=true})[i]) (cP dL) (by simp[hf]);have aK:((C.an.set i {C.an[i] with used:=true})[i]).b=(C.an[i]).b:=by simp
  have al:((C.an.set i {C.an[i] with used:=true})[i]).l=(C.an[i]).l:=by simp
  rw[aK,al]at ad;rw[al]at ag;refine⟨_,rfl,λ_=>⟨_,rfl,by rw[aA];exact aw,by rw[aA];exact ay,?_⟩,λh=>(by cases h)⟩;rw[aA,←ac];refine aX ⟨_,rfl,(C.an[i]).b,by rw[aA,f5];simp[Fr.c],(l0 (B:=λq=>w1.heap.size<=q) ad.1 (by rw[ag];omega) (λq p=>p)).use ?_⟩;rintro _ ai ⟨s,rfl,hs,am,_⟩;have aL:C.view no=(C.an[i]).l:=mL (fs:=C.an) (D:=C.D) (c:=C.c) (aY:=C.aY) (hd:=C.hand) h.inv.un hi hf aG;have aM:=K.size;refine⟨s,rfl,a,P.ext am,?_,?_,.inl ⟨s,rfl,?_⟩⟩
  .rw[O]
   exact⟨rfl,rfl,by show(C.an.set i _).length=_;rw[dr],rfl,Nat.le_add_right _ _,λm Q=>gm Q I,K.trans (af.cX am),λq p=>.inl p⟩
  .intro j;rw[O];exact aJ j
  .rw[aL]
   refine bu.a_ hs λq _ p=>⟨I,λhf=>?_,λG=>?_⟩
   .have:=P.raw.lt hf;omega
   .have:=(P.inv.fh q G).1;omega
 .
  refine⟨_,rfl,λh=>(by cases h),λ_=>(CQ h I).use ?_⟩;rintro _ w1 ⟨a,o,y,A,H,aN,N⟩;rcases N with ⟨i,hi,rfl,aO,a8⟩|⟨rfl,aP⟩
  .refine⟨_,_,rfl,λh=>(by simp at h),λ_=>⟨_,rfl,some C.D.d,?_,?_⟩⟩
   .have:=o.raw.cells.1
    rw[y.c,y.d]at this;exact this
   have R:no<a.D.n:=by rw[y.n];exact aD
   have a9:=y.a7;rw[←y.d];refine(Hz o.raw.dev R I).use ?_;rintro v2 ai ⟨ao,L,aQ⟩;have ap:=λq=>o.raw.lt (q:=q);have S:af (da a) w1 ai:=L.mono λq _ e=>.inr (.inr (.inl e))
   have T:∀f∈a.an,f.full=true->f.no≠no:=λf hf aR aS=>by
    obtain⟨g,hg,h1,h2⟩:=aN f hf aR;exact aH g hg h1 (by rw[h2,aS])
   have aT:a.D.calm 1\/¬C.D.calm 2:=by
    rcases Classical.em (C.D.calm 2) with h1|h1
    .exact .inl (y.calm 1 h1)
    .exact .inr h1
   have aq:a.view no=a.D.now no:=nO (fs:=a.an) (D:=a.D) (c:=a.c) (aY:=a.aY) (hd:=a.hand) T;have U:∀q,cq a.D q->q≠a.c/\q≠a.aY:=λq p=>⟨λe=>o.raw.a1.2.1 (e▸p),λe=>o.raw.a1.2.2 (e▸p)⟩;have aU:gF X ai {a with D:=a.D.cJ 1}:=sQ (C:=a) (hd:=a.hand) (aC:=a.D.cJ 1) o.inv (hV.refl _) S (λq _ h=>h) (o.inv.cJ 1) (λ_=>rfl) λq p=>.inl p;have u:eA C {a with D:=a.D.cJ 1} w ai 2:=by
    have:eA a {a with D:=a.D.cJ 1} w1 ai 1:=⟨rfl,rfl,rfl,qZ a.D (.inl rfl),Nat.le_succ _,λm Q=>(jS (.inl rfl) o.raw.dev.f4 Q).1,S,λq p=>.inl p⟩;exact y.trans this
   have aV:∀j,({a with D:=a.D.cJ 1}:b4).view j=C.view j:=λj=>by rw[←H];exact sR (C:=a) o.inv (hV.refl _) (λ_=>rfl) j
   have W:fg ai {a with D:=a.D.cJ 1}:=⟨o.raw.v.ah L (λe=>(U _ (.inl rfl)).1 e.symm),bj.ah o.raw.f L (λe=>(U _ (.inl rfl)).2 e.symm),ao,o.raw.b5,o.raw.cp,o.raw.hd,o.raw.a1⟩;rcases aQ with ⟨F,rfl⟩|⟨F,s,rfl,hs⟩
   .refine⟨⟨none,0,0⟩,3,rfl,λ_=>⟨{a with D:=a.D.cJ 1},⟨W,aU⟩,u,aV,.inr ⟨rfl,?_⟩⟩,λh=>(by simp at h)⟩
    rcases aT with h1|h1
    .have:=(jS (k:=1) (m:=0) (.inl rfl) o.raw.dev.f4 h1).2
     rw[F]at this;cases this
    .exact h1
   .have ar:(a.D.now no).length=256:=o.raw.dev.sL R
    obtain⟨s1,s2,z⟩:=y4 W.f hi ⟨true,false,true,(no:Int),0,s,a.D.now no⟩;rw[A]at s1 s2 z;have ba:=L.size;have aM:=y.ah.size;refine⟨s,_,rfl,λh=>(by simp at h),λ_=>⟨_,rfl,s1,rfl,?_⟩⟩;obtain⟨x,au⟩:∃x,x=setCells ai ⟨C.aY,i*6,none⟩ 0 (Fr.c ⟨true,false,true,(no:Int),0,s,a.D.now no⟩):=⟨_,rfl⟩;rw[←au]at s2 z;have hg:setCells ai ⟨C.aY,i*6,none⟩ 0 [true,false,true,no,(0:Int),s]=x:=au.symm;rw[hg];have av:af (da a) ai x:=z.mono λq _ e=>.inr (.inl (by rw[A];exact e));have az:bu (λq=>w1.heap.size<=q) x s (a.D.now no):=bu.ah hs z λq p e=>by
     have:=ap C.aY (.inr (.inl A.symm));omega
    have aW:gF X x {a with an:=a.an.set i ⟨true,false,true,(no:Int),0,s,a.D.now no⟩,D:=a.D.cJ 1}:=by
     refine y6 (w:=w1) (V:=da a) (aC:=a.D.cJ 1) hi (no:=no) o.inv (S.trans av) (λq _ h=>h) (o.inv.cJ 1) (λ_=>rfl) (λq=>Iff.rfl) ⟨true,false,true,(no:Int),0,s,a.D.now no⟩ rfl rfl ⟨rfl,R,?_,ar,λ_=>rfl,λ_=>rfl,aE⟩ λk Y _ h1=>T _ (cP Y) h1;refine bu.a_ az λq _ p=>⟨λhf=>?_,λG=>?_⟩
     .have:da a q:=hf
      have:=ap q this;omega
     .have:=(o.inv.fh q G).1;omega
    have aZ:∀j,({a with an:=a.an.set i ⟨true,false,true,(no:Int),0,s,a.D.now no⟩,D:=a.D.cJ 1}:b4).view j=C.view j:=λj=>by
     have:=y7 (hd:=a.hand) (aC:=a.D.cJ 1) hi (no:=no) o.inv.un (λ_=>rfl) ⟨true,false,true,(no:Int),0,s,a.D.now no⟩ rfl rfl (λh1=>by rw[aO]at h1;cases h1) (λk Y _ h1=>T _ (cP Y) h1) j;rw[show({a with an:=a.an.set i ⟨true,false,true,(no:Int),0,s,a.D.now no⟩,D:=a.D.cJ 1}:b4)=b4.mk a.c a.aY (a.an.set i ⟨true,false,true,(no:Int),0,s,a.D.now no⟩) a.hand (a.D.cJ 1) from rfl,this];by_cases e:j=no
     .rw[if_pos e,e,←H,aq]
     .rw[if_neg e,H]
    have a0:fg x {a with an:=a.an.set i ⟨true,false,true,(no:Int),0,s,a.D.now no⟩,D:=a.D.cJ 1}:=by
     refine⟨?_,by show bj _ a.aY _ _;rw[A];exact s2,ao.ah z (λq p e=>(U q p).2 (by rw[A];exact e)),?_,?_,?_,o.raw.a1⟩
     .have:=W.v.ah z (λe=>o.raw.a1.1 (by rw[A];exact e))
      show Var _ _ [_,.slice _ (a.an.set i _).length (a.an.set i _).length,_] _;rw[dr];exact this
     .show 8<=(a.an.set i _).length;rw[dr];exact o.raw.b5
     .show(a.an.set i _).length<=64;rw[dr];exact o.raw.cp
     .show a.hand<(a.an.set i _).length;rw[dr];exact o.raw.hd
    obtain⟨E,Z⟩:∃E:b4,E={a with an:=a.an.set i ⟨true,false,true,(no:Int),0,s,a.D.now no⟩,D:=a.D.cJ 1}:=⟨_,rfl⟩;have aa:ef X x E:=by rw[Z];exact⟨a0,aW⟩
    have a2:eA C E w x 2:=by
     rw[Z];exact⟨u.c,u.d,by show(a.an.set i _).length=_;rw[dr];exact u.len,u.b7,u.a7,u.calm,c5 u.ah av λq p h=>(u.c6 q h).resolve_right I,u.c6⟩
    refine aX ((l0 (B:=λq=>x.heap.size<=q) az.1 (by rw[ar];omega) (λq p=>p)).use ?_);rintro _ bb ⟨t,rfl,ht,aB,_⟩;have bc:=z.size;refine⟨t,rfl,E,aa.ext aB,?_,?_,.inl ⟨t,rfl,?_⟩⟩
    .exact(a2.trans (eA.ext E aB)).mono I
    .intro j;rw[Z];exact aZ j
    .rw[←H,aq]
     refine bu.a_ ht λq _ p=>⟨I,λhf=>?_,λG=>?_⟩
     .have:=aa.raw.lt hf;omega
     .have:=(aa.inv.fh q G).1;omega
  .refine⟨_,_,rfl,λ_=>⟨a,o,y.mono I,H,.inr ⟨rfl,λhc=>aP (gm hc I)⟩⟩,λh=>(by simp at h)⟩
end
section
variable {w w':J}{C:b4}{X:Nat->Prop}
def CS(X:Nat->Prop)(C:b4)(no:Nat)(l:dh)(w:J)(v:aa)(w':J):Prop:=
 ∃aJ:b4,ef X w' aJ/\eA C aJ w w' 1/\
  ((v=.int .i64 0/\∀j,aJ.view j=if j=no then l else C.view j)\/(v=.int .i64 3/\¬C.D.calm 1/\∀j,aJ.view j=C.view j))
theorem y8{i:Nat}{a:Fr}(h:fg w C)(hc:af (λq=>q=C.aY) w w')(b:bj w' C.aY (bn Fr.c (C.an.set i a)).toArray 275):fg w' {C with an:=C.an.set i a}:=by
 refine⟨?_,b,h.dev.ah hc (λq d e=>h.a1.2.2 (e▸d)),?_,?_,?_,h.a1⟩
 .have:=h.v.ah hc h.a1.1
  show Var _ _ [_,.slice _ (C.an.set i _).length (C.an.set i _).length,_] _;rw[dr];exact this
 .show 8<=(C.an.set i _).length;rw[dr];exact h.b5
 .show(C.an.set i _).length<=64;rw[dr];exact h.cp
 .show C.hand<(C.an.set i _).length;rw[dr];exact h.hd
theorem set_set{fs:O Fr}{i:Nat}(f g:Fr):(fs.set i f).set i g=fs.set i g:=List.set_set ..
theorem CT(h:ef X w C)(bs:C.D.a7<=999999999){no:Nat}(aF:no<C.D.n)(aG:2<=no)(aH:¬C.D.b9 no=true){b:ad}{l:dh}(ac:Src 1 w b (az l))(al:l.length=256)(am:∀q,aB b q->q<w.heap.size/\¬da C q):
 aI aj 146 #[.pointer (some C.c),no,b] w (CS X C no l w):=by
 have P:=h.raw;have aJ:=len8 ac;refine okF (ae.u_ (some C.c) (no:Int) b) ax.u_ func146 ?_;(delta ae.u_ b8 ak kg ia st bE;dsimp only);refine(CL P _).use ?_;rintro _ _ ⟨rfl,rfl⟩;have aK:decide (0<=(no:Int)/\(no:Int)<C.D.n)=true:=dR ⟨I,I⟩;refine⟨_,rfl,λh1=>?_,λ_=>(wy P _).use ?_⟩
 .rw[aK,aJ,al]at h1
  simp at h1
 rintro _ _ ⟨aL,rfl⟩
 have fin:∀ (w1:J) (a:b4) (i:Nat) (hi:i<a.an.length) (f1:Fr),ef X w1 a->eA C a w w1 1->a.aY=C.aY->(∀j,a.view j=C.view j)->f1.pins=0->∀ai:J,bj ai a.aY (bn Fr.c (a.an.set i f1)).toArray 275->af (λq=>q=a.aY) w1 ai->f1.full=true->f1.no=(no:Int)->
  ((a.an[i]).full=true->(a.an[i]).no=(no:Int))->(∀ (k:Nat) (E:k<a.an.length),k≠i->(a.an[k]).full=true->(a.an[k]).no≠(no:Int))->
  Calls aj 46 #[b] ai λaM Q=>∃ap:ad,aM=.returned ap/\∃G:ag,(some ⟨C.aY,i*6,none⟩:av ag)=some G/\(∃u:aa,Q.cell? (G.add 5)=some u)/\Q.frozen? (G.add 5)=false/\
   ao (Q.setCell (G.add 5) ap) λR=>∃H:ag,(some ⟨C.aY,i*6,none⟩:av ag)=some H/\(∃u:aa,R.cell? (H.add 1)=some u)/\R.frozen? (H.add 1)=false/\
   ao (R.setCell (H.add 1) true) λS=>∃K:ag,(some ⟨C.aY,i*6,none⟩:av ag)=some K/\(∃u:aa,S.cell? (K.add 2)=some u)/\S.frozen? (K.add 2)=false/\
   ao (S.setCell (K.add 2) true) λaN=>CS X C no l w (0:Int) aN:=by
  intro w1 a i hi f1 y o x aO T ai aP L M aq hold ar;have bt:=o.ah.size;have bv:=L.size;have bw:a.aY<w1.heap.size:=y.raw.lt (.inr (.inl rfl));have aQ:Src 1 ai b (az l):=by
   refine(ac.ah o.ah λq m hf=>(am q m).2 hf).ah L λq m e=>(am q m).2 (.inr (.inl (by rw[←x];exact e)))
  refine(l0 (B:=λq=>ai.heap.size<=q) aQ I (λq m=>m)).use ?_;rintro _ aR ⟨s,rfl,hs,au,_⟩;have aS:=bj.ext aP au;have U:i<(a.an.set i f1).length:=by rw[dr];exact hi
  have W:(a.an.set i f1)[i]=f1:=by simp
  obtain⟨a1,a2,a3,a4⟩:=nN aS U (j:=5) (by decide) (v:=s) {f1 with b:=s} (by rw[W];rfl);rw[set_set]at a3;have aT:i<(a.an.set i {f1 with b:=s}).length:=by rw[dr];exact hi
  have aU:(a.an.set i {f1 with b:=s})[i]={f1 with b:=s}:=by simp
  obtain⟨cB,b6,z,A⟩:=nN a3 aT (j:=1) (by decide) (v:=true) {f1 with b:=s,gn:=true} (by rw[aU];rfl);rw[set_set]at z;have aV:i<(a.an.set i {f1 with b:=s,gn:=true}).length:=by rw[dr];exact hi
  have aW:(a.an.set i {f1 with b:=s,gn:=true})[i]={f1 with b:=s,gn:=true}:=by simp
  obtain⟨d1,d2,d3,d4⟩:=nN z aV (j:=2) (by decide) (v:=true) {f1 with b:=s,gn:=true,used:=true,l:=l} (by rw[aW];rfl);rw[set_set]at d3;rw[x]at a1 a2 a3 a4 cB b6 z A d1 d2 d3 d4 L;refine⟨s,rfl,_,rfl,by rw[aA];exact a1,by rw[aA];exact a2,?_⟩;rw[aA];refine aX ⟨_,rfl,by rw[aA];exact cB,by rw[aA];exact b6,?_⟩;rw[aA];refine aX ⟨_,rfl,by rw[aA];exact d1,by rw[aA];exact d2,?_⟩;rw[aA];have N:=(L.trans (af.cX au)).trans (a4.trans (A.trans d4));obtain⟨t,r⟩:∃t:Fr,t={f1 with b:=s,gn:=true,used:=true,l:=l}:=⟨_,rfl⟩;obtain⟨F,Y⟩:∃F,F=(((aR.setCell ⟨C.aY,i*6+5,none⟩ s).setCell ⟨C.aY,i*6+1,none⟩ true).setCell ⟨C.aY,i*6+2,none⟩ true):=⟨_,rfl⟩;rw[←Y,←r]at d3;rw[←Y]at N⊢;have aZ:bu (λq=>ai.heap.size<=q) F s l:=by
   have h1:=bu.ah hs a4 λq m e=>by rw[←x]at e;omega
   have h2:=bu.ah h1 A λq m e=>by rw[←x]at e;omega
   have a0:=bu.ah h2 d4 λq m e=>by rw[←x]at e;omega
   rw[Y];exact a0
  have a5:fg F {a with an:=a.an.set i t}:=y8 y.raw (by rw[x];exact N) (by rw[x];exact d3);have a6:gF X F {a with an:=a.an.set i t}:=by
   refine y6 (w:=w1) (V:=λq=>q=C.aY) (aC:=a.D) hi (no:=no) y.inv N (λq _ e=>.inr (.inl (by rw[x];exact e))) y.inv.sO (λ_=>rfl) (λq=>Iff.rfl) t (by rw[r];exact M) (by rw[r];exact T) ⟨by rw[r];exact aq,by show no<a.D.n;rw[o.n];exact aF,?_,by rw[r];exact al,λhd=>(by rw[r]at hd;cases hd),λhs=>absurd (by rw[←o.b9];exact hs) aH,aG⟩ ar;rw[r];refine bu.a_ aZ λq _ m=>⟨λhf=>?_,λa8=>?_⟩
   .have:da a q:=hf
    have:=y.raw.lt this;omega
   .have:=(y.inv.fh q a8).1;omega
  refine aX ⟨{a with an:=a.an.set i t},⟨a5,a6⟩,⟨o.c,o.d,by show(a.an.set i _).length=_;rw[dr];exact o.len,o.b7,o.a7,o.calm,c5 o.ah N λq m e=>.inr (.inl e),o.c6⟩,.inl ⟨rfl,λj=>?_⟩⟩;have:=y7 (C:=a) (hd:=a.hand) (aC:=a.D) hi (no:=no) y.inv.un (λ_=>rfl) t (by rw[r];exact M) (by rw[r];exact aq) hold ar j;rw[show({a with an:=a.an.set i t}:b4)=b4.mk a.c a.aY (a.an.set i t) a.hand a.D from rfl,this,aO];rw[r]
 rcases aL with ⟨i,hi,rfl,hf,Z⟩|⟨rfl,a9⟩
 .refine⟨_,rfl,cx (λp w'=>p=some ⟨C.aY,i*6,none⟩/\w=w') (λq m=>⟨λh=>(by cases h),λ_=>m _ _ ⟨rfl,rfl⟩⟩) ?_⟩
  rintro _ _ ⟨rfl,rfl⟩;have e:C.an.set i C.an[i]=C.an:=List.set_getElem_self _;exact fin w C i hi C.an[i] h ((eA.refl C w).mono (cM _)) rfl (λ_=>rfl) (h.inv.pins _ (cP hi)) w (by rw[e];exact P.f) (.refl _ _) hf Z (λ_=>Z) λk E ba h1 h2=>ba (h.inv.un k i E hi h1 hf (by rw[h2,Z]))
 .refine⟨_,rfl,cx (λp ai=>∃ (w1:J) (a:b4) (i:Nat) (hi:i<a.an.length) (f1:Fr),p=some ⟨C.aY,i*6,none⟩/\ef X w1 a/\eA C a w w1 1/\a.aY=C.aY/\(∀j,a.view j=C.view j)/\f1.pins=0/\bj ai a.aY (bn Fr.c (a.an.set i f1)).toArray 275/\af (λq=>q=a.aY) w1 ai/\f1.full=true/\f1.no=(no:Int)/\
   ((a.an[i]).full=true->(a.an[i]).no=(no:Int))/\(∀ (k:Nat) (E:k<a.an.length),k≠i->(a.an[k]).full=true->(a.an[k]).no≠(no:Int))) (λq m=>⟨λ_=>(CQ h I).use ?_,λh=>(by cases h)⟩) ?_⟩
  .rintro _ w1 ⟨a,ab,aD,O,aE,bb,bc⟩
   have bd:∀f∈a.an,f.full=true->f.no≠(no:Int):=λf hf M be=>by
    obtain⟨g,hg,h1,h2⟩:=bb f hf M;exact a9 g hg h1 (by rw[h2,be])
   rcases bc with ⟨i,hi,rfl,bf,T⟩|⟨rfl,bg⟩
   .obtain⟨a1,a2,a3,a4⟩:=nN ab.raw.f hi (j:=0) (by decide) (v:=true) {a.an[i] with full:=true} rfl
    have U:i<(a.an.set i {a.an[i] with full:=true}).length:=by rw[dr];exact hi
    have W:(a.an.set i {a.an[i] with full:=true})[i]={a.an[i] with full:=true}:=by simp
    obtain⟨cB,b6,z,A⟩:=nN a3 U (j:=3) (by decide) (v:=no) {a.an[i] with full:=true,no:=(no:Int)} (by rw[W];rfl);rw[set_set]at z;rw[O]at a1 a2 cB b6 z a4 A;refine⟨_,_,rfl,λh=>(by simp at h),λ_=>⟨_,rfl,a1,a2,aX ⟨_,rfl,by rw[aA];exact cB,by rw[aA];exact b6,aX ?_⟩⟩⟩;rw[aA];exact m _ _ ⟨w1,a,i,hi,{a.an[i] with full:=true,no:=(no:Int)},rfl,ab,aD,O,aE,T,by rw[O];exact z,by rw[O];exact a4.trans A,rfl,rfl,λh1=>(by rw[bf]at h1;cases h1),λk E _ h1=>bd _ (cP E) h1⟩
   .exact⟨_,_,rfl,λ_=>⟨a,ab,aD,.inr ⟨rfl,bg,aE⟩⟩,λh=>(by simp at h)⟩
  .rintro p ai ⟨w1,a,i,hi,f1,rfl,aw,ay,bh,bi,bk,bl,bm,bo,bp,bq,br⟩
   exact fin w1 a i hi f1 aw ay bh bi bk ai bl bm bo bp bq br
theorem Ir(h:ef X w C)(no:Nat):aI aj 127 #[.pointer (some C.c),no] w (λv w'=>(∃b:al,v=b)/\∃aJ:b4,ef X w' aJ/\eA C aJ w w' 0/\(∀j,j≠no->aJ.view j=C.view j)/\aJ.D=C.D/\∀f∈aJ.an,f.full=true->f∈C.an/\f.no≠(no:Int)):=by
 have d:=h.raw;refine okF (ae.u7 (some C.c) (no:Int)) ax.u7 func127 ?_;(delta ae.u7 kg ak aG;dsimp only);refine(wy d _).use ?_;rintro _ _ ⟨u,rfl⟩;rcases u with ⟨i,hi,rfl,hf,p⟩|⟨rfl,x⟩
 .have f4:=kr d.f hi (j:=4) (by decide)
  have y:=h.inv.pins _ (cP hi);refine⟨_,rfl,cx (λb w'=>b=false/\w=w') (λq g=>⟨λh=>(by cases h),λ_=>⟨_,rfl,(C.an[i]).pins,by rw[aA];exact f4,g _ _ ⟨by rw[y];rfl,rfl⟩⟩⟩) ?_⟩;rintro _ _ ⟨rfl,rfl⟩;obtain⟨s1,s2,l⟩:=y4 d.f hi dx;refine⟨λh=>(by cases h),λ_=>⟨_,rfl,s1,rfl,aX ⟨⟨true,rfl⟩,{C with an:=C.an.set i dx},⟨y8 d l s2,?_⟩,?_,λj z=>?_,rfl,λf A aw=>?_⟩⟩⟩
  .exact y5 (V:=λq=>q=C.aY) (aC:=C.D) hi h.inv l (λq _ e=>.inr (.inl e)) h.inv.sO (λ_ _=>rfl) (λq h=>.inl h) dx rfl rfl
  .exact⟨rfl,rfl,by show(C.an.set i _).length=_;rw[dr],rfl,bk _,λ_ h=>h,l.mono λq _ e=>.inr (.inl e),λq h=>.inl h⟩
  .refine CR (fs:=C.an) (D:=C.D) (c:=C.c) (aY:=C.aY) (hd:=C.hand) h.inv.un (λa b B E h1 h2 m=>?_) (λk n aw ay=>?_) λF=>⟨λf hf aw ay=>?_,rfl⟩
   .have G:a<C.an.length:=by simpa using B
    have H:b<C.an.length:=by simpa using E
    by_cases r:i=a
    .subst r
     simp[dx]at h1
    by_cases s:i=b
    .subst s
     simp[dx]at h2
    simp only[fx r]at h1 m;simp only[fx s]at h2 m;exact h.inv.un a b G H h1 h2 m
   .have o:i≠k:=λe=>by
     subst e;rw[p]at ay;exact z I
    exact⟨k,by rw[dr];exact n,by simp only[fx o];exact aw,by simp only[fx o];exact ay,by simp only[fx o]⟩
   .rcases m6 hf with hf|rfl
    .exact F f hf aw ay
    .cases aw
  .obtain⟨k,n,rfl⟩:=fv A
   have t:k<C.an.length:=by simpa using n
   by_cases e:i=k
   .subst e
    simp[dx]at aw
   .simp only[fx e]at aw⊢
    exact⟨cP t,λay=>e (h.inv.un i k hi t hf aw (p.trans ay.symm))⟩
 .refine⟨_,rfl,cx (λb w'=>b=true/\w=w') (λq g=>⟨λ_=>g _ _ ⟨rfl,rfl⟩,λh=>(by cases h)⟩) ?_⟩
  rintro _ _ ⟨rfl,rfl⟩;exact⟨λ_=>⟨⟨false,rfl⟩,C,h,eA.refl C w,λ_ _=>rfl,rfl,λf hf aw=>⟨hf,x f hf aw⟩⟩,λh=>(by cases h)⟩
end
theorem Is(n:Nat):g1 aj 275 n=(bn Fr.c (List.replicate n dx)).toArray:=by
 have a:((Tryz.prog.info? 275).bind (·.zero)).map (·.cells)=some dx.c.toArray:=by kernel_rfl
 have hc:Tryz.prog.cellsOf 275=6:=by kernel_rfl
 unfold g1;rw[hc]
 cases hi:(Tryz.prog.info? 275).bind (·.zero) with
 |none=>rw[hi]at a;cases a
 |some z=>
  rw[hi]at a;simp only[l_,Option.some.injEq]at a;simp only[Option.getD_some,a];apply Array.ext
  .simp[fe (c:=Fr.c) (sz:=6) (List.replicate n dx) (λx _=>rfl)]
  .intro i h1 h2
   have d:n*6≠0:=by
    intro h;simp[h]at h1
   have g:i<n*6:=by simpa using h1
   simp only[d,if_false,Array.getElem_map,Array.getElem_range,List.getElem_toArray];have b:dx.c.toArray.size=6:=rfl;have aH:i%6<6:=g9 _ I;have e:i/6<(List.replicate n dx).length:=by rw[me];omega
   have hg:=wm (c:=Fr.c) (sz:=6) (l:=List.replicate n dx) (λx _=>rfl) (i:=i/6) (j:=i%6) e aH;rw[show i/6*6+i%6=i from I]at hg;have f:i<(bn Fr.c (List.replicate n dx)).length:=by simpa using h2
   rw[dI f]at hg;have he:((List.replicate n dx)[i/6]).c=dx.c:=by simp
   rw[he,dI (show i%6<dx.c.length from aH)]at hg;have hg:=Option.some.inj hg;rw[hg,b,getElem!_pos dx.c.toArray (i%6) (by rw[b];exact aH)];simp
def l2(c aY k:Nat)(D:bc):b4:=⟨c,aY,List.replicate k dx,0,D⟩
theorem qp{w:J}{D:bc}(h:di w D){k:Nat}(h1:8<=k)(h2:k<=64)(m:∀j,D.b9 j=true->D.ff j=D.eL j):aI aj 120 #[.pointer (some D.d),k] w (λv w'=>∃c aY:Nat,v=.tuple #[.pointer (some c),(0:Int)]/\ef (λ_=>False) w' (l2 c aY k D)/\Ext w w'/\w.heap.size<=c/\w.heap.size<=aY):=by
 refine okF (ae.qp (some D.d) (k:Int)) ax.qp func120 ?_;delta ae.qp ak kK Y;refine⟨λh=>?_,λ_=>⟨⟨I,I,I,I⟩,?_⟩⟩
 .simp only[Option.isNone_some,mW,je,cg]at h;omega
 rw[Is,dc];have g:=bj.new w (bn Fr.c (List.replicate k dx)).toArray 275;have a:=c4 w (.cells (bn Fr.c (List.replicate k dx)).toArray 275);have n:=pd w (.cells (bn Fr.c (List.replicate k dx)).toArray 275);obtain⟨w1,o⟩:∃w1,w1=w.alloc (.cells (bn Fr.c (List.replicate k dx)).toArray 275):=⟨_,rfl⟩;rw[←o]at g a n⊢;refine aX (ba (vs:=[.pointer (some D.d),.slice (some w.heap.size) k k,(0:Int)]) rfl λai p b s=>⟨w1.heap.size,w.heap.size,rfl,⟨⟨?_,bj.ext g b,h.ext (a.trans b),?_,?_,?_,?_,?_,?_⟩,⟨λf hf=>?_,λf hf l=>?_,λi j hi t h1=>?_,λq r=>r.elim,m⟩⟩,a.trans b,I,bk _⟩)
 .show Var _ _ [_,.slice _ (List.replicate k dx).length (List.replicate k dx).length,_] _
  rw[me];exact p
 .show 8<=(List.replicate k dx).length;simpa using h1
 .show(List.replicate k dx).length<=64;simpa using h2
 .show 0<(List.replicate k dx).length;simp;omega
 .show w1.heap.size≠w.heap.size;omega
 .intro e
  have:=h.lt e;have:w1.heap.size<w.heap.size:=this;omega
 .intro e
  have:=h.lt e;have:w.heap.size<w.heap.size:=this;omega
 .rw[wX hf];rfl
 .rw[wX hf]at l;cases l
 .simp[l2,dx]at h1
structure aK where
 bh:Nat
 gen:Nat
 root:Nat
 aL:Nat
 C:b4
 sb:Nat
 n:Nat
 f:Nat->al
 g:Nat->al
 s1:ad
 s2:ad
 E:Nat->Prop
 G:Nat->Prop
 P:Nat->av aD
def aK.cy(T:aK)(E G:Nat->Prop):aK:={T with E:=E,G:=G}
def aK.bA(T:aK)(C:b4)(P:Nat->av aD):aK:={T with C:=C,P:=P}
def aK.X(T:aK)(q:Nat):Prop:=q=T.bh\/gM T.sb T.s1 T.s2 q\/T.E q\/T.G q
def aK.M(T:aK)(q:Nat):Prop:=da T.C q\/T.X q
def aK.N(T:aK)(q:Nat):Prop:=da T.C q\/q=T.bh\/gM T.sb T.s1 T.s2 q\/T.G q
theorem aK.gN{T:aK}{q:Nat}(h:T.N q):T.M q:=h.imp id (Or.imp id (Or.imp id .inr))
def gY(gen:Nat)(leaf:al)(no:Nat)(l:dh)(n:aD):Prop:=
 ∃p:js,fm (no:Int) l=.ok p/\p.gen<=gen/\p.kind=(if leaf then 1 else 2)/\lY leaf p.body n/\2<=no
def l3(T:aK):O aa:=[.pointer (some T.C.c),.pointer (some T.sb),.int .u64 (T.gen:Nat),T.root,T.aL]
structure b_(w:J)(T:aK):Prop where
 t:Var w T.bh (l3 T) 243
 s:fp w T.sb T.n T.f T.g T.s1 T.s2
 ca:ef T.X w T.C
 kt:¬gM T.sb T.s1 T.s2 T.bh
 dV:∀q,T.E q->q≠T.bh/\¬gM T.sb T.s1 T.s2 q/\¬T.G q
 jv:∀q,T.G q->q≠T.bh/\¬gM T.sb T.s1 T.s2 q
 n:T.C.D.n=T.n
 num:T.root<T.n/\T.aL<=12/\T.gen<18446744073709551616
 eV:∀no cd,T.P no=some cd->no<T.n/\gY T.gen cd.leaf no (T.C.view no) cd
 b9:∀j,T.C.D.b9 j=true->T.g j=true\/T.C.D.ro
 low:T.g 0=true/\T.g 1=true
structure bS(T au:aK)(w w':J)(k:Nat):Prop where
 bh:au.bh=T.bh
 sb:au.sb=T.sb
 n:au.n=T.n
 g:au.g=T.g
 s1:au.s1=T.s1
 s2:au.s2=T.s2
 c:au.C.c=T.C.c
 d:au.C.D.d=T.C.D.d
 b7:au.C.D.key=T.C.D.key
 gen:au.gen=T.gen
 a7:au.C.D.a7<=T.C.D.a7+k
 calm:∀m,T.C.D.calm (m+k)->au.C.D.calm m
 ah:af T.N w w'
 c6:∀q,au.M q->T.M q\/w.heap.size<=q
 fn:∀q,au.N q->T.N q\/w.heap.size<=q
theorem bS.b9{T au:aK}{w w':J}{k:Nat}(h:bS T au w w' k):au.C.D.b9=T.C.D.b9/\au.C.D.eL=T.C.D.eL:=by
 have:=congrArg Prod.fst h.b7;exact⟨congrArg (λp=>p.2.1) this,congrArg (λp=>p.2.2.1) this⟩
theorem bS.refl(T:aK)(w:J):bS T T w w 0:=⟨rfl,rfl,rfl,rfl,rfl,rfl,rfl,rfl,rfl,rfl,bk _,λ_ h=>h,.refl _ _,λ_ h=>.inl h,λ_ h=>.inl h⟩
theorem bS.ext{w w':J}(T:aK)(h:Ext w w'):bS T T w w' 0:=⟨rfl,rfl,rfl,rfl,rfl,rfl,rfl,rfl,rfl,rfl,bk _,λ_ h=>h,af.cX h,λ_ h=>.inl h,λ_ h=>.inl h⟩
theorem bS.trans{T au b:aK}{w w' e:J}{k l:Nat}(h1:bS T au w w' k)(h2:bS au b w' e l):bS T b w e (k+l):=by
 have hs:=h1.ah.size;refine⟨h2.bh.trans h1.bh,h2.sb.trans h1.sb,h2.n.trans h1.n,h2.g.trans h1.g,h2.s1.trans h1.s1,h2.s2.trans h1.s2,h2.c.trans h1.c,h2.d.trans h1.d,h2.b7.trans h1.b7,h2.gen.trans h1.gen,by have:=h1.a7;have:=h2.a7;omega,
  λm f=>h2.calm m (h1.calm (m+l) (by rw[show m+l+k=m+(k+l) from I];exact f)),c5 h1.ah h2.ah λq a h=>(h1.fn q h).resolve_right I,λq a=>?_,λq a=>?_⟩
 .rcases h2.c6 q a with h|h
  .exact h1.c6 q h
  .exact .inr I
 .rcases h2.fn q a with h|h
  .exact h1.fn q h
  .exact .inr I
theorem bS.mono{T au:aK}{w w':J}{k l:Nat}(h:bS T au w w' k)(b:k<=l):bS T au w w' l:=
 ⟨h.bh,h.sb,h.n,h.g,h.s1,h.s2,h.c,h.d,h.b7,h.gen,by have:=h.a7;omega,λm a=>h.calm m (gm a I),h.ah,h.c6,h.fn⟩
theorem bS.cd{T au:aK}{w w':J}{k lo:Nat}(h:bS T au w w' k){n:aD}{K V D:ad}(d:bT (λq=>lo<=q/\¬T.M q) w n K V D):bT (λq=>lo<=q/\¬au.M q) w' n K V D:=by
 have h1:bT (λq=>q<w.heap.size/\lo<=q/\¬T.M q) w n K V D:=d.a_ λq b a=>⟨b,a⟩;refine(bT.ah h1 h.ah λq b c=>b.2.2 (aK.gN c)).a_ λq _ a=>⟨a.2.1,λc=>?_⟩;rcases h.c6 q c with h2|h2
 .exact a.2.2 h2
 .have:=a.1;omega
section
variable {w w':J}{T au:aK}
theorem bS.step{W E G:Nat->Prop}{w1:J}{k:Nat}(h:bS T au w w1 k)(hc:af W w1 w')(cA:∀q,W q->q<w.heap.size->T.N q)(e:∀q,E q->au.E q\/au.G q\/w.heap.size<=q)(b:∀q,G q->au.G q\/w.heap.size<=q):bS T (au.cy E G) w w' k:=by
 refine⟨h.bh,h.sb,h.n,h.g,h.s1,h.s2,h.c,h.d,h.b7,h.gen,h.a7,h.calm,c5 h.ah hc λq a f=>cA q f a,λq a=>?_,λq a=>?_⟩
 .rcases a with a|a|a|a|a
  .exact h.c6 q (.inl a)
  .exact h.c6 q (.inr (.inl a))
  .exact h.c6 q (.inr (.inr (.inl a)))
  .rcases e q a with h1|h1|h1
   .exact h.c6 q (.inr (.inr (.inr (.inl h1))))
   .exact h.c6 q (.inr (.inr (.inr (.inr h1))))
   .exact .inr h1
  .rcases b q a with h1|h1
   .exact h.c6 q (.inr (.inr (.inr (.inr h1))))
   .exact .inr h1
 .rcases a with a|a|a|a
  .exact h.fn q (.inl a)
  .exact h.fn q (.inr (.inl a))
  .exact h.fn q (.inr (.inr (.inl a)))
  .rcases b q a with h1|h1
   .exact h.fn q (.inr (.inr (.inr h1)))
   .exact .inr h1
theorem bS.local{bO ku a y9:Nat->Prop}{w1:J}{k:Nat}(h:bS (T.cy bO a) au w1 w' k)(hx:Ext w w1)(b:∀q,bO q->T.E q\/w.heap.size<=q)(c:∀q,a q->T.G q\/w.heap.size<=q)
 (d:∀q,ku q->au.E q\/au.G q) (e:∀q,y9 q->au.G q):bS T (au.cy ku y9) w w' k:=by
 have h0:bS T (T.cy bO a) w w1 0:=(bS.ext T (w:=w) (w':=w) (af.refl _ _)).step (W:=λ_=>False) hx (λ_ h=>h.elim) (λq h=>(b q h).imp id .inr) c;have h1:=h0.trans h;rw[cR]at h1;exact h1.step (W:=λ_=>False) (af.refl _ _) (λ_ h=>h.elim) (λq h=>(d q h).imp id .inl) λq h=>.inl (e q h)
theorem b_.lt(h:b_ w T){q:Nat}(a:T.M q):q<w.heap.size:=by
 rcases a with a|a
 .exact h.ca.raw.lt a
 .exact(h.ca.inv.fh q a).1
theorem b_.kO(h:b_ w T){q:Nat}(b:T.E q):¬T.N q:=by
 rintro(a|a|a|a)
 .exact(h.ca.inv.fh q (.inr (.inr (.inl b)))).2 a
 .exact(h.dV q b).1 a
 .exact(h.dV q b).2.1 a
 .exact(h.dV q b).2.2 a
theorem b_.ext(h:b_ w T)(hx:Ext w w'):b_ w' T:=⟨h.t.ext hx,h.s.ext hx,h.ca.ext hx,h.kt,h.dV,h.jv,h.n,h.num,h.eV,h.b9,h.low⟩
theorem ef.grow{X d W:Nat->Prop}{C:b4}(h:ef X w C)(hc:af W w w')(cA:∀q,W q->q<w.heap.size->X q)(e:∀q,d q->X q\/(w.heap.size<=q/\q<w'.heap.size)):ef d w' C:=by
 have g:af X w w':=c5 (W:=X) (af.refl _ _) hc λq a i=>cA q i a;refine⟨h.raw.ah g λq a hx=>(h.inv.fh q hx).2 a,h.inv.pins,λf hf j=>?_,h.inv.un,λq a=>?_,h.inv.pr⟩
 .obtain⟨no,aw,ay,k,m,n,o,p⟩:=h.inv.ok f hf j
  have r:bu (λq=>q<w.heap.size/\¬da C q/\¬X q) w f.b f.l:=bu.a_ k λq a c=>⟨a,c⟩;refine⟨no,aw,ay,bu.a_ (bu.ah r g λq a hx=>a.2.2 hx) λq _ c=>⟨c.2.1,λs=>?_⟩,m,n,o,p⟩;rcases e q s with h1|h1
  .exact c.2.2 h1
  .have:=c.1;omega
 .rcases e q a with h1|h1
  .exact⟨fi (h.inv.fh q h1).1 hc.size,(h.inv.fh q h1).2⟩
  .exact⟨h1.2,λhf=>by have:=h.raw.lt hf;omega⟩
theorem b_.grow{E G W:Nat->Prop}(h:b_ w T)(hc:af W w w')(cA:∀q,W q->q<w.heap.size->T.E q\/T.G q)(c:∀q,E q->T.E q\/T.G q\/(w.heap.size<=q/\q<w'.heap.size))(f:∀q,G q->T.E q\/T.G q\/(w.heap.size<=q/\q<w'.heap.size))(j:∀q,E q->¬G q):b_ w' (T.cy E G):=by
 have b:∀q,T.E q\/T.G q->q≠T.bh/\¬gM T.sb T.s1 T.s2 q:=λq a=>by
  rcases a with a|a
  .exact⟨(h.dV q a).1,(h.dV q a).2.1⟩
  .exact h.jv q a
 have g:af (λq=>T.E q\/T.G q) w w':=c5 (W:=λq=>T.E q\/T.G q) (af.refl _ _) hc λq a k=>cA q k a;have d:∀q,T.E q\/T.G q\/(w.heap.size<=q/\q<w'.heap.size)->q≠T.bh/\¬gM T.sb T.s1 T.s2 q:=λq a=>by
  rcases a with a|a|a
  .exact b q (.inl a)
  .exact b q (.inr a)
  .exact⟨λe=>by have h2:=h.lt (q:=q) (.inr (.inl e));omega,λe=>by have h2:=h.lt (q:=q) (.inr (.inr (.inl e)));omega⟩
 have i:∀q,T.E q\/T.G q\/(w.heap.size<=q/\q<w'.heap.size)->T.X q\/(w.heap.size<=q/\q<w'.heap.size):=λq a=>by
  rcases a with a|a|a
  .exact .inl (.inr (.inr (.inl a)))
  .exact .inl (.inr (.inr (.inr a)))
  .exact .inr a
 refine⟨h.t.ah g λe=>(b _ e).1 rfl,h.s.ah g λq a e=>(b q e).2 a,h.ca.grow hc (λq a l=>.inr (.inr (cA q a l))) λq a=>?_,h.kt,λq a=>⟨(d q (c q a)).1,(d q (c q a)).2,j q a⟩,λq a=>d q (f q a),h.n,h.num,h.eV,h.b9,h.low⟩;rcases a with a|a|a|a
 .exact .inl (.inl a)
 .exact .inl (.inr (.inl a))
 .exact i q (c q a)
 .exact i q (f q a)
theorem b_.cells(h:b_ w T):w.cell? T.bh=some (.pointer (some T.C.c))/\w.cell? (Addr.add T.bh 1)=some (.pointer (some T.sb))/\w.cell? (Addr.add T.bh 2)=some (.int .u64 (T.gen:Nat))/\
 w.cell? (Addr.add T.bh 3)=some (.int .i64 (T.root:Nat))/\w.cell? (Addr.add T.bh 4)=some (.int .i64 (T.aL:Nat)):=by
 rw[aA,aA,aA,aA];exact⟨h.t.cell,h.t.cell,h.t.cell,h.t.cell,h.t.cell⟩
theorem b_.It(h:b_ w T){no:Nat}(a:no<T.n):(T.C.view no).length=256:=by
 unfold b4.view
 cases hf:T.C.an.find? λf=>f.full&&f.no==(no:Int) with
 |some f=>
  have h1:=j9 hf;have h2:=k0 hf;obtain⟨m,b⟩:=h.ca.inv.ok f h1 (by
   have:(f.full&&f.no==(no:Int))=true:=h2;exact(Bool.and_eq_true_iff.1 this).1)
  exact b.len
 |none=>exact h.ca.raw.dev.sL (by rw[h.n];exact a)
theorem b_.wA{aJ:b4}{k:Nat}{P:Nat->av aD}(h:b_ w T)(e:ef T.X w' aJ)(a:eA T.C aJ w w' k)(f:∀no cd,P no=some cd->no<T.n/\gY T.gen cd.leaf no (aJ.view no) cd):
 b_ w' (T.bA aJ P)/\bS T (T.bA aJ P) w w' k:=by
 have hx:=h.ca.inv.fh;have hc:=a.ah;refine⟨⟨?_,h.s.ah hc λq b hf=>(hx q (.inr (.inl b))).2 hf,e,h.kt,h.dV,h.jv,?_,h.num,f,λj l=>by unfold bc.ro;show T.g j=true\/∀i,aJ.D.b9 i=true;rw[a.b9];exact h.b9 j (by rw[←a.b9];exact l),h.low⟩,⟨rfl,rfl,rfl,rfl,rfl,rfl,a.c,a.d,a.b7,rfl,a.a7,a.calm,hc.mono λq _ b=>.inl b,?_,?_⟩⟩
 .have:=h.t.ah hc λhf=>(hx T.bh (.inl rfl)).2 hf
  unfold l3 at this⊢;rw[←a.c]at this;exact this
 .show aJ.D.n=T.n
  rw[a.n,h.n]
 .rintro q (b|b)
  .rcases a.c6 q b with h1|h1
   .exact .inl (.inl h1)
   .exact .inr h1
  .exact .inl (.inr b)
 .rintro q (b|b)
  .rcases a.c6 q b with h1|h1
   .exact .inl (.inl h1)
   .exact .inr h1
  .exact .inl (.inr b)
end
def Iu(T:aK)(leaf:al)(no:Nat)(e:Int):Prop:=
 (e=3/\¬T.C.D.calm 2)\/fm (no:Int) (T.C.view no)=.error e\/(e=4/\(∃p,fm (no:Int) (T.C.view no)=.ok p)/\∀n,¬gY T.gen leaf no (T.C.view no) n)
def pv(T:aK)(leaf:al)(no:Nat)(w:J)(v:aa)(w':J):Prop:=
 ∃aJ:b4,b_ w' (T.bA aJ T.P)/\bS T (T.bA aJ T.P) w w' 2/\(∀j,aJ.view j=T.C.view j)/\
  ((∃ (n:aD) (K V D:ad),v=.tuple #[dg n K V D,(0:Int)]/\gY T.gen leaf no (T.C.view no) n/\bT (λq=>w.heap.size<=q/\¬(T.bA aJ T.P).M q) w' n K V D)\/
    (∃e:Int,v=.tuple #[dg iW bI bI bI,e]/\Iu T leaf no e/\e≠0))
theorem CU{no:Int}{l:dh}{e:Int}(h:fm no l=.error e):e≠0:=by
 intro he;subst he;unfold fm at h
 repeat' split at h
 all_goals first|(injection h with h;exact absurd h (by decide))|cases h
theorem Iv{no:Int}{l:dh}{p:js}(h:fm no l=.ok p):p.body.length<=256:=by
 unfold fm at h
 repeat' split at h
 all_goals first|(cases h;done)|skip
 rename_i h1 _ _ _ _ _;injection h with h
 rw[←h];show(List.take _ (List.drop 24 l)).length<=256;rw[cz,eg];omega
theorem CV{w':J}{h:Nat}{vs:O aa}(n g:Int)(s:ad)(a:Var w' h vs 137)(b:vs.length=3){K:J->Prop}(c:∀ai,Var ai h [n,.int .u64 g,s] 137->af (λq=>q=h) w' ai->ai.heap.size=w'.heap.size->K ai):
 bJ w' h [n,.int .u64 g,s]/\(3:Nat)=3/\ao (setCells w' h 0 [n,.int .u64 g,s]) K:=by
 refine⟨a.cn (by rw[b];rfl) ?_,rfl,cT a (us:=[n,.int .u64 g,s]) (by rw[b];rfl) rfl c⟩;intro v a;simp only[c0,fw,fD]at a;rcases a with rfl|rfl|rfl<;>trivial
theorem y_{w:J}{T:aK}(h:b_ w T)(aE:T.C.D.a7<=999999999){no:Nat}(ac:no<T.n)(ag:2<=no)(leaf:al):
 aI aj 175 #[.pointer (some T.bh),no,leaf] w (pv T leaf no w):=by
 have bd:=h.s.bB;have aF:=h.It ac;refine okF (ae.ve (some T.bh) (no:Int) leaf) ax.ve func175 ?_;(delta ae.ve z5 ew ak x1 Y fF aV r1 A_ ud cr aG r4 lg;dsimp only);refine ba (vs:=[false,(),(),()]) rfl λw1 aH am be=>?_;obtain⟨o,L⟩:∃o,o=λq=>T.G q\/q=w.heap.size:=⟨_,rfl⟩;have an:o w.heap.size:=by rw[L];exact .inr rfl
 have N:∀q,T.G q->o q:=λq c=>by rw[L];exact .inl c
 have O:∀q,o q->T.G q\/q=w.heap.size:=λq c=>by rw[L]at c;exact c
 have h1:b_ w1 (T.cy T.E o):=h.grow (W:=λ_=>False) am (λ_ h=>h.elim) (λq c=>.inl c) (λq c=>.inr ((O q c).imp id λe=>⟨I,I⟩)) λq c hg=>by
  rcases O q hg with h2|h2
  .exact(h.dV q c).2.2 h2
  .have:=h.lt (q:=q) (.inr (.inr (.inr (.inl c))));omega
 refine⟨_,rfl,_,h1.cells.1,(Iq h1.ca aE (no:=no) (by rw[h1.n];exact ac) ag).use ?_⟩;rintro _ m ⟨aJ,aL,R,t,aM⟩;obtain⟨S,aN⟩:=h1.wA (P:=T.P) aL R (λno cd aO=>by rw[t];exact h1.eV no cd aO);have bf:=R.ah.size;have ao:Var m w.heap.size [false,(),(),()] 169:=aH.ah R.ah λhf=>(h1.ca.inv.fh _ (.inr (.inr (.inr an)))).2 hf
 have fin:∀w':J,af (λq=>q=w.heap.size) m w'->b_ w' (T.bA aJ T.P)/\bS T (T.bA aJ T.P) w w' 2:=λw' hc=>by
  refine⟨S.grow (E:=T.E) (G:=T.G) hc (λq e _=>.inr (by rw[e];exact an)) (λq c=>.inl c) (λq c=>.inr (.inl (N q c))) λq c=>(h.dV q c).2.2,?_⟩;have aP:=aN.local am (λq c=>.inl c) (λq c=>(O q c).imp id λe=>I) (ku:=T.E) (y9:=T.G) (λq c=>.inl c) N;exact aP.step hc (λq e bg=>I) (λq c=>.inl c) λq c=>.inl c
 have aQ:∀ {w':J}{n:aD}{K V D:ad}{B:Nat->Prop},bT (λq=>m.heap.size<=q) w' n K V D->bT (λq=>w.heap.size<=q/\¬(T.bA aJ T.P).M q) w' n K V D:=λaR=>by
  refine aR.a_ λq _ c=>⟨I,λj=>?_⟩;have:q<m.heap.size:=S.lt (q:=q) (by
   rcases j with j|j|j|j|j
   .exact .inl j
   .exact .inr (.inl j)
   .exact .inr (.inr (.inl j))
   .exact .inr (.inr (.inr (.inl j)))
   .exact .inr (.inr (.inr (.inr (N q j)))))
  omega
 rcases aM with ⟨s,rfl,hs⟩|⟨rfl,aS⟩
 .refine⟨s,0,rfl,λd=>(by cases d),λ_=>(qu hs.1 hs.2.1 (by show(T.C.view no).length<=1000;rw[aF];omega) _).use ?_⟩
  rintro _ aU ⟨y,F⟩;have ap:=ao.ext F;have bi:=F.size;have aW:(T.cy T.E o).C.view no=T.C.view no:=rfl;rw[aW]at y
  cases g:fm (no:Int) (T.C.view no) with
  |error e=>
   rw[g]at y;obtain rfl:=y;refine⟨0,0,⟨none,0,0⟩,e,rfl,ba (vs:=[(0:Int),.int .u64 0,()]) rfl λaY U u aZ=>?_⟩;refine CV 0 0 ⟨none,0,0⟩ U rfl λf aq v a0=>⟨λ_=>?_,λd=>?_⟩
   .have X:Var f w.heap.size [false,(),(),()] 169:=(ap.ext u).ah v I
    refine iX false bI bI bI X rfl (Q:=λb K V D ai=>pv T leaf no w (.tuple #[.agg #[b,K,V,D],e]) ai) λl i=>?_;obtain⟨f1,f2⟩:=fin l (c5 (W:=λq=>q=w.heap.size) (af.cX (Ext.cC (F.trans u) v I)) i λq _ e=>e);exact⟨aJ,f1,f2,t,.inr ⟨e,rfl,.inr (.inl g),CU g⟩⟩
   .have:=CU g
    simp at d;omega
  |ok p=>
   rw[g]at y;obtain⟨z,rfl,Z,bj⟩:=y;refine⟨p.kind,p.gen,z,0,rfl,ba (vs:=[(0:Int),.int .u64 0,()]) rfl λaY U u aZ=>?_⟩;refine CV p.kind p.gen z U rfl λf aq v a0=>⟨λd=>(by cases d),λ_=>aX ?_⟩;have X:Var f w.heap.size [false,(),(),()] 169:=(ap.ext u).ah v I;have a1:Ext m f:=Ext.cC (F.trans u) v I;have A:Ext m f.drew:=a1.trans (cG _);have aa:Var f.drew w.heap.size [false,(),(),()] 169:=X.drew;have H:=aq.drew;have a2:=(S.ext A).cells;obtain⟨b,d⟩:∃b,b=aU.heap.size:=⟨_,rfl⟩;rw[←d]at H⊢;have ab:f.drew.cell? b=some (.int .i64 (p.kind:Nat)):=H.cell;have a3:f.drew.cell? (Addr.add b 1)=some (.int .u64 (p.gen:Nat)):=by rw[aA];exact H.cell
   have a4:f.drew.cell? (Addr.add b 2)=some (.slice z.a z.len z.cap):=by rw[aA];exact H.cell
   have bk:m.heap.size<=f.drew.heap.size:=A.size;refine⟨id,_,a3,_,rfl,id,_,a2.2.2.1,λhg=>?_,λhg=>⟨id,_,ab,?_⟩⟩
   .have hg:T.gen<p.gen:=by
     have:(p.gen:Int)>(T.gen:Int):=cj hg;omega
    refine cx (λb w'=>b=true/\w'=f.drew) (λq c=>⟨λ_=>c _ _ ⟨rfl,rfl⟩,λh=>by cases h⟩) ?_;rintro _ _ ⟨rfl,rfl⟩;refine⟨λ_=>?_,λh=>(by cases h)⟩;refine iX false bI bI bI aa rfl (Q:=λb K V D ai=>pv T leaf no w (.tuple #[.agg #[b,K,V,D],(4:Int)]) ai) λl i=>?_;obtain⟨f1,f2⟩:=fin l (c5 (W:=λq=>q=w.heap.size) (af.cX A) i λq _ e=>e);refine⟨aJ,f1,f2,t,.inr ⟨4,rfl,.inr (.inr ⟨rfl,⟨p,g⟩,?_⟩),by decide⟩⟩;rintro n ⟨ar,aw,ay,_⟩;rw[g]at aw;cases aw;omega
   .have hg:p.gen<=T.gen:=by
     have:¬(p.gen:Int)>(T.gen:Int):=cE hg;omega
    refine cx (λb w'=>w'=f.drew/\(b=false↔p.kind=(if leaf then 1 else 2))) (λq c=>⟨λh=>c _ _ ⟨rfl,?_⟩,λh=>⟨_,ab,cx (λb w'=>w'=f.drew/\(b=false↔p.kind=(if leaf then 1 else 2))) (λr au=>⟨λh2=>⟨_,ab,au _ _ ⟨rfl,?_⟩⟩,λh2=>au _ _ ⟨rfl,?_⟩⟩) λb w' a5=>c b w' a5⟩⟩) ?_
    .refine⟨λh=>(by cases h),λx=>?_⟩
     rw[x]at h
     cases leaf<;>simp at h
    .cases leaf
     .simp
      exact Int.ofNat_inj
     .simp at h2 h;omega
    .cases leaf
     .simp at h2 h;omega
     .simp at h2
      simp;omega
    rintro bl _ ⟨rfl,x⟩;refine⟨λd=>?_,λd=>⟨_,a4,(qz ((Z.ext (Ext.cC u v I|>.trans (cG _))).src) ?_ ?_ ?_ leaf).use ?_⟩⟩
    .refine iX false bI bI bI aa rfl (Q:=λb K V D ai=>pv T leaf no w (.tuple #[.agg #[b,K,V,D],(4:Int)]) ai) λl i=>?_
     obtain⟨f1,f2⟩:=fin l (c5 (W:=λq=>q=w.heap.size) (af.cX A) i λq _ e=>e);refine⟨aJ,f1,f2,t,.inr ⟨4,rfl,.inr (.inr ⟨rfl,⟨p,g⟩,?_⟩),by decide⟩⟩;rintro n ⟨ar,aw,ay,av,_⟩;rw[g]at aw;cases aw;rw[x.2 av]at d;cases d
    .exact Z.2.1
    .intro k x
     have:=aT.lt Z k x;have:=u.size;show k<f.heap.size;omega
    .have:=Iv g
     omega
    rintro _ a6 ⟨a8,az⟩;have aB:Ext m a6:=A.trans az;have aC:=aa.ext az;rcases a8 with ⟨n,K,V,D,rfl,a9,eo⟩|⟨rfl,bb⟩
    .refine⟨n.leaf,K,V,D,0,rfl,?_⟩
     refine iX n.leaf K V D aC rfl (Q:=λb K V D ai=>pv T leaf no w (.tuple #[.agg #[b,K,V,D],(0:Int)]) ai) λl i=>?_;obtain⟨f1,f2⟩:=fin l (c5 (W:=λq=>q=w.heap.size) (af.cX aB) i λq _ e=>e);refine⟨aJ,f1,f2,t,.inl ⟨n,K,V,D,rfl,⟨p,g,hg,x.1 d,a9,ag⟩,?_⟩⟩;refine aQ (B:=λ_=>True) (bT.ah (eo.a_ λq _ c=>?_) i λq c e=>?_)
     .omega
     .have:m.heap.size<=q:=c
      omega
    .refine⟨false,bI,bI,bI,4,rfl,?_⟩
     refine iX false bI bI bI aC rfl (Q:=λb K V D ai=>pv T leaf no w (.tuple #[.agg #[b,K,V,D],(4:Int)]) ai) λl i=>?_;obtain⟨f1,f2⟩:=fin l (c5 (W:=λq=>q=w.heap.size) (af.cX aB) i λq _ e=>e);refine⟨aJ,f1,f2,t,.inr ⟨4,rfl,.inr (.inr ⟨rfl,⟨p,g⟩,?_⟩),by decide⟩⟩;rintro n ⟨ar,aw,ay,av,bc,_⟩;rw[g]at aw;cases aw;exact bb n bc
 .refine⟨⟨none,0,0⟩,3,rfl,λ_=>?_,λd=>(by cases d)⟩
  refine iX false bI bI bI ao rfl (Q:=λb K V D ai=>pv T leaf no w (.tuple #[.agg #[b,K,V,D],(3:Int)]) ai) λl i=>?_;obtain⟨f1,f2⟩:=fin l i;exact⟨aJ,f1,f2,t,.inr ⟨3,rfl,.inl ⟨rfl,aS⟩,by decide⟩⟩
structure dy where
 no:Nat
 n:aD
 cQ:Nat
 K:ad
 V:ad
 D:ad
def dy.c(s:dy):O aa:=[s.no,s.n.leaf,s.K,s.V,s.D,s.cQ]
def dy.st(s:dy):Nat×aD×Nat:=(s.no,s.n,s.cQ)
theorem nP(l:O dy):∀x∈l,(dy.c x).length=6:=λ_ _=>rfl
structure kx(B:Nat->Prop)(w:J)(s:ad)(l:O dy):Prop where
 own:aT 6 223 w s (bn dy.c l)
 pw:∀q,aB s q->B q
 cd:∀x∈l,bT B w x.n x.K x.V x.D
def nQ(P:Nat->av aD)(k:Key):Nat->Nat->O (Nat×aD×Nat)->Prop
 |0,_,l=>l=[]
 |h+1,no,l=>∃n rest,P no=some n/\n.leaf=decide (h=0)/\l=(no,n,if h=0 then 0 else df n.keys k)::rest/\nQ P k h (n.kids.getD (df n.keys k) 0) rest
theorem nQ.length{P:Nat->av aD}{k:Key}:∀ {h no:Nat}{l:O (Nat×aD×Nat)},nQ P k h no l->l.length=h
 |0,_,_,h=>by rw[h];rfl
 |h+1,_,_,⟨n,rest,_,_,a,b⟩=>by rw[a,gh,nQ.length b]
theorem gY.uniq{gen no:Nat}{leaf:al}{l:dh}{n m:aD}(h1:gY gen leaf no l n)(h2:gY gen leaf no l m):n=m:=by
 obtain⟨p,a1,a2,a3,a4⟩:=h1;obtain⟨q,cB,b6,b,a⟩:=h2;rw[a1]at cB
 cases cB;exact lY.uniq a4.1 a.1
theorem gY.is{gen no:Nat}{leaf:al}{l:dh}{n:aD}(h:gY gen leaf no l n):n.leaf=leaf/\cI n/\bC n<=232:=by
 obtain⟨p,_,_,_,a,_⟩:=h;exact⟨a.2.1,a.1,a.2.2.1⟩
theorem gY.two{gen no:Nat}{leaf:al}{l:dh}{n:aD}(h:gY gen leaf no l n):2<=no:=by
 obtain⟨p,_,_,_,_,a⟩:=h;exact a
theorem cI.eY{n:aD}(h:cI n):n.keys.Pairwise bo:=by
 rcases h with h|h
 .exact h.eY
 .exact h.eY
def Iw(T:aK)(steps:O (Nat×aD×Nat))(w:J)(v:aa)(w':J):Prop:=
 ∃aJ:b4,b_ w' (T.bA aJ T.P)/\bS T (T.bA aJ T.P) w w' (2*T.aL)/\(∀j,aJ.view j=T.C.view j)/\
  ((∃ (s:ad) (l:O dy),v=.tuple #[s,(0:Int)]/\l.map dy.st=steps/\kx (λq=>w.heap.size<=q/\¬(T.bA aJ T.P).M q) w' s l)\/(v=.tuple #[(),(3:Int)]/\¬T.C.D.calm (2*T.aL)))
theorem Ix(w:J)(cs:Array aa)(h:cs.size=6):Sem.run aj (Instr.buildSlice 219 1 #[(0,.agg cs)]) w=.ok (.slice (some w.heap.size) 1 1) (w.alloc (.cells cs 223)):=by
 have h0:((Tryz.prog.info? 223).bind (·.zero)).isSome=true:=by kernel_rfl
 obtain⟨z,a⟩:=mT.1 h0;obtain⟨i,hi,b⟩:=sK a;have h1:(Tryz.prog.underlying 223).isSome=true:=by kernel_rfl
 obtain⟨d,hd⟩:=mT.1 h1;exact yV (sz:=6) w (by kernel_rfl) hd (by kernel_rfl) hi b h (by decide) (by decide)
theorem Iy:hE aj 219 223 6 96:=⟨by kernel_rfl⟩
end Go.Proofs.YtcmgnhkpfllinaaGreat
