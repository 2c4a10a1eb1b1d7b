/- Contracts of the functions that the statement reaches, and the plain laws over them; each theorem stands with its conditions. -/
import Derived.Shelf.SlIterI.Nil
import Derived.Shelf.SortM.Plain
import Derived.Shelf.SortM.SortNone
import Derived.Test.YtkdhdlfonmgheaaGreatProg
import Derived.Test.YtkdhdlfonmgheaaGreatBNone4
namespace Go.Proofs.YtkdhdlfonmgheaaGreat
open Go Go.Proofs Go.Shelf
def Aj:Go.Shelf.Ren:=⟨λ |7=>178|10=>232|n=>n,λ |23=>137|26=>3|3=>136|28=>264|0=>0|27=>263|33=>180|4=>4|n=>n,λ |n=>n⟩
theorem Fa:Go.Proofs.SlLaysZI.n7 Tryz.prog Aj:={
 mixed:=by kernel_rfl
 f7:=⟨Tryz.f178.name,by decide,Tryz.func178.trans (congrArg some (by kernel_rfl))⟩
 f10:=⟨Tryz.f232.name,by decide,Tryz.func232.trans (congrArg some (by kernel_rfl))⟩
 t0:=Tryz.underlying0
 a0:=Tryz.isAgg0
 z0:=Tryz.sizeOf0
 v0:=Tryz.zeroValue0
 t4:=Tryz.underlying4
 a4:=Tryz.isAgg4
 z4:=Tryz.sizeOf4
 v4:=Tryz.zeroValue4
 t23:=Tryz.underlying137
 a23:=Tryz.isAgg137
 z23:=Tryz.sizeOf137
 v23:=Tryz.zeroValue137
 t26:=Tryz.underlying3
 a26:=Tryz.isAgg3
 z26:=Tryz.sizeOf3
 v26:=Tryz.zeroValue3
 t27:=Tryz.underlying263
 a27:=Tryz.isAgg263
 z27:=Tryz.sizeOf263
 v27:=Tryz.zeroValue263
 t28:=Tryz.underlying264
 a28:=Tryz.isAgg264
 z28:=Tryz.sizeOf264
 v28:=Tryz.zeroValue264
 t33:=Tryz.underlying180
 a33:=Tryz.isAgg180
 z33:=Tryz.sizeOf180
 v33:=Tryz.zeroValue180}
def Ak:Go.Shelf.Ren:=⟨λ |6=>177|8=>231|9=>153|11=>271|13=>213|12=>212|23=>264|24=>265|14=>255|15=>256|16=>257|17=>258|18=>259|19=>260|20=>261|21=>262|22=>263|25=>286|26=>287|27=>288|28=>289|29=>290|30=>291|31=>297|n=>n,λ |26=>3|28=>264|24=>58|0=>0|3=>3|37=>101|48=>219|50=>27|4=>4|40=>340|39=>339|45=>175|5=>5|9=>9|51=>364|55=>367|57=>371|58=>234|33=>180|n=>n,λ |n=>n⟩
theorem Fb:Go.Proofs.SlLaysZI.n6 Tryz.prog Ak:={
 mixed:=by kernel_rfl
 f6:=⟨Tryz.f177.name,by decide,Tryz.func177.trans (congrArg some (by kernel_rfl))⟩
 f8:=⟨Tryz.f231.name,by decide,Tryz.func231.trans (congrArg some (by kernel_rfl))⟩
 f11:=⟨Tryz.f271.name,by decide,Tryz.func271.trans (congrArg some (by kernel_rfl))⟩
 t0:=Tryz.underlying0
 a0:=Tryz.isAgg0
 z0:=Tryz.sizeOf0
 v0:=Tryz.zeroValue0
 t24:=Tryz.underlying58
 a24:=Tryz.isAgg58
 z24:=Tryz.sizeOf58
 v24:=Tryz.zeroValue58
 t26:=Tryz.underlying3
 a26:=Tryz.isAgg3
 z26:=Tryz.sizeOf3
 v26:=Tryz.zeroValue3
 t28:=Tryz.underlying264
 a28:=Tryz.isAgg264
 z28:=Tryz.sizeOf264
 v28:=Tryz.zeroValue264
 i26:=by kernel_rfl}
def Fc:Go.Shelf.Ren:=⟨λ |5=>153|8=>213|7=>212|19=>264|20=>265|10=>255|11=>256|12=>257|13=>258|14=>259|15=>260|16=>261|17=>262|18=>263|30=>286|31=>287|32=>288|33=>289|34=>290|35=>291|40=>297|n=>n,λ |23=>58|25=>3|3=>3|32=>101|22=>58|0=>0|44=>219|46=>27|4=>4|36=>340|35=>339|41=>175|5=>5|9=>9|53=>364|57=>367|63=>371|64=>234|n=>n,λ |n=>n⟩
theorem tX:Go.Proofs.SlLaysM.n5 Tryz.prog Fc:={
 mixed:=by kernel_rfl
 f5:=⟨Tryz.f153.name,by decide,Tryz.func153.trans (congrArg some (by kernel_rfl))⟩
 f7:=⟨Tryz.f212.name,by decide,Tryz.func212.trans (congrArg some (by kernel_rfl))⟩
 f8:=Tryz.func213.trans (congrArg some (by kernel_rfl))
 f10:=⟨Tryz.f255.name,by decide,Tryz.func255.trans (congrArg some (by kernel_rfl))⟩
 f11:=⟨Tryz.f256.name,by decide,Tryz.func256.trans (congrArg some (by kernel_rfl))⟩
 f12:=⟨Tryz.f257.name,by decide,Tryz.func257.trans (congrArg some (by kernel_rfl))⟩
 f13:=⟨Tryz.f258.name,by decide,Tryz.func258.trans (congrArg some (by kernel_rfl))⟩
 f14:=⟨Tryz.f259.name,by decide,Tryz.func259.trans (congrArg some (by kernel_rfl))⟩
 f15:=⟨Tryz.f260.name,by decide,Tryz.func260.trans (congrArg some (by kernel_rfl))⟩
 f16:=⟨Tryz.f261.name,by decide,Tryz.func261.trans (congrArg some (by kernel_rfl))⟩
 f17:=⟨Tryz.f262.name,by decide,Tryz.func262.trans (congrArg some (by kernel_rfl))⟩
 f18:=⟨Tryz.f263.name,by decide,Tryz.func263.trans (congrArg some (by kernel_rfl))⟩
 f19:=Tryz.func264.trans (congrArg some (by kernel_rfl))
 f20:=Tryz.func265.trans (congrArg some (by kernel_rfl))
 f30:=⟨Tryz.f286.name,by decide,Tryz.func286.trans (congrArg some (by kernel_rfl))⟩
 f31:=Tryz.func287.trans (congrArg some (by kernel_rfl))
 f32:=Tryz.func288.trans (congrArg some (by kernel_rfl))
 f33:=⟨Tryz.f289.name,by decide,Tryz.func289.trans (congrArg some (by kernel_rfl))⟩
 f34:=⟨Tryz.f290.name,by decide,Tryz.func290.trans (congrArg some (by kernel_rfl))⟩
 f35:=⟨Tryz.f291.name,by decide,Tryz.func291.trans (congrArg some (by kernel_rfl))⟩
 f40:=⟨Tryz.f297.name,by decide,Tryz.func297.trans (congrArg some (by kernel_rfl))⟩
 t0:=Tryz.underlying0
 a0:=Tryz.isAgg0
 z0:=Tryz.sizeOf0
 v0:=Tryz.zeroValue0
 t3:=Tryz.underlying3
 a3:=Tryz.isAgg3
 z3:=Tryz.sizeOf3
 v3:=Tryz.zeroValue3
 t4:=Tryz.underlying4
 a4:=Tryz.isAgg4
 z4:=Tryz.sizeOf4
 v4:=Tryz.zeroValue4
 t5:=Tryz.underlying5
 a5:=Tryz.isAgg5
 z5:=Tryz.sizeOf5
 v5:=Tryz.zeroValue5
 t9:=Tryz.underlying9
 a9:=Tryz.isAgg9
 z9:=Tryz.sizeOf9
 v9:=Tryz.zeroValue9
 t22:=Tryz.underlying58
 a22:=Tryz.isAgg58
 z22:=Tryz.sizeOf58
 v22:=Tryz.zeroValue58
 t23:=Tryz.underlying58
 a23:=Tryz.isAgg58
 z23:=Tryz.sizeOf58
 v23:=Tryz.zeroValue58
 t25:=Tryz.underlying3
 a25:=Tryz.isAgg3
 z25:=Tryz.sizeOf3
 v25:=Tryz.zeroValue3
 t32:=Tryz.underlying101
 a32:=Tryz.isAgg101
 z32:=Tryz.sizeOf101
 v32:=Tryz.zeroValue101
 t35:=Tryz.underlying339
 a35:=Tryz.isAgg339
 z35:=Tryz.sizeOf339
 v35:=Tryz.zeroValue339
 t36:=Tryz.underlying340
 a36:=Tryz.isAgg340
 z36:=Tryz.sizeOf340
 v36:=Tryz.zeroValue340
 t41:=Tryz.underlying175
 a41:=Tryz.isAgg175
 z41:=Tryz.sizeOf175
 v41:=Tryz.zeroValue175
 t44:=Tryz.underlying219
 a44:=Tryz.isAgg219
 z44:=Tryz.sizeOf219
 v44:=Tryz.zeroValue219
 t46:=Tryz.underlying27
 a46:=Tryz.isAgg27
 z46:=Tryz.sizeOf27
 v46:=Tryz.zeroValue27
 t53:=Tryz.underlying364
 a53:=Tryz.isAgg364
 z53:=Tryz.sizeOf364
 v53:=Tryz.zeroValue364
 t57:=Tryz.underlying367
 a57:=Tryz.isAgg367
 z57:=Tryz.sizeOf367
 v57:=Tryz.zeroValue367
 t63:=Tryz.underlying371
 a63:=Tryz.isAgg371
 z63:=Tryz.sizeOf371
 v63:=Tryz.zeroValue371
 t64:=Tryz.underlying234
 a64:=Tryz.isAgg234
 z64:=Tryz.sizeOf234
 v64:=Tryz.zeroValue234}
end Go.Proofs.YtkdhdlfonmgheaaGreat
namespace Go.Proofs.YtkdhdlfonmgheaaGreat
open Go aX Go.Proofs.Tryz
theorem Fe{w:J}{b n:Nat}{c:Array aa}{T:TypeId}{os:Array Obj}{zs:O Int}(h:bh w b c T)(g:zs.length<=c.size):
 ∃c':Array aa,bh (Go.Sort.grow (Go.Sort.putRow (Value.int .i64) (Go.Sort.ahead w n) b 0 zs.toArray) os) b c' T/\c'.size=c.size/\c'.toList.take zs.length=zs.map encZ/\ae (λq=>q=b) w (Go.Sort.grow (Go.Sort.putRow (Value.int .i64) (Go.Sort.ahead w n) b 0 zs.toArray) os):=by
 have aJ:=h.lt;have d:∀k,k<w.heap.size->(Go.Sort.grow (Go.Sort.putRow (Value.int .i64) (Go.Sort.ahead w n) b 0 zs.toArray) os).heap[k]? =(w.heap.modify b (Go.Sort.onCells (Go.Sort.putCells (Value.int .i64) 0 zs.toArray)))[k]? :=λk a=>by
  show((w.heap.modify b _)++os)[k]? =_;rw[Array.getElem?_append_left (by simpa using a)]
 refine⟨Go.Sort.putCells (Value.int .i64) 0 zs.toArray c,?_,by simp[Go.Sort.putCells],?_,rfl,rfl,rfl,?_,λk a f=>?_⟩
 .unfold bh at h⊢
  rw[d b aJ,qx,if_pos rfl,h];rfl
 .apply List.ext_getElem?
  intro i;rw[qB];split
  .rename_i hi
   rw[Array.getElem?_toList,Go.Sort.putCells,Array.getElem?_mapIdx,Array.getElem?_eq_getElem I,kr,if_pos ⟨cI _,by simpa using hi⟩,j3,dD hi];simp[hi]
  .rename_i hi
   rw[kz (by simpa using hi)]
 .show w.heap.size<=((w.heap.modify b _)++os).size
  simp
 .rw[d k a,qx,if_neg (λe=>f e.symm)]
theorem wD(ds:O Nat):dr ds=(ds.map λd=>((d:Nat):Int)).map encZ:=by simp[dr]
theorem Al{w:J}{s:Y}{zs:O Int}(h:aZ 1 3 w s (zs.map encZ))(hl:zs.length<=1000000):
 aH ai 153 #[s] w (λv w'=>v=.tuple #[]/\ae (aB s) w w'/\∃ys:O Int,aZ 1 3 w' s (ys.map encZ)/\ys.Perm zs/\ys.Pairwise λa b=>a<=b):=by
 have G:s.len=zs.length:=by have:=h.1;rw[dE]at this;omega
 rcases l3 zs.length with h0|h0
 .have hd:zs=[]:=l2.1 h0
  have e:s.len=0:=by omega
  rw[e];refine Calls.mono (AnyM.slices_Sort_int_none tX s.a s.cap w) ?_;rintro _ _ ⟨rfl,rfl⟩;exact⟨_,rfl,rfl,.refl _ _,[],by rw[hd]at h;exact h,by rw[hd],List.Pairwise.nil⟩
 obtain⟨h1,k,u,z⟩:=h;rcases z with ⟨_,f⟩|⟨b,c,g,d,A,B⟩
 .omega
 have C:Go.Sort.Holds (Value.int .i64) w b 0 zs.toArray:=λj D=>by
  have m:j<zs.length:=by simpa using D
  refine⟨?_,bh.frozen d _ rfl⟩;rw[d.cell,cH];have e:=congrArg (λl=>l[j]?) B;simp only[qB,j3,dD m,kr]at e;rw[if_pos I,Array.getElem?_toList]at e;rw[e];simp[m]
 have E:=AnyM.slices_Sort_int tX b 0 s.cap zs w C d.lt I;rw[g];have e:s.len=zs.length:=by omega
 rw[e];refine Calls.mono E ?_;rintro _ w' ⟨rfl,n,os,rfl⟩;obtain⟨c',av,o,p,r⟩:=Fe (n:=n) (os:=os) (zs:=zs.mergeSort λx y=>decide (x<=y)) d (by rw[List.length_mergeSort];omega);have i:=List.mergeSort_perm zs λx y=>decide (x<=y);have t:(zs.mergeSort λx y=>decide (x<=y)).Pairwise λa b=>decide (a<=b)=true:=List.pairwise_mergeSort (λa b c h1 k=>by simp only[cO]at*;omega) (λa b=>by simp only[hW,cO];omega) zs;generalize (zs.mergeSort λx y=>decide (x<=y))=ys at av o p r i t;refine⟨_,rfl,rfl,r.mono λq _ e=>⟨b,g,e.symm⟩,ys,?_,i,t.imp λh=>cf h⟩;have F:=i.length_eq;have f:=aZ.mk' (sz:=1) (n:=s.len) (cap:=s.cap) av (vs:=ys.map encZ) (by rw[dE];omega) k u (by rw[o];exact A) (by rw[fu,e,←F];exact p);rw[←g]at f;exact f
theorem Am{w:J}{s:Y}{ds:O Nat}(h:aZ 1 3 w s (dr ds))(hl:ds.length<=1000000):
 aH ai 153 #[.slice s.a s.len s.cap] w (λv w'=>v=.tuple #[]/\ae (aB s) w w'/\∃es:O Nat,aZ 1 3 w' s (dr es)/\es.Perm ds/\es.Pairwise λa b=>a<=b):=by
 rw[wD]at h;refine(Al h (by rw[dE];exact hl)).mono ?_;rintro v w' ⟨rfl,hc,ys,g,e,i⟩;have f:∀y∈ys,0<=y:=λy c=>by
  obtain⟨d,_,rfl⟩:=dZ.1 (e.mem_iff.1 c);omega
 have j:(ys.map Int.toNat).map (λd=>((d:Nat):Int))=ys:=by
  rw[gK]
  conv=>rhs;rw[←List.map_id ys]
  refine qG λy c=>?_;have:=f y c;show((y.toNat:Nat):Int)=y;omega
 refine⟨rfl,hc,ys.map Int.toNat,by rw[wD,j];exact g,?_,?_⟩
 .have:=e.map Int.toNat
  rw[gK]at this;have k:(Int.toNat∘ λd:Nat=>((d:Nat):Int))=id:=by funext d;simp
  rw[k,List.map_id]at this;exact this
 .rw[List.pairwise_map]
  exact i.imp_of_mem λl m n=>by
   have:=f _ l;omega
theorem Ff{B:Nat->Prop}{w:J}{s:Y}{ds:O Nat}(h:cq B w s ds)(no:Nat)(hl:ds.length<=1000000):
 aH ai 184 #[s,no] w (λv w'=>∃n:Int,v=n/\(0<=n↔no∈ds)/\w=w'):=by
 have k:=h.len;refine okF (af.rQ s (no:Nat)) ay.rQ func184 ?_;(delta af.rQ al aI r1 au;dsimp only);refine⟨λn w'=>∃i:Nat,n=(i:Int)/\i<=ds.length/\no∉ds.take i/\w=w',λn _=>((ds.length:Int)-n).toNat,⟨0,rfl,cI _,by simp,rfl⟩,?_⟩;rintro _ _ ⟨i,rfl,hi,d,rfl⟩;refine⟨λaJ=>?_,λf=>?_⟩
 .have b:i<ds.length:=by
   have:(i:Int)<(s.len:Int):=cf aJ;omega
  obtain⟨A,ar,g,hc⟩:=cq.at h b;refine⟨A,ar,g,_,hc,λhe=>?_,λc=>?_⟩
  .have he:no=ds[i]:=by
    have:(no:Int)=((ds[i]:Nat):Int):=by simpa using he
    omega
   exact⟨_,rfl,⟨λ_=>by rw[he];exact cm _,λ_=>I⟩,rfl⟩
  .have c:no≠ds[i]:=λe=>by rw[e]at c;simp at c
   have j:IntKind.wrap .i64 ((i:Int)+1)=((i+1:Nat):Int):=by rw[bB I I];omega
   rw[j];refine⟨⟨i+1,rfl,I,?_,rfl⟩,by show((ds.length:Int)-((i+1:Nat):Int)).toNat<((ds.length:Int)-(i:Int)).toNat;omega⟩;rw[iL b];intro a;rcases cG.1 a with a|a
   .exact d a
   .exact c (eX.1 a)
 .have b:i=ds.length:=by
   have:¬(i:Int)<(s.len:Int):=cx f;omega
  rw[b,il]at d;exact⟨-1,rfl,⟨λh=>I,λh=>absurd h d⟩,rfl⟩
theorem Fg{B:Nat->Prop}{w:J}{s:Y}{ds:O Nat}(h:cq B w s ds)(no:Nat)(hl:ds.length<=1000000):
 aH ai 118 #[s,no] w (λv w'=>v=.bool (decide (no∈ds))/\w=w'):=by
 refine okF (af.rM s (no:Nat)) ay.rM func118 ?_;(delta af.rM aA;dsimp only);refine(Ff h no hl).use ?_;rintro _ _ ⟨n,rfl,a,rfl⟩;refine⟨n,rfl,?_,rfl⟩
 congr 1
 exact decide_eq_decide.2 a
def gY(B:Nat->Prop)(w:J)(t:Y):an Key->Prop
 |none=>t.a=none
 |some k=>k≠ []/\bg B w t k
theorem gY.ad{B W:Nat->Prop}{w w':J}{t:Y}{o:an Key}(h:gY B w t o)(hc:ae W w w')(b:∀q,B q->q<w.heap.size->¬W q):gY B w' t o:=by
 cases o with
 |none=>exact h
 |some k=>exact⟨h.1,bg.hO h.2 hc λq a=>b q (h.2.2.2 q a).1 (h.2.2.2 q a).2⟩
theorem gY.aU{B C:Nat->Prop}{w:J}{t:Y}{o:an Key}(h:gY B w t o)(a:∀q,q<w.heap.size->B q->C q):gY C w t o:=by
 cases o with
 |none=>exact h
 |some k=>exact⟨h.1,bg.aU h.2 a⟩
theorem gY.nil{B:Nat->Prop}{w:J}{t:Y}{o:an Key}(h:gY B w t o):(!(Option.isNone t.a))=o.isSome:=by
 cases o with
 |none=>rw[show t.a=none from h];rfl
 |some k=>
  obtain⟨A,ar⟩:=bg.some h.2 h.1;rw[ar];rfl
theorem om{B C D:Nat->Prop}{w:J}{n:az}{K V m km kn:Y}{lo hi:an Key}(E:bp B w n K V m)(hl:n.keys.length<=100000)(M:gY C w km lo)(N:gY D w kn hi):
 aH ai 254 #[cM n K V m,km,kn] w (λv w'=>∃b:ag,v=b/\(b=true↔n.within lo hi)/\Ext w w'):=by
 have T:=ba.len E.keys;refine okF (af.om n.leaf K V m km kn) ay.om func254 ?_;(delta af.om ak U al aI aA au;dsimp only);refine bk (vs:=dL n K V m) rfl λw1 O g X=>?_;obtain⟨bS,aA,aT,aG⟩:=bC O;have P:=E.ext g;have p:=M.ad (W:=λ_=>False) g λ_ _ _ h=>h;have s:=N.ad (W:=λ_=>False) g λ_ _ _ h=>h;refine⟨K,aA,λi w'=>∃t:Nat,i=(t:Int)/\t<=n.keys.length/\(∀k∈n.keys.take t,eV lo hi k)/\w1=w',λi _=>((n.keys.length:Int)-i).toNat,⟨0,rfl,cI _,by simp,rfl⟩,?_⟩;rintro _ _ ⟨i,rfl,Z,u,rfl⟩;refine⟨λaJ=>?_,λQ=>?_⟩
 rotate_left
 .have o:i=n.keys.length:=by
   have:¬(i:Int)<(K.len:Int):=cx Q;omega
  rw[o,il]at u;exact⟨true,rfl,⟨λ_=>u,λ_=>rfl⟩,g⟩
 have o:i<n.keys.length:=by
  have:(i:Int)<(K.len:Int):=cf aJ;omega
 obtain⟨A,tk,ar,j,hc,x,_⟩:=ba.at P.keys o;obtain⟨key,y⟩:∃key,key=n.keys[i]:=⟨_,rfl⟩;rw[←y]at x;refine⟨A,ar,j,tk,hc,cl (λb w'=>(b=true↔¬∀a,lo=some a->fQ a key)/\w1=w') (λq l=>⟨λc=>?_,λc=>?_⟩) ?_⟩
 .rw[p.nil]at c
  cases lo with
  |none=>cases c
  |some a=>
   refine(kc x.1 p.2.1).use ?_;rintro _ _ ⟨rfl,rfl⟩;refine⟨_,rfl,l _ _ ⟨?_,rfl⟩⟩;rw[cO];constructor
   .exact λh d=>d a rfl h
   .exact λh=>o3 λd=>h λb j=>by cases j;exact d
 .rw[p.nil]at c
  cases lo with
  |none=>exact l _ _ ⟨⟨λh=>(by cases h),λh=>absurd (λa e=>(by cases e)) h⟩,rfl⟩
  |some a=>cases c
 rintro aa _ ⟨F,rfl⟩;refine cl (λb w'=>(b=true↔¬eV lo hi key)/\w1=w') (λq l=>⟨λc=>l _ _ ⟨⟨λ_ h=>(F.1 c) h.1,λ_=>rfl⟩,rfl⟩,λc=>?_⟩) ?_
 .have R:∀a,lo=some a->fQ a key:=Classical.byContradiction λd=>by rw[F.2 d]at c;cases c
  refine cl (λb w'=>(b=true↔¬∀a,hi=some a->bU key a)/\w1=w') (λr G=>⟨λd=>?_,λd=>?_⟩) ?_
  .rw[s.nil]at d
   cases hi with
   |none=>cases d
   |some a=>
    refine(kc x.1 s.2.1).use ?_;rintro _ _ ⟨rfl,rfl⟩;refine⟨_,rfl,G _ _ ⟨?_,rfl⟩⟩;rw[cO];constructor
    .exact λh d=>by
      have:eF key a<0:=d a rfl;omega
    .exact λh=>o3 λd=>h λb j=>by cases j;show eF key a<0;omega
  .rw[s.nil]at d
   cases hi with
   |none=>exact G _ _ ⟨⟨λh=>(by cases h),λh=>absurd (λa e=>(by cases e)) h⟩,rfl⟩
   |some a=>cases d
  .rintro ab _ ⟨H,rfl⟩
   exact l _ _ ⟨⟨λh z=>H.1 h z.2,λh=>H.2 λz=>h ⟨R,z⟩⟩,rfl⟩
 .rintro ac _ ⟨L,rfl⟩
  have S:IntKind.wrap .i64 ((i:Int)+1)=((i+1:Nat):Int):=by rw[bB I I];omega
  refine⟨λc=>⟨false,rfl,⟨λh=>(by cases h),λh=>absurd (h key (by rw[y];exact cm _)) (L.1 c)⟩,g⟩,λc=>?_⟩;rw[S];refine⟨⟨i+1,rfl,I,λk f=>?_,rfl⟩,by show((n.keys.length:Int)-((i+1:Nat):Int)).toNat<((n.keys.length:Int)-(i:Int)).toNat;omega⟩;rw[iL o]at f;rcases cG.1 f with f|f
  .exact u k f
  .rw[eX.1 f,←y]
   exact Classical.byContradiction λh=>by rw[L.2 h]at c;cases c
theorem dB.each{W:Below}{lo hi:an Key}{ks:O Key}{kids p:O Nat}{L:O aQ}(h:dB W lo hi ks kids p L):
 ∃ (ps:O (O Nat)) (a:O (O aQ)),ps.length=kids.length/\a.length=kids.length/\p=ps.flatten/\L=a.flatten/\
  ∀ (i:Nat) (h1:i<kids.length) (b:i<ps.length) (c:i<a.length),W (if i=0 then lo else ks[i-1]?) (if i<ks.length then ks[i]? else hi) kids[i] ps[i] a[i]:=by
 induction h with
 | @one lo hi k p L h=>
  refine⟨[p],[L],rfl,rfl,by simp,by simp,λi h1 b c=>?_⟩;have:i=0:=by simpa using h1
  subst this;exact h
 | @cons lo hi s k bo bj bl bJ ks kids h t d=>
  obtain⟨ps,a,av,e,rfl,rfl,f⟩:=d;have g:=t.len;refine⟨bo::ps,bl::a,by simp[av],by simp[e],by simp,by simp,λi h1 b c=>?_⟩
  cases i with
  |zero=>simpa using h
  |succ i=>
   have:=f i (by simpa using h1) (by simpa using b) (by simpa using c);simp only[List.getElem_cons_succ,fD,Nat.add_lt_add_iff_right,ud,Nat.add_one_ne_zero,if_false,Nat.add_sub_cancel]
   cases i with
   |zero=>simpa using this
   |succ i=>simpa using this
structure gI(w:J)(T:aK)(di:Nat)(s:Y)(ps:O Nat)(k:Nat):Prop where
 t:bK w T
 v:Var w di [.pointer (some T.a6),s,k] 303
 own:aZ 1 3 w s (dr ps)
 oK:T.G di
 gs:∀q,aB s q->T.G q/\q≠di
section
variable {w w':J}{T aq:aK}{di k:Nat}{s:Y}{ps:O Nat}
theorem gI.of{W:Nat->Prop}(h:gI w T di s ps k)(d:bK w' aq)(e:aq.a6=T.a6)(b:∀q,T.G q->aq.G q)(c:ae W w w')(cd:∀q,T.G q->¬W q):gI w' aq di s ps k:=
 ⟨d,by rw[e];exact h.v.ad c (cd _ h.oK),h.own.ad c λq a=>cd q (h.gs q a).1,b _ h.oK,λq a=>⟨b q (h.gs q a).1,(h.gs q a).2⟩⟩
theorem gI.ext(h:gI w T di s ps k)(hx:Ext w w'):gI w' T di s ps k:=h.of (h.t.ext hx) rfl (λ_ h=>h) hx λ_ _ h=>h
theorem gI.cells(h:gI w T di s ps k):w.cell? di=some (.pointer (some T.a6))/\w.cell? (Addr.add di 1)=some (.slice s.a s.len s.cap)/\w.cell? (Addr.add di 2)=some (.int .i64 (k:Nat)):=by
 rw[ax,ax];exact⟨h.v.cell,h.v.cell,h.v.cell⟩
theorem Fh(h:gI w T di s ps k)(no:Nat)(hl:ps.length<=100000):
 ∃ (b:Y) (ah:J),Sem.run ai (Builtin.append_ #[58,58] 58 #[s,.slice (some w.heap.size) 1 1]) (w.alloc (.cells #[no] 3))=.ok b ah/\
  (∃u:aa,ah.cell? ⟨di,1,none⟩=some u)/\ah.frozen? ⟨di,1,none⟩=false/\
  ∀c,c=ah.setCell ⟨di,1,none⟩ b->gI c (T.cc T.E λq=>T.G q\/aB b q) di b (ps++ [no]) k/\dS T (T.cc T.E λq=>T.G q\/aB b q) w c 0:=by
 obtain⟨b,ah,av,j,d,f,x⟩:=wj no h.own I;have cd:∀q,aB s q->T.G q:=λq a=>(h.gs q a).1;have y:=d.size;have l:=h.v.ad d λa=>(h.gs _ a).2 rfl;obtain⟨bR,b3⟩:=dR l (i:=1) (by simp);refine⟨b,ah,av,bR,b3,?_⟩;rintro _ rfl;have g:=dx ah di 1 b;have p:=dX l (i:=1) b;have m:ae T.G w (ah.setCell ⟨di,1,none⟩ b):=ck (d.mono λq _ a=>cd q a) g λq _ e=>by rw[e];exact h.oK
 have n:∀q,aB b q->T.G q\/(w.heap.size<=q/\q<(ah.setCell ⟨di,1,none⟩ b).heap.size):=λq a=>by
  rcases f q a with h1|h1
  .exact .inl (cd q h1)
  .exact .inr ⟨h1,by have:=aZ.lt j q a;have:=g.size;omega⟩
 have o:∀q,aB b q->q≠di:=λq a e=>by
  rcases f q a with h1|h1
  .exact(h.gs q h1).2 e
  .have:=h.v.lt;omega
 have r:=h.t.grow (E:=T.E) (G:=λq=>T.G q\/aB b q) m (λq a _=>.inr a) (λq a=>.inl a) (λq a=>by
  rcases a with a|a
  .exact .inr (.inl a)
  .exact .inr (n q a)) λq a hg=>by
  rcases hg with hg|hg
  .exact(h.t.c2 q a).2.2 hg
  .rcases f q hg with h1|h1
   .exact(h.t.c2 q a).2.2 (cd q h1)
   .have:=h.t.lt (q:=q) (.inr (.inr (.inr (.inl a))));omega
 refine⟨⟨r,p,j.ad g λq a e=>o q a e,.inl h.oK,λq a=>⟨.inr a,o q a⟩⟩,?_,rfl,λ_ h=>.inl h,rfl,rfl,rfl,rfl,λ_=>rfl⟩;exact(bO.refl T w).step m (λq a _=>.inr (.inr (.inr a))) (λq a=>.inl a) λq a=>by
  rcases a with a|a
  .exact .inl a
  .exact(n q a).imp id λe=>e.1
theorem Fi(h:gI w T di s ps k)(m:Nat):(∃u:aa,w.cell? (Addr.add di 2)=some u)/\w.frozen? (Addr.add di 2)=false/\
 gI (w.setCell (Addr.add di 2) m) T di s ps m/\dS T T w (w.setCell (Addr.add di 2) m) 0:=by
 rw[ax];obtain⟨bR,b3⟩:=dR h.v (i:=2) (by simp);have b:=dx w di 2 m;have hc:ae T.G w (w.setCell ⟨di,2,none⟩ m):=b.mono λq _ e=>by rw[e];exact h.oK
 refine⟨bR,b3,⟨?_,dX h.v (i:=2) _,h.own.ad b λq a e=>(h.gs q a).2 e,h.oK,h.gs⟩,?_,rfl,λ_ h=>h,rfl,rfl,rfl,rfl,λ_=>rfl⟩
 .exact h.t.grow (E:=T.E) (G:=T.G) hc (λq a _=>.inr a) (λq a=>.inl a) (λq a=>.inr (.inl a)) λq a=>(h.t.c2 q a).2.2
 .exact(bO.refl T w).step (E:=T.E) (G:=T.G) hc (λq a _=>.inr (.inr (.inr a))) (λq a=>.inl a) λq a=>.inl a
end
theorem bO.aI{T aq:aK}{w w':J}{k:Nat}{t:Y}{o:an Key}(h:bO T aq w w' k)(a:gY (λq=>¬T.M q) w t o):gY (λq=>¬aq.M q) w' t o:=by
 have h1:gY (λq=>q<w.heap.size/\¬T.M q) w t o:=a.aU λq b a=>⟨b,a⟩;exact(h1.ad h.ad λq b _ c=>b.2 (aK.gu c)).aU λq _ a=>(h.out a.1 a.2).1
theorem dS.bad{T aq:aK}{w w':J}{k x:Nat}(h:dS T aq w w' k)(a:iZ aq x):iZ T x:=by
 obtain⟨h1,e,b⟩:=a;exact⟨by rw[←h.to.n];exact h1,e,by rw[←h.view];exact b⟩
theorem dS.Fj{T aq:aK}{w w':J}{k x:Nat}(h:dS T aq w w' k)(a:iZ T x):iZ aq x:=by
 obtain⟨h1,e,b⟩:=a;exact⟨by rw[h.to.n];exact h1,e,by rw[h.view];exact b⟩
theorem ek.An{P:Nat->an az}{h:Nat}{lo hi:an Key}{no:Nat}{p:O Nat}{L:O aQ}(e:ek P (h+1) lo hi no p L):∃ (n:az) (b:O Nat),P no=some n/\n.leaf=decide (h=0)/\cp n/\p=no::b/\n.within lo hi/\
 ((h=0/\gT n/\b=[]/\L.length=n.keys.length)\/(vg n/\∃ (ps:O (O Nat)) (c:O (O aQ)),ps.length=n.kids.length/\c.length=n.kids.length/\b=ps.flatten/\L=c.flatten/\
   ∀ (i:Nat) (h1:i<n.kids.length) (a:i<ps.length) (d:i<c.length),ek P h (if i=0 then lo else n.keys[i-1]?) (if i<n.keys.length then n.keys[i]? else hi) n.kids[i] ps[i] c[i])):=by
 match h,e with
 |0,⟨n,h1,a,d,j,f,g⟩=>
  refine⟨n,[],h1,a.leaf,.inl a,f,d,.inl ⟨rfl,a,rfl,?_⟩⟩;rw[g];unfold az.fi;rw[nt,a.len,Nat.min_self]
 |h+1,⟨n,b,h1,a,d,j,f⟩=>
  have g:=f.mono (V:=λlo hi k p L=>ek P (h+1) lo hi k p L) λ_ _ _ _ _ _ e=>e.1;exact⟨n,b,h1,by rw[a.inner];simp,.inr a,j,d,.inr ⟨a,g.each⟩⟩
def Fk(T:aK)(di:Nat)(ps:O Nat)(keys:Nat)(fk:Nat->an az)(p:O Nat)(b:Nat)(w:J)(v:aa)(w':J):Prop:=
 ∃aq:aK,dS T aq w w' (2*p.length)/\
  ((v=.int .i64 0/\(∃a,gI w' aq di a (ps++p) (keys+b))/\∀x∈p,T.P x=fk x)\/
   (∃e:Int,v=e/\e≠0/\(∃ (a:Y) (c:O Nat) (d:Nat),gI w' aq di a c d)/\((e=3/\¬T.C.D.calm (2*p.length))\/∃x∈p,iZ T x)))
theorem qm{α:Type}{l:O (O α)}{i:Nat}(h:i<l.length):(l.take (i+1)).flatten=(l.take i).flatten++l[i]:=by
 rw[iL h,qH];simp
theorem wE{α:Type}{l:O (O α)}{i:Nat}(h:i<l.length):l.flatten=(l.take i).flatten++(l[i]++(l.drop (i+1)).flatten):=by
 conv=>lhs;rw[←gJ i l,k_ h]
 rw[qH,List.flatten_cons]
theorem Ao{α:Type}{l:O (O α)}{i:Nat}(h:i<l.length):(l.take i).flatten.length+l[i].length<=l.flatten.length:=by
 have:=congrArg List.length (wE h);rw[cE,cE]at this;omega
theorem Fl(h:Nat):∀ {w:J}{T:aK}{di keys:Nat}{s km kn:Y}{ps p:O Nat}{fk:Nat->an az}{L:O aQ}{lo hi:an Key}{no:Nat},gI w T di s ps keys->h<=12->ek fk h lo hi no p L->(∀x∈p,T.f x=true/\x<T.n)->(∀x∈p,∀bf,fk x=some bf->T.P x=some bf\/iZ T x)->(ps++p).Nodup->
   gY (λq=>¬T.M q) w km lo->gY (λq=>¬T.M q) w kn hi->ps.length+p.length<=10000->keys+L.length<=100000->T.C.D.aO+2*p.length<=999999999->
   aH ai 211 #[.pointer (some di),no,h,km,kn] w (Fk T di ps keys fk p L.length w):=by
 induction h with
 |zero=>intro w T di keys s km kn ps p fk L lo hi no _ _ aj;exact aj.elim
 |succ h bl=>
   intro w T di keys s km kn ps p fk L lo hi no am cz aj aZ a0 cS a1 a2 bm cA bn
   obtain⟨n,cB,ao,bo,bq,rfl,bs,bt⟩:=aj.An
   have a3:=am.t
   have bv:=a0 no (by simp) n ao
   have bx:=aZ no (by simp)
   simp only[fD]at bm bn
   refine okF (af.sU (some di) (no:Nat) ((h+1:Nat):Int) km kn) ay.sU func211 ?_
   (delta af.sU jJ cg U al ak aG a7 st r1 au aI aA;dsimp only)
   rw[zP bo]
   refine⟨_,rfl,_,am.cells.1,(E_ a3 I bv).use ?_⟩
   rintro _ W ⟨aC,X,a4,bz,ap⟩
   have a5:gI W (T.bw aC T.P) di s ps keys:=am.of a4 rfl (λ_ h=>h) bz λq g bA=>bA.2 g
   rcases ap with ⟨K,V,D,rfl,aq,bD⟩|⟨e,rfl,F,aw⟩
   rotate_left
   · refine⟨_,bu,bu,bu,e,rfl,bk (vs:=[false,(),(),()]) rfl λbE H aD bF=>⟨H.b5 rfl (fp (b:=jS.leaf) (K:=bu) (V:=bu) (D:=bu)),rfl,cn H (us:=dL jS bu bu bu) rfl rfl λbG cC bH cD=>⟨λ_=>?_,λhx=>(by simp at hx;exact absurd hx F)⟩⟩⟩
     have a8:Ext W bG:=Ext.cv aD bH (br _)
     refine⟨_,(X.trans (dS.ext _ a8)).mono (by simp only[fD];omega),.inr ⟨e,rfl,F,⟨s,ps,keys,a5.ext a8⟩,?_⟩⟩
     rcases aw with ⟨rfl,bI⟩|bJ
     · exact .inl ⟨rfl,λhc=>bI (fT hc (by simp only[fD];omega))⟩
     · exact .inr ⟨no,by simp,bJ⟩
   have cF:=cp.g9 bq (by have:=a3.qk _ _ aq;omega)
   refine⟨_,K,V,D,0,rfl,bk (vs:=[false,(),(),()]) rfl λbE H aD bF=>⟨H.b5 rfl fp,rfl,cn H (us:=dL n K V D) rfl rfl λZ aa bK cJ=>⟨λhx=>(by cases hx),λ_=>?_⟩⟩⟩
   have v:Ext W Z:=Ext.cv aD bK (br _)
   obtain⟨nb,bL⟩:∃nb,nb=W.heap.size:=⟨_,rfl⟩
   rw[←bL]at aa⊢
   have a9:¬(T.bw aC T.P).M nb:=λo=>by have:=a4.lt o;omega
   have l:=a5.ext v
   have ac:bp (λq=>¬(T.bw aC T.P).M q) Z n K V D:=(bD.ext v).aU λq _ c=>c.2
   have cK:=v.size
   have bM:=ba.len ac.keys
   have cL:=cq.len ac.kids
   obtain⟨d0,d1,d2,d3⟩:=bC aa
   have bN:no∉ps:=λo=>by
     rw[nq]at cS
     exact cS.2.2 no o no (by simp) rfl
   refine⟨_,rfl,s,l.cells.2.1,(Fg (B:=λ_=>True) ⟨l.own.src,l.own.2.1,λq g=>⟨trivial,l.own.lt q g⟩⟩ no I).use ?_⟩
   rintro _ _ ⟨rfl,rfl⟩
   refine⟨_,rfl,cl (λb w'=>b=false/\Z=w') (λq g=>⟨λc=>absurd (cf c) bN,λ_=>⟨_,rfl,_,l.cells.1,_,rfl,_,l.t.cells.2.1,(Eh l.t.s (no:Nat)).use ?_⟩⟩) ?_⟩
   · rintro _ _ ⟨rfl,rfl⟩
     refine⟨_,rfl,g _ _ ⟨?_,rfl⟩⟩
     have a_:(T.bw aC T.P).f=T.f:=rfl
     have bb:(T.bw aC T.P).n=T.n:=rfl
     rw[a_,bb,du,bx.1]
     have:(0:Int)<=(no:Int)/\(no:Int)<(T.n:Int):=⟨I,I⟩
     simp[this.2]
   rintro _ _ ⟨rfl,rfl⟩
   have bP:=(X.to.trans (bO.ext _ v)).aI a1
   have bQ:=(X.to.trans (bO.ext _ v)).aI a2
   refine cl (λb w'=>b=false/\Ext Z w') (λq g=>⟨λc=>(by cases c),λ_=>⟨_,d0,K,d1,V,d2,D,d3,(om ac I bP bQ).use ?_⟩⟩) ?_
   · rintro _ cM ⟨b,rfl,c,bS⟩
     exact⟨b,rfl,g _ _ ⟨by rw[c.2 bs];rfl,bS⟩⟩
   rintro _ cN ⟨rfl,N⟩
   refine⟨λc=>(by cases c),λ_=>?_⟩
   have bc:=l.ext N
   obtain⟨Q,bd,av,bT,bU,bV⟩:=Fh bc no I
   refine⟨_,rfl,s,bc.cells.2.1,aY ⟨Q,bd,av,_,rfl,?_⟩⟩
   rw[ax,cH]
   refine⟨bT,bU,aY ?_⟩
   obtain⟨ae,r⟩:=bV _ rfl
   generalize cO:bd.setCell ⟨di,1,none⟩ Q=y at ae r⊢
   obtain⟨hJ,bW⟩:∃hJ,hJ=(T.bw aC T.P).cc (T.bw aC T.P).E λq=>(T.bw aC T.P).G q\/aB Q q:=⟨_,rfl⟩
   rw[←bW]at ae r
   have aE:dS T hJ w y 2:=((X.trans (dS.ext _ (v.trans N))).trans r).mono I
   have cP:=aa.lt
   have cQ:=N.size
   have aF:=(aa.ext N).ad r.to.ad λo=>a9 (aK.gu o)
   have bX:=r.to.out (q:=nb) I a9
   have bY:=r.to.jS (ac.ext N)
   have cT:=r.to.ad.size
   have cU:=aE.to.ad.size
   rcases bt with ⟨rfl,bZ,rfl,b0⟩|⟨aL,d,aM,a_,bb,rfl,rfl,b1⟩
   ·
     have hl:n.leaf=true:=bZ.leaf
     refine⟨λ_=>aY ?_,λhx=>(by rw[hl]at hx;cases hx)⟩
     have be:=ae.ext (cr y)
     have b2:=aF.ext (cr y)
     have b4:IntKind.wrap .i64 ((keys:Int)+(K.len:Int))=((keys+K.len:Nat):Int):=by rw[bB I I];omega
     obtain⟨bR,b3,b6,b7⟩:=Fi be (keys+K.len)
     refine⟨_,rfl,id,_,be.cells.2.2,id,K,(bC b2).2.1,_,rfl,bR,b3,?_⟩
     rw[b4]
     refine aY ⟨hJ,((aE.trans (dS.ext hJ (cr y))).trans b7).mono (by simp),.inl ⟨rfl,⟨Q,?_⟩,λx hx=>?_⟩⟩
     · rw[b0,←bM];exact b6
     · rw[eX.1 hx,aq,ao]
   · have hl:n.leaf=false:=aL.inner
     refine⟨λhx=>(by rw[hl]at hx;cases hx),λ_=>?_⟩
     have cV:=aL.len
     refine⟨D,(bC aF).2.2.2,λaN w'=>∃ (i:Nat) (ix:aK) (aP:Y),aN=(i:Int)/\i<=n.kids.length/\gI w' ix di aP (ps++no::(d.take i).flatten) (keys+(aM.take i).flatten.length)/\dS T ix w w' (2+2*(d.take i).flatten.length)/\dS hJ ix y w' (2*(d.take i).flatten.length)/\∀x∈(d.take i).flatten,T.P x=fk x,
       λaN _=>((n.kids.length:Int)-aN).toNat,⟨0,hJ,Q,rfl,cI _,by simpa using ae,by simpa using aE,by simpa using dS.refl hJ y,by simp⟩,?_⟩
     rintro _ z ⟨i,ix,aP,rfl,cW,ag,k,aR,aS⟩
     refine⟨λaJ=>?_,λb8=>?_⟩
     rotate_left
     · have aT:i=n.kids.length:=by
         have:¬(i:Int)<(D.len:Int):=cx b8
         omega
       rw[dT I]at ag k aS
       rw[dT I]at ag
       refine⟨ix,k.mono (by simp only[fD];omega),.inl ⟨rfl,⟨aP,ag⟩,λx hx=>?_⟩⟩
       rcases cR.1 hx with rfl|hx
       · rw[aq,ao]
       · exact aS x hx
     have aT:i<n.kids.length:=by
       have:(i:Int)<(D.len:Int):=cf aJ
       omega
     have m:i<d.length:=by omega
     have aV:i<aM.length:=by omega
     have bg:=aR.to.jS bY
     have aW:=aF.ad aR.to.ad λo=>bX.1 (aK.gu o)
     have b9:=k.to.aI a1
     have b_:=k.to.aI a2
     obtain⟨A,ar,ca,cb⟩:=cq.at bg.kids aT
     have cX:=Ao m
     have cY:=Ao aV
     have bh:∀ (j:Nat) (ah:j<n.keys.length),∃ (a:ab) (t:Y),K.a=some a/\((0:Int)<=(j:Int)/\(j:Int)<(K.len:Int))/\z.cell? (a.add (Int.toNat (j:Int)*1))=some (.slice t.a t.len t.cap)/\gY (λq=>¬ix.M q) z t n.keys[j]? :=λj ah=>by
       obtain⟨a,t,h1,u,R,S,_⟩:=ba.at bg.keys ah
       refine⟨a,t,h1,u,R,?_⟩
       rw[dD ah]
       refine⟨λe=>?_,S⟩
       have:=(aL.ok _ (cm ah)).1
       rw[e]at this;simp at this
     refine⟨A,ar,ca,_,cb,cl (λt w'=>gY (λq=>¬ix.M q) z t (if i=0 then lo else n.keys[i-1]?)/\z=w') (λq g=>⟨λc=>?_,λc=>?_⟩) ?_⟩
     · have c:0<i:=by
         have:(i:Int)>0:=cf c
         omega
       have cd:IntKind.wrap .i64 ((i:Int)-1)=((i-1:Nat):Int):=by rw[bB I I];omega
       obtain⟨a,t,h1,u,R,S⟩:=bh (i-1) I
       rw[cd]
       refine⟨K,(bC aW).2.1,a,h1,u,t,R,g _ _ ⟨?_,rfl⟩⟩
       rw[if_neg I];exact S
     · have c:i=0:=by
         have:¬(i:Int)>0:=cx c
         omega
       refine g _ _ ⟨?_,rfl⟩
       rw[if_pos c];exact b9
     rintro cZ _ ⟨ce,rfl⟩
     refine cl (λt w'=>gY (λq=>¬ix.M q) z t (if i<n.keys.length then n.keys[i]? else hi)/\z=w') (λq g=>⟨K,(bC aW).2.1,λc=>?_,λc=>?_⟩) ?_
     · have c:i<n.keys.length:=by
         have:(i:Int)<(K.len:Int):=cf c
         omega
       obtain⟨a,t,h1,u,R,S⟩:=bh i c
       refine⟨K,(bC aW).2.1,a,h1,u,t,R,g _ _ ⟨?_,rfl⟩⟩
       rw[if_pos c];exact S
     · have c:¬i<n.keys.length:=by
         have:¬(i:Int)<(K.len:Int):=cx c
         omega
       refine g _ _ ⟨?_,rfl⟩
       rw[if_neg c];exact b_
     rintro a6 _ ⟨ch,rfl⟩
     have ci:IntKind.wrap .i64 (((h+1:Nat):Int)-1)=(h:Int):=by rw[bB I I];omega
     have cj:IntKind.wrap .i64 ((i:Int)+1)=((i+1:Nat):Int):=by rw[bB I I];omega
     have ck:ix.n=T.n:=k.to.n
     have c0:=k.to.aO
     have aX:∀x∈d[i],x∈no::d.flatten:=λx hx=>by
       rw[wE m]
       exact jb _ (gL _ (im _ hx))
     have co:=bl (p:=d[i]) (fk:=fk) (L:=aM[i]) (no:=n.kids[i]) ag I (b1 i aT m aV) (λx hx=>by rw[k.f,ck];exact aZ x (aX x hx)) (λx hx bf h1=>by
       rw[k.P]
       exact(a0 x (aX x hx) bf h1).imp id k.Fj) (by
       rw[wE m]at cS
       have e:ps++no::((d.take i).flatten++(d[i]++(d.drop (i+1)).flatten))=((ps++no::(d.take i).flatten)++d[i])++(d.drop (i+1)).flatten:=by simp
       rw[e]at cS
       exact(nq.1 cS).1) ce ch (by simp only[cE,fD];omega) I I
     rw[ci,cj]
     refine co.use ?_
     rintro _ cs ⟨fP,bi,ap⟩
     have bj:dS T fP w cs (2+2*((d.take i).flatten.length+d[i].length)):=(k.trans bi).mono I
     rcases ap with ⟨rfl,⟨ct,cu⟩,cw⟩|⟨e,rfl,F,cy,aw⟩
     · refine⟨0,rfl,λhx=>(by cases hx),λ_=>⟨⟨i+1,fP,ct,rfl,I,?_,?_,?_,?_⟩,?_⟩⟩
       · rw[qm m,qm aV,cE,←Nat.add_assoc]
         have e:ps++no::((d.take i).flatten++d[i])=(ps++no::(d.take i).flatten)++d[i]:=by simp
         rw[e];exact cu
       · rw[qm m,cE];exact bj
       · rw[qm m,cE];exact(aR.trans bi).mono I
       · intro x hx
         rw[qm m]at hx
         rcases cG.1 hx with hx|hx
         · exact aS x hx
         · rw[←k.P];exact cw x hx
       · show((n.kids.length:Int)-((i+1:Nat):Int)).toNat<((n.kids.length:Int)-(i:Int)).toNat
         omega
     · refine⟨e,rfl,λ_=>⟨fP,bj.mono (by simp only[fD];omega),.inr ⟨e,rfl,F,cy,?_⟩⟩,λhx=>(by simp at hx;exact absurd hx F)⟩
       rcases aw with ⟨h1,u⟩|⟨x,hx,c⟩
       · exact .inl ⟨h1,λhc=>u (k.to.calm _ (fT hc (by simp only[fD];omega)))⟩
       · exact .inr ⟨x,aX x hx,k.bad c⟩
def Fm(T:aK)(fk:Nat->an az)(pages:O Nat)(c:Nat)(w:J)(v:aa)(w':J):Prop:=
 ∃aq:aK,bK w' aq/\dS T aq w w' (2*pages.length)/\aq.G=T.G/\
  ((∃ (s:Y) (es:O Nat),v=.tuple #[s,c,(0:Int)]/\aZ 1 3 w' s (dr es)/\es.Perm pages/\(es.Pairwise λa b=>a<=b)/\(∀q,aB s q->(T.N q\/w.heap.size<=q)/\¬aq.M q)/\(∀x∈pages,T.P x=fk x)/\bK w' (aq.cc T.E λq=>T.G q\/aB s q))\/
   (∃e:Int,v=.tuple #[(),(0:Int),e]/\e≠0/\((e=3/\¬T.C.D.calm (2*pages.length))\/∃x∈pages,iZ T x)))
theorem Fo{w:J}{T:aK}{fk:Nat->an az}{pages:O Nat}{L:O aQ}(h:bK w T)(ag:fL (T.bw T.C fk) pages L)(aC:∀x∈pages,T.f x=true/\x<T.n)(aE:∀x∈pages,∀bf,fk x=some bf->T.P x=some bf\/iZ T x)(cS:pages.Nodup)(a5:L.length<=9000)(a7:pages.length<=9000)(aF:T.C.D.aO+2*pages.length<=999999999):
 aH ai 152 #[.pointer (some T.a6)] w (Fm T fk pages L.length w):=by
 have aG:=h.num.2.1;refine okF (af.sK (some T.a6)) ay.sK func152 ?_;(delta af.sK al r1 aA U ak aT;dsimp only);refine⟨λh=>(by cases h),λ_=>bk (vs:=[.pointer (some T.a6),(),(0:Int)]) rfl λw1 S ah a8=>?_⟩;obtain⟨di,aI⟩:∃di,di=w.heap.size:=⟨_,rfl⟩;rw[←aI]at S⊢;obtain⟨bT,aj⟩:∃bT,bT=λq=>T.E q\/T.G q:=⟨_,rfl⟩;have B:∀q,T.E q\/T.G q->bT q:=λq a=>by rw[aj];exact a
 have V:∀q,bT q->T.E q\/T.G q:=λq a=>by rw[aj]at a;exact a
 have a9:=S.lt;have h1:bK w1 (T.cc bT λq=>q=di):=h.grow (W:=λ_=>False) ah (λ_ h=>h.elim) (λq a=>(V q a).imp id .inl) (λq e=>.inr (.inr ⟨I,I⟩)) λq a e=>by
  rcases V q a with u|u
  .have:=h.lt (q:=q) (.inr (.inr (.inr (.inl u))));omega
  .have:=h.lt (q:=q) (.inr (.inr (.inr (.inr u))));omega
 obtain⟨bH,k⟩:∃bH,bH=T.cc bT λq=>q=di:=⟨_,rfl⟩;rw[←k]at h1;have X:bH.a6=T.a6:=by rw[k];rfl
 have am:bH.E=bT:=by rw[k];rfl
 have M:bH.C=T.C:=by rw[k];rfl
 have Z:bH.P=T.P:=by rw[k];rfl
 have ao:gI w1 bH di ⟨none,0,0⟩ [] 0:=⟨h1,by rw[X];exact S,aZ.none _ _ _,by rw[k];rfl,λq a=>(gi q a).elim⟩;have i:bO T bH w w1 0:=by
  rw[k];exact(bO.refl T w).step (W:=λ_=>False) ah (λ_ h=>h.elim) (λq a=>(V q a).imp id .inl) λq e=>.inr I
 have fin:∀ (w':J) (aq:aK),bK w' aq->dS bH aq w1 w' (2*pages.length)->bK w' (aq.cc T.E T.G)/\dS T (aq.cc T.E T.G) w w' (2*pages.length):=λw' aq aJ b=>by
  have y:aq.E=bT:=b.E.trans am;refine⟨aJ.grow (E:=T.E) (G:=T.G) (W:=λ_=>False) (ae.refl _ _) (λ_ h=>h.elim) (λq a=>.inl (by rw[y];exact B q (.inl a))) (λq a=>.inl (by rw[y];exact B q (.inr a))) λq a=>(h.c2 q a).2.2,?_,rfl,λ_ h=>h,?_,?_,?_,?_,λj=>?_⟩
  .refine⟨b.to.a6.trans i.a6,b.to.sb.trans i.sb,b.to.n.trans i.n,b.to.g.trans i.g,b.to.s1.trans i.s1,b.to.s2.trans i.s2,b.to.c.trans i.c,b.to.d.trans i.d,b.to.a_.trans i.a_,b.to.gen.trans i.gen,by have:=b.to.aO;rw[M]at this;exact this,λm o=>b.to.calm m (by rw[M];exact o),?_,λq a=>?_,λq a=>?_⟩
   .exact(ck i.ad b.to.ad λq a aL=>by
     rcases i.fn q aL with u|u
     .exact u
     .omega)
   .rcases a with a|a|a|a|a
    .exact((i.trans b.to).cN q (.inl a))
    .exact((i.trans b.to).cN q (.inr (.inl a)))
    .exact((i.trans b.to).cN q (.inr (.inr (.inl a))))
    .exact .inl (.inr (.inr (.inr (.inl a))))
    .exact .inl (.inr (.inr (.inr (.inr a))))
   .rcases a with a|a|a|a
    .exact((i.trans b.to).fn q (.inl a))
    .exact((i.trans b.to).fn q (.inr (.inl a)))
    .exact((i.trans b.to).fn q (.inr (.inr (.inl a))))
    .exact .inl (.inr (.inr (.inr a)))
  .show aq.root=T.root;rw[b.root,k];rfl
  .show aq.aD=T.aD;rw[b.aD,k];rfl
  .show aq.f=T.f;rw[b.f,k];rfl
  .show aq.P=T.P;rw[b.P,Z]
  .show aq.C.view j=T.C.view j;rw[b.view,M]
 refine jm (λN=>∃ (aq:aK) (s:Y) (ps:O Nat),gI N aq di s ps L.length/\ps=pages/\dS bH aq w1 N (2*pages.length)/\∀x∈pages,T.P x=fk x) (λq a=>⟨_,rfl,_,by have:=h1.cells.2.2.2.2;rw[X]at this;exact this,λz=>aY ?_,λz=>?_⟩) ?_
 .have F:=ao.ext (cr w1)
  have ap:bH.aD=T.aD:=by rw[k];rfl
  have aM:bH.root=T.root:=by rw[k];rfl
  have z:T.aD≠0:=by
   rw[ap]at z;have:(T.aD:Int)>0:=cf z;omega
  have H:ek fk T.aD none none T.root pages L:=by
   rcases ag with ⟨aN,_⟩|H
   .exact absurd aN z
   .exact H
  have de:=F.t.cells.2.2.2.1;have aW:=F.t.cells.2.2.2.2;rw[X]at de aW;rw[ap]at aW;rw[aM]at de;have aP:=Fl T.aD (km:=bu) (kn:=bu) (fk:=fk) (L:=L) (p:=pages) (lo:=none) (hi:=none) (no:=T.root) F aG H (λx hx=>by rw[k];exact aC x hx) (λx hx bf u=>by
   rw[Z];refine(aE x hx bf u).imp id λK=>?_;rw[k];exact K) (by simpa using cS) rfl rfl (by simp only[j4];omega) I (by rw[M];exact aF)
  refine⟨_,rfl,id,_,de,_,rfl,id,_,aW,aP.use ?_⟩;rintro _ ar ⟨aq,aa,aR⟩;have au:dS bH aq w1 ar (2*pages.length):=((dS.ext bH (cr w1)).trans aa).mono I;rcases aR with ⟨rfl,⟨s,r⟩,ab⟩|⟨e,rfl,aw,⟨s,ba,bb,r⟩,aS⟩
  .refine⟨0,rfl,λhx=>(by cases hx),λ_=>a _ ⟨aq,s,pages,?_,rfl,au,λx hx=>by rw[←Z];exact ab x hx⟩⟩
   rw[j1,cH]at r;exact r
  .obtain⟨f1,f2⟩:=fin ar aq r.t au
   refine⟨e,rfl,λ_=>⟨_,f1,f2,rfl,.inr ⟨e,rfl,aw,?_⟩⟩,λhx=>(by simp at hx;exact absurd hx aw)⟩;rcases aS with ⟨u,K⟩|⟨x,hx,K⟩
   .exact .inl ⟨u,by rw[←M];exact K⟩
   .refine .inr ⟨x,hx,?_⟩
    rw[k]at K;exact K
 .have z:T.aD=0:=by
   have:¬(bH.aD:Int)>0:=cx z;rw[k]at this;have:¬(T.aD:Int)>0:=this;omega
  rcases ag with ⟨_,_,aU,hl⟩|H
  .subst aU hl
   exact a _ ⟨bH,⟨none,0,0⟩,[],ao,rfl,dS.refl _ _,λx hx=>(by cases hx)⟩
  .have e:(T.bw T.C fk).aD=T.aD:=rfl
   rw[e,z]at H;exact H.elim
 rintro N ⟨aq,s,ps,r,aV,aa,ab⟩;rw[aV]at r;refine⟨_,rfl,s,r.cells.2.1,(Am r.own I).use ?_⟩;rintro _ Q ⟨rfl,ac,es,aX,a0,a1⟩;have cd:∀q,aB s q->aq.G q:=λq a=>(r.gs q a).1;have a2:=r.v.ad ac λa=>(r.gs _ a).2 rfl;have A:bK Q aq:=by
  have:=r.t.grow (E:=aq.E) (G:=aq.G) ac (λq a _=>.inr (cd q a)) (λq a=>.inl a) (λq a=>.inr (.inl a)) λq a=>(r.t.c2 q a).2.2;exact this
 have a3:dS aq aq N Q 0:=⟨(bO.refl aq N).step (E:=aq.E) (G:=aq.G) ac (λq a _=>.inr (.inr (.inr (cd q a)))) (λq a=>.inl a) λq a=>.inl a,rfl,λ_ h=>h,rfl,rfl,rfl,rfl,λ_=>rfl⟩;have R:=cr Q;have b:=((aa.trans a3).trans (dS.ext aq R)).mono (l:=2*pages.length) I;obtain⟨f1,f2⟩:=fin Q.drew aq (A.ext R) b;have F:=a2.ext R;have y:aq.E=bT:=b.E.trans am;have a4:bK Q.drew (aq.cc T.E λq=>T.G q\/aB s q):=(A.ext R).grow (E:=T.E) (G:=λq=>T.G q\/aB s q) (W:=λ_=>False) (ae.refl _ _) (λ_ h=>h.elim) (λq a=>.inl (by rw[y];exact B q (.inl a))) (λq a=>a.elim (λa=>.inl (by rw[y];exact B q (.inr a))) λa=>.inr (.inl (cd q a))) λq a hg=>by
  rcases hg with hg|hg
  .exact(h.c2 q a).2.2 hg
  .exact(A.c2 q (by rw[y];exact B q (.inl a))).2.2 (cd q hg)
 refine⟨rfl,aY ⟨_,rfl,id,s,by rw[ax];exact F.cell,_,rfl,id,_,by rw[ax];exact F.cell,_,f1,f2,rfl,.inl ⟨s,es,rfl,aX.ext R,a0,a1,λq a=>⟨?_,λo=>?_⟩,ab,a4⟩⟩⟩
 .exact(i.trans b.to).fn q (.inr (.inr (.inr (cd q a))))
 .have av:=cd q a
  rcases o with o|o|o|o|o
  .exact A.tP av o
  .exact(A.hA q av).1 o
  .exact(A.hA q av).2 o
  .exact(A.c2 q (by rw[y];exact B q (.inl o))).2.2 av
  .exact(A.c2 q (by rw[y];exact B q (.inr o))).2.2 av
section
variable {B C W:Nat->Prop}{w w':J}{s:Y}{ps GG:O (Y×Y)}{L M:O aQ}
structure na(oL:O aa)(oM:TypeId)(B:Nat->Prop)(w:J)(ed:Nat)(s:Y)(L:O aQ):Prop where
 v:Var w ed (s::oL) oM
 p:lW B w s L
 nb:¬B ed
 ok:∀p∈L,p.1.length<=1000/\p.2.length<=1000
 g9:L.length<=10000
variable {oL:O aa}{oM:TypeId}{ed:Nat}{key val:Key}{tk fG:Y}
theorem na.ad(h:na oL oM B w ed s L)(hc:ae W w w')(a:¬W ed)(b:∀k,B k->k<w.heap.size->¬W k):na oL oM B w' ed s L:=⟨h.v.ad hc a,h.p.ad hc b,h.nb,h.ok,h.g9⟩
theorem na.aU(h:na oL oM B w ed s L)(a:∀k,k<w.heap.size->B k->C k)(b:¬C ed):na oL oM C w ed s L:=⟨h.v,h.p.aU a,b,h.ok,h.g9⟩
end
def oN(n:Nat)(root aD:Int):Prop:=0<=aD/\aD<=12/\0<=root/\root<n/\(root=0↔aD=0)
theorem mC{w:J}{C:bN}(hc:eM w C)(sb:Nat)(gen root aD:Int):
 aH ai 140 #[.pointer (some C.c),.pointer (some sb),.int .u64 gen,root,aD] w (λv w'=>
  (oN C.D.n root aD/\v=.tuple #[.pointer (some w.heap.size),(0:Int)]/\Ext w w'/\Var w' w.heap.size [.pointer (some C.c),.pointer (some sb),.int .u64 gen,root,aD] 239/\w'.heap.size=w.heap.size+1)\/
  (¬oN C.D.n root aD/\v=.tuple #[.pointer none,(1:Int)]/\w=w')):=by
 refine okF (af.mC (some C.c) (some sb) gen root aD) ay.mC func140 ?_;(delta af.mC al aA U;dsimp only);refine cl (λb w'=>(b=false↔(0<=aD/\aD<=12/\0<=root/\root<C.D.n))/\w=w') (λq i=>⟨λh1=>i _ _ ⟨?_,rfl⟩,λh1=>⟨_,rfl,_,hc.cells.1,(oD hc.dev).use ?_⟩⟩) ?_
 .simp only[Option.isNone_some,j0,hW,cO]at h1
  exact⟨λh=>(by cases h),λh=>I⟩
 .rintro _ _ ⟨rfl,rfl⟩
  simp only[Option.isNone_some,j0,nm,jZ]at h1;refine⟨_,rfl,i _ _ ⟨?_,rfl⟩⟩;rw[jZ];omega
 rintro b _ ⟨j,rfl⟩;refine⟨λh1=>.inr ⟨λhg=>?_,rfl,rfl⟩,λh1=>?_⟩
 .have a:=j.2 ⟨hg.1,hg.2.1,hg.2.2.1,hg.2.2.2.1⟩
  rw[a,j0]at h1;have f:=hg.2.2.2.2;by_cases d:root=0
  .rw[d,f.1 d]at h1;simp at h1
  .have g:aD≠0:=λe=>d (f.2 e)
   have k:(root==0)=false:=by simpa using d
   have l:(aD==0)=false:=by simpa using g
   rw[k,l]at h1
   cases h1
 .rw[nm]at h1
  have a:=j.1 h1.1;have f:root=0↔aD=0:=by
   have d:=h1.2;by_cases g:root=0<;>by_cases m:aD=0<;>simp[g,m]at d⊢
  refine bk (vs:=[.pointer (some C.c),.pointer (some sb),.int .u64 gen,root,aD]) rfl λp o hx hs=>.inl ⟨⟨a.1,a.2.1,a.2.2.1,a.2.2.2,f⟩,rfl,hx,o,hs⟩
theorem Fp{w:J}{s:Y}{l:O UInt8}(hs:Src 1 w s (aF l))(hc:s.len<=s.cap)(most:Nat)(j:most<=100000):aH ai 24 #[s,most] w (λv w'=>∃a:Y,v=a/\aZ 1 5 w' a (aF (l.take most))/\Ext w w'/\∀q,aB a q->w.heap.size<=q):=by
 have hlen:=len8 hs;refine okF (af.te s (most:Nat)) ay.te func24 ?_;delta af.te al U;refine cl (λs2 w'=>w=w'/\Src 1 w s2 (aF (l.take most))/\s2.len<=most) (λq b=>⟨λh=>?_,λh=>?_⟩) ?_
 .have h:most<l.length:=by have:=cf h;omega
  refine⟨⟨I,I⟩,b _ _ ⟨rfl,?_,by simp⟩⟩;have:=lN hs hc (lo:=0) (hi:=most) I I;simpa using this
 .have h:l.length<=most:=by have:=cx h;omega
  rw[dT h]at b;exact b _ _ ⟨rfl,hs,I⟩
 rintro s2 _ ⟨rfl,d,k⟩;obtain⟨c,e,av,f,m,g,i,_⟩:=p1.clone (dG:=48) d (kS _) I;exact aY ⟨c,e,av,c,rfl,f,g,i⟩
instance (n:Nat) (root aD:Int):Decidable (oN n root aD):=by unfold oN;infer_instance
structure lX where
 now:O aQ
 sure:O aQ
 ia:Y
 ss:Y
 jX:Nat
 clock:Nat
 first:Nat
 dc:Nat
 Fq:Nat
def lX.rest(m:lX):O aa:=[m.ss,m.jX,.int .u64 (m.clock:Nat),.int .u64 (m.first:Nat),.int .u64 (m.dc:Nat),.int .u64 (m.Fq:Nat)]
structure lY(B:Nat->Prop)(w:J)(ed:Nat)(m:lX):Prop where
 now:na m.rest 90 B w ed m.ia m.now
 sure:lW B w m.ss m.sure
 num:m.clock<18446744073709551616/\(m.jX≠0->m.first<=m.clock)
section
variable {B C W:Nat->Prop}{w w':J}{ed:Nat}{m:lX}
theorem lY.ad(h:lY B w ed m)(hc:ae W w w')(b:¬W ed)(a:∀k,B k->k<w.heap.size->¬W k):lY B w' ed m:=⟨h.now.ad hc b a,h.sure.ad hc a,h.num⟩
theorem lY.aU(h:lY B w ed m)(a:∀k,k<w.heap.size->B k->C k)(b:¬C ed):lY C w ed m:=⟨h.now.aU a b,h.sure.aU a,h.num⟩
end
structure cz where
 root:Nat
 aD:Nat
 map:Nat
 clock:Nat
 dc:Nat
 keys:Nat
 deriving DecidableEq
def fb:cz:=⟨0,0,0,0,0,0⟩
def cz.c(u:cz):O aa:=[u.root,u.aD,u.map,.int .u64 (u.clock:Nat),.int .u64 (u.dc:Nat),u.keys]
structure lZ(u:cz):Prop where
 root:u.root<4294967296
 aD:u.aD<256
 map:u.map<4294967296
 clock:u.clock<18446744073709551616
 dc:u.dc<18446744073709551616
 keys:u.keys<4294967296
def gm(u:cz)(n:Nat):O UInt8:=[]++bQ u.root 4++bQ u.aD 1++bQ u.map 4++bQ n 4++bQ u.clock 8++bQ u.dc 8++bQ u.keys 4
def nc(b:O UInt8):cz:=⟨cU b 0 4,cU b 4 1,cU b 5 4,cU b 13 8,cU b 21 8,cU b 29 4⟩
def i_(u:cz)(n:Nat):Prop:=(u.root=0↔u.aD=0)/\u.aD<=12/\u.root<n/\u.map<n/\2<=u.map/\n<=1600
instance GH(u:cz)(n:Nat):Decidable (i_ u n):=by unfold i_;infer_instance
def gf(no:Int)(l:O UInt8):Except Int (cz×Nat×Nat):=match dh no l with
 | .error e=>.error e
 | .ok p=>if p.kind≠3\/p.body.length≠33 then .error 4 else if i_ (nc p.body) (cU p.body 9 4) then .ok (nc p.body,cU p.body 9 4,p.gen) else .error 4
theorem Ap(u:cz)(n:Nat):(gm u n).length=33:=by simp[gm,ey]
theorem Fs{u:cz}{n:Nat}(h:lZ u)(c:n<4294967296):nc (gm u n)=u/\cU (gm u n) 9 4=n:=by
 have e:∀ {k x m:Nat} (a b:O UInt8),gm u n=a++(bQ x k++b)->a.length=m->x<256^k->cU (gm u n) m k=x:=λa b he d hx=>by rw[he];exact p4 d hx
 have f:=h.keys;refine⟨?_,e (bQ u.root 4++bQ u.aD 1++bQ u.map 4) (bQ u.clock 8++(bQ u.dc 8++bQ u.keys 4)) (by simp[gm]) (by simp[ey]) c⟩;unfold nc;rw[e (m:=0) [] (bQ u.aD 1++(bQ u.map 4++(bQ n 4++(bQ u.clock 8++(bQ u.dc 8++bQ u.keys 4))))) (by simp[gm]) rfl h.root,
  e (bQ u.root 4) (bQ u.map 4++(bQ n 4++(bQ u.clock 8++(bQ u.dc 8++bQ u.keys 4)))) (by simp[gm]) (by simp[ey]) h.aD,
  e (bQ u.root 4++bQ u.aD 1) (bQ n 4++(bQ u.clock 8++(bQ u.dc 8++bQ u.keys 4))) (by simp[gm]) (by simp[ey]) h.map,
  e (bQ u.root 4++bQ u.aD 1++bQ u.map 4++bQ n 4) (bQ u.dc 8++bQ u.keys 4) (by simp[gm]) (by simp[ey]) h.clock,
  e (bQ u.root 4++bQ u.aD 1++bQ u.map 4++bQ n 4++bQ u.clock 8) (bQ u.keys 4) (by simp[gm]) (by simp[ey]) h.dc,
  e (bQ u.root 4++bQ u.aD 1++bQ u.map 4++bQ n 4++bQ u.clock 8++bQ u.dc 8) [] (by simp[gm]) (by simp[ey]) f]
def hU(u:cz)(n gen:Nat):gV:=⟨3,gen,gm u n⟩
theorem wF{u:cz}{n gen:Nat}(hg:gen<18446744073709551616):lL (hU u n gen):=⟨(by decide:1<=3),(by decide:3<=4),hg,by show(gm u n).length<=232;rw[Ap];decide⟩
theorem Aq{u:cz}{n gen no:Nat}(h:lZ u)(hu:i_ u n)(hg:gen<18446744073709551616)(a:no<1600):gf no (dW no (hU u n gen))=.ok (u,n,gen):=by
 unfold gf;rw[tu a (wF hg)];have b:n<4294967296:=by have:=hu.2.2.2.2.2;omega
 obtain⟨h1,c⟩:=Fs h b;show(if (3:Nat)≠3\/(gm u n).length≠33 then _ else if i_ (nc (gm u n)) (cU (gm u n) 9 4) then Except.ok (nc (gm u n),cU (gm u n) 9 4,gen) else _)=_;rw[h1,c,if_neg (by rw[Ap];simp),if_pos hu]
section
variable {w w':J}{h:Nat}{vs:O aa}{u:cz}
theorem cz.plain(u:cz):∀v∈u.c,Plain v:=by
 intro v a;simp only[cz.c,cR,eR,eY]at a;rcases a with rfl|rfl|rfl|rfl|rfl|rfl<;>trivial
theorem fV(a:Var w h u.c 104){K:Int->Int->Int->Int->Int->Int->Prop}(e:K (u.root:Nat) (u.aD:Nat) (u.map:Nat) (u.clock:Nat) (u.dc:Nat) (u.keys:Nat)):
 ∃bG:Int,w.cell? h=some (.int .i64 bG)/\∃bc:Int,w.cell? (Addr.add h 1)=some (.int .i64 bc)/\∃b:Int,w.cell? (Addr.add h 2)=some (.int .i64 b)/\
  ∃d:Int,w.cell? (Addr.add h 3)=some (.int .u64 d)/\∃n5:Int,w.cell? (Addr.add h 4)=some (.int .u64 n5)/\∃n6:Int,w.cell? (Addr.add h 5)=some (.int .i64 n6)/\K bG bc b d n5 n6:=
 ⟨_,a.cell,_,by rw[ax];exact a.cell,_,by rw[ax];exact a.cell,_,by rw[ax];exact a.cell,_,by rw[ax];exact a.cell,_,by rw[ax];exact a.cell,e⟩
theorem ib(a:Var w h vs 104)(hl:vs.length=6)(u:cz){K:J->Prop}(b:∀ah,Var ah h u.c 104->ae (λq=>q=h) w ah->ah.heap.size=w.heap.size->K ah):
 bz w h [u.root,u.aD,u.map,.int .u64 (u.clock:Nat),.int .u64 (u.dc:Nat),u.keys]/\(6:Nat)=6/\
  ao (setCells w h 0 [u.root,u.aD,u.map,.int .u64 (u.clock:Nat),.int .u64 (u.dc:Nat),u.keys]) K:=
 ⟨a.b5 (by rw[hl];rfl) u.plain,rfl,cn a (us:=u.c) (by rw[hl];rfl) rfl λah d hc e=>b ah d hc e⟩
end
theorem nZ{w:J}{u:cz}(h:lZ u){n:Nat}(y:n<4294967296):aH ai 138 #[.agg u.c.toArray,n] w (λv w'=>∃s:Y,v=s/\aZ 1 5 w' s (aF (gm u n))/\Ext w w'/\gd w s):=by
 have h1:=h.root;have W:=h.aD;have z:=h.map;have X:=h.clock;have Z:=h.dc;have A:=h.keys;have a:∀ {x:Nat},x<4294967296->IntKind.wrap .u64 (x:Int)=(x:Int):=λ{x} hx=>gz I I;refine okF (af.nZ (u.root:Nat) (u.aD:Nat) (u.map:Nat) (u.clock:Nat) (u.dc:Nat) (u.keys:Nat) (n:Nat)) ay.nZ func138 ?_;(delta af.nZ r1 U aW bt;dsimp only);refine bk (vs:=u.c) rfl λw1 b B aa=>⟨_,b.cell,?_⟩;rw[a h1];refine(gR (s:=⟨none,0,0⟩) (l:=[]) (aZ.none 1 5 w1).src (cI _) (n:=u.root) I (by decide)).use ?_;rintro _ ah ⟨s2,rfl,C,d,ab⟩;have e:=b.ext d;refine⟨s2,rfl,_,by rw[ax];exact e.cell,?_⟩;rw[a (x:=u.aD) I];refine(gR C.src (by simp[ey]) (n:=u.aD) I (by decide)).use ?_;rintro _ ac ⟨D,rfl,E,f,ad⟩;have g:=e.ext f;refine⟨D,rfl,_,by rw[ax];exact g.cell,?_⟩;rw[a z];refine(gR E.src (by simp[ey]) (n:=u.map) I (by decide)).use ?_;rintro _ ae ⟨F,rfl,G,i,ag⟩;have H:=g.ext i;refine⟨F,rfl,?_⟩;rw[a y];refine(gR G.src (by simp[ey]) (n:=n) I (by decide)).use ?_;rintro _ aj ⟨K,rfl,L,j,ak⟩;have k:=H.ext j;refine⟨K,rfl,_,by rw[ax];exact k.cell,?_⟩;refine(gR L.src (by simp[ey]) (n:=u.clock) I (by decide)).use ?_;rintro _ al ⟨M,rfl,N,m,am⟩;have o:=k.ext m;refine⟨M,rfl,_,by rw[ax];exact o.cell,?_⟩;refine(gR N.src (by simp[ey]) (n:=u.dc) I (by decide)).use ?_;rintro _ an ⟨O,rfl,P,p,ao⟩;have Q:=o.ext p;refine⟨O,rfl,_,by rw[ax];exact Q.cell,?_⟩;rw[a A];refine(gR P.src (by simp[ey]) (n:=u.keys) I (by decide)).use ?_;rintro _ ap ⟨r,rfl,R,S,T⟩;have t:=Ext.trans (Ext.trans (Ext.trans (Ext.trans (Ext.trans (Ext.trans B d) f) i) j) m) p;refine⟨r,rfl,r,rfl,R,Ext.trans t S,λq V=>?_⟩;have:=T q V;have:=t.size;omega
theorem Ft{w:J}{b:Y}{l:O UInt8}{aR a k:Nat}(f:Var w aR [b,a] 316)(hs:Src 1 w b (aF l))(hc:b.len<=b.cap)(g:1<=k/\k<=8)(j:a+k<=l.length)(hl:l.length<=1000):
 aH ai 226 #[.pointer (some aR),k] w (λv w'=>v=.int .u64 (cU l a k:Nat)/\Var w' aR [b,.int .i64 ((a+k:Nat):Int)] 316/\ae (λq=>q=aR) w w'):=by
 refine af.Cy _ (k:Nat) w _ ?_;(delta af.pW ak r1 nS st au;dsimp only);have d:=cr w;have c:=f.ext d;refine aY ⟨λ_=>False,_,rfl,id,b,c.cell,_,rfl,id,_,by rw[ax];exact c.cell,(jL (hs.ext d) hc g j I).use ?_⟩;rintro _ _ ⟨rfl,rfl⟩;obtain⟨bR,b3⟩:=dR c (i:=1) (by simp);refine⟨_,true,rfl,_,rfl,_,by rw[ax];exact c.cell,_,rfl,by rw[ax];exact bR,by rw[ax];exact b3,aY ⟨rfl,?_,?_⟩⟩
 .rw[ax]
  have h1:=dX c (i:=1) (.int .i64 (IntKind.wrap .i64 ((a:Nat)+(k:Nat))));have e:IntKind.wrap .i64 ((a:Int)+(k:Int))=((a+k:Nat):Int):=by rw[bB I I];omega
  rw[e]at h1⊢;exact h1
 .rw[ax]
  exact ck (d.mono λ_ _ h=>h.elim) (dx _ _ _ _) λq _ e=>e
def Ar:Except Int (cz×Nat×Nat)->aa
 | .ok (u,n,g)=>.tuple #[.agg u.c.toArray,n,.int .u64 (g:Nat),(0:Int)]
 | .error e=>.tuple #[.agg fb.c.toArray,(0:Int),.int .u64 0,e]
theorem wG{no:Int}{l:O UInt8}{e:Int}(h:dh no l=.error e):e≠0:=by
 unfold dh at h
 repeat' split at h
 all_goals first|(cases h;decide)|cases h
theorem n3{s:Y}{l:O UInt8}{w:J}(hs:Src 1 w s (aF l))(hc:s.len<=s.cap)(hl:l.length<=1000)(no:Int):
 aH ai 171 #[.int .i64 no,.slice s.a s.len s.cap] w (λv w'=>v=Ar (gf no l)/\Ext w w'):=by
 refine okF (af.n3 no s) ay.n3 func171 ?_;(delta af.n3 ga j_ z3 U al r1 bt ak u4 fo st au;dsimp only);refine bk (vs:=fb.c) rfl λw1 aj H bE=>(lD (hs.ext H) hc hl no).use ?_;rintro _ ah ⟨r,W⟩;obtain⟨d,aQ⟩:∃d,d=w.heap.size:=⟨_,rfl⟩;rw[←aQ]at aj⊢;have L:=aj.ext W
 cases B:dh no l with
 |error e=>
  rw[B]at r;have X:=wG B;have hd:gf no l=.error e:=by unfold gf;rw[B]
  rw[hd];obtain rfl:_=_:=r;refine⟨0,0,⟨none,0,0⟩,e,rfl,bk (vs:=[.int .i64 0,.int .u64 0,.slice none 0 0]) rfl λaS M am aT=>⟨M.b5 rfl (λv N=>?_),rfl,cn M (us:=[.int .i64 0,.int .u64 0,.slice none 0 0]) rfl rfl λC t an aU=>⟨λ_=>?_,λh=>?_⟩⟩⟩
  .simp only[cR,eR,eY]at N
   rcases N with rfl|rfl|rfl<;>trivial
  .have y:Ext ah C:=Ext.cv am an (br _)
   have m:=L.ext y;refine fV (u:=fb) m (ib m rfl fb λD ap aV bF=>fV (u:=fb) ap ⟨rfl,?_⟩);exact Ext.cv (Ext.trans (Ext.trans H W) y) aV I
  .simp at h;exact absurd h X
 |ok p=>
  rw[B]at r;obtain⟨sb,rfl,Z,aW⟩:=r;refine⟨_,_,sb,0,rfl,bk (vs:=[.int .i64 0,.int .u64 0,.slice none 0 0]) rfl λaS M am aT=>⟨M.b5 rfl (λv N=>?_),rfl,cn M (us:=[.int .i64 (p.kind:Nat),.int .u64 (p.gen:Nat),.slice sb.a sb.len sb.cap]) rfl rfl λC t an aU=>⟨λh=>(by simp at h),λ_=>⟨_,t.cell,?_⟩⟩⟩⟩
  .simp only[cR,eR,eY]at N
   rcases N with rfl|rfl|rfl<;>trivial
  have y:Ext ah C:=Ext.cv am an (br _);have aq:=Ext.trans (Ext.trans H W) y;obtain⟨P,aX⟩:∃P,P=ah.heap.size:=⟨_,rfl⟩;rw[←aX]at t⊢;have m:=L.ext y;have aZ:sb.len=p.body.length:=by have:=Z.1;rw[dI]at this;omega
  have bH:=(Ext.trans H W).size;have a0:p.kind≠3\/p.body.length≠33->gf no l=.error 4:=λh=>by
   unfold gf;rw[B];exact if_pos h
  refine cl (λb w'=>b=decide (p.kind≠3\/p.body.length≠33)/\C=w') (λq f=>⟨λh=>f _ _ ⟨?_,rfl⟩,λh=>⟨sb,by rw[ax];exact t.cell,f _ _ ⟨?_,rfl⟩⟩⟩) ?_
  .have:p.kind≠3:=λe=>by rw[e]at h;simp at h
   rw[dv (.inl this)]
  .have a1:p.kind=3:=by
    have:((p.kind:Nat):Int)=3:=by simpa using h
    omega
   rw[aZ,fm,cO];constructor
   .intro Q
    refine .inr λe=>?_;rw[e]at Q;simp at Q
   .rintro(Q|Q)
    .exact absurd a1 Q
    .rw[bne_iff_ne];omega
  rintro _ _ ⟨rfl,rfl⟩;have aI:∀ {D:J}{vs:O aa},Var D d vs 104->vs.length=6->Ext w D->(gf no l=.error 4)->bz D ⟨d,0,none⟩ [.int .i64 0,.int .i64 0,.int .i64 0,.int .u64 0,.int .u64 0,.int .i64 0]/\(6:Nat)=6/\ao (setCells D ⟨d,0,none⟩ 0 [.int .i64 0,.int .i64 0,.int .i64 0,.int .u64 0,.int .u64 0,.int .i64 0]) λo=>
   ∃bG:Int,o.cell? ⟨d,0,none⟩=some (.int .i64 bG)/\∃bc:Int,o.cell? (Addr.add ⟨d,0,none⟩ 1)=some (.int .i64 bc)/\∃aJ:Int,o.cell? (Addr.add ⟨d,0,none⟩ 2)=some (.int .i64 aJ)/\
   ∃aK:Int,o.cell? (Addr.add ⟨d,0,none⟩ 3)=some (.int .u64 aK)/\∃n5:Int,o.cell? (Addr.add ⟨d,0,none⟩ 4)=some (.int .u64 n5)/\∃n6:Int,o.cell? (Addr.add ⟨d,0,none⟩ 5)=some (.int .i64 n6)/\
   (Value.tuple #[.agg #[.int .i64 bG,.int .i64 bc,.int .i64 aJ,.int .u64 aK,.int .u64 n5,.int .i64 n6],.int .i64 0,.int .u64 0,.int .i64 4]=Ar (gf no l)/\Ext w o):=by
   intro D vs ap a2 a3 hd;rw[hd];exact ib ap a2 fb λo a4 a5 bI=>fV (u:=fb) a4 ⟨rfl,Ext.cv a3 a5 I⟩
  refine⟨λh=>?_,λh=>?_⟩
  .exact fV (u:=fb) m (aI m rfl aq (a0 (cf h)))
  have ar:=cx h;have bJ:p.kind=3:=o3 λh=>ar (.inl h);have bK:p.body.length=33:=o3 λh=>ar (.inr h);have a6:=(Z.ext y).src;have a7:sb.len<=sb.cap:=Z.2.1;have aL:∀q,aB sb q->q<C.heap.size:=(Z.ext y).lt;refine⟨sb,by rw[ax];exact t.cell,bk (vs:=[.slice sb.a sb.len sb.cap,.int .i64 ((0:Nat):Int)]) rfl λa8 aM ab bL=>?_⟩;obtain⟨aR,a9⟩:∃aR,aR=C.heap.size:=⟨_,rfl⟩;rw[←a9]at aM aL⊢;have X:aR≠d:=by have:=m.lt;omega
  have a_:aR≠P:=by have:=t.lt;omega
  have ba:=a6.ext ab;have bb:=m.ext ab;have bd:=t.ext ab;have be:=Ext.trans aq ab;have bf:w.heap.size<=aR:=by have:=aq.size;omega
  obtain⟨cu,E⟩:∃cu:J->O aa->Nat->Prop,cu=λw' vs a=>Var w' aR [.slice sb.a sb.len sb.cap,.int .i64 ((a:Nat):Int)] 316/\Src 1 w' sb (aF p.body)/\Var w' d vs 104/\Var w' P [.int .i64 (p.kind:Nat),.int .u64 (p.gen:Nat),.slice sb.a sb.len sb.cap] 150/\Ext w w':=⟨_,rfl⟩;have bg:∀q,aB sb q->q≠d:=λq f e=>by
   have:=aW q f;have:=L.lt;have:=H.size;have:=aj.lt;omega
  have z:∀ {w':J}{vs:O aa}{a k:Nat}{R:Ending->J->Prop},cu w' vs a->1<=k/\k<=8->a+k<=33->(∀g,cu g vs (a+k)->R (.returned (.int .u64 (cU p.body a k:Nat))) g)->Calls ai 226 #[.pointer (some ⟨aR,0,none⟩),.int .i64 (k:Nat)] w' R:=by
   intro w' vs a k R A aw bN bh;rw[E]at A;obtain⟨bR,b3,S,az,aA⟩:=A;refine(Ft bR b3 a7 aw I I).use ?_;rintro _ g ⟨rfl,av,ac⟩;refine bh g ?_;rw[E];exact⟨av,b3.ad ac λq f e=>by have:=aL q f;omega,S.ad ac (λe=>X e.symm),az.ad ac (λe=>a_ e.symm),Ext.cv aA ac bf⟩
  have jI:∀ {w':J}{vs:O aa}{a:Nat} (j:Nat) (v:aa) {K:J->Prop},cu w' vs a->j<vs.length->(∀g,cu g (vs.set j v) a->K g)->(∃u:aa,w'.cell? ⟨d,j,none⟩=some u)/\w'.frozen? ⟨d,j,none⟩=false/\ao (w'.setCell ⟨d,j,none⟩ v) K:=by
   intro w' vs a j v K A ae aC;rw[E]at A;obtain⟨bR,b3,S,az,aA⟩:=A;have hc:=dx w' d j v;refine⟨(dR S ae).1,(dR S ae).2,aY (aC _ ?_)⟩;rw[E];exact⟨bR.ad hc X,b3.ad hc bg,dX S v,az.ad hc (λe=>by have:=m.lt;have:=L.lt;omega),Ext.cv aA hc I⟩
  have T:∀ {w':J}{vs:O aa}{a:Nat} (j:Nat) (v:aa) {K:J->Prop},cu w' vs a->j<vs.length->(∀g,cu g (vs.set j v) a->K g)->(∃u:aa,w'.cell? (Addr.add ⟨d,0,none⟩ j)=some u)/\w'.frozen? (Addr.add ⟨d,0,none⟩ j)=false/\ao (w'.setCell (Addr.add ⟨d,0,none⟩ j) v) K:=by
   intro w' vs a j v K A ae aC;rw[ax,cH];exact jI j v A ae aC
  have bi:cu a8 fb.c 0:=by rw[E];exact⟨aM,ba,bb,bd,be⟩
  have ag:∀a,a+4<=33->cU p.body a 4<4294967296:=λa bj=>lI 4 _ (by rw[cC,c5];omega);have bl:cU p.body 4 1<256:=lI 1 _ (by rw[cC,c5];omega);have bO:∀a,a+8<=33->cU p.body a 8<18446744073709551616:=λa bj=>lI 8 _ (by rw[cC,c5];omega);have V:∀ {x:Nat},x<4294967296->IntKind.wrap .i64 ((x:Nat):Int)=((x:Nat):Int):=λhx=>bB I I;refine z (k:=4) bi (by decide) (by decide) λbP t43=>⟨_,rfl,z (k:=1) t43 (by decide) (by decide) λbQ t46=>⟨_,rfl,z (k:=4) t46 (by decide) (by decide) λbS t49=>⟨_,rfl,?_⟩⟩⟩;rw[V (ag 0 (by decide)),V (x:=cU p.body (0+4) 1) (by have:=bl;show cU p.body 4 1<_;omega),V (ag (0+4+1) (by decide))];refine jI 0 _ t49 (by simp[fb,cz.c]) λbT t52=>T 1 _ t52 (by simp[fb,cz.c]) λbU t53=>T 2 _ t53 (by simp[fb,cz.c]) λbV t54=>?_;refine(z (k:=4) t54 (by decide) (by decide) λbW t55=>⟨_,rfl,z (k:=8) t55 (by decide) (by decide) λbX t58=>⟨_,rfl,z (k:=8) t58 (by decide) (by decide) λbY t61=>⟨_,rfl,z (k:=4) t61 (by decide) (by decide) λbZ t64=>⟨_,rfl,?_⟩⟩⟩⟩);rw[V (ag (0+4+1+4) (by decide)),V (ag (0+4+1+4+4+8+8) (by decide))];refine T 3 _ t64 (by simp[fb,cz.c]) λb0 t67=>T 4 _ t67 (by simp[fb,cz.c]) λb1 t68=>T 5 _ t68 (by simp[fb,cz.c]) λF t69=>?_;obtain⟨u,hu⟩:∃u,u=nc p.body:=⟨_,rfl⟩;obtain⟨n,aN⟩:∃n,n=cU p.body 9 4:=⟨_,rfl⟩;rw[E]at t69;obtain⟨_,_,i,bm,aO⟩:=t69;have i:Var F d u.c 104:=by rw[hu];exact i
  have r:gf no l=if i_ u n then .ok (u,n,p.gen) else .error 4:=by
   unfold gf;rw[B,hu,aN];exact if_neg ar
  rw[show cU p.body (0+4+1+4) 4=n from aN.symm];refine⟨(u.root:Nat),i.cell,(u.aD:Nat),by rw[ax];exact i.cell,cl (λb w'=>b=(!((((u.root:Nat):Int)==0)==(((u.aD:Nat):Int)==0))||decide (((u.aD:Nat):Int)>12))/\F=w') (λq f=>⟨λh=>f _ _ ⟨by rw[h,Bool.true_or],rfl⟩,λh=>⟨_,by rw[ax];exact i.cell,f _ _ ⟨by rw[h,j0],rfl⟩⟩⟩) ?_⟩;rintro b8 _ ⟨bn,rfl⟩;refine cl (λb w'=>b=(b8||decide (((u.root:Nat):Int)>=(n:Nat)))/\F=w') (λq f=>⟨λh=>f _ _ ⟨by rw[h,Bool.true_or],rfl⟩,λh=>⟨_,i.cell,f _ _ ⟨by rw[h,j0],rfl⟩⟩⟩) ?_;rintro bM _ ⟨bo,rfl⟩;refine cl (λb w'=>b=(bM||decide (((u.map:Nat):Int)>=(n:Nat)))/\F=w') (λq f=>⟨λh=>f _ _ ⟨by rw[h,Bool.true_or],rfl⟩,λh=>⟨_,by rw[ax];exact i.cell,f _ _ ⟨by rw[h,j0],rfl⟩⟩⟩) ?_;rintro bp _ ⟨bq,rfl⟩;refine cl (λb w'=>b=(bp||decide (((u.map:Nat):Int)<2))/\F=w') (λq f=>⟨λh=>f _ _ ⟨by rw[h,Bool.true_or],rfl⟩,λh=>⟨_,by rw[ax];exact i.cell,f _ _ ⟨by rw[h,j0],rfl⟩⟩⟩) ?_;rintro bs _ ⟨bu,rfl⟩;have bv:(bs||decide (((n:Nat):Int)>1600))= !decide (i_ u n):=by
   have bw:(((u.root:Nat):Int)==0)=decide (u.root=0):=by rw[fm];simp
   have bx:(((u.aD:Nat):Int)==0)=decide (u.aD=0):=by rw[fm];simp
   rw[bu,bq,bo,bn,bw,bx,fm];unfold i_;by_cases h1:u.root=0<;>by_cases bA:u.aD=0<;>simp[h1,bA]<;>omega
  rw[bv];refine⟨λh=>?_,λh=>?_⟩
  .have bC:¬i_ u n:=λhg=>by rw[dv hg]at h;cases h
   exact aI i rfl aO (by rw[r,if_neg bC])
  .have hg:i_ u n:=o3 λhg=>by rw[gM hg]at h;cases h
   rw[r,if_pos hg];have aE:=cr F;have aG:=i.ext aE;have bD:=bm.ext aE;have b2:d≠P:=by have:=m.lt;have:=L.lt;omega
   refine aY ⟨λ_=>False,id,fV aG ⟨id,_,by rw[ax];exact bD.cell,ib aG rfl u λb4 aP G b6=>⟨?_,fV aP ⟨rfl,Ext.cv (Ext.trans aO aE) G I⟩⟩⟩⟩;refine⟨G.os,G.tape,G.output,G.size,λk aw _=>?_⟩;by_cases e:k=d
   .rw[e];exact aP.trans aG.symm
   .exact G.block k aw e
section
variable {α:Type}{P:Program}{w w':J}{gA eS T:TypeId}{enc:α->aa}{r m:Nat}{L:O (α×aa×Nat)}{seen:O Nat}
structure jz(w:J)(r m:Nat)(enc:α->aa)(L:O (α×aa×Nat))(seen:O Nat):Prop where
 it:∃a:Nat,w.heap[r]? =some (.mapIter (some m) a seen.toArray a)/\w.heap[m]? =some (.map (L.map (dk enc)).toArray a)/\∀x∈L,x.2.2<a
 bf:(L.map (·.2.2)).Nodup
def fB(L:O (α×aa×Nat))(seen:O Nat):O (α×aa×Nat):=L.filter λx=> !seen.contains x.2.2
theorem As(P:Program){n:Nat}(b:1<=n)(w:J):∃ (i:Nat) (w':J),i<n/\(choose (.mapNext n)).run P w=.ok i w'/\(w'=w\/w'=w.drew):=by
 by_cases h:n<=1
 .refine⟨0,w,I,?_,.inl rfl⟩
  show Sem.run P (.choose (.mapNext n) .pure) w=_;have a:(Question.mapNext n).forced=true:=by simp[Question.forced,h]
  simp only[Sem.run,a,if_true]
 .refine⟨(Question.mapNext n).cut (w.tape w.drawn (.mapNext n)),w.drew,g1 _ I,?_,.inr rfl⟩
  show Sem.run P (.choose (.mapNext n) .pure) w=_;have a:(Question.mapNext n).forced=false:=by simp[Question.forced,h]
  simp only[Sem.run,a,ft,if_false];rfl
theorem wH{a:an Nat}{b d:Nat}{c:Array Nat}(h:w.heap[r]? =some (.mapIter a b c d)):(getObj r).run P w=.ok (.mapIter a b c d) w:=by simp[getObj,Sem.run,h]
theorem Fu{a:an Nat}{b d:Nat}{c:Array Nat}(h:w.heap[r]? =some (.mapIter a b c d))(e:Obj):(setObj r e).run P w=.ok () (g4 w r e):=by simp[setObj,Sem.run,h,g4]
theorem jz.begin{M:O (α×aa)}(h:dP w m enc M){T:TypeId}{gA eS:TypeId}(b:P.underlying T=some (.map gA eS)):∃ (L:O (α×aa×Nat)) (w1:J),(L.map j8).Perm M/\(Instr.range T (.map (some m))).run P w=.ok (.pointer (some w.heap.size)) w1/\jz w1 w.heap.size m enc L []/\Ext w w1/\w1.heap.size=w.heap.size+1:=by
 have aJ:=h.lt;obtain⟨L,a,h1,c,f,d,e⟩:=h;refine⟨L,w.alloc (.mapIter (some m) a #[] a),c,?_,⟨⟨a,?_,?_,e⟩,d⟩,ae.alloc (.refl _ _) _,by simp⟩
 .simp only[Instr.range,Sem.run_bind,cP b,Result.andThen,kL h1,Sem.run_pure,newObj,Sem.run]
  rfl
 .show(w.heap.push _)[w.heap.size]? =_
  simp
 .show(w.heap.push _)[m]? =_
  rw[Array.getElem?_push_lt aJ];exact(Array.getElem?_eq_getElem aJ).symm.trans h1
theorem jz.next(h:jz w r m enc L seen)(E:r≠m)(T:TypeId):
 (fB L seen=[]/\∃w1,(Instr.next (.pointer (some r)) false T).run P w=.ok (.tuple #[false]) w1/\Ext w w1/\w1.heap=w.heap)\/
 (∃x∈fB L seen,∃w1,(Instr.next (.pointer (some r)) false T).run P w=.ok (.tuple #[true,enc x.1,x.2.1]) w1/\jz w1 r m enc L (seen++ [x.2.2])/\ae (λq=>q=r) w w1/\w1.heap.size=w.heap.size/\(Instr.entry (.pointer (some r))).run P w1=.ok (.tuple #[enc x.1,x.2.1]) w1):=by
 obtain⟨⟨a,h1,c,d⟩,j⟩:=h;have k:(!seen.toArray.isEmpty&& !((L.map (dk enc)).toArray).isEmpty&&((L.map (dk enc)).toArray).all λe=>decide (e.born>=a))=false:=by
  cases L with
  |nil=>simp
  |cons x L=>
   have:¬a<=x.2.2:=by have:=d x (by simp);omega
   simp[dk,this]
 have f:((L.map (dk enc)).toArray.filter λe=> !seen.toArray.contains e.born)=((fB L seen).map (dk enc)).toArray:=by
  rw[List.filter_toArray,List.filter_map]
  congr 1
  unfold fB
  congr 1
  apply List.filter_congr;intro x _;simp only[Function.comp,dk,List.contains_toArray]
 have aJ:∀x∈fB L seen,x.2.2<a:=λx hx=>d x (g0.1 hx).1;have hold:(((fB L seen).map (dk enc)).toArray.filter λe=>decide (e.born<a))=((fB L seen).map (dk enc)).toArray:=by
  rw[List.filter_toArray,ku.2];intro e he;obtain⟨x,hx,rfl⟩:=dZ.1 he;exact dv (aJ x hx)
 have g:(((fB L seen).map (dk enc)).toArray.filter λe=>decide (e.born>=a))= #[]:=by
  rw[List.filter_toArray,oY.2];intro e he;obtain⟨x,hx,rfl⟩:=dZ.1 he;have:=aJ x hx;have F:¬a<=x.2.2:=by omega
  simp[dk,F]
 cases hl:fB L seen with
 |nil=>
  rw[hl]at f hold g;obtain⟨i,w1,hi,hc,b⟩:=As P (n:=1) (br _) w;have G:i=0:=by omega
  subst G;refine .inl ⟨rfl,w1,?_,?_,?_⟩
  .simp only[Instr.next,Sem.run_bind,wH h1,Result.andThen,kL c,k,ft,if_false,f,hold,g]
   simp only[List.map_nil,Array.isEmpty,qM,j4,decide_true,if_true];have e:(#[none]++((#[]:Array MapEntry)++ #[]).map some:Array (an MapEntry)).size=1:=by simp
   have o:((#[none]++((#[]:Array MapEntry)++ #[]).map some:Array (an MapEntry)))[0]? =some none:=by simp
   simp only[e,Sem.run_bind,hc,Result.andThen,o,Sem.run_pure,Sem.run_pure]
  .rcases b with rfl|rfl
   .exact .refl _ _
   .exact ae.drew (.refl _ _)
  .rcases b with rfl|rfl<;>rfl
 |cons y l=>
  right;rw[←hl];have v:1<=(fB L seen).length:=by rw[hl];simp
  obtain⟨i,w1,hi,hc,b⟩:=As P (n:=(fB L seen).length) v w;have p:w1.heap=w.heap:=by rcases b with rfl|rfl<;>rfl
  obtain⟨x,hx⟩:∃x,x=(fB L seen)[i]:=⟨_,rfl⟩;have s:x∈fB L seen:=by rw[hx];exact cm _
  have A:x∈L:=(g0.1 s).1;have B:w1.heap[r]? =some (.mapIter (some m) a seen.toArray a):=by rw[p];exact h1
  have H:r<w1.heap.size:=(kq.1 B).1;have t:(g4 w1 r (.mapIter (some m) a (seen.toArray.push x.2.2) a)).heap[r]? =some (.mapIter (some m) a (seen++ [x.2.2]).toArray a):=by
   rw[rp H];simp
  have u:(g4 w1 r (.mapIter (some m) a (seen.toArray.push x.2.2) a)).heap[m]? =some (.map (L.map (dk enc)).toArray a):=by
   have C:w1.heap[m]? =some (.map (L.map (dk enc)).toArray a):=by rw[p];exact c
   rw[(pB w1 r _).block m (kq.1 C).1 (λe=>E e.symm)];exact C
  refine⟨x,s,g4 w1 r (.mapIter (some m) a (seen.toArray.push x.2.2) a),?_,⟨⟨a,t,u,d⟩,j⟩,?_,?_,?_⟩
  .simp only[Instr.next,Sem.run_bind,wH h1,Result.andThen,kL c,k,ft,if_false,f,hold,g]
   have I:((fB L seen).map (dk enc)).toArray.isEmpty=false:=by rw[hl];rfl
   have e:((#[]:Array (an MapEntry))++(((fB L seen).map (dk enc)).toArray++ #[]).map some).size=(fB L seen).length:=by simp
   have o:((#[]:Array (an MapEntry))++(((fB L seen).map (dk enc)).toArray++ #[]).map some)[i]? =some (some (dk enc x)):=by
    simp[hi,hx]
   simp only[I,ft,if_false,e,Sem.run_bind,hc,Result.andThen,o,Fu B,Sem.run_pure,dk]
  .have J:ae (λq=>q=r) w w1:=by
    rcases b with rfl|rfl
    .exact .refl _ _
    .exact ae.drew (.refl _ _)
   exact J.trans (pB _ _ _)
  .rw[rn,p]
  .have K:(seen++ [x.2.2]).toArray.back? =some x.2.2:=by simp
   have hf:((L.map (dk enc)).toArray.find? λe=>e.born==x.2.2)=some (dk enc x):=by
    rw[List.find?_toArray,List.find?_map];have:L.find? ((λe:MapEntry=>e.born==x.2.2)∘dk enc)=some x:=by
     clear hl v hi hc s hx t u f hold g aJ k c d
     induction L with
     |nil=>cases A
     |cons z L M=>
      rw[iM]at j;obtain⟨bG,bc⟩:=List.nodup_cons.1 j;rw[List.find?_cons];rcases cR.1 A with rfl|D
      .simp[dk]
      .have N:z.2.2≠x.2.2:=λe=>bG (by rw[e];exact dZ.2 ⟨x,D,rfl⟩)
       have:((λe:MapEntry=>e.born==x.2.2)∘dk enc) z=false:=by simp[dk,N]
       rw[this];exact M bc D
    rw[this];rfl
   have O:(a !=a)=false:=by simp
   simp only[Instr.entry,Sem.run_bind,wH t,Result.andThen,K,kL u,O,ft,if_false,hf,Sem.run_pure,dk]
theorem dP.clear{M:O (α×aa)}(h:dP w m enc M){o:TypeId}(b:P.underlying T=some (.map gA eS)):∃w1,(Builtin.clear_ #[T] o #[.map (some m)]).run P w=.ok (.tuple #[]) w1/\dP w1 m enc ([]:O (α×aa))/\ae (λq=>q=m) w w1/\w1.heap.size=w.heap.size:=by
 have aJ:=h.lt;obtain⟨L,a,h1,c,d,e,f⟩:=h;refine⟨g4 w m (.map #[] a),?_,⟨[],a,rp aJ _,by simp,by simp,by simp,by simp⟩,pB _ _ _,rn _ _ _⟩;unfold Builtin.clear_;simp only[qA,l1,Sem.run_bind,cP b,Result.andThen,kL h1,uS h1,Sem.run_pure]
end
theorem Au{w:J}{lb:Nat}{ls:O cF}{T:TypeId}(h:bh w lb (b1 aF ls).toArray T)(hs:∀x∈ls,x.length=256){i:Nat}(hi:i<ls.length){x:cF}(hx:x.length=256):
 bz w ⟨lb,i*256,none⟩ (aF x)/\bh (setCells w ⟨lb,i*256,none⟩ 0 (aF x)) lb (b1 aF (ls.set i x)).toArray T/\ae (λq=>q=lb) w (setCells w ⟨lb,i*256,none⟩ 0 (aF x)):=by
 have a:∀x∈ls,(aF x).length=256:=λx hx=>by rw[dI];exact hs x hx
 have hl:=hT (c:=aF) ls a;have b:(aF x).length=256:=by rw[dI];exact hx
 have d:i*256+(aF x).length<=(b1 aF ls).toArray.size:=by
  rw[qM,hl,b];omega
 refine⟨bh.b5 h _ _ d (kS _),?_,ae.kJ (.refl _ _) _ 0⟩;have h0:=bh.jI (o:=i*256) h (aF x);have h1:=ly (aF x) (b1 aF ls).toArray (i*256) d;have f:=za a hi x;rw[b]at h1;have g:(fY (b1 aF ls).toArray (i*256) (aF x)).toList=b1 aF (ls.set i x):=h1.trans f;have e:fY (b1 aF ls).toArray (i*256) (aF x)=(b1 aF (ls.set i x)).toArray:=by rw[←g]
 rw[e]at h0;exact h0
theorem Fv{α:Type}{L:O (α×aa×Nat)}{seen:O Nat}{x:α×aa×Nat}(h:x∈fB L seen):(fB L (seen++ [x.2.2])).length<(fB L seen).length:=by
 have e:fB L (seen++ [x.2.2])=(fB L seen).filter λy=> !(y.2.2==x.2.2):=by
  unfold fB;rw[List.filter_filter];apply List.filter_congr;intro y _;rw[fm];simp only[jY,dO,List.contains_eq_mem,jZ,cG,eX,beq_eq_false_iff_ne];constructor
  .exact λh=>⟨λa=>h (.inr a),λa=>h (.inl a)⟩
  .rintro⟨h1,a⟩ (b|b)
   .exact a b
   .exact h1 b
 rw[e];exact List.length_filter_lt_length_iff_exists.2 ⟨x,h,by simp⟩
def wI{α:Type}(L:O (α×aa×Nat))(r:Nat)(w:J):Nat:=match w.heap[r]? with
 |some (.mapIter _ _ seen _)=>(fB L seen.toList).length
 |_=>0
theorem jz.left{α:Type}{w:J}{r m:Nat}{enc:α->aa}{L:O (α×aa×Nat)}{seen:O Nat}(h:jz w r m enc L seen):wI L r w=(fB L seen).length:=by
 obtain⟨⟨a,h1,_⟩,_⟩:=h;unfold wI;rw[h1]
theorem jz.ad{α:Type}{W:Nat->Prop}{w w':J}{r m:Nat}{enc:α->aa}{L:O (α×aa×Nat)}{seen:O Nat}(h:jz w r m enc L seen)(hc:ae W w w')(b:¬W r)(c:¬W m):jz w' r m enc L seen:=by
 obtain⟨⟨d,h1,a,e⟩,f⟩:=h;exact⟨⟨d,by rw[hc.block r (kq.1 h1).1 b];exact h1,by rw[hc.block m (kq.1 a).1 c];exact a,e⟩,f⟩
def aV.hV(D:aV):aV:={D with a_:=(List.range D.n).map D.now,waits:=[]}
theorem qn(D:aV):D.hV.n=D.n:=by simp[aV.hV,aV.n]
theorem wJ(D:aV){i:Nat}(hi:i<D.n):D.hV.now i=D.now i:=by
 show((List.range D.n).map D.now).getD i []=_;rw[eH (by simp;exact hi)];simp
def Fw(D:aV)(w:J)(v:aa)(w':J):Prop:=
 (D.e_ 3=true/\v=.int .i64 3/\cj w' (D.b_ 3)/\ae (λq=>q=D.d) w w')\/
 (D.e_ 3=false/\v=.int .i64 0/\cj w' (D.b_ 3).hV/\ae (bF D) w w')
theorem wK{w:J}{D:aV}(h:cj w D)(bx:D.aO<=1000000000):aH ai 76 #[.pointer (some D.d)] w (Fw D w):=by
 refine okF (af.sh (some D.d)) ay.sh func76 ?_;(delta af.sh al aG u0 ak rD fo aI u7;dsimp only);refine⟨λh1=>(by cases h1),λ_=>⟨_,rfl,(vQ h (k:=3) (by decide)).use ?_⟩⟩;rintro _ ah ⟨rfl,f,aj,bz⟩;obtain⟨a8,p⟩:∃a8,a8=D.b_ 3:=⟨_,rfl⟩;have aM:a8.d=D.d:=by rw[p];rfl
 have bA:a8.lb=D.lb:=by rw[p];rfl
 have aN:a8.mr=D.mr:=by rw[p];rfl
 have aP:a8.n=D.n:=by rw[p];rfl
 have aQ:bF a8=bF D:=by rw[p];rfl
 have bB:a8.aO=D.aO:=by rw[p];rfl
 rw[←p]at f;refine⟨_,rfl,λC=>.inl ⟨C,rfl,by rw[←p];exact f,aj⟩,λC=>?_⟩;rw[←aM];have am:=f.bc;obtain⟨L,an,ao,ap,aq,au,bC⟩:=jz.begin (P:=ai) f.m ki;obtain⟨r,aR⟩:∃r,r=ah.heap.size:=⟨_,rfl⟩;rw[←aR]at ap aq;have aS:r≠a8.mr:=by have:=f.m.lt;omega
 have av:∀q,bF a8 q->q≠r:=λq E e=>by have:=f.lt E;omega
 have aT:∀x∈L,∃y∈a8.waits,x.1=(y.i:Int):=λx hx=>by
  have:=ao.mem_iff.1 (dZ.2 ⟨x,hx,rfl⟩);obtain⟨y,u,e⟩:=dZ.1 this;refine⟨y,u,?_⟩;have:=congrArg Prod.fst e;exact this.symm
 have aU:∀y∈a8.waits,∃x∈L,x.1=(y.i:Int):=λy u=>by
  have:y.e∈L.map j8:=ao.mem_iff.2 (dZ.2 ⟨y,u,rfl⟩);obtain⟨x,hx,e⟩:=dZ.1 this;exact⟨x,hx,congrArg Prod.fst e⟩
 refine⟨_,rfl,some a8.mr,f.aW,_,an,ap,λw'=>∃ (seen:O Nat) (ls:O cF),jz w' r a8.mr encZ L seen/\cj w' {a8 with a_:=ls}/\ls.length=a8.n/\(∀ (j:Nat) (G:j<ls.length),ls[j]=if ∃x∈L,x.2.2∈seen/\x.1=(j:Int) then a8.now j else a8.a_.getD j [])/\ae (λq=>bF a8 q) ah w'/\an.heap.size<=w'.heap.size,
  wI L r,⟨[],a8.a_,aq,f.ext au,rfl,λj G=>?_,ae.cJ au,br _⟩,?_⟩
 .rw[if_neg (by rintro⟨x,_,h1,_⟩;cases h1),eH G]
 rintro aw ⟨seen,ls,S,F,A,g3,K,bD⟩;have T:∀s∈ls,s.length=256:=F.sl;have bE:r<aw.heap.size:=by omega
 have aX:a8.lb≠r:=av _ (.inr (.inl rfl));rcases S.next (P:=ai) aS 0 with ⟨aZ,a0,U,az,bH⟩|⟨x,hx,M,U,a4,aA,bI,a5⟩
 .
  refine .inr ⟨a0,U,λh=>(by cases h),λ_=>?_⟩;have N:=F.ext az;obtain⟨a6,a7,a9,V,bJ⟩:=dP.clear (P:=ai) (o:=0) N.m ki;refine⟨_,rfl,some a8.mr,N.aW,_,a6,a7,.inr ⟨C,rfl,?_,?_⟩⟩
  .have ba:∀x∈L,x.2.2∈seen:=λx hx=>by
    have:=oY.1 aZ x hx;simpa using this
   have bb:ls=(List.range D.n).map D.now:=by
    refine List.ext_getElem (by simp[A,aP]) λj h1 t=>?_;rw[g3 j h1,List.getElem_map,List.getElem_range];have W:D.now j=a8.now j:=by rw[p];rfl
    rw[W];split
    .rfl
    .rename_i bd
     unfold aV.now
     cases hf:a8.waits.find? λx=>x.i==j with
     |some y=>
      exfalso;have u:=iq hf;have be:y.i=j:=by simpa using je hf
      obtain⟨x,hx,e⟩:=aU y u;exact bd ⟨x,hx,ba x hx,by rw[e,be]⟩
     |none=>rfl
   have X:a8.d≠a8.mr:=f.a1.2.1;have bg:a8.lb≠a8.mr:=f.a1.2.2;have e:(D.b_ 3).hV={a8 with a_:=ls,waits:=[]}:=by
    rw[bb,p];rfl
   rw[e];refine⟨N.v.ad V X,bh.ad N.l V bg,a9,λx hx=>(by cases hx),λx hx=>(by cases hx),T,λx hx=>(by cases hx),?_,?_,F.f4,F.fr,F.a1,λx hx=>(by cases hx),λx hx=>(by cases hx)⟩
   .show 16<=ls.length;rw[A];exact f.bG
   .show ls.length<=1600;rw[A];exact am
  .have bi:bF D D.d:=.inl rfl
   have hc:ae (λq=>bF D q) w ah:=aj.mono λq _ e=>by rw[e];exact bi
   have K:ae (λq=>bF D q) ah aw:=by rw[←aQ];exact K
   have bj:=ck hc K λq _ h=>h;have bk:=ck bj az λq _ h=>h.elim;exact ck bk V λq _ bl=>by rw[bl,aN];exact .inr (.inr (.inl rfl))
 .
  have Y:x∈L:=(g0.1 hx).1;have bK:x.2.2∉seen:=by
   have:=(g0.1 hx).2;simpa using this
  obtain⟨y,u,Z⟩:=aT x Y;have bm:=F.ad aA λq E=>av q E;have hi:y.i<a8.n:=(f.wn y u).2.1;have bn:y.i<ls.length:=by omega
  refine .inl ⟨_,_,M,U,λ_=>⟨(y.i:Int),x.2.1,M,?_,?_⟩,λh=>(by cases h)⟩
  .rw[a5]
   have e:encZ x.1=y.i:=by rw[Z]
   rw[e]
  have aB:=cr M;have aa:=bm.ext aB;have bo:({a8 with a_:=ls}:aV).n=a8.n:=A;refine aY ⟨λ_=>False,_,rfl,id,⟨some a8.lb,ls.length,ls.length⟩,aa.de,(zd (i:=y.i) aa (by rw[bo];exact hi) (by show a8.aO<=_;omega)).use ?_⟩;rintro _ Q ⟨rfl,ab⟩;have g:=aa.ext ab;have W:({a8 with a_:=ls}:aV).now y.i=a8.now y.i:=by
   unfold aV.now
   cases hf:a8.waits.find? λx=>x.i==y.i with
   |some z=>rfl
   |none=>
    have:=iN.1 hf y u;simp at this
  have ac:(a8.now y.i).length=256:=f.m0 hi;rw[W];have ar:Addr.add a8.lb (Int.toNat (y.i:Int)*256)=⟨a8.lb,y.i*256,none⟩:=by rw[du,ax,cH]
  obtain⟨bR,b3,bp⟩:=Au g.l T bn ac;refine⟨_,rfl,ab,_,rfl,⟨I,by show(y.i:Int)<(ls.length:Int);omega⟩,by rw[ar];exact bR,by simp[dI,ac],?_⟩;rw[ar];refine aY ?_;show _/\_;have aC:bh (setCells Q ⟨a8.lb,y.i*256,none⟩ 0 (aF (a8.now y.i)).toArray.toList) a8.lb (b1 aF (ls.set y.i (a8.now y.i))).toArray 182:=b3;have B:ae (λq=>q=a8.lb) Q (setCells Q ⟨a8.lb,y.i*256,none⟩ 0 (aF (a8.now y.i)).toArray.toList):=bp;generalize setCells Q ⟨a8.lb,y.i*256,none⟩ 0 (aF (a8.now y.i)).toArray.toList=aD at aC B;have ag:=Ext.trans aB ab;have aE:=(a4.ad ag id id).ad B (λe=>aX e.symm) λe=>f.a1.2.2 e.symm;have bq:ae (λq=>bF a8 q) ah aD:=by
   have h1:ae (λq=>bF a8 q) ah M:=ck K aA λq E e=>by omega
   have t:=ck h1 ag λq _ h=>h.elim;exact ck t B λq _ e=>by rw[e];exact .inr (.inl rfl)
  have bL:=ag.size;have bM:=B.size;have bs:cj aD {a8 with a_:=ls.set y.i (a8.now y.i)}:=by
   have X:a8.d≠a8.lb:=f.a1.1;refine⟨?_,aC,g.m.ad B λe=>f.a1.2.2 e.symm,λx hx=>(g.ws x hx).ad B λq E e=>(g.a2 x hx).2.1 (by rw[←e];exact E),?_,λs hs=>?_,g.jv,?_,?_,g.f4,g.fr,g.a1,g.a2,g.a3⟩
   .have h1:=g.v.ad B X
    have e:({a8 with a_:=ls.set y.i (a8.now y.i)}:aV).c=({a8 with a_:=ls}:aV).c:=by unfold aV.c;simp
    rw[e];exact h1
   .intro z bt
    have:=g.wn z bt;refine⟨this.1,?_,this.2.2⟩;show z.i<(ls.set y.i (a8.now y.i)).length;rw[cX];exact this.2.1
   .rcases kB hs with h1|rfl
    .exact T s h1
    .exact ac
   .show 16<=(ls.set y.i (a8.now y.i)).length;rw[cX,A];exact f.bG
   .show(ls.set y.i (a8.now y.i)).length<=1600;rw[cX,A];exact am
  refine⟨⟨seen++ [x.2.2],_,aE,bs,by rw[cX];exact A,λj G=>?_,bq,I⟩,?_⟩
  .rw[cX]at G
   rw[qL];split
   .rename_i e
    subst e;rw[if_pos ⟨x,Y,by simp,Z⟩]
   .rename_i bu
    rw[g3 j G];have:(∃H∈L,H.2.2∈seen/\H.1=(j:Int))↔∃H∈L,H.2.2∈seen++ [x.2.2]/\H.1=(j:Int):=by
     constructor
     .rintro⟨z,h1,t,R⟩
      exact⟨z,h1,im _ t,R⟩
     .rintro⟨z,h1,t,R⟩
      rcases cG.1 t with t|t
      .exact⟨z,h1,t,R⟩
      .have bv:z=x:=by
        have aJ:=S.bf;obtain⟨a,aK,rfl⟩:=eD h1;obtain⟨b,C,rfl⟩:=eD Y;have aL:=eX.1 t;have bw:a=b:=by
         rcases Nat.lt_trichotomy a b with h|h|h
         .have:=lh.1 aJ a b (by simpa using aK) (by simpa using C) h
          simp at this;exact absurd aL this
         .exact h
         .have:=lh.1 aJ b a (by simpa using C) (by simpa using aK) h
          simp at this;exact absurd aL.symm this
        subst bw;rfl
       rw[bv,Z]at R;exact absurd I bu
    simp only[this]
  .rw[aE.left,S.left]
   exact Fv hx
structure fC where
 aj:Nat
 batch:Nat
 gk:Nat
def fC.c(l:fC):O aa:=[l.aj,l.batch,.int .u64 (l.gk:Nat)]
def ic(f b d:Int):Prop:=8<=f/\f<=64/\1<=b/\b<=1000/\1<=d/\d<=1048576
instance GI(f b d:Int):Decidable (ic f b d):=by unfold ic;infer_instance
section
variable {w w':J}{D:aV}
theorem lA(w:J)(p:an ab)(f b d:Int):aH ai 70 #[.pointer p,.agg #[f,b,.int .u64 d]] w (λv w'=>v=.bool (!(Option.isNone p)&&decide (ic f b d))/\Ext w w'):=by
 refine okF (af.lA p f b d) ay.lA func70 ?_;(delta af.lA al r1 U bt;dsimp only);refine bk (vs:=[f,b,.int .u64 d]) rfl λw1 c hx hs=>?_;refine cl (λx w'=>x=(!(Option.isNone p)&&decide (8<=f))/\w1=w') (λq a=>⟨λh=>⟨f,c.cell,a _ _ ⟨by rw[h,ij],rfl⟩⟩,λh=>a _ _ ⟨by rw[h,ky],rfl⟩⟩) ?_;rintro e _ ⟨h1,rfl⟩;refine cl (λx w'=>x=(e&&decide (f<=64))/\w1=w') (λq a=>⟨λh=>⟨f,c.cell,a _ _ ⟨by rw[h,ij],rfl⟩⟩,λh=>a _ _ ⟨by rw[h,ky],rfl⟩⟩) ?_;rintro g _ ⟨i,rfl⟩;refine cl (λx w'=>x=(g&&decide (1<=b))/\w1=w') (λq a=>⟨λh=>⟨b,by rw[ax];exact c.cell,a _ _ ⟨by rw[h,ij],rfl⟩⟩,λh=>a _ _ ⟨by rw[h,ky],rfl⟩⟩) ?_;rintro j _ ⟨k,rfl⟩;refine cl (λx w'=>x=(j&&decide (b<=1000))/\w1=w') (λq a=>⟨λh=>⟨b,by rw[ax];exact c.cell,a _ _ ⟨by rw[h,ij],rfl⟩⟩,λh=>a _ _ ⟨by rw[h,ky],rfl⟩⟩) ?_;rintro l _ ⟨m,rfl⟩;refine cl (λx w'=>x=(l&&decide (1<=d))/\w1=w') (λq a=>⟨λh=>⟨d,by rw[ax];exact c.cell,a _ _ ⟨by rw[h,ij],rfl⟩⟩,λh=>a _ _ ⟨by rw[h,ky],rfl⟩⟩) ?_;rintro n _ ⟨o,rfl⟩;refine cl (λx w'=>x=(n&&decide (d<=1048576))/\w1=w') (λq a=>⟨λh=>⟨d,by rw[ax];exact c.cell,a _ _ ⟨by rw[h,ij],rfl⟩⟩,λh=>a _ _ ⟨by rw[h,ky],rfl⟩⟩) ?_;rintro s _ ⟨r,rfl⟩;refine⟨?_,hx⟩;rw[r,o,m,k,i,h1,Value.bool.injEq,fm];simp only[dO,cO,and_assoc];exact Iff.rfl
theorem tY{D:aV}{no:Nat}{s:Y}{l:cF}{N:Nat}(a:∀q,aB s q->bF D q\/N<=q):∀q,bF (D.put no s l) q->bF D q\/N<=q:=by
 rintro q (e|e|e|⟨x,hx,e⟩)
 .exact .inl (.inl e)
 .exact .inl (.inr (.inl e))
 .exact .inl (.inr (.inr (.inl e)))
 .rcases cR.1 hx with rfl|hx
  .exact a q e
  .exact .inl (.inr (.inr (.inr ⟨x,(g0.1 hx).1,e⟩)))
def Fx(D:aV)(u:cz)(gen:Nat)(w:J)(v:aa)(w':J):Prop:=
 ae (bF D) w w'/\((D.e_ 2=true/\v=.int .i64 3/\cj w' (D.b_ 2))\/
 (D.e_ 2=false/\∃s:Y,(∀q,aB s q->bF D q\/w.heap.size<=q)/\∃a8:aV,a8=D.put (gen%2) s (dW (gen%2) (hU u D.n gen))/\
   ((a8.e_ 3=true/\v=.int .i64 3/\cj w' (a8.b_ 3))\/(a8.e_ 3=false/\v=.int .i64 0/\cj w' (a8.b_ 3).hV))))
theorem lB(h:cj w D)(P:D.aO<=999999999){u:cz}(hu:lZ u){gen:Nat}(hg:gen<18446744073709551616):
 aH ai 77 #[.pointer (some D.d),.agg u.c.toArray,.int .u64 (gen:Nat)] w (Fx D u gen w):=by
 have Q:=h.bG;have R:=h.bc;refine af.Cg _ (u.root:Nat) (u.aD:Nat) (u.map:Nat) (u.clock:Nat) (u.dc:Nat) (u.keys:Nat) (gen:Nat) w _ ?_;(delta af.lB U r1 bt aA aW j_ bW au al;dsimp only);have A:IntKind.wrap .i64 (Int.tmod (gen:Int) 2)=((gen%2:Nat):Int):=by
  rw[qN I,bB I I];omega
 refine bk (vs:=u.c) rfl λw1 B j S=>⟨by decide,?_⟩;have a:=cr w1;have C:=B.ext a;have E:=h.ext (j.trans a);refine aY ⟨λ_=>False,id,fV C ((oD E).use ?_)⟩;rintro _ _ ⟨rfl,rfl⟩;refine⟨_,rfl,ae.refl _ _,(nZ hu (n:=D.n) I).use ?_⟩;rintro _ F ⟨k,rfl,G,t,T⟩;rw[A];refine⟨k,rfl,λ_=>False,#[(3:Int),.int .u64 (gen:Nat),k],λV=>by kernel_rfl,(tA (s:=k) (p:=hU u D.n gen) G.src I (wF hg)).use ?_⟩;rintro _ W ⟨H,rfl,J,v,K⟩;have b:=(j.trans a).trans (Ext.trans t v);have L:=h.ext b;have X:=b.size;have M:(dW (gen%2) (hU u D.n gen)).length=256:=p3 _ (wF hg);have Y:w.heap.size<=F.heap.size:=by have:=(j.trans a).size;have:=t.size;omega
 refine⟨H,0,rfl,v,λh=>(by cases h),λ_=>(tJ L (i:=gen%2) I I J.src M λq f hf=>by have:=K q f;have:=h.lt hf;omega).use ?_⟩;rintro _ N (⟨g,rfl,hd,hc⟩|⟨g,rfl,s,hd,hc,x⟩)
 .exact⟨3,rfl,λ_=>⟨ck (b.mono λ_ _ h=>h.elim) hc λq _ e=>by rw[e];exact .inl rfl,.inl ⟨g,rfl,hd⟩⟩,λh=>(by cases h)⟩
 .have y:ae (bF D) w N:=ck (b.mono λ_ _ h=>h.elim) hc λq _ e=>e
  have O:=tY (no:=gen%2) (l:=dW (gen%2) (hU u D.n gen)) x;refine⟨0,rfl,λh=>(by cases h),λ_=>(wK hd (by show D.aO+1<=_;omega)).use ?_⟩;have z:∀q,aB s q->bF D q\/w.heap.size<=q:=λq f=>(x q f).imp id λh=>by omega
  rintro _ Z (⟨m,rfl,o,r⟩|⟨m,rfl,o,r⟩)
  .exact⟨3,rfl,ck y r λq _ e=>by rw[e];exact .inl rfl,.inr ⟨g,s,z,_,rfl,.inl ⟨m,rfl,o⟩⟩⟩
  .exact⟨0,rfl,ck y r λq f e=>(O q e).resolve_right I,.inr ⟨g,s,z,_,rfl,.inr ⟨m,rfl,o⟩⟩⟩
end
def bitsOf(ns:O Int)(i:Nat):ag:=((ns.getD (i/8) 0).toNat).testBit (i%8)
theorem Av(ns:O Int)(i:Nat)(h:8*ns.length<=i):bitsOf ns i=false:=by
 unfold bitsOf;have:ns.length<=i/8:=by omega
 simp[List.getD,kz this]
theorem Fy(ns:O Int)(h:∀n∈ns,0<=n/\n<=255):ns.map (Value.int .u8)=eu (bitsOf ns) ns.length:=by
 apply List.ext_getElem
 .simp[eu]
 .intro i h1 c
  have hi:i<ns.length:=by simpa using h1
  simp only[eu,List.getElem_map,List.getElem_range]
  congr 1
  obtain⟨mX,av⟩:=h ns[i] (cm hi);have:=tM (bitsOf ns) i ns[i].toNat I (λj d=>by
   unfold bitsOf;have a:(8*i+j)/8=i:=by omega
   have b:(8*i+j)%8=j:=by omega
   rw[a,b];simp[List.getD,hi])
  rw[←this];omega
theorem Fz:∀x:Nat,x<256->∀j:Nat,j<8->decide (Int.fdiv (x:Int) (2^(min (Int.toNat (j:Int)) 8))>0)=(List.range 8).any (λk=>decide (j<=k)&&x.testBit k):=by decide+kernel
section
variable {w w':J}{b n:Nat}{f g:Nat->ag}{s1 s2:Y}
def nd(ns:O Int)(n:Nat):Prop:=ns.length=(n+7)/8/\∀i,n<=i->bitsOf ns i=false
theorem FA{ns:O Int}{n:Nat}(hl:ns.length=(n+7)/8)(l:0<n%8){x:Nat}(hx:x<256)(a:ns[ns.length-1]? =some (x:Int)):
 decide (Int.fdiv (x:Int) (2^(min (Int.toNat ((n%8:Nat):Int)) 8))>0)=false↔∀i,n<=i->bitsOf ns i=false:=by
 rw[Fz x hx _ (g1 _ I)];have f:ns.length-1=n/8:=by omega
 rw[f]at a;rw[nk];constructor
 .intro h i hi
  rcases dJ i (8*ns.length) with c|c
  .have e:i/8=n/8:=by omega
   unfold bitsOf;rw[e];simp only[List.getD,a,oX,du];have:=h (i%8) (ik.2 (g1 _ I));have b:n%8<=i%8:=by omega
   simpa[b] using this
  .exact Av ns i c
 .intro h k d
  have d:=ik.1 d;by_cases b:n%8<=k
  .have:=h (8*(n/8)+k) I
   unfold bitsOf at this;have g:(8*(n/8)+k)/8=n/8:=by omega
   have j:(8*(n/8)+k)%8=k:=by omega
   rw[g,j]at this;simp only[List.getD,a,oX,du]at this;simp[this]
  .simp[b]
theorem n4{s:Y}{ns:O Int}(hs:Src 1 w s (ns.map (.int .u8)))(m:∀n∈ns,(0:Int)<=n/\n<=255)(Q:ns.length<=1000000)(n:Int):
 aH ai 173 #[.slice s.a s.len s.cap,.int .i64 n] w (λv w'=>Ext w w'/\((¬(1<=n/\n<=1600)/\v=.tuple #[.pointer none,.int .i64 1])\/
  (1<=n/\n<=1600/\¬nd ns n.toNat/\v=.tuple #[.pointer none,.int .i64 4])\/
  (1<=n/\n<=1600/\nd ns n.toNat/\∃b s1 s2,v=.tuple #[.pointer (some ⟨b,0,none⟩),.int .i64 0]/\en w' b n.toNat (bitsOf ns) (bitsOf ns) s1 s2/\∀k,eN b s1 s2 k->w.heap.size<=k))):=by
 have hlen:s.len=ns.length:=by have:=hs.len;simp at this;omega
 refine okF (af.n4 s n) ay.n4 func173 ?_;(delta af.n4 ao aG al aA au b4 aW aT U;dsimp only);refine(zM w n).use ?_;rintro _ _ ⟨rfl,rfl⟩;refine⟨_,rfl,λh=>⟨.refl _ _,.inl ⟨by simp at h;omega,rfl⟩⟩,λh=>?_⟩;have h:1<=n/\n<=1600:=by simpa using h
 obtain⟨n,rfl⟩:=o6 (by omega:0<=n);simp only[du];refine(zN w n I).use ?_;rintro _ _ ⟨rfl,rfl⟩;refine⟨_,rfl,cl (λc w'=>(c=true↔¬nd ns n)/\w=w') (λq u=>⟨λf=>u _ _ ⟨?_,rfl⟩,λg=>⟨by decide,?_⟩⟩) ?_⟩
 .have f:¬ns.length=(n+7)/8:=by
   intro h;rw[hlen,h]at f;simp at f
  exact⟨λ_ hg=>f hg.1,λ_=>rfl⟩
 .have g:ns.length=(n+7)/8:=by
   simp only[bne_eq_false_iff_eq]at g;omega
  refine cl (λc w'=>(c=true↔¬nd ns n)/\w=w') (λR y=>⟨λj=>?_,λj=>y _ _ ⟨?_,rfl⟩⟩) ?_
  .rw[qg]at j⊢
   have z:0<n%8:=by
    have:((n%8:Nat):Int)>0:=by simpa using j
    omega
   have o:ns.length-1<ns.length:=by omega
   obtain⟨x,F⟩:∃x:Nat,ns[ns.length-1]=(x:Int):=⟨ns[ns.length-1].toNat,by have:=m _ (cm o);omega⟩;have G:x<256:=by have:=m _ (cm o);omega
   have B:ns[ns.length-1]? =some (x:Int):=by rw[dD o,F]
   obtain⟨A,ar,C,hc⟩:=hs.at (i:=ns.length-1) (v:=.int .u8 x) (by rw[j3,B];rfl);rw[hlen,bB I I,show(((ns.length:Nat):Int)-1)=((ns.length-1:Nat):Int) from I];rw[hlen]at C;refine⟨A,ar,C,x,hc,by decide,I,y _ _ ⟨?_,rfl⟩⟩;have D:=FA g z G B;constructor
   .intro ht hg
    have:=D.2 hg.2;rw[ht]at this;cases this
   .intro p
    cases hd:decide (Int.fdiv (x:Int) (2^(min (Int.toNat ((n%8:Nat):Int)) 8))>0) with
    |true=>rfl
    |false=>exact(p ⟨g,D.1 hd⟩).elim
  .rw[qg]at j
   have z:n%8=0:=by
    have:¬((n%8:Nat):Int)>0:=by simpa using j
    omega
   constructor
   .intro h;cases h
   .intro p
    exact(p ⟨g,λi hi=>Av ns i I⟩).elim
  .rintro c _ ⟨hc,rfl⟩
   exact u _ _ ⟨hc,rfl⟩
 .rintro c _ ⟨hc,rfl⟩
  refine⟨λht=>⟨.refl _ _,.inr (.inl ⟨h.1,h.2,hc.1 ht,trivial⟩)⟩,λhf=>?_⟩;have hg:nd ns n:=by
   rcases Classical.em (nd ns n) with h|h
   .exact h
   .rw[hc.2 h]at hf;cases hf
  refine(zH hs (BF _ _) I).use ?_;rintro _ ah ⟨t,rfl,l,hx,H⟩;rw[Fy ns m,hg.1]at l;have J:=bh.new ah #[.int .i64 (n:Int),.slice t.a t.len t.cap,.slice none 0 0] 218;have E:Ext ah (ah.alloc (.cells #[.int .i64 (n:Int),.slice t.a t.len t.cap,.slice none 0 0] 218)):=ae.alloc (.refl _ _) _;have f:∀k,aB t k->k≠ah.heap.size:=λk d e=>by have:=l.lt k d;omega
  refine⟨t,rfl,(we J (l.ext E) f I).use ?_⟩;rintro _ S ⟨rfl,K,h1,L,M,N,r⟩;have T:=hx.size;refine⟨rfl,?_,.inr (.inr ⟨h.1,h.2,hg,ah.heap.size,t,K,rfl,⟨h1,L,M,λk d=>⟨f k d,λP=>?_⟩,λk d e=>?_,I,I,hg.2,hg.2⟩,?_⟩)⟩
  .exact((ae.cJ (hx.trans E)).trans N).mono λk d e=>by omega
  .have:=r k P
   have:=l.lt k d;simp at*;omega
  .have:=r k d
   simp at this;omega
  .rintro k (rfl|d|d)
   .omega
   .exact H k d
   .have:=r k d
    simp at this;omega
end
section
variable {w w':J}{C:bN}{X:Nat->Prop}
def Fr.gg(f:Fr):ag:=f.full&&f.fa
theorem FB:hY ai 200:=⟨Tryz.f200,func200,by kernel_rfl,by kernel_rfl⟩
theorem FC(f:Fr)(w:J):aH ai 200 #[.agg #[f.full,f.fa,f.used,f.no,f.pins,f.b]] w (λv w'=>v=f.gg/\Ext w w'):=by
 refine okF (af.sR f.full f.fa f.used f.no f.pins f.b) ay.sR func200 ?_;(delta af.sR a7 U al;dsimp only);refine bk (vs:=f.c) rfl λw1 a hx hs=>⟨f.full,a.cell,cl (λb w'=>b=f.gg/\w1=w') (λq d=>⟨λh=>⟨f.fa,by rw[ax];exact a.cell,d _ _ ⟨by unfold Fr.gg;rw[h];rfl,rfl⟩⟩,λh=>d _ _ ⟨by unfold Fr.gg;rw[h];rfl,rfl⟩⟩) ?_⟩;rintro _ _ ⟨rfl,rfl⟩;exact⟨rfl,hx⟩
def ie(fs:O Fr):O Int:=(fs.filter Fr.gg).map Fr.no
theorem Aw(h:eM w C):aH ai 145 #[.pointer (some C.c)] w (λv w'=>∃ (s:Y) (zs:O Int),v=s/\aZ 1 3 w' s (zs.map encZ)/\zs.Perm (ie C.aj)/\Ext w w'/\∀q,aB s q->w.heap.size<=q):=by
 obtain⟨bS,aA,aT⟩:=h.cells
 have aa:=h.b3
 refine okF (af.sH (some C.c)) ay.sH func145 ?_
 (delta af.sH aW;dsimp only)
 refine Calls.mono (af.Ct (some C.c) ⟨200,#[],#[]⟩ w (λv w'=>∃ (s:Y) (zs:O Int),v=s/\aZ 1 3 w' s (zs.map encZ)/\zs.Perm (ie C.aj)/\Ext w w'/\∀q,aB s q->w.heap.size<=q) ?_) ?_
 · (delta af.pT al ak aI a7 r1 U rK au aT;dsimp only)
   refine⟨λh=>(by cases h),λ_=>⟨_,rfl,⟨some C.aR,C.aj.length,C.aj.length⟩,aA,λs n w'=>∃i:Nat,n=(i:Int)/\i<=C.aj.length/\aZ 1 3 w' s ((ie (C.aj.take i)).map encZ)/\Ext w w'/\∀q,aB s q->w.heap.size<=q,λ_ n _=>((C.aj.length:Int)-n).toNat,⟨0,rfl,cI _,by simpa[ie] using aZ.none 1 3 w,.refl _ _,λq e=>(gi q e).elim⟩,?_⟩⟩
   rintro s _ p ⟨i,rfl,hi,a,hx,g⟩
   have A:=h.ext hx
   refine⟨λaJ=>?_,λB=>?_⟩
   · have r:i<C.aj.length:=by
       have:(i:Int)<(C.aj.length:Int):=cf aJ
       omega
     obtain⟨f,hf⟩:∃f,f=C.aj[i]:=⟨_,rfl⟩
     have ab:(ie (C.aj.take i)).length<=64:=by
       unfold ie
       rw[dE]
       have:=o7 Fr.gg (C.aj.take i)
       rw[cC]at this;omega
     have t:ie (C.aj.take (i+1))=ie (C.aj.take i)++(if f.gg then [f.no] else []):=by
       unfold ie
       rw[iL r,j2,fe,←hf,qO,List.filter_nil]
       congr 1
       split<;>rfl
     refine cl (λs w'=>aZ 1 3 w' s ((ie (C.aj.take (i+1))).map encZ)/\Ext w w'/\∀q,aB s q->w.heap.size<=q) (λq e=>?_) ?_
     · have hc:∀j,j<6->p.cell? ⟨C.aR,i*6+j,none⟩=(f.c)[j]? :=λj D=>by rw[hf];exact iV A.f r D
       refine⟨_,rfl,⟨I,by show(i:Int)<(C.aj.length:Int);omega⟩,?_⟩
       rw[qb]
       refine⟨f.full,hc 0 (by decide),f.fa,by rw[ax];exact hc 1 (by decide),f.used,by rw[ax];exact hc 2 (by decide),f.no,by rw[ax];exact hc 3 (by decide),f.pins,by rw[ax];exact hc 4 (by decide),f.b,by rw[ax];exact hc 5 (by decide),?_⟩
       refine bk (vs:=[false,false,false,(0:Int),(0:Int),()]) rfl λac u E ad=>⟨u.b5 rfl (λv l=>?_),rfl,cn u (us:=f.c) rfl rfl λy d F ae=>?_⟩
       · simp only[cR,eR,eY]at l
         rcases l with rfl|rfl|rfl|rfl|rfl|rfl<;>trivial
       have G:Ext p y:=Ext.cv E F (br _)
       refine⟨f.full,d.cell,f.fa,by rw[ax];exact d.cell,f.used,by rw[ax];exact d.cell,f.no,by rw[ax];exact d.cell,f.pins,by rw[ax];exact d.cell,f.b,by rw[ax];exact d.cell,FB,(FC f y).use ?_⟩
       rintro _ m ⟨rfl,z⟩
       have k:=Ext.trans G z
       have H:=d.ext z
       refine⟨_,rfl,λhd=>⟨f.no,by rw[ax];exact H.cell,aY ?_⟩,λhd=>e _ _ ⟨?_,Ext.trans hx k,g⟩⟩
       · have o:Ext m (m.alloc (.cells #[encZ f.no] 3)):=er _ _
         obtain⟨J,K,av,L,_,M,N⟩:=oy.append (dG:=58) (x:=⟨some m.heap.size,1,1⟩) (Src.new (T:=3) m [encZ f.no] 1 rfl) ((a.ext k).ext o) (λv l=>by rw[eX.1 l];trivial) (by
           have:s.len=(ie (C.aj.take i)).length:=by
             have:=a.1
             rw[dE]at this;omega
           show(2*(s.len+1)+1000)*8<=_;omega)
         refine⟨J,K,av,e _ _ ⟨?_,?_,λq e=>?_⟩⟩
         · rw[t,hd,if_pos rfl,fe];exact L
         · exact Ext.dj (Ext.trans (Ext.trans hx k) o) M g
         · rcases N q e with h1|h1
           · exact g q h1
           · have:=(Ext.trans hx k).size
             have:=o.size;omega
       · rw[t,hd]
         simp only[ft,if_false,fX]
         exact a.ext k
     · rintro ag ah ⟨h1,P,Q⟩
       have R:IntKind.wrap .i64 ((i:Int)+1)=((i+1:Nat):Int):=by rw[bB I I];omega
       rw[R]
       exact⟨⟨i+1,rfl,I,h1,P,Q⟩,by show((C.aj.length:Int)-((i+1:Nat):Int)).toNat<((C.aj.length:Int)-(i:Int)).toNat;omega⟩
   · have S:i=C.aj.length:=by
       have:¬(i:Int)<(C.aj.length:Int):=cx B
       omega
     rw[S,il]at a
     refine(Al a (by
       unfold ie
       rw[dE]
       have:=o7 Fr.gg C.aj;omega)).use ?_
     rintro _ am ⟨rfl,V,zs,W,X⟩
     exact⟨rfl,s,zs,rfl,W,X.1,Ext.dj hx V g,g⟩
 · rintro _ w1 ⟨_,rfl,s,zs,rfl,a,Z,hx,hf⟩
   exact⟨s,rfl,s,zs,rfl,a,Z,hx,hf⟩
end
section
variable {w w':J}{C:bN}{X:Nat->Prop}
theorem FD{D:aV}{no:Nat}{s:Y}{l:cF}{N:Nat}(a:∀q,aB s q->bF D q\/N<=q):∀q,bF (D.put no s l) q->bF D q\/N<=q:=by
 rintro q (e|e|e|⟨x,hx,e⟩)
 .exact .inl (.inl e)
 .exact .inl (.inr (.inl e))
 .exact .inl (.inr (.inr (.inl e)))
 .rcases cR.1 hx with rfl|hx
  .exact a q e
  .exact .inl (.inr (.inr (.inr ⟨x,(g0.1 hx).1,e⟩)))
theorem eM.mQ{aw:aV}(h:eM w C)(hd:cj w' aw)(e:aw.d=C.D.d)(hc:ae (bF C.D) w w')(hf:∀q,bF aw q->bF C.D q\/w.heap.size<=q):eM w' {C with D:=aw}:=by
 have h1:=h.v.ad hc h.a1.2.1;rw[←e]at h1;have a:C.c<w.heap.size:=h.v.lt;have b:C.aR<w.heap.size:=bh.lt h.f;refine⟨h1,bh.ad h.f hc h.a1.2.2,hd,h.bR,h.b3,h.hd,h.a1.1,λg=>?_,λg=>?_⟩
 .rcases hf _ g with g|g
  .exact h.a1.2.1 g
  .have g:w.heap.size<=C.c:=g
   omega
 .rcases hf _ g with g|g
  .exact h.a1.2.2 g
  .have g:w.heap.size<=C.aR:=g
   omega
def bN.wrote(C:bN)(i no:Nat)(hi:i<C.aj.length)(s:Y):bN:={C with aj:=C.aj.set i {C.aj[i] with fa:=false},D:=C.D.put no s (C.aj[i]).l}
theorem FE(h:dy X w C){i no:Nat}(hi:i<C.aj.length)(hf:(C.aj[i]).full=true)(t:(C.aj[i]).no=no){s:Y}(J:¬C.D.bD no=true)(hd:cj w' (C.D.put no s (C.aj[i]).l))(hc:ae (bF C.D) w w')(W:∀q,aB s q->bF C.D q\/w.heap.size<=q):
 (∃u:aa,w'.cell? ⟨C.aR,i*6+1,none⟩=some u)/\w'.frozen? ⟨C.aR,i*6+1,none⟩=false/\dy X (w'.setCell ⟨C.aR,i*6+1,none⟩ false) (C.wrote i no hi s)/\
   dY C (C.wrote i no hi s) w (w'.setCell ⟨C.aR,i*6+1,none⟩ false) 1/\∀j,(C.wrote i no hi s).view j=C.view j:=by
 have z:=FD (no:=no) (l:=(C.aj[i]).l) W;obtain⟨aw,x⟩:∃aw,aw=C.D.put no s (C.aj[i]).l:=⟨_,rfl⟩;have B:∀j,aw.now j=if j=no then (C.aj[i]).l else C.D.now j:=by rw[x];exact m3 _ _ _ _
 have K:aw.d=C.D.d:=by rw[x];rfl
 have Z:aw.n=C.D.n:=by rw[x];rfl
 have ab:aw.key=C.D.key:=by rw[x];exact zp C.D J
 have L:jw aw C.D:=by rw[x];exact zo h.inv J
 have ap:aw.aO=C.D.aO+1:=by rw[x];rfl
 have ac:∀m,C.D.calm (m+1)->aw.calm m:=λm ad=>by rw[x];exact(iD (.inr rfl) h.raw.dev.f4 ad).1
 unfold bN.wrote;rw[←x]at hd z⊢;have M:=h.raw.mQ hd K hc z;obtain⟨a1,a2,a3,a4⟩:=lP M.f hi (j:=1) (by decide) (v:=false) {C.aj[i] with fa:=false} rfl;obtain⟨g,o⟩:∃g:Fr,g={C.aj[i] with fa:=false}:=⟨_,rfl⟩;rw[←o]at a3⊢;refine⟨a1,a2,?_⟩;generalize w'.setCell ⟨C.aR,i*6+1,none⟩ false=E at a3 a4;have H:ae (cK C) w E:=ck (hc.mono λq _ e=>.inr (.inr e)) a4 λq _ e=>.inr (.inl e);obtain⟨y,av,af,ag,ah,aq,ar,ai⟩:=h.inv.ok _ (cm hi) hf;have ak:y=no:=by rw[t]at av;omega
 subst ak;obtain⟨a,r⟩:∃a:bN,a={C with aj:=C.aj.set i dm,D:=aw}:=⟨_,rfl⟩;have h1:fJ X E a:=by
  rw[r];exact vW (V:=cK C) hi h.inv H (λ_ _ h=>h) L (λj A=>by rw[B,if_neg λe=>A hf (by rw[t,e])]) z dm rfl rfl
 have v1:∀j,a.view j=C.view j:=λj=>by
  rw[r];exact zn hi h.inv (λ_ j A=>by rw[B,if_pos (by rw[t]at A;omega)]) (λj A=>by rw[B,if_neg λe=>A hf (by rw[t,e])]) dm rfl j
 have F:a.aj=C.aj.set i dm:=by rw[r]
 have N:i<a.aj.length:=by rw[F,cX];exact hi
 have O:∀ (k:Nat) (al:k<a.aj.length),k≠i->(a.aj[k]).full=true->(a.aj[k]).no≠y:=λk al P G Q=>by
  simp only[F,eZ (Ne.symm P)]at G Q;exact P (h.inv.un k i _ hi G hf (by rw[Q,t]))
 have R:C.aj.set i g=a.aj.set i g:=by rw[F,set_set]
 have S:({C with aj:=C.aj.set i g,D:=aw}:bN)={a with aj:=a.aj.set i g,D:=aw}:=by rw[R,r]
 have am:bg (λq=>¬cK {C with aj:=C.aj.set i g,D:=aw} q/\¬X q) E g.b g.l:=by
  rw[o];refine bg.re ag H (λq _ T=>T.1) λq T U=>⟨λp=>U.1 ?_,U.2⟩;rcases p with p|p|p
  .exact .inl p
  .exact .inr (.inl p)
  .exact .inr (.inr ((z q p).resolve_right I))
 have G:fJ X E {C with aj:=C.aj.set i g,D:=aw}:=by
  rw[S];refine vX (C:=a) (no:=y) (V:=λ_=>False) N h1 (.refl _ _) (λ_ _ h=>h.elim) (by rw[r];exact⟨rfl,λ_ h=>h,L.2.2⟩) (λj=>by rw[r]) (λq=>by rw[r]) g (by rw[o];exact hf) (by rw[o];exact h.inv.pins (C.aj[i]) (cm hi)) ⟨by rw[o];exact t,by show y<aw.n;rw[Z];exact af,by rw[←S];exact am,by rw[o];exact ah,λ_=>?_,λ_=>by rw[o],ai⟩ O;show g.l=aw.now y;rw[B,if_pos rfl,o]
 have an:∀j,({C with aj:=C.aj.set i g,D:=aw}:bN).view j=C.view j:=λj=>by
  have ao:({C with aj:=C.aj.set i g,D:=aw}:bN)=bN.mk a.c a.aR (a.aj.set i g) C.hand aw:=by rw[R,r]
  rw[ao,vY (C:=a) (hd:=C.hand) (aw:=aw) (no:=y) N h1.un (λj=>by rw[r]) g (by rw[o];exact hf) (by rw[o];exact t) (λp=>by simp only[F,gN]at p;cases p) O j,v1];split
  .rename_i e
   subst e;have:=kX (fs:=C.aj) (D:=C.D) (c:=C.c) (aR:=C.aR) (hd:=C.hand) h.inv.un hi hf t;rw[o];exact this.symm
  .rfl
 refine⟨⟨?_,G⟩,⟨rfl,K,by show(C.aj.set i _).length=_;rw[cX],ab,by show aw.aO<=_;omega,ac,H,?_⟩,an⟩
 .refine vZ (C:={C with D:=aw}) M a4 a3
 .rintro q (e|e|e)
  .exact .inl (.inl e)
  .exact .inl (.inr (.inl e))
  .exact(z q e).imp (λh=>.inr (.inr h)) id
theorem wL{aw:aV}(h:dy X w C)(hd:cj w' aw)(e:aw.d=C.D.d)(b:jw aw C.D)(a:∀i,aw.now i=C.D.now i)(hc:ae (bF C.D) w w')(hf:∀q,bF aw q->bF C.D q\/w.heap.size<=q):dy X w' {C with D:=aw}/\∀j,({C with D:=aw}:bN).view j=C.view j:=
 ⟨⟨h.raw.mQ hd e hc hf,qd (C:=C) (hd:=C.hand) h.inv (gG.refl _) (hc.mono λq _ e=>.inr (.inr e)) (λ_ _ h=>h) b a hf⟩,λj=>qe (C:=C) (hd:=C.hand) h.inv (gG.refl _) a j⟩
theorem FF(h:dy X w C)(hc:∀f∈C.aj,f.gg=false)(j:Nat):C.view j=C.D.now j:=by
 unfold bN.view
 cases b:C.aj.find? λf=>f.full&&f.no==(j:Int) with
 |none=>rfl
 |some f=>
  have c:=iq b;have a:=je b;simp only[dO,jc]at a;obtain⟨no,av,g,i,k,d⟩:=h.inv.ok f c a.1;have h1:=hc f c;unfold Fr.gg at h1;rw[a.1,ij]at h1;have e:no=j:=by rw[a.2]at av;omega
  rw[←e];exact d h1
theorem Ax{D:aV}(h:cj w D)(i:Nat):D.hV.now i=D.now i:=by
 by_cases hi:i<D.n
 .exact wJ D hi
 .have h1:D.now i=[]:=by
   unfold aV.now
   cases hf:D.waits.find? λx=>x.i==i with
   |some x=>
    have hx:=iq hf;have he:x.i=i:=by simpa using je hf
    have:=(h.wn x hx).2.1;omega
   |none=>
    have:¬i<D.a_.length:=hi;show D.a_.getD i []=[];rw[e6,kz I];rfl
  rw[h1];show((List.range D.n).map D.now).getD i []=[];rw[e6,kz (by simp;omega)];rfl
theorem qo(D:aV){m:Nat}(h:D.calm m):(D.b_ 3).calm m:=by
 unfold aV.calm aV.b_ at*;simpa[e6] using h
structure FG(X:Nat->Prop)(C aC:bN)(w:J)(v:aa)(w':J):Prop where
 at_:dy X w' aC
 c:aC.c=C.c
 d:aC.D.d=C.D.d
 len:aC.aj.length=C.aj.length
 n:aC.D.n=C.D.n
 bD:aC.D.bD=C.D.bD/\aC.D.dQ=C.D.dQ
 aO:aC.D.aO<=C.D.aO+64
 calm:∀m,C.D.calm (m+64)->aC.D.calm m
 ad:ae (cK C) w w'
 cN:∀q,cK aC q->cK C q\/w.heap.size<=q
 view:∀j,aC.view j=C.view j
 gS:(v=.int .i64 0/\aC.D.waits=[]/\(∀f∈aC.aj,f.gg=false)/\aC.D.bY.getD 3 0=(fH (C.D.bY.getD 3 0)).2)\/(v=.int .i64 3/\aC.D.a_=C.D.a_/\(¬C.D.calm 64\/C.D.e_ 3=true))
theorem FH(h:dy X w C)(a7:C.D.aO<=999999900)(ar:∀j,C.D.bD j=true->C.D.dQ j=[]):aH ai 163 #[.pointer (some C.c)] w (λv w'=>∃aC,FG X C aC w v w'):=by
 have a8:=h.raw.b3;refine okF (af.sM (some C.c)) ay.sM func163 ?_;(delta af.sM al aW aI r1 jK ak aA st au;dsimp only);refine⟨λh=>(by cases h),λ_=>(Aw h.raw).use ?_⟩;rintro _ w1 ⟨s,zs,rfl,hs,N,Z,aw⟩;have hlen:s.len=zs.length:=by have:=hs.1;rw[dE]at this;omega
 have a9:zs.length<=64:=by
  rw[N.length_eq];unfold ie;rw[dE];have:=o7 Fr.gg C.aj;omega
 have h1:=h.ext Z;have az:∀z∈zs,∀no:Nat,(no:Int)=z->¬C.D.bD no=true:=λz t no ba hs=>by
  obtain⟨f,hf,e⟩:=dZ.1 (N.mem_iff.1 t);obtain⟨R,u⟩:=g0.1 hf;unfold Fr.gg at u;rw[dO]at u;obtain⟨m,bR,_,_,_,_,aa,aD⟩:=h.inv.ok f R u.1;have:m=no:=by rw[e]at bR;omega
  subst this;rw[aa hs]at u
  cases u.2
 refine⟨s,rfl,λn w'=>∃ (i:Nat) (g:bN),n=(i:Int)/\i<=zs.length/\dy X w' g/\dY C g w w' i/\(∀j,g.view j=C.view j)/\aZ 1 3 w' s (zs.map encZ)/\(∀f∈g.aj,f.gg=true->f.no∈zs.drop i)/\(∀z∈zs,∃f∈g.aj,f.full=true/\f.no=z)/\∀q,cK g q->¬aB s q,
  λn _=>((zs.length:Int)-n).toNat,⟨0,C,rfl,cI _,h1,dY.ext C Z,λ_=>rfl,hs,λf hf hd=>?_,λz t=>?_,λq o O=>?_⟩,?_⟩
 .exact N.mem_iff.2 (dZ.2 ⟨f,g0.2 ⟨hf,hd⟩,rfl⟩)
 .obtain⟨f,hf,e⟩:=dZ.1 (N.mem_iff.1 t)
  obtain⟨R,u⟩:=g0.1 hf;unfold Fr.gg at u;rw[dO]at u;exact⟨f,R,u.1,e⟩
 .have:=aw q O;have:=h.raw.lt o;omega
 rintro _ S ⟨i,g,rfl,hi,p,l,P,T,ac,hex,ag⟩;have bb:=l.aO;refine⟨λaJ=>?_,λaE=>?_⟩
 .have G:i<zs.length:=by
   have:(i:Int)<(s.len:Int):=cf aJ;omega
  obtain⟨a,aF,aG⟩:∃a:ab,s.a=some a/\S.cell? (a.add (Int.toNat (i:Int)*1))=some (.int .i64 zs[i]):=by
   obtain⟨b,c,y,_,_,_,_,U,_⟩:=T.cell (i:=i) (v:=encZ zs[i]) (by rw[j3,dD G];rfl);exact⟨_,y,by rw[du,ax,cH,fu];exact U⟩
  refine⟨a,aF,⟨I,by show(i:Int)<(s.len:Int);omega⟩,zs[i],aG,?_⟩;rw[←l.c];refine(tL p.raw _).use ?_;rintro _ _ ⟨aK,rfl⟩;obtain⟨f,aL,aM,aN⟩:=hex zs[i] (cm G);rcases aK with ⟨k,H,rfl,av,V⟩|⟨_,aP⟩
  rotate_left
  .exact absurd aN (aP f aL aM)
  have J:=cr S;have B:=p.ext J;obtain⟨no,bR,b3,am,aQ,bc,aa,aD⟩:=B.inv.ok _ (cm H) av;have t:zs[i]=(no:Int):=by rw[←V,bR]
  have aS:=iV B.raw.f H (j:=5) (by decide);refine⟨_,rfl,aY ⟨_,rfl,id,_,B.raw.cells.1,_,rfl,id,(g.aj[k]).b,by rw[ax];exact aS,?_⟩⟩;rw[t];refine(tJ B.raw.dev (i:=no) b3 I am.1 aQ λq o hf=>(am.2.2 q o).1.1 (.inr (.inr hf))).use ?_;rintro aT ah aU;have aX:=l.ad.size;have bd:=J.size;rcases aU with ⟨y,rfl,E,r⟩|⟨y,rfl,s2,E,r,a0⟩
  .obtain⟨gX,K⟩:=wL B E rfl (B.inv.b_ 2) (λj=>qc g.D 2 j) (r.mono λq _ e=>.inl e) λq o=>.inl o
   refine⟨3,rfl,λ_=>⟨{g with D:=g.D.b_ 2},gX,l.c,l.d,l.len,l.n,l.lQ,by show g.D.aO<=_;omega,λm L=>?_,?_,?_,λj=>(K j).trans (P j),.inr ⟨rfl,?_,.inl λa1=>?_⟩⟩,λh=>(by cases h)⟩
   .exact(iD (.inr rfl) p.raw.dev.f4 (l.calm (m+1) (fT L I))).1
   .refine ck (l.ad.trans (ae.cJ J)) r λq o e=>?_
    exact(l.cN q (.inr (.inr (.inl e)))).resolve_right I
   .exact l.cN
   .exact congrArg (λk=>k.1.1) l.a_
   .have:=(iD (k:=2) (m:=0) (.inr rfl) p.raw.dev.f4 (l.calm 1 (fT a1 I))).2
    rw[y]at this;cases this
  .obtain⟨bo,bj,an,Q,a2⟩:=FE B H av (by rw[V,t]) (λhs=>az _ (cm G) _ t.symm (by rw[←l.bD];exact hs)) E r a0
   refine⟨0,rfl,λh=>(by cases h),λ_=>⟨_,rfl,by rw[ax];exact bo,by rw[ax];exact bj,?_⟩⟩;rw[ax];refine aY ?_;generalize ah.setCell ⟨g.aR,k*6+1,none⟩ false=be at an Q;have a3:IntKind.wrap .i64 ((i:Int)+1)=((i+1:Nat):Int):=by rw[bB I I];omega
   rw[a3];have a4:=(l.trans (dY.ext g J)).trans Q;have a5:zs.drop i=zs[i]::zs.drop (i+1):=k_ G;refine⟨⟨i+1,_,rfl,I,an,a4,λj=>(a2 j).trans (P j),(T.ext J).ad Q.ad λq o hf=>ag q hf o,λf hf A=>?_,λz t=>?_,λq o O=>?_⟩,by show((zs.length:Int)-((i+1:Nat):Int)).toNat<((zs.length:Int)-(i:Int)).toNat;omega⟩
   .have hf:f∈g.aj.set k {g.aj[k] with fa:=false}:=hf
    obtain⟨b,W,rfl⟩:=eD hf;have ao:b<g.aj.length:=by simpa using W
    by_cases e:k=b
    .subst e
     simp[Fr.gg]at A
    .simp only[eZ e]at A⊢
     have F:=ac _ (cm ao) A;rw[a5]at F;rcases cR.1 F with Y|Y
     .unfold Fr.gg at A
      rw[dO]at A;exact absurd (p.inv.un k b H ao av A.1 (by rw[V,Y])) e
     .exact Y
   .obtain⟨f,f1,f2,f3⟩:=hex z t
    obtain⟨b,W,rfl⟩:=eD f1;by_cases e:k=b
    .subst e
     exact⟨{g.aj[k] with fa:=false},List.mem_set H _,f2,f3⟩
    .exact⟨g.aj[b],List.mem_iff_getElem.2 ⟨b,by show b<(g.aj.set k _).length;rw[cX];exact W,by show(g.aj.set k _)[b]'_=_;rw[eZ e]⟩,f2,f3⟩
   .rcases Q.cN q o with F|F
    .exact ag q F O
    .have:=T.lt q O;omega
 .have G:i=zs.length:=by
   have:¬(i:Int)<(s.len:Int):=cx aE;omega
  have U:∀f∈g.aj,f.gg=false:=λf hf=>by
   cases A:f.gg with
   |false=>rfl
   |true=>
    have:=ac f hf A;rw[G,List.drop_length]at this
    cases this
  have ap:g.D.bY.getD 3 0=C.D.bY.getD 3 0:=congrArg Prod.snd l.a_;rw[←l.c];refine⟨_,rfl,_,p.raw.cells.1,(wK p.raw.dev I).use ?_⟩;have aX:=l.ad.size;rintro aT ah (⟨y,rfl,E,r⟩|⟨y,rfl,E,r⟩)
  .obtain⟨gX,K⟩:=wL p E rfl (p.inv.b_ 3) (λj=>qc g.D 3 j) (r.mono λq _ e=>.inl e) λq o=>.inl o
   refine⟨3,rfl,{g with D:=g.D.b_ 3},gX,l.c,l.d,l.len,l.n,l.lQ,by show g.D.aO<=_;omega,λm L=>qo _ (l.calm m (fT L I)),ck l.ad r λq o e=>(l.cN q (.inr (.inr (.inl e)))).resolve_right I,l.cN,λj=>(K j).trans (P j),.inr ⟨rfl,congrArg (λk=>k.1.1) l.a_,.inr ?_⟩⟩;unfold aV.e_ at y⊢;rw[←ap];exact y
  .have aq:∀q,bF (g.D.b_ 3).hV q->bF g.D q\/S.heap.size<=q:=by
    rintro q (e|e|e|⟨x,hx,e⟩)
    .exact .inl (.inl e)
    .exact .inl (.inr (.inl e))
    .exact .inl (.inr (.inr (.inl e)))
    .cases hx
   have a6:∀j,(g.D.b_ 3).hV.now j=g.D.now j:=λj=>by
    by_cases M:j<g.D.n
    .exact(wJ (g.D.b_ 3) M).trans (qc g.D 3 j)
    .have F:g.D.hV.now j=g.D.now j:=Ax p.raw.dev j
     exact F
   obtain⟨gX,K⟩:=wL p E rfl ⟨qn (g.D.b_ 3),λ_ h=>h,λj M=>by
    have M:g.D.bD j=true:=M;have e:g.D.dQ j=[]:=by rw[l.lQ.2];exact ar j (by rw[←l.lQ.1];exact M)
    exact e.symm⟩ a6 r aq
   refine⟨0,rfl,{g with D:=(g.D.b_ 3).hV},gX,l.c,l.d,l.len,(qn (g.D.b_ 3)).trans l.n,l.lQ,by show g.D.aO<=_;omega,λm L=>qo g.D (l.calm m (fT L I)),ck l.ad r λq o e=>(l.cN q (.inr (.inr e))).resolve_right I,λq o=>?_,λj=>(K j).trans (P j),.inl ⟨rfl,rfl,U,?_⟩⟩
   .rcases o with e|e|e
    .exact l.cN q (.inl e)
    .exact l.cN q (.inr (.inl e))
    .rcases aq q e with e|e
     .exact l.cN q (.inr (.inr e))
     .exact .inr I
   .show(g.D.bY.set 3 _).getD 3 0=_
    have bf:=p.raw.dev.f4;rw[eH (by rw[cX];omega),gN,ap]
end
def gn(a6 d c sb:Nat)(l:fC)(u:cz)(gen now first pending keys:Nat)(failed:ag):O aa:=
 [.pointer (some a6),.pointer (some d),.pointer (some c),.pointer (some sb),l.aj,l.batch,.int .u64 (l.gk:Nat),
  u.root,u.aD,u.map,.int .u64 (u.clock:Nat),.int .u64 (u.dc:Nat),u.keys,
  .int .u64 (gen:Nat),.int .u64 (now:Nat),.int .u64 (first:Nat),pending,keys,failed]
section
variable {w w':J}{D:aV}
structure Ay(D:aV)(l:fC)(u:cz)(gen sb:Nat)(w:J)(v:aa)(w':J)(c aR a6 st:Nat):Prop where
 val:v=.tuple #[.pointer (some st),(0:Int)]
 ca:dy (λ_=>False) w' (g_ c aR l.aj D)
 fG:Var w' a6 [.pointer (some c),.pointer (some sb),.int .u64 ((gen+1:Nat):Int),u.root,u.aD] 239
 sv:Var w' st (gn a6 D.d c sb l u gen u.clock 0 0 u.keys false) 158
 x:Ext w w'
 hc:w.heap.size<=c/\c<a6
 hf:w.heap.size<=aR/\aR<a6
 ht:a6<st
def aV.fq(D:aV)(s:Nat->ag)(z:Nat->O cF):aV:={D with bD:=s,dQ:=z}
theorem cj.fq(h:cj w D)(s:Nat->ag)(z:Nat->O cF):cj w (D.fq s z):=⟨h.v,h.l,h.m,h.ws,h.wn,h.sl,h.jv,h.bG,h.bc,h.f4,h.fr,h.a1,h.a2,h.a3⟩
theorem lC(h:cj w D){l:fC}(hl:8<=l.aj/\l.aj<=64){u:cz}(hu:oN D.n (u.root:Nat) (u.aD:Nat)){gen:Nat}(hg:gen+1<18446744073709551616)(r:∀j,D.bD j=true->D.da j=D.dQ j)(sb:Nat):
 aH ai 78 #[.pointer (some D.d),.agg l.c.toArray,.agg u.c.toArray,.int .u64 (gen:Nat),.pointer (some sb)] w (λv w'=>∃c aR a6 st,Ay D l u gen sb w v w' c aR a6 st):=by
 refine af.Ch _ (l.aj:Nat) (l.batch:Nat) (l.gk:Nat) (u.root:Nat) (u.aD:Nat) (u.map:Nat) (u.clock:Nat) (u.dc:Nat) (u.keys:Nat) (gen:Nat) (some sb) w _ ?_;(delta af.lC r1 U de al bt mu;dsimp only);refine bk (vs:=l.c) rfl λw1 s i G=>bk (vs:=u.c) rfl λah t b H=>?_;have q:=s.ext b;have x:=h.ext (i.trans b);refine⟨_,q.cell,(n0 x hl.1 hl.2 r).use ?_⟩;rintro _ a ⟨c,aR,rfl,e,f,J,K⟩;have k:=t.ext f;have y:IntKind.wrap .u64 ((gen:Int)+1)=((gen+1:Nat):Int):=by rw[gz I I];omega
 rw[y];have L:(g_ c aR l.aj D).D=D:=rfl;refine⟨_,0,rfl,λh=>(by cases h),λ_=>⟨_,k.cell,_,by rw[ax];exact k.cell,(mC e.raw sb ((gen+1:Nat):Int) (u.root:Nat) (u.aD:Nat)).use ?_⟩⟩;rintro _ z (⟨_,rfl,g,A,M⟩|⟨B,_⟩)
 rotate_left
 .exact absurd hu B
 have m:=k.ext g;have o:=(q.ext f).ext g;have N:=(i.trans b).size;have O:=f.size;have C:c<a.heap.size:=e.raw.lt (.inl rfl);have E:aR<a.heap.size:=e.raw.lt (.inr (.inl rfl));refine⟨_,0,rfl,λh=>(by cases h),λ_=>⟨_,o.cell,_,by rw[ax];exact o.cell,_,by rw[ax];exact o.cell,fV m ⟨_,by rw[ax];exact m.cell,_,by rw[ax];exact m.cell,(gn a.heap.size D.d c sb l u gen u.clock 0 0 u.keys false).toArray,by kernel_rfl,bk (vs:=gn a.heap.size D.d c sb l u gen u.clock 0 0 u.keys false) rfl λP F p Q=>?_⟩⟩⟩;exact⟨c,aR,a.heap.size,z.heap.size,rfl,(e.ext g).ext p,A.ext p,F,Ext.trans (Ext.trans (i.trans b) f) (Ext.trans g p),⟨I,C⟩,⟨I,E⟩,I⟩
def e4(f:Nat->ag)(k:Nat):O UInt8:=(List.range k).map λi=>UInt8.ofNat (byteOf f i)
theorem Az(f:Nat->ag)(k:Nat):aF (e4 f k)=eu f k:=by
 unfold aF e4 eu;rw[gK];refine qG λi _=>?_;have:=iW f i;show Value.int .u8 (((UInt8.ofNat (byteOf f i)).toNat:Nat):Int)=_;rw[UInt8.toNat_ofNat',ir this]
theorem nf(f:Nat->ag)(k:Nat):(e4 f k).length=k:=by simp[e4]
def ja:cz:=⟨0,0,2,0,0,0⟩
structure AA(D aw:aV):Prop where
 d:aw.d=D.d
 n:aw.n=D.n
 now:∀j,aw.now j=if j=1 then dW 1 (hU ja D.n 1) else if j=2 then dW 2 ⟨4,1,e4 (λi=>decide (i<3)) ((D.n+7)/8)⟩ else if j=0 then fI else D.now j
 waits:aw.waits=[]
 aO:aw.aO=D.aO+4
 calm:∀k,aw.calm k
 bY:aw.bY.getD 3 0= -1
 bD:aw.bD=λi=>decide (i<3)
 dQ:aw.dQ=λ_=> []
structure FI(D:aV)(l:fC)(w:J)(v:aa)(w':J)(aw:aV)(sb:Nat)(s1 s2:Y)(c aR a6 st:Nat)(iU:J):Prop where
 AB:Ay aw l ja 1 sb iU v w' c aR a6 st
 sp:en w' sb D.n (λi=>decide (i<3)) (λi=>decide (i<3)) s1 s2
 mQ:AA D aw
 ad:ae (bF D) w iU
 qp:∀q,eN sb s1 s2 q->w.heap.size<=q/\q<iU.heap.size
 dq:∀q,bF aw q->bF D q\/(w.heap.size<=q/\q<iU.heap.size)
 FJ:∀q,eN sb s1 s2 q->¬bF aw q
theorem ke(h:cj w D){l:fC}(hl:ic (l.aj:Nat) (l.batch:Nat) (l.gk:Nat))(bl:∀k,D.calm k)(oB:D.bY.getD 3 0= -1)(b3:D.aO<=999999000):
 aH ai 19 #[.pointer (some ⟨D.d,0,none⟩),.agg l.c.toArray] w (λv w'=>∃aw sb s1 s2 c aR a6 st iU,FI D l w v w' aw sb s1 s2 c aR a6 st iU):=by
 have b4:=h.bG;have b5:=h.bc;refine af.B2 _ (l.aj:Nat) (l.batch:Nat) (l.gk:Nat) w _ ?_;(delta af.ke r1 U bt aG al aA de aW bW iR hG au ga;dsimp only);refine bk (vs:=l.c) rfl λw1 Q J b6=>⟨_,Q.cell,_,by rw[ax];exact Q.cell,_,by rw[ax];exact Q.cell,(lA w1 _ _ _ _).use ?_⟩;rintro _ bm ⟨rfl,C⟩;have bn:=h.ext (J.trans C);refine⟨_,rfl,λg=>?_,λ_=>(oD bn).use ?_⟩
 .rw[dv hl]at g;cases g
 rintro _ _ ⟨rfl,rfl⟩;refine⟨_,rfl,(nW bm (D.n:Nat) 3).use ?_⟩;rintro _ b7 (⟨bo,_⟩|⟨_,_,_,_,sb,s1,s2,rfl,hs,aa,ab⟩)
 .exact absurd ⟨I,I,I,I⟩ bo
 rw[du]at hs;have ac:Int.toNat 3=3:=rfl;rw[ac]at hs;refine⟨_,0,rfl,λh=>(by cases h),λ_=>(zL hs).use ?_⟩;rintro _ bp ⟨aN,rfl,aP,K,b8⟩;rw[←Az]at aP;obtain⟨mp,R⟩:∃mp:gV,mp=⟨4,1,e4 (λi=>decide (i<3)) ((D.n+7)/8)⟩:=⟨_,rfl⟩;have aQ:lL mp:=by rw[R];exact⟨(by decide:1<=4),(by decide:4<=4),(by decide:1<18446744073709551616),by show(e4 _ _).length<=232;rw[nf];omega⟩
 have aS:=tA (s:=aN) (p:=mp) (no:=2) (w:=bp) (by rw[R];exact aP.src) (by decide) aQ;rw[R]at aS;refine⟨aN,rfl,aS.use ?_⟩;rw[←R];rintro _ bq ⟨E,rfl,aT,N,bs⟩;have aU:=Ext.trans (Ext.trans (J.trans C) aa) (Ext.trans K N);have ca:=aU.size;refine⟨E,0,rfl,λh=>(by cases h),λ_=>⟨⟨I,I,I,I⟩,?_⟩⟩;rw[vC];have bu:Int.toNat 256=256:=rfl;rw[bu];have ap:fI.length=256:=lj;refine bk (vs:=aF fI) rfl λz S F cb=>?_;obtain⟨t,bv⟩:∃t,t=bq.heap.size:=⟨_,rfl⟩;rw[←bv]at S⊢;have ag:=Ext.trans aU F;have aX:Src 1 z ⟨some ⟨t,0,none⟩,256,256⟩ (aF fI):=S.yH (o:=0) (n:=256) (c:=256) (l:=fI) (by rw[dI,ap];exact br _) (by rw[kt,dT (by rw[dI,ap];exact br _)]);refine⟨#[.slice (some ⟨t,0,none⟩) 256 256,.slice (some ⟨t,0,none⟩) 256 256,.slice E.a E.len E.cap],by kernel_rfl,?_⟩;have bw:(dW 2 mp).length=256:=p3 _ aQ;obtain⟨vals,aq⟩:∃vals:Nat->cF,vals=λj=>if j=2 then dW 2 mp else fI:=⟨_,rfl⟩
 have bx:∀j,(vals j).length=256:=λj=>by
  rw[aq];show(if j=2 then _ else _:cF).length=256;split
  .exact bw
  .exact ap
 have bz:∀k,k<3->∃G:Y,cellAt #[.slice (some ⟨t,0,none⟩) 256 256,.slice (some ⟨t,0,none⟩) 256 256,.slice E.a E.len E.cap] (Int.toNat ((k:Nat):Int)*1)=some (.slice G.a G.len G.cap)/\Src 1 z G (aF (vals k))/\∀q,aB G q->w.heap.size<=q/\q<z.heap.size:=by
  intro k aY;have bA:=S.lt;have cc:=F.size;rw[aq];have hi:∀q,aB (⟨some ⟨t,0,none⟩,256,256⟩:Y) q->w.heap.size<=q/\q<z.heap.size:=λq b=>by
   obtain⟨A,ar,rfl⟩:=b
   cases ar;show w.heap.size<=t/\t<_;exact⟨I,bA⟩
  have cd:=(Ext.trans (Ext.trans (J.trans C) aa) K).size
  match k,aY with
  |0,_=>exact⟨⟨some ⟨t,0,none⟩,256,256⟩,rfl,aX,hi⟩
  |1,_=>exact⟨⟨some ⟨t,0,none⟩,256,256⟩,rfl,aX,hi⟩
  |2,_=>exact⟨E,rfl,aT.src.ext F,λq b=>by have:=bs q b;have:=aT.lt q b;omega⟩
 have bC:=h.ext ag;refine⟨λn w'=>∃ (k:Nat) (r:aV),n=(k:Int)/\k<=3/\cj w' r/\r.d=D.d/\r.n=D.n/\(∀j,r.now j=if j<k then vals j else D.now j)/\r.aO=D.aO+k/\(∀m,r.calm m)/\r.bY.getD 3 0= -1/\ae (bF D) z w'/\(∀q,bF r q->bF D q\/z.heap.size<=q),
  λn _=>((3:Int)-n).toNat,⟨0,D,rfl,cI _,bC,rfl,rfl,λj=>rfl,rfl,bl,oB,.refl _ _,λq b=>.inl b⟩,?_⟩
 rintro _ ce ⟨k,r,rfl,aY,O,ah,aZ,a0,bD,av,ay,ak,L⟩;have cg:=ak.size;refine⟨λaJ=>?_,λbE=>?_⟩
 .have az:k<3:=by
   have:((k:Nat):Int)<3:=cf aJ;omega
  obtain⟨G,bH,bI,a1⟩:=bz k az;have cS:∀q,aB G q->¬bF D q:=λq b hf=>by have:=(a1 q b).1;have:=h.lt hf;omega
  have a2:=tJ O (i:=k) I I (bI.ad ak cS) (bx k) λq b hf=>by
   rcases L q hf with h1|h1
   .exact cS q b h1
   .have:=(a1 q b).2;omega
  rw[ah]at a2;refine⟨⟨I,I⟩,G,bH,a2.use ?_⟩;rintro _ ch (⟨g,_⟩|⟨g,rfl,s,bJ,bK,bL⟩)
  .have:=(iD (k:=2) (m:=0) (.inr rfl) O.f4 (av 1)).2
   rw[g]at this;cases this
  refine⟨0,rfl,λh=>(by cases h),λ_=>?_⟩;have bM:IntKind.wrap .i64 (((k:Nat):Int)+1)=((k+1:Nat):Int):=by rw[bB I I];omega
  rw[bM];refine⟨⟨k+1,_,rfl,I,bJ,ah,aZ,λj=>?_,by show r.aO+1=_;omega,λm=>(iD (.inr rfl) O.f4 (av _)).1,(congrArg Prod.snd (oE r (.inr rfl))).trans ay,ck ak bK λq b hf=>(L q hf).resolve_right I,λq b=>?_⟩,by show((3:Int)-((k+1:Nat):Int)).toNat<((3:Int)-((k:Nat):Int)).toNat;omega⟩
  .rw[m3,a0]
   by_cases e:j=k
   .rw[if_pos e,if_pos I,e]
   .rw[if_neg e]
    by_cases T:j<k
    .rw[if_pos T,if_pos I]
    .rw[if_neg T,if_neg I]
  .rcases tY bL q b with h1|h1
   .exact L q h1
   .exact .inr I
 have az:k=3:=by
  have:¬((k:Nat):Int)<3:=cx bE;omega
 subst az;have hf:=wK O I;rw[ah]at hf;refine hf.use ?_;rintro _ a3 (⟨g,_⟩|⟨_,rfl,aC,bN⟩)
 .unfold aV.e_ at g
  rw[ay]at g;cases g
 obtain⟨b9,H⟩:∃b9,b9=(r.b_ 3).hV:=⟨_,rfl⟩;rw[←H]at aC;have a4:b9.d=D.d:=by rw[H];exact ah
 have a5:b9.n=D.n:=by rw[H];exact(qn _).trans aZ
 have bO:∀j,b9.now j=if j<3 then vals j else D.now j:=λj=>by
  rw[←a0,H];have aD:r.hV.now j=r.now j:=Ax O j;exact aD
 have ci:b9.aO=D.aO+3:=by rw[H];exact bD
 have a7:∀m,b9.calm m:=λm=>by rw[H];exact qo _ (av m)
 have a8:b9.bY.getD 3 0= -1:=by
  rw[H];show(r.bY.set 3 _).getD 3 0=_;have bP:=O.f4;rw[eH (by rw[cX];omega),gN,ay];rfl
 have am:∀q,bF b9 q->bF D q\/z.heap.size<=q:=λq b=>by
  rw[H]at b;rcases b with e|e|e|⟨x,hx,e⟩
  .exact L q (.inl e)
  .exact L q (.inr (.inl e))
  .exact L q (.inr (.inr (.inl e)))
  .cases hx
 have an:ae (bF D) z a3:=ck ak bN λq b hf=>(L q hf).resolve_right I;have V:∀q,w.heap.size<=q->¬bF D q:=λq b hf=>by have:=h.lt hf;omega
 have bQ:=((Q.ext (C.trans (Ext.trans aa (Ext.trans K (Ext.trans N F))))).ad an (V _ (br _)));have bR:=(hs.ext (Ext.trans K (Ext.trans N F))).ad an λq b=>V q (by have:=ab q b;have:=(J.trans C).size;omega);refine⟨0,rfl,λh=>(by cases h),λ_=>bk (vs:=fb.c) rfl λcl bS bT cm=>ib bS rfl ja λbU a9 bV cn=>fV a9 ?_⟩;have W:Ext a3 bU:=Ext.cv bT bV (br _);have X:=aC.ext W;have ba:=lB X I (u:=ja) ⟨(by decide:0<4294967296),(by decide:0<256),(by decide:2<4294967296),(by decide:0<18446744073709551616),(by decide:0<18446744073709551616),(by decide:0<4294967296)⟩ (gen:=1) (by decide);rw[a4]at ba;refine ba.use ?_;have co:=W.size;have cp:=an.size;rintro _ bb ⟨ao,⟨g,_⟩|⟨_,s,bX,f,B,⟨g,_⟩|⟨_,rfl,Z⟩⟩⟩
 .have:=(iD (k:=2) (m:=0) (.inr rfl) X.f4 (a7 1)).2
  rw[g]at this;cases this
 .have aE:f.bY.getD 3 0= -1:=by rw[B];exact(congrArg Prod.snd (oE b9 (.inr rfl))).trans a8
  unfold aV.e_ at g;rw[aE]at g;cases g
 have aE:f.bY.getD 3 0= -1:=by rw[B];exact(congrArg Prod.snd (oE b9 (.inr rfl))).trans a8
 obtain⟨M,y⟩:∃M,M=((f.b_ 3).hV).fq (λi=>decide (i<3)) (λ_=> []):=⟨_,rfl⟩;have Z:=Z.fq (λi=>decide (i<3)) (λ_=> []);rw[←y]at Z;have bZ:∀x∈f.waits,x.i<f.n:=λx hx=>by
  rw[B]at hx⊢;rcases cR.1 hx with rfl|hx
  .show 1%2<b9.n;omega
  .exact(X.wn x (g0.1 hx).1).2.1
 have b0:∀j,M.now j=if j=1 then dW 1 (hU ja D.n 1) else if j<3 then vals j else D.now j:=λj=>by
  have aD:M.now j=f.now j:=by
   rw[y];by_cases bd:j<f.n
   .exact(wJ (f.b_ 3) bd).trans (qc f 3 j)
   .have P:f.now j=[]:=by
     unfold aV.now
     cases hf:f.waits.find? λx=>x.i==j with
     |some x=>
      have hx:=iq hf;have he:x.i=j:=by simpa using je hf
      have:=bZ x hx;omega
     |none=>
      have:¬j<f.a_.length:=bd;show f.a_.getD j []=[];rw[e6,kz I];rfl
    rw[P];show((List.range (f.b_ 3).n).map (f.b_ 3).now).getD j []=[];rw[e6,kz (by simp;show f.n<=j;omega)];rfl
  rw[aD,B,m3,bO,a5]
 have aI:AA D M:=by
  refine⟨by rw[y,B];exact a4,by rw[y];exact(qn (f.b_ 3)).trans (by rw[B];exact a5),λj=>?_,by rw[y];rfl,by rw[y,B];show b9.aO+1=_;omega,λm=>by rw[y,B];exact qo (b9.put (1%2) s (dW (1%2) (hU ja b9.n 1))) (iD (.inr rfl) X.f4 (a7 _)).1,?_,by rw[y];rfl,by rw[y];rfl⟩
  .rw[b0,aq,←R]
   by_cases P:j=1
   .rw[if_pos P,if_pos P]
   .rw[if_neg P,if_neg P]
    by_cases T:j=2
    .subst T;rfl
    .by_cases ac:j=0
     .subst ac;rfl
     .rw[if_neg I,if_neg T,if_neg ac]
  .rw[y]
   show(f.bY.set 3 _).getD 3 0=_;have bP:f.bY.length=4:=by rw[B];show(b9.bY.set 2 _).length=4;rw[cX];exact X.f4
   rw[eH (by rw[cX];omega),gN,aE];rfl
 have be:∀q,bF M q->bF D q\/z.heap.size<=q:=λq b=>by
  rw[y]at b;have h1:bF f q:=by
   rcases b with e|e|e|⟨x,hx,e⟩
   .exact .inl e
   .exact .inr (.inl e)
   .exact .inr (.inr (.inl e))
   .cases hx
  rw[B]at h1;rcases tY bX q h1 with bf|bf
  .exact am q bf
  .exact .inr I
 have bg:ae (bF D) z bb:=ck (ck an W λq _ h=>h.elim) ao λq b hf=>(am q hf).resolve_right I;have aK:=(bQ.ext W).ad ao λhf=>by
  rcases am _ hf with h1|h1
  .exact V _ (br _) h1
  .have:=ag.size;have:=S.lt;have:=Q.lt;have:=C.size;have:=aa.size;have:=K.size;have:=N.size;have:=F.size;omega
 have b1:=a9.ad ao λhf=>by
  have:=aC.lt hf;omega
 have bh:=(bR.ext W).ad ao λq b hf=>by
  have bi:=ab q b;have aL:=(hs.ext (Ext.trans K (Ext.trans N (ae.refl _ _)))).lt q b;rcases am _ hf with h1|h1
  .exact V q (by have:=(J.trans C).size;omega) h1
  .have:=F.size;omega
 have cq:=bg.size;have S:=ag.size;have bj:=lC Z (l:=l) (u:=ja) (gen:=1) ⟨by have:=hl.1;omega,by have:=hl.2.1;omega⟩ ⟨by decide,by decide,by decide,by rw[aI.n];show(0:Int)<_;omega,by decide⟩ (by decide) (λj _=>by rw[y];rfl) sb;rw[aI.d]at bj;refine⟨0,rfl,λh=>(by cases h),λ_=>⟨_,aK.cell,_,by rw[ax];exact aK.cell,_,by rw[ax];exact aK.cell,fV b1 (bj.use ?_)⟩⟩;rintro _ cr ⟨c,aR,a6,st,aM⟩;have b2:=aM.val;subst b2;refine⟨_,0,rfl,M,sb,s1,s2,c,aR,a6,st,bb,aM,bh.ext aM.x,aI,ck (ag.mono λ_ _ h=>h.elim) bg λq _ h=>h,λq b=>?_,λq b=>?_,λq b hf=>?_⟩
 .have bi:=ab q b
  have aL:=bh.lt q b;have:=(J.trans C).size;exact⟨I,aL⟩
 .rcases be q b with h1|h1
  .exact .inl h1
  .exact .inr ⟨I,Z.lt b⟩
 .have bi:=ab q b
  have aL:=(hs.ext (Ext.trans K (Ext.trans N (ae.refl _ _)))).lt q b;rcases be _ hf with h1|h1
  .exact V q (by have:=(J.trans C).size;omega) h1
  .have:=F.size;omega
end
theorem fL.rising{T:aK}{pages:O Nat}{L:O aQ}(h:fL T pages L):iy L:=by
 rcases h with ⟨_,_,_,a⟩|b
 .rw[a];exact List.Pairwise.nil
 .exact b.e8.1
section
variable {w0 w w':J}{wM ed:Nat}{T aq:aK}{r h k:Nat}{pages:O Nat}{L ko:O aQ}{ms:Y}
theorem bK.ng{qj:Nat}(ht:bK w T)(a:T.E qj)(hc:ae (λq=>q=qj) w w'):bK w' T:=
 ht.grow (E:=T.E) (G:=T.G) hc (λq e _=>.inl (by rw[e];exact a)) (λq a=>.inl a) (λq a=>.inr (.inl a)) λq a=>(ht.c2 q a).2.2
end
def aK.tZ(T:aK)(f g:Nat->ag)(s1 s2:Y):aK:={T with f:=f,g:=g,s1:=s1,s2:=s2}
def aK.bZ(T:aK)(a6 gen root aD:Nat)(E:Nat->Prop):aK:={T with a6:=a6,gen:=gen,root:=root,aD:=aD,E:=E}
section
variable {w0 w w':J}{wM ed:Nat}{T aq:aK}{r h k:Nat}{pages:O Nat}{L ko:O aQ}{ms:Y}
theorem bK.space{f g:Nat->ag}{s1 s2:Y}(ht:bK w T)(hs:en w' T.sb T.n f g s1 s2)(hc:ae (eN T.sb T.s1 T.s2) w w')(hf:∀k,eN T.sb s1 s2 k->eN T.sb T.s1 T.s2 k\/w.heap.size<=k)(d:∀j,T.C.D.bD j=true->g j=true\/T.C.D.ro)(e:g 0=true/\g 1=true):
 bK w' (T.tZ f g s1 s2)/\∀q,(T.tZ f g s1 s2).M q->T.M q\/w.heap.size<=q:=by
 have c:∀q,T.X q->¬eN T.sb T.s1 T.s2 q->¬eN T.sb s1 s2 q:=λq hx a i=>by
  rcases hf q i with b|b
  .exact a b
  .have:=ht.lt (q:=q) (.inr hx);omega
 refine⟨⟨ht.t.ad hc ht.iF,hs,ht.ca.grow hc (λq a _=>.inr (.inl a)) λq a=>?_,c _ (.inl rfl) ht.iF,λq a=>⟨(ht.c2 q a).1,c q (.inr (.inr (.inl a))) (ht.c2 q a).2.1,(ht.c2 q a).2.2⟩,λq a=>⟨(ht.hA q a).1,c q (.inr (.inr (.inr a))) (ht.hA q a).2⟩,ht.n,ht.num,ht.dM,d,e⟩,λq a=>?_⟩
 .rcases a with a|a|a|a
  .exact .inl (.inl a)
  .rcases hf q a with b|b
   .exact .inl (.inr (.inl b))
   .exact .inr ⟨b,hs.lt q a⟩
  .exact .inl (.inr (.inr (.inl a)))
  .exact .inl (.inr (.inr (.inr a)))
 .rcases a with a|a|a|a|a
  .exact .inl (.inl a)
  .exact .inl (.inr (.inl a))
  .exact(hf q a).imp (λh=>.inr (.inr (.inl h))) id
  .exact .inl (.inr (.inr (.inr (.inl a))))
  .exact .inl (.inr (.inr (.inr (.inr a))))
theorem bK.tree{a6 gen root aD:Nat}{E:Nat->Prop}(ht:bK w T)(hx:Ext w w')(i:Var w' a6 (jV (T.bZ a6 gen root aD E)) 239)(d:T.E a6\/w.heap.size<=a6)(f:∀q,E q->q≠a6/\(T.E q\/q=T.a6\/(w.heap.size<=q/\q<w'.heap.size)))
 (j:root<T.n/\aD<=12/\gen<18446744073709551616) (k:∀no bf,T.P no=some bf->no<T.n/\fU gen bf.leaf no (T.C.view no) bf):bK w' (T.bZ a6 gen root aD E):=by
 have hl:=i.lt;have h1:¬eN T.sb T.s1 T.s2 a6:=λh=>by
  rcases d with c|c
  .exact(ht.c2 _ c).2.1 h
  .have:=ht.lt (q:=a6) (.inr (.inr (.inl h)));omega
 have c:∀q,T.G q->q≠a6:=λq a e=>by
  rcases d with c|c
  .rw[e]at a;exact(ht.c2 _ c).2.2 a
  .have:=ht.lt (q:=q) (.inr (.inr (.inr (.inr a))));omega
 have l:∀q,E q->¬eN T.sb T.s1 T.s2 q/\¬T.G q:=λq a=>by
  rcases(f q a).2 with b|b|b
  .exact(ht.c2 q b).2
  .rw[b]
   exact⟨ht.iF,λhg=>(ht.hA _ hg).1 rfl⟩
  .exact⟨λg=>by have:=ht.lt (q:=q) (.inr (.inr (.inl g)));omega,λg=>by have:=ht.lt (q:=q) (.inr (.inr (.inr (.inr g))));omega⟩
 refine⟨i,ht.s.ext hx,ht.ca.grow (W:=λ_=>False) hx (λ_ h=>h.elim) λq a=>?_,h1,λq a=>⟨(f q a).1,l q a⟩,λq a=>⟨c q a,(ht.hA q a).2⟩,ht.n,j,k,ht.bD,ht.low⟩;rcases a with a|a|a|a
 .have a:q=a6:=a
  rcases d with b|b
  .exact .inl (.inr (.inr (.inl (by rw[a];exact b))))
  .exact .inr ⟨I,I⟩
 .exact .inl (.inr (.inl a))
 .rcases(f q a).2 with b|b|b
  .exact .inl (.inr (.inr (.inl b)))
  .exact .inl (.inl b)
  .exact .inr b
 .exact .inl (.inr (.inr (.inr a)))
theorem fL.agree{p:O Nat}(a:fL T p L)(b:aq.root=T.root)(c:aq.aD=T.aD)(d:∀x∈p,T.P x=aq.P x):fL aq p L:=by
 unfold fL at a⊢;rw[b,c];exact a.imp id λe=>(e.agree d).1
end
theorem FK{w:J}{s:Y}(h:nK .u8 w s):∃l:O UInt8,Src 1 w s (aF l):=by
 obtain⟨ns,_,a,b⟩:=h.src;refine⟨ns.map λn=>UInt8.ofNat n.toNat,?_⟩;have e:aF (ns.map λn=>UInt8.ofNat n.toNat)=ns.map (.int .u8):=by
  unfold aF;rw[gK];refine qG λn c=>?_;have d:=a n c;have f:IntKind.min .u8=0:=rfl;have g:IntKind.max .u8=255:=rfl;rw[f,g]at d;simp only[Function.comp]
  congr 1
  simp;omega
 rw[e];exact b
theorem ek.node{P:Nat->an az}:∀ (h:Nat) {lo hi:an Key}{no:Nat}{p:O Nat}{L:O aQ},ek P h lo hi no p L->∀x∈p,∃bf,P x=some bf
 |0,_,_,_,_,_,a=>a.elim
 |h+1,_,_,no,p,_,a=>by
  obtain⟨n,c,h1,_,_,rfl,_,hc⟩:=a.An
  intro x hx
  rcases cR.1 hx with rfl|hx
  .exact⟨n,h1⟩
  .rcases hc with ⟨_,_,rfl,_⟩|⟨_,ps,d,e,f,rfl,_,he⟩
   .cases hx
   .obtain⟨l,hl,b⟩:=List.mem_flatten.1 hx
    obtain⟨i,hi,rfl⟩:=eD hl
    exact ek.node h (he i I hi I) x b
theorem wN(f:Nat->ag):∀ (n:Nat) (x:Int),x∈iE f n↔∃k:Nat,x=(k:Int)/\k<n/\f k=true
 |0,x=>by simp[iE]
 |n+1,x=>by
  rw[iE,cG,wN f n x]
  constructor
  .rintro(⟨k,h1,c,a⟩|h)
   .exact⟨k,h1,I,a⟩
   .split at h
    .exact⟨n,eX.1 h,I,by assumption⟩
    .cases h
  .rintro⟨k,h1,c,a⟩
   rcases dJ k n with b|b
   .exact .inl ⟨k,h1,b,a⟩
   .have:k=n:=by omega
    subst this
    right
    rw[if_pos a,h1];simp
theorem wO(f:Nat->ag):∀n,(iE f n).Pairwise λa b=>a<b
 |0=>List.Pairwise.nil
 |n+1=>by
  rw[iE]
  refine nr.2 ⟨wO f n,by split<;>simp,λa d b c=>?_⟩
  obtain⟨k,h1,e,_⟩:=(wN f n a).1 d
  split at c
  .have:=eX.1 c;omega
  .cases c
theorem FL{f:Nat->ag}{n:Nat}{es:O Nat}(h1:es.Pairwise λa b=>a<b)(c:∀x,x∈es↔x<n/\f x=true):dr es=k0 f n:=by
 have g:(es.map λd=>((d:Nat):Int)).Perm (iE f n):=by
  refine(List.perm_ext_iff_of_nodup ?_ ?_).2 λx=>?_
  .exact List.Pairwise.map _ (λa b i=>by show((a:Nat):Int)≠((b:Nat):Int);omega) h1
  .exact(wO f n).imp λh=>by omega
  .rw[wN,dZ]
   constructor
   .rintro⟨k,e,rfl⟩
    exact⟨k,rfl,(c k).1 e⟩
   .rintro⟨k,rfl,e⟩
    exact⟨k,(c k).2 e,rfl⟩
 have he:(es.map λd=>((d:Nat):Int))=iE f n:=by
  refine g.eq_of_pairwise (le:=λx y=>x<=y) (λx y _ _ h1 c=>I) ?_ ((wO f n).imp λh=>I);exact List.Pairwise.map _ (λa b i=>by show((a:Nat):Int)<=((b:Nat):Int);omega) h1
 rw[wD,he];rfl
section
variable {w0 w w':J}{wM ed:Nat}{T aq:aK}{r h k:Nat}{pages:O Nat}{L ko:O aQ}{ms:Y}
end
structure gp(V:Nat->cF)(n gen:Nat)(u:cz)(g:Nat->ag)(P:Nat->an az)(p:O Nat)(L:O aQ):Prop where
 fr:∃j,j<n/\g j=false
 t_:gf ((gen%2:Nat):Int) (V (gen%2))=.ok (u,n,gen)
 wP:V (1-gen%2)=fI\/∃a g',gf ((1-gen%2:Nat):Int) (V (1-gen%2))=.ok (a,n,g')/\g'<gen
 mp:∃eO,eO<=gen/\dh (u.map:Int) (V u.map)=.ok ⟨4,eO,e4 g ((n+7)/8)⟩
 g:∀no,g no=true↔no∈p\/no<2\/no=u.map
 bf:p.Nodup
 two:∀x∈p,2<=x/\x≠u.map/\x<n
 ok:(u.aD=0/\u.root=0/\p=[]/\L=[])\/ek P u.aD none none u.root p L
 dM:∀x∈p,∀bf,P x=some bf->fU gen bf.leaf x (V x) bf
 keys:u.keys=L.length
 kv:∀q∈L,cT q.1/\q.2.length<=24
 AD:lZ u
 qq:i_ u n
 AE:u.dc+1<=gen
theorem gp.agree{V a:Nat->cF}{n gen:Nat}{u:cz}{g:Nat->ag}{P P':Nat->an az}{p:O Nat}{L:O aQ}(h:gp V n gen u g P p L)(dC:∀j,g j=true->a j=V j)(b:∀x∈p,P x=P' x):gp a n gen u g P' p L:=by
 have h0:a (gen%2)=V (gen%2):=dC _ ((h.g _).2 (.inr (.inl I)));have h1:a (1-gen%2)=V (1-gen%2):=dC _ ((h.g _).2 (.inr (.inl I)));refine⟨h.fr,by rw[h0];exact h.t_,by rw[h1];exact h.wP,by rw[dC _ ((h.g _).2 (.inr (.inr rfl)))];exact h.mp,h.g,h.bf,h.two,h.ok.imp id λc=>(c.agree b).1,λx hx bf d=>?_,h.keys,h.kv,h.AD,h.qq,h.AE⟩;rw[dC _ ((h.g _).2 (.inl hx))];exact h.dM x hx bf (by rw[b x hx];exact d)
structure cu where
 st:Nat
 T:aK
 l:fC
 u:cz
 gen:Nat
 now:Nat
 first:Nat
 pending:Nat
 keys:Nat
 failed:ag
def cu.V(S:cu)(j:Nat):cF:=S.T.C.D.a_.getD j []
def cu.cells(S:cu):O aa:=gn S.T.a6 S.T.C.D.d S.T.C.c S.T.sb S.l S.u S.gen S.now S.first S.pending S.keys S.failed
structure fl(w:J)(S:cu)(aS:O Nat)(bm:O aQ):Prop where
 v:Var w S.st S.cells 158
 t:bK w S.T
 es:S.T.E S.st
 fM:gp S.V S.T.n S.gen S.u S.T.g S.T.P aS bm
 gen:S.T.gen=S.gen+1
 num:S.now<18446744073709551616/\S.first<=S.now/\S.u.dc+1<=S.gen/\S.gen+2<18446744073709551616/\S.l.batch<=1000/\S.l.gk<=1048576/\1<=S.l.batch
 bD:∀j,S.T.g j=true->S.T.C.D.bD j=true
structure ei(w:J)(S:cu)(pages:O Nat)(L:O aQ)(aS:O Nat)(bm:O aQ):Prop extends fl w S aS bm where
 ok:fL S.T pages L
 bf:pages.Nodup
 f:∀no,S.T.f no=true↔no∈pages\/no<2\/no=S.u.map
 two:∀x∈pages,2<=x/\x≠S.u.map
 kv:∀p∈L,cT p.1/\p.2.length<=24
 keys:S.keys=L.length
 jX:S.pending<=1000
 live:S.failed=false->¬S.T.C.D.ro/\S.T.C.D.dQ=(λ_=> [])/\1<=b7 S.T
 dead:S.failed=true->S.T.C.D.ro/\L=bm/\pages=aS/\S.pending=0
def aV.quiet(D:aV):Prop:=(∀k,D.calm k)/\D.bY.getD 3 0= -1
def cu.W(S:cu)(q:Nat):Prop:=S.T.M q/\(S.T.E q->q=S.st)
structure dN(k:Nat)(S aM:cu)(w w':J):Prop where
 st:aM.st=S.st
 d:aM.T.C.D.d=S.T.C.D.d
 n:aM.T.n=S.T.n
 l:aM.l=S.l
 aO:aM.T.C.D.aO<=S.T.C.D.aO+k
 q:S.T.C.D.quiet->aM.T.C.D.quiet
 ad:ae S.W w w'
 cN:∀q,aM.T.M q->S.T.M q\/w.heap.size<=q
 E:aM.T.E=S.T.E
 G:aM.T.G=S.T.G
section
variable {w w':J}{C:bN}{X:Nat->Prop}{T:aK}{S aM:cu}{pages aS:O Nat}{L bm:O aQ}
theorem fl.kp(h:fl w S aS bm){q:Nat}(a:S.T.N q):S.W q:=⟨aK.gu a,λhe=>absurd a (h.t.iC he)⟩
theorem fl.wQ(h:fl w S aS bm):S.W S.st:=⟨.inr (.inr (.inr (.inl h.es))),λ_=>rfl⟩
theorem dN.back{k q:Nat}(h:dN k S aM w w')(hl:q<w.heap.size)(a:aM.W q):S.W q:=⟨(h.cN q a.1).resolve_right I,λhe=>(a.2 (by rw[h.E];exact he)).trans h.st⟩
theorem dy.fq(h:dy X w C){s:Nat->ag}{z:Nat->O cF}(hc:∀f∈C.aj,∀j:Nat,f.full=true->f.no=j->s j=true->f.fa=false)(b:∀j,s j=true->C.D.da j=z j):
 dy X w {C with D:=C.D.fq s z}:=
 ⟨⟨h.raw.v,h.raw.f,h.raw.dev.fq s z,h.raw.bR,h.raw.b3,h.raw.hd,h.raw.a1⟩,h.inv.pins,λf hf a=>by
  obtain⟨no,av,c,d,e,g,k,i⟩:=h.inv.ok f hf a
  exact⟨no,av,c,d,e,g,λhs=>hc f hf no a av hs,i⟩,h.inv.un,h.inv.eI,b⟩
theorem bK.fq(h:bK w T){s:Nat->ag}{z:Nat->O cF}(hc:∀f∈T.C.aj,∀j:Nat,f.full=true->f.no=j->s j=true->f.fa=false)(a:∀j,s j=true->T.C.D.da j=z j)(hs:∀j,s j=true->T.g j=true\/∀i,s i=true):
 bK w (T.bw {T.C with D:=T.C.D.fq s z} T.P):=⟨h.t,h.s,h.ca.fq hc a,h.iF,h.c2,h.hA,h.n,h.num,h.dM,hs,h.low⟩
theorem FM(h:dy X w C){j:Nat}(hs:C.D.bD j=true):C.view j=C.D.now j:=by
 unfold bN.view
 cases hf:C.aj.find? λf=>f.full&&f.no==(j:Int) with
 |none=>rfl
 |some f=>
  have h1:=je hf;have a:=iq hf;simp only[dO,jc]at h1;obtain⟨no,av,d,e,g,b,c,i⟩:=h.inv.ok f a h1.1;have:no=j:=by omega
  subst this;exact b (c hs)
theorem FN(h:dy X w C){j:Nat}(hs:C.D.bD j=true)(a:C.D.dQ j=[]):C.view j=C.D.a_.getD j []:=by
 rw[FM h hs,tI _ (λx hx=>(h.raw.dev.wn x hx).1),if_pos (by rw[h.inv.jT j hs,a])]
theorem ei.view(h:ei w S pages L aS bm)(hl:S.failed=false){j:Nat}(a:S.T.g j=true):S.T.C.view j=S.V j:=
 FN h.t.ca (h.bD j a) (by rw[(h.live hl).2.1])
theorem fl.FO(h:fl w S aS bm):oN S.T.C.D.n (S.u.root:Nat) (S.u.aD:Nat):=by
 obtain⟨h1,a,b,_⟩:=h.fM.qq;rw[h.t.n];exact⟨I,I,I,I,I⟩
theorem fl.set(h:fl w S aS bm){i:Nat}{x:aa}(hi:i<19):(∃u:aa,w.cell? ⟨S.st,i,none⟩=some u)/\w.frozen? ⟨S.st,i,none⟩=false/\
 Var (w.setCell ⟨S.st,i,none⟩ x) S.st (S.cells.set i x) 158/\bK (w.setCell ⟨S.st,i,none⟩ x) S.T/\ae (λq=>q=S.st) w (w.setCell ⟨S.st,i,none⟩ x):=by
 obtain⟨av,a⟩:=dR h.v (i:=i) (by exact hi);exact⟨av,a,dX h.v (i:=i) x,h.t.ng h.es (dx w S.st i x),dx w S.st i x⟩
end
structure FP(S aM:cu):Prop where
 u:aM.u=S.u
 gen:aM.gen=S.gen
 now:aM.now=S.now
 failed:aM.failed=true
 V:aM.T.C.D.a_=S.T.C.D.a_
 sa:∀j,aM.T.C.D.dQ j=S.T.C.D.da j
 aO:aM.T.C.D.aO=S.T.C.D.aO
section
variable {w w':J}{C:bN}{X:Nat->Prop}{T:aK}{S aM:cu}{pages aS:O Nat}{L bm:O aQ}
theorem AF(h:fl w S aS bm)(e:Int)(cJ:S.T.C.D.aO<=900000000):
 aH ai 81 #[.pointer (some S.st),e] w (λv w'=>v=e/\∃aM,ei w' aM aS bm aS bm/\dN 0 S aM w w'/\FP S aM):=by
 refine okF (af.sj (some S.st) e) ay.sj func81 ?_;(delta af.sj st aT aW al aI r1 aG au bt de;dsimp only);have aN:=h.FO;obtain⟨av,bx,a4,cL,bz⟩:=h.set (i:=18) (x:=true) (by decide);refine⟨_,rfl,by rw[ax];exact av,by rw[ax];exact bx,aY ?_⟩;rw[ax,cH];obtain⟨bA,bC⟩:=dR a4 (i:=16) (by simp[cu.cells,gn]);have aP:=dX a4 (i:=16) (0:Int);have ac:=bz.trans (dx _ S.st 16 (0:Int));refine⟨_,rfl,by rw[ax];exact bA,by rw[ax];exact bC,aY ?_⟩;rw[ax,cH];generalize cM:(w.setCell ⟨S.st,18,none⟩ true).setCell ⟨S.st,16,none⟩ (0:Int)=bE at aP ac⊢;have ag:=h.t.ng h.es ac;have cO:=ac.size;refine⟨_,rfl,_,by rw[ax];exact aP.cell,(Eo ag.s).use ?_⟩;rintro _ bF ⟨rfl,s1,bG,ah,bH⟩;have cP:=ah.size;obtain⟨ak,a5⟩:=ag.space bG ah bH ag.bD ag.low;have a7:=aP.ad ah (h.t.c2 _ h.es).2.1;obtain⟨fP,B⟩:∃fP,fP=S.T.tZ S.T.g S.T.g s1 S.T.s2:=⟨_,rfl⟩;rw[←B]at ak a5;have aQ:fP.C=S.T.C:=by rw[B];rfl
 have bI:fP.E=S.T.E:=by rw[B];rfl
 have bJ:fP.g=S.T.g:=by rw[B];rfl
 have bL:fP.P=S.T.P:=by rw[B];rfl
 have bM:fP.n=S.T.n:=by rw[B];rfl
 have bO:fP.sb=S.T.sb:=by rw[B];rfl
 have bP:fP.G=S.T.G:=by rw[B];rfl
 have bQ:fP.gen=S.T.gen:=by rw[B];rfl
 have bS:fP.f=S.T.g:=by rw[B];rfl
 have bT:∀q,fP.M q->S.T.M q\/w.heap.size<=q:=λq k=>(a5 q k).imp id λh=>by omega
 have cQ:∀ (w':J),Var w' S.st ((S.cells.set 18 true).set 16 (0:Int)) 158->w'.cell? ⟨S.st,2,none⟩=some (.pointer (some S.T.C.c)):=λw' aR=>aR.cell;refine⟨rfl,_,rfl,_,by rw[ax];exact a7.cell,?_⟩;have a8:=Aw ak.ca.raw;rw[aQ]at a8;refine a8.use ?_;rintro _ am ⟨s,zs,rfl,bU,aU,ao,bV⟩;have cR:=ao.size
 have bW:∀z∈zs,∃no:Nat,z=(no:Int)/\S.T.g no=false:=λz K=>by
  have:=aU.mem_iff.1 K;unfold ie at this;obtain⟨f,hf,rfl⟩:=dZ.1 this;obtain⟨bX,a9⟩:=g0.1 hf;have ba:f.full=true/\f.fa=true:=by unfold Fr.gg at a9;simpa using a9
  obtain⟨no,bR,b3,ap,aq,bb,bY⟩:=h.t.ca.inv.ok f bX ba.1;refine⟨no,bR,?_⟩
  cases hg:S.T.g no with
  |false=>rfl
  |true=>
   have:=bY (h.bD no hg);rw[ba.2]at this;cases this
 have cS:zs.length<=64:=by
  rw[aU.length_eq];unfold ie;rw[dE];exact eC (o7 _ _) h.t.ca.raw.b3
 have aX:=ak.ext ao;obtain⟨P',a0⟩:∃P':Nat->an az,P'=λno=>if S.T.g no=true then S.T.P no else none:=⟨_,rfl⟩
 obtain⟨b0,_⟩:=aX.oI (P:=P') aX.ca (dY.refl fP.C am) (λno bf p=>by
  rw[a0]at p;dsimp only at p;by_cases hg:S.T.g no=true
  .rw[if_pos hg]at p
   exact aX.dM no bf (by rw[bL];exact p)
  .rw[if_neg hg]at p;cases p)
 have b1:∀q,aB s q->¬cK S.T.C q:=λq k hf=>by
  have:=bV q k;have:=ak.lt (q:=q) (.inl (by rw[aQ];exact hf));omega
 refine⟨s,rfl,λn16 m=>∃ (i:Nat) (aC:bN),n16=(i:Nat)/\i<=zs.length/\bK m (fP.bw aC P')/\dY S.T.C aC am m 0/\aC.D=S.T.C.D/\(∀j,S.T.g j=true->aC.view j=S.T.C.view j)/\(∀f∈aC.aj,f.full=true->f∈S.T.C.aj/\∀z∈zs.take i,f.no≠z)/\aZ 1 3 m s (zs.map encZ)/\(∀q,aB s q->¬cK aC q),
  λn16 _=>((zs.length:Int)-n16).toNat,⟨0,S.T.C,rfl,cI _,by rw[←aQ];exact b0,.refl _ _,rfl,λ_ _=>rfl,λf hf _=>⟨hf,λz K=>(by simp at K)⟩,bU,b1⟩,?_⟩
 rintro _ m ⟨i,aC,rfl,hi,U,N,F,b2,bc,aw,bd⟩;have cT:s.len=zs.length:=by have:=aw.1;rw[dE]at this;omega
 have b4:∀ (w':J),ae (cK S.T.C) am w'->Var w' S.st ((S.cells.set 18 true).set 16 (0:Int)) 158:=λw' hc=>(a7.ext ao).ad hc λhf=>(h.t.ca.inv.eI _ (.inr (.inr (.inl h.es)))).2 hf;have be:=b4 _ N.ad;refine⟨λL=>?_,λL=>?_⟩
 .have L:(i:Int)<(s.len:Int):=cf L
  have aA:i<zs.length:=by omega
  obtain⟨A,ar,b5⟩:∃a:ab,s.a=some a/\m.cell? (a.add (Int.toNat (i:Int)*1))=some (.int .i64 zs[i]):=by
   obtain⟨b,c,L,_,_,_,_,b6,_⟩:=aw.cell (i:=i) (v:=encZ zs[i]) (by rw[j3,dD aA];rfl);exact⟨_,L,by rw[du,ax,cH,fu];exact b6⟩
  obtain⟨no,bg,b7⟩:=bW _ (cm aA);refine⟨A,ar,⟨I,L⟩,zs[i],b5,_,rfl,_,by rw[ax];exact be.cell,?_⟩;have bh:=zw U.ca no;rw[bg];have X:aC.c=S.T.C.c:=N.c;have b8:(fP.bw aC P').C.c=S.T.C.c:=X;rw[b8]at bh;refine bh.use ?_;rintro _ cU ⟨⟨b,rfl⟩,bi,b9,aE,aR,b_,cb⟩;have bk:∀j,S.T.g j=true->bi.view j=aC.view j:=λj Y=>aR j λe=>by rw[e,b7]at Y;cases Y
  obtain⟨cc,_⟩:=U.oI (P:=P') b9 aE (λj bf p=>by
   obtain⟨bo,bj⟩:=U.dM j bf p;have cd:S.T.g j=true:=by
    cases hg:S.T.g j with
    |true=>rfl
    |false=>rw[a0]at p;simp[hg]at p
   rw[bk j cd];exact⟨bo,bj⟩)
  have ce:((zs.length:Int)-((i+1:Nat):Int)).toNat<((zs.length:Int)-(i:Int)).toNat:=by omega
  have bl:IntKind.wrap .i64 ((i:Int)+1)=((i+1:Nat):Int):=by rw[bB I I];omega
  have cg:=aw.ad aE.ad λq k hf=>bd q k hf;refine⟨b,rfl,⟨i+1,bi,bl,aA,cc,(N.trans aE).mono (br _),b_.trans F,λj Y=>(bk j Y).trans (b2 j Y),λf hf O=>?_,cg,λq k hf=>?_⟩,by rw[bl];exact ce⟩
  .obtain⟨bR,b3⟩:=cb f hf O
   obtain⟨ap,aq⟩:=bc f bR O;refine⟨ap,λz K=>?_⟩;rw[iL aA,cG,eX]at K;rcases K with K|rfl
   .exact aq z K
   .rw[bg];exact b3
  .rcases aE.cN q hf with h1|h1
   .exact bd q k h1
   .have:=aZ.lt aw q k;omega
 have L:¬(i:Int)<(s.len:Int):=cx L;obtain rfl:i=zs.length:=by omega
 have ch:∀f∈aC.aj,f.full=true->f.fa=false:=λf hf O=>by
  obtain⟨bR,b3⟩:=bc f hf O
  cases hd:f.fa with
  |false=>rfl
  |true=>
   refine absurd rfl (b3 f.no ?_);rw[il];refine aU.mem_iff.2 (dZ.2 ⟨f,g0.2 ⟨bR,?_⟩,rfl⟩);unfold Fr.gg;rw[O,hd];rfl
 have X:aC.c=S.T.C.c:=N.c;obtain⟨e0,y⟩:∃e0,e0=fP.bw aC P':=⟨_,rfl⟩;rw[←y]at U;have f1:e0.C=aC:=by rw[y];rfl
 have f2:e0.E=S.T.E:=by rw[y];exact bI
 have f3:e0.g=S.T.g:=by rw[y];exact bJ
 have f4:e0.P=P':=by rw[y];rfl
 have f5:e0.n=S.T.n:=by rw[y];exact bM
 have f6:e0.sb=S.T.sb:=by rw[y];exact bO
 have f7:e0.G=S.T.G:=by rw[y];exact bP
 have f8:e0.gen=S.T.gen:=by rw[y];exact bQ
 have f9:e0.f=S.T.g:=by rw[y];exact bS
 have a1:∀q,e0.M q->S.T.M q\/w.heap.size<=q:=λq k=>by
  rw[y]at k;rcases k with k|k
  .rcases N.cN q k with h1|h1
   .exact .inl (.inl h1)
   .exact .inr I
  .exact bT q (.inr k)
 have cV:=N.ad.size;refine jm (λaF=>∃a6,fl aF {S with T:=(e0.bZ a6 S.T.gen S.u.root S.u.aD S.T.E).bw {aC with D:=aC.D.fq (λ_=>true) aC.D.da} P',pending:=0,failed:=true} aS bm/\m.heap.size<=a6/\ae (λq=>q=S.st) m aF) (λcW ci=>aY ?_) ?_
 .have aJ:Ext m m.drew:=cr _
  have R:=be.ext aJ;have aK:=U.ext aJ;have bn:=aK.ca.raw;rw[f1]at bn;have bp:=mC bn S.T.sb (S.T.gen:Int) (S.u.root:Int) (S.u.aD:Int);rw[X]at bp;refine⟨λ_=>False,_,rfl,id,_,by rw[ax];exact R.cell,_,rfl,id,_,by rw[ax];exact R.cell,_,rfl,id,_,by rw[ax];exact R.cell,_,rfl,id,_,by rw[ax];exact R.cell,_,rfl,id,_,by rw[ax,ax];exact R.cell,?_⟩;have cj:IntKind.wrap .u64 ((S.gen:Int)+1)=(S.T.gen:Int):=by rw[gz I (by have:=h.num;omega)];have:=h.gen;omega
  rw[cj];refine bp.use ?_;rintro _ a2 (⟨_,rfl,Z,cl,cX⟩|⟨cn,_⟩)
  rotate_left
  .exact absurd (by rw[F];exact aN) cn
  have cY:=Z.size;refine⟨_,0,rfl,Z,λ_=>?_,λhx=>(by cases hx)⟩;have bq:=R.ext Z;obtain⟨bR,b3⟩:=dR bq (i:=0) (by simp[cu.cells,gn]);have co:=dX bq (i:=0) (.pointer (some m.drew.heap.size));have bs:=dx a2 S.st 0 (.pointer (some m.drew.heap.size));have cp:bK a2 (e0.bZ m.drew.heap.size S.T.gen S.u.root S.u.aD S.T.E):=by
   refine aK.tree Z (by show Var _ _ [.pointer (some e0.C.c),.pointer (some e0.sb),_,_,_] _;rw[f1,X,f6];exact cl) (.inr (br _)) (λq k=>?_) ⟨?_,?_,?_⟩ λno bf p=>?_
   .have h1:=aK.lt (q:=q) (.inr (.inr (.inr (.inl (by rw[f2];exact k)))))
    exact⟨I,.inl (by rw[f2];exact k)⟩
   .rw[f5,←h.t.n];have:=aN.2.2.2.1;omega
   .have:=aN.2.1;omega
   .exact h.t.num.2.2
   .rw[←f8];exact aK.dM no bf p
  have cq:=cp.fq (s:=λ_=>true) (z:=e0.C.D.da) (λf hf j O _ _=>ch f (by rw[←f1];exact hf) O) (λ_ _=>rfl) λ_ _=>.inr λ_=>rfl;have bu:bK a2 ((e0.bZ m.drew.heap.size S.T.gen S.u.root S.u.aD S.T.E).bw {e0.C with D:=e0.C.D.fq (λ_=>true) e0.C.D.da} e0.P):=cq;rw[f1,f4]at bu;refine⟨_,rfl,bR,b3,aY (ci _ ⟨m.drew.heap.size,⟨?_,bu.ng h.es bs,h.es,?_,h.gen,h.num,λ_ _=>rfl⟩,aJ.size,((Ext.trans aJ Z).mono λ_ _ h=>h.elim).trans bs⟩)⟩
  .show Var _ _ (gn _ aC.D.d aC.c e0.sb _ _ _ _ _ _ _ _) _
   rw[F,X,f6];exact co
  .show gp (λj=>aC.D.a_.getD j []) e0.n _ _ e0.g P' _ _
   rw[F,f5,f3];exact h.fM.agree (λ_ _=>rfl) λx hx=>by
    rw[a0];dsimp only;rw[if_pos ((h.fM.g x).2 (.inl hx))]
 .rintro aF ⟨a6,H,cZ,cs⟩
  obtain⟨l,r⟩:∃l:cu,l={S with T:=(e0.bZ a6 S.T.gen S.u.root S.u.aD S.T.E).bw {aC with D:=aC.D.fq (λ_=>true) aC.D.da} P',pending:=0,failed:=true}:=⟨_,rfl⟩;rw[←r]at H;have Q:l.st=S.st:=by rw[r]
  obtain⟨bR,b3,ap,aq,bb⟩:=H.set (i:=17) (x:=S.u.keys) (by decide);have ct:∃z:aa,l.cells[12]? =some z/\z=S.u.keys:=⟨_,by rw[r];rfl,rfl⟩;obtain⟨z,cv,rfl⟩:=ct;have cw:({l with keys:=S.u.keys}:cu).cells=l.cells.set 17 S.u.keys:=by rw[r];rfl
  have o:l.T=(e0.bZ a6 S.T.gen S.u.root S.u.aD S.T.E).bw {aC with D:=aC.D.fq (λ_=>true) aC.D.da} P':=by rw[r]
  have gX:l.T.n=S.T.n:=by rw[o];exact f5
  have cy:l.T.C.D.a_=S.T.C.D.a_:=by rw[o];show aC.D.a_=_;rw[F]
  have aL:l.u=S.u:=by rw[r]
  have cz:l.gen=S.gen:=by rw[r]
  have cA:l.T.f=S.T.g:=by rw[o];exact f9
  have cB:l.T.C.D.ro:=by rw[o];exact λ_=>rfl
  have bv:l.failed=true:=by rw[r]
  refine⟨_,rfl,_,by rw[ax,ax,←Q];exact H.v.cell.trans cv,_,rfl,by rw[ax,←Q];exact bR,by rw[ax,←Q];exact b3,aY ⟨rfl,{l with keys:=S.u.keys},⟨⟨?_,?_,H.es,H.fM,H.gen,H.num,H.bD⟩,?_,h.fM.bf,λno=>?_,λx hx=>?_,h.fM.kv,h.fM.keys,?_,λhf=>?_,λ_=>⟨cB,rfl,rfl,by rw[r]⟩⟩,?_,⟨aL,cz,by rw[r],bv,cy,λj=>?_,by rw[show({l with keys:=S.u.keys}:cu).T=l.T from rfl,o];show aC.D.aO=_;rw[F]⟩⟩⟩
  .rw[cw,ax,cH,←Q];exact ap
  .rw[ax,cH,←Q];exact aq
  .show fL l.T aS bm
   rw[o];have:=H.fM.ok;rw[o,aL]at this;exact this
  .show l.T.f no=true↔no∈aS\/no<2\/no=l.u.map
   rw[cA,aL];exact h.fM.g no
  .rw[show({l with keys:=S.u.keys}:cu).u=S.u from aL]
   exact⟨(h.fM.two x hx).1,(h.fM.two x hx).2.1⟩
  .show l.pending<=1000
   rw[r];exact cI _
  .rw[show({l with keys:=S.u.keys}:cu).failed=true from bv]at hf;cases hf
  .refine⟨Q,?_,gX,by rw[r],?_,λk=>?_,?_,λq k=>?_,?_,?_⟩
   .show l.T.C.D.d=_
    rw[o];show aC.D.d=_;rw[F]
   .show l.T.C.D.aO<=_
    rw[o];show aC.D.aO<=_;rw[F];omega
   .show l.T.C.D.quiet
    rw[o];show aV.quiet (aC.D.fq _ _);rw[F];exact k
   .rw[ax,cH]
    have a3:∀q,q=S.st->S.W q:=λq e=>by rw[e];exact h.wQ
    have h1:ae S.W w bE:=ac.mono λq _ e=>a3 q e;have cC:ae S.W w bF:=ck h1 ah λq _ k=>h.kp (.inr (.inr (.inl k)));have cD:ae S.W w am:=ck cC ao λq _ k=>k.elim;have cE:ae S.W w m:=ck cD N.ad λq _ k=>h.kp (.inl k);have cF:ae S.W w aF:=ck cE cs λq _ k=>a3 q k;exact ck cF (V:=λq=>q=S.st) (by rw[←Q];exact bb) λq _ k=>a3 q k
   .have k:l.T.M q:=k
    rw[o]at k;rcases k with k|k|k|k|k
    .exact a1 q (.inl (by rw[f1];exact k))
    .have k:q=a6:=k
     exact .inr I
    .exact a1 q (.inr (.inr (.inl k)))
    .exact .inl (.inr (.inr (.inr (.inl k))))
    .exact a1 q (.inr (.inr (.inr (.inr k))))
   .show l.T.E=_
    rw[o];rfl
   .show l.T.G=_
    rw[o];exact f7
  .show l.T.C.D.dQ j=_
   rw[o];show aC.D.da j=_;rw[F]
end
theorem fU.mono{gen a no:Nat}{leaf:ag}{l:cF}{n:az}(h:fU gen leaf no l n)(hg:gen<=a):fU a leaf no l n:=by
 obtain⟨p,h1,b,c⟩:=h;exact⟨p,h1,eC b hg,c⟩
section
variable {w w':J}{C:bN}{X:Nat->Prop}{T:aK}{S aM:cu}{pages aS:O Nat}{L bm:O aQ}
theorem FQ{aw:aV}(h:dy X w C)(hd:cj w' aw)(e:aw.d=C.D.d)(g:jw aw C.D)(k:∀i,2<=i->aw.now i=C.D.now i)(hc:ae (bF C.D) w w')(hf:∀q,bF aw q->bF C.D q\/w.heap.size<=q):
 dy X w' {C with D:=aw}/\∀j,2<=j->({C with D:=aw}:bN).view j=C.view j:=by
 have o:=hc.size;have l:∀q,q<w.heap.size->cK {C with D:=aw} q->cK C q:=λq a b=>by
  rcases b with h1|h1|h1
  .exact .inl h1
  .exact .inr (.inl h1)
  .exact .inr (.inr ((hf q h1).resolve_right I))
 refine⟨⟨h.raw.mQ hd e hc hf,h.inv.pins,λf p r=>?_,h.inv.un,λq a=>⟨fc (h.inv.eI q a).1 o,λb=>(h.inv.eI q a).2 (l q (h.inv.eI q a).1 b)⟩,g.2.2⟩,λj s=>?_⟩
 .obtain⟨no,av,t,u,v,x,y,m⟩:=h.inv.ok f p r
  exact⟨no,av,by rw[show({C with D:=aw}:bN).D.n=aw.n from rfl,g.1];exact t,bg.re u hc (λq _ c z=>c.1 (.inr (.inr z))) λq a c=>⟨λb=>c.1 (l q a b),c.2⟩,v,λhd=>by show _=aw.now no;rw[k no m];exact x hd,λhs=>y (g.2.1 _ hs),m⟩
 .unfold bN.view
  dsimp only
  cases C.aj.find? λf=>f.full&&f.no==(j:Int) with
  |some f=>rfl
  |none=>exact k j s
theorem bK.AG{aC:bN}{P:Nat->an az}(h:bK w T)(a:dy T.X w' aC)(hc:ae (cK T.C) w w')(e:aC.c=T.C.c)(b:aC.D.n=T.C.D.n)(d:∀no bf,P no=some bf->no<T.n/\fU T.gen bf.leaf no (aC.view no) bf)(f:∀j,aC.D.bD j=true->T.g j=true\/aC.D.ro):
 bK w' (T.bw aC P):=by
 have hx:=h.ca.inv.eI;refine⟨?_,h.s.ad hc λq i hf=>(hx q (.inr (.inl i))).2 hf,a,h.iF,h.c2,h.hA,b.trans h.n,h.num,d,f,h.low⟩;have:=h.t.ad hc λhf=>(hx T.a6 (.inl rfl)).2 hf;unfold jV at this⊢;rw[←e]at this;exact this
def aK.k3(T:aK)(gen:Nat):aK:={T with gen:=gen}
theorem bK.FR{gen:Nat}(h:bK w T)(b:Var w' T.a6 (jV (T.k3 gen)) 239)(hc:ae (λq=>q=T.a6) w w')(h1:T.gen<=gen)(c:gen<18446744073709551616):bK w' (T.k3 gen):=
 ⟨b,h.s.ad hc λq d e=>h.iF (e▸d),h.ca.ad hc λq e=>.inl e,h.iF,h.c2,h.hA,h.n,⟨h.num.1,h.num.2.1,c⟩,λno bf a=>⟨(h.dM no bf a).1,(h.dM no bf a).2.mono h1⟩,h.bD,h.low⟩
theorem FT(h:bK w T){gen:Nat}(h1:T.gen<=gen)(a:gen<18446744073709551616):
 aH ai 164 #[.pointer (some T.a6),.int .u64 (gen:Nat)] w (λv w'=>v=.tuple #[]/\bK w' (T.k3 gen)/\ae (λq=>q=T.a6) w w'):=by
 refine af.Cq _ _ w _ ?_;(delta af.pR al st;dsimp only);obtain⟨av,b⟩:=dR h.t (i:=2) (by simp[jV]);have c:=dX h.t (i:=2) (.int .u64 (gen:Nat));have hc:=dx w T.a6 2 (.int .u64 (gen:Nat));refine⟨λ_=>⟨_,rfl,by rw[ax];exact av,by rw[ax];exact b,aY ?_⟩,λd=>(by cases d)⟩;rw[ax,cH];exact⟨rfl,h.FR c hc h1 a,hc⟩
def AH(aM:cu)(gen:Nat)(g:Nat->ag)(pages:O Nat)(L:O aQ)(clock dc:Nat):Prop:=
 (∀j,g j=true->aM.T.C.D.dQ j=[])\/
 ∃ (a:cz) (av:Nat->ag) (c:Nat->an az) (b:cF),(∀j,aM.T.C.D.dQ j=if j=(gen+1)%2 then [b] else [])/\gp (λj=>if j=(gen+1)%2 then b else aM.V j) aM.T.n (gen+1) a av c pages L/\a.clock=clock/\a.dc=dc
def oO(S:cu)(pages:O Nat)(L:O aQ)(aS:O Nat)(bm:O aQ)(w:J)(v:aa)(w':J):Prop:=
 ∃aM,dN 100 S aM w w'/\aM.now=S.now/\
  ((v=.int .i64 0/\ei w' aM pages L pages L/\aM.failed=false/\aM.gen=S.gen+1/\aM.u.clock=S.now/\aM.u.dc=S.u.dc+1/\aM.pending=0)\/
   (v=.int .i64 3/\¬S.T.C.D.quiet/\ei w' aM aS bm aS bm/\aM.failed=true/\aM.u=S.u/\aM.gen=S.gen/\(∀j,S.T.g j=true->aM.V j=S.V j)/\AH aM S.gen S.T.g pages L S.now (S.u.dc+1)))
end
section
variable {w w' w1:J}{C:bN}{X:Nat->Prop}{T:aK}{S aM e1:cu}{pages aS:O Nat}{L bm:O aQ}{f2:Nat->ag}{aC:bN}{P':Nat->an az}
def cu.at(S:cu)(f2:Nat->ag)(aC:bN)(P':Nat->an az):cu:={S with T:=(S.T.hC f2).bw aC P'}
theorem fl.ua(h:fl w S aS bm)(ht:bK w' ((S.T.hC f2).bw aC P'))(a:Var w' S.st S.cells 158)(b:aC.D.d=S.T.C.D.d)(e:aC.c=S.T.C.c)(dC:∀j,S.T.g j=true->aC.D.a_.getD j []=S.V j)(f:∀x∈aS,S.T.P x=P' x)(i:∀j,S.T.g j=true->aC.D.bD j=true):
 fl w' (S.at f2 aC P') aS bm:=by
 refine⟨?_,ht,h.es,h.fM.agree dC f,h.gen,h.num,i⟩;show Var w' S.st (gn _ aC.D.d aC.c _ _ _ _ _ _ _ _ _) _;rw[b,e];exact a
theorem dN.at{k:Nat}(hc:ae S.W w w')(b:aC.D.d=S.T.C.D.d)(c:aC.D.aO<=S.T.C.D.aO+k)(a:S.T.C.D.quiet->aC.D.quiet)(hf:∀q,cK aC q->cK S.T.C q\/w.heap.size<=q):dN k S (S.at f2 aC P') w w':=
 ⟨rfl,b,rfl,rfl,c,a,hc,λq a=>by
  rcases a with a|a
  .exact(hf q a).imp .inl id
  .exact .inl (.inr a),rfl,rfl⟩
theorem uc(p:fl w1 e1 aS bm)(a:dN 100 S e1 w w1)(r:e1.u=S.u)(s:e1.gen=S.gen)(t:e1.now=S.now)(m:¬S.T.C.D.quiet)(dC:∀j,S.T.g j=true->e1.V j=S.V j)(x:e1.T.C.D.aO<=900000000)
 (y:(∀j,S.T.g j=true->e1.T.C.D.da j=[])\/∃ (e:cz) (av:Nat->ag) (f:Nat->an az) (b:cF),(∀j,e1.T.C.D.da j=if j=(S.gen+1)%2 then [b] else [])/\gp (λj=>if j=(S.gen+1)%2 then b else e1.V j) e1.T.n (S.gen+1) e av f pages L/\e.clock=S.now/\e.dc=S.u.dc+1):
 aH ai 81 #[.pointer (some S.st),(3:Int)] w1 (oO S pages L aS bm w):=by
 have hf:=AF p 3 x;rw[a.st]at hf;refine hf.mono ?_;rintro v w' ⟨rfl,aM,hs,hd,c⟩;have o:∀j,aM.V j=e1.V j:=λj=>by unfold cu.V;rw[c.V]
 refine⟨aM,⟨hd.st.trans a.st,hd.d.trans a.d,hd.n.trans a.n,hd.l.trans a.l,by rw[c.aO];exact a.aO,λh=>absurd h m,ck a.ad hd.ad λq hl i=>a.back hl i,λq i=>?_,hd.E.trans a.E,hd.G.trans a.G⟩,c.now.trans t,.inr ⟨rfl,m,hs,c.failed,c.u.trans r,c.gen.trans s,λj k=>(o j).trans (dC j k),?_⟩⟩
 .have:=a.ad.size
  rcases hd.cN q i with h1|h1
  .exact a.cN q h1
  .exact .inr I
 .rcases y with h1|⟨e,av,f,b,h1,z,A,B⟩
  .exact .inl λj k=>(c.sa j).trans (h1 j k)
  .exact .inr ⟨e,av,f,b,λj=>(c.sa j).trans (h1 j),by rw[hd.n];exact z.agree (λj _=>by rw[o]) λ_ _=>rfl,A,B⟩
theorem FU{V:Nat->cF}{no:Nat}{i:Nat->an az}(h:ei w S pages L aS bm)(k:f2=cZ (cZ S.T.f no true) S.u.map false)(M:(S.T.f no||S.T.g no)=false)(A:2<=no)(B:no<S.T.n)(N:L.length<4096)(l:∀x∈pages,i x=S.T.P x)
 (D:V ((S.gen+1)%2)=dW ((S.gen+1)%2) (hU ⟨S.T.root,S.T.aD,no,S.now,S.u.dc+1,L.length⟩ S.T.n (S.gen+1))) (dC:∀j,j≠(S.gen+1)%2->V j=if j=no then dW no ⟨4,S.gen+1,e4 f2 ((S.T.n+7)/8)⟩ else if S.T.g j=true then S.V j else S.T.C.view j)
 (hg:∀j,S.T.g j=true->S.V j=S.T.C.view j):gp V S.T.n (S.gen+1) ⟨S.T.root,S.T.aD,no,S.now,S.u.dc+1,L.length⟩ f2 i pages L:=by
 have E:=h.t.s.bc;have F:=h.num;have m:=h.t.num;have o:=h.fM.qq;have O:=o.2.2.2.2.1;have p:S.T.f S.u.map=true:=(h.f _).2 (.inr (.inr rfl));have q:S.T.f no=false:=by cases Q:S.T.f no<;>simp_all
 have r:∀x∈pages,x≠no:=λx hx e=>by
  have:=(h.f x).2 (.inl hx);rw[e,q]at this;cases this
 have G:∀x∈pages,x<S.T.n:=λx hx=>Nat.lt_of_not_le λe=>by
  have:=h.t.s.pf x e;rw[(h.f x).2 (.inl hx)]at this;cases this
 have H:∀j,j≠(S.gen+1)%2->j≠no->V j=S.T.C.view j:=λj h1 J=>by
  rw[dC j h1,if_neg J];by_cases e:S.T.g j=true
  .rw[if_pos e,hg j e]
  .rw[if_neg e]
 have v:i_ ⟨S.T.root,S.T.aD,no,S.now,S.u.dc+1,L.length⟩ S.T.n:=by
  refine⟨?_,m.2.1,m.1,B,A,E⟩;rcases h.ok with ⟨a1,a2,_⟩|b
  .exact⟨λ_=>a1,λ_=>a2⟩
  .obtain⟨bf,R,_,a2,_,_⟩:=b.js
   have:=(h.two S.T.root (by rw[a2];simp)).1;constructor
   .intro e;have e:S.T.root=0:=e;omega
   .intro e
    have e:S.T.aD=0:=e;rw[e]at b;exact b.elim
 have y:lZ ⟨S.T.root,S.T.aD,no,S.now,S.u.dc+1,L.length⟩:=⟨by show S.T.root<_;omega,by show S.T.aD<_;omega,by show no<_;omega,F.1,by show S.u.dc+1<_;omega,by show L.length<_;omega⟩;refine⟨⟨S.u.map,o.2.2.2.1,by rw[k];unfold cZ;rw[if_pos rfl]⟩,?_,.inr ⟨S.u,S.gen,?_,I⟩,⟨S.gen+1,br _,?_⟩,λj=>?_,h.bf,λx hx=>⟨(h.two x hx).1,r x hx,G x hx⟩,?_,λx hx bf z=>?_,rfl,h.kv,y,v,by show S.u.dc+1+1<=S.gen+1;omega⟩
 .rw[D]
  exact Aq y v I I
 .have e:1-(S.gen+1)%2=S.gen%2:=by omega
  have K:S.T.g (S.gen%2)=true:=(h.fM.g _).2 (.inr (.inl I));rw[e,dC _ I,if_neg I,if_pos K];exact h.fM.t_
 .show dh (no:Int) (V no)=_
  rw[dC _ I,if_pos rfl];exact tu I ⟨(by decide:1<=4),(by decide:4<=4),by show S.gen+1<_;omega,by show(e4 _ _).length<=232;rw[nf];omega⟩
 .rw[k]
  show cZ (cZ S.T.f no true) S.u.map false j=true↔j∈pages\/j<2\/j=no;unfold cZ;by_cases c:j=S.u.map
  .rw[if_pos c]
   refine⟨λh=>(by cases h),λa=>?_⟩;rcases a with a|a|a
   .exact absurd c (h.two j a).2
   .omega
   .rw[←c,a,q]at p;cases p
  .rw[if_neg c]
   by_cases d:j=no
   .rw[if_pos d];exact⟨λ_=>.inr (.inr d),λ_=>rfl⟩
   .rw[if_neg d,h.f j]
    constructor
    .rintro(a|a|a)
     .exact .inl a
     .exact .inr (.inl a)
     .exact absurd a c
    .rintro(a|a|a)
     .exact .inl a
     .exact .inr (.inl a)
     .exact absurd a d
 .rcases h.ok with ⟨a1,a2,a3,a4⟩|b
  .exact .inl ⟨a1,a2,a3,a4⟩
  .exact .inr (b.agree λx hx=>(l x hx).symm).1
 .rw[l x hx]at z
  rw[H x (by have:=(h.two x hx).1;omega) (r x hx),←h.gen];exact(h.t.dM x bf z).2
end
end Go.Proofs.YtkdhdlfonmgheaaGreat
