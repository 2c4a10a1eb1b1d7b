/- What a Go program of the model must show, as text that can be read; sound against the kit. -/
import Derived.Carry
import Derived.Defers
import Derived.Laws.StructEq
import Derived.Lib.Overlaps
import Derived.WideKeyRuns
import Derived.Test.YtcmgnhkpfllinaaGreatKSNone1
namespace aP
open Go Go.RowKit
def oV(ir:TypeId->au (O c4))(P:Program):O Field->Nat->au (O c4)
 | [],_=>some []
 |f::fs,o=>if f.name= "_" \/f.offset≠o then none else
  match ir f.type with
  |some ls=>if P.cellsOf f.type=ls.length then (oV ir P fs (o+ls.length)).map (ls++ ·) else none
  |none=>none
def sC(ls:O c4):Nat->O c4
 |0=> []
 |n+1=>ls++sC ls n
def ir(P:Program):Nat->TypeId->au (O c4)
 |0,_=>none
 |d+1,T=>match P.underlying T with
  |some (.int k)=>some [.int k]
  |some .bool=>some [.bool]
  |some .string=>some [.str]
  |some (.struct fs)=>if P.stoodInHeld T then none else oV (ir P d) P fs.toList 0
  |some (.array n e)=>match ir P d e with
   |some ls=>if P.cellsOf e=ls.length then some (sC ls n) else none
   |none=>none
  |_=>none
def sD:c4->aa->Prop
 | .int k,v=>∃n:Int,v=.int k n
 | .bool,v=>∃b:al,v=.bool b
 | .str,v=>∃s:ByteArray,v=.string s
 |_,_=>False
def eO:O c4->O aa->Prop
 | [],vs=>vs=[]
 |l::ls,vs=>∃v us,vs=v::us/\sD l v/\eO ls us
theorem qI:∀ {ls:O c4}{vs:O aa},eO ls vs->vs.length=ls.length
 | [],_,h=>by cases h;rfl
 |_::_,_,h=>by
  obtain⟨v,us,rfl,_,h⟩:=h
  simp[qI h]
theorem qJ:∀ {ls ms:O c4}{vs:O aa},eO (ls++ms) vs->eO ls (vs.take ls.length)/\eO ms (vs.drop ls.length)
 | [],_,_,h=>⟨rfl,h⟩
 |l::ls,ms,vs,h=>by
  obtain⟨v,us,rfl,a,b⟩:=h
  obtain⟨c,d⟩:=qJ b
  exact⟨⟨v,_,rfl,a,c⟩,d⟩
theorem y_:∀ {ls ms:O c4}{vs us:O aa},eO ls vs->eO ms us->eO (ls++ms) (vs++us)
 | [],_,_,_,h,a=>by cases h;exact a
 |l::ls,ms,vs,us,h,a=>by
  obtain⟨v,vs,rfl,b,h⟩:=h
  exact⟨v,_,rfl,b,y_ h a⟩
def mf:aa->aa->al
 | .int _ a,.int _ b=>a==b
 | .bool a,.bool b=>a==b
 | .string a,.string b=>a.toList==b.toList
 |_,_=>false
def fc:O aa->O aa->al
 | [],_=>true
 |a::as,b::c=>mf a b&&fc as c
 |_::_,[]=>false
theorem CW{l:c4}{a b:aa}(c:sD l a)(d:sD l b):mf a b=true↔a=b:=by
 cases l<;>simp only[sD]at c d<;>try exact c.elim
 .obtain⟨n,rfl⟩:=c;obtain⟨m,rfl⟩:=d;simp[mf]
 .obtain⟨n,rfl⟩:=c;obtain⟨m,rfl⟩:=d;simp[mf]
 .obtain⟨n,rfl⟩:=c;obtain⟨m,rfl⟩:=d
  simp only[mf,jH,Value.string.injEq];rw[ByteArray.toList_eq,ByteArray.toList_eq];obtain⟨⟨x⟩⟩:=n;obtain⟨⟨y⟩⟩:=m;simp
theorem vS:∀ {ls:O c4}{as c:O aa},eO ls as->eO ls c->(fc as c=true↔as=c)
 | [],_,_,d,e=>by cases d;cases e;simp[fc]
 |l::ls,_,_,d,e=>by
  obtain⟨a,as,rfl,f,g⟩:=d
  obtain⟨b,c,rfl,h,i⟩:=e
  simp[fc,CW f h,vS g i]
theorem vT:∀ {as c cs ds:O aa},as.length=c.length->fc (as++cs) (c++ds)=(fc as c&&fc cs ds)
 | [],[],_,_,_=>by simp[fc]
 |a::as,b::c,cs,ds,h=>by
  simp only[lW,fc]
  rw[vT (by simpa using h),Bool.and_assoc]
 | [],_::_,_,_,h=>by simp at h
 |_::_,[],_,_,h=>by simp at h
def km(P:Program)(T:TypeId)(cs:O aa):aa:=
 match P.underlying T with
 |some d=>if gG d then .agg cs.toArray else cs.headD undef
 |none=>undef
section
variable {P:Program}
theorem nq{T:TypeId}{d:TypeDesc}{cs:O aa}(h:P.underlying T=some d)(a:gG d=true):km P T cs=.agg cs.toArray:=by
 simp[km,h,a]
theorem nr{T:TypeId}{d:TypeDesc}{v:aa}(h:P.underlying T=some d)(a:gG d=false):km P T [v]=v:=by
 simp[km,h,a]
theorem sE{T:TypeId}{cs us:O aa}{off:Nat}{d:TypeDesc}(a:P.underlying T=some d)(b:P.cellsOf T=us.length)(c:gG d=false->us.length=1)
 (h:(cs.drop off).take us.length=us) (w:J):(part T cs.toArray off).run P w=.ok (km P T us) w:=by
 cases hd:gG d with
 |true=>
  rw[nq a hd];have e:cs.toArray.extract off (off+us.length)=us.toArray:=by
   simp[h]
  simp[part,oE a,hd,gH a,b,h]
 |false=>
  obtain⟨v,rfl⟩:=List.length_eq_one_iff.1 (c hd);rw[nr a hd];have f:cs[off]? =some v:=by
   have:((cs.drop off).take 1)[0]? =some v:=by
    have g:List.take 1 (List.drop off cs)=[v]:=h;rw[g];rfl
   rw[List.getElem?_take_of_lt I,rR]at this;simpa using this
  simp[part,oE a,hd,f]
theorem flat_agg{d:Nat}{T:TypeId}{ls:O c4}(h:ir P d T=some ls):∃u,P.underlying T=some u/\(gG u=false->ls.length=1):=by
 cases d with
 |zero=>cases h
 |succ d=>
  simp only[ir]at h
  cases hu:P.underlying T with
  |none=>simp[hu]at h
  |some u=>
   refine⟨u,rfl,λa=>?_⟩;rw[hu]at h
   cases u<;>simp only[gG,reduceCtorEq]at a h<;>first|(cases h;rfl)|cases h
theorem za{d D:Nat}(i:∀ {T:TypeId}{ls:O c4}{xs ys:O aa},ir P d T=some ls->eO ls xs->eO ls ys->∀w,(Op.equalIn (D+d) T (km P T xs) (km P T ys)).run P w=.ok (fc xs ys) w)
 {xs ys:O aa}:∀ {fs:O Field}{o:Nat}{ls:O c4},oV (ir P d) P fs o=some ls->eO ls (xs.drop o)->eO ls (ys.drop o)->
  ∀w,(Op.eqFields (D+d) xs.toArray ys.toArray fs).run P w=.ok (fc (xs.drop o) (ys.drop o)) w
 | [],o,ls,h,hx,j,w=>by
  simp only[oV,Option.some.injEq]at h
  subst h
  have hx:xs.drop o=[]:=hx
  rw[hx]
  rfl
 |f::fs,o,ls,h,hx,j,w=>by
  simp only[oV]at h
  split at h
  .cases h
  .rename_i hf
   have s:¬f.name= "_" :=λe=>hf (.inl e)
   have t:f.offset=o:=by
    by_cases e:f.offset=o
    .exact e
    .exact absurd (.inr e) hf
   subst t;split at h
   .rename_i ms k
    split at h
    .rename_i hc
     cases c:oV (ir P d) P fs (f.offset+ms.length) with
     |none=>simp[c]at h
     |some x=>
      simp only[c,l1,Option.some.injEq]at h;subst h;obtain⟨l,m⟩:=qJ hx;obtain⟨n,p⟩:=qJ j;rw[k9]at m p;obtain⟨u,hu,q⟩:=flat_agg k;have a:=qI l;have b:=qI n;have bl:=sE (cs:=xs) (off:=f.offset) (us:=(xs.drop f.offset).take ms.length) hu (by rw[hc,a]) (λg=>by rw[a];exact q g) (by rw[a]);have bd:=sE (cs:=ys) (off:=f.offset) (us:=(ys.drop f.offset).take ms.length) hu (by rw[hc,b]) (λg=>by rw[b];exact q g) (by rw[b]);have e:=λw=>i k l n w;have r:=za i (fs:=fs) c m p;have v:fc (xs.drop f.offset) (ys.drop f.offset)=(fc ((xs.drop f.offset).take ms.length) ((ys.drop f.offset).take ms.length)&&fc (xs.drop (f.offset+ms.length)) (ys.drop (f.offset+ms.length))):=by
       rw[←vT (by rw[a,b])];simp only[←k9,gF]
      simp only[Op.eqFields,ne_eq,s,not_false_eq_true,if_true,Sem.run_bind,bl,bd,e,Result.andThen];rw[v]
      cases fc ((xs.drop f.offset).take ms.length) ((ys.drop f.offset).take ms.length)
      .simp
      .simpa using r w
    .cases h
   .cases h
theorem zb{d D:Nat}(j:∀ {T:TypeId}{ls:O c4}{xs ys:O aa},ir P d T=some ls->eO ls xs->eO ls ys->∀w,(Op.equalIn (D+d) T (km P T xs) (km P T ys)).run P w=.ok (fc xs ys) w)
 {e:TypeId}{ls:O c4}{u:TypeDesc} (hu:P.underlying e=some u) (g:gG u=false->ls.length=1) (k:ir P d e=some ls) (hc:P.cellsOf e=ls.length) {xs ys:O aa}:
 ∀ (n i:Nat),eO (sC ls n) (xs.drop (i*ls.length))->eO (sC ls n) (ys.drop (i*ls.length))->∀w,
  Sem.run P (do
   let r ←forIn (List.range' i n) ((none:au al),()) λi _=>do
    let a ←part e xs.toArray (i*ls.length)
    let b ←part e ys.toArray (i*ls.length)
    let t ←Op.equalIn (D+d) e a b
    if (!t)=true then pure (ForInStep.done (some false,())) else pure (ForInStep.yield (none,()))
   match r.1 with
   |some b=>pure b
   |none=>pure true) w=.ok (fc (xs.drop (i*ls.length)) (ys.drop (i*ls.length))) w
 |0,i,hx,l,w=>by
  have hx:xs.drop (i*ls.length)=[]:=hx
  rw[hx]
  simp[fc]
 |n+1,i,hx,l,w=>by
  obtain⟨m,o⟩:=qJ hx
  obtain⟨p,q⟩:=qJ l
  rw[k9,show i*ls.length+ls.length=(i+1)*ls.length by rw[jd,Nat.one_mul]]at o q
  have c:=qI m
  have f:=qI p
  have bl:=sE (cs:=xs) (off:=i*ls.length) (us:=(xs.drop (i*ls.length)).take ls.length) hu (by rw[hc,c]) (λh=>by rw[c];exact g h) (by rw[c])
  have bd:=sE (cs:=ys) (off:=i*ls.length) (us:=(ys.drop (i*ls.length)).take ls.length) hu (by rw[hc,f]) (λh=>by rw[f];exact g h) (by rw[f])
  have s:=λw=>j k m p w
  have r:=zb j hu g k hc n (i+1) o q w
  have v:fc (xs.drop (i*ls.length)) (ys.drop (i*ls.length))=(fc ((xs.drop (i*ls.length)).take ls.length) ((ys.drop (i*ls.length)).take ls.length)&&fc (xs.drop ((i+1)*ls.length)) (ys.drop ((i+1)*ls.length))):=by
   rw[←vT (by rw[c,f]),show(i+1)*ls.length=i*ls.length+ls.length by rw[jd,Nat.one_mul]];simp only[←k9,gF]
  rw[v];simp only[List.range'_succ,List.forIn_cons,Sem.run_bind,bl,bd,s,Result.andThen]
  cases fc ((xs.drop (i*ls.length)).take ls.length) ((ys.drop (i*ls.length)).take ls.length)
  .simp
  .simpa[Result.andThen] using r
theorem zc(D:Nat):∀ (d:Nat) {T:TypeId}{ls:O c4}{xs ys:O aa},ir P d T=some ls->eO ls xs->eO ls ys->∀w,(Op.equalIn (D+d) T (km P T xs) (km P T ys)).run P w=.ok (fc xs ys) w
 |0,_,_,_,_,h,_,_,_=>by cases h
 |d+1,T,ls,xs,ys,h,hx,b,w=>by
  have c:= @zc D d
  simp only[ir]at h
  cases hu:P.underlying T with
  |none=>simp[hu]at h
  |some u=>
   rw[hu]at h
   cases u with
   |int k=>
    simp only[Option.some.injEq]at h;subst h
    obtain⟨x,_,rfl,⟨n,rfl⟩,rfl⟩:=hx
    obtain⟨y,_,rfl,⟨m,rfl⟩,rfl⟩:=b
    rw[nr hu rfl,nr hu rfl]
    show(Op.equalIn (D+d+1) T _ _).run P w=_
    simp[Op.equalIn,cP hu,fc,mf]
   |bool=>
    simp only[Option.some.injEq]at h;subst h
    obtain⟨x,_,rfl,⟨n,rfl⟩,rfl⟩:=hx
    obtain⟨y,_,rfl,⟨m,rfl⟩,rfl⟩:=b
    rw[nr hu rfl,nr hu rfl]
    show(Op.equalIn (D+d+1) T _ _).run P w=_
    simp[Op.equalIn,cP hu,fc,mf]
   |string=>
    simp only[Option.some.injEq]at h;subst h
    obtain⟨x,_,rfl,⟨n,rfl⟩,rfl⟩:=hx
    obtain⟨y,_,rfl,⟨m,rfl⟩,rfl⟩:=b
    rw[nr hu rfl,nr hu rfl]
    show(Op.equalIn (D+d+1) T _ _).run P w=_
    simp[Op.equalIn,cP hu,fc,mf,beq_toListBytes]
   |struct fs=>
    simp only at h
    split at h
    .cases h
    .rename_i j
     rw[nq hu rfl,nq hu rfl]
     have f:P.fieldsOf T=fs:=by simp[Program.fieldsOf,hu]
     show(Op.equalIn (D+d+1) T _ _).run P w=_
     rw[run_equalIn_struct w (D+d) T xs.toArray ys.toArray (by rw[f];exact hu) (by simpa using j),f]
     have:=za (D:=D) c (xs:=xs) (ys:=ys) h (by simpa using hx) (by simpa using b) w
     simpa using this
   |array n e=>
    simp only at h
    split at h
    .rename_i ms g
     split at h
     .rename_i hc
      simp only[Option.some.injEq]at h;subst h
      obtain⟨u,i,l⟩:=flat_agg g
      rw[nq hu rfl,nq hu rfl]
      show(Op.equalIn (D+d+1) T _ _).run P w=_
      have:=zb (D:=D) c i l g hc (xs:=xs) (ys:=ys) n 0 (by simpa using hx) (by simpa using b) w
      rw[Nat.zero_mul,iK,iK]at this
      rw[←this]
      simp only[Op.equalIn,Sem.run_bind,cP hu,gH i,Result.andThen,hc,Std.Legacy.Range.forIn_eq_forIn_range',Std.Legacy.Range.size]
      simp
      congr 1
      funext a w
      obtain⟨o,_⟩:=a
      cases o<;>rfl
     .cases h
    .cases h
   |_=>cases h
theorem kJ.flat{T:TypeId}{d:TypeDesc}{ls:O c4}{xs ys:O aa}(a:P.underlying T=some d)(b:gG d=true)(hf:ir P 8 T=some ls)(hg:P.eqGuardType P.depth T=false)
 (hx:eO ls xs) (c:eO ls ys):kJ P T xs.toArray ys.toArray (fc xs ys):=by
 refine⟨hg,λw=>?_⟩;have:=zc (P:=P) 9992 8 hf hx c w;rwa[nq a b,nq a b]at this
end
end aP
namespace aP
open Go Go.RowKit
theorem vU{n:Int}(h0:0<=n)(a:n<=255):IntKind.u8.wrap n=n:=by
 simp only[IntKind.wrap,IntKind.signed,IntKind.bits];simp;omega
theorem vV{n:Int}(h0:0<=n)(a:n<=4294967295):IntKind.u32.wrap n=n:=by
 simp only[IntKind.wrap,IntKind.signed,IntKind.bits];simp;omega
theorem gz{n:Int}(h0:0<=n)(a:n<=18446744073709551615):IntKind.u64.wrap n=n:=by
 simp only[IntKind.wrap,IntKind.signed,IntKind.bits];simp;omega
theorem CX(n:Int):IntKind.u8.wrap n=n%256:=by
 simp only[IntKind.wrap,IntKind.signed,IntKind.bits];simp
def S(l:O UInt8):ByteArray:=⟨l.toArray⟩
theorem zd(l:O UInt8):(S l).toList=l:=ByteArray.toList_mk l
theorem ze(a b:O UInt8):(ByteArray.toList (S a)==ByteArray.toList (S b))=(a==b):=by rw[zd,zd]
theorem CY(ns:O Int):y8 ns=S (ns.map λn=>UInt8.ofNat n.toNat):=by
 have h:∀ (ns:O Int) (r:O UInt8),ns.foldl (λr n=>r.push (UInt8.ofNat n.toNat)) (S r)=S (r++ns.map λn=>UInt8.ofNat n.toNat):=by
  intro ns
  induction ns with
  |nil=>intro r;simp
  |cons n ns a=>
   intro r;have e:(S r).push (UInt8.ofNat n.toNat)=S (r++ [UInt8.ofNat n.toNat]):=by
    apply ByteArray.ext;simp[S,ByteArray.push]
   simp only[List.foldl_cons,e,a,g5,cy,lW,ke]
 exact h ns []
theorem add_add(A:ah)(n m:Nat):(A.add n).add m=A.add (n+m):=by
 unfold Addr.add;by_cases a:n=0
 .subst a;simp
 .by_cases b:m=0
  .subst b;simp
  .rw[if_neg a,if_neg b,if_neg I]
   simp[Nat.add_assoc]
def put(f:Nat->Int)(i:Nat)(v:Int):Nat->Int:=λj=>if j=i then v else f j
section
variable {w w':J}{b m i:Nat}{T:TypeId}{f:Nat->Int}
theorem af.gg{w0 w:J}{b i:Nat}(h:af (λq=>q=b) w0 w)(v:aa):af (λq=>q=b) w0 (w.setCell ⟨b,i,none⟩ v):=af.set h (λ_=>rfl) v
theorem af.jn{w0 w:J}{b i:Nat}(h:af (λq=>q=b) w0 w)(vs:O aa)(j:Nat):af (λq=>q=b) w0 (aP.setCells w ⟨b,i,none⟩ j vs):=af.setCells (W:=λq=>q=b) (A:=⟨b,i,none⟩) (λ_=>rfl) vs j h
end
theorem mg{b o:Nat}{z l m:Nat}(h:m≠l):aU (some (Addr.mk b o none)) z l m=some ⟨b,o+l*z,none⟩:=by
 simp[aU,h,aB]
theorem Ext.trans{a b c:J}(d:Ext a b)(e:Ext b c):Ext a c:=af.trans d e
theorem Ext.dY{w0 w1 ai:J}{W:Nat->Prop}(a:Ext w0 w1)(b:af W w1 ai)(h:∀k,W k->w0.heap.size<=k):Ext w0 ai:=
 ⟨b.os.trans a.os,b.tape.trans a.tape,b.output.trans a.output,eH a.size b.size,λk c _=>by
  rw[b.block k (e_ c a.size) (λcp=>by have:=h k cp;omega),a.block k c id]⟩
end aP
namespace aP
open Go
def oW(P:Program)(f:FuncId)(args:Array aa)(w:J)(K:J->Prop):Prop:=
 gW P f/\CallsD P f args .returning w λe a w'=>(∃v,e=.returned v)/\a=.returning/\K w'
def vW(P:Program)(tk:TypeId->dt)(c:Code)(K:FuncId->Array aa->Array aa->Env->J->Prop)(e:Env)(w:J):Prop:=
 match c with
 | .region _ ops false=>match ops.toList with
  | [a,b]=>match a.guard,b.guard,b.dst,b.op with
   |none,none,none,.defer call=>match call.callee,call.args.toList with
    | .value x,[]=>iM P tk a (λv w'=>match ev (cW a.dst v e) x with|some (.func (.func f) first cap)=>K f first cap (cW a.dst v e) w'|_=>False) e w
    |_,_=>False
   |_,_,_,_=>False
  |_=>False
 |_=>False
def qK(P:Program)(tk:TypeId->dt):aL->Code->(Exit->Env->J->Prop)->(FuncId->Array aa->Array aa->Exit->Env->J->Prop)->Env->J->Prop
 | .seq .leaf B,.seq a b,_,Kd,e,w=>vW P tk a (λf first cap c w'=>D P tk B b (Kd f first cap) c w') e w
 | .seq A B,.seq a b,K,Kd,e,w=>D P tk A a (λx c w'=>match x with| .normal=>qK P tk B b K Kd c w'|x=>K x c w') e w
 |_,_,_,_,_,_=>False
def CZ(P:Program)(tk:TypeId->dt)(a:O ResultVar)(R:aa->J->Prop)(f:FuncId)(first cap:Array aa)(x:Exit)(e:Env)(w:J):Prop:=
 match x with
 | .normal| .ret=>oW P f (first++cap) w λw'=>lp P tk a e w' λvs=>R (oQ vs) w'
 |_=>False
def vX(P:Program)(tk:TypeId->dt)(A:aL)(fn:Func)(args:O aa)(w:J)(R:aa->J->Prop):Prop:=
 match fn.body with
 |some c=>qK P tk A c (y0 P tk fn.results.toList R) (CZ P tk fn.results.toList R) (nm 0 args) w
 |none=>False
variable {P:Program}{tk:TypeId->dt}
def qL(f:FuncId)(first cap:Array aa):Deferred:={target:=.fn (.func f) cap,args:=first++ #[]}
theorem C0{c:Code}{K:FuncId->Array aa->Array aa->Env->J->Prop}{e:Env}{a:Act}{w:J}(ar:c6 e a)(q:∀d∈writes c,d<a.tmps.size)(h:vW P tk c K e w):
 c.wp P (λx l w'=>x=.normal/\∃f first cap,l.defers=qL f first cap::a.defers/\l.tmps.size=a.tmps.size/\∃n,c6 n l/\K f first cap n w') a w:=by
 unfold vW at h;split at h
 case h_2=>exact h.elim
 rename_i id ops;split at h
 case h_2=>exact h.elim
 rename_i b j o;split at h
 case h_2=>exact h.elim
 rename_i call r t u y;split at h
 case h_2=>exact h.elim
 rename_i x hc sA;refine wp_region_list ?_;rw[o];have w1:Region.wanted b (yielded ops a.tmps)=true:=by unfold Region.wanted;rw[r]
 simp only[wpList,w1,if_true];refine .inl ((si ar h).wp ?_);intro v w' m;have z:Region.wanted j (yielded ops (a.put b.dst v).tmps)=true:=by unfold Region.wanted;rw[t]
 simp only[z,if_true];refine .inl ?_;split at m
 case h_2=>exact m.elim
 rename_i f first cap A;have p:c6 (cW b.dst v e) (a.put b.dst v):=ar.put λk i=>q k (by simp[writes,o,bA,i]);have B:call.args= #[]:=by
  have:=congrArg List.toArray sA;simpa using this
 have C:(execOp (a.put b.dst v).eval j).run P w'=.ok (.defer (qL f first cap)) w':=by
  have D:∀g:Operand->aa,Array.map g #[]= #[]:=λg=>by simp
  simp only[execOp,y,resolve,hc,B,p.ev A,D];rfl
 show j.upon P _ _ _ ((execOp (a.put b.dst v).eval j).run P w');rw[C,Oper.upon_defer,u];refine⟨trivial,f,first,cap,?_,?_,cW b.dst v e,?_,m⟩
 .have:=(dC.put (a:=a) (d:=b.dst) (v:=v) (ds:=bA [b]) (λk i=>by simp[bA,i])).defers
  show qL f first cap::(a.put b.dst v).defers=_;rw[this]
 .exact(dC.put (a:=a) (d:=b.dst) (v:=v) (ds:=bA [b]) (λk i=>by simp[bA,i])).size
 .exact⟨λs v hs=>p.get s v hs⟩
theorem C1(q:P.follows .mixedOrders=true):∀ (A:aL) (c:Code) (K:Exit->Env->J->Prop) (Kd:FuncId->Array aa->Array aa->Exit->Env->J->Prop) (e:Env) (a:Act) (w:J),c6 e a->a.defers=[]->
 (∀d∈writes c,d<a.tmps.size)->qK P tk A c K Kd e w->
 c.wp P (λx n w'=>(n.defers=[]/\∃k,c6 k n/\K x k w')\/∃f first cap,n.defers=[qL f first cap]/\∃k,c6 k n/\Kd f first cap x k w') a w:=by
 intro A
 induction A with
 |seq A B F s=>
  intro c K Kd e a w ar hd m h;unfold qK at h;split at h
  case h_3=>exact h.elim
  .rename_i t x y o
   cases o;have hx:∀d,d∈writes x->d∈writes (.seq x y):=λd hd=>by simp[writes,hd]
   have p:∀d,d∈writes y->d∈writes (.seq x y):=λd hd=>by simp[writes,hd]
   refine wp_seq (iO (C0 ar (λd hd=>m d (hx d hd)) h) ?_);rintro ex a1 w1 ⟨rfl,f,first,cap,b,u,g,i,v⟩;refine iO (sy q B y _ g a1 w1 i (λd hd=>by rw[u];exact m d (p d hd)) v) ?_;rintro ex a2 ai ⟨z,C,D,E⟩;exact .inr ⟨f,first,cap,by rw[z.defers,b,hd],C,D,E⟩
  .rename_i G t x y _ o
   cases o;have hx:∀d,d∈writes x->d∈writes (.seq x y):=λd hd=>by simp[writes,hd]
   have p:∀d,d∈writes y->d∈writes (.seq x y):=λd hd=>by simp[writes,hd]
   refine wp_seq (iO (sy q A x _ _ a _ ar (λd hd=>m d (hx d hd)) h) ?_);rintro ex a1 w1 ⟨r,g,i,b⟩;have j:a1.defers=[]:=by rw[r.defers,hd]
   cases ex with
   |normal=>exact s y _ _ g a1 w1 i j (λd hd=>by rw[r.size];exact m d (p d hd)) b
   |exit id=>exact .inl ⟨j,g,i,b⟩
   |goto l=>exact .inl ⟨j,g,i,b⟩
   |ret=>exact .inl ⟨j,g,i,b⟩
   |panic ch=>exact .inl ⟨j,g,i,b⟩
   |outgrown=>exact .inl ⟨j,g,i,b⟩
 |_=>intro c K Kd e a w ar hd m h;unfold qK at h;exact h.elim
theorem zf{fn:Func}{args:O aa}(b:args.length<=fn.ntmps):c6 (nm 0 args) {tmps:=args.toArray++Array.replicate (fn.ntmps-args.toArray.size) undef,defers:=[]}:=by
 constructor;intro s v hs;obtain⟨_,a⟩:=vQ hs;simp only[mY]at a;have aH:s<args.length:=(iI.1 a).1;simp[Array.getElem?_append,aH];rw[dr aH]at a;exact Option.some.inj a
theorem C2{f:FuncId}{fn:Func}{A:aL}{args:O aa}{w:J}{K:J->Prop}(o:P.follows .mixedOrders=true)(hc:gW P f)
 (hf:P.funcs[f]? =some fn) (b:nn fn args.length=true) (h:oR P tk A fn args w λ_ w'=>K w'):oW P f args.toArray w K:=by
 refine⟨hc,?_⟩;unfold oR at h;unfold nn at b
 cases g:fn.body with
 |none=>rw[g]at h;exact h.elim
 |some c=>
  rw[g]at h b;simp only[dk]at h b;obtain⟨p,q⟩:=b;have r:=l0 q;have s:(args.toArray++Array.replicate (fn.ntmps-args.toArray.size) undef).size=fn.ntmps:=by simp;omega
  refine(callsD_of_wp (R:=λe w'=>(∃v,e=.returned v)/\K w') hf g ?_).mono λe z w' ⟨i,m,t⟩=>⟨m,i,t⟩;refine iO (sy o A c _ _ _ w (zf r) (λd hd=>?_) h) ?_
  .have i:=ou.1 p d hd
   have m:=l0 i;show d<(args.toArray++Array.replicate (fn.ntmps-args.toArray.size) undef).size;rw[s];omega
  .rintro x u w' ⟨y,B,n,a⟩
   have hd:u.defers=[]:=y.defers
   cases x with
   |normal=>
    obtain⟨vs,j,k⟩:=lq n a;exact⟨hd,_,np j,⟨_,rfl⟩,k⟩
   |ret=>
    obtain⟨vs,j,k⟩:=lq n a;exact⟨hd,_,np j,⟨_,rfl⟩,k⟩
   |exit id=>exact a.elim
   |goto l=>exact a.elim
   |panic ch=>exact a.elim
   |outgrown=>exact a.elim
theorem C3{f:FuncId}{fn:Func}{A:aL}{args:O aa}{w:J}{R:aa->J->Prop}(p:P.follows .mixedOrders=true)
 (hf:P.funcs[f]? =some fn) (n:nn fn args.length=true) (h:vX P tk A fn args w R):
 Calls P f args.toArray w λe w'=>∃v,e=.returned v/\R v w':=by
 unfold vX at h;unfold nn at n
 cases o:fn.body with
 |none=>rw[o]at h;exact h.elim
 |some c=>
  rw[o]at h n;simp only[dk]at h n;obtain⟨q,r⟩:=n;have s:=l0 r;have t:(args.toArray++Array.replicate (fn.ntmps-args.toArray.size) undef).size=fn.ntmps:=by simp;omega
  refine calls_of_wp_defers hf o ?_;refine iO (C1 p A c _ _ _ _ w (zf s) rfl (λd hd=>?_) h) ?_
  .have u:=ou.1 q d hd
   have z:=l0 u;show d<(args.toArray++Array.replicate (fn.ntmps-args.toArray.size) undef).size;rw[t];omega
  .have key:∀ {b:Act}{w':J}{j:Env}{g:FuncId}{first cap:Array aa},b.defers=[qL g first cap]->c6 j b->(oW P g (first++cap) w' λw'=>lp P tk fn.results.toList j w' λvs=>R (oQ vs) w')->
    Leaves P fn b.tmps (λe w'=>∃v,e=.returned v/\R v w') b.defers .returning w':=by
    intro b w' j g first cap hd i ⟨hc,a⟩;rw[hd];refine leaves_cons (f:=g) (args:=first++cap) (by simp) (by simp[invoke,yu hc]) (a.mono ?_);rintro _ _ ai ⟨⟨v,rfl⟩,rfl,y⟩;obtain⟨vs,k,m⟩:=lq i y;exact⟨_,np k,_,rfl,m⟩
   rintro x b w' (⟨hd,j,i,a⟩|⟨g,first,cap,hd,j,i,a⟩)
   .cases x with
    |normal=>
     obtain⟨vs,k,m⟩:=lq i a;show Leaves _ _ _ _ b.defers _ _;rw[hd];exact⟨_,np k,_,rfl,m⟩
    |ret=>
     obtain⟨vs,k,m⟩:=lq i a;show Leaves _ _ _ _ b.defers _ _;rw[hd];exact⟨_,np k,_,rfl,m⟩
    |exit id=>exact a.elim
    |goto l=>exact a.elim
    |panic ch=>exact a.elim
    |outgrown=>exact a.elim
   .cases x with
    |normal=>exact key hd i a
    |ret=>exact key hd i a
    |exit id=>exact a.elim
    |goto l=>exact a.elim
    |panic ch=>exact a.elim
    |outgrown=>exact a.elim
end aP
namespace aP
open Go Go.RowKit
section
variable {α:Type}{P:Program}{w:J}{gI kO T:TypeId}{enc:α->aa}
def dQ(enc:α->aa)(x:α×aa×Nat):MapEntry:=⟨enc x.1,x.2.1,x.2.2⟩
def lr(x:α×aa×Nat):α×aa:=(x.1,x.2.1)
def lu[DecidableEq α](k:α):O (α×aa×Nat)->Nat->au (Nat×aa)
 | [],_=>none
 |x::L,i=>if k=x.1 then some (i,x.2.1) else lu k L (i+1)
theorem zg{β:Type}(f:β->β)(x:β)(bj:O β):∀a7:O β,(a7++x::bj).modify a7.length f=a7++f x::bj
 | []=>rfl
 |y::a7=>by
  show y::((a7++x::bj).modify a7.length f)=_
  rw[zg f x bj a7];rfl
structure mh[DecidableEq α](P:Program)(gI:TypeId)(enc:α->aa):Prop where
 find:∀ (L:O (α×aa×Nat)) (k:α) (w:J),(Instr.findKey gI (enc k) (L.map (dQ enc))).run P w=.ok (lu k L 0) w
 check:∀ (b:al) (k:α) (w:J),(Instr.checkKey b 10000 gI (enc k)).run P w=.ok () w
 bits:∀k,Instr.sameBits 10000 (enc k) (enc k)=true
theorem vY[DecidableEq α]{k:α}:∀ {L:O (α×aa×Nat)}{i:Nat},(∀x∈L,x.1≠k)->lu k L i=none
 | [],_,_=>rfl
 |x::L,i,h=>by
  rw[lu,if_neg (λe=>h x (by simp) e.symm)]
  exact vY λy a=>h y (by simp[a])
theorem vZ[DecidableEq α]{k:α}{v:aa}{n:Nat}{bj:O (α×aa×Nat)}:∀ {a7:O (α×aa×Nat)}{i:Nat},(∀x∈a7,x.1≠k)->lu k (a7++(k,v,n)::bj) i=some (i+a7.length,v)
 | [],i,_=>by simp[lu]
 |x::L,i,h=>by
  rw[lW,lu,if_neg (λe=>h x (by simp) e.symm),vZ λy a=>h y (by simp[a])]
  simp;omega
theorem mh.int{k:IntKind}(hu:P.underlying gI=some (.int k)):mh P gI (λn:Int=>Value.int k n) where
 find L n w:=by
  have h:∀ (L:O (Int×aa×Nat)) (i:Nat),Instr.findNow (.int k) (.int k n) (L.map (dQ λn:Int=>Value.int k n)) i=some (lu n L i):=by
   intro L
   induction L with
   |nil=>intro i;rfl
   |cons x L a=>
    intro i;simp only[g5,Instr.findNow,dQ,Instr.sameNow,if_true,lu];by_cases hx:n=x.1
    .subst hx;simp
    .rw[if_neg hx,show(n==x.1)=false by simpa using hx]
     exact a (i+1)
  simp[Instr.findKey,cP hu,h]
 check b n w:=by
  show(Instr.checkKey b (9999+1) gI (.int k n)).run P w=_;unfold Instr.checkKey;simp only[Sem.run_bind,cP hu,Result.andThen];rfl
 bits n:=by
  show(k==k&&n==n)=true;simp
def ee(w:J)(r:Nat)(enc:α->aa)(M:O (α×aa)):Prop:=
 ∃ (L:O (α×aa×Nat)) (a:Nat),w.heap[r]? =some (.map (L.map (dQ enc)).toArray a)/\(L.map lr).Perm M/\(L.map (·.1)).Nodup/\(L.map (·.2.2)).Nodup/\∀x∈L,x.2.2<a
def C4(w:J)(r:Nat)(enc:α->aa)(M:O (α×aa))(k:α)(v:aa)(st:Int):Prop:=
 ∃ (a7 bj:O (α×aa×Nat)) (n a:Nat),w.heap[r]? =some (.map ((a7++(k,v,n)::bj).map (dQ enc)).toArray a)/\((a7++bj).map lr).Perm M/\((a7++(k,v,n)::bj).map (·.1)).Nodup/\((a7++(k,v,n)::bj).map (·.2.2)).Nodup/\(∀x∈a7++(k,v,n)::bj,x.2.2<a)/\st=(n:Int)
variable {r:Nat}{M gJ:O (α×aa)}{k:α}{v:aa}{st:Int}{w':J}
theorem ee.lt(h:ee w r enc M):r<w.heap.size:=by
 obtain⟨L,a,h,_⟩:=h;exact(k6.1 h).1
theorem ee.ag{W:Nat->Prop}(h:ee w r enc M)(hc:af W w w')(a:¬W r):ee w' r enc M:=by
 have b:=h.lt;obtain⟨L,c,h,d⟩:=h;exact⟨L,c,by rw[hc.block r b a];exact h,d⟩
theorem ee.ext(h:ee w r enc M)(hc:Ext w w'):ee w' r enc M:=h.ag hc id
theorem ee.perm(h:ee w r enc M)(a:M.Perm gJ):ee w r enc gJ:=by
 obtain⟨L,b,h,c,d⟩:=h;exact⟨L,b,h,c.trans a,d⟩
theorem ee.split(h:ee w r enc ((k,v)::M)):∃n,C4 w r enc M k v (n:Nat):=by
 obtain⟨L,c,h,a,d,e,f⟩:=h;have g:(k,v)∈L.map lr:=a.mem_iff.2 (by simp);obtain⟨x,hx,b⟩:=fq.1 g;obtain⟨a7,bj,rfl⟩:=List.append_of_mem hx;obtain⟨i,j,n⟩:=x;simp only[lr,Prod.mk.injEq]at b;obtain⟨rfl,rfl⟩:=b;refine⟨n,a7,bj,n,c,h,?_,d,e,f,rfl⟩;rw[fG,g5]at a;have:=(l2.symm.trans a);rw[fG];exact this.cons_inv
theorem ee.keys(h:ee w r enc M):(M.map (·.1)).Nodup:=by
 obtain⟨L,c,h,a,b,d,e⟩:=h;have:=a.map (·.1);rw[ov]at this;exact this.nodup_iff.1 b
theorem ee.C5(a:(k,v)∈M):∃gJ,M.Perm ((k,v)::gJ):=by
 obtain⟨A,B,rfl⟩:=List.append_of_mem a;exact⟨A++B,l2⟩
def hA(w:J)(r:Nat)(o:Obj):J:={w with heap:=w.heap.setIfInBounds r o}
theorem qM(w:J)(r:Nat)(o:Obj):af (λq=>q=r) w (hA w r o):=
 ⟨rfl,rfl,rfl,by simp[hA],λk _ a=>by
  have:¬r=k:=λe=>a e.symm
  simp[hA,this]⟩
theorem sF(w:J)(r:Nat)(o:Obj):(hA w r o).heap.size=w.heap.size:=by simp[hA]
theorem sG{w:J}{r:Nat}(h:r<w.heap.size)(o:Obj):(hA w r o).heap[r]? =some o:=by simp[hA,h]
theorem lv{es:Array MapEntry}{a:Nat}(h:w.heap[r]? =some (.map es a)):(getObj r).run P w=.ok (.map es a) w:=by simp[getObj,Sem.run,h]
theorem v7{es:Array MapEntry}{a:Nat}(h:w.heap[r]? =some (.map es a))(o:Obj):(setObj r o).run P w=.ok () (hA w r o):=by simp[setObj,Sem.run,h,hA]
theorem zh{a7 bj:O (α×aa×Nat)}{x:α×aa×Nat}(h:((a7++x::bj).map (·.1)).Nodup):∀y∈a7,y.1≠x.1:=by
 intro y a e;rw[fG,g5,rV]at h;exact h.2.2 _ (List.mem_map_of_mem a) _ (qe ..) e
theorem zi{L:O (α×aa×Nat)}(a:(L.map lr).Perm M)(b:∀v,(k,v)∉M):∀x∈L,x.1≠k:=by
 intro x hx e;refine b x.2.1 (a.mem_iff.1 (fq.2 ⟨x,hx,?_⟩));simp[lr,e]
theorem ee.make(T:TypeId)(w:J):(Instr.makeMap T none).run P w=.ok (.map (some w.heap.size)) (w.alloc (.map #[] 0))/\ee (w.alloc (.map #[] 0)) w.heap.size enc ([]:O (α×aa)):=by
 refine⟨by simp[Instr.makeMap],[],0,?_,by simp,by simp,by simp,by simp⟩;show(w.heap.push (.map #[] 0))[w.heap.size]? =_;simp
theorem ee.zj[DecidableEq α](a:mh P gI enc)(b:P.underlying T=some (.map gI kO))(h:ee w r enc M)(c:(k,v)∈M)(ok:al):
 (Instr.lookup T (.map (some r)) (enc k) ok).run P w=.ok (if ok then .tuple #[v,.bool true] else v) w:=by
 obtain⟨gJ,d⟩:=ee.C5 c;obtain⟨n,a7,bj,e,g,h,i,f,j,l,_⟩:=(h.perm d).split;have hf:=a.find (a7++(k,v,e)::bj) k w;rw[vZ (zh f)]at hf;simp only[Instr.lookup,Sem.run_bind,cP b,Result.andThen,lv h,Sem.run_pure,a.check,hf]
theorem ee.zk[DecidableEq α](a:mh P gI enc)(b:P.underlying T=some (.map gI kO)){i:TypeInfo}{z:aa}(hi:P.info? kO=some i)(c:i.zero=some z)(h:ee w r enc M)(d:∀v,(k,v)∉M)(ok:al):
 (Instr.lookup T (.map (some r)) (enc k) ok).run P w=.ok (if ok then .tuple #[z,.bool false] else z) w:=by
 obtain⟨L,f,h,e,g,j,l⟩:=h;have hf:=a.find L k w;rw[vY (zi e d)]at hf;simp only[Instr.lookup,Sem.run_bind,cP b,Result.andThen,lv h,Sem.run_pure,a.check,hf,zeroValue,l8 hi,c]
end
end aP
namespace aP
open Go Go.RowKit
theorem zl(c:Array aa):∀ (vs:O aa) (i:Nat) (c:Array aa),(fP c i vs).toList.drop (i+vs.length)=c.toList.drop (i+vs.length)
 | [],_,_=>rfl
 |v::vs,i,c=>by
  simp only[fP,fF]
  rw[show i+(vs.length+1)=i+1+vs.length from I,zl c vs (i+1) (c.setIfInBounds i v)]
  rw[Array.toList_setIfInBounds,List.drop_set]
  rw[if_pos I]
theorem kP(vs:O aa)(c:Array aa)(i:Nat)(h:i+vs.length<=c.size):(fP c i vs).toList=c.toList.take i++vs++c.toList.drop (i+vs.length):=by
 rw[←gF (i+vs.length) (fP c i vs).toList,qG vs c i h,zl c]
section
variable {P:Program}{w:J}
theorem sH{ly dP ty e:TypeId}{d:TypeDesc}{sz:Nat}(hd:P.underlying ly=some (.slice e))(he:P.underlying e=some d)(g:P.cellsOf e=sz){A:ah}{dl nt n:Nat}{x:ad}(h:Nat.min x.len dl=n){xs:O aa}(hx:Src sz w ⟨x.a,n,x.cap⟩ xs)(b:bC w A xs):
 Sem.run P (Builtin.copy_ #[ly,dP] ty #[.slice (some A) dl nt,.slice x.a x.len x.cap]) w=.ok (.int .i64 ((n:Nat):Int)) (setCells w A 0 xs):=by
 have f:=gH (w:=w) he;rw[g]at f;have hf:Sem.run P (Builtin.firstCells sz n (.slice x.a x.len x.cap)) w=.ok xs.toArray w:=by
  obtain⟨a,l,c⟩:=x
  cases a<;>exact oT (P:=P) hx
 have i:=oF (P:=P) (A:=A) xs 0 w (by simpa using b.1) b.2;simp only[Builtin.copy_,qd,lY,List.getElem?_cons_succ,Sem.run_bind,cP hd,Result.andThen,Builtin.lenOf,Sem.run_pure,h,f,hf,i];rfl
set_option maxRecDepth 4000 in
theorem C6 {fN:Array TypeId}{dD dP jm e:TypeId}{i:TypeInfo}{k:IntKind}{z:aa}{sz n:Nat}{s:ad}{c:O aa} (h0:fN[0]? =some dP) (p:fN[1]? =some jm)
 (hs:P.underlying dP=some (.slice e)) (hx:P.underlying jm=some (.int k)) (hi:P.info? e=some i) (hd:(P.underlying e).isSome=true) (h:i.zero=some z) (j:z.cells.size=sz) (r:P.cellsOf e=sz)
 (t:i.bytes≠0) (hold:Src sz w s c) (u:s.cap<s.len+n) (l:(2*(s.len+n)+1000)*i.bytes<=281474976710656):
 ∃ (b:Nat) (zs rest:O aa),s.len+n<=b/\b<=maxLen/\zs.length=n*sz/\rest.length=(b-(s.len+n))*sz/\
  Sem.run P (Builtin.append_ fN dD #[.slice s.a s.len s.cap,.int .i64 ((n:Nat):Int)]) w=
   .ok (.slice (some ⟨w.heap.size,0,none⟩) (s.len+n) b) (w.drew.alloc (.cells (c++zs++rest).toArray e)):=by
 obtain⟨d,hd⟩:=jl _ hd;have m:=gH (w:=w) hd;rw[r]at m;have v:=y6 u;have T:Builtin.nextslicecap (s.len+n) s.cap*i.bytes<=281474976710656:=eH (mZ _ v) l;have U:s.len+n<=281474976710656:=by
  have:s.len+n<=(2*(s.len+n)+1000)*i.bytes:=by
   have:=Nat.mul_le_mul_left (2*(s.len+n)+1000) (Nat.one_le_iff_ne_zero.2 t);omega
  omega
 have x:n*i.bytes<=281474976710656:=eH (mZ _ (by omega:n<=2*(s.len+n)+1000)) l
 let q:Question:=.appendCap (s.len+n) s.cap e
 let b:Nat:=q.cut (w.tape w.drawn q)
 have A:q.forced=false:=rfl;have B:s.len+n<=b:=by show s.len+n<=s.len+n+_;omega
 have C:b<=maxLen:=by
  show s.len+n+_%(2^63-(s.len+n))<=2^63-1;have:=g4 (w.tape w.drawn q) (y:=2^63-(s.len+n)) I;omega
 have D:Src sz w.drew s c:=hold.ext (af.drew (.refl _ _));have E:=oT (P:=P) D;have F:∀n (w':J),(askRoom n).run P w'=.ok () w':=λn w'=>by unfold askRoom;split<;>rfl
 have G:(choose q).run P w=.ok b w.drew:=by
  show Sem.run P (.choose q .pure) w=_;simp only[Sem.run,A,fE,if_false];rfl
 have f:=λw:J=>l8 (w:=w) hi;refine⟨b,if n*sz=0 then [] else (Builtin.zeroCells z.cells n).toList,(Builtin.zeroCells z.cells (b-(s.len+n))).toList,B,C,?_,by simp[Builtin.zeroCells,j],?_⟩
 .split
  .rename_i h0;simp[h0]
  .simp[Builtin.zeroCells,j]
 have H:IntKind.i64.wrap ((n:Nat):Int)=(n:Int):=bw I I;have K:¬((n:Int)<0):=by omega
 have L:¬((n:Int)*(i.bytes:Int)>2^48):=by
  have:((n*i.bytes:Nat):Int)<=((281474976710656:Nat):Int):=Int.ofNat_le.2 x;rw[Int.natCast_mul]at this;have M:(2:Int)^48=((281474976710656:Nat):Int):=by decide+kernel
  rw[M];omega
 have N:¬(s.len+n<=s.cap):=by omega
 have Q:¬((s.len+n:Nat):Int)>IntKind.i64.max:=by
  simp[IntKind.max,IntKind.signed,IntKind.bits];omega
 have R:¬Builtin.nextslicecap (s.len+n) s.cap*i.bytes>2^48:=by
  have:(2:Nat)^48=281474976710656:=by decide+kernel
  omega
 have S:Sem.run P (choose (.appendCap (s.len+n) s.cap e)) w=.ok b w.drew:=G;unfold Builtin.append_;simp only[qd,lY,List.getElem?_cons_succ,h0,p,Sem.run_bind,cP hs,cP hx,Result.andThen,m,Sem.run_pure,asInt,asIntOf,H,K,if_false,f,L,dm,N,Q,false_and,R,if_true,Bool.not_true,fE,S,F,E];by_cases o:n*sz=0
 .simp only[o,if_true,Sem.run_pure,zeroValue,f,h,Sem.run_bind,Result.andThen,newRow,newObj,Sem.run]
  have g:w.drew.heap.size=w.heap.size:=rfl;rw[g]
  congr 1
  show w.drew.alloc _=w.drew.alloc _
  congr 2
  simp
 .simp only[o,if_false,Sem.run_pure,zeroValue,f,h,Sem.run_bind,Result.andThen,newRow,newObj,Sem.run]
  have g:w.drew.heap.size=w.heap.size:=rfl;rw[g]
  congr 1
  show w.drew.alloc _=w.drew.alloc _
  congr 2
  simp
theorem C7{T o e:TypeId}{i:TypeInfo}{z:aa}{sz n c:Nat}{A:ah}(a:P.underlying T=some (.slice e))(hi:P.info? e=some i)(b:i.zero=some z)(d:z.cells.size=sz)(f:n≠0)
 (g:∀zs:O aa,zs=(Builtin.zeroCells z.cells n).toList->bC w A zs):
 ∃zs:O aa,zs.length=n*sz/\Sem.run P (Builtin.clear_ #[T] o #[.slice (some A) n c]) w=.ok (.tuple #[]) (setCells w A 0 zs):=by
 refine⟨(Builtin.zeroCells z.cells n).toList,by simp[Builtin.zeroCells,d],?_⟩;have hs:=g _ rfl;have h:=oF (P:=P) (A:=A) _ 0 w (by simpa using hs.1) hs.2
 cases n with
 |zero=>exact absurd rfl f
 |succ n=>
  simp only[Builtin.clear_,qd,lY,Sem.run_bind,cP a,Result.andThen,zeroValue,l8 hi,b,Sem.run_pure,h]
end
theorem v8(a:au ah)(z c:Nat):aU a z 0 c=a:=by
 unfold aU;split
 .rfl
 .cases a with
  |none=>rfl
  |some A=>simp[add_zero']
theorem bf.qN{sz:Nat}{w:J}{b:Nat}{c:Array aa}{T:TypeId}(h:bf w b c T){o n cap:Nat}(d:o+n*sz<=c.size):Src sz w ⟨some ⟨b,o,none⟩,n,cap⟩ ((c.toList.drop o).take (n*sz)):=by
 refine⟨by simp;omega,(λh=>by cases h),λa e=>?_⟩
 cases e;have:=oS h (n*sz) o 0 (by simpa using d);simpa using this
theorem bf.kQ{w:J}{b o:Nat}{c:Array aa}{T:TypeId}(h:bf w b c T)(vs:O aa):bf (setCells w ⟨b,o,none⟩ 0 vs) b (fP c o vs) T:=by
 simpa using bf.qF vs o 0 h
theorem aV.mk'{sz:Nat}{T:TypeId}{w:J}{b n cap:Nat}{c:Array aa}{vs:O aa}(a:bf w b c T)(d:vs.length=n*sz)(e:n<=cap)(hc:cap<=maxLen)(hs:c.size=cap*sz)(f:c.toList.take (n*sz)=vs):aV sz T w ⟨some ⟨b,0,Option.none⟩,n,cap⟩ vs:=
 ⟨d,e,hc,.inr ⟨b,c,rfl,a,hs,f⟩⟩
theorem C8(A:ah)(a b:Nat):(A.add a).add b=A.add (a+b):=by
 unfold Addr.add;by_cases c:a=0
 .subst c;simp
 .by_cases d:b=0
  .subst d;simp
  .simp[c,d,Nat.add_assoc]
theorem zm{w:J}{A:ah}:∀ {n i:Nat}{vs:O aa}{j:Nat}{v:aa},bV w A i n=some vs->vs[j]? =some v->w.cell? (A.add (i+j))=some v
 |0,_,vs,j,v,h,a=>by simp[bV]at h;subst h;simp at a
 |n+1,i,vs,j,v,h,a=>by
  simp only[bV]at h
  cases b:w.cell? (A.add i) with
  |none=>simp[b]at h
  |some u=>
   cases c:bV w A (i+1) n with
   |none=>simp[b,c]at h
   |some us=>
    simp only[b,c,Option.some.injEq]at h
    subst h
    cases j with
    |zero=>simp at a;subst a;exact b
    |succ j=>
     have:=zm c (j:=j) (v:=v) (by simpa using a)
     rwa[show i+(j+1)=i+1+j from I]
theorem zn{w:J}{A:ah}:∀ (n i:Nat) (vs:O aa),vs.length=n->(∀j v,vs[j]? =some v->w.cell? (A.add (i+j))=some v)->bV w A i n=some vs
 |0,i,vs,a,_=>by
  cases vs with
  |nil=>simp[bV]
  |cons _ _=>simp at a
 |n+1,i,vs,a,h=>by
  cases vs with
  |nil=>simp at a
  |cons v vs=>
   simp only[bV]
   rw[show w.cell? (A.add i)=some v from h 0 v rfl,zn n (i+1) vs (by simpa using a) (λj x hx=>by have:=h (j+1) x (by simpa using hx);rwa[show i+(j+1)=i+1+j from I]at this)]
theorem zo{w:J}{A:ah}{n k m:Nat}{vs:O aa}(h:bV w A 0 n=some vs)(b:k+m<=n):bV w (A.add k) 0 m=some ((vs.drop k).take m):=by
 have c:=y4 h;refine zn m 0 _ (by simp;omega) λj v a=>?_;rw[C8,show k+(0+j)=0+(k+j) from I];refine zm h ?_;rw[rU]at a;split at a
 .rwa[rR]at a
 .cases a
theorem C9{a b:Nat}(h:a+b<=4000000):IntKind.wrap .i64 (Int.fdiv (IntKind.wrap .u64 (IntKind.wrap .i64 ((a:Int)+(b:Int)))) (2^(min (Int.toNat 1) 64)))=(((a+b)/2:Nat):Int):=by
 rw[bw (n:=(a:Int)+b) I I,gz I I];have e:(2:Int)^(min (Int.toNat 1) 64)=2:=rfl;rw[e,Int.fdiv_eq_ediv_of_nonneg _ I,bw I I];omega
section
variable {w:J}
end
end aP
