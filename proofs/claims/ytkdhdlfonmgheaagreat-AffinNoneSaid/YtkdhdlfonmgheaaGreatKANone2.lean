/- What a Go program of the model must show, as text that can be read; sound against the kit. -/
import Derived.Carry
import Derived.ChangeArms
import Derived.ChangeVars
import Derived.Defers
import Derived.LaidLaws
import Derived.Laws.StructEq
import Derived.Lib.Overlaps
import Derived.MakeChecks
import Derived.WideKeyRuns
import Derived.Test.YtkdhdlfonmgheaaGreatKANone1
namespace aQ
open Go Go.RowKit
def iC(fl:TypeId->aq (O cD))(P:Program):O Field->Nat->aq (O cD)
 | [],_=>some []
 |f::fs,o=>if f.name= "_" \/f.offset≠o then none else
  match fl f.type with
  |some ls=>if P.cellsOf f.type=ls.length then (iC fl P fs (o+ls.length)).map (ls++ ·) else none
  |none=>none
def lD(ls:O cD):Nat->O cD
 |0=> []
 |n+1=>ls++lD ls n
def fl(P:Program):Nat->TypeId->aq (O cD)
 |0,_=>none
 |d+1,T=>match P.underlying T with
  |some (.int k)=>some [.int k]
  |some .bool=>some [.bool]
  |some .string=>some [.str]
  |some (.struct fs)=>if P.stoodInHeld T then none else iC (fl P d) P fs.toList 0
  |some (.array n e)=>match fl P d e with
   |some ls=>if P.cellsOf e=ls.length then some (lD ls n) else none
   |none=>none
  |_=>none
def rR:cD->Y->Prop
 | .int k,v=>∃n:Int,v=.int k n
 | .bool,v=>∃b:an,v=.bool b
 | .str,v=>∃s:ByteArray,v=.string s
 |_,_=>False
def d_:O cD->O Y->Prop
 | [],vs=>vs=[]
 |l::ls,vs=>∃v us,vs=v::us/\rR l v/\d_ ls us
theorem p5:∀ {ls:O cD}{vs:O Y},d_ ls vs->vs.length=ls.length
 | [],_,h=>by cases h;rfl
 |_::_,_,h=>by
  obtain⟨v,us,rfl,_,h⟩:=h
  simp[p5 h]
theorem p6:∀ {ls ms:O cD}{vs:O Y},d_ (ls++ms) vs->d_ ls (vs.take ls.length)/\d_ ms (vs.drop ls.length)
 | [],_,_,h=>⟨rfl,h⟩
 |l::ls,ms,vs,h=>by
  obtain⟨v,us,rfl,h1,a⟩:=h
  obtain⟨b,c⟩:=p6 a
  exact⟨⟨v,_,rfl,h1,b⟩,c⟩
theorem vd:∀ {ls ms:O cD}{vs us:O Y},d_ ls vs->d_ ms us->d_ (ls++ms) (vs++us)
 | [],_,_,_,h,a=>by cases h;exact a
 |l::ls,ms,vs,us,h,a=>by
  obtain⟨v,vs,rfl,h1,h⟩:=h
  exact⟨v,_,rfl,h1,vd h a⟩
def lE:Y->Y->an
 | .int _ a,.int _ b=>a==b
 | .bool a,.bool b=>a==b
 | .string a,.string b=>a.toList==b.toList
 |_,_=>false
def e0:O Y->O Y->an
 | [],_=>true
 |a::as,b::c=>lE a b&&e0 as c
 |_::_,[]=>false
theorem Cd{l:cD}{a b:Y}(c:rR l a)(d:rR l b):lE a b=true↔a=b:=by
 cases l<;>simp only[rR]at c d<;>try exact c.elim
 .obtain⟨n,rfl⟩:=c;obtain⟨m,rfl⟩:=d;simp[lE]
 .obtain⟨n,rfl⟩:=c;obtain⟨m,rfl⟩:=d;simp[lE]
 .obtain⟨n,rfl⟩:=c;obtain⟨m,rfl⟩:=d
  simp only[lE,jj,Value.string.injEq];rw[ByteArray.toList_eq,ByteArray.toList_eq];obtain⟨⟨x⟩⟩:=n;obtain⟨⟨y⟩⟩:=m;simp
theorem rS:∀ {ls:O cD}{as c:O Y},d_ ls as->d_ ls c->(e0 as c=true↔as=c)
 | [],_,_,h1,d=>by cases h1;cases d;simp[e0]
 |l::ls,_,_,h1,d=>by
  obtain⟨a,as,rfl,e,f⟩:=h1
  obtain⟨b,c,rfl,g,h⟩:=d
  simp[e0,Cd e g,rS f h]
theorem ve:∀ {as c cs ds:O Y},as.length=c.length->e0 (as++cs) (c++ds)=(e0 as c&&e0 cs ds)
 | [],[],_,_,_=>by simp[e0]
 |a::as,b::c,cs,ds,h=>by
  simp only[ph,e0]
  rw[ve (by simpa using h),Bool.and_assoc]
 | [],_::_,_,_,h=>by simp at h
 |_::_,[],_,_,h=>by simp at h
def jW(P:Program)(T:TypeId)(cs:O Y):Y:=
 match P.underlying T with
 |some d=>if gG d then .agg cs.toArray else cs.headD undef
 |none=>undef
section
variable {P:Program}
theorem mD{T:TypeId}{d:TypeDesc}{cs:O Y}(h:P.underlying T=some d)(a:gG d=true):jW P T cs=.agg cs.toArray:=by
 simp[jW,h,a]
theorem mE{T:TypeId}{d:TypeDesc}{v:Y}(h:P.underlying T=some d)(a:gG d=false):jW P T [v]=v:=by
 simp[jW,h,a]
theorem rT{T:TypeId}{cs us:O Y}{off:Nat}{d:TypeDesc}(a:P.underlying T=some d)(b:P.cellsOf T=us.length)(c:gG d=false->us.length=1)
 (h:(cs.drop off).take us.length=us) (w:J):(part T cs.toArray off).run P w=.ok (jW P T us) w:=by
 cases hd:gG d with
 |true=>
  rw[mD a hd];have e:cs.toArray.extract off (off+us.length)=us.toArray:=by
   simp[h]
  simp[part,nL a,hd,gH a,b,h]
 |false=>
  obtain⟨v,rfl⟩:=List.length_eq_one_iff.1 (c hd);rw[mE a hd];have f:cs[off]? =some v:=by
   have:((cs.drop off).take 1)[0]? =some v:=by
    have g:List.take 1 (List.drop off cs)=[v]:=h;rw[g];rfl
   rw[List.getElem?_take_of_lt I,q7]at this;simpa using this
  simp[part,nL a,hd,f]
theorem flat_agg{d:Nat}{T:TypeId}{ls:O cD}(h:fl P d T=some ls):∃u,P.underlying T=some u/\(gG u=false->ls.length=1):=by
 cases d with
 |zero=>cases h
 |succ d=>
  simp only[fl]at h
  cases hu:P.underlying T with
  |none=>simp[hu]at h
  |some u=>
   refine⟨u,rfl,λa=>?_⟩;rw[hu]at h
   cases u<;>simp only[gG,reduceCtorEq]at a h<;>first|(cases h;rfl)|cases h
theorem yt{d D:Nat}(i:∀ {T:TypeId}{ls:O cD}{xs ys:O Y},fl P d T=some ls->d_ ls xs->d_ ls ys->∀w,(Op.equalIn (D+d) T (jW P T xs) (jW P T ys)).run P w=.ok (e0 xs ys) w)
 {xs ys:O Y}:∀ {fs:O Field}{o:Nat}{ls:O cD},iC (fl P d) P fs o=some ls->d_ ls (xs.drop o)->d_ ls (ys.drop o)->
  ∀w,(Op.eqFields (D+d) xs.toArray ys.toArray fs).run P w=.ok (e0 (xs.drop o) (ys.drop o)) w
 | [],o,ls,h,hx,j,w=>by
  simp only[iC,Option.some.injEq]at h
  subst h
  have hx:xs.drop o=[]:=hx
  rw[hx]
  rfl
 |f::fs,o,ls,h,hx,j,w=>by
  simp only[iC]at h
  split at h
  .cases h
  .rename_i hf
   have s:¬f.name= "_" :=λe=>hf (.inl e)
   have t:f.offset=o:=by
    by_cases e:f.offset=o
    .exact e
    .exact absurd (.inr e) hf
   subst t;split at h
   .rename_i ms k
    split at h
    .rename_i hc
     cases c:iC (fl P d) P fs (f.offset+ms.length) with
     |none=>simp[c]at h
     |some x=>
      simp only[c,kh,Option.some.injEq]at h;subst h;obtain⟨l,m⟩:=p6 hx;obtain⟨n,p⟩:=p6 j;rw[jl]at m p;obtain⟨u,hu,q⟩:=flat_agg k;have a:=p5 l;have b:=p5 n;have br:=rT (cs:=xs) (off:=f.offset) (us:=(xs.drop f.offset).take ms.length) hu (by rw[hc,a]) (λg=>by rw[a];exact q g) (by rw[a]);have bl:=rT (cs:=ys) (off:=f.offset) (us:=(ys.drop f.offset).take ms.length) hu (by rw[hc,b]) (λg=>by rw[b];exact q g) (by rw[b]);have e:=λw=>i k l n w;have r:=yt i (fs:=fs) c m p;have v:e0 (xs.drop f.offset) (ys.drop f.offset)=(e0 ((xs.drop f.offset).take ms.length) ((ys.drop f.offset).take ms.length)&&e0 (xs.drop (f.offset+ms.length)) (ys.drop (f.offset+ms.length))):=by
       rw[←ve (by rw[a,b])];simp only[←jl,gb]
      simp only[Op.eqFields,ne_eq,s,not_false_eq_true,if_true,Sem.run_bind,br,bl,e,Result.andThen];rw[v]
      cases e0 ((xs.drop f.offset).take ms.length) ((ys.drop f.offset).take ms.length)
      .simp
      .simpa using r w
    .cases h
   .cases h
theorem yu(ls:O cD):∀n,(lD ls n).length=n*ls.length
 |0=>by simp[lD]
 |n+1=>by simp[lD,yu ls n,iL,Nat.add_comm]
theorem yv{d D:Nat}(j:∀ {T:TypeId}{ls:O cD}{xs ys:O Y},fl P d T=some ls->d_ ls xs->d_ ls ys->∀w,(Op.equalIn (D+d) T (jW P T xs) (jW P T ys)).run P w=.ok (e0 xs ys) w)
 {e:TypeId}{ls:O cD}{u:TypeDesc} (hu:P.underlying e=some u) (g:gG u=false->ls.length=1) (k:fl P d e=some ls) (hc:P.cellsOf e=ls.length) {xs ys:O Y}:
 ∀ (n i:Nat),d_ (lD ls n) (xs.drop (i*ls.length))->d_ (lD ls n) (ys.drop (i*ls.length))->∀w,
  Sem.run P (do
   let r ←forIn (List.range' i n) ((none:aq an),()) λi _=>do
    let a ←part e xs.toArray (i*ls.length)
    let b ←part e ys.toArray (i*ls.length)
    let t ←Op.equalIn (D+d) e a b
    if (!t)=true then pure (ForInStep.done (some false,())) else pure (ForInStep.yield (none,()))
   match r.1 with
   |some b=>pure b
   |none=>pure true) w=.ok (e0 (xs.drop (i*ls.length)) (ys.drop (i*ls.length))) w
 |0,i,hx,l,w=>by
  have hx:xs.drop (i*ls.length)=[]:=hx
  rw[hx]
  simp[e0]
 |n+1,i,hx,l,w=>by
  obtain⟨m,o⟩:=p6 hx
  obtain⟨p,q⟩:=p6 l
  rw[jl,show i*ls.length+ls.length=(i+1)*ls.length by rw[iL,Nat.one_mul]]at o q
  have c:=p5 m
  have f:=p5 p
  have br:=rT (cs:=xs) (off:=i*ls.length) (us:=(xs.drop (i*ls.length)).take ls.length) hu (by rw[hc,c]) (λh=>by rw[c];exact g h) (by rw[c])
  have bl:=rT (cs:=ys) (off:=i*ls.length) (us:=(ys.drop (i*ls.length)).take ls.length) hu (by rw[hc,f]) (λh=>by rw[f];exact g h) (by rw[f])
  have s:=λw=>j k m p w
  have r:=yv j hu g k hc n (i+1) o q w
  have v:e0 (xs.drop (i*ls.length)) (ys.drop (i*ls.length))=(e0 ((xs.drop (i*ls.length)).take ls.length) ((ys.drop (i*ls.length)).take ls.length)&&e0 (xs.drop ((i+1)*ls.length)) (ys.drop ((i+1)*ls.length))):=by
   rw[←ve (by rw[c,f]),show(i+1)*ls.length=i*ls.length+ls.length by rw[iL,Nat.one_mul]];simp only[←jl,gb]
  rw[v];simp only[List.range'_succ,List.forIn_cons,Sem.run_bind,br,bl,s,Result.andThen]
  cases e0 ((xs.drop (i*ls.length)).take ls.length) ((ys.drop (i*ls.length)).take ls.length)
  .simp
  .simpa[Result.andThen] using r
theorem yw(D:Nat):∀ (d:Nat) {T:TypeId}{ls:O cD}{xs ys:O Y},fl P d T=some ls->d_ ls xs->d_ ls ys->∀w,(Op.equalIn (D+d) T (jW P T xs) (jW P T ys)).run P w=.ok (e0 xs ys) w
 |0,_,_,_,_,h,_,_,_=>by cases h
 |d+1,T,ls,xs,ys,h,hx,b,w=>by
  have c:= @yw D d
  simp only[fl]at h
  cases hu:P.underlying T with
  |none=>simp[hu]at h
  |some u=>
   rw[hu]at h
   cases u with
   |int k=>
    simp only[Option.some.injEq]at h;subst h
    obtain⟨x,_,rfl,⟨n,rfl⟩,rfl⟩:=hx
    obtain⟨y,_,rfl,⟨m,rfl⟩,rfl⟩:=b
    rw[mE hu rfl,mE hu rfl]
    show(Op.equalIn (D+d+1) T _ _).run P w=_
    simp[Op.equalIn,cW hu,e0,lE]
   |bool=>
    simp only[Option.some.injEq]at h;subst h
    obtain⟨x,_,rfl,⟨n,rfl⟩,rfl⟩:=hx
    obtain⟨y,_,rfl,⟨m,rfl⟩,rfl⟩:=b
    rw[mE hu rfl,mE hu rfl]
    show(Op.equalIn (D+d+1) T _ _).run P w=_
    simp[Op.equalIn,cW hu,e0,lE]
   |string=>
    simp only[Option.some.injEq]at h;subst h
    obtain⟨x,_,rfl,⟨n,rfl⟩,rfl⟩:=hx
    obtain⟨y,_,rfl,⟨m,rfl⟩,rfl⟩:=b
    rw[mE hu rfl,mE hu rfl]
    show(Op.equalIn (D+d+1) T _ _).run P w=_
    simp[Op.equalIn,cW hu,e0,lE,beq_toListBytes]
   |struct fs=>
    simp only at h
    split at h
    .cases h
    .rename_i j
     rw[mD hu rfl,mD hu rfl]
     have f:P.fieldsOf T=fs:=by simp[Program.fieldsOf,hu]
     show(Op.equalIn (D+d+1) T _ _).run P w=_
     rw[run_equalIn_struct w (D+d) T xs.toArray ys.toArray (by rw[f];exact hu) (by simpa using j),f]
     have:=yt (D:=D) c (xs:=xs) (ys:=ys) h (by simpa using hx) (by simpa using b) w
     simpa using this
   |array n e=>
    simp only at h
    split at h
    .rename_i ms g
     split at h
     .rename_i hc
      simp only[Option.some.injEq]at h;subst h
      obtain⟨u,i,l⟩:=flat_agg g
      rw[mD hu rfl,mD hu rfl]
      show(Op.equalIn (D+d+1) T _ _).run P w=_
      have:=yv (D:=D) c i l g hc (xs:=xs) (ys:=ys) n 0 (by simpa using hx) (by simpa using b) w
      rw[Nat.zero_mul,ix,ix]at this
      rw[←this]
      simp only[Op.equalIn,Sem.run_bind,cW hu,gH i,Result.andThen,hc,Std.Legacy.Range.forIn_eq_forIn_range',Std.Legacy.Range.size]
      simp
      congr 1
      funext a w
      obtain⟨o,_⟩:=a
      cases o<;>rfl
     .cases h
    .cases h
   |_=>cases h
theorem iQ.flat{T:TypeId}{d:TypeDesc}{ls:O cD}{xs ys:O Y}(a:P.underlying T=some d)(b:gG d=true)(hf:fl P 8 T=some ls)(hg:P.eqGuardType P.depth T=false)
 (hx:d_ ls xs) (c:d_ ls ys):iQ P T xs.toArray ys.toArray (e0 xs ys):=by
 refine⟨hg,λw=>?_⟩;have:=yw (P:=P) 9992 8 hf hx c w;rwa[mD a b,mD a b]at this
end
end aQ
namespace aQ
open Go Go.RowKit
theorem vf{n:Int}(h0:0<=n)(h1:n<=255):IntKind.u8.wrap n=n:=by
 simp only[IntKind.wrap,IntKind.signed,IntKind.bits];simp;omega
theorem vg{n:Int}(h0:0<=n)(h1:n<=4294967295):IntKind.u32.wrap n=n:=by
 simp only[IntKind.wrap,IntKind.signed,IntKind.bits];simp;omega
theorem fU{n:Int}(h0:0<=n)(h1:n<=18446744073709551615):IntKind.u64.wrap n=n:=by
 simp only[IntKind.wrap,IntKind.signed,IntKind.bits];simp;omega
theorem Ce(n:Int):IntKind.u8.wrap n=n%256:=by
 simp only[IntKind.wrap,IntKind.signed,IntKind.bits];simp
def S(l:O UInt8):ByteArray:=⟨l.toArray⟩
theorem yx(l:O UInt8):(S l).toList=l:=ByteArray.toList_mk l
theorem yy(a b:O UInt8):(ByteArray.toList (S a)==ByteArray.toList (S b))=(a==b):=by rw[yx,yx]
theorem Cf(ns:O Int):yo ns=S (ns.map λn=>UInt8.ofNat n.toNat):=by
 have h:∀ (ns:O Int) (r:O UInt8),ns.foldl (λr n=>r.push (UInt8.ofNat n.toNat)) (S r)=S (r++ns.map λn=>UInt8.ofNat n.toNat):=by
  intro ns
  induction ns with
  |nil=>intro r;simp
  |cons n ns a=>
   intro r;have e:(S r).push (UInt8.ofNat n.toNat)=S (r++ [UInt8.ofNat n.toNat]):=by
    apply ByteArray.ext;simp[S,ByteArray.push]
   simp only[List.foldl_cons,e,a,gF,c0,ph,ki]
 exact h ns []
theorem add_add(A:ah)(n m:Nat):(A.add n).add m=A.add (n+m):=by
 unfold Addr.add;by_cases h1:n=0
 .subst h1;simp
 .by_cases a:m=0
  .subst a;simp
  .rw[if_neg h1,if_neg a,if_neg I]
   simp[Nat.add_assoc]
def put(f:Nat->Int)(i:Nat)(v:Int):Nat->Int:=λj=>if j=i then v else f j
section
variable {w w':J}{b m i:Nat}{T:TypeId}{f:Nat->Int}
theorem ae.gf{w0 w:J}{b i:Nat}(h:ae (λq=>q=b) w0 w)(v:Y):ae (λq=>q=b) w0 (w.setCell ⟨b,i,none⟩ v):=ae.set h (λ_=>rfl) v
theorem ae.jX{w0 w:J}{b i:Nat}(h:ae (λq=>q=b) w0 w)(vs:O Y)(j:Nat):ae (λq=>q=b) w0 (aQ.setCells w ⟨b,i,none⟩ j vs):=ae.setCells (W:=λq=>q=b) (A:=⟨b,i,none⟩) (λ_=>rfl) vs j h
end
theorem n0{b o:Nat}{z l m:Nat}(h:m≠l):aJ (some (Addr.mk b o none)) z l m=some ⟨b,o+l*z,none⟩:=by
 simp[aJ,h,ay]
theorem Ext.trans{a b c:J}(h1:Ext a b)(d:Ext b c):Ext a c:=ae.trans h1 d
theorem Ext.dn{w0 w1 aj:J}{W:Nat->Prop}(h1:Ext w0 w1)(a:ae W w1 aj)(h:∀k,W k->w0.heap.size<=k):Ext w0 aj:=
 ⟨a.os.trans h1.os,a.tape.trans h1.tape,a.output.trans h1.output,eo h1.size a.size,λk b _=>by
  rw[a.block k (ft b h1.size) (λcF=>by have:=h k cF;omega),h1.block k b id]⟩
end aQ
namespace aQ
open Go
def n1(P:Program)(f:FuncId)(args:Array Y)(w:J)(K:J->Prop):Prop:=
 iS P f/\CallsD P f args .returning w λe a w'=>(∃v,e=.returned v)/\a=.returning/\K w'
def vh(P:Program)(tk:TypeId->dv)(c:Code)(K:FuncId->Array Y->Array Y->Env->J->Prop)(e:Env)(w:J):Prop:=
 match c with
 | .region _ ops false=>match ops.toList with
  | [a,b]=>match a.guard,b.guard,b.dst,b.op with
   |none,none,none,.defer call=>match call.callee,call.args.toList with
    | .value x,[]=>iz P tk a (λv w'=>match ev (c3 a.dst v e) x with|some (.func (.func f) first cap)=>K f first cap (c3 a.dst v e) w'|_=>False) e w
    |_,_=>False
   |_,_,_,_=>False
  |_=>False
 |_=>False
def p7(P:Program)(tk:TypeId->dv):aO->Code->(Exit->Env->J->Prop)->(FuncId->Array Y->Array Y->Exit->Env->J->Prop)->Env->J->Prop
 | .seq .leaf B,.seq a b,_,Kd,e,w=>vh P tk a (λf first cap c w'=>D P tk B b (Kd f first cap) c w') e w
 | .seq A B,.seq a b,K,Kd,e,w=>D P tk A a (λx c w'=>match x with| .normal=>p7 P tk B b K Kd c w'|x=>K x c w') e w
 |_,_,_,_,_,_=>False
def Cg(P:Program)(tk:TypeId->dv)(a:O ResultVar)(R:Y->J->Prop)(f:FuncId)(first cap:Array Y)(x:Exit)(e:Env)(w:J):Prop:=
 match x with
 | .normal| .ret=>n1 P f (first++cap) w λw'=>kR P tk a e w' λvs=>R (nV vs) w'
 |_=>False
def vi(P:Program)(tk:TypeId->dv)(A:aO)(fn:Func)(args:O Y)(w:J)(R:Y->J->Prop):Prop:=
 match fn.body with
 |some c=>p7 P tk A c (yd P tk fn.results.toList R) (Cg P tk fn.results.toList R) (mA 0 args) w
 |none=>False
variable {P:Program}{tk:TypeId->dv}
def p8(f:FuncId)(first cap:Array Y):Deferred:={target:=.fn (.func f) cap,args:=first++ #[]}
theorem Ch{c:Code}{K:FuncId->Array Y->Array Y->Env->J->Prop}{e:Env}{a:Act}{w:J}(ar:c9 e a)(q:∀d∈writes c,d<a.tmps.size)(h:vh P tk c K e w):
 c.wp P (λx l w'=>x=.normal/\∃f first cap,l.defers=p8 f first cap::a.defers/\l.tmps.size=a.tmps.size/\∃n,c9 n l/\K f first cap n w') a w:=by
 unfold vh at h;split at h
 case h_2=>exact h.elim
 rename_i id ops;split at h
 case h_2=>exact h.elim
 rename_i b j o;split at h
 case h_2=>exact h.elim
 rename_i call r t u y;split at h
 case h_2=>exact h.elim
 rename_i x hc rQ;refine wp_region_list ?_;rw[o];have w1:Region.wanted b (yielded ops a.tmps)=true:=by unfold Region.wanted;rw[r]
 simp only[wpList,w1,if_true];refine .inl ((rE ar h).wp ?_);intro v w' m;have z:Region.wanted j (yielded ops (a.put b.dst v).tmps)=true:=by unfold Region.wanted;rw[t]
 simp only[z,if_true];refine .inl ?_;split at m
 case h_2=>exact m.elim
 rename_i f first cap A;have p:c9 (c3 b.dst v e) (a.put b.dst v):=ar.put λk i=>q k (by simp[writes,o,bA,i]);have B:call.args= #[]:=by
  have:=congrArg List.toArray rQ;simpa using this
 have C:(execOp (a.put b.dst v).eval j).run P w'=.ok (.defer (p8 f first cap)) w':=by
  have D:∀g:Operand->Y,Array.map g #[]= #[]:=λg=>by simp
  simp only[execOp,y,resolve,hc,B,p.ev A,D];rfl
 show j.upon P _ _ _ ((execOp (a.put b.dst v).eval j).run P w');rw[C,Oper.upon_defer,u];refine⟨trivial,f,first,cap,?_,?_,c3 b.dst v e,?_,m⟩
 .have:=(dB.put (a:=a) (d:=b.dst) (v:=v) (ds:=bA [b]) (λk i=>by simp[bA,i])).defers
  show p8 f first cap::(a.put b.dst v).defers=_;rw[this]
 .exact(dB.put (a:=a) (d:=b.dst) (v:=v) (ds:=bA [b]) (λk i=>by simp[bA,i])).size
 .exact⟨λs v hs=>p.get s v hs⟩
theorem Ci(p:P.follows .mixedOrders=true):∀ (A:aO) (c:Code) (K:Exit->Env->J->Prop) (Kd:FuncId->Array Y->Array Y->Exit->Env->J->Prop) (e:Env) (a:Act) (w:J),c9 e a->a.defers=[]->
 (∀d∈writes c,d<a.tmps.size)->p7 P tk A c K Kd e w->
 c.wp P (λx m w'=>(m.defers=[]/\∃j,c9 j m/\K x j w')\/∃f first cap,m.defers=[p8 f first cap]/\∃j,c9 j m/\Kd f first cap x j w') a w:=by
 intro A
 induction A with
 |seq A B E r=>
  intro c K Kd e a w ar hd k h;unfold p7 at h;split at h
  case h_3=>exact h.elim
  .rename_i s x y n
   cases n;have hx:∀d,d∈writes x->d∈writes (.seq x y):=λd hd=>by simp[writes,hd]
   have o:∀d,d∈writes y->d∈writes (.seq x y):=λd hd=>by simp[writes,hd]
   refine wp_seq (iB (Ch ar (λd hd=>k d (hx d hd)) h) ?_);rintro ex a1 w1 ⟨rfl,f,first,cap,h1,t,b,g,u⟩;refine iB (rP p B y _ b a1 w1 g (λd hd=>by rw[t];exact k d (o d hd)) u) ?_;rintro ex a2 aj ⟨v,z,C,D⟩;exact .inr ⟨f,first,cap,by rw[v.defers,h1,hd],z,C,D⟩
  .rename_i F s x y _ n
   cases n;have hx:∀d,d∈writes x->d∈writes (.seq x y):=λd hd=>by simp[writes,hd]
   have o:∀d,d∈writes y->d∈writes (.seq x y):=λd hd=>by simp[writes,hd]
   refine wp_seq (iB (rP p A x _ _ a _ ar (λd hd=>k d (hx d hd)) h) ?_);rintro ex a1 w1 ⟨q,b,g,h1⟩;have i:a1.defers=[]:=by rw[q.defers,hd]
   cases ex with
   |normal=>exact r y _ _ b a1 w1 g i (λd hd=>by rw[q.size];exact k d (o d hd)) h1
   |exit id=>exact .inl ⟨i,b,g,h1⟩
   |goto l=>exact .inl ⟨i,b,g,h1⟩
   |ret=>exact .inl ⟨i,b,g,h1⟩
   |panic G=>exact .inl ⟨i,b,g,h1⟩
   |outgrown=>exact .inl ⟨i,b,g,h1⟩
 |_=>intro c K Kd e a w ar hd k h;unfold p7 at h;exact h.elim
theorem yz{fn:Func}{args:O Y}(b:args.length<=fn.ntmps):c9 (mA 0 args) {tmps:=args.toArray++Array.replicate (fn.ntmps-args.toArray.size) undef,defers:=[]}:=by
 constructor;intro s v hs;obtain⟨_,a⟩:=vb hs;simp only[Nat.sub_zero]at a;have aK:s<args.length:=(jQ.1 a).1;simp[Array.getElem?_append,aK];rw[dI aK]at a;exact Option.some.inj a
theorem Cj{f:FuncId}{fn:Func}{A:aO}{args:O Y}{w:J}{K:J->Prop}(n:P.follows .mixedOrders=true)(hc:iS P f)
 (hf:P.funcs[f]? =some fn) (b:mB fn args.length=true) (h:nW P tk A fn args w λ_ w'=>K w'):n1 P f args.toArray w K:=by
 refine⟨hc,?_⟩;unfold nW at h;unfold mB at b
 cases g:fn.body with
 |none=>rw[g]at h;exact h.elim
 |some c=>
  rw[g]at h b;simp only[dt]at h b;obtain⟨o,p⟩:=b;have q:=lj p;have r:(args.toArray++Array.replicate (fn.ntmps-args.toArray.size) undef).size=fn.ntmps:=by simp;omega
  refine(callsD_of_wp (R:=λe w'=>(∃v,e=.returned v)/\K w') hf g ?_).mono λe y w' ⟨h1,k,s⟩=>⟨k,h1,s⟩;refine iB (rP n A c _ _ _ w (yz q) (λd hd=>?_) h) ?_
  .have h1:=nA.1 o d hd
   have k:=lj h1;show d<(args.toArray++Array.replicate (fn.ntmps-args.toArray.size) undef).size;rw[r];omega
  .rintro x t w' ⟨u,z,m,a⟩
   have hd:t.defers=[]:=u.defers
   cases x with
   |normal=>
    obtain⟨vs,i,j⟩:=kS m a;exact⟨hd,_,mC i,⟨_,rfl⟩,j⟩
   |ret=>
    obtain⟨vs,i,j⟩:=kS m a;exact⟨hd,_,mC i,⟨_,rfl⟩,j⟩
   |exit id=>exact a.elim
   |goto l=>exact a.elim
   |panic B=>exact a.elim
   |outgrown=>exact a.elim
theorem Ck{f:FuncId}{fn:Func}{A:aO}{args:O Y}{w:J}{R:Y->J->Prop}(p:P.follows .mixedOrders=true)
 (hf:P.funcs[f]? =some fn) (n:mB fn args.length=true) (h:vi P tk A fn args w R):
 Calls P f args.toArray w λe w'=>∃v,e=.returned v/\R v w':=by
 unfold vi at h;unfold mB at n
 cases o:fn.body with
 |none=>rw[o]at h;exact h.elim
 |some c=>
  rw[o]at h n;simp only[dt]at h n;obtain⟨q,r⟩:=n;have s:=lj r;have t:(args.toArray++Array.replicate (fn.ntmps-args.toArray.size) undef).size=fn.ntmps:=by simp;omega
  refine calls_of_wp_defers hf o ?_;refine iB (Ci p A c _ _ _ _ w (yz s) rfl (λd hd=>?_) h) ?_
  .have h1:=nA.1 q d hd
   have z:=lj h1;show d<(args.toArray++Array.replicate (fn.ntmps-args.toArray.size) undef).size;rw[t];omega
  .have key:∀ {b:Act}{w':J}{j:Env}{g:FuncId}{first cap:Array Y},b.defers=[p8 g first cap]->c9 j b->(n1 P g (first++cap) w' λw'=>kR P tk fn.results.toList j w' λvs=>R (nV vs) w')->
    Leaves P fn b.tmps (λe w'=>∃v,e=.returned v/\R v w') b.defers .returning w':=by
    intro b w' j g first cap hd i ⟨hc,a⟩;rw[hd];refine leaves_cons (f:=g) (args:=first++cap) (by simp) (by simp[invoke,xI hc]) (a.mono ?_);rintro _ _ aj ⟨⟨v,rfl⟩,rfl,u⟩;obtain⟨vs,k,m⟩:=kS i u;exact⟨_,mC k,_,rfl,m⟩
   rintro x b w' (⟨hd,j,i,a⟩|⟨g,first,cap,hd,j,i,a⟩)
   .cases x with
    |normal=>
     obtain⟨vs,k,m⟩:=kS i a;show Leaves _ _ _ _ b.defers _ _;rw[hd];exact⟨_,mC k,_,rfl,m⟩
    |ret=>
     obtain⟨vs,k,m⟩:=kS i a;show Leaves _ _ _ _ b.defers _ _;rw[hd];exact⟨_,mC k,_,rfl,m⟩
    |exit id=>exact a.elim
    |goto l=>exact a.elim
    |panic y=>exact a.elim
    |outgrown=>exact a.elim
   .cases x with
    |normal=>exact key hd i a
    |ret=>exact key hd i a
    |exit id=>exact a.elim
    |goto l=>exact a.elim
    |panic y=>exact a.elim
    |outgrown=>exact a.elim
end aQ
namespace aQ
open Go Go.RowKit
def Cl:cD->Y->Prop
 | .int k,v=>∃n:Int,v=.int k n/\k.min<=n/\n<=k.max
 | .bool,v=>∃b:an,v=.bool b
 | .str,v=>∃s:ByteArray,v=.string s/\s.size<=maxLen
 |_,_=>False
def hW:O cD->O Y->Prop
 | [],vs=>vs=[]
 |l::ls,vs=>∃v us,vs=v::us/\Cl l v/\hW ls us
theorem vj:∀ {ls ms:O cD}{vs us:O Y},hW ls vs->hW ms us->hW (ls++ms) (vs++us)
 | [],_,_,_,h,a=>by cases h;exact a
 |l::ls,ms,vs,us,h,a=>by
  obtain⟨v,vs,rfl,h1,h⟩:=h
  exact⟨v,_,rfl,h1,vj h a⟩
theorem vk:∀ {ls ms:O cD}{vs:O Y},hW (ls++ms) vs->∃us ts,vs=us++ts/\hW ls us/\hW ms ts
 | [],_,vs,h=>⟨[],vs,rfl,rfl,h⟩
 |l::ls,ms,vs,h=>by
  obtain⟨v,us,rfl,h1,c⟩:=h
  obtain⟨a,b,rfl,d,e⟩:=vk c
  exact⟨v::a,b,rfl,⟨v,a,rfl,h1,d⟩,e⟩
theorem yA{P:Program}{rU:TypeId->aq (O cD)}{cs:O Y}{R:TypeId->O Y->Prop}(c:∀ {T:TypeId}{ls:O cD}{us:O Y},rU T=some ls->R T us->hW ls us):
 ∀ {fs:O Field}{o:Nat}{ls:O cD},iC rU P fs o=some ls->o+ls.length=cs.length->(∀f∈fs,R f.type ((cs.drop f.offset).take (P.cellsOf f.type)))->hW ls (cs.drop o)
 | [],o,ls,h,a,_=>by
  simp only[iC,Option.some.injEq]at h
  subst h
  exact rf (by simp at a;omega)
 |f::fs,o,ls,h,a,d=>by
  simp only[iC]at h
  split at h
  .cases h
  .rename_i hf
   have i:f.offset=o:=by
    by_cases e:f.offset=o
    .exact e
    .exact absurd (.inr e) hf
   subst i;split at h
   .rename_i ms j
    split at h
    .rename_i hc
     cases b:iC rU P fs (f.offset+ms.length) with
     |none=>simp[b]at h
     |some l=>
      simp only[b,kh,Option.some.injEq]at h;subst h;have h1:=c j (d f (by simp));have k:=yA c (fs:=fs) (cs:=cs) b (by simp at a;omega) (λg hg=>d g (by simp[hg]));rw[hc]at h1;have:=vj h1 k;rwa[←jl,gb]at this
    .cases h
   .cases h
theorem yB{ls:O cD}{cs:O Y}:∀ {n i:Nat},(∀j,i<=j->j<i+n->hW ls ((cs.drop (j*ls.length)).take ls.length))->cs.length=(i+n)*ls.length->hW (lD ls n) (cs.drop (i*ls.length))
 |0,i,_,a=>rf (by simp at a;omega)
 |n+1,i,h,a=>by
  have h1:=h i (bm _) I
  have b:=yB (n:=n) (i:=i+1) (λj h1 b=>h j I I) (by rw[a];congr 1;omega)
  have:=vj h1 b
  rw[show(i+1)*ls.length=i*ls.length+ls.length by rw[iL,Nat.one_mul],←jl,gb]at this
  exact this
theorem vl{P:Program}{w:J}:∀ (d:Nat) {T:TypeId}{ls:O cD}{fuel:Nat}{cs:O Y},fl P d T=some ls->P.cellsOf T=ls.length->eZ P w fuel T cs->hW ls cs
 |0,_,_,_,_,h,_,_=>by cases h
 |d+1,T,ls,fuel,cs,h,p,a=>by
  cases fuel with
  |zero=>cases a
  |succ f=>
   simp only[fl]at h
   cases hu:P.underlying T with
   |none=>simp[hu]at h
   |some u=>
    rw[hu]at h
    cases u with
    |int k=>
     simp only[Option.some.injEq]at h;subst h
     simp only[eZ,hu]at a
     obtain⟨n,rfl,h1,l⟩:=a
     exact⟨_,_,rfl,⟨n,rfl,h1,l⟩,rfl⟩
    |bool=>
     simp only[Option.some.injEq]at h;subst h
     simp only[eZ,hu]at a
     obtain⟨b,rfl⟩:=a
     exact⟨_,_,rfl,⟨b,rfl⟩,rfl⟩
    |string=>
     simp only[Option.some.injEq]at h;subst h
     simp only[eZ,hu]at a
     obtain⟨s,rfl,h1⟩:=a
     exact⟨_,_,rfl,⟨s,rfl,h1⟩,rfl⟩
    |struct fs=>
     simp only at h
     split at h
     .cases h
     .simp only[eZ,hu]at a
      have:=yA (P:=P) (cs:=cs) (rU:=λT=>if (fl P d T).isSome/\∀ms,fl P d T=some ms->P.cellsOf T=ms.length then fl P d T else none) (R:=λT us=>eZ P w f T us) (λ{T}{ls}{us} h1 l=>by
       split at h1
       .rename_i r;exact vl d h1 (r.2 _ h1) l
       .cases h1) (fs:=fs.toList) (o:=0) (ls:=ls) (by
        have key:∀ (fs:O Field) (o:Nat) (ls:O cD),iC (fl P d) P fs o=some ls->iC (λT=>if (fl P d T).isSome/\∀ms,fl P d T=some ms->P.cellsOf T=ms.length then fl P d T else none) P fs o=some ls:=by
         intro fs
         induction fs with
         |nil=>intro o ls h;exact h
         |cons g fs t=>
          intro o ls h;simp only[iC]at h⊢;split at h
          .cases h
          .rename_i hg
           rw[if_neg hg];split at h
           .rename_i ms c
            split at h
            .rename_i hc
             have v:(fl P d g.type).isSome/\∀ms,fl P d g.type=some ms->P.cellsOf g.type=ms.length:=by
              refine⟨by simp[c],λx q=>?_⟩;rw[c]at q;cases q;exact hc
             rw[if_pos v,c];simp only;rw[if_pos hc]
             cases m:iC (fl P d) P fs (o+ms.length) with
             |none=>rw[m]at h;cases h
             |some y=>rw[m]at h;rw[t _ _ m];exact h
            .cases h
           .cases h
        exact key _ _ _ h) (by rw[a.1,p];simp) (λg hg=>a.2 g (by simpa using hg))
      simpa using this
    |array n e=>
     simp only at h;split at h
     .rename_i ms c
      split at h
      .rename_i hc
       simp only[Option.some.injEq]at h;subst h;simp only[eZ,hu]at a;have:=yB (ls:=ms) (cs:=cs) (n:=n) (i:=0) (λj _ z=>by
        have:=a.2 j I;rw[hc]at this;exact vl d c hc this) (by rw[a.1,p,yu];simp)
       simpa using this
      .cases h
     .cases h
    |_=>cases h
theorem yC:∀ {n:Nat}{cs:O Y},hW (List.replicate n (.int .u8)) cs->∃l:O UInt8,l.length=n/\cs=l.map λb=>Value.int .u8 ((b.toNat:Nat):Int)
 |0,cs,h=>⟨[],rfl,h⟩
 |n+1,cs,h=>by
  obtain⟨v,us,rfl,⟨z,rfl,h0,h1⟩,a⟩:=h
  obtain⟨l,c,rfl⟩:=yC a
  obtain⟨h0,h1⟩:=yj h0 h1
  refine⟨UInt8.ofNat z.toNat::l,by simp[c],?_⟩
  simp only[gF,List.cons.injEq,Value.int.injEq,true_and,and_true]
  have e:(UInt8.ofNat z.toNat).toNat=z.toNat:=by simp;omega
  omega
end aQ
namespace aQ
open Go Go.RowKit
section
variable {α:Type}{P:Program}{w:J}{gI ko T:TypeId}{enc:α->Y}
def dR(enc:α->Y)(x:α×Y×Nat):MapEntry:=⟨enc x.1,x.2.1,x.2.2⟩
def kT(x:α×Y×Nat):α×Y:=(x.1,x.2.1)
def kU[DecidableEq α](k:α):O (α×Y×Nat)->Nat->aq (Nat×Y)
 | [],_=>none
 |x::L,i=>if k=x.1 then some (i,x.2.1) else kU k L (i+1)
theorem yD{β:Type}(f:β->β)(x:β)(bI:O β):∀bn:O β,(bn++x::bI).modify bn.length f=bn++f x::bI
 | []=>rfl
 |y::bn=>by
  show y::((bn++x::bI).modify bn.length f)=_
  rw[yD f x bI bn];rfl
structure lF[DecidableEq α](P:Program)(gI:TypeId)(enc:α->Y):Prop where
 find:∀ (L:O (α×Y×Nat)) (k:α) (w:J),(Instr.findKey gI (enc k) (L.map (dR enc))).run P w=.ok (kU k L 0) w
 check:∀ (b:an) (k:α) (w:J),(Instr.checkKey b 10000 gI (enc k)).run P w=.ok () w
 bits:∀k,Instr.sameBits 10000 (enc k) (enc k)=true
theorem vm[DecidableEq α]{k:α}:∀ {L:O (α×Y×Nat)}{i:Nat},(∀x∈L,x.1≠k)->kU k L i=none
 | [],_,_=>rfl
 |x::L,i,h=>by
  rw[kU,if_neg (λe=>h x (by simp) e.symm)]
  exact vm λy a=>h y (by simp[a])
theorem vn[DecidableEq α]{k:α}{v:Y}{n:Nat}{bI:O (α×Y×Nat)}:∀ {bn:O (α×Y×Nat)}{i:Nat},(∀x∈bn,x.1≠k)->kU k (bn++(k,v,n)::bI) i=some (i+bn.length,v)
 | [],i,_=>by simp[kU]
 |x::L,i,h=>by
  rw[ph,kU,if_neg (λe=>h x (by simp) e.symm),vn λy a=>h y (by simp[a])]
  simp;omega
theorem lF.int{k:IntKind}(hu:P.underlying gI=some (.int k)):lF P gI (λn:Int=>Value.int k n) where
 find L n w:=by
  have h:∀ (L:O (Int×Y×Nat)) (i:Nat),Instr.findNow (.int k) (.int k n) (L.map (dR λn:Int=>Value.int k n)) i=some (kU n L i):=by
   intro L
   induction L with
   |nil=>intro i;rfl
   |cons x L a=>
    intro i;simp only[gF,Instr.findNow,dR,Instr.sameNow,if_true,kU];by_cases hx:n=x.1
    .subst hx;simp
    .rw[if_neg hx,show(n==x.1)=false by simpa using hx]
     exact a (i+1)
  simp[Instr.findKey,cW hu,h]
 check b n w:=by
  show(Instr.checkKey b (9999+1) gI (.int k n)).run P w=_;unfold Instr.checkKey;simp only[Sem.run_bind,cW hu,Result.andThen];rfl
 bits n:=by
  show(k==k&&n==n)=true;simp
def ed(w:J)(r:Nat)(enc:α->Y)(M:O (α×Y)):Prop:=
 ∃ (L:O (α×Y×Nat)) (a:Nat),w.heap[r]? =some (.map (L.map (dR enc)).toArray a)/\(L.map kT).Perm M/\(L.map (·.1)).Nodup/\(L.map (·.2.2)).Nodup/\∀x∈L,x.2.2<a
def Cm(w:J)(r:Nat)(enc:α->Y)(M:O (α×Y))(k:α)(v:Y)(st:Int):Prop:=
 ∃ (bn bI:O (α×Y×Nat)) (n a:Nat),w.heap[r]? =some (.map ((bn++(k,v,n)::bI).map (dR enc)).toArray a)/\((bn++bI).map kT).Perm M/\((bn++(k,v,n)::bI).map (·.1)).Nodup/\((bn++(k,v,n)::bI).map (·.2.2)).Nodup/\(∀x∈bn++(k,v,n)::bI,x.2.2<a)/\st=(n:Int)
variable {r:Nat}{M gJ:O (α×Y)}{k:α}{v:Y}{st:Int}{w':J}
theorem ed.lt(h:ed w r enc M):r<w.heap.size:=by
 obtain⟨L,a,h,_⟩:=h;exact(kH.1 h).1
theorem ed.af{W:Nat->Prop}(h:ed w r enc M)(hc:ae W w w')(a:¬W r):ed w' r enc M:=by
 have b:=h.lt;obtain⟨L,c,h,d⟩:=h;exact⟨L,c,by rw[hc.block r b a];exact h,d⟩
theorem ed.ext(h:ed w r enc M)(hc:Ext w w'):ed w' r enc M:=h.af hc id
theorem ed.perm(h:ed w r enc M)(a:M.Perm gJ):ed w r enc gJ:=by
 obtain⟨L,b,h,h1,c⟩:=h;exact⟨L,b,h,h1.trans a,c⟩
theorem ed.split(h:ed w r enc ((k,v)::M)):∃n,Cm w r enc M k v (n:Nat):=by
 obtain⟨L,b,h,h1,c,d,e⟩:=h;have f:(k,v)∈L.map kT:=h1.mem_iff.2 (by simp);obtain⟨x,hx,a⟩:=e9.1 f;obtain⟨bn,bI,rfl⟩:=List.append_of_mem hx;obtain⟨g,i,n⟩:=x;simp only[kT,Prod.mk.injEq]at a;obtain⟨rfl,rfl⟩:=a;refine⟨n,bn,bI,n,b,h,?_,c,d,e,rfl⟩;rw[fE,gF]at h1;have:=(lk.symm.trans h1);rw[fE];exact this.cons_inv
theorem ed.keys(h:ed w r enc M):(M.map (·.1)).Nodup:=by
 obtain⟨L,b,h,h1,a,c,d⟩:=h;have:=h1.map (·.1);rw[nF]at this;exact this.nodup_iff.1 a
theorem ed.Cn(a:(k,v)∈M):∃gJ,M.Perm ((k,v)::gJ):=by
 obtain⟨A,B,rfl⟩:=List.append_of_mem a;exact⟨A++B,lk⟩
def g8(w:J)(r:Nat)(o:Obj):J:={w with heap:=w.heap.setIfInBounds r o}
theorem p9(w:J)(r:Nat)(o:Obj):ae (λq=>q=r) w (g8 w r o):=
 ⟨rfl,rfl,rfl,by simp[g8],λk _ a=>by
  have:¬r=k:=λe=>a e.symm
  simp[g8,this]⟩
theorem rV(w:J)(r:Nat)(o:Obj):(g8 w r o).heap.size=w.heap.size:=by simp[g8]
theorem rW{w:J}{r:Nat}(h:r<w.heap.size)(o:Obj):(g8 w r o).heap[r]? =some o:=by simp[g8,h]
theorem kV{es:Array MapEntry}{a:Nat}(h:w.heap[r]? =some (.map es a)):(getObj r).run P w=.ok (.map es a) w:=by simp[getObj,Sem.run,h]
theorem vo{es:Array MapEntry}{a:Nat}(h:w.heap[r]? =some (.map es a))(o:Obj):(setObj r o).run P w=.ok () (g8 w r o):=by simp[setObj,Sem.run,h,g8]
theorem yE{bn bI:O (α×Y×Nat)}{x:α×Y×Nat}(h:((bn++x::bI).map (·.1)).Nodup):∀y∈bn,y.1≠x.1:=by
 intro y a e;rw[fE,gF,List.nodup_append]at h;exact h.2.2 _ (List.mem_map_of_mem a) _ (List.mem_cons_self ..) e
theorem yF{L:O (α×Y×Nat)}(h1:(L.map kT).Perm M)(a:∀v,(k,v)∉M):∀x∈L,x.1≠k:=by
 intro x hx e;refine a x.2.1 (h1.mem_iff.1 (e9.2 ⟨x,hx,?_⟩));simp[kT,e]
theorem ed.make(T:TypeId)(w:J):(Instr.makeMap T none).run P w=.ok (.map (some w.heap.size)) (w.alloc (.map #[] 0))/\ed (w.alloc (.map #[] 0)) w.heap.size enc ([]:O (α×Y)):=by
 refine⟨by simp[Instr.makeMap],[],0,?_,by simp,by simp,by simp,by simp⟩;show(w.heap.push (.map #[] 0))[w.heap.size]? =_;simp
theorem ed.yG[DecidableEq α](a:lF P gI enc)(b:P.underlying T=some (.map gI ko))(h:ed w r enc M)(c:(k,v)∈M)(ok:an):
 (Instr.lookup T (.map (some r)) (enc k) ok).run P w=.ok (if ok then .tuple #[v,.bool true] else v) w:=by
 obtain⟨gJ,d⟩:=ed.Cn c;obtain⟨n,bn,bI,e,g,h,h1,f,i,j,_⟩:=(h.perm d).split;have hf:=a.find (bn++(k,v,e)::bI) k w;rw[vn (yE f)]at hf;simp only[Instr.lookup,Sem.run_bind,cW b,Result.andThen,kV h,Sem.run_pure,a.check,hf]
theorem ed.yH[DecidableEq α](a:lF P gI enc)(b:P.underlying T=some (.map gI ko)){i:TypeInfo}{z:Y}(hi:P.info? ko=some i)(c:i.zero=some z)(h:ed w r enc M)(d:∀v,(k,v)∉M)(ok:an):
 (Instr.lookup T (.map (some r)) (enc k) ok).run P w=.ok (if ok then .tuple #[z,.bool false] else z) w:=by
 obtain⟨L,e,h,h1,f,g,j⟩:=h;have hf:=a.find L k w;rw[vm (yF h1 d)]at hf;simp only[Instr.lookup,Sem.run_bind,cW b,Result.andThen,kV h,Sem.run_pure,a.check,hf,zeroValue,mo hi,c]
end
end aQ
namespace aQ
open Go Go.RowKit
theorem yI(c:Array Y):∀ (vs:O Y) (i:Nat) (c:Array Y),(fT c i vs).toList.drop (i+vs.length)=c.toList.drop (i+vs.length)
 | [],_,_=>rfl
 |v::vs,i,c=>by
  simp only[fT,hO]
  rw[show i+(vs.length+1)=i+1+vs.length from I,yI c vs (i+1) (c.setIfInBounds i v)]
  rw[Array.toList_setIfInBounds,List.drop_set]
  rw[if_pos I]
theorem lG(vs:O Y)(c:Array Y)(i:Nat)(h:i+vs.length<=c.size):(fT c i vs).toList=c.toList.take i++vs++c.toList.drop (i+vs.length):=by
 rw[←gb (i+vs.length) (fT c i vs).toList,p1 vs c i h,yI c]
section
variable {P:Program}{w:J}
theorem rX{kW dV ty e:TypeId}{d:TypeDesc}{sz:Nat}(hd:P.underlying kW=some (.slice e))(he:P.underlying e=some d)(g:P.cellsOf e=sz){A:ah}{dl mF n:Nat}{x:ad}(h:Nat.min x.len dl=n){xs:O Y}(hx:Src sz w ⟨x.a,n,x.cap⟩ xs)(b:bj w A xs):
 Sem.run P (Builtin.copy_ #[kW,dV] ty #[.slice (some A) dl mF,.slice x.a x.len x.cap]) w=.ok (.int .i64 ((n:Nat):Int)) (setCells w A 0 xs):=by
 have f:=gH (w:=w) he;rw[g]at f;have hf:Sem.run P (Builtin.firstCells sz n (.slice x.a x.len x.cap)) w=.ok xs.toArray w:=by
  obtain⟨a,l,c⟩:=x
  cases a<;>exact nY (P:=P) hx
 have i:=pH (P:=P) (A:=A) xs 0 w (by simpa using b.1) b.2;simp only[Builtin.copy_,q_,me,nE,Sem.run_bind,cW hd,Result.andThen,Builtin.lenOf,Sem.run_pure,h,f,hf,i];rfl
set_option maxRecDepth 4000 in
theorem Co {fR:Array TypeId}{dK dV iU e:TypeId}{i:TypeInfo}{k:IntKind}{z:Y}{sz n:Nat}{s:ad}{c:O Y} (h0:fR[0]? =some dV) (h1:fR[1]? =some iU)
 (hs:P.underlying dV=some (.slice e)) (hx:P.underlying iU=some (.int k)) (hi:P.info? e=some i) (hd:(P.underlying e).isSome=true) (h:i.zero=some z) (j:z.cells.size=sz) (p:P.cellsOf e=sz)
 (r:i.bytes≠0) (hold:Src sz w s c) (t:s.cap<s.len+n) (l:(2*(s.len+n)+1000)*i.bytes<=281474976710656):
 ∃ (b:Nat) (zs rest:O Y),s.len+n<=b/\b<=maxLen/\zs.length=n*sz/\rest.length=(b-(s.len+n))*sz/\
  Sem.run P (Builtin.append_ fR dK #[.slice s.a s.len s.cap,.int .i64 ((n:Nat):Int)]) w=
   .ok (.slice (some ⟨w.heap.size,0,none⟩) (s.len+n) b) (w.drew.alloc (.cells (c++zs++rest).toArray e)):=by
 obtain⟨d,hd⟩:=jr _ hd;have m:=gH (w:=w) hd;rw[p]at m;have u:=yl t;have S:Builtin.nextslicecap (s.len+n) s.cap*i.bytes<=281474976710656:=eo (nD _ u) l;have T:s.len+n<=281474976710656:=by
  have:s.len+n<=(2*(s.len+n)+1000)*i.bytes:=by
   have:=Nat.mul_le_mul_left (2*(s.len+n)+1000) (Nat.one_le_iff_ne_zero.2 r);omega
  omega
 have v:n*i.bytes<=281474976710656:=eo (nD _ (by omega:n<=2*(s.len+n)+1000)) l
 let q:Question:=.appendCap (s.len+n) s.cap e
 let b:Nat:=q.cut (w.tape w.drawn q)
 have x:q.forced=false:=rfl;have A:s.len+n<=b:=by show s.len+n<=s.len+n+_;omega
 have B:b<=maxLen:=by
  show s.len+n+_%(2^63-(s.len+n))<=2^63-1;have:=hN (w.tape w.drawn q) (y:=2^63-(s.len+n)) I;omega
 have C:Src sz w.drew s c:=hold.ext (ae.drew (.refl _ _));have D:=nY (P:=P) C;have E:∀n (w':J),(askRoom n).run P w'=.ok () w':=λn w'=>by unfold askRoom;split<;>rfl
 have F:(choose q).run P w=.ok b w.drew:=by
  show Sem.run P (.choose q .pure) w=_;simp only[Sem.run,x,fC,if_false];rfl
 have f:=λw:J=>mo (w:=w) hi;refine⟨b,if n*sz=0 then [] else (Builtin.zeroCells z.cells n).toList,(Builtin.zeroCells z.cells (b-(s.len+n))).toList,A,B,?_,by simp[Builtin.zeroCells,j],?_⟩
 .split
  .rename_i h0;simp[h0]
  .simp[Builtin.zeroCells,j]
 have G:IntKind.i64.wrap ((n:Nat):Int)=(n:Int):=bB I I;have H:¬((n:Int)<0):=by omega
 have K:¬((n:Int)*(i.bytes:Int)>2^48):=by
  have:((n*i.bytes:Nat):Int)<=((281474976710656:Nat):Int):=Int.ofNat_le.2 v;rw[Int.natCast_mul]at this;have L:(2:Int)^48=((281474976710656:Nat):Int):=by decide+kernel
  rw[L];omega
 have M:¬(s.len+n<=s.cap):=by omega
 have N:¬((s.len+n:Nat):Int)>IntKind.i64.max:=by
  simp[IntKind.max,IntKind.signed,IntKind.bits];omega
 have Q:¬Builtin.nextslicecap (s.len+n) s.cap*i.bytes>2^48:=by
  have:(2:Nat)^48=281474976710656:=by decide+kernel
  omega
 have R:Sem.run P (choose (.appendCap (s.len+n) s.cap e)) w=.ok b w.drew:=F;unfold Builtin.append_;simp only[q_,me,nE,h0,h1,Sem.run_bind,cW hs,cW hx,Result.andThen,m,Sem.run_pure,asInt,asIntOf,G,H,if_false,f,K,dQ,M,N,false_and,Q,if_true,Bool.not_true,fC,R,E,D];by_cases o:n*sz=0
 .simp only[o,if_true,Sem.run_pure,zeroValue,f,h,Sem.run_bind,Result.andThen,newRow,newObj,Sem.run]
  have g:w.drew.heap.size=w.heap.size:=rfl;rw[g]
  congr 1
  show w.drew.alloc _=w.drew.alloc _
  congr 2
  simp
 .simp only[o,if_false,Sem.run_pure,zeroValue,f,h,Sem.run_bind,Result.andThen,newRow,newObj,Sem.run]
  have g:w.drew.heap.size=w.heap.size:=rfl;rw[g]
  congr 1
  show w.drew.alloc _=w.drew.alloc _
  congr 2
  simp
end
theorem Cp(a:aq ah)(z c:Nat):aJ a z 0 c=a:=by
 unfold aJ;split
 .rfl
 .cases a with
  |none=>rfl
  |some A=>simp[add_zero']
theorem bh.rY{sz:Nat}{w:J}{b:Nat}{c:Array Y}{T:TypeId}(h:bh w b c T){o n cap:Nat}(d:o+n*sz<=c.size):Src sz w ⟨some ⟨b,o,none⟩,n,cap⟩ ((c.toList.drop o).take (n*sz)):=by
 refine⟨by simp;omega,(λh=>by cases h),λa e=>?_⟩
 cases e;have:=nX h (n*sz) o 0 (by simpa using d);simpa using this
theorem bh.lH{w:J}{b o:Nat}{c:Array Y}{T:TypeId}(h:bh w b c T)(vs:O Y):bh (setCells w ⟨b,o,none⟩ 0 vs) b (fT c o vs) T:=by
 simpa using bh.pZ vs o 0 h
theorem aW.mk'{sz:Nat}{T:TypeId}{w:J}{b n cap:Nat}{c:Array Y}{vs:O Y}(a:bh w b c T)(d:vs.length=n*sz)(e:n<=cap)(hc:cap<=maxLen)(hs:c.size=cap*sz)(f:c.toList.take (n*sz)=vs):aW sz T w ⟨some ⟨b,0,Option.none⟩,n,cap⟩ vs:=
 ⟨d,e,hc,.inr ⟨b,c,rfl,a,hs,f⟩⟩
theorem yJ(A:ah)(a b:Nat):(A.add a).add b=A.add (a+b):=by
 unfold Addr.add;by_cases c:a=0
 .subst c;simp
 .by_cases d:b=0
  .subst d;simp
  .simp[c,d,Nat.add_assoc]
theorem p_{w:J}{A:ah}:∀ {n i:Nat}{vs:O Y}{j:Nat}{v:Y},bz w A i n=some vs->vs[j]? =some v->w.cell? (A.add (i+j))=some v
 |0,_,vs,j,v,h,a=>by simp[bz]at h;subst h;simp at a
 |n+1,i,vs,j,v,h,a=>by
  simp only[bz]at h
  cases h1:w.cell? (A.add i) with
  |none=>simp[h1]at h
  |some u=>
   cases b:bz w A (i+1) n with
   |none=>simp[h1,b]at h
   |some us=>
    simp only[h1,b,Option.some.injEq]at h
    subst h
    cases j with
    |zero=>simp at a;subst a;exact h1
    |succ j=>
     have:=p_ b (j:=j) (v:=v) (by simpa using a)
     rwa[show i+(j+1)=i+1+j from I]
theorem vp{w:J}{A:ah}:∀ (n i:Nat) (vs:O Y),vs.length=n->(∀j v,vs[j]? =some v->w.cell? (A.add (i+j))=some v)->bz w A i n=some vs
 |0,i,vs,a,_=>by
  cases vs with
  |nil=>simp[bz]
  |cons _ _=>simp at a
 |n+1,i,vs,a,h=>by
  cases vs with
  |nil=>simp at a
  |cons v vs=>
   simp only[bz]
   rw[show w.cell? (A.add i)=some v from h 0 v rfl,vp n (i+1) vs (by simpa using a) (λj x hx=>by have:=h (j+1) x (by simpa using hx);rwa[show i+(j+1)=i+1+j from I]at this)]
theorem yK{w:J}{A:ah}{n k m:Nat}{vs:O Y}(h:bz w A 0 n=some vs)(b:k+m<=n):bz w (A.add k) 0 m=some ((vs.drop k).take m):=by
 have c:=p0 h;refine vp m 0 _ (by simp;omega) λj v a=>?_;rw[yJ,show k+(0+j)=0+(k+j) from I];refine p_ h ?_;rw[ra]at a;split at a
 .rwa[q7]at a
 .cases a
theorem Cq{a b:Nat}(h:a+b<=4000000):IntKind.wrap .i64 (Int.fdiv (IntKind.wrap .u64 (IntKind.wrap .i64 ((a:Int)+(b:Int)))) (2^(min (Int.toNat 1) 64)))=(((a+b)/2:Nat):Int):=by
 rw[bB (n:=(a:Int)+b) I I,fU I I];have e:(2:Int)^(min (Int.toNat 1) 64)=2:=rfl;rw[e,Int.fdiv_eq_ediv_of_nonneg _ I,bB I I];omega
section
variable {w:J}
end
theorem Cr{w:J}{A:ah}{n m i:Nat}{xs ys:O Y}(h1:bz w A i n=some xs)(b:bz w (A.add (i+n)) 0 m=some ys):bz w A i (n+m)=some (xs++ys):=by
 have kk:=p0 h1;have c:=p0 b;refine vp (n+m) i _ (by rw[cO,kk,c]) λj v a=>?_;rw[List.getElem?_append]at a;split at a
 .exact p_ h1 a
 .rename_i d
  have:=p_ b a;rw[yJ]at this;rwa[show i+n+(0+(j-xs.length))=i+j from I]at this
theorem p2.src{P:Program}{w:J}{e:TypeId}{s:ad}{α:Type}{c:α->O Y}{sz:Nat}(h:p2 P w e s)(m:P.cellsOf e=sz)(R:α->Prop)(o:∀fuel vs,eZ P w fuel e vs->∃x:α,vs=c x/\R x):
 ∃l:O α,Src sz w s (l.map c).flatten/\l.length=s.len/\∀x∈l,R x:=by
 have j:=h.cell;rw[m]at j;have key:∀a,s.a=some a->∀n,n<=s.len->∃l:O α,bz w a 0 (n*sz)=some (l.map c).flatten/\l.length=n/\∀x∈l,R x:=by
  intro a d n
  induction n with
  |zero=>intro _;exact⟨[],by simp[bz],rfl,λr f=>by cases f⟩
  |succ n p=>
   intro v;obtain⟨l,h1,g,i⟩:=p I;obtain⟨vs,q,fuel,t⟩:=j a d n (by have:=h.le;omega);obtain⟨r,rfl,u⟩:=o fuel vs t;refine⟨l++ [r],?_,by simp[g],λx hx=>?_⟩
   .rw[Nat.succ_mul,Cr h1 (by rw[cS];exact q)]
    simp
   .rcases cM.1 hx with hx|hx
    .exact i x hx
    .rw[fh.1 hx];exact u
 cases b:s.a with
 |none=>
  have h0:s.len=0:=by have:=h.nil b;have:=h.le;omega
  exact⟨[],⟨by simp[h0],λ_=>rfl,λa d=>(by rw[b]at d;cases d)⟩,h0.symm,λr f=>by cases f⟩
 |some a=>
  obtain⟨l,h1,g,i⟩:=key a b s.len (bm _);exact⟨l,⟨p0 h1,λe=>(by rw[b]at e;cases e),λy k=>by rw[b]at k;cases k;exact h1⟩,g,i⟩
theorem n2{P:Program}{w:J}{T:TypeId}{fuel:Nat}{cs:O Y}{fs:Array Field}(h:eZ P w fuel T cs)(a:P.underlying T=some (.struct fs))(i:Nat){t o n:Nat}(hf:(fs[i]?).map (λf=>(f.type,f.offset))=some (t,o))(b:P.cellsOf t=n):∃fuel,eZ P w fuel t ((cs.drop o).take n):=by
 obtain⟨_,c⟩:=yr h a
 cases hg:fs[i]? with
 |none=>rw[hg]at hf;cases hf
 |some f=>
  rw[hg]at hf;simp only[kh,Option.some.injEq,Prod.mk.injEq]at hf;obtain⟨rfl,rfl⟩:=hf;have:=c f (Array.mem_of_getElem? hg);rwa[b]at this
def fieldsOf(P:Program)(T:TypeId):Array Field:=match P.underlying T with
 |some (.struct fs)=>fs
 |_=> #[]
end aQ
