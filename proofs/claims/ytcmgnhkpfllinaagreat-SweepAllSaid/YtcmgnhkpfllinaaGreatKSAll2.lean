/- What a Go program of the model must show, as text that can be read; sound against the kit. -/
import Derived.Carry
import Derived.ChangeArms
import Derived.ChangeVars
import Derived.Defers
import Derived.LaidLaws
import Derived.Laws.StructEq
import Derived.Lib.Overlaps
import Derived.MakeChecks
import Derived.WideKeyRuns
import Derived.Test.YtcmgnhkpfllinaaGreatKSAll1
namespace aQ
open Go Go.RowKit
def jJ(fG:TypeId->av (O cS))(P:Program):O Field->Nat->av (O cS)
 | [],_=>some []
 |f::fs,o=>if f.name= "_" \/f.offset≠o then none else
  match fG f.type with
  |some ls=>if P.cellsOf f.type=ls.length then (jJ fG P fs (o+ls.length)).map (ls++ ·) else none
  |none=>none
def m7(ls:O cS):Nat->O cS
 |0=> []
 |n+1=>ls++m7 ls n
def fG(P:Program):Nat->TypeId->av (O cS)
 |0,_=>none
 |d+1,T=>match P.underlying T with
  |some (.int k)=>some [.int k]
  |some .bool=>some [.bool]
  |some .string=>some [.str]
  |some (.struct fs)=>if P.stoodInHeld T then none else jJ (fG P d) P fs.toList 0
  |some (.array n e)=>match fG P d e with
   |some ls=>if P.cellsOf e=ls.length then some (m7 ls n) else none
   |none=>none
  |_=>none
def tM:cS->aa->Prop
 | .int k,v=>∃n:Int,v=.int k n
 | .bool,v=>∃b:al,v=.bool b
 | .str,v=>∃s:ByteArray,v=.string s
 |_,_=>False
def e5:O cS->O aa->Prop
 | [],vs=>vs=[]
 |l::ls,vs=>∃v us,vs=v::us/\tM l v/\e5 ls us
theorem rR:∀ {ls:O cS}{vs:O aa},e5 ls vs->vs.length=ls.length
 | [],_,h=>by cases h;rfl
 |_::_,_,h=>by
  obtain⟨v,us,rfl,_,h⟩:=h
  simp[rR h]
theorem rS:∀ {ls ms:O cS}{vs:O aa},e5 (ls++ms) vs->e5 ls (vs.take ls.length)/\e5 ms (vs.drop ls.length)
 | [],_,_,h=>⟨rfl,h⟩
 |l::ls,ms,vs,h=>by
  obtain⟨v,us,rfl,h1,h2⟩:=h
  obtain⟨a,b⟩:=rS h2
  exact⟨⟨v,_,rfl,h1,a⟩,b⟩
theorem AQ:∀ {ls ms:O cS}{vs us:O aa},e5 ls vs->e5 ms us->e5 (ls++ms) (vs++us)
 | [],_,_,_,h,h2=>by cases h;exact h2
 |l::ls,ms,vs,us,h,h2=>by
  obtain⟨v,vs,rfl,h1,h⟩:=h
  exact⟨v,_,rfl,h1,AQ h h2⟩
def m8:aa->aa->al
 | .int _ a,.int _ b=>a==b
 | .bool a,.bool b=>a==b
 | .string a,.string b=>a.toList==b.toList
 |_,_=>false
def fz:O aa->O aa->al
 | [],_=>true
 |a::as,b::c=>m8 a b&&fz as c
 |_::_,[]=>false
theorem EN{l:cS}{a b:aa}(c:tM l a)(d:tM l b):m8 a b=true↔a=b:=by
 cases l<;>simp only[tM]at c d<;>try exact c.elim
 .obtain⟨n,rfl⟩:=c;obtain⟨m,rfl⟩:=d;simp[m8]
 .obtain⟨n,rfl⟩:=c;obtain⟨m,rfl⟩:=d;simp[m8]
 .obtain⟨n,rfl⟩:=c;obtain⟨m,rfl⟩:=d
  simp only[m8,j2,Value.string.injEq];rw[ByteArray.toList_eq,ByteArray.toList_eq];obtain⟨⟨x⟩⟩:=n;obtain⟨⟨y⟩⟩:=m;simp
theorem xp:∀ {ls:O cS}{as c:O aa},e5 ls as->e5 ls c->(fz as c=true↔as=c)
 | [],_,_,h1,h2=>by cases h1;cases h2;simp[fz]
 |l::ls,_,_,h1,h2=>by
  obtain⟨a,as,rfl,d,e⟩:=h1
  obtain⟨b,c,rfl,f,g⟩:=h2
  simp[fz,EN d f,xp e g]
theorem xq:∀ {as c cs ds:O aa},as.length=c.length->fz (as++cs) (c++ds)=(fz as c&&fz cs ds)
 | [],[],_,_,_=>by simp[fz]
 |a::as,b::c,cs,ds,h=>by
  simp only[l2,fz]
  rw[xq (by simpa using h),Bool.and_assoc]
 | [],_::_,_,_,h=>by simp at h
 |_::_,[],_,_,h=>by simp at h
def k7(P:Program)(T:TypeId)(cs:O aa):aa:=
 match P.underlying T with
 |some d=>if gO d then .agg cs.toArray else cs.headD undef
 |none=>undef
section
variable {P:Program}
theorem oo{T:TypeId}{d:TypeDesc}{cs:O aa}(h:P.underlying T=some d)(a:gO d=true):k7 P T cs=.agg cs.toArray:=by
 simp[k7,h,a]
theorem oq{T:TypeId}{d:TypeDesc}{v:aa}(h:P.underlying T=some d)(a:gO d=false):k7 P T [v]=v:=by
 simp[k7,h,a]
theorem tN{T:TypeId}{cs us:O aa}{off:Nat}{d:TypeDesc}(a:P.underlying T=some d)(b:P.cellsOf T=us.length)(c:gO d=false->us.length=1)
 (h:(cs.drop off).take us.length=us) (w:J):(part T cs.toArray off).run P w=.ok (k7 P T us) w:=by
 cases hd:gO d with
 |true=>
  rw[oo a hd];have e:cs.toArray.extract off (off+us.length)=us.toArray:=by
   simp[h]
  simp[part,pM a,hd,g_ a,b,h]
 |false=>
  obtain⟨v,rfl⟩:=List.length_eq_one_iff.1 (c hd);rw[oq a hd];have f:cs[off]? =some v:=by
   have:((cs.drop off).take 1)[0]? =some v:=by
    have g:List.take 1 (List.drop off cs)=[v]:=h;rw[g];rfl
   rw[List.getElem?_take_of_lt I,s6]at this;simpa using this
  simp[part,pM a,hd,f]
theorem flat_agg{d:Nat}{T:TypeId}{ls:O cS}(h:fG P d T=some ls):∃u,P.underlying T=some u/\(gO u=false->ls.length=1):=by
 cases d with
 |zero=>cases h
 |succ d=>
  simp only[fG]at h
  cases hu:P.underlying T with
  |none=>simp[hu]at h
  |some u=>
   refine⟨u,rfl,λa=>?_⟩;rw[hu]at h
   cases u<;>simp only[gO,reduceCtorEq]at a h<;>first|(cases h;rfl)|cases h
theorem AR{d D:Nat}(i:∀ {T:TypeId}{ls:O cS}{xs ys:O aa},fG P d T=some ls->e5 ls xs->e5 ls ys->∀w,(Op.equalIn (D+d) T (k7 P T xs) (k7 P T ys)).run P w=.ok (fz xs ys) w)
 {xs ys:O aa}:∀ {fs:O Field}{o:Nat}{ls:O cS},jJ (fG P d) P fs o=some ls->e5 ls (xs.drop o)->e5 ls (ys.drop o)->
  ∀w,(Op.eqFields (D+d) xs.toArray ys.toArray fs).run P w=.ok (fz (xs.drop o) (ys.drop o)) w
 | [],o,ls,h,hx,j,w=>by
  simp only[jJ,Option.some.injEq]at h
  subst h
  have hx:xs.drop o=[]:=hx
  rw[hx]
  rfl
 |f::fs,o,ls,h,hx,j,w=>by
  simp only[jJ]at h
  split at h
  .cases h
  .rename_i hf
   have s:¬f.name= "_" :=λe=>hf (.inl e)
   have t:f.offset=o:=by
    by_cases e:f.offset=o
    .exact e
    .exact absurd (.inr e) hf
   subst t;split at h
   .rename_i ms k
    split at h
    .rename_i hc
     cases c:jJ (fG P d) P fs (f.offset+ms.length) with
     |none=>simp[c]at h
     |some x=>
      simp only[c,l4,Option.some.injEq]at h;subst h;obtain⟨l,m⟩:=rS hx;obtain⟨n,p⟩:=rS j;rw[kY]at m p;obtain⟨u,hu,q⟩:=flat_agg k;have a:=rR l;have b:=rR n;have bk:=tN (cs:=xs) (off:=f.offset) (us:=(xs.drop f.offset).take ms.length) hu (by rw[hc,a]) (λg=>by rw[a];exact q g) (by rw[a]);have bf:=tN (cs:=ys) (off:=f.offset) (us:=(ys.drop f.offset).take ms.length) hu (by rw[hc,b]) (λg=>by rw[b];exact q g) (by rw[b]);have e:=λw=>i k l n w;have r:=AR i (fs:=fs) c m p;have v:fz (xs.drop f.offset) (ys.drop f.offset)=(fz ((xs.drop f.offset).take ms.length) ((ys.drop f.offset).take ms.length)&&fz (xs.drop (f.offset+ms.length)) (ys.drop (f.offset+ms.length))):=by
       rw[←xq (by rw[a,b])];simp only[←kY,fK]
      simp only[Op.eqFields,ne_eq,s,not_false_eq_true,if_true,Sem.run_bind,bk,bf,e,Result.andThen];rw[v]
      cases fz ((xs.drop f.offset).take ms.length) ((ys.drop f.offset).take ms.length)
      .simp
      .simpa using r w
    .cases h
   .cases h
theorem AS(ls:O cS):∀n,(m7 ls n).length=n*ls.length
 |0=>by simp[m7]
 |n+1=>by simp[m7,AS ls n,jc,Nat.add_comm]
theorem AT{d D:Nat}(j:∀ {T:TypeId}{ls:O cS}{xs ys:O aa},fG P d T=some ls->e5 ls xs->e5 ls ys->∀w,(Op.equalIn (D+d) T (k7 P T xs) (k7 P T ys)).run P w=.ok (fz xs ys) w)
 {e:TypeId}{ls:O cS}{u:TypeDesc} (hu:P.underlying e=some u) (g:gO u=false->ls.length=1) (k:fG P d e=some ls) (hc:P.cellsOf e=ls.length) {xs ys:O aa}:
 ∀ (n i:Nat),e5 (m7 ls n) (xs.drop (i*ls.length))->e5 (m7 ls n) (ys.drop (i*ls.length))->∀w,
  Sem.run P (do
   let r ←forIn (List.range' i n) ((none:av al),()) λi _=>do
    let a ←part e xs.toArray (i*ls.length)
    let b ←part e ys.toArray (i*ls.length)
    let t ←Op.equalIn (D+d) e a b
    if (!t)=true then pure (ForInStep.done (some false,())) else pure (ForInStep.yield (none,()))
   match r.1 with
   |some b=>pure b
   |none=>pure true) w=.ok (fz (xs.drop (i*ls.length)) (ys.drop (i*ls.length))) w
 |0,i,hx,l,w=>by
  have hx:xs.drop (i*ls.length)=[]:=hx
  rw[hx]
  simp[fz]
 |n+1,i,hx,l,w=>by
  obtain⟨m,o⟩:=rS hx
  obtain⟨p,q⟩:=rS l
  rw[kY,show i*ls.length+ls.length=(i+1)*ls.length by rw[jc,Nat.one_mul]]at o q
  have c:=rR m
  have f:=rR p
  have bk:=tN (cs:=xs) (off:=i*ls.length) (us:=(xs.drop (i*ls.length)).take ls.length) hu (by rw[hc,c]) (λh=>by rw[c];exact g h) (by rw[c])
  have bf:=tN (cs:=ys) (off:=i*ls.length) (us:=(ys.drop (i*ls.length)).take ls.length) hu (by rw[hc,f]) (λh=>by rw[f];exact g h) (by rw[f])
  have s:=λw=>j k m p w
  have r:=AT j hu g k hc n (i+1) o q w
  have v:fz (xs.drop (i*ls.length)) (ys.drop (i*ls.length))=(fz ((xs.drop (i*ls.length)).take ls.length) ((ys.drop (i*ls.length)).take ls.length)&&fz (xs.drop ((i+1)*ls.length)) (ys.drop ((i+1)*ls.length))):=by
   rw[←xq (by rw[c,f]),show(i+1)*ls.length=i*ls.length+ls.length by rw[jc,Nat.one_mul]];simp only[←kY,fK]
  rw[v];simp only[List.range'_succ,List.forIn_cons,Sem.run_bind,bk,bf,s,Result.andThen]
  cases fz ((xs.drop (i*ls.length)).take ls.length) ((ys.drop (i*ls.length)).take ls.length)
  .simp
  .simpa[Result.andThen] using r
theorem AU(D:Nat):∀ (d:Nat) {T:TypeId}{ls:O cS}{xs ys:O aa},fG P d T=some ls->e5 ls xs->e5 ls ys->∀w,(Op.equalIn (D+d) T (k7 P T xs) (k7 P T ys)).run P w=.ok (fz xs ys) w
 |0,_,_,_,_,h,_,_,_=>by cases h
 |d+1,T,ls,xs,ys,h,hx,b,w=>by
  have c:= @AU D d
  simp only[fG]at h
  cases hu:P.underlying T with
  |none=>simp[hu]at h
  |some u=>
   rw[hu]at h
   cases u with
   |int k=>
    simp only[Option.some.injEq]at h;subst h
    obtain⟨x,_,rfl,⟨n,rfl⟩,rfl⟩:=hx
    obtain⟨y,_,rfl,⟨m,rfl⟩,rfl⟩:=b
    rw[oq hu rfl,oq hu rfl]
    show(Op.equalIn (D+d+1) T _ _).run P w=_
    simp[Op.equalIn,c2 hu,fz,m8]
   |bool=>
    simp only[Option.some.injEq]at h;subst h
    obtain⟨x,_,rfl,⟨n,rfl⟩,rfl⟩:=hx
    obtain⟨y,_,rfl,⟨m,rfl⟩,rfl⟩:=b
    rw[oq hu rfl,oq hu rfl]
    show(Op.equalIn (D+d+1) T _ _).run P w=_
    simp[Op.equalIn,c2 hu,fz,m8]
   |string=>
    simp only[Option.some.injEq]at h;subst h
    obtain⟨x,_,rfl,⟨n,rfl⟩,rfl⟩:=hx
    obtain⟨y,_,rfl,⟨m,rfl⟩,rfl⟩:=b
    rw[oq hu rfl,oq hu rfl]
    show(Op.equalIn (D+d+1) T _ _).run P w=_
    simp[Op.equalIn,c2 hu,fz,m8,beq_toListBytes]
   |struct fs=>
    simp only at h
    split at h
    .cases h
    .rename_i j
     rw[oo hu rfl,oo hu rfl]
     have f:P.fieldsOf T=fs:=by simp[Program.fieldsOf,hu]
     show(Op.equalIn (D+d+1) T _ _).run P w=_
     rw[run_equalIn_struct w (D+d) T xs.toArray ys.toArray (by rw[f];exact hu) (by simpa using j),f]
     have:=AR (D:=D) c (xs:=xs) (ys:=ys) h (by simpa using hx) (by simpa using b) w
     simpa using this
   |array n e=>
    simp only at h
    split at h
    .rename_i ms g
     split at h
     .rename_i hc
      simp only[Option.some.injEq]at h;subst h
      obtain⟨u,i,l⟩:=flat_agg g
      rw[oo hu rfl,oo hu rfl]
      show(Op.equalIn (D+d+1) T _ _).run P w=_
      have:=AT (D:=D) c i l g hc (xs:=xs) (ys:=ys) n 0 (by simpa using hx) (by simpa using b) w
      rw[pC,iK,iK]at this
      rw[←this]
      simp only[Op.equalIn,Sem.run_bind,c2 hu,g_ i,Result.andThen,hc,Std.Legacy.Range.forIn_eq_forIn_range',Std.Legacy.Range.size]
      simp
      congr 1
      funext a w
      obtain⟨o,_⟩:=a
      cases o<;>rfl
     .cases h
    .cases h
   |_=>cases h
theorem kA.flat{T:TypeId}{d:TypeDesc}{ls:O cS}{xs ys:O aa}(a:P.underlying T=some d)(b:gO d=true)(hf:fG P 8 T=some ls)(hg:P.eqGuardType P.depth T=false)
 (hx:e5 ls xs) (c:e5 ls ys):kA P T xs.toArray ys.toArray (fz xs ys):=by
 refine⟨hg,λw=>?_⟩;have:=AU (P:=P) 9992 8 hf hx c w;rwa[oo a b,oo a b]at this
end
end aQ
namespace aQ
open Go Go.RowKit
theorem tO{n:Int}(h0:0<=n)(h1:n<=255):IntKind.u8.wrap n=n:=by
 simp only[IntKind.wrap,IntKind.signed,IntKind.bits];simp;omega
theorem xr{n:Int}(h0:0<=n)(h1:n<=4294967295):IntKind.u32.wrap n=n:=by
 simp only[IntKind.wrap,IntKind.signed,IntKind.bits];simp;omega
theorem gz{n:Int}(h0:0<=n)(h1:n<=18446744073709551615):IntKind.u64.wrap n=n:=by
 simp only[IntKind.wrap,IntKind.signed,IntKind.bits];simp;omega
theorem EO(n:Int):IntKind.u8.wrap n=n%256:=by
 simp only[IntKind.wrap,IntKind.signed,IntKind.bits];simp
theorem EP{a b:Int}(h:0<=a):Int.tdiv a b=a/b:=wP h
theorem ER{a b:Int}(h:0<=a):Int.tmod a b=a%b:=mT h
def S(l:O UInt8):ByteArray:=⟨l.toArray⟩
theorem AV(l:O UInt8):(S l).toList=l:=ByteArray.toList_mk l
theorem AW(a b:O UInt8):(ByteArray.toList (S a)==ByteArray.toList (S b))=(a==b):=by rw[AV,AV]
theorem ES(ns:O Int):AO ns=S (ns.map λn=>UInt8.ofNat n.toNat):=by
 have h:∀ (ns:O Int) (r:O UInt8),ns.foldl (λr n=>r.push (UInt8.ofNat n.toNat)) (S r)=S (r++ns.map λn=>UInt8.ofNat n.toNat):=by
  intro ns
  induction ns with
  |nil=>intro r;simp
  |cons n ns a=>
   intro r;have e:(S r).push (UInt8.ofNat n.toNat)=S (r++ [UInt8.ofNat n.toNat]):=by
    apply ByteArray.ext;simp[S,ByteArray.push]
   simp only[List.foldl_cons,e,a,g9,cB,l2,hY]
 exact h ns []
theorem add_add(A:ag)(n m:Nat):(A.add n).add m=A.add (n+m):=by
 unfold Addr.add;by_cases h1:n=0
 .subst h1;simp
 .by_cases h2:m=0
  .subst h2;simp
  .rw[if_neg h1,if_neg h2,if_neg I]
   simp[Nat.add_assoc]
def put(f:Nat->Int)(i:Nat)(v:Int):Nat->Int:=λj=>if j=i then v else f j
section
variable {w w':J}{b m i:Nat}{T:TypeId}{f:Nat->Int}
theorem af.gA{w0 w:J}{b i:Nat}(h:af (λq=>q=b) w0 w)(v:aa):af (λq=>q=b) w0 (w.setCell ⟨b,i,none⟩ v):=af.set h (λ_=>rfl) v
theorem af.jK{w0 w:J}{b i:Nat}(h:af (λq=>q=b) w0 w)(vs:O aa)(j:Nat):af (λq=>q=b) w0 (aQ.setCells w ⟨b,i,none⟩ j vs):=af.setCells (W:=λq=>q=b) (A:=⟨b,i,none⟩) (λ_=>rfl) vs j h
end
theorem mi{b o:Nat}{z l m:Nat}(h:m≠l):aY (some (Addr.mk b o none)) z l m=some ⟨b,o+l*z,none⟩:=by
 simp[aY,h,aA]
theorem Ext.trans{a b c:J}(h1:Ext a b)(h2:Ext b c):Ext a c:=af.trans h1 h2
theorem Ext.dX{w0 w1 ai:J}{W:Nat->Prop}(h1:Ext w0 w1)(h2:af W w1 ai)(h:∀k,W k->w0.heap.size<=k):Ext w0 ai:=
 ⟨h2.os.trans h1.os,h2.tape.trans h1.tape,h2.output.trans h1.output,eE h1.size h2.size,λk a _=>by
  rw[h2.block k (ff a h1.size) (λcx=>by have:=h k cx;omega),h1.block k a id]⟩
end aQ
namespace aQ
open Go
def p3(P:Program)(f:FuncId)(args:Array aa)(w:J)(K:J->Prop):Prop:=
 h6 P f/\CallsD P f args .returning w λe a w'=>(∃v,e=.returned v)/\a=.returning/\K w'
def xt(P:Program)(tk:TypeId->dJ)(c:Code)(K:FuncId->Array aa->Array aa->Env->J->Prop)(e:Env)(w:J):Prop:=
 match c with
 | .region _ ops false=>match ops.toList with
  | [a,b]=>match a.guard,b.guard,b.dst,b.op with
   |none,none,none,.defer call=>match call.callee,call.args.toList with
    | .value x,[]=>jG P tk a (λv w'=>match ev (c_ a.dst v e) x with|some (.func (.func f) first cap)=>K f first cap (c_ a.dst v e) w'|_=>False) e w
    |_,_=>False
   |_,_,_,_=>False
  |_=>False
 |_=>False
def rT(P:Program)(tk:TypeId->dJ):aO->Code->(Exit->Env->J->Prop)->(FuncId->Array aa->Array aa->Exit->Env->J->Prop)->Env->J->Prop
 | .seq .leaf B,.seq a b,_,Kd,e,w=>xt P tk a (λf first cap c w'=>D P tk B b (Kd f first cap) c w') e w
 | .seq A B,.seq a b,K,Kd,e,w=>D P tk A a (λx c w'=>match x with| .normal=>rT P tk B b K Kd c w'|x=>K x c w') e w
 |_,_,_,_,_,_=>False
def ET(P:Program)(tk:TypeId->dJ)(a:O ResultVar)(R:aa->J->Prop)(f:FuncId)(first cap:Array aa)(x:Exit)(e:Env)(w:J):Prop:=
 match x with
 | .normal| .ret=>p3 P f (first++cap) w λw'=>mg P tk a e w' λvs=>R (pY vs) w'
 |_=>False
def xu(P:Program)(tk:TypeId->dJ)(A:aO)(fn:Func)(args:O aa)(w:J)(R:aa->J->Prop):Prop:=
 match fn.body with
 |some c=>rT P tk A c (AG P tk fn.results.toList R) (ET P tk fn.results.toList R) (oe 0 args) w
 |none=>False
variable {P:Program}{tk:TypeId->dJ}
def rU(f:FuncId)(first cap:Array aa):Deferred:={target:=.fn (.func f) cap,args:=first++ #[]}
theorem EU{c:Code}{K:FuncId->Array aa->Array aa->Env->J->Prop}{e:Env}{a:Act}{w:J}(ar:dm e a)(q:∀d∈writes c,d<a.tmps.size)(h:xt P tk c K e w):
 c.wp P (λx l w'=>x=.normal/\∃f first cap,l.defers=rU f first cap::a.defers/\l.tmps.size=a.tmps.size/\∃n,dm n l/\K f first cap n w') a w:=by
 unfold xt at h;split at h
 case h_2=>exact h.elim
 rename_i id ops;split at h
 case h_2=>exact h.elim
 rename_i b j o;split at h
 case h_2=>exact h.elim
 rename_i call r t u y;split at h
 case h_2=>exact h.elim
 rename_i x hc tL;refine wp_region_list ?_;rw[o];have w1:Region.wanted b (yielded ops a.tmps)=true:=by unfold Region.wanted;rw[r]
 simp only[wpList,w1,if_true];refine .inl ((tx ar h).wp ?_);intro v w' m;have z:Region.wanted j (yielded ops (a.put b.dst v).tmps)=true:=by unfold Region.wanted;rw[t]
 simp only[z,if_true];refine .inl ?_;split at m
 case h_2=>exact m.elim
 rename_i f first cap A;have p:dm (c_ b.dst v e) (a.put b.dst v):=ar.put λk i=>q k (by simp[writes,o,bL,i]);have B:call.args= #[]:=by
  have:=congrArg List.toArray tL;simpa using this
 have C:(execOp (a.put b.dst v).eval j).run P w'=.ok (.defer (rU f first cap)) w':=by
  have D:∀g:Operand->aa,Array.map g #[]= #[]:=λg=>by simp
  simp only[execOp,y,resolve,hc,B,p.ev A,D];rfl
 show j.upon P _ _ _ ((execOp (a.put b.dst v).eval j).run P w');rw[C,Oper.upon_defer,u];refine⟨trivial,f,first,cap,?_,?_,c_ b.dst v e,?_,m⟩
 .have:=(dW.put (a:=a) (d:=b.dst) (v:=v) (ds:=bL [b]) (λk i=>by simp[bL,i])).defers
  show rU f first cap::(a.put b.dst v).defers=_;rw[this]
 .exact(dW.put (a:=a) (d:=b.dst) (v:=v) (ds:=bL [b]) (λk i=>by simp[bL,i])).size
 .exact⟨λs v hs=>p.get s v hs⟩
theorem EV(p:P.follows .mixedOrders=true):∀ (A:aO) (c:Code) (K:Exit->Env->J->Prop) (Kd:FuncId->Array aa->Array aa->Exit->Env->J->Prop) (e:Env) (a:Act) (w:J),dm e a->a.defers=[]->
 (∀d∈writes c,d<a.tmps.size)->rT P tk A c K Kd e w->
 c.wp P (λx m w'=>(m.defers=[]/\∃j,dm j m/\K x j w')\/∃f first cap,m.defers=[rU f first cap]/\∃j,dm j m/\Kd f first cap x j w') a w:=by
 intro A
 induction A with
 |seq A B D r=>
  intro c K Kd e a w ar hd k h;unfold rT at h;split at h
  case h_3=>exact h.elim
  .rename_i s x y n
   cases n;have hx:∀d,d∈writes x->d∈writes (.seq x y):=λd hd=>by simp[writes,hd]
   have o:∀d,d∈writes y->d∈writes (.seq x y):=λd hd=>by simp[writes,hd]
   refine wp_seq (jI (EU ar (λd hd=>k d (hx d hd)) h) ?_);rintro ex a1 w1 ⟨rfl,f,first,cap,h1,h2,b,g,t⟩;refine jI (tK p B y _ b a1 w1 g (λd hd=>by rw[h2];exact k d (o d hd)) t) ?_;rintro ex a2 ai ⟨u,v,z,C⟩;exact .inr ⟨f,first,cap,by rw[u.defers,h1,hd],v,z,C⟩
  .rename_i E s x y _ n
   cases n;have hx:∀d,d∈writes x->d∈writes (.seq x y):=λd hd=>by simp[writes,hd]
   have o:∀d,d∈writes y->d∈writes (.seq x y):=λd hd=>by simp[writes,hd]
   refine wp_seq (jI (tK p A x _ _ a _ ar (λd hd=>k d (hx d hd)) h) ?_);rintro ex a1 w1 ⟨q,b,g,h1⟩;have i:a1.defers=[]:=by rw[q.defers,hd]
   cases ex with
   |normal=>exact r y _ _ b a1 w1 g i (λd hd=>by rw[q.size];exact k d (o d hd)) h1
   |exit id=>exact .inl ⟨i,b,g,h1⟩
   |goto l=>exact .inl ⟨i,b,g,h1⟩
   |ret=>exact .inl ⟨i,b,g,h1⟩
   |panic ch=>exact .inl ⟨i,b,g,h1⟩
   |outgrown=>exact .inl ⟨i,b,g,h1⟩
 |_=>intro c K Kd e a w ar hd k h;unfold rT at h;exact h.elim
theorem AX{fn:Func}{args:O aa}(a:args.length<=fn.ntmps):dm (oe 0 args) {tmps:=args.toArray++Array.replicate (fn.ntmps-args.toArray.size) undef,defers:=[]}:=by
 constructor;intro s v hs;obtain⟨_,h2⟩:=xl hs;simp only[mR]at h2;have aH:s<args.length:=(jB.1 h2).1;simp[Array.getElem?_append,aH];rw[dH aH]at h2;exact Option.some.inj h2
theorem EW{f:FuncId}{fn:Func}{A:aO}{args:O aa}{w:J}{K:J->Prop}(m:P.follows .mixedOrders=true)(hc:h6 P f)
 (hf:P.funcs[f]? =some fn) (b:og fn args.length=true) (h:pZ P tk A fn args w λ_ w'=>K w'):p3 P f args.toArray w K:=by
 refine⟨hc,?_⟩;unfold pZ at h;unfold og at b
 cases g:fn.body with
 |none=>rw[g]at h;exact h.elim
 |some c=>
  rw[g]at h b;simp only[c5]at h b;obtain⟨n,o⟩:=b;have p:=mQ o;have q:(args.toArray++Array.replicate (fn.ntmps-args.toArray.size) undef).size=fn.ntmps:=by simp;omega
  refine(callsD_of_wp (R:=λe w'=>(∃v,e=.returned v)/\K w') hf g ?_).mono λe u w' ⟨h1,h2,r⟩=>⟨h2,h1,r⟩;refine jI (tK m A c _ _ _ w (AX p) (λd hd=>?_) h) ?_
  .have h1:=pA.1 n d hd
   have h2:=mQ h1;show d<(args.toArray++Array.replicate (fn.ntmps-args.toArray.size) undef).size;rw[q];omega
  .rintro x s w' ⟨t,y,k,a⟩
   have hd:s.defers=[]:=t.defers
   cases x with
   |normal=>
    obtain⟨vs,i,j⟩:=mh k a;exact⟨hd,_,oh i,⟨_,rfl⟩,j⟩
   |ret=>
    obtain⟨vs,i,j⟩:=mh k a;exact⟨hd,_,oh i,⟨_,rfl⟩,j⟩
   |exit id=>exact a.elim
   |goto l=>exact a.elim
   |panic ch=>exact a.elim
   |outgrown=>exact a.elim
theorem EX{f:FuncId}{fn:Func}{A:aO}{args:O aa}{w:J}{R:aa->J->Prop}(p:P.follows .mixedOrders=true)
 (hf:P.funcs[f]? =some fn) (n:og fn args.length=true) (h:xu P tk A fn args w R):
 Calls P f args.toArray w λe w'=>∃v,e=.returned v/\R v w':=by
 unfold xu at h;unfold og at n
 cases o:fn.body with
 |none=>rw[o]at h;exact h.elim
 |some c=>
  rw[o]at h n;simp only[c5]at h n;obtain⟨q,r⟩:=n;have s:=mQ r;have t:(args.toArray++Array.replicate (fn.ntmps-args.toArray.size) undef).size=fn.ntmps:=by simp;omega
  refine calls_of_wp_defers hf o ?_;refine jI (EV p A c _ _ _ _ w (AX s) rfl (λd hd=>?_) h) ?_
  .have h1:=pA.1 q d hd
   have h2:=mQ h1;show d<(args.toArray++Array.replicate (fn.ntmps-args.toArray.size) undef).size;rw[t];omega
  .have key:∀ {b:Act}{w':J}{j:Env}{g:FuncId}{first cap:Array aa},b.defers=[rU g first cap]->dm j b->(p3 P g (first++cap) w' λw'=>mg P tk fn.results.toList j w' λvs=>R (pY vs) w')->
    Leaves P fn b.tmps (λe w'=>∃v,e=.returned v/\R v w') b.defers .returning w':=by
    intro b w' j g first cap hd i ⟨hc,a⟩;rw[hd];refine leaves_cons (f:=g) (args:=first++cap) (by simp) (by simp[invoke,z8 hc]) (a.mono ?_);rintro _ _ ai ⟨⟨v,rfl⟩,rfl,u⟩;obtain⟨vs,k,m⟩:=mh i u;exact⟨_,oh k,_,rfl,m⟩
   rintro x b w' (⟨hd,j,i,a⟩|⟨g,first,cap,hd,j,i,a⟩)
   .cases x with
    |normal=>
     obtain⟨vs,k,m⟩:=mh i a;show Leaves _ _ _ _ b.defers _ _;rw[hd];exact⟨_,oh k,_,rfl,m⟩
    |ret=>
     obtain⟨vs,k,m⟩:=mh i a;show Leaves _ _ _ _ b.defers _ _;rw[hd];exact⟨_,oh k,_,rfl,m⟩
    |exit id=>exact a.elim
    |goto l=>exact a.elim
    |panic ch=>exact a.elim
    |outgrown=>exact a.elim
   .cases x with
    |normal=>exact key hd i a
    |ret=>exact key hd i a
    |exit id=>exact a.elim
    |goto l=>exact a.elim
    |panic ch=>exact a.elim
    |outgrown=>exact a.elim
end aQ
namespace aQ
open Go Go.RowKit
def EY:cS->aa->Prop
 | .int k,v=>∃n:Int,v=.int k n/\k.min<=n/\n<=k.max
 | .bool,v=>∃b:al,v=.bool b
 | .str,v=>∃s:ByteArray,v=.string s/\s.size<=maxLen
 |_,_=>False
def h9:O cS->O aa->Prop
 | [],vs=>vs=[]
 |l::ls,vs=>∃v us,vs=v::us/\EY l v/\h9 ls us
theorem xv:∀ {ls ms:O cS}{vs us:O aa},h9 ls vs->h9 ms us->h9 (ls++ms) (vs++us)
 | [],_,_,_,h,h2=>by cases h;exact h2
 |l::ls,ms,vs,us,h,h2=>by
  obtain⟨v,vs,rfl,h1,h⟩:=h
  exact⟨v,_,rfl,h1,xv h h2⟩
theorem xw:∀ {ls ms:O cS}{vs:O aa},h9 (ls++ms) vs->∃us ts,vs=us++ts/\h9 ls us/\h9 ms ts
 | [],_,vs,h=>⟨[],vs,rfl,rfl,h⟩
 |l::ls,ms,vs,h=>by
  obtain⟨v,us,rfl,h1,h2⟩:=h
  obtain⟨a,b,rfl,c,d⟩:=xw h2
  exact⟨v::a,b,rfl,⟨v,a,rfl,h1,c⟩,d⟩
theorem AY{P:Program}{tP:TypeId->av (O cS)}{cs:O aa}{R:TypeId->O aa->Prop}(c:∀ {T:TypeId}{ls:O cS}{us:O aa},tP T=some ls->R T us->h9 ls us):
 ∀ {fs:O Field}{o:Nat}{ls:O cS},jJ tP P fs o=some ls->o+ls.length=cs.length->(∀f∈fs,R f.type ((cs.drop f.offset).take (P.cellsOf f.type)))->h9 ls (cs.drop o)
 | [],o,ls,h,a,_=>by
  simp only[jJ,Option.some.injEq]at h
  subst h
  exact List.drop_of_length_le (by simp at a;omega)
 |f::fs,o,ls,h,a,d=>by
  simp only[jJ]at h
  split at h
  .cases h
  .rename_i hf
   have i:f.offset=o:=by
    by_cases e:f.offset=o
    .exact e
    .exact absurd (.inr e) hf
   subst i;split at h
   .rename_i ms j
    split at h
    .rename_i hc
     cases b:jJ tP P fs (f.offset+ms.length) with
     |none=>simp[b]at h
     |some k=>
      simp only[b,l4,Option.some.injEq]at h;subst h;have h1:=c j (d f (by simp));have h2:=AY c (fs:=fs) (cs:=cs) b (by simp at a;omega) (λg hg=>d g (by simp[hg]));rw[hc]at h1;have:=xv h1 h2;rwa[←kY,fK]at this
    .cases h
   .cases h
theorem AZ{ls:O cS}{cs:O aa}:∀ {n i:Nat},(∀j,i<=j->j<i+n->h9 ls ((cs.drop (j*ls.length)).take ls.length))->cs.length=(i+n)*ls.length->h9 (m7 ls n) (cs.drop (i*ls.length))
 |0,i,_,a=>List.drop_of_length_le (by simp at a;omega)
 |n+1,i,h,a=>by
  have h1:=h i (bl _) I
  have h2:=AZ (n:=n) (i:=i+1) (λj h1 h2=>h j I I) (by rw[a];congr 1;omega)
  have:=xv h1 h2
  rw[show(i+1)*ls.length=i*ls.length+ls.length by rw[jc,Nat.one_mul],←kY,fK]at this
  exact this
theorem rV{P:Program}{w:J}:∀ (d:Nat) {T:TypeId}{ls:O cS}{fuel:Nat}{cs:O aa},fG P d T=some ls->P.cellsOf T=ls.length->gJ P w fuel T cs->h9 ls cs
 |0,_,_,_,_,h,_,_=>by cases h
 |d+1,T,ls,fuel,cs,h,m,a=>by
  cases fuel with
  |zero=>cases a
  |succ f=>
   simp only[fG]at h
   cases hu:P.underlying T with
   |none=>simp[hu]at h
   |some u=>
    rw[hu]at h
    cases u with
    |int k=>
     simp only[Option.some.injEq]at h;subst h
     simp only[gJ,hu]at a
     obtain⟨n,rfl,h1,h2⟩:=a
     exact⟨_,_,rfl,⟨n,rfl,h1,h2⟩,rfl⟩
    |bool=>
     simp only[Option.some.injEq]at h;subst h
     simp only[gJ,hu]at a
     obtain⟨b,rfl⟩:=a
     exact⟨_,_,rfl,⟨b,rfl⟩,rfl⟩
    |string=>
     simp only[Option.some.injEq]at h;subst h
     simp only[gJ,hu]at a
     obtain⟨s,rfl,h1⟩:=a
     exact⟨_,_,rfl,⟨s,rfl,h1⟩,rfl⟩
    |struct fs=>
     simp only at h
     split at h
     .cases h
     .simp only[gJ,hu]at a
      have:=AY (P:=P) (cs:=cs) (tP:=λT=>if (fG P d T).isSome/\∀ms,fG P d T=some ms->P.cellsOf T=ms.length then fG P d T else none) (R:=λT us=>gJ P w f T us) (λ{T}{ls}{us} h1 h2=>by
       split at h1
       .rename_i q;exact rV d h1 (q.2 _ h1) h2
       .cases h1) (fs:=fs.toList) (o:=0) (ls:=ls) (by
        have key:∀ (fs:O Field) (o:Nat) (ls:O cS),jJ (fG P d) P fs o=some ls->jJ (λT=>if (fG P d T).isSome/\∀ms,fG P d T=some ms->P.cellsOf T=ms.length then fG P d T else none) P fs o=some ls:=by
         intro fs
         induction fs with
         |nil=>intro o ls h;exact h
         |cons g fs r=>
          intro o ls h;simp only[jJ]at h⊢;split at h
          .cases h
          .rename_i hg
           rw[if_neg hg];split at h
           .rename_i ms c
            split at h
            .rename_i hc
             have t:(fG P d g.type).isSome/\∀ms,fG P d g.type=some ms->P.cellsOf g.type=ms.length:=by
              refine⟨by simp[c],λv p=>?_⟩;rw[c]at p;cases p;exact hc
             rw[if_pos t,c];simp only;rw[if_pos hc]
             cases l:jJ (fG P d) P fs (o+ms.length) with
             |none=>rw[l]at h;cases h
             |some x=>rw[l]at h;rw[r _ _ l];exact h
            .cases h
           .cases h
        exact key _ _ _ h) (by rw[a.1,m];simp) (λg hg=>a.2 g (by simpa using hg))
      simpa using this
    |array n e=>
     simp only at h;split at h
     .rename_i ms c
      split at h
      .rename_i hc
       simp only[Option.some.injEq]at h;subst h;simp only[gJ,hu]at a;have:=AZ (ls:=ms) (cs:=cs) (n:=n) (i:=0) (λj _ y=>by
        have:=a.2 j I;rw[hc]at this;exact rV d c hc this) (by rw[a.1,m,AS];simp)
       simpa using this
      .cases h
     .cases h
    |_=>cases h
theorem EZ{P:Program}{w:J}{T:TypeId}{d:TypeDesc}{ls:O cS}{v:aa}(h:j_ P w T v)(b:P.underlying T=some d)(c:gO d=true)(hf:fG P 8 T=some ls)(a:P.cellsOf T=ls.length):
 ∃cs:O aa,v=.agg cs.toArray/\h9 ls cs:=by
 unfold j_ at h;rw[b]at h
 cases d<;>simp only[gO,fU]at c<;>simp only at h
 .obtain⟨cs,rfl,fuel,h⟩:=h
  exact⟨cs.toList,by simp,rV 8 hf a h⟩
 .obtain⟨cs,rfl,fuel,h⟩:=h
  exact⟨cs.toList,by simp,rV 8 hf a h⟩
theorem A0:∀ {n:Nat}{cs:O aa},h9 (List.replicate n (.int .u8)) cs->∃l:O UInt8,l.length=n/\cs=l.map λb=>Value.int .u8 ((b.toNat:Nat):Int)
 |0,cs,h=>⟨[],rfl,h⟩
 |n+1,cs,h=>by
  obtain⟨v,us,rfl,⟨z,rfl,h0,h1⟩,h2⟩:=h
  obtain⟨l,a,rfl⟩:=A0 h2
  obtain⟨h0,h1⟩:=AK h0 h1
  refine⟨UInt8.ofNat z.toNat::l,by simp[a],?_⟩
  simp only[g9,List.cons.injEq,Value.int.injEq,true_and,and_true]
  have e:(UInt8.ofNat z.toNat).toNat=z.toNat:=by simp;omega
  omega
end aQ
namespace aQ
open Go Go.RowKit
section
variable {α:Type}{P:Program}{w:J}{hC lG T:TypeId}{enc:α->aa}
def en(enc:α->aa)(x:α×aa×Nat):MapEntry:=⟨enc x.1,x.2.1,x.2.2⟩
def mj(x:α×aa×Nat):α×aa:=(x.1,x.2.1)
def ml[DecidableEq α](k:α):O (α×aa×Nat)->Nat->av (Nat×aa)
 | [],_=>none
 |x::L,i=>if k=x.1 then some (i,x.2.1) else ml k L (i+1)
theorem A1{β:Type}(f:β->β)(x:β)(bB:O β):∀bd:O β,(bd++x::bB).modify bd.length f=bd++f x::bB
 | []=>rfl
 |y::bd=>by
  show y::((bd++x::bB).modify bd.length f)=_
  rw[A1 f x bB bd];rfl
structure m9[DecidableEq α](P:Program)(hC:TypeId)(enc:α->aa):Prop where
 find:∀ (L:O (α×aa×Nat)) (k:α) (w:J),(Instr.findKey hC (enc k) (L.map (en enc))).run P w=.ok (ml k L 0) w
 check:∀ (b:al) (k:α) (w:J),(Instr.checkKey b 10000 hC (enc k)).run P w=.ok () w
 bits:∀k,Instr.sameBits 10000 (enc k) (enc k)=true
theorem xx[DecidableEq α]{k:α}:∀ {L:O (α×aa×Nat)}{i:Nat},(∀x∈L,x.1≠k)->ml k L i=none
 | [],_,_=>rfl
 |x::L,i,h=>by
  rw[ml,if_neg (λe=>h x (by simp) e.symm)]
  exact xx λy a=>h y (by simp[a])
theorem xy[DecidableEq α]{k:α}{v:aa}{n:Nat}{bB:O (α×aa×Nat)}:∀ {bd:O (α×aa×Nat)}{i:Nat},(∀x∈bd,x.1≠k)->ml k (bd++(k,v,n)::bB) i=some (i+bd.length,v)
 | [],i,_=>by simp[ml]
 |x::L,i,h=>by
  rw[l2,ml,if_neg (λe=>h x (by simp) e.symm),xy λy a=>h y (by simp[a])]
  simp;omega
theorem m9.int{k:IntKind}(hu:P.underlying hC=some (.int k)):m9 P hC (λn:Int=>Value.int k n) where
 find L n w:=by
  have h:∀ (L:O (Int×aa×Nat)) (i:Nat),Instr.findNow (.int k) (.int k n) (L.map (en λn:Int=>Value.int k n)) i=some (ml n L i):=by
   intro L
   induction L with
   |nil=>intro i;rfl
   |cons x L a=>
    intro i;simp only[g9,Instr.findNow,en,Instr.sameNow,if_true,ml];by_cases hx:n=x.1
    .subst hx;simp
    .rw[if_neg hx,show(n==x.1)=false by simpa using hx]
     exact a (i+1)
  simp[Instr.findKey,c2 hu,h]
 check b n w:=by
  show(Instr.checkKey b (9999+1) hC (.int k n)).run P w=_;unfold Instr.checkKey;simp only[Sem.run_bind,c2 hu,Result.andThen];rfl
 bits n:=by
  show(k==k&&n==n)=true;simp
def eF(w:J)(r:Nat)(enc:α->aa)(M:O (α×aa)):Prop:=
 ∃ (L:O (α×aa×Nat)) (a:Nat),w.heap[r]? =some (.map (L.map (en enc)).toArray a)/\(L.map mj).Perm M/\(L.map (·.1)).Nodup/\(L.map (·.2.2)).Nodup/\∀x∈L,x.2.2<a
def E0(w:J)(r:Nat)(enc:α->aa)(M:O (α×aa))(k:α)(v:aa)(st:Int):Prop:=
 ∃ (bd bB:O (α×aa×Nat)) (n a:Nat),w.heap[r]? =some (.map ((bd++(k,v,n)::bB).map (en enc)).toArray a)/\((bd++bB).map mj).Perm M/\((bd++(k,v,n)::bB).map (·.1)).Nodup/\((bd++(k,v,n)::bB).map (·.2.2)).Nodup/\(∀x∈bd++(k,v,n)::bB,x.2.2<a)/\st=(n:Int)
variable {r:Nat}{M hD:O (α×aa)}{k:α}{v:aa}{st:Int}{w':J}
theorem eF.lt(h:eF w r enc M):r<w.heap.size:=by
 obtain⟨L,a,h,_⟩:=h;exact(lz.1 h).1
theorem eF.ah{W:Nat->Prop}(h:eF w r enc M)(hc:af W w w')(a:¬W r):eF w' r enc M:=by
 have b:=h.lt;obtain⟨L,c,h,d⟩:=h;exact⟨L,c,by rw[hc.block r b a];exact h,d⟩
theorem eF.ext(h:eF w r enc M)(hc:Ext w w'):eF w' r enc M:=h.ah hc id
theorem eF.perm(h:eF w r enc M)(a:M.Perm hD):eF w r enc hD:=by
 obtain⟨L,b,h,h1,c⟩:=h;exact⟨L,b,h,h1.trans a,c⟩
theorem eF.split(h:eF w r enc ((k,v)::M)):∃n,E0 w r enc M k v (n:Nat):=by
 obtain⟨L,b,h,h1,h2,c,d⟩:=h;have e:(k,v)∈L.map mj:=h1.mem_iff.2 (by simp);obtain⟨x,hx,a⟩:=fF.1 e;obtain⟨bd,bB,rfl⟩:=List.append_of_mem hx;obtain⟨f,g,n⟩:=x;simp only[mj,Prod.mk.injEq]at a;obtain⟨rfl,rfl⟩:=a;refine⟨n,bd,bB,n,b,h,?_,h2,c,d,rfl⟩;rw[fL,g9]at h1;have:=(mU.symm.trans h1);rw[fL];exact this.cons_inv
theorem eF.keys(h:eF w r enc M):(M.map (·.1)).Nodup:=by
 obtain⟨L,a,h,h1,h2,b,c⟩:=h;have:=h1.map (·.1);rw[nQ]at this;exact this.nodup_iff.1 h2
theorem eF.E1(a:(k,v)∈M):∃hD,M.Perm ((k,v)::hD):=by
 obtain⟨A,B,rfl⟩:=List.append_of_mem a;exact⟨A++B,mU⟩
def ix(w:J)(r:Nat)(o:Obj):J:={w with heap:=w.heap.setIfInBounds r o}
theorem rW(w:J)(r:Nat)(o:Obj):af (λq=>q=r) w (ix w r o):=
 ⟨rfl,rfl,rfl,by simp[ix],λk _ a=>by
  have:¬r=k:=λe=>a e.symm
  simp[ix,this]⟩
theorem tQ(w:J)(r:Nat)(o:Obj):(ix w r o).heap.size=w.heap.size:=by simp[ix]
theorem tR{w:J}{r:Nat}(h:r<w.heap.size)(o:Obj):(ix w r o).heap[r]? =some o:=by simp[ix,h]
theorem mm{es:Array MapEntry}{a:Nat}(h:w.heap[r]? =some (.map es a)):(getObj r).run P w=.ok (.map es a) w:=by simp[getObj,Sem.run,h]
theorem xz{es:Array MapEntry}{a:Nat}(h:w.heap[r]? =some (.map es a))(o:Obj):(setObj r o).run P w=.ok () (ix w r o):=by simp[setObj,Sem.run,h,ix]
theorem A2{bd bB:O (α×aa×Nat)}{x:α×aa×Nat}(h:((bd++x::bB).map (·.1)).Nodup):∀y∈bd,y.1≠x.1:=by
 intro y a e;rw[fL,g9,s_]at h;exact h.2.2 _ (List.mem_map_of_mem a) _ (pD ..) e
theorem A3{L:O (α×aa×Nat)}(h1:(L.map mj).Perm M)(a:∀v,(k,v)∉M):∀x∈L,x.1≠k:=by
 intro x hx e;refine a x.2.1 (h1.mem_iff.1 (fF.2 ⟨x,hx,?_⟩));simp[mj,e]
theorem eF.make(T:TypeId)(w:J):(Instr.makeMap T none).run P w=.ok (.map (some w.heap.size)) (w.alloc (.map #[] 0))/\eF (w.alloc (.map #[] 0)) w.heap.size enc ([]:O (α×aa)):=by
 refine⟨by simp[Instr.makeMap],[],0,?_,by simp,by simp,by simp,by simp⟩;show(w.heap.push (.map #[] 0))[w.heap.size]? =_;simp
theorem eF.A4[DecidableEq α](a:m9 P hC enc)(b:P.underlying T=some (.map hC lG))(h:eF w r enc M)(c:(k,v)∈M)(ok:al):
 (Instr.lookup T (.map (some r)) (enc k) ok).run P w=.ok (if ok then .tuple #[v,.bool true] else v) w:=by
 obtain⟨hD,d⟩:=eF.E1 c;obtain⟨n,bd,bB,e,f,h,h1,h2,g,i,_⟩:=(h.perm d).split;have hf:=a.find (bd++(k,v,e)::bB) k w;rw[xy (A2 h2)]at hf;simp only[Instr.lookup,Sem.run_bind,c2 b,Result.andThen,mm h,Sem.run_pure,a.check,hf]
theorem eF.A5[DecidableEq α](a:m9 P hC enc)(b:P.underlying T=some (.map hC lG)){i:TypeInfo}{z:aa}(hi:P.info? lG=some i)(c:i.zero=some z)(h:eF w r enc M)(d:∀v,(k,v)∉M)(ok:al):
 (Instr.lookup T (.map (some r)) (enc k) ok).run P w=.ok (if ok then .tuple #[z,.bool false] else z) w:=by
 obtain⟨L,e,h,h1,h2,f,g⟩:=h;have hf:=a.find L k w;rw[xx (A3 h1 d)]at hf;simp only[Instr.lookup,Sem.run_bind,c2 b,Result.andThen,mm h,Sem.run_pure,a.check,hf,zeroValue,mZ hi,c]
end
end aQ
namespace aQ
open Go Go.RowKit
theorem A6(c:Array aa):∀ (vs:O aa) (i:Nat) (c:Array aa),(gl c i vs).toList.drop (i+vs.length)=c.toList.drop (i+vs.length)
 | [],_,_=>rfl
 |v::vs,i,c=>by
  simp only[gl,f_]
  rw[show i+(vs.length+1)=i+1+vs.length from I,A6 c vs (i+1) (c.setIfInBounds i v)]
  rw[Array.toList_setIfInBounds,List.drop_set]
  rw[if_pos I]
theorem k8(vs:O aa)(c:Array aa)(i:Nat)(h:i+vs.length<=c.size):(gl c i vs).toList=c.toList.take i++vs++c.toList.drop (i+vs.length):=by
 rw[←fK (i+vs.length) (gl c i vs).toList,rQ vs c i h,A6 c]
section
variable {P:Program}{w:J}
theorem tS{mn cH ty e:TypeId}{d:TypeDesc}{sz:Nat}(hd:P.underlying mn=some (.slice e))(he:P.underlying e=some d)(g:P.cellsOf e=sz){A:ag}{dl ot n:Nat}{x:ad}(h:Nat.min x.len dl=n){xs:O aa}(hx:Src sz w ⟨x.a,n,x.cap⟩ xs)(b:bD w A xs):
 Sem.run P (Builtin.copy_ #[mn,cH] ty #[.slice (some A) dl ot,.slice x.a x.len x.cap]) w=.ok (.int .i64 ((n:Nat):Int)) (setCells w A 0 xs):=by
 have f:=g_ (w:=w) he;rw[g]at f;have hf:Sem.run P (Builtin.firstCells sz n (.slice x.a x.len x.cap)) w=.ok xs.toArray w:=by
  obtain⟨a,l,c⟩:=x
  cases a<;>exact p1 (P:=P) hx
 have i:=pN (P:=P) (A:=A) xs 0 w (by simpa using b.1) b.2;simp only[Builtin.copy_,ri,mO,List.getElem?_cons_succ,Sem.run_bind,c2 hd,Result.andThen,Builtin.lenOf,Sem.run_pure,h,f,hf,i];rfl
set_option maxRecDepth 4000 in
theorem E2 {gj:Array TypeId}{cD cH kc e:TypeId}{i:TypeInfo}{k:IntKind}{z:aa}{sz n:Nat}{s:ad}{c:O aa} (h0:gj[0]? =some cH) (h1:gj[1]? =some kc)
 (hs:P.underlying cH=some (.slice e)) (hx:P.underlying kc=some (.int k)) (hi:P.info? e=some i) (hd:(P.underlying e).isSome=true) (h:i.zero=some z) (j:z.cells.size=sz) (p:P.cellsOf e=sz)
 (r:i.bytes≠0) (hold:Src sz w s c) (t:s.cap<s.len+n) (l:(2*(s.len+n)+1000)*i.bytes<=281474976710656):
 ∃ (b:Nat) (zs rest:O aa),s.len+n<=b/\b<=maxLen/\zs.length=n*sz/\rest.length=(b-(s.len+n))*sz/\
  Sem.run P (Builtin.append_ gj cD #[.slice s.a s.len s.cap,.int .i64 ((n:Nat):Int)]) w=
   .ok (.slice (some ⟨w.heap.size,0,none⟩) (s.len+n) b) (w.drew.alloc (.cells (c++zs++rest).toArray e)):=by
 obtain⟨d,hd⟩:=j9 _ hd;have m:=g_ (w:=w) hd;rw[p]at m;have u:=AM t;have S:Builtin.nextslicecap (s.len+n) s.cap*i.bytes<=281474976710656:=eE (mS _ u) l;have T:s.len+n<=281474976710656:=by
  have:s.len+n<=(2*(s.len+n)+1000)*i.bytes:=by
   have:=Nat.mul_le_mul_left (2*(s.len+n)+1000) (Nat.one_le_iff_ne_zero.2 r);omega
  omega
 have v:n*i.bytes<=281474976710656:=eE (mS _ (by omega:n<=2*(s.len+n)+1000)) l
 let q:Question:=.appendCap (s.len+n) s.cap e
 let b:Nat:=q.cut (w.tape w.drawn q)
 have x:q.forced=false:=rfl;have A:s.len+n<=b:=by show s.len+n<=s.len+n+_;omega
 have B:b<=maxLen:=by
  show s.len+n+_%(2^63-(s.len+n))<=2^63-1;have:=g8 (w.tape w.drawn q) (y:=2^63-(s.len+n)) I;omega
 have C:Src sz w.drew s c:=hold.ext (af.drew (.refl _ _));have D:=p1 (P:=P) C;have E:∀n (w':J),(askRoom n).run P w'=.ok () w':=λn w'=>by unfold askRoom;split<;>rfl
 have F:(choose q).run P w=.ok b w.drew:=by
  show Sem.run P (.choose q .pure) w=_;simp only[Sem.run,x,fU,if_false];rfl
 have f:=λw:J=>mZ (w:=w) hi;refine⟨b,if n*sz=0 then [] else (Builtin.zeroCells z.cells n).toList,(Builtin.zeroCells z.cells (b-(s.len+n))).toList,A,B,?_,by simp[Builtin.zeroCells,j],?_⟩
 .split
  .rename_i h0;simp[h0]
  .simp[Builtin.zeroCells,j]
 have G:IntKind.i64.wrap ((n:Nat):Int)=(n:Int):=br I I;have H:¬((n:Int)<0):=by omega
 have K:¬((n:Int)*(i.bytes:Int)>2^48):=by
  have:((n*i.bytes:Nat):Int)<=((281474976710656:Nat):Int):=Int.ofNat_le.2 v;rw[Int.natCast_mul]at this;have L:(2:Int)^48=((281474976710656:Nat):Int):=by decide+kernel
  rw[L];omega
 have M:¬(s.len+n<=s.cap):=by omega
 have N:¬((s.len+n:Nat):Int)>IntKind.i64.max:=by
  simp[IntKind.max,IntKind.signed,IntKind.bits];omega
 have Q:¬Builtin.nextslicecap (s.len+n) s.cap*i.bytes>2^48:=by
  have:(2:Nat)^48=281474976710656:=by decide+kernel
  omega
 have R:Sem.run P (choose (.appendCap (s.len+n) s.cap e)) w=.ok b w.drew:=F;unfold Builtin.append_;simp only[ri,mO,List.getElem?_cons_succ,h0,h1,Sem.run_bind,c2 hs,c2 hx,Result.andThen,m,Sem.run_pure,asInt,asIntOf,G,H,if_false,f,K,di,M,N,false_and,Q,if_true,Bool.not_true,fU,R,E,D];by_cases o:n*sz=0
 .simp only[o,if_true,Sem.run_pure,zeroValue,f,h,Sem.run_bind,Result.andThen,newRow,newObj,Sem.run]
  have g:w.drew.heap.size=w.heap.size:=rfl;rw[g]
  congr 1
  show w.drew.alloc _=w.drew.alloc _
  congr 2
  simp
 .simp only[o,if_false,Sem.run_pure,zeroValue,f,h,Sem.run_bind,Result.andThen,newRow,newObj,Sem.run]
  have g:w.drew.heap.size=w.heap.size:=rfl;rw[g]
  congr 1
  show w.drew.alloc _=w.drew.alloc _
  congr 2
  simp
theorem E3{T o e:TypeId}{i:TypeInfo}{z:aa}{sz n c:Nat}{A:ag}(a:P.underlying T=some (.slice e))(hi:P.info? e=some i)(b:i.zero=some z)(d:z.cells.size=sz)(f:n≠0)
 (g:∀zs:O aa,zs=(Builtin.zeroCells z.cells n).toList->bD w A zs):
 ∃zs:O aa,zs.length=n*sz/\Sem.run P (Builtin.clear_ #[T] o #[.slice (some A) n c]) w=.ok (.tuple #[]) (setCells w A 0 zs):=by
 refine⟨(Builtin.zeroCells z.cells n).toList,by simp[Builtin.zeroCells,d],?_⟩;have hs:=g _ rfl;have h:=pN (P:=P) (A:=A) _ 0 w (by simpa using hs.1) hs.2
 cases n with
 |zero=>exact absurd rfl f
 |succ n=>
  simp only[Builtin.clear_,ri,mO,Sem.run_bind,c2 a,Result.andThen,zeroValue,mZ hi,b,Sem.run_pure,h]
end
theorem xA(a:av ag)(z c:Nat):aY a z 0 c=a:=by
 unfold aY;split
 .rfl
 .cases a with
  |none=>rfl
  |some A=>simp[add_zero']
theorem bp.rX{sz:Nat}{w:J}{b:Nat}{c:Array aa}{T:TypeId}(h:bp w b c T){o n cap:Nat}(d:o+n*sz<=c.size):Src sz w ⟨some ⟨b,o,none⟩,n,cap⟩ ((c.toList.drop o).take (n*sz)):=by
 refine⟨by simp;omega,(λh=>by cases h),λa e=>?_⟩
 cases e;have:=p0 h (n*sz) o 0 (by simpa using d);simpa using this
theorem bp.k9{w:J}{b o:Nat}{c:Array aa}{T:TypeId}(h:bp w b c T)(vs:O aa):bp (setCells w ⟨b,o,none⟩ 0 vs) b (gl c o vs) T:=by
 simpa using bp.rN vs o 0 h
theorem aV.mk'{sz:Nat}{T:TypeId}{w:J}{b n cap:Nat}{c:Array aa}{vs:O aa}(a:bp w b c T)(d:vs.length=n*sz)(e:n<=cap)(hc:cap<=maxLen)(hs:c.size=cap*sz)(f:c.toList.take (n*sz)=vs):aV sz T w ⟨some ⟨b,0,Option.none⟩,n,cap⟩ vs:=
 ⟨d,e,hc,.inr ⟨b,c,rfl,a,hs,f⟩⟩
theorem A7(A:ag)(a b:Nat):(A.add a).add b=A.add (a+b):=by
 unfold Addr.add;by_cases c:a=0
 .subst c;simp
 .by_cases d:b=0
  .subst d;simp
  .simp[c,d,Nat.add_assoc]
theorem tT{w:J}{A:ag}:∀ {n i:Nat}{vs:O aa}{j:Nat}{v:aa},bn w A i n=some vs->vs[j]? =some v->w.cell? (A.add (i+j))=some v
 |0,_,vs,j,v,h,a=>by simp[bn]at h;subst h;simp at a
 |n+1,i,vs,j,v,h,a=>by
  simp only[bn]at h
  cases h1:w.cell? (A.add i) with
  |none=>simp[h1]at h
  |some u=>
   cases h2:bn w A (i+1) n with
   |none=>simp[h1,h2]at h
   |some us=>
    simp only[h1,h2,Option.some.injEq]at h
    subst h
    cases j with
    |zero=>simp at a;subst a;exact h1
    |succ j=>
     have:=tT h2 (j:=j) (v:=v) (by simpa using a)
     rwa[show i+(j+1)=i+1+j from I]
theorem xB{w:J}{A:ag}:∀ (n i:Nat) (vs:O aa),vs.length=n->(∀j v,vs[j]? =some v->w.cell? (A.add (i+j))=some v)->bn w A i n=some vs
 |0,i,vs,a,_=>by
  cases vs with
  |nil=>simp[bn]
  |cons _ _=>simp at a
 |n+1,i,vs,a,h=>by
  cases vs with
  |nil=>simp at a
  |cons v vs=>
   simp only[bn]
   rw[show w.cell? (A.add i)=some v from h 0 v rfl,xB n (i+1) vs (by simpa using a) (λj x hx=>by have:=h (j+1) x (by simpa using hx);rwa[show i+(j+1)=i+1+j from I]at this)]
theorem xC{w:J}{A:ag}{n k m:Nat}{vs:O aa}(h:bn w A 0 n=some vs)(b:k+m<=n):bn w (A.add k) 0 m=some ((vs.drop k).take m):=by
 have c:=rP h;refine xB m 0 _ (by simp;omega) λj v a=>?_;rw[A7,show k+(0+j)=0+(k+j) from I];refine tT h ?_;rw[s9]at a;split at a
 .rwa[s6]at a
 .cases a
theorem E4{a b:Nat}(h:a+b<=4000000):IntKind.wrap .i64 (Int.fdiv (IntKind.wrap .u64 (IntKind.wrap .i64 ((a:Int)+(b:Int)))) (2^(min (Int.toNat 1) 64)))=(((a+b)/2:Nat):Int):=by
 rw[br (n:=(a:Int)+b) I I,gz I I];have e:(2:Int)^(min (Int.toNat 1) 64)=2:=rfl;rw[e,Int.fdiv_eq_ediv_of_nonneg _ I,br I I];omega
section
variable {w:J}
end
theorem E5{w:J}{A:ag}{n m i:Nat}{xs ys:O aa}(h1:bn w A i n=some xs)(h2:bn w (A.add (i+n)) 0 m=some ys):bn w A i (n+m)=some (xs++ys):=by
 have b:=rP h1;have c:=rP h2;refine xB (n+m) i _ (by rw[ct,b,c]) λj v a=>?_;rw[List.getElem?_append]at a;split at a
 .exact tT h1 a
 .rename_i d
  have:=tT h2 a;rw[A7]at this;rwa[show i+n+(0+(j-xs.length))=i+j from I]at this
theorem p2.src{P:Program}{w:J}{e:TypeId}{s:ad}{α:Type}{c:α->O aa}{sz:Nat}(h:p2 P w e s)(k:P.cellsOf e=sz)(R:α->Prop)(m:∀fuel vs,gJ P w fuel e vs->∃x:α,vs=c x/\R x):
 ∃l:O α,Src sz w s (l.map c).flatten/\l.length=s.len/\∀x∈l,R x:=by
 have i:=h.cell;rw[k]at i;have key:∀a,s.a=some a->∀n,n<=s.len->∃l:O α,bn w a 0 (n*sz)=some (l.map c).flatten/\l.length=n/\∀x∈l,R x:=by
  intro a d n
  induction n with
  |zero=>intro _;exact⟨[],by simp[bn],rfl,λr f=>by cases f⟩
  |succ n o=>
   intro u;obtain⟨l,h1,g,h2⟩:=o I;obtain⟨vs,p,fuel,q⟩:=i a d n (by have:=h.le;omega);obtain⟨r,rfl,t⟩:=m fuel vs q;refine⟨l++ [r],?_,by simp[g],λx hx=>?_⟩
   .rw[Nat.succ_mul,E5 h1 (by rw[cT];exact p)]
    simp
   .rcases cO.1 hx with hx|hx
    .exact h2 x hx
    .rw[fg.1 hx];exact t
 cases b:s.a with
 |none=>
  have h0:s.len=0:=by have:=h.nil b;have:=h.le;omega
  exact⟨[],⟨by simp[h0],λ_=>rfl,λa d=>(by rw[b]at d;cases d)⟩,h0.symm,λr f=>by cases f⟩
 |some a=>
  obtain⟨l,h1,g,h2⟩:=key a b s.len (bl _);exact⟨l,⟨rP h1,λe=>(by rw[b]at e;cases e),λv j=>by rw[b]at j;cases j;exact h1⟩,g,h2⟩
end aQ
