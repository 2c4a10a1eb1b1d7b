/- What a Go program of the model must show, as text that can be read; sound against the kit. -/
import Derived.Carry
import Derived.ChangeArms
import Derived.ChangeVars
import Derived.Defers
import Derived.LaidLaws
import Derived.Laws.StructEq
import Derived.Lib.Overlaps
import Derived.MakeChecks
import Derived.WideKeyRuns
import Derived.Test.YtcmgnhkpfllinaaGreatKSSteps1
namespace aQ
open Go Go.RowKit
def jI(fT:TypeId->av (O cU))(P:Program):O Field->Nat->av (O cU)
 | [],_=>some []
 |f::fs,o=>if f.name= "_" \/f.offset≠o then none else
  match fT f.type with
  |some ls=>if P.cellsOf f.type=ls.length then (jI fT P fs (o+ls.length)).map (ls++ ·) else none
  |none=>none
def nd(ls:O cU):Nat->O cU
 |0=> []
 |n+1=>ls++nd ls n
def fT(P:Program):Nat->TypeId->av (O cU)
 |0,_=>none
 |d+1,T=>match P.underlying T with
  |some (.int k)=>some [.int k]
  |some .bool=>some [.bool]
  |some .string=>some [.str]
  |some (.struct fs)=>if P.stoodInHeld T then none else jI (fT P d) P fs.toList 0
  |some (.array n e)=>match fT P d e with
   |some ls=>if P.cellsOf e=ls.length then some (nd ls n) else none
   |none=>none
  |_=>none
def tN:cU->aa->Prop
 | .int k,v=>∃n:Int,v=.int k n
 | .bool,v=>∃b:al,v=.bool b
 | .str,v=>∃s:ByteArray,v=.string s
 |_,_=>False
def e7:O cU->O aa->Prop
 | [],vs=>vs=[]
 |l::ls,vs=>∃v us,vs=v::us/\tN l v/\e7 ls us
theorem rV:∀ {ls:O cU}{vs:O aa},e7 ls vs->vs.length=ls.length
 | [],_,h=>by cases h;rfl
 |_::_,_,h=>by
  obtain⟨v,us,rfl,_,h⟩:=h
  simp[rV h]
theorem rW:∀ {ls ms:O cU}{vs:O aa},e7 (ls++ms) vs->e7 ls (vs.take ls.length)/\e7 ms (vs.drop ls.length)
 | [],_,_,h=>⟨rfl,h⟩
 |l::ls,ms,vs,h=>by
  obtain⟨v,us,rfl,h1,h2⟩:=h
  obtain⟨a,b⟩:=rW h2
  exact⟨⟨v,_,rfl,h1,a⟩,b⟩
theorem AR:∀ {ls ms:O cU}{vs us:O aa},e7 ls vs->e7 ms us->e7 (ls++ms) (vs++us)
 | [],_,_,_,h,h2=>by cases h;exact h2
 |l::ls,ms,vs,us,h,h2=>by
  obtain⟨v,vs,rfl,h1,h⟩:=h
  exact⟨v,_,rfl,h1,AR h h2⟩
def nf:aa->aa->al
 | .int _ a,.int _ b=>a==b
 | .bool a,.bool b=>a==b
 | .string a,.string b=>a.toList==b.toList
 |_,_=>false
def fE:O aa->O aa->al
 | [],_=>true
 |a::as,b::c=>nf a b&&fE as c
 |_::_,[]=>false
theorem EX{l:cU}{a b:aa}(c:tN l a)(d:tN l b):nf a b=true↔a=b:=by
 cases l<;>simp only[tN]at c d<;>try exact c.elim
 .obtain⟨n,rfl⟩:=c;obtain⟨m,rfl⟩:=d;simp[nf]
 .obtain⟨n,rfl⟩:=c;obtain⟨m,rfl⟩:=d;simp[nf]
 .obtain⟨n,rfl⟩:=c;obtain⟨m,rfl⟩:=d
  simp only[nf,j4,Value.string.injEq];rw[ByteArray.toList_eq,ByteArray.toList_eq];obtain⟨⟨x⟩⟩:=n;obtain⟨⟨y⟩⟩:=m;simp
theorem xx:∀ {ls:O cU}{as c:O aa},e7 ls as->e7 ls c->(fE as c=true↔as=c)
 | [],_,_,h1,h2=>by cases h1;cases h2;simp[fE]
 |l::ls,_,_,h1,h2=>by
  obtain⟨a,as,rfl,d,e⟩:=h1
  obtain⟨b,c,rfl,f,g⟩:=h2
  simp[fE,EX d f,xx e g]
theorem xy:∀ {as c cs ds:O aa},as.length=c.length->fE (as++cs) (c++ds)=(fE as c&&fE cs ds)
 | [],[],_,_,_=>by simp[fE]
 |a::as,b::c,cs,ds,h=>by
  simp only[l8,fE]
  rw[xy (by simpa using h),Bool.and_assoc]
 | [],_::_,_,_,h=>by simp at h
 |_::_,[],_,_,h=>by simp at h
def k_(P:Program)(T:TypeId)(cs:O aa):aa:=
 match P.underlying T with
 |some d=>if hC d then .agg cs.toArray else cs.headD undef
 |none=>undef
section
variable {P:Program}
theorem oz{T:TypeId}{d:TypeDesc}{cs:O aa}(h:P.underlying T=some d)(a:hC d=true):k_ P T cs=.agg cs.toArray:=by
 simp[k_,h,a]
theorem oA{T:TypeId}{d:TypeDesc}{v:aa}(h:P.underlying T=some d)(a:hC d=false):k_ P T [v]=v:=by
 simp[k_,h,a]
theorem tO{T:TypeId}{cs us:O aa}{off:Nat}{d:TypeDesc}(a:P.underlying T=some d)(b:P.cellsOf T=us.length)(c:hC d=false->us.length=1)
 (h:(cs.drop off).take us.length=us) (w:J):(part T cs.toArray off).run P w=.ok (k_ P T us) w:=by
 cases hd:hC d with
 |true=>
  rw[oz a hd];have e:cs.toArray.extract off (off+us.length)=us.toArray:=by
   simp[h]
  simp[part,pQ a,hd,hD a,b,h]
 |false=>
  obtain⟨v,rfl⟩:=List.length_eq_one_iff.1 (c hd);rw[oA a hd];have f:cs[off]? =some v:=by
   have:((cs.drop off).take 1)[0]? =some v:=by
    have g:List.take 1 (List.drop off cs)=[v]:=h;rw[g];rfl
   rw[List.getElem?_take_of_lt I,s5]at this;simpa using this
  simp[part,pQ a,hd,f]
theorem flat_agg{d:Nat}{T:TypeId}{ls:O cU}(h:fT P d T=some ls):∃u,P.underlying T=some u/\(hC u=false->ls.length=1):=by
 cases d with
 |zero=>cases h
 |succ d=>
  simp only[fT]at h
  cases hu:P.underlying T with
  |none=>simp[hu]at h
  |some u=>
   refine⟨u,rfl,λa=>?_⟩;rw[hu]at h
   cases u<;>simp only[hC,reduceCtorEq]at a h<;>first|(cases h;rfl)|cases h
theorem AS{d D:Nat}(i:∀ {T:TypeId}{ls:O cU}{xs ys:O aa},fT P d T=some ls->e7 ls xs->e7 ls ys->∀w,(Op.equalIn (D+d) T (k_ P T xs) (k_ P T ys)).run P w=.ok (fE xs ys) w)
 {xs ys:O aa}:∀ {fs:O Field}{o:Nat}{ls:O cU},jI (fT P d) P fs o=some ls->e7 ls (xs.drop o)->e7 ls (ys.drop o)->
  ∀w,(Op.eqFields (D+d) xs.toArray ys.toArray fs).run P w=.ok (fE (xs.drop o) (ys.drop o)) w
 | [],o,ls,h,hx,j,w=>by
  simp only[jI,Option.some.injEq]at h
  subst h
  have hx:xs.drop o=[]:=hx
  rw[hx]
  rfl
 |f::fs,o,ls,h,hx,j,w=>by
  simp only[jI]at h
  split at h
  .cases h
  .rename_i hf
   have s:¬f.name= "_" :=λe=>hf (.inl e)
   have t:f.offset=o:=by
    by_cases e:f.offset=o
    .exact e
    .exact absurd (.inr e) hf
   subst t;split at h
   .rename_i ms k
    split at h
    .rename_i hc
     cases c:jI (fT P d) P fs (f.offset+ms.length) with
     |none=>simp[c]at h
     |some x=>
      simp only[c,l_,Option.some.injEq]at h;subst h;obtain⟨l,m⟩:=rW hx;obtain⟨n,p⟩:=rW j;rw[kZ]at m p;obtain⟨u,hu,q⟩:=flat_agg k;have a:=rV l;have b:=rV n;have bl:=tO (cs:=xs) (off:=f.offset) (us:=(xs.drop f.offset).take ms.length) hu (by rw[hc,a]) (λg=>by rw[a];exact q g) (by rw[a]);have bf:=tO (cs:=ys) (off:=f.offset) (us:=(ys.drop f.offset).take ms.length) hu (by rw[hc,b]) (λg=>by rw[b];exact q g) (by rw[b]);have e:=λw=>i k l n w;have r:=AS i (fs:=fs) c m p;have v:fE (xs.drop f.offset) (ys.drop f.offset)=(fE ((xs.drop f.offset).take ms.length) ((ys.drop f.offset).take ms.length)&&fE (xs.drop (f.offset+ms.length)) (ys.drop (f.offset+ms.length))):=by
       rw[←xy (by rw[a,b])];simp only[←kZ,fK]
      simp only[Op.eqFields,ne_eq,s,not_false_eq_true,if_true,Sem.run_bind,bl,bf,e,Result.andThen];rw[v]
      cases fE ((xs.drop f.offset).take ms.length) ((ys.drop f.offset).take ms.length)
      .simp
      .simpa using r w
    .cases h
   .cases h
theorem AT(ls:O cU):∀n,(nd ls n).length=n*ls.length
 |0=>by simp[nd]
 |n+1=>by simp[nd,AT ls n,jf,Nat.add_comm]
theorem AU{d D:Nat}(j:∀ {T:TypeId}{ls:O cU}{xs ys:O aa},fT P d T=some ls->e7 ls xs->e7 ls ys->∀w,(Op.equalIn (D+d) T (k_ P T xs) (k_ P T ys)).run P w=.ok (fE xs ys) w)
 {e:TypeId}{ls:O cU}{u:TypeDesc} (hu:P.underlying e=some u) (g:hC u=false->ls.length=1) (k:fT P d e=some ls) (hc:P.cellsOf e=ls.length) {xs ys:O aa}:
 ∀ (n i:Nat),e7 (nd ls n) (xs.drop (i*ls.length))->e7 (nd ls n) (ys.drop (i*ls.length))->∀w,
  Sem.run P (do
   let r ←forIn (List.range' i n) ((none:av al),()) λi _=>do
    let a ←part e xs.toArray (i*ls.length)
    let b ←part e ys.toArray (i*ls.length)
    let t ←Op.equalIn (D+d) e a b
    if (!t)=true then pure (ForInStep.done (some false,())) else pure (ForInStep.yield (none,()))
   match r.1 with
   |some b=>pure b
   |none=>pure true) w=.ok (fE (xs.drop (i*ls.length)) (ys.drop (i*ls.length))) w
 |0,i,hx,l,w=>by
  have hx:xs.drop (i*ls.length)=[]:=hx
  rw[hx]
  simp[fE]
 |n+1,i,hx,l,w=>by
  obtain⟨m,o⟩:=rW hx
  obtain⟨p,q⟩:=rW l
  rw[kZ,show i*ls.length+ls.length=(i+1)*ls.length by rw[jf,Nat.one_mul]]at o q
  have c:=rV m
  have f:=rV p
  have bl:=tO (cs:=xs) (off:=i*ls.length) (us:=(xs.drop (i*ls.length)).take ls.length) hu (by rw[hc,c]) (λh=>by rw[c];exact g h) (by rw[c])
  have bf:=tO (cs:=ys) (off:=i*ls.length) (us:=(ys.drop (i*ls.length)).take ls.length) hu (by rw[hc,f]) (λh=>by rw[f];exact g h) (by rw[f])
  have s:=λw=>j k m p w
  have r:=AU j hu g k hc n (i+1) o q w
  have v:fE (xs.drop (i*ls.length)) (ys.drop (i*ls.length))=(fE ((xs.drop (i*ls.length)).take ls.length) ((ys.drop (i*ls.length)).take ls.length)&&fE (xs.drop ((i+1)*ls.length)) (ys.drop ((i+1)*ls.length))):=by
   rw[←xy (by rw[c,f]),show(i+1)*ls.length=i*ls.length+ls.length by rw[jf,Nat.one_mul]];simp only[←kZ,fK]
  rw[v];simp only[List.range'_succ,List.forIn_cons,Sem.run_bind,bl,bf,s,Result.andThen]
  cases fE ((xs.drop (i*ls.length)).take ls.length) ((ys.drop (i*ls.length)).take ls.length)
  .simp
  .simpa[Result.andThen] using r
theorem AV(D:Nat):∀ (d:Nat) {T:TypeId}{ls:O cU}{xs ys:O aa},fT P d T=some ls->e7 ls xs->e7 ls ys->∀w,(Op.equalIn (D+d) T (k_ P T xs) (k_ P T ys)).run P w=.ok (fE xs ys) w
 |0,_,_,_,_,h,_,_,_=>by cases h
 |d+1,T,ls,xs,ys,h,hx,b,w=>by
  have c:= @AV D d
  simp only[fT]at h
  cases hu:P.underlying T with
  |none=>simp[hu]at h
  |some u=>
   rw[hu]at h
   cases u with
   |int k=>
    simp only[Option.some.injEq]at h;subst h
    obtain⟨x,_,rfl,⟨n,rfl⟩,rfl⟩:=hx
    obtain⟨y,_,rfl,⟨m,rfl⟩,rfl⟩:=b
    rw[oA hu rfl,oA hu rfl]
    show(Op.equalIn (D+d+1) T _ _).run P w=_
    simp[Op.equalIn,c3 hu,fE,nf]
   |bool=>
    simp only[Option.some.injEq]at h;subst h
    obtain⟨x,_,rfl,⟨n,rfl⟩,rfl⟩:=hx
    obtain⟨y,_,rfl,⟨m,rfl⟩,rfl⟩:=b
    rw[oA hu rfl,oA hu rfl]
    show(Op.equalIn (D+d+1) T _ _).run P w=_
    simp[Op.equalIn,c3 hu,fE,nf]
   |string=>
    simp only[Option.some.injEq]at h;subst h
    obtain⟨x,_,rfl,⟨n,rfl⟩,rfl⟩:=hx
    obtain⟨y,_,rfl,⟨m,rfl⟩,rfl⟩:=b
    rw[oA hu rfl,oA hu rfl]
    show(Op.equalIn (D+d+1) T _ _).run P w=_
    simp[Op.equalIn,c3 hu,fE,nf,beq_toListBytes]
   |struct fs=>
    simp only at h
    split at h
    .cases h
    .rename_i j
     rw[oz hu rfl,oz hu rfl]
     have f:P.fieldsOf T=fs:=by simp[Program.fieldsOf,hu]
     show(Op.equalIn (D+d+1) T _ _).run P w=_
     rw[run_equalIn_struct w (D+d) T xs.toArray ys.toArray (by rw[f];exact hu) (by simpa using j),f]
     have:=AS (D:=D) c (xs:=xs) (ys:=ys) h (by simpa using hx) (by simpa using b) w
     simpa using this
   |array n e=>
    simp only at h
    split at h
    .rename_i ms g
     split at h
     .rename_i hc
      simp only[Option.some.injEq]at h;subst h
      obtain⟨u,i,l⟩:=flat_agg g
      rw[oz hu rfl,oz hu rfl]
      show(Op.equalIn (D+d+1) T _ _).run P w=_
      have:=AU (D:=D) c i l g hc (xs:=xs) (ys:=ys) n 0 (by simpa using hx) (by simpa using b) w
      rw[pJ,iM,iM]at this
      rw[←this]
      simp only[Op.equalIn,Sem.run_bind,c3 hu,hD i,Result.andThen,hc,Std.Legacy.Range.forIn_eq_forIn_range',Std.Legacy.Range.size]
      simp
      congr 1
      funext a w
      obtain⟨o,_⟩:=a
      cases o<;>rfl
     .cases h
    .cases h
   |_=>cases h
theorem kD.flat{T:TypeId}{d:TypeDesc}{ls:O cU}{xs ys:O aa}(a:P.underlying T=some d)(b:hC d=true)(hf:fT P 8 T=some ls)(hg:P.eqGuardType P.depth T=false)
 (hx:e7 ls xs) (c:e7 ls ys):kD P T xs.toArray ys.toArray (fE xs ys):=by
 refine⟨hg,λw=>?_⟩;have:=AV (P:=P) 9992 8 hf hx c w;rwa[oz a b,oz a b]at this
end
end aQ
namespace aQ
open Go Go.RowKit
theorem tP{n:Int}(h0:0<=n)(h1:n<=255):IntKind.u8.wrap n=n:=by
 simp only[IntKind.wrap,IntKind.signed,IntKind.bits];simp;omega
theorem xz{n:Int}(h0:0<=n)(h1:n<=4294967295):IntKind.u32.wrap n=n:=by
 simp only[IntKind.wrap,IntKind.signed,IntKind.bits];simp;omega
theorem gI{n:Int}(h0:0<=n)(h1:n<=18446744073709551615):IntKind.u64.wrap n=n:=by
 simp only[IntKind.wrap,IntKind.signed,IntKind.bits];simp;omega
theorem EY(n:Int):IntKind.u8.wrap n=n%256:=by
 simp only[IntKind.wrap,IntKind.signed,IntKind.bits];simp
theorem EZ{a b:Int}(h:0<=a):Int.tdiv a b=a/b:=wW h
theorem E0{a b:Int}(h:0<=a):Int.tmod a b=a%b:=nW h
def S(l:O UInt8):ByteArray:=⟨l.toArray⟩
theorem AW(l:O UInt8):(S l).toList=l:=ByteArray.toList_mk l
theorem AX(a b:O UInt8):(ByteArray.toList (S a)==ByteArray.toList (S b))=(a==b):=by rw[AW,AW]
theorem E1(ns:O Int):AP ns=S (ns.map λn=>UInt8.ofNat n.toNat):=by
 have h:∀ (ns:O Int) (r:O UInt8),ns.foldl (λr n=>r.push (UInt8.ofNat n.toNat)) (S r)=S (r++ns.map λn=>UInt8.ofNat n.toNat):=by
  intro ns
  induction ns with
  |nil=>intro r;simp
  |cons n ns a=>
   intro r;have e:(S r).push (UInt8.ofNat n.toNat)=S (r++ [UInt8.ofNat n.toNat]):=by
    apply ByteArray.ext;simp[S,ByteArray.push]
   simp only[List.foldl_cons,e,a,g_,cD,l8,hA]
 exact h ns []
theorem add_add(A:ag)(n m:Nat):(A.add n).add m=A.add (n+m):=by
 unfold Addr.add;by_cases h1:n=0
 .subst h1;simp
 .by_cases h2:m=0
  .subst h2;simp
  .rw[if_neg h1,if_neg h2,if_neg I]
   simp[Nat.add_assoc]
def put(f:Nat->Int)(i:Nat)(v:Int):Nat->Int:=λj=>if j=i then v else f j
section
variable {w w':J}{b m i:Nat}{T:TypeId}{f:Nat->Int}
theorem af.gJ{w0 w:J}{b i:Nat}(h:af (λq=>q=b) w0 w)(v:aa):af (λq=>q=b) w0 (w.setCell ⟨b,i,none⟩ v):=af.set h (λ_=>rfl) v
theorem af.jJ{w0 w:J}{b i:Nat}(h:af (λq=>q=b) w0 w)(vs:O aa)(j:Nat):af (λq=>q=b) w0 (aQ.setCells w ⟨b,i,none⟩ j vs):=af.setCells (W:=λq=>q=b) (A:=⟨b,i,none⟩) (λ_=>rfl) vs j h
end
theorem mq{b o:Nat}{z l m:Nat}(h:m≠l):aZ (some (Addr.mk b o none)) z l m=some ⟨b,o+l*z,none⟩:=by
 simp[aZ,h,aA]
theorem Ext.trans{a b c:J}(h1:Ext a b)(h2:Ext b c):Ext a c:=af.trans h1 h2
theorem Ext.dT{w0 w1 ai:J}{W:Nat->Prop}(h1:Ext w0 w1)(h2:af W w1 ai)(h:∀k,W k->w0.heap.size<=k):Ext w0 ai:=
 ⟨h2.os.trans h1.os,h2.tape.trans h1.tape,h2.output.trans h1.output,eG h1.size h2.size,λk a _=>by
  rw[h2.block k (fi a h1.size) (λcA=>by have:=h k cA;omega),h1.block k a id]⟩
end aQ
namespace aQ
open Go
def p6(P:Program)(f:FuncId)(args:Array aa)(w:J)(K:J->Prop):Prop:=
 h8 P f/\CallsD P f args .returning w λe a w'=>(∃v,e=.returned v)/\a=.returning/\K w'
def xA(P:Program)(tk:TypeId->dM)(c:Code)(K:FuncId->Array aa->Array aa->Env->J->Prop)(e:Env)(w:J):Prop:=
 match c with
 | .region _ ops false=>match ops.toList with
  | [a,b]=>match a.guard,b.guard,b.dst,b.op with
   |none,none,none,.defer call=>match call.callee,call.args.toList with
    | .value x,[]=>jE P tk a (λv w'=>match ev (dd a.dst v e) x with|some (.func (.func f) first cap)=>K f first cap (dd a.dst v e) w'|_=>False) e w
    |_,_=>False
   |_,_,_,_=>False
  |_=>False
 |_=>False
def rX(P:Program)(tk:TypeId->dM):aN->Code->(Exit->Env->J->Prop)->(FuncId->Array aa->Array aa->Exit->Env->J->Prop)->Env->J->Prop
 | .seq .leaf B,.seq a b,_,Kd,e,w=>xA P tk a (λf first cap c w'=>D P tk B b (Kd f first cap) c w') e w
 | .seq A B,.seq a b,K,Kd,e,w=>D P tk A a (λx c w'=>match x with| .normal=>rX P tk B b K Kd c w'|x=>K x c w') e w
 |_,_,_,_,_,_=>False
def E2(P:Program)(tk:TypeId->dM)(a:O ResultVar)(R:aa->J->Prop)(f:FuncId)(first cap:Array aa)(x:Exit)(e:Env)(w:J):Prop:=
 match x with
 | .normal| .ret=>p6 P f (first++cap) w λw'=>mn P tk a e w' λvs=>R (p2 vs) w'
 |_=>False
def xB(P:Program)(tk:TypeId->dM)(A:aN)(fn:Func)(args:O aa)(w:J)(R:aa->J->Prop):Prop:=
 match fn.body with
 |some c=>rX P tk A c (AH P tk fn.results.toList R) (E2 P tk fn.results.toList R) (ov 0 args) w
 |none=>False
variable {P:Program}{tk:TypeId->dM}
def rY(f:FuncId)(first cap:Array aa):Deferred:={target:=.fn (.func f) cap,args:=first++ #[]}
theorem E3{c:Code}{K:FuncId->Array aa->Array aa->Env->J->Prop}{e:Env}{a:Act}{w:J}(ar:dp e a)(q:∀d∈writes c,d<a.tmps.size)(h:xA P tk c K e w):
 c.wp P (λx l w'=>x=.normal/\∃f first cap,l.defers=rY f first cap::a.defers/\l.tmps.size=a.tmps.size/\∃n,dp n l/\K f first cap n w') a w:=by
 unfold xA at h;split at h
 case h_2=>exact h.elim
 rename_i id ops;split at h
 case h_2=>exact h.elim
 rename_i b j o;split at h
 case h_2=>exact h.elim
 rename_i call r t u y;split at h
 case h_2=>exact h.elim
 rename_i x hc tM;refine wp_region_list ?_;rw[o];have w1:Region.wanted b (yielded ops a.tmps)=true:=by unfold Region.wanted;rw[r]
 simp only[wpList,w1,if_true];refine .inl ((tz ar h).wp ?_);intro v w' m;have z:Region.wanted j (yielded ops (a.put b.dst v).tmps)=true:=by unfold Region.wanted;rw[t]
 simp only[z,if_true];refine .inl ?_;split at m
 case h_2=>exact m.elim
 rename_i f first cap A;have p:dp (dd b.dst v e) (a.put b.dst v):=ar.put λk i=>q k (by simp[writes,o,bL,i]);have B:call.args= #[]:=by
  have:=congrArg List.toArray tM;simpa using this
 have C:(execOp (a.put b.dst v).eval j).run P w'=.ok (.defer (rY f first cap)) w':=by
  have D:∀g:Operand->aa,Array.map g #[]= #[]:=λg=>by simp
  simp only[execOp,y,resolve,hc,B,p.ev A,D];rfl
 show j.upon P _ _ _ ((execOp (a.put b.dst v).eval j).run P w');rw[C,Oper.upon_defer,u];refine⟨trivial,f,first,cap,?_,?_,dd b.dst v e,?_,m⟩
 .have:=(dY.put (a:=a) (d:=b.dst) (v:=v) (ds:=bL [b]) (λk i=>by simp[bL,i])).defers
  show rY f first cap::(a.put b.dst v).defers=_;rw[this]
 .exact(dY.put (a:=a) (d:=b.dst) (v:=v) (ds:=bL [b]) (λk i=>by simp[bL,i])).size
 .exact⟨λs v hs=>p.get s v hs⟩
theorem E4(p:P.follows .mixedOrders=true):∀ (A:aN) (c:Code) (K:Exit->Env->J->Prop) (Kd:FuncId->Array aa->Array aa->Exit->Env->J->Prop) (e:Env) (a:Act) (w:J),dp e a->a.defers=[]->
 (∀d∈writes c,d<a.tmps.size)->rX P tk A c K Kd e w->
 c.wp P (λx m w'=>(m.defers=[]/\∃j,dp j m/\K x j w')\/∃f first cap,m.defers=[rY f first cap]/\∃j,dp j m/\Kd f first cap x j w') a w:=by
 intro A
 induction A with
 |seq A B D r=>
  intro c K Kd e a w ar hd k h;unfold rX at h;split at h
  case h_3=>exact h.elim
  .rename_i s x y n
   cases n;have hx:∀d,d∈writes x->d∈writes (.seq x y):=λd hd=>by simp[writes,hd]
   have o:∀d,d∈writes y->d∈writes (.seq x y):=λd hd=>by simp[writes,hd]
   refine wp_seq (jG (E3 ar (λd hd=>k d (hx d hd)) h) ?_);rintro ex a1 w1 ⟨rfl,f,first,cap,h1,h2,b,g,t⟩;refine jG (tL p B y _ b a1 w1 g (λd hd=>by rw[h2];exact k d (o d hd)) t) ?_;rintro ex a2 ai ⟨u,v,z,C⟩;exact .inr ⟨f,first,cap,by rw[u.defers,h1,hd],v,z,C⟩
  .rename_i mu s x y _ n
   cases n;have hx:∀d,d∈writes x->d∈writes (.seq x y):=λd hd=>by simp[writes,hd]
   have o:∀d,d∈writes y->d∈writes (.seq x y):=λd hd=>by simp[writes,hd]
   refine wp_seq (jG (tL p A x _ _ a _ ar (λd hd=>k d (hx d hd)) h) ?_);rintro ex a1 w1 ⟨q,b,g,h1⟩;have i:a1.defers=[]:=by rw[q.defers,hd]
   cases ex with
   |normal=>exact r y _ _ b a1 w1 g i (λd hd=>by rw[q.size];exact k d (o d hd)) h1
   |exit id=>exact .inl ⟨i,b,g,h1⟩
   |goto l=>exact .inl ⟨i,b,g,h1⟩
   |ret=>exact .inl ⟨i,b,g,h1⟩
   |panic ch=>exact .inl ⟨i,b,g,h1⟩
   |outgrown=>exact .inl ⟨i,b,g,h1⟩
 |_=>intro c K Kd e a w ar hd k h;unfold rX at h;exact h.elim
theorem AY{fn:Func}{args:O aa}(a:args.length<=fn.ntmps):dp (ov 0 args) {tmps:=args.toArray++Array.replicate (fn.ntmps-args.toArray.size) undef,defers:=[]}:=by
 constructor;intro s v hs;obtain⟨_,h2⟩:=xt hs;simp only[mY]at h2;have aH:s<args.length:=(jB.1 h2).1;simp[Array.getElem?_append,aH];rw[dI aH]at h2;exact Option.some.inj h2
theorem E5{f:FuncId}{fn:Func}{A:aN}{args:O aa}{w:J}{K:J->Prop}(m:P.follows .mixedOrders=true)(hc:h8 P f)
 (hf:P.funcs[f]? =some fn) (b:ow fn args.length=true) (h:p3 P tk A fn args w λ_ w'=>K w'):p6 P f args.toArray w K:=by
 refine⟨hc,?_⟩;unfold p3 at h;unfold ow at b
 cases g:fn.body with
 |none=>rw[g]at h;exact h.elim
 |some c=>
  rw[g]at h b;simp only[c8]at h b;obtain⟨n,o⟩:=b;have p:=mX o;have q:(args.toArray++Array.replicate (fn.ntmps-args.toArray.size) undef).size=fn.ntmps:=by simp;omega
  refine(callsD_of_wp (R:=λe w'=>(∃v,e=.returned v)/\K w') hf g ?_).mono λe u w' ⟨h1,h2,r⟩=>⟨h2,h1,r⟩;refine jG (tL m A c _ _ _ w (AY p) (λd hd=>?_) h) ?_
  .have h1:=pG.1 n d hd
   have h2:=mX h1;show d<(args.toArray++Array.replicate (fn.ntmps-args.toArray.size) undef).size;rw[q];omega
  .rintro x s w' ⟨t,y,k,a⟩
   have hd:s.defers=[]:=t.defers
   cases x with
   |normal=>
    obtain⟨vs,i,j⟩:=mo k a;exact⟨hd,_,ox i,⟨_,rfl⟩,j⟩
   |ret=>
    obtain⟨vs,i,j⟩:=mo k a;exact⟨hd,_,ox i,⟨_,rfl⟩,j⟩
   |exit id=>exact a.elim
   |goto l=>exact a.elim
   |panic ch=>exact a.elim
   |outgrown=>exact a.elim
theorem E6{f:FuncId}{fn:Func}{A:aN}{args:O aa}{w:J}{R:aa->J->Prop}(p:P.follows .mixedOrders=true)
 (hf:P.funcs[f]? =some fn) (n:ow fn args.length=true) (h:xB P tk A fn args w R):
 Calls P f args.toArray w λe w'=>∃v,e=.returned v/\R v w':=by
 unfold xB at h;unfold ow at n
 cases o:fn.body with
 |none=>rw[o]at h;exact h.elim
 |some c=>
  rw[o]at h n;simp only[c8]at h n;obtain⟨q,r⟩:=n;have s:=mX r;have t:(args.toArray++Array.replicate (fn.ntmps-args.toArray.size) undef).size=fn.ntmps:=by simp;omega
  refine calls_of_wp_defers hf o ?_;refine jG (E4 p A c _ _ _ _ w (AY s) rfl (λd hd=>?_) h) ?_
  .have h1:=pG.1 q d hd
   have h2:=mX h1;show d<(args.toArray++Array.replicate (fn.ntmps-args.toArray.size) undef).size;rw[t];omega
  .have key:∀ {b:Act}{w':J}{j:Env}{g:FuncId}{first cap:Array aa},b.defers=[rY g first cap]->dp j b->(p6 P g (first++cap) w' λw'=>mn P tk fn.results.toList j w' λvs=>R (p2 vs) w')->
    Leaves P fn b.tmps (λe w'=>∃v,e=.returned v/\R v w') b.defers .returning w':=by
    intro b w' j g first cap hd i ⟨hc,a⟩;rw[hd];refine leaves_cons (f:=g) (args:=first++cap) (by simp) (by simp[invoke,z_ hc]) (a.mono ?_);rintro _ _ ai ⟨⟨v,rfl⟩,rfl,u⟩;obtain⟨vs,k,m⟩:=mo i u;exact⟨_,ox k,_,rfl,m⟩
   rintro x b w' (⟨hd,j,i,a⟩|⟨g,first,cap,hd,j,i,a⟩)
   .cases x with
    |normal=>
     obtain⟨vs,k,m⟩:=mo i a;show Leaves _ _ _ _ b.defers _ _;rw[hd];exact⟨_,ox k,_,rfl,m⟩
    |ret=>
     obtain⟨vs,k,m⟩:=mo i a;show Leaves _ _ _ _ b.defers _ _;rw[hd];exact⟨_,ox k,_,rfl,m⟩
    |exit id=>exact a.elim
    |goto l=>exact a.elim
    |panic ch=>exact a.elim
    |outgrown=>exact a.elim
   .cases x with
    |normal=>exact key hd i a
    |ret=>exact key hd i a
    |exit id=>exact a.elim
    |goto l=>exact a.elim
    |panic ch=>exact a.elim
    |outgrown=>exact a.elim
end aQ
namespace aQ
open Go Go.RowKit
def E7:cU->aa->Prop
 | .int k,v=>∃n:Int,v=.int k n/\k.min<=n/\n<=k.max
 | .bool,v=>∃b:al,v=.bool b
 | .str,v=>∃s:ByteArray,v=.string s/\s.size<=maxLen
 |_,_=>False
def iv:O cU->O aa->Prop
 | [],vs=>vs=[]
 |l::ls,vs=>∃v us,vs=v::us/\E7 l v/\iv ls us
theorem xC:∀ {ls ms:O cU}{vs us:O aa},iv ls vs->iv ms us->iv (ls++ms) (vs++us)
 | [],_,_,_,h,h2=>by cases h;exact h2
 |l::ls,ms,vs,us,h,h2=>by
  obtain⟨v,vs,rfl,h1,h⟩:=h
  exact⟨v,_,rfl,h1,xC h h2⟩
theorem xD:∀ {ls ms:O cU}{vs:O aa},iv (ls++ms) vs->∃us ts,vs=us++ts/\iv ls us/\iv ms ts
 | [],_,vs,h=>⟨[],vs,rfl,rfl,h⟩
 |l::ls,ms,vs,h=>by
  obtain⟨v,us,rfl,h1,h2⟩:=h
  obtain⟨a,b,rfl,c,d⟩:=xD h2
  exact⟨v::a,b,rfl,⟨v,a,rfl,h1,c⟩,d⟩
theorem AZ{P:Program}{tQ:TypeId->av (O cU)}{cs:O aa}{R:TypeId->O aa->Prop}(c:∀ {T:TypeId}{ls:O cU}{us:O aa},tQ T=some ls->R T us->iv ls us):
 ∀ {fs:O Field}{o:Nat}{ls:O cU},jI tQ P fs o=some ls->o+ls.length=cs.length->(∀f∈fs,R f.type ((cs.drop f.offset).take (P.cellsOf f.type)))->iv ls (cs.drop o)
 | [],o,ls,h,a,_=>by
  simp only[jI,Option.some.injEq]at h
  subst h
  exact List.drop_of_length_le (by simp at a;omega)
 |f::fs,o,ls,h,a,d=>by
  simp only[jI]at h
  split at h
  .cases h
  .rename_i hf
   have i:f.offset=o:=by
    by_cases e:f.offset=o
    .exact e
    .exact absurd (.inr e) hf
   subst i;split at h
   .rename_i ms j
    split at h
    .rename_i hc
     cases b:jI tQ P fs (f.offset+ms.length) with
     |none=>simp[b]at h
     |some k=>
      simp only[b,l_,Option.some.injEq]at h;subst h;have h1:=c j (d f (by simp));have h2:=AZ c (fs:=fs) (cs:=cs) b (by simp at a;omega) (λg hg=>d g (by simp[hg]));rw[hc]at h1;have:=xC h1 h2;rwa[←kZ,fK]at this
    .cases h
   .cases h
theorem A0{ls:O cU}{cs:O aa}:∀ {n i:Nat},(∀j,i<=j->j<i+n->iv ls ((cs.drop (j*ls.length)).take ls.length))->cs.length=(i+n)*ls.length->iv (nd ls n) (cs.drop (i*ls.length))
 |0,i,_,a=>List.drop_of_length_le (by simp at a;omega)
 |n+1,i,h,a=>by
  have h1:=h i (bk _) I
  have h2:=A0 (n:=n) (i:=i+1) (λj h1 h2=>h j I I) (by rw[a];congr 1;omega)
  have:=xC h1 h2
  rw[show(i+1)*ls.length=i*ls.length+ls.length by rw[jf,Nat.one_mul],←kZ,fK]at this
  exact this
theorem tR{P:Program}{w:J}:∀ (d:Nat) {T:TypeId}{ls:O cU}{fuel:Nat}{cs:O aa},fT P d T=some ls->P.cellsOf T=ls.length->gO P w fuel T cs->iv ls cs
 |0,_,_,_,_,h,_,_=>by cases h
 |d+1,T,ls,fuel,cs,h,m,a=>by
  cases fuel with
  |zero=>cases a
  |succ f=>
   simp only[fT]at h
   cases hu:P.underlying T with
   |none=>simp[hu]at h
   |some u=>
    rw[hu]at h
    cases u with
    |int k=>
     simp only[Option.some.injEq]at h;subst h
     simp only[gO,hu]at a
     obtain⟨n,rfl,h1,h2⟩:=a
     exact⟨_,_,rfl,⟨n,rfl,h1,h2⟩,rfl⟩
    |bool=>
     simp only[Option.some.injEq]at h;subst h
     simp only[gO,hu]at a
     obtain⟨b,rfl⟩:=a
     exact⟨_,_,rfl,⟨b,rfl⟩,rfl⟩
    |string=>
     simp only[Option.some.injEq]at h;subst h
     simp only[gO,hu]at a
     obtain⟨s,rfl,h1⟩:=a
     exact⟨_,_,rfl,⟨s,rfl,h1⟩,rfl⟩
    |struct fs=>
     simp only at h
     split at h
     .cases h
     .simp only[gO,hu]at a
      have:=AZ (P:=P) (cs:=cs) (tQ:=λT=>if (fT P d T).isSome/\∀ms,fT P d T=some ms->P.cellsOf T=ms.length then fT P d T else none) (R:=λT us=>gO P w f T us) (λ{T}{ls}{us} h1 h2=>by
       split at h1
       .rename_i q;exact tR d h1 (q.2 _ h1) h2
       .cases h1) (fs:=fs.toList) (o:=0) (ls:=ls) (by
        have key:∀ (fs:O Field) (o:Nat) (ls:O cU),jI (fT P d) P fs o=some ls->jI (λT=>if (fT P d T).isSome/\∀ms,fT P d T=some ms->P.cellsOf T=ms.length then fT P d T else none) P fs o=some ls:=by
         intro fs
         induction fs with
         |nil=>intro o ls h;exact h
         |cons g fs r=>
          intro o ls h;simp only[jI]at h⊢;split at h
          .cases h
          .rename_i hg
           rw[if_neg hg];split at h
           .rename_i ms c
            split at h
            .rename_i hc
             have t:(fT P d g.type).isSome/\∀ms,fT P d g.type=some ms->P.cellsOf g.type=ms.length:=by
              refine⟨by simp[c],λv p=>?_⟩;rw[c]at p;cases p;exact hc
             rw[if_pos t,c];simp only;rw[if_pos hc]
             cases l:jI (fT P d) P fs (o+ms.length) with
             |none=>rw[l]at h;cases h
             |some x=>rw[l]at h;rw[r _ _ l];exact h
            .cases h
           .cases h
        exact key _ _ _ h) (by rw[a.1,m];simp) (λg hg=>a.2 g (by simpa using hg))
      simpa using this
    |array n e=>
     simp only at h;split at h
     .rename_i ms c
      split at h
      .rename_i hc
       simp only[Option.some.injEq]at h;subst h;simp only[gO,hu]at a;have:=A0 (ls:=ms) (cs:=cs) (n:=n) (i:=0) (λj _ y=>by
        have:=a.2 j I;rw[hc]at this;exact tR d c hc this) (by rw[a.1,m,AT];simp)
       simpa using this
      .cases h
     .cases h
    |_=>cases h
theorem A1:∀ {n:Nat}{cs:O aa},iv (List.replicate n (.int .u8)) cs->∃l:O UInt8,l.length=n/\cs=l.map λb=>Value.int .u8 ((b.toNat:Nat):Int)
 |0,cs,h=>⟨[],rfl,h⟩
 |n+1,cs,h=>by
  obtain⟨v,us,rfl,⟨z,rfl,h0,h1⟩,h2⟩:=h
  obtain⟨l,a,rfl⟩:=A1 h2
  obtain⟨h0,h1⟩:=AL h0 h1
  refine⟨UInt8.ofNat z.toNat::l,by simp[a],?_⟩
  simp only[g_,List.cons.injEq,Value.int.injEq,true_and,and_true]
  have e:(UInt8.ofNat z.toNat).toNat=z.toNat:=by simp;omega
  omega
end aQ
namespace aQ
open Go Go.RowKit
section
variable {α:Type}{P:Program}{w:J}{hF lO T:TypeId}{enc:α->aa}
def eu(enc:α->aa)(x:α×aa×Nat):MapEntry:=⟨enc x.1,x.2.1,x.2.2⟩
def mv(x:α×aa×Nat):α×aa:=(x.1,x.2.1)
def mw[DecidableEq α](k:α):O (α×aa×Nat)->Nat->av (Nat×aa)
 | [],_=>none
 |x::L,i=>if k=x.1 then some (i,x.2.1) else mw k L (i+1)
theorem A2{β:Type}(f:β->β)(x:β)(bx:O β):∀bd:O β,(bd++x::bx).modify bd.length f=bd++f x::bx
 | []=>rfl
 |y::bd=>by
  show y::((bd++x::bx).modify bd.length f)=_
  rw[A2 f x bx bd];rfl
structure ng[DecidableEq α](P:Program)(hF:TypeId)(enc:α->aa):Prop where
 find:∀ (L:O (α×aa×Nat)) (k:α) (w:J),(Instr.findKey hF (enc k) (L.map (eu enc))).run P w=.ok (mw k L 0) w
 check:∀ (b:al) (k:α) (w:J),(Instr.checkKey b 10000 hF (enc k)).run P w=.ok () w
 bits:∀k,Instr.sameBits 10000 (enc k) (enc k)=true
theorem xE[DecidableEq α]{k:α}:∀ {L:O (α×aa×Nat)}{i:Nat},(∀x∈L,x.1≠k)->mw k L i=none
 | [],_,_=>rfl
 |x::L,i,h=>by
  rw[mw,if_neg (λe=>h x (by simp) e.symm)]
  exact xE λy a=>h y (by simp[a])
theorem xF[DecidableEq α]{k:α}{v:aa}{n:Nat}{bx:O (α×aa×Nat)}:∀ {bd:O (α×aa×Nat)}{i:Nat},(∀x∈bd,x.1≠k)->mw k (bd++(k,v,n)::bx) i=some (i+bd.length,v)
 | [],i,_=>by simp[mw]
 |x::L,i,h=>by
  rw[l8,mw,if_neg (λe=>h x (by simp) e.symm),xF λy a=>h y (by simp[a])]
  simp;omega
theorem ng.int{k:IntKind}(hu:P.underlying hF=some (.int k)):ng P hF (λn:Int=>Value.int k n) where
 find L n w:=by
  have h:∀ (L:O (Int×aa×Nat)) (i:Nat),Instr.findNow (.int k) (.int k n) (L.map (eu λn:Int=>Value.int k n)) i=some (mw n L i):=by
   intro L
   induction L with
   |nil=>intro i;rfl
   |cons x L a=>
    intro i;simp only[g_,Instr.findNow,eu,Instr.sameNow,if_true,mw];by_cases hx:n=x.1
    .subst hx;simp
    .rw[if_neg hx,show(n==x.1)=false by simpa using hx]
     exact a (i+1)
  simp[Instr.findKey,c3 hu,h]
 check b n w:=by
  show(Instr.checkKey b (9999+1) hF (.int k n)).run P w=_;unfold Instr.checkKey;simp only[Sem.run_bind,c3 hu,Result.andThen];rfl
 bits n:=by
  show(k==k&&n==n)=true;simp
def eH(w:J)(r:Nat)(enc:α->aa)(M:O (α×aa)):Prop:=
 ∃ (L:O (α×aa×Nat)) (a:Nat),w.heap[r]? =some (.map (L.map (eu enc)).toArray a)/\(L.map mv).Perm M/\(L.map (·.1)).Nodup/\(L.map (·.2.2)).Nodup/\∀x∈L,x.2.2<a
def E8(w:J)(r:Nat)(enc:α->aa)(M:O (α×aa))(k:α)(v:aa)(st:Int):Prop:=
 ∃ (bd bx:O (α×aa×Nat)) (n a:Nat),w.heap[r]? =some (.map ((bd++(k,v,n)::bx).map (eu enc)).toArray a)/\((bd++bx).map mv).Perm M/\((bd++(k,v,n)::bx).map (·.1)).Nodup/\((bd++(k,v,n)::bx).map (·.2.2)).Nodup/\(∀x∈bd++(k,v,n)::bx,x.2.2<a)/\st=(n:Int)
variable {r:Nat}{M hG:O (α×aa)}{k:α}{v:aa}{st:Int}{w':J}
theorem eH.lt(h:eH w r enc M):r<w.heap.size:=by
 obtain⟨L,a,h,_⟩:=h;exact(lG.1 h).1
theorem eH.ah{W:Nat->Prop}(h:eH w r enc M)(hc:af W w w')(a:¬W r):eH w' r enc M:=by
 have b:=h.lt;obtain⟨L,c,h,d⟩:=h;exact⟨L,c,by rw[hc.block r b a];exact h,d⟩
theorem eH.ext(h:eH w r enc M)(hc:Ext w w'):eH w' r enc M:=h.ah hc id
theorem eH.perm(h:eH w r enc M)(a:M.Perm hG):eH w r enc hG:=by
 obtain⟨L,b,h,h1,c⟩:=h;exact⟨L,b,h,h1.trans a,c⟩
theorem eH.split(h:eH w r enc ((k,v)::M)):∃n,E8 w r enc M k v (n:Nat):=by
 obtain⟨L,b,h,h1,h2,c,d⟩:=h;have e:(k,v)∈L.map mv:=h1.mem_iff.2 (by simp);obtain⟨x,hx,a⟩:=fJ.1 e;obtain⟨bd,bx,rfl⟩:=List.append_of_mem hx;obtain⟨f,g,n⟩:=x;simp only[mv,Prod.mk.injEq]at a;obtain⟨rfl,rfl⟩:=a;refine⟨n,bd,bx,n,b,h,?_,h2,c,d,rfl⟩;rw[fP,g_]at h1;have:=(m0.symm.trans h1);rw[fP];exact this.cons_inv
theorem eH.keys(h:eH w r enc M):(M.map (·.1)).Nodup:=by
 obtain⟨L,a,h,h1,h2,b,c⟩:=h;have:=h1.map (·.1);rw[nX]at this;exact this.nodup_iff.1 h2
theorem eH.E9(a:(k,v)∈M):∃hG,M.Perm ((k,v)::hG):=by
 obtain⟨A,B,rfl⟩:=List.append_of_mem a;exact⟨A++B,m0⟩
def iw(w:J)(r:Nat)(o:Obj):J:={w with heap:=w.heap.setIfInBounds r o}
theorem rZ(w:J)(r:Nat)(o:Obj):af (λq=>q=r) w (iw w r o):=
 ⟨rfl,rfl,rfl,by simp[iw],λk _ a=>by
  have:¬r=k:=λe=>a e.symm
  simp[iw,this]⟩
theorem tS(w:J)(r:Nat)(o:Obj):(iw w r o).heap.size=w.heap.size:=by simp[iw]
theorem tT{w:J}{r:Nat}(h:r<w.heap.size)(o:Obj):(iw w r o).heap[r]? =some o:=by simp[iw,h]
theorem mx{es:Array MapEntry}{a:Nat}(h:w.heap[r]? =some (.map es a)):(getObj r).run P w=.ok (.map es a) w:=by simp[getObj,Sem.run,h]
theorem xG{es:Array MapEntry}{a:Nat}(h:w.heap[r]? =some (.map es a))(o:Obj):(setObj r o).run P w=.ok () (iw w r o):=by simp[setObj,Sem.run,h,iw]
theorem A3{bd bx:O (α×aa×Nat)}{x:α×aa×Nat}(h:((bd++x::bx).map (·.1)).Nodup):∀y∈bd,y.1≠x.1:=by
 intro y a e;rw[fP,g_,s9]at h;exact h.2.2 _ (List.mem_map_of_mem a) _ (nY ..) e
theorem A4{L:O (α×aa×Nat)}(h1:(L.map mv).Perm M)(a:∀v,(k,v)∉M):∀x∈L,x.1≠k:=by
 intro x hx e;refine a x.2.1 (h1.mem_iff.1 (fJ.2 ⟨x,hx,?_⟩));simp[mv,e]
theorem eH.make(T:TypeId)(w:J):(Instr.makeMap T none).run P w=.ok (.map (some w.heap.size)) (w.alloc (.map #[] 0))/\eH (w.alloc (.map #[] 0)) w.heap.size enc ([]:O (α×aa)):=by
 refine⟨by simp[Instr.makeMap],[],0,?_,by simp,by simp,by simp,by simp⟩;show(w.heap.push (.map #[] 0))[w.heap.size]? =_;simp
theorem eH.A5[DecidableEq α](a:ng P hF enc)(b:P.underlying T=some (.map hF lO))(h:eH w r enc M)(c:(k,v)∈M)(ok:al):
 (Instr.lookup T (.map (some r)) (enc k) ok).run P w=.ok (if ok then .tuple #[v,.bool true] else v) w:=by
 obtain⟨hG,d⟩:=eH.E9 c;obtain⟨n,bd,bx,e,f,h,h1,h2,g,i,_⟩:=(h.perm d).split;have hf:=a.find (bd++(k,v,e)::bx) k w;rw[xF (A3 h2)]at hf;simp only[Instr.lookup,Sem.run_bind,c3 b,Result.andThen,mx h,Sem.run_pure,a.check,hf]
theorem eH.A6[DecidableEq α](a:ng P hF enc)(b:P.underlying T=some (.map hF lO)){i:TypeInfo}{z:aa}(hi:P.info? lO=some i)(c:i.zero=some z)(h:eH w r enc M)(d:∀v,(k,v)∉M)(ok:al):
 (Instr.lookup T (.map (some r)) (enc k) ok).run P w=.ok (if ok then .tuple #[z,.bool false] else z) w:=by
 obtain⟨L,e,h,h1,h2,f,g⟩:=h;have hf:=a.find L k w;rw[xE (A4 h1 d)]at hf;simp only[Instr.lookup,Sem.run_bind,c3 b,Result.andThen,mx h,Sem.run_pure,a.check,hf,zeroValue,m7 hi,c]
end
end aQ
namespace aQ
open Go Go.RowKit
theorem A7(c:Array aa):∀ (vs:O aa) (i:Nat) (c:Array aa),(gx c i vs).toList.drop (i+vs.length)=c.toList.drop (i+vs.length)
 | [],_,_=>rfl
 |v::vs,i,c=>by
  simp only[gx,gh]
  rw[show i+(vs.length+1)=i+1+vs.length from I,A7 c vs (i+1) (c.setIfInBounds i v)]
  rw[Array.toList_setIfInBounds,List.drop_set]
  rw[if_pos I]
theorem ld(vs:O aa)(c:Array aa)(i:Nat)(h:i+vs.length<=c.size):(gx c i vs).toList=c.toList.take i++vs++c.toList.drop (i+vs.length):=by
 rw[←fK (i+vs.length) (gx c i vs).toList,rU vs c i h,A7 c]
section
variable {P:Program}{w:J}
theorem tU{my cK ty e:TypeId}{d:TypeDesc}{sz:Nat}(hd:P.underlying my=some (.slice e))(he:P.underlying e=some d)(g:P.cellsOf e=sz){A:ag}{dl oB n:Nat}{x:ad}(h:Nat.min x.len dl=n){xs:O aa}(hx:Src sz w ⟨x.a,n,x.cap⟩ xs)(b:bJ w A xs):
 Sem.run P (Builtin.copy_ #[my,cK] ty #[.slice (some A) dl oB,.slice x.a x.len x.cap]) w=.ok (.int .i64 ((n:Nat):Int)) (setCells w A 0 xs):=by
 have f:=hD (w:=w) he;rw[g]at f;have hf:Sem.run P (Builtin.firstCells sz n (.slice x.a x.len x.cap)) w=.ok xs.toArray w:=by
  obtain⟨a,l,c⟩:=x
  cases a<;>exact p5 (P:=P) hx
 have i:=pR (P:=P) (A:=A) xs 0 w (by simpa using b.1) b.2;simp only[Builtin.copy_,rk,mV,List.getElem?_cons_succ,Sem.run_bind,c3 hd,Result.andThen,Builtin.lenOf,Sem.run_pure,h,f,hf,i];rfl
set_option maxRecDepth 4000 in
theorem E_ {gv:Array TypeId}{cF cK kf e:TypeId}{i:TypeInfo}{k:IntKind}{z:aa}{sz n:Nat}{s:ad}{c:O aa} (h0:gv[0]? =some cK) (h1:gv[1]? =some kf)
 (hs:P.underlying cK=some (.slice e)) (hx:P.underlying kf=some (.int k)) (hi:P.info? e=some i) (hd:(P.underlying e).isSome=true) (h:i.zero=some z) (j:z.cells.size=sz) (p:P.cellsOf e=sz)
 (r:i.bytes≠0) (hold:Src sz w s c) (t:s.cap<s.len+n) (l:(2*(s.len+n)+1000)*i.bytes<=281474976710656):
 ∃ (b:Nat) (zs rest:O aa),s.len+n<=b/\b<=maxLen/\zs.length=n*sz/\rest.length=(b-(s.len+n))*sz/\
  Sem.run P (Builtin.append_ gv cF #[.slice s.a s.len s.cap,.int .i64 ((n:Nat):Int)]) w=
   .ok (.slice (some ⟨w.heap.size,0,none⟩) (s.len+n) b) (w.drew.alloc (.cells (c++zs++rest).toArray e)):=by
 obtain⟨d,hd⟩:=ke _ hd;have m:=hD (w:=w) hd;rw[p]at m;have u:=AN t;have S:Builtin.nextslicecap (s.len+n) s.cap*i.bytes<=281474976710656:=eG (mZ _ u) l;have T:s.len+n<=281474976710656:=by
  have:s.len+n<=(2*(s.len+n)+1000)*i.bytes:=by
   have:=Nat.mul_le_mul_left (2*(s.len+n)+1000) (Nat.one_le_iff_ne_zero.2 r);omega
  omega
 have v:n*i.bytes<=281474976710656:=eG (mZ _ (by omega:n<=2*(s.len+n)+1000)) l
 let q:Question:=.appendCap (s.len+n) s.cap e
 let b:Nat:=q.cut (w.tape w.drawn q)
 have x:q.forced=false:=rfl;have A:s.len+n<=b:=by show s.len+n<=s.len+n+_;omega
 have B:b<=maxLen:=by
  show s.len+n+_%(2^63-(s.len+n))<=2^63-1;have:=g9 (w.tape w.drawn q) (y:=2^63-(s.len+n)) I;omega
 have C:Src sz w.drew s c:=hold.ext (af.drew (.refl _ _));have D:=p5 (P:=P) C;have E:∀n (w':J),(askRoom n).run P w'=.ok () w':=λn w'=>by unfold askRoom;split<;>rfl
 have F:(choose q).run P w=.ok b w.drew:=by
  show Sem.run P (.choose q .pure) w=_;simp only[Sem.run,x,fZ,if_false];rfl
 have f:=λw:J=>m7 (w:=w) hi;refine⟨b,if n*sz=0 then [] else (Builtin.zeroCells z.cells n).toList,(Builtin.zeroCells z.cells (b-(s.len+n))).toList,A,B,?_,by simp[Builtin.zeroCells,j],?_⟩
 .split
  .rename_i h0;simp[h0]
  .simp[Builtin.zeroCells,j]
 have G:IntKind.i64.wrap ((n:Nat):Int)=(n:Int):=bq I I;have H:¬((n:Int)<0):=by omega
 have K:¬((n:Int)*(i.bytes:Int)>2^48):=by
  have:((n*i.bytes:Nat):Int)<=((281474976710656:Nat):Int):=Int.ofNat_le.2 v;rw[Int.natCast_mul]at this;have L:(2:Int)^48=((281474976710656:Nat):Int):=by decide+kernel
  rw[L];omega
 have M:¬(s.len+n<=s.cap):=by omega
 have N:¬((s.len+n:Nat):Int)>IntKind.i64.max:=by
  simp[IntKind.max,IntKind.signed,IntKind.bits];omega
 have Q:¬Builtin.nextslicecap (s.len+n) s.cap*i.bytes>2^48:=by
  have:(2:Nat)^48=281474976710656:=by decide+kernel
  omega
 have R:Sem.run P (choose (.appendCap (s.len+n) s.cap e)) w=.ok b w.drew:=F;unfold Builtin.append_;simp only[rk,mV,List.getElem?_cons_succ,h0,h1,Sem.run_bind,c3 hs,c3 hx,Result.andThen,m,Sem.run_pure,asInt,asIntOf,G,H,if_false,f,K,dc,M,N,false_and,Q,if_true,Bool.not_true,fZ,R,E,D];by_cases o:n*sz=0
 .simp only[o,if_true,Sem.run_pure,zeroValue,f,h,Sem.run_bind,Result.andThen,newRow,newObj,Sem.run]
  have g:w.drew.heap.size=w.heap.size:=rfl;rw[g]
  congr 1
  show w.drew.alloc _=w.drew.alloc _
  congr 2
  simp
 .simp only[o,if_false,Sem.run_pure,zeroValue,f,h,Sem.run_bind,Result.andThen,newRow,newObj,Sem.run]
  have g:w.drew.heap.size=w.heap.size:=rfl;rw[g]
  congr 1
  show w.drew.alloc _=w.drew.alloc _
  congr 2
  simp
theorem Fa{T o e:TypeId}{i:TypeInfo}{z:aa}{sz n c:Nat}{A:ag}(a:P.underlying T=some (.slice e))(hi:P.info? e=some i)(b:i.zero=some z)(d:z.cells.size=sz)(f:n≠0)
 (g:∀zs:O aa,zs=(Builtin.zeroCells z.cells n).toList->bJ w A zs):
 ∃zs:O aa,zs.length=n*sz/\Sem.run P (Builtin.clear_ #[T] o #[.slice (some A) n c]) w=.ok (.tuple #[]) (setCells w A 0 zs):=by
 refine⟨(Builtin.zeroCells z.cells n).toList,by simp[Builtin.zeroCells,d],?_⟩;have hs:=g _ rfl;have h:=pR (P:=P) (A:=A) _ 0 w (by simpa using hs.1) hs.2
 cases n with
 |zero=>exact absurd rfl f
 |succ n=>
  simp only[Builtin.clear_,rk,mV,Sem.run_bind,c3 a,Result.andThen,zeroValue,m7 hi,b,Sem.run_pure,h]
end
theorem xH(a:av ag)(z c:Nat):aZ a z 0 c=a:=by
 unfold aZ;split
 .rfl
 .cases a with
  |none=>rfl
  |some A=>simp[add_zero']
theorem bj.r0{sz:Nat}{w:J}{b:Nat}{c:Array aa}{T:TypeId}(h:bj w b c T){o n cap:Nat}(d:o+n*sz<=c.size):Src sz w ⟨some ⟨b,o,none⟩,n,cap⟩ ((c.toList.drop o).take (n*sz)):=by
 refine⟨by simp;omega,(λh=>by cases h),λa e=>?_⟩
 cases e;have:=p4 h (n*sz) o 0 (by simpa using d);simpa using this
theorem bj.lf{w:J}{b o:Nat}{c:Array aa}{T:TypeId}(h:bj w b c T)(vs:O aa):bj (setCells w ⟨b,o,none⟩ 0 vs) b (gx c o vs) T:=by
 simpa using bj.rR vs o 0 h
theorem aT.mk'{sz:Nat}{T:TypeId}{w:J}{b n cap:Nat}{c:Array aa}{vs:O aa}(a:bj w b c T)(d:vs.length=n*sz)(e:n<=cap)(hc:cap<=maxLen)(hs:c.size=cap*sz)(f:c.toList.take (n*sz)=vs):aT sz T w ⟨some ⟨b,0,Option.none⟩,n,cap⟩ vs:=
 ⟨d,e,hc,.inr ⟨b,c,rfl,a,hs,f⟩⟩
theorem A8(A:ag)(a b:Nat):(A.add a).add b=A.add (a+b):=by
 unfold Addr.add;by_cases c:a=0
 .subst c;simp
 .by_cases d:b=0
  .subst d;simp
  .simp[c,d,Nat.add_assoc]
theorem tV{w:J}{A:ag}:∀ {n i:Nat}{vs:O aa}{j:Nat}{v:aa},bz w A i n=some vs->vs[j]? =some v->w.cell? (A.add (i+j))=some v
 |0,_,vs,j,v,h,a=>by simp[bz]at h;subst h;simp at a
 |n+1,i,vs,j,v,h,a=>by
  simp only[bz]at h
  cases h1:w.cell? (A.add i) with
  |none=>simp[h1]at h
  |some u=>
   cases h2:bz w A (i+1) n with
   |none=>simp[h1,h2]at h
   |some us=>
    simp only[h1,h2,Option.some.injEq]at h
    subst h
    cases j with
    |zero=>simp at a;subst a;exact h1
    |succ j=>
     have:=tV h2 (j:=j) (v:=v) (by simpa using a)
     rwa[show i+(j+1)=i+1+j from I]
theorem xI{w:J}{A:ag}:∀ (n i:Nat) (vs:O aa),vs.length=n->(∀j v,vs[j]? =some v->w.cell? (A.add (i+j))=some v)->bz w A i n=some vs
 |0,i,vs,a,_=>by
  cases vs with
  |nil=>simp[bz]
  |cons _ _=>simp at a
 |n+1,i,vs,a,h=>by
  cases vs with
  |nil=>simp at a
  |cons v vs=>
   simp only[bz]
   rw[show w.cell? (A.add i)=some v from h 0 v rfl,xI n (i+1) vs (by simpa using a) (λj x hx=>by have:=h (j+1) x (by simpa using hx);rwa[show i+(j+1)=i+1+j from I]at this)]
theorem xJ{w:J}{A:ag}{n k m:Nat}{vs:O aa}(h:bz w A 0 n=some vs)(b:k+m<=n):bz w (A.add k) 0 m=some ((vs.drop k).take m):=by
 have c:=rT h;refine xI m 0 _ (by simp;omega) λj v a=>?_;rw[A8,show k+(0+j)=0+(k+j) from I];refine tV h ?_;rw[s8]at a;split at a
 .rwa[s5]at a
 .cases a
theorem Fb{a b:Nat}(h:a+b<=4000000):IntKind.wrap .i64 (Int.fdiv (IntKind.wrap .u64 (IntKind.wrap .i64 ((a:Int)+(b:Int)))) (2^(min (Int.toNat 1) 64)))=(((a+b)/2:Nat):Int):=by
 rw[bq (n:=(a:Int)+b) I I,gI I I];have e:(2:Int)^(min (Int.toNat 1) 64)=2:=rfl;rw[e,Int.fdiv_eq_ediv_of_nonneg _ I,bq I I];omega
section
variable {w:J}
theorem aT.Fc{sz:Nat}{T au:TypeId}{s:ad}{vs:O aa}{q:Nat}{c:Array aa}(h:aT sz T w s vs)(a:aB s q)(d:bj w q c au):T=au:=by
 obtain⟨A,ar,rfl⟩:=a;obtain⟨_,_,_,e⟩:=h;rcases e with ⟨f,_⟩|⟨b,c',g,i,_⟩
 .rw[f]at ar;cases ar
 .rw[g]at ar;cases ar
  exact(bj.inj i d).2
end
theorem Fe{w:J}{A:ag}{n m i:Nat}{xs ys:O aa}(h1:bz w A i n=some xs)(h2:bz w (A.add (i+n)) 0 m=some ys):bz w A i (n+m)=some (xs++ys):=by
 have b:=rT h1;have c:=rT h2;refine xI (n+m) i _ (by rw[cv,b,c]) λj v a=>?_;rw[List.getElem?_append]at a;split at a
 .exact tV h1 a
 .rename_i d
  have:=tV h2 a;rw[A8]at this;rwa[show i+n+(0+(j-xs.length))=i+j from I]at this
theorem oy.src{P:Program}{w:J}{e:TypeId}{s:ad}{α:Type}{c:α->O aa}{sz:Nat}(h:oy P w e s)(k:P.cellsOf e=sz)(R:α->Prop)(m:∀fuel vs,gO P w fuel e vs->∃x:α,vs=c x/\R x):
 ∃l:O α,Src sz w s (l.map c).flatten/\l.length=s.len/\∀x∈l,R x:=by
 have i:=h.cell;rw[k]at i;have key:∀a,s.a=some a->∀n,n<=s.len->∃l:O α,bz w a 0 (n*sz)=some (l.map c).flatten/\l.length=n/\∀x∈l,R x:=by
  intro a d n
  induction n with
  |zero=>intro _;exact⟨[],by simp[bz],rfl,λr f=>by cases f⟩
  |succ n o=>
   intro u;obtain⟨l,h1,g,h2⟩:=o I;obtain⟨vs,p,fuel,q⟩:=i a d n (by have:=h.le;omega);obtain⟨r,rfl,t⟩:=m fuel vs q;refine⟨l++ [r],?_,by simp[g],λx hx=>?_⟩
   .rw[Nat.succ_mul,Fe h1 (by rw[cR];exact p)]
    simp
   .rcases cO.1 hx with hx|hx
    .exact h2 x hx
    .rw[fj.1 hx];exact t
 cases b:s.a with
 |none=>
  have h0:s.len=0:=by have:=h.nil b;have:=h.le;omega
  exact⟨[],⟨by simp[h0],λ_=>rfl,λa d=>(by rw[b]at d;cases d)⟩,h0.symm,λr f=>by cases f⟩
 |some a=>
  obtain⟨l,h1,g,h2⟩:=key a b s.len (bk _);exact⟨l,⟨rT h1,λe=>(by rw[b]at e;cases e),λv j=>by rw[b]at j;cases j;exact h1⟩,g,h2⟩
end aQ
