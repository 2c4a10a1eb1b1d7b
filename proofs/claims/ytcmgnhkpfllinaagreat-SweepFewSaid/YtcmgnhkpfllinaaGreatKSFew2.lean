/- What a Go program of the model must show, as text that can be read; sound against the kit. -/
import Derived.Carry
import Derived.ChangeArms
import Derived.ChangeVars
import Derived.Defers
import Derived.LaidLaws
import Derived.Laws.StructEq
import Derived.Lib.Overlaps
import Derived.MakeChecks
import Derived.WideKeyRuns
import Derived.Test.YtcmgnhkpfllinaaGreatKSFew1
namespace aQ
open Go Go.RowKit
def jB(fE:TypeId->av (O cO))(P:Program):O Field->Nat->av (O cO)
 | [],_=>some []
 |f::fs,o=>if f.name= "_" \/f.offset≠o then none else
  match fE f.type with
  |some ls=>if P.cellsOf f.type=ls.length then (jB fE P fs (o+ls.length)).map (ls++ ·) else none
  |none=>none
def m7(ls:O cO):Nat->O cO
 |0=> []
 |n+1=>ls++m7 ls n
def fE(P:Program):Nat->TypeId->av (O cO)
 |0,_=>none
 |d+1,T=>match P.underlying T with
  |some (.int k)=>some [.int k]
  |some .bool=>some [.bool]
  |some .string=>some [.str]
  |some (.struct fs)=>if P.stoodInHeld T then none else jB (fE P d) P fs.toList 0
  |some (.array n e)=>match fE P d e with
   |some ls=>if P.cellsOf e=ls.length then some (m7 ls n) else none
   |none=>none
  |_=>none
def tI:cO->aa->Prop
 | .int k,v=>∃n:Int,v=.int k n
 | .bool,v=>∃b:al,v=.bool b
 | .str,v=>∃s:ByteArray,v=.string s
 |_,_=>False
def e2:O cO->O aa->Prop
 | [],vs=>vs=[]
 |l::ls,vs=>∃v us,vs=v::us/\tI l v/\e2 ls us
theorem rQ:∀ {ls:O cO}{vs:O aa},e2 ls vs->vs.length=ls.length
 | [],_,h=>by cases h;rfl
 |_::_,_,h=>by
  obtain⟨v,us,rfl,_,h⟩:=h
  simp[rQ h]
theorem rR:∀ {ls ms:O cO}{vs:O aa},e2 (ls++ms) vs->e2 ls (vs.take ls.length)/\e2 ms (vs.drop ls.length)
 | [],_,_,h=>⟨rfl,h⟩
 |l::ls,ms,vs,h=>by
  obtain⟨v,us,rfl,h1,h2⟩:=h
  obtain⟨a,b⟩:=rR h2
  exact⟨⟨v,_,rfl,h1,a⟩,b⟩
theorem AA:∀ {ls ms:O cO}{vs us:O aa},e2 ls vs->e2 ms us->e2 (ls++ms) (vs++us)
 | [],_,_,_,h,h2=>by cases h;exact h2
 |l::ls,ms,vs,us,h,h2=>by
  obtain⟨v,vs,rfl,h1,h⟩:=h
  exact⟨v,_,rfl,h1,AA h h2⟩
def m8:aa->aa->al
 | .int _ a,.int _ b=>a==b
 | .bool a,.bool b=>a==b
 | .string a,.string b=>a.toList==b.toList
 |_,_=>false
def fw:O aa->O aa->al
 | [],_=>true
 |a::as,b::c=>m8 a b&&fw as c
 |_::_,[]=>false
theorem Ev{l:cO}{a b:aa}(c:tI l a)(d:tI l b):m8 a b=true↔a=b:=by
 cases l<;>simp only[tI]at c d<;>try exact c.elim
 .obtain⟨n,rfl⟩:=c;obtain⟨m,rfl⟩:=d;simp[m8]
 .obtain⟨n,rfl⟩:=c;obtain⟨m,rfl⟩:=d;simp[m8]
 .obtain⟨n,rfl⟩:=c;obtain⟨m,rfl⟩:=d
  simp only[m8,kt,Value.string.injEq];rw[ByteArray.toList_eq,ByteArray.toList_eq];obtain⟨⟨x⟩⟩:=n;obtain⟨⟨y⟩⟩:=m;simp
theorem xi:∀ {ls:O cO}{as c:O aa},e2 ls as->e2 ls c->(fw as c=true↔as=c)
 | [],_,_,h1,h2=>by cases h1;cases h2;simp[fw]
 |l::ls,_,_,h1,h2=>by
  obtain⟨a,as,rfl,d,e⟩:=h1
  obtain⟨b,c,rfl,f,g⟩:=h2
  simp[fw,Ev d f,xi e g]
theorem xj:∀ {as c cs ds:O aa},as.length=c.length->fw (as++cs) (c++ds)=(fw as c&&fw cs ds)
 | [],[],_,_,_=>by simp[fw]
 |a::as,b::c,cs,ds,h=>by
  simp only[lW,fw]
  rw[xj (by simpa using h),Bool.and_assoc]
 | [],_::_,_,_,h=>by simp at h
 |_::_,[],_,_,h=>by simp at h
def k3(P:Program)(T:TypeId)(cs:O aa):aa:=
 match P.underlying T with
 |some d=>if gH d then .agg cs.toArray else cs.headD undef
 |none=>undef
section
variable {P:Program}
theorem oo{T:TypeId}{d:TypeDesc}{cs:O aa}(h:P.underlying T=some d)(a:gH d=true):k3 P T cs=.agg cs.toArray:=by
 simp[k3,h,a]
theorem oq{T:TypeId}{d:TypeDesc}{v:aa}(h:P.underlying T=some d)(a:gH d=false):k3 P T [v]=v:=by
 simp[k3,h,a]
theorem tJ{T:TypeId}{cs us:O aa}{off:Nat}{d:TypeDesc}(a:P.underlying T=some d)(b:P.cellsOf T=us.length)(c:gH d=false->us.length=1)
 (h:(cs.drop off).take us.length=us) (w:J):(part T cs.toArray off).run P w=.ok (k3 P T us) w:=by
 cases hd:gH d with
 |true=>
  rw[oo a hd];have e:cs.toArray.extract off (off+us.length)=us.toArray:=by
   simp[h]
  simp[part,pL a,hd,g2 a,b,h]
 |false=>
  obtain⟨v,rfl⟩:=List.length_eq_one_iff.1 (c hd);rw[oq a hd];have f:cs[off]? =some v:=by
   have:((cs.drop off).take 1)[0]? =some v:=by
    have g:List.take 1 (List.drop off cs)=[v]:=h;rw[g];rfl
   rw[List.getElem?_take_of_lt I,sZ]at this;simpa using this
  simp[part,pL a,hd,f]
theorem flat_agg{d:Nat}{T:TypeId}{ls:O cO}(h:fE P d T=some ls):∃u,P.underlying T=some u/\(gH u=false->ls.length=1):=by
 cases d with
 |zero=>cases h
 |succ d=>
  simp only[fE]at h
  cases hu:P.underlying T with
  |none=>simp[hu]at h
  |some u=>
   refine⟨u,rfl,λa=>?_⟩;rw[hu]at h
   cases u<;>simp only[gH,reduceCtorEq]at a h<;>first|(cases h;rfl)|cases h
theorem AB{d D:Nat}(i:∀ {T:TypeId}{ls:O cO}{xs ys:O aa},fE P d T=some ls->e2 ls xs->e2 ls ys->∀w,(Op.equalIn (D+d) T (k3 P T xs) (k3 P T ys)).run P w=.ok (fw xs ys) w)
 {xs ys:O aa}:∀ {fs:O Field}{o:Nat}{ls:O cO},jB (fE P d) P fs o=some ls->e2 ls (xs.drop o)->e2 ls (ys.drop o)->
  ∀w,(Op.eqFields (D+d) xs.toArray ys.toArray fs).run P w=.ok (fw (xs.drop o) (ys.drop o)) w
 | [],o,ls,h,hx,j,w=>by
  simp only[jB,Option.some.injEq]at h
  subst h
  have hx:xs.drop o=[]:=hx
  rw[hx]
  rfl
 |f::fs,o,ls,h,hx,j,w=>by
  simp only[jB]at h
  split at h
  .cases h
  .rename_i hf
   have s:¬f.name= "_" :=λe=>hf (.inl e)
   have t:f.offset=o:=by
    by_cases e:f.offset=o
    .exact e
    .exact absurd (.inr e) hf
   subst t;split at h
   .rename_i ms k
    split at h
    .rename_i hc
     cases c:jB (fE P d) P fs (f.offset+ms.length) with
     |none=>simp[c]at h
     |some x=>
      simp only[c,lY,Option.some.injEq]at h;subst h;obtain⟨l,m⟩:=rR hx;obtain⟨n,p⟩:=rR j;rw[kT]at m p;obtain⟨u,hu,q⟩:=flat_agg k;have a:=rQ l;have b:=rQ n;have bk:=tJ (cs:=xs) (off:=f.offset) (us:=(xs.drop f.offset).take ms.length) hu (by rw[hc,a]) (λg=>by rw[a];exact q g) (by rw[a]);have bh:=tJ (cs:=ys) (off:=f.offset) (us:=(ys.drop f.offset).take ms.length) hu (by rw[hc,b]) (λg=>by rw[b];exact q g) (by rw[b]);have e:=λw=>i k l n w;have r:=AB i (fs:=fs) c m p;have v:fw (xs.drop f.offset) (ys.drop f.offset)=(fw ((xs.drop f.offset).take ms.length) ((ys.drop f.offset).take ms.length)&&fw (xs.drop (f.offset+ms.length)) (ys.drop (f.offset+ms.length))):=by
       rw[←xj (by rw[a,b])];simp only[←kT,fI]
      simp only[Op.eqFields,ne_eq,s,not_false_eq_true,if_true,Sem.run_bind,bk,bh,e,Result.andThen];rw[v]
      cases fw ((xs.drop f.offset).take ms.length) ((ys.drop f.offset).take ms.length)
      .simp
      .simpa using r w
    .cases h
   .cases h
theorem AD(ls:O cO):∀n,(m7 ls n).length=n*ls.length
 |0=>by simp[m7]
 |n+1=>by simp[m7,AD ls n,ic,Nat.add_comm]
theorem AE{d D:Nat}(j:∀ {T:TypeId}{ls:O cO}{xs ys:O aa},fE P d T=some ls->e2 ls xs->e2 ls ys->∀w,(Op.equalIn (D+d) T (k3 P T xs) (k3 P T ys)).run P w=.ok (fw xs ys) w)
 {e:TypeId}{ls:O cO}{u:TypeDesc} (hu:P.underlying e=some u) (g:gH u=false->ls.length=1) (k:fE P d e=some ls) (hc:P.cellsOf e=ls.length) {xs ys:O aa}:
 ∀ (n i:Nat),e2 (m7 ls n) (xs.drop (i*ls.length))->e2 (m7 ls n) (ys.drop (i*ls.length))->∀w,
  Sem.run P (do
   let r ←forIn (List.range' i n) ((none:av al),()) λi _=>do
    let a ←part e xs.toArray (i*ls.length)
    let b ←part e ys.toArray (i*ls.length)
    let t ←Op.equalIn (D+d) e a b
    if (!t)=true then pure (ForInStep.done (some false,())) else pure (ForInStep.yield (none,()))
   match r.1 with
   |some b=>pure b
   |none=>pure true) w=.ok (fw (xs.drop (i*ls.length)) (ys.drop (i*ls.length))) w
 |0,i,hx,l,w=>by
  have hx:xs.drop (i*ls.length)=[]:=hx
  rw[hx]
  simp[fw]
 |n+1,i,hx,l,w=>by
  obtain⟨m,o⟩:=rR hx
  obtain⟨p,q⟩:=rR l
  rw[kT,show i*ls.length+ls.length=(i+1)*ls.length by rw[ic,nR]]at o q
  have c:=rQ m
  have f:=rQ p
  have bk:=tJ (cs:=xs) (off:=i*ls.length) (us:=(xs.drop (i*ls.length)).take ls.length) hu (by rw[hc,c]) (λh=>by rw[c];exact g h) (by rw[c])
  have bh:=tJ (cs:=ys) (off:=i*ls.length) (us:=(ys.drop (i*ls.length)).take ls.length) hu (by rw[hc,f]) (λh=>by rw[f];exact g h) (by rw[f])
  have s:=λw=>j k m p w
  have r:=AE j hu g k hc n (i+1) o q w
  have v:fw (xs.drop (i*ls.length)) (ys.drop (i*ls.length))=(fw ((xs.drop (i*ls.length)).take ls.length) ((ys.drop (i*ls.length)).take ls.length)&&fw (xs.drop ((i+1)*ls.length)) (ys.drop ((i+1)*ls.length))):=by
   rw[←xj (by rw[c,f]),show(i+1)*ls.length=i*ls.length+ls.length by rw[ic,nR]];simp only[←kT,fI]
  rw[v];simp only[List.range'_succ,List.forIn_cons,Sem.run_bind,bk,bh,s,Result.andThen]
  cases fw ((xs.drop (i*ls.length)).take ls.length) ((ys.drop (i*ls.length)).take ls.length)
  .simp
  .simpa[Result.andThen] using r
theorem AF(D:Nat):∀ (d:Nat) {T:TypeId}{ls:O cO}{xs ys:O aa},fE P d T=some ls->e2 ls xs->e2 ls ys->∀w,(Op.equalIn (D+d) T (k3 P T xs) (k3 P T ys)).run P w=.ok (fw xs ys) w
 |0,_,_,_,_,h,_,_,_=>by cases h
 |d+1,T,ls,xs,ys,h,hx,b,w=>by
  have c:= @AF D d
  simp only[fE]at h
  cases hu:P.underlying T with
  |none=>simp[hu]at h
  |some u=>
   rw[hu]at h
   cases u with
   |int k=>
    simp only[Option.some.injEq]at h;subst h
    obtain⟨x,_,rfl,⟨n,rfl⟩,rfl⟩:=hx
    obtain⟨y,_,rfl,⟨m,rfl⟩,rfl⟩:=b
    rw[oq hu rfl,oq hu rfl]
    show(Op.equalIn (D+d+1) T _ _).run P w=_
    simp[Op.equalIn,cZ hu,fw,m8]
   |bool=>
    simp only[Option.some.injEq]at h;subst h
    obtain⟨x,_,rfl,⟨n,rfl⟩,rfl⟩:=hx
    obtain⟨y,_,rfl,⟨m,rfl⟩,rfl⟩:=b
    rw[oq hu rfl,oq hu rfl]
    show(Op.equalIn (D+d+1) T _ _).run P w=_
    simp[Op.equalIn,cZ hu,fw,m8]
   |string=>
    simp only[Option.some.injEq]at h;subst h
    obtain⟨x,_,rfl,⟨n,rfl⟩,rfl⟩:=hx
    obtain⟨y,_,rfl,⟨m,rfl⟩,rfl⟩:=b
    rw[oq hu rfl,oq hu rfl]
    show(Op.equalIn (D+d+1) T _ _).run P w=_
    simp[Op.equalIn,cZ hu,fw,m8,beq_toListBytes]
   |struct fs=>
    simp only at h
    split at h
    .cases h
    .rename_i j
     rw[oo hu rfl,oo hu rfl]
     have f:P.fieldsOf T=fs:=by simp[Program.fieldsOf,hu]
     show(Op.equalIn (D+d+1) T _ _).run P w=_
     rw[run_equalIn_struct w (D+d) T xs.toArray ys.toArray (by rw[f];exact hu) (by simpa using j),f]
     have:=AB (D:=D) c (xs:=xs) (ys:=ys) h (by simpa using hx) (by simpa using b) w
     simpa using this
   |array n e=>
    simp only at h
    split at h
    .rename_i ms g
     split at h
     .rename_i hc
      simp only[Option.some.injEq]at h;subst h
      obtain⟨u,i,l⟩:=flat_agg g
      rw[oo hu rfl,oo hu rfl]
      show(Op.equalIn (D+d+1) T _ _).run P w=_
      have:=AE (D:=D) c i l g hc (xs:=xs) (ys:=ys) n 0 (by simpa using hx) (by simpa using b) w
      rw[mR,iF,iF]at this
      rw[←this]
      simp only[Op.equalIn,Sem.run_bind,cZ hu,g2 i,Result.andThen,hc,Std.Legacy.Range.forIn_eq_forIn_range',Std.Legacy.Range.size]
      simp
      congr 1
      funext a w
      obtain⟨o,_⟩:=a
      cases o<;>rfl
     .cases h
    .cases h
   |_=>cases h
theorem kx.flat{T:TypeId}{d:TypeDesc}{ls:O cO}{xs ys:O aa}(a:P.underlying T=some d)(b:gH d=true)(hf:fE P 8 T=some ls)(hg:P.eqGuardType P.depth T=false)
 (hx:e2 ls xs) (c:e2 ls ys):kx P T xs.toArray ys.toArray (fw xs ys):=by
 refine⟨hg,λw=>?_⟩;have:=AF (P:=P) 9992 8 hf hx c w;rwa[oo a b,oo a b]at this
end
end aQ
namespace aQ
open Go Go.RowKit
theorem tK{n:Int}(h0:0<=n)(h1:n<=255):IntKind.u8.wrap n=n:=by
 simp only[IntKind.wrap,IntKind.signed,IntKind.bits];simp;omega
theorem xk{n:Int}(h0:0<=n)(h1:n<=4294967295):IntKind.u32.wrap n=n:=by
 simp only[IntKind.wrap,IntKind.signed,IntKind.bits];simp;omega
theorem gw{n:Int}(h0:0<=n)(h1:n<=18446744073709551615):IntKind.u64.wrap n=n:=by
 simp only[IntKind.wrap,IntKind.signed,IntKind.bits];simp;omega
theorem Ew(n:Int):IntKind.u8.wrap n=n%256:=by
 simp only[IntKind.wrap,IntKind.signed,IntKind.bits];simp
theorem Ex{a b:Int}(h:0<=a):Int.tdiv a b=a/b:=wI h
theorem Ey{a b:Int}(h:0<=a):Int.tmod a b=a%b:=mT h
def S(l:O UInt8):ByteArray:=⟨l.toArray⟩
theorem AG(l:O UInt8):(S l).toList=l:=ByteArray.toList_mk l
theorem AH(a b:O UInt8):(ByteArray.toList (S a)==ByteArray.toList (S b))=(a==b):=by rw[AG,AG]
theorem Ez(ns:O Int):Ay ns=S (ns.map λn=>UInt8.ofNat n.toNat):=by
 have h:∀ (ns:O Int) (r:O UInt8),ns.foldl (λr n=>r.push (UInt8.ofNat n.toNat)) (S r)=S (r++ns.map λn=>UInt8.ofNat n.toNat):=by
  intro ns
  induction ns with
  |nil=>intro r;simp
  |cons n ns a=>
   intro r;have e:(S r).push (UInt8.ofNat n.toNat)=S (r++ [UInt8.ofNat n.toNat]):=by
    apply ByteArray.ext;simp[S,ByteArray.push]
   simp only[List.foldl_cons,e,a,g0,cz,lW,hU]
 exact h ns []
theorem add_add(A:ag)(n m:Nat):(A.add n).add m=A.add (n+m):=by
 unfold Addr.add;by_cases h1:n=0
 .subst h1;simp
 .by_cases h2:m=0
  .subst h2;simp
  .rw[if_neg h1,if_neg h2,if_neg I]
   simp[Nat.add_assoc]
def put(f:Nat->Int)(i:Nat)(v:Int):Nat->Int:=λj=>if j=i then v else f j
section
variable {w w':J}{b m i:Nat}{T:TypeId}{f:Nat->Int}
theorem af.gx{w0 w:J}{b i:Nat}(h:af (λq=>q=b) w0 w)(v:aa):af (λq=>q=b) w0 (w.setCell ⟨b,i,none⟩ v):=af.set h (λ_=>rfl) v
theorem af.jC{w0 w:J}{b i:Nat}(h:af (λq=>q=b) w0 w)(vs:O aa)(j:Nat):af (λq=>q=b) w0 (aQ.setCells w ⟨b,i,none⟩ j vs):=af.setCells (W:=λq=>q=b) (A:=⟨b,i,none⟩) (λ_=>rfl) vs j h
end
theorem mb{b o:Nat}{z l m:Nat}(h:m≠l):aY (some (Addr.mk b o none)) z l m=some ⟨b,o+l*z,none⟩:=by
 simp[aY,h,aA]
theorem Ext.trans{a b c:J}(h1:Ext a b)(h2:Ext b c):Ext a c:=af.trans h1 h2
theorem Ext.dS{w0 w1 ai:J}{W:Nat->Prop}(h1:Ext w0 w1)(h2:af W w1 ai)(h:∀k,W k->w0.heap.size<=k):Ext w0 ai:=
 ⟨h2.os.trans h1.os,h2.tape.trans h1.tape,h2.output.trans h1.output,eK h1.size h2.size,λk a _=>by
  rw[h2.block k (fa a h1.size) (λcw=>by have:=h k cw;omega),h1.block k a id]⟩
end aQ
namespace aQ
open Go
def p3(P:Program)(f:FuncId)(args:Array aa)(w:J)(K:J->Prop):Prop:=
 hX P f/\CallsD P f args .returning w λe a w'=>(∃v,e=.returned v)/\a=.returning/\K w'
def xl(P:Program)(tk:TypeId->dD)(c:Code)(K:FuncId->Array aa->Array aa->Env->J->Prop)(e:Env)(w:J):Prop:=
 match c with
 | .region _ ops false=>match ops.toList with
  | [a,b]=>match a.guard,b.guard,b.dst,b.op with
   |none,none,none,.defer call=>match call.callee,call.args.toList with
    | .value x,[]=>jx P tk a (λv w'=>match ev (c8 a.dst v e) x with|some (.func (.func f) first cap)=>K f first cap (c8 a.dst v e) w'|_=>False) e w
    |_,_=>False
   |_,_,_,_=>False
  |_=>False
 |_=>False
def rS(P:Program)(tk:TypeId->dD):aN->Code->(Exit->Env->J->Prop)->(FuncId->Array aa->Array aa->Exit->Env->J->Prop)->Env->J->Prop
 | .seq .leaf B,.seq a b,_,Kd,e,w=>xl P tk a (λf first cap c w'=>D P tk B b (Kd f first cap) c w') e w
 | .seq A B,.seq a b,K,Kd,e,w=>D P tk A a (λx c w'=>match x with| .normal=>rS P tk B b K Kd c w'|x=>K x c w') e w
 |_,_,_,_,_,_=>False
def EA(P:Program)(tk:TypeId->dD)(a:O ResultVar)(R:aa->J->Prop)(f:FuncId)(first cap:Array aa)(x:Exit)(e:Env)(w:J):Prop:=
 match x with
 | .normal| .ret=>p3 P f (first++cap) w λw'=>l9 P tk a e w' λvs=>R (pX vs) w'
 |_=>False
def xm(P:Program)(tk:TypeId->dD)(A:aN)(fn:Func)(args:O aa)(w:J)(R:aa->J->Prop):Prop:=
 match fn.body with
 |some c=>rS P tk A c (Ap P tk fn.results.toList R) (EA P tk fn.results.toList R) (og 0 args) w
 |none=>False
variable {P:Program}{tk:TypeId->dD}
def rT(f:FuncId)(first cap:Array aa):Deferred:={target:=.fn (.func f) cap,args:=first++ #[]}
theorem EB{c:Code}{K:FuncId->Array aa->Array aa->Env->J->Prop}{e:Env}{a:Act}{w:J}(au:dh e a)(q:∀d∈writes c,d<a.tmps.size)(h:xl P tk c K e w):
 c.wp P (λx l w'=>x=.normal/\∃f first cap,l.defers=rT f first cap::a.defers/\l.tmps.size=a.tmps.size/\∃n,dh n l/\K f first cap n w') a w:=by
 unfold xl at h;split at h
 case h_2=>exact h.elim
 rename_i id ops;split at h
 case h_2=>exact h.elim
 rename_i b j o;split at h
 case h_2=>exact h.elim
 rename_i call r t u y;split at h
 case h_2=>exact h.elim
 rename_i x hc tG;refine wp_region_list ?_;rw[o];have w1:Region.wanted b (yielded ops a.tmps)=true:=by unfold Region.wanted;rw[r]
 simp only[wpList,w1,if_true];refine .inl ((tq au h).wp ?_);intro v w' m;have z:Region.wanted j (yielded ops (a.put b.dst v).tmps)=true:=by unfold Region.wanted;rw[t]
 simp only[z,if_true];refine .inl ?_;split at m
 case h_2=>exact m.elim
 rename_i f first cap A;have p:dh (c8 b.dst v e) (a.put b.dst v):=au.put λk i=>q k (by simp[writes,o,bK,i]);have B:call.args= #[]:=by
  have:=congrArg List.toArray tG;simpa using this
 have C:(execOp (a.put b.dst v).eval j).run P w'=.ok (.defer (rT f first cap)) w':=by
  have D:∀g:Operand->aa,Array.map g #[]= #[]:=λg=>by simp
  simp only[execOp,y,resolve,hc,B,p.ev A,D];rfl
 show j.upon P _ _ _ ((execOp (a.put b.dst v).eval j).run P w');rw[C,Oper.upon_defer,u];refine⟨trivial,f,first,cap,?_,?_,c8 b.dst v e,?_,m⟩
 .have:=(dR.put (a:=a) (d:=b.dst) (v:=v) (ds:=bK [b]) (λk i=>by simp[bK,i])).defers
  show rT f first cap::(a.put b.dst v).defers=_;rw[this]
 .exact(dR.put (a:=a) (d:=b.dst) (v:=v) (ds:=bK [b]) (λk i=>by simp[bK,i])).size
 .exact⟨λs v hs=>p.get s v hs⟩
theorem EC(p:P.follows .mixedOrders=true):∀ (A:aN) (c:Code) (K:Exit->Env->J->Prop) (Kd:FuncId->Array aa->Array aa->Exit->Env->J->Prop) (e:Env) (a:Act) (w:J),dh e a->a.defers=[]->
 (∀d∈writes c,d<a.tmps.size)->rS P tk A c K Kd e w->
 c.wp P (λx m w'=>(m.defers=[]/\∃j,dh j m/\K x j w')\/∃f first cap,m.defers=[rT f first cap]/\∃j,dh j m/\Kd f first cap x j w') a w:=by
 intro A
 induction A with
 |seq A B D r=>
  intro c K Kd e a w au hd k h;unfold rS at h;split at h
  case h_3=>exact h.elim
  .rename_i s x y n
   cases n;have hx:∀d,d∈writes x->d∈writes (.seq x y):=λd hd=>by simp[writes,hd]
   have o:∀d,d∈writes y->d∈writes (.seq x y):=λd hd=>by simp[writes,hd]
   refine wp_seq (jz (EB au (λd hd=>k d (hx d hd)) h) ?_);rintro ex a1 w1 ⟨rfl,f,first,cap,h1,h2,b,g,t⟩;refine jz (tF p B y _ b a1 w1 g (λd hd=>by rw[h2];exact k d (o d hd)) t) ?_;rintro ex a2 ai ⟨u,v,z,C⟩;exact .inr ⟨f,first,cap,by rw[u.defers,h1,hd],v,z,C⟩
  .rename_i E s x y _ n
   cases n;have hx:∀d,d∈writes x->d∈writes (.seq x y):=λd hd=>by simp[writes,hd]
   have o:∀d,d∈writes y->d∈writes (.seq x y):=λd hd=>by simp[writes,hd]
   refine wp_seq (jz (tF p A x _ _ a _ au (λd hd=>k d (hx d hd)) h) ?_);rintro ex a1 w1 ⟨q,b,g,h1⟩;have i:a1.defers=[]:=by rw[q.defers,hd]
   cases ex with
   |normal=>exact r y _ _ b a1 w1 g i (λd hd=>by rw[q.size];exact k d (o d hd)) h1
   |exit id=>exact .inl ⟨i,b,g,h1⟩
   |goto l=>exact .inl ⟨i,b,g,h1⟩
   |ret=>exact .inl ⟨i,b,g,h1⟩
   |panic ch=>exact .inl ⟨i,b,g,h1⟩
   |outgrown=>exact .inl ⟨i,b,g,h1⟩
 |_=>intro c K Kd e a w au hd k h;unfold rS at h;exact h.elim
theorem AI{fn:Func}{args:O aa}(a:args.length<=fn.ntmps):dh (og 0 args) {tmps:=args.toArray++Array.replicate (fn.ntmps-args.toArray.size) undef,defers:=[]}:=by
 constructor;intro s v hs;obtain⟨_,h2⟩:=xe hs;simp only[mQ]at h2;have aH:s<args.length:=(ju.1 h2).1;simp[Array.getElem?_append,aH];rw[dC aH]at h2;exact Option.some.inj h2
theorem ED{f:FuncId}{fn:Func}{A:aN}{args:O aa}{w:J}{K:J->Prop}(m:P.follows .mixedOrders=true)(hc:hX P f)
 (hf:P.funcs[f]? =some fn) (b:oh fn args.length=true) (h:pY P tk A fn args w λ_ w'=>K w'):p3 P f args.toArray w K:=by
 refine⟨hc,?_⟩;unfold pY at h;unfold oh at b
 cases g:fn.body with
 |none=>rw[g]at h;exact h.elim
 |some c=>
  rw[g]at h b;simp only[c7]at h b;obtain⟨n,o⟩:=b;have p:=mP o;have q:(args.toArray++Array.replicate (fn.ntmps-args.toArray.size) undef).size=fn.ntmps:=by simp;omega
  refine(callsD_of_wp (R:=λe w'=>(∃v,e=.returned v)/\K w') hf g ?_).mono λe u w' ⟨h1,h2,r⟩=>⟨h2,h1,r⟩;refine jz (tF m A c _ _ _ w (AI p) (λd hd=>?_) h) ?_
  .have h1:=pz.1 n d hd
   have h2:=mP h1;show d<(args.toArray++Array.replicate (fn.ntmps-args.toArray.size) undef).size;rw[q];omega
  .rintro x s w' ⟨t,y,k,a⟩
   have hd:s.defers=[]:=t.defers
   cases x with
   |normal=>
    obtain⟨vs,i,j⟩:=l_ k a;exact⟨hd,_,om i,⟨_,rfl⟩,j⟩
   |ret=>
    obtain⟨vs,i,j⟩:=l_ k a;exact⟨hd,_,om i,⟨_,rfl⟩,j⟩
   |exit id=>exact a.elim
   |goto l=>exact a.elim
   |panic ch=>exact a.elim
   |outgrown=>exact a.elim
theorem EE{f:FuncId}{fn:Func}{A:aN}{args:O aa}{w:J}{R:aa->J->Prop}(p:P.follows .mixedOrders=true)
 (hf:P.funcs[f]? =some fn) (n:oh fn args.length=true) (h:xm P tk A fn args w R):
 Calls P f args.toArray w λe w'=>∃v,e=.returned v/\R v w':=by
 unfold xm at h;unfold oh at n
 cases o:fn.body with
 |none=>rw[o]at h;exact h.elim
 |some c=>
  rw[o]at h n;simp only[c7]at h n;obtain⟨q,r⟩:=n;have s:=mP r;have t:(args.toArray++Array.replicate (fn.ntmps-args.toArray.size) undef).size=fn.ntmps:=by simp;omega
  refine calls_of_wp_defers hf o ?_;refine jz (EC p A c _ _ _ _ w (AI s) rfl (λd hd=>?_) h) ?_
  .have h1:=pz.1 q d hd
   have h2:=mP h1;show d<(args.toArray++Array.replicate (fn.ntmps-args.toArray.size) undef).size;rw[t];omega
  .have key:∀ {b:Act}{w':J}{j:Env}{g:FuncId}{first cap:Array aa},b.defers=[rT g first cap]->dh j b->(p3 P g (first++cap) w' λw'=>l9 P tk fn.results.toList j w' λvs=>R (pX vs) w')->
    Leaves P fn b.tmps (λe w'=>∃v,e=.returned v/\R v w') b.defers .returning w':=by
    intro b w' j g first cap hd i ⟨hc,a⟩;rw[hd];refine leaves_cons (f:=g) (args:=first++cap) (by simp) (by simp[invoke,zP hc]) (a.mono ?_);rintro _ _ ai ⟨⟨v,rfl⟩,rfl,u⟩;obtain⟨vs,k,m⟩:=l_ i u;exact⟨_,om k,_,rfl,m⟩
   rintro x b w' (⟨hd,j,i,a⟩|⟨g,first,cap,hd,j,i,a⟩)
   .cases x with
    |normal=>
     obtain⟨vs,k,m⟩:=l_ i a;show Leaves _ _ _ _ b.defers _ _;rw[hd];exact⟨_,om k,_,rfl,m⟩
    |ret=>
     obtain⟨vs,k,m⟩:=l_ i a;show Leaves _ _ _ _ b.defers _ _;rw[hd];exact⟨_,om k,_,rfl,m⟩
    |exit id=>exact a.elim
    |goto l=>exact a.elim
    |panic ch=>exact a.elim
    |outgrown=>exact a.elim
   .cases x with
    |normal=>exact key hd i a
    |ret=>exact key hd i a
    |exit id=>exact a.elim
    |goto l=>exact a.elim
    |panic ch=>exact a.elim
    |outgrown=>exact a.elim
end aQ
namespace aQ
open Go Go.RowKit
def EF:cO->aa->Prop
 | .int k,v=>∃n:Int,v=.int k n/\k.min<=n/\n<=k.max
 | .bool,v=>∃b:al,v=.bool b
 | .str,v=>∃s:ByteArray,v=.string s/\s.size<=maxLen
 |_,_=>False
def h4:O cO->O aa->Prop
 | [],vs=>vs=[]
 |l::ls,vs=>∃v us,vs=v::us/\EF l v/\h4 ls us
theorem xn:∀ {ls ms:O cO}{vs us:O aa},h4 ls vs->h4 ms us->h4 (ls++ms) (vs++us)
 | [],_,_,_,h,h2=>by cases h;exact h2
 |l::ls,ms,vs,us,h,h2=>by
  obtain⟨v,vs,rfl,h1,h⟩:=h
  exact⟨v,_,rfl,h1,xn h h2⟩
theorem xo:∀ {ls ms:O cO}{vs:O aa},h4 (ls++ms) vs->∃us ts,vs=us++ts/\h4 ls us/\h4 ms ts
 | [],_,vs,h=>⟨[],vs,rfl,rfl,h⟩
 |l::ls,ms,vs,h=>by
  obtain⟨v,us,rfl,h1,h2⟩:=h
  obtain⟨a,b,rfl,c,d⟩:=xo h2
  exact⟨v::a,b,rfl,⟨v,a,rfl,h1,c⟩,d⟩
theorem AJ{P:Program}{tL:TypeId->av (O cO)}{cs:O aa}{R:TypeId->O aa->Prop}(c:∀ {T:TypeId}{ls:O cO}{us:O aa},tL T=some ls->R T us->h4 ls us):
 ∀ {fs:O Field}{o:Nat}{ls:O cO},jB tL P fs o=some ls->o+ls.length=cs.length->(∀f∈fs,R f.type ((cs.drop f.offset).take (P.cellsOf f.type)))->h4 ls (cs.drop o)
 | [],o,ls,h,a,_=>by
  simp only[jB,Option.some.injEq]at h
  subst h
  exact List.drop_of_length_le (by simp at a;omega)
 |f::fs,o,ls,h,a,d=>by
  simp only[jB]at h
  split at h
  .cases h
  .rename_i hf
   have i:f.offset=o:=by
    by_cases e:f.offset=o
    .exact e
    .exact absurd (.inr e) hf
   subst i;split at h
   .rename_i ms j
    split at h
    .rename_i hc
     cases b:jB tL P fs (f.offset+ms.length) with
     |none=>simp[b]at h
     |some k=>
      simp only[b,lY,Option.some.injEq]at h;subst h;have h1:=c j (d f (by simp));have h2:=AJ c (fs:=fs) (cs:=cs) b (by simp at a;omega) (λg hg=>d g (by simp[hg]));rw[hc]at h1;have:=xn h1 h2;rwa[←kT,fI]at this
    .cases h
   .cases h
theorem AK{ls:O cO}{cs:O aa}:∀ {n i:Nat},(∀j,i<=j->j<i+n->h4 ls ((cs.drop (j*ls.length)).take ls.length))->cs.length=(i+n)*ls.length->h4 (m7 ls n) (cs.drop (i*ls.length))
 |0,i,_,a=>List.drop_of_length_le (by simp at a;omega)
 |n+1,i,h,a=>by
  have h1:=h i (bl _) I
  have h2:=AK (n:=n) (i:=i+1) (λj h1 h2=>h j I I) (by rw[a];congr 1;omega)
  have:=xn h1 h2
  rw[show(i+1)*ls.length=i*ls.length+ls.length by rw[ic,nR],←kT,fI]at this
  exact this
theorem rU{P:Program}{w:J}:∀ (d:Nat) {T:TypeId}{ls:O cO}{fuel:Nat}{cs:O aa},fE P d T=some ls->P.cellsOf T=ls.length->gC P w fuel T cs->h4 ls cs
 |0,_,_,_,_,h,_,_=>by cases h
 |d+1,T,ls,fuel,cs,h,m,a=>by
  cases fuel with
  |zero=>cases a
  |succ f=>
   simp only[fE]at h
   cases hu:P.underlying T with
   |none=>simp[hu]at h
   |some u=>
    rw[hu]at h
    cases u with
    |int k=>
     simp only[Option.some.injEq]at h;subst h
     simp only[gC,hu]at a
     obtain⟨n,rfl,h1,h2⟩:=a
     exact⟨_,_,rfl,⟨n,rfl,h1,h2⟩,rfl⟩
    |bool=>
     simp only[Option.some.injEq]at h;subst h
     simp only[gC,hu]at a
     obtain⟨b,rfl⟩:=a
     exact⟨_,_,rfl,⟨b,rfl⟩,rfl⟩
    |string=>
     simp only[Option.some.injEq]at h;subst h
     simp only[gC,hu]at a
     obtain⟨s,rfl,h1⟩:=a
     exact⟨_,_,rfl,⟨s,rfl,h1⟩,rfl⟩
    |struct fs=>
     simp only at h
     split at h
     .cases h
     .simp only[gC,hu]at a
      have:=AJ (P:=P) (cs:=cs) (tL:=λT=>if (fE P d T).isSome/\∀ms,fE P d T=some ms->P.cellsOf T=ms.length then fE P d T else none) (R:=λT us=>gC P w f T us) (λ{T}{ls}{us} h1 h2=>by
       split at h1
       .rename_i q;exact rU d h1 (q.2 _ h1) h2
       .cases h1) (fs:=fs.toList) (o:=0) (ls:=ls) (by
        have key:∀ (fs:O Field) (o:Nat) (ls:O cO),jB (fE P d) P fs o=some ls->jB (λT=>if (fE P d T).isSome/\∀ms,fE P d T=some ms->P.cellsOf T=ms.length then fE P d T else none) P fs o=some ls:=by
         intro fs
         induction fs with
         |nil=>intro o ls h;exact h
         |cons g fs r=>
          intro o ls h;simp only[jB]at h⊢;split at h
          .cases h
          .rename_i hg
           rw[if_neg hg];split at h
           .rename_i ms c
            split at h
            .rename_i hc
             have t:(fE P d g.type).isSome/\∀ms,fE P d g.type=some ms->P.cellsOf g.type=ms.length:=by
              refine⟨by simp[c],λv p=>?_⟩;rw[c]at p;cases p;exact hc
             rw[if_pos t,c];simp only;rw[if_pos hc]
             cases l:jB (fE P d) P fs (o+ms.length) with
             |none=>rw[l]at h;cases h
             |some x=>rw[l]at h;rw[r _ _ l];exact h
            .cases h
           .cases h
        exact key _ _ _ h) (by rw[a.1,m];simp) (λg hg=>a.2 g (by simpa using hg))
      simpa using this
    |array n e=>
     simp only at h;split at h
     .rename_i ms c
      split at h
      .rename_i hc
       simp only[Option.some.injEq]at h;subst h;simp only[gC,hu]at a;have:=AK (ls:=ms) (cs:=cs) (n:=n) (i:=0) (λj _ y=>by
        have:=a.2 j I;rw[hc]at this;exact rU d c hc this) (by rw[a.1,m,AD];simp)
       simpa using this
      .cases h
     .cases h
    |_=>cases h
theorem EG{P:Program}{w:J}{T:TypeId}{d:TypeDesc}{ls:O cO}{v:aa}(h:j4 P w T v)(b:P.underlying T=some d)(c:gH d=true)(hf:fE P 8 T=some ls)(a:P.cellsOf T=ls.length):
 ∃cs:O aa,v=.agg cs.toArray/\h4 ls cs:=by
 unfold j4 at h;rw[b]at h
 cases d<;>simp only[gH,fT]at c<;>simp only at h
 .obtain⟨cs,rfl,fuel,h⟩:=h
  exact⟨cs.toList,by simp,rU 8 hf a h⟩
 .obtain⟨cs,rfl,fuel,h⟩:=h
  exact⟨cs.toList,by simp,rU 8 hf a h⟩
theorem AL:∀ {n:Nat}{cs:O aa},h4 (List.replicate n (.int .u8)) cs->∃l:O UInt8,l.length=n/\cs=l.map λb=>Value.int .u8 ((b.toNat:Nat):Int)
 |0,cs,h=>⟨[],rfl,h⟩
 |n+1,cs,h=>by
  obtain⟨v,us,rfl,⟨z,rfl,h0,h1⟩,h2⟩:=h
  obtain⟨l,a,rfl⟩:=AL h2
  obtain⟨h0,h1⟩:=Au h0 h1
  refine⟨UInt8.ofNat z.toNat::l,by simp[a],?_⟩
  simp only[g0,List.cons.injEq,Value.int.injEq,true_and,and_true]
  have e:(UInt8.ofNat z.toNat).toNat=z.toNat:=by simp;omega
  omega
end aQ
namespace aQ
open Go Go.RowKit
section
variable {α:Type}{P:Program}{w:J}{g4 lB T:TypeId}{enc:α->aa}
def en(enc:α->aa)(x:α×aa×Nat):MapEntry:=⟨enc x.1,x.2.1,x.2.2⟩
def mc(x:α×aa×Nat):α×aa:=(x.1,x.2.1)
def me[DecidableEq α](k:α):O (α×aa×Nat)->Nat->av (Nat×aa)
 | [],_=>none
 |x::L,i=>if k=x.1 then some (i,x.2.1) else me k L (i+1)
theorem AM{β:Type}(f:β->β)(x:β)(bt:O β):∀bc:O β,(bc++x::bt).modify bc.length f=bc++f x::bt
 | []=>rfl
 |y::bc=>by
  show y::((bc++x::bt).modify bc.length f)=_
  rw[AM f x bt bc];rfl
structure m9[DecidableEq α](P:Program)(g4:TypeId)(enc:α->aa):Prop where
 find:∀ (L:O (α×aa×Nat)) (k:α) (w:J),(Instr.findKey g4 (enc k) (L.map (en enc))).run P w=.ok (me k L 0) w
 check:∀ (b:al) (k:α) (w:J),(Instr.checkKey b 10000 g4 (enc k)).run P w=.ok () w
 bits:∀k,Instr.sameBits 10000 (enc k) (enc k)=true
theorem xp[DecidableEq α]{k:α}:∀ {L:O (α×aa×Nat)}{i:Nat},(∀x∈L,x.1≠k)->me k L i=none
 | [],_,_=>rfl
 |x::L,i,h=>by
  rw[me,if_neg (λe=>h x (by simp) e.symm)]
  exact xp λy a=>h y (by simp[a])
theorem xq[DecidableEq α]{k:α}{v:aa}{n:Nat}{bt:O (α×aa×Nat)}:∀ {bc:O (α×aa×Nat)}{i:Nat},(∀x∈bc,x.1≠k)->me k (bc++(k,v,n)::bt) i=some (i+bc.length,v)
 | [],i,_=>by simp[me]
 |x::L,i,h=>by
  rw[lW,me,if_neg (λe=>h x (by simp) e.symm),xq λy a=>h y (by simp[a])]
  simp;omega
theorem m9.int{k:IntKind}(hu:P.underlying g4=some (.int k)):m9 P g4 (λn:Int=>Value.int k n) where
 find L n w:=by
  have h:∀ (L:O (Int×aa×Nat)) (i:Nat),Instr.findNow (.int k) (.int k n) (L.map (en λn:Int=>Value.int k n)) i=some (me n L i):=by
   intro L
   induction L with
   |nil=>intro i;rfl
   |cons x L a=>
    intro i;simp only[g0,Instr.findNow,en,Instr.sameNow,if_true,me];by_cases hx:n=x.1
    .subst hx;simp
    .rw[if_neg hx,show(n==x.1)=false by simpa using hx]
     exact a (i+1)
  simp[Instr.findKey,cZ hu,h]
 check b n w:=by
  show(Instr.checkKey b (9999+1) g4 (.int k n)).run P w=_;unfold Instr.checkKey;simp only[Sem.run_bind,cZ hu,Result.andThen];rfl
 bits n:=by
  show(k==k&&n==n)=true;simp
def eB(w:J)(r:Nat)(enc:α->aa)(M:O (α×aa)):Prop:=
 ∃ (L:O (α×aa×Nat)) (a:Nat),w.heap[r]? =some (.map (L.map (en enc)).toArray a)/\(L.map mc).Perm M/\(L.map (·.1)).Nodup/\(L.map (·.2.2)).Nodup/\∀x∈L,x.2.2<a
def EH(w:J)(r:Nat)(enc:α->aa)(M:O (α×aa))(k:α)(v:aa)(st:Int):Prop:=
 ∃ (bc bt:O (α×aa×Nat)) (n a:Nat),w.heap[r]? =some (.map ((bc++(k,v,n)::bt).map (en enc)).toArray a)/\((bc++bt).map mc).Perm M/\((bc++(k,v,n)::bt).map (·.1)).Nodup/\((bc++(k,v,n)::bt).map (·.2.2)).Nodup/\(∀x∈bc++(k,v,n)::bt,x.2.2<a)/\st=(n:Int)
variable {r:Nat}{M g5:O (α×aa)}{k:α}{v:aa}{st:Int}{w':J}
theorem eB.lt(h:eB w r enc M):r<w.heap.size:=by
 obtain⟨L,a,h,_⟩:=h;exact(lp.1 h).1
theorem eB.ah{W:Nat->Prop}(h:eB w r enc M)(hc:af W w w')(a:¬W r):eB w' r enc M:=by
 have b:=h.lt;obtain⟨L,c,h,d⟩:=h;exact⟨L,c,by rw[hc.block r b a];exact h,d⟩
theorem eB.ext(h:eB w r enc M)(hc:Ext w w'):eB w' r enc M:=h.ah hc id
theorem eB.perm(h:eB w r enc M)(a:M.Perm g5):eB w r enc g5:=by
 obtain⟨L,b,h,h1,c⟩:=h;exact⟨L,b,h,h1.trans a,c⟩
theorem eB.split(h:eB w r enc ((k,v)::M)):∃n,EH w r enc M k v (n:Nat):=by
 obtain⟨L,b,h,h1,h2,c,d⟩:=h;have e:(k,v)∈L.map mc:=h1.mem_iff.2 (by simp);obtain⟨x,hx,a⟩:=fD.1 e;obtain⟨bc,bt,rfl⟩:=List.append_of_mem hx;obtain⟨f,g,n⟩:=x;simp only[mc,Prod.mk.injEq]at a;obtain⟨rfl,rfl⟩:=a;refine⟨n,bc,bt,n,b,h,?_,h2,c,d,rfl⟩;rw[fJ,g0]at h1;have:=(mU.symm.trans h1);rw[fJ];exact this.cons_inv
theorem eB.keys(h:eB w r enc M):(M.map (·.1)).Nodup:=by
 obtain⟨L,a,h,h1,h2,b,c⟩:=h;have:=h1.map (·.1);rw[nS]at this;exact this.nodup_iff.1 h2
theorem eB.EI(a:(k,v)∈M):∃g5,M.Perm ((k,v)::g5):=by
 obtain⟨A,B,rfl⟩:=List.append_of_mem a;exact⟨A++B,mU⟩
def iq(w:J)(r:Nat)(o:Obj):J:={w with heap:=w.heap.setIfInBounds r o}
theorem rV(w:J)(r:Nat)(o:Obj):af (λq=>q=r) w (iq w r o):=
 ⟨rfl,rfl,rfl,by simp[iq],λk _ a=>by
  have:¬r=k:=λe=>a e.symm
  simp[iq,this]⟩
theorem tM(w:J)(r:Nat)(o:Obj):(iq w r o).heap.size=w.heap.size:=by simp[iq]
theorem tN{w:J}{r:Nat}(h:r<w.heap.size)(o:Obj):(iq w r o).heap[r]? =some o:=by simp[iq,h]
theorem mf{es:Array MapEntry}{a:Nat}(h:w.heap[r]? =some (.map es a)):(getObj r).run P w=.ok (.map es a) w:=by simp[getObj,Sem.run,h]
theorem xr{es:Array MapEntry}{a:Nat}(h:w.heap[r]? =some (.map es a))(o:Obj):(setObj r o).run P w=.ok () (iq w r o):=by simp[setObj,Sem.run,h,iq]
theorem AN{bc bt:O (α×aa×Nat)}{x:α×aa×Nat}(h:((bc++x::bt).map (·.1)).Nodup):∀y∈bc,y.1≠x.1:=by
 intro y a e;rw[fJ,g0,s5]at h;exact h.2.2 _ (List.mem_map_of_mem a) _ (pB ..) e
theorem AO{L:O (α×aa×Nat)}(h1:(L.map mc).Perm M)(a:∀v,(k,v)∉M):∀x∈L,x.1≠k:=by
 intro x hx e;refine a x.2.1 (h1.mem_iff.1 (fD.2 ⟨x,hx,?_⟩));simp[mc,e]
theorem eB.make(T:TypeId)(w:J):(Instr.makeMap T none).run P w=.ok (.map (some w.heap.size)) (w.alloc (.map #[] 0))/\eB (w.alloc (.map #[] 0)) w.heap.size enc ([]:O (α×aa)):=by
 refine⟨by simp[Instr.makeMap],[],0,?_,by simp,by simp,by simp,by simp⟩;show(w.heap.push (.map #[] 0))[w.heap.size]? =_;simp
theorem eB.AP[DecidableEq α](a:m9 P g4 enc)(b:P.underlying T=some (.map g4 lB))(h:eB w r enc M)(c:(k,v)∈M)(ok:al):
 (Instr.lookup T (.map (some r)) (enc k) ok).run P w=.ok (if ok then .tuple #[v,.bool true] else v) w:=by
 obtain⟨g5,d⟩:=eB.EI c;obtain⟨n,bc,bt,e,f,h,h1,h2,g,i,_⟩:=(h.perm d).split;have hf:=a.find (bc++(k,v,e)::bt) k w;rw[xq (AN h2)]at hf;simp only[Instr.lookup,Sem.run_bind,cZ b,Result.andThen,mf h,Sem.run_pure,a.check,hf]
theorem eB.AQ[DecidableEq α](a:m9 P g4 enc)(b:P.underlying T=some (.map g4 lB)){i:TypeInfo}{z:aa}(hi:P.info? lB=some i)(c:i.zero=some z)(h:eB w r enc M)(d:∀v,(k,v)∉M)(ok:al):
 (Instr.lookup T (.map (some r)) (enc k) ok).run P w=.ok (if ok then .tuple #[z,.bool false] else z) w:=by
 obtain⟨L,e,h,h1,h2,f,g⟩:=h;have hf:=a.find L k w;rw[xp (AO h1 d)]at hf;simp only[Instr.lookup,Sem.run_bind,cZ b,Result.andThen,mf h,Sem.run_pure,a.check,hf,zeroValue,mZ hi,c]
end
end aQ
namespace aQ
open Go Go.RowKit
theorem AR(c:Array aa):∀ (vs:O aa) (i:Nat) (c:Array aa),(gk c i vs).toList.drop (i+vs.length)=c.toList.drop (i+vs.length)
 | [],_,_=>rfl
 |v::vs,i,c=>by
  simp only[gk,fY]
  rw[show i+(vs.length+1)=i+1+vs.length from I,AR c vs (i+1) (c.setIfInBounds i v)]
  rw[Array.toList_setIfInBounds,List.drop_set]
  rw[if_pos I]
theorem k4(vs:O aa)(c:Array aa)(i:Nat)(h:i+vs.length<=c.size):(gk c i vs).toList=c.toList.take i++vs++c.toList.drop (i+vs.length):=by
 rw[←fI (i+vs.length) (gk c i vs).toList,rP vs c i h,AR c]
section
variable {P:Program}{w:J}
theorem tO{mg cE ty e:TypeId}{d:TypeDesc}{sz:Nat}(hd:P.underlying mg=some (.slice e))(he:P.underlying e=some d)(g:P.cellsOf e=sz){A:ag}{dl ot n:Nat}{x:ad}(h:Nat.min x.len dl=n){xs:O aa}(hx:Src sz w ⟨x.a,n,x.cap⟩ xs)(b:bI w A xs):
 Sem.run P (Builtin.copy_ #[mg,cE] ty #[.slice (some A) dl ot,.slice x.a x.len x.cap]) w=.ok (.int .i64 ((n:Nat):Int)) (setCells w A 0 xs):=by
 have f:=g2 (w:=w) he;rw[g]at f;have hf:Sem.run P (Builtin.firstCells sz n (.slice x.a x.len x.cap)) w=.ok xs.toArray w:=by
  obtain⟨a,l,c⟩:=x
  cases a<;>exact p0 (P:=P) hx
 have i:=pM (P:=P) (A:=A) xs 0 w (by simpa using b.1) b.2;simp only[Builtin.copy_,ri,mN,List.getElem?_cons_succ,Sem.run_bind,cZ hd,Result.andThen,Builtin.lenOf,Sem.run_pure,h,f,hf,i];rfl
set_option maxRecDepth 4000 in
theorem EJ {gi:Array TypeId}{cB cE j5 e:TypeId}{i:TypeInfo}{k:IntKind}{z:aa}{sz n:Nat}{s:ad}{c:O aa} (h0:gi[0]? =some cE) (h1:gi[1]? =some j5)
 (hs:P.underlying cE=some (.slice e)) (hx:P.underlying j5=some (.int k)) (hi:P.info? e=some i) (hd:(P.underlying e).isSome=true) (h:i.zero=some z) (j:z.cells.size=sz) (p:P.cellsOf e=sz)
 (r:i.bytes≠0) (hold:Src sz w s c) (t:s.cap<s.len+n) (l:(2*(s.len+n)+1000)*i.bytes<=281474976710656):
 ∃ (b:Nat) (zs rest:O aa),s.len+n<=b/\b<=maxLen/\zs.length=n*sz/\rest.length=(b-(s.len+n))*sz/\
  Sem.run P (Builtin.append_ gi cB #[.slice s.a s.len s.cap,.int .i64 ((n:Nat):Int)]) w=
   .ok (.slice (some ⟨w.heap.size,0,none⟩) (s.len+n) b) (w.drew.alloc (.cells (c++zs++rest).toArray e)):=by
 obtain⟨d,hd⟩:=j3 _ hd;have m:=g2 (w:=w) hd;rw[p]at m;have u:=Aw t;have S:Builtin.nextslicecap (s.len+n) s.cap*i.bytes<=281474976710656:=eK (mS _ u) l;have T:s.len+n<=281474976710656:=by
  have:s.len+n<=(2*(s.len+n)+1000)*i.bytes:=by
   have:=Nat.mul_le_mul_left (2*(s.len+n)+1000) (Nat.one_le_iff_ne_zero.2 r);omega
  omega
 have v:n*i.bytes<=281474976710656:=eK (mS _ (by omega:n<=2*(s.len+n)+1000)) l
 let q:Question:=.appendCap (s.len+n) s.cap e
 let b:Nat:=q.cut (w.tape w.drawn q)
 have x:q.forced=false:=rfl;have A:s.len+n<=b:=by show s.len+n<=s.len+n+_;omega
 have B:b<=maxLen:=by
  show s.len+n+_%(2^63-(s.len+n))<=2^63-1;have:=gZ (w.tape w.drawn q) (y:=2^63-(s.len+n)) I;omega
 have C:Src sz w.drew s c:=hold.ext (af.drew (.refl _ _));have D:=p0 (P:=P) C;have E:∀n (w':J),(askRoom n).run P w'=.ok () w':=λn w'=>by unfold askRoom;split<;>rfl
 have F:(choose q).run P w=.ok b w.drew:=by
  show Sem.run P (.choose q .pure) w=_;simp only[Sem.run,x,fT,if_false];rfl
 have f:=λw:J=>mZ (w:=w) hi;refine⟨b,if n*sz=0 then [] else (Builtin.zeroCells z.cells n).toList,(Builtin.zeroCells z.cells (b-(s.len+n))).toList,A,B,?_,by simp[Builtin.zeroCells,j],?_⟩
 .split
  .rename_i h0;simp[h0]
  .simp[Builtin.zeroCells,j]
 have G:IntKind.i64.wrap ((n:Nat):Int)=(n:Int):=bn I I;have H:¬((n:Int)<0):=by omega
 have K:¬((n:Int)*(i.bytes:Int)>2^48):=by
  have:((n*i.bytes:Nat):Int)<=((281474976710656:Nat):Int):=Int.ofNat_le.2 v;rw[Int.natCast_mul]at this;have L:(2:Int)^48=((281474976710656:Nat):Int):=by decide+kernel
  rw[L];omega
 have M:¬(s.len+n<=s.cap):=by omega
 have N:¬((s.len+n:Nat):Int)>IntKind.i64.max:=by
  simp[IntKind.max,IntKind.signed,IntKind.bits];omega
 have Q:¬Builtin.nextslicecap (s.len+n) s.cap*i.bytes>2^48:=by
  have:(2:Nat)^48=281474976710656:=by decide+kernel
  omega
 have R:Sem.run P (choose (.appendCap (s.len+n) s.cap e)) w=.ok b w.drew:=F;unfold Builtin.append_;simp only[ri,mN,List.getElem?_cons_succ,h0,h1,Sem.run_bind,cZ hs,cZ hx,Result.andThen,m,Sem.run_pure,asInt,asIntOf,G,H,if_false,f,K,dg,M,N,false_and,Q,if_true,Bool.not_true,fT,R,E,D];by_cases o:n*sz=0
 .simp only[o,if_true,Sem.run_pure,zeroValue,f,h,Sem.run_bind,Result.andThen,newRow,newObj,Sem.run]
  have g:w.drew.heap.size=w.heap.size:=rfl;rw[g]
  congr 1
  show w.drew.alloc _=w.drew.alloc _
  congr 2
  simp
 .simp only[o,if_false,Sem.run_pure,zeroValue,f,h,Sem.run_bind,Result.andThen,newRow,newObj,Sem.run]
  have g:w.drew.heap.size=w.heap.size:=rfl;rw[g]
  congr 1
  show w.drew.alloc _=w.drew.alloc _
  congr 2
  simp
theorem EK{T o e:TypeId}{i:TypeInfo}{z:aa}{sz n c:Nat}{A:ag}(a:P.underlying T=some (.slice e))(hi:P.info? e=some i)(b:i.zero=some z)(d:z.cells.size=sz)(f:n≠0)
 (g:∀zs:O aa,zs=(Builtin.zeroCells z.cells n).toList->bI w A zs):
 ∃zs:O aa,zs.length=n*sz/\Sem.run P (Builtin.clear_ #[T] o #[.slice (some A) n c]) w=.ok (.tuple #[]) (setCells w A 0 zs):=by
 refine⟨(Builtin.zeroCells z.cells n).toList,by simp[Builtin.zeroCells,d],?_⟩;have hs:=g _ rfl;have h:=pM (P:=P) (A:=A) _ 0 w (by simpa using hs.1) hs.2
 cases n with
 |zero=>exact absurd rfl f
 |succ n=>
  simp only[Builtin.clear_,ri,mN,Sem.run_bind,cZ a,Result.andThen,zeroValue,mZ hi,b,Sem.run_pure,h]
end
theorem xt(a:av ag)(z c:Nat):aY a z 0 c=a:=by
 unfold aY;split
 .rfl
 .cases a with
  |none=>rfl
  |some A=>simp[add_zero']
theorem bm.rW{sz:Nat}{w:J}{b:Nat}{c:Array aa}{T:TypeId}(h:bm w b c T){o n cap:Nat}(d:o+n*sz<=c.size):Src sz w ⟨some ⟨b,o,none⟩,n,cap⟩ ((c.toList.drop o).take (n*sz)):=by
 refine⟨by simp;omega,(λh=>by cases h),λa e=>?_⟩
 cases e;have:=pZ h (n*sz) o 0 (by simpa using d);simpa using this
theorem bm.k5{w:J}{b o:Nat}{c:Array aa}{T:TypeId}(h:bm w b c T)(vs:O aa):bm (setCells w ⟨b,o,none⟩ 0 vs) b (gk c o vs) T:=by
 simpa using bm.rN vs o 0 h
theorem aW.mk'{sz:Nat}{T:TypeId}{w:J}{b n cap:Nat}{c:Array aa}{vs:O aa}(a:bm w b c T)(d:vs.length=n*sz)(e:n<=cap)(hc:cap<=maxLen)(hs:c.size=cap*sz)(f:c.toList.take (n*sz)=vs):aW sz T w ⟨some ⟨b,0,Option.none⟩,n,cap⟩ vs:=
 ⟨d,e,hc,.inr ⟨b,c,rfl,a,hs,f⟩⟩
theorem AS(A:ag)(a b:Nat):(A.add a).add b=A.add (a+b):=by
 unfold Addr.add;by_cases c:a=0
 .subst c;simp
 .by_cases d:b=0
  .subst d;simp
  .simp[c,d,Nat.add_assoc]
theorem tP{w:J}{A:ag}:∀ {n i:Nat}{vs:O aa}{j:Nat}{v:aa},bw w A i n=some vs->vs[j]? =some v->w.cell? (A.add (i+j))=some v
 |0,_,vs,j,v,h,a=>by simp[bw]at h;subst h;simp at a
 |n+1,i,vs,j,v,h,a=>by
  simp only[bw]at h
  cases h1:w.cell? (A.add i) with
  |none=>simp[h1]at h
  |some u=>
   cases h2:bw w A (i+1) n with
   |none=>simp[h1,h2]at h
   |some us=>
    simp only[h1,h2,Option.some.injEq]at h
    subst h
    cases j with
    |zero=>simp at a;subst a;exact h1
    |succ j=>
     have:=tP h2 (j:=j) (v:=v) (by simpa using a)
     rwa[show i+(j+1)=i+1+j from I]
theorem xu{w:J}{A:ag}:∀ (n i:Nat) (vs:O aa),vs.length=n->(∀j v,vs[j]? =some v->w.cell? (A.add (i+j))=some v)->bw w A i n=some vs
 |0,i,vs,a,_=>by
  cases vs with
  |nil=>simp[bw]
  |cons _ _=>simp at a
 |n+1,i,vs,a,h=>by
  cases vs with
  |nil=>simp at a
  |cons v vs=>
   simp only[bw]
   rw[show w.cell? (A.add i)=some v from h 0 v rfl,xu n (i+1) vs (by simpa using a) (λj x hx=>by have:=h (j+1) x (by simpa using hx);rwa[show i+(j+1)=i+1+j from I]at this)]
theorem xv{w:J}{A:ag}{n k m:Nat}{vs:O aa}(h:bw w A 0 n=some vs)(b:k+m<=n):bw w (A.add k) 0 m=some ((vs.drop k).take m):=by
 have c:=rO h;refine xu m 0 _ (by simp;omega) λj v a=>?_;rw[AS,show k+(0+j)=0+(k+j) from I];refine tP h ?_;rw[s4]at a;split at a
 .rwa[sZ]at a
 .cases a
theorem EL{a b:Nat}(h:a+b<=4000000):IntKind.wrap .i64 (Int.fdiv (IntKind.wrap .u64 (IntKind.wrap .i64 ((a:Int)+(b:Int)))) (2^(min (Int.toNat 1) 64)))=(((a+b)/2:Nat):Int):=by
 rw[bn (n:=(a:Int)+b) I I,gw I I];have e:(2:Int)^(min (Int.toNat 1) 64)=2:=rfl;rw[e,Int.fdiv_eq_ediv_of_nonneg _ I,bn I I];omega
section
variable {w:J}
end
theorem EM{w:J}{A:ag}{n m i:Nat}{xs ys:O aa}(h1:bw w A i n=some xs)(h2:bw w (A.add (i+n)) 0 m=some ys):bw w A i (n+m)=some (xs++ys):=by
 have b:=rO h1;have c:=rO h2;refine xu (n+m) i _ (by rw[cp,b,c]) λj v a=>?_;rw[List.getElem?_append]at a;split at a
 .exact tP h1 a
 .rename_i d
  have:=tP h2 a;rw[AS]at this;rwa[show i+n+(0+(j-xs.length))=i+j from I]at this
theorem p1.src{P:Program}{w:J}{e:TypeId}{s:ad}{α:Type}{c:α->O aa}{sz:Nat}(h:p1 P w e s)(k:P.cellsOf e=sz)(R:α->Prop)(m:∀fuel vs,gC P w fuel e vs->∃x:α,vs=c x/\R x):
 ∃l:O α,Src sz w s (l.map c).flatten/\l.length=s.len/\∀x∈l,R x:=by
 have i:=h.cell;rw[k]at i;have key:∀a,s.a=some a->∀n,n<=s.len->∃l:O α,bw w a 0 (n*sz)=some (l.map c).flatten/\l.length=n/\∀x∈l,R x:=by
  intro a d n
  induction n with
  |zero=>intro _;exact⟨[],by simp[bw],rfl,λr f=>by cases f⟩
  |succ n o=>
   intro u;obtain⟨l,h1,g,h2⟩:=o I;obtain⟨vs,p,fuel,q⟩:=i a d n (by have:=h.le;omega);obtain⟨r,rfl,t⟩:=m fuel vs q;refine⟨l++ [r],?_,by simp[g],λx hx=>?_⟩
   .rw[Nat.succ_mul,EM h1 (by rw[cR];exact p)]
    simp
   .rcases cK.1 hx with hx|hx
    .exact h2 x hx
    .rw[fb.1 hx];exact t
 cases b:s.a with
 |none=>
  have h0:s.len=0:=by have:=h.nil b;have:=h.le;omega
  exact⟨[],⟨by simp[h0],λ_=>rfl,λa d=>(by rw[b]at d;cases d)⟩,h0.symm,λr f=>by cases f⟩
 |some a=>
  obtain⟨l,h1,g,h2⟩:=key a b s.len (bl _);exact⟨l,⟨rO h1,λe=>(by rw[b]at e;cases e),λv j=>by rw[b]at j;cases j;exact h1⟩,g,h2⟩
end aQ
