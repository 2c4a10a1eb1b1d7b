/- What a Go program of the model must show, as text that can be read; sound against the kit. -/
import Derived.Carry
import Derived.ChangeArms
import Derived.ChangeVars
import Derived.Defers
import Derived.LaidLaws
import Derived.Laws.StructEq
import Derived.Lib.Overlaps
import Derived.MakeChecks
import Derived.WideKeyRuns
import Derived.Test.YtkdhdlfonmgheaaGreatKAFew1
namespace aR
open Go Go.RowKit
def iA(e7:TypeId->ar (O cB))(P:Program):O Field->Nat->ar (O cB)
 | [],_=>some []
 |f::fs,o=>if f.name= "_" \/f.offset≠o then none else
  match e7 f.type with
  |some ls=>if P.cellsOf f.type=ls.length then (iA e7 P fs (o+ls.length)).map (ls++ ·) else none
  |none=>none
def lz(ls:O cB):Nat->O cB
 |0=> []
 |n+1=>ls++lz ls n
def e7(P:Program):Nat->TypeId->ar (O cB)
 |0,_=>none
 |d+1,T=>match P.underlying T with
  |some (.int k)=>some [.int k]
  |some .bool=>some [.bool]
  |some .string=>some [.str]
  |some (.struct fs)=>if P.stoodInHeld T then none else iA (e7 P d) P fs.toList 0
  |some (.array n e)=>match e7 P d e with
   |some ls=>if P.cellsOf e=ls.length then some (lz ls n) else none
   |none=>none
  |_=>none
def ry:cB->Y->Prop
 | .int k,v=>∃n:Int,v=.int k n
 | .bool,v=>∃b:al,v=.bool b
 | .str,v=>∃s:ByteArray,v=.string s
 |_,_=>False
def dW:O cB->O Y->Prop
 | [],vs=>vs=[]
 |l::ls,vs=>∃v us,vs=v::us/\ry l v/\dW ls us
theorem pL:∀ {ls:O cB}{vs:O Y},dW ls vs->vs.length=ls.length
 | [],_,h=>by cases h;rfl
 |_::_,_,h=>by
  obtain⟨v,us,rfl,_,h⟩:=h
  simp[pL h]
theorem pM:∀ {ls ms:O cB}{vs:O Y},dW (ls++ms) vs->dW ls (vs.take ls.length)/\dW ms (vs.drop ls.length)
 | [],_,_,h=>⟨rfl,h⟩
 |l::ls,ms,vs,h=>by
  obtain⟨v,us,rfl,h1,a⟩:=h
  obtain⟨b,c⟩:=pM a
  exact⟨⟨v,_,rfl,h1,b⟩,c⟩
theorem uU:∀ {ls ms:O cB}{vs us:O Y},dW ls vs->dW ms us->dW (ls++ms) (vs++us)
 | [],_,_,_,h,a=>by cases h;exact a
 |l::ls,ms,vs,us,h,a=>by
  obtain⟨v,vs,rfl,h1,h⟩:=h
  exact⟨v,_,rfl,h1,uU h a⟩
def lA:Y->Y->al
 | .int _ a,.int _ b=>a==b
 | .bool a,.bool b=>a==b
 | .string a,.string b=>a.toList==b.toList
 |_,_=>false
def eY:O Y->O Y->al
 | [],_=>true
 |a::as,b::c=>lA a b&&eY as c
 |_::_,[]=>false
theorem BS{l:cB}{a b:Y}(c:ry l a)(d:ry l b):lA a b=true↔a=b:=by
 cases l<;>simp only[ry]at c d<;>try exact c.elim
 .obtain⟨n,rfl⟩:=c;obtain⟨m,rfl⟩:=d;simp[lA]
 .obtain⟨n,rfl⟩:=c;obtain⟨m,rfl⟩:=d;simp[lA]
 .obtain⟨n,rfl⟩:=c;obtain⟨m,rfl⟩:=d
  simp only[lA,ji,Value.string.injEq];rw[ByteArray.toList_eq,ByteArray.toList_eq];obtain⟨⟨x⟩⟩:=n;obtain⟨⟨y⟩⟩:=m;simp
theorem rz:∀ {ls:O cB}{as c:O Y},dW ls as->dW ls c->(eY as c=true↔as=c)
 | [],_,_,h1,d=>by cases h1;cases d;simp[eY]
 |l::ls,_,_,h1,d=>by
  obtain⟨a,as,rfl,e,f⟩:=h1
  obtain⟨b,c,rfl,g,h⟩:=d
  simp[eY,BS e g,rz f h]
theorem uV:∀ {as c cs ds:O Y},as.length=c.length->eY (as++cs) (c++ds)=(eY as c&&eY cs ds)
 | [],[],_,_,_=>by simp[eY]
 |a::as,b::c,cs,ds,h=>by
  simp only[o3,eY]
  rw[uV (by simpa using h),Bool.and_assoc]
 | [],_::_,_,_,h=>by simp at h
 |_::_,[],_,_,h=>by simp at h
def jS(P:Program)(T:TypeId)(cs:O Y):Y:=
 match P.underlying T with
 |some d=>if gh d then .agg cs.toArray else cs.headD undef
 |none=>undef
section
variable {P:Program}
theorem my{T:TypeId}{d:TypeDesc}{cs:O Y}(h:P.underlying T=some d)(a:gh d=true):jS P T cs=.agg cs.toArray:=by
 simp[jS,h,a]
theorem mz{T:TypeId}{d:TypeDesc}{v:Y}(h:P.underlying T=some d)(a:gh d=false):jS P T [v]=v:=by
 simp[jS,h,a]
theorem rA{T:TypeId}{cs us:O Y}{off:Nat}{d:TypeDesc}(a:P.underlying T=some d)(b:P.cellsOf T=us.length)(c:gh d=false->us.length=1)
 (h:(cs.drop off).take us.length=us) (w:J):(part T cs.toArray off).run P w=.ok (jS P T us) w:=by
 cases hd:gh d with
 |true=>
  rw[my a hd];have e:cs.toArray.extract off (off+us.length)=us.toArray:=by
   simp[h]
  simp[part,nE a,hd,gE a,b,h]
 |false=>
  obtain⟨v,rfl⟩:=List.length_eq_one_iff.1 (c hd);rw[mz a hd];have f:cs[off]? =some v:=by
   have:((cs.drop off).take 1)[0]? =some v:=by
    have g:List.take 1 (List.drop off cs)=[v]:=h;rw[g];rfl
   rw[List.getElem?_take_of_lt I,qN]at this;simpa using this
  simp[part,nE a,hd,f]
theorem flat_agg{d:Nat}{T:TypeId}{ls:O cB}(h:e7 P d T=some ls):∃u,P.underlying T=some u/\(gh u=false->ls.length=1):=by
 cases d with
 |zero=>cases h
 |succ d=>
  simp only[e7]at h
  cases hu:P.underlying T with
  |none=>simp[hu]at h
  |some u=>
   refine⟨u,rfl,λa=>?_⟩;rw[hu]at h
   cases u<;>simp only[gh,reduceCtorEq]at a h<;>first|(cases h;rfl)|cases h
theorem ya{d D:Nat}(i:∀ {T:TypeId}{ls:O cB}{xs ys:O Y},e7 P d T=some ls->dW ls xs->dW ls ys->∀w,(Op.equalIn (D+d) T (jS P T xs) (jS P T ys)).run P w=.ok (eY xs ys) w)
 {xs ys:O Y}:∀ {fs:O Field}{o:Nat}{ls:O cB},iA (e7 P d) P fs o=some ls->dW ls (xs.drop o)->dW ls (ys.drop o)->
  ∀w,(Op.eqFields (D+d) xs.toArray ys.toArray fs).run P w=.ok (eY (xs.drop o) (ys.drop o)) w
 | [],o,ls,h,hx,j,w=>by
  simp only[iA,Option.some.injEq]at h
  subst h
  have hx:xs.drop o=[]:=hx
  rw[hx]
  rfl
 |f::fs,o,ls,h,hx,j,w=>by
  simp only[iA]at h
  split at h
  .cases h
  .rename_i hf
   have s:¬f.name= "_" :=λe=>hf (.inl e)
   have t:f.offset=o:=by
    by_cases e:f.offset=o
    .exact e
    .exact absurd (.inr e) hf
   subst t;split at h
   .rename_i ms k
    split at h
    .rename_i hc
     cases c:iA (e7 P d) P fs (f.offset+ms.length) with
     |none=>simp[c]at h
     |some x=>
      simp only[c,kC,Option.some.injEq]at h;subst h;obtain⟨l,m⟩:=pM hx;obtain⟨n,p⟩:=pM j;rw[jM]at m p;obtain⟨u,hu,q⟩:=flat_agg k;have a:=pL l;have b:=pL n;have bo:=rA (cs:=xs) (off:=f.offset) (us:=(xs.drop f.offset).take ms.length) hu (by rw[hc,a]) (λg=>by rw[a];exact q g) (by rw[a]);have bj:=rA (cs:=ys) (off:=f.offset) (us:=(ys.drop f.offset).take ms.length) hu (by rw[hc,b]) (λg=>by rw[b];exact q g) (by rw[b]);have e:=λw=>i k l n w;have r:=ya i (fs:=fs) c m p;have v:eY (xs.drop f.offset) (ys.drop f.offset)=(eY ((xs.drop f.offset).take ms.length) ((ys.drop f.offset).take ms.length)&&eY (xs.drop (f.offset+ms.length)) (ys.drop (f.offset+ms.length))):=by
       rw[←uV (by rw[a,b])];simp only[←jM,gg]
      simp only[Op.eqFields,ne_eq,s,not_false_eq_true,if_true,Sem.run_bind,bo,bj,e,Result.andThen];rw[v]
      cases eY ((xs.drop f.offset).take ms.length) ((ys.drop f.offset).take ms.length)
      .simp
      .simpa using r w
    .cases h
   .cases h
theorem yb(ls:O cB):∀n,(lz ls n).length=n*ls.length
 |0=>by simp[lz]
 |n+1=>by simp[lz,yb ls n,iK,Nat.add_comm]
theorem yc{d D:Nat}(j:∀ {T:TypeId}{ls:O cB}{xs ys:O Y},e7 P d T=some ls->dW ls xs->dW ls ys->∀w,(Op.equalIn (D+d) T (jS P T xs) (jS P T ys)).run P w=.ok (eY xs ys) w)
 {e:TypeId}{ls:O cB}{u:TypeDesc} (hu:P.underlying e=some u) (g:gh u=false->ls.length=1) (k:e7 P d e=some ls) (hc:P.cellsOf e=ls.length) {xs ys:O Y}:
 ∀ (n i:Nat),dW (lz ls n) (xs.drop (i*ls.length))->dW (lz ls n) (ys.drop (i*ls.length))->∀w,
  Sem.run P (do
   let r ←forIn (List.range' i n) ((none:ar al),()) λi _=>do
    let a ←part e xs.toArray (i*ls.length)
    let b ←part e ys.toArray (i*ls.length)
    let t ←Op.equalIn (D+d) e a b
    if (!t)=true then pure (ForInStep.done (some false,())) else pure (ForInStep.yield (none,()))
   match r.1 with
   |some b=>pure b
   |none=>pure true) w=.ok (eY (xs.drop (i*ls.length)) (ys.drop (i*ls.length))) w
 |0,i,hx,l,w=>by
  have hx:xs.drop (i*ls.length)=[]:=hx
  rw[hx]
  simp[eY]
 |n+1,i,hx,l,w=>by
  obtain⟨m,o⟩:=pM hx
  obtain⟨p,q⟩:=pM l
  rw[jM,show i*ls.length+ls.length=(i+1)*ls.length by rw[iK,Nat.one_mul]]at o q
  have c:=pL m
  have f:=pL p
  have bo:=rA (cs:=xs) (off:=i*ls.length) (us:=(xs.drop (i*ls.length)).take ls.length) hu (by rw[hc,c]) (λh=>by rw[c];exact g h) (by rw[c])
  have bj:=rA (cs:=ys) (off:=i*ls.length) (us:=(ys.drop (i*ls.length)).take ls.length) hu (by rw[hc,f]) (λh=>by rw[f];exact g h) (by rw[f])
  have s:=λw=>j k m p w
  have r:=yc j hu g k hc n (i+1) o q w
  have v:eY (xs.drop (i*ls.length)) (ys.drop (i*ls.length))=(eY ((xs.drop (i*ls.length)).take ls.length) ((ys.drop (i*ls.length)).take ls.length)&&eY (xs.drop ((i+1)*ls.length)) (ys.drop ((i+1)*ls.length))):=by
   rw[←uV (by rw[c,f]),show(i+1)*ls.length=i*ls.length+ls.length by rw[iK,Nat.one_mul]];simp only[←jM,gg]
  rw[v];simp only[List.range'_succ,List.forIn_cons,Sem.run_bind,bo,bj,s,Result.andThen]
  cases eY ((xs.drop (i*ls.length)).take ls.length) ((ys.drop (i*ls.length)).take ls.length)
  .simp
  .simpa[Result.andThen] using r
theorem yd(D:Nat):∀ (d:Nat) {T:TypeId}{ls:O cB}{xs ys:O Y},e7 P d T=some ls->dW ls xs->dW ls ys->∀w,(Op.equalIn (D+d) T (jS P T xs) (jS P T ys)).run P w=.ok (eY xs ys) w
 |0,_,_,_,_,h,_,_,_=>by cases h
 |d+1,T,ls,xs,ys,h,hx,b,w=>by
  have c:= @yd D d
  simp only[e7]at h
  cases hu:P.underlying T with
  |none=>simp[hu]at h
  |some u=>
   rw[hu]at h
   cases u with
   |int k=>
    simp only[Option.some.injEq]at h;subst h
    obtain⟨x,_,rfl,⟨n,rfl⟩,rfl⟩:=hx
    obtain⟨y,_,rfl,⟨m,rfl⟩,rfl⟩:=b
    rw[mz hu rfl,mz hu rfl]
    show(Op.equalIn (D+d+1) T _ _).run P w=_
    simp[Op.equalIn,cV hu,eY,lA]
   |bool=>
    simp only[Option.some.injEq]at h;subst h
    obtain⟨x,_,rfl,⟨n,rfl⟩,rfl⟩:=hx
    obtain⟨y,_,rfl,⟨m,rfl⟩,rfl⟩:=b
    rw[mz hu rfl,mz hu rfl]
    show(Op.equalIn (D+d+1) T _ _).run P w=_
    simp[Op.equalIn,cV hu,eY,lA]
   |string=>
    simp only[Option.some.injEq]at h;subst h
    obtain⟨x,_,rfl,⟨n,rfl⟩,rfl⟩:=hx
    obtain⟨y,_,rfl,⟨m,rfl⟩,rfl⟩:=b
    rw[mz hu rfl,mz hu rfl]
    show(Op.equalIn (D+d+1) T _ _).run P w=_
    simp[Op.equalIn,cV hu,eY,lA,beq_toListBytes]
   |struct fs=>
    simp only at h
    split at h
    .cases h
    .rename_i j
     rw[my hu rfl,my hu rfl]
     have f:P.fieldsOf T=fs:=by simp[Program.fieldsOf,hu]
     show(Op.equalIn (D+d+1) T _ _).run P w=_
     rw[run_equalIn_struct w (D+d) T xs.toArray ys.toArray (by rw[f];exact hu) (by simpa using j),f]
     have:=ya (D:=D) c (xs:=xs) (ys:=ys) h (by simpa using hx) (by simpa using b) w
     simpa using this
   |array n e=>
    simp only at h
    split at h
    .rename_i ms g
     split at h
     .rename_i hc
      simp only[Option.some.injEq]at h;subst h
      obtain⟨u,i,l⟩:=flat_agg g
      rw[my hu rfl,my hu rfl]
      show(Op.equalIn (D+d+1) T _ _).run P w=_
      have:=yc (D:=D) c i l g hc (xs:=xs) (ys:=ys) n 0 (by simpa using hx) (by simpa using b) w
      rw[Nat.zero_mul,jk,jk]at this
      rw[←this]
      simp only[Op.equalIn,Sem.run_bind,cV hu,gE i,Result.andThen,hc,Std.Legacy.Range.forIn_eq_forIn_range',Std.Legacy.Range.size]
      simp
      congr 1
      funext a w
      obtain⟨o,_⟩:=a
      cases o<;>rfl
     .cases h
    .cases h
   |_=>cases h
theorem iR.flat{T:TypeId}{d:TypeDesc}{ls:O cB}{xs ys:O Y}(a:P.underlying T=some d)(b:gh d=true)(hf:e7 P 8 T=some ls)(hg:P.eqGuardType P.depth T=false)
 (hx:dW ls xs) (c:dW ls ys):iR P T xs.toArray ys.toArray (eY xs ys):=by
 refine⟨hg,λw=>?_⟩;have:=yd (P:=P) 9992 8 hf hx c w;rwa[my a b,my a b]at this
end
end aR
namespace aR
open Go Go.RowKit
theorem uW{n:Int}(h0:0<=n)(h1:n<=255):IntKind.u8.wrap n=n:=by
 simp only[IntKind.wrap,IntKind.signed,IntKind.bits];simp;omega
theorem uX{n:Int}(h0:0<=n)(h1:n<=4294967295):IntKind.u32.wrap n=n:=by
 simp only[IntKind.wrap,IntKind.signed,IntKind.bits];simp;omega
theorem gj{n:Int}(h0:0<=n)(h1:n<=18446744073709551615):IntKind.u64.wrap n=n:=by
 simp only[IntKind.wrap,IntKind.signed,IntKind.bits];simp;omega
theorem BT(n:Int):IntKind.u8.wrap n=n%256:=by
 simp only[IntKind.wrap,IntKind.signed,IntKind.bits];simp
def S(l:O UInt8):ByteArray:=⟨l.toArray⟩
theorem ye(l:O UInt8):(S l).toList=l:=ByteArray.toList_mk l
theorem yf(a b:O UInt8):(ByteArray.toList (S a)==ByteArray.toList (S b))=(a==b):=by rw[ye,ye]
theorem BU(ns:O Int):x9 ns=S (ns.map λn=>UInt8.ofNat n.toNat):=by
 have h:∀ (ns:O Int) (r:O UInt8),ns.foldl (λr n=>r.push (UInt8.ofNat n.toNat)) (S r)=S (r++ns.map λn=>UInt8.ofNat n.toNat):=by
  intro ns
  induction ns with
  |nil=>intro r;simp
  |cons n ns a=>
   intro r;have e:(S r).push (UInt8.ofNat n.toNat)=S (r++ [UInt8.ofNat n.toNat]):=by
    apply ByteArray.ext;simp[S,ByteArray.push]
   simp only[List.foldl_cons,e,a,g0,cY,o3,kc]
 exact h ns []
theorem add_add(A:ag)(n m:Nat):(A.add n).add m=A.add (n+m):=by
 unfold Addr.add;by_cases h1:n=0
 .subst h1;simp
 .by_cases a:m=0
  .subst a;simp
  .rw[if_neg h1,if_neg a,if_neg I]
   simp[Nat.add_assoc]
def put(f:Nat->Int)(i:Nat)(v:Int):Nat->Int:=λj=>if j=i then v else f j
section
variable {w w':J}{b m i:Nat}{T:TypeId}{f:Nat->Int}
theorem ae.fZ{w0 w:J}{b i:Nat}(h:ae (λq=>q=b) w0 w)(v:Y):ae (λq=>q=b) w0 (w.setCell ⟨b,i,none⟩ v):=ae.set h (λ_=>rfl) v
theorem ae.jT{w0 w:J}{b i:Nat}(h:ae (λq=>q=b) w0 w)(vs:O Y)(j:Nat):ae (λq=>q=b) w0 (aR.setCells w ⟨b,i,none⟩ j vs):=ae.setCells (W:=λq=>q=b) (A:=⟨b,i,none⟩) (λ_=>rfl) vs j h
end
theorem nT{b o:Nat}{z l m:Nat}(h:m≠l):aJ (some (Addr.mk b o none)) z l m=some ⟨b,o+l*z,none⟩:=by
 simp[aJ,h,ay]
theorem Ext.trans{a b c:J}(h1:Ext a b)(d:Ext b c):Ext a c:=ae.trans h1 d
theorem Ext.dj{w0 w1 ai:J}{W:Nat->Prop}(h1:Ext w0 w1)(a:ae W w1 ai)(h:∀k,W k->w0.heap.size<=k):Ext w0 ai:=
 ⟨a.os.trans h1.os,a.tape.trans h1.tape,a.output.trans h1.output,ei h1.size a.size,λk b _=>by
  rw[a.block k (fm b h1.size) (λcD=>by have:=h k cD;omega),h1.block k b id]⟩
end aR
namespace aR
open Go
def nU(P:Program)(f:FuncId)(args:Array Y)(w:J)(K:J->Prop):Prop:=
 iT P f/\CallsD P f args .returning w λe a w'=>(∃v,e=.returned v)/\a=.returning/\K w'
def uY(P:Program)(tk:TypeId->dr)(c:Code)(K:FuncId->Array Y->Array Y->Env->J->Prop)(e:Env)(w:J):Prop:=
 match c with
 | .region _ ops false=>match ops.toList with
  | [a,b]=>match a.guard,b.guard,b.dst,b.op with
   |none,none,none,.defer call=>match call.callee,call.args.toList with
    | .value x,[]=>ix P tk a (λv w'=>match ev (c1 a.dst v e) x with|some (.func (.func f) first cap)=>K f first cap (c1 a.dst v e) w'|_=>False) e w
    |_,_=>False
   |_,_,_,_=>False
  |_=>False
 |_=>False
def pN(P:Program)(tk:TypeId->dr):aO->Code->(Exit->Env->J->Prop)->(FuncId->Array Y->Array Y->Exit->Env->J->Prop)->Env->J->Prop
 | .seq .leaf B,.seq a b,_,Kd,e,w=>uY P tk a (λf first cap c w'=>D P tk B b (Kd f first cap) c w') e w
 | .seq A B,.seq a b,K,Kd,e,w=>D P tk A a (λx c w'=>match x with| .normal=>pN P tk B b K Kd c w'|x=>K x c w') e w
 |_,_,_,_,_,_=>False
def BV(P:Program)(tk:TypeId->dr)(a:O ResultVar)(R:Y->J->Prop)(f:FuncId)(first cap:Array Y)(x:Exit)(e:Env)(w:J):Prop:=
 match x with
 | .normal| .ret=>nU P f (first++cap) w λw'=>kM P tk a e w' λvs=>R (nO vs) w'
 |_=>False
def uZ(P:Program)(tk:TypeId->dr)(A:aO)(fn:Func)(args:O Y)(w:J)(R:Y->J->Prop):Prop:=
 match fn.body with
 |some c=>pN P tk A c (xX P tk fn.results.toList R) (BV P tk fn.results.toList R) (mv 0 args) w
 |none=>False
variable {P:Program}{tk:TypeId->dr}
def pO(f:FuncId)(first cap:Array Y):Deferred:={target:=.fn (.func f) cap,args:=first++ #[]}
theorem BW{c:Code}{K:FuncId->Array Y->Array Y->Env->J->Prop}{e:Env}{a:Act}{w:J}(aq:c8 e a)(q:∀d∈writes c,d<a.tmps.size)(h:uY P tk c K e w):
 c.wp P (λx l w'=>x=.normal/\∃f first cap,l.defers=pO f first cap::a.defers/\l.tmps.size=a.tmps.size/\∃n,c8 n l/\K f first cap n w') a w:=by
 unfold uY at h;split at h
 case h_2=>exact h.elim
 rename_i id ops;split at h
 case h_2=>exact h.elim
 rename_i b j o;split at h
 case h_2=>exact h.elim
 rename_i call r t u y;split at h
 case h_2=>exact h.elim
 rename_i x hc ru;refine wp_region_list ?_;rw[o];have w1:Region.wanted b (yielded ops a.tmps)=true:=by unfold Region.wanted;rw[r]
 simp only[wpList,w1,if_true];refine .inl ((ra aq h).wp ?_);intro v w' m;have z:Region.wanted j (yielded ops (a.put b.dst v).tmps)=true:=by unfold Region.wanted;rw[t]
 simp only[z,if_true];refine .inl ?_;split at m
 case h_2=>exact m.elim
 rename_i f first cap A;have p:c8 (c1 b.dst v e) (a.put b.dst v):=aq.put λk i=>q k (by simp[writes,o,bA,i]);have B:call.args= #[]:=by
  have:=congrArg List.toArray ru;simpa using this
 have C:(execOp (a.put b.dst v).eval j).run P w'=.ok (.defer (pO f first cap)) w':=by
  have D:∀g:Operand->Y,Array.map g #[]= #[]:=λg=>by simp
  simp only[execOp,y,resolve,hc,B,p.ev A,D];rfl
 show j.upon P _ _ _ ((execOp (a.put b.dst v).eval j).run P w');rw[C,Oper.upon_defer,u];refine⟨trivial,f,first,cap,?_,?_,c1 b.dst v e,?_,m⟩
 .have:=(dA.put (a:=a) (d:=b.dst) (v:=v) (ds:=bA [b]) (λk i=>by simp[bA,i])).defers
  show pO f first cap::(a.put b.dst v).defers=_;rw[this]
 .exact(dA.put (a:=a) (d:=b.dst) (v:=v) (ds:=bA [b]) (λk i=>by simp[bA,i])).size
 .exact⟨λs v hs=>p.get s v hs⟩
theorem BX(p:P.follows .mixedOrders=true):∀ (A:aO) (c:Code) (K:Exit->Env->J->Prop) (Kd:FuncId->Array Y->Array Y->Exit->Env->J->Prop) (e:Env) (a:Act) (w:J),c8 e a->a.defers=[]->
 (∀d∈writes c,d<a.tmps.size)->pN P tk A c K Kd e w->
 c.wp P (λx m w'=>(m.defers=[]/\∃j,c8 j m/\K x j w')\/∃f first cap,m.defers=[pO f first cap]/\∃j,c8 j m/\Kd f first cap x j w') a w:=by
 intro A
 induction A with
 |seq A B E r=>
  intro c K Kd e a w aq hd k h;unfold pN at h;split at h
  case h_3=>exact h.elim
  .rename_i s x y n
   cases n;have hx:∀d,d∈writes x->d∈writes (.seq x y):=λd hd=>by simp[writes,hd]
   have o:∀d,d∈writes y->d∈writes (.seq x y):=λd hd=>by simp[writes,hd]
   refine wp_seq (iz (BW aq (λd hd=>k d (hx d hd)) h) ?_);rintro ex a1 w1 ⟨rfl,f,first,cap,h1,t,b,g,u⟩;refine iz (rr p B y _ b a1 w1 g (λd hd=>by rw[t];exact k d (o d hd)) u) ?_;rintro ex a2 ai ⟨v,z,C,D⟩;exact .inr ⟨f,first,cap,by rw[v.defers,h1,hd],z,C,D⟩
  .rename_i F s x y _ n
   cases n;have hx:∀d,d∈writes x->d∈writes (.seq x y):=λd hd=>by simp[writes,hd]
   have o:∀d,d∈writes y->d∈writes (.seq x y):=λd hd=>by simp[writes,hd]
   refine wp_seq (iz (rr p A x _ _ a _ aq (λd hd=>k d (hx d hd)) h) ?_);rintro ex a1 w1 ⟨q,b,g,h1⟩;have i:a1.defers=[]:=by rw[q.defers,hd]
   cases ex with
   |normal=>exact r y _ _ b a1 w1 g i (λd hd=>by rw[q.size];exact k d (o d hd)) h1
   |exit id=>exact .inl ⟨i,b,g,h1⟩
   |goto l=>exact .inl ⟨i,b,g,h1⟩
   |ret=>exact .inl ⟨i,b,g,h1⟩
   |panic G=>exact .inl ⟨i,b,g,h1⟩
   |outgrown=>exact .inl ⟨i,b,g,h1⟩
 |_=>intro c K Kd e a w aq hd k h;unfold pN at h;exact h.elim
theorem yg{fn:Func}{args:O Y}(b:args.length<=fn.ntmps):c8 (mv 0 args) {tmps:=args.toArray++Array.replicate (fn.ntmps-args.toArray.size) undef,defers:=[]}:=by
 constructor;intro s v hs;obtain⟨_,a⟩:=uS hs;simp only[Nat.sub_zero]at a;have aI:s<args.length:=(jL.1 a).1;simp[Array.getElem?_append,aI];rw[dI aI]at a;exact Option.some.inj a
theorem BY{f:FuncId}{fn:Func}{A:aO}{args:O Y}{w:J}{K:J->Prop}(n:P.follows .mixedOrders=true)(hc:iT P f)
 (hf:P.funcs[f]? =some fn) (b:mw fn args.length=true) (h:nP P tk A fn args w λ_ w'=>K w'):nU P f args.toArray w K:=by
 refine⟨hc,?_⟩;unfold nP at h;unfold mw at b
 cases g:fn.body with
 |none=>rw[g]at h;exact h.elim
 |some c=>
  rw[g]at h b;simp only[dn]at h b;obtain⟨o,p⟩:=b;have q:=ld p;have r:(args.toArray++Array.replicate (fn.ntmps-args.toArray.size) undef).size=fn.ntmps:=by simp;omega
  refine(callsD_of_wp (R:=λe w'=>(∃v,e=.returned v)/\K w') hf g ?_).mono λe y w' ⟨h1,k,s⟩=>⟨k,h1,s⟩;refine iz (rr n A c _ _ _ w (yg q) (λd hd=>?_) h) ?_
  .have h1:=nr.1 o d hd
   have k:=ld h1;show d<(args.toArray++Array.replicate (fn.ntmps-args.toArray.size) undef).size;rw[r];omega
  .rintro x t w' ⟨u,z,m,a⟩
   have hd:t.defers=[]:=u.defers
   cases x with
   |normal=>
    obtain⟨vs,i,j⟩:=kN m a;exact⟨hd,_,mx i,⟨_,rfl⟩,j⟩
   |ret=>
    obtain⟨vs,i,j⟩:=kN m a;exact⟨hd,_,mx i,⟨_,rfl⟩,j⟩
   |exit id=>exact a.elim
   |goto l=>exact a.elim
   |panic B=>exact a.elim
   |outgrown=>exact a.elim
theorem BZ{f:FuncId}{fn:Func}{A:aO}{args:O Y}{w:J}{R:Y->J->Prop}(p:P.follows .mixedOrders=true)
 (hf:P.funcs[f]? =some fn) (n:mw fn args.length=true) (h:uZ P tk A fn args w R):
 Calls P f args.toArray w λe w'=>∃v,e=.returned v/\R v w':=by
 unfold uZ at h;unfold mw at n
 cases o:fn.body with
 |none=>rw[o]at h;exact h.elim
 |some c=>
  rw[o]at h n;simp only[dn]at h n;obtain⟨q,r⟩:=n;have s:=ld r;have t:(args.toArray++Array.replicate (fn.ntmps-args.toArray.size) undef).size=fn.ntmps:=by simp;omega
  refine calls_of_wp_defers hf o ?_;refine iz (BX p A c _ _ _ _ w (yg s) rfl (λd hd=>?_) h) ?_
  .have h1:=nr.1 q d hd
   have z:=ld h1;show d<(args.toArray++Array.replicate (fn.ntmps-args.toArray.size) undef).size;rw[t];omega
  .have key:∀ {b:Act}{w':J}{j:Env}{g:FuncId}{first cap:Array Y},b.defers=[pO g first cap]->c8 j b->(nU P g (first++cap) w' λw'=>kM P tk fn.results.toList j w' λvs=>R (nO vs) w')->
    Leaves P fn b.tmps (λe w'=>∃v,e=.returned v/\R v w') b.defers .returning w':=by
    intro b w' j g first cap hd i ⟨hc,a⟩;rw[hd];refine leaves_cons (f:=g) (args:=first++cap) (by simp) (by simp[invoke,xq hc]) (a.mono ?_);rintro _ _ ai ⟨⟨v,rfl⟩,rfl,u⟩;obtain⟨vs,k,m⟩:=kN i u;exact⟨_,mx k,_,rfl,m⟩
   rintro x b w' (⟨hd,j,i,a⟩|⟨g,first,cap,hd,j,i,a⟩)
   .cases x with
    |normal=>
     obtain⟨vs,k,m⟩:=kN i a;show Leaves _ _ _ _ b.defers _ _;rw[hd];exact⟨_,mx k,_,rfl,m⟩
    |ret=>
     obtain⟨vs,k,m⟩:=kN i a;show Leaves _ _ _ _ b.defers _ _;rw[hd];exact⟨_,mx k,_,rfl,m⟩
    |exit id=>exact a.elim
    |goto l=>exact a.elim
    |panic y=>exact a.elim
    |outgrown=>exact a.elim
   .cases x with
    |normal=>exact key hd i a
    |ret=>exact key hd i a
    |exit id=>exact a.elim
    |goto l=>exact a.elim
    |panic y=>exact a.elim
    |outgrown=>exact a.elim
end aR
namespace aR
open Go Go.RowKit
def B0:cB->Y->Prop
 | .int k,v=>∃n:Int,v=.int k n/\k.min<=n/\n<=k.max
 | .bool,v=>∃b:al,v=.bool b
 | .str,v=>∃s:ByteArray,v=.string s/\s.size<=maxLen
 |_,_=>False
def g3:O cB->O Y->Prop
 | [],vs=>vs=[]
 |l::ls,vs=>∃v us,vs=v::us/\B0 l v/\g3 ls us
theorem u0:∀ {ls ms:O cB}{vs us:O Y},g3 ls vs->g3 ms us->g3 (ls++ms) (vs++us)
 | [],_,_,_,h,a=>by cases h;exact a
 |l::ls,ms,vs,us,h,a=>by
  obtain⟨v,vs,rfl,h1,h⟩:=h
  exact⟨v,_,rfl,h1,u0 h a⟩
theorem u3:∀ {ls ms:O cB}{vs:O Y},g3 (ls++ms) vs->∃us ts,vs=us++ts/\g3 ls us/\g3 ms ts
 | [],_,vs,h=>⟨[],vs,rfl,rfl,h⟩
 |l::ls,ms,vs,h=>by
  obtain⟨v,us,rfl,h1,c⟩:=h
  obtain⟨a,b,rfl,d,e⟩:=u3 c
  exact⟨v::a,b,rfl,⟨v,a,rfl,h1,d⟩,e⟩
theorem yh{P:Program}{rB:TypeId->ar (O cB)}{cs:O Y}{R:TypeId->O Y->Prop}(c:∀ {T:TypeId}{ls:O cB}{us:O Y},rB T=some ls->R T us->g3 ls us):
 ∀ {fs:O Field}{o:Nat}{ls:O cB},iA rB P fs o=some ls->o+ls.length=cs.length->(∀f∈fs,R f.type ((cs.drop f.offset).take (P.cellsOf f.type)))->g3 ls (cs.drop o)
 | [],o,ls,h,a,_=>by
  simp only[iA,Option.some.injEq]at h
  subst h
  exact List.drop_of_length_le (by simp at a;omega)
 |f::fs,o,ls,h,a,d=>by
  simp only[iA]at h
  split at h
  .cases h
  .rename_i hf
   have i:f.offset=o:=by
    by_cases e:f.offset=o
    .exact e
    .exact absurd (.inr e) hf
   subst i;split at h
   .rename_i ms j
    split at h
    .rename_i hc
     cases b:iA rB P fs (f.offset+ms.length) with
     |none=>simp[b]at h
     |some l=>
      simp only[b,kC,Option.some.injEq]at h;subst h;have h1:=c j (d f (by simp));have k:=yh c (fs:=fs) (cs:=cs) b (by simp at a;omega) (λg hg=>d g (by simp[hg]));rw[hc]at h1;have:=u0 h1 k;rwa[←jM,gg]at this
    .cases h
   .cases h
theorem yi{ls:O cB}{cs:O Y}:∀ {n i:Nat},(∀j,i<=j->j<i+n->g3 ls ((cs.drop (j*ls.length)).take ls.length))->cs.length=(i+n)*ls.length->g3 (lz ls n) (cs.drop (i*ls.length))
 |0,i,_,a=>List.drop_of_length_le (by simp at a;omega)
 |n+1,i,h,a=>by
  have h1:=h i (bl _) I
  have b:=yi (n:=n) (i:=i+1) (λj h1 b=>h j I I) (by rw[a];congr 1;omega)
  have:=u0 h1 b
  rw[show(i+1)*ls.length=i*ls.length+ls.length by rw[iK,Nat.one_mul],←jM,gg]at this
  exact this
theorem rC{P:Program}{w:J}:∀ (d:Nat) {T:TypeId}{ls:O cB}{fuel:Nat}{cs:O Y},e7 P d T=some ls->P.cellsOf T=ls.length->gT P w fuel T cs->g3 ls cs
 |0,_,_,_,_,h,_,_=>by cases h
 |d+1,T,ls,fuel,cs,h,p,a=>by
  cases fuel with
  |zero=>cases a
  |succ f=>
   simp only[e7]at h
   cases hu:P.underlying T with
   |none=>simp[hu]at h
   |some u=>
    rw[hu]at h
    cases u with
    |int k=>
     simp only[Option.some.injEq]at h;subst h
     simp only[gT,hu]at a
     obtain⟨n,rfl,h1,l⟩:=a
     exact⟨_,_,rfl,⟨n,rfl,h1,l⟩,rfl⟩
    |bool=>
     simp only[Option.some.injEq]at h;subst h
     simp only[gT,hu]at a
     obtain⟨b,rfl⟩:=a
     exact⟨_,_,rfl,⟨b,rfl⟩,rfl⟩
    |string=>
     simp only[Option.some.injEq]at h;subst h
     simp only[gT,hu]at a
     obtain⟨s,rfl,h1⟩:=a
     exact⟨_,_,rfl,⟨s,rfl,h1⟩,rfl⟩
    |struct fs=>
     simp only at h
     split at h
     .cases h
     .simp only[gT,hu]at a
      have:=yh (P:=P) (cs:=cs) (rB:=λT=>if (e7 P d T).isSome/\∀ms,e7 P d T=some ms->P.cellsOf T=ms.length then e7 P d T else none) (R:=λT us=>gT P w f T us) (λ{T}{ls}{us} h1 l=>by
       split at h1
       .rename_i r;exact rC d h1 (r.2 _ h1) l
       .cases h1) (fs:=fs.toList) (o:=0) (ls:=ls) (by
        have key:∀ (fs:O Field) (o:Nat) (ls:O cB),iA (e7 P d) P fs o=some ls->iA (λT=>if (e7 P d T).isSome/\∀ms,e7 P d T=some ms->P.cellsOf T=ms.length then e7 P d T else none) P fs o=some ls:=by
         intro fs
         induction fs with
         |nil=>intro o ls h;exact h
         |cons g fs t=>
          intro o ls h;simp only[iA]at h⊢;split at h
          .cases h
          .rename_i hg
           rw[if_neg hg];split at h
           .rename_i ms c
            split at h
            .rename_i hc
             have v:(e7 P d g.type).isSome/\∀ms,e7 P d g.type=some ms->P.cellsOf g.type=ms.length:=by
              refine⟨by simp[c],λx q=>?_⟩;rw[c]at q;cases q;exact hc
             rw[if_pos v,c];simp only;rw[if_pos hc]
             cases m:iA (e7 P d) P fs (o+ms.length) with
             |none=>rw[m]at h;cases h
             |some y=>rw[m]at h;rw[t _ _ m];exact h
            .cases h
           .cases h
        exact key _ _ _ h) (by rw[a.1,p];simp) (λg hg=>a.2 g (by simpa using hg))
      simpa using this
    |array n e=>
     simp only at h;split at h
     .rename_i ms c
      split at h
      .rename_i hc
       simp only[Option.some.injEq]at h;subst h;simp only[gT,hu]at a;have:=yi (ls:=ms) (cs:=cs) (n:=n) (i:=0) (λj _ z=>by
        have:=a.2 j I;rw[hc]at this;exact rC d c hc this) (by rw[a.1,p,yb];simp)
       simpa using this
      .cases h
     .cases h
    |_=>cases h
theorem B1{P:Program}{w:J}{T:TypeId}{d:TypeDesc}{ls:O cB}{v:Y}(h:kO P w T v)(b:P.underlying T=some d)(c:gh d=true)(hf:e7 P 8 T=some ls)(a:P.cellsOf T=ls.length):
 ∃cs:O Y,v=.agg cs.toArray/\g3 ls cs:=by
 unfold kO at h;rw[b]at h
 cases d<;>simp only[gh,fl]at c<;>simp only at h
 .obtain⟨cs,rfl,fuel,h⟩:=h
  exact⟨cs.toList,by simp,rC 8 hf a h⟩
 .obtain⟨cs,rfl,fuel,h⟩:=h
  exact⟨cs.toList,by simp,rC 8 hf a h⟩
theorem yj:∀ {n:Nat}{cs:O Y},g3 (List.replicate n (.int .u8)) cs->∃l:O UInt8,l.length=n/\cs=l.map λb=>Value.int .u8 ((b.toNat:Nat):Int)
 |0,cs,h=>⟨[],rfl,h⟩
 |n+1,cs,h=>by
  obtain⟨v,us,rfl,⟨z,rfl,h0,h1⟩,a⟩:=h
  obtain⟨l,c,rfl⟩:=yj a
  obtain⟨h0,h1⟩:=x3 h0 h1
  refine⟨UInt8.ofNat z.toNat::l,by simp[c],?_⟩
  simp only[g0,List.cons.injEq,Value.int.injEq,true_and,and_true]
  have e:(UInt8.ofNat z.toNat).toNat=z.toNat:=by simp;omega
  omega
end aR
namespace aR
open Go Go.RowKit
section
variable {α:Type}{P:Program}{w:J}{gF ki T:TypeId}{enc:α->Y}
def dP(enc:α->Y)(x:α×Y×Nat):MapEntry:=⟨enc x.1,x.2.1,x.2.2⟩
def kP(x:α×Y×Nat):α×Y:=(x.1,x.2.1)
def kQ[DecidableEq α](k:α):O (α×Y×Nat)->Nat->ar (Nat×Y)
 | [],_=>none
 |x::L,i=>if k=x.1 then some (i,x.2.1) else kQ k L (i+1)
theorem yk{β:Type}(f:β->β)(x:β)(bG:O β):∀bm:O β,(bm++x::bG).modify bm.length f=bm++f x::bG
 | []=>rfl
 |y::bm=>by
  show y::((bm++x::bG).modify bm.length f)=_
  rw[yk f x bG bm];rfl
structure lB[DecidableEq α](P:Program)(gF:TypeId)(enc:α->Y):Prop where
 find:∀ (L:O (α×Y×Nat)) (k:α) (w:J),(Instr.findKey gF (enc k) (L.map (dP enc))).run P w=.ok (kQ k L 0) w
 check:∀ (b:al) (k:α) (w:J),(Instr.checkKey b 10000 gF (enc k)).run P w=.ok () w
 bits:∀k,Instr.sameBits 10000 (enc k) (enc k)=true
theorem u4[DecidableEq α]{k:α}:∀ {L:O (α×Y×Nat)}{i:Nat},(∀x∈L,x.1≠k)->kQ k L i=none
 | [],_,_=>rfl
 |x::L,i,h=>by
  rw[kQ,if_neg (λe=>h x (by simp) e.symm)]
  exact u4 λy a=>h y (by simp[a])
theorem u5[DecidableEq α]{k:α}{v:Y}{n:Nat}{bG:O (α×Y×Nat)}:∀ {bm:O (α×Y×Nat)}{i:Nat},(∀x∈bm,x.1≠k)->kQ k (bm++(k,v,n)::bG) i=some (i+bm.length,v)
 | [],i,_=>by simp[kQ]
 |x::L,i,h=>by
  rw[o3,kQ,if_neg (λe=>h x (by simp) e.symm),u5 λy a=>h y (by simp[a])]
  simp;omega
theorem lB.int{k:IntKind}(hu:P.underlying gF=some (.int k)):lB P gF (λn:Int=>Value.int k n) where
 find L n w:=by
  have h:∀ (L:O (Int×Y×Nat)) (i:Nat),Instr.findNow (.int k) (.int k n) (L.map (dP λn:Int=>Value.int k n)) i=some (kQ n L i):=by
   intro L
   induction L with
   |nil=>intro i;rfl
   |cons x L a=>
    intro i;simp only[g0,Instr.findNow,dP,Instr.sameNow,if_true,kQ];by_cases hx:n=x.1
    .subst hx;simp
    .rw[if_neg hx,show(n==x.1)=false by simpa using hx]
     exact a (i+1)
  simp[Instr.findKey,cV hu,h]
 check b n w:=by
  show(Instr.checkKey b (9999+1) gF (.int k n)).run P w=_;unfold Instr.checkKey;simp only[Sem.run_bind,cV hu,Result.andThen];rfl
 bits n:=by
  show(k==k&&n==n)=true;simp
def dZ(w:J)(r:Nat)(enc:α->Y)(M:O (α×Y)):Prop:=
 ∃ (L:O (α×Y×Nat)) (a:Nat),w.heap[r]? =some (.map (L.map (dP enc)).toArray a)/\(L.map kP).Perm M/\(L.map (·.1)).Nodup/\(L.map (·.2.2)).Nodup/\∀x∈L,x.2.2<a
def B2(w:J)(r:Nat)(enc:α->Y)(M:O (α×Y))(k:α)(v:Y)(st:Int):Prop:=
 ∃ (bm bG:O (α×Y×Nat)) (n a:Nat),w.heap[r]? =some (.map ((bm++(k,v,n)::bG).map (dP enc)).toArray a)/\((bm++bG).map kP).Perm M/\((bm++(k,v,n)::bG).map (·.1)).Nodup/\((bm++(k,v,n)::bG).map (·.2.2)).Nodup/\(∀x∈bm++(k,v,n)::bG,x.2.2<a)/\st=(n:Int)
variable {r:Nat}{M gG:O (α×Y)}{k:α}{v:Y}{st:Int}{w':J}
theorem dZ.lt(h:dZ w r enc M):r<w.heap.size:=by
 obtain⟨L,a,h,_⟩:=h;exact(kB.1 h).1
theorem dZ.af{W:Nat->Prop}(h:dZ w r enc M)(hc:ae W w w')(a:¬W r):dZ w' r enc M:=by
 have b:=h.lt;obtain⟨L,c,h,d⟩:=h;exact⟨L,c,by rw[hc.block r b a];exact h,d⟩
theorem dZ.ext(h:dZ w r enc M)(hc:Ext w w'):dZ w' r enc M:=h.af hc id
theorem dZ.perm(h:dZ w r enc M)(a:M.Perm gG):dZ w r enc gG:=by
 obtain⟨L,b,h,h1,c⟩:=h;exact⟨L,b,h,h1.trans a,c⟩
theorem dZ.split(h:dZ w r enc ((k,v)::M)):∃n,B2 w r enc M k v (n:Nat):=by
 obtain⟨L,b,h,h1,c,d,e⟩:=h;have f:(k,v)∈L.map kP:=h1.mem_iff.2 (by simp);obtain⟨x,hx,a⟩:=e6.1 f;obtain⟨bm,bG,rfl⟩:=List.append_of_mem hx;obtain⟨g,i,n⟩:=x;simp only[kP,Prod.mk.injEq]at a;obtain⟨rfl,rfl⟩:=a;refine⟨n,bm,bG,n,b,h,?_,c,d,e,rfl⟩;rw[fB,g0]at h1;have:=(lf.symm.trans h1);rw[fB];exact this.cons_inv
theorem dZ.keys(h:dZ w r enc M):(M.map (·.1)).Nodup:=by
 obtain⟨L,b,h,h1,a,c,d⟩:=h;have:=h1.map (·.1);rw[nw]at this;exact this.nodup_iff.1 a
theorem dZ.B3(a:(k,v)∈M):∃gG,M.Perm ((k,v)::gG):=by
 obtain⟨A,B,rfl⟩:=List.append_of_mem a;exact⟨A++B,lf⟩
def g4(w:J)(r:Nat)(o:Obj):J:={w with heap:=w.heap.setIfInBounds r o}
theorem pP(w:J)(r:Nat)(o:Obj):ae (λq=>q=r) w (g4 w r o):=
 ⟨rfl,rfl,rfl,by simp[g4],λk _ a=>by
  have:¬r=k:=λe=>a e.symm
  simp[g4,this]⟩
theorem rD(w:J)(r:Nat)(o:Obj):(g4 w r o).heap.size=w.heap.size:=by simp[g4]
theorem rE{w:J}{r:Nat}(h:r<w.heap.size)(o:Obj):(g4 w r o).heap[r]? =some o:=by simp[g4,h]
theorem kR{es:Array MapEntry}{a:Nat}(h:w.heap[r]? =some (.map es a)):(getObj r).run P w=.ok (.map es a) w:=by simp[getObj,Sem.run,h]
theorem u6{es:Array MapEntry}{a:Nat}(h:w.heap[r]? =some (.map es a))(o:Obj):(setObj r o).run P w=.ok () (g4 w r o):=by simp[setObj,Sem.run,h,g4]
theorem yl{bm bG:O (α×Y×Nat)}{x:α×Y×Nat}(h:((bm++x::bG).map (·.1)).Nodup):∀y∈bm,y.1≠x.1:=by
 intro y a e;rw[fB,g0,List.nodup_append]at h;exact h.2.2 _ (List.mem_map_of_mem a) _ (qS ..) e
theorem ym{L:O (α×Y×Nat)}(h1:(L.map kP).Perm M)(a:∀v,(k,v)∉M):∀x∈L,x.1≠k:=by
 intro x hx e;refine a x.2.1 (h1.mem_iff.1 (e6.2 ⟨x,hx,?_⟩));simp[kP,e]
theorem dZ.make(T:TypeId)(w:J):(Instr.makeMap T none).run P w=.ok (.map (some w.heap.size)) (w.alloc (.map #[] 0))/\dZ (w.alloc (.map #[] 0)) w.heap.size enc ([]:O (α×Y)):=by
 refine⟨by simp[Instr.makeMap],[],0,?_,by simp,by simp,by simp,by simp⟩;show(w.heap.push (.map #[] 0))[w.heap.size]? =_;simp
theorem dZ.yn[DecidableEq α](a:lB P gF enc)(b:P.underlying T=some (.map gF ki))(h:dZ w r enc M)(c:(k,v)∈M)(ok:al):
 (Instr.lookup T (.map (some r)) (enc k) ok).run P w=.ok (if ok then .tuple #[v,.bool true] else v) w:=by
 obtain⟨gG,d⟩:=dZ.B3 c;obtain⟨n,bm,bG,e,g,h,h1,f,i,j,_⟩:=(h.perm d).split;have hf:=a.find (bm++(k,v,e)::bG) k w;rw[u5 (yl f)]at hf;simp only[Instr.lookup,Sem.run_bind,cV b,Result.andThen,kR h,Sem.run_pure,a.check,hf]
theorem dZ.yo[DecidableEq α](a:lB P gF enc)(b:P.underlying T=some (.map gF ki)){i:TypeInfo}{z:Y}(hi:P.info? ki=some i)(c:i.zero=some z)(h:dZ w r enc M)(d:∀v,(k,v)∉M)(ok:al):
 (Instr.lookup T (.map (some r)) (enc k) ok).run P w=.ok (if ok then .tuple #[z,.bool false] else z) w:=by
 obtain⟨L,e,h,h1,f,g,j⟩:=h;have hf:=a.find L k w;rw[u4 (ym h1 d)]at hf;simp only[Instr.lookup,Sem.run_bind,cV b,Result.andThen,kR h,Sem.run_pure,a.check,hf,zeroValue,mi hi,c]
end
end aR
namespace aR
open Go Go.RowKit
theorem yp(c:Array Y):∀ (vs:O Y) (i:Nat) (c:Array Y),(fR c i vs).toList.drop (i+vs.length)=c.toList.drop (i+vs.length)
 | [],_,_=>rfl
 |v::vs,i,c=>by
  simp only[fR,hJ]
  rw[show i+(vs.length+1)=i+1+vs.length from I,yp c vs (i+1) (c.setIfInBounds i v)]
  rw[Array.toList_setIfInBounds,List.drop_set]
  rw[if_pos I]
theorem lC(vs:O Y)(c:Array Y)(i:Nat)(h:i+vs.length<=c.size):(fR c i vs).toList=c.toList.take i++vs++c.toList.drop (i+vs.length):=by
 rw[←gg (i+vs.length) (fR c i vs).toList,pK vs c i h,yp c]
section
variable {P:Program}{w:J}
theorem rF{kS dR ty e:TypeId}{d:TypeDesc}{sz:Nat}(hd:P.underlying kS=some (.slice e))(he:P.underlying e=some d)(g:P.cellsOf e=sz){A:ag}{dl mA n:Nat}{x:ad}(h:Nat.min x.len dl=n){xs:O Y}(hx:Src sz w ⟨x.a,n,x.cap⟩ xs)(b:bh w A xs):
 Sem.run P (Builtin.copy_ #[kS,dR] ty #[.slice (some A) dl mA,.slice x.a x.len x.cap]) w=.ok (.int .i64 ((n:Nat):Int)) (setCells w A 0 xs):=by
 have f:=gE (w:=w) he;rw[g]at f;have hf:Sem.run P (Builtin.firstCells sz n (.slice x.a x.len x.cap)) w=.ok xs.toArray w:=by
  obtain⟨a,l,c⟩:=x
  cases a<;>exact nR (P:=P) hx
 have i:=po (P:=P) (A:=A) xs 0 w (by simpa using b.1) b.2;simp only[Builtin.copy_,qQ,l9,List.getElem?_cons_succ,Sem.run_bind,cV hd,Result.andThen,Builtin.lenOf,Sem.run_pure,h,f,hf,i];rfl
set_option maxRecDepth 4000 in
theorem B4 {fP:Array TypeId}{dK dR ek e:TypeId}{i:TypeInfo}{k:IntKind}{z:Y}{sz n:Nat}{s:ad}{c:O Y} (h0:fP[0]? =some dR) (h1:fP[1]? =some ek)
 (hs:P.underlying dR=some (.slice e)) (hx:P.underlying ek=some (.int k)) (hi:P.info? e=some i) (hd:(P.underlying e).isSome=true) (h:i.zero=some z) (j:z.cells.size=sz) (p:P.cellsOf e=sz)
 (r:i.bytes≠0) (hold:Src sz w s c) (t:s.cap<s.len+n) (l:(2*(s.len+n)+1000)*i.bytes<=281474976710656):
 ∃ (b:Nat) (zs rest:O Y),s.len+n<=b/\b<=maxLen/\zs.length=n*sz/\rest.length=(b-(s.len+n))*sz/\
  Sem.run P (Builtin.append_ fP dK #[.slice s.a s.len s.cap,.int .i64 ((n:Nat):Int)]) w=
   .ok (.slice (some ⟨w.heap.size,0,none⟩) (s.len+n) b) (w.drew.alloc (.cells (c++zs++rest).toArray e)):=by
 obtain⟨d,hd⟩:=jm _ hd;have m:=gE (w:=w) hd;rw[p]at m;have u:=x6 t;have S:Builtin.nextslicecap (s.len+n) s.cap*i.bytes<=281474976710656:=ei (nv _ u) l;have T:s.len+n<=281474976710656:=by
  have:s.len+n<=(2*(s.len+n)+1000)*i.bytes:=by
   have:=Nat.mul_le_mul_left (2*(s.len+n)+1000) (Nat.one_le_iff_ne_zero.2 r);omega
  omega
 have v:n*i.bytes<=281474976710656:=ei (nv _ (by omega:n<=2*(s.len+n)+1000)) l
 let q:Question:=.appendCap (s.len+n) s.cap e
 let b:Nat:=q.cut (w.tape w.drawn q)
 have x:q.forced=false:=rfl;have A:s.len+n<=b:=by show s.len+n<=s.len+n+_;omega
 have B:b<=maxLen:=by
  show s.len+n+_%(2^63-(s.len+n))<=2^63-1;have:=hG (w.tape w.drawn q) (y:=2^63-(s.len+n)) I;omega
 have C:Src sz w.drew s c:=hold.ext (ae.drew (.refl _ _));have D:=nR (P:=P) C;have E:∀n (w':J),(askRoom n).run P w'=.ok () w':=λn w'=>by unfold askRoom;split<;>rfl
 have F:(choose q).run P w=.ok b w.drew:=by
  show Sem.run P (.choose q .pure) w=_;simp only[Sem.run,x,fl,if_false];rfl
 have f:=λw:J=>mi (w:=w) hi;refine⟨b,if n*sz=0 then [] else (Builtin.zeroCells z.cells n).toList,(Builtin.zeroCells z.cells (b-(s.len+n))).toList,A,B,?_,by simp[Builtin.zeroCells,j],?_⟩
 .split
  .rename_i h0;simp[h0]
  .simp[Builtin.zeroCells,j]
 have G:IntKind.i64.wrap ((n:Nat):Int)=(n:Int):=bz I I;have H:¬((n:Int)<0):=by omega
 have K:¬((n:Int)*(i.bytes:Int)>2^48):=by
  have:((n*i.bytes:Nat):Int)<=((281474976710656:Nat):Int):=Int.ofNat_le.2 v;rw[Int.natCast_mul]at this;have L:(2:Int)^48=((281474976710656:Nat):Int):=by decide+kernel
  rw[L];omega
 have M:¬(s.len+n<=s.cap):=by omega
 have N:¬((s.len+n:Nat):Int)>IntKind.i64.max:=by
  simp[IntKind.max,IntKind.signed,IntKind.bits];omega
 have Q:¬Builtin.nextslicecap (s.len+n) s.cap*i.bytes>2^48:=by
  have:(2:Nat)^48=281474976710656:=by decide+kernel
  omega
 have R:Sem.run P (choose (.appendCap (s.len+n) s.cap e)) w=.ok b w.drew:=F;unfold Builtin.append_;simp only[qQ,l9,List.getElem?_cons_succ,h0,h1,Sem.run_bind,cV hs,cV hx,Result.andThen,m,Sem.run_pure,asInt,asIntOf,G,H,if_false,f,K,dO,M,N,false_and,Q,if_true,Bool.not_true,fl,R,E,D];by_cases o:n*sz=0
 .simp only[o,if_true,Sem.run_pure,zeroValue,f,h,Sem.run_bind,Result.andThen,newRow,newObj,Sem.run]
  have g:w.drew.heap.size=w.heap.size:=rfl;rw[g]
  congr 1
  show w.drew.alloc _=w.drew.alloc _
  congr 2
  simp
 .simp only[o,if_false,Sem.run_pure,zeroValue,f,h,Sem.run_bind,Result.andThen,newRow,newObj,Sem.run]
  have g:w.drew.heap.size=w.heap.size:=rfl;rw[g]
  congr 1
  show w.drew.alloc _=w.drew.alloc _
  congr 2
  simp
end
theorem B5(a:ar ag)(z c:Nat):aJ a z 0 c=a:=by
 unfold aJ;split
 .rfl
 .cases a with
  |none=>rfl
  |some A=>simp[add_zero']
theorem bg.rG{sz:Nat}{w:J}{b:Nat}{c:Array Y}{T:TypeId}(h:bg w b c T){o n cap:Nat}(d:o+n*sz<=c.size):Src sz w ⟨some ⟨b,o,none⟩,n,cap⟩ ((c.toList.drop o).take (n*sz)):=by
 refine⟨by simp;omega,(λh=>by cases h),λa e=>?_⟩
 cases e;have:=nQ h (n*sz) o 0 (by simpa using d);simpa using this
theorem bg.lD{w:J}{b o:Nat}{c:Array Y}{T:TypeId}(h:bg w b c T)(vs:O Y):bg (setCells w ⟨b,o,none⟩ 0 vs) b (fR c o vs) T:=by
 simpa using bg.pJ vs o 0 h
theorem aZ.mk'{sz:Nat}{T:TypeId}{w:J}{b n cap:Nat}{c:Array Y}{vs:O Y}(a:bg w b c T)(d:vs.length=n*sz)(e:n<=cap)(hc:cap<=maxLen)(hs:c.size=cap*sz)(f:c.toList.take (n*sz)=vs):aZ sz T w ⟨some ⟨b,0,Option.none⟩,n,cap⟩ vs:=
 ⟨d,e,hc,.inr ⟨b,c,rfl,a,hs,f⟩⟩
theorem B6(A:ag)(a b:Nat):(A.add a).add b=A.add (a+b):=by
 unfold Addr.add;by_cases c:a=0
 .subst c;simp
 .by_cases d:b=0
  .subst d;simp
  .simp[c,d,Nat.add_assoc]
theorem yq{w:J}{A:ag}:∀ {n i:Nat}{vs:O Y}{j:Nat}{v:Y},bE w A i n=some vs->vs[j]? =some v->w.cell? (A.add (i+j))=some v
 |0,_,vs,j,v,h,a=>by simp[bE]at h;subst h;simp at a
 |n+1,i,vs,j,v,h,a=>by
  simp only[bE]at h
  cases h1:w.cell? (A.add i) with
  |none=>simp[h1]at h
  |some u=>
   cases b:bE w A (i+1) n with
   |none=>simp[h1,b]at h
   |some us=>
    simp only[h1,b,Option.some.injEq]at h
    subst h
    cases j with
    |zero=>simp at a;subst a;exact h1
    |succ j=>
     have:=yq b (j:=j) (v:=v) (by simpa using a)
     rwa[show i+(j+1)=i+1+j from I]
theorem yr{w:J}{A:ag}:∀ (n i:Nat) (vs:O Y),vs.length=n->(∀j v,vs[j]? =some v->w.cell? (A.add (i+j))=some v)->bE w A i n=some vs
 |0,i,vs,a,_=>by
  cases vs with
  |nil=>simp[bE]
  |cons _ _=>simp at a
 |n+1,i,vs,a,h=>by
  cases vs with
  |nil=>simp at a
  |cons v vs=>
   simp only[bE]
   rw[show w.cell? (A.add i)=some v from h 0 v rfl,yr n (i+1) vs (by simpa using a) (λj x hx=>by have:=h (j+1) x (by simpa using hx);rwa[show i+(j+1)=i+1+j from I]at this)]
theorem B7{w:J}{A:ag}{n k m:Nat}{vs:O Y}(h:bE w A 0 n=some vs)(b:k+m<=n):bE w (A.add k) 0 m=some ((vs.drop k).take m):=by
 have c:=x4 h;refine yr m 0 _ (by simp;omega) λj v a=>?_;rw[B6,show k+(0+j)=0+(k+j) from I];refine yq h ?_;rw[qR]at a;split at a
 .rwa[qN]at a
 .cases a
theorem B8{a b:Nat}(h:a+b<=4000000):IntKind.wrap .i64 (Int.fdiv (IntKind.wrap .u64 (IntKind.wrap .i64 ((a:Int)+(b:Int)))) (2^(min (Int.toNat 1) 64)))=(((a+b)/2:Nat):Int):=by
 rw[bz (n:=(a:Int)+b) I I,gj I I];have e:(2:Int)^(min (Int.toNat 1) 64)=2:=rfl;rw[e,Int.fdiv_eq_ediv_of_nonneg _ I,bz I I];omega
section
variable {w:J}
end
end aR
