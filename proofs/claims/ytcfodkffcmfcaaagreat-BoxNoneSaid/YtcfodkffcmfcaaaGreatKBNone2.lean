/- What a Go program of the model must show, as text that can be read; sound against the kit. -/
import Derived.Carry
import Derived.ChangeArms
import Derived.ChangeVars
import Derived.Defers
import Derived.LaidLaws
import Derived.Laws.StructEq
import Derived.Lib.Overlaps
import Derived.MakeChecks
import Derived.WideKeyRuns
import Derived.Test.YtcfodkffcmfcaaaGreatKBNone1
namespace aO
open Go Go.RowKit
def j4(fS:TypeId->al (Y cK))(P:Program):Y Field->Nat->al (Y cK)
 | [],_=>some []
 |f::fs,o=>if f.name= "_" \/f.offset≠o then none else
  match fS f.type with
  |some ls=>if P.cellsOf f.type=ls.length then (j4 fS P fs (o+ls.length)).map (ls++ ·) else none
  |none=>none
def nO(ls:Y cK):Nat->Y cK
 |0=> []
 |n+1=>ls++nO ls n
def fS(P:Program):Nat->TypeId->al (Y cK)
 |0,_=>none
 |d+1,T=>match P.underlying T with
  |some (.int k)=>some [.int k]
  |some .bool=>some [.bool]
  |some .string=>some [.str]
  |some (.struct fs)=>if P.stoodInHeld T then none else j4 (fS P d) P fs.toList 0
  |some (.array n e)=>match fS P d e with
   |some ls=>if P.cellsOf e=ls.length then some (nO ls n) else none
   |none=>none
  |_=>none
def vA:cK->O->Prop
 | .int k,v=>∃n:Int,v=.int k n
 | .bool,v=>∃b:ai,v=.bool b
 | .str,v=>∃s:ByteArray,v=.string s
 |_,_=>False
def dK:Y cK->Y O->Prop
 | [],vs=>vs=[]
 |l::ls,vs=>∃v us,vs=v::us/\vA l v/\dK ls us
theorem tp:∀ {ls:Y cK}{vs:Y O},dK ls vs->vs.length=ls.length
 | [],_,h=>by cases h;rfl
 |_::_,_,h=>by
  obtain⟨v,us,rfl,_,h⟩:=h
  simp[tp h]
theorem tq:∀ {ls ms:Y cK}{vs:Y O},dK (ls++ms) vs->dK ls (vs.take ls.length)/\dK ms (vs.drop ls.length)
 | [],_,_,h=>⟨rfl,h⟩
 |l::ls,ms,vs,h=>by
  obtain⟨v,us,rfl,h1,h2⟩:=h
  obtain⟨a,b⟩:=tq h2
  exact⟨⟨v,_,rfl,h1,a⟩,b⟩
theorem tr:∀ {ls ms:Y cK}{vs us:Y O},dK ls vs->dK ms us->dK (ls++ms) (vs++us)
 | [],_,_,_,h,h2=>by cases h;exact h2
 |l::ls,ms,vs,us,h,h2=>by
  obtain⟨v,vs,rfl,h1,h⟩:=h
  exact⟨v,_,rfl,h1,tr h h2⟩
def nP:O->O->ai
 | .int _ a,.int _ b=>a==b
 | .bool a,.bool b=>a==b
 | .string a,.string b=>a.toList==b.toList
 |_,_=>false
def fi:Y O->Y O->ai
 | [],_=>true
 |a::as,b::bs=>nP a b&&fi as bs
 |_::_,[]=>false
theorem Hp{l:cK}{a b:O}(c:vA l a)(hb:vA l b):nP a b=true↔a=b:=by
 cases l<;>simp only[vA]at c hb<;>try exact c.elim
 .obtain⟨n,rfl⟩:=c;obtain⟨m,rfl⟩:=hb;simp[nP]
 .obtain⟨n,rfl⟩:=c;obtain⟨m,rfl⟩:=hb;simp[nP]
 .obtain⟨n,rfl⟩:=c;obtain⟨m,rfl⟩:=hb
  simp only[nP,jw,Value.string.injEq];rw[ByteArray.toList_eq,ByteArray.toList_eq];obtain⟨⟨x⟩⟩:=n;obtain⟨⟨y⟩⟩:=m;simp
theorem tt:∀ {ls:Y cK}{as bs:Y O},dK ls as->dK ls bs->(fi as bs=true↔as=bs)
 | [],_,_,h1,h2=>by cases h1;cases h2;simp[fi]
 |l::ls,_,_,h1,h2=>by
  obtain⟨a,as,rfl,c,d⟩:=h1
  obtain⟨b,bs,rfl,e,f⟩:=h2
  simp[fi,Hp c e,tt d f]
theorem zI:∀ {as bs cs ds:Y O},as.length=bs.length->fi (as++cs) (bs++ds)=(fi as bs&&fi cs ds)
 | [],[],_,_,_=>by simp[fi]
 |a::as,b::bs,cs,ds,h=>by
  simp only[List.cons_append,fi]
  rw[zI (by simpa using h),Bool.and_assoc]
 | [],_::_,_,_,h=>by simp at h
 |_::_,[],_,_,h=>by simp at h
def lH(P:Program)(T:TypeId)(cs:Y O):O:=
 match P.underlying T with
 |some d=>if gP d then .agg cs.toArray else cs.headD undef
 |none=>undef
section
variable {P:Program}
theorem pe{T:TypeId}{d:TypeDesc}{cs:Y O}(h:P.underlying T=some d)(a:gP d=true):lH P T cs=.agg cs.toArray:=by
 simp[lH,h,a]
theorem pg{T:TypeId}{d:TypeDesc}{v:O}(h:P.underlying T=some d)(a:gP d=false):lH P T [v]=v:=by
 simp[lH,h,a]
theorem vB{T:TypeId}{cs us:Y O}{off:Nat}{d:TypeDesc}(a:P.underlying T=some d)(b:P.cellsOf T=us.length)(c:gP d=false->us.length=1)
 (h:(cs.drop off).take us.length=us) (w:I):(part T cs.toArray off).run P w=.ok (lH P T us) w:=by
 cases hd:gP d with
 |true=>
  rw[pe a hd];have e:cs.toArray.extract off (off+us.length)=us.toArray:=by
   simp[h]
  simp[part,qD a,hd,hM a,b,h]
 |false=>
  obtain⟨v,rfl⟩:=List.length_eq_one_iff.1 (c hd);rw[pg a hd];have f:cs[off]? =some v:=by
   have:((cs.drop off).take 1)[0]? =some v:=by
    have g:List.take 1 (List.drop off cs)=[v]:=h;rw[g];rfl
   rw[List.getElem?_take_of_lt J,u3]at this;simpa using this
  simp[part,qD a,hd,f]
theorem flat_agg{d:Nat}{T:TypeId}{ls:Y cK}(h:fS P d T=some ls):∃u,P.underlying T=some u/\(gP u=false->ls.length=1):=by
 cases d with
 |zero=>cases h
 |succ d=>
  simp only[fS]at h
  cases hu:P.underlying T with
  |none=>simp[hu]at h
  |some u=>
   refine⟨u,rfl,λa=>?_⟩;rw[hu]at h
   cases u<;>simp only[gP,reduceCtorEq]at a h<;>first|(cases h;rfl)|cases h
theorem CG{d D:Nat}(g:∀ {T:TypeId}{ls:Y cK}{xs ys:Y O},fS P d T=some ls->dK ls xs->dK ls ys->∀w,(Op.equalIn (D+d) T (lH P T xs) (lH P T ys)).run P w=.ok (fi xs ys) w)
 {xs ys:Y O}:∀ {fs:Y Field}{o:Nat}{ls:Y cK},j4 (fS P d) P fs o=some ls->dK ls (xs.drop o)->dK ls (ys.drop o)->
  ∀w,(Op.eqFields (D+d) xs.toArray ys.toArray fs).run P w=.ok (fi (xs.drop o) (ys.drop o)) w
 | [],o,ls,h,hx,i,w=>by
  simp only[j4,Option.some.injEq]at h
  subst h
  have hx:xs.drop o=[]:=hx
  rw[hx]
  rfl
 |f::fs,o,ls,h,hx,i,w=>by
  simp only[j4]at h
  split at h
  .cases h
  .rename_i hf
   have p:¬f.name= "_" :=λe=>hf (.inl e)
   have q:f.offset=o:=by
    by_cases e:f.offset=o
    .exact e
    .exact absurd (.inr e) hf
   subst q;split at h
   .rename_i ms hm
    split at h
    .rename_i hc
     cases b:j4 (fS P d) P fs (f.offset+ms.length) with
     |none=>simp[b]at h
     |some t=>
      simp only[b,l2,Option.some.injEq]at h;subst h;obtain⟨j,k⟩:=tq hx;obtain⟨l,m⟩:=tq i;rw[oW]at k m;obtain⟨u,hu,n⟩:=flat_agg hm;have a:=tp j;have kr:=tp l;have gh:=vB (cs:=xs) (off:=f.offset) (us:=(xs.drop f.offset).take ms.length) hu (by rw[hc,a]) (λc=>by rw[a];exact n c) (by rw[a]);have df:=vB (cs:=ys) (off:=f.offset) (us:=(ys.drop f.offset).take ms.length) hu (by rw[hc,kr]) (λc=>by rw[kr];exact n c) (by rw[kr]);have e:=λw=>g hm j l w;have r:=CG g (fs:=fs) b k m;have s:fi (xs.drop f.offset) (ys.drop f.offset)=(fi ((xs.drop f.offset).take ms.length) ((ys.drop f.offset).take ms.length)&&fi (xs.drop (f.offset+ms.length)) (ys.drop (f.offset+ms.length))):=by
       rw[←zI (by rw[a,kr])];simp only[←oW,kY]
      simp only[Op.eqFields,ne_eq,p,not_false_eq_true,if_true,Sem.run_bind,gh,df,e,Result.andThen];rw[s]
      cases fi ((xs.drop f.offset).take ms.length) ((ys.drop f.offset).take ms.length)
      .simp
      .simpa using r w
    .cases h
   .cases h
theorem CH(ls:Y cK):∀n,(nO ls n).length=n*ls.length
 |0=>by simp[nO]
 |n+1=>by simp[nO,CH ls n,j0,Nat.add_comm]
theorem CI{d D:Nat}(h:∀ {T:TypeId}{ls:Y cK}{xs ys:Y O},fS P d T=some ls->dK ls xs->dK ls ys->∀w,(Op.equalIn (D+d) T (lH P T xs) (lH P T ys)).run P w=.ok (fi xs ys) w)
 {e:TypeId}{ls:Y cK}{u:TypeDesc} (hu:P.underlying e=some u) (f:gP u=false->ls.length=1) (j:fS P d e=some ls) (hc:P.cellsOf e=ls.length) {xs ys:Y O}:
 ∀ (n i:Nat),dK (nO ls n) (xs.drop (i*ls.length))->dK (nO ls n) (ys.drop (i*ls.length))->∀w,
  Sem.run P (do
   let r ←forIn (List.range' i n) ((none:al ai),()) λi _=>do
    let a ←part e xs.toArray (i*ls.length)
    let b ←part e ys.toArray (i*ls.length)
    let t ←Op.equalIn (D+d) e a b
    if (!t)=true then pure (ForInStep.done (some false,())) else pure (ForInStep.yield (none,()))
   match r.1 with
   |some b=>pure b
   |none=>pure true) w=.ok (fi (xs.drop (i*ls.length)) (ys.drop (i*ls.length))) w
 |0,i,hx,k,w=>by
  have hx:xs.drop (i*ls.length)=[]:=hx
  rw[hx]
  simp[fi]
 |n+1,i,hx,k,w=>by
  obtain⟨l,m⟩:=tq hx
  obtain⟨o,p⟩:=tq k
  rw[oW,show i*ls.length+ls.length=(i+1)*ls.length by rw[j0,Nat.one_mul]]at m p
  have c:=tp l
  have kr:=tp o
  have gh:=vB (cs:=xs) (off:=i*ls.length) (us:=(xs.drop (i*ls.length)).take ls.length) hu (by rw[hc,c]) (λg=>by rw[c];exact f g) (by rw[c])
  have df:=vB (cs:=ys) (off:=i*ls.length) (us:=(ys.drop (i*ls.length)).take ls.length) hu (by rw[hc,kr]) (λg=>by rw[kr];exact f g) (by rw[kr])
  have aP:=λw=>h j l o w
  have r:=CI h hu f j hc n (i+1) m p w
  have q:fi (xs.drop (i*ls.length)) (ys.drop (i*ls.length))=(fi ((xs.drop (i*ls.length)).take ls.length) ((ys.drop (i*ls.length)).take ls.length)&&fi (xs.drop ((i+1)*ls.length)) (ys.drop ((i+1)*ls.length))):=by
   rw[←zI (by rw[c,kr]),show(i+1)*ls.length=i*ls.length+ls.length by rw[j0,Nat.one_mul]];simp only[←oW,kY]
  rw[q];simp only[List.range'_succ,List.forIn_cons,Sem.run_bind,gh,df,aP,Result.andThen]
  cases fi ((xs.drop (i*ls.length)).take ls.length) ((ys.drop (i*ls.length)).take ls.length)
  .simp
  .simpa[Result.andThen] using r
theorem CJ(D:Nat):∀ (d:Nat) {T:TypeId}{ls:Y cK}{xs ys:Y O},fS P d T=some ls->dK ls xs->dK ls ys->∀w,(Op.equalIn (D+d) T (lH P T xs) (lH P T ys)).run P w=.ok (fi xs ys) w
 |0,_,_,_,_,h,_,_,_=>by cases h
 |d+1,T,ls,xs,ys,h,hx,b,w=>by
  have c:= @CJ D d
  simp only[fS]at h
  cases hu:P.underlying T with
  |none=>simp[hu]at h
  |some u=>
   rw[hu]at h
   cases u with
   |int k=>
    simp only[Option.some.injEq]at h;subst h
    obtain⟨x,_,rfl,⟨n,rfl⟩,rfl⟩:=hx
    obtain⟨y,_,rfl,⟨m,rfl⟩,rfl⟩:=b
    rw[pg hu rfl,pg hu rfl]
    show(Op.equalIn (D+d+1) T _ _).run P w=_
    simp[Op.equalIn,cY hu,fi,nP]
   |bool=>
    simp only[Option.some.injEq]at h;subst h
    obtain⟨x,_,rfl,⟨n,rfl⟩,rfl⟩:=hx
    obtain⟨y,_,rfl,⟨m,rfl⟩,rfl⟩:=b
    rw[pg hu rfl,pg hu rfl]
    show(Op.equalIn (D+d+1) T _ _).run P w=_
    simp[Op.equalIn,cY hu,fi,nP]
   |string=>
    simp only[Option.some.injEq]at h;subst h
    obtain⟨x,_,rfl,⟨n,rfl⟩,rfl⟩:=hx
    obtain⟨y,_,rfl,⟨m,rfl⟩,rfl⟩:=b
    rw[pg hu rfl,pg hu rfl]
    show(Op.equalIn (D+d+1) T _ _).run P w=_
    simp[Op.equalIn,cY hu,fi,nP,beq_toListBytes]
   |struct fs=>
    simp only at h
    split at h
    .cases h
    .rename_i i
     rw[pe hu rfl,pe hu rfl]
     have f:P.fieldsOf T=fs:=by simp[Program.fieldsOf,hu]
     show(Op.equalIn (D+d+1) T _ _).run P w=_
     rw[run_equalIn_struct w (D+d) T xs.toArray ys.toArray (by rw[f];exact hu) (by simpa using i),f]
     have:=CG (D:=D) c (xs:=xs) (ys:=ys) h (by simpa using hx) (by simpa using b) w
     simpa using this
   |array n e=>
    simp only at h
    split at h
    .rename_i ms hm
     split at h
     .rename_i hc
      simp only[Option.some.injEq]at h;subst h
      obtain⟨u,g,j⟩:=flat_agg hm
      rw[pe hu rfl,pe hu rfl]
      show(Op.equalIn (D+d+1) T _ _).run P w=_
      have:=CI (D:=D) c g j hm hc (xs:=xs) (ys:=ys) n 0 (by simpa using hx) (by simpa using b) w
      rw[Nat.zero_mul,lz,lz]at this
      rw[←this]
      simp only[Op.equalIn,Sem.run_bind,cY hu,hM g,Result.andThen,hc,Std.Legacy.Range.forIn_eq_forIn_range',Std.Legacy.Range.size]
      simp
      congr 1
      funext a w
      obtain⟨o,_⟩:=a
      cases o<;>rfl
     .cases h
    .cases h
   |_=>cases h
theorem jz.flat{T:TypeId}{d:TypeDesc}{ls:Y cK}{xs ys:Y O}(a:P.underlying T=some d)(b:gP d=true)(hf:fS P 8 T=some ls)(hg:P.eqGuardType P.depth T=false)
 (hx:dK ls xs) (c:dK ls ys):jz P T xs.toArray ys.toArray (fi xs ys):=by
 refine⟨hg,λw=>?_⟩;have:=CJ (P:=P) 9992 8 hf hx c w;rwa[pe a b,pe a b]at this
end
end aO
namespace aO
open Go Go.RowKit
theorem vC{n:Int}(h0:0<=n)(h1:n<=255):IntKind.u8.wrap n=n:=by
 simp only[IntKind.wrap,IntKind.signed,IntKind.bits];simp;omega
theorem Hq{n:Int}(h0:0<=n)(h1:n<=65535):IntKind.u16.wrap n=n:=by
 simp only[IntKind.wrap,IntKind.signed,IntKind.bits];simp;omega
theorem zJ{n:Int}(h0:0<=n)(h1:n<=4294967295):IntKind.u32.wrap n=n:=by
 simp only[IntKind.wrap,IntKind.signed,IntKind.bits];simp;omega
theorem eG{n:Int}(h0:0<=n)(h1:n<=18446744073709551615):IntKind.u64.wrap n=n:=by
 simp only[IntKind.wrap,IntKind.signed,IntKind.bits];simp;omega
theorem Hr(n:Int):IntKind.u8.wrap n=n%256:=by
 simp only[IntKind.wrap,IntKind.signed,IntKind.bits];simp
theorem zK(n:Int):IntKind.u64.wrap n=n%18446744073709551616:=by
 simp only[IntKind.wrap,IntKind.signed,IntKind.bits];simp
def S(l:Y UInt8):ByteArray:=⟨l.toArray⟩
theorem CK(l:Y UInt8):(S l).toList=l:=ByteArray.toList_mk l
theorem CL(a b:Y UInt8):(ByteArray.toList (S a)==ByteArray.toList (S b))=(a==b):=by rw[CK,CK]
theorem Hs(ns:Y Int):CD ns=S (ns.map λn=>UInt8.ofNat n.toNat):=by
 have h:∀ (ns:Y Int) (r:Y UInt8),ns.foldl (λr n=>r.push (UInt8.ofNat n.toNat)) (S r)=S (r++ns.map λn=>UInt8.ofNat n.toNat):=by
  intro ns
  induction ns with
  |nil=>intro r;simp
  |cons n ns a=>
   intro r;have e:(S r).push (UInt8.ofNat n.toNat)=S (r++ [UInt8.ofNat n.toNat]):=by
    apply ByteArray.ext;simp[S,ByteArray.push]
   simp only[List.foldl_cons,e,a,gD,gE,List.cons_append,oX]
 exact h ns []
theorem add_add(A:ar)(n m:Nat):(A.add n).add m=A.add (n+m):=by
 unfold Addr.add;by_cases h1:n=0
 .subst h1;simp
 .by_cases h2:m=0
  .subst h2;simp
  .rw[if_neg h1,if_neg h2,if_neg J]
   simp[Nat.add_assoc]
def put(f:Nat->Int)(i:Nat)(v:Int):Nat->Int:=λj=>if j=i then v else f j
section
variable {w w':I}{b m i:Nat}{T:TypeId}{f:Nat->Int}
theorem ad.iF{w0 w:I}{b i:Nat}(h:ad (λq=>q=b) w0 w)(v:O):ad (λq=>q=b) w0 (w.setCell ⟨b,i,none⟩ v):=ad.set h (λ_=>rfl) v
theorem ad.iG{w0 w:I}{b i:Nat}(h:ad (λq=>q=b) w0 w)(vs:Y O)(j:Nat):ad (λq=>q=b) w0 (aO.setCells w ⟨b,i,none⟩ j vs):=ad.setCells (W:=λq=>q=b) (A:=⟨b,i,none⟩) (λ_=>rfl) vs j h
end
theorem nQ{b o:Nat}{z l m:Nat}(h:m≠l):bw (some (Addr.mk b o none)) z l m=some ⟨b,o+l*z,none⟩:=by
 simp[bw,h,av]
theorem Ext.trans{a b c:I}(h1:Ext a b)(h2:Ext b c):Ext a c:=ad.trans h1 h2
theorem Ext.eH{w0 w1 af:I}{W:Nat->Prop}(h1:Ext w0 w1)(h2:ad W w1 af)(h:∀k,W k->w0.heap.size<=k):Ext w0 af:=
 ⟨h2.os.trans h1.os,h2.tape.trans h1.tape,h2.output.trans h1.output,dG h1.size h2.size,λk a _=>by
  rw[h2.block k (fX a h1.size) (λb4=>by have:=h k b4;omega),h1.block k a id]⟩
end aO
namespace aO
open Go
def qR(P:Program)(f:FuncId)(args:Array O)(w:I)(K:I->Prop):Prop:=
 iC P f/\CallsD P f args .returning w λe a w'=>(∃v,e=.returned v)/\a=.returning/\K w'
def zL(P:Program)(tk:TypeId->dI)(c:Code)(K:FuncId->Array O->Array O->Env->I->Prop)(e:Env)(w:I):Prop:=
 match c with
 | .region _ ops false=>match ops.toList with
  | [a,b]=>match a.guard,b.guard,b.dst,b.op with
   |none,none,none,.defer call=>match call.callee,call.args.toList with
    | .value x,[]=>j2 P tk a (λv w'=>match ev (c_ a.dst v e) x with|some (.func (.func f) first cap)=>K f first cap (c_ a.dst v e) w'|_=>False) e w
    |_,_=>False
   |_,_,_,_=>False
  |_=>False
 |_=>False
def tu(P:Program)(tk:TypeId->dI):aB->Code->(Exit->Env->I->Prop)->(FuncId->Array O->Array O->Exit->Env->I->Prop)->Env->I->Prop
 | .seq .leaf B,.seq a b,_,Kd,e,w=>zL P tk a (λf first cap e' w'=>D P tk B b (Kd f first cap) e' w') e w
 | .seq A B,.seq a b,K,Kd,e,w=>D P tk A a (λx e' w'=>match x with| .normal=>tu P tk B b K Kd e' w'|x=>K x e' w') e w
 |_,_,_,_,_,_=>False
def Ht(P:Program)(tk:TypeId->dI)(a:Y ResultVar)(R:O->I->Prop)(f:FuncId)(first cap:Array O)(x:Exit)(e:Env)(w:I):Prop:=
 match x with
 | .normal| .ret=>qR P f (first++cap) w λw'=>mN P tk a e w' λvs=>R (qN vs) w'
 |_=>False
def zM(P:Program)(tk:TypeId->dI)(A:aB)(fn:Func)(args:Y O)(w:I)(R:O->I->Prop):Prop:=
 match fn.body with
 |some c=>tu P tk A c (Cu P tk fn.results.toList R) (Ht P tk fn.results.toList R) (o_ 0 args) w
 |none=>False
variable {P:Program}{tk:TypeId->dI}
def tv(f:FuncId)(first cap:Array O):Deferred:={target:=.fn (.func f) cap,args:=first++ #[]}
theorem Hu{c:Code}{K:FuncId->Array O->Array O->Env->I->Prop}{e:Env}{a:Act}{w:I}(au:de e a)(hb:∀d∈writes c,d<a.tmps.size)(h:zL P tk c K e w):
 c.wp P (λx a' w'=>x=.normal/\∃f first cap,a'.defers=tv f first cap::a.defers/\a'.tmps.size=a.tmps.size/\∃e',de e' a'/\K f first cap e' w') a w:=by
 unfold zL at h;split at h
 case h_2=>exact h.elim
 rename_i id ops;split at h
 case h_2=>exact h.elim
 rename_i b j m;split at h
 case h_2=>exact h.elim
 rename_i call o p q r;split at h
 case h_2=>exact h.elim
 rename_i x hc vz;refine wp_region_list ?_;rw[m];have w1:Region.wanted b (yielded ops a.tmps)=true:=by unfold Region.wanted;rw[o]
 simp only[wpList,w1,if_true];refine .inl ((vm au h).wp ?_);intro v w' l;have t:Region.wanted j (yielded ops (a.put b.dst v).tmps)=true:=by unfold Region.wanted;rw[p]
 simp only[t,if_true];refine .inl ?_;split at l
 case h_2=>exact l.elim
 rename_i f first cap u;have n:de (c_ b.dst v e) (a.put b.dst v):=au.put λk i=>hb k (by simp[writes,m,bM,i]);have y:call.args= #[]:=by
  have:=congrArg List.toArray vz;simpa using this
 have z:(execOp (a.put b.dst v).eval j).run P w'=.ok (.defer (tv f first cap)) w':=by
  have hm:∀g:Operand->O,Array.map g #[]= #[]:=λg=>by simp
  simp only[execOp,r,resolve,hc,y,n.ev u,hm];rfl
 show j.upon P _ _ _ ((execOp (a.put b.dst v).eval j).run P w');rw[z,Oper.upon_defer,q];refine⟨trivial,f,first,cap,?_,?_,c_ b.dst v e,?_,l⟩
 .have:=(dS.put (a:=a) (d:=b.dst) (v:=v) (ds:=bM [b]) (λk i=>by simp[bM,i])).defers
  show tv f first cap::(a.put b.dst v).defers=_;rw[this]
 .exact(dS.put (a:=a) (d:=b.dst) (v:=v) (ds:=bM [b]) (λk i=>by simp[bM,i])).size
 .exact⟨λs v hs=>n.get s v hs⟩
theorem Hv(hm:P.follows .mixedOrders=true):∀ (A:aB) (c:Code) (K:Exit->Env->I->Prop) (Kd:FuncId->Array O->Array O->Exit->Env->I->Prop) (e:Env) (a:Act) (w:I),de e a->a.defers=[]->
 (∀d∈writes c,d<a.tmps.size)->tu P tk A c K Kd e w->
 c.wp P (λx a' w'=>(a'.defers=[]/\∃e',de e' a'/\K x e' w')\/∃f first cap,a'.defers=[tv f first cap]/\∃e',de e' a'/\Kd f first cap x e' w') a w:=by
 intro A
 induction A with
 |seq A B s m=>
  intro c K Kd e a w au hd hb h;unfold tu at h;split at h
  case h_3=>exact h.elim
  .rename_i n x y i
   cases i;have hx:∀d,d∈writes x->d∈writes (.seq x y):=λd hd=>by simp[writes,hd]
   have j:∀d,d∈writes y->d∈writes (.seq x y):=λd hd=>by simp[writes,hd]
   refine wp_seq (jB (Hu au (λd hd=>hb d (hx d hd)) h) ?_);rintro ex a1 w1 ⟨rfl,f,first,cap,h1,h2,aP,b,o⟩;refine jB (vy hm B y _ aP a1 w1 b (λd hd=>by rw[h2];exact hb d (j d hd)) o) ?_;rintro ex a2 af ⟨p,aU,q,r⟩;exact .inr ⟨f,first,cap,by rw[p.defers,h1,hd],aU,q,r⟩
  .rename_i t n x y _ i
   cases i;have hx:∀d,d∈writes x->d∈writes (.seq x y):=λd hd=>by simp[writes,hd]
   have j:∀d,d∈writes y->d∈writes (.seq x y):=λd hd=>by simp[writes,hd]
   refine wp_seq (jB (vy hm A x _ _ a _ au (λd hd=>hb d (hx d hd)) h) ?_);rintro ex a1 w1 ⟨k,aP,b,h1⟩;have g:a1.defers=[]:=by rw[k.defers,hd]
   cases ex with
   |normal=>exact m y _ _ aP a1 w1 b g (λd hd=>by rw[k.size];exact hb d (j d hd)) h1
   |exit id=>exact .inl ⟨g,aP,b,h1⟩
   |goto l=>exact .inl ⟨g,aP,b,h1⟩
   |ret=>exact .inl ⟨g,aP,b,h1⟩
   |panic u=>exact .inl ⟨g,aP,b,h1⟩
   |outgrown=>exact .inl ⟨g,aP,b,h1⟩
 |_=>intro c K Kd e a w au hd hb h;unfold tu at h;exact h.elim
theorem CM{fn:Func}{args:Y O}(a:args.length<=fn.ntmps):de (o_ 0 args) {tmps:=args.toArray++Array.replicate (fn.ntmps-args.toArray.size) undef,defers:=[]}:=by
 constructor;intro s v hs;obtain⟨_,h2⟩:=zE hs;simp only[Nat.sub_zero]at h2;have aI:s<args.length:=(qp.1 h2).1;simp[Array.getElem?_append,aI];rw[fQ aI]at h2;exact Option.some.inj h2
theorem Hw{f:FuncId}{fn:Func}{A:aB}{args:Y O}{w:I}{K:I->Prop}(hm:P.follows .mixedOrders=true)(hc:iC P f)
 (hf:P.funcs[f]? =some fn) (b:pb fn args.length=true) (h:qO P tk A fn args w λ_ w'=>K w'):qR P f args.toArray w K:=by
 refine⟨hc,?_⟩;unfold qO at h;unfold pb at b
 cases g:fn.body with
 |none=>rw[g]at h;exact h.elim
 |some c=>
  rw[g]at h b;simp only[du]at h b;obtain⟨m,n⟩:=b;have o:=nC n;have p:(args.toArray++Array.replicate (fn.ntmps-args.toArray.size) undef).size=fn.ntmps:=by simp;omega
  refine(callsD_of_wp (R:=λe w'=>(∃v,e=.returned v)/\K w') hf g ?_).mono λe s w' ⟨h1,h2,q⟩=>⟨h2,h1,q⟩;refine jB (vy hm A c _ _ _ w (CM o) (λd hd=>?_) h) ?_
  .have h1:=ny.1 m d hd
   have h2:=nC h1;show d<(args.toArray++Array.replicate (fn.ntmps-args.toArray.size) undef).size;rw[p];omega
  .rintro x a' w' ⟨r,e',k,a⟩
   have hd:a'.defers=[]:=r.defers
   cases x with
   |normal=>
    obtain⟨vs,i,j⟩:=mO k a;exact⟨hd,_,pc i,⟨_,rfl⟩,j⟩
   |ret=>
    obtain⟨vs,i,j⟩:=mO k a;exact⟨hd,_,pc i,⟨_,rfl⟩,j⟩
   |exit id=>exact a.elim
   |goto l=>exact a.elim
   |panic t=>exact a.elim
   |outgrown=>exact a.elim
theorem Hx{f:FuncId}{fn:Func}{A:aB}{args:Y O}{w:I}{R:O->I->Prop}(hm:P.follows .mixedOrders=true)
 (hf:P.funcs[f]? =some fn) (k:pb fn args.length=true) (h:zM P tk A fn args w R):
 Calls P f args.toArray w λe w'=>∃v,e=.returned v/\R v w':=by
 unfold zM at h;unfold pb at k
 cases m:fn.body with
 |none=>rw[m]at h;exact h.elim
 |some c=>
  rw[m]at h k;simp only[du]at h k;obtain⟨n,o⟩:=k;have p:=nC o;have q:(args.toArray++Array.replicate (fn.ntmps-args.toArray.size) undef).size=fn.ntmps:=by simp;omega
  refine calls_of_wp_defers hf m ?_;refine jB (Hv hm A c _ _ _ _ w (CM p) rfl (λd hd=>?_) h) ?_
  .have h1:=ny.1 n d hd
   have h2:=nC h1;show d<(args.toArray++Array.replicate (fn.ntmps-args.toArray.size) undef).size;rw[q];omega
  .have key:∀ {a':Act}{w':I}{e':Env}{g:FuncId}{first cap:Array O},a'.defers=[tv g first cap]->de e' a'->(qR P g (first++cap) w' λw'=>mN P tk fn.results.toList e' w' λvs=>R (qN vs) w')->
    Leaves P fn a'.tmps (λe w'=>∃v,e=.returned v/\R v w') a'.defers .returning w':=by
    intro a' w' e' g first cap hd b ⟨hc,a⟩;rw[hd];refine leaves_cons (f:=g) (args:=first++cap) (by simp) (by simp[invoke,BZ hc]) (a.mono ?_);rintro _ _ af ⟨⟨v,rfl⟩,rfl,r⟩;obtain⟨vs,i,j⟩:=mO b r;exact⟨_,pc i,_,rfl,j⟩
   rintro x a' w' (⟨hd,e',b,a⟩|⟨g,first,cap,hd,e',b,a⟩)
   .cases x with
    |normal=>
     obtain⟨vs,i,j⟩:=mO b a;show Leaves _ _ _ _ a'.defers _ _;rw[hd];exact⟨_,pc i,_,rfl,j⟩
    |ret=>
     obtain⟨vs,i,j⟩:=mO b a;show Leaves _ _ _ _ a'.defers _ _;rw[hd];exact⟨_,pc i,_,rfl,j⟩
    |exit id=>exact a.elim
    |goto l=>exact a.elim
    |panic s=>exact a.elim
    |outgrown=>exact a.elim
   .cases x with
    |normal=>exact key hd b a
    |ret=>exact key hd b a
    |exit id=>exact a.elim
    |goto l=>exact a.elim
    |panic s=>exact a.elim
    |outgrown=>exact a.elim
end aO
namespace aO
open Go Go.RowKit
def Hy:cK->O->Prop
 | .int k,v=>∃n:Int,v=.int k n/\k.min<=n/\n<=k.max
 | .bool,v=>∃b:ai,v=.bool b
 | .str,v=>∃s:ByteArray,v=.string s/\s.size<=maxLen
 |_,_=>False
def l7:Y cK->Y O->Prop
 | [],vs=>vs=[]
 |l::ls,vs=>∃v us,vs=v::us/\Hy l v/\l7 ls us
theorem zN:∀ {ls ms:Y cK}{vs us:Y O},l7 ls vs->l7 ms us->l7 (ls++ms) (vs++us)
 | [],_,_,_,h,h2=>by cases h;exact h2
 |l::ls,ms,vs,us,h,h2=>by
  obtain⟨v,vs,rfl,h1,h⟩:=h
  exact⟨v,_,rfl,h1,zN h h2⟩
theorem CN{P:Program}{vD:TypeId->al (Y cK)}{cs:Y O}{R:TypeId->Y O->Prop}(c:∀ {T:TypeId}{ls:Y cK}{us:Y O},vD T=some ls->R T us->l7 ls us):
 ∀ {fs:Y Field}{o:Nat}{ls:Y cK},j4 vD P fs o=some ls->o+ls.length=cs.length->(∀f∈fs,R f.type ((cs.drop f.offset).take (P.cellsOf f.type)))->l7 ls (cs.drop o)
 | [],o,ls,h,a,_=>by
  simp only[j4,Option.some.injEq]at h
  subst h
  exact u4 (by simp at a;omega)
 |f::fs,o,ls,h,a,d=>by
  simp only[j4]at h
  split at h
  .cases h
  .rename_i hf
   have i:f.offset=o:=by
    by_cases e:f.offset=o
    .exact e
    .exact absurd (.inr e) hf
   subst i;split at h
   .rename_i ms hm
    split at h
    .rename_i hc
     cases b:j4 vD P fs (f.offset+ms.length) with
     |none=>simp[b]at h
     |some j=>
      simp only[b,l2,Option.some.injEq]at h;subst h;have h1:=c hm (d f (by simp));have h2:=CN c (fs:=fs) (cs:=cs) b (by simp at a;omega) (λg hg=>d g (by simp[hg]));rw[hc]at h1;have:=zN h1 h2;rwa[←oW,kY]at this
    .cases h
   .cases h
theorem CO{ls:Y cK}{cs:Y O}:∀ {n i:Nat},(∀j,i<=j->j<i+n->l7 ls ((cs.drop (j*ls.length)).take ls.length))->cs.length=(i+n)*ls.length->l7 (nO ls n) (cs.drop (i*ls.length))
 |0,i,_,a=>u4 (by simp at a;omega)
 |n+1,i,h,a=>by
  have h1:=h i (bk _) J
  have h2:=CO (n:=n) (i:=i+1) (λj h1 h2=>h j J J) (by rw[a];congr 1;omega)
  have:=zN h1 h2
  rw[show(i+1)*ls.length=i*ls.length+ls.length by rw[j0,Nat.one_mul],←oW,kY]at this
  exact this
theorem vE{P:Program}{w:I}:∀ (d:Nat) {T:TypeId}{ls:Y cK}{fuel:Nat}{cs:Y O},fS P d T=some ls->P.cellsOf T=ls.length->gu P w fuel T cs->l7 ls cs
 |0,_,_,_,_,h,_,_=>by cases h
 |d+1,T,ls,fuel,cs,h,l,a=>by
  cases fuel with
  |zero=>cases a
  |succ f=>
   simp only[fS]at h
   cases hu:P.underlying T with
   |none=>simp[hu]at h
   |some u=>
    rw[hu]at h
    cases u with
    |int k=>
     simp only[Option.some.injEq]at h;subst h
     simp only[gu,hu]at a
     obtain⟨n,rfl,h1,h2⟩:=a
     exact⟨_,_,rfl,⟨n,rfl,h1,h2⟩,rfl⟩
    |bool=>
     simp only[Option.some.injEq]at h;subst h
     simp only[gu,hu]at a
     obtain⟨b,rfl⟩:=a
     exact⟨_,_,rfl,⟨b,rfl⟩,rfl⟩
    |string=>
     simp only[Option.some.injEq]at h;subst h
     simp only[gu,hu]at a
     obtain⟨s,rfl,h1⟩:=a
     exact⟨_,_,rfl,⟨s,rfl,h1⟩,rfl⟩
    |struct fs=>
     simp only at h
     split at h
     .cases h
     .simp only[gu,hu]at a
      have:=CN (P:=P) (cs:=cs) (vD:=λT=>if (fS P d T).isSome/\∀ms,fS P d T=some ms->P.cellsOf T=ms.length then fS P d T else none) (R:=λT us=>gu P w f T us) (λ{T}{ls}{us} h1 h2=>by
       split at h1
       .rename_i p;exact vE d h1 (p.2 _ h1) h2
       .cases h1) (fs:=fs.toList) (o:=0) (ls:=ls) (by
        have key:∀ (fs:Y Field) (o:Nat) (ls:Y cK),j4 (fS P d) P fs o=some ls->j4 (λT=>if (fS P d T).isSome/\∀ms,fS P d T=some ms->P.cellsOf T=ms.length then fS P d T else none) P fs o=some ls:=by
         intro fs
         induction fs with
         |nil=>intro o ls h;exact h
         |cons g fs q=>
          intro o ls h;simp only[j4]at h⊢;split at h
          .cases h
          .rename_i hg
           rw[if_neg hg];split at h
           .rename_i ms hm
            split at h
            .rename_i hc
             have r:(fS P d g.type).isSome/\∀ms,fS P d g.type=some ms->P.cellsOf g.type=ms.length:=by
              refine⟨by simp[hm],λt m=>?_⟩;rw[hm]at m;cases m;exact hc
             rw[if_pos r,hm];simp only;rw[if_pos hc]
             cases c:j4 (fS P d) P fs (o+ms.length) with
             |none=>rw[c]at h;cases h
             |some v=>rw[c]at h;rw[q _ _ c];exact h
            .cases h
           .cases h
        exact key _ _ _ h) (by rw[a.1,l];simp) (λg hg=>a.2 g (by simpa using hg))
      simpa using this
    |array n e=>
     simp only at h;split at h
     .rename_i ms hm
      split at h
      .rename_i hc
       simp only[Option.some.injEq]at h;subst h;simp only[gu,hu]at a;have:=CO (ls:=ms) (cs:=cs) (n:=n) (i:=0) (λj _ x=>by
        have:=a.2 j J;rw[hc]at this;exact vE d hm hc this) (by rw[a.1,l,CH];simp)
       simpa using this
      .cases h
     .cases h
    |_=>cases h
theorem Hz{P:Program}{w:I}{T:TypeId}{d:TypeDesc}{ls:Y cK}{v:O}(h:k8 P w T v)(b:P.underlying T=some d)(c:gP d=true)(hf:fS P 8 T=some ls)(a:P.cellsOf T=ls.length):
 ∃cs:Y O,v=.agg cs.toArray/\l7 ls cs:=by
 unfold k8 at h;rw[b]at h
 cases d<;>simp only[gP,fW]at c<;>simp only at h
 .obtain⟨cs,rfl,fuel,h⟩:=h
  exact⟨cs.toList,by simp,vE 8 hf a h⟩
 .obtain⟨cs,rfl,fuel,h⟩:=h
  exact⟨cs.toList,by simp,vE 8 hf a h⟩
end aO
namespace aO
open Go Go.RowKit
section
variable {α:Type}{P:Program}{w:I}{gi eV T:TypeId}{enc:α->O}
def cP(enc:α->O)(x:α×O×Nat):MapEntry:=⟨enc x.1,x.2.1,x.2.2⟩
def l8(x:α×O×Nat):α×O:=(x.1,x.2.1)
def lI[DecidableEq α](k:α):Y (α×O×Nat)->Nat->al (Nat×O)
 | [],_=>none
 |x::L,i=>if k=x.1 then some (i,x.2.1) else lI k L (i+1)
theorem zO{β:Type}(f:β->β)(x:β)(da:Y β):∀cz:Y β,(cz++x::da).modify cz.length f=cz++f x::da
 | []=>rfl
 |y::cz=>by
  show y::((cz++x::da).modify cz.length f)=_
  rw[zO f x da cz];rfl
structure iP[DecidableEq α](P:Program)(gi:TypeId)(enc:α->O):Prop where
 find:∀ (L:Y (α×O×Nat)) (k:α) (w:I),(Instr.findKey gi (enc k) (L.map (cP enc))).run P w=.ok (lI k L 0) w
 check:∀ (b:ai) (k:α) (w:I),(Instr.checkKey b 10000 gi (enc k)).run P w=.ok () w
 bits:∀k,Instr.sameBits 10000 (enc k) (enc k)=true
theorem vF[DecidableEq α]{k:α}:∀ {L:Y (α×O×Nat)}{i:Nat},(∀x∈L,x.1≠k)->lI k L i=none
 | [],_,_=>rfl
 |x::L,i,h=>by
  rw[lI,if_neg (λe=>h x (by simp) e.symm)]
  exact vF λy a=>h y (by simp[a])
theorem zP[DecidableEq α]{k:α}{v:O}{n:Nat}{da:Y (α×O×Nat)}:∀ {cz:Y (α×O×Nat)}{i:Nat},(∀x∈cz,x.1≠k)->lI k (cz++(k,v,n)::da) i=some (i+cz.length,v)
 | [],i,_=>by simp[lI]
 |x::L,i,h=>by
  rw[List.cons_append,lI,if_neg (λe=>h x (by simp) e.symm),zP λy a=>h y (by simp[a])]
  simp;omega
theorem iP.int{k:IntKind}(hu:P.underlying gi=some (.int k)):iP P gi (λn:Int=>Value.int k n) where
 find L n w:=by
  have h:∀ (L:Y (Int×O×Nat)) (i:Nat),Instr.findNow (.int k) (.int k n) (L.map (cP λn:Int=>Value.int k n)) i=some (lI n L i):=by
   intro L
   induction L with
   |nil=>intro i;rfl
   |cons x L a=>
    intro i;simp only[gD,Instr.findNow,cP,Instr.sameNow,if_true,lI];by_cases hx:n=x.1
    .subst hx;simp
    .rw[if_neg hx,show(n==x.1)=false by simpa using hx]
     exact a (i+1)
  simp[Instr.findKey,cY hu,h]
 check b n w:=by
  show(Instr.checkKey b (9999+1) gi (.int k n)).run P w=_;unfold Instr.checkKey;simp only[Sem.run_bind,cY hu,Result.andThen];rfl
 bits n:=by
  show(k==k&&n==n)=true;simp
theorem iP.agg[DecidableEq α]{d:TypeDesc}(hu:P.underlying gi=some d)(hd:gP d=true)(c:∀a b w,(Op.equal gi (enc a) (enc b)).run P w=.ok (decide (a=b)) w)
 (hc:∀ (b:ai) (k:α) (w:I),(Instr.checkKey b 10000 gi (enc k)).run P w=.ok () w) (hb:∀k,Instr.sameBits 10000 (enc k) (enc k)=true):iP P gi enc where
 find L k w:=by
  have h:∀ (L:Y (α×O×Nat)) (i:Nat),(Instr.findAsking gi (enc k) (L.map (cP enc)) i).run P w=.ok (lI k L i) w:=by
   intro L
   induction L with
   |nil=>intro i;rfl
   |cons x L e=>
    intro i;simp only[gD,Instr.findAsking,cP,Sem.run_bind,c,Result.andThen,lI];by_cases hx:k=x.1
    .simp[hx]
    .simp only[hx,decide_false,fW,if_false]
     exact e (i+1)
  rw[run_findKey_eq w (by rw[hu];cases d<;>simp[gP]at hd⊢) (enc k) _];exact h L 0
 check:=hc
 bits:=hb
def cQ(w:I)(r:Nat)(enc:α->O)(M:Y (α×O)):Prop:=
 ∃ (L:Y (α×O×Nat)) (a:Nat),w.heap[r]? =some (.map (L.map (cP enc)).toArray a)/\(L.map l8).Perm M/\(L.map (·.1)).Nodup/\(L.map (·.2.2)).Nodup/\∀x∈L,x.2.2<a
def qS(w:I)(r:Nat)(enc:α->O)(M:Y (α×O))(k:α)(v:O)(st:Int):Prop:=
 ∃ (cz da:Y (α×O×Nat)) (n a:Nat),w.heap[r]? =some (.map ((cz++(k,v,n)::da).map (cP enc)).toArray a)/\((cz++da).map l8).Perm M/\((cz++(k,v,n)::da).map (·.1)).Nodup/\((cz++(k,v,n)::da).map (·.2.2)).Nodup/\(∀x∈cz++(k,v,n)::da,x.2.2<a)/\st=(n:Int)
variable {r:Nat}{M tw:Y (α×O)}{k:α}{v:O}{st:Int}{w':I}
theorem cQ.lt(h:cQ w r enc M):r<w.heap.size:=by
 obtain⟨L,a,h,_⟩:=h;exact(ly.1 h).1
theorem cQ.ak{W:Nat->Prop}(h:cQ w r enc M)(hc:ad W w w')(a:¬W r):cQ w' r enc M:=by
 have b:=h.lt;obtain⟨L,c,h,d⟩:=h;exact⟨L,c,by rw[hc.block r b a];exact h,d⟩
theorem cQ.ext(h:cQ w r enc M)(hc:Ext w w'):cQ w' r enc M:=h.ak hc id
theorem cQ.perm(h:cQ w r enc M)(a:M.Perm tw):cQ w r enc tw:=by
 obtain⟨L,b,h,h1,c⟩:=h;exact⟨L,b,h,h1.trans a,c⟩
theorem qS.lt(h:qS w r enc M k v st):r<w.heap.size:=by
 obtain⟨cz,da,n,a,h,_⟩:=h;exact(ly.1 h).1
theorem cQ.split(h:cQ w r enc ((k,v)::M)):∃n,qS w r enc M k v (n:Nat):=by
 obtain⟨L,b,h,h1,h2,c,d⟩:=h;have hm:(k,v)∈L.map l8:=h1.mem_iff.2 (by simp);obtain⟨x,hx,a⟩:=dj.1 hm;obtain⟨cz,da,rfl⟩:=List.append_of_mem hx;obtain⟨e,f,n⟩:=x;simp only[l8,Prod.mk.injEq]at a;obtain⟨rfl,rfl⟩:=a;refine⟨n,cz,da,n,b,h,?_,h2,c,d,rfl⟩;rw[e5,gD]at h1;have:=(qt.symm.trans h1);rw[e5];exact this.cons_inv
theorem cQ.keys(h:cQ w r enc M):(M.map (·.1)).Nodup:=by
 obtain⟨L,a,h,h1,h2,b,c⟩:=h;have:=h1.map (·.1);rw[gF]at this;exact this.nodup_iff.1 h2
theorem cQ.HA(hm:(k,v)∈M):∃tw,M.Perm ((k,v)::tw):=by
 obtain⟨A,B,rfl⟩:=List.append_of_mem hm;exact⟨A++B,qt⟩
def ic(w:I)(r:Nat)(o:Obj):I:={w with heap:=w.heap.setIfInBounds r o}
theorem ph(w:I)(r:Nat)(o:Obj):ad (λq=>q=r) w (ic w r o):=
 ⟨rfl,rfl,rfl,by simp[ic],λk _ a=>by
  have:¬r=k:=λe=>a e.symm
  simp[ic,this]⟩
theorem qT(w:I)(r:Nat)(o:Obj):(ic w r o).heap.size=w.heap.size:=by simp[ic]
theorem qU{w:I}{r:Nat}(h:r<w.heap.size)(o:Obj):(ic w r o).heap[r]? =some o:=by simp[ic,h]
theorem ld{es:Array MapEntry}{a:Nat}(h:w.heap[r]? =some (.map es a)):(getObj r).run P w=.ok (.map es a) w:=by simp[getObj,Sem.run,h]
theorem tx{es:Array MapEntry}{a:Nat}(h:w.heap[r]? =some (.map es a))(o:Obj):(setObj r o).run P w=.ok () (ic w r o):=by simp[setObj,Sem.run,h,ic]
theorem CP{cz da:Y (α×O×Nat)}{x:α×O×Nat}(h:((cz++x::da).map (·.1)).Nodup):∀y∈cz,y.1≠x.1:=by
 intro y a e;rw[e5,gD,mH]at h;exact h.2.2 _ (List.mem_map_of_mem a) _ (List.mem_cons_self ..) e
theorem HB{cz da:Y (α×O×Nat)}{x:α×O×Nat}(h:((cz++x::da).map (·.2.2)).Nodup):∀y∈cz,y.2.2≠x.2.2:=by
 intro y a e;rw[e5,gD,mH]at h;exact h.2.2 _ (List.mem_map_of_mem a) _ (List.mem_cons_self ..) e
theorem zQ{L:Y (α×O×Nat)}(h1:(L.map l8).Perm M)(a:∀v,(k,v)∉M):∀x∈L,x.1≠k:=by
 intro x hx e;refine a x.2.1 (h1.mem_iff.1 (dj.2 ⟨x,hx,?_⟩));simp[l8,e]
theorem cQ.make(T:TypeId)(w:I):(Instr.makeMap T none).run P w=.ok (.map (some w.heap.size)) (w.alloc (.map #[] 0))/\cQ (w.alloc (.map #[] 0)) w.heap.size enc ([]:Y (α×O)):=by
 refine⟨by simp[Instr.makeMap],[],0,?_,by simp,by simp,by simp,by simp⟩;show(w.heap.push (.map #[] 0))[w.heap.size]? =_;simp
theorem cQ.qV[DecidableEq α](a:iP P gi enc)(b:P.underlying T=some (.map gi eV))(h:cQ w r enc M)(hm:(k,v)∈M)(ok:ai):
 (Instr.lookup T (.map (some r)) (enc k) ok).run P w=.ok (if ok then .tuple #[v,.bool true] else v) w:=by
 obtain⟨tw,c⟩:=cQ.HA hm;obtain⟨n,cz,da,d,e,h,h1,h2,f,g,_⟩:=(h.perm c).split;have hf:=a.find (cz++(k,v,d)::da) k w;rw[zP (CP h2)]at hf;simp only[Instr.lookup,Sem.run_bind,cY b,Result.andThen,ld h,Sem.run_pure,a.check,hf]
theorem cQ.nR[DecidableEq α](a:iP P gi enc)(b:P.underlying T=some (.map gi eV)){i:TypeInfo}{z:O}(hi:P.info? eV=some i)(c:i.zero=some z)(h:cQ w r enc M)(hm:∀v,(k,v)∉M)(ok:ai):
 (Instr.lookup T (.map (some r)) (enc k) ok).run P w=.ok (if ok then .tuple #[z,.bool false] else z) w:=by
 obtain⟨L,d,h,h1,h2,e,f⟩:=h;have hf:=a.find L k w;rw[vF (zQ h1 hm)]at hf;simp only[Instr.lookup,Sem.run_bind,cY b,Result.andThen,ld h,Sem.run_pure,a.check,hf,zeroValue,nI hi,c]
theorem cQ.vG[DecidableEq α](e:iP P gi enc)(j:P.underlying T=some (.map gi eV)){i:TypeInfo}{z:O}(hi:P.info? eV=some i)(l:i.zero=some z)(h:cQ w r enc M)(hm:∀v,(k,v)∉M):
 ∃ (st:Int) (w1:I),(Instr.mapEntry T (.map (some r)) (enc k)).run P w=.ok (.tuple #[z,.int .i64 st]) w1/\ad (λq=>q=r) w w1/\w1.heap.size=w.heap.size/\qS w1 r enc M k z st:=by
 have aI:=h.lt;obtain⟨L,c,h,h1,h2,m,f⟩:=h;have g:=zQ h1 hm;have hf:=e.find L k w;rw[vF g]at hf;refine⟨(c:Int),ic w r (.map ((L.map (cP enc)).toArray.push ⟨enc k,z,c⟩) (c+1)),?_,ph _ _ _,qT _ _ _,L,[],c,c+1,?_,?_,?_,?_,?_,rfl⟩
 .simp only[Instr.mapEntry,Sem.run_bind,cY j,Result.andThen,ld h,Sem.run_pure,e.check,hf,zeroValue,nI hi,l,tx h]
  rfl
 .rw[qU aI]
  simp[cP]
 .simpa using h1
 .rw[e5,mH]
  refine⟨h2,by simp,λa d b hb=>?_⟩;obtain⟨x,hx,rfl⟩:=dj.1 d;simp only[gD,List.map_nil,dH]at hb;subst hb;exact g x hx
 .rw[e5,mH]
  refine⟨m,by simp,λa d b hb=>?_⟩;obtain⟨x,hx,rfl⟩:=dj.1 d;simp only[gD,List.map_nil,dH]at hb;subst hb;have:=f x hx;omega
 .intro x hx
  rcases ed.1 hx with hx|hx
  .have:=f x hx;omega
  .rw[dH.1 hx];show c<c+1;omega
theorem qS.store(h:qS w r enc M k v st)(T:TypeId)(a:O):
 ∃w1:I,(Instr.entryStore T (.map (some r)) (.int .i64 st) a).run P w=.ok () w1/\ad (λq=>q=r) w w1/\w1.heap.size=w.heap.size/\cQ w1 r enc ((k,a)::M):=by
 have aI:=h.lt;obtain⟨cz,da,n,c,h,h1,h2,d,b,rfl⟩:=h;have hx:((cz++(k,v,n)::da).map (cP enc)).toArray.findIdx? (λe=>(e.born:Int)==(n:Int))=some cz.length:=by
  rw[List.findIdx?_toArray,List.findIdx?_eq_some_iff_getElem];refine⟨by simp,by simp[cP],λj f=>?_⟩;have g:j<cz.length:=f;have e:((cz++(k,v,n)::da).map (cP enc))[j]'(by simp;omega)=cP enc cz[j]:=by simp[List.getElem_append,g]
  rw[e];have l:(cz[j]).2.2≠n:=HB d cz[j] (cO _);simp only[cP];intro hb;have:=eq_of_beq hb;omega
 have i:((cz++(k,v,n)::da).map (cP enc)).toArray.modify cz.length (λe=>{e with val:=a})=((cz++(k,a,n)::da).map (cP enc)).toArray:=by
  apply sR.1;rw[Array.toList_modify,e5,gD];have:=zO (λe=>{e with val:=a}) (cP enc (k,v,n)) (da.map (cP enc)) (cz.map (cP enc));rw[dn]at this;rw[this];simp[cP]
 refine⟨ic w r (.map ((cz++(k,a,n)::da).map (cP enc)).toArray c),?_,ph _ _ _,qT _ _ _,cz++(k,a,n)::da,c,qU aI _,?_,?_,?_,?_⟩
 .simp only[Instr.entryStore,asInt,asIntOf,Sem.run_bind,Result.andThen,ld h,Sem.run_pure,hx,tx h,i]
 .rw[e5,gD]
  rw[e5]at h1;exact qt.trans (h1.cons _)
 .simpa using h2
 .simpa using d
 .intro x hx
  rcases ed.1 hx with hx|hx
  .exact b x (by simp[hx])
  .rcases cW.1 hx with rfl|hx
   .exact b (k,v,n) (by simp)
   .exact b x (by simp[hx])
theorem cQ.len{a:TypeId}(b:P.underlying T=some (.map a eV)){o:TypeId}(h:cQ w r enc M):(Builtin.len_ #[T] o #[.map (some r)]).run P w=.ok (.int .i64 ((M.length:Nat):Int)) w:=by
 obtain⟨L,d,h,h1,h2,e,f⟩:=h;have c:L.length=M.length:=by rw[←h1.length_eq,dn]
 simp only[Builtin.len_,sP,nA,Sem.run_bind,cY b,Result.andThen,ld h,Sem.run_pure];simp[goInt,c]
end
end aO
namespace aO
open Go Go.RowKit
theorem CQ(c:Array O):∀ (vs:Y O) (i:Nat) (c:Array O),(f_ c i vs).toList.drop (i+vs.length)=c.toList.drop (i+vs.length)
 | [],_,_=>rfl
 |v::vs,i,c=>by
  simp only[f_,iz]
  rw[show i+(vs.length+1)=i+1+vs.length from J,CQ c vs (i+1) (c.setIfInBounds i v)]
  rw[Array.toList_setIfInBounds,List.drop_set]
  rw[if_pos J]
theorem jC(vs:Y O)(c:Array O)(i:Nat)(h:i+vs.length<=c.size):(f_ c i vs).toList=c.toList.take i++vs++c.toList.drop (i+vs.length):=by
 rw[←kY (i+vs.length) (f_ c i vs).toList,tn vs c i h,CQ c]
section
variable {P:Program}{w:I}
theorem mP{kt dy ty e:TypeId}{d:TypeDesc}{sz:Nat}(hd:P.underlying kt=some (.slice e))(he:P.underlying e=some d)(g:P.cellsOf e=sz){A:ar}{dl jD n:Nat}{x:ag}(h:Nat.min x.len dl=n){xs:Y O}(hx:Src sz w ⟨x.a,n,x.cap⟩ xs)(b:bN w A xs):
 Sem.run P (Builtin.copy_ #[kt,dy] ty #[.slice (some A) dl jD,.slice x.a x.len x.cap]) w=.ok (.int .i64 ((n:Nat):Int)) (setCells w A 0 xs):=by
 have f:=hM (w:=w) he;rw[g]at f;have hf:Sem.run P (Builtin.firstCells sz n (.slice x.a x.len x.cap)) w=.ok xs.toArray w:=by
  obtain⟨a,l,c⟩:=x
  cases a<;>exact qQ (P:=P) hx
 have i:=s3 (P:=P) (A:=A) xs 0 w (by simpa using b.1) b.2;simp only[Builtin.copy_,sP,nA,za,Sem.run_bind,cY hd,Result.andThen,Builtin.lenOf,Sem.run_pure,h,f,hf,i];rfl
set_option maxRecDepth 4000 in
theorem CR {gG:Array TypeId}{c4 dy kq e:TypeId}{i:TypeInfo}{k:IntKind}{z:O}{sz n:Nat}{s:ag}{c:Y O} (h0:gG[0]? =some dy) (h1:gG[1]? =some kq)
 (hs:P.underlying dy=some (.slice e)) (hx:P.underlying kq=some (.int k)) (hi:P.info? e=some i) (hd:(P.underlying e).isSome=true) (h:i.zero=some z) (j:z.cells.size=sz) (p:P.cellsOf e=sz)
 (hb:i.bytes≠0) (hold:Src sz w s c) (r:s.cap<s.len+n) (l:(2*(s.len+n)+1000)*i.bytes<=281474976710656):
 ∃ (b:Nat) (zs rest:Y O),s.len+n<=b/\b<=maxLen/\zs.length=n*sz/\rest.length=(b-(s.len+n))*sz/\
  Sem.run P (Builtin.append_ gG c4 #[.slice s.a s.len s.cap,.int .i64 ((n:Nat):Int)]) w=
   .ok (.slice (some ⟨w.heap.size,0,none⟩) (s.len+n) b) (w.drew.alloc (.cells (c++zs++rest).toArray e)):=by
 obtain⟨d,hd⟩:=kp _ hd;have m:=hM (w:=w) hd;rw[p]at m;have t:=CA r;have N:Builtin.nextslicecap (s.len+n) s.cap*i.bytes<=281474976710656:=dG (qs _ t) l;have Q:s.len+n<=281474976710656:=by
  have:s.len+n<=(2*(s.len+n)+1000)*i.bytes:=by
   have:=Nat.mul_le_mul_left (2*(s.len+n)+1000) (Nat.one_le_iff_ne_zero.2 hb);omega
  omega
 have u:n*i.bytes<=281474976710656:=dG (qs _ (by omega:n<=2*(s.len+n)+1000)) l
 let q:Question:=.appendCap (s.len+n) s.cap e
 let b:Nat:=q.cut (w.tape w.drawn q)
 have v:q.forced=false:=rfl;have x:s.len+n<=b:=by show s.len+n<=s.len+n+_;omega
 have A:b<=maxLen:=by
  show s.len+n+_%(2^63-(s.len+n))<=2^63-1;have:=gq (w.tape w.drawn q) (y:=2^63-(s.len+n)) J;omega
 have B:Src sz w.drew s c:=hold.ext (ad.drew (.refl _ _));have C:=qQ (P:=P) B;have D:∀n (w':I),(askRoom n).run P w'=.ok () w':=λn w'=>by unfold askRoom;split<;>rfl
 have E:(choose q).run P w=.ok b w.drew:=by
  show Sem.run P (.choose q .pure) w=_;simp only[Sem.run,v,fW,if_false];rfl
 have f:=λw:I=>nI (w:=w) hi;refine⟨b,if n*sz=0 then [] else (Builtin.zeroCells z.cells n).toList,(Builtin.zeroCells z.cells (b-(s.len+n))).toList,x,A,?_,by simp[Builtin.zeroCells,j],?_⟩
 .split
  .rename_i h0;simp[h0]
  .simp[Builtin.zeroCells,j]
 have F:IntKind.i64.wrap ((n:Nat):Int)=(n:Int):=bW J J;have G:¬((n:Int)<0):=by omega
 have H:¬((n:Int)*(i.bytes:Int)>2^48):=by
  have:((n*i.bytes:Nat):Int)<=((281474976710656:Nat):Int):=Int.ofNat_le.2 u;rw[Int.natCast_mul]at this;have K:(2:Int)^48=((281474976710656:Nat):Int):=by decide+kernel
  rw[K];omega
 have aP:¬(s.len+n<=s.cap):=by omega
 have aU:¬((s.len+n:Nat):Int)>IntKind.i64.max:=by
  simp[IntKind.max,IntKind.signed,IntKind.bits];omega
 have L:¬Builtin.nextslicecap (s.len+n) s.cap*i.bytes>2^48:=by
  have:(2:Nat)^48=281474976710656:=by decide+kernel
  omega
 have M:Sem.run P (choose (.appendCap (s.len+n) s.cap e)) w=.ok b w.drew:=E;unfold Builtin.append_;simp only[sP,nA,za,h0,h1,Sem.run_bind,cY hs,cY hx,Result.andThen,m,Sem.run_pure,asInt,asIntOf,F,G,if_false,f,H,dW,aP,aU,false_and,L,if_true,Bool.not_true,fW,M,D,C];by_cases o:n*sz=0
 .simp only[o,if_true,Sem.run_pure,zeroValue,f,h,Sem.run_bind,Result.andThen,newRow,newObj,Sem.run]
  have g:w.drew.heap.size=w.heap.size:=rfl;rw[g]
  congr 1
  show w.drew.alloc _=w.drew.alloc _
  congr 2
  simp
 .simp only[o,if_false,Sem.run_pure,zeroValue,f,h,Sem.run_bind,Result.andThen,newRow,newObj,Sem.run]
  have g:w.drew.heap.size=w.heap.size:=rfl;rw[g]
  congr 1
  show w.drew.alloc _=w.drew.alloc _
  congr 2
  simp
end
theorem zR(a:al ar)(z c:Nat):bw a z 0 c=a:=by
 unfold bw;split
 .rfl
 .cases a with
  |none=>rfl
  |some A=>simp[add_zero']
theorem aZ.pj{sz:Nat}{w:I}{b:Nat}{c:Array O}{T:TypeId}(h:aZ w b c T){o n cap:Nat}(d:o+n*sz<=c.size):Src sz w ⟨some ⟨b,o,none⟩,n,cap⟩ ((c.toList.drop o).take (n*sz)):=by
 refine⟨by simp;omega,(λh=>by cases h),λa e=>?_⟩
 cases e;have:=qP h (n*sz) o 0 (by simpa using d);simpa using this
theorem aZ.je{w:I}{b o:Nat}{c:Array O}{T:TypeId}(h:aZ w b c T)(vs:Y O):aZ (setCells w ⟨b,o,none⟩ 0 vs) b (f_ c o vs) T:=by
 simpa using aZ.pd vs o 0 h
theorem aS.mk'{sz:Nat}{T:TypeId}{w:I}{b n cap:Nat}{c:Array O}{vs:Y O}(hb:aZ w b c T)(a:vs.length=n*sz)(d:n<=cap)(hc:cap<=maxLen)(hs:c.size=cap*sz)(e:c.toList.take (n*sz)=vs):aS sz T w ⟨some ⟨b,0,Option.none⟩,n,cap⟩ vs:=
 ⟨a,d,hc,.inr ⟨b,c,rfl,hb,hs,e⟩⟩
theorem HC(A:ar)(a b:Nat):(A.add a).add b=A.add (a+b):=by
 unfold Addr.add;by_cases c:a=0
 .subst c;simp
 .by_cases hb:b=0
  .subst hb;simp
  .simp[c,hb,Nat.add_assoc]
theorem CS{w:I}{A:ar}:∀ {n i:Nat}{vs:Y O}{j:Nat}{v:O},aT w A i n=some vs->vs[j]? =some v->w.cell? (A.add (i+j))=some v
 |0,_,vs,j,v,h,a=>by simp[aT]at h;subst h;simp at a
 |n+1,i,vs,j,v,h,a=>by
  simp only[aT]at h
  cases h1:w.cell? (A.add i) with
  |none=>simp[h1]at h
  |some u=>
   cases h2:aT w A (i+1) n with
   |none=>simp[h1,h2]at h
   |some us=>
    simp only[h1,h2,Option.some.injEq]at h
    subst h
    cases j with
    |zero=>simp at a;subst a;exact h1
    |succ j=>
     have:=CS h2 (j:=j) (v:=v) (by simpa using a)
     rwa[show i+(j+1)=i+1+j from J]
theorem CT{w:I}{A:ar}:∀ (n i:Nat) (vs:Y O),vs.length=n->(∀j v,vs[j]? =some v->w.cell? (A.add (i+j))=some v)->aT w A i n=some vs
 |0,i,vs,a,_=>by
  cases vs with
  |nil=>simp[aT]
  |cons _ _=>simp at a
 |n+1,i,vs,a,h=>by
  cases vs with
  |nil=>simp at a
  |cons v vs=>
   simp only[aT]
   rw[show w.cell? (A.add i)=some v from h 0 v rfl,CT n (i+1) vs (by simpa using a) (λj x hx=>by have:=h (j+1) x (by simpa using hx);rwa[show i+(j+1)=i+1+j from J]at this)]
theorem CU{w:I}{A:ar}{n k m:Nat}{vs:Y O}(h:aT w A 0 n=some vs)(b:k+m<=n):aT w (A.add k) 0 m=some ((vs.drop k).take m):=by
 have c:=Cy h;refine CT m 0 _ (by simp;omega) λj v a=>?_;rw[HC,show k+(0+j)=0+(k+j) from J];refine CS h ?_;rw[List.getElem?_take]at a;split at a
 .rwa[u3]at a
 .cases a
theorem CV{a b:Nat}(h:a+b<=4000000):IntKind.wrap .i64 (Int.fdiv (IntKind.wrap .u64 (IntKind.wrap .i64 ((a:Int)+(b:Int)))) (2^(min (Int.toNat 1) 64)))=(((a+b)/2:Nat):Int):=by
 rw[bW (n:=(a:Int)+b) J J,eG J J];have e:(2:Int)^(min (Int.toNat 1) 64)=2:=rfl;rw[e,u5 _ J,bW J J];omega
section
variable {w:I}
theorem cQ.hO{α:Type}{enc:α->O}{M:Y (α×O)}{q:Nat}{c:Array O}{T:TypeId}(h:cQ w q enc M)(a:aZ w q c T):False:=by
 obtain⟨L,b,h,_⟩:=h;unfold aZ at a;rw[a]at h;cases h
theorem aS.hO{sz:Nat}{T ay:TypeId}{s:ag}{vs:Y O}{q:Nat}{c:Array O}(h:aS sz T w s vs)(a:aD s q)(d:aZ w q c ay):T=ay:=by
 obtain⟨A,au,rfl⟩:=a;obtain⟨_,_,_,e⟩:=h;rcases e with ⟨f,_⟩|⟨b,c',hb,g,_⟩
 .rw[f]at au;cases au
 .rw[hb]at au;cases au
  exact(aZ.inj g d).2
theorem aS.zS{α:Type}{enc:α->O}{M:Y (α×O)}{sz:Nat}{T:TypeId}{s:ag}{vs:Y O}{q:Nat}(h:aS sz T w s vs)(a:aD s q)(c:cQ w q enc M):False:=by
 obtain⟨A,au,rfl⟩:=a;obtain⟨_,_,_,d⟩:=h;rcases d with ⟨e,_⟩|⟨b,c',hb,f,_⟩
 .rw[e]at au;cases au
 .rw[hb]at au;cases au
  exact cQ.hO c f
end
theorem zT{P:Program}{w:I}{T:TypeId}{fuel:Nat}{cs:Y O}{fs:Array Field}(h:gu P w fuel T cs)(a:P.underlying T=some (.struct fs))(i:Nat){t o n:Nat}(hf:(fs[i]?).map (λf=>(f.type,f.offset))=some (t,o))(b:P.cellsOf t=n):∃fuel,gu P w fuel t ((cs.drop o).take n):=by
 obtain⟨_,c⟩:=CF h a
 cases hg:fs[i]? with
 |none=>rw[hg]at hf;cases hf
 |some f=>
  rw[hg]at hf;simp only[l2,Option.some.injEq,Prod.mk.injEq]at hf;obtain⟨rfl,rfl⟩:=hf;have:=c f (Array.mem_of_getElem? hg);rwa[b]at this
def fieldsOf(P:Program)(T:TypeId):Array Field:=match P.underlying T with
 |some (.struct fs)=>fs
 |_=> #[]
end aO
