/- What a Go program of the model must show, as text that can be read; sound against the kit. -/
import Derived.Carry
import Derived.ChangeArms
import Derived.ChangeVars
import Derived.Defers
import Derived.LaidLaws
import Derived.Laws.StructEq
import Derived.Lib.Overlaps
import Derived.MakeChecks
import Derived.WideKeyRuns
import Derived.Test.YtkdhdlfonmgheaaGreatKAPlays1
namespace aS
open Go Go.RowKit
def j5(gh:TypeId->av (O c5))(P:Program):O Field->Nat->av (O c5)
 | [],_=>some []
 |f::fs,o=>if f.name= "_" \/f.offset≠o then none else
  match gh f.type with
  |some ls=>if P.cellsOf f.type=ls.length then (j5 gh P fs (o+ls.length)).map (ls++ ·) else none
  |none=>none
def nA(ls:O c5):Nat->O c5
 |0=> []
 |n+1=>ls++nA ls n
def gh(P:Program):Nat->TypeId->av (O c5)
 |0,_=>none
 |d+1,T=>match P.underlying T with
  |some (.int k)=>some [.int k]
  |some .bool=>some [.bool]
  |some .string=>some [.str]
  |some (.struct fs)=>if P.stoodInHeld T then none else j5 (gh P d) P fs.toList 0
  |some (.array n e)=>match gh P d e with
   |some ls=>if P.cellsOf e=ls.length then some (nA ls n) else none
   |none=>none
  |_=>none
def uD:c5->Y->Prop
 | .int k,v=>∃n:Int,v=.int k n
 | .bool,v=>∃b:al,v=.bool b
 | .str,v=>∃s:ByteArray,v=.string s
 |_,_=>False
def eT:O c5->O Y->Prop
 | [],vs=>vs=[]
 |l::ls,vs=>∃v us,vs=v::us/\uD l v/\eT ls us
theorem sj:∀ {ls:O c5}{vs:O Y},eT ls vs->vs.length=ls.length
 | [],_,h=>by cases h;rfl
 |_::_,_,h=>by
  obtain⟨v,us,rfl,_,h⟩:=h
  simp[sj h]
theorem sk:∀ {ls ms:O c5}{vs:O Y},eT (ls++ms) vs->eT ls (vs.take ls.length)/\eT ms (vs.drop ls.length)
 | [],_,_,h=>⟨rfl,h⟩
 |l::ls,ms,vs,h=>by
  obtain⟨v,us,rfl,h1,h2⟩:=h
  obtain⟨a,b⟩:=sk h2
  exact⟨⟨v,_,rfl,h1,a⟩,b⟩
theorem yc:∀ {ls ms:O c5}{vs us:O Y},eT ls vs->eT ms us->eT (ls++ms) (vs++us)
 | [],_,_,_,h,h2=>by cases h;exact h2
 |l::ls,ms,vs,us,h,h2=>by
  obtain⟨v,vs,rfl,h1,h⟩:=h
  exact⟨v,_,rfl,h1,yc h h2⟩
def nB:Y->Y->al
 | .int _ a,.int _ b=>a==b
 | .bool a,.bool b=>a==b
 | .string a,.string b=>a.toList==b.toList
 |_,_=>false
def fJ:O Y->O Y->al
 | [],_=>true
 |a::as,b::c=>nB a b&&fJ as c
 |_::_,[]=>false
theorem FA{l:c5}{a b:Y}(c:uD l a)(d:uD l b):nB a b=true↔a=b:=by
 cases l<;>simp only[uD]at c d<;>try exact c.elim
 .obtain⟨n,rfl⟩:=c;obtain⟨m,rfl⟩:=d;simp[nB]
 .obtain⟨n,rfl⟩:=c;obtain⟨m,rfl⟩:=d;simp[nB]
 .obtain⟨n,rfl⟩:=c;obtain⟨m,rfl⟩:=d
  simp only[nB,jY,Value.string.injEq];rw[ByteArray.toList_eq,ByteArray.toList_eq];obtain⟨⟨x⟩⟩:=n;obtain⟨⟨y⟩⟩:=m;simp
theorem uE:∀ {ls:O c5}{as c:O Y},eT ls as->eT ls c->(fJ as c=true↔as=c)
 | [],_,_,h1,h2=>by cases h1;cases h2;simp[fJ]
 |l::ls,_,_,h1,h2=>by
  obtain⟨a,as,rfl,d,e⟩:=h1
  obtain⟨b,c,rfl,f,g⟩:=h2
  simp[fJ,FA d f,uE e g]
theorem yd:∀ {as c cs ds:O Y},as.length=c.length->fJ (as++cs) (c++ds)=(fJ as c&&fJ cs ds)
 | [],[],_,_,_=>by simp[fJ]
 |a::as,b::c,cs,ds,h=>by
  simp only[mn,fJ]
  rw[yd (by simpa using h),Bool.and_assoc]
 | [],_::_,_,_,h=>by simp at h
 |_::_,[],_,_,h=>by simp at h
def lz(P:Program)(T:TypeId)(cs:O Y):Y:=
 match P.underlying T with
 |some d=>if h5 d then .agg cs.toArray else cs.headD undef
 |none=>undef
section
variable {P:Program}
theorem oQ{T:TypeId}{d:TypeDesc}{cs:O Y}(h:P.underlying T=some d)(a:h5 d=true):lz P T cs=.agg cs.toArray:=by
 simp[lz,h,a]
theorem oR{T:TypeId}{d:TypeDesc}{v:Y}(h:P.underlying T=some d)(a:h5 d=false):lz P T [v]=v:=by
 simp[lz,h,a]
theorem uF{T:TypeId}{cs us:O Y}{off:Nat}{d:TypeDesc}(a:P.underlying T=some d)(b:P.cellsOf T=us.length)(c:h5 d=false->us.length=1)
 (h:(cs.drop off).take us.length=us) (w:J):(part T cs.toArray off).run P w=.ok (lz P T us) w:=by
 cases hd:h5 d with
 |true=>
  rw[oQ a hd];have e:cs.toArray.extract off (off+us.length)=us.toArray:=by
   simp[h]
  simp[part,p7 a,hd,h6 a,b,h]
 |false=>
  obtain⟨v,rfl⟩:=List.length_eq_one_iff.1 (c hd);rw[oR a hd];have f:cs[off]? =some v:=by
   have:((cs.drop off).take 1)[0]? =some v:=by
    have g:List.take 1 (List.drop off cs)=[v]:=h;rw[g];rfl
   rw[List.getElem?_take_of_lt I,tJ]at this;simpa using this
  simp[part,p7 a,hd,f]
theorem flat_agg{d:Nat}{T:TypeId}{ls:O c5}(h:gh P d T=some ls):∃u,P.underlying T=some u/\(h5 u=false->ls.length=1):=by
 cases d with
 |zero=>cases h
 |succ d=>
  simp only[gh]at h
  cases hu:P.underlying T with
  |none=>simp[hu]at h
  |some u=>
   refine⟨u,rfl,λa=>?_⟩;rw[hu]at h
   cases u<;>simp only[h5,reduceCtorEq]at a h<;>first|(cases h;rfl)|cases h
theorem Bu{d D:Nat}(i:∀ {T:TypeId}{ls:O c5}{xs ys:O Y},gh P d T=some ls->eT ls xs->eT ls ys->∀w,(Op.equalIn (D+d) T (lz P T xs) (lz P T ys)).run P w=.ok (fJ xs ys) w)
 {xs ys:O Y}:∀ {fs:O Field}{o:Nat}{ls:O c5},j5 (gh P d) P fs o=some ls->eT ls (xs.drop o)->eT ls (ys.drop o)->
  ∀w,(Op.eqFields (D+d) xs.toArray ys.toArray fs).run P w=.ok (fJ (xs.drop o) (ys.drop o)) w
 | [],o,ls,h,hx,j,w=>by
  simp only[j5,Option.some.injEq]at h
  subst h
  have hx:xs.drop o=[]:=hx
  rw[hx]
  rfl
 |f::fs,o,ls,h,hx,j,w=>by
  simp only[j5]at h
  split at h
  .cases h
  .rename_i hf
   have s:¬f.name= "_" :=λe=>hf (.inl e)
   have t:f.offset=o:=by
    by_cases e:f.offset=o
    .exact e
    .exact absurd (.inr e) hf
   subst t;split at h
   .rename_i ms k
    split at h
    .rename_i hc
     cases c:j5 (gh P d) P fs (f.offset+ms.length) with
     |none=>simp[c]at h
     |some x=>
      simp only[c,lT,Option.some.injEq]at h;subst h;obtain⟨l,m⟩:=sk hx;obtain⟨n,p⟩:=sk j;rw[kN]at m p;obtain⟨u,hu,q⟩:=flat_agg k;have a:=sj l;have b:=sj n;have bh:=uF (cs:=xs) (off:=f.offset) (us:=(xs.drop f.offset).take ms.length) hu (by rw[hc,a]) (λg=>by rw[a];exact q g) (by rw[a]);have bj:=uF (cs:=ys) (off:=f.offset) (us:=(ys.drop f.offset).take ms.length) hu (by rw[hc,b]) (λg=>by rw[b];exact q g) (by rw[b]);have e:=λw=>i k l n w;have r:=Bu i (fs:=fs) c m p;have v:fJ (xs.drop f.offset) (ys.drop f.offset)=(fJ ((xs.drop f.offset).take ms.length) ((ys.drop f.offset).take ms.length)&&fJ (xs.drop (f.offset+ms.length)) (ys.drop (f.offset+ms.length))):=by
       rw[←yd (by rw[a,b])];simp only[←kN,fV]
      simp only[Op.eqFields,ne_eq,s,not_false_eq_true,if_true,Sem.run_bind,bh,bj,e,Result.andThen];rw[v]
      cases fJ ((xs.drop f.offset).take ms.length) ((ys.drop f.offset).take ms.length)
      .simp
      .simpa using r w
    .cases h
   .cases h
theorem Bv(ls:O c5):∀n,(nA ls n).length=n*ls.length
 |0=>by simp[nA]
 |n+1=>by simp[nA,Bv ls n,jz,Nat.add_comm]
theorem Bw{d D:Nat}(j:∀ {T:TypeId}{ls:O c5}{xs ys:O Y},gh P d T=some ls->eT ls xs->eT ls ys->∀w,(Op.equalIn (D+d) T (lz P T xs) (lz P T ys)).run P w=.ok (fJ xs ys) w)
 {e:TypeId}{ls:O c5}{u:TypeDesc} (hu:P.underlying e=some u) (g:h5 u=false->ls.length=1) (k:gh P d e=some ls) (hc:P.cellsOf e=ls.length) {xs ys:O Y}:
 ∀ (n i:Nat),eT (nA ls n) (xs.drop (i*ls.length))->eT (nA ls n) (ys.drop (i*ls.length))->∀w,
  Sem.run P (do
   let r ←forIn (List.range' i n) ((none:av al),()) λi _=>do
    let a ←part e xs.toArray (i*ls.length)
    let b ←part e ys.toArray (i*ls.length)
    let t ←Op.equalIn (D+d) e a b
    if (!t)=true then pure (ForInStep.done (some false,())) else pure (ForInStep.yield (none,()))
   match r.1 with
   |some b=>pure b
   |none=>pure true) w=.ok (fJ (xs.drop (i*ls.length)) (ys.drop (i*ls.length))) w
 |0,i,hx,l,w=>by
  have hx:xs.drop (i*ls.length)=[]:=hx
  rw[hx]
  simp[fJ]
 |n+1,i,hx,l,w=>by
  obtain⟨m,o⟩:=sk hx
  obtain⟨p,q⟩:=sk l
  rw[kN,show i*ls.length+ls.length=(i+1)*ls.length by rw[jz,Nat.one_mul]]at o q
  have c:=sj m
  have f:=sj p
  have bh:=uF (cs:=xs) (off:=i*ls.length) (us:=(xs.drop (i*ls.length)).take ls.length) hu (by rw[hc,c]) (λh=>by rw[c];exact g h) (by rw[c])
  have bj:=uF (cs:=ys) (off:=i*ls.length) (us:=(ys.drop (i*ls.length)).take ls.length) hu (by rw[hc,f]) (λh=>by rw[f];exact g h) (by rw[f])
  have s:=λw=>j k m p w
  have r:=Bw j hu g k hc n (i+1) o q w
  have v:fJ (xs.drop (i*ls.length)) (ys.drop (i*ls.length))=(fJ ((xs.drop (i*ls.length)).take ls.length) ((ys.drop (i*ls.length)).take ls.length)&&fJ (xs.drop ((i+1)*ls.length)) (ys.drop ((i+1)*ls.length))):=by
   rw[←yd (by rw[c,f]),show(i+1)*ls.length=i*ls.length+ls.length by rw[jz,Nat.one_mul]];simp only[←kN,fV]
  rw[v];simp only[List.range'_succ,List.forIn_cons,Sem.run_bind,bh,bj,s,Result.andThen]
  cases fJ ((xs.drop (i*ls.length)).take ls.length) ((ys.drop (i*ls.length)).take ls.length)
  .simp
  .simpa[Result.andThen] using r
theorem Bx(D:Nat):∀ (d:Nat) {T:TypeId}{ls:O c5}{xs ys:O Y},gh P d T=some ls->eT ls xs->eT ls ys->∀w,(Op.equalIn (D+d) T (lz P T xs) (lz P T ys)).run P w=.ok (fJ xs ys) w
 |0,_,_,_,_,h,_,_,_=>by cases h
 |d+1,T,ls,xs,ys,h,hx,b,w=>by
  have c:= @Bx D d
  simp only[gh]at h
  cases hu:P.underlying T with
  |none=>simp[hu]at h
  |some u=>
   rw[hu]at h
   cases u with
   |int k=>
    simp only[Option.some.injEq]at h;subst h
    obtain⟨x,_,rfl,⟨n,rfl⟩,rfl⟩:=hx
    obtain⟨y,_,rfl,⟨m,rfl⟩,rfl⟩:=b
    rw[oR hu rfl,oR hu rfl]
    show(Op.equalIn (D+d+1) T _ _).run P w=_
    simp[Op.equalIn,dj hu,fJ,nB]
   |bool=>
    simp only[Option.some.injEq]at h;subst h
    obtain⟨x,_,rfl,⟨n,rfl⟩,rfl⟩:=hx
    obtain⟨y,_,rfl,⟨m,rfl⟩,rfl⟩:=b
    rw[oR hu rfl,oR hu rfl]
    show(Op.equalIn (D+d+1) T _ _).run P w=_
    simp[Op.equalIn,dj hu,fJ,nB]
   |string=>
    simp only[Option.some.injEq]at h;subst h
    obtain⟨x,_,rfl,⟨n,rfl⟩,rfl⟩:=hx
    obtain⟨y,_,rfl,⟨m,rfl⟩,rfl⟩:=b
    rw[oR hu rfl,oR hu rfl]
    show(Op.equalIn (D+d+1) T _ _).run P w=_
    simp[Op.equalIn,dj hu,fJ,nB,beq_toListBytes]
   |struct fs=>
    simp only at h
    split at h
    .cases h
    .rename_i j
     rw[oQ hu rfl,oQ hu rfl]
     have f:P.fieldsOf T=fs:=by simp[Program.fieldsOf,hu]
     show(Op.equalIn (D+d+1) T _ _).run P w=_
     rw[run_equalIn_struct w (D+d) T xs.toArray ys.toArray (by rw[f];exact hu) (by simpa using j),f]
     have:=Bu (D:=D) c (xs:=xs) (ys:=ys) h (by simpa using hx) (by simpa using b) w
     simpa using this
   |array n e=>
    simp only at h
    split at h
    .rename_i ms g
     split at h
     .rename_i hc
      simp only[Option.some.injEq]at h;subst h
      obtain⟨u,i,l⟩:=flat_agg g
      rw[oQ hu rfl,oQ hu rfl]
      show(Op.equalIn (D+d+1) T _ _).run P w=_
      have:=Bw (D:=D) c i l g hc (xs:=xs) (ys:=ys) n 0 (by simpa using hx) (by simpa using b) w
      rw[pZ,iN,iN]at this
      rw[←this]
      simp only[Op.equalIn,Sem.run_bind,dj hu,h6 i,Result.andThen,hc,Std.Legacy.Range.forIn_eq_forIn_range',Std.Legacy.Range.size]
      simp
      congr 1
      funext a w
      obtain⟨o,_⟩:=a
      cases o<;>rfl
     .cases h
    .cases h
   |_=>cases h
theorem iC.flat{T:TypeId}{d:TypeDesc}{ls:O c5}{xs ys:O Y}(a:P.underlying T=some d)(b:h5 d=true)(hf:gh P 8 T=some ls)(hg:P.eqGuardType P.depth T=false)
 (hx:eT ls xs) (c:eT ls ys):iC P T xs.toArray ys.toArray (fJ xs ys):=by
 refine⟨hg,λw=>?_⟩;have:=Bx (P:=P) 9992 8 hf hx c w;rwa[oQ a b,oQ a b]at this
end
end aS
namespace aS
open Go Go.RowKit
theorem uG{n:Int}(h0:0<=n)(h1:n<=255):IntKind.u8.wrap n=n:=by
 simp only[IntKind.wrap,IntKind.signed,IntKind.bits];simp;omega
theorem ye{n:Int}(h0:0<=n)(h1:n<=4294967295):IntKind.u32.wrap n=n:=by
 simp only[IntKind.wrap,IntKind.signed,IntKind.bits];simp;omega
theorem gq{n:Int}(h0:0<=n)(h1:n<=18446744073709551615):IntKind.u64.wrap n=n:=by
 simp only[IntKind.wrap,IntKind.signed,IntKind.bits];simp;omega
theorem FB(n:Int):IntKind.u8.wrap n=n%256:=by
 simp only[IntKind.wrap,IntKind.signed,IntKind.bits];simp
theorem FC{a b:Int}(h:0<=a):Int.tdiv a b=a/b:=xD h
theorem FD{a b:Int}(h:0<=a):Int.tmod a b=a%b:=og h
def S(l:O UInt8):ByteArray:=⟨l.toArray⟩
theorem By(l:O UInt8):(S l).toList=l:=ByteArray.toList_mk l
theorem Bz(a b:O UInt8):(ByteArray.toList (S a)==ByteArray.toList (S b))=(a==b):=by rw[By,By]
theorem FE(ns:O Int):Br ns=S (ns.map λn=>UInt8.ofNat n.toNat):=by
 have h:∀ (ns:O Int) (r:O UInt8),ns.foldl (λr n=>r.push (UInt8.ofNat n.toNat)) (S r)=S (r++ns.map λn=>UInt8.ofNat n.toNat):=by
  intro ns
  induction ns with
  |nil=>intro r;simp
  |cons n ns a=>
   intro r;have e:(S r).push (UInt8.ofNat n.toNat)=S (r++ [UInt8.ofNat n.toNat]):=by
    apply ByteArray.ext;simp[S,ByteArray.push]
   simp only[List.foldl_cons,e,a,g2,cM,mn,hG]
 exact h ns []
theorem add_add(A:ag)(n m:Nat):(A.add n).add m=A.add (n+m):=by
 unfold Addr.add;by_cases h1:n=0
 .subst h1;simp
 .by_cases h2:m=0
  .subst h2;simp
  .rw[if_neg h1,if_neg h2,if_neg I]
   simp[Nat.add_assoc]
def put(f:Nat->Int)(i:Nat)(v:Int):Nat->Int:=λj=>if j=i then v else f j
section
variable {w w':J}{b m i:Nat}{T:TypeId}{f:Nat->Int}
theorem af.gS{w0 w:J}{b i:Nat}(h:af (λq=>q=b) w0 w)(v:Y):af (λq=>q=b) w0 (w.setCell ⟨b,i,none⟩ v):=af.set h (λ_=>rfl) v
theorem af.j6{w0 w:J}{b i:Nat}(h:af (λq=>q=b) w0 w)(vs:O Y)(j:Nat):af (λq=>q=b) w0 (aS.setCells w ⟨b,i,none⟩ j vs):=af.setCells (W:=λq=>q=b) (A:=⟨b,i,none⟩) (λ_=>rfl) vs j h
end
theorem mJ{b o:Nat}{z l m:Nat}(h:m≠l):aO (some (Addr.mk b o none)) z l m=some ⟨b,o+l*z,none⟩:=by
 simp[aO,h,az]
theorem Ext.trans{a b c:J}(h1:Ext a b)(h2:Ext b c):Ext a c:=af.trans h1 h2
theorem Ext.df{w0 w1 aj:J}{W:Nat->Prop}(h1:Ext w0 w1)(h2:af W w1 aj)(h:∀k,W k->w0.heap.size<=k):Ext w0 aj:=
 ⟨h2.os.trans h1.os,h2.tape.trans h1.tape,h2.output.trans h1.output,eC h1.size h2.size,λk a _=>by
  rw[h2.block k (fP a h1.size) (λcK=>by have:=h k cK;omega),h1.block k a id]⟩
end aS
namespace aS
open Go
def ql(P:Program)(f:FuncId)(args:Array Y)(w:J)(K:J->Prop):Prop:=
 h7 P f/\CallsD P f args .returning w λe a w'=>(∃v,e=.returned v)/\a=.returning/\K w'
def yf(P:Program)(tk:TypeId->ec)(c:Code)(K:FuncId->Array Y->Array Y->Env->J->Prop)(e:Env)(w:J):Prop:=
 match c with
 | .region _ ops false=>match ops.toList with
  | [a,b]=>match a.guard,b.guard,b.dst,b.op with
   |none,none,none,.defer call=>match call.callee,call.args.toList with
    | .value x,[]=>j1 P tk a (λv w'=>match ev (dx a.dst v e) x with|some (.func (.func f) first cap)=>K f first cap (dx a.dst v e) w'|_=>False) e w
    |_,_=>False
   |_,_,_,_=>False
  |_=>False
 |_=>False
def sm(P:Program)(tk:TypeId->ec):aP->Code->(Exit->Env->J->Prop)->(FuncId->Array Y->Array Y->Exit->Env->J->Prop)->Env->J->Prop
 | .seq .leaf B,.seq a b,_,Kd,e,w=>yf P tk a (λf first cap c w'=>D P tk B b (Kd f first cap) c w') e w
 | .seq A B,.seq a b,K,Kd,e,w=>D P tk A a (λx c w'=>match x with| .normal=>sm P tk B b K Kd c w'|x=>K x c w') e w
 |_,_,_,_,_,_=>False
def FF(P:Program)(tk:TypeId->ec)(a:O ResultVar)(R:Y->J->Prop)(f:FuncId)(first cap:Array Y)(x:Exit)(e:Env)(w:J):Prop:=
 match x with
 | .normal| .ret=>ql P f (first++cap) w λw'=>mG P tk a e w' λvs=>R (qh vs) w'
 |_=>False
def yg(P:Program)(tk:TypeId->ec)(A:aP)(fn:Func)(args:O Y)(w:J)(R:Y->J->Prop):Prop:=
 match fn.body with
 |some c=>sm P tk A c (Bj P tk fn.results.toList R) (FF P tk fn.results.toList R) (oN 0 args) w
 |none=>False
variable {P:Program}{tk:TypeId->ec}
def sn(f:FuncId)(first cap:Array Y):Deferred:={target:=.fn (.func f) cap,args:=first++ #[]}
theorem FG{c:Code}{K:FuncId->Array Y->Array Y->Env->J->Prop}{e:Env}{a:Act}{w:J}(aq:dE e a)(q:∀d∈writes c,d<a.tmps.size)(h:yf P tk c K e w):
 c.wp P (λx l w'=>x=.normal/\∃f first cap,l.defers=sn f first cap::a.defers/\l.tmps.size=a.tmps.size/\∃n,dE n l/\K f first cap n w') a w:=by
 unfold yf at h;split at h
 case h_2=>exact h.elim
 rename_i id ops;split at h
 case h_2=>exact h.elim
 rename_i b j o;split at h
 case h_2=>exact h.elim
 rename_i call r t u y;split at h
 case h_2=>exact h.elim
 rename_i x hc uB;refine wp_region_list ?_;rw[o];have w1:Region.wanted b (yielded ops a.tmps)=true:=by unfold Region.wanted;rw[r]
 simp only[wpList,w1,if_true];refine .inl ((uk aq h).wp ?_);intro v w' m;have z:Region.wanted j (yielded ops (a.put b.dst v).tmps)=true:=by unfold Region.wanted;rw[t]
 simp only[z,if_true];refine .inl ?_;split at m
 case h_2=>exact m.elim
 rename_i f first cap A;have p:dE (dx b.dst v e) (a.put b.dst v):=aq.put λk i=>q k (by simp[writes,o,b1,i]);have B:call.args= #[]:=by
  have:=congrArg List.toArray uB;simpa using this
 have C:(execOp (a.put b.dst v).eval j).run P w'=.ok (.defer (sn f first cap)) w':=by
  have D:∀g:Operand->Y,Array.map g #[]= #[]:=λg=>by simp
  simp only[execOp,y,resolve,hc,B,p.ev A,D];rfl
 show j.upon P _ _ _ ((execOp (a.put b.dst v).eval j).run P w');rw[C,Oper.upon_defer,u];refine⟨trivial,f,first,cap,?_,?_,dx b.dst v e,?_,m⟩
 .have:=(en.put (a:=a) (d:=b.dst) (v:=v) (ds:=b1 [b]) (λk i=>by simp[b1,i])).defers
  show sn f first cap::(a.put b.dst v).defers=_;rw[this]
 .exact(en.put (a:=a) (d:=b.dst) (v:=v) (ds:=b1 [b]) (λk i=>by simp[b1,i])).size
 .exact⟨λs v hs=>p.get s v hs⟩
theorem FH(p:P.follows .mixedOrders=true):∀ (A:aP) (c:Code) (K:Exit->Env->J->Prop) (Kd:FuncId->Array Y->Array Y->Exit->Env->J->Prop) (e:Env) (a:Act) (w:J),dE e a->a.defers=[]->
 (∀d∈writes c,d<a.tmps.size)->sm P tk A c K Kd e w->
 c.wp P (λx m w'=>(m.defers=[]/\∃j,dE j m/\K x j w')\/∃f first cap,m.defers=[sn f first cap]/\∃j,dE j m/\Kd f first cap x j w') a w:=by
 intro A
 induction A with
 |seq A B D r=>
  intro c K Kd e a w aq hd k h;unfold sm at h;split at h
  case h_3=>exact h.elim
  .rename_i s x y n
   cases n;have hx:∀d,d∈writes x->d∈writes (.seq x y):=λd hd=>by simp[writes,hd]
   have o:∀d,d∈writes y->d∈writes (.seq x y):=λd hd=>by simp[writes,hd]
   refine wp_seq (j3 (FG aq (λd hd=>k d (hx d hd)) h) ?_);rintro ex a1 w1 ⟨rfl,f,first,cap,h1,h2,b,g,t⟩;refine j3 (uA p B y _ b a1 w1 g (λd hd=>by rw[h2];exact k d (o d hd)) t) ?_;rintro ex a2 aj ⟨u,v,z,C⟩;exact .inr ⟨f,first,cap,by rw[u.defers,h1,hd],v,z,C⟩
  .rename_i E s x y _ n
   cases n;have hx:∀d,d∈writes x->d∈writes (.seq x y):=λd hd=>by simp[writes,hd]
   have o:∀d,d∈writes y->d∈writes (.seq x y):=λd hd=>by simp[writes,hd]
   refine wp_seq (j3 (uA p A x _ _ a _ aq (λd hd=>k d (hx d hd)) h) ?_);rintro ex a1 w1 ⟨q,b,g,h1⟩;have i:a1.defers=[]:=by rw[q.defers,hd]
   cases ex with
   |normal=>exact r y _ _ b a1 w1 g i (λd hd=>by rw[q.size];exact k d (o d hd)) h1
   |exit id=>exact .inl ⟨i,b,g,h1⟩
   |goto l=>exact .inl ⟨i,b,g,h1⟩
   |ret=>exact .inl ⟨i,b,g,h1⟩
   |panic ch=>exact .inl ⟨i,b,g,h1⟩
   |outgrown=>exact .inl ⟨i,b,g,h1⟩
 |_=>intro c K Kd e a w aq hd k h;unfold sm at h;exact h.elim
theorem BA{fn:Func}{args:O Y}(a:args.length<=fn.ntmps):dE (oN 0 args) {tmps:=args.toArray++Array.replicate (fn.ntmps-args.toArray.size) undef,defers:=[]}:=by
 constructor;intro s v hs;obtain⟨_,h2⟩:=x8 hs;simp only[nk]at h2;have aJ:s<args.length:=(jV.1 h2).1;simp[Array.getElem?_append,aJ];rw[dU aJ]at h2;exact Option.some.inj h2
theorem FI{f:FuncId}{fn:Func}{A:aP}{args:O Y}{w:J}{K:J->Prop}(m:P.follows .mixedOrders=true)(hc:h7 P f)
 (hf:P.funcs[f]? =some fn) (b:oO fn args.length=true) (h:qi P tk A fn args w λ_ w'=>K w'):ql P f args.toArray w K:=by
 refine⟨hc,?_⟩;unfold qi at h;unfold oO at b
 cases g:fn.body with
 |none=>rw[g]at h;exact h.elim
 |some c=>
  rw[g]at h b;simp only[dh]at h b;obtain⟨n,o⟩:=b;have p:=nj o;have q:(args.toArray++Array.replicate (fn.ntmps-args.toArray.size) undef).size=fn.ntmps:=by simp;omega
  refine(callsD_of_wp (R:=λe w'=>(∃v,e=.returned v)/\K w') hf g ?_).mono λe u w' ⟨h1,h2,r⟩=>⟨h2,h1,r⟩;refine j3 (uA m A c _ _ _ w (BA p) (λd hd=>?_) h) ?_
  .have h1:=pX.1 n d hd
   have h2:=nj h1;show d<(args.toArray++Array.replicate (fn.ntmps-args.toArray.size) undef).size;rw[q];omega
  .rintro x s w' ⟨t,y,k,a⟩
   have hd:s.defers=[]:=t.defers
   cases x with
   |normal=>
    obtain⟨vs,i,j⟩:=mH k a;exact⟨hd,_,oP i,⟨_,rfl⟩,j⟩
   |ret=>
    obtain⟨vs,i,j⟩:=mH k a;exact⟨hd,_,oP i,⟨_,rfl⟩,j⟩
   |exit id=>exact a.elim
   |goto l=>exact a.elim
   |panic ch=>exact a.elim
   |outgrown=>exact a.elim
theorem FJ{f:FuncId}{fn:Func}{A:aP}{args:O Y}{w:J}{R:Y->J->Prop}(p:P.follows .mixedOrders=true)
 (hf:P.funcs[f]? =some fn) (n:oO fn args.length=true) (h:yg P tk A fn args w R):
 Calls P f args.toArray w λe w'=>∃v,e=.returned v/\R v w':=by
 unfold yg at h;unfold oO at n
 cases o:fn.body with
 |none=>rw[o]at h;exact h.elim
 |some c=>
  rw[o]at h n;simp only[dh]at h n;obtain⟨q,r⟩:=n;have s:=nj r;have t:(args.toArray++Array.replicate (fn.ntmps-args.toArray.size) undef).size=fn.ntmps:=by simp;omega
  refine calls_of_wp_defers hf o ?_;refine j3 (FH p A c _ _ _ _ w (BA s) rfl (λd hd=>?_) h) ?_
  .have h1:=pX.1 q d hd
   have h2:=nj h1;show d<(args.toArray++Array.replicate (fn.ntmps-args.toArray.size) undef).size;rw[t];omega
  .have key:∀ {b:Act}{w':J}{j:Env}{g:FuncId}{first cap:Array Y},b.defers=[sn g first cap]->dE j b->(ql P g (first++cap) w' λw'=>mG P tk fn.results.toList j w' λvs=>R (qh vs) w')->
    Leaves P fn b.tmps (λe w'=>∃v,e=.returned v/\R v w') b.defers .returning w':=by
    intro b w' j g first cap hd i ⟨hc,a⟩;rw[hd];refine leaves_cons (f:=g) (args:=first++cap) (by simp) (by simp[invoke,AO hc]) (a.mono ?_);rintro _ _ aj ⟨⟨v,rfl⟩,rfl,u⟩;obtain⟨vs,k,m⟩:=mH i u;exact⟨_,oP k,_,rfl,m⟩
   rintro x b w' (⟨hd,j,i,a⟩|⟨g,first,cap,hd,j,i,a⟩)
   .cases x with
    |normal=>
     obtain⟨vs,k,m⟩:=mH i a;show Leaves _ _ _ _ b.defers _ _;rw[hd];exact⟨_,oP k,_,rfl,m⟩
    |ret=>
     obtain⟨vs,k,m⟩:=mH i a;show Leaves _ _ _ _ b.defers _ _;rw[hd];exact⟨_,oP k,_,rfl,m⟩
    |exit id=>exact a.elim
    |goto l=>exact a.elim
    |panic ch=>exact a.elim
    |outgrown=>exact a.elim
   .cases x with
    |normal=>exact key hd i a
    |ret=>exact key hd i a
    |exit id=>exact a.elim
    |goto l=>exact a.elim
    |panic ch=>exact a.elim
    |outgrown=>exact a.elim
end aS
namespace aS
open Go Go.RowKit
def FK:c5->Y->Prop
 | .int k,v=>∃n:Int,v=.int k n/\k.min<=n/\n<=k.max
 | .bool,v=>∃b:al,v=.bool b
 | .str,v=>∃s:ByteArray,v=.string s/\s.size<=maxLen
 |_,_=>False
def jm:O c5->O Y->Prop
 | [],vs=>vs=[]
 |l::ls,vs=>∃v us,vs=v::us/\FK l v/\jm ls us
theorem yh:∀ {ls ms:O c5}{vs us:O Y},jm ls vs->jm ms us->jm (ls++ms) (vs++us)
 | [],_,_,_,h,h2=>by cases h;exact h2
 |l::ls,ms,vs,us,h,h2=>by
  obtain⟨v,vs,rfl,h1,h⟩:=h
  exact⟨v,_,rfl,h1,yh h h2⟩
theorem yi:∀ {ls ms:O c5}{vs:O Y},jm (ls++ms) vs->∃us ts,vs=us++ts/\jm ls us/\jm ms ts
 | [],_,vs,h=>⟨[],vs,rfl,rfl,h⟩
 |l::ls,ms,vs,h=>by
  obtain⟨v,us,rfl,h1,h2⟩:=h
  obtain⟨a,b,rfl,c,d⟩:=yi h2
  exact⟨v::a,b,rfl,⟨v,a,rfl,h1,c⟩,d⟩
theorem BB{P:Program}{uH:TypeId->av (O c5)}{cs:O Y}{R:TypeId->O Y->Prop}(c:∀ {T:TypeId}{ls:O c5}{us:O Y},uH T=some ls->R T us->jm ls us):
 ∀ {fs:O Field}{o:Nat}{ls:O c5},j5 uH P fs o=some ls->o+ls.length=cs.length->(∀f∈fs,R f.type ((cs.drop f.offset).take (P.cellsOf f.type)))->jm ls (cs.drop o)
 | [],o,ls,h,a,_=>by
  simp only[j5,Option.some.injEq]at h
  subst h
  exact tN (by simp at a;omega)
 |f::fs,o,ls,h,a,d=>by
  simp only[j5]at h
  split at h
  .cases h
  .rename_i hf
   have i:f.offset=o:=by
    by_cases e:f.offset=o
    .exact e
    .exact absurd (.inr e) hf
   subst i;split at h
   .rename_i ms j
    split at h
    .rename_i hc
     cases b:j5 uH P fs (f.offset+ms.length) with
     |none=>simp[b]at h
     |some k=>
      simp only[b,lT,Option.some.injEq]at h;subst h;have h1:=c j (d f (by simp));have h2:=BB c (fs:=fs) (cs:=cs) b (by simp at a;omega) (λg hg=>d g (by simp[hg]));rw[hc]at h1;have:=yh h1 h2;rwa[←kN,fV]at this
    .cases h
   .cases h
theorem BC{ls:O c5}{cs:O Y}:∀ {n i:Nat},(∀j,i<=j->j<i+n->jm ls ((cs.drop (j*ls.length)).take ls.length))->cs.length=(i+n)*ls.length->jm (nA ls n) (cs.drop (i*ls.length))
 |0,i,_,a=>tN (by simp at a;omega)
 |n+1,i,h,a=>by
  have h1:=h i (bt _) I
  have h2:=BC (n:=n) (i:=i+1) (λj h1 h2=>h j I I) (by rw[a];congr 1;omega)
  have:=yh h1 h2
  rw[show(i+1)*ls.length=i*ls.length+ls.length by rw[jz,Nat.one_mul],←kN,fV]at this
  exact this
theorem yj{P:Program}{w:J}:∀ (d:Nat) {T:TypeId}{ls:O c5}{fuel:Nat}{cs:O Y},gh P d T=some ls->P.cellsOf T=ls.length->fI P w fuel T cs->jm ls cs
 |0,_,_,_,_,h,_,_=>by cases h
 |d+1,T,ls,fuel,cs,h,m,a=>by
  cases fuel with
  |zero=>cases a
  |succ f=>
   simp only[gh]at h
   cases hu:P.underlying T with
   |none=>simp[hu]at h
   |some u=>
    rw[hu]at h
    cases u with
    |int k=>
     simp only[Option.some.injEq]at h;subst h
     simp only[fI,hu]at a
     obtain⟨n,rfl,h1,h2⟩:=a
     exact⟨_,_,rfl,⟨n,rfl,h1,h2⟩,rfl⟩
    |bool=>
     simp only[Option.some.injEq]at h;subst h
     simp only[fI,hu]at a
     obtain⟨b,rfl⟩:=a
     exact⟨_,_,rfl,⟨b,rfl⟩,rfl⟩
    |string=>
     simp only[Option.some.injEq]at h;subst h
     simp only[fI,hu]at a
     obtain⟨s,rfl,h1⟩:=a
     exact⟨_,_,rfl,⟨s,rfl,h1⟩,rfl⟩
    |struct fs=>
     simp only at h
     split at h
     .cases h
     .simp only[fI,hu]at a
      have:=BB (P:=P) (cs:=cs) (uH:=λT=>if (gh P d T).isSome/\∀ms,gh P d T=some ms->P.cellsOf T=ms.length then gh P d T else none) (R:=λT us=>fI P w f T us) (λ{T}{ls}{us} h1 h2=>by
       split at h1
       .rename_i q;exact yj d h1 (q.2 _ h1) h2
       .cases h1) (fs:=fs.toList) (o:=0) (ls:=ls) (by
        have key:∀ (fs:O Field) (o:Nat) (ls:O c5),j5 (gh P d) P fs o=some ls->j5 (λT=>if (gh P d T).isSome/\∀ms,gh P d T=some ms->P.cellsOf T=ms.length then gh P d T else none) P fs o=some ls:=by
         intro fs
         induction fs with
         |nil=>intro o ls h;exact h
         |cons g fs r=>
          intro o ls h;simp only[j5]at h⊢;split at h
          .cases h
          .rename_i hg
           rw[if_neg hg];split at h
           .rename_i ms c
            split at h
            .rename_i hc
             have t:(gh P d g.type).isSome/\∀ms,gh P d g.type=some ms->P.cellsOf g.type=ms.length:=by
              refine⟨by simp[c],λv p=>?_⟩;rw[c]at p;cases p;exact hc
             rw[if_pos t,c];simp only;rw[if_pos hc]
             cases l:j5 (gh P d) P fs (o+ms.length) with
             |none=>rw[l]at h;cases h
             |some x=>rw[l]at h;rw[r _ _ l];exact h
            .cases h
           .cases h
        exact key _ _ _ h) (by rw[a.1,m];simp) (λg hg=>a.2 g (by simpa using hg))
      simpa using this
    |array n e=>
     simp only at h;split at h
     .rename_i ms c
      split at h
      .rename_i hc
       simp only[Option.some.injEq]at h;subst h;simp only[fI,hu]at a;have:=BC (ls:=ms) (cs:=cs) (n:=n) (i:=0) (λj _ y=>by
        have:=a.2 j I;rw[hc]at this;exact yj d c hc this) (by rw[a.1,m,Bv];simp)
       simpa using this
      .cases h
     .cases h
    |_=>cases h
theorem BD:∀ {n:Nat}{cs:O Y},jm (List.replicate n (.int .u8)) cs->∃l:O UInt8,l.length=n/\cs=l.map λb=>Value.int .u8 ((b.toNat:Nat):Int)
 |0,cs,h=>⟨[],rfl,h⟩
 |n+1,cs,h=>by
  obtain⟨v,us,rfl,⟨z,rfl,h0,h1⟩,h2⟩:=h
  obtain⟨l,a,rfl⟩:=BD h2
  obtain⟨h0,h1⟩:=uC h0 h1
  refine⟨UInt8.ofNat z.toNat::l,by simp[a],?_⟩
  simp only[g2,List.cons.injEq,Value.int.injEq,true_and,and_true]
  have e:(UInt8.ofNat z.toNat).toNat=z.toNat:=by simp;omega
  omega
end aS
namespace aS
open Go Go.RowKit
section
variable {α:Type}{P:Program}{w:J}{h9 l0 T:TypeId}{enc:α->Y}
def eI(enc:α->Y)(x:α×Y×Nat):MapEntry:=⟨enc x.1,x.2.1,x.2.2⟩
def mK(x:α×Y×Nat):α×Y:=(x.1,x.2.1)
def mL[DecidableEq α](k:α):O (α×Y×Nat)->Nat->av (Nat×Y)
 | [],_=>none
 |x::L,i=>if k=x.1 then some (i,x.2.1) else mL k L (i+1)
theorem BE{β:Type}(f:β->β)(x:β)(bJ:O β):∀bp:O β,(bp++x::bJ).modify bp.length f=bp++f x::bJ
 | []=>rfl
 |y::bp=>by
  show y::((bp++x::bJ).modify bp.length f)=_
  rw[BE f x bJ bp];rfl
structure nC[DecidableEq α](P:Program)(h9:TypeId)(enc:α->Y):Prop where
 find:∀ (L:O (α×Y×Nat)) (k:α) (w:J),(Instr.findKey h9 (enc k) (L.map (eI enc))).run P w=.ok (mL k L 0) w
 check:∀ (b:al) (k:α) (w:J),(Instr.checkKey b 10000 h9 (enc k)).run P w=.ok () w
 bits:∀k,Instr.sameBits 10000 (enc k) (enc k)=true
theorem yk[DecidableEq α]{k:α}:∀ {L:O (α×Y×Nat)}{i:Nat},(∀x∈L,x.1≠k)->mL k L i=none
 | [],_,_=>rfl
 |x::L,i,h=>by
  rw[mL,if_neg (λe=>h x (by simp) e.symm)]
  exact yk λy a=>h y (by simp[a])
theorem yl[DecidableEq α]{k:α}{v:Y}{n:Nat}{bJ:O (α×Y×Nat)}:∀ {bp:O (α×Y×Nat)}{i:Nat},(∀x∈bp,x.1≠k)->mL k (bp++(k,v,n)::bJ) i=some (i+bp.length,v)
 | [],i,_=>by simp[mL]
 |x::L,i,h=>by
  rw[mn,mL,if_neg (λe=>h x (by simp) e.symm),yl λy a=>h y (by simp[a])]
  simp;omega
theorem nC.int{k:IntKind}(hu:P.underlying h9=some (.int k)):nC P h9 (λn:Int=>Value.int k n) where
 find L n w:=by
  have h:∀ (L:O (Int×Y×Nat)) (i:Nat),Instr.findNow (.int k) (.int k n) (L.map (eI λn:Int=>Value.int k n)) i=some (mL n L i):=by
   intro L
   induction L with
   |nil=>intro i;rfl
   |cons x L a=>
    intro i;simp only[g2,Instr.findNow,eI,Instr.sameNow,if_true,mL];by_cases hx:n=x.1
    .subst hx;simp
    .rw[if_neg hx,show(n==x.1)=false by simpa using hx]
     exact a (i+1)
  simp[Instr.findKey,dj hu,h]
 check b n w:=by
  show(Instr.checkKey b (9999+1) h9 (.int k n)).run P w=_;unfold Instr.checkKey;simp only[Sem.run_bind,dj hu,Result.andThen];rfl
 bits n:=by
  show(k==k&&n==n)=true;simp
def eV(w:J)(r:Nat)(enc:α->Y)(M:O (α×Y)):Prop:=
 ∃ (L:O (α×Y×Nat)) (a:Nat),w.heap[r]? =some (.map (L.map (eI enc)).toArray a)/\(L.map mK).Perm M/\(L.map (·.1)).Nodup/\(L.map (·.2.2)).Nodup/\∀x∈L,x.2.2<a
def FL(w:J)(r:Nat)(enc:α->Y)(M:O (α×Y))(k:α)(v:Y)(st:Int):Prop:=
 ∃ (bp bJ:O (α×Y×Nat)) (n a:Nat),w.heap[r]? =some (.map ((bp++(k,v,n)::bJ).map (eI enc)).toArray a)/\((bp++bJ).map mK).Perm M/\((bp++(k,v,n)::bJ).map (·.1)).Nodup/\((bp++(k,v,n)::bJ).map (·.2.2)).Nodup/\(∀x∈bp++(k,v,n)::bJ,x.2.2<a)/\st=(n:Int)
variable {r:Nat}{M h_:O (α×Y)}{k:α}{v:Y}{st:Int}{w':J}
theorem eV.lt(h:eV w r enc M):r<w.heap.size:=by
 obtain⟨L,a,h,_⟩:=h;exact(mo.1 h).1
theorem eV.ah{W:Nat->Prop}(h:eV w r enc M)(hc:af W w w')(a:¬W r):eV w' r enc M:=by
 have b:=h.lt;obtain⟨L,c,h,d⟩:=h;exact⟨L,c,by rw[hc.block r b a];exact h,d⟩
theorem eV.ext(h:eV w r enc M)(hc:Ext w w'):eV w' r enc M:=h.ah hc id
theorem eV.perm(h:eV w r enc M)(a:M.Perm h_):eV w r enc h_:=by
 obtain⟨L,b,h,h1,c⟩:=h;exact⟨L,b,h,h1.trans a,c⟩
theorem eV.split(h:eV w r enc ((k,v)::M)):∃n,FL w r enc M k v (n:Nat):=by
 obtain⟨L,b,h,h1,h2,c,d⟩:=h;have e:(k,v)∈L.map mK:=h1.mem_iff.2 (by simp);obtain⟨x,hx,a⟩:=fy.1 e;obtain⟨bp,bJ,rfl⟩:=List.append_of_mem hx;obtain⟨f,g,n⟩:=x;simp only[mK,Prod.mk.injEq]at a;obtain⟨rfl,rfl⟩:=a;refine⟨n,bp,bJ,n,b,h,?_,h2,c,d,rfl⟩;rw[gb,g2]at h1;have:=(nn.symm.trans h1);rw[gb];exact this.cons_inv
theorem eV.keys(h:eV w r enc M):(M.map (·.1)).Nodup:=by
 obtain⟨L,a,h,h1,h2,b,c⟩:=h;have:=h1.map (·.1);rw[oh]at this;exact this.nodup_iff.1 h2
theorem eV.FM(a:(k,v)∈M):∃h_,M.Perm ((k,v)::h_):=by
 obtain⟨A,B,rfl⟩:=List.append_of_mem a;exact⟨A++B,nn⟩
def iU(w:J)(r:Nat)(o:Obj):J:={w with heap:=w.heap.setIfInBounds r o}
theorem so(w:J)(r:Nat)(o:Obj):af (λq=>q=r) w (iU w r o):=
 ⟨rfl,rfl,rfl,by simp[iU],λk _ a=>by
  have:¬r=k:=λe=>a e.symm
  simp[iU,this]⟩
theorem uI(w:J)(r:Nat)(o:Obj):(iU w r o).heap.size=w.heap.size:=by simp[iU]
theorem uJ{w:J}{r:Nat}(h:r<w.heap.size)(o:Obj):(iU w r o).heap[r]? =some o:=by simp[iU,h]
theorem mM{es:Array MapEntry}{a:Nat}(h:w.heap[r]? =some (.map es a)):(getObj r).run P w=.ok (.map es a) w:=by simp[getObj,Sem.run,h]
theorem ym{es:Array MapEntry}{a:Nat}(h:w.heap[r]? =some (.map es a))(o:Obj):(setObj r o).run P w=.ok () (iU w r o):=by simp[setObj,Sem.run,h,iU]
theorem BF{bp bJ:O (α×Y×Nat)}{x:α×Y×Nat}(h:((bp++x::bJ).map (·.1)).Nodup):∀y∈bp,y.1≠x.1:=by
 intro y a e;rw[gb,g2,tO]at h;exact h.2.2 _ (List.mem_map_of_mem a) _ (om ..) e
theorem BG{L:O (α×Y×Nat)}(h1:(L.map mK).Perm M)(a:∀v,(k,v)∉M):∀x∈L,x.1≠k:=by
 intro x hx e;refine a x.2.1 (h1.mem_iff.1 (fy.2 ⟨x,hx,?_⟩));simp[mK,e]
theorem eV.make(T:TypeId)(w:J):(Instr.makeMap T none).run P w=.ok (.map (some w.heap.size)) (w.alloc (.map #[] 0))/\eV (w.alloc (.map #[] 0)) w.heap.size enc ([]:O (α×Y)):=by
 refine⟨by simp[Instr.makeMap],[],0,?_,by simp,by simp,by simp,by simp⟩;show(w.heap.push (.map #[] 0))[w.heap.size]? =_;simp
theorem eV.BH[DecidableEq α](a:nC P h9 enc)(b:P.underlying T=some (.map h9 l0))(h:eV w r enc M)(c:(k,v)∈M)(ok:al):
 (Instr.lookup T (.map (some r)) (enc k) ok).run P w=.ok (if ok then .tuple #[v,.bool true] else v) w:=by
 obtain⟨h_,d⟩:=eV.FM c;obtain⟨n,bp,bJ,e,f,h,h1,h2,g,i,_⟩:=(h.perm d).split;have hf:=a.find (bp++(k,v,e)::bJ) k w;rw[yl (BF h2)]at hf;simp only[Instr.lookup,Sem.run_bind,dj b,Result.andThen,mM h,Sem.run_pure,a.check,hf]
theorem eV.BI[DecidableEq α](a:nC P h9 enc)(b:P.underlying T=some (.map h9 l0)){i:TypeInfo}{z:Y}(hi:P.info? l0=some i)(c:i.zero=some z)(h:eV w r enc M)(d:∀v,(k,v)∉M)(ok:al):
 (Instr.lookup T (.map (some r)) (enc k) ok).run P w=.ok (if ok then .tuple #[z,.bool false] else z) w:=by
 obtain⟨L,e,h,h1,h2,f,g⟩:=h;have hf:=a.find L k w;rw[yk (BG h1 d)]at hf;simp only[Instr.lookup,Sem.run_bind,dj b,Result.andThen,mM h,Sem.run_pure,a.check,hf,zeroValue,nt hi,c]
end
end aS
namespace aS
open Go Go.RowKit
theorem BJ(c:Array Y):∀ (vs:O Y) (i:Nat) (c:Array Y),(gJ c i vs).toList.drop (i+vs.length)=c.toList.drop (i+vs.length)
 | [],_,_=>rfl
 |v::vs,i,c=>by
  simp only[gJ,gx]
  rw[show i+(vs.length+1)=i+1+vs.length from I,BJ c vs (i+1) (c.setIfInBounds i v)]
  rw[Array.toList_setIfInBounds,List.drop_set]
  rw[if_pos I]
theorem lA(vs:O Y)(c:Array Y)(i:Nat)(h:i+vs.length<=c.size):(gJ c i vs).toList=c.toList.take i++vs++c.toList.drop (i+vs.length):=by
 rw[←fV (i+vs.length) (gJ c i vs).toList,sh vs c i h,BJ c]
section
variable {P:Program}{w:J}
theorem uK{mN cS ty e:TypeId}{d:TypeDesc}{sz:Nat}(hd:P.underlying mN=some (.slice e))(he:P.underlying e=some d)(g:P.cellsOf e=sz){A:ag}{dl oS n:Nat}{x:ad}(h:Nat.min x.len dl=n){xs:O Y}(hx:Src sz w ⟨x.a,n,x.cap⟩ xs)(b:bk w A xs):
 Sem.run P (Builtin.copy_ #[mN,cS] ty #[.slice (some A) dl oS,.slice x.a x.len x.cap]) w=.ok (.int .i64 ((n:Nat):Int)) (setCells w A 0 xs):=by
 have f:=h6 (w:=w) he;rw[g]at f;have hf:Sem.run P (Builtin.firstCells sz n (.slice x.a x.len x.cap)) w=.ok xs.toArray w:=by
  obtain⟨a,l,c⟩:=x
  cases a<;>exact qk (P:=P) hx
 have i:=p8 (P:=P) (A:=A) xs 0 w (by simpa using b.1) b.2;simp only[Builtin.copy_,rM,ni,p0,Sem.run_bind,dj hd,Result.andThen,Builtin.lenOf,Sem.run_pure,h,f,hf,i];rfl
set_option maxRecDepth 4000 in
theorem FN {gH:Array TypeId}{cC cS kU e:TypeId}{i:TypeInfo}{k:IntKind}{z:Y}{sz n:Nat}{s:ad}{c:O Y} (h0:gH[0]? =some cS) (h1:gH[1]? =some kU)
 (hs:P.underlying cS=some (.slice e)) (hx:P.underlying kU=some (.int k)) (hi:P.info? e=some i) (hd:(P.underlying e).isSome=true) (h:i.zero=some z) (j:z.cells.size=sz) (p:P.cellsOf e=sz)
 (r:i.bytes≠0) (hold:Src sz w s c) (t:s.cap<s.len+n) (l:(2*(s.len+n)+1000)*i.bytes<=281474976710656):
 ∃ (b:Nat) (zs rest:O Y),s.len+n<=b/\b<=maxLen/\zs.length=n*sz/\rest.length=(b-(s.len+n))*sz/\
  Sem.run P (Builtin.append_ gH cC #[.slice s.a s.len s.cap,.int .i64 ((n:Nat):Int)]) w=
   .ok (.slice (some ⟨w.heap.size,0,none⟩) (s.len+n) b) (w.drew.alloc (.cells (c++zs++rest).toArray e)):=by
 obtain⟨d,hd⟩:=kq _ hd;have m:=h6 (w:=w) hd;rw[p]at m;have u:=Bp t;have S:Builtin.nextslicecap (s.len+n) s.cap*i.bytes<=281474976710656:=eC (nm _ u) l;have T:s.len+n<=281474976710656:=by
  have:s.len+n<=(2*(s.len+n)+1000)*i.bytes:=by
   have:=Nat.mul_le_mul_left (2*(s.len+n)+1000) (Nat.one_le_iff_ne_zero.2 r);omega
  omega
 have v:n*i.bytes<=281474976710656:=eC (nm _ (by omega:n<=2*(s.len+n)+1000)) l
 let q:Question:=.appendCap (s.len+n) s.cap e
 let b:Nat:=q.cut (w.tape w.drawn q)
 have x:q.forced=false:=rfl;have A:s.len+n<=b:=by show s.len+n<=s.len+n+_;omega
 have B:b<=maxLen:=by
  show s.len+n+_%(2^63-(s.len+n))<=2^63-1;have:=hZ (w.tape w.drawn q) (y:=2^63-(s.len+n)) I;omega
 have C:Src sz w.drew s c:=hold.ext (af.drew (.refl _ _));have D:=qk (P:=P) C;have E:∀n (w':J),(askRoom n).run P w'=.ok () w':=λn w'=>by unfold askRoom;split<;>rfl
 have F:(choose q).run P w=.ok b w.drew:=by
  show Sem.run P (.choose q .pure) w=_;simp only[Sem.run,x,gp,if_false];rfl
 have f:=λw:J=>nt (w:=w) hi;refine⟨b,if n*sz=0 then [] else (Builtin.zeroCells z.cells n).toList,(Builtin.zeroCells z.cells (b-(s.len+n))).toList,A,B,?_,by simp[Builtin.zeroCells,j],?_⟩
 .split
  .rename_i h0;simp[h0]
  .simp[Builtin.zeroCells,j]
 have G:IntKind.i64.wrap ((n:Nat):Int)=(n:Int):=bB I I;have H:¬((n:Int)<0):=by omega
 have K:¬((n:Int)*(i.bytes:Int)>2^48):=by
  have:((n*i.bytes:Nat):Int)<=((281474976710656:Nat):Int):=Int.ofNat_le.2 v;rw[Int.natCast_mul]at this;have L:(2:Int)^48=((281474976710656:Nat):Int):=by decide+kernel
  rw[L];omega
 have M:¬(s.len+n<=s.cap):=by omega
 have N:¬((s.len+n:Nat):Int)>IntKind.i64.max:=by
  simp[IntKind.max,IntKind.signed,IntKind.bits];omega
 have Q:¬Builtin.nextslicecap (s.len+n) s.cap*i.bytes>2^48:=by
  have:(2:Nat)^48=281474976710656:=by decide+kernel
  omega
 have R:Sem.run P (choose (.appendCap (s.len+n) s.cap e)) w=.ok b w.drew:=F;unfold Builtin.append_;simp only[rM,ni,p0,h0,h1,Sem.run_bind,dj hs,dj hx,Result.andThen,m,Sem.run_pure,asInt,asIntOf,G,H,if_false,f,K,di,M,N,false_and,Q,if_true,Bool.not_true,gp,R,E,D];by_cases o:n*sz=0
 .simp only[o,if_true,Sem.run_pure,zeroValue,f,h,Sem.run_bind,Result.andThen,newRow,newObj,Sem.run]
  have g:w.drew.heap.size=w.heap.size:=rfl;rw[g]
  congr 1
  show w.drew.alloc _=w.drew.alloc _
  congr 2
  simp
 .simp only[o,if_false,Sem.run_pure,zeroValue,f,h,Sem.run_bind,Result.andThen,newRow,newObj,Sem.run]
  have g:w.drew.heap.size=w.heap.size:=rfl;rw[g]
  congr 1
  show w.drew.alloc _=w.drew.alloc _
  congr 2
  simp
theorem FO{T o e:TypeId}{i:TypeInfo}{z:Y}{sz n c:Nat}{A:ag}(a:P.underlying T=some (.slice e))(hi:P.info? e=some i)(b:i.zero=some z)(d:z.cells.size=sz)(f:n≠0)
 (g:∀zs:O Y,zs=(Builtin.zeroCells z.cells n).toList->bk w A zs):
 ∃zs:O Y,zs.length=n*sz/\Sem.run P (Builtin.clear_ #[T] o #[.slice (some A) n c]) w=.ok (.tuple #[]) (setCells w A 0 zs):=by
 refine⟨(Builtin.zeroCells z.cells n).toList,by simp[Builtin.zeroCells,d],?_⟩;have hs:=g _ rfl;have h:=p8 (P:=P) (A:=A) _ 0 w (by simpa using hs.1) hs.2
 cases n with
 |zero=>exact absurd rfl f
 |succ n=>
  simp only[Builtin.clear_,rM,ni,Sem.run_bind,dj a,Result.andThen,zeroValue,nt hi,b,Sem.run_pure,h]
end
theorem yn(a:av ag)(z c:Nat):aO a z 0 c=a:=by
 unfold aO;split
 .rfl
 .cases a with
  |none=>rfl
  |some A=>simp[add_zero']
theorem bu.sq{sz:Nat}{w:J}{b:Nat}{c:Array Y}{T:TypeId}(h:bu w b c T){o n cap:Nat}(d:o+n*sz<=c.size):Src sz w ⟨some ⟨b,o,none⟩,n,cap⟩ ((c.toList.drop o).take (n*sz)):=by
 refine⟨by simp;omega,(λh=>by cases h),λa e=>?_⟩
 cases e;have:=qj h (n*sz) o 0 (by simpa using d);simpa using this
theorem bu.lB{w:J}{b o:Nat}{c:Array Y}{T:TypeId}(h:bu w b c T)(vs:O Y):bu (setCells w ⟨b,o,none⟩ 0 vs) b (gJ c o vs) T:=by
 simpa using bu.se vs o 0 h
theorem aT.mk'{sz:Nat}{T:TypeId}{w:J}{b n cap:Nat}{c:Array Y}{vs:O Y}(a:bu w b c T)(d:vs.length=n*sz)(e:n<=cap)(hc:cap<=maxLen)(hs:c.size=cap*sz)(f:c.toList.take (n*sz)=vs):aT sz T w ⟨some ⟨b,0,Option.none⟩,n,cap⟩ vs:=
 ⟨d,e,hc,.inr ⟨b,c,rfl,a,hs,f⟩⟩
theorem BK(A:ag)(a b:Nat):(A.add a).add b=A.add (a+b):=by
 unfold Addr.add;by_cases c:a=0
 .subst c;simp
 .by_cases d:b=0
  .subst d;simp
  .simp[c,d,Nat.add_assoc]
theorem sr{w:J}{A:ag}:∀ {n i:Nat}{vs:O Y}{j:Nat}{v:Y},a8 w A i n=some vs->vs[j]? =some v->w.cell? (A.add (i+j))=some v
 |0,_,vs,j,v,h,a=>by simp[a8]at h;subst h;simp at a
 |n+1,i,vs,j,v,h,a=>by
  simp only[a8]at h
  cases h1:w.cell? (A.add i) with
  |none=>simp[h1]at h
  |some u=>
   cases h2:a8 w A (i+1) n with
   |none=>simp[h1,h2]at h
   |some us=>
    simp only[h1,h2,Option.some.injEq]at h
    subst h
    cases j with
    |zero=>simp at a;subst a;exact h1
    |succ j=>
     have:=sr h2 (j:=j) (v:=v) (by simpa using a)
     rwa[show i+(j+1)=i+1+j from I]
theorem yo{w:J}{A:ag}:∀ (n i:Nat) (vs:O Y),vs.length=n->(∀j v,vs[j]? =some v->w.cell? (A.add (i+j))=some v)->a8 w A i n=some vs
 |0,i,vs,a,_=>by
  cases vs with
  |nil=>simp[a8]
  |cons _ _=>simp at a
 |n+1,i,vs,a,h=>by
  cases vs with
  |nil=>simp at a
  |cons v vs=>
   simp only[a8]
   rw[show w.cell? (A.add i)=some v from h 0 v rfl,yo n (i+1) vs (by simpa using a) (λj x hx=>by have:=h (j+1) x (by simpa using hx);rwa[show i+(j+1)=i+1+j from I]at this)]
theorem yp{w:J}{A:ag}{n k m:Nat}{vs:O Y}(h:a8 w A 0 n=some vs)(b:k+m<=n):a8 w (A.add k) 0 m=some ((vs.drop k).take m):=by
 have c:=sg h;refine yo m 0 _ (by simp;omega) λj v a=>?_;rw[BK,show k+(0+j)=0+(k+j) from I];refine sr h ?_;rw[tM]at a;split at a
 .rwa[tJ]at a
 .cases a
theorem FP{a b:Nat}(h:a+b<=4000000):IntKind.wrap .i64 (Int.fdiv (IntKind.wrap .u64 (IntKind.wrap .i64 ((a:Int)+(b:Int)))) (2^(min (Int.toNat 1) 64)))=(((a+b)/2:Nat):Int):=by
 rw[bB (n:=(a:Int)+b) I I,gq I I];have e:(2:Int)^(min (Int.toNat 1) 64)=2:=rfl;rw[e,Int.fdiv_eq_ediv_of_nonneg _ I,bB I I];omega
section
variable {w:J}
theorem aT.FQ{sz:Nat}{T au:TypeId}{s:ad}{vs:O Y}{q:Nat}{c:Array Y}(h:aT sz T w s vs)(a:aE s q)(d:bu w q c au):T=au:=by
 obtain⟨A,aq,rfl⟩:=a;obtain⟨_,_,_,e⟩:=h;rcases e with ⟨f,_⟩|⟨b,c',g,i,_⟩
 .rw[f]at aq;cases aq
 .rw[g]at aq;cases aq
  exact(bu.inj i d).2
end
theorem FR{w:J}{A:ag}{n m i:Nat}{xs ys:O Y}(h1:a8 w A i n=some xs)(h2:a8 w (A.add (i+n)) 0 m=some ys):a8 w A i (n+m)=some (xs++ys):=by
 have iS:=sg h1;have b:=sg h2;refine yo (n+m) i _ (by rw[cG,iS,b]) λj v a=>?_;rw[List.getElem?_append]at a;split at a
 .exact sr h1 a
 .rename_i c
  have:=sr h2 a;rw[BK]at this;rwa[show i+n+(0+(j-xs.length))=i+j from I]at this
theorem nz.src{P:Program}{w:J}{e:TypeId}{s:ad}{α:Type}{c:α->O Y}{sz:Nat}(h:nz P w e s)(k:P.cellsOf e=sz)(R:α->Prop)(m:∀fuel vs,fI P w fuel e vs->∃x:α,vs=c x/\R x):
 ∃l:O α,Src sz w s (l.map c).flatten/\l.length=s.len/\∀x∈l,R x:=by
 have i:=h.cell;rw[k]at i;have key:∀a,s.a=some a->∀n,n<=s.len->∃l:O α,a8 w a 0 (n*sz)=some (l.map c).flatten/\l.length=n/\∀x∈l,R x:=by
  intro a d n
  induction n with
  |zero=>intro _;exact⟨[],by simp[a8],rfl,λr f=>by cases f⟩
  |succ n o=>
   intro u;obtain⟨l,h1,g,h2⟩:=o I;obtain⟨vs,p,fuel,q⟩:=i a d n (by have:=h.le;omega);obtain⟨r,rfl,t⟩:=m fuel vs q;refine⟨l++ [r],?_,by simp[g],λx hx=>?_⟩
   .rw[Nat.succ_mul,FR h1 (by rw[cF];exact p)]
    simp
   .rcases c1.1 hx with hx|hx
    .exact h2 x hx
    .rw[fz.1 hx];exact t
 cases b:s.a with
 |none=>
  have h0:s.len=0:=by have:=h.nil b;have:=h.le;omega
  exact⟨[],⟨by simp[h0],λ_=>rfl,λa d=>(by rw[b]at d;cases d)⟩,h0.symm,λr f=>by cases f⟩
 |some a=>
  obtain⟨l,h1,g,h2⟩:=key a b s.len (bt _);exact⟨l,⟨sg h1,λe=>(by rw[b]at e;cases e),λv j=>by rw[b]at j;cases j;exact h1⟩,g,h2⟩
theorem qm{P:Program}{w:J}{T:TypeId}{fuel:Nat}{cs:O Y}{fs:Array Field}(h:fI P w fuel T cs)(a:P.underlying T=some (.struct fs))(i:Nat){t o n:Nat}(hf:(fs[i]?).map (λf=>(f.type,f.offset))=some (t,o))(b:P.cellsOf t=n):∃fuel,fI P w fuel t ((cs.drop o).take n):=by
 obtain⟨_,c⟩:=Bt h a
 cases hg:fs[i]? with
 |none=>rw[hg]at hf;cases hf
 |some f=>
  rw[hg]at hf;simp only[lT,Option.some.injEq,Prod.mk.injEq]at hf;obtain⟨rfl,rfl⟩:=hf;have:=c f (Array.mem_of_getElem? hg);rwa[b]at this
def fieldsOf(P:Program)(T:TypeId):Array Field:=match P.underlying T with
 |some (.struct fs)=>fs
 |_=> #[]
end aS
