/- What a Go program of the model must show, as text that can be read; sound against the kit. -/
import Derived.Carry
import Derived.Defers
import Derived.Laws.StructEq
import Derived.Lib.Overlaps
import Derived.WideKeyRuns
import Derived.Test.YtcmgnhkpfllinaaGreatKFPlays1
namespace aU
open Go Go.RowKit
variable{T:TypeId}{d:TypeDesc}{ls:O dx}{xs ys:O Y}
def qR(j8:TypeId->an (O dx))(P:Program):O Field->Nat->an (O dx)
 | [],_=>some []
 |f::fs,o=>if f.name= "_" \/f.offset≠o then none else
  match j8 f.type with
  |some ls=>if P.cellsOf f.type=ls.length then (qR j8 P fs (o+ls.length)).map (ls++ ·) else none
  |none=>none
def vh(ls:O dx):Nat->O dx
 |0=> []
 |n+1=>ls++vh ls n
def j8(P:Program):Nat->TypeId->an (O dx)
 |0,_=>none
 |d+1,T=>match P.underlying T with
  |some (.int k)=>some [.int k]
  |some .bool=>some [.bool]
  |some .string=>some [.str]
  |some (.struct fs)=>if P.stoodInHeld T then none else qR (j8 P d) P fs.toList 0
  |some (.array n e)=>match j8 P d e with
   |some ls=>if P.cellsOf e=ls.length then some (vh ls n) else none
   |none=>none
  |_=>none
def vi:dx->Y->Prop
 | .int k,v=>∃n:Int,v=.int k n
 | .bool,v=>∃b:ag,v=.bool b
 | .str,v=>∃s:ByteArray,v=.string s
 |_,_=>False
def gF:O dx->O Y->Prop
 | [],vs=>vs=[]
 |l::ls,vs=>∃v us,vs=v::us/\vi l v/\gF ls us
theorem s5:∀ {ls:O dx}{vs:O Y},gF ls vs->vs.length=ls.length
 | [],_,h=>by cases h;rfl
 |_::_,_,h=>by
  obtain⟨v,us,rfl,_,h⟩:=h
  simp[s5 h]
theorem s6:∀ {ls ms:O dx}{vs:O Y},gF (ls++ms) vs->gF ls (vs.take ls.length)/\gF ms (vs.drop ls.length)
 | [],_,_,h=>⟨rfl,h⟩
 |l::ls,ms,vs,h=>by
  obtain⟨v,us,rfl,h1,a⟩:=h
  obtain⟨b,c⟩:=s6 a
  exact⟨⟨v,_,rfl,h1,b⟩,c⟩
def n4:Y->Y->ag
 | .int _ a,.int _ b=>a==b
 | .bool a,.bool b=>a==b
 | .string a,.string b=>a.toList==b.toList
 |_,_=>false
def gf:O Y->O Y->ag
 | [],_=>true
 |a::as,b::c=>n4 a b&&gf as c
 |_::_,[]=>false
theorem Gr{l:dx}{a b:Y}(c:vi l a)(d:vi l b):n4 a b=true↔a=b:=by
 cases l<;>simp only[vi]at c d<;>try exact c.elim
 .obtain⟨n,rfl⟩:=c;obtain⟨m,rfl⟩:=d;simp[n4]
 .obtain⟨n,rfl⟩:=c;obtain⟨m,rfl⟩:=d;simp[n4]
 .obtain⟨n,rfl⟩:=c;obtain⟨m,rfl⟩:=d
  simp only[n4,gP,Value.string.injEq];rw[ByteArray.toList_eq,ByteArray.toList_eq];obtain⟨⟨x⟩⟩:=n;obtain⟨⟨y⟩⟩:=m;simp
theorem B8:∀ {ls:O dx}{as c:O Y},gF ls as->gF ls c->(gf as c=true↔as=c)
 | [],_,_,h1,d=>by cases h1;cases d;simp[gf]
 |l::ls,_,_,h1,d=>by
  obtain⟨a,as,rfl,e,f⟩:=h1
  obtain⟨b,c,rfl,g,h⟩:=d
  simp[gf,Gr e g,B8 f h]
theorem yM:∀ {as c cs ds:O Y},as.length=c.length->gf (as++cs) (c++ds)=(gf as c&&gf cs ds)
 | [],[],_,_,_=>by simp[gf]
 |a::as,b::c,cs,ds,h=>by
  simp only[o0,gf]
  rw[yM (by simpa using h),Bool.and_assoc]
 | [],_::_,_,_,h=>by simp at h
 |_::_,[],_,_,h=>by simp at h
def lZ(P:Program)(T:TypeId)(cs:O Y):Y:=
 match P.underlying T with
 |some d=>if iG d then .agg cs.toArray else cs.headD undef
 |none=>undef
section
variable {P:Program}
theorem pk{cs:O Y}(h:P.underlying T=some d)(a:iG d=true):lZ P T cs=.agg cs.toArray:=by
 simp[lZ,h,a]
theorem pn{v:Y}(h:P.underlying T=some d)(a:iG d=false):lZ P T [v]=v:=by
 simp[lZ,h,a]
theorem vj{cs us:O Y}{off:Nat}(a:P.underlying T=some d)(b:P.cellsOf T=us.length)(c:iG d=false->us.length=1)
 (h:(cs.drop off).take us.length=us) (w:J):(part T cs.toArray off).run P w=.ok (lZ P T us) w:=by
 cases hd:iG d with
 |true=>
  rw[pk a hd];have e:cs.toArray.extract off (off+us.length)=us.toArray:=by
   simp[h]
  simp[part,qA a,hd,iH a,b,h]
 |false=>
  obtain⟨v,rfl⟩:=List.length_eq_one_iff.1 (c hd);rw[pn a hd];have f:cs[off]? =some v:=by
   have:((cs.drop off).take 1)[0]? =some v:=by
    have g:List.take 1 (List.drop off cs)=[v]:=h;rw[g];rfl
   rw[List.getElem?_take_of_lt I,sq]at this;simpa using this
  simp[part,qA a,hd,f]
theorem flat_agg{d:Nat}(h:j8 P d T=some ls):∃u,P.underlying T=some u/\(iG u=false->ls.length=1):=by
 cases d with
 |zero=>cases h
 |succ d=>
  simp only[j8]at h
  cases hu:P.underlying T with
  |none=>simp[hu]at h
  |some u=>
   refine⟨u,rfl,λa=>?_⟩;rw[hu]at h
   cases u<;>simp only[iG,reduceCtorEq]at a h<;>first|(cases h;rfl)|cases h
theorem B9{d D:Nat}(i:∀ {T:TypeId}{ls:O dx}{xs ys:O Y},j8 P d T=some ls->gF ls xs->gF ls ys->∀w,(Op.equalIn (D+d) T (lZ P T xs) (lZ P T ys)).run P w=.ok (gf xs ys) w)
 :∀ {fs:O Field}{o:Nat}{ls:O dx},qR (j8 P d) P fs o=some ls->gF ls (xs.drop o)->gF ls (ys.drop o)->
  ∀w,(Op.eqFields (D+d) xs.toArray ys.toArray fs).run P w=.ok (gf (xs.drop o) (ys.drop o)) w
 | [],o,ls,h,hx,j,w=>by
  simp only[qR,Option.some.injEq]at h
  subst h
  have hx:xs.drop o=[]:=hx
  rw[hx]
  rfl
 |f::fs,o,ls,h,hx,j,w=>by
  simp only[qR]at h
  split at h
  .cases h
  .rename_i hf
   have s:¬f.name= "_" :=λe=>hf (.inl e)
   have t:f.offset=o:=by
    by_cases e:f.offset=o
    .exact e
    .exact absurd (.inr e) hf
   subst t;split at h
   .rename_i ms k
    split at h
    .rename_i hc
     cases c:qR (j8 P d) P fs (f.offset+ms.length) with
     |none=>simp[c]at h
     |some x=>
      simp only[c,mX,Option.some.injEq]at h;subst h;obtain⟨l,m⟩:=s6 hx;obtain⟨n,p⟩:=s6 j;rw[mm]at m p;obtain⟨u,hu,q⟩:=flat_agg k;have a:=s5 l;have b:=s5 n;have bm:=vj (cs:=xs) (off:=f.offset) (us:=(xs.drop f.offset).take ms.length) hu (by rw[hc,a]) (λg=>by rw[a];exact q g) (by rw[a]);have bt:=vj (cs:=ys) (off:=f.offset) (us:=(ys.drop f.offset).take ms.length) hu (by rw[hc,b]) (λg=>by rw[b];exact q g) (by rw[b]);have e:=λw=>i k l n w;have r:=B9 i (fs:=fs) c m p;have v:gf (xs.drop f.offset) (ys.drop f.offset)=(gf ((xs.drop f.offset).take ms.length) ((ys.drop f.offset).take ms.length)&&gf (xs.drop (f.offset+ms.length)) (ys.drop (f.offset+ms.length))):=by
       rw[←yM (by rw[a,b])];simp only[←mm,iW]
      simp only[Op.eqFields,ne_eq,s,not_false_eq_true,if_true,Sem.run_bind,bm,bt,e,Result.andThen];rw[v]
      cases gf ((xs.drop f.offset).take ms.length) ((ys.drop f.offset).take ms.length)
      .simp
      .simpa using r w
    .cases h
   .cases h
theorem B_{d D:Nat}(j:∀ {T:TypeId}{ls:O dx}{xs ys:O Y},j8 P d T=some ls->gF ls xs->gF ls ys->∀w,(Op.equalIn (D+d) T (lZ P T xs) (lZ P T ys)).run P w=.ok (gf xs ys) w)
 {e:TypeId}{u:TypeDesc} (hu:P.underlying e=some u) (g:iG u=false->ls.length=1) (k:j8 P d e=some ls) (hc:P.cellsOf e=ls.length) :
 ∀ (n i:Nat),gF (vh ls n) (xs.drop (i*ls.length))->gF (vh ls n) (ys.drop (i*ls.length))->∀w,
  Sem.run P (do
   let r ←forIn (List.range' i n) ((none:an ag),()) λi _=>do
    let a ←part e xs.toArray (i*ls.length)
    let b ←part e ys.toArray (i*ls.length)
    let t ←Op.equalIn (D+d) e a b
    if (!t)=true then pure (ForInStep.done (some false,())) else pure (ForInStep.yield (none,()))
   match r.1 with
   |some b=>pure b
   |none=>pure true) w=.ok (gf (xs.drop (i*ls.length)) (ys.drop (i*ls.length))) w
 |0,i,hx,l,w=>by
  have hx:xs.drop (i*ls.length)=[]:=hx
  rw[hx]
  simp[gf]
 |n+1,i,hx,l,w=>by
  obtain⟨m,o⟩:=s6 hx
  obtain⟨p,q⟩:=s6 l
  rw[mm,show i*ls.length+ls.length=(i+1)*ls.length by rw[jw,mY]]at o q
  have c:=s5 m
  have f:=s5 p
  have bm:=vj (cs:=xs) (off:=i*ls.length) (us:=(xs.drop (i*ls.length)).take ls.length) hu (by rw[hc,c]) (λh=>by rw[c];exact g h) (by rw[c])
  have bt:=vj (cs:=ys) (off:=i*ls.length) (us:=(ys.drop (i*ls.length)).take ls.length) hu (by rw[hc,f]) (λh=>by rw[f];exact g h) (by rw[f])
  have s:=λw=>j k m p w
  have r:=B_ j hu g k hc n (i+1) o q w
  have v:gf (xs.drop (i*ls.length)) (ys.drop (i*ls.length))=(gf ((xs.drop (i*ls.length)).take ls.length) ((ys.drop (i*ls.length)).take ls.length)&&gf (xs.drop ((i+1)*ls.length)) (ys.drop ((i+1)*ls.length))):=by
   rw[←yM (by rw[c,f]),show(i+1)*ls.length=i*ls.length+ls.length by rw[jw,mY]];simp only[←mm,iW]
  rw[v];simp only[List.range'_succ,List.forIn_cons,Sem.run_bind,bm,bt,s,Result.andThen]
  cases gf ((xs.drop (i*ls.length)).take ls.length) ((ys.drop (i*ls.length)).take ls.length)
  .simp
  .simpa[Result.andThen] using r
theorem Ca(D:Nat):∀ (d:Nat) {T:TypeId}{ls:O dx}{xs ys:O Y},j8 P d T=some ls->gF ls xs->gF ls ys->∀w,(Op.equalIn (D+d) T (lZ P T xs) (lZ P T ys)).run P w=.ok (gf xs ys) w
 |0,_,_,_,_,h,_,_,_=>by cases h
 |d+1,T,ls,xs,ys,h,hx,b,w=>by
  have c:= @Ca D d
  simp only[j8]at h
  cases hu:P.underlying T with
  |none=>simp[hu]at h
  |some u=>
   rw[hu]at h
   cases u with
   |int k=>
    simp only[Option.some.injEq]at h;subst h
    obtain⟨x,_,rfl,⟨n,rfl⟩,rfl⟩:=hx
    obtain⟨y,_,rfl,⟨m,rfl⟩,rfl⟩:=b
    rw[pn hu rfl,pn hu rfl]
    show(Op.equalIn (D+d+1) T _ _).run P w=_
    simp[Op.equalIn,dh hu,gf,n4]
   |bool=>
    simp only[Option.some.injEq]at h;subst h
    obtain⟨x,_,rfl,⟨n,rfl⟩,rfl⟩:=hx
    obtain⟨y,_,rfl,⟨m,rfl⟩,rfl⟩:=b
    rw[pn hu rfl,pn hu rfl]
    show(Op.equalIn (D+d+1) T _ _).run P w=_
    simp[Op.equalIn,dh hu,gf,n4]
   |string=>
    simp only[Option.some.injEq]at h;subst h
    obtain⟨x,_,rfl,⟨n,rfl⟩,rfl⟩:=hx
    obtain⟨y,_,rfl,⟨m,rfl⟩,rfl⟩:=b
    rw[pn hu rfl,pn hu rfl]
    show(Op.equalIn (D+d+1) T _ _).run P w=_
    simp[Op.equalIn,dh hu,gf,n4,beq_toListBytes]
   |struct fs=>
    simp only at h
    split at h
    .cases h
    .rename_i j
     rw[pk hu rfl,pk hu rfl]
     have f:P.fieldsOf T=fs:=by simp[Program.fieldsOf,hu]
     show(Op.equalIn (D+d+1) T _ _).run P w=_
     rw[run_equalIn_struct w (D+d) T xs.toArray ys.toArray (f▸hu) (by simpa using j),f]
     have:=B9 (D:=D) c (xs:=xs) (ys:=ys) h (by simpa using hx) (by simpa using b) w
     simpa using this
   |array n e=>
    simp only at h
    split at h
    .rename_i ms g
     split at h
     .rename_i hc
      simp only[Option.some.injEq]at h;subst h
      obtain⟨u,i,l⟩:=flat_agg g
      rw[pk hu rfl,pk hu rfl]
      show(Op.equalIn (D+d+1) T _ _).run P w=_
      have:=B_ (D:=D) c i l g hc (xs:=xs) (ys:=ys) n 0 (by simpa using hx) (by simpa using b) w
      rw[mj,mn,mn]at this
      rw[←this]
      simp only[Op.equalIn,Sem.run_bind,dh hu,iH i,Result.andThen,hc,Std.Legacy.Range.forIn_eq_forIn_range',Std.Legacy.Range.size]
      simp
      congr 1
      funext a w
      obtain⟨o,_⟩:=a
      cases o<;>rfl
     .cases h
    .cases h
   |_=>cases h
theorem lU.flat(a:P.underlying T=some d)(b:iG d=true)(hf:j8 P 8 T=some ls)(hg:P.eqGuardType P.depth T=false)
 (hx:gF ls xs) (c:gF ls ys):lU P T xs.toArray ys.toArray (gf xs ys):=by
 refine⟨hg,λw=>?_⟩;have:=Ca (P:=P) 9992 8 hf hx c w;rwa[pk a b,pk a b]at this
end
end aU
namespace aU
open Go Go.RowKit
variable{n:Int}{w0:J}{b:Nat}
theorem s7(h0:0<=n)(h1:n<=255):IntKind.u8.wrap n=n:=by
 simp only[IntKind.wrap,IntKind.signed,IntKind.bits];simp;omega
theorem mB(h0:0<=n)(h1:n<=4294967295):IntKind.u32.wrap n=n:=by
 simp only[IntKind.wrap,IntKind.signed,IntKind.bits];simp;omega
theorem gl(h0:0<=n)(h1:n<=18446744073709551615):IntKind.u64.wrap n=n:=by
 simp only[IntKind.wrap,IntKind.signed,IntKind.bits];simp;omega
theorem Gs(n:Int):IntKind.u8.wrap n=n%256:=by
 simp only[IntKind.wrap,IntKind.signed,IntKind.bits];simp
def S(l:O UInt8):ByteArray:=⟨l.toArray⟩
theorem Cb(l:O UInt8):(S l).toList=l:=ByteArray.toList_mk l
theorem Cc(a b:O UInt8):(ByteArray.toList (S a)==ByteArray.toList (S b))=(a==b):=by rw[Cb,Cb]
theorem Gt(ns:O Int):B6 ns=S (ns.map λn=>UInt8.ofNat n.toNat):=by
 have h:∀ (ns:O Int) (r:O UInt8),ns.foldl (λr n=>r.push (UInt8.ofNat n.toNat)) (S r)=S (r++ns.map λn=>UInt8.ofNat n.toNat):=by
  intro ns
  induction ns with
  |nil=>intro r;simp
  |cons n ns a=>
   intro r;have e:(S r).push (UInt8.ofNat n.toNat)=S (r++ [UInt8.ofNat n.toNat]):=by
    apply ByteArray.ext;simp[S,ByteArray.push]
   simp only[List.foldl_cons,e,a,iX,cU,o0,lh]
 exact h ns []
theorem add_add(A:ax)(n m:Nat):(A.add n).add m=A.add (n+m):=by
 unfold Addr.add;by_cases h1:n=0
 .subst h1;simp
 .by_cases a:m=0
  .subst a;simp
  .rw[if_neg h1,if_neg a,if_neg I]
   simp[Nat.add_assoc]
section
variable {w w':J}{b m i:Nat}{T:TypeId}{f:Nat->Int}
theorem aa.eF{w:J}{i:Nat}(h:aa (λq=>q=b) w0 w)(v:Y):aa (λq=>q=b) w0 (w.setCell ⟨b,i,none⟩ v):=aa.set h (λ_=>rfl) v
theorem aa.kT{w:J}{i:Nat}(h:aa (λq=>q=b) w0 w)(vs:O Y)(j:Nat):aa (λq=>q=b) w0 (aU.setCells w ⟨b,i,none⟩ j vs):=aa.setCells (W:=λq=>q=b) (A:=⟨b,i,none⟩) (λ_=>rfl) vs j h
end
theorem po{o:Nat}{z l m:Nat}(h:m≠l):bj (some (Addr.mk b o none)) z l m=some ⟨b,o+l*z,none⟩:=by
 simp[bj,h,aw]
theorem Ext.trans{a b c:J}(h1:Ext a b)(d:Ext b c):Ext a c:=aa.trans h1 d
theorem Ext.dH{w1 ah:J}{W:U1}(h1:Ext w0 w1)(a:aa W w1 ah)(h:∀k,W k->w0<=k):Ext w0 ah:=
 ⟨a.os.trans h1.os,a.tape.trans h1.tape,a.output.trans h1.output,fg h1.size a.size,λk b _=>by
  rw[a.block k (ga b h1.size) (λcz=>U4 (h k cz)),h1.block k b id]⟩
end aU
namespace aU
open Go
variable{w:J}{fn:Func}{args:O Y}
def qS(P:Program)(f:FuncId)(args:Array Y)(w:J)(K:U2):Prop:=
 jN P f/\CallsD P f args .returning w λe iI w'=>(∃v,e=.returned v)/\iI=.returning/\K w'
def yN(P:Program)(tk:TypeId->dX)(c:Code)(K:FuncId->Array Y->Array Y->Env->U2)(e:Env)(w:J):Prop:=
 match c with
 | .region _ ops false=>match ops.toList with
  | [a,b]=>match a.guard,b.guard,b.dst,b.op with
   |none,none,none,.defer call=>match call.callee,call.args.toList with
    | .value x,[]=>kq P tk a (λv w'=>match ev (dn a.dst v e) x with|some (.func (.func f) first cap)=>K f first cap (dn a.dst v e) w'|_=>False) e w
    |_,_=>False
   |_,_,_,_=>False
  |_=>False
 |_=>False
def s8(P:Program)(tk:TypeId->dX):aK->Code->(Exit->Env->U2)->(FuncId->Array Y->Array Y->Exit->Env->U2)->Env->U2
 | .seq .leaf B,.seq a b,_,Kd,e,w=>yN P tk a (λf first cap c w'=>D P tk B b (Kd f first cap) c w') e w
 | .seq A B,.seq a b,K,Kd,e,w=>D P tk A a (λx c w'=>match x with| .normal=>s8 P tk B b K Kd c w'|x=>K x c w') e w
 |_,_,_,_,_,_=>False
def Gu(P:Program)(tk:TypeId->dX)(a:O ResultVar)(R:U0)(f:FuncId)(first cap:Array Y)(x:Exit)(e:Env)(w:J):Prop:=
 match x with
 | .normal| .ret=>qS P f (first++cap) w λw'=>na P tk a e w' λvs=>R (qM vs) w'
 |_=>False
def yO(P:Program)(tk:TypeId->dX)(A:aK)(fn:Func)(args:O Y)(w:J)(R:U0):Prop:=
 match fn.body with
 |some c=>s8 P tk A c (BX P tk fn.results.toList R) (Gu P tk fn.results.toList R) (pg 0 args) w
 |none=>False
variable {P:Program}{tk:TypeId->dX}
def s9(f:FuncId)(first cap:Array Y):Deferred:={target:=.fn (.func f) cap,args:=first++ #[]}
theorem Gv{c:Code}{K:FuncId->Array Y->Array Y->Env->U2}{e:Env}{a:Act}(ak:dy e a)(p:∀d∈writes c,d<a.tmps.size)(h:yN P tk c K e w):
 c.wp P (λx a' w'=>x=.normal/\∃f first cap,a'.defers=s9 f first cap::a.defers/\a'.tmps.size=a.tmps.size/\∃m,dy m a'/\K f first cap m w') a w:=by
 unfold yN at h;split at h
 case h_2=>exact h.elim
 rename_i id ops;split at h
 case h_2=>exact h.elim
 rename_i b j n;split at h
 case h_2=>exact h.elim
 rename_i call q r t u;split at h
 case h_2=>exact h.elim
 rename_i x hc vc;refine wp_region_list ?_;rw[n];have w1:Region.wanted b (yielded ops a.tmps)=true:=by unfold Region.wanted;rw[q]
 simp only[wpList,w1,if_true];refine .inl ((uX ak h).wp ?_);intro v w' l;have y:Region.wanted j (yielded ops (a.put b.dst v).tmps)=true:=by unfold Region.wanted;rw[r]
 simp only[y,if_true];refine .inl ?_;split at l
 case h_2=>exact l.elim
 rename_i f first cap z;have o:dy (dn b.dst v e) (a.put b.dst v):=ak.put λk i=>p k (by simp[writes,n,b3,i]);have A:call.args= #[]:=by
  have:=congrArg List.toArray vc;simpa using this
 have B:(execOp (a.put b.dst v).eval j).run P w'=.ok (.defer (s9 f first cap)) w':=by
  have C:∀g:Operand->Y,Array.map g #[]= #[]:=λg=>by simp
  simp only[execOp,u,resolve,hc,A,o.ev z,C];rfl
 show j.upon P _ _ _ ((execOp (a.put b.dst v).eval j).run P w');rw[B,Oper.upon_defer,t];refine⟨trivial,f,first,cap,?_,?_,dn b.dst v e,?_,l⟩
 .have:=(en.put (a:=a) (d:=b.dst) (v:=v) (ds:=b3 [b]) (λk i=>by simp[b3,i])).defers
  show s9 f first cap::(a.put b.dst v).defers=_;rw[this]
 .exact(en.put (a:=a) (d:=b.dst) (v:=v) (ds:=b3 [b]) (λk i=>by simp[b3,i])).size
 .exact⟨λs v hs=>o.get s v hs⟩
theorem Gw(o:P.follows .mixedOrders=true):∀ (A:aK) (c:Code) (K:Exit->Env->U2) (Kd:FuncId->Array Y->Array Y->Exit->Env->U2) (e:Env) (a:Act) (w:J),dy e a->a.defers=[]->
 (∀d∈writes c,d<a.tmps.size)->s8 P tk A c K Kd e w->
 c.wp P (λx a' w'=>(a'.defers=[]/\∃j,dy j a'/\K x j w')\/∃f first cap,a'.defers=[s9 f first cap]/\∃j,dy j a'/\Kd f first cap x j w') a w:=by
 intro A
 induction A with
 |seq A B D q=>
  intro c K Kd e a w ak hd k h;unfold s8 at h;split at h
  case h_3=>exact h.elim
  .rename_i r x y m
   cases m;have hx:∀d,d∈writes x->d∈writes (.seq x y):=λd hd=>by simp[writes,hd]
   have n:∀d,d∈writes y->d∈writes (.seq x y):=λd hd=>by simp[writes,hd]
   refine wp_seq (ku (Gv ak (λd hd=>k d (hx d hd)) h) ?_);rintro ex a1 w1 ⟨rfl,f,first,cap,h1,s,b,g,t⟩;refine ku (vb o B y _ b a1 w1 g (λd hd=>by rw[s];exact k d (n d hd)) t) ?_;rintro ex a2 ah ⟨u,v,z,C⟩;exact .inr ⟨f,first,cap,by rw[u.defers,h1,hd],v,z,C⟩
  .rename_i E r x y _ m
   cases m;have hx:∀d,d∈writes x->d∈writes (.seq x y):=λd hd=>by simp[writes,hd]
   have n:∀d,d∈writes y->d∈writes (.seq x y):=λd hd=>by simp[writes,hd]
   refine wp_seq (ku (vb o A x _ _ a _ ak (λd hd=>k d (hx d hd)) h) ?_);rintro ex a1 w1 ⟨p,b,g,h1⟩;have i:a1.defers=[]:=by rw[p.defers,hd]
   cases ex with
   |normal=>exact q y _ _ b a1 w1 g i (λd hd=>by rw[p.size];exact k d (n d hd)) h1
   |exit id=>exact .inl ⟨i,b,g,h1⟩
   |goto l=>exact .inl ⟨i,b,g,h1⟩
   |ret=>exact .inl ⟨i,b,g,h1⟩
   |panic F=>exact .inl ⟨i,b,g,h1⟩
   |outgrown=>exact .inl ⟨i,b,g,h1⟩
 |_=>intro c K Kd e a w ak hd k h;unfold s8 at h;exact h.elim
theorem Cd(b:args.length<=fn.ntmps):dy (pg 0 args) {tmps:=args.toArray++Array.replicate (fn.ntmps-args.toArray.size) undef,defers:=[]}:=by
 constructor;intro s v hs;obtain⟨_,a⟩:=yK hs;simp only[ql]at a;have aB:s<args.length:=(jK.1 a).1;simp[Array.getElem?_append,aB];rw[dB aB]at a;exact Option.some.inj a
theorem Gx{f:FuncId}{A:aK}{K:U2}(n:P.follows .mixedOrders=true)(hc:jN P f)
 (hf:P.funcs[f]? =some fn) (b:ph fn args.length=true) (h:qN P tk A fn args w λ_ w'=>K w'):qS P f args.toArray w K:=by
 refine⟨hc,?_⟩;unfold qN at h;unfold ph at b
 cases g:fn.body with
 |none=>rw[g]at h;exact h.elim
 |some c=>
  rw[g]at h b;simp only[dM]at h b;obtain⟨o,p⟩:=b;have q:=nM p;have r:(args.toArray++Array.replicate (fn.ntmps-args.toArray.size) undef).size=fn.ntmps:=by simp;omega
  refine(callsD_of_wp (R:=λe w'=>(∃v,e=.returned v)/\K w') hf g ?_).mono λe iI w' ⟨h1,k,s⟩=>⟨k,h1,s⟩;refine ku (vb n A c _ _ _ w (Cd q) (λd hd=>?_) h) ?_
  .have h1:=kM.1 o d hd
   have k:=nM h1;show d<(args.toArray++Array.replicate (fn.ntmps-args.toArray.size) undef).size;rw[r];omega
  .rintro x a' w' ⟨t,u,m,a⟩
   have hd:a'.defers=[]:=t.defers
   cases x with
   |normal=>
    obtain⟨vs,i,j⟩:=nc m a;exact⟨hd,_,pj i,⟨_,rfl⟩,j⟩
   |ret=>
    obtain⟨vs,i,j⟩:=nc m a;exact⟨hd,_,pj i,⟨_,rfl⟩,j⟩
   |exit id=>exact a.elim
   |goto l=>exact a.elim
   |panic y=>exact a.elim
   |outgrown=>exact a.elim
theorem Gy{f:FuncId}{A:aK}{R:U0}(o:P.follows .mixedOrders=true)
 (hf:P.funcs[f]? =some fn) (m:ph fn args.length=true) (h:yO P tk A fn args w R):
 Calls P f args.toArray w λe w'=>∃v,e=.returned v/\R v w':=by
 unfold yO at h;unfold ph at m
 cases n:fn.body with
 |none=>rw[n]at h;exact h.elim
 |some c=>
  rw[n]at h m;simp only[dM]at h m;obtain⟨p,q⟩:=m;have r:=nM q;have s:(args.toArray++Array.replicate (fn.ntmps-args.toArray.size) undef).size=fn.ntmps:=by simp;omega
  refine calls_of_wp_defers hf n ?_;refine ku (Gw o A c _ _ _ _ w (Cd r) rfl (λd hd=>?_) h) ?_
  .have h1:=kM.1 p d hd
   have y:=nM h1;show d<(args.toArray++Array.replicate (fn.ntmps-args.toArray.size) undef).size;rw[s];omega
  .have key:∀ {a':Act}{w':J}{i:Env}{g:FuncId}{first cap:Array Y},a'.defers=[s9 g first cap]->dy i a'->(qS P g (first++cap) w' λw'=>na P tk fn.results.toList i w' λvs=>R (qM vs) w')->
    Leaves P fn a'.tmps (λe w'=>∃v,e=.returned v/\R v w') a'.defers .returning w':=by
    intro a' w' i g first cap hd b ⟨hc,a⟩;rw[hd];refine leaves_cons (f:=g) (args:=first++cap) U9 (by simp[invoke,Br hc]) (a.mono ?_);rintro _ _ ah ⟨⟨v,rfl⟩,rfl,t⟩;obtain⟨vs,j,k⟩:=nc b t;exact⟨_,pj j,_,rfl,k⟩
   rintro x a' w' (⟨hd,i,b,a⟩|⟨g,first,cap,hd,i,b,a⟩)
   .cases x with
    |normal=>
     obtain⟨vs,j,k⟩:=nc b a;show Leaves _ _ _ _ a'.defers _ _;rw[hd];exact⟨_,pj j,_,rfl,k⟩
    |ret=>
     obtain⟨vs,j,k⟩:=nc b a;show Leaves _ _ _ _ a'.defers _ _;rw[hd];exact⟨_,pj j,_,rfl,k⟩
    |exit id=>exact a.elim
    |goto l=>exact a.elim
    |panic u=>exact a.elim
    |outgrown=>exact a.elim
   .cases x with
    |normal=>exact key hd b a
    |ret=>exact key hd b a
    |exit id=>exact a.elim
    |goto l=>exact a.elim
    |panic u=>exact a.elim
    |outgrown=>exact a.elim
end aU
namespace aU
open Go Go.RowKit
section
variable {α:Type}{P:Program}{w:J}{iJ fq T:TypeId}{enc:α->Y}
def dR(enc:α->Y)(x:α×Y×Nat):MapEntry:=⟨enc x.1,x.2.1,x.2.2⟩
def l0(x:α×Y×Nat):α×Y:=(x.1,x.2.1)
def nf[DecidableEq α](k:α):O (α×Y×Nat)->Nat->an (Nat×Y)
 | [],_=>none
 |x::L,i=>if k=x.1 then some (i,x.2.1) else nf k L (i+1)
theorem Ce{β:Type}(f:β->β)(x:β)(b8:O β):∀bC:O β,(bC++x::b8).modify bC.length f=bC++f x::b8
 | []=>rfl
 |y::bC=>by
  show y::((bC++x::b8).modify bC.length f)=_
  rw[Ce f x b8 bC];rfl
structure n_[DecidableEq α](P:Program)(iJ:TypeId)(enc:α->Y):Prop where
 find:∀ (L:O (α×Y×Nat)) (k:α) (w:J),(Instr.findKey iJ (enc k) (L.map (dR enc))).run P w=.ok (nf k L 0) w
 check:∀ (b:ag) (k:α) (w:J),(Instr.checkKey b 10000 iJ (enc k)).run P w=.ok () w
 bits:∀k,Instr.sameBits 10000 (enc k) (enc k)=true
theorem yP[DecidableEq α]{k:α}:∀ {L:O (α×Y×Nat)}{i:Nat},(∀x∈L,x.1≠k)->nf k L i=none
 | [],_,_=>rfl
 |x::L,i,h=>by
  rw[nf,if_neg (λe=>h x U9 e.symm)]
  exact yP λy a=>h y (by simp[a])
theorem yQ[DecidableEq α]{k:α}{v:Y}{n:Nat}{b8:O (α×Y×Nat)}:∀ {bC:O (α×Y×Nat)}{i:Nat},(∀x∈bC,x.1≠k)->nf k (bC++(k,v,n)::b8) i=some (i+bC.length,v)
 | [],i,_=>by simp[nf]
 |x::L,i,h=>by
  rw[o0,nf,if_neg (λe=>h x U9 e.symm),yQ λy a=>h y (by simp[a])]
  simp;omega
theorem n_.int{k:IntKind}(hu:P.underlying iJ=some (.int k)):n_ P iJ (λn:Int=>Value.int k n) where
 find L n w:=by
  have h:∀ (L:O (Int×Y×Nat)) (i:Nat),Instr.findNow (.int k) (.int k n) (L.map (dR λn:Int=>Value.int k n)) i=some (nf n L i):=by
   intro L
   induction L with
   |nil=>intro i;rfl
   |cons x L a=>
    intro i;simp only[iX,Instr.findNow,dR,Instr.sameNow,if_true,nf];by_cases hx:n=x.1
    .subst hx;simp
    .rw[if_neg hx,show(n==x.1)=false by simpa using hx]
     exact a (i+1)
  simp[Instr.findKey,dh hu,h]
 check b n w:=by
  show(Instr.checkKey b (9999+1) iJ (.int k n)).run P w=_;unfold Instr.checkKey;simp only[Sem.run_bind,dh hu,Result.andThen];rfl
 bits n:=by
  show(k==k&&n==n)=true;simp
def dd(w:J)(r:Nat)(enc:α->Y)(M:O (α×Y)):Prop:=
 ∃ (L:O (α×Y×Nat)) (a:Nat),w.heap[r]? =some (.map (L.map (dR enc)).toArray a)/\(L.map l0).Perm M/\(L.map (·.1)).Nodup/\(L.map (·.2.2)).Nodup/\∀x∈L,x.2.2<a
def Gz(w:J)(r:Nat)(enc:α->Y)(M:O (α×Y))(k:α)(v:Y)(st:Int):Prop:=
 ∃ (bC b8:O (α×Y×Nat)) (n a:Nat),w.heap[r]? =some (.map ((bC++(k,v,n)::b8).map (dR enc)).toArray a)/\((bC++b8).map l0).Perm M/\((bC++(k,v,n)::b8).map (·.1)).Nodup/\((bC++(k,v,n)::b8).map (·.2.2)).Nodup/\(∀x∈bC++(k,v,n)::b8,x.2.2<a)/\st=(n:Int)
variable {r:Nat}{M iK:O (α×Y)}{k:α}{v:Y}{st:Int}{w':J}
theorem dd.lt(h:dd w r enc M):r<w:=by
 obtain⟨L,a,h,_⟩:=h;exact(mi.1 h).1
theorem dd.ab{W:U1}(h:dd w r enc M)(hc:aa W w w')(a:¬W r):dd w' r enc M:=by
 have b:=h.lt;obtain⟨L,c,h,d⟩:=h;exact⟨L,c,by rw[hc.block r b a];exact h,d⟩
theorem dd.ext(h:dd w r enc M)(hc:Ext w w'):dd w' r enc M:=h.ab hc id
theorem dd.perm(h:dd w r enc M)(a:M.Perm iK):dd w r enc iK:=by
 obtain⟨L,b,h,h1,c⟩:=h;exact⟨L,b,h,h1.trans a,c⟩
theorem dd.split(h:dd w r enc ((k,v)::M)):∃n,Gz w r enc M k v (n:Nat):=by
 obtain⟨L,b,h,h1,c,d,e⟩:=h;have f:(k,v)∈L.map l0:=h1.mem_iff.2 U9;obtain⟨x,hx,a⟩:=df.1 f;obtain⟨bC,b8,rfl⟩:=List.append_of_mem hx;obtain⟨g,i,n⟩:=x;simp only[l0,Prod.mk.injEq]at a;obtain⟨rfl,rfl⟩:=a;refine⟨n,bC,b8,n,b,h,?_,c,d,e,rfl⟩;rw[eU,iX]at h1;have:=(nN.symm.trans h1);rw[eU];exact this.cons_inv
theorem dd.keys(h:dd w r enc M):(M.map (·.1)).Nodup:=by
 obtain⟨L,b,h,h1,a,c,d⟩:=h;have:=h1.map (·.1);rw[g2]at this;exact this.nodup_iff.1 a
theorem dd.GA(a:(k,v)∈M):∃iK,M.Perm ((k,v)::iK):=by
 obtain⟨A,B,rfl⟩:=List.append_of_mem a;exact⟨A++B,nN⟩
def jA(w:J)(r:Nat)(o:Obj):J:={w with heap:=w.heap.setIfInBounds r o}
theorem s_(w:J)(r:Nat)(o:Obj):aa (λq=>q=r) w (jA w r o):=
 ⟨rfl,rfl,rfl,by simp[jA],λk _ a=>by
  have:¬r=k:=λe=>a e.symm
  simp[jA,this]⟩
theorem vk(w:J)(r:Nat)(o:Obj):(jA w r o).heap.size=w:=by simp[jA]
theorem vl{w:J}{r:Nat}(h:r<w)(o:Obj):(jA w r o).heap[r]? =some o:=by simp[jA,h]
theorem ng{es:Array MapEntry}{a:Nat}(h:w.heap[r]? =some (.map es a)):(getObj r).run P w=.ok (.map es a) w:=by simp[getObj,Sem.run,h]
theorem yR{es:Array MapEntry}{a:Nat}(h:w.heap[r]? =some (.map es a))(o:Obj):(setObj r o).run P w=.ok () (jA w r o):=by simp[setObj,Sem.run,h,jA]
theorem Cf{bC b8:O (α×Y×Nat)}{x:α×Y×Nat}(h:((bC++x::b8).map (·.1)).Nodup):∀y∈bC,y.1≠x.1:=by
 intro y a e;rw[eU,iX,nO]at h;exact h.2.2 _ (List.mem_map_of_mem a) _ (mo ..) e
theorem Cg{L:O (α×Y×Nat)}(h1:(L.map l0).Perm M)(a:∀v,(k,v)∉M):∀x∈L,x.1≠k:=by
 intro x hx e;refine a x.2.1 (h1.mem_iff.1 (df.2 ⟨x,hx,?_⟩));simp[l0,e]
theorem dd.make(T:TypeId)(w:J):(Instr.makeMap T none).run P w=.ok (.map (some w)) (w.alloc (.map #[] 0))/\dd (w.alloc (.map #[] 0)) w enc ([]:O (α×Y)):=by
 refine⟨by simp[Instr.makeMap],[],0,?_,by simp,by simp,by simp,by simp⟩;show(w.heap.push (.map #[] 0))[w.heap.size]? =_;simp
theorem dd.qT[DecidableEq α](a:n_ P iJ enc)(b:P.underlying T=some (.map iJ fq))(h:dd w r enc M)(c:(k,v)∈M)(ok:ag):
 (Instr.lookup T (.map (some r)) (enc k) ok).run P w=.ok (if ok then .tuple #[v,.bool true] else v) w:=by
 obtain⟨iK,d⟩:=dd.GA c;obtain⟨n,bC,b8,e,g,h,h1,f,i,j,_⟩:=(h.perm d).split;have hf:=a.find (bC++(k,v,e)::b8) k w;rw[yQ (Cf f)]at hf;simp only[Instr.lookup,Sem.run_bind,dh b,Result.andThen,ng h,Sem.run_pure,a.check,hf]
theorem dd.ta[DecidableEq α](a:n_ P iJ enc)(b:P.underlying T=some (.map iJ fq)){i:TypeInfo}{z:Y}(hi:P.info? fq=some i)(c:i.zero=some z)(h:dd w r enc M)(d:∀v,(k,v)∉M)(ok:ag):
 (Instr.lookup T (.map (some r)) (enc k) ok).run P w=.ok (if ok then .tuple #[z,.bool false] else z) w:=by
 obtain⟨L,e,h,h1,f,g,j⟩:=h;have hf:=a.find L k w;rw[yP (Cg h1 d)]at hf;simp only[Instr.lookup,Sem.run_bind,dh b,Result.andThen,ng h,Sem.run_pure,a.check,hf,zeroValue,nV hi,c]
end
end aU
namespace aU
open Go Go.RowKit
variable{e T:TypeId}{sz n b o:Nat}{A:ax}{w:J}{c:Array Y}{vs:O Y}
theorem Ch(c:Array Y):∀ (vs:O Y) (i:Nat) (c:Array Y),(g4 c i vs).toList.drop (i+vs.length)=c.toList.drop (i+vs.length)
 | [],_,_=>rfl
 |v::vs,i,c=>by
  simp only[g4,eE]
  rw[show i+(vs.length+1)=i+1+vs.length from I,Ch c vs (i+1) (c.setIfInBounds i v)]
  rw[Array.toList_setIfInBounds,List.drop_set]
  rw[if_pos I]
theorem lv(vs:O Y)(c:Array Y)(i:Nat)(h:i+vs.length<=c.size):(g4 c i vs).toList=c.toList.take i++vs++c.toList.drop (i+vs.length):=by
 rw[←iW (i+vs.length) (g4 c i vs).toList,vf vs c i h,Ch c]
section
variable {P:Program}{w:J}
theorem vm{nh dN ty:TypeId}{d:TypeDesc}(hd:P.underlying nh=some (.slice e))(he:P.underlying e=some d)(g:P.cellsOf e=sz){dl pq:Nat}{x:U}(h:Nat.min x.len dl=n){xs:O Y}(hx:Src sz w ⟨x.a,n,x.cap⟩ xs)(b:c5 w A xs):
 Sem.run P (Builtin.copy_ #[nh,dN] ty #[.slice (some A) dl pq,.slice x.a x.len x.cap]) w=.ok (.int .i64 ((n:Nat):Int)) (setCells w A 0 xs):=by
 have f:=iH (w:=w) he;rw[g]at f;have hf:Sem.run P (Builtin.firstCells sz n (.slice x.a x.len x.cap)) w=.ok xs.toArray w:=by
  obtain⟨a,l,c⟩:=x
  cases a<;>exact qP (P:=P) hx
 have i:=qB (P:=P) (A:=A) xs 0 w (by simpa using b.1) b.2;simp only[Builtin.copy_,sr,nL,yg,Sem.run_bind,dh hd,Result.andThen,Builtin.lenOf,Sem.run_pure,h,f,hf,i];rfl
set_option maxRecDepth 4000 in
theorem GB{gw:Array TypeId}{c7 dN lu:TypeId}{i:TypeInfo}{k:IntKind}{z:Y}{s:U}{c:O Y} (h0:gw[0]? =some dN) (h1:gw[1]? =some lu)
 (hs:P.underlying dN=some (.slice e)) (hx:P.underlying lu=some (.int k)) (hi:P.info? e=some i) (hd:(P.underlying e).isSome=true) (h:i.zero=some z) (j:z.cells.size=sz) (p:P.cellsOf e=sz)
 (r:i.bytes≠0) (hold:Src sz w s c) (t:s.cap<s.len+n) (l:(2*(s.len+n)+1000)*i.bytes<=281474976710656):
 ∃ (b:Nat) (zs rest:O Y),s.len+n<=b/\b<=maxLen/\zs.length=n*sz/\rest.length=(b-(s.len+n))*sz/\
  Sem.run P (Builtin.append_ gw c7 #[.slice s.a s.len s.cap,.int .i64 ((n:Nat):Int)]) w=
   .ok (.slice (some ⟨w,0,none⟩) (s.len+n) b) (w.drew.alloc (.cells (c++zs++rest).toArray e)):=by
 obtain⟨d,hd⟩:=kp _ hd;have m:=iH (w:=w) hd;rw[p]at m;have u:=B4 t;have S:Builtin.nextslicecap (s.len+n) s.cap*i.bytes<=281474976710656:=fg (ml _ u) l;have T:s.len+n<=281474976710656:=by
  have:s.len+n<=(2*(s.len+n)+1000)*i.bytes:=by
   have:=Nat.mul_le_mul_left (2*(s.len+n)+1000) (Nat.one_le_iff_ne_zero.2 r);omega
  omega
 have v:n*i.bytes<=281474976710656:=fg (ml _ (by omega:n<=2*(s.len+n)+1000)) l
 let q:Question:=.appendCap (s.len+n) s.cap e
 let b:Nat:=q.cut (w.tape w.drawn q)
 have x:q.forced=false:=rfl;have A:s.len+n<=b:=by show s.len+n<=s.len+n+_;omega
 have B:b<=maxLen:=by
  show s.len+n+_%(2^63-(s.len+n))<=2^63-1;have:=gu (w.tape w.drawn q) (y:=2^63-(s.len+n)) I;omega
 have C:Src sz w.drew s c:=hold.ext (aa.drew (.refl _ _));have D:=qP (P:=P) C;have E:∀n (w':J),(askRoom n).run P w'=.ok () w':=λn w'=>by unfold askRoom;split<;>rfl
 have F:(choose q).run P w=.ok b w.drew:=by
  show Sem.run P (.choose q .pure) w=_;simp only[Sem.run,x,gr,if_false];rfl
 have f:=λw:J=>nV (w:=w) hi;refine⟨b,if n*sz=0 then [] else (Builtin.zeroCells z.cells n).toList,(Builtin.zeroCells z.cells (b-(s.len+n))).toList,A,B,?_,by simp[Builtin.zeroCells,j],?_⟩
 .split
  .rename_i h0;simp[h0]
  .simp[Builtin.zeroCells,j]
 have G:IntKind.i64.wrap ((n:Nat):Int)=(n:Int):=bl I I;have H:¬((n:Int)<0):=I
 have K:¬((n:Int)*(i.bytes:Int)>2^48):=by
  have:((n*i.bytes:Nat):Int)<=((281474976710656:Nat):Int):=Int.ofNat_le.2 v;rw[Int.natCast_mul]at this;have L:(2:Int)^48=((281474976710656:Nat):Int):=by decide+kernel
  rw[L];omega
 have M:¬(s.len+n<=s.cap):=I
 have N:¬((s.len+n:Nat):Int)>IntKind.i64.max:=by
  simp[IntKind.max,IntKind.signed,IntKind.bits];omega
 have Q:¬Builtin.nextslicecap (s.len+n) s.cap*i.bytes>2^48:=by
  have:(2:Nat)^48=281474976710656:=by decide+kernel
  omega
 have R:Sem.run P (choose (.appendCap (s.len+n) s.cap e)) w=.ok b w.drew:=F;unfold Builtin.append_;simp only[sr,nL,yg,h0,h1,Sem.run_bind,dh hs,dh hx,Result.andThen,m,Sem.run_pure,asInt,asIntOf,G,H,if_false,f,K,cS,M,N,false_and,Q,if_true,Bool.not_true,gr,R,E,D];by_cases o:n*sz=0
 .simp only[o,if_true,Sem.run_pure,zeroValue,f,h,Sem.run_bind,Result.andThen,newRow,newObj,Sem.run]
  have g:w.drew.heap.size=w:=rfl;rw[g]
  congr 1
  show w.drew.alloc _=w.drew.alloc _
  congr 2
  simp
 .simp only[o,if_false,Sem.run_pure,zeroValue,f,h,Sem.run_bind,Result.andThen,newRow,newObj,Sem.run]
  have g:w.drew.heap.size=w:=rfl;rw[g]
  congr 1
  show w.drew.alloc _=w.drew.alloc _
  congr 2
  simp
theorem Ci{o:TypeId}{i:TypeInfo}{z:Y}{c:Nat}(a:P.underlying T=some (.slice e))(hi:P.info? e=some i)(b:i.zero=some z)(d:z.cells.size=sz)(f:n≠0)
 (g:∀zs:O Y,zs=(Builtin.zeroCells z.cells n).toList->c5 w A zs):
 ∃zs:O Y,zs.length=n*sz/\Sem.run P (Builtin.clear_ #[T] o #[.slice (some A) n c]) w=.ok (.tuple #[]) (setCells w A 0 zs):=by
 refine⟨(Builtin.zeroCells z.cells n).toList,by simp[Builtin.zeroCells,d],?_⟩;have hs:=g _ rfl;have h:=qB (P:=P) (A:=A) _ 0 w (by simpa using hs.1) hs.2
 cases n with
 |zero=>exact absurd rfl f
 |succ n=>
  simp only[Builtin.clear_,sr,nL,Sem.run_bind,dh a,Result.andThen,zeroValue,nV hi,b,Sem.run_pure,h]
end
theorem vn(a:an ax)(z c:Nat):bj a z 0 c=a:=by
 unfold bj;split
 .rfl
 .cases a with
  |none=>rfl
  |some A=>simp[add_zero']
theorem bp.qU(h:bp w b c T){cap:Nat}(d:o+n*sz<=c.size):Src sz w ⟨some ⟨b,o,none⟩,n,cap⟩ ((c.toList.drop o).take (n*sz)):=by
 refine⟨by simp;omega,(λh=>by cases h),λa e=>?_⟩
 cases e;have:=qO h (n*sz) o 0 (by simpa using d);simpa using this
theorem bp.j9(h:bp w b c T)(vs:O Y):bp (setCells w ⟨b,o,none⟩ 0 vs) b (g4 c o vs) T:=by
 simpa using bp.vd vs o 0 h
theorem aL.mk'{cap:Nat}(a:bp w b c T)(d:vs.length=n*sz)(e:n<=cap)(hc:cap<=maxLen)(hs:c.size=cap*sz)(f:c.toList.take (n*sz)=vs):aL sz T w ⟨some ⟨b,0,Option.none⟩,n,cap⟩ vs:=
 ⟨d,e,hc,.inr ⟨b,c,rfl,a,hs,f⟩⟩
theorem Cj(A:ax)(a b:Nat):(A.add a).add b=A.add (a+b):=by
 unfold Addr.add;by_cases c:a=0
 .subst c;simp
 .by_cases d:b=0
  .subst d;simp
  .simp[c,d,Nat.add_assoc]
theorem tb:∀ {n i:Nat}{vs:O Y}{j:Nat}{v:Y},cv w A i n=some vs->vs[j]? =some v->w.cell? (A.add (i+j))=some v
 |0,_,vs,j,v,h,a=>by simp[cv]at h;subst h;simp at a
 |n+1,i,vs,j,v,h,a=>by
  simp only[cv]at h
  cases h1:w.cell? (A.add i) with
  |none=>simp[h1]at h
  |some u=>
   cases b:cv w A (i+1) n with
   |none=>simp[h1,b]at h
   |some us=>
    simp only[h1,b,Option.some.injEq]at h
    subst h
    cases j with
    |zero=>simp at a;subst a;exact h1
    |succ j=>
     have:=tb b (j:=j) (v:=v) (by simpa using a)
     rwa[show i+(j+1)=i+1+j from I]
theorem yS:∀ (n i:Nat) (vs:O Y),vs.length=n->(∀j v,vs[j]? =some v->w.cell? (A.add (i+j))=some v)->cv w A i n=some vs
 |0,i,vs,a,_=>by
  cases vs with
  |nil=>simp[cv]
  |cons _ _=>simp at a
 |n+1,i,vs,a,h=>by
  cases vs with
  |nil=>simp at a
  |cons v vs=>
   simp only[cv]
   rw[show w.cell? (A.add i)=some v from h 0 v rfl,yS n (i+1) vs (by simpa using a) (λj x hx=>by have:=h (j+1) x (by simpa using hx);rwa[show i+(j+1)=i+1+j from I]at this)]
theorem Ck{k m:Nat}(h:cv w A 0 n=some vs)(b:k+m<=n):cv w (A.add k) 0 m=some ((vs.drop k).take m):=by
 have c:=s4 h;refine yS m 0 _ (by simp;omega) λj v a=>?_;rw[Cj,show k+(0+j)=0+(k+j) from I];refine tb h ?_;rw[su]at a;split at a
 .rwa[sq]at a
 .cases a
theorem GC{a:Nat}(h:a+b<=4000000):IntKind.wrap .i64 (Int.fdiv (IntKind.wrap .u64 (IntKind.wrap .i64 ((a:Int)+(b:Int)))) (2^(min (Int.toNat 1) 64)))=(((a+b)/2:Nat):Int):=by
 rw[bl (n:=(a:Int)+b) I I,gl I I];have e:(2:Int)^(min (Int.toNat 1) 64)=2:=rfl;rw[e,yh _ I,bl I I];omega
section
variable {w:J}
theorem aL.GD{aq:TypeId}{s:U}{q:Nat}(h:aL sz T w s vs)(a:ar s q)(d:bp w q c aq):T=aq:=by
 obtain⟨A,ak,rfl⟩:=a;obtain⟨_,_,_,e⟩:=h;obtain⟨f,_⟩|⟨b,c',g,i,_⟩:=e
 .rw[f]at ak;cases ak
 .rw[g]at ak;cases ak
  exact(bp.inj i d).2
end
theorem GF{m i:Nat}{xs ys:O Y}(h1:cv w A i n=some xs)(b:cv w (A.add (i+n)) 0 m=some ys):cv w A i (n+m)=some (xs++ys):=by
 have c:=s4 h1;have d:=s4 b;refine yS (n+m) i _ (by rw[b6,c,d]) λj v a=>?_;rw[List.getElem?_append]at a;split at a
 .exact tb h1 a
 .rename_i e
  have:=tb b a;rw[Cj]at this;rwa[show i+n+(0+(j-xs.length))=i+j from I]at this
theorem n2.src{P:Program}{s:U}{α:Type}{c:α->O Y}(h:n2 P w e s)(m:P.cellsOf e=sz)(R:α->Prop)(o:∀fuel vs,hF P w fuel e vs->∃x:α,vs=c x/\R x):
 ∃l:O α,Src sz w s (l.map c).flatten/\l.length=s.len/\∀x∈l,R x:=by
 have j:=h.cell;rw[m]at j;have key:∀a,s.a=some a->∀n,n<=s.len->∃l:O α,cv w a 0 (n*sz)=some (l.map c).flatten/\l.length=n/\∀x∈l,R x:=by
  intro a d n
  induction n with
  |zero=>intro _;exact⟨[],by simp[cv],rfl,λr f=>by cases f⟩
  |succ n p=>
   intro v;obtain⟨l,h1,g,i⟩:=p I;obtain⟨vs,q,fuel,t⟩:=j a d n (U4 h.le);obtain⟨r,rfl,u⟩:=o fuel vs t;refine⟨l++ [r],?_,by simp[g],λx hx=>?_⟩
   .rw[Nat.succ_mul,GF h1 (by rw[cT];exact q)]
    simp
   .rcases cE.1 hx with hx|hx
    .exact i x hx
    .rw[dV.1 hx];exact u
 cases b:s.a with
 |none=>
  have h0:s.len=0:=U5 (h.nil b) h.le
  exact⟨[],⟨by simp[h0],λ_=>rfl,λa d=>(by rw[b]at d;cases d)⟩,h0.symm,λr f=>by cases f⟩
 |some a=>
  obtain⟨l,h1,g,i⟩:=key a b s.len (a_ _);exact⟨l,⟨s4 h1,λe=>(by rw[b]at e;cases e),λa' k=>by rw[b]at k;cases k;exact h1⟩,g,i⟩
theorem ni{P:Program}{fuel:Nat}{cs:O Y}{fs:Array Field}(h:hF P w fuel T cs)(a:P.underlying T=some (.struct fs))(i:Nat){t:Nat}(hf:(fs[i]?).map (λf=>(f.type,f.offset))=some (t,o))(b:P.cellsOf t=n):∃fuel,hF P w fuel t ((cs.drop o).take n):=by
 obtain⟨_,c⟩:=yL h a
 cases hg:fs[i]? with
 |none=>rw[hg]at hf;cases hf
 |some f=>
  rw[hg]at hf;simp only[mX,Option.some.injEq,Prod.mk.injEq]at hf;obtain⟨rfl,rfl⟩:=hf;have:=c f (Array.mem_of_getElem? hg);rwa[b]at this
def fieldsOf(P:Program)(T:TypeId):Array Field:=match P.underlying T with
 |some (.struct fs)=>fs
 |_=> #[]
end aU
