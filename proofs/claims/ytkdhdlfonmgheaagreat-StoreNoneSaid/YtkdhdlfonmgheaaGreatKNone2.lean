/- What a Go program of the model must show, as text that can be read; sound against the kit. -/
import Derived.Carry
import Derived.Defers
import Derived.Laws.StructEq
import Derived.Lib.Overlaps
import Derived.WideKeyRuns
import Derived.Test.YtkdhdlfonmgheaaGreatKNone1
namespace aX
open Go Go.RowKit
def nN(h3:TypeId->an (O c6))(P:Program):O Field->Nat->an (O c6)
 | [],_=>some []
 |f::fs,o=>if f.name= "_" \/f.offset≠o then none else
  match h3 f.type with
  |some ls=>if P.cellsOf f.type=ls.length then (nN h3 P fs (o+ls.length)).map (ls++ ·) else none
  |none=>none
def rk(ls:O c6):Nat->O c6
 |0=> []
 |n+1=>ls++rk ls n
def h3(P:Program):Nat->TypeId->an (O c6)
 |0,_=>none
 |d+1,T=>match P.underlying T with
  |some (.int k)=>some [.int k]
  |some .bool=>some [.bool]
  |some .string=>some [.str]
  |some (.struct fs)=>if P.stoodInHeld T then none else nN (h3 P d) P fs.toList 0
  |some (.array n e)=>match h3 P d e with
   |some ls=>if P.cellsOf e=ls.length then some (rk ls n) else none
   |none=>none
  |_=>none
def rl:c6->aa->Prop
 | .int k,v=>∃n:Int,v=.int k n
 | .bool,v=>∃b:ag,v=.bool b
 | .str,v=>∃s:ByteArray,v=.string s
 |_,_=>False
def fw:O c6->O aa->Prop
 | [],vs=>vs=[]
 |l::ls,vs=>∃v us,vs=v::us/\rl l v/\fw ls us
theorem px:∀ {ls:O c6}{vs:O aa},fw ls vs->vs.length=ls.length
 | [],_,h=>by cases h;rfl
 |_::_,_,h=>by
  obtain⟨v,us,rfl,_,h⟩:=h
  simp[px h]
theorem py:∀ {ls ms:O c6}{vs:O aa},fw (ls++ms) vs->fw ls (vs.take ls.length)/\fw ms (vs.drop ls.length)
 | [],_,_,h=>⟨rfl,h⟩
 |l::ls,ms,vs,h=>by
  obtain⟨v,us,rfl,h1,a⟩:=h
  obtain⟨b,c⟩:=py a
  exact⟨⟨v,_,rfl,h1,b⟩,c⟩
def lu:aa->aa->ag
 | .int _ a,.int _ b=>a==b
 | .bool a,.bool b=>a==b
 | .string a,.string b=>a.toList==b.toList
 |_,_=>false
def e7:O aa->O aa->ag
 | [],_=>true
 |a::as,b::c=>lu a b&&e7 as c
 |_::_,[]=>false
theorem BH{l:c6}{a b:aa}(c:rl l a)(d:rl l b):lu a b=true↔a=b:=by
 cases l<;>simp only[rl]at c d<;>try exact c.elim
 .obtain⟨n,rfl⟩:=c;obtain⟨m,rfl⟩:=d;simp[lu]
 .obtain⟨n,rfl⟩:=c;obtain⟨m,rfl⟩:=d;simp[lu]
 .obtain⟨n,rfl⟩:=c;obtain⟨m,rfl⟩:=d
  simp only[lu,jc,Value.string.injEq];rw[ByteArray.toList_eq,ByteArray.toList_eq];obtain⟨⟨x⟩⟩:=n;obtain⟨⟨y⟩⟩:=m;simp
theorem x4:∀ {ls:O c6}{as c:O aa},fw ls as->fw ls c->(e7 as c=true↔as=c)
 | [],_,_,h1,d=>by cases h1;cases d;simp[e7]
 |l::ls,_,_,h1,d=>by
  obtain⟨a,as,rfl,e,f⟩:=h1
  obtain⟨b,c,rfl,g,h⟩:=d
  simp[e7,BH e g,x4 f h]
theorem uL:∀ {as c cs ds:O aa},as.length=c.length->e7 (as++cs) (c++ds)=(e7 as c&&e7 cs ds)
 | [],[],_,_,_=>by simp[e7]
 |a::as,b::c,cs,ds,h=>by
  simp only[oT,e7]
  rw[uL (by simpa using h),Bool.and_assoc]
 | [],_::_,_,_,h=>by simp at h
 |_::_,[],_,_,h=>by simp at h
def jH(P:Program)(T:TypeId)(cs:O aa):aa:=
 match P.underlying T with
 |some d=>if gw d then .agg cs.toArray else cs.headD undef
 |none=>undef
section
variable {P:Program}
theorem mm{T:TypeId}{d:TypeDesc}{cs:O aa}(h:P.underlying T=some d)(a:gw d=true):jH P T cs=.agg cs.toArray:=by
 simp[jH,h,a]
theorem mn{T:TypeId}{d:TypeDesc}{v:aa}(h:P.underlying T=some d)(a:gw d=false):jH P T [v]=v:=by
 simp[jH,h,a]
theorem rm{T:TypeId}{cs us:O aa}{off:Nat}{d:TypeDesc}(a:P.underlying T=some d)(b:P.cellsOf T=us.length)(c:gw d=false->us.length=1)
 (h:(cs.drop off).take us.length=us) (w:J):(part T cs.toArray off).run P w=.ok (jH P T us) w:=by
 cases hd:gw d with
 |true=>
  rw[mm a hd];have e:cs.toArray.extract off (off+us.length)=us.toArray:=by
   simp[h]
  simp[part,ny a,hd,gx a,b,h]
 |false=>
  obtain⟨v,rfl⟩:=List.length_eq_one_iff.1 (c hd);rw[mn a hd];have f:cs[off]? =some v:=by
   have:((cs.drop off).take 1)[0]? =some v:=by
    have g:List.take 1 (List.drop off cs)=[v]:=h;rw[g];rfl
   rw[List.getElem?_take_of_lt I,qy]at this;simpa using this
  simp[part,ny a,hd,f]
theorem flat_agg{d:Nat}{T:TypeId}{ls:O c6}(h:h3 P d T=some ls):∃u,P.underlying T=some u/\(gw u=false->ls.length=1):=by
 cases d with
 |zero=>cases h
 |succ d=>
  simp only[h3]at h
  cases hu:P.underlying T with
  |none=>simp[hu]at h
  |some u=>
   refine⟨u,rfl,λa=>?_⟩;rw[hu]at h
   cases u<;>simp only[gw,reduceCtorEq]at a h<;>first|(cases h;rfl)|cases h
theorem x5{d D:Nat}(i:∀ {T:TypeId}{ls:O c6}{xs ys:O aa},h3 P d T=some ls->fw ls xs->fw ls ys->∀w,(Op.equalIn (D+d) T (jH P T xs) (jH P T ys)).run P w=.ok (e7 xs ys) w)
 {xs ys:O aa}:∀ {fs:O Field}{o:Nat}{ls:O c6},nN (h3 P d) P fs o=some ls->fw ls (xs.drop o)->fw ls (ys.drop o)->
  ∀w,(Op.eqFields (D+d) xs.toArray ys.toArray fs).run P w=.ok (e7 (xs.drop o) (ys.drop o)) w
 | [],o,ls,h,hx,j,w=>by
  simp only[nN,Option.some.injEq]at h
  subst h
  have hx:xs.drop o=[]:=hx
  rw[hx]
  rfl
 |f::fs,o,ls,h,hx,j,w=>by
  simp only[nN]at h
  split at h
  .cases h
  .rename_i hf
   have s:¬f.name= "_" :=λe=>hf (.inl e)
   have t:f.offset=o:=by
    by_cases e:f.offset=o
    .exact e
    .exact absurd (.inr e) hf
   subst t;split at h
   .rename_i ms k
    split at h
    .rename_i hc
     cases c:nN (h3 P d) P fs (f.offset+ms.length) with
     |none=>simp[c]at h
     |some x=>
      simp only[c,kr,Option.some.injEq]at h;subst h;obtain⟨l,m⟩:=py hx;obtain⟨n,p⟩:=py j;rw[ld]at m p;obtain⟨u,hu,q⟩:=flat_agg k;have a:=px l;have b:=px n;have bo:=rm (cs:=xs) (off:=f.offset) (us:=(xs.drop f.offset).take ms.length) hu (by rw[hc,a]) (λg=>by rw[a];exact q g) (by rw[a]);have bj:=rm (cs:=ys) (off:=f.offset) (us:=(ys.drop f.offset).take ms.length) hu (by rw[hc,b]) (λg=>by rw[b];exact q g) (by rw[b]);have e:=λw=>i k l n w;have r:=x5 i (fs:=fs) c m p;have v:e7 (xs.drop f.offset) (ys.drop f.offset)=(e7 ((xs.drop f.offset).take ms.length) ((ys.drop f.offset).take ms.length)&&e7 (xs.drop (f.offset+ms.length)) (ys.drop (f.offset+ms.length))):=by
       rw[←uL (by rw[a,b])];simp only[←ld,gJ]
      simp only[Op.eqFields,ne_eq,s,not_false_eq_true,if_true,Sem.run_bind,bo,bj,e,Result.andThen];rw[v]
      cases e7 ((xs.drop f.offset).take ms.length) ((ys.drop f.offset).take ms.length)
      .simp
      .simpa using r w
    .cases h
   .cases h
theorem x6{d D:Nat}(j:∀ {T:TypeId}{ls:O c6}{xs ys:O aa},h3 P d T=some ls->fw ls xs->fw ls ys->∀w,(Op.equalIn (D+d) T (jH P T xs) (jH P T ys)).run P w=.ok (e7 xs ys) w)
 {e:TypeId}{ls:O c6}{u:TypeDesc} (hu:P.underlying e=some u) (g:gw u=false->ls.length=1) (hl:h3 P d e=some ls) (hc:P.cellsOf e=ls.length) {xs ys:O aa}:
 ∀ (n i:Nat),fw (rk ls n) (xs.drop (i*ls.length))->fw (rk ls n) (ys.drop (i*ls.length))->∀w,
  Sem.run P (do
   let r ←forIn (List.range' i n) ((none:an ag),()) λi _=>do
    let a ←part e xs.toArray (i*ls.length)
    let b ←part e ys.toArray (i*ls.length)
    let t ←Op.equalIn (D+d) e a b
    if (!t)=true then pure (ForInStep.done (some false,())) else pure (ForInStep.yield (none,()))
   match r.1 with
   |some b=>pure b
   |none=>pure true) w=.ok (e7 (xs.drop (i*ls.length)) (ys.drop (i*ls.length))) w
 |0,i,hx,k,w=>by
  have hx:xs.drop (i*ls.length)=[]:=hx
  rw[hx]
  simp[e7]
 |n+1,i,hx,k,w=>by
  obtain⟨l,m⟩:=py hx
  obtain⟨o,p⟩:=py k
  rw[ld,show i*ls.length+ls.length=(i+1)*ls.length by rw[jB,Nat.one_mul]]at m p
  have c:=px l
  have f:=px o
  have bo:=rm (cs:=xs) (off:=i*ls.length) (us:=(xs.drop (i*ls.length)).take ls.length) hu (by rw[hc,c]) (λh=>by rw[c];exact g h) (by rw[c])
  have bj:=rm (cs:=ys) (off:=i*ls.length) (us:=(ys.drop (i*ls.length)).take ls.length) hu (by rw[hc,f]) (λh=>by rw[f];exact g h) (by rw[f])
  have q:=λw=>j hl l o w
  have r:=x6 j hu g hl hc n (i+1) m p w
  have s:e7 (xs.drop (i*ls.length)) (ys.drop (i*ls.length))=(e7 ((xs.drop (i*ls.length)).take ls.length) ((ys.drop (i*ls.length)).take ls.length)&&e7 (xs.drop ((i+1)*ls.length)) (ys.drop ((i+1)*ls.length))):=by
   rw[←uL (by rw[c,f]),show(i+1)*ls.length=i*ls.length+ls.length by rw[jB,Nat.one_mul]];simp only[←ld,gJ]
  rw[s];simp only[List.range'_succ,List.forIn_cons,Sem.run_bind,bo,bj,q,Result.andThen]
  cases e7 ((xs.drop (i*ls.length)).take ls.length) ((ys.drop (i*ls.length)).take ls.length)
  .simp
  .simpa[Result.andThen] using r
theorem x7(D:Nat):∀ (d:Nat) {T:TypeId}{ls:O c6}{xs ys:O aa},h3 P d T=some ls->fw ls xs->fw ls ys->∀w,(Op.equalIn (D+d) T (jH P T xs) (jH P T ys)).run P w=.ok (e7 xs ys) w
 |0,_,_,_,_,h,_,_,_=>by cases h
 |d+1,T,ls,xs,ys,h,hx,b,w=>by
  have c:= @x7 D d
  simp only[h3]at h
  cases hu:P.underlying T with
  |none=>simp[hu]at h
  |some u=>
   rw[hu]at h
   cases u with
   |int k=>
    simp only[Option.some.injEq]at h;subst h
    obtain⟨x,_,rfl,⟨n,rfl⟩,rfl⟩:=hx
    obtain⟨y,_,rfl,⟨m,rfl⟩,rfl⟩:=b
    rw[mn hu rfl,mn hu rfl]
    show(Op.equalIn (D+d+1) T _ _).run P w=_
    simp[Op.equalIn,cP hu,e7,lu]
   |bool=>
    simp only[Option.some.injEq]at h;subst h
    obtain⟨x,_,rfl,⟨n,rfl⟩,rfl⟩:=hx
    obtain⟨y,_,rfl,⟨m,rfl⟩,rfl⟩:=b
    rw[mn hu rfl,mn hu rfl]
    show(Op.equalIn (D+d+1) T _ _).run P w=_
    simp[Op.equalIn,cP hu,e7,lu]
   |string=>
    simp only[Option.some.injEq]at h;subst h
    obtain⟨x,_,rfl,⟨n,rfl⟩,rfl⟩:=hx
    obtain⟨y,_,rfl,⟨m,rfl⟩,rfl⟩:=b
    rw[mn hu rfl,mn hu rfl]
    show(Op.equalIn (D+d+1) T _ _).run P w=_
    simp[Op.equalIn,cP hu,e7,lu,beq_toListBytes]
   |struct fs=>
    simp only at h
    split at h
    .cases h
    .rename_i j
     rw[mm hu rfl,mm hu rfl]
     have f:P.fieldsOf T=fs:=by simp[Program.fieldsOf,hu]
     show(Op.equalIn (D+d+1) T _ _).run P w=_
     rw[run_equalIn_struct w (D+d) T xs.toArray ys.toArray (by rw[f];exact hu) (by simpa using j),f]
     have:=x5 (D:=D) c (xs:=xs) (ys:=ys) h (by simpa using hx) (by simpa using b) w
     simpa using this
   |array n e=>
    simp only at h
    split at h
    .rename_i ms g
     split at h
     .rename_i hc
      simp only[Option.some.injEq]at h;subst h
      obtain⟨u,i,l⟩:=flat_agg g
      rw[mm hu rfl,mm hu rfl]
      show(Op.equalIn (D+d+1) T _ _).run P w=_
      have:=x6 (D:=D) c i l g hc (xs:=xs) (ys:=ys) n 0 (by simpa using hx) (by simpa using b) w
      rw[Nat.zero_mul,kt,kt]at this
      rw[←this]
      simp only[Op.equalIn,Sem.run_bind,cP hu,gx i,Result.andThen,hc,Std.Legacy.Range.forIn_eq_forIn_range',Std.Legacy.Range.size]
      simp
      congr 1
      funext a w
      obtain⟨o,_⟩:=a
      cases o<;>rfl
     .cases h
    .cases h
   |_=>cases h
theorem l8.flat{T:TypeId}{d:TypeDesc}{ls:O c6}{xs ys:O aa}(a:P.underlying T=some d)(b:gw d=true)(hf:h3 P 8 T=some ls)(hg:P.eqGuardType P.depth T=false)
 (hx:fw ls xs) (c:fw ls ys):l8 P T xs.toArray ys.toArray (e7 xs ys):=by
 refine⟨hg,λw=>?_⟩;have:=x7 (P:=P) 9992 8 hf hx c w;rwa[mm a b,mm a b]at this
end
end aX
namespace aX
open Go Go.RowKit
theorem uM{n:Int}(h0:0<=n)(h1:n<=255):IntKind.u8.wrap n=n:=by
 simp only[IntKind.wrap,IntKind.signed,IntKind.bits];simp;omega
theorem uN{n:Int}(h0:0<=n)(h1:n<=4294967295):IntKind.u32.wrap n=n:=by
 simp only[IntKind.wrap,IntKind.signed,IntKind.bits];simp;omega
theorem gz{n:Int}(h0:0<=n)(h1:n<=18446744073709551615):IntKind.u64.wrap n=n:=by
 simp only[IntKind.wrap,IntKind.signed,IntKind.bits];simp;omega
theorem BI(n:Int):IntKind.u8.wrap n=n%256:=by
 simp only[IntKind.wrap,IntKind.signed,IntKind.bits];simp
def S(l:O UInt8):ByteArray:=⟨l.toArray⟩
theorem x8(l:O UInt8):(S l).toList=l:=ByteArray.toList_mk l
theorem x9(a b:O UInt8):(ByteArray.toList (S a)==ByteArray.toList (S b))=(a==b):=by rw[x8,x8]
theorem BJ(ns:O Int):x1 ns=S (ns.map λn=>UInt8.ofNat n.toNat):=by
 have h:∀ (ns:O Int) (r:O UInt8),ns.foldl (λr n=>r.push (UInt8.ofNat n.toNat)) (S r)=S (r++ns.map λn=>UInt8.ofNat n.toNat):=by
  intro ns
  induction ns with
  |nil=>intro r;simp
  |cons n ns a=>
   intro r;have e:(S r).push (UInt8.ofNat n.toNat)=S (r++ [UInt8.ofNat n.toNat]):=by
    apply ByteArray.ext;simp[S,ByteArray.push]
   simp only[List.foldl_cons,e,a,iM,cW,oT,j1]
 exact h ns []
theorem add_add(A:ab)(n m:Nat):(A.add n).add m=A.add (n+m):=by
 unfold Addr.add;by_cases h1:n=0
 .subst h1;simp
 .by_cases a:m=0
  .subst a;simp
  .rw[if_neg h1,if_neg a,if_neg I]
   simp[Nat.add_assoc]
section
variable {w w':J}{b m i:Nat}{T:TypeId}{f:Nat->Int}
theorem ae.fZ{w0 w:J}{b i:Nat}(h:ae (λq=>q=b) w0 w)(v:aa):ae (λq=>q=b) w0 (w.setCell ⟨b,i,none⟩ v):=ae.set h (λ_=>rfl) v
theorem ae.kJ{w0 w:J}{b i:Nat}(h:ae (λq=>q=b) w0 w)(vs:O aa)(j:Nat):ae (λq=>q=b) w0 (aX.setCells w ⟨b,i,none⟩ j vs):=ae.setCells (W:=λq=>q=b) (A:=⟨b,i,none⟩) (λ_=>rfl) vs j h
end
theorem x_{b o:Nat}{z l m:Nat}(h:m≠l):aL (some (Addr.mk b o none)) z l m=some ⟨b,o+l*z,none⟩:=by
 simp[aL,h,ax]
theorem Ext.trans{a b c:J}(h1:Ext a b)(d:Ext b c):Ext a c:=ae.trans h1 d
theorem Ext.dj{w0 w1 ah:J}{W:Nat->Prop}(h1:Ext w0 w1)(a:ae W w1 ah)(h:∀k,W k->w0.heap.size<=k):Ext w0 ah:=
 ⟨a.os.trans h1.os,a.tape.trans h1.tape,a.output.trans h1.output,eC h1.size a.size,λk b _=>by
  rw[a.block k (fc b h1.size) (λcd=>by have:=h k cd;omega),h1.block k b id]⟩
end aX
namespace aX
open Go
def nO(P:Program)(f:FuncId)(args:Array aa)(w:J)(K:J->Prop):Prop:=
 hY P f/\CallsD P f args .returning w λe a w'=>(∃v,e=.returned v)/\a=.returning/\K w'
def uO(P:Program)(tk:TypeId->dn)(c:Code)(K:FuncId->Array aa->Array aa->Env->J->Prop)(e:Env)(w:J):Prop:=
 match c with
 | .region _ ops false=>match ops.toList with
  | [a,b]=>match a.guard,b.guard,b.dst,b.op with
   |none,none,none,.defer call=>match call.callee,call.args.toList with
    | .value x,[]=>iu P tk a (λv w'=>match ev (c0 a.dst v e) x with|some (.func (.func f) first cap)=>K f first cap (c0 a.dst v e) w'|_=>False) e w
    |_,_=>False
   |_,_,_,_=>False
  |_=>False
 |_=>False
def pz(P:Program)(tk:TypeId->dn):aP->Code->(Exit->Env->J->Prop)->(FuncId->Array aa->Array aa->Exit->Env->J->Prop)->Env->J->Prop
 | .seq .leaf B,.seq a b,_,Kd,e,w=>uO P tk a (λf first cap c w'=>D P tk B b (Kd f first cap) c w') e w
 | .seq A B,.seq a b,K,Kd,e,w=>D P tk A a (λx c w'=>match x with| .normal=>pz P tk B b K Kd c w'|x=>K x c w') e w
 |_,_,_,_,_,_=>False
def BK(P:Program)(tk:TypeId->dn)(a:O ResultVar)(R:aa->J->Prop)(f:FuncId)(first cap:Array aa)(x:Exit)(e:Env)(w:J):Prop:=
 match x with
 | .normal| .ret=>nO P f (first++cap) w λw'=>kH P tk a e w' λvs=>R (nI vs) w'
 |_=>False
def uP(P:Program)(tk:TypeId->dn)(A:aP)(fn:Func)(args:O aa)(w:J)(R:aa->J->Prop):Prop:=
 match fn.body with
 |some c=>pz P tk A c (xQ P tk fn.results.toList R) (BK P tk fn.results.toList R) (mh 0 args) w
 |none=>False
variable {P:Program}{tk:TypeId->dn}
def pA(f:FuncId)(first cap:Array aa):Deferred:={target:=.fn (.func f) cap,args:=first++ #[]}
theorem BL{c:Code}{K:FuncId->Array aa->Array aa->Env->J->Prop}{e:Env}{a:Act}{w:J}(ar:c7 e a)(p:∀d∈writes c,d<a.tmps.size)(h:uO P tk c K e w):
 c.wp P (λx l w'=>x=.normal/\∃f first cap,l.defers=pA f first cap::a.defers/\l.tmps.size=a.tmps.size/\∃n,c7 n l/\K f first cap n w') a w:=by
 unfold uO at h;split at h
 case h_2=>exact h.elim
 rename_i id ops;split at h
 case h_2=>exact h.elim
 rename_i b j hl;split at h
 case h_2=>exact h.elim
 rename_i call q r t u;split at h
 case h_2=>exact h.elim
 rename_i x hc ra;refine wp_region_list ?_;rw[hl];have w1:Region.wanted b (yielded ops a.tmps)=true:=by unfold Region.wanted;rw[q]
 simp only[wpList,w1,if_true];refine .inl ((qZ ar h).wp ?_);intro v w' m;have y:Region.wanted j (yielded ops (a.put b.dst v).tmps)=true:=by unfold Region.wanted;rw[r]
 simp only[y,if_true];refine .inl ?_;split at m
 case h_2=>exact m.elim
 rename_i f first cap z;have o:c7 (c0 b.dst v e) (a.put b.dst v):=ar.put λk i=>p k (by simp[writes,hl,bE,i]);have A:call.args= #[]:=by
  have:=congrArg List.toArray ra;simpa using this
 have B:(execOp (a.put b.dst v).eval j).run P w'=.ok (.defer (pA f first cap)) w':=by
  have C:∀g:Operand->aa,Array.map g #[]= #[]:=λg=>by simp
  simp only[execOp,u,resolve,hc,A,o.ev z,C];rfl
 show j.upon P _ _ _ ((execOp (a.put b.dst v).eval j).run P w');rw[B,Oper.upon_defer,t];refine⟨trivial,f,first,cap,?_,?_,c0 b.dst v e,?_,m⟩
 .have:=(dA.put (a:=a) (d:=b.dst) (v:=v) (ds:=bE [b]) (λk i=>by simp[bE,i])).defers
  show pA f first cap::(a.put b.dst v).defers=_;rw[this]
 .exact(dA.put (a:=a) (d:=b.dst) (v:=v) (ds:=bE [b]) (λk i=>by simp[bE,i])).size
 .exact⟨λs v hs=>o.get s v hs⟩
theorem BM(p:P.follows .mixedOrders=true):∀ (A:aP) (c:Code) (K:Exit->Env->J->Prop) (Kd:FuncId->Array aa->Array aa->Exit->Env->J->Prop) (e:Env) (a:Act) (w:J),c7 e a->a.defers=[]->
 (∀d∈writes c,d<a.tmps.size)->pz P tk A c K Kd e w->
 c.wp P (λx m w'=>(m.defers=[]/\∃j,c7 j m/\K x j w')\/∃f first cap,m.defers=[pA f first cap]/\∃j,c7 j m/\Kd f first cap x j w') a w:=by
 intro A
 induction A with
 |seq A B E r=>
  intro c K Kd e a w ar hd k h;unfold pz at h;split at h
  case h_3=>exact h.elim
  .rename_i s x y n
   cases n;have hx:∀d,d∈writes x->d∈writes (.seq x y):=λd hd=>by simp[writes,hd]
   have o:∀d,d∈writes y->d∈writes (.seq x y):=λd hd=>by simp[writes,hd]
   refine wp_seq (iw (BL ar (λd hd=>k d (hx d hd)) h) ?_);rintro ex a1 w1 ⟨rfl,f,first,cap,h1,t,b,g,u⟩;refine iw (q_ p B y _ b a1 w1 g (λd hd=>by rw[t];exact k d (o d hd)) u) ?_;rintro ex a2 ah ⟨v,z,C,D⟩;exact .inr ⟨f,first,cap,by rw[v.defers,h1,hd],z,C,D⟩
  .rename_i F s x y _ n
   cases n;have hx:∀d,d∈writes x->d∈writes (.seq x y):=λd hd=>by simp[writes,hd]
   have o:∀d,d∈writes y->d∈writes (.seq x y):=λd hd=>by simp[writes,hd]
   refine wp_seq (iw (q_ p A x _ _ a _ ar (λd hd=>k d (hx d hd)) h) ?_);rintro ex a1 w1 ⟨q,b,g,h1⟩;have i:a1.defers=[]:=by rw[q.defers,hd]
   cases ex with
   |normal=>exact r y _ _ b a1 w1 g i (λd hd=>by rw[q.size];exact k d (o d hd)) h1
   |exit id=>exact .inl ⟨i,b,g,h1⟩
   |goto l=>exact .inl ⟨i,b,g,h1⟩
   |ret=>exact .inl ⟨i,b,g,h1⟩
   |panic G=>exact .inl ⟨i,b,g,h1⟩
   |outgrown=>exact .inl ⟨i,b,g,h1⟩
 |_=>intro c K Kd e a w ar hd k h;unfold pz at h;exact h.elim
theorem ya{fn:Func}{args:O aa}(b:args.length<=fn.ntmps):c7 (mh 0 args) {tmps:=args.toArray++Array.replicate (fn.ntmps-args.toArray.size) undef,defers:=[]}:=by
 constructor;intro s v hs;obtain⟨_,a⟩:=uJ hs;simp only[Nat.sub_zero]at a;have aJ:s<args.length:=(jA.1 a).1;simp[Array.getElem?_append,aJ];rw[dD aJ]at a;exact Option.some.inj a
theorem BN{f:FuncId}{fn:Func}{A:aP}{args:O aa}{w:J}{K:J->Prop}(n:P.follows .mixedOrders=true)(hc:hY P f)
 (hf:P.funcs[f]? =some fn) (b:mi fn args.length=true) (h:nJ P tk A fn args w λ_ w'=>K w'):nO P f args.toArray w K:=by
 refine⟨hc,?_⟩;unfold nJ at h;unfold mi at b
 cases g:fn.body with
 |none=>rw[g]at h;exact h.elim
 |some c=>
  rw[g]at h b;simp only[dO]at h b;obtain⟨o,p⟩:=b;have q:=k9 p;have r:(args.toArray++Array.replicate (fn.ntmps-args.toArray.size) undef).size=fn.ntmps:=by simp;omega
  refine(callsD_of_wp (R:=λe w'=>(∃v,e=.returned v)/\K w') hf g ?_).mono λe y w' ⟨h1,k,s⟩=>⟨k,h1,s⟩;refine iw (q_ n A c _ _ _ w (ya q) (λd hd=>?_) h) ?_
  .have h1:=k7.1 o d hd
   have k:=k9 h1;show d<(args.toArray++Array.replicate (fn.ntmps-args.toArray.size) undef).size;rw[r];omega
  .rintro x t w' ⟨u,z,m,a⟩
   have hd:t.defers=[]:=u.defers
   cases x with
   |normal=>
    obtain⟨vs,i,j⟩:=kI m a;exact⟨hd,_,mj i,⟨_,rfl⟩,j⟩
   |ret=>
    obtain⟨vs,i,j⟩:=kI m a;exact⟨hd,_,mj i,⟨_,rfl⟩,j⟩
   |exit id=>exact a.elim
   |goto l=>exact a.elim
   |panic B=>exact a.elim
   |outgrown=>exact a.elim
theorem BO{f:FuncId}{fn:Func}{A:aP}{args:O aa}{w:J}{R:aa->J->Prop}(p:P.follows .mixedOrders=true)
 (hf:P.funcs[f]? =some fn) (n:mi fn args.length=true) (h:uP P tk A fn args w R):
 Calls P f args.toArray w λe w'=>∃v,e=.returned v/\R v w':=by
 unfold uP at h;unfold mi at n
 cases o:fn.body with
 |none=>rw[o]at h;exact h.elim
 |some c=>
  rw[o]at h n;simp only[dO]at h n;obtain⟨q,r⟩:=n;have s:=k9 r;have t:(args.toArray++Array.replicate (fn.ntmps-args.toArray.size) undef).size=fn.ntmps:=by simp;omega
  refine calls_of_wp_defers hf o ?_;refine iw (BM p A c _ _ _ _ w (ya s) rfl (λd hd=>?_) h) ?_
  .have h1:=k7.1 q d hd
   have z:=k9 h1;show d<(args.toArray++Array.replicate (fn.ntmps-args.toArray.size) undef).size;rw[t];omega
  .have key:∀ {b:Act}{w':J}{j:Env}{g:FuncId}{first cap:Array aa},b.defers=[pA g first cap]->c7 j b->(nO P g (first++cap) w' λw'=>kH P tk fn.results.toList j w' λvs=>R (nI vs) w')->
    Leaves P fn b.tmps (λe w'=>∃v,e=.returned v/\R v w') b.defers .returning w':=by
    intro b w' j g first cap hd i ⟨hc,a⟩;rw[hd];refine leaves_cons (f:=g) (args:=first++cap) (by simp) (by simp[invoke,xj hc]) (a.mono ?_);rintro _ _ ah ⟨⟨v,rfl⟩,rfl,u⟩;obtain⟨vs,k,m⟩:=kI i u;exact⟨_,mj k,_,rfl,m⟩
   rintro x b w' (⟨hd,j,i,a⟩|⟨g,first,cap,hd,j,i,a⟩)
   .cases x with
    |normal=>
     obtain⟨vs,k,m⟩:=kI i a;show Leaves _ _ _ _ b.defers _ _;rw[hd];exact⟨_,mj k,_,rfl,m⟩
    |ret=>
     obtain⟨vs,k,m⟩:=kI i a;show Leaves _ _ _ _ b.defers _ _;rw[hd];exact⟨_,mj k,_,rfl,m⟩
    |exit id=>exact a.elim
    |goto l=>exact a.elim
    |panic y=>exact a.elim
    |outgrown=>exact a.elim
   .cases x with
    |normal=>exact key hd i a
    |ret=>exact key hd i a
    |exit id=>exact a.elim
    |goto l=>exact a.elim
    |panic y=>exact a.elim
    |outgrown=>exact a.elim
end aX
namespace aX
open Go Go.RowKit
section
variable {α:Type}{P:Program}{w:J}{gA eS T:TypeId}{enc:α->aa}
def dk(enc:α->aa)(x:α×aa×Nat):MapEntry:=⟨enc x.1,x.2.1,x.2.2⟩
def j8(x:α×aa×Nat):α×aa:=(x.1,x.2.1)
def kK[DecidableEq α](k:α):O (α×aa×Nat)->Nat->an (Nat×aa)
 | [],_=>none
 |x::L,i=>if k=x.1 then some (i,x.2.1) else kK k L (i+1)
theorem yb{β:Type}(f:β->β)(x:β)(bJ:O β):∀bl:O β,(bl++x::bJ).modify bl.length f=bl++f x::bJ
 | []=>rfl
 |y::bl=>by
  show y::((bl++x::bJ).modify bl.length f)=_
  rw[yb f x bJ bl];rfl
structure lv[DecidableEq α](P:Program)(gA:TypeId)(enc:α->aa):Prop where
 find:∀ (L:O (α×aa×Nat)) (k:α) (w:J),(Instr.findKey gA (enc k) (L.map (dk enc))).run P w=.ok (kK k L 0) w
 check:∀ (b:ag) (k:α) (w:J),(Instr.checkKey b 10000 gA (enc k)).run P w=.ok () w
 bits:∀k,Instr.sameBits 10000 (enc k) (enc k)=true
theorem uQ[DecidableEq α]{k:α}:∀ {L:O (α×aa×Nat)}{i:Nat},(∀x∈L,x.1≠k)->kK k L i=none
 | [],_,_=>rfl
 |x::L,i,h=>by
  rw[kK,if_neg (λe=>h x (by simp) e.symm)]
  exact uQ λy a=>h y (by simp[a])
theorem uR[DecidableEq α]{k:α}{v:aa}{n:Nat}{bJ:O (α×aa×Nat)}:∀ {bl:O (α×aa×Nat)}{i:Nat},(∀x∈bl,x.1≠k)->kK k (bl++(k,v,n)::bJ) i=some (i+bl.length,v)
 | [],i,_=>by simp[kK]
 |x::L,i,h=>by
  rw[oT,kK,if_neg (λe=>h x (by simp) e.symm),uR λy a=>h y (by simp[a])]
  simp;omega
theorem lv.int{k:IntKind}(hu:P.underlying gA=some (.int k)):lv P gA (λn:Int=>Value.int k n) where
 find L n w:=by
  have h:∀ (L:O (Int×aa×Nat)) (i:Nat),Instr.findNow (.int k) (.int k n) (L.map (dk λn:Int=>Value.int k n)) i=some (kK n L i):=by
   intro L
   induction L with
   |nil=>intro i;rfl
   |cons x L a=>
    intro i;simp only[iM,Instr.findNow,dk,Instr.sameNow,if_true,kK];by_cases hx:n=x.1
    .subst hx;simp
    .rw[if_neg hx,show(n==x.1)=false by simpa using hx]
     exact a (i+1)
  simp[Instr.findKey,cP hu,h]
 check b n w:=by
  show(Instr.checkKey b (9999+1) gA (.int k n)).run P w=_;unfold Instr.checkKey;simp only[Sem.run_bind,cP hu,Result.andThen];rfl
 bits n:=by
  show(k==k&&n==n)=true;simp
def dP(w:J)(r:Nat)(enc:α->aa)(M:O (α×aa)):Prop:=
 ∃ (L:O (α×aa×Nat)) (a:Nat),w.heap[r]? =some (.map (L.map (dk enc)).toArray a)/\(L.map j8).Perm M/\(L.map (·.1)).Nodup/\(L.map (·.2.2)).Nodup/\∀x∈L,x.2.2<a
def BP(w:J)(r:Nat)(enc:α->aa)(M:O (α×aa))(k:α)(v:aa)(st:Int):Prop:=
 ∃ (bl bJ:O (α×aa×Nat)) (n a:Nat),w.heap[r]? =some (.map ((bl++(k,v,n)::bJ).map (dk enc)).toArray a)/\((bl++bJ).map j8).Perm M/\((bl++(k,v,n)::bJ).map (·.1)).Nodup/\((bl++(k,v,n)::bJ).map (·.2.2)).Nodup/\(∀x∈bl++(k,v,n)::bJ,x.2.2<a)/\st=(n:Int)
variable {r:Nat}{M gB:O (α×aa)}{k:α}{v:aa}{st:Int}{w':J}
theorem dP.lt(h:dP w r enc M):r<w.heap.size:=by
 obtain⟨L,a,h,_⟩:=h;exact(kq.1 h).1
theorem dP.ad{W:Nat->Prop}(h:dP w r enc M)(hc:ae W w w')(a:¬W r):dP w' r enc M:=by
 have hl:=h.lt;obtain⟨L,b,h,c⟩:=h;exact⟨L,b,by rw[hc.block r hl a];exact h,c⟩
theorem dP.ext(h:dP w r enc M)(hc:Ext w w'):dP w' r enc M:=h.ad hc id
theorem dP.perm(h:dP w r enc M)(a:M.Perm gB):dP w r enc gB:=by
 obtain⟨L,b,h,h1,c⟩:=h;exact⟨L,b,h,h1.trans a,c⟩
theorem dP.split(h:dP w r enc ((k,v)::M)):∃n,BP w r enc M k v (n:Nat):=by
 obtain⟨L,b,h,h1,c,d,e⟩:=h;have f:(k,v)∈L.map j8:=h1.mem_iff.2 (by simp);obtain⟨x,hx,a⟩:=dZ.1 f;obtain⟨bl,bJ,rfl⟩:=List.append_of_mem hx;obtain⟨g,i,n⟩:=x;simp only[j8,Prod.mk.injEq]at a;obtain⟨rfl,rfl⟩:=a;refine⟨n,bl,bJ,n,b,h,?_,c,d,e,rfl⟩;rw[fe,iM]at h1;have:=(lf.symm.trans h1);rw[fe];exact this.cons_inv
theorem dP.keys(h:dP w r enc M):(M.map (·.1)).Nodup:=by
 obtain⟨L,b,h,h1,a,c,d⟩:=h;have:=h1.map (·.1);rw[gK]at this;exact this.nodup_iff.1 a
theorem dP.BQ(a:(k,v)∈M):∃gB,M.Perm ((k,v)::gB):=by
 obtain⟨A,B,rfl⟩:=List.append_of_mem a;exact⟨A++B,lf⟩
def g4(w:J)(r:Nat)(o:Obj):J:={w with heap:=w.heap.setIfInBounds r o}
theorem pB(w:J)(r:Nat)(o:Obj):ae (λq=>q=r) w (g4 w r o):=
 ⟨rfl,rfl,rfl,by simp[g4],λk _ a=>by
  have:¬r=k:=λe=>a e.symm
  simp[g4,this]⟩
theorem rn(w:J)(r:Nat)(o:Obj):(g4 w r o).heap.size=w.heap.size:=by simp[g4]
theorem rp{w:J}{r:Nat}(h:r<w.heap.size)(o:Obj):(g4 w r o).heap[r]? =some o:=by simp[g4,h]
theorem kL{es:Array MapEntry}{a:Nat}(h:w.heap[r]? =some (.map es a)):(getObj r).run P w=.ok (.map es a) w:=by simp[getObj,Sem.run,h]
theorem uS{es:Array MapEntry}{a:Nat}(h:w.heap[r]? =some (.map es a))(o:Obj):(setObj r o).run P w=.ok () (g4 w r o):=by simp[setObj,Sem.run,h,g4]
theorem yc{bl bJ:O (α×aa×Nat)}{x:α×aa×Nat}(h:((bl++x::bJ).map (·.1)).Nodup):∀y∈bl,y.1≠x.1:=by
 intro y a e;rw[fe,iM,nq]at h;exact h.2.2 _ (List.mem_map_of_mem a) _ (List.mem_cons_self ..) e
theorem yd{L:O (α×aa×Nat)}(h1:(L.map j8).Perm M)(a:∀v,(k,v)∉M):∀x∈L,x.1≠k:=by
 intro x hx e;refine a x.2.1 (h1.mem_iff.1 (dZ.2 ⟨x,hx,?_⟩));simp[j8,e]
theorem dP.make(T:TypeId)(w:J):(Instr.makeMap T none).run P w=.ok (.map (some w.heap.size)) (w.alloc (.map #[] 0))/\dP (w.alloc (.map #[] 0)) w.heap.size enc ([]:O (α×aa)):=by
 refine⟨by simp[Instr.makeMap],[],0,?_,by simp,by simp,by simp,by simp⟩;show(w.heap.push (.map #[] 0))[w.heap.size]? =_;simp
theorem dP.uT[DecidableEq α](a:lv P gA enc)(b:P.underlying T=some (.map gA eS))(h:dP w r enc M)(c:(k,v)∈M)(ok:ag):
 (Instr.lookup T (.map (some r)) (enc k) ok).run P w=.ok (if ok then .tuple #[v,.bool true] else v) w:=by
 obtain⟨gB,d⟩:=dP.BQ c;obtain⟨n,bl,bJ,e,g,h,h1,f,i,j,_⟩:=(h.perm d).split;have hf:=a.find (bl++(k,v,e)::bJ) k w;rw[uR (yc f)]at hf;simp only[Instr.lookup,Sem.run_bind,cP b,Result.andThen,kL h,Sem.run_pure,a.check,hf]
theorem dP.ye[DecidableEq α](a:lv P gA enc)(b:P.underlying T=some (.map gA eS)){i:TypeInfo}{z:aa}(hi:P.info? eS=some i)(c:i.zero=some z)(h:dP w r enc M)(d:∀v,(k,v)∉M)(ok:ag):
 (Instr.lookup T (.map (some r)) (enc k) ok).run P w=.ok (if ok then .tuple #[z,.bool false] else z) w:=by
 obtain⟨L,e,h,h1,f,g,j⟩:=h;have hf:=a.find L k w;rw[uQ (yd h1 d)]at hf;simp only[Instr.lookup,Sem.run_bind,cP b,Result.andThen,kL h,Sem.run_pure,a.check,hf,zeroValue,l7 hi,c]
end
end aX
namespace aX
open Go Go.RowKit
theorem yf(c:Array aa):∀ (vs:O aa) (i:Nat) (c:Array aa),(fY c i vs).toList.drop (i+vs.length)=c.toList.drop (i+vs.length)
 | [],_,_=>rfl
 |v::vs,i,c=>by
  simp only[fY,fD]
  rw[show i+(vs.length+1)=i+1+vs.length from I,yf c vs (i+1) (c.setIfInBounds i v)]
  rw[Array.toList_setIfInBounds,List.drop_set]
  rw[if_pos I]
theorem ly(vs:O aa)(c:Array aa)(i:Nat)(h:i+vs.length<=c.size):(fY c i vs).toList=c.toList.take i++vs++c.toList.drop (i+vs.length):=by
 rw[←gJ (i+vs.length) (fY c i vs).toList,ri vs c i h,yf c]
section
variable {P:Program}{w:J}
theorem rq{kM dU ty e:TypeId}{d:TypeDesc}{sz:Nat}(hd:P.underlying kM=some (.slice e))(he:P.underlying e=some d)(g:P.cellsOf e=sz){A:ab}{dl mo n:Nat}{x:Y}(h:Nat.min x.len dl=n){xs:O aa}(hx:Src sz w ⟨x.a,n,x.cap⟩ xs)(b:bz w A xs):
 Sem.run P (Builtin.copy_ #[kM,dU] ty #[.slice (some A) dl mo,.slice x.a x.len x.cap]) w=.ok (.int .i64 ((n:Nat):Int)) (setCells w A 0 xs):=by
 have f:=gx (w:=w) he;rw[g]at f;have hf:Sem.run P (Builtin.firstCells sz n (.slice x.a x.len x.cap)) w=.ok xs.toArray w:=by
  obtain⟨a,l,c⟩:=x
  cases a<;>exact nM (P:=P) hx
 have i:=o8 (P:=P) (A:=A) xs 0 w (by simpa using b.1) b.2;simp only[Builtin.copy_,qA,l1,ud,Sem.run_bind,cP hd,Result.andThen,Builtin.lenOf,Sem.run_pure,h,f,hf,i];rfl
set_option maxRecDepth 4000 in
theorem BR {fN:Array TypeId}{dG dU jn e:TypeId}{i:TypeInfo}{k:IntKind}{z:aa}{sz n:Nat}{s:Y}{c:O aa} (h0:fN[0]? =some dU) (h1:fN[1]? =some jn)
 (hs:P.underlying dU=some (.slice e)) (hx:P.underlying jn=some (.int k)) (hi:P.info? e=some i) (hd:(P.underlying e).isSome=true) (h:i.zero=some z) (j:z.cells.size=sz) (p:P.cellsOf e=sz)
 (r:i.bytes≠0) (hold:Src sz w s c) (t:s.cap<s.len+n) (l:(2*(s.len+n)+1000)*i.bytes<=281474976710656):
 ∃ (b:Nat) (zs rest:O aa),s.len+n<=b/\b<=maxLen/\zs.length=n*sz/\rest.length=(b-(s.len+n))*sz/\
  Sem.run P (Builtin.append_ fN dG #[.slice s.a s.len s.cap,.int .i64 ((n:Nat):Int)]) w=
   .ok (.slice (some ⟨w.heap.size,0,none⟩) (s.len+n) b) (w.drew.alloc (.cells (c++zs++rest).toArray e)):=by
 obtain⟨d,hd⟩:=jf _ hd;have m:=gx (w:=w) hd;rw[p]at m;have u:=xY t;have S:Builtin.nextslicecap (s.len+n) s.cap*i.bytes<=281474976710656:=eC (np _ u) l;have T:s.len+n<=281474976710656:=by
  have:s.len+n<=(2*(s.len+n)+1000)*i.bytes:=by
   have:=Nat.mul_le_mul_left (2*(s.len+n)+1000) (Nat.one_le_iff_ne_zero.2 r);omega
  omega
 have v:n*i.bytes<=281474976710656:=eC (np _ (by omega:n<=2*(s.len+n)+1000)) l
 let q:Question:=.appendCap (s.len+n) s.cap e
 let b:Nat:=q.cut (w.tape w.drawn q)
 have x:q.forced=false:=rfl;have A:s.len+n<=b:=by show s.len+n<=s.len+n+_;omega
 have B:b<=maxLen:=by
  show s.len+n+_%(2^63-(s.len+n))<=2^63-1;have:=g1 (w.tape w.drawn q) (y:=2^63-(s.len+n)) I;omega
 have C:Src sz w.drew s c:=hold.ext (ae.drew (.refl _ _));have D:=nM (P:=P) C;have E:∀n (w':J),(askRoom n).run P w'=.ok () w':=λn w'=>by unfold askRoom;split<;>rfl
 have F:(choose q).run P w=.ok b w.drew:=by
  show Sem.run P (.choose q .pure) w=_;simp only[Sem.run,x,ft,if_false];rfl
 have f:=λw:J=>l7 (w:=w) hi;refine⟨b,if n*sz=0 then [] else (Builtin.zeroCells z.cells n).toList,(Builtin.zeroCells z.cells (b-(s.len+n))).toList,A,B,?_,by simp[Builtin.zeroCells,j],?_⟩
 .split
  .rename_i h0;simp[h0]
  .simp[Builtin.zeroCells,j]
 have G:IntKind.i64.wrap ((n:Nat):Int)=(n:Int):=bB I I;have H:¬((n:Int)<0):=by omega
 have K:¬((n:Int)*(i.bytes:Int)>2^48):=by
  have:((n*i.bytes:Nat):Int)<=((281474976710656:Nat):Int):=Int.ofNat_le.2 v;rw[Int.natCast_mul]at this;have L:(2:Int)^48=((281474976710656:Nat):Int):=by decide+kernel
  rw[L];omega
 have M:¬(s.len+n<=s.cap):=by omega
 have N:¬((s.len+n:Nat):Int)>IntKind.i64.max:=by
  simp[IntKind.max,IntKind.signed,IntKind.bits];omega
 have Q:¬Builtin.nextslicecap (s.len+n) s.cap*i.bytes>2^48:=by
  have:(2:Nat)^48=281474976710656:=by decide+kernel
  omega
 have R:Sem.run P (choose (.appendCap (s.len+n) s.cap e)) w=.ok b w.drew:=F;unfold Builtin.append_;simp only[qA,l1,ud,h0,h1,Sem.run_bind,cP hs,cP hx,Result.andThen,m,Sem.run_pure,asInt,asIntOf,G,H,if_false,f,K,du,M,N,false_and,Q,if_true,Bool.not_true,ft,R,E,D];by_cases o:n*sz=0
 .simp only[o,if_true,Sem.run_pure,zeroValue,f,h,Sem.run_bind,Result.andThen,newRow,newObj,Sem.run]
  have g:w.drew.heap.size=w.heap.size:=rfl;rw[g]
  congr 1
  show w.drew.alloc _=w.drew.alloc _
  congr 2
  simp
 .simp only[o,if_false,Sem.run_pure,zeroValue,f,h,Sem.run_bind,Result.andThen,newRow,newObj,Sem.run]
  have g:w.drew.heap.size=w.heap.size:=rfl;rw[g]
  congr 1
  show w.drew.alloc _=w.drew.alloc _
  congr 2
  simp
end
theorem BS(a:an ab)(z c:Nat):aL a z 0 c=a:=by
 unfold aL;split
 .rfl
 .cases a with
  |none=>rfl
  |some A=>simp[add_zero']
theorem bh.rr{sz:Nat}{w:J}{b:Nat}{c:Array aa}{T:TypeId}(h:bh w b c T){o n cap:Nat}(d:o+n*sz<=c.size):Src sz w ⟨some ⟨b,o,none⟩,n,cap⟩ ((c.toList.drop o).take (n*sz)):=by
 refine⟨by simp;omega,(λh=>by cases h),λa e=>?_⟩
 cases e;have:=nL h (n*sz) o 0 (by simpa using d);simpa using this
theorem bh.jI{w:J}{b o:Nat}{c:Array aa}{T:TypeId}(h:bh w b c T)(vs:O aa):bh (setCells w ⟨b,o,none⟩ 0 vs) b (fY c o vs) T:=by
 simpa using bh.rf vs o 0 h
theorem aZ.mk'{sz:Nat}{T:TypeId}{w:J}{b n cap:Nat}{c:Array aa}{vs:O aa}(a:bh w b c T)(hl:vs.length=n*sz)(d:n<=cap)(hc:cap<=maxLen)(hs:c.size=cap*sz)(e:c.toList.take (n*sz)=vs):aZ sz T w ⟨some ⟨b,0,Option.none⟩,n,cap⟩ vs:=
 ⟨hl,d,hc,.inr ⟨b,c,rfl,a,hs,e⟩⟩
theorem BT(A:ab)(a b:Nat):(A.add a).add b=A.add (a+b):=by
 unfold Addr.add;by_cases c:a=0
 .subst c;simp
 .by_cases d:b=0
  .subst d;simp
  .simp[c,d,Nat.add_assoc]
theorem yg{w:J}{A:ab}:∀ {n i:Nat}{vs:O aa}{j:Nat}{v:aa},cy w A i n=some vs->vs[j]? =some v->w.cell? (A.add (i+j))=some v
 |0,_,vs,j,v,h,a=>by simp[cy]at h;subst h;simp at a
 |n+1,i,vs,j,v,h,a=>by
  simp only[cy]at h
  cases h1:w.cell? (A.add i) with
  |none=>simp[h1]at h
  |some u=>
   cases b:cy w A (i+1) n with
   |none=>simp[h1,b]at h
   |some us=>
    simp only[h1,b,Option.some.injEq]at h
    subst h
    cases j with
    |zero=>simp at a;subst a;exact h1
    |succ j=>
     have:=yg b (j:=j) (v:=v) (by simpa using a)
     rwa[show i+(j+1)=i+1+j from I]
theorem yh{w:J}{A:ab}:∀ (n i:Nat) (vs:O aa),vs.length=n->(∀j v,vs[j]? =some v->w.cell? (A.add (i+j))=some v)->cy w A i n=some vs
 |0,i,vs,hl,_=>by
  cases vs with
  |nil=>simp[cy]
  |cons _ _=>simp at hl
 |n+1,i,vs,hl,h=>by
  cases vs with
  |nil=>simp at hl
  |cons v vs=>
   simp only[cy]
   rw[show w.cell? (A.add i)=some v from h 0 v rfl,yh n (i+1) vs (by simpa using hl) (λj x hx=>by have:=h (j+1) x (by simpa using hx);rwa[show i+(j+1)=i+1+j from I]at this)]
theorem BU{w:J}{A:ab}{n k m:Nat}{vs:O aa}(h:cy w A 0 n=some vs)(b:k+m<=n):cy w (A.add k) 0 m=some ((vs.drop k).take m):=by
 have hl:=xW h;refine yh m 0 _ (by simp;omega) λj v a=>?_;rw[BT,show k+(0+j)=0+(k+j) from I];refine yg h ?_;rw[qB]at a;split at a
 .rwa[qy]at a
 .cases a
theorem BV{a b:Nat}(h:a+b<=4000000):IntKind.wrap .i64 (Int.fdiv (IntKind.wrap .u64 (IntKind.wrap .i64 ((a:Int)+(b:Int)))) (2^(min (Int.toNat 1) 64)))=(((a+b)/2:Nat):Int):=by
 rw[bB (n:=(a:Int)+b) I I,gz I I];have e:(2:Int)^(min (Int.toNat 1) 64)=2:=rfl;rw[e,Int.fdiv_eq_ediv_of_nonneg _ I,bB I I];omega
section
variable {w:J}
end
theorem uU{P:Program}{w:J}{T:TypeId}{fuel:Nat}{cs:O aa}{fs:Array Field}(h:gy P w fuel T cs)(a:P.underlying T=some (.struct fs))(i:Nat){t o n:Nat}(hf:(fs[i]?).map (λf=>(f.type,f.offset))=some (t,o))(b:P.cellsOf t=n):∃fuel,gy P w fuel t ((cs.drop o).take n):=by
 obtain⟨_,c⟩:=x3 h a
 cases hg:fs[i]? with
 |none=>rw[hg]at hf;cases hf
 |some f=>
  rw[hg]at hf;simp only[kr,Option.some.injEq,Prod.mk.injEq]at hf;obtain⟨rfl,rfl⟩:=hf;have:=c f (Array.mem_of_getElem? hg);rwa[b]at this
def fieldsOf(P:Program)(T:TypeId):Array Field:=match P.underlying T with
 |some (.struct fs)=>fs
 |_=> #[]
end aX
