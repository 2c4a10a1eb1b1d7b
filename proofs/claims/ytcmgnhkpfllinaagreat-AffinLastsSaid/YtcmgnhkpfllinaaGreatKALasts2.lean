/- What a Go program of the model must show, as text that can be read; sound against the kit. -/
import Derived.Carry
import Derived.ChangeArms
import Derived.ChangeVars
import Derived.Defers
import Derived.LaidLaws
import Derived.Laws.StructEq
import Derived.Lib.Overlaps
import Derived.MakeChecks
import Derived.WideKeyRuns
import Derived.Test.YtcmgnhkpfllinaaGreatKALasts1
namespace aS
open Go Go.RowKit
variable{T:TypeId}{d:TypeDesc}{ls:O c8}{xs ys:O aa}
def kz(gl:TypeId->au (O c8))(P:Program):O Field->Nat->au (O c8)
 | [],_=>some []
 |f::fs,o=>if f.name= "_" \/f.offset≠o then none else
  match gl f.type with
  |some ls=>if P.cellsOf f.type=ls.length then (kz gl P fs (o+ls.length)).map (ls++ ·) else none
  |none=>none
def og(ls:O c8):Nat->O c8
 |0=> []
 |n+1=>ls++og ls n
def gl(P:Program):Nat->TypeId->au (O c8)
 |0,_=>none
 |d+1,T=>match P.underlying T with
  |some (.int k)=>some [.int k]
  |some .bool=>some [.bool]
  |some .string=>some [.str]
  |some (.struct fs)=>if P.stoodInHeld T then none else kz (gl P d) P fs.toList 0
  |some (.array n e)=>match gl P d e with
   |some ls=>if P.cellsOf e=ls.length then some (og ls n) else none
   |none=>none
  |_=>none
def vH:c8->aa->Prop
 | .int k,v=>∃n:Int,v=.int k n
 | .bool,v=>∃b:ao,v=.bool b
 | .str,v=>∃s:ByteArray,v=.string s
 |_,_=>False
def eV:O c8->O aa->Prop
 | [],vs=>vs=[]
 |l::ls,vs=>∃v us,vs=v::us/\vH l v/\eV ls us
theorem tg:∀ {ls:O c8}{vs:O aa},eV ls vs->vs.length=ls.length
 | [],_,h=>by cases h;rfl
 |_::_,_,h=>by
  obtain⟨v,us,rfl,_,h⟩:=h
  simp[tg h]
theorem th:∀ {ls ms:O c8}{vs:O aa},eV (ls++ms) vs->eV ls (vs.take ls.length)/\eV ms (vs.drop ls.length)
 | [],_,_,h=>⟨rfl,h⟩
 |l::ls,ms,vs,h=>by
  obtain⟨v,us,rfl,h1,h2⟩:=h
  obtain⟨a,b⟩:=th h2
  exact⟨⟨v,_,rfl,h1,a⟩,b⟩
theorem zx:∀ {ls ms:O c8}{vs us:O aa},eV ls vs->eV ms us->eV (ls++ms) (vs++us)
 | [],_,_,_,h,h2=>by cases h;exact h2
 |l::ls,ms,vs,us,h,h2=>by
  obtain⟨v,vs,rfl,h1,h⟩:=h
  exact⟨v,_,rfl,h1,zx h h2⟩
def oh:aa->aa->ao
 | .int _ a,.int _ b=>a==b
 | .bool a,.bool b=>a==b
 | .string a,.string b=>a.toList==b.toList
 |_,_=>false
def fS:O aa->O aa->ao
 | [],_=>true
 |a::as,b::c=>oh a b&&fS as c
 |_::_,[]=>false
theorem Hy{l:c8}{a b:aa}(c:vH l a)(d:vH l b):oh a b=true↔a=b:=by
 cases l<;>simp only[vH]at c d<;>try exact c.elim
 .obtain⟨n,rfl⟩:=c;obtain⟨m,rfl⟩:=d;simp[oh]
 .obtain⟨n,rfl⟩:=c;obtain⟨m,rfl⟩:=d;simp[oh]
 .obtain⟨n,rfl⟩:=c;obtain⟨m,rfl⟩:=d
  simp only[oh,kq,Value.string.injEq];rw[ByteArray.toList_eq,ByteArray.toList_eq];obtain⟨⟨x⟩⟩:=n;obtain⟨⟨y⟩⟩:=m;simp
theorem vI:∀ {ls:O c8}{as c:O aa},eV ls as->eV ls c->(fS as c=true↔as=c)
 | [],_,_,h1,h2=>by cases h1;cases h2;simp[fS]
 |l::ls,_,_,h1,h2=>by
  obtain⟨a,as,rfl,d,e⟩:=h1
  obtain⟨b,c,rfl,f,g⟩:=h2
  simp[fS,Hy d f,vI e g]
theorem zy:∀ {as c cs ds:O aa},as.length=c.length->fS (as++cs) (c++ds)=(fS as c&&fS cs ds)
 | [],[],_,_,_=>by simp[fS]
 |a::as,b::c,cs,ds,h=>by
  simp only[m0,fS]
  rw[zy (by simpa using h),Bool.and_assoc]
 | [],_::_,_,_,h=>by simp at h
 |_::_,[],_,_,h=>by simp at h
def l0(P:Program)(T:TypeId)(cs:O aa):aa:=
 match P.underlying T with
 |some d=>if iz d then .agg cs.toArray else cs.headD undef
 |none=>undef
section
variable {P:Program}
theorem pD{cs:O aa}(h:P.underlying T=some d)(a:iz d=true):l0 P T cs=.agg cs.toArray:=by
 simp[l0,h,a]
theorem pE{v:aa}(h:P.underlying T=some d)(a:iz d=false):l0 P T [v]=v:=by
 simp[l0,h,a]
theorem vJ{cs us:O aa}{off:Nat}(a:P.underlying T=some d)(b:P.cellsOf T=us.length)(c:iz d=false->us.length=1)
 (h:(cs.drop off).take us.length=us) (w:J):(part T cs.toArray off).run P w=.ok (l0 P T us) w:=by
 cases hd:iz d with
 |true=>
  rw[pD a hd];have e:cs.toArray.extract off (off+us.length)=us.toArray:=by
   simp[h]
  simp[part,qT a,hd,iA a,b,h]
 |false=>
  obtain⟨v,rfl⟩:=List.length_eq_one_iff.1 (c hd);rw[pE a hd];have f:cs[off]? =some v:=by
   have:((cs.drop off).take 1)[0]? =some v:=by
    have g:List.take 1 (List.drop off cs)=[v]:=h;rw[g];rfl
   rw[List.getElem?_take_of_lt I,uT]at this;simpa using this
  simp[part,qT a,hd,f]
theorem flat_agg{d:Nat}(h:gl P d T=some ls):∃u,P.underlying T=some u/\(iz u=false->ls.length=1):=by
 cases d with
 |zero=>cases h
 |succ d=>
  simp only[gl]at h
  cases hu:P.underlying T with
  |none=>simp[hu]at h
  |some u=>
   refine⟨u,rfl,λa=>?_⟩;rw[hu]at h
   cases u<;>simp only[iz,reduceCtorEq]at a h<;>first|(cases h;rfl)|cases h
theorem C9{d D:Nat}(i:∀ {T:TypeId}{ls:O c8}{xs ys:O aa},gl P d T=some ls->eV ls xs->eV ls ys->∀w,(Op.equalIn (D+d) T (l0 P T xs) (l0 P T ys)).run P w=.ok (fS xs ys) w)
 :∀ {fs:O Field}{o:Nat}{ls:O c8},kz (gl P d) P fs o=some ls->eV ls (xs.drop o)->eV ls (ys.drop o)->
  ∀w,(Op.eqFields (D+d) xs.toArray ys.toArray fs).run P w=.ok (fS (xs.drop o) (ys.drop o)) w
 | [],o,ls,h,hx,j,w=>by
  simp only[kz,Option.some.injEq]at h
  subst h
  have hx:xs.drop o=[]:=hx
  rw[hx]
  rfl
 |f::fs,o,ls,h,hx,j,w=>by
  simp only[kz]at h
  split at h
  .cases h
  .rename_i hf
   have s:¬f.name= "_" :=λe=>hf (.inl e)
   have t:f.offset=o:=by
    by_cases e:f.offset=o
    .exact e
    .exact absurd (.inr e) hf
   subst t;split at h
   .rename_i ms k
    split at h
    .rename_i hc
     cases c:kz (gl P d) P fs (f.offset+ms.length) with
     |none=>simp[c]at h
     |some x=>
      simp only[c,mq,Option.some.injEq]at h;subst h;obtain⟨l,m⟩:=th hx;obtain⟨n,p⟩:=th j;rw[lu]at m p;obtain⟨u,hu,q⟩:=flat_agg k;have a:=tg l;have b:=tg n;have bh:=vJ (cs:=xs) (off:=f.offset) (us:=(xs.drop f.offset).take ms.length) hu (by rw[hc,a]) (λg=>by rw[a];exact q g) (by rw[a]);have bj:=vJ (cs:=ys) (off:=f.offset) (us:=(ys.drop f.offset).take ms.length) hu (by rw[hc,b]) (λg=>by rw[b];exact q g) (by rw[b]);have e:=λw=>i k l n w;have r:=C9 i (fs:=fs) c m p;have v:fS (xs.drop f.offset) (ys.drop f.offset)=(fS ((xs.drop f.offset).take ms.length) ((ys.drop f.offset).take ms.length)&&fS (xs.drop (f.offset+ms.length)) (ys.drop (f.offset+ms.length))):=by
       rw[←zy (by rw[a,b])];simp only[←lu,ga]
      simp only[Op.eqFields,ne_eq,s,not_false_eq_true,if_true,Sem.run_bind,bh,bj,e,Result.andThen];rw[v]
      cases fS ((xs.drop f.offset).take ms.length) ((ys.drop f.offset).take ms.length)
      .simp
      .simpa using r w
    .cases h
   .cases h
theorem C_(ls:O c8):∀n,(og ls n).length=n*ls.length
 |0=>by simp[og]
 |n+1=>by simp[og,C_ ls n,jT,Nat.add_comm]
theorem Da{d D:Nat}(j:∀ {T:TypeId}{ls:O c8}{xs ys:O aa},gl P d T=some ls->eV ls xs->eV ls ys->∀w,(Op.equalIn (D+d) T (l0 P T xs) (l0 P T ys)).run P w=.ok (fS xs ys) w)
 {e:TypeId}{u:TypeDesc} (hu:P.underlying e=some u) (g:iz u=false->ls.length=1) (k:gl P d e=some ls) (hc:P.cellsOf e=ls.length) :
 ∀ (n i:Nat),eV (og ls n) (xs.drop (i*ls.length))->eV (og ls n) (ys.drop (i*ls.length))->∀w,
  Sem.run P (do
   let r ←forIn (List.range' i n) ((none:au ao),()) λi _=>do
    let a ←part e xs.toArray (i*ls.length)
    let b ←part e ys.toArray (i*ls.length)
    let t ←Op.equalIn (D+d) e a b
    if (!t)=true then pure (ForInStep.done (some false,())) else pure (ForInStep.yield (none,()))
   match r.1 with
   |some b=>pure b
   |none=>pure true) w=.ok (fS (xs.drop (i*ls.length)) (ys.drop (i*ls.length))) w
 |0,i,hx,l,w=>by
  have hx:xs.drop (i*ls.length)=[]:=hx
  rw[hx]
  simp[fS]
 |n+1,i,hx,l,w=>by
  obtain⟨m,o⟩:=th hx
  obtain⟨p,q⟩:=th l
  rw[lu,show i*ls.length+ls.length=(i+1)*ls.length by rw[jT,Nat.one_mul]]at o q
  have c:=tg m
  have f:=tg p
  have bh:=vJ (cs:=xs) (off:=i*ls.length) (us:=(xs.drop (i*ls.length)).take ls.length) hu (by rw[hc,c]) (λh=>by rw[c];exact g h) (by rw[c])
  have bj:=vJ (cs:=ys) (off:=i*ls.length) (us:=(ys.drop (i*ls.length)).take ls.length) hu (by rw[hc,f]) (λh=>by rw[f];exact g h) (by rw[f])
  have s:=λw=>j k m p w
  have r:=Da j hu g k hc n (i+1) o q w
  have v:fS (xs.drop (i*ls.length)) (ys.drop (i*ls.length))=(fS ((xs.drop (i*ls.length)).take ls.length) ((ys.drop (i*ls.length)).take ls.length)&&fS (xs.drop ((i+1)*ls.length)) (ys.drop ((i+1)*ls.length))):=by
   rw[←zy (by rw[c,f]),show(i+1)*ls.length=i*ls.length+ls.length by rw[jT,Nat.one_mul]];simp only[←lu,ga]
  rw[v];simp only[List.range'_succ,List.forIn_cons,Sem.run_bind,bh,bj,s,Result.andThen]
  cases fS ((xs.drop (i*ls.length)).take ls.length) ((ys.drop (i*ls.length)).take ls.length)
  .simp
  .simpa[Result.andThen] using r
theorem Db(D:Nat):∀ (d:Nat) {T:TypeId}{ls:O c8}{xs ys:O aa},gl P d T=some ls->eV ls xs->eV ls ys->∀w,(Op.equalIn (D+d) T (l0 P T xs) (l0 P T ys)).run P w=.ok (fS xs ys) w
 |0,_,_,_,_,h,_,_,_=>by cases h
 |d+1,T,ls,xs,ys,h,hx,b,w=>by
  have c:= @Db D d
  simp only[gl]at h
  cases hu:P.underlying T with
  |none=>simp[hu]at h
  |some u=>
   rw[hu]at h
   cases u with
   |int k=>
    simp only[Option.some.injEq]at h;subst h
    obtain⟨x,_,rfl,⟨n,rfl⟩,rfl⟩:=hx
    obtain⟨y,_,rfl,⟨m,rfl⟩,rfl⟩:=b
    rw[pE hu rfl,pE hu rfl]
    show(Op.equalIn (D+d+1) T _ _).run P w=_
    simp[Op.equalIn,di hu,fS,oh]
   |bool=>
    simp only[Option.some.injEq]at h;subst h
    obtain⟨x,_,rfl,⟨n,rfl⟩,rfl⟩:=hx
    obtain⟨y,_,rfl,⟨m,rfl⟩,rfl⟩:=b
    rw[pE hu rfl,pE hu rfl]
    show(Op.equalIn (D+d+1) T _ _).run P w=_
    simp[Op.equalIn,di hu,fS,oh]
   |string=>
    simp only[Option.some.injEq]at h;subst h
    obtain⟨x,_,rfl,⟨n,rfl⟩,rfl⟩:=hx
    obtain⟨y,_,rfl,⟨m,rfl⟩,rfl⟩:=b
    rw[pE hu rfl,pE hu rfl]
    show(Op.equalIn (D+d+1) T _ _).run P w=_
    simp[Op.equalIn,di hu,fS,oh,beq_toListBytes]
   |struct fs=>
    simp only at h
    split at h
    .cases h
    .rename_i j
     rw[pD hu rfl,pD hu rfl]
     have f:P.fieldsOf T=fs:=by simp[Program.fieldsOf,hu]
     show(Op.equalIn (D+d+1) T _ _).run P w=_
     rw[run_equalIn_struct w (D+d) T xs.toArray ys.toArray (f▸hu) (by simpa using j),f]
     have:=C9 (D:=D) c (xs:=xs) (ys:=ys) h (by simpa using hx) (by simpa using b) w
     simpa using this
   |array n e=>
    simp only at h
    split at h
    .rename_i ms g
     split at h
     .rename_i hc
      simp only[Option.some.injEq]at h;subst h
      obtain⟨u,i,l⟩:=flat_agg g
      rw[pD hu rfl,pD hu rfl]
      show(Op.equalIn (D+d+1) T _ _).run P w=_
      have:=Da (D:=D) c i l g hc (xs:=xs) (ys:=ys) n 0 (by simpa using hx) (by simpa using b) w
      rw[qJ,iV,iV]at this
      rw[←this]
      simp only[Op.equalIn,Sem.run_bind,di hu,iA i,Result.andThen,hc,Std.Legacy.Range.forIn_eq_forIn_range',Std.Legacy.Range.size]
      simp
      congr 1
      funext a w
      obtain⟨o,_⟩:=a
      cases o<;>rfl
     .cases h
    .cases h
   |_=>cases h
theorem jo.flat(a:P.underlying T=some d)(b:iz d=true)(hf:gl P 8 T=some ls)(hg:P.eqGuardType P.depth T=false)
 (hx:eV ls xs) (c:eV ls ys):jo P T xs.toArray ys.toArray (fS xs ys):=by
 refine⟨hg,λw=>?_⟩;have:=Db (P:=P) 9992 8 hf hx c w;rwa[pD a b,pD a b]at this
end
end aS
namespace aS
open Go Go.RowKit
variable{n:Int}{w0:J}{b:Nat}
theorem vK(h0:0<=n)(h1:n<=255):IntKind.u8.wrap n=n:=by
 simp only[IntKind.wrap,IntKind.signed,IntKind.bits];simp;omega
theorem zz(h0:0<=n)(h1:n<=4294967295):IntKind.u32.wrap n=n:=by
 simp only[IntKind.wrap,IntKind.signed,IntKind.bits];simp;omega
theorem gF(h0:0<=n)(h1:n<=18446744073709551615):IntKind.u64.wrap n=n:=by
 simp only[IntKind.wrap,IntKind.signed,IntKind.bits];simp;omega
theorem Hz(n:Int):IntKind.u8.wrap n=n%256:=by
 simp only[IntKind.wrap,IntKind.signed,IntKind.bits];simp
theorem HA{a b:Int}(h:0<=a):Int.tdiv a b=a/b:=yZ h
theorem HB{a b:Int}(h:0<=a):Int.tmod a b=a%b:=o7 h
def S(l:O UInt8):ByteArray:=⟨l.toArray⟩
theorem Dc(l:O UInt8):(S l).toList=l:=ByteArray.toList_mk l
theorem Dd(a b:O UInt8):(ByteArray.toList (S a)==ByteArray.toList (S b))=(a==b):=by rw[Dc,Dc]
theorem HC(ns:O Int):C6 ns=S (ns.map λn=>UInt8.ofNat n.toNat):=by
 have h:∀ (ns:O Int) (r:O UInt8),ns.foldl (λr n=>r.push (UInt8.ofNat n.toNat)) (S r)=S (r++ns.map λn=>UInt8.ofNat n.toNat):=by
  intro ns
  induction ns with
  |nil=>intro r;simp
  |cons n ns a=>
   intro r;have e:(S r).push (UInt8.ofNat n.toNat)=S (r++ [UInt8.ofNat n.toNat]):=by
    apply ByteArray.ext;simp[S,ByteArray.push]
   simp only[List.foldl_cons,e,a,hJ,cO,m0,hK]
 exact h ns []
theorem add_add(A:af)(n m:Nat):(A.add n).add m=A.add (n+m):=by
 unfold Addr.add;by_cases h1:n=0
 .subst h1;simp
 .by_cases h2:m=0
  .subst h2;simp
  .rw[if_neg h1,if_neg h2,if_neg I]
   simp[Nat.add_assoc]
def put(f:Nat->Int)(i:Nat)(v:Int):Nat->Int:=λj=>if j=i then v else f j
section
variable {w w':J}{b m i:Nat}{T:TypeId}{f:Nat->Int}
theorem ag.g8{w:J}{i:Nat}(h:ag (λq=>q=b) w0 w)(v:aa):ag (λq=>q=b) w0 (w.setCell ⟨b,i,none⟩ v):=ag.set h (λ_=>rfl) v
theorem ag.kA{w:J}{i:Nat}(h:ag (λq=>q=b) w0 w)(vs:O aa)(j:Nat):ag (λq=>q=b) w0 (aS.setCells w ⟨b,i,none⟩ j vs):=ag.setCells (W:=λq=>q=b) (A:=⟨b,i,none⟩) (λ_=>rfl) vs j h
end
theorem nk{o:Nat}{z l m:Nat}(h:m≠l):a7 (some (Addr.mk b o none)) z l m=some ⟨b,o+l*z,none⟩:=by
 simp[a7,h,aA]
theorem Ext.trans{a b c:J}(h1:Ext a b)(h2:Ext b c):Ext a c:=ag.trans h1 h2
theorem Ext.d_{w1 ai:J}{W:U1}(h1:Ext w0 w1)(h2:ag W w1 ai)(h:∀k,W k->w0<=k):Ext w0 ai:=
 ⟨h2.os.trans h1.os,h2.tape.trans h1.tape,h2.output.trans h1.output,eO h1.size h2.size,λk a _=>by
  rw[h2.block k (fO a h1.size) (λcv=>U4 (h k cv)),h1.block k a id]⟩
end aS
namespace aS
open Go
variable{w:J}{fn:Func}{args:O aa}
def q9(P:Program)(f:FuncId)(args:Array aa)(w:J)(K:U2):Prop:=
 hY P f/\CallsD P f args .returning w λe a w'=>(∃v,e=.returned v)/\a=.returning/\K w'
def zA(P:Program)(tk:TypeId->ei)(c:Code)(K:FuncId->Array aa->Array aa->Env->U2)(e:Env)(w:J):Prop:=
 match c with
 | .region _ ops false=>match ops.toList with
  | [a,b]=>match a.guard,b.guard,b.dst,b.op with
   |none,none,none,.defer call=>match call.callee,call.args.toList with
    | .value x,[]=>ku P tk a (λv w'=>match ev (dC a.dst v e) x with|some (.func (.func f) first cap)=>K f first cap (dC a.dst v e) w'|_=>False) e w
    |_,_=>False
   |_,_,_,_=>False
  |_=>False
 |_=>False
def ti(P:Program)(tk:TypeId->ei):aJ->Code->(Exit->Env->U2)->(FuncId->Array aa->Array aa->Exit->Env->U2)->Env->U2
 | .seq .leaf B,.seq a b,_,Kd,e,w=>zA P tk a (λf first cap c w'=>D P tk B b (Kd f first cap) c w') e w
 | .seq A B,.seq a b,K,Kd,e,w=>D P tk A a (λx c w'=>match x with| .normal=>ti P tk B b K Kd c w'|x=>K x c w') e w
 |_,_,_,_,_,_=>False
def HD(P:Program)(tk:TypeId->ei)(a:O ResultVar)(R:U0)(f:FuncId)(first cap:Array aa)(x:Exit)(e:Env)(w:J):Prop:=
 match x with
 | .normal| .ret=>q9 P f (first++cap) w λw'=>nh P tk a e w' λvs=>R (q5 vs) w'
 |_=>False
def zB(P:Program)(tk:TypeId->ei)(A:aJ)(fn:Func)(args:O aa)(w:J)(R:U0):Prop:=
 match fn.body with
 |some c=>ti P tk A c (CY P tk fn.results.toList R) (HD P tk fn.results.toList R) (pz 0 args) w
 |none=>False
variable {P:Program}{tk:TypeId->ei}
def tj(f:FuncId)(first cap:Array aa):Deferred:={target:=.fn (.func f) cap,args:=first++ #[]}
theorem HE{c:Code}{K:FuncId->Array aa->Array aa->Env->U2}{e:Env}{a:Act}(av:dG e a)(q:∀d∈writes c,d<a.tmps.size)(h:zA P tk c K e w):
 c.wp P (λx l w'=>x=.normal/\∃f first cap,l.defers=tj f first cap::a.defers/\l.tmps.size=a.tmps.size/\∃n,dG n l/\K f first cap n w') a w:=by
 unfold zA at h;split at h
 case h_2=>exact h.elim
 rename_i id ops;split at h
 case h_2=>exact h.elim
 rename_i b j o;split at h
 case h_2=>exact h.elim
 rename_i call r t u y;split at h
 case h_2=>exact h.elim
 rename_i x hc vF;refine wp_region_list ?_;rw[o];have w1:Region.wanted b (yielded ops a.tmps)=true:=by unfold Region.wanted;rw[r]
 simp only[wpList,w1,if_true];refine .inl ((vr av h).wp ?_);intro v w' m;have z:Region.wanted j (yielded ops (a.put b.dst v).tmps)=true:=by unfold Region.wanted;rw[t]
 simp only[z,if_true];refine .inl ?_;split at m
 case h_2=>exact m.elim
 rename_i f first cap A;have p:dG (dC b.dst v e) (a.put b.dst v):=av.put λk i=>q k (by simp[writes,o,b3,i]);have B:call.args= #[]:=by
  have:=congrArg List.toArray vF;simpa using this
 have C:(execOp (a.put b.dst v).eval j).run P w'=.ok (.defer (tj f first cap)) w':=by
  have D:∀g:Operand->aa,Array.map g #[]= #[]:=λg=>by simp
  simp only[execOp,y,resolve,hc,B,p.ev A,D];rfl
 show j.upon P _ _ _ ((execOp (a.put b.dst v).eval j).run P w');rw[C,Oper.upon_defer,u];refine⟨trivial,f,first,cap,?_,?_,dC b.dst v e,?_,m⟩
 .have:=(ew.put (a:=a) (d:=b.dst) (v:=v) (ds:=b3 [b]) (λk i=>by simp[b3,i])).defers
  show tj f first cap::(a.put b.dst v).defers=_;rw[this]
 .exact(ew.put (a:=a) (d:=b.dst) (v:=v) (ds:=b3 [b]) (λk i=>by simp[b3,i])).size
 .exact⟨λs v hs=>p.get s v hs⟩
theorem HF(p:P.follows .mixedOrders=true):∀ (A:aJ) (c:Code) (K:Exit->Env->U2) (Kd:FuncId->Array aa->Array aa->Exit->Env->U2) (e:Env) (a:Act) (w:J),dG e a->a.defers=[]->
 (∀d∈writes c,d<a.tmps.size)->ti P tk A c K Kd e w->
 c.wp P (λx m w'=>(m.defers=[]/\∃j,dG j m/\K x j w')\/∃f first cap,m.defers=[tj f first cap]/\∃j,dG j m/\Kd f first cap x j w') a w:=by
 intro A
 induction A with
 |seq A B D r=>
  intro c K Kd e a w av hd k h;unfold ti at h;split at h
  case h_3=>exact h.elim
  .rename_i s x y n
   cases n;have hx:∀d,d∈writes x->d∈writes (.seq x y):=λd hd=>by simp[writes,hd]
   have o:∀d,d∈writes y->d∈writes (.seq x y):=λd hd=>by simp[writes,hd]
   refine wp_seq (ky (HE av (λd hd=>k d (hx d hd)) h) ?_);rintro ex a1 w1 ⟨rfl,f,first,cap,h1,h2,b,g,t⟩;refine ky (vE p B y _ b a1 w1 g (λd hd=>by rw[h2];exact k d (o d hd)) t) ?_;rintro ex a2 ai ⟨u,v,z,C⟩;exact .inr ⟨f,first,cap,by rw[u.defers,h1,hd],v,z,C⟩
  .rename_i E s x y _ n
   cases n;have hx:∀d,d∈writes x->d∈writes (.seq x y):=λd hd=>by simp[writes,hd]
   have o:∀d,d∈writes y->d∈writes (.seq x y):=λd hd=>by simp[writes,hd]
   refine wp_seq (ky (vE p A x _ _ a _ av (λd hd=>k d (hx d hd)) h) ?_);rintro ex a1 w1 ⟨q,b,g,h1⟩;have i:a1.defers=[]:=by rw[q.defers,hd]
   cases ex with
   |normal=>exact r y _ _ b a1 w1 g i (λd hd=>by rw[q.size];exact k d (o d hd)) h1
   |exit id=>exact .inl ⟨i,b,g,h1⟩
   |goto l=>exact .inl ⟨i,b,g,h1⟩
   |ret=>exact .inl ⟨i,b,g,h1⟩
   |panic ch=>exact .inl ⟨i,b,g,h1⟩
   |outgrown=>exact .inl ⟨i,b,g,h1⟩
 |_=>intro c K Kd e a w av hd k h;unfold ti at h;exact h.elim
theorem De(a:args.length<=fn.ntmps):dG (pz 0 args) {tmps:=args.toArray++Array.replicate (fn.ntmps-args.toArray.size) undef,defers:=[]}:=by
 constructor;intro s v hs;obtain⟨_,h2⟩:=zr hs;simp only[m3]at h2;have aI:s<args.length:=(kn.1 h2).1;simp[Array.getElem?_append,aI];rw[dR aI]at h2;exact Option.some.inj h2
theorem HG{f:FuncId}{A:aJ}{K:U2}(m:P.follows .mixedOrders=true)(hc:hY P f)
 (hf:P.funcs[f]? =some fn) (b:pA fn args.length=true) (h:q6 P tk A fn args w λ_ w'=>K w'):q9 P f args.toArray w K:=by
 refine⟨hc,?_⟩;unfold q6 at h;unfold pA at b
 cases g:fn.body with
 |none=>rw[g]at h;exact h.elim
 |some c=>
  rw[g]at h b;simp only[dg]at h b;obtain⟨n,o⟩:=b;have p:=nY o;have q:(args.toArray++Array.replicate (fn.ntmps-args.toArray.size) undef).size=fn.ntmps:=by simp;omega
  refine(callsD_of_wp (R:=λe w'=>(∃v,e=.returned v)/\K w') hf g ?_).mono λe u w' ⟨h1,h2,r⟩=>⟨h2,h1,r⟩;refine ky (vE m A c _ _ _ w (De p) (λd hd=>?_) h) ?_
  .have h1:=nV.1 n d hd
   have h2:=nY h1;show d<(args.toArray++Array.replicate (fn.ntmps-args.toArray.size) undef).size;rw[q];omega
  .rintro x s w' ⟨t,y,k,a⟩
   have hd:s.defers=[]:=t.defers
   cases x with
   |normal=>
    obtain⟨vs,i,j⟩:=ni k a;exact⟨hd,_,pB i,⟨_,rfl⟩,j⟩
   |ret=>
    obtain⟨vs,i,j⟩:=ni k a;exact⟨hd,_,pB i,⟨_,rfl⟩,j⟩
   |exit id=>exact a.elim
   |goto l=>exact a.elim
   |panic ch=>exact a.elim
   |outgrown=>exact a.elim
theorem HH{f:FuncId}{A:aJ}{R:U0}(p:P.follows .mixedOrders=true)
 (hf:P.funcs[f]? =some fn) (n:pA fn args.length=true) (h:zB P tk A fn args w R):
 Calls P f args.toArray w λe w'=>∃v,e=.returned v/\R v w':=by
 unfold zB at h;unfold pA at n
 cases o:fn.body with
 |none=>rw[o]at h;exact h.elim
 |some c=>
  rw[o]at h n;simp only[dg]at h n;obtain⟨q,r⟩:=n;have s:=nY r;have t:(args.toArray++Array.replicate (fn.ntmps-args.toArray.size) undef).size=fn.ntmps:=by simp;omega
  refine calls_of_wp_defers hf o ?_;refine ky (HF p A c _ _ _ _ w (De s) rfl (λd hd=>?_) h) ?_
  .have h1:=nV.1 q d hd
   have h2:=nY h1;show d<(args.toArray++Array.replicate (fn.ntmps-args.toArray.size) undef).size;rw[t];omega
  .have key:∀ {b:Act}{w':J}{j:Env}{g:FuncId}{first cap:Array aa},b.defers=[tj g first cap]->dG j b->(q9 P g (first++cap) w' λw'=>nh P tk fn.results.toList j w' λvs=>R (q5 vs) w')->
    Leaves P fn b.tmps (λe w'=>∃v,e=.returned v/\R v w') b.defers .returning w':=by
    intro b w' j g first cap hd i ⟨hc,a⟩;rw[hd];refine leaves_cons (f:=g) (args:=first++cap) U9 (by simp[invoke,Cs hc]) (a.mono ?_);rintro _ _ ai ⟨⟨v,rfl⟩,rfl,u⟩;obtain⟨vs,k,m⟩:=ni i u;exact⟨_,pB k,_,rfl,m⟩
   rintro x b w' (⟨hd,j,i,a⟩|⟨g,first,cap,hd,j,i,a⟩)
   .cases x with
    |normal=>
     obtain⟨vs,k,m⟩:=ni i a;show Leaves _ _ _ _ b.defers _ _;rw[hd];exact⟨_,pB k,_,rfl,m⟩
    |ret=>
     obtain⟨vs,k,m⟩:=ni i a;show Leaves _ _ _ _ b.defers _ _;rw[hd];exact⟨_,pB k,_,rfl,m⟩
    |exit id=>exact a.elim
    |goto l=>exact a.elim
    |panic ch=>exact a.elim
    |outgrown=>exact a.elim
   .cases x with
    |normal=>exact key hd i a
    |ret=>exact key hd i a
    |exit id=>exact a.elim
    |goto l=>exact a.elim
    |panic ch=>exact a.elim
    |outgrown=>exact a.elim
end aS
namespace aS
open Go Go.RowKit
def HI:c8->aa->Prop
 | .int k,v=>∃n:Int,v=.int k n/\k.min<=n/\n<=k.max
 | .bool,v=>∃b:ao,v=.bool b
 | .str,v=>∃s:ByteArray,v=.string s/\s.size<=maxLen
 |_,_=>False
def jJ:O c8->O aa->Prop
 | [],vs=>vs=[]
 |l::ls,vs=>∃v us,vs=v::us/\HI l v/\jJ ls us
theorem zC:∀ {ls ms:O c8}{vs us:O aa},jJ ls vs->jJ ms us->jJ (ls++ms) (vs++us)
 | [],_,_,_,h,h2=>by cases h;exact h2
 |l::ls,ms,vs,us,h,h2=>by
  obtain⟨v,vs,rfl,h1,h⟩:=h
  exact⟨v,_,rfl,h1,zC h h2⟩
theorem zD:∀ {ls ms:O c8}{vs:O aa},jJ (ls++ms) vs->∃us ts,vs=us++ts/\jJ ls us/\jJ ms ts
 | [],_,vs,h=>⟨[],vs,rfl,rfl,h⟩
 |l::ls,ms,vs,h=>by
  obtain⟨v,us,rfl,h1,h2⟩:=h
  obtain⟨a,b,rfl,c,d⟩:=zD h2
  exact⟨v::a,b,rfl,⟨v,a,rfl,h1,c⟩,d⟩
theorem Df{P:Program}{vL:TypeId->au (O c8)}{cs:O aa}{R:TypeId->O aa->Prop}(c:∀ {T:TypeId}{ls:O c8}{us:O aa},vL T=some ls->R T us->jJ ls us):
 ∀ {fs:O Field}{o:Nat}{ls:O c8},kz vL P fs o=some ls->o+ls.length=cs.length->(∀f∈fs,R f.type ((cs.drop f.offset).take (P.cellsOf f.type)))->jJ ls (cs.drop o)
 | [],o,ls,h,a,_=>by
  simp only[kz,Option.some.injEq]at h
  subst h
  exact uX (by simp at a;omega)
 |f::fs,o,ls,h,a,d=>by
  simp only[kz]at h
  split at h
  .cases h
  .rename_i hf
   have i:f.offset=o:=by
    by_cases e:f.offset=o
    .exact e
    .exact absurd (.inr e) hf
   subst i;split at h
   .rename_i ms j
    split at h
    .rename_i hc
     cases b:kz vL P fs (f.offset+ms.length) with
     |none=>simp[b]at h
     |some k=>
      simp only[b,mq,Option.some.injEq]at h;subst h;have h1:=c j (d f U9);have h2:=Df c (fs:=fs) (cs:=cs) b (by simp at a;omega) (λg hg=>d g (by simp[hg]));rw[hc]at h1;have:=zC h1 h2;rwa[←lu,ga]at this
    .cases h
   .cases h
theorem Dg{ls:O c8}{cs:O aa}:∀ {n i:Nat},(∀j,i<=j->j<i+n->jJ ls ((cs.drop (j*ls.length)).take ls.length))->cs.length=(i+n)*ls.length->jJ (og ls n) (cs.drop (i*ls.length))
 |0,i,_,a=>uX (by simp at a;omega)
 |n+1,i,h,a=>by
  have h1:=h i (bk _) I
  have h2:=Dg (n:=n) (i:=i+1) (λj h1 h2=>h j I I) (by rw[a];congr 1;omega)
  have:=zC h1 h2
  rw[show(i+1)*ls.length=i*ls.length+ls.length by rw[jT,Nat.one_mul],←lu,ga]at this
  exact this
theorem zE{P:Program}{w:J}:∀ (d:Nat) {T:TypeId}{ls:O c8}{fuel:Nat}{cs:O aa},gl P d T=some ls->P.cellsOf T=ls.length->fR P w fuel T cs->jJ ls cs
 |0,_,_,_,_,h,_,_=>by cases h
 |d+1,T,ls,fuel,cs,h,m,a=>by
  cases fuel with
  |zero=>cases a
  |succ f=>
   simp only[gl]at h
   cases hu:P.underlying T with
   |none=>simp[hu]at h
   |some u=>
    rw[hu]at h
    cases u with
    |int k=>
     simp only[Option.some.injEq]at h;subst h
     simp only[fR,hu]at a
     obtain⟨n,rfl,h1,h2⟩:=a
     exact⟨_,_,rfl,⟨n,rfl,h1,h2⟩,rfl⟩
    |bool=>
     simp only[Option.some.injEq]at h;subst h
     simp only[fR,hu]at a
     obtain⟨b,rfl⟩:=a
     exact⟨_,_,rfl,⟨b,rfl⟩,rfl⟩
    |string=>
     simp only[Option.some.injEq]at h;subst h
     simp only[fR,hu]at a
     obtain⟨s,rfl,h1⟩:=a
     exact⟨_,_,rfl,⟨s,rfl,h1⟩,rfl⟩
    |struct fs=>
     simp only at h
     split at h
     .cases h
     .simp only[fR,hu]at a
      have:=Df (P:=P) (cs:=cs) (vL:=λT=>if (gl P d T).isSome/\∀ms,gl P d T=some ms->P.cellsOf T=ms.length then gl P d T else none) (R:=λT us=>fR P w f T us) (λ{T}{ls}{us} h1 h2=>by
       split at h1
       .rename_i q;exact zE d h1 (q.2 _ h1) h2
       .cases h1) (fs:=fs.toList) (o:=0) (ls:=ls) (by
        have key:∀ (fs:O Field) (o:Nat) (ls:O c8),kz (gl P d) P fs o=some ls->kz (λT=>if (gl P d T).isSome/\∀ms,gl P d T=some ms->P.cellsOf T=ms.length then gl P d T else none) P fs o=some ls:=by
         intro fs
         induction fs with
         |nil=>intro o ls h;exact h
         |cons g fs r=>
          intro o ls h;simp only[kz]at h⊢;split at h
          .cases h
          .rename_i hg
           rw[if_neg hg];split at h
           .rename_i ms c
            split at h
            .rename_i hc
             have t:(gl P d g.type).isSome/\∀ms,gl P d g.type=some ms->P.cellsOf g.type=ms.length:=by
              refine⟨by simp[c],λv p=>?_⟩;rw[c]at p;cases p;exact hc
             rw[if_pos t,c];simp only;rw[if_pos hc]
             cases l:kz (gl P d) P fs (o+ms.length) with
             |none=>rw[l]at h;cases h
             |some x=>rw[l]at h;rw[r _ _ l];exact h
            .cases h
           .cases h
        exact key _ _ _ h) (by rw[a.1,m];simp) (λg hg=>a.2 g (by simpa using hg))
      simpa using this
    |array n e=>
     simp only at h;split at h
     .rename_i ms c
      split at h
      .rename_i hc
       simp only[Option.some.injEq]at h;subst h;simp only[fR,hu]at a;have:=Dg (ls:=ms) (cs:=cs) (n:=n) (i:=0) (λj _ y=>by
        have:=a.2 j I;rw[hc]at this;exact zE d c hc this) (by rw[a.1,m,C_];simp)
       simpa using this
      .cases h
     .cases h
    |_=>cases h
theorem Dh:∀ {n:Nat}{cs:O aa},jJ (List.replicate n (.int .u8)) cs->∃l:O UInt8,l.length=n/\cs=l.map λb=>Value.int .u8 ((b.toNat:Nat):Int)
 |0,cs,h=>⟨[],rfl,h⟩
 |n+1,cs,h=>by
  obtain⟨v,us,rfl,⟨z,rfl,h0,h1⟩,h2⟩:=h
  obtain⟨l,a,rfl⟩:=Dh h2
  obtain⟨h0,h1⟩:=vG h0 h1
  refine⟨UInt8.ofNat z.toNat::l,by simp[a],?_⟩
  simp only[hJ,List.cons.injEq,Value.int.injEq,true_and,and_true]
  have e:(UInt8.ofNat z.toNat).toNat=z.toNat:=by simp;omega
  omega
end aS
namespace aS
open Go Go.RowKit
section
variable {α:Type}{P:Program}{w:J}{iB fv T:TypeId}{enc:α->aa}
def ec(enc:α->aa)(x:α×aa×Nat):MapEntry:=⟨enc x.1,x.2.1,x.2.2⟩
def mE(x:α×aa×Nat):α×aa:=(x.1,x.2.1)
def nm[DecidableEq α](k:α):O (α×aa×Nat)->Nat->au (Nat×aa)
 | [],_=>none
 |x::L,i=>if k=x.1 then some (i,x.2.1) else nm k L (i+1)
theorem Di{β:Type}(f:β->β)(x:β)(bK:O β):∀bn:O β,(bn++x::bK).modify bn.length f=bn++f x::bK
 | []=>rfl
 |y::bn=>by
  show y::((bn++x::bK).modify bn.length f)=_
  rw[Di f x bK bn];rfl
structure om[DecidableEq α](P:Program)(iB:TypeId)(enc:α->aa):Prop where
 find:∀ (L:O (α×aa×Nat)) (k:α) (w:J),(Instr.findKey iB (enc k) (L.map (ec enc))).run P w=.ok (nm k L 0) w
 check:∀ (b:ao) (k:α) (w:J),(Instr.checkKey b 10000 iB (enc k)).run P w=.ok () w
 bits:∀k,Instr.sameBits 10000 (enc k) (enc k)=true
theorem zF[DecidableEq α]{k:α}:∀ {L:O (α×aa×Nat)}{i:Nat},(∀x∈L,x.1≠k)->nm k L i=none
 | [],_,_=>rfl
 |x::L,i,h=>by
  rw[nm,if_neg (λe=>h x U9 e.symm)]
  exact zF λy a=>h y (by simp[a])
theorem zG[DecidableEq α]{k:α}{v:aa}{n:Nat}{bK:O (α×aa×Nat)}:∀ {bn:O (α×aa×Nat)}{i:Nat},(∀x∈bn,x.1≠k)->nm k (bn++(k,v,n)::bK) i=some (i+bn.length,v)
 | [],i,_=>by simp[nm]
 |x::L,i,h=>by
  rw[m0,nm,if_neg (λe=>h x U9 e.symm),zG λy a=>h y (by simp[a])]
  simp;omega
theorem om.int{k:IntKind}(hu:P.underlying iB=some (.int k)):om P iB (λn:Int=>Value.int k n) where
 find L n w:=by
  have h:∀ (L:O (Int×aa×Nat)) (i:Nat),Instr.findNow (.int k) (.int k n) (L.map (ec λn:Int=>Value.int k n)) i=some (nm n L i):=by
   intro L
   induction L with
   |nil=>intro i;rfl
   |cons x L a=>
    intro i;simp only[hJ,Instr.findNow,ec,Instr.sameNow,if_true,nm];by_cases hx:n=x.1
    .subst hx;simp
    .rw[if_neg hx,show(n==x.1)=false by simpa using hx]
     exact a (i+1)
  simp[Instr.findKey,di hu,h]
 check b n w:=by
  show(Instr.checkKey b (9999+1) iB (.int k n)).run P w=_;unfold Instr.checkKey;simp only[Sem.run_bind,di hu,Result.andThen];rfl
 bits n:=by
  show(k==k&&n==n)=true;simp
def eK(w:J)(r:Nat)(enc:α->aa)(M:O (α×aa)):Prop:=
 ∃ (L:O (α×aa×Nat)) (a:Nat),w.heap[r]? =some (.map (L.map (ec enc)).toArray a)/\(L.map mE).Perm M/\(L.map (·.1)).Nodup/\(L.map (·.2.2)).Nodup/\∀x∈L,x.2.2<a
def HJ(w:J)(r:Nat)(enc:α->aa)(M:O (α×aa))(k:α)(v:aa)(st:Int):Prop:=
 ∃ (bn bK:O (α×aa×Nat)) (n a:Nat),w.heap[r]? =some (.map ((bn++(k,v,n)::bK).map (ec enc)).toArray a)/\((bn++bK).map mE).Perm M/\((bn++(k,v,n)::bK).map (·.1)).Nodup/\((bn++(k,v,n)::bK).map (·.2.2)).Nodup/\(∀x∈bn++(k,v,n)::bK,x.2.2<a)/\st=(n:Int)
variable {r:Nat}{M iC:O (α×aa)}{k:α}{v:aa}{st:Int}{w':J}
theorem eK.lt(h:eK w r enc M):r<w:=by
 obtain⟨L,a,h,_⟩:=h;exact(mn.1 h).1
theorem eK.ah{W:U1}(h:eK w r enc M)(hc:ag W w w')(a:¬W r):eK w' r enc M:=by
 have b:=h.lt;obtain⟨L,c,h,d⟩:=h;exact⟨L,c,by rw[hc.block r b a];exact h,d⟩
theorem eK.ext(h:eK w r enc M)(hc:Ext w w'):eK w' r enc M:=h.ah hc id
theorem eK.perm(h:eK w r enc M)(a:M.Perm iC):eK w r enc iC:=by
 obtain⟨L,b,h,h1,c⟩:=h;exact⟨L,b,h,h1.trans a,c⟩
theorem eK.split(h:eK w r enc ((k,v)::M)):∃n,HJ w r enc M k v (n:Nat):=by
 obtain⟨L,b,h,h1,h2,c,d⟩:=h;have e:(k,v)∈L.map mE:=h1.mem_iff.2 U9;obtain⟨x,hx,a⟩:=eJ.1 e;obtain⟨bn,bK,rfl⟩:=List.append_of_mem hx;obtain⟨f,g,n⟩:=x;simp only[mE,Prod.mk.injEq]at a;obtain⟨rfl,rfl⟩:=a;refine⟨n,bn,bK,n,b,h,?_,h2,c,d,rfl⟩;rw[fP,hJ]at h1;have:=(n0.symm.trans h1);rw[fP];exact this.cons_inv
theorem eK.keys(h:eK w r enc M):(M.map (·.1)).Nodup:=by
 obtain⟨L,a,h,h1,h2,b,c⟩:=h;have:=h1.map (·.1);rw[iW]at this;exact this.nodup_iff.1 h2
theorem eK.HK(a:(k,v)∈M):∃iC,M.Perm ((k,v)::iC):=by
 obtain⟨A,B,rfl⟩:=List.append_of_mem a;exact⟨A++B,n0⟩
def js(w:J)(r:Nat)(o:Obj):J:={w with heap:=w.heap.setIfInBounds r o}
theorem tm(w:J)(r:Nat)(o:Obj):ag (λq=>q=r) w (js w r o):=
 ⟨rfl,rfl,rfl,by simp[js],λk _ a=>by
  have:¬r=k:=λe=>a e.symm
  simp[js,this]⟩
theorem vM(w:J)(r:Nat)(o:Obj):(js w r o).heap.size=w:=by simp[js]
theorem vN{w:J}{r:Nat}(h:r<w)(o:Obj):(js w r o).heap[r]? =some o:=by simp[js,h]
theorem nn{es:Array MapEntry}{a:Nat}(h:w.heap[r]? =some (.map es a)):(getObj r).run P w=.ok (.map es a) w:=by simp[getObj,Sem.run,h]
theorem zH{es:Array MapEntry}{a:Nat}(h:w.heap[r]? =some (.map es a))(o:Obj):(setObj r o).run P w=.ok () (js w r o):=by simp[setObj,Sem.run,h,js]
theorem Dj{bn bK:O (α×aa×Nat)}{x:α×aa×Nat}(h:((bn++x::bK).map (·.1)).Nodup):∀y∈bn,y.1≠x.1:=by
 intro y a e;rw[fP,hJ,o8]at h;exact h.2.2 _ (List.mem_map_of_mem a) _ (o9 ..) e
theorem Dk{L:O (α×aa×Nat)}(h1:(L.map mE).Perm M)(a:∀v,(k,v)∉M):∀x∈L,x.1≠k:=by
 intro x hx e;refine a x.2.1 (h1.mem_iff.1 (eJ.2 ⟨x,hx,?_⟩));simp[mE,e]
theorem eK.make(T:TypeId)(w:J):(Instr.makeMap T none).run P w=.ok (.map (some w)) (w.alloc (.map #[] 0))/\eK (w.alloc (.map #[] 0)) w enc ([]:O (α×aa)):=by
 refine⟨by simp[Instr.makeMap],[],0,?_,by simp,by simp,by simp,by simp⟩;show(w.heap.push (.map #[] 0))[w.heap.size]? =_;simp
theorem eK.zI[DecidableEq α](a:om P iB enc)(b:P.underlying T=some (.map iB fv))(h:eK w r enc M)(c:(k,v)∈M)(ok:ao):
 (Instr.lookup T (.map (some r)) (enc k) ok).run P w=.ok (if ok then .tuple #[v,.bool true] else v) w:=by
 obtain⟨iC,d⟩:=eK.HK c;obtain⟨n,bn,bK,e,f,h,h1,h2,g,i,_⟩:=(h.perm d).split;have hf:=a.find (bn++(k,v,e)::bK) k w;rw[zG (Dj h2)]at hf;simp only[Instr.lookup,Sem.run_bind,di b,Result.andThen,nn h,Sem.run_pure,a.check,hf]
theorem eK.Dl[DecidableEq α](a:om P iB enc)(b:P.underlying T=some (.map iB fv)){i:TypeInfo}{z:aa}(hi:P.info? fv=some i)(c:i.zero=some z)(h:eK w r enc M)(d:∀v,(k,v)∉M)(ok:ao):
 (Instr.lookup T (.map (some r)) (enc k) ok).run P w=.ok (if ok then .tuple #[z,.bool false] else z) w:=by
 obtain⟨L,e,h,h1,h2,f,g⟩:=h;have hf:=a.find L k w;rw[zF (Dk h1 d)]at hf;simp only[Instr.lookup,Sem.run_bind,di b,Result.andThen,nn h,Sem.run_pure,a.check,hf,zeroValue,n4 hi,c]
end
end aS
namespace aS
open Go Go.RowKit
variable{e T:TypeId}{sz n b o:Nat}{A:af}{s:ad}{w:J}{c:Array aa}{vs:O aa}
theorem Dm(c:Array aa):∀ (vs:O aa) (i:Nat) (c:Array aa),(gV c i vs).toList.drop (i+vs.length)=c.toList.drop (i+vs.length)
 | [],_,_=>rfl
 |v::vs,i,c=>by
  simp only[gV,fi]
  rw[show i+(vs.length+1)=i+1+vs.length from I,Dm c vs (i+1) (c.setIfInBounds i v)]
  rw[Array.toList_setIfInBounds,List.drop_set]
  rw[if_pos I]
theorem l1(vs:O aa)(c:Array aa)(i:Nat)(h:i+vs.length<=c.size):(gV c i vs).toList=c.toList.take i++vs++c.toList.drop (i+vs.length):=by
 rw[←ga (i+vs.length) (gV c i vs).toList,te vs c i h,Dm c]
section
variable {P:Program}{w:J}
theorem vO{np cS ty:TypeId}{d:TypeDesc}(hd:P.underlying np=some (.slice e))(he:P.underlying e=some d)(g:P.cellsOf e=sz){dl pF:Nat}{x:ad}(h:Nat.min x.len dl=n){xs:O aa}(hx:Src sz w ⟨x.a,n,x.cap⟩ xs)(b:bp w A xs):
 Sem.run P (Builtin.copy_ #[np,cS] ty #[.slice (some A) dl pF,.slice x.a x.len x.cap]) w=.ok (.int .i64 ((n:Nat):Int)) (setCells w A 0 xs):=by
 have f:=iA (w:=w) he;rw[g]at f;have hf:Sem.run P (Builtin.firstCells sz n (.slice x.a x.len x.cap)) w=.ok xs.toArray w:=by
  obtain⟨a,l,c⟩:=x
  cases a<;>exact q8 (P:=P) hx
 have i:=qU (P:=P) (A:=A) xs 0 w (by simpa using b.1) b.2;simp only[Builtin.copy_,sL,nX,o6,Sem.run_bind,di hd,Result.andThen,Builtin.lenOf,Sem.run_pure,h,f,hf,i];rfl
set_option maxRecDepth 4000 in
theorem HL{gT:Array TypeId}{cB cS kW:TypeId}{i:TypeInfo}{k:IntKind}{z:aa}{c:O aa} (h0:gT[0]? =some cS) (h1:gT[1]? =some kW)
 (hs:P.underlying cS=some (.slice e)) (hx:P.underlying kW=some (.int k)) (hi:P.info? e=some i) (hd:(P.underlying e).isSome=true) (h:i.zero=some z) (j:z.cells.size=sz) (p:P.cellsOf e=sz)
 (r:i.bytes≠0) (hold:Src sz w s c) (t:s.cap<s.len+n) (l:(2*(s.len+n)+1000)*i.bytes<=281474976710656):
 ∃ (b:Nat) (zs rest:O aa),s.len+n<=b/\b<=maxLen/\zs.length=n*sz/\rest.length=(b-(s.len+n))*sz/\
  Sem.run P (Builtin.append_ gT cB #[.slice s.a s.len s.cap,.int .i64 ((n:Nat):Int)]) w=
   .ok (.slice (some ⟨w,0,none⟩) (s.len+n) b) (w.drew.alloc (.cells (c++zs++rest).toArray e)):=by
 obtain⟨d,hd⟩:=kV _ hd;have m:=iA (w:=w) hd;rw[p]at m;have u:=C4 t;have S:Builtin.nextslicecap (s.len+n) s.cap*i.bytes<=281474976710656:=eO (nZ _ u) l;have T:s.len+n<=281474976710656:=by
  have:s.len+n<=(2*(s.len+n)+1000)*i.bytes:=by
   have:=Nat.mul_le_mul_left (2*(s.len+n)+1000) (Nat.one_le_iff_ne_zero.2 r);omega
  omega
 have v:n*i.bytes<=281474976710656:=eO (nZ _ (by omega:n<=2*(s.len+n)+1000)) l
 let q:Question:=.appendCap (s.len+n) s.cap e
 let b:Nat:=q.cut (w.tape w.drawn q)
 have x:q.forced=false:=rfl;have A:s.len+n<=b:=by show s.len+n<=s.len+n+_;omega
 have B:b<=maxLen:=by
  show s.len+n+_%(2^63-(s.len+n))<=2^63-1;have:=hG (w.tape w.drawn q) (y:=2^63-(s.len+n)) I;omega
 have C:Src sz w.drew s c:=hold.ext (ag.drew (.refl _ _));have D:=q8 (P:=P) C;have E:∀n (w':J),(askRoom n).run P w'=.ok () w':=λn w'=>by unfold askRoom;split<;>rfl
 have F:(choose q).run P w=.ok b w.drew:=by
  show Sem.run P (.choose q .pure) w=_;simp only[Sem.run,x,gv,if_false];rfl
 have f:=λw:J=>n4 (w:=w) hi;refine⟨b,if n*sz=0 then [] else (Builtin.zeroCells z.cells n).toList,(Builtin.zeroCells z.cells (b-(s.len+n))).toList,A,B,?_,by simp[Builtin.zeroCells,j],?_⟩
 .split
  .rename_i h0;simp[h0]
  .simp[Builtin.zeroCells,j]
 have G:IntKind.i64.wrap ((n:Nat):Int)=(n:Int):=bq I I;have H:¬((n:Int)<0):=I
 have K:¬((n:Int)*(i.bytes:Int)>2^48):=by
  have:((n*i.bytes:Nat):Int)<=((281474976710656:Nat):Int):=Int.ofNat_le.2 v;rw[Int.natCast_mul]at this;have L:(2:Int)^48=((281474976710656:Nat):Int):=by decide+kernel
  rw[L];omega
 have M:¬(s.len+n<=s.cap):=I
 have N:¬((s.len+n:Nat):Int)>IntKind.i64.max:=by
  simp[IntKind.max,IntKind.signed,IntKind.bits];omega
 have Q:¬Builtin.nextslicecap (s.len+n) s.cap*i.bytes>2^48:=by
  have:(2:Nat)^48=281474976710656:=by decide+kernel
  omega
 have R:Sem.run P (choose (.appendCap (s.len+n) s.cap e)) w=.ok b w.drew:=F;unfold Builtin.append_;simp only[sL,nX,o6,h0,h1,Sem.run_bind,di hs,di hx,Result.andThen,m,Sem.run_pure,asInt,asIntOf,G,H,if_false,f,K,c2,M,N,false_and,Q,if_true,Bool.not_true,gv,R,E,D];by_cases o:n*sz=0
 .simp only[o,if_true,Sem.run_pure,zeroValue,f,h,Sem.run_bind,Result.andThen,newRow,newObj,Sem.run]
  have g:w.drew.heap.size=w:=rfl;rw[g]
  congr 1
  show w.drew.alloc _=w.drew.alloc _
  congr 2
  simp
 .simp only[o,if_false,Sem.run_pure,zeroValue,f,h,Sem.run_bind,Result.andThen,newRow,newObj,Sem.run]
  have g:w.drew.heap.size=w:=rfl;rw[g]
  congr 1
  show w.drew.alloc _=w.drew.alloc _
  congr 2
  simp
theorem HM{o:TypeId}{i:TypeInfo}{z:aa}{c:Nat}(a:P.underlying T=some (.slice e))(hi:P.info? e=some i)(b:i.zero=some z)(d:z.cells.size=sz)(f:n≠0)
 (g:∀zs:O aa,zs=(Builtin.zeroCells z.cells n).toList->bp w A zs):
 ∃zs:O aa,zs.length=n*sz/\Sem.run P (Builtin.clear_ #[T] o #[.slice (some A) n c]) w=.ok (.tuple #[]) (setCells w A 0 zs):=by
 refine⟨(Builtin.zeroCells z.cells n).toList,by simp[Builtin.zeroCells,d],?_⟩;have hs:=g _ rfl;have h:=qU (P:=P) (A:=A) _ 0 w (by simpa using hs.1) hs.2
 cases n with
 |zero=>exact absurd rfl f
 |succ n=>
  simp only[Builtin.clear_,sL,nX,Sem.run_bind,di a,Result.andThen,zeroValue,n4 hi,b,Sem.run_pure,h]
end
theorem zJ(a:au af)(z c:Nat):a7 a z 0 c=a:=by
 unfold a7;split
 .rfl
 .cases a with
  |none=>rfl
  |some A=>simp[add_zero']
theorem bu.tn(h:bu w b c T){cap:Nat}(d:o+n*sz<=c.size):Src sz w ⟨some ⟨b,o,none⟩,n,cap⟩ ((c.toList.drop o).take (n*sz)):=by
 refine⟨by simp;omega,(λh=>by cases h),λa e=>?_⟩
 cases e;have:=q7 h (n*sz) o 0 (by simpa using d);simpa using this
theorem bu.kB(h:bu w b c T)(vs:O aa):bu (setCells w ⟨b,o,none⟩ 0 vs) b (gV c o vs) T:=by
 simpa using bu.tc vs o 0 h
theorem aR.mk'{cap:Nat}(a:bu w b c T)(d:vs.length=n*sz)(e:n<=cap)(hc:cap<=maxLen)(hs:c.size=cap*sz)(f:c.toList.take (n*sz)=vs):aR sz T w ⟨some ⟨b,0,Option.none⟩,n,cap⟩ vs:=
 ⟨d,e,hc,.inr ⟨b,c,rfl,a,hs,f⟩⟩
theorem Dn(A:af)(a b:Nat):(A.add a).add b=A.add (a+b):=by
 unfold Addr.add;by_cases c:a=0
 .subst c;simp
 .by_cases d:b=0
  .subst d;simp
  .simp[c,d,Nat.add_assoc]
theorem tp:∀ {n i:Nat}{vs:O aa}{j:Nat}{v:aa},bf w A i n=some vs->vs[j]? =some v->w.cell? (A.add (i+j))=some v
 |0,_,vs,j,v,h,a=>by simp[bf]at h;subst h;simp at a
 |n+1,i,vs,j,v,h,a=>by
  simp only[bf]at h
  cases h1:w.cell? (A.add i) with
  |none=>simp[h1]at h
  |some u=>
   cases h2:bf w A (i+1) n with
   |none=>simp[h1,h2]at h
   |some us=>
    simp only[h1,h2,Option.some.injEq]at h
    subst h
    cases j with
    |zero=>simp at a;subst a;exact h1
    |succ j=>
     have:=tp h2 (j:=j) (v:=v) (by simpa using a)
     rwa[show i+(j+1)=i+1+j from I]
theorem zK:∀ (n i:Nat) (vs:O aa),vs.length=n->(∀j v,vs[j]? =some v->w.cell? (A.add (i+j))=some v)->bf w A i n=some vs
 |0,i,vs,a,_=>by
  cases vs with
  |nil=>simp[bf]
  |cons _ _=>simp at a
 |n+1,i,vs,a,h=>by
  cases vs with
  |nil=>simp at a
  |cons v vs=>
   simp only[bf]
   rw[show w.cell? (A.add i)=some v from h 0 v rfl,zK n (i+1) vs (by simpa using a) (λj x hx=>by have:=h (j+1) x (by simpa using hx);rwa[show i+(j+1)=i+1+j from I]at this)]
theorem zL{k m:Nat}(h:bf w A 0 n=some vs)(b:k+m<=n):bf w (A.add k) 0 m=some ((vs.drop k).take m):=by
 have c:=td h;refine zK m 0 _ (by simp;omega) λj v a=>?_;rw[Dn,show k+(0+j)=0+(k+j) from I];refine tp h ?_;rw[uW]at a;split at a
 .rwa[uT]at a
 .cases a
theorem HN{a:Nat}(h:a+b<=4000000):IntKind.wrap .i64 (Int.fdiv (IntKind.wrap .u64 (IntKind.wrap .i64 ((a:Int)+(b:Int)))) (2^(min (Int.toNat 1) 64)))=(((a+b)/2:Nat):Int):=by
 rw[bq (n:=(a:Int)+b) I I,gF I I];have e:(2:Int)^(min (Int.toNat 1) 64)=2:=rfl;rw[e,Int.fdiv_eq_ediv_of_nonneg _ I,bq I I];omega
section
variable {w:J}
theorem aR.HO{aq:TypeId}{q:Nat}(h:aR sz T w s vs)(a:aD s q)(d:bu w q c aq):T=aq:=by
 obtain⟨A,av,rfl⟩:=a;obtain⟨_,_,_,e⟩:=h;obtain⟨f,_⟩|⟨b,c',g,i,_⟩:=e
 .rw[f]at av;cases av
 .rw[g]at av;cases av
  exact(bu.inj i d).2
end
theorem HP{m i:Nat}{xs ys:O aa}(h1:bf w A i n=some xs)(h2:bf w (A.add (i+n)) 0 m=some ys):bf w A i (n+m)=some (xs++ys):=by
 have jq:=td h1;have b:=td h2;refine zK (n+m) i _ (by rw[cz,jq,b]) λj v a=>?_;rw[List.getElem?_append]at a;split at a
 .exact tp h1 a
 .rename_i c
  have:=tp h2 a;rw[Dn]at this;rwa[show i+n+(0+(j-xs.length))=i+j from I]at this
theorem oe.src{P:Program}{α:Type}{c:α->O aa}(h:oe P w e s)(k:P.cellsOf e=sz)(R:α->Prop)(m:∀fuel vs,fR P w fuel e vs->∃x:α,vs=c x/\R x):
 ∃l:O α,Src sz w s (l.map c).flatten/\l.length=s.len/\∀x∈l,R x:=by
 have i:=h.cell;rw[k]at i;have key:∀a,s.a=some a->∀n,n<=s.len->∃l:O α,bf w a 0 (n*sz)=some (l.map c).flatten/\l.length=n/\∀x∈l,R x:=by
  intro a d n
  induction n with
  |zero=>intro _;exact⟨[],by simp[bf],rfl,λr f=>by cases f⟩
  |succ n o=>
   intro u;obtain⟨l,h1,g,h2⟩:=o I;obtain⟨vs,p,fuel,q⟩:=i a d n (U4 h.le);obtain⟨r,rfl,t⟩:=m fuel vs q;refine⟨l++ [r],?_,by simp[g],λx hx=>?_⟩
   .rw[Nat.succ_mul,HP h1 (by rw[cA];exact p)]
    simp
   .rcases cR.1 hx with hx|hx
    .exact h2 x hx
    .rw[e8.1 hx];exact t
 cases b:s.a with
 |none=>
  have h0:s.len=0:=U5 (h.nil b) h.le
  exact⟨[],⟨by simp[h0],λ_=>rfl,λa d=>(by rw[b]at d;cases d)⟩,h0.symm,λr f=>by cases f⟩
 |some a=>
  obtain⟨l,h1,g,h2⟩:=key a b s.len (bk _);exact⟨l,⟨td h1,λe=>(by rw[b]at e;cases e),λv j=>by rw[b]at j;cases j;exact h1⟩,g,h2⟩
theorem q_{P:Program}{fuel:Nat}{cs:O aa}{fs:Array Field}(h:fR P w fuel T cs)(a:P.underlying T=some (.struct fs))(i:Nat){t:Nat}(hf:(fs[i]?).map (λf=>(f.type,f.offset))=some (t,o))(b:P.cellsOf t=n):∃fuel,fR P w fuel t ((cs.drop o).take n):=by
 obtain⟨_,c⟩:=C8 h a
 cases hg:fs[i]? with
 |none=>rw[hg]at hf;cases hf
 |some f=>
  rw[hg]at hf;simp only[mq,Option.some.injEq,Prod.mk.injEq]at hf;obtain⟨rfl,rfl⟩:=hf;have:=c f (Array.mem_of_getElem? hg);rwa[b]at this
def fieldsOf(P:Program)(T:TypeId):Array Field:=match P.underlying T with
 |some (.struct fs)=>fs
 |_=> #[]
end aS
