/- What a Go program of the model must show, as text that can be read; sound against the kit. -/
import Derived.Carry
import Derived.ChangeArms
import Derived.ChangeVars
import Derived.Defers
import Derived.LaidLaws
import Derived.Laws.StructEq
import Derived.Lib.Overlaps
import Derived.MakeChecks
import Derived.WideKeyRuns
import Derived.Test.YtbjddgakboindaaGreatKLNone1
namespace aQ
open Go Go.RowKit
def kC(gw:TypeId->aq (O c4))(P:Program):O Field->Nat->aq (O c4)
 | [],_=>some []
 |f::fs,o=>if f.name= "_" \/f.offset≠o then none else
  match gw f.type with
  |some ls=>if P.cellsOf f.type=ls.length then (kC gw P fs (o+ls.length)).map (ls++ ·) else none
  |none=>none
def oI(ls:O c4):Nat->O c4
 |0=> []
 |n+1=>ls++oI ls n
def gw(P:Program):Nat->TypeId->aq (O c4)
 |0,_=>none
 |d+1,T=>match P.underlying T with
  |some (.int k)=>some [.int k]
  |some .bool=>some [.bool]
  |some .string=>some [.str]
  |some (.struct fs)=>if P.stoodInHeld T then none else kC (gw P d) P fs.toList 0
  |some (.array n e)=>match gw P d e with
   |some ls=>if P.cellsOf e=ls.length then some (oI ls n) else none
   |none=>none
  |_=>none
def wN:c4->Y->Prop
 | .int k,v=>∃n:Int,v=.int k n
 | .bool,v=>∃b:aj,v=.bool b
 | .str,v=>∃s:ByteArray,v=.string s
 |_,_=>False
def ed:O c4->O Y->Prop
 | [],vs=>vs=[]
 |l::ls,vs=>∃v us,vs=v::us/\wN l v/\ed ls us
theorem uj:∀ {ls:O c4}{vs:O Y},ed ls vs->vs.length=ls.length
 | [],_,h=>by cases h;rfl
 |_::_,_,h=>by
  obtain⟨v,us,rfl,_,h⟩:=h
  simp[uj h]
theorem uk:∀ {ls ms:O c4}{vs:O Y},ed (ls++ms) vs->ed ls (vs.take ls.length)/\ed ms (vs.drop ls.length)
 | [],_,_,h=>⟨rfl,h⟩
 |l::ls,ms,vs,h=>by
  obtain⟨v,us,rfl,h1,a⟩:=h
  obtain⟨b,c⟩:=uk a
  exact⟨⟨v,_,rfl,h1,b⟩,c⟩
theorem um:∀ {ls ms:O c4}{vs us:O Y},ed ls vs->ed ms us->ed (ls++ms) (vs++us)
 | [],_,_,_,h,a=>by cases h;exact a
 |l::ls,ms,vs,us,h,a=>by
  obtain⟨v,vs,rfl,h1,h⟩:=h
  exact⟨v,_,rfl,h1,um h a⟩
def oJ:Y->Y->aj
 | .int _ a,.int _ b=>a==b
 | .bool a,.bool b=>a==b
 | .string a,.string b=>a.toList==b.toList
 |_,_=>false
def fN:O Y->O Y->aj
 | [],_=>true
 |a::as,b::bs=>oJ a b&&fN as bs
 |_::_,[]=>false
theorem IJ{l:c4}{a b:Y}(c:wN l a)(hb:wN l b):oJ a b=true↔a=b:=by
 cases l<;>simp only[wN]at c hb<;>try exact c.elim
 .obtain⟨n,rfl⟩:=c;obtain⟨m,rfl⟩:=hb;simp[oJ]
 .obtain⟨n,rfl⟩:=c;obtain⟨m,rfl⟩:=hb;simp[oJ]
 .obtain⟨n,rfl⟩:=c;obtain⟨m,rfl⟩:=hb
  simp only[oJ,jy,Value.string.injEq];rw[ByteArray.toList_eq,ByteArray.toList_eq];obtain⟨⟨x⟩⟩:=n;obtain⟨⟨y⟩⟩:=m;simp
theorem uo:∀ {ls:O c4}{as bs:O Y},ed ls as->ed ls bs->(fN as bs=true↔as=bs)
 | [],_,_,h1,c=>by cases h1;cases c;simp[fN]
 |l::ls,_,_,h1,c=>by
  obtain⟨a,as,rfl,d,e⟩:=h1
  obtain⟨b,bs,rfl,f,g⟩:=c
  simp[fN,IJ d f,uo e g]
theorem AR:∀ {as bs cs ds:O Y},as.length=bs.length->fN (as++cs) (bs++ds)=(fN as bs&&fN cs ds)
 | [],[],_,_,_=>by simp[fN]
 |a::as,b::bs,cs,ds,h=>by
  simp only[tx,fN]
  rw[AR (by simpa using h),Bool.and_assoc]
 | [],_::_,_,_,h=>by simp at h
 |_::_,[],_,_,h=>by simp at h
def mn(P:Program)(T:TypeId)(cs:O Y):Y:=
 match P.underlying T with
 |some d=>if hK d then .agg cs.toArray else cs.headD undef
 |none=>undef
section
variable {P:Program}
theorem pV{T:TypeId}{d:TypeDesc}{cs:O Y}(h:P.underlying T=some d)(a:hK d=true):mn P T cs=.agg cs.toArray:=by
 simp[mn,h,a]
theorem pW{T:TypeId}{d:TypeDesc}{v:Y}(h:P.underlying T=some d)(a:hK d=false):mn P T [v]=v:=by
 simp[mn,h,a]
theorem wO{T:TypeId}{cs us:O Y}{off:Nat}{d:TypeDesc}(a:P.underlying T=some d)(b:P.cellsOf T=us.length)(c:hK d=false->us.length=1)
 (h:(cs.drop off).take us.length=us) (w:I):(part T cs.toArray off).run P w=.ok (mn P T us) w:=by
 cases hd:hK d with
 |true=>
  rw[pV a hd];have e:cs.toArray.extract off (off+us.length)=us.toArray:=by
   simp[h]
  simp[part,rv a,hd,iq a,b,h]
 |false=>
  obtain⟨v,rfl⟩:=List.length_eq_one_iff.1 (c hd);rw[pW a hd];have f:cs[off]? =some v:=by
   have:((cs.drop off).take 1)[0]? =some v:=by
    have g:List.take 1 (List.drop off cs)=[v]:=h;rw[g];rfl
   rw[List.getElem?_take_of_lt J,vT]at this;simpa using this
  simp[part,rv a,hd,f]
theorem flat_agg{d:Nat}{T:TypeId}{ls:O c4}(h:gw P d T=some ls):∃u,P.underlying T=some u/\(hK u=false->ls.length=1):=by
 cases d with
 |zero=>cases h
 |succ d=>
  simp only[gw]at h
  cases hu:P.underlying T with
  |none=>simp[hu]at h
  |some u=>
   refine⟨u,rfl,λa=>?_⟩;rw[hu]at h
   cases u<;>simp only[hK,reduceCtorEq]at a h<;>first|(cases h;rfl)|cases h
theorem Eh{d D:Nat}(g:∀ {T:TypeId}{ls:O c4}{xs ys:O Y},gw P d T=some ls->ed ls xs->ed ls ys->∀w,(Op.equalIn (D+d) T (mn P T xs) (mn P T ys)).run P w=.ok (fN xs ys) w)
 {xs ys:O Y}:∀ {fs:O Field}{o:Nat}{ls:O c4},kC (gw P d) P fs o=some ls->ed ls (xs.drop o)->ed ls (ys.drop o)->
  ∀w,(Op.eqFields (D+d) xs.toArray ys.toArray fs).run P w=.ok (fN (xs.drop o) (ys.drop o)) w
 | [],o,ls,h,hx,i,w=>by
  simp only[kC,Option.some.injEq]at h
  subst h
  have hx:xs.drop o=[]:=hx
  rw[hx]
  rfl
 |f::fs,o,ls,h,hx,i,w=>by
  simp only[kC]at h
  split at h
  .cases h
  .rename_i hf
   have p:¬f.name= "_" :=λe=>hf (.inl e)
   have q:f.offset=o:=by
    by_cases e:f.offset=o
    .exact e
    .exact absurd (.inr e) hf
   subst q;split at h
   .rename_i ms hm
    split at h
    .rename_i hc
     cases b:kC (gw P d) P fs (f.offset+ms.length) with
     |none=>simp[b]at h
     |some t=>
      simp only[b,mS,Option.some.injEq]at h;subst h;obtain⟨j,k⟩:=uk hx;obtain⟨l,m⟩:=uk i;rw[mb]at k m;obtain⟨u,hu,n⟩:=flat_agg hm;have a:=uj j;have k5:=uj l;have bS:=wO (cs:=xs) (off:=f.offset) (us:=(xs.drop f.offset).take ms.length) hu (by rw[hc,a]) (λc=>by rw[a];exact n c) (by rw[a]);have bI:=wO (cs:=ys) (off:=f.offset) (us:=(ys.drop f.offset).take ms.length) hu (by rw[hc,k5]) (λc=>by rw[k5];exact n c) (by rw[k5]);have e:=λw=>g hm j l w;have r:=Eh g (fs:=fs) b k m;have s:fN (xs.drop f.offset) (ys.drop f.offset)=(fN ((xs.drop f.offset).take ms.length) ((ys.drop f.offset).take ms.length)&&fN (xs.drop (f.offset+ms.length)) (ys.drop (f.offset+ms.length))):=by
       rw[←AR (by rw[a,k5])];simp only[←mb,g2]
      simp only[Op.eqFields,ne_eq,p,not_false_eq_true,if_true,Sem.run_bind,bS,bI,e,Result.andThen];rw[s]
      cases fN ((xs.drop f.offset).take ms.length) ((ys.drop f.offset).take ms.length)
      .simp
      .simpa using r w
    .cases h
   .cases h
theorem Ei(ls:O c4):∀n,(oI ls n).length=n*ls.length
 |0=>by simp[oI]
 |n+1=>by simp[oI,Ei ls n,ku,Nat.add_comm]
theorem Ej{d D:Nat}(h:∀ {T:TypeId}{ls:O c4}{xs ys:O Y},gw P d T=some ls->ed ls xs->ed ls ys->∀w,(Op.equalIn (D+d) T (mn P T xs) (mn P T ys)).run P w=.ok (fN xs ys) w)
 {e:TypeId}{ls:O c4}{u:TypeDesc} (hu:P.underlying e=some u) (f:hK u=false->ls.length=1) (j:gw P d e=some ls) (hc:P.cellsOf e=ls.length) {xs ys:O Y}:
 ∀ (n i:Nat),ed (oI ls n) (xs.drop (i*ls.length))->ed (oI ls n) (ys.drop (i*ls.length))->∀w,
  Sem.run P (do
   let r ←forIn (List.range' i n) ((none:aq aj),()) λi _=>do
    let a ←part e xs.toArray (i*ls.length)
    let b ←part e ys.toArray (i*ls.length)
    let t ←Op.equalIn (D+d) e a b
    if (!t)=true then pure (ForInStep.done (some false,())) else pure (ForInStep.yield (none,()))
   match r.1 with
   |some b=>pure b
   |none=>pure true) w=.ok (fN (xs.drop (i*ls.length)) (ys.drop (i*ls.length))) w
 |0,i,hx,k,w=>by
  have hx:xs.drop (i*ls.length)=[]:=hx
  rw[hx]
  simp[fN]
 |n+1,i,hx,k,w=>by
  obtain⟨l,m⟩:=uk hx
  obtain⟨o,p⟩:=uk k
  rw[mb,show i*ls.length+ls.length=(i+1)*ls.length by rw[ku,Nat.one_mul]]at m p
  have c:=uj l
  have k5:=uj o
  have bS:=wO (cs:=xs) (off:=i*ls.length) (us:=(xs.drop (i*ls.length)).take ls.length) hu (by rw[hc,c]) (λg=>by rw[c];exact f g) (by rw[c])
  have bI:=wO (cs:=ys) (off:=i*ls.length) (us:=(ys.drop (i*ls.length)).take ls.length) hu (by rw[hc,k5]) (λg=>by rw[k5];exact f g) (by rw[k5])
  have aG:=λw=>h j l o w
  have r:=Ej h hu f j hc n (i+1) m p w
  have q:fN (xs.drop (i*ls.length)) (ys.drop (i*ls.length))=(fN ((xs.drop (i*ls.length)).take ls.length) ((ys.drop (i*ls.length)).take ls.length)&&fN (xs.drop ((i+1)*ls.length)) (ys.drop ((i+1)*ls.length))):=by
   rw[←AR (by rw[c,k5]),show(i+1)*ls.length=i*ls.length+ls.length by rw[ku,Nat.one_mul]];simp only[←mb,g2]
  rw[q];simp only[List.range'_succ,List.forIn_cons,Sem.run_bind,bS,bI,aG,Result.andThen]
  cases fN ((xs.drop (i*ls.length)).take ls.length) ((ys.drop (i*ls.length)).take ls.length)
  .simp
  .simpa[Result.andThen] using r
theorem Ek(D:Nat):∀ (d:Nat) {T:TypeId}{ls:O c4}{xs ys:O Y},gw P d T=some ls->ed ls xs->ed ls ys->∀w,(Op.equalIn (D+d) T (mn P T xs) (mn P T ys)).run P w=.ok (fN xs ys) w
 |0,_,_,_,_,h,_,_,_=>by cases h
 |d+1,T,ls,xs,ys,h,hx,b,w=>by
  have c:= @Ek D d
  simp only[gw]at h
  cases hu:P.underlying T with
  |none=>simp[hu]at h
  |some u=>
   rw[hu]at h
   cases u with
   |int k=>
    simp only[Option.some.injEq]at h;subst h
    obtain⟨x,_,rfl,⟨n,rfl⟩,rfl⟩:=hx
    obtain⟨y,_,rfl,⟨m,rfl⟩,rfl⟩:=b
    rw[pW hu rfl,pW hu rfl]
    show(Op.equalIn (D+d+1) T _ _).run P w=_
    simp[Op.equalIn,db hu,fN,oJ]
   |bool=>
    simp only[Option.some.injEq]at h;subst h
    obtain⟨x,_,rfl,⟨n,rfl⟩,rfl⟩:=hx
    obtain⟨y,_,rfl,⟨m,rfl⟩,rfl⟩:=b
    rw[pW hu rfl,pW hu rfl]
    show(Op.equalIn (D+d+1) T _ _).run P w=_
    simp[Op.equalIn,db hu,fN,oJ]
   |string=>
    simp only[Option.some.injEq]at h;subst h
    obtain⟨x,_,rfl,⟨n,rfl⟩,rfl⟩:=hx
    obtain⟨y,_,rfl,⟨m,rfl⟩,rfl⟩:=b
    rw[pW hu rfl,pW hu rfl]
    show(Op.equalIn (D+d+1) T _ _).run P w=_
    simp[Op.equalIn,db hu,fN,oJ,beq_toListBytes]
   |struct fs=>
    simp only at h
    split at h
    .cases h
    .rename_i i
     rw[pV hu rfl,pV hu rfl]
     have f:P.fieldsOf T=fs:=by simp[Program.fieldsOf,hu]
     show(Op.equalIn (D+d+1) T _ _).run P w=_
     rw[run_equalIn_struct w (D+d) T xs.toArray ys.toArray (by rw[f];exact hu) (by simpa using i),f]
     have:=Eh (D:=D) c (xs:=xs) (ys:=ys) h (by simpa using hx) (by simpa using b) w
     simpa using this
   |array n e=>
    simp only at h
    split at h
    .rename_i ms hm
     split at h
     .rename_i hc
      simp only[Option.some.injEq]at h;subst h
      obtain⟨u,g,j⟩:=flat_agg hm
      rw[pV hu rfl,pV hu rfl]
      show(Op.equalIn (D+d+1) T _ _).run P w=_
      have:=Ej (D:=D) c g j hm hc (xs:=xs) (ys:=ys) n 0 (by simpa using hx) (by simpa using b) w
      rw[Nat.zero_mul,kx,kx]at this
      rw[←this]
      simp only[Op.equalIn,Sem.run_bind,db hu,iq g,Result.andThen,hc,Std.Legacy.Range.forIn_eq_forIn_range',Std.Legacy.Range.size]
      simp
      congr 1
      funext a w
      obtain⟨o,_⟩:=a
      cases o<;>rfl
     .cases h
    .cases h
   |_=>cases h
theorem j1.flat{T:TypeId}{d:TypeDesc}{ls:O c4}{xs ys:O Y}(a:P.underlying T=some d)(b:hK d=true)(hf:gw P 8 T=some ls)(hg:P.eqGuardType P.depth T=false)
 (hx:ed ls xs) (c:ed ls ys):j1 P T xs.toArray ys.toArray (fN xs ys):=by
 refine⟨hg,λw=>?_⟩;have:=Ek (P:=P) 9992 8 hf hx c w;rwa[pV a b,pV a b]at this
end
end aQ
namespace aQ
open Go Go.RowKit
theorem wP{n:Int}(h0:0<=n)(h1:n<=255):IntKind.u8.wrap n=n:=by
 simp only[IntKind.wrap,IntKind.signed,IntKind.bits];simp;omega
theorem IK{n:Int}(h0:0<=n)(h1:n<=65535):IntKind.u16.wrap n=n:=by
 simp only[IntKind.wrap,IntKind.signed,IntKind.bits];simp;omega
theorem AS{n:Int}(h0:0<=n)(h1:n<=4294967295):IntKind.u32.wrap n=n:=by
 simp only[IntKind.wrap,IntKind.signed,IntKind.bits];simp;omega
theorem eZ{n:Int}(h0:0<=n)(h1:n<=18446744073709551615):IntKind.u64.wrap n=n:=by
 simp only[IntKind.wrap,IntKind.signed,IntKind.bits];simp;omega
theorem IL(n:Int):IntKind.u8.wrap n=n%256:=by
 simp only[IntKind.wrap,IntKind.signed,IntKind.bits];simp
theorem AT(n:Int):IntKind.u64.wrap n=n%18446744073709551616:=by
 simp only[IntKind.wrap,IntKind.signed,IntKind.bits];simp
def S(l:O UInt8):ByteArray:=⟨l.toArray⟩
theorem El(l:O UInt8):(S l).toList=l:=ByteArray.toList_mk l
theorem Em(a b:O UInt8):(ByteArray.toList (S a)==ByteArray.toList (S b))=(a==b):=by rw[El,El]
theorem IM(ns:O Int):Ee ns=S (ns.map λn=>UInt8.ofNat n.toNat):=by
 have h:∀ (ns:O Int) (r:O UInt8),ns.foldl (λr n=>r.push (UInt8.ofNat n.toNat)) (S r)=S (r++ns.map λn=>UInt8.ofNat n.toNat):=by
  intro ns
  induction ns with
  |nil=>intro r;simp
  |cons n ns a=>
   intro r;have e:(S r).push (UInt8.ofNat n.toNat)=S (r++ [UInt8.ofNat n.toNat]):=by
    apply ByteArray.ext;simp[S,ByteArray.push]
   simp only[List.foldl_cons,e,a,gu,c_,tx,kU]
 exact h ns []
theorem add_add(A:av)(n m:Nat):(A.add n).add m=A.add (n+m):=by
 unfold Addr.add;by_cases h1:n=0
 .subst h1;simp
 .by_cases a:m=0
  .subst a;simp
  .rw[if_neg h1,if_neg a,if_neg J]
   simp[Nat.add_assoc]
def put(f:Nat->Int)(i:Nat)(v:Int):Nat->Int:=λj=>if j=i then v else f j
section
variable {w w':I}{b m i:Nat}{T:TypeId}{f:Nat->Int}
theorem af.h5{w0 w:I}{b i:Nat}(h:af (λq=>q=b) w0 w)(v:Y):af (λq=>q=b) w0 (w.setCell ⟨b,i,none⟩ v):=af.set h (λ_=>rfl) v
theorem af.iV{w0 w:I}{b i:Nat}(h:af (λq=>q=b) w0 w)(vs:O Y)(j:Nat):af (λq=>q=b) w0 (aQ.setCells w ⟨b,i,none⟩ j vs):=af.setCells (W:=λq=>q=b) (A:=⟨b,i,none⟩) (λ_=>rfl) vs j h
end
theorem oK{b o:Nat}{z l m:Nat}(h:m≠l):aW (some (Addr.mk b o none)) z l m=some ⟨b,o+l*z,none⟩:=by
 simp[aW,h,aw]
theorem Ext.trans{a b c:I}(h1:Ext a b)(d:Ext b c):Ext a c:=af.trans h1 d
theorem Ext.ee{w0 w1 ag:I}{W:Nat->Prop}(h1:Ext w0 w1)(a:af W w1 ag)(h:∀k,W k->w0.heap.size<=k):Ext w0 ag:=
 ⟨a.os.trans h1.os,a.tape.trans h1.tape,a.output.trans h1.output,dQ h1.size a.size,λk b _=>by
  rw[a.block k (fB b h1.size) (λcU=>by have:=h k cU;omega),h1.block k b id]⟩
end aQ
namespace aQ
open Go
def rL(P:Program)(f:FuncId)(args:Array Y)(w:I)(K:I->Prop):Prop:=
 jB P f/\CallsD P f args .returning w λe a w'=>(∃v,e=.returned v)/\a=.returning/\K w'
def AU(P:Program)(tk:TypeId->ec)(c:Code)(K:FuncId->Array Y->Array Y->Env->I->Prop)(e:Env)(w:I):Prop:=
 match c with
 | .region _ ops false=>match ops.toList with
  | [a,b]=>match a.guard,b.guard,b.dst,b.op with
   |none,none,none,.defer call=>match call.callee,call.args.toList with
    | .value x,[]=>kA P tk a (λv w'=>match ev (dr a.dst v e) x with|some (.func (.func f) first cap)=>K f first cap (dr a.dst v e) w'|_=>False) e w
    |_,_=>False
   |_,_,_,_=>False
  |_=>False
 |_=>False
def uq(P:Program)(tk:TypeId->ec):aD->Code->(Exit->Env->I->Prop)->(FuncId->Array Y->Array Y->Exit->Env->I->Prop)->Env->I->Prop
 | .seq .leaf B,.seq a b,_,Kd,e,w=>AU P tk a (λf first cap e' w'=>D P tk B b (Kd f first cap) e' w') e w
 | .seq A B,.seq a b,K,Kd,e,w=>D P tk A a (λx e' w'=>match x with| .normal=>uq P tk B b K Kd e' w'|x=>K x e' w') e w
 |_,_,_,_,_,_=>False
def IN(P:Program)(tk:TypeId->ec)(a:O ResultVar)(R:Y->I->Prop)(f:FuncId)(first cap:Array Y)(x:Exit)(e:Env)(w:I):Prop:=
 match x with
 | .normal| .ret=>rL P f (first++cap) w λw'=>nD P tk a e w' λvs=>R (rH vs) w'
 |_=>False
def AV(P:Program)(tk:TypeId->ec)(A:aD)(fn:Func)(args:O Y)(w:I)(R:Y->I->Prop):Prop:=
 match fn.body with
 |some c=>uq P tk A c (D5 P tk fn.results.toList R) (IN P tk fn.results.toList R) (pR 0 args) w
 |none=>False
variable {P:Program}{tk:TypeId->ec}
def ur(f:FuncId)(first cap:Array Y):Deferred:={target:=.fn (.func f) cap,args:=first++ #[]}
theorem IP{c:Code}{K:FuncId->Array Y->Array Y->Env->I->Prop}{e:Env}{a:Act}{w:I}(ar:dB e a)(hb:∀d∈writes c,d<a.tmps.size)(h:AU P tk c K e w):
 c.wp P (λx a' w'=>x=.normal/\∃f first cap,a'.defers=ur f first cap::a.defers/\a'.tmps.size=a.tmps.size/\∃e',dB e' a'/\K f first cap e' w') a w:=by
 unfold AU at h;split at h
 case h_2=>exact h.elim
 rename_i id ops;split at h
 case h_2=>exact h.elim
 rename_i b j m;split at h
 case h_2=>exact h.elim
 rename_i call o p q r;split at h
 case h_2=>exact h.elim
 rename_i x hc wL;refine wp_region_list ?_;rw[m];have w1:Region.wanted b (yielded ops a.tmps)=true:=by unfold Region.wanted;rw[o]
 simp only[wpList,w1,if_true];refine .inl ((wz ar h).wp ?_);intro v w' l;have t:Region.wanted j (yielded ops (a.put b.dst v).tmps)=true:=by unfold Region.wanted;rw[p]
 simp only[t,if_true];refine .inl ?_;split at l
 case h_2=>exact l.elim
 rename_i f first cap u;have n:dB (dr b.dst v e) (a.put b.dst v):=ar.put λk i=>hb k (by simp[writes,m,b3,i]);have y:call.args= #[]:=by
  have:=congrArg List.toArray wL;simpa using this
 have z:(execOp (a.put b.dst v).eval j).run P w'=.ok (.defer (ur f first cap)) w':=by
  have hm:∀g:Operand->Y,Array.map g #[]= #[]:=λg=>by simp
  simp only[execOp,r,resolve,hc,y,n.ev u,hm];rfl
 show j.upon P _ _ _ ((execOp (a.put b.dst v).eval j).run P w');rw[z,Oper.upon_defer,q];refine⟨trivial,f,first,cap,?_,?_,dr b.dst v e,?_,l⟩
 .have:=(en.put (a:=a) (d:=b.dst) (v:=v) (ds:=b3 [b]) (λk i=>by simp[b3,i])).defers
  show ur f first cap::(a.put b.dst v).defers=_;rw[this]
 .exact(en.put (a:=a) (d:=b.dst) (v:=v) (ds:=b3 [b]) (λk i=>by simp[b3,i])).size
 .exact⟨λs v hs=>n.get s v hs⟩
theorem IQ(hm:P.follows .mixedOrders=true):∀ (A:aD) (c:Code) (K:Exit->Env->I->Prop) (Kd:FuncId->Array Y->Array Y->Exit->Env->I->Prop) (e:Env) (a:Act) (w:I),dB e a->a.defers=[]->
 (∀d∈writes c,d<a.tmps.size)->uq P tk A c K Kd e w->
 c.wp P (λx a' w'=>(a'.defers=[]/\∃e',dB e' a'/\K x e' w')\/∃f first cap,a'.defers=[ur f first cap]/\∃e',dB e' a'/\Kd f first cap x e' w') a w:=by
 intro A
 induction A with
 |seq A B t m=>
  intro c K Kd e a w ar hd hb h;unfold uq at h;split at h
  case h_3=>exact h.elim
  .rename_i n x y i
   cases i;have hx:∀d,d∈writes x->d∈writes (.seq x y):=λd hd=>by simp[writes,hd]
   have j:∀d,d∈writes y->d∈writes (.seq x y):=λd hd=>by simp[writes,hd]
   refine wp_seq (j3 (IP ar (λd hd=>hb d (hx d hd)) h) ?_);rintro ex a1 w1 ⟨rfl,f,first,cap,h1,o,aG,b,p⟩;refine j3 (wK hm B y _ aG a1 w1 b (λd hd=>by rw[o];exact hb d (j d hd)) p) ?_;rintro ex a2 ag ⟨q,aM,r,s⟩;exact .inr ⟨f,first,cap,by rw[q.defers,h1,hd],aM,r,s⟩
  .rename_i u n x y _ i
   cases i;have hx:∀d,d∈writes x->d∈writes (.seq x y):=λd hd=>by simp[writes,hd]
   have j:∀d,d∈writes y->d∈writes (.seq x y):=λd hd=>by simp[writes,hd]
   refine wp_seq (j3 (wK hm A x _ _ a _ ar (λd hd=>hb d (hx d hd)) h) ?_);rintro ex a1 w1 ⟨k,aG,b,h1⟩;have g:a1.defers=[]:=by rw[k.defers,hd]
   cases ex with
   |normal=>exact m y _ _ aG a1 w1 b g (λd hd=>by rw[k.size];exact hb d (j d hd)) h1
   |exit id=>exact .inl ⟨g,aG,b,h1⟩
   |goto l=>exact .inl ⟨g,aG,b,h1⟩
   |ret=>exact .inl ⟨g,aG,b,h1⟩
   |panic v=>exact .inl ⟨g,aG,b,h1⟩
   |outgrown=>exact .inl ⟨g,aG,b,h1⟩
 |_=>intro c K Kd e a w ar hd hb h;unfold uq at h;exact h.elim
theorem En{fn:Func}{args:O Y}(b:args.length<=fn.ntmps):dB (pR 0 args) {tmps:=args.toArray++Array.replicate (fn.ntmps-args.toArray.size) undef,defers:=[]}:=by
 constructor;intro s v hs;obtain⟨_,a⟩:=AP hs;simp only[q_]at a;have aJ:s<args.length:=(l9.1 a).1;simp[Array.getElem?_append,aJ];rw[eJ aJ]at a;exact Option.some.inj a
theorem IS{f:FuncId}{fn:Func}{A:aD}{args:O Y}{w:I}{K:I->Prop}(hm:P.follows .mixedOrders=true)(hc:jB P f)
 (hf:P.funcs[f]? =some fn) (b:pS fn args.length=true) (h:rI P tk A fn args w λ_ w'=>K w'):rL P f args.toArray w K:=by
 refine⟨hc,?_⟩;unfold rI at h;unfold pS at b
 cases g:fn.body with
 |none=>rw[g]at h;exact h.elim
 |some c=>
  rw[g]at h b;simp only[dH]at h b;obtain⟨n,o⟩:=b;have p:=ow o;have q:(args.toArray++Array.replicate (fn.ntmps-args.toArray.size) undef).size=fn.ntmps:=by simp;omega
  refine(callsD_of_wp (R:=λe w'=>(∃v,e=.returned v)/\K w') hf g ?_).mono λe t w' ⟨h1,k,r⟩=>⟨k,h1,r⟩;refine j3 (wK hm A c _ _ _ w (En p) (λd hd=>?_) h) ?_
  .have h1:=q6.1 n d hd
   have k:=ow h1;show d<(args.toArray++Array.replicate (fn.ntmps-args.toArray.size) undef).size;rw[q];omega
  .rintro x a' w' ⟨s,e',m,a⟩
   have hd:a'.defers=[]:=s.defers
   cases x with
   |normal=>
    obtain⟨vs,i,j⟩:=nE m a;exact⟨hd,_,pT i,⟨_,rfl⟩,j⟩
   |ret=>
    obtain⟨vs,i,j⟩:=nE m a;exact⟨hd,_,pT i,⟨_,rfl⟩,j⟩
   |exit id=>exact a.elim
   |goto l=>exact a.elim
   |panic u=>exact a.elim
   |outgrown=>exact a.elim
theorem IT{f:FuncId}{fn:Func}{A:aD}{args:O Y}{w:I}{R:Y->I->Prop}(hm:P.follows .mixedOrders=true)
 (hf:P.funcs[f]? =some fn) (k:pS fn args.length=true) (h:AV P tk A fn args w R):
 Calls P f args.toArray w λe w'=>∃v,e=.returned v/\R v w':=by
 unfold AV at h;unfold pS at k
 cases m:fn.body with
 |none=>rw[m]at h;exact h.elim
 |some c=>
  rw[m]at h k;simp only[dH]at h k;obtain⟨n,o⟩:=k;have p:=ow o;have q:(args.toArray++Array.replicate (fn.ntmps-args.toArray.size) undef).size=fn.ntmps:=by simp;omega
  refine calls_of_wp_defers hf m ?_;refine j3 (IQ hm A c _ _ _ _ w (En p) rfl (λd hd=>?_) h) ?_
  .have h1:=q6.1 n d hd
   have t:=ow h1;show d<(args.toArray++Array.replicate (fn.ntmps-args.toArray.size) undef).size;rw[q];omega
  .have key:∀ {a':Act}{w':I}{e':Env}{g:FuncId}{first cap:Array Y},a'.defers=[ur g first cap]->dB e' a'->(rL P g (first++cap) w' λw'=>nD P tk fn.results.toList e' w' λvs=>R (rH vs) w')->
    Leaves P fn a'.tmps (λe w'=>∃v,e=.returned v/\R v w') a'.defers .returning w':=by
    intro a' w' e' g first cap hd b ⟨hc,a⟩;rw[hd];refine leaves_cons (f:=g) (args:=first++cap) (by simp) (by simp[invoke,Dy hc]) (a.mono ?_);rintro _ _ ag ⟨⟨v,rfl⟩,rfl,r⟩;obtain⟨vs,i,j⟩:=nE b r;exact⟨_,pT i,_,rfl,j⟩
   rintro x a' w' (⟨hd,e',b,a⟩|⟨g,first,cap,hd,e',b,a⟩)
   .cases x with
    |normal=>
     obtain⟨vs,i,j⟩:=nE b a;show Leaves _ _ _ _ a'.defers _ _;rw[hd];exact⟨_,pT i,_,rfl,j⟩
    |ret=>
     obtain⟨vs,i,j⟩:=nE b a;show Leaves _ _ _ _ a'.defers _ _;rw[hd];exact⟨_,pT i,_,rfl,j⟩
    |exit id=>exact a.elim
    |goto l=>exact a.elim
    |panic s=>exact a.elim
    |outgrown=>exact a.elim
   .cases x with
    |normal=>exact key hd b a
    |ret=>exact key hd b a
    |exit id=>exact a.elim
    |goto l=>exact a.elim
    |panic s=>exact a.elim
    |outgrown=>exact a.elim
end aQ
namespace aQ
open Go Go.RowKit
def IU:c4->Y->Prop
 | .int k,v=>∃n:Int,v=.int k n/\k.min<=n/\n<=k.max
 | .bool,v=>∃b:aj,v=.bool b
 | .str,v=>∃s:ByteArray,v=.string s/\s.size<=maxLen
 |_,_=>False
def m3:O c4->O Y->Prop
 | [],vs=>vs=[]
 |l::ls,vs=>∃v us,vs=v::us/\IU l v/\m3 ls us
theorem AW:∀ {ls ms:O c4}{vs us:O Y},m3 ls vs->m3 ms us->m3 (ls++ms) (vs++us)
 | [],_,_,_,h,a=>by cases h;exact a
 |l::ls,ms,vs,us,h,a=>by
  obtain⟨v,vs,rfl,h1,h⟩:=h
  exact⟨v,_,rfl,h1,AW h a⟩
theorem Eo{P:Program}{wQ:TypeId->aq (O c4)}{cs:O Y}{R:TypeId->O Y->Prop}(c:∀ {T:TypeId}{ls:O c4}{us:O Y},wQ T=some ls->R T us->m3 ls us):
 ∀ {fs:O Field}{o:Nat}{ls:O c4},kC wQ P fs o=some ls->o+ls.length=cs.length->(∀f∈fs,R f.type ((cs.drop f.offset).take (P.cellsOf f.type)))->m3 ls (cs.drop o)
 | [],o,ls,h,a,_=>by
  simp only[kC,Option.some.injEq]at h
  subst h
  exact tD (by simp at a;omega)
 |f::fs,o,ls,h,a,d=>by
  simp only[kC]at h
  split at h
  .cases h
  .rename_i hf
   have i:f.offset=o:=by
    by_cases e:f.offset=o
    .exact e
    .exact absurd (.inr e) hf
   subst i;split at h
   .rename_i ms hm
    split at h
    .rename_i hc
     cases b:kC wQ P fs (f.offset+ms.length) with
     |none=>simp[b]at h
     |some k=>
      simp only[b,mS,Option.some.injEq]at h;subst h;have h1:=c hm (d f (by simp));have j:=Eo c (fs:=fs) (cs:=cs) b (by simp at a;omega) (λg hg=>d g (by simp[hg]));rw[hc]at h1;have:=AW h1 j;rwa[←mb,g2]at this
    .cases h
   .cases h
theorem Ep{ls:O c4}{cs:O Y}:∀ {n i:Nat},(∀j,i<=j->j<i+n->m3 ls ((cs.drop (j*ls.length)).take ls.length))->cs.length=(i+n)*ls.length->m3 (oI ls n) (cs.drop (i*ls.length))
 |0,i,_,a=>tD (by simp at a;omega)
 |n+1,i,h,a=>by
  have h1:=h i (ba _) J
  have b:=Ep (n:=n) (i:=i+1) (λj h1 b=>h j J J) (by rw[a];congr 1;omega)
  have:=AW h1 b
  rw[show(i+1)*ls.length=i*ls.length+ls.length by rw[ku,Nat.one_mul],←mb,g2]at this
  exact this
theorem wR{P:Program}{w:I}:∀ (d:Nat) {T:TypeId}{ls:O c4}{fuel:Nat}{cs:O Y},gw P d T=some ls->P.cellsOf T=ls.length->gv P w fuel T cs->m3 ls cs
 |0,_,_,_,_,h,_,_=>by cases h
 |d+1,T,ls,fuel,cs,h,m,a=>by
  cases fuel with
  |zero=>cases a
  |succ f=>
   simp only[gw]at h
   cases hu:P.underlying T with
   |none=>simp[hu]at h
   |some u=>
    rw[hu]at h
    cases u with
    |int k=>
     simp only[Option.some.injEq]at h;subst h
     simp only[gv,hu]at a
     obtain⟨n,rfl,h1,c⟩:=a
     exact⟨_,_,rfl,⟨n,rfl,h1,c⟩,rfl⟩
    |bool=>
     simp only[Option.some.injEq]at h;subst h
     simp only[gv,hu]at a
     obtain⟨b,rfl⟩:=a
     exact⟨_,_,rfl,⟨b,rfl⟩,rfl⟩
    |string=>
     simp only[Option.some.injEq]at h;subst h
     simp only[gv,hu]at a
     obtain⟨s,rfl,h1⟩:=a
     exact⟨_,_,rfl,⟨s,rfl,h1⟩,rfl⟩
    |struct fs=>
     simp only at h
     split at h
     .cases h
     .simp only[gv,hu]at a
      have:=Eo (P:=P) (cs:=cs) (wQ:=λT=>if (gw P d T).isSome/\∀ms,gw P d T=some ms->P.cellsOf T=ms.length then gw P d T else none) (R:=λT us=>gv P w f T us) (λ{T}{ls}{us} h1 c=>by
       split at h1
       .rename_i q;exact wR d h1 (q.2 _ h1) c
       .cases h1) (fs:=fs.toList) (o:=0) (ls:=ls) (by
        have key:∀ (fs:O Field) (o:Nat) (ls:O c4),kC (gw P d) P fs o=some ls->kC (λT=>if (gw P d T).isSome/\∀ms,gw P d T=some ms->P.cellsOf T=ms.length then gw P d T else none) P fs o=some ls:=by
         intro fs
         induction fs with
         |nil=>intro o ls h;exact h
         |cons g fs r=>
          intro o ls h;simp only[kC]at h⊢;split at h
          .cases h
          .rename_i hg
           rw[if_neg hg];split at h
           .rename_i ms hm
            split at h
            .rename_i hc
             have t:(gw P d g.type).isSome/\∀ms,gw P d g.type=some ms->P.cellsOf g.type=ms.length:=by
              refine⟨by simp[hm],λv p=>?_⟩;rw[hm]at p;cases p;exact hc
             rw[if_pos t,hm];simp only;rw[if_pos hc]
             cases l:kC (gw P d) P fs (o+ms.length) with
             |none=>rw[l]at h;cases h
             |some x=>rw[l]at h;rw[r _ _ l];exact h
            .cases h
           .cases h
        exact key _ _ _ h) (by rw[a.1,m];simp) (λg hg=>a.2 g (by simpa using hg))
      simpa using this
    |array n e=>
     simp only at h;split at h
     .rename_i ms hm
      split at h
      .rename_i hc
       simp only[Option.some.injEq]at h;subst h;simp only[gv,hu]at a;have:=Ep (ls:=ms) (cs:=cs) (n:=n) (i:=0) (λj _ y=>by
        have:=a.2 j J;rw[hc]at this;exact wR d hm hc this) (by rw[a.1,m,Ei];simp)
       simpa using this
      .cases h
     .cases h
    |_=>cases h
theorem IV{P:Program}{w:I}{T:TypeId}{d:TypeDesc}{ls:O c4}{v:Y}(h:nF P w T v)(b:P.underlying T=some d)(c:hK d=true)(hf:gw P 8 T=some ls)(a:P.cellsOf T=ls.length):
 ∃cs:O Y,v=.agg cs.toArray/\m3 ls cs:=by
 unfold nF at h;rw[b]at h
 cases d<;>simp only[hK,gb]at c<;>simp only at h
 .obtain⟨cs,rfl,fuel,h⟩:=h
  exact⟨cs.toList,by simp,wR 8 hf a h⟩
 .obtain⟨cs,rfl,fuel,h⟩:=h
  exact⟨cs.toList,by simp,wR 8 hf a h⟩
end aQ
namespace aQ
open Go Go.RowKit
section
variable {α:Type}{P:Program}{w:I}{gL k6 T:TypeId}{enc:α->Y}
def di(enc:α->Y)(x:α×Y×Nat):MapEntry:=⟨enc x.1,x.2.1,x.2.2⟩
def nG(x:α×Y×Nat):α×Y:=(x.1,x.2.1)
def mo[DecidableEq α](k:α):O (α×Y×Nat)->Nat->aq (Nat×Y)
 | [],_=>none
 |x::L,i=>if k=x.1 then some (i,x.2.1) else mo k L (i+1)
theorem AX{β:Type}(f:β->β)(x:β)(bM:O β):∀bp:O β,(bp++x::bM).modify bp.length f=bp++f x::bM
 | []=>rfl
 |y::bp=>by
  show y::((bp++x::bM).modify bp.length f)=_
  rw[AX f x bM bp];rfl
structure jf[DecidableEq α](P:Program)(gL:TypeId)(enc:α->Y):Prop where
 find:∀ (L:O (α×Y×Nat)) (k:α) (w:I),(Instr.findKey gL (enc k) (L.map (di enc))).run P w=.ok (mo k L 0) w
 check:∀ (b:aj) (k:α) (w:I),(Instr.checkKey b 10000 gL (enc k)).run P w=.ok () w
 bits:∀k,Instr.sameBits 10000 (enc k) (enc k)=true
theorem wS[DecidableEq α]{k:α}:∀ {L:O (α×Y×Nat)}{i:Nat},(∀x∈L,x.1≠k)->mo k L i=none
 | [],_,_=>rfl
 |x::L,i,h=>by
  rw[mo,if_neg (λe=>h x (by simp) e.symm)]
  exact wS λy a=>h y (by simp[a])
theorem AY[DecidableEq α]{k:α}{v:Y}{n:Nat}{bM:O (α×Y×Nat)}:∀ {bp:O (α×Y×Nat)}{i:Nat},(∀x∈bp,x.1≠k)->mo k (bp++(k,v,n)::bM) i=some (i+bp.length,v)
 | [],i,_=>by simp[mo]
 |x::L,i,h=>by
  rw[tx,mo,if_neg (λe=>h x (by simp) e.symm),AY λy a=>h y (by simp[a])]
  simp;omega
theorem jf.int{k:IntKind}(hu:P.underlying gL=some (.int k)):jf P gL (λn:Int=>Value.int k n) where
 find L n w:=by
  have h:∀ (L:O (Int×Y×Nat)) (i:Nat),Instr.findNow (.int k) (.int k n) (L.map (di λn:Int=>Value.int k n)) i=some (mo n L i):=by
   intro L
   induction L with
   |nil=>intro i;rfl
   |cons x L a=>
    intro i;simp only[gu,Instr.findNow,di,Instr.sameNow,if_true,mo];by_cases hx:n=x.1
    .subst hx;simp
    .rw[if_neg hx,show(n==x.1)=false by simpa using hx]
     exact a (i+1)
  simp[Instr.findKey,db hu,h]
 check b n w:=by
  show(Instr.checkKey b (9999+1) gL (.int k n)).run P w=_;unfold Instr.checkKey;simp only[Sem.run_bind,db hu,Result.andThen];rfl
 bits n:=by
  show(k==k&&n==n)=true;simp
theorem jf.agg[DecidableEq α]{d:TypeDesc}(hu:P.underlying gL=some d)(hd:hK d=true)(c:∀a b w,(Op.equal gL (enc a) (enc b)).run P w=.ok (decide (a=b)) w)
 (hc:∀ (b:aj) (k:α) (w:I),(Instr.checkKey b 10000 gL (enc k)).run P w=.ok () w) (hb:∀k,Instr.sameBits 10000 (enc k) (enc k)=true):jf P gL enc where
 find L k w:=by
  have h:∀ (L:O (α×Y×Nat)) (i:Nat),(Instr.findAsking gL (enc k) (L.map (di enc)) i).run P w=.ok (mo k L i) w:=by
   intro L
   induction L with
   |nil=>intro i;rfl
   |cons x L e=>
    intro i;simp only[gu,Instr.findAsking,di,Sem.run_bind,c,Result.andThen,mo];by_cases hx:k=x.1
    .simp[hx]
    .simp only[hx,decide_false,gb,if_false]
     exact e (i+1)
  rw[run_findKey_eq w (by rw[hu];cases d<;>simp[hK]at hd⊢) (enc k) _];exact h L 0
 check:=hc
 bits:=hb
def dc(w:I)(r:Nat)(enc:α->Y)(M:O (α×Y)):Prop:=
 ∃ (L:O (α×Y×Nat)) (a:Nat),w.heap[r]? =some (.map (L.map (di enc)).toArray a)/\(L.map nG).Perm M/\(L.map (·.1)).Nodup/\(L.map (·.2.2)).Nodup/\∀x∈L,x.2.2<a
def rM(w:I)(r:Nat)(enc:α->Y)(M:O (α×Y))(k:α)(v:Y)(st:Int):Prop:=
 ∃ (bp bM:O (α×Y×Nat)) (n a:Nat),w.heap[r]? =some (.map ((bp++(k,v,n)::bM).map (di enc)).toArray a)/\((bp++bM).map nG).Perm M/\((bp++(k,v,n)::bM).map (·.1)).Nodup/\((bp++(k,v,n)::bM).map (·.2.2)).Nodup/\(∀x∈bp++(k,v,n)::bM,x.2.2<a)/\st=(n:Int)
variable {r:Nat}{M iH:O (α×Y)}{k:α}{v:Y}{st:Int}{w':I}
theorem dc.lt(h:dc w r enc M):r<w.heap.size:=by
 obtain⟨L,a,h,_⟩:=h;exact(l_.1 h).1
theorem dc.ak{W:Nat->Prop}(h:dc w r enc M)(hc:af W w w')(a:¬W r):dc w' r enc M:=by
 have b:=h.lt;obtain⟨L,c,h,d⟩:=h;exact⟨L,c,by rw[hc.block r b a];exact h,d⟩
theorem dc.ext(h:dc w r enc M)(hc:Ext w w'):dc w' r enc M:=h.ak hc id
theorem dc.perm(h:dc w r enc M)(a:M.Perm iH):dc w r enc iH:=by
 obtain⟨L,b,h,h1,c⟩:=h;exact⟨L,b,h,h1.trans a,c⟩
theorem rM.lt(h:rM w r enc M k v st):r<w.heap.size:=by
 obtain⟨bp,bM,n,a,h,_⟩:=h;exact(l_.1 h).1
theorem dc.split(h:dc w r enc ((k,v)::M)):∃n,rM w r enc M k v (n:Nat):=by
 obtain⟨L,b,h,h1,c,d,e⟩:=h;have hm:(k,v)∈L.map nG:=h1.mem_iff.2 (by simp);obtain⟨x,hx,a⟩:=ew.1 hm;obtain⟨bp,bM,rfl⟩:=List.append_of_mem hx;obtain⟨f,g,n⟩:=x;simp only[nG,Prod.mk.injEq]at a;obtain⟨rfl,rfl⟩:=a;refine⟨n,bp,bM,n,b,h,?_,c,d,e,rfl⟩;rw[e_,gu]at h1;have:=(mT.symm.trans h1);rw[e_];exact this.cons_inv
theorem dc.keys(h:dc w r enc M):(M.map (·.1)).Nodup:=by
 obtain⟨L,b,h,h1,a,c,d⟩:=h;have:=h1.map (·.1);rw[kV]at this;exact this.nodup_iff.1 a
theorem dc.IW(hm:(k,v)∈M):∃iH,M.Perm ((k,v)::iH):=by
 obtain⟨A,B,rfl⟩:=List.append_of_mem hm;exact⟨A++B,mT⟩
def iI(w:I)(r:Nat)(o:Obj):I:={w with heap:=w.heap.setIfInBounds r o}
theorem pX(w:I)(r:Nat)(o:Obj):af (λq=>q=r) w (iI w r o):=
 ⟨rfl,rfl,rfl,by simp[iI],λk _ a=>by
  have:¬r=k:=λe=>a e.symm
  simp[iI,this]⟩
theorem rN(w:I)(r:Nat)(o:Obj):(iI w r o).heap.size=w.heap.size:=by simp[iI]
theorem rO{w:I}{r:Nat}(h:r<w.heap.size)(o:Obj):(iI w r o).heap[r]? =some o:=by simp[iI,h]
theorem lO{es:Array MapEntry}{a:Nat}(h:w.heap[r]? =some (.map es a)):(getObj r).run P w=.ok (.map es a) w:=by simp[getObj,Sem.run,h]
theorem uu{es:Array MapEntry}{a:Nat}(h:w.heap[r]? =some (.map es a))(o:Obj):(setObj r o).run P w=.ok () (iI w r o):=by simp[setObj,Sem.run,h,iI]
theorem Er{bp bM:O (α×Y×Nat)}{x:α×Y×Nat}(h:((bp++x::bM).map (·.1)).Nodup):∀y∈bp,y.1≠x.1:=by
 intro y a e;rw[e_,gu,ri]at h;exact h.2.2 _ (List.mem_map_of_mem a) _ (vX ..) e
theorem IX{bp bM:O (α×Y×Nat)}{x:α×Y×Nat}(h:((bp++x::bM).map (·.2.2)).Nodup):∀y∈bp,y.2.2≠x.2.2:=by
 intro y a e;rw[e_,gu,ri]at h;exact h.2.2 _ (List.mem_map_of_mem a) _ (vX ..) e
theorem AZ{L:O (α×Y×Nat)}(h1:(L.map nG).Perm M)(a:∀v,(k,v)∉M):∀x∈L,x.1≠k:=by
 intro x hx e;refine a x.2.1 (h1.mem_iff.1 (ew.2 ⟨x,hx,?_⟩));simp[nG,e]
theorem dc.make(T:TypeId)(w:I):(Instr.makeMap T none).run P w=.ok (.map (some w.heap.size)) (w.alloc (.map #[] 0))/\dc (w.alloc (.map #[] 0)) w.heap.size enc ([]:O (α×Y)):=by
 refine⟨by simp[Instr.makeMap],[],0,?_,by simp,by simp,by simp,by simp⟩;show(w.heap.push (.map #[] 0))[w.heap.size]? =_;simp
theorem dc.uv[DecidableEq α](a:jf P gL enc)(b:P.underlying T=some (.map gL k6))(h:dc w r enc M)(hm:(k,v)∈M)(ok:aj):
 (Instr.lookup T (.map (some r)) (enc k) ok).run P w=.ok (if ok then .tuple #[v,.bool true] else v) w:=by
 obtain⟨iH,c⟩:=dc.IW hm;obtain⟨n,bp,bM,d,f,h,h1,e,g,i,_⟩:=(h.perm c).split;have hf:=a.find (bp++(k,v,d)::bM) k w;rw[AY (Er e)]at hf;simp only[Instr.lookup,Sem.run_bind,db b,Result.andThen,lO h,Sem.run_pure,a.check,hf]
theorem dc.oL[DecidableEq α](a:jf P gL enc)(b:P.underlying T=some (.map gL k6)){i:TypeInfo}{z:Y}(hi:P.info? k6=some i)(c:i.zero=some z)(h:dc w r enc M)(hm:∀v,(k,v)∉M)(ok:aj):
 (Instr.lookup T (.map (some r)) (enc k) ok).run P w=.ok (if ok then .tuple #[z,.bool false] else z) w:=by
 obtain⟨L,d,h,h1,e,f,g⟩:=h;have hf:=a.find L k w;rw[wS (AZ h1 hm)]at hf;simp only[Instr.lookup,Sem.run_bind,db b,Result.andThen,lO h,Sem.run_pure,a.check,hf,zeroValue,oC hi,c]
theorem dc.wT[DecidableEq α](e:jf P gL enc)(j:P.underlying T=some (.map gL k6)){i:TypeInfo}{z:Y}(hi:P.info? k6=some i)(l:i.zero=some z)(h:dc w r enc M)(hm:∀v,(k,v)∉M):
 ∃ (st:Int) (w1:I),(Instr.mapEntry T (.map (some r)) (enc k)).run P w=.ok (.tuple #[z,.int .i64 st]) w1/\af (λq=>q=r) w w1/\w1.heap.size=w.heap.size/\rM w1 r enc M k z st:=by
 have aJ:=h.lt;obtain⟨L,c,h,h1,m,n,f⟩:=h;have g:=AZ h1 hm;have hf:=e.find L k w;rw[wS g]at hf;refine⟨(c:Int),iI w r (.map ((L.map (di enc)).toArray.push ⟨enc k,z,c⟩) (c+1)),?_,pX _ _ _,rN _ _ _,L,[],c,c+1,?_,?_,?_,?_,?_,rfl⟩
 .simp only[Instr.mapEntry,Sem.run_bind,db j,Result.andThen,lO h,Sem.run_pure,e.check,hf,zeroValue,oC hi,l,uu h]
  rfl
 .rw[rO aJ]
  simp[di]
 .simpa using h1
 .rw[e_,ri]
  refine⟨m,by simp,λa d b hb=>?_⟩;obtain⟨x,hx,rfl⟩:=ew.1 d;simp only[gu,List.map_nil,ej]at hb;subst hb;exact g x hx
 .rw[e_,ri]
  refine⟨n,by simp,λa d b hb=>?_⟩;obtain⟨x,hx,rfl⟩:=ew.1 d;simp only[gu,List.map_nil,ej]at hb;subst hb;have:=f x hx;omega
 .intro x hx
  rcases cS.1 hx with hx|hx
  .have:=f x hx;omega
  .rw[ej.1 hx];show c<c+1;omega
theorem rM.store(h:rM w r enc M k v st)(T:TypeId)(a:Y):
 ∃w1:I,(Instr.entryStore T (.map (some r)) (.int .i64 st) a).run P w=.ok () w1/\af (λq=>q=r) w w1/\w1.heap.size=w.heap.size/\dc w1 r enc ((k,a)::M):=by
 have aJ:=h.lt;obtain⟨bp,bM,n,c,h,h1,f,d,b,rfl⟩:=h;have hx:((bp++(k,v,n)::bM).map (di enc)).toArray.findIdx? (λe=>(e.born:Int)==(n:Int))=some bp.length:=by
  rw[List.findIdx?_toArray,List.findIdx?_eq_some_iff_getElem];refine⟨by simp,by simp[di],λj g=>?_⟩;have i:j<bp.length:=g;have e:((bp++(k,v,n)::bM).map (di enc))[j]'(by simp;omega)=di enc bp[j]:=by simp[List.getElem_append,i]
  rw[e];have m:(bp[j]).2.2≠n:=IX d bp[j] (c3 _);simp only[di];intro hb;have:=eq_of_beq hb;omega
 have l:((bp++(k,v,n)::bM).map (di enc)).toArray.modify bp.length (λe=>{e with val:=a})=((bp++(k,a,n)::bM).map (di enc)).toArray:=by
  apply tE.1;rw[Array.toList_modify,e_,gu];have:=AX (λe=>{e with val:=a}) (di enc (k,v,n)) (bM.map (di enc)) (bp.map (di enc));rw[dU]at this;rw[this];simp[di]
 refine⟨iI w r (.map ((bp++(k,a,n)::bM).map (di enc)).toArray c),?_,pX _ _ _,rN _ _ _,bp++(k,a,n)::bM,c,rO aJ _,?_,?_,?_,?_⟩
 .simp only[Instr.entryStore,asInt,asIntOf,Sem.run_bind,Result.andThen,lO h,Sem.run_pure,hx,uu h,l]
 .rw[e_,gu]
  rw[e_]at h1;exact mT.trans (h1.cons _)
 .simpa using f
 .simpa using d
 .intro x hx
  rcases cS.1 hx with hx|hx
  .exact b x (by simp[hx])
  .rcases cY.1 hx with rfl|hx
   .exact b (k,v,n) (by simp)
   .exact b x (by simp[hx])
theorem dc.len{a:TypeId}(b:P.underlying T=some (.map a k6)){o:TypeId}(h:dc w r enc M):(Builtin.len_ #[T] o #[.map (some r)]).run P w=.ok (.int .i64 ((M.length:Nat):Int)) w:=by
 obtain⟨L,d,h,h1,e,f,g⟩:=h;have c:L.length=M.length:=by rw[←h1.length_eq,dU]
 simp only[Builtin.len_,tC,ou,Sem.run_bind,db b,Result.andThen,lO h,Sem.run_pure];simp[goInt,c]
end
end aQ
namespace aQ
open Go Go.RowKit
theorem Es(c:Array Y):∀ (vs:O Y) (i:Nat) (c:Array Y),(gE c i vs).toList.drop (i+vs.length)=c.toList.drop (i+vs.length)
 | [],_,_=>rfl
 |v::vs,i,c=>by
  simp only[gE,iR]
  rw[show i+(vs.length+1)=i+1+vs.length from J,Es c vs (i+1) (c.setIfInBounds i v)]
  rw[Array.toList_setIfInBounds,List.drop_set]
  rw[if_pos J]
theorem j5(vs:O Y)(c:Array Y)(i:Nat)(h:i+vs.length<=c.size):(gE c i vs).toList=c.toList.take i++vs++c.toList.drop (i+vs.length):=by
 rw[←g2 (i+vs.length) (gE c i vs).toList,ui vs c i h,Es c]
section
variable {P:Program}{w:I}
theorem nH{k7 dV ty e:TypeId}{d:TypeDesc}{sz:Nat}(hd:P.underlying k7=some (.slice e))(he:P.underlying e=some d)(g:P.cellsOf e=sz){A:av}{dl j6 n:Nat}{x:ae}(h:Nat.min x.len dl=n){xs:O Y}(hx:Src sz w ⟨x.a,n,x.cap⟩ xs)(b:b_ w A xs):
 Sem.run P (Builtin.copy_ #[k7,dV] ty #[.slice (some A) dl j6,.slice x.a x.len x.cap]) w=.ok (.int .i64 ((n:Nat):Int)) (setCells w A 0 xs):=by
 have f:=iq (w:=w) he;rw[g]at f;have hf:Sem.run P (Builtin.firstCells sz n (.slice x.a x.len x.cap)) w=.ok xs.toArray w:=by
  obtain⟨a,l,c⟩:=x
  cases a<;>exact rK (P:=P) hx
 have i:=tP (P:=P) (A:=A) xs 0 w (by simpa using b.1) b.2;simp only[Builtin.copy_,tC,ou,List.getElem?_cons_succ,Sem.run_bind,db hd,Result.andThen,Builtin.lenOf,Sem.run_pure,h,f,hf,i];rfl
set_option maxRecDepth 4000 in
theorem Et {g5:Array TypeId}{df dV k4 e:TypeId}{i:TypeInfo}{k:IntKind}{z:Y}{sz n:Nat}{s:ae}{c:O Y} (h0:g5[0]? =some dV) (h1:g5[1]? =some k4)
 (hs:P.underlying dV=some (.slice e)) (hx:P.underlying k4=some (.int k)) (hi:P.info? e=some i) (hd:(P.underlying e).isSome=true) (h:i.zero=some z) (j:z.cells.size=sz) (p:P.cellsOf e=sz)
 (hb:i.bytes≠0) (hold:Src sz w s c) (r:s.cap<s.len+n) (l:(2*(s.len+n)+1000)*i.bytes<=281474976710656):
 ∃ (b:Nat) (zs rest:O Y),s.len+n<=b/\b<=maxLen/\zs.length=n*sz/\rest.length=(b-(s.len+n))*sz/\
  Sem.run P (Builtin.append_ g5 df #[.slice s.a s.len s.cap,.int .i64 ((n:Nat):Int)]) w=
   .ok (.slice (some ⟨w.heap.size,0,none⟩) (s.len+n) b) (w.drew.alloc (.cells (c++zs++rest).toArray e)):=by
 obtain⟨d,hd⟩:=k2 _ hd;have m:=iq (w:=w) hd;rw[p]at m;have t:=Eb r;have N:Builtin.nextslicecap (s.len+n) s.cap*i.bytes<=281474976710656:=dQ (rh _ t) l;have Q:s.len+n<=281474976710656:=by
  have:s.len+n<=(2*(s.len+n)+1000)*i.bytes:=by
   have:=Nat.mul_le_mul_left (2*(s.len+n)+1000) (Nat.one_le_iff_ne_zero.2 hb);omega
  omega
 have u:n*i.bytes<=281474976710656:=dQ (rh _ (by omega:n<=2*(s.len+n)+1000)) l
 let q:Question:=.appendCap (s.len+n) s.cap e
 let b:Nat:=q.cut (w.tape w.drawn q)
 have v:q.forced=false:=rfl;have x:s.len+n<=b:=by show s.len+n<=s.len+n+_;omega
 have A:b<=maxLen:=by
  show s.len+n+_%(2^63-(s.len+n))<=2^63-1;have:=hZ (w.tape w.drawn q) (y:=2^63-(s.len+n)) J;omega
 have B:Src sz w.drew s c:=hold.ext (af.drew (.refl _ _));have C:=rK (P:=P) B;have D:∀n (w':I),(askRoom n).run P w'=.ok () w':=λn w'=>by unfold askRoom;split<;>rfl
 have E:(choose q).run P w=.ok b w.drew:=by
  show Sem.run P (.choose q .pure) w=_;simp only[Sem.run,v,gb,if_false];rfl
 have f:=λw:I=>oC (w:=w) hi;refine⟨b,if n*sz=0 then [] else (Builtin.zeroCells z.cells n).toList,(Builtin.zeroCells z.cells (b-(s.len+n))).toList,x,A,?_,by simp[Builtin.zeroCells,j],?_⟩
 .split
  .rename_i h0;simp[h0]
  .simp[Builtin.zeroCells,j]
 have F:IntKind.i64.wrap ((n:Nat):Int)=(n:Int):=bT J J;have G:¬((n:Int)<0):=by omega
 have H:¬((n:Int)*(i.bytes:Int)>2^48):=by
  have:((n*i.bytes:Nat):Int)<=((281474976710656:Nat):Int):=Int.ofNat_le.2 u;rw[Int.natCast_mul]at this;have K:(2:Int)^48=((281474976710656:Nat):Int):=by decide+kernel
  rw[K];omega
 have aG:¬(s.len+n<=s.cap):=by omega
 have aM:¬((s.len+n:Nat):Int)>IntKind.i64.max:=by
  simp[IntKind.max,IntKind.signed,IntKind.bits];omega
 have L:¬Builtin.nextslicecap (s.len+n) s.cap*i.bytes>2^48:=by
  have:(2:Nat)^48=281474976710656:=by decide+kernel
  omega
 have M:Sem.run P (choose (.appendCap (s.len+n) s.cap e)) w=.ok b w.drew:=E;unfold Builtin.append_;simp only[tC,ou,List.getElem?_cons_succ,h0,h1,Sem.run_bind,db hs,db hx,Result.andThen,m,Sem.run_pure,asInt,asIntOf,F,G,if_false,f,H,d_,aG,aM,false_and,L,if_true,Bool.not_true,gb,M,D,C];by_cases o:n*sz=0
 .simp only[o,if_true,Sem.run_pure,zeroValue,f,h,Sem.run_bind,Result.andThen,newRow,newObj,Sem.run]
  have g:w.drew.heap.size=w.heap.size:=rfl;rw[g]
  congr 1
  show w.drew.alloc _=w.drew.alloc _
  congr 2
  simp
 .simp only[o,if_false,Sem.run_pure,zeroValue,f,h,Sem.run_bind,Result.andThen,newRow,newObj,Sem.run]
  have g:w.drew.heap.size=w.heap.size:=rfl;rw[g]
  congr 1
  show w.drew.alloc _=w.drew.alloc _
  congr 2
  simp
end
theorem A0(a:aq av)(z c:Nat):aW a z 0 c=a:=by
 unfold aW;split
 .rfl
 .cases a with
  |none=>rfl
  |some A=>simp[add_zero']
theorem bc.pY{sz:Nat}{w:I}{b:Nat}{c:Array Y}{T:TypeId}(h:bc w b c T){o n cap:Nat}(d:o+n*sz<=c.size):Src sz w ⟨some ⟨b,o,none⟩,n,cap⟩ ((c.toList.drop o).take (n*sz)):=by
 refine⟨by simp;omega,(λh=>by cases h),λa e=>?_⟩
 cases e;have:=rJ h (n*sz) o 0 (by simpa using d);simpa using this
theorem bc.k8{w:I}{b o:Nat}{c:Array Y}{T:TypeId}(h:bc w b c T)(vs:O Y):bc (setCells w ⟨b,o,none⟩ 0 vs) b (gE c o vs) T:=by
 simpa using bc.pU vs o 0 h
theorem aT.mk'{sz:Nat}{T:TypeId}{w:I}{b n cap:Nat}{c:Array Y}{vs:O Y}(hb:bc w b c T)(a:vs.length=n*sz)(d:n<=cap)(hc:cap<=maxLen)(hs:c.size=cap*sz)(e:c.toList.take (n*sz)=vs):aT sz T w ⟨some ⟨b,0,Option.none⟩,n,cap⟩ vs:=
 ⟨a,d,hc,.inr ⟨b,c,rfl,hb,hs,e⟩⟩
theorem Eu(A:av)(a b:Nat):(A.add a).add b=A.add (a+b):=by
 unfold Addr.add;by_cases c:a=0
 .subst c;simp
 .by_cases hb:b=0
  .subst hb;simp
  .simp[c,hb,Nat.add_assoc]
theorem wU{w:I}{A:av}:∀ {n i:Nat}{vs:O Y}{j:Nat}{v:Y},aV w A i n=some vs->vs[j]? =some v->w.cell? (A.add (i+j))=some v
 |0,_,vs,j,v,h,a=>by simp[aV]at h;subst h;simp at a
 |n+1,i,vs,j,v,h,a=>by
  simp only[aV]at h
  cases h1:w.cell? (A.add i) with
  |none=>simp[h1]at h
  |some u=>
   cases b:aV w A (i+1) n with
   |none=>simp[h1,b]at h
   |some us=>
    simp only[h1,b,Option.some.injEq]at h
    subst h
    cases j with
    |zero=>simp at a;subst a;exact h1
    |succ j=>
     have:=wU b (j:=j) (v:=v) (by simpa using a)
     rwa[show i+(j+1)=i+1+j from J]
theorem A1{w:I}{A:av}:∀ (n i:Nat) (vs:O Y),vs.length=n->(∀j v,vs[j]? =some v->w.cell? (A.add (i+j))=some v)->aV w A i n=some vs
 |0,i,vs,a,_=>by
  cases vs with
  |nil=>simp[aV]
  |cons _ _=>simp at a
 |n+1,i,vs,a,h=>by
  cases vs with
  |nil=>simp at a
  |cons v vs=>
   simp only[aV]
   rw[show w.cell? (A.add i)=some v from h 0 v rfl,A1 n (i+1) vs (by simpa using a) (λj x hx=>by have:=h (j+1) x (by simpa using hx);rwa[show i+(j+1)=i+1+j from J]at this)]
theorem Ev{w:I}{A:av}{n k m:Nat}{vs:O Y}(h:aV w A 0 n=some vs)(b:k+m<=n):aV w (A.add k) 0 m=some ((vs.drop k).take m):=by
 have c:=uh h;refine A1 m 0 _ (by simp;omega) λj v a=>?_;rw[Eu,show k+(0+j)=0+(k+j) from J];refine wU h ?_;rw[vW]at a;split at a
 .rwa[vT]at a
 .cases a
theorem Ew{a b:Nat}(h:a+b<=4000000):IntKind.wrap .i64 (Int.fdiv (IntKind.wrap .u64 (IntKind.wrap .i64 ((a:Int)+(b:Int)))) (2^(min (Int.toNat 1) 64)))=(((a+b)/2:Nat):Int):=by
 rw[bT (n:=(a:Int)+b) J J,eZ J J];have e:(2:Int)^(min (Int.toNat 1) 64)=2:=rfl;rw[e,vY _ J,bT J J];omega
section
variable {w:I}
theorem dc.jG{α:Type}{enc:α->Y}{M:O (α×Y)}{q:Nat}{c:Array Y}{T:TypeId}(h:dc w q enc M)(a:bc w q c T):False:=by
 obtain⟨L,b,h,_⟩:=h;unfold bc at a;rw[a]at h;cases h
theorem aT.jG{sz:Nat}{T az:TypeId}{s:ae}{vs:O Y}{q:Nat}{c:Array Y}(h:aT sz T w s vs)(a:aB s q)(d:bc w q c az):T=az:=by
 obtain⟨A,ar,rfl⟩:=a;obtain⟨_,_,_,e⟩:=h;rcases e with ⟨f,_⟩|⟨b,c',hb,g,_⟩
 .rw[f]at ar;cases ar
 .rw[hb]at ar;cases ar
  exact(bc.inj g d).2
theorem aT.A2{α:Type}{enc:α->Y}{M:O (α×Y)}{sz:Nat}{T:TypeId}{s:ae}{vs:O Y}{q:Nat}(h:aT sz T w s vs)(a:aB s q)(c:dc w q enc M):False:=by
 obtain⟨A,ar,rfl⟩:=a;obtain⟨_,_,_,d⟩:=h;rcases d with ⟨e,_⟩|⟨b,c',hb,f,_⟩
 .rw[e]at ar;cases ar
 .rw[hb]at ar;cases ar
  exact dc.jG c f
end
theorem IY{w:I}{A:av}{n m i:Nat}{xs ys:O Y}(h1:aV w A i n=some xs)(b:aV w (A.add (i+n)) 0 m=some ys):aV w A i (n+m)=some (xs++ys):=by
 have c:=uh h1;have d:=uh b;refine A1 (n+m) i _ (by rw[cT,c,d]) λj v a=>?_;rw[List.getElem?_append]at a;split at a
 .exact wU h1 a
 .rename_i e
  have:=wU b a;rw[Eu]at this;rwa[show i+n+(0+(j-xs.length))=i+j from J]at this
theorem wM.src{P:Program}{w:I}{e:TypeId}{s:ae}{α:Type}{c:α->O Y}{sz:Nat}(h:wM P w e s)(m:P.cellsOf e=sz)(R:α->Prop)(o:∀fuel vs,gv P w fuel e vs->∃x:α,vs=c x/\R x):
 ∃l:O α,Src sz w s (l.map c).flatten/\l.length=s.len/\∀x∈l,R x:=by
 have j:=h.cell;rw[m]at j;have key:∀a,s.a=some a->∀n,n<=s.len->∃l:O α,aV w a 0 (n*sz)=some (l.map c).flatten/\l.length=n/\∀x∈l,R x:=by
  intro a d n
  induction n with
  |zero=>intro _;exact⟨[],by simp[aV],rfl,λr f=>by cases f⟩
  |succ n p=>
   intro v;obtain⟨l,h1,g,i⟩:=p J;obtain⟨vs,q,fuel,t⟩:=j a d n (by have:=h.le;omega);obtain⟨r,rfl,u⟩:=o fuel vs t;refine⟨l++ [r],?_,by simp[g],λx hx=>?_⟩
   .rw[Nat.succ_mul,IY h1 (by rw[cz];exact q)]
    simp
   .rcases cS.1 hx with hx|hx
    .exact i x hx
    .rw[ej.1 hx];exact u
 cases b:s.a with
 |none=>
  have h0:s.len=0:=by have:=h.nil b;have:=h.le;omega
  exact⟨[],⟨by simp[h0],λ_=>rfl,λa d=>(by rw[b]at d;cases d)⟩,h0.symm,λr f=>by cases f⟩
 |some a=>
  obtain⟨l,h1,g,i⟩:=key a b s.len (ba _);exact⟨l,⟨uh h1,λe=>(by rw[b]at e;cases e),λa' k=>by rw[b]at k;cases k;exact h1⟩,g,i⟩
theorem Ex{P:Program}{w:I}{T:TypeId}{fuel:Nat}{cs:O Y}{fs:Array Field}(h:gv P w fuel T cs)(a:P.underlying T=some (.struct fs))(i:Nat){t o n:Nat}(hf:(fs[i]?).map (λf=>(f.type,f.offset))=some (t,o))(b:P.cellsOf t=n):∃fuel,gv P w fuel t ((cs.drop o).take n):=by
 obtain⟨_,c⟩:=II h a
 cases hg:fs[i]? with
 |none=>rw[hg]at hf;cases hf
 |some f=>
  rw[hg]at hf;simp only[mS,Option.some.injEq,Prod.mk.injEq]at hf;obtain⟨rfl,rfl⟩:=hf;have:=c f (Array.mem_of_getElem? hg);rwa[b]at this
def fieldsOf(P:Program)(T:TypeId):Array Field:=match P.underlying T with
 |some (.struct fs)=>fs
 |_=> #[]
end aQ
