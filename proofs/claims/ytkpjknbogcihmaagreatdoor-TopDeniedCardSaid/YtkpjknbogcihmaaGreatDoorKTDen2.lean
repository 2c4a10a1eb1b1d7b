/- What a Go program of the model must show, as text that can be read; sound against the kit. -/
import Derived.Carry
import Derived.ChangeArms
import Derived.ChangeVars
import Derived.Defers
import Derived.LaidLaws
import Derived.Laws.StructEq
import Derived.Lib.Overlaps
import Derived.MakeChecks
import Derived.WideKeyRuns
import Derived.Test.YtkpjknbogcihmaaGreatDoorKTDen1
namespace aQ
open Go Go.RowKit
def kx(gd:TypeId->aw (Y cI))(P:Program):Y Field->Nat->aw (Y cI)
 | [],_=>some []
 |f::fs,o=>if f.name= "_" \/f.offset≠o then none else
  match gd f.type with
  |some ls=>if P.cellsOf f.type=ls.length then (kx gd P fs (o+ls.length)).map (ls++ ·) else none
  |none=>none
def oT(ls:Y cI):Nat->Y cI
 |0=> []
 |n+1=>ls++oT ls n
def gd(P:Program):Nat->TypeId->aw (Y cI)
 |0,_=>none
 |d+1,T=>match P.underlying T with
  |some (.int k)=>some [.int k]
  |some .bool=>some [.bool]
  |some .string=>some [.str]
  |some (.struct fs)=>if P.stoodInHeld T then none else kx (gd P d) P fs.toList 0
  |some (.array n e)=>match gd P d e with
   |some ls=>if P.cellsOf e=ls.length then some (oT ls n) else none
   |none=>none
  |_=>none
def wB:cI->O->Prop
 | .int k,v=>∃n:Int,v=.int k n
 | .bool,v=>∃b:ah,v=.bool b
 | .str,v=>∃s:ByteArray,v=.string s
 |_,_=>False
def dQ:Y cI->Y O->Prop
 | [],vs=>vs=[]
 |l::ls,vs=>∃v us,vs=v::us/\wB l v/\dQ ls us
theorem tU:∀ {ls:Y cI}{vs:Y O},dQ ls vs->vs.length=ls.length
 | [],_,h=>by cases h;rfl
 |_::_,_,h=>by
  obtain⟨v,us,rfl,_,h⟩:=h
  simp[tU h]
theorem tV:∀ {ls ms:Y cI}{vs:Y O},dQ (ls++ms) vs->dQ ls (vs.take ls.length)/\dQ ms (vs.drop ls.length)
 | [],_,_,h=>⟨rfl,h⟩
 |l::ls,ms,vs,h=>by
  obtain⟨v,us,rfl,h1,h2⟩:=h
  obtain⟨a,b⟩:=tV h2
  exact⟨⟨v,_,rfl,h1,a⟩,b⟩
theorem tW:∀ {ls ms:Y cI}{vs us:Y O},dQ ls vs->dQ ms us->dQ (ls++ms) (vs++us)
 | [],_,_,_,h,h2=>by cases h;exact h2
 |l::ls,ms,vs,us,h,h2=>by
  obtain⟨v,vs,rfl,h1,h⟩:=h
  exact⟨v,_,rfl,h1,tW h h2⟩
def oU:O->O->ah
 | .int _ a,.int _ b=>a==b
 | .bool a,.bool b=>a==b
 | .string a,.string b=>a.toList==b.toList
 |_,_=>false
def fx:Y O->Y O->ah
 | [],_=>true
 |a::as,b::bs=>oU a b&&fx as bs
 |_::_,[]=>false
theorem Jj{l:cI}{a b:O}(c:wB l a)(hb:wB l b):oU a b=true↔a=b:=by
 cases l<;>simp only[wB]at c hb<;>try exact c.elim
 .obtain⟨n,rfl⟩:=c;obtain⟨m,rfl⟩:=hb;simp[oU]
 .obtain⟨n,rfl⟩:=c;obtain⟨m,rfl⟩:=hb;simp[oU]
 .obtain⟨n,rfl⟩:=c;obtain⟨m,rfl⟩:=hb
  simp only[oU,jY,Value.string.injEq];rw[ByteArray.toList_eq,ByteArray.toList_eq];obtain⟨⟨x⟩⟩:=n;obtain⟨⟨y⟩⟩:=m;simp
theorem tX:∀ {ls:Y cI}{as bs:Y O},dQ ls as->dQ ls bs->(fx as bs=true↔as=bs)
 | [],_,_,h1,h2=>by cases h1;cases h2;simp[fx]
 |l::ls,_,_,h1,h2=>by
  obtain⟨a,as,rfl,c,d⟩:=h1
  obtain⟨b,bs,rfl,e,f⟩:=h2
  simp[fx,Jj c e,tX d f]
theorem Br:∀ {as bs cs ds:Y O},as.length=bs.length->fx (as++cs) (bs++ds)=(fx as bs&&fx cs ds)
 | [],[],_,_,_=>by simp[fx]
 |a::as,b::bs,cs,ds,h=>by
  simp only[pT,fx]
  rw[Br (by simpa using h),Bool.and_assoc]
 | [],_::_,_,_,h=>by simp at h
 |_::_,[],_,_,h=>by simp at h
def mf(P:Program)(T:TypeId)(cs:Y O):O:=
 match P.underlying T with
 |some d=>if g2 d then .agg cs.toArray else cs.headD undef
 |none=>undef
section
variable {P:Program}
theorem qe{T:TypeId}{d:TypeDesc}{cs:Y O}(h:P.underlying T=some d)(a:g2 d=true):mf P T cs=.agg cs.toArray:=by
 simp[mf,h,a]
theorem qf{T:TypeId}{d:TypeDesc}{v:O}(h:P.underlying T=some d)(a:g2 d=false):mf P T [v]=v:=by
 simp[mf,h,a]
theorem wC{T:TypeId}{cs us:Y O}{off:Nat}{d:TypeDesc}(a:P.underlying T=some d)(b:P.cellsOf T=us.length)(c:g2 d=false->us.length=1)
 (h:(cs.drop off).take us.length=us) (w:I):(part T cs.toArray off).run P w=.ok (mf P T us) w:=by
 cases hd:g2 d with
 |true=>
  rw[qe a hd];have e:cs.toArray.extract off (off+us.length)=us.toArray:=by
   simp[h]
  simp[part,ru a,hd,g3 a,b,h]
 |false=>
  obtain⟨v,rfl⟩:=List.length_eq_one_iff.1 (c hd);rw[qf a hd];have f:cs[off]? =some v:=by
   have:((cs.drop off).take 1)[0]? =some v:=by
    have g:List.take 1 (List.drop off cs)=[v]:=h;rw[g];rfl
   rw[AU J,kP]at this;simpa using this
  simp[part,ru a,hd,f]
theorem flat_agg{d:Nat}{T:TypeId}{ls:Y cI}(h:gd P d T=some ls):∃u,P.underlying T=some u/\(g2 u=false->ls.length=1):=by
 cases d with
 |zero=>cases h
 |succ d=>
  simp only[gd]at h
  cases hu:P.underlying T with
  |none=>simp[hu]at h
  |some u=>
   refine⟨u,rfl,λa=>?_⟩;rw[hu]at h
   cases u<;>simp only[g2,reduceCtorEq]at a h<;>first|(cases h;rfl)|cases h
theorem Ek{d D:Nat}(g:∀ {T:TypeId}{ls:Y cI}{xs ys:Y O},gd P d T=some ls->dQ ls xs->dQ ls ys->∀w,(Op.equalIn (D+d) T (mf P T xs) (mf P T ys)).run P w=.ok (fx xs ys) w)
 {xs ys:Y O}:∀ {fs:Y Field}{o:Nat}{ls:Y cI},kx (gd P d) P fs o=some ls->dQ ls (xs.drop o)->dQ ls (ys.drop o)->
  ∀w,(Op.eqFields (D+d) xs.toArray ys.toArray fs).run P w=.ok (fx (xs.drop o) (ys.drop o)) w
 | [],o,ls,h,hx,i,w=>by
  simp only[kx,Option.some.injEq]at h
  subst h
  have hx:xs.drop o=[]:=hx
  rw[hx]
  rfl
 |f::fs,o,ls,h,hx,i,w=>by
  simp only[kx]at h
  split at h
  .cases h
  .rename_i hf
   have p:¬f.name= "_" :=λe=>hf (.inl e)
   have q:f.offset=o:=by
    by_cases e:f.offset=o
    .exact e
    .exact absurd (.inr e) hf
   subst q;split at h
   .rename_i ms hm
    split at h
    .rename_i hc
     cases b:kx (gd P d) P fs (f.offset+ms.length) with
     |none=>simp[b]at h
     |some t=>
      simp only[b,mM,Option.some.injEq]at h;subst h;obtain⟨j,k⟩:=tV hx;obtain⟨l,m⟩:=tV i;rw[hV]at k m;obtain⟨u,hu,n⟩:=flat_agg hm;have a:=tU j;have j4:=tU l;have iW:=wC (cs:=xs) (off:=f.offset) (us:=(xs.drop f.offset).take ms.length) hu (by rw[hc,a]) (λc=>by rw[a];exact n c) (by rw[a]);have fH:=wC (cs:=ys) (off:=f.offset) (us:=(ys.drop f.offset).take ms.length) hu (by rw[hc,j4]) (λc=>by rw[j4];exact n c) (by rw[j4]);have e:=λw=>g hm j l w;have r:=Ek g (fs:=fs) b k m;have s:fx (xs.drop f.offset) (ys.drop f.offset)=(fx ((xs.drop f.offset).take ms.length) ((ys.drop f.offset).take ms.length)&&fx (xs.drop (f.offset+ms.length)) (ys.drop (f.offset+ms.length))):=by
       rw[←Br (by rw[a,j4])];simp only[←hV,kn]
      simp only[Op.eqFields,ne_eq,p,not_false_eq_true,if_true,Sem.run_bind,iW,fH,e,Result.andThen];rw[s]
      cases fx ((xs.drop f.offset).take ms.length) ((ys.drop f.offset).take ms.length)
      .simp
      .simpa using r w
    .cases h
   .cases h
theorem El(ls:Y cI):∀n,(oT ls n).length=n*ls.length
 |0=>by simp[oT]
 |n+1=>by simp[oT,El ls n,km,pV]
theorem Em{d D:Nat}(h:∀ {T:TypeId}{ls:Y cI}{xs ys:Y O},gd P d T=some ls->dQ ls xs->dQ ls ys->∀w,(Op.equalIn (D+d) T (mf P T xs) (mf P T ys)).run P w=.ok (fx xs ys) w)
 {e:TypeId}{ls:Y cI}{u:TypeDesc} (hu:P.underlying e=some u) (f:g2 u=false->ls.length=1) (hl:gd P d e=some ls) (hc:P.cellsOf e=ls.length) {xs ys:Y O}:
 ∀ (n i:Nat),dQ (oT ls n) (xs.drop (i*ls.length))->dQ (oT ls n) (ys.drop (i*ls.length))->∀w,
  Sem.run P (do
   let r ←forIn (List.range' i n) ((none:aw ah),()) λi _=>do
    let a ←part e xs.toArray (i*ls.length)
    let b ←part e ys.toArray (i*ls.length)
    let t ←Op.equalIn (D+d) e a b
    if (!t)=true then pure (ForInStep.done (some false,())) else pure (ForInStep.yield (none,()))
   match r.1 with
   |some b=>pure b
   |none=>pure true) w=.ok (fx (xs.drop (i*ls.length)) (ys.drop (i*ls.length))) w
 |0,i,hx,j,w=>by
  have hx:xs.drop (i*ls.length)=[]:=hx
  rw[hx]
  simp[fx]
 |n+1,i,hx,j,w=>by
  obtain⟨k,l⟩:=tV hx
  obtain⟨m,o⟩:=tV j
  rw[hV,show i*ls.length+ls.length=(i+1)*ls.length by rw[km,Nat.one_mul]]at l o
  have c:=tU k
  have j4:=tU m
  have iW:=wC (cs:=xs) (off:=i*ls.length) (us:=(xs.drop (i*ls.length)).take ls.length) hu (by rw[hc,c]) (λg=>by rw[c];exact f g) (by rw[c])
  have fH:=wC (cs:=ys) (off:=i*ls.length) (us:=(ys.drop (i*ls.length)).take ls.length) hu (by rw[hc,j4]) (λg=>by rw[j4];exact f g) (by rw[j4])
  have aT:=λw=>h hl k m w
  have r:=Em h hu f hl hc n (i+1) l o w
  have p:fx (xs.drop (i*ls.length)) (ys.drop (i*ls.length))=(fx ((xs.drop (i*ls.length)).take ls.length) ((ys.drop (i*ls.length)).take ls.length)&&fx (xs.drop ((i+1)*ls.length)) (ys.drop ((i+1)*ls.length))):=by
   rw[←Br (by rw[c,j4]),show(i+1)*ls.length=i*ls.length+ls.length by rw[km,Nat.one_mul]];simp only[←hV,kn]
  rw[p];simp only[List.range'_succ,List.forIn_cons,Sem.run_bind,iW,fH,aT,Result.andThen]
  cases fx ((xs.drop (i*ls.length)).take ls.length) ((ys.drop (i*ls.length)).take ls.length)
  .simp
  .simpa[Result.andThen] using r
theorem En(D:Nat):∀ (d:Nat) {T:TypeId}{ls:Y cI}{xs ys:Y O},gd P d T=some ls->dQ ls xs->dQ ls ys->∀w,(Op.equalIn (D+d) T (mf P T xs) (mf P T ys)).run P w=.ok (fx xs ys) w
 |0,_,_,_,_,h,_,_,_=>by cases h
 |d+1,T,ls,xs,ys,h,hx,b,w=>by
  have c:= @En D d
  simp only[gd]at h
  cases hu:P.underlying T with
  |none=>simp[hu]at h
  |some u=>
   rw[hu]at h
   cases u with
   |int k=>
    simp only[Option.some.injEq]at h;subst h
    obtain⟨x,_,rfl,⟨n,rfl⟩,rfl⟩:=hx
    obtain⟨y,_,rfl,⟨m,rfl⟩,rfl⟩:=b
    rw[qf hu rfl,qf hu rfl]
    show(Op.equalIn (D+d+1) T _ _).run P w=_
    simp[Op.equalIn,cL hu,fx,oU]
   |bool=>
    simp only[Option.some.injEq]at h;subst h
    obtain⟨x,_,rfl,⟨n,rfl⟩,rfl⟩:=hx
    obtain⟨y,_,rfl,⟨m,rfl⟩,rfl⟩:=b
    rw[qf hu rfl,qf hu rfl]
    show(Op.equalIn (D+d+1) T _ _).run P w=_
    simp[Op.equalIn,cL hu,fx,oU]
   |string=>
    simp only[Option.some.injEq]at h;subst h
    obtain⟨x,_,rfl,⟨n,rfl⟩,rfl⟩:=hx
    obtain⟨y,_,rfl,⟨m,rfl⟩,rfl⟩:=b
    rw[qf hu rfl,qf hu rfl]
    show(Op.equalIn (D+d+1) T _ _).run P w=_
    simp[Op.equalIn,cL hu,fx,oU,beq_toListBytes]
   |struct fs=>
    simp only at h
    split at h
    .cases h
    .rename_i i
     rw[qe hu rfl,qe hu rfl]
     have f:P.fieldsOf T=fs:=by simp[Program.fieldsOf,hu]
     show(Op.equalIn (D+d+1) T _ _).run P w=_
     rw[run_equalIn_struct w (D+d) T xs.toArray ys.toArray (by rw[f];exact hu) (by simpa using i),f]
     have:=Ek (D:=D) c (xs:=xs) (ys:=ys) h (by simpa using hx) (by simpa using b) w
     simpa using this
   |array n e=>
    simp only at h
    split at h
    .rename_i ms hm
     split at h
     .rename_i hc
      simp only[Option.some.injEq]at h;subst h
      obtain⟨u,g,j⟩:=flat_agg hm
      rw[qe hu rfl,qe hu rfl]
      show(Op.equalIn (D+d+1) T _ _).run P w=_
      have:=Em (D:=D) c g j hm hc (xs:=xs) (ys:=ys) n 0 (by simpa using hx) (by simpa using b) w
      rw[Nat.zero_mul,iT,iT]at this
      rw[←this]
      simp only[Op.equalIn,Sem.run_bind,cL hu,g3 g,Result.andThen,hc,Std.Legacy.Range.forIn_eq_forIn_range',Std.Legacy.Range.size]
      simp
      congr 1
      funext a w
      obtain⟨o,_⟩:=a
      cases o<;>rfl
     .cases h
    .cases h
   |_=>cases h
theorem jj.flat{T:TypeId}{d:TypeDesc}{ls:Y cI}{xs ys:Y O}(a:P.underlying T=some d)(b:g2 d=true)(hf:gd P 8 T=some ls)(hg:P.eqGuardType P.depth T=false)
 (hx:dQ ls xs) (c:dQ ls ys):jj P T xs.toArray ys.toArray (fx xs ys):=by
 refine⟨hg,λw=>?_⟩;have:=En (P:=P) 9992 8 hf hx c w;rwa[qe a b,qe a b]at this
end
end aQ
namespace aQ
open Go Go.RowKit
theorem oV{n:Int}(h0:0<=n)(h1:n<=255):IntKind.u8.wrap n=n:=by
 simp only[IntKind.wrap,IntKind.signed,IntKind.bits];simp;omega
theorem qg{n:Int}(h0:0<=n)(h1:n<=65535):IntKind.u16.wrap n=n:=by
 simp only[IntKind.wrap,IntKind.signed,IntKind.bits];simp;omega
theorem ky{n:Int}(h0:0<=n)(h1:n<=4294967295):IntKind.u32.wrap n=n:=by
 simp only[IntKind.wrap,IntKind.signed,IntKind.bits];simp;omega
theorem c2{n:Int}(h0:0<=n)(h1:n<=18446744073709551615):IntKind.u64.wrap n=n:=by
 simp only[IntKind.wrap,IntKind.signed,IntKind.bits];simp;omega
theorem Jk(n:Int):IntKind.u8.wrap n=n%256:=by
 simp only[IntKind.wrap,IntKind.signed,IntKind.bits];simp
theorem Eo(n:Int):IntKind.u64.wrap n=n%18446744073709551616:=by
 simp only[IntKind.wrap,IntKind.signed,IntKind.bits];simp
theorem oW{a b:Int}(h:0<=a):Int.tdiv a b=a/b:=vP h
theorem qh{a b:Int}(h:0<=a):Int.tmod a b=a%b:=nz h
def S(l:Y UInt8):ByteArray:=⟨l.toArray⟩
theorem Ep(l:Y UInt8):(S l).toList=l:=ByteArray.toList_mk l
theorem tY(l:Y UInt8):(S l).size=l.length:=rfl
theorem Er(a b:Y UInt8):S a++S b=S (a++b):=by
 apply ByteArray.ext;show(S a++S b).data=_;rw[ByteArray.data_append];simp[S]
theorem Jl(ns:Y Int):Ei ns=S (ns.map λn=>UInt8.ofNat n.toNat):=by
 have h:∀ (ns:Y Int) (r:Y UInt8),ns.foldl (λr n=>r.push (UInt8.ofNat n.toNat)) (S r)=S (r++ns.map λn=>UInt8.ofNat n.toNat):=by
  intro ns
  induction ns with
  |nil=>intro r;simp
  |cons n ns a=>
   intro r;have e:(S r).push (UInt8.ofNat n.toNat)=S (r++ [UInt8.ofNat n.toNat]):=by
    apply ByteArray.ext;simp[S,ByteArray.push]
   simp only[tw,e,a,f_,dg,pT,ko]
 exact h ns []
def lG(d:Nat):UInt8:=UInt8.ofNat (if d<10 then 48+d else 87+d)
def ej(b:Nat)(n:Nat):Y UInt8:=if a:2<=b/\b<=n then ej b (n/b)++ [lG (n%b)] else [lG n]
termination_by n
decreasing_by exact Nat.div_lt_self J J
theorem rL{b n:Nat}(h:n<b):ej b n=[lG n]:=by rw[ej,dif_neg J]
theorem wD{b n:Nat}(hb:2<=b)(h:b<=n):ej b n=ej b (n/b)++ [lG (n%b)]:=by rw[ej,dif_pos ⟨hb,h⟩]
def oX(n:Nat)(k:Nat):Y UInt8:=(List.range k).map λj=>UInt8.ofNat (48+n/10^(k-1-j)%10)
theorem Jm(n k:Nat):oX n (k+1)=oX (n/10) k++ [UInt8.ofNat (48+n%10)]:=by
 unfold oX;rw[List.range_succ,fv]
 congr 1
 .apply mN
  intro j a;have a:=jX.1 a;rw[vQ,show k+1-1-j=(k-1-j)+1 from J,l7,Nat.mul_comm (10^(k-1-j)) 10]
 .simp
theorem Es:∀ (k n:Nat),n<10^(k+1)->10^k<=n\/k=0->ej 10 n=oX n (k+1)
 |0,n,h,_=>by
  have h:n<10:=by simpa using h
  rw[rL h]
  simp[oX,lG,h,hW h]
 |k+1,n,h,h2=>by
  have h2:10^(k+1)<=n:=by rcases h2 with h2|h2;exact h2;omega
  have a:10<=n:=cB (by rw[l7];have:=Nat.one_le_pow k 10 J;omega) h2
  rw[wD J a,Jm,Es k (n/10) (by rw[l7]at h;omega) (.inl (by rw[l7]at h2;omega))]
  have:n%10<10:=ib _ J
  simp[lG,this]
theorem Jn(b n:Nat):1<=(ej b n).length:=by
 rw[ej];split<;>simp
theorem Jo(b n:Nat):ej b n≠ []:=by
 intro h;have:=Jn b n;rw[h]at this;simp at this
theorem add_add(A:av)(n m:Nat):(A.add n).add m=A.add (n+m):=by
 unfold Addr.add;by_cases h1:n=0
 .subst h1;simp
 .by_cases h2:m=0
  .subst h2;simp
  .rw[if_neg h1,if_neg h2,if_neg J]
   simp[tu]
def jk(m:Nat)(f:Nat->Int):Array O:=((List.range m).map λi=>Value.int .u8 (f i)).toArray
def put(f:Nat->Int)(i:Nat)(v:Int):Nat->Int:=λj=>if j=i then v else f j
theorem Jp(m:Nat)(f:Nat->Int):(jk m f).size=m:=by simp[jk]
theorem Jq{m:Nat}{f:Nat->Int}{i:Nat}(h:i<m):(jk m f)[i]? =some (.int .u8 (f i)):=by
 simp[jk,h]
theorem Jr{m:Nat}{f:Nat->Int}{i:Nat}{v:Int}:(jk m f).setIfInBounds i (.int .u8 v)=jk m (put f i v):=by
 apply rf.1;simp only[Array.toList_setIfInBounds,jk];apply oJ
 .simp
 .intro j h1 h2
  simp only[rh,List.getElem_map,List.getElem_range,put];by_cases h:i=j
  .subst h;simp
  .rw[if_neg h,if_neg (λe=>h e.symm)]
theorem a7.shape{w:I}{b:Nat}{c:Array O}{T:TypeId}(h:a7 w b c T):w.shape? b=some (T,c.size):=by
 unfold a7 at h;simp[World.shape?,h]
structure g6(w:I)(b:Nat)(T:TypeId)(m:Nat)(f:Nat->Int):Prop where
 bg:a7 w b (jk m f) T
section
variable {w w':I}{b m i:Nat}{T:TypeId}{f:Nat->Int}
theorem g6.cell(h:g6 w b T m f){A:av}(ar:A=⟨b,i,none⟩)(hi:i<m):w.cell? A=some (.int .u8 (f i)):=by
 subst ar;rw[h.bg.cell,Jq hi]
theorem g6.frozen(h:g6 w b T m f){A:av}(ar:A=⟨b,i,none⟩):w.frozen? A=false:=by
 subst ar;exact h.bg.frozen _ rfl
theorem g6.set(h:g6 w b T m f){A:av}(ar:A=⟨b,i,none⟩)(v:Int):g6 (w.setCell A (.int .u8 v)) b T m (put f i v):=by
 subst ar;constructor;rw[←Jr];exact h.bg.set i _
theorem g6.drew(h:g6 w b T m f):g6 w.drew b T m f:=⟨h.bg⟩
theorem af.iC{w0 w:I}{b i:Nat}(h:af (λq=>q=b) w0 w)(v:O):af (λq=>q=b) w0 (w.setCell ⟨b,i,none⟩ v):=af.set h (λ_=>rfl) v
theorem af.iD{w0 w:I}{b i:Nat}(h:af (λq=>q=b) w0 w)(vs:Y O)(j:Nat):af (λq=>q=b) w0 (aQ.setCells w ⟨b,i,none⟩ j vs):=af.setCells (W:=λq=>q=b) (A:=⟨b,i,none⟩) (λ_=>rfl) vs j h
theorem g6.src(h:g6 w b T m f){o n c:Nat}(d:o+n<=m):Src 1 w ⟨some ⟨b,o,none⟩,n,c⟩ ((List.range n).map λi=>Value.int .u8 (f (o+i))):=by
 refine⟨by simp,(λh=>by cases h),λa e=>?_⟩
 cases e;rw[qd h.bg _ _ _ (by rw[Jp];simp;exact d)]
 congr 1
 apply oJ
 .simp[jk];omega
 .intro j h1 h2
  simp[jk]
end
theorem lH{b o:Nat}{z l m:Nat}(h:m≠l):bj (some (Addr.mk b o none)) z l m=some ⟨b,o+l*z,none⟩:=by
 simp[bj,h,az]
theorem Ext.trans{a b c:I}(h1:Ext a b)(h2:Ext b c):Ext a c:=af.trans h1 h2
theorem Ext.dE{w0 w1 ag:I}{W:Nat->Prop}(h1:Ext w0 w1)(h2:af W w1 ag)(h:∀k,W k->w0.heap.size<=k):Ext w0 ag:=
 ⟨h2.os.trans h1.os,h2.tape.trans h1.tape,h2.output.trans h1.output,cB h1.size h2.size,λk a _=>by
  rw[h2.block k (fu a h1.size) (λcu=>by have:=h k cu;omega),h1.block k a id]⟩
theorem Ext.set{w0 w1:I}(h1:Ext w0 w1){A:av}(ar:w0.heap.size<=A.block)(v:O):Ext w0 (w1.setCell A v):=
 Ext.dE h1 (W:=λk=>k=A.block) (af.set (W:=λk=>k=A.block) (A:=A) (.refl _ _) (λ_=>rfl) v) (λk a=>by subst a;exact ar)
end aQ
namespace aQ
open Go
def rM(P:Program)(f:FuncId)(args:Array O)(w:I)(K:I->Prop):Prop:=
 iA P f/\CallsD P f args .returning w λe a w'=>(∃v,e=.returned v)/\a=.returning/\K w'
def Bs(P:Program)(tk:TypeId->dO)(c:Code)(K:FuncId->Array O->Array O->Env->I->Prop)(e:Env)(w:I):Prop:=
 match c with
 | .region _ ops false=>match ops.toList with
  | [a,b]=>match a.guard,b.guard,b.dst,b.op with
   |none,none,none,.defer call=>match call.callee,call.args.toList with
    | .value x,[]=>kq P tk a (λv w'=>match ev (c_ a.dst v e) x with|some (.func (.func f) first cap)=>K f first cap (c_ a.dst v e) w'|_=>False) e w
    |_,_=>False
   |_,_,_,_=>False
  |_=>False
 |_=>False
def tZ(P:Program)(tk:TypeId->dO):aB->Code->(Exit->Env->I->Prop)->(FuncId->Array O->Array O->Exit->Env->I->Prop)->Env->I->Prop
 | .seq .leaf B,.seq a b,_,Kd,e,w=>Bs P tk a (λf first cap e' w'=>D P tk B b (Kd f first cap) e' w') e w
 | .seq A B,.seq a b,K,Kd,e,w=>D P tk A a (λx e' w'=>match x with| .normal=>tZ P tk B b K Kd e' w'|x=>K x e' w') e w
 |_,_,_,_,_,_=>False
def Js(P:Program)(tk:TypeId->dO)(a:Y ResultVar)(R:O->I->Prop)(f:FuncId)(first cap:Array O)(x:Exit)(e:Env)(w:I):Prop:=
 match x with
 | .normal| .ret=>rM P f (first++cap) w λw'=>nJ P tk a e w' λvs=>R (rF vs) w'
 |_=>False
def Bt(P:Program)(tk:TypeId->dO)(A:aB)(fn:Func)(args:Y O)(w:I)(R:O->I->Prop):Prop:=
 match fn.body with
 |some c=>tZ P tk A c (D9 P tk fn.results.toList R) (Js P tk fn.results.toList R) (qa 0 args) w
 |none=>False
variable {P:Program}{tk:TypeId->dO}
def t_(f:FuncId)(first cap:Array O):Deferred:={target:=.fn (.func f) cap,args:=first++ #[]}
theorem Jt{c:Code}{K:FuncId->Array O->Array O->Env->I->Prop}{e:Env}{a:Act}{w:I}(ar:dh e a)(hb:∀d∈writes c,d<a.tmps.size)(h:Bs P tk c K e w):
 c.wp P (λx a' w'=>x=.normal/\∃f first cap,a'.defers=t_ f first cap::a.defers/\a'.tmps.size=a.tmps.size/\∃e',dh e' a'/\K f first cap e' w') a w:=by
 unfold Bs at h;split at h
 case h_2=>exact h.elim
 rename_i id ops;split at h
 case h_2=>exact h.elim
 rename_i b j hl;split at h
 case h_2=>exact h.elim
 rename_i call n o p bC;split at h
 case h_2=>exact h.elim
 rename_i x hc wA;refine wp_region_list ?_;rw[hl];have w1:Region.wanted b (yielded ops a.tmps)=true:=by unfold Region.wanted;rw[n]
 simp only[wpList,w1,if_true];refine .inl ((wh ar h).wp ?_);intro v w' l;have q:Region.wanted j (yielded ops (a.put b.dst v).tmps)=true:=by unfold Region.wanted;rw[o]
 simp only[q,if_true];refine .inl ?_;split at l
 case h_2=>exact l.elim
 rename_i f first cap r;have m:dh (c_ b.dst v e) (a.put b.dst v):=ar.put λk i=>hb k (by simp[writes,hl,bP,i]);have t:call.args= #[]:=by
  have:=congrArg List.toArray wA;simpa using this
 have u:(execOp (a.put b.dst v).eval j).run P w'=.ok (.defer (t_ f first cap)) w':=by
  have hm:∀g:Operand->O,Array.map g #[]= #[]:=λg=>by simp
  simp only[execOp,bC,resolve,hc,t,m.ev r,hm];rfl
 show j.upon P _ _ _ ((execOp (a.put b.dst v).eval j).run P w');rw[u,Oper.upon_defer,p];refine⟨trivial,f,first,cap,?_,?_,c_ b.dst v e,?_,l⟩
 .have:=(dV.put (a:=a) (d:=b.dst) (v:=v) (ds:=bP [b]) (λk i=>by simp[bP,i])).defers
  show t_ f first cap::(a.put b.dst v).defers=_;rw[this]
 .exact(dV.put (a:=a) (d:=b.dst) (v:=v) (ds:=bP [b]) (λk i=>by simp[bP,i])).size
 .exact⟨λs v y=>m.get s v y⟩
theorem Ju(hm:P.follows .mixedOrders=true):∀ (A:aB) (c:Code) (K:Exit->Env->I->Prop) (Kd:FuncId->Array O->Array O->Exit->Env->I->Prop) (e:Env) (a:Act) (w:I),dh e a->a.defers=[]->
 (∀d∈writes c,d<a.tmps.size)->tZ P tk A c K Kd e w->
 c.wp P (λx a' w'=>(a'.defers=[]/\∃e',dh e' a'/\K x e' w')\/∃f first cap,a'.defers=[t_ f first cap]/\∃e',dh e' a'/\Kd f first cap x e' w') a w:=by
 intro A
 induction A with
 |seq A B s m=>
  intro c K Kd e a w ar hd hb h;unfold tZ at h;split at h
  case h_3=>exact h.elim
  .rename_i n x y i
   cases i;have hx:∀d,d∈writes x->d∈writes (.seq x y):=λd hd=>by simp[writes,hd]
   have j:∀d,d∈writes y->d∈writes (.seq x y):=λd hd=>by simp[writes,hd]
   refine wp_seq (j3 (Jt ar (λd hd=>hb d (hx d hd)) h) ?_);rintro ex a1 w1 ⟨rfl,f,first,cap,h1,h2,aT,b,o⟩;refine j3 (wz hm B y _ aT a1 w1 b (λd hd=>by rw[h2];exact hb d (j d hd)) o) ?_;rintro ex a2 ag ⟨p,a6,q,r⟩;exact .inr ⟨f,first,cap,by rw[p.defers,h1,hd],a6,q,r⟩
  .rename_i t n x y _ i
   cases i;have hx:∀d,d∈writes x->d∈writes (.seq x y):=λd hd=>by simp[writes,hd]
   have j:∀d,d∈writes y->d∈writes (.seq x y):=λd hd=>by simp[writes,hd]
   refine wp_seq (j3 (wz hm A x _ _ a _ ar (λd hd=>hb d (hx d hd)) h) ?_);rintro ex a1 w1 ⟨k,aT,b,h1⟩;have g:a1.defers=[]:=by rw[k.defers,hd]
   cases ex with
   |normal=>exact m y _ _ aT a1 w1 b g (λd hd=>by rw[k.size];exact hb d (j d hd)) h1
   |exit id=>exact .inl ⟨g,aT,b,h1⟩
   |goto l=>exact .inl ⟨g,aT,b,h1⟩
   |ret=>exact .inl ⟨g,aT,b,h1⟩
   |panic u=>exact .inl ⟨g,aT,b,h1⟩
   |outgrown=>exact .inl ⟨g,aT,b,h1⟩
 |_=>intro c K Kd e a w ar hd hb h;unfold tZ at h;exact h.elim
theorem Et{fn:Func}{args:Y O}(b:args.length<=fn.ntmps):dh (qa 0 args) {tmps:=args.toArray++Array.replicate (fn.ntmps-args.toArray.size) undef,defers:=[]}:=by
 constructor;intro s v a;obtain⟨_,h2⟩:=Bm a;simp only[Nat.sub_zero]at h2;have aK:s<args.length:=(pS.1 h2).1;simp[Array.getElem?_append,aK];rw[gQ aK]at h2;exact Option.some.inj h2
theorem Jv{f:FuncId}{fn:Func}{A:aB}{args:Y O}{w:I}{K:I->Prop}(hm:P.follows .mixedOrders=true)(hc:iA P f)
 (hf:P.funcs[f]? =some fn) (b:qb fn args.length=true) (h:rG P tk A fn args w λ_ w'=>K w'):rM P f args.toArray w K:=by
 refine⟨hc,?_⟩;unfold rG at h;unfold qb at b
 cases g:fn.body with
 |none=>rw[g]at h;exact h.elim
 |some c=>
  rw[g]at h b;simp only[dM]at h b;obtain⟨m,n⟩:=b;have o:=oH n;have p:(args.toArray++Array.replicate (fn.ntmps-args.toArray.size) undef).size=fn.ntmps:=by simp;omega
  refine(callsD_of_wp (R:=λe w'=>(∃v,e=.returned v)/\K w') hf g ?_).mono λe s w' ⟨h1,h2,q⟩=>⟨h2,h1,q⟩;refine j3 (wz hm A c _ _ _ w (Et o) (λd hd=>?_) h) ?_
  .have h1:=oC.1 m d hd
   have h2:=oH h1;show d<(args.toArray++Array.replicate (fn.ntmps-args.toArray.size) undef).size;rw[p];omega
  .rintro x a' w' ⟨r,e',k,a⟩
   have hd:a'.defers=[]:=r.defers
   cases x with
   |normal=>
    obtain⟨vs,i,j⟩:=nK k a;exact⟨hd,_,qc i,⟨_,rfl⟩,j⟩
   |ret=>
    obtain⟨vs,i,j⟩:=nK k a;exact⟨hd,_,qc i,⟨_,rfl⟩,j⟩
   |exit id=>exact a.elim
   |goto l=>exact a.elim
   |panic t=>exact a.elim
   |outgrown=>exact a.elim
theorem Jw{f:FuncId}{fn:Func}{A:aB}{args:Y O}{w:I}{R:O->I->Prop}(hm:P.follows .mixedOrders=true)
 (hf:P.funcs[f]? =some fn) (k:qb fn args.length=true) (h:Bt P tk A fn args w R):
 Calls P f args.toArray w λe w'=>∃v,e=.returned v/\R v w':=by
 unfold Bt at h;unfold qb at k
 cases m:fn.body with
 |none=>rw[m]at h;exact h.elim
 |some c=>
  rw[m]at h k;simp only[dM]at h k;obtain⟨n,o⟩:=k;have p:=oH o;have q:(args.toArray++Array.replicate (fn.ntmps-args.toArray.size) undef).size=fn.ntmps:=by simp;omega
  refine calls_of_wp_defers hf m ?_;refine j3 (Ju hm A c _ _ _ _ w (Et p) rfl (λd hd=>?_) h) ?_
  .have h1:=oC.1 n d hd
   have h2:=oH h1;show d<(args.toArray++Array.replicate (fn.ntmps-args.toArray.size) undef).size;rw[q];omega
  .have key:∀ {a':Act}{w':I}{e':Env}{g:FuncId}{first cap:Array O},a'.defers=[t_ g first cap]->dh e' a'->(rM P g (first++cap) w' λw'=>nJ P tk fn.results.toList e' w' λvs=>R (rF vs) w')->
    Leaves P fn a'.tmps (λe w'=>∃v,e=.returned v/\R v w') a'.defers .returning w':=by
    intro a' w' e' g first cap hd b ⟨hc,a⟩;rw[hd];refine leaves_cons (f:=g) (args:=first++cap) (by simp) (by simp[invoke,DC hc]) (a.mono ?_);rintro _ _ ag ⟨⟨v,rfl⟩,rfl,r⟩;obtain⟨vs,i,j⟩:=nK b r;exact⟨_,qc i,_,rfl,j⟩
   rintro x a' w' (⟨hd,e',b,a⟩|⟨g,first,cap,hd,e',b,a⟩)
   .cases x with
    |normal=>
     obtain⟨vs,i,j⟩:=nK b a;show Leaves _ _ _ _ a'.defers _ _;rw[hd];exact⟨_,qc i,_,rfl,j⟩
    |ret=>
     obtain⟨vs,i,j⟩:=nK b a;show Leaves _ _ _ _ a'.defers _ _;rw[hd];exact⟨_,qc i,_,rfl,j⟩
    |exit id=>exact a.elim
    |goto l=>exact a.elim
    |panic s=>exact a.elim
    |outgrown=>exact a.elim
   .cases x with
    |normal=>exact key hd b a
    |ret=>exact key hd b a
    |exit id=>exact a.elim
    |goto l=>exact a.elim
    |panic s=>exact a.elim
    |outgrown=>exact a.elim
end aQ
namespace aQ
open Go Go.RowKit
theorem Eu{P:Program}{w:I}:∀ {l:Y (String×DataW Unit)}{ps:Y MemPlace},DataW.LaidVars P w l ps->∀ {i:Nat}{n:String}{d:DataW Unit},l[i]? =some (n,d)->
 ∃g t cs fuel p,P.globalNamed n=some g/\(P.globals[g]?).map (·.type)=some t/\w.var? P n=some cs/\DataW.trod (λ_=>()) P w 0 (λ_=>true) false fuel t cs.toList=some (d,p)
 | [],_,_,i,n,d,h=>by simp at h
 |(e,d0)::r,ps,hl,i,n,d,h=>by
  obtain⟨g,t,cs,fuel,p,q,h1,h2,a,b,c,_⟩:=hl
  cases i with
  |zero=>
   simp at h
   obtain⟨rfl,rfl⟩:=h
   exact⟨g,t,cs,fuel,p,h1,h2,a,b⟩
  |succ i=>exact Eu c (by simpa using h)
theorem Ev{α β:Type}{f:α->aw β}:∀ {l:Y α}{r:Y β},l.mapM f=some r->∀ {i:Nat}{x:α},l[i]? =some x->∃y,r[i]? =some y/\f x=some y
 | [],_,_,i,x,hx=>by simp at hx
 |a::l,r,h,i,x,hx=>by
  simp only[List.mapM_cons]at h
  cases c:f a with
  |none=>simp[c]at h
  |some b=>
   cases hl:l.mapM f with
   |none=>simp[c,hl]at h
   |some bs=>
    simp[c,hl]at h
    subst h
    cases i with
    |zero=>simp at hx;subst hx;exact⟨b,rfl,c⟩
    |succ i=>exact Ev hl (by simpa using hx)
theorem Ew{P:Program}{w:I}{l:Y (String×DataW Unit)}(h:laidMet P l w){i:Nat}{n:String}{d:DataW Unit}(hm:l[i]? =some (n,d)){g:Nat}{t e:TypeId}{N:Nat}{k:IntKind}{zs:Y Int}
 (hg:P.globalNamed n=some g) (ht:(P.globals[g]?).map (·.type)=some t) (hu:P.underlying t=some (.array N e)) (he:P.underlying e=some (.int k)) (hc:P.cellsOf e=1) (hd:d=.agg (zs.map λz=>.lit (.int k z))):
 ∀j,j<N->w.cell? ⟨g,j,none⟩=some (.int k (zs.getD j 0)):=by
 intro j q;obtain⟨ps,hl,_⟩:=h;obtain⟨g',v,cs,fuel,p,h1,h2,r,a⟩:=Eu hl hm;obtain rfl:=Option.some.inj (hg.symm.trans h1);obtain rfl:=Option.some.inj (ht.symm.trans h2)
 cases fuel with
 |zero=>cases a
 |succ f=>
  simp only[DataW.trod,hu]at a;split at a
  .rename_i hlen
   cases b:(List.range N).mapM λi=>DataW.trod (λ_=>()) P w 0 (λ_=>true) false f e ((cs.toList.drop (i*P.cellsOf e)).take (P.cellsOf e)) with
   |none=>rw[b]at a;simp at a
   |some xs=>
    rw[b]at a;simp only[mM,Option.some.injEq,Prod.mk.injEq,hd,DataW.agg.injEq]at a;obtain⟨y,s,c⟩:=Ev b (i:=j) (x:=j) (by simp[q]);rw[hc,eB]at c
    cases f with
    |zero=>cases c
    |succ f=>
     have hx:(xs.map (·.1))[j]? =some y.1:=by rw[oK,s];rfl
     rw[a.1,oK]at hx
     cases m:zs[j]? with
     |none=>rw[m]at hx;cases hx
     |some z=>
      rw[m]at hx;simp only[mM,Option.some.injEq]at hx;obtain⟨o,aT,a6,_⟩:=DataW.trod_int he c;rw[a6]at hx;simp only[DataW.lit.injEq,Lit.int.injEq,true_and]at hx;have h0:((cs.toList.drop j).take 1)[0]? =some (.int k o):=by rw[aT];rfl
      have u:cs[j]? =some (.int k o):=by simpa using h0
      rw[World.var?_cell h1 r j,u,List.getD,m,←hx];rfl
  .cases a
def Jx:cI->O->Prop
 | .int k,v=>∃n:Int,v=.int k n/\k.min<=n/\n<=k.max
 | .bool,v=>∃b:ah,v=.bool b
 | .str,v=>∃s:ByteArray,v=.string s/\s.size<=maxLen
 |_,_=>False
def j5:Y cI->Y O->Prop
 | [],vs=>vs=[]
 |l::ls,vs=>∃v us,vs=v::us/\Jx l v/\j5 ls us
theorem Bu:∀ {ls ms:Y cI}{vs us:Y O},j5 ls vs->j5 ms us->j5 (ls++ms) (vs++us)
 | [],_,_,_,h,h2=>by cases h;exact h2
 |l::ls,ms,vs,us,h,h2=>by
  obtain⟨v,vs,rfl,h1,h⟩:=h
  exact⟨v,_,rfl,h1,Bu h h2⟩
theorem Bv:∀ {ls ms:Y cI}{vs:Y O},j5 (ls++ms) vs->∃us ts,vs=us++ts/\j5 ls us/\j5 ms ts
 | [],_,vs,h=>⟨[],vs,rfl,rfl,h⟩
 |l::ls,ms,vs,h=>by
  obtain⟨v,us,rfl,h1,h2⟩:=h
  obtain⟨a,b,rfl,c,d⟩:=Bv h2
  exact⟨v::a,b,rfl,⟨v,a,rfl,h1,c⟩,d⟩
theorem Ex{P:Program}{wE:TypeId->aw (Y cI)}{cs:Y O}{R:TypeId->Y O->Prop}(b:∀ {T:TypeId}{ls:Y cI}{us:Y O},wE T=some ls->R T us->j5 ls us):
 ∀ {fs:Y Field}{o:Nat}{ls:Y cI},kx wE P fs o=some ls->o+ls.length=cs.length->(∀f∈fs,R f.type ((cs.drop f.offset).take (P.cellsOf f.type)))->j5 ls (cs.drop o)
 | [],o,ls,h,hl,_=>by
  simp only[kx,Option.some.injEq]at h
  subst h
  exact vR (by simp at hl;omega)
 |f::fs,o,ls,h,hl,c=>by
  simp only[kx]at h
  split at h
  .cases h
  .rename_i hf
   have d:f.offset=o:=by
    by_cases e:f.offset=o
    .exact e
    .exact absurd (.inr e) hf
   subst d;split at h
   .rename_i ms hm
    split at h
    .rename_i hc
     cases a:kx wE P fs (f.offset+ms.length) with
     |none=>simp[a]at h
     |some i=>
      simp only[a,mM,Option.some.injEq]at h;subst h;have h1:=b hm (c f (by simp));have h2:=Ex b (fs:=fs) (cs:=cs) a (by simp at hl;omega) (λg hg=>c g (by simp[hg]));rw[hc]at h1;have:=Bu h1 h2;rwa[←hV,kn]at this
    .cases h
   .cases h
theorem Ey{ls:Y cI}{cs:Y O}:∀ {n i:Nat},(∀j,i<=j->j<i+n->j5 ls ((cs.drop (j*ls.length)).take ls.length))->cs.length=(i+n)*ls.length->j5 (oT ls n) (cs.drop (i*ls.length))
 |0,i,_,hl=>vR (by simp at hl;omega)
 |n+1,i,h,hl=>by
  have h1:=h i (bu _) J
  have h2:=Ey (n:=n) (i:=i+1) (λj h1 h2=>h j J J) (by rw[hl];congr 1;omega)
  have:=Bu h1 h2
  rw[show(i+1)*ls.length=i*ls.length+ls.length by rw[km,Nat.one_mul],←hV,kn]at this
  exact this
theorem wF{P:Program}{w:I}:∀ (d:Nat) {T:TypeId}{ls:Y cI}{fuel:Nat}{cs:Y O},gd P d T=some ls->P.cellsOf T=ls.length->ig P w fuel T cs->j5 ls cs
 |0,_,_,_,_,h,_,_=>by cases h
 |d+1,T,ls,fuel,cs,h,l,a=>by
  cases fuel with
  |zero=>cases a
  |succ f=>
   simp only[gd]at h
   cases hu:P.underlying T with
   |none=>simp[hu]at h
   |some u=>
    rw[hu]at h
    cases u with
    |int k=>
     simp only[Option.some.injEq]at h;subst h
     simp only[ig,hu]at a
     obtain⟨n,rfl,h1,h2⟩:=a
     exact⟨_,_,rfl,⟨n,rfl,h1,h2⟩,rfl⟩
    |bool=>
     simp only[Option.some.injEq]at h;subst h
     simp only[ig,hu]at a
     obtain⟨b,rfl⟩:=a
     exact⟨_,_,rfl,⟨b,rfl⟩,rfl⟩
    |string=>
     simp only[Option.some.injEq]at h;subst h
     simp only[ig,hu]at a
     obtain⟨s,rfl,h1⟩:=a
     exact⟨_,_,rfl,⟨s,rfl,h1⟩,rfl⟩
    |struct fs=>
     simp only at h
     split at h
     .cases h
     .simp only[ig,hu]at a
      have:=Ex (P:=P) (cs:=cs) (wE:=λT=>if (gd P d T).isSome/\∀ms,gd P d T=some ms->P.cellsOf T=ms.length then gd P d T else none) (R:=λT us=>ig P w f T us) (λ{T}{ls}{us} h1 h2=>by
       split at h1
       .rename_i hh;exact wF d h1 (hh.2 _ h1) h2
       .cases h1) (fs:=fs.toList) (o:=0) (ls:=ls) (by
        have key:∀ (fs:Y Field) (o:Nat) (ls:Y cI),kx (gd P d) P fs o=some ls->kx (λT=>if (gd P d T).isSome/\∀ms,gd P d T=some ms->P.cellsOf T=ms.length then gd P d T else none) P fs o=some ls:=by
         intro fs
         induction fs with
         |nil=>intro o ls h;exact h
         |cons g fs p=>
          intro o ls h;simp only[kx]at h⊢;split at h
          .cases h
          .rename_i hg
           rw[if_neg hg];split at h
           .rename_i ms hm
            split at h
            .rename_i hc
             have q:(gd P d g.type).isSome/\∀ms,gd P d g.type=some ms->P.cellsOf g.type=ms.length:=by
              refine⟨by simp[hm],λr m=>?_⟩;rw[hm]at m;cases m;exact hc
             rw[if_pos q,hm];simp only;rw[if_pos hc]
             cases c:kx (gd P d) P fs (o+ms.length) with
             |none=>rw[c]at h;cases h
             |some t=>rw[c]at h;rw[p _ _ c];exact h
            .cases h
           .cases h
        exact key _ _ _ h) (by rw[a.1,l];simp) (λg hg=>a.2 g (by simpa using hg))
      simpa using this
    |array n e=>
     simp only at h;split at h
     .rename_i ms hm
      split at h
      .rename_i hc
       simp only[Option.some.injEq]at h;subst h;simp only[ig,hu]at a;have:=Ey (ls:=ms) (cs:=cs) (n:=n) (i:=0) (λj _ v=>by
        have:=a.2 j J;rw[hc]at this;exact wF d hm hc this) (by rw[a.1,l,El];simp)
       simpa using this
      .cases h
     .cases h
    |_=>cases h
theorem Jy{P:Program}{w:I}{T:TypeId}{d:TypeDesc}{ls:Y cI}{v:O}(h:lE P w T v)(b:P.underlying T=some d)(c:g2 d=true)(hf:gd P 8 T=some ls)(a:P.cellsOf T=ls.length):
 ∃cs:Y O,v=.agg cs.toArray/\j5 ls cs:=by
 unfold lE at h;rw[b]at h
 cases d<;>simp only[g2,gE]at c<;>simp only at h
 .obtain⟨cs,rfl,fuel,h⟩:=h
  exact⟨cs.toList,by simp,wF 8 hf a h⟩
 .obtain⟨cs,rfl,fuel,h⟩:=h
  exact⟨cs.toList,by simp,wF 8 hf a h⟩
theorem Ez:∀ {n:Nat}{cs:Y O},j5 (List.replicate n (.int .u8)) cs->∃l:Y UInt8,l.length=n/\cs=l.map λb=>Value.int .u8 ((b.toNat:Nat):Int)
 |0,cs,h=>⟨[],rfl,h⟩
 |n+1,cs,h=>by
  obtain⟨v,us,rfl,⟨z,rfl,h0,h1⟩,h2⟩:=h
  obtain⟨l,hl,rfl⟩:=Ez h2
  obtain⟨h0,h1⟩:=Bq h0 h1
  refine⟨UInt8.ofNat z.toNat::l,by simp[hl],?_⟩
  simp only[f_,List.cons.injEq,Value.int.injEq,true_and,and_true]
  have e:(UInt8.ofNat z.toNat).toNat=z.toNat:=by simp;omega
  omega
end aQ
namespace aQ
open Go Go.RowKit
section
variable {α:Type}{P:Program}{w:I}{gA kX T:TypeId}{enc:α->O}
def c8(enc:α->O)(x:α×O×Nat):MapEntry:=⟨enc x.1,x.2.1,x.2.2⟩
def nM(x:α×O×Nat):α×O:=(x.1,x.2.1)
def mg[DecidableEq α](k:α):Y (α×O×Nat)->Nat->aw (Nat×O)
 | [],_=>none
 |x::L,i=>if k=x.1 then some (i,x.2.1) else mg k L (i+1)
theorem Bw{β:Type}(f:β->β)(x:β)(db:Y β):∀cF:Y β,(cF++x::db).modify cF.length f=cF++f x::db
 | []=>rfl
 |y::cF=>by
  show y::((cF++x::db).modify cF.length f)=_
  rw[Bw f x db cF];rfl
structure jl[DecidableEq α](P:Program)(gA:TypeId)(enc:α->O):Prop where
 find:∀ (L:Y (α×O×Nat)) (k:α) (w:I),(Instr.findKey gA (enc k) (L.map (c8 enc))).run P w=.ok (mg k L 0) w
 check:∀ (b:ah) (k:α) (w:I),(Instr.checkKey b 10000 gA (enc k)).run P w=.ok () w
 bits:∀k,Instr.sameBits 10000 (enc k) (enc k)=true
theorem wG[DecidableEq α]{k:α}:∀ {L:Y (α×O×Nat)}{i:Nat},(∀x∈L,x.1≠k)->mg k L i=none
 | [],_,_=>rfl
 |x::L,i,h=>by
  rw[mg,if_neg (λe=>h x (by simp) e.symm)]
  exact wG λy a=>h y (by simp[a])
theorem Bx[DecidableEq α]{k:α}{v:O}{n:Nat}{db:Y (α×O×Nat)}:∀ {cF:Y (α×O×Nat)}{i:Nat},(∀x∈cF,x.1≠k)->mg k (cF++(k,v,n)::db) i=some (i+cF.length,v)
 | [],i,_=>by simp[mg]
 |x::L,i,h=>by
  rw[pT,mg,if_neg (λe=>h x (by simp) e.symm),Bx λy a=>h y (by simp[a])]
  simp;omega
theorem jl.int{k:IntKind}(hu:P.underlying gA=some (.int k)):jl P gA (λn:Int=>Value.int k n) where
 find L n w:=by
  have h:∀ (L:Y (Int×O×Nat)) (i:Nat),Instr.findNow (.int k) (.int k n) (L.map (c8 λn:Int=>Value.int k n)) i=some (mg n L i):=by
   intro L
   induction L with
   |nil=>intro i;rfl
   |cons x L a=>
    intro i;simp only[f_,Instr.findNow,c8,Instr.sameNow,if_true,mg];by_cases hx:n=x.1
    .subst hx;simp
    .rw[if_neg hx,show(n==x.1)=false by simpa using hx]
     exact a (i+1)
  simp[Instr.findKey,cL hu,h]
 check b n w:=by
  show(Instr.checkKey b (9999+1) gA (.int k n)).run P w=_;unfold Instr.checkKey;simp only[Sem.run_bind,cL hu,Result.andThen];rfl
 bits n:=by
  show(k==k&&n==n)=true;simp
theorem jl.agg[DecidableEq α]{d:TypeDesc}(hu:P.underlying gA=some d)(hd:g2 d=true)(c:∀a b w,(Op.equal gA (enc a) (enc b)).run P w=.ok (decide (a=b)) w)
 (hc:∀ (b:ah) (k:α) (w:I),(Instr.checkKey b 10000 gA (enc k)).run P w=.ok () w) (hb:∀k,Instr.sameBits 10000 (enc k) (enc k)=true):jl P gA enc where
 find L k w:=by
  have h:∀ (L:Y (α×O×Nat)) (i:Nat),(Instr.findAsking gA (enc k) (L.map (c8 enc)) i).run P w=.ok (mg k L i) w:=by
   intro L
   induction L with
   |nil=>intro i;rfl
   |cons x L e=>
    intro i;simp only[f_,Instr.findAsking,c8,Sem.run_bind,c,Result.andThen,mg];by_cases hx:k=x.1
    .simp[hx]
    .simp only[hx,decide_false,gE,if_false]
     exact e (i+1)
  rw[run_findKey_eq w (by rw[hu];cases d<;>simp[g2]at hd⊢) (enc k) _];exact h L 0
 check:=hc
 bits:=hb
def cR(w:I)(r:Nat)(enc:α->O)(M:Y (α×O)):Prop:=
 ∃ (L:Y (α×O×Nat)) (a:Nat),w.heap[r]? =some (.map (L.map (c8 enc)).toArray a)/\(L.map nM).Perm M/\(L.map (·.1)).Nodup/\(L.map (·.2.2)).Nodup/\∀x∈L,x.2.2<a
def rN(w:I)(r:Nat)(enc:α->O)(M:Y (α×O))(k:α)(v:O)(st:Int):Prop:=
 ∃ (cF db:Y (α×O×Nat)) (n a:Nat),w.heap[r]? =some (.map ((cF++(k,v,n)::db).map (c8 enc)).toArray a)/\((cF++db).map nM).Perm M/\((cF++(k,v,n)::db).map (·.1)).Nodup/\((cF++(k,v,n)::db).map (·.2.2)).Nodup/\(∀x∈cF++(k,v,n)::db,x.2.2<a)/\st=(n:Int)
variable {r:Nat}{M ua:Y (α×O)}{k:α}{v:O}{st:Int}{w':I}
theorem cR.lt(h:cR w r enc M):r<w.heap.size:=by
 obtain⟨L,a,h,_⟩:=h;exact(kO.1 h).1
theorem cR.ax{W:Nat->Prop}(h:cR w r enc M)(hc:af W w w')(a:¬W r):cR w' r enc M:=by
 have hl:=h.lt;obtain⟨L,b,h,hh⟩:=h;exact⟨L,b,by rw[hc.block r hl a];exact h,hh⟩
theorem cR.ext(h:cR w r enc M)(hc:Ext w w'):cR w' r enc M:=h.ax hc id
theorem cR.perm(h:cR w r enc M)(a:M.Perm ua):cR w r enc ua:=by
 obtain⟨L,b,h,h1,hh⟩:=h;exact⟨L,b,h,h1.trans a,hh⟩
theorem rN.lt(h:rN w r enc M k v st):r<w.heap.size:=by
 obtain⟨cF,db,n,a,h,_⟩:=h;exact(kO.1 h).1
theorem cR.split(h:cR w r enc ((k,v)::M)):∃n,rN w r enc M k v (n:Nat):=by
 obtain⟨L,b,h,h1,h2,c,d⟩:=h;have hm:(k,v)∈L.map nM:=h1.mem_iff.2 (by simp);obtain⟨x,hx,a⟩:=dX.1 hm;obtain⟨cF,db,rfl⟩:=List.append_of_mem hx;obtain⟨e,f,n⟩:=x;simp only[nM,Prod.mk.injEq]at a;obtain⟨rfl,rfl⟩:=a;refine⟨n,cF,db,n,b,h,?_,h2,c,d,rfl⟩;rw[fv,f_]at h1;have:=(ri.symm.trans h1);rw[fv];exact this.cons_inv
theorem cR.keys(h:cR w r enc M):(M.map (·.1)).Nodup:=by
 obtain⟨L,a,h,h1,h2,b,c⟩:=h;have:=h1.map (·.1);rw[jE]at this;exact this.nodup_iff.1 h2
theorem cR.Jz(hm:(k,v)∈M):∃ua,M.Perm ((k,v)::ua):=by
 obtain⟨A,B,rfl⟩:=List.append_of_mem hm;exact⟨A++B,ri⟩
def iE(w:I)(r:Nat)(o:Obj):I:={w with heap:=w.heap.setIfInBounds r o}
theorem qi(w:I)(r:Nat)(o:Obj):af (λq=>q=r) w (iE w r o):=
 ⟨rfl,rfl,rfl,by simp[iE],λk _ a=>by
  have:¬r=k:=λe=>a e.symm
  simp[iE,this]⟩
theorem rO(w:I)(r:Nat)(o:Obj):(iE w r o).heap.size=w.heap.size:=by simp[iE]
theorem rP{w:I}{r:Nat}(h:r<w.heap.size)(o:Obj):(iE w r o).heap[r]? =some o:=by simp[iE,h]
theorem lI{es:Array MapEntry}{a:Nat}(h:w.heap[r]? =some (.map es a)):(getObj r).run P w=.ok (.map es a) w:=by simp[getObj,Sem.run,h]
theorem uc{es:Array MapEntry}{a:Nat}(h:w.heap[r]? =some (.map es a))(o:Obj):(setObj r o).run P w=.ok () (iE w r o):=by simp[setObj,Sem.run,h,iE]
theorem EA{cF db:Y (α×O×Nat)}{x:α×O×Nat}(h:((cF++x::db).map (·.1)).Nodup):∀y∈cF,y.1≠x.1:=by
 intro y a e;rw[fv,f_,rj]at h;exact h.2.2 _ (List.mem_map_of_mem a) _ (List.mem_cons_self ..) e
theorem JA{cF db:Y (α×O×Nat)}{x:α×O×Nat}(h:((cF++x::db).map (·.2.2)).Nodup):∀y∈cF,y.2.2≠x.2.2:=by
 intro y a e;rw[fv,f_,rj]at h;exact h.2.2 _ (List.mem_map_of_mem a) _ (List.mem_cons_self ..) e
theorem By{L:Y (α×O×Nat)}(h1:(L.map nM).Perm M)(a:∀v,(k,v)∉M):∀x∈L,x.1≠k:=by
 intro x hx e;refine a x.2.1 (h1.mem_iff.1 (dX.2 ⟨x,hx,?_⟩));simp[nM,e]
theorem cR.make(T:TypeId)(w:I):(Instr.makeMap T none).run P w=.ok (.map (some w.heap.size)) (w.alloc (.map #[] 0))/\cR (w.alloc (.map #[] 0)) w.heap.size enc ([]:Y (α×O)):=by
 refine⟨by simp[Instr.makeMap],[],0,?_,by simp,by simp,by simp,by simp⟩;show(w.heap.push (.map #[] 0))[w.heap.size]? =_;simp
theorem cR.ud[DecidableEq α](a:jl P gA enc)(b:P.underlying T=some (.map gA kX))(h:cR w r enc M)(hm:(k,v)∈M)(ok:ah):
 (Instr.lookup T (.map (some r)) (enc k) ok).run P w=.ok (if ok then .tuple #[v,.bool true] else v) w:=by
 obtain⟨ua,c⟩:=cR.Jz hm;obtain⟨n,cF,db,d,e,h,h1,h2,f,g,_⟩:=(h.perm c).split;have hf:=a.find (cF++(k,v,d)::db) k w;rw[Bx (EA h2)]at hf;simp only[Instr.lookup,Sem.run_bind,cL b,Result.andThen,lI h,Sem.run_pure,a.check,hf]
theorem cR.oY[DecidableEq α](a:jl P gA enc)(b:P.underlying T=some (.map gA kX)){i:TypeInfo}{z:O}(hi:P.info? kX=some i)(c:i.zero=some z)(h:cR w r enc M)(hm:∀v,(k,v)∉M)(ok:ah):
 (Instr.lookup T (.map (some r)) (enc k) ok).run P w=.ok (if ok then .tuple #[z,.bool false] else z) w:=by
 obtain⟨L,d,h,h1,h2,e,f⟩:=h;have hf:=a.find L k w;rw[wG (By h1 hm)]at hf;simp only[Instr.lookup,Sem.run_bind,cL b,Result.andThen,lI h,Sem.run_pure,a.check,hf,zeroValue,oM hi,c]
theorem cR.wH[DecidableEq α](e:jl P gA enc)(j:P.underlying T=some (.map gA kX)){i:TypeInfo}{z:O}(hi:P.info? kX=some i)(l:i.zero=some z)(h:cR w r enc M)(hm:∀v,(k,v)∉M):
 ∃ (st:Int) (w1:I),(Instr.mapEntry T (.map (some r)) (enc k)).run P w=.ok (.tuple #[z,.int .i64 st]) w1/\af (λq=>q=r) w w1/\w1.heap.size=w.heap.size/\rN w1 r enc M k z st:=by
 have aK:=h.lt;obtain⟨L,c,h,h1,h2,m,f⟩:=h;have g:=By h1 hm;have hf:=e.find L k w;rw[wG g]at hf;refine⟨(c:Int),iE w r (.map ((L.map (c8 enc)).toArray.push ⟨enc k,z,c⟩) (c+1)),?_,qi _ _ _,rO _ _ _,L,[],c,c+1,?_,?_,?_,?_,?_,rfl⟩
 .simp only[Instr.mapEntry,Sem.run_bind,cL j,Result.andThen,lI h,Sem.run_pure,e.check,hf,zeroValue,oM hi,l,uc h]
  rfl
 .rw[rP aK]
  simp[c8]
 .simpa using h1
 .rw[fv,rj]
  refine⟨h2,by simp,λa d b hb=>?_⟩;obtain⟨x,hx,rfl⟩:=dX.1 d;simp only[f_,List.map_nil,dH]at hb;subst hb;exact g x hx
 .rw[fv,rj]
  refine⟨m,by simp,λa d b hb=>?_⟩;obtain⟨x,hx,rfl⟩:=dX.1 d;simp only[f_,List.map_nil,dH]at hb;subst hb;have:=f x hx;omega
 .intro x hx
  rcases eL.1 hx with hx|hx
  .have:=f x hx;omega
  .rw[dH.1 hx];show c<c+1;omega
theorem rN.store(h:rN w r enc M k v st)(T:TypeId)(a:O):
 ∃w1:I,(Instr.entryStore T (.map (some r)) (.int .i64 st) a).run P w=.ok () w1/\af (λq=>q=r) w w1/\w1.heap.size=w.heap.size/\cR w1 r enc ((k,a)::M):=by
 have aK:=h.lt;obtain⟨cF,db,n,c,h,h1,h2,d,b,rfl⟩:=h;have hx:((cF++(k,v,n)::db).map (c8 enc)).toArray.findIdx? (λe=>(e.born:Int)==(n:Int))=some cF.length:=by
  rw[List.findIdx?_toArray,List.findIdx?_eq_some_iff_getElem];refine⟨by simp,by simp[c8],λj f=>?_⟩;have g:j<cF.length:=f;have e:((cF++(k,v,n)::db).map (c8 enc))[j]'(by simp;omega)=c8 enc cF[j]:=by simp[List.getElem_append,g]
  rw[e];have l:(cF[j]).2.2≠n:=JA d cF[j] (dD _);simp only[c8];intro hb;have:=eq_of_beq hb;omega
 have i:((cF++(k,v,n)::db).map (c8 enc)).toArray.modify cF.length (λe=>{e with val:=a})=((cF++(k,a,n)::db).map (c8 enc)).toArray:=by
  apply rf.1;rw[Array.toList_modify,fv,f_];have:=Bw (λe=>{e with val:=a}) (c8 enc (k,v,n)) (db.map (c8 enc)) (cF.map (c8 enc));rw[eM]at this;rw[this];simp[c8]
 refine⟨iE w r (.map ((cF++(k,a,n)::db).map (c8 enc)).toArray c),?_,qi _ _ _,rO _ _ _,cF++(k,a,n)::db,c,rP aK _,?_,?_,?_,?_⟩
 .simp only[Instr.entryStore,asInt,asIntOf,Sem.run_bind,Result.andThen,lI h,Sem.run_pure,hx,uc h,i]
 .rw[fv,f_]
  rw[fv]at h1;exact ri.trans (h1.cons _)
 .simpa using h2
 .simpa using d
 .intro x hx
  rcases eL.1 hx with hx|hx
  .exact b x (by simp[hx])
  .rcases c4.1 hx with rfl|hx
   .exact b (k,v,n) (by simp)
   .exact b x (by simp[hx])
theorem cR.len{a:TypeId}(b:P.underlying T=some (.map a kX)){o:TypeId}(h:cR w r enc M):(Builtin.len_ #[T] o #[.map (some r)]).run P w=.ok (.int .i64 ((M.length:Nat):Int)) w:=by
 obtain⟨L,c,h,h1,h2,d,e⟩:=h;have hl:L.length=M.length:=by rw[←h1.length_eq,eM]
 simp only[Builtin.len_,tv,oF,Sem.run_bind,cL b,Result.andThen,lI h,Sem.run_pure];simp[goInt,hl]
end
end aQ
namespace aQ
open Go Go.RowKit
theorem EB(c:Array O):∀ (vs:Y O) (i:Nat) (c:Array O),(gn c i vs).toList.drop (i+vs.length)=c.toList.drop (i+vs.length)
 | [],_,_=>rfl
 |v::vs,i,c=>by
  simp only[gn,d_]
  rw[show i+(vs.length+1)=i+1+vs.length from J,EB c vs (i+1) (c.setIfInBounds i v)]
  rw[Array.toList_setIfInBounds,List.drop_set]
  rw[if_pos J]
theorem j6(vs:Y O)(c:Array O)(i:Nat)(h:i+vs.length<=c.size):(gn c i vs).toList=c.toList.take i++vs++c.toList.drop (i+vs.length):=by
 rw[←kn (i+vs.length) (gn c i vs).toList,rK vs c i h,EB c]
section
variable {P:Program}{w:I}
theorem nN{kY dJ ty e:TypeId}{d:TypeDesc}{sz:Nat}(hd:P.underlying kY=some (.slice e))(he:P.underlying e=some d)(g:P.cellsOf e=sz){A:av}{dl j7 n:Nat}{x:ai}(h:Nat.min x.len dl=n){xs:Y O}(hx:Src sz w ⟨x.a,n,x.cap⟩ xs)(b:bE w A xs):
 Sem.run P (Builtin.copy_ #[kY,dJ] ty #[.slice (some A) dl j7,.slice x.a x.len x.cap]) w=.ok (.int .i64 ((n:Nat):Int)) (setCells w A 0 xs):=by
 have f:=g3 (w:=w) he;rw[g]at f;have hf:Sem.run P (Builtin.firstCells sz n (.slice x.a x.len x.cap)) w=.ok xs.toArray w:=by
  obtain⟨a,l,c⟩:=x
  cases a<;>exact rJ (P:=P) hx
 have i:=rv (P:=P) (A:=A) xs 0 w (by simpa using b.1) b.2;simp only[Builtin.copy_,tv,oF,List.getElem?_cons_succ,Sem.run_bind,cL hd,Result.andThen,Builtin.lenOf,Sem.run_pure,h,f,hf,i];rfl
set_option maxRecDepth 4000 in
theorem EC {gR:Array TypeId}{cX dJ kW e:TypeId}{i:TypeInfo}{k:IntKind}{z:O}{sz n:Nat}{s:ai}{c:Y O} (h0:gR[0]? =some dJ) (h1:gR[1]? =some kW)
 (p:P.underlying dJ=some (.slice e)) (hx:P.underlying kW=some (.int k)) (hi:P.info? e=some i) (hd:(P.underlying e).isSome=true) (h:i.zero=some z) (j:z.cells.size=sz) (r:P.cellsOf e=sz)
 (hb:i.bytes≠0) (hold:Src sz w s c) (t:s.cap<s.len+n) (l:(2*(s.len+n)+1000)*i.bytes<=281474976710656):
 ∃ (b:Nat) (zs rest:Y O),s.len+n<=b/\b<=maxLen/\zs.length=n*sz/\rest.length=(b-(s.len+n))*sz/\
  Sem.run P (Builtin.append_ gR cX #[.slice s.a s.len s.cap,.int .i64 ((n:Nat):Int)]) w=
   .ok (.slice (some ⟨w.heap.size,0,none⟩) (s.len+n) b) (w.drew.alloc (.cells (c++zs++rest).toArray e)):=by
 obtain⟨d,hd⟩:=kV _ hd;have m:=g3 (w:=w) hd;rw[r]at m;have u:=Ef t;have Q:Builtin.nextslicecap (s.len+n) s.cap*i.bytes<=281474976710656:=cB (pU _ u) l;have R:s.len+n<=281474976710656:=by
  have:s.len+n<=(2*(s.len+n)+1000)*i.bytes:=by
   have:=Nat.mul_le_mul_left (2*(s.len+n)+1000) (Nat.one_le_iff_ne_zero.2 hb);omega
  omega
 have v:n*i.bytes<=281474976710656:=cB (pU _ (by omega:n<=2*(s.len+n)+1000)) l
 let q:Question:=.appendCap (s.len+n) s.cap e
 let b:Nat:=q.cut (w.tape w.drawn q)
 have x:q.forced=false:=rfl;have A:s.len+n<=b:=by show s.len+n<=s.len+n+_;omega
 have B:b<=maxLen:=by
  show s.len+n+_%(2^63-(s.len+n))<=2^63-1;have:=ib (w.tape w.drawn q) (y:=2^63-(s.len+n)) J;omega
 have C:Src sz w.drew s c:=hold.ext (af.drew (.refl _ _));have D:=rJ (P:=P) C;have E:∀n (w':I),(askRoom n).run P w'=.ok () w':=λn w'=>by unfold askRoom;split<;>rfl
 have F:(choose q).run P w=.ok b w.drew:=by
  show Sem.run P (.choose q .pure) w=_;simp only[Sem.run,x,gE,if_false];rfl
 have f:=λw:I=>oM (w:=w) hi;refine⟨b,if n*sz=0 then [] else (Builtin.zeroCells z.cells n).toList,(Builtin.zeroCells z.cells (b-(s.len+n))).toList,A,B,?_,by simp[Builtin.zeroCells,j],?_⟩
 .split
  .rename_i h0;simp[h0]
  .simp[Builtin.zeroCells,j]
 have G:IntKind.i64.wrap ((n:Nat):Int)=(n:Int):=bF J J;have H:¬((n:Int)<0):=by omega
 have K:¬((n:Int)*(i.bytes:Int)>2^48):=by
  have:((n*i.bytes:Nat):Int)<=((281474976710656:Nat):Int):=Int.ofNat_le.2 v;rw[Int.natCast_mul]at this;have L:(2:Int)^48=((281474976710656:Nat):Int):=by decide+kernel
  rw[L];omega
 have aT:¬(s.len+n<=s.cap):=by omega
 have a6:¬((s.len+n:Nat):Int)>IntKind.i64.max:=by
  simp[IntKind.max,IntKind.signed,IntKind.bits];omega
 have M:¬Builtin.nextslicecap (s.len+n) s.cap*i.bytes>2^48:=by
  have:(2:Nat)^48=281474976710656:=by decide+kernel
  omega
 have N:Sem.run P (choose (.appendCap (s.len+n) s.cap e)) w=.ok b w.drew:=F;unfold Builtin.append_;simp only[tv,oF,List.getElem?_cons_succ,h0,h1,Sem.run_bind,cL p,cL hx,Result.andThen,m,Sem.run_pure,asInt,asIntOf,G,H,if_false,f,K,eR,aT,a6,false_and,M,if_true,Bool.not_true,gE,N,E,D];by_cases o:n*sz=0
 .simp only[o,if_true,Sem.run_pure,zeroValue,f,h,Sem.run_bind,Result.andThen,newRow,newObj,Sem.run]
  have g:w.drew.heap.size=w.heap.size:=rfl;rw[g]
  congr 1
  show w.drew.alloc _=w.drew.alloc _
  congr 2
  simp
 .simp only[o,if_false,Sem.run_pure,zeroValue,f,h,Sem.run_bind,Result.andThen,newRow,newObj,Sem.run]
  have g:w.drew.heap.size=w.heap.size:=rfl;rw[g]
  congr 1
  show w.drew.alloc _=w.drew.alloc _
  congr 2
  simp
end
theorem Bz(a:aw av)(z c:Nat):bj a z 0 c=a:=by
 unfold bj;split
 .rfl
 .cases a with
  |none=>rfl
  |some A=>simp[add_zero']
theorem a7.qj{sz:Nat}{w:I}{b:Nat}{c:Array O}{T:TypeId}(h:a7 w b c T){o n cap:Nat}(d:o+n*sz<=c.size):Src sz w ⟨some ⟨b,o,none⟩,n,cap⟩ ((c.toList.drop o).take (n*sz)):=by
 refine⟨by simp;omega,(λh=>by cases h),λa e=>?_⟩
 cases e;have:=qd h (n*sz) o 0 (by simpa using d);simpa using this
theorem a7.kZ{w:I}{b o:Nat}{c:Array O}{T:TypeId}(h:a7 w b c T)(vs:Y O):a7 (setCells w ⟨b,o,none⟩ 0 vs) b (gn c o vs) T:=by
 simpa using a7.oS vs o 0 h
theorem aR.mk'{sz:Nat}{T:TypeId}{w:I}{b n cap:Nat}{c:Array O}{vs:Y O}(hb:a7 w b c T)(hl:vs.length=n*sz)(a:n<=cap)(hc:cap<=maxLen)(d:c.size=cap*sz)(e:c.toList.take (n*sz)=vs):aR sz T w ⟨some ⟨b,0,Option.none⟩,n,cap⟩ vs:=
 ⟨hl,a,hc,.inr ⟨b,c,rfl,hb,d,e⟩⟩
theorem JB(A:av)(a b:Nat):(A.add a).add b=A.add (a+b):=by
 unfold Addr.add;by_cases c:a=0
 .subst c;simp
 .by_cases hb:b=0
  .subst hb;simp
  .simp[c,hb,tu]
theorem ED{w:I}{A:av}:∀ {n i:Nat}{vs:Y O}{j:Nat}{v:O},aG w A i n=some vs->vs[j]? =some v->w.cell? (A.add (i+j))=some v
 |0,_,vs,j,v,h,a=>by simp[aG]at h;subst h;simp at a
 |n+1,i,vs,j,v,h,a=>by
  simp only[aG]at h
  cases h1:w.cell? (A.add i) with
  |none=>simp[h1]at h
  |some u=>
   cases h2:aG w A (i+1) n with
   |none=>simp[h1,h2]at h
   |some us=>
    simp only[h1,h2,Option.some.injEq]at h
    subst h
    cases j with
    |zero=>simp at a;subst a;exact h1
    |succ j=>
     have:=ED h2 (j:=j) (v:=v) (by simpa using a)
     rwa[show i+(j+1)=i+1+j from J]
theorem EE{w:I}{A:av}:∀ (n i:Nat) (vs:Y O),vs.length=n->(∀j v,vs[j]? =some v->w.cell? (A.add (i+j))=some v)->aG w A i n=some vs
 |0,i,vs,hl,_=>by
  cases vs with
  |nil=>simp[aG]
  |cons _ _=>simp at hl
 |n+1,i,vs,hl,h=>by
  cases vs with
  |nil=>simp at hl
  |cons v vs=>
   simp only[aG]
   rw[show w.cell? (A.add i)=some v from h 0 v rfl,EE n (i+1) vs (by simpa using hl) (λj x hx=>by have:=h (j+1) x (by simpa using hx);rwa[show i+(j+1)=i+1+j from J]at this)]
theorem EF{w:I}{A:av}{n k m:Nat}{vs:Y O}(h:aG w A 0 n=some vs)(b:k+m<=n):aG w (A.add k) 0 m=some ((vs.drop k).take m):=by
 have hl:=Ed h;refine EE m 0 _ (by simp;omega) λj v a=>?_;rw[JB,show k+(0+j)=0+(k+j) from J];refine ED h ?_;rw[List.getElem?_take]at a;split at a
 .rwa[kP]at a
 .cases a
theorem EG{a b:Nat}(h:a+b<=4000000):IntKind.wrap .i64 (Int.fdiv (IntKind.wrap .u64 (IntKind.wrap .i64 ((a:Int)+(b:Int)))) (2^(min (Int.toNat 1) 64)))=(((a+b)/2:Nat):Int):=by
 rw[bF (n:=(a:Int)+b) J J,c2 J J];have e:(2:Int)^(min (Int.toNat 1) 64)=2:=rfl;rw[e,nA _ J,bF J J];omega
section
variable {w:I}
theorem cR.ij{α:Type}{enc:α->O}{M:Y (α×O)}{q:Nat}{c:Array O}{T:TypeId}(h:cR w q enc M)(a:a7 w q c T):False:=by
 obtain⟨L,b,h,_⟩:=h;unfold a7 at a;rw[a]at h;cases h
theorem aR.ij{sz:Nat}{T aO:TypeId}{s:ai}{vs:Y O}{q:Nat}{c:Array O}(h:aR sz T w s vs)(a:aN s q)(d:a7 w q c aO):T=aO:=by
 obtain⟨A,ar,rfl⟩:=a;obtain⟨_,_,_,e⟩:=h;rcases e with ⟨f,_⟩|⟨b,c',hb,g,_⟩
 .rw[f]at ar;cases ar
 .rw[hb]at ar;cases ar
  exact(a7.inj g d).2
theorem aR.BA{α:Type}{enc:α->O}{M:Y (α×O)}{sz:Nat}{T:TypeId}{s:ai}{vs:Y O}{q:Nat}(h:aR sz T w s vs)(a:aN s q)(c:cR w q enc M):False:=by
 obtain⟨A,ar,rfl⟩:=a;obtain⟨_,_,_,d⟩:=h;rcases d with ⟨e,_⟩|⟨b,c',hb,f,_⟩
 .rw[e]at ar;cases ar
 .rw[hb]at ar;cases ar
  exact cR.ij c f
end
end aQ
