/- What a Go program of the model must show, as text that can be read; sound against the kit. -/
import Derived.Carry
import Derived.Laws.StructEq
import Derived.Lib.Overlaps
import Derived.WideKeyRuns
import Derived.Test.YtmhhgpogjpbglaaGreatKFLooks1
namespace bD
open Go Go.RowKit
def zt (mC:TypeId→Option (List dr)) (P:Program):List Field→Nat→Option (List dr)
 | [],_=>some []
 |f::fs,o=>if f.name= "_" ∨f.offset≠o then none else
     match mC f.type with
     |some ls=>if P.cellsOf f.type=ls.length then (zt mC P fs (o+ls.length)).map (ls++ ·) else none
     |none=>none
def F3 (ls:List dr):Nat→List dr
 |0=> []
 |n+1=>ls++F3 ls n
def mC (P:Program):Nat→TypeId→Option (List dr)
 |0,_=>none
 |d+1,T=>match P.underlying T with
   |some (.int k)=>some [.int k]
   |some .bool=>some [.bool]
   |some .string=>some [.str]
   |some (.struct fs)=>if P.stoodInHeld T then none else zt (mC P d) P fs.toList 0
   |some (.array n e)=>match mC P d e with
     |some ls=>if P.cellsOf e=ls.length then some (F3 ls n) else none
     |none=>none
   |_=>none
def F4:dr→Value→Prop
 | .int k,v=>∃n:Int,v= .int k n
 | .bool,v=>∃b:Bool,v= .bool b
 | .str,v=>∃s:ByteArray,v= .string s
 |_,_=>False
def hZ:List dr→List Value→Prop
 | [],vs=>vs=[]
 |l::ls,vs=>∃v us,vs=v::us∧F4 l v∧hZ ls us
theorem B6:∀ {ls:List dr} {vs:List Value},hZ ls vs→vs.length=ls.length
 | [],_,h=>by cases h;rfl
 |_::_,_,h=>by
   obtain ⟨v,us,rfl,_,h⟩:=h
   simp[B6 h]
theorem B7:∀ {ls ms:List dr} {vs:List Value},hZ (ls++ms) vs→hZ ls (vs.take ls.length)∧hZ ms (vs.drop ls.length)
 | [],_,_,h=>⟨rfl,h⟩
 |l::ls,ms,vs,h=>by
   obtain ⟨v,us,rfl,U,ag⟩:=h
   obtain ⟨aA,aK⟩:=B7 ag
   exact ⟨⟨v,_,rfl,U,aA⟩,aK⟩
def vi:Value→Value→Bool
 | .int _ a, .int _ b=>a==b
 | .bool a, .bool b=>a==b
 | .string a, .string b=>a.toList==b.toList
 |_,_=>false
def gV:List Value→List Value→Bool
 | [],_=>true
 |a::as,b::kN=>vi a b&&gV as kN
 |_::_,[]=>false
theorem afz {l:dr} {a b:Value} (aI:F4 l a) (aj:F4 l b):vi a b=true↔a=b:=by
 cases l<;>simp only[F4] at aI aj<;>try exact aI.elim
 · obtain ⟨n,rfl⟩:=aI;obtain ⟨m,rfl⟩:=aj;simp[vi]
 · obtain ⟨n,rfl⟩:=aI;obtain ⟨m,rfl⟩:=aj;simp[vi]
 · obtain ⟨n,rfl⟩:=aI;obtain ⟨m,rfl⟩:=aj
   simp only[vi,l3,Value.string.injEq]
   rw[ByteArray.toList_eq,ByteArray.toList_eq]
   obtain ⟨⟨x⟩⟩:=n;obtain ⟨⟨y⟩⟩:=m
   simp
theorem P2:∀ {ls:List dr} {as kN:List Value},hZ ls as→hZ ls kN→(gV as kN=true↔as=kN)
 | [],_,_,U,ag=>by cases U;cases ag;simp[gV]
 |l::ls,_,_,U,ag=>by
   obtain ⟨a,as,rfl,aA,aK⟩:=U
   obtain ⟨b,kN,rfl,bH,cg⟩:=ag
   simp[gV,afz aA bH,P2 aK cg]
theorem KR:∀ {as kN cs bG:List Value},as.length=kN.length→gV (as++cs) (kN++bG)=(gV as kN&&gV cs bG)
 | [],[],_,_,_=>by simp[gV]
 |a::as,b::kN,cs,bG,h=>by
   simp only[z8,gV]
   rw[KR (by simpa using h),Bool.and_assoc]
 | [],_::_,_,_,h=>by simp at h
 |_::_,[],_,_,h=>by simp at h
def qe (P:Program) (T:TypeId) (cs:List Value):Value:=
 match P.underlying T with
 |some d=>if kp d then .agg cs.toArray else cs.headD undef
 |none=>undef
section
variable {P:Program}
theorem xo {T:TypeId} {d:TypeDesc} {cs:List Value} (h:P.underlying T=some d) (aI:kp d=true):qe P T cs= .agg cs.toArray:=by
 simp[qe,h,aI]
theorem xp {T:TypeId} {d:TypeDesc} {v:Value} (h:P.underlying T=some d) (aI:kp d=false):qe P T [v]=v:=by
 simp[qe,h,aI]
theorem F5 {T:TypeId} {cs us:List Value} {off:Nat} {d:TypeDesc} (aV:P.underlying T=some d) (aD:P.cellsOf T=us.length) (b_:kp d=false→us.length=1)
   (h:(cs.drop off).take us.length=us) (w:World):(part T cs.toArray off).run P w= .ok (qe P T us) w:=by
 cases aE:kp d with
 |true=>
   rw[xo aV aE]
   have e:cs.toArray.extract off (off+us.length)=us.toArray:=by
     simp[h]
   simp[part,y9 aV,aE,lu aV,aD,h]
 |false=>
   obtain ⟨v,rfl⟩:=List.length_eq_one_iff.1 (b_ aE)
   rw[xp aV aE]
   have ao:cs[off]? =some v:=by
     have:((cs.drop off).take 1)[0]? =some v:=by
       have ga:List.take 1 (List.drop off cs)=[v]:=h
       rw[ga];rfl
     rw[List.getElem?_take_of_lt (by omega),CT] at this
     simpa using this
   simp[part,y9 aV,aE,ao]
theorem flat_agg {d:Nat} {T:TypeId} {ls:List dr} (h:mC P d T=some ls):∃u,P.underlying T=some u∧(kp u=false→ls.length=1):=by
 cases d with
 |zero=>cases h
 |succ d=>
   simp only[mC] at h
   cases hu:P.underlying T with
   |none=>simp[hu] at h
   |some u=>
     refine ⟨u,rfl,fun aI=> ?_⟩
     rw[hu] at h
     cases u<;>simp only[kp,reduceCtorEq] at aI h<;>first|(cases h;rfl)|cases h
theorem SN {d D:Nat} (cb:∀ {T:TypeId} {ls:List dr} {xs ys:List Value},mC P d T=some ls→hZ ls xs→hZ ls ys→∀w,(Op.equalIn (D+d) T (qe P T xs) (qe P T ys)).run P w= .ok (gV xs ys) w)
   {xs ys:List Value}:∀ {fs:List Field} {o:Nat} {ls:List dr},zt (mC P d) P fs o=some ls→hZ ls (xs.drop o)→hZ ls (ys.drop o)→
     ∀w,(Op.eqFields (D+d) xs.toArray ys.toArray fs).run P w= .ok (gV (xs.drop o) (ys.drop o)) w
 | [],o,ls,h,ai,bA,w=>by
   simp only[zt,Option.some.injEq] at h
   subst h
   have ai:xs.drop o=[]:=ai
   rw[ai]
   rfl
 |f::fs,o,ls,h,ai,bA,w=>by
   simp only[zt] at h
   split at h
   · cases h
   · rename_i aL
     have ph:¬f.name= "_" :=fun e=>aL (.inl e)
     have kX:f.offset=o:=by
       by_cases e:f.offset=o
       · exact e
       · exact absurd (.inr e) aL
     subst kX
     split at h
     · rename_i ms hm
       split at h
       · rename_i ak
         cases aJ:zt (mC P d) P fs (f.offset+ms.length) with
         |none=>simp[aJ] at h
         |some rs=>
           simp only[aJ,tG,Option.some.injEq] at h
           subst h
           obtain ⟨bg,bV⟩:=B7 ai
           obtain ⟨B8,B9⟩:=B7 bA
           rw[vx] at bV B9
           obtain ⟨u,hu,im⟩:=flat_agg hm
           have tu:=B6 bg
           have tv:=B6 B8
           have e9:=F5 (cs:=xs) (off:=f.offset) (us:=(xs.drop f.offset).take ms.length) hu (by rw[ak,tu]) (fun aI=>by rw[tu];exact im aI) (by rw[tu])
           have e_:=F5 (cs:=ys) (off:=f.offset) (us:=(ys.drop f.offset).take ms.length) hu (by rw[ak,tv]) (fun aI=>by rw[tv];exact im aI) (by rw[tv])
           have e:=fun w=>cb hm bg B8 w
           have r:=SN cb (fs:=fs) aJ bV B9
           have KS:gV (xs.drop f.offset) (ys.drop f.offset)=(gV ((xs.drop f.offset).take ms.length) ((ys.drop f.offset).take ms.length)&&gV (xs.drop (f.offset+ms.length)) (ys.drop (f.offset+ms.length))):=by
             rw[←KR (by rw[tu,tv])]
             simp only[←vx,zX]
           simp only[Op.eqFields,ne_eq,ph,not_false_eq_true,if_true,Sem.run_bind,e9,e_,e,Result.andThen]
           rw[KS]
           cases gV ((xs.drop f.offset).take ms.length) ((ys.drop f.offset).take ms.length)
           · simp
           · simpa using r w
       · cases h
     · cases h
theorem SO {d D:Nat} (cb:∀ {T:TypeId} {ls:List dr} {xs ys:List Value},mC P d T=some ls→hZ ls xs→hZ ls ys→∀w,(Op.equalIn (D+d) T (qe P T xs) (qe P T ys)).run P w= .ok (gV xs ys) w)
   {e:TypeId} {ls:List dr} {u:TypeDesc} (hu:P.underlying e=some u) (im:kp u=false→ls.length=1) (aC:mC P d e=some ls) (ak:P.cellsOf e=ls.length) {xs ys:List Value}:
   ∀ (n i:Nat),hZ (F3 ls n) (xs.drop (i*ls.length))→hZ (F3 ls n) (ys.drop (i*ls.length))→∀w,
     Sem.run P (do
       let r ←forIn (List.range' i n) ((none:Option Bool),()) fun i _=>do
         let a ←part e xs.toArray (i*ls.length)
         let b ←part e ys.toArray (i*ls.length)
         let t ←Op.equalIn (D+d) e a b
         if (!t)=true then pure (ForInStep.done (some false,())) else pure (ForInStep.yield (none,()))
       match r.1 with
       |some b=>pure b
       |none=>pure true) w= .ok (gV (xs.drop (i*ls.length)) (ys.drop (i*ls.length))) w
 |0,i,ai,bA,w=>by
   have ai:xs.drop (i*ls.length)=[]:=ai
   rw[ai]
   simp[gV]
 |n+1,i,ai,bA,w=>by
   obtain ⟨bg,bV⟩:=B7 ai
   obtain ⟨B8,B9⟩:=B7 bA
   rw[vx,show i*ls.length+ls.length=(i+1)*ls.length by rw[lr,vB]] at bV B9
   have tu:=B6 bg
   have tv:=B6 B8
   have e9:=F5 (cs:=xs) (off:=i*ls.length) (us:=(xs.drop (i*ls.length)).take ls.length) hu (by rw[ak,tu]) (fun aI=>by rw[tu];exact im aI) (by rw[tu])
   have e_:=F5 (cs:=ys) (off:=i*ls.length) (us:=(ys.drop (i*ls.length)).take ls.length) hu (by rw[ak,tv]) (fun aI=>by rw[tv];exact im aI) (by rw[tv])
   have aN:=fun w=>cb aC bg B8 w
   have r:=SO cb hu im aC ak n (i+1) bV B9 w
   have KS:gV (xs.drop (i*ls.length)) (ys.drop (i*ls.length))=(gV ((xs.drop (i*ls.length)).take ls.length) ((ys.drop (i*ls.length)).take ls.length)&&gV (xs.drop ((i+1)*ls.length)) (ys.drop ((i+1)*ls.length))):=by
     rw[←KR (by rw[tu,tv]),show (i+1)*ls.length=i*ls.length+ls.length by rw[lr,vB]]
     simp only[←vx,zX]
   rw[KS]
   simp only[List.range'_succ,List.forIn_cons,Sem.run_bind,e9,e_,aN,Result.andThen]
   cases gV ((xs.drop (i*ls.length)).take ls.length) ((ys.drop (i*ls.length)).take ls.length)
   · simp
   · simpa[Result.andThen] using r
theorem SP (D:Nat):∀ (d:Nat) {T:TypeId} {ls:List dr} {xs ys:List Value},mC P d T=some ls→hZ ls xs→hZ ls ys→∀w,(Op.equalIn (D+d) T (qe P T xs) (qe P T ys)).run P w= .ok (gV xs ys) w
 |0,_,_,_,_,h,_,_,_=>by cases h
 |d+1,T,ls,xs,ys,h,ai,bA,w=>by
   have cb:= @SP D d
   simp only[mC] at h
   cases hu:P.underlying T with
   |none=>simp[hu] at h
   |some u=>
     rw[hu] at h
     cases u with
     |int k=>
       simp only[Option.some.injEq] at h;subst h
       obtain ⟨x,_,rfl,⟨n,rfl⟩,rfl⟩:=ai
       obtain ⟨y,_,rfl,⟨m,rfl⟩,rfl⟩:=bA
       rw[xp hu rfl,xp hu rfl]
       show (Op.equalIn (D+d+1) T _ _).run P w=_
       simp[Op.equalIn,db hu,gV,vi]
     |bool=>
       simp only[Option.some.injEq] at h;subst h
       obtain ⟨x,_,rfl,⟨n,rfl⟩,rfl⟩:=ai
       obtain ⟨y,_,rfl,⟨m,rfl⟩,rfl⟩:=bA
       rw[xp hu rfl,xp hu rfl]
       show (Op.equalIn (D+d+1) T _ _).run P w=_
       simp[Op.equalIn,db hu,gV,vi]
     |string=>
       simp only[Option.some.injEq] at h;subst h
       obtain ⟨x,_,rfl,⟨n,rfl⟩,rfl⟩:=ai
       obtain ⟨y,_,rfl,⟨m,rfl⟩,rfl⟩:=bA
       rw[xp hu rfl,xp hu rfl]
       show (Op.equalIn (D+d+1) T _ _).run P w=_
       simp[Op.equalIn,db hu,gV,vi,beq_toListBytes]
     |struct fs=>
       simp only at h
       split at h
       · cases h
       · rename_i aU
         rw[xo hu rfl,xo hu rfl]
         have SQ:P.fieldsOf T=fs:=by simp[Program.fieldsOf,hu]
         show (Op.equalIn (D+d+1) T _ _).run P w=_
         rw[run_equalIn_struct w (D+d) T xs.toArray ys.toArray (by rw[SQ];exact hu) (by simpa using aU),SQ]
         have:=SN (D:=D) cb (xs:=xs) (ys:=ys) h (by simpa using ai) (by simpa using bA) w
         simpa using this
     |array n e=>
       simp only at h
       split at h
       · rename_i ms hm
         split at h
         · rename_i ak
           simp only[Option.some.injEq] at h;subst h
           obtain ⟨u,AV,im⟩:=flat_agg hm
           rw[xo hu rfl,xo hu rfl]
           show (Op.equalIn (D+d+1) T _ _).run P w=_
           have:=SO (D:=D) cb AV im hm ak (xs:=xs) (ys:=ys) n 0 (by simpa using ai) (by simpa using bA) w
           rw[xU,tF,tF] at this
           rw[←this]
           simp only[Op.equalIn,Sem.run_bind,db hu,lu AV,Result.andThen,ak,Std.Legacy.Range.forIn_eq_forIn_range',Std.Legacy.Range.size]
           simp
           congr 1
           funext a w
           obtain ⟨o,_⟩:=a
           cases o<;>rfl
         · cases h
       · cases h
     |_=>cases h
theorem wU.flat {T:TypeId} {d:TypeDesc} {ls:List dr} {xs ys:List Value} (aV:P.underlying T=some d) (aI:kp d=true) (aL:mC P 8 T=some ls) (aW:P.eqGuardType P.depth T=false)
   (ai:hZ ls xs) (bA:hZ ls ys):wU P T xs.toArray ys.toArray (gV xs ys):=by
 refine ⟨aW,fun w=> ?_⟩
 have:=SP (P:=P) 9992 8 aL ai bA w
 rwa[xo aV aI,xo aV aI] at this
end
end bD
namespace bD
open Go Go.RowKit
theorem Ai {n:Int} (bP:0≤n) (U:n≤255):IntKind.u8.wrap n=n:=by
 simp only[IntKind.wrap,IntKind.signed,IntKind.bits];simp;omega
theorem qy {n:Int} (bP:0≤n) (U:n≤4294967295):IntKind.u32.wrap n=n:=by
 simp only[IntKind.wrap,IntKind.signed,IntKind.bits];simp;omega
theorem hE {n:Int} (bP:0≤n) (U:n≤18446744073709551615):IntKind.u64.wrap n=n:=by
 simp only[IntKind.wrap,IntKind.signed,IntKind.bits];simp;omega
theorem VG (n:Int):IntKind.u8.wrap n=n%256:=by
 simp only[IntKind.wrap,IntKind.signed,IntKind.bits];simp
def S (l:List UInt8):ByteArray:=⟨l.toArray⟩
theorem SR (l:List UInt8):(S l).toList=l:=ByteArray.toList_mk l
theorem Nh (a b:List UInt8):(ByteArray.toList (S a)==ByteArray.toList (S b))=(a==b):=by rw[SR,SR]
theorem Vw (ns:List Int):SM ns=S (ns.map fun n=>UInt8.ofNat n.toNat):=by
 have h:∀ (ns:List Int) (r:List UInt8),ns.foldl (fun r n=>r.push (UInt8.ofNat n.toNat)) (S r)=S (r++ns.map fun n=>UInt8.ofNat n.toNat):=by
   intro ns
   induction ns with
   |nil=>intro r;simp
   |cons n ns cb=>
     intro r
     have e:(S r).push (UInt8.ofNat n.toNat)=S (r++ [UInt8.ofNat n.toNat]):=by
       apply ByteArray.ext
       simp[S,ByteArray.push]
     simp only[List.foldl_cons,e,cb,ln,gC,z8,List.nil_append]
 exact h ns []
theorem add_add (A:Addr) (n m:Nat):(A.add n).add m=A.add (n+m):=by
 unfold Addr.add
 by_cases U:n=0
 · subst U;simp
 · by_cases ag:m=0
   · subst ag;simp
   · rw[if_neg U,if_neg ag,if_neg (by omega)]
     simp[Nat.add_assoc]
section
variable {w J:World} {b m i:Nat} {T:TypeId} {f:Nat→Int}
theorem aq.e2 {cD w:World} {b i:Nat} (h:aq (fun q=>q=b) cD w) (v:Value):aq (fun q=>q=b) cD (w.setCell ⟨b,i,none⟩ v):=aq.set h (fun _=>rfl) v
theorem aq.Ab {cD w:World} {b i:Nat} (h:aq (fun q=>q=b) cD w) (vs:List Value) (j:Nat):aq (fun q=>q=b) cD (bD.setCells w ⟨b,i,none⟩ j vs):=aq.setCells (W:=fun q=>q=b) (A:=⟨b,i,none⟩) (fun _=>rfl) vs j h
end
theorem Dn {b o:Nat} {z l m:Nat} (h:m≠l):cN (some (Addr.mk b o none)) z l m=some ⟨b,o+l*z,none⟩:=by
 simp[cN,h,a_]
theorem Ext.trans {a b c:World} (U:Ext a b) (ag:Ext b c):Ext a c:=aq.trans U ag
theorem Ext.ix {cD af aw:World} {W:Nat→Prop} (U:Ext cD af) (ag:aq W af aw) (h:∀k,W k→cD.heap.size≤k):Ext cD aw:=
 ⟨ag.os.trans U.os,ag.tape.trans U.tape,ag.output.trans U.output,kU U.size ag.size,fun k aa _=>by
   rw[ag.block k (qs aa U.size) (fun fQ=>by have:=h k fQ;omega),U.block k aa id]⟩
end bD
namespace bD
open Go Go.RowKit
section
variable {α:Type} {P:Program} {w:World} {j6 qV T:TypeId} {enc:α→Value}
def eG (enc:α→Value) (x:α×Value×Nat):MapEntry:=⟨enc x.1,x.2.1,x.2.2⟩
def qW (x:α×Value×Nat):α×Value:=(x.1,x.2.1)
def tw [DecidableEq α] (k:α):List (α×Value×Nat)→Nat→Option (Nat×Value)
 | [],_=>none
 |x::L,i=>if k=x.1 then some (i,x.2.1) else tw k L (i+1)
theorem NQ {β:Type} (f:β→β) (x:β) (gy:List β):∀e8:List β,(e8++x::gy).modify e8.length f=e8++f x::gy
 | []=>rfl
 |y::e8=>by
   show y::((e8++x::gy).modify e8.length f)=_
   rw[NQ f x gy e8];rfl
structure tZ [DecidableEq α] (P:Program) (j6:TypeId) (enc:α→Value):Prop where
 find:∀ (L:List (α×Value×Nat)) (k:α) (w:World),(Instr.findKey j6 (enc k) (L.map (eG enc))).run P w= .ok (tw k L 0) w
 check:∀ (b:Bool) (k:α) (w:World),(Instr.checkKey b 10000 j6 (enc k)).run P w= .ok () w
 bits:∀k,Instr.sameBits 10000 (enc k) (enc k)=true
theorem Hj [DecidableEq α] {k:α}:∀ {L:List (α×Value×Nat)} {i:Nat},(∀x∈L,x.1≠k)→tw k L i=none
 | [],_,_=>rfl
 |x::L,i,h=>by
   rw[tw,if_neg (fun e=>h x (by simp) e.symm)]
   exact Hj fun y bA=>h y (by simp[bA])
theorem Hl [DecidableEq α] {k:α} {v:Value} {n:Nat} {gy:List (α×Value×Nat)}:∀ {e8:List (α×Value×Nat)} {i:Nat},(∀x∈e8,x.1≠k)→tw k (e8++(k,v,n)::gy) i=some (i+e8.length,v)
 | [],i,_=>by simp[tw]
 |x::L,i,h=>by
   rw[z8,tw,if_neg (fun e=>h x (by simp) e.symm),Hl fun y bA=>h y (by simp[bA])]
   simp;omega
theorem tZ.int {k:IntKind} (hu:P.underlying j6=some (.int k)):tZ P j6 (fun n:Int=>Value.int k n) where
 find L n w:=by
   have h:∀ (L:List (Int×Value×Nat)) (i:Nat),Instr.findNow (.int k) (.int k n) (L.map (eG fun n:Int=>Value.int k n)) i=some (tw n L i):=by
     intro L
     induction L with
     |nil=>intro i;rfl
     |cons x L cb=>
       intro i
       simp only[ln,Instr.findNow,eG,Instr.sameNow,if_true,tw]
       by_cases ai:n=x.1
       · subst ai;simp
       · rw[if_neg ai,show (n==x.1)=false by simpa using ai]
         exact cb (i+1)
   simp[Instr.findKey,db hu,h]
 check b n w:=by
   show (Instr.checkKey b (9999+1) j6 (.int k n)).run P w=_
   unfold Instr.checkKey
   simp only[Sem.run_bind,db hu,Result.andThen]
   rfl
 bits n:=by
   show (k==k&&n==n)=true
   simp
def dd (w:World) (r:Nat) (enc:α→Value) (M:List (α×Value)):Prop:=
 ∃ (L:List (α×Value×Nat)) (cH:Nat),w.heap[r]? =some (.map (L.map (eG enc)).toArray cH)∧(L.map qW).Perm M∧(L.map (·.1)).Nodup∧(L.map (·.2.2)).Nodup∧∀x∈L,x.2.2<cH
def afA (w:World) (r:Nat) (enc:α→Value) (M:List (α×Value)) (k:α) (v:Value) (st:Int):Prop:=
 ∃ (e8 gy:List (α×Value×Nat)) (n cH:Nat),w.heap[r]? =some (.map ((e8++(k,v,n)::gy).map (eG enc)).toArray cH)∧((e8++gy).map qW).Perm M∧((e8++(k,v,n)::gy).map (·.1)).Nodup∧((e8++(k,v,n)::gy).map (·.2.2)).Nodup∧(∀x∈e8++(k,v,n)::gy,x.2.2<cH)∧st=(n:Int)
variable {r:Nat} {M B_:List (α×Value)} {k:α} {v:Value} {st:Int} {J:World}
theorem dd.lt (h:dd w r enc M):r<w.heap.size:=by
 obtain ⟨L,cH,h,_⟩:=h
 exact (qu.1 h).1
theorem dd.aB {W:Nat→Prop} (h:dd w r enc M) (ak:aq W w J) (aJ:¬W r):dd J r enc M:=by
 have aC:=h.lt
 obtain ⟨L,cH,h,fI⟩:=h
 exact ⟨L,cH,by rw[ak.block r aC aJ];exact h,fI⟩
theorem dd.ext (h:dd w r enc M) (ak:Ext w J):dd J r enc M:=h.aB ak id
theorem dd.perm (h:dd w r enc M) (aU:M.Perm B_):dd w r enc B_:=by
 obtain ⟨L,cH,h,U,fI⟩:=h
 exact ⟨L,cH,h,U.trans aU,fI⟩
theorem dd.split (h:dd w r enc ((k,v)::M)):∃n,afA w r enc M k v (n:Nat):=by
 obtain ⟨L,cH,h,U,ag,aA,aK⟩:=h
 have hm:(k,v)∈L.map qW:=U.mem_iff.2 (by simp)
 obtain ⟨x,ai,SS⟩:=gl.1 hm
 obtain ⟨e8,gy,rfl⟩:=List.append_of_mem ai
 obtain ⟨en,nF,n⟩:=x
 simp only[qW,Prod.mk.injEq] at SS
 obtain ⟨rfl,rfl⟩:=SS
 refine ⟨n,e8,gy,n,cH,h,?_,ag,aA,aK,rfl⟩
 rw[hT,ln] at U
 have:=(CW.symm.trans U)
 rw[hT]
 exact this.cons_inv
theorem dd.keys (h:dd w r enc M):(M.map (·.1)).Nodup:=by
 obtain ⟨L,cH,h,U,ag,aA,aK⟩:=h
 have:=U.map (·.1)
 rw[pe] at this
 exact this.nodup_iff.1 ag
theorem dd.afB (hm:(k,v)∈M):∃B_,M.Perm ((k,v)::B_):=by
 obtain ⟨A,B,rfl⟩:=List.append_of_mem hm
 exact ⟨A++B,CW⟩
def k2 (w:World) (r:Nat) (o:Obj):World:={w with heap:=w.heap.setIfInBounds r o}
theorem Aw (w:World) (r:Nat) (o:Obj):aq (fun q=>q=r) w (k2 w r o):=
 ⟨rfl,rfl,rfl,by simp[k2],fun k _ aa=>by
   have:¬r=k:=fun e=>aa e.symm
   simp[k2,this]⟩
theorem DM (w:World) (r:Nat) (o:Obj):(k2 w r o).heap.size=w.heap.size:=by simp[k2]
theorem DN {w:World} {r:Nat} (h:r<w.heap.size) (o:Obj):(k2 w r o).heap[r]? =some o:=by simp[k2,h]
theorem sA {es:Array MapEntry} {cH:Nat} (h:w.heap[r]? =some (.map es cH)):(getObj r).run P w= .ok (.map es cH) w:=by simp[getObj,Sem.run,h]
theorem Hk {es:Array MapEntry} {cH:Nat} (h:w.heap[r]? =some (.map es cH)) (o:Obj):(setObj r o).run P w= .ok () (k2 w r o):=by simp[setObj,Sem.run,h,k2]
theorem NP {e8 gy:List (α×Value×Nat)} {x:α×Value×Nat} (h:((e8++x::gy).map (·.1)).Nodup):∀y∈e8,y.1≠x.1:=by
 intro y bA e
 rw[hT,ln,CV] at h
 exact h.2.2 _ (List.mem_map_of_mem bA) _ (List.mem_cons_self ..) e
theorem NO {L:List (α×Value×Nat)} (U:(L.map qW).Perm M) (aa:∀v,(k,v)∉M):∀x∈L,x.1≠k:=by
 intro x ai e
 refine aa x.2.1 (U.mem_iff.1 (gl.2 ⟨x,ai,?_⟩))
 simp[qW,e]
theorem dd.make (T:TypeId) (w:World):(Instr.makeMap T none).run P w= .ok (.map (some w.heap.size)) (w.alloc (.map #[] 0))∧dd (w.alloc (.map #[] 0)) w.heap.size enc ([]:List (α×Value)):=by
 refine ⟨by simp[Instr.makeMap],[],0,?_,by simp,by simp,by simp,by simp⟩
 show (w.heap.push (.map #[] 0))[w.heap.size]? =_
 simp
theorem dd.DQ [DecidableEq α] (aT:tZ P j6 enc) (aV:P.underlying T=some (.map j6 qV)) (h:dd w r enc M) (hm:(k,v)∈M) (ok:Bool):
   (Instr.lookup T (.map (some r)) (enc k) ok).run P w= .ok (if ok then .tuple #[v, .bool true] else v) w:=by
 obtain ⟨B_,aU⟩:=dd.afB hm
 obtain ⟨n,e8,gy,eW,cH,h,U,ag,aA,aK,_⟩:=(h.perm aU).split
 have aL:=aT.find (e8++(k,v,eW)::gy) k w
 rw[Hl (NP ag)] at aL
 simp only[Instr.lookup,Sem.run_bind,db aV,Result.andThen,sA h,Sem.run_pure,aT.check,aL]
theorem dd.DR [DecidableEq α] (aT:tZ P j6 enc) (aV:P.underlying T=some (.map j6 qV)) {i:TypeInfo} {z:Value} (hi:P.info? qV=some i) (cc:i.zero=some z) (h:dd w r enc M) (hm:∀v,(k,v)∉M) (ok:Bool):
   (Instr.lookup T (.map (some r)) (enc k) ok).run P w= .ok (if ok then .tuple #[z, .bool false] else z) w:=by
 obtain ⟨L,cH,h,U,ag,aA,aK⟩:=h
 have aL:=aT.find L k w
 rw[Hj (NO U hm)] at aL
 simp only[Instr.lookup,Sem.run_bind,db aV,Result.andThen,sA h,Sem.run_pure,aT.check,aL,zeroValue,wb hi,cc]
end
end bD
namespace bD
open Go Go.RowKit
theorem SU (c:Array Value):∀ (vs:List Value) (i:Nat) (c:Array Value),(kv c i vs).toList.drop (i+vs.length)=c.toList.drop (i+vs.length)
 | [],_,_=>rfl
 |v::vs,i,c=>by
   simp only[kv,jW]
   rw[show i+(vs.length+1)=i+1+vs.length by omega,SU c vs (i+1) (c.setIfInBounds i v)]
   rw[Array.toList_setIfInBounds,List.drop_set]
   rw[if_pos (by omega)]
theorem Ah (vs:List Value) (c:Array Value) (i:Nat) (h:i+vs.length≤c.size):(kv c i vs).toList=c.toList.take i++vs++c.toList.drop (i+vs.length):=by
 rw[←zX (i+vs.length) (kv c i vs).toList,C5 vs c i h,SU c]
section
variable {P:Program} {w:World}
theorem Ys {T o e:TypeId} {i:TypeInfo} {z:Value} {sz n c:Nat} {A:Addr} (aV:P.underlying T=some (.slice e)) (hi:P.info? e=some i) (cc:i.zero=some z) (pF:z.cells.size=sz) (aD:n≠0)
   (e1:∀zs:List Value,zs=(Builtin.zeroCells z.cells n).toList→bW w A zs):
   ∃zs:List Value,zs.length=n*sz∧Sem.run P (Builtin.clear_ #[T] o #[.slice (some A) n c]) w= .ok (.tuple #[]) (setCells w A 0 zs):=by
 refine ⟨(Builtin.zeroCells z.cells n).toList,by simp[Builtin.zeroCells,pF],?_⟩
 have ar:=e1 _ rfl
 have xY:=Ad (P:=P) (A:=A) _ 0 w (by simpa using ar.1) ar.2
 cases n with
 |zero=>exact absurd rfl aD
 |succ n=>
   simp only[Builtin.clear_,List.getElem?_toArray,xV,Sem.run_bind,db aV,Result.andThen,zeroValue,wb hi,cc,Sem.run_pure,xY]
end
theorem Yp (a:Option Addr) (z c:Nat):cN a z 0 c=a:=by
 unfold cN
 split
 · rfl
 · cases a with
   |none=>rfl
   |some A=>simp[add_zero']
theorem bQ.NV {sz:Nat} {w:World} {b:Nat} {c:Array Value} {T:TypeId} (h:bQ w b c T) {o n cap:Nat} (aD:o+n*sz≤c.size):Src sz w ⟨some ⟨b,o,none⟩,n,cap⟩ ((c.toList.drop o).take (n*sz)):=by
 refine ⟨by simp;omega,(fun h=>by cases h),fun a aI=> ?_⟩
 cases aI
 have:=xW h (n*sz) o 0 (by simpa using aD)
 simpa using this
theorem bQ.vJ {w:World} {b o:Nat} {c:Array Value} {T:TypeId} (h:bQ w b c T) (vs:List Value):bQ (setCells w ⟨b,o,none⟩ 0 vs) b (kv c o vs) T:=by
 simpa using bQ.C4 vs o 0 h
theorem aY.mk' {sz:Nat} {T:TypeId} {w:World} {b n cap:Nat} {c:Array Value} {vs:List Value} (aj:bQ w b c T) (aC:vs.length=n*sz) (aD:n≤cap) (ak:cap≤maxLen) (ar:c.size=cap*sz) (ao:c.toList.take (n*sz)=vs):aY sz T w ⟨some ⟨b,0,Option.none⟩,n,cap⟩ vs:=
 ⟨aC,aD,ak, .inr ⟨b,c,rfl,aj,ar,ao⟩⟩
theorem SV (A:Addr) (a b:Nat):(A.add a).add b=A.add (a+b):=by
 unfold Addr.add
 by_cases aI:a=0
 · subst aI;simp
 · by_cases aj:b=0
   · subst aj;simp
   · simp[aI,aj,Nat.add_assoc]
theorem F6 {w:World} {A:Addr}:∀ {n i:Nat} {vs:List Value} {j:Nat} {v:Value},cn w A i n=some vs→vs[j]? =some v→w.cell? (A.add (i+j))=some v
 |0,_,vs,j,v,h,ao=>by simp[cn] at h;subst h;simp at ao
 |n+1,i,vs,j,v,h,ao=>by
   simp only[cn] at h
   cases U:w.cell? (A.add i) with
   |none=>simp[U] at h
   |some u=>
     cases ag:cn w A (i+1) n with
     |none=>simp[U,ag] at h
     |some us=>
       simp only[U,ag,Option.some.injEq] at h
       subst h
       cases j with
       |zero=>simp at ao;subst ao;exact U
       |succ j=>
         have:=F6 ag (j:=j) (v:=v) (by simpa using ao)
         rwa[show i+(j+1)=i+1+j by omega]
theorem KT {w:World} {A:Addr}:∀ (n i:Nat) (vs:List Value),vs.length=n→(∀j v,vs[j]? =some v→w.cell? (A.add (i+j))=some v)→cn w A i n=some vs
 |0,i,vs,aC,_=>by
   cases vs with
   |nil=>simp[cn]
   |cons _ _=>simp at aC
 |n+1,i,vs,aC,h=>by
   cases vs with
   |nil=>simp at aC
   |cons v vs=>
     simp only[cn]
     rw[show w.cell? (A.add i)=some v from h 0 v rfl,KT n (i+1) vs (by simpa using aC) (fun j x ai=>by have:=h (j+1) x (by simpa using ai);rwa[show i+(j+1)=i+1+j by omega] at this)]
theorem Xq {w:World} {A:Addr} {n k m:Nat} {vs:List Value} (h:cn w A 0 n=some vs) (aa:k+m≤n):cn w (A.add k) 0 m=some ((vs.drop k).take m):=by
 have aC:=B5 h
 refine KT m 0 _ (by simp;omega) fun j v ao=> ?_
 rw[SV,show k+(0+j)=0+(k+j) by omega]
 refine F6 h ?_
 rw[List.getElem?_take] at ao
 split at ao
 · rwa[CT] at ao
 · cases ao
section
variable {w:World}
theorem aY.acP {sz:Nat} {T uD:TypeId} {s:ah} {vs:List Value} {q:Nat} {c:Array Value} (h:aY sz T w s vs) (ae:aH s q) (ga:bQ w q c uD):T=uD:=by
 obtain ⟨A,an,rfl⟩:=ae
 obtain ⟨_,_,_,aK⟩:=h
 rcases aK with ⟨aD,_⟩|⟨b,oG,aj,eu,_⟩
 · rw[aD] at an;cases an
 · rw[aj] at an;cases an
   exact (bQ.inj eu ga).2
end
theorem afC {w:World} {A:Addr} {n m i:Nat} {xs ys:List Value} (U:cn w A i n=some xs) (ag:cn w (A.add (i+n)) 0 m=some ys):cn w A i (n+m)=some (xs++ys):=by
 have yd:=B5 U
 have ua:=B5 ag
 refine KT (n+m) i _ (by rw[c9,yd,ua]) fun j v ao=> ?_
 rw[List.getElem?_append] at ao
 split at ao
 · exact F6 U ao
 · rename_i bu
   have:=F6 ag ao
   rw[SV] at this
   rwa[show i+n+(0+(j-xs.length))=i+j by omega] at this
theorem wz.src {P:Program} {w:World} {e:TypeId} {s:ah} {α:Type} {c:α→List Value} {sz:Nat} (h:wz P w e s) (eB:P.cellsOf e=sz) (R:α→Prop) (afD:∀fuel vs,iK P w fuel e vs→∃x:α,vs=c x∧R x):
   ∃l:List α,Src sz w s (l.map c).flatten∧l.length=s.len∧∀x∈l,R x:=by
 have ly:=h.cell
 rw[eB] at ly
 have key:∀a,s.a=some a→∀n,n≤s.len→∃l:List α,cn w a 0 (n*sz)=some (l.map c).flatten∧l.length=n∧∀x∈l,R x:=by
   intro a aI n
   induction n with
   |zero=>intro _;exact ⟨[],by simp[cn],rfl,fun r aJ=>by cases aJ⟩
   |succ n cb=>
     intro aD
     obtain ⟨l,U,aC,ag⟩:=cb (by omega)
     obtain ⟨vs,aA,fuel,aK⟩:=ly a aI n (by have:=h.le;omega)
     obtain ⟨r,rfl,bH⟩:=afD fuel vs aK
     refine ⟨l++ [r],?_,by simp[aC],fun x ai=> ?_⟩
     · rw[Nat.succ_mul,afC U (by rw[fX];exact aA)]
       simp
     · rcases hD.1 ai with ai|ai
       · exact ag x ai
       · rw[gv.1 ai];exact bH
 cases pg:s.a with
 |none=>
   have bP:s.len=0:=by have:=h.nil pg;have:=h.le;omega
   exact ⟨[],⟨by simp[bP],fun _=>rfl,fun a aI=>(by rw[pg] at aI;cases aI)⟩,bP.symm,fun r aJ=>by cases aJ⟩
 |some a=>
   obtain ⟨l,U,aC,ag⟩:=key a pg s.len (b6 _)
   exact ⟨l,⟨B5 U,fun e=>(by rw[pg] at e;cases e),fun a' kf=>by rw[pg] at kf;cases kf;exact U⟩,aC,ag⟩
theorem y7 {P:Program} {w:World} {T:TypeId} {fuel:Nat} {cs:List Value} {fs:Array Field} (h:iK P w fuel T cs) (aV:P.underlying T=some (.struct fs)) (i:Nat) {t o n:Nat} (aL:(fs[i]?).map (fun f=>(f.type,f.offset))=some (t,o)) (aD:P.cellsOf t=n):∃fuel,iK P w fuel t ((cs.drop o).take n):=by
 obtain ⟨_,H6⟩:=Rp h aV
 cases aW:fs[i]? with
 |none=>rw[aW] at aL;cases aL
 |some f=>
   rw[aW] at aL
   simp only[tG,Option.some.injEq,Prod.mk.injEq] at aL
   obtain ⟨rfl,rfl⟩:=aL
   have:=H6 f (Array.mem_of_getElem? aW)
   rwa[aD] at this
def fieldsOf (P:Program) (T:TypeId):Array Field:=match P.underlying T with
 |some (.struct fs)=>fs
 |_=> #[]
end bD
