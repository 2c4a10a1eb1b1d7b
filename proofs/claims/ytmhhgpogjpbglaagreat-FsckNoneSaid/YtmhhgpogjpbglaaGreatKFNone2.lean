/- What a Go program of the model must show, as text that can be read; sound against the kit. -/
import Derived.Carry
import Derived.Laws.StructEq
import Derived.Lib.Overlaps
import Derived.WideKeyRuns
import Derived.Test.YtmhhgpogjpbglaaGreatKFNone1
namespace bl
open Go Go.RowKit
def tE (ju:TypeId→Option (List cu)) (P:Program):List Field→Nat→Option (List cu)
 | [],_=>some []
 |f::fs,o=>if f.name= "_" ∨f.offset≠o then none else
     match ju f.type with
     |some ls=>if P.cellsOf f.type=ls.length then (tE ju P fs (o+ls.length)).map (ls++ ·) else none
     |none=>none
def zj (ls:List cu):Nat→List cu
 |0=> []
 |n+1=>ls++zj ls n
def ju (P:Program):Nat→TypeId→Option (List cu)
 |0,_=>none
 |d+1,T=>match P.underlying T with
   |some (.int k)=>some [.int k]
   |some .bool=>some [.bool]
   |some .string=>some [.str]
   |some (.struct fs)=>if P.stoodInHeld T then none else tE (ju P d) P fs.toList 0
   |some (.array n e)=>match ju P d e with
     |some ls=>if P.cellsOf e=ls.length then some (zj ls n) else none
     |none=>none
   |_=>none
def zk:cu→Value→Prop
 | .int k,v=>∃n:Int,v= .int k n
 | .bool,v=>∃b:Bool,v= .bool b
 | .str,v=>∃s:ByteArray,v= .string s
 |_,_=>False
def fp:List cu→List Value→Prop
 | [],vs=>vs=[]
 |l::ls,vs=>∃v us,vs=v::us∧zk l v∧fp ls us
theorem wk:∀ {ls:List cu} {vs:List Value},fp ls vs→vs.length=ls.length
 | [],_,h=>by cases h;rfl
 |_::_,_,h=>by
   obtain ⟨v,us,rfl,_,h⟩:=h
   simp[wk h]
theorem wm:∀ {ls ms:List cu} {vs:List Value},fp (ls++ms) vs→fp ls (vs.take ls.length)∧fp ms (vs.drop ls.length)
 | [],_,_,h=>⟨rfl,h⟩
 |l::ls,ms,vs,h=>by
   obtain ⟨v,us,rfl,U,ab⟩:=h
   obtain ⟨aw,aL⟩:=wm ab
   exact ⟨⟨v,_,rfl,U,aw⟩,aL⟩
def qe:Value→Value→Bool
 | .int _ a, .int _ b=>a==b
 | .bool a, .bool b=>a==b
 | .string a, .string b=>a.toList==b.toList
 |_,_=>false
def eU:List Value→List Value→Bool
 | [],_=>true
 |a::as,b::k4=>qe a b&&eU as k4
 |_::_,[]=>false
theorem SY {l:cu} {a b:Value} (aH:zk l a) (ad:zk l b):qe a b=true↔a=b:=by
 cases l<;>simp only[zk] at aH ad<;>try exact aH.elim
 · obtain ⟨n,rfl⟩:=aH;obtain ⟨m,rfl⟩:=ad;simp[qe]
 · obtain ⟨n,rfl⟩:=aH;obtain ⟨m,rfl⟩:=ad;simp[qe]
 · obtain ⟨n,rfl⟩:=aH;obtain ⟨m,rfl⟩:=ad
   simp only[qe,beq_iff_eq,Value.string.injEq]
   rw[ByteArray.toList_eq,ByteArray.toList_eq]
   obtain ⟨⟨x⟩⟩:=n;obtain ⟨⟨y⟩⟩:=m
   simp
theorem Hn:∀ {ls:List cu} {as k4:List Value},fp ls as→fp ls k4→(eU as k4=true↔as=k4)
 | [],_,_,U,ab=>by cases U;cases ab;simp[eU]
 |l::ls,_,_,U,ab=>by
   obtain ⟨a,as,rfl,aw,aL⟩:=U
   obtain ⟨b,k4,rfl,bt,cj⟩:=ab
   simp[eU,SY aw bt,Hn aL cj]
theorem CN:∀ {as k4 cs bc:List Value},as.length=k4.length→eU (as++cs) (k4++bc)=(eU as k4&&eU cs bc)
 | [],[],_,_,_=>by simp[eU]
 |a::as,b::k4,cs,bc,h=>by
   simp only[uk,eU]
   rw[CN (by simpa using h),Bool.and_assoc]
 | [],_::_,_,_,h=>by simp at h
 |_::_,[],_,_,h=>by simp at h
def l8 (P:Program) (T:TypeId) (cs:List Value):Value:=
 match P.underlying T with
 |some d=>if g4 d then .agg cs.toArray else cs.headD undef
 |none=>undef
section
variable {P:Program}
theorem rP {T:TypeId} {d:TypeDesc} {cs:List Value} (h:P.underlying T=some d) (aH:g4 d=true):l8 P T cs= .agg cs.toArray:=by
 simp[l8,h,aH]
theorem rQ {T:TypeId} {d:TypeDesc} {v:Value} (h:P.underlying T=some d) (aH:g4 d=false):l8 P T [v]=v:=by
 simp[l8,h,aH]
theorem zl {T:TypeId} {cs us:List Value} {off:Nat} {d:TypeDesc} (aQ:P.underlying T=some d) (ay:P.cellsOf T=us.length) (bU:g4 d=false→us.length=1)
   (h:(cs.drop off).take us.length=us) (w:World):(part T cs.toArray off).run P w= .ok (l8 P T us) w:=by
 cases ax:g4 d with
 |true=>
   rw[rP aQ ax]
   have e:cs.toArray.extract off (off+us.length)=us.toArray:=by
     simp[h]
   simp[part,tf aQ,ax,ix aQ,ay,h]
 |false=>
   obtain ⟨v,rfl⟩:=List.length_eq_one_iff.1 (bU ax)
   rw[rQ aQ ax]
   have al:cs[off]? =some v:=by
     have:((cs.drop off).take 1)[0]? =some v:=by
       have hD:List.take 1 (List.drop off cs)=[v]:=h
       rw[hD];rfl
     rw[List.getElem?_take_of_lt (by omega),wU] at this
     simpa using this
   simp[part,tf aQ,ax,al]
theorem flat_agg {d:Nat} {T:TypeId} {ls:List cu} (h:ju P d T=some ls):∃u,P.underlying T=some u∧(g4 u=false→ls.length=1):=by
 cases d with
 |zero=>cases h
 |succ d=>
   simp only[ju] at h
   cases hu:P.underlying T with
   |none=>simp[hu] at h
   |some u=>
     refine ⟨u,rfl,fun aH=> ?_⟩
     rw[hu] at h
     cases u<;>simp only[g4,reduceCtorEq] at aH h<;>first|(cases h;rfl)|cases h
theorem IP {d D:Nat} (bV:∀ {T:TypeId} {ls:List cu} {xs ys:List Value},ju P d T=some ls→fp ls xs→fp ls ys→∀w,(Op.equalIn (D+d) T (l8 P T xs) (l8 P T ys)).run P w= .ok (eU xs ys) w)
   {xs ys:List Value}:∀ {fs:List Field} {o:Nat} {ls:List cu},tE (ju P d) P fs o=some ls→fp ls (xs.drop o)→fp ls (ys.drop o)→
     ∀w,(Op.eqFields (D+d) xs.toArray ys.toArray fs).run P w= .ok (eU (xs.drop o) (ys.drop o)) w
 | [],o,ls,h,af,aZ,w=>by
   simp only[tE,Option.some.injEq] at h
   subst h
   have af:xs.drop o=[]:=af
   rw[af]
   rfl
 |f::fs,o,ls,h,af,aZ,w=>by
   simp only[tE] at h
   split at h
   · cases h
   · rename_i aI
     have nv:¬f.name= "_" :=fun e=>aI (.inl e)
     have iV:f.offset=o:=by
       by_cases e:f.offset=o
       · exact e
       · exact absurd (.inr e) aI
     subst iV
     split at h
     · rename_i ms hm
       split at h
       · rename_i ai
         cases aC:tE (ju P d) P fs (f.offset+ms.length) with
         |none=>simp[aC] at h
         |some rs=>
           simp only[aC,qp,Option.some.injEq] at h
           subst h
           obtain ⟨bg,bT⟩:=wm af
           obtain ⟨wo,wq⟩:=wm aZ
           rw[r5] at bT wq
           obtain ⟨u,hu,fB⟩:=flat_agg hm
           have oA:=wk bg
           have oB:=wk wo
           have ie:=zl (cs:=xs) (off:=f.offset) (us:=(xs.drop f.offset).take ms.length) hu (by rw[ai,oA]) (fun aH=>by rw[oA];exact fB aH) (by rw[oA])
           have ig:=zl (cs:=ys) (off:=f.offset) (us:=(ys.drop f.offset).take ms.length) hu (by rw[ai,oB]) (fun aH=>by rw[oB];exact fB aH) (by rw[oB])
           have e:=fun w=>bV hm bg wo w
           have r:=IP bV (fs:=fs) aC bT wq
           have CO:eU (xs.drop f.offset) (ys.drop f.offset)=(eU ((xs.drop f.offset).take ms.length) ((ys.drop f.offset).take ms.length)&&eU (xs.drop (f.offset+ms.length)) (ys.drop (f.offset+ms.length))):=by
             rw[←CN (by rw[oA,oB])]
             simp only[←r5,ua]
           simp only[Op.eqFields,ne_eq,nv,not_false_eq_true,if_true,Sem.run_bind,ie,ig,e,Result.andThen]
           rw[CO]
           cases eU ((xs.drop f.offset).take ms.length) ((ys.drop f.offset).take ms.length)
           · simp
           · simpa using r w
       · cases h
     · cases h
theorem IQ {d D:Nat} (bV:∀ {T:TypeId} {ls:List cu} {xs ys:List Value},ju P d T=some ls→fp ls xs→fp ls ys→∀w,(Op.equalIn (D+d) T (l8 P T xs) (l8 P T ys)).run P w= .ok (eU xs ys) w)
   {e:TypeId} {ls:List cu} {u:TypeDesc} (hu:P.underlying e=some u) (fB:g4 u=false→ls.length=1) (aB:ju P d e=some ls) (ai:P.cellsOf e=ls.length) {xs ys:List Value}:
   ∀ (n i:Nat),fp (zj ls n) (xs.drop (i*ls.length))→fp (zj ls n) (ys.drop (i*ls.length))→∀w,
     Sem.run P (do
       let r ←forIn (List.range' i n) ((none:Option Bool),()) fun i _=>do
         let a ←part e xs.toArray (i*ls.length)
         let b ←part e ys.toArray (i*ls.length)
         let t ←Op.equalIn (D+d) e a b
         if (!t)=true then pure (ForInStep.done (some false,())) else pure (ForInStep.yield (none,()))
       match r.1 with
       |some b=>pure b
       |none=>pure true) w= .ok (eU (xs.drop (i*ls.length)) (ys.drop (i*ls.length))) w
 |0,i,af,aZ,w=>by
   have af:xs.drop (i*ls.length)=[]:=af
   rw[af]
   simp[eU]
 |n+1,i,af,aZ,w=>by
   obtain ⟨bg,bT⟩:=wm af
   obtain ⟨wo,wq⟩:=wm aZ
   rw[r5,show i*ls.length+ls.length=(i+1)*ls.length by rw[iu,qu]] at bT wq
   have oA:=wk bg
   have oB:=wk wo
   have ie:=zl (cs:=xs) (off:=i*ls.length) (us:=(xs.drop (i*ls.length)).take ls.length) hu (by rw[ai,oA]) (fun aH=>by rw[oA];exact fB aH) (by rw[oA])
   have ig:=zl (cs:=ys) (off:=i*ls.length) (us:=(ys.drop (i*ls.length)).take ls.length) hu (by rw[ai,oB]) (fun aH=>by rw[oB];exact fB aH) (by rw[oB])
   have aT:=fun w=>bV aB bg wo w
   have r:=IQ bV hu fB aB ai n (i+1) bT wq w
   have CO:eU (xs.drop (i*ls.length)) (ys.drop (i*ls.length))=(eU ((xs.drop (i*ls.length)).take ls.length) ((ys.drop (i*ls.length)).take ls.length)&&eU (xs.drop ((i+1)*ls.length)) (ys.drop ((i+1)*ls.length))):=by
     rw[←CN (by rw[oA,oB]),show (i+1)*ls.length=i*ls.length+ls.length by rw[iu,qu]]
     simp only[←r5,ua]
   rw[CO]
   simp only[List.range'_succ,List.forIn_cons,Sem.run_bind,ie,ig,aT,Result.andThen]
   cases eU ((xs.drop (i*ls.length)).take ls.length) ((ys.drop (i*ls.length)).take ls.length)
   · simp
   · simpa[Result.andThen] using r
theorem IS (D:Nat):∀ (d:Nat) {T:TypeId} {ls:List cu} {xs ys:List Value},ju P d T=some ls→fp ls xs→fp ls ys→∀w,(Op.equalIn (D+d) T (l8 P T xs) (l8 P T ys)).run P w= .ok (eU xs ys) w
 |0,_,_,_,_,h,_,_,_=>by cases h
 |d+1,T,ls,xs,ys,h,af,aZ,w=>by
   have bV:= @IS D d
   simp only[ju] at h
   cases hu:P.underlying T with
   |none=>simp[hu] at h
   |some u=>
     rw[hu] at h
     cases u with
     |int k=>
       simp only[Option.some.injEq] at h;subst h
       obtain ⟨x,_,rfl,⟨n,rfl⟩,rfl⟩:=af
       obtain ⟨y,_,rfl,⟨m,rfl⟩,rfl⟩:=aZ
       rw[rQ hu rfl,rQ hu rfl]
       show (Op.equalIn (D+d+1) T _ _).run P w=_
       simp[Op.equalIn,ck hu,eU,qe]
     |bool=>
       simp only[Option.some.injEq] at h;subst h
       obtain ⟨x,_,rfl,⟨n,rfl⟩,rfl⟩:=af
       obtain ⟨y,_,rfl,⟨m,rfl⟩,rfl⟩:=aZ
       rw[rQ hu rfl,rQ hu rfl]
       show (Op.equalIn (D+d+1) T _ _).run P w=_
       simp[Op.equalIn,ck hu,eU,qe]
     |string=>
       simp only[Option.some.injEq] at h;subst h
       obtain ⟨x,_,rfl,⟨n,rfl⟩,rfl⟩:=af
       obtain ⟨y,_,rfl,⟨m,rfl⟩,rfl⟩:=aZ
       rw[rQ hu rfl,rQ hu rfl]
       show (Op.equalIn (D+d+1) T _ _).run P w=_
       simp[Op.equalIn,ck hu,eU,qe,beq_toListBytes]
     |struct fs=>
       simp only at h
       split at h
       · cases h
       · rename_i aU
         rw[rP hu rfl,rP hu rfl]
         have IT:P.fieldsOf T=fs:=by simp[Program.fieldsOf,hu]
         show (Op.equalIn (D+d+1) T _ _).run P w=_
         rw[run_equalIn_struct w (D+d) T xs.toArray ys.toArray (by rw[IT];exact hu) (by simpa using aU),IT]
         have:=IP (D:=D) bV (xs:=xs) (ys:=ys) h (by simpa using af) (by simpa using aZ) w
         simpa using this
     |array n e=>
       simp only at h
       split at h
       · rename_i ms hm
         split at h
         · rename_i ai
           simp only[Option.some.injEq] at h;subst h
           obtain ⟨u,yG,fB⟩:=flat_agg hm
           rw[rP hu rfl,rP hu rfl]
           show (Op.equalIn (D+d+1) T _ _).run P w=_
           have:=IQ (D:=D) bV yG fB hm ai (xs:=xs) (ys:=ys) n 0 (by simpa using af) (by simpa using aZ) w
           rw[sa,oK,oK] at this
           rw[←this]
           simp only[Op.equalIn,Sem.run_bind,ck hu,ix yG,Result.andThen,ai,Std.Legacy.Range.forIn_eq_forIn_range',Std.Legacy.Range.size]
           simp
           congr 1
           funext a w
           obtain ⟨o,_⟩:=a
           cases o<;>rfl
         · cases h
       · cases h
     |_=>cases h
theorem p2.flat {T:TypeId} {d:TypeDesc} {ls:List cu} {xs ys:List Value} (aQ:P.underlying T=some d) (aH:g4 d=true) (aI:ju P 8 T=some ls) (bu:P.eqGuardType P.depth T=false)
   (af:fp ls xs) (aZ:fp ls ys):p2 P T xs.toArray ys.toArray (eU xs ys):=by
 refine ⟨bu,fun w=> ?_⟩
 have:=IS (P:=P) 9992 8 aI af aZ w
 rwa[rP aQ aH,rP aQ aH] at this
end
end bl
namespace bl
open Go Go.RowKit
theorem zX {n:Int} (bA:0≤n) (U:n≤255):IntKind.u8.wrap n=n:=by
 simp only[IntKind.wrap,IntKind.signed,IntKind.bits];simp;omega
theorem zT {n:Int} (bA:0≤n) (U:n≤4294967295):IntKind.u32.wrap n=n:=by
 simp only[IntKind.wrap,IntKind.signed,IntKind.bits];simp;omega
theorem jy {n:Int} (bA:0≤n) (U:n≤18446744073709551615):IntKind.u64.wrap n=n:=by
 simp only[IntKind.wrap,IntKind.signed,IntKind.bits];simp;omega
theorem KH (n:Int):IntKind.u8.wrap n=n%256:=by
 simp only[IntKind.wrap,IntKind.signed,IntKind.bits];simp
def S (l:List UInt8):ByteArray:=⟨l.toArray⟩
theorem IU (l:List UInt8):(S l).toList=l:=ByteArray.toList_mk l
theorem Em (a b:List UInt8):(ByteArray.toList (S a)==ByteArray.toList (S b))=(a==b):=by rw[IU,IU]
theorem Kv (ns:List Int):IN ns=S (ns.map fun n=>UInt8.ofNat n.toNat):=by
 have h:∀ (ns:List Int) (r:List UInt8),ns.foldl (fun r n=>r.push (UInt8.ofNat n.toNat)) (S r)=S (r++ns.map fun n=>UInt8.ofNat n.toNat):=by
   intro ns
   induction ns with
   |nil=>intro r;simp
   |cons n ns bV=>
     intro r
     have e:(S r).push (UInt8.ofNat n.toNat)=S (r++ [UInt8.ofNat n.toNat]):=by
       apply ByteArray.ext
       simp[S,ByteArray.push]
     simp only[List.foldl_cons,e,bV,jw,gI,uk,List.nil_append]
 exact h ns []
theorem add_add (A:Addr) (n m:Nat):(A.add n).add m=A.add (n+m):=by
 unfold Addr.add
 by_cases U:n=0
 · subst U;simp
 · by_cases ab:m=0
   · subst ab;simp
   · rw[if_neg U,if_neg ab,if_neg (by omega)]
     simp[Nat.add_assoc]
section
variable {w J:World} {b m i:Nat} {T:TypeId} {f:Nat→Int}
theorem aq.gN {en w:World} {b i:Nat} (h:aq (fun q=>q=b) en w) (v:Value):aq (fun q=>q=b) en (w.setCell ⟨b,i,none⟩ v):=aq.set h (fun _=>rfl) v
theorem aq.uq {en w:World} {b i:Nat} (h:aq (fun q=>q=b) en w) (vs:List Value) (j:Nat):aq (fun q=>q=b) en (bl.setCells w ⟨b,i,none⟩ j vs):=aq.setCells (W:=fun q=>q=b) (A:=⟨b,i,none⟩) (fun _=>rfl) vs j h
end
theorem xw {b o:Nat} {z l m:Nat} (h:m≠l):b7 (some (Addr.mk b o none)) z l m=some ⟨b,o+l*z,none⟩:=by
 simp[b7,h,ba]
theorem Ext.trans {a b c:World} (U:Ext a b) (ab:Ext b c):Ext a c:=aq.trans U ab
theorem Ext.k9 {en ae av:World} {W:Nat→Prop} (U:Ext en ae) (ab:aq W ae av) (h:∀k,W k→en.heap.size≤k):Ext en av:=
 ⟨ab.os.trans U.os,ab.tape.trans U.tape,ab.output.trans U.output,hY U.size ab.size,fun k aa _=>by
   rw[ab.block k (mf aa U.size) (fun e0=>by have:=h k e0;omega),U.block k aa id]⟩
end bl
namespace bl
open Go Go.RowKit
section
variable {α:Type} {P:Program} {w:World} {gV mD T:TypeId} {enc:α→Value}
def dd (enc:α→Value) (x:α×Value×Nat):MapEntry:=⟨enc x.1,x.2.1,x.2.2⟩
def mE (x:α×Value×Nat):α×Value:=(x.1,x.2.1)
def oC [DecidableEq α] (k:α):List (α×Value×Nat)→Nat→Option (Nat×Value)
 | [],_=>none
 |x::L,i=>if k=x.1 then some (i,x.2.1) else oC k L (i+1)
theorem E4 {β:Type} (f:β→β) (x:β) (er:List β):∀dA:List β,(dA++x::er).modify dA.length f=dA++f x::er
 | []=>rfl
 |y::dA=>by
   show y::((dA++x::er).modify dA.length f)=_
   rw[E4 f x er dA];rfl
structure o7 [DecidableEq α] (P:Program) (gV:TypeId) (enc:α→Value):Prop where
 find:∀ (L:List (α×Value×Nat)) (k:α) (w:World),(Instr.findKey gV (enc k) (L.map (dd enc))).run P w= .ok (oC k L 0) w
 check:∀ (b:Bool) (k:α) (w:World),(Instr.checkKey b 10000 gV (enc k)).run P w= .ok () w
 bits:∀k,Instr.sameBits 10000 (enc k) (enc k)=true
theorem Ar [DecidableEq α] {k:α}:∀ {L:List (α×Value×Nat)} {i:Nat},(∀x∈L,x.1≠k)→oC k L i=none
 | [],_,_=>rfl
 |x::L,i,h=>by
   rw[oC,if_neg (fun e=>h x (by simp) e.symm)]
   exact Ar fun y aZ=>h y (by simp[aZ])
theorem Au [DecidableEq α] {k:α} {v:Value} {n:Nat} {er:List (α×Value×Nat)}:∀ {dA:List (α×Value×Nat)} {i:Nat},(∀x∈dA,x.1≠k)→oC k (dA++(k,v,n)::er) i=some (i+dA.length,v)
 | [],i,_=>by simp[oC]
 |x::L,i,h=>by
   rw[uk,oC,if_neg (fun e=>h x (by simp) e.symm),Au fun y aZ=>h y (by simp[aZ])]
   simp;omega
theorem o7.int {k:IntKind} (hu:P.underlying gV=some (.int k)):o7 P gV (fun n:Int=>Value.int k n) where
 find L n w:=by
   have h:∀ (L:List (Int×Value×Nat)) (i:Nat),Instr.findNow (.int k) (.int k n) (L.map (dd fun n:Int=>Value.int k n)) i=some (oC n L i):=by
     intro L
     induction L with
     |nil=>intro i;rfl
     |cons x L bV=>
       intro i
       simp only[jw,Instr.findNow,dd,Instr.sameNow,if_true,oC]
       by_cases af:n=x.1
       · subst af;simp
       · rw[if_neg af,show (n==x.1)=false by simpa using af]
         exact bV (i+1)
   simp[Instr.findKey,ck hu,h]
 check b n w:=by
   show (Instr.checkKey b (9999+1) gV (.int k n)).run P w=_
   unfold Instr.checkKey
   simp only[Sem.run_bind,ck hu,Result.andThen]
   rfl
 bits n:=by
   show (k==k&&n==n)=true
   simp
def cI (w:World) (r:Nat) (enc:α→Value) (M:List (α×Value)):Prop:=
 ∃ (L:List (α×Value×Nat)) (bW:Nat),w.heap[r]? =some (.map (L.map (dd enc)).toArray bW)∧(L.map mE).Perm M∧(L.map (·.1)).Nodup∧(L.map (·.2.2)).Nodup∧∀x∈L,x.2.2<bW
def SZ (w:World) (r:Nat) (enc:α→Value) (M:List (α×Value)) (k:α) (v:Value) (st:Int):Prop:=
 ∃ (dA er:List (α×Value×Nat)) (n bW:Nat),w.heap[r]? =some (.map ((dA++(k,v,n)::er).map (dd enc)).toArray bW)∧((dA++er).map mE).Perm M∧((dA++(k,v,n)::er).map (·.1)).Nodup∧((dA++(k,v,n)::er).map (·.2.2)).Nodup∧(∀x∈dA++(k,v,n)::er,x.2.2<bW)∧st=(n:Int)
variable {r:Nat} {M wu:List (α×Value)} {k:α} {v:Value} {st:Int} {J:World}
theorem cI.lt (h:cI w r enc M):r<w.heap.size:=by
 obtain ⟨L,bW,h,_⟩:=h
 exact (nt.1 h).1
theorem cI.az {W:Nat→Prop} (h:cI w r enc M) (ai:aq W w J) (aC:¬W r):cI J r enc M:=by
 have aB:=h.lt
 obtain ⟨L,bW,h,fI⟩:=h
 exact ⟨L,bW,by rw[ai.block r aB aC];exact h,fI⟩
theorem cI.ext (h:cI w r enc M) (ai:Ext w J):cI J r enc M:=h.az ai id
theorem cI.perm (h:cI w r enc M) (aU:M.Perm wu):cI w r enc wu:=by
 obtain ⟨L,bW,h,U,fI⟩:=h
 exact ⟨L,bW,h,U.trans aU,fI⟩
theorem cI.split (h:cI w r enc ((k,v)::M)):∃n,SZ w r enc M k v (n:Nat):=by
 obtain ⟨L,bW,h,U,ab,aw,aL⟩:=h
 have hm:(k,v)∈L.map mE:=U.mem_iff.2 (by simp)
 obtain ⟨x,af,IV⟩:=eK.1 hm
 obtain ⟨dA,er,rfl⟩:=List.append_of_mem af
 obtain ⟨ga,o8,n⟩:=x
 simp only[mE,Prod.mk.injEq] at IV
 obtain ⟨rfl,rfl⟩:=IV
 refine ⟨n,dA,er,n,bW,h,?_,ab,aw,aL,rfl⟩
 rw[gu,jw] at U
 have:=(wX.symm.trans U)
 rw[gu]
 exact this.cons_inv
theorem cI.keys (h:cI w r enc M):(M.map (·.1)).Nodup:=by
 obtain ⟨L,bW,h,U,ab,aw,aL⟩:=h
 have:=U.map (·.1)
 rw[mg] at this
 exact this.nodup_iff.1 ab
theorem cI.S0 (hm:(k,v)∈M):∃wu,M.Perm ((k,v)::wu):=by
 obtain ⟨A,B,rfl⟩:=List.append_of_mem hm
 exact ⟨A++B,wX⟩
def ia (w:World) (r:Nat) (o:Obj):World:={w with heap:=w.heap.setIfInBounds r o}
theorem uN (w:World) (r:Nat) (o:Obj):aq (fun q=>q=r) w (ia w r o):=
 ⟨rfl,rfl,rfl,by simp[ia],fun k _ aa=>by
   have:¬r=k:=fun e=>aa e.symm
   simp[ia,this]⟩
theorem xN (w:World) (r:Nat) (o:Obj):(ia w r o).heap.size=w.heap.size:=by simp[ia]
theorem xO {w:World} {r:Nat} (h:r<w.heap.size) (o:Obj):(ia w r o).heap[r]? =some o:=by simp[ia,h]
theorem nH {es:Array MapEntry} {bW:Nat} (h:w.heap[r]? =some (.map es bW)):(getObj r).run P w= .ok (.map es bW) w:=by simp[getObj,Sem.run,h]
theorem As {es:Array MapEntry} {bW:Nat} (h:w.heap[r]? =some (.map es bW)) (o:Obj):(setObj r o).run P w= .ok () (ia w r o):=by simp[setObj,Sem.run,h,ia]
theorem E3 {dA er:List (α×Value×Nat)} {x:α×Value×Nat} (h:((dA++x::er).map (·.1)).Nodup):∀y∈dA,y.1≠x.1:=by
 intro y aZ e
 rw[gu,jw,wW] at h
 exact h.2.2 _ (List.mem_map_of_mem aZ) _ (List.mem_cons_self ..) e
theorem E2 {L:List (α×Value×Nat)} (U:(L.map mE).Perm M) (aa:∀v,(k,v)∉M):∀x∈L,x.1≠k:=by
 intro x af e
 refine aa x.2.1 (U.mem_iff.1 (eK.2 ⟨x,af,?_⟩))
 simp[mE,e]
theorem cI.make (T:TypeId) (w:World):(Instr.makeMap T none).run P w= .ok (.map (some w.heap.size)) (w.alloc (.map #[] 0))∧cI (w.alloc (.map #[] 0)) w.heap.size enc ([]:List (α×Value)):=by
 refine ⟨by simp[Instr.makeMap],[],0,?_,by simp,by simp,by simp,by simp⟩
 show (w.heap.push (.map #[] 0))[w.heap.size]? =_
 simp
theorem cI.Az [DecidableEq α] (aJ:o7 P gV enc) (aQ:P.underlying T=some (.map gV mD)) (h:cI w r enc M) (hm:(k,v)∈M) (ok:Bool):
   (Instr.lookup T (.map (some r)) (enc k) ok).run P w= .ok (if ok then .tuple #[v, .bool true] else v) w:=by
 obtain ⟨wu,aU⟩:=cI.S0 hm
 obtain ⟨n,dA,er,kG,bW,h,U,ab,aw,aL,_⟩:=(h.perm aU).split
 have aI:=aJ.find (dA++(k,v,kG)::er) k w
 rw[Au (E3 ab)] at aI
 simp only[Instr.lookup,Sem.run_bind,ck aQ,Result.andThen,nH h,Sem.run_pure,aJ.check,aI]
theorem cI.AA [DecidableEq α] (aJ:o7 P gV enc) (aQ:P.underlying T=some (.map gV mD)) {i:TypeInfo} {z:Value} (hi:P.info? mD=some i) (bI:i.zero=some z) (h:cI w r enc M) (hm:∀v,(k,v)∉M) (ok:Bool):
   (Instr.lookup T (.map (some r)) (enc k) ok).run P w= .ok (if ok then .tuple #[z, .bool false] else z) w:=by
 obtain ⟨L,bW,h,U,ab,aw,aL⟩:=h
 have aI:=aJ.find L k w
 rw[Ar (E2 U hm)] at aI
 simp only[Instr.lookup,Sem.run_bind,ck aQ,Result.andThen,nH h,Sem.run_pure,aJ.check,aI,zeroValue,qZ hi,bI]
end
end bl
namespace bl
open Go Go.RowKit
theorem IW (c:Array Value):∀ (vs:List Value) (i:Nat) (c:Array Value),(g9 c i vs).toList.drop (i+vs.length)=c.toList.drop (i+vs.length)
 | [],_,_=>rfl
 |v::vs,i,c=>by
   simp only[g9,ir]
   rw[show i+(vs.length+1)=i+1+vs.length by omega,IW c vs (i+1) (c.setIfInBounds i v)]
   rw[Array.toList_setIfInBounds,List.drop_set]
   rw[if_pos (by omega)]
theorem uz (vs:List Value) (c:Array Value) (i:Nat) (h:i+vs.length≤c.size):(g9 c i vs).toList=c.toList.take i++vs++c.toList.drop (i+vs.length):=by
 rw[←ua (i+vs.length) (g9 c i vs).toList,w9 vs c i h,IW c]
section
variable {P:Program} {w:World}
theorem NK {T o e:TypeId} {i:TypeInfo} {z:Value} {sz n c:Nat} {A:Addr} (aQ:P.underlying T=some (.slice e)) (hi:P.info? e=some i) (bI:i.zero=some z) (lJ:z.cells.size=sz) (ay:n≠0)
   (eW:∀zs:List Value,zs=(Builtin.zeroCells z.cells n).toList→cd w A zs):
   ∃zs:List Value,zs.length=n*sz∧Sem.run P (Builtin.clear_ #[T] o #[.slice (some A) n c]) w= .ok (.tuple #[]) (setCells w A 0 zs):=by
 refine ⟨(Builtin.zeroCells z.cells n).toList,by simp[Builtin.zeroCells,lJ],?_⟩
 have ao:=eW _ rfl
 have sg:=ur (P:=P) (A:=A) _ 0 w (by simpa using ao.1) ao.2
 cases n with
 |zero=>exact absurd rfl ay
 |succ n=>
   simp only[Builtin.clear_,List.getElem?_toArray,sd,Sem.run_bind,ck aQ,Result.andThen,zeroValue,qZ hi,bI,Sem.run_pure,sg]
end
theorem NH (a:Option Addr) (z c:Nat):b7 a z 0 c=a:=by
 unfold b7
 split
 · rfl
 · cases a with
   |none=>rfl
   |some A=>simp[add_zero']
theorem bo.Fa {sz:Nat} {w:World} {b:Nat} {c:Array Value} {T:TypeId} (h:bo w b c T) {o n cap:Nat} (ay:o+n*sz≤c.size):Src sz w ⟨some ⟨b,o,none⟩,n,cap⟩ ((c.toList.drop o).take (n*sz)):=by
 refine ⟨by simp;omega,(fun h=>by cases h),fun a aH=> ?_⟩
 cases aH
 have:=se h (n*sz) o 0 (by simpa using ay)
 simpa using this
theorem bo.qF {w:World} {b o:Nat} {c:Array Value} {T:TypeId} (h:bo w b c T) (vs:List Value):bo (setCells w ⟨b,o,none⟩ 0 vs) b (g9 c o vs) T:=by
 simpa using bo.w8 vs o 0 h
theorem bd.mk' {sz:Nat} {T:TypeId} {w:World} {b n cap:Nat} {c:Array Value} {vs:List Value} (ad:bo w b c T) (aB:vs.length=n*sz) (ay:n≤cap) (ai:cap≤maxLen) (ao:c.size=cap*sz) (al:c.toList.take (n*sz)=vs):bd sz T w ⟨some ⟨b,0,Option.none⟩,n,cap⟩ vs:=
 ⟨aB,ay,ai, .inr ⟨b,c,rfl,ad,ao,al⟩⟩
theorem S1 (A:Addr) (a b:Nat):(A.add a).add b=A.add (a+b):=by
 unfold Addr.add
 by_cases aH:a=0
 · subst aH;simp
 · by_cases ad:b=0
   · subst ad;simp
   · simp[aH,ad,Nat.add_assoc]
theorem IX {w:World} {A:Addr}:∀ {n i:Nat} {vs:List Value} {j:Nat} {v:Value},bR w A i n=some vs→vs[j]? =some v→w.cell? (A.add (i+j))=some v
 |0,_,vs,j,v,h,al=>by simp[bR] at h;subst h;simp at al
 |n+1,i,vs,j,v,h,al=>by
   simp only[bR] at h
   cases U:w.cell? (A.add i) with
   |none=>simp[U] at h
   |some u=>
     cases ab:bR w A (i+1) n with
     |none=>simp[U,ab] at h
     |some us=>
       simp only[U,ab,Option.some.injEq] at h
       subst h
       cases j with
       |zero=>simp at al;subst al;exact U
       |succ j=>
         have:=IX ab (j:=j) (v:=v) (by simpa using al)
         rwa[show i+(j+1)=i+1+j by omega]
theorem IY {w:World} {A:Addr}:∀ (n i:Nat) (vs:List Value),vs.length=n→(∀j v,vs[j]? =some v→w.cell? (A.add (i+j))=some v)→bR w A i n=some vs
 |0,i,vs,aB,_=>by
   cases vs with
   |nil=>simp[bR]
   |cons _ _=>simp at aB
 |n+1,i,vs,aB,h=>by
   cases vs with
   |nil=>simp at aB
   |cons v vs=>
     simp only[bR]
     rw[show w.cell? (A.add i)=some v from h 0 v rfl,IY n (i+1) vs (by simpa using aB) (fun j x af=>by have:=h (j+1) x (by simpa using af);rwa[show i+(j+1)=i+1+j by omega] at this)]
theorem Mx {w:World} {A:Addr} {n k m:Nat} {vs:List Value} (h:bR w A 0 n=some vs) (aa:k+m≤n):bR w (A.add k) 0 m=some ((vs.drop k).take m):=by
 have aB:=IJ h
 refine IY m 0 _ (by simp;omega) fun j v al=> ?_
 rw[S1,show k+(0+j)=0+(k+j) by omega]
 refine IX h ?_
 rw[List.getElem?_take] at al
 split at al
 · rwa[wU] at al
 · cases al
section
variable {w:World}
end
end bl
