/- What a Go program of the model must show, as text that can be read; sound against the kit. -/
import Derived.Below
import Derived.KernelRfl
import Derived.Laws.BytesString
import Derived.OpenShut
import Derived.OrdersHeld
import Derived.ProofKit
import Derived.StillTail
import Derived.Tactics
import Derived.WalkKit
import Derived.WideKeyArgs
namespace Go
theorem b6:type_of% @Nat.le_refl:=@Nat.le_refl
theorem cG:type_of% @of_decide_eq_true:=@of_decide_eq_true
theorem cT:type_of% @of_decide_eq_false:=@of_decide_eq_false
theorem c1:type_of% @decide_eq_true_eq:=@decide_eq_true_eq
theorem dT:type_of% @List.mem_cons:=@List.mem_cons
theorem eA:type_of% @decide_eq_true:=@decide_eq_true
theorem eB:type_of% @List.length_map:=@List.length_map
theorem eC:type_of% @Int.toNat_natCast:=@Int.toNat_natCast
theorem eK:type_of% @List.mem_map:=@List.mem_map
theorem eL:type_of% @Bool.and_eq_true:=@Bool.and_eq_true
theorem eM:type_of% @Bool.not_eq_true:=@Bool.not_eq_true
theorem eV:type_of% @List.getElem_mem:=@List.getElem_mem
theorem e6:type_of% @Nat.zero_add:=@Nat.zero_add
theorem e7:type_of% @List.getElem?_eq_getElem:=@List.getElem?_eq_getElem
theorem fb:type_of% @Nat.mul_one:=@Nat.mul_one
theorem ft:type_of% @Nat.zero_le:=@Nat.zero_le
theorem fE:type_of% @List.mem_singleton:=@List.mem_singleton
theorem fF:type_of% @List.length_append:=@List.length_append
theorem fU:type_of% @Bool.eq_iff_iff:=@Bool.eq_iff_iff
theorem gd:type_of% @Nat.lt_or_ge:=@Nat.lt_or_ge
theorem gu:type_of% @List.map_append:=@List.map_append
theorem gv:type_of% @List.mem_append:=@List.mem_append
theorem gI:type_of% @List.append_assoc:=@List.append_assoc
theorem gJ:type_of% @Bool.false_eq_true:=@Bool.false_eq_true
theorem gK:type_of% @List.not_mem_nil:=@List.not_mem_nil
theorem gL:type_of% @or_false:=@or_false
theorem g8:type_of% @List.length_take:=@List.length_take
theorem hX:type_of% @List.take_of_length_le:=@List.take_of_length_le
theorem hY:type_of% @Nat.le_trans:=@Nat.le_trans
theorem hZ:type_of% @List.length_set:=@List.length_set
theorem h3:type_of% @Nat.eq_of_beq_eq_true:=@Nat.eq_of_beq_eq_true
theorem ir:type_of% @List.length_cons:=@List.length_cons
theorem iu:type_of% @Nat.add_mul:=@Nat.add_mul
theorem iS:type_of% @List.getD_eq_getElem?_getD:=@List.getD_eq_getElem?_getD
theorem jw:type_of% @List.map_cons:=@List.map_cons
theorem jx:type_of% @Bool.true_and:=@Bool.true_and
theorem kv:type_of% @Bool.or_eq_true:=@Bool.or_eq_true
theorem k6:type_of% @Nat.mod_lt:=@Nat.mod_lt
theorem k7:type_of% @decide_eq_false_iff_not:=@decide_eq_false_iff_not
theorem k8:type_of% @Bool.false_or:=@Bool.false_or
theorem mc:type_of% @List.take_succ_eq_append_getElem:=@List.take_succ_eq_append_getElem
theorem me:type_of% @Nat.mod_eq_of_lt:=@Nat.mod_eq_of_lt
theorem mf:type_of% @Nat.lt_of_lt_of_le:=@Nat.lt_of_lt_of_le
theorem mg:type_of% @List.map_map:=@List.map_map
theorem mh:type_of% @Bool.not_eq_true':=@Bool.not_eq_true'
theorem nq:type_of% @List.length_drop:=@List.length_drop
theorem nr:type_of% @Bool.false_and:=@Bool.false_and
theorem nt:type_of% @Array.getElem?_eq_some_iff:=@Array.getElem?_eq_some_iff
theorem oH:type_of% @List.mem_range:=@List.mem_range
theorem oI:type_of% @List.getElem_of_mem:=@List.getElem_of_mem
theorem oJ:type_of% @List.take_length:=@List.take_length
theorem oK:type_of% @List.drop_zero:=@List.drop_zero
theorem qn:type_of% @List.getElem?_map:=@List.getElem?_map
theorem qo:type_of% @decide_eq_false:=@decide_eq_false
theorem qp:type_of% @Option.map_some:=@Option.map_some
theorem qq:type_of% @List.length_nil:=@List.length_nil
theorem qs:type_of% @List.length_replicate:=@List.length_replicate
theorem qt:type_of% @List.mem_filter:=@List.mem_filter
theorem qu:type_of% @Nat.one_mul:=@Nat.one_mul
theorem qv:type_of% @Nat.testBit_or:=@Nat.testBit_or
theorem qw:type_of% @List.mem_cons_of_mem:=@List.mem_cons_of_mem
theorem r4:type_of% @List.length_eq_zero_iff:=@List.length_eq_zero_iff
theorem r5:type_of% @List.drop_drop:=@List.drop_drop
theorem r6:type_of% @Decidable.byContradiction:=@Decidable.byContradiction
theorem r7:type_of% @List.any_eq_false:=@List.any_eq_false
theorem r8:type_of% @List.mem_of_find?_eq_some:=@List.mem_of_find?_eq_some
theorem r9:type_of% @List.getElem_set_self:=@List.getElem_set_self
theorem r_:type_of% @Nat.mul_le_mul_right:=@Nat.mul_le_mul_right
theorem sa:type_of% @Nat.zero_mul:=@Nat.zero_mul
theorem sd:type_of% @List.getElem?_cons_zero:=@List.getElem?_cons_zero
theorem tZ:type_of% @List.getElem?_eq_some_iff:=@List.getElem?_eq_some_iff
theorem t_:type_of% @UInt8.toNat_lt:=@UInt8.toNat_lt
theorem ua:type_of% @List.take_append_drop:=@List.take_append_drop
theorem uc:type_of% @List.all_eq_true:=@List.all_eq_true
theorem ud:type_of% @Bool.or_eq_false_iff:=@Bool.or_eq_false_iff
theorem ue:type_of% @Option.getD_some:=@Option.getD_some
theorem uf:type_of% @List.find?_some:=@List.find?_some
theorem ug:type_of% @List.getElem?_eq_none:=@List.getElem?_eq_none
theorem uh:type_of% @Nat.testBit_two_pow:=@Nat.testBit_two_pow
theorem ui:type_of% @Int.tmod_eq_emod_of_nonneg:=@Int.tmod_eq_emod_of_nonneg
theorem uj:type_of% @List.length_range:=@List.length_range
theorem uk:type_of% @List.cons_append:=@List.cons_append
theorem um:type_of% @List.filterMap_cons:=@List.filterMap_cons
theorem uo:type_of% @List.filterMap_append:=@List.filterMap_append
theorem wU:type_of% @List.getElem?_drop:=@List.getElem?_drop
theorem wV:type_of% @List.pairwise_iff_getElem:=@List.pairwise_iff_getElem
theorem wW:type_of% @List.nodup_append:=@List.nodup_append
theorem wX:type_of% @List.perm_middle:=@List.perm_middle
theorem wY:type_of% @List.toList_toArray:=@List.toList_toArray
theorem wZ:type_of% @List.size_toArray:=@List.size_toArray
theorem w2:type_of% @Option.isSome_iff_exists:=@Option.isSome_iff_exists
theorem w3:type_of% @List.getElem_take:=@List.getElem_take
theorem w4:type_of% @Array.getElem?_modify:=@Array.getElem?_modify
theorem w5:type_of% @Nat.le_of_ble_eq_true:=@Nat.le_of_ble_eq_true
theorem zB:type_of% @List.eq_of_mem_replicate:=@List.eq_of_mem_replicate
theorem zC:type_of% @List.drop_eq_getElem_cons:=@List.drop_eq_getElem_cons
theorem zD:type_of% @Int.eq_ofNat_of_zero_le:=@Int.eq_ofNat_of_zero_le
end Go
namespace bl
open Go
structure ak where
 a:Option Addr
 len:Nat
 cap:Nat
structure iO where
 f:FuncId
 pre:Array Value
 cap:Array Value
inductive cu where
 |int (k:IntKind)|bool|str|ptr|slice|map|agg|fn|any
def cu.T:cu→Type
 | .int _=>Int
 | .bool=>Bool
 | .str=>ByteArray
 | .ptr=>Option Addr
 | .slice=>ak
 | .map=>Option Nat
 | .agg=>Array Value
 | .fn=>iO
 | .any=>Value
def cu.v:(l:cu)→l.T→Value
 | .int k,(n:Int)=> .int k n
 | .bool,(b:Bool)=> .bool b
 | .str,(s:ByteArray)=> .string s
 | .ptr,(p:Option Addr)=> .pointer p
 | .slice,(s:ak)=> .slice s.a s.len s.cap
 | .map,(r:Option Nat)=> .map r
 | .agg,(cs:Array Value)=> .agg cs
 | .fn,(F:iO)=> .func (.func F.f) F.pre F.cap
 | .any,(v:Value)=>v
inductive nc where
 |one (l:cu)
 |flat (ls:List cu)
def rA (l:cu) (K:Value→Prop):Prop:=
 match l with
 | .int k=>∃n:Int,K (.int k n)
 | .bool=>∃b:Bool,K (.bool b)
 | .str=>∃s:ByteArray,K (.string s)
 | .ptr=>∃p:Option Addr,K (.pointer p)
 | .slice=>∃s:ak,K (.slice s.a s.len s.cap)
 | .map=>∃r:Option Nat,K (.map r)
 | .agg=>∃cs:Array Value,K (.agg cs)
 | .fn=>∃F:iO,K (.func (.func F.f) F.pre F.cap)
 | .any=>∃v:Value,K v
def B9:List cu→(List Value→Prop)→Prop
 | [],K=>K []
 |l::ls,K=>rA l fun v=>B9 ls fun vs=>K (v::vs)
def B_ (k:nc) (K:Value→Prop):Prop:=
 match k with
 | .one l=>rA l K
 | .flat ls=>B9 ls fun vs=>K (.agg vs.toArray)
def yO:List nc→(List Value→Prop)→Prop
 | [],K=>K []
 |k::fq,K=>B_ k fun v=>yO fq fun vs=>K (v::vs)
theorem te {l:cu} {K:Value→Prop} (h:rA l K):∃v,K v:=by
 cases l<;>simp only[rA] at h<;>obtain ⟨x,h⟩:=h<;>exact ⟨_,h⟩
theorem Hz:∀ {ls:List cu} {K:List Value→Prop},B9 ls K→∃vs,K vs
 | [],_,h=>⟨_,h⟩
 |_::_,_,h=>let ⟨_,h⟩:=te h;let ⟨_,h⟩:=Hz h;⟨_,h⟩
theorem HA {k:nc} {K:Value→Prop} (h:B_ k K):∃v,K v:=by
 cases k with
 |one l=>exact te h
 |flat ls=>obtain ⟨_,h⟩:=Hz h;exact ⟨_,h⟩
theorem Ca:∀ {ls:List nc} {K:List Value→Prop},yO ls K→∃vs,K vs
 | [],_,h=>⟨_,h⟩
 |_::_,_,h=>let ⟨_,h⟩:=HA h;let ⟨_,h⟩:=Ca h;⟨_,h⟩
abbrev Env:=List (Nat×Value)
def Env.get:Env→Nat→Option Value
 | [],_=>none
 |(k,v)::e,s=>bif Nat.beq k s then some v else Env.get e s
def aP (e:Env):Operand→Option Value
 | .tmp t=>e.get t
 | .const v=>some v
 | .global g=>some (.pointer (some ⟨g,0,none⟩))
 | .func f=>some (.func (.func f) #[] #[])
def ro (e:Env) (x:Operand):Value:=(aP e x).getD undef
def known (e:Env) (xs:Array Operand):Bool:=xs.toList.all fun x=>(aP e x).isSome
structure cR (e:Env) (a:Act):Prop where
 get:∀s v,e.get s=some v→a.tmps[s]? =some v
theorem cR.aP {e:Env} {a:Act} (h:cR e a) {x:Operand} {v:Value} (af:aP e x=some v):a.eval x=v:=by
 cases x with
 |tmp t=>
   have:=h.get t v af
   simp[Act.eval,Array.getD_eq_getD_getElem?,this]
 |const c=>simpa[bl.aP,Act.eval] using af
 |global g=>simpa[bl.aP,Act.eval] using af
 |func f=>simpa[bl.aP,Act.eval] using af
theorem cR.ro {e:Env} {a:Act} (h:cR e a) {x:Operand} (af:(bl.aP e x).isSome=true):a.eval x=ro e x:=by
 obtain ⟨v,al⟩:=w2.1 af
 rw[h.aP al,bl.ro,al];rfl
def cD (d:Option Nat) (v:Value) (e:Env):Env:=
 match d with
 |some d=>(d,v)::e
 |none=>e
theorem rB (d:Nat) (v:Value) (e:Env) (s:Nat):Env.get ((d,v)::e) s=if d=s then some v else e.get s:=by
 simp only[Env.get,cond_eq_ite]
 by_cases kn:d=s
 · subst kn;simp
 · have:Nat.beq d s=false:=by
     cases ad:Nat.beq d s
     · rfl
     · exact absurd (h3 ad) kn
   simp[this,kn]
theorem cR.put {e:Env} {a:Act} (h:cR e a) {d:Option Nat} {v:Value} (ax:∀k,d=some k→k<a.tmps.size):cR (cD d v e) (a.put d v):=by
 cases d with
 |none=>exact h
 |some d=>
   constructor
   intro s u ao
   rw[cD,rB] at ao
   simp only[Act.put]
   by_cases kn:d=s
   · subst kn
     simp only[if_true,Option.some.injEq] at ao
     subst ao
     simp[ax d rfl]
   · rw[if_neg kn] at ao
     rw[Array.getElem?_setIfInBounds_ne kn]
     exact h.get s u ao
inductive ez where
 |one (k:nc)
 |dZ (fq:List nc)
def hU (r:ez) (K:Value→Prop):Prop:=
 match r with
 | .one k=>B_ k K
 | .dZ fq=>yO fq fun vs=>K (.tuple vs.toArray)
theorem il {r:ez} {K:Value→Prop} (h:hU r K):∃v,K v:=by
 cases r with
 |one k=>exact HA h
 |dZ fq=>obtain ⟨_,h⟩:=Ca h;exact ⟨_,h⟩
def bR (w:World) (A:Addr):Nat→Nat→Option (List Value)
 |_,0=>some []
 |i,n+1=>match w.cell? (A.add i),bR w A (i+1) n with
   |some v,some vs=>some (v::vs)
   |_,_=>none
def setCells (w:World) (A:Addr):Nat→List Value→World
 |_,[]=>w
 |i,v::vs=>setCells (w.setCell (A.add i) v) A (i+1) vs
def Plain:Value→Prop
 | .agg _=>False
 | .tuple _=>False
 |_=>True
def cd (w:World) (A:Addr) (vs:List Value):Prop:=
 (∀i,i<vs.length→(w.cell? (A.add i)).isSome=true∧w.frozen? (A.add i)=false)∧∀v∈vs,Plain v
def g4:TypeDesc→Bool
 | .struct _=>true
 | .array _ _=>true
 |_=>false
def gy (P:Program) (elem:TypeId) (n:Nat):Array Value:=
 let zero:=if n*P.cellsOf elem=0 then #[] else (((P.info? elem).bind (·.zero)).getD undef).cells
 (Array.range (n*P.cellsOf elem)).map (zero[· %zero.size]!)
section
variable {P:Program} {w:World}
theorem ck {t:TypeId} {d:TypeDesc} (h:P.underlying t=some d):(underlying t).run P w= .ok d w:=by
 simp[underlying,program,Sem.run,bind,Sem.bind,h,pure]
theorem qZ {t:TypeId} {d:TypeInfo} (h:P.info? t=some d):(typeInfo t).run P w= .ok d w:=by
 simp[typeInfo,program,Sem.run,bind,Sem.bind,h,pure]
theorem info_of_underlying {t:TypeId} {d:TypeDesc} (h:P.underlying t=some d):∃i,P.info? t=some i:=by
 unfold Program.underlying at h
 cases hi:P.info? t with
 |none=>simp[hi] at h
 |some i=>exact ⟨i,rfl⟩
theorem ix {t:TypeId} {d:TypeDesc} (h:P.underlying t=some d):(Go.sizeOf t).run P w= .ok (P.cellsOf t) w:=by
 obtain ⟨i,hi⟩:=info_of_underlying h
 simp[Go.sizeOf,qZ hi,Program.cellsOf,hi]
theorem tf {t:TypeId} {d:TypeDesc} (h:P.underlying t=some d):(isAgg t).run P w= .ok (g4 d) w:=by
 simp only[isAgg,Sem.run_bind,ck h,Result.andThen]
 cases d<;>rfl
theorem Aa {A:Addr} {v:Value} (h:w.cell? A=some v):(load A).run P w= .ok v w:=by
 simp[load,Sem.run,h]
theorem run_loadCellsFrom {A:Addr}:∀ (n i:Nat) (acc:Array Value) (vs:List Value),bR w A i n=some vs→
   (loadCellsFrom A i n acc).run P w= .ok (acc++vs.toArray) w
 |0,i,acc,vs,h=>by
   simp only[bR,Option.some.injEq] at h
   subst h
   simp[loadCellsFrom]
 |n+1,i,acc,vs,h=>by
   simp only[bR] at h
   cases U:w.cell? (A.add i) with
   |none=>simp[U] at h
   |some v=>
     cases ab:bR w A (i+1) n with
     |none=>simp[U,ab] at h
     |some us=>
       simp only[U,ab,Option.some.injEq] at h
       subst h
       simp only[loadCellsFrom,Sem.run_bind,Aa U,Result.andThen]
       rw[run_loadCellsFrom n (i+1) (acc.push v) us ab]
       simp
theorem yP {T:TypeId} {d:TypeDesc} (aQ:P.underlying T=some d) (ax:g4 d=true) {A:Addr} {vs:List Value} (h:bR w A 0 (P.cellsOf T)=some vs):
   (loadVar T A).run P w= .ok (.agg vs.toArray) w:=by
 simp only[loadVar,Sem.run_bind,tf aQ,Result.andThen,ax,if_true,ix aQ,loadCells,run_loadCellsFrom _ _ _ _ h]
 simp
theorem HB {T:TypeId} {d:TypeDesc} (aQ:P.underlying T=some d) (ax:g4 d=false) {A:Addr} {v:Value} (h:w.cell? A=some v):
   (loadVar T A).run P w= .ok v w:=by
 simp only[loadVar,Sem.run_bind,tf aQ,Result.andThen,ax,gJ,if_false,Aa h]
theorem RQ {A:Addr} {v u:Value} (al:Plain v) (h:w.cell? A=some u) (aI:w.frozen? A=false):(store A v).run P w= .ok () (w.setCell A v):=by
 cases v<;>simp_all [store,Sem.run,Plain]
theorem RR (w:World) (A B:Addr) (v:Value):((w.setCell A v).cell? B).isSome=(w.cell? B).isSome:=by
 simp only[World.setCell,World.cell?,w4]
 by_cases ad:A.block=B.block
 · simp only[ad,if_true]
   cases w.heap[B.block]? with
   |none=>rfl
   |some o=>
     cases o<;>simp
     by_cases ao:B.spot.isSome<;>simp[ao]
     by_cases lj:A.spot.isSome<;>simp[lj]
     rw[fU];simp
 · simp[ad]
theorem RS (w:World) (A B:Addr) (v:Value):(w.setCell A v).frozen? B=w.frozen? B:=by
 simp only[World.setCell,World.frozen?,w4]
 by_cases ad:A.block=B.block
 · simp only[ad,if_true]
   cases w.heap[B.block]? with
   |none=>rfl
   |some o=>cases o<;>rfl
 · simp[ad]
theorem ur {A:Addr}:∀ (vs:List Value) (i:Nat) (w:World),(∀j,j<vs.length→(w.cell? (A.add (i+j))).isSome=true∧w.frozen? (A.add (i+j))=false)→(∀v∈vs,Plain v)→
   (storeCells A vs i).run P w= .ok () (setCells w A i vs)
 | [],i,w,_,_=>rfl
 |v::vs,i,w,h,aU=>by
   have bA:=h 0 (by simp)
   simp only[Nat.add_zero] at bA
   obtain ⟨u,hu⟩:=w2.1 bA.1
   simp only[storeCells,Sem.run_bind,RQ (P:=P) (aU v (by simp)) hu bA.2,Result.andThen,setCells]
   refine ur vs (i+1) (w.setCell (A.add i) v) (fun j bb=> ?_) (fun x af=>aU x (by simp[af]))
   have:=h (j+1) (by simp;omega)
   rw[RR,RS,show i+1+j=i+(j+1) by omega]
   exact this
theorem HC {T:TypeId} {d:TypeDesc} (aQ:P.underlying T=some d) {A:Addr} {v:Value} (ao:v.cells.size=P.cellsOf T) (h:cd w A v.cells.toList):
   (storeVar T A v).run P w= .ok () (setCells w A 0 v.cells.toList):=by
 simp only[storeVar,Sem.run_bind,ix aQ,Result.andThen,ao,ne_eq,not_true,if_false]
 simpa using ur v.cells.toList 0 w (by simpa using h.1) h.2
end
def Cb:List cu→Addr→Nat→World→(List Value→Prop)→Prop
 | [],_,_,_,K=>K []
 |l::ls,A,i,w,K=>rA l fun v=>w.cell? (A.add i)=some v∧Cb ls A (i+1) w fun vs=>K (v::vs)
def tg (P:Program) (aO:TypeId→ez) (T:TypeId) (A:Addr) (w:World) (K:Value→Prop):Prop:=
 match P.underlying T with
 |none=>False
 |some d=>
   bif g4 d then
     match aO T with
     | .one (.flat ls)=>bif Nat.beq (P.cellsOf T) ls.length then Cb ls A 0 w fun vs=>K (.agg vs.toArray) else False
     |_=>∃cs:List Value,bR w A 0 (P.cellsOf T)=some cs∧K (.agg cs.toArray)
   else
     match aO T with
     | .one (.one l)=>rA l fun v=>w.cell? A=some v∧K v
     |_=>False
def Cc (P:Program) (aO:TypeId→ez) (T:TypeId) (A:Addr) (x:Value) (w:World) (K:World→Prop):Prop:=
 match P.underlying T with
 |none=>False
 |some d=>
   bif g4 d then
     match x with
     | .agg cs=>cd w A cs.toList∧cs.size=P.cellsOf T∧K (setCells w A 0 cs.toList)
     |_=>False
   else bif Nat.beq (P.cellsOf T) 1 then
     match aO T with
     | .one (.one .any)=>Plain x∧(∃u,w.cell? A=some u)∧w.frozen? A=false∧K (w.setCell A x)
     |_=>match x with
       | .agg _=>False
       | .tuple _=>False
       |_=>(∃u,w.cell? A=some u)∧w.frozen? A=false∧K (w.setCell A x)
   else False
def p2 (P:Program) (T:TypeId) (xs ys:Array Value) (b:Bool):Prop:=
 P.eqGuardType P.depth T=false∧∀w,(Op.equal T (.agg xs) (.agg ys)).run P w= .ok b w
def rC:Value→Option Bool
 | .nilIface=>some true
 | .iface _ _=>some false
 |_=>none
def rD:Option TypeDesc→Bool
 |some (.interface _)=>true
 |_=>false
def ot:Option TypeDesc→Bool
 |some (.pointer _)=>true
 |_=>false
def p5:Option TypeDesc→Bool
 |some (.slice _)=>true
 |_=>false
def th:Option TypeDesc→Bool
 |some (.map _ _)=>true
 |_=>false
def ko:IntKind→IntKind→Bool:=fun a b=>decide (a=b)
def yQ (P:Program) (op:BinOp) (T:TypeId) (x y:Value) (K:Value→Prop) (G:Prop):Prop:=
 match y with
 | .nilIface=>bif rD (P.underlying T) then
     match op with
     | .eql=>∃b,rC x=some b∧K (.bool b)
     | .neq=>∃b,rC x=some b∧K (.bool (!b))
     |_=>False
   else False
 | .pointer none=>bif ot (P.underlying T) then
     match op,x with
     | .eql, .pointer p=>K (.bool p.isNone)
     | .neq, .pointer p=>K (.bool (!p.isNone))
     |_,_=>False
   else False
 | .slice none _ _=>bif p5 (P.underlying T) then
     match op,x with
     | .eql, .slice a _ _=>K (.bool a.isNone)
     | .neq, .slice a _ _=>K (.bool (!a.isNone))
     |_,_=>False
   else False
 | .map none=>bif th (P.underlying T) then
     match op,x with
     | .eql, .map r=>K (.bool r.isNone)
     | .neq, .map r=>K (.bool (!r.isNone))
     |_,_=>False
   else False
 | .agg ys=>
     match op,x with
     | .eql, .agg xs=>∃b,p2 P T xs ys b∧K (.bool b)
     | .neq, .agg xs=>∃b,p2 P T xs ys b∧K (.bool (!b))
     |_,_=>False
 | .int ga b=>
     match op,x with
     | .quo, .int k a=>bif ko k ga then b≠0∧K (.int k (k.wrap (a.tdiv b))) else False
     | .rem, .int k a=>bif ko k ga then b≠0∧K (.int k (a.tmod b)) else False
     | .shl, .int k a=>0≤b∧K (.int k (k.wrap (a*2^(min b.toNat k.bits))))
     | .shr, .int k a=>0≤b∧K (.int k (a.fdiv (2^(min b.toNat k.bits))))
     |_,_=>G
 | .bool b=>match P.underlying T with
     |some .bool=>match op,x with
       | .eql, .bool a=>K (.bool (a==b))
       | .neq, .bool a=>K (.bool (!(a==b)))
       |_,_=>False
     |_=>False
 | .string b=>
     match op,x with
     | .add, .string a=>((a.size+b.size:Nat):Int)≤9223372036854775807∧K (.string (a++b))
     |_,_=>G
 |_=>G
section
variable {P:Program}
theorem ti (T:TypeId) (x y:Value):Op.equal T x y=Op.equalIn (9999+1) T x y:=rfl
theorem RT (d:Nat) {T:TypeId} {x:Value} {b:Bool} (aQ:rD (P.underlying T)=true) (h:rC x=some b) (w:World):
   (Op.equalIn (d+1) T x .nilIface).run P w= .ok b w:=by
 cases hu:P.underlying T with
 |none=>simp[hu,rD] at aQ
 |some d=>
   cases d<;>simp only[hu,rD,gJ] at aQ
   simp only[Op.equalIn,Sem.run_bind,ck hu,Result.andThen]
   cases x<;>simp only[rC,reduceCtorEq,Option.some.injEq] at h<;>subst h<;>rfl
theorem RU (d:Nat) {T:TypeId} {p:Option Addr} (aQ:ot (P.underlying T)=true) (w:World):
   (Op.equalIn (d+1) T (.pointer p) (.pointer none)).run P w= .ok p.isNone w:=by
 cases hu:P.underlying T with
 |none=>simp[hu,ot] at aQ
 |some d=>
   cases d<;>simp only[hu,ot,gJ] at aQ
   simp only[Op.equalIn,Sem.run_bind,ck hu,Result.andThen]
   cases p<;>rfl
theorem RV (d:Nat) {T:TypeId} {a:Option Addr} {l c Cd py:Nat} (aQ:p5 (P.underlying T)=true) (w:World):
   (Op.equalIn (d+1) T (.slice a l c) (.slice none Cd py)).run P w= .ok a.isNone w:=by
 cases hu:P.underlying T with
 |none=>simp[hu,p5] at aQ
 |some d=>
   cases d<;>simp only[hu,p5,gJ] at aQ
   simp only[Op.equalIn,Sem.run_bind,ck hu,Result.andThen]
   cases a<;>rfl
theorem RW (d:Nat) {T:TypeId} {r:Option Nat} (aQ:th (P.underlying T)=true) (w:World):
   (Op.equalIn (d+1) T (.map r) (.map none)).run P w= .ok r.isNone w:=by
 cases hu:P.underlying T with
 |none=>simp[hu,th] at aQ
 |some d=>
   cases d<;>simp only[hu,th,gJ] at aQ
   simp only[Op.equalIn,Sem.run_bind,ck hu,Result.andThen]
   cases r<;>rfl
theorem HD {T:TypeId} {x:Value} {b:Bool} (aQ:rD (P.underlying T)=true) (h:rC x=some b) (w:World):
   (Op.equal T x .nilIface).run P w= .ok b w:=by rw[ti];exact RT _ aQ h w
theorem yR {T:TypeId} {p:Option Addr} (aQ:ot (P.underlying T)=true) (w:World):
   (Op.equal T (.pointer p) (.pointer none)).run P w= .ok p.isNone w:=by rw[ti];exact RU _ aQ w
theorem yS {T:TypeId} {a:Option Addr} {l c Cd py:Nat} (aQ:p5 (P.underlying T)=true) (w:World):
   (Op.equal T (.slice a l c) (.slice none Cd py)).run P w= .ok a.isNone w:=by rw[ti];exact RV _ aQ w
theorem HE {T:TypeId} {r:Option Nat} (aQ:th (P.underlying T)=true) (w:World):
   (Op.equal T (.map r) (.map none)).run P w= .ok r.isNone w:=by rw[ti];exact RW _ aQ w
theorem HF {T:TypeId} {xs ys:Array Value} (h:P.eqGuardType P.depth T=false) (op:BinOp) (x y:Operand) (w:World):
   (eqGuard op T x y (.agg xs) (.agg ys)).run P w= .ok () w:=by
 cases op<;>simp[eqGuard,program,Sem.run,bind,Sem.bind,h,pure]
theorem HG {T:TypeId} {a b:Bool} (aQ:P.underlying T=some .bool) (w:World):(Op.equal T (.bool a) (.bool b)).run P w= .ok (a==b) w:=by
 have aT:∀ (d:Nat) (w:World),(Op.equalIn (d+1) T (.bool a) (.bool b)).run P w= .ok (a==b) w:=by
   intro d w
   simp[Op.equalIn,ck aQ]
 rw[ti];exact aT _ w
theorem HH {op:BinOp} {T:TypeId} {x y:Value} {vL tj:Operand} {K:Value→Prop} {G:Prop}
   (aZ:y= .nilIface→∃c,tj= .const c)
   (h:yQ P op T x y K G):
   G∨∃v,(∀w,(do eqGuard op T vL tj x y;binOp op T x y:Sem Value).run P w= .ok v w)∧K v:=by
 unfold yQ at h
 split at h
 case h_1=>
   obtain ⟨c,ai⟩:=aZ rfl
   by_cases aQ:rD (P.underlying T)=true
   · rw[aQ] at h
     simp only[cond_true] at h
     split at h
     · obtain ⟨b,ad,aJ⟩:=h
       refine .inr ⟨_,fun w=> ?_,aJ⟩
       have:=HD (P:=P) aQ ad w
       cases x<;>simp only[rC,reduceCtorEq,Option.some.injEq] at ad<;>subst ai ad<;>simp[eqGuard,binOp,this]
     · obtain ⟨b,ad,aJ⟩:=h
       refine .inr ⟨_,fun w=> ?_,aJ⟩
       have:=HD (P:=P) aQ ad w
       cases x<;>simp only[rC,reduceCtorEq,Option.some.injEq] at ad<;>subst ai ad<;>simp[eqGuard,binOp,this]
     · exact h.elim
   · simp only[eM] at aQ;rw[aQ] at h;exact h.elim
 case h_2=>
   by_cases aQ:ot (P.underlying T)=true
   · rw[aQ] at h
     simp only[cond_true] at h
     split at h
     · exact .inr ⟨_,fun w=>by simp[eqGuard,binOp,yR (P:=P) aQ],h⟩
     · exact .inr ⟨_,fun w=>by simp[eqGuard,binOp,yR (P:=P) aQ],h⟩
     · exact h.elim
   · simp only[eM] at aQ;rw[aQ] at h;exact h.elim
 case h_3=>
   by_cases aQ:p5 (P.underlying T)=true
   · rw[aQ] at h
     simp only[cond_true] at h
     split at h
     · exact .inr ⟨_,fun w=>by simp[eqGuard,binOp,yS (P:=P) aQ],h⟩
     · exact .inr ⟨_,fun w=>by simp[eqGuard,binOp,yS (P:=P) aQ],h⟩
     · exact h.elim
   · simp only[eM] at aQ;rw[aQ] at h;exact h.elim
 case h_4=>
   by_cases aQ:th (P.underlying T)=true
   · rw[aQ] at h
     simp only[cond_true] at h
     split at h
     · exact .inr ⟨_,fun w=>by simp[eqGuard,binOp,HE (P:=P) aQ],h⟩
     · exact .inr ⟨_,fun w=>by simp[eqGuard,binOp,HE (P:=P) aQ],h⟩
     · exact h.elim
   · simp only[eM] at aQ;rw[aQ] at h;exact h.elim
 case h_5=>
   split at h
   · obtain ⟨b,⟨U,ab⟩,aJ⟩:=h
     exact .inr ⟨_,fun w=>by simp[HF U,binOp,ab],aJ⟩
   · obtain ⟨b,⟨U,ab⟩,aJ⟩:=h
     exact .inr ⟨_,fun w=>by simp[HF U,binOp,ab],aJ⟩
   · exact h.elim
 case h_6 ga b=>
   split at h
   · rename_i k a
     by_cases aa:k=ga
     · subst aa
       simp only[ko,decide_true,cond_true] at h
       exact .inr ⟨_,fun w=>by simp[eqGuard,binOp,Op.intDiv,h.1],h.2⟩
     · simp[ko,aa] at h
   · rename_i k a
     by_cases aa:k=ga
     · subst aa
       simp only[ko,decide_true,cond_true] at h
       exact .inr ⟨_,fun w=>by simp[eqGuard,binOp,Op.intDiv,h.1],h.2⟩
     · simp[ko,aa] at h
   · exact .inr ⟨_,fun w=>by simp[eqGuard,binOp,Op.shift,show¬b<0 by omega],h.2⟩
   · exact .inr ⟨_,fun w=>by simp[eqGuard,binOp,Op.shift,show¬b<0 by omega],h.2⟩
   · exact .inl h
 case h_7 b=>
   split at h
   · rename_i aQ
     split at h
     · exact .inr ⟨_,fun w=>by simp[eqGuard,binOp,HG aQ],h⟩
     · exact .inr ⟨_,fun w=>by simp[eqGuard,binOp,HG aQ],h⟩
     · exact h.elim
   · exact h.elim
 case h_8 b=>
   split at h
   · rename_i a
     refine .inr ⟨_,fun w=> ?_,h.2⟩
     have U:=h.1
     simp[eqGuard,binOp,Op.stringOp,IntKind.max,IntKind.signed,IntKind.bits]
     omega
   · exact .inl h
 case h_9=>exact .inl h
end
def yT (P:Program) (T:TypeId) (x:Value) (K:Value→Prop):Prop:=
 match P.underlying T with
 |some (.array n _)=>match x with
   | .slice a len _=>n≤len∧∃A,a=some A∧K (.pointer (some A))
   |_=>False
 |_=>False
def yU (P:Program) (T:TypeId) (x i:Value) (K:Value→Prop):Prop:=
 match i with
 | .int _ n=>
   match P.underlying T with
   |some (.slice elem)=>bif (P.underlying elem).isSome then
       match x with
       | .slice a len _=>∃A,a=some A∧(0≤n∧n<(len:Int))∧K (.pointer (some (A.add (n.toNat*P.cellsOf elem))))
       |_=>False
     else False
   |some (.array len elem)=>bif (P.underlying elem).isSome then
       match x with
       | .pointer (some A)=>(0≤n∧n<(len:Int))∧K (.pointer (some (A.add (n.toNat*P.cellsOf elem))))
       |_=>False
     else False
   |_=>False
 |_=>False
def vM (P:Program) (aO:TypeId→ez) (T:TypeId) (cs:Array Value) (off:Nat) (K:Value→Prop):Prop:=
 match P.underlying T with
 |none=>False
 |some d=>
   bif g4 d then K (.agg (cs.extract off (off+P.cellsOf T)))
   else match aO T with
     | .one (.one l)=>rA l fun v=>cs[off]? =some v∧K v
     |_=>False
def yV (P:Program) (aO:TypeId→ez) (T:TypeId) (x i:Value) (K:Value→Prop):Prop:=
 match i with
 | .int _ n=>
   match P.underlying T with
   |some (.array len elem)=>match x with
       | .agg cs=>(0≤n∧n<(len:Int))∧vM P aO elem cs (n.toNat*P.cellsOf elem) K
       |_=>False
   |some .string=>match x with
       | .string s=>0≤n∧∃b:UInt8,s.data.toList[n.toNat]? =some b∧K (.int .u8 b.toNat)
       |_=>False
   |_=>False
 |_=>False
def yW (P:Program) (aO:TypeId→ez) (T:TypeId) (x:Value) (i:Nat) (K:Value→Prop):Prop:=
 match P.underlying T with
 |some (.struct fs)=>match fs[i]? with
   |some f=>match x with
     | .agg cs=>vM P aO f.type cs f.offset K
     |_=>False
   |none=>False
 |_=>False
def l1 (v:Option Value) (y d:Nat) (K:Nat→Prop):Prop:=
 match v with
 |none=>K d
 |some (.int _ i)=>(0≤i∧i≤(y:Int))∧K i.toNat
 |_=>False
def b7 (a:Option Addr) (sz l m:Nat):Option Addr:=if m=l then a else a.map (·.add (l*sz))
def yX (P:Program) (T:TypeId) (x:Value) (lo hi kW:Option Value) (K:Value→Prop):Prop:=
 match P.underlying T with
 |some .string=>match kW,x with
   |none, .string s=>l1 hi s.size s.size fun h=>l1 lo h 0 fun l=>K (.string (s.extract l h))
   |_,_=>False
 |some (.slice elem)=>bif (P.underlying elem).isSome then
     match x with
     | .slice a len cap=>match kW with
       |none=>l1 hi cap len fun h=>l1 lo h 0 fun l=>K (.slice (b7 a (P.cellsOf elem) l cap) (h-l) (cap-l))
       |some RX=>match hi with
         |none=>False
         |some hD=>l1 (some RX) cap 0 fun m=>l1 (some hD) m 0 fun h=>l1 lo h 0 fun l=>K (.slice (b7 a (P.cellsOf elem) l m) (h-l) (m-l))
     |_=>False
   else False
 |some (.array n elem)=>bif (P.underlying elem).isSome then
     match kW,x with
     |none, .pointer (some A)=>l1 hi n n fun h=>l1 lo h 0 fun l=>K (.slice (b7 (some A) (P.cellsOf elem) l n) (h-l) (n-l))
     |_,_=>False
   else False
 |_=>False
def Ce (P:Program) (T:TypeId) (l c:Value) (w:World) (K:Value→World→Prop):Prop:=
 match P.underlying T with
 |some (.slice elem)=>bif (P.underlying elem).isSome then
     bif ((P.info? elem).bind (·.zero)).isSome then
     match l,c with
     | .int _ n, .int _ m=>(0≤n∧n≤m∧m≤9223372036854775807∧(P.bytesOf elem:Int)*m≤140737488355328)∧
         K (.slice (some ⟨w.heap.size,0,none⟩) n.toNat m.toNat) {w with heap:=w.heap.push (.cells (gy P elem m.toNat) elem)}
     |_,_=>False
     else False
   else False
 |_=>False
section
variable {P:Program} {w:World}
theorem lT (o:Option TypeDesc) (h:o.isSome=true):∃d,o=some d:=w2.1 h
theorem HI {T:TypeId} {x:Value} {K:Value→Prop} (h:yT P T x K):∃v,(∀w,(Instr.arrayAt T x).run P w= .ok v w)∧K v:=by
 unfold yT at h
 split at h
 · rename_i n e aQ
   split at h
   · rename_i a len cap
     obtain ⟨U,A,rfl,aJ⟩:=h
     exact ⟨_,fun w=>by simp[Instr.arrayAt,ck aQ,Nat.not_lt.2 U],aJ⟩
   · exact h.elim
 · exact h.elim
theorem HJ {T:TypeId} {x i:Value} {K:Value→Prop} (h:yU P T x i K):∃v,(∀w,(Instr.indexAt T x i).run P w= .ok v w)∧K v:=by
 unfold yU at h
 split at h
 · rename_i k n
   split at h
   · rename_i elem aQ
     by_cases he:(P.underlying elem).isSome=true
     · rw[he] at h
       simp only[cond_true] at h
       split at h
       · obtain ⟨A,rfl,ad,aJ⟩:=h
         obtain ⟨d,ax⟩:=lT _ he
         exact ⟨_,fun w=>by simp[Instr.indexAt,asIntOf,ck aQ,ad,ix ax],aJ⟩
       · exact h.elim
     · simp only[eM] at he;rw[he] at h;exact h.elim
   · rename_i len elem aQ
     by_cases he:(P.underlying elem).isSome=true
     · rw[he] at h
       simp only[cond_true] at h
       split at h
       · obtain ⟨ad,aJ⟩:=h
         obtain ⟨d,ax⟩:=lT _ he
         exact ⟨_,fun w=>by simp[Instr.indexAt,asIntOf,Instr.sureAddr,ck aQ,ad,ix ax],aJ⟩
       · exact h.elim
     · simp only[eM] at he;rw[he] at h;exact h.elim
   · exact h.elim
 · exact h.elim
theorem HK {aO:TypeId→ez} {T:TypeId} {cs:Array Value} {off:Nat} {K:Value→Prop} (h:vM P aO T cs off K):∃v,(∀w,(part T cs off).run P w= .ok v w)∧K v:=by
 unfold vM at h
 split at h
 · exact h.elim
 · rename_i d aQ
   cases ax:g4 d with
   |true=>
     rw[ax] at h
     exact ⟨_,fun w=>by simp[part,tf aQ,ax,ix aQ],h⟩
   |false=>
     rw[ax] at h
     simp only[cond_false] at h
     split at h
     · obtain ⟨v,al,aJ⟩:=te h
       exact ⟨v,fun w=>by simp[part,tf aQ,ax,al],aJ⟩
     · exact h.elim
theorem HL {aO:TypeId→ez} {T:TypeId} {x i:Value} {K:Value→Prop} (h:yV P aO T x i K):∃v,(∀w,(Instr.index T x i).run P w= .ok v w)∧K v:=by
 unfold yV at h
 split at h
 · rename_i k n
   split at h
   · rename_i len elem aQ
     split at h
     · obtain ⟨ad,h⟩:=h
       obtain ⟨v,al,aJ⟩:=HK h
       refine ⟨v,fun w=> ?_,aJ⟩
       have ao:(Go.sizeOf elem).run P w= .ok (P.cellsOf elem) w:=by
         unfold vM at h
         cases he:P.underlying elem with
         |none=>simp[he] at h
         |some d=>exact ix he
       simp[Instr.index,asIntOf,ck aQ,ad,ao,al]
     · exact h.elim
   · rename_i aQ
     split at h
     · rename_i s
       obtain ⟨ad,b,ao,aJ⟩:=h
       have iF:s[n.toNat]? =some b:=by
         obtain ⟨U,ab⟩:=tZ.1 ao
         have aw:n.toNat<s.size:=by simpa using U
         rw[getElem?_pos s n.toNat aw]
         simp only[Option.some.injEq]
         rw[←ab]
         rfl
       exact ⟨_,fun w=>by simp[Instr.index,asIntOf,ck aQ,ad,iF],aJ⟩
     · exact h.elim
   · exact h.elim
 · exact h.elim
theorem HM {aO:TypeId→ez} {T:TypeId} {x:Value} {i:Nat} {K:Value→Prop} (h:yW P aO T x i K):∃v,(∀w,(Instr.field T x i).run P w= .ok v w)∧K v:=by
 unfold yW at h
 split at h
 · rename_i fs aQ
   split at h
   · rename_i f aI
     split at h
     · obtain ⟨v,al,aJ⟩:=HK h
       exact ⟨v,fun w=>by simp[Instr.field,ck aQ,aI,asAgg,al],aJ⟩
     · exact h.elim
   · exact h.elim
 · exact h.elim
theorem kX {v:Option Value} {y d:Nat} {c:BoundsCode} {K:Nat→Prop} (h:l1 v y d K):
   (v=none∧K d)∨∃u n,v=some u∧(∀w,(Instr.sliceBound u y c).run P w= .ok n w)∧K n:=by
 unfold l1 at h
 split at h
 · exact .inl ⟨rfl,h⟩
 · exact .inr ⟨_,_,rfl,fun w=>by simp[Instr.sliceBound,asIntOf,h.1],h.2⟩
 · exact h.elim
theorem HN {T:TypeId} {x:Value} {lo hi kW:Option Value} {K:Value→Prop} (h:yX P T x lo hi kW K):
   ∃v,(∀w,(Instr.sliceAt T x lo hi kW).run P w= .ok v w)∧K v:=by
 unfold yX at h
 split at h
 · rename_i aQ
   split at h
   · rename_i s
     rcases kX (P:=P) (c:= .sliceAlen) h with ⟨aT,U⟩|⟨u,n,aT,aC,U⟩
     · rcases kX (P:=P) (c:= .sliceB) U with ⟨a8,ab⟩|⟨tl,cH,a8,ff,ab⟩
       · exact ⟨_,fun w=>by simp[Instr.sliceAt,Instr.slice,ck aQ,Instr.sliceBounds,aT,a8],ab⟩
       · exact ⟨_,fun w=>by simp[Instr.sliceAt,Instr.slice,ck aQ,Instr.sliceBounds,aT,a8,ff],ab⟩
     · rcases kX (P:=P) (c:= .sliceB) U with ⟨a8,ab⟩|⟨tl,cH,a8,ff,ab⟩
       · exact ⟨_,fun w=>by simp[Instr.sliceAt,Instr.slice,ck aQ,Instr.sliceBounds,aT,a8,aC],ab⟩
       · exact ⟨_,fun w=>by simp[Instr.sliceAt,Instr.slice,ck aQ,Instr.sliceBounds,aT,a8,aC,ff],ab⟩
   · exact h.elim
 · rename_i elem aQ
   by_cases he:(P.underlying elem).isSome=true
   · rw[he] at h
     simp only[cond_true] at h
     obtain ⟨d,ax⟩:=lT _ he
     have dt:=fun w:World=>ix (w:=w) ax
     split at h
     · rename_i a len cap
       split at h
       · rcases kX (P:=P) (c:= .sliceAcap) h with ⟨aT,U⟩|⟨u,n,aT,aC,U⟩
         · rcases kX (P:=P) (c:= .sliceB) U with ⟨a8,ab⟩|⟨tl,cH,a8,ff,ab⟩
           · exact ⟨_,fun w=>by simp[Instr.sliceAt,Instr.slice,ck aQ,Instr.sliceBounds,dt,b7,aT,a8],ab⟩
           · exact ⟨_,fun w=>by simp[Instr.sliceAt,Instr.slice,ck aQ,Instr.sliceBounds,ff,dt,b7,aT,a8],ab⟩
         · rcases kX (P:=P) (c:= .sliceB) U with ⟨a8,ab⟩|⟨tl,cH,a8,ff,ab⟩
           · exact ⟨_,fun w=>by simp[Instr.sliceAt,Instr.slice,ck aQ,Instr.sliceBounds,aC,dt,b7,aT,a8],ab⟩
           · exact ⟨_,fun w=>by simp[Instr.sliceAt,Instr.slice,ck aQ,Instr.sliceBounds,aC,ff,dt,b7,aT,a8],ab⟩
       · split at h
         · exact h.elim
         · rcases kX (P:=P) (c:= .slice3Acap) h with ⟨kD,U⟩|⟨u,n,kD,aC,U⟩
           · cases kD
           · cases kD
             rcases kX (P:=P) (c:= .slice3B) U with ⟨kD,ab⟩|⟨Vj,dM,kD,o5,ab⟩
             · cases kD
             · cases kD
               rcases kX (P:=P) (c:= .slice3C) ab with ⟨a8,aw⟩|⟨tl,cH,a8,ff,aw⟩
               · exact ⟨_,fun w=>by simp[Instr.sliceAt,Instr.slice,ck aQ,Instr.sliceBounds,aC,o5,dt,b7,a8],aw⟩
               · exact ⟨_,fun w=>by simp[Instr.sliceAt,Instr.slice,ck aQ,Instr.sliceBounds,aC,o5,ff,dt,b7,a8],aw⟩
     · exact h.elim
   · simp only[eM] at he;rw[he] at h;exact h.elim
 · rename_i n elem aQ
   by_cases he:(P.underlying elem).isSome=true
   · rw[he] at h
     simp only[cond_true] at h
     obtain ⟨d,ax⟩:=lT _ he
     have dt:=fun w:World=>ix (w:=w) ax
     split at h
     · rename_i A
       rcases kX (P:=P) (c:= .sliceAlen) h with ⟨aT,U⟩|⟨u,dM,aT,aC,U⟩
       · rcases kX (P:=P) (c:= .sliceB) U with ⟨a8,ab⟩|⟨tl,cH,a8,ff,ab⟩
         · refine ⟨_,fun w=> ?_,ab⟩
           simp[Instr.sliceAt,ck aQ,Instr.sureAddr,Instr.sliceBounds,dt,b7,aT,a8];try (split<;>rfl)
         · refine ⟨_,fun w=> ?_,ab⟩
           simp[Instr.sliceAt,ck aQ,Instr.sureAddr,Instr.sliceBounds,ff,dt,b7,aT,a8];try (split<;>rfl)
       · rcases kX (P:=P) (c:= .sliceB) U with ⟨a8,ab⟩|⟨tl,cH,a8,ff,ab⟩
         · refine ⟨_,fun w=> ?_,ab⟩
           simp[Instr.sliceAt,ck aQ,Instr.sureAddr,Instr.sliceBounds,aC,dt,b7,aT,a8];try (split<;>rfl)
         · refine ⟨_,fun w=> ?_,ab⟩
           simp[Instr.sliceAt,ck aQ,Instr.sureAddr,Instr.sliceBounds,aC,ff,dt,b7,aT,a8];try (split<;>rfl)
     · exact h.elim
   · simp only[eM] at he;rw[he] at h;exact h.elim
 · exact h.elim
theorem Cf {n:Int} (bA:0≤n) (U:n≤9223372036854775807):IntKind.i64.wrap n=n:=by
 have e:n%18446744073709551616=n:=Int.emod_eq_of_lt bA (by omega)
 simp[IntKind.wrap,IntKind.signed,IntKind.bits,e]
 omega
theorem RY {T:TypeId} {l c:Value} {K:Value→World→Prop} (h:Ce P T l c w K):
   ∃v J,(Instr.makeSlice T l c).run P w= .ok v J∧K v J:=by
 unfold Ce at h
 split at h
 · rename_i elem aQ
   by_cases he:(P.underlying elem).isSome=true
   · rw[he] at h
     simp only[cond_true] at h
     by_cases bI:((P.info? elem).bind (·.zero)).isSome=true
     · rw[bI] at h
       simp only[cond_true] at h
       split at h
       · rename_i k n ga m
         obtain ⟨⟨bA,U,ab,aw⟩,aJ⟩:=h
         obtain ⟨d,ax⟩:=lT _ he
         obtain ⟨i,hi⟩:=info_of_underlying ax
         obtain ⟨z,yY⟩:=w2.1 bI
         simp only[hi,Option.bind_some] at yY
         have ad:P.bytesOf elem=i.bytes:=by simp[Program.bytesOf,hi]
         have ai:P.cellsOf elem=i.size:=by simp[Program.cellsOf,hi]
         rw[ad] at aw
         have aT:=Cf bA (by omega)
         have a8:=Cf (n:=m) (by omega) ab
         refine ⟨_,_,?_,aJ⟩
         have ay:¬(m<0):=by omega
         have gU:¬(281474976710656<(i.bytes:Int)*m):=by omega
         simp[Instr.makeSlice,ck aQ,asInt,asIntOf,qZ hi,aT,a8,ay,gU,ix ax,show¬n<0 by omega,show¬m<n by omega]
         by_cases ao:m.toNat*P.cellsOf elem=0
         · simp[ao,newRow,newObj,Sem.run,gy]
         · simp[zeroValue,qZ hi,yY,newRow,newObj,Sem.run,gy,ao,hi]
       · exact h.elim
     · simp only[eM] at bI;rw[bI] at h;exact h.elim
   · simp only[eM] at he;rw[he] at h;exact h.elim
 · exact h.elim
end
def aG (w:World) (K:World→Prop):Prop:=K w
def cellAt (cs:Array Value) (n:Nat):Option Value:=cs[n]?
def j5 (k:IntKind) (a b:Int):Int:=k.wrap ((BitVec.ofInt k.bits a&&&BitVec.ofInt k.bits b).toNat:Int)
def sh (k:IntKind) (a b:Int):Int:=k.wrap ((BitVec.ofInt k.bits a|||BitVec.ofInt k.bits b).toNat:Int)
def qC (k:IntKind) (a b:Int):Int:=k.wrap ((BitVec.ofInt k.bits a^^^BitVec.ofInt k.bits b).toNat:Int)
def vN (P:Program) (o:Oper) (K:Value→World→Prop) (e:Env) (w:World):Prop:=
 bif known e o.op.operands then
   match (execOp (ro e) o).run P w with
   | .ok (.value v) J=>aG J fun ae=>K v ae
   |_=>False
 else False
def HO (P:Program) (aO:TypeId→ez) (T:TypeId):ez:=
 match P.underlying T with
 |some (.slice e)=>aO e
 |_=> .one (.one .agg)
def cu.RZ:cu→Bool
 | .slice=>true
 |_=>false
def HP:ez→Bool
 | .one (.one .agg)=>true
 | .one (.flat ls)=>ls.any cu.RZ
 |_=>false
def gen (P:Program) (aO:TypeId→ez) (o:Oper) (K:Value→World→Prop) (e:Env) (w:World):Prop:=
 bif known e o.op.operands then
   match (execOp (ro e) o).run P w with
   | .ok (.value v) J=>K v J
   | .ok .skip J=>K undef J
   | .ok (.enter f args) J=>Calls P f args J fun p6 fx=>hU (aO o.type) fun v=>p6= .returned v∧K v fx
   |_=>False
 else False
def o1 (P:Program) (f:FuncId):Prop:=∃fn,P.funcs[f]? =some fn∧(fn.name== "runtime.NumGoroutine")=false∧fn.body.isNone=false
theorem R0 {P:Program} {f:FuncId} (h:o1 P f) (args:Array Value) (w:World):(callFunc f args).run P w= .ok (.enter f args) w:=by
 obtain ⟨fn,U,ab,aw⟩:=h
 have ym:¬fn.name= "runtime.NumGoroutine" :=by simpa using ab
 have Cg:¬fn.body=none:=by
   intro h;rw[h] at aw;cases aw
 simp[callFunc,program,Sem.run,bind,Sem.bind,U,ym,Cg,pure]
def Ch:Op→Bool
 | .select _ _=>true
 |_=>false
def HQ (P:Program) (T:TypeId):Operand→Bool
 | .const _=>false
 |_=>rD (P.underlying T)||ot (P.underlying T)
def R1 (P:Program) (op:BinOp) (T:TypeId) (vL tj:Operand) (x y:Value) (b:Bool):Prop:=
 ∀w,Sem.run P (do eqGuard op T vL tj x y;binOp op T x y:Sem Value) w= .ok (.bool b) w
def tm:Operand→Value→Bool
 | .const _,_=>true
 |_, .nilIface=>false
 |_,_=>true
def kp (P:Program) (aO:TypeId→ez) (o:Oper) (K:Value→World→Prop) (e:Env) (w:World):Prop:=
 match o.op with
 | .nilCheck x=>match aP e x with
   |some (.pointer p)=>∃A,p=some A∧K (.pointer (some A)) w
   |_=>False
 | .load T x=>match aP e x with
   |some (.pointer (some A))=>tg P aO T A w fun v=>K v w
   |_=>False
 | .store T x y=>match aP e x,aP e y with
   |some (.pointer (some A)),some v=>Cc P aO T A v w fun J=>aG J fun ae=>K undef ae
   |_,_=>False
 | .binOp op T x y _=>match aP e x,aP e y with
   |some cq,some kY=>bif HQ P T y then (∃b:Bool,R1 P op T x y cq kY b∧K (.bool b) w) else
       bif tm y kY then yQ P op T cq kY (fun v=>K v w) (gen P aO o K e w) else False
   |_,_=>False
 | .indexAddr T x i=>match aP e x,aP e i with
   |some cq,some gH=>yU P T cq gH fun v=>K v w
   |_,_=>False
 | .index T x i=>match aP e x,aP e i with
   |some cq,some gH=>yV P aO T cq gH fun v=>K v w
   |_,_=>False
 | .field T x i=>match aP e x with
   |some cq=>yW P aO T cq i fun v=>K v w
   |_=>False
 | .alloc _=>vN P o K e w
 | .box _ _=>vN P o K e w
 | .buildSlice T n bJ=>bif HP (HO P aO T) then
     (bif known e o.op.operands then
       hU (aO o.type) fun r=>∃ae,(Instr.buildSlice T n (bJ.map fun p=>(p.1,ro e p.2))).run P w= .ok r ae∧K r ae
     else False)
   else vN P o K e w
 | .slice T x lo hi kW=>bif known e o.op.operands then
     yX P T (ro e x) (lo.map (ro e)) (hi.map (ro e)) (kW.map (ro e)) fun v=>K v w
   else False
 | .makeSlice T l c=>match aP e l,aP e c with
   |some HR,some HS=>Ce P T HR HS w fun v J=>aG J fun ae=>K v ae
   |_,_=>False
 | .convert s d x=>match aP e x with
   |some (.int j n)=>bif (P.underlying s).isSome then
       match P.underlying d with
       |some (.int k)=>K (.int k (k.wrap n)) w
       |_=>hU (aO o.type) fun r=>∃ae,(convert s d (.int j n)).run P w= .ok r ae∧K r ae
     else False
   |some v=>hU (aO o.type) fun r=>∃ae,(convert s d v).run P w= .ok r ae∧K r ae
   |none=>False
 | .build t bJ=>match aO t with
   | .one (.flat _)=>gen P aO o K e w
   |_=>bif known e o.op.operands then
       ∃cs:Array Value,(Instr.build t (bJ.map fun p=>(p.1,ro e p.2))).run P w= .ok (.agg cs) w∧K (.agg cs) w
     else False
 | .lookup T m i ok=>match aP e m,aP e i with
   |some l2,some gH=>hU (aO o.type) fun r=>∃ae,(Instr.lookup T l2 gH ok).run P w= .ok r ae∧K r ae
   |_,_=>False
 | .mapUpdate T m i x=>match aP e m,aP e i,aP e x with
   |some l2,some gH,some cq=>∃ae,(Instr.mapUpdate T l2 gH cq).run P w= .ok () ae∧K undef ae
   |_,_,_=>False
 | .makeMap T r=>bif known e o.op.operands then hU (aO o.type) fun v=>∃ae,(Instr.makeMap T (r.map (ro e))).run P w= .ok v ae∧K v ae else False
 | .range T x=>match aP e x with
   |some cq=>∃v ae,(Instr.range T cq).run P w= .ok v ae∧K v ae
   |_=>False
 | .next it tn=>match aP e it with
   |some cq=>(bif tn then ∃ (n:Int) (c:Int) (ae:World),(Instr.next cq tn o.type).run P w= .ok (.tuple #[.bool true, .int .i64 n, .int .i32 c]) ae∧K (.tuple #[.bool true, .int .i64 n, .int .i32 c]) ae
       else ∃ (k:Value) (v:Value) (ae:World),(Instr.next cq tn o.type).run P w= .ok (.tuple #[.bool true,k,v]) ae∧K (.tuple #[.bool true,k,v]) ae)∨
       (∃ae:World,(Instr.next cq tn o.type).run P w= .ok (.tuple #[.bool false]) ae∧K (.tuple #[.bool false]) ae)
   |_=>False
 | .call c=>match c.callee with
   | .value (.tmp k)=>match e.get k with
     |some (.func (.func f) pre cap)=>bif known e o.op.operands then
         o1 P f∧Calls P f (pre++c.args.map (ro e)++cap) w fun p6 ae=>hU (aO o.type) fun v=>p6= .returned v∧K v ae
       else False
     |_=>gen P aO o K e w
   | .builtin .append=>bif known e o.op.operands then hU (aO o.type) fun r=>∃ae,(Builtin.append_ c.argTypes o.type (c.args.map (ro e))).run P w= .ok r ae∧K r ae else False
   | .builtin .copy=>bif known e o.op.operands then hU (aO o.type) fun r=>∃ae,(Builtin.copy_ c.argTypes o.type (c.args.map (ro e))).run P w= .ok r ae∧K r ae else False
   | .builtin .min=>bif known e o.op.operands then hU (aO o.type) fun r=>∃ae,(Builtin.min_ c.argTypes o.type (c.args.map (ro e))).run P w= .ok r ae∧K r ae else False
   | .builtin .max=>bif known e o.op.operands then hU (aO o.type) fun r=>∃ae,(Builtin.max_ c.argTypes o.type (c.args.map (ro e))).run P w= .ok r ae∧K r ae else False
   | .builtin .delete=>bif known e o.op.operands then ∃r ae,(Builtin.delete_ c.argTypes o.type (c.args.map (ro e))).run P w= .ok r ae∧K r ae else False
   | .value (.func f)=>match P.funcs[f]? with
     |some fn=>match fn.body with
       |some _=>gen P aO o K e w
       |none=>bif known e o.op.operands then hU (aO o.type) fun r=>∃ae,(callFunc f (c.args.map (ro e))).run P w= .ok (.value r) ae∧K r ae else False
     |none=>False
   | .builtin .unsafeString=>bif known e o.op.operands then hU (aO o.type) fun r=>∃ae,(Builtin.unsafeString_ c.argTypes o.type (c.args.map (ro e))).run P w= .ok r ae∧K r ae else False
   | .builtin .unsafeSliceData=>bif known e o.op.operands then hU (aO o.type) fun r=>∃ae,(Builtin.unsafeSliceData_ c.argTypes o.type (c.args.map (ro e))).run P w= .ok r ae∧K r ae else False
   | .builtin .clear=>bif known e o.op.operands then ∃r ae,(Builtin.clear_ c.argTypes o.type (c.args.map (ro e))).run P w= .ok r ae∧K r ae else False
   | .builtin .len=>match ((c.args.map (ro e))[0]? :Option Value) with
     |some (Value.map _)=>bif known e o.op.operands then hU (aO o.type) fun r=>∃ae,(Builtin.len_ c.argTypes o.type (c.args.map (ro e))).run P w= .ok r ae∧K r ae else False
     |_=>gen P aO o K e w
   |_=>gen P aO o K e w
 | .sliceToArrayPointer T x=>match aP e x with
   |some cq=>yT P T cq fun v=>K v w
   |_=>False
 | .mapEntry T m i=>match aP e m,aP e i with
   |some l2,some gH=>∃ (v0:Value) (st:Int) (ae:World),(Instr.mapEntry T l2 gH).run P w= .ok (.tuple #[v0, .int .i64 st]) ae∧K (.tuple #[v0, .int .i64 st]) ae
   |_,_=>False
 | .entryStore T m s x=>match aP e m,aP e s,aP e x with
   |some l2,some vs,some cq=>∃ae,(Instr.entryStore T l2 vs cq).run P w= .ok () ae∧K undef ae
   |_,_,_=>False
 | .entry it=>match aP e it with
   |some cq=>hU (aO o.type) fun v=>∃ae,(Instr.entry cq).run P w= .ok v ae∧K v ae
   |_=>False
 | .select _ _=>False
 |_=>gen P aO o K e w
def ou (P:Program) (o:Oper) (a:Act) (w:World) (K:Value→World→Prop):Prop:=
 (∃v J,(execOp a.eval o).run P w= .ok (.value v) J∧K v J)∨
 (∃J,(execOp a.eval o).run P w= .ok .skip J∧K undef J)∨
 (∃f args J,(execOp a.eval o).run P w= .ok (.enter f args) J∧Calls P f args J fun p6 fx=>∃v,p6= .returned v∧K v fx)
theorem ou.wp {P:Program} {o:Oper} {a:Act} {w:World} {K:Value→World→Prop} {next:Act→World→Prop} {Q:Exit→Act→World→Prop}
   (h:ou P o a w K) (ay:∀v J,K v J→next (a.put o.dst v) J):o.wp P a w next Q:=by
 unfold Oper.wp
 rcases h with ⟨v,J,h,aJ⟩|⟨J,h,aJ⟩|⟨f,args,J,h,ai⟩
 · rw[h];exact ay _ _ aJ
 · rw[h];exact ay _ _ aJ
 · rw[h]
   exact ai.mono fun p6 fx ⟨v,al,aJ⟩=>by subst al;exact ay _ _ aJ
section
variable {P:Program} {aO:TypeId→ez} {o:Oper} {K:Value→World→Prop} {e:Env} {a:Act} {w:World}
theorem R2 (an:cR e a) {xs:Array Operand} (h:known e xs=true):∀x∈xs,a.eval x=ro e x:=by
 intro x af
 exact an.ro (uc.1 h x (by simpa using af))
theorem kZ (an:cR e a) (ao:Ch o.op=false) (h:known e o.op.operands=true):execOp a.eval o=execOp (ro e) o:=
 execOp_congr o (fun cs b ai=>by rw[ai] at ao;cases ao) (R2 an h)
theorem rE (an:cR e a) (ao:Ch o.op=false) (h:gen P aO o K e w):ou P o a w K:=by
 unfold gen at h
 by_cases aa:known e o.op.operands=true
 · rw[aa] at h
   simp only[cond_true] at h
   have ai:=kZ an ao aa
   unfold ou
   rw[ai]
   split at h
   · rename_i v J aC
     exact .inl ⟨v,J,aC,h⟩
   · rename_i J aC
     exact .inr (.inl ⟨J,aC,h⟩)
   · rename_i f args J aC
     refine .inr (.inr ⟨f,args,J,aC,h.mono fun p6 fx R3=> ?_⟩)
     exact il R3
   · exact h.elim
 · simp only[eM] at aa
   rw[aa] at h
   exact h.elim
theorem Ci (an:cR e a) (ao:Ch o.op=false) (h:vN P o K e w):ou P o a w K:=by
 unfold vN at h
 by_cases aa:known e o.op.operands=true
 · rw[aa] at h
   simp only[cond_true] at h
   have ai:=kZ an ao aa
   unfold ou
   rw[ai]
   split at h
   · rename_i v J aC
     exact .inl ⟨v,J,aC,h⟩
   · exact h.elim
 · simp only[eM] at aa
   rw[aa] at h
   exact h.elim
theorem Cj:∀ {ls:List cu} {A:Addr} {i:Nat} {K:List Value→Prop},Cb ls A i w K→∃vs,bR w A i ls.length=some vs∧K vs
 | [],_,_,_,h=>⟨[],rfl,h⟩
 |l::ls,A,i,K,h=>by
   obtain ⟨v,al,h⟩:=te h
   obtain ⟨vs,hL,h⟩:=Cj h
   exact ⟨v::vs,by simp[bR,al,hL],h⟩
theorem HT {T:TypeId} {A:Addr} {K:Value→Prop} (h:tg P aO T A w K):∃v,(Instr.loadAt T (.pointer (some A))).run P w= .ok v w∧K v:=by
 have aT:(Instr.loadAt T (.pointer (some A))).run P w=(loadVar T A).run P w:=by simp[Instr.loadAt,Instr.sureAddr]
 rw[aT]
 unfold tg at h
 split at h
 · exact h.elim
 · rename_i d aQ
   cases ax:g4 d with
   |true=>
     rw[ax] at h
     simp only[cond_true] at h
     split at h
     · rename_i ls _
       by_cases ad:Nat.beq (P.cellsOf T) ls.length=true
       · rw[ad] at h
         simp only[cond_true] at h
         obtain ⟨vs,hL,h⟩:=Cj h
         rw[←h3 ad] at hL
         exact ⟨_,yP aQ ax hL,h⟩
       · simp only[eM] at ad;rw[ad] at h;exact h.elim
     · obtain ⟨cs,ai,h⟩:=h
       exact ⟨_,yP aQ ax ai,h⟩
   |false=>
     rw[ax] at h
     simp only[cond_false] at h
     split at h
     · obtain ⟨v,al,h⟩:=te h
       exact ⟨v,HB aQ ax al,h⟩
     · exact h.elim
theorem Ck {v:Value} (h:Plain v):v.cells= #[v]:=by cases v<;>first|rfl|exact h.elim
theorem add_zero' (A:Addr):A.add 0=A:=rfl
theorem R4 {T:TypeId} {A:Addr} {x:Value} {K:World→Prop} (h:Cc P aO T A x w K):
   ∃J,(Instr.storeAt T (.pointer (some A)) x).run P w= .ok () J∧K J:=by
 have aT:(Instr.storeAt T (.pointer (some A)) x).run P w=(storeVar T A x).run P w:=by simp[Instr.storeAt,Instr.sureAddr]
 rw[aT]
 unfold Cc at h
 split at h
 · exact h.elim
 · rename_i d aQ
   cases ax:g4 d with
   |true=>
     rw[ax] at h
     simp only[cond_true] at h
     split at h
     · rename_i cs
       exact ⟨_,HC (v:= .agg cs) aQ h.2.1 h.1,h.2.2⟩
     · exact h.elim
   |false=>
     rw[ax] at h
     simp only[cond_false] at h
     have one:∀ (aU:Plain x) (ad:Nat.beq (P.cellsOf T) 1=true),((∃u,w.cell? A=some u)∧w.frozen? A=false∧K (w.setCell A x))→∃J,(storeVar T A x).run P w= .ok () J∧K J:=by
       intro aU ad ⟨⟨u,hu⟩,aI,aJ⟩
       refine ⟨_,HC (v:=x) aQ ?_ ?_,?_⟩
       · rw[Ck aU,h3 ad];rfl
       · rw[Ck aU]
         refine ⟨fun i hi=> ?_,fun v al=> ?_⟩
         · have:i=0:=by simpa using hi
           subst this
           rw[add_zero',hu]
           exact ⟨rfl,aI⟩
         · have:v=x:=by simpa using al
           subst this;exact aU
       · rw[Ck aU]
         exact aJ
     by_cases ad:Nat.beq (P.cellsOf T) 1=true
     · have iA:=ad
       rw[ad] at h
       simp only[cond_true] at h
       split at h
       · exact one h.1 iA h.2
       · split at h
         · exact h.elim
         · exact h.elim
         · rename_i U ab
           refine one ?_ iA h
           cases x<;>first|exact trivial|(exact absurd rfl (U _))|(exact absurd rfl (ab _))
     · simp only[eM] at ad;rw[ad] at h;exact h.elim
theorem Cl (an:cR e a) (h:kp P aO o K e w):ou P o a w K:=by
 unfold kp at h
 split at h
 case h_1 x aV=>
   split at h
   · rename_i p af
     obtain ⟨A,rfl,aJ⟩:=h
     exact .inl ⟨_,_,by simp[execOp,aV,an.aP af],aJ⟩
   · exact h.elim
 case h_2 T x aV=>
   split at h
   · rename_i A af
     obtain ⟨v,al,aJ⟩:=HT h
     exact .inl ⟨v,w,by simp[execOp,aV,an.aP af,al],aJ⟩
   · exact h.elim
 case h_3 T x y aV=>
   split at h
   · rename_i A v af aZ
     obtain ⟨J,hw,aJ⟩:=R4 h
     exact .inr (.inl ⟨J,by simp[execOp,aV,an.aP af,an.aP aZ,hw],aJ⟩)
   · exact h.elim
 case h_4 op T x y HU aV=>
   split at h
   · rename_i cq kY af aZ
     by_cases a6:HQ P T y=true
     · rw[a6] at h
       simp only[cond_true] at h
       obtain ⟨b,ad,aJ⟩:=h
       exact .inl ⟨_,w,by
         simp only[execOp,aV,an.aP af,an.aP aZ]
         have jF:=ad w
         simp only[Sem.run_bind] at jF⊢
         rw[jF];rfl,aJ⟩
     simp only[eM] at a6
     rw[a6] at h
     simp only[cond_false] at h
     by_cases ay:tm y kY=true
     · rw[ay] at h
       simp only[cond_true] at h
       have Cm:kY= .nilIface→∃c,y= .const c:=by
         intro al
         subst al
         cases y<;>simp[tm] at ay⊢
       rcases HH (vL:=x) (tj:=y) Cm h with bu|⟨v,al,aJ⟩
       · exact rE an (by rw[aV];rfl) bu
       · exact .inl ⟨v,w,by
           simp only[execOp,aV,an.aP af,an.aP aZ]
           have jF:=al w
           simp only[Sem.run_bind] at jF⊢
           rw[jF];rfl,aJ⟩
     · simp only[eM] at ay;rw[ay] at h;exact h.elim
   · exact h.elim
 case h_5 T x i aV=>
   split at h
   · rename_i cq gH af hi
     obtain ⟨v,al,aJ⟩:=HJ h
     exact .inl ⟨v,w,by simp[execOp,aV,an.aP af,an.aP hi,al],aJ⟩
   · exact h.elim
 case h_6 T x i aV=>
   split at h
   · rename_i cq gH af hi
     obtain ⟨v,al,aJ⟩:=HL h
     exact .inl ⟨v,w,by simp[execOp,aV,an.aP af,an.aP hi,al],aJ⟩
   · exact h.elim
 case h_7 T x i aV=>
   split at h
   · rename_i cq af
     obtain ⟨v,al,aJ⟩:=HM h
     exact .inl ⟨v,w,by simp[execOp,aV,an.aP af,al],aJ⟩
   · exact h.elim
 case h_8 T aV=>exact Ci an (by rw[aV];rfl) h
 case h_9 T x aV=>exact Ci an (by rw[aV];rfl) h
 case h_10 T n bJ aV=>
   cases ag:HP (HO P aO T) with
   |true=>
     rw[ag] at h
     simp only[cond_true] at h
     by_cases aa:known e o.op.operands=true
     · rw[aa] at h
       simp only[cond_true] at h
       have ai:=kZ an (by rw[aV];rfl) aa
       obtain ⟨r,ae,aC,aJ⟩:=il h
       exact .inl ⟨r,ae,by rw[ai];simp[execOp,aV];rw[aC];rfl,aJ⟩
     · simp only[eM] at aa;rw[aa] at h;exact h.elim
   |false=>
     rw[ag] at h
     exact Ci an (by rw[aV];rfl) h
 case h_11 T x lo hi kW aV=>
   by_cases aa:known e o.op.operands=true
   · rw[aa] at h
     simp only[cond_true] at h
     have ai:=kZ an (by rw[aV];rfl) aa
     obtain ⟨v,al,aJ⟩:=HN h
     exact .inl ⟨v,w,by rw[ai];simp[execOp,aV,al],aJ⟩
   · simp only[eM] at aa;rw[aa] at h;exact h.elim
 case h_12 T l c aV=>
   split at h
   · rename_i HR HS aB ai
     obtain ⟨v,J,al,aJ⟩:=RY h
     exact .inl ⟨v,J,by simp[execOp,aV,an.aP aB,an.aP ai,al],aJ⟩
   · exact h.elim
 case h_13 s d x aV=>
   split at h
   · rename_i k n af
     by_cases ao:(P.underlying s).isSome=true
     · rw[ao] at h
       simp only[cond_true] at h
       obtain ⟨bc,kn⟩:=lT _ ao
       split at h
       · rename_i ga ax
         exact .inl ⟨_,_,by simp[execOp,aV,an.aP af,convert,ck kn,ck ax,Conv.intToInt],h⟩
       · obtain ⟨r,ae,aC,aJ⟩:=il h
         exact .inl ⟨r,ae,by simp[execOp,aV,an.aP af,aC],aJ⟩
     · simp only[eM] at ao;rw[ao] at h;exact h.elim
   · rename_i v _ af
     obtain ⟨r,ae,aC,aJ⟩:=il h
     exact .inl ⟨r,ae,by simp[execOp,aV,an.aP af,aC],aJ⟩
   · exact h.elim
 case h_14 t bJ aV=>
   split at h
   · exact rE an (by rw[aV];rfl) h
   · by_cases aa:known e o.op.operands=true
     · rw[aa] at h
       simp only[cond_true] at h
       have ai:=kZ an (by rw[aV];rfl) aa
       obtain ⟨cs,aC,aJ⟩:=h
       exact .inl ⟨_,_,by rw[ai];simp[execOp,aV];rw[aC];rfl,aJ⟩
     · simp only[eM] at aa;rw[aa] at h;exact h.elim
 case h_15 T m i ok aV=>
   split at h
   · rename_i l2 gH hm hi
     obtain ⟨r,ae,aC,aJ⟩:=il h
     exact .inl ⟨r,ae,by simp[execOp,aV,an.aP hm,an.aP hi,aC],aJ⟩
   · exact h.elim
 case h_16 T m i x aV=>
   split at h
   · rename_i l2 gH cq hm hi af
     obtain ⟨ae,aC,aJ⟩:=h
     exact .inr (.inl ⟨ae,by simp[execOp,aV,an.aP hm,an.aP hi,an.aP af,aC],aJ⟩)
   · exact h.elim
 case h_17 T r aV=>
   by_cases aa:known e o.op.operands=true
   · rw[aa] at h
     simp only[cond_true] at h
     have ai:=kZ an (by rw[aV];rfl) aa
     obtain ⟨v,ae,aC,aJ⟩:=il h
     exact .inl ⟨v,ae,by rw[ai];simp[execOp,aV,aC],aJ⟩
   · simp only[eM] at aa;rw[aa] at h;exact h.elim
 case h_18 T x aV=>
   split at h
   · rename_i cq af
     obtain ⟨v,ae,aC,aJ⟩:=h
     exact .inl ⟨v,ae,by simp[execOp,aV,an.aP af,aC],aJ⟩
   · exact h.elim
 case h_19 it tn aV=>
   split at h
   · rename_i cq af
     rcases h with h|⟨ae,aC,aJ⟩
     · cases tn with
       |true=>
         obtain ⟨n,c,ae,aC,aJ⟩:=h
         exact .inl ⟨_,ae,by simp[execOp,aV,an.aP af,aC],aJ⟩
       |false=>
         obtain ⟨k,v,ae,aC,aJ⟩:=h
         exact .inl ⟨_,ae,by simp[execOp,aV,an.aP af,aC],aJ⟩
     · exact .inl ⟨_,ae,by simp[execOp,aV,an.aP af,aC],aJ⟩
   · exact h.elim
 case h_20 c aV=>
   have bi:∀ (b:Builtin) (r:Value) (ae:World),c.callee= .builtin b→known e o.op.operands=true→
       (∀cs,(Go.builtin b c.argTypes o.type cs (c.args.map (ro e))).run P w= .ok (.value r) ae)→K r ae→ou P o a w K:=by
     intro b r ae ad aa aC aJ
     have ai:=kZ an (by rw[aV];rfl) aa
     exact .inl ⟨r,ae,by rw[ai];simp[execOp,aV,resolve,ad,invoke,aC],aJ⟩
   have l3:∀ {X:Prop},(bif known e o.op.operands then X else False)→known e o.op.operands=true∧X:=by
     intro X eo
     by_cases aa:known e o.op.operands=true
     · rw[aa] at eo;exact ⟨aa,eo⟩
     · simp only[eM] at aa;rw[aa] at eo;exact eo.elim
   split at h
   · rename_i k ad
     split at h
     · rename_i f pre cap bu
       obtain ⟨aa,qK,h⟩:=l3 h
       have ai:=kZ an (by rw[aV];rfl) aa
       refine .inr (.inr ⟨f,pre++c.args.map (ro e)++cap,w,?_,h.mono fun p6 ae U=> ?_⟩)
       · have Cn:ro e (.tmp k)= .func (.func f) pre cap:=by simp[ro,aP,bu]
         rw[ai]
         simp[execOp,aV,resolve,ad,Cn,Deferred.ofValue,invoke,R0 qK]
       · obtain ⟨v,al,aJ⟩:=il U
         exact ⟨v,al,aJ⟩
     · exact rE an (by rw[aV];rfl) h
   · rename_i ad
     obtain ⟨aa,h⟩:=l3 h
     obtain ⟨r,ae,aC,aJ⟩:=il h
     exact bi _ r ae ad aa (fun _=>by simp[Go.builtin,aC]) aJ
   · rename_i ad
     obtain ⟨aa,h⟩:=l3 h
     obtain ⟨r,ae,aC,aJ⟩:=il h
     exact bi _ r ae ad aa (fun _=>by simp[Go.builtin,aC]) aJ
   · rename_i ad
     obtain ⟨aa,h⟩:=l3 h
     obtain ⟨r,ae,aC,aJ⟩:=il h
     exact bi _ r ae ad aa (fun _=>by simp[Go.builtin,aC]) aJ
   · rename_i ad
     obtain ⟨aa,h⟩:=l3 h
     obtain ⟨r,ae,aC,aJ⟩:=il h
     exact bi _ r ae ad aa (fun _=>by simp[Go.builtin,aC]) aJ
   · rename_i ad
     obtain ⟨aa,r,ae,aC,aJ⟩:=l3 h
     exact bi _ r ae ad aa (fun _=>by simp[Go.builtin,aC]) aJ
   · rename_i f ad
     split at h
     · rename_i fn Vk
       split at h
       · exact rE an (by rw[aV];rfl) h
       · obtain ⟨aa,h⟩:=l3 h
         obtain ⟨r,ae,aC,aJ⟩:=il h
         have ai:=kZ an (by rw[aV];rfl) aa
         refine .inl ⟨r,ae,?_,aJ⟩
         rw[ai]
         have Cn:ro e (.func f)= .func (.func f) #[] #[]:=by simp[ro,aP]
         simp[execOp,aV,resolve,ad,Cn,Deferred.ofValue,invoke,aC]
     · exact h.elim
   · rename_i ad
     obtain ⟨aa,h⟩:=l3 h
     obtain ⟨r,ae,aC,aJ⟩:=il h
     exact bi _ r ae ad aa (fun _=>by simp[Go.builtin,aC]) aJ
   · rename_i ad
     obtain ⟨aa,h⟩:=l3 h
     obtain ⟨r,ae,aC,aJ⟩:=il h
     exact bi _ r ae ad aa (fun _=>by simp[Go.builtin,aC]) aJ
   · rename_i ad
     obtain ⟨aa,r,ae,aC,aJ⟩:=l3 h
     exact bi _ r ae ad aa (fun _=>by simp[Go.builtin,aC]) aJ
   · rename_i ad
     split at h
     · obtain ⟨aa,h⟩:=l3 h
       obtain ⟨r,ae,aC,aJ⟩:=il h
       exact bi _ r ae ad aa (fun _=>by simp[Go.builtin,aC]) aJ
     · exact rE an (by rw[aV];rfl) h
   · exact rE an (by rw[aV];rfl) h
 case h_21 T x aV=>
   split at h
   · rename_i cq af
     obtain ⟨v,al,aJ⟩:=HI h
     exact .inl ⟨v,w,by simp[execOp,aV,an.aP af,al],aJ⟩
   · exact h.elim
 case h_22 T m i aV=>
   split at h
   · rename_i l2 gH hm hi
     obtain ⟨v0,st,ae,aC,aJ⟩:=h
     exact .inl ⟨_,ae,by simp[execOp,aV,an.aP hm,an.aP hi,aC],aJ⟩
   · exact h.elim
 case h_23 T m s x aV=>
   split at h
   · rename_i l2 vs cq hm ao af
     obtain ⟨ae,aC,aJ⟩:=h
     exact .inr (.inl ⟨ae,by simp[execOp,aV,an.aP hm,an.aP ao,an.aP af,aC],aJ⟩)
   · exact h.elim
 case h_24 it aV=>
   split at h
   · rename_i cq af
     obtain ⟨v,ae,aC,aJ⟩:=il h
     exact .inl ⟨v,ae,by simp[execOp,aV,an.aP af,aC],aJ⟩
   · exact h.elim
 case h_25=>exact h.elim
 case h_26=>
   refine rE an ?_ h
   cases aV:o.op<;>first|rfl|simp_all
end
end bl
namespace bl
open Go
inductive ov where
 |run
 |split (n:Nat)
 |pure (n:Nat)
 |yZ (fq:List nc)
def jR (P:Program) (o:Oper) (e:Env):Option Value:=
 match o.op with
 | .move x=>aP e x
 | .assign x=>aP e x
 | .unOp .not _ x=>match aP e x with
   |some (.bool b)=>some (.bool (!b))
   |_=>none
 | .binOp op T x y _=>match aP e y with
   |some (.int ga b)=>match aP e x with
     |some (.int k a)=>bif ko k ga then
         match op with
         | .add=>some (.int k (k.wrap (a+b)))
         | .sub=>some (.int k (k.wrap (a-b)))
         | .mul=>some (.int k (k.wrap (a*b)))
         | .quo=>match b with
           | .ofNat (.succ m)=>some (.int k (k.wrap (a.tdiv (.ofNat (.succ m)))))
           |_=>none
         | .rem=>match b with
           | .ofNat (.succ m)=>some (.int k (a.tmod (.ofNat (.succ m))))
           |_=>none
         | .and=>some (.int k (k.wrap (BitVec.ofInt k.bits a&&&BitVec.ofInt k.bits b).toNat))
         | .or=>some (.int k (k.wrap (BitVec.ofInt k.bits a|||BitVec.ofInt k.bits b).toNat))
         | .eql=>some (.bool (a==b))
         | .neq=>some (.bool (a !=b))
         | .lss=>some (.bool (a<b))
         | .leq=>some (.bool (a≤b))
         | .gtr=>some (.bool (a>b))
         | .geq=>some (.bool (a≥b))
         |_=>none
       else none
     |_=>none
   |some (.bool b)=>match aP e x with
     |some (.bool a)=>match P.underlying T with
       |some .bool=>match op with
         | .eql=>some (.bool (a==b))
         | .neq=>some (.bool (!(a==b)))
         |_=>none
       |_=>none
     |_=>none
   |some (.string b)=>match aP e x with
     |some (.string a)=>match op with
       | .eql=>some (.bool (a.toList==b.toList))
       | .neq=>some (.bool (!(a.toList==b.toList)))
       |_=>none
     |_=>none
   |some (.pointer none)=>match aP e x with
     |some (.pointer p)=>bif ot (P.underlying T) then match op with
         | .eql=>some (.bool p.isNone)
         | .neq=>some (.bool (!p.isNone))
         |_=>none
       else none
     |_=>none
   |some (.slice none _ _)=>match aP e x with
     |some (.slice p _ _)=>bif p5 (P.underlying T) then match op with
         | .eql=>some (.bool p.isNone)
         | .neq=>some (.bool (!p.isNone))
         |_=>none
       else none
     |_=>none
   |_=>none
 | .convert s d x=>match aP e x with
   |some (.int _ n)=>match P.underlying d with
     |some (.int k)=>bif (P.underlying s).isSome then some (.int k (k.wrap n)) else none
     |_=>none
   |_=>none
 | .call {callee:= .builtin .len,args:=args,argTypes:=gF}=>match args[0]?,gF[0]? with
   |some x,some T=>match aP e x,P.underlying T with
     |some (.slice _ n _),some (.slice _)=>some (.int .i64 n)
     |some (.string s),some .string=>some (.int .i64 s.size)
     |_,_=>none
   |_,_=>none
 | .call {callee:= .builtin .cap,args:=args,argTypes:=gF}=>match args[0]?,gF[0]? with
   |some x,some T=>match aP e x,P.underlying T with
     |some (.slice _ _ c),some (.slice _)=>some (.int .i64 c)
     |_,_=>none
   |_,_=>none
 |_=>none
def vO (ops:Array Oper) (e:Env) (j:Nat):Option Value:=((ops[j]?).bind (·.dst)).bind e.get
def R5 (ops:Array Oper) (j:Nat):Option Nat:=(ops[j]?).bind (·.dst)
def Vl (o:Oper) (e:Env) (K:Bool→Prop):Prop:=
 match o.guard with
 |none=>match o.op with
   | .pick x y z=>match aP e x with
     |some (.bool b)=>match aP e (bif b then y else z) with
       |some (.bool r)=>K r
       |_=>False
     |_=>False
   |_=>False
 |some _=>False
def gr (ops:Array Oper) (o:Oper) (e:Env) (run skip:Prop):Prop:=
 match o.guard with
 |none=>run
 |some (j,want)=>match vO ops e j with
   |none=>False
   |some (.bool b)=>bif Bool.xor b want then skip else run
   |some _=>skip
def nd {α:Type} (ops:Array Oper) (o:Oper) (e:Env) (run skip:Option α):Option α:=
 match o.guard with
 |none=>run
 |some (j,want)=>match vO ops e j with
   |none=>none
   |some (.bool b)=>bif Bool.xor b want then skip else run
   |some _=>skip
def l4 (o:Oper) (e:Env):Option Bool:=
 match o.op with
 | .pick x y z=>match aP e x with
   |some (.bool b)=>match aP e (bif b then y else z) with
     |some (.bool r)=>some r
     |_=>none
   |_=>none
 |_=>none
def vP (ops:Array Oper) (o:Oper) (e:Env):Option (Nat×Bool):=
 match o.guard with
 |none=>none
 |some (j,_)=>match R5 ops j with
   |none=>none
   |some s=>match e.get s with
     |some (.bool c)=>some (s,c)
     |_=>none
def ow (ops:Array Oper) (o:Oper) (e:Env):Bool:=
 match o.guard with
 |none=>true
 |some (j,want)=>match vO ops e j with
   |some (.bool b)=> !(Bool.xor b want)
   |_=>false
def p7 (e:Env) (bc:List Nat):Bool:=e.all fun p=> !(bc.any fun d=>Nat.beq d p.1)
def bf (l:List Oper):List Nat:=l.filterMap (·.dst)
def iP (P:Program) (ops:Array Oper):Nat→List Oper→List ov→Env→Option Env
 |0,_,_,_=>none
 |_+1,[],_,e=>some e
 |n+1,o::rest, .pure m::as,e=>
   match vP ops o e,rest.drop (m-1) with
   |none,_=>
     match nd ops o e none (some undef) with
     |some v=>iP P ops n rest as (cD o.dst v e)
     |none=>none
   |some (s,c),bX::da=>
     match iP P ops n (o::rest.take (m-1)) (.run::as.take (m-1)) ((s, .bool true)::e),iP P ops n (o::rest.take (m-1)) (.run::as.take (m-1)) ((s, .bool false)::e) with
     |some aT,some a8=>
       match l4 bX aT,l4 bX a8 with
       |some aE,some cU=>bif ow ops bX e&&p7 e (bf (o::rest.take (m-1))) then iP P ops n da (as.drop m) (cD bX.dst (.bool (cond c aE cU)) e) else none
       |_,_=>none
     |_,_=>none
   |_,_=>none
 |n+1,o::rest,_::as,e=>
   match nd ops o e (jR P o e) (some undef) with
   |some v=>iP P ops n rest as (cD o.dst v e)
   |none=>none
 |n+1,o::rest,[],e=>
   match nd ops o e (jR P o e) (some undef) with
   |some v=>iP P ops n rest [] (cD o.dst v e)
   |none=>none
inductive bZ {α:Type} (B:α→Prop) (k:α):Prop where
 |mk (h:B k)
theorem bZ.out {α:Type} {B:α→Prop} {k:α} (h:bZ B k):B k:=by cases h with|mk h=>exact h
def y0 (P:Program) (fq:List nc) (o:Oper) (K:Value→World→Prop) (e:Env) (w:World):Prop:=
 match o.op with
 | .entry it=>match aP e it with
   |some cq=>yO fq fun vs=>∃ae,(Instr.entry cq).run P w= .ok (.tuple vs.toArray) ae∧K (.tuple vs.toArray) ae
   |_=>False
 |_=>False
theorem R6 {P:Program} {fq:List nc} {o:Oper} {K:Value→World→Prop} {e:Env} {w:World} {a:Act} (an:cR e a) (h:y0 P fq o K e w):ou P o a w K:=by
 unfold y0 at h
 split at h
 · rename_i it aV
   split at h
   · rename_i cq af
     obtain ⟨v,ae,aC,aJ⟩:=Ca h
     exact .inl ⟨_,ae,by simp[execOp,aV,an.aP af,aC],aJ⟩
   · exact h.elim
 · exact h.elim
def e3 (P:Program) (aO:TypeId→ez) (ops:Array Oper):Nat→List Oper→List ov→(Env→World→Prop)→Env→World→Prop
 |0,_,_,_,_,_=>False
 |_+1,[],_,K,e,w=>K e w
 |n+1,o::rest, .yZ fq::as,K,e,w=>
   gr ops o e (y0 P fq o (fun v J=>e3 P aO ops n rest as K (cD o.dst v e) J) e w) (e3 P aO ops n rest as K (cD o.dst undef e) w)
 |n+1,o::rest, .pure m::as,K,e,w=>
   match vP ops o e,rest.drop (m-1) with
   |none,_=>gr ops o e False (e3 P aO ops n rest as K (cD o.dst undef e) w)
   |some (s,c),bX::da=>
     match iP P ops n (o::rest.take (m-1)) (.run::as.take (m-1)) ((s, .bool true)::e),iP P ops n (o::rest.take (m-1)) (.run::as.take (m-1)) ((s, .bool false)::e) with
     |some aT,some a8=>
       match l4 bX aT,l4 bX a8 with
       |some aE,some cU=>bif ow ops bX e&&p7 e (bf (o::rest.take (m-1))) then e3 P aO ops n da (as.drop m) K (cD bX.dst (.bool (cond c aE cU)) e) w else False
       |_,_=>False
     |_,_=>False
   |_,_=>False
 |n+1,o::rest, .split m::as,K,e,w=>
   match vP ops o e,rest.drop (m-1) with
   |none,_=>gr ops o e False (e3 P aO ops n rest as K (cD o.dst undef e) w)
   |some (s,c),bX::da=>
     bif ow ops bX e&&p7 e (bf (o::rest.take (m-1))) then
       bZ (fun k:Bool→World→Prop=>
           (c=true→e3 P aO ops n (o::rest.take (m-1)) (.run::as.take (m-1)) (fun cF J=>match l4 bX cF with|some r=>k r J|none=>False) ((s, .bool true)::e) w)∧
           (c=false→e3 P aO ops n (o::rest.take (m-1)) (.run::as.take (m-1)) (fun cF J=>match l4 bX cF with|some r=>k r J|none=>False) ((s, .bool false)::e) w))
         (fun r J=>e3 P aO ops n da (as.drop m) K (cD bX.dst (.bool r) e) J)
     else False
   |_,_=>False
 |n+1,o::rest,_::as,K,e,w=>
   gr ops o e (kp P aO o (fun v J=>e3 P aO ops n rest as K (cD o.dst v e) J) e w) (e3 P aO ops n rest as K (cD o.dst undef e) w)
 |n+1,o::rest,[],K,e,w=>
   gr ops o e (kp P aO o (fun v J=>e3 P aO ops n rest [] K (cD o.dst v e) J) e w) (e3 P aO ops n rest [] K (cD o.dst undef e) w)
structure c5 (bc:List Nat) (a a':Act):Prop where
 defers:a'.defers=a.defers
 size:a'.tmps.size=a.tmps.size
 same:∀s,s∉bc→a'.tmps[s]? =a.tmps[s]?
theorem c5.refl (bc:List Nat) (a:Act):c5 bc a a:=⟨rfl,rfl,fun _ _=>rfl⟩
theorem c5.trans {bc:List Nat} {a b c:Act} (h:c5 bc a b) (k:c5 bc b c):c5 bc a c:=
 ⟨k.defers.trans h.defers,k.size.trans h.size,fun s ao=>(k.same s ao).trans (h.same s ao)⟩
theorem c5.mono {bc es:List Nat} {a b:Act} (h:c5 bc a b) (ao:∀s,s∈bc→s∈es):c5 es a b:=
 ⟨h.defers,h.size,fun s ay=>h.same s fun hm=>ay (ao s hm)⟩
theorem c5.put {a:Act} {d:Option Nat} {v:Value} {bc:List Nat} (ax:∀k,d=some k→k∈bc):c5 bc a (a.put d v):=by
 cases d with
 |none=>exact .refl _ _
 |some d=>exact ⟨rfl,by simp[Act.put],fun s ao=>by
     have:d≠s:=fun h=>ao (h▸ax d rfl)
     simp[Act.put,Array.getElem?_setIfInBounds_ne this]⟩
def fS (a:Act) (bc:List Nat) (K:Env→World→Prop) (x:Exit) (a':Act) (J:World):Prop:=
 x= .normal∧c5 bc a a'∧∃cF,cR cF a'∧K cF J
theorem iQ {P:Program} {ops:Array Oper} {Q Q':Exit→Act→World→Prop} (ag:∀x a w,Q x a w→Q' x a w):
   ∀ (l:List Oper) (a:Act) (w:World),wpList P ops Q l a w→wpList P ops Q' l a w
 | [],_,_,h=>ag _ _ _ h
 |o::l,a,w,h=>by
   simp only[wpList] at h⊢
   split
   · rename_i hw
     rw[if_pos hw] at h
     refine h.imp (fun h=> ?_) (fun ⟨U,a',J,ab⟩=>⟨U,a',J,ag _ _ _ ab⟩)
     have:=Oper.wp_mono (Q:=Q) (fun a w=>iQ ag l a w) h
     unfold Oper.wp at this⊢
     revert this
     generalize (execOp a.eval o).run P w=r
     intro this
     cases r with
     |ok bD J=>
       cases bD<;>simp only[Oper.upon] at this⊢<;>first
         |exact this
         |(exact Calls.mono this fun e fx he=>by
             cases e with
             |returned v=>exact he
             |panicked c=>exact ag _ _ _ he
             |outgrown=>exact let ⟨a',J,ab⟩:=he;⟨a',J,ag _ _ _ ab⟩)
     |halt x J=>cases x<;>simp only[Oper.upon] at this⊢<;>first|exact ag _ _ _ this|exact this
   · rename_i hw
     rw[if_neg hw] at h
     exact iQ ag l _ _ h
theorem vQ {P:Program} {ops:Array Oper} {Q:Exit→Act→World→Prop} (sD:List Oper):
   ∀ (xV:List Oper) (a:Act) (w:World),wpList P ops (fun x a w=>x= .normal∧wpList P ops Q sD a w) xV a w→wpList P ops Q (xV++sD) a w
 | [],_,_,h=>h.2
 |o::l,a,w,h=>by
   simp only[uk,wpList] at h⊢
   split
   · rename_i hw
     rw[if_pos hw] at h
     rcases h with h|⟨_,a',J,ab,_⟩
     · left
       have:=Oper.wp_mono (fun a w=>vQ sD l a w) h
       unfold Oper.wp at this⊢
       revert this
       generalize (execOp a.eval o).run P w=r
       intro this
       cases r with
       |ok bD J=>
         cases bD<;>simp only[Oper.upon] at this⊢<;>first
           |exact this
           |(exact Calls.mono this fun e fx he=>by
               cases e with
               |returned v=>exact he
               |panicked c=>cases he.1
               |outgrown=>exact let ⟨a',J,ab⟩:=he;by cases ab.1)
       |halt x J=>cases x<;>simp only[Oper.upon] at this⊢<;>first|(cases this.1;done)|exact this
     · cases ab
   · rename_i hw
     rw[if_neg hw] at h
     exact vQ sD l _ _ h
section
variable {P:Program} {aO:TypeId→ez} {ops:Array Oper}
def R7:Value→Option Bool
 | .bool b=>some b
 |_=>none
theorem vR {e:Env} {a:Act} (an:cR e a) {j:Nat} {v:Value} (h:vO ops e j=some v):
   yielded ops a.tmps j=R7 v:=by
 unfold vO at h
 unfold yielded
 cases ax:(ops[j]?).bind (·.dst) with
 |none=>rw[ax] at h;simp at h
 |some s=>
   rw[ax] at h
   simp only[Option.bind_some] at h⊢
   rw[an.get _ _ h]
   cases v<;>rfl
theorem vS {o:Oper} {e:Env} {a:Act} (an:cR e a) {R S:Prop} (h:gr ops o e R S):
   (Region.wanted o (yielded ops a.tmps)=true∧R)∨(Region.wanted o (yielded ops a.tmps)=false∧S):=by
 unfold gr at h
 unfold Region.wanted
 split at h
 · rename_i bu;rw[bu];exact .inl ⟨rfl,h⟩
 · rename_i j want bu
   rw[bu]
   simp only
   split at h
   · exact h.elim
   · rename_i b al
     rw[vR an al]
     cases b<;>cases want<;>first|exact .inl ⟨rfl,h⟩|exact .inr ⟨rfl,h⟩
   · rename_i v gj al
     rw[vR an al]
     cases v<;>first|exact absurd rfl (gj _)|exact .inr ⟨by cases want<;>rfl,h⟩
theorem HV {o:Oper} {e:Env} {R HW S:Prop} (h:gr ops o e R S) (aC:R→HW):gr ops o e HW S:=by
 unfold gr at h⊢
 split at h
 · exact aC h
 · rename_i j want bu
   split at h
   · exact h
   · rename_i b al
     cases ad:Bool.xor b want<;>rw[ad] at h<;>first|exact aC h|exact h
   · exact h
theorem R8 {α:Type} {o:Oper} {e:Env} {R S:Option α} {r:α} (h:nd ops o e none S=some r):nd ops o e R S=some r:=by
 unfold nd at h⊢
 split at h
 · cases h
 · rename_i j want bu
   split at h
   · exact h
   · rename_i b al
     cases ad:Bool.xor b want with
     |true=>rw[ad] at h;exact h
     |false=>rw[ad] at h;cases h
   · exact h
theorem R9 {α:Type} {o:Oper} {e:Env} {a:Act} (an:cR e a) {R S:Option α} {r:α} (h:nd ops o e R S=some r):
   (Region.wanted o (yielded ops a.tmps)=true∧R=some r)∨(Region.wanted o (yielded ops a.tmps)=false∧S=some r):=by
 unfold nd at h
 unfold Region.wanted
 split at h
 · rename_i bu;rw[bu];exact .inl ⟨rfl,h⟩
 · rename_i j want bu
   rw[bu]
   simp only
   split at h
   · cases h
   · rename_i b al
     rw[vR an al]
     cases b<;>cases want<;>first|exact .inl ⟨rfl,h⟩|exact .inr ⟨rfl,h⟩
   · rename_i v gj al
     rw[vR an al]
     cases v<;>first|exact absurd rfl (gj _)|exact .inr ⟨by cases want<;>rfl,h⟩
theorem HX {o:Oper} {e:Env} {a:Act} (an:cR e a) {v:Value} (h:jR P o e=some v) (w:World):(execOp a.eval o).run P w= .ok (.value v) w:=by
 unfold jR at h
 split at h
 · rename_i x aV
   simp[execOp,aV,an.aP h]
 · rename_i x aV
   simp[execOp,aV,an.aP h]
 · rename_i t x aV
   split at h
   · rename_i b af
     cases h
     simp[execOp,aV,an.aP af,Op.unary]
   · cases h
 · rename_i op T x y HU aV
   split at h
   · rename_i ga b aZ
     split at h
     · rename_i k c af
       by_cases aa:k=ga
       · subst aa
         simp only[ko,decide_true,cond_true] at h
         split at h
         case h_4=>
           split at h
           · cases h
             simp[execOp,aV,an.aP af,an.aP aZ,eqGuard,binOp,Op.intDiv]
             intro bI;exfalso;revert bI;simp;omega
           · cases h
         case h_5=>
           split at h
           · cases h
             simp[execOp,aV,an.aP af,an.aP aZ,eqGuard,binOp,Op.intDiv]
             intro bI;exfalso;revert bI;simp;omega
           · cases h
         all_goals first
           |(cases h;simp[execOp,aV,an.aP af,an.aP aZ,eqGuard,binOp,Op.intArith,Op.intBits,Op.intCmp];done)
           |cases h
       · simp[ko,aa] at h
     · cases h
   · rename_i b aZ
     split at h
     · rename_i c af
       split at h
       · rename_i aQ
         have aT:∀ (d:Nat) (w:World),(Op.equalIn (d+1) T (.bool c) (.bool b)).run P w= .ok (c==b) w:=by
           intro d w
           simp[Op.equalIn,ck aQ]
         have a8:∀w:World,(Op.equal T (.bool c) (.bool b)).run P w= .ok (c==b) w:=fun w=>by rw[ti];exact aT _ w
         split at h
         · cases h
           simp[execOp,aV,an.aP af,an.aP aZ,eqGuard,binOp,a8]
         · cases h
           simp[execOp,aV,an.aP af,an.aP aZ,eqGuard,binOp,a8]
         · cases h
       · cases h
     · cases h
   · rename_i b aZ
     split at h
     · rename_i c af
       split at h
       · cases h
         have aT:(binOp .eql T (.string c) (.string b)).run P w= .ok (.bool (c.toList==b.toList)) w:=rfl
         simp only[execOp,aV,an.aP af,an.aP aZ]
         simp[eqGuard,aT]
       · cases h
         have aT:(binOp .neq T (.string c) (.string b)).run P w= .ok (.bool (!(c.toList==b.toList))) w:=rfl
         simp only[execOp,aV,an.aP af,an.aP aZ]
         simp[eqGuard,aT]
       · cases h
     · cases h
   · rename_i aZ
     split at h
     · rename_i p af
       by_cases aQ:ot (P.underlying T)=true
       · rw[aQ] at h
         simp only[cond_true] at h
         split at h
         · cases h;simp[execOp,aV,an.aP af,an.aP aZ,eqGuard,binOp,yR (P:=P) aQ]
         · cases h;simp[execOp,aV,an.aP af,an.aP aZ,eqGuard,binOp,yR (P:=P) aQ]
         · cases h
       · simp only[eM] at aQ;rw[aQ] at h;cases h
     · cases h
   · rename_i l c aZ
     split at h
     · rename_i p _ _ af
       by_cases aQ:p5 (P.underlying T)=true
       · rw[aQ] at h
         simp only[cond_true] at h
         split at h
         · cases h;simp[execOp,aV,an.aP af,an.aP aZ,eqGuard,binOp,yS (P:=P) aQ]
         · cases h;simp[execOp,aV,an.aP af,an.aP aZ,eqGuard,binOp,yS (P:=P) aQ]
         · cases h
       · simp only[eM] at aQ;rw[aQ] at h;cases h
     · cases h
   · cases h
 · rename_i s d x aV
   split at h
   · rename_i k n af
     split at h
     · rename_i ga ax
       by_cases ao:(P.underlying s).isSome=true
       · rw[ao] at h
         cases h
         obtain ⟨bc,kn⟩:=lT _ ao
         simp[execOp,aV,an.aP af,convert,ck kn,ck ax,Conv.intToInt]
       · simp only[eM] at ao;rw[ao] at h;cases h
     · cases h
   · cases h
 · rename_i args gF aV
   split at h
   · rename_i x T rF y1
     split at h
     · rename_i p n c el af aQ
       cases h
       simp[execOp,aV,resolve,invoke,Go.builtin,Builtin.len_,y1,rF,ck aQ,an.aP af,goInt]
     · rename_i s af aQ
       cases h
       simp[execOp,aV,resolve,invoke,Go.builtin,Builtin.len_,y1,rF,ck aQ,an.aP af,goInt]
     · cases h
   · cases h
 · rename_i args gF aV
   split at h
   · rename_i x T rF y1
     split at h
     · rename_i p n c el af aQ
       cases h
       simp[execOp,aV,resolve,invoke,Go.builtin,Builtin.cap_,y1,rF,ck aQ,an.aP af,goInt]
     · cases h
   · cases h
 · cases h
theorem Co {e:Env} {bc:List Nat} {a a':Act} (an:cR e a) (ax:p7 e bc=true) (aa:c5 bc a a'):cR e a':=by
 constructor
 intro s v ao
 have hm:∃u,(s,u)∈e:=by
   clear ax an
   induction e with
   |nil=>cases ao
   |cons p e bV=>
     obtain ⟨k,u⟩:=p
     rw[rB] at ao
     by_cases jk:k=s
     · subst jk;exact ⟨u,by simp⟩
     · rw[if_neg jk] at ao
       obtain ⟨u,hu⟩:=bV ao
       exact ⟨u,by simp[hu]⟩
 obtain ⟨u,hu⟩:=hm
 have U:=uc.1 ax _ hu
 simp only[mh,r7] at U
 rw[aa.same s fun fj=>U s fj (Nat.beq_refl s)]
 exact an.get s v ao
theorem Cp {bX:Oper} {e:Env} {a:Act} (an:cR e a) {r:Bool} (h:l4 bX e=some r) (w:World):
   (execOp a.eval bX).run P w= .ok (.value (.bool r)) w:=by
 unfold l4 at h
 split at h
 · rename_i x y z aV
   split at h
   · rename_i b ad
     split at h
     · rename_i Vm aC
       cases h
       simp only[execOp,aV,an.aP ad]
       cases b
       · simp only[cond_false] at aC
         simp[asBool,an.aP aC]
       · simp only[cond_true] at aC
         simp[asBool,an.aP aC]
     · cases h
   · cases h
 · cases h
theorem Cq {bX:Oper} {e:Env} {a:Act} (an:cR e a) (h:ow ops bX e=true):Region.wanted bX (yielded ops a.tmps)=true:=by
 unfold ow at h
 unfold Region.wanted
 split at h
 · rename_i bu;rw[bu]
 · rename_i j want bu
   rw[bu]
   simp only
   split at h
   · rename_i b al
     rw[vR an al]
     cases b<;>cases want<;>first|rfl|cases h
   · cases h
theorem Cr {o:Oper} {e:Env} {s:Nat} {c:Bool} (h:vP ops o e=some (s,c)):e.get s=some (.bool c):=by
 unfold vP at h
 split at h
 · cases h
 · split at h
   · cases h
   · split at h
     · rename_i ao;cases h;exact ao
     · cases h
theorem cR.lit {e:Env} {a:Act} (an:cR e a) {s:Nat} {v:Value} (h:e.get s=some v):cR ((s,v)::e) a:=by
 constructor
 intro t u bx
 rw[rB] at bx
 by_cases eW:s=t
 · subst eW
   rw[if_pos rfl] at bx
   cases bx
   exact an.get _ _ h
 · rw[if_neg eW] at bx
   exact an.get _ _ bx
theorem Cs {α:Type} (o:α) (rest:List α) (m:Nat) {bX:α} {da:List α} (h:rest.drop m=bX::da):
   o::rest=(o::rest.take m)++(bX::da):=by
 rw[←h];simp
theorem R_ {b c:Bool} {α:Type} {x y z:α} (h:(bif b&&c then x else y)=z) (aZ:y≠z):b=true∧c=true∧x=z:=by
 cases b<;>cases c<;>first|exact absurd h aZ|exact ⟨rfl,rfl,h⟩
theorem HY:∀ (n:Nat) (l:List Oper) (as:List ov) (e cF:Env) (a:Act) (w:World),cR e a→(∀d∈bf l,d<a.tmps.size)→
   iP P ops n l as e=some cF→wpList P ops (fun x a' J=>x= .normal∧c5 (bf l) a a'∧cR cF a'∧J=w) l a w:=by
 intro n
 induction n with
 |zero=>intro l as e cF a w _ _ h;cases h
 |succ n bV=>
   intro l as e cF a w an ad h
   have one:∀ (o:Oper) (rest:List Oper) (jq:List ov),(∀d∈bf (o::rest),d<a.tmps.size)→
       (match nd ops o e (jR P o e) (some undef) with|some v=>iP P ops n rest jq (cD o.dst v e)|none=>none)=some cF→
       wpList P ops (fun x a' J=>x= .normal∧c5 (bf (o::rest)) a a'∧cR cF a'∧J=w) (o::rest) a w:=by
     intro o rest jq ad h
     have kO:∀k,o.dst=some k→k∈bf (o::rest):=fun k aa=>by simp[bf,aa]
     have gg:∀k,k∈bf rest→k∈bf (o::rest):=fun k aa=>by
       simp only[bf,um]
       split
       · exact aa
       · exact qw _ aa
     split at h
     · rename_i v al
       have next:∀ (a':Act),a'=a.put o.dst v→wpList P ops (fun x a' J=>x= .normal∧c5 (bf (o::rest)) a a'∧cR cF a'∧J=w) rest a' w:=by
         intro a' mV
         subst mV
         have aa:c5 (bf (o::rest)) a (a.put o.dst v):=c5.put kO
         have:=bV rest jq (cD o.dst v e) cF (a.put o.dst v) w (an.put fun k aa=>ad k (kO k aa)) (fun d ax=>by rw[aa.size];exact ad d (gg d ax)) h
         exact iQ (fun x a' J ⟨U,ab,aw,aL⟩=>⟨U,aa.trans (ab.mono gg),aw,aL⟩) _ _ _ this
       rcases R9 an al with ⟨hw,aU⟩|⟨hw,aU⟩
       · simp only[wpList,hw,if_true]
         left
         unfold Oper.wp
         rw[HX an aU w]
         exact next _ rfl
       · simp only[wpList,hw,gJ,if_false]
         cases aU
         exact next _ rfl
     · cases h
   cases l with
   |nil=>
     simp only[iP,Option.some.injEq] at h
     subst h
     exact ⟨rfl, .refl _ _,an,rfl⟩
   |cons o rest=>
     cases as with
     |nil=>exact one o rest [] ad (by simpa only[iP] using h)
     |cons Ct as=>
       cases Ct with
       |run=>exact one o rest as ad (by simpa only[iP] using h)
       |split m=>exact one o rest as ad (by simpa only[iP] using h)
       |yZ fq=>exact one o rest as ad (by simpa only[iP] using h)
       |pure m=>
         simp only[iP] at h
         split at h
         · refine one o rest as ad ?_
           cases al:nd ops o e none (some undef) with
           |none=>rw[al] at h;cases h
           |some v=>rw[al] at h;rw[R8 al];exact h
         · rename_i s c bX da bu ax
           split at h
           · rename_i aT a8 U ab
             split at h
             · rename_i aE cU o5 ff
               obtain ⟨vT,vU,h⟩:=R_ h (by simp)
               rw[Cs o rest (m-1) ax] at ad⊢
               have lV:=Cr bu
               refine vQ _ _ _ _ ?_
               have eD:∀k,k∈bf (o::rest.take (m-1))→k∈bf ((o::rest.take (m-1))++(bX::da)):=fun k aa=>by
                 simp only[bf,uo,gv];exact .inl aa
               have jS:∀k,k∈bf (bX::da)→k∈bf ((o::rest.take (m-1))++(bX::da)):=fun k aa=>by
                 simp only[bf,uo,gv];exact .inr aa
               have p8:∀k,bX.dst=some k→k∈bf (bX::da):=fun k aa=>by simp[bf,aa]
               have gg:∀k,k∈bf da→k∈bf (bX::da):=fun k aa=>by
                 simp only[bf,um]
                 split
                 · exact aa
                 · exact qw _ aa
               have fin:∀ (p9:Env) (r:Bool) (a7:Act),c5 (bf (o::rest.take (m-1))) a a7→cR p9 a7→l4 bX p9=some r→r=cond c aE cU→
                   wpList P ops (fun x a' J=>x= .normal∧c5 (bf ((o::rest.take (m-1))++(bX::da))) a a'∧cR cF a'∧J=w) (bX::da) a7 w:=by
                 intro p9 r a7 fv e4 aU aC
                 have p_:=Co an vU fv
                 simp only[wpList,Cq p_ vT,if_true]
                 left
                 unfold Oper.wp
                 rw[Cp e4 aU w]
                 simp only[Oper.upon]
                 have cb:c5 (bf (bX::da)) a7 (a7.put bX.dst (.bool r)):=c5.put p8
                 have:=bV da (as.drop m) (cD bX.dst (.bool (cond c aE cU)) e) cF (a7.put bX.dst (.bool r)) w
                   (by rw[aC];exact p_.put fun k aa=>by rw[fv.size];exact ad k (jS k (p8 k aa)))
                   (fun d ax=>by rw[cb.size,fv.size];exact ad d (jS d (gg d ax))) h
                 refine iQ (fun x a' J ⟨bp,bw,bL,cx⟩=>⟨bp,(fv.mono eD).trans ((cb.mono jS).trans (bw.mono fun k aa=>jS k (gg k aa))),bL,cx⟩) _ _ _ this
               cases c with
               |true=>
                 have:=bV _ _ _ aT a w (an.lit lV) (fun d ax=>ad d (eD d ax)) U
                 exact iQ (fun x a' J ⟨bp,bw,bL,cx⟩=>⟨bp,by subst cx;exact fin aT aE a' bw bL o5 rfl⟩) _ _ _ this
               |false=>
                 have:=bV _ _ _ a8 a w (an.lit lV) (fun d ax=>ad d (eD d ax)) ab
                 exact iQ (fun x a' J ⟨bp,bw,bL,cx⟩=>⟨bp,by subst cx;exact fin a8 cU a' bw bL ff rfl⟩) _ _ _ this
             · cases h
           · cases h
         · cases h
theorem HZ:∀ (n:Nat) (l:List Oper) (as:List ov) (K:Env→World→Prop) (e:Env) (a:Act) (w:World),cR e a→(∀d∈bf l,d<a.tmps.size)→
   e3 P aO ops n l as K e w→wpList P ops (fS a (bf l) K) l a w:=by
 intro n
 induction n with
 |zero=>intro l as K e a w _ _ h;cases h
 |succ n bV=>
   intro l as K e a w an ad h
   have one:∀ (o:Oper) (rest:List Oper) (jq:List ov),(∀d∈bf (o::rest),d<a.tmps.size)→
       gr ops o e (kp P aO o (fun v J=>e3 P aO ops n rest jq K (cD o.dst v e) J) e w) (e3 P aO ops n rest jq K (cD o.dst undef e) w)→
       wpList P ops (fS a (bf (o::rest)) K) (o::rest) a w:=by
     intro o rest jq ad h
     have kO:∀k,o.dst=some k→k∈bf (o::rest):=fun k aa=>by simp[bf,aa]
     have gg:∀k,k∈bf rest→k∈bf (o::rest):=fun k aa=>by
       simp only[bf,um]
       split
       · exact aa
       · exact qw _ aa
     have next:∀ (v:Value) (J:World),e3 P aO ops n rest jq K (cD o.dst v e) J→wpList P ops (fS a (bf (o::rest)) K) rest (a.put o.dst v) J:=by
       intro v J h
       have aa:c5 (bf (o::rest)) a (a.put o.dst v):=c5.put kO
       have:=bV rest jq K (cD o.dst v e) (a.put o.dst v) J (an.put fun k aa=>ad k (kO k aa)) (fun d ax=>by rw[aa.size];exact ad d (gg d ax)) h
       exact iQ (fun x a' J ⟨U,ab,aw⟩=>⟨U,aa.trans (ab.mono gg),aw⟩) _ _ _ this
     rcases vS an h with ⟨hw,aU⟩|⟨hw,aU⟩
     · simp only[wpList,hw,if_true]
       exact .inl ((Cl an aU).wp next)
     · simp only[wpList,hw,gJ,if_false]
       exact next _ _ aU
   have Sa:∀ (o:Oper) (rest:List Oper) (fq:List nc) (jq:List ov),(∀d∈bf (o::rest),d<a.tmps.size)→
       gr ops o e (y0 P fq o (fun v J=>e3 P aO ops n rest jq K (cD o.dst v e) J) e w) (e3 P aO ops n rest jq K (cD o.dst undef e) w)→
       wpList P ops (fS a (bf (o::rest)) K) (o::rest) a w:=by
     intro o rest fq jq ad h
     have kO:∀k,o.dst=some k→k∈bf (o::rest):=fun k aa=>by simp[bf,aa]
     have gg:∀k,k∈bf rest→k∈bf (o::rest):=fun k aa=>by
       simp only[bf,um]
       split
       · exact aa
       · exact qw _ aa
     have next:∀ (v:Value) (J:World),e3 P aO ops n rest jq K (cD o.dst v e) J→wpList P ops (fS a (bf (o::rest)) K) rest (a.put o.dst v) J:=by
       intro v J h
       have aa:c5 (bf (o::rest)) a (a.put o.dst v):=c5.put kO
       have:=bV rest jq K (cD o.dst v e) (a.put o.dst v) J (an.put fun k aa=>ad k (kO k aa)) (fun d ax=>by rw[aa.size];exact ad d (gg d ax)) h
       exact iQ (fun x a' J ⟨U,ab,aw⟩=>⟨U,aa.trans (ab.mono gg),aw⟩) _ _ _ this
     rcases vS an h with ⟨hw,aU⟩|⟨hw,aU⟩
     · simp only[wpList,hw,if_true]
       exact .inl ((R6 an aU).wp next)
     · simp only[wpList,hw,gJ,if_false]
       exact next _ _ aU
   cases l with
   |nil=>exact ⟨rfl, .refl _ _,e,an,h⟩
   |cons o rest=>
     cases as with
     |nil=>exact one o rest [] ad (by simpa only[e3] using h)
     |cons Ct as=>
       cases Ct with
       |run=>exact one o rest as ad (by simpa only[e3] using h)
       |yZ fq=>exact Sa o rest fq as ad (by simpa only[e3] using h)
       |split m=>
         simp only[e3] at h
         split at h
         · exact one o rest as ad (HV h False.elim)
         · rename_i s c bX da bu ax
           obtain ⟨vT,vU,h⟩:ow ops bX e=true∧p7 e (bf (o::rest.take (m-1)))=true∧_:=by
             cases U:ow ops bX e<;>cases ab:p7 e (bf (o::rest.take (m-1)))<;>rw[U,ab] at h<;>first|exact h.elim|exact ⟨rfl,rfl,h⟩
           rw[Cs o rest (m-1) ax] at ad⊢
           have lV:=Cr bu
           refine vQ _ _ _ _ ?_
           have eD:∀k,k∈bf (o::rest.take (m-1))→k∈bf ((o::rest.take (m-1))++(bX::da)):=fun k aa=>by
             simp only[bf,uo,gv];exact .inl aa
           have jS:∀k,k∈bf (bX::da)→k∈bf ((o::rest.take (m-1))++(bX::da)):=fun k aa=>by
             simp only[bf,uo,gv];exact .inr aa
           have p8:∀k,bX.dst=some k→k∈bf (bX::da):=fun k aa=>by simp[bf,aa]
           have gg:∀k,k∈bf da→k∈bf (bX::da):=fun k aa=>by
             simp only[bf,um]
             split
             · exact aa
             · exact qw _ aa
           have fin:∀ (x:Exit) (a7:Act) (ae:World),fS a (bf (o::rest.take (m-1)))
               (fun cF J=>match l4 bX cF with|some r=>e3 P aO ops n da (as.drop m) K (cD bX.dst (.bool r) e) J|none=>False) x a7 ae→
               x= .normal∧wpList P ops (fS a (bf ((o::rest.take (m-1))++(bX::da))) K) (bX::da) a7 ae:=by
             rintro x a7 ae ⟨af,fv,p9,e4,h⟩
             refine ⟨af,?_⟩
             have p_:=Co an vU fv
             split at h
             · rename_i r aU
               simp only[wpList,Cq p_ vT,if_true]
               left
               unfold Oper.wp
               rw[Cp e4 aU ae]
               simp only[Oper.upon]
               have cb:c5 (bf (bX::da)) a7 (a7.put bX.dst (.bool r)):=c5.put p8
               have:=bV da (as.drop m) K (cD bX.dst (.bool r) e) (a7.put bX.dst (.bool r)) ae
                 (p_.put fun k aa=>by rw[fv.size];exact ad k (jS k (p8 k aa)))
                 (fun d ax=>by rw[cb.size,fv.size];exact ad d (jS d (gg d ax))) h
               refine iQ (fun x a' J ⟨bp,bw,bL⟩=>⟨bp,(fv.mono eD).trans ((cb.mono jS).trans (bw.mono fun k aa=>jS k (gg k aa))),bL⟩) _ _ _ this
             · exact h.elim
           have h:=h.out
           cases c with
           |true=>
             have:=bV _ _ _ _ a w (an.lit lV) (fun d ax=>ad d (eD d ax)) (h.1 rfl)
             exact iQ fin _ _ _ this
           |false=>
             have:=bV _ _ _ _ a w (an.lit lV) (fun d ax=>ad d (eD d ax)) (h.2 rfl)
             exact iQ fin _ _ _ this
         · exact h.elim
       |pure m=>
         simp only[e3] at h
         split at h
         · exact one o rest as ad (HV h False.elim)
         · rename_i s c bX da bu ax
           split at h
           · rename_i aT a8 U ab
             split at h
             · rename_i aE cU o5 ff
               obtain ⟨vT,vU,h⟩:ow ops bX e=true∧p7 e (bf (o::rest.take (m-1)))=true∧_:=by
                 cases bp:ow ops bX e<;>cases bw:p7 e (bf (o::rest.take (m-1)))<;>rw[bp,bw] at h<;>first|exact h.elim|exact ⟨rfl,rfl,h⟩
               rw[Cs o rest (m-1) ax] at ad⊢
               have lV:=Cr bu
               refine vQ _ _ _ _ ?_
               have eD:∀k,k∈bf (o::rest.take (m-1))→k∈bf ((o::rest.take (m-1))++(bX::da)):=fun k aa=>by
                 simp only[bf,uo,gv];exact .inl aa
               have jS:∀k,k∈bf (bX::da)→k∈bf ((o::rest.take (m-1))++(bX::da)):=fun k aa=>by
                 simp only[bf,uo,gv];exact .inr aa
               have p8:∀k,bX.dst=some k→k∈bf (bX::da):=fun k aa=>by simp[bf,aa]
               have gg:∀k,k∈bf da→k∈bf (bX::da):=fun k aa=>by
                 simp only[bf,um]
                 split
                 · exact aa
                 · exact qw _ aa
               have fin:∀ (p9:Env) (r:Bool) (a7:Act),c5 (bf (o::rest.take (m-1))) a a7→cR p9 a7→l4 bX p9=some r→r=cond c aE cU→
                   wpList P ops (fS a (bf ((o::rest.take (m-1))++(bX::da))) K) (bX::da) a7 w:=by
                 intro p9 r a7 fv e4 aU aC
                 have p_:=Co an vU fv
                 simp only[wpList,Cq p_ vT,if_true]
                 left
                 unfold Oper.wp
                 rw[Cp e4 aU w]
                 simp only[Oper.upon]
                 have cb:c5 (bf (bX::da)) a7 (a7.put bX.dst (.bool r)):=c5.put p8
                 have:=bV da (as.drop m) K (cD bX.dst (.bool (cond c aE cU)) e) (a7.put bX.dst (.bool r)) w
                   (by rw[aC];exact p_.put fun k aa=>by rw[fv.size];exact ad k (jS k (p8 k aa)))
                   (fun d ax=>by rw[cb.size,fv.size];exact ad d (jS d (gg d ax))) h
                 refine iQ (fun x a' J ⟨bp,bw,bL⟩=>⟨bp,(fv.mono eD).trans ((cb.mono jS).trans (bw.mono fun k aa=>jS k (gg k aa))),bL⟩) _ _ _ this
               cases c with
               |true=>
                 have:=HY n _ _ _ aT a w (an.lit lV) (fun d ax=>ad d (eD d ax)) U
                 exact iQ (fun x a' J ⟨bp,bw,bL,cx⟩=>⟨bp,by subst cx;exact fin aT aE a' bw bL o5 rfl⟩) _ _ _ this
               |false=>
                 have:=HY n _ _ _ a8 a w (an.lit lV) (fun d ax=>ad d (eD d ax)) ab
                 exact iQ (fun x a' J ⟨bp,bw,bL,cx⟩=>⟨bp,by subst cx;exact fin a8 cU a' bw bL ff rfl⟩) _ _ _ this
             · exact h.elim
           · exact h.elim
         · exact h.elim
end
end bl
namespace bl
open Go
structure aq (W:Nat→Prop) (w J:World):Prop where
 os:J.os=w.os
 tape:J.tape=w.tape
 output:J.output=w.output
 size:w.heap.size≤J.heap.size
 block:∀k,k<w.heap.size→¬W k→J.heap[k]? =w.heap[k]?
theorem aq.refl (W:Nat→Prop) (w:World):aq W w w:=⟨rfl,rfl,rfl,b6 _,fun _ _ _=>rfl⟩
theorem aq.trans {W:Nat→Prop} {a b c:World} (h:aq W a b) (k:aq W b c):aq W a c:=
 ⟨k.os.trans h.os,k.tape.trans h.tape,k.output.trans h.output,hY h.size k.size,fun i hi hw=>(k.block i (mf hi h.size) hw).trans (h.block i hi hw)⟩
theorem aq.mono {W V:Nat→Prop} {a b:World} (h:aq W a b) (al:∀k,k<a.heap.size→W k→V k):aq V a b:=
 ⟨h.os,h.tape,h.output,h.size,fun i hi hw=>h.block i hi fun e0=>hw (al i hi e0)⟩
theorem aq.cell {W:Nat→Prop} {w J:World} (h:aq W w J) {A:Addr} (e0:¬W A.block) {v:Value} (al:w.cell? A=some v):J.cell? A=some v:=by
 have ad:A.block<w.heap.size:=by
   rcases gd A.block w.heap.size with U|U
   · exact U
   · simp[World.cell?,Array.getElem?_eq_none U] at al
 unfold World.cell? at al⊢
 rw[h.block _ ad e0]
 exact al
theorem aq.bR {W:Nat→Prop} {w J:World} (h:aq W w J) {A:Addr} (e0:¬W A.block):∀ (n i:Nat) (vs:List Value),bR w A i n=some vs→bR J A i n=some vs
 |0,_,_,al=>al
 |n+1,i,vs,al=>by
   simp only[bl.bR] at al⊢
   have lh:(A.add i).block=A.block:=by unfold Addr.add;split<;>rfl
   cases U:w.cell? (A.add i) with
   |none=>simp[U] at al
   |some v=>
     cases ab:bl.bR w A (i+1) n with
     |none=>simp[U,ab] at al
     |some us=>
       simp only[U,ab] at al
       rw[h.cell (by rw[lh];exact e0) U,aq.bR h e0 n (i+1) us ab]
       exact al
def e5 {α:Type}:Sem α→Prop
 | .pure _=>True
 | .program k=>∀p,e5 (k p)
 | .halt _=>True
 |_=>False
theorem e5.bind {α β:Type}:∀ {s:Sem α} {f:α→Sem β},e5 s→(∀a,e5 (f a))→e5 (s>>=f)
 | .pure a,_,_,aI=>aI a
 | .program _,_,h,aI=>fun p=>e5.bind (h p) aI
 | .halt _,_,_,_=>trivial
 | .load ..,_,h,_=>h.elim
 | .store ..,_,h,_=>h.elim
 | .new ..,_,h,_=>h.elim
 | .shape ..,_,h,_=>h.elim
 | .freeze ..,_,h,_=>h.elim
 | .frozen ..,_,h,_=>h.elim
 | .getObj ..,_,h,_=>h.elim
 | .setObj ..,_,h,_=>h.elim
 | .choose ..,_,h,_=>h.elim
 | .sys ..,_,h,_=>h.elim
 | .mark ..,_,h,_=>h.elim
theorem e5.run {α:Type} {P:Program}:∀ {s:Sem α} {w J:World} {v:α},e5 s→s.run P w= .ok v J→∀u,s.run P u= .ok v u
 | .pure a,w,J,v,_,h,u=>by
   simp only[Sem.run,Result.ok.injEq] at h⊢
   exact ⟨h.1,trivial⟩
 | .program k,w,J,v,aI,h,u=>e5.run (aI P) h u
 | .halt _,w,J,v,_,h,_=>by simp[Sem.run] at h
 | .load ..,_,_,_,h,_,_=>h.elim
 | .store ..,_,_,_,h,_,_=>h.elim
 | .new ..,_,_,_,h,_,_=>h.elim
 | .shape ..,_,_,_,h,_,_=>h.elim
 | .freeze ..,_,_,_,h,_,_=>h.elim
 | .frozen ..,_,_,_,h,_,_=>h.elim
 | .getObj ..,_,_,_,h,_,_=>h.elim
 | .setObj ..,_,_,_,h,_,_=>h.elim
 | .choose ..,_,_,_,h,_,_=>h.elim
 | .sys ..,_,_,_,h,_,_=>h.elim
 | .mark ..,_,_,_,h,_,_=>h.elim
theorem H0:e5 program:=fun _=>trivial
theorem H2 (t:TypeId):e5 (underlying t):=by
 unfold underlying
 refine e5.bind H0 fun p=> ?_
 split<;>trivial
theorem Sb (t:TypeId):e5 (typeInfo t):=by
 unfold typeInfo
 refine e5.bind H0 fun p=> ?_
 split<;>trivial
theorem Sc (t:TypeId):e5 (Go.sizeOf t):=e5.bind (Sb t) fun _=>trivial
theorem Sd (t:TypeId):e5 (isAgg t):=by
 unfold isAgg
 refine e5.bind (H2 t) fun d=> ?_
 split<;>trivial
theorem Se (t:TypeId) (cs:Array Value) (off:Nat):e5 (part t cs off):=by
 unfold part
 refine e5.bind (Sd t) fun d=> ?_
 split
 · exact e5.bind (Sc t) fun _=>trivial
 · split<;>trivial
theorem Sf (t:TypeId) (x:Value) (i:Nat):e5 (Instr.field t x i):=by
 unfold Instr.field
 refine e5.bind (H2 t) fun d=> ?_
 split
 · split
   · refine e5.bind ?_ fun _=>Se _ _ _
     unfold asAgg;split<;>trivial
   · trivial
 · trivial
def H3:Op→Bool
 | .move _=>true
 | .assign _=>true
 | .pick _ _ _=>true
 | .field _ _ _=>true
 |_=>false
def vV (P:Program) (o:Oper) (K:Value→Prop) (e:Env) (w:World):Prop:=
 bif H3 o.op&&known e o.op.operands then
   match (execOp (ro e) o).run P w with
   | .ok (.value v) _=>K v
   |_=>False
 else False
def tp (P:Program) (o:Oper) (K:Value→Prop) (e:Env):Prop:=
 match jR P o e with
 |some v=>K v
 |none=>False
def H4 (P:Program) (T:TypeId) (x:Value) (i:Nat) (K:Value→Prop):Prop:=
 match P.underlying T with
 |some (.struct fs)=>match fs[i]? with
   |some f=>match x with
     | .pointer (some A)=>match P.underlying f.type with
       |some _=>bif Nat.beq (P.cellsOf f.type) 0 then False else K (.pointer (some (A.add f.offset)))
       |none=>False
     |_=>False
   |none=>False
 |_=>False
def H5 (x:Value) (i:Nat) (K:Value→Prop):Prop:=
 match x with
 | .tuple vs=>match vs[i]? with
   |some v=>K v
   |none=>False
 |_=>False
def jT (o:Oper):Bool:=
 match o.op with
 | .load _ _=>true
 | .convert _ _ _=>true
 |_=>false
def l5:Nat→List Oper→Nat
 |_,[]=>0
 |i,o::l=>bif jT o then 2^i|||l5 (i+1) l else l5 (i+1) l
def Cu (P:Program) (aO:TypeId→ez) (W:Nat→Prop) (w:World) (o:Oper) (K:Value→Prop) (e:Env):Prop:=
 match o.op with
 | .nilCheck x=>match aP e x with
   |some (.pointer p)=>∃A,p=some A∧K (.pointer (some A))
   |_=>False
 | .load T x=>match aP e x with
   |some (.pointer (some A))=>¬W A.block∧tg P aO T A w K
   |_=>False
 | .binOp op T x y _=>match aP e x,aP e y with
   |some cq,some kY=>bif tm y kY then yQ P op T cq kY K (tp P o K e) else False
   |_,_=>False
 | .indexAddr T x i=>match aP e x,aP e i with
   |some cq,some gH=>yU P T cq gH K
   |_,_=>False
 | .index T x i=>match aP e x,aP e i with
   |some cq,some gH=>yV P aO T cq gH K
   |_,_=>False
 | .field T x i=>match aP e x with
   |some cq=>yW P aO T cq i K
   |_=>False
 | .fieldAddr T x i=>match aP e x with
   |some cq=>H4 P T cq i K
   |_=>False
 | .extract x i=>match aP e x with
   |some cq=>H5 cq i K
   |_=>False
 | .slice T x lo hi kW=>bif known e o.op.operands then
     yX P T (ro e x) (lo.map (ro e)) (hi.map (ro e)) (kW.map (ro e)) K
   else False
 | .convert s d x=>match aP e x with
   |some (.int _ _)=>tp P o K e
   |some v=>hU (aO o.type) fun r=>(∀J,aq W w J→(convert s d v).run P J= .ok r J)∧K r
   |none=>False
 | .build t bJ=>bif known e o.op.operands then
     ∃cs:Array Value,(∀J,(Instr.build t (bJ.map fun p=>(p.1,ro e p.2))).run P J= .ok (.agg cs) J)∧K (.agg cs)
   else False
 | .unOp _ _ _=>tp P o K e
 | .call _=>tp P o K e
 | .move _=>vV P o K e w
 | .assign _=>vV P o K e w
 | .pick _ _ _=>vV P o K e w
 | .sliceToArrayPointer T x=>match aP e x with
   |some cq=>yT P T cq K
   |_=>False
 |_=>False
section
variable {P:Program} {aO:TypeId→ez} {W:Nat→Prop} {o:Oper} {K:Value→Prop} {e:Env} {a:Act} {w:World}
theorem Cv (an:cR e a) (h:vV P o K e w):∃v,(∀J,(execOp a.eval o).run P J= .ok (.value v) J)∧K v:=by
 unfold vV at h
 cases aI:H3 o.op with
 |false=>rw[aI] at h;exact h.elim
 |true=>
   cases aa:known e o.op.operands with
   |false=>rw[aI,aa] at h;exact h.elim
   |true=>
     rw[aI,aa] at h
     simp only[Bool.and_self,cond_true] at h
     have ai:=kZ an (by cases aV:o.op<;>rw[aV] at aI<;>first|rfl|cases aI) aa
     rw[ai]
     split at h
     · rename_i v J aC
       refine ⟨v,fun u=>e5.run ?_ aC u,h⟩
       cases aV:o.op<;>rw[aV] at aI<;>first|(cases aI;done)|skip
       · simp only[execOp,aV];trivial
       · simp only[execOp,aV];trivial
       · simp only[execOp,aV]
         refine e5.bind ?_ fun _=>trivial
         unfold asBool;split<;>trivial
       · simp only[execOp,aV]
         exact e5.bind (Sf _ _ _) fun _=>trivial
     · exact h.elim
theorem y2 (an:cR e a) (h:tp P o K e):∃v,(∀J,(execOp a.eval o).run P J= .ok (.value v) J)∧K v:=by
 unfold tp at h
 split at h
 · rename_i v al
   exact ⟨v,HX an al,h⟩
 · exact h.elim
theorem Sg (an:cR e a) (h:Cu P aO W w o K e):∃v,(∀J,(jT o=true→aq W w J)→(execOp a.eval o).run P J= .ok (.value v) J)∧K v:=by
 have cA:(∃v,(∀J,(execOp a.eval o).run P J= .ok (.value v) J)∧K v)→∃v,(∀J,(jT o=true→aq W w J)→(execOp a.eval o).run P J= .ok (.value v) J)∧K v:=
   fun ⟨v,U,ab⟩=>⟨v,fun J _=>U J,ab⟩
 unfold Cu at h
 split at h
 case h_1 x aV=>
   split at h
   · rename_i p af
     obtain ⟨A,rfl,aJ⟩:=h
     exact ⟨_,fun J _=>by simp[execOp,aV,an.aP af],aJ⟩
   · exact h.elim
 case h_2 T x aV=>
   split at h
   · rename_i A af
     obtain ⟨e0,h⟩:=h
     have key:∃v,(∀J,aq W w J→(Instr.loadAt T (.pointer (some A))).run P J= .ok v J)∧K v:=by
       have aT:∀J,(Instr.loadAt T (.pointer (some A))).run P J=(loadVar T A).run P J:=fun J=>by simp[Instr.loadAt,Instr.sureAddr]
       unfold tg at h
       split at h
       · exact h.elim
       · rename_i d aQ
         cases ax:g4 d with
         |true=>
           rw[ax] at h
           simp only[cond_true] at h
           split at h
           · rename_i ls _
             by_cases ad:Nat.beq (P.cellsOf T) ls.length=true
             · rw[ad] at h
               simp only[cond_true] at h
               obtain ⟨vs,hL,h⟩:=Cj h
               rw[←h3 ad] at hL
               exact ⟨_,fun J ai=>by rw[aT,yP aQ ax (ai.bR e0 _ _ _ hL)],h⟩
             · simp only[eM] at ad;rw[ad] at h;exact h.elim
           · obtain ⟨cs,dn,h⟩:=h
             exact ⟨_,fun J ai=>by rw[aT,yP aQ ax (ai.bR e0 _ _ _ dn)],h⟩
         |false=>
           rw[ax] at h
           simp only[cond_false] at h
           split at h
           · obtain ⟨v,al,h⟩:=te h
             exact ⟨v,fun J ai=>by rw[aT,HB aQ ax (ai.cell e0 al)],h⟩
           · exact h.elim
     obtain ⟨v,al,aJ⟩:=key
     exact ⟨v,fun J ai=>by simp[execOp,aV,an.aP af,al J (ai (by unfold jT;rw[aV]))],aJ⟩
   · exact h.elim
 case h_3 op T x y HU aV=>
   split at h
   · rename_i cq kY af aZ
     by_cases ay:tm y kY=true
     · rw[ay] at h
       simp only[cond_true] at h
       have Cm:kY= .nilIface→∃c,y= .const c:=by
         intro al
         subst al
         cases y<;>simp[tm] at ay⊢
       rcases HH (vL:=x) (tj:=y) Cm h with bu|⟨v,al,aJ⟩
       · exact cA (y2 an bu)
       · exact ⟨v,fun J _=>by
           simp only[execOp,aV,an.aP af,an.aP aZ]
           have jF:=al J
           simp only[Sem.run_bind] at jF⊢
           rw[jF];rfl,aJ⟩
     · simp only[eM] at ay;rw[ay] at h;exact h.elim
   · exact h.elim
 case h_4 T x i aV=>
   split at h
   · rename_i cq gH af hi
     obtain ⟨v,al,aJ⟩:=HJ h
     exact ⟨v,fun J _=>by simp[execOp,aV,an.aP af,an.aP hi,al],aJ⟩
   · exact h.elim
 case h_5 T x i aV=>
   split at h
   · rename_i cq gH af hi
     obtain ⟨v,al,aJ⟩:=HL h
     exact ⟨v,fun J _=>by simp[execOp,aV,an.aP af,an.aP hi,al],aJ⟩
   · exact h.elim
 case h_6 T x i aV=>
   split at h
   · rename_i cq af
     obtain ⟨v,al,aJ⟩:=HM h
     exact ⟨v,fun J _=>by simp[execOp,aV,an.aP af,al],aJ⟩
   · exact h.elim
 case h_7 T x i aV=>
   split at h
   · rename_i cq af
     unfold H4 at h
     split at h
     · rename_i fs aQ
       split at h
       · rename_i f aI
         split at h
         · rename_i A
           split at h
           · rename_i d ax
             cases bI:Nat.beq (P.cellsOf f.type) 0 with
             |true=>rw[bI] at h;exact h.elim
             |false=>
               rw[bI] at h
               have yY:¬P.cellsOf f.type=0:=fun bA=>by rw[bA] at bI;cases bI
               exact ⟨_,fun J _=>by simp[execOp,aV,an.aP af,Instr.fieldAt,ck aQ,aI,Instr.sureAddr,fieldPlace,ix ax,yY],h⟩
           · exact h.elim
         · exact h.elim
       · exact h.elim
     · exact h.elim
   · exact h.elim
 case h_8 x i aV=>
   split at h
   · rename_i cq af
     unfold H5 at h
     split at h
     · rename_i vs
       split at h
       · rename_i v al
         exact ⟨v,fun J _=>by simp[execOp,aV,an.aP af,Instr.extract,al],h⟩
       · exact h.elim
     · exact h.elim
   · exact h.elim
 case h_9 T x lo hi kW aV=>
   by_cases aa:known e o.op.operands=true
   · rw[aa] at h
     simp only[cond_true] at h
     have ai:=kZ an (by rw[aV];rfl) aa
     obtain ⟨v,al,aJ⟩:=HN h
     exact ⟨v,fun J _=>by rw[ai];simp[execOp,aV,al],aJ⟩
   · simp only[eM] at aa;rw[aa] at h;exact h.elim
 case h_10 s d x aV=>
   split at h
   · exact cA (y2 an h)
   · rename_i v _ af
     obtain ⟨r,aC,aJ⟩:=il h
     exact ⟨r,fun J ai=>by simp[execOp,aV,an.aP af,aC J (ai (by unfold jT;rw[aV]))],aJ⟩
   · exact h.elim
 case h_11 t bJ aV=>
   by_cases aa:known e o.op.operands=true
   · rw[aa] at h
     simp only[cond_true] at h
     have ai:=kZ an (by rw[aV];rfl) aa
     obtain ⟨cs,aC,aJ⟩:=h
     exact ⟨_,fun J _=>by rw[ai];simp[execOp,aV];rw[aC];rfl,aJ⟩
   · simp only[eM] at aa;rw[aa] at h;exact h.elim
 case h_12=>exact cA (y2 an h)
 case h_13=>exact cA (y2 an h)
 case h_14=>exact cA (Cv an h)
 case h_15=>exact cA (Cv an h)
 case h_16=>exact cA (Cv an h)
 case h_17 T x aV=>
   split at h
   · rename_i cq af
     obtain ⟨v,al,aJ⟩:=HI h
     exact ⟨v,fun J _=>by simp[execOp,aV,an.aP af,al],aJ⟩
   · exact h.elim
 case h_18=>exact h.elim
end
inductive hM where
 |take (i:Nat) (t:hM)
 |e_ (i:Nat) (t:hM)
 |out (i:Nat) (b:Bool) (t:hM)
 |two (i:Nat) (t:hM) (j:Nat) (u:hM)
 |three (i:Nat) (t:hM) (j:Nat) (u:hM) (k:Nat) (v:hM)
 |sp (s:Nat) (t u:hM)
 |fin
 |tail (as:List ov)
def hV:List Nat→Nat
 | []=>0
 |d::l=>2^d|||hV l
theorem ox:∀ (l:List Nat) (k:Nat),(hV l).testBit k=decide (k∈l)
 | [],k=>by simp[hV]
 |d::l,k=>by
   simp only[hV,qv,ox l k,uh]
   by_cases h:d=k
   · subst h;simp
   · have:¬k=d:=fun hD=>h hD.symm
     simp[h,this]
def qa (o:Oper):List Nat:=(o.after.toList.filter fun e=>Region.binds .any e).map (·.on)
structure k0 where
 M:List Nat
 A:List Nat
def k1 (l:List Nat) (i:Nat):Nat:=l.getD i 0
def k2 (bj:k0) (m i:Nat):Bool:= !(m.testBit i)&&Nat.beq (k1 bj.M i&&&m) (k1 bj.M i)
def H6 (bj:k0) (N m i:Nat):Bool:=Nat.beq (k1 bj.A i&&&((2^N-1)^^^m)) 0
def l6 (bj:k0) (m:Nat) (is:List Nat):Nat→Bool
 |0=>true
 |k+1=>(is.any (Nat.beq k)|| !(k2 bj m k))&&l6 bj m is k
def vW (bj:k0):Nat→List Oper→Bool
 |_,[]=>true
 |i,o::l=>Nat.beq (hV (qa o)) (k1 bj.M i)&&vW bj (i+1) l
def vX (M:List Nat) (rG i rH rI:Nat):Nat→List Nat→List Nat→List Nat→Bool
 |j,tq::tr,qb::kq,tt::kr=>(rG.testBit j||(Nat.beq i j||(tq.testBit i||(Nat.beq (rH&&&(tt|||qb)) 0&&Nat.beq (qb&&&rI) 0))))&&vX M rG i rH rI (j+1) tr kq kr
 |_,_,_,_=>true
def y3 (bj:k0) (D K:List Nat):Nat→List Nat→List Nat→Bool
 |i,d::kq,k::kr=>vX bj.M (k1 bj.A i) i d k 0 bj.M D K&&y3 bj D K (i+1) kq kr
 |_,_,_=>true
def H7 (ops:List Oper):List Nat:=ops.map fun o=>hV o.dst.toList
def H8 (rJ:Array Oper) (ops:List Oper):List Nat:=ops.map fun o=>hV (o.looksAt rJ)
def vY:List Nat→List Nat→Bool
 | [],[]=>true
 |a::l,b::r=>Nat.beq a b&&vY l r
 |_,_=>false
theorem Cw:∀ {l r:List Nat},vY l r=true→l=r
 | [],[],_=>rfl
 |a::l,b::r,h=>by
   simp only[vY,eL] at h
   rw[h3 h.1,Cw h.2]
def nf (bj:k0) (D K:List Nat) (rJ:Array Oper):Bool:=
 Nat.beq bj.M.length rJ.size&&(vW bj 0 rJ.toList&&(vY (H7 rJ.toList) D&&(vY (H8 rJ rJ.toList) K&&y3 bj D K 0 D K)))
def vZ (bj:k0):Nat→Nat→Nat→Nat→Bool
 |0,_,N,m=>l6 bj m [] N
 |g+1,k,N,m=>(k2 bj m k&&l6 bj m [k] N)&&vZ bj g (k+1) N (m|||2^k)
def cS (P:Program) (aO:TypeId→ez) (ops:Array Oper) (n:Nat) (bj:k0) (W:Nat→Prop):hM→Nat→Nat→(Env→World→Prop)→Env→World→Prop
 | .take i t,f+1,m,K,e,w=>
   bif k2 bj m i&&(H6 bj ops.size m i&&Nat.blt i n) then
     match ops[i]? with
     |some o=>gr ops o e (Cu P aO W w o (fun v=>cS P aO ops n bj W t f (m|||2^i) K (cD o.dst v e) w) e) (cS P aO ops n bj W t f (m|||2^i) K (cD o.dst undef e) w)
     |none=>False
   else False
 | .e_ i t,f+1,m,K,e,w=>
   bif (k2 bj m i&&l6 bj m [i] ops.size)&&Nat.blt i n then
     match ops[i]? with
     |some o=>gr ops o e (kp P aO o (fun v J=>aq W w J∧cS P aO ops n bj W t f (m|||2^i) K (cD o.dst v e) J) e w) (cS P aO ops n bj W t f (m|||2^i) K (cD o.dst undef e) w)
     |none=>False
   else False
 | .out i b t,f+1,m,K,e,w=>
   bif (k2 bj m i&&l6 bj m [i] ops.size)&&(Nat.blt i n&&Nat.beq ((l5 0 ops.toList&&&m)&&&k1 bj.M i) (l5 0 ops.toList&&&m)) then
     match ops[i]? with
     |some o=>gr ops o e (kp P aO o (fun v J=>bif b then ∃V:Nat→Prop,cS P aO ops n bj V t f (m|||2^i) K (cD o.dst v e) J else cS P aO ops n bj W t f (m|||2^i) K (cD o.dst v e) J) e w) (cS P aO ops n bj W t f (m|||2^i) K (cD o.dst undef e) w)
     |none=>False
   else False
 | .two i t j u,f+1,m,K,e,w=>
   bif (k2 bj m i&&l6 bj m [i,j] ops.size)&&(Nat.blt i n&&Nat.blt j n) then
     match ops[i]?,ops[j]? with
     |some o,some q=>
       gr ops o e (kp P aO o (fun v J=>aq W w J∧cS P aO ops n bj W t f (m|||2^i) K (cD o.dst v e) J) e w) (cS P aO ops n bj W t f (m|||2^i) K (cD o.dst undef e) w)∧
       gr ops q e (kp P aO q (fun v J=>aq W w J∧cS P aO ops n bj W u f (m|||2^j) K (cD q.dst v e) J) e w) (cS P aO ops n bj W u f (m|||2^j) K (cD q.dst undef e) w)
     |_,_=>False
   else False
 | .three i t j u k x,f+1,m,K,e,w=>
   bif (k2 bj m i&&l6 bj m [i,j,k] ops.size)&&(Nat.blt i n&&(Nat.blt j n&&Nat.blt k n)) then
     match ops[i]?,ops[j]?,ops[k]? with
     |some o,some q,some r=>
       gr ops o e (kp P aO o (fun v J=>aq W w J∧cS P aO ops n bj W t f (m|||2^i) K (cD o.dst v e) J) e w) (cS P aO ops n bj W t f (m|||2^i) K (cD o.dst undef e) w)∧
       gr ops q e (kp P aO q (fun v J=>aq W w J∧cS P aO ops n bj W u f (m|||2^j) K (cD q.dst v e) J) e w) (cS P aO ops n bj W u f (m|||2^j) K (cD q.dst undef e) w)∧
       gr ops r e (kp P aO r (fun v J=>aq W w J∧cS P aO ops n bj W x f (m|||2^k) K (cD r.dst v e) J) e w) (cS P aO ops n bj W x f (m|||2^k) K (cD r.dst undef e) w)
     |_,_,_=>False
   else False
 | .sp s t u,f,m,K,e,w=>
   match e.get s with
   |some (.bool c)=>(c=true→cS P aO ops n bj W t f m K ((s, .bool true)::e) w)∧(c=false→cS P aO ops n bj W u f m K ((s, .bool false)::e) w)
   |_=>False
 | .fin,0,m,K,e,w=>bif l6 bj m [] ops.size&&Nat.beq n ops.size then K e w else False
 | .tail as,0,m,K,e,w=>bif vZ bj (ops.size-n) n ops.size m&&Nat.blt n ops.size then e3 P aO ops (ops.size-n+1) (ops.toList.drop n) as K e w else False
 |_,_,_,_,_,_=>False
def dw (N m:Nat):Array Bool:=(Array.range N).map fun i=>m.testBit i
theorem tu {N m i:Nat} {d:Bool} (h:i<N):(dw N m).getD i d=m.testBit i:=by
 simp[dw,h]
theorem Sh {N m i:Nat} {d:Bool} (h:N≤i):(dw N m).getD i d=d:=by
 simp[dw,h]
theorem y4 (N m i:Nat):(dw N m).setIfInBounds i true=dw N (m|||2^i):=by
 apply Array.ext
 · simp[dw]
 · intro j U ab
   have bb:j<N:=by simpa[dw] using ab
   have aw:j<(dw N m).size:=by simpa[dw] using bb
   rw[Array.getElem_setIfInBounds aw]
   simp only[dw,Array.getElem_map,Array.getElem_range,qv,uh]
   by_cases uY:i=j
   · subst uY;simp
   · simp[uY]
theorem H9 (N:Nat):dw N 0=Array.replicate N false:=by
 apply Array.ext
 · simp[dw]
 · intro j U ab
   simp[dw]
section
variable {ops:Array Oper} {bj:k0} {D K:List Nat}
theorem H_:∀ (l:List Oper) (i k:Nat) (o:Oper),vW bj i l=true→l[k]? =some o→k1 bj.M (i+k)=hV (qa o)
 | [],_,_,_,_,h=>by simp at h
 |p::l,i,0,o,ai,h=>by
   simp only[vW,eL] at ai
   simp only[sd,Option.some.injEq] at h
   subst h
   exact (h3 ai.1).symm
 |p::l,i,k+1,o,ai,h=>by
   simp only[vW,eL] at ai
   have:=H_ l (i+1) k o ai.2 (by simpa using h)
   rw[show i+(k+1)=i+1+k by omega]
   exact this
theorem y5 (h:nf bj D K ops=true) {i:Nat} {o:Oper} (a6:ops[i]? =some o):k1 bj.M i=hV (qa o):=by
 simp only[nf,eL] at h
 have:=H_ ops.toList 0 i o h.2.1 (by simpa using a6)
 simpa using this
theorem Ia {a b:Nat} (h:a&&&b=a) {k:Nat} (aa:a.testBit k=true):b.testBit k=true:=by
 have:=congrArg (fun x=>x.testBit k) h
 simp only[Nat.testBit_and,aa,jx] at this
 exact this
theorem Ib:∀ (l:List Oper) (i k:Nat) (o:Oper),l[k]? =some o→(l5 i l).testBit (i+k)=jT o
 | [],_,_,_,h=>by simp at h
 |p::l,i,0,o,h=>by
   simp only[sd,Option.some.injEq] at h
   subst h
   have low:∀ (l:List Oper) (i k:Nat),k<i→(l5 i l).testBit k=false:=by
     intro l
     induction l with
     |nil=>intro i k _;simp[l5]
     |cons q l bV=>
       intro i k aa
       simp only[l5]
       cases jT q
       · exact bV (i+1) k (by omega)
       · simp only[cond_true,qv,uh,bV (i+1) k (by omega),Bool.or_false,k7]
         omega
   simp only[l5,Nat.add_zero]
   cases jT p
   · exact low l (i+1) i (by omega)
   · simp[qv]
 |p::l,i,k+1,o,h=>by
   have:=Ib l (i+1) k o (by simpa using h)
   rw[show i+1+k=i+(k+1) by omega] at this
   simp only[l5]
   cases jT p
   · exact this
   · simp only[cond_true,qv,uh,this]
     simp
theorem y6 {o:Oper} {k:Nat}:k∈qa o↔∃e∈o.after,Region.binds .any e=true∧e.on=k:=by
 simp only[qa,eK,qt,Array.mem_toList_iff]
 constructor
 · rintro ⟨e,⟨U,ab⟩,aw⟩;exact ⟨e,U,ab,aw⟩
 · rintro ⟨e,U,ab,aw⟩;exact ⟨e,⟨U,ab⟩,aw⟩
def Small (N m:Nat):Prop:=∀k,N≤k→m.testBit k=false
theorem Si (N:Nat):Small N 0:=fun k _=>by simp
theorem y7 {N m i:Nat} (h:Small N m) (hi:i<N):Small N (m|||2^i):=fun k aa=>by
 simp only[qv,h k aa,uh,k8,k7]
 omega
theorem y8 (ai:nf bj D K ops=true) {m i:Nat} (hm:Small ops.size m):i∈Region.ready .any ops (dw ops.size m)↔i<ops.size∧k2 bj m i=true:=by
 rw[mem_ready]
 constructor
 · rintro ⟨U,o,a6,dN⟩
   have hi:i<ops.size:=(nt.1 a6).1
   refine ⟨hi,?_⟩
   rw[tu hi] at U
   simp only[k2,U,Bool.not_false,jx]
   rw[y5 ai a6]
   have:hV (qa o)&&&m=hV (qa o):=by
     apply Nat.eq_of_testBit_eq
     intro k
     simp only[Nat.testBit_and,ox]
     by_cases aa:k∈qa o
     · obtain ⟨e,he,ad,v7⟩:=y6.1 aa
       have ab:=dN e he ad
       rw[v7] at ab
       rcases gd k ops.size with aS|bS
       · rw[tu aS] at ab;simp[aa,ab]
       · rw[Sh bS] at ab;cases ab
     · simp[aa]
   rw[this];exact Nat.beq_refl _
 · rintro ⟨hi,h⟩
   simp only[k2,eL,mh] at h
   have a6:ops[i]? =some ops[i]:=by simp[hi]
   refine ⟨by rw[tu hi];exact h.1,ops[i],a6,fun e he ad=> ?_⟩
   have ab:=h3 h.2
   rw[y5 ai a6] at ab
   have aw:m.testBit e.on=true:=Ia ab (by
     rw[ox];simp only[c1];exact y6.2 ⟨e,he,ad,rfl⟩)
   have aS:e.on<ops.size:=by
     rcases gd e.on ops.size with h|h
     · exact h
     · rw[hm _ h] at aw;cases aw
   rw[tu aS];exact aw
theorem Ic:∀ (N:Nat) {m:Nat} {is:List Nat},l6 bj m is N=true→∀k,k<N→k2 bj m k=true→k∈is
 |0,_,_,_,k,aa,_=>by omega
 |N+1,m,is,h,k,aa,aC=>by
   simp only[l6,eL,kv,mh] at h
   rcases gd k N with U|U
   · exact Ic N h.2 k U aC
   · have:k=N:=by omega
     subst this
     rcases h.1 with ab|ab
     · obtain ⟨x,af,ad⟩:=List.any_eq_true.1 ab
       rw[h3 ad];exact af
     · rw[aC] at ab;cases ab
theorem rK (ai:nf bj D K ops=true) {m:Nat} {is:List Nat} (hm:Small ops.size m) (h:l6 bj m is ops.size=true):
   ∀k∈Region.ready .any ops (dw ops.size m),k∈is:=fun k aa=>
 let ⟨U,ab⟩:=(y8 ai hm).1 aa
 Ic _ h k U ab
theorem Ie:∀ (tr kq kr:List Nat) (Cx:List Nat) (rG i rH rI j k:Nat) (tq qb tt:Nat),vX Cx rG i rH rI j tr kq kr=true→tr[k]? =some tq→kq[k]? =some qb→kr[k]? =some tt→
   rG.testBit (j+k)=true∨i=j+k∨tq.testBit i=true∨(rH&&&(tt|||qb)=0∧qb&&&rI=0)
 | [],_,_,_,_,_,_,_,_,_,_,_,_,_,h,_,_=>by simp at h
 |_::_,[],_,_,_,_,_,_,_,_,_,_,_,_,_,h,_=>by simp at h
 |_::_,_::_,[],_,_,_,_,_,_,_,_,_,_,_,_,_,h=>by simp at h
 |Vn::tr,Vo::kq,Vp::kr,Cx,rG,i,rH,rI,j,k,tq,qb,tt,ai,U,ab,aw=>by
   simp only[vX,eL,kv] at ai
   cases k with
   |zero=>
     simp only[sd,Option.some.injEq] at U ab aw
     subst U ab aw
     rcases ai.1 with h|h|h|h
     · exact .inl h
     · exact .inr (.inl (h3 h))
     · exact .inr (.inr (.inl h))
     · exact .inr (.inr (.inr ⟨h3 h.1,h3 h.2⟩))
   |succ k=>
     have:=Ie tr kq kr Cx rG i rH rI (j+1) k tq qb tt ai.2 (by simpa using U) (by simpa using ab) (by simpa using aw)
     rw[show j+(k+1)=j+1+k by omega]
     exact this
theorem Ig:∀ (kq kr:List Nat) (i k:Nat) (y9 y_:Nat),y3 bj D K i kq kr=true→kq[k]? =some y9→kr[k]? =some y_→
   vX bj.M (k1 bj.A (i+k)) (i+k) y9 y_ 0 bj.M D K=true
 | [],_,_,_,_,_,_,h,_=>by simp at h
 |_::_,[],_,_,_,_,_,_,h=>by simp at h
 |d::kq,Vq::kr,i,k,y9,y_,ai,U,ab=>by
   simp only[y3,eL] at ai
   cases k with
   |zero=>
     simp only[sd,Option.some.injEq] at U ab
     subst U ab
     exact ai.1
   |succ k=>
     have:=Ig kq kr (i+1) k y9 y_ ai.2 (by simpa using U) (by simpa using ab)
     rw[show i+(k+1)=i+1+k by omega]
     exact this
theorem Cy {a b:Nat} (h:a&&&b=0) {k:Nat} (aH:a.testBit k=true):b.testBit k=false:=by
 have:=congrArg (fun x=>x.testBit k) h
 simp only[Nat.testBit_and,aH,jx,Nat.zero_testBit] at this
 exact this
theorem Sj {x y:Oper} (U:hV x.dst.toList&&&(hV (y.looksAt ops)|||hV y.dst.toList)=0) (ab:hV y.dst.toList&&&hV (x.looksAt ops)=0):
   x.apart ops y=true:=by
 unfold Oper.apart
 simp only[eL]
 refine ⟨?_,?_⟩
 · cases af:x.dst with
   |none=>rfl
   |some d=>
     rw[af] at U
     have aw:=Cy U (k:=d) (by rw[ox];simp)
     simp only[qv,ox,ud,k7] at aw
     simp only[eL,mh,bne_iff_ne,ne_eq]
     refine ⟨by simpa using aw.1,fun h=> ?_⟩
     rw[h] at aw
     simp at aw
 · cases aZ:y.dst with
   |none=>rfl
   |some d=>
     rw[aZ] at ab
     have aw:=Cy ab (k:=d) (by rw[ox];simp)
     simp only[ox,k7] at aw
     simpa using aw
theorem Sk (ai:nf bj D K ops=true) {m i:Nat} {k3:Oper} (hi:ops[i]? =some k3) (h:H6 bj ops.size m i=true):
   ∀j hW,ops[j]? =some hW→j≠i→(dw ops.size m).getD j true=false→(∀e∈hW.after,Region.binds .any e=true→e.on≠i)→k3.apart ops hW=true:=by
 intro j hW bb jr fB fH
 have ob:=ai
 simp only[nf,eL] at ai
 obtain ⟨hlen,v8,pX,aJ,an⟩:=ai
 have Vr:=h3 hlen
 have Sl:=Cw pX
 have Sm:=Cw aJ
 have Ih:j<ops.size:=(nt.1 bb).1
 have Ii:∀ {k:Nat} {o:Oper},ops[k]? =some o→D[k]? =some (hV o.dst.toList):=fun {k o} a6=>by
   rw[←Sl];simp[H7,a6]
 have Ij:∀ {k:Nat} {o:Oper},ops[k]? =some o→K[k]? =some (hV (o.looksAt ops)):=fun {k o} a6=>by
   rw[←Sm];simp[H8,a6]
 have Cz:=Ig D K 0 i _ _ an (Ii hi) (Ij hi)
 have Sn:bj.M[j]? =some (k1 bj.M j):=by
   unfold k1
   have:j<bj.M.length:=by omega
   simp[List.getD,this]
 have:=Ie bj.M D K bj.M _ _ _ _ 0 j _ _ _ Cz Sn (Ii bb) (Ij bb)
 simp only[e6] at this
 rcases this with U|U|U|U
 · exfalso
   have ab:=h3 h
   have aw:=Cy ab U
   rw[tu Ih] at fB
   simp[Nat.testBit_xor,Nat.testBit_two_pow_sub_one,Ih,fB] at aw
 · exact absurd U.symm jr
 · exfalso
   rw[y5 ob bb,ox] at U
   simp only[c1] at U
   obtain ⟨e,he,ad,v7⟩:=y6.1 U
   exact fH e he ad v7
 · exact Sj U.1 U.2
end
def rL (ops:Array Oper) (cv:Array Bool) (j:Nat):Prop:=
 ∀k ok hW,ops[k]? =some ok→ops[j]? =some hW→jT ok=true→cv.getD k false=true→∃e∈hW.after,Region.binds .any e=true∧e.on=k
def ng (P:Program) (ops:Array Oper) (Q:Exit→Act→World→Prop) (n:Nat) (L:Array Bool→Act→World→Prop):Nat→(World→Prop)→Array Bool→Act→World→Prop
 |0,_,cv,a,w=>L cv a w
 |f+1,S,cv,a,w=>Region.ready .any ops cv≠ []∧
     ∀i∈Region.ready .any ops cv,i<n∧wpOp P ops Q i (fun a' J=>∃dE:World→Prop,((∀x,dE x→S x)∨rL ops cv i)∧dE J∧ng P ops Q n L f dE (cv.setIfInBounds i true) a' J) a w
def v_ (ops:Array Oper) (n:Nat):Prop:=
 ∀cv,HeadInv .any ops n cv→∀i,i<n→cv.getD i true=false→∀t,n≤t→t∉Region.ready .any ops cv
theorem Sp (ops:Array Oper):v_ ops ops.size:=by
 intro cv _ i _ _ t bx aC
 obtain ⟨_,o,a6,_⟩:=mem_ready.1 aC
 have:=(nt.1 a6).1
 omega
theorem Sq {ops:Array Oper} {n:Nat} (ao:Region.sinkB .any ops n=true) (ai:Region.chainB .any ops n=true) (ay:n<ops.size):v_ ops n:=
 fun _ inv i hi fB t bx=>tail_waits ao ai ay inv _ i rfl hi fB t bx
section
variable {P:Program} {ops:Array Oper} {Q:Exit→Act→World→Prop} {n:Nat} {L:Array Bool→Act→World→Prop}
theorem YieldsIf.mono {S dE:World→Prop} {o:Oper} {v:Value} {a:Act} (h:YieldsIf P ops S o v a) (ao:∀x,dE x→S x):YieldsIf P ops dE o v a:=
 h.imp (fun ⟨U,ab⟩=>⟨U,fun w hw=>ab w (ao w hw)⟩) id
theorem Sr (tv:v_ ops n) {i:Nat} {k3:Oper} {v:Value} (hi:ops[i]? =some k3) (za:∀ (j:Nat) (o:Oper) cs b,ops[j]? =some o→o.op≠ .select cs b)
   (An:∀c a w,Q (.panic c) (a.put k3.dst v) w→Q (.panic c) a w) (fN:i<n) (Ss:∀cv a w,L cv a w→∀j∈Region.ready .any ops cv,n≤j):
   ∀ (f:Nat) (S T:World→Prop) (cv:Array Bool) (a:Act) (w:World),(∀x,S x→T x)→(jT k3=true∨∀x,T x)→HeadInv .any ops n cv→
     (∀j hW,ops[j]? =some hW→j≠i→cv.getD j true=false→(∀e∈hW.after,Region.binds .any e=true→e.on≠i)→k3.apart ops hW=true)→
     i∈Region.ready .any ops cv→YieldsIf P ops T k3 v a→S w→
     ng P ops Q n L f S (cv.setIfInBounds i true) (a.put k3.dst v) w→ng P ops Q n L (f+1) S cv a w:=by
 intro f
 induction f with
 |zero=>
   intro S T cv a w zb Ik inv _ aC aZ j6 H
   have fB:=(mem_ready.1 aC).1
   refine ⟨fun h=>(by rw[h] at aC;cases aC),fun j bb=> ?_⟩
   have wa:j<n:=by
     rcases gd j n with h|h
     · exact h
     · exact absurd bb (tv cv inv i fN fB j h)
   refine ⟨wa,?_⟩
   by_cases jr:j=i
   · subst jr;exact (YieldsIf.mono aZ zb).wpOp hi j6 ⟨S, .inl fun _ h=>h,j6,H⟩
   · have:=Ss _ _ _ H j (ready_mono bb jr)
     omega
 |succ f bV=>
   intro S T cv a w zb Ik inv Il aC aZ j6 H
   have fB:=(mem_ready.1 aC).1
   refine ⟨fun h=>(by rw[h] at aC;cases aC),fun j bb=> ?_⟩
   have wa:j<n:=by
     rcases gd j n with h|h
     · exact h
     · exact absurd bb (tv cv inv i fN fB j h)
   refine ⟨wa,?_⟩
   by_cases jr:j=i
   · subst jr;exact (YieldsIf.mono aZ zb).wpOp hi j6 ⟨S, .inl fun _ h=>h,j6,H⟩
   · have U:=(H.2 j (ready_mono bb jr)).2
     obtain ⟨Im,hW,zc,dN⟩:=mem_ready.1 bb
     have Io:∀e∈hW.after,Region.binds .any e=true→e.on≠i:=fun e he ad heq=>by
       have U:=dN e he ad
       rw[heq,getD_both fB] at U
       cases U
     have ab:=wpOp_putIf zc (Il j hW zc jr Im Io) (fun cs b=>za i k3 cs b hi) (fun cs b=>za j hW cs b zc) An aZ U
     have Ip:∀k ok,ops[k]? =some ok→k≠i→(cv.setIfInBounds j true).getD k true=false→
         (∀e∈ok.after,Region.binds .any e=true→e.on≠i)→k3.apart ops ok=true:=fun k ok aa ic fB fH=>by
       refine Il k ok aa ic ?_ fH
       by_cases AQ:j=k
       · subst AQ;exact Im
       · rw[getD_set_ne true AQ] at fB;exact fB
     refine wpOp_mono (fun a' J aw=> ?_) ab
     obtain ⟨Iq,dE,eD,zd,v8⟩:=aw
     have CA:=v8
     rw[←Array.setIfInBounds_comm _ _ jr] at CA
     have CB:rL ops (cv.setIfInBounds i true) j→rL ops cv j:=fun aU k ok St aa nT ao aB=>aU k ok St aa nT ao (by
       by_cases mz:i=k
       · subst mz
         have:cv.getD i true=true:=by
           simp only[Array.getD] at aB⊢
           split at aB
           · rename_i aS;simp[aS] at aB⊢;exact aB
           · cases aB
         rw[this] at fB;cases fB
       · simp only[Array.getD,Array.size_setIfInBounds] at aB⊢
         split at aB
         · rename_i aS
           simp only[aS,dif_pos]
           simp only[Array.getInternal_eq_getElem] at aB⊢
           rw[Array.getElem_setIfInBounds_ne _ mz]
           exact aB
         · cases aB)
     rcases Ik with ao|Ir
     · have Is:∀x,dE x→S x:=by
         rcases eD with h|h
         · exact h
         · exfalso
           obtain ⟨e,he,ad,v7⟩:=h i k3 hW hi zc ao (by
             have aS:i<cv.size:=by
               rcases gd i cv.size with h|h
               · exact h
               · simp[Array.getD,Nat.not_lt.2 h] at fB
             simp[Array.getD,aS])
           exact Io e he ad v7
       exact ⟨dE, .inl Is,zd,bV dE T (cv.setIfInBounds j true) a' J (fun x af=>zb x (Is x af)) (.inl ao) (inv.set bb wa) Ip (ready_mono aC (Ne.symm jr)) Iq zd CA⟩
     · exact ⟨dE,eD.imp id CB,zd,bV dE T (cv.setIfInBounds j true) a' J (fun x _=>Ir x) (.inr Ir) (inv.set bb wa) Ip (ready_mono aC (Ne.symm jr)) Iq zd CA⟩
theorem It {g:Nat} (Iu:∀cv a w,L cv a w→wpAny P .any ops Q g cv a w):
   ∀ (f:Nat) (S:World→Prop) (cv:Array Bool) (a:Act) (w:World),ng P ops Q n L f S cv a w→wpAny P .any ops Q (f+g) cv a w
 |0,_,cv,a,w,h=>by rw[e6];exact Iu _ _ _ h
 |f+1,S,cv,a,w,h=>by
   rw[show f+1+g=(f+g)+1 by omega]
   exact ⟨fun bA=>absurd bA h.1,fun i hi=>wpOp_mono (fun a' J ⟨dE,_,_,hD⟩=>It Iu f dE _ a' J hD) (h.2 i hi).2⟩
def LE (P:Program) (ops:Array Oper) (Q:Exit→Act→World→Prop) (n:Nat) (cv:Array Bool) (a:Act) (w:World):Prop:=
 (Region.ready .any ops cv=[]∧n=ops.size∧Q .normal a w)∨
 (Region.seqB .any ops (ops.size-n) n cv=true∧n<ops.size∧wpList P ops Q (ops.toList.drop n) a w)
theorem Su:∀cv a w,LE P ops Q n cv a w→∀j∈Region.ready .any ops cv,n≤j:=by
 rintro cv a w (⟨h,_,_⟩|⟨h,ay,_⟩) j bb
 · rw[h] at bb;cases bb
 · exact seqB_ready h j bb
theorem Sv:∀cv a w,LE P ops Q n cv a w→wpAny P .any ops Q (ops.size-n) cv a w:=by
 rintro cv a w (⟨h,ay,ag⟩|⟨h,ay,ag⟩)
 · subst ay
   rw[Nat.sub_self]
   exact ⟨h,ag⟩
 · have:=wpAny_of_seq (md:= .any) (P:=P) (Q':=Q) (ops.toList.drop n) n cv a w (fun j=>by simp[wU]) (by simpa using h) ag
   simpa using this
end
section
variable {P:Program} {aO:TypeId→ez} {ops:Array Oper} {n:Nat} {bj:k0} {nh ni:List Nat} {W:Nat→Prop}
theorem Iv (ai:nf bj nh ni ops=true):∀ (g k m:Nat),Small ops.size m→k+g=ops.size→vZ bj g k ops.size m=true→Region.seqB .any ops g k (dw ops.size m)=true
 |0,k,m,hm,aa,h=>by
   simp only[vZ] at h
   simp only[Region.seqB,List.isEmpty_iff]
   cases aC:Region.ready .any ops (dw ops.size m) with
   |nil=>rfl
   |cons x l=>
     have:=rK ai hm h x (by rw[aC];simp)
     cases this
 |g+1,k,m,hm,aa,h=>by
   simp only[vZ,eL] at h
   simp only[Region.seqB,eL,c1]
   have xf:k<ops.size:=by omega
   have fj:k∈Region.ready .any ops (dw ops.size m):=(y8 ai hm).2 ⟨xf,h.1.1⟩
   refine ⟨?_,?_⟩
   · have dN:=rK ai hm h.1.2
     have jH:(Region.ready .any ops (dw ops.size m)).Nodup:=by
       unfold Region.ready
       exact List.Pairwise.filter _ List.nodup_range
     revert fj dN jH
     generalize Region.ready .any ops (dw ops.size m)=l
     intro fj dN jH
     match l,fj,dN,jH with
     | [],fj,_,_=>cases fj
     | [x],fj,dN,_=>rw[fE.1 (dN x (by simp))]
     |x::y::l,_,dN,jH=>
       have af:=fE.1 (dN x (by simp))
       have aZ:=fE.1 (dN y (by simp))
       simp[af,aZ] at jH
   · rw[y4]
     exact Iv ai g (k+1) (m|||2^k) (y7 hm xf) (by omega) h.2
theorem Sw (ai:nf bj nh ni ops=true) (tv:v_ ops n) (ay:n≤ops.size) (za:Region.noSelect ops=true) {a0:Act} (ad:∀d∈bf ops.toList,d<a0.tmps.size):
   ∀ (t:hM) (W:Nat→Prop) (f:Nat) (m:Nat) (K:Env→World→Prop) (e:Env) (a:Act) (w:World),cR e a→c5 (bf ops.toList) a0 a→Small ops.size m→HeadInv .any ops n (dw ops.size m)→
     cS P aO ops n bj W t f m K e w→ng P ops (fS a0 (bf ops.toList) K) n (LE P ops (fS a0 (bf ops.toList) K) n) f (aq W w) (dw ops.size m) a w:=by
 intro t
 have tw:∀ (i:Nat) (o:Oper),ops[i]? =some o→∀k,o.dst=some k→k∈bf ops.toList:=by
   intro i o a6 k aa
   simp only[bf,List.mem_filterMap]
   exact ⟨o,by simpa using Array.mem_of_getElem? a6,aa⟩
 have tx:∀ (W:Nat→Prop) (t:hM),(∀ (W:Nat→Prop) (f:Nat) (m:Nat) (K:Env→World→Prop) (e:Env) (a:Act) (w:World),cR e a→c5 (bf ops.toList) a0 a→Small ops.size m→HeadInv .any ops n (dw ops.size m)→
     cS P aO ops n bj W t f m K e w→ng P ops (fS a0 (bf ops.toList) K) n (LE P ops (fS a0 (bf ops.toList) K) n) f (aq W w) (dw ops.size m) a w)→
     ∀ (f:Nat) (m:Nat) (K:Env→World→Prop) (e:Env) (a:Act) (w:World) (i:Nat) (o:Oper),cR e a→c5 (bf ops.toList) a0 a→Small ops.size m→HeadInv .any ops n (dw ops.size m)→
     i∈Region.ready .any ops (dw ops.size m)→i<n→ops[i]? =some o→
     gr ops o e (kp P aO o (fun v J=>aq W w J∧cS P aO ops n bj W t f (m|||2^i) K (cD o.dst v e) J) e w) (cS P aO ops n bj W t f (m|||2^i) K (cD o.dst undef e) w)→
     wpOp P ops (fS a0 (bf ops.toList) K) i (fun a' J=>∃dE:World→Prop,((∀x,dE x→aq W w x)∨rL ops (dw ops.size m) i)∧dE J∧ng P ops (fS a0 (bf ops.toList) K) n (LE P ops (fS a0 (bf ops.toList) K) n) f dE ((dw ops.size m).setIfInBounds i true) a' J) a w:=by
   intro W t bV f m K e a w i o an aa hm inv aC fN a6 h
   have next:∀ (v:Value) (J:World),aq W w J→cS P aO ops n bj W t f (m|||2^i) K (cD o.dst v e) J→
       ∃dE:World→Prop,((∀x,dE x→aq W w x)∨rL ops (dw ops.size m) i)∧dE J∧ng P ops (fS a0 (bf ops.toList) K) n (LE P ops (fS a0 (bf ops.toList) K) n) f dE ((dw ops.size m).setIfInBounds i true) (a.put o.dst v) J:=by
     intro v J Sx h
     have im:c5 (bf ops.toList) a (a.put o.dst v):=c5.put (tw i o a6)
     have hinv:=inv.set aC fN
     rw[y4] at hinv⊢
     exact ⟨aq W J, .inl fun x af=>Sx.trans af, .refl _ _,bV W f _ K _ _ J (an.put fun k cb=>by rw[aa.size];exact ad k (tw i o a6 k cb)) (aa.trans im) (y7 hm (by omega)) hinv h⟩
   unfold wpOp
   simp only[a6]
   rcases vS an h with ⟨hw,aU⟩|⟨hw,aU⟩
   · simp only[hw,if_true]
     exact .inl ((Cl an aU).wp fun v J ⟨U,ab⟩=>next v J U ab)
   · simp only[hw,gJ,if_false]
     exact next _ _ (.refl _ _) aU
 have ze:∀ {b c d:Bool} {X:Prop},(bif b&&(c&&d) then X else False)→b=true∧c=true∧d=true∧X:=by
   intro b c d X h
   cases b<;>cases c<;>cases d<;>first|exact h.elim|exact ⟨rfl,rfl,rfl,h⟩
 have CC:∀ {b c:Bool} {X:Prop},(bif b&&c then X else False)→b=true∧c=true∧X:=by
   intro b c X h
   cases b<;>cases c<;>first|exact h.elim|exact ⟨rfl,rfl,h⟩
 have blt:∀ {i j:Nat},Nat.blt i j=true→i<j:=fun h=>by
   have:=w5 h
   omega
 have ne_nil:∀ {m i:Nat},Small ops.size m→k2 bj m i=true→i<ops.size→Region.ready .any ops (dw ops.size m)≠ []:=fun hm h hi bA=>by
   have:=(y8 ai hm).2 ⟨hi,h⟩
   rw[bA] at this;cases this
 induction t with
 |take i t bV=>
   intro W f m K e a w an aa hm inv h
   cases f with
   |zero=>simp[cS] at h
   |succ f=>
     simp only[cS] at h
     obtain ⟨U,ab,aw,h⟩:=ze h
     have fN:=blt aw
     have aC:i∈Region.ready .any ops (dw ops.size m):=(y8 ai hm).2 ⟨by omega,U⟩
     split at h
     · rename_i o a6
       have fin:∀v,YieldsIf P ops (fun x=>jT o=true→aq W w x) o v a→cS P aO ops n bj W t f (m|||2^i) K (cD o.dst v e) w→
           ng P ops (fS a0 (bf ops.toList) K) n (LE P ops (fS a0 (bf ops.toList) K) n) (f+1) (aq W w) (dw ops.size m) a w:=by
         intro v aZ h
         have im:c5 (bf ops.toList) a (a.put o.dst v):=c5.put (tw i o a6)
         refine Sr tv a6 (Region.noSelect_spec za) (fun c a w ag=>by cases ag.1) fN Su f (aq W w) (fun x=>jT o=true→aq W w x) _ a w (fun _ h _=>h) (by cases ao:jT o<;>simp) inv (Sk ai a6 ab) aC aZ (.refl _ _) ?_
         have hinv:=inv.set aC fN
         rw[y4] at hinv⊢
         exact bV W f _ K _ _ w (an.put fun k cb=>by rw[aa.size];exact ad k (tw i o a6 k cb)) (aa.trans im) (y7 hm (by omega)) hinv h
       rcases vS an h with ⟨hw,aU⟩|⟨hw,aU⟩
       · obtain ⟨v,al,aJ⟩:=Sg an aU
         exact fin v (.inl ⟨hw,fun J ai=>al J ai⟩) aJ
       · exact fin undef (.inr ⟨hw,rfl⟩) aU
     · exact h.elim
 |e_ i t bV=>
   intro W f m K e a w an aa hm inv h
   cases f with
   |zero=>simp[cS] at h
   |succ f=>
     simp only[cS] at h
     obtain ⟨js,aw,h⟩:=CC h
     simp only[eL] at js
     have fN:=blt aw
     split at h
     · rename_i o a6
       refine ⟨ne_nil hm js.1 (by omega),fun j bb=> ?_⟩
       have jr:j=i:=by simpa using rK ai hm js.2 j bb
       subst jr
       exact ⟨fN,tx W t bV f m K e a w j o an aa hm inv bb fN a6 h⟩
     · exact h.elim
 |out i b t bV=>
   intro W f m K e a w an aa hm inv h
   cases f with
   |zero=>simp[cS] at h
   |succ f=>
     simp only[cS] at h
     obtain ⟨js,aw,aL,h⟩:=ze h
     simp only[eL] at js
     have fN:=blt aw
     have aL:=h3 aL
     split at h
     · rename_i o a6
       refine ⟨ne_nil hm js.1 (by omega),fun j bb=> ?_⟩
       have jr:j=i:=by simpa using rK ai hm js.2 j bb
       subst jr
       refine ⟨fN,?_⟩
       have CB:rL ops (dw ops.size m) j:=by
         intro k ok hW im nT ao aB
         have j4:k<ops.size:=(nt.1 im).1
         rw[tu j4] at aB
         have iA:(l5 0 ops.toList&&&m).testBit k=true:=by
           rw[Nat.testBit_and,aB,Bool.and_true]
           exact (Ib ops.toList 0 k ok (by simpa using im)).trans ao|>(by simpa using ·)
         have bt:(k1 bj.M j).testBit k=true:=Ia aL iA
         rw[y5 ai nT,ox] at bt
         simp only[c1] at bt
         exact y6.1 bt
       have next:∀ (v:Value) (J:World) (V:Nat→Prop),cS P aO ops n bj V t f (m|||2^j) K (cD o.dst v e) J→
           ∃dE:World→Prop,((∀x,dE x→aq W w x)∨rL ops (dw ops.size m) j)∧dE J∧ng P ops (fS a0 (bf ops.toList) K) n (LE P ops (fS a0 (bf ops.toList) K) n) f dE ((dw ops.size m).setIfInBounds j true) (a.put o.dst v) J:=by
         intro v J V h
         have im:c5 (bf ops.toList) a (a.put o.dst v):=c5.put (tw j o a6)
         have hinv:=inv.set bb fN
         rw[y4] at hinv⊢
         exact ⟨aq V J, .inr CB, .refl _ _,bV V f _ K _ _ J (an.put fun k cb=>by rw[aa.size];exact ad k (tw j o a6 k cb)) (aa.trans im) (y7 hm (by omega)) hinv h⟩
       unfold wpOp
       simp only[a6]
       rcases vS an h with ⟨hw,aU⟩|⟨hw,aU⟩
       · simp only[hw,if_true]
         refine .inl ((Cl an aU).wp fun v J ab=> ?_)
         cases b with
         |true=>
           obtain ⟨V,ab⟩:=ab
           exact next v J V ab
         |false=>exact next v J W ab
       · simp only[hw,gJ,if_false]
         exact next _ _ W aU
     · exact h.elim
 |two i t j u wb wc=>
   intro W f m K e a w an aa hm inv h
   cases f with
   |zero=>simp[cS] at h
   |succ f=>
     simp only[cS] at h
     obtain ⟨js,aw,aL,h⟩:=ze h
     simp only[eL] at js
     have hi:=blt aw
     split at h
     · rename_i o q a6 ag
       refine ⟨ne_nil hm js.1 (by omega),fun k im=> ?_⟩
       have ic:k=i∨k=j:=by simpa using rK ai hm js.2 k im
       rcases ic with ic|ic
       · subst ic
         exact ⟨blt aw,tx W t wb f m K e a w k o an aa hm inv im (blt aw) a6 h.1⟩
       · subst ic
         exact ⟨blt aL,tx W u wc f m K e a w k q an aa hm inv im (blt aL) ag h.2⟩
     · exact h.elim
 |three i t j u k x wb wc Sy=>
   intro W f m K e a w an aa hm inv h
   cases f with
   |zero=>simp[cS] at h
   |succ f=>
     simp only[cS] at h
     obtain ⟨js,aw,Sz,h⟩:=ze (d:=_) h
     obtain ⟨aL,bt⟩:Nat.blt j n=true∧Nat.blt k n=true:=by simpa using Sz
     simp only[eL] at js
     have hi:=blt aw
     split at h
     · rename_i o q r a6 ag SA
       refine ⟨ne_nil hm js.1 (by omega),fun y im=> ?_⟩
       have ic:y=i∨y=j∨y=k:=by simpa using rK ai hm js.2 y im
       rcases ic with ic|ic|ic
       · subst ic
         exact ⟨blt aw,tx W t wb f m K e a w y o an aa hm inv im (blt aw) a6 h.1⟩
       · subst ic
         exact ⟨blt aL,tx W u wc f m K e a w y q an aa hm inv im (blt aL) ag h.2.1⟩
       · subst ic
         exact ⟨blt bt,tx W x Sy f m K e a w y r an aa hm inv im (blt bt) SA h.2.2⟩
     · exact h.elim
 |sp s t u wb wc=>
   intro W f m K e a w an aa hm inv h
   have hD:match e.get s with
     |some (.bool c)=>(c=true→cS P aO ops n bj W t f m K ((s, .bool true)::e) w)∧(c=false→cS P aO ops n bj W u f m K ((s, .bool false)::e) w)
     |_=>False:=by cases f<;>simpa only[cS] using h
   split at hD
   · rename_i c ao
     cases c with
     |true=>exact wb W f m K _ a w (an.lit ao) aa hm inv (hD.1 rfl)
     |false=>exact wc W f m K _ a w (an.lit ao) aa hm inv (hD.2 rfl)
   · exact hD.elim
 |fin=>
   intro W f m K e a w an aa hm inv h
   cases f with
   |succ f=>simp[cS] at h
   |zero=>
     simp only[cS] at h
     obtain ⟨U,ab,h⟩:=CC h
     refine .inl ⟨?_,h3 ab,rfl,aa,e,an,h⟩
     cases aC:Region.ready .any ops (dw ops.size m) with
     |nil=>rfl
     |cons x l=>
       have:=rK ai hm U x (by rw[aC];simp)
       cases this
 |tail as=>
   intro W f m K e a w an aa hm inv h
   cases f with
   |succ f=>simp[cS] at h
   |zero=>
     simp only[cS] at h
     obtain ⟨U,ab,h⟩:=CC h
     have eD:∀k,k∈bf (ops.toList.drop n)→k∈bf ops.toList:=fun k aa=>by
       simp only[bf,List.mem_filterMap] at aa⊢
       obtain ⟨o,a6,aa⟩:=aa
       exact ⟨o,List.mem_of_mem_drop a6,aa⟩
     have:=HZ _ _ _ K e a w an (fun d ax=>by rw[aa.size];exact ad d (eD d ax)) h
     exact .inr ⟨Iv ai _ _ _ hm (by omega) U,blt ab,iQ (fun x a' J ⟨bp,bw,bL⟩=>⟨bp,aa.trans (bw.mono eD),bL⟩) _ _ _ this⟩
theorem SB (ops:Array Oper) (n:Nat):HeadInv .any ops n (Array.replicate ops.size false):=
 ⟨by simp,fun j hW _ aB=>(by rw[getD_replicate_false] at aB;cases aB),fun t _ bx=>getD_in (by simpa using bx) (getD_replicate_false _ _)⟩
def CD (P:Program) (aO:TypeId→ez) (ops:Array Oper) (n:Nat) (we:Bool) (bj:k0) (nh ni:List Nat) (t:hM) (K:Env→World→Prop) (e:Env) (w:World):Prop:=
 bif (Region.noSelect ops&&nf bj nh ni ops)&&(bif Nat.beq n ops.size then true else Nat.blt n ops.size&&(Region.sinkB .any ops n&&Region.chainB .any ops n)) then
   bif we then
     aG w.drew fun ae=>∃W:Nat→Prop,cS P aO ops n bj W t n 0 K e ae
   else aG w.drew fun ae=>cS P aO ops n bj (fun _=>False) t n 0 K e ae
 else False
theorem SC {id:Nat} {we:Bool} {t:hM} {K:Env→World→Prop} {e:Env} {a:Act} {w:World} (hm:P.follows .mixedOrders=true)
   (an:cR e a) (ad:∀d∈bf ops.toList,d<a.tmps.size) (h:CD P aO ops n we bj nh ni t K e w):
   (Code.region id ops true).wp P (fS a (bf ops.toList) K) a w:=by
 unfold CD at h
 cases bA:(Region.noSelect ops&&nf bj nh ni ops) with
 |false=>rw[bA] at h;exact h.elim
 |true=>
   rw[bA] at h
   simp only[jx] at h
   simp only[eL] at bA
   obtain ⟨U,ai⟩:=bA
   cases ab:(bif Nat.beq n ops.size then true else Nat.blt n ops.size&&(Region.sinkB .any ops n&&Region.chainB .any ops n)) with
   |false=>rw[ab] at h;exact h.elim
   |true=>
     rw[ab] at h
     simp only[cond_true] at h
     have tv:v_ ops n:=by
       cases ay:Nat.beq n ops.size with
       |true=>rw[h3 ay];exact Sp ops
       |false=>
         rw[ay] at ab
         simp only[cond_false,eL] at ab
         refine Sq ab.2.1 ab.2.2 ?_
         have:=w5 ab.1
         omega
     have hle:n≤ops.size:=by
       cases ay:Nat.beq n ops.size with
       |true=>rw[h3 ay];exact b6 _
       |false=>
         rw[ay] at ab
         simp only[cond_false,eL] at ab
         have:=w5 ab.1
         omega
     have key:∀W,cS P aO ops n bj W t n 0 K e w.drew→(Code.region id ops true).wp P (fS a (bf ops.toList) K) a w:=by
       intro W h
       refine wp_region_any hm ?_
       have v8:=Sw ai tv hle U ad t W n 0 K e a w.drew an (.refl _ _) (Si _) (by rw[H9];exact SB ops n) h
       rw[H9] at v8
       have:=It Sv _ _ _ _ _ v8
       rw[show n+(ops.size-n)=ops.size by omega] at this
       exact this
     cases we with
     |true=>obtain ⟨W,h⟩:=h;exact key W h
     |false=>exact key _ h
end
end bl
namespace bl
open Go
inductive bh where
 |leaf
 |dI (as:List ov)
 |eI (n:Nat) (we:Bool) (bj:k0) (nh ni:List Nat) (t:hM)
 |seq (a b:bh)
 |cond (a b:bh)
 |cn (a:bh)
 |loop (live:List (Nat×cu)) (iR:List Nat) (a:bh)
 |jU (live:List (Nat×cu)) (iR:List Nat) (a:bh)
def fC:List (Nat×cu)→Type
 | []=>World→Prop
 |(_,l)::r=>l.T→fC r
def qc:List (Nat×cu)→Type
 | []=>World→Nat
 |(_,l)::r=>l.T→qc r
def tz (l:cu) (v:Option Value) (K:l.T→Prop):Prop:=
 match l,v with
 | .int k,some (.int ga n)=>bif ko k ga then K n else False
 | .bool,some (.bool b)=>K b
 | .str,some (.string s)=>K s
 | .ptr,some (.pointer p)=>K p
 | .slice,some (.slice a n c)=>K ⟨a,n,c⟩
 | .map,some (.map r)=>K r
 | .agg,some (.agg cs)=>K cs
 | .fn,some (.func (.func f) a b)=>K ⟨f,a,b⟩
 | .any,some v=>K v
 |_,_=>False
def fC.app:(live:List (Nat×cu))→fC live→(Nat→Option Value)→World→Prop
 | [],k,_,w=>k w
 |(s,l)::r,k,g,w=>tz l (g s) fun x=>fC.app r (k x) g w
def fC.lam:(live:List (Nat×cu))→(Env→World→Prop)→fC live
 | [],F=>fun w=>F [] w
 |(s,l)::r,F=>fun x=>fC.lam r fun e w=>F ((s,l.v x)::e) w
def CE:(live:List (Nat×cu))→fC live→qc live→(Env→Nat→World→Prop)→Prop
 | [],I,μ,F=>∀w,I w→F [] (μ w) w
 |(s,l)::r,I,μ,F=>∀x:l.T,CE r (I x) (μ x) fun e m w=>F ((s,l.v x)::e) m w
def CF:(live:List (Nat×cu))→fC live→qc live→Nat→(Nat→Option Value)→World→Prop
 | [],I,μ,m,_,w=>I w∧μ w<m
 |(s,l)::r,I,μ,m,g,w=>tz l (g s) fun x=>CF r (I x) (μ x) m g w
def jt:(live:List (Nat×cu))→qc live→(Nat→Option Value)→World→Nat
 | [],μ,_,w=>μ w
 |(s,l)::r,μ,g,w=>
   match l,g s,μ with
   | .int _,some (.int _ n),μ=>jt r (μ n) g w
   | .bool,some (.bool b),μ=>jt r (μ b) g w
   | .str,some (.string b),μ=>jt r (μ b) g w
   | .ptr,some (.pointer b),μ=>jt r (μ b) g w
   | .slice,some (.slice a n c),μ=>jt r (μ (ak.mk a n c)) g w
   | .map,some (.map b),μ=>jt r (μ b) g w
   | .agg,some (.agg b),μ=>jt r (μ b) g w
   | .fn,some (.func (.func f) a b),μ=>jt r (μ (iO.mk f a b)) g w
   | .any,some v,μ=>jt r (μ v) g w
   |_,_,_=>0
def writes:Code→List Nat
 | .region _ ops _=>bf ops.toList
 | .seq a b=>writes a++writes b
 | .cond _ a b=>writes a++writes b
 | .block _ a=>writes a
 | .loop a=>writes a
 | .scope a=>writes a
 |_=> []
def wg (iR ws:List Nat):Bool:=iR.all fun s=> !(ws.any fun d=>Nat.beq d s)
def rM (e:Env):List Nat→Env
 | []=> []
 |s::fq=>match e.get s with
   |some v=>(s,v)::rM e fq
   |none=>rM e fq
def tA:Env→Env→Env
 | [],f=>f
 |p::e,f=>p::tA e f
def D (P:Program) (aO:TypeId→ez):bh→Code→(Exit→Env→World→Prop)→Env→World→Prop
 | .leaf,c,K,e,w=>
   match c with
   | .skip=>K .normal e w
   | .label _=>K .normal e w
   | .exit id=>K (.exit id) e w
   | .ret=>K .ret e w
   |_=>False
 | .dI as,c,K,e,w=>
   match c with
   | .region _ ops false=>e3 P aO ops (ops.size+1) ops.toList as (fun cF J=>K .normal cF J) e w
   |_=>False
 | .eI n he bj nh ni t,c,K,e,w=>
   match c with
   | .region _ ops true=>CD P aO ops n he bj nh ni t (fun cF J=>K .normal cF J) e w
   |_=>False
 | .seq A B,c,K,e,w=>
   match c with
   | .seq a b=>D P aO A a (fun x cF J=>match x with| .normal=>D P aO B b K cF J|x=>K x cF J) e w
   |_=>False
 | .cond A B,c,K,e,w=>
   match c with
   | .cond o x y=>match aP e o with
     |some (.bool b)=>(b=true→D P aO A x K e w)∧(b=false→D P aO B y K e w)
     |_=>False
   |_=>False
 | .cn A,c,K,e,w=>
   match c with
   | .block id b=>D P aO A b (fun x cF J=>match x with| .exit tB=>bif Nat.beq tB id then K .normal cF J else K (.exit tB) cF J|x=>K x cF J) e w
   |_=>False
 | .loop live iR A,c,K,e,w=>
   match c with
   | .loop b=>bif wg iR (writes b) then
       ∃ (I:fC live) (μ:qc live),fC.app live I e.get w∧
         CE live I μ fun el m J=>D P aO A b (fun x cF fx=>match x with| .normal=>CF live I μ m cF.get fx|x=>K x cF fx) (tA el (rM e iR)) J
     else False
   |_=>False
 | .jU live iR A,c,K,e,w=>
   bif wg iR (writes c) then
     bZ (fun k:fC live=>D P aO A c (fun x cF J=>match x with| .normal=>fC.app live k cF.get J|x=>K x cF J) e w)
       (fC.lam live fun el J=>K .normal (tA el (rM e iR)) J)
   else False
def SD (a:Act) (bc:List Nat) (K:Exit→Env→World→Prop) (x:Exit) (a':Act) (J:World):Prop:=
 c5 bc a a'∧∃cF,cR cF a'∧K x cF J
def Sub (e:Env) (g:Nat→Option Value):Prop:=∀s v,e.get s=some v→g s=some v
theorem Sub.cons {e:Env} {g:Nat→Option Value} {s:Nat} {v:Value} (h:Sub e g) (ao:g s=some v):Sub ((s,v)::e) g:=by
 intro t u bx
 rw[rB] at bx
 by_cases eW:s=t
 · subst eW;rw[if_pos rfl] at bx;rw[ao];exact bx
 · rw[if_neg eW] at bx;exact h t u bx
theorem Sub.nil {g:Nat→Option Value}:Sub [] g:=fun _ _ h=>by cases h
theorem zf {l:cu} {v:Option Value} {K:l.T→Prop} (h:tz l v K):∃x:l.T,v=some (l.v x)∧K x:=by
 unfold tz at h
 split at h
 · rename_i k ga n K
   by_cases aa:k=ga
   · subst aa
     simp only[ko,decide_true,cond_true] at h
     exact ⟨n,rfl,h⟩
   · simp[ko,aa] at h
 all_goals first
   |exact ⟨_,rfl,h⟩
   |exact h.elim
theorem Iw {l:cu} {v:Option Value} {K:l.T→Prop} {x:l.T} (al:v=some (l.v x)) (h:K x):tz l v K:=by
 subst al
 cases l<;>simp only[tz,cu.v,ko,decide_true,cond_true]<;>exact h
theorem Ix {s:Nat} {l:cu} {r:List (Nat×cu)} {μ:qc ((s,l)::r)} {g:Nat→Option Value} {w:World} {x:l.T} (al:g s=some (l.v x)):
   jt ((s,l)::r) μ g w=jt r (μ x) g w:=by
 cases l<;>simp only[jt,al,cu.v]<;>rfl
theorem Iy:∀ {live:List (Nat×cu)} {F:Env→World→Prop} {g:Nat→Option Value} {w:World},fC.app live (fC.lam live F) g w→∃el,Sub el g∧F el w
 | [],F,g,w,h=>⟨[],Sub.nil,h⟩
 |(s,l)::r,F,g,w,h=>by
   obtain ⟨x,al,h⟩:=zf h
   obtain ⟨el,ao,h⟩:=Iy h
   exact ⟨(s,l.v x)::el,ao.cons al,h⟩
theorem Iz:∀ {live:List (Nat×cu)} {I:fC live} {g g':Nat→Option Value} {w:World},(∀s v,g s=some v→g' s=some v)→fC.app live I g w→fC.app live I g' w
 | [],_,_,_,_,_,h=>h
 |(s,l)::r,I,g,g',w,bu,h=>by
   obtain ⟨x,al,h⟩:=zf h
   exact Iw (bu _ _ al) (Iz bu h)
theorem IA:∀ {live:List (Nat×cu)} {I:fC live} {μ:qc live} {F:Env→Nat→World→Prop} {g:Nat→Option Value} {w:World},
   CE live I μ F→fC.app live I g w→∃el,Sub el g∧F el (jt live μ g w) w
 | [],I,μ,F,g,w,h,rN=>⟨[],Sub.nil,h w rN⟩
 |(s,l)::r,I,μ,F,g,w,h,rN=>by
   obtain ⟨x,al,rN⟩:=zf rN
   obtain ⟨el,ao,h⟩:=IA (h x) rN
   exact ⟨(s,l.v x)::el,ao.cons al,by rw[Ix al];exact h⟩
theorem IB:∀ {live:List (Nat×cu)} {I:fC live} {μ:qc live} {m:Nat} {g g':Nat→Option Value} {w:World},
   (∀s v,g s=some v→g' s=some v)→CF live I μ m g w→fC.app live I g' w∧jt live μ g' w<m
 | [],_,_,_,_,_,_,_,h=>h
 |(s,l)::r,I,μ,m,g,g',w,bu,h=>by
   obtain ⟨x,al,h⟩:=zf h
   obtain ⟨U,ab⟩:=IB bu h
   exact ⟨Iw (bu _ _ al) U,by rw[Ix (bu _ _ al)];exact ab⟩
theorem IC:∀ {e f:Env} {s:Nat} {v:Value},(tA e f).get s=some v→e.get s=some v∨f.get s=some v
 | [],_,_,_,h=> .inr h
 |(k,u)::e,f,s,v,h=>by
   simp only[tA] at h
   rw[rB] at h⊢
   by_cases aa:k=s
   · rw[if_pos aa] at h⊢;exact .inl h
   · rw[if_neg aa] at h⊢;exact IC h
theorem CG {e:Env}:∀ {fq:List Nat} {s:Nat} {v:Value},(rM e fq).get s=some v→s∈fq∧e.get s=some v
 | [],_,_,h=>by cases h
 |k::fq,s,v,h=>by
   simp only[rM] at h
   split at h
   · rename_i u hu
     rw[rB] at h
     by_cases aa:k=s
     · rw[if_pos aa] at h
       subst aa
       exact ⟨by simp,by rw[hu];exact h⟩
     · rw[if_neg aa] at h
       have:=CG h
       exact ⟨by simp[this.1],this.2⟩
   · have:=CG h
     exact ⟨by simp[this.1],this.2⟩
theorem ID {e el:Env} {a a':Act} {iR ws:List Nat} (an:cR e a) (aa:c5 ws a a') (a6:wg iR ws=true) (ao:Sub el fun s=>a'.tmps[s]?):
   cR (tA el (rM e iR)) a':=by
 constructor
 intro s v h
 rcases IC h with h|h
 · exact ao s v h
 · obtain ⟨U,ab⟩:=CG h
   have aw:=uc.1 a6 s U
   simp only[mh,r7] at aw
   rw[aa.same s fun hm=>aw s hm (Nat.beq_refl s)]
   exact an.get s v ab
section
variable {P:Program} {aO:TypeId→ez}
theorem oy {c:Code} {Q Q':Exit→Act→World→Prop} {a:Act} {w:World} (h:c.wp P Q a w) (ag:∀e a w,Q e a w→Q' e a w):c.wp P Q' a w:=wp_mono h ag
theorem SE (hm:P.follows .mixedOrders=true):∀ (A:bh) (c:Code) (K:Exit→Env→World→Prop) (e:Env) (a:Act) (w:World),cR e a→(∀d∈writes c,d<a.tmps.size)→
   D P aO A c K e w→c.wp P (SD a (writes c) K) a w:=by
 intro A
 induction A with
 |leaf=>
   intro c K e a w an ad h
   simp only[D] at h
   split at h
   · exact wp_skip ⟨.refl _ _,e,an,h⟩
   · exact wp_label ⟨.refl _ _,e,an,h⟩
   · exact wp_exit ⟨.refl _ _,e,an,h⟩
   · exact wp_ret ⟨.refl _ _,e,an,h⟩
   · exact h.elim
 |dI as=>
   intro c K e a w an ad h
   simp only[D] at h
   split at h
   · rename_i id ops
     have:=HZ _ _ _ _ e a w an ad h
     refine wp_region_list (iQ ?_ _ _ _ this)
     rintro x a' J ⟨rfl,aa,cF,tC,aJ⟩
     exact ⟨aa,cF,tC,aJ⟩
   · exact h.elim
 |eI n he bj nh ni t=>
   intro c K e a w an ad h
   simp only[D] at h
   split at h
   · rename_i id ops
     refine oy (SC hm an ad h) ?_
     rintro x a' J ⟨rfl,aa,cF,tC,aJ⟩
     exact ⟨aa,cF,tC,aJ⟩
   · exact h.elim
 |seq A B CH CI=>
   intro c K e a w an ad h
   simp only[D] at h
   split at h
   · rename_i x y
     have af:∀d,d∈writes x→d∈writes (.seq x y):=fun d ax=>by simp[writes,ax]
     have aZ:∀d,d∈writes y→d∈writes (.seq x y):=fun d ax=>by simp[writes,ax]
     refine wp_seq (oy (CH x _ e a w an (fun d ax=>ad d (af d ax)) h) ?_)
     rintro ex a7 ae ⟨aa,aT,e4,U⟩
     cases ex with
     |normal=>
       refine oy (CI y K aT a7 ae e4 (fun d ax=>by rw[aa.size];exact ad d (aZ d ax)) U) ?_
       rintro ex bB av ⟨cb,a8,gh,ab⟩
       exact ⟨(aa.mono af).trans (cb.mono aZ),a8,gh,ab⟩
     |exit id=>exact ⟨aa.mono af,aT,e4,U⟩
     |goto l=>exact ⟨aa.mono af,aT,e4,U⟩
     |ret=>exact ⟨aa.mono af,aT,e4,U⟩
     |panic zg=>exact ⟨aa.mono af,aT,e4,U⟩
     |outgrown=>exact ⟨aa.mono af,aT,e4,U⟩
   · exact h.elim
 |cond A B CH CI=>
   intro c K e a w an ad h
   simp only[D] at h
   split at h
   · rename_i o x y
     have af:∀d,d∈writes x→d∈writes (.cond o x y):=fun d ax=>by simp[writes,ax]
     have aZ:∀d,d∈writes y→d∈writes (.cond o x y):=fun d ax=>by simp[writes,ax]
     split at h
     · rename_i b a6
       refine wp_cond_split (an.aP a6) (fun hG=> ?_) (fun hG=> ?_)
       · refine oy (CH x K e a w an (fun d ax=>ad d (af d ax)) (h.1 hG)) ?_
         rintro ex bB av ⟨cb,a8,gh,ab⟩
         exact ⟨cb.mono af,a8,gh,ab⟩
       · refine oy (CI y K e a w an (fun d ax=>ad d (aZ d ax)) (h.2 hG)) ?_
         rintro ex bB av ⟨cb,a8,gh,ab⟩
         exact ⟨cb.mono aZ,a8,gh,ab⟩
     · exact h.elim
   · exact h.elim
 |cn A bV=>
   intro c K e a w an ad h
   simp only[D] at h
   split at h
   · rename_i id b
     refine wp_block (oy (bV b _ e a w an ad h) ?_)
     rintro ex a7 ae ⟨aa,aT,e4,U⟩
     cases ex with
     |exit tB=>
       simp only[Exit.inBlock]
       by_cases CJ:tB=id
       · subst CJ
         simp only[Nat.beq_refl,cond_true] at U
         rw[if_pos rfl]
         exact ⟨aa,aT,e4,U⟩
       · have:Nat.beq tB id=false:=by
           cases SF:Nat.beq tB id
           · rfl
           · exact absurd (h3 SF) CJ
         simp only[this,cond_false] at U
         rw[if_neg CJ]
         exact ⟨aa,aT,e4,U⟩
     |normal=>exact ⟨aa,aT,e4,U⟩
     |goto l=>exact ⟨aa,aT,e4,U⟩
     |ret=>exact ⟨aa,aT,e4,U⟩
     |panic zg=>exact ⟨aa,aT,e4,U⟩
     |outgrown=>exact ⟨aa,aT,e4,U⟩
   · exact h.elim
 |loop live iR A bV=>
   intro c K e a w an ad h
   simp only[D] at h
   split at h
   · rename_i b
     cases jb:wg iR (writes b) with
     |false=>rw[jb] at h;exact h.elim
     |true=>
       rw[jb] at h
       obtain ⟨I,μ,bA,SG⟩:=h
       refine wp_loop (fun a' J=>c5 (writes b) a a'∧fC.app live I (fun s=>a'.tmps[s]?) J) (fun a' J=>jt live μ (fun s=>a'.tmps[s]?) J)
         ⟨.refl _ _,Iz (fun s v ao=>an.get s v ao) bA⟩ ?_
       rintro a7 ae ⟨aa,rN⟩
       obtain ⟨el,ao,CK⟩:=IA SG rN
       refine oy (bV b _ _ a7 ae (ID an aa jb ao) (fun d ax=>by rw[aa.size];exact ad d ax) CK) ?_
       rintro ex bB av ⟨cb,a8,gh,ab⟩
       cases ex with
       |normal=>
         obtain ⟨bp,bw⟩:=IB (g':=fun s=>bB.tmps[s]?) (fun s v ao=>gh.get s v ao) ab
         exact ⟨⟨aa.trans cb,bp⟩,bw⟩
       |exit id=>exact ⟨aa.trans cb,a8,gh,ab⟩
       |goto l=>exact ⟨aa.trans cb,a8,gh,ab⟩
       |ret=>exact ⟨aa.trans cb,a8,gh,ab⟩
       |panic zg=>exact ⟨aa.trans cb,a8,gh,ab⟩
       |outgrown=>exact ⟨aa.trans cb,a8,gh,ab⟩
   · exact h.elim
 |jU live iR A bV=>
   intro c K e a w an ad h
   simp only[D] at h
   cases jb:wg iR (writes c) with
   |false=>rw[jb] at h;exact h.elim
   |true=>
     rw[jb] at h
     simp only[cond_true] at h
     have h:=h.out
     refine oy (bV c _ e a w an ad h) ?_
     rintro ex a7 ae ⟨aa,aT,e4,U⟩
     cases ex with
     |normal=>
       obtain ⟨el,ao,CK⟩:=Iy U
       exact ⟨aa,_,ID an aa jb (fun s v h=>e4.get s v (ao s v h)),CK⟩
     |exit id=>exact ⟨aa,aT,e4,U⟩
     |goto l=>exact ⟨aa,aT,e4,U⟩
     |ret=>exact ⟨aa,aT,e4,U⟩
     |panic zg=>exact ⟨aa,aT,e4,U⟩
     |outgrown=>exact ⟨aa,aT,e4,U⟩
def rO (P:Program) (aO:TypeId→ez):List ResultVar→Env→World→(List Value→Prop)→Prop
 | [],_,_,K=>K []
 | .tmp t::r,e,w,K=>match e.get t with
   |some v=>rO P aO r e w fun vs=>K (v::vs)
   |none=>False
 | .cell t T::r,e,w,K=>match e.get t with
   |some (.pointer (some A))=>tg P aO T A w fun v=>rO P aO r e w fun vs=>K (v::vs)
   |_=>False
def zh:List Value→Value
 | [v]=>v
 |vs=> .tuple vs.toArray
def SH (P:Program) (aO:TypeId→ez) (rs:List ResultVar) (R:Value→World→Prop) (x:Exit) (e:Env) (w:World):Prop:=
 match x with
 | .normal=>rO P aO rs e w fun vs=>R (zh vs) w
 | .ret=>rO P aO rs e w fun vs=>R (zh vs) w
 |_=>False
def wh:Nat→List Value→Env
 |_,[]=> []
 |i,v::vs=>(i,v)::wh (i+1) vs
def CL (P:Program) (aO:TypeId→ez) (A:bh) (fn:Func) (args:List Value) (w:World) (R:Value→World→Prop):Prop:=
 match fn.body with
 |some c=>D P aO A c (SH P aO fn.results.toList R) (wh 0 args) w
 |none=>False
def CM (fn:Func) (n:Nat):Bool:=
 match fn.body with
 |some c=>(writes c).all (fun d=>Nat.blt d fn.ntmps)&&Nat.ble n fn.ntmps
 |none=>false
theorem IE:∀ {vs:List Value} {i s:Nat} {v:Value},(wh i vs).get s=some v→i≤s∧vs[s-i]? =some v
 | [],_,_,_,h=>by cases h
 |u::vs,i,s,v,h=>by
   simp only[wh] at h
   rw[rB] at h
   by_cases aa:i=s
   · subst aa
     rw[if_pos rfl] at h
     simpa using h
   · rw[if_neg aa] at h
     obtain ⟨U,ab⟩:=IE h
     refine ⟨by omega,?_⟩
     rw[show s-i=(s-(i+1))+1 by omega]
     simpa using ab
def wi (tmps:Array Value) (r:ResultVar):Sem Value:=
 match r with
 | .tmp t=>pure (tmps.getD t undef)
 | .cell x t=>do loadVar t (←asAddr (tmps.getD x undef))
theorem zi {a:Act}:∀ {rs:List ResultVar} {e:Env} {w:World} {K:List Value→Prop},cR e a→rO P aO rs e w K→
   ∃vs,(rs.mapM (wi a.tmps)).run P w= .ok vs w∧K vs
 | [],_,_,_,_,h=>⟨[],by simp,h⟩
 | .tmp t::r,e,w,K,an,h=>by
   simp only[rO] at h
   split at h
   · rename_i v al
     obtain ⟨vs,hL,aJ⟩:=zi an h
     refine ⟨v::vs,?_,aJ⟩
     have bx:a.tmps.getD t undef=v:=by simp[Array.getD_eq_getD_getElem?,an.get _ _ al]
     simp only[List.mapM_cons,wi,Sem.run_bind,Sem.run_pure,Result.andThen,bx]
     rw[hL]
   · exact h.elim
 | .cell t T::r,e,w,K,an,h=>by
   simp only[rO] at h
   split at h
   · rename_i A al
     obtain ⟨v,aB,h⟩:=HT h
     obtain ⟨vs,hL,aJ⟩:=zi an h
     refine ⟨v::vs,?_,aJ⟩
     have bx:a.tmps.getD t undef= .pointer (some A):=by simp[Array.getD_eq_getD_getElem?,an.get _ _ al]
     have B3:(loadVar T A).run P w= .ok v w:=by simpa[Instr.loadAt,Instr.sureAddr] using aB
     simp only[List.mapM_cons,wi,Sem.run_bind,Sem.run_pure,Result.andThen,bx,asAddr,B3]
     rw[hL]
   · exact h.elim
theorem IF {fn:Func} {tmps:Array Value} {w:World} {vs:List Value}
   (h:(fn.results.toList.mapM (wi tmps)).run P w= .ok vs w):
   (results fn tmps).run P w= .ok (zh vs) w:=by
 have aT:results fn tmps=(do let vs ←fn.results.mapM (wi tmps);pure (if h:vs.size=1 then vs[0] else .tuple vs)):=rfl
 rw[aT,Array.mapM_eq_mapM_toList]
 simp only[Sem.run_bind,Sem.run_map]
 rw[h]
 simp only[Result.andThen,Sem.run_pure]
 congr 1
 match vs with
 | []=>rfl
 | [v]=>rfl
 |u::v::vs=>simp[zh]
theorem SI {f:FuncId} {fn:Func} {A:bh} {args:List Value} {w:World} {R:Value→World→Prop} (hm:P.follows .mixedOrders=true)
   (aI:P.funcs[f]? =some fn) (iZ:CM fn args.length=true) (h:CL P aO A fn args w R):
   Calls P f args.toArray w fun e J=>∃v,e= .returned v∧R v J:=by
 unfold CL at h
 unfold CM at iZ
 cases vb:fn.body with
 |none=>rw[vb] at h;exact h.elim
 |some c=>
   rw[vb] at h iZ
   simp only[eL] at h iZ
   obtain ⟨hw,ay⟩:=iZ
   have kQ:=w5 ay
   refine calls_of_wp aI vb ?_
   have dt:(args.toArray++Array.replicate (fn.ntmps-args.toArray.size) undef).size=fn.ntmps:=by simp;omega
   have an:cR (wh 0 args) {tmps:=args.toArray++Array.replicate (fn.ntmps-args.toArray.size) undef,defers:=[]}:=by
     constructor
     intro s v ao
     obtain ⟨_,ab⟩:=IE ao
     simp only[Nat.sub_zero] at ab
     have aS:s<args.length:=(tZ.1 ab).1
     simp[Array.getElem?_append,aS]
     rw[e7 aS] at ab
     exact Option.some.inj ab
   refine oy (SE hm A c _ _ _ w an (fun d ax=> ?_) h) ?_
   · have U:=uc.1 hw d ax
     have ab:=w5 U
     show d<(args.toArray++Array.replicate (fn.ntmps-args.toArray.size) undef).size
     rw[dt]
     omega
   · rintro x a' J ⟨aa,cF,tC,aJ⟩
     have ax:a'.defers=[]:=aa.defers
     cases x with
     |normal=>
       obtain ⟨vs,hL,lu⟩:=zi tC aJ
       exact ⟨ax,_,IF hL,_,rfl,lu⟩
     |ret=>
       obtain ⟨vs,hL,lu⟩:=zi tC aJ
       exact ⟨ax,_,IF hL,_,rfl,lu⟩
     |exit id=>exact aJ.elim
     |goto l=>exact aJ.elim
     |panic zg=>exact aJ.elim
     |outgrown=>exact aJ.elim
end
end bl
namespace bl
open Go Go.ChangeShapes Go.WideShapes Go.ChangeAt Go.RowKit
def l7 (P:Program) (w:World):Nat→TypeId→List Value→Prop
 |0,_,_=>False
 |fuel+1,t,cs=>
   match P.underlying t with
   |some .bool=>∃b:Bool,cs=[.bool b]
   |some (.int k)=>∃n:Int,cs=[.int k n]∧k.min≤n∧n≤k.max
   |some .string=>∃s:ByteArray,cs=[.string s]∧s.size≤maxLen
   |some (.slice e)=>∃s:ak,cs=[.slice s.a s.len s.cap]∧s.len≤s.cap∧s.cap≤maxLen∧(s.a=none→s.cap=0)∧
       ∀a,s.a=some a→∀i,i<s.cap→∃vs,bR w (a.add (i*P.cellsOf e)) 0 (P.cellsOf e)=some vs∧l7 P w fuel e vs
   |some (.struct fs)=>cs.length=P.cellsOf t∧∀f∈fs,l7 P w fuel f.type ((cs.drop f.offset).take (P.cellsOf f.type))
   |some (.array n e)=>cs.length=P.cellsOf t∧∀i,i<n→l7 P w fuel e ((cs.drop (i*P.cellsOf e)).take (P.cellsOf e))
   |some (.pointer e)=>cs=[.pointer none]∨∃a vs,cs=[.pointer (some a)]∧bR w a 0 (P.cellsOf e)=some vs∧l7 P w fuel e vs
   |_=>True
theorem mapM_some {α β:Type} {f:α→Option β}:∀ {l:List α} {r:List β},l.mapM f=some r→∀x∈l,∃y,f x=some y
 | [],_,_,_,af=>by cases af
 |a::l,r,h,x,af=>by
   simp only[List.mapM_cons] at h
   cases aH:f a with
   |none=>simp[aH] at h
   |some b=>
     cases aB:l.mapM f with
     |none=>simp[aH,aB] at h
     |some k4=>
       rcases dT.1 af with rfl|af
       · exact ⟨b,aH⟩
       · exact mapM_some aB x af
theorem IG {w:World} {a:Addr}:∀ (n i:Nat) (vs:List Value),((List.range' i n).mapM fun j=>w.cell? (a.add j))=some vs→bR w a i n=some vs
 |0,i,vs,h=>by simp at h;simp[bR,h]
 |n+1,i,vs,h=>by
   simp only[List.range'_succ,List.mapM_cons] at h
   cases U:w.cell? (a.add i) with
   |none=>simp[U] at h
   |some v=>
     cases ab:((List.range' (i+1) n).mapM fun j=>w.cell? (a.add j)) with
     |none=>simp[U,ab] at h
     |some us=>
       simp[U,ab] at h
       have:=IG n (i+1) us ab
       simp[bR,U,this,h]
theorem IH {w:World} {base:Nat} {a:Addr} {n:Nat} {vs:List Value} (h:w.cells? base a n=some vs):bR w a 0 n=some vs:=by
 unfold World.cells? at h
 split at h
 · rw[List.range_eq_range'] at h
   exact IG n 0 vs h
 · cases h
section
variable {H:Type} {enc:TypeId×Value→H} {P:Program} {w:World}
theorem wj:∀ (fuel:Nat) (t:TypeId) (cs:List Value) (x:DataW H×List MemPlace),DataW.trod enc P w 0 (fun _=>true) true fuel t cs=some x→l7 P w fuel t cs
 |0,_,_,_,h=>by cases h
 |fuel+1,t,cs,x,h=>by
   simp only[DataW.trod] at h
   simp only[l7]
   cases bx:P.underlying t with
   |none=>trivial
   |some d=>
     rw[bx] at h
     cases d<;>try trivial
     case bool=>
       match cs,h with
       | [.bool b],_=>exact ⟨b,rfl⟩
     case int k=>
       match cs,h with
       | [.int ga n],h=>
         simp only at h
         split at h
         · rename_i aa
           obtain ⟨rfl,hw⟩:=aa
           exact ⟨n,rfl,by simpa[Lit.wf] using hw⟩
         · cases h
     case string=>
       match cs,h with
       | [.string s],h=>
         simp only at h
         split at h
         · rename_i aa;exact ⟨s,rfl,aa⟩
         · cases h
     case pointer e=>
       match cs,h with
       | [.pointer none],_=>exact .inl rfl
       | [.pointer (some a)],h=>
         simp only[Option.map_eq_some_iff] at h
         obtain ⟨y,aZ,_⟩:=h
         obtain ⟨vs,U,ab⟩:=Option.bind_eq_some_iff.1 aZ
         exact .inr ⟨a,vs,rfl,IH U,wj fuel e vs _ ab⟩
     case slice e=>
       match cs,h with
       | [.slice none 0 0],_=>exact ⟨⟨none,0,0⟩,rfl,b6 _,ft _,(fun _=>rfl),(fun a aH=>by cases aH)⟩
       | [.slice (some a) len cap],h=>
         simp only at h
         split at h
         · rename_i aa
           refine ⟨⟨some a,len,cap⟩,rfl,aa.2.1,aa.2.2,(fun bA=>by cases bA),fun a' mV i hi=> ?_⟩
           obtain ⟨elems,he,h⟩:=Option.bind_eq_some_iff.1 h
           simp only[if_true,Option.map_eq_some_iff] at h
           obtain ⟨rest,aC,_⟩:=h
           cases mV
           have key:∃y,((w.cells? 0 (a.add (i*P.cellsOf e)) (P.cellsOf e)).bind (DataW.trod enc P w 0 (fun _=>true) true fuel e))=some y:=by
             rcases gd i len with aB|aB
             · exact mapM_some he i (oH.2 aB)
             · obtain ⟨y,aZ⟩:=mapM_some aC (i-len) (oH.2 (by simp only at hi;omega))
               rw[show len+(i-len)=i by omega] at aZ
               exact ⟨y,aZ⟩
           obtain ⟨y,aZ⟩:=key
           obtain ⟨vs,U,ab⟩:=Option.bind_eq_some_iff.1 aZ
           exact ⟨vs,IH U,wj fuel e vs _ ab⟩
         · cases h
     case struct fs=>
       simp only at h
       split at h
       · rename_i aB
         refine ⟨aB,fun f aI=> ?_⟩
         simp only[Option.map_eq_some_iff] at h
         obtain ⟨ys,aZ,_⟩:=h
         obtain ⟨y,aZ⟩:=mapM_some aZ f (by simpa using aI)
         exact wj fuel _ _ _ aZ
       · cases h
     case array n e=>
       simp only at h
       split at h
       · rename_i aB
         refine ⟨aB,fun i hi=> ?_⟩
         simp only[Option.map_eq_some_iff] at h
         obtain ⟨ys,aZ,_⟩:=h
         obtain ⟨y,aZ⟩:=mapM_some aZ i (oH.2 hi)
         exact wj fuel _ _ _ aZ
       · cases h
def vK (P:Program) (w:World) (t:TypeId) (v:Value):Prop:=
 match P.underlying t with
 |some (.struct _)=>∃cs:Array Value,v= .agg cs∧∃fuel,l7 P w fuel t cs.toList
 |some (.array _ _)=>∃cs:Array Value,v= .agg cs∧∃fuel,l7 P w fuel t cs.toList
 |_=>∃fuel,l7 P w fuel t [v]
theorem RN {r:Reach} {jh:Nat} {t:TypeId} {v:Value} {d:DataW H} {bJ:List MemPlace} (kS:Value.okWide P w r jh t v)
   (ax:DataW.Trod enc P w 0 (fun _=>true) true t v d bJ):vK P w t v:=by
 obtain ⟨fuel,ax⟩:=ax
 have U:=wj fuel t _ _ ax
 unfold vK
 unfold Value.okWide at kS
 have SJ:(∀cs,v≠ .agg cs)→v.cells.toList=[v]:=fun h=>by cases v<;>first|rfl|exact absurd rfl (h _)
 cases bx:P.underlying t with
 |none=>
   rw[bx] at kS
   cases fuel with
   |zero=>cases ax
   |succ f=>exact ⟨1,by simp[l7,bx]⟩
 |some SK=>
   rw[bx] at kS
   cases SK
   case struct fs=>obtain ⟨cs,rfl,_,_⟩:=kS;exact ⟨cs,rfl,fuel,U⟩
   case array n e=>obtain ⟨cs,rfl,_,_⟩:=kS;exact ⟨cs,rfl,fuel,U⟩
   all_goals
     refine ⟨fuel,?_⟩
     rw[←SJ]
     · exact U
     · rintro cs rfl
       simp[Cell.okWide,Cell.ok,bx] at kS
theorem II {w J:World} (h:aq (fun _=>False) w J):Below w.heap.size w J:=
 ⟨h.os,h.tape,h.output,h.size,fun k aa=>h.block k aa (fun h=>h)⟩
theorem RO {f:Func} {s:ChangeSpec} {apart fresh handsOn again:Bool} {W l0:World} {args:Array Value} {T:TypeId} {bc gs:List (DataW H)} {before pa jR:List MemPlace}
   (e0:DataW.Whole enc P f.params.toList s.vars apart W args.toList bc gs before) (aQ:P.underlying T=some .bool) (pO:f.resultTypes= #[T])
   (ao:s.fn H (bc++gs)={results:=[.lit (.bool true)],args:=bc})
   (Hy:∀sp:Nat→Bool,(∀p∈before,sp p.block=true)→DataW.TrodAll enc P l0 0 sp true f.params.toList args.toList bc pa)
   (SL:∀sp:Nat→Bool,(∀p∈before,sp p.block=true)→DataW.TrodVars enc P l0 sp s.vars [] jR)
   (oV:before=pa++jR) (ad:aq (fun _=>False) W l0):
   s.post enc P f apart fresh handsOn again W args (.bool true) l0:=by
 have fe:=II ad
 have aS:∀p∈before,p.block<W.heap.size:=fun p aU=>e0.lt p aU
 have hold:∀p∈before,(fun b=>decide (b<W.heap.size)) p.block=true:=fun p aU=>by simpa using aS p aU
 have aC:∀ (b:Nat) (sp:Nat→Bool) (ax:Bool),DataW.TrodAll enc P l0 b sp ax f.resultTypes.toList ((Value.bool true).resultList f.resultTypes.size) (s.fn H (bc++gs)).results []:=by
   intro b sp ax
   rw[ao,pO]
   exact trodAll_cons_mk (shut_bool aQ true) trodAll_mk0
 have aH:∀sp:Nat→Bool,(∀p∈before,sp p.block=true)→DataW.TrodAll enc P l0 0 sp true f.params.toList args.toList (s.fn H (bc++gs)).args pa:=by
   intro sp n1
   rw[ao]
   exact Hy sp n1
 have al:∀sp:Nat→Bool,(∀p∈before,sp p.block=true)→DataW.TrodVars enc P l0 sp s.vars (s.fn H (bc++gs)).vars jR:=by
   intro sp n1
   rw[ao]
   exact SL sp n1
 refine ⟨bc,gs,before,[],pa,jR,e0,aC _ _ _,aH _ hold,al _ hold,World.keptBut_mono (fun p aU=>⟨aU,?_⟩) (fe.frame (· ∈before)),fun _=> ?_⟩
 · rw[oV,gv] at aU
   exact Or.inr aU
 · obtain ⟨_,_,_,_,_,bI,ay⟩:=e0
   refine ⟨ok_one pO rfl (okWide_bool_mk aQ _),_,_,([]++pa)++jR,⟨[]++pa,jR,trodAll_append (aH _ (fun _ _=>rfl)) (aC _ _ _),al _ (fun _ _=>rfl),rfl,?_,?_⟩,?_⟩
   · intro b off aU
     have fN:MemPlace.cell b off∈before:=by rw[oV];simpa using aU
     rw[fe.frozen (aS _ fN)]
     exact bI b off fN
   · intro SM
     have:=ay SM
     rw[oV] at this
     simpa using this
   · intro p aU _
     rw[oV]
     simpa using aU
theorem RP {t:TypeId} (aB:laidOutB P=true) (aC:P.readableRec t=true) (Cz:t<P.types.size) {W l0:World} {v:Value} {d:DataW H} {bJ:List MemPlace} {sp:Nat→Bool}
   (h:DataW.Trod enc P W 0 (fun _=>true) true t v d bJ) (ad:aq (fun _=>False) W l0) (aS:∀x∈bJ,x.block<W.heap.size) (ao:∀p∈bJ,sp p.block=true):
   DataW.Trod enc P l0 0 sp true t v d bJ:=
 WideElems.Trod_stays aB aC Cz h (fun x af=>(II ad).same (aS x af)) ao
end
end bl
namespace bl
open Go Go.RowKit
def aN (P:Program) (f:FuncId) (args:Array Value) (w:World) (Q:Value→World→Prop):Prop:=
 Calls P f args w fun e ae=>∃v,e= .returned v∧Q v ae
theorem aN.use {P:Program} {f:FuncId} {args:Array Value} {w:World} {Q:Value→World→Prop} {R:Ending→World→Prop}
   (h:aN P f args w Q) (k:∀v J,Q v J→R (.returned v) J):Calls P f args w R:=
 Calls.mono h fun _ _ ⟨v,al,ag⟩=>by subst al;exact k v _ ag
theorem aN.mono {P:Program} {f:FuncId} {args:Array Value} {w:World} {Q R:Value→World→Prop}
   (h:aN P f args w Q) (k:∀v J,Q v J→R v J):aN P f args w R:=
 aN.use h fun v _ ag=>⟨v,rfl,k _ _ ag⟩
abbrev Ext (w J:World):Prop:=aq (fun _=>False) w J
theorem aq.gi {W:Nat→Prop} {w J:World} (h:Ext w J):aq W w J:=aq.mono h fun _ _ h=>h.elim
theorem aq.drew {W:Nat→Prop} {w J:World} (h:aq W w J):aq W w J.drew:=⟨h.os,h.tape,h.output,h.size,h.block⟩
theorem aq.alloc {W:Nat→Prop} {w J:World} (h:aq W w J) (o:Obj):aq W w (J.alloc o):=
 h.trans ⟨rfl,rfl,rfl,by simp,fun k aa _=>Below.heap_alloc _ _ _ aa⟩
theorem aq.set {W:Nat→Prop} {w J:World} (h:aq W w J) {A:Addr} (ad:A.block<w.heap.size→W A.block) (v:Value):aq W w (J.setCell A v):=
 ⟨h.os,h.tape,h.output,by simp only[World.setCell,Array.size_modify];exact h.size,fun k aa e0=>by
   rw[Below.heap_setCell _ _ _ _ (fun e=>e0 (by subst e;exact ad aa))];exact h.block k aa e0⟩
theorem aq.setCells {W:Nat→Prop} {w:World} {A:Addr} (ad:A.block<w.heap.size→W A.block):∀ (vs:List Value) (i:Nat) {J:World},aq W w J→aq W w (setCells J A i vs)
 | [],_,_,h=>h
 |v::vs,i,J,h=>by
   have lh:(A.add i).block=A.block:=by unfold Addr.add;split<;>rfl
   exact aq.setCells ad vs (i+1) (aq.set h (by rw[lh];exact ad) v)
theorem ba (b o n:Nat):(Addr.mk b o none).add n=⟨b,o+n,none⟩:=by
 unfold Addr.add;split
 · rename_i h;subst h;rfl
 · rfl
def bo (w:World) (b:Nat) (c:Array Value) (T:TypeId):Prop:=w.heap[b]? =some (.cells c T (0,0))
section
variable {w J:World} {b i:Nat} {c:Array Value} {T:TypeId}
theorem bo.lt (h:bo w b c T):b<w.heap.size:=(nt.1 h).1
theorem bo.cell (h:bo w b c T) (i:Nat):w.cell? ⟨b,i,none⟩=c[i]? :=by
 unfold bo at h
 simp[World.cell?,h]
theorem bo.frozen (h:bo w b c T) (A:Addr) (an:A.block=b):w.frozen? A=false:=by
 unfold bo at h
 simp[World.frozen?,an,h]
theorem bo.az {W:Nat→Prop} (h:bo w b c T) (ai:aq W w J) (ad:¬W b):bo J b c T:=by
 have aB:=h.lt
 unfold bo at h⊢
 rw[ai.block b aB ad];exact h
theorem bo.ext (h:bo w b c T) (ai:Ext w J):bo J b c T:=h.az ai id
theorem bo.drew (h:bo w b c T):bo w.drew b c T:=h
theorem bo.new (w:World) (c:Array Value) (T:TypeId):bo (w.alloc (.cells c T)) w.heap.size c T:=by
 show (w.heap.push (.cells c T))[w.heap.size]? =some (.cells c T (0,0))
 simp
theorem bo.set (h:bo w b c T) (i:Nat) (v:Value):bo (w.setCell ⟨b,i,none⟩ v) b (c.setIfInBounds i v) T:=by
 unfold bo at h⊢
 simp[World.setCell,w4,h]
def g9 (c:Array Value) (i:Nat):List Value→Array Value
 | []=>c
 |v::vs=>g9 (c.setIfInBounds i v) (i+1) vs
theorem sf:∀ (vs:List Value) (c:Array Value) (i:Nat),(g9 c i vs).size=c.size
 | [],_,_=>rfl
 |v::vs,c,i=>by simp[g9,sf vs]
theorem bo.w8:∀ (vs:List Value) {w:World} {c:Array Value} (i j:Nat),bo w b c T→bo (setCells w ⟨b,i,none⟩ j vs) b (g9 c (i+j) vs) T
 | [],_,_,_,_,h=>h
 |v::vs,w,c,i,j,h=>by
   simp only[setCells,g9,ba]
   have:=bo.w8 vs i (j+1) (h.set (i+j) v)
   rw[show i+(j+1)=i+j+1 by omega] at this
   exact this
theorem bo.fG (h:bo w b c T) (i:Nat) (vs:List Value) (ay:i+vs.length≤c.size) (aU:∀v∈vs,Plain v):cd w ⟨b,i,none⟩ vs:=by
 refine ⟨fun j bb=> ?_,aU⟩
 rw[ba,h.cell,h.frozen _ rfl]
 have:i+j<c.size:=by omega
 simp[this]
end
theorem xE {B:(World→Prop)→Prop} {rest:World→Prop} (φ:World→Prop) (U:∀k:World→Prop,(∀w,φ w→k w)→B k) (ab:∀w,φ w→rest w):bZ B rest:=⟨U rest ab⟩
theorem c2 {τ:Type} {B:(τ→World→Prop)→Prop} {rest:τ→World→Prop} (φ:τ→World→Prop) (U:∀k:τ→World→Prop,(∀x w,φ x w→k x w)→B k) (ab:∀x w,φ x w→rest x w):bZ B rest:=⟨U rest ab⟩
theorem RK.of {P:Program} {w:World} {T:TypeId} {k:IntKind} {v:Value} (h:vK P w T v) (aQ:P.underlying T=some (.int k)):∃n:Int,v= .int k n∧k.min≤n∧n≤k.max:=by
 simp only[vK,aQ] at h
 obtain ⟨fuel,h⟩:=h
 cases fuel with
 |zero=>cases h
 |succ f=>
   simp only[l7,aQ] at h
   obtain ⟨n,ay,U,ab⟩:=h
   exact ⟨n,by simpa using ay,U,ab⟩
theorem RL {n:Int} (bA:IntKind.u8.min≤n) (U:n≤IntKind.u8.max):0≤n∧n≤255:=by
 simpa[IntKind.min,IntKind.max,IntKind.signed,IntKind.bits] using And.intro bA U
theorem b_ {n:Int} (bA: -9223372036854775808≤n) (U:n≤9223372036854775807):IntKind.i64.wrap n=n:=by
 by_cases h:0≤n
 · exact Cf h U
 · have e:n%18446744073709551616=n+18446744073709551616:=by omega
   simp[IntKind.wrap,IntKind.signed,IntKind.bits,e]
   omega
end bl
namespace bl
open Go Go.RowKit
structure Src (sz:Nat) (w:World) (x:ak) (xs:List Value):Prop where
 len:xs.length=x.len*sz
 nil:x.a=none→xs=[]
 rd:∀a,x.a=some a→bR w a 0 (x.len*sz)=some xs
def bd (sz:Nat) (T:TypeId) (w:World) (s:ak) (vs:List Value):Prop:=
 vs.length=s.len*sz∧s.len≤s.cap∧s.cap≤maxLen∧
 ((s.a=none∧s.cap=0)∨∃b c,s.a=some ⟨b,0,none⟩∧bo w b c T∧c.size=s.cap*sz∧c.toList.take (s.len*sz)=vs)
def aM (s:ak) (k:Nat):Prop:=∃A,s.a=some A∧A.block=k
theorem IJ {w:World} {A:Addr}:∀ {n i:Nat} {vs:List Value},bR w A i n=some vs→vs.length=n
 |0,_,_,h=>by simp[bR] at h;simp[←h]
 |n+1,i,vs,h=>by
   simp only[bR] at h
   cases U:w.cell? (A.add i) with
   |none=>simp[U] at h
   |some v=>
     cases ab:bR w A (i+1) n with
     |none=>simp[U,ab] at h
     |some us=>
       simp only[U,ab,Option.some.injEq] at h
       subst h
       simp[IJ ab]
theorem se {w:World} {b:Nat} {c:Array Value} {T:TypeId} (h:bo w b c T):∀ (n o i:Nat),o+i+n≤c.size→bR w ⟨b,o,none⟩ i n=some ((c.toList.drop (o+i)).take n)
 |0,o,i,_=>by simp[bR]
 |n+1,o,i,ay=>by
   have U:o+i<c.size:=by omega
   have bV:=se h n o (i+1) (by omega)
   simp only[bR,ba,h.cell,bV]
   have ab:c[o+i]? =some c[o+i]:=by simp[U]
   rw[ab]
   simp only[Option.some.injEq]
   have aw:c.toList.drop (o+i)=c[o+i]::c.toList.drop (o+i+1):=by
     rw[zC (by simpa using U)]
     simp
   rw[aw]
   simp[Nat.add_assoc]
theorem bd.src {sz:Nat} {T:TypeId} {w:World} {s:ak} {vs:List Value} (h:bd sz T w s vs):Src sz w s vs:=by
 obtain ⟨U,ab,aw,aL⟩:=h
 refine ⟨U,fun ay=> ?_,fun a aH=> ?_⟩
 · rcases aL with ⟨_,ai⟩|⟨b,c,ad,_⟩
   · have:s.len=0:=by omega
     rw[this,sa] at U
     exact r4.1 U
   · rw[ay] at ad;cases ad
 · rcases aL with ⟨ay,_⟩|⟨b,c,ad,dm,ao,al⟩
   · rw[ay] at aH;cases aH
   · rw[ad] at aH
     cases aH
     have:=se dm (s.len*sz) 0 0 (by rw[ao];simp;exact r_ _ ab)
     rw[this]
     simp[al]
section
variable {P:Program} {w:World}
theorem xa {sz:Nat} {x:ak} {xs:List Value} (h:Src sz w x xs):(Builtin.firstCells sz x.len (.slice x.a x.len x.cap)).run P w= .ok xs.toArray w:=by
 cases af:x.a with
 |none=>rw[h.nil af];rfl
 |some a=>
   simp only[Builtin.firstCells,loadCells]
   rw[run_loadCellsFrom _ _ _ _ (h.rd a af)]
   simp
theorem IK (oz:Nat):∀ (r c:Nat),c≤2*oz+1000→Builtin.growBy oz r c≤2*oz+1000
 |0,c,h=>h
 |r+1,c,h=>by
   simp only[Builtin.growBy]
   split
   · exact h
   · exact IK oz r _ (by omega)
theorem SN {oz cap:Nat} (h:cap<oz):Builtin.nextslicecap oz cap≤2*oz+1000:=by
 unfold Builtin.nextslicecap
 split
 · omega
 · split
   · omega
   · exact IK oz 4 cap (by omega)
theorem Bp {gF:Array TypeId} {db dk qd e:TypeId} {d:TypeDesc} {sz:Nat} {s x:ak} {xs:List Value} (bA:gF[0]? =some dk) (U:gF[1]? =some qd)
   (ao:P.underlying dk=some (.slice e)) (af:P.underlying qd=some (.slice e)) (he:P.underlying e=some d) (dt:P.cellsOf e=sz) (fi:Src sz w x xs)
   (kk:s.len+x.len≤s.cap) (eW:∀a,s.a=some a→cd w (a.add (s.len*sz)) xs):
   Sem.run P (Builtin.append_ gF db #[.slice s.a s.len s.cap, .slice x.a x.len x.cap]) w=
     .ok (.slice s.a (s.len+x.len) s.cap) (match s.a with|some a=>setCells w (a.add (s.len*sz)) 0 xs|none=>w):=by
 have aI:=xa (P:=P) fi
 have tD:=ix (w:=w) he
 rw[dt] at tD
 cases uu:s.a with
 |none=>
   simp[Builtin.append_,bA,U,ck ao,ck af,tD,Builtin.lenOf,kk,aI]
 |some a=>
   have sg:=eW a uu
   have:=ur (P:=P) (A:=a.add (s.len*sz)) xs 0 w (by simpa using sg.1) sg.2
   simp[Builtin.append_,bA,U,ck ao,ck af,tD,Builtin.lenOf,kk,aI,this]
theorem run_append_grow {gF:Array TypeId} {db dk qd e:TypeId} {i:TypeInfo} {z:Value} {sz:Nat} {s x:ak} {xs e1:List Value} (bA:gF[0]? =some dk) (U:gF[1]? =some qd)
   (ao:P.underlying dk=some (.slice e)) (af:P.underlying qd=some (.slice e)) (hi:P.info? e=some i) (ax:(P.underlying e).isSome=true) (bI:i.zero=some z) (lJ:z.cells.size=sz) (dt:P.cellsOf e=sz)
   (ad:i.bytes≠0) (fi:Src sz w x xs) (hold:Src sz w s e1) (kk:s.cap<s.len+x.len) (lS:(2*(s.len+x.len)+1000)*i.bytes≤281474976710656):
   ∃ (g0:Nat) (rest:List Value),s.len+x.len≤g0∧g0≤maxLen∧rest.length=(g0-(s.len+x.len))*sz∧
     Sem.run P (Builtin.append_ gF db #[.slice s.a s.len s.cap, .slice x.a x.len x.cap]) w=
       .ok (.slice (some ⟨w.heap.size,0,none⟩) (s.len+x.len) g0) (w.drew.alloc (.cells (e1++xs++rest).toArray e)):=by
 obtain ⟨d,ax⟩:=lT _ ax
 have tD:=ix (w:=w) ax
 rw[dt] at tD
 have uZ:=SN kk
 have ay:Builtin.nextslicecap (s.len+x.len) s.cap*i.bytes≤281474976710656:=hY (r_ _ uZ) lS
 have Vs:s.len+x.len≤281474976710656:=by
   have:s.len+x.len≤(2*(s.len+x.len)+1000)*i.bytes:=by
     have:=Nat.mul_le_mul_left (2*(s.len+x.len)+1000) (Nat.one_le_iff_ne_zero.2 ad)
     omega
   omega
 let q:Question:= .appendCap (s.len+x.len) s.cap e
 let g0:Nat:=q.cut (w.tape w.drawn q)
 have ag:q.forced=false:=rfl
 have SO:s.len+x.len≤g0:=by show s.len+x.len≤s.len+x.len+_;omega
 have SP:g0≤maxLen:=by
   show s.len+x.len+_%(2^63-(s.len+x.len))≤2^63-1
   have:=k6 (w.tape w.drawn q) (y:=2^63-(s.len+x.len)) (by omega)
   omega
 have SQ:Src sz w.drew x xs:=⟨fi.len,fi.nil,fun a aH=>by
   have:=fi.rd a aH
   have ai:aq (fun _=>False) w w.drew:=aq.drew (.refl _ _)
   exact ai.bR (by simp) _ _ _ this⟩
 have SR:Src sz w.drew s e1:=⟨hold.len,hold.nil,fun a aH=>by
   have:=hold.rd a aH
   have ai:aq (fun _=>False) w w.drew:=aq.drew (.refl _ _)
   exact ai.bR (by simp) _ _ _ this⟩
 have aI:=xa (P:=P) SQ
 have iV:=xa (P:=P) SR
 have SS:∀n (J:World),(askRoom n).run P J= .ok () J:=fun n J=>by unfold askRoom;split<;>rfl
 have SU:(choose q).run P w= .ok g0 w.drew:=by
   show Sem.run P (.choose q .pure) w=_
   simp only[Sem.run,ag,gJ,if_false]
   rfl
 have xY:=fun w:World=>qZ (w:=w) hi
 refine ⟨g0,(Builtin.zeroCells z.cells (g0-(s.len+x.len))).toList,SO,SP,by simp[Builtin.zeroCells,lJ],?_⟩
 have aT:¬(s.len+x.len≤s.cap):=by omega
 have a8:¬((s.len+x.len:Nat):Int)>IntKind.i64.max:=by
   simp[IntKind.max,IntKind.signed,IntKind.bits];omega
 have ei:¬(281474976710656<Builtin.nextslicecap (s.len+x.len) s.cap*i.bytes):=by omega
 have sk:¬Builtin.nextslicecap (s.len+x.len) s.cap*i.bytes>2^48:=by simpa using ei
 unfold Builtin.append_
 simp only[List.getElem?_toArray,sd,List.getElem?_cons_succ,bA,U,Sem.run_bind,ck ao,ck af,Result.andThen,tD,Builtin.lenOf,Sem.run_pure,aT,if_false,gJ,xY,a8,false_and,sk,Bool.not_false,if_true]
 have SV:Sem.run P (choose (.appendCap (s.len+x.len) s.cap e)) w= .ok g0 w.drew:=SU
 simp only[SV,SS,aI,iV,zeroValue,xY,bI,Sem.run_bind,Result.andThen,Sem.run_pure,newRow,newObj,Sem.run]
 have kn:w.drew.heap.size=w.heap.size:=rfl
 rw[kn]
 congr 1
 show w.drew.alloc _=w.drew.alloc _
 congr 2
 simp
theorem w9:∀ (vs:List Value) (c:Array Value) (i:Nat),i+vs.length≤c.size→(g9 c i vs).toList.take (i+vs.length)=c.toList.take i++vs
 | [],c,i,_=>by simp[g9]
 |v::vs,c,i,h=>by
   simp only[ir] at h
   simp only[g9]
   have:=w9 vs (c.setIfInBounds i v) (i+1) (by simpa using (by omega:i+1+vs.length≤c.size))
   rw[show i+(v::vs).length=i+1+vs.length by simp;omega,this]
   have hi:i<c.size:=by omega
   have ab:(c.setIfInBounds i v).toList.take (i+1)=c.toList.take i++ [v]:=by
     rw[mc (by simpa using hi)]
     have aw:(List.take i c.toList).set i v=List.take i c.toList:=by
       apply List.set_eq_of_length_le
       simp only[g8]
       omega
     simp[List.take_set,aw]
   rw[ab]
   simp
theorem SW {gF:Array TypeId} {db dk qd e:TypeId} {i:TypeInfo} {z:Value} {sz:Nat} {s x:ak} {xs vs:List Value} (bA:gF[0]? =some dk) (U:gF[1]? =some qd)
   (ao:P.underlying dk=some (.slice e)) (af:P.underlying qd=some (.slice e)) (hi:P.info? e=some i) (ax:(P.underlying e).isSome=true) (bI:i.zero=some z) (lJ:z.cells.size=sz) (dt:P.cellsOf e=sz)
   (ad:i.bytes≠0) (fi:Src sz w x xs) (fl:bd sz e w s vs) (aU:∀v∈xs,Plain v) (lS:(2*(s.len+x.len)+1000)*i.bytes≤281474976710656):
   ∃ (ar:ak) (J:World),Sem.run P (Builtin.append_ gF db #[.slice s.a s.len s.cap, .slice x.a x.len x.cap]) w= .ok (.slice ar.a ar.len ar.cap) J∧
     bd sz e J ar (vs++xs)∧ar.len=s.len+x.len∧aq (aM s) w J∧(∀k,aM ar k→aM s k∨w.heap.size≤k):=by
 have hold:=fl.src
 obtain ⟨bp,bw,bL,cx⟩:=fl
 by_cases kk:s.len+x.len≤s.cap
 · have eW:∀a,s.a=some a→cd w (a.add (s.len*sz)) xs:=by
     intro a aH
     rcases cx with ⟨ay,_⟩|⟨b,c,mZ,dm,dn,al⟩
     · rw[ay] at aH;cases aH
     · rw[mZ] at aH
       cases aH
       rw[ba]
       refine dm.fG _ _ ?_ aU
       rw[dn,fi.len,e6,←iu]
       exact r_ _ kk
   obtain ⟨d,ax⟩:=lT _ ax
   have iB:=Bp (db:=db) bA U ao af ax dt fi kk eW
   refine ⟨⟨s.a,s.len+x.len,s.cap⟩,_,iB,?_,rfl,?_,fun k aa=> .inl aa⟩
   · refine ⟨by simp[bp,fi.len,iu],kk,bL,?_⟩
     rcases cx with ⟨ay,ai⟩|⟨b,c,mZ,dm,dn,al⟩
     · exact .inl ⟨ay,ai⟩
     · refine .inr ⟨b,g9 c (s.len*sz) xs,mZ,?_,by rw[sf];exact dn,?_⟩
       · simp only[mZ,ba]
         have:=bo.w8 (T:=e) xs (0+s.len*sz) 0 dm
         simpa using this
       · have hle:s.len*sz+xs.length≤c.size:=by
           rw[dn,fi.len,←iu]
           exact r_ _ kk
         have:=w9 xs c (s.len*sz) hle
         rw[fi.len,←iu] at this
         rw[this,al]
   · cases uu:s.a with
     |none=>exact .refl _ _
     |some a=>
       refine aq.setCells (fun _=> ?_) xs 0 (.refl _ _)
       exact ⟨a,uu,by unfold Addr.add;split<;>rfl⟩
 · obtain ⟨g0,rest,jD,gU,aC,iB⟩:=run_append_grow (db:=db) bA U ao af hi ax bI lJ dt ad fi hold (by omega) lS
   refine ⟨⟨some ⟨w.heap.size,0,none⟩,s.len+x.len,g0⟩,_,iB,?_,rfl,aq.alloc (aq.drew (.refl _ _)) _,?_⟩
   · refine ⟨by simp[bp,fi.len,iu],jD,gU, .inr ⟨w.heap.size,(vs++xs++rest).toArray,rfl,bo.new w.drew _ _,?_,?_⟩⟩
     · simp[bp,fi.len,aC]
       rw[←iu,←iu]
       congr 1
       omega
     · have:(vs++xs).length=(s.len+x.len)*sz:=by simp[bp,fi.len,iu]
       show List.take ((s.len+x.len)*sz) (vs++xs++rest).toArray.toList=vs++xs
       rw[←this]
       exact List.take_left
   · rintro k ⟨A,an,aa⟩
     cases an
     exact .inr (by simpa using aa▸b6 _)
end
theorem bd.az {sz:Nat} {T:TypeId} {w J:World} {s:ak} {vs:List Value} {W:Nat→Prop} (h:bd sz T w s vs) (ai:aq W w J) (ay:∀k,aM s k→¬W k):bd sz T J s vs:=by
 obtain ⟨U,ab,aw,aL⟩:=h
 refine ⟨U,ab,aw,?_⟩
 rcases aL with aL|⟨b,c,ad,dm,dn,al⟩
 · exact .inl aL
 · exact .inr ⟨b,c,ad,dm.az ai (ay b ⟨_,ad,rfl⟩),dn,al⟩
theorem Src.az {sz:Nat} {w J:World} {s:ak} {vs:List Value} {W:Nat→Prop} (h:Src sz w s vs) (ai:aq W w J) (ay:∀k,aM s k→¬W k):Src sz J s vs:=
 ⟨h.len,h.nil,fun a aH=>ai.bR (ay _ ⟨a,aH,rfl⟩) _ _ _ (h.rd a aH)⟩
theorem bd.lt {sz:Nat} {T:TypeId} {w:World} {s:ak} {vs:List Value} (h:bd sz T w s vs):∀k,aM s k→k<w.heap.size:=by
 rintro k ⟨A,an,rfl⟩
 obtain ⟨_,_,_,aL⟩:=h
 rcases aL with ⟨ay,_⟩|⟨b,c,ad,dm,_⟩
 · rw[ay] at an;cases an
 · rw[ad] at an;cases an;exact dm.lt
theorem bd.cell {T:TypeId} {w:World} {s:ak} {vs:List Value} (h:bd 1 T w s vs) {i:Nat} {v:Value} (al:vs[i]? =some v):
   ∃b c,s.a=some ⟨b,0,none⟩∧bo w b c T∧c.size=s.cap∧i<s.len∧i<c.size∧w.cell? ⟨b,i,none⟩=some v∧c.toList.take s.len=vs:=by
 obtain ⟨U,ab,aw,aL⟩:=h
 have hi:i<s.len:=by
   have:=(tZ.1 al).1
   omega
 rcases aL with ⟨_,ai⟩|⟨b,c,ad,dm,dn,bx⟩
 · omega
 · rw[fb] at dn bx
   refine ⟨b,c,ad,dm,dn,hi,by omega,?_,bx⟩
   rw[dm.cell]
   rw[←bx,List.getElem?_take] at al
   rw[if_pos hi] at al
   simpa using al
theorem bd.set {T:TypeId} {w:World} {s:ak} {vs:List Value} {b i:Nat} (h:bd 1 T w s vs) (ad:s.a=some ⟨b,0,none⟩) (v:Value):
   bd 1 T (w.setCell ⟨b,i,none⟩ v) s (vs.set i v):=by
 obtain ⟨U,ab,aw,aL⟩:=h
 refine ⟨by simpa using U,ab,aw, .inr ?_⟩
 rcases aL with ⟨ay,_⟩|⟨xm,c,iA,dm,dn,bx⟩
 · rw[ay] at ad;cases ad
 · rw[ad] at iA
   cases iA
   refine ⟨b,_,ad,dm.set i v,by simpa using dn,?_⟩
   rw[←bx]
   simp[List.take_set]
def IL (P:Program) (dk e:TypeId) (sz bytes:Nat):Bool:=
 match P.underlying dk,P.info? e,P.underlying e with
 |some (.slice cF),some i,some _=>cF==e&&(match i.zero with|some z=>z.cells.size==sz|none=>false)&&P.cellsOf e==sz&&i.bytes==bytes&&bytes !=0
 |_,_,_=>false
structure gM (P:Program) (dk e:TypeId) (sz bytes:Nat):Prop where
 h:IL P dk e sz bytes=true
theorem gM.out {P:Program} {dk e:TypeId} {sz bytes:Nat} (h:gM P dk e sz bytes):
   P.underlying dk=some (.slice e)∧∃i z,P.info? e=some i∧(P.underlying e).isSome=true∧i.zero=some z∧z.cells.size=sz∧P.cellsOf e=sz∧i.bytes=bytes∧bytes≠0:=by
 have h:=h.h
 unfold IL at h
 split at h
 · rename_i cF i d U ab aw
   simp only[eL,beq_iff_eq,bne_iff_ne] at h
   obtain ⟨⟨⟨⟨rfl,aL⟩,bt⟩,cj⟩,gT⟩:=h
   split at aL
   · rename_i z bI
     exact ⟨U,i,z,ab,by simp[aw],bI,by simpa using aL,bt,cj,gT⟩
   · cases aL
 · cases h
theorem gM.append {P:Program} {w:World} {dk e db:TypeId} {sz bytes:Nat} {s x:ak} {xs vs:List Value} (h:gM P dk e sz bytes)
   (fi:Src sz w x xs) (fl:bd sz e w s vs) (aU:∀v∈xs,Plain v) (lS:(2*(s.len+x.len)+1000)*bytes≤281474976710656):
   ∃ (ar:ak) (J:World),Sem.run P (Builtin.append_ #[dk,dk] db #[.slice s.a s.len s.cap, .slice x.a x.len x.cap]) w= .ok (.slice ar.a ar.len ar.cap) J∧
     bd sz e J ar (vs++xs)∧ar.len=s.len+x.len∧aq (aM s) w J∧(∀k,aM ar k→aM s k∨w.heap.size≤k):=by
 obtain ⟨U,i,z,ab,aw,aL,bt,cj,rfl,h7⟩:=h.out
 exact SW rfl rfl U U ab aw aL bt cj h7 fi fl aU lS
theorem Src.new {sz:Nat} {T:TypeId} (w:World) (xs:List Value) (n:Nat) (ay:xs.length=n*sz):Src sz (w.alloc (.cells xs.toArray T)) ⟨some ⟨w.heap.size,0,none⟩,n,n⟩ xs:=by
 refine ⟨ay,(fun h=>by cases h),fun a aH=> ?_⟩
 cases aH
 rw[se (bo.new w xs.toArray T) _ _ _ (by simp[ay])]
 simp[←ay]
theorem bd.new {sz:Nat} {T:TypeId} (w:World) (xs:List Value) (n:Nat) (ay:xs.length=n*sz) (hm:n≤maxLen):bd sz T (w.alloc (.cells xs.toArray T)) ⟨some ⟨w.heap.size,0,none⟩,n,n⟩ xs:=by
 refine ⟨ay,b6 _,hm, .inr ⟨_,_,rfl,bo.new w _ _,by simp[ay],?_⟩⟩
 show List.take (n*sz) xs=xs
 rw[←ay,oJ]
theorem bd.none (sz:Nat) (T:TypeId) (w:World):bd sz T w ⟨.none,0,0⟩ []:=⟨by simp,b6 _,by decide, .inl ⟨rfl,rfl⟩⟩
theorem ld (k:Nat):¬aM ⟨.none,0,0⟩ k:=by rintro ⟨A,an,_⟩;cases an
theorem sQ {A:Addr} {n m k:Nat}:aM ⟨some A,n,m⟩ k↔A.block=k:=⟨fun ⟨B,fe,h⟩=>by cases fe;exact h,fun h=>⟨_,rfl,h⟩⟩
theorem Src.alloc {sz:Nat} {w:World} {s:ak} {vs:List Value} (h:Src sz w s vs) (o:Obj):Src sz (w.alloc o) s vs:=h.az (W:=fun _=>False) (aq.alloc (.refl _ _) o) (fun _ _ h=>h)
theorem bd.ext {sz:Nat} {T:TypeId} {w J:World} {s:ak} {vs:List Value} (h:bd sz T w s vs) (ai:Ext w J):bd sz T J s vs:=h.az ai fun _ _ h=>h
theorem Src.ext {sz:Nat} {w J:World} {s:ak} {vs:List Value} (h:Src sz w s vs) (ai:Ext w J):Src sz J s vs:=h.az ai fun _ _ h=>h
theorem gM.push {P:Program} {w:World} {dk e db:TypeId} {sz bytes:Nat} {s:ak} {vs xs:List Value} (h:gM P dk e sz bytes) (af:xs.length=sz)
   (fl:bd sz e w s vs) (aU:∀v∈xs,Plain v) (lS:(2*(s.len+1)+1000)*bytes≤281474976710656):
   ∃ (ar:ak) (J:World),Sem.run P (Builtin.append_ #[dk,dk] db #[.slice s.a s.len s.cap, .slice (some ⟨w.heap.size,0,none⟩) 1 1]) (w.alloc (.cells xs.toArray e))= .ok (.slice ar.a ar.len ar.cap) J∧
     bd sz e J ar (vs++xs)∧ar.len=s.len+1∧aq (aM s) w J∧(∀k,aM ar k→aM s k∨w.heap.size≤k):=by
 have ai:Ext w (w.alloc (.cells xs.toArray e)):=aq.alloc (.refl _ _) _
 obtain ⟨ar,J,U,ab,aw,aL,bt⟩:=h.append (db:=db) (Src.new (T:=e) w xs 1 (by simpa using af)) (fl.ext ai) aU lS
 exact ⟨ar,J,U,ab,aw,(aq.gi ai).trans aL,fun k aa=>(bt k aa).imp id (fun h=>by simp at h;omega)⟩
theorem gM.clone {P:Program} {w:World} {dk e db:TypeId} {sz bytes:Nat} {x:ak} {xs:List Value} (h:gM P dk e sz bytes)
   (fi:Src sz w x xs) (aU:∀v∈xs,Plain v) (lS:(2*x.len+1000)*bytes≤281474976710656):
   ∃ (ar:ak) (J:World),Sem.run P (Builtin.append_ #[dk,dk] db #[.slice (some ⟨w.heap.size,0,none⟩) 0 0, .slice x.a x.len x.cap]) (w.alloc (.cells #[] e))= .ok (.slice ar.a ar.len ar.cap) J∧
     bd sz e J ar xs∧ar.len=x.len∧Ext w J∧(∀k,aM ar k→w.heap.size≤k)∧ar.a.isSome=true:=by
 have fl:=bd.new (sz:=sz) (T:=e) w [] 0 (by simp) (by decide)
 have IM:=fi.alloc (.cells #[] e)
 obtain ⟨ar,J,U,ab,aw,aL,bt⟩:=h.append (db:=db) IM fl aU (by simpa using lS)
 refine ⟨ar,J,U,by simpa using ab,by simpa using aw,?_,fun k aa=> ?_,?_⟩
 · refine ⟨aL.os.trans rfl,aL.tape.trans rfl,aL.output.trans rfl,?_,fun k aa _=> ?_⟩
   · have:=aL.size;simp at this;omega
   · rw[aL.block k (by simp;omega) (by rintro ⟨A,an,h⟩;cases an;simp at h;omega)]
     exact Below.heap_alloc _ _ _ aa
 · rcases bt k aa with ⟨A,an,h⟩|h
   · cases an;simp at h;omega
   · simp at h;omega
 · obtain ⟨_,i,z,ym,Cg,Vt,Lv,SX,rfl,h7⟩:=h.out
   have ad:=ab.2.2.2
   rcases ad with ⟨ay,ai⟩|⟨b,c,ad,_⟩
   ·
     exfalso
     have aB:=ab.2.1
     have rF:x.len=0:=by simp at aw;omega
     have GY:xs=[]:=r4.1 (by rw[fi.len,rF,sa])
     obtain ⟨d,ax⟩:=lT _ Cg
     have:=Bp (P:=P) (w:=w.alloc (.cells #[] e)) (gF:= #[dk,dk]) (db:=db) (s:=⟨some ⟨w.heap.size,0,Option.none⟩,0,0⟩) rfl rfl h.out.1 h.out.1 ax SX IM (by simp[rF]) (fun a _=>by
       rw[GY];exact ⟨fun i hi=>by simp at hi,fun v al=>by simp at al⟩)
     rw[this] at U
     simp only[Result.ok.injEq,Value.slice.injEq] at U
     rw[ay] at U
     cases U.1.1
   · rw[ad];rfl
theorem OD (k:IntKind) (ns:List Int):∀v∈ns.map (Value.int k),Plain v:=by
 intro v al
 obtain ⟨n,_,rfl⟩:=eK.1 al
 trivial
end bl
namespace bl
open Go Go.RowKit
def IN (ns:List Int):ByteArray:=ns.foldl (fun r n=>r.push (UInt8.ofNat n.toNat)) ByteArray.empty
theorem Ku {P:Program} {w:World} {src dst e:TypeId} {s:ak} {ns:List Int} (ao:P.underlying src=some (.slice e)) (he:P.underlying e=some (.int .u8)) (ax:P.underlying dst=some .string)
   (h:Src 1 w s (ns.map (.int .u8))):Sem.run P (convert src dst (.slice s.a s.len s.cap)) w= .ok (.string (IN ns)) w:=by
 rw[run_convert_bytes_string w src dst e s.a s.len s.cap ao he ax]
 cases aH:s.a with
 |none=>
   have:=h.nil aH
   have ay:ns=[]:=by simpa using this
   subst ay
   rfl
 |some A=>
   have aC:=h.rd A aH
   rw[fb] at aC
   exact run_bytesToString w A s.len s.cap ns (by
     unfold loadCells
     rw[run_loadCellsFrom _ _ _ _ aC]
     simp)
theorem D8 {P:Program} {e:TypeId} {v:Value} (bI:((P.info? e).bind (·.zero)).map (·.cells)=some #[v]) (ai:P.cellsOf e=1) (n:Nat):gy P e n=(List.replicate n v).toArray:=by
 unfold gy
 rw[ai]
 cases hi:(P.info? e).bind (·.zero) with
 |none=>rw[hi] at bI;cases bI
 |some z=>
   rw[hi] at bI
   simp only[qp,Option.some.injEq] at bI
   simp only[ue,bI,fb]
   apply Array.ext
   · simp
   · intro i U ab
     have ay:n≠0:=by
       intro h;subst h;simp at ab
     simp[ay,Nat.mod_one]
section
variable {P:Program} {w:World} {T:TypeId} {fuel:Nat} {cs:List Value}
end
theorem uv {w:World} {A:Addr}:∀ {n i:Nat} {vs:List Value} {j:Nat} {v:Value},bR w A i n=some vs→vs[j]? =some v→w.cell? (A.add (i+j))=some v
 |0,i,vs,j,v,h,al=>by simp[bR] at h;subst h;simp at al
 |n+1,i,vs,j,v,h,al=>by
   simp only[bR] at h
   cases U:w.cell? (A.add i) with
   |none=>simp[U] at h
   |some u=>
     cases ab:bR w A (i+1) n with
     |none=>simp[U,ab] at h
     |some us=>
       simp only[U,ab,Option.some.injEq] at h
       subst h
       cases j with
       |zero=>simp at al;subst al;exact U
       |succ j=>
         have:=uv ab (j:=j) (by simpa using al)
         rw[show i+(j+1)=i+1+j by omega]
         exact this
theorem Src.at {w:World} {s:ak} {vs:List Value} (h:Src 1 w s vs) {i:Nat} {v:Value} (al:vs[i]? =some v):
   ∃A:Addr,s.a=some A∧((0:Int)≤(i:Int)∧(i:Int)<((s.len:Nat):Int))∧w.cell? (A.add (Int.toNat (i:Int)*1))=some v:=by
 have hi:i<vs.length:=(tZ.1 al).1
 have aB:=h.len
 cases aH:s.a with
 |none=>have:=h.nil aH;subst this;simp at hi
 |some A=>
   have:=uv (h.rd A aH) al
   exact ⟨A,rfl,⟨by omega,by omega⟩,by rw[fb,eC];simpa using this⟩
end bl
