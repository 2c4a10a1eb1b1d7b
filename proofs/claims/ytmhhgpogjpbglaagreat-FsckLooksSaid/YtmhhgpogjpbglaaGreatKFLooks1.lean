/- What a Go program of the model must show, as text that can be read; sound against the kit. -/
import Derived.Below
import Derived.KernelRfl
import Derived.Laws.BytesString
import Derived.OpenShut
import Derived.OrdersHeld
import Derived.ProofKit
import Derived.StillTail
import Derived.Tactics
import Derived.WalkKit
import Derived.WideKeyArgs
namespace Go
theorem b6:type_of% @Nat.le_refl:=@Nat.le_refl
theorem cf:type_of% @of_decide_eq_true:=@of_decide_eq_true
theorem cm:type_of% @of_decide_eq_false:=@of_decide_eq_false
theorem cR:type_of% @decide_eq_true_eq:=@decide_eq_true_eq
theorem c9:type_of% @List.length_append:=@List.length_append
theorem dP:type_of% @List.getElem_mem:=@List.getElem_mem
theorem ei:type_of% @Nat.zero_le:=@Nat.zero_le
theorem ep:type_of% @List.length_map:=@List.length_map
theorem er:type_of% @Int.toNat_natCast:=@Int.toNat_natCast
theorem fc:type_of% @List.mem_cons:=@List.mem_cons
theorem fx:type_of% @Bool.eq_iff_iff:=@Bool.eq_iff_iff
theorem fy:type_of% @Bool.and_eq_true:=@Bool.and_eq_true
theorem fX:type_of% @Nat.zero_add:=@Nat.zero_add
theorem fY:type_of% @decide_eq_false_iff_not:=@decide_eq_false_iff_not
theorem gl:type_of% @List.mem_map:=@List.mem_map
theorem gu:type_of% @decide_eq_true:=@decide_eq_true
theorem gv:type_of% @List.mem_singleton:=@List.mem_singleton
theorem gC:type_of% @List.append_assoc:=@List.append_assoc
theorem gJ:type_of% @Nat.mul_one:=@Nat.mul_one
theorem gK:type_of% @Nat.lt_or_ge:=@Nat.lt_or_ge
theorem gL:type_of% @Bool.not_eq_true:=@Bool.not_eq_true
theorem gY:type_of% @List.getElem?_eq_getElem:=@List.getElem?_eq_getElem
theorem hD:type_of% @List.mem_append:=@List.mem_append
theorem hP:type_of% @Bool.or_eq_true:=@Bool.or_eq_true
theorem hT:type_of% @List.map_append:=@List.map_append
theorem iv:type_of% @List.length_take:=@List.length_take
theorem iw:type_of% @List.getD_eq_getElem?_getD:=@List.getD_eq_getElem?_getD
theorem jc:type_of% @List.not_mem_nil:=@List.not_mem_nil
theorem jd:type_of% @or_false:=@or_false
theorem jt:type_of% @Bool.false_eq_true:=@Bool.false_eq_true
theorem ju:type_of% @List.length_set:=@List.length_set
theorem jV:type_of% @List.take_of_length_le:=@List.take_of_length_le
theorem jW:type_of% @List.length_cons:=@List.length_cons
theorem jX:type_of% @Bool.or_eq_false_iff:=@Bool.or_eq_false_iff
theorem kS:type_of% @List.take_succ_eq_append_getElem:=@List.take_succ_eq_append_getElem
theorem kT:type_of% @Nat.mod_lt:=@Nat.mod_lt
theorem kU:type_of% @Nat.le_trans:=@Nat.le_trans
theorem kV:type_of% @Nat.eq_of_beq_eq_true:=@Nat.eq_of_beq_eq_true
theorem ln:type_of% @List.map_cons:=@List.map_cons
theorem lp:type_of% @List.take_length:=@List.take_length
theorem lq:type_of% @Bool.not_eq_true':=@Bool.not_eq_true'
theorem lr:type_of% @Nat.add_mul:=@Nat.add_mul
theorem l3:type_of% @beq_iff_eq:=@beq_iff_eq
theorem mH:type_of% @List.length_drop:=@List.length_drop
theorem mI:type_of% @Bool.true_and:=@Bool.true_and
theorem nq:type_of% @List.length_nil:=@List.length_nil
theorem pd:type_of% @Nat.mod_eq_of_lt:=@Nat.mod_eq_of_lt
theorem pe:type_of% @List.map_map:=@List.map_map
theorem qp:type_of% @List.mem_range:=@List.mem_range
theorem qq:type_of% @List.getElem_of_mem:=@List.getElem_of_mem
theorem qs:type_of% @Nat.lt_of_lt_of_le:=@Nat.lt_of_lt_of_le
theorem qt:type_of% @Bool.false_or:=@Bool.false_or
theorem qu:type_of% @Array.getElem?_eq_some_iff:=@Array.getElem?_eq_some_iff
theorem r9:type_of% @List.drop_eq_getElem_cons:=@List.drop_eq_getElem_cons
theorem r_:type_of% @List.append_nil:=@List.append_nil
theorem sa:type_of% @List.all_eq_true:=@List.all_eq_true
theorem sd:type_of% @decide_eq_false:=@decide_eq_false
theorem se:type_of% @Bool.false_and:=@Bool.false_and
theorem sf:type_of% @List.getElem_set_self:=@List.getElem_set_self
theorem tE:type_of% @List.length_eq_zero_iff:=@List.length_eq_zero_iff
theorem tF:type_of% @List.drop_zero:=@List.drop_zero
theorem tG:type_of% @Option.map_some:=@Option.map_some
theorem tH:type_of% @List.length_replicate:=@List.length_replicate
theorem tI:type_of% @List.length_singleton:=@List.length_singleton
theorem tJ:type_of% @Int.tmod_eq_emod_of_nonneg:=@Int.tmod_eq_emod_of_nonneg
theorem tK:type_of% @List.mem_cons_of_mem:=@List.mem_cons_of_mem
theorem vv:type_of% @UInt8.toNat_lt:=@UInt8.toNat_lt
theorem vw:type_of% @List.getElem?_map:=@List.getElem?_map
theorem vx:type_of% @List.drop_drop:=@List.drop_drop
theorem vy:type_of% @List.map_nil:=@List.map_nil
theorem vz:type_of% @Bool.not_eq_false':=@Bool.not_eq_false'
theorem vA:type_of% @List.mem_filter:=@List.mem_filter
theorem vB:type_of% @Nat.one_mul:=@Nat.one_mul
theorem vC:type_of% @Nat.testBit_or:=@Nat.testBit_or
theorem xM:type_of% @List.getElem?_eq_some_iff:=@List.getElem?_eq_some_iff
theorem xN:type_of% @Nat.xor_lt_two_pow:=@Nat.xor_lt_two_pow
theorem xO:type_of% @Decidable.byContradiction:=@Decidable.byContradiction
theorem xP:type_of% @List.any_eq_false:=@List.any_eq_false
theorem xQ:type_of% @List.mem_of_find?_eq_some:=@List.mem_of_find?_eq_some
theorem xR:type_of% @Nat.mul_le_mul_right:=@Nat.mul_le_mul_right
theorem xS:type_of% @List.getElem?_eq_none:=@List.getElem?_eq_none
theorem xT:type_of% @List.length_range:=@List.length_range
theorem xU:type_of% @Nat.zero_mul:=@Nat.zero_mul
theorem xV:type_of% @List.getElem?_cons_zero:=@List.getElem?_cons_zero
theorem zX:type_of% @List.take_append_drop:=@List.take_append_drop
theorem zY:type_of% @List.pairwise_iff_getElem:=@List.pairwise_iff_getElem
theorem zZ:type_of% @Option.getD_some:=@Option.getD_some
theorem z1:type_of% @List.getElem?_append_right:=@List.getElem?_append_right
theorem z2:type_of% @List.find?_some:=@List.find?_some
theorem z6:type_of% @List.nodup_cons:=@List.nodup_cons
theorem z7:type_of% @Nat.testBit_two_pow:=@Nat.testBit_two_pow
theorem z8:type_of% @List.cons_append:=@List.cons_append
theorem z_:type_of% @List.filterMap_cons:=@List.filterMap_cons
theorem Aa:type_of% @List.filterMap_append:=@List.filterMap_append
theorem CT:type_of% @List.getElem?_drop:=@List.getElem?_drop
theorem CU:type_of% @Nat.pow_le_pow_right:=@Nat.pow_le_pow_right
theorem CV:type_of% @List.nodup_append:=@List.nodup_append
theorem CW:type_of% @List.perm_middle:=@List.perm_middle
theorem CX:type_of% @List.toList_toArray:=@List.toList_toArray
theorem CY:type_of% @List.size_toArray:=@List.size_toArray
theorem CZ:type_of% @Option.isSome_iff_exists:=@Option.isSome_iff_exists
theorem C0:type_of% @List.getElem_take:=@List.getElem_take
theorem C1:type_of% @Array.getElem?_modify:=@Array.getElem?_modify
theorem C2:type_of% @Nat.le_of_ble_eq_true:=@Nat.le_of_ble_eq_true
theorem GA:type_of% @List.eq_of_mem_replicate:=@List.eq_of_mem_replicate
theorem GB:type_of% @Int.eq_ofNat_of_zero_le:=@Int.eq_ofNat_of_zero_le
end Go
namespace bD
open Go
structure ah where
 a:Option Addr
 len:Nat
 cap:Nat
structure lX where
 f:FuncId
 pre:Array Value
 cap:Array Value
inductive dr where
 |int (k:IntKind)|bool|str|ptr|slice|map|agg|fn|any
def dr.T:dr→Type
 | .int _=>Int
 | .bool=>Bool
 | .str=>ByteArray
 | .ptr=>Option Addr
 | .slice=>ah
 | .map=>Option Nat
 | .agg=>Array Value
 | .fn=>lX
 | .any=>Value
def dr.v:(l:dr)→l.T→Value
 | .int k,(n:Int)=> .int k n
 | .bool,(b:Bool)=> .bool b
 | .str,(s:ByteArray)=> .string s
 | .ptr,(p:Option Addr)=> .pointer p
 | .slice,(s:ah)=> .slice s.a s.len s.cap
 | .map,(r:Option Nat)=> .map r
 | .agg,(cs:Array Value)=> .agg cs
 | .fn,(F:lX)=> .func (.func F.f) F.pre F.cap
 | .any,(v:Value)=>v
inductive rX where
 |one (l:dr)
 |flat (ls:List dr)
def xa (l:dr) (K:Value→Prop):Prop:=
 match l with
 | .int k=>∃n:Int,K (.int k n)
 | .bool=>∃b:Bool,K (.bool b)
 | .str=>∃s:ByteArray,K (.string s)
 | .ptr=>∃p:Option Addr,K (.pointer p)
 | .slice=>∃s:ah,K (.slice s.a s.len s.cap)
 | .map=>∃r:Option Nat,K (.map r)
 | .agg=>∃cs:Array Value,K (.agg cs)
 | .fn=>∃F:lX,K (.func (.func F.f) F.pre F.cap)
 | .any=>∃v:Value,K v
def Ke:List dr→(List Value→Prop)→Prop
 | [],K=>K []
 |l::ls,K=>xa l fun v=>Ke ls fun vs=>K (v::vs)
def Kf (k:rX) (K:Value→Prop):Prop:=
 match k with
 | .one l=>xa l K
 | .flat ls=>Ke ls fun vs=>K (.agg vs.toArray)
def Fw:List rX→(List Value→Prop)→Prop
 | [],K=>K []
 |k::h3,K=>Kf k fun v=>Fw h3 fun vs=>K (v::vs)
theorem y8 {l:dr} {K:Value→Prop} (h:xa l K):∃v,K v:=by
 cases l<;>simp only[xa] at h<;>obtain ⟨x,h⟩:=h<;>exact ⟨_,h⟩
theorem RD:∀ {ls:List dr} {K:List Value→Prop},Ke ls K→∃vs,K vs
 | [],_,h=>⟨_,h⟩
 |_::_,_,h=>let ⟨_,h⟩:=y8 h;let ⟨_,h⟩:=RD h;⟨_,h⟩
theorem RE {k:rX} {K:Value→Prop} (h:Kf k K):∃v,K v:=by
 cases k with
 |one l=>exact y8 h
 |flat ls=>obtain ⟨_,h⟩:=RD h;exact ⟨_,h⟩
theorem Kg:∀ {ls:List rX} {K:List Value→Prop},Fw ls K→∃vs,K vs
 | [],_,h=>⟨_,h⟩
 |_::_,_,h=>let ⟨_,h⟩:=RE h;let ⟨_,h⟩:=Kg h;⟨_,h⟩
abbrev Env:=List (Nat×Value)
def Env.get:Env→Nat→Option Value
 | [],_=>none
 |(k,v)::e,s=>bif Nat.beq k s then some v else Env.get e s
def a8 (e:Env):Operand→Option Value
 | .tmp t=>e.get t
 | .const v=>some v
 | .global g=>some (.pointer (some ⟨g,0,none⟩))
 | .func f=>some (.func (.func f) #[] #[])
def ro (e:Env) (x:Operand):Value:=(a8 e x).getD undef
def known (e:Env) (xs:Array Operand):Bool:=xs.toList.all fun x=>(a8 e x).isSome
structure ec (e:Env) (a:Act):Prop where
 get:∀s v,e.get s=some v→a.tmps[s]? =some v
theorem ec.a8 {e:Env} {a:Act} (h:ec e a) {x:Operand} {v:Value} (ai:a8 e x=some v):a.eval x=v:=by
 cases x with
 |tmp t=>
   have:=h.get t v ai
   simp[Act.eval,Array.getD_eq_getD_getElem?,this]
 |const c=>simpa[bD.a8,Act.eval] using ai
 |global g=>simpa[bD.a8,Act.eval] using ai
 |func f=>simpa[bD.a8,Act.eval] using ai
theorem ec.ro {e:Env} {a:Act} (h:ec e a) {x:Operand} (ai:(bD.a8 e x).isSome=true):a.eval x=ro e x:=by
 obtain ⟨v,ao⟩:=CZ.1 ai
 rw[h.a8 ao,bD.ro,ao];rfl
def dA (d:Option Nat) (v:Value) (e:Env):Env:=
 match d with
 |some d=>(d,v)::e
 |none=>e
theorem xb (d:Nat) (v:Value) (e:Env) (s:Nat):Env.get ((d,v)::e) s=if d=s then some v else e.get s:=by
 simp only[Env.get,cond_eq_ite]
 by_cases n0:d=s
 · subst n0;simp
 · have:Nat.beq d s=false:=by
     cases aj:Nat.beq d s
     · rfl
     · exact absurd (kV aj) n0
   simp[this,n0]
theorem ec.put {e:Env} {a:Act} (h:ec e a) {d:Option Nat} {v:Value} (aE:∀k,d=some k→k<a.tmps.size):ec (dA d v e) (a.put d v):=by
 cases d with
 |none=>exact h
 |some d=>
   constructor
   intro s u ar
   rw[dA,xb] at ar
   simp only[Act.put]
   by_cases n0:d=s
   · subst n0
     simp only[if_true,Option.some.injEq] at ar
     subst ar
     simp[aE d rfl]
   · rw[if_neg n0] at ar
     rw[Array.getElem?_setIfInBounds_ne n0]
     exact h.get s u ar
inductive gB where
 |one (k:rX)
 |fM (h3:List rX)
def kO (r:gB) (K:Value→Prop):Prop:=
 match r with
 | .one k=>Kf k K
 | .fM h3=>Fw h3 fun vs=>K (.tuple vs.toArray)
theorem lg {r:gB} {K:Value→Prop} (h:kO r K):∃v,K v:=by
 cases r with
 |one k=>exact RE h
 |fM h3=>obtain ⟨_,h⟩:=Kg h;exact ⟨_,h⟩
def cn (w:World) (A:Addr):Nat→Nat→Option (List Value)
 |_,0=>some []
 |i,n+1=>match w.cell? (A.add i),cn w A (i+1) n with
   |some v,some vs=>some (v::vs)
   |_,_=>none
def setCells (w:World) (A:Addr):Nat→List Value→World
 |_,[]=>w
 |i,v::vs=>setCells (w.setCell (A.add i) v) A (i+1) vs
def Plain:Value→Prop
 | .agg _=>False
 | .tuple _=>False
 |_=>True
def bW (w:World) (A:Addr) (vs:List Value):Prop:=
 (∀i,i<vs.length→(w.cell? (A.add i)).isSome=true∧w.frozen? (A.add i)=false)∧∀v∈vs,Plain v
def kp:TypeDesc→Bool
 | .struct _=>true
 | .array _ _=>true
 |_=>false
def jB (P:Program) (elem:TypeId) (n:Nat):Array Value:=
 let zero:=if n*P.cellsOf elem=0 then #[] else (((P.info? elem).bind (·.zero)).getD undef).cells
 (Array.range (n*P.cellsOf elem)).map (zero[· %zero.size]!)
section
variable {P:Program} {w:World}
theorem db {t:TypeId} {d:TypeDesc} (h:P.underlying t=some d):(underlying t).run P w= .ok d w:=by
 simp[underlying,program,Sem.run,bind,Sem.bind,h,pure]
theorem wb {t:TypeId} {d:TypeInfo} (h:P.info? t=some d):(typeInfo t).run P w= .ok d w:=by
 simp[typeInfo,program,Sem.run,bind,Sem.bind,h,pure]
theorem info_of_underlying {t:TypeId} {d:TypeDesc} (h:P.underlying t=some d):∃i,P.info? t=some i:=by
 unfold Program.underlying at h
 cases hi:P.info? t with
 |none=>simp[hi] at h
 |some i=>exact ⟨i,rfl⟩
theorem lu {t:TypeId} {d:TypeDesc} (h:P.underlying t=some d):(Go.sizeOf t).run P w= .ok (P.cellsOf t) w:=by
 obtain ⟨i,hi⟩:=info_of_underlying h
 simp[Go.sizeOf,wb hi,Program.cellsOf,hi]
theorem y9 {t:TypeId} {d:TypeDesc} (h:P.underlying t=some d):(isAgg t).run P w= .ok (kp d) w:=by
 simp only[isAgg,Sem.run_bind,db h,Result.andThen]
 cases d<;>rfl
theorem G1 {A:Addr} {v:Value} (h:w.cell? A=some v):(load A).run P w= .ok v w:=by
 simp[load,Sem.run,h]
theorem run_loadCellsFrom {A:Addr}:∀ (n i:Nat) (acc:Array Value) (vs:List Value),cn w A i n=some vs→
   (loadCellsFrom A i n acc).run P w= .ok (acc++vs.toArray) w
 |0,i,acc,vs,h=>by
   simp only[cn,Option.some.injEq] at h
   subst h
   simp[loadCellsFrom]
 |n+1,i,acc,vs,h=>by
   simp only[cn] at h
   cases U:w.cell? (A.add i) with
   |none=>simp[U] at h
   |some v=>
     cases ag:cn w A (i+1) n with
     |none=>simp[U,ag] at h
     |some us=>
       simp only[U,ag,Option.some.injEq] at h
       subst h
       simp only[loadCellsFrom,Sem.run_bind,G1 U,Result.andThen]
       rw[run_loadCellsFrom n (i+1) (acc.push v) us ag]
       simp
theorem Fx {T:TypeId} {d:TypeDesc} (aV:P.underlying T=some d) (aE:kp d=true) {A:Addr} {vs:List Value} (h:cn w A 0 (P.cellsOf T)=some vs):
   (loadVar T A).run P w= .ok (.agg vs.toArray) w:=by
 simp only[loadVar,Sem.run_bind,y9 aV,Result.andThen,aE,if_true,lu aV,loadCells,run_loadCellsFrom _ _ _ _ h]
 simp
theorem RF {T:TypeId} {d:TypeDesc} (aV:P.underlying T=some d) (aE:kp d=false) {A:Addr} {v:Value} (h:w.cell? A=some v):
   (loadVar T A).run P w= .ok v w:=by
 simp only[loadVar,Sem.run_bind,y9 aV,Result.andThen,aE,jt,if_false,G1 h]
theorem aev {A:Addr} {v u:Value} (ao:Plain v) (h:w.cell? A=some u) (aL:w.frozen? A=false):(store A v).run P w= .ok () (w.setCell A v):=by
 cases v<;>simp_all [store,Sem.run,Plain]
theorem aew (w:World) (A B:Addr) (v:Value):((w.setCell A v).cell? B).isSome=(w.cell? B).isSome:=by
 simp only[World.setCell,World.cell?,C1]
 by_cases aj:A.block=B.block
 · simp only[aj,if_true]
   cases w.heap[B.block]? with
   |none=>rfl
   |some o=>
     cases o<;>simp
     by_cases ar:B.spot.isSome<;>simp[ar]
     by_cases lB:A.spot.isSome<;>simp[lB]
     rw[fx];simp
 · simp[aj]
theorem aex (w:World) (A B:Addr) (v:Value):(w.setCell A v).frozen? B=w.frozen? B:=by
 simp only[World.setCell,World.frozen?,C1]
 by_cases aj:A.block=B.block
 · simp only[aj,if_true]
   cases w.heap[B.block]? with
   |none=>rfl
   |some o=>cases o<;>rfl
 · simp[aj]
theorem Ad {A:Addr}:∀ (vs:List Value) (i:Nat) (w:World),(∀j,j<vs.length→(w.cell? (A.add (i+j))).isSome=true∧w.frozen? (A.add (i+j))=false)→(∀v∈vs,Plain v)→
   (storeCells A vs i).run P w= .ok () (setCells w A i vs)
 | [],i,w,_,_=>rfl
 |v::vs,i,w,h,aU=>by
   have bP:=h 0 (by simp)
   simp only[Nat.add_zero] at bP
   obtain ⟨u,hu⟩:=CZ.1 bP.1
   simp only[storeCells,Sem.run_bind,aev (P:=P) (aU v (by simp)) hu bP.2,Result.andThen,setCells]
   refine Ad vs (i+1) (w.setCell (A.add i) v) (fun j bu=> ?_) (fun x ai=>aU x (by simp[ai]))
   have:=h (j+1) (by simp;omega)
   rw[aew,aex,show i+1+j=i+(j+1) by omega]
   exact this
theorem RG {T:TypeId} {d:TypeDesc} (aV:P.underlying T=some d) {A:Addr} {v:Value} (ar:v.cells.size=P.cellsOf T) (h:bW w A v.cells.toList):
   (storeVar T A v).run P w= .ok () (setCells w A 0 v.cells.toList):=by
 simp only[storeVar,Sem.run_bind,lu aV,Result.andThen,ar,ne_eq,not_true,if_false]
 simpa using Ad v.cells.toList 0 w (by simpa using h.1) h.2
end
def Kh:List dr→Addr→Nat→World→(List Value→Prop)→Prop
 | [],_,_,_,K=>K []
 |l::ls,A,i,w,K=>xa l fun v=>w.cell? (A.add i)=some v∧Kh ls A (i+1) w fun vs=>K (v::vs)
def y_ (P:Program) (bc:TypeId→gB) (T:TypeId) (A:Addr) (w:World) (K:Value→Prop):Prop:=
 match P.underlying T with
 |none=>False
 |some d=>
   bif kp d then
     match bc T with
     | .one (.flat ls)=>bif Nat.beq (P.cellsOf T) ls.length then Kh ls A 0 w fun vs=>K (.agg vs.toArray) else False
     |_=>∃cs:List Value,cn w A 0 (P.cellsOf T)=some cs∧K (.agg cs.toArray)
   else
     match bc T with
     | .one (.one l)=>xa l fun v=>w.cell? A=some v∧K v
     |_=>False
def Ki (P:Program) (bc:TypeId→gB) (T:TypeId) (A:Addr) (x:Value) (w:World) (K:World→Prop):Prop:=
 match P.underlying T with
 |none=>False
 |some d=>
   bif kp d then
     match x with
     | .agg cs=>bW w A cs.toList∧cs.size=P.cellsOf T∧K (setCells w A 0 cs.toList)
     |_=>False
   else bif Nat.beq (P.cellsOf T) 1 then
     match bc T with
     | .one (.one .any)=>Plain x∧(∃u,w.cell? A=some u)∧w.frozen? A=false∧K (w.setCell A x)
     |_=>match x with
       | .agg _=>False
       | .tuple _=>False
       |_=>(∃u,w.cell? A=some u)∧w.frozen? A=false∧K (w.setCell A x)
   else False
def wU (P:Program) (T:TypeId) (xs ys:Array Value) (b:Bool):Prop:=
 P.eqGuardType P.depth T=false∧∀w,(Op.equal T (.agg xs) (.agg ys)).run P w= .ok b w
def xc:Value→Option Bool
 | .nilIface=>some true
 | .iface _ _=>some false
 |_=>none
def xd:Option TypeDesc→Bool
 |some (.interface _)=>true
 |_=>false
def tl:Option TypeDesc→Bool
 |some (.pointer _)=>true
 |_=>false
def va:Option TypeDesc→Bool
 |some (.slice _)=>true
 |_=>false
def za:Option TypeDesc→Bool
 |some (.map _ _)=>true
 |_=>false
def n1:IntKind→IntKind→Bool:=fun a b=>decide (a=b)
def Fy (P:Program) (op:BinOp) (T:TypeId) (x y:Value) (K:Value→Prop) (G:Prop):Prop:=
 match y with
 | .nilIface=>bif xd (P.underlying T) then
     match op with
     | .eql=>∃b,xc x=some b∧K (.bool b)
     | .neq=>∃b,xc x=some b∧K (.bool (!b))
     |_=>False
   else False
 | .pointer none=>bif tl (P.underlying T) then
     match op,x with
     | .eql, .pointer p=>K (.bool p.isNone)
     | .neq, .pointer p=>K (.bool (!p.isNone))
     |_,_=>False
   else False
 | .slice none _ _=>bif va (P.underlying T) then
     match op,x with
     | .eql, .slice a _ _=>K (.bool a.isNone)
     | .neq, .slice a _ _=>K (.bool (!a.isNone))
     |_,_=>False
   else False
 | .map none=>bif za (P.underlying T) then
     match op,x with
     | .eql, .map r=>K (.bool r.isNone)
     | .neq, .map r=>K (.bool (!r.isNone))
     |_,_=>False
   else False
 | .agg ys=>
     match op,x with
     | .eql, .agg xs=>∃b,wU P T xs ys b∧K (.bool b)
     | .neq, .agg xs=>∃b,wU P T xs ys b∧K (.bool (!b))
     |_,_=>False
 | .int en b=>
     match op,x with
     | .quo, .int k a=>bif n1 k en then b≠0∧K (.int k (k.wrap (a.tdiv b))) else False
     | .rem, .int k a=>bif n1 k en then b≠0∧K (.int k (a.tmod b)) else False
     | .shl, .int k a=>0≤b∧K (.int k (k.wrap (a*2^(min b.toNat k.bits))))
     | .shr, .int k a=>0≤b∧K (.int k (a.fdiv (2^(min b.toNat k.bits))))
     |_,_=>G
 | .bool b=>match P.underlying T with
     |some .bool=>match op,x with
       | .eql, .bool a=>K (.bool (a==b))
       | .neq, .bool a=>K (.bool (!(a==b)))
       |_,_=>False
     |_=>False
 | .string b=>
     match op,x with
     | .add, .string a=>((a.size+b.size:Nat):Int)≤9223372036854775807∧K (.string (a++b))
     |_,_=>G
 |_=>G
section
variable {P:Program}
theorem zb (T:TypeId) (x y:Value):Op.equal T x y=Op.equalIn (9999+1) T x y:=rfl
theorem aey (d:Nat) {T:TypeId} {x:Value} {b:Bool} (aV:xd (P.underlying T)=true) (h:xc x=some b) (w:World):
   (Op.equalIn (d+1) T x .nilIface).run P w= .ok b w:=by
 cases hu:P.underlying T with
 |none=>simp[hu,xd] at aV
 |some d=>
   cases d<;>simp only[hu,xd,jt] at aV
   simp only[Op.equalIn,Sem.run_bind,db hu,Result.andThen]
   cases x<;>simp only[xc,reduceCtorEq,Option.some.injEq] at h<;>subst h<;>rfl
theorem aez (d:Nat) {T:TypeId} {p:Option Addr} (aV:tl (P.underlying T)=true) (w:World):
   (Op.equalIn (d+1) T (.pointer p) (.pointer none)).run P w= .ok p.isNone w:=by
 cases hu:P.underlying T with
 |none=>simp[hu,tl] at aV
 |some d=>
   cases d<;>simp only[hu,tl,jt] at aV
   simp only[Op.equalIn,Sem.run_bind,db hu,Result.andThen]
   cases p<;>rfl
theorem aeA (d:Nat) {T:TypeId} {a:Option Addr} {l c Kj oG:Nat} (aV:va (P.underlying T)=true) (w:World):
   (Op.equalIn (d+1) T (.slice a l c) (.slice none Kj oG)).run P w= .ok a.isNone w:=by
 cases hu:P.underlying T with
 |none=>simp[hu,va] at aV
 |some d=>
   cases d<;>simp only[hu,va,jt] at aV
   simp only[Op.equalIn,Sem.run_bind,db hu,Result.andThen]
   cases a<;>rfl
theorem aeB (d:Nat) {T:TypeId} {r:Option Nat} (aV:za (P.underlying T)=true) (w:World):
   (Op.equalIn (d+1) T (.map r) (.map none)).run P w= .ok r.isNone w:=by
 cases hu:P.underlying T with
 |none=>simp[hu,za] at aV
 |some d=>
   cases d<;>simp only[hu,za,jt] at aV
   simp only[Op.equalIn,Sem.run_bind,db hu,Result.andThen]
   cases r<;>rfl
theorem RH {T:TypeId} {x:Value} {b:Bool} (aV:xd (P.underlying T)=true) (h:xc x=some b) (w:World):
   (Op.equal T x .nilIface).run P w= .ok b w:=by rw[zb];exact aey _ aV h w
theorem Fz {T:TypeId} {p:Option Addr} (aV:tl (P.underlying T)=true) (w:World):
   (Op.equal T (.pointer p) (.pointer none)).run P w= .ok p.isNone w:=by rw[zb];exact aez _ aV w
theorem FA {T:TypeId} {a:Option Addr} {l c Kj oG:Nat} (aV:va (P.underlying T)=true) (w:World):
   (Op.equal T (.slice a l c) (.slice none Kj oG)).run P w= .ok a.isNone w:=by rw[zb];exact aeA _ aV w
theorem RI {T:TypeId} {r:Option Nat} (aV:za (P.underlying T)=true) (w:World):
   (Op.equal T (.map r) (.map none)).run P w= .ok r.isNone w:=by rw[zb];exact aeB _ aV w
theorem RJ {T:TypeId} {xs ys:Array Value} (h:P.eqGuardType P.depth T=false) (op:BinOp) (x y:Operand) (w:World):
   (eqGuard op T x y (.agg xs) (.agg ys)).run P w= .ok () w:=by
 cases op<;>simp[eqGuard,program,Sem.run,bind,Sem.bind,h,pure]
theorem RK {T:TypeId} {a b:Bool} (aV:P.underlying T=some .bool) (w:World):(Op.equal T (.bool a) (.bool b)).run P w= .ok (a==b) w:=by
 have aN:∀ (d:Nat) (w:World),(Op.equalIn (d+1) T (.bool a) (.bool b)).run P w= .ok (a==b) w:=by
   intro d w
   simp[Op.equalIn,db aV]
 rw[zb];exact aN _ w
theorem RL {op:BinOp} {T:TypeId} {x y:Value} {BG zc:Operand} {K:Value→Prop} {G:Prop}
   (bA:y= .nilIface→∃c,zc= .const c)
   (h:Fy P op T x y K G):
   G∨∃v,(∀w,(do eqGuard op T BG zc x y;binOp op T x y:Sem Value).run P w= .ok v w)∧K v:=by
 unfold Fy at h
 split at h
 case h_1=>
   obtain ⟨c,ak⟩:=bA rfl
   by_cases aV:xd (P.underlying T)=true
   · rw[aV] at h
     simp only[cond_true] at h
     split at h
     · obtain ⟨b,aj,aT⟩:=h
       refine .inr ⟨_,fun w=> ?_,aT⟩
       have:=RH (P:=P) aV aj w
       cases x<;>simp only[xc,reduceCtorEq,Option.some.injEq] at aj<;>subst ak aj<;>simp[eqGuard,binOp,this]
     · obtain ⟨b,aj,aT⟩:=h
       refine .inr ⟨_,fun w=> ?_,aT⟩
       have:=RH (P:=P) aV aj w
       cases x<;>simp only[xc,reduceCtorEq,Option.some.injEq] at aj<;>subst ak aj<;>simp[eqGuard,binOp,this]
     · exact h.elim
   · simp only[gL] at aV;rw[aV] at h;exact h.elim
 case h_2=>
   by_cases aV:tl (P.underlying T)=true
   · rw[aV] at h
     simp only[cond_true] at h
     split at h
     · exact .inr ⟨_,fun w=>by simp[eqGuard,binOp,Fz (P:=P) aV],h⟩
     · exact .inr ⟨_,fun w=>by simp[eqGuard,binOp,Fz (P:=P) aV],h⟩
     · exact h.elim
   · simp only[gL] at aV;rw[aV] at h;exact h.elim
 case h_3=>
   by_cases aV:va (P.underlying T)=true
   · rw[aV] at h
     simp only[cond_true] at h
     split at h
     · exact .inr ⟨_,fun w=>by simp[eqGuard,binOp,FA (P:=P) aV],h⟩
     · exact .inr ⟨_,fun w=>by simp[eqGuard,binOp,FA (P:=P) aV],h⟩
     · exact h.elim
   · simp only[gL] at aV;rw[aV] at h;exact h.elim
 case h_4=>
   by_cases aV:za (P.underlying T)=true
   · rw[aV] at h
     simp only[cond_true] at h
     split at h
     · exact .inr ⟨_,fun w=>by simp[eqGuard,binOp,RI (P:=P) aV],h⟩
     · exact .inr ⟨_,fun w=>by simp[eqGuard,binOp,RI (P:=P) aV],h⟩
     · exact h.elim
   · simp only[gL] at aV;rw[aV] at h;exact h.elim
 case h_5=>
   split at h
   · obtain ⟨b,⟨U,ag⟩,aT⟩:=h
     exact .inr ⟨_,fun w=>by simp[RJ U,binOp,ag],aT⟩
   · obtain ⟨b,⟨U,ag⟩,aT⟩:=h
     exact .inr ⟨_,fun w=>by simp[RJ U,binOp,ag],aT⟩
   · exact h.elim
 case h_6 en b=>
   split at h
   · rename_i k a
     by_cases aa:k=en
     · subst aa
       simp only[n1,decide_true,cond_true] at h
       exact .inr ⟨_,fun w=>by simp[eqGuard,binOp,Op.intDiv,h.1],h.2⟩
     · simp[n1,aa] at h
   · rename_i k a
     by_cases aa:k=en
     · subst aa
       simp only[n1,decide_true,cond_true] at h
       exact .inr ⟨_,fun w=>by simp[eqGuard,binOp,Op.intDiv,h.1],h.2⟩
     · simp[n1,aa] at h
   · exact .inr ⟨_,fun w=>by simp[eqGuard,binOp,Op.shift,show¬b<0 by omega],h.2⟩
   · exact .inr ⟨_,fun w=>by simp[eqGuard,binOp,Op.shift,show¬b<0 by omega],h.2⟩
   · exact .inl h
 case h_7 b=>
   split at h
   · rename_i aV
     split at h
     · exact .inr ⟨_,fun w=>by simp[eqGuard,binOp,RK aV],h⟩
     · exact .inr ⟨_,fun w=>by simp[eqGuard,binOp,RK aV],h⟩
     · exact h.elim
   · exact h.elim
 case h_8 b=>
   split at h
   · rename_i a
     refine .inr ⟨_,fun w=> ?_,h.2⟩
     have U:=h.1
     simp[eqGuard,binOp,Op.stringOp,IntKind.max,IntKind.signed,IntKind.bits]
     omega
   · exact .inl h
 case h_9=>exact .inl h
end
def FB (P:Program) (T:TypeId) (x:Value) (K:Value→Prop):Prop:=
 match P.underlying T with
 |some (.array n _)=>match x with
   | .slice a len _=>n≤len∧∃A,a=some A∧K (.pointer (some A))
   |_=>False
 |_=>False
def FC (P:Program) (T:TypeId) (x i:Value) (K:Value→Prop):Prop:=
 match i with
 | .int _ n=>
   match P.underlying T with
   |some (.slice elem)=>bif (P.underlying elem).isSome then
       match x with
       | .slice a len _=>∃A,a=some A∧(0≤n∧n<(len:Int))∧K (.pointer (some (A.add (n.toNat*P.cellsOf elem))))
       |_=>False
     else False
   |some (.array len elem)=>bif (P.underlying elem).isSome then
       match x with
       | .pointer (some A)=>(0≤n∧n<(len:Int))∧K (.pointer (some (A.add (n.toNat*P.cellsOf elem))))
       |_=>False
     else False
   |_=>False
 |_=>False
def BH (P:Program) (bc:TypeId→gB) (T:TypeId) (cs:Array Value) (off:Nat) (K:Value→Prop):Prop:=
 match P.underlying T with
 |none=>False
 |some d=>
   bif kp d then K (.agg (cs.extract off (off+P.cellsOf T)))
   else match bc T with
     | .one (.one l)=>xa l fun v=>cs[off]? =some v∧K v
     |_=>False
def FD (P:Program) (bc:TypeId→gB) (T:TypeId) (x i:Value) (K:Value→Prop):Prop:=
 match i with
 | .int _ n=>
   match P.underlying T with
   |some (.array len elem)=>match x with
       | .agg cs=>(0≤n∧n<(len:Int))∧BH P bc elem cs (n.toNat*P.cellsOf elem) K
       |_=>False
   |some .string=>match x with
       | .string s=>0≤n∧∃b:UInt8,s.data.toList[n.toNat]? =some b∧K (.int .u8 b.toNat)
       |_=>False
   |_=>False
 |_=>False
def FE (P:Program) (bc:TypeId→gB) (T:TypeId) (x:Value) (i:Nat) (K:Value→Prop):Prop:=
 match P.underlying T with
 |some (.struct fs)=>match fs[i]? with
   |some f=>match x with
     | .agg cs=>BH P bc f.type cs f.offset K
     |_=>False
   |none=>False
 |_=>False
def p9 (v:Option Value) (y d:Nat) (K:Nat→Prop):Prop:=
 match v with
 |none=>K d
 |some (.int _ i)=>(0≤i∧i≤(y:Int))∧K i.toNat
 |_=>False
def cN (a:Option Addr) (sz l m:Nat):Option Addr:=if m=l then a else a.map (·.add (l*sz))
def FF (P:Program) (T:TypeId) (x:Value) (lo hi o0:Option Value) (K:Value→Prop):Prop:=
 match P.underlying T with
 |some .string=>match o0,x with
   |none, .string s=>p9 hi s.size s.size fun h=>p9 lo h 0 fun l=>K (.string (s.extract l h))
   |_,_=>False
 |some (.slice elem)=>bif (P.underlying elem).isSome then
     match x with
     | .slice a len cap=>match o0 with
       |none=>p9 hi cap len fun h=>p9 lo h 0 fun l=>K (.slice (cN a (P.cellsOf elem) l cap) (h-l) (cap-l))
       |some aeC=>match hi with
         |none=>False
         |some ga=>p9 (some aeC) cap 0 fun m=>p9 (some ga) m 0 fun h=>p9 lo h 0 fun l=>K (.slice (cN a (P.cellsOf elem) l m) (h-l) (m-l))
     |_=>False
   else False
 |some (.array n elem)=>bif (P.underlying elem).isSome then
     match o0,x with
     |none, .pointer (some A)=>p9 hi n n fun h=>p9 lo h 0 fun l=>K (.slice (cN (some A) (P.cellsOf elem) l n) (h-l) (n-l))
     |_,_=>False
   else False
 |_=>False
def Kk (P:Program) (T:TypeId) (l c:Value) (w:World) (K:Value→World→Prop):Prop:=
 match P.underlying T with
 |some (.slice elem)=>bif (P.underlying elem).isSome then
     bif ((P.info? elem).bind (·.zero)).isSome then
     match l,c with
     | .int _ n, .int _ m=>(0≤n∧n≤m∧m≤9223372036854775807∧(P.bytesOf elem:Int)*m≤140737488355328)∧
         K (.slice (some ⟨w.heap.size,0,none⟩) n.toNat m.toNat) {w with heap:=w.heap.push (.cells (jB P elem m.toNat) elem)}
     |_,_=>False
     else False
   else False
 |_=>False
section
variable {P:Program} {w:World}
theorem pO (o:Option TypeDesc) (h:o.isSome=true):∃d,o=some d:=CZ.1 h
theorem RM {T:TypeId} {x:Value} {K:Value→Prop} (h:FB P T x K):∃v,(∀w,(Instr.arrayAt T x).run P w= .ok v w)∧K v:=by
 unfold FB at h
 split at h
 · rename_i n e aV
   split at h
   · rename_i a len cap
     obtain ⟨U,A,rfl,aT⟩:=h
     exact ⟨_,fun w=>by simp[Instr.arrayAt,db aV,Nat.not_lt.2 U],aT⟩
   · exact h.elim
 · exact h.elim
theorem RN {T:TypeId} {x i:Value} {K:Value→Prop} (h:FC P T x i K):∃v,(∀w,(Instr.indexAt T x i).run P w= .ok v w)∧K v:=by
 unfold FC at h
 split at h
 · rename_i k n
   split at h
   · rename_i elem aV
     by_cases he:(P.underlying elem).isSome=true
     · rw[he] at h
       simp only[cond_true] at h
       split at h
       · obtain ⟨A,rfl,aj,aT⟩:=h
         obtain ⟨d,aE⟩:=pO _ he
         exact ⟨_,fun w=>by simp[Instr.indexAt,asIntOf,db aV,aj,lu aE],aT⟩
       · exact h.elim
     · simp only[gL] at he;rw[he] at h;exact h.elim
   · rename_i len elem aV
     by_cases he:(P.underlying elem).isSome=true
     · rw[he] at h
       simp only[cond_true] at h
       split at h
       · obtain ⟨aj,aT⟩:=h
         obtain ⟨d,aE⟩:=pO _ he
         exact ⟨_,fun w=>by simp[Instr.indexAt,asIntOf,Instr.sureAddr,db aV,aj,lu aE],aT⟩
       · exact h.elim
     · simp only[gL] at he;rw[he] at h;exact h.elim
   · exact h.elim
 · exact h.elim
theorem RO {bc:TypeId→gB} {T:TypeId} {cs:Array Value} {off:Nat} {K:Value→Prop} (h:BH P bc T cs off K):∃v,(∀w,(part T cs off).run P w= .ok v w)∧K v:=by
 unfold BH at h
 split at h
 · exact h.elim
 · rename_i d aV
   cases aE:kp d with
   |true=>
     rw[aE] at h
     exact ⟨_,fun w=>by simp[part,y9 aV,aE,lu aV],h⟩
   |false=>
     rw[aE] at h
     simp only[cond_false] at h
     split at h
     · obtain ⟨v,ao,aT⟩:=y8 h
       exact ⟨v,fun w=>by simp[part,y9 aV,aE,ao],aT⟩
     · exact h.elim
theorem RP {bc:TypeId→gB} {T:TypeId} {x i:Value} {K:Value→Prop} (h:FD P bc T x i K):∃v,(∀w,(Instr.index T x i).run P w= .ok v w)∧K v:=by
 unfold FD at h
 split at h
 · rename_i k n
   split at h
   · rename_i len elem aV
     split at h
     · obtain ⟨aj,h⟩:=h
       obtain ⟨v,ao,aT⟩:=RO h
       refine ⟨v,fun w=> ?_,aT⟩
       have ar:(Go.sizeOf elem).run P w= .ok (P.cellsOf elem) w:=by
         unfold BH at h
         cases he:P.underlying elem with
         |none=>simp[he] at h
         |some d=>exact lu he
       simp[Instr.index,asIntOf,db aV,aj,ar,ao]
     · exact h.elim
   · rename_i aV
     split at h
     · rename_i s
       obtain ⟨aj,b,ar,aT⟩:=h
       have kA:s[n.toNat]? =some b:=by
         obtain ⟨U,ag⟩:=xM.1 ar
         have aA:n.toNat<s.size:=by simpa using U
         rw[getElem?_pos s n.toNat aA]
         simp only[Option.some.injEq]
         rw[←ag]
         rfl
       exact ⟨_,fun w=>by simp[Instr.index,asIntOf,db aV,aj,kA],aT⟩
     · exact h.elim
   · exact h.elim
 · exact h.elim
theorem RQ {bc:TypeId→gB} {T:TypeId} {x:Value} {i:Nat} {K:Value→Prop} (h:FE P bc T x i K):∃v,(∀w,(Instr.field T x i).run P w= .ok v w)∧K v:=by
 unfold FE at h
 split at h
 · rename_i fs aV
   split at h
   · rename_i f aL
     split at h
     · obtain ⟨v,ao,aT⟩:=RO h
       exact ⟨v,fun w=>by simp[Instr.field,db aV,aL,asAgg,ao],aT⟩
     · exact h.elim
   · exact h.elim
 · exact h.elim
theorem o1 {v:Option Value} {y d:Nat} {c:BoundsCode} {K:Nat→Prop} (h:p9 v y d K):
   (v=none∧K d)∨∃u n,v=some u∧(∀w,(Instr.sliceBound u y c).run P w= .ok n w)∧K n:=by
 unfold p9 at h
 split at h
 · exact .inl ⟨rfl,h⟩
 · exact .inr ⟨_,_,rfl,fun w=>by simp[Instr.sliceBound,asIntOf,h.1],h.2⟩
 · exact h.elim
theorem RR {T:TypeId} {x:Value} {lo hi o0:Option Value} {K:Value→Prop} (h:FF P T x lo hi o0 K):
   ∃v,(∀w,(Instr.sliceAt T x lo hi o0).run P w= .ok v w)∧K v:=by
 unfold FF at h
 split at h
 · rename_i aV
   split at h
   · rename_i s
     rcases o1 (P:=P) (c:= .sliceAlen) h with ⟨aN,U⟩|⟨u,n,aN,aJ,U⟩
     · rcases o1 (P:=P) (c:= .sliceB) U with ⟨a6,ag⟩|⟨zd,cY,a6,g2,ag⟩
       · exact ⟨_,fun w=>by simp[Instr.sliceAt,Instr.slice,db aV,Instr.sliceBounds,aN,a6],ag⟩
       · exact ⟨_,fun w=>by simp[Instr.sliceAt,Instr.slice,db aV,Instr.sliceBounds,aN,a6,g2],ag⟩
     · rcases o1 (P:=P) (c:= .sliceB) U with ⟨a6,ag⟩|⟨zd,cY,a6,g2,ag⟩
       · exact ⟨_,fun w=>by simp[Instr.sliceAt,Instr.slice,db aV,Instr.sliceBounds,aN,a6,aJ],ag⟩
       · exact ⟨_,fun w=>by simp[Instr.sliceAt,Instr.slice,db aV,Instr.sliceBounds,aN,a6,aJ,g2],ag⟩
   · exact h.elim
 · rename_i elem aV
   by_cases he:(P.underlying elem).isSome=true
   · rw[he] at h
     simp only[cond_true] at h
     obtain ⟨d,aE⟩:=pO _ he
     have eB:=fun w:World=>lu (w:=w) aE
     split at h
     · rename_i a len cap
       split at h
       · rcases o1 (P:=P) (c:= .sliceAcap) h with ⟨aN,U⟩|⟨u,n,aN,aJ,U⟩
         · rcases o1 (P:=P) (c:= .sliceB) U with ⟨a6,ag⟩|⟨zd,cY,a6,g2,ag⟩
           · exact ⟨_,fun w=>by simp[Instr.sliceAt,Instr.slice,db aV,Instr.sliceBounds,eB,cN,aN,a6],ag⟩
           · exact ⟨_,fun w=>by simp[Instr.sliceAt,Instr.slice,db aV,Instr.sliceBounds,g2,eB,cN,aN,a6],ag⟩
         · rcases o1 (P:=P) (c:= .sliceB) U with ⟨a6,ag⟩|⟨zd,cY,a6,g2,ag⟩
           · exact ⟨_,fun w=>by simp[Instr.sliceAt,Instr.slice,db aV,Instr.sliceBounds,aJ,eB,cN,aN,a6],ag⟩
           · exact ⟨_,fun w=>by simp[Instr.sliceAt,Instr.slice,db aV,Instr.sliceBounds,aJ,g2,eB,cN,aN,a6],ag⟩
       · split at h
         · exact h.elim
         · rcases o1 (P:=P) (c:= .slice3Acap) h with ⟨fO,U⟩|⟨u,n,fO,aJ,U⟩
           · cases fO
           · cases fO
             rcases o1 (P:=P) (c:= .slice3B) U with ⟨fO,ag⟩|⟨akx,dF,fO,qR,ag⟩
             · cases fO
             · cases fO
               rcases o1 (P:=P) (c:= .slice3C) ag with ⟨a6,aA⟩|⟨zd,cY,a6,g2,aA⟩
               · exact ⟨_,fun w=>by simp[Instr.sliceAt,Instr.slice,db aV,Instr.sliceBounds,aJ,qR,eB,cN,a6],aA⟩
               · exact ⟨_,fun w=>by simp[Instr.sliceAt,Instr.slice,db aV,Instr.sliceBounds,aJ,qR,g2,eB,cN,a6],aA⟩
     · exact h.elim
   · simp only[gL] at he;rw[he] at h;exact h.elim
 · rename_i n elem aV
   by_cases he:(P.underlying elem).isSome=true
   · rw[he] at h
     simp only[cond_true] at h
     obtain ⟨d,aE⟩:=pO _ he
     have eB:=fun w:World=>lu (w:=w) aE
     split at h
     · rename_i A
       rcases o1 (P:=P) (c:= .sliceAlen) h with ⟨aN,U⟩|⟨u,dF,aN,aJ,U⟩
       · rcases o1 (P:=P) (c:= .sliceB) U with ⟨a6,ag⟩|⟨zd,cY,a6,g2,ag⟩
         · refine ⟨_,fun w=> ?_,ag⟩
           simp[Instr.sliceAt,db aV,Instr.sureAddr,Instr.sliceBounds,eB,cN,aN,a6];try (split<;>rfl)
         · refine ⟨_,fun w=> ?_,ag⟩
           simp[Instr.sliceAt,db aV,Instr.sureAddr,Instr.sliceBounds,g2,eB,cN,aN,a6];try (split<;>rfl)
       · rcases o1 (P:=P) (c:= .sliceB) U with ⟨a6,ag⟩|⟨zd,cY,a6,g2,ag⟩
         · refine ⟨_,fun w=> ?_,ag⟩
           simp[Instr.sliceAt,db aV,Instr.sureAddr,Instr.sliceBounds,aJ,eB,cN,aN,a6];try (split<;>rfl)
         · refine ⟨_,fun w=> ?_,ag⟩
           simp[Instr.sliceAt,db aV,Instr.sureAddr,Instr.sliceBounds,aJ,g2,eB,cN,aN,a6];try (split<;>rfl)
     · exact h.elim
   · simp only[gL] at he;rw[he] at h;exact h.elim
 · exact h.elim
theorem Kl {n:Int} (bP:0≤n) (U:n≤9223372036854775807):IntKind.i64.wrap n=n:=by
 have e:n%18446744073709551616=n:=Int.emod_eq_of_lt bP (by omega)
 simp[IntKind.wrap,IntKind.signed,IntKind.bits,e]
 omega
theorem aeD {T:TypeId} {l c:Value} {K:Value→World→Prop} (h:Kk P T l c w K):
   ∃v J,(Instr.makeSlice T l c).run P w= .ok v J∧K v J:=by
 unfold Kk at h
 split at h
 · rename_i elem aV
   by_cases he:(P.underlying elem).isSome=true
   · rw[he] at h
     simp only[cond_true] at h
     by_cases cc:((P.info? elem).bind (·.zero)).isSome=true
     · rw[cc] at h
       simp only[cond_true] at h
       split at h
       · rename_i k n en m
         obtain ⟨⟨bP,U,ag,aA⟩,aT⟩:=h
         obtain ⟨d,aE⟩:=pO _ he
         obtain ⟨i,hi⟩:=info_of_underlying aE
         obtain ⟨z,FG⟩:=CZ.1 cc
         simp only[hi,Option.bind_some] at FG
         have aj:P.bytesOf elem=i.bytes:=by simp[Program.bytesOf,hi]
         have ak:P.cellsOf elem=i.size:=by simp[Program.cellsOf,hi]
         rw[aj] at aA
         have aN:=Kl bP (by omega)
         have a6:=Kl (n:=m) (by omega) ag
         refine ⟨_,_,?_,aT⟩
         have aD:¬(m<0):=by omega
         have g1:¬(281474976710656<(i.bytes:Int)*m):=by omega
         simp[Instr.makeSlice,db aV,asInt,asIntOf,wb hi,aN,a6,aD,g1,lu aE,show¬n<0 by omega,show¬m<n by omega]
         by_cases ar:m.toNat*P.cellsOf elem=0
         · simp[ar,newRow,newObj,Sem.run,jB]
         · simp[zeroValue,wb hi,FG,newRow,newObj,Sem.run,jB,ar,hi]
       · exact h.elim
     · simp only[gL] at cc;rw[cc] at h;exact h.elim
   · simp only[gL] at he;rw[he] at h;exact h.elim
 · exact h.elim
end
def ay (w:World) (K:World→Prop):Prop:=K w
def cellAt (cs:Array Value) (n:Nat):Option Value:=cs[n]?
def nu (k:IntKind) (a b:Int):Int:=k.wrap ((BitVec.ofInt k.bits a&&&BitVec.ofInt k.bits b).toNat:Int)
def x1 (k:IntKind) (a b:Int):Int:=k.wrap ((BitVec.ofInt k.bits a|||BitVec.ofInt k.bits b).toNat:Int)
def vG (k:IntKind) (a b:Int):Int:=k.wrap ((BitVec.ofInt k.bits a^^^BitVec.ofInt k.bits b).toNat:Int)
def BI (P:Program) (o:Oper) (K:Value→World→Prop) (e:Env) (w:World):Prop:=
 bif known e o.op.operands then
   match (execOp (ro e) o).run P w with
   | .ok (.value v) J=>ay J fun af=>K v af
   |_=>False
 else False
def RS (P:Program) (bc:TypeId→gB) (T:TypeId):gB:=
 match P.underlying T with
 |some (.slice e)=>bc e
 |_=> .one (.one .agg)
def dr.aeE:dr→Bool
 | .slice=>true
 |_=>false
def RT:gB→Bool
 | .one (.one .agg)=>true
 | .one (.flat ls)=>ls.any dr.aeE
 |_=>false
def gen (P:Program) (bc:TypeId→gB) (o:Oper) (K:Value→World→Prop) (e:Env) (w:World):Prop:=
 bif known e o.op.operands then
   match (execOp (ro e) o).run P w with
   | .ok (.value v) J=>K v J
   | .ok .skip J=>K undef J
   | .ok (.enter f args) J=>Calls P f args J fun pZ ic=>kO (bc o.type) fun v=>pZ= .returned v∧K v ic
   |_=>False
 else False
def tW (P:Program) (f:FuncId):Prop:=∃fn,P.funcs[f]? =some fn∧(fn.name== "runtime.NumGoroutine")=false∧fn.body.isNone=false
theorem aeF {P:Program} {f:FuncId} (h:tW P f) (args:Array Value) (w:World):(callFunc f args).run P w= .ok (.enter f args) w:=by
 obtain ⟨fn,U,ag,aA⟩:=h
 have yq:¬fn.name= "runtime.NumGoroutine" :=by simpa using ag
 have Bp:¬fn.body=none:=by
   intro h;rw[h] at aA;cases aA
 simp[callFunc,program,Sem.run,bind,Sem.bind,U,yq,Bp,pure]
def Km:Op→Bool
 | .select _ _=>true
 |_=>false
def RU (P:Program) (T:TypeId):Operand→Bool
 | .const _=>false
 |_=>xd (P.underlying T)||tl (P.underlying T)
def aeG (P:Program) (op:BinOp) (T:TypeId) (BG zc:Operand) (x y:Value) (b:Bool):Prop:=
 ∀w,Sem.run P (do eqGuard op T BG zc x y;binOp op T x y:Sem Value) w= .ok (.bool b) w
def ze:Operand→Value→Bool
 | .const _,_=>true
 |_, .nilIface=>false
 |_,_=>true
def n2 (P:Program) (bc:TypeId→gB) (o:Oper) (K:Value→World→Prop) (e:Env) (w:World):Prop:=
 match o.op with
 | .nilCheck x=>match a8 e x with
   |some (.pointer p)=>∃A,p=some A∧K (.pointer (some A)) w
   |_=>False
 | .load T x=>match a8 e x with
   |some (.pointer (some A))=>y_ P bc T A w fun v=>K v w
   |_=>False
 | .store T x y=>match a8 e x,a8 e y with
   |some (.pointer (some A)),some v=>Ki P bc T A v w fun J=>ay J fun af=>K undef af
   |_,_=>False
 | .binOp op T x y _=>match a8 e x,a8 e y with
   |some dj,some o2=>bif RU P T y then (∃b:Bool,aeG P op T x y dj o2 b∧K (.bool b) w) else
       bif ze y o2 then Fy P op T dj o2 (fun v=>K v w) (gen P bc o K e w) else False
   |_,_=>False
 | .indexAddr T x i=>match a8 e x,a8 e i with
   |some dj,some jR=>FC P T dj jR fun v=>K v w
   |_,_=>False
 | .index T x i=>match a8 e x,a8 e i with
   |some dj,some jR=>FD P bc T dj jR fun v=>K v w
   |_,_=>False
 | .field T x i=>match a8 e x with
   |some dj=>FE P bc T dj i fun v=>K v w
   |_=>False
 | .alloc _=>BI P o K e w
 | .box _ _=>BI P o K e w
 | .buildSlice T n ct=>bif RT (RS P bc T) then
     (bif known e o.op.operands then
       kO (bc o.type) fun r=>∃af,(Instr.buildSlice T n (ct.map fun p=>(p.1,ro e p.2))).run P w= .ok r af∧K r af
     else False)
   else BI P o K e w
 | .slice T x lo hi o0=>bif known e o.op.operands then
     FF P T (ro e x) (lo.map (ro e)) (hi.map (ro e)) (o0.map (ro e)) fun v=>K v w
   else False
 | .makeSlice T l c=>match a8 e l,a8 e c with
   |some RV,some RW=>Kk P T RV RW w fun v J=>ay J fun af=>K v af
   |_,_=>False
 | .convert s d x=>match a8 e x with
   |some (.int j n)=>bif (P.underlying s).isSome then
       match P.underlying d with
       |some (.int k)=>K (.int k (k.wrap n)) w
       |_=>kO (bc o.type) fun r=>∃af,(convert s d (.int j n)).run P w= .ok r af∧K r af
     else False
   |some v=>kO (bc o.type) fun r=>∃af,(convert s d v).run P w= .ok r af∧K r af
   |none=>False
 | .build t ct=>match bc t with
   | .one (.flat _)=>gen P bc o K e w
   |_=>bif known e o.op.operands then
       ∃cs:Array Value,(Instr.build t (ct.map fun p=>(p.1,ro e p.2))).run P w= .ok (.agg cs) w∧K (.agg cs) w
     else False
 | .lookup T m i ok=>match a8 e m,a8 e i with
   |some p_,some jR=>kO (bc o.type) fun r=>∃af,(Instr.lookup T p_ jR ok).run P w= .ok r af∧K r af
   |_,_=>False
 | .mapUpdate T m i x=>match a8 e m,a8 e i,a8 e x with
   |some p_,some jR,some dj=>∃af,(Instr.mapUpdate T p_ jR dj).run P w= .ok () af∧K undef af
   |_,_,_=>False
 | .makeMap T r=>bif known e o.op.operands then kO (bc o.type) fun v=>∃af,(Instr.makeMap T (r.map (ro e))).run P w= .ok v af∧K v af else False
 | .range T x=>match a8 e x with
   |some dj=>∃v af,(Instr.range T dj).run P w= .ok v af∧K v af
   |_=>False
 | .next it zf=>match a8 e it with
   |some dj=>(bif zf then ∃ (n:Int) (c:Int) (af:World),(Instr.next dj zf o.type).run P w= .ok (.tuple #[.bool true, .int .i64 n, .int .i32 c]) af∧K (.tuple #[.bool true, .int .i64 n, .int .i32 c]) af
       else ∃ (k:Value) (v:Value) (af:World),(Instr.next dj zf o.type).run P w= .ok (.tuple #[.bool true,k,v]) af∧K (.tuple #[.bool true,k,v]) af)∨
       (∃af:World,(Instr.next dj zf o.type).run P w= .ok (.tuple #[.bool false]) af∧K (.tuple #[.bool false]) af)
   |_=>False
 | .call c=>match c.callee with
   | .value (.tmp k)=>match e.get k with
     |some (.func (.func f) pre cap)=>bif known e o.op.operands then
         tW P f∧Calls P f (pre++c.args.map (ro e)++cap) w fun pZ af=>kO (bc o.type) fun v=>pZ= .returned v∧K v af
       else False
     |_=>gen P bc o K e w
   | .builtin .append=>bif known e o.op.operands then kO (bc o.type) fun r=>∃af,(Builtin.append_ c.argTypes o.type (c.args.map (ro e))).run P w= .ok r af∧K r af else False
   | .builtin .copy=>bif known e o.op.operands then kO (bc o.type) fun r=>∃af,(Builtin.copy_ c.argTypes o.type (c.args.map (ro e))).run P w= .ok r af∧K r af else False
   | .builtin .min=>bif known e o.op.operands then kO (bc o.type) fun r=>∃af,(Builtin.min_ c.argTypes o.type (c.args.map (ro e))).run P w= .ok r af∧K r af else False
   | .builtin .max=>bif known e o.op.operands then kO (bc o.type) fun r=>∃af,(Builtin.max_ c.argTypes o.type (c.args.map (ro e))).run P w= .ok r af∧K r af else False
   | .builtin .delete=>bif known e o.op.operands then ∃r af,(Builtin.delete_ c.argTypes o.type (c.args.map (ro e))).run P w= .ok r af∧K r af else False
   | .value (.func f)=>match P.funcs[f]? with
     |some fn=>match fn.body with
       |some _=>gen P bc o K e w
       |none=>bif known e o.op.operands then kO (bc o.type) fun r=>∃af,(callFunc f (c.args.map (ro e))).run P w= .ok (.value r) af∧K r af else False
     |none=>False
   | .builtin .unsafeString=>bif known e o.op.operands then kO (bc o.type) fun r=>∃af,(Builtin.unsafeString_ c.argTypes o.type (c.args.map (ro e))).run P w= .ok r af∧K r af else False
   | .builtin .unsafeSliceData=>bif known e o.op.operands then kO (bc o.type) fun r=>∃af,(Builtin.unsafeSliceData_ c.argTypes o.type (c.args.map (ro e))).run P w= .ok r af∧K r af else False
   | .builtin .clear=>bif known e o.op.operands then ∃r af,(Builtin.clear_ c.argTypes o.type (c.args.map (ro e))).run P w= .ok r af∧K r af else False
   | .builtin .len=>match ((c.args.map (ro e))[0]? :Option Value) with
     |some (Value.map _)=>bif known e o.op.operands then kO (bc o.type) fun r=>∃af,(Builtin.len_ c.argTypes o.type (c.args.map (ro e))).run P w= .ok r af∧K r af else False
     |_=>gen P bc o K e w
   |_=>gen P bc o K e w
 | .sliceToArrayPointer T x=>match a8 e x with
   |some dj=>FB P T dj fun v=>K v w
   |_=>False
 | .mapEntry T m i=>match a8 e m,a8 e i with
   |some p_,some jR=>∃ (v0:Value) (st:Int) (af:World),(Instr.mapEntry T p_ jR).run P w= .ok (.tuple #[v0, .int .i64 st]) af∧K (.tuple #[v0, .int .i64 st]) af
   |_,_=>False
 | .entryStore T m s x=>match a8 e m,a8 e s,a8 e x with
   |some p_,some vs,some dj=>∃af,(Instr.entryStore T p_ vs dj).run P w= .ok () af∧K undef af
   |_,_,_=>False
 | .entry it=>match a8 e it with
   |some dj=>kO (bc o.type) fun v=>∃af,(Instr.entry dj).run P w= .ok v af∧K v af
   |_=>False
 | .select _ _=>False
 |_=>gen P bc o K e w
def tm (P:Program) (o:Oper) (a:Act) (w:World) (K:Value→World→Prop):Prop:=
 (∃v J,(execOp a.eval o).run P w= .ok (.value v) J∧K v J)∨
 (∃J,(execOp a.eval o).run P w= .ok .skip J∧K undef J)∨
 (∃f args J,(execOp a.eval o).run P w= .ok (.enter f args) J∧Calls P f args J fun pZ ic=>∃v,pZ= .returned v∧K v ic)
theorem tm.wp {P:Program} {o:Oper} {a:Act} {w:World} {K:Value→World→Prop} {next:Act→World→Prop} {Q:Exit→Act→World→Prop}
   (h:tm P o a w K) (aD:∀v J,K v J→next (a.put o.dst v) J):o.wp P a w next Q:=by
 unfold Oper.wp
 rcases h with ⟨v,J,h,aT⟩|⟨J,h,aT⟩|⟨f,args,J,h,ak⟩
 · rw[h];exact aD _ _ aT
 · rw[h];exact aD _ _ aT
 · rw[h]
   exact ak.mono fun pZ ic ⟨v,ao,aT⟩=>by subst ao;exact aD _ _ aT
section
variable {P:Program} {bc:TypeId→gB} {o:Oper} {K:Value→World→Prop} {e:Env} {a:Act} {w:World}
theorem aeH (an:ec e a) {xs:Array Operand} (h:known e xs=true):∀x∈xs,a.eval x=ro e x:=by
 intro x ai
 exact an.ro (sa.1 h x (by simpa using ai))
theorem o3 (an:ec e a) (ar:Km o.op=false) (h:known e o.op.operands=true):execOp a.eval o=execOp (ro e) o:=
 execOp_congr o (fun cs b ak=>by rw[ak] at ar;cases ar) (aeH an h)
theorem xe (an:ec e a) (ar:Km o.op=false) (h:gen P bc o K e w):tm P o a w K:=by
 unfold gen at h
 by_cases aa:known e o.op.operands=true
 · rw[aa] at h
   simp only[cond_true] at h
   have ak:=o3 an ar aa
   unfold tm
   rw[ak]
   split at h
   · rename_i v J aJ
     exact .inl ⟨v,J,aJ,h⟩
   · rename_i J aJ
     exact .inr (.inl ⟨J,aJ,h⟩)
   · rename_i f args J aJ
     refine .inr (.inr ⟨f,args,J,aJ,h.mono fun pZ ic aeI=> ?_⟩)
     exact lg aeI
   · exact h.elim
 · simp only[gL] at aa
   rw[aa] at h
   exact h.elim
theorem Kn (an:ec e a) (ar:Km o.op=false) (h:BI P o K e w):tm P o a w K:=by
 unfold BI at h
 by_cases aa:known e o.op.operands=true
 · rw[aa] at h
   simp only[cond_true] at h
   have ak:=o3 an ar aa
   unfold tm
   rw[ak]
   split at h
   · rename_i v J aJ
     exact .inl ⟨v,J,aJ,h⟩
   · exact h.elim
 · simp only[gL] at aa
   rw[aa] at h
   exact h.elim
theorem Ko:∀ {ls:List dr} {A:Addr} {i:Nat} {K:List Value→Prop},Kh ls A i w K→∃vs,cn w A i ls.length=some vs∧K vs
 | [],_,_,_,h=>⟨[],rfl,h⟩
 |l::ls,A,i,K,h=>by
   obtain ⟨v,ao,h⟩:=y8 h
   obtain ⟨vs,jF,h⟩:=Ko h
   exact ⟨v::vs,by simp[cn,ao,jF],h⟩
theorem RX {T:TypeId} {A:Addr} {K:Value→Prop} (h:y_ P bc T A w K):∃v,(Instr.loadAt T (.pointer (some A))).run P w= .ok v w∧K v:=by
 have aN:(Instr.loadAt T (.pointer (some A))).run P w=(loadVar T A).run P w:=by simp[Instr.loadAt,Instr.sureAddr]
 rw[aN]
 unfold y_ at h
 split at h
 · exact h.elim
 · rename_i d aV
   cases aE:kp d with
   |true=>
     rw[aE] at h
     simp only[cond_true] at h
     split at h
     · rename_i ls _
       by_cases aj:Nat.beq (P.cellsOf T) ls.length=true
       · rw[aj] at h
         simp only[cond_true] at h
         obtain ⟨vs,jF,h⟩:=Ko h
         rw[←kV aj] at jF
         exact ⟨_,Fx aV aE jF,h⟩
       · simp only[gL] at aj;rw[aj] at h;exact h.elim
     · obtain ⟨cs,ak,h⟩:=h
       exact ⟨_,Fx aV aE ak,h⟩
   |false=>
     rw[aE] at h
     simp only[cond_false] at h
     split at h
     · obtain ⟨v,ao,h⟩:=y8 h
       exact ⟨v,RF aV aE ao,h⟩
     · exact h.elim
theorem Kp {v:Value} (h:Plain v):v.cells= #[v]:=by cases v<;>first|rfl|exact h.elim
theorem add_zero' (A:Addr):A.add 0=A:=rfl
theorem aeJ {T:TypeId} {A:Addr} {x:Value} {K:World→Prop} (h:Ki P bc T A x w K):
   ∃J,(Instr.storeAt T (.pointer (some A)) x).run P w= .ok () J∧K J:=by
 have aN:(Instr.storeAt T (.pointer (some A)) x).run P w=(storeVar T A x).run P w:=by simp[Instr.storeAt,Instr.sureAddr]
 rw[aN]
 unfold Ki at h
 split at h
 · exact h.elim
 · rename_i d aV
   cases aE:kp d with
   |true=>
     rw[aE] at h
     simp only[cond_true] at h
     split at h
     · rename_i cs
       exact ⟨_,RG (v:= .agg cs) aV h.2.1 h.1,h.2.2⟩
     · exact h.elim
   |false=>
     rw[aE] at h
     simp only[cond_false] at h
     have one:∀ (aU:Plain x) (aj:Nat.beq (P.cellsOf T) 1=true),((∃u,w.cell? A=some u)∧w.frozen? A=false∧K (w.setCell A x))→∃J,(storeVar T A x).run P w= .ok () J∧K J:=by
       intro aU aj ⟨⟨u,hu⟩,aL,aT⟩
       refine ⟨_,RG (v:=x) aV ?_ ?_,?_⟩
       · rw[Kp aU,kV aj];rfl
       · rw[Kp aU]
         refine ⟨fun i hi=> ?_,fun v ao=> ?_⟩
         · have:i=0:=by simpa using hi
           subst this
           rw[add_zero',hu]
           exact ⟨rfl,aL⟩
         · have:v=x:=by simpa using ao
           subst this;exact aU
       · rw[Kp aU]
         exact aT
     by_cases aj:Nat.beq (P.cellsOf T) 1=true
     · have jA:=aj
       rw[aj] at h
       simp only[cond_true] at h
       split at h
       · exact one h.1 jA h.2
       · split at h
         · exact h.elim
         · exact h.elim
         · rename_i U ag
           refine one ?_ jA h
           cases x<;>first|exact trivial|(exact absurd rfl (U _))|(exact absurd rfl (ag _))
     · simp only[gL] at aj;rw[aj] at h;exact h.elim
theorem Kq (an:ec e a) (h:n2 P bc o K e w):tm P o a w K:=by
 unfold n2 at h
 split at h
 case h_1 x bo=>
   split at h
   · rename_i p ai
     obtain ⟨A,rfl,aT⟩:=h
     exact .inl ⟨_,_,by simp[execOp,bo,an.a8 ai],aT⟩
   · exact h.elim
 case h_2 T x bo=>
   split at h
   · rename_i A ai
     obtain ⟨v,ao,aT⟩:=RX h
     exact .inl ⟨v,w,by simp[execOp,bo,an.a8 ai,ao],aT⟩
   · exact h.elim
 case h_3 T x y bo=>
   split at h
   · rename_i A v ai bA
     obtain ⟨J,hw,aT⟩:=aeJ h
     exact .inr (.inl ⟨J,by simp[execOp,bo,an.a8 ai,an.a8 bA,hw],aT⟩)
   · exact h.elim
 case h_4 op T x y RY bo=>
   split at h
   · rename_i dj o2 ai bA
     by_cases aS:RU P T y=true
     · rw[aS] at h
       simp only[cond_true] at h
       obtain ⟨b,aj,aT⟩:=h
       exact .inl ⟨_,w,by
         simp only[execOp,bo,an.a8 ai,an.a8 bA]
         have mR:=aj w
         simp only[Sem.run_bind] at mR⊢
         rw[mR];rfl,aT⟩
     simp only[gL] at aS
     rw[aS] at h
     simp only[cond_false] at h
     by_cases aD:ze y o2=true
     · rw[aD] at h
       simp only[cond_true] at h
       have Kr:o2= .nilIface→∃c,y= .const c:=by
         intro ao
         subst ao
         cases y<;>simp[ze] at aD⊢
       rcases RL (BG:=x) (zc:=y) Kr h with aW|⟨v,ao,aT⟩
       · exact xe an (by rw[bo];rfl) aW
       · exact .inl ⟨v,w,by
           simp only[execOp,bo,an.a8 ai,an.a8 bA]
           have mR:=ao w
           simp only[Sem.run_bind] at mR⊢
           rw[mR];rfl,aT⟩
     · simp only[gL] at aD;rw[aD] at h;exact h.elim
   · exact h.elim
 case h_5 T x i bo=>
   split at h
   · rename_i dj jR ai hi
     obtain ⟨v,ao,aT⟩:=RN h
     exact .inl ⟨v,w,by simp[execOp,bo,an.a8 ai,an.a8 hi,ao],aT⟩
   · exact h.elim
 case h_6 T x i bo=>
   split at h
   · rename_i dj jR ai hi
     obtain ⟨v,ao,aT⟩:=RP h
     exact .inl ⟨v,w,by simp[execOp,bo,an.a8 ai,an.a8 hi,ao],aT⟩
   · exact h.elim
 case h_7 T x i bo=>
   split at h
   · rename_i dj ai
     obtain ⟨v,ao,aT⟩:=RQ h
     exact .inl ⟨v,w,by simp[execOp,bo,an.a8 ai,ao],aT⟩
   · exact h.elim
 case h_8 T bo=>exact Kn an (by rw[bo];rfl) h
 case h_9 T x bo=>exact Kn an (by rw[bo];rfl) h
 case h_10 T n ct bo=>
   cases ae:RT (RS P bc T) with
   |true=>
     rw[ae] at h
     simp only[cond_true] at h
     by_cases aa:known e o.op.operands=true
     · rw[aa] at h
       simp only[cond_true] at h
       have ak:=o3 an (by rw[bo];rfl) aa
       obtain ⟨r,af,aJ,aT⟩:=lg h
       exact .inl ⟨r,af,by rw[ak];simp[execOp,bo];rw[aJ];rfl,aT⟩
     · simp only[gL] at aa;rw[aa] at h;exact h.elim
   |false=>
     rw[ae] at h
     exact Kn an (by rw[bo];rfl) h
 case h_11 T x lo hi o0 bo=>
   by_cases aa:known e o.op.operands=true
   · rw[aa] at h
     simp only[cond_true] at h
     have ak:=o3 an (by rw[bo];rfl) aa
     obtain ⟨v,ao,aT⟩:=RR h
     exact .inl ⟨v,w,by rw[ak];simp[execOp,bo,ao],aT⟩
   · simp only[gL] at aa;rw[aa] at h;exact h.elim
 case h_12 T l c bo=>
   split at h
   · rename_i RV RW aC ak
     obtain ⟨v,J,ao,aT⟩:=aeD h
     exact .inl ⟨v,J,by simp[execOp,bo,an.a8 aC,an.a8 ak,ao],aT⟩
   · exact h.elim
 case h_13 s d x bo=>
   split at h
   · rename_i k n ai
     by_cases ar:(P.underlying s).isSome=true
     · rw[ar] at h
       simp only[cond_true] at h
       obtain ⟨bG,n0⟩:=pO _ ar
       split at h
       · rename_i en aE
         exact .inl ⟨_,_,by simp[execOp,bo,an.a8 ai,convert,db n0,db aE,Conv.intToInt],h⟩
       · obtain ⟨r,af,aJ,aT⟩:=lg h
         exact .inl ⟨r,af,by simp[execOp,bo,an.a8 ai,aJ],aT⟩
     · simp only[gL] at ar;rw[ar] at h;exact h.elim
   · rename_i v _ ai
     obtain ⟨r,af,aJ,aT⟩:=lg h
     exact .inl ⟨r,af,by simp[execOp,bo,an.a8 ai,aJ],aT⟩
   · exact h.elim
 case h_14 t ct bo=>
   split at h
   · exact xe an (by rw[bo];rfl) h
   · by_cases aa:known e o.op.operands=true
     · rw[aa] at h
       simp only[cond_true] at h
       have ak:=o3 an (by rw[bo];rfl) aa
       obtain ⟨cs,aJ,aT⟩:=h
       exact .inl ⟨_,_,by rw[ak];simp[execOp,bo];rw[aJ];rfl,aT⟩
     · simp only[gL] at aa;rw[aa] at h;exact h.elim
 case h_15 T m i ok bo=>
   split at h
   · rename_i p_ jR hm hi
     obtain ⟨r,af,aJ,aT⟩:=lg h
     exact .inl ⟨r,af,by simp[execOp,bo,an.a8 hm,an.a8 hi,aJ],aT⟩
   · exact h.elim
 case h_16 T m i x bo=>
   split at h
   · rename_i p_ jR dj hm hi ai
     obtain ⟨af,aJ,aT⟩:=h
     exact .inr (.inl ⟨af,by simp[execOp,bo,an.a8 hm,an.a8 hi,an.a8 ai,aJ],aT⟩)
   · exact h.elim
 case h_17 T r bo=>
   by_cases aa:known e o.op.operands=true
   · rw[aa] at h
     simp only[cond_true] at h
     have ak:=o3 an (by rw[bo];rfl) aa
     obtain ⟨v,af,aJ,aT⟩:=lg h
     exact .inl ⟨v,af,by rw[ak];simp[execOp,bo,aJ],aT⟩
   · simp only[gL] at aa;rw[aa] at h;exact h.elim
 case h_18 T x bo=>
   split at h
   · rename_i dj ai
     obtain ⟨v,af,aJ,aT⟩:=h
     exact .inl ⟨v,af,by simp[execOp,bo,an.a8 ai,aJ],aT⟩
   · exact h.elim
 case h_19 it zf bo=>
   split at h
   · rename_i dj ai
     rcases h with h|⟨af,aJ,aT⟩
     · cases zf with
       |true=>
         obtain ⟨n,c,af,aJ,aT⟩:=h
         exact .inl ⟨_,af,by simp[execOp,bo,an.a8 ai,aJ],aT⟩
       |false=>
         obtain ⟨k,v,af,aJ,aT⟩:=h
         exact .inl ⟨_,af,by simp[execOp,bo,an.a8 ai,aJ],aT⟩
     · exact .inl ⟨_,af,by simp[execOp,bo,an.a8 ai,aJ],aT⟩
   · exact h.elim
 case h_20 c bo=>
   have bi:∀ (b:Builtin) (r:Value) (af:World),c.callee= .builtin b→known e o.op.operands=true→
       (∀cs,(Go.builtin b c.argTypes o.type cs (c.args.map (ro e))).run P w= .ok (.value r) af)→K r af→tm P o a w K:=by
     intro b r af aj aa aJ aT
     have ak:=o3 an (by rw[bo];rfl) aa
     exact .inl ⟨r,af,by rw[ak];simp[execOp,bo,resolve,aj,invoke,aJ],aT⟩
   have qa:∀ {X:Prop},(bif known e o.op.operands then X else False)→known e o.op.operands=true∧X:=by
     intro X e5
     by_cases aa:known e o.op.operands=true
     · rw[aa] at e5;exact ⟨aa,e5⟩
     · simp only[gL] at aa;rw[aa] at e5;exact e5.elim
   split at h
   · rename_i k aj
     split at h
     · rename_i f pre cap aW
       obtain ⟨aa,vT,h⟩:=qa h
       have ak:=o3 an (by rw[bo];rfl) aa
       refine .inr (.inr ⟨f,pre++c.args.map (ro e)++cap,w,?_,h.mono fun pZ af U=> ?_⟩)
       · have Ks:ro e (.tmp k)= .func (.func f) pre cap:=by simp[ro,a8,aW]
         rw[ak]
         simp[execOp,bo,resolve,aj,Ks,Deferred.ofValue,invoke,aeF vT]
       · obtain ⟨v,ao,aT⟩:=lg U
         exact ⟨v,ao,aT⟩
     · exact xe an (by rw[bo];rfl) h
   · rename_i aj
     obtain ⟨aa,h⟩:=qa h
     obtain ⟨r,af,aJ,aT⟩:=lg h
     exact bi _ r af aj aa (fun _=>by simp[Go.builtin,aJ]) aT
   · rename_i aj
     obtain ⟨aa,h⟩:=qa h
     obtain ⟨r,af,aJ,aT⟩:=lg h
     exact bi _ r af aj aa (fun _=>by simp[Go.builtin,aJ]) aT
   · rename_i aj
     obtain ⟨aa,h⟩:=qa h
     obtain ⟨r,af,aJ,aT⟩:=lg h
     exact bi _ r af aj aa (fun _=>by simp[Go.builtin,aJ]) aT
   · rename_i aj
     obtain ⟨aa,h⟩:=qa h
     obtain ⟨r,af,aJ,aT⟩:=lg h
     exact bi _ r af aj aa (fun _=>by simp[Go.builtin,aJ]) aT
   · rename_i aj
     obtain ⟨aa,r,af,aJ,aT⟩:=qa h
     exact bi _ r af aj aa (fun _=>by simp[Go.builtin,aJ]) aT
   · rename_i f aj
     split at h
     · rename_i fn aky
       split at h
       · exact xe an (by rw[bo];rfl) h
       · obtain ⟨aa,h⟩:=qa h
         obtain ⟨r,af,aJ,aT⟩:=lg h
         have ak:=o3 an (by rw[bo];rfl) aa
         refine .inl ⟨r,af,?_,aT⟩
         rw[ak]
         have Ks:ro e (.func f)= .func (.func f) #[] #[]:=by simp[ro,a8]
         simp[execOp,bo,resolve,aj,Ks,Deferred.ofValue,invoke,aJ]
     · exact h.elim
   · rename_i aj
     obtain ⟨aa,h⟩:=qa h
     obtain ⟨r,af,aJ,aT⟩:=lg h
     exact bi _ r af aj aa (fun _=>by simp[Go.builtin,aJ]) aT
   · rename_i aj
     obtain ⟨aa,h⟩:=qa h
     obtain ⟨r,af,aJ,aT⟩:=lg h
     exact bi _ r af aj aa (fun _=>by simp[Go.builtin,aJ]) aT
   · rename_i aj
     obtain ⟨aa,r,af,aJ,aT⟩:=qa h
     exact bi _ r af aj aa (fun _=>by simp[Go.builtin,aJ]) aT
   · rename_i aj
     split at h
     · obtain ⟨aa,h⟩:=qa h
       obtain ⟨r,af,aJ,aT⟩:=lg h
       exact bi _ r af aj aa (fun _=>by simp[Go.builtin,aJ]) aT
     · exact xe an (by rw[bo];rfl) h
   · exact xe an (by rw[bo];rfl) h
 case h_21 T x bo=>
   split at h
   · rename_i dj ai
     obtain ⟨v,ao,aT⟩:=RM h
     exact .inl ⟨v,w,by simp[execOp,bo,an.a8 ai,ao],aT⟩
   · exact h.elim
 case h_22 T m i bo=>
   split at h
   · rename_i p_ jR hm hi
     obtain ⟨v0,st,af,aJ,aT⟩:=h
     exact .inl ⟨_,af,by simp[execOp,bo,an.a8 hm,an.a8 hi,aJ],aT⟩
   · exact h.elim
 case h_23 T m s x bo=>
   split at h
   · rename_i p_ vs dj hm ar ai
     obtain ⟨af,aJ,aT⟩:=h
     exact .inr (.inl ⟨af,by simp[execOp,bo,an.a8 hm,an.a8 ar,an.a8 ai,aJ],aT⟩)
   · exact h.elim
 case h_24 it bo=>
   split at h
   · rename_i dj ai
     obtain ⟨v,af,aJ,aT⟩:=lg h
     exact .inl ⟨v,af,by simp[execOp,bo,an.a8 ai,aJ],aT⟩
   · exact h.elim
 case h_25=>exact h.elim
 case h_26=>
   refine xe an ?_ h
   cases bo:o.op<;>first|rfl|simp_all
end
end bD
namespace bD
open Go
inductive tn where
 |run
 |split (n:Nat)
 |pure (n:Nat)
 |FH (h3:List rX)
def m8 (P:Program) (o:Oper) (e:Env):Option Value:=
 match o.op with
 | .move x=>a8 e x
 | .assign x=>a8 e x
 | .unOp .not _ x=>match a8 e x with
   |some (.bool b)=>some (.bool (!b))
   |_=>none
 | .binOp op T x y _=>match a8 e y with
   |some (.int en b)=>match a8 e x with
     |some (.int k a)=>bif n1 k en then
         match op with
         | .add=>some (.int k (k.wrap (a+b)))
         | .sub=>some (.int k (k.wrap (a-b)))
         | .mul=>some (.int k (k.wrap (a*b)))
         | .quo=>match b with
           | .ofNat (.succ m)=>some (.int k (k.wrap (a.tdiv (.ofNat (.succ m)))))
           |_=>none
         | .rem=>match b with
           | .ofNat (.succ m)=>some (.int k (a.tmod (.ofNat (.succ m))))
           |_=>none
         | .and=>some (.int k (k.wrap (BitVec.ofInt k.bits a&&&BitVec.ofInt k.bits b).toNat))
         | .or=>some (.int k (k.wrap (BitVec.ofInt k.bits a|||BitVec.ofInt k.bits b).toNat))
         | .eql=>some (.bool (a==b))
         | .neq=>some (.bool (a !=b))
         | .lss=>some (.bool (a<b))
         | .leq=>some (.bool (a≤b))
         | .gtr=>some (.bool (a>b))
         | .geq=>some (.bool (a≥b))
         |_=>none
       else none
     |_=>none
   |some (.bool b)=>match a8 e x with
     |some (.bool a)=>match P.underlying T with
       |some .bool=>match op with
         | .eql=>some (.bool (a==b))
         | .neq=>some (.bool (!(a==b)))
         |_=>none
       |_=>none
     |_=>none
   |some (.string b)=>match a8 e x with
     |some (.string a)=>match op with
       | .eql=>some (.bool (a.toList==b.toList))
       | .neq=>some (.bool (!(a.toList==b.toList)))
       |_=>none
     |_=>none
   |some (.pointer none)=>match a8 e x with
     |some (.pointer p)=>bif tl (P.underlying T) then match op with
         | .eql=>some (.bool p.isNone)
         | .neq=>some (.bool (!p.isNone))
         |_=>none
       else none
     |_=>none
   |some (.slice none _ _)=>match a8 e x with
     |some (.slice p _ _)=>bif va (P.underlying T) then match op with
         | .eql=>some (.bool p.isNone)
         | .neq=>some (.bool (!p.isNone))
         |_=>none
       else none
     |_=>none
   |_=>none
 | .convert s d x=>match a8 e x with
   |some (.int _ n)=>match P.underlying d with
     |some (.int k)=>bif (P.underlying s).isSome then some (.int k (k.wrap n)) else none
     |_=>none
   |_=>none
 | .call {callee:= .builtin .len,args:=args,argTypes:=jJ}=>match args[0]?,jJ[0]? with
   |some x,some T=>match a8 e x,P.underlying T with
     |some (.slice _ n _),some (.slice _)=>some (.int .i64 n)
     |some (.string s),some .string=>some (.int .i64 s.size)
     |_,_=>none
   |_,_=>none
 | .call {callee:= .builtin .cap,args:=args,argTypes:=jJ}=>match args[0]?,jJ[0]? with
   |some x,some T=>match a8 e x,P.underlying T with
     |some (.slice _ _ c),some (.slice _)=>some (.int .i64 c)
     |_,_=>none
   |_,_=>none
 |_=>none
def BJ (ops:Array Oper) (e:Env) (j:Nat):Option Value:=((ops[j]?).bind (·.dst)).bind e.get
def aeK (ops:Array Oper) (j:Nat):Option Nat:=(ops[j]?).bind (·.dst)
def akz (o:Oper) (e:Env) (K:Bool→Prop):Prop:=
 match o.guard with
 |none=>match o.op with
   | .pick x y z=>match a8 e x with
     |some (.bool b)=>match a8 e (bif b then y else z) with
       |some (.bool r)=>K r
       |_=>False
     |_=>False
   |_=>False
 |some _=>False
def jq (ops:Array Oper) (o:Oper) (e:Env) (run skip:Prop):Prop:=
 match o.guard with
 |none=>run
 |some (j,want)=>match BJ ops e j with
   |none=>False
   |some (.bool b)=>bif Bool.xor b want then skip else run
   |some _=>skip
def rY {α:Type} (ops:Array Oper) (o:Oper) (e:Env) (run skip:Option α):Option α:=
 match o.guard with
 |none=>run
 |some (j,want)=>match BJ ops e j with
   |none=>none
   |some (.bool b)=>bif Bool.xor b want then skip else run
   |some _=>skip
def qb (o:Oper) (e:Env):Option Bool:=
 match o.op with
 | .pick x y z=>match a8 e x with
   |some (.bool b)=>match a8 e (bif b then y else z) with
     |some (.bool r)=>some r
     |_=>none
   |_=>none
 |_=>none
def BK (ops:Array Oper) (o:Oper) (e:Env):Option (Nat×Bool):=
 match o.guard with
 |none=>none
 |some (j,_)=>match aeK ops j with
   |none=>none
   |some s=>match e.get s with
     |some (.bool c)=>some (s,c)
     |_=>none
def tp (ops:Array Oper) (o:Oper) (e:Env):Bool:=
 match o.guard with
 |none=>true
 |some (j,want)=>match BJ ops e j with
   |some (.bool b)=> !(Bool.xor b want)
   |_=>false
def vb (e:Env) (bG:List Nat):Bool:=e.all fun p=> !(bG.any fun d=>Nat.beq d p.1)
def bO (l:List Oper):List Nat:=l.filterMap (·.dst)
def lY (P:Program) (ops:Array Oper):Nat→List Oper→List tn→Env→Option Env
 |0,_,_,_=>none
 |_+1,[],_,e=>some e
 |n+1,o::rest, .pure m::as,e=>
   match BK ops o e,rest.drop (m-1) with
   |none,_=>
     match rY ops o e none (some undef) with
     |some v=>lY P ops n rest as (dA o.dst v e)
     |none=>none
   |some (s,c),cI::eE=>
     match lY P ops n (o::rest.take (m-1)) (.run::as.take (m-1)) ((s, .bool true)::e),lY P ops n (o::rest.take (m-1)) (.run::as.take (m-1)) ((s, .bool false)::e) with
     |some aN,some a6=>
       match qb cI aN,qb cI a6 with
       |some az,some b1=>bif tp ops cI e&&vb e (bO (o::rest.take (m-1))) then lY P ops n eE (as.drop m) (dA cI.dst (.bool (cond c az b1)) e) else none
       |_,_=>none
     |_,_=>none
   |_,_=>none
 |n+1,o::rest,_::as,e=>
   match rY ops o e (m8 P o e) (some undef) with
   |some v=>lY P ops n rest as (dA o.dst v e)
   |none=>none
 |n+1,o::rest,[],e=>
   match rY ops o e (m8 P o e) (some undef) with
   |some v=>lY P ops n rest [] (dA o.dst v e)
   |none=>none
inductive br {α:Type} (B:α→Prop) (k:α):Prop where
 |mk (h:B k)
theorem br.out {α:Type} {B:α→Prop} {k:α} (h:br B k):B k:=by cases h with|mk h=>exact h
def FI (P:Program) (h3:List rX) (o:Oper) (K:Value→World→Prop) (e:Env) (w:World):Prop:=
 match o.op with
 | .entry it=>match a8 e it with
   |some dj=>Fw h3 fun vs=>∃af,(Instr.entry dj).run P w= .ok (.tuple vs.toArray) af∧K (.tuple vs.toArray) af
   |_=>False
 |_=>False
theorem aeL {P:Program} {h3:List rX} {o:Oper} {K:Value→World→Prop} {e:Env} {w:World} {a:Act} (an:ec e a) (h:FI P h3 o K e w):tm P o a w K:=by
 unfold FI at h
 split at h
 · rename_i it bo
   split at h
   · rename_i dj ai
     obtain ⟨v,af,aJ,aT⟩:=Kg h
     exact .inl ⟨_,af,by simp[execOp,bo,an.a8 ai,aJ],aT⟩
   · exact h.elim
 · exact h.elim
def hA (P:Program) (bc:TypeId→gB) (ops:Array Oper):Nat→List Oper→List tn→(Env→World→Prop)→Env→World→Prop
 |0,_,_,_,_,_=>False
 |_+1,[],_,K,e,w=>K e w
 |n+1,o::rest, .FH h3::as,K,e,w=>
   jq ops o e (FI P h3 o (fun v J=>hA P bc ops n rest as K (dA o.dst v e) J) e w) (hA P bc ops n rest as K (dA o.dst undef e) w)
 |n+1,o::rest, .pure m::as,K,e,w=>
   match BK ops o e,rest.drop (m-1) with
   |none,_=>jq ops o e False (hA P bc ops n rest as K (dA o.dst undef e) w)
   |some (s,c),cI::eE=>
     match lY P ops n (o::rest.take (m-1)) (.run::as.take (m-1)) ((s, .bool true)::e),lY P ops n (o::rest.take (m-1)) (.run::as.take (m-1)) ((s, .bool false)::e) with
     |some aN,some a6=>
       match qb cI aN,qb cI a6 with
       |some az,some b1=>bif tp ops cI e&&vb e (bO (o::rest.take (m-1))) then hA P bc ops n eE (as.drop m) K (dA cI.dst (.bool (cond c az b1)) e) w else False
       |_,_=>False
     |_,_=>False
   |_,_=>False
 |n+1,o::rest, .split m::as,K,e,w=>
   match BK ops o e,rest.drop (m-1) with
   |none,_=>jq ops o e False (hA P bc ops n rest as K (dA o.dst undef e) w)
   |some (s,c),cI::eE=>
     bif tp ops cI e&&vb e (bO (o::rest.take (m-1))) then
       br (fun k:Bool→World→Prop=>
           (c=true→hA P bc ops n (o::rest.take (m-1)) (.run::as.take (m-1)) (fun dh J=>match qb cI dh with|some r=>k r J|none=>False) ((s, .bool true)::e) w)∧
           (c=false→hA P bc ops n (o::rest.take (m-1)) (.run::as.take (m-1)) (fun dh J=>match qb cI dh with|some r=>k r J|none=>False) ((s, .bool false)::e) w))
         (fun r J=>hA P bc ops n eE (as.drop m) K (dA cI.dst (.bool r) e) J)
     else False
   |_,_=>False
 |n+1,o::rest,_::as,K,e,w=>
   jq ops o e (n2 P bc o (fun v J=>hA P bc ops n rest as K (dA o.dst v e) J) e w) (hA P bc ops n rest as K (dA o.dst undef e) w)
 |n+1,o::rest,[],K,e,w=>
   jq ops o e (n2 P bc o (fun v J=>hA P bc ops n rest [] K (dA o.dst v e) J) e w) (hA P bc ops n rest [] K (dA o.dst undef e) w)
structure ez (bG:List Nat) (a a':Act):Prop where
 defers:a'.defers=a.defers
 size:a'.tmps.size=a.tmps.size
 same:∀s,s∉bG→a'.tmps[s]? =a.tmps[s]?
theorem ez.refl (bG:List Nat) (a:Act):ez bG a a:=⟨rfl,rfl,fun _ _=>rfl⟩
theorem ez.trans {bG:List Nat} {a b c:Act} (h:ez bG a b) (k:ez bG b c):ez bG a c:=
 ⟨k.defers.trans h.defers,k.size.trans h.size,fun s ar=>(k.same s ar).trans (h.same s ar)⟩
theorem ez.mono {bG es:List Nat} {a b:Act} (h:ez bG a b) (ar:∀s,s∈bG→s∈es):ez es a b:=
 ⟨h.defers,h.size,fun s aD=>h.same s fun hm=>aD (ar s hm)⟩
theorem ez.put {a:Act} {d:Option Nat} {v:Value} {bG:List Nat} (aE:∀k,d=some k→k∈bG):ez bG a (a.put d v):=by
 cases d with
 |none=>exact .refl _ _
 |some d=>exact ⟨rfl,by simp[Act.put],fun s ar=>by
     have:d≠s:=fun h=>ar (h▸aE d rfl)
     simp[Act.put,Array.getElem?_setIfInBounds_ne this]⟩
def iL (a:Act) (bG:List Nat) (K:Env→World→Prop) (x:Exit) (a':Act) (J:World):Prop:=
 x= .normal∧ez bG a a'∧∃dh,ec dh a'∧K dh J
theorem lZ {P:Program} {ops:Array Oper} {Q Q':Exit→Act→World→Prop} (ae:∀x a w,Q x a w→Q' x a w):
   ∀ (l:List Oper) (a:Act) (w:World),wpList P ops Q l a w→wpList P ops Q' l a w
 | [],_,_,h=>ae _ _ _ h
 |o::l,a,w,h=>by
   simp only[wpList] at h⊢
   split
   · rename_i hw
     rw[if_pos hw] at h
     refine h.imp (fun h=> ?_) (fun ⟨U,a',J,ag⟩=>⟨U,a',J,ae _ _ _ ag⟩)
     have:=Oper.wp_mono (Q:=Q) (fun a w=>lZ ae l a w) h
     unfold Oper.wp at this⊢
     revert this
     generalize (execOp a.eval o).run P w=r
     intro this
     cases r with
     |ok bj J=>
       cases bj<;>simp only[Oper.upon] at this⊢<;>first
         |exact this
         |(exact Calls.mono this fun e ic he=>by
             cases e with
             |returned v=>exact he
             |panicked c=>exact ae _ _ _ he
             |outgrown=>exact let ⟨a',J,ag⟩:=he;⟨a',J,ae _ _ _ ag⟩)
     |halt x J=>cases x<;>simp only[Oper.upon] at this⊢<;>first|exact ae _ _ _ this|exact this
   · rename_i hw
     rw[if_neg hw] at h
     exact lZ ae l _ _ h
theorem BL {P:Program} {ops:Array Oper} {Q:Exit→Act→World→Prop} (ua:List Oper):
   ∀ (yd:List Oper) (a:Act) (w:World),wpList P ops (fun x a w=>x= .normal∧wpList P ops Q ua a w) yd a w→wpList P ops Q (yd++ua) a w
 | [],_,_,h=>h.2
 |o::l,a,w,h=>by
   simp only[z8,wpList] at h⊢
   split
   · rename_i hw
     rw[if_pos hw] at h
     rcases h with h|⟨_,a',J,ag,_⟩
     · left
       have:=Oper.wp_mono (fun a w=>BL ua l a w) h
       unfold Oper.wp at this⊢
       revert this
       generalize (execOp a.eval o).run P w=r
       intro this
       cases r with
       |ok bj J=>
         cases bj<;>simp only[Oper.upon] at this⊢<;>first
           |exact this
           |(exact Calls.mono this fun e ic he=>by
               cases e with
               |returned v=>exact he
               |panicked c=>cases he.1
               |outgrown=>exact let ⟨a',J,ag⟩:=he;by cases ag.1)
       |halt x J=>cases x<;>simp only[Oper.upon] at this⊢<;>first|(cases this.1;done)|exact this
     · cases ag
   · rename_i hw
     rw[if_neg hw] at h
     exact BL ua l _ _ h
section
variable {P:Program} {bc:TypeId→gB} {ops:Array Oper}
def aeM:Value→Option Bool
 | .bool b=>some b
 |_=>none
theorem BM {e:Env} {a:Act} (an:ec e a) {j:Nat} {v:Value} (h:BJ ops e j=some v):
   yielded ops a.tmps j=aeM v:=by
 unfold BJ at h
 unfold yielded
 cases aE:(ops[j]?).bind (·.dst) with
 |none=>rw[aE] at h;simp at h
 |some s=>
   rw[aE] at h
   simp only[Option.bind_some] at h⊢
   rw[an.get _ _ h]
   cases v<;>rfl
theorem BN {o:Oper} {e:Env} {a:Act} (an:ec e a) {R S:Prop} (h:jq ops o e R S):
   (Region.wanted o (yielded ops a.tmps)=true∧R)∨(Region.wanted o (yielded ops a.tmps)=false∧S):=by
 unfold jq at h
 unfold Region.wanted
 split at h
 · rename_i aW;rw[aW];exact .inl ⟨rfl,h⟩
 · rename_i j want aW
   rw[aW]
   simp only
   split at h
   · exact h.elim
   · rename_i b ao
     rw[BM an ao]
     cases b<;>cases want<;>first|exact .inl ⟨rfl,h⟩|exact .inr ⟨rfl,h⟩
   · rename_i v fh ao
     rw[BM an ao]
     cases v<;>first|exact absurd rfl (fh _)|exact .inr ⟨by cases want<;>rfl,h⟩
theorem RZ {o:Oper} {e:Env} {R R0 S:Prop} (h:jq ops o e R S) (aJ:R→R0):jq ops o e R0 S:=by
 unfold jq at h⊢
 split at h
 · exact aJ h
 · rename_i j want aW
   split at h
   · exact h
   · rename_i b ao
     cases aj:Bool.xor b want<;>rw[aj] at h<;>first|exact aJ h|exact h
   · exact h
theorem aeN {α:Type} {o:Oper} {e:Env} {R S:Option α} {r:α} (h:rY ops o e none S=some r):rY ops o e R S=some r:=by
 unfold rY at h⊢
 split at h
 · cases h
 · rename_i j want aW
   split at h
   · exact h
   · rename_i b ao
     cases aj:Bool.xor b want with
     |true=>rw[aj] at h;exact h
     |false=>rw[aj] at h;cases h
   · exact h
theorem aeO {α:Type} {o:Oper} {e:Env} {a:Act} (an:ec e a) {R S:Option α} {r:α} (h:rY ops o e R S=some r):
   (Region.wanted o (yielded ops a.tmps)=true∧R=some r)∨(Region.wanted o (yielded ops a.tmps)=false∧S=some r):=by
 unfold rY at h
 unfold Region.wanted
 split at h
 · rename_i aW;rw[aW];exact .inl ⟨rfl,h⟩
 · rename_i j want aW
   rw[aW]
   simp only
   split at h
   · cases h
   · rename_i b ao
     rw[BM an ao]
     cases b<;>cases want<;>first|exact .inl ⟨rfl,h⟩|exact .inr ⟨rfl,h⟩
   · rename_i v fh ao
     rw[BM an ao]
     cases v<;>first|exact absurd rfl (fh _)|exact .inr ⟨by cases want<;>rfl,h⟩
theorem R1 {o:Oper} {e:Env} {a:Act} (an:ec e a) {v:Value} (h:m8 P o e=some v) (w:World):(execOp a.eval o).run P w= .ok (.value v) w:=by
 unfold m8 at h
 split at h
 · rename_i x bo
   simp[execOp,bo,an.a8 h]
 · rename_i x bo
   simp[execOp,bo,an.a8 h]
 · rename_i t x bo
   split at h
   · rename_i b ai
     cases h
     simp[execOp,bo,an.a8 ai,Op.unary]
   · cases h
 · rename_i op T x y RY bo
   split at h
   · rename_i en b bA
     split at h
     · rename_i k c ai
       by_cases aa:k=en
       · subst aa
         simp only[n1,decide_true,cond_true] at h
         split at h
         case h_4=>
           split at h
           · cases h
             simp[execOp,bo,an.a8 ai,an.a8 bA,eqGuard,binOp,Op.intDiv]
             intro cc;exfalso;revert cc;simp;omega
           · cases h
         case h_5=>
           split at h
           · cases h
             simp[execOp,bo,an.a8 ai,an.a8 bA,eqGuard,binOp,Op.intDiv]
             intro cc;exfalso;revert cc;simp;omega
           · cases h
         all_goals first
           |(cases h;simp[execOp,bo,an.a8 ai,an.a8 bA,eqGuard,binOp,Op.intArith,Op.intBits,Op.intCmp];done)
           |cases h
       · simp[n1,aa] at h
     · cases h
   · rename_i b bA
     split at h
     · rename_i c ai
       split at h
       · rename_i aV
         have aN:∀ (d:Nat) (w:World),(Op.equalIn (d+1) T (.bool c) (.bool b)).run P w= .ok (c==b) w:=by
           intro d w
           simp[Op.equalIn,db aV]
         have a6:∀w:World,(Op.equal T (.bool c) (.bool b)).run P w= .ok (c==b) w:=fun w=>by rw[zb];exact aN _ w
         split at h
         · cases h
           simp[execOp,bo,an.a8 ai,an.a8 bA,eqGuard,binOp,a6]
         · cases h
           simp[execOp,bo,an.a8 ai,an.a8 bA,eqGuard,binOp,a6]
         · cases h
       · cases h
     · cases h
   · rename_i b bA
     split at h
     · rename_i c ai
       split at h
       · cases h
         have aN:(binOp .eql T (.string c) (.string b)).run P w= .ok (.bool (c.toList==b.toList)) w:=rfl
         simp only[execOp,bo,an.a8 ai,an.a8 bA]
         simp[eqGuard,aN]
       · cases h
         have aN:(binOp .neq T (.string c) (.string b)).run P w= .ok (.bool (!(c.toList==b.toList))) w:=rfl
         simp only[execOp,bo,an.a8 ai,an.a8 bA]
         simp[eqGuard,aN]
       · cases h
     · cases h
   · rename_i bA
     split at h
     · rename_i p ai
       by_cases aV:tl (P.underlying T)=true
       · rw[aV] at h
         simp only[cond_true] at h
         split at h
         · cases h;simp[execOp,bo,an.a8 ai,an.a8 bA,eqGuard,binOp,Fz (P:=P) aV]
         · cases h;simp[execOp,bo,an.a8 ai,an.a8 bA,eqGuard,binOp,Fz (P:=P) aV]
         · cases h
       · simp only[gL] at aV;rw[aV] at h;cases h
     · cases h
   · rename_i l c bA
     split at h
     · rename_i p _ _ ai
       by_cases aV:va (P.underlying T)=true
       · rw[aV] at h
         simp only[cond_true] at h
         split at h
         · cases h;simp[execOp,bo,an.a8 ai,an.a8 bA,eqGuard,binOp,FA (P:=P) aV]
         · cases h;simp[execOp,bo,an.a8 ai,an.a8 bA,eqGuard,binOp,FA (P:=P) aV]
         · cases h
       · simp only[gL] at aV;rw[aV] at h;cases h
     · cases h
   · cases h
 · rename_i s d x bo
   split at h
   · rename_i k n ai
     split at h
     · rename_i en aE
       by_cases ar:(P.underlying s).isSome=true
       · rw[ar] at h
         cases h
         obtain ⟨bG,n0⟩:=pO _ ar
         simp[execOp,bo,an.a8 ai,convert,db n0,db aE,Conv.intToInt]
       · simp only[gL] at ar;rw[ar] at h;cases h
     · cases h
   · cases h
 · rename_i args jJ bo
   split at h
   · rename_i x T m3 FJ
     split at h
     · rename_i p n c el ai aV
       cases h
       simp[execOp,bo,resolve,invoke,Go.builtin,Builtin.len_,FJ,m3,db aV,an.a8 ai,goInt]
     · rename_i s ai aV
       cases h
       simp[execOp,bo,resolve,invoke,Go.builtin,Builtin.len_,FJ,m3,db aV,an.a8 ai,goInt]
     · cases h
   · cases h
 · rename_i args jJ bo
   split at h
   · rename_i x T m3 FJ
     split at h
     · rename_i p n c el ai aV
       cases h
       simp[execOp,bo,resolve,invoke,Go.builtin,Builtin.cap_,FJ,m3,db aV,an.a8 ai,goInt]
     · cases h
   · cases h
 · cases h
theorem Kt {e:Env} {bG:List Nat} {a a':Act} (an:ec e a) (aE:vb e bG=true) (aa:ez bG a a'):ec e a':=by
 constructor
 intro s v ar
 have hm:∃u,(s,u)∈e:=by
   clear aE an
   induction e with
   |nil=>cases ar
   |cons p e cb=>
     obtain ⟨k,u⟩:=p
     rw[xb] at ar
     by_cases jm:k=s
     · subst jm;exact ⟨u,by simp⟩
     · rw[if_neg jm] at ar
       obtain ⟨u,hu⟩:=cb ar
       exact ⟨u,by simp[hu]⟩
 obtain ⟨u,hu⟩:=hm
 have U:=sa.1 aE _ hu
 simp only[lq,xP] at U
 rw[aa.same s fun gG=>U s gG (Nat.beq_refl s)]
 exact an.get s v ar
theorem Ku {cI:Oper} {e:Env} {a:Act} (an:ec e a) {r:Bool} (h:qb cI e=some r) (w:World):
   (execOp a.eval cI).run P w= .ok (.value (.bool r)) w:=by
 unfold qb at h
 split at h
 · rename_i x y z bo
   split at h
   · rename_i b aj
     split at h
     · rename_i Ir aJ
       cases h
       simp only[execOp,bo,an.a8 aj]
       cases b
       · simp only[cond_false] at aJ
         simp[asBool,an.a8 aJ]
       · simp only[cond_true] at aJ
         simp[asBool,an.a8 aJ]
     · cases h
   · cases h
 · cases h
theorem Kv {cI:Oper} {e:Env} {a:Act} (an:ec e a) (h:tp ops cI e=true):Region.wanted cI (yielded ops a.tmps)=true:=by
 unfold tp at h
 unfold Region.wanted
 split at h
 · rename_i aW;rw[aW]
 · rename_i j want aW
   rw[aW]
   simp only
   split at h
   · rename_i b ao
     rw[BM an ao]
     cases b<;>cases want<;>first|rfl|cases h
   · cases h
theorem Kw {o:Oper} {e:Env} {s:Nat} {c:Bool} (h:BK ops o e=some (s,c)):e.get s=some (.bool c):=by
 unfold BK at h
 split at h
 · cases h
 · split at h
   · cases h
   · split at h
     · rename_i ar;cases h;exact ar
     · cases h
theorem ec.lit {e:Env} {a:Act} (an:ec e a) {s:Nat} {v:Value} (h:e.get s=some v):ec ((s,v)::e) a:=by
 constructor
 intro t u bt
 rw[xb] at bt
 by_cases e1:s=t
 · subst e1
   rw[if_pos rfl] at bt
   cases bt
   exact an.get _ _ h
 · rw[if_neg e1] at bt
   exact an.get _ _ bt
theorem Kx {α:Type} (o:α) (rest:List α) (m:Nat) {cI:α} {eE:List α} (h:rest.drop m=cI::eE):
   o::rest=(o::rest.take m)++(cI::eE):=by
 rw[←h];simp
theorem aeP {b c:Bool} {α:Type} {x y z:α} (h:(bif b&&c then x else y)=z) (bA:y≠z):b=true∧c=true∧x=z:=by
 cases b<;>cases c<;>first|exact absurd h bA|exact ⟨rfl,rfl,h⟩
theorem R2:∀ (n:Nat) (l:List Oper) (as:List tn) (e dh:Env) (a:Act) (w:World),ec e a→(∀d∈bO l,d<a.tmps.size)→
   lY P ops n l as e=some dh→wpList P ops (fun x a' J=>x= .normal∧ez (bO l) a a'∧ec dh a'∧J=w) l a w:=by
 intro n
 induction n with
 |zero=>intro l as e dh a w _ _ h;cases h
 |succ n cb=>
   intro l as e dh a w an aj h
   have one:∀ (o:Oper) (rest:List Oper) (my:List tn),(∀d∈bO (o::rest),d<a.tmps.size)→
       (match rY ops o e (m8 P o e) (some undef) with|some v=>lY P ops n rest my (dA o.dst v e)|none=>none)=some dh→
       wpList P ops (fun x a' J=>x= .normal∧ez (bO (o::rest)) a a'∧ec dh a'∧J=w) (o::rest) a w:=by
     intro o rest my aj h
     have oK:∀k,o.dst=some k→k∈bO (o::rest):=fun k aa=>by simp[bO,aa]
     have je:∀k,k∈bO rest→k∈bO (o::rest):=fun k aa=>by
       simp only[bO,z_]
       split
       · exact aa
       · exact tK _ aa
     split at h
     · rename_i v ao
       have next:∀ (a':Act),a'=a.put o.dst v→wpList P ops (fun x a' J=>x= .normal∧ez (bO (o::rest)) a a'∧ec dh a'∧J=w) rest a' w:=by
         intro a' kf
         subst kf
         have aa:ez (bO (o::rest)) a (a.put o.dst v):=ez.put oK
         have:=cb rest my (dA o.dst v e) dh (a.put o.dst v) w (an.put fun k aa=>aj k (oK k aa)) (fun d aE=>by rw[aa.size];exact aj d (je d aE)) h
         exact lZ (fun x a' J ⟨U,ag,aA,aK⟩=>⟨U,aa.trans (ag.mono je),aA,aK⟩) _ _ _ this
       rcases aeO an ao with ⟨hw,aU⟩|⟨hw,aU⟩
       · simp only[wpList,hw,if_true]
         left
         unfold Oper.wp
         rw[R1 an aU w]
         exact next _ rfl
       · simp only[wpList,hw,jt,if_false]
         cases aU
         exact next _ rfl
     · cases h
   cases l with
   |nil=>
     simp only[lY,Option.some.injEq] at h
     subst h
     exact ⟨rfl, .refl _ _,an,rfl⟩
   |cons o rest=>
     cases as with
     |nil=>exact one o rest [] aj (by simpa only[lY] using h)
     |cons Ky as=>
       cases Ky with
       |run=>exact one o rest as aj (by simpa only[lY] using h)
       |split m=>exact one o rest as aj (by simpa only[lY] using h)
       |FH h3=>exact one o rest as aj (by simpa only[lY] using h)
       |pure m=>
         simp only[lY] at h
         split at h
         · refine one o rest as aj ?_
           cases ao:rY ops o e none (some undef) with
           |none=>rw[ao] at h;cases h
           |some v=>rw[ao] at h;rw[aeN ao];exact h
         · rename_i s c cI eE aW aE
           split at h
           · rename_i aN a6 U ag
             split at h
             · rename_i az b1 qR g2
               obtain ⟨BO,BP,h⟩:=aeP h (by simp)
               rw[Kx o rest (m-1) aE] at aj⊢
               have pQ:=Kw aW
               refine BL _ _ _ _ ?_
               have fz:∀k,k∈bO (o::rest.take (m-1))→k∈bO ((o::rest.take (m-1))++(cI::eE)):=fun k aa=>by
                 simp only[bO,Aa,hD];exact .inl aa
               have m9:∀k,k∈bO (cI::eE)→k∈bO ((o::rest.take (m-1))++(cI::eE)):=fun k aa=>by
                 simp only[bO,Aa,hD];exact .inr aa
               have rT:∀k,cI.dst=some k→k∈bO (cI::eE):=fun k aa=>by simp[bO,aa]
               have je:∀k,k∈bO eE→k∈bO (cI::eE):=fun k aa=>by
                 simp only[bO,z_]
                 split
                 · exact aa
                 · exact tK _ aa
               have fin:∀ (vc:Env) (r:Bool) (bp:Act),ez (bO (o::rest.take (m-1))) a bp→ec vc bp→qb cI vc=some r→r=cond c az b1→
                   wpList P ops (fun x a' J=>x= .normal∧ez (bO ((o::rest.take (m-1))++(cI::eE))) a a'∧ec dh a'∧J=w) (cI::eE) bp w:=by
                 intro vc r bp gD gp aU aJ
                 have vd:=Kt an BP gD
                 simp only[wpList,Kv vd BO,if_true]
                 left
                 unfold Oper.wp
                 rw[Ku gp aU w]
                 simp only[Oper.upon]
                 have cA:ez (bO (cI::eE)) bp (bp.put cI.dst (.bool r)):=ez.put rT
                 have:=cb eE (as.drop m) (dA cI.dst (.bool (cond c az b1)) e) dh (bp.put cI.dst (.bool r)) w
                   (by rw[aJ];exact vd.put fun k aa=>by rw[gD.size];exact aj k (m9 k (rT k aa)))
                   (fun d aE=>by rw[cA.size,gD.size];exact aj d (m9 d (je d aE))) h
                 refine lZ (fun x a' J ⟨aZ,a7,bm,ca⟩=>⟨aZ,(gD.mono fz).trans ((cA.mono m9).trans (a7.mono fun k aa=>m9 k (je k aa))),bm,ca⟩) _ _ _ this
               cases c with
               |true=>
                 have:=cb _ _ _ aN a w (an.lit pQ) (fun d aE=>aj d (fz d aE)) U
                 exact lZ (fun x a' J ⟨aZ,a7,bm,ca⟩=>⟨aZ,by subst ca;exact fin aN az a' a7 bm qR rfl⟩) _ _ _ this
               |false=>
                 have:=cb _ _ _ a6 a w (an.lit pQ) (fun d aE=>aj d (fz d aE)) ag
                 exact lZ (fun x a' J ⟨aZ,a7,bm,ca⟩=>⟨aZ,by subst ca;exact fin a6 b1 a' a7 bm g2 rfl⟩) _ _ _ this
             · cases h
           · cases h
         · cases h
theorem R3:∀ (n:Nat) (l:List Oper) (as:List tn) (K:Env→World→Prop) (e:Env) (a:Act) (w:World),ec e a→(∀d∈bO l,d<a.tmps.size)→
   hA P bc ops n l as K e w→wpList P ops (iL a (bO l) K) l a w:=by
 intro n
 induction n with
 |zero=>intro l as K e a w _ _ h;cases h
 |succ n cb=>
   intro l as K e a w an aj h
   have one:∀ (o:Oper) (rest:List Oper) (my:List tn),(∀d∈bO (o::rest),d<a.tmps.size)→
       jq ops o e (n2 P bc o (fun v J=>hA P bc ops n rest my K (dA o.dst v e) J) e w) (hA P bc ops n rest my K (dA o.dst undef e) w)→
       wpList P ops (iL a (bO (o::rest)) K) (o::rest) a w:=by
     intro o rest my aj h
     have oK:∀k,o.dst=some k→k∈bO (o::rest):=fun k aa=>by simp[bO,aa]
     have je:∀k,k∈bO rest→k∈bO (o::rest):=fun k aa=>by
       simp only[bO,z_]
       split
       · exact aa
       · exact tK _ aa
     have next:∀ (v:Value) (J:World),hA P bc ops n rest my K (dA o.dst v e) J→wpList P ops (iL a (bO (o::rest)) K) rest (a.put o.dst v) J:=by
       intro v J h
       have aa:ez (bO (o::rest)) a (a.put o.dst v):=ez.put oK
       have:=cb rest my K (dA o.dst v e) (a.put o.dst v) J (an.put fun k aa=>aj k (oK k aa)) (fun d aE=>by rw[aa.size];exact aj d (je d aE)) h
       exact lZ (fun x a' J ⟨U,ag,aA⟩=>⟨U,aa.trans (ag.mono je),aA⟩) _ _ _ this
     rcases BN an h with ⟨hw,aU⟩|⟨hw,aU⟩
     · simp only[wpList,hw,if_true]
       exact .inl ((Kq an aU).wp next)
     · simp only[wpList,hw,jt,if_false]
       exact next _ _ aU
   have aeQ:∀ (o:Oper) (rest:List Oper) (h3:List rX) (my:List tn),(∀d∈bO (o::rest),d<a.tmps.size)→
       jq ops o e (FI P h3 o (fun v J=>hA P bc ops n rest my K (dA o.dst v e) J) e w) (hA P bc ops n rest my K (dA o.dst undef e) w)→
       wpList P ops (iL a (bO (o::rest)) K) (o::rest) a w:=by
     intro o rest h3 my aj h
     have oK:∀k,o.dst=some k→k∈bO (o::rest):=fun k aa=>by simp[bO,aa]
     have je:∀k,k∈bO rest→k∈bO (o::rest):=fun k aa=>by
       simp only[bO,z_]
       split
       · exact aa
       · exact tK _ aa
     have next:∀ (v:Value) (J:World),hA P bc ops n rest my K (dA o.dst v e) J→wpList P ops (iL a (bO (o::rest)) K) rest (a.put o.dst v) J:=by
       intro v J h
       have aa:ez (bO (o::rest)) a (a.put o.dst v):=ez.put oK
       have:=cb rest my K (dA o.dst v e) (a.put o.dst v) J (an.put fun k aa=>aj k (oK k aa)) (fun d aE=>by rw[aa.size];exact aj d (je d aE)) h
       exact lZ (fun x a' J ⟨U,ag,aA⟩=>⟨U,aa.trans (ag.mono je),aA⟩) _ _ _ this
     rcases BN an h with ⟨hw,aU⟩|⟨hw,aU⟩
     · simp only[wpList,hw,if_true]
       exact .inl ((aeL an aU).wp next)
     · simp only[wpList,hw,jt,if_false]
       exact next _ _ aU
   cases l with
   |nil=>exact ⟨rfl, .refl _ _,e,an,h⟩
   |cons o rest=>
     cases as with
     |nil=>exact one o rest [] aj (by simpa only[hA] using h)
     |cons Ky as=>
       cases Ky with
       |run=>exact one o rest as aj (by simpa only[hA] using h)
       |FH h3=>exact aeQ o rest h3 as aj (by simpa only[hA] using h)
       |split m=>
         simp only[hA] at h
         split at h
         · exact one o rest as aj (RZ h False.elim)
         · rename_i s c cI eE aW aE
           obtain ⟨BO,BP,h⟩:tp ops cI e=true∧vb e (bO (o::rest.take (m-1)))=true∧_:=by
             cases U:tp ops cI e<;>cases ag:vb e (bO (o::rest.take (m-1)))<;>rw[U,ag] at h<;>first|exact h.elim|exact ⟨rfl,rfl,h⟩
           rw[Kx o rest (m-1) aE] at aj⊢
           have pQ:=Kw aW
           refine BL _ _ _ _ ?_
           have fz:∀k,k∈bO (o::rest.take (m-1))→k∈bO ((o::rest.take (m-1))++(cI::eE)):=fun k aa=>by
             simp only[bO,Aa,hD];exact .inl aa
           have m9:∀k,k∈bO (cI::eE)→k∈bO ((o::rest.take (m-1))++(cI::eE)):=fun k aa=>by
             simp only[bO,Aa,hD];exact .inr aa
           have rT:∀k,cI.dst=some k→k∈bO (cI::eE):=fun k aa=>by simp[bO,aa]
           have je:∀k,k∈bO eE→k∈bO (cI::eE):=fun k aa=>by
             simp only[bO,z_]
             split
             · exact aa
             · exact tK _ aa
           have fin:∀ (x:Exit) (bp:Act) (af:World),iL a (bO (o::rest.take (m-1)))
               (fun dh J=>match qb cI dh with|some r=>hA P bc ops n eE (as.drop m) K (dA cI.dst (.bool r) e) J|none=>False) x bp af→
               x= .normal∧wpList P ops (iL a (bO ((o::rest.take (m-1))++(cI::eE))) K) (cI::eE) bp af:=by
             rintro x bp af ⟨ai,gD,vc,gp,h⟩
             refine ⟨ai,?_⟩
             have vd:=Kt an BP gD
             split at h
             · rename_i r aU
               simp only[wpList,Kv vd BO,if_true]
               left
               unfold Oper.wp
               rw[Ku gp aU af]
               simp only[Oper.upon]
               have cA:ez (bO (cI::eE)) bp (bp.put cI.dst (.bool r)):=ez.put rT
               have:=cb eE (as.drop m) K (dA cI.dst (.bool r) e) (bp.put cI.dst (.bool r)) af
                 (vd.put fun k aa=>by rw[gD.size];exact aj k (m9 k (rT k aa)))
                 (fun d aE=>by rw[cA.size,gD.size];exact aj d (m9 d (je d aE))) h
               refine lZ (fun x a' J ⟨aZ,a7,bm⟩=>⟨aZ,(gD.mono fz).trans ((cA.mono m9).trans (a7.mono fun k aa=>m9 k (je k aa))),bm⟩) _ _ _ this
             · exact h.elim
           have h:=h.out
           cases c with
           |true=>
             have:=cb _ _ _ _ a w (an.lit pQ) (fun d aE=>aj d (fz d aE)) (h.1 rfl)
             exact lZ fin _ _ _ this
           |false=>
             have:=cb _ _ _ _ a w (an.lit pQ) (fun d aE=>aj d (fz d aE)) (h.2 rfl)
             exact lZ fin _ _ _ this
         · exact h.elim
       |pure m=>
         simp only[hA] at h
         split at h
         · exact one o rest as aj (RZ h False.elim)
         · rename_i s c cI eE aW aE
           split at h
           · rename_i aN a6 U ag
             split at h
             · rename_i az b1 qR g2
               obtain ⟨BO,BP,h⟩:tp ops cI e=true∧vb e (bO (o::rest.take (m-1)))=true∧_:=by
                 cases aZ:tp ops cI e<;>cases a7:vb e (bO (o::rest.take (m-1)))<;>rw[aZ,a7] at h<;>first|exact h.elim|exact ⟨rfl,rfl,h⟩
               rw[Kx o rest (m-1) aE] at aj⊢
               have pQ:=Kw aW
               refine BL _ _ _ _ ?_
               have fz:∀k,k∈bO (o::rest.take (m-1))→k∈bO ((o::rest.take (m-1))++(cI::eE)):=fun k aa=>by
                 simp only[bO,Aa,hD];exact .inl aa
               have m9:∀k,k∈bO (cI::eE)→k∈bO ((o::rest.take (m-1))++(cI::eE)):=fun k aa=>by
                 simp only[bO,Aa,hD];exact .inr aa
               have rT:∀k,cI.dst=some k→k∈bO (cI::eE):=fun k aa=>by simp[bO,aa]
               have je:∀k,k∈bO eE→k∈bO (cI::eE):=fun k aa=>by
                 simp only[bO,z_]
                 split
                 · exact aa
                 · exact tK _ aa
               have fin:∀ (vc:Env) (r:Bool) (bp:Act),ez (bO (o::rest.take (m-1))) a bp→ec vc bp→qb cI vc=some r→r=cond c az b1→
                   wpList P ops (iL a (bO ((o::rest.take (m-1))++(cI::eE))) K) (cI::eE) bp w:=by
                 intro vc r bp gD gp aU aJ
                 have vd:=Kt an BP gD
                 simp only[wpList,Kv vd BO,if_true]
                 left
                 unfold Oper.wp
                 rw[Ku gp aU w]
                 simp only[Oper.upon]
                 have cA:ez (bO (cI::eE)) bp (bp.put cI.dst (.bool r)):=ez.put rT
                 have:=cb eE (as.drop m) K (dA cI.dst (.bool (cond c az b1)) e) (bp.put cI.dst (.bool r)) w
                   (by rw[aJ];exact vd.put fun k aa=>by rw[gD.size];exact aj k (m9 k (rT k aa)))
                   (fun d aE=>by rw[cA.size,gD.size];exact aj d (m9 d (je d aE))) h
                 refine lZ (fun x a' J ⟨aZ,a7,bm⟩=>⟨aZ,(gD.mono fz).trans ((cA.mono m9).trans (a7.mono fun k aa=>m9 k (je k aa))),bm⟩) _ _ _ this
               cases c with
               |true=>
                 have:=R2 n _ _ _ aN a w (an.lit pQ) (fun d aE=>aj d (fz d aE)) U
                 exact lZ (fun x a' J ⟨aZ,a7,bm,ca⟩=>⟨aZ,by subst ca;exact fin aN az a' a7 bm qR rfl⟩) _ _ _ this
               |false=>
                 have:=R2 n _ _ _ a6 a w (an.lit pQ) (fun d aE=>aj d (fz d aE)) ag
                 exact lZ (fun x a' J ⟨aZ,a7,bm,ca⟩=>⟨aZ,by subst ca;exact fin a6 b1 a' a7 bm g2 rfl⟩) _ _ _ this
             · exact h.elim
           · exact h.elim
         · exact h.elim
end
end bD
namespace bD
open Go
structure aq (W:Nat→Prop) (w J:World):Prop where
 os:J.os=w.os
 tape:J.tape=w.tape
 output:J.output=w.output
 size:w.heap.size≤J.heap.size
 block:∀k,k<w.heap.size→¬W k→J.heap[k]? =w.heap[k]?
theorem aq.refl (W:Nat→Prop) (w:World):aq W w w:=⟨rfl,rfl,rfl,b6 _,fun _ _ _=>rfl⟩
theorem aq.trans {W:Nat→Prop} {a b c:World} (h:aq W a b) (k:aq W b c):aq W a c:=
 ⟨k.os.trans h.os,k.tape.trans h.tape,k.output.trans h.output,kU h.size k.size,fun i hi hw=>(k.block i (qs hi h.size) hw).trans (h.block i hi hw)⟩
theorem aq.mono {W V:Nat→Prop} {a b:World} (h:aq W a b) (ao:∀k,k<a.heap.size→W k→V k):aq V a b:=
 ⟨h.os,h.tape,h.output,h.size,fun i hi hw=>h.block i hi fun fQ=>hw (ao i hi fQ)⟩
theorem aq.cell {W:Nat→Prop} {w J:World} (h:aq W w J) {A:Addr} (fQ:¬W A.block) {v:Value} (ao:w.cell? A=some v):J.cell? A=some v:=by
 have aj:A.block<w.heap.size:=by
   rcases gK A.block w.heap.size with U|U
   · exact U
   · simp[World.cell?,Array.getElem?_eq_none U] at ao
 unfold World.cell? at ao⊢
 rw[h.block _ aj fQ]
 exact ao
theorem aq.cn {W:Nat→Prop} {w J:World} (h:aq W w J) {A:Addr} (fQ:¬W A.block):∀ (n i:Nat) (vs:List Value),cn w A i n=some vs→cn J A i n=some vs
 |0,_,_,ao=>ao
 |n+1,i,vs,ao=>by
   simp only[bD.cn] at ao⊢
   have l7:(A.add i).block=A.block:=by unfold Addr.add;split<;>rfl
   cases U:w.cell? (A.add i) with
   |none=>simp[U] at ao
   |some v=>
     cases ag:bD.cn w A (i+1) n with
     |none=>simp[U,ag] at ao
     |some us=>
       simp only[U,ag] at ao
       rw[h.cell (by rw[l7];exact fQ) U,aq.cn h fQ n (i+1) us ag]
       exact ao
def hC {α:Type}:Sem α→Prop
 | .pure _=>True
 | .program k=>∀p,hC (k p)
 | .halt _=>True
 |_=>False
theorem hC.bind {α β:Type}:∀ {s:Sem α} {f:α→Sem β},hC s→(∀a,hC (f a))→hC (s>>=f)
 | .pure a,_,_,aL=>aL a
 | .program _,_,h,aL=>fun p=>hC.bind (h p) aL
 | .halt _,_,_,_=>trivial
 | .load ..,_,h,_=>h.elim
 | .store ..,_,h,_=>h.elim
 | .new ..,_,h,_=>h.elim
 | .shape ..,_,h,_=>h.elim
 | .freeze ..,_,h,_=>h.elim
 | .frozen ..,_,h,_=>h.elim
 | .getObj ..,_,h,_=>h.elim
 | .setObj ..,_,h,_=>h.elim
 | .choose ..,_,h,_=>h.elim
 | .sys ..,_,h,_=>h.elim
 | .mark ..,_,h,_=>h.elim
theorem hC.run {α:Type} {P:Program}:∀ {s:Sem α} {w J:World} {v:α},hC s→s.run P w= .ok v J→∀u,s.run P u= .ok v u
 | .pure a,w,J,v,_,h,u=>by
   simp only[Sem.run,Result.ok.injEq] at h⊢
   exact ⟨h.1,trivial⟩
 | .program k,w,J,v,aL,h,u=>hC.run (aL P) h u
 | .halt _,w,J,v,_,h,_=>by simp[Sem.run] at h
 | .load ..,_,_,_,h,_,_=>h.elim
 | .store ..,_,_,_,h,_,_=>h.elim
 | .new ..,_,_,_,h,_,_=>h.elim
 | .shape ..,_,_,_,h,_,_=>h.elim
 | .freeze ..,_,_,_,h,_,_=>h.elim
 | .frozen ..,_,_,_,h,_,_=>h.elim
 | .getObj ..,_,_,_,h,_,_=>h.elim
 | .setObj ..,_,_,_,h,_,_=>h.elim
 | .choose ..,_,_,_,h,_,_=>h.elim
 | .sys ..,_,_,_,h,_,_=>h.elim
 | .mark ..,_,_,_,h,_,_=>h.elim
theorem R4:hC program:=fun _=>trivial
theorem R5 (t:TypeId):hC (underlying t):=by
 unfold underlying
 refine hC.bind R4 fun p=> ?_
 split<;>trivial
theorem aeR (t:TypeId):hC (typeInfo t):=by
 unfold typeInfo
 refine hC.bind R4 fun p=> ?_
 split<;>trivial
theorem aeS (t:TypeId):hC (Go.sizeOf t):=hC.bind (aeR t) fun _=>trivial
theorem aeT (t:TypeId):hC (isAgg t):=by
 unfold isAgg
 refine hC.bind (R5 t) fun d=> ?_
 split<;>trivial
theorem aeU (t:TypeId) (cs:Array Value) (off:Nat):hC (part t cs off):=by
 unfold part
 refine hC.bind (aeT t) fun d=> ?_
 split
 · exact hC.bind (aeS t) fun _=>trivial
 · split<;>trivial
theorem aeV (t:TypeId) (x:Value) (i:Nat):hC (Instr.field t x i):=by
 unfold Instr.field
 refine hC.bind (R5 t) fun d=> ?_
 split
 · split
   · refine hC.bind ?_ fun _=>aeU _ _ _
     unfold asAgg;split<;>trivial
   · trivial
 · trivial
def R6:Op→Bool
 | .move _=>true
 | .assign _=>true
 | .pick _ _ _=>true
 | .field _ _ _=>true
 |_=>false
def BQ (P:Program) (o:Oper) (K:Value→Prop) (e:Env) (w:World):Prop:=
 bif R6 o.op&&known e o.op.operands then
   match (execOp (ro e) o).run P w with
   | .ok (.value v) _=>K v
   |_=>False
 else False
def zg (P:Program) (o:Oper) (K:Value→Prop) (e:Env):Prop:=
 match m8 P o e with
 |some v=>K v
 |none=>False
def R7 (P:Program) (T:TypeId) (x:Value) (i:Nat) (K:Value→Prop):Prop:=
 match P.underlying T with
 |some (.struct fs)=>match fs[i]? with
   |some f=>match x with
     | .pointer (some A)=>match P.underlying f.type with
       |some _=>bif Nat.beq (P.cellsOf f.type) 0 then False else K (.pointer (some (A.add f.offset)))
       |none=>False
     |_=>False
   |none=>False
 |_=>False
def R8 (x:Value) (i:Nat) (K:Value→Prop):Prop:=
 match x with
 | .tuple vs=>match vs[i]? with
   |some v=>K v
   |none=>False
 |_=>False
def m_ (o:Oper):Bool:=
 match o.op with
 | .load _ _=>true
 | .convert _ _ _=>true
 |_=>false
def qc:Nat→List Oper→Nat
 |_,[]=>0
 |i,o::l=>bif m_ o then 2^i|||qc (i+1) l else qc (i+1) l
def Kz (P:Program) (bc:TypeId→gB) (W:Nat→Prop) (w:World) (o:Oper) (K:Value→Prop) (e:Env):Prop:=
 match o.op with
 | .nilCheck x=>match a8 e x with
   |some (.pointer p)=>∃A,p=some A∧K (.pointer (some A))
   |_=>False
 | .load T x=>match a8 e x with
   |some (.pointer (some A))=>¬W A.block∧y_ P bc T A w K
   |_=>False
 | .binOp op T x y _=>match a8 e x,a8 e y with
   |some dj,some o2=>bif ze y o2 then Fy P op T dj o2 K (zg P o K e) else False
   |_,_=>False
 | .indexAddr T x i=>match a8 e x,a8 e i with
   |some dj,some jR=>FC P T dj jR K
   |_,_=>False
 | .index T x i=>match a8 e x,a8 e i with
   |some dj,some jR=>FD P bc T dj jR K
   |_,_=>False
 | .field T x i=>match a8 e x with
   |some dj=>FE P bc T dj i K
   |_=>False
 | .fieldAddr T x i=>match a8 e x with
   |some dj=>R7 P T dj i K
   |_=>False
 | .extract x i=>match a8 e x with
   |some dj=>R8 dj i K
   |_=>False
 | .slice T x lo hi o0=>bif known e o.op.operands then
     FF P T (ro e x) (lo.map (ro e)) (hi.map (ro e)) (o0.map (ro e)) K
   else False
 | .convert s d x=>match a8 e x with
   |some (.int _ _)=>zg P o K e
   |some v=>kO (bc o.type) fun r=>(∀J,aq W w J→(convert s d v).run P J= .ok r J)∧K r
   |none=>False
 | .build t ct=>bif known e o.op.operands then
     ∃cs:Array Value,(∀J,(Instr.build t (ct.map fun p=>(p.1,ro e p.2))).run P J= .ok (.agg cs) J)∧K (.agg cs)
   else False
 | .unOp _ _ _=>zg P o K e
 | .call _=>zg P o K e
 | .move _=>BQ P o K e w
 | .assign _=>BQ P o K e w
 | .pick _ _ _=>BQ P o K e w
 | .sliceToArrayPointer T x=>match a8 e x with
   |some dj=>FB P T dj K
   |_=>False
 |_=>False
section
variable {P:Program} {bc:TypeId→gB} {W:Nat→Prop} {o:Oper} {K:Value→Prop} {e:Env} {a:Act} {w:World}
theorem KA (an:ec e a) (h:BQ P o K e w):∃v,(∀J,(execOp a.eval o).run P J= .ok (.value v) J)∧K v:=by
 unfold BQ at h
 cases aL:R6 o.op with
 |false=>rw[aL] at h;exact h.elim
 |true=>
   cases aa:known e o.op.operands with
   |false=>rw[aL,aa] at h;exact h.elim
   |true=>
     rw[aL,aa] at h
     simp only[Bool.and_self,cond_true] at h
     have ak:=o3 an (by cases bo:o.op<;>rw[bo] at aL<;>first|rfl|cases aL) aa
     rw[ak]
     split at h
     · rename_i v J aJ
       refine ⟨v,fun u=>hC.run ?_ aJ u,h⟩
       cases bo:o.op<;>rw[bo] at aL<;>first|(cases aL;done)|skip
       · simp only[execOp,bo];trivial
       · simp only[execOp,bo];trivial
       · simp only[execOp,bo]
         refine hC.bind ?_ fun _=>trivial
         unfold asBool;split<;>trivial
       · simp only[execOp,bo]
         exact hC.bind (aeV _ _ _) fun _=>trivial
     · exact h.elim
theorem FK (an:ec e a) (h:zg P o K e):∃v,(∀J,(execOp a.eval o).run P J= .ok (.value v) J)∧K v:=by
 unfold zg at h
 split at h
 · rename_i v ao
   exact ⟨v,R1 an ao,h⟩
 · exact h.elim
theorem aeW (an:ec e a) (h:Kz P bc W w o K e):∃v,(∀J,(m_ o=true→aq W w J)→(execOp a.eval o).run P J= .ok (.value v) J)∧K v:=by
 have cS:(∃v,(∀J,(execOp a.eval o).run P J= .ok (.value v) J)∧K v)→∃v,(∀J,(m_ o=true→aq W w J)→(execOp a.eval o).run P J= .ok (.value v) J)∧K v:=
   fun ⟨v,U,ag⟩=>⟨v,fun J _=>U J,ag⟩
 unfold Kz at h
 split at h
 case h_1 x bo=>
   split at h
   · rename_i p ai
     obtain ⟨A,rfl,aT⟩:=h
     exact ⟨_,fun J _=>by simp[execOp,bo,an.a8 ai],aT⟩
   · exact h.elim
 case h_2 T x bo=>
   split at h
   · rename_i A ai
     obtain ⟨fQ,h⟩:=h
     have key:∃v,(∀J,aq W w J→(Instr.loadAt T (.pointer (some A))).run P J= .ok v J)∧K v:=by
       have aN:∀J,(Instr.loadAt T (.pointer (some A))).run P J=(loadVar T A).run P J:=fun J=>by simp[Instr.loadAt,Instr.sureAddr]
       unfold y_ at h
       split at h
       · exact h.elim
       · rename_i d aV
         cases aE:kp d with
         |true=>
           rw[aE] at h
           simp only[cond_true] at h
           split at h
           · rename_i ls _
             by_cases aj:Nat.beq (P.cellsOf T) ls.length=true
             · rw[aj] at h
               simp only[cond_true] at h
               obtain ⟨vs,jF,h⟩:=Ko h
               rw[←kV aj] at jF
               exact ⟨_,fun J ak=>by rw[aN,Fx aV aE (ak.cn fQ _ _ _ jF)],h⟩
             · simp only[gL] at aj;rw[aj] at h;exact h.elim
           · obtain ⟨cs,eN,h⟩:=h
             exact ⟨_,fun J ak=>by rw[aN,Fx aV aE (ak.cn fQ _ _ _ eN)],h⟩
         |false=>
           rw[aE] at h
           simp only[cond_false] at h
           split at h
           · obtain ⟨v,ao,h⟩:=y8 h
             exact ⟨v,fun J ak=>by rw[aN,RF aV aE (ak.cell fQ ao)],h⟩
           · exact h.elim
     obtain ⟨v,ao,aT⟩:=key
     exact ⟨v,fun J ak=>by simp[execOp,bo,an.a8 ai,ao J (ak (by unfold m_;rw[bo]))],aT⟩
   · exact h.elim
 case h_3 op T x y RY bo=>
   split at h
   · rename_i dj o2 ai bA
     by_cases aD:ze y o2=true
     · rw[aD] at h
       simp only[cond_true] at h
       have Kr:o2= .nilIface→∃c,y= .const c:=by
         intro ao
         subst ao
         cases y<;>simp[ze] at aD⊢
       rcases RL (BG:=x) (zc:=y) Kr h with aW|⟨v,ao,aT⟩
       · exact cS (FK an aW)
       · exact ⟨v,fun J _=>by
           simp only[execOp,bo,an.a8 ai,an.a8 bA]
           have mR:=ao J
           simp only[Sem.run_bind] at mR⊢
           rw[mR];rfl,aT⟩
     · simp only[gL] at aD;rw[aD] at h;exact h.elim
   · exact h.elim
 case h_4 T x i bo=>
   split at h
   · rename_i dj jR ai hi
     obtain ⟨v,ao,aT⟩:=RN h
     exact ⟨v,fun J _=>by simp[execOp,bo,an.a8 ai,an.a8 hi,ao],aT⟩
   · exact h.elim
 case h_5 T x i bo=>
   split at h
   · rename_i dj jR ai hi
     obtain ⟨v,ao,aT⟩:=RP h
     exact ⟨v,fun J _=>by simp[execOp,bo,an.a8 ai,an.a8 hi,ao],aT⟩
   · exact h.elim
 case h_6 T x i bo=>
   split at h
   · rename_i dj ai
     obtain ⟨v,ao,aT⟩:=RQ h
     exact ⟨v,fun J _=>by simp[execOp,bo,an.a8 ai,ao],aT⟩
   · exact h.elim
 case h_7 T x i bo=>
   split at h
   · rename_i dj ai
     unfold R7 at h
     split at h
     · rename_i fs aV
       split at h
       · rename_i f aL
         split at h
         · rename_i A
           split at h
           · rename_i d aE
             cases cc:Nat.beq (P.cellsOf f.type) 0 with
             |true=>rw[cc] at h;exact h.elim
             |false=>
               rw[cc] at h
               have FG:¬P.cellsOf f.type=0:=fun bP=>by rw[bP] at cc;cases cc
               exact ⟨_,fun J _=>by simp[execOp,bo,an.a8 ai,Instr.fieldAt,db aV,aL,Instr.sureAddr,fieldPlace,lu aE,FG],h⟩
           · exact h.elim
         · exact h.elim
       · exact h.elim
     · exact h.elim
   · exact h.elim
 case h_8 x i bo=>
   split at h
   · rename_i dj ai
     unfold R8 at h
     split at h
     · rename_i vs
       split at h
       · rename_i v ao
         exact ⟨v,fun J _=>by simp[execOp,bo,an.a8 ai,Instr.extract,ao],h⟩
       · exact h.elim
     · exact h.elim
   · exact h.elim
 case h_9 T x lo hi o0 bo=>
   by_cases aa:known e o.op.operands=true
   · rw[aa] at h
     simp only[cond_true] at h
     have ak:=o3 an (by rw[bo];rfl) aa
     obtain ⟨v,ao,aT⟩:=RR h
     exact ⟨v,fun J _=>by rw[ak];simp[execOp,bo,ao],aT⟩
   · simp only[gL] at aa;rw[aa] at h;exact h.elim
 case h_10 s d x bo=>
   split at h
   · exact cS (FK an h)
   · rename_i v _ ai
     obtain ⟨r,aJ,aT⟩:=lg h
     exact ⟨r,fun J ak=>by simp[execOp,bo,an.a8 ai,aJ J (ak (by unfold m_;rw[bo]))],aT⟩
   · exact h.elim
 case h_11 t ct bo=>
   by_cases aa:known e o.op.operands=true
   · rw[aa] at h
     simp only[cond_true] at h
     have ak:=o3 an (by rw[bo];rfl) aa
     obtain ⟨cs,aJ,aT⟩:=h
     exact ⟨_,fun J _=>by rw[ak];simp[execOp,bo];rw[aJ];rfl,aT⟩
   · simp only[gL] at aa;rw[aa] at h;exact h.elim
 case h_12=>exact cS (FK an h)
 case h_13=>exact cS (FK an h)
 case h_14=>exact cS (KA an h)
 case h_15=>exact cS (KA an h)
 case h_16=>exact cS (KA an h)
 case h_17 T x bo=>
   split at h
   · rename_i dj ai
     obtain ⟨v,ao,aT⟩:=RM h
     exact ⟨v,fun J _=>by simp[execOp,bo,an.a8 ai,ao],aT⟩
   · exact h.elim
 case h_18=>exact h.elim
end
inductive kF where
 |take (i:Nat) (t:kF)
 |cL (i:Nat) (t:kF)
 |out (i:Nat) (b:Bool) (t:kF)
 |two (i:Nat) (t:kF) (j:Nat) (u:kF)
 |three (i:Nat) (t:kF) (j:Nat) (u:kF) (k:Nat) (v:kF)
 |sp (s:Nat) (t u:kF)
 |fin
 |tail (as:List tn)
def kP:List Nat→Nat
 | []=>0
 |d::l=>2^d|||kP l
theorem tq:∀ (l:List Nat) (k:Nat),(kP l).testBit k=decide (k∈l)
 | [],k=>by simp[kP]
 |d::l,k=>by
   simp only[kP,vC,tq l k,z7]
   by_cases h:d=k
   · subst h;simp
   · have:¬k=d:=fun ga=>h ga.symm
     simp[h,this]
def ve (o:Oper):List Nat:=(o.after.toList.filter fun e=>Region.binds .any e).map (·.on)
structure o4 where
 M:List Nat
 A:List Nat
def o5 (l:List Nat) (i:Nat):Nat:=l.getD i 0
def o6 (bU:o4) (m i:Nat):Bool:= !(m.testBit i)&&Nat.beq (o5 bU.M i&&&m) (o5 bU.M i)
def R9 (bU:o4) (N m i:Nat):Bool:=Nat.beq (o5 bU.A i&&&((2^N-1)^^^m)) 0
def qd (bU:o4) (m:Nat) (is:List Nat):Nat→Bool
 |0=>true
 |k+1=>(is.any (Nat.beq k)|| !(o6 bU m k))&&qd bU m is k
def BR (bU:o4):Nat→List Oper→Bool
 |_,[]=>true
 |i,o::l=>Nat.beq (kP (ve o)) (o5 bU.M i)&&BR bU (i+1) l
def BS (M:List Nat) (xf i xg xh:Nat):Nat→List Nat→List Nat→List Nat→Bool
 |j,zh::zi,vf::n3,zj::n4=>(xf.testBit j||(Nat.beq i j||(zh.testBit i||(Nat.beq (xg&&&(zj|||vf)) 0&&Nat.beq (vf&&&xh) 0))))&&BS M xf i xg xh (j+1) zi n3 n4
 |_,_,_,_=>true
def FL (bU:o4) (D K:List Nat):Nat→List Nat→List Nat→Bool
 |i,d::n3,k::n4=>BS bU.M (o5 bU.A i) i d k 0 bU.M D K&&FL bU D K (i+1) n3 n4
 |_,_,_=>true
def R_ (ops:List Oper):List Nat:=ops.map fun o=>kP o.dst.toList
def Sa (xi:Array Oper) (ops:List Oper):List Nat:=ops.map fun o=>kP (o.looksAt xi)
def BT:List Nat→List Nat→Bool
 | [],[]=>true
 |a::l,b::r=>Nat.beq a b&&BT l r
 |_,_=>false
theorem KB:∀ {l r:List Nat},BT l r=true→l=r
 | [],[],_=>rfl
 |a::l,b::r,h=>by
   simp only[BT,fy] at h
   rw[kV h.1,KB h.2]
def rZ (bU:o4) (D K:List Nat) (xi:Array Oper):Bool:=
 Nat.beq bU.M.length xi.size&&(BR bU 0 xi.toList&&(BT (R_ xi.toList) D&&(BT (Sa xi xi.toList) K&&FL bU D K 0 D K)))
def BU (bU:o4):Nat→Nat→Nat→Nat→Bool
 |0,_,N,m=>qd bU m [] N
 |g+1,k,N,m=>(o6 bU m k&&qd bU m [k] N)&&BU bU g (k+1) N (m|||2^k)
def ed (P:Program) (bc:TypeId→gB) (ops:Array Oper) (n:Nat) (bU:o4) (W:Nat→Prop):kF→Nat→Nat→(Env→World→Prop)→Env→World→Prop
 | .take i t,f+1,m,K,e,w=>
   bif o6 bU m i&&(R9 bU ops.size m i&&Nat.blt i n) then
     match ops[i]? with
     |some o=>jq ops o e (Kz P bc W w o (fun v=>ed P bc ops n bU W t f (m|||2^i) K (dA o.dst v e) w) e) (ed P bc ops n bU W t f (m|||2^i) K (dA o.dst undef e) w)
     |none=>False
   else False
 | .cL i t,f+1,m,K,e,w=>
   bif (o6 bU m i&&qd bU m [i] ops.size)&&Nat.blt i n then
     match ops[i]? with
     |some o=>jq ops o e (n2 P bc o (fun v J=>aq W w J∧ed P bc ops n bU W t f (m|||2^i) K (dA o.dst v e) J) e w) (ed P bc ops n bU W t f (m|||2^i) K (dA o.dst undef e) w)
     |none=>False
   else False
 | .out i b t,f+1,m,K,e,w=>
   bif (o6 bU m i&&qd bU m [i] ops.size)&&(Nat.blt i n&&Nat.beq ((qc 0 ops.toList&&&m)&&&o5 bU.M i) (qc 0 ops.toList&&&m)) then
     match ops[i]? with
     |some o=>jq ops o e (n2 P bc o (fun v J=>bif b then ∃V:Nat→Prop,ed P bc ops n bU V t f (m|||2^i) K (dA o.dst v e) J else ed P bc ops n bU W t f (m|||2^i) K (dA o.dst v e) J) e w) (ed P bc ops n bU W t f (m|||2^i) K (dA o.dst undef e) w)
     |none=>False
   else False
 | .two i t j u,f+1,m,K,e,w=>
   bif (o6 bU m i&&qd bU m [i,j] ops.size)&&(Nat.blt i n&&Nat.blt j n) then
     match ops[i]?,ops[j]? with
     |some o,some q=>
       jq ops o e (n2 P bc o (fun v J=>aq W w J∧ed P bc ops n bU W t f (m|||2^i) K (dA o.dst v e) J) e w) (ed P bc ops n bU W t f (m|||2^i) K (dA o.dst undef e) w)∧
       jq ops q e (n2 P bc q (fun v J=>aq W w J∧ed P bc ops n bU W u f (m|||2^j) K (dA q.dst v e) J) e w) (ed P bc ops n bU W u f (m|||2^j) K (dA q.dst undef e) w)
     |_,_=>False
   else False
 | .three i t j u k x,f+1,m,K,e,w=>
   bif (o6 bU m i&&qd bU m [i,j,k] ops.size)&&(Nat.blt i n&&(Nat.blt j n&&Nat.blt k n)) then
     match ops[i]?,ops[j]?,ops[k]? with
     |some o,some q,some r=>
       jq ops o e (n2 P bc o (fun v J=>aq W w J∧ed P bc ops n bU W t f (m|||2^i) K (dA o.dst v e) J) e w) (ed P bc ops n bU W t f (m|||2^i) K (dA o.dst undef e) w)∧
       jq ops q e (n2 P bc q (fun v J=>aq W w J∧ed P bc ops n bU W u f (m|||2^j) K (dA q.dst v e) J) e w) (ed P bc ops n bU W u f (m|||2^j) K (dA q.dst undef e) w)∧
       jq ops r e (n2 P bc r (fun v J=>aq W w J∧ed P bc ops n bU W x f (m|||2^k) K (dA r.dst v e) J) e w) (ed P bc ops n bU W x f (m|||2^k) K (dA r.dst undef e) w)
     |_,_,_=>False
   else False
 | .sp s t u,f,m,K,e,w=>
   match e.get s with
   |some (.bool c)=>(c=true→ed P bc ops n bU W t f m K ((s, .bool true)::e) w)∧(c=false→ed P bc ops n bU W u f m K ((s, .bool false)::e) w)
   |_=>False
 | .fin,0,m,K,e,w=>bif qd bU m [] ops.size&&Nat.beq n ops.size then K e w else False
 | .tail as,0,m,K,e,w=>bif BU bU (ops.size-n) n ops.size m&&Nat.blt n ops.size then hA P bc ops (ops.size-n+1) (ops.toList.drop n) as K e w else False
 |_,_,_,_,_,_=>False
def eZ (N m:Nat):Array Bool:=(Array.range N).map fun i=>m.testBit i
theorem zk {N m i:Nat} {d:Bool} (h:i<N):(eZ N m).getD i d=m.testBit i:=by
 simp[eZ,h]
theorem aeX {N m i:Nat} {d:Bool} (h:N≤i):(eZ N m).getD i d=d:=by
 simp[eZ,h]
theorem FM (N m i:Nat):(eZ N m).setIfInBounds i true=eZ N (m|||2^i):=by
 apply Array.ext
 · simp[eZ]
 · intro j U ag
   have bu:j<N:=by simpa[eZ] using ag
   have aA:j<(eZ N m).size:=by simpa[eZ] using bu
   rw[Array.getElem_setIfInBounds aA]
   simp only[eZ,Array.getElem_map,Array.getElem_range,vC,z7]
   by_cases AJ:i=j
   · subst AJ;simp
   · simp[AJ]
theorem Sb (N:Nat):eZ N 0=Array.replicate N false:=by
 apply Array.ext
 · simp[eZ]
 · intro j U ag
   simp[eZ]
section
variable {ops:Array Oper} {bU:o4} {D K:List Nat}
theorem Sc:∀ (l:List Oper) (i k:Nat) (o:Oper),BR bU i l=true→l[k]? =some o→o5 bU.M (i+k)=kP (ve o)
 | [],_,_,_,_,h=>by simp at h
 |p::l,i,0,o,ak,h=>by
   simp only[BR,fy] at ak
   simp only[xV,Option.some.injEq] at h
   subst h
   exact (kV ak.1).symm
 |p::l,i,k+1,o,ak,h=>by
   simp only[BR,fy] at ak
   have:=Sc l (i+1) k o ak.2 (by simpa using h)
   rw[show i+(k+1)=i+1+k by omega]
   exact this
theorem FN (h:rZ bU D K ops=true) {i:Nat} {o:Oper} (aS:ops[i]? =some o):o5 bU.M i=kP (ve o):=by
 simp only[rZ,fy] at h
 have:=Sc ops.toList 0 i o h.2.1 (by simpa using aS)
 simpa using this
theorem Sd {a b:Nat} (h:a&&&b=a) {k:Nat} (aa:a.testBit k=true):b.testBit k=true:=by
 have:=congrArg (fun x=>x.testBit k) h
 simp only[Nat.testBit_and,aa,mI] at this
 exact this
theorem Se:∀ (l:List Oper) (i k:Nat) (o:Oper),l[k]? =some o→(qc i l).testBit (i+k)=m_ o
 | [],_,_,_,h=>by simp at h
 |p::l,i,0,o,h=>by
   simp only[xV,Option.some.injEq] at h
   subst h
   have low:∀ (l:List Oper) (i k:Nat),k<i→(qc i l).testBit k=false:=by
     intro l
     induction l with
     |nil=>intro i k _;simp[qc]
     |cons q l cb=>
       intro i k aa
       simp only[qc]
       cases m_ q
       · exact cb (i+1) k (by omega)
       · simp only[cond_true,vC,z7,cb (i+1) k (by omega),Bool.or_false,fY]
         omega
   simp only[qc,Nat.add_zero]
   cases m_ p
   · exact low l (i+1) i (by omega)
   · simp[vC]
 |p::l,i,k+1,o,h=>by
   have:=Se l (i+1) k o (by simpa using h)
   rw[show i+1+k=i+(k+1) by omega] at this
   simp only[qc]
   cases m_ p
   · exact this
   · simp only[cond_true,vC,z7,this]
     simp
theorem FO {o:Oper} {k:Nat}:k∈ve o↔∃e∈o.after,Region.binds .any e=true∧e.on=k:=by
 simp only[ve,gl,vA,Array.mem_toList_iff]
 constructor
 · rintro ⟨e,⟨U,ag⟩,aA⟩;exact ⟨e,U,ag,aA⟩
 · rintro ⟨e,U,ag,aA⟩;exact ⟨e,⟨U,ag⟩,aA⟩
def Small (N m:Nat):Prop:=∀k,N≤k→m.testBit k=false
theorem aeY (N:Nat):Small N 0:=fun k _=>by simp
theorem FP {N m i:Nat} (h:Small N m) (hi:i<N):Small N (m|||2^i):=fun k aa=>by
 simp only[vC,h k aa,z7,qt,fY]
 omega
theorem FQ (ak:rZ bU D K ops=true) {m i:Nat} (hm:Small ops.size m):i∈Region.ready .any ops (eZ ops.size m)↔i<ops.size∧o6 bU m i=true:=by
 rw[mem_ready]
 constructor
 · rintro ⟨U,o,aS,ew⟩
   have hi:i<ops.size:=(qu.1 aS).1
   refine ⟨hi,?_⟩
   rw[zk hi] at U
   simp only[o6,U,Bool.not_false,mI]
   rw[FN ak aS]
   have:kP (ve o)&&&m=kP (ve o):=by
     apply Nat.eq_of_testBit_eq
     intro k
     simp only[Nat.testBit_and,tq]
     by_cases aa:k∈ve o
     · obtain ⟨e,he,aj,BV⟩:=FO.1 aa
       have ag:=ew e he aj
       rw[BV] at ag
       rcases gK k ops.size with aR|bF
       · rw[zk aR] at ag;simp[aa,ag]
       · rw[aeX bF] at ag;cases ag
     · simp[aa]
   rw[this];exact Nat.beq_refl _
 · rintro ⟨hi,h⟩
   simp only[o6,fy,lq] at h
   have aS:ops[i]? =some ops[i]:=by simp[hi]
   refine ⟨by rw[zk hi];exact h.1,ops[i],aS,fun e he aj=> ?_⟩
   have ag:=kV h.2
   rw[FN ak aS] at ag
   have aA:m.testBit e.on=true:=Sd ag (by
     rw[tq];simp only[cR];exact FO.2 ⟨e,he,aj,rfl⟩)
   have aR:e.on<ops.size:=by
     rcases gK e.on ops.size with h|h
     · exact h
     · rw[hm _ h] at aA;cases aA
   rw[zk aR];exact aA
theorem Sf:∀ (N:Nat) {m:Nat} {is:List Nat},qd bU m is N=true→∀k,k<N→o6 bU m k=true→k∈is
 |0,_,_,_,k,aa,_=>by omega
 |N+1,m,is,h,k,aa,aJ=>by
   simp only[qd,fy,hP,lq] at h
   rcases gK k N with U|U
   · exact Sf N h.2 k U aJ
   · have:k=N:=by omega
     subst this
     rcases h.1 with ag|ag
     · obtain ⟨x,ai,aj⟩:=List.any_eq_true.1 ag
       rw[kV aj];exact ai
     · rw[aJ] at ag;cases ag
theorem xj (ak:rZ bU D K ops=true) {m:Nat} {is:List Nat} (hm:Small ops.size m) (h:qd bU m is ops.size=true):
   ∀k∈Region.ready .any ops (eZ ops.size m),k∈is:=fun k aa=>
 let ⟨U,ag⟩:=(FQ ak hm).1 aa
 Sf _ h k U ag
theorem Sg:∀ (zi n3 n4:List Nat) (KC:List Nat) (xf i xg xh j k:Nat) (zh vf zj:Nat),BS KC xf i xg xh j zi n3 n4=true→zi[k]? =some zh→n3[k]? =some vf→n4[k]? =some zj→
   xf.testBit (j+k)=true∨i=j+k∨zh.testBit i=true∨(xg&&&(zj|||vf)=0∧vf&&&xh=0)
 | [],_,_,_,_,_,_,_,_,_,_,_,_,_,h,_,_=>by simp at h
 |_::_,[],_,_,_,_,_,_,_,_,_,_,_,_,_,h,_=>by simp at h
 |_::_,_::_,[],_,_,_,_,_,_,_,_,_,_,_,_,_,h=>by simp at h
 |akA::zi,akB::n3,akC::n4,KC,xf,i,xg,xh,j,k,zh,vf,zj,ak,U,ag,aA=>by
   simp only[BS,fy,hP] at ak
   cases k with
   |zero=>
     simp only[xV,Option.some.injEq] at U ag aA
     subst U ag aA
     rcases ak.1 with h|h|h|h
     · exact .inl h
     · exact .inr (.inl (kV h))
     · exact .inr (.inr (.inl h))
     · exact .inr (.inr (.inr ⟨kV h.1,kV h.2⟩))
   |succ k=>
     have:=Sg zi n3 n4 KC xf i xg xh (j+1) k zh vf zj ak.2 (by simpa using U) (by simpa using ag) (by simpa using aA)
     rw[show j+(k+1)=j+1+k by omega]
     exact this
theorem Sh:∀ (n3 n4:List Nat) (i k:Nat) (FR FT:Nat),FL bU D K i n3 n4=true→n3[k]? =some FR→n4[k]? =some FT→
   BS bU.M (o5 bU.A (i+k)) (i+k) FR FT 0 bU.M D K=true
 | [],_,_,_,_,_,_,h,_=>by simp at h
 |_::_,[],_,_,_,_,_,_,h=>by simp at h
 |d::n3,Rq::n4,i,k,FR,FT,ak,U,ag=>by
   simp only[FL,fy] at ak
   cases k with
   |zero=>
     simp only[xV,Option.some.injEq] at U ag
     subst U ag
     exact ak.1
   |succ k=>
     have:=Sh n3 n4 (i+1) k FR FT ak.2 (by simpa using U) (by simpa using ag)
     rw[show i+(k+1)=i+1+k by omega]
     exact this
theorem KD {a b:Nat} (h:a&&&b=0) {k:Nat} (aI:a.testBit k=true):b.testBit k=false:=by
 have:=congrArg (fun x=>x.testBit k) h
 simp only[Nat.testBit_and,aI,mI,Nat.zero_testBit] at this
 exact this
theorem aeZ {x y:Oper} (U:kP x.dst.toList&&&(kP (y.looksAt ops)|||kP y.dst.toList)=0) (ag:kP y.dst.toList&&&kP (x.looksAt ops)=0):
   x.apart ops y=true:=by
 unfold Oper.apart
 simp only[fy]
 refine ⟨?_,?_⟩
 · cases ai:x.dst with
   |none=>rfl
   |some d=>
     rw[ai] at U
     have aA:=KD U (k:=d) (by rw[tq];simp)
     simp only[vC,tq,jX,fY] at aA
     simp only[fy,lq,bne_iff_ne,ne_eq]
     refine ⟨by simpa using aA.1,fun h=> ?_⟩
     rw[h] at aA
     simp at aA
 · cases bA:y.dst with
   |none=>rfl
   |some d=>
     rw[bA] at ag
     have aA:=KD ag (k:=d) (by rw[tq];simp)
     simp only[tq,fY] at aA
     simpa using aA
theorem ae0 (ak:rZ bU D K ops=true) {m i:Nat} {o7:Oper} (hi:ops[i]? =some o7) (h:R9 bU ops.size m i=true):
   ∀j kQ,ops[j]? =some kQ→j≠i→(eZ ops.size m).getD j true=false→(∀e∈kQ.after,Region.binds .any e=true→e.on≠i)→o7.apart ops kQ=true:=by
 intro j kQ bu mz im fH
 have mn:=ak
 simp only[rZ,fy] at ak
 obtain ⟨hlen,BW,iH,aT,an⟩:=ak
 have akD:=kV hlen
 have J9:=KB iH
 have ae1:=KB aT
 have Si:j<ops.size:=(qu.1 bu).1
 have Sj:∀ {k:Nat} {o:Oper},ops[k]? =some o→D[k]? =some (kP o.dst.toList):=fun {k o} aS=>by
   rw[←J9];simp[R_,aS]
 have Sk:∀ {k:Nat} {o:Oper},ops[k]? =some o→K[k]? =some (kP (o.looksAt ops)):=fun {k o} aS=>by
   rw[←ae1];simp[Sa,aS]
 have KE:=Sh D K 0 i _ _ an (Sj hi) (Sk hi)
 have ae2:bU.M[j]? =some (o5 bU.M j):=by
   unfold o5
   have:j<bU.M.length:=by omega
   simp[List.getD,this]
 have:=Sg bU.M D K bU.M _ _ _ _ 0 j _ _ _ KE ae2 (Sj bu) (Sk bu)
 simp only[fX] at this
 rcases this with U|U|U|U
 · exfalso
   have ag:=kV h
   have aA:=KD ag U
   rw[zk Si] at im
   simp[Nat.testBit_xor,Nat.testBit_two_pow_sub_one,Si,im] at aA
 · exact absurd U.symm mz
 · exfalso
   rw[FN mn bu,tq] at U
   simp only[cR] at U
   obtain ⟨e,he,aj,BV⟩:=FO.1 U
   exact fH e he aj BV
 · exact aeZ U.1 U.2
end
def xk (ops:Array Oper) (dt:Array Bool) (j:Nat):Prop:=
 ∀k ok kQ,ops[k]? =some ok→ops[j]? =some kQ→m_ ok=true→dt.getD k false=true→∃e∈kQ.after,Region.binds .any e=true∧e.on=k
def r0 (P:Program) (ops:Array Oper) (Q:Exit→Act→World→Prop) (n:Nat) (L:Array Bool→Act→World→Prop):Nat→(World→Prop)→Array Bool→Act→World→Prop
 |0,_,dt,a,w=>L dt a w
 |f+1,S,dt,a,w=>Region.ready .any ops dt≠ []∧
     ∀i∈Region.ready .any ops dt,i<n∧wpOp P ops Q i (fun a' J=>∃fu:World→Prop,((∀x,fu x→S x)∨xk ops dt i)∧fu J∧r0 P ops Q n L f fu (dt.setIfInBounds i true) a' J) a w
def BX (ops:Array Oper) (n:Nat):Prop:=
 ∀dt,HeadInv .any ops n dt→∀i,i<n→dt.getD i true=false→∀t,n≤t→t∉Region.ready .any ops dt
theorem ae3 (ops:Array Oper):BX ops ops.size:=by
 intro dt _ i _ _ t bt aJ
 obtain ⟨_,o,aS,_⟩:=mem_ready.1 aJ
 have:=(qu.1 aS).1
 omega
theorem ae4 {ops:Array Oper} {n:Nat} (ar:Region.sinkB .any ops n=true) (ak:Region.chainB .any ops n=true) (aD:n<ops.size):BX ops n:=
 fun _ inv i hi im t bt=>tail_waits ar ak aD inv _ i rfl hi im t bt
section
variable {P:Program} {ops:Array Oper} {Q:Exit→Act→World→Prop} {n:Nat} {L:Array Bool→Act→World→Prop}
theorem YieldsIf.mono {S fu:World→Prop} {o:Oper} {v:Value} {a:Act} (h:YieldsIf P ops S o v a) (ar:∀x,fu x→S x):YieldsIf P ops fu o v a:=
 h.imp (fun ⟨U,ag⟩=>⟨U,fun w hw=>ag w (ar w hw)⟩) id
theorem ae5 (zl:BX ops n) {i:Nat} {o7:Oper} {v:Value} (hi:ops[i]? =some o7) (FU:∀ (j:Nat) (o:Oper) cs b,ops[j]? =some o→o.op≠ .select cs b)
   (As:∀c a w,Q (.panic c) (a.put o7.dst v) w→Q (.panic c) a w) (g3:i<n) (ae6:∀dt a w,L dt a w→∀j∈Region.ready .any ops dt,n≤j):
   ∀ (f:Nat) (S T:World→Prop) (dt:Array Bool) (a:Act) (w:World),(∀x,S x→T x)→(m_ o7=true∨∀x,T x)→HeadInv .any ops n dt→
     (∀j kQ,ops[j]? =some kQ→j≠i→dt.getD j true=false→(∀e∈kQ.after,Region.binds .any e=true→e.on≠i)→o7.apart ops kQ=true)→
     i∈Region.ready .any ops dt→YieldsIf P ops T o7 v a→S w→
     r0 P ops Q n L f S (dt.setIfInBounds i true) (a.put o7.dst v) w→r0 P ops Q n L (f+1) S dt a w:=by
 intro f
 induction f with
 |zero=>
   intro S T dt a w FV Sl inv _ aJ bA nw H
   have im:=(mem_ready.1 aJ).1
   refine ⟨fun h=>(by rw[h] at aJ;cases aJ),fun j bu=> ?_⟩
   have wv:j<n:=by
     rcases gK j n with h|h
     · exact h
     · exact absurd bu (zl dt inv i g3 im j h)
   refine ⟨wv,?_⟩
   by_cases mz:j=i
   · subst mz;exact (YieldsIf.mono bA FV).wpOp hi nw ⟨S, .inl fun _ h=>h,nw,H⟩
   · have:=ae6 _ _ _ H j (ready_mono bu mz)
     omega
 |succ f cb=>
   intro S T dt a w FV Sl inv Sm aJ bA nw H
   have im:=(mem_ready.1 aJ).1
   refine ⟨fun h=>(by rw[h] at aJ;cases aJ),fun j bu=> ?_⟩
   have wv:j<n:=by
     rcases gK j n with h|h
     · exact h
     · exact absurd bu (zl dt inv i g3 im j h)
   refine ⟨wv,?_⟩
   by_cases mz:j=i
   · subst mz;exact (YieldsIf.mono bA FV).wpOp hi nw ⟨S, .inl fun _ h=>h,nw,H⟩
   · have U:=(H.2 j (ready_mono bu mz)).2
     obtain ⟨Sn,kQ,FW,ew⟩:=mem_ready.1 bu
     have Sp:∀e∈kQ.after,Region.binds .any e=true→e.on≠i:=fun e he aj heq=>by
       have U:=ew e he aj
       rw[heq,getD_both im] at U
       cases U
     have ag:=wpOp_putIf FW (Sm j kQ FW mz Sn Sp) (fun cs b=>FU i o7 cs b hi) (fun cs b=>FU j kQ cs b FW) As bA U
     have Sq:∀k ok,ops[k]? =some ok→k≠i→(dt.setIfInBounds j true).getD k true=false→
         (∀e∈ok.after,Region.binds .any e=true→e.on≠i)→o7.apart ops ok=true:=fun k ok aa k5 im fH=>by
       refine Sm k ok aa k5 ?_ fH
       by_cases HG:j=k
       · subst HG;exact Sn
       · rw[getD_set_ne true HG] at im;exact im
     refine wpOp_mono (fun a' J aA=> ?_) ag
     obtain ⟨Sr,fu,fz,FX,BW⟩:=aA
     have KF:=BW
     rw[←Array.setIfInBounds_comm _ _ mz] at KF
     have KG:xk ops (dt.setIfInBounds i true) j→xk ops dt j:=fun aU k ok ae7 aa kD ar aC=>aU k ok ae7 aa kD ar (by
       by_cases qN:i=k
       · subst qN
         have:dt.getD i true=true:=by
           simp only[Array.getD] at aC⊢
           split at aC
           · rename_i aR;simp[aR] at aC⊢;exact aC
           · cases aC
         rw[this] at im;cases im
       · simp only[Array.getD,Array.size_setIfInBounds] at aC⊢
         split at aC
         · rename_i aR
           simp only[aR,dif_pos]
           simp only[Array.getInternal_eq_getElem] at aC⊢
           rw[Array.getElem_setIfInBounds_ne _ qN]
           exact aC
         · cases aC)
     rcases Sl with ar|Ej
     · have Ss:∀x,fu x→S x:=by
         rcases fz with h|h
         · exact h
         · exfalso
           obtain ⟨e,he,aj,BV⟩:=h i o7 kQ hi FW ar (by
             have aR:i<dt.size:=by
               rcases gK i dt.size with h|h
               · exact h
               · simp[Array.getD,Nat.not_lt.2 h] at im
             simp[Array.getD,aR])
           exact Sp e he aj BV
       exact ⟨fu, .inl Ss,FX,cb fu T (dt.setIfInBounds j true) a' J (fun x ai=>FV x (Ss x ai)) (.inl ar) (inv.set bu wv) Sq (ready_mono aJ (Ne.symm mz)) Sr FX KF⟩
     · exact ⟨fu,fz.imp id KG,FX,cb fu T (dt.setIfInBounds j true) a' J (fun x _=>Ej x) (.inr Ej) (inv.set bu wv) Sq (ready_mono aJ (Ne.symm mz)) Sr FX KF⟩
theorem St {g:Nat} (Su:∀dt a w,L dt a w→wpAny P .any ops Q g dt a w):
   ∀ (f:Nat) (S:World→Prop) (dt:Array Bool) (a:Act) (w:World),r0 P ops Q n L f S dt a w→wpAny P .any ops Q (f+g) dt a w
 |0,_,dt,a,w,h=>by rw[fX];exact Su _ _ _ h
 |f+1,S,dt,a,w,h=>by
   rw[show f+1+g=(f+g)+1 by omega]
   exact ⟨fun bP=>absurd bP h.1,fun i hi=>wpOp_mono (fun a' J ⟨fu,_,_,ga⟩=>St Su f fu _ a' J ga) (h.2 i hi).2⟩
def LE (P:Program) (ops:Array Oper) (Q:Exit→Act→World→Prop) (n:Nat) (dt:Array Bool) (a:Act) (w:World):Prop:=
 (Region.ready .any ops dt=[]∧n=ops.size∧Q .normal a w)∨
 (Region.seqB .any ops (ops.size-n) n dt=true∧n<ops.size∧wpList P ops Q (ops.toList.drop n) a w)
theorem ae8:∀dt a w,LE P ops Q n dt a w→∀j∈Region.ready .any ops dt,n≤j:=by
 rintro dt a w (⟨h,_,_⟩|⟨h,aD,_⟩) j bu
 · rw[h] at bu;cases bu
 · exact seqB_ready h j bu
theorem ae9:∀dt a w,LE P ops Q n dt a w→wpAny P .any ops Q (ops.size-n) dt a w:=by
 rintro dt a w (⟨h,aD,ae⟩|⟨h,aD,ae⟩)
 · subst aD
   rw[Nat.sub_self]
   exact ⟨h,ae⟩
 · have:=wpAny_of_seq (md:= .any) (P:=P) (Q':=Q) (ops.toList.drop n) n dt a w (fun j=>by simp[CT]) (by simpa using h) ae
   simpa using this
end
section
variable {P:Program} {bc:TypeId→gB} {ops:Array Oper} {n:Nat} {bU:o4} {oX r2:List Nat} {W:Nat→Prop}
theorem Sv (ak:rZ bU oX r2 ops=true):∀ (g k m:Nat),Small ops.size m→k+g=ops.size→BU bU g k ops.size m=true→Region.seqB .any ops g k (eZ ops.size m)=true
 |0,k,m,hm,aa,h=>by
   simp only[BU] at h
   simp only[Region.seqB,List.isEmpty_iff]
   cases aJ:Region.ready .any ops (eZ ops.size m) with
   |nil=>rfl
   |cons x l=>
     have:=xj ak hm h x (by rw[aJ];simp)
     cases this
 |g+1,k,m,hm,aa,h=>by
   simp only[BU,fy] at h
   simp only[Region.seqB,fy,cR]
   have si:k<ops.size:=by omega
   have gG:k∈Region.ready .any ops (eZ ops.size m):=(FQ ak hm).2 ⟨si,h.1.1⟩
   refine ⟨?_,?_⟩
   · have ew:=xj ak hm h.1.2
     have ib:(Region.ready .any ops (eZ ops.size m)).Nodup:=by
       unfold Region.ready
       exact List.Pairwise.filter _ List.nodup_range
     revert gG ew ib
     generalize Region.ready .any ops (eZ ops.size m)=l
     intro gG ew ib
     match l,gG,ew,ib with
     | [],gG,_,_=>cases gG
     | [x],gG,ew,_=>rw[gv.1 (ew x (by simp))]
     |x::y::l,_,ew,ib=>
       have ai:=gv.1 (ew x (by simp))
       have bA:=gv.1 (ew y (by simp))
       simp[ai,bA] at ib
   · rw[FM]
     exact Sv ak g (k+1) (m|||2^k) (FP hm si) (by omega) h.2
theorem ae_ (ak:rZ bU oX r2 ops=true) (zl:BX ops n) (aD:n≤ops.size) (FU:Region.noSelect ops=true) {a0:Act} (aj:∀d∈bO ops.toList,d<a0.tmps.size):
   ∀ (t:kF) (W:Nat→Prop) (f:Nat) (m:Nat) (K:Env→World→Prop) (e:Env) (a:Act) (w:World),ec e a→ez (bO ops.toList) a0 a→Small ops.size m→HeadInv .any ops n (eZ ops.size m)→
     ed P bc ops n bU W t f m K e w→r0 P ops (iL a0 (bO ops.toList) K) n (LE P ops (iL a0 (bO ops.toList) K) n) f (aq W w) (eZ ops.size m) a w:=by
 intro t
 have zm:∀ (i:Nat) (o:Oper),ops[i]? =some o→∀k,o.dst=some k→k∈bO ops.toList:=by
   intro i o aS k aa
   simp only[bO,List.mem_filterMap]
   exact ⟨o,by simpa using Array.mem_of_getElem? aS,aa⟩
 have zn:∀ (W:Nat→Prop) (t:kF),(∀ (W:Nat→Prop) (f:Nat) (m:Nat) (K:Env→World→Prop) (e:Env) (a:Act) (w:World),ec e a→ez (bO ops.toList) a0 a→Small ops.size m→HeadInv .any ops n (eZ ops.size m)→
     ed P bc ops n bU W t f m K e w→r0 P ops (iL a0 (bO ops.toList) K) n (LE P ops (iL a0 (bO ops.toList) K) n) f (aq W w) (eZ ops.size m) a w)→
     ∀ (f:Nat) (m:Nat) (K:Env→World→Prop) (e:Env) (a:Act) (w:World) (i:Nat) (o:Oper),ec e a→ez (bO ops.toList) a0 a→Small ops.size m→HeadInv .any ops n (eZ ops.size m)→
     i∈Region.ready .any ops (eZ ops.size m)→i<n→ops[i]? =some o→
     jq ops o e (n2 P bc o (fun v J=>aq W w J∧ed P bc ops n bU W t f (m|||2^i) K (dA o.dst v e) J) e w) (ed P bc ops n bU W t f (m|||2^i) K (dA o.dst undef e) w)→
     wpOp P ops (iL a0 (bO ops.toList) K) i (fun a' J=>∃fu:World→Prop,((∀x,fu x→aq W w x)∨xk ops (eZ ops.size m) i)∧fu J∧r0 P ops (iL a0 (bO ops.toList) K) n (LE P ops (iL a0 (bO ops.toList) K) n) f fu ((eZ ops.size m).setIfInBounds i true) a' J) a w:=by
   intro W t cb f m K e a w i o an aa hm inv aJ g3 aS h
   have next:∀ (v:Value) (J:World),aq W w J→ed P bc ops n bU W t f (m|||2^i) K (dA o.dst v e) J→
       ∃fu:World→Prop,((∀x,fu x→aq W w x)∨xk ops (eZ ops.size m) i)∧fu J∧r0 P ops (iL a0 (bO ops.toList) K) n (LE P ops (iL a0 (bO ops.toList) K) n) f fu ((eZ ops.size m).setIfInBounds i true) (a.put o.dst v) J:=by
     intro v J afa h
     have hG:ez (bO ops.toList) a (a.put o.dst v):=ez.put (zm i o aS)
     have hinv:=inv.set aJ g3
     rw[FM] at hinv⊢
     exact ⟨aq W J, .inl fun x ai=>afa.trans ai, .refl _ _,cb W f _ K _ _ J (an.put fun k cA=>by rw[aa.size];exact aj k (zm i o aS k cA)) (aa.trans hG) (FP hm (by omega)) hinv h⟩
   unfold wpOp
   simp only[aS]
   rcases BN an h with ⟨hw,aU⟩|⟨hw,aU⟩
   · simp only[hw,if_true]
     exact .inl ((Kq an aU).wp fun v J ⟨U,ag⟩=>next v J U ag)
   · simp only[hw,jt,if_false]
     exact next _ _ (.refl _ _) aU
 have FY:∀ {b c d:Bool} {X:Prop},(bif b&&(c&&d) then X else False)→b=true∧c=true∧d=true∧X:=by
   intro b c d X h
   cases b<;>cases c<;>cases d<;>first|exact h.elim|exact ⟨rfl,rfl,rfl,h⟩
 have KH:∀ {b c:Bool} {X:Prop},(bif b&&c then X else False)→b=true∧c=true∧X:=by
   intro b c X h
   cases b<;>cases c<;>first|exact h.elim|exact ⟨rfl,rfl,h⟩
 have blt:∀ {i j:Nat},Nat.blt i j=true→i<j:=fun h=>by
   have:=C2 h
   omega
 have ne_nil:∀ {m i:Nat},Small ops.size m→o6 bU m i=true→i<ops.size→Region.ready .any ops (eZ ops.size m)≠ []:=fun hm h hi bP=>by
   have:=(FQ ak hm).2 ⟨hi,h⟩
   rw[bP] at this;cases this
 induction t with
 |take i t cb=>
   intro W f m K e a w an aa hm inv h
   cases f with
   |zero=>simp[ed] at h
   |succ f=>
     simp only[ed] at h
     obtain ⟨U,ag,aA,h⟩:=FY h
     have g3:=blt aA
     have aJ:i∈Region.ready .any ops (eZ ops.size m):=(FQ ak hm).2 ⟨by omega,U⟩
     split at h
     · rename_i o aS
       have fin:∀v,YieldsIf P ops (fun x=>m_ o=true→aq W w x) o v a→ed P bc ops n bU W t f (m|||2^i) K (dA o.dst v e) w→
           r0 P ops (iL a0 (bO ops.toList) K) n (LE P ops (iL a0 (bO ops.toList) K) n) (f+1) (aq W w) (eZ ops.size m) a w:=by
         intro v bA h
         have hG:ez (bO ops.toList) a (a.put o.dst v):=ez.put (zm i o aS)
         refine ae5 zl aS (Region.noSelect_spec FU) (fun c a w ae=>by cases ae.1) g3 ae8 f (aq W w) (fun x=>m_ o=true→aq W w x) _ a w (fun _ h _=>h) (by cases ar:m_ o<;>simp) inv (ae0 ak aS ag) aJ bA (.refl _ _) ?_
         have hinv:=inv.set aJ g3
         rw[FM] at hinv⊢
         exact cb W f _ K _ _ w (an.put fun k cA=>by rw[aa.size];exact aj k (zm i o aS k cA)) (aa.trans hG) (FP hm (by omega)) hinv h
       rcases BN an h with ⟨hw,aU⟩|⟨hw,aU⟩
       · obtain ⟨v,ao,aT⟩:=aeW an aU
         exact fin v (.inl ⟨hw,fun J ak=>ao J ak⟩) aT
       · exact fin undef (.inr ⟨hw,rfl⟩) aU
     · exact h.elim
 |cL i t cb=>
   intro W f m K e a w an aa hm inv h
   cases f with
   |zero=>simp[ed] at h
   |succ f=>
     simp only[ed] at h
     obtain ⟨mA,aA,h⟩:=KH h
     simp only[fy] at mA
     have g3:=blt aA
     split at h
     · rename_i o aS
       refine ⟨ne_nil hm mA.1 (by omega),fun j bu=> ?_⟩
       have mz:j=i:=by simpa using xj ak hm mA.2 j bu
       subst mz
       exact ⟨g3,zn W t cb f m K e a w j o an aa hm inv bu g3 aS h⟩
     · exact h.elim
 |out i b t cb=>
   intro W f m K e a w an aa hm inv h
   cases f with
   |zero=>simp[ed] at h
   |succ f=>
     simp only[ed] at h
     obtain ⟨mA,aA,aK,h⟩:=FY h
     simp only[fy] at mA
     have g3:=blt aA
     have aK:=kV aK
     split at h
     · rename_i o aS
       refine ⟨ne_nil hm mA.1 (by omega),fun j bu=> ?_⟩
       have mz:j=i:=by simpa using xj ak hm mA.2 j bu
       subst mz
       refine ⟨g3,?_⟩
       have KG:xk ops (eZ ops.size m) j:=by
         intro k ok kQ hG kD ar aC
         have h7:k<ops.size:=(qu.1 hG).1
         rw[zk h7] at aC
         have jA:(qc 0 ops.toList&&&m).testBit k=true:=by
           rw[Nat.testBit_and,aC,Bool.and_true]
           exact (Se ops.toList 0 k ok (by simpa using hG)).trans ar|>(by simpa using ·)
         have bH:(o5 bU.M j).testBit k=true:=Sd aK jA
         rw[FN ak kD,tq] at bH
         simp only[cR] at bH
         exact FO.1 bH
       have next:∀ (v:Value) (J:World) (V:Nat→Prop),ed P bc ops n bU V t f (m|||2^j) K (dA o.dst v e) J→
           ∃fu:World→Prop,((∀x,fu x→aq W w x)∨xk ops (eZ ops.size m) j)∧fu J∧r0 P ops (iL a0 (bO ops.toList) K) n (LE P ops (iL a0 (bO ops.toList) K) n) f fu ((eZ ops.size m).setIfInBounds j true) (a.put o.dst v) J:=by
         intro v J V h
         have hG:ez (bO ops.toList) a (a.put o.dst v):=ez.put (zm j o aS)
         have hinv:=inv.set bu g3
         rw[FM] at hinv⊢
         exact ⟨aq V J, .inr KG, .refl _ _,cb V f _ K _ _ J (an.put fun k cA=>by rw[aa.size];exact aj k (zm j o aS k cA)) (aa.trans hG) (FP hm (by omega)) hinv h⟩
       unfold wpOp
       simp only[aS]
       rcases BN an h with ⟨hw,aU⟩|⟨hw,aU⟩
       · simp only[hw,if_true]
         refine .inl ((Kq an aU).wp fun v J ag=> ?_)
         cases b with
         |true=>
           obtain ⟨V,ag⟩:=ag
           exact next v J V ag
         |false=>exact next v J W ag
       · simp only[hw,jt,if_false]
         exact next _ _ W aU
     · exact h.elim
 |two i t j u BY BZ=>
   intro W f m K e a w an aa hm inv h
   cases f with
   |zero=>simp[ed] at h
   |succ f=>
     simp only[ed] at h
     obtain ⟨mA,aA,aK,h⟩:=FY h
     simp only[fy] at mA
     have hi:=blt aA
     split at h
     · rename_i o q aS ae
       refine ⟨ne_nil hm mA.1 (by omega),fun k hG=> ?_⟩
       have k5:k=i∨k=j:=by simpa using xj ak hm mA.2 k hG
       rcases k5 with k5|k5
       · subst k5
         exact ⟨blt aA,zn W t BY f m K e a w k o an aa hm inv hG (blt aA) aS h.1⟩
       · subst k5
         exact ⟨blt aK,zn W u BZ f m K e a w k q an aa hm inv hG (blt aK) ae h.2⟩
     · exact h.elim
 |three i t j u k x BY BZ afb=>
   intro W f m K e a w an aa hm inv h
   cases f with
   |zero=>simp[ed] at h
   |succ f=>
     simp only[ed] at h
     obtain ⟨mA,aA,afc,h⟩:=FY (d:=_) h
     obtain ⟨aK,bH⟩:Nat.blt j n=true∧Nat.blt k n=true:=by simpa using afc
     simp only[fy] at mA
     have hi:=blt aA
     split at h
     · rename_i o q r aS ae Ka
       refine ⟨ne_nil hm mA.1 (by omega),fun y hG=> ?_⟩
       have k5:y=i∨y=j∨y=k:=by simpa using xj ak hm mA.2 y hG
       rcases k5 with k5|k5|k5
       · subst k5
         exact ⟨blt aA,zn W t BY f m K e a w y o an aa hm inv hG (blt aA) aS h.1⟩
       · subst k5
         exact ⟨blt aK,zn W u BZ f m K e a w y q an aa hm inv hG (blt aK) ae h.2.1⟩
       · subst k5
         exact ⟨blt bH,zn W x afb f m K e a w y r an aa hm inv hG (blt bH) Ka h.2.2⟩
     · exact h.elim
 |sp s t u BY BZ=>
   intro W f m K e a w an aa hm inv h
   have ga:match e.get s with
     |some (.bool c)=>(c=true→ed P bc ops n bU W t f m K ((s, .bool true)::e) w)∧(c=false→ed P bc ops n bU W u f m K ((s, .bool false)::e) w)
     |_=>False:=by cases f<;>simpa only[ed] using h
   split at ga
   · rename_i c ar
     cases c with
     |true=>exact BY W f m K _ a w (an.lit ar) aa hm inv (ga.1 rfl)
     |false=>exact BZ W f m K _ a w (an.lit ar) aa hm inv (ga.2 rfl)
   · exact ga.elim
 |fin=>
   intro W f m K e a w an aa hm inv h
   cases f with
   |succ f=>simp[ed] at h
   |zero=>
     simp only[ed] at h
     obtain ⟨U,ag,h⟩:=KH h
     refine .inl ⟨?_,kV ag,rfl,aa,e,an,h⟩
     cases aJ:Region.ready .any ops (eZ ops.size m) with
     |nil=>rfl
     |cons x l=>
       have:=xj ak hm U x (by rw[aJ];simp)
       cases this
 |tail as=>
   intro W f m K e a w an aa hm inv h
   cases f with
   |succ f=>simp[ed] at h
   |zero=>
     simp only[ed] at h
     obtain ⟨U,ag,h⟩:=KH h
     have fz:∀k,k∈bO (ops.toList.drop n)→k∈bO ops.toList:=fun k aa=>by
       simp only[bO,List.mem_filterMap] at aa⊢
       obtain ⟨o,aS,aa⟩:=aa
       exact ⟨o,List.mem_of_mem_drop aS,aa⟩
     have:=R3 _ _ _ K e a w an (fun d aE=>by rw[aa.size];exact aj d (fz d aE)) h
     exact .inr ⟨Sv ak _ _ _ hm (by omega) U,blt ag,lZ (fun x a' J ⟨aZ,a7,bm⟩=>⟨aZ,aa.trans (a7.mono fz),bm⟩) _ _ _ this⟩
theorem afd (ops:Array Oper) (n:Nat):HeadInv .any ops n (Array.replicate ops.size false):=
 ⟨by simp,fun j kQ _ aC=>(by rw[getD_replicate_false] at aC;cases aC),fun t _ bt=>getD_in (by simpa using bt) (getD_replicate_false _ _)⟩
def KI (P:Program) (bc:TypeId→gB) (ops:Array Oper) (n:Nat) (B0:Bool) (bU:o4) (oX r2:List Nat) (t:kF) (K:Env→World→Prop) (e:Env) (w:World):Prop:=
 bif (Region.noSelect ops&&rZ bU oX r2 ops)&&(bif Nat.beq n ops.size then true else Nat.blt n ops.size&&(Region.sinkB .any ops n&&Region.chainB .any ops n)) then
   bif B0 then
     ay w.drew fun af=>∃W:Nat→Prop,ed P bc ops n bU W t n 0 K e af
   else ay w.drew fun af=>ed P bc ops n bU (fun _=>False) t n 0 K e af
 else False
theorem afe {id:Nat} {B0:Bool} {t:kF} {K:Env→World→Prop} {e:Env} {a:Act} {w:World} (hm:P.follows .mixedOrders=true)
   (an:ec e a) (aj:∀d∈bO ops.toList,d<a.tmps.size) (h:KI P bc ops n B0 bU oX r2 t K e w):
   (Code.region id ops true).wp P (iL a (bO ops.toList) K) a w:=by
 unfold KI at h
 cases bP:(Region.noSelect ops&&rZ bU oX r2 ops) with
 |false=>rw[bP] at h;exact h.elim
 |true=>
   rw[bP] at h
   simp only[mI] at h
   simp only[fy] at bP
   obtain ⟨U,ak⟩:=bP
   cases ag:(bif Nat.beq n ops.size then true else Nat.blt n ops.size&&(Region.sinkB .any ops n&&Region.chainB .any ops n)) with
   |false=>rw[ag] at h;exact h.elim
   |true=>
     rw[ag] at h
     simp only[cond_true] at h
     have zl:BX ops n:=by
       cases aD:Nat.beq n ops.size with
       |true=>rw[kV aD];exact ae3 ops
       |false=>
         rw[aD] at ag
         simp only[cond_false,fy] at ag
         refine ae4 ag.2.1 ag.2.2 ?_
         have:=C2 ag.1
         omega
     have hle:n≤ops.size:=by
       cases aD:Nat.beq n ops.size with
       |true=>rw[kV aD];exact b6 _
       |false=>
         rw[aD] at ag
         simp only[cond_false,fy] at ag
         have:=C2 ag.1
         omega
     have key:∀W,ed P bc ops n bU W t n 0 K e w.drew→(Code.region id ops true).wp P (iL a (bO ops.toList) K) a w:=by
       intro W h
       refine wp_region_any hm ?_
       have BW:=ae_ ak zl hle U aj t W n 0 K e a w.drew an (.refl _ _) (aeY _) (by rw[Sb];exact afd ops n) h
       rw[Sb] at BW
       have:=St ae9 _ _ _ _ _ BW
       rw[show n+(ops.size-n)=ops.size by omega] at this
       exact this
     cases B0 with
     |true=>obtain ⟨W,h⟩:=h;exact key W h
     |false=>exact key _ h
end
end bD
namespace bD
open Go
inductive bn where
 |leaf
 |du (as:List tn)
 |dO (n:Nat) (B0:Bool) (bU:o4) (oX r2:List Nat) (t:kF)
 |seq (a b:bn)
 |cond (a b:bn)
 |bT (a:bn)
 |loop (live:List (Nat×dr)) (l0:List Nat) (a:bn)
 |hM (live:List (Nat×dr)) (l0:List Nat) (a:bn)
def iq:List (Nat×dr)→Type
 | []=>World→Prop
 |(_,l)::r=>l.T→iq r
def vg:List (Nat×dr)→Type
 | []=>World→Nat
 |(_,l)::r=>l.T→vg r
def zo (l:dr) (v:Option Value) (K:l.T→Prop):Prop:=
 match l,v with
 | .int k,some (.int en n)=>bif n1 k en then K n else False
 | .bool,some (.bool b)=>K b
 | .str,some (.string s)=>K s
 | .ptr,some (.pointer p)=>K p
 | .slice,some (.slice a n c)=>K ⟨a,n,c⟩
 | .map,some (.map r)=>K r
 | .agg,some (.agg cs)=>K cs
 | .fn,some (.func (.func f) a b)=>K ⟨f,a,b⟩
 | .any,some v=>K v
 |_,_=>False
def iq.app:(live:List (Nat×dr))→iq live→(Nat→Option Value)→World→Prop
 | [],k,_,w=>k w
 |(s,l)::r,k,g,w=>zo l (g s) fun x=>iq.app r (k x) g w
def iq.lam:(live:List (Nat×dr))→(Env→World→Prop)→iq live
 | [],F=>fun w=>F [] w
 |(s,l)::r,F=>fun x=>iq.lam r fun e w=>F ((s,l.v x)::e) w
def KJ:(live:List (Nat×dr))→iq live→vg live→(Env→Nat→World→Prop)→Prop
 | [],I,μ,F=>∀w,I w→F [] (μ w) w
 |(s,l)::r,I,μ,F=>∀x:l.T,KJ r (I x) (μ x) fun e m w=>F ((s,l.v x)::e) m w
def KK:(live:List (Nat×dr))→iq live→vg live→Nat→(Nat→Option Value)→World→Prop
 | [],I,μ,m,_,w=>I w∧μ w<m
 |(s,l)::r,I,μ,m,g,w=>zo l (g s) fun x=>KK r (I x) (μ x) m g w
def mB:(live:List (Nat×dr))→vg live→(Nat→Option Value)→World→Nat
 | [],μ,_,w=>μ w
 |(s,l)::r,μ,g,w=>
   match l,g s,μ with
   | .int _,some (.int _ n),μ=>mB r (μ n) g w
   | .bool,some (.bool b),μ=>mB r (μ b) g w
   | .str,some (.string b),μ=>mB r (μ b) g w
   | .ptr,some (.pointer b),μ=>mB r (μ b) g w
   | .slice,some (.slice a n c),μ=>mB r (μ (ah.mk a n c)) g w
   | .map,some (.map b),μ=>mB r (μ b) g w
   | .agg,some (.agg b),μ=>mB r (μ b) g w
   | .fn,some (.func (.func f) a b),μ=>mB r (μ (lX.mk f a b)) g w
   | .any,some v,μ=>mB r (μ v) g w
   |_,_,_=>0
def writes:Code→List Nat
 | .region _ ops _=>bO ops.toList
 | .seq a b=>writes a++writes b
 | .cond _ a b=>writes a++writes b
 | .block _ a=>writes a
 | .loop a=>writes a
 | .scope a=>writes a
 |_=> []
def B1 (l0 ws:List Nat):Bool:=l0.all fun s=> !(ws.any fun d=>Nat.beq d s)
def xl (e:Env):List Nat→Env
 | []=> []
 |s::h3=>match e.get s with
   |some v=>(s,v)::xl e h3
   |none=>xl e h3
def zp:Env→Env→Env
 | [],f=>f
 |p::e,f=>p::zp e f
def D (P:Program) (bc:TypeId→gB):bn→Code→(Exit→Env→World→Prop)→Env→World→Prop
 | .leaf,c,K,e,w=>
   match c with
   | .skip=>K .normal e w
   | .label _=>K .normal e w
   | .exit id=>K (.exit id) e w
   | .ret=>K .ret e w
   |_=>False
 | .du as,c,K,e,w=>
   match c with
   | .region _ ops false=>hA P bc ops (ops.size+1) ops.toList as (fun dh J=>K .normal dh J) e w
   |_=>False
 | .dO n he bU oX r2 t,c,K,e,w=>
   match c with
   | .region _ ops true=>KI P bc ops n he bU oX r2 t (fun dh J=>K .normal dh J) e w
   |_=>False
 | .seq A B,c,K,e,w=>
   match c with
   | .seq a b=>D P bc A a (fun x dh J=>match x with| .normal=>D P bc B b K dh J|x=>K x dh J) e w
   |_=>False
 | .cond A B,c,K,e,w=>
   match c with
   | .cond o x y=>match a8 e o with
     |some (.bool b)=>(b=true→D P bc A x K e w)∧(b=false→D P bc B y K e w)
     |_=>False
   |_=>False
 | .bT A,c,K,e,w=>
   match c with
   | .block id b=>D P bc A b (fun x dh J=>match x with| .exit zq=>bif Nat.beq zq id then K .normal dh J else K (.exit zq) dh J|x=>K x dh J) e w
   |_=>False
 | .loop live l0 A,c,K,e,w=>
   match c with
   | .loop b=>bif B1 l0 (writes b) then
       ∃ (I:iq live) (μ:vg live),iq.app live I e.get w∧
         KJ live I μ fun el m J=>D P bc A b (fun x dh ic=>match x with| .normal=>KK live I μ m dh.get ic|x=>K x dh ic) (zp el (xl e l0)) J
     else False
   |_=>False
 | .hM live l0 A,c,K,e,w=>
   bif B1 l0 (writes c) then
     br (fun k:iq live=>D P bc A c (fun x dh J=>match x with| .normal=>iq.app live k dh.get J|x=>K x dh J) e w)
       (iq.lam live fun el J=>K .normal (zp el (xl e l0)) J)
   else False
def aff (a:Act) (bG:List Nat) (K:Exit→Env→World→Prop) (x:Exit) (a':Act) (J:World):Prop:=
 ez bG a a'∧∃dh,ec dh a'∧K x dh J
def Sub (e:Env) (g:Nat→Option Value):Prop:=∀s v,e.get s=some v→g s=some v
theorem Sub.cons {e:Env} {g:Nat→Option Value} {s:Nat} {v:Value} (h:Sub e g) (ar:g s=some v):Sub ((s,v)::e) g:=by
 intro t u bt
 rw[xb] at bt
 by_cases e1:s=t
 · subst e1;rw[if_pos rfl] at bt;rw[ar];exact bt
 · rw[if_neg e1] at bt;exact h t u bt
theorem Sub.nil {g:Nat→Option Value}:Sub [] g:=fun _ _ h=>by cases h
theorem FZ {l:dr} {v:Option Value} {K:l.T→Prop} (h:zo l v K):∃x:l.T,v=some (l.v x)∧K x:=by
 unfold zo at h
 split at h
 · rename_i k en n K
   by_cases aa:k=en
   · subst aa
     simp only[n1,decide_true,cond_true] at h
     exact ⟨n,rfl,h⟩
   · simp[n1,aa] at h
 all_goals first
   |exact ⟨_,rfl,h⟩
   |exact h.elim
theorem Sw {l:dr} {v:Option Value} {K:l.T→Prop} {x:l.T} (ao:v=some (l.v x)) (h:K x):zo l v K:=by
 subst ao
 cases l<;>simp only[zo,dr.v,n1,decide_true,cond_true]<;>exact h
theorem Sx {s:Nat} {l:dr} {r:List (Nat×dr)} {μ:vg ((s,l)::r)} {g:Nat→Option Value} {w:World} {x:l.T} (ao:g s=some (l.v x)):
   mB ((s,l)::r) μ g w=mB r (μ x) g w:=by
 cases l<;>simp only[mB,ao,dr.v]<;>rfl
theorem Sy:∀ {live:List (Nat×dr)} {F:Env→World→Prop} {g:Nat→Option Value} {w:World},iq.app live (iq.lam live F) g w→∃el,Sub el g∧F el w
 | [],F,g,w,h=>⟨[],Sub.nil,h⟩
 |(s,l)::r,F,g,w,h=>by
   obtain ⟨x,ao,h⟩:=FZ h
   obtain ⟨el,ar,h⟩:=Sy h
   exact ⟨(s,l.v x)::el,ar.cons ao,h⟩
theorem Sz:∀ {live:List (Nat×dr)} {I:iq live} {g g':Nat→Option Value} {w:World},(∀s v,g s=some v→g' s=some v)→iq.app live I g w→iq.app live I g' w
 | [],_,_,_,_,_,h=>h
 |(s,l)::r,I,g,g',w,aW,h=>by
   obtain ⟨x,ao,h⟩:=FZ h
   exact Sw (aW _ _ ao) (Sz aW h)
theorem SA:∀ {live:List (Nat×dr)} {I:iq live} {μ:vg live} {F:Env→Nat→World→Prop} {g:Nat→Option Value} {w:World},
   KJ live I μ F→iq.app live I g w→∃el,Sub el g∧F el (mB live μ g w) w
 | [],I,μ,F,g,w,h,xm=>⟨[],Sub.nil,h w xm⟩
 |(s,l)::r,I,μ,F,g,w,h,xm=>by
   obtain ⟨x,ao,xm⟩:=FZ xm
   obtain ⟨el,ar,h⟩:=SA (h x) xm
   exact ⟨(s,l.v x)::el,ar.cons ao,by rw[Sx ao];exact h⟩
theorem SB:∀ {live:List (Nat×dr)} {I:iq live} {μ:vg live} {m:Nat} {g g':Nat→Option Value} {w:World},
   (∀s v,g s=some v→g' s=some v)→KK live I μ m g w→iq.app live I g' w∧mB live μ g' w<m
 | [],_,_,_,_,_,_,_,h=>h
 |(s,l)::r,I,μ,m,g,g',w,aW,h=>by
   obtain ⟨x,ao,h⟩:=FZ h
   obtain ⟨U,ag⟩:=SB aW h
   exact ⟨Sw (aW _ _ ao) U,by rw[Sx (aW _ _ ao)];exact ag⟩
theorem SC:∀ {e f:Env} {s:Nat} {v:Value},(zp e f).get s=some v→e.get s=some v∨f.get s=some v
 | [],_,_,_,h=> .inr h
 |(k,u)::e,f,s,v,h=>by
   simp only[zp] at h
   rw[xb] at h⊢
   by_cases aa:k=s
   · rw[if_pos aa] at h⊢;exact .inl h
   · rw[if_neg aa] at h⊢;exact SC h
theorem KL {e:Env}:∀ {h3:List Nat} {s:Nat} {v:Value},(xl e h3).get s=some v→s∈h3∧e.get s=some v
 | [],_,_,h=>by cases h
 |k::h3,s,v,h=>by
   simp only[xl] at h
   split at h
   · rename_i u hu
     rw[xb] at h
     by_cases aa:k=s
     · rw[if_pos aa] at h
       subst aa
       exact ⟨by simp,by rw[hu];exact h⟩
     · rw[if_neg aa] at h
       have:=KL h
       exact ⟨by simp[this.1],this.2⟩
   · have:=KL h
     exact ⟨by simp[this.1],this.2⟩
theorem SD {e el:Env} {a a':Act} {l0 ws:List Nat} (an:ec e a) (aa:ez ws a a') (aS:B1 l0 ws=true) (ar:Sub el fun s=>a'.tmps[s]?):
   ec (zp el (xl e l0)) a':=by
 constructor
 intro s v h
 rcases SC h with h|h
 · exact ar s v h
 · obtain ⟨U,ag⟩:=KL h
   have aA:=sa.1 aS s U
   simp only[lq,xP] at aA
   rw[aa.same s fun hm=>aA s hm (Nat.beq_refl s)]
   exact an.get s v ag
section
variable {P:Program} {bc:TypeId→gB}
theorem tr {c:Code} {Q Q':Exit→Act→World→Prop} {a:Act} {w:World} (h:c.wp P Q a w) (ae:∀e a w,Q e a w→Q' e a w):c.wp P Q' a w:=wp_mono h ae
theorem afg (hm:P.follows .mixedOrders=true):∀ (A:bn) (c:Code) (K:Exit→Env→World→Prop) (e:Env) (a:Act) (w:World),ec e a→(∀d∈writes c,d<a.tmps.size)→
   D P bc A c K e w→c.wp P (aff a (writes c) K) a w:=by
 intro A
 induction A with
 |leaf=>
   intro c K e a w an aj h
   simp only[D] at h
   split at h
   · exact wp_skip ⟨.refl _ _,e,an,h⟩
   · exact wp_label ⟨.refl _ _,e,an,h⟩
   · exact wp_exit ⟨.refl _ _,e,an,h⟩
   · exact wp_ret ⟨.refl _ _,e,an,h⟩
   · exact h.elim
 |du as=>
   intro c K e a w an aj h
   simp only[D] at h
   split at h
   · rename_i id ops
     have:=R3 _ _ _ _ e a w an aj h
     refine wp_region_list (lZ ?_ _ _ _ this)
     rintro x a' J ⟨rfl,aa,dh,iU,aT⟩
     exact ⟨aa,dh,iU,aT⟩
   · exact h.elim
 |dO n he bU oX r2 t=>
   intro c K e a w an aj h
   simp only[D] at h
   split at h
   · rename_i id ops
     refine tr (afe hm an aj h) ?_
     rintro x a' J ⟨rfl,aa,dh,iU,aT⟩
     exact ⟨aa,dh,iU,aT⟩
   · exact h.elim
 |seq A B KM KN=>
   intro c K e a w an aj h
   simp only[D] at h
   split at h
   · rename_i x y
     have ai:∀d,d∈writes x→d∈writes (.seq x y):=fun d aE=>by simp[writes,aE]
     have bA:∀d,d∈writes y→d∈writes (.seq x y):=fun d aE=>by simp[writes,aE]
     refine wp_seq (tr (KM x _ e a w an (fun d aE=>aj d (ai d aE)) h) ?_)
     rintro ex bp af ⟨aa,aN,gp,U⟩
     cases ex with
     |normal=>
       refine tr (KN y K aN bp af gp (fun d aE=>by rw[aa.size];exact aj d (bA d aE)) U) ?_
       rintro ex bM aw ⟨cA,a6,gb,ag⟩
       exact ⟨(aa.mono ai).trans (cA.mono bA),a6,gb,ag⟩
     |exit id=>exact ⟨aa.mono ai,aN,gp,U⟩
     |goto l=>exact ⟨aa.mono ai,aN,gp,U⟩
     |ret=>exact ⟨aa.mono ai,aN,gp,U⟩
     |panic F0=>exact ⟨aa.mono ai,aN,gp,U⟩
     |outgrown=>exact ⟨aa.mono ai,aN,gp,U⟩
   · exact h.elim
 |cond A B KM KN=>
   intro c K e a w an aj h
   simp only[D] at h
   split at h
   · rename_i o x y
     have ai:∀d,d∈writes x→d∈writes (.cond o x y):=fun d aE=>by simp[writes,aE]
     have bA:∀d,d∈writes y→d∈writes (.cond o x y):=fun d aE=>by simp[writes,aE]
     split at h
     · rename_i b aS
       refine wp_cond_split (an.a8 aS) (fun hV=> ?_) (fun hV=> ?_)
       · refine tr (KM x K e a w an (fun d aE=>aj d (ai d aE)) (h.1 hV)) ?_
         rintro ex bM aw ⟨cA,a6,gb,ag⟩
         exact ⟨cA.mono ai,a6,gb,ag⟩
       · refine tr (KN y K e a w an (fun d aE=>aj d (bA d aE)) (h.2 hV)) ?_
         rintro ex bM aw ⟨cA,a6,gb,ag⟩
         exact ⟨cA.mono bA,a6,gb,ag⟩
     · exact h.elim
   · exact h.elim
 |bT A cb=>
   intro c K e a w an aj h
   simp only[D] at h
   split at h
   · rename_i id b
     refine wp_block (tr (cb b _ e a w an aj h) ?_)
     rintro ex bp af ⟨aa,aN,gp,U⟩
     cases ex with
     |exit zq=>
       simp only[Exit.inBlock]
       by_cases p0:zq=id
       · subst p0
         simp only[Nat.beq_refl,cond_true] at U
         rw[if_pos rfl]
         exact ⟨aa,aN,gp,U⟩
       · have:Nat.beq zq id=false:=by
           cases afh:Nat.beq zq id
           · rfl
           · exact absurd (kV afh) p0
         simp only[this,cond_false] at U
         rw[if_neg p0]
         exact ⟨aa,aN,gp,U⟩
     |normal=>exact ⟨aa,aN,gp,U⟩
     |goto l=>exact ⟨aa,aN,gp,U⟩
     |ret=>exact ⟨aa,aN,gp,U⟩
     |panic F0=>exact ⟨aa,aN,gp,U⟩
     |outgrown=>exact ⟨aa,aN,gp,U⟩
   · exact h.elim
 |loop live l0 A cb=>
   intro c K e a w an aj h
   simp only[D] at h
   split at h
   · rename_i b
     cases iz:B1 l0 (writes b) with
     |false=>rw[iz] at h;exact h.elim
     |true=>
       rw[iz] at h
       obtain ⟨I,μ,bP,afi⟩:=h
       refine wp_loop (fun a' J=>ez (writes b) a a'∧iq.app live I (fun s=>a'.tmps[s]?) J) (fun a' J=>mB live μ (fun s=>a'.tmps[s]?) J)
         ⟨.refl _ _,Sz (fun s v ar=>an.get s v ar) bP⟩ ?_
       rintro bp af ⟨aa,xm⟩
       obtain ⟨el,ar,KO⟩:=SA afi xm
       refine tr (cb b _ _ bp af (SD an aa iz ar) (fun d aE=>by rw[aa.size];exact aj d aE) KO) ?_
       rintro ex bM aw ⟨cA,a6,gb,ag⟩
       cases ex with
       |normal=>
         obtain ⟨aZ,a7⟩:=SB (g':=fun s=>bM.tmps[s]?) (fun s v ar=>gb.get s v ar) ag
         exact ⟨⟨aa.trans cA,aZ⟩,a7⟩
       |exit id=>exact ⟨aa.trans cA,a6,gb,ag⟩
       |goto l=>exact ⟨aa.trans cA,a6,gb,ag⟩
       |ret=>exact ⟨aa.trans cA,a6,gb,ag⟩
       |panic F0=>exact ⟨aa.trans cA,a6,gb,ag⟩
       |outgrown=>exact ⟨aa.trans cA,a6,gb,ag⟩
   · exact h.elim
 |hM live l0 A cb=>
   intro c K e a w an aj h
   simp only[D] at h
   cases iz:B1 l0 (writes c) with
   |false=>rw[iz] at h;exact h.elim
   |true=>
     rw[iz] at h
     simp only[cond_true] at h
     have h:=h.out
     refine tr (cb c _ e a w an aj h) ?_
     rintro ex bp af ⟨aa,aN,gp,U⟩
     cases ex with
     |normal=>
       obtain ⟨el,ar,KO⟩:=Sy U
       exact ⟨aa,_,SD an aa iz (fun s v h=>gp.get s v (ar s v h)),KO⟩
     |exit id=>exact ⟨aa,aN,gp,U⟩
     |goto l=>exact ⟨aa,aN,gp,U⟩
     |ret=>exact ⟨aa,aN,gp,U⟩
     |panic F0=>exact ⟨aa,aN,gp,U⟩
     |outgrown=>exact ⟨aa,aN,gp,U⟩
def xn (P:Program) (bc:TypeId→gB):List ResultVar→Env→World→(List Value→Prop)→Prop
 | [],_,_,K=>K []
 | .tmp t::r,e,w,K=>match e.get t with
   |some v=>xn P bc r e w fun vs=>K (v::vs)
   |none=>False
 | .cell t T::r,e,w,K=>match e.get t with
   |some (.pointer (some A))=>y_ P bc T A w fun v=>xn P bc r e w fun vs=>K (v::vs)
   |_=>False
def F1:List Value→Value
 | [v]=>v
 |vs=> .tuple vs.toArray
def afj (P:Program) (bc:TypeId→gB) (rs:List ResultVar) (R:Value→World→Prop) (x:Exit) (e:Env) (w:World):Prop:=
 match x with
 | .normal=>xn P bc rs e w fun vs=>R (F1 vs) w
 | .ret=>xn P bc rs e w fun vs=>R (F1 vs) w
 |_=>False
def B2:Nat→List Value→Env
 |_,[]=> []
 |i,v::vs=>(i,v)::B2 (i+1) vs
def KP (P:Program) (bc:TypeId→gB) (A:bn) (fn:Func) (args:List Value) (w:World) (R:Value→World→Prop):Prop:=
 match fn.body with
 |some c=>D P bc A c (afj P bc fn.results.toList R) (B2 0 args) w
 |none=>False
def KQ (fn:Func) (n:Nat):Bool:=
 match fn.body with
 |some c=>(writes c).all (fun d=>Nat.blt d fn.ntmps)&&Nat.ble n fn.ntmps
 |none=>false
theorem SE:∀ {vs:List Value} {i s:Nat} {v:Value},(B2 i vs).get s=some v→i≤s∧vs[s-i]? =some v
 | [],_,_,_,h=>by cases h
 |u::vs,i,s,v,h=>by
   simp only[B2] at h
   rw[xb] at h
   by_cases aa:i=s
   · subst aa
     rw[if_pos rfl] at h
     simpa using h
   · rw[if_neg aa] at h
     obtain ⟨U,ag⟩:=SE h
     refine ⟨by omega,?_⟩
     rw[show s-i=(s-(i+1))+1 by omega]
     simpa using ag
def B3 (tmps:Array Value) (r:ResultVar):Sem Value:=
 match r with
 | .tmp t=>pure (tmps.getD t undef)
 | .cell x t=>do loadVar t (←asAddr (tmps.getD x undef))
theorem F2 {a:Act}:∀ {rs:List ResultVar} {e:Env} {w:World} {K:List Value→Prop},ec e a→xn P bc rs e w K→
   ∃vs,(rs.mapM (B3 a.tmps)).run P w= .ok vs w∧K vs
 | [],_,_,_,_,h=>⟨[],by simp,h⟩
 | .tmp t::r,e,w,K,an,h=>by
   simp only[xn] at h
   split at h
   · rename_i v ao
     obtain ⟨vs,jF,aT⟩:=F2 an h
     refine ⟨v::vs,?_,aT⟩
     have bt:a.tmps.getD t undef=v:=by simp[Array.getD_eq_getD_getElem?,an.get _ _ ao]
     simp only[List.mapM_cons,B3,Sem.run_bind,Sem.run_pure,Result.andThen,bt]
     rw[jF]
   · exact h.elim
 | .cell t T::r,e,w,K,an,h=>by
   simp only[xn] at h
   split at h
   · rename_i A ao
     obtain ⟨v,aC,h⟩:=RX h
     obtain ⟨vs,jF,aT⟩:=F2 an h
     refine ⟨v::vs,?_,aT⟩
     have bt:a.tmps.getD t undef= .pointer (some A):=by simp[Array.getD_eq_getD_getElem?,an.get _ _ ao]
     have EW:(loadVar T A).run P w= .ok v w:=by simpa[Instr.loadAt,Instr.sureAddr] using aC
     simp only[List.mapM_cons,B3,Sem.run_bind,Sem.run_pure,Result.andThen,bt,asAddr,EW]
     rw[jF]
   · exact h.elim
theorem SF {fn:Func} {tmps:Array Value} {w:World} {vs:List Value}
   (h:(fn.results.toList.mapM (B3 tmps)).run P w= .ok vs w):
   (results fn tmps).run P w= .ok (F1 vs) w:=by
 have aN:results fn tmps=(do let vs ←fn.results.mapM (B3 tmps);pure (if h:vs.size=1 then vs[0] else .tuple vs)):=rfl
 rw[aN,Array.mapM_eq_mapM_toList]
 simp only[Sem.run_bind,Sem.run_map]
 rw[h]
 simp only[Result.andThen,Sem.run_pure]
 congr 1
 match vs with
 | []=>rfl
 | [v]=>rfl
 |u::v::vs=>simp[F1]
theorem afk {f:FuncId} {fn:Func} {A:bn} {args:List Value} {w:World} {R:Value→World→Prop} (hm:P.follows .mixedOrders=true)
   (aL:P.funcs[f]? =some fn) (gE:KQ fn args.length=true) (h:KP P bc A fn args w R):
   Calls P f args.toArray w fun e J=>∃v,e= .returned v∧R v J:=by
 unfold KP at h
 unfold KQ at gE
 cases rf:fn.body with
 |none=>rw[rf] at h;exact h.elim
 |some c=>
   rw[rf] at h gE
   simp only[fy] at h gE
   obtain ⟨hw,aD⟩:=gE
   have oM:=C2 aD
   refine calls_of_wp aL rf ?_
   have eB:(args.toArray++Array.replicate (fn.ntmps-args.toArray.size) undef).size=fn.ntmps:=by simp;omega
   have an:ec (B2 0 args) {tmps:=args.toArray++Array.replicate (fn.ntmps-args.toArray.size) undef,defers:=[]}:=by
     constructor
     intro s v ar
     obtain ⟨_,ag⟩:=SE ar
     simp only[Nat.sub_zero] at ag
     have aR:s<args.length:=(xM.1 ag).1
     simp[Array.getElem?_append,aR]
     rw[gY aR] at ag
     exact Option.some.inj ag
   refine tr (afg hm A c _ _ _ w an (fun d aE=> ?_) h) ?_
   · have U:=sa.1 hw d aE
     have ag:=C2 U
     show d<(args.toArray++Array.replicate (fn.ntmps-args.toArray.size) undef).size
     rw[eB]
     omega
   · rintro x a' J ⟨aa,dh,iU,aT⟩
     have aE:a'.defers=[]:=aa.defers
     cases x with
     |normal=>
       obtain ⟨vs,jF,j5⟩:=F2 iU aT
       exact ⟨aE,_,SF jF,_,rfl,j5⟩
     |ret=>
       obtain ⟨vs,jF,j5⟩:=F2 iU aT
       exact ⟨aE,_,SF jF,_,rfl,j5⟩
     |exit id=>exact aT.elim
     |goto l=>exact aT.elim
     |panic F0=>exact aT.elim
     |outgrown=>exact aT.elim
end
end bD
namespace bD
open Go Go.ChangeShapes Go.WideShapes Go.ChangeAt Go.RowKit
def iK (P:Program) (w:World):Nat→TypeId→List Value→Prop
 |0,_,_=>False
 |fuel+1,t,cs=>
   match P.underlying t with
   |some .bool=>∃b:Bool,cs=[.bool b]
   |some (.int k)=>∃n:Int,cs=[.int k n]∧k.min≤n∧n≤k.max
   |some .string=>∃s:ByteArray,cs=[.string s]∧s.size≤maxLen
   |some (.slice e)=>∃s:ah,cs=[.slice s.a s.len s.cap]∧s.len≤s.cap∧s.cap≤maxLen∧(s.a=none→s.cap=0)∧
       ∀a,s.a=some a→∀i,i<s.cap→∃vs,cn w (a.add (i*P.cellsOf e)) 0 (P.cellsOf e)=some vs∧iK P w fuel e vs
   |some (.struct fs)=>cs.length=P.cellsOf t∧∀f∈fs,iK P w fuel f.type ((cs.drop f.offset).take (P.cellsOf f.type))
   |some (.array n e)=>cs.length=P.cellsOf t∧∀i,i<n→iK P w fuel e ((cs.drop (i*P.cellsOf e)).take (P.cellsOf e))
   |some (.pointer e)=>cs=[.pointer none]∨∃a vs,cs=[.pointer (some a)]∧cn w a 0 (P.cellsOf e)=some vs∧iK P w fuel e vs
   |_=>True
theorem mapM_some {α β:Type} {f:α→Option β}:∀ {l:List α} {r:List β},l.mapM f=some r→∀x∈l,∃y,f x=some y
 | [],_,_,_,ai=>by cases ai
 |a::l,r,h,x,ai=>by
   simp only[List.mapM_cons] at h
   cases aI:f a with
   |none=>simp[aI] at h
   |some b=>
     cases aC:l.mapM f with
     |none=>simp[aI,aC] at h
     |some kN=>
       rcases fc.1 ai with rfl|ai
       · exact ⟨b,aI⟩
       · exact mapM_some aC x ai
theorem SG {w:World} {a:Addr}:∀ (n i:Nat) (vs:List Value),((List.range' i n).mapM fun j=>w.cell? (a.add j))=some vs→cn w a i n=some vs
 |0,i,vs,h=>by simp at h;simp[cn,h]
 |n+1,i,vs,h=>by
   simp only[List.range'_succ,List.mapM_cons] at h
   cases U:w.cell? (a.add i) with
   |none=>simp[U] at h
   |some v=>
     cases ag:((List.range' (i+1) n).mapM fun j=>w.cell? (a.add j)) with
     |none=>simp[U,ag] at h
     |some us=>
       simp[U,ag] at h
       have:=SG n (i+1) us ag
       simp[cn,U,this,h]
theorem SH {w:World} {base:Nat} {a:Addr} {n:Nat} {vs:List Value} (h:w.cells? base a n=some vs):cn w a 0 n=some vs:=by
 unfold World.cells? at h
 split at h
 · rw[List.range_eq_range'] at h
   exact SG n 0 vs h
 · cases h
section
variable {H:Type} {enc:TypeId×Value→H} {P:Program} {w:World}
theorem B4:∀ (fuel:Nat) (t:TypeId) (cs:List Value) (x:DataW H×List MemPlace),DataW.trod enc P w 0 (fun _=>true) true fuel t cs=some x→iK P w fuel t cs
 |0,_,_,_,h=>by cases h
 |fuel+1,t,cs,x,h=>by
   simp only[DataW.trod] at h
   simp only[iK]
   cases bt:P.underlying t with
   |none=>trivial
   |some d=>
     rw[bt] at h
     cases d<;>try trivial
     case bool=>
       match cs,h with
       | [.bool b],_=>exact ⟨b,rfl⟩
     case int k=>
       match cs,h with
       | [.int en n],h=>
         simp only at h
         split at h
         · rename_i aa
           obtain ⟨rfl,hw⟩:=aa
           exact ⟨n,rfl,by simpa[Lit.wf] using hw⟩
         · cases h
     case string=>
       match cs,h with
       | [.string s],h=>
         simp only at h
         split at h
         · rename_i aa;exact ⟨s,rfl,aa⟩
         · cases h
     case pointer e=>
       match cs,h with
       | [.pointer none],_=>exact .inl rfl
       | [.pointer (some a)],h=>
         simp only[Option.map_eq_some_iff] at h
         obtain ⟨y,bA,_⟩:=h
         obtain ⟨vs,U,ag⟩:=Option.bind_eq_some_iff.1 bA
         exact .inr ⟨a,vs,rfl,SH U,B4 fuel e vs _ ag⟩
     case slice e=>
       match cs,h with
       | [.slice none 0 0],_=>exact ⟨⟨none,0,0⟩,rfl,b6 _,ei _,(fun _=>rfl),(fun a aI=>by cases aI)⟩
       | [.slice (some a) len cap],h=>
         simp only at h
         split at h
         · rename_i aa
           refine ⟨⟨some a,len,cap⟩,rfl,aa.2.1,aa.2.2,(fun bP=>by cases bP),fun a' kf i hi=> ?_⟩
           obtain ⟨elems,he,h⟩:=Option.bind_eq_some_iff.1 h
           simp only[if_true,Option.map_eq_some_iff] at h
           obtain ⟨rest,aJ,_⟩:=h
           cases kf
           have key:∃y,((w.cells? 0 (a.add (i*P.cellsOf e)) (P.cellsOf e)).bind (DataW.trod enc P w 0 (fun _=>true) true fuel e))=some y:=by
             rcases gK i len with aC|aC
             · exact mapM_some he i (qp.2 aC)
             · obtain ⟨y,bA⟩:=mapM_some aJ (i-len) (qp.2 (by simp only at hi;omega))
               rw[show len+(i-len)=i by omega] at bA
               exact ⟨y,bA⟩
           obtain ⟨y,bA⟩:=key
           obtain ⟨vs,U,ag⟩:=Option.bind_eq_some_iff.1 bA
           exact ⟨vs,SH U,B4 fuel e vs _ ag⟩
         · cases h
     case struct fs=>
       simp only at h
       split at h
       · rename_i aC
         refine ⟨aC,fun f aL=> ?_⟩
         simp only[Option.map_eq_some_iff] at h
         obtain ⟨ys,bA,_⟩:=h
         obtain ⟨y,bA⟩:=mapM_some bA f (by simpa using aL)
         exact B4 fuel _ _ _ bA
       · cases h
     case array n e=>
       simp only at h
       split at h
       · rename_i aC
         refine ⟨aC,fun i hi=> ?_⟩
         simp only[Option.map_eq_some_iff] at h
         obtain ⟨ys,bA,_⟩:=h
         obtain ⟨y,bA⟩:=mapM_some bA i (qp.2 hi)
         exact B4 fuel _ _ _ bA
       · cases h
def tj (P:Program) (w:World) (t:TypeId) (v:Value):Prop:=
 match P.underlying t with
 |some (.struct _)=>∃cs:Array Value,v= .agg cs∧∃fuel,iK P w fuel t cs.toList
 |some (.array _ _)=>∃cs:Array Value,v= .agg cs∧∃fuel,iK P w fuel t cs.toList
 |_=>∃fuel,iK P w fuel t [v]
theorem RB {r:Reach} {mh:Nat} {t:TypeId} {v:Value} {d:DataW H} {ct:List MemPlace} (nT:Value.okWide P w r mh t v)
   (aE:DataW.Trod enc P w 0 (fun _=>true) true t v d ct):tj P w t v:=by
 obtain ⟨fuel,aE⟩:=aE
 have U:=B4 fuel t _ _ aE
 unfold tj
 unfold Value.okWide at nT
 have afl:(∀cs,v≠ .agg cs)→v.cells.toList=[v]:=fun h=>by cases v<;>first|rfl|exact absurd rfl (h _)
 cases bt:P.underlying t with
 |none=>
   rw[bt] at nT
   cases fuel with
   |zero=>cases aE
   |succ f=>exact ⟨1,by simp[iK,bt]⟩
 |some afm=>
   rw[bt] at nT
   cases afm
   case struct fs=>obtain ⟨cs,rfl,_,_⟩:=nT;exact ⟨cs,rfl,fuel,U⟩
   case array n e=>obtain ⟨cs,rfl,_,_⟩:=nT;exact ⟨cs,rfl,fuel,U⟩
   all_goals
     refine ⟨fuel,?_⟩
     rw[←afl]
     · exact U
     · rintro cs rfl
       simp[Cell.okWide,Cell.ok,bt] at nT
theorem SI {w J:World} (h:aq (fun _=>False) w J):Below w.heap.size w J:=
 ⟨h.os,h.tape,h.output,h.size,fun k aa=>h.block k aa (fun h=>h)⟩
theorem aeu {f:Func} {s:ChangeSpec} {apart fresh handsOn again:Bool} {W p8:World} {args:Array Value} {T:TypeId} {bG gs:List (DataW H)} {before pa m8:List MemPlace}
   (fQ:DataW.Whole enc P f.params.toList s.vars apart W args.toList bG gs before) (aV:P.underlying T=some .bool) (yr:f.resultTypes= #[T])
   (ar:s.fn H (bG++gs)={results:=[.lit (.bool true)],args:=bG})
   (RA:∀sp:Nat→Bool,(∀p∈before,sp p.block=true)→DataW.TrodAll enc P p8 0 sp true f.params.toList args.toList bG pa)
   (afn:∀sp:Nat→Bool,(∀p∈before,sp p.block=true)→DataW.TrodVars enc P p8 sp s.vars [] m8)
   (tT:before=pa++m8) (aj:aq (fun _=>False) W p8):
   s.post enc P f apart fresh handsOn again W args (.bool true) p8:=by
 have ff:=SI aj
 have aR:∀p∈before,p.block<W.heap.size:=fun p aU=>fQ.lt p aU
 have hold:∀p∈before,(fun b=>decide (b<W.heap.size)) p.block=true:=fun p aU=>by simpa using aR p aU
 have aJ:∀ (b:Nat) (sp:Nat→Bool) (aE:Bool),DataW.TrodAll enc P p8 b sp aE f.resultTypes.toList ((Value.bool true).resultList f.resultTypes.size) (s.fn H (bG++gs)).results []:=by
   intro b sp aE
   rw[ar,yr]
   exact trodAll_cons_mk (shut_bool aV true) trodAll_mk0
 have aI:∀sp:Nat→Bool,(∀p∈before,sp p.block=true)→DataW.TrodAll enc P p8 0 sp true f.params.toList args.toList (s.fn H (bG++gs)).args pa:=by
   intro sp rh
   rw[ar]
   exact RA sp rh
 have ao:∀sp:Nat→Bool,(∀p∈before,sp p.block=true)→DataW.TrodVars enc P p8 sp s.vars (s.fn H (bG++gs)).vars m8:=by
   intro sp rh
   rw[ar]
   exact afn sp rh
 refine ⟨bG,gs,before,[],pa,m8,fQ,aJ _ _ _,aI _ hold,ao _ hold,World.keptBut_mono (fun p aU=>⟨aU,?_⟩) (ff.frame (· ∈before)),fun _=> ?_⟩
 · rw[tT,hD] at aU
   exact Or.inr aU
 · obtain ⟨_,_,_,_,_,cc,aD⟩:=fQ
   refine ⟨ok_one yr rfl (okWide_bool_mk aV _),_,_,([]++pa)++m8,⟨[]++pa,m8,trodAll_append (aI _ (fun _ _=>rfl)) (aJ _ _ _),ao _ (fun _ _=>rfl),rfl,?_,?_⟩,?_⟩
   · intro b off aU
     have g3:MemPlace.cell b off∈before:=by rw[tT];simpa using aU
     rw[ff.frozen (aR _ g3)]
     exact cc b off g3
   · intro afo
     have:=aD afo
     rw[tT] at this
     simpa using this
   · intro p aU _
     rw[tT]
     simpa using aU
theorem RC {t:TypeId} (aC:laidOutB P=true) (aJ:P.readableRec t=true) (KE:t<P.types.size) {W p8:World} {v:Value} {d:DataW H} {ct:List MemPlace} {sp:Nat→Bool}
   (h:DataW.Trod enc P W 0 (fun _=>true) true t v d ct) (aj:aq (fun _=>False) W p8) (aR:∀x∈ct,x.block<W.heap.size) (ar:∀p∈ct,sp p.block=true):
   DataW.Trod enc P p8 0 sp true t v d ct:=
 WideElems.Trod_stays aC aJ KE h (fun x ai=>(SI aj).same (aR x ai)) ar
end
end bD
namespace bD
open Go Go.RowKit
def aM (P:Program) (f:FuncId) (args:Array Value) (w:World) (Q:Value→World→Prop):Prop:=
 Calls P f args w fun e af=>∃v,e= .returned v∧Q v af
theorem aM.use {P:Program} {f:FuncId} {args:Array Value} {w:World} {Q:Value→World→Prop} {R:Ending→World→Prop}
   (h:aM P f args w Q) (k:∀v J,Q v J→R (.returned v) J):Calls P f args w R:=
 Calls.mono h fun _ _ ⟨v,ao,ae⟩=>by subst ao;exact k v _ ae
theorem aM.mono {P:Program} {f:FuncId} {args:Array Value} {w:World} {Q R:Value→World→Prop}
   (h:aM P f args w Q) (k:∀v J,Q v J→R v J):aM P f args w R:=
 aM.use h fun v _ ae=>⟨v,rfl,k _ _ ae⟩
abbrev Ext (w J:World):Prop:=aq (fun _=>False) w J
theorem aq.hU {W:Nat→Prop} {w J:World} (h:Ext w J):aq W w J:=aq.mono h fun _ _ h=>h.elim
theorem aq.drew {W:Nat→Prop} {w J:World} (h:aq W w J):aq W w J.drew:=⟨h.os,h.tape,h.output,h.size,h.block⟩
theorem aq.alloc {W:Nat→Prop} {w J:World} (h:aq W w J) (o:Obj):aq W w (J.alloc o):=
 h.trans ⟨rfl,rfl,rfl,by simp,fun k aa _=>Below.heap_alloc _ _ _ aa⟩
theorem aq.set {W:Nat→Prop} {w J:World} (h:aq W w J) {A:Addr} (aj:A.block<w.heap.size→W A.block) (v:Value):aq W w (J.setCell A v):=
 ⟨h.os,h.tape,h.output,by simp only[World.setCell,Array.size_modify];exact h.size,fun k aa fQ=>by
   rw[Below.heap_setCell _ _ _ _ (fun e=>fQ (by subst e;exact aj aa))];exact h.block k aa fQ⟩
theorem aq.setCells {W:Nat→Prop} {w:World} {A:Addr} (aj:A.block<w.heap.size→W A.block):∀ (vs:List Value) (i:Nat) {J:World},aq W w J→aq W w (setCells J A i vs)
 | [],_,_,h=>h
 |v::vs,i,J,h=>by
   have l7:(A.add i).block=A.block:=by unfold Addr.add;split<;>rfl
   exact aq.setCells aj vs (i+1) (aq.set h (by rw[l7];exact aj) v)
theorem Ze (w:World):w.drew.heap=w.heap:=rfl
theorem a_ (b o n:Nat):(Addr.mk b o none).add n=⟨b,o+n,none⟩:=by
 unfold Addr.add;split
 · rename_i h;subst h;rfl
 · rfl
def bQ (w:World) (b:Nat) (c:Array Value) (T:TypeId):Prop:=w.heap[b]? =some (.cells c T (0,0))
section
variable {w J:World} {b i:Nat} {c:Array Value} {T:TypeId}
theorem bQ.lt (h:bQ w b c T):b<w.heap.size:=(qu.1 h).1
theorem bQ.cell (h:bQ w b c T) (i:Nat):w.cell? ⟨b,i,none⟩=c[i]? :=by
 unfold bQ at h
 simp[World.cell?,h]
theorem bQ.frozen (h:bQ w b c T) (A:Addr) (an:A.block=b):w.frozen? A=false:=by
 unfold bQ at h
 simp[World.frozen?,an,h]
theorem bQ.aB {W:Nat→Prop} (h:bQ w b c T) (ak:aq W w J) (aj:¬W b):bQ J b c T:=by
 have aC:=h.lt
 unfold bQ at h⊢
 rw[ak.block b aC aj];exact h
theorem bQ.ext (h:bQ w b c T) (ak:Ext w J):bQ J b c T:=h.aB ak id
theorem bQ.drew (h:bQ w b c T):bQ w.drew b c T:=h
theorem bQ.new (w:World) (c:Array Value) (T:TypeId):bQ (w.alloc (.cells c T)) w.heap.size c T:=by
 show (w.heap.push (.cells c T))[w.heap.size]? =some (.cells c T (0,0))
 simp
theorem bQ.set (h:bQ w b c T) (i:Nat) (v:Value):bQ (w.setCell ⟨b,i,none⟩ v) b (c.setIfInBounds i v) T:=by
 unfold bQ at h⊢
 simp[World.setCell,C1,h]
theorem bQ.inj {oG:Array Value} {uD:TypeId} (h:bQ w b c T) (ga:bQ w b oG uD):c=oG∧T=uD:=by
 unfold bQ at h ga
 rw[h] at ga
 simpa using ga
def kv (c:Array Value) (i:Nat):List Value→Array Value
 | []=>c
 |v::vs=>kv (c.setIfInBounds i v) (i+1) vs
theorem xX:∀ (vs:List Value) (c:Array Value) (i:Nat),(kv c i vs).size=c.size
 | [],_,_=>rfl
 |v::vs,c,i=>by simp[kv,xX vs]
theorem bQ.C4:∀ (vs:List Value) {w:World} {c:Array Value} (i j:Nat),bQ w b c T→bQ (setCells w ⟨b,i,none⟩ j vs) b (kv c (i+j) vs) T
 | [],_,_,_,_,h=>h
 |v::vs,w,c,i,j,h=>by
   simp only[setCells,kv,a_]
   have:=bQ.C4 vs i (j+1) (h.set (i+j) v)
   rw[show i+(j+1)=i+j+1 by omega] at this
   exact this
theorem bQ.gZ (h:bQ w b c T) (i:Nat) (vs:List Value) (aD:i+vs.length≤c.size) (aU:∀v∈vs,Plain v):bW w ⟨b,i,none⟩ vs:=by
 refine ⟨fun j bu=> ?_,aU⟩
 rw[a_,h.cell,h.frozen _ rfl]
 have:i+j<c.size:=by omega
 simp[this]
end
theorem ya {B:(World→Prop)→Prop} {rest:World→Prop} (φ:World→Prop) (U:∀k:World→Prop,(∀w,φ w→k w)→B k) (ag:∀w,φ w→rest w):br B rest:=⟨U rest ag⟩
theorem dU {τ:Type} {B:(τ→World→Prop)→Prop} {rest:τ→World→Prop} (φ:τ→World→Prop) (U:∀k:τ→World→Prop,(∀x w,φ x w→k x w)→B k) (ag:∀x w,φ x w→rest x w):br B rest:=⟨U rest ag⟩
theorem adI {τ σ:Type} {B:(τ→σ→World→Prop)→Prop} {rest:τ→σ→World→Prop} (φ:τ→σ→World→Prop) (U:∀k:τ→σ→World→Prop,(∀x y w,φ x y w→k x y w)→B k) (ag:∀x y w,φ x y w→rest x y w):br B rest:=⟨U rest ag⟩
theorem aes.of {P:Program} {w:World} {T:TypeId} {k:IntKind} {v:Value} (h:tj P w T v) (aV:P.underlying T=some (.int k)):∃n:Int,v= .int k n∧k.min≤n∧n≤k.max:=by
 simp only[tj,aV] at h
 obtain ⟨fuel,h⟩:=h
 cases fuel with
 |zero=>cases h
 |succ f=>
   simp only[iK,aV] at h
   obtain ⟨n,aD,U,ag⟩:=h
   exact ⟨n,by simpa using aD,U,ag⟩
theorem OP {n:Int} (bP:IntKind.u8.min≤n) (U:n≤IntKind.u8.max):0≤n∧n≤255:=by
 simpa[IntKind.min,IntKind.max,IntKind.signed,IntKind.bits] using And.intro bP U
theorem aed {n:Int} (bP:IntKind.i64.min≤n) (U:n≤IntKind.i64.max): -9223372036854775808≤n∧n≤9223372036854775807:=by
 simpa[IntKind.min,IntKind.max,IntKind.signed,IntKind.bits] using And.intro bP U
theorem b3 {n:Int} (bP: -9223372036854775808≤n) (U:n≤9223372036854775807):IntKind.i64.wrap n=n:=by
 by_cases h:0≤n
 · exact Kl h U
 · have e:n%18446744073709551616=n+18446744073709551616:=by omega
   simp[IntKind.wrap,IntKind.signed,IntKind.bits,e]
   omega
end bD
namespace bD
open Go Go.RowKit
structure Src (sz:Nat) (w:World) (x:ah) (xs:List Value):Prop where
 len:xs.length=x.len*sz
 nil:x.a=none→xs=[]
 rd:∀a,x.a=some a→cn w a 0 (x.len*sz)=some xs
def aY (sz:Nat) (T:TypeId) (w:World) (s:ah) (vs:List Value):Prop:=
 vs.length=s.len*sz∧s.len≤s.cap∧s.cap≤maxLen∧
 ((s.a=none∧s.cap=0)∨∃b c,s.a=some ⟨b,0,none⟩∧bQ w b c T∧c.size=s.cap*sz∧c.toList.take (s.len*sz)=vs)
def aH (s:ah) (k:Nat):Prop:=∃A,s.a=some A∧A.block=k
theorem B5 {w:World} {A:Addr}:∀ {n i:Nat} {vs:List Value},cn w A i n=some vs→vs.length=n
 |0,_,_,h=>by simp[cn] at h;simp[←h]
 |n+1,i,vs,h=>by
   simp only[cn] at h
   cases U:w.cell? (A.add i) with
   |none=>simp[U] at h
   |some v=>
     cases ag:cn w A (i+1) n with
     |none=>simp[U,ag] at h
     |some us=>
       simp only[U,ag,Option.some.injEq] at h
       subst h
       simp[B5 ag]
theorem xW {w:World} {b:Nat} {c:Array Value} {T:TypeId} (h:bQ w b c T):∀ (n o i:Nat),o+i+n≤c.size→cn w ⟨b,o,none⟩ i n=some ((c.toList.drop (o+i)).take n)
 |0,o,i,_=>by simp[cn]
 |n+1,o,i,aD=>by
   have U:o+i<c.size:=by omega
   have cb:=xW h n o (i+1) (by omega)
   simp only[cn,a_,h.cell,cb]
   have ag:c[o+i]? =some c[o+i]:=by simp[U]
   rw[ag]
   simp only[Option.some.injEq]
   have aA:c.toList.drop (o+i)=c[o+i]::c.toList.drop (o+i+1):=by
     rw[r9 (by simpa using U)]
     simp
   rw[aA]
   simp[Nat.add_assoc]
theorem aY.src {sz:Nat} {T:TypeId} {w:World} {s:ah} {vs:List Value} (h:aY sz T w s vs):Src sz w s vs:=by
 obtain ⟨U,ag,aA,aK⟩:=h
 refine ⟨U,fun aD=> ?_,fun a aI=> ?_⟩
 · rcases aK with ⟨_,ak⟩|⟨b,c,aj,_⟩
   · have:s.len=0:=by omega
     rw[this,xU] at U
     exact tE.1 U
   · rw[aD] at aj;cases aj
 · rcases aK with ⟨aD,_⟩|⟨b,c,aj,eu,ar,ao⟩
   · rw[aD] at aI;cases aI
   · rw[aj] at aI
     cases aI
     have:=xW eu (s.len*sz) 0 0 (by rw[ar];simp;exact xR _ ag)
     rw[this]
     simp[ao]
section
variable {P:Program} {w:World}
theorem C6 {sz:Nat} {x:ah} {xs:List Value} (h:Src sz w x xs):(Builtin.firstCells sz x.len (.slice x.a x.len x.cap)).run P w= .ok xs.toArray w:=by
 cases ai:x.a with
 |none=>rw[h.nil ai];rfl
 |some a=>
   simp only[Builtin.firstCells,loadCells]
   rw[run_loadCellsFrom _ _ _ _ (h.rd a ai)]
   simp
theorem SJ (tt:Nat):∀ (r c:Nat),c≤2*tt+1000→Builtin.growBy tt r c≤2*tt+1000
 |0,c,h=>h
 |r+1,c,h=>by
   simp only[Builtin.growBy]
   split
   · exact h
   · exact SJ tt r _ (by omega)
theorem afp {tt cap:Nat} (h:cap<tt):Builtin.nextslicecap tt cap≤2*tt+1000:=by
 unfold Builtin.nextslicecap
 split
 · omega
 · split
   · omega
   · exact SJ tt 4 cap (by omega)
theorem Ip {jJ:Array TypeId} {dx eU vh e:TypeId} {d:TypeDesc} {sz:Nat} {s x:ah} {xs:List Value} (bP:jJ[0]? =some eU) (U:jJ[1]? =some vh)
   (ar:P.underlying eU=some (.slice e)) (ai:P.underlying vh=some (.slice e)) (he:P.underlying e=some d) (eB:P.cellsOf e=sz) (gQ:Src sz w x xs)
   (nQ:s.len+x.len≤s.cap) (e1:∀a,s.a=some a→bW w (a.add (s.len*sz)) xs):
   Sem.run P (Builtin.append_ jJ dx #[.slice s.a s.len s.cap, .slice x.a x.len x.cap]) w=
     .ok (.slice s.a (s.len+x.len) s.cap) (match s.a with|some a=>setCells w (a.add (s.len*sz)) 0 xs|none=>w):=by
 have aL:=C6 (P:=P) gQ
 have zr:=lu (w:=w) he
 rw[eB] at zr
 cases pg:s.a with
 |none=>
   simp[Builtin.append_,bP,U,db ar,db ai,zr,Builtin.lenOf,nQ,aL]
 |some a=>
   have xY:=e1 a pg
   have:=Ad (P:=P) (A:=a.add (s.len*sz)) xs 0 w (by simpa using xY.1) xY.2
   simp[Builtin.append_,bP,U,db ar,db ai,zr,Builtin.lenOf,nQ,aL,this]
theorem run_append_grow {jJ:Array TypeId} {dx eU vh e:TypeId} {i:TypeInfo} {z:Value} {sz:Nat} {s x:ah} {xs g5:List Value} (bP:jJ[0]? =some eU) (U:jJ[1]? =some vh)
   (ar:P.underlying eU=some (.slice e)) (ai:P.underlying vh=some (.slice e)) (hi:P.info? e=some i) (aE:(P.underlying e).isSome=true) (cc:i.zero=some z) (pF:z.cells.size=sz) (eB:P.cellsOf e=sz)
   (aj:i.bytes≠0) (gQ:Src sz w x xs) (hold:Src sz w s g5) (nQ:s.cap<s.len+x.len) (pN:(2*(s.len+x.len)+1000)*i.bytes≤281474976710656):
   ∃ (ki:Nat) (rest:List Value),s.len+x.len≤ki∧ki≤maxLen∧rest.length=(ki-(s.len+x.len))*sz∧
     Sem.run P (Builtin.append_ jJ dx #[.slice s.a s.len s.cap, .slice x.a x.len x.cap]) w=
       .ok (.slice (some ⟨w.heap.size,0,none⟩) (s.len+x.len) ki) (w.drew.alloc (.cells (g5++xs++rest).toArray e)):=by
 obtain ⟨d,aE⟩:=pO _ aE
 have zr:=lu (w:=w) aE
 rw[eB] at zr
 have AK:=afp nQ
 have aD:Builtin.nextslicecap (s.len+x.len) s.cap*i.bytes≤281474976710656:=kU (xR _ AK) pN
 have akE:s.len+x.len≤281474976710656:=by
   have:s.len+x.len≤(2*(s.len+x.len)+1000)*i.bytes:=by
     have:=Nat.mul_le_mul_left (2*(s.len+x.len)+1000) (Nat.one_le_iff_ne_zero.2 aj)
     omega
   omega
 let q:Question:= .appendCap (s.len+x.len) s.cap e
 let ki:Nat:=q.cut (w.tape w.drawn q)
 have ae:q.forced=false:=rfl
 have afq:s.len+x.len≤ki:=by show s.len+x.len≤s.len+x.len+_;omega
 have afr:ki≤maxLen:=by
   show s.len+x.len+_%(2^63-(s.len+x.len))≤2^63-1
   have:=kT (w.tape w.drawn q) (y:=2^63-(s.len+x.len)) (by omega)
   omega
 have afs:Src sz w.drew x xs:=⟨gQ.len,gQ.nil,fun a aI=>by
   have:=gQ.rd a aI
   have ak:aq (fun _=>False) w w.drew:=aq.drew (.refl _ _)
   exact ak.cn (by simp) _ _ _ this⟩
 have aft:Src sz w.drew s g5:=⟨hold.len,hold.nil,fun a aI=>by
   have:=hold.rd a aI
   have ak:aq (fun _=>False) w w.drew:=aq.drew (.refl _ _)
   exact ak.cn (by simp) _ _ _ this⟩
 have aL:=C6 (P:=P) afs
 have kX:=C6 (P:=P) aft
 have afu:∀n (J:World),(askRoom n).run P J= .ok () J:=fun n J=>by unfold askRoom;split<;>rfl
 have afv:(choose q).run P w= .ok ki w.drew:=by
   show Sem.run P (.choose q .pure) w=_
   simp only[Sem.run,ae,jt,if_false]
   rfl
 have DU:=fun w:World=>wb (w:=w) hi
 refine ⟨ki,(Builtin.zeroCells z.cells (ki-(s.len+x.len))).toList,afq,afr,by simp[Builtin.zeroCells,pF],?_⟩
 have aN:¬(s.len+x.len≤s.cap):=by omega
 have a6:¬((s.len+x.len:Nat):Int)>IntKind.i64.max:=by
   simp[IntKind.max,IntKind.signed,IntKind.bits];omega
 have dk:¬(281474976710656<Builtin.nextslicecap (s.len+x.len) s.cap*i.bytes):=by omega
 have kZ:¬Builtin.nextslicecap (s.len+x.len) s.cap*i.bytes>2^48:=by simpa using dk
 unfold Builtin.append_
 simp only[List.getElem?_toArray,xV,List.getElem?_cons_succ,bP,U,Sem.run_bind,db ar,db ai,Result.andThen,zr,Builtin.lenOf,Sem.run_pure,aN,if_false,jt,DU,a6,false_and,kZ,Bool.not_false,if_true]
 have afw:Sem.run P (choose (.appendCap (s.len+x.len) s.cap e)) w= .ok ki w.drew:=afv
 simp only[afw,afu,aL,kX,zeroValue,DU,cc,Sem.run_bind,Result.andThen,Sem.run_pure,newRow,newObj,Sem.run]
 have n0:w.drew.heap.size=w.heap.size:=rfl
 rw[n0]
 congr 1
 show w.drew.alloc _=w.drew.alloc _
 congr 2
 simp
theorem C5:∀ (vs:List Value) (c:Array Value) (i:Nat),i+vs.length≤c.size→(kv c i vs).toList.take (i+vs.length)=c.toList.take i++vs
 | [],c,i,_=>by simp[kv]
 |v::vs,c,i,h=>by
   simp only[jW] at h
   simp only[kv]
   have:=C5 vs (c.setIfInBounds i v) (i+1) (by simpa using (by omega:i+1+vs.length≤c.size))
   rw[show i+(v::vs).length=i+1+vs.length by simp;omega,this]
   have hi:i<c.size:=by omega
   have ag:(c.setIfInBounds i v).toList.take (i+1)=c.toList.take i++ [v]:=by
     rw[kS (by simpa using hi)]
     have aA:(List.take i c.toList).set i v=List.take i c.toList:=by
       apply List.set_eq_of_length_le
       simp only[iv]
       omega
     simp[List.take_set,aA]
   rw[ag]
   simp
theorem afx {jJ:Array TypeId} {dx eU vh e:TypeId} {i:TypeInfo} {z:Value} {sz:Nat} {s x:ah} {xs vs:List Value} (bP:jJ[0]? =some eU) (U:jJ[1]? =some vh)
   (ar:P.underlying eU=some (.slice e)) (ai:P.underlying vh=some (.slice e)) (hi:P.info? e=some i) (aE:(P.underlying e).isSome=true) (cc:i.zero=some z) (pF:z.cells.size=sz) (eB:P.cellsOf e=sz)
   (aj:i.bytes≠0) (gQ:Src sz w x xs) (g6:aY sz e w s vs) (aU:∀v∈xs,Plain v) (pN:(2*(s.len+x.len)+1000)*i.bytes≤281474976710656):
   ∃ (ax:ah) (J:World),Sem.run P (Builtin.append_ jJ dx #[.slice s.a s.len s.cap, .slice x.a x.len x.cap]) w= .ok (.slice ax.a ax.len ax.cap) J∧
     aY sz e J ax (vs++xs)∧ax.len=s.len+x.len∧aq (aH s) w J∧(∀k,aH ax k→aH s k∨w.heap.size≤k):=by
 have hold:=g6.src
 obtain ⟨aZ,a7,bm,ca⟩:=g6
 by_cases nQ:s.len+x.len≤s.cap
 · have e1:∀a,s.a=some a→bW w (a.add (s.len*sz)) xs:=by
     intro a aI
     rcases ca with ⟨aD,_⟩|⟨b,c,rl,eu,eN,ao⟩
     · rw[aD] at aI;cases aI
     · rw[rl] at aI
       cases aI
       rw[a_]
       refine eu.gZ _ _ ?_ aU
       rw[eN,gQ.len,fX,←lr]
       exact xR _ nQ
   obtain ⟨d,aE⟩:=pO _ aE
   have jC:=Ip (dx:=dx) bP U ar ai aE eB gQ nQ e1
   refine ⟨⟨s.a,s.len+x.len,s.cap⟩,_,jC,?_,rfl,?_,fun k aa=> .inl aa⟩
   · refine ⟨by simp[aZ,gQ.len,lr],nQ,bm,?_⟩
     rcases ca with ⟨aD,ak⟩|⟨b,c,rl,eu,eN,ao⟩
     · exact .inl ⟨aD,ak⟩
     · refine .inr ⟨b,kv c (s.len*sz) xs,rl,?_,by rw[xX];exact eN,?_⟩
       · simp only[rl,a_]
         have:=bQ.C4 (T:=e) xs (0+s.len*sz) 0 eu
         simpa using this
       · have hle:s.len*sz+xs.length≤c.size:=by
           rw[eN,gQ.len,←lr]
           exact xR _ nQ
         have:=C5 xs c (s.len*sz) hle
         rw[gQ.len,←lr] at this
         rw[this,ao]
   · cases pg:s.a with
     |none=>exact .refl _ _
     |some a=>
       refine aq.setCells (fun _=> ?_) xs 0 (.refl _ _)
       exact ⟨a,pg,by unfold Addr.add;split<;>rfl⟩
 · obtain ⟨ki,rest,mP,g1,aJ,jC⟩:=run_append_grow (dx:=dx) bP U ar ai hi aE cc pF eB aj gQ hold (by omega) pN
   refine ⟨⟨some ⟨w.heap.size,0,none⟩,s.len+x.len,ki⟩,_,jC,?_,rfl,aq.alloc (aq.drew (.refl _ _)) _,?_⟩
   · refine ⟨by simp[aZ,gQ.len,lr],mP,g1, .inr ⟨w.heap.size,(vs++xs++rest).toArray,rfl,bQ.new w.drew _ _,?_,?_⟩⟩
     · simp[aZ,gQ.len,aJ]
       rw[←lr,←lr]
       congr 1
       omega
     · have:(vs++xs).length=(s.len+x.len)*sz:=by simp[aZ,gQ.len,lr]
       show List.take ((s.len+x.len)*sz) (vs++xs++rest).toArray.toList=vs++xs
       rw[←this]
       exact List.take_left
   · rintro k ⟨A,an,aa⟩
     cases an
     exact .inr (by simpa using aa▸b6 _)
end
theorem aY.aB {sz:Nat} {T:TypeId} {w J:World} {s:ah} {vs:List Value} {W:Nat→Prop} (h:aY sz T w s vs) (ak:aq W w J) (aD:∀k,aH s k→¬W k):aY sz T J s vs:=by
 obtain ⟨U,ag,aA,aK⟩:=h
 refine ⟨U,ag,aA,?_⟩
 rcases aK with aK|⟨b,c,aj,eu,eN,ao⟩
 · exact .inl aK
 · exact .inr ⟨b,c,aj,eu.aB ak (aD b ⟨_,aj,rfl⟩),eN,ao⟩
theorem Src.aB {sz:Nat} {w J:World} {s:ah} {vs:List Value} {W:Nat→Prop} (h:Src sz w s vs) (ak:aq W w J) (aD:∀k,aH s k→¬W k):Src sz J s vs:=
 ⟨h.len,h.nil,fun a aI=>ak.cn (aD _ ⟨a,aI,rfl⟩) _ _ _ (h.rd a aI)⟩
theorem aY.lt {sz:Nat} {T:TypeId} {w:World} {s:ah} {vs:List Value} (h:aY sz T w s vs):∀k,aH s k→k<w.heap.size:=by
 rintro k ⟨A,an,rfl⟩
 obtain ⟨_,_,_,aK⟩:=h
 rcases aK with ⟨aD,_⟩|⟨b,c,aj,eu,_⟩
 · rw[aD] at an;cases an
 · rw[aj] at an;cases an;exact eu.lt
theorem aY.cell {T:TypeId} {w:World} {s:ah} {vs:List Value} (h:aY 1 T w s vs) {i:Nat} {v:Value} (ao:vs[i]? =some v):
   ∃b c,s.a=some ⟨b,0,none⟩∧bQ w b c T∧c.size=s.cap∧i<s.len∧i<c.size∧w.cell? ⟨b,i,none⟩=some v∧c.toList.take s.len=vs:=by
 obtain ⟨U,ag,aA,aK⟩:=h
 have hi:i<s.len:=by
   have:=(xM.1 ao).1
   omega
 rcases aK with ⟨_,ak⟩|⟨b,c,aj,eu,eN,bt⟩
 · omega
 · rw[gJ] at eN bt
   refine ⟨b,c,aj,eu,eN,hi,by omega,?_,bt⟩
   rw[eu.cell]
   rw[←bt,List.getElem?_take] at ao
   rw[if_pos hi] at ao
   simpa using ao
theorem aY.set {T:TypeId} {w:World} {s:ah} {vs:List Value} {b i:Nat} (h:aY 1 T w s vs) (aj:s.a=some ⟨b,0,none⟩) (v:Value):
   aY 1 T (w.setCell ⟨b,i,none⟩ v) s (vs.set i v):=by
 obtain ⟨U,ag,aA,aK⟩:=h
 refine ⟨by simpa using U,ag,aA, .inr ?_⟩
 rcases aK with ⟨aD,_⟩|⟨Dh,c,jA,eu,eN,bt⟩
 · rw[aD] at aj;cases aj
 · rw[aj] at jA
   cases jA
   refine ⟨b,_,aj,eu.set i v,by simpa using eN,?_⟩
   rw[←bt]
   simp[List.take_set]
def SK (P:Program) (eU e:TypeId) (sz bytes:Nat):Bool:=
 match P.underlying eU,P.info? e,P.underlying e with
 |some (.slice dh),some i,some _=>dh==e&&(match i.zero with|some z=>z.cells.size==sz|none=>false)&&P.cellsOf e==sz&&i.bytes==bytes&&bytes !=0
 |_,_,_=>false
structure jx (P:Program) (eU e:TypeId) (sz bytes:Nat):Prop where
 h:SK P eU e sz bytes=true
theorem jx.out {P:Program} {eU e:TypeId} {sz bytes:Nat} (h:jx P eU e sz bytes):
   P.underlying eU=some (.slice e)∧∃i z,P.info? e=some i∧(P.underlying e).isSome=true∧i.zero=some z∧z.cells.size=sz∧P.cellsOf e=sz∧i.bytes=bytes∧bytes≠0:=by
 have h:=h.h
 unfold SK at h
 split at h
 · rename_i dh i d U ag aA
   simp only[fy,l3,bne_iff_ne] at h
   obtain ⟨⟨⟨⟨rfl,aK⟩,bH⟩,cg⟩,gO⟩:=h
   split at aK
   · rename_i z cc
     exact ⟨U,i,z,ag,by simp[aA],cc,by simpa using aK,bH,cg,gO⟩
   · cases aK
 · cases h
theorem jx.append {P:Program} {w:World} {eU e dx:TypeId} {sz bytes:Nat} {s x:ah} {xs vs:List Value} (h:jx P eU e sz bytes)
   (gQ:Src sz w x xs) (g6:aY sz e w s vs) (aU:∀v∈xs,Plain v) (pN:(2*(s.len+x.len)+1000)*bytes≤281474976710656):
   ∃ (ax:ah) (J:World),Sem.run P (Builtin.append_ #[eU,eU] dx #[.slice s.a s.len s.cap, .slice x.a x.len x.cap]) w= .ok (.slice ax.a ax.len ax.cap) J∧
     aY sz e J ax (vs++xs)∧ax.len=s.len+x.len∧aq (aH s) w J∧(∀k,aH ax k→aH s k∨w.heap.size≤k):=by
 obtain ⟨U,i,z,ag,aA,aK,bH,cg,rfl,gP⟩:=h.out
 exact afx rfl rfl U U ag aA aK bH cg gP gQ g6 aU pN
theorem Src.new {sz:Nat} {T:TypeId} (w:World) (xs:List Value) (n:Nat) (aD:xs.length=n*sz):Src sz (w.alloc (.cells xs.toArray T)) ⟨some ⟨w.heap.size,0,none⟩,n,n⟩ xs:=by
 refine ⟨aD,(fun h=>by cases h),fun a aI=> ?_⟩
 cases aI
 rw[xW (bQ.new w xs.toArray T) _ _ _ (by simp[aD])]
 simp[←aD]
theorem aY.new {sz:Nat} {T:TypeId} (w:World) (xs:List Value) (n:Nat) (aD:xs.length=n*sz) (hm:n≤maxLen):aY sz T (w.alloc (.cells xs.toArray T)) ⟨some ⟨w.heap.size,0,none⟩,n,n⟩ xs:=by
 refine ⟨aD,b6 _,hm, .inr ⟨_,_,rfl,bQ.new w _ _,by simp[aD],?_⟩⟩
 show List.take (n*sz) xs=xs
 rw[←aD,lp]
theorem aY.none (sz:Nat) (T:TypeId) (w:World):aY sz T w ⟨.none,0,0⟩ []:=⟨by simp,b6 _,by decide, .inl ⟨rfl,rfl⟩⟩
theorem l5 (k:Nat):¬aH ⟨.none,0,0⟩ k:=by rintro ⟨A,an,_⟩;cases an
theorem jH {A:Addr} {n m k:Nat}:aH ⟨some A,n,m⟩ k↔A.block=k:=⟨fun ⟨B,ff,h⟩=>by cases ff;exact h,fun h=>⟨_,rfl,h⟩⟩
theorem Src.alloc {sz:Nat} {w:World} {s:ah} {vs:List Value} (h:Src sz w s vs) (o:Obj):Src sz (w.alloc o) s vs:=h.aB (W:=fun _=>False) (aq.alloc (.refl _ _) o) (fun _ _ h=>h)
theorem aY.ext {sz:Nat} {T:TypeId} {w J:World} {s:ah} {vs:List Value} (h:aY sz T w s vs) (ak:Ext w J):aY sz T J s vs:=h.aB ak fun _ _ h=>h
theorem Src.ext {sz:Nat} {w J:World} {s:ah} {vs:List Value} (h:Src sz w s vs) (ak:Ext w J):Src sz J s vs:=h.aB ak fun _ _ h=>h
theorem jx.push {P:Program} {w:World} {eU e dx:TypeId} {sz bytes:Nat} {s:ah} {vs xs:List Value} (h:jx P eU e sz bytes) (ai:xs.length=sz)
   (g6:aY sz e w s vs) (aU:∀v∈xs,Plain v) (pN:(2*(s.len+1)+1000)*bytes≤281474976710656):
   ∃ (ax:ah) (J:World),Sem.run P (Builtin.append_ #[eU,eU] dx #[.slice s.a s.len s.cap, .slice (some ⟨w.heap.size,0,none⟩) 1 1]) (w.alloc (.cells xs.toArray e))= .ok (.slice ax.a ax.len ax.cap) J∧
     aY sz e J ax (vs++xs)∧ax.len=s.len+1∧aq (aH s) w J∧(∀k,aH ax k→aH s k∨w.heap.size≤k):=by
 have ak:Ext w (w.alloc (.cells xs.toArray e)):=aq.alloc (.refl _ _) _
 obtain ⟨ax,J,U,ag,aA,aK,bH⟩:=h.append (dx:=dx) (Src.new (T:=e) w xs 1 (by simpa using ai)) (g6.ext ak) aU pN
 exact ⟨ax,J,U,ag,aA,(aq.hU ak).trans aK,fun k aa=>(bH k aa).imp id (fun h=>by simp at h;omega)⟩
theorem jx.clone {P:Program} {w:World} {eU e dx:TypeId} {sz bytes:Nat} {x:ah} {xs:List Value} (h:jx P eU e sz bytes)
   (gQ:Src sz w x xs) (aU:∀v∈xs,Plain v) (pN:(2*x.len+1000)*bytes≤281474976710656):
   ∃ (ax:ah) (J:World),Sem.run P (Builtin.append_ #[eU,eU] dx #[.slice (some ⟨w.heap.size,0,none⟩) 0 0, .slice x.a x.len x.cap]) (w.alloc (.cells #[] e))= .ok (.slice ax.a ax.len ax.cap) J∧
     aY sz e J ax xs∧ax.len=x.len∧Ext w J∧(∀k,aH ax k→w.heap.size≤k)∧ax.a.isSome=true:=by
 have g6:=aY.new (sz:=sz) (T:=e) w [] 0 (by simp) (by decide)
 have SL:=gQ.alloc (.cells #[] e)
 obtain ⟨ax,J,U,ag,aA,aK,bH⟩:=h.append (dx:=dx) SL g6 aU (by simpa using pN)
 refine ⟨ax,J,U,by simpa using ag,by simpa using aA,?_,fun k aa=> ?_,?_⟩
 · refine ⟨aK.os.trans rfl,aK.tape.trans rfl,aK.output.trans rfl,?_,fun k aa _=> ?_⟩
   · have:=aK.size;simp at this;omega
   · rw[aK.block k (by simp;omega) (by rintro ⟨A,an,h⟩;cases an;simp at h;omega)]
     exact Below.heap_alloc _ _ _ aa
 · rcases bH k aa with ⟨A,an,h⟩|h
   · cases an;simp at h;omega
   · simp at h;omega
 · obtain ⟨_,i,z,yq,Bp,akF,Wt,afy,rfl,gP⟩:=h.out
   have aj:=ag.2.2.2
   rcases aj with ⟨aD,ak⟩|⟨b,c,aj,_⟩
   ·
     exfalso
     have aC:=ag.2.1
     have m3:x.len=0:=by simp at aA;omega
     have PC:xs=[]:=tE.1 (by rw[gQ.len,m3,xU])
     obtain ⟨d,aE⟩:=pO _ Bp
     have:=Ip (P:=P) (w:=w.alloc (.cells #[] e)) (jJ:= #[eU,eU]) (dx:=dx) (s:=⟨some ⟨w.heap.size,0,Option.none⟩,0,0⟩) rfl rfl h.out.1 h.out.1 aE afy SL (by simp[m3]) (fun a _=>by
       rw[PC];exact ⟨fun i hi=>by simp at hi,fun v ao=>by simp at ao⟩)
     rw[this] at U
     simp only[Result.ok.injEq,Value.slice.injEq] at U
     rw[aD] at U
     cases U.1.1
   · rw[aj];rfl
theorem Zy (k:IntKind) (ns:List Int):∀v∈ns.map (Value.int k),Plain v:=by
 intro v ao
 obtain ⟨n,_,rfl⟩:=gl.1 ao
 trivial
theorem aY.at {T:TypeId} {w:World} {s:ah} {vs:List Value} (h:aY 1 T w s vs) {i:Nat} {v:Value} (ao:vs[i]? =some v):
   ∃A:Addr,s.a=some A∧((0:Int)≤(i:Int)∧(i:Int)<((s.len:Nat):Int))∧w.cell? (A.add (Int.toNat (i:Int)*1))=some v∧w.frozen? (A.add (Int.toNat (i:Int)*1))=false∧
     aH s (A.add (Int.toNat (i:Int)*1)).block∧∀nF,aY 1 T (w.setCell (A.add (Int.toNat (i:Int)*1)) nF) s (vs.set i nF):=by
 obtain ⟨b,c,aj,eu,eN,hi,HL,ak,_⟩:=h.cell ao
 have aI:(Addr.mk b 0 Option.none).add (Int.toNat (i:Int)*1)=⟨b,i,Option.none⟩:=by rw[gJ,er,a_,fX]
 exact ⟨_,aj,⟨by omega,by omega⟩,by rw[aI];exact ak,by rw[aI];exact eu.frozen _ rfl,by rw[aI];exact ⟨_,aj,rfl⟩,fun nF=>by rw[aI];exact h.set aj nF⟩
end bD
namespace bD
open Go Go.RowKit
def SM (ns:List Int):ByteArray:=ns.foldl (fun r n=>r.push (UInt8.ofNat n.toNat)) ByteArray.empty
theorem Vv {P:Program} {w:World} {src dst e:TypeId} {s:ah} {ns:List Int} (ar:P.underlying src=some (.slice e)) (he:P.underlying e=some (.int .u8)) (aE:P.underlying dst=some .string)
   (h:Src 1 w s (ns.map (.int .u8))):Sem.run P (convert src dst (.slice s.a s.len s.cap)) w= .ok (.string (SM ns)) w:=by
 rw[run_convert_bytes_string w src dst e s.a s.len s.cap ar he aE]
 cases aI:s.a with
 |none=>
   have:=h.nil aI
   have aD:ns=[]:=by simpa using this
   subst aD
   rfl
 |some A=>
   have aJ:=h.rd A aI
   rw[gJ] at aJ
   exact run_bytesToString w A s.len s.cap ns (by
     unfold loadCells
     rw[run_loadCellsFrom _ _ _ _ aJ]
     simp)
theorem M4 {P:Program} {e:TypeId} {v:Value} (cc:((P.info? e).bind (·.zero)).map (·.cells)=some #[v]) (ak:P.cellsOf e=1) (n:Nat):jB P e n=(List.replicate n v).toArray:=by
 unfold jB
 rw[ak]
 cases hi:(P.info? e).bind (·.zero) with
 |none=>rw[hi] at cc;cases cc
 |some z=>
   rw[hi] at cc
   simp only[tG,Option.some.injEq] at cc
   simp only[zZ,cc,gJ]
   apply Array.ext
   · simp
   · intro i U ag
     have aD:n≠0:=by
       intro h;subst h;simp at ag
     simp[aD,Nat.mod_one]
structure wz (P:Program) (w:World) (e:TypeId) (s:ah):Prop where
 le:s.len≤s.cap
 cap:s.cap≤maxLen
 nil:s.a=none→s.cap=0
 cell:∀a,s.a=some a→∀i,i<s.cap→∃vs,cn w (a.add (i*P.cellsOf e)) 0 (P.cellsOf e)=some vs∧∃fuel,iK P w fuel e vs
section
variable {P:Program} {w:World} {T:TypeId} {fuel:Nat} {cs:List Value}
theorem AX {k:IntKind} (h:iK P w fuel T cs) (aV:P.underlying T=some (.int k)):∃n:Int,cs=[.int k n]∧k.min≤n∧n≤k.max:=by
 cases fuel with
 |zero=>cases h
 |succ f=>simpa only[iK,aV] using h
theorem Rr {e:TypeId} (h:iK P w fuel T cs) (aV:P.underlying T=some (.slice e)):∃s:ah,cs=[.slice s.a s.len s.cap]∧wz P w e s:=by
 cases fuel with
 |zero=>cases h
 |succ f=>
   simp only[iK,aV] at h
   obtain ⟨s,bP,U,ag,aA,aK⟩:=h
   exact ⟨s,bP,U,ag,aA,fun a aI i hi=>by
     obtain ⟨vs,bH,cg⟩:=aK a aI i hi
     exact ⟨vs,bH,f,cg⟩⟩
theorem Rp {fs:Array Field} (h:iK P w fuel T cs) (aV:P.underlying T=some (.struct fs)):cs.length=P.cellsOf T∧∀f∈fs,∃fuel,iK P w fuel f.type ((cs.drop f.offset).take (P.cellsOf f.type)):=by
 cases fuel with
 |zero=>cases h
 |succ f=>
   simp only[iK,aV] at h
   exact ⟨h.1,fun g aW=>⟨f,h.2 g aW⟩⟩
theorem wz.of {e:TypeId} {v:Value} (h:tj P w T v) (aV:P.underlying T=some (.slice e)):∃s:ah,v= .slice s.a s.len s.cap∧wz P w e s:=by
 simp only[tj,aV] at h
 obtain ⟨fuel,h⟩:=h
 obtain ⟨s,U,ag⟩:=Rr h aV
 exact ⟨s,by simpa using U,ag⟩
end
theorem x0 {w:World} {A:Addr}:∀ {n i:Nat} {vs:List Value} {j:Nat} {v:Value},cn w A i n=some vs→vs[j]? =some v→w.cell? (A.add (i+j))=some v
 |0,i,vs,j,v,h,ao=>by simp[cn] at h;subst h;simp at ao
 |n+1,i,vs,j,v,h,ao=>by
   simp only[cn] at h
   cases U:w.cell? (A.add i) with
   |none=>simp[U] at h
   |some u=>
     cases ag:cn w A (i+1) n with
     |none=>simp[U,ag] at h
     |some us=>
       simp only[U,ag,Option.some.injEq] at h
       subst h
       cases j with
       |zero=>simp at ao;subst ao;exact U
       |succ j=>
         have:=x0 ag (j:=j) (by simpa using ao)
         rw[show i+(j+1)=i+1+j by omega]
         exact this
theorem Src.at {w:World} {s:ah} {vs:List Value} (h:Src 1 w s vs) {i:Nat} {v:Value} (ao:vs[i]? =some v):
   ∃A:Addr,s.a=some A∧((0:Int)≤(i:Int)∧(i:Int)<((s.len:Nat):Int))∧w.cell? (A.add (Int.toNat (i:Int)*1))=some v:=by
 have hi:i<vs.length:=(xM.1 ao).1
 have aC:=h.len
 cases aI:s.a with
 |none=>have:=h.nil aI;subst this;simp at hi
 |some A=>
   have:=x0 (h.rd A aI) ao
   exact ⟨A,rfl,⟨by omega,by omega⟩,by rw[gJ,er];simpa using this⟩
end bD
