/- What a Go program of the model must show, as text that can be read; sound against the kit. -/
import Derived.Below
import Derived.KernelRfl
import Derived.Laws.BytesString
import Derived.OpenShut
import Derived.OrdersHeld
import Derived.ProofKit
import Derived.StillTail
import Derived.Tactics
import Derived.WalkKit
import Derived.WideKeyArgs
namespace Go
theorem cP:type_of% @Nat.le_refl:=@Nat.le_refl
theorem dL:type_of% @of_decide_eq_true:=@of_decide_eq_true
theorem ee:type_of% @List.length_take:=@List.length_take
theorem eC:type_of% @List.length_append:=@List.length_append
theorem eF:type_of% @List.append_assoc:=@List.append_assoc
theorem e3:type_of% @List.getElem_mem:=@List.getElem_mem
theorem fa:type_of% @List.mem_append:=@List.mem_append
theorem fb:type_of% @of_decide_eq_false:=@of_decide_eq_false
theorem fi:type_of% @Nat.zero_le:=@Nat.zero_le
theorem fE:type_of% @decide_eq_true_eq:=@decide_eq_true_eq
theorem fF:type_of% @List.length_drop:=@List.length_drop
theorem gg:type_of% @List.mem_cons:=@List.mem_cons
theorem gJ:type_of% @Nat.zero_add:=@Nat.zero_add
theorem gT:type_of% @List.getElem?_eq_getElem:=@List.getElem?_eq_getElem
theorem g_:type_of% @Int.toNat_natCast:=@Int.toNat_natCast
theorem hJ:type_of% @Nat.lt_or_ge:=@Nat.lt_or_ge
theorem hK:type_of% @List.length_set:=@List.length_set
theorem hU:type_of% @List.take_of_length_le:=@List.take_of_length_le
theorem ik:type_of% @decide_eq_true:=@decide_eq_true
theorem iL:type_of% @Bool.and_eq_true:=@Bool.and_eq_true
theorem jb:type_of% @Nat.le_trans:=@Nat.le_trans
theorem kp:type_of% @List.mem_of_mem_drop:=@List.mem_of_mem_drop
theorem kE:type_of% @List.mem_of_mem_take:=@List.mem_of_mem_take
theorem kF:type_of% @List.length_map:=@List.length_map
theorem ly:type_of% @Nat.lt_of_lt_of_le:=@Nat.lt_of_lt_of_le
theorem lP:type_of% @List.append_nil:=@List.append_nil
theorem lQ:type_of% @Nat.mul_one:=@Nat.mul_one
theorem lR:type_of% @List.mem_map:=@List.mem_map
theorem lS:type_of% @Bool.false_eq_true:=@Bool.false_eq_true
theorem lT:type_of% @List.mem_singleton:=@List.mem_singleton
theorem lU:type_of% @List.getElem_of_mem:=@List.getElem_of_mem
theorem lV:type_of% @List.getElem_set_ne:=@List.getElem_set_ne
theorem lW:type_of% @Bool.not_eq_true:=@Bool.not_eq_true
theorem ml:type_of% @List.not_mem_nil:=@List.not_mem_nil
theorem mm:type_of% @or_false:=@or_false
theorem mV:type_of% @List.map_append:=@List.map_append
theorem od:type_of% @List.getD_eq_getElem?_getD:=@List.getD_eq_getElem?_getD
theorem oS:type_of% @List.length_cons:=@List.length_cons
theorem oT:type_of% @Bool.eq_iff_iff:=@Bool.eq_iff_iff
theorem qH:type_of% @List.mem_append_right:=@List.mem_append_right
theorem qI:type_of% @List.take_append_drop:=@List.take_append_drop
theorem qJ:type_of% @List.getElem?_eq_some_iff:=@List.getElem?_eq_some_iff
theorem qK:type_of% @Nat.eq_of_beq_eq_true:=@Nat.eq_of_beq_eq_true
theorem ru:type_of% @List.length_singleton:=@List.length_singleton
theorem rv:type_of% @List.find?_eq_none:=@List.find?_eq_none
theorem r6:type_of% @List.nil_append:=@List.nil_append
theorem r7:type_of% @Nat.min_eq_left:=@Nat.min_eq_left
theorem r8:type_of% @Nat.mod_lt:=@Nat.mod_lt
theorem r9:type_of% @List.take_length:=@List.take_length
theorem sL:type_of% @List.take_succ_eq_append_getElem:=@List.take_succ_eq_append_getElem
theorem sM:type_of% @List.map_cons:=@List.map_cons
theorem sN:type_of% @decide_eq_false:=@decide_eq_false
theorem sO:type_of% @decide_eq_false_iff_not:=@decide_eq_false_iff_not
theorem sP:type_of% @List.getElem_set_self:=@List.getElem_set_self
theorem tH:type_of% @List.mem_filter:=@List.mem_filter
theorem tI:type_of% @List.mem_append_left:=@List.mem_append_left
theorem tJ:type_of% @List.pairwise_cons:=@List.pairwise_cons
theorem tK:type_of% @List.drop_eq_getElem_cons:=@List.drop_eq_getElem_cons
theorem tL:type_of% @List.count_pos_iff:=@List.count_pos_iff
theorem uV:type_of% @List.filter_eq_self:=@List.filter_eq_self
theorem uW:type_of% @Nat.mod_eq_of_lt:=@Nat.mod_eq_of_lt
theorem wh:type_of% @List.mem_cons_of_mem:=@List.mem_cons_of_mem
theorem wi:type_of% @List.mem_range:=@List.mem_range
theorem wj:type_of% @Bool.or_eq_true:=@Bool.or_eq_true
theorem wk:type_of% @Nat.add_mul:=@Nat.add_mul
theorem wm:type_of% @List.getElem?_append_right:=@List.getElem?_append_right
theorem wo:type_of% @List.length_nil:=@List.length_nil
theorem x8:type_of% @List.sum_append:=@List.sum_append
theorem x9:type_of% @List.mem_of_find?_eq_some:=@List.mem_of_find?_eq_some
theorem x_:type_of% @List.length_eq_zero_iff:=@List.length_eq_zero_iff
theorem ya:type_of% @Bool.not_eq_true':=@Bool.not_eq_true'
theorem yb:type_of% @beq_iff_eq:=@beq_iff_eq
theorem yc:type_of% @Option.map_some:=@Option.map_some
theorem yd:type_of% @Nat.le_succ:=@Nat.le_succ
theorem ye:type_of% @List.length_filter_le:=@List.length_filter_le
theorem yf:type_of% @List.getElem?_cons_zero:=@List.getElem?_cons_zero
theorem z1:type_of% @List.filter_eq_nil_iff:=@List.filter_eq_nil_iff
theorem z2:type_of% @List.filter_append:=@List.filter_append
theorem z6:type_of% @List.find?_some:=@List.find?_some
theorem z7:type_of% @Nat.add_zero:=@Nat.add_zero
theorem z8:type_of% @List.drop_zero:=@List.drop_zero
theorem z_:type_of% @List.getElem_append_left:=@List.getElem_append_left
theorem Aa:type_of% @Array.getElem?_eq_some_iff:=@Array.getElem?_eq_some_iff
theorem Cl:type_of% @List.pairwise_append:=@List.pairwise_append
theorem Cm:type_of% @List.perm_middle:=@List.perm_middle
theorem Cn:type_of% @List.pairwise_iff_getElem:=@List.pairwise_iff_getElem
theorem Co:type_of% @Bool.true_and:=@Bool.true_and
theorem Cp:type_of% @List.mem_or_eq_of_mem_set:=@List.mem_or_eq_of_mem_set
theorem Cq:type_of% @Nat.mul_le_mul_right:=@Nat.mul_le_mul_right
theorem Cr:type_of% @Option.isSome_iff_exists:=@Option.isSome_iff_exists
theorem Cs:type_of% @Nat.testBit_or:=@Nat.testBit_or
theorem Ct:type_of% @Nat.le_of_ble_eq_true:=@Nat.le_of_ble_eq_true
theorem EN:type_of% @List.cons_append:=@List.cons_append
theorem EO:type_of% @List.length_zip:=@List.length_zip
theorem EP:type_of% @List.map_take:=@List.map_take
theorem ER:type_of% @Nat.sub_self:=@Nat.sub_self
theorem ES:type_of% @List.getElem_append_right:=@List.getElem_append_right
theorem ET:type_of% @List.take_append_of_le_length:=@List.take_append_of_le_length
theorem EU:type_of% @List.count_append:=@List.count_append
theorem GU:type_of% @List.map_drop:=@List.map_drop
theorem GV:type_of% @List.zipWith_append:=@List.zipWith_append
theorem GW:type_of% @List.getElem_take:=@List.getElem_take
theorem GX:type_of% @UInt8.toNat_lt:=@UInt8.toNat_lt
theorem GY:type_of% @List.getElem?_map:=@List.getElem?_map
theorem GZ:type_of% @List.all_eq_true:=@List.all_eq_true
theorem G0:type_of% @Nat.sub_zero:=@Nat.sub_zero
theorem G1:type_of% @List.getElem?_eq_none:=@List.getElem?_eq_none
theorem G2:type_of% @Bool.false_or:=@Bool.false_or
theorem G3:type_of% @List.length_replicate:=@List.length_replicate
theorem G4:type_of% @List.count_cons:=@List.count_cons
theorem G5:type_of% @List.count_nil:=@List.count_nil
theorem G6:type_of% @Nat.eq_zero_or_pos:=@Nat.eq_zero_or_pos
theorem JF:type_of% @List.of_mem_zip:=@List.of_mem_zip
theorem JG:type_of% @List.exists_mem_of_ne_nil:=@List.exists_mem_of_ne_nil
theorem JH:type_of% @List.sum_cons:=@List.sum_cons
theorem JI:type_of% @List.drop_drop:=@List.drop_drop
theorem JJ:type_of% @List.perm_append_comm:=@List.perm_append_comm
theorem JK:type_of% @List.take_take:=@List.take_take
theorem JL:type_of% @List.getElem_drop:=@List.getElem_drop
theorem JM:type_of% @List.any_eq_false:=@List.any_eq_false
theorem JN:type_of% @List.toList_toArray:=@List.toList_toArray
theorem JO:type_of% @List.getElem?_toArray:=@List.getElem?_toArray
theorem JP:type_of% @Nat.testBit_two_pow:=@Nat.testBit_two_pow
theorem JQ:type_of% @List.nodup_nil:=@List.nodup_nil
theorem JR:type_of% @List.filterMap_cons:=@List.filterMap_cons
theorem JS:type_of% @List.filterMap_append:=@List.filterMap_append
theorem Nv:type_of% @List.getElem_zip:=@List.getElem_zip
theorem Nw:type_of% @List.getElem?_drop:=@List.getElem?_drop
theorem Nx:type_of% @Nat.pow_le_pow_right:=@Nat.pow_le_pow_right
theorem Ny:type_of% @Bool.or_eq_false_iff:=@Bool.or_eq_false_iff
theorem Nz:type_of% @List.getElem_set:=@List.getElem_set
theorem NA:type_of% @List.range_eq_range':=@List.range_eq_range'
theorem NB:type_of% @List.size_toArray:=@List.size_toArray
theorem NC:type_of% @List.getElem?_take:=@List.getElem?_take
theorem ND:type_of% @List.drop_eq_nil_of_le:=@List.drop_eq_nil_of_le
theorem NF:type_of% @Array.getElem?_modify:=@Array.getElem?_modify
theorem RK:type_of% @List.eq_of_mem_replicate:=@List.eq_of_mem_replicate
theorem RL:type_of% @Int.eq_ofNat_of_zero_le:=@Int.eq_ofNat_of_zero_le
end Go
namespace b8
open Go
structure ab where
 a:Option Addr
 len:Nat
 cap:Nat
structure qB where
 f:FuncId
 pre:Array Value
 cap:Array Value
inductive jY where
 |int (k:IntKind)|bool|str|ptr|slice|map|agg|fn|any
def jY.T:jY→Type
 | .int _=>Int
 | .bool=>Bool
 | .str=>ByteArray
 | .ptr=>Option Addr
 | .slice=>ab
 | .map=>Option Nat
 | .agg=>Array Value
 | .fn=>qB
 | .any=>Value
def jY.v:(l:jY)→l.T→Value
 | .int k,(n:Int)=> .int k n
 | .bool,(b:Bool)=> .bool b
 | .str,(s:ByteArray)=> .string s
 | .ptr,(p:Option Addr)=> .pointer p
 | .slice,(s:ab)=> .slice s.a s.len s.cap
 | .map,(r:Option Nat)=> .map r
 | .agg,(cs:Array Value)=> .agg cs
 | .fn,(F:qB)=> .func (.func F.f) F.pre F.cap
 | .any,(v:Value)=>v
inductive qc where
 |one (l:jY)
 |flat (ls:List jY)
def Gw (l:jY) (K:Value→Prop):Prop:=
 match l with
 | .int k=>∃n:Int,K (.int k n)
 | .bool=>∃b:Bool,K (.bool b)
 | .str=>∃s:ByteArray,K (.string s)
 | .ptr=>∃p:Option Addr,K (.pointer p)
 | .slice=>∃s:ab,K (.slice s.a s.len s.cap)
 | .map=>∃r:Option Nat,K (.map r)
 | .agg=>∃cs:Array Value,K (.agg cs)
 | .fn=>∃F:qB,K (.func (.func F.f) F.pre F.cap)
 | .any=>∃v:Value,K v
def Ws:List jY→(List Value→Prop)→Prop
 | [],K=>K []
 |l::ls,K=>Gw l fun v=>Ws ls fun vs=>K (v::vs)
def Wt (k:qc) (K:Value→Prop):Prop:=
 match k with
 | .one l=>Gw l K
 | .flat ls=>Ws ls fun vs=>K (.agg vs.toArray)
def Qz:List qc→(List Value→Prop)→Prop
 | [],K=>K []
 |k::ks,K=>Wt k fun v=>Qz ks fun vs=>K (v::vs)
theorem I4 {l:jY} {K:Value→Prop} (h:Gw l K):∃v,K v:=by
 cases l<;>simp only[Gw] at h<;>obtain ⟨x,h⟩:=h<;>exact ⟨_,h⟩
theorem aeC:∀ {ls:List jY} {K:List Value→Prop},Ws ls K→∃vs,K vs
 | [],_,h=>⟨_,h⟩
 |_::_,_,h=>let ⟨_,h⟩:=I4 h;let ⟨_,h⟩:=aeC h;⟨_,h⟩
theorem aeD {k:qc} {K:Value→Prop} (h:Wt k K):∃v,K v:=by
 cases k with
 |one l=>exact I4 h
 |flat ls=>obtain ⟨_,h⟩:=aeC h;exact ⟨_,h⟩
theorem Wu:∀ {ls:List qc} {K:List Value→Prop},Qz ls K→∃vs,K vs
 | [],_,h=>⟨_,h⟩
 |_::_,_,h=>let ⟨_,h⟩:=aeD h;let ⟨_,h⟩:=Wu h;⟨_,h⟩
abbrev Env:=List (Nat×Value)
def Env.get:Env→Nat→Option Value
 | [],_=>none
 |(k,v)::e,s=>bif Nat.beq k s then some v else Env.get e s
def bC (e:Env):Operand→Option Value
 | .tmp t=>e.get t
 | .const v=>some v
 | .global g=>some (.pointer (some ⟨g,0,none⟩))
 | .func f=>some (.func (.func f) #[] #[])
def ro (e:Env) (x:Operand):Value:=(bC e x).getD undef
def known (e:Env) (xs:Array Operand):Bool:=xs.toList.all fun x=>(bC e x).isSome
structure gr (e:Env) (a:Act):Prop where
 get:∀s v,e.get s=some v→a.tmps[s]? =some v
theorem gr.bC {e:Env} {a:Act} (h:gr e a) {x:Operand} {v:Value} (af:bC e x=some v):a.eval x=v:=by
 cases x with
 |tmp t=>
   have:=h.get t v af
   simp[Act.eval,Array.getD_eq_getD_getElem?,this]
 |const c=>simpa[b8.bC,Act.eval] using af
 |global g=>simpa[b8.bC,Act.eval] using af
 |func f=>simpa[b8.bC,Act.eval] using af
theorem gr.ro {e:Env} {a:Act} (h:gr e a) {x:Operand} (af:(b8.bC e x).isSome=true):a.eval x=ro e x:=by
 obtain ⟨v,al⟩:=Cr.1 af
 rw[h.bC al,b8.ro,al];rfl
def gb (d:Option Nat) (v:Value) (e:Env):Env:=
 match d with
 |some d=>(d,v)::e
 |none=>e
theorem Gx (d:Nat) (v:Value) (e:Env) (s:Nat):Env.get ((d,v)::e) s=if d=s then some v else e.get s:=by
 simp only[Env.get,cond_eq_ite]
 by_cases pe:d=s
 · subst pe;simp
 · have:Nat.beq d s=false:=by
     cases aa:Nat.beq d s
     · rfl
     · exact absurd (qK aa) pe
   simp[this,pe]
theorem gr.put {e:Env} {a:Act} (h:gr e a) {d:Option Nat} {v:Value} (hd:∀k,d=some k→k<a.tmps.size):gr (gb d v e) (a.put d v):=by
 cases d with
 |none=>exact h
 |some d=>
   constructor
   intro s u aj
   rw[gb,Gx] at aj
   simp only[Act.put]
   by_cases pe:d=s
   · subst pe
     simp only[if_true,Option.some.injEq] at aj
     subst aj
     simp[hd d rfl]
   · rw[if_neg pe] at aj
     rw[Array.getElem?_setIfInBounds_ne pe]
     exact h.get s u aj
inductive jZ where
 |one (k:qc)
 |kj (ks:List qc)
def qC (r:jZ) (K:Value→Prop):Prop:=
 match r with
 | .one k=>Wt k K
 | .kj ks=>Qz ks fun vs=>K (.tuple vs.toArray)
theorem rl {r:jZ} {K:Value→Prop} (h:qC r K):∃v,K v:=by
 cases r with
 |one k=>exact aeD h
 |kj ks=>obtain ⟨_,h⟩:=Wu h;exact ⟨_,h⟩
def eH (w:World) (A:Addr):Nat→Nat→Option (List Value)
 |_,0=>some []
 |i,n+1=>match w.cell? (A.add i),eH w A (i+1) n with
   |some v,some vs=>some (v::vs)
   |_,_=>none
def setCells (w:World) (A:Addr):Nat→List Value→World
 |_,[]=>w
 |i,v::vs=>setCells (w.setCell (A.add i) v) A (i+1) vs
def Plain:Value→Prop
 | .agg _=>False
 | .tuple _=>False
 |_=>True
def cT (w:World) (A:Addr) (vs:List Value):Prop:=
 (∀i,i<vs.length→(w.cell? (A.add i)).isSome=true∧w.frozen? (A.add i)=false)∧∀v∈vs,Plain v
def zO:TypeDesc→Bool
 | .struct _=>true
 | .array _ _=>true
 |_=>false
def pQ (P:Program) (elem:TypeId) (n:Nat):Array Value:=
 let zero:=if n*P.cellsOf elem=0 then #[] else (((P.info? elem).bind (·.zero)).getD undef).cells
 (Array.range (n*P.cellsOf elem)).map (zero[· %zero.size]!)
section
variable {P:Program} {w:World}
theorem fV {t:TypeId} {d:TypeDesc} (h:P.underlying t=some d):(underlying t).run P w= .ok d w:=by
 simp[underlying,program,Sem.run,bind,Sem.bind,h,pure]
theorem Db {t:TypeId} {d:TypeInfo} (h:P.info? t=some d):(typeInfo t).run P w= .ok d w:=by
 simp[typeInfo,program,Sem.run,bind,Sem.bind,h,pure]
theorem info_of_underlying {t:TypeId} {d:TypeDesc} (h:P.underlying t=some d):∃i,P.info? t=some i:=by
 unfold Program.underlying at h
 cases hi:P.info? t with
 |none=>simp[hi] at h
 |some i=>exact ⟨i,rfl⟩
theorem qO {t:TypeId} {d:TypeDesc} (h:P.underlying t=some d):(Go.sizeOf t).run P w= .ok (P.cellsOf t) w:=by
 obtain ⟨i,hi⟩:=info_of_underlying h
 simp[Go.sizeOf,Db hi,Program.cellsOf,hi]
theorem QA {t:TypeId} {d:TypeDesc} (h:P.underlying t=some d):(isAgg t).run P w= .ok (zO d) w:=by
 simp only[isAgg,Sem.run_bind,fV h,Result.andThen]
 cases d<;>rfl
theorem St {A:Addr} {v:Value} (h:w.cell? A=some v):(load A).run P w= .ok v w:=by
 simp[load,Sem.run,h]
theorem run_loadCellsFrom {A:Addr}:∀ (n i:Nat) (acc:Array Value) (vs:List Value),eH w A i n=some vs→
   (loadCellsFrom A i n acc).run P w= .ok (acc++vs.toArray) w
 |0,i,acc,vs,h=>by
   simp only[eH,Option.some.injEq] at h
   subst h
   simp[loadCellsFrom]
 |n+1,i,acc,vs,h=>by
   simp only[eH] at h
   cases U:w.cell? (A.add i) with
   |none=>simp[U] at h
   |some v=>
     cases ad:eH w A (i+1) n with
     |none=>simp[U,ad] at h
     |some us=>
       simp only[U,ad,Option.some.injEq] at h
       subst h
       simp only[loadCellsFrom,Sem.run_bind,St U,Result.andThen]
       rw[run_loadCellsFrom n (i+1) (acc.push v) us ad]
       simp
theorem QB {T:TypeId} {d:TypeDesc} (bn:P.underlying T=some d) (hd:zO d=true) {A:Addr} {vs:List Value} (h:eH w A 0 (P.cellsOf T)=some vs):
   (loadVar T A).run P w= .ok (.agg vs.toArray) w:=by
 simp only[loadVar,Sem.run_bind,QA bn,Result.andThen,hd,if_true,qO bn,loadCells,run_loadCellsFrom _ _ _ _ h]
 simp
theorem aeE {T:TypeId} {d:TypeDesc} (bn:P.underlying T=some d) (hd:zO d=false) {A:Addr} {v:Value} (h:w.cell? A=some v):
   (loadVar T A).run P w= .ok v w:=by
 simp only[loadVar,Sem.run_bind,QA bn,Result.andThen,hd,lS,if_false,St h]
theorem atc {A:Addr} {v u:Value} (al:Plain v) (h:w.cell? A=some u) (aA:w.frozen? A=false):(store A v).run P w= .ok () (w.setCell A v):=by
 cases v<;>simp_all [store,Sem.run,Plain]
theorem atd (w:World) (A B:Addr) (v:Value):((w.setCell A v).cell? B).isSome=(w.cell? B).isSome:=by
 simp only[World.setCell,World.cell?,NF]
 by_cases aa:A.block=B.block
 · simp only[aa,if_true]
   cases w.heap[B.block]? with
   |none=>rfl
   |some o=>
     cases o<;>simp
     by_cases aj:B.spot.isSome<;>simp[aj]
     by_cases mD:A.spot.isSome<;>simp[mD]
     rw[oT];simp
 · simp[aa]
theorem ate (w:World) (A B:Addr) (v:Value):(w.setCell A v).frozen? B=w.frozen? B:=by
 simp only[World.setCell,World.frozen?,NF]
 by_cases aa:A.block=B.block
 · simp only[aa,if_true]
   cases w.heap[B.block]? with
   |none=>rfl
   |some o=>cases o<;>rfl
 · simp[aa]
theorem Hj {A:Addr}:∀ (vs:List Value) (i:Nat) (w:World),(∀j,j<vs.length→(w.cell? (A.add (i+j))).isSome=true∧w.frozen? (A.add (i+j))=false)→(∀v∈vs,Plain v)→
   (storeCells A vs i).run P w= .ok () (setCells w A i vs)
 | [],i,w,_,_=>rfl
 |v::vs,i,w,h,aV=>by
   have b5:=h 0 (by simp)
   simp only[z7] at b5
   obtain ⟨u,hu⟩:=Cr.1 b5.1
   simp only[storeCells,Sem.run_bind,atc (P:=P) (aV v (by simp)) hu b5.2,Result.andThen,setCells]
   refine Hj vs (i+1) (w.setCell (A.add i) v) (fun j aZ=> ?_) (fun x af=>aV x (by simp[af]))
   have:=h (j+1) (by simp;omega)
   rw[atd,ate,show i+1+j=i+(j+1) by omega]
   exact this
theorem aeF {T:TypeId} {d:TypeDesc} (bn:P.underlying T=some d) {A:Addr} {v:Value} (aj:v.cells.size=P.cellsOf T) (h:cT w A v.cells.toList):
   (storeVar T A v).run P w= .ok () (setCells w A 0 v.cells.toList):=by
 simp only[storeVar,Sem.run_bind,qO bn,Result.andThen,aj,ne_eq,not_true,if_false]
 simpa using Hj v.cells.toList 0 w (by simpa using h.1) h.2
end
def Wv:List jY→Addr→Nat→World→(List Value→Prop)→Prop
 | [],_,_,_,K=>K []
 |l::ls,A,i,w,K=>Gw l fun v=>w.cell? (A.add i)=some v∧Wv ls A (i+1) w fun vs=>K (v::vs)
def I5 (P:Program) (aI:TypeId→jZ) (T:TypeId) (A:Addr) (w:World) (K:Value→Prop):Prop:=
 match P.underlying T with
 |none=>False
 |some d=>
   bif zO d then
     match aI T with
     | .one (.flat ls)=>bif Nat.beq (P.cellsOf T) ls.length then Wv ls A 0 w fun vs=>K (.agg vs.toArray) else False
     |_=>∃cs:List Value,eH w A 0 (P.cellsOf T)=some cs∧K (.agg cs.toArray)
   else
     match aI T with
     | .one (.one l)=>Gw l fun v=>w.cell? A=some v∧K v
     |_=>False
def Ww (P:Program) (aI:TypeId→jZ) (T:TypeId) (A:Addr) (x:Value) (w:World) (K:World→Prop):Prop:=
 match P.underlying T with
 |none=>False
 |some d=>
   bif zO d then
     match x with
     | .agg cs=>cT w A cs.toList∧cs.size=P.cellsOf T∧K (setCells w A 0 cs.toList)
     |_=>False
   else bif Nat.beq (P.cellsOf T) 1 then
     match aI T with
     | .one (.one .any)=>Plain x∧(∃u,w.cell? A=some u)∧w.frozen? A=false∧K (w.setCell A x)
     |_=>match x with
       | .agg _=>False
       | .tuple _=>False
       |_=>(∃u,w.cell? A=some u)∧w.frozen? A=false∧K (w.setCell A x)
   else False
def aeG (P:Program) (T:TypeId) (xs qu:Array Value) (b:Bool):Prop:=
 P.eqGuardType P.depth T=false∧∀w,(Op.equal T (.agg xs) (.agg qu)).run P w= .ok b w
def Gy:Value→Option Bool
 | .nilIface=>some true
 | .iface _ _=>some false
 |_=>none
def Gz:Option TypeDesc→Bool
 |some (.interface _)=>true
 |_=>false
def B3:Option TypeDesc→Bool
 |some (.pointer _)=>true
 |_=>false
def Eo:Option TypeDesc→Bool
 |some (.slice _)=>true
 |_=>false
def I6:Option TypeDesc→Bool
 |some (.map _ _)=>true
 |_=>false
def uN:IntKind→IntKind→Bool:=fun a b=>decide (a=b)
def QC (P:Program) (op:BinOp) (T:TypeId) (x y:Value) (K:Value→Prop) (G:Prop):Prop:=
 match y with
 | .nilIface=>bif Gz (P.underlying T) then
     match op with
     | .eql=>∃b,Gy x=some b∧K (.bool b)
     | .neq=>∃b,Gy x=some b∧K (.bool (!b))
     |_=>False
   else False
 | .pointer none=>bif B3 (P.underlying T) then
     match op,x with
     | .eql, .pointer p=>K (.bool p.isNone)
     | .neq, .pointer p=>K (.bool (!p.isNone))
     |_,_=>False
   else False
 | .slice none _ _=>bif Eo (P.underlying T) then
     match op,x with
     | .eql, .slice a _ _=>K (.bool a.isNone)
     | .neq, .slice a _ _=>K (.bool (!a.isNone))
     |_,_=>False
   else False
 | .map none=>bif I6 (P.underlying T) then
     match op,x with
     | .eql, .map r=>K (.bool r.isNone)
     | .neq, .map r=>K (.bool (!r.isNone))
     |_,_=>False
   else False
 | .agg qu=>
     match op,x with
     | .eql, .agg xs=>∃b,aeG P T xs qu b∧K (.bool b)
     | .neq, .agg xs=>∃b,aeG P T xs qu b∧K (.bool (!b))
     |_,_=>False
 | .int mN b=>
     match op,x with
     | .quo, .int k a=>bif uN k mN then b≠0∧K (.int k (k.wrap (a.tdiv b))) else False
     | .rem, .int k a=>bif uN k mN then b≠0∧K (.int k (a.tmod b)) else False
     | .shl, .int k a=>0≤b∧K (.int k (k.wrap (a*2^(min b.toNat k.bits))))
     | .shr, .int k a=>0≤b∧K (.int k (a.fdiv (2^(min b.toNat k.bits))))
     |_,_=>G
 | .bool b=>match P.underlying T with
     |some .bool=>match op,x with
       | .eql, .bool a=>K (.bool (a==b))
       | .neq, .bool a=>K (.bool (!(a==b)))
       |_,_=>False
     |_=>False
 | .string b=>
     match op,x with
     | .add, .string a=>((a.size+b.size:Nat):Int)≤9223372036854775807∧K (.string (a++b))
     |_,_=>G
 |_=>G
section
variable {P:Program}
theorem I7 (T:TypeId) (x y:Value):Op.equal T x y=Op.equalIn (9999+1) T x y:=rfl
theorem atf (d:Nat) {T:TypeId} {x:Value} {b:Bool} (bn:Gz (P.underlying T)=true) (h:Gy x=some b) (w:World):
   (Op.equalIn (d+1) T x .nilIface).run P w= .ok b w:=by
 cases hu:P.underlying T with
 |none=>simp[hu,Gz] at bn
 |some d=>
   cases d<;>simp only[hu,Gz,lS] at bn
   simp only[Op.equalIn,Sem.run_bind,fV hu,Result.andThen]
   cases x<;>simp only[Gy,reduceCtorEq,Option.some.injEq] at h<;>subst h<;>rfl
theorem atg (d:Nat) {T:TypeId} {p:Option Addr} (bn:B3 (P.underlying T)=true) (w:World):
   (Op.equalIn (d+1) T (.pointer p) (.pointer none)).run P w= .ok p.isNone w:=by
 cases hu:P.underlying T with
 |none=>simp[hu,B3] at bn
 |some d=>
   cases d<;>simp only[hu,B3,lS] at bn
   simp only[Op.equalIn,Sem.run_bind,fV hu,Result.andThen]
   cases p<;>rfl
theorem ath (d:Nat) {T:TypeId} {a:Option Addr} {l c H4 c':Nat} (bn:Eo (P.underlying T)=true) (w:World):
   (Op.equalIn (d+1) T (.slice a l c) (.slice none H4 c')).run P w= .ok a.isNone w:=by
 cases hu:P.underlying T with
 |none=>simp[hu,Eo] at bn
 |some d=>
   cases d<;>simp only[hu,Eo,lS] at bn
   simp only[Op.equalIn,Sem.run_bind,fV hu,Result.andThen]
   cases a<;>rfl
theorem ati (d:Nat) {T:TypeId} {r:Option Nat} (bn:I6 (P.underlying T)=true) (w:World):
   (Op.equalIn (d+1) T (.map r) (.map none)).run P w= .ok r.isNone w:=by
 cases hu:P.underlying T with
 |none=>simp[hu,I6] at bn
 |some d=>
   cases d<;>simp only[hu,I6,lS] at bn
   simp only[Op.equalIn,Sem.run_bind,fV hu,Result.andThen]
   cases r<;>rfl
theorem aeH {T:TypeId} {x:Value} {b:Bool} (bn:Gz (P.underlying T)=true) (h:Gy x=some b) (w:World):
   (Op.equal T x .nilIface).run P w= .ok b w:=by rw[I7];exact atf _ bn h w
theorem QD {T:TypeId} {p:Option Addr} (bn:B3 (P.underlying T)=true) (w:World):
   (Op.equal T (.pointer p) (.pointer none)).run P w= .ok p.isNone w:=by rw[I7];exact atg _ bn w
theorem QE {T:TypeId} {a:Option Addr} {l c H4 c':Nat} (bn:Eo (P.underlying T)=true) (w:World):
   (Op.equal T (.slice a l c) (.slice none H4 c')).run P w= .ok a.isNone w:=by rw[I7];exact ath _ bn w
theorem aeI {T:TypeId} {r:Option Nat} (bn:I6 (P.underlying T)=true) (w:World):
   (Op.equal T (.map r) (.map none)).run P w= .ok r.isNone w:=by rw[I7];exact ati _ bn w
theorem aeJ {T:TypeId} {xs qu:Array Value} (h:P.eqGuardType P.depth T=false) (op:BinOp) (x y:Operand) (w:World):
   (eqGuard op T x y (.agg xs) (.agg qu)).run P w= .ok () w:=by
 cases op<;>simp[eqGuard,program,Sem.run,bind,Sem.bind,h,pure]
theorem aeK {T:TypeId} {a b:Bool} (bn:P.underlying T=some .bool) (w:World):(Op.equal T (.bool a) (.bool b)).run P w= .ok (a==b) w:=by
 have ba:∀ (d:Nat) (w:World),(Op.equalIn (d+1) T (.bool a) (.bool b)).run P w= .ok (a==b) w:=by
   intro d w
   simp[Op.equalIn,fV bn]
 rw[I7];exact ba _ w
theorem aeL {op:BinOp} {T:TypeId} {x y:Value} {Mm I8:Operand} {K:Value→Prop} {G:Prop}
   (b2:y= .nilIface→∃c,I8= .const c)
   (h:QC P op T x y K G):
   G∨∃v,(∀w,(do eqGuard op T Mm I8 x y;binOp op T x y:Sem Value).run P w= .ok v w)∧K v:=by
 unfold QC at h
 split at h
 case h_1=>
   obtain ⟨c,ak⟩:=b2 rfl
   by_cases bn:Gz (P.underlying T)=true
   · rw[bn] at h
     simp only[cond_true] at h
     split at h
     · obtain ⟨b,aa,bq⟩:=h
       refine .inr ⟨_,fun w=> ?_,bq⟩
       have:=aeH (P:=P) bn aa w
       cases x<;>simp only[Gy,reduceCtorEq,Option.some.injEq] at aa<;>subst ak aa<;>simp[eqGuard,binOp,this]
     · obtain ⟨b,aa,bq⟩:=h
       refine .inr ⟨_,fun w=> ?_,bq⟩
       have:=aeH (P:=P) bn aa w
       cases x<;>simp only[Gy,reduceCtorEq,Option.some.injEq] at aa<;>subst ak aa<;>simp[eqGuard,binOp,this]
     · exact h.elim
   · simp only[lW] at bn;rw[bn] at h;exact h.elim
 case h_2=>
   by_cases bn:B3 (P.underlying T)=true
   · rw[bn] at h
     simp only[cond_true] at h
     split at h
     · exact .inr ⟨_,fun w=>by simp[eqGuard,binOp,QD (P:=P) bn],h⟩
     · exact .inr ⟨_,fun w=>by simp[eqGuard,binOp,QD (P:=P) bn],h⟩
     · exact h.elim
   · simp only[lW] at bn;rw[bn] at h;exact h.elim
 case h_3=>
   by_cases bn:Eo (P.underlying T)=true
   · rw[bn] at h
     simp only[cond_true] at h
     split at h
     · exact .inr ⟨_,fun w=>by simp[eqGuard,binOp,QE (P:=P) bn],h⟩
     · exact .inr ⟨_,fun w=>by simp[eqGuard,binOp,QE (P:=P) bn],h⟩
     · exact h.elim
   · simp only[lW] at bn;rw[bn] at h;exact h.elim
 case h_4=>
   by_cases bn:I6 (P.underlying T)=true
   · rw[bn] at h
     simp only[cond_true] at h
     split at h
     · exact .inr ⟨_,fun w=>by simp[eqGuard,binOp,aeI (P:=P) bn],h⟩
     · exact .inr ⟨_,fun w=>by simp[eqGuard,binOp,aeI (P:=P) bn],h⟩
     · exact h.elim
   · simp only[lW] at bn;rw[bn] at h;exact h.elim
 case h_5=>
   split at h
   · obtain ⟨b,⟨U,ad⟩,bq⟩:=h
     exact .inr ⟨_,fun w=>by simp[aeJ U,binOp,ad],bq⟩
   · obtain ⟨b,⟨U,ad⟩,bq⟩:=h
     exact .inr ⟨_,fun w=>by simp[aeJ U,binOp,ad],bq⟩
   · exact h.elim
 case h_6 mN b=>
   split at h
   · rename_i k a
     by_cases ae:k=mN
     · subst ae
       simp only[uN,decide_true,cond_true] at h
       exact .inr ⟨_,fun w=>by simp[eqGuard,binOp,Op.intDiv,h.1],h.2⟩
     · simp[uN,ae] at h
   · rename_i k a
     by_cases ae:k=mN
     · subst ae
       simp only[uN,decide_true,cond_true] at h
       exact .inr ⟨_,fun w=>by simp[eqGuard,binOp,Op.intDiv,h.1],h.2⟩
     · simp[uN,ae] at h
   · exact .inr ⟨_,fun w=>by simp[eqGuard,binOp,Op.shift,show¬b<0 by omega],h.2⟩
   · exact .inr ⟨_,fun w=>by simp[eqGuard,binOp,Op.shift,show¬b<0 by omega],h.2⟩
   · exact .inl h
 case h_7 b=>
   split at h
   · rename_i bn
     split at h
     · exact .inr ⟨_,fun w=>by simp[eqGuard,binOp,aeK bn],h⟩
     · exact .inr ⟨_,fun w=>by simp[eqGuard,binOp,aeK bn],h⟩
     · exact h.elim
   · exact h.elim
 case h_8 b=>
   split at h
   · rename_i a
     refine .inr ⟨_,fun w=> ?_,h.2⟩
     have U:=h.1
     simp[eqGuard,binOp,Op.stringOp,IntKind.max,IntKind.signed,IntKind.bits]
     omega
   · exact .inl h
 case h_9=>exact .inl h
end
def QF (P:Program) (T:TypeId) (x:Value) (K:Value→Prop):Prop:=
 match P.underlying T with
 |some (.array n _)=>match x with
   | .slice a len _=>n≤len∧∃A,a=some A∧K (.pointer (some A))
   |_=>False
 |_=>False
def QG (P:Program) (T:TypeId) (x i:Value) (K:Value→Prop):Prop:=
 match i with
 | .int _ n=>
   match P.underlying T with
   |some (.slice elem)=>bif (P.underlying elem).isSome then
       match x with
       | .slice a len _=>∃A,a=some A∧(0≤n∧n<(len:Int))∧K (.pointer (some (A.add (n.toNat*P.cellsOf elem))))
       |_=>False
     else False
   |some (.array len elem)=>bif (P.underlying elem).isSome then
       match x with
       | .pointer (some A)=>(0≤n∧n<(len:Int))∧K (.pointer (some (A.add (n.toNat*P.cellsOf elem))))
       |_=>False
     else False
   |_=>False
 |_=>False
def Mn (P:Program) (aI:TypeId→jZ) (T:TypeId) (cs:Array Value) (off:Nat) (K:Value→Prop):Prop:=
 match P.underlying T with
 |none=>False
 |some d=>
   bif zO d then K (.agg (cs.extract off (off+P.cellsOf T)))
   else match aI T with
     | .one (.one l)=>Gw l fun v=>cs[off]? =some v∧K v
     |_=>False
def QH (P:Program) (aI:TypeId→jZ) (T:TypeId) (x i:Value) (K:Value→Prop):Prop:=
 match i with
 | .int _ n=>
   match P.underlying T with
   |some (.array len elem)=>match x with
       | .agg cs=>(0≤n∧n<(len:Int))∧Mn P aI elem cs (n.toNat*P.cellsOf elem) K
       |_=>False
   |some .string=>match x with
       | .string s=>0≤n∧∃b:UInt8,s.data.toList[n.toNat]? =some b∧K (.int .u8 b.toNat)
       |_=>False
   |_=>False
 |_=>False
def QI (P:Program) (aI:TypeId→jZ) (T:TypeId) (x:Value) (i:Nat) (K:Value→Prop):Prop:=
 match P.underlying T with
 |some (.struct fs)=>match fs[i]? with
   |some f=>match x with
     | .agg cs=>Mn P aI f.type cs f.offset K
     |_=>False
   |none=>False
 |_=>False
def xW (v:Option Value) (y d:Nat) (K:Nat→Prop):Prop:=
 match v with
 |none=>K d
 |some (.int _ i)=>(0≤i∧i≤(y:Int))∧K i.toNat
 |_=>False
def bh (a:Option Addr) (sz l m:Nat):Option Addr:=if m=l then a else a.map (·.add (l*sz))
def QJ (P:Program) (T:TypeId) (x:Value) (lo hi vX:Option Value) (K:Value→Prop):Prop:=
 match P.underlying T with
 |some .string=>match vX,x with
   |none, .string s=>xW hi s.size s.size fun h=>xW lo h 0 fun l=>K (.string (s.extract l h))
   |_,_=>False
 |some (.slice elem)=>bif (P.underlying elem).isSome then
     match x with
     | .slice a len cap=>match vX with
       |none=>xW hi cap len fun h=>xW lo h 0 fun l=>K (.slice (bh a (P.cellsOf elem) l cap) (h-l) (cap-l))
       |some O_=>match hi with
         |none=>False
         |some qk=>xW (some O_) cap 0 fun m=>xW (some qk) m 0 fun h=>xW lo h 0 fun l=>K (.slice (bh a (P.cellsOf elem) l m) (h-l) (m-l))
     |_=>False
   else False
 |some (.array n elem)=>bif (P.underlying elem).isSome then
     match vX,x with
     |none, .pointer (some A)=>xW hi n n fun h=>xW lo h 0 fun l=>K (.slice (bh (some A) (P.cellsOf elem) l n) (h-l) (n-l))
     |_,_=>False
   else False
 |_=>False
def Wx (P:Program) (T:TypeId) (l c:Value) (w:World) (K:Value→World→Prop):Prop:=
 match P.underlying T with
 |some (.slice elem)=>bif (P.underlying elem).isSome then
     bif ((P.info? elem).bind (·.zero)).isSome then
     match l,c with
     | .int _ n, .int _ m=>(0≤n∧n≤m∧m≤9223372036854775807∧(P.bytesOf elem:Int)*m≤140737488355328)∧
         K (.slice (some ⟨w.heap.size,0,none⟩) n.toNat m.toNat) {w with heap:=w.heap.push (.cells (pQ P elem m.toNat) elem)}
     |_,_=>False
     else False
   else False
 |_=>False
section
variable {P:Program} {w:World}
theorem tY (o:Option TypeDesc) (h:o.isSome=true):∃d,o=some d:=Cr.1 h
theorem aeM {T:TypeId} {x:Value} {K:Value→Prop} (h:QF P T x K):∃v,(∀w,(Instr.arrayAt T x).run P w= .ok v w)∧K v:=by
 unfold QF at h
 split at h
 · rename_i n e bn
   split at h
   · rename_i a len cap
     obtain ⟨U,A,rfl,bq⟩:=h
     exact ⟨_,fun w=>by simp[Instr.arrayAt,fV bn,Nat.not_lt.2 U],bq⟩
   · exact h.elim
 · exact h.elim
theorem aeN {T:TypeId} {x i:Value} {K:Value→Prop} (h:QG P T x i K):∃v,(∀w,(Instr.indexAt T x i).run P w= .ok v w)∧K v:=by
 unfold QG at h
 split at h
 · rename_i k n
   split at h
   · rename_i elem bn
     by_cases he:(P.underlying elem).isSome=true
     · rw[he] at h
       simp only[cond_true] at h
       split at h
       · obtain ⟨A,rfl,aa,bq⟩:=h
         obtain ⟨d,hd⟩:=tY _ he
         exact ⟨_,fun w=>by simp[Instr.indexAt,asIntOf,fV bn,aa,qO hd],bq⟩
       · exact h.elim
     · simp only[lW] at he;rw[he] at h;exact h.elim
   · rename_i len elem bn
     by_cases he:(P.underlying elem).isSome=true
     · rw[he] at h
       simp only[cond_true] at h
       split at h
       · obtain ⟨aa,bq⟩:=h
         obtain ⟨d,hd⟩:=tY _ he
         exact ⟨_,fun w=>by simp[Instr.indexAt,asIntOf,Instr.sureAddr,fV bn,aa,qO hd],bq⟩
       · exact h.elim
     · simp only[lW] at he;rw[he] at h;exact h.elim
   · exact h.elim
 · exact h.elim
theorem aeO {aI:TypeId→jZ} {T:TypeId} {cs:Array Value} {off:Nat} {K:Value→Prop} (h:Mn P aI T cs off K):∃v,(∀w,(part T cs off).run P w= .ok v w)∧K v:=by
 unfold Mn at h
 split at h
 · exact h.elim
 · rename_i d bn
   cases hd:zO d with
   |true=>
     rw[hd] at h
     exact ⟨_,fun w=>by simp[part,QA bn,hd,qO bn],h⟩
   |false=>
     rw[hd] at h
     simp only[cond_false] at h
     split at h
     · obtain ⟨v,al,bq⟩:=I4 h
       exact ⟨v,fun w=>by simp[part,QA bn,hd,al],bq⟩
     · exact h.elim
theorem aeP {aI:TypeId→jZ} {T:TypeId} {x i:Value} {K:Value→Prop} (h:QH P aI T x i K):∃v,(∀w,(Instr.index T x i).run P w= .ok v w)∧K v:=by
 unfold QH at h
 split at h
 · rename_i k n
   split at h
   · rename_i len elem bn
     split at h
     · obtain ⟨aa,h⟩:=h
       obtain ⟨v,al,bq⟩:=aeO h
       refine ⟨v,fun w=> ?_,bq⟩
       have aj:(Go.sizeOf elem).run P w= .ok (P.cellsOf elem) w:=by
         unfold Mn at h
         cases he:P.underlying elem with
         |none=>simp[he] at h
         |some d=>exact qO he
       simp[Instr.index,asIntOf,fV bn,aa,aj,al]
     · exact h.elim
   · rename_i bn
     split at h
     · rename_i s
       obtain ⟨aa,b,aj,bq⟩:=h
       have lh:s[n.toNat]? =some b:=by
         obtain ⟨U,ad⟩:=qJ.1 aj
         have aq:n.toNat<s.size:=by simpa using U
         rw[getElem?_pos s n.toNat aq]
         simp only[Option.some.injEq]
         rw[←ad]
         rfl
       exact ⟨_,fun w=>by simp[Instr.index,asIntOf,fV bn,aa,lh],bq⟩
     · exact h.elim
   · exact h.elim
 · exact h.elim
theorem aeQ {aI:TypeId→jZ} {T:TypeId} {x:Value} {i:Nat} {K:Value→Prop} (h:QI P aI T x i K):∃v,(∀w,(Instr.field T x i).run P w= .ok v w)∧K v:=by
 unfold QI at h
 split at h
 · rename_i fs bn
   split at h
   · rename_i f aA
     split at h
     · obtain ⟨v,al,bq⟩:=aeO h
       exact ⟨v,fun w=>by simp[Instr.field,fV bn,aA,asAgg,al],bq⟩
     · exact h.elim
   · exact h.elim
 · exact h.elim
theorem vY {v:Option Value} {y d:Nat} {c:BoundsCode} {K:Nat→Prop} (h:xW v y d K):
   (v=none∧K d)∨∃u n,v=some u∧(∀w,(Instr.sliceBound u y c).run P w= .ok n w)∧K n:=by
 unfold xW at h
 split at h
 · exact .inl ⟨rfl,h⟩
 · exact .inr ⟨_,_,rfl,fun w=>by simp[Instr.sliceBound,asIntOf,h.1],h.2⟩
 · exact h.elim
theorem aeR {T:TypeId} {x:Value} {lo hi vX:Option Value} {K:Value→Prop} (h:QJ P T x lo hi vX K):
   ∃v,(∀w,(Instr.sliceAt T x lo hi vX).run P w= .ok v w)∧K v:=by
 unfold QJ at h
 split at h
 · rename_i bn
   split at h
   · rename_i s
     rcases vY (P:=P) (c:= .sliceAlen) h with ⟨ba,U⟩|⟨u,n,ba,aY,U⟩
     · rcases vY (P:=P) (c:= .sliceB) U with ⟨bp,ad⟩|⟨vy,c7,bp,fU,ad⟩
       · exact ⟨_,fun w=>by simp[Instr.sliceAt,Instr.slice,fV bn,Instr.sliceBounds,ba,bp],ad⟩
       · exact ⟨_,fun w=>by simp[Instr.sliceAt,Instr.slice,fV bn,Instr.sliceBounds,ba,bp,fU],ad⟩
     · rcases vY (P:=P) (c:= .sliceB) U with ⟨bp,ad⟩|⟨vy,c7,bp,fU,ad⟩
       · exact ⟨_,fun w=>by simp[Instr.sliceAt,Instr.slice,fV bn,Instr.sliceBounds,ba,bp,aY],ad⟩
       · exact ⟨_,fun w=>by simp[Instr.sliceAt,Instr.slice,fV bn,Instr.sliceBounds,ba,bp,aY,fU],ad⟩
   · exact h.elim
 · rename_i elem bn
   by_cases he:(P.underlying elem).isSome=true
   · rw[he] at h
     simp only[cond_true] at h
     obtain ⟨d,hd⟩:=tY _ he
     have dE:=fun w:World=>qO (w:=w) hd
     split at h
     · rename_i a len cap
       split at h
       · rcases vY (P:=P) (c:= .sliceAcap) h with ⟨ba,U⟩|⟨u,n,ba,aY,U⟩
         · rcases vY (P:=P) (c:= .sliceB) U with ⟨bp,ad⟩|⟨vy,c7,bp,fU,ad⟩
           · exact ⟨_,fun w=>by simp[Instr.sliceAt,Instr.slice,fV bn,Instr.sliceBounds,dE,bh,ba,bp],ad⟩
           · exact ⟨_,fun w=>by simp[Instr.sliceAt,Instr.slice,fV bn,Instr.sliceBounds,fU,dE,bh,ba,bp],ad⟩
         · rcases vY (P:=P) (c:= .sliceB) U with ⟨bp,ad⟩|⟨vy,c7,bp,fU,ad⟩
           · exact ⟨_,fun w=>by simp[Instr.sliceAt,Instr.slice,fV bn,Instr.sliceBounds,aY,dE,bh,ba,bp],ad⟩
           · exact ⟨_,fun w=>by simp[Instr.sliceAt,Instr.slice,fV bn,Instr.sliceBounds,aY,fU,dE,bh,ba,bp],ad⟩
       · split at h
         · exact h.elim
         · rcases vY (P:=P) (c:= .slice3Acap) h with ⟨gX,U⟩|⟨u,n,gX,aY,U⟩
           · cases gX
           · cases gX
             rcases vY (P:=P) (c:= .slice3B) U with ⟨gX,ad⟩|⟨abK,dc,gX,lg,ad⟩
             · cases gX
             · cases gX
               rcases vY (P:=P) (c:= .slice3C) ad with ⟨bp,aq⟩|⟨vy,c7,bp,fU,aq⟩
               · exact ⟨_,fun w=>by simp[Instr.sliceAt,Instr.slice,fV bn,Instr.sliceBounds,aY,lg,dE,bh,bp],aq⟩
               · exact ⟨_,fun w=>by simp[Instr.sliceAt,Instr.slice,fV bn,Instr.sliceBounds,aY,lg,fU,dE,bh,bp],aq⟩
     · exact h.elim
   · simp only[lW] at he;rw[he] at h;exact h.elim
 · rename_i n elem bn
   by_cases he:(P.underlying elem).isSome=true
   · rw[he] at h
     simp only[cond_true] at h
     obtain ⟨d,hd⟩:=tY _ he
     have dE:=fun w:World=>qO (w:=w) hd
     split at h
     · rename_i A
       rcases vY (P:=P) (c:= .sliceAlen) h with ⟨ba,U⟩|⟨u,dc,ba,aY,U⟩
       · rcases vY (P:=P) (c:= .sliceB) U with ⟨bp,ad⟩|⟨vy,c7,bp,fU,ad⟩
         · refine ⟨_,fun w=> ?_,ad⟩
           simp[Instr.sliceAt,fV bn,Instr.sureAddr,Instr.sliceBounds,dE,bh,ba,bp];try (split<;>rfl)
         · refine ⟨_,fun w=> ?_,ad⟩
           simp[Instr.sliceAt,fV bn,Instr.sureAddr,Instr.sliceBounds,fU,dE,bh,ba,bp];try (split<;>rfl)
       · rcases vY (P:=P) (c:= .sliceB) U with ⟨bp,ad⟩|⟨vy,c7,bp,fU,ad⟩
         · refine ⟨_,fun w=> ?_,ad⟩
           simp[Instr.sliceAt,fV bn,Instr.sureAddr,Instr.sliceBounds,aY,dE,bh,ba,bp];try (split<;>rfl)
         · refine ⟨_,fun w=> ?_,ad⟩
           simp[Instr.sliceAt,fV bn,Instr.sureAddr,Instr.sliceBounds,aY,fU,dE,bh,ba,bp];try (split<;>rfl)
     · exact h.elim
   · simp only[lW] at he;rw[he] at h;exact h.elim
 · exact h.elim
theorem Wy {n:Int} (b5:0≤n) (U:n≤9223372036854775807):IntKind.i64.wrap n=n:=by
 have e:n%18446744073709551616=n:=Int.emod_eq_of_lt b5 (by omega)
 simp[IntKind.wrap,IntKind.signed,IntKind.bits,e]
 omega
theorem atj {T:TypeId} {l c:Value} {K:Value→World→Prop} (h:Wx P T l c w K):
   ∃v w',(Instr.makeSlice T l c).run P w= .ok v w'∧K v w':=by
 unfold Wx at h
 split at h
 · rename_i elem bn
   by_cases he:(P.underlying elem).isSome=true
   · rw[he] at h
     simp only[cond_true] at h
     by_cases bF:((P.info? elem).bind (·.zero)).isSome=true
     · rw[bF] at h
       simp only[cond_true] at h
       split at h
       · rename_i k n mN m
         obtain ⟨⟨b5,U,ad,aq⟩,bq⟩:=h
         obtain ⟨d,hd⟩:=tY _ he
         obtain ⟨i,hi⟩:=info_of_underlying hd
         obtain ⟨z,H9⟩:=Cr.1 bF
         simp only[hi,Option.bind_some] at H9
         have aa:P.bytesOf elem=i.bytes:=by simp[Program.bytesOf,hi]
         have ak:P.cellsOf elem=i.size:=by simp[Program.cellsOf,hi]
         rw[aa] at aq
         have ba:=Wy b5 (by omega)
         have bp:=Wy (n:=m) (by omega) ad
         refine ⟨_,_,?_,bq⟩
         have aD:¬(m<0):=by omega
         have nn:¬(281474976710656<(i.bytes:Int)*m):=by omega
         simp[Instr.makeSlice,fV bn,asInt,asIntOf,Db hi,ba,bp,aD,nn,qO hd,show¬n<0 by omega,show¬m<n by omega]
         by_cases aj:m.toNat*P.cellsOf elem=0
         · simp[aj,newRow,newObj,Sem.run,pQ]
         · simp[zeroValue,Db hi,H9,newRow,newObj,Sem.run,pQ,aj,hi]
       · exact h.elim
     · simp only[lW] at bF;rw[bF] at h;exact h.elim
   · simp only[lW] at he;rw[he] at h;exact h.elim
 · exact h.elim
end
def az (w:World) (K:World→Prop):Prop:=K w
def TB (s:ByteArray) (n:Nat):Option UInt8:=s.data.toList[n]?
def tP (k:IntKind) (a b:Int):Int:=k.wrap ((BitVec.ofInt k.bits a&&&BitVec.ofInt k.bits b).toNat:Int)
def Cz (k:IntKind) (a b:Int):Int:=k.wrap ((BitVec.ofInt k.bits a|||BitVec.ofInt k.bits b).toNat:Int)
def E8 (k:IntKind) (a b:Int):Int:=k.wrap ((BitVec.ofInt k.bits a^^^BitVec.ofInt k.bits b).toNat:Int)
def aad (k:IntKind) (a b:Int):Int:=k.wrap ((BitVec.ofInt k.bits a&&&~~~BitVec.ofInt k.bits b).toNat:Int)
def Mo (P:Program) (o:Oper) (K:Value→World→Prop) (e:Env) (w:World):Prop:=
 bif known e o.op.operands then
   match (execOp (ro e) o).run P w with
   | .ok (.value v) w'=>az w' fun ag=>K v ag
   |_=>False
 else False
def aeS (P:Program) (aI:TypeId→jZ) (T:TypeId):jZ:=
 match P.underlying T with
 |some (.slice e)=>aI e
 |_=> .one (.one .agg)
def jY.atk:jY→Bool
 | .slice=>true
 |_=>false
def aeT:jZ→Bool
 | .one (.one .agg)=>true
 | .one (.flat ls)=>ls.any jY.atk
 |_=>false
def gen (P:Program) (aI:TypeId→jZ) (o:Oper) (K:Value→World→Prop) (e:Env) (w:World):Prop:=
 bif known e o.op.operands then
   match (execOp (ro e) o).run P w with
   | .ok (.value v) w'=>K v w'
   | .ok .skip w'=>K undef w'
   | .ok (.enter f args) w'=>Calls P f args w' fun vf iH=>qC (aI o.type) fun v=>vf= .returned v∧K v iH
   |_=>False
 else False
def sk (P:Program) (f:FuncId):Prop:=∃fn,P.funcs[f]? =some fn∧(fn.name== "runtime.NumGoroutine")=false∧fn.body.isNone=false
theorem aeU {P:Program} {f:FuncId} (h:sk P f) (args:Array Value) (w:World):(callFunc f args).run P w= .ok (.enter f args) w:=by
 obtain ⟨fn,U,ad,aq⟩:=h
 have Fo:¬fn.name= "runtime.NumGoroutine" :=by simpa using ad
 have Wz:¬fn.body=none:=by
   intro h;rw[h] at aq;cases aq
 simp[callFunc,program,Sem.run,bind,Sem.bind,U,Fo,Wz,pure]
def WA:Op→Bool
 | .select _ _=>true
 |_=>false
def aeV (P:Program) (T:TypeId):Operand→Bool
 | .const _=>false
 |_=>Gz (P.underlying T)||B3 (P.underlying T)
def atl (P:Program) (op:BinOp) (T:TypeId) (Mm I8:Operand) (x y:Value) (b:Bool):Prop:=
 ∀w,Sem.run P (do eqGuard op T Mm I8 x y;binOp op T x y:Sem Value) w= .ok (.bool b) w
def I9:Operand→Value→Bool
 | .const _,_=>true
 |_, .nilIface=>false
 |_,_=>true
def tz (P:Program) (aI:TypeId→jZ) (o:Oper) (K:Value→World→Prop) (e:Env) (w:World):Prop:=
 match o.op with
 | .nilCheck x=>match bC e x with
   |some (.pointer p)=>∃A,p=some A∧K (.pointer (some A)) w
   |_=>False
 | .load T x=>match bC e x with
   |some (.pointer (some A))=>I5 P aI T A w fun v=>K v w
   |_=>False
 | .store T x y=>match bC e x,bC e y with
   |some (.pointer (some A)),some v=>Ww P aI T A v w fun w'=>az w' fun ag=>K undef ag
   |_,_=>False
 | .binOp op T x y _=>match bC e x,bC e y with
   |some gd,some vZ=>bif aeV P T y then (∃b:Bool,atl P op T x y gd vZ b∧K (.bool b) w) else
       bif I9 y vZ then QC P op T gd vZ (fun v=>K v w) (gen P aI o K e w) else False
   |_,_=>False
 | .indexAddr T x i=>match bC e x,bC e i with
   |some gd,some pG=>QG P T gd pG fun v=>K v w
   |_,_=>False
 | .index T x i=>match bC e x,bC e i with
   |some gd,some pG=>QH P aI T gd pG fun v=>K v w
   |_,_=>False
 | .field T x i=>match bC e x with
   |some gd=>QI P aI T gd i fun v=>K v w
   |_=>False
 | .alloc _=>Mo P o K e w
 | .box _ _=>Mo P o K e w
 | .buildSlice T n ps=>bif aeT (aeS P aI T) then
     (bif known e o.op.operands then
       qC (aI o.type) fun r=>∃ag,(Instr.buildSlice T n (ps.map fun p=>(p.1,ro e p.2))).run P w= .ok r ag∧K r ag
     else False)
   else Mo P o K e w
 | .slice T x lo hi vX=>bif known e o.op.operands then
     QJ P T (ro e x) (lo.map (ro e)) (hi.map (ro e)) (vX.map (ro e)) fun v=>K v w
   else False
 | .makeSlice T l c=>match bC e l,bC e c with
   |some aeW,some CU=>Wx P T aeW CU w fun v w'=>az w' fun ag=>K v ag
   |_,_=>False
 | .convert s d x=>match bC e x with
   |some (.int j n)=>bif (P.underlying s).isSome then
       match P.underlying d with
       |some (.int k)=>K (.int k (k.wrap n)) w
       |_=>qC (aI o.type) fun r=>∃ag,(convert s d (.int j n)).run P w= .ok r ag∧K r ag
     else False
   |some v=>qC (aI o.type) fun r=>∃ag,(convert s d v).run P w= .ok r ag∧K r ag
   |none=>False
 | .build t ps=>match aI t with
   | .one (.flat _)=>gen P aI o K e w
   |_=>bif known e o.op.operands then
       ∃cs:Array Value,(Instr.build t (ps.map fun p=>(p.1,ro e p.2))).run P w= .ok (.agg cs) w∧K (.agg cs) w
     else False
 | .lookup T m i ok=>match bC e m,bC e i with
   |some sC,some pG=>qC (aI o.type) fun r=>∃ag,(Instr.lookup T sC pG ok).run P w= .ok r ag∧K r ag
   |_,_=>False
 | .mapUpdate T m i x=>match bC e m,bC e i,bC e x with
   |some sC,some pG,some gd=>∃ag,(Instr.mapUpdate T sC pG gd).run P w= .ok () ag∧K undef ag
   |_,_,_=>False
 | .makeMap T r=>bif known e o.op.operands then qC (aI o.type) fun v=>∃ag,(Instr.makeMap T (r.map (ro e))).run P w= .ok v ag∧K v ag else False
 | .range T x=>match bC e x with
   |some gd=>∃v ag,(Instr.range T gd).run P w= .ok v ag∧K v ag
   |_=>False
 | .next it I_=>match bC e it with
   |some gd=>(bif I_ then ∃ (n:Int) (c:Int) (ag:World),(Instr.next gd I_ o.type).run P w= .ok (.tuple #[.bool true, .int .i64 n, .int .i32 c]) ag∧K (.tuple #[.bool true, .int .i64 n, .int .i32 c]) ag
       else ∃ (k:Value) (v:Value) (ag:World),(Instr.next gd I_ o.type).run P w= .ok (.tuple #[.bool true,k,v]) ag∧K (.tuple #[.bool true,k,v]) ag)∨
       (∃ag:World,(Instr.next gd I_ o.type).run P w= .ok (.tuple #[.bool false]) ag∧K (.tuple #[.bool false]) ag)
   |_=>False
 | .call c=>match c.callee with
   | .value (.tmp k)=>match e.get k with
     |some (.func (.func f) pre cap)=>bif known e o.op.operands then
         sk P f∧Calls P f (pre++c.args.map (ro e)++cap) w fun vf ag=>qC (aI o.type) fun v=>vf= .returned v∧K v ag
       else False
     |_=>gen P aI o K e w
   | .builtin .append=>bif known e o.op.operands then qC (aI o.type) fun r=>∃ag,(Builtin.append_ c.argTypes o.type (c.args.map (ro e))).run P w= .ok r ag∧K r ag else False
   | .builtin .copy=>bif known e o.op.operands then qC (aI o.type) fun r=>∃ag,(Builtin.copy_ c.argTypes o.type (c.args.map (ro e))).run P w= .ok r ag∧K r ag else False
   | .builtin .min=>bif known e o.op.operands then qC (aI o.type) fun r=>∃ag,(Builtin.min_ c.argTypes o.type (c.args.map (ro e))).run P w= .ok r ag∧K r ag else False
   | .builtin .max=>bif known e o.op.operands then qC (aI o.type) fun r=>∃ag,(Builtin.max_ c.argTypes o.type (c.args.map (ro e))).run P w= .ok r ag∧K r ag else False
   | .builtin .delete=>bif known e o.op.operands then ∃r ag,(Builtin.delete_ c.argTypes o.type (c.args.map (ro e))).run P w= .ok r ag∧K r ag else False
   | .value (.func f)=>match P.funcs[f]? with
     |some fn=>match fn.body with
       |some _=>gen P aI o K e w
       |none=>bif known e o.op.operands then qC (aI o.type) fun r=>∃ag,(callFunc f (c.args.map (ro e))).run P w= .ok (.value r) ag∧K r ag else False
     |none=>False
   | .builtin .unsafeString=>bif known e o.op.operands then qC (aI o.type) fun r=>∃ag,(Builtin.unsafeString_ c.argTypes o.type (c.args.map (ro e))).run P w= .ok r ag∧K r ag else False
   | .builtin .unsafeSliceData=>bif known e o.op.operands then qC (aI o.type) fun r=>∃ag,(Builtin.unsafeSliceData_ c.argTypes o.type (c.args.map (ro e))).run P w= .ok r ag∧K r ag else False
   | .builtin .clear=>bif known e o.op.operands then ∃r ag,(Builtin.clear_ c.argTypes o.type (c.args.map (ro e))).run P w= .ok r ag∧K r ag else False
   | .builtin .len=>match ((c.args.map (ro e))[0]? :Option Value) with
     |some (Value.map _)=>bif known e o.op.operands then qC (aI o.type) fun r=>∃ag,(Builtin.len_ c.argTypes o.type (c.args.map (ro e))).run P w= .ok r ag∧K r ag else False
     |_=>gen P aI o K e w
   |_=>gen P aI o K e w
 | .sliceToArrayPointer T x=>match bC e x with
   |some gd=>QF P T gd fun v=>K v w
   |_=>False
 | .mapEntry T m i=>match bC e m,bC e i with
   |some sC,some pG=>∃ (v0:Value) (st:Int) (ag:World),(Instr.mapEntry T sC pG).run P w= .ok (.tuple #[v0, .int .i64 st]) ag∧K (.tuple #[v0, .int .i64 st]) ag
   |_,_=>False
 | .entryStore T m s x=>match bC e m,bC e s,bC e x with
   |some sC,some vs,some gd=>∃ag,(Instr.entryStore T sC vs gd).run P w= .ok () ag∧K undef ag
   |_,_,_=>False
 | .entry it=>match bC e it with
   |some gd=>qC (aI o.type) fun v=>∃ag,(Instr.entry gd).run P w= .ok v ag∧K v ag
   |_=>False
 | .select _ _=>False
 |_=>gen P aI o K e w
def B4 (P:Program) (o:Oper) (a:Act) (w:World) (K:Value→World→Prop):Prop:=
 (∃v w',(execOp a.eval o).run P w= .ok (.value v) w'∧K v w')∨
 (∃w',(execOp a.eval o).run P w= .ok .skip w'∧K undef w')∨
 (∃f args w',(execOp a.eval o).run P w= .ok (.enter f args) w'∧Calls P f args w' fun vf iH=>∃v,vf= .returned v∧K v iH)
theorem B4.wp {P:Program} {o:Oper} {a:Act} {w:World} {K:Value→World→Prop} {next:Act→World→Prop} {Q:Exit→Act→World→Prop}
   (h:B4 P o a w K) (aD:∀v w',K v w'→next (a.put o.dst v) w'):o.wp P a w next Q:=by
 unfold Oper.wp
 rcases h with ⟨v,w',h,bq⟩|⟨w',h,bq⟩|⟨f,args,w',h,ak⟩
 · rw[h];exact aD _ _ bq
 · rw[h];exact aD _ _ bq
 · rw[h]
   exact ak.mono fun vf iH ⟨v,al,bq⟩=>by subst al;exact aD _ _ bq
section
variable {P:Program} {aI:TypeId→jZ} {o:Oper} {K:Value→World→Prop} {e:Env} {a:Act} {w:World}
theorem atm (ay:gr e a) {xs:Array Operand} (h:known e xs=true):∀x∈xs,a.eval x=ro e x:=by
 intro x af
 exact ay.ro (GZ.1 h x (by simpa using af))
theorem v7 (ay:gr e a) (aj:WA o.op=false) (h:known e o.op.operands=true):execOp a.eval o=execOp (ro e) o:=
 execOp_congr o (fun cs b ak=>by rw[ak] at aj;cases aj) (atm ay h)
theorem GA (ay:gr e a) (aj:WA o.op=false) (h:gen P aI o K e w):B4 P o a w K:=by
 unfold gen at h
 by_cases ae:known e o.op.operands=true
 · rw[ae] at h
   simp only[cond_true] at h
   have ak:=v7 ay aj ae
   unfold B4
   rw[ak]
   split at h
   · rename_i v w' aY
     exact .inl ⟨v,w',aY,h⟩
   · rename_i w' aY
     exact .inr (.inl ⟨w',aY,h⟩)
   · rename_i f args w' aY
     refine .inr (.inr ⟨f,args,w',aY,h.mono fun vf iH atn=> ?_⟩)
     exact rl atn
   · exact h.elim
 · simp only[lW] at ae
   rw[ae] at h
   exact h.elim
theorem WB (ay:gr e a) (aj:WA o.op=false) (h:Mo P o K e w):B4 P o a w K:=by
 unfold Mo at h
 by_cases ae:known e o.op.operands=true
 · rw[ae] at h
   simp only[cond_true] at h
   have ak:=v7 ay aj ae
   unfold B4
   rw[ak]
   split at h
   · rename_i v w' aY
     exact .inl ⟨v,w',aY,h⟩
   · exact h.elim
 · simp only[lW] at ae
   rw[ae] at h
   exact h.elim
theorem WC:∀ {ls:List jY} {A:Addr} {i:Nat} {K:List Value→Prop},Wv ls A i w K→∃vs,eH w A i ls.length=some vs∧K vs
 | [],_,_,_,h=>⟨[],rfl,h⟩
 |l::ls,A,i,K,h=>by
   obtain ⟨v,al,h⟩:=I4 h
   obtain ⟨vs,ku,h⟩:=WC h
   exact ⟨v::vs,by simp[eH,al,ku],h⟩
theorem aeX {T:TypeId} {A:Addr} {K:Value→Prop} (h:I5 P aI T A w K):∃v,(Instr.loadAt T (.pointer (some A))).run P w= .ok v w∧K v:=by
 have ba:(Instr.loadAt T (.pointer (some A))).run P w=(loadVar T A).run P w:=by simp[Instr.loadAt,Instr.sureAddr]
 rw[ba]
 unfold I5 at h
 split at h
 · exact h.elim
 · rename_i d bn
   cases hd:zO d with
   |true=>
     rw[hd] at h
     simp only[cond_true] at h
     split at h
     · rename_i ls _
       by_cases aa:Nat.beq (P.cellsOf T) ls.length=true
       · rw[aa] at h
         simp only[cond_true] at h
         obtain ⟨vs,ku,h⟩:=WC h
         rw[←qK aa] at ku
         exact ⟨_,QB bn hd ku,h⟩
       · simp only[lW] at aa;rw[aa] at h;exact h.elim
     · obtain ⟨cs,ak,h⟩:=h
       exact ⟨_,QB bn hd ak,h⟩
   |false=>
     rw[hd] at h
     simp only[cond_false] at h
     split at h
     · obtain ⟨v,al,h⟩:=I4 h
       exact ⟨v,aeE bn hd al,h⟩
     · exact h.elim
theorem WD {v:Value} (h:Plain v):v.cells= #[v]:=by cases v<;>first|rfl|exact h.elim
theorem add_zero' (A:Addr):A.add 0=A:=rfl
theorem ato {T:TypeId} {A:Addr} {x:Value} {K:World→Prop} (h:Ww P aI T A x w K):
   ∃w',(Instr.storeAt T (.pointer (some A)) x).run P w= .ok () w'∧K w':=by
 have ba:(Instr.storeAt T (.pointer (some A)) x).run P w=(storeVar T A x).run P w:=by simp[Instr.storeAt,Instr.sureAddr]
 rw[ba]
 unfold Ww at h
 split at h
 · exact h.elim
 · rename_i d bn
   cases hd:zO d with
   |true=>
     rw[hd] at h
     simp only[cond_true] at h
     split at h
     · rename_i cs
       exact ⟨_,aeF (v:= .agg cs) bn h.2.1 h.1,h.2.2⟩
     · exact h.elim
   |false=>
     rw[hd] at h
     simp only[cond_false] at h
     have one:∀ (aV:Plain x) (aa:Nat.beq (P.cellsOf T) 1=true),((∃u,w.cell? A=some u)∧w.frozen? A=false∧K (w.setCell A x))→∃w',(storeVar T A x).run P w= .ok () w'∧K w':=by
       intro aV aa ⟨⟨u,hu⟩,aA,bq⟩
       refine ⟨_,aeF (v:=x) bn ?_ ?_,?_⟩
       · rw[WD aV,qK aa];rfl
       · rw[WD aV]
         refine ⟨fun i hi=> ?_,fun v al=> ?_⟩
         · have:i=0:=by simpa using hi
           subst this
           rw[add_zero',hu]
           exact ⟨rfl,aA⟩
         · have:v=x:=by simpa using al
           subst this;exact aV
       · rw[WD aV]
         exact bq
     by_cases aa:Nat.beq (P.cellsOf T) 1=true
     · have jo:=aa
       rw[aa] at h
       simp only[cond_true] at h
       split at h
       · exact one h.1 jo h.2
       · split at h
         · exact h.elim
         · exact h.elim
         · rename_i U ad
           refine one ?_ jo h
           cases x<;>first|exact trivial|(exact absurd rfl (U _))|(exact absurd rfl (ad _))
     · simp only[lW] at aa;rw[aa] at h;exact h.elim
theorem QK (ay:gr e a) (h:tz P aI o K e w):B4 P o a w K:=by
 unfold tz at h
 split at h
 case h_1 x b_=>
   split at h
   · rename_i p af
     obtain ⟨A,rfl,bq⟩:=h
     exact .inl ⟨_,_,by simp[execOp,b_,ay.bC af],bq⟩
   · exact h.elim
 case h_2 T x b_=>
   split at h
   · rename_i A af
     obtain ⟨v,al,bq⟩:=aeX h
     exact .inl ⟨v,w,by simp[execOp,b_,ay.bC af,al],bq⟩
   · exact h.elim
 case h_3 T x y b_=>
   split at h
   · rename_i A v af b2
     obtain ⟨w',hw,bq⟩:=ato h
     exact .inr (.inl ⟨w',by simp[execOp,b_,ay.bC af,ay.bC b2,hw],bq⟩)
   · exact h.elim
 case h_4 op T x y aeY b_=>
   split at h
   · rename_i gd vZ af b2
     by_cases bG:aeV P T y=true
     · rw[bG] at h
       simp only[cond_true] at h
       obtain ⟨b,aa,bq⟩:=h
       exact .inl ⟨_,w,by
         simp only[execOp,b_,ay.bC af,ay.bC b2]
         have qU:=aa w
         simp only[Sem.run_bind] at qU⊢
         rw[qU];rfl,bq⟩
     simp only[lW] at bG
     rw[bG] at h
     simp only[cond_false] at h
     by_cases aD:I9 y vZ=true
     · rw[aD] at h
       simp only[cond_true] at h
       have L8:vZ= .nilIface→∃c,y= .const c:=by
         intro al
         subst al
         cases y<;>simp[I9] at aD⊢
       rcases aeL (Mm:=x) (I8:=y) L8 h with bl|⟨v,al,bq⟩
       · exact GA ay (by rw[b_];rfl) bl
       · exact .inl ⟨v,w,by
           simp only[execOp,b_,ay.bC af,ay.bC b2]
           have qU:=al w
           simp only[Sem.run_bind] at qU⊢
           rw[qU];rfl,bq⟩
     · simp only[lW] at aD;rw[aD] at h;exact h.elim
   · exact h.elim
 case h_5 T x i b_=>
   split at h
   · rename_i gd pG af hi
     obtain ⟨v,al,bq⟩:=aeN h
     exact .inl ⟨v,w,by simp[execOp,b_,ay.bC af,ay.bC hi,al],bq⟩
   · exact h.elim
 case h_6 T x i b_=>
   split at h
   · rename_i gd pG af hi
     obtain ⟨v,al,bq⟩:=aeP h
     exact .inl ⟨v,w,by simp[execOp,b_,ay.bC af,ay.bC hi,al],bq⟩
   · exact h.elim
 case h_7 T x i b_=>
   split at h
   · rename_i gd af
     obtain ⟨v,al,bq⟩:=aeQ h
     exact .inl ⟨v,w,by simp[execOp,b_,ay.bC af,al],bq⟩
   · exact h.elim
 case h_8 T b_=>exact WB ay (by rw[b_];rfl) h
 case h_9 T x b_=>exact WB ay (by rw[b_];rfl) h
 case h_10 T n ps b_=>
   cases J:aeT (aeS P aI T) with
   |true=>
     rw[J] at h
     simp only[cond_true] at h
     by_cases ae:known e o.op.operands=true
     · rw[ae] at h
       simp only[cond_true] at h
       have ak:=v7 ay (by rw[b_];rfl) ae
       obtain ⟨r,ag,aY,bq⟩:=rl h
       exact .inl ⟨r,ag,by rw[ak];simp[execOp,b_];rw[aY];rfl,bq⟩
     · simp only[lW] at ae;rw[ae] at h;exact h.elim
   |false=>
     rw[J] at h
     exact WB ay (by rw[b_];rfl) h
 case h_11 T x lo hi vX b_=>
   by_cases ae:known e o.op.operands=true
   · rw[ae] at h
     simp only[cond_true] at h
     have ak:=v7 ay (by rw[b_];rfl) ae
     obtain ⟨v,al,bq⟩:=aeR h
     exact .inl ⟨v,w,by rw[ak];simp[execOp,b_,al],bq⟩
   · simp only[lW] at ae;rw[ae] at h;exact h.elim
 case h_12 T l c b_=>
   split at h
   · rename_i aeW CU aB ak
     obtain ⟨v,w',al,bq⟩:=atj h
     exact .inl ⟨v,w',by simp[execOp,b_,ay.bC aB,ay.bC ak,al],bq⟩
   · exact h.elim
 case h_13 s d x b_=>
   split at h
   · rename_i k n af
     by_cases aj:(P.underlying s).isSome=true
     · rw[aj] at h
       simp only[cond_true] at h
       obtain ⟨ds,pe⟩:=tY _ aj
       split at h
       · rename_i mN hd
         exact .inl ⟨_,_,by simp[execOp,b_,ay.bC af,convert,fV pe,fV hd,Conv.intToInt],h⟩
       · obtain ⟨r,ag,aY,bq⟩:=rl h
         exact .inl ⟨r,ag,by simp[execOp,b_,ay.bC af,aY],bq⟩
     · simp only[lW] at aj;rw[aj] at h;exact h.elim
   · rename_i v _ af
     obtain ⟨r,ag,aY,bq⟩:=rl h
     exact .inl ⟨r,ag,by simp[execOp,b_,ay.bC af,aY],bq⟩
   · exact h.elim
 case h_14 t ps b_=>
   split at h
   · exact GA ay (by rw[b_];rfl) h
   · by_cases ae:known e o.op.operands=true
     · rw[ae] at h
       simp only[cond_true] at h
       have ak:=v7 ay (by rw[b_];rfl) ae
       obtain ⟨cs,aY,bq⟩:=h
       exact .inl ⟨_,_,by rw[ak];simp[execOp,b_];rw[aY];rfl,bq⟩
     · simp only[lW] at ae;rw[ae] at h;exact h.elim
 case h_15 T m i ok b_=>
   split at h
   · rename_i sC pG hm hi
     obtain ⟨r,ag,aY,bq⟩:=rl h
     exact .inl ⟨r,ag,by simp[execOp,b_,ay.bC hm,ay.bC hi,aY],bq⟩
   · exact h.elim
 case h_16 T m i x b_=>
   split at h
   · rename_i sC pG gd hm hi af
     obtain ⟨ag,aY,bq⟩:=h
     exact .inr (.inl ⟨ag,by simp[execOp,b_,ay.bC hm,ay.bC hi,ay.bC af,aY],bq⟩)
   · exact h.elim
 case h_17 T r b_=>
   by_cases ae:known e o.op.operands=true
   · rw[ae] at h
     simp only[cond_true] at h
     have ak:=v7 ay (by rw[b_];rfl) ae
     obtain ⟨v,ag,aY,bq⟩:=rl h
     exact .inl ⟨v,ag,by rw[ak];simp[execOp,b_,aY],bq⟩
   · simp only[lW] at ae;rw[ae] at h;exact h.elim
 case h_18 T x b_=>
   split at h
   · rename_i gd af
     obtain ⟨v,ag,aY,bq⟩:=h
     exact .inl ⟨v,ag,by simp[execOp,b_,ay.bC af,aY],bq⟩
   · exact h.elim
 case h_19 it I_ b_=>
   split at h
   · rename_i gd af
     rcases h with h|⟨ag,aY,bq⟩
     · cases I_ with
       |true=>
         obtain ⟨n,c,ag,aY,bq⟩:=h
         exact .inl ⟨_,ag,by simp[execOp,b_,ay.bC af,aY],bq⟩
       |false=>
         obtain ⟨k,v,ag,aY,bq⟩:=h
         exact .inl ⟨_,ag,by simp[execOp,b_,ay.bC af,aY],bq⟩
     · exact .inl ⟨_,ag,by simp[execOp,b_,ay.bC af,aY],bq⟩
   · exact h.elim
 case h_20 c b_=>
   have bi:∀ (b:Builtin) (r:Value) (ag:World),c.callee= .builtin b→known e o.op.operands=true→
       (∀cs,(Go.builtin b c.argTypes o.type cs (c.args.map (ro e))).run P w= .ok (.value r) ag)→K r ag→B4 P o a w K:=by
     intro b r ag aa ae aY bq
     have ak:=v7 ay (by rw[b_];rfl) ae
     exact .inl ⟨r,ag,by rw[ak];simp[execOp,b_,resolve,aa,invoke,aY],bq⟩
   have xX:∀ {X:Prop},(bif known e o.op.operands then X else False)→known e o.op.operands=true∧X:=by
     intro X dO
     by_cases ae:known e o.op.operands=true
     · rw[ae] at dO;exact ⟨ae,dO⟩
     · simp only[lW] at ae;rw[ae] at dO;exact dO.elim
   split at h
   · rename_i k aa
     split at h
     · rename_i f pre cap bl
       obtain ⟨ae,u_,h⟩:=xX h
       have ak:=v7 ay (by rw[b_];rfl) ae
       refine .inr (.inr ⟨f,pre++c.args.map (ro e)++cap,w,?_,h.mono fun vf ag U=> ?_⟩)
       · have WE:ro e (.tmp k)= .func (.func f) pre cap:=by simp[ro,bC,bl]
         rw[ak]
         simp[execOp,b_,resolve,aa,WE,Deferred.ofValue,invoke,aeU u_]
       · obtain ⟨v,al,bq⟩:=rl U
         exact ⟨v,al,bq⟩
     · exact GA ay (by rw[b_];rfl) h
   · rename_i aa
     obtain ⟨ae,h⟩:=xX h
     obtain ⟨r,ag,aY,bq⟩:=rl h
     exact bi _ r ag aa ae (fun _=>by simp[Go.builtin,aY]) bq
   · rename_i aa
     obtain ⟨ae,h⟩:=xX h
     obtain ⟨r,ag,aY,bq⟩:=rl h
     exact bi _ r ag aa ae (fun _=>by simp[Go.builtin,aY]) bq
   · rename_i aa
     obtain ⟨ae,h⟩:=xX h
     obtain ⟨r,ag,aY,bq⟩:=rl h
     exact bi _ r ag aa ae (fun _=>by simp[Go.builtin,aY]) bq
   · rename_i aa
     obtain ⟨ae,h⟩:=xX h
     obtain ⟨r,ag,aY,bq⟩:=rl h
     exact bi _ r ag aa ae (fun _=>by simp[Go.builtin,aY]) bq
   · rename_i aa
     obtain ⟨ae,r,ag,aY,bq⟩:=xX h
     exact bi _ r ag aa ae (fun _=>by simp[Go.builtin,aY]) bq
   · rename_i f aa
     split at h
     · rename_i fn Dm
       split at h
       · exact GA ay (by rw[b_];rfl) h
       · obtain ⟨ae,h⟩:=xX h
         obtain ⟨r,ag,aY,bq⟩:=rl h
         have ak:=v7 ay (by rw[b_];rfl) ae
         refine .inl ⟨r,ag,?_,bq⟩
         rw[ak]
         have WE:ro e (.func f)= .func (.func f) #[] #[]:=by simp[ro,bC]
         simp[execOp,b_,resolve,aa,WE,Deferred.ofValue,invoke,aY]
     · exact h.elim
   · rename_i aa
     obtain ⟨ae,h⟩:=xX h
     obtain ⟨r,ag,aY,bq⟩:=rl h
     exact bi _ r ag aa ae (fun _=>by simp[Go.builtin,aY]) bq
   · rename_i aa
     obtain ⟨ae,h⟩:=xX h
     obtain ⟨r,ag,aY,bq⟩:=rl h
     exact bi _ r ag aa ae (fun _=>by simp[Go.builtin,aY]) bq
   · rename_i aa
     obtain ⟨ae,r,ag,aY,bq⟩:=xX h
     exact bi _ r ag aa ae (fun _=>by simp[Go.builtin,aY]) bq
   · rename_i aa
     split at h
     · obtain ⟨ae,h⟩:=xX h
       obtain ⟨r,ag,aY,bq⟩:=rl h
       exact bi _ r ag aa ae (fun _=>by simp[Go.builtin,aY]) bq
     · exact GA ay (by rw[b_];rfl) h
   · exact GA ay (by rw[b_];rfl) h
 case h_21 T x b_=>
   split at h
   · rename_i gd af
     obtain ⟨v,al,bq⟩:=aeM h
     exact .inl ⟨v,w,by simp[execOp,b_,ay.bC af,al],bq⟩
   · exact h.elim
 case h_22 T m i b_=>
   split at h
   · rename_i sC pG hm hi
     obtain ⟨v0,st,ag,aY,bq⟩:=h
     exact .inl ⟨_,ag,by simp[execOp,b_,ay.bC hm,ay.bC hi,aY],bq⟩
   · exact h.elim
 case h_23 T m s x b_=>
   split at h
   · rename_i sC vs gd hm aj af
     obtain ⟨ag,aY,bq⟩:=h
     exact .inr (.inl ⟨ag,by simp[execOp,b_,ay.bC hm,ay.bC aj,ay.bC af,aY],bq⟩)
   · exact h.elim
 case h_24 it b_=>
   split at h
   · rename_i gd af
     obtain ⟨v,ag,aY,bq⟩:=rl h
     exact .inl ⟨v,ag,by simp[execOp,b_,ay.bC af,aY],bq⟩
   · exact h.elim
 case h_25=>exact h.elim
 case h_26=>
   refine GA ay ?_ h
   cases b_:o.op<;>first|rfl|simp_all
end
end b8
namespace b8
open Go
inductive B5 where
 |run
 |split (n:Nat)
 |pure (n:Nat)
 |QL (ks:List qc)
def kB (P:Program) (o:Oper) (e:Env):Option Value:=
 match o.op with
 | .move x=>bC e x
 | .assign x=>bC e x
 | .unOp .not _ x=>match bC e x with
   |some (.bool b)=>some (.bool (!b))
   |_=>none
 | .binOp op T x y _=>match bC e y with
   |some (.int mN b)=>match bC e x with
     |some (.int k a)=>bif uN k mN then
         match op with
         | .add=>some (.int k (k.wrap (a+b)))
         | .sub=>some (.int k (k.wrap (a-b)))
         | .mul=>some (.int k (k.wrap (a*b)))
         | .quo=>match b with
           | .ofNat (.succ m)=>some (.int k (k.wrap (a.tdiv (.ofNat (.succ m)))))
           |_=>none
         | .rem=>match b with
           | .ofNat (.succ m)=>some (.int k (a.tmod (.ofNat (.succ m))))
           |_=>none
         | .and=>some (.int k (k.wrap (BitVec.ofInt k.bits a&&&BitVec.ofInt k.bits b).toNat))
         | .or=>some (.int k (k.wrap (BitVec.ofInt k.bits a|||BitVec.ofInt k.bits b).toNat))
         | .eql=>some (.bool (a==b))
         | .neq=>some (.bool (a !=b))
         | .lss=>some (.bool (a<b))
         | .leq=>some (.bool (a≤b))
         | .gtr=>some (.bool (a>b))
         | .geq=>some (.bool (a≥b))
         |_=>none
       else none
     |_=>none
   |some (.bool b)=>match bC e x with
     |some (.bool a)=>match P.underlying T with
       |some .bool=>match op with
         | .eql=>some (.bool (a==b))
         | .neq=>some (.bool (!(a==b)))
         |_=>none
       |_=>none
     |_=>none
   |some (.string b)=>match bC e x with
     |some (.string a)=>match op with
       | .eql=>some (.bool (a.toList==b.toList))
       | .neq=>some (.bool (!(a.toList==b.toList)))
       |_=>none
     |_=>none
   |some (.pointer none)=>match bC e x with
     |some (.pointer p)=>bif B3 (P.underlying T) then match op with
         | .eql=>some (.bool p.isNone)
         | .neq=>some (.bool (!p.isNone))
         |_=>none
       else none
     |_=>none
   |some (.slice none _ _)=>match bC e x with
     |some (.slice p _ _)=>bif Eo (P.underlying T) then match op with
         | .eql=>some (.bool p.isNone)
         | .neq=>some (.bool (!p.isNone))
         |_=>none
       else none
     |_=>none
   |_=>none
 | .convert s d x=>match bC e x with
   |some (.int _ n)=>match P.underlying d with
     |some (.int k)=>bif (P.underlying s).isSome then some (.int k (k.wrap n)) else none
     |_=>none
   |_=>none
 | .call {callee:= .builtin .len,args:=args,argTypes:=np}=>match args[0]?,np[0]? with
   |some x,some T=>match bC e x,P.underlying T with
     |some (.slice _ n _),some (.slice _)=>some (.int .i64 n)
     |some (.string s),some .string=>some (.int .i64 s.size)
     |_,_=>none
   |_,_=>none
 | .call {callee:= .builtin .cap,args:=args,argTypes:=np}=>match args[0]?,np[0]? with
   |some x,some T=>match bC e x,P.underlying T with
     |some (.slice _ _ c),some (.slice _)=>some (.int .i64 c)
     |_,_=>none
   |_,_=>none
 |_=>none
def Mp (ops:Array Oper) (e:Env) (j:Nat):Option Value:=((ops[j]?).bind (·.dst)).bind e.get
def atp (ops:Array Oper) (j:Nat):Option Nat:=(ops[j]?).bind (·.dst)
def axr (o:Oper) (e:Env) (K:Bool→Prop):Prop:=
 match o.guard with
 |none=>match o.op with
   | .pick x y z=>match bC e x with
     |some (.bool b)=>match bC e (bif b then y else z) with
       |some (.bool r)=>K r
       |_=>False
     |_=>False
   |_=>False
 |some _=>False
def pj (ops:Array Oper) (o:Oper) (e:Env) (run skip:Prop):Prop:=
 match o.guard with
 |none=>run
 |some (j,want)=>match Mp ops e j with
   |none=>False
   |some (.bool b)=>bif Bool.xor b want then skip else run
   |some _=>skip
def zP {α:Type} (ops:Array Oper) (o:Oper) (e:Env) (run skip:Option α):Option α:=
 match o.guard with
 |none=>run
 |some (j,want)=>match Mp ops e j with
   |none=>none
   |some (.bool b)=>bif Bool.xor b want then skip else run
   |some _=>skip
def xY (o:Oper) (e:Env):Option Bool:=
 match o.op with
 | .pick x y z=>match bC e x with
   |some (.bool b)=>match bC e (bif b then y else z) with
     |some (.bool r)=>some r
     |_=>none
   |_=>none
 |_=>none
def Mq (ops:Array Oper) (o:Oper) (e:Env):Option (Nat×Bool):=
 match o.guard with
 |none=>none
 |some (j,_)=>match atp ops j with
   |none=>none
   |some s=>match e.get s with
     |some (.bool c)=>some (s,c)
     |_=>none
def B6 (ops:Array Oper) (o:Oper) (e:Env):Bool:=
 match o.guard with
 |none=>true
 |some (j,want)=>match Mp ops e j with
   |some (.bool b)=> !(Bool.xor b want)
   |_=>false
def Ep (e:Env) (ds:List Nat):Bool:=e.all fun p=> !(ds.any fun d=>Nat.beq d p.1)
def cH (l:List Oper):List Nat:=l.filterMap (·.dst)
def r2 (P:Program) (ops:Array Oper):Nat→List Oper→List B5→Env→Option Env
 |0,_,_,_=>none
 |_+1,[],_,e=>some e
 |n+1,o::rest, .pure m::as,e=>
   match Mq ops o e,rest.drop (m-1) with
   |none,_=>
     match zP ops o e none (some undef) with
     |some v=>r2 P ops n rest as (gb o.dst v e)
     |none=>none
   |some (s,c),eA::ia=>
     match r2 P ops n (o::rest.take (m-1)) (.run::as.take (m-1)) ((s, .bool true)::e),r2 P ops n (o::rest.take (m-1)) (.run::as.take (m-1)) ((s, .bool false)::e) with
     |some ba,some bp=>
       match xY eA ba,xY eA bp with
       |some ar,some bD=>bif B6 ops eA e&&Ep e (cH (o::rest.take (m-1))) then r2 P ops n ia (as.drop m) (gb eA.dst (.bool (cond c ar bD)) e) else none
       |_,_=>none
     |_,_=>none
   |_,_=>none
 |n+1,o::rest,_::as,e=>
   match zP ops o e (kB P o e) (some undef) with
   |some v=>r2 P ops n rest as (gb o.dst v e)
   |none=>none
 |n+1,o::rest,[],e=>
   match zP ops o e (kB P o e) (some undef) with
   |some v=>r2 P ops n rest [] (gb o.dst v e)
   |none=>none
inductive de {α:Type} (B:α→Prop) (k:α):Prop where
 |mk (h:B k)
theorem de.out {α:Type} {B:α→Prop} {k:α} (h:de B k):B k:=by cases h with|mk h=>exact h
def QM (P:Program) (ks:List qc) (o:Oper) (K:Value→World→Prop) (e:Env) (w:World):Prop:=
 match o.op with
 | .entry it=>match bC e it with
   |some gd=>Qz ks fun vs=>∃ag,(Instr.entry gd).run P w= .ok (.tuple vs.toArray) ag∧K (.tuple vs.toArray) ag
   |_=>False
 |_=>False
theorem atq {P:Program} {ks:List qc} {o:Oper} {K:Value→World→Prop} {e:Env} {w:World} {a:Act} (ay:gr e a) (h:QM P ks o K e w):B4 P o a w K:=by
 unfold QM at h
 split at h
 · rename_i it b_
   split at h
   · rename_i gd af
     obtain ⟨v,ag,aY,bq⟩:=Wu h
     exact .inl ⟨_,ag,by simp[execOp,b_,ay.bC af,aY],bq⟩
   · exact h.elim
 · exact h.elim
def mB (P:Program) (aI:TypeId→jZ) (ops:Array Oper):Nat→List Oper→List B5→(Env→World→Prop)→Env→World→Prop
 |0,_,_,_,_,_=>False
 |_+1,[],_,K,e,w=>K e w
 |n+1,o::rest, .QL ks::as,K,e,w=>
   pj ops o e (QM P ks o (fun v w'=>mB P aI ops n rest as K (gb o.dst v e) w') e w) (mB P aI ops n rest as K (gb o.dst undef e) w)
 |n+1,o::rest, .pure m::as,K,e,w=>
   match Mq ops o e,rest.drop (m-1) with
   |none,_=>pj ops o e False (mB P aI ops n rest as K (gb o.dst undef e) w)
   |some (s,c),eA::ia=>
     match r2 P ops n (o::rest.take (m-1)) (.run::as.take (m-1)) ((s, .bool true)::e),r2 P ops n (o::rest.take (m-1)) (.run::as.take (m-1)) ((s, .bool false)::e) with
     |some ba,some bp=>
       match xY eA ba,xY eA bp with
       |some ar,some bD=>bif B6 ops eA e&&Ep e (cH (o::rest.take (m-1))) then mB P aI ops n ia (as.drop m) K (gb eA.dst (.bool (cond c ar bD)) e) w else False
       |_,_=>False
     |_,_=>False
   |_,_=>False
 |n+1,o::rest, .split m::as,K,e,w=>
   match Mq ops o e,rest.drop (m-1) with
   |none,_=>pj ops o e False (mB P aI ops n rest as K (gb o.dst undef e) w)
   |some (s,c),eA::ia=>
     bif B6 ops eA e&&Ep e (cH (o::rest.take (m-1))) then
       de (fun k:Bool→World→Prop=>
           (c=true→mB P aI ops n (o::rest.take (m-1)) (.run::as.take (m-1)) (fun eD w'=>match xY eA eD with|some r=>k r w'|none=>False) ((s, .bool true)::e) w)∧
           (c=false→mB P aI ops n (o::rest.take (m-1)) (.run::as.take (m-1)) (fun eD w'=>match xY eA eD with|some r=>k r w'|none=>False) ((s, .bool false)::e) w))
         (fun r w'=>mB P aI ops n ia (as.drop m) K (gb eA.dst (.bool r) e) w')
     else False
   |_,_=>False
 |n+1,o::rest,_::as,K,e,w=>
   pj ops o e (tz P aI o (fun v w'=>mB P aI ops n rest as K (gb o.dst v e) w') e w) (mB P aI ops n rest as K (gb o.dst undef e) w)
 |n+1,o::rest,[],K,e,w=>
   pj ops o e (tz P aI o (fun v w'=>mB P aI ops n rest [] K (gb o.dst v e) w') e w) (mB P aI ops n rest [] K (gb o.dst undef e) w)
structure h7 (ds:List Nat) (a db:Act):Prop where
 defers:db.defers=a.defers
 size:db.tmps.size=a.tmps.size
 same:∀s,s∉ds→db.tmps[s]? =a.tmps[s]?
theorem h7.refl (ds:List Nat) (a:Act):h7 ds a a:=⟨rfl,rfl,fun _ _=>rfl⟩
theorem h7.trans {ds:List Nat} {a b c:Act} (h:h7 ds a b) (k:h7 ds b c):h7 ds a c:=
 ⟨k.defers.trans h.defers,k.size.trans h.size,fun s aj=>(k.same s aj).trans (h.same s aj)⟩
theorem h7.mono {ds es:List Nat} {a b:Act} (h:h7 ds a b) (aj:∀s,s∈ds→s∈es):h7 es a b:=
 ⟨h.defers,h.size,fun s aD=>h.same s fun hm=>aD (aj s hm)⟩
theorem h7.put {a:Act} {d:Option Nat} {v:Value} {ds:List Nat} (hd:∀k,d=some k→k∈ds):h7 ds a (a.put d v):=by
 cases d with
 |none=>exact .refl _ _
 |some d=>exact ⟨rfl,by simp[Act.put],fun s aj=>by
     have:d≠s:=fun h=>aj (h▸hd d rfl)
     simp[Act.put,Array.getElem?_setIfInBounds_ne this]⟩
def n4 (a:Act) (ds:List Nat) (K:Env→World→Prop) (x:Exit) (db:Act) (w':World):Prop:=
 x= .normal∧h7 ds a db∧∃eD,gr eD db∧K eD w'
theorem r3 {P:Program} {ops:Array Oper} {Q Q':Exit→Act→World→Prop} (J:∀x a w,Q x a w→Q' x a w):
   ∀ (l:List Oper) (a:Act) (w:World),wpList P ops Q l a w→wpList P ops Q' l a w
 | [],_,_,h=>J _ _ _ h
 |o::l,a,w,h=>by
   simp only[wpList] at h⊢
   split
   · rename_i hw
     rw[if_pos hw] at h
     refine h.imp (fun h=> ?_) (fun ⟨U,db,w',ad⟩=>⟨U,db,w',J _ _ _ ad⟩)
     have:=Oper.wp_mono (Q:=Q) (fun a w=>r3 J l a w) h
     unfold Oper.wp at this⊢
     revert this
     generalize (execOp a.eval o).run P w=r
     intro this
     cases r with
     |ok bN w'=>
       cases bN<;>simp only[Oper.upon] at this⊢<;>first
         |exact this
         |(exact Calls.mono this fun e iH he=>by
             cases e with
             |returned v=>exact he
             |panicked c=>exact J _ _ _ he
             |outgrown=>exact let ⟨db,w',ad⟩:=he;⟨db,w',J _ _ _ ad⟩)
     |halt x w'=>cases x<;>simp only[Oper.upon] at this⊢<;>first|exact J _ _ _ this|exact this
   · rename_i hw
     rw[if_neg hw] at h
     exact r3 J l _ _ h
theorem Mr {P:Program} {ops:Array Oper} {Q:Exit→Act→World→Prop} (qZ:List Oper):
   ∀ (qY:List Oper) (a:Act) (w:World),wpList P ops (fun x a w=>x= .normal∧wpList P ops Q qZ a w) qY a w→wpList P ops Q (qY++qZ) a w
 | [],_,_,h=>h.2
 |o::l,a,w,h=>by
   simp only[EN,wpList] at h⊢
   split
   · rename_i hw
     rw[if_pos hw] at h
     rcases h with h|⟨_,db,w',ad,_⟩
     · left
       have:=Oper.wp_mono (fun a w=>Mr qZ l a w) h
       unfold Oper.wp at this⊢
       revert this
       generalize (execOp a.eval o).run P w=r
       intro this
       cases r with
       |ok bN w'=>
         cases bN<;>simp only[Oper.upon] at this⊢<;>first
           |exact this
           |(exact Calls.mono this fun e iH he=>by
               cases e with
               |returned v=>exact he
               |panicked c=>cases he.1
               |outgrown=>exact let ⟨db,w',ad⟩:=he;by cases ad.1)
       |halt x w'=>cases x<;>simp only[Oper.upon] at this⊢<;>first|(cases this.1;done)|exact this
     · cases ad
   · rename_i hw
     rw[if_neg hw] at h
     exact Mr qZ l _ _ h
section
variable {P:Program} {aI:TypeId→jZ} {ops:Array Oper}
def Aw:Value→Option Bool
 | .bool b=>some b
 |_=>none
theorem Ms {e:Env} {a:Act} (ay:gr e a) {j:Nat} {v:Value} (h:Mp ops e j=some v):
   yielded ops a.tmps j=Aw v:=by
 unfold Mp at h
 unfold yielded
 cases hd:(ops[j]?).bind (·.dst) with
 |none=>rw[hd] at h;simp at h
 |some s=>
   rw[hd] at h
   simp only[Option.bind_some] at h⊢
   rw[ay.get _ _ h]
   cases v<;>rfl
theorem Mt {o:Oper} {e:Env} {a:Act} (ay:gr e a) {R S:Prop} (h:pj ops o e R S):
   (Region.wanted o (yielded ops a.tmps)=true∧R)∨(Region.wanted o (yielded ops a.tmps)=false∧S):=by
 unfold pj at h
 unfold Region.wanted
 split at h
 · rename_i bl;rw[bl];exact .inl ⟨rfl,h⟩
 · rename_i j want bl
   rw[bl]
   simp only
   split at h
   · exact h.elim
   · rename_i b al
     rw[Ms ay al]
     cases b<;>cases want<;>first|exact .inl ⟨rfl,h⟩|exact .inr ⟨rfl,h⟩
   · rename_i v k0 al
     rw[Ms ay al]
     cases v<;>first|exact absurd rfl (k0 _)|exact .inr ⟨by cases want<;>rfl,h⟩
theorem aeZ {o:Oper} {e:Env} {R ae0 S:Prop} (h:pj ops o e R S) (aY:R→ae0):pj ops o e ae0 S:=by
 unfold pj at h⊢
 split at h
 · exact aY h
 · rename_i j want bl
   split at h
   · exact h
   · rename_i b al
     cases aa:Bool.xor b want<;>rw[aa] at h<;>first|exact aY h|exact h
   · exact h
theorem atr {α:Type} {o:Oper} {e:Env} {R S:Option α} {r:α} (h:zP ops o e none S=some r):zP ops o e R S=some r:=by
 unfold zP at h⊢
 split at h
 · cases h
 · rename_i j want bl
   split at h
   · exact h
   · rename_i b al
     cases aa:Bool.xor b want with
     |true=>rw[aa] at h;exact h
     |false=>rw[aa] at h;cases h
   · exact h
theorem ats {α:Type} {o:Oper} {e:Env} {a:Act} (ay:gr e a) {R S:Option α} {r:α} (h:zP ops o e R S=some r):
   (Region.wanted o (yielded ops a.tmps)=true∧R=some r)∨(Region.wanted o (yielded ops a.tmps)=false∧S=some r):=by
 unfold zP at h
 unfold Region.wanted
 split at h
 · rename_i bl;rw[bl];exact .inl ⟨rfl,h⟩
 · rename_i j want bl
   rw[bl]
   simp only
   split at h
   · cases h
   · rename_i b al
     rw[Ms ay al]
     cases b<;>cases want<;>first|exact .inl ⟨rfl,h⟩|exact .inr ⟨rfl,h⟩
   · rename_i v k0 al
     rw[Ms ay al]
     cases v<;>first|exact absurd rfl (k0 _)|exact .inr ⟨by cases want<;>rfl,h⟩
theorem ae1 {o:Oper} {e:Env} {a:Act} (ay:gr e a) {v:Value} (h:kB P o e=some v) (w:World):(execOp a.eval o).run P w= .ok (.value v) w:=by
 unfold kB at h
 split at h
 · rename_i x b_
   simp[execOp,b_,ay.bC h]
 · rename_i x b_
   simp[execOp,b_,ay.bC h]
 · rename_i t x b_
   split at h
   · rename_i b af
     cases h
     simp[execOp,b_,ay.bC af,Op.unary]
   · cases h
 · rename_i op T x y aeY b_
   split at h
   · rename_i mN b b2
     split at h
     · rename_i k c af
       by_cases ae:k=mN
       · subst ae
         simp only[uN,decide_true,cond_true] at h
         split at h
         case h_4=>
           split at h
           · cases h
             simp[execOp,b_,ay.bC af,ay.bC b2,eqGuard,binOp,Op.intDiv]
             intro bF;exfalso;revert bF;simp;omega
           · cases h
         case h_5=>
           split at h
           · cases h
             simp[execOp,b_,ay.bC af,ay.bC b2,eqGuard,binOp,Op.intDiv]
             intro bF;exfalso;revert bF;simp;omega
           · cases h
         all_goals first
           |(cases h;simp[execOp,b_,ay.bC af,ay.bC b2,eqGuard,binOp,Op.intArith,Op.intBits,Op.intCmp];done)
           |cases h
       · simp[uN,ae] at h
     · cases h
   · rename_i b b2
     split at h
     · rename_i c af
       split at h
       · rename_i bn
         have ba:∀ (d:Nat) (w:World),(Op.equalIn (d+1) T (.bool c) (.bool b)).run P w= .ok (c==b) w:=by
           intro d w
           simp[Op.equalIn,fV bn]
         have bp:∀w:World,(Op.equal T (.bool c) (.bool b)).run P w= .ok (c==b) w:=fun w=>by rw[I7];exact ba _ w
         split at h
         · cases h
           simp[execOp,b_,ay.bC af,ay.bC b2,eqGuard,binOp,bp]
         · cases h
           simp[execOp,b_,ay.bC af,ay.bC b2,eqGuard,binOp,bp]
         · cases h
       · cases h
     · cases h
   · rename_i b b2
     split at h
     · rename_i c af
       split at h
       · cases h
         have ba:(binOp .eql T (.string c) (.string b)).run P w= .ok (.bool (c.toList==b.toList)) w:=rfl
         simp only[execOp,b_,ay.bC af,ay.bC b2]
         simp[eqGuard,ba]
       · cases h
         have ba:(binOp .neq T (.string c) (.string b)).run P w= .ok (.bool (!(c.toList==b.toList))) w:=rfl
         simp only[execOp,b_,ay.bC af,ay.bC b2]
         simp[eqGuard,ba]
       · cases h
     · cases h
   · rename_i b2
     split at h
     · rename_i p af
       by_cases bn:B3 (P.underlying T)=true
       · rw[bn] at h
         simp only[cond_true] at h
         split at h
         · cases h;simp[execOp,b_,ay.bC af,ay.bC b2,eqGuard,binOp,QD (P:=P) bn]
         · cases h;simp[execOp,b_,ay.bC af,ay.bC b2,eqGuard,binOp,QD (P:=P) bn]
         · cases h
       · simp only[lW] at bn;rw[bn] at h;cases h
     · cases h
   · rename_i l c b2
     split at h
     · rename_i p _ _ af
       by_cases bn:Eo (P.underlying T)=true
       · rw[bn] at h
         simp only[cond_true] at h
         split at h
         · cases h;simp[execOp,b_,ay.bC af,ay.bC b2,eqGuard,binOp,QE (P:=P) bn]
         · cases h;simp[execOp,b_,ay.bC af,ay.bC b2,eqGuard,binOp,QE (P:=P) bn]
         · cases h
       · simp only[lW] at bn;rw[bn] at h;cases h
     · cases h
   · cases h
 · rename_i s d x b_
   split at h
   · rename_i k n af
     split at h
     · rename_i mN hd
       by_cases aj:(P.underlying s).isSome=true
       · rw[aj] at h
         cases h
         obtain ⟨ds,pe⟩:=tY _ aj
         simp[execOp,b_,ay.bC af,convert,fV pe,fV hd,Conv.intToInt]
       · simp only[lW] at aj;rw[aj] at h;cases h
     · cases h
   · cases h
 · rename_i args np b_
   split at h
   · rename_i x T GB QN
     split at h
     · rename_i p n c el af bn
       cases h
       simp[execOp,b_,resolve,invoke,Go.builtin,Builtin.len_,QN,GB,fV bn,ay.bC af,goInt]
     · rename_i s af bn
       cases h
       simp[execOp,b_,resolve,invoke,Go.builtin,Builtin.len_,QN,GB,fV bn,ay.bC af,goInt]
     · cases h
   · cases h
 · rename_i args np b_
   split at h
   · rename_i x T GB QN
     split at h
     · rename_i p n c el af bn
       cases h
       simp[execOp,b_,resolve,invoke,Go.builtin,Builtin.cap_,QN,GB,fV bn,ay.bC af,goInt]
     · cases h
   · cases h
 · cases h
theorem WG {e:Env} {ds:List Nat} {a db:Act} (ay:gr e a) (hd:Ep e ds=true) (ae:h7 ds a db):gr e db:=by
 constructor
 intro s v aj
 have hm:∃u,(s,u)∈e:=by
   clear hd ay
   induction e with
   |nil=>cases aj
   |cons p e dx=>
     obtain ⟨k,u⟩:=p
     rw[Gx] at aj
     by_cases tN:k=s
     · subst tN;exact ⟨u,by simp⟩
     · rw[if_neg tN] at aj
       obtain ⟨u,hu⟩:=dx aj
       exact ⟨u,by simp[hu]⟩
 obtain ⟨u,hu⟩:=hm
 have U:=GZ.1 hd _ hu
 simp only[ya,JM] at U
 rw[ae.same s fun q6=>U s q6 (Nat.beq_refl s)]
 exact ay.get s v aj
theorem WH {eA:Oper} {e:Env} {a:Act} (ay:gr e a) {r:Bool} (h:xY eA e=some r) (w:World):
   (execOp a.eval eA).run P w= .ok (.value (.bool r)) w:=by
 unfold xY at h
 split at h
 · rename_i x y z b_
   split at h
   · rename_i b aa
     split at h
     · rename_i sQ aY
       cases h
       simp only[execOp,b_,ay.bC aa]
       cases b
       · simp only[cond_false] at aY
         simp[asBool,ay.bC aY]
       · simp only[cond_true] at aY
         simp[asBool,ay.bC aY]
     · cases h
   · cases h
 · cases h
theorem WI {eA:Oper} {e:Env} {a:Act} (ay:gr e a) (h:B6 ops eA e=true):Region.wanted eA (yielded ops a.tmps)=true:=by
 unfold B6 at h
 unfold Region.wanted
 split at h
 · rename_i bl;rw[bl]
 · rename_i j want bl
   rw[bl]
   simp only
   split at h
   · rename_i b al
     rw[Ms ay al]
     cases b<;>cases want<;>first|rfl|cases h
   · cases h
theorem WJ {o:Oper} {e:Env} {s:Nat} {c:Bool} (h:Mq ops o e=some (s,c)):e.get s=some (.bool c):=by
 unfold Mq at h
 split at h
 · cases h
 · split at h
   · cases h
   · split at h
     · rename_i aj;cases h;exact aj
     · cases h
theorem gr.lit {e:Env} {a:Act} (ay:gr e a) {s:Nat} {v:Value} (h:e.get s=some v):gr ((s,v)::e) a:=by
 constructor
 intro t u aU
 rw[Gx] at aU
 by_cases hE:s=t
 · subst hE
   rw[if_pos rfl] at aU
   cases aU
   exact ay.get _ _ h
 · rw[if_neg hE] at aU
   exact ay.get _ _ aU
theorem WK {α:Type} (o:α) (rest:List α) (m:Nat) {eA:α} {ia:List α} (h:rest.drop m=eA::ia):
   o::rest=(o::rest.take m)++(eA::ia):=by
 rw[←h];simp
theorem att {b c:Bool} {α:Type} {x y z:α} (h:(bif b&&c then x else y)=z) (b2:y≠z):b=true∧c=true∧x=z:=by
 cases b<;>cases c<;>first|exact absurd h b2|exact ⟨rfl,rfl,h⟩
theorem ae2:∀ (n:Nat) (l:List Oper) (as:List B5) (e eD:Env) (a:Act) (w:World),gr e a→(∀d∈cH l,d<a.tmps.size)→
   r2 P ops n l as e=some eD→wpList P ops (fun x db w'=>x= .normal∧h7 (cH l) a db∧gr eD db∧w'=w) l a w:=by
 intro n
 induction n with
 |zero=>intro l as e eD a w _ _ h;cases h
 |succ n dx=>
   intro l as e eD a w ay aa h
   have one:∀ (o:Oper) (rest:List Oper) (sF:List B5),(∀d∈cH (o::rest),d<a.tmps.size)→
       (match zP ops o e (kB P o e) (some undef) with|some v=>r2 P ops n rest sF (gb o.dst v e)|none=>none)=some eD→
       wpList P ops (fun x db w'=>x= .normal∧h7 (cH (o::rest)) a db∧gr eD db∧w'=w) (o::rest) a w:=by
     intro o rest sF aa h
     have Er:∀k,o.dst=some k→k∈cH (o::rest):=fun k ae=>by simp[cH,ae]
     have o0:∀k,k∈cH rest→k∈cH (o::rest):=fun k ae=>by
       simp only[cH,JR]
       split
       · exact ae
       · exact wh _ ae
     split at h
     · rename_i v al
       have next:∀ (db:Act),db=a.put o.dst v→wpList P ops (fun x db w'=>x= .normal∧h7 (cH (o::rest)) a db∧gr eD db∧w'=w) rest db w:=by
         intro db oF
         subst oF
         have ae:h7 (cH (o::rest)) a (a.put o.dst v):=h7.put Er
         have:=dx rest sF (gb o.dst v e) eD (a.put o.dst v) w (ay.put fun k ae=>aa k (Er k ae)) (fun d hd=>by rw[ae.size];exact aa d (o0 d hd)) h
         exact r3 (fun x db w' ⟨U,ad,aq,aK⟩=>⟨U,ae.trans (ad.mono o0),aq,aK⟩) _ _ _ this
       rcases ats ay al with ⟨hw,aV⟩|⟨hw,aV⟩
       · simp only[wpList,hw,if_true]
         left
         unfold Oper.wp
         rw[ae1 ay aV w]
         exact next _ rfl
       · simp only[wpList,hw,lS,if_false]
         cases aV
         exact next _ rfl
     · cases h
   cases l with
   |nil=>
     simp only[r2,Option.some.injEq] at h
     subst h
     exact ⟨rfl, .refl _ _,ay,rfl⟩
   |cons o rest=>
     cases as with
     |nil=>exact one o rest [] aa (by simpa only[r2] using h)
     |cons WL as=>
       cases WL with
       |run=>exact one o rest as aa (by simpa only[r2] using h)
       |split m=>exact one o rest as aa (by simpa only[r2] using h)
       |QL ks=>exact one o rest as aa (by simpa only[r2] using h)
       |pure m=>
         simp only[r2] at h
         split at h
         · refine one o rest as aa ?_
           cases al:zP ops o e none (some undef) with
           |none=>rw[al] at h;cases h
           |some v=>rw[al] at h;rw[atr al];exact h
         · rename_i s c eA ia bl hd
           split at h
           · rename_i ba bp U ad
             split at h
             · rename_i ar bD lg fU
               obtain ⟨Mu,Em,h⟩:=att h (by simp)
               rw[WK o rest (m-1) hd] at aa⊢
               have su:=WJ bl
               refine Mr _ _ _ _ ?_
               have iU:∀k,k∈cH (o::rest.take (m-1))→k∈cH ((o::rest.take (m-1))++(eA::ia)):=fun k ae=>by
                 simp only[cH,JS,fa];exact .inl ae
               have tA:∀k,k∈cH (eA::ia)→k∈cH ((o::rest.take (m-1))++(eA::ia)):=fun k ae=>by
                 simp only[cH,JS,fa];exact .inr ae
               have Es:∀k,eA.dst=some k→k∈cH (eA::ia):=fun k ae=>by simp[cH,ae]
               have o0:∀k,k∈cH ia→k∈cH (eA::ia):=fun k ae=>by
                 simp only[cH,JR]
                 split
                 · exact ae
                 · exact wh _ ae
               have fin:∀ (zM:Env) (r:Bool) (a7:Act),h7 (cH (o::rest.take (m-1))) a a7→gr zM a7→xY eA zM=some r→r=cond c ar bD→
                   wpList P ops (fun x db w'=>x= .normal∧h7 (cH ((o::rest.take (m-1))++(eA::ia))) a db∧gr eD db∧w'=w) (eA::ia) a7 w:=by
                 intro zM r a7 jd ij aV aY
                 have Et:=WG ay Em jd
                 simp only[wpList,WI Et Mu,if_true]
                 left
                 unfold Oper.wp
                 rw[WH ij aV w]
                 simp only[Oper.upon]
                 have dW:h7 (cH (eA::ia)) a7 (a7.put eA.dst (.bool r)):=h7.put Es
                 have:=dx ia (as.drop m) (gb eA.dst (.bool (cond c ar bD)) e) eD (a7.put eA.dst (.bool r)) w
                   (by rw[aY];exact Et.put fun k ae=>by rw[jd.size];exact aa k (tA k (Es k ae)))
                   (fun d hd=>by rw[dW.size,jd.size];exact aa d (tA d (o0 d hd))) h
                 refine r3 (fun x db w' ⟨aC,aG,aJ,aN⟩=>⟨aC,(jd.mono iU).trans ((dW.mono tA).trans (aG.mono fun k ae=>tA k (o0 k ae))),aJ,aN⟩) _ _ _ this
               cases c with
               |true=>
                 have:=dx _ _ _ ba a w (ay.lit su) (fun d hd=>aa d (iU d hd)) U
                 exact r3 (fun x db w' ⟨aC,aG,aJ,aN⟩=>⟨aC,by subst aN;exact fin ba ar db aG aJ lg rfl⟩) _ _ _ this
               |false=>
                 have:=dx _ _ _ bp a w (ay.lit su) (fun d hd=>aa d (iU d hd)) ad
                 exact r3 (fun x db w' ⟨aC,aG,aJ,aN⟩=>⟨aC,by subst aN;exact fin bp bD db aG aJ fU rfl⟩) _ _ _ this
             · cases h
           · cases h
         · cases h
theorem ae3:∀ (n:Nat) (l:List Oper) (as:List B5) (K:Env→World→Prop) (e:Env) (a:Act) (w:World),gr e a→(∀d∈cH l,d<a.tmps.size)→
   mB P aI ops n l as K e w→wpList P ops (n4 a (cH l) K) l a w:=by
 intro n
 induction n with
 |zero=>intro l as K e a w _ _ h;cases h
 |succ n dx=>
   intro l as K e a w ay aa h
   have one:∀ (o:Oper) (rest:List Oper) (sF:List B5),(∀d∈cH (o::rest),d<a.tmps.size)→
       pj ops o e (tz P aI o (fun v w'=>mB P aI ops n rest sF K (gb o.dst v e) w') e w) (mB P aI ops n rest sF K (gb o.dst undef e) w)→
       wpList P ops (n4 a (cH (o::rest)) K) (o::rest) a w:=by
     intro o rest sF aa h
     have Er:∀k,o.dst=some k→k∈cH (o::rest):=fun k ae=>by simp[cH,ae]
     have o0:∀k,k∈cH rest→k∈cH (o::rest):=fun k ae=>by
       simp only[cH,JR]
       split
       · exact ae
       · exact wh _ ae
     have next:∀ (v:Value) (w':World),mB P aI ops n rest sF K (gb o.dst v e) w'→wpList P ops (n4 a (cH (o::rest)) K) rest (a.put o.dst v) w':=by
       intro v w' h
       have ae:h7 (cH (o::rest)) a (a.put o.dst v):=h7.put Er
       have:=dx rest sF K (gb o.dst v e) (a.put o.dst v) w' (ay.put fun k ae=>aa k (Er k ae)) (fun d hd=>by rw[ae.size];exact aa d (o0 d hd)) h
       exact r3 (fun x db w' ⟨U,ad,aq⟩=>⟨U,ae.trans (ad.mono o0),aq⟩) _ _ _ this
     rcases Mt ay h with ⟨hw,aV⟩|⟨hw,aV⟩
     · simp only[wpList,hw,if_true]
       exact .inl ((QK ay aV).wp next)
     · simp only[wpList,hw,lS,if_false]
       exact next _ _ aV
   have atu:∀ (o:Oper) (rest:List Oper) (ks:List qc) (sF:List B5),(∀d∈cH (o::rest),d<a.tmps.size)→
       pj ops o e (QM P ks o (fun v w'=>mB P aI ops n rest sF K (gb o.dst v e) w') e w) (mB P aI ops n rest sF K (gb o.dst undef e) w)→
       wpList P ops (n4 a (cH (o::rest)) K) (o::rest) a w:=by
     intro o rest ks sF aa h
     have Er:∀k,o.dst=some k→k∈cH (o::rest):=fun k ae=>by simp[cH,ae]
     have o0:∀k,k∈cH rest→k∈cH (o::rest):=fun k ae=>by
       simp only[cH,JR]
       split
       · exact ae
       · exact wh _ ae
     have next:∀ (v:Value) (w':World),mB P aI ops n rest sF K (gb o.dst v e) w'→wpList P ops (n4 a (cH (o::rest)) K) rest (a.put o.dst v) w':=by
       intro v w' h
       have ae:h7 (cH (o::rest)) a (a.put o.dst v):=h7.put Er
       have:=dx rest sF K (gb o.dst v e) (a.put o.dst v) w' (ay.put fun k ae=>aa k (Er k ae)) (fun d hd=>by rw[ae.size];exact aa d (o0 d hd)) h
       exact r3 (fun x db w' ⟨U,ad,aq⟩=>⟨U,ae.trans (ad.mono o0),aq⟩) _ _ _ this
     rcases Mt ay h with ⟨hw,aV⟩|⟨hw,aV⟩
     · simp only[wpList,hw,if_true]
       exact .inl ((atq ay aV).wp next)
     · simp only[wpList,hw,lS,if_false]
       exact next _ _ aV
   cases l with
   |nil=>exact ⟨rfl, .refl _ _,e,ay,h⟩
   |cons o rest=>
     cases as with
     |nil=>exact one o rest [] aa (by simpa only[mB] using h)
     |cons WL as=>
       cases WL with
       |run=>exact one o rest as aa (by simpa only[mB] using h)
       |QL ks=>exact atu o rest ks as aa (by simpa only[mB] using h)
       |split m=>
         simp only[mB] at h
         split at h
         · exact one o rest as aa (aeZ h False.elim)
         · rename_i s c eA ia bl hd
           obtain ⟨Mu,Em,h⟩:B6 ops eA e=true∧Ep e (cH (o::rest.take (m-1)))=true∧_:=by
             cases U:B6 ops eA e<;>cases ad:Ep e (cH (o::rest.take (m-1)))<;>rw[U,ad] at h<;>first|exact h.elim|exact ⟨rfl,rfl,h⟩
           rw[WK o rest (m-1) hd] at aa⊢
           have su:=WJ bl
           refine Mr _ _ _ _ ?_
           have iU:∀k,k∈cH (o::rest.take (m-1))→k∈cH ((o::rest.take (m-1))++(eA::ia)):=fun k ae=>by
             simp only[cH,JS,fa];exact .inl ae
           have tA:∀k,k∈cH (eA::ia)→k∈cH ((o::rest.take (m-1))++(eA::ia)):=fun k ae=>by
             simp only[cH,JS,fa];exact .inr ae
           have Es:∀k,eA.dst=some k→k∈cH (eA::ia):=fun k ae=>by simp[cH,ae]
           have o0:∀k,k∈cH ia→k∈cH (eA::ia):=fun k ae=>by
             simp only[cH,JR]
             split
             · exact ae
             · exact wh _ ae
           have fin:∀ (x:Exit) (a7:Act) (ag:World),n4 a (cH (o::rest.take (m-1)))
               (fun eD w'=>match xY eA eD with|some r=>mB P aI ops n ia (as.drop m) K (gb eA.dst (.bool r) e) w'|none=>False) x a7 ag→
               x= .normal∧wpList P ops (n4 a (cH ((o::rest.take (m-1))++(eA::ia))) K) (eA::ia) a7 ag:=by
             rintro x a7 ag ⟨af,jd,zM,ij,h⟩
             refine ⟨af,?_⟩
             have Et:=WG ay Em jd
             split at h
             · rename_i r aV
               simp only[wpList,WI Et Mu,if_true]
               left
               unfold Oper.wp
               rw[WH ij aV ag]
               simp only[Oper.upon]
               have dW:h7 (cH (eA::ia)) a7 (a7.put eA.dst (.bool r)):=h7.put Es
               have:=dx ia (as.drop m) K (gb eA.dst (.bool r) e) (a7.put eA.dst (.bool r)) ag
                 (Et.put fun k ae=>by rw[jd.size];exact aa k (tA k (Es k ae)))
                 (fun d hd=>by rw[dW.size,jd.size];exact aa d (tA d (o0 d hd))) h
               refine r3 (fun x db w' ⟨aC,aG,aJ⟩=>⟨aC,(jd.mono iU).trans ((dW.mono tA).trans (aG.mono fun k ae=>tA k (o0 k ae))),aJ⟩) _ _ _ this
             · exact h.elim
           have h:=h.out
           cases c with
           |true=>
             have:=dx _ _ _ _ a w (ay.lit su) (fun d hd=>aa d (iU d hd)) (h.1 rfl)
             exact r3 fin _ _ _ this
           |false=>
             have:=dx _ _ _ _ a w (ay.lit su) (fun d hd=>aa d (iU d hd)) (h.2 rfl)
             exact r3 fin _ _ _ this
         · exact h.elim
       |pure m=>
         simp only[mB] at h
         split at h
         · exact one o rest as aa (aeZ h False.elim)
         · rename_i s c eA ia bl hd
           split at h
           · rename_i ba bp U ad
             split at h
             · rename_i ar bD lg fU
               obtain ⟨Mu,Em,h⟩:B6 ops eA e=true∧Ep e (cH (o::rest.take (m-1)))=true∧_:=by
                 cases aC:B6 ops eA e<;>cases aG:Ep e (cH (o::rest.take (m-1)))<;>rw[aC,aG] at h<;>first|exact h.elim|exact ⟨rfl,rfl,h⟩
               rw[WK o rest (m-1) hd] at aa⊢
               have su:=WJ bl
               refine Mr _ _ _ _ ?_
               have iU:∀k,k∈cH (o::rest.take (m-1))→k∈cH ((o::rest.take (m-1))++(eA::ia)):=fun k ae=>by
                 simp only[cH,JS,fa];exact .inl ae
               have tA:∀k,k∈cH (eA::ia)→k∈cH ((o::rest.take (m-1))++(eA::ia)):=fun k ae=>by
                 simp only[cH,JS,fa];exact .inr ae
               have Es:∀k,eA.dst=some k→k∈cH (eA::ia):=fun k ae=>by simp[cH,ae]
               have o0:∀k,k∈cH ia→k∈cH (eA::ia):=fun k ae=>by
                 simp only[cH,JR]
                 split
                 · exact ae
                 · exact wh _ ae
               have fin:∀ (zM:Env) (r:Bool) (a7:Act),h7 (cH (o::rest.take (m-1))) a a7→gr zM a7→xY eA zM=some r→r=cond c ar bD→
                   wpList P ops (n4 a (cH ((o::rest.take (m-1))++(eA::ia))) K) (eA::ia) a7 w:=by
                 intro zM r a7 jd ij aV aY
                 have Et:=WG ay Em jd
                 simp only[wpList,WI Et Mu,if_true]
                 left
                 unfold Oper.wp
                 rw[WH ij aV w]
                 simp only[Oper.upon]
                 have dW:h7 (cH (eA::ia)) a7 (a7.put eA.dst (.bool r)):=h7.put Es
                 have:=dx ia (as.drop m) K (gb eA.dst (.bool (cond c ar bD)) e) (a7.put eA.dst (.bool r)) w
                   (by rw[aY];exact Et.put fun k ae=>by rw[jd.size];exact aa k (tA k (Es k ae)))
                   (fun d hd=>by rw[dW.size,jd.size];exact aa d (tA d (o0 d hd))) h
                 refine r3 (fun x db w' ⟨aC,aG,aJ⟩=>⟨aC,(jd.mono iU).trans ((dW.mono tA).trans (aG.mono fun k ae=>tA k (o0 k ae))),aJ⟩) _ _ _ this
               cases c with
               |true=>
                 have:=ae2 n _ _ _ ba a w (ay.lit su) (fun d hd=>aa d (iU d hd)) U
                 exact r3 (fun x db w' ⟨aC,aG,aJ,aN⟩=>⟨aC,by subst aN;exact fin ba ar db aG aJ lg rfl⟩) _ _ _ this
               |false=>
                 have:=ae2 n _ _ _ bp a w (ay.lit su) (fun d hd=>aa d (iU d hd)) ad
                 exact r3 (fun x db w' ⟨aC,aG,aJ,aN⟩=>⟨aC,by subst aN;exact fin bp bD db aG aJ fU rfl⟩) _ _ _ this
             · exact h.elim
           · exact h.elim
         · exact h.elim
end
end b8
namespace b8
open Go
structure ao (W:Nat→Prop) (w w':World):Prop where
 os:w'.os=w.os
 tape:w'.tape=w.tape
 output:w'.output=w.output
 size:w.heap.size≤w'.heap.size
 block:∀k,k<w.heap.size→¬W k→w'.heap[k]? =w.heap[k]?
theorem ao.refl (W:Nat→Prop) (w:World):ao W w w:=⟨rfl,rfl,rfl,cP _,fun _ _ _=>rfl⟩
theorem ao.trans {W:Nat→Prop} {a b c:World} (h:ao W a b) (k:ao W b c):ao W a c:=
 ⟨k.os.trans h.os,k.tape.trans h.tape,k.output.trans h.output,jb h.size k.size,fun i hi hw=>(k.block i (ly hi h.size) hw).trans (h.block i hi hw)⟩
theorem ao.mono {W V:Nat→Prop} {a b:World} (h:ao W a b) (al:∀k,k<a.heap.size→W k→V k):ao V a b:=
 ⟨h.os,h.tape,h.output,h.size,fun i hi hw=>h.block i hi fun dY=>hw (al i hi dY)⟩
theorem ao.cell {W:Nat→Prop} {w w':World} (h:ao W w w') {A:Addr} (dY:¬W A.block) {v:Value} (al:w.cell? A=some v):w'.cell? A=some v:=by
 have aa:A.block<w.heap.size:=by
   rcases hJ A.block w.heap.size with U|U
   · exact U
   · simp[World.cell?,Array.getElem?_eq_none U] at al
 unfold World.cell? at al⊢
 rw[h.block _ aa dY]
 exact al
theorem ao.eH {W:Nat→Prop} {w w':World} (h:ao W w w') {A:Addr} (dY:¬W A.block):∀ (n i:Nat) (vs:List Value),eH w A i n=some vs→eH w' A i n=some vs
 |0,_,_,al=>al
 |n+1,i,vs,al=>by
   simp only[b8.eH] at al⊢
   have yp:(A.add i).block=A.block:=by unfold Addr.add;split<;>rfl
   cases U:w.cell? (A.add i) with
   |none=>simp[U] at al
   |some v=>
     cases ad:b8.eH w A (i+1) n with
     |none=>simp[U,ad] at al
     |some us=>
       simp only[U,ad] at al
       rw[h.cell (by rw[yp];exact dY) U,ao.eH h dY n (i+1) us ad]
       exact al
def mC {α:Type}:Sem α→Prop
 | .pure _=>True
 | .program k=>∀p,mC (k p)
 | .halt _=>True
 |_=>False
theorem mC.bind {α β:Type}:∀ {s:Sem α} {f:α→Sem β},mC s→(∀a,mC (f a))→mC (s>>=f)
 | .pure a,_,_,aA=>aA a
 | .program _,_,h,aA=>fun p=>mC.bind (h p) aA
 | .halt _,_,_,_=>trivial
 | .load ..,_,h,_=>h.elim
 | .store ..,_,h,_=>h.elim
 | .new ..,_,h,_=>h.elim
 | .shape ..,_,h,_=>h.elim
 | .freeze ..,_,h,_=>h.elim
 | .frozen ..,_,h,_=>h.elim
 | .getObj ..,_,h,_=>h.elim
 | .setObj ..,_,h,_=>h.elim
 | .choose ..,_,h,_=>h.elim
 | .sys ..,_,h,_=>h.elim
 | .mark ..,_,h,_=>h.elim
theorem mC.run {α:Type} {P:Program}:∀ {s:Sem α} {w w':World} {v:α},mC s→s.run P w= .ok v w'→∀u,s.run P u= .ok v u
 | .pure a,w,w',v,_,h,u=>by
   simp only[Sem.run,Result.ok.injEq] at h⊢
   exact ⟨h.1,trivial⟩
 | .program k,w,w',v,aA,h,u=>mC.run (aA P) h u
 | .halt _,w,w',v,_,h,_=>by simp[Sem.run] at h
 | .load ..,_,_,_,h,_,_=>h.elim
 | .store ..,_,_,_,h,_,_=>h.elim
 | .new ..,_,_,_,h,_,_=>h.elim
 | .shape ..,_,_,_,h,_,_=>h.elim
 | .freeze ..,_,_,_,h,_,_=>h.elim
 | .frozen ..,_,_,_,h,_,_=>h.elim
 | .getObj ..,_,_,_,h,_,_=>h.elim
 | .setObj ..,_,_,_,h,_,_=>h.elim
 | .choose ..,_,_,_,h,_,_=>h.elim
 | .sys ..,_,_,_,h,_,_=>h.elim
 | .mark ..,_,_,_,h,_,_=>h.elim
theorem ae4:mC program:=fun _=>trivial
theorem ae5 (t:TypeId):mC (underlying t):=by
 unfold underlying
 refine mC.bind ae4 fun p=> ?_
 split<;>trivial
theorem atv (t:TypeId):mC (typeInfo t):=by
 unfold typeInfo
 refine mC.bind ae4 fun p=> ?_
 split<;>trivial
theorem atw (t:TypeId):mC (Go.sizeOf t):=mC.bind (atv t) fun _=>trivial
theorem atx (t:TypeId):mC (isAgg t):=by
 unfold isAgg
 refine mC.bind (ae5 t) fun d=> ?_
 split<;>trivial
theorem aty (t:TypeId) (cs:Array Value) (off:Nat):mC (part t cs off):=by
 unfold part
 refine mC.bind (atx t) fun d=> ?_
 split
 · exact mC.bind (atw t) fun _=>trivial
 · split<;>trivial
theorem atz (t:TypeId) (x:Value) (i:Nat):mC (Instr.field t x i):=by
 unfold Instr.field
 refine mC.bind (ae5 t) fun d=> ?_
 split
 · split
   · refine mC.bind ?_ fun _=>aty _ _ _
     unfold asAgg;split<;>trivial
   · trivial
 · trivial
def ae6:Op→Bool
 | .move _=>true
 | .assign _=>true
 | .pick _ _ _=>true
 | .field _ _ _=>true
 |_=>false
def Mv (P:Program) (o:Oper) (K:Value→Prop) (e:Env) (w:World):Prop:=
 bif ae6 o.op&&known e o.op.operands then
   match (execOp (ro e) o).run P w with
   | .ok (.value v) _=>K v
   |_=>False
 else False
def Ja (P:Program) (o:Oper) (K:Value→Prop) (e:Env):Prop:=
 match kB P o e with
 |some v=>K v
 |none=>False
def ae7 (P:Program) (T:TypeId) (x:Value) (i:Nat) (K:Value→Prop):Prop:=
 match P.underlying T with
 |some (.struct fs)=>match fs[i]? with
   |some f=>match x with
     | .pointer (some A)=>match P.underlying f.type with
       |some _=>bif Nat.beq (P.cellsOf f.type) 0 then False else K (.pointer (some (A.add f.offset)))
       |none=>False
     |_=>False
   |none=>False
 |_=>False
def ae8 (x:Value) (i:Nat) (K:Value→Prop):Prop:=
 match x with
 | .tuple vs=>match vs[i]? with
   |some v=>K v
   |none=>False
 |_=>False
def tB (o:Oper):Bool:=
 match o.op with
 | .load _ _=>true
 | .convert _ _ _=>true
 |_=>false
def xZ:Nat→List Oper→Nat
 |_,[]=>0
 |i,o::l=>bif tB o then 2^i|||xZ (i+1) l else xZ (i+1) l
def WM (P:Program) (aI:TypeId→jZ) (W:Nat→Prop) (w:World) (o:Oper) (K:Value→Prop) (e:Env):Prop:=
 match o.op with
 | .nilCheck x=>match bC e x with
   |some (.pointer p)=>∃A,p=some A∧K (.pointer (some A))
   |_=>False
 | .load T x=>match bC e x with
   |some (.pointer (some A))=>¬W A.block∧I5 P aI T A w K
   |_=>False
 | .binOp op T x y _=>match bC e x,bC e y with
   |some gd,some vZ=>bif I9 y vZ then QC P op T gd vZ K (Ja P o K e) else False
   |_,_=>False
 | .indexAddr T x i=>match bC e x,bC e i with
   |some gd,some pG=>QG P T gd pG K
   |_,_=>False
 | .index T x i=>match bC e x,bC e i with
   |some gd,some pG=>QH P aI T gd pG K
   |_,_=>False
 | .field T x i=>match bC e x with
   |some gd=>QI P aI T gd i K
   |_=>False
 | .fieldAddr T x i=>match bC e x with
   |some gd=>ae7 P T gd i K
   |_=>False
 | .extract x i=>match bC e x with
   |some gd=>ae8 gd i K
   |_=>False
 | .slice T x lo hi vX=>bif known e o.op.operands then
     QJ P T (ro e x) (lo.map (ro e)) (hi.map (ro e)) (vX.map (ro e)) K
   else False
 | .convert s d x=>match bC e x with
   |some (.int _ _)=>Ja P o K e
   |some v=>qC (aI o.type) fun r=>(∀w',ao W w w'→(convert s d v).run P w'= .ok r w')∧K r
   |none=>False
 | .build t ps=>bif known e o.op.operands then
     ∃cs:Array Value,(∀w',(Instr.build t (ps.map fun p=>(p.1,ro e p.2))).run P w'= .ok (.agg cs) w')∧K (.agg cs)
   else False
 | .unOp _ _ _=>Ja P o K e
 | .call _=>Ja P o K e
 | .move _=>Mv P o K e w
 | .assign _=>Mv P o K e w
 | .pick _ _ _=>Mv P o K e w
 | .sliceToArrayPointer T x=>match bC e x with
   |some gd=>QF P T gd K
   |_=>False
 |_=>False
section
variable {P:Program} {aI:TypeId→jZ} {W:Nat→Prop} {o:Oper} {K:Value→Prop} {e:Env} {a:Act} {w:World}
theorem WN (ay:gr e a) (h:Mv P o K e w):∃v,(∀w',(execOp a.eval o).run P w'= .ok (.value v) w')∧K v:=by
 unfold Mv at h
 cases aA:ae6 o.op with
 |false=>rw[aA] at h;exact h.elim
 |true=>
   cases ae:known e o.op.operands with
   |false=>rw[aA,ae] at h;exact h.elim
   |true=>
     rw[aA,ae] at h
     simp only[Bool.and_self,cond_true] at h
     have ak:=v7 ay (by cases b_:o.op<;>rw[b_] at aA<;>first|rfl|cases aA) ae
     rw[ak]
     split at h
     · rename_i v w' aY
       refine ⟨v,fun u=>mC.run ?_ aY u,h⟩
       cases b_:o.op<;>rw[b_] at aA<;>first|(cases aA;done)|skip
       · simp only[execOp,b_];trivial
       · simp only[execOp,b_];trivial
       · simp only[execOp,b_]
         refine mC.bind ?_ fun _=>trivial
         unfold asBool;split<;>trivial
       · simp only[execOp,b_]
         exact mC.bind (atz _ _ _) fun _=>trivial
     · exact h.elim
theorem QO (ay:gr e a) (h:Ja P o K e):∃v,(∀w',(execOp a.eval o).run P w'= .ok (.value v) w')∧K v:=by
 unfold Ja at h
 split at h
 · rename_i v al
   exact ⟨v,ae1 ay al,h⟩
 · exact h.elim
theorem atA (ay:gr e a) (h:WM P aI W w o K e):∃v,(∀w',(tB o=true→ao W w w')→(execOp a.eval o).run P w'= .ok (.value v) w')∧K v:=by
 have bA:(∃v,(∀w',(execOp a.eval o).run P w'= .ok (.value v) w')∧K v)→∃v,(∀w',(tB o=true→ao W w w')→(execOp a.eval o).run P w'= .ok (.value v) w')∧K v:=
   fun ⟨v,U,ad⟩=>⟨v,fun w' _=>U w',ad⟩
 unfold WM at h
 split at h
 case h_1 x b_=>
   split at h
   · rename_i p af
     obtain ⟨A,rfl,bq⟩:=h
     exact ⟨_,fun w' _=>by simp[execOp,b_,ay.bC af],bq⟩
   · exact h.elim
 case h_2 T x b_=>
   split at h
   · rename_i A af
     obtain ⟨dY,h⟩:=h
     have key:∃v,(∀w',ao W w w'→(Instr.loadAt T (.pointer (some A))).run P w'= .ok v w')∧K v:=by
       have ba:∀w',(Instr.loadAt T (.pointer (some A))).run P w'=(loadVar T A).run P w':=fun w'=>by simp[Instr.loadAt,Instr.sureAddr]
       unfold I5 at h
       split at h
       · exact h.elim
       · rename_i d bn
         cases hd:zO d with
         |true=>
           rw[hd] at h
           simp only[cond_true] at h
           split at h
           · rename_i ls _
             by_cases aa:Nat.beq (P.cellsOf T) ls.length=true
             · rw[aa] at h
               simp only[cond_true] at h
               obtain ⟨vs,ku,h⟩:=WC h
               rw[←qK aa] at ku
               exact ⟨_,fun w' ak=>by rw[ba,QB bn hd (ak.eH dY _ _ _ ku)],h⟩
             · simp only[lW] at aa;rw[aa] at h;exact h.elim
           · obtain ⟨cs,fq,h⟩:=h
             exact ⟨_,fun w' ak=>by rw[ba,QB bn hd (ak.eH dY _ _ _ fq)],h⟩
         |false=>
           rw[hd] at h
           simp only[cond_false] at h
           split at h
           · obtain ⟨v,al,h⟩:=I4 h
             exact ⟨v,fun w' ak=>by rw[ba,aeE bn hd (ak.cell dY al)],h⟩
           · exact h.elim
     obtain ⟨v,al,bq⟩:=key
     exact ⟨v,fun w' ak=>by simp[execOp,b_,ay.bC af,al w' (ak (by unfold tB;rw[b_]))],bq⟩
   · exact h.elim
 case h_3 op T x y aeY b_=>
   split at h
   · rename_i gd vZ af b2
     by_cases aD:I9 y vZ=true
     · rw[aD] at h
       simp only[cond_true] at h
       have L8:vZ= .nilIface→∃c,y= .const c:=by
         intro al
         subst al
         cases y<;>simp[I9] at aD⊢
       rcases aeL (Mm:=x) (I8:=y) L8 h with bl|⟨v,al,bq⟩
       · exact bA (QO ay bl)
       · exact ⟨v,fun w' _=>by
           simp only[execOp,b_,ay.bC af,ay.bC b2]
           have qU:=al w'
           simp only[Sem.run_bind] at qU⊢
           rw[qU];rfl,bq⟩
     · simp only[lW] at aD;rw[aD] at h;exact h.elim
   · exact h.elim
 case h_4 T x i b_=>
   split at h
   · rename_i gd pG af hi
     obtain ⟨v,al,bq⟩:=aeN h
     exact ⟨v,fun w' _=>by simp[execOp,b_,ay.bC af,ay.bC hi,al],bq⟩
   · exact h.elim
 case h_5 T x i b_=>
   split at h
   · rename_i gd pG af hi
     obtain ⟨v,al,bq⟩:=aeP h
     exact ⟨v,fun w' _=>by simp[execOp,b_,ay.bC af,ay.bC hi,al],bq⟩
   · exact h.elim
 case h_6 T x i b_=>
   split at h
   · rename_i gd af
     obtain ⟨v,al,bq⟩:=aeQ h
     exact ⟨v,fun w' _=>by simp[execOp,b_,ay.bC af,al],bq⟩
   · exact h.elim
 case h_7 T x i b_=>
   split at h
   · rename_i gd af
     unfold ae7 at h
     split at h
     · rename_i fs bn
       split at h
       · rename_i f aA
         split at h
         · rename_i A
           split at h
           · rename_i d hd
             cases bF:Nat.beq (P.cellsOf f.type) 0 with
             |true=>rw[bF] at h;exact h.elim
             |false=>
               rw[bF] at h
               have H9:¬P.cellsOf f.type=0:=fun b5=>by rw[b5] at bF;cases bF
               exact ⟨_,fun w' _=>by simp[execOp,b_,ay.bC af,Instr.fieldAt,fV bn,aA,Instr.sureAddr,fieldPlace,qO hd,H9],h⟩
           · exact h.elim
         · exact h.elim
       · exact h.elim
     · exact h.elim
   · exact h.elim
 case h_8 x i b_=>
   split at h
   · rename_i gd af
     unfold ae8 at h
     split at h
     · rename_i vs
       split at h
       · rename_i v al
         exact ⟨v,fun w' _=>by simp[execOp,b_,ay.bC af,Instr.extract,al],h⟩
       · exact h.elim
     · exact h.elim
   · exact h.elim
 case h_9 T x lo hi vX b_=>
   by_cases ae:known e o.op.operands=true
   · rw[ae] at h
     simp only[cond_true] at h
     have ak:=v7 ay (by rw[b_];rfl) ae
     obtain ⟨v,al,bq⟩:=aeR h
     exact ⟨v,fun w' _=>by rw[ak];simp[execOp,b_,al],bq⟩
   · simp only[lW] at ae;rw[ae] at h;exact h.elim
 case h_10 s d x b_=>
   split at h
   · exact bA (QO ay h)
   · rename_i v _ af
     obtain ⟨r,aY,bq⟩:=rl h
     exact ⟨r,fun w' ak=>by simp[execOp,b_,ay.bC af,aY w' (ak (by unfold tB;rw[b_]))],bq⟩
   · exact h.elim
 case h_11 t ps b_=>
   by_cases ae:known e o.op.operands=true
   · rw[ae] at h
     simp only[cond_true] at h
     have ak:=v7 ay (by rw[b_];rfl) ae
     obtain ⟨cs,aY,bq⟩:=h
     exact ⟨_,fun w' _=>by rw[ak];simp[execOp,b_];rw[aY];rfl,bq⟩
   · simp only[lW] at ae;rw[ae] at h;exact h.elim
 case h_12=>exact bA (QO ay h)
 case h_13=>exact bA (QO ay h)
 case h_14=>exact bA (WN ay h)
 case h_15=>exact bA (WN ay h)
 case h_16=>exact bA (WN ay h)
 case h_17 T x b_=>
   split at h
   · rename_i gd af
     obtain ⟨v,al,bq⟩:=aeM h
     exact ⟨v,fun w' _=>by simp[execOp,b_,ay.bC af,al],bq⟩
   · exact h.elim
 case h_18=>exact h.elim
end
inductive bf where
 |take (i:Nat) (t:bf)
 |cS (i:Nat) (t:bf)
 |out (i:Nat) (b:Bool) (t:bf)
 |two (i:Nat) (t:bf) (j:Nat) (u:bf)
 |three (i:Nat) (t:bf) (j:Nat) (u:bf) (k:Nat) (v:bf)
 |sp (s:Nat) (t u:bf)
 |fin
 |tail (as:List B5)
def qD:List Nat→Nat
 | []=>0
 |d::l=>2^d|||qD l
theorem B7:∀ (l:List Nat) (k:Nat),(qD l).testBit k=decide (k∈l)
 | [],k=>by simp[qD]
 |d::l,k=>by
   simp only[qD,Cs,B7 l k,JP]
   by_cases h:d=k
   · subst h;simp
   · have:¬k=d:=fun qk=>h qk.symm
     simp[h,this]
def Eu (o:Oper):List Nat:=(o.after.toList.filter fun e=>Region.binds .any e).map (·.on)
structure v8 where
 M:List Nat
 A:List Nat
def v_ (l:List Nat) (i:Nat):Nat:=l.getD i 0
def wa (cW:v8) (m i:Nat):Bool:= !(m.testBit i)&&Nat.beq (v_ cW.M i&&&m) (v_ cW.M i)
def ae9 (cW:v8) (N m i:Nat):Bool:=Nat.beq (v_ cW.A i&&&((2^N-1)^^^m)) 0
def x0 (cW:v8) (m:Nat) (is:List Nat):Nat→Bool
 |0=>true
 |k+1=>(is.any (Nat.beq k)|| !(wa cW m k))&&x0 cW m is k
def Mw (cW:v8):Nat→List Oper→Bool
 |_,[]=>true
 |i,o::l=>Nat.beq (qD (Eu o)) (v_ cW.M i)&&Mw cW (i+1) l
def Mx (M:List Nat) (GC i GD GF:Nat):Nat→List Nat→List Nat→List Nat→Bool
 |j,Jb::Jc,Ev::uO,Jd::uP=>(GC.testBit j||(Nat.beq i j||(Jb.testBit i||(Nat.beq (GD&&&(Jd|||Ev)) 0&&Nat.beq (Ev&&&GF) 0))))&&Mx M GC i GD GF (j+1) Jc uO uP
 |_,_,_,_=>true
def QP (cW:v8) (D K:List Nat):Nat→List Nat→List Nat→Bool
 |i,d::uO,k::uP=>Mx cW.M (v_ cW.A i) i d k 0 cW.M D K&&QP cW D K (i+1) uO uP
 |_,_,_=>true
def ae_ (ops:List Oper):List Nat:=ops.map fun o=>qD o.dst.toList
def afa (GG:Array Oper) (ops:List Oper):List Nat:=ops.map fun o=>qD (o.looksAt GG)
def My:List Nat→List Nat→Bool
 | [],[]=>true
 |a::l,b::r=>Nat.beq a b&&My l r
 |_,_=>false
theorem WO:∀ {l r:List Nat},My l r=true→l=r
 | [],[],_=>rfl
 |a::l,b::r,h=>by
   simp only[My,iL] at h
   rw[qK h.1,WO h.2]
def zQ (cW:v8) (D K:List Nat) (GG:Array Oper):Bool:=
 Nat.beq cW.M.length GG.size&&(Mw cW 0 GG.toList&&(My (ae_ GG.toList) D&&(My (afa GG GG.toList) K&&QP cW D K 0 D K)))
def Mz (cW:v8):Nat→Nat→Nat→Nat→Bool
 |0,_,N,m=>x0 cW m [] N
 |g+1,k,N,m=>(wa cW m k&&x0 cW m [k] N)&&Mz cW g (k+1) N (m|||2^k)
def hT (P:Program) (aI:TypeId→jZ) (ops:Array Oper) (n:Nat) (cW:v8) (W:Nat→Prop):bf→Nat→Nat→(Env→World→Prop)→Env→World→Prop
 | .take i t,f+1,m,K,e,w=>
   bif wa cW m i&&(ae9 cW ops.size m i&&Nat.blt i n) then
     match ops[i]? with
     |some o=>pj ops o e (WM P aI W w o (fun v=>hT P aI ops n cW W t f (m|||2^i) K (gb o.dst v e) w) e) (hT P aI ops n cW W t f (m|||2^i) K (gb o.dst undef e) w)
     |none=>False
   else False
 | .cS i t,f+1,m,K,e,w=>
   bif (wa cW m i&&x0 cW m [i] ops.size)&&Nat.blt i n then
     match ops[i]? with
     |some o=>pj ops o e (tz P aI o (fun v w'=>ao W w w'∧hT P aI ops n cW W t f (m|||2^i) K (gb o.dst v e) w') e w) (hT P aI ops n cW W t f (m|||2^i) K (gb o.dst undef e) w)
     |none=>False
   else False
 | .out i b t,f+1,m,K,e,w=>
   bif (wa cW m i&&x0 cW m [i] ops.size)&&(Nat.blt i n&&Nat.beq ((xZ 0 ops.toList&&&m)&&&v_ cW.M i) (xZ 0 ops.toList&&&m)) then
     match ops[i]? with
     |some o=>pj ops o e (tz P aI o (fun v w'=>bif b then ∃V:Nat→Prop,hT P aI ops n cW V t f (m|||2^i) K (gb o.dst v e) w' else hT P aI ops n cW W t f (m|||2^i) K (gb o.dst v e) w') e w) (hT P aI ops n cW W t f (m|||2^i) K (gb o.dst undef e) w)
     |none=>False
   else False
 | .two i t j u,f+1,m,K,e,w=>
   bif (wa cW m i&&x0 cW m [i,j] ops.size)&&(Nat.blt i n&&Nat.blt j n) then
     match ops[i]?,ops[j]? with
     |some o,some q=>
       pj ops o e (tz P aI o (fun v w'=>ao W w w'∧hT P aI ops n cW W t f (m|||2^i) K (gb o.dst v e) w') e w) (hT P aI ops n cW W t f (m|||2^i) K (gb o.dst undef e) w)∧
       pj ops q e (tz P aI q (fun v w'=>ao W w w'∧hT P aI ops n cW W u f (m|||2^j) K (gb q.dst v e) w') e w) (hT P aI ops n cW W u f (m|||2^j) K (gb q.dst undef e) w)
     |_,_=>False
   else False
 | .three i t j u k x,f+1,m,K,e,w=>
   bif (wa cW m i&&x0 cW m [i,j,k] ops.size)&&(Nat.blt i n&&(Nat.blt j n&&Nat.blt k n)) then
     match ops[i]?,ops[j]?,ops[k]? with
     |some o,some q,some r=>
       pj ops o e (tz P aI o (fun v w'=>ao W w w'∧hT P aI ops n cW W t f (m|||2^i) K (gb o.dst v e) w') e w) (hT P aI ops n cW W t f (m|||2^i) K (gb o.dst undef e) w)∧
       pj ops q e (tz P aI q (fun v w'=>ao W w w'∧hT P aI ops n cW W u f (m|||2^j) K (gb q.dst v e) w') e w) (hT P aI ops n cW W u f (m|||2^j) K (gb q.dst undef e) w)∧
       pj ops r e (tz P aI r (fun v w'=>ao W w w'∧hT P aI ops n cW W x f (m|||2^k) K (gb r.dst v e) w') e w) (hT P aI ops n cW W x f (m|||2^k) K (gb r.dst undef e) w)
     |_,_,_=>False
   else False
 | .sp s t u,f,m,K,e,w=>
   match e.get s with
   |some (.bool c)=>(c=true→hT P aI ops n cW W t f m K ((s, .bool true)::e) w)∧(c=false→hT P aI ops n cW W u f m K ((s, .bool false)::e) w)
   |_=>False
 | .fin,0,m,K,e,w=>bif x0 cW m [] ops.size&&Nat.beq n ops.size then K e w else False
 | .tail as,0,m,K,e,w=>bif Mz cW (ops.size-n) n ops.size m&&Nat.blt n ops.size then mB P aI ops (ops.size-n+1) (ops.toList.drop n) as K e w else False
 |_,_,_,_,_,_=>False
def i_ (N m:Nat):Array Bool:=(Array.range N).map fun i=>m.testBit i
theorem Je {N m i:Nat} {d:Bool} (h:i<N):(i_ N m).getD i d=m.testBit i:=by
 simp[i_,h]
theorem atB {N m i:Nat} {d:Bool} (h:N≤i):(i_ N m).getD i d=d:=by
 simp[i_,h]
theorem QQ (N m i:Nat):(i_ N m).setIfInBounds i true=i_ N (m|||2^i):=by
 apply Array.ext
 · simp[i_]
 · intro j U ad
   have aZ:j<N:=by simpa[i_] using ad
   have aq:j<(i_ N m).size:=by simpa[i_] using aZ
   rw[Array.getElem_setIfInBounds aq]
   simp only[i_,Array.getElem_map,Array.getElem_range,Cs,JP]
   by_cases VT:i=j
   · subst VT;simp
   · simp[VT]
theorem afb (N:Nat):i_ N 0=Array.replicate N false:=by
 apply Array.ext
 · simp[i_]
 · intro j U ad
   simp[i_]
section
variable {ops:Array Oper} {cW:v8} {D K:List Nat}
theorem afc:∀ (l:List Oper) (i k:Nat) (o:Oper),Mw cW i l=true→l[k]? =some o→v_ cW.M (i+k)=qD (Eu o)
 | [],_,_,_,_,h=>by simp at h
 |p::l,i,0,o,ak,h=>by
   simp only[Mw,iL] at ak
   simp only[yf,Option.some.injEq] at h
   subst h
   exact (qK ak.1).symm
 |p::l,i,k+1,o,ak,h=>by
   simp only[Mw,iL] at ak
   have:=afc l (i+1) k o ak.2 (by simpa using h)
   rw[show i+(k+1)=i+1+k by omega]
   exact this
theorem QR (h:zQ cW D K ops=true) {i:Nat} {o:Oper} (bG:ops[i]? =some o):v_ cW.M i=qD (Eu o):=by
 simp only[zQ,iL] at h
 have:=afc ops.toList 0 i o h.2.1 (by simpa using bG)
 simpa using this
theorem afd {a b:Nat} (h:a&&&b=a) {k:Nat} (ae:a.testBit k=true):b.testBit k=true:=by
 have:=congrArg (fun x=>x.testBit k) h
 simp only[Nat.testBit_and,ae,Co] at this
 exact this
theorem afe:∀ (l:List Oper) (i k:Nat) (o:Oper),l[k]? =some o→(xZ i l).testBit (i+k)=tB o
 | [],_,_,_,h=>by simp at h
 |p::l,i,0,o,h=>by
   simp only[yf,Option.some.injEq] at h
   subst h
   have low:∀ (l:List Oper) (i k:Nat),k<i→(xZ i l).testBit k=false:=by
     intro l
     induction l with
     |nil=>intro i k _;simp[xZ]
     |cons q l dx=>
       intro i k ae
       simp only[xZ]
       cases tB q
       · exact dx (i+1) k (by omega)
       · simp only[cond_true,Cs,JP,dx (i+1) k (by omega),Bool.or_false,sO]
         omega
   simp only[xZ,z7]
   cases tB p
   · exact low l (i+1) i (by omega)
   · simp[Cs]
 |p::l,i,k+1,o,h=>by
   have:=afe l (i+1) k o (by simpa using h)
   rw[show i+1+k=i+(k+1) by omega] at this
   simp only[xZ]
   cases tB p
   · exact this
   · simp only[cond_true,Cs,JP,this]
     simp
theorem QS {o:Oper} {k:Nat}:k∈Eu o↔∃e∈o.after,Region.binds .any e=true∧e.on=k:=by
 simp only[Eu,lR,tH,Array.mem_toList_iff]
 constructor
 · rintro ⟨e,⟨U,ad⟩,aq⟩;exact ⟨e,U,ad,aq⟩
 · rintro ⟨e,U,ad,aq⟩;exact ⟨e,⟨U,ad⟩,aq⟩
def Small (N m:Nat):Prop:=∀k,N≤k→m.testBit k=false
theorem atC (N:Nat):Small N 0:=fun k _=>by simp
theorem QT {N m i:Nat} (h:Small N m) (hi:i<N):Small N (m|||2^i):=fun k ae=>by
 simp only[Cs,h k ae,JP,G2,sO]
 omega
theorem QU (ak:zQ cW D K ops=true) {m i:Nat} (hm:Small ops.size m):i∈Region.ready .any ops (i_ ops.size m)↔i<ops.size∧wa cW m i=true:=by
 rw[mem_ready]
 constructor
 · rintro ⟨U,o,bG,gj⟩
   have hi:i<ops.size:=(Aa.1 bG).1
   refine ⟨hi,?_⟩
   rw[Je hi] at U
   simp only[wa,U,Bool.not_false,Co]
   rw[QR ak bG]
   have:qD (Eu o)&&&m=qD (Eu o):=by
     apply Nat.eq_of_testBit_eq
     intro k
     simp only[Nat.testBit_and,B7]
     by_cases ae:k∈Eu o
     · obtain ⟨e,he,aa,MA⟩:=QS.1 ae
       have ad:=gj e he aa
       rw[MA] at ad
       rcases hJ k ops.size with a6|cm
       · rw[Je a6] at ad;simp[ae,ad]
       · rw[atB cm] at ad;cases ad
     · simp[ae]
   rw[this];exact Nat.beq_refl _
 · rintro ⟨hi,h⟩
   simp only[wa,iL,ya] at h
   have bG:ops[i]? =some ops[i]:=by simp[hi]
   refine ⟨by rw[Je hi];exact h.1,ops[i],bG,fun e he aa=> ?_⟩
   have ad:=qK h.2
   rw[QR ak bG] at ad
   have aq:m.testBit e.on=true:=afd ad (by
     rw[B7];simp only[fE];exact QS.2 ⟨e,he,aa,rfl⟩)
   have a6:e.on<ops.size:=by
     rcases hJ e.on ops.size with h|h
     · exact h
     · rw[hm _ h] at aq;cases aq
   rw[Je a6];exact aq
theorem aff:∀ (N:Nat) {m:Nat} {is:List Nat},x0 cW m is N=true→∀k,k<N→wa cW m k=true→k∈is
 |0,_,_,_,k,ae,_=>by omega
 |N+1,m,is,h,k,ae,aY=>by
   simp only[x0,iL,wj,ya] at h
   rcases hJ k N with U|U
   · exact aff N h.2 k U aY
   · have:k=N:=by omega
     subst this
     rcases h.1 with ad|ad
     · obtain ⟨x,af,aa⟩:=List.any_eq_true.1 ad
       rw[qK aa];exact af
     · rw[aY] at ad;cases ad
theorem GH (ak:zQ cW D K ops=true) {m:Nat} {is:List Nat} (hm:Small ops.size m) (h:x0 cW m is ops.size=true):
   ∀k∈Region.ready .any ops (i_ ops.size m),k∈is:=fun k ae=>
 let ⟨U,ad⟩:=(QU ak hm).1 ae
 aff _ h k U ad
theorem afg:∀ (Jc uO uP:List Nat) (WQ:List Nat) (GC i GD GF j k:Nat) (Jb Ev Jd:Nat),Mx WQ GC i GD GF j Jc uO uP=true→Jc[k]? =some Jb→uO[k]? =some Ev→uP[k]? =some Jd→
   GC.testBit (j+k)=true∨i=j+k∨Jb.testBit i=true∨(GD&&&(Jd|||Ev)=0∧Ev&&&GF=0)
 | [],_,_,_,_,_,_,_,_,_,_,_,_,_,h,_,_=>by simp at h
 |_::_,[],_,_,_,_,_,_,_,_,_,_,_,_,_,h,_=>by simp at h
 |_::_,_::_,[],_,_,_,_,_,_,_,_,_,_,_,_,_,h=>by simp at h
 |axs::Jc,axt::uO,axu::uP,WQ,GC,i,GD,GF,j,k,Jb,Ev,Jd,ak,U,ad,aq=>by
   simp only[Mx,iL,wj] at ak
   cases k with
   |zero=>
     simp only[yf,Option.some.injEq] at U ad aq
     subst U ad aq
     rcases ak.1 with h|h|h|h
     · exact .inl h
     · exact .inr (.inl (qK h))
     · exact .inr (.inr (.inl h))
     · exact .inr (.inr (.inr ⟨qK h.1,qK h.2⟩))
   |succ k=>
     have:=afg Jc uO uP WQ GC i GD GF (j+1) k Jb Ev Jd ak.2 (by simpa using U) (by simpa using ad) (by simpa using aq)
     rw[show j+(k+1)=j+1+k by omega]
     exact this
theorem afh:∀ (uO uP:List Nat) (i k:Nat) (QV QW:Nat),QP cW D K i uO uP=true→uO[k]? =some QV→uP[k]? =some QW→
   Mx cW.M (v_ cW.A (i+k)) (i+k) QV QW 0 cW.M D K=true
 | [],_,_,_,_,_,_,h,_=>by simp at h
 |_::_,[],_,_,_,_,_,_,h=>by simp at h
 |d::uO,uI::uP,i,k,QV,QW,ak,U,ad=>by
   simp only[QP,iL] at ak
   cases k with
   |zero=>
     simp only[yf,Option.some.injEq] at U ad
     subst U ad
     exact ak.1
   |succ k=>
     have:=afh uO uP (i+1) k QV QW ak.2 (by simpa using U) (by simpa using ad)
     rw[show i+(k+1)=i+1+k by omega]
     exact this
theorem WR {a b:Nat} (h:a&&&b=0) {k:Nat} (aR:a.testBit k=true):b.testBit k=false:=by
 have:=congrArg (fun x=>x.testBit k) h
 simp only[Nat.testBit_and,aR,Co,Nat.zero_testBit] at this
 exact this
theorem atD {x y:Oper} (U:qD x.dst.toList&&&(qD (y.looksAt ops)|||qD y.dst.toList)=0) (ad:qD y.dst.toList&&&qD (x.looksAt ops)=0):
   x.apart ops y=true:=by
 unfold Oper.apart
 simp only[iL]
 refine ⟨?_,?_⟩
 · cases af:x.dst with
   |none=>rfl
   |some d=>
     rw[af] at U
     have aq:=WR U (k:=d) (by rw[B7];simp)
     simp only[Cs,B7,Ny,sO] at aq
     simp only[iL,ya,bne_iff_ne,ne_eq]
     refine ⟨by simpa using aq.1,fun h=> ?_⟩
     rw[h] at aq
     simp at aq
 · cases b2:y.dst with
   |none=>rfl
   |some d=>
     rw[b2] at ad
     have aq:=WR ad (k:=d) (by rw[B7];simp)
     simp only[B7,sO] at aq
     simpa using aq
theorem atE (ak:zQ cW D K ops=true) {m i:Nat} {wc:Oper} (hi:ops[i]? =some wc) (h:ae9 cW ops.size m i=true):
   ∀j qE,ops[j]? =some qE→j≠i→(i_ ops.size m).getD j true=false→(∀e∈qE.after,Region.binds .any e=true→e.on≠i)→wc.apart ops qE=true:=by
 intro j qE aZ sG sH c8
 have px:=ak
 simp only[zQ,iL] at ak
 obtain ⟨hlen,BV,vi,bq,ay⟩:=ak
 have ab0:=qK hlen
 have qW:=WO vi
 have atF:=WO bq
 have afi:j<ops.size:=(Aa.1 aZ).1
 have afj:∀ {k:Nat} {o:Oper},ops[k]? =some o→D[k]? =some (qD o.dst.toList):=fun {k o} bG=>by
   rw[←qW];simp[ae_,bG]
 have afk:∀ {k:Nat} {o:Oper},ops[k]? =some o→K[k]? =some (qD (o.looksAt ops)):=fun {k o} bG=>by
   rw[←atF];simp[afa,bG]
 have WS:=afh D K 0 i _ _ ay (afj hi) (afk hi)
 have atG:cW.M[j]? =some (v_ cW.M j):=by
   unfold v_
   have:j<cW.M.length:=by omega
   simp[List.getD,this]
 have:=afg cW.M D K cW.M _ _ _ _ 0 j _ _ _ WS atG (afj aZ) (afk aZ)
 simp only[gJ] at this
 rcases this with U|U|U|U
 · exfalso
   have ad:=qK h
   have aq:=WR ad U
   rw[Je afi] at sH
   simp[Nat.testBit_xor,Nat.testBit_two_pow_sub_one,afi,sH] at aq
 · exact absurd U.symm sG
 · exfalso
   rw[QR px aZ,B7] at U
   simp only[fE] at U
   obtain ⟨e,he,aa,MA⟩:=QS.1 U
   exact c8 e he aa MA
 · exact atD U.1 U.2
end
def GI (ops:Array Oper) (gu:Array Bool) (j:Nat):Prop:=
 ∀k ok qE,ops[k]? =some ok→ops[j]? =some qE→tB ok=true→gu.getD k false=true→∃e∈qE.after,Region.binds .any e=true∧e.on=k
def zR (P:Program) (ops:Array Oper) (Q:Exit→Act→World→Prop) (n:Nat) (L:Array Bool→Act→World→Prop):Nat→(World→Prop)→Array Bool→Act→World→Prop
 |0,_,gu,a,w=>L gu a w
 |f+1,S,gu,a,w=>Region.ready .any ops gu≠ []∧
     ∀i∈Region.ready .any ops gu,i<n∧wpOp P ops Q i (fun db w'=>∃gQ:World→Prop,((∀x,gQ x→S x)∨GI ops gu i)∧gQ w'∧zR P ops Q n L f gQ (gu.setIfInBounds i true) db w') a w
def MB (ops:Array Oper) (n:Nat):Prop:=
 ∀gu,HeadInv .any ops n gu→∀i,i<n→gu.getD i true=false→∀t,n≤t→t∉Region.ready .any ops gu
theorem atH (ops:Array Oper):MB ops ops.size:=by
 intro gu _ i _ _ t aU aY
 obtain ⟨_,o,bG,_⟩:=mem_ready.1 aY
 have:=(Aa.1 bG).1
 omega
theorem atI {ops:Array Oper} {n:Nat} (aj:Region.sinkB .any ops n=true) (ak:Region.chainB .any ops n=true) (aD:n<ops.size):MB ops n:=
 fun _ inv i hi sH t aU=>tail_waits aj ak aD inv _ i rfl hi sH t aU
section
variable {P:Program} {ops:Array Oper} {Q:Exit→Act→World→Prop} {n:Nat} {L:Array Bool→Act→World→Prop}
theorem YieldsIf.mono {S gQ:World→Prop} {o:Oper} {v:Value} {a:Act} (h:YieldsIf P ops S o v a) (aj:∀x,gQ x→S x):YieldsIf P ops gQ o v a:=
 h.imp (fun ⟨U,ad⟩=>⟨U,fun w hw=>ad w (aj w hw)⟩) id
theorem atJ (Jf:MB ops n) {i:Nat} {wc:Oper} {v:Value} (hi:ops[i]? =some wc) (QX:∀ (j:Nat) (o:Oper) cs b,ops[j]? =some o→o.op≠ .select cs b)
   (yA:∀c a w,Q (.panic c) (a.put wc.dst v) w→Q (.panic c) a w) (fG:i<n) (tu:∀gu a w,L gu a w→∀j∈Region.ready .any ops gu,n≤j):
   ∀ (f:Nat) (S T:World→Prop) (gu:Array Bool) (a:Act) (w:World),(∀x,S x→T x)→(tB wc=true∨∀x,T x)→HeadInv .any ops n gu→
     (∀j qE,ops[j]? =some qE→j≠i→gu.getD j true=false→(∀e∈qE.after,Region.binds .any e=true→e.on≠i)→wc.apart ops qE=true)→
     i∈Region.ready .any ops gu→YieldsIf P ops T wc v a→S w→
     zR P ops Q n L f S (gu.setIfInBounds i true) (a.put wc.dst v) w→zR P ops Q n L (f+1) S gu a w:=by
 intro f
 induction f with
 |zero=>
   intro S T gu a w QY HY inv _ aY b2 po H
   have sH:=(mem_ready.1 aY).1
   refine ⟨fun h=>(by rw[h] at aY;cases aY),fun j aZ=> ?_⟩
   have MC:j<n:=by
     rcases hJ j n with h|h
     · exact h
     · exact absurd aZ (Jf gu inv i fG sH j h)
   refine ⟨MC,?_⟩
   by_cases sG:j=i
   · subst sG;exact (YieldsIf.mono b2 QY).wpOp hi po ⟨S, .inl fun _ h=>h,po,H⟩
   · have:=tu _ _ _ H j (ready_mono aZ sG)
     omega
 |succ f dx=>
   intro S T gu a w QY HY inv K7 aY b2 po H
   have sH:=(mem_ready.1 aY).1
   refine ⟨fun h=>(by rw[h] at aY;cases aY),fun j aZ=> ?_⟩
   have MC:j<n:=by
     rcases hJ j n with h|h
     · exact h
     · exact absurd aZ (Jf gu inv i fG sH j h)
   refine ⟨MC,?_⟩
   by_cases sG:j=i
   · subst sG;exact (YieldsIf.mono b2 QY).wpOp hi po ⟨S, .inl fun _ h=>h,po,H⟩
   · have U:=(H.2 j (ready_mono aZ sG)).2
     obtain ⟨afl,qE,QZ,gj⟩:=mem_ready.1 aZ
     have LZ:∀e∈qE.after,Region.binds .any e=true→e.on≠i:=fun e he aa heq=>by
       have U:=gj e he aa
       rw[heq,getD_both sH] at U
       cases U
     have ad:=wpOp_putIf QZ (K7 j qE QZ sG afl LZ) (fun cs b=>QX i wc cs b hi) (fun cs b=>QX j qE cs b QZ) yA b2 U
     have afm:∀k ok,ops[k]? =some ok→k≠i→(gu.setIfInBounds j true).getD k true=false→
         (∀e∈ok.after,Region.binds .any e=true→e.on≠i)→wc.apart ops ok=true:=fun k ok ae kA sH c8=>by
       refine K7 k ok ae kA ?_ c8
       by_cases afn:j=k
       · subst afn;exact afl
       · rw[getD_set_ne true afn] at sH;exact sH
     refine wpOp_mono (fun db w' aq=> ?_) ad
     obtain ⟨afo,gQ,iU,Q0,BV⟩:=aq
     have WT:=BV
     rw[←Array.setIfInBounds_comm _ _ sG] at WT
     have WU:GI ops (gu.setIfInBounds i true) j→GI ops gu j:=fun aV k ok atK ae Dj aj aB=>aV k ok atK ae Dj aj (by
       by_cases og:i=k
       · subst og
         have:gu.getD i true=true:=by
           simp only[Array.getD] at aB⊢
           split at aB
           · rename_i a6;simp[a6] at aB⊢;exact aB
           · cases aB
         rw[this] at sH;cases sH
       · simp only[Array.getD,Array.size_setIfInBounds] at aB⊢
         split at aB
         · rename_i a6
           simp only[a6,dif_pos]
           simp only[Array.getInternal_eq_getElem] at aB⊢
           rw[Array.getElem_setIfInBounds_ne _ og]
           exact aB
         · cases aB)
     rcases HY with aj|afp
     · have afq:∀x,gQ x→S x:=by
         rcases iU with h|h
         · exact h
         · exfalso
           obtain ⟨e,he,aa,MA⟩:=h i wc qE hi QZ aj (by
             have a6:i<gu.size:=by
               rcases hJ i gu.size with h|h
               · exact h
               · simp[Array.getD,Nat.not_lt.2 h] at sH
             simp[Array.getD,a6])
           exact LZ e he aa MA
       exact ⟨gQ, .inl afq,Q0,dx gQ T (gu.setIfInBounds j true) db w' (fun x af=>QY x (afq x af)) (.inl aj) (inv.set aZ MC) afm (ready_mono aY (Ne.symm sG)) afo Q0 WT⟩
     · exact ⟨gQ,iU.imp id WU,Q0,dx gQ T (gu.setIfInBounds j true) db w' (fun x _=>afp x) (.inr afp) (inv.set aZ MC) afm (ready_mono aY (Ne.symm sG)) afo Q0 WT⟩
theorem afr {g:Nat} (dy:∀gu a w,L gu a w→wpAny P .any ops Q g gu a w):
   ∀ (f:Nat) (S:World→Prop) (gu:Array Bool) (a:Act) (w:World),zR P ops Q n L f S gu a w→wpAny P .any ops Q (f+g) gu a w
 |0,_,gu,a,w,h=>by rw[gJ];exact dy _ _ _ h
 |f+1,S,gu,a,w,h=>by
   rw[show f+1+g=(f+g)+1 by omega]
   exact ⟨fun b5=>absurd b5 h.1,fun i hi=>wpOp_mono (fun db w' ⟨gQ,_,_,qk⟩=>afr dy f gQ _ db w' qk) (h.2 i hi).2⟩
def LE (P:Program) (ops:Array Oper) (Q:Exit→Act→World→Prop) (n:Nat) (gu:Array Bool) (a:Act) (w:World):Prop:=
 (Region.ready .any ops gu=[]∧n=ops.size∧Q .normal a w)∨
 (Region.seqB .any ops (ops.size-n) n gu=true∧n<ops.size∧wpList P ops Q (ops.toList.drop n) a w)
theorem atL:∀gu a w,LE P ops Q n gu a w→∀j∈Region.ready .any ops gu,n≤j:=by
 rintro gu a w (⟨h,_,_⟩|⟨h,aD,_⟩) j aZ
 · rw[h] at aZ;cases aZ
 · exact seqB_ready h j aZ
theorem atM:∀gu a w,LE P ops Q n gu a w→wpAny P .any ops Q (ops.size-n) gu a w:=by
 rintro gu a w (⟨h,aD,J⟩|⟨h,aD,J⟩)
 · subst aD
   rw[ER]
   exact ⟨h,J⟩
 · have:=wpAny_of_seq (md:= .any) (P:=P) (Q':=Q) (ops.toList.drop n) n gu a w (fun j=>by simp[Nw]) (by simpa using h) J
   simpa using this
end
section
variable {P:Program} {aI:TypeId→jZ} {ops:Array Oper} {n:Nat} {cW:v8} {h6 gI:List Nat} {W:Nat→Prop}
theorem afs (ak:zQ cW h6 gI ops=true):∀ (g k m:Nat),Small ops.size m→k+g=ops.size→Mz cW g k ops.size m=true→Region.seqB .any ops g k (i_ ops.size m)=true
 |0,k,m,hm,ae,h=>by
   simp only[Mz] at h
   simp only[Region.seqB,List.isEmpty_iff]
   cases aY:Region.ready .any ops (i_ ops.size m) with
   |nil=>rfl
   |cons x l=>
     have:=GH ak hm h x (by rw[aY];simp)
     cases this
 |g+1,k,m,hm,ae,h=>by
   simp only[Mz,iL] at h
   simp only[Region.seqB,iL,fE]
   have JX:k<ops.size:=by omega
   have q6:k∈Region.ready .any ops (i_ ops.size m):=(QU ak hm).2 ⟨JX,h.1.1⟩
   refine ⟨?_,?_⟩
   · have gj:=GH ak hm h.1.2
     have jH:(Region.ready .any ops (i_ ops.size m)).Nodup:=by
       unfold Region.ready
       exact List.Pairwise.filter _ List.nodup_range
     revert q6 gj jH
     generalize Region.ready .any ops (i_ ops.size m)=l
     intro q6 gj jH
     match l,q6,gj,jH with
     | [],q6,_,_=>cases q6
     | [x],q6,gj,_=>rw[lT.1 (gj x (by simp))]
     |x::y::l,_,gj,jH=>
       have af:=lT.1 (gj x (by simp))
       have b2:=lT.1 (gj y (by simp))
       simp[af,b2] at jH
   · rw[QQ]
     exact afs ak g (k+1) (m|||2^k) (QT hm JX) (by omega) h.2
theorem atN (ak:zQ cW h6 gI ops=true) (Jf:MB ops n) (aD:n≤ops.size) (QX:Region.noSelect ops=true) {a0:Act} (aa:∀d∈cH ops.toList,d<a0.tmps.size):
   ∀ (t:bf) (W:Nat→Prop) (f:Nat) (m:Nat) (K:Env→World→Prop) (e:Env) (a:Act) (w:World),gr e a→h7 (cH ops.toList) a0 a→Small ops.size m→HeadInv .any ops n (i_ ops.size m)→
     hT P aI ops n cW W t f m K e w→zR P ops (n4 a0 (cH ops.toList) K) n (LE P ops (n4 a0 (cH ops.toList) K) n) f (ao W w) (i_ ops.size m) a w:=by
 intro t
 have Jg:∀ (i:Nat) (o:Oper),ops[i]? =some o→∀k,o.dst=some k→k∈cH ops.toList:=by
   intro i o bG k ae
   simp only[cH,List.mem_filterMap]
   exact ⟨o,by simpa using Array.mem_of_getElem? bG,ae⟩
 have Jh:∀ (W:Nat→Prop) (t:bf),(∀ (W:Nat→Prop) (f:Nat) (m:Nat) (K:Env→World→Prop) (e:Env) (a:Act) (w:World),gr e a→h7 (cH ops.toList) a0 a→Small ops.size m→HeadInv .any ops n (i_ ops.size m)→
     hT P aI ops n cW W t f m K e w→zR P ops (n4 a0 (cH ops.toList) K) n (LE P ops (n4 a0 (cH ops.toList) K) n) f (ao W w) (i_ ops.size m) a w)→
     ∀ (f:Nat) (m:Nat) (K:Env→World→Prop) (e:Env) (a:Act) (w:World) (i:Nat) (o:Oper),gr e a→h7 (cH ops.toList) a0 a→Small ops.size m→HeadInv .any ops n (i_ ops.size m)→
     i∈Region.ready .any ops (i_ ops.size m)→i<n→ops[i]? =some o→
     pj ops o e (tz P aI o (fun v w'=>ao W w w'∧hT P aI ops n cW W t f (m|||2^i) K (gb o.dst v e) w') e w) (hT P aI ops n cW W t f (m|||2^i) K (gb o.dst undef e) w)→
     wpOp P ops (n4 a0 (cH ops.toList) K) i (fun db w'=>∃gQ:World→Prop,((∀x,gQ x→ao W w x)∨GI ops (i_ ops.size m) i)∧gQ w'∧zR P ops (n4 a0 (cH ops.toList) K) n (LE P ops (n4 a0 (cH ops.toList) K) n) f gQ ((i_ ops.size m).setIfInBounds i true) db w') a w:=by
   intro W t dx f m K e a w i o ay ae hm inv aY fG bG h
   have next:∀ (v:Value) (w':World),ao W w w'→hT P aI ops n cW W t f (m|||2^i) K (gb o.dst v e) w'→
       ∃gQ:World→Prop,((∀x,gQ x→ao W w x)∨GI ops (i_ ops.size m) i)∧gQ w'∧zR P ops (n4 a0 (cH ops.toList) K) n (LE P ops (n4 a0 (cH ops.toList) K) n) f gQ ((i_ ops.size m).setIfInBounds i true) (a.put o.dst v) w':=by
     intro v w' atO h
     have iz:h7 (cH ops.toList) a (a.put o.dst v):=h7.put (Jg i o bG)
     have hinv:=inv.set aY fG
     rw[QQ] at hinv⊢
     exact ⟨ao W w', .inl fun x af=>atO.trans af, .refl _ _,dx W f _ K _ _ w' (ay.put fun k dW=>by rw[ae.size];exact aa k (Jg i o bG k dW)) (ae.trans iz) (QT hm (by omega)) hinv h⟩
   unfold wpOp
   simp only[bG]
   rcases Mt ay h with ⟨hw,aV⟩|⟨hw,aV⟩
   · simp only[hw,if_true]
     exact .inl ((QK ay aV).wp fun v w' ⟨U,ad⟩=>next v w' U ad)
   · simp only[hw,lS,if_false]
     exact next _ _ (.refl _ _) aV
 have Q1:∀ {b c d:Bool} {X:Prop},(bif b&&(c&&d) then X else False)→b=true∧c=true∧d=true∧X:=by
   intro b c d X h
   cases b<;>cases c<;>cases d<;>first|exact h.elim|exact ⟨rfl,rfl,rfl,h⟩
 have WV:∀ {b c:Bool} {X:Prop},(bif b&&c then X else False)→b=true∧c=true∧X:=by
   intro b c X h
   cases b<;>cases c<;>first|exact h.elim|exact ⟨rfl,rfl,h⟩
 have blt:∀ {i j:Nat},Nat.blt i j=true→i<j:=fun h=>by
   have:=Ct h
   omega
 have ne_nil:∀ {m i:Nat},Small ops.size m→wa cW m i=true→i<ops.size→Region.ready .any ops (i_ ops.size m)≠ []:=fun hm h hi b5=>by
   have:=(QU ak hm).2 ⟨hi,h⟩
   rw[b5] at this;cases this
 induction t with
 |take i t dx=>
   intro W f m K e a w ay ae hm inv h
   cases f with
   |zero=>simp[hT] at h
   |succ f=>
     simp only[hT] at h
     obtain ⟨U,ad,aq,h⟩:=Q1 h
     have fG:=blt aq
     have aY:i∈Region.ready .any ops (i_ ops.size m):=(QU ak hm).2 ⟨by omega,U⟩
     split at h
     · rename_i o bG
       have fin:∀v,YieldsIf P ops (fun x=>tB o=true→ao W w x) o v a→hT P aI ops n cW W t f (m|||2^i) K (gb o.dst v e) w→
           zR P ops (n4 a0 (cH ops.toList) K) n (LE P ops (n4 a0 (cH ops.toList) K) n) (f+1) (ao W w) (i_ ops.size m) a w:=by
         intro v b2 h
         have iz:h7 (cH ops.toList) a (a.put o.dst v):=h7.put (Jg i o bG)
         refine atJ Jf bG (Region.noSelect_spec QX) (fun c a w J=>by cases J.1) fG atL f (ao W w) (fun x=>tB o=true→ao W w x) _ a w (fun _ h _=>h) (by cases aj:tB o<;>simp) inv (atE ak bG ad) aY b2 (.refl _ _) ?_
         have hinv:=inv.set aY fG
         rw[QQ] at hinv⊢
         exact dx W f _ K _ _ w (ay.put fun k dW=>by rw[ae.size];exact aa k (Jg i o bG k dW)) (ae.trans iz) (QT hm (by omega)) hinv h
       rcases Mt ay h with ⟨hw,aV⟩|⟨hw,aV⟩
       · obtain ⟨v,al,bq⟩:=atA ay aV
         exact fin v (.inl ⟨hw,fun w' ak=>al w' ak⟩) bq
       · exact fin undef (.inr ⟨hw,rfl⟩) aV
     · exact h.elim
 |cS i t dx=>
   intro W f m K e a w ay ae hm inv h
   cases f with
   |zero=>simp[hT] at h
   |succ f=>
     simp only[hT] at h
     obtain ⟨m8,aq,h⟩:=WV h
     simp only[iL] at m8
     have fG:=blt aq
     split at h
     · rename_i o bG
       refine ⟨ne_nil hm m8.1 (by omega),fun j aZ=> ?_⟩
       have sG:j=i:=by simpa using GH ak hm m8.2 j aZ
       subst sG
       exact ⟨fG,Jh W t dx f m K e a w j o ay ae hm inv aZ fG bG h⟩
     · exact h.elim
 |out i b t dx=>
   intro W f m K e a w ay ae hm inv h
   cases f with
   |zero=>simp[hT] at h
   |succ f=>
     simp only[hT] at h
     obtain ⟨m8,aq,aK,h⟩:=Q1 h
     simp only[iL] at m8
     have fG:=blt aq
     have aK:=qK aK
     split at h
     · rename_i o bG
       refine ⟨ne_nil hm m8.1 (by omega),fun j aZ=> ?_⟩
       have sG:j=i:=by simpa using GH ak hm m8.2 j aZ
       subst sG
       refine ⟨fG,?_⟩
       have WU:GI ops (i_ ops.size m) j:=by
         intro k ok qE iz Dj aj aB
         have fy:k<ops.size:=(Aa.1 iz).1
         rw[Je fy] at aB
         have jo:(xZ 0 ops.toList&&&m).testBit k=true:=by
           rw[Nat.testBit_and,aB,Bool.and_true]
           exact (afe ops.toList 0 k ok (by simpa using iz)).trans aj|>(by simpa using ·)
         have aW:(v_ cW.M j).testBit k=true:=afd aK jo
         rw[QR ak Dj,B7] at aW
         simp only[fE] at aW
         exact QS.1 aW
       have next:∀ (v:Value) (w':World) (V:Nat→Prop),hT P aI ops n cW V t f (m|||2^j) K (gb o.dst v e) w'→
           ∃gQ:World→Prop,((∀x,gQ x→ao W w x)∨GI ops (i_ ops.size m) j)∧gQ w'∧zR P ops (n4 a0 (cH ops.toList) K) n (LE P ops (n4 a0 (cH ops.toList) K) n) f gQ ((i_ ops.size m).setIfInBounds j true) (a.put o.dst v) w':=by
         intro v w' V h
         have iz:h7 (cH ops.toList) a (a.put o.dst v):=h7.put (Jg j o bG)
         have hinv:=inv.set aZ fG
         rw[QQ] at hinv⊢
         exact ⟨ao V w', .inr WU, .refl _ _,dx V f _ K _ _ w' (ay.put fun k dW=>by rw[ae.size];exact aa k (Jg j o bG k dW)) (ae.trans iz) (QT hm (by omega)) hinv h⟩
       unfold wpOp
       simp only[bG]
       rcases Mt ay h with ⟨hw,aV⟩|⟨hw,aV⟩
       · simp only[hw,if_true]
         refine .inl ((QK ay aV).wp fun v w' ad=> ?_)
         cases b with
         |true=>
           obtain ⟨V,ad⟩:=ad
           exact next v w' V ad
         |false=>exact next v w' W ad
       · simp only[hw,lS,if_false]
         exact next _ _ W aV
     · exact h.elim
 |two i t j u MD ME=>
   intro W f m K e a w ay ae hm inv h
   cases f with
   |zero=>simp[hT] at h
   |succ f=>
     simp only[hT] at h
     obtain ⟨m8,aq,aK,h⟩:=Q1 h
     simp only[iL] at m8
     have hi:=blt aq
     split at h
     · rename_i o q bG J
       refine ⟨ne_nil hm m8.1 (by omega),fun k iz=> ?_⟩
       have kA:k=i∨k=j:=by simpa using GH ak hm m8.2 k iz
       rcases kA with kA|kA
       · subst kA
         exact ⟨blt aq,Jh W t MD f m K e a w k o ay ae hm inv iz (blt aq) bG h.1⟩
       · subst kA
         exact ⟨blt aK,Jh W u ME f m K e a w k q ay ae hm inv iz (blt aK) J h.2⟩
     · exact h.elim
 |three i t j u k x MD ME atP=>
   intro W f m K e a w ay ae hm inv h
   cases f with
   |zero=>simp[hT] at h
   |succ f=>
     simp only[hT] at h
     obtain ⟨m8,aq,atQ,h⟩:=Q1 (d:=_) h
     obtain ⟨aK,aW⟩:Nat.blt j n=true∧Nat.blt k n=true:=by simpa using atQ
     simp only[iL] at m8
     have hi:=blt aq
     split at h
     · rename_i o q r bG J Zu
       refine ⟨ne_nil hm m8.1 (by omega),fun y iz=> ?_⟩
       have kA:y=i∨y=j∨y=k:=by simpa using GH ak hm m8.2 y iz
       rcases kA with kA|kA|kA
       · subst kA
         exact ⟨blt aq,Jh W t MD f m K e a w y o ay ae hm inv iz (blt aq) bG h.1⟩
       · subst kA
         exact ⟨blt aK,Jh W u ME f m K e a w y q ay ae hm inv iz (blt aK) J h.2.1⟩
       · subst kA
         exact ⟨blt aW,Jh W x atP f m K e a w y r ay ae hm inv iz (blt aW) Zu h.2.2⟩
     · exact h.elim
 |sp s t u MD ME=>
   intro W f m K e a w ay ae hm inv h
   have qk:match e.get s with
     |some (.bool c)=>(c=true→hT P aI ops n cW W t f m K ((s, .bool true)::e) w)∧(c=false→hT P aI ops n cW W u f m K ((s, .bool false)::e) w)
     |_=>False:=by cases f<;>simpa only[hT] using h
   split at qk
   · rename_i c aj
     cases c with
     |true=>exact MD W f m K _ a w (ay.lit aj) ae hm inv (qk.1 rfl)
     |false=>exact ME W f m K _ a w (ay.lit aj) ae hm inv (qk.2 rfl)
   · exact qk.elim
 |fin=>
   intro W f m K e a w ay ae hm inv h
   cases f with
   |succ f=>simp[hT] at h
   |zero=>
     simp only[hT] at h
     obtain ⟨U,ad,h⟩:=WV h
     refine .inl ⟨?_,qK ad,rfl,ae,e,ay,h⟩
     cases aY:Region.ready .any ops (i_ ops.size m) with
     |nil=>rfl
     |cons x l=>
       have:=GH ak hm U x (by rw[aY];simp)
       cases this
 |tail as=>
   intro W f m K e a w ay ae hm inv h
   cases f with
   |succ f=>simp[hT] at h
   |zero=>
     simp only[hT] at h
     obtain ⟨U,ad,h⟩:=WV h
     have iU:∀k,k∈cH (ops.toList.drop n)→k∈cH ops.toList:=fun k ae=>by
       simp only[cH,List.mem_filterMap] at ae⊢
       obtain ⟨o,bG,ae⟩:=ae
       exact ⟨o,kp bG,ae⟩
     have:=ae3 _ _ _ K e a w ay (fun d hd=>by rw[ae.size];exact aa d (iU d hd)) h
     exact .inr ⟨afs ak _ _ _ hm (by omega) U,blt ad,r3 (fun x db w' ⟨aC,aG,aJ⟩=>⟨aC,ae.trans (aG.mono iU),aJ⟩) _ _ _ this⟩
theorem atR (ops:Array Oper) (n:Nat):HeadInv .any ops n (Array.replicate ops.size false):=
 ⟨by simp,fun j qE _ aB=>(by rw[getD_replicate_false] at aB;cases aB),fun t _ aU=>getD_in (by simpa using aU) (getD_replicate_false _ _)⟩
def WW (P:Program) (aI:TypeId→jZ) (ops:Array Oper) (n:Nat) (MF:Bool) (cW:v8) (h6 gI:List Nat) (t:bf) (K:Env→World→Prop) (e:Env) (w:World):Prop:=
 bif (Region.noSelect ops&&zQ cW h6 gI ops)&&(bif Nat.beq n ops.size then true else Nat.blt n ops.size&&(Region.sinkB .any ops n&&Region.chainB .any ops n)) then
   bif MF then
     az w.drew fun ag=>∃W:Nat→Prop,hT P aI ops n cW W t n 0 K e ag
   else az w.drew fun ag=>hT P aI ops n cW (fun _=>False) t n 0 K e ag
 else False
theorem atS {id:Nat} {MF:Bool} {t:bf} {K:Env→World→Prop} {e:Env} {a:Act} {w:World} (hm:P.follows .mixedOrders=true)
   (ay:gr e a) (aa:∀d∈cH ops.toList,d<a.tmps.size) (h:WW P aI ops n MF cW h6 gI t K e w):
   (Code.region id ops true).wp P (n4 a (cH ops.toList) K) a w:=by
 unfold WW at h
 cases b5:(Region.noSelect ops&&zQ cW h6 gI ops) with
 |false=>rw[b5] at h;exact h.elim
 |true=>
   rw[b5] at h
   simp only[Co] at h
   simp only[iL] at b5
   obtain ⟨U,ak⟩:=b5
   cases ad:(bif Nat.beq n ops.size then true else Nat.blt n ops.size&&(Region.sinkB .any ops n&&Region.chainB .any ops n)) with
   |false=>rw[ad] at h;exact h.elim
   |true=>
     rw[ad] at h
     simp only[cond_true] at h
     have Jf:MB ops n:=by
       cases aD:Nat.beq n ops.size with
       |true=>rw[qK aD];exact atH ops
       |false=>
         rw[aD] at ad
         simp only[cond_false,iL] at ad
         refine atI ad.2.1 ad.2.2 ?_
         have:=Ct ad.1
         omega
     have hle:n≤ops.size:=by
       cases aD:Nat.beq n ops.size with
       |true=>rw[qK aD];exact cP _
       |false=>
         rw[aD] at ad
         simp only[cond_false,iL] at ad
         have:=Ct ad.1
         omega
     have key:∀W,hT P aI ops n cW W t n 0 K e w.drew→(Code.region id ops true).wp P (n4 a (cH ops.toList) K) a w:=by
       intro W h
       refine wp_region_any hm ?_
       have BV:=atN ak Jf hle U aa t W n 0 K e a w.drew ay (.refl _ _) (atC _) (by rw[afb];exact atR ops n) h
       rw[afb] at BV
       have:=afr atM _ _ _ _ _ BV
       rw[show n+(ops.size-n)=ops.size by omega] at this
       exact this
     cases MF with
     |true=>obtain ⟨W,h⟩:=h;exact key W h
     |false=>exact key _ h
end
end b8
namespace b8
open Go
inductive bL where
 |leaf
 |gB (as:List B5)
 |eL (n:Nat) (MF:Bool) (cW:v8) (h6 gI:List Nat) (t:bf)
 |seq (a b:bL)
 |cond (a b:bL)
 |c1 (a:bL)
 |loop (live:List (Nat×jY)) (g8:List Nat) (a:bL)
 |lO (live:List (Nat×jY)) (g8:List Nat) (a:bL)
def nJ:List (Nat×jY)→Type
 | []=>World→Prop
 |(_,l)::r=>l.T→nJ r
def Ew:List (Nat×jY)→Type
 | []=>World→Nat
 |(_,l)::r=>l.T→Ew r
def Ji (l:jY) (v:Option Value) (K:l.T→Prop):Prop:=
 match l,v with
 | .int k,some (.int mN n)=>bif uN k mN then K n else False
 | .bool,some (.bool b)=>K b
 | .str,some (.string s)=>K s
 | .ptr,some (.pointer p)=>K p
 | .slice,some (.slice a n c)=>K ⟨a,n,c⟩
 | .map,some (.map r)=>K r
 | .agg,some (.agg cs)=>K cs
 | .fn,some (.func (.func f) a b)=>K ⟨f,a,b⟩
 | .any,some v=>K v
 |_,_=>False
def nJ.app:(live:List (Nat×jY))→nJ live→(Nat→Option Value)→World→Prop
 | [],k,_,w=>k w
 |(s,l)::r,k,g,w=>Ji l (g s) fun x=>nJ.app r (k x) g w
def nJ.lam:(live:List (Nat×jY))→(Env→World→Prop)→nJ live
 | [],F=>fun w=>F [] w
 |(s,l)::r,F=>fun x=>nJ.lam r fun e w=>F ((s,l.v x)::e) w
def WX:(live:List (Nat×jY))→nJ live→Ew live→(Env→Nat→World→Prop)→Prop
 | [],I,μ,F=>∀w,I w→F [] (μ w) w
 |(s,l)::r,I,μ,F=>∀x:l.T,WX r (I x) (μ x) fun e m w=>F ((s,l.v x)::e) m w
def WY:(live:List (Nat×jY))→nJ live→Ew live→Nat→(Nat→Option Value)→World→Prop
 | [],I,μ,m,_,w=>I w∧μ w<m
 |(s,l)::r,I,μ,m,g,w=>Ji l (g s) fun x=>WY r (I x) (μ x) m g w
def sI:(live:List (Nat×jY))→Ew live→(Nat→Option Value)→World→Nat
 | [],μ,_,w=>μ w
 |(s,l)::r,μ,g,w=>
   match l,g s,μ with
   | .int _,some (.int _ n),μ=>sI r (μ n) g w
   | .bool,some (.bool b),μ=>sI r (μ b) g w
   | .str,some (.string b),μ=>sI r (μ b) g w
   | .ptr,some (.pointer b),μ=>sI r (μ b) g w
   | .slice,some (.slice a n c),μ=>sI r (μ (ab.mk a n c)) g w
   | .map,some (.map b),μ=>sI r (μ b) g w
   | .agg,some (.agg b),μ=>sI r (μ b) g w
   | .fn,some (.func (.func f) a b),μ=>sI r (μ (qB.mk f a b)) g w
   | .any,some v,μ=>sI r (μ v) g w
   |_,_,_=>0
def writes:Code→List Nat
 | .region _ ops _=>cH ops.toList
 | .seq a b=>writes a++writes b
 | .cond _ a b=>writes a++writes b
 | .block _ a=>writes a
 | .loop a=>writes a
 | .scope a=>writes a
 |_=> []
def MG (g8 ws:List Nat):Bool:=g8.all fun s=> !(ws.any fun d=>Nat.beq d s)
def GJ (e:Env):List Nat→Env
 | []=> []
 |s::ks=>match e.get s with
   |some v=>(s,v)::GJ e ks
   |none=>GJ e ks
def Jj:Env→Env→Env
 | [],f=>f
 |p::e,f=>p::Jj e f
def D (P:Program) (aI:TypeId→jZ):bL→Code→(Exit→Env→World→Prop)→Env→World→Prop
 | .leaf,c,K,e,w=>
   match c with
   | .skip=>K .normal e w
   | .label _=>K .normal e w
   | .exit id=>K (.exit id) e w
   | .ret=>K .ret e w
   |_=>False
 | .gB as,c,K,e,w=>
   match c with
   | .region _ ops false=>mB P aI ops (ops.size+1) ops.toList as (fun eD w'=>K .normal eD w') e w
   |_=>False
 | .eL n he cW h6 gI t,c,K,e,w=>
   match c with
   | .region _ ops true=>WW P aI ops n he cW h6 gI t (fun eD w'=>K .normal eD w') e w
   |_=>False
 | .seq A B,c,K,e,w=>
   match c with
   | .seq a b=>D P aI A a (fun x eD w'=>match x with| .normal=>D P aI B b K eD w'|x=>K x eD w') e w
   |_=>False
 | .cond A B,c,K,e,w=>
   match c with
   | .cond o x y=>match bC e o with
     |some (.bool b)=>(b=true→D P aI A x K e w)∧(b=false→D P aI B y K e w)
     |_=>False
   |_=>False
 | .c1 A,c,K,e,w=>
   match c with
   | .block id b=>D P aI A b (fun x eD w'=>match x with| .exit Jk=>bif Nat.beq Jk id then K .normal eD w' else K (.exit Jk) eD w'|x=>K x eD w') e w
   |_=>False
 | .loop live g8 A,c,K,e,w=>
   match c with
   | .loop b=>bif MG g8 (writes b) then
       ∃ (I:nJ live) (μ:Ew live),nJ.app live I e.get w∧
         WX live I μ fun el m w'=>D P aI A b (fun x eD iH=>match x with| .normal=>WY live I μ m eD.get iH|x=>K x eD iH) (Jj el (GJ e g8)) w'
     else False
   |_=>False
 | .lO live g8 A,c,K,e,w=>
   bif MG g8 (writes c) then
     de (fun k:nJ live=>D P aI A c (fun x eD w'=>match x with| .normal=>nJ.app live k eD.get w'|x=>K x eD w') e w)
       (nJ.lam live fun el w'=>K .normal (Jj el (GJ e g8)) w')
   else False
def atT (a:Act) (ds:List Nat) (K:Exit→Env→World→Prop) (x:Exit) (db:Act) (w':World):Prop:=
 h7 ds a db∧∃eD,gr eD db∧K x eD w'
def Sub (e:Env) (g:Nat→Option Value):Prop:=∀s v,e.get s=some v→g s=some v
theorem Sub.cons {e:Env} {g:Nat→Option Value} {s:Nat} {v:Value} (h:Sub e g) (aj:g s=some v):Sub ((s,v)::e) g:=by
 intro t u aU
 rw[Gx] at aU
 by_cases hE:s=t
 · subst hE;rw[if_pos rfl] at aU;rw[aj];exact aU
 · rw[if_neg hE] at aU;exact h t u aU
theorem Sub.nil {g:Nat→Option Value}:Sub [] g:=fun _ _ h=>by cases h
theorem Q2 {l:jY} {v:Option Value} {K:l.T→Prop} (h:Ji l v K):∃x:l.T,v=some (l.v x)∧K x:=by
 unfold Ji at h
 split at h
 · rename_i k mN n K
   by_cases ae:k=mN
   · subst ae
     simp only[uN,decide_true,cond_true] at h
     exact ⟨n,rfl,h⟩
   · simp[uN,ae] at h
 all_goals first
   |exact ⟨_,rfl,h⟩
   |exact h.elim
theorem aft {l:jY} {v:Option Value} {K:l.T→Prop} {x:l.T} (al:v=some (l.v x)) (h:K x):Ji l v K:=by
 subst al
 cases l<;>simp only[Ji,jY.v,uN,decide_true,cond_true]<;>exact h
theorem afu {s:Nat} {l:jY} {r:List (Nat×jY)} {μ:Ew ((s,l)::r)} {g:Nat→Option Value} {w:World} {x:l.T} (al:g s=some (l.v x)):
   sI ((s,l)::r) μ g w=sI r (μ x) g w:=by
 cases l<;>simp only[sI,al,jY.v]<;>rfl
theorem afv:∀ {live:List (Nat×jY)} {F:Env→World→Prop} {g:Nat→Option Value} {w:World},nJ.app live (nJ.lam live F) g w→∃el,Sub el g∧F el w
 | [],F,g,w,h=>⟨[],Sub.nil,h⟩
 |(s,l)::r,F,g,w,h=>by
   obtain ⟨x,al,h⟩:=Q2 h
   obtain ⟨el,aj,h⟩:=afv h
   exact ⟨(s,l.v x)::el,aj.cons al,h⟩
theorem afw:∀ {live:List (Nat×jY)} {I:nJ live} {g g':Nat→Option Value} {w:World},(∀s v,g s=some v→g' s=some v)→nJ.app live I g w→nJ.app live I g' w
 | [],_,_,_,_,_,h=>h
 |(s,l)::r,I,g,g',w,bl,h=>by
   obtain ⟨x,al,h⟩:=Q2 h
   exact aft (bl _ _ al) (afw bl h)
theorem afx:∀ {live:List (Nat×jY)} {I:nJ live} {μ:Ew live} {F:Env→Nat→World→Prop} {g:Nat→Option Value} {w:World},
   WX live I μ F→nJ.app live I g w→∃el,Sub el g∧F el (sI live μ g w) w
 | [],I,μ,F,g,w,h,GK=>⟨[],Sub.nil,h w GK⟩
 |(s,l)::r,I,μ,F,g,w,h,GK=>by
   obtain ⟨x,al,GK⟩:=Q2 GK
   obtain ⟨el,aj,h⟩:=afx (h x) GK
   exact ⟨(s,l.v x)::el,aj.cons al,by rw[afu al];exact h⟩
theorem afy:∀ {live:List (Nat×jY)} {I:nJ live} {μ:Ew live} {m:Nat} {g g':Nat→Option Value} {w:World},
   (∀s v,g s=some v→g' s=some v)→WY live I μ m g w→nJ.app live I g' w∧sI live μ g' w<m
 | [],_,_,_,_,_,_,_,h=>h
 |(s,l)::r,I,μ,m,g,g',w,bl,h=>by
   obtain ⟨x,al,h⟩:=Q2 h
   obtain ⟨U,ad⟩:=afy bl h
   exact ⟨aft (bl _ _ al) U,by rw[afu (bl _ _ al)];exact ad⟩
theorem afz:∀ {e f:Env} {s:Nat} {v:Value},(Jj e f).get s=some v→e.get s=some v∨f.get s=some v
 | [],_,_,_,h=> .inr h
 |(k,u)::e,f,s,v,h=>by
   simp only[Jj] at h
   rw[Gx] at h⊢
   by_cases ae:k=s
   · rw[if_pos ae] at h⊢;exact .inl h
   · rw[if_neg ae] at h⊢;exact afz h
theorem WZ {e:Env}:∀ {ks:List Nat} {s:Nat} {v:Value},(GJ e ks).get s=some v→s∈ks∧e.get s=some v
 | [],_,_,h=>by cases h
 |k::ks,s,v,h=>by
   simp only[GJ] at h
   split at h
   · rename_i u hu
     rw[Gx] at h
     by_cases ae:k=s
     · rw[if_pos ae] at h
       subst ae
       exact ⟨by simp,by rw[hu];exact h⟩
     · rw[if_neg ae] at h
       have:=WZ h
       exact ⟨by simp[this.1],this.2⟩
   · have:=WZ h
     exact ⟨by simp[this.1],this.2⟩
theorem afA {e el:Env} {a db:Act} {g8 ws:List Nat} (ay:gr e a) (ae:h7 ws a db) (bG:MG g8 ws=true) (aj:Sub el fun s=>db.tmps[s]?):
   gr (Jj el (GJ e g8)) db:=by
 constructor
 intro s v h
 rcases afz h with h|h
 · exact aj s v h
 · obtain ⟨U,ad⟩:=WZ h
   have aq:=GZ.1 bG s U
   simp only[ya,JM] at aq
   rw[ae.same s fun hm=>aq s hm (Nat.beq_refl s)]
   exact ay.get s v ad
section
variable {P:Program} {aI:TypeId→jZ}
theorem tC {c:Code} {Q Q':Exit→Act→World→Prop} {a:Act} {w:World} (h:c.wp P Q a w) (J:∀e a w,Q e a w→Q' e a w):c.wp P Q' a w:=wp_mono h J
theorem Q3 (hm:P.follows .mixedOrders=true):∀ (A:bL) (c:Code) (K:Exit→Env→World→Prop) (e:Env) (a:Act) (w:World),gr e a→(∀d∈writes c,d<a.tmps.size)→
   D P aI A c K e w→c.wp P (atT a (writes c) K) a w:=by
 intro A
 induction A with
 |leaf=>
   intro c K e a w ay aa h
   simp only[D] at h
   split at h
   · exact wp_skip ⟨.refl _ _,e,ay,h⟩
   · exact wp_label ⟨.refl _ _,e,ay,h⟩
   · exact wp_exit ⟨.refl _ _,e,ay,h⟩
   · exact wp_ret ⟨.refl _ _,e,ay,h⟩
   · exact h.elim
 |gB as=>
   intro c K e a w ay aa h
   simp only[D] at h
   split at h
   · rename_i id ops
     have:=ae3 _ _ _ _ e a w ay aa h
     refine wp_region_list (r3 ?_ _ _ _ this)
     rintro x db w' ⟨rfl,ae,eD,oH,bq⟩
     exact ⟨ae,eD,oH,bq⟩
   · exact h.elim
 |eL n he cW h6 gI t=>
   intro c K e a w ay aa h
   simp only[D] at h
   split at h
   · rename_i id ops
     refine tC (atS hm ay aa h) ?_
     rintro x db w' ⟨rfl,ae,eD,oH,bq⟩
     exact ⟨ae,eD,oH,bq⟩
   · exact h.elim
 |seq A B Q4 MH=>
   intro c K e a w ay aa h
   simp only[D] at h
   split at h
   · rename_i x y
     have af:∀d,d∈writes x→d∈writes (.seq x y):=fun d hd=>by simp[writes,hd]
     have b2:∀d,d∈writes y→d∈writes (.seq x y):=fun d hd=>by simp[writes,hd]
     refine wp_seq (tC (Q4 x _ e a w ay (fun d hd=>aa d (af d hd)) h) ?_)
     rintro ex a7 ag ⟨ae,ba,ij,U⟩
     cases ex with
     |normal=>
       refine tC (MH y K ba a7 ag ij (fun d hd=>by rw[ae.size];exact aa d (b2 d hd)) U) ?_
       rintro ex cQ aw ⟨dW,bp,lA,ad⟩
       exact ⟨(ae.mono af).trans (dW.mono b2),bp,lA,ad⟩
     |exit id=>exact ⟨ae.mono af,ba,ij,U⟩
     |goto l=>exact ⟨ae.mono af,ba,ij,U⟩
     |ret=>exact ⟨ae.mono af,ba,ij,U⟩
     |panic Ex=>exact ⟨ae.mono af,ba,ij,U⟩
     |outgrown=>exact ⟨ae.mono af,ba,ij,U⟩
   · exact h.elim
 |cond A B Q4 MH=>
   intro c K e a w ay aa h
   simp only[D] at h
   split at h
   · rename_i o x y
     have af:∀d,d∈writes x→d∈writes (.cond o x y):=fun d hd=>by simp[writes,hd]
     have b2:∀d,d∈writes y→d∈writes (.cond o x y):=fun d hd=>by simp[writes,hd]
     split at h
     · rename_i b bG
       refine wp_cond_split (ay.bC bG) (fun ox=> ?_) (fun ox=> ?_)
       · refine tC (Q4 x K e a w ay (fun d hd=>aa d (af d hd)) (h.1 ox)) ?_
         rintro ex cQ aw ⟨dW,bp,lA,ad⟩
         exact ⟨dW.mono af,bp,lA,ad⟩
       · refine tC (MH y K e a w ay (fun d hd=>aa d (b2 d hd)) (h.2 ox)) ?_
         rintro ex cQ aw ⟨dW,bp,lA,ad⟩
         exact ⟨dW.mono b2,bp,lA,ad⟩
     · exact h.elim
   · exact h.elim
 |c1 A dx=>
   intro c K e a w ay aa h
   simp only[D] at h
   split at h
   · rename_i id b
     refine wp_block (tC (dx b _ e a w ay aa h) ?_)
     rintro ex a7 ag ⟨ae,ba,ij,U⟩
     cases ex with
     |exit Jk=>
       simp only[Exit.inBlock]
       by_cases W0:Jk=id
       · subst W0
         simp only[Nat.beq_refl,cond_true] at U
         rw[if_pos rfl]
         exact ⟨ae,ba,ij,U⟩
       · have:Nat.beq Jk id=false:=by
           cases atU:Nat.beq Jk id
           · rfl
           · exact absurd (qK atU) W0
         simp only[this,cond_false] at U
         rw[if_neg W0]
         exact ⟨ae,ba,ij,U⟩
     |normal=>exact ⟨ae,ba,ij,U⟩
     |goto l=>exact ⟨ae,ba,ij,U⟩
     |ret=>exact ⟨ae,ba,ij,U⟩
     |panic Ex=>exact ⟨ae,ba,ij,U⟩
     |outgrown=>exact ⟨ae,ba,ij,U⟩
   · exact h.elim
 |loop live g8 A dx=>
   intro c K e a w ay aa h
   simp only[D] at h
   split at h
   · rename_i b
     cases jc:MG g8 (writes b) with
     |false=>rw[jc] at h;exact h.elim
     |true=>
       rw[jc] at h
       obtain ⟨I,μ,b5,atV⟩:=h
       refine wp_loop (fun db w'=>h7 (writes b) a db∧nJ.app live I (fun s=>db.tmps[s]?) w') (fun db w'=>sI live μ (fun s=>db.tmps[s]?) w')
         ⟨.refl _ _,afw (fun s v aj=>ay.get s v aj) b5⟩ ?_
       rintro a7 ag ⟨ae,GK⟩
       obtain ⟨el,aj,vx⟩:=afx atV GK
       refine tC (dx b _ _ a7 ag (afA ay ae jc aj) (fun d hd=>by rw[ae.size];exact aa d hd) vx) ?_
       rintro ex cQ aw ⟨dW,bp,lA,ad⟩
       cases ex with
       |normal=>
         obtain ⟨aC,aG⟩:=afy (g':=fun s=>cQ.tmps[s]?) (fun s v aj=>lA.get s v aj) ad
         exact ⟨⟨ae.trans dW,aC⟩,aG⟩
       |exit id=>exact ⟨ae.trans dW,bp,lA,ad⟩
       |goto l=>exact ⟨ae.trans dW,bp,lA,ad⟩
       |ret=>exact ⟨ae.trans dW,bp,lA,ad⟩
       |panic Ex=>exact ⟨ae.trans dW,bp,lA,ad⟩
       |outgrown=>exact ⟨ae.trans dW,bp,lA,ad⟩
   · exact h.elim
 |lO live g8 A dx=>
   intro c K e a w ay aa h
   simp only[D] at h
   cases jc:MG g8 (writes c) with
   |false=>rw[jc] at h;exact h.elim
   |true=>
     rw[jc] at h
     simp only[cond_true] at h
     have h:=h.out
     refine tC (dx c _ e a w ay aa h) ?_
     rintro ex a7 ag ⟨ae,ba,ij,U⟩
     cases ex with
     |normal=>
       obtain ⟨el,aj,vx⟩:=afv U
       exact ⟨ae,_,afA ay ae jc (fun s v h=>ij.get s v (aj s v h)),vx⟩
     |exit id=>exact ⟨ae,ba,ij,U⟩
     |goto l=>exact ⟨ae,ba,ij,U⟩
     |ret=>exact ⟨ae,ba,ij,U⟩
     |panic Ex=>exact ⟨ae,ba,ij,U⟩
     |outgrown=>exact ⟨ae,ba,ij,U⟩
def B8 (P:Program) (aI:TypeId→jZ):List ResultVar→Env→World→(List Value→Prop)→Prop
 | [],_,_,K=>K []
 | .tmp t::r,e,w,K=>match e.get t with
   |some v=>B8 P aI r e w fun vs=>K (v::vs)
   |none=>False
 | .cell t T::r,e,w,K=>match e.get t with
   |some (.pointer (some A))=>I5 P aI T A w fun v=>B8 P aI r e w fun vs=>K (v::vs)
   |_=>False
def Jl:List Value→Value
 | [v]=>v
 |vs=> .tuple vs.toArray
def afB (P:Program) (aI:TypeId→jZ) (rs:List ResultVar) (R:Value→World→Prop) (x:Exit) (e:Env) (w:World):Prop:=
 match x with
 | .normal=>B8 P aI rs e w fun vs=>R (Jl vs) w
 | .ret=>B8 P aI rs e w fun vs=>R (Jl vs) w
 |_=>False
def GL:Nat→List Value→Env
 |_,[]=> []
 |i,v::vs=>(i,v)::GL (i+1) vs
def Jm (P:Program) (aI:TypeId→jZ) (A:bL) (fn:Func) (args:List Value) (w:World) (R:Value→World→Prop):Prop:=
 match fn.body with
 |some c=>D P aI A c (afB P aI fn.results.toList R) (GL 0 args) w
 |none=>False
def GM (fn:Func) (n:Nat):Bool:=
 match fn.body with
 |some c=>(writes c).all (fun d=>Nat.blt d fn.ntmps)&&Nat.ble n fn.ntmps
 |none=>false
theorem W1:∀ {vs:List Value} {i s:Nat} {v:Value},(GL i vs).get s=some v→i≤s∧vs[s-i]? =some v
 | [],_,_,_,h=>by cases h
 |u::vs,i,s,v,h=>by
   simp only[GL] at h
   rw[Gx] at h
   by_cases ae:i=s
   · subst ae
     rw[if_pos rfl] at h
     simpa using h
   · rw[if_neg ae] at h
     obtain ⟨U,ad⟩:=W1 h
     refine ⟨by omega,?_⟩
     rw[show s-i=(s-(i+1))+1 by omega]
     simpa using ad
def MI (tmps:Array Value) (r:ResultVar):Sem Value:=
 match r with
 | .tmp t=>pure (tmps.getD t undef)
 | .cell x t=>do loadVar t (←asAddr (tmps.getD x undef))
theorem B9 {a:Act}:∀ {rs:List ResultVar} {e:Env} {w:World} {K:List Value→Prop},gr e a→B8 P aI rs e w K→
   ∃vs,(rs.mapM (MI a.tmps)).run P w= .ok vs w∧K vs
 | [],_,_,_,_,h=>⟨[],by simp,h⟩
 | .tmp t::r,e,w,K,ay,h=>by
   simp only[B8] at h
   split at h
   · rename_i v al
     obtain ⟨vs,ku,bq⟩:=B9 ay h
     refine ⟨v::vs,?_,bq⟩
     have aU:a.tmps.getD t undef=v:=by simp[Array.getD_eq_getD_getElem?,ay.get _ _ al]
     simp only[List.mapM_cons,MI,Sem.run_bind,Sem.run_pure,Result.andThen,aU]
     rw[ku]
   · exact h.elim
 | .cell t T::r,e,w,K,ay,h=>by
   simp only[B8] at h
   split at h
   · rename_i A al
     obtain ⟨v,aB,h⟩:=aeX h
     obtain ⟨vs,ku,bq⟩:=B9 ay h
     refine ⟨v::vs,?_,bq⟩
     have aU:a.tmps.getD t undef= .pointer (some A):=by simp[Array.getD_eq_getD_getElem?,ay.get _ _ al]
     have PS:(loadVar T A).run P w= .ok v w:=by simpa[Instr.loadAt,Instr.sureAddr] using aB
     simp only[List.mapM_cons,MI,Sem.run_bind,Sem.run_pure,Result.andThen,aU,asAddr,PS]
     rw[ku]
   · exact h.elim
theorem GN {fn:Func} {tmps:Array Value} {w:World} {vs:List Value}
   (h:(fn.results.toList.mapM (MI tmps)).run P w= .ok vs w):
   (results fn tmps).run P w= .ok (Jl vs) w:=by
 have ba:results fn tmps=(do let vs ←fn.results.mapM (MI tmps);pure (if h:vs.size=1 then vs[0] else .tuple vs)):=rfl
 rw[ba,Array.mapM_eq_mapM_toList]
 simp only[Sem.run_bind,Sem.run_map]
 rw[h]
 simp only[Result.andThen,Sem.run_pure]
 congr 1
 match vs with
 | []=>rfl
 | [v]=>rfl
 |u::v::vs=>simp[Jl]
theorem atW {f:FuncId} {fn:Func} {A:bL} {args:List Value} {w:World} {R:Value→World→Prop} (hm:P.follows .mixedOrders=true)
   (aA:P.funcs[f]? =some fn) (eI:GM fn args.length=true) (h:Jm P aI A fn args w R):
   Calls P f args.toArray w fun e w'=>∃v,e= .returned v∧R v w':=by
 unfold Jm at h
 unfold GM at eI
 cases l2:fn.body with
 |none=>rw[l2] at h;exact h.elim
 |some c=>
   rw[l2] at h eI
   simp only[iL] at h eI
   obtain ⟨hw,aD⟩:=eI
   have Dk:=Ct aD
   refine calls_of_wp aA l2 ?_
   have dE:(args.toArray++Array.replicate (fn.ntmps-args.toArray.size) undef).size=fn.ntmps:=by simp;omega
   have ay:gr (GL 0 args) {tmps:=args.toArray++Array.replicate (fn.ntmps-args.toArray.size) undef,defers:=[]}:=by
     constructor
     intro s v aj
     obtain ⟨_,ad⟩:=W1 aj
     simp only[G0] at ad
     have a6:s<args.length:=(qJ.1 ad).1
     simp[Array.getElem?_append,a6]
     rw[gT a6] at ad
     exact Option.some.inj ad
   refine tC (Q3 hm A c _ _ _ w ay (fun d hd=> ?_) h) ?_
   · have U:=GZ.1 hw d hd
     have ad:=Ct U
     show d<(args.toArray++Array.replicate (fn.ntmps-args.toArray.size) undef).size
     rw[dE]
     omega
   · rintro x db w' ⟨ae,eD,oH,bq⟩
     have hd:db.defers=[]:=ae.defers
     cases x with
     |normal=>
       obtain ⟨vs,ku,c5⟩:=B9 oH bq
       exact ⟨hd,_,GN ku,_,rfl,c5⟩
     |ret=>
       obtain ⟨vs,ku,c5⟩:=B9 oH bq
       exact ⟨hd,_,GN ku,_,rfl,c5⟩
     |exit id=>exact bq.elim
     |goto l=>exact bq.elim
     |panic Ex=>exact bq.elim
     |outgrown=>exact bq.elim
end
end b8
namespace b8
open Go Go.ChangeShapes Go.WideShapes Go.ChangeAt Go.RowKit
def oR (P:Program) (w:World):Nat→TypeId→List Value→Prop
 |0,_,_=>False
 |fuel+1,t,cs=>
   match P.underlying t with
   |some .bool=>∃b:Bool,cs=[.bool b]
   |some (.int k)=>∃n:Int,cs=[.int k n]∧k.min≤n∧n≤k.max
   |some .string=>∃s:ByteArray,cs=[.string s]∧s.size≤maxLen
   |some (.slice e)=>∃s:ab,cs=[.slice s.a s.len s.cap]∧s.len≤s.cap∧s.cap≤maxLen∧(s.a=none→s.cap=0)∧
       ∀a,s.a=some a→∀i,i<s.cap→∃vs,eH w (a.add (i*P.cellsOf e)) 0 (P.cellsOf e)=some vs∧oR P w fuel e vs
   |some (.struct fs)=>cs.length=P.cellsOf t∧∀f∈fs,oR P w fuel f.type ((cs.drop f.offset).take (P.cellsOf f.type))
   |some (.array n e)=>cs.length=P.cellsOf t∧∀i,i<n→oR P w fuel e ((cs.drop (i*P.cellsOf e)).take (P.cellsOf e))
   |some (.pointer e)=>cs=[.pointer none]∨∃a vs,cs=[.pointer (some a)]∧eH w a 0 (P.cellsOf e)=some vs∧oR P w fuel e vs
   |_=>True
theorem mapM_some {α β:Type} {f:α→Option β}:∀ {l:List α} {r:List β},l.mapM f=some r→∀x∈l,∃y,f x=some y
 | [],_,_,_,af=>by cases af
 |a::l,r,h,x,af=>by
   simp only[List.mapM_cons] at h
   cases aR:f a with
   |none=>simp[aR] at h
   |some b=>
     cases aB:l.mapM f with
     |none=>simp[aR,aB] at h
     |some axv=>
       rcases gg.1 af with rfl|af
       · exact ⟨b,aR⟩
       · exact mapM_some aB x af
theorem afC {w:World} {a:Addr}:∀ (n i:Nat) (vs:List Value),((List.range' i n).mapM fun j=>w.cell? (a.add j))=some vs→eH w a i n=some vs
 |0,i,vs,h=>by simp at h;simp[eH,h]
 |n+1,i,vs,h=>by
   simp only[List.range'_succ,List.mapM_cons] at h
   cases U:w.cell? (a.add i) with
   |none=>simp[U] at h
   |some v=>
     cases ad:((List.range' (i+1) n).mapM fun j=>w.cell? (a.add j)) with
     |none=>simp[U,ad] at h
     |some us=>
       simp[U,ad] at h
       have:=afC n (i+1) us ad
       simp[eH,U,this,h]
theorem afD {w:World} {base:Nat} {a:Addr} {n:Nat} {vs:List Value} (h:w.cells? base a n=some vs):eH w a 0 n=some vs:=by
 unfold World.cells? at h
 split at h
 · rw[NA] at h
   exact afC n 0 vs h
 · cases h
section
variable {H:Type} {enc:TypeId×Value→H} {P:Program} {w:World}
theorem MJ:∀ (fuel:Nat) (t:TypeId) (cs:List Value) (x:DataW H×List MemPlace),DataW.trod enc P w 0 (fun _=>true) true fuel t cs=some x→oR P w fuel t cs
 |0,_,_,_,h=>by cases h
 |fuel+1,t,cs,x,h=>by
   simp only[DataW.trod] at h
   simp only[oR]
   cases aU:P.underlying t with
   |none=>trivial
   |some d=>
     rw[aU] at h
     cases d<;>try trivial
     case bool=>
       match cs,h with
       | [.bool b],_=>exact ⟨b,rfl⟩
     case int k=>
       match cs,h with
       | [.int mN n],h=>
         simp only at h
         split at h
         · rename_i ae
           obtain ⟨rfl,hw⟩:=ae
           exact ⟨n,rfl,by simpa[Lit.wf] using hw⟩
         · cases h
     case string=>
       match cs,h with
       | [.string s],h=>
         simp only at h
         split at h
         · rename_i ae;exact ⟨s,rfl,ae⟩
         · cases h
     case pointer e=>
       match cs,h with
       | [.pointer none],_=>exact .inl rfl
       | [.pointer (some a)],h=>
         simp only[Option.map_eq_some_iff] at h
         obtain ⟨y,b2,_⟩:=h
         obtain ⟨vs,U,ad⟩:=Option.bind_eq_some_iff.1 b2
         exact .inr ⟨a,vs,rfl,afD U,MJ fuel e vs _ ad⟩
     case slice e=>
       match cs,h with
       | [.slice none 0 0],_=>exact ⟨⟨none,0,0⟩,rfl,cP _,fi _,(fun _=>rfl),(fun a aR=>by cases aR)⟩
       | [.slice (some a) len cap],h=>
         simp only at h
         split at h
         · rename_i ae
           refine ⟨⟨some a,len,cap⟩,rfl,ae.2.1,ae.2.2,(fun b5=>by cases b5),fun db oF i hi=> ?_⟩
           obtain ⟨elems,he,h⟩:=Option.bind_eq_some_iff.1 h
           simp only[if_true,Option.map_eq_some_iff] at h
           obtain ⟨rest,aY,_⟩:=h
           cases oF
           have key:∃y,((w.cells? 0 (a.add (i*P.cellsOf e)) (P.cellsOf e)).bind (DataW.trod enc P w 0 (fun _=>true) true fuel e))=some y:=by
             rcases hJ i len with aB|aB
             · exact mapM_some he i (wi.2 aB)
             · obtain ⟨y,b2⟩:=mapM_some aY (i-len) (wi.2 (by simp only at hi;omega))
               rw[show len+(i-len)=i by omega] at b2
               exact ⟨y,b2⟩
           obtain ⟨y,b2⟩:=key
           obtain ⟨vs,U,ad⟩:=Option.bind_eq_some_iff.1 b2
           exact ⟨vs,afD U,MJ fuel e vs _ ad⟩
         · cases h
     case struct fs=>
       simp only at h
       split at h
       · rename_i aB
         refine ⟨aB,fun f aA=> ?_⟩
         simp only[Option.map_eq_some_iff] at h
         obtain ⟨qu,b2,_⟩:=h
         obtain ⟨y,b2⟩:=mapM_some b2 f (by simpa using aA)
         exact MJ fuel _ _ _ b2
       · cases h
     case array n e=>
       simp only at h
       split at h
       · rename_i aB
         refine ⟨aB,fun i hi=> ?_⟩
         simp only[Option.map_eq_some_iff] at h
         obtain ⟨qu,b2,_⟩:=h
         obtain ⟨y,b2⟩:=mapM_some b2 i (wi.2 hi)
         exact MJ fuel _ _ _ b2
       · cases h
def Gn (P:Program) (w:World) (t:TypeId) (v:Value):Prop:=
 match P.underlying t with
 |some (.struct _)=>∃cs:Array Value,v= .agg cs∧∃fuel,oR P w fuel t cs.toList
 |some (.array _ _)=>∃cs:Array Value,v= .agg cs∧∃fuel,oR P w fuel t cs.toList
 |_=>∃fuel,oR P w fuel t [v]
theorem afE {r:Reach} {pw:Nat} {t:TypeId} {v:Value} {d:DataW H} {ps:List MemPlace} (sE:Value.okWide P w r pw t v)
   (hd:DataW.Trod enc P w 0 (fun _=>true) true t v d ps):Gn P w t v:=by
 obtain ⟨fuel,hd⟩:=hd
 have U:=MJ fuel t _ _ hd
 unfold Gn
 unfold Value.okWide at sE
 have atX:(∀cs,v≠ .agg cs)→v.cells.toList=[v]:=fun h=>by cases v<;>first|rfl|exact absurd rfl (h _)
 cases aU:P.underlying t with
 |none=>
   rw[aU] at sE
   cases fuel with
   |zero=>cases hd
   |succ f=>exact ⟨1,by simp[oR,aU]⟩
 |some atY=>
   rw[aU] at sE
   cases atY
   case struct fs=>obtain ⟨cs,rfl,_,_⟩:=sE;exact ⟨cs,rfl,fuel,U⟩
   case array n e=>obtain ⟨cs,rfl,_,_⟩:=sE;exact ⟨cs,rfl,fuel,U⟩
   all_goals
     refine ⟨fuel,?_⟩
     rw[←atX]
     · exact U
     · rintro cs rfl
       simp[Cell.okWide,Cell.ok,aU] at sE
theorem afF {w w':World} (h:ao (fun _=>False) w w'):Below w.heap.size w w':=
 ⟨h.os,h.tape,h.output,h.size,fun k ae=>h.block k ae (fun h=>h)⟩
theorem atZ {f:Func} {s:ChangeSpec} {apart fresh handsOn again:Bool} {W x1:World} {args:Array Value} {T:TypeId} {ds gs:List (DataW H)} {before pa kB:List MemPlace}
   (dY:DataW.Whole enc P f.params.toList s.vars apart W args.toList ds gs before) (bn:P.underlying T=some .bool) (fm:f.resultTypes= #[T])
   (aj:s.fn H (ds++gs)={results:=[.lit (.bool true)],args:=ds})
   (Q5:∀sp:Nat→Bool,(∀p∈before,sp p.block=true)→DataW.TrodAll enc P x1 0 sp true f.params.toList args.toList ds pa)
   (at0:∀sp:Nat→Bool,(∀p∈before,sp p.block=true)→DataW.TrodVars enc P x1 sp s.vars [] kB)
   (CH:before=pa++kB) (aa:ao (fun _=>False) W x1):
   s.post enc P f apart fresh handsOn again W args (.bool true) x1:=by
 have fc:=afF aa
 have a6:∀p∈before,p.block<W.heap.size:=fun p aV=>dY.lt p aV
 have hold:∀p∈before,(fun b=>decide (b<W.heap.size)) p.block=true:=fun p aV=>by simpa using a6 p aV
 have aY:∀ (b:Nat) (sp:Nat→Bool) (hd:Bool),DataW.TrodAll enc P x1 b sp hd f.resultTypes.toList ((Value.bool true).resultList f.resultTypes.size) (s.fn H (ds++gs)).results []:=by
   intro b sp hd
   rw[aj,fm]
   exact trodAll_cons_mk (shut_bool bn true) trodAll_mk0
 have aR:∀sp:Nat→Bool,(∀p∈before,sp p.block=true)→DataW.TrodAll enc P x1 0 sp true f.params.toList args.toList (s.fn H (ds++gs)).args pa:=by
   intro sp qf
   rw[aj]
   exact Q5 sp qf
 have al:∀sp:Nat→Bool,(∀p∈before,sp p.block=true)→DataW.TrodVars enc P x1 sp s.vars (s.fn H (ds++gs)).vars kB:=by
   intro sp qf
   rw[aj]
   exact at0 sp qf
 refine ⟨ds,gs,before,[],pa,kB,dY,aY _ _ _,aR _ hold,al _ hold,World.keptBut_mono (fun p aV=>⟨aV,?_⟩) (fc.frame (· ∈before)),fun _=> ?_⟩
 · rw[CH,fa] at aV
   exact Or.inr aV
 · obtain ⟨_,_,_,_,_,bF,aD⟩:=dY
   refine ⟨ok_one fm rfl (okWide_bool_mk bn _),_,_,([]++pa)++kB,⟨[]++pa,kB,trodAll_append (aR _ (fun _ _=>rfl)) (aY _ _ _),al _ (fun _ _=>rfl),rfl,?_,?_⟩,?_⟩
   · intro b off aV
     have fG:MemPlace.cell b off∈before:=by rw[CH];simpa using aV
     rw[fc.frozen (a6 _ fG)]
     exact bF b off fG
   · intro Kj
     have:=aD Kj
     rw[CH] at this
     simpa using this
   · intro p aV _
     rw[CH]
     simpa using aV
theorem afG {t:TypeId} (aB:laidOutB P=true) (aY:P.readableRec t=true) (WS:t<P.types.size) {W x1:World} {v:Value} {d:DataW H} {ps:List MemPlace} {sp:Nat→Bool}
   (h:DataW.Trod enc P W 0 (fun _=>true) true t v d ps) (aa:ao (fun _=>False) W x1) (a6:∀x∈ps,x.block<W.heap.size) (aj:∀p∈ps,sp p.block=true):
   DataW.Trod enc P x1 0 sp true t v d ps:=
 WideElems.Trod_stays aB aY WS h (fun x af=>(afF aa).same (a6 x af)) aj
end
end b8
namespace b8
open Go Go.RowKit
def aP (P:Program) (f:FuncId) (args:Array Value) (w:World) (Q:Value→World→Prop):Prop:=
 Calls P f args w fun e ag=>∃v,e= .returned v∧Q v ag
theorem aP.use {P:Program} {f:FuncId} {args:Array Value} {w:World} {Q:Value→World→Prop} {R:Ending→World→Prop}
   (h:aP P f args w Q) (k:∀v w',Q v w'→R (.returned v) w'):Calls P f args w R:=
 Calls.mono h fun _ _ ⟨v,al,J⟩=>by subst al;exact k v _ J
theorem aP.mono {P:Program} {f:FuncId} {args:Array Value} {w:World} {Q R:Value→World→Prop}
   (h:aP P f args w Q) (k:∀v w',Q v w'→R v w'):aP P f args w R:=
 aP.use h fun v _ J=>⟨v,rfl,k _ _ J⟩
abbrev Ext (w w':World):Prop:=ao (fun _=>False) w w'
theorem ao.eN {W:Nat→Prop} {w w':World} (h:Ext w w'):ao W w w':=ao.mono h fun _ _ h=>h.elim
theorem ao.drew {W:Nat→Prop} {w w':World} (h:ao W w w'):ao W w w'.drew:=⟨h.os,h.tape,h.output,h.size,h.block⟩
theorem ao.alloc {W:Nat→Prop} {w w':World} (h:ao W w w') (o:Obj):ao W w (w'.alloc o):=
 h.trans ⟨rfl,rfl,rfl,by simp,fun k ae _=>Below.heap_alloc _ _ _ ae⟩
theorem ao.set {W:Nat→Prop} {w w':World} (h:ao W w w') {A:Addr} (aa:A.block<w.heap.size→W A.block) (v:Value):ao W w (w'.setCell A v):=
 ⟨h.os,h.tape,h.output,by simp only[World.setCell,Array.size_modify];exact h.size,fun k ae dY=>by
   rw[Below.heap_setCell _ _ _ _ (fun e=>dY (by subst e;exact aa ae))];exact h.block k ae dY⟩
theorem ao.setCells {W:Nat→Prop} {w:World} {A:Addr} (aa:A.block<w.heap.size→W A.block):∀ (vs:List Value) (i:Nat) {w':World},ao W w w'→ao W w (setCells w' A i vs)
 | [],_,_,h=>h
 |v::vs,i,w',h=>by
   have yp:(A.add i).block=A.block:=by unfold Addr.add;split<;>rfl
   exact ao.setCells aa vs (i+1) (ao.set h (by rw[yp];exact aa) v)
theorem aX (b o n:Nat):(Addr.mk b o none).add n=⟨b,o+n,none⟩:=by
 unfold Addr.add;split
 · rename_i h;subst h;rfl
 · rfl
def cj (w:World) (b:Nat) (c:Array Value) (T:TypeId):Prop:=w.heap[b]? =some (.cells c T (0,0))
section
variable {w w':World} {b i:Nat} {c:Array Value} {T:TypeId}
theorem cj.lt (h:cj w b c T):b<w.heap.size:=(Aa.1 h).1
theorem cj.cell (h:cj w b c T) (i:Nat):w.cell? ⟨b,i,none⟩=c[i]? :=by
 unfold cj at h
 simp[World.cell?,h]
theorem cj.frozen (h:cj w b c T) (A:Addr) (ay:A.block=b):w.frozen? A=false:=by
 unfold cj at h
 simp[World.frozen?,ay,h]
theorem cj.an {W:Nat→Prop} (h:cj w b c T) (ak:ao W w w') (aa:¬W b):cj w' b c T:=by
 have aB:=h.lt
 unfold cj at h⊢
 rw[ak.block b aB aa];exact h
theorem cj.ext (h:cj w b c T) (ak:Ext w w'):cj w' b c T:=h.an ak id
theorem cj.drew (h:cj w b c T):cj w.drew b c T:=h
theorem cj.new (w:World) (c:Array Value) (T:TypeId):cj (w.alloc (.cells c T)) w.heap.size c T:=by
 show (w.heap.push (.cells c T))[w.heap.size]? =some (.cells c T (0,0))
 simp
theorem cj.set (h:cj w b c T) (i:Nat) (v:Value):cj (w.setCell ⟨b,i,none⟩ v) b (c.setIfInBounds i v) T:=by
 unfold cj at h⊢
 simp[World.setCell,NF,h]
def nK (c:Array Value) (i:Nat):List Value→Array Value
 | []=>c
 |v::vs=>nK (c.setIfInBounds i v) (i+1) vs
theorem rB:∀ (vs:List Value) (c:Array Value) (i:Nat),(nK c i vs).size=c.size
 | [],_,_=>rfl
 |v::vs,c,i=>by simp[nK,rB vs]
theorem cj.JV:∀ (vs:List Value) {w:World} {c:Array Value} (i j:Nat),cj w b c T→cj (setCells w ⟨b,i,none⟩ j vs) b (nK c (i+j) vs) T
 | [],_,_,_,_,h=>h
 |v::vs,w,c,i,j,h=>by
   simp only[setCells,nK,aX]
   have:=cj.JV vs i (j+1) (h.set (i+j) v)
   rw[show i+(j+1)=i+j+1 by omega] at this
   exact this
theorem cj.du (h:cj w b c T) (i:Nat) (vs:List Value) (aD:i+vs.length≤c.size) (aV:∀v∈vs,Plain v):cT w ⟨b,i,none⟩ vs:=by
 refine ⟨fun j aZ=> ?_,aV⟩
 rw[aX,h.cell,h.frozen _ rfl]
 have:i+j<c.size:=by omega
 simp[this]
end
theorem yB {B:(World→Prop)→Prop} {rest:World→Prop} (φ:World→Prop) (U:∀k:World→Prop,(∀w,φ w→k w)→B k) (ad:∀w,φ w→rest w):de B rest:=⟨U rest ad⟩
theorem ff {τ:Type} {B:(τ→World→Prop)→Prop} {rest:τ→World→Prop} (φ:τ→World→Prop) (U:∀k:τ→World→Prop,(∀x w,φ x w→k x w)→B k) (ad:∀x w,φ x w→rest x w):de B rest:=⟨U rest ad⟩
theorem UK {τ σ:Type} {B:(τ→σ→World→Prop)→Prop} {rest:τ→σ→World→Prop} (φ:τ→σ→World→Prop) (U:∀k:τ→σ→World→Prop,(∀x y w,φ x y w→k x y w)→B k) (ad:∀x y w,φ x y w→rest x y w):de B rest:=⟨U rest ad⟩
theorem ar5 {n:Int} (b5:IntKind.u8.min≤n) (U:n≤IntKind.u8.max):0≤n∧n≤255:=by
 simpa[IntKind.min,IntKind.max,IntKind.signed,IntKind.bits] using And.intro b5 U
theorem cL {n:Int} (b5: -9223372036854775808≤n) (U:n≤9223372036854775807):IntKind.i64.wrap n=n:=by
 by_cases h:0≤n
 · exact Wy h U
 · have e:n%18446744073709551616=n+18446744073709551616:=by omega
   simp[IntKind.wrap,IntKind.signed,IntKind.bits,e]
   omega
end b8
namespace b8
open Go Go.RowKit
structure Src (sz:Nat) (w:World) (x:ab) (xs:List Value):Prop where
 len:xs.length=x.len*sz
 nil:x.a=none→xs=[]
 rd:∀a,x.a=some a→eH w a 0 (x.len*sz)=some xs
def bX (sz:Nat) (T:TypeId) (w:World) (s:ab) (vs:List Value):Prop:=
 vs.length=s.len*sz∧s.len≤s.cap∧s.cap≤maxLen∧
 ((s.a=none∧s.cap=0)∨∃b c,s.a=some ⟨b,0,none⟩∧cj w b c T∧c.size=s.cap*sz∧c.toList.take (s.len*sz)=vs)
def aQ (s:ab) (k:Nat):Prop:=∃A,s.a=some A∧A.block=k
theorem MK {w:World} {A:Addr}:∀ {n i:Nat} {vs:List Value},eH w A i n=some vs→vs.length=n
 |0,_,_,h=>by simp[eH] at h;simp[←h]
 |n+1,i,vs,h=>by
   simp only[eH] at h
   cases U:w.cell? (A.add i) with
   |none=>simp[U] at h
   |some v=>
     cases ad:eH w A (i+1) n with
     |none=>simp[U,ad] at h
     |some us=>
       simp only[U,ad,Option.some.injEq] at h
       subst h
       simp[MK ad]
theorem Hh {w:World} {b:Nat} {c:Array Value} {T:TypeId} (h:cj w b c T):∀ (n o i:Nat),o+i+n≤c.size→eH w ⟨b,o,none⟩ i n=some ((c.toList.drop (o+i)).take n)
 |0,o,i,_=>by simp[eH]
 |n+1,o,i,aD=>by
   have U:o+i<c.size:=by omega
   have dx:=Hh h n o (i+1) (by omega)
   simp only[eH,aX,h.cell,dx]
   have ad:c[o+i]? =some c[o+i]:=by simp[U]
   rw[ad]
   simp only[Option.some.injEq]
   have aq:c.toList.drop (o+i)=c[o+i]::c.toList.drop (o+i+1):=by
     rw[tK (by simpa using U)]
     simp
   rw[aq]
   simp[Nat.add_assoc]
theorem bX.src {sz:Nat} {T:TypeId} {w:World} {s:ab} {vs:List Value} (h:bX sz T w s vs):Src sz w s vs:=by
 obtain ⟨U,ad,aq,aK⟩:=h
 refine ⟨U,fun aD=> ?_,fun a aR=> ?_⟩
 · rcases aK with ⟨_,ak⟩|⟨b,c,aa,_⟩
   · have:s.len=0:=by omega
     rw[this,Nat.zero_mul] at U
     exact x_.1 U
   · rw[aD] at aa;cases aa
 · rcases aK with ⟨aD,_⟩|⟨b,c,aa,jf,aj,al⟩
   · rw[aD] at aR;cases aR
   · rw[aa] at aR
     cases aR
     have:=Hh jf (s.len*sz) 0 0 (by rw[aj];simp;exact Cq _ ad)
     rw[this]
     simp[al]
section
variable {P:Program} {w:World}
theorem Hi {sz:Nat} {x:ab} {xs:List Value} (h:Src sz w x xs):(Builtin.firstCells sz x.len (.slice x.a x.len x.cap)).run P w= .ok xs.toArray w:=by
 cases af:x.a with
 |none=>rw[h.nil af];rfl
 |some a=>
   simp only[Builtin.firstCells,loadCells]
   rw[run_loadCellsFrom _ _ _ _ (h.rd a af)]
   simp
theorem afH (B_:Nat):∀ (r c:Nat),c≤2*B_+1000→Builtin.growBy B_ r c≤2*B_+1000
 |0,c,h=>h
 |r+1,c,h=>by
   simp only[Builtin.growBy]
   split
   · exact h
   · exact afH B_ r _ (by omega)
theorem afI {B_ cap:Nat} (h:cap<B_):Builtin.nextslicecap B_ cap≤2*B_+1000:=by
 unfold Builtin.nextslicecap
 split
 · omega
 · split
   · omega
   · exact afH B_ 4 cap (by omega)
theorem SI {np:Array TypeId} {ew eu ve e:TypeId} {d:TypeDesc} {sz:Nat} {s x:ab} {xs:List Value} (b5:np[0]? =some eu) (U:np[1]? =some ve)
   (aj:P.underlying eu=some (.slice e)) (af:P.underlying ve=some (.slice e)) (he:P.underlying e=some d) (dE:P.cellsOf e=sz) (mF:Src sz w x xs)
   (jX:s.len+x.len≤s.cap) (hE:∀a,s.a=some a→cT w (a.add (s.len*sz)) xs):
   Sem.run P (Builtin.append_ np ew #[.slice s.a s.len s.cap, .slice x.a x.len x.cap]) w=
     .ok (.slice s.a (s.len+x.len) s.cap) (match s.a with|some a=>setCells w (a.add (s.len*sz)) 0 xs|none=>w):=by
 have aA:=Hi (P:=P) mF
 have Ca:=qO (w:=w) he
 rw[dE] at Ca
 cases sS:s.a with
 |none=>
   simp[Builtin.append_,b5,U,fV aj,fV af,Ca,Builtin.lenOf,jX,aA]
 |some a=>
   have Cy:=hE a sS
   have:=Hj (P:=P) (A:=a.add (s.len*sz)) xs 0 w (by simpa using Cy.1) Cy.2
   simp[Builtin.append_,b5,U,fV aj,fV af,Ca,Builtin.lenOf,jX,aA,this]
theorem run_append_grow {np:Array TypeId} {ew eu ve e:TypeId} {i:TypeInfo} {z:Value} {sz:Nat} {s x:ab} {xs hN:List Value} (b5:np[0]? =some eu) (U:np[1]? =some ve)
   (aj:P.underlying eu=some (.slice e)) (af:P.underlying ve=some (.slice e)) (hi:P.info? e=some i) (hd:(P.underlying e).isSome=true) (bF:i.zero=some z) (wK:z.cells.size=sz) (dE:P.cellsOf e=sz)
   (aa:i.bytes≠0) (mF:Src sz w x xs) (hold:Src sz w s hN) (jX:s.cap<s.len+x.len) (we:(2*(s.len+x.len)+1000)*i.bytes≤281474976710656):
   ∃ (jQ:Nat) (rest:List Value),s.len+x.len≤jQ∧jQ≤maxLen∧rest.length=(jQ-(s.len+x.len))*sz∧
     Sem.run P (Builtin.append_ np ew #[.slice s.a s.len s.cap, .slice x.a x.len x.cap]) w=
       .ok (.slice (some ⟨w.heap.size,0,none⟩) (s.len+x.len) jQ) (w.drew.alloc (.cells (hN++xs++rest).toArray e)):=by
 obtain ⟨d,hd⟩:=tY _ hd
 have Ca:=qO (w:=w) hd
 rw[dE] at Ca
 have P_:=afI jX
 have aD:Builtin.nextslicecap (s.len+x.len) s.cap*i.bytes≤281474976710656:=jb (Cq _ P_) we
 have at1:s.len+x.len≤281474976710656:=by
   have:s.len+x.len≤(2*(s.len+x.len)+1000)*i.bytes:=by
     have:=Nat.mul_le_mul_left (2*(s.len+x.len)+1000) (Nat.one_le_iff_ne_zero.2 aa)
     omega
   omega
 let q:Question:= .appendCap (s.len+x.len) s.cap e
 let jQ:Nat:=q.cut (w.tape w.drawn q)
 have J:q.forced=false:=rfl
 have fQ:s.len+x.len≤jQ:=by show s.len+x.len≤s.len+x.len+_;omega
 have W2:jQ≤maxLen:=by
   show s.len+x.len+_%(2^63-(s.len+x.len))≤2^63-1
   have:=r8 (w.tape w.drawn q) (y:=2^63-(s.len+x.len)) (by omega)
   omega
 have at2:Src sz w.drew x xs:=⟨mF.len,mF.nil,fun a aR=>by
   have:=mF.rd a aR
   have ak:ao (fun _=>False) w w.drew:=ao.drew (.refl _ _)
   exact ak.eH (by simp) _ _ _ this⟩
 have W3:Src sz w.drew s hN:=⟨hold.len,hold.nil,fun a aR=>by
   have:=hold.rd a aR
   have ak:ao (fun _=>False) w w.drew:=ao.drew (.refl _ _)
   exact ak.eH (by simp) _ _ _ this⟩
 have aA:=Hi (P:=P) at2
 have oW:=Hi (P:=P) W3
 have W4:∀n (w':World),(askRoom n).run P w'= .ok () w':=fun n w'=>by unfold askRoom;split<;>rfl
 have W5:(choose q).run P w= .ok jQ w.drew:=by
   show Sem.run P (.choose q .pure) w=_
   simp only[Sem.run,J,lS,if_false]
   rfl
 have Da:=fun w:World=>Db (w:=w) hi
 refine ⟨jQ,(Builtin.zeroCells z.cells (jQ-(s.len+x.len))).toList,fQ,W2,by simp[Builtin.zeroCells,wK],?_⟩
 have ba:¬(s.len+x.len≤s.cap):=by omega
 have bp:¬((s.len+x.len:Nat):Int)>IntKind.i64.max:=by
   simp[IntKind.max,IntKind.signed,IntKind.bits];omega
 have dM:¬(281474976710656<Builtin.nextslicecap (s.len+x.len) s.cap*i.bytes):=by omega
 have j8:¬Builtin.nextslicecap (s.len+x.len) s.cap*i.bytes>2^48:=by simpa using dM
 unfold Builtin.append_
 simp only[JO,yf,List.getElem?_cons_succ,b5,U,Sem.run_bind,fV aj,fV af,Result.andThen,Ca,Builtin.lenOf,Sem.run_pure,ba,if_false,lS,Da,bp,false_and,j8,Bool.not_false,if_true]
 have W6:Sem.run P (choose (.appendCap (s.len+x.len) s.cap e)) w= .ok jQ w.drew:=W5
 simp only[W6,W4,aA,oW,zeroValue,Da,bF,Sem.run_bind,Result.andThen,Sem.run_pure,newRow,newObj,Sem.run]
 have pe:w.drew.heap.size=w.heap.size:=rfl
 rw[pe]
 congr 1
 show w.drew.alloc _=w.drew.alloc _
 congr 2
 simp
theorem NP:∀ (vs:List Value) (c:Array Value) (i:Nat),i+vs.length≤c.size→(nK c i vs).toList.take (i+vs.length)=c.toList.take i++vs
 | [],c,i,_=>by simp[nK]
 |v::vs,c,i,h=>by
   simp only[oS] at h
   simp only[nK]
   have:=NP vs (c.setIfInBounds i v) (i+1) (by simpa using (by omega:i+1+vs.length≤c.size))
   rw[show i+(v::vs).length=i+1+vs.length by simp;omega,this]
   have hi:i<c.size:=by omega
   have ad:(c.setIfInBounds i v).toList.take (i+1)=c.toList.take i++ [v]:=by
     rw[sL (by simpa using hi)]
     have aq:(List.take i c.toList).set i v=List.take i c.toList:=by
       apply List.set_eq_of_length_le
       simp only[ee]
       omega
     simp[List.take_set,aq]
   rw[ad]
   simp
theorem at3 {np:Array TypeId} {ew eu ve e:TypeId} {i:TypeInfo} {z:Value} {sz:Nat} {s x:ab} {xs vs:List Value} (b5:np[0]? =some eu) (U:np[1]? =some ve)
   (aj:P.underlying eu=some (.slice e)) (af:P.underlying ve=some (.slice e)) (hi:P.info? e=some i) (hd:(P.underlying e).isSome=true) (bF:i.zero=some z) (wK:z.cells.size=sz) (dE:P.cellsOf e=sz)
   (aa:i.bytes≠0) (mF:Src sz w x xs) (lk:bX sz e w s vs) (aV:∀v∈xs,Plain v) (we:(2*(s.len+x.len)+1000)*i.bytes≤281474976710656):
   ∃ (au:ab) (w':World),Sem.run P (Builtin.append_ np ew #[.slice s.a s.len s.cap, .slice x.a x.len x.cap]) w= .ok (.slice au.a au.len au.cap) w'∧
     bX sz e w' au (vs++xs)∧au.len=s.len+x.len∧ao (aQ s) w w'∧(∀k,aQ au k→aQ s k∨w.heap.size≤k):=by
 have hold:=lk.src
 obtain ⟨aC,aG,aJ,aN⟩:=lk
 by_cases jX:s.len+x.len≤s.cap
 · have hE:∀a,s.a=some a→cT w (a.add (s.len*sz)) xs:=by
     intro a aR
     rcases aN with ⟨aD,_⟩|⟨b,c,HJ,jf,fq,al⟩
     · rw[aD] at aR;cases aR
     · rw[HJ] at aR
       cases aR
       rw[aX]
       refine jf.du _ _ ?_ aV
       rw[fq,mF.len,gJ,←wk]
       exact Cq _ jX
   obtain ⟨d,hd⟩:=tY _ hd
   have u4:=SI (ew:=ew) b5 U aj af hd dE mF jX hE
   refine ⟨⟨s.a,s.len+x.len,s.cap⟩,_,u4,?_,rfl,?_,fun k ae=> .inl ae⟩
   · refine ⟨by simp[aC,mF.len,wk],jX,aJ,?_⟩
     rcases aN with ⟨aD,ak⟩|⟨b,c,HJ,jf,fq,al⟩
     · exact .inl ⟨aD,ak⟩
     · refine .inr ⟨b,nK c (s.len*sz) xs,HJ,?_,by rw[rB];exact fq,?_⟩
       · simp only[HJ,aX]
         have:=cj.JV (T:=e) xs (0+s.len*sz) 0 jf
         simpa using this
       · have hle:s.len*sz+xs.length≤c.size:=by
           rw[fq,mF.len,←wk]
           exact Cq _ jX
         have:=NP xs c (s.len*sz) hle
         rw[mF.len,←wk] at this
         rw[this,al]
   · cases sS:s.a with
     |none=>exact .refl _ _
     |some a=>
       refine ao.setCells (fun _=> ?_) xs 0 (.refl _ _)
       exact ⟨a,sS,by unfold Addr.add;split<;>rfl⟩
 · obtain ⟨jQ,rest,l0,nn,aY,u4⟩:=run_append_grow (ew:=ew) b5 U aj af hi hd bF wK dE aa mF hold (by omega) we
   refine ⟨⟨some ⟨w.heap.size,0,none⟩,s.len+x.len,jQ⟩,_,u4,?_,rfl,ao.alloc (ao.drew (.refl _ _)) _,?_⟩
   · refine ⟨by simp[aC,mF.len,wk],l0,nn, .inr ⟨w.heap.size,(vs++xs++rest).toArray,rfl,cj.new w.drew _ _,?_,?_⟩⟩
     · simp[aC,mF.len,aY]
       rw[←wk,←wk]
       congr 1
       omega
     · have:(vs++xs).length=(s.len+x.len)*sz:=by simp[aC,mF.len,wk]
       show List.take ((s.len+x.len)*sz) (vs++xs++rest).toArray.toList=vs++xs
       rw[←this]
       exact List.take_left
   · rintro k ⟨A,ay,ae⟩
     cases ay
     exact .inr (by simpa using ae▸cP _)
end
theorem bX.an {sz:Nat} {T:TypeId} {w w':World} {s:ab} {vs:List Value} {W:Nat→Prop} (h:bX sz T w s vs) (ak:ao W w w') (aD:∀k,aQ s k→¬W k):bX sz T w' s vs:=by
 obtain ⟨U,ad,aq,aK⟩:=h
 refine ⟨U,ad,aq,?_⟩
 rcases aK with aK|⟨b,c,aa,jf,fq,al⟩
 · exact .inl aK
 · exact .inr ⟨b,c,aa,jf.an ak (aD b ⟨_,aa,rfl⟩),fq,al⟩
theorem Src.an {sz:Nat} {w w':World} {s:ab} {vs:List Value} {W:Nat→Prop} (h:Src sz w s vs) (ak:ao W w w') (aD:∀k,aQ s k→¬W k):Src sz w' s vs:=
 ⟨h.len,h.nil,fun a aR=>ak.eH (aD _ ⟨a,aR,rfl⟩) _ _ _ (h.rd a aR)⟩
theorem bX.lt {sz:Nat} {T:TypeId} {w:World} {s:ab} {vs:List Value} (h:bX sz T w s vs):∀k,aQ s k→k<w.heap.size:=by
 rintro k ⟨A,ay,rfl⟩
 obtain ⟨_,_,_,aK⟩:=h
 rcases aK with ⟨aD,_⟩|⟨b,c,aa,jf,_⟩
 · rw[aD] at ay;cases ay
 · rw[aa] at ay;cases ay;exact jf.lt
theorem bX.cell {T:TypeId} {w:World} {s:ab} {vs:List Value} (h:bX 1 T w s vs) {i:Nat} {v:Value} (al:vs[i]? =some v):
   ∃b c,s.a=some ⟨b,0,none⟩∧cj w b c T∧c.size=s.cap∧i<s.len∧i<c.size∧w.cell? ⟨b,i,none⟩=some v∧c.toList.take s.len=vs:=by
 obtain ⟨U,ad,aq,aK⟩:=h
 have hi:i<s.len:=by
   have:=(qJ.1 al).1
   omega
 rcases aK with ⟨_,ak⟩|⟨b,c,aa,jf,fq,aU⟩
 · omega
 · rw[lQ] at fq aU
   refine ⟨b,c,aa,jf,fq,hi,by omega,?_,aU⟩
   rw[jf.cell]
   rw[←aU,NC] at al
   rw[if_pos hi] at al
   simpa using al
theorem bX.set {T:TypeId} {w:World} {s:ab} {vs:List Value} {b i:Nat} (h:bX 1 T w s vs) (aa:s.a=some ⟨b,0,none⟩) (v:Value):
   bX 1 T (w.setCell ⟨b,i,none⟩ v) s (vs.set i v):=by
 obtain ⟨U,ad,aq,aK⟩:=h
 refine ⟨by simpa using U,ad,aq, .inr ?_⟩
 rcases aK with ⟨aD,_⟩|⟨jn,c,jo,jf,fq,aU⟩
 · rw[aD] at aa;cases aa
 · rw[aa] at jo
   cases jo
   refine ⟨b,_,aa,jf.set i v,by simpa using fq,?_⟩
   rw[←aU]
   simp[List.take_set]
def afJ (P:Program) (eu e:TypeId) (sz bytes:Nat):Bool:=
 match P.underlying eu,P.info? e,P.underlying e with
 |some (.slice eD),some i,some _=>eD==e&&(match i.zero with|some z=>z.cells.size==sz|none=>false)&&P.cellsOf e==sz&&i.bytes==bytes&&bytes !=0
 |_,_,_=>false
structure qi (P:Program) (eu e:TypeId) (sz bytes:Nat):Prop where
 h:afJ P eu e sz bytes=true
theorem qi.out {P:Program} {eu e:TypeId} {sz bytes:Nat} (h:qi P eu e sz bytes):
   P.underlying eu=some (.slice e)∧∃i z,P.info? e=some i∧(P.underlying e).isSome=true∧i.zero=some z∧z.cells.size=sz∧P.cellsOf e=sz∧i.bytes=bytes∧bytes≠0:=by
 have h:=h.h
 unfold afJ at h
 split at h
 · rename_i eD i d U ad aq
   simp only[iL,yb,bne_iff_ne] at h
   obtain ⟨⟨⟨⟨rfl,aK⟩,aW⟩,b7⟩,hV⟩:=h
   split at aK
   · rename_i z bF
     exact ⟨U,i,z,ad,by simp[aq],bF,by simpa using aK,aW,b7,hV⟩
   · cases aK
 · cases h
theorem qi.append {P:Program} {w:World} {eu e ew:TypeId} {sz bytes:Nat} {s x:ab} {xs vs:List Value} (h:qi P eu e sz bytes)
   (mF:Src sz w x xs) (lk:bX sz e w s vs) (aV:∀v∈xs,Plain v) (we:(2*(s.len+x.len)+1000)*bytes≤281474976710656):
   ∃ (au:ab) (w':World),Sem.run P (Builtin.append_ #[eu,eu] ew #[.slice s.a s.len s.cap, .slice x.a x.len x.cap]) w= .ok (.slice au.a au.len au.cap) w'∧
     bX sz e w' au (vs++xs)∧au.len=s.len+x.len∧ao (aQ s) w w'∧(∀k,aQ au k→aQ s k∨w.heap.size≤k):=by
 obtain ⟨U,i,z,ad,aq,aK,aW,b7,rfl,ot⟩:=h.out
 exact at3 rfl rfl U U ad aq aK aW b7 ot mF lk aV we
theorem Src.new {sz:Nat} {T:TypeId} (w:World) (xs:List Value) (n:Nat) (aD:xs.length=n*sz):Src sz (w.alloc (.cells xs.toArray T)) ⟨some ⟨w.heap.size,0,none⟩,n,n⟩ xs:=by
 refine ⟨aD,(fun h=>by cases h),fun a aR=> ?_⟩
 cases aR
 rw[Hh (cj.new w xs.toArray T) _ _ _ (by simp[aD])]
 simp[←aD]
theorem bX.new {sz:Nat} {T:TypeId} (w:World) (xs:List Value) (n:Nat) (aD:xs.length=n*sz) (hm:n≤maxLen):bX sz T (w.alloc (.cells xs.toArray T)) ⟨some ⟨w.heap.size,0,none⟩,n,n⟩ xs:=by
 refine ⟨aD,cP _,hm, .inr ⟨_,_,rfl,cj.new w _ _,by simp[aD],?_⟩⟩
 show List.take (n*sz) xs=xs
 rw[←aD,r9]
theorem bX.none (sz:Nat) (T:TypeId) (w:World):bX sz T w ⟨.none,0,0⟩ []:=⟨by simp,cP _,by decide, .inl ⟨rfl,rfl⟩⟩
theorem rD (k:Nat):¬aQ ⟨.none,0,0⟩ k:=by rintro ⟨A,ay,_⟩;cases ay
theorem xp {A:Addr} {n m k:Nat}:aQ ⟨some A,n,m⟩ k↔A.block=k:=⟨fun ⟨B,fc,h⟩=>by cases fc;exact h,fun h=>⟨_,rfl,h⟩⟩
theorem Src.alloc {sz:Nat} {w:World} {s:ab} {vs:List Value} (h:Src sz w s vs) (o:Obj):Src sz (w.alloc o) s vs:=h.an (W:=fun _=>False) (ao.alloc (.refl _ _) o) (fun _ _ h=>h)
theorem bX.ext {sz:Nat} {T:TypeId} {w w':World} {s:ab} {vs:List Value} (h:bX sz T w s vs) (ak:Ext w w'):bX sz T w' s vs:=h.an ak fun _ _ h=>h
theorem Src.ext {sz:Nat} {w w':World} {s:ab} {vs:List Value} (h:Src sz w s vs) (ak:Ext w w'):Src sz w' s vs:=h.an ak fun _ _ h=>h
theorem qi.push {P:Program} {w:World} {eu e ew:TypeId} {sz bytes:Nat} {s:ab} {vs xs:List Value} (h:qi P eu e sz bytes) (af:xs.length=sz)
   (lk:bX sz e w s vs) (aV:∀v∈xs,Plain v) (we:(2*(s.len+1)+1000)*bytes≤281474976710656):
   ∃ (au:ab) (w':World),Sem.run P (Builtin.append_ #[eu,eu] ew #[.slice s.a s.len s.cap, .slice (some ⟨w.heap.size,0,none⟩) 1 1]) (w.alloc (.cells xs.toArray e))= .ok (.slice au.a au.len au.cap) w'∧
     bX sz e w' au (vs++xs)∧au.len=s.len+1∧ao (aQ s) w w'∧(∀k,aQ au k→aQ s k∨w.heap.size≤k):=by
 have ak:Ext w (w.alloc (.cells xs.toArray e)):=ao.alloc (.refl _ _) _
 obtain ⟨au,w',U,ad,aq,aK,aW⟩:=h.append (ew:=ew) (Src.new (T:=e) w xs 1 (by simpa using af)) (lk.ext ak) aV we
 exact ⟨au,w',U,ad,aq,(ao.eN ak).trans aK,fun k ae=>(aW k ae).imp id (fun h=>by simp at h;omega)⟩
theorem qi.clone {P:Program} {w:World} {eu e ew:TypeId} {sz bytes:Nat} {x:ab} {xs:List Value} (h:qi P eu e sz bytes)
   (mF:Src sz w x xs) (aV:∀v∈xs,Plain v) (we:(2*x.len+1000)*bytes≤281474976710656):
   ∃ (au:ab) (w':World),Sem.run P (Builtin.append_ #[eu,eu] ew #[.slice (some ⟨w.heap.size,0,none⟩) 0 0, .slice x.a x.len x.cap]) (w.alloc (.cells #[] e))= .ok (.slice au.a au.len au.cap) w'∧
     bX sz e w' au xs∧au.len=x.len∧Ext w w'∧(∀k,aQ au k→w.heap.size≤k)∧au.a.isSome=true:=by
 have lk:=bX.new (sz:=sz) (T:=e) w [] 0 (by simp) (by decide)
 have afK:=mF.alloc (.cells #[] e)
 obtain ⟨au,w',U,ad,aq,aK,aW⟩:=h.append (ew:=ew) afK lk aV (by simpa using we)
 refine ⟨au,w',U,by simpa using ad,by simpa using aq,?_,fun k ae=> ?_,?_⟩
 · refine ⟨aK.os.trans rfl,aK.tape.trans rfl,aK.output.trans rfl,?_,fun k ae _=> ?_⟩
   · have:=aK.size;simp at this;omega
   · rw[aK.block k (by simp;omega) (by rintro ⟨A,ay,h⟩;cases ay;simp at h;omega)]
     exact Below.heap_alloc _ _ _ ae
 · rcases aW k ae with ⟨A,ay,h⟩|h
   · cases ay;simp at h;omega
   · simp at h;omega
 · obtain ⟨_,i,z,Fo,Wz,axw,ajb,at4,rfl,ot⟩:=h.out
   have aa:=ad.2.2.2
   rcases aa with ⟨aD,ak⟩|⟨b,c,aa,_⟩
   ·
     exfalso
     have aB:=ad.2.1
     have GB:x.len=0:=by simp at aq;omega
     have UH:xs=[]:=x_.1 (by rw[mF.len,GB,Nat.zero_mul])
     obtain ⟨d,hd⟩:=tY _ Wz
     have:=SI (P:=P) (w:=w.alloc (.cells #[] e)) (np:= #[eu,eu]) (ew:=ew) (s:=⟨some ⟨w.heap.size,0,Option.none⟩,0,0⟩) rfl rfl h.out.1 h.out.1 hd at4 afK (by simp[GB]) (fun a _=>by
       rw[UH];exact ⟨fun i hi=>by simp at hi,fun v al=>by simp at al⟩)
     rw[this] at U
     simp only[Result.ok.injEq,Value.slice.injEq] at U
     rw[aD] at U
     cases U.1.1
   · rw[aa];rfl
theorem bX.at {T:TypeId} {w:World} {s:ab} {vs:List Value} (h:bX 1 T w s vs) {i:Nat} {v:Value} (al:vs[i]? =some v):
   ∃A:Addr,s.a=some A∧((0:Int)≤(i:Int)∧(i:Int)<((s.len:Nat):Int))∧w.cell? (A.add (Int.toNat (i:Int)*1))=some v∧w.frozen? (A.add (Int.toNat (i:Int)*1))=false∧
     aQ s (A.add (Int.toNat (i:Int)*1)).block∧∀ug,bX 1 T (w.setCell (A.add (Int.toNat (i:Int)*1)) ug) s (vs.set i ug):=by
 obtain ⟨b,c,aa,jf,fq,hi,Tz,ak,_⟩:=h.cell al
 have aR:(Addr.mk b 0 Option.none).add (Int.toNat (i:Int)*1)=⟨b,i,Option.none⟩:=by rw[lQ,g_,aX,gJ]
 exact ⟨_,aa,⟨by omega,by omega⟩,by rw[aR];exact ak,by rw[aR];exact jf.frozen _ rfl,by rw[aR];exact ⟨_,aa,rfl⟩,fun ug=>by rw[aR];exact h.set aa ug⟩
end b8
namespace b8
open Go Go.RowKit
def afL (pL:List Int):ByteArray:=pL.foldl (fun r n=>r.push (UInt8.ofNat n.toNat)) ByteArray.empty
theorem aii {P:Program} {w:World} {src dst e:TypeId} {s:ab} {pL:List Int} (aj:P.underlying src=some (.slice e)) (he:P.underlying e=some (.int .u8)) (hd:P.underlying dst=some .string)
   (h:Src 1 w s (pL.map (.int .u8))):Sem.run P (convert src dst (.slice s.a s.len s.cap)) w= .ok (.string (afL pL)) w:=by
 rw[run_convert_bytes_string w src dst e s.a s.len s.cap aj he hd]
 cases aR:s.a with
 |none=>
   have:=h.nil aR
   have aD:pL=[]:=by simpa using this
   subst aD
   rfl
 |some A=>
   have aY:=h.rd A aR
   rw[lQ] at aY
   exact run_bytesToString w A s.len s.cap pL (by
     unfold loadCells
     rw[run_loadCellsFrom _ _ _ _ aY]
     simp)
theorem Yo {P:Program} {e:TypeId} {v:Value} (bF:((P.info? e).bind (·.zero)).map (·.cells)=some #[v]) (ak:P.cellsOf e=1) (n:Nat):pQ P e n=(List.replicate n v).toArray:=by
 unfold pQ
 rw[ak]
 cases hi:(P.info? e).bind (·.zero) with
 |none=>rw[hi] at bF;cases bF
 |some z=>
   rw[hi] at bF
   simp only[yc,Option.some.injEq] at bF
   simp only[Option.getD_some,bF,lQ]
   apply Array.ext
   · simp
   · intro i U ad
     have aD:n≠0:=by
       intro h;subst h;simp at ad
     simp[aD,Nat.mod_one]
structure Gm (P:Program) (w:World) (e:TypeId) (s:ab):Prop where
 le:s.len≤s.cap
 cap:s.cap≤maxLen
 nil:s.a=none→s.cap=0
 cell:∀a,s.a=some a→∀i,i<s.cap→∃vs,eH w (a.add (i*P.cellsOf e)) 0 (P.cellsOf e)=some vs∧∃fuel,oR P w fuel e vs
section
variable {P:Program} {w:World} {T:TypeId} {fuel:Nat} {cs:List Value}
theorem Wb {k:IntKind} (h:oR P w fuel T cs) (bn:P.underlying T=some (.int k)):∃n:Int,cs=[.int k n]∧k.min≤n∧n≤k.max:=by
 cases fuel with
 |zero=>cases h
 |succ f=>simpa only[oR,bn] using h
theorem Wc {e:TypeId} (h:oR P w fuel T cs) (bn:P.underlying T=some (.slice e)):∃s:ab,cs=[.slice s.a s.len s.cap]∧Gm P w e s:=by
 cases fuel with
 |zero=>cases h
 |succ f=>
   simp only[oR,bn] at h
   obtain ⟨s,b5,U,ad,aq,aK⟩:=h
   exact ⟨s,b5,U,ad,aq,fun a aR i hi=>by
     obtain ⟨vs,aW,b7⟩:=aK a aR i hi
     exact ⟨vs,aW,f,b7⟩⟩
theorem adZ {fs:Array Field} (h:oR P w fuel T cs) (bn:P.underlying T=some (.struct fs)):cs.length=P.cellsOf T∧∀f∈fs,∃fuel,oR P w fuel f.type ((cs.drop f.offset).take (P.cellsOf f.type)):=by
 cases fuel with
 |zero=>cases h
 |succ f=>
   simp only[oR,bn] at h
   exact ⟨h.1,fun g bl=>⟨f,h.2 g bl⟩⟩
theorem Gm.of {e:TypeId} {v:Value} (h:Gn P w T v) (bn:P.underlying T=some (.slice e)):∃s:ab,v= .slice s.a s.len s.cap∧Gm P w e s:=by
 simp only[Gn,bn] at h
 obtain ⟨fuel,h⟩:=h
 obtain ⟨s,U,ad⟩:=Wc h bn
 exact ⟨s,by simpa using U,ad⟩
end
theorem Hk {w:World} {A:Addr}:∀ {n i:Nat} {vs:List Value} {j:Nat} {v:Value},eH w A i n=some vs→vs[j]? =some v→w.cell? (A.add (i+j))=some v
 |0,i,vs,j,v,h,al=>by simp[eH] at h;subst h;simp at al
 |n+1,i,vs,j,v,h,al=>by
   simp only[eH] at h
   cases U:w.cell? (A.add i) with
   |none=>simp[U] at h
   |some u=>
     cases ad:eH w A (i+1) n with
     |none=>simp[U,ad] at h
     |some us=>
       simp only[U,ad,Option.some.injEq] at h
       subst h
       cases j with
       |zero=>simp at al;subst al;exact U
       |succ j=>
         have:=Hk ad (j:=j) (by simpa using al)
         rw[show i+(j+1)=i+1+j by omega]
         exact this
theorem Src.at {w:World} {s:ab} {vs:List Value} (h:Src 1 w s vs) {i:Nat} {v:Value} (al:vs[i]? =some v):
   ∃A:Addr,s.a=some A∧((0:Int)≤(i:Int)∧(i:Int)<((s.len:Nat):Int))∧w.cell? (A.add (Int.toNat (i:Int)*1))=some v:=by
 have hi:i<vs.length:=(qJ.1 al).1
 have aB:=h.len
 cases aR:s.a with
 |none=>have:=h.nil aR;subst this;simp at hi
 |some A=>
   have:=Hk (h.rd A aR) al
   exact ⟨A,rfl,⟨by omega,by omega⟩,by rw[lQ,g_];simpa using this⟩
end b8
namespace b8
open Go Go.RowKit
theorem Sm {n:Int} (b5:0≤n) (U:n≤255):IntKind.u8.wrap n=n:=by
 simp only[IntKind.wrap,IntKind.signed,IntKind.bits];simp;omega
theorem Sh {n:Int} (b5:0≤n) (U:n≤4294967295):IntKind.u32.wrap n=n:=by
 simp only[IntKind.wrap,IntKind.signed,IntKind.bits];simp;omega
theorem wy {n:Int} (b5:0≤n) (U:n≤18446744073709551615):IntKind.u64.wrap n=n:=by
 simp only[IntKind.wrap,IntKind.signed,IntKind.bits];simp;omega
theorem aiw (n:Int):IntKind.u8.wrap n=n%256:=by
 simp only[IntKind.wrap,IntKind.signed,IntKind.bits];simp
def S (l:List UInt8):ByteArray:=⟨l.toArray⟩
theorem afM (l:List UInt8):(S l).toList=l:=ByteArray.toList_mk l
theorem CL (a b:List UInt8):(ByteArray.toList (S a)==ByteArray.toList (S b))=(a==b):=by rw[afM,afM]
theorem aij (pL:List Int):afL pL=S (pL.map fun n=>UInt8.ofNat n.toNat):=by
 have h:∀ (pL:List Int) (r:List UInt8),pL.foldl (fun r n=>r.push (UInt8.ofNat n.toNat)) (S r)=S (r++pL.map fun n=>UInt8.ofNat n.toNat):=by
   intro pL
   induction pL with
   |nil=>intro r;simp
   |cons n pL dx=>
     intro r
     have e:(S r).push (UInt8.ofNat n.toNat)=S (r++ [UInt8.ofNat n.toNat]):=by
       apply ByteArray.ext
       simp[S,ByteArray.push]
     simp only[List.foldl_cons,e,dx,sM,eF,EN,r6]
 exact h pL []
theorem add_add (A:Addr) (n m:Nat):(A.add n).add m=A.add (n+m):=by
 unfold Addr.add
 by_cases U:n=0
 · subst U;simp
 · by_cases ad:m=0
   · subst ad;simp
   · rw[if_neg U,if_neg ad,if_neg (by omega)]
     simp[Nat.add_assoc]
def put (f:Nat→Int) (i:Nat) (v:Int):Nat→Int:=fun j=>if j=i then v else f j
section
variable {w w':World} {b m i:Nat} {T:TypeId} {f:Nat→Int}
theorem ao.oo {bI w:World} {b i:Nat} (h:ao (fun q=>q=b) bI w) (v:Value):ao (fun q=>q=b) bI (w.setCell ⟨b,i,none⟩ v):=ao.set h (fun _=>rfl) v
theorem ao.yk {bI w:World} {b i:Nat} (h:ao (fun q=>q=b) bI w) (vs:List Value) (j:Nat):ao (fun q=>q=b) bI (b8.setCells w ⟨b,i,none⟩ j vs):=ao.setCells (W:=fun q=>q=b) (A:=⟨b,i,none⟩) (fun _=>rfl) vs j h
end
theorem N2 {b o:Nat} {z l m:Nat} (h:m≠l):bh (some (Addr.mk b o none)) z l m=some ⟨b,o+l*z,none⟩:=by
 simp[bh,h,aX]
theorem Ext.trans {a b c:World} (U:Ext a b) (ad:Ext b c):Ext a c:=ao.trans U ad
theorem Ext.gv {bI ag aw:World} {W:Nat→Prop} (U:Ext bI ag) (ad:ao W ag aw) (h:∀k,W k→bI.heap.size≤k):Ext bI aw:=
 ⟨ad.os.trans U.os,ad.tape.trans U.tape,ad.output.trans U.output,jb U.size ad.size,fun k ae _=>by
   rw[ad.block k (ly ae U.size) (fun dY=>by have:=h k dY;omega),U.block k ae id]⟩
end b8
