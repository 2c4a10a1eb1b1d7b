/- What a Go program of the model must show, as text that can be read; sound against the kit. -/
import Derived.Below
import Derived.KernelRfl
import Derived.Laws.BytesString
import Derived.OpenShut
import Derived.OrdersHeld
import Derived.ProofKit
import Derived.StillTail
import Derived.Tactics
import Derived.WalkKit
import Derived.WideKeyArgs
namespace Go
theorem cR:type_of% @Nat.le_refl:=@Nat.le_refl
theorem dG:type_of% @of_decide_eq_true:=@of_decide_eq_true
theorem dO:type_of% @List.length_append:=@List.length_append
theorem ej:type_of% @List.length_take:=@List.length_take
theorem eI:type_of% @List.append_assoc:=@List.append_assoc
theorem eW:type_of% @of_decide_eq_false:=@of_decide_eq_false
theorem fa:type_of% @List.mem_append:=@List.mem_append
theorem fh:type_of% @List.getElem_mem:=@List.getElem_mem
theorem fm:type_of% @Nat.zero_le:=@Nat.zero_le
theorem fx:type_of% @decide_eq_true_eq:=@decide_eq_true_eq
theorem fF:type_of% @List.length_drop:=@List.length_drop
theorem fZ:type_of% @List.mem_cons:=@List.mem_cons
theorem gy:type_of% @Nat.zero_add:=@Nat.zero_add
theorem gH:type_of% @List.getElem?_eq_getElem:=@List.getElem?_eq_getElem
theorem g3:type_of% @List.take_of_length_le:=@List.take_of_length_le
theorem g8:type_of% @Nat.lt_or_ge:=@Nat.lt_or_ge
theorem g9:type_of% @Int.toNat_natCast:=@Int.toNat_natCast
theorem iB:type_of% @decide_eq_true:=@decide_eq_true
theorem ju:type_of% @Nat.le_trans:=@Nat.le_trans
theorem jv:type_of% @List.length_set:=@List.length_set
theorem jL:type_of% @Bool.and_eq_true:=@Bool.and_eq_true
theorem kt:type_of% @List.mem_of_mem_drop:=@List.mem_of_mem_drop
theorem kL:type_of% @List.mem_of_mem_take:=@List.mem_of_mem_take
theorem k8:type_of% @List.length_cons:=@List.length_cons
theorem lv:type_of% @Nat.lt_of_lt_of_le:=@Nat.lt_of_lt_of_le
theorem lR:type_of% @List.mem_singleton:=@List.mem_singleton
theorem lS:type_of% @Bool.not_eq_true:=@Bool.not_eq_true
theorem mh:type_of% @List.append_nil:=@List.append_nil
theorem mi:type_of% @Nat.mul_one:=@Nat.mul_one
theorem mj:type_of% @List.length_map:=@List.length_map
theorem mS:type_of% @List.getElem_of_mem:=@List.getElem_of_mem
theorem mT:type_of% @List.not_mem_nil:=@List.not_mem_nil
theorem mU:type_of% @or_false:=@or_false
theorem mV:type_of% @List.getElem_set_ne:=@List.getElem_set_ne
theorem oa:type_of% @List.mem_map:=@List.mem_map
theorem ob:type_of% @Bool.false_eq_true:=@Bool.false_eq_true
theorem oc:type_of% @List.map_append:=@List.map_append
theorem oX:type_of% @Bool.eq_iff_iff:=@Bool.eq_iff_iff
theorem p4:type_of% @List.mem_append_right:=@List.mem_append_right
theorem p5:type_of% @List.take_append_drop:=@List.take_append_drop
theorem p6:type_of% @List.getD_eq_getElem?_getD:=@List.getD_eq_getElem?_getD
theorem qx:type_of% @List.take_succ_eq_append_getElem:=@List.take_succ_eq_append_getElem
theorem qy:type_of% @List.getElem?_eq_some_iff:=@List.getElem?_eq_some_iff
theorem qz:type_of% @List.take_length:=@List.take_length
theorem qA:type_of% @Nat.eq_of_beq_eq_true:=@Nat.eq_of_beq_eq_true
theorem rl:type_of% @List.nil_append:=@List.nil_append
theorem rm:type_of% @List.length_singleton:=@List.length_singleton
theorem r7:type_of% @List.pairwise_cons:=@List.pairwise_cons
theorem r8:type_of% @Nat.min_eq_left:=@Nat.min_eq_left
theorem r9:type_of% @List.find?_eq_none:=@List.find?_eq_none
theorem sS:type_of% @decide_eq_false:=@decide_eq_false
theorem sT:type_of% @Nat.mod_lt:=@Nat.mod_lt
theorem tI:type_of% @List.mem_append_left:=@List.mem_append_left
theorem tJ:type_of% @List.drop_eq_getElem_cons:=@List.drop_eq_getElem_cons
theorem tK:type_of% @List.map_cons:=@List.map_cons
theorem tL:type_of% @decide_eq_false_iff_not:=@decide_eq_false_iff_not
theorem tM:type_of% @List.count_pos_iff:=@List.count_pos_iff
theorem uS:type_of% @List.filter_eq_self:=@List.filter_eq_self
theorem uT:type_of% @List.mem_cons_of_mem:=@List.mem_cons_of_mem
theorem uU:type_of% @Nat.mod_eq_of_lt:=@Nat.mod_eq_of_lt
theorem uV:type_of% @List.getElem_set_self:=@List.getElem_set_self
theorem uW:type_of% @List.length_nil:=@List.length_nil
theorem wq:type_of% @List.mem_range:=@List.mem_range
theorem wu:type_of% @Bool.or_eq_true:=@Bool.or_eq_true
theorem wv:type_of% @Nat.add_mul:=@Nat.add_mul
theorem wx:type_of% @List.getElem?_append_right:=@List.getElem?_append_right
theorem yd:type_of% @List.sum_append:=@List.sum_append
theorem ye:type_of% @List.length_eq_zero_iff:=@List.length_eq_zero_iff
theorem yf:type_of% @Option.map_some:=@Option.map_some
theorem zV:type_of% @Nat.add_zero:=@Nat.add_zero
theorem zW:type_of% @List.drop_zero:=@List.drop_zero
theorem zX:type_of% @Bool.not_eq_true':=@Bool.not_eq_true'
theorem zY:type_of% @List.getElem_append_left:=@List.getElem_append_left
theorem zZ:type_of% @beq_iff_eq:=@beq_iff_eq
theorem z1:type_of% @Nat.le_succ:=@Nat.le_succ
theorem z2:type_of% @List.getElem?_cons_zero:=@List.getElem?_cons_zero
theorem Ca:type_of% @List.filter_append:=@List.filter_append
theorem Cb:type_of% @List.pairwise_append:=@List.pairwise_append
theorem Cc:type_of% @List.length_zip:=@List.length_zip
theorem Cd:type_of% @List.perm_middle:=@List.perm_middle
theorem Ce:type_of% @Nat.mul_le_mul_right:=@Nat.mul_le_mul_right
theorem Cf:type_of% @Option.isSome_iff_exists:=@Option.isSome_iff_exists
theorem Cg:type_of% @Nat.testBit_or:=@Nat.testBit_or
theorem Ch:type_of% @Nat.le_of_ble_eq_true:=@Nat.le_of_ble_eq_true
theorem EK:type_of% @List.filter_eq_nil_iff:=@List.filter_eq_nil_iff
theorem EL:type_of% @List.cons_append:=@List.cons_append
theorem EM:type_of% @List.mem_of_find?_eq_some:=@List.mem_of_find?_eq_some
theorem EN:type_of% @List.map_take:=@List.map_take
theorem EO:type_of% @Nat.sub_self:=@Nat.sub_self
theorem EP:type_of% @List.map_map:=@List.map_map
theorem ER:type_of% @List.getElem_append_right:=@List.getElem_append_right
theorem ES:type_of% @Bool.true_and:=@Bool.true_and
theorem ET:type_of% @List.take_append_of_le_length:=@List.take_append_of_le_length
theorem EU:type_of% @List.mem_or_eq_of_mem_set:=@List.mem_or_eq_of_mem_set
theorem EV:type_of% @List.count_append:=@List.count_append
theorem GX:type_of% @List.mem_filter:=@List.mem_filter
theorem GY:type_of% @List.find?_some:=@List.find?_some
theorem GZ:type_of% @List.map_drop:=@List.map_drop
theorem G0:type_of% @List.zipWith_append:=@List.zipWith_append
theorem G1:type_of% @List.getElem_take:=@List.getElem_take
theorem G2:type_of% @List.pairwise_iff_getElem:=@List.pairwise_iff_getElem
theorem G3:type_of% @UInt8.toNat_lt:=@UInt8.toNat_lt
theorem G4:type_of% @List.all_eq_true:=@List.all_eq_true
theorem G5:type_of% @Nat.sub_zero:=@Nat.sub_zero
theorem G6:type_of% @Bool.false_or:=@Bool.false_or
theorem G7:type_of% @List.length_replicate:=@List.length_replicate
theorem G8:type_of% @List.count_cons:=@List.count_cons
theorem G9:type_of% @List.count_nil:=@List.count_nil
theorem G_:type_of% @Nat.eq_zero_or_pos:=@Nat.eq_zero_or_pos
theorem Ha:type_of% @List.length_filter_le:=@List.length_filter_le
theorem JE:type_of% @List.of_mem_zip:=@List.of_mem_zip
theorem JF:type_of% @List.exists_mem_of_ne_nil:=@List.exists_mem_of_ne_nil
theorem JG:type_of% @List.sum_cons:=@List.sum_cons
theorem JH:type_of% @List.drop_drop:=@List.drop_drop
theorem JI:type_of% @List.perm_append_comm:=@List.perm_append_comm
theorem JJ:type_of% @List.take_take:=@List.take_take
theorem JK:type_of% @List.getElem_drop:=@List.getElem_drop
theorem JL:type_of% @List.getElem?_map:=@List.getElem?_map
theorem JM:type_of% @List.any_eq_false:=@List.any_eq_false
theorem JN:type_of% @List.toList_toArray:=@List.toList_toArray
theorem JO:type_of% @List.nodup_append:=@List.nodup_append
theorem JP:type_of% @Nat.testBit_two_pow:=@Nat.testBit_two_pow
theorem JQ:type_of% @List.nodup_nil:=@List.nodup_nil
theorem JR:type_of% @List.filterMap_cons:=@List.filterMap_cons
theorem JS:type_of% @List.filterMap_append:=@List.filterMap_append
theorem JT:type_of% @Array.getElem?_eq_some_iff:=@Array.getElem?_eq_some_iff
theorem Nf:type_of% @List.getElem_zip:=@List.getElem_zip
theorem Ng:type_of% @List.getElem?_drop:=@List.getElem?_drop
theorem Nh:type_of% @Nat.pow_le_pow_right:=@Nat.pow_le_pow_right
theorem Ni:type_of% @List.flatten_append:=@List.flatten_append
theorem Nj:type_of% @Bool.or_eq_false_iff:=@Bool.or_eq_false_iff
theorem Nk:type_of% @List.getElem?_eq_none:=@List.getElem?_eq_none
theorem Nl:type_of% @List.range_eq_range':=@List.range_eq_range'
theorem Nm:type_of% @List.getElem?_toArray:=@List.getElem?_toArray
theorem Nn:type_of% @Int.eq_ofNat_of_zero_le:=@Int.eq_ofNat_of_zero_le
theorem No:type_of% @List.getElem?_take:=@List.getElem?_take
theorem Np:type_of% @List.drop_eq_nil_of_le:=@List.drop_eq_nil_of_le
theorem Nq:type_of% @Array.getElem?_modify:=@Array.getElem?_modify
theorem Ro:type_of% @List.eq_of_mem_replicate:=@List.eq_of_mem_replicate
theorem Rp:type_of% @Decidable.byContradiction:=@Decidable.byContradiction
theorem Rq:type_of% @List.getElem?_cons_succ:=@List.getElem?_cons_succ
end Go
namespace cd
open Go
structure aa where
 a:Option Addr
 len:Nat
 cap:Nat
structure r4 where
 f:FuncId
 pre:Array Value
 cap:Array Value
inductive j8 where
 |int (k:IntKind)|bool|str|ptr|slice|map|agg|fn|any
def j8.T:j8→Type
 | .int _=>Int
 | .bool=>Bool
 | .str=>ByteArray
 | .ptr=>Option Addr
 | .slice=>aa
 | .map=>Option Nat
 | .agg=>Array Value
 | .fn=>r4
 | .any=>Value
def j8.v:(l:j8)→l.T→Value
 | .int k,(n:Int)=> .int k n
 | .bool,(b:Bool)=> .bool b
 | .str,(s:ByteArray)=> .string s
 | .ptr,(p:Option Addr)=> .pointer p
 | .slice,(s:aa)=> .slice s.a s.len s.cap
 | .map,(r:Option Nat)=> .map r
 | .agg,(cs:Array Value)=> .agg cs
 | .fn,(F:r4)=> .func (.func F.f) F.pre F.cap
 | .any,(v:Value)=>v
inductive p0 where
 |one (l:j8)
 |flat (ls:List j8)
def Gz (l:j8) (K:Value→Prop):Prop:=
 match l with
 | .int k=>∃n:Int,K (.int k n)
 | .bool=>∃b:Bool,K (.bool b)
 | .str=>∃s:ByteArray,K (.string s)
 | .ptr=>∃p:Option Addr,K (.pointer p)
 | .slice=>∃s:aa,K (.slice s.a s.len s.cap)
 | .map=>∃r:Option Nat,K (.map r)
 | .agg=>∃cs:Array Value,K (.agg cs)
 | .fn=>∃F:r4,K (.func (.func F.f) F.pre F.cap)
 | .any=>∃v:Value,K v
def V9:List j8→(List Value→Prop)→Prop
 | [],K=>K []
 |l::ls,K=>Gz l fun v=>V9 ls fun vs=>K (v::vs)
def V_ (k:p0) (K:Value→Prop):Prop:=
 match k with
 | .one l=>Gz l K
 | .flat ls=>V9 ls fun vs=>K (.agg vs.toArray)
def Qf:List p0→(List Value→Prop)→Prop
 | [],K=>K []
 |k::ks,K=>V_ k fun v=>Qf ks fun vs=>K (v::vs)
theorem I4 {l:j8} {K:Value→Prop} (h:Gz l K):∃v,K v:=by
 cases l<;>simp only[Gz] at h<;>obtain ⟨x,h⟩:=h<;>exact ⟨_,h⟩
theorem ad8:∀ {ls:List j8} {K:List Value→Prop},V9 ls K→∃vs,K vs
 | [],_,h=>⟨_,h⟩
 |_::_,_,h=>let ⟨_,h⟩:=I4 h;let ⟨_,h⟩:=ad8 h;⟨_,h⟩
theorem ad9 {k:p0} {K:Value→Prop} (h:V_ k K):∃v,K v:=by
 cases k with
 |one l=>exact I4 h
 |flat ls=>obtain ⟨_,h⟩:=ad8 h;exact ⟨_,h⟩
theorem Wa:∀ {ls:List p0} {K:List Value→Prop},Qf ls K→∃vs,K vs
 | [],_,h=>⟨_,h⟩
 |_::_,_,h=>let ⟨_,h⟩:=ad9 h;let ⟨_,h⟩:=Wa h;⟨_,h⟩
abbrev Env:=List (Nat×Value)
def Env.get:Env→Nat→Option Value
 | [],_=>none
 |(k,v)::e,s=>bif Nat.beq k s then some v else Env.get e s
def bC (e:Env):Operand→Option Value
 | .tmp t=>e.get t
 | .const v=>some v
 | .global g=>some (.pointer (some ⟨g,0,none⟩))
 | .func f=>some (.func (.func f) #[] #[])
def ro (e:Env) (x:Operand):Value:=(bC e x).getD undef
def known (e:Env) (xs:Array Operand):Bool:=xs.toList.all fun x=>(bC e x).isSome
structure gq (e:Env) (a:Act):Prop where
 get:∀s v,e.get s=some v→a.tmps[s]? =some v
theorem gq.bC {e:Env} {a:Act} (h:gq e a) {x:Operand} {v:Value} (af:bC e x=some v):a.eval x=v:=by
 cases x with
 |tmp t=>
   have:=h.get t v af
   simp[Act.eval,Array.getD_eq_getD_getElem?,this]
 |const c=>simpa[cd.bC,Act.eval] using af
 |global g=>simpa[cd.bC,Act.eval] using af
 |func f=>simpa[cd.bC,Act.eval] using af
theorem gq.ro {e:Env} {a:Act} (h:gq e a) {x:Operand} (af:(cd.bC e x).isSome=true):a.eval x=ro e x:=by
 obtain ⟨v,ak⟩:=Cf.1 af
 rw[h.bC ak,cd.ro,ak];rfl
def fW (d:Option Nat) (v:Value) (e:Env):Env:=
 match d with
 |some d=>(d,v)::e
 |none=>e
theorem GA (d:Nat) (v:Value) (e:Env) (s:Nat):Env.get ((d,v)::e) s=if d=s then some v else e.get s:=by
 simp only[Env.get,cond_eq_ite]
 by_cases ra:d=s
 · subst ra;simp
 · have:Nat.beq d s=false:=by
     cases ab:Nat.beq d s
     · rfl
     · exact absurd (qA ab) ra
   simp[this,ra]
theorem gq.put {e:Env} {a:Act} (h:gq e a) {d:Option Nat} {v:Value} (hd:∀k,d=some k→k<a.tmps.size):gq (fW d v e) (a.put d v):=by
 cases d with
 |none=>exact h
 |some d=>
   constructor
   intro s u aj
   rw[fW,GA] at aj
   simp only[Act.put]
   by_cases ra:d=s
   · subst ra
     simp only[if_true,Option.some.injEq] at aj
     subst aj
     simp[hd d rfl]
   · rw[if_neg ra] at aj
     rw[Array.getElem?_setIfInBounds_ne ra]
     exact h.get s u aj
inductive j9 where
 |one (k:p0)
 |kn (ks:List p0)
def qs (r:j9) (K:Value→Prop):Prop:=
 match r with
 | .one k=>V_ k K
 | .kn ks=>Qf ks fun vs=>K (.tuple vs.toArray)
theorem rf {r:j9} {K:Value→Prop} (h:qs r K):∃v,K v:=by
 cases r with
 |one k=>exact ad9 h
 |kn ks=>obtain ⟨_,h⟩:=Wa h;exact ⟨_,h⟩
def eK (w:World) (A:Addr):Nat→Nat→Option (List Value)
 |_,0=>some []
 |i,n+1=>match w.cell? (A.add i),eK w A (i+1) n with
   |some v,some vs=>some (v::vs)
   |_,_=>none
def setCells (w:World) (A:Addr):Nat→List Value→World
 |_,[]=>w
 |i,v::vs=>setCells (w.setCell (A.add i) v) A (i+1) vs
def Plain:Value→Prop
 | .agg _=>False
 | .tuple _=>False
 |_=>True
def c2 (w:World) (A:Addr) (vs:List Value):Prop:=
 (∀i,i<vs.length→(w.cell? (A.add i)).isSome=true∧w.frozen? (A.add i)=false)∧∀v∈vs,Plain v
def zK:TypeDesc→Bool
 | .struct _=>true
 | .array _ _=>true
 |_=>false
def pC (P:Program) (elem:TypeId) (n:Nat):Array Value:=
 let zero:=if n*P.cellsOf elem=0 then #[] else (((P.info? elem).bind (·.zero)).getD undef).cells
 (Array.range (n*P.cellsOf elem)).map (zero[· %zero.size]!)
section
variable {P:Program} {w:World}
theorem gj {t:TypeId} {d:TypeDesc} (h:P.underlying t=some d):(underlying t).run P w= .ok d w:=by
 simp[underlying,program,Sem.run,bind,Sem.bind,h,pure]
theorem C0 {t:TypeId} {d:TypeInfo} (h:P.info? t=some d):(typeInfo t).run P w= .ok d w:=by
 simp[typeInfo,program,Sem.run,bind,Sem.bind,h,pure]
theorem info_of_underlying {t:TypeId} {d:TypeDesc} (h:P.underlying t=some d):∃i,P.info? t=some i:=by
 unfold Program.underlying at h
 cases hi:P.info? t with
 |none=>simp[hi] at h
 |some i=>exact ⟨i,rfl⟩
theorem qE {t:TypeId} {d:TypeDesc} (h:P.underlying t=some d):(Go.sizeOf t).run P w= .ok (P.cellsOf t) w:=by
 obtain ⟨i,hi⟩:=info_of_underlying h
 simp[Go.sizeOf,C0 hi,Program.cellsOf,hi]
theorem Qg {t:TypeId} {d:TypeDesc} (h:P.underlying t=some d):(isAgg t).run P w= .ok (zK d) w:=by
 simp only[isAgg,Sem.run_bind,gj h,Result.andThen]
 cases d<;>rfl
theorem R6 {A:Addr} {v:Value} (h:w.cell? A=some v):(load A).run P w= .ok v w:=by
 simp[load,Sem.run,h]
theorem run_loadCellsFrom {A:Addr}:∀ (n i:Nat) (acc:Array Value) (vs:List Value),eK w A i n=some vs→
   (loadCellsFrom A i n acc).run P w= .ok (acc++vs.toArray) w
 |0,i,acc,vs,h=>by
   simp only[eK,Option.some.injEq] at h
   subst h
   simp[loadCellsFrom]
 |n+1,i,acc,vs,h=>by
   simp only[eK] at h
   cases U:w.cell? (A.add i) with
   |none=>simp[U] at h
   |some v=>
     cases ad:eK w A (i+1) n with
     |none=>simp[U,ad] at h
     |some us=>
       simp only[U,ad,Option.some.injEq] at h
       subst h
       simp only[loadCellsFrom,Sem.run_bind,R6 U,Result.andThen]
       rw[run_loadCellsFrom n (i+1) (acc.push v) us ad]
       simp
theorem Qh {T:TypeId} {d:TypeDesc} (bj:P.underlying T=some d) (hd:zK d=true) {A:Addr} {vs:List Value} (h:eK w A 0 (P.cellsOf T)=some vs):
   (loadVar T A).run P w= .ok (.agg vs.toArray) w:=by
 simp only[loadVar,Sem.run_bind,Qg bj,Result.andThen,hd,if_true,qE bj,loadCells,run_loadCellsFrom _ _ _ _ h]
 simp
theorem ad_ {T:TypeId} {d:TypeDesc} (bj:P.underlying T=some d) (hd:zK d=false) {A:Addr} {v:Value} (h:w.cell? A=some v):
   (loadVar T A).run P w= .ok v w:=by
 simp only[loadVar,Sem.run_bind,Qg bj,Result.andThen,hd,ob,if_false,R6 h]
theorem asH {A:Addr} {v u:Value} (ak:Plain v) (h:w.cell? A=some u) (aG:w.frozen? A=false):(store A v).run P w= .ok () (w.setCell A v):=by
 cases v<;>simp_all [store,Sem.run,Plain]
theorem asI (w:World) (A B:Addr) (v:Value):((w.setCell A v).cell? B).isSome=(w.cell? B).isSome:=by
 simp only[World.setCell,World.cell?,Nq]
 by_cases ab:A.block=B.block
 · simp only[ab,if_true]
   cases w.heap[B.block]? with
   |none=>rfl
   |some o=>
     cases o<;>simp
     by_cases aj:B.spot.isSome<;>simp[aj]
     by_cases mB:A.spot.isSome<;>simp[mB]
     rw[oX];simp
 · simp[ab]
theorem asJ (w:World) (A B:Addr) (v:Value):(w.setCell A v).frozen? B=w.frozen? B:=by
 simp only[World.setCell,World.frozen?,Nq]
 by_cases ab:A.block=B.block
 · simp only[ab,if_true]
   cases w.heap[B.block]? with
   |none=>rfl
   |some o=>cases o<;>rfl
 · simp[ab]
theorem Hn {A:Addr}:∀ (vs:List Value) (i:Nat) (w:World),(∀j,j<vs.length→(w.cell? (A.add (i+j))).isSome=true∧w.frozen? (A.add (i+j))=false)→(∀v∈vs,Plain v)→
   (storeCells A vs i).run P w= .ok () (setCells w A i vs)
 | [],i,w,_,_=>rfl
 |v::vs,i,w,h,aW=>by
   have b7:=h 0 (by simp)
   simp only[zV] at b7
   obtain ⟨u,hu⟩:=Cf.1 b7.1
   simp only[storeCells,Sem.run_bind,asH (P:=P) (aW v (by simp)) hu b7.2,Result.andThen,setCells]
   refine Hn vs (i+1) (w.setCell (A.add i) v) (fun j a8=> ?_) (fun x af=>aW x (by simp[af]))
   have:=h (j+1) (by simp;omega)
   rw[asI,asJ,show i+1+j=i+(j+1) by omega]
   exact this
theorem aea {T:TypeId} {d:TypeDesc} (bj:P.underlying T=some d) {A:Addr} {v:Value} (aj:v.cells.size=P.cellsOf T) (h:c2 w A v.cells.toList):
   (storeVar T A v).run P w= .ok () (setCells w A 0 v.cells.toList):=by
 simp only[storeVar,Sem.run_bind,qE bj,Result.andThen,aj,ne_eq,not_true,if_false]
 simpa using Hn v.cells.toList 0 w (by simpa using h.1) h.2
end
def Wb:List j8→Addr→Nat→World→(List Value→Prop)→Prop
 | [],_,_,_,K=>K []
 |l::ls,A,i,w,K=>Gz l fun v=>w.cell? (A.add i)=some v∧Wb ls A (i+1) w fun vs=>K (v::vs)
def I5 (P:Program) (aI:TypeId→j9) (T:TypeId) (A:Addr) (w:World) (K:Value→Prop):Prop:=
 match P.underlying T with
 |none=>False
 |some d=>
   bif zK d then
     match aI T with
     | .one (.flat ls)=>bif Nat.beq (P.cellsOf T) ls.length then Wb ls A 0 w fun vs=>K (.agg vs.toArray) else False
     |_=>∃cs:List Value,eK w A 0 (P.cellsOf T)=some cs∧K (.agg cs.toArray)
   else
     match aI T with
     | .one (.one l)=>Gz l fun v=>w.cell? A=some v∧K v
     |_=>False
def Wc (P:Program) (aI:TypeId→j9) (T:TypeId) (A:Addr) (x:Value) (w:World) (K:World→Prop):Prop:=
 match P.underlying T with
 |none=>False
 |some d=>
   bif zK d then
     match x with
     | .agg cs=>c2 w A cs.toList∧cs.size=P.cellsOf T∧K (setCells w A 0 cs.toList)
     |_=>False
   else bif Nat.beq (P.cellsOf T) 1 then
     match aI T with
     | .one (.one .any)=>Plain x∧(∃u,w.cell? A=some u)∧w.frozen? A=false∧K (w.setCell A x)
     |_=>match x with
       | .agg _=>False
       | .tuple _=>False
       |_=>(∃u,w.cell? A=some u)∧w.frozen? A=false∧K (w.setCell A x)
   else False
def aeb (P:Program) (T:TypeId) (xs qg:Array Value) (b:Bool):Prop:=
 P.eqGuardType P.depth T=false∧∀w,(Op.equal T (.agg xs) (.agg qg)).run P w= .ok b w
def GB:Value→Option Bool
 | .nilIface=>some true
 | .iface _ _=>some false
 |_=>none
def GC:Option TypeDesc→Bool
 |some (.interface _)=>true
 |_=>false
def BU:Option TypeDesc→Bool
 |some (.pointer _)=>true
 |_=>false
def Ek:Option TypeDesc→Bool
 |some (.slice _)=>true
 |_=>false
def I6:Option TypeDesc→Bool
 |some (.map _ _)=>true
 |_=>false
def uL:IntKind→IntKind→Bool:=fun a b=>decide (a=b)
def Qi (P:Program) (op:BinOp) (T:TypeId) (x y:Value) (K:Value→Prop) (G:Prop):Prop:=
 match y with
 | .nilIface=>bif GC (P.underlying T) then
     match op with
     | .eql=>∃b,GB x=some b∧K (.bool b)
     | .neq=>∃b,GB x=some b∧K (.bool (!b))
     |_=>False
   else False
 | .pointer none=>bif BU (P.underlying T) then
     match op,x with
     | .eql, .pointer p=>K (.bool p.isNone)
     | .neq, .pointer p=>K (.bool (!p.isNone))
     |_,_=>False
   else False
 | .slice none _ _=>bif Ek (P.underlying T) then
     match op,x with
     | .eql, .slice a _ _=>K (.bool a.isNone)
     | .neq, .slice a _ _=>K (.bool (!a.isNone))
     |_,_=>False
   else False
 | .map none=>bif I6 (P.underlying T) then
     match op,x with
     | .eql, .map r=>K (.bool r.isNone)
     | .neq, .map r=>K (.bool (!r.isNone))
     |_,_=>False
   else False
 | .agg qg=>
     match op,x with
     | .eql, .agg xs=>∃b,aeb P T xs qg b∧K (.bool b)
     | .neq, .agg xs=>∃b,aeb P T xs qg b∧K (.bool (!b))
     |_,_=>False
 | .int lL b=>
     match op,x with
     | .quo, .int k a=>bif uL k lL then b≠0∧K (.int k (k.wrap (a.tdiv b))) else False
     | .rem, .int k a=>bif uL k lL then b≠0∧K (.int k (a.tmod b)) else False
     | .shl, .int k a=>0≤b∧K (.int k (k.wrap (a*2^(min b.toNat k.bits))))
     | .shr, .int k a=>0≤b∧K (.int k (a.fdiv (2^(min b.toNat k.bits))))
     |_,_=>G
 | .bool b=>match P.underlying T with
     |some .bool=>match op,x with
       | .eql, .bool a=>K (.bool (a==b))
       | .neq, .bool a=>K (.bool (!(a==b)))
       |_,_=>False
     |_=>False
 | .string b=>
     match op,x with
     | .add, .string a=>((a.size+b.size:Nat):Int)≤9223372036854775807∧K (.string (a++b))
     |_,_=>G
 |_=>G
section
variable {P:Program}
theorem I7 (T:TypeId) (x y:Value):Op.equal T x y=Op.equalIn (9999+1) T x y:=rfl
theorem asK (d:Nat) {T:TypeId} {x:Value} {b:Bool} (bj:GC (P.underlying T)=true) (h:GB x=some b) (w:World):
   (Op.equalIn (d+1) T x .nilIface).run P w= .ok b w:=by
 cases hu:P.underlying T with
 |none=>simp[hu,GC] at bj
 |some d=>
   cases d<;>simp only[hu,GC,ob] at bj
   simp only[Op.equalIn,Sem.run_bind,gj hu,Result.andThen]
   cases x<;>simp only[GB,reduceCtorEq,Option.some.injEq] at h<;>subst h<;>rfl
theorem asL (d:Nat) {T:TypeId} {p:Option Addr} (bj:BU (P.underlying T)=true) (w:World):
   (Op.equalIn (d+1) T (.pointer p) (.pointer none)).run P w= .ok p.isNone w:=by
 cases hu:P.underlying T with
 |none=>simp[hu,BU] at bj
 |some d=>
   cases d<;>simp only[hu,BU,ob] at bj
   simp only[Op.equalIn,Sem.run_bind,gj hu,Result.andThen]
   cases p<;>rfl
theorem asM (d:Nat) {T:TypeId} {a:Option Addr} {l c H8 c':Nat} (bj:Ek (P.underlying T)=true) (w:World):
   (Op.equalIn (d+1) T (.slice a l c) (.slice none H8 c')).run P w= .ok a.isNone w:=by
 cases hu:P.underlying T with
 |none=>simp[hu,Ek] at bj
 |some d=>
   cases d<;>simp only[hu,Ek,ob] at bj
   simp only[Op.equalIn,Sem.run_bind,gj hu,Result.andThen]
   cases a<;>rfl
theorem asN (d:Nat) {T:TypeId} {r:Option Nat} (bj:I6 (P.underlying T)=true) (w:World):
   (Op.equalIn (d+1) T (.map r) (.map none)).run P w= .ok r.isNone w:=by
 cases hu:P.underlying T with
 |none=>simp[hu,I6] at bj
 |some d=>
   cases d<;>simp only[hu,I6,ob] at bj
   simp only[Op.equalIn,Sem.run_bind,gj hu,Result.andThen]
   cases r<;>rfl
theorem aec {T:TypeId} {x:Value} {b:Bool} (bj:GC (P.underlying T)=true) (h:GB x=some b) (w:World):
   (Op.equal T x .nilIface).run P w= .ok b w:=by rw[I7];exact asK _ bj h w
theorem Qj {T:TypeId} {p:Option Addr} (bj:BU (P.underlying T)=true) (w:World):
   (Op.equal T (.pointer p) (.pointer none)).run P w= .ok p.isNone w:=by rw[I7];exact asL _ bj w
theorem Qk {T:TypeId} {a:Option Addr} {l c H8 c':Nat} (bj:Ek (P.underlying T)=true) (w:World):
   (Op.equal T (.slice a l c) (.slice none H8 c')).run P w= .ok a.isNone w:=by rw[I7];exact asM _ bj w
theorem aed {T:TypeId} {r:Option Nat} (bj:I6 (P.underlying T)=true) (w:World):
   (Op.equal T (.map r) (.map none)).run P w= .ok r.isNone w:=by rw[I7];exact asN _ bj w
theorem aee {T:TypeId} {xs qg:Array Value} (h:P.eqGuardType P.depth T=false) (op:BinOp) (x y:Operand) (w:World):
   (eqGuard op T x y (.agg xs) (.agg qg)).run P w= .ok () w:=by
 cases op<;>simp[eqGuard,program,Sem.run,bind,Sem.bind,h,pure]
theorem aef {T:TypeId} {a b:Bool} (bj:P.underlying T=some .bool) (w:World):(Op.equal T (.bool a) (.bool b)).run P w= .ok (a==b) w:=by
 have a_:∀ (d:Nat) (w:World),(Op.equalIn (d+1) T (.bool a) (.bool b)).run P w= .ok (a==b) w:=by
   intro d w
   simp[Op.equalIn,gj bj]
 rw[I7];exact a_ _ w
theorem aeg {op:BinOp} {T:TypeId} {x y:Value} {Mb I8:Operand} {K:Value→Prop} {G:Prop}
   (b8:y= .nilIface→∃c,I8= .const c)
   (h:Qi P op T x y K G):
   G∨∃v,(∀w,(do eqGuard op T Mb I8 x y;binOp op T x y:Sem Value).run P w= .ok v w)∧K v:=by
 unfold Qi at h
 split at h
 case h_1=>
   obtain ⟨c,al⟩:=b8 rfl
   by_cases bj:GC (P.underlying T)=true
   · rw[bj] at h
     simp only[cond_true] at h
     split at h
     · obtain ⟨b,ab,bu⟩:=h
       refine .inr ⟨_,fun w=> ?_,bu⟩
       have:=aec (P:=P) bj ab w
       cases x<;>simp only[GB,reduceCtorEq,Option.some.injEq] at ab<;>subst al ab<;>simp[eqGuard,binOp,this]
     · obtain ⟨b,ab,bu⟩:=h
       refine .inr ⟨_,fun w=> ?_,bu⟩
       have:=aec (P:=P) bj ab w
       cases x<;>simp only[GB,reduceCtorEq,Option.some.injEq] at ab<;>subst al ab<;>simp[eqGuard,binOp,this]
     · exact h.elim
   · simp only[lS] at bj;rw[bj] at h;exact h.elim
 case h_2=>
   by_cases bj:BU (P.underlying T)=true
   · rw[bj] at h
     simp only[cond_true] at h
     split at h
     · exact .inr ⟨_,fun w=>by simp[eqGuard,binOp,Qj (P:=P) bj],h⟩
     · exact .inr ⟨_,fun w=>by simp[eqGuard,binOp,Qj (P:=P) bj],h⟩
     · exact h.elim
   · simp only[lS] at bj;rw[bj] at h;exact h.elim
 case h_3=>
   by_cases bj:Ek (P.underlying T)=true
   · rw[bj] at h
     simp only[cond_true] at h
     split at h
     · exact .inr ⟨_,fun w=>by simp[eqGuard,binOp,Qk (P:=P) bj],h⟩
     · exact .inr ⟨_,fun w=>by simp[eqGuard,binOp,Qk (P:=P) bj],h⟩
     · exact h.elim
   · simp only[lS] at bj;rw[bj] at h;exact h.elim
 case h_4=>
   by_cases bj:I6 (P.underlying T)=true
   · rw[bj] at h
     simp only[cond_true] at h
     split at h
     · exact .inr ⟨_,fun w=>by simp[eqGuard,binOp,aed (P:=P) bj],h⟩
     · exact .inr ⟨_,fun w=>by simp[eqGuard,binOp,aed (P:=P) bj],h⟩
     · exact h.elim
   · simp only[lS] at bj;rw[bj] at h;exact h.elim
 case h_5=>
   split at h
   · obtain ⟨b,⟨U,ad⟩,bu⟩:=h
     exact .inr ⟨_,fun w=>by simp[aee U,binOp,ad],bu⟩
   · obtain ⟨b,⟨U,ad⟩,bu⟩:=h
     exact .inr ⟨_,fun w=>by simp[aee U,binOp,ad],bu⟩
   · exact h.elim
 case h_6 lL b=>
   split at h
   · rename_i k a
     by_cases ae:k=lL
     · subst ae
       simp only[uL,decide_true,cond_true] at h
       exact .inr ⟨_,fun w=>by simp[eqGuard,binOp,Op.intDiv,h.1],h.2⟩
     · simp[uL,ae] at h
   · rename_i k a
     by_cases ae:k=lL
     · subst ae
       simp only[uL,decide_true,cond_true] at h
       exact .inr ⟨_,fun w=>by simp[eqGuard,binOp,Op.intDiv,h.1],h.2⟩
     · simp[uL,ae] at h
   · exact .inr ⟨_,fun w=>by simp[eqGuard,binOp,Op.shift,show¬b<0 by omega],h.2⟩
   · exact .inr ⟨_,fun w=>by simp[eqGuard,binOp,Op.shift,show¬b<0 by omega],h.2⟩
   · exact .inl h
 case h_7 b=>
   split at h
   · rename_i bj
     split at h
     · exact .inr ⟨_,fun w=>by simp[eqGuard,binOp,aef bj],h⟩
     · exact .inr ⟨_,fun w=>by simp[eqGuard,binOp,aef bj],h⟩
     · exact h.elim
   · exact h.elim
 case h_8 b=>
   split at h
   · rename_i a
     refine .inr ⟨_,fun w=> ?_,h.2⟩
     have U:=h.1
     simp[eqGuard,binOp,Op.stringOp,IntKind.max,IntKind.signed,IntKind.bits]
     omega
   · exact .inl h
 case h_9=>exact .inl h
end
def Ql (P:Program) (T:TypeId) (x:Value) (K:Value→Prop):Prop:=
 match P.underlying T with
 |some (.array n _)=>match x with
   | .slice a len _=>n≤len∧∃A,a=some A∧K (.pointer (some A))
   |_=>False
 |_=>False
def Qm (P:Program) (T:TypeId) (x i:Value) (K:Value→Prop):Prop:=
 match i with
 | .int _ n=>
   match P.underlying T with
   |some (.slice elem)=>bif (P.underlying elem).isSome then
       match x with
       | .slice a len _=>∃A,a=some A∧(0≤n∧n<(len:Int))∧K (.pointer (some (A.add (n.toNat*P.cellsOf elem))))
       |_=>False
     else False
   |some (.array len elem)=>bif (P.underlying elem).isSome then
       match x with
       | .pointer (some A)=>(0≤n∧n<(len:Int))∧K (.pointer (some (A.add (n.toNat*P.cellsOf elem))))
       |_=>False
     else False
   |_=>False
 |_=>False
def Mc (P:Program) (aI:TypeId→j9) (T:TypeId) (cs:Array Value) (off:Nat) (K:Value→Prop):Prop:=
 match P.underlying T with
 |none=>False
 |some d=>
   bif zK d then K (.agg (cs.extract off (off+P.cellsOf T)))
   else match aI T with
     | .one (.one l)=>Gz l fun v=>cs[off]? =some v∧K v
     |_=>False
def Qn (P:Program) (aI:TypeId→j9) (T:TypeId) (x i:Value) (K:Value→Prop):Prop:=
 match i with
 | .int _ n=>
   match P.underlying T with
   |some (.array len elem)=>match x with
       | .agg cs=>(0≤n∧n<(len:Int))∧Mc P aI elem cs (n.toNat*P.cellsOf elem) K
       |_=>False
   |some .string=>match x with
       | .string s=>0≤n∧∃b:UInt8,s.data.toList[n.toNat]? =some b∧K (.int .u8 b.toNat)
       |_=>False
   |_=>False
 |_=>False
def Qo (P:Program) (aI:TypeId→j9) (T:TypeId) (x:Value) (i:Nat) (K:Value→Prop):Prop:=
 match P.underlying T with
 |some (.struct fs)=>match fs[i]? with
   |some f=>match x with
     | .agg cs=>Mc P aI f.type cs f.offset K
     |_=>False
   |none=>False
 |_=>False
def x4 (v:Option Value) (y d:Nat) (K:Nat→Prop):Prop:=
 match v with
 |none=>K d
 |some (.int _ i)=>(0≤i∧i≤(y:Int))∧K i.toNat
 |_=>False
def bh (a:Option Addr) (sz l m:Nat):Option Addr:=if m=l then a else a.map (·.add (l*sz))
def Qp (P:Program) (T:TypeId) (x:Value) (lo hi wa:Option Value) (K:Value→Prop):Prop:=
 match P.underlying T with
 |some .string=>match wa,x with
   |none, .string s=>x4 hi s.size s.size fun h=>x4 lo h 0 fun l=>K (.string (s.extract l h))
   |_,_=>False
 |some (.slice elem)=>bif (P.underlying elem).isSome then
     match x with
     | .slice a len cap=>match wa with
       |none=>x4 hi cap len fun h=>x4 lo h 0 fun l=>K (.slice (bh a (P.cellsOf elem) l cap) (h-l) (cap-l))
       |some OV=>match hi with
         |none=>False
         |some oo=>x4 (some OV) cap 0 fun m=>x4 (some oo) m 0 fun h=>x4 lo h 0 fun l=>K (.slice (bh a (P.cellsOf elem) l m) (h-l) (m-l))
     |_=>False
   else False
 |some (.array n elem)=>bif (P.underlying elem).isSome then
     match wa,x with
     |none, .pointer (some A)=>x4 hi n n fun h=>x4 lo h 0 fun l=>K (.slice (bh (some A) (P.cellsOf elem) l n) (h-l) (n-l))
     |_,_=>False
   else False
 |_=>False
def Wd (P:Program) (T:TypeId) (l c:Value) (w:World) (K:Value→World→Prop):Prop:=
 match P.underlying T with
 |some (.slice elem)=>bif (P.underlying elem).isSome then
     bif ((P.info? elem).bind (·.zero)).isSome then
     match l,c with
     | .int _ n, .int _ m=>(0≤n∧n≤m∧m≤9223372036854775807∧(P.bytesOf elem:Int)*m≤140737488355328)∧
         K (.slice (some ⟨w.heap.size,0,none⟩) n.toNat m.toNat) {w with heap:=w.heap.push (.cells (pC P elem m.toNat) elem)}
     |_,_=>False
     else False
   else False
 |_=>False
section
variable {P:Program} {w:World}
theorem tV (o:Option TypeDesc) (h:o.isSome=true):∃d,o=some d:=Cf.1 h
theorem aeh {T:TypeId} {x:Value} {K:Value→Prop} (h:Ql P T x K):∃v,(∀w,(Instr.arrayAt T x).run P w= .ok v w)∧K v:=by
 unfold Ql at h
 split at h
 · rename_i n e bj
   split at h
   · rename_i a len cap
     obtain ⟨U,A,rfl,bu⟩:=h
     exact ⟨_,fun w=>by simp[Instr.arrayAt,gj bj,Nat.not_lt.2 U],bu⟩
   · exact h.elim
 · exact h.elim
theorem aei {T:TypeId} {x i:Value} {K:Value→Prop} (h:Qm P T x i K):∃v,(∀w,(Instr.indexAt T x i).run P w= .ok v w)∧K v:=by
 unfold Qm at h
 split at h
 · rename_i k n
   split at h
   · rename_i elem bj
     by_cases he:(P.underlying elem).isSome=true
     · rw[he] at h
       simp only[cond_true] at h
       split at h
       · obtain ⟨A,rfl,ab,bu⟩:=h
         obtain ⟨d,hd⟩:=tV _ he
         exact ⟨_,fun w=>by simp[Instr.indexAt,asIntOf,gj bj,ab,qE hd],bu⟩
       · exact h.elim
     · simp only[lS] at he;rw[he] at h;exact h.elim
   · rename_i len elem bj
     by_cases he:(P.underlying elem).isSome=true
     · rw[he] at h
       simp only[cond_true] at h
       split at h
       · obtain ⟨ab,bu⟩:=h
         obtain ⟨d,hd⟩:=tV _ he
         exact ⟨_,fun w=>by simp[Instr.indexAt,asIntOf,Instr.sureAddr,gj bj,ab,qE hd],bu⟩
       · exact h.elim
     · simp only[lS] at he;rw[he] at h;exact h.elim
   · exact h.elim
 · exact h.elim
theorem aej {aI:TypeId→j9} {T:TypeId} {cs:Array Value} {off:Nat} {K:Value→Prop} (h:Mc P aI T cs off K):∃v,(∀w,(part T cs off).run P w= .ok v w)∧K v:=by
 unfold Mc at h
 split at h
 · exact h.elim
 · rename_i d bj
   cases hd:zK d with
   |true=>
     rw[hd] at h
     exact ⟨_,fun w=>by simp[part,Qg bj,hd,qE bj],h⟩
   |false=>
     rw[hd] at h
     simp only[cond_false] at h
     split at h
     · obtain ⟨v,ak,bu⟩:=I4 h
       exact ⟨v,fun w=>by simp[part,Qg bj,hd,ak],bu⟩
     · exact h.elim
theorem aek {aI:TypeId→j9} {T:TypeId} {x i:Value} {K:Value→Prop} (h:Qn P aI T x i K):∃v,(∀w,(Instr.index T x i).run P w= .ok v w)∧K v:=by
 unfold Qn at h
 split at h
 · rename_i k n
   split at h
   · rename_i len elem bj
     split at h
     · obtain ⟨ab,h⟩:=h
       obtain ⟨v,ak,bu⟩:=aej h
       refine ⟨v,fun w=> ?_,bu⟩
       have aj:(Go.sizeOf elem).run P w= .ok (P.cellsOf elem) w:=by
         unfold Mc at h
         cases he:P.underlying elem with
         |none=>simp[he] at h
         |some d=>exact qE he
       simp[Instr.index,asIntOf,gj bj,ab,aj,ak]
     · exact h.elim
   · rename_i bj
     split at h
     · rename_i s
       obtain ⟨ab,b,aj,bu⟩:=h
       have mo:s[n.toNat]? =some b:=by
         obtain ⟨U,ad⟩:=qy.1 aj
         have au:n.toNat<s.size:=by simpa using U
         rw[getElem?_pos s n.toNat au]
         simp only[Option.some.injEq]
         rw[←ad]
         rfl
       exact ⟨_,fun w=>by simp[Instr.index,asIntOf,gj bj,ab,mo],bu⟩
     · exact h.elim
   · exact h.elim
 · exact h.elim
theorem ael {aI:TypeId→j9} {T:TypeId} {x:Value} {i:Nat} {K:Value→Prop} (h:Qo P aI T x i K):∃v,(∀w,(Instr.field T x i).run P w= .ok v w)∧K v:=by
 unfold Qo at h
 split at h
 · rename_i fs bj
   split at h
   · rename_i f aG
     split at h
     · obtain ⟨v,ak,bu⟩:=aej h
       exact ⟨v,fun w=>by simp[Instr.field,gj bj,aG,asAgg,ak],bu⟩
     · exact h.elim
   · exact h.elim
 · exact h.elim
theorem wb {v:Option Value} {y d:Nat} {c:BoundsCode} {K:Nat→Prop} (h:x4 v y d K):
   (v=none∧K d)∨∃u n,v=some u∧(∀w,(Instr.sliceBound u y c).run P w= .ok n w)∧K n:=by
 unfold x4 at h
 split at h
 · exact .inl ⟨rfl,h⟩
 · exact .inr ⟨_,_,rfl,fun w=>by simp[Instr.sliceBound,asIntOf,h.1],h.2⟩
 · exact h.elim
theorem aem {T:TypeId} {x:Value} {lo hi wa:Option Value} {K:Value→Prop} (h:Qp P T x lo hi wa K):
   ∃v,(∀w,(Instr.sliceAt T x lo hi wa).run P w= .ok v w)∧K v:=by
 unfold Qp at h
 split at h
 · rename_i bj
   split at h
   · rename_i s
     rcases wb (P:=P) (c:= .sliceAlen) h with ⟨a_,U⟩|⟨u,n,a_,aN,U⟩
     · rcases wb (P:=P) (c:= .sliceB) U with ⟨bw,ad⟩|⟨vD,db,bw,fS,ad⟩
       · exact ⟨_,fun w=>by simp[Instr.sliceAt,Instr.slice,gj bj,Instr.sliceBounds,a_,bw],ad⟩
       · exact ⟨_,fun w=>by simp[Instr.sliceAt,Instr.slice,gj bj,Instr.sliceBounds,a_,bw,fS],ad⟩
     · rcases wb (P:=P) (c:= .sliceB) U with ⟨bw,ad⟩|⟨vD,db,bw,fS,ad⟩
       · exact ⟨_,fun w=>by simp[Instr.sliceAt,Instr.slice,gj bj,Instr.sliceBounds,a_,bw,aN],ad⟩
       · exact ⟨_,fun w=>by simp[Instr.sliceAt,Instr.slice,gj bj,Instr.sliceBounds,a_,bw,aN,fS],ad⟩
   · exact h.elim
 · rename_i elem bj
   by_cases he:(P.underlying elem).isSome=true
   · rw[he] at h
     simp only[cond_true] at h
     obtain ⟨d,hd⟩:=tV _ he
     have dH:=fun w:World=>qE (w:=w) hd
     split at h
     · rename_i a len cap
       split at h
       · rcases wb (P:=P) (c:= .sliceAcap) h with ⟨a_,U⟩|⟨u,n,a_,aN,U⟩
         · rcases wb (P:=P) (c:= .sliceB) U with ⟨bw,ad⟩|⟨vD,db,bw,fS,ad⟩
           · exact ⟨_,fun w=>by simp[Instr.sliceAt,Instr.slice,gj bj,Instr.sliceBounds,dH,bh,a_,bw],ad⟩
           · exact ⟨_,fun w=>by simp[Instr.sliceAt,Instr.slice,gj bj,Instr.sliceBounds,fS,dH,bh,a_,bw],ad⟩
         · rcases wb (P:=P) (c:= .sliceB) U with ⟨bw,ad⟩|⟨vD,db,bw,fS,ad⟩
           · exact ⟨_,fun w=>by simp[Instr.sliceAt,Instr.slice,gj bj,Instr.sliceBounds,aN,dH,bh,a_,bw],ad⟩
           · exact ⟨_,fun w=>by simp[Instr.sliceAt,Instr.slice,gj bj,Instr.sliceBounds,aN,fS,dH,bh,a_,bw],ad⟩
       · split at h
         · exact h.elim
         · rcases wb (P:=P) (c:= .slice3Acap) h with ⟨gY,U⟩|⟨u,n,gY,aN,U⟩
           · cases gY
           · cases gY
             rcases wb (P:=P) (c:= .slice3B) U with ⟨gY,ad⟩|⟨abr,dt,gY,lf,ad⟩
             · cases gY
             · cases gY
               rcases wb (P:=P) (c:= .slice3C) ad with ⟨bw,au⟩|⟨vD,db,bw,fS,au⟩
               · exact ⟨_,fun w=>by simp[Instr.sliceAt,Instr.slice,gj bj,Instr.sliceBounds,aN,lf,dH,bh,bw],au⟩
               · exact ⟨_,fun w=>by simp[Instr.sliceAt,Instr.slice,gj bj,Instr.sliceBounds,aN,lf,fS,dH,bh,bw],au⟩
     · exact h.elim
   · simp only[lS] at he;rw[he] at h;exact h.elim
 · rename_i n elem bj
   by_cases he:(P.underlying elem).isSome=true
   · rw[he] at h
     simp only[cond_true] at h
     obtain ⟨d,hd⟩:=tV _ he
     have dH:=fun w:World=>qE (w:=w) hd
     split at h
     · rename_i A
       rcases wb (P:=P) (c:= .sliceAlen) h with ⟨a_,U⟩|⟨u,dt,a_,aN,U⟩
       · rcases wb (P:=P) (c:= .sliceB) U with ⟨bw,ad⟩|⟨vD,db,bw,fS,ad⟩
         · refine ⟨_,fun w=> ?_,ad⟩
           simp[Instr.sliceAt,gj bj,Instr.sureAddr,Instr.sliceBounds,dH,bh,a_,bw];try (split<;>rfl)
         · refine ⟨_,fun w=> ?_,ad⟩
           simp[Instr.sliceAt,gj bj,Instr.sureAddr,Instr.sliceBounds,fS,dH,bh,a_,bw];try (split<;>rfl)
       · rcases wb (P:=P) (c:= .sliceB) U with ⟨bw,ad⟩|⟨vD,db,bw,fS,ad⟩
         · refine ⟨_,fun w=> ?_,ad⟩
           simp[Instr.sliceAt,gj bj,Instr.sureAddr,Instr.sliceBounds,aN,dH,bh,a_,bw];try (split<;>rfl)
         · refine ⟨_,fun w=> ?_,ad⟩
           simp[Instr.sliceAt,gj bj,Instr.sureAddr,Instr.sliceBounds,aN,fS,dH,bh,a_,bw];try (split<;>rfl)
     · exact h.elim
   · simp only[lS] at he;rw[he] at h;exact h.elim
 · exact h.elim
theorem We {n:Int} (b7:0≤n) (U:n≤9223372036854775807):IntKind.i64.wrap n=n:=by
 have e:n%18446744073709551616=n:=Int.emod_eq_of_lt b7 (by omega)
 simp[IntKind.wrap,IntKind.signed,IntKind.bits,e]
 omega
theorem asO {T:TypeId} {l c:Value} {K:Value→World→Prop} (h:Wd P T l c w K):
   ∃v w',(Instr.makeSlice T l c).run P w= .ok v w'∧K v w':=by
 unfold Wd at h
 split at h
 · rename_i elem bj
   by_cases he:(P.underlying elem).isSome=true
   · rw[he] at h
     simp only[cond_true] at h
     by_cases bO:((P.info? elem).bind (·.zero)).isSome=true
     · rw[bO] at h
       simp only[cond_true] at h
       split at h
       · rename_i k n lL m
         obtain ⟨⟨b7,U,ad,au⟩,bu⟩:=h
         obtain ⟨d,hd⟩:=tV _ he
         obtain ⟨i,hi⟩:=info_of_underlying hd
         obtain ⟨z,Ic⟩:=Cf.1 bO
         simp only[hi,Option.bind_some] at Ic
         have ab:P.bytesOf elem=i.bytes:=by simp[Program.bytesOf,hi]
         have al:P.cellsOf elem=i.size:=by simp[Program.cellsOf,hi]
         rw[ab] at au
         have a_:=We b7 (by omega)
         have bw:=We (n:=m) (by omega) ad
         refine ⟨_,_,?_,bu⟩
         have aC:¬(m<0):=by omega
         have nk:¬(281474976710656<(i.bytes:Int)*m):=by omega
         simp[Instr.makeSlice,gj bj,asInt,asIntOf,C0 hi,a_,bw,aC,nk,qE hd,show¬n<0 by omega,show¬m<n by omega]
         by_cases aj:m.toNat*P.cellsOf elem=0
         · simp[aj,newRow,newObj,Sem.run,pC]
         · simp[zeroValue,C0 hi,Ic,newRow,newObj,Sem.run,pC,aj,hi]
       · exact h.elim
     · simp only[lS] at bO;rw[bO] at h;exact h.elim
   · simp only[lS] at he;rw[he] at h;exact h.elim
 · exact h.elim
end
def ay (w:World) (K:World→Prop):Prop:=K w
def Tb (s:ByteArray) (n:Nat):Option UInt8:=s.data.toList[n]?
def tP (k:IntKind) (a b:Int):Int:=k.wrap ((BitVec.ofInt k.bits a&&&BitVec.ofInt k.bits b).toNat:Int)
def Co (k:IntKind) (a b:Int):Int:=k.wrap ((BitVec.ofInt k.bits a|||BitVec.ofInt k.bits b).toNat:Int)
def E9 (k:IntKind) (a b:Int):Int:=k.wrap ((BitVec.ofInt k.bits a^^^BitVec.ofInt k.bits b).toNat:Int)
def ZZ (k:IntKind) (a b:Int):Int:=k.wrap ((BitVec.ofInt k.bits a&&&~~~BitVec.ofInt k.bits b).toNat:Int)
def Md (P:Program) (o:Oper) (K:Value→World→Prop) (e:Env) (w:World):Prop:=
 bif known e o.op.operands then
   match (execOp (ro e) o).run P w with
   | .ok (.value v) w'=>ay w' fun ag=>K v ag
   |_=>False
 else False
def aen (P:Program) (aI:TypeId→j9) (T:TypeId):j9:=
 match P.underlying T with
 |some (.slice e)=>aI e
 |_=> .one (.one .agg)
def j8.asP:j8→Bool
 | .slice=>true
 |_=>false
def aeo:j9→Bool
 | .one (.one .agg)=>true
 | .one (.flat ls)=>ls.any j8.asP
 |_=>false
def gen (P:Program) (aI:TypeId→j9) (o:Oper) (K:Value→World→Prop) (e:Env) (w:World):Prop:=
 bif known e o.op.operands then
   match (execOp (ro e) o).run P w with
   | .ok (.value v) w'=>K v w'
   | .ok .skip w'=>K undef w'
   | .ok (.enter f args) w'=>Calls P f args w' fun yE iI=>qs (aI o.type) fun v=>yE= .returned v∧K v iI
   |_=>False
 else False
def tR (P:Program) (f:FuncId):Prop:=∃fn,P.funcs[f]? =some fn∧(fn.name== "runtime.NumGoroutine")=false∧fn.body.isNone=false
theorem aep {P:Program} {f:FuncId} (h:tR P f) (args:Array Value) (w:World):(callFunc f args).run P w= .ok (.enter f args) w:=by
 obtain ⟨fn,U,ad,au⟩:=h
 have Fs:¬fn.name= "runtime.NumGoroutine" :=by simpa using ad
 have Wf:¬fn.body=none:=by
   intro h;rw[h] at au;cases au
 simp[callFunc,program,Sem.run,bind,Sem.bind,U,Fs,Wf,pure]
def Wg:Op→Bool
 | .select _ _=>true
 |_=>false
def aeq (P:Program) (T:TypeId):Operand→Bool
 | .const _=>false
 |_=>GC (P.underlying T)||BU (P.underlying T)
def asQ (P:Program) (op:BinOp) (T:TypeId) (Mb I8:Operand) (x y:Value) (b:Bool):Prop:=
 ∀w,Sem.run P (do eqGuard op T Mb I8 x y;binOp op T x y:Sem Value) w= .ok (.bool b) w
def I9:Operand→Value→Bool
 | .const _,_=>true
 |_, .nilIface=>false
 |_,_=>true
def tC (P:Program) (aI:TypeId→j9) (o:Oper) (K:Value→World→Prop) (e:Env) (w:World):Prop:=
 match o.op with
 | .nilCheck x=>match bC e x with
   |some (.pointer p)=>∃A,p=some A∧K (.pointer (some A)) w
   |_=>False
 | .load T x=>match bC e x with
   |some (.pointer (some A))=>I5 P aI T A w fun v=>K v w
   |_=>False
 | .store T x y=>match bC e x,bC e y with
   |some (.pointer (some A)),some v=>Wc P aI T A v w fun w'=>ay w' fun ag=>K undef ag
   |_,_=>False
 | .binOp op T x y _=>match bC e x,bC e y with
   |some fX,some wc=>bif aeq P T y then (∃b:Bool,asQ P op T x y fX wc b∧K (.bool b) w) else
       bif I9 y wc then Qi P op T fX wc (fun v=>K v w) (gen P aI o K e w) else False
   |_,_=>False
 | .indexAddr T x i=>match bC e x,bC e i with
   |some fX,some po=>Qm P T fX po fun v=>K v w
   |_,_=>False
 | .index T x i=>match bC e x,bC e i with
   |some fX,some po=>Qn P aI T fX po fun v=>K v w
   |_,_=>False
 | .field T x i=>match bC e x with
   |some fX=>Qo P aI T fX i fun v=>K v w
   |_=>False
 | .alloc _=>Md P o K e w
 | .box _ _=>Md P o K e w
 | .buildSlice T n ps=>bif aeo (aen P aI T) then
     (bif known e o.op.operands then
       qs (aI o.type) fun r=>∃ag,(Instr.buildSlice T n (ps.map fun p=>(p.1,ro e p.2))).run P w= .ok r ag∧K r ag
     else False)
   else Md P o K e w
 | .slice T x lo hi wa=>bif known e o.op.operands then
     Qp P T (ro e x) (lo.map (ro e)) (hi.map (ro e)) (wa.map (ro e)) fun v=>K v w
   else False
 | .makeSlice T l c=>match bC e l,bC e c with
   |some aer,some CH=>Wd P T aer CH w fun v w'=>ay w' fun ag=>K v ag
   |_,_=>False
 | .convert s d x=>match bC e x with
   |some (.int j n)=>bif (P.underlying s).isSome then
       match P.underlying d with
       |some (.int k)=>K (.int k (k.wrap n)) w
       |_=>qs (aI o.type) fun r=>∃ag,(convert s d (.int j n)).run P w= .ok r ag∧K r ag
     else False
   |some v=>qs (aI o.type) fun r=>∃ag,(convert s d v).run P w= .ok r ag∧K r ag
   |none=>False
 | .build t ps=>match aI t with
   | .one (.flat _)=>gen P aI o K e w
   |_=>bif known e o.op.operands then
       ∃cs:Array Value,(Instr.build t (ps.map fun p=>(p.1,ro e p.2))).run P w= .ok (.agg cs) w∧K (.agg cs) w
     else False
 | .lookup T m i ok=>match bC e m,bC e i with
   |some sD,some po=>qs (aI o.type) fun r=>∃ag,(Instr.lookup T sD po ok).run P w= .ok r ag∧K r ag
   |_,_=>False
 | .mapUpdate T m i x=>match bC e m,bC e i,bC e x with
   |some sD,some po,some fX=>∃ag,(Instr.mapUpdate T sD po fX).run P w= .ok () ag∧K undef ag
   |_,_,_=>False
 | .makeMap T r=>bif known e o.op.operands then qs (aI o.type) fun v=>∃ag,(Instr.makeMap T (r.map (ro e))).run P w= .ok v ag∧K v ag else False
 | .range T x=>match bC e x with
   |some fX=>∃v ag,(Instr.range T fX).run P w= .ok v ag∧K v ag
   |_=>False
 | .next it I_=>match bC e it with
   |some fX=>(bif I_ then ∃ (n:Int) (c:Int) (ag:World),(Instr.next fX I_ o.type).run P w= .ok (.tuple #[.bool true, .int .i64 n, .int .i32 c]) ag∧K (.tuple #[.bool true, .int .i64 n, .int .i32 c]) ag
       else ∃ (k:Value) (v:Value) (ag:World),(Instr.next fX I_ o.type).run P w= .ok (.tuple #[.bool true,k,v]) ag∧K (.tuple #[.bool true,k,v]) ag)∨
       (∃ag:World,(Instr.next fX I_ o.type).run P w= .ok (.tuple #[.bool false]) ag∧K (.tuple #[.bool false]) ag)
   |_=>False
 | .call c=>match c.callee with
   | .value (.tmp k)=>match e.get k with
     |some (.func (.func f) pre cap)=>bif known e o.op.operands then
         tR P f∧Calls P f (pre++c.args.map (ro e)++cap) w fun yE ag=>qs (aI o.type) fun v=>yE= .returned v∧K v ag
       else False
     |_=>gen P aI o K e w
   | .builtin .append=>bif known e o.op.operands then qs (aI o.type) fun r=>∃ag,(Builtin.append_ c.argTypes o.type (c.args.map (ro e))).run P w= .ok r ag∧K r ag else False
   | .builtin .copy=>bif known e o.op.operands then qs (aI o.type) fun r=>∃ag,(Builtin.copy_ c.argTypes o.type (c.args.map (ro e))).run P w= .ok r ag∧K r ag else False
   | .builtin .min=>bif known e o.op.operands then qs (aI o.type) fun r=>∃ag,(Builtin.min_ c.argTypes o.type (c.args.map (ro e))).run P w= .ok r ag∧K r ag else False
   | .builtin .max=>bif known e o.op.operands then qs (aI o.type) fun r=>∃ag,(Builtin.max_ c.argTypes o.type (c.args.map (ro e))).run P w= .ok r ag∧K r ag else False
   | .builtin .delete=>bif known e o.op.operands then ∃r ag,(Builtin.delete_ c.argTypes o.type (c.args.map (ro e))).run P w= .ok r ag∧K r ag else False
   | .value (.func f)=>match P.funcs[f]? with
     |some fn=>match fn.body with
       |some _=>gen P aI o K e w
       |none=>bif known e o.op.operands then qs (aI o.type) fun r=>∃ag,(callFunc f (c.args.map (ro e))).run P w= .ok (.value r) ag∧K r ag else False
     |none=>False
   | .builtin .unsafeString=>bif known e o.op.operands then qs (aI o.type) fun r=>∃ag,(Builtin.unsafeString_ c.argTypes o.type (c.args.map (ro e))).run P w= .ok r ag∧K r ag else False
   | .builtin .unsafeSliceData=>bif known e o.op.operands then qs (aI o.type) fun r=>∃ag,(Builtin.unsafeSliceData_ c.argTypes o.type (c.args.map (ro e))).run P w= .ok r ag∧K r ag else False
   | .builtin .clear=>bif known e o.op.operands then ∃r ag,(Builtin.clear_ c.argTypes o.type (c.args.map (ro e))).run P w= .ok r ag∧K r ag else False
   | .builtin .len=>match ((c.args.map (ro e))[0]? :Option Value) with
     |some (Value.map _)=>bif known e o.op.operands then qs (aI o.type) fun r=>∃ag,(Builtin.len_ c.argTypes o.type (c.args.map (ro e))).run P w= .ok r ag∧K r ag else False
     |_=>gen P aI o K e w
   |_=>gen P aI o K e w
 | .sliceToArrayPointer T x=>match bC e x with
   |some fX=>Ql P T fX fun v=>K v w
   |_=>False
 | .mapEntry T m i=>match bC e m,bC e i with
   |some sD,some po=>∃ (v0:Value) (st:Int) (ag:World),(Instr.mapEntry T sD po).run P w= .ok (.tuple #[v0, .int .i64 st]) ag∧K (.tuple #[v0, .int .i64 st]) ag
   |_,_=>False
 | .entryStore T m s x=>match bC e m,bC e s,bC e x with
   |some sD,some vs,some fX=>∃ag,(Instr.entryStore T sD vs fX).run P w= .ok () ag∧K undef ag
   |_,_,_=>False
 | .entry it=>match bC e it with
   |some fX=>qs (aI o.type) fun v=>∃ag,(Instr.entry fX).run P w= .ok v ag∧K v ag
   |_=>False
 | .select _ _=>False
 |_=>gen P aI o K e w
def BV (P:Program) (o:Oper) (a:Act) (w:World) (K:Value→World→Prop):Prop:=
 (∃v w',(execOp a.eval o).run P w= .ok (.value v) w'∧K v w')∨
 (∃w',(execOp a.eval o).run P w= .ok .skip w'∧K undef w')∨
 (∃f args w',(execOp a.eval o).run P w= .ok (.enter f args) w'∧Calls P f args w' fun yE iI=>∃v,yE= .returned v∧K v iI)
theorem BV.wp {P:Program} {o:Oper} {a:Act} {w:World} {K:Value→World→Prop} {next:Act→World→Prop} {Q:Exit→Act→World→Prop}
   (h:BV P o a w K) (aC:∀v w',K v w'→next (a.put o.dst v) w'):o.wp P a w next Q:=by
 unfold Oper.wp
 rcases h with ⟨v,w',h,bu⟩|⟨w',h,bu⟩|⟨f,args,w',h,al⟩
 · rw[h];exact aC _ _ bu
 · rw[h];exact aC _ _ bu
 · rw[h]
   exact al.mono fun yE iI ⟨v,ak,bu⟩=>by subst ak;exact aC _ _ bu
section
variable {P:Program} {aI:TypeId→j9} {o:Oper} {K:Value→World→Prop} {e:Env} {a:Act} {w:World}
theorem asR (ax:gq e a) {xs:Array Operand} (h:known e xs=true):∀x∈xs,a.eval x=ro e x:=by
 intro x af
 exact ax.ro (G4.1 h x (by simpa using af))
theorem we (ax:gq e a) (aj:Wg o.op=false) (h:known e o.op.operands=true):execOp a.eval o=execOp (ro e) o:=
 execOp_congr o (fun cs b al=>by rw[al] at aj;cases aj) (asR ax h)
theorem GD (ax:gq e a) (aj:Wg o.op=false) (h:gen P aI o K e w):BV P o a w K:=by
 unfold gen at h
 by_cases ae:known e o.op.operands=true
 · rw[ae] at h
   simp only[cond_true] at h
   have al:=we ax aj ae
   unfold BV
   rw[al]
   split at h
   · rename_i v w' aN
     exact .inl ⟨v,w',aN,h⟩
   · rename_i w' aN
     exact .inr (.inl ⟨w',aN,h⟩)
   · rename_i f args w' aN
     refine .inr (.inr ⟨f,args,w',aN,h.mono fun yE iI asS=> ?_⟩)
     exact rf asS
   · exact h.elim
 · simp only[lS] at ae
   rw[ae] at h
   exact h.elim
theorem Wh (ax:gq e a) (aj:Wg o.op=false) (h:Md P o K e w):BV P o a w K:=by
 unfold Md at h
 by_cases ae:known e o.op.operands=true
 · rw[ae] at h
   simp only[cond_true] at h
   have al:=we ax aj ae
   unfold BV
   rw[al]
   split at h
   · rename_i v w' aN
     exact .inl ⟨v,w',aN,h⟩
   · exact h.elim
 · simp only[lS] at ae
   rw[ae] at h
   exact h.elim
theorem Wi:∀ {ls:List j8} {A:Addr} {i:Nat} {K:List Value→Prop},Wb ls A i w K→∃vs,eK w A i ls.length=some vs∧K vs
 | [],_,_,_,h=>⟨[],rfl,h⟩
 |l::ls,A,i,K,h=>by
   obtain ⟨v,ak,h⟩:=I4 h
   obtain ⟨vs,kz,h⟩:=Wi h
   exact ⟨v::vs,by simp[eK,ak,kz],h⟩
theorem aes {T:TypeId} {A:Addr} {K:Value→Prop} (h:I5 P aI T A w K):∃v,(Instr.loadAt T (.pointer (some A))).run P w= .ok v w∧K v:=by
 have a_:(Instr.loadAt T (.pointer (some A))).run P w=(loadVar T A).run P w:=by simp[Instr.loadAt,Instr.sureAddr]
 rw[a_]
 unfold I5 at h
 split at h
 · exact h.elim
 · rename_i d bj
   cases hd:zK d with
   |true=>
     rw[hd] at h
     simp only[cond_true] at h
     split at h
     · rename_i ls _
       by_cases ab:Nat.beq (P.cellsOf T) ls.length=true
       · rw[ab] at h
         simp only[cond_true] at h
         obtain ⟨vs,kz,h⟩:=Wi h
         rw[←qA ab] at kz
         exact ⟨_,Qh bj hd kz,h⟩
       · simp only[lS] at ab;rw[ab] at h;exact h.elim
     · obtain ⟨cs,al,h⟩:=h
       exact ⟨_,Qh bj hd al,h⟩
   |false=>
     rw[hd] at h
     simp only[cond_false] at h
     split at h
     · obtain ⟨v,ak,h⟩:=I4 h
       exact ⟨v,ad_ bj hd ak,h⟩
     · exact h.elim
theorem Wj {v:Value} (h:Plain v):v.cells= #[v]:=by cases v<;>first|rfl|exact h.elim
theorem add_zero' (A:Addr):A.add 0=A:=rfl
theorem asT {T:TypeId} {A:Addr} {x:Value} {K:World→Prop} (h:Wc P aI T A x w K):
   ∃w',(Instr.storeAt T (.pointer (some A)) x).run P w= .ok () w'∧K w':=by
 have a_:(Instr.storeAt T (.pointer (some A)) x).run P w=(storeVar T A x).run P w:=by simp[Instr.storeAt,Instr.sureAddr]
 rw[a_]
 unfold Wc at h
 split at h
 · exact h.elim
 · rename_i d bj
   cases hd:zK d with
   |true=>
     rw[hd] at h
     simp only[cond_true] at h
     split at h
     · rename_i cs
       exact ⟨_,aea (v:= .agg cs) bj h.2.1 h.1,h.2.2⟩
     · exact h.elim
   |false=>
     rw[hd] at h
     simp only[cond_false] at h
     have one:∀ (aW:Plain x) (ab:Nat.beq (P.cellsOf T) 1=true),((∃u,w.cell? A=some u)∧w.frozen? A=false∧K (w.setCell A x))→∃w',(storeVar T A x).run P w= .ok () w'∧K w':=by
       intro aW ab ⟨⟨u,hu⟩,aG,bu⟩
       refine ⟨_,aea (v:=x) bj ?_ ?_,?_⟩
       · rw[Wj aW,qA ab];rfl
       · rw[Wj aW]
         refine ⟨fun i hi=> ?_,fun v ak=> ?_⟩
         · have:i=0:=by simpa using hi
           subst this
           rw[add_zero',hu]
           exact ⟨rfl,aG⟩
         · have:v=x:=by simpa using ak
           subst this;exact aW
       · rw[Wj aW]
         exact bu
     by_cases ab:Nat.beq (P.cellsOf T) 1=true
     · have kx:=ab
       rw[ab] at h
       simp only[cond_true] at h
       split at h
       · exact one h.1 kx h.2
       · split at h
         · exact h.elim
         · exact h.elim
         · rename_i U ad
           refine one ?_ kx h
           cases x<;>first|exact trivial|(exact absurd rfl (U _))|(exact absurd rfl (ad _))
     · simp only[lS] at ab;rw[ab] at h;exact h.elim
theorem Qq (ax:gq e a) (h:tC P aI o K e w):BV P o a w K:=by
 unfold tC at h
 split at h
 case h_1 x cc=>
   split at h
   · rename_i p af
     obtain ⟨A,rfl,bu⟩:=h
     exact .inl ⟨_,_,by simp[execOp,cc,ax.bC af],bu⟩
   · exact h.elim
 case h_2 T x cc=>
   split at h
   · rename_i A af
     obtain ⟨v,ak,bu⟩:=aes h
     exact .inl ⟨v,w,by simp[execOp,cc,ax.bC af,ak],bu⟩
   · exact h.elim
 case h_3 T x y cc=>
   split at h
   · rename_i A v af b8
     obtain ⟨w',hw,bu⟩:=asT h
     exact .inr (.inl ⟨w',by simp[execOp,cc,ax.bC af,ax.bC b8,hw],bu⟩)
   · exact h.elim
 case h_4 op T x y aet cc=>
   split at h
   · rename_i fX wc af b8
     by_cases bE:aeq P T y=true
     · rw[bE] at h
       simp only[cond_true] at h
       obtain ⟨b,ab,bu⟩:=h
       exact .inl ⟨_,w,by
         simp only[execOp,cc,ax.bC af,ax.bC b8]
         have qO:=ab w
         simp only[Sem.run_bind] at qO⊢
         rw[qO];rfl,bu⟩
     simp only[lS] at bE
     rw[bE] at h
     simp only[cond_false] at h
     by_cases aC:I9 y wc=true
     · rw[aC] at h
       simp only[cond_true] at h
       have L0:wc= .nilIface→∃c,y= .const c:=by
         intro ak
         subst ak
         cases y<;>simp[I9] at aC⊢
       rcases aeg (Mb:=x) (I8:=y) L0 h with bg|⟨v,ak,bu⟩
       · exact GD ax (by rw[cc];rfl) bg
       · exact .inl ⟨v,w,by
           simp only[execOp,cc,ax.bC af,ax.bC b8]
           have qO:=ak w
           simp only[Sem.run_bind] at qO⊢
           rw[qO];rfl,bu⟩
     · simp only[lS] at aC;rw[aC] at h;exact h.elim
   · exact h.elim
 case h_5 T x i cc=>
   split at h
   · rename_i fX po af hi
     obtain ⟨v,ak,bu⟩:=aei h
     exact .inl ⟨v,w,by simp[execOp,cc,ax.bC af,ax.bC hi,ak],bu⟩
   · exact h.elim
 case h_6 T x i cc=>
   split at h
   · rename_i fX po af hi
     obtain ⟨v,ak,bu⟩:=aek h
     exact .inl ⟨v,w,by simp[execOp,cc,ax.bC af,ax.bC hi,ak],bu⟩
   · exact h.elim
 case h_7 T x i cc=>
   split at h
   · rename_i fX af
     obtain ⟨v,ak,bu⟩:=ael h
     exact .inl ⟨v,w,by simp[execOp,cc,ax.bC af,ak],bu⟩
   · exact h.elim
 case h_8 T cc=>exact Wh ax (by rw[cc];rfl) h
 case h_9 T x cc=>exact Wh ax (by rw[cc];rfl) h
 case h_10 T n ps cc=>
   cases J:aeo (aen P aI T) with
   |true=>
     rw[J] at h
     simp only[cond_true] at h
     by_cases ae:known e o.op.operands=true
     · rw[ae] at h
       simp only[cond_true] at h
       have al:=we ax (by rw[cc];rfl) ae
       obtain ⟨r,ag,aN,bu⟩:=rf h
       exact .inl ⟨r,ag,by rw[al];simp[execOp,cc];rw[aN];rfl,bu⟩
     · simp only[lS] at ae;rw[ae] at h;exact h.elim
   |false=>
     rw[J] at h
     exact Wh ax (by rw[cc];rfl) h
 case h_11 T x lo hi wa cc=>
   by_cases ae:known e o.op.operands=true
   · rw[ae] at h
     simp only[cond_true] at h
     have al:=we ax (by rw[cc];rfl) ae
     obtain ⟨v,ak,bu⟩:=aem h
     exact .inl ⟨v,w,by rw[al];simp[execOp,cc,ak],bu⟩
   · simp only[lS] at ae;rw[ae] at h;exact h.elim
 case h_12 T l c cc=>
   split at h
   · rename_i aer CH az al
     obtain ⟨v,w',ak,bu⟩:=asO h
     exact .inl ⟨v,w',by simp[execOp,cc,ax.bC az,ax.bC al,ak],bu⟩
   · exact h.elim
 case h_13 s d x cc=>
   split at h
   · rename_i k n af
     by_cases aj:(P.underlying s).isSome=true
     · rw[aj] at h
       simp only[cond_true] at h
       obtain ⟨ds,ra⟩:=tV _ aj
       split at h
       · rename_i lL hd
         exact .inl ⟨_,_,by simp[execOp,cc,ax.bC af,convert,gj ra,gj hd,Conv.intToInt],h⟩
       · obtain ⟨r,ag,aN,bu⟩:=rf h
         exact .inl ⟨r,ag,by simp[execOp,cc,ax.bC af,aN],bu⟩
     · simp only[lS] at aj;rw[aj] at h;exact h.elim
   · rename_i v _ af
     obtain ⟨r,ag,aN,bu⟩:=rf h
     exact .inl ⟨r,ag,by simp[execOp,cc,ax.bC af,aN],bu⟩
   · exact h.elim
 case h_14 t ps cc=>
   split at h
   · exact GD ax (by rw[cc];rfl) h
   · by_cases ae:known e o.op.operands=true
     · rw[ae] at h
       simp only[cond_true] at h
       have al:=we ax (by rw[cc];rfl) ae
       obtain ⟨cs,aN,bu⟩:=h
       exact .inl ⟨_,_,by rw[al];simp[execOp,cc];rw[aN];rfl,bu⟩
     · simp only[lS] at ae;rw[ae] at h;exact h.elim
 case h_15 T m i ok cc=>
   split at h
   · rename_i sD po hm hi
     obtain ⟨r,ag,aN,bu⟩:=rf h
     exact .inl ⟨r,ag,by simp[execOp,cc,ax.bC hm,ax.bC hi,aN],bu⟩
   · exact h.elim
 case h_16 T m i x cc=>
   split at h
   · rename_i sD po fX hm hi af
     obtain ⟨ag,aN,bu⟩:=h
     exact .inr (.inl ⟨ag,by simp[execOp,cc,ax.bC hm,ax.bC hi,ax.bC af,aN],bu⟩)
   · exact h.elim
 case h_17 T r cc=>
   by_cases ae:known e o.op.operands=true
   · rw[ae] at h
     simp only[cond_true] at h
     have al:=we ax (by rw[cc];rfl) ae
     obtain ⟨v,ag,aN,bu⟩:=rf h
     exact .inl ⟨v,ag,by rw[al];simp[execOp,cc,aN],bu⟩
   · simp only[lS] at ae;rw[ae] at h;exact h.elim
 case h_18 T x cc=>
   split at h
   · rename_i fX af
     obtain ⟨v,ag,aN,bu⟩:=h
     exact .inl ⟨v,ag,by simp[execOp,cc,ax.bC af,aN],bu⟩
   · exact h.elim
 case h_19 it I_ cc=>
   split at h
   · rename_i fX af
     rcases h with h|⟨ag,aN,bu⟩
     · cases I_ with
       |true=>
         obtain ⟨n,c,ag,aN,bu⟩:=h
         exact .inl ⟨_,ag,by simp[execOp,cc,ax.bC af,aN],bu⟩
       |false=>
         obtain ⟨k,v,ag,aN,bu⟩:=h
         exact .inl ⟨_,ag,by simp[execOp,cc,ax.bC af,aN],bu⟩
     · exact .inl ⟨_,ag,by simp[execOp,cc,ax.bC af,aN],bu⟩
   · exact h.elim
 case h_20 c cc=>
   have bi:∀ (b:Builtin) (r:Value) (ag:World),c.callee= .builtin b→known e o.op.operands=true→
       (∀cs,(Go.builtin b c.argTypes o.type cs (c.args.map (ro e))).run P w= .ok (.value r) ag)→K r ag→BV P o a w K:=by
     intro b r ag ab ae aN bu
     have al:=we ax (by rw[cc];rfl) ae
     exact .inl ⟨r,ag,by rw[al];simp[execOp,cc,resolve,ab,invoke,aN],bu⟩
   have x5:∀ {X:Prop},(bif known e o.op.operands then X else False)→known e o.op.operands=true∧X:=by
     intro X ee
     by_cases ae:known e o.op.operands=true
     · rw[ae] at ee;exact ⟨ae,ee⟩
     · simp only[lS] at ae;rw[ae] at ee;exact ee.elim
   split at h
   · rename_i k ab
     split at h
     · rename_i f pre cap bg
       obtain ⟨ae,vc,h⟩:=x5 h
       have al:=we ax (by rw[cc];rfl) ae
       refine .inr (.inr ⟨f,pre++c.args.map (ro e)++cap,w,?_,h.mono fun yE ag U=> ?_⟩)
       · have Wk:ro e (.tmp k)= .func (.func f) pre cap:=by simp[ro,bC,bg]
         rw[al]
         simp[execOp,cc,resolve,ab,Wk,Deferred.ofValue,invoke,aep vc]
       · obtain ⟨v,ak,bu⟩:=rf U
         exact ⟨v,ak,bu⟩
     · exact GD ax (by rw[cc];rfl) h
   · rename_i ab
     obtain ⟨ae,h⟩:=x5 h
     obtain ⟨r,ag,aN,bu⟩:=rf h
     exact bi _ r ag ab ae (fun _=>by simp[Go.builtin,aN]) bu
   · rename_i ab
     obtain ⟨ae,h⟩:=x5 h
     obtain ⟨r,ag,aN,bu⟩:=rf h
     exact bi _ r ag ab ae (fun _=>by simp[Go.builtin,aN]) bu
   · rename_i ab
     obtain ⟨ae,h⟩:=x5 h
     obtain ⟨r,ag,aN,bu⟩:=rf h
     exact bi _ r ag ab ae (fun _=>by simp[Go.builtin,aN]) bu
   · rename_i ab
     obtain ⟨ae,h⟩:=x5 h
     obtain ⟨r,ag,aN,bu⟩:=rf h
     exact bi _ r ag ab ae (fun _=>by simp[Go.builtin,aN]) bu
   · rename_i ab
     obtain ⟨ae,r,ag,aN,bu⟩:=x5 h
     exact bi _ r ag ab ae (fun _=>by simp[Go.builtin,aN]) bu
   · rename_i f ab
     split at h
     · rename_i fn Db
       split at h
       · exact GD ax (by rw[cc];rfl) h
       · obtain ⟨ae,h⟩:=x5 h
         obtain ⟨r,ag,aN,bu⟩:=rf h
         have al:=we ax (by rw[cc];rfl) ae
         refine .inl ⟨r,ag,?_,bu⟩
         rw[al]
         have Wk:ro e (.func f)= .func (.func f) #[] #[]:=by simp[ro,bC]
         simp[execOp,cc,resolve,ab,Wk,Deferred.ofValue,invoke,aN]
     · exact h.elim
   · rename_i ab
     obtain ⟨ae,h⟩:=x5 h
     obtain ⟨r,ag,aN,bu⟩:=rf h
     exact bi _ r ag ab ae (fun _=>by simp[Go.builtin,aN]) bu
   · rename_i ab
     obtain ⟨ae,h⟩:=x5 h
     obtain ⟨r,ag,aN,bu⟩:=rf h
     exact bi _ r ag ab ae (fun _=>by simp[Go.builtin,aN]) bu
   · rename_i ab
     obtain ⟨ae,r,ag,aN,bu⟩:=x5 h
     exact bi _ r ag ab ae (fun _=>by simp[Go.builtin,aN]) bu
   · rename_i ab
     split at h
     · obtain ⟨ae,h⟩:=x5 h
       obtain ⟨r,ag,aN,bu⟩:=rf h
       exact bi _ r ag ab ae (fun _=>by simp[Go.builtin,aN]) bu
     · exact GD ax (by rw[cc];rfl) h
   · exact GD ax (by rw[cc];rfl) h
 case h_21 T x cc=>
   split at h
   · rename_i fX af
     obtain ⟨v,ak,bu⟩:=aeh h
     exact .inl ⟨v,w,by simp[execOp,cc,ax.bC af,ak],bu⟩
   · exact h.elim
 case h_22 T m i cc=>
   split at h
   · rename_i sD po hm hi
     obtain ⟨v0,st,ag,aN,bu⟩:=h
     exact .inl ⟨_,ag,by simp[execOp,cc,ax.bC hm,ax.bC hi,aN],bu⟩
   · exact h.elim
 case h_23 T m s x cc=>
   split at h
   · rename_i sD vs fX hm aj af
     obtain ⟨ag,aN,bu⟩:=h
     exact .inr (.inl ⟨ag,by simp[execOp,cc,ax.bC hm,ax.bC aj,ax.bC af,aN],bu⟩)
   · exact h.elim
 case h_24 it cc=>
   split at h
   · rename_i fX af
     obtain ⟨v,ag,aN,bu⟩:=rf h
     exact .inl ⟨v,ag,by simp[execOp,cc,ax.bC af,aN],bu⟩
   · exact h.elim
 case h_25=>exact h.elim
 case h_26=>
   refine GD ax ?_ h
   cases cc:o.op<;>first|rfl|simp_all
end
end cd
namespace cd
open Go
inductive BW where
 |run
 |split (n:Nat)
 |pure (n:Nat)
 |Wl (ks:List p0)
def kH (P:Program) (o:Oper) (e:Env):Option Value:=
 match o.op with
 | .move x=>bC e x
 | .assign x=>bC e x
 | .unOp .not _ x=>match bC e x with
   |some (.bool b)=>some (.bool (!b))
   |_=>none
 | .binOp op T x y _=>match bC e y with
   |some (.int lL b)=>match bC e x with
     |some (.int k a)=>bif uL k lL then
         match op with
         | .add=>some (.int k (k.wrap (a+b)))
         | .sub=>some (.int k (k.wrap (a-b)))
         | .mul=>some (.int k (k.wrap (a*b)))
         | .quo=>match b with
           | .ofNat (.succ m)=>some (.int k (k.wrap (a.tdiv (.ofNat (.succ m)))))
           |_=>none
         | .rem=>match b with
           | .ofNat (.succ m)=>some (.int k (a.tmod (.ofNat (.succ m))))
           |_=>none
         | .and=>some (.int k (k.wrap (BitVec.ofInt k.bits a&&&BitVec.ofInt k.bits b).toNat))
         | .or=>some (.int k (k.wrap (BitVec.ofInt k.bits a|||BitVec.ofInt k.bits b).toNat))
         | .eql=>some (.bool (a==b))
         | .neq=>some (.bool (a !=b))
         | .lss=>some (.bool (a<b))
         | .leq=>some (.bool (a≤b))
         | .gtr=>some (.bool (a>b))
         | .geq=>some (.bool (a≥b))
         |_=>none
       else none
     |_=>none
   |some (.bool b)=>match bC e x with
     |some (.bool a)=>match P.underlying T with
       |some .bool=>match op with
         | .eql=>some (.bool (a==b))
         | .neq=>some (.bool (!(a==b)))
         |_=>none
       |_=>none
     |_=>none
   |some (.string b)=>match bC e x with
     |some (.string a)=>match op with
       | .eql=>some (.bool (a.toList==b.toList))
       | .neq=>some (.bool (!(a.toList==b.toList)))
       |_=>none
     |_=>none
   |some (.pointer none)=>match bC e x with
     |some (.pointer p)=>bif BU (P.underlying T) then match op with
         | .eql=>some (.bool p.isNone)
         | .neq=>some (.bool (!p.isNone))
         |_=>none
       else none
     |_=>none
   |some (.slice none _ _)=>match bC e x with
     |some (.slice p _ _)=>bif Ek (P.underlying T) then match op with
         | .eql=>some (.bool p.isNone)
         | .neq=>some (.bool (!p.isNone))
         |_=>none
       else none
     |_=>none
   |_=>none
 | .convert s d x=>match bC e x with
   |some (.int _ n)=>match P.underlying d with
     |some (.int k)=>bif (P.underlying s).isSome then some (.int k (k.wrap n)) else none
     |_=>none
   |_=>none
 | .call {callee:= .builtin .len,args:=args,argTypes:=nm}=>match args[0]?,nm[0]? with
   |some x,some T=>match bC e x,P.underlying T with
     |some (.slice _ n _),some (.slice _)=>some (.int .i64 n)
     |some (.string s),some .string=>some (.int .i64 s.size)
     |_,_=>none
   |_,_=>none
 | .call {callee:= .builtin .cap,args:=args,argTypes:=nm}=>match args[0]?,nm[0]? with
   |some x,some T=>match bC e x,P.underlying T with
     |some (.slice _ _ c),some (.slice _)=>some (.int .i64 c)
     |_,_=>none
   |_,_=>none
 |_=>none
def Me (ops:Array Oper) (e:Env) (j:Nat):Option Value:=((ops[j]?).bind (·.dst)).bind e.get
def asU (ops:Array Oper) (j:Nat):Option Nat:=(ops[j]?).bind (·.dst)
def awL (o:Oper) (e:Env) (K:Bool→Prop):Prop:=
 match o.guard with
 |none=>match o.op with
   | .pick x y z=>match bC e x with
     |some (.bool b)=>match bC e (bif b then y else z) with
       |some (.bool r)=>K r
       |_=>False
     |_=>False
   |_=>False
 |some _=>False
def oW (ops:Array Oper) (o:Oper) (e:Env) (run skip:Prop):Prop:=
 match o.guard with
 |none=>run
 |some (j,want)=>match Me ops e j with
   |none=>False
   |some (.bool b)=>bif Bool.xor b want then skip else run
   |some _=>skip
def zL {α:Type} (ops:Array Oper) (o:Oper) (e:Env) (run skip:Option α):Option α:=
 match o.guard with
 |none=>run
 |some (j,want)=>match Me ops e j with
   |none=>none
   |some (.bool b)=>bif Bool.xor b want then skip else run
   |some _=>skip
def x6 (o:Oper) (e:Env):Option Bool:=
 match o.op with
 | .pick x y z=>match bC e x with
   |some (.bool b)=>match bC e (bif b then y else z) with
     |some (.bool r)=>some r
     |_=>none
   |_=>none
 |_=>none
def Mf (ops:Array Oper) (o:Oper) (e:Env):Option (Nat×Bool):=
 match o.guard with
 |none=>none
 |some (j,_)=>match asU ops j with
   |none=>none
   |some s=>match e.get s with
     |some (.bool c)=>some (s,c)
     |_=>none
def BX (ops:Array Oper) (o:Oper) (e:Env):Bool:=
 match o.guard with
 |none=>true
 |some (j,want)=>match Me ops e j with
   |some (.bool b)=> !(Bool.xor b want)
   |_=>false
def El (e:Env) (ds:List Nat):Bool:=e.all fun p=> !(ds.any fun d=>Nat.beq d p.1)
def cG (l:List Oper):List Nat:=l.filterMap (·.dst)
def r5 (P:Program) (ops:Array Oper):Nat→List Oper→List BW→Env→Option Env
 |0,_,_,_=>none
 |_+1,[],_,e=>some e
 |n+1,o::rest, .pure m::as,e=>
   match Mf ops o e,rest.drop (m-1) with
   |none,_=>
     match zL ops o e none (some undef) with
     |some v=>r5 P ops n rest as (fW o.dst v e)
     |none=>none
   |some (s,c),eE::ig=>
     match r5 P ops n (o::rest.take (m-1)) (.run::as.take (m-1)) ((s, .bool true)::e),r5 P ops n (o::rest.take (m-1)) (.run::as.take (m-1)) ((s, .bool false)::e) with
     |some a_,some bw=>
       match x6 eE a_,x6 eE bw with
       |some bK,some aq=>bif BX ops eE e&&El e (cG (o::rest.take (m-1))) then r5 P ops n ig (as.drop m) (fW eE.dst (.bool (cond c bK aq)) e) else none
       |_,_=>none
     |_,_=>none
   |_,_=>none
 |n+1,o::rest,_::as,e=>
   match zL ops o e (kH P o e) (some undef) with
   |some v=>r5 P ops n rest as (fW o.dst v e)
   |none=>none
 |n+1,o::rest,[],e=>
   match zL ops o e (kH P o e) (some undef) with
   |some v=>r5 P ops n rest [] (fW o.dst v e)
   |none=>none
inductive c0 {α:Type} (B:α→Prop) (k:α):Prop where
 |mk (h:B k)
theorem c0.out {α:Type} {B:α→Prop} {k:α} (h:c0 B k):B k:=by cases h with|mk h=>exact h
def Qr (P:Program) (ks:List p0) (o:Oper) (K:Value→World→Prop) (e:Env) (w:World):Prop:=
 match o.op with
 | .entry it=>match bC e it with
   |some fX=>Qf ks fun vs=>∃ag,(Instr.entry fX).run P w= .ok (.tuple vs.toArray) ag∧K (.tuple vs.toArray) ag
   |_=>False
 |_=>False
theorem asV {P:Program} {ks:List p0} {o:Oper} {K:Value→World→Prop} {e:Env} {w:World} {a:Act} (ax:gq e a) (h:Qr P ks o K e w):BV P o a w K:=by
 unfold Qr at h
 split at h
 · rename_i it cc
   split at h
   · rename_i fX af
     obtain ⟨v,ag,aN,bu⟩:=Wa h
     exact .inl ⟨_,ag,by simp[execOp,cc,ax.bC af,aN],bu⟩
   · exact h.elim
 · exact h.elim
def mx (P:Program) (aI:TypeId→j9) (ops:Array Oper):Nat→List Oper→List BW→(Env→World→Prop)→Env→World→Prop
 |0,_,_,_,_,_=>False
 |_+1,[],_,K,e,w=>K e w
 |n+1,o::rest, .Wl ks::as,K,e,w=>
   oW ops o e (Qr P ks o (fun v w'=>mx P aI ops n rest as K (fW o.dst v e) w') e w) (mx P aI ops n rest as K (fW o.dst undef e) w)
 |n+1,o::rest, .pure m::as,K,e,w=>
   match Mf ops o e,rest.drop (m-1) with
   |none,_=>oW ops o e False (mx P aI ops n rest as K (fW o.dst undef e) w)
   |some (s,c),eE::ig=>
     match r5 P ops n (o::rest.take (m-1)) (.run::as.take (m-1)) ((s, .bool true)::e),r5 P ops n (o::rest.take (m-1)) (.run::as.take (m-1)) ((s, .bool false)::e) with
     |some a_,some bw=>
       match x6 eE a_,x6 eE bw with
       |some bK,some aq=>bif BX ops eE e&&El e (cG (o::rest.take (m-1))) then mx P aI ops n ig (as.drop m) K (fW eE.dst (.bool (cond c bK aq)) e) w else False
       |_,_=>False
     |_,_=>False
   |_,_=>False
 |n+1,o::rest, .split m::as,K,e,w=>
   match Mf ops o e,rest.drop (m-1) with
   |none,_=>oW ops o e False (mx P aI ops n rest as K (fW o.dst undef e) w)
   |some (s,c),eE::ig=>
     bif BX ops eE e&&El e (cG (o::rest.take (m-1))) then
       c0 (fun k:Bool→World→Prop=>
           (c=true→mx P aI ops n (o::rest.take (m-1)) (.run::as.take (m-1)) (fun eO w'=>match x6 eE eO with|some r=>k r w'|none=>False) ((s, .bool true)::e) w)∧
           (c=false→mx P aI ops n (o::rest.take (m-1)) (.run::as.take (m-1)) (fun eO w'=>match x6 eE eO with|some r=>k r w'|none=>False) ((s, .bool false)::e) w))
         (fun r w'=>mx P aI ops n ig (as.drop m) K (fW eE.dst (.bool r) e) w')
     else False
   |_,_=>False
 |n+1,o::rest,_::as,K,e,w=>
   oW ops o e (tC P aI o (fun v w'=>mx P aI ops n rest as K (fW o.dst v e) w') e w) (mx P aI ops n rest as K (fW o.dst undef e) w)
 |n+1,o::rest,[],K,e,w=>
   oW ops o e (tC P aI o (fun v w'=>mx P aI ops n rest [] K (fW o.dst v e) w') e w) (mx P aI ops n rest [] K (fW o.dst undef e) w)
structure h_ (ds:List Nat) (a dg:Act):Prop where
 defers:dg.defers=a.defers
 size:dg.tmps.size=a.tmps.size
 same:∀s,s∉ds→dg.tmps[s]? =a.tmps[s]?
theorem h_.refl (ds:List Nat) (a:Act):h_ ds a a:=⟨rfl,rfl,fun _ _=>rfl⟩
theorem h_.trans {ds:List Nat} {a b c:Act} (h:h_ ds a b) (k:h_ ds b c):h_ ds a c:=
 ⟨k.defers.trans h.defers,k.size.trans h.size,fun s aj=>(k.same s aj).trans (h.same s aj)⟩
theorem h_.mono {ds es:List Nat} {a b:Act} (h:h_ ds a b) (aj:∀s,s∈ds→s∈es):h_ es a b:=
 ⟨h.defers,h.size,fun s aC=>h.same s fun hm=>aC (aj s hm)⟩
theorem h_.put {a:Act} {d:Option Nat} {v:Value} {ds:List Nat} (hd:∀k,d=some k→k∈ds):h_ ds a (a.put d v):=by
 cases d with
 |none=>exact .refl _ _
 |some d=>exact ⟨rfl,by simp[Act.put],fun s aj=>by
     have:d≠s:=fun h=>aj (h▸hd d rfl)
     simp[Act.put,Array.getElem?_setIfInBounds_ne this]⟩
def n2 (a:Act) (ds:List Nat) (K:Env→World→Prop) (x:Exit) (dg:Act) (w':World):Prop:=
 x= .normal∧h_ ds a dg∧∃eO,gq eO dg∧K eO w'
theorem r6 {P:Program} {ops:Array Oper} {Q Q':Exit→Act→World→Prop} (J:∀x a w,Q x a w→Q' x a w):
   ∀ (l:List Oper) (a:Act) (w:World),wpList P ops Q l a w→wpList P ops Q' l a w
 | [],_,_,h=>J _ _ _ h
 |o::l,a,w,h=>by
   simp only[wpList] at h⊢
   split
   · rename_i hw
     rw[if_pos hw] at h
     refine h.imp (fun h=> ?_) (fun ⟨U,dg,w',ad⟩=>⟨U,dg,w',J _ _ _ ad⟩)
     have:=Oper.wp_mono (Q:=Q) (fun a w=>r6 J l a w) h
     unfold Oper.wp at this⊢
     revert this
     generalize (execOp a.eval o).run P w=r
     intro this
     cases r with
     |ok bN w'=>
       cases bN<;>simp only[Oper.upon] at this⊢<;>first
         |exact this
         |(exact Calls.mono this fun e iI he=>by
             cases e with
             |returned v=>exact he
             |panicked c=>exact J _ _ _ he
             |outgrown=>exact let ⟨dg,w',ad⟩:=he;⟨dg,w',J _ _ _ ad⟩)
     |halt x w'=>cases x<;>simp only[Oper.upon] at this⊢<;>first|exact J _ _ _ this|exact this
   · rename_i hw
     rw[if_neg hw] at h
     exact r6 J l _ _ h
theorem Mg {P:Program} {ops:Array Oper} {Q:Exit→Act→World→Prop} (qR:List Oper):
   ∀ (qQ:List Oper) (a:Act) (w:World),wpList P ops (fun x a w=>x= .normal∧wpList P ops Q qR a w) qQ a w→wpList P ops Q (qQ++qR) a w
 | [],_,_,h=>h.2
 |o::l,a,w,h=>by
   simp only[EL,wpList] at h⊢
   split
   · rename_i hw
     rw[if_pos hw] at h
     rcases h with h|⟨_,dg,w',ad,_⟩
     · left
       have:=Oper.wp_mono (fun a w=>Mg qR l a w) h
       unfold Oper.wp at this⊢
       revert this
       generalize (execOp a.eval o).run P w=r
       intro this
       cases r with
       |ok bN w'=>
         cases bN<;>simp only[Oper.upon] at this⊢<;>first
           |exact this
           |(exact Calls.mono this fun e iI he=>by
               cases e with
               |returned v=>exact he
               |panicked c=>cases he.1
               |outgrown=>exact let ⟨dg,w',ad⟩:=he;by cases ad.1)
       |halt x w'=>cases x<;>simp only[Oper.upon] at this⊢<;>first|(cases this.1;done)|exact this
     · cases ad
   · rename_i hw
     rw[if_neg hw] at h
     exact Mg qR l _ _ h
section
variable {P:Program} {aI:TypeId→j9} {ops:Array Oper}
def As:Value→Option Bool
 | .bool b=>some b
 |_=>none
theorem Mh {e:Env} {a:Act} (ax:gq e a) {j:Nat} {v:Value} (h:Me ops e j=some v):
   yielded ops a.tmps j=As v:=by
 unfold Me at h
 unfold yielded
 cases hd:(ops[j]?).bind (·.dst) with
 |none=>rw[hd] at h;simp at h
 |some s=>
   rw[hd] at h
   simp only[Option.bind_some] at h⊢
   rw[ax.get _ _ h]
   cases v<;>rfl
theorem Mi {o:Oper} {e:Env} {a:Act} (ax:gq e a) {R S:Prop} (h:oW ops o e R S):
   (Region.wanted o (yielded ops a.tmps)=true∧R)∨(Region.wanted o (yielded ops a.tmps)=false∧S):=by
 unfold oW at h
 unfold Region.wanted
 split at h
 · rename_i bg;rw[bg];exact .inl ⟨rfl,h⟩
 · rename_i j want bg
   rw[bg]
   simp only
   split at h
   · exact h.elim
   · rename_i b ak
     rw[Mh ax ak]
     cases b<;>cases want<;>first|exact .inl ⟨rfl,h⟩|exact .inr ⟨rfl,h⟩
   · rename_i v jY ak
     rw[Mh ax ak]
     cases v<;>first|exact absurd rfl (jY _)|exact .inr ⟨by cases want<;>rfl,h⟩
theorem aeu {o:Oper} {e:Env} {R aev S:Prop} (h:oW ops o e R S) (aN:R→aev):oW ops o e aev S:=by
 unfold oW at h⊢
 split at h
 · exact aN h
 · rename_i j want bg
   split at h
   · exact h
   · rename_i b ak
     cases ab:Bool.xor b want<;>rw[ab] at h<;>first|exact aN h|exact h
   · exact h
theorem asW {α:Type} {o:Oper} {e:Env} {R S:Option α} {r:α} (h:zL ops o e none S=some r):zL ops o e R S=some r:=by
 unfold zL at h⊢
 split at h
 · cases h
 · rename_i j want bg
   split at h
   · exact h
   · rename_i b ak
     cases ab:Bool.xor b want with
     |true=>rw[ab] at h;exact h
     |false=>rw[ab] at h;cases h
   · exact h
theorem asX {α:Type} {o:Oper} {e:Env} {a:Act} (ax:gq e a) {R S:Option α} {r:α} (h:zL ops o e R S=some r):
   (Region.wanted o (yielded ops a.tmps)=true∧R=some r)∨(Region.wanted o (yielded ops a.tmps)=false∧S=some r):=by
 unfold zL at h
 unfold Region.wanted
 split at h
 · rename_i bg;rw[bg];exact .inl ⟨rfl,h⟩
 · rename_i j want bg
   rw[bg]
   simp only
   split at h
   · cases h
   · rename_i b ak
     rw[Mh ax ak]
     cases b<;>cases want<;>first|exact .inl ⟨rfl,h⟩|exact .inr ⟨rfl,h⟩
   · rename_i v jY ak
     rw[Mh ax ak]
     cases v<;>first|exact absurd rfl (jY _)|exact .inr ⟨by cases want<;>rfl,h⟩
theorem aew {o:Oper} {e:Env} {a:Act} (ax:gq e a) {v:Value} (h:kH P o e=some v) (w:World):(execOp a.eval o).run P w= .ok (.value v) w:=by
 unfold kH at h
 split at h
 · rename_i x cc
   simp[execOp,cc,ax.bC h]
 · rename_i x cc
   simp[execOp,cc,ax.bC h]
 · rename_i t x cc
   split at h
   · rename_i b af
     cases h
     simp[execOp,cc,ax.bC af,Op.unary]
   · cases h
 · rename_i op T x y aet cc
   split at h
   · rename_i lL b b8
     split at h
     · rename_i k c af
       by_cases ae:k=lL
       · subst ae
         simp only[uL,decide_true,cond_true] at h
         split at h
         case h_4=>
           split at h
           · cases h
             simp[execOp,cc,ax.bC af,ax.bC b8,eqGuard,binOp,Op.intDiv]
             intro bO;exfalso;revert bO;simp;omega
           · cases h
         case h_5=>
           split at h
           · cases h
             simp[execOp,cc,ax.bC af,ax.bC b8,eqGuard,binOp,Op.intDiv]
             intro bO;exfalso;revert bO;simp;omega
           · cases h
         all_goals first
           |(cases h;simp[execOp,cc,ax.bC af,ax.bC b8,eqGuard,binOp,Op.intArith,Op.intBits,Op.intCmp];done)
           |cases h
       · simp[uL,ae] at h
     · cases h
   · rename_i b b8
     split at h
     · rename_i c af
       split at h
       · rename_i bj
         have a_:∀ (d:Nat) (w:World),(Op.equalIn (d+1) T (.bool c) (.bool b)).run P w= .ok (c==b) w:=by
           intro d w
           simp[Op.equalIn,gj bj]
         have bw:∀w:World,(Op.equal T (.bool c) (.bool b)).run P w= .ok (c==b) w:=fun w=>by rw[I7];exact a_ _ w
         split at h
         · cases h
           simp[execOp,cc,ax.bC af,ax.bC b8,eqGuard,binOp,bw]
         · cases h
           simp[execOp,cc,ax.bC af,ax.bC b8,eqGuard,binOp,bw]
         · cases h
       · cases h
     · cases h
   · rename_i b b8
     split at h
     · rename_i c af
       split at h
       · cases h
         have a_:(binOp .eql T (.string c) (.string b)).run P w= .ok (.bool (c.toList==b.toList)) w:=rfl
         simp only[execOp,cc,ax.bC af,ax.bC b8]
         simp[eqGuard,a_]
       · cases h
         have a_:(binOp .neq T (.string c) (.string b)).run P w= .ok (.bool (!(c.toList==b.toList))) w:=rfl
         simp only[execOp,cc,ax.bC af,ax.bC b8]
         simp[eqGuard,a_]
       · cases h
     · cases h
   · rename_i b8
     split at h
     · rename_i p af
       by_cases bj:BU (P.underlying T)=true
       · rw[bj] at h
         simp only[cond_true] at h
         split at h
         · cases h;simp[execOp,cc,ax.bC af,ax.bC b8,eqGuard,binOp,Qj (P:=P) bj]
         · cases h;simp[execOp,cc,ax.bC af,ax.bC b8,eqGuard,binOp,Qj (P:=P) bj]
         · cases h
       · simp only[lS] at bj;rw[bj] at h;cases h
     · cases h
   · rename_i l c b8
     split at h
     · rename_i p _ _ af
       by_cases bj:Ek (P.underlying T)=true
       · rw[bj] at h
         simp only[cond_true] at h
         split at h
         · cases h;simp[execOp,cc,ax.bC af,ax.bC b8,eqGuard,binOp,Qk (P:=P) bj]
         · cases h;simp[execOp,cc,ax.bC af,ax.bC b8,eqGuard,binOp,Qk (P:=P) bj]
         · cases h
       · simp only[lS] at bj;rw[bj] at h;cases h
     · cases h
   · cases h
 · rename_i s d x cc
   split at h
   · rename_i k n af
     split at h
     · rename_i lL hd
       by_cases aj:(P.underlying s).isSome=true
       · rw[aj] at h
         cases h
         obtain ⟨ds,ra⟩:=tV _ aj
         simp[execOp,cc,ax.bC af,convert,gj ra,gj hd,Conv.intToInt]
       · simp only[lS] at aj;rw[aj] at h;cases h
     · cases h
   · cases h
 · rename_i args nm cc
   split at h
   · rename_i x T GF Qs
     split at h
     · rename_i p n c el af bj
       cases h
       simp[execOp,cc,resolve,invoke,Go.builtin,Builtin.len_,Qs,GF,gj bj,ax.bC af,goInt]
     · rename_i s af bj
       cases h
       simp[execOp,cc,resolve,invoke,Go.builtin,Builtin.len_,Qs,GF,gj bj,ax.bC af,goInt]
     · cases h
   · cases h
 · rename_i args nm cc
   split at h
   · rename_i x T GF Qs
     split at h
     · rename_i p n c el af bj
       cases h
       simp[execOp,cc,resolve,invoke,Go.builtin,Builtin.cap_,Qs,GF,gj bj,ax.bC af,goInt]
     · cases h
   · cases h
 · cases h
theorem Wm {e:Env} {ds:List Nat} {a dg:Act} (ax:gq e a) (hd:El e ds=true) (ae:h_ ds a dg):gq e dg:=by
 constructor
 intro s v aj
 have hm:∃u,(s,u)∈e:=by
   clear hd ax
   induction e with
   |nil=>cases aj
   |cons p e dr=>
     obtain ⟨k,u⟩:=p
     rw[GA] at aj
     by_cases sU:k=s
     · subst sU;exact ⟨u,by simp⟩
     · rw[if_neg sU] at aj
       obtain ⟨u,hu⟩:=dr aj
       exact ⟨u,by simp[hu]⟩
 obtain ⟨u,hu⟩:=hm
 have U:=G4.1 hd _ hu
 simp only[zX,JM] at U
 rw[ae.same s fun qW=>U s qW (Nat.beq_refl s)]
 exact ax.get s v aj
theorem Wn {eE:Oper} {e:Env} {a:Act} (ax:gq e a) {r:Bool} (h:x6 eE e=some r) (w:World):
   (execOp a.eval eE).run P w= .ok (.value (.bool r)) w:=by
 unfold x6 at h
 split at h
 · rename_i x y z cc
   split at h
   · rename_i b ab
     split at h
     · rename_i p7 aN
       cases h
       simp only[execOp,cc,ax.bC ab]
       cases b
       · simp only[cond_false] at aN
         simp[asBool,ax.bC aN]
       · simp only[cond_true] at aN
         simp[asBool,ax.bC aN]
     · cases h
   · cases h
 · cases h
theorem Wo {eE:Oper} {e:Env} {a:Act} (ax:gq e a) (h:BX ops eE e=true):Region.wanted eE (yielded ops a.tmps)=true:=by
 unfold BX at h
 unfold Region.wanted
 split at h
 · rename_i bg;rw[bg]
 · rename_i j want bg
   rw[bg]
   simp only
   split at h
   · rename_i b ak
     rw[Mh ax ak]
     cases b<;>cases want<;>first|rfl|cases h
   · cases h
theorem Wp {o:Oper} {e:Env} {s:Nat} {c:Bool} (h:Mf ops o e=some (s,c)):e.get s=some (.bool c):=by
 unfold Mf at h
 split at h
 · cases h
 · split at h
   · cases h
   · split at h
     · rename_i aj;cases h;exact aj
     · cases h
theorem gq.lit {e:Env} {a:Act} (ax:gq e a) {s:Nat} {v:Value} (h:e.get s=some v):gq ((s,v)::e) a:=by
 constructor
 intro t u aR
 rw[GA] at aR
 by_cases gW:s=t
 · subst gW
   rw[if_pos rfl] at aR
   cases aR
   exact ax.get _ _ h
 · rw[if_neg gW] at aR
   exact ax.get _ _ aR
theorem Wq {α:Type} (o:α) (rest:List α) (m:Nat) {eE:α} {ig:List α} (h:rest.drop m=eE::ig):
   o::rest=(o::rest.take m)++(eE::ig):=by
 rw[←h];simp
theorem asY {b c:Bool} {α:Type} {x y z:α} (h:(bif b&&c then x else y)=z) (b8:y≠z):b=true∧c=true∧x=z:=by
 cases b<;>cases c<;>first|exact absurd h b8|exact ⟨rfl,rfl,h⟩
theorem aex:∀ (n:Nat) (l:List Oper) (as:List BW) (e eO:Env) (a:Act) (w:World),gq e a→(∀d∈cG l,d<a.tmps.size)→
   r5 P ops n l as e=some eO→wpList P ops (fun x dg w'=>x= .normal∧h_ (cG l) a dg∧gq eO dg∧w'=w) l a w:=by
 intro n
 induction n with
 |zero=>intro l as e eO a w _ _ h;cases h
 |succ n dr=>
   intro l as e eO a w ax ab h
   have one:∀ (o:Oper) (rest:List Oper) (sK:List BW),(∀d∈cG (o::rest),d<a.tmps.size)→
       (match zL ops o e (kH P o e) (some undef) with|some v=>r5 P ops n rest sK (fW o.dst v e)|none=>none)=some eO→
       wpList P ops (fun x dg w'=>x= .normal∧h_ (cG (o::rest)) a dg∧gq eO dg∧w'=w) (o::rest) a w:=by
     intro o rest sK ab h
     have Em:∀k,o.dst=some k→k∈cG (o::rest):=fun k ae=>by simp[cG,ae]
     have oI:∀k,k∈cG rest→k∈cG (o::rest):=fun k ae=>by
       simp only[cG,JR]
       split
       · exact ae
       · exact uT _ ae
     split at h
     · rename_i v ak
       have next:∀ (dg:Act),dg=a.put o.dst v→wpList P ops (fun x dg w'=>x= .normal∧h_ (cG (o::rest)) a dg∧gq eO dg∧w'=w) rest dg w:=by
         intro dg ow
         subst ow
         have ae:h_ (cG (o::rest)) a (a.put o.dst v):=h_.put Em
         have:=dr rest sK (fW o.dst v e) eO (a.put o.dst v) w (ax.put fun k ae=>ab k (Em k ae)) (fun d hd=>by rw[ae.size];exact ab d (oI d hd)) h
         exact r6 (fun x dg w' ⟨U,ad,au,aH⟩=>⟨U,ae.trans (ad.mono oI),au,aH⟩) _ _ _ this
       rcases asX ax ak with ⟨hw,aW⟩|⟨hw,aW⟩
       · simp only[wpList,hw,if_true]
         left
         unfold Oper.wp
         rw[aew ax aW w]
         exact next _ rfl
       · simp only[wpList,hw,ob,if_false]
         cases aW
         exact next _ rfl
     · cases h
   cases l with
   |nil=>
     simp only[r5,Option.some.injEq] at h
     subst h
     exact ⟨rfl, .refl _ _,ax,rfl⟩
   |cons o rest=>
     cases as with
     |nil=>exact one o rest [] ab (by simpa only[r5] using h)
     |cons Wr as=>
       cases Wr with
       |run=>exact one o rest as ab (by simpa only[r5] using h)
       |split m=>exact one o rest as ab (by simpa only[r5] using h)
       |Wl ks=>exact one o rest as ab (by simpa only[r5] using h)
       |pure m=>
         simp only[r5] at h
         split at h
         · refine one o rest as ab ?_
           cases ak:zL ops o e none (some undef) with
           |none=>rw[ak] at h;cases h
           |some v=>rw[ak] at h;rw[asW ak];exact h
         · rename_i s c eE ig bg hd
           split at h
           · rename_i a_ bw U ad
             split at h
             · rename_i bK aq lf fS
               obtain ⟨Mj,Mk,h⟩:=asY h (by simp)
               rw[Wq o rest (m-1) hd] at ab⊢
               have su:=Wp bg
               refine Mg _ _ _ _ ?_
               have ij:∀k,k∈cG (o::rest.take (m-1))→k∈cG ((o::rest.take (m-1))++(eE::ig)):=fun k ae=>by
                 simp only[cG,JS,fa];exact .inl ae
               have tD:∀k,k∈cG (eE::ig)→k∈cG ((o::rest.take (m-1))++(eE::ig)):=fun k ae=>by
                 simp only[cG,JS,fa];exact .inr ae
               have En:∀k,eE.dst=some k→k∈cG (eE::ig):=fun k ae=>by simp[cG,ae]
               have oI:∀k,k∈cG ig→k∈cG (eE::ig):=fun k ae=>by
                 simp only[cG,JR]
                 split
                 · exact ae
                 · exact uT _ ae
               have fin:∀ (Eo:Env) (r:Bool) (bc:Act),h_ (cG (o::rest.take (m-1))) a bc→gq Eo bc→x6 eE Eo=some r→r=cond c bK aq→
                   wpList P ops (fun x dg w'=>x= .normal∧h_ (cG ((o::rest.take (m-1))++(eE::ig))) a dg∧gq eO dg∧w'=w) (eE::ig) bc w:=by
                 intro Eo r bc jX hY aW aN
                 have Ep:=Wm ax Mk jX
                 simp only[wpList,Wo Ep Mj,if_true]
                 left
                 unfold Oper.wp
                 rw[Wn hY aW w]
                 simp only[Oper.upon]
                 have dW:h_ (cG (eE::ig)) bc (bc.put eE.dst (.bool r)):=h_.put En
                 have:=dr ig (as.drop m) (fW eE.dst (.bool (cond c bK aq)) e) eO (bc.put eE.dst (.bool r)) w
                   (by rw[aN];exact Ep.put fun k ae=>by rw[jX.size];exact ab k (tD k (En k ae)))
                   (fun d hd=>by rw[dW.size,jX.size];exact ab d (tD d (oI d hd))) h
                 refine r6 (fun x dg w' ⟨aB,aF,aJ,aM⟩=>⟨aB,(jX.mono ij).trans ((dW.mono tD).trans (aF.mono fun k ae=>tD k (oI k ae))),aJ,aM⟩) _ _ _ this
               cases c with
               |true=>
                 have:=dr _ _ _ a_ a w (ax.lit su) (fun d hd=>ab d (ij d hd)) U
                 exact r6 (fun x dg w' ⟨aB,aF,aJ,aM⟩=>⟨aB,by subst aM;exact fin a_ bK dg aF aJ lf rfl⟩) _ _ _ this
               |false=>
                 have:=dr _ _ _ bw a w (ax.lit su) (fun d hd=>ab d (ij d hd)) ad
                 exact r6 (fun x dg w' ⟨aB,aF,aJ,aM⟩=>⟨aB,by subst aM;exact fin bw aq dg aF aJ fS rfl⟩) _ _ _ this
             · cases h
           · cases h
         · cases h
theorem aey:∀ (n:Nat) (l:List Oper) (as:List BW) (K:Env→World→Prop) (e:Env) (a:Act) (w:World),gq e a→(∀d∈cG l,d<a.tmps.size)→
   mx P aI ops n l as K e w→wpList P ops (n2 a (cG l) K) l a w:=by
 intro n
 induction n with
 |zero=>intro l as K e a w _ _ h;cases h
 |succ n dr=>
   intro l as K e a w ax ab h
   have one:∀ (o:Oper) (rest:List Oper) (sK:List BW),(∀d∈cG (o::rest),d<a.tmps.size)→
       oW ops o e (tC P aI o (fun v w'=>mx P aI ops n rest sK K (fW o.dst v e) w') e w) (mx P aI ops n rest sK K (fW o.dst undef e) w)→
       wpList P ops (n2 a (cG (o::rest)) K) (o::rest) a w:=by
     intro o rest sK ab h
     have Em:∀k,o.dst=some k→k∈cG (o::rest):=fun k ae=>by simp[cG,ae]
     have oI:∀k,k∈cG rest→k∈cG (o::rest):=fun k ae=>by
       simp only[cG,JR]
       split
       · exact ae
       · exact uT _ ae
     have next:∀ (v:Value) (w':World),mx P aI ops n rest sK K (fW o.dst v e) w'→wpList P ops (n2 a (cG (o::rest)) K) rest (a.put o.dst v) w':=by
       intro v w' h
       have ae:h_ (cG (o::rest)) a (a.put o.dst v):=h_.put Em
       have:=dr rest sK K (fW o.dst v e) (a.put o.dst v) w' (ax.put fun k ae=>ab k (Em k ae)) (fun d hd=>by rw[ae.size];exact ab d (oI d hd)) h
       exact r6 (fun x dg w' ⟨U,ad,au⟩=>⟨U,ae.trans (ad.mono oI),au⟩) _ _ _ this
     rcases Mi ax h with ⟨hw,aW⟩|⟨hw,aW⟩
     · simp only[wpList,hw,if_true]
       exact .inl ((Qq ax aW).wp next)
     · simp only[wpList,hw,ob,if_false]
       exact next _ _ aW
   have asZ:∀ (o:Oper) (rest:List Oper) (ks:List p0) (sK:List BW),(∀d∈cG (o::rest),d<a.tmps.size)→
       oW ops o e (Qr P ks o (fun v w'=>mx P aI ops n rest sK K (fW o.dst v e) w') e w) (mx P aI ops n rest sK K (fW o.dst undef e) w)→
       wpList P ops (n2 a (cG (o::rest)) K) (o::rest) a w:=by
     intro o rest ks sK ab h
     have Em:∀k,o.dst=some k→k∈cG (o::rest):=fun k ae=>by simp[cG,ae]
     have oI:∀k,k∈cG rest→k∈cG (o::rest):=fun k ae=>by
       simp only[cG,JR]
       split
       · exact ae
       · exact uT _ ae
     have next:∀ (v:Value) (w':World),mx P aI ops n rest sK K (fW o.dst v e) w'→wpList P ops (n2 a (cG (o::rest)) K) rest (a.put o.dst v) w':=by
       intro v w' h
       have ae:h_ (cG (o::rest)) a (a.put o.dst v):=h_.put Em
       have:=dr rest sK K (fW o.dst v e) (a.put o.dst v) w' (ax.put fun k ae=>ab k (Em k ae)) (fun d hd=>by rw[ae.size];exact ab d (oI d hd)) h
       exact r6 (fun x dg w' ⟨U,ad,au⟩=>⟨U,ae.trans (ad.mono oI),au⟩) _ _ _ this
     rcases Mi ax h with ⟨hw,aW⟩|⟨hw,aW⟩
     · simp only[wpList,hw,if_true]
       exact .inl ((asV ax aW).wp next)
     · simp only[wpList,hw,ob,if_false]
       exact next _ _ aW
   cases l with
   |nil=>exact ⟨rfl, .refl _ _,e,ax,h⟩
   |cons o rest=>
     cases as with
     |nil=>exact one o rest [] ab (by simpa only[mx] using h)
     |cons Wr as=>
       cases Wr with
       |run=>exact one o rest as ab (by simpa only[mx] using h)
       |Wl ks=>exact asZ o rest ks as ab (by simpa only[mx] using h)
       |split m=>
         simp only[mx] at h
         split at h
         · exact one o rest as ab (aeu h False.elim)
         · rename_i s c eE ig bg hd
           obtain ⟨Mj,Mk,h⟩:BX ops eE e=true∧El e (cG (o::rest.take (m-1)))=true∧_:=by
             cases U:BX ops eE e<;>cases ad:El e (cG (o::rest.take (m-1)))<;>rw[U,ad] at h<;>first|exact h.elim|exact ⟨rfl,rfl,h⟩
           rw[Wq o rest (m-1) hd] at ab⊢
           have su:=Wp bg
           refine Mg _ _ _ _ ?_
           have ij:∀k,k∈cG (o::rest.take (m-1))→k∈cG ((o::rest.take (m-1))++(eE::ig)):=fun k ae=>by
             simp only[cG,JS,fa];exact .inl ae
           have tD:∀k,k∈cG (eE::ig)→k∈cG ((o::rest.take (m-1))++(eE::ig)):=fun k ae=>by
             simp only[cG,JS,fa];exact .inr ae
           have En:∀k,eE.dst=some k→k∈cG (eE::ig):=fun k ae=>by simp[cG,ae]
           have oI:∀k,k∈cG ig→k∈cG (eE::ig):=fun k ae=>by
             simp only[cG,JR]
             split
             · exact ae
             · exact uT _ ae
           have fin:∀ (x:Exit) (bc:Act) (ag:World),n2 a (cG (o::rest.take (m-1)))
               (fun eO w'=>match x6 eE eO with|some r=>mx P aI ops n ig (as.drop m) K (fW eE.dst (.bool r) e) w'|none=>False) x bc ag→
               x= .normal∧wpList P ops (n2 a (cG ((o::rest.take (m-1))++(eE::ig))) K) (eE::ig) bc ag:=by
             rintro x bc ag ⟨af,jX,Eo,hY,h⟩
             refine ⟨af,?_⟩
             have Ep:=Wm ax Mk jX
             split at h
             · rename_i r aW
               simp only[wpList,Wo Ep Mj,if_true]
               left
               unfold Oper.wp
               rw[Wn hY aW ag]
               simp only[Oper.upon]
               have dW:h_ (cG (eE::ig)) bc (bc.put eE.dst (.bool r)):=h_.put En
               have:=dr ig (as.drop m) K (fW eE.dst (.bool r) e) (bc.put eE.dst (.bool r)) ag
                 (Ep.put fun k ae=>by rw[jX.size];exact ab k (tD k (En k ae)))
                 (fun d hd=>by rw[dW.size,jX.size];exact ab d (tD d (oI d hd))) h
               refine r6 (fun x dg w' ⟨aB,aF,aJ⟩=>⟨aB,(jX.mono ij).trans ((dW.mono tD).trans (aF.mono fun k ae=>tD k (oI k ae))),aJ⟩) _ _ _ this
             · exact h.elim
           have h:=h.out
           cases c with
           |true=>
             have:=dr _ _ _ _ a w (ax.lit su) (fun d hd=>ab d (ij d hd)) (h.1 rfl)
             exact r6 fin _ _ _ this
           |false=>
             have:=dr _ _ _ _ a w (ax.lit su) (fun d hd=>ab d (ij d hd)) (h.2 rfl)
             exact r6 fin _ _ _ this
         · exact h.elim
       |pure m=>
         simp only[mx] at h
         split at h
         · exact one o rest as ab (aeu h False.elim)
         · rename_i s c eE ig bg hd
           split at h
           · rename_i a_ bw U ad
             split at h
             · rename_i bK aq lf fS
               obtain ⟨Mj,Mk,h⟩:BX ops eE e=true∧El e (cG (o::rest.take (m-1)))=true∧_:=by
                 cases aB:BX ops eE e<;>cases aF:El e (cG (o::rest.take (m-1)))<;>rw[aB,aF] at h<;>first|exact h.elim|exact ⟨rfl,rfl,h⟩
               rw[Wq o rest (m-1) hd] at ab⊢
               have su:=Wp bg
               refine Mg _ _ _ _ ?_
               have ij:∀k,k∈cG (o::rest.take (m-1))→k∈cG ((o::rest.take (m-1))++(eE::ig)):=fun k ae=>by
                 simp only[cG,JS,fa];exact .inl ae
               have tD:∀k,k∈cG (eE::ig)→k∈cG ((o::rest.take (m-1))++(eE::ig)):=fun k ae=>by
                 simp only[cG,JS,fa];exact .inr ae
               have En:∀k,eE.dst=some k→k∈cG (eE::ig):=fun k ae=>by simp[cG,ae]
               have oI:∀k,k∈cG ig→k∈cG (eE::ig):=fun k ae=>by
                 simp only[cG,JR]
                 split
                 · exact ae
                 · exact uT _ ae
               have fin:∀ (Eo:Env) (r:Bool) (bc:Act),h_ (cG (o::rest.take (m-1))) a bc→gq Eo bc→x6 eE Eo=some r→r=cond c bK aq→
                   wpList P ops (n2 a (cG ((o::rest.take (m-1))++(eE::ig))) K) (eE::ig) bc w:=by
                 intro Eo r bc jX hY aW aN
                 have Ep:=Wm ax Mk jX
                 simp only[wpList,Wo Ep Mj,if_true]
                 left
                 unfold Oper.wp
                 rw[Wn hY aW w]
                 simp only[Oper.upon]
                 have dW:h_ (cG (eE::ig)) bc (bc.put eE.dst (.bool r)):=h_.put En
                 have:=dr ig (as.drop m) K (fW eE.dst (.bool (cond c bK aq)) e) (bc.put eE.dst (.bool r)) w
                   (by rw[aN];exact Ep.put fun k ae=>by rw[jX.size];exact ab k (tD k (En k ae)))
                   (fun d hd=>by rw[dW.size,jX.size];exact ab d (tD d (oI d hd))) h
                 refine r6 (fun x dg w' ⟨aB,aF,aJ⟩=>⟨aB,(jX.mono ij).trans ((dW.mono tD).trans (aF.mono fun k ae=>tD k (oI k ae))),aJ⟩) _ _ _ this
               cases c with
               |true=>
                 have:=aex n _ _ _ a_ a w (ax.lit su) (fun d hd=>ab d (ij d hd)) U
                 exact r6 (fun x dg w' ⟨aB,aF,aJ,aM⟩=>⟨aB,by subst aM;exact fin a_ bK dg aF aJ lf rfl⟩) _ _ _ this
               |false=>
                 have:=aex n _ _ _ bw a w (ax.lit su) (fun d hd=>ab d (ij d hd)) ad
                 exact r6 (fun x dg w' ⟨aB,aF,aJ,aM⟩=>⟨aB,by subst aM;exact fin bw aq dg aF aJ fS rfl⟩) _ _ _ this
             · exact h.elim
           · exact h.elim
         · exact h.elim
end
end cd
namespace cd
open Go
structure ao (W:Nat→Prop) (w w':World):Prop where
 os:w'.os=w.os
 tape:w'.tape=w.tape
 output:w'.output=w.output
 size:w.heap.size≤w'.heap.size
 block:∀k,k<w.heap.size→¬W k→w'.heap[k]? =w.heap[k]?
theorem ao.refl (W:Nat→Prop) (w:World):ao W w w:=⟨rfl,rfl,rfl,cR _,fun _ _ _=>rfl⟩
theorem ao.trans {W:Nat→Prop} {a b c:World} (h:ao W a b) (k:ao W b c):ao W a c:=
 ⟨k.os.trans h.os,k.tape.trans h.tape,k.output.trans h.output,ju h.size k.size,fun i hi hw=>(k.block i (lv hi h.size) hw).trans (h.block i hi hw)⟩
theorem ao.mono {W V:Nat→Prop} {a b:World} (h:ao W a b) (ak:∀k,k<a.heap.size→W k→V k):ao V a b:=
 ⟨h.os,h.tape,h.output,h.size,fun i hi hw=>h.block i hi fun dk=>hw (ak i hi dk)⟩
theorem ao.cell {W:Nat→Prop} {w w':World} (h:ao W w w') {A:Addr} (dk:¬W A.block) {v:Value} (ak:w.cell? A=some v):w'.cell? A=some v:=by
 have ab:A.block<w.heap.size:=by
   rcases g8 A.block w.heap.size with U|U
   · exact U
   · simp[World.cell?,Array.getElem?_eq_none U] at ak
 unfold World.cell? at ak⊢
 rw[h.block _ ab dk]
 exact ak
theorem ao.eK {W:Nat→Prop} {w w':World} (h:ao W w w') {A:Addr} (dk:¬W A.block):∀ (n i:Nat) (vs:List Value),eK w A i n=some vs→eK w' A i n=some vs
 |0,_,_,ak=>ak
 |n+1,i,vs,ak=>by
   simp only[cd.eK] at ak⊢
   have wE:(A.add i).block=A.block:=by unfold Addr.add;split<;>rfl
   cases U:w.cell? (A.add i) with
   |none=>simp[U] at ak
   |some v=>
     cases ad:cd.eK w A (i+1) n with
     |none=>simp[U,ad] at ak
     |some us=>
       simp only[U,ad] at ak
       rw[h.cell (by rw[wE];exact dk) U,ao.eK h dk n (i+1) us ad]
       exact ak
def my {α:Type}:Sem α→Prop
 | .pure _=>True
 | .program k=>∀p,my (k p)
 | .halt _=>True
 |_=>False
theorem my.bind {α β:Type}:∀ {s:Sem α} {f:α→Sem β},my s→(∀a,my (f a))→my (s>>=f)
 | .pure a,_,_,aG=>aG a
 | .program _,_,h,aG=>fun p=>my.bind (h p) aG
 | .halt _,_,_,_=>trivial
 | .load ..,_,h,_=>h.elim
 | .store ..,_,h,_=>h.elim
 | .new ..,_,h,_=>h.elim
 | .shape ..,_,h,_=>h.elim
 | .freeze ..,_,h,_=>h.elim
 | .frozen ..,_,h,_=>h.elim
 | .getObj ..,_,h,_=>h.elim
 | .setObj ..,_,h,_=>h.elim
 | .choose ..,_,h,_=>h.elim
 | .sys ..,_,h,_=>h.elim
 | .mark ..,_,h,_=>h.elim
theorem my.run {α:Type} {P:Program}:∀ {s:Sem α} {w w':World} {v:α},my s→s.run P w= .ok v w'→∀u,s.run P u= .ok v u
 | .pure a,w,w',v,_,h,u=>by
   simp only[Sem.run,Result.ok.injEq] at h⊢
   exact ⟨h.1,trivial⟩
 | .program k,w,w',v,aG,h,u=>my.run (aG P) h u
 | .halt _,w,w',v,_,h,_=>by simp[Sem.run] at h
 | .load ..,_,_,_,h,_,_=>h.elim
 | .store ..,_,_,_,h,_,_=>h.elim
 | .new ..,_,_,_,h,_,_=>h.elim
 | .shape ..,_,_,_,h,_,_=>h.elim
 | .freeze ..,_,_,_,h,_,_=>h.elim
 | .frozen ..,_,_,_,h,_,_=>h.elim
 | .getObj ..,_,_,_,h,_,_=>h.elim
 | .setObj ..,_,_,_,h,_,_=>h.elim
 | .choose ..,_,_,_,h,_,_=>h.elim
 | .sys ..,_,_,_,h,_,_=>h.elim
 | .mark ..,_,_,_,h,_,_=>h.elim
theorem aez:my program:=fun _=>trivial
theorem aeA (t:TypeId):my (underlying t):=by
 unfold underlying
 refine my.bind aez fun p=> ?_
 split<;>trivial
theorem as0 (t:TypeId):my (typeInfo t):=by
 unfold typeInfo
 refine my.bind aez fun p=> ?_
 split<;>trivial
theorem as1 (t:TypeId):my (Go.sizeOf t):=my.bind (as0 t) fun _=>trivial
theorem as2 (t:TypeId):my (isAgg t):=by
 unfold isAgg
 refine my.bind (aeA t) fun d=> ?_
 split<;>trivial
theorem as3 (t:TypeId) (cs:Array Value) (off:Nat):my (part t cs off):=by
 unfold part
 refine my.bind (as2 t) fun d=> ?_
 split
 · exact my.bind (as1 t) fun _=>trivial
 · split<;>trivial
theorem as4 (t:TypeId) (x:Value) (i:Nat):my (Instr.field t x i):=by
 unfold Instr.field
 refine my.bind (aeA t) fun d=> ?_
 split
 · split
   · refine my.bind ?_ fun _=>as3 _ _ _
     unfold asAgg;split<;>trivial
   · trivial
 · trivial
def aeB:Op→Bool
 | .move _=>true
 | .assign _=>true
 | .pick _ _ _=>true
 | .field _ _ _=>true
 |_=>false
def Ml (P:Program) (o:Oper) (K:Value→Prop) (e:Env) (w:World):Prop:=
 bif aeB o.op&&known e o.op.operands then
   match (execOp (ro e) o).run P w with
   | .ok (.value v) _=>K v
   |_=>False
 else False
def Ja (P:Program) (o:Oper) (K:Value→Prop) (e:Env):Prop:=
 match kH P o e with
 |some v=>K v
 |none=>False
def aeC (P:Program) (T:TypeId) (x:Value) (i:Nat) (K:Value→Prop):Prop:=
 match P.underlying T with
 |some (.struct fs)=>match fs[i]? with
   |some f=>match x with
     | .pointer (some A)=>match P.underlying f.type with
       |some _=>bif Nat.beq (P.cellsOf f.type) 0 then False else K (.pointer (some (A.add f.offset)))
       |none=>False
     |_=>False
   |none=>False
 |_=>False
def aeD (x:Value) (i:Nat) (K:Value→Prop):Prop:=
 match x with
 | .tuple vs=>match vs[i]? with
   |some v=>K v
   |none=>False
 |_=>False
def tE (o:Oper):Bool:=
 match o.op with
 | .load _ _=>true
 | .convert _ _ _=>true
 |_=>false
def x7:Nat→List Oper→Nat
 |_,[]=>0
 |i,o::l=>bif tE o then 2^i|||x7 (i+1) l else x7 (i+1) l
def Ws (P:Program) (aI:TypeId→j9) (W:Nat→Prop) (w:World) (o:Oper) (K:Value→Prop) (e:Env):Prop:=
 match o.op with
 | .nilCheck x=>match bC e x with
   |some (.pointer p)=>∃A,p=some A∧K (.pointer (some A))
   |_=>False
 | .load T x=>match bC e x with
   |some (.pointer (some A))=>¬W A.block∧I5 P aI T A w K
   |_=>False
 | .binOp op T x y _=>match bC e x,bC e y with
   |some fX,some wc=>bif I9 y wc then Qi P op T fX wc K (Ja P o K e) else False
   |_,_=>False
 | .indexAddr T x i=>match bC e x,bC e i with
   |some fX,some po=>Qm P T fX po K
   |_,_=>False
 | .index T x i=>match bC e x,bC e i with
   |some fX,some po=>Qn P aI T fX po K
   |_,_=>False
 | .field T x i=>match bC e x with
   |some fX=>Qo P aI T fX i K
   |_=>False
 | .fieldAddr T x i=>match bC e x with
   |some fX=>aeC P T fX i K
   |_=>False
 | .extract x i=>match bC e x with
   |some fX=>aeD fX i K
   |_=>False
 | .slice T x lo hi wa=>bif known e o.op.operands then
     Qp P T (ro e x) (lo.map (ro e)) (hi.map (ro e)) (wa.map (ro e)) K
   else False
 | .convert s d x=>match bC e x with
   |some (.int _ _)=>Ja P o K e
   |some v=>qs (aI o.type) fun r=>(∀w',ao W w w'→(convert s d v).run P w'= .ok r w')∧K r
   |none=>False
 | .build t ps=>bif known e o.op.operands then
     ∃cs:Array Value,(∀w',(Instr.build t (ps.map fun p=>(p.1,ro e p.2))).run P w'= .ok (.agg cs) w')∧K (.agg cs)
   else False
 | .unOp _ _ _=>Ja P o K e
 | .call _=>Ja P o K e
 | .move _=>Ml P o K e w
 | .assign _=>Ml P o K e w
 | .pick _ _ _=>Ml P o K e w
 | .sliceToArrayPointer T x=>match bC e x with
   |some fX=>Ql P T fX K
   |_=>False
 |_=>False
section
variable {P:Program} {aI:TypeId→j9} {W:Nat→Prop} {o:Oper} {K:Value→Prop} {e:Env} {a:Act} {w:World}
theorem Wt (ax:gq e a) (h:Ml P o K e w):∃v,(∀w',(execOp a.eval o).run P w'= .ok (.value v) w')∧K v:=by
 unfold Ml at h
 cases aG:aeB o.op with
 |false=>rw[aG] at h;exact h.elim
 |true=>
   cases ae:known e o.op.operands with
   |false=>rw[aG,ae] at h;exact h.elim
   |true=>
     rw[aG,ae] at h
     simp only[Bool.and_self,cond_true] at h
     have al:=we ax (by cases cc:o.op<;>rw[cc] at aG<;>first|rfl|cases aG) ae
     rw[al]
     split at h
     · rename_i v w' aN
       refine ⟨v,fun u=>my.run ?_ aN u,h⟩
       cases cc:o.op<;>rw[cc] at aG<;>first|(cases aG;done)|skip
       · simp only[execOp,cc];trivial
       · simp only[execOp,cc];trivial
       · simp only[execOp,cc]
         refine my.bind ?_ fun _=>trivial
         unfold asBool;split<;>trivial
       · simp only[execOp,cc]
         exact my.bind (as4 _ _ _) fun _=>trivial
     · exact h.elim
theorem Qt (ax:gq e a) (h:Ja P o K e):∃v,(∀w',(execOp a.eval o).run P w'= .ok (.value v) w')∧K v:=by
 unfold Ja at h
 split at h
 · rename_i v ak
   exact ⟨v,aew ax ak,h⟩
 · exact h.elim
theorem as5 (ax:gq e a) (h:Ws P aI W w o K e):∃v,(∀w',(tE o=true→ao W w w')→(execOp a.eval o).run P w'= .ok (.value v) w')∧K v:=by
 have bz:(∃v,(∀w',(execOp a.eval o).run P w'= .ok (.value v) w')∧K v)→∃v,(∀w',(tE o=true→ao W w w')→(execOp a.eval o).run P w'= .ok (.value v) w')∧K v:=
   fun ⟨v,U,ad⟩=>⟨v,fun w' _=>U w',ad⟩
 unfold Ws at h
 split at h
 case h_1 x cc=>
   split at h
   · rename_i p af
     obtain ⟨A,rfl,bu⟩:=h
     exact ⟨_,fun w' _=>by simp[execOp,cc,ax.bC af],bu⟩
   · exact h.elim
 case h_2 T x cc=>
   split at h
   · rename_i A af
     obtain ⟨dk,h⟩:=h
     have key:∃v,(∀w',ao W w w'→(Instr.loadAt T (.pointer (some A))).run P w'= .ok v w')∧K v:=by
       have a_:∀w',(Instr.loadAt T (.pointer (some A))).run P w'=(loadVar T A).run P w':=fun w'=>by simp[Instr.loadAt,Instr.sureAddr]
       unfold I5 at h
       split at h
       · exact h.elim
       · rename_i d bj
         cases hd:zK d with
         |true=>
           rw[hd] at h
           simp only[cond_true] at h
           split at h
           · rename_i ls _
             by_cases ab:Nat.beq (P.cellsOf T) ls.length=true
             · rw[ab] at h
               simp only[cond_true] at h
               obtain ⟨vs,kz,h⟩:=Wi h
               rw[←qA ab] at kz
               exact ⟨_,fun w' al=>by rw[a_,Qh bj hd (al.eK dk _ _ _ kz)],h⟩
             · simp only[lS] at ab;rw[ab] at h;exact h.elim
           · obtain ⟨cs,ec,h⟩:=h
             exact ⟨_,fun w' al=>by rw[a_,Qh bj hd (al.eK dk _ _ _ ec)],h⟩
         |false=>
           rw[hd] at h
           simp only[cond_false] at h
           split at h
           · obtain ⟨v,ak,h⟩:=I4 h
             exact ⟨v,fun w' al=>by rw[a_,ad_ bj hd (al.cell dk ak)],h⟩
           · exact h.elim
     obtain ⟨v,ak,bu⟩:=key
     exact ⟨v,fun w' al=>by simp[execOp,cc,ax.bC af,ak w' (al (by unfold tE;rw[cc]))],bu⟩
   · exact h.elim
 case h_3 op T x y aet cc=>
   split at h
   · rename_i fX wc af b8
     by_cases aC:I9 y wc=true
     · rw[aC] at h
       simp only[cond_true] at h
       have L0:wc= .nilIface→∃c,y= .const c:=by
         intro ak
         subst ak
         cases y<;>simp[I9] at aC⊢
       rcases aeg (Mb:=x) (I8:=y) L0 h with bg|⟨v,ak,bu⟩
       · exact bz (Qt ax bg)
       · exact ⟨v,fun w' _=>by
           simp only[execOp,cc,ax.bC af,ax.bC b8]
           have qO:=ak w'
           simp only[Sem.run_bind] at qO⊢
           rw[qO];rfl,bu⟩
     · simp only[lS] at aC;rw[aC] at h;exact h.elim
   · exact h.elim
 case h_4 T x i cc=>
   split at h
   · rename_i fX po af hi
     obtain ⟨v,ak,bu⟩:=aei h
     exact ⟨v,fun w' _=>by simp[execOp,cc,ax.bC af,ax.bC hi,ak],bu⟩
   · exact h.elim
 case h_5 T x i cc=>
   split at h
   · rename_i fX po af hi
     obtain ⟨v,ak,bu⟩:=aek h
     exact ⟨v,fun w' _=>by simp[execOp,cc,ax.bC af,ax.bC hi,ak],bu⟩
   · exact h.elim
 case h_6 T x i cc=>
   split at h
   · rename_i fX af
     obtain ⟨v,ak,bu⟩:=ael h
     exact ⟨v,fun w' _=>by simp[execOp,cc,ax.bC af,ak],bu⟩
   · exact h.elim
 case h_7 T x i cc=>
   split at h
   · rename_i fX af
     unfold aeC at h
     split at h
     · rename_i fs bj
       split at h
       · rename_i f aG
         split at h
         · rename_i A
           split at h
           · rename_i d hd
             cases bO:Nat.beq (P.cellsOf f.type) 0 with
             |true=>rw[bO] at h;exact h.elim
             |false=>
               rw[bO] at h
               have Ic:¬P.cellsOf f.type=0:=fun b7=>by rw[b7] at bO;cases bO
               exact ⟨_,fun w' _=>by simp[execOp,cc,ax.bC af,Instr.fieldAt,gj bj,aG,Instr.sureAddr,fieldPlace,qE hd,Ic],h⟩
           · exact h.elim
         · exact h.elim
       · exact h.elim
     · exact h.elim
   · exact h.elim
 case h_8 x i cc=>
   split at h
   · rename_i fX af
     unfold aeD at h
     split at h
     · rename_i vs
       split at h
       · rename_i v ak
         exact ⟨v,fun w' _=>by simp[execOp,cc,ax.bC af,Instr.extract,ak],h⟩
       · exact h.elim
     · exact h.elim
   · exact h.elim
 case h_9 T x lo hi wa cc=>
   by_cases ae:known e o.op.operands=true
   · rw[ae] at h
     simp only[cond_true] at h
     have al:=we ax (by rw[cc];rfl) ae
     obtain ⟨v,ak,bu⟩:=aem h
     exact ⟨v,fun w' _=>by rw[al];simp[execOp,cc,ak],bu⟩
   · simp only[lS] at ae;rw[ae] at h;exact h.elim
 case h_10 s d x cc=>
   split at h
   · exact bz (Qt ax h)
   · rename_i v _ af
     obtain ⟨r,aN,bu⟩:=rf h
     exact ⟨r,fun w' al=>by simp[execOp,cc,ax.bC af,aN w' (al (by unfold tE;rw[cc]))],bu⟩
   · exact h.elim
 case h_11 t ps cc=>
   by_cases ae:known e o.op.operands=true
   · rw[ae] at h
     simp only[cond_true] at h
     have al:=we ax (by rw[cc];rfl) ae
     obtain ⟨cs,aN,bu⟩:=h
     exact ⟨_,fun w' _=>by rw[al];simp[execOp,cc];rw[aN];rfl,bu⟩
   · simp only[lS] at ae;rw[ae] at h;exact h.elim
 case h_12=>exact bz (Qt ax h)
 case h_13=>exact bz (Qt ax h)
 case h_14=>exact bz (Wt ax h)
 case h_15=>exact bz (Wt ax h)
 case h_16=>exact bz (Wt ax h)
 case h_17 T x cc=>
   split at h
   · rename_i fX af
     obtain ⟨v,ak,bu⟩:=aeh h
     exact ⟨v,fun w' _=>by simp[execOp,cc,ax.bC af,ak],bu⟩
   · exact h.elim
 case h_18=>exact h.elim
end
inductive aZ where
 |take (i:Nat) (t:aZ)
 |cP (i:Nat) (t:aZ)
 |out (i:Nat) (b:Bool) (t:aZ)
 |two (i:Nat) (t:aZ) (j:Nat) (u:aZ)
 |three (i:Nat) (t:aZ) (j:Nat) (u:aZ) (k:Nat) (v:aZ)
 |sp (s:Nat) (t u:aZ)
 |fin
 |tail (as:List BW)
def qt:List Nat→Nat
 | []=>0
 |d::l=>2^d|||qt l
theorem BY:∀ (l:List Nat) (k:Nat),(qt l).testBit k=decide (k∈l)
 | [],k=>by simp[qt]
 |d::l,k=>by
   simp only[qt,Cg,BY l k,JP]
   by_cases h:d=k
   · subst h;simp
   · have:¬k=d:=fun oo=>h oo.symm
     simp[h,this]
def Er (o:Oper):List Nat:=(o.after.toList.filter fun e=>Region.binds .any e).map (·.on)
structure wg where
 M:List Nat
 A:List Nat
def wh (l:List Nat) (i:Nat):Nat:=l.getD i 0
def wi (cT:wg) (m i:Nat):Bool:= !(m.testBit i)&&Nat.beq (wh cT.M i&&&m) (wh cT.M i)
def aeE (cT:wg) (N m i:Nat):Bool:=Nat.beq (wh cT.A i&&&((2^N-1)^^^m)) 0
def x8 (cT:wg) (m:Nat) (is:List Nat):Nat→Bool
 |0=>true
 |k+1=>(is.any (Nat.beq k)|| !(wi cT m k))&&x8 cT m is k
def Mm (cT:wg):Nat→List Oper→Bool
 |_,[]=>true
 |i,o::l=>Nat.beq (qt (Er o)) (wh cT.M i)&&Mm cT (i+1) l
def Mn (M:List Nat) (GG i GH GI:Nat):Nat→List Nat→List Nat→List Nat→Bool
 |j,Jb::Jc,Es::uM,Jd::uN=>(GG.testBit j||(Nat.beq i j||(Jb.testBit i||(Nat.beq (GH&&&(Jd|||Es)) 0&&Nat.beq (Es&&&GI) 0))))&&Mn M GG i GH GI (j+1) Jc uM uN
 |_,_,_,_=>true
def Qu (cT:wg) (D K:List Nat):Nat→List Nat→List Nat→Bool
 |i,d::uM,k::uN=>Mn cT.M (wh cT.A i) i d k 0 cT.M D K&&Qu cT D K (i+1) uM uN
 |_,_,_=>true
def aeF (ops:List Oper):List Nat:=ops.map fun o=>qt o.dst.toList
def aeG (GJ:Array Oper) (ops:List Oper):List Nat:=ops.map fun o=>qt (o.looksAt GJ)
def Mo:List Nat→List Nat→Bool
 | [],[]=>true
 |a::l,b::r=>Nat.beq a b&&Mo l r
 |_,_=>false
theorem Wu:∀ {l r:List Nat},Mo l r=true→l=r
 | [],[],_=>rfl
 |a::l,b::r,h=>by
   simp only[Mo,jL] at h
   rw[qA h.1,Wu h.2]
def zM (cT:wg) (D K:List Nat) (GJ:Array Oper):Bool:=
 Nat.beq cT.M.length GJ.size&&(Mm cT 0 GJ.toList&&(Mo (aeF GJ.toList) D&&(Mo (aeG GJ GJ.toList) K&&Qu cT D K 0 D K)))
def Mp (cT:wg):Nat→Nat→Nat→Nat→Bool
 |0,_,N,m=>x8 cT m [] N
 |g+1,k,N,m=>(wi cT m k&&x8 cT m [k] N)&&Mp cT g (k+1) N (m|||2^k)
def hZ (P:Program) (aI:TypeId→j9) (ops:Array Oper) (n:Nat) (cT:wg) (W:Nat→Prop):aZ→Nat→Nat→(Env→World→Prop)→Env→World→Prop
 | .take i t,f+1,m,K,e,w=>
   bif wi cT m i&&(aeE cT ops.size m i&&Nat.blt i n) then
     match ops[i]? with
     |some o=>oW ops o e (Ws P aI W w o (fun v=>hZ P aI ops n cT W t f (m|||2^i) K (fW o.dst v e) w) e) (hZ P aI ops n cT W t f (m|||2^i) K (fW o.dst undef e) w)
     |none=>False
   else False
 | .cP i t,f+1,m,K,e,w=>
   bif (wi cT m i&&x8 cT m [i] ops.size)&&Nat.blt i n then
     match ops[i]? with
     |some o=>oW ops o e (tC P aI o (fun v w'=>ao W w w'∧hZ P aI ops n cT W t f (m|||2^i) K (fW o.dst v e) w') e w) (hZ P aI ops n cT W t f (m|||2^i) K (fW o.dst undef e) w)
     |none=>False
   else False
 | .out i b t,f+1,m,K,e,w=>
   bif (wi cT m i&&x8 cT m [i] ops.size)&&(Nat.blt i n&&Nat.beq ((x7 0 ops.toList&&&m)&&&wh cT.M i) (x7 0 ops.toList&&&m)) then
     match ops[i]? with
     |some o=>oW ops o e (tC P aI o (fun v w'=>bif b then ∃V:Nat→Prop,hZ P aI ops n cT V t f (m|||2^i) K (fW o.dst v e) w' else hZ P aI ops n cT W t f (m|||2^i) K (fW o.dst v e) w') e w) (hZ P aI ops n cT W t f (m|||2^i) K (fW o.dst undef e) w)
     |none=>False
   else False
 | .two i t j u,f+1,m,K,e,w=>
   bif (wi cT m i&&x8 cT m [i,j] ops.size)&&(Nat.blt i n&&Nat.blt j n) then
     match ops[i]?,ops[j]? with
     |some o,some q=>
       oW ops o e (tC P aI o (fun v w'=>ao W w w'∧hZ P aI ops n cT W t f (m|||2^i) K (fW o.dst v e) w') e w) (hZ P aI ops n cT W t f (m|||2^i) K (fW o.dst undef e) w)∧
       oW ops q e (tC P aI q (fun v w'=>ao W w w'∧hZ P aI ops n cT W u f (m|||2^j) K (fW q.dst v e) w') e w) (hZ P aI ops n cT W u f (m|||2^j) K (fW q.dst undef e) w)
     |_,_=>False
   else False
 | .three i t j u k x,f+1,m,K,e,w=>
   bif (wi cT m i&&x8 cT m [i,j,k] ops.size)&&(Nat.blt i n&&(Nat.blt j n&&Nat.blt k n)) then
     match ops[i]?,ops[j]?,ops[k]? with
     |some o,some q,some r=>
       oW ops o e (tC P aI o (fun v w'=>ao W w w'∧hZ P aI ops n cT W t f (m|||2^i) K (fW o.dst v e) w') e w) (hZ P aI ops n cT W t f (m|||2^i) K (fW o.dst undef e) w)∧
       oW ops q e (tC P aI q (fun v w'=>ao W w w'∧hZ P aI ops n cT W u f (m|||2^j) K (fW q.dst v e) w') e w) (hZ P aI ops n cT W u f (m|||2^j) K (fW q.dst undef e) w)∧
       oW ops r e (tC P aI r (fun v w'=>ao W w w'∧hZ P aI ops n cT W x f (m|||2^k) K (fW r.dst v e) w') e w) (hZ P aI ops n cT W x f (m|||2^k) K (fW r.dst undef e) w)
     |_,_,_=>False
   else False
 | .sp s t u,f,m,K,e,w=>
   match e.get s with
   |some (.bool c)=>(c=true→hZ P aI ops n cT W t f m K ((s, .bool true)::e) w)∧(c=false→hZ P aI ops n cT W u f m K ((s, .bool false)::e) w)
   |_=>False
 | .fin,0,m,K,e,w=>bif x8 cT m [] ops.size&&Nat.beq n ops.size then K e w else False
 | .tail as,0,m,K,e,w=>bif Mp cT (ops.size-n) n ops.size m&&Nat.blt n ops.size then mx P aI ops (ops.size-n+1) (ops.toList.drop n) as K e w else False
 |_,_,_,_,_,_=>False
def je (N m:Nat):Array Bool:=(Array.range N).map fun i=>m.testBit i
theorem Je {N m i:Nat} {d:Bool} (h:i<N):(je N m).getD i d=m.testBit i:=by
 simp[je,h]
theorem as6 {N m i:Nat} {d:Bool} (h:N≤i):(je N m).getD i d=d:=by
 simp[je,h]
theorem Qv (N m i:Nat):(je N m).setIfInBounds i true=je N (m|||2^i):=by
 apply Array.ext
 · simp[je]
 · intro j U ad
   have a8:j<N:=by simpa[je] using ad
   have au:j<(je N m).size:=by simpa[je] using a8
   rw[Array.getElem_setIfInBounds au]
   simp only[je,Array.getElem_map,Array.getElem_range,Cg,JP]
   by_cases VK:i=j
   · subst VK;simp
   · simp[VK]
theorem aeH (N:Nat):je N 0=Array.replicate N false:=by
 apply Array.ext
 · simp[je]
 · intro j U ad
   simp[je]
section
variable {ops:Array Oper} {cT:wg} {D K:List Nat}
theorem aeI:∀ (l:List Oper) (i k:Nat) (o:Oper),Mm cT i l=true→l[k]? =some o→wh cT.M (i+k)=qt (Er o)
 | [],_,_,_,_,h=>by simp at h
 |p::l,i,0,o,al,h=>by
   simp only[Mm,jL] at al
   simp only[z2,Option.some.injEq] at h
   subst h
   exact (qA al.1).symm
 |p::l,i,k+1,o,al,h=>by
   simp only[Mm,jL] at al
   have:=aeI l (i+1) k o al.2 (by simpa using h)
   rw[show i+(k+1)=i+1+k by omega]
   exact this
theorem Qw (h:zM cT D K ops=true) {i:Nat} {o:Oper} (bE:ops[i]? =some o):wh cT.M i=qt (Er o):=by
 simp only[zM,jL] at h
 have:=aeI ops.toList 0 i o h.2.1 (by simpa using bE)
 simpa using this
theorem aeJ {a b:Nat} (h:a&&&b=a) {k:Nat} (ae:a.testBit k=true):b.testBit k=true:=by
 have:=congrArg (fun x=>x.testBit k) h
 simp only[Nat.testBit_and,ae,ES] at this
 exact this
theorem aeK:∀ (l:List Oper) (i k:Nat) (o:Oper),l[k]? =some o→(x7 i l).testBit (i+k)=tE o
 | [],_,_,_,h=>by simp at h
 |p::l,i,0,o,h=>by
   simp only[z2,Option.some.injEq] at h
   subst h
   have low:∀ (l:List Oper) (i k:Nat),k<i→(x7 i l).testBit k=false:=by
     intro l
     induction l with
     |nil=>intro i k _;simp[x7]
     |cons q l dr=>
       intro i k ae
       simp only[x7]
       cases tE q
       · exact dr (i+1) k (by omega)
       · simp only[cond_true,Cg,JP,dr (i+1) k (by omega),Bool.or_false,tL]
         omega
   simp only[x7,zV]
   cases tE p
   · exact low l (i+1) i (by omega)
   · simp[Cg]
 |p::l,i,k+1,o,h=>by
   have:=aeK l (i+1) k o (by simpa using h)
   rw[show i+1+k=i+(k+1) by omega] at this
   simp only[x7]
   cases tE p
   · exact this
   · simp only[cond_true,Cg,JP,this]
     simp
theorem Qx {o:Oper} {k:Nat}:k∈Er o↔∃e∈o.after,Region.binds .any e=true∧e.on=k:=by
 simp only[Er,oa,GX,Array.mem_toList_iff]
 constructor
 · rintro ⟨e,⟨U,ad⟩,au⟩;exact ⟨e,U,ad,au⟩
 · rintro ⟨e,U,ad,au⟩;exact ⟨e,⟨U,ad⟩,au⟩
def Small (N m:Nat):Prop:=∀k,N≤k→m.testBit k=false
theorem as7 (N:Nat):Small N 0:=fun k _=>by simp
theorem Qy {N m i:Nat} (h:Small N m) (hi:i<N):Small N (m|||2^i):=fun k ae=>by
 simp only[Cg,h k ae,JP,G6,tL]
 omega
theorem Qz (al:zM cT D K ops=true) {m i:Nat} (hm:Small ops.size m):i∈Region.ready .any ops (je ops.size m)↔i<ops.size∧wi cT m i=true:=by
 rw[mem_ready]
 constructor
 · rintro ⟨U,o,bE,fw⟩
   have hi:i<ops.size:=(JT.1 bE).1
   refine ⟨hi,?_⟩
   rw[Je hi] at U
   simp only[wi,U,Bool.not_false,ES]
   rw[Qw al bE]
   have:qt (Er o)&&&m=qt (Er o):=by
     apply Nat.eq_of_testBit_eq
     intro k
     simp only[Nat.testBit_and,BY]
     by_cases ae:k∈Er o
     · obtain ⟨e,he,ab,Mq⟩:=Qx.1 ae
       have ad:=fw e he ab
       rw[Mq] at ad
       rcases g8 k ops.size with ba|ck
       · rw[Je ba] at ad;simp[ae,ad]
       · rw[as6 ck] at ad;cases ad
     · simp[ae]
   rw[this];exact Nat.beq_refl _
 · rintro ⟨hi,h⟩
   simp only[wi,jL,zX] at h
   have bE:ops[i]? =some ops[i]:=by simp[hi]
   refine ⟨by rw[Je hi];exact h.1,ops[i],bE,fun e he ab=> ?_⟩
   have ad:=qA h.2
   rw[Qw al bE] at ad
   have au:m.testBit e.on=true:=aeJ ad (by
     rw[BY];simp only[fx];exact Qx.2 ⟨e,he,ab,rfl⟩)
   have ba:e.on<ops.size:=by
     rcases g8 e.on ops.size with h|h
     · exact h
     · rw[hm _ h] at au;cases au
   rw[Je ba];exact au
theorem aeL:∀ (N:Nat) {m:Nat} {is:List Nat},x8 cT m is N=true→∀k,k<N→wi cT m k=true→k∈is
 |0,_,_,_,k,ae,_=>by omega
 |N+1,m,is,h,k,ae,aN=>by
   simp only[x8,jL,wu,zX] at h
   rcases g8 k N with U|U
   · exact aeL N h.2 k U aN
   · have:k=N:=by omega
     subst this
     rcases h.1 with ad|ad
     · obtain ⟨x,af,ab⟩:=List.any_eq_true.1 ad
       rw[qA ab];exact af
     · rw[aN] at ad;cases ad
theorem GK (al:zM cT D K ops=true) {m:Nat} {is:List Nat} (hm:Small ops.size m) (h:x8 cT m is ops.size=true):
   ∀k∈Region.ready .any ops (je ops.size m),k∈is:=fun k ae=>
 let ⟨U,ad⟩:=(Qz al hm).1 ae
 aeL _ h k U ad
theorem aeM:∀ (Jc uM uN:List Nat) (Wv:List Nat) (GG i GH GI j k:Nat) (Jb Es Jd:Nat),Mn Wv GG i GH GI j Jc uM uN=true→Jc[k]? =some Jb→uM[k]? =some Es→uN[k]? =some Jd→
   GG.testBit (j+k)=true∨i=j+k∨Jb.testBit i=true∨(GH&&&(Jd|||Es)=0∧Es&&&GI=0)
 | [],_,_,_,_,_,_,_,_,_,_,_,_,_,h,_,_=>by simp at h
 |_::_,[],_,_,_,_,_,_,_,_,_,_,_,_,_,h,_=>by simp at h
 |_::_,_::_,[],_,_,_,_,_,_,_,_,_,_,_,_,_,h=>by simp at h
 |awM::Jc,awN::uM,awO::uN,Wv,GG,i,GH,GI,j,k,Jb,Es,Jd,al,U,ad,au=>by
   simp only[Mn,jL,wu] at al
   cases k with
   |zero=>
     simp only[z2,Option.some.injEq] at U ad au
     subst U ad au
     rcases al.1 with h|h|h|h
     · exact .inl h
     · exact .inr (.inl (qA h))
     · exact .inr (.inr (.inl h))
     · exact .inr (.inr (.inr ⟨qA h.1,qA h.2⟩))
   |succ k=>
     have:=aeM Jc uM uN Wv GG i GH GI (j+1) k Jb Es Jd al.2 (by simpa using U) (by simpa using ad) (by simpa using au)
     rw[show j+(k+1)=j+1+k by omega]
     exact this
theorem aeN:∀ (uM uN:List Nat) (i k:Nat) (QA QB:Nat),Qu cT D K i uM uN=true→uM[k]? =some QA→uN[k]? =some QB→
   Mn cT.M (wh cT.A (i+k)) (i+k) QA QB 0 cT.M D K=true
 | [],_,_,_,_,_,_,h,_=>by simp at h
 |_::_,[],_,_,_,_,_,_,h=>by simp at h
 |d::uM,uD::uN,i,k,QA,QB,al,U,ad=>by
   simp only[Qu,jL] at al
   cases k with
   |zero=>
     simp only[z2,Option.some.injEq] at U ad
     subst U ad
     exact al.1
   |succ k=>
     have:=aeN uM uN (i+1) k QA QB al.2 (by simpa using U) (by simpa using ad)
     rw[show i+(k+1)=i+1+k by omega]
     exact this
theorem Ww {a b:Nat} (h:a&&&b=0) {k:Nat} (aU:a.testBit k=true):b.testBit k=false:=by
 have:=congrArg (fun x=>x.testBit k) h
 simp only[Nat.testBit_and,aU,ES,Nat.zero_testBit] at this
 exact this
theorem as8 {x y:Oper} (U:qt x.dst.toList&&&(qt (y.looksAt ops)|||qt y.dst.toList)=0) (ad:qt y.dst.toList&&&qt (x.looksAt ops)=0):
   x.apart ops y=true:=by
 unfold Oper.apart
 simp only[jL]
 refine ⟨?_,?_⟩
 · cases af:x.dst with
   |none=>rfl
   |some d=>
     rw[af] at U
     have au:=Ww U (k:=d) (by rw[BY];simp)
     simp only[Cg,BY,Nj,tL] at au
     simp only[jL,zX,bne_iff_ne,ne_eq]
     refine ⟨by simpa using au.1,fun h=> ?_⟩
     rw[h] at au
     simp at au
 · cases b8:y.dst with
   |none=>rfl
   |some d=>
     rw[b8] at ad
     have au:=Ww ad (k:=d) (by rw[BY];simp)
     simp only[BY,tL] at au
     simpa using au
theorem as9 (al:zM cT D K ops=true) {m i:Nat} {wj:Oper} (hi:ops[i]? =some wj) (h:aeE cT ops.size m i=true):
   ∀j qu,ops[j]? =some qu→j≠i→(je ops.size m).getD j true=false→(∀e∈qu.after,Region.binds .any e=true→e.on≠i)→wj.apart ops qu=true:=by
 intro j qu a8 sL sM dc
 have pc:=al
 simp only[zM,jL] at al
 obtain ⟨hlen,BL,vm,bu,ax⟩:=al
 have abI:=qA hlen
 have Ay:=Wu vm
 have as_:=Wu bu
 have aeO:j<ops.size:=(JT.1 a8).1
 have aeP:∀ {k:Nat} {o:Oper},ops[k]? =some o→D[k]? =some (qt o.dst.toList):=fun {k o} bE=>by
   rw[←Ay];simp[aeF,bE]
 have aeQ:∀ {k:Nat} {o:Oper},ops[k]? =some o→K[k]? =some (qt (o.looksAt ops)):=fun {k o} bE=>by
   rw[←as_];simp[aeG,bE]
 have Wx:=aeN D K 0 i _ _ ax (aeP hi) (aeQ hi)
 have ata:cT.M[j]? =some (wh cT.M j):=by
   unfold wh
   have:j<cT.M.length:=by omega
   simp[List.getD,this]
 have:=aeM cT.M D K cT.M _ _ _ _ 0 j _ _ _ Wx ata (aeP a8) (aeQ a8)
 simp only[gy] at this
 rcases this with U|U|U|U
 · exfalso
   have ad:=qA h
   have au:=Ww ad U
   rw[Je aeO] at sM
   simp[Nat.testBit_xor,Nat.testBit_two_pow_sub_one,aeO,sM] at au
 · exact absurd U.symm sL
 · exfalso
   rw[Qw pc a8,BY] at U
   simp only[fx] at U
   obtain ⟨e,he,ab,Mq⟩:=Qx.1 U
   exact dc e he ab Mq
 · exact as8 U.1 U.2
end
def GL (ops:Array Oper) (gr:Array Bool) (j:Nat):Prop:=
 ∀k ok qu,ops[k]? =some ok→ops[j]? =some qu→tE ok=true→gr.getD k false=true→∃e∈qu.after,Region.binds .any e=true∧e.on=k
def zN (P:Program) (ops:Array Oper) (Q:Exit→Act→World→Prop) (n:Nat) (L:Array Bool→Act→World→Prop):Nat→(World→Prop)→Array Bool→Act→World→Prop
 |0,_,gr,a,w=>L gr a w
 |f+1,S,gr,a,w=>Region.ready .any ops gr≠ []∧
     ∀i∈Region.ready .any ops gr,i<n∧wpOp P ops Q i (fun dg w'=>∃gS:World→Prop,((∀x,gS x→S x)∨GL ops gr i)∧gS w'∧zN P ops Q n L f gS (gr.setIfInBounds i true) dg w') a w
def Mr (ops:Array Oper) (n:Nat):Prop:=
 ∀gr,HeadInv .any ops n gr→∀i,i<n→gr.getD i true=false→∀t,n≤t→t∉Region.ready .any ops gr
theorem atb (ops:Array Oper):Mr ops ops.size:=by
 intro gr _ i _ _ t aR aN
 obtain ⟨_,o,bE,_⟩:=mem_ready.1 aN
 have:=(JT.1 bE).1
 omega
theorem atc {ops:Array Oper} {n:Nat} (aj:Region.sinkB .any ops n=true) (al:Region.chainB .any ops n=true) (aC:n<ops.size):Mr ops n:=
 fun _ inv i hi sM t aR=>tail_waits aj al aC inv _ i rfl hi sM t aR
section
variable {P:Program} {ops:Array Oper} {Q:Exit→Act→World→Prop} {n:Nat} {L:Array Bool→Act→World→Prop}
theorem YieldsIf.mono {S gS:World→Prop} {o:Oper} {v:Value} {a:Act} (h:YieldsIf P ops S o v a) (aj:∀x,gS x→S x):YieldsIf P ops gS o v a:=
 h.imp (fun ⟨U,ad⟩=>⟨U,fun w hw=>ad w (aj w hw)⟩) id
theorem atd (Jf:Mr ops n) {i:Nat} {wj:Oper} {v:Value} (hi:ops[i]? =some wj) (QC:∀ (j:Nat) (o:Oper) cs b,ops[j]? =some o→o.op≠ .select cs b)
   (yA:∀c a w,Q (.panic c) (a.put wj.dst v) w→Q (.panic c) a w) (fp:i<n) (tr:∀gr a w,L gr a w→∀j∈Region.ready .any ops gr,n≤j):
   ∀ (f:Nat) (S T:World→Prop) (gr:Array Bool) (a:Act) (w:World),(∀x,S x→T x)→(tE wj=true∨∀x,T x)→HeadInv .any ops n gr→
     (∀j qu,ops[j]? =some qu→j≠i→gr.getD j true=false→(∀e∈qu.after,Region.binds .any e=true→e.on≠i)→wj.apart ops qu=true)→
     i∈Region.ready .any ops gr→YieldsIf P ops T wj v a→S w→
     zN P ops Q n L f S (gr.setIfInBounds i true) (a.put wj.dst v) w→zN P ops Q n L (f+1) S gr a w:=by
 intro f
 induction f with
 |zero=>
   intro S T gr a w QD H4 inv _ aN b8 o3 H
   have sM:=(mem_ready.1 aN).1
   refine ⟨fun h=>(by rw[h] at aN;cases aN),fun j a8=> ?_⟩
   have Ms:j<n:=by
     rcases g8 j n with h|h
     · exact h
     · exact absurd a8 (Jf gr inv i fp sM j h)
   refine ⟨Ms,?_⟩
   by_cases sL:j=i
   · subst sL;exact (YieldsIf.mono b8 QD).wpOp hi o3 ⟨S, .inl fun _ h=>h,o3,H⟩
   · have:=tr _ _ _ H j (ready_mono a8 sL)
     omega
 |succ f dr=>
   intro S T gr a w QD H4 inv K2 aN b8 o3 H
   have sM:=(mem_ready.1 aN).1
   refine ⟨fun h=>(by rw[h] at aN;cases aN),fun j a8=> ?_⟩
   have Ms:j<n:=by
     rcases g8 j n with h|h
     · exact h
     · exact absurd a8 (Jf gr inv i fp sM j h)
   refine ⟨Ms,?_⟩
   by_cases sL:j=i
   · subst sL;exact (YieldsIf.mono b8 QD).wpOp hi o3 ⟨S, .inl fun _ h=>h,o3,H⟩
   · have U:=(H.2 j (ready_mono a8 sL)).2
     obtain ⟨aeR,qu,QE,fw⟩:=mem_ready.1 a8
     have LP:∀e∈qu.after,Region.binds .any e=true→e.on≠i:=fun e he ab heq=>by
       have U:=fw e he ab
       rw[heq,getD_both sM] at U
       cases U
     have ad:=wpOp_putIf QE (K2 j qu QE sL aeR LP) (fun cs b=>QC i wj cs b hi) (fun cs b=>QC j qu cs b QE) yA b8 U
     have aeS:∀k ok,ops[k]? =some ok→k≠i→(gr.setIfInBounds j true).getD k true=false→
         (∀e∈ok.after,Region.binds .any e=true→e.on≠i)→wj.apart ops ok=true:=fun k ok ae lj sM dc=>by
       refine K2 k ok ae lj ?_ dc
       by_cases aeT:j=k
       · subst aeT;exact aeR
       · rw[getD_set_ne true aeT] at sM;exact sM
     refine wpOp_mono (fun dg w' au=> ?_) ad
     obtain ⟨aeU,gS,ij,QF,BL⟩:=au
     have I2:=BL
     rw[←Array.setIfInBounds_comm _ _ sL] at I2
     have Wy:GL ops (gr.setIfInBounds i true) j→GL ops gr j:=fun aW k ok ate ae C9 aj az=>aW k ok ate ae C9 aj (by
       by_cases og:i=k
       · subst og
         have:gr.getD i true=true:=by
           simp only[Array.getD] at az⊢
           split at az
           · rename_i ba;simp[ba] at az⊢;exact az
           · cases az
         rw[this] at sM;cases sM
       · simp only[Array.getD,Array.size_setIfInBounds] at az⊢
         split at az
         · rename_i ba
           simp only[ba,dif_pos]
           simp only[Array.getInternal_eq_getElem] at az⊢
           rw[Array.getElem_setIfInBounds_ne _ og]
           exact az
         · cases az)
     rcases H4 with aj|aeV
     · have aeW:∀x,gS x→S x:=by
         rcases ij with h|h
         · exact h
         · exfalso
           obtain ⟨e,he,ab,Mq⟩:=h i wj qu hi QE aj (by
             have ba:i<gr.size:=by
               rcases g8 i gr.size with h|h
               · exact h
               · simp[Array.getD,Nat.not_lt.2 h] at sM
             simp[Array.getD,ba])
           exact LP e he ab Mq
       exact ⟨gS, .inl aeW,QF,dr gS T (gr.setIfInBounds j true) dg w' (fun x af=>QD x (aeW x af)) (.inl aj) (inv.set a8 Ms) aeS (ready_mono aN (Ne.symm sL)) aeU QF I2⟩
     · exact ⟨gS,ij.imp id Wy,QF,dr gS T (gr.setIfInBounds j true) dg w' (fun x _=>aeV x) (.inr aeV) (inv.set a8 Ms) aeS (ready_mono aN (Ne.symm sL)) aeU QF I2⟩
theorem aeX {g:Nat} (du:∀gr a w,L gr a w→wpAny P .any ops Q g gr a w):
   ∀ (f:Nat) (S:World→Prop) (gr:Array Bool) (a:Act) (w:World),zN P ops Q n L f S gr a w→wpAny P .any ops Q (f+g) gr a w
 |0,_,gr,a,w,h=>by rw[gy];exact du _ _ _ h
 |f+1,S,gr,a,w,h=>by
   rw[show f+1+g=(f+g)+1 by omega]
   exact ⟨fun b7=>absurd b7 h.1,fun i hi=>wpOp_mono (fun dg w' ⟨gS,_,_,oo⟩=>aeX du f gS _ dg w' oo) (h.2 i hi).2⟩
def LE (P:Program) (ops:Array Oper) (Q:Exit→Act→World→Prop) (n:Nat) (gr:Array Bool) (a:Act) (w:World):Prop:=
 (Region.ready .any ops gr=[]∧n=ops.size∧Q .normal a w)∨
 (Region.seqB .any ops (ops.size-n) n gr=true∧n<ops.size∧wpList P ops Q (ops.toList.drop n) a w)
theorem atf:∀gr a w,LE P ops Q n gr a w→∀j∈Region.ready .any ops gr,n≤j:=by
 rintro gr a w (⟨h,_,_⟩|⟨h,aC,_⟩) j a8
 · rw[h] at a8;cases a8
 · exact seqB_ready h j a8
theorem atg:∀gr a w,LE P ops Q n gr a w→wpAny P .any ops Q (ops.size-n) gr a w:=by
 rintro gr a w (⟨h,aC,J⟩|⟨h,aC,J⟩)
 · subst aC
   rw[EO]
   exact ⟨h,J⟩
 · have:=wpAny_of_seq (md:= .any) (P:=P) (Q':=Q) (ops.toList.drop n) n gr a w (fun j=>by simp[Ng]) (by simpa using h) J
   simpa using this
end
section
variable {P:Program} {aI:TypeId→j9} {ops:Array Oper} {n:Nat} {cT:wg} {h9 gF:List Nat} {W:Nat→Prop}
theorem aeY (al:zM cT h9 gF ops=true):∀ (g k m:Nat),Small ops.size m→k+g=ops.size→Mp cT g k ops.size m=true→Region.seqB .any ops g k (je ops.size m)=true
 |0,k,m,hm,ae,h=>by
   simp only[Mp] at h
   simp only[Region.seqB,List.isEmpty_iff]
   cases aN:Region.ready .any ops (je ops.size m) with
   |nil=>rfl
   |cons x l=>
     have:=GK al hm h x (by rw[aN];simp)
     cases this
 |g+1,k,m,hm,ae,h=>by
   simp only[Mp,jL] at h
   simp only[Region.seqB,jL,fx]
   have JZ:k<ops.size:=by omega
   have qW:k∈Region.ready .any ops (je ops.size m):=(Qz al hm).2 ⟨JZ,h.1.1⟩
   refine ⟨?_,?_⟩
   · have fw:=GK al hm h.1.2
     have hU:(Region.ready .any ops (je ops.size m)).Nodup:=by
       unfold Region.ready
       exact List.Pairwise.filter _ List.nodup_range
     revert qW fw hU
     generalize Region.ready .any ops (je ops.size m)=l
     intro qW fw hU
     match l,qW,fw,hU with
     | [],qW,_,_=>cases qW
     | [x],qW,fw,_=>rw[lR.1 (fw x (by simp))]
     |x::y::l,_,fw,hU=>
       have af:=lR.1 (fw x (by simp))
       have b8:=lR.1 (fw y (by simp))
       simp[af,b8] at hU
   · rw[Qv]
     exact aeY al g (k+1) (m|||2^k) (Qy hm JZ) (by omega) h.2
theorem ath (al:zM cT h9 gF ops=true) (Jf:Mr ops n) (aC:n≤ops.size) (QC:Region.noSelect ops=true) {a0:Act} (ab:∀d∈cG ops.toList,d<a0.tmps.size):
   ∀ (t:aZ) (W:Nat→Prop) (f:Nat) (m:Nat) (K:Env→World→Prop) (e:Env) (a:Act) (w:World),gq e a→h_ (cG ops.toList) a0 a→Small ops.size m→HeadInv .any ops n (je ops.size m)→
     hZ P aI ops n cT W t f m K e w→zN P ops (n2 a0 (cG ops.toList) K) n (LE P ops (n2 a0 (cG ops.toList) K) n) f (ao W w) (je ops.size m) a w:=by
 intro t
 have Jg:∀ (i:Nat) (o:Oper),ops[i]? =some o→∀k,o.dst=some k→k∈cG ops.toList:=by
   intro i o bE k ae
   simp only[cG,List.mem_filterMap]
   exact ⟨o,by simpa using Array.mem_of_getElem? bE,ae⟩
 have Jh:∀ (W:Nat→Prop) (t:aZ),(∀ (W:Nat→Prop) (f:Nat) (m:Nat) (K:Env→World→Prop) (e:Env) (a:Act) (w:World),gq e a→h_ (cG ops.toList) a0 a→Small ops.size m→HeadInv .any ops n (je ops.size m)→
     hZ P aI ops n cT W t f m K e w→zN P ops (n2 a0 (cG ops.toList) K) n (LE P ops (n2 a0 (cG ops.toList) K) n) f (ao W w) (je ops.size m) a w)→
     ∀ (f:Nat) (m:Nat) (K:Env→World→Prop) (e:Env) (a:Act) (w:World) (i:Nat) (o:Oper),gq e a→h_ (cG ops.toList) a0 a→Small ops.size m→HeadInv .any ops n (je ops.size m)→
     i∈Region.ready .any ops (je ops.size m)→i<n→ops[i]? =some o→
     oW ops o e (tC P aI o (fun v w'=>ao W w w'∧hZ P aI ops n cT W t f (m|||2^i) K (fW o.dst v e) w') e w) (hZ P aI ops n cT W t f (m|||2^i) K (fW o.dst undef e) w)→
     wpOp P ops (n2 a0 (cG ops.toList) K) i (fun dg w'=>∃gS:World→Prop,((∀x,gS x→ao W w x)∨GL ops (je ops.size m) i)∧gS w'∧zN P ops (n2 a0 (cG ops.toList) K) n (LE P ops (n2 a0 (cG ops.toList) K) n) f gS ((je ops.size m).setIfInBounds i true) dg w') a w:=by
   intro W t dr f m K e a w i o ax ae hm inv aN fp bE h
   have next:∀ (v:Value) (w':World),ao W w w'→hZ P aI ops n cT W t f (m|||2^i) K (fW o.dst v e) w'→
       ∃gS:World→Prop,((∀x,gS x→ao W w x)∨GL ops (je ops.size m) i)∧gS w'∧zN P ops (n2 a0 (cG ops.toList) K) n (LE P ops (n2 a0 (cG ops.toList) K) n) f gS ((je ops.size m).setIfInBounds i true) (a.put o.dst v) w':=by
     intro v w' ati h
     have jW:h_ (cG ops.toList) a (a.put o.dst v):=h_.put (Jg i o bE)
     have hinv:=inv.set aN fp
     rw[Qv] at hinv⊢
     exact ⟨ao W w', .inl fun x af=>ati.trans af, .refl _ _,dr W f _ K _ _ w' (ax.put fun k dW=>by rw[ae.size];exact ab k (Jg i o bE k dW)) (ae.trans jW) (Qy hm (by omega)) hinv h⟩
   unfold wpOp
   simp only[bE]
   rcases Mi ax h with ⟨hw,aW⟩|⟨hw,aW⟩
   · simp only[hw,if_true]
     exact .inl ((Qq ax aW).wp fun v w' ⟨U,ad⟩=>next v w' U ad)
   · simp only[hw,ob,if_false]
     exact next _ _ (.refl _ _) aW
 have QG:∀ {b c d:Bool} {X:Prop},(bif b&&(c&&d) then X else False)→b=true∧c=true∧d=true∧X:=by
   intro b c d X h
   cases b<;>cases c<;>cases d<;>first|exact h.elim|exact ⟨rfl,rfl,rfl,h⟩
 have Wz:∀ {b c:Bool} {X:Prop},(bif b&&c then X else False)→b=true∧c=true∧X:=by
   intro b c X h
   cases b<;>cases c<;>first|exact h.elim|exact ⟨rfl,rfl,h⟩
 have blt:∀ {i j:Nat},Nat.blt i j=true→i<j:=fun h=>by
   have:=Ch h
   omega
 have ne_nil:∀ {m i:Nat},Small ops.size m→wi cT m i=true→i<ops.size→Region.ready .any ops (je ops.size m)≠ []:=fun hm h hi b7=>by
   have:=(Qz al hm).2 ⟨hi,h⟩
   rw[b7] at this;cases this
 induction t with
 |take i t dr=>
   intro W f m K e a w ax ae hm inv h
   cases f with
   |zero=>simp[hZ] at h
   |succ f=>
     simp only[hZ] at h
     obtain ⟨U,ad,au,h⟩:=QG h
     have fp:=blt au
     have aN:i∈Region.ready .any ops (je ops.size m):=(Qz al hm).2 ⟨by omega,U⟩
     split at h
     · rename_i o bE
       have fin:∀v,YieldsIf P ops (fun x=>tE o=true→ao W w x) o v a→hZ P aI ops n cT W t f (m|||2^i) K (fW o.dst v e) w→
           zN P ops (n2 a0 (cG ops.toList) K) n (LE P ops (n2 a0 (cG ops.toList) K) n) (f+1) (ao W w) (je ops.size m) a w:=by
         intro v b8 h
         have jW:h_ (cG ops.toList) a (a.put o.dst v):=h_.put (Jg i o bE)
         refine atd Jf bE (Region.noSelect_spec QC) (fun c a w J=>by cases J.1) fp atf f (ao W w) (fun x=>tE o=true→ao W w x) _ a w (fun _ h _=>h) (by cases aj:tE o<;>simp) inv (as9 al bE ad) aN b8 (.refl _ _) ?_
         have hinv:=inv.set aN fp
         rw[Qv] at hinv⊢
         exact dr W f _ K _ _ w (ax.put fun k dW=>by rw[ae.size];exact ab k (Jg i o bE k dW)) (ae.trans jW) (Qy hm (by omega)) hinv h
       rcases Mi ax h with ⟨hw,aW⟩|⟨hw,aW⟩
       · obtain ⟨v,ak,bu⟩:=as5 ax aW
         exact fin v (.inl ⟨hw,fun w' al=>ak w' al⟩) bu
       · exact fin undef (.inr ⟨hw,rfl⟩) aW
     · exact h.elim
 |cP i t dr=>
   intro W f m K e a w ax ae hm inv h
   cases f with
   |zero=>simp[hZ] at h
   |succ f=>
     simp only[hZ] at h
     obtain ⟨m6,au,h⟩:=Wz h
     simp only[jL] at m6
     have fp:=blt au
     split at h
     · rename_i o bE
       refine ⟨ne_nil hm m6.1 (by omega),fun j a8=> ?_⟩
       have sL:j=i:=by simpa using GK al hm m6.2 j a8
       subst sL
       exact ⟨fp,Jh W t dr f m K e a w j o ax ae hm inv a8 fp bE h⟩
     · exact h.elim
 |out i b t dr=>
   intro W f m K e a w ax ae hm inv h
   cases f with
   |zero=>simp[hZ] at h
   |succ f=>
     simp only[hZ] at h
     obtain ⟨m6,au,aH,h⟩:=QG h
     simp only[jL] at m6
     have fp:=blt au
     have aH:=qA aH
     split at h
     · rename_i o bE
       refine ⟨ne_nil hm m6.1 (by omega),fun j a8=> ?_⟩
       have sL:j=i:=by simpa using GK al hm m6.2 j a8
       subst sL
       refine ⟨fp,?_⟩
       have Wy:GL ops (je ops.size m) j:=by
         intro k ok qu jW C9 aj az
         have fv:k<ops.size:=(JT.1 jW).1
         rw[Je fv] at az
         have kx:(x7 0 ops.toList&&&m).testBit k=true:=by
           rw[Nat.testBit_and,az,Bool.and_true]
           exact (aeK ops.toList 0 k ok (by simpa using jW)).trans aj|>(by simpa using ·)
         have aY:(wh cT.M j).testBit k=true:=aeJ aH kx
         rw[Qw al C9,BY] at aY
         simp only[fx] at aY
         exact Qx.1 aY
       have next:∀ (v:Value) (w':World) (V:Nat→Prop),hZ P aI ops n cT V t f (m|||2^j) K (fW o.dst v e) w'→
           ∃gS:World→Prop,((∀x,gS x→ao W w x)∨GL ops (je ops.size m) j)∧gS w'∧zN P ops (n2 a0 (cG ops.toList) K) n (LE P ops (n2 a0 (cG ops.toList) K) n) f gS ((je ops.size m).setIfInBounds j true) (a.put o.dst v) w':=by
         intro v w' V h
         have jW:h_ (cG ops.toList) a (a.put o.dst v):=h_.put (Jg j o bE)
         have hinv:=inv.set a8 fp
         rw[Qv] at hinv⊢
         exact ⟨ao V w', .inr Wy, .refl _ _,dr V f _ K _ _ w' (ax.put fun k dW=>by rw[ae.size];exact ab k (Jg j o bE k dW)) (ae.trans jW) (Qy hm (by omega)) hinv h⟩
       unfold wpOp
       simp only[bE]
       rcases Mi ax h with ⟨hw,aW⟩|⟨hw,aW⟩
       · simp only[hw,if_true]
         refine .inl ((Qq ax aW).wp fun v w' ad=> ?_)
         cases b with
         |true=>
           obtain ⟨V,ad⟩:=ad
           exact next v w' V ad
         |false=>exact next v w' W ad
       · simp only[hw,ob,if_false]
         exact next _ _ W aW
     · exact h.elim
 |two i t j u Mt Mu=>
   intro W f m K e a w ax ae hm inv h
   cases f with
   |zero=>simp[hZ] at h
   |succ f=>
     simp only[hZ] at h
     obtain ⟨m6,au,aH,h⟩:=QG h
     simp only[jL] at m6
     have hi:=blt au
     split at h
     · rename_i o q bE J
       refine ⟨ne_nil hm m6.1 (by omega),fun k jW=> ?_⟩
       have lj:k=i∨k=j:=by simpa using GK al hm m6.2 k jW
       rcases lj with lj|lj
       · subst lj
         exact ⟨blt au,Jh W t Mt f m K e a w k o ax ae hm inv jW (blt au) bE h.1⟩
       · subst lj
         exact ⟨blt aH,Jh W u Mu f m K e a w k q ax ae hm inv jW (blt aH) J h.2⟩
     · exact h.elim
 |three i t j u k x Mt Mu atj=>
   intro W f m K e a w ax ae hm inv h
   cases f with
   |zero=>simp[hZ] at h
   |succ f=>
     simp only[hZ] at h
     obtain ⟨m6,au,atk,h⟩:=QG (d:=_) h
     obtain ⟨aH,aY⟩:Nat.blt j n=true∧Nat.blt k n=true:=by simpa using atk
     simp only[jL] at m6
     have hi:=blt au
     split at h
     · rename_i o q r bE J Y9
       refine ⟨ne_nil hm m6.1 (by omega),fun y jW=> ?_⟩
       have lj:y=i∨y=j∨y=k:=by simpa using GK al hm m6.2 y jW
       rcases lj with lj|lj|lj
       · subst lj
         exact ⟨blt au,Jh W t Mt f m K e a w y o ax ae hm inv jW (blt au) bE h.1⟩
       · subst lj
         exact ⟨blt aH,Jh W u Mu f m K e a w y q ax ae hm inv jW (blt aH) J h.2.1⟩
       · subst lj
         exact ⟨blt aY,Jh W x atj f m K e a w y r ax ae hm inv jW (blt aY) Y9 h.2.2⟩
     · exact h.elim
 |sp s t u Mt Mu=>
   intro W f m K e a w ax ae hm inv h
   have oo:match e.get s with
     |some (.bool c)=>(c=true→hZ P aI ops n cT W t f m K ((s, .bool true)::e) w)∧(c=false→hZ P aI ops n cT W u f m K ((s, .bool false)::e) w)
     |_=>False:=by cases f<;>simpa only[hZ] using h
   split at oo
   · rename_i c aj
     cases c with
     |true=>exact Mt W f m K _ a w (ax.lit aj) ae hm inv (oo.1 rfl)
     |false=>exact Mu W f m K _ a w (ax.lit aj) ae hm inv (oo.2 rfl)
   · exact oo.elim
 |fin=>
   intro W f m K e a w ax ae hm inv h
   cases f with
   |succ f=>simp[hZ] at h
   |zero=>
     simp only[hZ] at h
     obtain ⟨U,ad,h⟩:=Wz h
     refine .inl ⟨?_,qA ad,rfl,ae,e,ax,h⟩
     cases aN:Region.ready .any ops (je ops.size m) with
     |nil=>rfl
     |cons x l=>
       have:=GK al hm U x (by rw[aN];simp)
       cases this
 |tail as=>
   intro W f m K e a w ax ae hm inv h
   cases f with
   |succ f=>simp[hZ] at h
   |zero=>
     simp only[hZ] at h
     obtain ⟨U,ad,h⟩:=Wz h
     have ij:∀k,k∈cG (ops.toList.drop n)→k∈cG ops.toList:=fun k ae=>by
       simp only[cG,List.mem_filterMap] at ae⊢
       obtain ⟨o,bE,ae⟩:=ae
       exact ⟨o,kt bE,ae⟩
     have:=aey _ _ _ K e a w ax (fun d hd=>by rw[ae.size];exact ab d (ij d hd)) h
     exact .inr ⟨aeY al _ _ _ hm (by omega) U,blt ad,r6 (fun x dg w' ⟨aB,aF,aJ⟩=>⟨aB,ae.trans (aF.mono ij),aJ⟩) _ _ _ this⟩
theorem atl (ops:Array Oper) (n:Nat):HeadInv .any ops n (Array.replicate ops.size false):=
 ⟨by simp,fun j qu _ az=>(by rw[getD_replicate_false] at az;cases az),fun t _ aR=>getD_in (by simpa using aR) (getD_replicate_false _ _)⟩
def WA (P:Program) (aI:TypeId→j9) (ops:Array Oper) (n:Nat) (Mv:Bool) (cT:wg) (h9 gF:List Nat) (t:aZ) (K:Env→World→Prop) (e:Env) (w:World):Prop:=
 bif (Region.noSelect ops&&zM cT h9 gF ops)&&(bif Nat.beq n ops.size then true else Nat.blt n ops.size&&(Region.sinkB .any ops n&&Region.chainB .any ops n)) then
   bif Mv then
     ay w.drew fun ag=>∃W:Nat→Prop,hZ P aI ops n cT W t n 0 K e ag
   else ay w.drew fun ag=>hZ P aI ops n cT (fun _=>False) t n 0 K e ag
 else False
theorem atm {id:Nat} {Mv:Bool} {t:aZ} {K:Env→World→Prop} {e:Env} {a:Act} {w:World} (hm:P.follows .mixedOrders=true)
   (ax:gq e a) (ab:∀d∈cG ops.toList,d<a.tmps.size) (h:WA P aI ops n Mv cT h9 gF t K e w):
   (Code.region id ops true).wp P (n2 a (cG ops.toList) K) a w:=by
 unfold WA at h
 cases b7:(Region.noSelect ops&&zM cT h9 gF ops) with
 |false=>rw[b7] at h;exact h.elim
 |true=>
   rw[b7] at h
   simp only[ES] at h
   simp only[jL] at b7
   obtain ⟨U,al⟩:=b7
   cases ad:(bif Nat.beq n ops.size then true else Nat.blt n ops.size&&(Region.sinkB .any ops n&&Region.chainB .any ops n)) with
   |false=>rw[ad] at h;exact h.elim
   |true=>
     rw[ad] at h
     simp only[cond_true] at h
     have Jf:Mr ops n:=by
       cases aC:Nat.beq n ops.size with
       |true=>rw[qA aC];exact atb ops
       |false=>
         rw[aC] at ad
         simp only[cond_false,jL] at ad
         refine atc ad.2.1 ad.2.2 ?_
         have:=Ch ad.1
         omega
     have hle:n≤ops.size:=by
       cases aC:Nat.beq n ops.size with
       |true=>rw[qA aC];exact cR _
       |false=>
         rw[aC] at ad
         simp only[cond_false,jL] at ad
         have:=Ch ad.1
         omega
     have key:∀W,hZ P aI ops n cT W t n 0 K e w.drew→(Code.region id ops true).wp P (n2 a (cG ops.toList) K) a w:=by
       intro W h
       refine wp_region_any hm ?_
       have BL:=ath al Jf hle U ab t W n 0 K e a w.drew ax (.refl _ _) (as7 _) (by rw[aeH];exact atl ops n) h
       rw[aeH] at BL
       have:=aeX atg _ _ _ _ _ BL
       rw[show n+(ops.size-n)=ops.size by omega] at this
       exact this
     cases Mv with
     |true=>obtain ⟨W,h⟩:=h;exact key W h
     |false=>exact key _ h
end
end cd
namespace cd
open Go
inductive bI where
 |leaf
 |gi (as:List BW)
 |eH (n:Nat) (Mv:Bool) (cT:wg) (h9 gF:List Nat) (t:aZ)
 |seq (a b:bI)
 |cond (a b:bI)
 |df (a:bI)
 |loop (live:List (Nat×j8)) (hL:List Nat) (a:bI)
 |kK (live:List (Nat×j8)) (hL:List Nat) (a:bI)
def nF:List (Nat×j8)→Type
 | []=>World→Prop
 |(_,l)::r=>l.T→nF r
def Et:List (Nat×j8)→Type
 | []=>World→Nat
 |(_,l)::r=>l.T→Et r
def Ji (l:j8) (v:Option Value) (K:l.T→Prop):Prop:=
 match l,v with
 | .int k,some (.int lL n)=>bif uL k lL then K n else False
 | .bool,some (.bool b)=>K b
 | .str,some (.string s)=>K s
 | .ptr,some (.pointer p)=>K p
 | .slice,some (.slice a n c)=>K ⟨a,n,c⟩
 | .map,some (.map r)=>K r
 | .agg,some (.agg cs)=>K cs
 | .fn,some (.func (.func f) a b)=>K ⟨f,a,b⟩
 | .any,some v=>K v
 |_,_=>False
def nF.app:(live:List (Nat×j8))→nF live→(Nat→Option Value)→World→Prop
 | [],k,_,w=>k w
 |(s,l)::r,k,g,w=>Ji l (g s) fun x=>nF.app r (k x) g w
def nF.lam:(live:List (Nat×j8))→(Env→World→Prop)→nF live
 | [],F=>fun w=>F [] w
 |(s,l)::r,F=>fun x=>nF.lam r fun e w=>F ((s,l.v x)::e) w
def WB:(live:List (Nat×j8))→nF live→Et live→(Env→Nat→World→Prop)→Prop
 | [],I,μ,F=>∀w,I w→F [] (μ w) w
 |(s,l)::r,I,μ,F=>∀x:l.T,WB r (I x) (μ x) fun e m w=>F ((s,l.v x)::e) m w
def WC:(live:List (Nat×j8))→nF live→Et live→Nat→(Nat→Option Value)→World→Prop
 | [],I,μ,m,_,w=>I w∧μ w<m
 |(s,l)::r,I,μ,m,g,w=>Ji l (g s) fun x=>WC r (I x) (μ x) m g w
def sN:(live:List (Nat×j8))→Et live→(Nat→Option Value)→World→Nat
 | [],μ,_,w=>μ w
 |(s,l)::r,μ,g,w=>
   match l,g s,μ with
   | .int _,some (.int _ n),μ=>sN r (μ n) g w
   | .bool,some (.bool b),μ=>sN r (μ b) g w
   | .str,some (.string b),μ=>sN r (μ b) g w
   | .ptr,some (.pointer b),μ=>sN r (μ b) g w
   | .slice,some (.slice a n c),μ=>sN r (μ (aa.mk a n c)) g w
   | .map,some (.map b),μ=>sN r (μ b) g w
   | .agg,some (.agg b),μ=>sN r (μ b) g w
   | .fn,some (.func (.func f) a b),μ=>sN r (μ (r4.mk f a b)) g w
   | .any,some v,μ=>sN r (μ v) g w
   |_,_,_=>0
def writes:Code→List Nat
 | .region _ ops _=>cG ops.toList
 | .seq a b=>writes a++writes b
 | .cond _ a b=>writes a++writes b
 | .block _ a=>writes a
 | .loop a=>writes a
 | .scope a=>writes a
 |_=> []
def Mw (hL ws:List Nat):Bool:=hL.all fun s=> !(ws.any fun d=>Nat.beq d s)
def GM (e:Env):List Nat→Env
 | []=> []
 |s::ks=>match e.get s with
   |some v=>(s,v)::GM e ks
   |none=>GM e ks
def Jj:Env→Env→Env
 | [],f=>f
 |p::e,f=>p::Jj e f
def D (P:Program) (aI:TypeId→j9):bI→Code→(Exit→Env→World→Prop)→Env→World→Prop
 | .leaf,c,K,e,w=>
   match c with
   | .skip=>K .normal e w
   | .label _=>K .normal e w
   | .exit id=>K (.exit id) e w
   | .ret=>K .ret e w
   |_=>False
 | .gi as,c,K,e,w=>
   match c with
   | .region _ ops false=>mx P aI ops (ops.size+1) ops.toList as (fun eO w'=>K .normal eO w') e w
   |_=>False
 | .eH n he cT h9 gF t,c,K,e,w=>
   match c with
   | .region _ ops true=>WA P aI ops n he cT h9 gF t (fun eO w'=>K .normal eO w') e w
   |_=>False
 | .seq A B,c,K,e,w=>
   match c with
   | .seq a b=>D P aI A a (fun x eO w'=>match x with| .normal=>D P aI B b K eO w'|x=>K x eO w') e w
   |_=>False
 | .cond A B,c,K,e,w=>
   match c with
   | .cond o x y=>match bC e o with
     |some (.bool b)=>(b=true→D P aI A x K e w)∧(b=false→D P aI B y K e w)
     |_=>False
   |_=>False
 | .df A,c,K,e,w=>
   match c with
   | .block id b=>D P aI A b (fun x eO w'=>match x with| .exit Jk=>bif Nat.beq Jk id then K .normal eO w' else K (.exit Jk) eO w'|x=>K x eO w') e w
   |_=>False
 | .loop live hL A,c,K,e,w=>
   match c with
   | .loop b=>bif Mw hL (writes b) then
       ∃ (I:nF live) (μ:Et live),nF.app live I e.get w∧
         WB live I μ fun el m w'=>D P aI A b (fun x eO iI=>match x with| .normal=>WC live I μ m eO.get iI|x=>K x eO iI) (Jj el (GM e hL)) w'
     else False
   |_=>False
 | .kK live hL A,c,K,e,w=>
   bif Mw hL (writes c) then
     c0 (fun k:nF live=>D P aI A c (fun x eO w'=>match x with| .normal=>nF.app live k eO.get w'|x=>K x eO w') e w)
       (nF.lam live fun el w'=>K .normal (Jj el (GM e hL)) w')
   else False
def atn (a:Act) (ds:List Nat) (K:Exit→Env→World→Prop) (x:Exit) (dg:Act) (w':World):Prop:=
 h_ ds a dg∧∃eO,gq eO dg∧K x eO w'
def Sub (e:Env) (g:Nat→Option Value):Prop:=∀s v,e.get s=some v→g s=some v
theorem Sub.cons {e:Env} {g:Nat→Option Value} {s:Nat} {v:Value} (h:Sub e g) (aj:g s=some v):Sub ((s,v)::e) g:=by
 intro t u aR
 rw[GA] at aR
 by_cases gW:s=t
 · subst gW;rw[if_pos rfl] at aR;rw[aj];exact aR
 · rw[if_neg gW] at aR;exact h t u aR
theorem Sub.nil {g:Nat→Option Value}:Sub [] g:=fun _ _ h=>by cases h
theorem QH {l:j8} {v:Option Value} {K:l.T→Prop} (h:Ji l v K):∃x:l.T,v=some (l.v x)∧K x:=by
 unfold Ji at h
 split at h
 · rename_i k lL n K
   by_cases ae:k=lL
   · subst ae
     simp only[uL,decide_true,cond_true] at h
     exact ⟨n,rfl,h⟩
   · simp[uL,ae] at h
 all_goals first
   |exact ⟨_,rfl,h⟩
   |exact h.elim
theorem aeZ {l:j8} {v:Option Value} {K:l.T→Prop} {x:l.T} (ak:v=some (l.v x)) (h:K x):Ji l v K:=by
 subst ak
 cases l<;>simp only[Ji,j8.v,uL,decide_true,cond_true]<;>exact h
theorem ae0 {s:Nat} {l:j8} {r:List (Nat×j8)} {μ:Et ((s,l)::r)} {g:Nat→Option Value} {w:World} {x:l.T} (ak:g s=some (l.v x)):
   sN ((s,l)::r) μ g w=sN r (μ x) g w:=by
 cases l<;>simp only[sN,ak,j8.v]<;>rfl
theorem ae1:∀ {live:List (Nat×j8)} {F:Env→World→Prop} {g:Nat→Option Value} {w:World},nF.app live (nF.lam live F) g w→∃el,Sub el g∧F el w
 | [],F,g,w,h=>⟨[],Sub.nil,h⟩
 |(s,l)::r,F,g,w,h=>by
   obtain ⟨x,ak,h⟩:=QH h
   obtain ⟨el,aj,h⟩:=ae1 h
   exact ⟨(s,l.v x)::el,aj.cons ak,h⟩
theorem ae2:∀ {live:List (Nat×j8)} {I:nF live} {g g':Nat→Option Value} {w:World},(∀s v,g s=some v→g' s=some v)→nF.app live I g w→nF.app live I g' w
 | [],_,_,_,_,_,h=>h
 |(s,l)::r,I,g,g',w,bg,h=>by
   obtain ⟨x,ak,h⟩:=QH h
   exact aeZ (bg _ _ ak) (ae2 bg h)
theorem ae3:∀ {live:List (Nat×j8)} {I:nF live} {μ:Et live} {F:Env→Nat→World→Prop} {g:Nat→Option Value} {w:World},
   WB live I μ F→nF.app live I g w→∃el,Sub el g∧F el (sN live μ g w) w
 | [],I,μ,F,g,w,h,GN=>⟨[],Sub.nil,h w GN⟩
 |(s,l)::r,I,μ,F,g,w,h,GN=>by
   obtain ⟨x,ak,GN⟩:=QH GN
   obtain ⟨el,aj,h⟩:=ae3 (h x) GN
   exact ⟨(s,l.v x)::el,aj.cons ak,by rw[ae0 ak];exact h⟩
theorem ae4:∀ {live:List (Nat×j8)} {I:nF live} {μ:Et live} {m:Nat} {g g':Nat→Option Value} {w:World},
   (∀s v,g s=some v→g' s=some v)→WC live I μ m g w→nF.app live I g' w∧sN live μ g' w<m
 | [],_,_,_,_,_,_,_,h=>h
 |(s,l)::r,I,μ,m,g,g',w,bg,h=>by
   obtain ⟨x,ak,h⟩:=QH h
   obtain ⟨U,ad⟩:=ae4 bg h
   exact ⟨aeZ (bg _ _ ak) U,by rw[ae0 (bg _ _ ak)];exact ad⟩
theorem ae5:∀ {e f:Env} {s:Nat} {v:Value},(Jj e f).get s=some v→e.get s=some v∨f.get s=some v
 | [],_,_,_,h=> .inr h
 |(k,u)::e,f,s,v,h=>by
   simp only[Jj] at h
   rw[GA] at h⊢
   by_cases ae:k=s
   · rw[if_pos ae] at h⊢;exact .inl h
   · rw[if_neg ae] at h⊢;exact ae5 h
theorem WD {e:Env}:∀ {ks:List Nat} {s:Nat} {v:Value},(GM e ks).get s=some v→s∈ks∧e.get s=some v
 | [],_,_,h=>by cases h
 |k::ks,s,v,h=>by
   simp only[GM] at h
   split at h
   · rename_i u hu
     rw[GA] at h
     by_cases ae:k=s
     · rw[if_pos ae] at h
       subst ae
       exact ⟨by simp,by rw[hu];exact h⟩
     · rw[if_neg ae] at h
       have:=WD h
       exact ⟨by simp[this.1],this.2⟩
   · have:=WD h
     exact ⟨by simp[this.1],this.2⟩
theorem ae6 {e el:Env} {a dg:Act} {hL ws:List Nat} (ax:gq e a) (ae:h_ ws a dg) (bE:Mw hL ws=true) (aj:Sub el fun s=>dg.tmps[s]?):
   gq (Jj el (GM e hL)) dg:=by
 constructor
 intro s v h
 rcases ae5 h with h|h
 · exact aj s v h
 · obtain ⟨U,ad⟩:=WD h
   have au:=G4.1 bE s U
   simp only[zX,JM] at au
   rw[ae.same s fun hm=>au s hm (Nat.beq_refl s)]
   exact ax.get s v ad
section
variable {P:Program} {aI:TypeId→j9}
theorem tF {c:Code} {Q Q':Exit→Act→World→Prop} {a:Act} {w:World} (h:c.wp P Q a w) (J:∀e a w,Q e a w→Q' e a w):c.wp P Q' a w:=wp_mono h J
theorem QI (hm:P.follows .mixedOrders=true):∀ (A:bI) (c:Code) (K:Exit→Env→World→Prop) (e:Env) (a:Act) (w:World),gq e a→(∀d∈writes c,d<a.tmps.size)→
   D P aI A c K e w→c.wp P (atn a (writes c) K) a w:=by
 intro A
 induction A with
 |leaf=>
   intro c K e a w ax ab h
   simp only[D] at h
   split at h
   · exact wp_skip ⟨.refl _ _,e,ax,h⟩
   · exact wp_label ⟨.refl _ _,e,ax,h⟩
   · exact wp_exit ⟨.refl _ _,e,ax,h⟩
   · exact wp_ret ⟨.refl _ _,e,ax,h⟩
   · exact h.elim
 |gi as=>
   intro c K e a w ax ab h
   simp only[D] at h
   split at h
   · rename_i id ops
     have:=aey _ _ _ _ e a w ax ab h
     refine wp_region_list (r6 ?_ _ _ _ this)
     rintro x dg w' ⟨rfl,ae,eO,ox,bu⟩
     exact ⟨ae,eO,ox,bu⟩
   · exact h.elim
 |eH n he cT h9 gF t=>
   intro c K e a w ax ab h
   simp only[D] at h
   split at h
   · rename_i id ops
     refine tF (atm hm ax ab h) ?_
     rintro x dg w' ⟨rfl,ae,eO,ox,bu⟩
     exact ⟨ae,eO,ox,bu⟩
   · exact h.elim
 |seq A B QJ Mx=>
   intro c K e a w ax ab h
   simp only[D] at h
   split at h
   · rename_i x y
     have af:∀d,d∈writes x→d∈writes (.seq x y):=fun d hd=>by simp[writes,hd]
     have b8:∀d,d∈writes y→d∈writes (.seq x y):=fun d hd=>by simp[writes,hd]
     refine wp_seq (tF (QJ x _ e a w ax (fun d hd=>ab d (af d hd)) h) ?_)
     rintro ex bc ag ⟨ae,a_,hY,U⟩
     cases ex with
     |normal=>
       refine tF (Mx y K a_ bc ag hY (fun d hd=>by rw[ae.size];exact ab d (b8 d hd)) U) ?_
       rintro ex cW aw ⟨dW,bw,kU,ad⟩
       exact ⟨(ae.mono af).trans (dW.mono b8),bw,kU,ad⟩
     |exit id=>exact ⟨ae.mono af,a_,hY,U⟩
     |goto l=>exact ⟨ae.mono af,a_,hY,U⟩
     |ret=>exact ⟨ae.mono af,a_,hY,U⟩
     |panic Eu=>exact ⟨ae.mono af,a_,hY,U⟩
     |outgrown=>exact ⟨ae.mono af,a_,hY,U⟩
   · exact h.elim
 |cond A B QJ Mx=>
   intro c K e a w ax ab h
   simp only[D] at h
   split at h
   · rename_i o x y
     have af:∀d,d∈writes x→d∈writes (.cond o x y):=fun d hd=>by simp[writes,hd]
     have b8:∀d,d∈writes y→d∈writes (.cond o x y):=fun d hd=>by simp[writes,hd]
     split at h
     · rename_i b bE
       refine wp_cond_split (ax.bC bE) (fun nq=> ?_) (fun nq=> ?_)
       · refine tF (QJ x K e a w ax (fun d hd=>ab d (af d hd)) (h.1 nq)) ?_
         rintro ex cW aw ⟨dW,bw,kU,ad⟩
         exact ⟨dW.mono af,bw,kU,ad⟩
       · refine tF (Mx y K e a w ax (fun d hd=>ab d (b8 d hd)) (h.2 nq)) ?_
         rintro ex cW aw ⟨dW,bw,kU,ad⟩
         exact ⟨dW.mono b8,bw,kU,ad⟩
     · exact h.elim
   · exact h.elim
 |df A dr=>
   intro c K e a w ax ab h
   simp only[D] at h
   split at h
   · rename_i id b
     refine wp_block (tF (dr b _ e a w ax ab h) ?_)
     rintro ex bc ag ⟨ae,a_,hY,U⟩
     cases ex with
     |exit Jk=>
       simp only[Exit.inBlock]
       by_cases WE:Jk=id
       · subst WE
         simp only[Nat.beq_refl,cond_true] at U
         rw[if_pos rfl]
         exact ⟨ae,a_,hY,U⟩
       · have:Nat.beq Jk id=false:=by
           cases ato:Nat.beq Jk id
           · rfl
           · exact absurd (qA ato) WE
         simp only[this,cond_false] at U
         rw[if_neg WE]
         exact ⟨ae,a_,hY,U⟩
     |normal=>exact ⟨ae,a_,hY,U⟩
     |goto l=>exact ⟨ae,a_,hY,U⟩
     |ret=>exact ⟨ae,a_,hY,U⟩
     |panic Eu=>exact ⟨ae,a_,hY,U⟩
     |outgrown=>exact ⟨ae,a_,hY,U⟩
   · exact h.elim
 |loop live hL A dr=>
   intro c K e a w ax ab h
   simp only[D] at h
   split at h
   · rename_i b
     cases jf:Mw hL (writes b) with
     |false=>rw[jf] at h;exact h.elim
     |true=>
       rw[jf] at h
       obtain ⟨I,μ,b7,atp⟩:=h
       refine wp_loop (fun dg w'=>h_ (writes b) a dg∧nF.app live I (fun s=>dg.tmps[s]?) w') (fun dg w'=>sN live μ (fun s=>dg.tmps[s]?) w')
         ⟨.refl _ _,ae2 (fun s v aj=>ax.get s v aj) b7⟩ ?_
       rintro bc ag ⟨ae,GN⟩
       obtain ⟨el,aj,vC⟩:=ae3 atp GN
       refine tF (dr b _ _ bc ag (ae6 ax ae jf aj) (fun d hd=>by rw[ae.size];exact ab d hd) vC) ?_
       rintro ex cW aw ⟨dW,bw,kU,ad⟩
       cases ex with
       |normal=>
         obtain ⟨aB,aF⟩:=ae4 (g':=fun s=>cW.tmps[s]?) (fun s v aj=>kU.get s v aj) ad
         exact ⟨⟨ae.trans dW,aB⟩,aF⟩
       |exit id=>exact ⟨ae.trans dW,bw,kU,ad⟩
       |goto l=>exact ⟨ae.trans dW,bw,kU,ad⟩
       |ret=>exact ⟨ae.trans dW,bw,kU,ad⟩
       |panic Eu=>exact ⟨ae.trans dW,bw,kU,ad⟩
       |outgrown=>exact ⟨ae.trans dW,bw,kU,ad⟩
   · exact h.elim
 |kK live hL A dr=>
   intro c K e a w ax ab h
   simp only[D] at h
   cases jf:Mw hL (writes c) with
   |false=>rw[jf] at h;exact h.elim
   |true=>
     rw[jf] at h
     simp only[cond_true] at h
     have h:=h.out
     refine tF (dr c _ e a w ax ab h) ?_
     rintro ex bc ag ⟨ae,a_,hY,U⟩
     cases ex with
     |normal=>
       obtain ⟨el,aj,vC⟩:=ae1 U
       exact ⟨ae,_,ae6 ax ae jf (fun s v h=>hY.get s v (aj s v h)),vC⟩
     |exit id=>exact ⟨ae,a_,hY,U⟩
     |goto l=>exact ⟨ae,a_,hY,U⟩
     |ret=>exact ⟨ae,a_,hY,U⟩
     |panic Eu=>exact ⟨ae,a_,hY,U⟩
     |outgrown=>exact ⟨ae,a_,hY,U⟩
def BZ (P:Program) (aI:TypeId→j9):List ResultVar→Env→World→(List Value→Prop)→Prop
 | [],_,_,K=>K []
 | .tmp t::r,e,w,K=>match e.get t with
   |some v=>BZ P aI r e w fun vs=>K (v::vs)
   |none=>False
 | .cell t T::r,e,w,K=>match e.get t with
   |some (.pointer (some A))=>I5 P aI T A w fun v=>BZ P aI r e w fun vs=>K (v::vs)
   |_=>False
def Jl:List Value→Value
 | [v]=>v
 |vs=> .tuple vs.toArray
def ae7 (P:Program) (aI:TypeId→j9) (rs:List ResultVar) (R:Value→World→Prop) (x:Exit) (e:Env) (w:World):Prop:=
 match x with
 | .normal=>BZ P aI rs e w fun vs=>R (Jl vs) w
 | .ret=>BZ P aI rs e w fun vs=>R (Jl vs) w
 |_=>False
def GO:Nat→List Value→Env
 |_,[]=> []
 |i,v::vs=>(i,v)::GO (i+1) vs
def Jm (P:Program) (aI:TypeId→j9) (A:bI) (fn:Func) (args:List Value) (w:World) (R:Value→World→Prop):Prop:=
 match fn.body with
 |some c=>D P aI A c (ae7 P aI fn.results.toList R) (GO 0 args) w
 |none=>False
def GP (fn:Func) (n:Nat):Bool:=
 match fn.body with
 |some c=>(writes c).all (fun d=>Nat.blt d fn.ntmps)&&Nat.ble n fn.ntmps
 |none=>false
theorem WG:∀ {vs:List Value} {i s:Nat} {v:Value},(GO i vs).get s=some v→i≤s∧vs[s-i]? =some v
 | [],_,_,_,h=>by cases h
 |u::vs,i,s,v,h=>by
   simp only[GO] at h
   rw[GA] at h
   by_cases ae:i=s
   · subst ae
     rw[if_pos rfl] at h
     simpa using h
   · rw[if_neg ae] at h
     obtain ⟨U,ad⟩:=WG h
     refine ⟨by omega,?_⟩
     rw[show s-i=(s-(i+1))+1 by omega]
     simpa using ad
def My (tmps:Array Value) (r:ResultVar):Sem Value:=
 match r with
 | .tmp t=>pure (tmps.getD t undef)
 | .cell x t=>do loadVar t (←asAddr (tmps.getD x undef))
theorem B0 {a:Act}:∀ {rs:List ResultVar} {e:Env} {w:World} {K:List Value→Prop},gq e a→BZ P aI rs e w K→
   ∃vs,(rs.mapM (My a.tmps)).run P w= .ok vs w∧K vs
 | [],_,_,_,_,h=>⟨[],by simp,h⟩
 | .tmp t::r,e,w,K,ax,h=>by
   simp only[BZ] at h
   split at h
   · rename_i v ak
     obtain ⟨vs,kz,bu⟩:=B0 ax h
     refine ⟨v::vs,?_,bu⟩
     have aR:a.tmps.getD t undef=v:=by simp[Array.getD_eq_getD_getElem?,ax.get _ _ ak]
     simp only[List.mapM_cons,My,Sem.run_bind,Sem.run_pure,Result.andThen,aR]
     rw[kz]
   · exact h.elim
 | .cell t T::r,e,w,K,ax,h=>by
   simp only[BZ] at h
   split at h
   · rename_i A ak
     obtain ⟨v,az,h⟩:=aes h
     obtain ⟨vs,kz,bu⟩:=B0 ax h
     refine ⟨v::vs,?_,bu⟩
     have aR:a.tmps.getD t undef= .pointer (some A):=by simp[Array.getD_eq_getD_getElem?,ax.get _ _ ak]
     have IC:(loadVar T A).run P w= .ok v w:=by simpa[Instr.loadAt,Instr.sureAddr] using az
     simp only[List.mapM_cons,My,Sem.run_bind,Sem.run_pure,Result.andThen,aR,asAddr,IC]
     rw[kz]
   · exact h.elim
theorem GQ {fn:Func} {tmps:Array Value} {w:World} {vs:List Value}
   (h:(fn.results.toList.mapM (My tmps)).run P w= .ok vs w):
   (results fn tmps).run P w= .ok (Jl vs) w:=by
 have a_:results fn tmps=(do let vs ←fn.results.mapM (My tmps);pure (if h:vs.size=1 then vs[0] else .tuple vs)):=rfl
 rw[a_,Array.mapM_eq_mapM_toList]
 simp only[Sem.run_bind,Sem.run_map]
 rw[h]
 simp only[Result.andThen,Sem.run_pure]
 congr 1
 match vs with
 | []=>rfl
 | [v]=>rfl
 |u::v::vs=>simp[Jl]
theorem atq {f:FuncId} {fn:Func} {A:bI} {args:List Value} {w:World} {R:Value→World→Prop} (hm:P.follows .mixedOrders=true)
   (aG:P.funcs[f]? =some fn) (ed:GP fn args.length=true) (h:Jm P aI A fn args w R):
   Calls P f args.toArray w fun e w'=>∃v,e= .returned v∧R v w':=by
 unfold Jm at h
 unfold GP at ed
 cases mE:fn.body with
 |none=>rw[mE] at h;exact h.elim
 |some c=>
   rw[mE] at h ed
   simp only[jL] at h ed
   obtain ⟨hw,aC⟩:=ed
   have C_:=Ch aC
   refine calls_of_wp aG mE ?_
   have dH:(args.toArray++Array.replicate (fn.ntmps-args.toArray.size) undef).size=fn.ntmps:=by simp;omega
   have ax:gq (GO 0 args) {tmps:=args.toArray++Array.replicate (fn.ntmps-args.toArray.size) undef,defers:=[]}:=by
     constructor
     intro s v aj
     obtain ⟨_,ad⟩:=WG aj
     simp only[G5] at ad
     have ba:s<args.length:=(qy.1 ad).1
     simp[Array.getElem?_append,ba]
     rw[gH ba] at ad
     exact Option.some.inj ad
   refine tF (QI hm A c _ _ _ w ax (fun d hd=> ?_) h) ?_
   · have U:=G4.1 hw d hd
     have ad:=Ch U
     show d<(args.toArray++Array.replicate (fn.ntmps-args.toArray.size) undef).size
     rw[dH]
     omega
   · rintro x dg w' ⟨ae,eO,ox,bu⟩
     have hd:dg.defers=[]:=ae.defers
     cases x with
     |normal=>
       obtain ⟨vs,kz,c9⟩:=B0 ox bu
       exact ⟨hd,_,GQ kz,_,rfl,c9⟩
     |ret=>
       obtain ⟨vs,kz,c9⟩:=B0 ox bu
       exact ⟨hd,_,GQ kz,_,rfl,c9⟩
     |exit id=>exact bu.elim
     |goto l=>exact bu.elim
     |panic Eu=>exact bu.elim
     |outgrown=>exact bu.elim
end
end cd
namespace cd
open Go Go.ChangeShapes Go.WideShapes Go.ChangeAt Go.RowKit
def n1 (P:Program) (w:World):Nat→TypeId→List Value→Prop
 |0,_,_=>False
 |fuel+1,t,cs=>
   match P.underlying t with
   |some .bool=>∃b:Bool,cs=[.bool b]
   |some (.int k)=>∃n:Int,cs=[.int k n]∧k.min≤n∧n≤k.max
   |some .string=>∃s:ByteArray,cs=[.string s]∧s.size≤maxLen
   |some (.slice e)=>∃s:aa,cs=[.slice s.a s.len s.cap]∧s.len≤s.cap∧s.cap≤maxLen∧(s.a=none→s.cap=0)∧
       ∀a,s.a=some a→∀i,i<s.cap→∃vs,eK w (a.add (i*P.cellsOf e)) 0 (P.cellsOf e)=some vs∧n1 P w fuel e vs
   |some (.struct fs)=>cs.length=P.cellsOf t∧∀f∈fs,n1 P w fuel f.type ((cs.drop f.offset).take (P.cellsOf f.type))
   |some (.array n e)=>cs.length=P.cellsOf t∧∀i,i<n→n1 P w fuel e ((cs.drop (i*P.cellsOf e)).take (P.cellsOf e))
   |some (.pointer e)=>cs=[.pointer none]∨∃a vs,cs=[.pointer (some a)]∧eK w a 0 (P.cellsOf e)=some vs∧n1 P w fuel e vs
   |_=>True
theorem mapM_some {α β:Type} {f:α→Option β}:∀ {l:List α} {r:List β},l.mapM f=some r→∀x∈l,∃y,f x=some y
 | [],_,_,_,af=>by cases af
 |a::l,r,h,x,af=>by
   simp only[List.mapM_cons] at h
   cases aU:f a with
   |none=>simp[aU] at h
   |some b=>
     cases az:l.mapM f with
     |none=>simp[aU,az] at h
     |some awP=>
       rcases fZ.1 af with rfl|af
       · exact ⟨b,aU⟩
       · exact mapM_some az x af
theorem ae8 {w:World} {a:Addr}:∀ (n i:Nat) (vs:List Value),((List.range' i n).mapM fun j=>w.cell? (a.add j))=some vs→eK w a i n=some vs
 |0,i,vs,h=>by simp at h;simp[eK,h]
 |n+1,i,vs,h=>by
   simp only[List.range'_succ,List.mapM_cons] at h
   cases U:w.cell? (a.add i) with
   |none=>simp[U] at h
   |some v=>
     cases ad:((List.range' (i+1) n).mapM fun j=>w.cell? (a.add j)) with
     |none=>simp[U,ad] at h
     |some us=>
       simp[U,ad] at h
       have:=ae8 n (i+1) us ad
       simp[eK,U,this,h]
theorem ae9 {w:World} {base:Nat} {a:Addr} {n:Nat} {vs:List Value} (h:w.cells? base a n=some vs):eK w a 0 n=some vs:=by
 unfold World.cells? at h
 split at h
 · rw[Nl] at h
   exact ae8 n 0 vs h
 · cases h
section
variable {H:Type} {enc:TypeId×Value→H} {P:Program} {w:World}
theorem Mz:∀ (fuel:Nat) (t:TypeId) (cs:List Value) (x:DataW H×List MemPlace),DataW.trod enc P w 0 (fun _=>true) true fuel t cs=some x→n1 P w fuel t cs
 |0,_,_,_,h=>by cases h
 |fuel+1,t,cs,x,h=>by
   simp only[DataW.trod] at h
   simp only[n1]
   cases aR:P.underlying t with
   |none=>trivial
   |some d=>
     rw[aR] at h
     cases d<;>try trivial
     case bool=>
       match cs,h with
       | [.bool b],_=>exact ⟨b,rfl⟩
     case int k=>
       match cs,h with
       | [.int lL n],h=>
         simp only at h
         split at h
         · rename_i ae
           obtain ⟨rfl,hw⟩:=ae
           exact ⟨n,rfl,by simpa[Lit.wf] using hw⟩
         · cases h
     case string=>
       match cs,h with
       | [.string s],h=>
         simp only at h
         split at h
         · rename_i ae;exact ⟨s,rfl,ae⟩
         · cases h
     case pointer e=>
       match cs,h with
       | [.pointer none],_=>exact .inl rfl
       | [.pointer (some a)],h=>
         simp only[Option.map_eq_some_iff] at h
         obtain ⟨y,b8,_⟩:=h
         obtain ⟨vs,U,ad⟩:=Option.bind_eq_some_iff.1 b8
         exact .inr ⟨a,vs,rfl,ae9 U,Mz fuel e vs _ ad⟩
     case slice e=>
       match cs,h with
       | [.slice none 0 0],_=>exact ⟨⟨none,0,0⟩,rfl,cR _,fm _,(fun _=>rfl),(fun a aU=>by cases aU)⟩
       | [.slice (some a) len cap],h=>
         simp only at h
         split at h
         · rename_i ae
           refine ⟨⟨some a,len,cap⟩,rfl,ae.2.1,ae.2.2,(fun b7=>by cases b7),fun dg ow i hi=> ?_⟩
           obtain ⟨elems,he,h⟩:=Option.bind_eq_some_iff.1 h
           simp only[if_true,Option.map_eq_some_iff] at h
           obtain ⟨rest,aN,_⟩:=h
           cases ow
           have key:∃y,((w.cells? 0 (a.add (i*P.cellsOf e)) (P.cellsOf e)).bind (DataW.trod enc P w 0 (fun _=>true) true fuel e))=some y:=by
             rcases g8 i len with az|az
             · exact mapM_some he i (wq.2 az)
             · obtain ⟨y,b8⟩:=mapM_some aN (i-len) (wq.2 (by simp only at hi;omega))
               rw[show len+(i-len)=i by omega] at b8
               exact ⟨y,b8⟩
           obtain ⟨y,b8⟩:=key
           obtain ⟨vs,U,ad⟩:=Option.bind_eq_some_iff.1 b8
           exact ⟨vs,ae9 U,Mz fuel e vs _ ad⟩
         · cases h
     case struct fs=>
       simp only at h
       split at h
       · rename_i az
         refine ⟨az,fun f aG=> ?_⟩
         simp only[Option.map_eq_some_iff] at h
         obtain ⟨qg,b8,_⟩:=h
         obtain ⟨y,b8⟩:=mapM_some b8 f (by simpa using aG)
         exact Mz fuel _ _ _ b8
       · cases h
     case array n e=>
       simp only at h
       split at h
       · rename_i az
         refine ⟨az,fun i hi=> ?_⟩
         simp only[Option.map_eq_some_iff] at h
         obtain ⟨qg,b8,_⟩:=h
         obtain ⟨y,b8⟩:=mapM_some b8 i (wq.2 hi)
         exact Mz fuel _ _ _ b8
       · cases h
def BT (P:Program) (w:World) (t:TypeId) (v:Value):Prop:=
 match P.underlying t with
 |some (.struct _)=>∃cs:Array Value,v= .agg cs∧∃fuel,n1 P w fuel t cs.toList
 |some (.array _ _)=>∃cs:Array Value,v= .agg cs∧∃fuel,n1 P w fuel t cs.toList
 |_=>∃fuel,n1 P w fuel t [v]
theorem ae_ {r:Reach} {pb:Nat} {t:TypeId} {v:Value} {d:DataW H} {ps:List MemPlace} (zO:Value.okWide P w r pb t v)
   (hd:DataW.Trod enc P w 0 (fun _=>true) true t v d ps):BT P w t v:=by
 obtain ⟨fuel,hd⟩:=hd
 have U:=Mz fuel t _ _ hd
 unfold BT
 unfold Value.okWide at zO
 have atr:(∀cs,v≠ .agg cs)→v.cells.toList=[v]:=fun h=>by cases v<;>first|rfl|exact absurd rfl (h _)
 cases aR:P.underlying t with
 |none=>
   rw[aR] at zO
   cases fuel with
   |zero=>cases hd
   |succ f=>exact ⟨1,by simp[n1,aR]⟩
 |some ats=>
   rw[aR] at zO
   cases ats
   case struct fs=>obtain ⟨cs,rfl,_,_⟩:=zO;exact ⟨cs,rfl,fuel,U⟩
   case array n e=>obtain ⟨cs,rfl,_,_⟩:=zO;exact ⟨cs,rfl,fuel,U⟩
   all_goals
     refine ⟨fuel,?_⟩
     rw[←atr]
     · exact U
     · rintro cs rfl
       simp[Cell.okWide,Cell.ok,aR] at zO
theorem afa {w w':World} (h:ao (fun _=>False) w w'):Below w.heap.size w w':=
 ⟨h.os,h.tape,h.output,h.size,fun k ae=>h.block k ae (fun h=>h)⟩
theorem att {f:Func} {s:ChangeSpec} {apart fresh handsOn again:Bool} {W x9:World} {args:Array Value} {T:TypeId} {ds gs:List (DataW H)} {before pa kH:List MemPlace}
   (dk:DataW.Whole enc P f.params.toList s.vars apart W args.toList ds gs before) (bj:P.underlying T=some .bool) (eZ:f.resultTypes= #[T])
   (aj:s.fn H (ds++gs)={results:=[.lit (.bool true)],args:=ds})
   (QK:∀sp:Nat→Bool,(∀p∈before,sp p.block=true)→DataW.TrodAll enc P x9 0 sp true f.params.toList args.toList ds pa)
   (atu:∀sp:Nat→Bool,(∀p∈before,sp p.block=true)→DataW.TrodVars enc P x9 sp s.vars [] kH)
   (u6:before=pa++kH) (ab:ao (fun _=>False) W x9):
   s.post enc P f apart fresh handsOn again W args (.bool true) x9:=by
 have fu:=afa ab
 have ba:∀p∈before,p.block<W.heap.size:=fun p aW=>dk.lt p aW
 have hold:∀p∈before,(fun b=>decide (b<W.heap.size)) p.block=true:=fun p aW=>by simpa using ba p aW
 have aN:∀ (b:Nat) (sp:Nat→Bool) (hd:Bool),DataW.TrodAll enc P x9 b sp hd f.resultTypes.toList ((Value.bool true).resultList f.resultTypes.size) (s.fn H (ds++gs)).results []:=by
   intro b sp hd
   rw[aj,eZ]
   exact trodAll_cons_mk (shut_bool bj true) trodAll_mk0
 have aU:∀sp:Nat→Bool,(∀p∈before,sp p.block=true)→DataW.TrodAll enc P x9 0 sp true f.params.toList args.toList (s.fn H (ds++gs)).args pa:=by
   intro sp oY
   rw[aj]
   exact QK sp oY
 have ak:∀sp:Nat→Bool,(∀p∈before,sp p.block=true)→DataW.TrodVars enc P x9 sp s.vars (s.fn H (ds++gs)).vars kH:=by
   intro sp oY
   rw[aj]
   exact atu sp oY
 refine ⟨ds,gs,before,[],pa,kH,dk,aN _ _ _,aU _ hold,ak _ hold,World.keptBut_mono (fun p aW=>⟨aW,?_⟩) (fu.frame (· ∈before)),fun _=> ?_⟩
 · rw[u6,fa] at aW
   exact Or.inr aW
 · obtain ⟨_,_,_,_,_,bO,aC⟩:=dk
   refine ⟨ok_one eZ rfl (okWide_bool_mk bj _),_,_,([]++pa)++kH,⟨[]++pa,kH,trodAll_append (aU _ (fun _ _=>rfl)) (aN _ _ _),ak _ (fun _ _=>rfl),rfl,?_,?_⟩,?_⟩
   · intro b off aW
     have fp:MemPlace.cell b off∈before:=by rw[u6];simpa using aW
     rw[fu.frozen (ba _ fp)]
     exact bO b off fp
   · intro Kk
     have:=aC Kk
     rw[u6] at this
     simpa using this
   · intro p aW _
     rw[u6]
     simpa using aW
theorem afb {t:TypeId} (az:laidOutB P=true) (aN:P.readableRec t=true) (Wx:t<P.types.size) {W x9:World} {v:Value} {d:DataW H} {ps:List MemPlace} {sp:Nat→Bool}
   (h:DataW.Trod enc P W 0 (fun _=>true) true t v d ps) (ab:ao (fun _=>False) W x9) (ba:∀x∈ps,x.block<W.heap.size) (aj:∀p∈ps,sp p.block=true):
   DataW.Trod enc P x9 0 sp true t v d ps:=
 WideElems.Trod_stays az aN Wx h (fun x af=>(afa ab).same (ba x af)) aj
end
end cd
namespace cd
open Go Go.RowKit
def aO (P:Program) (f:FuncId) (args:Array Value) (w:World) (Q:Value→World→Prop):Prop:=
 Calls P f args w fun e ag=>∃v,e= .returned v∧Q v ag
theorem aO.use {P:Program} {f:FuncId} {args:Array Value} {w:World} {Q:Value→World→Prop} {R:Ending→World→Prop}
   (h:aO P f args w Q) (k:∀v w',Q v w'→R (.returned v) w'):Calls P f args w R:=
 Calls.mono h fun _ _ ⟨v,ak,J⟩=>by subst ak;exact k v _ J
theorem aO.mono {P:Program} {f:FuncId} {args:Array Value} {w:World} {Q R:Value→World→Prop}
   (h:aO P f args w Q) (k:∀v w',Q v w'→R v w'):aO P f args w R:=
 aO.use h fun v _ J=>⟨v,rfl,k _ _ J⟩
abbrev Ext (w w':World):Prop:=ao (fun _=>False) w w'
theorem ao.eT {W:Nat→Prop} {w w':World} (h:Ext w w'):ao W w w':=ao.mono h fun _ _ h=>h.elim
theorem ao.drew {W:Nat→Prop} {w w':World} (h:ao W w w'):ao W w w'.drew:=⟨h.os,h.tape,h.output,h.size,h.block⟩
theorem ao.alloc {W:Nat→Prop} {w w':World} (h:ao W w w') (o:Obj):ao W w (w'.alloc o):=
 h.trans ⟨rfl,rfl,rfl,by simp,fun k ae _=>Below.heap_alloc _ _ _ ae⟩
theorem ao.set {W:Nat→Prop} {w w':World} (h:ao W w w') {A:Addr} (ab:A.block<w.heap.size→W A.block) (v:Value):ao W w (w'.setCell A v):=
 ⟨h.os,h.tape,h.output,by simp only[World.setCell,Array.size_modify];exact h.size,fun k ae dk=>by
   rw[Below.heap_setCell _ _ _ _ (fun e=>dk (by subst e;exact ab ae))];exact h.block k ae dk⟩
theorem ao.setCells {W:Nat→Prop} {w:World} {A:Addr} (ab:A.block<w.heap.size→W A.block):∀ (vs:List Value) (i:Nat) {w':World},ao W w w'→ao W w (setCells w' A i vs)
 | [],_,_,h=>h
 |v::vs,i,w',h=>by
   have wE:(A.add i).block=A.block:=by unfold Addr.add;split<;>rfl
   exact ao.setCells ab vs (i+1) (ao.set h (by rw[wE];exact ab) v)
theorem aX (b o n:Nat):(Addr.mk b o none).add n=⟨b,o+n,none⟩:=by
 unfold Addr.add;split
 · rename_i h;subst h;rfl
 · rfl
def cr (w:World) (b:Nat) (c:Array Value) (T:TypeId):Prop:=w.heap[b]? =some (.cells c T (0,0))
section
variable {w w':World} {b i:Nat} {c:Array Value} {T:TypeId}
theorem cr.lt (h:cr w b c T):b<w.heap.size:=(JT.1 h).1
theorem cr.cell (h:cr w b c T) (i:Nat):w.cell? ⟨b,i,none⟩=c[i]? :=by
 unfold cr at h
 simp[World.cell?,h]
theorem cr.frozen (h:cr w b c T) (A:Addr) (ax:A.block=b):w.frozen? A=false:=by
 unfold cr at h
 simp[World.frozen?,ax,h]
theorem cr.an {W:Nat→Prop} (h:cr w b c T) (al:ao W w w') (ab:¬W b):cr w' b c T:=by
 have az:=h.lt
 unfold cr at h⊢
 rw[al.block b az ab];exact h
theorem cr.ext (h:cr w b c T) (al:Ext w w'):cr w' b c T:=h.an al id
theorem cr.drew (h:cr w b c T):cr w.drew b c T:=h
theorem cr.new (w:World) (c:Array Value) (T:TypeId):cr (w.alloc (.cells c T)) w.heap.size c T:=by
 show (w.heap.push (.cells c T))[w.heap.size]? =some (.cells c T (0,0))
 simp
theorem cr.set (h:cr w b c T) (i:Nat) (v:Value):cr (w.setCell ⟨b,i,none⟩ v) b (c.setIfInBounds i v) T:=by
 unfold cr at h⊢
 simp[World.setCell,Nq,h]
def oF (c:Array Value) (i:Nat):List Value→Array Value
 | []=>c
 |v::vs=>oF (c.setIfInBounds i v) (i+1) vs
theorem rq:∀ (vs:List Value) (c:Array Value) (i:Nat),(oF c i vs).size=c.size
 | [],_,_=>rfl
 |v::vs,c,i=>by simp[oF,rq vs]
theorem cr.JX:∀ (vs:List Value) {w:World} {c:Array Value} (i j:Nat),cr w b c T→cr (setCells w ⟨b,i,none⟩ j vs) b (oF c (i+j) vs) T
 | [],_,_,_,_,h=>h
 |v::vs,w,c,i,j,h=>by
   simp only[setCells,oF,aX]
   have:=cr.JX vs i (j+1) (h.set (i+j) v)
   rw[show i+(j+1)=i+j+1 by omega] at this
   exact this
theorem cr.dC (h:cr w b c T) (i:Nat) (vs:List Value) (aC:i+vs.length≤c.size) (aW:∀v∈vs,Plain v):c2 w ⟨b,i,none⟩ vs:=by
 refine ⟨fun j a8=> ?_,aW⟩
 rw[aX,h.cell,h.frozen _ rfl]
 have:i+j<c.size:=by omega
 simp[this]
end
theorem vh {B:(World→Prop)→Prop} {rest:World→Prop} (φ:World→Prop) (U:∀k:World→Prop,(∀w,φ w→k w)→B k) (ad:∀w,φ w→rest w):c0 B rest:=⟨U rest ad⟩
theorem eN {τ:Type} {B:(τ→World→Prop)→Prop} {rest:τ→World→Prop} (φ:τ→World→Prop) (U:∀k:τ→World→Prop,(∀x w,φ x w→k x w)→B k) (ad:∀x w,φ x w→rest x w):c0 B rest:=⟨U rest ad⟩
theorem Uo {τ σ:Type} {B:(τ→σ→World→Prop)→Prop} {rest:τ→σ→World→Prop} (φ:τ→σ→World→Prop) (U:∀k:τ→σ→World→Prop,(∀x y w,φ x y w→k x y w)→B k) (ad:∀x y w,φ x y w→rest x y w):c0 B rest:=⟨U rest ad⟩
theorem atv.of {P:Program} {w:World} {T:TypeId} {k:IntKind} {v:Value} (h:BT P w T v) (bj:P.underlying T=some (.int k)):∃n:Int,v= .int k n∧k.min≤n∧n≤k.max:=by
 simp only[BT,bj] at h
 obtain ⟨fuel,h⟩:=h
 cases fuel with
 |zero=>cases h
 |succ f=>
   simp only[n1,bj] at h
   obtain ⟨n,aC,U,ad⟩:=h
   exact ⟨n,by simpa using aC,U,ad⟩
theorem adZ {n:Int} (b7:IntKind.u8.min≤n) (U:n≤IntKind.u8.max):0≤n∧n≤255:=by
 simpa[IntKind.min,IntKind.max,IntKind.signed,IntKind.bits] using And.intro b7 U
theorem cz {n:Int} (b7: -9223372036854775808≤n) (U:n≤9223372036854775807):IntKind.i64.wrap n=n:=by
 by_cases h:0≤n
 · exact We h U
 · have e:n%18446744073709551616=n+18446744073709551616:=by omega
   simp[IntKind.wrap,IntKind.signed,IntKind.bits,e]
   omega
end cd
namespace cd
open Go Go.RowKit
structure Src (sz:Nat) (w:World) (x:aa) (xs:List Value):Prop where
 len:xs.length=x.len*sz
 nil:x.a=none→xs=[]
 rd:∀a,x.a=some a→eK w a 0 (x.len*sz)=some xs
def b3 (sz:Nat) (T:TypeId) (w:World) (s:aa) (vs:List Value):Prop:=
 vs.length=s.len*sz∧s.len≤s.cap∧s.cap≤maxLen∧
 ((s.a=none∧s.cap=0)∨∃b c,s.a=some ⟨b,0,none⟩∧cr w b c T∧c.size=s.cap*sz∧c.toList.take (s.len*sz)=vs)
def aQ (s:aa) (k:Nat):Prop:=∃A,s.a=some A∧A.block=k
theorem MA {w:World} {A:Addr}:∀ {n i:Nat} {vs:List Value},eK w A i n=some vs→vs.length=n
 |0,_,_,h=>by simp[eK] at h;simp[←h]
 |n+1,i,vs,h=>by
   simp only[eK] at h
   cases U:w.cell? (A.add i) with
   |none=>simp[U] at h
   |some v=>
     cases ad:eK w A (i+1) n with
     |none=>simp[U,ad] at h
     |some us=>
       simp only[U,ad,Option.some.injEq] at h
       subst h
       simp[MA ad]
theorem Hl {w:World} {b:Nat} {c:Array Value} {T:TypeId} (h:cr w b c T):∀ (n o i:Nat),o+i+n≤c.size→eK w ⟨b,o,none⟩ i n=some ((c.toList.drop (o+i)).take n)
 |0,o,i,_=>by simp[eK]
 |n+1,o,i,aC=>by
   have U:o+i<c.size:=by omega
   have dr:=Hl h n o (i+1) (by omega)
   simp only[eK,aX,h.cell,dr]
   have ad:c[o+i]? =some c[o+i]:=by simp[U]
   rw[ad]
   simp only[Option.some.injEq]
   have au:c.toList.drop (o+i)=c[o+i]::c.toList.drop (o+i+1):=by
     rw[tJ (by simpa using U)]
     simp
   rw[au]
   simp[Nat.add_assoc]
theorem b3.src {sz:Nat} {T:TypeId} {w:World} {s:aa} {vs:List Value} (h:b3 sz T w s vs):Src sz w s vs:=by
 obtain ⟨U,ad,au,aH⟩:=h
 refine ⟨U,fun aC=> ?_,fun a aU=> ?_⟩
 · rcases aH with ⟨_,al⟩|⟨b,c,ab,_⟩
   · have:s.len=0:=by omega
     rw[this,Nat.zero_mul] at U
     exact ye.1 U
   · rw[aC] at ab;cases ab
 · rcases aH with ⟨aC,_⟩|⟨b,c,ab,jh,aj,ak⟩
   · rw[aC] at aU;cases aU
   · rw[ab] at aU
     cases aU
     have:=Hl jh (s.len*sz) 0 0 (by rw[aj];simp;exact Ce _ ad)
     rw[this]
     simp[ak]
section
variable {P:Program} {w:World}
theorem Hm {sz:Nat} {x:aa} {xs:List Value} (h:Src sz w x xs):(Builtin.firstCells sz x.len (.slice x.a x.len x.cap)).run P w= .ok xs.toArray w:=by
 cases af:x.a with
 |none=>rw[h.nil af];rfl
 |some a=>
   simp only[Builtin.firstCells,loadCells]
   rw[run_loadCellsFrom _ _ _ _ (h.rd a af)]
   simp
theorem afc (B1:Nat):∀ (r c:Nat),c≤2*B1+1000→Builtin.growBy B1 r c≤2*B1+1000
 |0,c,h=>h
 |r+1,c,h=>by
   simp only[Builtin.growBy]
   split
   · exact h
   · exact afc B1 r _ (by omega)
theorem afd {B1 cap:Nat} (h:cap<B1):Builtin.nextslicecap B1 cap≤2*B1+1000:=by
 unfold Builtin.nextslicecap
 split
 · omega
 · split
   · omega
   · exact afc B1 4 cap (by omega)
theorem Sl {nm:Array TypeId} {ey ew vj e:TypeId} {d:TypeDesc} {sz:Nat} {s x:aa} {xs:List Value} (b7:nm[0]? =some ew) (U:nm[1]? =some vj)
   (aj:P.underlying ew=some (.slice e)) (af:P.underlying vj=some (.slice e)) (he:P.underlying e=some d) (dH:P.cellsOf e=sz) (mD:Src sz w x xs)
   (j7:s.len+x.len≤s.cap) (gW:∀a,s.a=some a→c2 w (a.add (s.len*sz)) xs):
   Sem.run P (Builtin.append_ nm ey #[.slice s.a s.len s.cap, .slice x.a x.len x.cap]) w=
     .ok (.slice s.a (s.len+x.len) s.cap) (match s.a with|some a=>setCells w (a.add (s.len*sz)) 0 xs|none=>w):=by
 have aG:=Hm (P:=P) mD
 have B2:=qE (w:=w) he
 rw[dH] at B2
 cases sW:s.a with
 |none=>
   simp[Builtin.append_,b7,U,gj aj,gj af,B2,Builtin.lenOf,j7,aG]
 |some a=>
   have Cn:=gW a sW
   have:=Hn (P:=P) (A:=a.add (s.len*sz)) xs 0 w (by simpa using Cn.1) Cn.2
   simp[Builtin.append_,b7,U,gj aj,gj af,B2,Builtin.lenOf,j7,aG,this]
theorem run_append_grow {nm:Array TypeId} {ey ew vj e:TypeId} {i:TypeInfo} {z:Value} {sz:Nat} {s x:aa} {xs iV:List Value} (b7:nm[0]? =some ew) (U:nm[1]? =some vj)
   (aj:P.underlying ew=some (.slice e)) (af:P.underlying vj=some (.slice e)) (hi:P.info? e=some i) (hd:(P.underlying e).isSome=true) (bO:i.zero=some z) (rA:z.cells.size=sz) (dH:P.cellsOf e=sz)
   (ab:i.bytes≠0) (mD:Src sz w x xs) (hold:Src sz w s iV) (j7:s.cap<s.len+x.len) (wk:(2*(s.len+x.len)+1000)*i.bytes≤281474976710656):
   ∃ (jZ:Nat) (rest:List Value),s.len+x.len≤jZ∧jZ≤maxLen∧rest.length=(jZ-(s.len+x.len))*sz∧
     Sem.run P (Builtin.append_ nm ey #[.slice s.a s.len s.cap, .slice x.a x.len x.cap]) w=
       .ok (.slice (some ⟨w.heap.size,0,none⟩) (s.len+x.len) jZ) (w.drew.alloc (.cells (iV++xs++rest).toArray e)):=by
 obtain ⟨d,hd⟩:=tV _ hd
 have B2:=qE (w:=w) hd
 rw[dH] at B2
 have PX:=afd j7
 have aC:Builtin.nextslicecap (s.len+x.len) s.cap*i.bytes≤281474976710656:=ju (Ce _ PX) wk
 have atw:s.len+x.len≤281474976710656:=by
   have:s.len+x.len≤(2*(s.len+x.len)+1000)*i.bytes:=by
     have:=Nat.mul_le_mul_left (2*(s.len+x.len)+1000) (Nat.one_le_iff_ne_zero.2 ab)
     omega
   omega
 let q:Question:= .appendCap (s.len+x.len) s.cap e
 let jZ:Nat:=q.cut (w.tape w.drawn q)
 have J:q.forced=false:=rfl
 have fk:s.len+x.len≤jZ:=by show s.len+x.len≤s.len+x.len+_;omega
 have WH:jZ≤maxLen:=by
   show s.len+x.len+_%(2^63-(s.len+x.len))≤2^63-1
   have:=sT (w.tape w.drawn q) (y:=2^63-(s.len+x.len)) (by omega)
   omega
 have atx:Src sz w.drew x xs:=⟨mD.len,mD.nil,fun a aU=>by
   have:=mD.rd a aU
   have al:ao (fun _=>False) w w.drew:=ao.drew (.refl _ _)
   exact al.eK (by simp) _ _ _ this⟩
 have WI:Src sz w.drew s iV:=⟨hold.len,hold.nil,fun a aU=>by
   have:=hold.rd a aU
   have al:ao (fun _=>False) w w.drew:=ao.drew (.refl _ _)
   exact al.eK (by simp) _ _ _ this⟩
 have aG:=Hm (P:=P) atx
 have py:=Hm (P:=P) WI
 have WJ:∀n (w':World),(askRoom n).run P w'= .ok () w':=fun n w'=>by unfold askRoom;split<;>rfl
 have WK:(choose q).run P w= .ok jZ w.drew:=by
   show Sem.run P (.choose q .pure) w=_
   simp only[Sem.run,J,ob,if_false]
   rfl
 have CZ:=fun w:World=>C0 (w:=w) hi
 refine ⟨jZ,(Builtin.zeroCells z.cells (jZ-(s.len+x.len))).toList,fk,WH,by simp[Builtin.zeroCells,rA],?_⟩
 have a_:¬(s.len+x.len≤s.cap):=by omega
 have bw:¬((s.len+x.len:Nat):Int)>IntKind.i64.max:=by
   simp[IntKind.max,IntKind.signed,IntKind.bits];omega
 have ek:¬(281474976710656<Builtin.nextslicecap (s.len+x.len) s.cap*i.bytes):=by omega
 have kS:¬Builtin.nextslicecap (s.len+x.len) s.cap*i.bytes>2^48:=by simpa using ek
 unfold Builtin.append_
 simp only[Nm,z2,Rq,b7,U,Sem.run_bind,gj aj,gj af,Result.andThen,B2,Builtin.lenOf,Sem.run_pure,a_,if_false,ob,CZ,bw,false_and,kS,Bool.not_false,if_true]
 have WL:Sem.run P (choose (.appendCap (s.len+x.len) s.cap e)) w= .ok jZ w.drew:=WK
 simp only[WL,WJ,aG,py,zeroValue,CZ,bO,Sem.run_bind,Result.andThen,Sem.run_pure,newRow,newObj,Sem.run]
 have ra:w.drew.heap.size=w.heap.size:=rfl
 rw[ra]
 congr 1
 show w.drew.alloc _=w.drew.alloc _
 congr 2
 simp
theorem NB:∀ (vs:List Value) (c:Array Value) (i:Nat),i+vs.length≤c.size→(oF c i vs).toList.take (i+vs.length)=c.toList.take i++vs
 | [],c,i,_=>by simp[oF]
 |v::vs,c,i,h=>by
   simp only[k8] at h
   simp only[oF]
   have:=NB vs (c.setIfInBounds i v) (i+1) (by simpa using (by omega:i+1+vs.length≤c.size))
   rw[show i+(v::vs).length=i+1+vs.length by simp;omega,this]
   have hi:i<c.size:=by omega
   have ad:(c.setIfInBounds i v).toList.take (i+1)=c.toList.take i++ [v]:=by
     rw[qx (by simpa using hi)]
     have au:(List.take i c.toList).set i v=List.take i c.toList:=by
       apply List.set_eq_of_length_le
       simp only[ej]
       omega
     simp[List.take_set,au]
   rw[ad]
   simp
theorem aty {nm:Array TypeId} {ey ew vj e:TypeId} {i:TypeInfo} {z:Value} {sz:Nat} {s x:aa} {xs vs:List Value} (b7:nm[0]? =some ew) (U:nm[1]? =some vj)
   (aj:P.underlying ew=some (.slice e)) (af:P.underlying vj=some (.slice e)) (hi:P.info? e=some i) (hd:(P.underlying e).isSome=true) (bO:i.zero=some z) (rA:z.cells.size=sz) (dH:P.cellsOf e=sz)
   (ab:i.bytes≠0) (mD:Src sz w x xs) (j1:b3 sz e w s vs) (aW:∀v∈xs,Plain v) (wk:(2*(s.len+x.len)+1000)*i.bytes≤281474976710656):
   ∃ (ar:aa) (w':World),Sem.run P (Builtin.append_ nm ey #[.slice s.a s.len s.cap, .slice x.a x.len x.cap]) w= .ok (.slice ar.a ar.len ar.cap) w'∧
     b3 sz e w' ar (vs++xs)∧ar.len=s.len+x.len∧ao (aQ s) w w'∧(∀k,aQ ar k→aQ s k∨w.heap.size≤k):=by
 have hold:=j1.src
 obtain ⟨aB,aF,aJ,aM⟩:=j1
 by_cases j7:s.len+x.len≤s.cap
 · have gW:∀a,s.a=some a→c2 w (a.add (s.len*sz)) xs:=by
     intro a aU
     rcases aM with ⟨aC,_⟩|⟨b,c,HK,jh,ec,ak⟩
     · rw[aC] at aU;cases aU
     · rw[HK] at aU
       cases aU
       rw[aX]
       refine jh.dC _ _ ?_ aW
       rw[ec,mD.len,gy,←wv]
       exact Ce _ j7
   obtain ⟨d,hd⟩:=tV _ hd
   have Ag:=Sl (ey:=ey) b7 U aj af hd dH mD j7 gW
   refine ⟨⟨s.a,s.len+x.len,s.cap⟩,_,Ag,?_,rfl,?_,fun k ae=> .inl ae⟩
   · refine ⟨by simp[aB,mD.len,wv],j7,aJ,?_⟩
     rcases aM with ⟨aC,al⟩|⟨b,c,HK,jh,ec,ak⟩
     · exact .inl ⟨aC,al⟩
     · refine .inr ⟨b,oF c (s.len*sz) xs,HK,?_,by rw[rq];exact ec,?_⟩
       · simp only[HK,aX]
         have:=cr.JX (T:=e) xs (0+s.len*sz) 0 jh
         simpa using this
       · have hle:s.len*sz+xs.length≤c.size:=by
           rw[ec,mD.len,←wv]
           exact Ce _ j7
         have:=NB xs c (s.len*sz) hle
         rw[mD.len,←wv] at this
         rw[this,ak]
   · cases sW:s.a with
     |none=>exact .refl _ _
     |some a=>
       refine ao.setCells (fun _=> ?_) xs 0 (.refl _ _)
       exact ⟨a,sW,by unfold Addr.add;split<;>rfl⟩
 · obtain ⟨jZ,rest,ld,nk,aN,Ag⟩:=run_append_grow (ey:=ey) b7 U aj af hi hd bO rA dH ab mD hold (by omega) wk
   refine ⟨⟨some ⟨w.heap.size,0,none⟩,s.len+x.len,jZ⟩,_,Ag,?_,rfl,ao.alloc (ao.drew (.refl _ _)) _,?_⟩
   · refine ⟨by simp[aB,mD.len,wv],ld,nk, .inr ⟨w.heap.size,(vs++xs++rest).toArray,rfl,cr.new w.drew _ _,?_,?_⟩⟩
     · simp[aB,mD.len,aN]
       rw[←wv,←wv]
       congr 1
       omega
     · have:(vs++xs).length=(s.len+x.len)*sz:=by simp[aB,mD.len,wv]
       show List.take ((s.len+x.len)*sz) (vs++xs++rest).toArray.toList=vs++xs
       rw[←this]
       exact List.take_left
   · rintro k ⟨A,ax,ae⟩
     cases ax
     exact .inr (by simpa using ae▸cR _)
end
theorem b3.an {sz:Nat} {T:TypeId} {w w':World} {s:aa} {vs:List Value} {W:Nat→Prop} (h:b3 sz T w s vs) (al:ao W w w') (aC:∀k,aQ s k→¬W k):b3 sz T w' s vs:=by
 obtain ⟨U,ad,au,aH⟩:=h
 refine ⟨U,ad,au,?_⟩
 rcases aH with aH|⟨b,c,ab,jh,ec,ak⟩
 · exact .inl aH
 · exact .inr ⟨b,c,ab,jh.an al (aC b ⟨_,ab,rfl⟩),ec,ak⟩
theorem Src.an {sz:Nat} {w w':World} {s:aa} {vs:List Value} {W:Nat→Prop} (h:Src sz w s vs) (al:ao W w w') (aC:∀k,aQ s k→¬W k):Src sz w' s vs:=
 ⟨h.len,h.nil,fun a aU=>al.eK (aC _ ⟨a,aU,rfl⟩) _ _ _ (h.rd a aU)⟩
theorem b3.lt {sz:Nat} {T:TypeId} {w:World} {s:aa} {vs:List Value} (h:b3 sz T w s vs):∀k,aQ s k→k<w.heap.size:=by
 rintro k ⟨A,ax,rfl⟩
 obtain ⟨_,_,_,aH⟩:=h
 rcases aH with ⟨aC,_⟩|⟨b,c,ab,jh,_⟩
 · rw[aC] at ax;cases ax
 · rw[ab] at ax;cases ax;exact jh.lt
theorem b3.cell {T:TypeId} {w:World} {s:aa} {vs:List Value} (h:b3 1 T w s vs) {i:Nat} {v:Value} (ak:vs[i]? =some v):
   ∃b c,s.a=some ⟨b,0,none⟩∧cr w b c T∧c.size=s.cap∧i<s.len∧i<c.size∧w.cell? ⟨b,i,none⟩=some v∧c.toList.take s.len=vs:=by
 obtain ⟨U,ad,au,aH⟩:=h
 have hi:i<s.len:=by
   have:=(qy.1 ak).1
   omega
 rcases aH with ⟨_,al⟩|⟨b,c,ab,jh,ec,aR⟩
 · omega
 · rw[mi] at ec aR
   refine ⟨b,c,ab,jh,ec,hi,by omega,?_,aR⟩
   rw[jh.cell]
   rw[←aR,No] at ak
   rw[if_pos hi] at ak
   simpa using ak
theorem b3.set {T:TypeId} {w:World} {s:aa} {vs:List Value} {b i:Nat} (h:b3 1 T w s vs) (ab:s.a=some ⟨b,0,none⟩) (v:Value):
   b3 1 T (w.setCell ⟨b,i,none⟩ v) s (vs.set i v):=by
 obtain ⟨U,ad,au,aH⟩:=h
 refine ⟨by simpa using U,ad,au, .inr ?_⟩
 rcases aH with ⟨aC,_⟩|⟨jx,c,kx,jh,ec,aR⟩
 · rw[aC] at ab;cases ab
 · rw[ab] at kx
   cases kx
   refine ⟨b,_,ab,jh.set i v,by simpa using ec,?_⟩
   rw[←aR]
   simp[List.take_set]
def afe (P:Program) (ew e:TypeId) (sz bytes:Nat):Bool:=
 match P.underlying ew,P.info? e,P.underlying e with
 |some (.slice eO),some i,some _=>eO==e&&(match i.zero with|some z=>z.cells.size==sz|none=>false)&&P.cellsOf e==sz&&i.bytes==bytes&&bytes !=0
 |_,_,_=>false
structure p9 (P:Program) (ew e:TypeId) (sz bytes:Nat):Prop where
 h:afe P ew e sz bytes=true
theorem p9.out {P:Program} {ew e:TypeId} {sz bytes:Nat} (h:p9 P ew e sz bytes):
   P.underlying ew=some (.slice e)∧∃i z,P.info? e=some i∧(P.underlying e).isSome=true∧i.zero=some z∧z.cells.size=sz∧P.cellsOf e=sz∧i.bytes=bytes∧bytes≠0:=by
 have h:=h.h
 unfold afe at h
 split at h
 · rename_i eO i d U ad au
   simp only[jL,zZ,bne_iff_ne] at h
   obtain ⟨⟨⟨⟨rfl,aH⟩,aY⟩,b9⟩,iD⟩:=h
   split at aH
   · rename_i z bO
     exact ⟨U,i,z,ad,by simp[au],bO,by simpa using aH,aY,b9,iD⟩
   · cases aH
 · cases h
theorem p9.append {P:Program} {w:World} {ew e ey:TypeId} {sz bytes:Nat} {s x:aa} {xs vs:List Value} (h:p9 P ew e sz bytes)
   (mD:Src sz w x xs) (j1:b3 sz e w s vs) (aW:∀v∈xs,Plain v) (wk:(2*(s.len+x.len)+1000)*bytes≤281474976710656):
   ∃ (ar:aa) (w':World),Sem.run P (Builtin.append_ #[ew,ew] ey #[.slice s.a s.len s.cap, .slice x.a x.len x.cap]) w= .ok (.slice ar.a ar.len ar.cap) w'∧
     b3 sz e w' ar (vs++xs)∧ar.len=s.len+x.len∧ao (aQ s) w w'∧(∀k,aQ ar k→aQ s k∨w.heap.size≤k):=by
 obtain ⟨U,i,z,ad,au,aH,aY,b9,rfl,oq⟩:=h.out
 exact aty rfl rfl U U ad au aH aY b9 oq mD j1 aW wk
theorem Src.new {sz:Nat} {T:TypeId} (w:World) (xs:List Value) (n:Nat) (aC:xs.length=n*sz):Src sz (w.alloc (.cells xs.toArray T)) ⟨some ⟨w.heap.size,0,none⟩,n,n⟩ xs:=by
 refine ⟨aC,(fun h=>by cases h),fun a aU=> ?_⟩
 cases aU
 rw[Hl (cr.new w xs.toArray T) _ _ _ (by simp[aC])]
 simp[←aC]
theorem b3.new {sz:Nat} {T:TypeId} (w:World) (xs:List Value) (n:Nat) (aC:xs.length=n*sz) (hm:n≤maxLen):b3 sz T (w.alloc (.cells xs.toArray T)) ⟨some ⟨w.heap.size,0,none⟩,n,n⟩ xs:=by
 refine ⟨aC,cR _,hm, .inr ⟨_,_,rfl,cr.new w _ _,by simp[aC],?_⟩⟩
 show List.take (n*sz) xs=xs
 rw[←aC,qz]
theorem b3.none (sz:Nat) (T:TypeId) (w:World):b3 sz T w ⟨.none,0,0⟩ []:=⟨by simp,cR _,by decide, .inl ⟨rfl,rfl⟩⟩
theorem qF (k:Nat):¬aQ ⟨.none,0,0⟩ k:=by rintro ⟨A,ax,_⟩;cases ax
theorem ui {A:Addr} {n m k:Nat}:aQ ⟨some A,n,m⟩ k↔A.block=k:=⟨fun ⟨B,fu,h⟩=>by cases fu;exact h,fun h=>⟨_,rfl,h⟩⟩
theorem Src.alloc {sz:Nat} {w:World} {s:aa} {vs:List Value} (h:Src sz w s vs) (o:Obj):Src sz (w.alloc o) s vs:=h.an (W:=fun _=>False) (ao.alloc (.refl _ _) o) (fun _ _ h=>h)
theorem b3.ext {sz:Nat} {T:TypeId} {w w':World} {s:aa} {vs:List Value} (h:b3 sz T w s vs) (al:Ext w w'):b3 sz T w' s vs:=h.an al fun _ _ h=>h
theorem Src.ext {sz:Nat} {w w':World} {s:aa} {vs:List Value} (h:Src sz w s vs) (al:Ext w w'):Src sz w' s vs:=h.an al fun _ _ h=>h
theorem p9.push {P:Program} {w:World} {ew e ey:TypeId} {sz bytes:Nat} {s:aa} {vs xs:List Value} (h:p9 P ew e sz bytes) (af:xs.length=sz)
   (j1:b3 sz e w s vs) (aW:∀v∈xs,Plain v) (wk:(2*(s.len+1)+1000)*bytes≤281474976710656):
   ∃ (ar:aa) (w':World),Sem.run P (Builtin.append_ #[ew,ew] ey #[.slice s.a s.len s.cap, .slice (some ⟨w.heap.size,0,none⟩) 1 1]) (w.alloc (.cells xs.toArray e))= .ok (.slice ar.a ar.len ar.cap) w'∧
     b3 sz e w' ar (vs++xs)∧ar.len=s.len+1∧ao (aQ s) w w'∧(∀k,aQ ar k→aQ s k∨w.heap.size≤k):=by
 have al:Ext w (w.alloc (.cells xs.toArray e)):=ao.alloc (.refl _ _) _
 obtain ⟨ar,w',U,ad,au,aH,aY⟩:=h.append (ey:=ey) (Src.new (T:=e) w xs 1 (by simpa using af)) (j1.ext al) aW wk
 exact ⟨ar,w',U,ad,au,(ao.eT al).trans aH,fun k ae=>(aY k ae).imp id (fun h=>by simp at h;omega)⟩
theorem p9.clone {P:Program} {w:World} {ew e ey:TypeId} {sz bytes:Nat} {x:aa} {xs:List Value} (h:p9 P ew e sz bytes)
   (mD:Src sz w x xs) (aW:∀v∈xs,Plain v) (wk:(2*x.len+1000)*bytes≤281474976710656):
   ∃ (ar:aa) (w':World),Sem.run P (Builtin.append_ #[ew,ew] ey #[.slice (some ⟨w.heap.size,0,none⟩) 0 0, .slice x.a x.len x.cap]) (w.alloc (.cells #[] e))= .ok (.slice ar.a ar.len ar.cap) w'∧
     b3 sz e w' ar xs∧ar.len=x.len∧Ext w w'∧(∀k,aQ ar k→w.heap.size≤k)∧ar.a.isSome=true:=by
 have j1:=b3.new (sz:=sz) (T:=e) w [] 0 (by simp) (by decide)
 have aff:=mD.alloc (.cells #[] e)
 obtain ⟨ar,w',U,ad,au,aH,aY⟩:=h.append (ey:=ey) aff j1 aW (by simpa using wk)
 refine ⟨ar,w',U,by simpa using ad,by simpa using au,?_,fun k ae=> ?_,?_⟩
 · refine ⟨aH.os.trans rfl,aH.tape.trans rfl,aH.output.trans rfl,?_,fun k ae _=> ?_⟩
   · have:=aH.size;simp at this;omega
   · rw[aH.block k (by simp;omega) (by rintro ⟨A,ax,h⟩;cases ax;simp at h;omega)]
     exact Below.heap_alloc _ _ _ ae
 · rcases aY k ae with ⟨A,ax,h⟩|h
   · cases ax;simp at h;omega
   · simp at h;omega
 · obtain ⟨_,i,z,Fs,Wf,awQ,aiz,atz,rfl,oq⟩:=h.out
   have ab:=ad.2.2.2
   rcases ab with ⟨aC,al⟩|⟨b,c,ab,_⟩
   ·
     exfalso
     have az:=ad.2.1
     have GF:x.len=0:=by simp at au;omega
     have abg:xs=[]:=ye.1 (by rw[mD.len,GF,Nat.zero_mul])
     obtain ⟨d,hd⟩:=tV _ Wf
     have:=Sl (P:=P) (w:=w.alloc (.cells #[] e)) (nm:= #[ew,ew]) (ey:=ey) (s:=⟨some ⟨w.heap.size,0,Option.none⟩,0,0⟩) rfl rfl h.out.1 h.out.1 hd atz aff (by simp[GF]) (fun a _=>by
       rw[abg];exact ⟨fun i hi=>by simp at hi,fun v ak=>by simp at ak⟩)
     rw[this] at U
     simp only[Result.ok.injEq,Value.slice.injEq] at U
     rw[aC] at U
     cases U.1.1
   · rw[ab];rfl
theorem b3.at {T:TypeId} {w:World} {s:aa} {vs:List Value} (h:b3 1 T w s vs) {i:Nat} {v:Value} (ak:vs[i]? =some v):
   ∃A:Addr,s.a=some A∧((0:Int)≤(i:Int)∧(i:Int)<((s.len:Nat):Int))∧w.cell? (A.add (Int.toNat (i:Int)*1))=some v∧w.frozen? (A.add (Int.toNat (i:Int)*1))=false∧
     aQ s (A.add (Int.toNat (i:Int)*1)).block∧∀ue,b3 1 T (w.setCell (A.add (Int.toNat (i:Int)*1)) ue) s (vs.set i ue):=by
 obtain ⟨b,c,ab,jh,ec,hi,S_,al,_⟩:=h.cell ak
 have aU:(Addr.mk b 0 Option.none).add (Int.toNat (i:Int)*1)=⟨b,i,Option.none⟩:=by rw[mi,g9,aX,gy]
 exact ⟨_,ab,⟨by omega,by omega⟩,by rw[aU];exact al,by rw[aU];exact jh.frozen _ rfl,by rw[aU];exact ⟨_,ab,rfl⟩,fun ue=>by rw[aU];exact h.set ab ue⟩
end cd
namespace cd
open Go Go.RowKit
def afg (px:List Int):ByteArray:=px.foldl (fun r n=>r.push (UInt8.ofNat n.toNat)) ByteArray.empty
theorem ahG {P:Program} {w:World} {src dst e:TypeId} {s:aa} {px:List Int} (aj:P.underlying src=some (.slice e)) (he:P.underlying e=some (.int .u8)) (hd:P.underlying dst=some .string)
   (h:Src 1 w s (px.map (.int .u8))):Sem.run P (convert src dst (.slice s.a s.len s.cap)) w= .ok (.string (afg px)) w:=by
 rw[run_convert_bytes_string w src dst e s.a s.len s.cap aj he hd]
 cases aU:s.a with
 |none=>
   have:=h.nil aU
   have aC:px=[]:=by simpa using this
   subst aC
   rfl
 |some A=>
   have aN:=h.rd A aU
   rw[mi] at aN
   exact run_bytesToString w A s.len s.cap px (by
     unfold loadCells
     rw[run_loadCellsFrom _ _ _ _ aN]
     simp)
theorem X2 {P:Program} {e:TypeId} {v:Value} (bO:((P.info? e).bind (·.zero)).map (·.cells)=some #[v]) (al:P.cellsOf e=1) (n:Nat):pC P e n=(List.replicate n v).toArray:=by
 unfold pC
 rw[al]
 cases hi:(P.info? e).bind (·.zero) with
 |none=>rw[hi] at bO;cases bO
 |some z=>
   rw[hi] at bO
   simp only[yf,Option.some.injEq] at bO
   simp only[Option.getD_some,bO,mi]
   apply Array.ext
   · simp
   · intro i U ad
     have aC:n≠0:=by
       intro h;subst h;simp at ad
     simp[aC,Nat.mod_one]
structure Gx (P:Program) (w:World) (e:TypeId) (s:aa):Prop where
 le:s.len≤s.cap
 cap:s.cap≤maxLen
 nil:s.a=none→s.cap=0
 cell:∀a,s.a=some a→∀i,i<s.cap→∃vs,eK w (a.add (i*P.cellsOf e)) 0 (P.cellsOf e)=some vs∧∃fuel,n1 P w fuel e vs
section
variable {P:Program} {w:World} {T:TypeId} {fuel:Nat} {cs:List Value}
theorem V2 {k:IntKind} (h:n1 P w fuel T cs) (bj:P.underlying T=some (.int k)):∃n:Int,cs=[.int k n]∧k.min≤n∧n≤k.max:=by
 cases fuel with
 |zero=>cases h
 |succ f=>simpa only[n1,bj] using h
theorem V3 {e:TypeId} (h:n1 P w fuel T cs) (bj:P.underlying T=some (.slice e)):∃s:aa,cs=[.slice s.a s.len s.cap]∧Gx P w e s:=by
 cases fuel with
 |zero=>cases h
 |succ f=>
   simp only[n1,bj] at h
   obtain ⟨s,b7,U,ad,au,aH⟩:=h
   exact ⟨s,b7,U,ad,au,fun a aU i hi=>by
     obtain ⟨vs,aY,b9⟩:=aH a aU i hi
     exact ⟨vs,aY,f,b9⟩⟩
theorem ad0 {fs:Array Field} (h:n1 P w fuel T cs) (bj:P.underlying T=some (.struct fs)):cs.length=P.cellsOf T∧∀f∈fs,∃fuel,n1 P w fuel f.type ((cs.drop f.offset).take (P.cellsOf f.type)):=by
 cases fuel with
 |zero=>cases h
 |succ f=>
   simp only[n1,bj] at h
   exact ⟨h.1,fun g bg=>⟨f,h.2 g bg⟩⟩
theorem Gx.of {e:TypeId} {v:Value} (h:BT P w T v) (bj:P.underlying T=some (.slice e)):∃s:aa,v= .slice s.a s.len s.cap∧Gx P w e s:=by
 simp only[BT,bj] at h
 obtain ⟨fuel,h⟩:=h
 obtain ⟨s,U,ad⟩:=V3 h bj
 exact ⟨s,by simpa using U,ad⟩
end
theorem Ho {w:World} {A:Addr}:∀ {n i:Nat} {vs:List Value} {j:Nat} {v:Value},eK w A i n=some vs→vs[j]? =some v→w.cell? (A.add (i+j))=some v
 |0,i,vs,j,v,h,ak=>by simp[eK] at h;subst h;simp at ak
 |n+1,i,vs,j,v,h,ak=>by
   simp only[eK] at h
   cases U:w.cell? (A.add i) with
   |none=>simp[U] at h
   |some u=>
     cases ad:eK w A (i+1) n with
     |none=>simp[U,ad] at h
     |some us=>
       simp only[U,ad,Option.some.injEq] at h
       subst h
       cases j with
       |zero=>simp at ak;subst ak;exact U
       |succ j=>
         have:=Ho ad (j:=j) (by simpa using ak)
         rw[show i+(j+1)=i+1+j by omega]
         exact this
theorem Src.at {w:World} {s:aa} {vs:List Value} (h:Src 1 w s vs) {i:Nat} {v:Value} (ak:vs[i]? =some v):
   ∃A:Addr,s.a=some A∧((0:Int)≤(i:Int)∧(i:Int)<((s.len:Nat):Int))∧w.cell? (A.add (Int.toNat (i:Int)*1))=some v:=by
 have hi:i<vs.length:=(qy.1 ak).1
 have az:=h.len
 cases aU:s.a with
 |none=>have:=h.nil aU;subst this;simp at hi
 |some A=>
   have:=Ho (h.rd A aU) ak
   exact ⟨A,rfl,⟨by omega,by omega⟩,by rw[mi,g9];simpa using this⟩
end cd
namespace cd
open Go Go.RowKit
theorem R1 {n:Int} (b7:0≤n) (U:n≤255):IntKind.u8.wrap n=n:=by
 simp only[IntKind.wrap,IntKind.signed,IntKind.bits];simp;omega
theorem RW {n:Int} (b7:0≤n) (U:n≤4294967295):IntKind.u32.wrap n=n:=by
 simp only[IntKind.wrap,IntKind.signed,IntKind.bits];simp;omega
theorem wC {n:Int} (b7:0≤n) (U:n≤18446744073709551615):IntKind.u64.wrap n=n:=by
 simp only[IntKind.wrap,IntKind.signed,IntKind.bits];simp;omega
theorem ahU (n:Int):IntKind.u8.wrap n=n%256:=by
 simp only[IntKind.wrap,IntKind.signed,IntKind.bits];simp
def S (l:List UInt8):ByteArray:=⟨l.toArray⟩
theorem afh (l:List UInt8):(S l).toList=l:=ByteArray.toList_mk l
theorem Cz (a b:List UInt8):(ByteArray.toList (S a)==ByteArray.toList (S b))=(a==b):=by rw[afh,afh]
theorem ahH (px:List Int):afg px=S (px.map fun n=>UInt8.ofNat n.toNat):=by
 have h:∀ (px:List Int) (r:List UInt8),px.foldl (fun r n=>r.push (UInt8.ofNat n.toNat)) (S r)=S (r++px.map fun n=>UInt8.ofNat n.toNat):=by
   intro px
   induction px with
   |nil=>intro r;simp
   |cons n px dr=>
     intro r
     have e:(S r).push (UInt8.ofNat n.toNat)=S (r++ [UInt8.ofNat n.toNat]):=by
       apply ByteArray.ext
       simp[S,ByteArray.push]
     simp only[List.foldl_cons,e,dr,tK,eI,EL,rl]
 exact h px []
theorem add_add (A:Addr) (n m:Nat):(A.add n).add m=A.add (n+m):=by
 unfold Addr.add
 by_cases U:n=0
 · subst U;simp
 · by_cases ad:m=0
   · subst ad;simp
   · rw[if_neg U,if_neg ad,if_neg (by omega)]
     simp[Nat.add_assoc]
def put (f:Nat→Int) (i:Nat) (v:Int):Nat→Int:=fun j=>if j=i then v else f j
section
variable {w w':World} {b m i:Nat} {T:TypeId} {f:Nat→Int}
theorem ao.om {bJ w:World} {b i:Nat} (h:ao (fun q=>q=b) bJ w) (v:Value):ao (fun q=>q=b) bJ (w.setCell ⟨b,i,none⟩ v):=ao.set h (fun _=>rfl) v
theorem ao.Aa {bJ w:World} {b i:Nat} (h:ao (fun q=>q=b) bJ w) (vs:List Value) (j:Nat):ao (fun q=>q=b) bJ (cd.setCells w ⟨b,i,none⟩ j vs):=ao.setCells (W:=fun q=>q=b) (A:=⟨b,i,none⟩) (fun _=>rfl) vs j h
end
theorem NP {b o:Nat} {z l m:Nat} (h:m≠l):bh (some (Addr.mk b o none)) z l m=some ⟨b,o+l*z,none⟩:=by
 simp[bh,h,aX]
theorem Ext.trans {a b c:World} (U:Ext a b) (ad:Ext b c):Ext a c:=ao.trans U ad
theorem Ext.gA {bJ ag aw:World} {W:Nat→Prop} (U:Ext bJ ag) (ad:ao W ag aw) (h:∀k,W k→bJ.heap.size≤k):Ext bJ aw:=
 ⟨ad.os.trans U.os,ad.tape.trans U.tape,ad.output.trans U.output,ju U.size ad.size,fun k ae _=>by
   rw[ad.block k (lv ae U.size) (fun dk=>by have:=h k dk;omega),U.block k ae id]⟩
end cd
