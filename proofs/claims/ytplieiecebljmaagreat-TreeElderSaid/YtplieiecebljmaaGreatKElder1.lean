/- What a Go program of the model must show, as text that can be read; sound against the kit. -/
import Derived.Below
import Derived.KernelRfl
import Derived.Laws.BytesString
import Derived.OpenShut
import Derived.OrdersHeld
import Derived.ProofKit
import Derived.StillTail
import Derived.Tactics
import Derived.WalkKit
import Derived.WideKeyArgs
namespace Go
theorem cP:type_of% @Nat.le_refl:=@Nat.le_refl
theorem dU:type_of% @of_decide_eq_true:=@of_decide_eq_true
theorem dV:type_of% @List.length_take:=@List.length_take
theorem er:type_of% @List.append_assoc:=@List.append_assoc
theorem eu:type_of% @List.length_append:=@List.length_append
theorem fe:type_of% @List.mem_append:=@List.mem_append
theorem ff:type_of% @of_decide_eq_false:=@of_decide_eq_false
theorem fv:type_of% @List.getElem_mem:=@List.getElem_mem
theorem fw:type_of% @List.length_drop:=@List.length_drop
theorem fx:type_of% @Nat.zero_le:=@Nat.zero_le
theorem fI:type_of% @decide_eq_true_eq:=@decide_eq_true_eq
theorem gp:type_of% @List.mem_cons:=@List.mem_cons
theorem gR:type_of% @Nat.zero_add:=@Nat.zero_add
theorem gX:type_of% @List.take_of_length_le:=@List.take_of_length_le
theorem g8:type_of% @List.getElem?_eq_getElem:=@List.getElem?_eq_getElem
theorem hE:type_of% @Nat.lt_or_ge:=@Nat.lt_or_ge
theorem hF:type_of% @Int.toNat_natCast:=@Int.toNat_natCast
theorem il:type_of% @decide_eq_true:=@decide_eq_true
theorem iT:type_of% @Nat.le_trans:=@Nat.le_trans
theorem je:type_of% @List.length_set:=@List.length_set
theorem jw:type_of% @Bool.and_eq_true:=@Bool.and_eq_true
theorem kk:type_of% @List.mem_of_mem_drop:=@List.mem_of_mem_drop
theorem kA:type_of% @List.mem_of_mem_take:=@List.mem_of_mem_take
theorem lg:type_of% @Nat.lt_of_lt_of_le:=@Nat.lt_of_lt_of_le
theorem lC:type_of% @Bool.not_eq_true:=@Bool.not_eq_true
theorem l2:type_of% @List.append_nil:=@List.append_nil
theorem ml:type_of% @Nat.mul_one:=@Nat.mul_one
theorem mm:type_of% @List.not_mem_nil:=@List.not_mem_nil
theorem mn:type_of% @or_false:=@or_false
theorem mN:type_of% @List.length_map:=@List.length_map
theorem mO:type_of% @List.getElem_set_ne:=@List.getElem_set_ne
theorem na:type_of% @List.getElem_of_mem:=@List.getElem_of_mem
theorem nC:type_of% @List.mem_singleton:=@List.mem_singleton
theorem n2:type_of% @Bool.false_eq_true:=@Bool.false_eq_true
theorem n3:type_of% @List.map_append:=@List.map_append
theorem oB:type_of% @List.length_cons:=@List.length_cons
theorem o1:type_of% @Bool.eq_iff_iff:=@Bool.eq_iff_iff
theorem p4:type_of% @List.mem_map:=@List.mem_map
theorem p5:type_of% @List.getD_eq_getElem?_getD:=@List.getD_eq_getElem?_getD
theorem qp:type_of% @List.mem_append_right:=@List.mem_append_right
theorem qq:type_of% @List.take_append_drop:=@List.take_append_drop
theorem qs:type_of% @List.getElem?_eq_some_iff:=@List.getElem?_eq_some_iff
theorem qt:type_of% @Nat.eq_of_beq_eq_true:=@Nat.eq_of_beq_eq_true
theorem rh:type_of% @List.length_singleton:=@List.length_singleton
theorem rZ:type_of% @List.nil_append:=@List.nil_append
theorem r0:type_of% @Nat.min_eq_left:=@Nat.min_eq_left
theorem r2:type_of% @List.find?_eq_none:=@List.find?_eq_none
theorem sH:type_of% @decide_eq_false:=@decide_eq_false
theorem sI:type_of% @Nat.mod_lt:=@Nat.mod_lt
theorem tB:type_of% @List.pairwise_cons:=@List.pairwise_cons
theorem tC:type_of% @List.map_cons:=@List.map_cons
theorem tD:type_of% @List.take_length:=@List.take_length
theorem tE:type_of% @decide_eq_false_iff_not:=@decide_eq_false_iff_not
theorem tF:type_of% @List.count_pos_iff:=@List.count_pos_iff
theorem uH:type_of% @List.filter_eq_self:=@List.filter_eq_self
theorem uI:type_of% @List.mem_append_left:=@List.mem_append_left
theorem uJ:type_of% @List.drop_eq_getElem_cons:=@List.drop_eq_getElem_cons
theorem uK:type_of% @List.take_succ_eq_append_getElem:=@List.take_succ_eq_append_getElem
theorem uL:type_of% @Nat.mod_eq_of_lt:=@Nat.mod_eq_of_lt
theorem uM:type_of% @List.getElem_set_self:=@List.getElem_set_self
theorem v5:type_of% @List.mem_cons_of_mem:=@List.mem_cons_of_mem
theorem v7:type_of% @List.mem_range:=@List.mem_range
theorem v8:type_of% @Nat.add_mul:=@Nat.add_mul
theorem v9:type_of% @List.getElem?_append_right:=@List.getElem?_append_right
theorem xY:type_of% @List.sum_append:=@List.sum_append
theorem xZ:type_of% @Bool.or_eq_true:=@Bool.or_eq_true
theorem x0:type_of% @List.length_nil:=@List.length_nil
theorem zE:type_of% @Nat.add_zero:=@Nat.add_zero
theorem zF:type_of% @List.length_eq_zero_iff:=@List.length_eq_zero_iff
theorem zG:type_of% @List.drop_zero:=@List.drop_zero
theorem zH:type_of% @Bool.not_eq_true':=@Bool.not_eq_true'
theorem zI:type_of% @List.getElem_append_left:=@List.getElem_append_left
theorem zJ:type_of% @beq_iff_eq:=@beq_iff_eq
theorem zK:type_of% @Nat.le_succ:=@Nat.le_succ
theorem zL:type_of% @List.getElem?_cons_zero:=@List.getElem?_cons_zero
theorem BN:type_of% @List.filter_append:=@List.filter_append
theorem BO:type_of% @List.perm_middle:=@List.perm_middle
theorem BP:type_of% @Option.map_some:=@Option.map_some
theorem BQ:type_of% @Nat.mul_le_mul_right:=@Nat.mul_le_mul_right
theorem BR:type_of% @Option.isSome_iff_exists:=@Option.isSome_iff_exists
theorem BS:type_of% @Nat.testBit_or:=@Nat.testBit_or
theorem BT:type_of% @Nat.le_of_ble_eq_true:=@Nat.le_of_ble_eq_true
theorem D_:type_of% @List.filter_eq_nil_iff:=@List.filter_eq_nil_iff
theorem Ea:type_of% @List.cons_append:=@List.cons_append
theorem Eb:type_of% @List.pairwise_append:=@List.pairwise_append
theorem Ec:type_of% @List.length_zip:=@List.length_zip
theorem Ed:type_of% @List.mem_of_find?_eq_some:=@List.mem_of_find?_eq_some
theorem Ee:type_of% @List.map_take:=@List.map_take
theorem Ef:type_of% @Nat.sub_self:=@Nat.sub_self
theorem Eg:type_of% @List.getElem_append_right:=@List.getElem_append_right
theorem Eh:type_of% @Bool.true_and:=@Bool.true_and
theorem Ei:type_of% @List.take_append_of_le_length:=@List.take_append_of_le_length
theorem Ej:type_of% @List.mem_or_eq_of_mem_set:=@List.mem_or_eq_of_mem_set
theorem Ek:type_of% @List.count_append:=@List.count_append
theorem Gi:type_of% @List.mem_filter:=@List.mem_filter
theorem Gj:type_of% @List.find?_some:=@List.find?_some
theorem Gk:type_of% @List.map_drop:=@List.map_drop
theorem Gl:type_of% @List.zipWith_append:=@List.zipWith_append
theorem Gm:type_of% @List.getElem_take:=@List.getElem_take
theorem Gn:type_of% @List.pairwise_iff_getElem:=@List.pairwise_iff_getElem
theorem Gp:type_of% @UInt8.toNat_lt:=@UInt8.toNat_lt
theorem Gq:type_of% @List.all_eq_true:=@List.all_eq_true
theorem Gr:type_of% @Nat.sub_zero:=@Nat.sub_zero
theorem Gs:type_of% @Bool.false_or:=@Bool.false_or
theorem Gt:type_of% @List.length_replicate:=@List.length_replicate
theorem Gu:type_of% @List.count_cons:=@List.count_cons
theorem Gv:type_of% @List.count_nil:=@List.count_nil
theorem Gw:type_of% @List.length_filter_le:=@List.length_filter_le
theorem I6:type_of% @List.of_mem_zip:=@List.of_mem_zip
theorem I7:type_of% @List.exists_mem_of_ne_nil:=@List.exists_mem_of_ne_nil
theorem I8:type_of% @List.sum_cons:=@List.sum_cons
theorem I9:type_of% @List.drop_drop:=@List.drop_drop
theorem I_:type_of% @List.perm_append_comm:=@List.perm_append_comm
theorem Ja:type_of% @List.take_take:=@List.take_take
theorem Jb:type_of% @List.getElem_drop:=@List.getElem_drop
theorem Jc:type_of% @List.any_eq_false:=@List.any_eq_false
theorem Jd:type_of% @List.toList_toArray:=@List.toList_toArray
theorem Je:type_of% @Nat.testBit_two_pow:=@Nat.testBit_two_pow
theorem Jf:type_of% @List.nodup_nil:=@List.nodup_nil
theorem Jg:type_of% @Nat.eq_zero_or_pos:=@Nat.eq_zero_or_pos
theorem Jh:type_of% @List.filterMap_cons:=@List.filterMap_cons
theorem Ji:type_of% @List.filterMap_append:=@List.filterMap_append
theorem Jj:type_of% @Array.getElem?_eq_some_iff:=@Array.getElem?_eq_some_iff
theorem MJ:type_of% @List.getElem_zip:=@List.getElem_zip
theorem MK:type_of% @List.getElem?_drop:=@List.getElem?_drop
theorem ML:type_of% @Nat.pow_le_pow_right:=@Nat.pow_le_pow_right
theorem MM:type_of% @Bool.or_eq_false_iff:=@Bool.or_eq_false_iff
theorem MN:type_of% @List.range_eq_range':=@List.range_eq_range'
theorem MO:type_of% @List.getElem?_toArray:=@List.getElem?_toArray
theorem MP:type_of% @List.drop_eq_nil_of_le:=@List.drop_eq_nil_of_le
theorem QM:type_of% @List.eq_of_mem_replicate:=@List.eq_of_mem_replicate
theorem QN:type_of% @Int.eq_ofNat_of_zero_le:=@Int.eq_ofNat_of_zero_le
end Go
namespace b7
open Go
structure aa where
 a:Option Addr
 len:Nat
 cap:Nat
structure rV where
 f:FuncId
 pre:Array Value
 cap:Array Value
inductive jV where
 |int (k:IntKind)|bool|str|ptr|slice|map|agg|fn|any
def jV.T:jV→Type
 | .int _=>Int
 | .bool=>Bool
 | .str=>ByteArray
 | .ptr=>Option Addr
 | .slice=>aa
 | .map=>Option Nat
 | .agg=>Array Value
 | .fn=>rV
 | .any=>Value
def jV.v:(l:jV)→l.T→Value
 | .int k,(n:Int)=> .int k n
 | .bool,(b:Bool)=> .bool b
 | .str,(s:ByteArray)=> .string s
 | .ptr,(p:Option Addr)=> .pointer p
 | .slice,(s:aa)=> .slice s.a s.len s.cap
 | .map,(r:Option Nat)=> .map r
 | .agg,(cs:Array Value)=> .agg cs
 | .fn,(F:rV)=> .func (.func F.f) F.pre F.cap
 | .any,(v:Value)=>v
inductive p1 where
 |one (l:jV)
 |flat (ls:List jV)
def FU (l:jV) (K:Value→Prop):Prop:=
 match l with
 | .int k=>∃n:Int,K (.int k n)
 | .bool=>∃b:Bool,K (.bool b)
 | .str=>∃s:ByteArray,K (.string s)
 | .ptr=>∃p:Option Addr,K (.pointer p)
 | .slice=>∃s:aa,K (.slice s.a s.len s.cap)
 | .map=>∃r:Option Nat,K (.map r)
 | .agg=>∃cs:Array Value,K (.agg cs)
 | .fn=>∃F:rV,K (.func (.func F.f) F.pre F.cap)
 | .any=>∃v:Value,K v
def Vl:List jV→(List Value→Prop)→Prop
 | [],K=>K []
 |l::ls,K=>FU l fun v=>Vl ls fun vs=>K (v::vs)
def Vm (k:p1) (K:Value→Prop):Prop:=
 match k with
 | .one l=>FU l K
 | .flat ls=>Vl ls fun vs=>K (.agg vs.toArray)
def PH:List p1→(List Value→Prop)→Prop
 | [],K=>K []
 |k::ks,K=>Vm k fun v=>PH ks fun vs=>K (v::vs)
theorem Iq {l:jV} {K:Value→Prop} (h:FU l K):∃v,K v:=by
 cases l<;>simp only[FU] at h<;>obtain ⟨x,h⟩:=h<;>exact ⟨_,h⟩
theorem adg:∀ {ls:List jV} {K:List Value→Prop},Vl ls K→∃vs,K vs
 | [],_,h=>⟨_,h⟩
 |_::_,_,h=>let ⟨_,h⟩:=Iq h;let ⟨_,h⟩:=adg h;⟨_,h⟩
theorem adh {k:p1} {K:Value→Prop} (h:Vm k K):∃v,K v:=by
 cases k with
 |one l=>exact Iq h
 |flat ls=>obtain ⟨_,h⟩:=adg h;exact ⟨_,h⟩
theorem Vn:∀ {ls:List p1} {K:List Value→Prop},PH ls K→∃vs,K vs
 | [],_,h=>⟨_,h⟩
 |_::_,_,h=>let ⟨_,h⟩:=adh h;let ⟨_,h⟩:=Vn h;⟨_,h⟩
abbrev Env:=List (Nat×Value)
def Env.get:Env→Nat→Option Value
 | [],_=>none
 |(k,v)::e,s=>bif Nat.beq k s then some v else Env.get e s
def bu (e:Env):Operand→Option Value
 | .tmp t=>e.get t
 | .const v=>some v
 | .global g=>some (.pointer (some ⟨g,0,none⟩))
 | .func f=>some (.func (.func f) #[] #[])
def ro (e:Env) (x:Operand):Value:=(bu e x).getD undef
def known (e:Env) (xs:Array Operand):Bool:=xs.toList.all fun x=>(bu e x).isSome
structure ga (e:Env) (a:Act):Prop where
 get:∀s v,e.get s=some v→a.tmps[s]? =some v
theorem ga.bu {e:Env} {a:Act} (h:ga e a) {x:Operand} {v:Value} (af:bu e x=some v):a.eval x=v:=by
 cases x with
 |tmp t=>
   have:=h.get t v af
   simp[Act.eval,Array.getD_eq_getD_getElem?,this]
 |const c=>simpa[b7.bu,Act.eval] using af
 |global g=>simpa[b7.bu,Act.eval] using af
 |func f=>simpa[b7.bu,Act.eval] using af
theorem ga.ro {e:Env} {a:Act} (h:ga e a) {x:Operand} (af:(b7.bu e x).isSome=true):a.eval x=ro e x:=by
 obtain ⟨v,ak⟩:=BR.1 af
 rw[h.bu ak,b7.ro,ak];rfl
def fQ (d:Option Nat) (v:Value) (e:Env):Env:=
 match d with
 |some d=>(d,v)::e
 |none=>e
theorem FV (d:Nat) (v:Value) (e:Env) (s:Nat):Env.get ((d,v)::e) s=if d=s then some v else e.get s:=by
 simp only[Env.get,cond_eq_ite]
 by_cases q5:d=s
 · subst q5;simp
 · have:Nat.beq d s=false:=by
     cases ab:Nat.beq d s
     · rfl
     · exact absurd (qt ab) q5
   simp[this,q5]
theorem ga.put {e:Env} {a:Act} (h:ga e a) {d:Option Nat} {v:Value} (hd:∀k,d=some k→k<a.tmps.size):ga (fQ d v e) (a.put d v):=by
 cases d with
 |none=>exact h
 |some d=>
   constructor
   intro s u aj
   rw[fQ,FV] at aj
   simp only[Act.put]
   by_cases q5:d=s
   · subst q5
     simp only[if_true,Option.some.injEq] at aj
     subst aj
     simp[hd d rfl]
   · rw[if_neg q5] at aj
     rw[Array.getElem?_setIfInBounds_ne q5]
     exact h.get s u aj
inductive jW where
 |one (k:p1)
 |ke (ks:List p1)
def ql (r:jW) (K:Value→Prop):Prop:=
 match r with
 | .one k=>Vm k K
 | .ke ks=>PH ks fun vs=>K (.tuple vs.toArray)
theorem q6 {r:jW} {K:Value→Prop} (h:ql r K):∃v,K v:=by
 cases r with
 |one k=>exact adh h
 |ke ks=>obtain ⟨_,h⟩:=Vn h;exact ⟨_,h⟩
def ey (w:World) (A:Addr):Nat→Nat→Option (List Value)
 |_,0=>some []
 |i,n+1=>match w.cell? (A.add i),ey w A (i+1) n with
   |some v,some vs=>some (v::vs)
   |_,_=>none
def setCells (w:World) (A:Addr):Nat→List Value→World
 |_,[]=>w
 |i,v::vs=>setCells (w.setCell (A.add i) v) A (i+1) vs
def Plain:Value→Prop
 | .agg _=>False
 | .tuple _=>False
 |_=>True
def cM (w:World) (A:Addr) (vs:List Value):Prop:=
 (∀i,i<vs.length→(w.cell? (A.add i)).isSome=true∧w.frozen? (A.add i)=false)∧∀v∈vs,Plain v
def zt:TypeDesc→Bool
 | .struct _=>true
 | .array _ _=>true
 |_=>false
def pC (P:Program) (elem:TypeId) (n:Nat):Array Value:=
 let zero:=if n*P.cellsOf elem=0 then #[] else (((P.info? elem).bind (·.zero)).getD undef).cells
 (Array.range (n*P.cellsOf elem)).map (zero[· %zero.size]!)
section
variable {P:Program} {w:World}
theorem fX {t:TypeId} {d:TypeDesc} (h:P.underlying t=some d):(underlying t).run P w= .ok d w:=by
 simp[underlying,program,Sem.run,bind,Sem.bind,h,pure]
theorem CG {t:TypeId} {d:TypeInfo} (h:P.info? t=some d):(typeInfo t).run P w= .ok d w:=by
 simp[typeInfo,program,Sem.run,bind,Sem.bind,h,pure]
theorem info_of_underlying {t:TypeId} {d:TypeDesc} (h:P.underlying t=some d):∃i,P.info? t=some i:=by
 unfold Program.underlying at h
 cases hi:P.info? t with
 |none=>simp[hi] at h
 |some i=>exact ⟨i,rfl⟩
theorem qy {t:TypeId} {d:TypeDesc} (h:P.underlying t=some d):(Go.sizeOf t).run P w= .ok (P.cellsOf t) w:=by
 obtain ⟨i,hi⟩:=info_of_underlying h
 simp[Go.sizeOf,CG hi,Program.cellsOf,hi]
theorem PI {t:TypeId} {d:TypeDesc} (h:P.underlying t=some d):(isAgg t).run P w= .ok (zt d) w:=by
 simp only[isAgg,Sem.run_bind,fX h,Result.andThen]
 cases d<;>rfl
theorem Rs {A:Addr} {v:Value} (h:w.cell? A=some v):(load A).run P w= .ok v w:=by
 simp[load,Sem.run,h]
theorem run_loadCellsFrom {A:Addr}:∀ (n i:Nat) (acc:Array Value) (vs:List Value),ey w A i n=some vs→
   (loadCellsFrom A i n acc).run P w= .ok (acc++vs.toArray) w
 |0,i,acc,vs,h=>by
   simp only[ey,Option.some.injEq] at h
   subst h
   simp[loadCellsFrom]
 |n+1,i,acc,vs,h=>by
   simp only[ey] at h
   cases U:w.cell? (A.add i) with
   |none=>simp[U] at h
   |some v=>
     cases ad:ey w A (i+1) n with
     |none=>simp[U,ad] at h
     |some us=>
       simp only[U,ad,Option.some.injEq] at h
       subst h
       simp only[loadCellsFrom,Sem.run_bind,Rs U,Result.andThen]
       rw[run_loadCellsFrom n (i+1) (acc.push v) us ad]
       simp
theorem PJ {T:TypeId} {d:TypeDesc} (bh:P.underlying T=some d) (hd:zt d=true) {A:Addr} {vs:List Value} (h:ey w A 0 (P.cellsOf T)=some vs):
   (loadVar T A).run P w= .ok (.agg vs.toArray) w:=by
 simp only[loadVar,Sem.run_bind,PI bh,Result.andThen,hd,if_true,qy bh,loadCells,run_loadCellsFrom _ _ _ _ h]
 simp
theorem adi {T:TypeId} {d:TypeDesc} (bh:P.underlying T=some d) (hd:zt d=false) {A:Addr} {v:Value} (h:w.cell? A=some v):
   (loadVar T A).run P w= .ok v w:=by
 simp only[loadVar,Sem.run_bind,PI bh,Result.andThen,hd,n2,if_false,Rs h]
theorem aq7 {A:Addr} {v u:Value} (ak:Plain v) (h:w.cell? A=some u) (aG:w.frozen? A=false):(store A v).run P w= .ok () (w.setCell A v):=by
 cases v<;>simp_all [store,Sem.run,Plain]
theorem aq8 (w:World) (A B:Addr) (v:Value):((w.setCell A v).cell? B).isSome=(w.cell? B).isSome:=by
 simp only[World.setCell,World.cell?,Array.getElem?_modify]
 by_cases ab:A.block=B.block
 · simp only[ab,if_true]
   cases w.heap[B.block]? with
   |none=>rfl
   |some o=>
     cases o<;>simp
     by_cases aj:B.spot.isSome<;>simp[aj]
     by_cases mo:A.spot.isSome<;>simp[mo]
     rw[o1];simp
 · simp[ab]
theorem aq9 (w:World) (A B:Addr) (v:Value):(w.setCell A v).frozen? B=w.frozen? B:=by
 simp only[World.setCell,World.frozen?,Array.getElem?_modify]
 by_cases ab:A.block=B.block
 · simp only[ab,if_true]
   cases w.heap[B.block]? with
   |none=>rfl
   |some o=>cases o<;>rfl
 · simp[ab]
theorem GL {A:Addr}:∀ (vs:List Value) (i:Nat) (w:World),(∀j,j<vs.length→(w.cell? (A.add (i+j))).isSome=true∧w.frozen? (A.add (i+j))=false)→(∀v∈vs,Plain v)→
   (storeCells A vs i).run P w= .ok () (setCells w A i vs)
 | [],i,w,_,_=>rfl
 |v::vs,i,w,h,aT=>by
   have b3:=h 0 (by simp)
   simp only[zE] at b3
   obtain ⟨u,hu⟩:=BR.1 b3.1
   simp only[storeCells,Sem.run_bind,aq7 (P:=P) (aT v (by simp)) hu b3.2,Result.andThen,setCells]
   refine GL vs (i+1) (w.setCell (A.add i) v) (fun j a6=> ?_) (fun x af=>aT x (by simp[af]))
   have:=h (j+1) (by simp;omega)
   rw[aq8,aq9,show i+1+j=i+(j+1) by omega]
   exact this
theorem adj {T:TypeId} {d:TypeDesc} (bh:P.underlying T=some d) {A:Addr} {v:Value} (aj:v.cells.size=P.cellsOf T) (h:cM w A v.cells.toList):
   (storeVar T A v).run P w= .ok () (setCells w A 0 v.cells.toList):=by
 simp only[storeVar,Sem.run_bind,qy bh,Result.andThen,aj,ne_eq,not_true,if_false]
 simpa using GL v.cells.toList 0 w (by simpa using h.1) h.2
end
def Vo:List jV→Addr→Nat→World→(List Value→Prop)→Prop
 | [],_,_,_,K=>K []
 |l::ls,A,i,w,K=>FU l fun v=>w.cell? (A.add i)=some v∧Vo ls A (i+1) w fun vs=>K (v::vs)
def Ir (P:Program) (aH:TypeId→jW) (T:TypeId) (A:Addr) (w:World) (K:Value→Prop):Prop:=
 match P.underlying T with
 |none=>False
 |some d=>
   bif zt d then
     match aH T with
     | .one (.flat ls)=>bif Nat.beq (P.cellsOf T) ls.length then Vo ls A 0 w fun vs=>K (.agg vs.toArray) else False
     |_=>∃cs:List Value,ey w A 0 (P.cellsOf T)=some cs∧K (.agg cs.toArray)
   else
     match aH T with
     | .one (.one l)=>FU l fun v=>w.cell? A=some v∧K v
     |_=>False
def Vp (P:Program) (aH:TypeId→jW) (T:TypeId) (A:Addr) (x:Value) (w:World) (K:World→Prop):Prop:=
 match P.underlying T with
 |none=>False
 |some d=>
   bif zt d then
     match x with
     | .agg cs=>cM w A cs.toList∧cs.size=P.cellsOf T∧K (setCells w A 0 cs.toList)
     |_=>False
   else bif Nat.beq (P.cellsOf T) 1 then
     match aH T with
     | .one (.one .any)=>Plain x∧(∃u,w.cell? A=some u)∧w.frozen? A=false∧K (w.setCell A x)
     |_=>match x with
       | .agg _=>False
       | .tuple _=>False
       |_=>(∃u,w.cell? A=some u)∧w.frozen? A=false∧K (w.setCell A x)
   else False
def adk (P:Program) (T:TypeId) (xs xM:Array Value) (b:Bool):Prop:=
 P.eqGuardType P.depth T=false∧∀w,(Op.equal T (.agg xs) (.agg xM)).run P w= .ok b w
def FW:Value→Option Bool
 | .nilIface=>some true
 | .iface _ _=>some false
 |_=>none
def FX:Option TypeDesc→Bool
 |some (.interface _)=>true
 |_=>false
def Bt:Option TypeDesc→Bool
 |some (.pointer _)=>true
 |_=>false
def DK:Option TypeDesc→Bool
 |some (.slice _)=>true
 |_=>false
def Is:Option TypeDesc→Bool
 |some (.map _ _)=>true
 |_=>false
def uz:IntKind→IntKind→Bool:=fun a b=>decide (a=b)
def PK (P:Program) (op:BinOp) (T:TypeId) (x y:Value) (K:Value→Prop) (G:Prop):Prop:=
 match y with
 | .nilIface=>bif FX (P.underlying T) then
     match op with
     | .eql=>∃b,FW x=some b∧K (.bool b)
     | .neq=>∃b,FW x=some b∧K (.bool (!b))
     |_=>False
   else False
 | .pointer none=>bif Bt (P.underlying T) then
     match op,x with
     | .eql, .pointer p=>K (.bool p.isNone)
     | .neq, .pointer p=>K (.bool (!p.isNone))
     |_,_=>False
   else False
 | .slice none _ _=>bif DK (P.underlying T) then
     match op,x with
     | .eql, .slice a _ _=>K (.bool a.isNone)
     | .neq, .slice a _ _=>K (.bool (!a.isNone))
     |_,_=>False
   else False
 | .map none=>bif Is (P.underlying T) then
     match op,x with
     | .eql, .map r=>K (.bool r.isNone)
     | .neq, .map r=>K (.bool (!r.isNone))
     |_,_=>False
   else False
 | .agg xM=>
     match op,x with
     | .eql, .agg xs=>∃b,adk P T xs xM b∧K (.bool b)
     | .neq, .agg xs=>∃b,adk P T xs xM b∧K (.bool (!b))
     |_,_=>False
 | .int mC b=>
     match op,x with
     | .quo, .int k a=>bif uz k mC then b≠0∧K (.int k (k.wrap (a.tdiv b))) else False
     | .rem, .int k a=>bif uz k mC then b≠0∧K (.int k (a.tmod b)) else False
     | .shl, .int k a=>0≤b∧K (.int k (k.wrap (a*2^(min b.toNat k.bits))))
     | .shr, .int k a=>0≤b∧K (.int k (a.fdiv (2^(min b.toNat k.bits))))
     |_,_=>G
 | .bool b=>match P.underlying T with
     |some .bool=>match op,x with
       | .eql, .bool a=>K (.bool (a==b))
       | .neq, .bool a=>K (.bool (!(a==b)))
       |_,_=>False
     |_=>False
 | .string b=>
     match op,x with
     | .add, .string a=>((a.size+b.size:Nat):Int)≤9223372036854775807∧K (.string (a++b))
     |_,_=>G
 |_=>G
section
variable {P:Program}
theorem It (T:TypeId) (x y:Value):Op.equal T x y=Op.equalIn (9999+1) T x y:=rfl
theorem aq_ (d:Nat) {T:TypeId} {x:Value} {b:Bool} (bh:FX (P.underlying T)=true) (h:FW x=some b) (w:World):
   (Op.equalIn (d+1) T x .nilIface).run P w= .ok b w:=by
 cases hu:P.underlying T with
 |none=>simp[hu,FX] at bh
 |some d=>
   cases d<;>simp only[hu,FX,n2] at bh
   simp only[Op.equalIn,Sem.run_bind,fX hu,Result.andThen]
   cases x<;>simp only[FW,reduceCtorEq,Option.some.injEq] at h<;>subst h<;>rfl
theorem ara (d:Nat) {T:TypeId} {p:Option Addr} (bh:Bt (P.underlying T)=true) (w:World):
   (Op.equalIn (d+1) T (.pointer p) (.pointer none)).run P w= .ok p.isNone w:=by
 cases hu:P.underlying T with
 |none=>simp[hu,Bt] at bh
 |some d=>
   cases d<;>simp only[hu,Bt,n2] at bh
   simp only[Op.equalIn,Sem.run_bind,fX hu,Result.andThen]
   cases p<;>rfl
theorem arb (d:Nat) {T:TypeId} {a:Option Addr} {l c Hw c':Nat} (bh:DK (P.underlying T)=true) (w:World):
   (Op.equalIn (d+1) T (.slice a l c) (.slice none Hw c')).run P w= .ok a.isNone w:=by
 cases hu:P.underlying T with
 |none=>simp[hu,DK] at bh
 |some d=>
   cases d<;>simp only[hu,DK,n2] at bh
   simp only[Op.equalIn,Sem.run_bind,fX hu,Result.andThen]
   cases a<;>rfl
theorem arc (d:Nat) {T:TypeId} {r:Option Nat} (bh:Is (P.underlying T)=true) (w:World):
   (Op.equalIn (d+1) T (.map r) (.map none)).run P w= .ok r.isNone w:=by
 cases hu:P.underlying T with
 |none=>simp[hu,Is] at bh
 |some d=>
   cases d<;>simp only[hu,Is,n2] at bh
   simp only[Op.equalIn,Sem.run_bind,fX hu,Result.andThen]
   cases r<;>rfl
theorem adl {T:TypeId} {x:Value} {b:Bool} (bh:FX (P.underlying T)=true) (h:FW x=some b) (w:World):
   (Op.equal T x .nilIface).run P w= .ok b w:=by rw[It];exact aq_ _ bh h w
theorem PL {T:TypeId} {p:Option Addr} (bh:Bt (P.underlying T)=true) (w:World):
   (Op.equal T (.pointer p) (.pointer none)).run P w= .ok p.isNone w:=by rw[It];exact ara _ bh w
theorem PM {T:TypeId} {a:Option Addr} {l c Hw c':Nat} (bh:DK (P.underlying T)=true) (w:World):
   (Op.equal T (.slice a l c) (.slice none Hw c')).run P w= .ok a.isNone w:=by rw[It];exact arb _ bh w
theorem adm {T:TypeId} {r:Option Nat} (bh:Is (P.underlying T)=true) (w:World):
   (Op.equal T (.map r) (.map none)).run P w= .ok r.isNone w:=by rw[It];exact arc _ bh w
theorem adn {T:TypeId} {xs xM:Array Value} (h:P.eqGuardType P.depth T=false) (op:BinOp) (x y:Operand) (w:World):
   (eqGuard op T x y (.agg xs) (.agg xM)).run P w= .ok () w:=by
 cases op<;>simp[eqGuard,program,Sem.run,bind,Sem.bind,h,pure]
theorem ado {T:TypeId} {a b:Bool} (bh:P.underlying T=some .bool) (w:World):(Op.equal T (.bool a) (.bool b)).run P w= .ok (a==b) w:=by
 have aY:∀ (d:Nat) (w:World),(Op.equalIn (d+1) T (.bool a) (.bool b)).run P w= .ok (a==b) w:=by
   intro d w
   simp[Op.equalIn,fX bh]
 rw[It];exact aY _ w
theorem adp {op:BinOp} {T:TypeId} {x y:Value} {LA Iu:Operand} {K:Value→Prop} {G:Prop}
   (b2:y= .nilIface→∃c,Iu= .const c)
   (h:PK P op T x y K G):
   G∨∃v,(∀w,(do eqGuard op T LA Iu x y;binOp op T x y:Sem Value).run P w= .ok v w)∧K v:=by
 unfold PK at h
 split at h
 case h_1=>
   obtain ⟨c,al⟩:=b2 rfl
   by_cases bh:FX (P.underlying T)=true
   · rw[bh] at h
     simp only[cond_true] at h
     split at h
     · obtain ⟨b,ab,bk⟩:=h
       refine .inr ⟨_,fun w=> ?_,bk⟩
       have:=adl (P:=P) bh ab w
       cases x<;>simp only[FW,reduceCtorEq,Option.some.injEq] at ab<;>subst al ab<;>simp[eqGuard,binOp,this]
     · obtain ⟨b,ab,bk⟩:=h
       refine .inr ⟨_,fun w=> ?_,bk⟩
       have:=adl (P:=P) bh ab w
       cases x<;>simp only[FW,reduceCtorEq,Option.some.injEq] at ab<;>subst al ab<;>simp[eqGuard,binOp,this]
     · exact h.elim
   · simp only[lC] at bh;rw[bh] at h;exact h.elim
 case h_2=>
   by_cases bh:Bt (P.underlying T)=true
   · rw[bh] at h
     simp only[cond_true] at h
     split at h
     · exact .inr ⟨_,fun w=>by simp[eqGuard,binOp,PL (P:=P) bh],h⟩
     · exact .inr ⟨_,fun w=>by simp[eqGuard,binOp,PL (P:=P) bh],h⟩
     · exact h.elim
   · simp only[lC] at bh;rw[bh] at h;exact h.elim
 case h_3=>
   by_cases bh:DK (P.underlying T)=true
   · rw[bh] at h
     simp only[cond_true] at h
     split at h
     · exact .inr ⟨_,fun w=>by simp[eqGuard,binOp,PM (P:=P) bh],h⟩
     · exact .inr ⟨_,fun w=>by simp[eqGuard,binOp,PM (P:=P) bh],h⟩
     · exact h.elim
   · simp only[lC] at bh;rw[bh] at h;exact h.elim
 case h_4=>
   by_cases bh:Is (P.underlying T)=true
   · rw[bh] at h
     simp only[cond_true] at h
     split at h
     · exact .inr ⟨_,fun w=>by simp[eqGuard,binOp,adm (P:=P) bh],h⟩
     · exact .inr ⟨_,fun w=>by simp[eqGuard,binOp,adm (P:=P) bh],h⟩
     · exact h.elim
   · simp only[lC] at bh;rw[bh] at h;exact h.elim
 case h_5=>
   split at h
   · obtain ⟨b,⟨U,ad⟩,bk⟩:=h
     exact .inr ⟨_,fun w=>by simp[adn U,binOp,ad],bk⟩
   · obtain ⟨b,⟨U,ad⟩,bk⟩:=h
     exact .inr ⟨_,fun w=>by simp[adn U,binOp,ad],bk⟩
   · exact h.elim
 case h_6 mC b=>
   split at h
   · rename_i k a
     by_cases ae:k=mC
     · subst ae
       simp only[uz,decide_true,cond_true] at h
       exact .inr ⟨_,fun w=>by simp[eqGuard,binOp,Op.intDiv,h.1],h.2⟩
     · simp[uz,ae] at h
   · rename_i k a
     by_cases ae:k=mC
     · subst ae
       simp only[uz,decide_true,cond_true] at h
       exact .inr ⟨_,fun w=>by simp[eqGuard,binOp,Op.intDiv,h.1],h.2⟩
     · simp[uz,ae] at h
   · exact .inr ⟨_,fun w=>by simp[eqGuard,binOp,Op.shift,show¬b<0 by omega],h.2⟩
   · exact .inr ⟨_,fun w=>by simp[eqGuard,binOp,Op.shift,show¬b<0 by omega],h.2⟩
   · exact .inl h
 case h_7 b=>
   split at h
   · rename_i bh
     split at h
     · exact .inr ⟨_,fun w=>by simp[eqGuard,binOp,ado bh],h⟩
     · exact .inr ⟨_,fun w=>by simp[eqGuard,binOp,ado bh],h⟩
     · exact h.elim
   · exact h.elim
 case h_8 b=>
   split at h
   · rename_i a
     refine .inr ⟨_,fun w=> ?_,h.2⟩
     have U:=h.1
     simp[eqGuard,binOp,Op.stringOp,IntKind.max,IntKind.signed,IntKind.bits]
     omega
   · exact .inl h
 case h_9=>exact .inl h
end
def PN (P:Program) (T:TypeId) (x:Value) (K:Value→Prop):Prop:=
 match P.underlying T with
 |some (.array n _)=>match x with
   | .slice a len _=>n≤len∧∃A,a=some A∧K (.pointer (some A))
   |_=>False
 |_=>False
def PO (P:Program) (T:TypeId) (x i:Value) (K:Value→Prop):Prop:=
 match i with
 | .int _ n=>
   match P.underlying T with
   |some (.slice elem)=>bif (P.underlying elem).isSome then
       match x with
       | .slice a len _=>∃A,a=some A∧(0≤n∧n<(len:Int))∧K (.pointer (some (A.add (n.toNat*P.cellsOf elem))))
       |_=>False
     else False
   |some (.array len elem)=>bif (P.underlying elem).isSome then
       match x with
       | .pointer (some A)=>(0≤n∧n<(len:Int))∧K (.pointer (some (A.add (n.toNat*P.cellsOf elem))))
       |_=>False
     else False
   |_=>False
 |_=>False
def LB (P:Program) (aH:TypeId→jW) (T:TypeId) (cs:Array Value) (off:Nat) (K:Value→Prop):Prop:=
 match P.underlying T with
 |none=>False
 |some d=>
   bif zt d then K (.agg (cs.extract off (off+P.cellsOf T)))
   else match aH T with
     | .one (.one l)=>FU l fun v=>cs[off]? =some v∧K v
     |_=>False
def PQ (P:Program) (aH:TypeId→jW) (T:TypeId) (x i:Value) (K:Value→Prop):Prop:=
 match i with
 | .int _ n=>
   match P.underlying T with
   |some (.array len elem)=>match x with
       | .agg cs=>(0≤n∧n<(len:Int))∧LB P aH elem cs (n.toNat*P.cellsOf elem) K
       |_=>False
   |some .string=>match x with
       | .string s=>0≤n∧∃b:UInt8,s.data.toList[n.toNat]? =some b∧K (.int .u8 b.toNat)
       |_=>False
   |_=>False
 |_=>False
def PR (P:Program) (aH:TypeId→jW) (T:TypeId) (x:Value) (i:Nat) (K:Value→Prop):Prop:=
 match P.underlying T with
 |some (.struct fs)=>match fs[i]? with
   |some f=>match x with
     | .agg cs=>LB P aH f.type cs f.offset K
     |_=>False
   |none=>False
 |_=>False
def xN (v:Option Value) (y d:Nat) (K:Nat→Prop):Prop:=
 match v with
 |none=>K d
 |some (.int _ i)=>(0≤i∧i≤(y:Int))∧K i.toNat
 |_=>False
def a3 (a:Option Addr) (sz l m:Nat):Option Addr:=if m=l then a else a.map (·.add (l*sz))
def PS (P:Program) (T:TypeId) (x:Value) (lo hi vP:Option Value) (K:Value→Prop):Prop:=
 match P.underlying T with
 |some .string=>match vP,x with
   |none, .string s=>xN hi s.size s.size fun h=>xN lo h 0 fun l=>K (.string (s.extract l h))
   |_,_=>False
 |some (.slice elem)=>bif (P.underlying elem).isSome then
     match x with
     | .slice a len cap=>match vP with
       |none=>xN hi cap len fun h=>xN lo h 0 fun l=>K (.slice (a3 a (P.cellsOf elem) l cap) (h-l) (cap-l))
       |some Og=>match hi with
         |none=>False
         |some p9=>xN (some Og) cap 0 fun m=>xN (some p9) m 0 fun h=>xN lo h 0 fun l=>K (.slice (a3 a (P.cellsOf elem) l m) (h-l) (m-l))
     |_=>False
   else False
 |some (.array n elem)=>bif (P.underlying elem).isSome then
     match vP,x with
     |none, .pointer (some A)=>xN hi n n fun h=>xN lo h 0 fun l=>K (.slice (a3 (some A) (P.cellsOf elem) l n) (h-l) (n-l))
     |_,_=>False
   else False
 |_=>False
def Vq (P:Program) (T:TypeId) (l c:Value) (w:World) (K:Value→World→Prop):Prop:=
 match P.underlying T with
 |some (.slice elem)=>bif (P.underlying elem).isSome then
     bif ((P.info? elem).bind (·.zero)).isSome then
     match l,c with
     | .int _ n, .int _ m=>(0≤n∧n≤m∧m≤9223372036854775807∧(P.bytesOf elem:Int)*m≤140737488355328)∧
         K (.slice (some ⟨w.heap.size,0,none⟩) n.toNat m.toNat) {w with heap:=w.heap.push (.cells (pC P elem m.toNat) elem)}
     |_,_=>False
     else False
   else False
 |_=>False
section
variable {P:Program} {w:World}
theorem tP (o:Option TypeDesc) (h:o.isSome=true):∃d,o=some d:=BR.1 h
theorem adq {T:TypeId} {x:Value} {K:Value→Prop} (h:PN P T x K):∃v,(∀w,(Instr.arrayAt T x).run P w= .ok v w)∧K v:=by
 unfold PN at h
 split at h
 · rename_i n e bh
   split at h
   · rename_i a len cap
     obtain ⟨U,A,rfl,bk⟩:=h
     exact ⟨_,fun w=>by simp[Instr.arrayAt,fX bh,Nat.not_lt.2 U],bk⟩
   · exact h.elim
 · exact h.elim
theorem adr {T:TypeId} {x i:Value} {K:Value→Prop} (h:PO P T x i K):∃v,(∀w,(Instr.indexAt T x i).run P w= .ok v w)∧K v:=by
 unfold PO at h
 split at h
 · rename_i k n
   split at h
   · rename_i elem bh
     by_cases he:(P.underlying elem).isSome=true
     · rw[he] at h
       simp only[cond_true] at h
       split at h
       · obtain ⟨A,rfl,ab,bk⟩:=h
         obtain ⟨d,hd⟩:=tP _ he
         exact ⟨_,fun w=>by simp[Instr.indexAt,asIntOf,fX bh,ab,qy hd],bk⟩
       · exact h.elim
     · simp only[lC] at he;rw[he] at h;exact h.elim
   · rename_i len elem bh
     by_cases he:(P.underlying elem).isSome=true
     · rw[he] at h
       simp only[cond_true] at h
       split at h
       · obtain ⟨ab,bk⟩:=h
         obtain ⟨d,hd⟩:=tP _ he
         exact ⟨_,fun w=>by simp[Instr.indexAt,asIntOf,Instr.sureAddr,fX bh,ab,qy hd],bk⟩
       · exact h.elim
     · simp only[lC] at he;rw[he] at h;exact h.elim
   · exact h.elim
 · exact h.elim
theorem ads {aH:TypeId→jW} {T:TypeId} {cs:Array Value} {off:Nat} {K:Value→Prop} (h:LB P aH T cs off K):∃v,(∀w,(part T cs off).run P w= .ok v w)∧K v:=by
 unfold LB at h
 split at h
 · exact h.elim
 · rename_i d bh
   cases hd:zt d with
   |true=>
     rw[hd] at h
     exact ⟨_,fun w=>by simp[part,PI bh,hd,qy bh],h⟩
   |false=>
     rw[hd] at h
     simp only[cond_false] at h
     split at h
     · obtain ⟨v,ak,bk⟩:=Iq h
       exact ⟨v,fun w=>by simp[part,PI bh,hd,ak],bk⟩
     · exact h.elim
theorem adt {aH:TypeId→jW} {T:TypeId} {x i:Value} {K:Value→Prop} (h:PQ P aH T x i K):∃v,(∀w,(Instr.index T x i).run P w= .ok v w)∧K v:=by
 unfold PQ at h
 split at h
 · rename_i k n
   split at h
   · rename_i len elem bh
     split at h
     · obtain ⟨ab,h⟩:=h
       obtain ⟨v,ak,bk⟩:=ads h
       refine ⟨v,fun w=> ?_,bk⟩
       have aj:(Go.sizeOf elem).run P w= .ok (P.cellsOf elem) w:=by
         unfold LB at h
         cases he:P.underlying elem with
         |none=>simp[he] at h
         |some d=>exact qy he
       simp[Instr.index,asIntOf,fX bh,ab,aj,ak]
     · exact h.elim
   · rename_i bh
     split at h
     · rename_i s
       obtain ⟨ab,b,aj,bk⟩:=h
       have l7:s[n.toNat]? =some b:=by
         obtain ⟨U,ad⟩:=qs.1 aj
         have ar:n.toNat<s.size:=by simpa using U
         rw[getElem?_pos s n.toNat ar]
         simp only[Option.some.injEq]
         rw[←ad]
         rfl
       exact ⟨_,fun w=>by simp[Instr.index,asIntOf,fX bh,ab,l7],bk⟩
     · exact h.elim
   · exact h.elim
 · exact h.elim
theorem adu {aH:TypeId→jW} {T:TypeId} {x:Value} {i:Nat} {K:Value→Prop} (h:PR P aH T x i K):∃v,(∀w,(Instr.field T x i).run P w= .ok v w)∧K v:=by
 unfold PR at h
 split at h
 · rename_i fs bh
   split at h
   · rename_i f aG
     split at h
     · obtain ⟨v,ak,bk⟩:=ads h
       exact ⟨v,fun w=>by simp[Instr.field,fX bh,aG,asAgg,ak],bk⟩
     · exact h.elim
   · exact h.elim
 · exact h.elim
theorem vQ {v:Option Value} {y d:Nat} {c:BoundsCode} {K:Nat→Prop} (h:xN v y d K):
   (v=none∧K d)∨∃u n,v=some u∧(∀w,(Instr.sliceBound u y c).run P w= .ok n w)∧K n:=by
 unfold xN at h
 split at h
 · exact .inl ⟨rfl,h⟩
 · exact .inr ⟨_,_,rfl,fun w=>by simp[Instr.sliceBound,asIntOf,h.1],h.2⟩
 · exact h.elim
theorem adv {T:TypeId} {x:Value} {lo hi vP:Option Value} {K:Value→Prop} (h:PS P T x lo hi vP K):
   ∃v,(∀w,(Instr.sliceAt T x lo hi vP).run P w= .ok v w)∧K v:=by
 unfold PS at h
 split at h
 · rename_i bh
   split at h
   · rename_i s
     rcases vQ (P:=P) (c:= .sliceAlen) h with ⟨aY,U⟩|⟨u,n,aY,aU,U⟩
     · rcases vQ (P:=P) (c:= .sliceB) U with ⟨bm,ad⟩|⟨vo,c_,bm,fK,ad⟩
       · exact ⟨_,fun w=>by simp[Instr.sliceAt,Instr.slice,fX bh,Instr.sliceBounds,aY,bm],ad⟩
       · exact ⟨_,fun w=>by simp[Instr.sliceAt,Instr.slice,fX bh,Instr.sliceBounds,aY,bm,fK],ad⟩
     · rcases vQ (P:=P) (c:= .sliceB) U with ⟨bm,ad⟩|⟨vo,c_,bm,fK,ad⟩
       · exact ⟨_,fun w=>by simp[Instr.sliceAt,Instr.slice,fX bh,Instr.sliceBounds,aY,bm,aU],ad⟩
       · exact ⟨_,fun w=>by simp[Instr.sliceAt,Instr.slice,fX bh,Instr.sliceBounds,aY,bm,aU,fK],ad⟩
   · exact h.elim
 · rename_i elem bh
   by_cases he:(P.underlying elem).isSome=true
   · rw[he] at h
     simp only[cond_true] at h
     obtain ⟨d,hd⟩:=tP _ he
     have dB:=fun w:World=>qy (w:=w) hd
     split at h
     · rename_i a len cap
       split at h
       · rcases vQ (P:=P) (c:= .sliceAcap) h with ⟨aY,U⟩|⟨u,n,aY,aU,U⟩
         · rcases vQ (P:=P) (c:= .sliceB) U with ⟨bm,ad⟩|⟨vo,c_,bm,fK,ad⟩
           · exact ⟨_,fun w=>by simp[Instr.sliceAt,Instr.slice,fX bh,Instr.sliceBounds,dB,a3,aY,bm],ad⟩
           · exact ⟨_,fun w=>by simp[Instr.sliceAt,Instr.slice,fX bh,Instr.sliceBounds,fK,dB,a3,aY,bm],ad⟩
         · rcases vQ (P:=P) (c:= .sliceB) U with ⟨bm,ad⟩|⟨vo,c_,bm,fK,ad⟩
           · exact ⟨_,fun w=>by simp[Instr.sliceAt,Instr.slice,fX bh,Instr.sliceBounds,aU,dB,a3,aY,bm],ad⟩
           · exact ⟨_,fun w=>by simp[Instr.sliceAt,Instr.slice,fX bh,Instr.sliceBounds,aU,fK,dB,a3,aY,bm],ad⟩
       · split at h
         · exact h.elim
         · rcases vQ (P:=P) (c:= .slice3Acap) h with ⟨gK,U⟩|⟨u,n,gK,aU,U⟩
           · cases gK
           · cases gK
             rcases vQ (P:=P) (c:= .slice3B) U with ⟨gK,ad⟩|⟨aaP,di,gK,k3,ad⟩
             · cases gK
             · cases gK
               rcases vQ (P:=P) (c:= .slice3C) ad with ⟨bm,ar⟩|⟨vo,c_,bm,fK,ar⟩
               · exact ⟨_,fun w=>by simp[Instr.sliceAt,Instr.slice,fX bh,Instr.sliceBounds,aU,k3,dB,a3,bm],ar⟩
               · exact ⟨_,fun w=>by simp[Instr.sliceAt,Instr.slice,fX bh,Instr.sliceBounds,aU,k3,fK,dB,a3,bm],ar⟩
     · exact h.elim
   · simp only[lC] at he;rw[he] at h;exact h.elim
 · rename_i n elem bh
   by_cases he:(P.underlying elem).isSome=true
   · rw[he] at h
     simp only[cond_true] at h
     obtain ⟨d,hd⟩:=tP _ he
     have dB:=fun w:World=>qy (w:=w) hd
     split at h
     · rename_i A
       rcases vQ (P:=P) (c:= .sliceAlen) h with ⟨aY,U⟩|⟨u,di,aY,aU,U⟩
       · rcases vQ (P:=P) (c:= .sliceB) U with ⟨bm,ad⟩|⟨vo,c_,bm,fK,ad⟩
         · refine ⟨_,fun w=> ?_,ad⟩
           simp[Instr.sliceAt,fX bh,Instr.sureAddr,Instr.sliceBounds,dB,a3,aY,bm];try (split<;>rfl)
         · refine ⟨_,fun w=> ?_,ad⟩
           simp[Instr.sliceAt,fX bh,Instr.sureAddr,Instr.sliceBounds,fK,dB,a3,aY,bm];try (split<;>rfl)
       · rcases vQ (P:=P) (c:= .sliceB) U with ⟨bm,ad⟩|⟨vo,c_,bm,fK,ad⟩
         · refine ⟨_,fun w=> ?_,ad⟩
           simp[Instr.sliceAt,fX bh,Instr.sureAddr,Instr.sliceBounds,aU,dB,a3,aY,bm];try (split<;>rfl)
         · refine ⟨_,fun w=> ?_,ad⟩
           simp[Instr.sliceAt,fX bh,Instr.sureAddr,Instr.sliceBounds,aU,fK,dB,a3,aY,bm];try (split<;>rfl)
     · exact h.elim
   · simp only[lC] at he;rw[he] at h;exact h.elim
 · exact h.elim
theorem Vr {n:Int} (b3:0≤n) (U:n≤9223372036854775807):IntKind.i64.wrap n=n:=by
 have e:n%18446744073709551616=n:=Int.emod_eq_of_lt b3 (by omega)
 simp[IntKind.wrap,IntKind.signed,IntKind.bits,e]
 omega
theorem ard {T:TypeId} {l c:Value} {K:Value→World→Prop} (h:Vq P T l c w K):
   ∃v w',(Instr.makeSlice T l c).run P w= .ok v w'∧K v w':=by
 unfold Vq at h
 split at h
 · rename_i elem bh
   by_cases he:(P.underlying elem).isSome=true
   · rw[he] at h
     simp only[cond_true] at h
     by_cases bI:((P.info? elem).bind (·.zero)).isSome=true
     · rw[bI] at h
       simp only[cond_true] at h
       split at h
       · rename_i k n mC m
         obtain ⟨⟨b3,U,ad,ar⟩,bk⟩:=h
         obtain ⟨d,hd⟩:=tP _ he
         obtain ⟨i,hi⟩:=info_of_underlying hd
         obtain ⟨z,HB⟩:=BR.1 bI
         simp only[hi,Option.bind_some] at HB
         have ab:P.bytesOf elem=i.bytes:=by simp[Program.bytesOf,hi]
         have al:P.cellsOf elem=i.size:=by simp[Program.cellsOf,hi]
         rw[ab] at ar
         have aY:=Vr b3 (by omega)
         have bm:=Vr (n:=m) (by omega) ad
         refine ⟨_,_,?_,bk⟩
         have aD:¬(m<0):=by omega
         have o5:¬(281474976710656<(i.bytes:Int)*m):=by omega
         simp[Instr.makeSlice,fX bh,asInt,asIntOf,CG hi,aY,bm,aD,o5,qy hd,show¬n<0 by omega,show¬m<n by omega]
         by_cases aj:m.toNat*P.cellsOf elem=0
         · simp[aj,newRow,newObj,Sem.run,pC]
         · simp[zeroValue,CG hi,HB,newRow,newObj,Sem.run,pC,aj,hi]
       · exact h.elim
     · simp only[lC] at bI;rw[bI] at h;exact h.elim
   · simp only[lC] at he;rw[he] at h;exact h.elim
 · exact h.elim
end
def ay (w:World) (K:World→Prop):Prop:=K w
def Sz (s:ByteArray) (n:Nat):Option UInt8:=s.data.toList[n]?
def tJ (k:IntKind) (a b:Int):Int:=k.wrap ((BitVec.ofInt k.bits a&&&BitVec.ofInt k.bits b).toNat:Int)
def B0 (k:IntKind) (a b:Int):Int:=k.wrap ((BitVec.ofInt k.bits a|||BitVec.ofInt k.bits b).toNat:Int)
def Ez (k:IntKind) (a b:Int):Int:=k.wrap ((BitVec.ofInt k.bits a^^^BitVec.ofInt k.bits b).toNat:Int)
def Zi (k:IntKind) (a b:Int):Int:=k.wrap ((BitVec.ofInt k.bits a&&&~~~BitVec.ofInt k.bits b).toNat:Int)
def LC (P:Program) (o:Oper) (K:Value→World→Prop) (e:Env) (w:World):Prop:=
 bif known e o.op.operands then
   match (execOp (ro e) o).run P w with
   | .ok (.value v) w'=>ay w' fun ag=>K v ag
   |_=>False
 else False
def adw (P:Program) (aH:TypeId→jW) (T:TypeId):jW:=
 match P.underlying T with
 |some (.slice e)=>aH e
 |_=> .one (.one .agg)
def jV.are:jV→Bool
 | .slice=>true
 |_=>false
def adx:jW→Bool
 | .one (.one .agg)=>true
 | .one (.flat ls)=>ls.any jV.are
 |_=>false
def gen (P:Program) (aH:TypeId→jW) (o:Oper) (K:Value→World→Prop) (e:Env) (w:World):Prop:=
 bif known e o.op.operands then
   match (execOp (ro e) o).run P w with
   | .ok (.value v) w'=>K v w'
   | .ok .skip w'=>K undef w'
   | .ok (.enter f args) w'=>Calls P f args w' fun yr hO=>ql (aH o.type) fun v=>yr= .returned v∧K v hO
   |_=>False
 else False
def tL (P:Program) (f:FuncId):Prop:=∃fn,P.funcs[f]? =some fn∧(fn.name== "runtime.NumGoroutine")=false∧fn.body.isNone=false
theorem ady {P:Program} {f:FuncId} (h:tL P f) (args:Array Value) (w:World):(callFunc f args).run P w= .ok (.enter f args) w:=by
 obtain ⟨fn,U,ad,ar⟩:=h
 have EO:¬fn.name= "runtime.NumGoroutine" :=by simpa using ad
 have Vs:¬fn.body=none:=by
   intro h;rw[h] at ar;cases ar
 simp[callFunc,program,Sem.run,bind,Sem.bind,U,EO,Vs,pure]
def Vt:Op→Bool
 | .select _ _=>true
 |_=>false
def adz (P:Program) (T:TypeId):Operand→Bool
 | .const _=>false
 |_=>FX (P.underlying T)||Bt (P.underlying T)
def arf (P:Program) (op:BinOp) (T:TypeId) (LA Iu:Operand) (x y:Value) (b:Bool):Prop:=
 ∀w,Sem.run P (do eqGuard op T LA Iu x y;binOp op T x y:Sem Value) w= .ok (.bool b) w
def Iv:Operand→Value→Bool
 | .const _,_=>true
 |_, .nilIface=>false
 |_,_=>true
def tq (P:Program) (aH:TypeId→jW) (o:Oper) (K:Value→World→Prop) (e:Env) (w:World):Prop:=
 match o.op with
 | .nilCheck x=>match bu e x with
   |some (.pointer p)=>∃A,p=some A∧K (.pointer (some A)) w
   |_=>False
 | .load T x=>match bu e x with
   |some (.pointer (some A))=>Ir P aH T A w fun v=>K v w
   |_=>False
 | .store T x y=>match bu e x,bu e y with
   |some (.pointer (some A)),some v=>Vp P aH T A v w fun w'=>ay w' fun ag=>K undef ag
   |_,_=>False
 | .binOp op T x y _=>match bu e x,bu e y with
   |some fR,some vR=>bif adz P T y then (∃b:Bool,arf P op T x y fR vR b∧K (.bool b) w) else
       bif Iv y vR then PK P op T fR vR (fun v=>K v w) (gen P aH o K e w) else False
   |_,_=>False
 | .indexAddr T x i=>match bu e x,bu e i with
   |some fR,some pn=>PO P T fR pn fun v=>K v w
   |_,_=>False
 | .index T x i=>match bu e x,bu e i with
   |some fR,some pn=>PQ P aH T fR pn fun v=>K v w
   |_,_=>False
 | .field T x i=>match bu e x with
   |some fR=>PR P aH T fR i fun v=>K v w
   |_=>False
 | .alloc _=>LC P o K e w
 | .box _ _=>LC P o K e w
 | .buildSlice T n ps=>bif adx (adw P aH T) then
     (bif known e o.op.operands then
       ql (aH o.type) fun r=>∃ag,(Instr.buildSlice T n (ps.map fun p=>(p.1,ro e p.2))).run P w= .ok r ag∧K r ag
     else False)
   else LC P o K e w
 | .slice T x lo hi vP=>bif known e o.op.operands then
     PS P T (ro e x) (lo.map (ro e)) (hi.map (ro e)) (vP.map (ro e)) fun v=>K v w
   else False
 | .makeSlice T l c=>match bu e l,bu e c with
   |some adA,some Ck=>Vq P T adA Ck w fun v w'=>ay w' fun ag=>K v ag
   |_,_=>False
 | .convert s d x=>match bu e x with
   |some (.int j n)=>bif (P.underlying s).isSome then
       match P.underlying d with
       |some (.int k)=>K (.int k (k.wrap n)) w
       |_=>ql (aH o.type) fun r=>∃ag,(convert s d (.int j n)).run P w= .ok r ag∧K r ag
     else False
   |some v=>ql (aH o.type) fun r=>∃ag,(convert s d v).run P w= .ok r ag∧K r ag
   |none=>False
 | .build t ps=>match aH t with
   | .one (.flat _)=>gen P aH o K e w
   |_=>bif known e o.op.operands then
       ∃cs:Array Value,(Instr.build t (ps.map fun p=>(p.1,ro e p.2))).run P w= .ok (.agg cs) w∧K (.agg cs) w
     else False
 | .lookup T m i ok=>match bu e m,bu e i with
   |some sx,some pn=>ql (aH o.type) fun r=>∃ag,(Instr.lookup T sx pn ok).run P w= .ok r ag∧K r ag
   |_,_=>False
 | .mapUpdate T m i x=>match bu e m,bu e i,bu e x with
   |some sx,some pn,some fR=>∃ag,(Instr.mapUpdate T sx pn fR).run P w= .ok () ag∧K undef ag
   |_,_,_=>False
 | .makeMap T r=>bif known e o.op.operands then ql (aH o.type) fun v=>∃ag,(Instr.makeMap T (r.map (ro e))).run P w= .ok v ag∧K v ag else False
 | .range T x=>match bu e x with
   |some fR=>∃v ag,(Instr.range T fR).run P w= .ok v ag∧K v ag
   |_=>False
 | .next it Iw=>match bu e it with
   |some fR=>(bif Iw then ∃ (n:Int) (c:Int) (ag:World),(Instr.next fR Iw o.type).run P w= .ok (.tuple #[.bool true, .int .i64 n, .int .i32 c]) ag∧K (.tuple #[.bool true, .int .i64 n, .int .i32 c]) ag
       else ∃ (k:Value) (v:Value) (ag:World),(Instr.next fR Iw o.type).run P w= .ok (.tuple #[.bool true,k,v]) ag∧K (.tuple #[.bool true,k,v]) ag)∨
       (∃ag:World,(Instr.next fR Iw o.type).run P w= .ok (.tuple #[.bool false]) ag∧K (.tuple #[.bool false]) ag)
   |_=>False
 | .call c=>match c.callee with
   | .value (.tmp k)=>match e.get k with
     |some (.func (.func f) pre cap)=>bif known e o.op.operands then
         tL P f∧Calls P f (pre++c.args.map (ro e)++cap) w fun yr ag=>ql (aH o.type) fun v=>yr= .returned v∧K v ag
       else False
     |_=>gen P aH o K e w
   | .builtin .append=>bif known e o.op.operands then ql (aH o.type) fun r=>∃ag,(Builtin.append_ c.argTypes o.type (c.args.map (ro e))).run P w= .ok r ag∧K r ag else False
   | .builtin .copy=>bif known e o.op.operands then ql (aH o.type) fun r=>∃ag,(Builtin.copy_ c.argTypes o.type (c.args.map (ro e))).run P w= .ok r ag∧K r ag else False
   | .builtin .min=>bif known e o.op.operands then ql (aH o.type) fun r=>∃ag,(Builtin.min_ c.argTypes o.type (c.args.map (ro e))).run P w= .ok r ag∧K r ag else False
   | .builtin .max=>bif known e o.op.operands then ql (aH o.type) fun r=>∃ag,(Builtin.max_ c.argTypes o.type (c.args.map (ro e))).run P w= .ok r ag∧K r ag else False
   | .builtin .delete=>bif known e o.op.operands then ∃r ag,(Builtin.delete_ c.argTypes o.type (c.args.map (ro e))).run P w= .ok r ag∧K r ag else False
   | .value (.func f)=>match P.funcs[f]? with
     |some fn=>match fn.body with
       |some _=>gen P aH o K e w
       |none=>bif known e o.op.operands then ql (aH o.type) fun r=>∃ag,(callFunc f (c.args.map (ro e))).run P w= .ok (.value r) ag∧K r ag else False
     |none=>False
   | .builtin .unsafeString=>bif known e o.op.operands then ql (aH o.type) fun r=>∃ag,(Builtin.unsafeString_ c.argTypes o.type (c.args.map (ro e))).run P w= .ok r ag∧K r ag else False
   | .builtin .unsafeSliceData=>bif known e o.op.operands then ql (aH o.type) fun r=>∃ag,(Builtin.unsafeSliceData_ c.argTypes o.type (c.args.map (ro e))).run P w= .ok r ag∧K r ag else False
   | .builtin .clear=>bif known e o.op.operands then ∃r ag,(Builtin.clear_ c.argTypes o.type (c.args.map (ro e))).run P w= .ok r ag∧K r ag else False
   | .builtin .len=>match ((c.args.map (ro e))[0]? :Option Value) with
     |some (Value.map _)=>bif known e o.op.operands then ql (aH o.type) fun r=>∃ag,(Builtin.len_ c.argTypes o.type (c.args.map (ro e))).run P w= .ok r ag∧K r ag else False
     |_=>gen P aH o K e w
   |_=>gen P aH o K e w
 | .sliceToArrayPointer T x=>match bu e x with
   |some fR=>PN P T fR fun v=>K v w
   |_=>False
 | .mapEntry T m i=>match bu e m,bu e i with
   |some sx,some pn=>∃ (v0:Value) (st:Int) (ag:World),(Instr.mapEntry T sx pn).run P w= .ok (.tuple #[v0, .int .i64 st]) ag∧K (.tuple #[v0, .int .i64 st]) ag
   |_,_=>False
 | .entryStore T m s x=>match bu e m,bu e s,bu e x with
   |some sx,some vs,some fR=>∃ag,(Instr.entryStore T sx vs fR).run P w= .ok () ag∧K undef ag
   |_,_,_=>False
 | .entry it=>match bu e it with
   |some fR=>ql (aH o.type) fun v=>∃ag,(Instr.entry fR).run P w= .ok v ag∧K v ag
   |_=>False
 | .select _ _=>False
 |_=>gen P aH o K e w
def Bu (P:Program) (o:Oper) (a:Act) (w:World) (K:Value→World→Prop):Prop:=
 (∃v w',(execOp a.eval o).run P w= .ok (.value v) w'∧K v w')∨
 (∃w',(execOp a.eval o).run P w= .ok .skip w'∧K undef w')∨
 (∃f args w',(execOp a.eval o).run P w= .ok (.enter f args) w'∧Calls P f args w' fun yr hO=>∃v,yr= .returned v∧K v hO)
theorem Bu.wp {P:Program} {o:Oper} {a:Act} {w:World} {K:Value→World→Prop} {next:Act→World→Prop} {Q:Exit→Act→World→Prop}
   (h:Bu P o a w K) (aD:∀v w',K v w'→next (a.put o.dst v) w'):o.wp P a w next Q:=by
 unfold Oper.wp
 rcases h with ⟨v,w',h,bk⟩|⟨w',h,bk⟩|⟨f,args,w',h,al⟩
 · rw[h];exact aD _ _ bk
 · rw[h];exact aD _ _ bk
 · rw[h]
   exact al.mono fun yr hO ⟨v,ak,bk⟩=>by subst ak;exact aD _ _ bk
section
variable {P:Program} {aH:TypeId→jW} {o:Oper} {K:Value→World→Prop} {e:Env} {a:Act} {w:World}
theorem arh (ax:ga e a) {xs:Array Operand} (h:known e xs=true):∀x∈xs,a.eval x=ro e x:=by
 intro x af
 exact ax.ro (Gq.1 h x (by simpa using af))
theorem vS (ax:ga e a) (aj:Vt o.op=false) (h:known e o.op.operands=true):execOp a.eval o=execOp (ro e) o:=
 execOp_congr o (fun cs b al=>by rw[al] at aj;cases aj) (arh ax h)
theorem FY (ax:ga e a) (aj:Vt o.op=false) (h:gen P aH o K e w):Bu P o a w K:=by
 unfold gen at h
 by_cases ae:known e o.op.operands=true
 · rw[ae] at h
   simp only[cond_true] at h
   have al:=vS ax aj ae
   unfold Bu
   rw[al]
   split at h
   · rename_i v w' aU
     exact .inl ⟨v,w',aU,h⟩
   · rename_i w' aU
     exact .inr (.inl ⟨w',aU,h⟩)
   · rename_i f args w' aU
     refine .inr (.inr ⟨f,args,w',aU,h.mono fun yr hO ari=> ?_⟩)
     exact q6 ari
   · exact h.elim
 · simp only[lC] at ae
   rw[ae] at h
   exact h.elim
theorem Vu (ax:ga e a) (aj:Vt o.op=false) (h:LC P o K e w):Bu P o a w K:=by
 unfold LC at h
 by_cases ae:known e o.op.operands=true
 · rw[ae] at h
   simp only[cond_true] at h
   have al:=vS ax aj ae
   unfold Bu
   rw[al]
   split at h
   · rename_i v w' aU
     exact .inl ⟨v,w',aU,h⟩
   · exact h.elim
 · simp only[lC] at ae
   rw[ae] at h
   exact h.elim
theorem Vv:∀ {ls:List jV} {A:Addr} {i:Nat} {K:List Value→Prop},Vo ls A i w K→∃vs,ey w A i ls.length=some vs∧K vs
 | [],_,_,_,h=>⟨[],rfl,h⟩
 |l::ls,A,i,K,h=>by
   obtain ⟨v,ak,h⟩:=Iq h
   obtain ⟨vs,kp,h⟩:=Vv h
   exact ⟨v::vs,by simp[ey,ak,kp],h⟩
theorem adB {T:TypeId} {A:Addr} {K:Value→Prop} (h:Ir P aH T A w K):∃v,(Instr.loadAt T (.pointer (some A))).run P w= .ok v w∧K v:=by
 have aY:(Instr.loadAt T (.pointer (some A))).run P w=(loadVar T A).run P w:=by simp[Instr.loadAt,Instr.sureAddr]
 rw[aY]
 unfold Ir at h
 split at h
 · exact h.elim
 · rename_i d bh
   cases hd:zt d with
   |true=>
     rw[hd] at h
     simp only[cond_true] at h
     split at h
     · rename_i ls _
       by_cases ab:Nat.beq (P.cellsOf T) ls.length=true
       · rw[ab] at h
         simp only[cond_true] at h
         obtain ⟨vs,kp,h⟩:=Vv h
         rw[←qt ab] at kp
         exact ⟨_,PJ bh hd kp,h⟩
       · simp only[lC] at ab;rw[ab] at h;exact h.elim
     · obtain ⟨cs,al,h⟩:=h
       exact ⟨_,PJ bh hd al,h⟩
   |false=>
     rw[hd] at h
     simp only[cond_false] at h
     split at h
     · obtain ⟨v,ak,h⟩:=Iq h
       exact ⟨v,adi bh hd ak,h⟩
     · exact h.elim
theorem Vw {v:Value} (h:Plain v):v.cells= #[v]:=by cases v<;>first|rfl|exact h.elim
theorem add_zero' (A:Addr):A.add 0=A:=rfl
theorem arj {T:TypeId} {A:Addr} {x:Value} {K:World→Prop} (h:Vp P aH T A x w K):
   ∃w',(Instr.storeAt T (.pointer (some A)) x).run P w= .ok () w'∧K w':=by
 have aY:(Instr.storeAt T (.pointer (some A)) x).run P w=(storeVar T A x).run P w:=by simp[Instr.storeAt,Instr.sureAddr]
 rw[aY]
 unfold Vp at h
 split at h
 · exact h.elim
 · rename_i d bh
   cases hd:zt d with
   |true=>
     rw[hd] at h
     simp only[cond_true] at h
     split at h
     · rename_i cs
       exact ⟨_,adj (v:= .agg cs) bh h.2.1 h.1,h.2.2⟩
     · exact h.elim
   |false=>
     rw[hd] at h
     simp only[cond_false] at h
     have one:∀ (aT:Plain x) (ab:Nat.beq (P.cellsOf T) 1=true),((∃u,w.cell? A=some u)∧w.frozen? A=false∧K (w.setCell A x))→∃w',(storeVar T A x).run P w= .ok () w'∧K w':=by
       intro aT ab ⟨⟨u,hu⟩,aG,bk⟩
       refine ⟨_,adj (v:=x) bh ?_ ?_,?_⟩
       · rw[Vw aT,qt ab];rfl
       · rw[Vw aT]
         refine ⟨fun i hi=> ?_,fun v ak=> ?_⟩
         · have:i=0:=by simpa using hi
           subst this
           rw[add_zero',hu]
           exact ⟨rfl,aG⟩
         · have:v=x:=by simpa using ak
           subst this;exact aT
       · rw[Vw aT]
         exact bk
     by_cases ab:Nat.beq (P.cellsOf T) 1=true
     · have kn:=ab
       rw[ab] at h
       simp only[cond_true] at h
       split at h
       · exact one h.1 kn h.2
       · split at h
         · exact h.elim
         · exact h.elim
         · rename_i U ad
           refine one ?_ kn h
           cases x<;>first|exact trivial|(exact absurd rfl (U _))|(exact absurd rfl (ad _))
     · simp only[lC] at ab;rw[ab] at h;exact h.elim
theorem PT (ax:ga e a) (h:tq P aH o K e w):Bu P o a w K:=by
 unfold tq at h
 split at h
 case h_1 x b1=>
   split at h
   · rename_i p af
     obtain ⟨A,rfl,bk⟩:=h
     exact .inl ⟨_,_,by simp[execOp,b1,ax.bu af],bk⟩
   · exact h.elim
 case h_2 T x b1=>
   split at h
   · rename_i A af
     obtain ⟨v,ak,bk⟩:=adB h
     exact .inl ⟨v,w,by simp[execOp,b1,ax.bu af,ak],bk⟩
   · exact h.elim
 case h_3 T x y b1=>
   split at h
   · rename_i A v af b2
     obtain ⟨w',hw,bk⟩:=arj h
     exact .inr (.inl ⟨w',by simp[execOp,b1,ax.bu af,ax.bu b2,hw],bk⟩)
   · exact h.elim
 case h_4 op T x y adC b1=>
   split at h
   · rename_i fR vR af b2
     by_cases bJ:adz P T y=true
     · rw[bJ] at h
       simp only[cond_true] at h
       obtain ⟨b,ab,bk⟩:=h
       exact .inl ⟨_,w,by
         simp only[execOp,b1,ax.bu af,ax.bu b2]
         have qH:=ab w
         simp only[Sem.run_bind] at qH⊢
         rw[qH];rfl,bk⟩
     simp only[lC] at bJ
     rw[bJ] at h
     simp only[cond_false] at h
     by_cases aD:Iv y vR=true
     · rw[aD] at h
       simp only[cond_true] at h
       have Lp:vR= .nilIface→∃c,y= .const c:=by
         intro ak
         subst ak
         cases y<;>simp[Iv] at aD⊢
       rcases adp (LA:=x) (Iu:=y) Lp h with a7|⟨v,ak,bk⟩
       · exact FY ax (by rw[b1];rfl) a7
       · exact .inl ⟨v,w,by
           simp only[execOp,b1,ax.bu af,ax.bu b2]
           have qH:=ak w
           simp only[Sem.run_bind] at qH⊢
           rw[qH];rfl,bk⟩
     · simp only[lC] at aD;rw[aD] at h;exact h.elim
   · exact h.elim
 case h_5 T x i b1=>
   split at h
   · rename_i fR pn af hi
     obtain ⟨v,ak,bk⟩:=adr h
     exact .inl ⟨v,w,by simp[execOp,b1,ax.bu af,ax.bu hi,ak],bk⟩
   · exact h.elim
 case h_6 T x i b1=>
   split at h
   · rename_i fR pn af hi
     obtain ⟨v,ak,bk⟩:=adt h
     exact .inl ⟨v,w,by simp[execOp,b1,ax.bu af,ax.bu hi,ak],bk⟩
   · exact h.elim
 case h_7 T x i b1=>
   split at h
   · rename_i fR af
     obtain ⟨v,ak,bk⟩:=adu h
     exact .inl ⟨v,w,by simp[execOp,b1,ax.bu af,ak],bk⟩
   · exact h.elim
 case h_8 T b1=>exact Vu ax (by rw[b1];rfl) h
 case h_9 T x b1=>exact Vu ax (by rw[b1];rfl) h
 case h_10 T n ps b1=>
   cases J:adx (adw P aH T) with
   |true=>
     rw[J] at h
     simp only[cond_true] at h
     by_cases ae:known e o.op.operands=true
     · rw[ae] at h
       simp only[cond_true] at h
       have al:=vS ax (by rw[b1];rfl) ae
       obtain ⟨r,ag,aU,bk⟩:=q6 h
       exact .inl ⟨r,ag,by rw[al];simp[execOp,b1];rw[aU];rfl,bk⟩
     · simp only[lC] at ae;rw[ae] at h;exact h.elim
   |false=>
     rw[J] at h
     exact Vu ax (by rw[b1];rfl) h
 case h_11 T x lo hi vP b1=>
   by_cases ae:known e o.op.operands=true
   · rw[ae] at h
     simp only[cond_true] at h
     have al:=vS ax (by rw[b1];rfl) ae
     obtain ⟨v,ak,bk⟩:=adv h
     exact .inl ⟨v,w,by rw[al];simp[execOp,b1,ak],bk⟩
   · simp only[lC] at ae;rw[ae] at h;exact h.elim
 case h_12 T l c b1=>
   split at h
   · rename_i adA Ck az al
     obtain ⟨v,w',ak,bk⟩:=ard h
     exact .inl ⟨v,w',by simp[execOp,b1,ax.bu az,ax.bu al,ak],bk⟩
   · exact h.elim
 case h_13 s d x b1=>
   split at h
   · rename_i k n af
     by_cases aj:(P.underlying s).isSome=true
     · rw[aj] at h
       simp only[cond_true] at h
       obtain ⟨ds,q5⟩:=tP _ aj
       split at h
       · rename_i mC hd
         exact .inl ⟨_,_,by simp[execOp,b1,ax.bu af,convert,fX q5,fX hd,Conv.intToInt],h⟩
       · obtain ⟨r,ag,aU,bk⟩:=q6 h
         exact .inl ⟨r,ag,by simp[execOp,b1,ax.bu af,aU],bk⟩
     · simp only[lC] at aj;rw[aj] at h;exact h.elim
   · rename_i v _ af
     obtain ⟨r,ag,aU,bk⟩:=q6 h
     exact .inl ⟨r,ag,by simp[execOp,b1,ax.bu af,aU],bk⟩
   · exact h.elim
 case h_14 t ps b1=>
   split at h
   · exact FY ax (by rw[b1];rfl) h
   · by_cases ae:known e o.op.operands=true
     · rw[ae] at h
       simp only[cond_true] at h
       have al:=vS ax (by rw[b1];rfl) ae
       obtain ⟨cs,aU,bk⟩:=h
       exact .inl ⟨_,_,by rw[al];simp[execOp,b1];rw[aU];rfl,bk⟩
     · simp only[lC] at ae;rw[ae] at h;exact h.elim
 case h_15 T m i ok b1=>
   split at h
   · rename_i sx pn hm hi
     obtain ⟨r,ag,aU,bk⟩:=q6 h
     exact .inl ⟨r,ag,by simp[execOp,b1,ax.bu hm,ax.bu hi,aU],bk⟩
   · exact h.elim
 case h_16 T m i x b1=>
   split at h
   · rename_i sx pn fR hm hi af
     obtain ⟨ag,aU,bk⟩:=h
     exact .inr (.inl ⟨ag,by simp[execOp,b1,ax.bu hm,ax.bu hi,ax.bu af,aU],bk⟩)
   · exact h.elim
 case h_17 T r b1=>
   by_cases ae:known e o.op.operands=true
   · rw[ae] at h
     simp only[cond_true] at h
     have al:=vS ax (by rw[b1];rfl) ae
     obtain ⟨v,ag,aU,bk⟩:=q6 h
     exact .inl ⟨v,ag,by rw[al];simp[execOp,b1,aU],bk⟩
   · simp only[lC] at ae;rw[ae] at h;exact h.elim
 case h_18 T x b1=>
   split at h
   · rename_i fR af
     obtain ⟨v,ag,aU,bk⟩:=h
     exact .inl ⟨v,ag,by simp[execOp,b1,ax.bu af,aU],bk⟩
   · exact h.elim
 case h_19 it Iw b1=>
   split at h
   · rename_i fR af
     rcases h with h|⟨ag,aU,bk⟩
     · cases Iw with
       |true=>
         obtain ⟨n,c,ag,aU,bk⟩:=h
         exact .inl ⟨_,ag,by simp[execOp,b1,ax.bu af,aU],bk⟩
       |false=>
         obtain ⟨k,v,ag,aU,bk⟩:=h
         exact .inl ⟨_,ag,by simp[execOp,b1,ax.bu af,aU],bk⟩
     · exact .inl ⟨_,ag,by simp[execOp,b1,ax.bu af,aU],bk⟩
   · exact h.elim
 case h_20 c b1=>
   have bi:∀ (b:Builtin) (r:Value) (ag:World),c.callee= .builtin b→known e o.op.operands=true→
       (∀cs,(Go.builtin b c.argTypes o.type cs (c.args.map (ro e))).run P w= .ok (.value r) ag)→K r ag→Bu P o a w K:=by
     intro b r ag ab ae aU bk
     have al:=vS ax (by rw[b1];rfl) ae
     exact .inl ⟨r,ag,by rw[al];simp[execOp,b1,resolve,ab,invoke,aU],bk⟩
   have xO:∀ {X:Prop},(bif known e o.op.operands then X else False)→known e o.op.operands=true∧X:=by
     intro X dC
     by_cases ae:known e o.op.operands=true
     · rw[ae] at dC;exact ⟨ae,dC⟩
     · simp only[lC] at ae;rw[ae] at dC;exact dC.elim
   split at h
   · rename_i k ab
     split at h
     · rename_i f pre cap a7
       obtain ⟨ae,yi,h⟩:=xO h
       have al:=vS ax (by rw[b1];rfl) ae
       refine .inr (.inr ⟨f,pre++c.args.map (ro e)++cap,w,?_,h.mono fun yr ag U=> ?_⟩)
       · have Vx:ro e (.tmp k)= .func (.func f) pre cap:=by simp[ro,bu,a7]
         rw[al]
         simp[execOp,b1,resolve,ab,Vx,Deferred.ofValue,invoke,ady yi]
       · obtain ⟨v,ak,bk⟩:=q6 U
         exact ⟨v,ak,bk⟩
     · exact FY ax (by rw[b1];rfl) h
   · rename_i ab
     obtain ⟨ae,h⟩:=xO h
     obtain ⟨r,ag,aU,bk⟩:=q6 h
     exact bi _ r ag ab ae (fun _=>by simp[Go.builtin,aU]) bk
   · rename_i ab
     obtain ⟨ae,h⟩:=xO h
     obtain ⟨r,ag,aU,bk⟩:=q6 h
     exact bi _ r ag ab ae (fun _=>by simp[Go.builtin,aU]) bk
   · rename_i ab
     obtain ⟨ae,h⟩:=xO h
     obtain ⟨r,ag,aU,bk⟩:=q6 h
     exact bi _ r ag ab ae (fun _=>by simp[Go.builtin,aU]) bk
   · rename_i ab
     obtain ⟨ae,h⟩:=xO h
     obtain ⟨r,ag,aU,bk⟩:=q6 h
     exact bi _ r ag ab ae (fun _=>by simp[Go.builtin,aU]) bk
   · rename_i ab
     obtain ⟨ae,r,ag,aU,bk⟩:=xO h
     exact bi _ r ag ab ae (fun _=>by simp[Go.builtin,aU]) bk
   · rename_i f ab
     split at h
     · rename_i fn CQ
       split at h
       · exact FY ax (by rw[b1];rfl) h
       · obtain ⟨ae,h⟩:=xO h
         obtain ⟨r,ag,aU,bk⟩:=q6 h
         have al:=vS ax (by rw[b1];rfl) ae
         refine .inl ⟨r,ag,?_,bk⟩
         rw[al]
         have Vx:ro e (.func f)= .func (.func f) #[] #[]:=by simp[ro,bu]
         simp[execOp,b1,resolve,ab,Vx,Deferred.ofValue,invoke,aU]
     · exact h.elim
   · rename_i ab
     obtain ⟨ae,h⟩:=xO h
     obtain ⟨r,ag,aU,bk⟩:=q6 h
     exact bi _ r ag ab ae (fun _=>by simp[Go.builtin,aU]) bk
   · rename_i ab
     obtain ⟨ae,h⟩:=xO h
     obtain ⟨r,ag,aU,bk⟩:=q6 h
     exact bi _ r ag ab ae (fun _=>by simp[Go.builtin,aU]) bk
   · rename_i ab
     obtain ⟨ae,r,ag,aU,bk⟩:=xO h
     exact bi _ r ag ab ae (fun _=>by simp[Go.builtin,aU]) bk
   · rename_i ab
     split at h
     · obtain ⟨ae,h⟩:=xO h
       obtain ⟨r,ag,aU,bk⟩:=q6 h
       exact bi _ r ag ab ae (fun _=>by simp[Go.builtin,aU]) bk
     · exact FY ax (by rw[b1];rfl) h
   · exact FY ax (by rw[b1];rfl) h
 case h_21 T x b1=>
   split at h
   · rename_i fR af
     obtain ⟨v,ak,bk⟩:=adq h
     exact .inl ⟨v,w,by simp[execOp,b1,ax.bu af,ak],bk⟩
   · exact h.elim
 case h_22 T m i b1=>
   split at h
   · rename_i sx pn hm hi
     obtain ⟨v0,st,ag,aU,bk⟩:=h
     exact .inl ⟨_,ag,by simp[execOp,b1,ax.bu hm,ax.bu hi,aU],bk⟩
   · exact h.elim
 case h_23 T m s x b1=>
   split at h
   · rename_i sx vs fR hm aj af
     obtain ⟨ag,aU,bk⟩:=h
     exact .inr (.inl ⟨ag,by simp[execOp,b1,ax.bu hm,ax.bu aj,ax.bu af,aU],bk⟩)
   · exact h.elim
 case h_24 it b1=>
   split at h
   · rename_i fR af
     obtain ⟨v,ag,aU,bk⟩:=q6 h
     exact .inl ⟨v,ag,by simp[execOp,b1,ax.bu af,aU],bk⟩
   · exact h.elim
 case h_25=>exact h.elim
 case h_26=>
   refine FY ax ?_ h
   cases b1:o.op<;>first|rfl|simp_all
end
end b7
namespace b7
open Go
inductive Bv where
 |run
 |split (n:Nat)
 |pure (n:Nat)
 |Vy (ks:List p1)
def ku (P:Program) (o:Oper) (e:Env):Option Value:=
 match o.op with
 | .move x=>bu e x
 | .assign x=>bu e x
 | .unOp .not _ x=>match bu e x with
   |some (.bool b)=>some (.bool (!b))
   |_=>none
 | .binOp op T x y _=>match bu e y with
   |some (.int mC b)=>match bu e x with
     |some (.int k a)=>bif uz k mC then
         match op with
         | .add=>some (.int k (k.wrap (a+b)))
         | .sub=>some (.int k (k.wrap (a-b)))
         | .mul=>some (.int k (k.wrap (a*b)))
         | .quo=>match b with
           | .ofNat (.succ m)=>some (.int k (k.wrap (a.tdiv (.ofNat (.succ m)))))
           |_=>none
         | .rem=>match b with
           | .ofNat (.succ m)=>some (.int k (a.tmod (.ofNat (.succ m))))
           |_=>none
         | .and=>some (.int k (k.wrap (BitVec.ofInt k.bits a&&&BitVec.ofInt k.bits b).toNat))
         | .or=>some (.int k (k.wrap (BitVec.ofInt k.bits a|||BitVec.ofInt k.bits b).toNat))
         | .eql=>some (.bool (a==b))
         | .neq=>some (.bool (a !=b))
         | .lss=>some (.bool (a<b))
         | .leq=>some (.bool (a≤b))
         | .gtr=>some (.bool (a>b))
         | .geq=>some (.bool (a≥b))
         |_=>none
       else none
     |_=>none
   |some (.bool b)=>match bu e x with
     |some (.bool a)=>match P.underlying T with
       |some .bool=>match op with
         | .eql=>some (.bool (a==b))
         | .neq=>some (.bool (!(a==b)))
         |_=>none
       |_=>none
     |_=>none
   |some (.string b)=>match bu e x with
     |some (.string a)=>match op with
       | .eql=>some (.bool (a.toList==b.toList))
       | .neq=>some (.bool (!(a.toList==b.toList)))
       |_=>none
     |_=>none
   |some (.pointer none)=>match bu e x with
     |some (.pointer p)=>bif Bt (P.underlying T) then match op with
         | .eql=>some (.bool p.isNone)
         | .neq=>some (.bool (!p.isNone))
         |_=>none
       else none
     |_=>none
   |some (.slice none _ _)=>match bu e x with
     |some (.slice p _ _)=>bif DK (P.underlying T) then match op with
         | .eql=>some (.bool p.isNone)
         | .neq=>some (.bool (!p.isNone))
         |_=>none
       else none
     |_=>none
   |_=>none
 | .convert s d x=>match bu e x with
   |some (.int _ n)=>match P.underlying d with
     |some (.int k)=>bif (P.underlying s).isSome then some (.int k (k.wrap n)) else none
     |_=>none
   |_=>none
 | .call {callee:= .builtin .len,args:=args,argTypes:=nh}=>match args[0]?,nh[0]? with
   |some x,some T=>match bu e x,P.underlying T with
     |some (.slice _ n _),some (.slice _)=>some (.int .i64 n)
     |some (.string s),some .string=>some (.int .i64 s.size)
     |_,_=>none
   |_,_=>none
 | .call {callee:= .builtin .cap,args:=args,argTypes:=nh}=>match args[0]?,nh[0]? with
   |some x,some T=>match bu e x,P.underlying T with
     |some (.slice _ _ c),some (.slice _)=>some (.int .i64 c)
     |_,_=>none
   |_,_=>none
 |_=>none
def LD (ops:Array Oper) (e:Env) (j:Nat):Option Value:=((ops[j]?).bind (·.dst)).bind e.get
def ark (ops:Array Oper) (j:Nat):Option Nat:=(ops[j]?).bind (·.dst)
def avk (o:Oper) (e:Env) (K:Bool→Prop):Prop:=
 match o.guard with
 |none=>match o.op with
   | .pick x y z=>match bu e x with
     |some (.bool b)=>match bu e (bif b then y else z) with
       |some (.bool r)=>K r
       |_=>False
     |_=>False
   |_=>False
 |some _=>False
def o0 (ops:Array Oper) (o:Oper) (e:Env) (run skip:Prop):Prop:=
 match o.guard with
 |none=>run
 |some (j,want)=>match LD ops e j with
   |none=>False
   |some (.bool b)=>bif Bool.xor b want then skip else run
   |some _=>skip
def zu {α:Type} (ops:Array Oper) (o:Oper) (e:Env) (run skip:Option α):Option α:=
 match o.guard with
 |none=>run
 |some (j,want)=>match LD ops e j with
   |none=>none
   |some (.bool b)=>bif Bool.xor b want then skip else run
   |some _=>skip
def xP (o:Oper) (e:Env):Option Bool:=
 match o.op with
 | .pick x y z=>match bu e x with
   |some (.bool b)=>match bu e (bif b then y else z) with
     |some (.bool r)=>some r
     |_=>none
   |_=>none
 |_=>none
def LF (ops:Array Oper) (o:Oper) (e:Env):Option (Nat×Bool):=
 match o.guard with
 |none=>none
 |some (j,_)=>match ark ops j with
   |none=>none
   |some s=>match e.get s with
     |some (.bool c)=>some (s,c)
     |_=>none
def Bw (ops:Array Oper) (o:Oper) (e:Env):Bool:=
 match o.guard with
 |none=>true
 |some (j,want)=>match LD ops e j with
   |some (.bool b)=> !(Bool.xor b want)
   |_=>false
def DL (e:Env) (ds:List Nat):Bool:=e.all fun p=> !(ds.any fun d=>Nat.beq d p.1)
def cx (l:List Oper):List Nat:=l.filterMap (·.dst)
def rW (P:Program) (ops:Array Oper):Nat→List Oper→List Bv→Env→Option Env
 |0,_,_,_=>none
 |_+1,[],_,e=>some e
 |n+1,o::rest, .pure m::as,e=>
   match LF ops o e,rest.drop (m-1) with
   |none,_=>
     match zu ops o e none (some undef) with
     |some v=>rW P ops n rest as (fQ o.dst v e)
     |none=>none
   |some (s,c),ej::h4=>
     match rW P ops n (o::rest.take (m-1)) (.run::as.take (m-1)) ((s, .bool true)::e),rW P ops n (o::rest.take (m-1)) (.run::as.take (m-1)) ((s, .bool false)::e) with
     |some aY,some bm=>
       match xP ej aY,xP ej bm with
       |some aq,some bA=>bif Bw ops ej e&&DL e (cx (o::rest.take (m-1))) then rW P ops n h4 (as.drop m) (fQ ej.dst (.bool (cond c aq bA)) e) else none
       |_,_=>none
     |_,_=>none
   |_,_=>none
 |n+1,o::rest,_::as,e=>
   match zu ops o e (ku P o e) (some undef) with
   |some v=>rW P ops n rest as (fQ o.dst v e)
   |none=>none
 |n+1,o::rest,[],e=>
   match zu ops o e (ku P o e) (some undef) with
   |some v=>rW P ops n rest [] (fQ o.dst v e)
   |none=>none
inductive c5 {α:Type} (B:α→Prop) (k:α):Prop where
 |mk (h:B k)
theorem c5.out {α:Type} {B:α→Prop} {k:α} (h:c5 B k):B k:=by cases h with|mk h=>exact h
def PU (P:Program) (ks:List p1) (o:Oper) (K:Value→World→Prop) (e:Env) (w:World):Prop:=
 match o.op with
 | .entry it=>match bu e it with
   |some fR=>PH ks fun vs=>∃ag,(Instr.entry fR).run P w= .ok (.tuple vs.toArray) ag∧K (.tuple vs.toArray) ag
   |_=>False
 |_=>False
theorem arl {P:Program} {ks:List p1} {o:Oper} {K:Value→World→Prop} {e:Env} {w:World} {a:Act} (ax:ga e a) (h:PU P ks o K e w):Bu P o a w K:=by
 unfold PU at h
 split at h
 · rename_i it b1
   split at h
   · rename_i fR af
     obtain ⟨v,ag,aU,bk⟩:=Vn h
     exact .inl ⟨_,ag,by simp[execOp,b1,ax.bu af,aU],bk⟩
   · exact h.elim
 · exact h.elim
def mg (P:Program) (aH:TypeId→jW) (ops:Array Oper):Nat→List Oper→List Bv→(Env→World→Prop)→Env→World→Prop
 |0,_,_,_,_,_=>False
 |_+1,[],_,K,e,w=>K e w
 |n+1,o::rest, .Vy ks::as,K,e,w=>
   o0 ops o e (PU P ks o (fun v w'=>mg P aH ops n rest as K (fQ o.dst v e) w') e w) (mg P aH ops n rest as K (fQ o.dst undef e) w)
 |n+1,o::rest, .pure m::as,K,e,w=>
   match LF ops o e,rest.drop (m-1) with
   |none,_=>o0 ops o e False (mg P aH ops n rest as K (fQ o.dst undef e) w)
   |some (s,c),ej::h4=>
     match rW P ops n (o::rest.take (m-1)) (.run::as.take (m-1)) ((s, .bool true)::e),rW P ops n (o::rest.take (m-1)) (.run::as.take (m-1)) ((s, .bool false)::e) with
     |some aY,some bm=>
       match xP ej aY,xP ej bm with
       |some aq,some bA=>bif Bw ops ej e&&DL e (cx (o::rest.take (m-1))) then mg P aH ops n h4 (as.drop m) K (fQ ej.dst (.bool (cond c aq bA)) e) w else False
       |_,_=>False
     |_,_=>False
   |_,_=>False
 |n+1,o::rest, .split m::as,K,e,w=>
   match LF ops o e,rest.drop (m-1) with
   |none,_=>o0 ops o e False (mg P aH ops n rest as K (fQ o.dst undef e) w)
   |some (s,c),ej::h4=>
     bif Bw ops ej e&&DL e (cx (o::rest.take (m-1))) then
       c5 (fun k:Bool→World→Prop=>
           (c=true→mg P aH ops n (o::rest.take (m-1)) (.run::as.take (m-1)) (fun eH w'=>match xP ej eH with|some r=>k r w'|none=>False) ((s, .bool true)::e) w)∧
           (c=false→mg P aH ops n (o::rest.take (m-1)) (.run::as.take (m-1)) (fun eH w'=>match xP ej eH with|some r=>k r w'|none=>False) ((s, .bool false)::e) w))
         (fun r w'=>mg P aH ops n h4 (as.drop m) K (fQ ej.dst (.bool r) e) w')
     else False
   |_,_=>False
 |n+1,o::rest,_::as,K,e,w=>
   o0 ops o e (tq P aH o (fun v w'=>mg P aH ops n rest as K (fQ o.dst v e) w') e w) (mg P aH ops n rest as K (fQ o.dst undef e) w)
 |n+1,o::rest,[],K,e,w=>
   o0 ops o e (tq P aH o (fun v w'=>mg P aH ops n rest [] K (fQ o.dst v e) w') e w) (mg P aH ops n rest [] K (fQ o.dst undef e) w)
structure hW (ds:List Nat) (a c3:Act):Prop where
 defers:c3.defers=a.defers
 size:c3.tmps.size=a.tmps.size
 same:∀s,s∉ds→c3.tmps[s]? =a.tmps[s]?
theorem hW.refl (ds:List Nat) (a:Act):hW ds a a:=⟨rfl,rfl,fun _ _=>rfl⟩
theorem hW.trans {ds:List Nat} {a b c:Act} (h:hW ds a b) (k:hW ds b c):hW ds a c:=
 ⟨k.defers.trans h.defers,k.size.trans h.size,fun s aj=>(k.same s aj).trans (h.same s aj)⟩
theorem hW.mono {ds es:List Nat} {a b:Act} (h:hW ds a b) (aj:∀s,s∈ds→s∈es):hW es a b:=
 ⟨h.defers,h.size,fun s aD=>h.same s fun hm=>aD (aj s hm)⟩
theorem hW.put {a:Act} {d:Option Nat} {v:Value} {ds:List Nat} (hd:∀k,d=some k→k∈ds):hW ds a (a.put d v):=by
 cases d with
 |none=>exact .refl _ _
 |some d=>exact ⟨rfl,by simp[Act.put],fun s aj=>by
     have:d≠s:=fun h=>aj (h▸hd d rfl)
     simp[Act.put,Array.getElem?_setIfInBounds_ne this]⟩
def nW (a:Act) (ds:List Nat) (K:Env→World→Prop) (x:Exit) (c3:Act) (w':World):Prop:=
 x= .normal∧hW ds a c3∧∃eH,ga eH c3∧K eH w'
theorem rX {P:Program} {ops:Array Oper} {Q Q':Exit→Act→World→Prop} (J:∀x a w,Q x a w→Q' x a w):
   ∀ (l:List Oper) (a:Act) (w:World),wpList P ops Q l a w→wpList P ops Q' l a w
 | [],_,_,h=>J _ _ _ h
 |o::l,a,w,h=>by
   simp only[wpList] at h⊢
   split
   · rename_i hw
     rw[if_pos hw] at h
     refine h.imp (fun h=> ?_) (fun ⟨U,c3,w',ad⟩=>⟨U,c3,w',J _ _ _ ad⟩)
     have:=Oper.wp_mono (Q:=Q) (fun a w=>rX J l a w) h
     unfold Oper.wp at this⊢
     revert this
     generalize (execOp a.eval o).run P w=r
     intro this
     cases r with
     |ok bM w'=>
       cases bM<;>simp only[Oper.upon] at this⊢<;>first
         |exact this
         |(exact Calls.mono this fun e hO he=>by
             cases e with
             |returned v=>exact he
             |panicked c=>exact J _ _ _ he
             |outgrown=>exact let ⟨c3,w',ad⟩:=he;⟨c3,w',J _ _ _ ad⟩)
     |halt x w'=>cases x<;>simp only[Oper.upon] at this⊢<;>first|exact J _ _ _ this|exact this
   · rename_i hw
     rw[if_neg hw] at h
     exact rX J l _ _ h
theorem LG {P:Program} {ops:Array Oper} {Q:Exit→Act→World→Prop} (qL:List Oper):
   ∀ (qK:List Oper) (a:Act) (w:World),wpList P ops (fun x a w=>x= .normal∧wpList P ops Q qL a w) qK a w→wpList P ops Q (qK++qL) a w
 | [],_,_,h=>h.2
 |o::l,a,w,h=>by
   simp only[Ea,wpList] at h⊢
   split
   · rename_i hw
     rw[if_pos hw] at h
     rcases h with h|⟨_,c3,w',ad,_⟩
     · left
       have:=Oper.wp_mono (fun a w=>LG qL l a w) h
       unfold Oper.wp at this⊢
       revert this
       generalize (execOp a.eval o).run P w=r
       intro this
       cases r with
       |ok bM w'=>
         cases bM<;>simp only[Oper.upon] at this⊢<;>first
           |exact this
           |(exact Calls.mono this fun e hO he=>by
               cases e with
               |returned v=>exact he
               |panicked c=>cases he.1
               |outgrown=>exact let ⟨c3,w',ad⟩:=he;by cases ad.1)
       |halt x w'=>cases x<;>simp only[Oper.upon] at this⊢<;>first|(cases this.1;done)|exact this
     · cases ad
   · rename_i hw
     rw[if_neg hw] at h
     exact LG qL l _ _ h
section
variable {P:Program} {aH:TypeId→jW} {ops:Array Oper}
def z9:Value→Option Bool
 | .bool b=>some b
 |_=>none
theorem LH {e:Env} {a:Act} (ax:ga e a) {j:Nat} {v:Value} (h:LD ops e j=some v):
   yielded ops a.tmps j=z9 v:=by
 unfold LD at h
 unfold yielded
 cases hd:(ops[j]?).bind (·.dst) with
 |none=>rw[hd] at h;simp at h
 |some s=>
   rw[hd] at h
   simp only[Option.bind_some] at h⊢
   rw[ax.get _ _ h]
   cases v<;>rfl
theorem LI {o:Oper} {e:Env} {a:Act} (ax:ga e a) {R S:Prop} (h:o0 ops o e R S):
   (Region.wanted o (yielded ops a.tmps)=true∧R)∨(Region.wanted o (yielded ops a.tmps)=false∧S):=by
 unfold o0 at h
 unfold Region.wanted
 split at h
 · rename_i a7;rw[a7];exact .inl ⟨rfl,h⟩
 · rename_i j want a7
   rw[a7]
   simp only
   split at h
   · exact h.elim
   · rename_i b ak
     rw[LH ax ak]
     cases b<;>cases want<;>first|exact .inl ⟨rfl,h⟩|exact .inr ⟨rfl,h⟩
   · rename_i v kO ak
     rw[LH ax ak]
     cases v<;>first|exact absurd rfl (kO _)|exact .inr ⟨by cases want<;>rfl,h⟩
theorem adD {o:Oper} {e:Env} {R adE S:Prop} (h:o0 ops o e R S) (aU:R→adE):o0 ops o e adE S:=by
 unfold o0 at h⊢
 split at h
 · exact aU h
 · rename_i j want a7
   split at h
   · exact h
   · rename_i b ak
     cases ab:Bool.xor b want<;>rw[ab] at h<;>first|exact aU h|exact h
   · exact h
theorem arm {α:Type} {o:Oper} {e:Env} {R S:Option α} {r:α} (h:zu ops o e none S=some r):zu ops o e R S=some r:=by
 unfold zu at h⊢
 split at h
 · cases h
 · rename_i j want a7
   split at h
   · exact h
   · rename_i b ak
     cases ab:Bool.xor b want with
     |true=>rw[ab] at h;exact h
     |false=>rw[ab] at h;cases h
   · exact h
theorem arn {α:Type} {o:Oper} {e:Env} {a:Act} (ax:ga e a) {R S:Option α} {r:α} (h:zu ops o e R S=some r):
   (Region.wanted o (yielded ops a.tmps)=true∧R=some r)∨(Region.wanted o (yielded ops a.tmps)=false∧S=some r):=by
 unfold zu at h
 unfold Region.wanted
 split at h
 · rename_i a7;rw[a7];exact .inl ⟨rfl,h⟩
 · rename_i j want a7
   rw[a7]
   simp only
   split at h
   · cases h
   · rename_i b ak
     rw[LH ax ak]
     cases b<;>cases want<;>first|exact .inl ⟨rfl,h⟩|exact .inr ⟨rfl,h⟩
   · rename_i v kO ak
     rw[LH ax ak]
     cases v<;>first|exact absurd rfl (kO _)|exact .inr ⟨by cases want<;>rfl,h⟩
theorem adF {o:Oper} {e:Env} {a:Act} (ax:ga e a) {v:Value} (h:ku P o e=some v) (w:World):(execOp a.eval o).run P w= .ok (.value v) w:=by
 unfold ku at h
 split at h
 · rename_i x b1
   simp[execOp,b1,ax.bu h]
 · rename_i x b1
   simp[execOp,b1,ax.bu h]
 · rename_i t x b1
   split at h
   · rename_i b af
     cases h
     simp[execOp,b1,ax.bu af,Op.unary]
   · cases h
 · rename_i op T x y adC b1
   split at h
   · rename_i mC b b2
     split at h
     · rename_i k c af
       by_cases ae:k=mC
       · subst ae
         simp only[uz,decide_true,cond_true] at h
         split at h
         case h_4=>
           split at h
           · cases h
             simp[execOp,b1,ax.bu af,ax.bu b2,eqGuard,binOp,Op.intDiv]
             intro bI;exfalso;revert bI;simp;omega
           · cases h
         case h_5=>
           split at h
           · cases h
             simp[execOp,b1,ax.bu af,ax.bu b2,eqGuard,binOp,Op.intDiv]
             intro bI;exfalso;revert bI;simp;omega
           · cases h
         all_goals first
           |(cases h;simp[execOp,b1,ax.bu af,ax.bu b2,eqGuard,binOp,Op.intArith,Op.intBits,Op.intCmp];done)
           |cases h
       · simp[uz,ae] at h
     · cases h
   · rename_i b b2
     split at h
     · rename_i c af
       split at h
       · rename_i bh
         have aY:∀ (d:Nat) (w:World),(Op.equalIn (d+1) T (.bool c) (.bool b)).run P w= .ok (c==b) w:=by
           intro d w
           simp[Op.equalIn,fX bh]
         have bm:∀w:World,(Op.equal T (.bool c) (.bool b)).run P w= .ok (c==b) w:=fun w=>by rw[It];exact aY _ w
         split at h
         · cases h
           simp[execOp,b1,ax.bu af,ax.bu b2,eqGuard,binOp,bm]
         · cases h
           simp[execOp,b1,ax.bu af,ax.bu b2,eqGuard,binOp,bm]
         · cases h
       · cases h
     · cases h
   · rename_i b b2
     split at h
     · rename_i c af
       split at h
       · cases h
         have aY:(binOp .eql T (.string c) (.string b)).run P w= .ok (.bool (c.toList==b.toList)) w:=rfl
         simp only[execOp,b1,ax.bu af,ax.bu b2]
         simp[eqGuard,aY]
       · cases h
         have aY:(binOp .neq T (.string c) (.string b)).run P w= .ok (.bool (!(c.toList==b.toList))) w:=rfl
         simp only[execOp,b1,ax.bu af,ax.bu b2]
         simp[eqGuard,aY]
       · cases h
     · cases h
   · rename_i b2
     split at h
     · rename_i p af
       by_cases bh:Bt (P.underlying T)=true
       · rw[bh] at h
         simp only[cond_true] at h
         split at h
         · cases h;simp[execOp,b1,ax.bu af,ax.bu b2,eqGuard,binOp,PL (P:=P) bh]
         · cases h;simp[execOp,b1,ax.bu af,ax.bu b2,eqGuard,binOp,PL (P:=P) bh]
         · cases h
       · simp only[lC] at bh;rw[bh] at h;cases h
     · cases h
   · rename_i l c b2
     split at h
     · rename_i p _ _ af
       by_cases bh:DK (P.underlying T)=true
       · rw[bh] at h
         simp only[cond_true] at h
         split at h
         · cases h;simp[execOp,b1,ax.bu af,ax.bu b2,eqGuard,binOp,PM (P:=P) bh]
         · cases h;simp[execOp,b1,ax.bu af,ax.bu b2,eqGuard,binOp,PM (P:=P) bh]
         · cases h
       · simp only[lC] at bh;rw[bh] at h;cases h
     · cases h
   · cases h
 · rename_i s d x b1
   split at h
   · rename_i k n af
     split at h
     · rename_i mC hd
       by_cases aj:(P.underlying s).isSome=true
       · rw[aj] at h
         cases h
         obtain ⟨ds,q5⟩:=tP _ aj
         simp[execOp,b1,ax.bu af,convert,fX q5,fX hd,Conv.intToInt]
       · simp only[lC] at aj;rw[aj] at h;cases h
     · cases h
   · cases h
 · rename_i args nh b1
   split at h
   · rename_i x T FZ PV
     split at h
     · rename_i p n c el af bh
       cases h
       simp[execOp,b1,resolve,invoke,Go.builtin,Builtin.len_,PV,FZ,fX bh,ax.bu af,goInt]
     · rename_i s af bh
       cases h
       simp[execOp,b1,resolve,invoke,Go.builtin,Builtin.len_,PV,FZ,fX bh,ax.bu af,goInt]
     · cases h
   · cases h
 · rename_i args nh b1
   split at h
   · rename_i x T FZ PV
     split at h
     · rename_i p n c el af bh
       cases h
       simp[execOp,b1,resolve,invoke,Go.builtin,Builtin.cap_,PV,FZ,fX bh,ax.bu af,goInt]
     · cases h
   · cases h
 · cases h
theorem Vz {e:Env} {ds:List Nat} {a c3:Act} (ax:ga e a) (hd:DL e ds=true) (ae:hW ds a c3):ga e c3:=by
 constructor
 intro s v aj
 have hm:∃u,(s,u)∈e:=by
   clear hd ax
   induction e with
   |nil=>cases aj
   |cons p e dw=>
     obtain ⟨k,u⟩:=p
     rw[FV] at aj
     by_cases tH:k=s
     · subst tH;exact ⟨u,by simp⟩
     · rw[if_neg tH] at aj
       obtain ⟨u,hu⟩:=dw aj
       exact ⟨u,by simp[hu]⟩
 obtain ⟨u,hu⟩:=hm
 have U:=Gq.1 hd _ hu
 simp only[zH,Jc] at U
 rw[ae.same s fun qR=>U s qR (Nat.beq_refl s)]
 exact ax.get s v aj
theorem VA {ej:Oper} {e:Env} {a:Act} (ax:ga e a) {r:Bool} (h:xP ej e=some r) (w:World):
   (execOp a.eval ej).run P w= .ok (.value (.bool r)) w:=by
 unfold xP at h
 split at h
 · rename_i x y z b1
   split at h
   · rename_i b ab
     split at h
     · rename_i sJ aU
       cases h
       simp only[execOp,b1,ax.bu ab]
       cases b
       · simp only[cond_false] at aU
         simp[asBool,ax.bu aU]
       · simp only[cond_true] at aU
         simp[asBool,ax.bu aU]
     · cases h
   · cases h
 · cases h
theorem VB {ej:Oper} {e:Env} {a:Act} (ax:ga e a) (h:Bw ops ej e=true):Region.wanted ej (yielded ops a.tmps)=true:=by
 unfold Bw at h
 unfold Region.wanted
 split at h
 · rename_i a7;rw[a7]
 · rename_i j want a7
   rw[a7]
   simp only
   split at h
   · rename_i b ak
     rw[LH ax ak]
     cases b<;>cases want<;>first|rfl|cases h
   · cases h
theorem VC {o:Oper} {e:Env} {s:Nat} {c:Bool} (h:LF ops o e=some (s,c)):e.get s=some (.bool c):=by
 unfold LF at h
 split at h
 · cases h
 · split at h
   · cases h
   · split at h
     · rename_i aj;cases h;exact aj
     · cases h
theorem ga.lit {e:Env} {a:Act} (ax:ga e a) {s:Nat} {v:Value} (h:e.get s=some v):ga ((s,v)::e) a:=by
 constructor
 intro t u aN
 rw[FV] at aN
 by_cases gI:s=t
 · subst gI
   rw[if_pos rfl] at aN
   cases aN
   exact ax.get _ _ h
 · rw[if_neg gI] at aN
   exact ax.get _ _ aN
theorem VD {α:Type} (o:α) (rest:List α) (m:Nat) {ej:α} {h4:List α} (h:rest.drop m=ej::h4):
   o::rest=(o::rest.take m)++(ej::h4):=by
 rw[←h];simp
theorem aro {b c:Bool} {α:Type} {x y z:α} (h:(bif b&&c then x else y)=z) (b2:y≠z):b=true∧c=true∧x=z:=by
 cases b<;>cases c<;>first|exact absurd h b2|exact ⟨rfl,rfl,h⟩
theorem adG:∀ (n:Nat) (l:List Oper) (as:List Bv) (e eH:Env) (a:Act) (w:World),ga e a→(∀d∈cx l,d<a.tmps.size)→
   rW P ops n l as e=some eH→wpList P ops (fun x c3 w'=>x= .normal∧hW (cx l) a c3∧ga eH c3∧w'=w) l a w:=by
 intro n
 induction n with
 |zero=>intro l as e eH a w _ _ h;cases h
 |succ n dw=>
   intro l as e eH a w ax ab h
   have one:∀ (o:Oper) (rest:List Oper) (sA:List Bv),(∀d∈cx (o::rest),d<a.tmps.size)→
       (match zu ops o e (ku P o e) (some undef) with|some v=>rW P ops n rest sA (fQ o.dst v e)|none=>none)=some eH→
       wpList P ops (fun x c3 w'=>x= .normal∧hW (cx (o::rest)) a c3∧ga eH c3∧w'=w) (o::rest) a w:=by
     intro o rest sA ab h
     have DM:∀k,o.dst=some k→k∈cx (o::rest):=fun k ae=>by simp[cx,ae]
     have oH:∀k,k∈cx rest→k∈cx (o::rest):=fun k ae=>by
       simp only[cx,Jh]
       split
       · exact ae
       · exact v5 _ ae
     split at h
     · rename_i v ak
       have next:∀ (c3:Act),c3=a.put o.dst v→wpList P ops (fun x c3 w'=>x= .normal∧hW (cx (o::rest)) a c3∧ga eH c3∧w'=w) rest c3 w:=by
         intro c3 om
         subst om
         have ae:hW (cx (o::rest)) a (a.put o.dst v):=hW.put DM
         have:=dw rest sA (fQ o.dst v e) eH (a.put o.dst v) w (ax.put fun k ae=>ab k (DM k ae)) (fun d hd=>by rw[ae.size];exact ab d (oH d hd)) h
         exact rX (fun x c3 w' ⟨U,ad,ar,aI⟩=>⟨U,ae.trans (ad.mono oH),ar,aI⟩) _ _ _ this
       rcases arn ax ak with ⟨hw,aT⟩|⟨hw,aT⟩
       · simp only[wpList,hw,if_true]
         left
         unfold Oper.wp
         rw[adF ax aT w]
         exact next _ rfl
       · simp only[wpList,hw,n2,if_false]
         cases aT
         exact next _ rfl
     · cases h
   cases l with
   |nil=>
     simp only[rW,Option.some.injEq] at h
     subst h
     exact ⟨rfl, .refl _ _,ax,rfl⟩
   |cons o rest=>
     cases as with
     |nil=>exact one o rest [] ab (by simpa only[rW] using h)
     |cons VE as=>
       cases VE with
       |run=>exact one o rest as ab (by simpa only[rW] using h)
       |split m=>exact one o rest as ab (by simpa only[rW] using h)
       |Vy ks=>exact one o rest as ab (by simpa only[rW] using h)
       |pure m=>
         simp only[rW] at h
         split at h
         · refine one o rest as ab ?_
           cases ak:zu ops o e none (some undef) with
           |none=>rw[ak] at h;cases h
           |some v=>rw[ak] at h;rw[arm ak];exact h
         · rename_i s c ej h4 a7 hd
           split at h
           · rename_i aY bm U ad
             split at h
             · rename_i aq bA k3 fK
               obtain ⟨LJ,LK,h⟩:=aro h (by simp)
               rw[VD o rest (m-1) hd] at ab⊢
               have sm:=VC a7
               refine LG _ _ _ _ ?_
               have iK:∀k,k∈cx (o::rest.take (m-1))→k∈cx ((o::rest.take (m-1))++(ej::h4)):=fun k ae=>by
                 simp only[cx,Ji,fe];exact .inl ae
               have tr:∀k,k∈cx (ej::h4)→k∈cx ((o::rest.take (m-1))++(ej::h4)):=fun k ae=>by
                 simp only[cx,Ji,fe];exact .inr ae
               have DN:∀k,ej.dst=some k→k∈cx (ej::h4):=fun k ae=>by simp[cx,ae]
               have oH:∀k,k∈cx h4→k∈cx (ej::h4):=fun k ae=>by
                 simp only[cx,Jh]
                 split
                 · exact ae
                 · exact v5 _ ae
               have fin:∀ (DO:Env) (r:Bool) (bj:Act),hW (cx (o::rest.take (m-1))) a bj→ga DO bj→xP ej DO=some r→r=cond c aq bA→
                   wpList P ops (fun x c3 w'=>x= .normal∧hW (cx ((o::rest.take (m-1))++(ej::h4))) a c3∧ga eH c3∧w'=w) (ej::h4) bj w:=by
                 intro DO r bj jK ib aT aU
                 have DP:=Vz ax LK jK
                 simp only[wpList,VB DP LJ,if_true]
                 left
                 unfold Oper.wp
                 rw[VA ib aT w]
                 simp only[Oper.upon]
                 have dW:hW (cx (ej::h4)) bj (bj.put ej.dst (.bool r)):=hW.put DN
                 have:=dw h4 (as.drop m) (fQ ej.dst (.bool (cond c aq bA)) e) eH (bj.put ej.dst (.bool r)) w
                   (by rw[aU];exact DP.put fun k ae=>by rw[jK.size];exact ab k (tr k (DN k ae)))
                   (fun d hd=>by rw[dW.size,jK.size];exact ab d (tr d (oH d hd))) h
                 refine rX (fun x c3 w' ⟨aA,aF,aJ,aO⟩=>⟨aA,(jK.mono iK).trans ((dW.mono tr).trans (aF.mono fun k ae=>tr k (oH k ae))),aJ,aO⟩) _ _ _ this
               cases c with
               |true=>
                 have:=dw _ _ _ aY a w (ax.lit sm) (fun d hd=>ab d (iK d hd)) U
                 exact rX (fun x c3 w' ⟨aA,aF,aJ,aO⟩=>⟨aA,by subst aO;exact fin aY aq c3 aF aJ k3 rfl⟩) _ _ _ this
               |false=>
                 have:=dw _ _ _ bm a w (ax.lit sm) (fun d hd=>ab d (iK d hd)) ad
                 exact rX (fun x c3 w' ⟨aA,aF,aJ,aO⟩=>⟨aA,by subst aO;exact fin bm bA c3 aF aJ fK rfl⟩) _ _ _ this
             · cases h
           · cases h
         · cases h
theorem adH:∀ (n:Nat) (l:List Oper) (as:List Bv) (K:Env→World→Prop) (e:Env) (a:Act) (w:World),ga e a→(∀d∈cx l,d<a.tmps.size)→
   mg P aH ops n l as K e w→wpList P ops (nW a (cx l) K) l a w:=by
 intro n
 induction n with
 |zero=>intro l as K e a w _ _ h;cases h
 |succ n dw=>
   intro l as K e a w ax ab h
   have one:∀ (o:Oper) (rest:List Oper) (sA:List Bv),(∀d∈cx (o::rest),d<a.tmps.size)→
       o0 ops o e (tq P aH o (fun v w'=>mg P aH ops n rest sA K (fQ o.dst v e) w') e w) (mg P aH ops n rest sA K (fQ o.dst undef e) w)→
       wpList P ops (nW a (cx (o::rest)) K) (o::rest) a w:=by
     intro o rest sA ab h
     have DM:∀k,o.dst=some k→k∈cx (o::rest):=fun k ae=>by simp[cx,ae]
     have oH:∀k,k∈cx rest→k∈cx (o::rest):=fun k ae=>by
       simp only[cx,Jh]
       split
       · exact ae
       · exact v5 _ ae
     have next:∀ (v:Value) (w':World),mg P aH ops n rest sA K (fQ o.dst v e) w'→wpList P ops (nW a (cx (o::rest)) K) rest (a.put o.dst v) w':=by
       intro v w' h
       have ae:hW (cx (o::rest)) a (a.put o.dst v):=hW.put DM
       have:=dw rest sA K (fQ o.dst v e) (a.put o.dst v) w' (ax.put fun k ae=>ab k (DM k ae)) (fun d hd=>by rw[ae.size];exact ab d (oH d hd)) h
       exact rX (fun x c3 w' ⟨U,ad,ar⟩=>⟨U,ae.trans (ad.mono oH),ar⟩) _ _ _ this
     rcases LI ax h with ⟨hw,aT⟩|⟨hw,aT⟩
     · simp only[wpList,hw,if_true]
       exact .inl ((PT ax aT).wp next)
     · simp only[wpList,hw,n2,if_false]
       exact next _ _ aT
   have arp:∀ (o:Oper) (rest:List Oper) (ks:List p1) (sA:List Bv),(∀d∈cx (o::rest),d<a.tmps.size)→
       o0 ops o e (PU P ks o (fun v w'=>mg P aH ops n rest sA K (fQ o.dst v e) w') e w) (mg P aH ops n rest sA K (fQ o.dst undef e) w)→
       wpList P ops (nW a (cx (o::rest)) K) (o::rest) a w:=by
     intro o rest ks sA ab h
     have DM:∀k,o.dst=some k→k∈cx (o::rest):=fun k ae=>by simp[cx,ae]
     have oH:∀k,k∈cx rest→k∈cx (o::rest):=fun k ae=>by
       simp only[cx,Jh]
       split
       · exact ae
       · exact v5 _ ae
     have next:∀ (v:Value) (w':World),mg P aH ops n rest sA K (fQ o.dst v e) w'→wpList P ops (nW a (cx (o::rest)) K) rest (a.put o.dst v) w':=by
       intro v w' h
       have ae:hW (cx (o::rest)) a (a.put o.dst v):=hW.put DM
       have:=dw rest sA K (fQ o.dst v e) (a.put o.dst v) w' (ax.put fun k ae=>ab k (DM k ae)) (fun d hd=>by rw[ae.size];exact ab d (oH d hd)) h
       exact rX (fun x c3 w' ⟨U,ad,ar⟩=>⟨U,ae.trans (ad.mono oH),ar⟩) _ _ _ this
     rcases LI ax h with ⟨hw,aT⟩|⟨hw,aT⟩
     · simp only[wpList,hw,if_true]
       exact .inl ((arl ax aT).wp next)
     · simp only[wpList,hw,n2,if_false]
       exact next _ _ aT
   cases l with
   |nil=>exact ⟨rfl, .refl _ _,e,ax,h⟩
   |cons o rest=>
     cases as with
     |nil=>exact one o rest [] ab (by simpa only[mg] using h)
     |cons VE as=>
       cases VE with
       |run=>exact one o rest as ab (by simpa only[mg] using h)
       |Vy ks=>exact arp o rest ks as ab (by simpa only[mg] using h)
       |split m=>
         simp only[mg] at h
         split at h
         · exact one o rest as ab (adD h False.elim)
         · rename_i s c ej h4 a7 hd
           obtain ⟨LJ,LK,h⟩:Bw ops ej e=true∧DL e (cx (o::rest.take (m-1)))=true∧_:=by
             cases U:Bw ops ej e<;>cases ad:DL e (cx (o::rest.take (m-1)))<;>rw[U,ad] at h<;>first|exact h.elim|exact ⟨rfl,rfl,h⟩
           rw[VD o rest (m-1) hd] at ab⊢
           have sm:=VC a7
           refine LG _ _ _ _ ?_
           have iK:∀k,k∈cx (o::rest.take (m-1))→k∈cx ((o::rest.take (m-1))++(ej::h4)):=fun k ae=>by
             simp only[cx,Ji,fe];exact .inl ae
           have tr:∀k,k∈cx (ej::h4)→k∈cx ((o::rest.take (m-1))++(ej::h4)):=fun k ae=>by
             simp only[cx,Ji,fe];exact .inr ae
           have DN:∀k,ej.dst=some k→k∈cx (ej::h4):=fun k ae=>by simp[cx,ae]
           have oH:∀k,k∈cx h4→k∈cx (ej::h4):=fun k ae=>by
             simp only[cx,Jh]
             split
             · exact ae
             · exact v5 _ ae
           have fin:∀ (x:Exit) (bj:Act) (ag:World),nW a (cx (o::rest.take (m-1)))
               (fun eH w'=>match xP ej eH with|some r=>mg P aH ops n h4 (as.drop m) K (fQ ej.dst (.bool r) e) w'|none=>False) x bj ag→
               x= .normal∧wpList P ops (nW a (cx ((o::rest.take (m-1))++(ej::h4))) K) (ej::h4) bj ag:=by
             rintro x bj ag ⟨af,jK,DO,ib,h⟩
             refine ⟨af,?_⟩
             have DP:=Vz ax LK jK
             split at h
             · rename_i r aT
               simp only[wpList,VB DP LJ,if_true]
               left
               unfold Oper.wp
               rw[VA ib aT ag]
               simp only[Oper.upon]
               have dW:hW (cx (ej::h4)) bj (bj.put ej.dst (.bool r)):=hW.put DN
               have:=dw h4 (as.drop m) K (fQ ej.dst (.bool r) e) (bj.put ej.dst (.bool r)) ag
                 (DP.put fun k ae=>by rw[jK.size];exact ab k (tr k (DN k ae)))
                 (fun d hd=>by rw[dW.size,jK.size];exact ab d (tr d (oH d hd))) h
               refine rX (fun x c3 w' ⟨aA,aF,aJ⟩=>⟨aA,(jK.mono iK).trans ((dW.mono tr).trans (aF.mono fun k ae=>tr k (oH k ae))),aJ⟩) _ _ _ this
             · exact h.elim
           have h:=h.out
           cases c with
           |true=>
             have:=dw _ _ _ _ a w (ax.lit sm) (fun d hd=>ab d (iK d hd)) (h.1 rfl)
             exact rX fin _ _ _ this
           |false=>
             have:=dw _ _ _ _ a w (ax.lit sm) (fun d hd=>ab d (iK d hd)) (h.2 rfl)
             exact rX fin _ _ _ this
         · exact h.elim
       |pure m=>
         simp only[mg] at h
         split at h
         · exact one o rest as ab (adD h False.elim)
         · rename_i s c ej h4 a7 hd
           split at h
           · rename_i aY bm U ad
             split at h
             · rename_i aq bA k3 fK
               obtain ⟨LJ,LK,h⟩:Bw ops ej e=true∧DL e (cx (o::rest.take (m-1)))=true∧_:=by
                 cases aA:Bw ops ej e<;>cases aF:DL e (cx (o::rest.take (m-1)))<;>rw[aA,aF] at h<;>first|exact h.elim|exact ⟨rfl,rfl,h⟩
               rw[VD o rest (m-1) hd] at ab⊢
               have sm:=VC a7
               refine LG _ _ _ _ ?_
               have iK:∀k,k∈cx (o::rest.take (m-1))→k∈cx ((o::rest.take (m-1))++(ej::h4)):=fun k ae=>by
                 simp only[cx,Ji,fe];exact .inl ae
               have tr:∀k,k∈cx (ej::h4)→k∈cx ((o::rest.take (m-1))++(ej::h4)):=fun k ae=>by
                 simp only[cx,Ji,fe];exact .inr ae
               have DN:∀k,ej.dst=some k→k∈cx (ej::h4):=fun k ae=>by simp[cx,ae]
               have oH:∀k,k∈cx h4→k∈cx (ej::h4):=fun k ae=>by
                 simp only[cx,Jh]
                 split
                 · exact ae
                 · exact v5 _ ae
               have fin:∀ (DO:Env) (r:Bool) (bj:Act),hW (cx (o::rest.take (m-1))) a bj→ga DO bj→xP ej DO=some r→r=cond c aq bA→
                   wpList P ops (nW a (cx ((o::rest.take (m-1))++(ej::h4))) K) (ej::h4) bj w:=by
                 intro DO r bj jK ib aT aU
                 have DP:=Vz ax LK jK
                 simp only[wpList,VB DP LJ,if_true]
                 left
                 unfold Oper.wp
                 rw[VA ib aT w]
                 simp only[Oper.upon]
                 have dW:hW (cx (ej::h4)) bj (bj.put ej.dst (.bool r)):=hW.put DN
                 have:=dw h4 (as.drop m) K (fQ ej.dst (.bool (cond c aq bA)) e) (bj.put ej.dst (.bool r)) w
                   (by rw[aU];exact DP.put fun k ae=>by rw[jK.size];exact ab k (tr k (DN k ae)))
                   (fun d hd=>by rw[dW.size,jK.size];exact ab d (tr d (oH d hd))) h
                 refine rX (fun x c3 w' ⟨aA,aF,aJ⟩=>⟨aA,(jK.mono iK).trans ((dW.mono tr).trans (aF.mono fun k ae=>tr k (oH k ae))),aJ⟩) _ _ _ this
               cases c with
               |true=>
                 have:=adG n _ _ _ aY a w (ax.lit sm) (fun d hd=>ab d (iK d hd)) U
                 exact rX (fun x c3 w' ⟨aA,aF,aJ,aO⟩=>⟨aA,by subst aO;exact fin aY aq c3 aF aJ k3 rfl⟩) _ _ _ this
               |false=>
                 have:=adG n _ _ _ bm a w (ax.lit sm) (fun d hd=>ab d (iK d hd)) ad
                 exact rX (fun x c3 w' ⟨aA,aF,aJ,aO⟩=>⟨aA,by subst aO;exact fin bm bA c3 aF aJ fK rfl⟩) _ _ _ this
             · exact h.elim
           · exact h.elim
         · exact h.elim
end
end b7
namespace b7
open Go
structure ao (W:Nat→Prop) (w w':World):Prop where
 os:w'.os=w.os
 tape:w'.tape=w.tape
 output:w'.output=w.output
 size:w.heap.size≤w'.heap.size
 block:∀k,k<w.heap.size→¬W k→w'.heap[k]? =w.heap[k]?
theorem ao.refl (W:Nat→Prop) (w:World):ao W w w:=⟨rfl,rfl,rfl,cP _,fun _ _ _=>rfl⟩
theorem ao.trans {W:Nat→Prop} {a b c:World} (h:ao W a b) (k:ao W b c):ao W a c:=
 ⟨k.os.trans h.os,k.tape.trans h.tape,k.output.trans h.output,iT h.size k.size,fun i hi hw=>(k.block i (lg hi h.size) hw).trans (h.block i hi hw)⟩
theorem ao.mono {W V:Nat→Prop} {a b:World} (h:ao W a b) (ak:∀k,k<a.heap.size→W k→V k):ao V a b:=
 ⟨h.os,h.tape,h.output,h.size,fun i hi hw=>h.block i hi fun dK=>hw (ak i hi dK)⟩
theorem ao.cell {W:Nat→Prop} {w w':World} (h:ao W w w') {A:Addr} (dK:¬W A.block) {v:Value} (ak:w.cell? A=some v):w'.cell? A=some v:=by
 have ab:A.block<w.heap.size:=by
   rcases hE A.block w.heap.size with U|U
   · exact U
   · simp[World.cell?,Array.getElem?_eq_none U] at ak
 unfold World.cell? at ak⊢
 rw[h.block _ ab dK]
 exact ak
theorem ao.ey {W:Nat→Prop} {w w':World} (h:ao W w w') {A:Addr} (dK:¬W A.block):∀ (n i:Nat) (vs:List Value),ey w A i n=some vs→ey w' A i n=some vs
 |0,_,_,ak=>ak
 |n+1,i,vs,ak=>by
   simp only[b7.ey] at ak⊢
   have x9:(A.add i).block=A.block:=by unfold Addr.add;split<;>rfl
   cases U:w.cell? (A.add i) with
   |none=>simp[U] at ak
   |some v=>
     cases ad:b7.ey w A (i+1) n with
     |none=>simp[U,ad] at ak
     |some us=>
       simp only[U,ad] at ak
       rw[h.cell (by rw[x9];exact dK) U,ao.ey h dK n (i+1) us ad]
       exact ak
def mh {α:Type}:Sem α→Prop
 | .pure _=>True
 | .program k=>∀p,mh (k p)
 | .halt _=>True
 |_=>False
theorem mh.bind {α β:Type}:∀ {s:Sem α} {f:α→Sem β},mh s→(∀a,mh (f a))→mh (s>>=f)
 | .pure a,_,_,aG=>aG a
 | .program _,_,h,aG=>fun p=>mh.bind (h p) aG
 | .halt _,_,_,_=>trivial
 | .load ..,_,h,_=>h.elim
 | .store ..,_,h,_=>h.elim
 | .new ..,_,h,_=>h.elim
 | .shape ..,_,h,_=>h.elim
 | .freeze ..,_,h,_=>h.elim
 | .frozen ..,_,h,_=>h.elim
 | .getObj ..,_,h,_=>h.elim
 | .setObj ..,_,h,_=>h.elim
 | .choose ..,_,h,_=>h.elim
 | .sys ..,_,h,_=>h.elim
 | .mark ..,_,h,_=>h.elim
theorem mh.run {α:Type} {P:Program}:∀ {s:Sem α} {w w':World} {v:α},mh s→s.run P w= .ok v w'→∀u,s.run P u= .ok v u
 | .pure a,w,w',v,_,h,u=>by
   simp only[Sem.run,Result.ok.injEq] at h⊢
   exact ⟨h.1,trivial⟩
 | .program k,w,w',v,aG,h,u=>mh.run (aG P) h u
 | .halt _,w,w',v,_,h,_=>by simp[Sem.run] at h
 | .load ..,_,_,_,h,_,_=>h.elim
 | .store ..,_,_,_,h,_,_=>h.elim
 | .new ..,_,_,_,h,_,_=>h.elim
 | .shape ..,_,_,_,h,_,_=>h.elim
 | .freeze ..,_,_,_,h,_,_=>h.elim
 | .frozen ..,_,_,_,h,_,_=>h.elim
 | .getObj ..,_,_,_,h,_,_=>h.elim
 | .setObj ..,_,_,_,h,_,_=>h.elim
 | .choose ..,_,_,_,h,_,_=>h.elim
 | .sys ..,_,_,_,h,_,_=>h.elim
 | .mark ..,_,_,_,h,_,_=>h.elim
theorem adI:mh program:=fun _=>trivial
theorem adJ (t:TypeId):mh (underlying t):=by
 unfold underlying
 refine mh.bind adI fun p=> ?_
 split<;>trivial
theorem arq (t:TypeId):mh (typeInfo t):=by
 unfold typeInfo
 refine mh.bind adI fun p=> ?_
 split<;>trivial
theorem ars (t:TypeId):mh (Go.sizeOf t):=mh.bind (arq t) fun _=>trivial
theorem art (t:TypeId):mh (isAgg t):=by
 unfold isAgg
 refine mh.bind (adJ t) fun d=> ?_
 split<;>trivial
theorem aru (t:TypeId) (cs:Array Value) (off:Nat):mh (part t cs off):=by
 unfold part
 refine mh.bind (art t) fun d=> ?_
 split
 · exact mh.bind (ars t) fun _=>trivial
 · split<;>trivial
theorem arv (t:TypeId) (x:Value) (i:Nat):mh (Instr.field t x i):=by
 unfold Instr.field
 refine mh.bind (adJ t) fun d=> ?_
 split
 · split
   · refine mh.bind ?_ fun _=>aru _ _ _
     unfold asAgg;split<;>trivial
   · trivial
 · trivial
def adK:Op→Bool
 | .move _=>true
 | .assign _=>true
 | .pick _ _ _=>true
 | .field _ _ _=>true
 |_=>false
def LL (P:Program) (o:Oper) (K:Value→Prop) (e:Env) (w:World):Prop:=
 bif adK o.op&&known e o.op.operands then
   match (execOp (ro e) o).run P w with
   | .ok (.value v) _=>K v
   |_=>False
 else False
def Ix (P:Program) (o:Oper) (K:Value→Prop) (e:Env):Prop:=
 match ku P o e with
 |some v=>K v
 |none=>False
def adL (P:Program) (T:TypeId) (x:Value) (i:Nat) (K:Value→Prop):Prop:=
 match P.underlying T with
 |some (.struct fs)=>match fs[i]? with
   |some f=>match x with
     | .pointer (some A)=>match P.underlying f.type with
       |some _=>bif Nat.beq (P.cellsOf f.type) 0 then False else K (.pointer (some (A.add f.offset)))
       |none=>False
     |_=>False
   |none=>False
 |_=>False
def adM (x:Value) (i:Nat) (K:Value→Prop):Prop:=
 match x with
 | .tuple vs=>match vs[i]? with
   |some v=>K v
   |none=>False
 |_=>False
def tu (o:Oper):Bool:=
 match o.op with
 | .load _ _=>true
 | .convert _ _ _=>true
 |_=>false
def xQ:Nat→List Oper→Nat
 |_,[]=>0
 |i,o::l=>bif tu o then 2^i|||xQ (i+1) l else xQ (i+1) l
def VF (P:Program) (aH:TypeId→jW) (W:Nat→Prop) (w:World) (o:Oper) (K:Value→Prop) (e:Env):Prop:=
 match o.op with
 | .nilCheck x=>match bu e x with
   |some (.pointer p)=>∃A,p=some A∧K (.pointer (some A))
   |_=>False
 | .load T x=>match bu e x with
   |some (.pointer (some A))=>¬W A.block∧Ir P aH T A w K
   |_=>False
 | .binOp op T x y _=>match bu e x,bu e y with
   |some fR,some vR=>bif Iv y vR then PK P op T fR vR K (Ix P o K e) else False
   |_,_=>False
 | .indexAddr T x i=>match bu e x,bu e i with
   |some fR,some pn=>PO P T fR pn K
   |_,_=>False
 | .index T x i=>match bu e x,bu e i with
   |some fR,some pn=>PQ P aH T fR pn K
   |_,_=>False
 | .field T x i=>match bu e x with
   |some fR=>PR P aH T fR i K
   |_=>False
 | .fieldAddr T x i=>match bu e x with
   |some fR=>adL P T fR i K
   |_=>False
 | .extract x i=>match bu e x with
   |some fR=>adM fR i K
   |_=>False
 | .slice T x lo hi vP=>bif known e o.op.operands then
     PS P T (ro e x) (lo.map (ro e)) (hi.map (ro e)) (vP.map (ro e)) K
   else False
 | .convert s d x=>match bu e x with
   |some (.int _ _)=>Ix P o K e
   |some v=>ql (aH o.type) fun r=>(∀w',ao W w w'→(convert s d v).run P w'= .ok r w')∧K r
   |none=>False
 | .build t ps=>bif known e o.op.operands then
     ∃cs:Array Value,(∀w',(Instr.build t (ps.map fun p=>(p.1,ro e p.2))).run P w'= .ok (.agg cs) w')∧K (.agg cs)
   else False
 | .unOp _ _ _=>Ix P o K e
 | .call _=>Ix P o K e
 | .move _=>LL P o K e w
 | .assign _=>LL P o K e w
 | .pick _ _ _=>LL P o K e w
 | .sliceToArrayPointer T x=>match bu e x with
   |some fR=>PN P T fR K
   |_=>False
 |_=>False
section
variable {P:Program} {aH:TypeId→jW} {W:Nat→Prop} {o:Oper} {K:Value→Prop} {e:Env} {a:Act} {w:World}
theorem VG (ax:ga e a) (h:LL P o K e w):∃v,(∀w',(execOp a.eval o).run P w'= .ok (.value v) w')∧K v:=by
 unfold LL at h
 cases aG:adK o.op with
 |false=>rw[aG] at h;exact h.elim
 |true=>
   cases ae:known e o.op.operands with
   |false=>rw[aG,ae] at h;exact h.elim
   |true=>
     rw[aG,ae] at h
     simp only[Bool.and_self,cond_true] at h
     have al:=vS ax (by cases b1:o.op<;>rw[b1] at aG<;>first|rfl|cases aG) ae
     rw[al]
     split at h
     · rename_i v w' aU
       refine ⟨v,fun u=>mh.run ?_ aU u,h⟩
       cases b1:o.op<;>rw[b1] at aG<;>first|(cases aG;done)|skip
       · simp only[execOp,b1];trivial
       · simp only[execOp,b1];trivial
       · simp only[execOp,b1]
         refine mh.bind ?_ fun _=>trivial
         unfold asBool;split<;>trivial
       · simp only[execOp,b1]
         exact mh.bind (arv _ _ _) fun _=>trivial
     · exact h.elim
theorem PW (ax:ga e a) (h:Ix P o K e):∃v,(∀w',(execOp a.eval o).run P w'= .ok (.value v) w')∧K v:=by
 unfold Ix at h
 split at h
 · rename_i v ak
   exact ⟨v,adF ax ak,h⟩
 · exact h.elim
theorem arw (ax:ga e a) (h:VF P aH W w o K e):∃v,(∀w',(tu o=true→ao W w w')→(execOp a.eval o).run P w'= .ok (.value v) w')∧K v:=by
 have bw:(∃v,(∀w',(execOp a.eval o).run P w'= .ok (.value v) w')∧K v)→∃v,(∀w',(tu o=true→ao W w w')→(execOp a.eval o).run P w'= .ok (.value v) w')∧K v:=
   fun ⟨v,U,ad⟩=>⟨v,fun w' _=>U w',ad⟩
 unfold VF at h
 split at h
 case h_1 x b1=>
   split at h
   · rename_i p af
     obtain ⟨A,rfl,bk⟩:=h
     exact ⟨_,fun w' _=>by simp[execOp,b1,ax.bu af],bk⟩
   · exact h.elim
 case h_2 T x b1=>
   split at h
   · rename_i A af
     obtain ⟨dK,h⟩:=h
     have key:∃v,(∀w',ao W w w'→(Instr.loadAt T (.pointer (some A))).run P w'= .ok v w')∧K v:=by
       have aY:∀w',(Instr.loadAt T (.pointer (some A))).run P w'=(loadVar T A).run P w':=fun w'=>by simp[Instr.loadAt,Instr.sureAddr]
       unfold Ir at h
       split at h
       · exact h.elim
       · rename_i d bh
         cases hd:zt d with
         |true=>
           rw[hd] at h
           simp only[cond_true] at h
           split at h
           · rename_i ls _
             by_cases ab:Nat.beq (P.cellsOf T) ls.length=true
             · rw[ab] at h
               simp only[cond_true] at h
               obtain ⟨vs,kp,h⟩:=Vv h
               rw[←qt ab] at kp
               exact ⟨_,fun w' al=>by rw[aY,PJ bh hd (al.ey dK _ _ _ kp)],h⟩
             · simp only[lC] at ab;rw[ab] at h;exact h.elim
           · obtain ⟨cs,fj,h⟩:=h
             exact ⟨_,fun w' al=>by rw[aY,PJ bh hd (al.ey dK _ _ _ fj)],h⟩
         |false=>
           rw[hd] at h
           simp only[cond_false] at h
           split at h
           · obtain ⟨v,ak,h⟩:=Iq h
             exact ⟨v,fun w' al=>by rw[aY,adi bh hd (al.cell dK ak)],h⟩
           · exact h.elim
     obtain ⟨v,ak,bk⟩:=key
     exact ⟨v,fun w' al=>by simp[execOp,b1,ax.bu af,ak w' (al (by unfold tu;rw[b1]))],bk⟩
   · exact h.elim
 case h_3 op T x y adC b1=>
   split at h
   · rename_i fR vR af b2
     by_cases aD:Iv y vR=true
     · rw[aD] at h
       simp only[cond_true] at h
       have Lp:vR= .nilIface→∃c,y= .const c:=by
         intro ak
         subst ak
         cases y<;>simp[Iv] at aD⊢
       rcases adp (LA:=x) (Iu:=y) Lp h with a7|⟨v,ak,bk⟩
       · exact bw (PW ax a7)
       · exact ⟨v,fun w' _=>by
           simp only[execOp,b1,ax.bu af,ax.bu b2]
           have qH:=ak w'
           simp only[Sem.run_bind] at qH⊢
           rw[qH];rfl,bk⟩
     · simp only[lC] at aD;rw[aD] at h;exact h.elim
   · exact h.elim
 case h_4 T x i b1=>
   split at h
   · rename_i fR pn af hi
     obtain ⟨v,ak,bk⟩:=adr h
     exact ⟨v,fun w' _=>by simp[execOp,b1,ax.bu af,ax.bu hi,ak],bk⟩
   · exact h.elim
 case h_5 T x i b1=>
   split at h
   · rename_i fR pn af hi
     obtain ⟨v,ak,bk⟩:=adt h
     exact ⟨v,fun w' _=>by simp[execOp,b1,ax.bu af,ax.bu hi,ak],bk⟩
   · exact h.elim
 case h_6 T x i b1=>
   split at h
   · rename_i fR af
     obtain ⟨v,ak,bk⟩:=adu h
     exact ⟨v,fun w' _=>by simp[execOp,b1,ax.bu af,ak],bk⟩
   · exact h.elim
 case h_7 T x i b1=>
   split at h
   · rename_i fR af
     unfold adL at h
     split at h
     · rename_i fs bh
       split at h
       · rename_i f aG
         split at h
         · rename_i A
           split at h
           · rename_i d hd
             cases bI:Nat.beq (P.cellsOf f.type) 0 with
             |true=>rw[bI] at h;exact h.elim
             |false=>
               rw[bI] at h
               have HB:¬P.cellsOf f.type=0:=fun b3=>by rw[b3] at bI;cases bI
               exact ⟨_,fun w' _=>by simp[execOp,b1,ax.bu af,Instr.fieldAt,fX bh,aG,Instr.sureAddr,fieldPlace,qy hd,HB],h⟩
           · exact h.elim
         · exact h.elim
       · exact h.elim
     · exact h.elim
   · exact h.elim
 case h_8 x i b1=>
   split at h
   · rename_i fR af
     unfold adM at h
     split at h
     · rename_i vs
       split at h
       · rename_i v ak
         exact ⟨v,fun w' _=>by simp[execOp,b1,ax.bu af,Instr.extract,ak],h⟩
       · exact h.elim
     · exact h.elim
   · exact h.elim
 case h_9 T x lo hi vP b1=>
   by_cases ae:known e o.op.operands=true
   · rw[ae] at h
     simp only[cond_true] at h
     have al:=vS ax (by rw[b1];rfl) ae
     obtain ⟨v,ak,bk⟩:=adv h
     exact ⟨v,fun w' _=>by rw[al];simp[execOp,b1,ak],bk⟩
   · simp only[lC] at ae;rw[ae] at h;exact h.elim
 case h_10 s d x b1=>
   split at h
   · exact bw (PW ax h)
   · rename_i v _ af
     obtain ⟨r,aU,bk⟩:=q6 h
     exact ⟨r,fun w' al=>by simp[execOp,b1,ax.bu af,aU w' (al (by unfold tu;rw[b1]))],bk⟩
   · exact h.elim
 case h_11 t ps b1=>
   by_cases ae:known e o.op.operands=true
   · rw[ae] at h
     simp only[cond_true] at h
     have al:=vS ax (by rw[b1];rfl) ae
     obtain ⟨cs,aU,bk⟩:=h
     exact ⟨_,fun w' _=>by rw[al];simp[execOp,b1];rw[aU];rfl,bk⟩
   · simp only[lC] at ae;rw[ae] at h;exact h.elim
 case h_12=>exact bw (PW ax h)
 case h_13=>exact bw (PW ax h)
 case h_14=>exact bw (VG ax h)
 case h_15=>exact bw (VG ax h)
 case h_16=>exact bw (VG ax h)
 case h_17 T x b1=>
   split at h
   · rename_i fR af
     obtain ⟨v,ak,bk⟩:=adq h
     exact ⟨v,fun w' _=>by simp[execOp,b1,ax.bu af,ak],bk⟩
   · exact h.elim
 case h_18=>exact h.elim
end
inductive aX where
 |take (i:Nat) (t:aX)
 |cH (i:Nat) (t:aX)
 |out (i:Nat) (b:Bool) (t:aX)
 |two (i:Nat) (t:aX) (j:Nat) (u:aX)
 |three (i:Nat) (t:aX) (j:Nat) (u:aX) (k:Nat) (v:aX)
 |sp (s:Nat) (t u:aX)
 |fin
 |tail (as:List Bv)
def qm:List Nat→Nat
 | []=>0
 |d::l=>2^d|||qm l
theorem Bx:∀ (l:List Nat) (k:Nat),(qm l).testBit k=decide (k∈l)
 | [],k=>by simp[qm]
 |d::l,k=>by
   simp only[qm,BS,Bx l k,Je]
   by_cases h:d=k
   · subst h;simp
   · have:¬k=d:=fun p9=>h p9.symm
     simp[h,this]
def DQ (o:Oper):List Nat:=(o.after.toList.filter fun e=>Region.binds .any e).map (·.on)
structure vT where
 M:List Nat
 A:List Nat
def vU (l:List Nat) (i:Nat):Nat:=l.getD i 0
def vV (cJ:vT) (m i:Nat):Bool:= !(m.testBit i)&&Nat.beq (vU cJ.M i&&&m) (vU cJ.M i)
def adN (cJ:vT) (N m i:Nat):Bool:=Nat.beq (vU cJ.A i&&&((2^N-1)^^^m)) 0
def xR (cJ:vT) (m:Nat) (is:List Nat):Nat→Bool
 |0=>true
 |k+1=>(is.any (Nat.beq k)|| !(vV cJ m k))&&xR cJ m is k
def LM (cJ:vT):Nat→List Oper→Bool
 |_,[]=>true
 |i,o::l=>Nat.beq (qm (DQ o)) (vU cJ.M i)&&LM cJ (i+1) l
def LN (M:List Nat) (F0 i F1 F2:Nat):Nat→List Nat→List Nat→List Nat→Bool
 |j,Iy::Iz,DR::uA,IA::uB=>(F0.testBit j||(Nat.beq i j||(Iy.testBit i||(Nat.beq (F1&&&(IA|||DR)) 0&&Nat.beq (DR&&&F2) 0))))&&LN M F0 i F1 F2 (j+1) Iz uA uB
 |_,_,_,_=>true
def PX (cJ:vT) (D K:List Nat):Nat→List Nat→List Nat→Bool
 |i,d::uA,k::uB=>LN cJ.M (vU cJ.A i) i d k 0 cJ.M D K&&PX cJ D K (i+1) uA uB
 |_,_,_=>true
def adO (ops:List Oper):List Nat:=ops.map fun o=>qm o.dst.toList
def adP (F3:Array Oper) (ops:List Oper):List Nat:=ops.map fun o=>qm (o.looksAt F3)
def LO:List Nat→List Nat→Bool
 | [],[]=>true
 |a::l,b::r=>Nat.beq a b&&LO l r
 |_,_=>false
theorem VH:∀ {l r:List Nat},LO l r=true→l=r
 | [],[],_=>rfl
 |a::l,b::r,h=>by
   simp only[LO,jw] at h
   rw[qt h.1,VH h.2]
def zv (cJ:vT) (D K:List Nat) (F3:Array Oper):Bool:=
 Nat.beq cJ.M.length F3.size&&(LM cJ 0 F3.toList&&(LO (adO F3.toList) D&&(LO (adP F3 F3.toList) K&&PX cJ D K 0 D K)))
def LP (cJ:vT):Nat→Nat→Nat→Nat→Bool
 |0,_,N,m=>xR cJ m [] N
 |g+1,k,N,m=>(vV cJ m k&&xR cJ m [k] N)&&LP cJ g (k+1) N (m|||2^k)
def hC (P:Program) (aH:TypeId→jW) (ops:Array Oper) (n:Nat) (cJ:vT) (W:Nat→Prop):aX→Nat→Nat→(Env→World→Prop)→Env→World→Prop
 | .take i t,f+1,m,K,e,w=>
   bif vV cJ m i&&(adN cJ ops.size m i&&Nat.blt i n) then
     match ops[i]? with
     |some o=>o0 ops o e (VF P aH W w o (fun v=>hC P aH ops n cJ W t f (m|||2^i) K (fQ o.dst v e) w) e) (hC P aH ops n cJ W t f (m|||2^i) K (fQ o.dst undef e) w)
     |none=>False
   else False
 | .cH i t,f+1,m,K,e,w=>
   bif (vV cJ m i&&xR cJ m [i] ops.size)&&Nat.blt i n then
     match ops[i]? with
     |some o=>o0 ops o e (tq P aH o (fun v w'=>ao W w w'∧hC P aH ops n cJ W t f (m|||2^i) K (fQ o.dst v e) w') e w) (hC P aH ops n cJ W t f (m|||2^i) K (fQ o.dst undef e) w)
     |none=>False
   else False
 | .out i b t,f+1,m,K,e,w=>
   bif (vV cJ m i&&xR cJ m [i] ops.size)&&(Nat.blt i n&&Nat.beq ((xQ 0 ops.toList&&&m)&&&vU cJ.M i) (xQ 0 ops.toList&&&m)) then
     match ops[i]? with
     |some o=>o0 ops o e (tq P aH o (fun v w'=>bif b then ∃V:Nat→Prop,hC P aH ops n cJ V t f (m|||2^i) K (fQ o.dst v e) w' else hC P aH ops n cJ W t f (m|||2^i) K (fQ o.dst v e) w') e w) (hC P aH ops n cJ W t f (m|||2^i) K (fQ o.dst undef e) w)
     |none=>False
   else False
 | .two i t j u,f+1,m,K,e,w=>
   bif (vV cJ m i&&xR cJ m [i,j] ops.size)&&(Nat.blt i n&&Nat.blt j n) then
     match ops[i]?,ops[j]? with
     |some o,some q=>
       o0 ops o e (tq P aH o (fun v w'=>ao W w w'∧hC P aH ops n cJ W t f (m|||2^i) K (fQ o.dst v e) w') e w) (hC P aH ops n cJ W t f (m|||2^i) K (fQ o.dst undef e) w)∧
       o0 ops q e (tq P aH q (fun v w'=>ao W w w'∧hC P aH ops n cJ W u f (m|||2^j) K (fQ q.dst v e) w') e w) (hC P aH ops n cJ W u f (m|||2^j) K (fQ q.dst undef e) w)
     |_,_=>False
   else False
 | .three i t j u k x,f+1,m,K,e,w=>
   bif (vV cJ m i&&xR cJ m [i,j,k] ops.size)&&(Nat.blt i n&&(Nat.blt j n&&Nat.blt k n)) then
     match ops[i]?,ops[j]?,ops[k]? with
     |some o,some q,some r=>
       o0 ops o e (tq P aH o (fun v w'=>ao W w w'∧hC P aH ops n cJ W t f (m|||2^i) K (fQ o.dst v e) w') e w) (hC P aH ops n cJ W t f (m|||2^i) K (fQ o.dst undef e) w)∧
       o0 ops q e (tq P aH q (fun v w'=>ao W w w'∧hC P aH ops n cJ W u f (m|||2^j) K (fQ q.dst v e) w') e w) (hC P aH ops n cJ W u f (m|||2^j) K (fQ q.dst undef e) w)∧
       o0 ops r e (tq P aH r (fun v w'=>ao W w w'∧hC P aH ops n cJ W x f (m|||2^k) K (fQ r.dst v e) w') e w) (hC P aH ops n cJ W x f (m|||2^k) K (fQ r.dst undef e) w)
     |_,_,_=>False
   else False
 | .sp s t u,f,m,K,e,w=>
   match e.get s with
   |some (.bool c)=>(c=true→hC P aH ops n cJ W t f m K ((s, .bool true)::e) w)∧(c=false→hC P aH ops n cJ W u f m K ((s, .bool false)::e) w)
   |_=>False
 | .fin,0,m,K,e,w=>bif xR cJ m [] ops.size&&Nat.beq n ops.size then K e w else False
 | .tail as,0,m,K,e,w=>bif LP cJ (ops.size-n) n ops.size m&&Nat.blt n ops.size then mg P aH ops (ops.size-n+1) (ops.toList.drop n) as K e w else False
 |_,_,_,_,_,_=>False
def iR (N m:Nat):Array Bool:=(Array.range N).map fun i=>m.testBit i
theorem IB {N m i:Nat} {d:Bool} (h:i<N):(iR N m).getD i d=m.testBit i:=by
 simp[iR,h]
theorem arx {N m i:Nat} {d:Bool} (h:N≤i):(iR N m).getD i d=d:=by
 simp[iR,h]
theorem PY (N m i:Nat):(iR N m).setIfInBounds i true=iR N (m|||2^i):=by
 apply Array.ext
 · simp[iR]
 · intro j U ad
   have a6:j<N:=by simpa[iR] using ad
   have ar:j<(iR N m).size:=by simpa[iR] using a6
   rw[Array.getElem_setIfInBounds ar]
   simp only[iR,Array.getElem_map,Array.getElem_range,BS,Je]
   by_cases UU:i=j
   · subst UU;simp
   · simp[UU]
theorem adQ (N:Nat):iR N 0=Array.replicate N false:=by
 apply Array.ext
 · simp[iR]
 · intro j U ad
   simp[iR]
section
variable {ops:Array Oper} {cJ:vT} {D K:List Nat}
theorem adR:∀ (l:List Oper) (i k:Nat) (o:Oper),LM cJ i l=true→l[k]? =some o→vU cJ.M (i+k)=qm (DQ o)
 | [],_,_,_,_,h=>by simp at h
 |p::l,i,0,o,al,h=>by
   simp only[LM,jw] at al
   simp only[zL,Option.some.injEq] at h
   subst h
   exact (qt al.1).symm
 |p::l,i,k+1,o,al,h=>by
   simp only[LM,jw] at al
   have:=adR l (i+1) k o al.2 (by simpa using h)
   rw[show i+(k+1)=i+1+k by omega]
   exact this
theorem PZ (h:zv cJ D K ops=true) {i:Nat} {o:Oper} (bJ:ops[i]? =some o):vU cJ.M i=qm (DQ o):=by
 simp only[zv,jw] at h
 have:=adR ops.toList 0 i o h.2.1 (by simpa using bJ)
 simpa using this
theorem adS {a b:Nat} (h:a&&&b=a) {k:Nat} (ae:a.testBit k=true):b.testBit k=true:=by
 have:=congrArg (fun x=>x.testBit k) h
 simp only[Nat.testBit_and,ae,Eh] at this
 exact this
theorem adT:∀ (l:List Oper) (i k:Nat) (o:Oper),l[k]? =some o→(xQ i l).testBit (i+k)=tu o
 | [],_,_,_,h=>by simp at h
 |p::l,i,0,o,h=>by
   simp only[zL,Option.some.injEq] at h
   subst h
   have low:∀ (l:List Oper) (i k:Nat),k<i→(xQ i l).testBit k=false:=by
     intro l
     induction l with
     |nil=>intro i k _;simp[xQ]
     |cons q l dw=>
       intro i k ae
       simp only[xQ]
       cases tu q
       · exact dw (i+1) k (by omega)
       · simp only[cond_true,BS,Je,dw (i+1) k (by omega),Bool.or_false,tE]
         omega
   simp only[xQ,zE]
   cases tu p
   · exact low l (i+1) i (by omega)
   · simp[BS]
 |p::l,i,k+1,o,h=>by
   have:=adT l (i+1) k o (by simpa using h)
   rw[show i+1+k=i+(k+1) by omega] at this
   simp only[xQ]
   cases tu p
   · exact this
   · simp only[cond_true,BS,Je,this]
     simp
theorem P0 {o:Oper} {k:Nat}:k∈DQ o↔∃e∈o.after,Region.binds .any e=true∧e.on=k:=by
 simp only[DQ,p4,Gi,Array.mem_toList_iff]
 constructor
 · rintro ⟨e,⟨U,ad⟩,ar⟩;exact ⟨e,U,ad,ar⟩
 · rintro ⟨e,U,ad,ar⟩;exact ⟨e,⟨U,ad⟩,ar⟩
def Small (N m:Nat):Prop:=∀k,N≤k→m.testBit k=false
theorem ary (N:Nat):Small N 0:=fun k _=>by simp
theorem P1 {N m i:Nat} (h:Small N m) (hi:i<N):Small N (m|||2^i):=fun k ae=>by
 simp only[BS,h k ae,Je,Gs,tE]
 omega
theorem P2 (al:zv cJ D K ops=true) {m i:Nat} (hm:Small ops.size m):i∈Region.ready .any ops (iR ops.size m)↔i<ops.size∧vV cJ m i=true:=by
 rw[mem_ready]
 constructor
 · rintro ⟨U,o,bJ,gJ⟩
   have hi:i<ops.size:=(Jj.1 bJ).1
   refine ⟨hi,?_⟩
   rw[IB hi] at U
   simp only[vV,U,Bool.not_false,Eh]
   rw[PZ al bJ]
   have:qm (DQ o)&&&m=qm (DQ o):=by
     apply Nat.eq_of_testBit_eq
     intro k
     simp only[Nat.testBit_and,Bx]
     by_cases ae:k∈DQ o
     · obtain ⟨e,he,ab,LQ⟩:=P0.1 ae
       have ad:=gJ e he ab
       rw[LQ] at ad
       rcases hE k ops.size with a9|cm
       · rw[IB a9] at ad;simp[ae,ad]
       · rw[arx cm] at ad;cases ad
     · simp[ae]
   rw[this];exact Nat.beq_refl _
 · rintro ⟨hi,h⟩
   simp only[vV,jw,zH] at h
   have bJ:ops[i]? =some ops[i]:=by simp[hi]
   refine ⟨by rw[IB hi];exact h.1,ops[i],bJ,fun e he ab=> ?_⟩
   have ad:=qt h.2
   rw[PZ al bJ] at ad
   have ar:m.testBit e.on=true:=adS ad (by
     rw[Bx];simp only[fI];exact P0.2 ⟨e,he,ab,rfl⟩)
   have a9:e.on<ops.size:=by
     rcases hE e.on ops.size with h|h
     · exact h
     · rw[hm _ h] at ar;cases ar
   rw[IB a9];exact ar
theorem adU:∀ (N:Nat) {m:Nat} {is:List Nat},xR cJ m is N=true→∀k,k<N→vV cJ m k=true→k∈is
 |0,_,_,_,k,ae,_=>by omega
 |N+1,m,is,h,k,ae,aU=>by
   simp only[xR,jw,xZ,zH] at h
   rcases hE k N with U|U
   · exact adU N h.2 k U aU
   · have:k=N:=by omega
     subst this
     rcases h.1 with ad|ad
     · obtain ⟨x,af,ab⟩:=List.any_eq_true.1 ad
       rw[qt ab];exact af
     · rw[aU] at ad;cases ad
theorem F4 (al:zv cJ D K ops=true) {m:Nat} {is:List Nat} (hm:Small ops.size m) (h:xR cJ m is ops.size=true):
   ∀k∈Region.ready .any ops (iR ops.size m),k∈is:=fun k ae=>
 let ⟨U,ad⟩:=(P2 al hm).1 ae
 adU _ h k U ad
theorem adV:∀ (Iz uA uB:List Nat) (VI:List Nat) (F0 i F1 F2 j k:Nat) (Iy DR IA:Nat),LN VI F0 i F1 F2 j Iz uA uB=true→Iz[k]? =some Iy→uA[k]? =some DR→uB[k]? =some IA→
   F0.testBit (j+k)=true∨i=j+k∨Iy.testBit i=true∨(F1&&&(IA|||DR)=0∧DR&&&F2=0)
 | [],_,_,_,_,_,_,_,_,_,_,_,_,_,h,_,_=>by simp at h
 |_::_,[],_,_,_,_,_,_,_,_,_,_,_,_,_,h,_=>by simp at h
 |_::_,_::_,[],_,_,_,_,_,_,_,_,_,_,_,_,_,h=>by simp at h
 |avl::Iz,avm::uA,avn::uB,VI,F0,i,F1,F2,j,k,Iy,DR,IA,al,U,ad,ar=>by
   simp only[LN,jw,xZ] at al
   cases k with
   |zero=>
     simp only[zL,Option.some.injEq] at U ad ar
     subst U ad ar
     rcases al.1 with h|h|h|h
     · exact .inl h
     · exact .inr (.inl (qt h))
     · exact .inr (.inr (.inl h))
     · exact .inr (.inr (.inr ⟨qt h.1,qt h.2⟩))
   |succ k=>
     have:=adV Iz uA uB VI F0 i F1 F2 (j+1) k Iy DR IA al.2 (by simpa using U) (by simpa using ad) (by simpa using ar)
     rw[show j+(k+1)=j+1+k by omega]
     exact this
theorem adW:∀ (uA uB:List Nat) (i k:Nat) (P3 P4:Nat),PX cJ D K i uA uB=true→uA[k]? =some P3→uB[k]? =some P4→
   LN cJ.M (vU cJ.A (i+k)) (i+k) P3 P4 0 cJ.M D K=true
 | [],_,_,_,_,_,_,h,_=>by simp at h
 |_::_,[],_,_,_,_,_,_,h=>by simp at h
 |d::uA,ur::uB,i,k,P3,P4,al,U,ad=>by
   simp only[PX,jw] at al
   cases k with
   |zero=>
     simp only[zL,Option.some.injEq] at U ad
     subst U ad
     exact al.1
   |succ k=>
     have:=adW uA uB (i+1) k P3 P4 al.2 (by simpa using U) (by simpa using ad)
     rw[show i+(k+1)=i+1+k by omega]
     exact this
theorem VJ {a b:Nat} (h:a&&&b=0) {k:Nat} (aS:a.testBit k=true):b.testBit k=false:=by
 have:=congrArg (fun x=>x.testBit k) h
 simp only[Nat.testBit_and,aS,Eh,Nat.zero_testBit] at this
 exact this
theorem arz {x y:Oper} (U:qm x.dst.toList&&&(qm (y.looksAt ops)|||qm y.dst.toList)=0) (ad:qm y.dst.toList&&&qm (x.looksAt ops)=0):
   x.apart ops y=true:=by
 unfold Oper.apart
 simp only[jw]
 refine ⟨?_,?_⟩
 · cases af:x.dst with
   |none=>rfl
   |some d=>
     rw[af] at U
     have ar:=VJ U (k:=d) (by rw[Bx];simp)
     simp only[BS,Bx,MM,tE] at ar
     simp only[jw,zH,bne_iff_ne,ne_eq]
     refine ⟨by simpa using ar.1,fun h=> ?_⟩
     rw[h] at ar
     simp at ar
 · cases b2:y.dst with
   |none=>rfl
   |some d=>
     rw[b2] at ad
     have ar:=VJ ad (k:=d) (by rw[Bx];simp)
     simp only[Bx,tE] at ar
     simpa using ar
theorem arA (al:zv cJ D K ops=true) {m i:Nat} {vW:Oper} (hi:ops[i]? =some vW) (h:adN cJ ops.size m i=true):
   ∀j qn,ops[j]? =some qn→j≠i→(iR ops.size m).getD j true=false→(∀e∈qn.after,Region.binds .any e=true→e.on≠i)→vW.apart ops qn=true:=by
 intro j qn a6 sB sC dg
 have pb:=al
 simp only[zv,jw] at al
 obtain ⟨hlen,Bl,u_,bk,ax⟩:=al
 have aa5:=qt hlen
 have Ac:=VH u_
 have arB:=VH bk
 have adX:j<ops.size:=(Jj.1 a6).1
 have adY:∀ {k:Nat} {o:Oper},ops[k]? =some o→D[k]? =some (qm o.dst.toList):=fun {k o} bJ=>by
   rw[←Ac];simp[adO,bJ]
 have adZ:∀ {k:Nat} {o:Oper},ops[k]? =some o→K[k]? =some (qm (o.looksAt ops)):=fun {k o} bJ=>by
   rw[←arB];simp[adP,bJ]
 have VK:=adW D K 0 i _ _ ax (adY hi) (adZ hi)
 have arC:cJ.M[j]? =some (vU cJ.M j):=by
   unfold vU
   have:j<cJ.M.length:=by omega
   simp[List.getD,this]
 have:=adV cJ.M D K cJ.M _ _ _ _ 0 j _ _ _ VK arC (adY a6) (adZ a6)
 simp only[gR] at this
 rcases this with U|U|U|U
 · exfalso
   have ad:=qt h
   have ar:=VJ ad U
   rw[IB adX] at sC
   simp[Nat.testBit_xor,Nat.testBit_two_pow_sub_one,adX,sC] at ar
 · exact absurd U.symm sB
 · exfalso
   rw[PZ pb a6,Bx] at U
   simp only[fI] at U
   obtain ⟨e,he,ab,LQ⟩:=P0.1 U
   exact dg e he ab LQ
 · exact arz U.1 U.2
end
def F5 (ops:Array Oper) (gb:Array Bool) (j:Nat):Prop:=
 ∀k ok qn,ops[k]? =some ok→ops[j]? =some qn→tu ok=true→gb.getD k false=true→∃e∈qn.after,Region.binds .any e=true∧e.on=k
def zw (P:Program) (ops:Array Oper) (Q:Exit→Act→World→Prop) (n:Nat) (L:Array Bool→Act→World→Prop):Nat→(World→Prop)→Array Bool→Act→World→Prop
 |0,_,gb,a,w=>L gb a w
 |f+1,S,gb,a,w=>Region.ready .any ops gb≠ []∧
     ∀i∈Region.ready .any ops gb,i<n∧wpOp P ops Q i (fun c3 w'=>∃gB:World→Prop,((∀x,gB x→S x)∨F5 ops gb i)∧gB w'∧zw P ops Q n L f gB (gb.setIfInBounds i true) c3 w') a w
def LR (ops:Array Oper) (n:Nat):Prop:=
 ∀gb,HeadInv .any ops n gb→∀i,i<n→gb.getD i true=false→∀t,n≤t→t∉Region.ready .any ops gb
theorem arD (ops:Array Oper):LR ops ops.size:=by
 intro gb _ i _ _ t aN aU
 obtain ⟨_,o,bJ,_⟩:=mem_ready.1 aU
 have:=(Jj.1 bJ).1
 omega
theorem arE {ops:Array Oper} {n:Nat} (aj:Region.sinkB .any ops n=true) (al:Region.chainB .any ops n=true) (aD:n<ops.size):LR ops n:=
 fun _ inv i hi sC t aN=>tail_waits aj al aD inv _ i rfl hi sC t aN
section
variable {P:Program} {ops:Array Oper} {Q:Exit→Act→World→Prop} {n:Nat} {L:Array Bool→Act→World→Prop}
theorem YieldsIf.mono {S gB:World→Prop} {o:Oper} {v:Value} {a:Act} (h:YieldsIf P ops S o v a) (aj:∀x,gB x→S x):YieldsIf P ops gB o v a:=
 h.imp (fun ⟨U,ad⟩=>⟨U,fun w hw=>ad w (aj w hw)⟩) id
theorem arF (IC:LR ops n) {i:Nat} {vW:Oper} {v:Value} (hi:ops[i]? =some vW) (P5:∀ (j:Nat) (o:Oper) cs b,ops[j]? =some o→o.op≠ .select cs b)
   (yl:∀c a w,Q (.panic c) (a.put vW.dst v) w→Q (.panic c) a w) (fy:i<n) (tj:∀gb a w,L gb a w→∀j∈Region.ready .any ops gb,n≤j):
   ∀ (f:Nat) (S T:World→Prop) (gb:Array Bool) (a:Act) (w:World),(∀x,S x→T x)→(tu vW=true∨∀x,T x)→HeadInv .any ops n gb→
     (∀j qn,ops[j]? =some qn→j≠i→gb.getD j true=false→(∀e∈qn.after,Region.binds .any e=true→e.on≠i)→vW.apart ops qn=true)→
     i∈Region.ready .any ops gb→YieldsIf P ops T vW v a→S w→
     zw P ops Q n L f S (gb.setIfInBounds i true) (a.put vW.dst v) w→zw P ops Q n L (f+1) S gb a w:=by
 intro f
 induction f with
 |zero=>
   intro S T gb a w P6 Hr inv _ aU b2 o4 H
   have sC:=(mem_ready.1 aU).1
   refine ⟨fun h=>(by rw[h] at aU;cases aU),fun j a6=> ?_⟩
   have LS:j<n:=by
     rcases hE j n with h|h
     · exact h
     · exact absurd a6 (IC gb inv i fy sC j h)
   refine ⟨LS,?_⟩
   by_cases sB:j=i
   · subst sB;exact (YieldsIf.mono b2 P6).wpOp hi o4 ⟨S, .inl fun _ h=>h,o4,H⟩
   · have:=tj _ _ _ H j (ready_mono a6 sB)
     omega
 |succ f dw=>
   intro S T gb a w P6 Hr inv Kp aU b2 o4 H
   have sC:=(mem_ready.1 aU).1
   refine ⟨fun h=>(by rw[h] at aU;cases aU),fun j a6=> ?_⟩
   have LS:j<n:=by
     rcases hE j n with h|h
     · exact h
     · exact absurd a6 (IC gb inv i fy sC j h)
   refine ⟨LS,?_⟩
   by_cases sB:j=i
   · subst sB;exact (YieldsIf.mono b2 P6).wpOp hi o4 ⟨S, .inl fun _ h=>h,o4,H⟩
   · have U:=(H.2 j (ready_mono a6 sB)).2
     obtain ⟨ad0,qn,P7,gJ⟩:=mem_ready.1 a6
     have Lh:∀e∈qn.after,Region.binds .any e=true→e.on≠i:=fun e he ab heq=>by
       have U:=gJ e he ab
       rw[heq,getD_both sC] at U
       cases U
     have ad:=wpOp_putIf P7 (Kp j qn P7 sB ad0 Lh) (fun cs b=>P5 i vW cs b hi) (fun cs b=>P5 j qn cs b P7) yl b2 U
     have ad1:∀k ok,ops[k]? =some ok→k≠i→(gb.setIfInBounds j true).getD k true=false→
         (∀e∈ok.after,Region.binds .any e=true→e.on≠i)→vW.apart ops ok=true:=fun k ok ae k6 sC dg=>by
       refine Kp k ok ae k6 ?_ dg
       by_cases ad2:j=k
       · subst ad2;exact ad0
       · rw[getD_set_ne true ad2] at sC;exact sC
     refine wpOp_mono (fun c3 w' ar=> ?_) ad
     obtain ⟨ad3,gB,iK,P8,Bl⟩:=ar
     have Ip:=Bl
     rw[←Array.setIfInBounds_comm _ _ sB] at Ip
     have VL:F5 ops (gb.setIfInBounds i true) j→F5 ops gb j:=fun aT k ok arG ae Kg aj az=>aT k ok arG ae Kg aj (by
       by_cases n5:i=k
       · subst n5
         have:gb.getD i true=true:=by
           simp only[Array.getD] at az⊢
           split at az
           · rename_i a9;simp[a9] at az⊢;exact az
           · cases az
         rw[this] at sC;cases sC
       · simp only[Array.getD,Array.size_setIfInBounds] at az⊢
         split at az
         · rename_i a9
           simp only[a9,dif_pos]
           simp only[Array.getInternal_eq_getElem] at az⊢
           rw[Array.getElem_setIfInBounds_ne _ n5]
           exact az
         · cases az)
     rcases Hr with aj|ad4
     · have ad5:∀x,gB x→S x:=by
         rcases iK with h|h
         · exact h
         · exfalso
           obtain ⟨e,he,ab,LQ⟩:=h i vW qn hi P7 aj (by
             have a9:i<gb.size:=by
               rcases hE i gb.size with h|h
               · exact h
               · simp[Array.getD,Nat.not_lt.2 h] at sC
             simp[Array.getD,a9])
           exact Lh e he ab LQ
       exact ⟨gB, .inl ad5,P8,dw gB T (gb.setIfInBounds j true) c3 w' (fun x af=>P6 x (ad5 x af)) (.inl aj) (inv.set a6 LS) ad1 (ready_mono aU (Ne.symm sB)) ad3 P8 Ip⟩
     · exact ⟨gB,iK.imp id VL,P8,dw gB T (gb.setIfInBounds j true) c3 w' (fun x _=>ad4 x) (.inr ad4) (inv.set a6 LS) ad1 (ready_mono aU (Ne.symm sB)) ad3 P8 Ip⟩
theorem ad6 {g:Nat} (dn:∀gb a w,L gb a w→wpAny P .any ops Q g gb a w):
   ∀ (f:Nat) (S:World→Prop) (gb:Array Bool) (a:Act) (w:World),zw P ops Q n L f S gb a w→wpAny P .any ops Q (f+g) gb a w
 |0,_,gb,a,w,h=>by rw[gR];exact dn _ _ _ h
 |f+1,S,gb,a,w,h=>by
   rw[show f+1+g=(f+g)+1 by omega]
   exact ⟨fun b3=>absurd b3 h.1,fun i hi=>wpOp_mono (fun c3 w' ⟨gB,_,_,p9⟩=>ad6 dn f gB _ c3 w' p9) (h.2 i hi).2⟩
def LE (P:Program) (ops:Array Oper) (Q:Exit→Act→World→Prop) (n:Nat) (gb:Array Bool) (a:Act) (w:World):Prop:=
 (Region.ready .any ops gb=[]∧n=ops.size∧Q .normal a w)∨
 (Region.seqB .any ops (ops.size-n) n gb=true∧n<ops.size∧wpList P ops Q (ops.toList.drop n) a w)
theorem arH:∀gb a w,LE P ops Q n gb a w→∀j∈Region.ready .any ops gb,n≤j:=by
 rintro gb a w (⟨h,_,_⟩|⟨h,aD,_⟩) j a6
 · rw[h] at a6;cases a6
 · exact seqB_ready h j a6
theorem arI:∀gb a w,LE P ops Q n gb a w→wpAny P .any ops Q (ops.size-n) gb a w:=by
 rintro gb a w (⟨h,aD,J⟩|⟨h,aD,J⟩)
 · subst aD
   rw[Ef]
   exact ⟨h,J⟩
 · have:=wpAny_of_seq (md:= .any) (P:=P) (Q':=Q) (ops.toList.drop n) n gb a w (fun j=>by simp[MK]) (by simpa using h) J
   simpa using this
end
section
variable {P:Program} {aH:TypeId→jW} {ops:Array Oper} {n:Nat} {cJ:vT} {hV gl:List Nat} {W:Nat→Prop}
theorem ad7 (al:zv cJ hV gl ops=true):∀ (g k m:Nat),Small ops.size m→k+g=ops.size→LP cJ g k ops.size m=true→Region.seqB .any ops g k (iR ops.size m)=true
 |0,k,m,hm,ae,h=>by
   simp only[LP] at h
   simp only[Region.seqB,List.isEmpty_iff]
   cases aU:Region.ready .any ops (iR ops.size m) with
   |nil=>rfl
   |cons x l=>
     have:=F4 al hm h x (by rw[aU];simp)
     cases this
 |g+1,k,m,hm,ae,h=>by
   simp only[LP,jw] at h
   simp only[Region.seqB,jw,fI]
   have Jo:k<ops.size:=by omega
   have qR:k∈Region.ready .any ops (iR ops.size m):=(P2 al hm).2 ⟨Jo,h.1.1⟩
   refine ⟨?_,?_⟩
   · have gJ:=F4 al hm h.1.2
     have jy:(Region.ready .any ops (iR ops.size m)).Nodup:=by
       unfold Region.ready
       exact List.Pairwise.filter _ List.nodup_range
     revert qR gJ jy
     generalize Region.ready .any ops (iR ops.size m)=l
     intro qR gJ jy
     match l,qR,gJ,jy with
     | [],qR,_,_=>cases qR
     | [x],qR,gJ,_=>rw[nC.1 (gJ x (by simp))]
     |x::y::l,_,gJ,jy=>
       have af:=nC.1 (gJ x (by simp))
       have b2:=nC.1 (gJ y (by simp))
       simp[af,b2] at jy
   · rw[PY]
     exact ad7 al g (k+1) (m|||2^k) (P1 hm Jo) (by omega) h.2
theorem arJ (al:zv cJ hV gl ops=true) (IC:LR ops n) (aD:n≤ops.size) (P5:Region.noSelect ops=true) {pU:Act} (ab:∀d∈cx ops.toList,d<pU.tmps.size):
   ∀ (t:aX) (W:Nat→Prop) (f:Nat) (m:Nat) (K:Env→World→Prop) (e:Env) (a:Act) (w:World),ga e a→hW (cx ops.toList) pU a→Small ops.size m→HeadInv .any ops n (iR ops.size m)→
     hC P aH ops n cJ W t f m K e w→zw P ops (nW pU (cx ops.toList) K) n (LE P ops (nW pU (cx ops.toList) K) n) f (ao W w) (iR ops.size m) a w:=by
 intro t
 have ID:∀ (i:Nat) (o:Oper),ops[i]? =some o→∀k,o.dst=some k→k∈cx ops.toList:=by
   intro i o bJ k ae
   simp only[cx,List.mem_filterMap]
   exact ⟨o,by simpa using Array.mem_of_getElem? bJ,ae⟩
 have IE:∀ (W:Nat→Prop) (t:aX),(∀ (W:Nat→Prop) (f:Nat) (m:Nat) (K:Env→World→Prop) (e:Env) (a:Act) (w:World),ga e a→hW (cx ops.toList) pU a→Small ops.size m→HeadInv .any ops n (iR ops.size m)→
     hC P aH ops n cJ W t f m K e w→zw P ops (nW pU (cx ops.toList) K) n (LE P ops (nW pU (cx ops.toList) K) n) f (ao W w) (iR ops.size m) a w)→
     ∀ (f:Nat) (m:Nat) (K:Env→World→Prop) (e:Env) (a:Act) (w:World) (i:Nat) (o:Oper),ga e a→hW (cx ops.toList) pU a→Small ops.size m→HeadInv .any ops n (iR ops.size m)→
     i∈Region.ready .any ops (iR ops.size m)→i<n→ops[i]? =some o→
     o0 ops o e (tq P aH o (fun v w'=>ao W w w'∧hC P aH ops n cJ W t f (m|||2^i) K (fQ o.dst v e) w') e w) (hC P aH ops n cJ W t f (m|||2^i) K (fQ o.dst undef e) w)→
     wpOp P ops (nW pU (cx ops.toList) K) i (fun c3 w'=>∃gB:World→Prop,((∀x,gB x→ao W w x)∨F5 ops (iR ops.size m) i)∧gB w'∧zw P ops (nW pU (cx ops.toList) K) n (LE P ops (nW pU (cx ops.toList) K) n) f gB ((iR ops.size m).setIfInBounds i true) c3 w') a w:=by
   intro W t dw f m K e a w i o ax ae hm inv aU fy bJ h
   have next:∀ (v:Value) (w':World),ao W w w'→hC P aH ops n cJ W t f (m|||2^i) K (fQ o.dst v e) w'→
       ∃gB:World→Prop,((∀x,gB x→ao W w x)∨F5 ops (iR ops.size m) i)∧gB w'∧zw P ops (nW pU (cx ops.toList) K) n (LE P ops (nW pU (cx ops.toList) K) n) f gB ((iR ops.size m).setIfInBounds i true) (a.put o.dst v) w':=by
     intro v w' arK h
     have jJ:hW (cx ops.toList) a (a.put o.dst v):=hW.put (ID i o bJ)
     have hinv:=inv.set aU fy
     rw[PY] at hinv⊢
     exact ⟨ao W w', .inl fun x af=>arK.trans af, .refl _ _,dw W f _ K _ _ w' (ax.put fun k dW=>by rw[ae.size];exact ab k (ID i o bJ k dW)) (ae.trans jJ) (P1 hm (by omega)) hinv h⟩
   unfold wpOp
   simp only[bJ]
   rcases LI ax h with ⟨hw,aT⟩|⟨hw,aT⟩
   · simp only[hw,if_true]
     exact .inl ((PT ax aT).wp fun v w' ⟨U,ad⟩=>next v w' U ad)
   · simp only[hw,n2,if_false]
     exact next _ _ (.refl _ _) aT
 have P9:∀ {b c d:Bool} {X:Prop},(bif b&&(c&&d) then X else False)→b=true∧c=true∧d=true∧X:=by
   intro b c d X h
   cases b<;>cases c<;>cases d<;>first|exact h.elim|exact ⟨rfl,rfl,rfl,h⟩
 have VM:∀ {b c:Bool} {X:Prop},(bif b&&c then X else False)→b=true∧c=true∧X:=by
   intro b c X h
   cases b<;>cases c<;>first|exact h.elim|exact ⟨rfl,rfl,h⟩
 have blt:∀ {i j:Nat},Nat.blt i j=true→i<j:=fun h=>by
   have:=BT h
   omega
 have ne_nil:∀ {m i:Nat},Small ops.size m→vV cJ m i=true→i<ops.size→Region.ready .any ops (iR ops.size m)≠ []:=fun hm h hi b3=>by
   have:=(P2 al hm).2 ⟨hi,h⟩
   rw[b3] at this;cases this
 induction t with
 |take i t dw=>
   intro W f m K e a w ax ae hm inv h
   cases f with
   |zero=>simp[hC] at h
   |succ f=>
     simp only[hC] at h
     obtain ⟨U,ad,ar,h⟩:=P9 h
     have fy:=blt ar
     have aU:i∈Region.ready .any ops (iR ops.size m):=(P2 al hm).2 ⟨by omega,U⟩
     split at h
     · rename_i o bJ
       have fin:∀v,YieldsIf P ops (fun x=>tu o=true→ao W w x) o v a→hC P aH ops n cJ W t f (m|||2^i) K (fQ o.dst v e) w→
           zw P ops (nW pU (cx ops.toList) K) n (LE P ops (nW pU (cx ops.toList) K) n) (f+1) (ao W w) (iR ops.size m) a w:=by
         intro v b2 h
         have jJ:hW (cx ops.toList) a (a.put o.dst v):=hW.put (ID i o bJ)
         refine arF IC bJ (Region.noSelect_spec P5) (fun c a w J=>by cases J.1) fy arH f (ao W w) (fun x=>tu o=true→ao W w x) _ a w (fun _ h _=>h) (by cases aj:tu o<;>simp) inv (arA al bJ ad) aU b2 (.refl _ _) ?_
         have hinv:=inv.set aU fy
         rw[PY] at hinv⊢
         exact dw W f _ K _ _ w (ax.put fun k dW=>by rw[ae.size];exact ab k (ID i o bJ k dW)) (ae.trans jJ) (P1 hm (by omega)) hinv h
       rcases LI ax h with ⟨hw,aT⟩|⟨hw,aT⟩
       · obtain ⟨v,ak,bk⟩:=arw ax aT
         exact fin v (.inl ⟨hw,fun w' al=>ak w' al⟩) bk
       · exact fin undef (.inr ⟨hw,rfl⟩) aT
     · exact h.elim
 |cH i t dw=>
   intro W f m K e a w ax ae hm inv h
   cases f with
   |zero=>simp[hC] at h
   |succ f=>
     simp only[hC] at h
     obtain ⟨mZ,ar,h⟩:=VM h
     simp only[jw] at mZ
     have fy:=blt ar
     split at h
     · rename_i o bJ
       refine ⟨ne_nil hm mZ.1 (by omega),fun j a6=> ?_⟩
       have sB:j=i:=by simpa using F4 al hm mZ.2 j a6
       subst sB
       exact ⟨fy,IE W t dw f m K e a w j o ax ae hm inv a6 fy bJ h⟩
     · exact h.elim
 |out i b t dw=>
   intro W f m K e a w ax ae hm inv h
   cases f with
   |zero=>simp[hC] at h
   |succ f=>
     simp only[hC] at h
     obtain ⟨mZ,ar,aI,h⟩:=P9 h
     simp only[jw] at mZ
     have fy:=blt ar
     have aI:=qt aI
     split at h
     · rename_i o bJ
       refine ⟨ne_nil hm mZ.1 (by omega),fun j a6=> ?_⟩
       have sB:j=i:=by simpa using F4 al hm mZ.2 j a6
       subst sB
       refine ⟨fy,?_⟩
       have VL:F5 ops (iR ops.size m) j:=by
         intro k ok qn jJ Kg aj az
         have fm:k<ops.size:=(Jj.1 jJ).1
         rw[IB fm] at az
         have kn:(xQ 0 ops.toList&&&m).testBit k=true:=by
           rw[Nat.testBit_and,az,Bool.and_true]
           exact (adT ops.toList 0 k ok (by simpa using jJ)).trans aj|>(by simpa using ·)
         have aW:(vU cJ.M j).testBit k=true:=adS aI kn
         rw[PZ al Kg,Bx] at aW
         simp only[fI] at aW
         exact P0.1 aW
       have next:∀ (v:Value) (w':World) (V:Nat→Prop),hC P aH ops n cJ V t f (m|||2^j) K (fQ o.dst v e) w'→
           ∃gB:World→Prop,((∀x,gB x→ao W w x)∨F5 ops (iR ops.size m) j)∧gB w'∧zw P ops (nW pU (cx ops.toList) K) n (LE P ops (nW pU (cx ops.toList) K) n) f gB ((iR ops.size m).setIfInBounds j true) (a.put o.dst v) w':=by
         intro v w' V h
         have jJ:hW (cx ops.toList) a (a.put o.dst v):=hW.put (ID j o bJ)
         have hinv:=inv.set a6 fy
         rw[PY] at hinv⊢
         exact ⟨ao V w', .inr VL, .refl _ _,dw V f _ K _ _ w' (ax.put fun k dW=>by rw[ae.size];exact ab k (ID j o bJ k dW)) (ae.trans jJ) (P1 hm (by omega)) hinv h⟩
       unfold wpOp
       simp only[bJ]
       rcases LI ax h with ⟨hw,aT⟩|⟨hw,aT⟩
       · simp only[hw,if_true]
         refine .inl ((PT ax aT).wp fun v w' ad=> ?_)
         cases b with
         |true=>
           obtain ⟨V,ad⟩:=ad
           exact next v w' V ad
         |false=>exact next v w' W ad
       · simp only[hw,n2,if_false]
         exact next _ _ W aT
     · exact h.elim
 |two i t j u LU LV=>
   intro W f m K e a w ax ae hm inv h
   cases f with
   |zero=>simp[hC] at h
   |succ f=>
     simp only[hC] at h
     obtain ⟨mZ,ar,aI,h⟩:=P9 h
     simp only[jw] at mZ
     have hi:=blt ar
     split at h
     · rename_i o q bJ J
       refine ⟨ne_nil hm mZ.1 (by omega),fun k jJ=> ?_⟩
       have k6:k=i∨k=j:=by simpa using F4 al hm mZ.2 k jJ
       rcases k6 with k6|k6
       · subst k6
         exact ⟨blt ar,IE W t LU f m K e a w k o ax ae hm inv jJ (blt ar) bJ h.1⟩
       · subst k6
         exact ⟨blt aI,IE W u LV f m K e a w k q ax ae hm inv jJ (blt aI) J h.2⟩
     · exact h.elim
 |three i t j u k x LU LV arL=>
   intro W f m K e a w ax ae hm inv h
   cases f with
   |zero=>simp[hC] at h
   |succ f=>
     simp only[hC] at h
     obtain ⟨mZ,ar,arM,h⟩:=P9 (d:=_) h
     obtain ⟨aI,aW⟩:Nat.blt j n=true∧Nat.blt k n=true:=by simpa using arM
     simp only[jw] at mZ
     have hi:=blt ar
     split at h
     · rename_i o q r bJ J Yu
       refine ⟨ne_nil hm mZ.1 (by omega),fun y jJ=> ?_⟩
       have k6:y=i∨y=j∨y=k:=by simpa using F4 al hm mZ.2 y jJ
       rcases k6 with k6|k6|k6
       · subst k6
         exact ⟨blt ar,IE W t LU f m K e a w y o ax ae hm inv jJ (blt ar) bJ h.1⟩
       · subst k6
         exact ⟨blt aI,IE W u LV f m K e a w y q ax ae hm inv jJ (blt aI) J h.2.1⟩
       · subst k6
         exact ⟨blt aW,IE W x arL f m K e a w y r ax ae hm inv jJ (blt aW) Yu h.2.2⟩
     · exact h.elim
 |sp s t u LU LV=>
   intro W f m K e a w ax ae hm inv h
   have p9:match e.get s with
     |some (.bool c)=>(c=true→hC P aH ops n cJ W t f m K ((s, .bool true)::e) w)∧(c=false→hC P aH ops n cJ W u f m K ((s, .bool false)::e) w)
     |_=>False:=by cases f<;>simpa only[hC] using h
   split at p9
   · rename_i c aj
     cases c with
     |true=>exact LU W f m K _ a w (ax.lit aj) ae hm inv (p9.1 rfl)
     |false=>exact LV W f m K _ a w (ax.lit aj) ae hm inv (p9.2 rfl)
   · exact p9.elim
 |fin=>
   intro W f m K e a w ax ae hm inv h
   cases f with
   |succ f=>simp[hC] at h
   |zero=>
     simp only[hC] at h
     obtain ⟨U,ad,h⟩:=VM h
     refine .inl ⟨?_,qt ad,rfl,ae,e,ax,h⟩
     cases aU:Region.ready .any ops (iR ops.size m) with
     |nil=>rfl
     |cons x l=>
       have:=F4 al hm U x (by rw[aU];simp)
       cases this
 |tail as=>
   intro W f m K e a w ax ae hm inv h
   cases f with
   |succ f=>simp[hC] at h
   |zero=>
     simp only[hC] at h
     obtain ⟨U,ad,h⟩:=VM h
     have iK:∀k,k∈cx (ops.toList.drop n)→k∈cx ops.toList:=fun k ae=>by
       simp only[cx,List.mem_filterMap] at ae⊢
       obtain ⟨o,bJ,ae⟩:=ae
       exact ⟨o,kk bJ,ae⟩
     have:=adH _ _ _ K e a w ax (fun d hd=>by rw[ae.size];exact ab d (iK d hd)) h
     exact .inr ⟨ad7 al _ _ _ hm (by omega) U,blt ad,rX (fun x c3 w' ⟨aA,aF,aJ⟩=>⟨aA,ae.trans (aF.mono iK),aJ⟩) _ _ _ this⟩
theorem arN (ops:Array Oper) (n:Nat):HeadInv .any ops n (Array.replicate ops.size false):=
 ⟨by simp,fun j qn _ az=>(by rw[getD_replicate_false] at az;cases az),fun t _ aN=>getD_in (by simpa using aN) (getD_replicate_false _ _)⟩
def VN (P:Program) (aH:TypeId→jW) (ops:Array Oper) (n:Nat) (LW:Bool) (cJ:vT) (hV gl:List Nat) (t:aX) (K:Env→World→Prop) (e:Env) (w:World):Prop:=
 bif (Region.noSelect ops&&zv cJ hV gl ops)&&(bif Nat.beq n ops.size then true else Nat.blt n ops.size&&(Region.sinkB .any ops n&&Region.chainB .any ops n)) then
   bif LW then
     ay w.drew fun ag=>∃W:Nat→Prop,hC P aH ops n cJ W t n 0 K e ag
   else ay w.drew fun ag=>hC P aH ops n cJ (fun _=>False) t n 0 K e ag
 else False
theorem arO {id:Nat} {LW:Bool} {t:aX} {K:Env→World→Prop} {e:Env} {a:Act} {w:World} (hm:P.follows .mixedOrders=true)
   (ax:ga e a) (ab:∀d∈cx ops.toList,d<a.tmps.size) (h:VN P aH ops n LW cJ hV gl t K e w):
   (Code.region id ops true).wp P (nW a (cx ops.toList) K) a w:=by
 unfold VN at h
 cases b3:(Region.noSelect ops&&zv cJ hV gl ops) with
 |false=>rw[b3] at h;exact h.elim
 |true=>
   rw[b3] at h
   simp only[Eh] at h
   simp only[jw] at b3
   obtain ⟨U,al⟩:=b3
   cases ad:(bif Nat.beq n ops.size then true else Nat.blt n ops.size&&(Region.sinkB .any ops n&&Region.chainB .any ops n)) with
   |false=>rw[ad] at h;exact h.elim
   |true=>
     rw[ad] at h
     simp only[cond_true] at h
     have IC:LR ops n:=by
       cases aD:Nat.beq n ops.size with
       |true=>rw[qt aD];exact arD ops
       |false=>
         rw[aD] at ad
         simp only[cond_false,jw] at ad
         refine arE ad.2.1 ad.2.2 ?_
         have:=BT ad.1
         omega
     have hle:n≤ops.size:=by
       cases aD:Nat.beq n ops.size with
       |true=>rw[qt aD];exact cP _
       |false=>
         rw[aD] at ad
         simp only[cond_false,jw] at ad
         have:=BT ad.1
         omega
     have key:∀W,hC P aH ops n cJ W t n 0 K e w.drew→(Code.region id ops true).wp P (nW a (cx ops.toList) K) a w:=by
       intro W h
       refine wp_region_any hm ?_
       have Bl:=arJ al IC hle U ab t W n 0 K e a w.drew ax (.refl _ _) (ary _) (by rw[adQ];exact arN ops n) h
       rw[adQ] at Bl
       have:=ad6 arI _ _ _ _ _ Bl
       rw[show n+(ops.size-n)=ops.size by omega] at this
       exact this
     cases LW with
     |true=>obtain ⟨W,h⟩:=h;exact key W h
     |false=>exact key _ h
end
end b7
namespace b7
open Go
inductive bH where
 |leaf
 |gn (as:List Bv)
 |eS (n:Nat) (LW:Bool) (cJ:vT) (hV gl:List Nat) (t:aX)
 |seq (a b:bH)
 |cond (a b:bH)
 |dv (a:bH)
 |loop (live:List (Nat×jV)) (gW:List Nat) (a:bH)
 |mi (live:List (Nat×jV)) (gW:List Nat) (a:bH)
def nB:List (Nat×jV)→Type
 | []=>World→Prop
 |(_,l)::r=>l.T→nB r
def DS:List (Nat×jV)→Type
 | []=>World→Nat
 |(_,l)::r=>l.T→DS r
def IF (l:jV) (v:Option Value) (K:l.T→Prop):Prop:=
 match l,v with
 | .int k,some (.int mC n)=>bif uz k mC then K n else False
 | .bool,some (.bool b)=>K b
 | .str,some (.string s)=>K s
 | .ptr,some (.pointer p)=>K p
 | .slice,some (.slice a n c)=>K ⟨a,n,c⟩
 | .map,some (.map r)=>K r
 | .agg,some (.agg cs)=>K cs
 | .fn,some (.func (.func f) a b)=>K ⟨f,a,b⟩
 | .any,some v=>K v
 |_,_=>False
def nB.app:(live:List (Nat×jV))→nB live→(Nat→Option Value)→World→Prop
 | [],k,_,w=>k w
 |(s,l)::r,k,g,w=>IF l (g s) fun x=>nB.app r (k x) g w
def nB.lam:(live:List (Nat×jV))→(Env→World→Prop)→nB live
 | [],F=>fun w=>F [] w
 |(s,l)::r,F=>fun x=>nB.lam r fun e w=>F ((s,l.v x)::e) w
def VO:(live:List (Nat×jV))→nB live→DS live→(Env→Nat→World→Prop)→Prop
 | [],I,μ,F=>∀w,I w→F [] (μ w) w
 |(s,l)::r,I,μ,F=>∀x:l.T,VO r (I x) (μ x) fun e m w=>F ((s,l.v x)::e) m w
def VP:(live:List (Nat×jV))→nB live→DS live→Nat→(Nat→Option Value)→World→Prop
 | [],I,μ,m,_,w=>I w∧μ w<m
 |(s,l)::r,I,μ,m,g,w=>IF l (g s) fun x=>VP r (I x) (μ x) m g w
def sD:(live:List (Nat×jV))→DS live→(Nat→Option Value)→World→Nat
 | [],μ,_,w=>μ w
 |(s,l)::r,μ,g,w=>
   match l,g s,μ with
   | .int _,some (.int _ n),μ=>sD r (μ n) g w
   | .bool,some (.bool b),μ=>sD r (μ b) g w
   | .str,some (.string b),μ=>sD r (μ b) g w
   | .ptr,some (.pointer b),μ=>sD r (μ b) g w
   | .slice,some (.slice a n c),μ=>sD r (μ (aa.mk a n c)) g w
   | .map,some (.map b),μ=>sD r (μ b) g w
   | .agg,some (.agg b),μ=>sD r (μ b) g w
   | .fn,some (.func (.func f) a b),μ=>sD r (μ (rV.mk f a b)) g w
   | .any,some v,μ=>sD r (μ v) g w
   |_,_,_=>0
def writes:Code→List Nat
 | .region _ ops _=>cx ops.toList
 | .seq a b=>writes a++writes b
 | .cond _ a b=>writes a++writes b
 | .block _ a=>writes a
 | .loop a=>writes a
 | .scope a=>writes a
 |_=> []
def LX (gW ws:List Nat):Bool:=gW.all fun s=> !(ws.any fun d=>Nat.beq d s)
def F6 (e:Env):List Nat→Env
 | []=> []
 |s::ks=>match e.get s with
   |some v=>(s,v)::F6 e ks
   |none=>F6 e ks
def IG:Env→Env→Env
 | [],f=>f
 |p::e,f=>p::IG e f
def D (P:Program) (aH:TypeId→jW):bH→Code→(Exit→Env→World→Prop)→Env→World→Prop
 | .leaf,c,K,e,w=>
   match c with
   | .skip=>K .normal e w
   | .label _=>K .normal e w
   | .exit id=>K (.exit id) e w
   | .ret=>K .ret e w
   |_=>False
 | .gn as,c,K,e,w=>
   match c with
   | .region _ ops false=>mg P aH ops (ops.size+1) ops.toList as (fun eH w'=>K .normal eH w') e w
   |_=>False
 | .eS n he cJ hV gl t,c,K,e,w=>
   match c with
   | .region _ ops true=>VN P aH ops n he cJ hV gl t (fun eH w'=>K .normal eH w') e w
   |_=>False
 | .seq A B,c,K,e,w=>
   match c with
   | .seq a b=>D P aH A a (fun x eH w'=>match x with| .normal=>D P aH B b K eH w'|x=>K x eH w') e w
   |_=>False
 | .cond A B,c,K,e,w=>
   match c with
   | .cond o x y=>match bu e o with
     |some (.bool b)=>(b=true→D P aH A x K e w)∧(b=false→D P aH B y K e w)
     |_=>False
   |_=>False
 | .dv A,c,K,e,w=>
   match c with
   | .block id b=>D P aH A b (fun x eH w'=>match x with| .exit IH=>bif Nat.beq IH id then K .normal eH w' else K (.exit IH) eH w'|x=>K x eH w') e w
   |_=>False
 | .loop live gW A,c,K,e,w=>
   match c with
   | .loop b=>bif LX gW (writes b) then
       ∃ (I:nB live) (μ:DS live),nB.app live I e.get w∧
         VO live I μ fun el m w'=>D P aH A b (fun x eH hO=>match x with| .normal=>VP live I μ m eH.get hO|x=>K x eH hO) (IG el (F6 e gW)) w'
     else False
   |_=>False
 | .mi live gW A,c,K,e,w=>
   bif LX gW (writes c) then
     c5 (fun k:nB live=>D P aH A c (fun x eH w'=>match x with| .normal=>nB.app live k eH.get w'|x=>K x eH w') e w)
       (nB.lam live fun el w'=>K .normal (IG el (F6 e gW)) w')
   else False
def arP (a:Act) (ds:List Nat) (K:Exit→Env→World→Prop) (x:Exit) (c3:Act) (w':World):Prop:=
 hW ds a c3∧∃eH,ga eH c3∧K x eH w'
def Sub (e:Env) (g:Nat→Option Value):Prop:=∀s v,e.get s=some v→g s=some v
theorem Sub.cons {e:Env} {g:Nat→Option Value} {s:Nat} {v:Value} (h:Sub e g) (aj:g s=some v):Sub ((s,v)::e) g:=by
 intro t u aN
 rw[FV] at aN
 by_cases gI:s=t
 · subst gI;rw[if_pos rfl] at aN;rw[aj];exact aN
 · rw[if_neg gI] at aN;exact h t u aN
theorem Sub.nil {g:Nat→Option Value}:Sub [] g:=fun _ _ h=>by cases h
theorem P_ {l:jV} {v:Option Value} {K:l.T→Prop} (h:IF l v K):∃x:l.T,v=some (l.v x)∧K x:=by
 unfold IF at h
 split at h
 · rename_i k mC n K
   by_cases ae:k=mC
   · subst ae
     simp only[uz,decide_true,cond_true] at h
     exact ⟨n,rfl,h⟩
   · simp[uz,ae] at h
 all_goals first
   |exact ⟨_,rfl,h⟩
   |exact h.elim
theorem ad8 {l:jV} {v:Option Value} {K:l.T→Prop} {x:l.T} (ak:v=some (l.v x)) (h:K x):IF l v K:=by
 subst ak
 cases l<;>simp only[IF,jV.v,uz,decide_true,cond_true]<;>exact h
theorem ad9 {s:Nat} {l:jV} {r:List (Nat×jV)} {μ:DS ((s,l)::r)} {g:Nat→Option Value} {w:World} {x:l.T} (ak:g s=some (l.v x)):
   sD ((s,l)::r) μ g w=sD r (μ x) g w:=by
 cases l<;>simp only[sD,ak,jV.v]<;>rfl
theorem ad_:∀ {live:List (Nat×jV)} {F:Env→World→Prop} {g:Nat→Option Value} {w:World},nB.app live (nB.lam live F) g w→∃el,Sub el g∧F el w
 | [],F,g,w,h=>⟨[],Sub.nil,h⟩
 |(s,l)::r,F,g,w,h=>by
   obtain ⟨x,ak,h⟩:=P_ h
   obtain ⟨el,aj,h⟩:=ad_ h
   exact ⟨(s,l.v x)::el,aj.cons ak,h⟩
theorem aea:∀ {live:List (Nat×jV)} {I:nB live} {g g':Nat→Option Value} {w:World},(∀s v,g s=some v→g' s=some v)→nB.app live I g w→nB.app live I g' w
 | [],_,_,_,_,_,h=>h
 |(s,l)::r,I,g,g',w,a7,h=>by
   obtain ⟨x,ak,h⟩:=P_ h
   exact ad8 (a7 _ _ ak) (aea a7 h)
theorem aeb:∀ {live:List (Nat×jV)} {I:nB live} {μ:DS live} {F:Env→Nat→World→Prop} {g:Nat→Option Value} {w:World},
   VO live I μ F→nB.app live I g w→∃el,Sub el g∧F el (sD live μ g w) w
 | [],I,μ,F,g,w,h,F7=>⟨[],Sub.nil,h w F7⟩
 |(s,l)::r,I,μ,F,g,w,h,F7=>by
   obtain ⟨x,ak,F7⟩:=P_ F7
   obtain ⟨el,aj,h⟩:=aeb (h x) F7
   exact ⟨(s,l.v x)::el,aj.cons ak,by rw[ad9 ak];exact h⟩
theorem aec:∀ {live:List (Nat×jV)} {I:nB live} {μ:DS live} {m:Nat} {g g':Nat→Option Value} {w:World},
   (∀s v,g s=some v→g' s=some v)→VP live I μ m g w→nB.app live I g' w∧sD live μ g' w<m
 | [],_,_,_,_,_,_,_,h=>h
 |(s,l)::r,I,μ,m,g,g',w,a7,h=>by
   obtain ⟨x,ak,h⟩:=P_ h
   obtain ⟨U,ad⟩:=aec a7 h
   exact ⟨ad8 (a7 _ _ ak) U,by rw[ad9 (a7 _ _ ak)];exact ad⟩
theorem aed:∀ {e f:Env} {s:Nat} {v:Value},(IG e f).get s=some v→e.get s=some v∨f.get s=some v
 | [],_,_,_,h=> .inr h
 |(k,u)::e,f,s,v,h=>by
   simp only[IG] at h
   rw[FV] at h⊢
   by_cases ae:k=s
   · rw[if_pos ae] at h⊢;exact .inl h
   · rw[if_neg ae] at h⊢;exact aed h
theorem VQ {e:Env}:∀ {ks:List Nat} {s:Nat} {v:Value},(F6 e ks).get s=some v→s∈ks∧e.get s=some v
 | [],_,_,h=>by cases h
 |k::ks,s,v,h=>by
   simp only[F6] at h
   split at h
   · rename_i u hu
     rw[FV] at h
     by_cases ae:k=s
     · rw[if_pos ae] at h
       subst ae
       exact ⟨by simp,by rw[hu];exact h⟩
     · rw[if_neg ae] at h
       have:=VQ h
       exact ⟨by simp[this.1],this.2⟩
   · have:=VQ h
     exact ⟨by simp[this.1],this.2⟩
theorem aee {e el:Env} {a c3:Act} {gW ws:List Nat} (ax:ga e a) (ae:hW ws a c3) (bJ:LX gW ws=true) (aj:Sub el fun s=>c3.tmps[s]?):
   ga (IG el (F6 e gW)) c3:=by
 constructor
 intro s v h
 rcases aed h with h|h
 · exact aj s v h
 · obtain ⟨U,ad⟩:=VQ h
   have ar:=Gq.1 bJ s U
   simp only[zH,Jc] at ar
   rw[ae.same s fun hm=>ar s hm (Nat.beq_refl s)]
   exact ax.get s v ad
section
variable {P:Program} {aH:TypeId→jW}
theorem tv {c:Code} {Q Q':Exit→Act→World→Prop} {a:Act} {w:World} (h:c.wp P Q a w) (J:∀e a w,Q e a w→Q' e a w):c.wp P Q' a w:=wp_mono h J
theorem Qa (hm:P.follows .mixedOrders=true):∀ (A:bH) (c:Code) (K:Exit→Env→World→Prop) (e:Env) (a:Act) (w:World),ga e a→(∀d∈writes c,d<a.tmps.size)→
   D P aH A c K e w→c.wp P (arP a (writes c) K) a w:=by
 intro A
 induction A with
 |leaf=>
   intro c K e a w ax ab h
   simp only[D] at h
   split at h
   · exact wp_skip ⟨.refl _ _,e,ax,h⟩
   · exact wp_label ⟨.refl _ _,e,ax,h⟩
   · exact wp_exit ⟨.refl _ _,e,ax,h⟩
   · exact wp_ret ⟨.refl _ _,e,ax,h⟩
   · exact h.elim
 |gn as=>
   intro c K e a w ax ab h
   simp only[D] at h
   split at h
   · rename_i id ops
     have:=adH _ _ _ _ e a w ax ab h
     refine wp_region_list (rX ?_ _ _ _ this)
     rintro x c3 w' ⟨rfl,ae,eH,nv,bk⟩
     exact ⟨ae,eH,nv,bk⟩
   · exact h.elim
 |eS n he cJ hV gl t=>
   intro c K e a w ax ab h
   simp only[D] at h
   split at h
   · rename_i id ops
     refine tv (arO hm ax ab h) ?_
     rintro x c3 w' ⟨rfl,ae,eH,nv,bk⟩
     exact ⟨ae,eH,nv,bk⟩
   · exact h.elim
 |seq A B Qb LY=>
   intro c K e a w ax ab h
   simp only[D] at h
   split at h
   · rename_i x y
     have af:∀d,d∈writes x→d∈writes (.seq x y):=fun d hd=>by simp[writes,hd]
     have b2:∀d,d∈writes y→d∈writes (.seq x y):=fun d hd=>by simp[writes,hd]
     refine wp_seq (tv (Qb x _ e a w ax (fun d hd=>ab d (af d hd)) h) ?_)
     rintro ex bj ag ⟨ae,aY,ib,U⟩
     cases ex with
     |normal=>
       refine tv (LY y K aY bj ag ib (fun d hd=>by rw[ae.size];exact ab d (b2 d hd)) U) ?_
       rintro ex cL aw ⟨dW,bm,lh,ad⟩
       exact ⟨(ae.mono af).trans (dW.mono b2),bm,lh,ad⟩
     |exit id=>exact ⟨ae.mono af,aY,ib,U⟩
     |goto l=>exact ⟨ae.mono af,aY,ib,U⟩
     |ret=>exact ⟨ae.mono af,aY,ib,U⟩
     |panic DT=>exact ⟨ae.mono af,aY,ib,U⟩
     |outgrown=>exact ⟨ae.mono af,aY,ib,U⟩
   · exact h.elim
 |cond A B Qb LY=>
   intro c K e a w ax ab h
   simp only[D] at h
   split at h
   · rename_i o x y
     have af:∀d,d∈writes x→d∈writes (.cond o x y):=fun d hd=>by simp[writes,hd]
     have b2:∀d,d∈writes y→d∈writes (.cond o x y):=fun d hd=>by simp[writes,hd]
     split at h
     · rename_i b bJ
       refine wp_cond_split (ax.bu bJ) (fun oc=> ?_) (fun oc=> ?_)
       · refine tv (Qb x K e a w ax (fun d hd=>ab d (af d hd)) (h.1 oc)) ?_
         rintro ex cL aw ⟨dW,bm,lh,ad⟩
         exact ⟨dW.mono af,bm,lh,ad⟩
       · refine tv (LY y K e a w ax (fun d hd=>ab d (b2 d hd)) (h.2 oc)) ?_
         rintro ex cL aw ⟨dW,bm,lh,ad⟩
         exact ⟨dW.mono b2,bm,lh,ad⟩
     · exact h.elim
   · exact h.elim
 |dv A dw=>
   intro c K e a w ax ab h
   simp only[D] at h
   split at h
   · rename_i id b
     refine wp_block (tv (dw b _ e a w ax ab h) ?_)
     rintro ex bj ag ⟨ae,aY,ib,U⟩
     cases ex with
     |exit IH=>
       simp only[Exit.inBlock]
       by_cases VR:IH=id
       · subst VR
         simp only[Nat.beq_refl,cond_true] at U
         rw[if_pos rfl]
         exact ⟨ae,aY,ib,U⟩
       · have:Nat.beq IH id=false:=by
           cases arQ:Nat.beq IH id
           · rfl
           · exact absurd (qt arQ) VR
         simp only[this,cond_false] at U
         rw[if_neg VR]
         exact ⟨ae,aY,ib,U⟩
     |normal=>exact ⟨ae,aY,ib,U⟩
     |goto l=>exact ⟨ae,aY,ib,U⟩
     |ret=>exact ⟨ae,aY,ib,U⟩
     |panic DT=>exact ⟨ae,aY,ib,U⟩
     |outgrown=>exact ⟨ae,aY,ib,U⟩
   · exact h.elim
 |loop live gW A dw=>
   intro c K e a w ax ab h
   simp only[D] at h
   split at h
   · rename_i b
     cases iU:LX gW (writes b) with
     |false=>rw[iU] at h;exact h.elim
     |true=>
       rw[iU] at h
       obtain ⟨I,μ,b3,arR⟩:=h
       refine wp_loop (fun c3 w'=>hW (writes b) a c3∧nB.app live I (fun s=>c3.tmps[s]?) w') (fun c3 w'=>sD live μ (fun s=>c3.tmps[s]?) w')
         ⟨.refl _ _,aea (fun s v aj=>ax.get s v aj) b3⟩ ?_
       rintro bj ag ⟨ae,F7⟩
       obtain ⟨el,aj,vn⟩:=aeb arR F7
       refine tv (dw b _ _ bj ag (aee ax ae iU aj) (fun d hd=>by rw[ae.size];exact ab d hd) vn) ?_
       rintro ex cL aw ⟨dW,bm,lh,ad⟩
       cases ex with
       |normal=>
         obtain ⟨aA,aF⟩:=aec (g':=fun s=>cL.tmps[s]?) (fun s v aj=>lh.get s v aj) ad
         exact ⟨⟨ae.trans dW,aA⟩,aF⟩
       |exit id=>exact ⟨ae.trans dW,bm,lh,ad⟩
       |goto l=>exact ⟨ae.trans dW,bm,lh,ad⟩
       |ret=>exact ⟨ae.trans dW,bm,lh,ad⟩
       |panic DT=>exact ⟨ae.trans dW,bm,lh,ad⟩
       |outgrown=>exact ⟨ae.trans dW,bm,lh,ad⟩
   · exact h.elim
 |mi live gW A dw=>
   intro c K e a w ax ab h
   simp only[D] at h
   cases iU:LX gW (writes c) with
   |false=>rw[iU] at h;exact h.elim
   |true=>
     rw[iU] at h
     simp only[cond_true] at h
     have h:=h.out
     refine tv (dw c _ e a w ax ab h) ?_
     rintro ex bj ag ⟨ae,aY,ib,U⟩
     cases ex with
     |normal=>
       obtain ⟨el,aj,vn⟩:=ad_ U
       exact ⟨ae,_,aee ax ae iU (fun s v h=>ib.get s v (aj s v h)),vn⟩
     |exit id=>exact ⟨ae,aY,ib,U⟩
     |goto l=>exact ⟨ae,aY,ib,U⟩
     |ret=>exact ⟨ae,aY,ib,U⟩
     |panic DT=>exact ⟨ae,aY,ib,U⟩
     |outgrown=>exact ⟨ae,aY,ib,U⟩
def By (P:Program) (aH:TypeId→jW):List ResultVar→Env→World→(List Value→Prop)→Prop
 | [],_,_,K=>K []
 | .tmp t::r,e,w,K=>match e.get t with
   |some v=>By P aH r e w fun vs=>K (v::vs)
   |none=>False
 | .cell t T::r,e,w,K=>match e.get t with
   |some (.pointer (some A))=>Ir P aH T A w fun v=>By P aH r e w fun vs=>K (v::vs)
   |_=>False
def II:List Value→Value
 | [v]=>v
 |vs=> .tuple vs.toArray
def aef (P:Program) (aH:TypeId→jW) (rs:List ResultVar) (R:Value→World→Prop) (x:Exit) (e:Env) (w:World):Prop:=
 match x with
 | .normal=>By P aH rs e w fun vs=>R (II vs) w
 | .ret=>By P aH rs e w fun vs=>R (II vs) w
 |_=>False
def F8:Nat→List Value→Env
 |_,[]=> []
 |i,v::vs=>(i,v)::F8 (i+1) vs
def IJ (P:Program) (aH:TypeId→jW) (A:bH) (fn:Func) (args:List Value) (w:World) (R:Value→World→Prop):Prop:=
 match fn.body with
 |some c=>D P aH A c (aef P aH fn.results.toList R) (F8 0 args) w
 |none=>False
def F9 (fn:Func) (n:Nat):Bool:=
 match fn.body with
 |some c=>(writes c).all (fun d=>Nat.blt d fn.ntmps)&&Nat.ble n fn.ntmps
 |none=>false
theorem VS:∀ {vs:List Value} {i s:Nat} {v:Value},(F8 i vs).get s=some v→i≤s∧vs[s-i]? =some v
 | [],_,_,_,h=>by cases h
 |u::vs,i,s,v,h=>by
   simp only[F8] at h
   rw[FV] at h
   by_cases ae:i=s
   · subst ae
     rw[if_pos rfl] at h
     simpa using h
   · rw[if_neg ae] at h
     obtain ⟨U,ad⟩:=VS h
     refine ⟨by omega,?_⟩
     rw[show s-i=(s-(i+1))+1 by omega]
     simpa using ad
def LZ (tmps:Array Value) (r:ResultVar):Sem Value:=
 match r with
 | .tmp t=>pure (tmps.getD t undef)
 | .cell x t=>do loadVar t (←asAddr (tmps.getD x undef))
theorem Bz {a:Act}:∀ {rs:List ResultVar} {e:Env} {w:World} {K:List Value→Prop},ga e a→By P aH rs e w K→
   ∃vs,(rs.mapM (LZ a.tmps)).run P w= .ok vs w∧K vs
 | [],_,_,_,_,h=>⟨[],by simp,h⟩
 | .tmp t::r,e,w,K,ax,h=>by
   simp only[By] at h
   split at h
   · rename_i v ak
     obtain ⟨vs,kp,bk⟩:=Bz ax h
     refine ⟨v::vs,?_,bk⟩
     have aN:a.tmps.getD t undef=v:=by simp[Array.getD_eq_getD_getElem?,ax.get _ _ ak]
     simp only[List.mapM_cons,LZ,Sem.run_bind,Sem.run_pure,Result.andThen,aN]
     rw[kp]
   · exact h.elim
 | .cell t T::r,e,w,K,ax,h=>by
   simp only[By] at h
   split at h
   · rename_i A ak
     obtain ⟨v,az,h⟩:=adB h
     obtain ⟨vs,kp,bk⟩:=Bz ax h
     refine ⟨v::vs,?_,bk⟩
     have aN:a.tmps.getD t undef= .pointer (some A):=by simp[Array.getD_eq_getD_getElem?,ax.get _ _ ak]
     have O3:(loadVar T A).run P w= .ok v w:=by simpa[Instr.loadAt,Instr.sureAddr] using az
     simp only[List.mapM_cons,LZ,Sem.run_bind,Sem.run_pure,Result.andThen,aN,asAddr,O3]
     rw[kp]
   · exact h.elim
theorem F_ {fn:Func} {tmps:Array Value} {w:World} {vs:List Value}
   (h:(fn.results.toList.mapM (LZ tmps)).run P w= .ok vs w):
   (results fn tmps).run P w= .ok (II vs) w:=by
 have aY:results fn tmps=(do let vs ←fn.results.mapM (LZ tmps);pure (if h:vs.size=1 then vs[0] else .tuple vs)):=rfl
 rw[aY,Array.mapM_eq_mapM_toList]
 simp only[Sem.run_bind,Sem.run_map]
 rw[h]
 simp only[Result.andThen,Sem.run_pure]
 congr 1
 match vs with
 | []=>rfl
 | [v]=>rfl
 |u::v::vs=>simp[II]
theorem arS {f:FuncId} {fn:Func} {A:bH} {args:List Value} {w:World} {R:Value→World→Prop} (hm:P.follows .mixedOrders=true)
   (aG:P.funcs[f]? =some fn) (eA:F9 fn args.length=true) (h:IJ P aH A fn args w R):
   Calls P f args.toArray w fun e w'=>∃v,e= .returned v∧R v w':=by
 unfold IJ at h
 unfold F9 at eA
 cases ni:fn.body with
 |none=>rw[ni] at h;exact h.elim
 |some c=>
   rw[ni] at h eA
   simp only[jw] at h eA
   obtain ⟨hw,aD⟩:=eA
   have xa:=BT aD
   refine calls_of_wp aG ni ?_
   have dB:(args.toArray++Array.replicate (fn.ntmps-args.toArray.size) undef).size=fn.ntmps:=by simp;omega
   have ax:ga (F8 0 args) {tmps:=args.toArray++Array.replicate (fn.ntmps-args.toArray.size) undef,defers:=[]}:=by
     constructor
     intro s v aj
     obtain ⟨_,ad⟩:=VS aj
     simp only[Gr] at ad
     have a9:s<args.length:=(qs.1 ad).1
     simp[Array.getElem?_append,a9]
     rw[g8 a9] at ad
     exact Option.some.inj ad
   refine tv (Qa hm A c _ _ _ w ax (fun d hd=> ?_) h) ?_
   · have U:=Gq.1 hw d hd
     have ad:=BT U
     show d<(args.toArray++Array.replicate (fn.ntmps-args.toArray.size) undef).size
     rw[dB]
     omega
   · rintro x c3 w' ⟨ae,eH,nv,bk⟩
     have hd:c3.defers=[]:=ae.defers
     cases x with
     |normal=>
       obtain ⟨vs,kp,cU⟩:=Bz nv bk
       exact ⟨hd,_,F_ kp,_,rfl,cU⟩
     |ret=>
       obtain ⟨vs,kp,cU⟩:=Bz nv bk
       exact ⟨hd,_,F_ kp,_,rfl,cU⟩
     |exit id=>exact bk.elim
     |goto l=>exact bk.elim
     |panic DT=>exact bk.elim
     |outgrown=>exact bk.elim
end
end b7
namespace b7
open Go Go.ChangeShapes Go.WideShapes Go.ChangeAt Go.RowKit
def oz (P:Program) (w:World):Nat→TypeId→List Value→Prop
 |0,_,_=>False
 |fuel+1,t,cs=>
   match P.underlying t with
   |some .bool=>∃b:Bool,cs=[.bool b]
   |some (.int k)=>∃n:Int,cs=[.int k n]∧k.min≤n∧n≤k.max
   |some .string=>∃s:ByteArray,cs=[.string s]∧s.size≤maxLen
   |some (.slice e)=>∃s:aa,cs=[.slice s.a s.len s.cap]∧s.len≤s.cap∧s.cap≤maxLen∧(s.a=none→s.cap=0)∧
       ∀a,s.a=some a→∀i,i<s.cap→∃vs,ey w (a.add (i*P.cellsOf e)) 0 (P.cellsOf e)=some vs∧oz P w fuel e vs
   |some (.struct fs)=>cs.length=P.cellsOf t∧∀f∈fs,oz P w fuel f.type ((cs.drop f.offset).take (P.cellsOf f.type))
   |some (.array n e)=>cs.length=P.cellsOf t∧∀i,i<n→oz P w fuel e ((cs.drop (i*P.cellsOf e)).take (P.cellsOf e))
   |some (.pointer e)=>cs=[.pointer none]∨∃a vs,cs=[.pointer (some a)]∧ey w a 0 (P.cellsOf e)=some vs∧oz P w fuel e vs
   |_=>True
theorem mapM_some {α β:Type} {f:α→Option β}:∀ {l:List α} {r:List β},l.mapM f=some r→∀x∈l,∃y,f x=some y
 | [],_,_,_,af=>by cases af
 |a::l,r,h,x,af=>by
   simp only[List.mapM_cons] at h
   cases aS:f a with
   |none=>simp[aS] at h
   |some b=>
     cases az:l.mapM f with
     |none=>simp[aS,az] at h
     |some avo=>
       rcases gp.1 af with rfl|af
       · exact ⟨b,aS⟩
       · exact mapM_some az x af
theorem aeg {w:World} {a:Addr}:∀ (n i:Nat) (vs:List Value),((List.range' i n).mapM fun j=>w.cell? (a.add j))=some vs→ey w a i n=some vs
 |0,i,vs,h=>by simp at h;simp[ey,h]
 |n+1,i,vs,h=>by
   simp only[List.range'_succ,List.mapM_cons] at h
   cases U:w.cell? (a.add i) with
   |none=>simp[U] at h
   |some v=>
     cases ad:((List.range' (i+1) n).mapM fun j=>w.cell? (a.add j)) with
     |none=>simp[U,ad] at h
     |some us=>
       simp[U,ad] at h
       have:=aeg n (i+1) us ad
       simp[ey,U,this,h]
theorem aeh {w:World} {base:Nat} {a:Addr} {n:Nat} {vs:List Value} (h:w.cells? base a n=some vs):ey w a 0 n=some vs:=by
 unfold World.cells? at h
 split at h
 · rw[MN] at h
   exact aeg n 0 vs h
 · cases h
section
variable {H:Type} {enc:TypeId×Value→H} {P:Program} {w:World}
theorem L0:∀ (fuel:Nat) (t:TypeId) (cs:List Value) (x:DataW H×List MemPlace),DataW.trod enc P w 0 (fun _=>true) true fuel t cs=some x→oz P w fuel t cs
 |0,_,_,_,h=>by cases h
 |fuel+1,t,cs,x,h=>by
   simp only[DataW.trod] at h
   simp only[oz]
   cases aN:P.underlying t with
   |none=>trivial
   |some d=>
     rw[aN] at h
     cases d<;>try trivial
     case bool=>
       match cs,h with
       | [.bool b],_=>exact ⟨b,rfl⟩
     case int k=>
       match cs,h with
       | [.int mC n],h=>
         simp only at h
         split at h
         · rename_i ae
           obtain ⟨rfl,hw⟩:=ae
           exact ⟨n,rfl,by simpa[Lit.wf] using hw⟩
         · cases h
     case string=>
       match cs,h with
       | [.string s],h=>
         simp only at h
         split at h
         · rename_i ae;exact ⟨s,rfl,ae⟩
         · cases h
     case pointer e=>
       match cs,h with
       | [.pointer none],_=>exact .inl rfl
       | [.pointer (some a)],h=>
         simp only[Option.map_eq_some_iff] at h
         obtain ⟨y,b2,_⟩:=h
         obtain ⟨vs,U,ad⟩:=Option.bind_eq_some_iff.1 b2
         exact .inr ⟨a,vs,rfl,aeh U,L0 fuel e vs _ ad⟩
     case slice e=>
       match cs,h with
       | [.slice none 0 0],_=>exact ⟨⟨none,0,0⟩,rfl,cP _,fx _,(fun _=>rfl),(fun a aS=>by cases aS)⟩
       | [.slice (some a) len cap],h=>
         simp only at h
         split at h
         · rename_i ae
           refine ⟨⟨some a,len,cap⟩,rfl,ae.2.1,ae.2.2,(fun b3=>by cases b3),fun c3 om i hi=> ?_⟩
           obtain ⟨elems,he,h⟩:=Option.bind_eq_some_iff.1 h
           simp only[if_true,Option.map_eq_some_iff] at h
           obtain ⟨rest,aU,_⟩:=h
           cases om
           have key:∃y,((w.cells? 0 (a.add (i*P.cellsOf e)) (P.cellsOf e)).bind (DataW.trod enc P w 0 (fun _=>true) true fuel e))=some y:=by
             rcases hE i len with az|az
             · exact mapM_some he i (v7.2 az)
             · obtain ⟨y,b2⟩:=mapM_some aU (i-len) (v7.2 (by simp only at hi;omega))
               rw[show len+(i-len)=i by omega] at b2
               exact ⟨y,b2⟩
           obtain ⟨y,b2⟩:=key
           obtain ⟨vs,U,ad⟩:=Option.bind_eq_some_iff.1 b2
           exact ⟨vs,aeh U,L0 fuel e vs _ ad⟩
         · cases h
     case struct fs=>
       simp only at h
       split at h
       · rename_i az
         refine ⟨az,fun f aG=> ?_⟩
         simp only[Option.map_eq_some_iff] at h
         obtain ⟨xM,b2,_⟩:=h
         obtain ⟨y,b2⟩:=mapM_some b2 f (by simpa using aG)
         exact L0 fuel _ _ _ b2
       · cases h
     case array n e=>
       simp only at h
       split at h
       · rename_i az
         refine ⟨az,fun i hi=> ?_⟩
         simp only[Option.map_eq_some_iff] at h
         obtain ⟨xM,b2,_⟩:=h
         obtain ⟨y,b2⟩:=mapM_some b2 i (v7.2 hi)
         exact L0 fuel _ _ _ b2
       · cases h
def FR (P:Program) (w:World) (t:TypeId) (v:Value):Prop:=
 match P.underlying t with
 |some (.struct _)=>∃cs:Array Value,v= .agg cs∧∃fuel,oz P w fuel t cs.toList
 |some (.array _ _)=>∃cs:Array Value,v= .agg cs∧∃fuel,oz P w fuel t cs.toList
 |_=>∃fuel,oz P w fuel t [v]
theorem ade {r:Reach} {o_:Nat} {t:TypeId} {v:Value} {d:DataW H} {ps:List MemPlace} (zr:Value.okWide P w r o_ t v)
   (hd:DataW.Trod enc P w 0 (fun _=>true) true t v d ps):FR P w t v:=by
 obtain ⟨fuel,hd⟩:=hd
 have U:=L0 fuel t _ _ hd
 unfold FR
 unfold Value.okWide at zr
 have arT:(∀cs,v≠ .agg cs)→v.cells.toList=[v]:=fun h=>by cases v<;>first|rfl|exact absurd rfl (h _)
 cases aN:P.underlying t with
 |none=>
   rw[aN] at zr
   cases fuel with
   |zero=>cases hd
   |succ f=>exact ⟨1,by simp[oz,aN]⟩
 |some arU=>
   rw[aN] at zr
   cases arU
   case struct fs=>obtain ⟨cs,rfl,_,_⟩:=zr;exact ⟨cs,rfl,fuel,U⟩
   case array n e=>obtain ⟨cs,rfl,_,_⟩:=zr;exact ⟨cs,rfl,fuel,U⟩
   all_goals
     refine ⟨fuel,?_⟩
     rw[←arT]
     · exact U
     · rintro cs rfl
       simp[Cell.okWide,Cell.ok,aN] at zr
theorem aei {w w':World} (h:ao (fun _=>False) w w'):Below w.heap.size w w':=
 ⟨h.os,h.tape,h.output,h.size,fun k ae=>h.block k ae (fun h=>h)⟩
theorem aq6 {f:Func} {s:ChangeSpec} {apart fresh handsOn again:Bool} {W xL:World} {args:Array Value} {T:TypeId} {ds gs:List (DataW H)} {before pa ku:List MemPlace}
   (dK:DataW.Whole enc P f.params.toList s.vars apart W args.toList ds gs before) (bh:P.underlying T=some .bool) (e9:f.resultTypes= #[T])
   (aj:s.fn H (ds++gs)={results:=[.lit (.bool true)],args:=ds})
   (PG:∀sp:Nat→Bool,(∀p∈before,sp p.block=true)→DataW.TrodAll enc P xL 0 sp true f.params.toList args.toList ds pa)
   (arV:∀sp:Nat→Bool,(∀p∈before,sp p.block=true)→DataW.TrodVars enc P xL sp s.vars [] ku)
   (B8:before=pa++ku) (ab:ao (fun _=>False) W xL):
   s.post enc P f apart fresh handsOn again W args (.bool true) xL:=by
 have e1:=aei ab
 have a9:∀p∈before,p.block<W.heap.size:=fun p aT=>dK.lt p aT
 have hold:∀p∈before,(fun b=>decide (b<W.heap.size)) p.block=true:=fun p aT=>by simpa using a9 p aT
 have aU:∀ (b:Nat) (sp:Nat→Bool) (hd:Bool),DataW.TrodAll enc P xL b sp hd f.resultTypes.toList ((Value.bool true).resultList f.resultTypes.size) (s.fn H (ds++gs)).results []:=by
   intro b sp hd
   rw[aj,e9]
   exact trodAll_cons_mk (shut_bool bh true) trodAll_mk0
 have aS:∀sp:Nat→Bool,(∀p∈before,sp p.block=true)→DataW.TrodAll enc P xL 0 sp true f.params.toList args.toList (s.fn H (ds++gs)).args pa:=by
   intro sp p6
   rw[aj]
   exact PG sp p6
 have ak:∀sp:Nat→Bool,(∀p∈before,sp p.block=true)→DataW.TrodVars enc P xL sp s.vars (s.fn H (ds++gs)).vars ku:=by
   intro sp p6
   rw[aj]
   exact arV sp p6
 refine ⟨ds,gs,before,[],pa,ku,dK,aU _ _ _,aS _ hold,ak _ hold,World.keptBut_mono (fun p aT=>⟨aT,?_⟩) (e1.frame (· ∈before)),fun _=> ?_⟩
 · rw[B8,fe] at aT
   exact Or.inr aT
 · obtain ⟨_,_,_,_,_,bI,aD⟩:=dK
   refine ⟨ok_one e9 rfl (okWide_bool_mk bh _),_,_,([]++pa)++ku,⟨[]++pa,ku,trodAll_append (aS _ (fun _ _=>rfl)) (aU _ _ _),ak _ (fun _ _=>rfl),rfl,?_,?_⟩,?_⟩
   · intro b off aT
     have fy:MemPlace.cell b off∈before:=by rw[B8];simpa using aT
     rw[e1.frozen (a9 _ fy)]
     exact bI b off fy
   · intro JI
     have:=aD JI
     rw[B8] at this
     simpa using this
   · intro p aT _
     rw[B8]
     simpa using aT
theorem adf {t:TypeId} (az:laidOutB P=true) (aU:P.readableRec t=true) (VK:t<P.types.size) {W xL:World} {v:Value} {d:DataW H} {ps:List MemPlace} {sp:Nat→Bool}
   (h:DataW.Trod enc P W 0 (fun _=>true) true t v d ps) (ab:ao (fun _=>False) W xL) (a9:∀x∈ps,x.block<W.heap.size) (aj:∀p∈ps,sp p.block=true):
   DataW.Trod enc P xL 0 sp true t v d ps:=
 WideElems.Trod_stays az aU VK h (fun x af=>(aei ab).same (a9 x af)) aj
end
end b7
namespace b7
open Go Go.RowKit
def aQ (P:Program) (f:FuncId) (args:Array Value) (w:World) (Q:Value→World→Prop):Prop:=
 Calls P f args w fun e ag=>∃v,e= .returned v∧Q v ag
theorem aQ.use {P:Program} {f:FuncId} {args:Array Value} {w:World} {Q:Value→World→Prop} {R:Ending→World→Prop}
   (h:aQ P f args w Q) (k:∀v w',Q v w'→R (.returned v) w'):Calls P f args w R:=
 Calls.mono h fun _ _ ⟨v,ak,J⟩=>by subst ak;exact k v _ J
theorem aQ.mono {P:Program} {f:FuncId} {args:Array Value} {w:World} {Q R:Value→World→Prop}
   (h:aQ P f args w Q) (k:∀v w',Q v w'→R v w'):aQ P f args w R:=
 aQ.use h fun v _ J=>⟨v,rfl,k _ _ J⟩
abbrev Ext (w w':World):Prop:=ao (fun _=>False) w w'
theorem ao.eK {W:Nat→Prop} {w w':World} (h:Ext w w'):ao W w w':=ao.mono h fun _ _ h=>h.elim
theorem ao.drew {W:Nat→Prop} {w w':World} (h:ao W w w'):ao W w w'.drew:=⟨h.os,h.tape,h.output,h.size,h.block⟩
theorem ao.alloc {W:Nat→Prop} {w w':World} (h:ao W w w') (o:Obj):ao W w (w'.alloc o):=
 h.trans ⟨rfl,rfl,rfl,by simp,fun k ae _=>Below.heap_alloc _ _ _ ae⟩
theorem ao.set {W:Nat→Prop} {w w':World} (h:ao W w w') {A:Addr} (ab:A.block<w.heap.size→W A.block) (v:Value):ao W w (w'.setCell A v):=
 ⟨h.os,h.tape,h.output,by simp only[World.setCell,Array.size_modify];exact h.size,fun k ae dK=>by
   rw[Below.heap_setCell _ _ _ _ (fun e=>dK (by subst e;exact ab ae))];exact h.block k ae dK⟩
theorem ao.setCells {W:Nat→Prop} {w:World} {A:Addr} (ab:A.block<w.heap.size→W A.block):∀ (vs:List Value) (i:Nat) {w':World},ao W w w'→ao W w (setCells w' A i vs)
 | [],_,_,h=>h
 |v::vs,i,w',h=>by
   have x9:(A.add i).block=A.block:=by unfold Addr.add;split<;>rfl
   exact ao.setCells ab vs (i+1) (ao.set h (by rw[x9];exact ab) v)
theorem aV (b o n:Nat):(Addr.mk b o none).add n=⟨b,o+n,none⟩:=by
 unfold Addr.add;split
 · rename_i h;subst h;rfl
 · rfl
def cn (w:World) (b:Nat) (c:Array Value) (T:TypeId):Prop:=w.heap[b]? =some (.cells c T (0,0))
section
variable {w w':World} {b i:Nat} {c:Array Value} {T:TypeId}
theorem cn.lt (h:cn w b c T):b<w.heap.size:=(Jj.1 h).1
theorem cn.cell (h:cn w b c T) (i:Nat):w.cell? ⟨b,i,none⟩=c[i]? :=by
 unfold cn at h
 simp[World.cell?,h]
theorem cn.frozen (h:cn w b c T) (A:Addr) (ax:A.block=b):w.frozen? A=false:=by
 unfold cn at h
 simp[World.frozen?,ax,h]
theorem cn.an {W:Nat→Prop} (h:cn w b c T) (al:ao W w w') (ab:¬W b):cn w' b c T:=by
 have az:=h.lt
 unfold cn at h⊢
 rw[al.block b az ab];exact h
theorem cn.ext (h:cn w b c T) (al:Ext w w'):cn w' b c T:=h.an al id
theorem cn.drew (h:cn w b c T):cn w.drew b c T:=h
theorem cn.new (w:World) (c:Array Value) (T:TypeId):cn (w.alloc (.cells c T)) w.heap.size c T:=by
 show (w.heap.push (.cells c T))[w.heap.size]? =some (.cells c T (0,0))
 simp
theorem cn.set (h:cn w b c T) (i:Nat) (v:Value):cn (w.setCell ⟨b,i,none⟩ v) b (c.setIfInBounds i v) T:=by
 unfold cn at h⊢
 simp[World.setCell,Array.getElem?_modify,h]
def oE (c:Array Value) (i:Nat):List Value→Array Value
 | []=>c
 |v::vs=>oE (c.setIfInBounds i v) (i+1) vs
theorem rk:∀ (vs:List Value) (c:Array Value) (i:Nat),(oE c i vs).size=c.size
 | [],_,_=>rfl
 |v::vs,c,i=>by simp[oE,rk vs]
theorem cn.Jm:∀ (vs:List Value) {w:World} {c:Array Value} (i j:Nat),cn w b c T→cn (setCells w ⟨b,i,none⟩ j vs) b (oE c (i+j) vs) T
 | [],_,_,_,_,h=>h
 |v::vs,w,c,i,j,h=>by
   simp only[setCells,oE,aV]
   have:=cn.Jm vs i (j+1) (h.set (i+j) v)
   rw[show i+(j+1)=i+j+1 by omega] at this
   exact this
theorem cn.dr (h:cn w b c T) (i:Nat) (vs:List Value) (aD:i+vs.length≤c.size) (aT:∀v∈vs,Plain v):cM w ⟨b,i,none⟩ vs:=by
 refine ⟨fun j a6=> ?_,aT⟩
 rw[aV,h.cell,h.frozen _ rfl]
 have:i+j<c.size:=by omega
 simp[this]
end
theorem ym {B:(World→Prop)→Prop} {rest:World→Prop} (φ:World→Prop) (U:∀k:World→Prop,(∀w,φ w→k w)→B k) (ad:∀w,φ w→rest w):c5 B rest:=⟨U rest ad⟩
theorem e4 {τ:Type} {B:(τ→World→Prop)→Prop} {rest:τ→World→Prop} (φ:τ→World→Prop) (U:∀k:τ→World→Prop,(∀x w,φ x w→k x w)→B k) (ad:∀x w,φ x w→rest x w):c5 B rest:=⟨U rest ad⟩
theorem TK {τ σ:Type} {B:(τ→σ→World→Prop)→Prop} {rest:τ→σ→World→Prop} (φ:τ→σ→World→Prop) (U:∀k:τ→σ→World→Prop,(∀x y w,φ x y w→k x y w)→B k) (ad:∀x y w,φ x y w→rest x y w):c5 B rest:=⟨U rest ad⟩
theorem aqJ {n:Int} (b3:IntKind.u8.min≤n) (U:n≤IntKind.u8.max):0≤n∧n≤255:=by
 simpa[IntKind.min,IntKind.max,IntKind.signed,IntKind.bits] using And.intro b3 U
theorem cE {n:Int} (b3: -9223372036854775808≤n) (U:n≤9223372036854775807):IntKind.i64.wrap n=n:=by
 by_cases h:0≤n
 · exact Vr h U
 · have e:n%18446744073709551616=n+18446744073709551616:=by omega
   simp[IntKind.wrap,IntKind.signed,IntKind.bits,e]
   omega
end b7
namespace b7
open Go Go.RowKit
structure Src (sz:Nat) (w:World) (x:aa) (xs:List Value):Prop where
 len:xs.length=x.len*sz
 nil:x.a=none→xs=[]
 rd:∀a,x.a=some a→ey w a 0 (x.len*sz)=some xs
def b6 (sz:Nat) (T:TypeId) (w:World) (s:aa) (vs:List Value):Prop:=
 vs.length=s.len*sz∧s.len≤s.cap∧s.cap≤maxLen∧
 ((s.a=none∧s.cap=0)∨∃b c,s.a=some ⟨b,0,none⟩∧cn w b c T∧c.size=s.cap*sz∧c.toList.take (s.len*sz)=vs)
def aR (s:aa) (k:Nat):Prop:=∃A,s.a=some A∧A.block=k
theorem L1 {w:World} {A:Addr}:∀ {n i:Nat} {vs:List Value},ey w A i n=some vs→vs.length=n
 |0,_,_,h=>by simp[ey] at h;simp[←h]
 |n+1,i,vs,h=>by
   simp only[ey] at h
   cases U:w.cell? (A.add i) with
   |none=>simp[U] at h
   |some v=>
     cases ad:ey w A (i+1) n with
     |none=>simp[U,ad] at h
     |some us=>
       simp only[U,ad,Option.some.injEq] at h
       subst h
       simp[L1 ad]
theorem GJ {w:World} {b:Nat} {c:Array Value} {T:TypeId} (h:cn w b c T):∀ (n o i:Nat),o+i+n≤c.size→ey w ⟨b,o,none⟩ i n=some ((c.toList.drop (o+i)).take n)
 |0,o,i,_=>by simp[ey]
 |n+1,o,i,aD=>by
   have U:o+i<c.size:=by omega
   have dw:=GJ h n o (i+1) (by omega)
   simp only[ey,aV,h.cell,dw]
   have ad:c[o+i]? =some c[o+i]:=by simp[U]
   rw[ad]
   simp only[Option.some.injEq]
   have ar:c.toList.drop (o+i)=c[o+i]::c.toList.drop (o+i+1):=by
     rw[uJ (by simpa using U)]
     simp
   rw[ar]
   simp[Nat.add_assoc]
theorem b6.src {sz:Nat} {T:TypeId} {w:World} {s:aa} {vs:List Value} (h:b6 sz T w s vs):Src sz w s vs:=by
 obtain ⟨U,ad,ar,aI⟩:=h
 refine ⟨U,fun aD=> ?_,fun a aS=> ?_⟩
 · rcases aI with ⟨_,al⟩|⟨b,c,ab,_⟩
   · have:s.len=0:=by omega
     rw[this,Nat.zero_mul] at U
     exact zF.1 U
   · rw[aD] at ab;cases ab
 · rcases aI with ⟨aD,_⟩|⟨b,c,ab,iW,aj,ak⟩
   · rw[aD] at aS;cases aS
   · rw[ab] at aS
     cases aS
     have:=GJ iW (s.len*sz) 0 0 (by rw[aj];simp;exact BQ _ ad)
     rw[this]
     simp[ak]
section
variable {P:Program} {w:World}
theorem GK {sz:Nat} {x:aa} {xs:List Value} (h:Src sz w x xs):(Builtin.firstCells sz x.len (.slice x.a x.len x.cap)).run P w= .ok xs.toArray w:=by
 cases af:x.a with
 |none=>rw[h.nil af];rfl
 |some a=>
   simp only[Builtin.firstCells,loadCells]
   rw[run_loadCellsFrom _ _ _ _ (h.rd a af)]
   simp
theorem aej (BA:Nat):∀ (r c:Nat),c≤2*BA+1000→Builtin.growBy BA r c≤2*BA+1000
 |0,c,h=>h
 |r+1,c,h=>by
   simp only[Builtin.growBy]
   split
   · exact h
   · exact aej BA r _ (by omega)
theorem aek {BA cap:Nat} (h:cap<BA):Builtin.nextslicecap BA cap≤2*BA+1000:=by
 unfold Builtin.nextslicecap
 split
 · omega
 · split
   · omega
   · exact aej BA 4 cap (by omega)
theorem RJ {nh:Array TypeId} {ez ed u6 e:TypeId} {d:TypeDesc} {sz:Nat} {s x:aa} {xs:List Value} (b3:nh[0]? =some ed) (U:nh[1]? =some u6)
   (aj:P.underlying ed=some (.slice e)) (af:P.underlying u6=some (.slice e)) (he:P.underlying e=some d) (dB:P.cellsOf e=sz) (mw:Src sz w x xs)
   (jT:s.len+x.len≤s.cap) (gI:∀a,s.a=some a→cM w (a.add (s.len*sz)) xs):
   Sem.run P (Builtin.append_ nh ez #[.slice s.a s.len s.cap, .slice x.a x.len x.cap]) w=
     .ok (.slice s.a (s.len+x.len) s.cap) (match s.a with|some a=>setCells w (a.add (s.len*sz)) 0 xs|none=>w):=by
 have aG:=GK (P:=P) mw
 have BB:=qy (w:=w) he
 rw[dB] at BB
 cases sL:s.a with
 |none=>
   simp[Builtin.append_,b3,U,fX aj,fX af,BB,Builtin.lenOf,jT,aG]
 |some a=>
   have BZ:=gI a sL
   have:=GL (P:=P) (A:=a.add (s.len*sz)) xs 0 w (by simpa using BZ.1) BZ.2
   simp[Builtin.append_,b3,U,fX aj,fX af,BB,Builtin.lenOf,jT,aG,this]
theorem run_append_grow {nh:Array TypeId} {ez ed u6 e:TypeId} {i:TypeInfo} {z:Value} {sz:Nat} {s x:aa} {xs g5:List Value} (b3:nh[0]? =some ed) (U:nh[1]? =some u6)
   (aj:P.underlying ed=some (.slice e)) (af:P.underlying u6=some (.slice e)) (hi:P.info? e=some i) (hd:(P.underlying e).isSome=true) (bI:i.zero=some z) (wA:z.cells.size=sz) (dB:P.cellsOf e=sz)
   (ab:i.bytes≠0) (mw:Src sz w x xs) (hold:Src sz w s g5) (jT:s.cap<s.len+x.len) (vX:(2*(s.len+x.len)+1000)*i.bytes≤281474976710656):
   ∃ (jL:Nat) (rest:List Value),s.len+x.len≤jL∧jL≤maxLen∧rest.length=(jL-(s.len+x.len))*sz∧
     Sem.run P (Builtin.append_ nh ez #[.slice s.a s.len s.cap, .slice x.a x.len x.cap]) w=
       .ok (.slice (some ⟨w.heap.size,0,none⟩) (s.len+x.len) jL) (w.drew.alloc (.cells (g5++xs++rest).toArray e)):=by
 obtain ⟨d,hd⟩:=tP _ hd
 have BB:=qy (w:=w) hd
 rw[dB] at BB
 have Pm:=aek jT
 have aD:Builtin.nextslicecap (s.len+x.len) s.cap*i.bytes≤281474976710656:=iT (BQ _ Pm) vX
 have arW:s.len+x.len≤281474976710656:=by
   have:s.len+x.len≤(2*(s.len+x.len)+1000)*i.bytes:=by
     have:=Nat.mul_le_mul_left (2*(s.len+x.len)+1000) (Nat.one_le_iff_ne_zero.2 ab)
     omega
   omega
 let q:Question:= .appendCap (s.len+x.len) s.cap e
 let jL:Nat:=q.cut (w.tape w.drawn q)
 have J:q.forced=false:=rfl
 have fh:s.len+x.len≤jL:=by show s.len+x.len≤s.len+x.len+_;omega
 have VT:jL≤maxLen:=by
   show s.len+x.len+_%(2^63-(s.len+x.len))≤2^63-1
   have:=sI (w.tape w.drawn q) (y:=2^63-(s.len+x.len)) (by omega)
   omega
 have arX:Src sz w.drew x xs:=⟨mw.len,mw.nil,fun a aS=>by
   have:=mw.rd a aS
   have al:ao (fun _=>False) w w.drew:=ao.drew (.refl _ _)
   exact al.ey (by simp) _ _ _ this⟩
 have VU:Src sz w.drew s g5:=⟨hold.len,hold.nil,fun a aS=>by
   have:=hold.rd a aS
   have al:ao (fun _=>False) w w.drew:=ao.drew (.refl _ _)
   exact al.ey (by simp) _ _ _ this⟩
 have aG:=GK (P:=P) arX
 have py:=GK (P:=P) VU
 have VV:∀n (w':World),(askRoom n).run P w'= .ok () w':=fun n w'=>by unfold askRoom;split<;>rfl
 have VW:(choose q).run P w= .ok jL w.drew:=by
   show Sem.run P (.choose q .pure) w=_
   simp only[Sem.run,J,n2,if_false]
   rfl
 have CF:=fun w:World=>CG (w:=w) hi
 refine ⟨jL,(Builtin.zeroCells z.cells (jL-(s.len+x.len))).toList,fh,VT,by simp[Builtin.zeroCells,wA],?_⟩
 have aY:¬(s.len+x.len≤s.cap):=by omega
 have bm:¬((s.len+x.len:Nat):Int)>IntKind.i64.max:=by
   simp[IntKind.max,IntKind.signed,IntKind.bits];omega
 have dM:¬(281474976710656<Builtin.nextslicecap (s.len+x.len) s.cap*i.bytes):=by omega
 have kE:¬Builtin.nextslicecap (s.len+x.len) s.cap*i.bytes>2^48:=by simpa using dM
 unfold Builtin.append_
 simp only[MO,zL,List.getElem?_cons_succ,b3,U,Sem.run_bind,fX aj,fX af,Result.andThen,BB,Builtin.lenOf,Sem.run_pure,aY,if_false,n2,CF,bm,false_and,kE,Bool.not_false,if_true]
 have VX:Sem.run P (choose (.appendCap (s.len+x.len) s.cap e)) w= .ok jL w.drew:=VW
 simp only[VX,VV,aG,py,zeroValue,CF,bI,Sem.run_bind,Result.andThen,Sem.run_pure,newRow,newObj,Sem.run]
 have q5:w.drew.heap.size=w.heap.size:=rfl
 rw[q5]
 congr 1
 show w.drew.alloc _=w.drew.alloc _
 congr 2
 simp
theorem MZ:∀ (vs:List Value) (c:Array Value) (i:Nat),i+vs.length≤c.size→(oE c i vs).toList.take (i+vs.length)=c.toList.take i++vs
 | [],c,i,_=>by simp[oE]
 |v::vs,c,i,h=>by
   simp only[oB] at h
   simp only[oE]
   have:=MZ vs (c.setIfInBounds i v) (i+1) (by simpa using (by omega:i+1+vs.length≤c.size))
   rw[show i+(v::vs).length=i+1+vs.length by simp;omega,this]
   have hi:i<c.size:=by omega
   have ad:(c.setIfInBounds i v).toList.take (i+1)=c.toList.take i++ [v]:=by
     rw[uK (by simpa using hi)]
     have ar:(List.take i c.toList).set i v=List.take i c.toList:=by
       apply List.set_eq_of_length_le
       simp only[dV]
       omega
     simp[List.take_set,ar]
   rw[ad]
   simp
theorem arY {nh:Array TypeId} {ez ed u6 e:TypeId} {i:TypeInfo} {z:Value} {sz:Nat} {s x:aa} {xs vs:List Value} (b3:nh[0]? =some ed) (U:nh[1]? =some u6)
   (aj:P.underlying ed=some (.slice e)) (af:P.underlying u6=some (.slice e)) (hi:P.info? e=some i) (hd:(P.underlying e).isSome=true) (bI:i.zero=some z) (wA:z.cells.size=sz) (dB:P.cellsOf e=sz)
   (ab:i.bytes≠0) (mw:Src sz w x xs) (mU:b6 sz e w s vs) (aT:∀v∈xs,Plain v) (vX:(2*(s.len+x.len)+1000)*i.bytes≤281474976710656):
   ∃ (au:aa) (w':World),Sem.run P (Builtin.append_ nh ez #[.slice s.a s.len s.cap, .slice x.a x.len x.cap]) w= .ok (.slice au.a au.len au.cap) w'∧
     b6 sz e w' au (vs++xs)∧au.len=s.len+x.len∧ao (aR s) w w'∧(∀k,aR au k→aR s k∨w.heap.size≤k):=by
 have hold:=mU.src
 obtain ⟨aA,aF,aJ,aO⟩:=mU
 by_cases jT:s.len+x.len≤s.cap
 · have gI:∀a,s.a=some a→cM w (a.add (s.len*sz)) xs:=by
     intro a aS
     rcases aO with ⟨aD,_⟩|⟨b,c,Ha,iW,fj,ak⟩
     · rw[aD] at aS;cases aS
     · rw[Ha] at aS
       cases aS
       rw[aV]
       refine iW.dr _ _ ?_ aT
       rw[fj,mw.len,gR,←v8]
       exact BQ _ jT
   obtain ⟨d,hd⟩:=tP _ hd
   have zX:=RJ (ez:=ez) b3 U aj af hd dB mw jT gI
   refine ⟨⟨s.a,s.len+x.len,s.cap⟩,_,zX,?_,rfl,?_,fun k ae=> .inl ae⟩
   · refine ⟨by simp[aA,mw.len,v8],jT,aJ,?_⟩
     rcases aO with ⟨aD,al⟩|⟨b,c,Ha,iW,fj,ak⟩
     · exact .inl ⟨aD,al⟩
     · refine .inr ⟨b,oE c (s.len*sz) xs,Ha,?_,by rw[rk];exact fj,?_⟩
       · simp only[Ha,aV]
         have:=cn.Jm (T:=e) xs (0+s.len*sz) 0 iW
         simpa using this
       · have hle:s.len*sz+xs.length≤c.size:=by
           rw[fj,mw.len,←v8]
           exact BQ _ jT
         have:=MZ xs c (s.len*sz) hle
         rw[mw.len,←v8] at this
         rw[this,ak]
   · cases sL:s.a with
     |none=>exact .refl _ _
     |some a=>
       refine ao.setCells (fun _=> ?_) xs 0 (.refl _ _)
       exact ⟨a,sL,by unfold Addr.add;split<;>rfl⟩
 · obtain ⟨jL,rest,mR,o5,aU,zX⟩:=run_append_grow (ez:=ez) b3 U aj af hi hd bI wA dB ab mw hold (by omega) vX
   refine ⟨⟨some ⟨w.heap.size,0,none⟩,s.len+x.len,jL⟩,_,zX,?_,rfl,ao.alloc (ao.drew (.refl _ _)) _,?_⟩
   · refine ⟨by simp[aA,mw.len,v8],mR,o5, .inr ⟨w.heap.size,(vs++xs++rest).toArray,rfl,cn.new w.drew _ _,?_,?_⟩⟩
     · simp[aA,mw.len,aU]
       rw[←v8,←v8]
       congr 1
       omega
     · have:(vs++xs).length=(s.len+x.len)*sz:=by simp[aA,mw.len,v8]
       show List.take ((s.len+x.len)*sz) (vs++xs++rest).toArray.toList=vs++xs
       rw[←this]
       exact List.take_left
   · rintro k ⟨A,ax,ae⟩
     cases ax
     exact .inr (by simpa using ae▸cP _)
end
theorem b6.an {sz:Nat} {T:TypeId} {w w':World} {s:aa} {vs:List Value} {W:Nat→Prop} (h:b6 sz T w s vs) (al:ao W w w') (aD:∀k,aR s k→¬W k):b6 sz T w' s vs:=by
 obtain ⟨U,ad,ar,aI⟩:=h
 refine ⟨U,ad,ar,?_⟩
 rcases aI with aI|⟨b,c,ab,iW,fj,ak⟩
 · exact .inl aI
 · exact .inr ⟨b,c,ab,iW.an al (aD b ⟨_,ab,rfl⟩),fj,ak⟩
theorem Src.an {sz:Nat} {w w':World} {s:aa} {vs:List Value} {W:Nat→Prop} (h:Src sz w s vs) (al:ao W w w') (aD:∀k,aR s k→¬W k):Src sz w' s vs:=
 ⟨h.len,h.nil,fun a aS=>al.ey (aD _ ⟨a,aS,rfl⟩) _ _ _ (h.rd a aS)⟩
theorem b6.lt {sz:Nat} {T:TypeId} {w:World} {s:aa} {vs:List Value} (h:b6 sz T w s vs):∀k,aR s k→k<w.heap.size:=by
 rintro k ⟨A,ax,rfl⟩
 obtain ⟨_,_,_,aI⟩:=h
 rcases aI with ⟨aD,_⟩|⟨b,c,ab,iW,_⟩
 · rw[aD] at ax;cases ax
 · rw[ab] at ax;cases ax;exact iW.lt
theorem b6.cell {T:TypeId} {w:World} {s:aa} {vs:List Value} (h:b6 1 T w s vs) {i:Nat} {v:Value} (ak:vs[i]? =some v):
   ∃b c,s.a=some ⟨b,0,none⟩∧cn w b c T∧c.size=s.cap∧i<s.len∧i<c.size∧w.cell? ⟨b,i,none⟩=some v∧c.toList.take s.len=vs:=by
 obtain ⟨U,ad,ar,aI⟩:=h
 have hi:i<s.len:=by
   have:=(qs.1 ak).1
   omega
 rcases aI with ⟨_,al⟩|⟨b,c,ab,iW,fj,aN⟩
 · omega
 · rw[ml] at fj aN
   refine ⟨b,c,ab,iW,fj,hi,by omega,?_,aN⟩
   rw[iW.cell]
   rw[←aN,List.getElem?_take] at ak
   rw[if_pos hi] at ak
   simpa using ak
theorem b6.set {T:TypeId} {w:World} {s:aa} {vs:List Value} {b i:Nat} (h:b6 1 T w s vs) (ab:s.a=some ⟨b,0,none⟩) (v:Value):
   b6 1 T (w.setCell ⟨b,i,none⟩ v) s (vs.set i v):=by
 obtain ⟨U,ad,ar,aI⟩:=h
 refine ⟨by simpa using U,ad,ar, .inr ?_⟩
 rcases aI with ⟨aD,_⟩|⟨jh,c,kn,iW,fj,aN⟩
 · rw[aD] at ab;cases ab
 · rw[ab] at kn
   cases kn
   refine ⟨b,_,ab,iW.set i v,by simpa using fj,?_⟩
   rw[←aN]
   simp[List.take_set]
def ael (P:Program) (ed e:TypeId) (sz bytes:Nat):Bool:=
 match P.underlying ed,P.info? e,P.underlying e with
 |some (.slice eH),some i,some _=>eH==e&&(match i.zero with|some z=>z.cells.size==sz|none=>false)&&P.cellsOf e==sz&&i.bytes==bytes&&bytes !=0
 |_,_,_=>false
structure qx (P:Program) (ed e:TypeId) (sz bytes:Nat):Prop where
 h:ael P ed e sz bytes=true
theorem qx.out {P:Program} {ed e:TypeId} {sz bytes:Nat} (h:qx P ed e sz bytes):
   P.underlying ed=some (.slice e)∧∃i z,P.info? e=some i∧(P.underlying e).isSome=true∧i.zero=some z∧z.cells.size=sz∧P.cellsOf e=sz∧i.bytes=bytes∧bytes≠0:=by
 have h:=h.h
 unfold ael at h
 split at h
 · rename_i eH i d U ad ar
   simp only[jw,zJ,bne_iff_ne] at h
   obtain ⟨⟨⟨⟨rfl,aI⟩,aW⟩,b5⟩,im⟩:=h
   split at aI
   · rename_i z bI
     exact ⟨U,i,z,ad,by simp[ar],bI,by simpa using aI,aW,b5,im⟩
   · cases aI
 · cases h
theorem qx.append {P:Program} {w:World} {ed e ez:TypeId} {sz bytes:Nat} {s x:aa} {xs vs:List Value} (h:qx P ed e sz bytes)
   (mw:Src sz w x xs) (mU:b6 sz e w s vs) (aT:∀v∈xs,Plain v) (vX:(2*(s.len+x.len)+1000)*bytes≤281474976710656):
   ∃ (au:aa) (w':World),Sem.run P (Builtin.append_ #[ed,ed] ez #[.slice s.a s.len s.cap, .slice x.a x.len x.cap]) w= .ok (.slice au.a au.len au.cap) w'∧
     b6 sz e w' au (vs++xs)∧au.len=s.len+x.len∧ao (aR s) w w'∧(∀k,aR au k→aR s k∨w.heap.size≤k):=by
 obtain ⟨U,i,z,ad,ar,aI,aW,b5,rfl,n9⟩:=h.out
 exact arY rfl rfl U U ad ar aI aW b5 n9 mw mU aT vX
theorem Src.new {sz:Nat} {T:TypeId} (w:World) (xs:List Value) (n:Nat) (aD:xs.length=n*sz):Src sz (w.alloc (.cells xs.toArray T)) ⟨some ⟨w.heap.size,0,none⟩,n,n⟩ xs:=by
 refine ⟨aD,(fun h=>by cases h),fun a aS=> ?_⟩
 cases aS
 rw[GJ (cn.new w xs.toArray T) _ _ _ (by simp[aD])]
 simp[←aD]
theorem b6.new {sz:Nat} {T:TypeId} (w:World) (xs:List Value) (n:Nat) (aD:xs.length=n*sz) (hm:n≤maxLen):b6 sz T (w.alloc (.cells xs.toArray T)) ⟨some ⟨w.heap.size,0,none⟩,n,n⟩ xs:=by
 refine ⟨aD,cP _,hm, .inr ⟨_,_,rfl,cn.new w _ _,by simp[aD],?_⟩⟩
 show List.take (n*sz) xs=xs
 rw[←aD,tD]
theorem b6.none (sz:Nat) (T:TypeId) (w:World):b6 sz T w ⟨.none,0,0⟩ []:=⟨by simp,cP _,by decide, .inl ⟨rfl,rfl⟩⟩
theorem r7 (k:Nat):¬aR ⟨.none,0,0⟩ k:=by rintro ⟨A,ax,_⟩;cases ax
theorem xh {A:Addr} {n m k:Nat}:aR ⟨some A,n,m⟩ k↔A.block=k:=⟨fun ⟨B,e1,h⟩=>by cases e1;exact h,fun h=>⟨_,rfl,h⟩⟩
theorem Src.alloc {sz:Nat} {w:World} {s:aa} {vs:List Value} (h:Src sz w s vs) (o:Obj):Src sz (w.alloc o) s vs:=h.an (W:=fun _=>False) (ao.alloc (.refl _ _) o) (fun _ _ h=>h)
theorem b6.ext {sz:Nat} {T:TypeId} {w w':World} {s:aa} {vs:List Value} (h:b6 sz T w s vs) (al:Ext w w'):b6 sz T w' s vs:=h.an al fun _ _ h=>h
theorem Src.ext {sz:Nat} {w w':World} {s:aa} {vs:List Value} (h:Src sz w s vs) (al:Ext w w'):Src sz w' s vs:=h.an al fun _ _ h=>h
theorem qx.push {P:Program} {w:World} {ed e ez:TypeId} {sz bytes:Nat} {s:aa} {vs xs:List Value} (h:qx P ed e sz bytes) (af:xs.length=sz)
   (mU:b6 sz e w s vs) (aT:∀v∈xs,Plain v) (vX:(2*(s.len+1)+1000)*bytes≤281474976710656):
   ∃ (au:aa) (w':World),Sem.run P (Builtin.append_ #[ed,ed] ez #[.slice s.a s.len s.cap, .slice (some ⟨w.heap.size,0,none⟩) 1 1]) (w.alloc (.cells xs.toArray e))= .ok (.slice au.a au.len au.cap) w'∧
     b6 sz e w' au (vs++xs)∧au.len=s.len+1∧ao (aR s) w w'∧(∀k,aR au k→aR s k∨w.heap.size≤k):=by
 have al:Ext w (w.alloc (.cells xs.toArray e)):=ao.alloc (.refl _ _) _
 obtain ⟨au,w',U,ad,ar,aI,aW⟩:=h.append (ez:=ez) (Src.new (T:=e) w xs 1 (by simpa using af)) (mU.ext al) aT vX
 exact ⟨au,w',U,ad,ar,(ao.eK al).trans aI,fun k ae=>(aW k ae).imp id (fun h=>by simp at h;omega)⟩
theorem qx.clone {P:Program} {w:World} {ed e ez:TypeId} {sz bytes:Nat} {x:aa} {xs:List Value} (h:qx P ed e sz bytes)
   (mw:Src sz w x xs) (aT:∀v∈xs,Plain v) (vX:(2*x.len+1000)*bytes≤281474976710656):
   ∃ (au:aa) (w':World),Sem.run P (Builtin.append_ #[ed,ed] ez #[.slice (some ⟨w.heap.size,0,none⟩) 0 0, .slice x.a x.len x.cap]) (w.alloc (.cells #[] e))= .ok (.slice au.a au.len au.cap) w'∧
     b6 sz e w' au xs∧au.len=x.len∧Ext w w'∧(∀k,aR au k→w.heap.size≤k)∧au.a.isSome=true:=by
 have mU:=b6.new (sz:=sz) (T:=e) w [] 0 (by simp) (by decide)
 have aem:=mw.alloc (.cells #[] e)
 obtain ⟨au,w',U,ad,ar,aI,aW⟩:=h.append (ez:=ez) aem mU aT (by simpa using vX)
 refine ⟨au,w',U,by simpa using ad,by simpa using ar,?_,fun k ae=> ?_,?_⟩
 · refine ⟨aI.os.trans rfl,aI.tape.trans rfl,aI.output.trans rfl,?_,fun k ae _=> ?_⟩
   · have:=aI.size;simp at this;omega
   · rw[aI.block k (by simp;omega) (by rintro ⟨A,ax,h⟩;cases ax;simp at h;omega)]
     exact Below.heap_alloc _ _ _ ae
 · rcases aW k ae with ⟨A,ax,h⟩|h
   · cases ax;simp at h;omega
   · simp at h;omega
 · obtain ⟨_,i,z,EO,Vs,avp,ahN,arZ,rfl,n9⟩:=h.out
   have ab:=ad.2.2.2
   rcases ab with ⟨aD,al⟩|⟨b,c,ab,_⟩
   ·
     exfalso
     have az:=ad.2.1
     have FZ:x.len=0:=by simp at ar;omega
     have aaC:xs=[]:=zF.1 (by rw[mw.len,FZ,Nat.zero_mul])
     obtain ⟨d,hd⟩:=tP _ Vs
     have:=RJ (P:=P) (w:=w.alloc (.cells #[] e)) (nh:= #[ed,ed]) (ez:=ez) (s:=⟨some ⟨w.heap.size,0,Option.none⟩,0,0⟩) rfl rfl h.out.1 h.out.1 hd arZ aem (by simp[FZ]) (fun a _=>by
       rw[aaC];exact ⟨fun i hi=>by simp at hi,fun v ak=>by simp at ak⟩)
     rw[this] at U
     simp only[Result.ok.injEq,Value.slice.injEq] at U
     rw[aD] at U
     cases U.1.1
   · rw[ab];rfl
theorem b6.at {T:TypeId} {w:World} {s:aa} {vs:List Value} (h:b6 1 T w s vs) {i:Nat} {v:Value} (ak:vs[i]? =some v):
   ∃A:Addr,s.a=some A∧((0:Int)≤(i:Int)∧(i:Int)<((s.len:Nat):Int))∧w.cell? (A.add (Int.toNat (i:Int)*1))=some v∧w.frozen? (A.add (Int.toNat (i:Int)*1))=false∧
     aR s (A.add (Int.toNat (i:Int)*1)).block∧∀tX,b6 1 T (w.setCell (A.add (Int.toNat (i:Int)*1)) tX) s (vs.set i tX):=by
 obtain ⟨b,c,ab,iW,fj,hi,Sx,al,_⟩:=h.cell ak
 have aS:(Addr.mk b 0 Option.none).add (Int.toNat (i:Int)*1)=⟨b,i,Option.none⟩:=by rw[ml,hF,aV,gR]
 exact ⟨_,ab,⟨by omega,by omega⟩,by rw[aS];exact al,by rw[aS];exact iW.frozen _ rfl,by rw[aS];exact ⟨_,ab,rfl⟩,fun tX=>by rw[aS];exact h.set ab tX⟩
end b7
namespace b7
open Go Go.RowKit
def aen (px:List Int):ByteArray:=px.foldl (fun r n=>r.push (UInt8.ofNat n.toNat)) ByteArray.empty
theorem agT {P:Program} {w:World} {src dst e:TypeId} {s:aa} {px:List Int} (aj:P.underlying src=some (.slice e)) (he:P.underlying e=some (.int .u8)) (hd:P.underlying dst=some .string)
   (h:Src 1 w s (px.map (.int .u8))):Sem.run P (convert src dst (.slice s.a s.len s.cap)) w= .ok (.string (aen px)) w:=by
 rw[run_convert_bytes_string w src dst e s.a s.len s.cap aj he hd]
 cases aS:s.a with
 |none=>
   have:=h.nil aS
   have aD:px=[]:=by simpa using this
   subst aD
   rfl
 |some A=>
   have aU:=h.rd A aS
   rw[ml] at aU
   exact run_bytesToString w A s.len s.cap px (by
     unfold loadCells
     rw[run_loadCellsFrom _ _ _ _ aU]
     simp)
theorem Xl {P:Program} {e:TypeId} {v:Value} (bI:((P.info? e).bind (·.zero)).map (·.cells)=some #[v]) (al:P.cellsOf e=1) (n:Nat):pC P e n=(List.replicate n v).toArray:=by
 unfold pC
 rw[al]
 cases hi:(P.info? e).bind (·.zero) with
 |none=>rw[hi] at bI;cases bI
 |some z=>
   rw[hi] at bI
   simp only[BP,Option.some.injEq] at bI
   simp only[Option.getD_some,bI,ml]
   apply Array.ext
   · simp
   · intro i U ad
     have aD:n≠0:=by
       intro h;subst h;simp at ad
     simp[aD,Nat.mod_one]
structure FQ (P:Program) (w:World) (e:TypeId) (s:aa):Prop where
 le:s.len≤s.cap
 cap:s.cap≤maxLen
 nil:s.a=none→s.cap=0
 cell:∀a,s.a=some a→∀i,i<s.cap→∃vs,ey w (a.add (i*P.cellsOf e)) 0 (P.cellsOf e)=some vs∧∃fuel,oz P w fuel e vs
section
variable {P:Program} {w:World} {T:TypeId} {fuel:Nat} {cs:List Value}
theorem Vd {k:IntKind} (h:oz P w fuel T cs) (bh:P.underlying T=some (.int k)):∃n:Int,cs=[.int k n]∧k.min≤n∧n≤k.max:=by
 cases fuel with
 |zero=>cases h
 |succ f=>simpa only[oz,bh] using h
theorem Ve {e:TypeId} (h:oz P w fuel T cs) (bh:P.underlying T=some (.slice e)):∃s:aa,cs=[.slice s.a s.len s.cap]∧FQ P w e s:=by
 cases fuel with
 |zero=>cases h
 |succ f=>
   simp only[oz,bh] at h
   obtain ⟨s,b3,U,ad,ar,aI⟩:=h
   exact ⟨s,b3,U,ad,ar,fun a aS i hi=>by
     obtain ⟨vs,aW,b5⟩:=aI a aS i hi
     exact ⟨vs,aW,f,b5⟩⟩
theorem acZ {fs:Array Field} (h:oz P w fuel T cs) (bh:P.underlying T=some (.struct fs)):cs.length=P.cellsOf T∧∀f∈fs,∃fuel,oz P w fuel f.type ((cs.drop f.offset).take (P.cellsOf f.type)):=by
 cases fuel with
 |zero=>cases h
 |succ f=>
   simp only[oz,bh] at h
   exact ⟨h.1,fun g a7=>⟨f,h.2 g a7⟩⟩
theorem FQ.of {e:TypeId} {v:Value} (h:FR P w T v) (bh:P.underlying T=some (.slice e)):∃s:aa,v= .slice s.a s.len s.cap∧FQ P w e s:=by
 simp only[FR,bh] at h
 obtain ⟨fuel,h⟩:=h
 obtain ⟨s,U,ad⟩:=Ve h bh
 exact ⟨s,by simpa using U,ad⟩
end
theorem GM {w:World} {A:Addr}:∀ {n i:Nat} {vs:List Value} {j:Nat} {v:Value},ey w A i n=some vs→vs[j]? =some v→w.cell? (A.add (i+j))=some v
 |0,i,vs,j,v,h,ak=>by simp[ey] at h;subst h;simp at ak
 |n+1,i,vs,j,v,h,ak=>by
   simp only[ey] at h
   cases U:w.cell? (A.add i) with
   |none=>simp[U] at h
   |some u=>
     cases ad:ey w A (i+1) n with
     |none=>simp[U,ad] at h
     |some us=>
       simp only[U,ad,Option.some.injEq] at h
       subst h
       cases j with
       |zero=>simp at ak;subst ak;exact U
       |succ j=>
         have:=GM ad (j:=j) (by simpa using ak)
         rw[show i+(j+1)=i+1+j by omega]
         exact this
theorem Src.at {w:World} {s:aa} {vs:List Value} (h:Src 1 w s vs) {i:Nat} {v:Value} (ak:vs[i]? =some v):
   ∃A:Addr,s.a=some A∧((0:Int)≤(i:Int)∧(i:Int)<((s.len:Nat):Int))∧w.cell? (A.add (Int.toNat (i:Int)*1))=some v:=by
 have hi:i<vs.length:=(qs.1 ak).1
 have az:=h.len
 cases aS:s.a with
 |none=>have:=h.nil aS;subst this;simp at hi
 |some A=>
   have:=GM (h.rd A aS) ak
   exact ⟨A,rfl,⟨by omega,by omega⟩,by rw[ml,hF];simpa using this⟩
end b7
namespace b7
open Go Go.RowKit
theorem Ro {n:Int} (b3:0≤n) (U:n≤255):IntKind.u8.wrap n=n:=by
 simp only[IntKind.wrap,IntKind.signed,IntKind.bits];simp;omega
theorem Rj {n:Int} (b3:0≤n) (U:n≤4294967295):IntKind.u32.wrap n=n:=by
 simp only[IntKind.wrap,IntKind.signed,IntKind.bits];simp;omega
theorem wc {n:Int} (b3:0≤n) (U:n≤18446744073709551615):IntKind.u64.wrap n=n:=by
 simp only[IntKind.wrap,IntKind.signed,IntKind.bits];simp;omega
theorem ag7 (n:Int):IntKind.u8.wrap n=n%256:=by
 simp only[IntKind.wrap,IntKind.signed,IntKind.bits];simp
def S (l:List UInt8):ByteArray:=⟨l.toArray⟩
theorem aeo (l:List UInt8):(S l).toList=l:=ByteArray.toList_mk l
theorem Cb (a b:List UInt8):(ByteArray.toList (S a)==ByteArray.toList (S b))=(a==b):=by rw[aeo,aeo]
theorem agU (px:List Int):aen px=S (px.map fun n=>UInt8.ofNat n.toNat):=by
 have h:∀ (px:List Int) (r:List UInt8),px.foldl (fun r n=>r.push (UInt8.ofNat n.toNat)) (S r)=S (r++px.map fun n=>UInt8.ofNat n.toNat):=by
   intro px
   induction px with
   |nil=>intro r;simp
   |cons n px dw=>
     intro r
     have e:(S r).push (UInt8.ofNat n.toNat)=S (r++ [UInt8.ofNat n.toNat]):=by
       apply ByteArray.ext
       simp[S,ByteArray.push]
     simp only[List.foldl_cons,e,dw,tC,er,Ea,rZ]
 exact h px []
theorem add_add (A:Addr) (n m:Nat):(A.add n).add m=A.add (n+m):=by
 unfold Addr.add
 by_cases U:n=0
 · subst U;simp
 · by_cases ad:m=0
   · subst ad;simp
   · rw[if_neg U,if_neg ad,if_neg (by omega)]
     simp[Nat.add_assoc]
def put (f:Nat→Int) (i:Nat) (v:Int):Nat→Int:=fun j=>if j=i then v else f j
section
variable {w w':World} {b m i:Nat} {T:TypeId} {f:Nat→Int}
theorem ao.n8 {bB w:World} {b i:Nat} (h:ao (fun q=>q=b) bB w) (v:Value):ao (fun q=>q=b) bB (w.setCell ⟨b,i,none⟩ v):=ao.set h (fun _=>rfl) v
theorem ao.zR {bB w:World} {b i:Nat} (h:ao (fun q=>q=b) bB w) (vs:List Value) (j:Nat):ao (fun q=>q=b) bB (b7.setCells w ⟨b,i,none⟩ j vs):=ao.setCells (W:=fun q=>q=b) (A:=⟨b,i,none⟩) (fun _=>rfl) vs j h
end
theorem Nc {b o:Nat} {z l m:Nat} (h:m≠l):a3 (some (Addr.mk b o none)) z l m=some ⟨b,o+l*z,none⟩:=by
 simp[a3,h,aV]
theorem Ext.trans {a b c:World} (U:Ext a b) (ad:Ext b c):Ext a c:=ao.trans U ad
theorem Ext.gr {bB ag aw:World} {W:Nat→Prop} (U:Ext bB ag) (ad:ao W ag aw) (h:∀k,W k→bB.heap.size≤k):Ext bB aw:=
 ⟨ad.os.trans U.os,ad.tape.trans U.tape,ad.output.trans U.output,iT U.size ad.size,fun k ae _=>by
   rw[ad.block k (lg ae U.size) (fun dK=>by have:=h k dK;omega),U.block k ae id]⟩
end b7
