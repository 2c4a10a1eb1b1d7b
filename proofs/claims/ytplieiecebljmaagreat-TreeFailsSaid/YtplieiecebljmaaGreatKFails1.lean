/- What a Go program of the model must show, as text that can be read; sound against the kit. -/
import Derived.Below
import Derived.KernelRfl
import Derived.Laws.BytesString
import Derived.OpenShut
import Derived.OrdersHeld
import Derived.ProofKit
import Derived.StillTail
import Derived.Tactics
import Derived.WalkKit
import Derived.WideKeyArgs
namespace Go
theorem cV:type_of% @Nat.le_refl:=@Nat.le_refl
theorem dD:type_of% @of_decide_eq_true:=@of_decide_eq_true
theorem dU:type_of% @List.length_append:=@List.length_append
theorem d_:type_of% @List.length_take:=@List.length_take
theorem eL:type_of% @List.append_assoc:=@List.append_assoc
theorem eW:type_of% @of_decide_eq_false:=@of_decide_eq_false
theorem e8:type_of% @List.mem_append:=@List.mem_append
theorem fg:type_of% @List.getElem_mem:=@List.getElem_mem
theorem fl:type_of% @Nat.zero_le:=@Nat.zero_le
theorem fu:type_of% @decide_eq_true_eq:=@decide_eq_true_eq
theorem fG:type_of% @List.length_drop:=@List.length_drop
theorem gb:type_of% @List.mem_cons:=@List.mem_cons
theorem gz:type_of% @Nat.zero_add:=@Nat.zero_add
theorem gF:type_of% @List.getElem?_eq_getElem:=@List.getElem?_eq_getElem
theorem gX:type_of% @List.take_of_length_le:=@List.take_of_length_le
theorem gY:type_of% @Int.toNat_natCast:=@Int.toNat_natCast
theorem g6:type_of% @Nat.lt_or_ge:=@Nat.lt_or_ge
theorem iy:type_of% @decide_eq_true:=@decide_eq_true
theorem jb:type_of% @Nat.le_trans:=@Nat.le_trans
theorem jc:type_of% @List.length_set:=@List.length_set
theorem jD:type_of% @Bool.and_eq_true:=@Bool.and_eq_true
theorem kx:type_of% @List.mem_of_mem_drop:=@List.mem_of_mem_drop
theorem kM:type_of% @List.mem_of_mem_take:=@List.mem_of_mem_take
theorem ld:type_of% @List.length_cons:=@List.length_cons
theorem lf:type_of% @List.length_map:=@List.length_map
theorem lE:type_of% @Nat.lt_of_lt_of_le:=@Nat.lt_of_lt_of_le
theorem lU:type_of% @Nat.mul_one:=@Nat.mul_one
theorem lV:type_of% @List.mem_singleton:=@List.mem_singleton
theorem lW:type_of% @Bool.not_eq_true:=@Bool.not_eq_true
theorem mn:type_of% @List.append_nil:=@List.append_nil
theorem m3:type_of% @List.getElem_of_mem:=@List.getElem_of_mem
theorem m4:type_of% @List.not_mem_nil:=@List.not_mem_nil
theorem m5:type_of% @or_false:=@or_false
theorem m6:type_of% @List.getElem_set_ne:=@List.getElem_set_ne
theorem nq:type_of% @List.mem_map:=@List.mem_map
theorem oh:type_of% @Bool.false_eq_true:=@Bool.false_eq_true
theorem om:type_of% @List.map_append:=@List.map_append
theorem pc:type_of% @Bool.eq_iff_iff:=@Bool.eq_iff_iff
theorem pD:type_of% @List.getD_eq_getElem?_getD:=@List.getD_eq_getElem?_getD
theorem qc:type_of% @List.mem_append_right:=@List.mem_append_right
theorem qd:type_of% @List.take_append_drop:=@List.take_append_drop
theorem qz:type_of% @List.take_succ_eq_append_getElem:=@List.take_succ_eq_append_getElem
theorem qA:type_of% @List.getElem?_eq_some_iff:=@List.getElem?_eq_some_iff
theorem qB:type_of% @List.take_length:=@List.take_length
theorem qC:type_of% @Nat.eq_of_beq_eq_true:=@Nat.eq_of_beq_eq_true
theorem rq:type_of% @List.nil_append:=@List.nil_append
theorem ru:type_of% @List.length_singleton:=@List.length_singleton
theorem r9:type_of% @List.pairwise_cons:=@List.pairwise_cons
theorem r_:type_of% @Nat.min_eq_left:=@Nat.min_eq_left
theorem sd:type_of% @List.find?_eq_none:=@List.find?_eq_none
theorem sW:type_of% @decide_eq_false:=@decide_eq_false
theorem sX:type_of% @Nat.mod_lt:=@Nat.mod_lt
theorem tP:type_of% @List.mem_append_left:=@List.mem_append_left
theorem tQ:type_of% @List.drop_eq_getElem_cons:=@List.drop_eq_getElem_cons
theorem tR:type_of% @List.map_cons:=@List.map_cons
theorem tS:type_of% @decide_eq_false_iff_not:=@decide_eq_false_iff_not
theorem tT:type_of% @List.count_pos_iff:=@List.count_pos_iff
theorem u6:type_of% @List.filter_eq_self:=@List.filter_eq_self
theorem u7:type_of% @List.mem_cons_of_mem:=@List.mem_cons_of_mem
theorem u9:type_of% @Nat.mod_eq_of_lt:=@Nat.mod_eq_of_lt
theorem u_:type_of% @Bool.or_eq_true:=@Bool.or_eq_true
theorem va:type_of% @List.getElem_set_self:=@List.getElem_set_self
theorem vb:type_of% @List.length_nil:=@List.length_nil
theorem wD:type_of% @List.mem_range:=@List.mem_range
theorem wE:type_of% @Nat.add_mul:=@Nat.add_mul
theorem wF:type_of% @List.getElem?_append_right:=@List.getElem?_append_right
theorem ye:type_of% @List.sum_append:=@List.sum_append
theorem yf:type_of% @List.length_eq_zero_iff:=@List.length_eq_zero_iff
theorem yg:type_of% @Option.map_some:=@Option.map_some
theorem zV:type_of% @Nat.add_zero:=@Nat.add_zero
theorem zW:type_of% @List.drop_zero:=@List.drop_zero
theorem zX:type_of% @Bool.not_eq_true':=@Bool.not_eq_true'
theorem zY:type_of% @List.getElem_append_left:=@List.getElem_append_left
theorem zZ:type_of% @beq_iff_eq:=@beq_iff_eq
theorem z1:type_of% @Nat.le_succ:=@Nat.le_succ
theorem z2:type_of% @List.getElem?_cons_zero:=@List.getElem?_cons_zero
theorem Ca:type_of% @List.filter_append:=@List.filter_append
theorem Cb:type_of% @List.pairwise_append:=@List.pairwise_append
theorem Cc:type_of% @List.length_zip:=@List.length_zip
theorem Cd:type_of% @List.perm_middle:=@List.perm_middle
theorem Ce:type_of% @List.mem_or_eq_of_mem_set:=@List.mem_or_eq_of_mem_set
theorem Cf:type_of% @Nat.mul_le_mul_right:=@Nat.mul_le_mul_right
theorem Cg:type_of% @Option.isSome_iff_exists:=@Option.isSome_iff_exists
theorem Ch:type_of% @Nat.testBit_or:=@Nat.testBit_or
theorem Ci:type_of% @Nat.le_of_ble_eq_true:=@Nat.le_of_ble_eq_true
theorem EB:type_of% @List.filter_eq_nil_iff:=@List.filter_eq_nil_iff
theorem EC:type_of% @List.cons_append:=@List.cons_append
theorem ED:type_of% @List.mem_of_find?_eq_some:=@List.mem_of_find?_eq_some
theorem EE:type_of% @List.map_take:=@List.map_take
theorem EF:type_of% @Nat.sub_self:=@Nat.sub_self
theorem EG:type_of% @List.map_map:=@List.map_map
theorem EH:type_of% @List.getElem_append_right:=@List.getElem_append_right
theorem EI:type_of% @Bool.true_and:=@Bool.true_and
theorem EJ:type_of% @List.take_append_of_le_length:=@List.take_append_of_le_length
theorem EK:type_of% @Bool.false_or:=@Bool.false_or
theorem EL:type_of% @List.count_append:=@List.count_append
theorem GR:type_of% @List.mem_filter:=@List.mem_filter
theorem GS:type_of% @List.find?_some:=@List.find?_some
theorem GU:type_of% @List.map_drop:=@List.map_drop
theorem GV:type_of% @List.zipWith_append:=@List.zipWith_append
theorem GW:type_of% @List.getElem_take:=@List.getElem_take
theorem GX:type_of% @List.pairwise_iff_getElem:=@List.pairwise_iff_getElem
theorem GY:type_of% @UInt8.toNat_lt:=@UInt8.toNat_lt
theorem GZ:type_of% @List.all_eq_true:=@List.all_eq_true
theorem G0:type_of% @Nat.sub_zero:=@Nat.sub_zero
theorem G1:type_of% @List.length_replicate:=@List.length_replicate
theorem G2:type_of% @List.count_cons:=@List.count_cons
theorem G3:type_of% @List.count_nil:=@List.count_nil
theorem G4:type_of% @Nat.eq_zero_or_pos:=@Nat.eq_zero_or_pos
theorem G5:type_of% @List.length_filter_le:=@List.length_filter_le
theorem Jy:type_of% @List.of_mem_zip:=@List.of_mem_zip
theorem Jz:type_of% @List.exists_mem_of_ne_nil:=@List.exists_mem_of_ne_nil
theorem JA:type_of% @List.sum_cons:=@List.sum_cons
theorem JB:type_of% @List.drop_drop:=@List.drop_drop
theorem JC:type_of% @List.perm_append_comm:=@List.perm_append_comm
theorem JD:type_of% @List.take_take:=@List.take_take
theorem JE:type_of% @List.getElem_drop:=@List.getElem_drop
theorem JF:type_of% @List.getElem?_map:=@List.getElem?_map
theorem JG:type_of% @List.any_eq_false:=@List.any_eq_false
theorem JH:type_of% @List.toList_toArray:=@List.toList_toArray
theorem JI:type_of% @List.nodup_append:=@List.nodup_append
theorem JJ:type_of% @Nat.testBit_two_pow:=@Nat.testBit_two_pow
theorem JK:type_of% @List.nodup_nil:=@List.nodup_nil
theorem JL:type_of% @List.filterMap_cons:=@List.filterMap_cons
theorem JM:type_of% @List.filterMap_append:=@List.filterMap_append
theorem JN:type_of% @Array.getElem?_eq_some_iff:=@Array.getElem?_eq_some_iff
theorem Nr:type_of% @List.getElem_zip:=@List.getElem_zip
theorem Ns:type_of% @List.getElem?_drop:=@List.getElem?_drop
theorem Nt:type_of% @Nat.pow_le_pow_right:=@Nat.pow_le_pow_right
theorem Nu:type_of% @List.flatten_append:=@List.flatten_append
theorem Nv:type_of% @Bool.or_eq_false_iff:=@Bool.or_eq_false_iff
theorem Nw:type_of% @List.getElem?_eq_none:=@List.getElem?_eq_none
theorem Nx:type_of% @List.range_eq_range':=@List.range_eq_range'
theorem Ny:type_of% @List.getElem?_toArray:=@List.getElem?_toArray
theorem Nz:type_of% @Int.eq_ofNat_of_zero_le:=@Int.eq_ofNat_of_zero_le
theorem NA:type_of% @List.getElem?_take:=@List.getElem?_take
theorem NB:type_of% @List.drop_eq_nil_of_le:=@List.drop_eq_nil_of_le
theorem NC:type_of% @Array.getElem?_modify:=@Array.getElem?_modify
theorem RH:type_of% @List.eq_of_mem_replicate:=@List.eq_of_mem_replicate
theorem RI:type_of% @Decidable.byContradiction:=@Decidable.byContradiction
theorem RJ:type_of% @Int.tmod_eq_emod_of_nonneg:=@Int.tmod_eq_emod_of_nonneg
theorem RK:type_of% @List.getElem?_cons_succ:=@List.getElem?_cons_succ
end Go
namespace b_
open Go
structure aa where
 a:Option Addr
 len:Nat
 cap:Nat
structure r6 where
 f:FuncId
 pre:Array Value
 cap:Array Value
inductive j6 where
 |int (k:IntKind)|bool|str|ptr|slice|map|agg|fn|any
def j6.T:j6→Type
 | .int _=>Int
 | .bool=>Bool
 | .str=>ByteArray
 | .ptr=>Option Addr
 | .slice=>aa
 | .map=>Option Nat
 | .agg=>Array Value
 | .fn=>r6
 | .any=>Value
def j6.v:(l:j6)→l.T→Value
 | .int k,(n:Int)=> .int k n
 | .bool,(b:Bool)=> .bool b
 | .str,(s:ByteArray)=> .string s
 | .ptr,(p:Option Addr)=> .pointer p
 | .slice,(s:aa)=> .slice s.a s.len s.cap
 | .map,(r:Option Nat)=> .map r
 | .agg,(cs:Array Value)=> .agg cs
 | .fn,(F:r6)=> .func (.func F.f) F.pre F.cap
 | .any,(v:Value)=>v
inductive p8 where
 |one (l:j6)
 |flat (ls:List j6)
def Gt (l:j6) (K:Value→Prop):Prop:=
 match l with
 | .int k=>∃n:Int,K (.int k n)
 | .bool=>∃b:Bool,K (.bool b)
 | .str=>∃s:ByteArray,K (.string s)
 | .ptr=>∃p:Option Addr,K (.pointer p)
 | .slice=>∃s:aa,K (.slice s.a s.len s.cap)
 | .map=>∃r:Option Nat,K (.map r)
 | .agg=>∃cs:Array Value,K (.agg cs)
 | .fn=>∃F:r6,K (.func (.func F.f) F.pre F.cap)
 | .any=>∃v:Value,K v
def WM:List j6→(List Value→Prop)→Prop
 | [],K=>K []
 |l::ls,K=>Gt l fun v=>WM ls fun vs=>K (v::vs)
def WN (k:p8) (K:Value→Prop):Prop:=
 match k with
 | .one l=>Gt l K
 | .flat ls=>WM ls fun vs=>K (.agg vs.toArray)
def QD:List p8→(List Value→Prop)→Prop
 | [],K=>K []
 |k::ks,K=>WN k fun v=>QD ks fun vs=>K (v::vs)
theorem IU {l:j6} {K:Value→Prop} (h:Gt l K):∃v,K v:=by
 cases l<;>simp only[Gt] at h<;>obtain ⟨x,h⟩:=h<;>exact ⟨_,h⟩
theorem aeA:∀ {ls:List j6} {K:List Value→Prop},WM ls K→∃vs,K vs
 | [],_,h=>⟨_,h⟩
 |_::_,_,h=>let ⟨_,h⟩:=IU h;let ⟨_,h⟩:=aeA h;⟨_,h⟩
theorem aeB {k:p8} {K:Value→Prop} (h:WN k K):∃v,K v:=by
 cases k with
 |one l=>exact IU h
 |flat ls=>obtain ⟨_,h⟩:=aeA h;exact ⟨_,h⟩
theorem WO:∀ {ls:List p8} {K:List Value→Prop},QD ls K→∃vs,K vs
 | [],_,h=>⟨_,h⟩
 |_::_,_,h=>let ⟨_,h⟩:=aeB h;let ⟨_,h⟩:=WO h;⟨_,h⟩
abbrev Env:=List (Nat×Value)
def Env.get:Env→Nat→Option Value
 | [],_=>none
 |(k,v)::e,s=>bif Nat.beq k s then some v else Env.get e s
def bB (e:Env):Operand→Option Value
 | .tmp t=>e.get t
 | .const v=>some v
 | .global g=>some (.pointer (some ⟨g,0,none⟩))
 | .func f=>some (.func (.func f) #[] #[])
def ro (e:Env) (x:Operand):Value:=(bB e x).getD undef
def known (e:Env) (xs:Array Operand):Bool:=xs.toList.all fun x=>(bB e x).isSome
structure gu (e:Env) (a:Act):Prop where
 get:∀s v,e.get s=some v→a.tmps[s]? =some v
theorem gu.bB {e:Env} {a:Act} (h:gu e a) {x:Operand} {v:Value} (af:bB e x=some v):a.eval x=v:=by
 cases x with
 |tmp t=>
   have:=h.get t v af
   simp[Act.eval,Array.getD_eq_getD_getElem?,this]
 |const c=>simpa[b_.bB,Act.eval] using af
 |global g=>simpa[b_.bB,Act.eval] using af
 |func f=>simpa[b_.bB,Act.eval] using af
theorem gu.ro {e:Env} {a:Act} (h:gu e a) {x:Operand} (af:(b_.bB e x).isSome=true):a.eval x=ro e x:=by
 obtain ⟨v,ak⟩:=Cg.1 af
 rw[h.bB ak,b_.ro,ak];rfl
def fY (d:Option Nat) (v:Value) (e:Env):Env:=
 match d with
 |some d=>(d,v)::e
 |none=>e
theorem Gu (d:Nat) (v:Value) (e:Env) (s:Nat):Env.get ((d,v)::e) s=if d=s then some v else e.get s:=by
 simp only[Env.get,cond_eq_ite]
 by_cases rk:d=s
 · subst rk;simp
 · have:Nat.beq d s=false:=by
     cases ab:Nat.beq d s
     · rfl
     · exact absurd (qC ab) rk
   simp[this,rk]
theorem gu.put {e:Env} {a:Act} (h:gu e a) {d:Option Nat} {v:Value} (hd:∀k,d=some k→k<a.tmps.size):gu (fY d v e) (a.put d v):=by
 cases d with
 |none=>exact h
 |some d=>
   constructor
   intro s u aj
   rw[fY,Gu] at aj
   simp only[Act.put]
   by_cases rk:d=s
   · subst rk
     simp only[if_true,Option.some.injEq] at aj
     subst aj
     simp[hd d rfl]
   · rw[if_neg rk] at aj
     rw[Array.getElem?_setIfInBounds_ne rk]
     exact h.get s u aj
inductive j7 where
 |one (k:p8)
 |kp (ks:List p8)
def qu (r:j7) (K:Value→Prop):Prop:=
 match r with
 | .one k=>WN k K
 | .kp ks=>QD ks fun vs=>K (.tuple vs.toArray)
theorem rl {r:j7} {K:Value→Prop} (h:qu r K):∃v,K v:=by
 cases r with
 |one k=>exact aeB h
 |kp ks=>obtain ⟨_,h⟩:=WO h;exact ⟨_,h⟩
def eN (w:World) (A:Addr):Nat→Nat→Option (List Value)
 |_,0=>some []
 |i,n+1=>match w.cell? (A.add i),eN w A (i+1) n with
   |some v,some vs=>some (v::vs)
   |_,_=>none
def setCells (w:World) (A:Addr):Nat→List Value→World
 |_,[]=>w
 |i,v::vs=>setCells (w.setCell (A.add i) v) A (i+1) vs
def Plain:Value→Prop
 | .agg _=>False
 | .tuple _=>False
 |_=>True
def cZ (w:World) (A:Addr) (vs:List Value):Prop:=
 (∀i,i<vs.length→(w.cell? (A.add i)).isSome=true∧w.frozen? (A.add i)=false)∧∀v∈vs,Plain v
def zK:TypeDesc→Bool
 | .struct _=>true
 | .array _ _=>true
 |_=>false
def pM (P:Program) (elem:TypeId) (n:Nat):Array Value:=
 let zero:=if n*P.cellsOf elem=0 then #[] else (((P.info? elem).bind (·.zero)).getD undef).cells
 (Array.range (n*P.cellsOf elem)).map (zero[· %zero.size]!)
section
variable {P:Program} {w:World}
theorem gj {t:TypeId} {d:TypeDesc} (h:P.underlying t=some d):(underlying t).run P w= .ok d w:=by
 simp[underlying,program,Sem.run,bind,Sem.bind,h,pure]
theorem C0 {t:TypeId} {d:TypeInfo} (h:P.info? t=some d):(typeInfo t).run P w= .ok d w:=by
 simp[typeInfo,program,Sem.run,bind,Sem.bind,h,pure]
theorem info_of_underlying {t:TypeId} {d:TypeDesc} (h:P.underlying t=some d):∃i,P.info? t=some i:=by
 unfold Program.underlying at h
 cases hi:P.info? t with
 |none=>simp[hi] at h
 |some i=>exact ⟨i,rfl⟩
theorem qI {t:TypeId} {d:TypeDesc} (h:P.underlying t=some d):(Go.sizeOf t).run P w= .ok (P.cellsOf t) w:=by
 obtain ⟨i,hi⟩:=info_of_underlying h
 simp[Go.sizeOf,C0 hi,Program.cellsOf,hi]
theorem QE {t:TypeId} {d:TypeDesc} (h:P.underlying t=some d):(isAgg t).run P w= .ok (zK d) w:=by
 simp only[isAgg,Sem.run_bind,gj h,Result.andThen]
 cases d<;>rfl
theorem Sq {A:Addr} {v:Value} (h:w.cell? A=some v):(load A).run P w= .ok v w:=by
 simp[load,Sem.run,h]
theorem run_loadCellsFrom {A:Addr}:∀ (n i:Nat) (acc:Array Value) (vs:List Value),eN w A i n=some vs→
   (loadCellsFrom A i n acc).run P w= .ok (acc++vs.toArray) w
 |0,i,acc,vs,h=>by
   simp only[eN,Option.some.injEq] at h
   subst h
   simp[loadCellsFrom]
 |n+1,i,acc,vs,h=>by
   simp only[eN] at h
   cases U:w.cell? (A.add i) with
   |none=>simp[U] at h
   |some v=>
     cases ad:eN w A (i+1) n with
     |none=>simp[U,ad] at h
     |some us=>
       simp only[U,ad,Option.some.injEq] at h
       subst h
       simp only[loadCellsFrom,Sem.run_bind,Sq U,Result.andThen]
       rw[run_loadCellsFrom n (i+1) (acc.push v) us ad]
       simp
theorem QF {T:TypeId} {d:TypeDesc} (bm:P.underlying T=some d) (hd:zK d=true) {A:Addr} {vs:List Value} (h:eN w A 0 (P.cellsOf T)=some vs):
   (loadVar T A).run P w= .ok (.agg vs.toArray) w:=by
 simp only[loadVar,Sem.run_bind,QE bm,Result.andThen,hd,if_true,qI bm,loadCells,run_loadCellsFrom _ _ _ _ h]
 simp
theorem aeC {T:TypeId} {d:TypeDesc} (bm:P.underlying T=some d) (hd:zK d=false) {A:Addr} {v:Value} (h:w.cell? A=some v):
   (loadVar T A).run P w= .ok v w:=by
 simp only[loadVar,Sem.run_bind,QE bm,Result.andThen,hd,oh,if_false,Sq h]
theorem atn {A:Addr} {v u:Value} (ak:Plain v) (h:w.cell? A=some u) (aH:w.frozen? A=false):(store A v).run P w= .ok () (w.setCell A v):=by
 cases v<;>simp_all [store,Sem.run,Plain]
theorem ato (w:World) (A B:Addr) (v:Value):((w.setCell A v).cell? B).isSome=(w.cell? B).isSome:=by
 simp only[World.setCell,World.cell?,NC]
 by_cases ab:A.block=B.block
 · simp only[ab,if_true]
   cases w.heap[B.block]? with
   |none=>rfl
   |some o=>
     cases o<;>simp
     by_cases aj:B.spot.isSome<;>simp[aj]
     by_cases mo:A.spot.isSome<;>simp[mo]
     rw[pc];simp
 · simp[ab]
theorem atp (w:World) (A B:Addr) (v:Value):(w.setCell A v).frozen? B=w.frozen? B:=by
 simp only[World.setCell,World.frozen?,NC]
 by_cases ab:A.block=B.block
 · simp only[ab,if_true]
   cases w.heap[B.block]? with
   |none=>rfl
   |some o=>cases o<;>rfl
 · simp[ab]
theorem Hh {A:Addr}:∀ (vs:List Value) (i:Nat) (w:World),(∀j,j<vs.length→(w.cell? (A.add (i+j))).isSome=true∧w.frozen? (A.add (i+j))=false)→(∀v∈vs,Plain v)→
   (storeCells A vs i).run P w= .ok () (setCells w A i vs)
 | [],i,w,_,_=>rfl
 |v::vs,i,w,h,aZ=>by
   have b7:=h 0 (by simp)
   simp only[zV] at b7
   obtain ⟨u,hu⟩:=Cg.1 b7.1
   simp only[storeCells,Sem.run_bind,atn (P:=P) (aZ v (by simp)) hu b7.2,Result.andThen,setCells]
   refine Hh vs (i+1) (w.setCell (A.add i) v) (fun j a_=> ?_) (fun x af=>aZ x (by simp[af]))
   have:=h (j+1) (by simp;omega)
   rw[ato,atp,show i+1+j=i+(j+1) by omega]
   exact this
theorem aeD {T:TypeId} {d:TypeDesc} (bm:P.underlying T=some d) {A:Addr} {v:Value} (aj:v.cells.size=P.cellsOf T) (h:cZ w A v.cells.toList):
   (storeVar T A v).run P w= .ok () (setCells w A 0 v.cells.toList):=by
 simp only[storeVar,Sem.run_bind,qI bm,Result.andThen,aj,ne_eq,not_true,if_false]
 simpa using Hh v.cells.toList 0 w (by simpa using h.1) h.2
end
def WQ:List j6→Addr→Nat→World→(List Value→Prop)→Prop
 | [],_,_,_,K=>K []
 |l::ls,A,i,w,K=>Gt l fun v=>w.cell? (A.add i)=some v∧WQ ls A (i+1) w fun vs=>K (v::vs)
def IV (P:Program) (aG:TypeId→j7) (T:TypeId) (A:Addr) (w:World) (K:Value→Prop):Prop:=
 match P.underlying T with
 |none=>False
 |some d=>
   bif zK d then
     match aG T with
     | .one (.flat ls)=>bif Nat.beq (P.cellsOf T) ls.length then WQ ls A 0 w fun vs=>K (.agg vs.toArray) else False
     |_=>∃cs:List Value,eN w A 0 (P.cellsOf T)=some cs∧K (.agg cs.toArray)
   else
     match aG T with
     | .one (.one l)=>Gt l fun v=>w.cell? A=some v∧K v
     |_=>False
def WR (P:Program) (aG:TypeId→j7) (T:TypeId) (A:Addr) (x:Value) (w:World) (K:World→Prop):Prop:=
 match P.underlying T with
 |none=>False
 |some d=>
   bif zK d then
     match x with
     | .agg cs=>cZ w A cs.toList∧cs.size=P.cellsOf T∧K (setCells w A 0 cs.toList)
     |_=>False
   else bif Nat.beq (P.cellsOf T) 1 then
     match aG T with
     | .one (.one .any)=>Plain x∧(∃u,w.cell? A=some u)∧w.frozen? A=false∧K (w.setCell A x)
     |_=>match x with
       | .agg _=>False
       | .tuple _=>False
       |_=>(∃u,w.cell? A=some u)∧w.frozen? A=false∧K (w.setCell A x)
   else False
def aeE (P:Program) (T:TypeId) (xs nL:Array Value) (b:Bool):Prop:=
 P.eqGuardType P.depth T=false∧∀w,(Op.equal T (.agg xs) (.agg nL)).run P w= .ok b w
def Gv:Value→Option Bool
 | .nilIface=>some true
 | .iface _ _=>some false
 |_=>none
def Gw:Option TypeDesc→Bool
 |some (.interface _)=>true
 |_=>false
def BV:Option TypeDesc→Bool
 |some (.pointer _)=>true
 |_=>false
def Ed:Option TypeDesc→Bool
 |some (.slice _)=>true
 |_=>false
def IW:Option TypeDesc→Bool
 |some (.map _ _)=>true
 |_=>false
def uW:IntKind→IntKind→Bool:=fun a b=>decide (a=b)
def QG (P:Program) (op:BinOp) (T:TypeId) (x y:Value) (K:Value→Prop) (G:Prop):Prop:=
 match y with
 | .nilIface=>bif Gw (P.underlying T) then
     match op with
     | .eql=>∃b,Gv x=some b∧K (.bool b)
     | .neq=>∃b,Gv x=some b∧K (.bool (!b))
     |_=>False
   else False
 | .pointer none=>bif BV (P.underlying T) then
     match op,x with
     | .eql, .pointer p=>K (.bool p.isNone)
     | .neq, .pointer p=>K (.bool (!p.isNone))
     |_,_=>False
   else False
 | .slice none _ _=>bif Ed (P.underlying T) then
     match op,x with
     | .eql, .slice a _ _=>K (.bool a.isNone)
     | .neq, .slice a _ _=>K (.bool (!a.isNone))
     |_,_=>False
   else False
 | .map none=>bif IW (P.underlying T) then
     match op,x with
     | .eql, .map r=>K (.bool r.isNone)
     | .neq, .map r=>K (.bool (!r.isNone))
     |_,_=>False
   else False
 | .agg nL=>
     match op,x with
     | .eql, .agg xs=>∃b,aeE P T xs nL b∧K (.bool b)
     | .neq, .agg xs=>∃b,aeE P T xs nL b∧K (.bool (!b))
     |_,_=>False
 | .int lP b=>
     match op,x with
     | .quo, .int k a=>bif uW k lP then b≠0∧K (.int k (k.wrap (a.tdiv b))) else False
     | .rem, .int k a=>bif uW k lP then b≠0∧K (.int k (a.tmod b)) else False
     | .shl, .int k a=>0≤b∧K (.int k (k.wrap (a*2^(min b.toNat k.bits))))
     | .shr, .int k a=>0≤b∧K (.int k (a.fdiv (2^(min b.toNat k.bits))))
     |_,_=>G
 | .bool b=>match P.underlying T with
     |some .bool=>match op,x with
       | .eql, .bool a=>K (.bool (a==b))
       | .neq, .bool a=>K (.bool (!(a==b)))
       |_,_=>False
     |_=>False
 | .string b=>
     match op,x with
     | .add, .string a=>((a.size+b.size:Nat):Int)≤9223372036854775807∧K (.string (a++b))
     |_,_=>G
 |_=>G
section
variable {P:Program}
theorem IX (T:TypeId) (x y:Value):Op.equal T x y=Op.equalIn (9999+1) T x y:=rfl
theorem atq (d:Nat) {T:TypeId} {x:Value} {b:Bool} (bm:Gw (P.underlying T)=true) (h:Gv x=some b) (w:World):
   (Op.equalIn (d+1) T x .nilIface).run P w= .ok b w:=by
 cases hu:P.underlying T with
 |none=>simp[hu,Gw] at bm
 |some d=>
   cases d<;>simp only[hu,Gw,oh] at bm
   simp only[Op.equalIn,Sem.run_bind,gj hu,Result.andThen]
   cases x<;>simp only[Gv,reduceCtorEq,Option.some.injEq] at h<;>subst h<;>rfl
theorem atr (d:Nat) {T:TypeId} {p:Option Addr} (bm:BV (P.underlying T)=true) (w:World):
   (Op.equalIn (d+1) T (.pointer p) (.pointer none)).run P w= .ok p.isNone w:=by
 cases hu:P.underlying T with
 |none=>simp[hu,BV] at bm
 |some d=>
   cases d<;>simp only[hu,BV,oh] at bm
   simp only[Op.equalIn,Sem.run_bind,gj hu,Result.andThen]
   cases p<;>rfl
theorem ats (d:Nat) {T:TypeId} {a:Option Addr} {l c H0 c':Nat} (bm:Ed (P.underlying T)=true) (w:World):
   (Op.equalIn (d+1) T (.slice a l c) (.slice none H0 c')).run P w= .ok a.isNone w:=by
 cases hu:P.underlying T with
 |none=>simp[hu,Ed] at bm
 |some d=>
   cases d<;>simp only[hu,Ed,oh] at bm
   simp only[Op.equalIn,Sem.run_bind,gj hu,Result.andThen]
   cases a<;>rfl
theorem att (d:Nat) {T:TypeId} {r:Option Nat} (bm:IW (P.underlying T)=true) (w:World):
   (Op.equalIn (d+1) T (.map r) (.map none)).run P w= .ok r.isNone w:=by
 cases hu:P.underlying T with
 |none=>simp[hu,IW] at bm
 |some d=>
   cases d<;>simp only[hu,IW,oh] at bm
   simp only[Op.equalIn,Sem.run_bind,gj hu,Result.andThen]
   cases r<;>rfl
theorem aeF {T:TypeId} {x:Value} {b:Bool} (bm:Gw (P.underlying T)=true) (h:Gv x=some b) (w:World):
   (Op.equal T x .nilIface).run P w= .ok b w:=by rw[IX];exact atq _ bm h w
theorem QH {T:TypeId} {p:Option Addr} (bm:BV (P.underlying T)=true) (w:World):
   (Op.equal T (.pointer p) (.pointer none)).run P w= .ok p.isNone w:=by rw[IX];exact atr _ bm w
theorem QI {T:TypeId} {a:Option Addr} {l c H0 c':Nat} (bm:Ed (P.underlying T)=true) (w:World):
   (Op.equal T (.slice a l c) (.slice none H0 c')).run P w= .ok a.isNone w:=by rw[IX];exact ats _ bm w
theorem aeG {T:TypeId} {r:Option Nat} (bm:IW (P.underlying T)=true) (w:World):
   (Op.equal T (.map r) (.map none)).run P w= .ok r.isNone w:=by rw[IX];exact att _ bm w
theorem aeH {T:TypeId} {xs nL:Array Value} (h:P.eqGuardType P.depth T=false) (op:BinOp) (x y:Operand) (w:World):
   (eqGuard op T x y (.agg xs) (.agg nL)).run P w= .ok () w:=by
 cases op<;>simp[eqGuard,program,Sem.run,bind,Sem.bind,h,pure]
theorem aeI {T:TypeId} {a b:Bool} (bm:P.underlying T=some .bool) (w:World):(Op.equal T (.bool a) (.bool b)).run P w= .ok (a==b) w:=by
 have aY:∀ (d:Nat) (w:World),(Op.equalIn (d+1) T (.bool a) (.bool b)).run P w= .ok (a==b) w:=by
   intro d w
   simp[Op.equalIn,gj bm]
 rw[IX];exact aY _ w
theorem aeJ {op:BinOp} {T:TypeId} {x y:Value} {Me IY:Operand} {K:Value→Prop} {G:Prop}
   (b3:y= .nilIface→∃c,IY= .const c)
   (h:QG P op T x y K G):
   G∨∃v,(∀w,(do eqGuard op T Me IY x y;binOp op T x y:Sem Value).run P w= .ok v w)∧K v:=by
 unfold QG at h
 split at h
 case h_1=>
   obtain ⟨c,al⟩:=b3 rfl
   by_cases bm:Gw (P.underlying T)=true
   · rw[bm] at h
     simp only[cond_true] at h
     split at h
     · obtain ⟨b,ab,bu⟩:=h
       refine .inr ⟨_,fun w=> ?_,bu⟩
       have:=aeF (P:=P) bm ab w
       cases x<;>simp only[Gv,reduceCtorEq,Option.some.injEq] at ab<;>subst al ab<;>simp[eqGuard,binOp,this]
     · obtain ⟨b,ab,bu⟩:=h
       refine .inr ⟨_,fun w=> ?_,bu⟩
       have:=aeF (P:=P) bm ab w
       cases x<;>simp only[Gv,reduceCtorEq,Option.some.injEq] at ab<;>subst al ab<;>simp[eqGuard,binOp,this]
     · exact h.elim
   · simp only[lW] at bm;rw[bm] at h;exact h.elim
 case h_2=>
   by_cases bm:BV (P.underlying T)=true
   · rw[bm] at h
     simp only[cond_true] at h
     split at h
     · exact .inr ⟨_,fun w=>by simp[eqGuard,binOp,QH (P:=P) bm],h⟩
     · exact .inr ⟨_,fun w=>by simp[eqGuard,binOp,QH (P:=P) bm],h⟩
     · exact h.elim
   · simp only[lW] at bm;rw[bm] at h;exact h.elim
 case h_3=>
   by_cases bm:Ed (P.underlying T)=true
   · rw[bm] at h
     simp only[cond_true] at h
     split at h
     · exact .inr ⟨_,fun w=>by simp[eqGuard,binOp,QI (P:=P) bm],h⟩
     · exact .inr ⟨_,fun w=>by simp[eqGuard,binOp,QI (P:=P) bm],h⟩
     · exact h.elim
   · simp only[lW] at bm;rw[bm] at h;exact h.elim
 case h_4=>
   by_cases bm:IW (P.underlying T)=true
   · rw[bm] at h
     simp only[cond_true] at h
     split at h
     · exact .inr ⟨_,fun w=>by simp[eqGuard,binOp,aeG (P:=P) bm],h⟩
     · exact .inr ⟨_,fun w=>by simp[eqGuard,binOp,aeG (P:=P) bm],h⟩
     · exact h.elim
   · simp only[lW] at bm;rw[bm] at h;exact h.elim
 case h_5=>
   split at h
   · obtain ⟨b,⟨U,ad⟩,bu⟩:=h
     exact .inr ⟨_,fun w=>by simp[aeH U,binOp,ad],bu⟩
   · obtain ⟨b,⟨U,ad⟩,bu⟩:=h
     exact .inr ⟨_,fun w=>by simp[aeH U,binOp,ad],bu⟩
   · exact h.elim
 case h_6 lP b=>
   split at h
   · rename_i k a
     by_cases ae:k=lP
     · subst ae
       simp only[uW,decide_true,cond_true] at h
       exact .inr ⟨_,fun w=>by simp[eqGuard,binOp,Op.intDiv,h.1],h.2⟩
     · simp[uW,ae] at h
   · rename_i k a
     by_cases ae:k=lP
     · subst ae
       simp only[uW,decide_true,cond_true] at h
       exact .inr ⟨_,fun w=>by simp[eqGuard,binOp,Op.intDiv,h.1],h.2⟩
     · simp[uW,ae] at h
   · exact .inr ⟨_,fun w=>by simp[eqGuard,binOp,Op.shift,show¬b<0 by omega],h.2⟩
   · exact .inr ⟨_,fun w=>by simp[eqGuard,binOp,Op.shift,show¬b<0 by omega],h.2⟩
   · exact .inl h
 case h_7 b=>
   split at h
   · rename_i bm
     split at h
     · exact .inr ⟨_,fun w=>by simp[eqGuard,binOp,aeI bm],h⟩
     · exact .inr ⟨_,fun w=>by simp[eqGuard,binOp,aeI bm],h⟩
     · exact h.elim
   · exact h.elim
 case h_8 b=>
   split at h
   · rename_i a
     refine .inr ⟨_,fun w=> ?_,h.2⟩
     have U:=h.1
     simp[eqGuard,binOp,Op.stringOp,IntKind.max,IntKind.signed,IntKind.bits]
     omega
   · exact .inl h
 case h_9=>exact .inl h
end
def QJ (P:Program) (T:TypeId) (x:Value) (K:Value→Prop):Prop:=
 match P.underlying T with
 |some (.array n _)=>match x with
   | .slice a len _=>n≤len∧∃A,a=some A∧K (.pointer (some A))
   |_=>False
 |_=>False
def QK (P:Program) (T:TypeId) (x i:Value) (K:Value→Prop):Prop:=
 match i with
 | .int _ n=>
   match P.underlying T with
   |some (.slice elem)=>bif (P.underlying elem).isSome then
       match x with
       | .slice a len _=>∃A,a=some A∧(0≤n∧n<(len:Int))∧K (.pointer (some (A.add (n.toNat*P.cellsOf elem))))
       |_=>False
     else False
   |some (.array len elem)=>bif (P.underlying elem).isSome then
       match x with
       | .pointer (some A)=>(0≤n∧n<(len:Int))∧K (.pointer (some (A.add (n.toNat*P.cellsOf elem))))
       |_=>False
     else False
   |_=>False
 |_=>False
def Mf (P:Program) (aG:TypeId→j7) (T:TypeId) (cs:Array Value) (off:Nat) (K:Value→Prop):Prop:=
 match P.underlying T with
 |none=>False
 |some d=>
   bif zK d then K (.agg (cs.extract off (off+P.cellsOf T)))
   else match aG T with
     | .one (.one l)=>Gt l fun v=>cs[off]? =some v∧K v
     |_=>False
def QL (P:Program) (aG:TypeId→j7) (T:TypeId) (x i:Value) (K:Value→Prop):Prop:=
 match i with
 | .int _ n=>
   match P.underlying T with
   |some (.array len elem)=>match x with
       | .agg cs=>(0≤n∧n<(len:Int))∧Mf P aG elem cs (n.toNat*P.cellsOf elem) K
       |_=>False
   |some .string=>match x with
       | .string s=>0≤n∧∃b:UInt8,s.data.toList[n.toNat]? =some b∧K (.int .u8 b.toNat)
       |_=>False
   |_=>False
 |_=>False
def QM (P:Program) (aG:TypeId→j7) (T:TypeId) (x:Value) (i:Nat) (K:Value→Prop):Prop:=
 match P.underlying T with
 |some (.struct fs)=>match fs[i]? with
   |some f=>match x with
     | .agg cs=>Mf P aG f.type cs f.offset K
     |_=>False
   |none=>False
 |_=>False
def x7 (v:Option Value) (y d:Nat) (K:Nat→Prop):Prop:=
 match v with
 |none=>K d
 |some (.int _ i)=>(0≤i∧i≤(y:Int))∧K i.toNat
 |_=>False
def bg (a:Option Addr) (sz l m:Nat):Option Addr:=if m=l then a else a.map (·.add (l*sz))
def QN (P:Program) (T:TypeId) (x:Value) (lo hi wm:Option Value) (K:Value→Prop):Prop:=
 match P.underlying T with
 |some .string=>match wm,x with
   |none, .string s=>x7 hi s.size s.size fun h=>x7 lo h 0 fun l=>K (.string (s.extract l h))
   |_,_=>False
 |some (.slice elem)=>bif (P.underlying elem).isSome then
     match x with
     | .slice a len cap=>match wm with
       |none=>x7 hi cap len fun h=>x7 lo h 0 fun l=>K (.slice (bg a (P.cellsOf elem) l cap) (h-l) (cap-l))
       |some O9=>match hi with
         |none=>False
         |some qh=>x7 (some O9) cap 0 fun m=>x7 (some qh) m 0 fun h=>x7 lo h 0 fun l=>K (.slice (bg a (P.cellsOf elem) l m) (h-l) (m-l))
     |_=>False
   else False
 |some (.array n elem)=>bif (P.underlying elem).isSome then
     match wm,x with
     |none, .pointer (some A)=>x7 hi n n fun h=>x7 lo h 0 fun l=>K (.slice (bg (some A) (P.cellsOf elem) l n) (h-l) (n-l))
     |_,_=>False
   else False
 |_=>False
def WS (P:Program) (T:TypeId) (l c:Value) (w:World) (K:Value→World→Prop):Prop:=
 match P.underlying T with
 |some (.slice elem)=>bif (P.underlying elem).isSome then
     bif ((P.info? elem).bind (·.zero)).isSome then
     match l,c with
     | .int _ n, .int _ m=>(0≤n∧n≤m∧m≤9223372036854775807∧(P.bytesOf elem:Int)*m≤140737488355328)∧
         K (.slice (some ⟨w.heap.size,0,none⟩) n.toNat m.toNat) {w with heap:=w.heap.push (.cells (pM P elem m.toNat) elem)}
     |_,_=>False
     else False
   else False
 |_=>False
section
variable {P:Program} {w:World}
theorem ub (o:Option TypeDesc) (h:o.isSome=true):∃d,o=some d:=Cg.1 h
theorem aeK {T:TypeId} {x:Value} {K:Value→Prop} (h:QJ P T x K):∃v,(∀w,(Instr.arrayAt T x).run P w= .ok v w)∧K v:=by
 unfold QJ at h
 split at h
 · rename_i n e bm
   split at h
   · rename_i a len cap
     obtain ⟨U,A,rfl,bu⟩:=h
     exact ⟨_,fun w=>by simp[Instr.arrayAt,gj bm,Nat.not_lt.2 U],bu⟩
   · exact h.elim
 · exact h.elim
theorem aeL {T:TypeId} {x i:Value} {K:Value→Prop} (h:QK P T x i K):∃v,(∀w,(Instr.indexAt T x i).run P w= .ok v w)∧K v:=by
 unfold QK at h
 split at h
 · rename_i k n
   split at h
   · rename_i elem bm
     by_cases he:(P.underlying elem).isSome=true
     · rw[he] at h
       simp only[cond_true] at h
       split at h
       · obtain ⟨A,rfl,ab,bu⟩:=h
         obtain ⟨d,hd⟩:=ub _ he
         exact ⟨_,fun w=>by simp[Instr.indexAt,asIntOf,gj bm,ab,qI hd],bu⟩
       · exact h.elim
     · simp only[lW] at he;rw[he] at h;exact h.elim
   · rename_i len elem bm
     by_cases he:(P.underlying elem).isSome=true
     · rw[he] at h
       simp only[cond_true] at h
       split at h
       · obtain ⟨ab,bu⟩:=h
         obtain ⟨d,hd⟩:=ub _ he
         exact ⟨_,fun w=>by simp[Instr.indexAt,asIntOf,Instr.sureAddr,gj bm,ab,qI hd],bu⟩
       · exact h.elim
     · simp only[lW] at he;rw[he] at h;exact h.elim
   · exact h.elim
 · exact h.elim
theorem aeM {aG:TypeId→j7} {T:TypeId} {cs:Array Value} {off:Nat} {K:Value→Prop} (h:Mf P aG T cs off K):∃v,(∀w,(part T cs off).run P w= .ok v w)∧K v:=by
 unfold Mf at h
 split at h
 · exact h.elim
 · rename_i d bm
   cases hd:zK d with
   |true=>
     rw[hd] at h
     exact ⟨_,fun w=>by simp[part,QE bm,hd,qI bm],h⟩
   |false=>
     rw[hd] at h
     simp only[cond_false] at h
     split at h
     · obtain ⟨v,ak,bu⟩:=IU h
       exact ⟨v,fun w=>by simp[part,QE bm,hd,ak],bu⟩
     · exact h.elim
theorem aeN {aG:TypeId→j7} {T:TypeId} {x i:Value} {K:Value→Prop} (h:QL P aG T x i K):∃v,(∀w,(Instr.index T x i).run P w= .ok v w)∧K v:=by
 unfold QL at h
 split at h
 · rename_i k n
   split at h
   · rename_i len elem bm
     split at h
     · obtain ⟨ab,h⟩:=h
       obtain ⟨v,ak,bu⟩:=aeM h
       refine ⟨v,fun w=> ?_,bu⟩
       have aj:(Go.sizeOf elem).run P w= .ok (P.cellsOf elem) w:=by
         unfold Mf at h
         cases he:P.underlying elem with
         |none=>simp[he] at h
         |some d=>exact qI he
       simp[Instr.index,asIntOf,gj bm,ab,aj,ak]
     · exact h.elim
   · rename_i bm
     split at h
     · rename_i s
       obtain ⟨ab,b,aj,bu⟩:=h
       have mA:s[n.toNat]? =some b:=by
         obtain ⟨U,ad⟩:=qA.1 aj
         have au:n.toNat<s.size:=by simpa using U
         rw[getElem?_pos s n.toNat au]
         simp only[Option.some.injEq]
         rw[←ad]
         rfl
       exact ⟨_,fun w=>by simp[Instr.index,asIntOf,gj bm,ab,mA],bu⟩
     · exact h.elim
   · exact h.elim
 · exact h.elim
theorem aeO {aG:TypeId→j7} {T:TypeId} {x:Value} {i:Nat} {K:Value→Prop} (h:QM P aG T x i K):∃v,(∀w,(Instr.field T x i).run P w= .ok v w)∧K v:=by
 unfold QM at h
 split at h
 · rename_i fs bm
   split at h
   · rename_i f aH
     split at h
     · obtain ⟨v,ak,bu⟩:=aeM h
       exact ⟨v,fun w=>by simp[Instr.field,gj bm,aH,asAgg,ak],bu⟩
     · exact h.elim
   · exact h.elim
 · exact h.elim
theorem wo {v:Option Value} {y d:Nat} {c:BoundsCode} {K:Nat→Prop} (h:x7 v y d K):
   (v=none∧K d)∨∃u n,v=some u∧(∀w,(Instr.sliceBound u y c).run P w= .ok n w)∧K n:=by
 unfold x7 at h
 split at h
 · exact .inl ⟨rfl,h⟩
 · exact .inr ⟨_,_,rfl,fun w=>by simp[Instr.sliceBound,asIntOf,h.1],h.2⟩
 · exact h.elim
theorem aeP {T:TypeId} {x:Value} {lo hi wm:Option Value} {K:Value→Prop} (h:QN P T x lo hi wm K):
   ∃v,(∀w,(Instr.sliceAt T x lo hi wm).run P w= .ok v w)∧K v:=by
 unfold QN at h
 split at h
 · rename_i bm
   split at h
   · rename_i s
     rcases wo (P:=P) (c:= .sliceAlen) h with ⟨aY,U⟩|⟨u,n,aY,aN,U⟩
     · rcases wo (P:=P) (c:= .sliceB) U with ⟨bo,ad⟩|⟨vM,db,bo,fS,ad⟩
       · exact ⟨_,fun w=>by simp[Instr.sliceAt,Instr.slice,gj bm,Instr.sliceBounds,aY,bo],ad⟩
       · exact ⟨_,fun w=>by simp[Instr.sliceAt,Instr.slice,gj bm,Instr.sliceBounds,aY,bo,fS],ad⟩
     · rcases wo (P:=P) (c:= .sliceB) U with ⟨bo,ad⟩|⟨vM,db,bo,fS,ad⟩
       · exact ⟨_,fun w=>by simp[Instr.sliceAt,Instr.slice,gj bm,Instr.sliceBounds,aY,bo,aN],ad⟩
       · exact ⟨_,fun w=>by simp[Instr.sliceAt,Instr.slice,gj bm,Instr.sliceBounds,aY,bo,aN,fS],ad⟩
   · exact h.elim
 · rename_i elem bm
   by_cases he:(P.underlying elem).isSome=true
   · rw[he] at h
     simp only[cond_true] at h
     obtain ⟨d,hd⟩:=ub _ he
     have dR:=fun w:World=>qI (w:=w) hd
     split at h
     · rename_i a len cap
       split at h
       · rcases wo (P:=P) (c:= .sliceAcap) h with ⟨aY,U⟩|⟨u,n,aY,aN,U⟩
         · rcases wo (P:=P) (c:= .sliceB) U with ⟨bo,ad⟩|⟨vM,db,bo,fS,ad⟩
           · exact ⟨_,fun w=>by simp[Instr.sliceAt,Instr.slice,gj bm,Instr.sliceBounds,dR,bg,aY,bo],ad⟩
           · exact ⟨_,fun w=>by simp[Instr.sliceAt,Instr.slice,gj bm,Instr.sliceBounds,fS,dR,bg,aY,bo],ad⟩
         · rcases wo (P:=P) (c:= .sliceB) U with ⟨bo,ad⟩|⟨vM,db,bo,fS,ad⟩
           · exact ⟨_,fun w=>by simp[Instr.sliceAt,Instr.slice,gj bm,Instr.sliceBounds,aN,dR,bg,aY,bo],ad⟩
           · exact ⟨_,fun w=>by simp[Instr.sliceAt,Instr.slice,gj bm,Instr.sliceBounds,aN,fS,dR,bg,aY,bo],ad⟩
       · split at h
         · exact h.elim
         · rcases wo (P:=P) (c:= .slice3Acap) h with ⟨gk,U⟩|⟨u,n,gk,aN,U⟩
           · cases gk
           · cases gk
             rcases wo (P:=P) (c:= .slice3B) U with ⟨gk,ad⟩|⟨abW,dk,gk,lk,ad⟩
             · cases gk
             · cases gk
               rcases wo (P:=P) (c:= .slice3C) ad with ⟨bo,au⟩|⟨vM,db,bo,fS,au⟩
               · exact ⟨_,fun w=>by simp[Instr.sliceAt,Instr.slice,gj bm,Instr.sliceBounds,aN,lk,dR,bg,bo],au⟩
               · exact ⟨_,fun w=>by simp[Instr.sliceAt,Instr.slice,gj bm,Instr.sliceBounds,aN,lk,fS,dR,bg,bo],au⟩
     · exact h.elim
   · simp only[lW] at he;rw[he] at h;exact h.elim
 · rename_i n elem bm
   by_cases he:(P.underlying elem).isSome=true
   · rw[he] at h
     simp only[cond_true] at h
     obtain ⟨d,hd⟩:=ub _ he
     have dR:=fun w:World=>qI (w:=w) hd
     split at h
     · rename_i A
       rcases wo (P:=P) (c:= .sliceAlen) h with ⟨aY,U⟩|⟨u,dk,aY,aN,U⟩
       · rcases wo (P:=P) (c:= .sliceB) U with ⟨bo,ad⟩|⟨vM,db,bo,fS,ad⟩
         · refine ⟨_,fun w=> ?_,ad⟩
           simp[Instr.sliceAt,gj bm,Instr.sureAddr,Instr.sliceBounds,dR,bg,aY,bo];try (split<;>rfl)
         · refine ⟨_,fun w=> ?_,ad⟩
           simp[Instr.sliceAt,gj bm,Instr.sureAddr,Instr.sliceBounds,fS,dR,bg,aY,bo];try (split<;>rfl)
       · rcases wo (P:=P) (c:= .sliceB) U with ⟨bo,ad⟩|⟨vM,db,bo,fS,ad⟩
         · refine ⟨_,fun w=> ?_,ad⟩
           simp[Instr.sliceAt,gj bm,Instr.sureAddr,Instr.sliceBounds,aN,dR,bg,aY,bo];try (split<;>rfl)
         · refine ⟨_,fun w=> ?_,ad⟩
           simp[Instr.sliceAt,gj bm,Instr.sureAddr,Instr.sliceBounds,aN,fS,dR,bg,aY,bo];try (split<;>rfl)
     · exact h.elim
   · simp only[lW] at he;rw[he] at h;exact h.elim
 · exact h.elim
theorem WT {n:Int} (b7:0≤n) (U:n≤9223372036854775807):IntKind.i64.wrap n=n:=by
 have e:n%18446744073709551616=n:=Int.emod_eq_of_lt b7 (by omega)
 simp[IntKind.wrap,IntKind.signed,IntKind.bits,e]
 omega
theorem atu {T:TypeId} {l c:Value} {K:Value→World→Prop} (h:WS P T l c w K):
   ∃v w',(Instr.makeSlice T l c).run P w= .ok v w'∧K v w':=by
 unfold WS at h
 split at h
 · rename_i elem bm
   by_cases he:(P.underlying elem).isSome=true
   · rw[he] at h
     simp only[cond_true] at h
     by_cases bN:((P.info? elem).bind (·.zero)).isSome=true
     · rw[bN] at h
       simp only[cond_true] at h
       split at h
       · rename_i k n lP m
         obtain ⟨⟨b7,U,ad,au⟩,bu⟩:=h
         obtain ⟨d,hd⟩:=ub _ he
         obtain ⟨i,hi⟩:=info_of_underlying hd
         obtain ⟨z,H6⟩:=Cg.1 bN
         simp only[hi,Option.bind_some] at H6
         have ab:P.bytesOf elem=i.bytes:=by simp[Program.bytesOf,hi]
         have al:P.cellsOf elem=i.size:=by simp[Program.cellsOf,hi]
         rw[ab] at au
         have aY:=WT b7 (by omega)
         have bo:=WT (n:=m) (by omega) ad
         refine ⟨_,_,?_,bu⟩
         have aD:¬(m<0):=by omega
         have oz:¬(281474976710656<(i.bytes:Int)*m):=by omega
         simp[Instr.makeSlice,gj bm,asInt,asIntOf,C0 hi,aY,bo,aD,oz,qI hd,show¬n<0 by omega,show¬m<n by omega]
         by_cases aj:m.toNat*P.cellsOf elem=0
         · simp[aj,newRow,newObj,Sem.run,pM]
         · simp[zeroValue,C0 hi,H6,newRow,newObj,Sem.run,pM,aj,hi]
       · exact h.elim
     · simp only[lW] at bN;rw[bN] at h;exact h.elim
   · simp only[lW] at he;rw[he] at h;exact h.elim
 · exact h.elim
end
def ay (w:World) (K:World→Prop):Prop:=K w
def Tz (s:ByteArray) (n:Nat):Option UInt8:=s.data.toList[n]?
def tW (k:IntKind) (a b:Int):Int:=k.wrap ((BitVec.ofInt k.bits a&&&BitVec.ofInt k.bits b).toNat:Int)
def Cp (k:IntKind) (a b:Int):Int:=k.wrap ((BitVec.ofInt k.bits a|||BitVec.ofInt k.bits b).toNat:Int)
def E0 (k:IntKind) (a b:Int):Int:=k.wrap ((BitVec.ofInt k.bits a^^^BitVec.ofInt k.bits b).toNat:Int)
def aaz (k:IntKind) (a b:Int):Int:=k.wrap ((BitVec.ofInt k.bits a&&&~~~BitVec.ofInt k.bits b).toNat:Int)
def Mg (P:Program) (o:Oper) (K:Value→World→Prop) (e:Env) (w:World):Prop:=
 bif known e o.op.operands then
   match (execOp (ro e) o).run P w with
   | .ok (.value v) w'=>ay w' fun ag=>K v ag
   |_=>False
 else False
def aeQ (P:Program) (aG:TypeId→j7) (T:TypeId):j7:=
 match P.underlying T with
 |some (.slice e)=>aG e
 |_=> .one (.one .agg)
def j6.atv:j6→Bool
 | .slice=>true
 |_=>false
def aeR:j7→Bool
 | .one (.one .agg)=>true
 | .one (.flat ls)=>ls.any j6.atv
 |_=>false
def gen (P:Program) (aG:TypeId→j7) (o:Oper) (K:Value→World→Prop) (e:Env) (w:World):Prop:=
 bif known e o.op.operands then
   match (execOp (ro e) o).run P w with
   | .ok (.value v) w'=>K v w'
   | .ok .skip w'=>K undef w'
   | .ok (.enter f args) w'=>Calls P f args w' fun yE iG=>qu (aG o.type) fun v=>yE= .returned v∧K v iG
   |_=>False
 else False
def tY (P:Program) (f:FuncId):Prop:=∃fn,P.funcs[f]? =some fn∧(fn.name== "runtime.NumGoroutine")=false∧fn.body.isNone=false
theorem aeS {P:Program} {f:FuncId} (h:tY P f) (args:Array Value) (w:World):(callFunc f args).run P w= .ok (.enter f args) w:=by
 obtain ⟨fn,U,ad,au⟩:=h
 have Fh:¬fn.name= "runtime.NumGoroutine" :=by simpa using ad
 have WU:¬fn.body=none:=by
   intro h;rw[h] at au;cases au
 simp[callFunc,program,Sem.run,bind,Sem.bind,U,Fh,WU,pure]
def WV:Op→Bool
 | .select _ _=>true
 |_=>false
def aeT (P:Program) (T:TypeId):Operand→Bool
 | .const _=>false
 |_=>Gw (P.underlying T)||BV (P.underlying T)
def atw (P:Program) (op:BinOp) (T:TypeId) (Me IY:Operand) (x y:Value) (b:Bool):Prop:=
 ∀w,Sem.run P (do eqGuard op T Me IY x y;binOp op T x y:Sem Value) w= .ok (.bool b) w
def IZ:Operand→Value→Bool
 | .const _,_=>true
 |_, .nilIface=>false
 |_,_=>true
def tI (P:Program) (aG:TypeId→j7) (o:Oper) (K:Value→World→Prop) (e:Env) (w:World):Prop:=
 match o.op with
 | .nilCheck x=>match bB e x with
   |some (.pointer p)=>∃A,p=some A∧K (.pointer (some A)) w
   |_=>False
 | .load T x=>match bB e x with
   |some (.pointer (some A))=>IV P aG T A w fun v=>K v w
   |_=>False
 | .store T x y=>match bB e x,bB e y with
   |some (.pointer (some A)),some v=>WR P aG T A v w fun w'=>ay w' fun ag=>K undef ag
   |_,_=>False
 | .binOp op T x y _=>match bB e x,bB e y with
   |some fZ,some wq=>bif aeT P T y then (∃b:Bool,atw P op T x y fZ wq b∧K (.bool b) w) else
       bif IZ y wq then QG P op T fZ wq (fun v=>K v w) (gen P aG o K e w) else False
   |_,_=>False
 | .indexAddr T x i=>match bB e x,bB e i with
   |some fZ,some pB=>QK P T fZ pB fun v=>K v w
   |_,_=>False
 | .index T x i=>match bB e x,bB e i with
   |some fZ,some pB=>QL P aG T fZ pB fun v=>K v w
   |_,_=>False
 | .field T x i=>match bB e x with
   |some fZ=>QM P aG T fZ i fun v=>K v w
   |_=>False
 | .alloc _=>Mg P o K e w
 | .box _ _=>Mg P o K e w
 | .buildSlice T n ps=>bif aeR (aeQ P aG T) then
     (bif known e o.op.operands then
       qu (aG o.type) fun r=>∃ag,(Instr.buildSlice T n (ps.map fun p=>(p.1,ro e p.2))).run P w= .ok r ag∧K r ag
     else False)
   else Mg P o K e w
 | .slice T x lo hi wm=>bif known e o.op.operands then
     QN P T (ro e x) (lo.map (ro e)) (hi.map (ro e)) (wm.map (ro e)) fun v=>K v w
   else False
 | .makeSlice T l c=>match bB e l,bB e c with
   |some aeU,some Av=>WS P T aeU Av w fun v w'=>ay w' fun ag=>K v ag
   |_,_=>False
 | .convert s d x=>match bB e x with
   |some (.int j n)=>bif (P.underlying s).isSome then
       match P.underlying d with
       |some (.int k)=>K (.int k (k.wrap n)) w
       |_=>qu (aG o.type) fun r=>∃ag,(convert s d (.int j n)).run P w= .ok r ag∧K r ag
     else False
   |some v=>qu (aG o.type) fun r=>∃ag,(convert s d v).run P w= .ok r ag∧K r ag
   |none=>False
 | .build t ps=>match aG t with
   | .one (.flat _)=>gen P aG o K e w
   |_=>bif known e o.op.operands then
       ∃cs:Array Value,(Instr.build t (ps.map fun p=>(p.1,ro e p.2))).run P w= .ok (.agg cs) w∧K (.agg cs) w
     else False
 | .lookup T m i ok=>match bB e m,bB e i with
   |some sK,some pB=>qu (aG o.type) fun r=>∃ag,(Instr.lookup T sK pB ok).run P w= .ok r ag∧K r ag
   |_,_=>False
 | .mapUpdate T m i x=>match bB e m,bB e i,bB e x with
   |some sK,some pB,some fZ=>∃ag,(Instr.mapUpdate T sK pB fZ).run P w= .ok () ag∧K undef ag
   |_,_,_=>False
 | .makeMap T r=>bif known e o.op.operands then qu (aG o.type) fun v=>∃ag,(Instr.makeMap T (r.map (ro e))).run P w= .ok v ag∧K v ag else False
 | .range T x=>match bB e x with
   |some fZ=>∃v ag,(Instr.range T fZ).run P w= .ok v ag∧K v ag
   |_=>False
 | .next it I0=>match bB e it with
   |some fZ=>(bif I0 then ∃ (n:Int) (c:Int) (ag:World),(Instr.next fZ I0 o.type).run P w= .ok (.tuple #[.bool true, .int .i64 n, .int .i32 c]) ag∧K (.tuple #[.bool true, .int .i64 n, .int .i32 c]) ag
       else ∃ (k:Value) (v:Value) (ag:World),(Instr.next fZ I0 o.type).run P w= .ok (.tuple #[.bool true,k,v]) ag∧K (.tuple #[.bool true,k,v]) ag)∨
       (∃ag:World,(Instr.next fZ I0 o.type).run P w= .ok (.tuple #[.bool false]) ag∧K (.tuple #[.bool false]) ag)
   |_=>False
 | .call c=>match c.callee with
   | .value (.tmp k)=>match e.get k with
     |some (.func (.func f) pre cap)=>bif known e o.op.operands then
         tY P f∧Calls P f (pre++c.args.map (ro e)++cap) w fun yE ag=>qu (aG o.type) fun v=>yE= .returned v∧K v ag
       else False
     |_=>gen P aG o K e w
   | .builtin .append=>bif known e o.op.operands then qu (aG o.type) fun r=>∃ag,(Builtin.append_ c.argTypes o.type (c.args.map (ro e))).run P w= .ok r ag∧K r ag else False
   | .builtin .copy=>bif known e o.op.operands then qu (aG o.type) fun r=>∃ag,(Builtin.copy_ c.argTypes o.type (c.args.map (ro e))).run P w= .ok r ag∧K r ag else False
   | .builtin .min=>bif known e o.op.operands then qu (aG o.type) fun r=>∃ag,(Builtin.min_ c.argTypes o.type (c.args.map (ro e))).run P w= .ok r ag∧K r ag else False
   | .builtin .max=>bif known e o.op.operands then qu (aG o.type) fun r=>∃ag,(Builtin.max_ c.argTypes o.type (c.args.map (ro e))).run P w= .ok r ag∧K r ag else False
   | .builtin .delete=>bif known e o.op.operands then ∃r ag,(Builtin.delete_ c.argTypes o.type (c.args.map (ro e))).run P w= .ok r ag∧K r ag else False
   | .value (.func f)=>match P.funcs[f]? with
     |some fn=>match fn.body with
       |some _=>gen P aG o K e w
       |none=>bif known e o.op.operands then qu (aG o.type) fun r=>∃ag,(callFunc f (c.args.map (ro e))).run P w= .ok (.value r) ag∧K r ag else False
     |none=>False
   | .builtin .unsafeString=>bif known e o.op.operands then qu (aG o.type) fun r=>∃ag,(Builtin.unsafeString_ c.argTypes o.type (c.args.map (ro e))).run P w= .ok r ag∧K r ag else False
   | .builtin .unsafeSliceData=>bif known e o.op.operands then qu (aG o.type) fun r=>∃ag,(Builtin.unsafeSliceData_ c.argTypes o.type (c.args.map (ro e))).run P w= .ok r ag∧K r ag else False
   | .builtin .clear=>bif known e o.op.operands then ∃r ag,(Builtin.clear_ c.argTypes o.type (c.args.map (ro e))).run P w= .ok r ag∧K r ag else False
   | .builtin .len=>match ((c.args.map (ro e))[0]? :Option Value) with
     |some (Value.map _)=>bif known e o.op.operands then qu (aG o.type) fun r=>∃ag,(Builtin.len_ c.argTypes o.type (c.args.map (ro e))).run P w= .ok r ag∧K r ag else False
     |_=>gen P aG o K e w
   |_=>gen P aG o K e w
 | .sliceToArrayPointer T x=>match bB e x with
   |some fZ=>QJ P T fZ fun v=>K v w
   |_=>False
 | .mapEntry T m i=>match bB e m,bB e i with
   |some sK,some pB=>∃ (v0:Value) (st:Int) (ag:World),(Instr.mapEntry T sK pB).run P w= .ok (.tuple #[v0, .int .i64 st]) ag∧K (.tuple #[v0, .int .i64 st]) ag
   |_,_=>False
 | .entryStore T m s x=>match bB e m,bB e s,bB e x with
   |some sK,some vs,some fZ=>∃ag,(Instr.entryStore T sK vs fZ).run P w= .ok () ag∧K undef ag
   |_,_,_=>False
 | .entry it=>match bB e it with
   |some fZ=>qu (aG o.type) fun v=>∃ag,(Instr.entry fZ).run P w= .ok v ag∧K v ag
   |_=>False
 | .select _ _=>False
 |_=>gen P aG o K e w
def BW (P:Program) (o:Oper) (a:Act) (w:World) (K:Value→World→Prop):Prop:=
 (∃v w',(execOp a.eval o).run P w= .ok (.value v) w'∧K v w')∨
 (∃w',(execOp a.eval o).run P w= .ok .skip w'∧K undef w')∨
 (∃f args w',(execOp a.eval o).run P w= .ok (.enter f args) w'∧Calls P f args w' fun yE iG=>∃v,yE= .returned v∧K v iG)
theorem BW.wp {P:Program} {o:Oper} {a:Act} {w:World} {K:Value→World→Prop} {next:Act→World→Prop} {Q:Exit→Act→World→Prop}
   (h:BW P o a w K) (aD:∀v w',K v w'→next (a.put o.dst v) w'):o.wp P a w next Q:=by
 unfold Oper.wp
 rcases h with ⟨v,w',h,bu⟩|⟨w',h,bu⟩|⟨f,args,w',h,al⟩
 · rw[h];exact aD _ _ bu
 · rw[h];exact aD _ _ bu
 · rw[h]
   exact al.mono fun yE iG ⟨v,ak,bu⟩=>by subst ak;exact aD _ _ bu
section
variable {P:Program} {aG:TypeId→j7} {o:Oper} {K:Value→World→Prop} {e:Env} {a:Act} {w:World}
theorem atx (ax:gu e a) {xs:Array Operand} (h:known e xs=true):∀x∈xs,a.eval x=ro e x:=by
 intro x af
 exact ax.ro (GZ.1 h x (by simpa using af))
theorem wu (ax:gu e a) (aj:WV o.op=false) (h:known e o.op.operands=true):execOp a.eval o=execOp (ro e) o:=
 execOp_congr o (fun cs b al=>by rw[al] at aj;cases aj) (atx ax h)
theorem Gx (ax:gu e a) (aj:WV o.op=false) (h:gen P aG o K e w):BW P o a w K:=by
 unfold gen at h
 by_cases ae:known e o.op.operands=true
 · rw[ae] at h
   simp only[cond_true] at h
   have al:=wu ax aj ae
   unfold BW
   rw[al]
   split at h
   · rename_i v w' aN
     exact .inl ⟨v,w',aN,h⟩
   · rename_i w' aN
     exact .inr (.inl ⟨w',aN,h⟩)
   · rename_i f args w' aN
     refine .inr (.inr ⟨f,args,w',aN,h.mono fun yE iG aty=> ?_⟩)
     exact rl aty
   · exact h.elim
 · simp only[lW] at ae
   rw[ae] at h
   exact h.elim
theorem WW (ax:gu e a) (aj:WV o.op=false) (h:Mg P o K e w):BW P o a w K:=by
 unfold Mg at h
 by_cases ae:known e o.op.operands=true
 · rw[ae] at h
   simp only[cond_true] at h
   have al:=wu ax aj ae
   unfold BW
   rw[al]
   split at h
   · rename_i v w' aN
     exact .inl ⟨v,w',aN,h⟩
   · exact h.elim
 · simp only[lW] at ae
   rw[ae] at h
   exact h.elim
theorem WX:∀ {ls:List j6} {A:Addr} {i:Nat} {K:List Value→Prop},WQ ls A i w K→∃vs,eN w A i ls.length=some vs∧K vs
 | [],_,_,_,h=>⟨[],rfl,h⟩
 |l::ls,A,i,K,h=>by
   obtain ⟨v,ak,h⟩:=IU h
   obtain ⟨vs,jS,h⟩:=WX h
   exact ⟨v::vs,by simp[eN,ak,jS],h⟩
theorem aeV {T:TypeId} {A:Addr} {K:Value→Prop} (h:IV P aG T A w K):∃v,(Instr.loadAt T (.pointer (some A))).run P w= .ok v w∧K v:=by
 have aY:(Instr.loadAt T (.pointer (some A))).run P w=(loadVar T A).run P w:=by simp[Instr.loadAt,Instr.sureAddr]
 rw[aY]
 unfold IV at h
 split at h
 · exact h.elim
 · rename_i d bm
   cases hd:zK d with
   |true=>
     rw[hd] at h
     simp only[cond_true] at h
     split at h
     · rename_i ls _
       by_cases ab:Nat.beq (P.cellsOf T) ls.length=true
       · rw[ab] at h
         simp only[cond_true] at h
         obtain ⟨vs,jS,h⟩:=WX h
         rw[←qC ab] at jS
         exact ⟨_,QF bm hd jS,h⟩
       · simp only[lW] at ab;rw[ab] at h;exact h.elim
     · obtain ⟨cs,al,h⟩:=h
       exact ⟨_,QF bm hd al,h⟩
   |false=>
     rw[hd] at h
     simp only[cond_false] at h
     split at h
     · obtain ⟨v,ak,h⟩:=IU h
       exact ⟨v,aeC bm hd ak,h⟩
     · exact h.elim
theorem WY {v:Value} (h:Plain v):v.cells= #[v]:=by cases v<;>first|rfl|exact h.elim
theorem add_zero' (A:Addr):A.add 0=A:=rfl
theorem atz {T:TypeId} {A:Addr} {x:Value} {K:World→Prop} (h:WR P aG T A x w K):
   ∃w',(Instr.storeAt T (.pointer (some A)) x).run P w= .ok () w'∧K w':=by
 have aY:(Instr.storeAt T (.pointer (some A)) x).run P w=(storeVar T A x).run P w:=by simp[Instr.storeAt,Instr.sureAddr]
 rw[aY]
 unfold WR at h
 split at h
 · exact h.elim
 · rename_i d bm
   cases hd:zK d with
   |true=>
     rw[hd] at h
     simp only[cond_true] at h
     split at h
     · rename_i cs
       exact ⟨_,aeD (v:= .agg cs) bm h.2.1 h.1,h.2.2⟩
     · exact h.elim
   |false=>
     rw[hd] at h
     simp only[cond_false] at h
     have one:∀ (aZ:Plain x) (ab:Nat.beq (P.cellsOf T) 1=true),((∃u,w.cell? A=some u)∧w.frozen? A=false∧K (w.setCell A x))→∃w',(storeVar T A x).run P w= .ok () w'∧K w':=by
       intro aZ ab ⟨⟨u,hu⟩,aH,bu⟩
       refine ⟨_,aeD (v:=x) bm ?_ ?_,?_⟩
       · rw[WY aZ,qC ab];rfl
       · rw[WY aZ]
         refine ⟨fun i hi=> ?_,fun v ak=> ?_⟩
         · have:i=0:=by simpa using hi
           subst this
           rw[add_zero',hu]
           exact ⟨rfl,aH⟩
         · have:v=x:=by simpa using ak
           subst this;exact aZ
       · rw[WY aZ]
         exact bu
     by_cases ab:Nat.beq (P.cellsOf T) 1=true
     · have kB:=ab
       rw[ab] at h
       simp only[cond_true] at h
       split at h
       · exact one h.1 kB h.2
       · split at h
         · exact h.elim
         · exact h.elim
         · rename_i U ad
           refine one ?_ kB h
           cases x<;>first|exact trivial|(exact absurd rfl (U _))|(exact absurd rfl (ad _))
     · simp only[lW] at ab;rw[ab] at h;exact h.elim
theorem QO (ax:gu e a) (h:tI P aG o K e w):BW P o a w K:=by
 unfold tI at h
 split at h
 case h_1 x cc=>
   split at h
   · rename_i p af
     obtain ⟨A,rfl,bu⟩:=h
     exact .inl ⟨_,_,by simp[execOp,cc,ax.bB af],bu⟩
   · exact h.elim
 case h_2 T x cc=>
   split at h
   · rename_i A af
     obtain ⟨v,ak,bu⟩:=aeV h
     exact .inl ⟨v,w,by simp[execOp,cc,ax.bB af,ak],bu⟩
   · exact h.elim
 case h_3 T x y cc=>
   split at h
   · rename_i A v af b3
     obtain ⟨w',hw,bu⟩:=atz h
     exact .inr (.inl ⟨w',by simp[execOp,cc,ax.bB af,ax.bB b3,hw],bu⟩)
   · exact h.elim
 case h_4 op T x y aeW cc=>
   split at h
   · rename_i fZ wq af b3
     by_cases bQ:aeT P T y=true
     · rw[bQ] at h
       simp only[cond_true] at h
       obtain ⟨b,ab,bu⟩:=h
       exact .inl ⟨_,w,by
         simp only[execOp,cc,ax.bB af,ax.bB b3]
         have qR:=ab w
         simp only[Sem.run_bind] at qR⊢
         rw[qR];rfl,bu⟩
     simp only[lW] at bQ
     rw[bQ] at h
     simp only[cond_false] at h
     by_cases aD:IZ y wq=true
     · rw[aD] at h
       simp only[cond_true] at h
       have LV:wq= .nilIface→∃c,y= .const c:=by
         intro ak
         subst ak
         cases y<;>simp[IZ] at aD⊢
       rcases aeJ (Me:=x) (IY:=y) LV h with bf|⟨v,ak,bu⟩
       · exact Gx ax (by rw[cc];rfl) bf
       · exact .inl ⟨v,w,by
           simp only[execOp,cc,ax.bB af,ax.bB b3]
           have qR:=ak w
           simp only[Sem.run_bind] at qR⊢
           rw[qR];rfl,bu⟩
     · simp only[lW] at aD;rw[aD] at h;exact h.elim
   · exact h.elim
 case h_5 T x i cc=>
   split at h
   · rename_i fZ pB af hi
     obtain ⟨v,ak,bu⟩:=aeL h
     exact .inl ⟨v,w,by simp[execOp,cc,ax.bB af,ax.bB hi,ak],bu⟩
   · exact h.elim
 case h_6 T x i cc=>
   split at h
   · rename_i fZ pB af hi
     obtain ⟨v,ak,bu⟩:=aeN h
     exact .inl ⟨v,w,by simp[execOp,cc,ax.bB af,ax.bB hi,ak],bu⟩
   · exact h.elim
 case h_7 T x i cc=>
   split at h
   · rename_i fZ af
     obtain ⟨v,ak,bu⟩:=aeO h
     exact .inl ⟨v,w,by simp[execOp,cc,ax.bB af,ak],bu⟩
   · exact h.elim
 case h_8 T cc=>exact WW ax (by rw[cc];rfl) h
 case h_9 T x cc=>exact WW ax (by rw[cc];rfl) h
 case h_10 T n ps cc=>
   cases J:aeR (aeQ P aG T) with
   |true=>
     rw[J] at h
     simp only[cond_true] at h
     by_cases ae:known e o.op.operands=true
     · rw[ae] at h
       simp only[cond_true] at h
       have al:=wu ax (by rw[cc];rfl) ae
       obtain ⟨r,ag,aN,bu⟩:=rl h
       exact .inl ⟨r,ag,by rw[al];simp[execOp,cc];rw[aN];rfl,bu⟩
     · simp only[lW] at ae;rw[ae] at h;exact h.elim
   |false=>
     rw[J] at h
     exact WW ax (by rw[cc];rfl) h
 case h_11 T x lo hi wm cc=>
   by_cases ae:known e o.op.operands=true
   · rw[ae] at h
     simp only[cond_true] at h
     have al:=wu ax (by rw[cc];rfl) ae
     obtain ⟨v,ak,bu⟩:=aeP h
     exact .inl ⟨v,w,by rw[al];simp[execOp,cc,ak],bu⟩
   · simp only[lW] at ae;rw[ae] at h;exact h.elim
 case h_12 T l c cc=>
   split at h
   · rename_i aeU Av az al
     obtain ⟨v,w',ak,bu⟩:=atu h
     exact .inl ⟨v,w',by simp[execOp,cc,ax.bB az,ax.bB al,ak],bu⟩
   · exact h.elim
 case h_13 s d x cc=>
   split at h
   · rename_i k n af
     by_cases aj:(P.underlying s).isSome=true
     · rw[aj] at h
       simp only[cond_true] at h
       obtain ⟨ds,rk⟩:=ub _ aj
       split at h
       · rename_i lP hd
         exact .inl ⟨_,_,by simp[execOp,cc,ax.bB af,convert,gj rk,gj hd,Conv.intToInt],h⟩
       · obtain ⟨r,ag,aN,bu⟩:=rl h
         exact .inl ⟨r,ag,by simp[execOp,cc,ax.bB af,aN],bu⟩
     · simp only[lW] at aj;rw[aj] at h;exact h.elim
   · rename_i v _ af
     obtain ⟨r,ag,aN,bu⟩:=rl h
     exact .inl ⟨r,ag,by simp[execOp,cc,ax.bB af,aN],bu⟩
   · exact h.elim
 case h_14 t ps cc=>
   split at h
   · exact Gx ax (by rw[cc];rfl) h
   · by_cases ae:known e o.op.operands=true
     · rw[ae] at h
       simp only[cond_true] at h
       have al:=wu ax (by rw[cc];rfl) ae
       obtain ⟨cs,aN,bu⟩:=h
       exact .inl ⟨_,_,by rw[al];simp[execOp,cc];rw[aN];rfl,bu⟩
     · simp only[lW] at ae;rw[ae] at h;exact h.elim
 case h_15 T m i ok cc=>
   split at h
   · rename_i sK pB hm hi
     obtain ⟨r,ag,aN,bu⟩:=rl h
     exact .inl ⟨r,ag,by simp[execOp,cc,ax.bB hm,ax.bB hi,aN],bu⟩
   · exact h.elim
 case h_16 T m i x cc=>
   split at h
   · rename_i sK pB fZ hm hi af
     obtain ⟨ag,aN,bu⟩:=h
     exact .inr (.inl ⟨ag,by simp[execOp,cc,ax.bB hm,ax.bB hi,ax.bB af,aN],bu⟩)
   · exact h.elim
 case h_17 T r cc=>
   by_cases ae:known e o.op.operands=true
   · rw[ae] at h
     simp only[cond_true] at h
     have al:=wu ax (by rw[cc];rfl) ae
     obtain ⟨v,ag,aN,bu⟩:=rl h
     exact .inl ⟨v,ag,by rw[al];simp[execOp,cc,aN],bu⟩
   · simp only[lW] at ae;rw[ae] at h;exact h.elim
 case h_18 T x cc=>
   split at h
   · rename_i fZ af
     obtain ⟨v,ag,aN,bu⟩:=h
     exact .inl ⟨v,ag,by simp[execOp,cc,ax.bB af,aN],bu⟩
   · exact h.elim
 case h_19 it I0 cc=>
   split at h
   · rename_i fZ af
     rcases h with h|⟨ag,aN,bu⟩
     · cases I0 with
       |true=>
         obtain ⟨n,c,ag,aN,bu⟩:=h
         exact .inl ⟨_,ag,by simp[execOp,cc,ax.bB af,aN],bu⟩
       |false=>
         obtain ⟨k,v,ag,aN,bu⟩:=h
         exact .inl ⟨_,ag,by simp[execOp,cc,ax.bB af,aN],bu⟩
     · exact .inl ⟨_,ag,by simp[execOp,cc,ax.bB af,aN],bu⟩
   · exact h.elim
 case h_20 c cc=>
   have bi:∀ (b:Builtin) (r:Value) (ag:World),c.callee= .builtin b→known e o.op.operands=true→
       (∀cs,(Go.builtin b c.argTypes o.type cs (c.args.map (ro e))).run P w= .ok (.value r) ag)→K r ag→BW P o a w K:=by
     intro b r ag ab ae aN bu
     have al:=wu ax (by rw[cc];rfl) ae
     exact .inl ⟨r,ag,by rw[al];simp[execOp,cc,resolve,ab,invoke,aN],bu⟩
   have x8:∀ {X:Prop},(bif known e o.op.operands then X else False)→known e o.op.operands=true∧X:=by
     intro X dS
     by_cases ae:known e o.op.operands=true
     · rw[ae] at dS;exact ⟨ae,dS⟩
     · simp only[lW] at ae;rw[ae] at dS;exact dS.elim
   split at h
   · rename_i k ab
     split at h
     · rename_i f pre cap bf
       obtain ⟨ae,vp,h⟩:=x8 h
       have al:=wu ax (by rw[cc];rfl) ae
       refine .inr (.inr ⟨f,pre++c.args.map (ro e)++cap,w,?_,h.mono fun yE ag U=> ?_⟩)
       · have WZ:ro e (.tmp k)= .func (.func f) pre cap:=by simp[ro,bB,bf]
         rw[al]
         simp[execOp,cc,resolve,ab,WZ,Deferred.ofValue,invoke,aeS vp]
       · obtain ⟨v,ak,bu⟩:=rl U
         exact ⟨v,ak,bu⟩
     · exact Gx ax (by rw[cc];rfl) h
   · rename_i ab
     obtain ⟨ae,h⟩:=x8 h
     obtain ⟨r,ag,aN,bu⟩:=rl h
     exact bi _ r ag ab ae (fun _=>by simp[Go.builtin,aN]) bu
   · rename_i ab
     obtain ⟨ae,h⟩:=x8 h
     obtain ⟨r,ag,aN,bu⟩:=rl h
     exact bi _ r ag ab ae (fun _=>by simp[Go.builtin,aN]) bu
   · rename_i ab
     obtain ⟨ae,h⟩:=x8 h
     obtain ⟨r,ag,aN,bu⟩:=rl h
     exact bi _ r ag ab ae (fun _=>by simp[Go.builtin,aN]) bu
   · rename_i ab
     obtain ⟨ae,h⟩:=x8 h
     obtain ⟨r,ag,aN,bu⟩:=rl h
     exact bi _ r ag ab ae (fun _=>by simp[Go.builtin,aN]) bu
   · rename_i ab
     obtain ⟨ae,r,ag,aN,bu⟩:=x8 h
     exact bi _ r ag ab ae (fun _=>by simp[Go.builtin,aN]) bu
   · rename_i f ab
     split at h
     · rename_i fn Db
       split at h
       · exact Gx ax (by rw[cc];rfl) h
       · obtain ⟨ae,h⟩:=x8 h
         obtain ⟨r,ag,aN,bu⟩:=rl h
         have al:=wu ax (by rw[cc];rfl) ae
         refine .inl ⟨r,ag,?_,bu⟩
         rw[al]
         have WZ:ro e (.func f)= .func (.func f) #[] #[]:=by simp[ro,bB]
         simp[execOp,cc,resolve,ab,WZ,Deferred.ofValue,invoke,aN]
     · exact h.elim
   · rename_i ab
     obtain ⟨ae,h⟩:=x8 h
     obtain ⟨r,ag,aN,bu⟩:=rl h
     exact bi _ r ag ab ae (fun _=>by simp[Go.builtin,aN]) bu
   · rename_i ab
     obtain ⟨ae,h⟩:=x8 h
     obtain ⟨r,ag,aN,bu⟩:=rl h
     exact bi _ r ag ab ae (fun _=>by simp[Go.builtin,aN]) bu
   · rename_i ab
     obtain ⟨ae,r,ag,aN,bu⟩:=x8 h
     exact bi _ r ag ab ae (fun _=>by simp[Go.builtin,aN]) bu
   · rename_i ab
     split at h
     · obtain ⟨ae,h⟩:=x8 h
       obtain ⟨r,ag,aN,bu⟩:=rl h
       exact bi _ r ag ab ae (fun _=>by simp[Go.builtin,aN]) bu
     · exact Gx ax (by rw[cc];rfl) h
   · exact Gx ax (by rw[cc];rfl) h
 case h_21 T x cc=>
   split at h
   · rename_i fZ af
     obtain ⟨v,ak,bu⟩:=aeK h
     exact .inl ⟨v,w,by simp[execOp,cc,ax.bB af,ak],bu⟩
   · exact h.elim
 case h_22 T m i cc=>
   split at h
   · rename_i sK pB hm hi
     obtain ⟨v0,st,ag,aN,bu⟩:=h
     exact .inl ⟨_,ag,by simp[execOp,cc,ax.bB hm,ax.bB hi,aN],bu⟩
   · exact h.elim
 case h_23 T m s x cc=>
   split at h
   · rename_i sK vs fZ hm aj af
     obtain ⟨ag,aN,bu⟩:=h
     exact .inr (.inl ⟨ag,by simp[execOp,cc,ax.bB hm,ax.bB aj,ax.bB af,aN],bu⟩)
   · exact h.elim
 case h_24 it cc=>
   split at h
   · rename_i fZ af
     obtain ⟨v,ag,aN,bu⟩:=rl h
     exact .inl ⟨v,ag,by simp[execOp,cc,ax.bB af,aN],bu⟩
   · exact h.elim
 case h_25=>exact h.elim
 case h_26=>
   refine Gx ax ?_ h
   cases cc:o.op<;>first|rfl|simp_all
end
end b_
namespace b_
open Go
inductive BX where
 |run
 |split (n:Nat)
 |pure (n:Nat)
 |W0 (ks:List p8)
def kH (P:Program) (o:Oper) (e:Env):Option Value:=
 match o.op with
 | .move x=>bB e x
 | .assign x=>bB e x
 | .unOp .not _ x=>match bB e x with
   |some (.bool b)=>some (.bool (!b))
   |_=>none
 | .binOp op T x y _=>match bB e y with
   |some (.int lP b)=>match bB e x with
     |some (.int k a)=>bif uW k lP then
         match op with
         | .add=>some (.int k (k.wrap (a+b)))
         | .sub=>some (.int k (k.wrap (a-b)))
         | .mul=>some (.int k (k.wrap (a*b)))
         | .quo=>match b with
           | .ofNat (.succ m)=>some (.int k (k.wrap (a.tdiv (.ofNat (.succ m)))))
           |_=>none
         | .rem=>match b with
           | .ofNat (.succ m)=>some (.int k (a.tmod (.ofNat (.succ m))))
           |_=>none
         | .and=>some (.int k (k.wrap (BitVec.ofInt k.bits a&&&BitVec.ofInt k.bits b).toNat))
         | .or=>some (.int k (k.wrap (BitVec.ofInt k.bits a|||BitVec.ofInt k.bits b).toNat))
         | .eql=>some (.bool (a==b))
         | .neq=>some (.bool (a !=b))
         | .lss=>some (.bool (a<b))
         | .leq=>some (.bool (a≤b))
         | .gtr=>some (.bool (a>b))
         | .geq=>some (.bool (a≥b))
         |_=>none
       else none
     |_=>none
   |some (.bool b)=>match bB e x with
     |some (.bool a)=>match P.underlying T with
       |some .bool=>match op with
         | .eql=>some (.bool (a==b))
         | .neq=>some (.bool (!(a==b)))
         |_=>none
       |_=>none
     |_=>none
   |some (.string b)=>match bB e x with
     |some (.string a)=>match op with
       | .eql=>some (.bool (a.toList==b.toList))
       | .neq=>some (.bool (!(a.toList==b.toList)))
       |_=>none
     |_=>none
   |some (.pointer none)=>match bB e x with
     |some (.pointer p)=>bif BV (P.underlying T) then match op with
         | .eql=>some (.bool p.isNone)
         | .neq=>some (.bool (!p.isNone))
         |_=>none
       else none
     |_=>none
   |some (.slice none _ _)=>match bB e x with
     |some (.slice p _ _)=>bif Ed (P.underlying T) then match op with
         | .eql=>some (.bool p.isNone)
         | .neq=>some (.bool (!p.isNone))
         |_=>none
       else none
     |_=>none
   |_=>none
 | .convert s d x=>match bB e x with
   |some (.int _ n)=>match P.underlying d with
     |some (.int k)=>bif (P.underlying s).isSome then some (.int k (k.wrap n)) else none
     |_=>none
   |_=>none
 | .call {callee:= .builtin .len,args:=args,argTypes:=nv}=>match args[0]?,nv[0]? with
   |some x,some T=>match bB e x,P.underlying T with
     |some (.slice _ n _),some (.slice _)=>some (.int .i64 n)
     |some (.string s),some .string=>some (.int .i64 s.size)
     |_,_=>none
   |_,_=>none
 | .call {callee:= .builtin .cap,args:=args,argTypes:=nv}=>match args[0]?,nv[0]? with
   |some x,some T=>match bB e x,P.underlying T with
     |some (.slice _ _ c),some (.slice _)=>some (.int .i64 c)
     |_,_=>none
   |_,_=>none
 |_=>none
def Mh (ops:Array Oper) (e:Env) (j:Nat):Option Value:=((ops[j]?).bind (·.dst)).bind e.get
def atA (ops:Array Oper) (j:Nat):Option Nat:=(ops[j]?).bind (·.dst)
def axx (o:Oper) (e:Env) (K:Bool→Prop):Prop:=
 match o.guard with
 |none=>match o.op with
   | .pick x y z=>match bB e x with
     |some (.bool b)=>match bB e (bif b then y else z) with
       |some (.bool r)=>K r
       |_=>False
     |_=>False
   |_=>False
 |some _=>False
def pb (ops:Array Oper) (o:Oper) (e:Env) (run skip:Prop):Prop:=
 match o.guard with
 |none=>run
 |some (j,want)=>match Mh ops e j with
   |none=>False
   |some (.bool b)=>bif Bool.xor b want then skip else run
   |some _=>skip
def zL {α:Type} (ops:Array Oper) (o:Oper) (e:Env) (run skip:Option α):Option α:=
 match o.guard with
 |none=>run
 |some (j,want)=>match Mh ops e j with
   |none=>none
   |some (.bool b)=>bif Bool.xor b want then skip else run
   |some _=>skip
def x9 (o:Oper) (e:Env):Option Bool:=
 match o.op with
 | .pick x y z=>match bB e x with
   |some (.bool b)=>match bB e (bif b then y else z) with
     |some (.bool r)=>some r
     |_=>none
   |_=>none
 |_=>none
def Mi (ops:Array Oper) (o:Oper) (e:Env):Option (Nat×Bool):=
 match o.guard with
 |none=>none
 |some (j,_)=>match atA ops j with
   |none=>none
   |some s=>match e.get s with
     |some (.bool c)=>some (s,c)
     |_=>none
def BY (ops:Array Oper) (o:Oper) (e:Env):Bool:=
 match o.guard with
 |none=>true
 |some (j,want)=>match Mh ops e j with
   |some (.bool b)=> !(Bool.xor b want)
   |_=>false
def Ee (e:Env) (ds:List Nat):Bool:=e.all fun p=> !(ds.any fun d=>Nat.beq d p.1)
def cD (l:List Oper):List Nat:=l.filterMap (·.dst)
def r7 (P:Program) (ops:Array Oper):Nat→List Oper→List BX→Env→Option Env
 |0,_,_,_=>none
 |_+1,[],_,e=>some e
 |n+1,o::rest, .pure m::as,e=>
   match Mi ops o e,rest.drop (m-1) with
   |none,_=>
     match zL ops o e none (some undef) with
     |some v=>r7 P ops n rest as (fY o.dst v e)
     |none=>none
   |some (s,c),eH::ia=>
     match r7 P ops n (o::rest.take (m-1)) (.run::as.take (m-1)) ((s, .bool true)::e),r7 P ops n (o::rest.take (m-1)) (.run::as.take (m-1)) ((s, .bool false)::e) with
     |some aY,some bo=>
       match x9 eH aY,x9 eH bo with
       |some bI,some aq=>bif BY ops eH e&&Ee e (cD (o::rest.take (m-1))) then r7 P ops n ia (as.drop m) (fY eH.dst (.bool (cond c bI aq)) e) else none
       |_,_=>none
     |_,_=>none
   |_,_=>none
 |n+1,o::rest,_::as,e=>
   match zL ops o e (kH P o e) (some undef) with
   |some v=>r7 P ops n rest as (fY o.dst v e)
   |none=>none
 |n+1,o::rest,[],e=>
   match zL ops o e (kH P o e) (some undef) with
   |some v=>r7 P ops n rest [] (fY o.dst v e)
   |none=>none
inductive cY {α:Type} (B:α→Prop) (k:α):Prop where
 |mk (h:B k)
theorem cY.out {α:Type} {B:α→Prop} {k:α} (h:cY B k):B k:=by cases h with|mk h=>exact h
def QP (P:Program) (ks:List p8) (o:Oper) (K:Value→World→Prop) (e:Env) (w:World):Prop:=
 match o.op with
 | .entry it=>match bB e it with
   |some fZ=>QD ks fun vs=>∃ag,(Instr.entry fZ).run P w= .ok (.tuple vs.toArray) ag∧K (.tuple vs.toArray) ag
   |_=>False
 |_=>False
theorem atB {P:Program} {ks:List p8} {o:Oper} {K:Value→World→Prop} {e:Env} {w:World} {a:Act} (ax:gu e a) (h:QP P ks o K e w):BW P o a w K:=by
 unfold QP at h
 split at h
 · rename_i it cc
   split at h
   · rename_i fZ af
     obtain ⟨v,ag,aN,bu⟩:=WO h
     exact .inl ⟨_,ag,by simp[execOp,cc,ax.bB af,aN],bu⟩
   · exact h.elim
 · exact h.elim
def mI (P:Program) (aG:TypeId→j7) (ops:Array Oper):Nat→List Oper→List BX→(Env→World→Prop)→Env→World→Prop
 |0,_,_,_,_,_=>False
 |_+1,[],_,K,e,w=>K e w
 |n+1,o::rest, .W0 ks::as,K,e,w=>
   pb ops o e (QP P ks o (fun v w'=>mI P aG ops n rest as K (fY o.dst v e) w') e w) (mI P aG ops n rest as K (fY o.dst undef e) w)
 |n+1,o::rest, .pure m::as,K,e,w=>
   match Mi ops o e,rest.drop (m-1) with
   |none,_=>pb ops o e False (mI P aG ops n rest as K (fY o.dst undef e) w)
   |some (s,c),eH::ia=>
     match r7 P ops n (o::rest.take (m-1)) (.run::as.take (m-1)) ((s, .bool true)::e),r7 P ops n (o::rest.take (m-1)) (.run::as.take (m-1)) ((s, .bool false)::e) with
     |some aY,some bo=>
       match x9 eH aY,x9 eH bo with
       |some bI,some aq=>bif BY ops eH e&&Ee e (cD (o::rest.take (m-1))) then mI P aG ops n ia (as.drop m) K (fY eH.dst (.bool (cond c bI aq)) e) w else False
       |_,_=>False
     |_,_=>False
   |_,_=>False
 |n+1,o::rest, .split m::as,K,e,w=>
   match Mi ops o e,rest.drop (m-1) with
   |none,_=>pb ops o e False (mI P aG ops n rest as K (fY o.dst undef e) w)
   |some (s,c),eH::ia=>
     bif BY ops eH e&&Ee e (cD (o::rest.take (m-1))) then
       cY (fun k:Bool→World→Prop=>
           (c=true→mI P aG ops n (o::rest.take (m-1)) (.run::as.take (m-1)) (fun eS w'=>match x9 eH eS with|some r=>k r w'|none=>False) ((s, .bool true)::e) w)∧
           (c=false→mI P aG ops n (o::rest.take (m-1)) (.run::as.take (m-1)) (fun eS w'=>match x9 eH eS with|some r=>k r w'|none=>False) ((s, .bool false)::e) w))
         (fun r w'=>mI P aG ops n ia (as.drop m) K (fY eH.dst (.bool r) e) w')
     else False
   |_,_=>False
 |n+1,o::rest,_::as,K,e,w=>
   pb ops o e (tI P aG o (fun v w'=>mI P aG ops n rest as K (fY o.dst v e) w') e w) (mI P aG ops n rest as K (fY o.dst undef e) w)
 |n+1,o::rest,[],K,e,w=>
   pb ops o e (tI P aG o (fun v w'=>mI P aG ops n rest [] K (fY o.dst v e) w') e w) (mI P aG ops n rest [] K (fY o.dst undef e) w)
structure h4 (ds:List Nat) (a dg:Act):Prop where
 defers:dg.defers=a.defers
 size:dg.tmps.size=a.tmps.size
 same:∀s,s∉ds→dg.tmps[s]? =a.tmps[s]?
theorem h4.refl (ds:List Nat) (a:Act):h4 ds a a:=⟨rfl,rfl,fun _ _=>rfl⟩
theorem h4.trans {ds:List Nat} {a b c:Act} (h:h4 ds a b) (k:h4 ds b c):h4 ds a c:=
 ⟨k.defers.trans h.defers,k.size.trans h.size,fun s aj=>(k.same s aj).trans (h.same s aj)⟩
theorem h4.mono {ds es:List Nat} {a b:Act} (h:h4 ds a b) (aj:∀s,s∈ds→s∈es):h4 es a b:=
 ⟨h.defers,h.size,fun s aD=>h.same s fun hm=>aD (aj s hm)⟩
theorem h4.put {a:Act} {d:Option Nat} {v:Value} {ds:List Nat} (hd:∀k,d=some k→k∈ds):h4 ds a (a.put d v):=by
 cases d with
 |none=>exact .refl _ _
 |some d=>exact ⟨rfl,by simp[Act.put],fun s aj=>by
     have:d≠s:=fun h=>aj (h▸hd d rfl)
     simp[Act.put,Array.getElem?_setIfInBounds_ne this]⟩
def ob (a:Act) (ds:List Nat) (K:Env→World→Prop) (x:Exit) (dg:Act) (w':World):Prop:=
 x= .normal∧h4 ds a dg∧∃eS,gu eS dg∧K eS w'
theorem r8 {P:Program} {ops:Array Oper} {Q Q':Exit→Act→World→Prop} (J:∀x a w,Q x a w→Q' x a w):
   ∀ (l:List Oper) (a:Act) (w:World),wpList P ops Q l a w→wpList P ops Q' l a w
 | [],_,_,h=>J _ _ _ h
 |o::l,a,w,h=>by
   simp only[wpList] at h⊢
   split
   · rename_i hw
     rw[if_pos hw] at h
     refine h.imp (fun h=> ?_) (fun ⟨U,dg,w',ad⟩=>⟨U,dg,w',J _ _ _ ad⟩)
     have:=Oper.wp_mono (Q:=Q) (fun a w=>r8 J l a w) h
     unfold Oper.wp at this⊢
     revert this
     generalize (execOp a.eval o).run P w=r
     intro this
     cases r with
     |ok bL w'=>
       cases bL<;>simp only[Oper.upon] at this⊢<;>first
         |exact this
         |(exact Calls.mono this fun e iG he=>by
             cases e with
             |returned v=>exact he
             |panicked c=>exact J _ _ _ he
             |outgrown=>exact let ⟨dg,w',ad⟩:=he;⟨dg,w',J _ _ _ ad⟩)
     |halt x w'=>cases x<;>simp only[Oper.upon] at this⊢<;>first|exact J _ _ _ this|exact this
   · rename_i hw
     rw[if_neg hw] at h
     exact r8 J l _ _ h
theorem Mj {P:Program} {ops:Array Oper} {Q:Exit→Act→World→Prop} (qU:List Oper):
   ∀ (qT:List Oper) (a:Act) (w:World),wpList P ops (fun x a w=>x= .normal∧wpList P ops Q qU a w) qT a w→wpList P ops Q (qT++qU) a w
 | [],_,_,h=>h.2
 |o::l,a,w,h=>by
   simp only[EC,wpList] at h⊢
   split
   · rename_i hw
     rw[if_pos hw] at h
     rcases h with h|⟨_,dg,w',ad,_⟩
     · left
       have:=Oper.wp_mono (fun a w=>Mj qU l a w) h
       unfold Oper.wp at this⊢
       revert this
       generalize (execOp a.eval o).run P w=r
       intro this
       cases r with
       |ok bL w'=>
         cases bL<;>simp only[Oper.upon] at this⊢<;>first
           |exact this
           |(exact Calls.mono this fun e iG he=>by
               cases e with
               |returned v=>exact he
               |panicked c=>cases he.1
               |outgrown=>exact let ⟨dg,w',ad⟩:=he;by cases ad.1)
       |halt x w'=>cases x<;>simp only[Oper.upon] at this⊢<;>first|(cases this.1;done)|exact this
     · cases ad
   · rename_i hw
     rw[if_neg hw] at h
     exact Mj qU l _ _ h
section
variable {P:Program} {aG:TypeId→j7} {ops:Array Oper}
def Au:Value→Option Bool
 | .bool b=>some b
 |_=>none
theorem Mk {e:Env} {a:Act} (ax:gu e a) {j:Nat} {v:Value} (h:Mh ops e j=some v):
   yielded ops a.tmps j=Au v:=by
 unfold Mh at h
 unfold yielded
 cases hd:(ops[j]?).bind (·.dst) with
 |none=>rw[hd] at h;simp at h
 |some s=>
   rw[hd] at h
   simp only[Option.bind_some] at h⊢
   rw[ax.get _ _ h]
   cases v<;>rfl
theorem Ml {o:Oper} {e:Env} {a:Act} (ax:gu e a) {R S:Prop} (h:pb ops o e R S):
   (Region.wanted o (yielded ops a.tmps)=true∧R)∨(Region.wanted o (yielded ops a.tmps)=false∧S):=by
 unfold pb at h
 unfold Region.wanted
 split at h
 · rename_i bf;rw[bf];exact .inl ⟨rfl,h⟩
 · rename_i j want bf
   rw[bf]
   simp only
   split at h
   · exact h.elim
   · rename_i b ak
     rw[Mk ax ak]
     cases b<;>cases want<;>first|exact .inl ⟨rfl,h⟩|exact .inr ⟨rfl,h⟩
   · rename_i v kC ak
     rw[Mk ax ak]
     cases v<;>first|exact absurd rfl (kC _)|exact .inr ⟨by cases want<;>rfl,h⟩
theorem aeX {o:Oper} {e:Env} {R aeY S:Prop} (h:pb ops o e R S) (aN:R→aeY):pb ops o e aeY S:=by
 unfold pb at h⊢
 split at h
 · exact aN h
 · rename_i j want bf
   split at h
   · exact h
   · rename_i b ak
     cases ab:Bool.xor b want<;>rw[ab] at h<;>first|exact aN h|exact h
   · exact h
theorem atC {α:Type} {o:Oper} {e:Env} {R S:Option α} {r:α} (h:zL ops o e none S=some r):zL ops o e R S=some r:=by
 unfold zL at h⊢
 split at h
 · cases h
 · rename_i j want bf
   split at h
   · exact h
   · rename_i b ak
     cases ab:Bool.xor b want with
     |true=>rw[ab] at h;exact h
     |false=>rw[ab] at h;cases h
   · exact h
theorem atD {α:Type} {o:Oper} {e:Env} {a:Act} (ax:gu e a) {R S:Option α} {r:α} (h:zL ops o e R S=some r):
   (Region.wanted o (yielded ops a.tmps)=true∧R=some r)∨(Region.wanted o (yielded ops a.tmps)=false∧S=some r):=by
 unfold zL at h
 unfold Region.wanted
 split at h
 · rename_i bf;rw[bf];exact .inl ⟨rfl,h⟩
 · rename_i j want bf
   rw[bf]
   simp only
   split at h
   · cases h
   · rename_i b ak
     rw[Mk ax ak]
     cases b<;>cases want<;>first|exact .inl ⟨rfl,h⟩|exact .inr ⟨rfl,h⟩
   · rename_i v kC ak
     rw[Mk ax ak]
     cases v<;>first|exact absurd rfl (kC _)|exact .inr ⟨by cases want<;>rfl,h⟩
theorem aeZ {o:Oper} {e:Env} {a:Act} (ax:gu e a) {v:Value} (h:kH P o e=some v) (w:World):(execOp a.eval o).run P w= .ok (.value v) w:=by
 unfold kH at h
 split at h
 · rename_i x cc
   simp[execOp,cc,ax.bB h]
 · rename_i x cc
   simp[execOp,cc,ax.bB h]
 · rename_i t x cc
   split at h
   · rename_i b af
     cases h
     simp[execOp,cc,ax.bB af,Op.unary]
   · cases h
 · rename_i op T x y aeW cc
   split at h
   · rename_i lP b b3
     split at h
     · rename_i k c af
       by_cases ae:k=lP
       · subst ae
         simp only[uW,decide_true,cond_true] at h
         split at h
         case h_4=>
           split at h
           · cases h
             simp[execOp,cc,ax.bB af,ax.bB b3,eqGuard,binOp,Op.intDiv]
             intro bN;exfalso;revert bN;simp;omega
           · cases h
         case h_5=>
           split at h
           · cases h
             simp[execOp,cc,ax.bB af,ax.bB b3,eqGuard,binOp,Op.intDiv]
             intro bN;exfalso;revert bN;simp;omega
           · cases h
         all_goals first
           |(cases h;simp[execOp,cc,ax.bB af,ax.bB b3,eqGuard,binOp,Op.intArith,Op.intBits,Op.intCmp];done)
           |cases h
       · simp[uW,ae] at h
     · cases h
   · rename_i b b3
     split at h
     · rename_i c af
       split at h
       · rename_i bm
         have aY:∀ (d:Nat) (w:World),(Op.equalIn (d+1) T (.bool c) (.bool b)).run P w= .ok (c==b) w:=by
           intro d w
           simp[Op.equalIn,gj bm]
         have bo:∀w:World,(Op.equal T (.bool c) (.bool b)).run P w= .ok (c==b) w:=fun w=>by rw[IX];exact aY _ w
         split at h
         · cases h
           simp[execOp,cc,ax.bB af,ax.bB b3,eqGuard,binOp,bo]
         · cases h
           simp[execOp,cc,ax.bB af,ax.bB b3,eqGuard,binOp,bo]
         · cases h
       · cases h
     · cases h
   · rename_i b b3
     split at h
     · rename_i c af
       split at h
       · cases h
         have aY:(binOp .eql T (.string c) (.string b)).run P w= .ok (.bool (c.toList==b.toList)) w:=rfl
         simp only[execOp,cc,ax.bB af,ax.bB b3]
         simp[eqGuard,aY]
       · cases h
         have aY:(binOp .neq T (.string c) (.string b)).run P w= .ok (.bool (!(c.toList==b.toList))) w:=rfl
         simp only[execOp,cc,ax.bB af,ax.bB b3]
         simp[eqGuard,aY]
       · cases h
     · cases h
   · rename_i b3
     split at h
     · rename_i p af
       by_cases bm:BV (P.underlying T)=true
       · rw[bm] at h
         simp only[cond_true] at h
         split at h
         · cases h;simp[execOp,cc,ax.bB af,ax.bB b3,eqGuard,binOp,QH (P:=P) bm]
         · cases h;simp[execOp,cc,ax.bB af,ax.bB b3,eqGuard,binOp,QH (P:=P) bm]
         · cases h
       · simp only[lW] at bm;rw[bm] at h;cases h
     · cases h
   · rename_i l c b3
     split at h
     · rename_i p _ _ af
       by_cases bm:Ed (P.underlying T)=true
       · rw[bm] at h
         simp only[cond_true] at h
         split at h
         · cases h;simp[execOp,cc,ax.bB af,ax.bB b3,eqGuard,binOp,QI (P:=P) bm]
         · cases h;simp[execOp,cc,ax.bB af,ax.bB b3,eqGuard,binOp,QI (P:=P) bm]
         · cases h
       · simp only[lW] at bm;rw[bm] at h;cases h
     · cases h
   · cases h
 · rename_i s d x cc
   split at h
   · rename_i k n af
     split at h
     · rename_i lP hd
       by_cases aj:(P.underlying s).isSome=true
       · rw[aj] at h
         cases h
         obtain ⟨ds,rk⟩:=ub _ aj
         simp[execOp,cc,ax.bB af,convert,gj rk,gj hd,Conv.intToInt]
       · simp only[lW] at aj;rw[aj] at h;cases h
     · cases h
   · cases h
 · rename_i args nv cc
   split at h
   · rename_i x T Gy QQ
     split at h
     · rename_i p n c el af bm
       cases h
       simp[execOp,cc,resolve,invoke,Go.builtin,Builtin.len_,QQ,Gy,gj bm,ax.bB af,goInt]
     · rename_i s af bm
       cases h
       simp[execOp,cc,resolve,invoke,Go.builtin,Builtin.len_,QQ,Gy,gj bm,ax.bB af,goInt]
     · cases h
   · cases h
 · rename_i args nv cc
   split at h
   · rename_i x T Gy QQ
     split at h
     · rename_i p n c el af bm
       cases h
       simp[execOp,cc,resolve,invoke,Go.builtin,Builtin.cap_,QQ,Gy,gj bm,ax.bB af,goInt]
     · cases h
   · cases h
 · cases h
theorem W1 {e:Env} {ds:List Nat} {a dg:Act} (ax:gu e a) (hd:Ee e ds=true) (ae:h4 ds a dg):gu e dg:=by
 constructor
 intro s v aj
 have hm:∃u,(s,u)∈e:=by
   clear hd ax
   induction e with
   |nil=>cases aj
   |cons p e du=>
     obtain ⟨k,u⟩:=p
     rw[Gu] at aj
     by_cases qF:k=s
     · subst qF;exact ⟨u,by simp⟩
     · rw[if_neg qF] at aj
       obtain ⟨u,hu⟩:=du aj
       exact ⟨u,by simp[hu]⟩
 obtain ⟨u,hu⟩:=hm
 have U:=GZ.1 hd _ hu
 simp only[zX,JG] at U
 rw[ae.same s fun qZ=>U s qZ (Nat.beq_refl s)]
 exact ax.get s v aj
theorem W2 {eH:Oper} {e:Env} {a:Act} (ax:gu e a) {r:Bool} (h:x9 eH e=some r) (w:World):
   (execOp a.eval eH).run P w= .ok (.value (.bool r)) w:=by
 unfold x9 at h
 split at h
 · rename_i x y z cc
   split at h
   · rename_i b ab
     split at h
     · rename_i sY aN
       cases h
       simp only[execOp,cc,ax.bB ab]
       cases b
       · simp only[cond_false] at aN
         simp[asBool,ax.bB aN]
       · simp only[cond_true] at aN
         simp[asBool,ax.bB aN]
     · cases h
   · cases h
 · cases h
theorem W3 {eH:Oper} {e:Env} {a:Act} (ax:gu e a) (h:BY ops eH e=true):Region.wanted eH (yielded ops a.tmps)=true:=by
 unfold BY at h
 unfold Region.wanted
 split at h
 · rename_i bf;rw[bf]
 · rename_i j want bf
   rw[bf]
   simp only
   split at h
   · rename_i b ak
     rw[Mk ax ak]
     cases b<;>cases want<;>first|rfl|cases h
   · cases h
theorem W4 {o:Oper} {e:Env} {s:Nat} {c:Bool} (h:Mi ops o e=some (s,c)):e.get s=some (.bool c):=by
 unfold Mi at h
 split at h
 · cases h
 · split at h
   · cases h
   · split at h
     · rename_i aj;cases h;exact aj
     · cases h
theorem gu.lit {e:Env} {a:Act} (ax:gu e a) {s:Nat} {v:Value} (h:e.get s=some v):gu ((s,v)::e) a:=by
 constructor
 intro t u aV
 rw[Gu] at aV
 by_cases g9:s=t
 · subst g9
   rw[if_pos rfl] at aV
   cases aV
   exact ax.get _ _ h
 · rw[if_neg g9] at aV
   exact ax.get _ _ aV
theorem W5 {α:Type} (o:α) (rest:List α) (m:Nat) {eH:α} {ia:List α} (h:rest.drop m=eH::ia):
   o::rest=(o::rest.take m)++(eH::ia):=by
 rw[←h];simp
theorem atE {b c:Bool} {α:Type} {x y z:α} (h:(bif b&&c then x else y)=z) (b3:y≠z):b=true∧c=true∧x=z:=by
 cases b<;>cases c<;>first|exact absurd h b3|exact ⟨rfl,rfl,h⟩
theorem ae0:∀ (n:Nat) (l:List Oper) (as:List BX) (e eS:Env) (a:Act) (w:World),gu e a→(∀d∈cD l,d<a.tmps.size)→
   r7 P ops n l as e=some eS→wpList P ops (fun x dg w'=>x= .normal∧h4 (cD l) a dg∧gu eS dg∧w'=w) l a w:=by
 intro n
 induction n with
 |zero=>intro l as e eS a w _ _ h;cases h
 |succ n du=>
   intro l as e eS a w ax ab h
   have one:∀ (o:Oper) (rest:List Oper) (sP:List BX),(∀d∈cD (o::rest),d<a.tmps.size)→
       (match zL ops o e (kH P o e) (some undef) with|some v=>r7 P ops n rest sP (fY o.dst v e)|none=>none)=some eS→
       wpList P ops (fun x dg w'=>x= .normal∧h4 (cD (o::rest)) a dg∧gu eS dg∧w'=w) (o::rest) a w:=by
     intro o rest sP ab h
     have Ef:∀k,o.dst=some k→k∈cD (o::rest):=fun k ae=>by simp[cD,ae]
     have oW:∀k,k∈cD rest→k∈cD (o::rest):=fun k ae=>by
       simp only[cD,JL]
       split
       · exact ae
       · exact u7 _ ae
     split at h
     · rename_i v ak
       have next:∀ (dg:Act),dg=a.put o.dst v→wpList P ops (fun x dg w'=>x= .normal∧h4 (cD (o::rest)) a dg∧gu eS dg∧w'=w) rest dg w:=by
         intro dg oD
         subst oD
         have ae:h4 (cD (o::rest)) a (a.put o.dst v):=h4.put Ef
         have:=du rest sP (fY o.dst v e) eS (a.put o.dst v) w (ax.put fun k ae=>ab k (Ef k ae)) (fun d hd=>by rw[ae.size];exact ab d (oW d hd)) h
         exact r8 (fun x dg w' ⟨U,ad,au,aJ⟩=>⟨U,ae.trans (ad.mono oW),au,aJ⟩) _ _ _ this
       rcases atD ax ak with ⟨hw,aZ⟩|⟨hw,aZ⟩
       · simp only[wpList,hw,if_true]
         left
         unfold Oper.wp
         rw[aeZ ax aZ w]
         exact next _ rfl
       · simp only[wpList,hw,oh,if_false]
         cases aZ
         exact next _ rfl
     · cases h
   cases l with
   |nil=>
     simp only[r7,Option.some.injEq] at h
     subst h
     exact ⟨rfl, .refl _ _,ax,rfl⟩
   |cons o rest=>
     cases as with
     |nil=>exact one o rest [] ab (by simpa only[r7] using h)
     |cons W6 as=>
       cases W6 with
       |run=>exact one o rest as ab (by simpa only[r7] using h)
       |split m=>exact one o rest as ab (by simpa only[r7] using h)
       |W0 ks=>exact one o rest as ab (by simpa only[r7] using h)
       |pure m=>
         simp only[r7] at h
         split at h
         · refine one o rest as ab ?_
           cases ak:zL ops o e none (some undef) with
           |none=>rw[ak] at h;cases h
           |some v=>rw[ak] at h;rw[atC ak];exact h
         · rename_i s c eH ia bf hd
           split at h
           · rename_i aY bo U ad
             split at h
             · rename_i bI aq lk fS
               obtain ⟨Mm,Mn,h⟩:=atE h (by simp)
               rw[W5 o rest (m-1) hd] at ab⊢
               have sA:=W4 bf
               refine Mj _ _ _ _ ?_
               have ic:∀k,k∈cD (o::rest.take (m-1))→k∈cD ((o::rest.take (m-1))++(eH::ia)):=fun k ae=>by
                 simp only[cD,JM,e8];exact .inl ae
               have tJ:∀k,k∈cD (eH::ia)→k∈cD ((o::rest.take (m-1))++(eH::ia)):=fun k ae=>by
                 simp only[cD,JM,e8];exact .inr ae
               have Eg:∀k,eH.dst=some k→k∈cD (eH::ia):=fun k ae=>by simp[cD,ae]
               have oW:∀k,k∈cD ia→k∈cD (eH::ia):=fun k ae=>by
                 simp only[cD,JL]
                 split
                 · exact ae
                 · exact u7 _ ae
               have fin:∀ (Eh:Env) (r:Bool) (bc:Act),h4 (cD (o::rest.take (m-1))) a bc→gu Eh bc→x9 eH Eh=some r→r=cond c bI aq→
                   wpList P ops (fun x dg w'=>x= .normal∧h4 (cD ((o::rest.take (m-1))++(eH::ia))) a dg∧gu eS dg∧w'=w) (eH::ia) bc w:=by
                 intro Eh r bc jQ hZ aZ aN
                 have Ei:=W1 ax Mn jQ
                 simp only[wpList,W3 Ei Mm,if_true]
                 left
                 unfold Oper.wp
                 rw[W2 hZ aZ w]
                 simp only[Oper.upon]
                 have eC:h4 (cD (eH::ia)) bc (bc.put eH.dst (.bool r)):=h4.put Eg
                 have:=du ia (as.drop m) (fY eH.dst (.bool (cond c bI aq)) e) eS (bc.put eH.dst (.bool r)) w
                   (by rw[aN];exact Ei.put fun k ae=>by rw[jQ.size];exact ab k (tJ k (Eg k ae)))
                   (fun d hd=>by rw[eC.size,jQ.size];exact ab d (tJ d (oW d hd))) h
                 refine r8 (fun x dg w' ⟨aA,aE,aI,aL⟩=>⟨aA,(jQ.mono ic).trans ((eC.mono tJ).trans (aE.mono fun k ae=>tJ k (oW k ae))),aI,aL⟩) _ _ _ this
               cases c with
               |true=>
                 have:=du _ _ _ aY a w (ax.lit sA) (fun d hd=>ab d (ic d hd)) U
                 exact r8 (fun x dg w' ⟨aA,aE,aI,aL⟩=>⟨aA,by subst aL;exact fin aY bI dg aE aI lk rfl⟩) _ _ _ this
               |false=>
                 have:=du _ _ _ bo a w (ax.lit sA) (fun d hd=>ab d (ic d hd)) ad
                 exact r8 (fun x dg w' ⟨aA,aE,aI,aL⟩=>⟨aA,by subst aL;exact fin bo aq dg aE aI fS rfl⟩) _ _ _ this
             · cases h
           · cases h
         · cases h
theorem ae1:∀ (n:Nat) (l:List Oper) (as:List BX) (K:Env→World→Prop) (e:Env) (a:Act) (w:World),gu e a→(∀d∈cD l,d<a.tmps.size)→
   mI P aG ops n l as K e w→wpList P ops (ob a (cD l) K) l a w:=by
 intro n
 induction n with
 |zero=>intro l as K e a w _ _ h;cases h
 |succ n du=>
   intro l as K e a w ax ab h
   have one:∀ (o:Oper) (rest:List Oper) (sP:List BX),(∀d∈cD (o::rest),d<a.tmps.size)→
       pb ops o e (tI P aG o (fun v w'=>mI P aG ops n rest sP K (fY o.dst v e) w') e w) (mI P aG ops n rest sP K (fY o.dst undef e) w)→
       wpList P ops (ob a (cD (o::rest)) K) (o::rest) a w:=by
     intro o rest sP ab h
     have Ef:∀k,o.dst=some k→k∈cD (o::rest):=fun k ae=>by simp[cD,ae]
     have oW:∀k,k∈cD rest→k∈cD (o::rest):=fun k ae=>by
       simp only[cD,JL]
       split
       · exact ae
       · exact u7 _ ae
     have next:∀ (v:Value) (w':World),mI P aG ops n rest sP K (fY o.dst v e) w'→wpList P ops (ob a (cD (o::rest)) K) rest (a.put o.dst v) w':=by
       intro v w' h
       have ae:h4 (cD (o::rest)) a (a.put o.dst v):=h4.put Ef
       have:=du rest sP K (fY o.dst v e) (a.put o.dst v) w' (ax.put fun k ae=>ab k (Ef k ae)) (fun d hd=>by rw[ae.size];exact ab d (oW d hd)) h
       exact r8 (fun x dg w' ⟨U,ad,au⟩=>⟨U,ae.trans (ad.mono oW),au⟩) _ _ _ this
     rcases Ml ax h with ⟨hw,aZ⟩|⟨hw,aZ⟩
     · simp only[wpList,hw,if_true]
       exact .inl ((QO ax aZ).wp next)
     · simp only[wpList,hw,oh,if_false]
       exact next _ _ aZ
   have atF:∀ (o:Oper) (rest:List Oper) (ks:List p8) (sP:List BX),(∀d∈cD (o::rest),d<a.tmps.size)→
       pb ops o e (QP P ks o (fun v w'=>mI P aG ops n rest sP K (fY o.dst v e) w') e w) (mI P aG ops n rest sP K (fY o.dst undef e) w)→
       wpList P ops (ob a (cD (o::rest)) K) (o::rest) a w:=by
     intro o rest ks sP ab h
     have Ef:∀k,o.dst=some k→k∈cD (o::rest):=fun k ae=>by simp[cD,ae]
     have oW:∀k,k∈cD rest→k∈cD (o::rest):=fun k ae=>by
       simp only[cD,JL]
       split
       · exact ae
       · exact u7 _ ae
     have next:∀ (v:Value) (w':World),mI P aG ops n rest sP K (fY o.dst v e) w'→wpList P ops (ob a (cD (o::rest)) K) rest (a.put o.dst v) w':=by
       intro v w' h
       have ae:h4 (cD (o::rest)) a (a.put o.dst v):=h4.put Ef
       have:=du rest sP K (fY o.dst v e) (a.put o.dst v) w' (ax.put fun k ae=>ab k (Ef k ae)) (fun d hd=>by rw[ae.size];exact ab d (oW d hd)) h
       exact r8 (fun x dg w' ⟨U,ad,au⟩=>⟨U,ae.trans (ad.mono oW),au⟩) _ _ _ this
     rcases Ml ax h with ⟨hw,aZ⟩|⟨hw,aZ⟩
     · simp only[wpList,hw,if_true]
       exact .inl ((atB ax aZ).wp next)
     · simp only[wpList,hw,oh,if_false]
       exact next _ _ aZ
   cases l with
   |nil=>exact ⟨rfl, .refl _ _,e,ax,h⟩
   |cons o rest=>
     cases as with
     |nil=>exact one o rest [] ab (by simpa only[mI] using h)
     |cons W6 as=>
       cases W6 with
       |run=>exact one o rest as ab (by simpa only[mI] using h)
       |W0 ks=>exact atF o rest ks as ab (by simpa only[mI] using h)
       |split m=>
         simp only[mI] at h
         split at h
         · exact one o rest as ab (aeX h False.elim)
         · rename_i s c eH ia bf hd
           obtain ⟨Mm,Mn,h⟩:BY ops eH e=true∧Ee e (cD (o::rest.take (m-1)))=true∧_:=by
             cases U:BY ops eH e<;>cases ad:Ee e (cD (o::rest.take (m-1)))<;>rw[U,ad] at h<;>first|exact h.elim|exact ⟨rfl,rfl,h⟩
           rw[W5 o rest (m-1) hd] at ab⊢
           have sA:=W4 bf
           refine Mj _ _ _ _ ?_
           have ic:∀k,k∈cD (o::rest.take (m-1))→k∈cD ((o::rest.take (m-1))++(eH::ia)):=fun k ae=>by
             simp only[cD,JM,e8];exact .inl ae
           have tJ:∀k,k∈cD (eH::ia)→k∈cD ((o::rest.take (m-1))++(eH::ia)):=fun k ae=>by
             simp only[cD,JM,e8];exact .inr ae
           have Eg:∀k,eH.dst=some k→k∈cD (eH::ia):=fun k ae=>by simp[cD,ae]
           have oW:∀k,k∈cD ia→k∈cD (eH::ia):=fun k ae=>by
             simp only[cD,JL]
             split
             · exact ae
             · exact u7 _ ae
           have fin:∀ (x:Exit) (bc:Act) (ag:World),ob a (cD (o::rest.take (m-1)))
               (fun eS w'=>match x9 eH eS with|some r=>mI P aG ops n ia (as.drop m) K (fY eH.dst (.bool r) e) w'|none=>False) x bc ag→
               x= .normal∧wpList P ops (ob a (cD ((o::rest.take (m-1))++(eH::ia))) K) (eH::ia) bc ag:=by
             rintro x bc ag ⟨af,jQ,Eh,hZ,h⟩
             refine ⟨af,?_⟩
             have Ei:=W1 ax Mn jQ
             split at h
             · rename_i r aZ
               simp only[wpList,W3 Ei Mm,if_true]
               left
               unfold Oper.wp
               rw[W2 hZ aZ ag]
               simp only[Oper.upon]
               have eC:h4 (cD (eH::ia)) bc (bc.put eH.dst (.bool r)):=h4.put Eg
               have:=du ia (as.drop m) K (fY eH.dst (.bool r) e) (bc.put eH.dst (.bool r)) ag
                 (Ei.put fun k ae=>by rw[jQ.size];exact ab k (tJ k (Eg k ae)))
                 (fun d hd=>by rw[eC.size,jQ.size];exact ab d (tJ d (oW d hd))) h
               refine r8 (fun x dg w' ⟨aA,aE,aI⟩=>⟨aA,(jQ.mono ic).trans ((eC.mono tJ).trans (aE.mono fun k ae=>tJ k (oW k ae))),aI⟩) _ _ _ this
             · exact h.elim
           have h:=h.out
           cases c with
           |true=>
             have:=du _ _ _ _ a w (ax.lit sA) (fun d hd=>ab d (ic d hd)) (h.1 rfl)
             exact r8 fin _ _ _ this
           |false=>
             have:=du _ _ _ _ a w (ax.lit sA) (fun d hd=>ab d (ic d hd)) (h.2 rfl)
             exact r8 fin _ _ _ this
         · exact h.elim
       |pure m=>
         simp only[mI] at h
         split at h
         · exact one o rest as ab (aeX h False.elim)
         · rename_i s c eH ia bf hd
           split at h
           · rename_i aY bo U ad
             split at h
             · rename_i bI aq lk fS
               obtain ⟨Mm,Mn,h⟩:BY ops eH e=true∧Ee e (cD (o::rest.take (m-1)))=true∧_:=by
                 cases aA:BY ops eH e<;>cases aE:Ee e (cD (o::rest.take (m-1)))<;>rw[aA,aE] at h<;>first|exact h.elim|exact ⟨rfl,rfl,h⟩
               rw[W5 o rest (m-1) hd] at ab⊢
               have sA:=W4 bf
               refine Mj _ _ _ _ ?_
               have ic:∀k,k∈cD (o::rest.take (m-1))→k∈cD ((o::rest.take (m-1))++(eH::ia)):=fun k ae=>by
                 simp only[cD,JM,e8];exact .inl ae
               have tJ:∀k,k∈cD (eH::ia)→k∈cD ((o::rest.take (m-1))++(eH::ia)):=fun k ae=>by
                 simp only[cD,JM,e8];exact .inr ae
               have Eg:∀k,eH.dst=some k→k∈cD (eH::ia):=fun k ae=>by simp[cD,ae]
               have oW:∀k,k∈cD ia→k∈cD (eH::ia):=fun k ae=>by
                 simp only[cD,JL]
                 split
                 · exact ae
                 · exact u7 _ ae
               have fin:∀ (Eh:Env) (r:Bool) (bc:Act),h4 (cD (o::rest.take (m-1))) a bc→gu Eh bc→x9 eH Eh=some r→r=cond c bI aq→
                   wpList P ops (ob a (cD ((o::rest.take (m-1))++(eH::ia))) K) (eH::ia) bc w:=by
                 intro Eh r bc jQ hZ aZ aN
                 have Ei:=W1 ax Mn jQ
                 simp only[wpList,W3 Ei Mm,if_true]
                 left
                 unfold Oper.wp
                 rw[W2 hZ aZ w]
                 simp only[Oper.upon]
                 have eC:h4 (cD (eH::ia)) bc (bc.put eH.dst (.bool r)):=h4.put Eg
                 have:=du ia (as.drop m) K (fY eH.dst (.bool (cond c bI aq)) e) (bc.put eH.dst (.bool r)) w
                   (by rw[aN];exact Ei.put fun k ae=>by rw[jQ.size];exact ab k (tJ k (Eg k ae)))
                   (fun d hd=>by rw[eC.size,jQ.size];exact ab d (tJ d (oW d hd))) h
                 refine r8 (fun x dg w' ⟨aA,aE,aI⟩=>⟨aA,(jQ.mono ic).trans ((eC.mono tJ).trans (aE.mono fun k ae=>tJ k (oW k ae))),aI⟩) _ _ _ this
               cases c with
               |true=>
                 have:=ae0 n _ _ _ aY a w (ax.lit sA) (fun d hd=>ab d (ic d hd)) U
                 exact r8 (fun x dg w' ⟨aA,aE,aI,aL⟩=>⟨aA,by subst aL;exact fin aY bI dg aE aI lk rfl⟩) _ _ _ this
               |false=>
                 have:=ae0 n _ _ _ bo a w (ax.lit sA) (fun d hd=>ab d (ic d hd)) ad
                 exact r8 (fun x dg w' ⟨aA,aE,aI,aL⟩=>⟨aA,by subst aL;exact fin bo aq dg aE aI fS rfl⟩) _ _ _ this
             · exact h.elim
           · exact h.elim
         · exact h.elim
end
end b_
namespace b_
open Go
structure ao (W:Nat→Prop) (w w':World):Prop where
 os:w'.os=w.os
 tape:w'.tape=w.tape
 output:w'.output=w.output
 size:w.heap.size≤w'.heap.size
 block:∀k,k<w.heap.size→¬W k→w'.heap[k]? =w.heap[k]?
theorem ao.refl (W:Nat→Prop) (w:World):ao W w w:=⟨rfl,rfl,rfl,cV _,fun _ _ _=>rfl⟩
theorem ao.trans {W:Nat→Prop} {a b c:World} (h:ao W a b) (k:ao W b c):ao W a c:=
 ⟨k.os.trans h.os,k.tape.trans h.tape,k.output.trans h.output,jb h.size k.size,fun i hi hw=>(k.block i (lE hi h.size) hw).trans (h.block i hi hw)⟩
theorem ao.mono {W V:Nat→Prop} {a b:World} (h:ao W a b) (ak:∀k,k<a.heap.size→W k→V k):ao V a b:=
 ⟨h.os,h.tape,h.output,h.size,fun i hi hw=>h.block i hi fun dq=>hw (ak i hi dq)⟩
theorem ao.cell {W:Nat→Prop} {w w':World} (h:ao W w w') {A:Addr} (dq:¬W A.block) {v:Value} (ak:w.cell? A=some v):w'.cell? A=some v:=by
 have ab:A.block<w.heap.size:=by
   rcases g6 A.block w.heap.size with U|U
   · exact U
   · simp[World.cell?,Array.getElem?_eq_none U] at ak
 unfold World.cell? at ak⊢
 rw[h.block _ ab dq]
 exact ak
theorem ao.eN {W:Nat→Prop} {w w':World} (h:ao W w w') {A:Addr} (dq:¬W A.block):∀ (n i:Nat) (vs:List Value),eN w A i n=some vs→eN w' A i n=some vs
 |0,_,_,ak=>ak
 |n+1,i,vs,ak=>by
   simp only[b_.eN] at ak⊢
   have wM:(A.add i).block=A.block:=by unfold Addr.add;split<;>rfl
   cases U:w.cell? (A.add i) with
   |none=>simp[U] at ak
   |some v=>
     cases ad:b_.eN w A (i+1) n with
     |none=>simp[U,ad] at ak
     |some us=>
       simp only[U,ad] at ak
       rw[h.cell (by rw[wM];exact dq) U,ao.eN h dq n (i+1) us ad]
       exact ak
def mJ {α:Type}:Sem α→Prop
 | .pure _=>True
 | .program k=>∀p,mJ (k p)
 | .halt _=>True
 |_=>False
theorem mJ.bind {α β:Type}:∀ {s:Sem α} {f:α→Sem β},mJ s→(∀a,mJ (f a))→mJ (s>>=f)
 | .pure a,_,_,aH=>aH a
 | .program _,_,h,aH=>fun p=>mJ.bind (h p) aH
 | .halt _,_,_,_=>trivial
 | .load ..,_,h,_=>h.elim
 | .store ..,_,h,_=>h.elim
 | .new ..,_,h,_=>h.elim
 | .shape ..,_,h,_=>h.elim
 | .freeze ..,_,h,_=>h.elim
 | .frozen ..,_,h,_=>h.elim
 | .getObj ..,_,h,_=>h.elim
 | .setObj ..,_,h,_=>h.elim
 | .choose ..,_,h,_=>h.elim
 | .sys ..,_,h,_=>h.elim
 | .mark ..,_,h,_=>h.elim
theorem mJ.run {α:Type} {P:Program}:∀ {s:Sem α} {w w':World} {v:α},mJ s→s.run P w= .ok v w'→∀u,s.run P u= .ok v u
 | .pure a,w,w',v,_,h,u=>by
   simp only[Sem.run,Result.ok.injEq] at h⊢
   exact ⟨h.1,trivial⟩
 | .program k,w,w',v,aH,h,u=>mJ.run (aH P) h u
 | .halt _,w,w',v,_,h,_=>by simp[Sem.run] at h
 | .load ..,_,_,_,h,_,_=>h.elim
 | .store ..,_,_,_,h,_,_=>h.elim
 | .new ..,_,_,_,h,_,_=>h.elim
 | .shape ..,_,_,_,h,_,_=>h.elim
 | .freeze ..,_,_,_,h,_,_=>h.elim
 | .frozen ..,_,_,_,h,_,_=>h.elim
 | .getObj ..,_,_,_,h,_,_=>h.elim
 | .setObj ..,_,_,_,h,_,_=>h.elim
 | .choose ..,_,_,_,h,_,_=>h.elim
 | .sys ..,_,_,_,h,_,_=>h.elim
 | .mark ..,_,_,_,h,_,_=>h.elim
theorem ae2:mJ program:=fun _=>trivial
theorem ae3 (t:TypeId):mJ (underlying t):=by
 unfold underlying
 refine mJ.bind ae2 fun p=> ?_
 split<;>trivial
theorem atG (t:TypeId):mJ (typeInfo t):=by
 unfold typeInfo
 refine mJ.bind ae2 fun p=> ?_
 split<;>trivial
theorem atH (t:TypeId):mJ (Go.sizeOf t):=mJ.bind (atG t) fun _=>trivial
theorem atI (t:TypeId):mJ (isAgg t):=by
 unfold isAgg
 refine mJ.bind (ae3 t) fun d=> ?_
 split<;>trivial
theorem atJ (t:TypeId) (cs:Array Value) (off:Nat):mJ (part t cs off):=by
 unfold part
 refine mJ.bind (atI t) fun d=> ?_
 split
 · exact mJ.bind (atH t) fun _=>trivial
 · split<;>trivial
theorem atK (t:TypeId) (x:Value) (i:Nat):mJ (Instr.field t x i):=by
 unfold Instr.field
 refine mJ.bind (ae3 t) fun d=> ?_
 split
 · split
   · refine mJ.bind ?_ fun _=>atJ _ _ _
     unfold asAgg;split<;>trivial
   · trivial
 · trivial
def ae4:Op→Bool
 | .move _=>true
 | .assign _=>true
 | .pick _ _ _=>true
 | .field _ _ _=>true
 |_=>false
def Mo (P:Program) (o:Oper) (K:Value→Prop) (e:Env) (w:World):Prop:=
 bif ae4 o.op&&known e o.op.operands then
   match (execOp (ro e) o).run P w with
   | .ok (.value v) _=>K v
   |_=>False
 else False
def I1 (P:Program) (o:Oper) (K:Value→Prop) (e:Env):Prop:=
 match kH P o e with
 |some v=>K v
 |none=>False
def ae5 (P:Program) (T:TypeId) (x:Value) (i:Nat) (K:Value→Prop):Prop:=
 match P.underlying T with
 |some (.struct fs)=>match fs[i]? with
   |some f=>match x with
     | .pointer (some A)=>match P.underlying f.type with
       |some _=>bif Nat.beq (P.cellsOf f.type) 0 then False else K (.pointer (some (A.add f.offset)))
       |none=>False
     |_=>False
   |none=>False
 |_=>False
def ae6 (x:Value) (i:Nat) (K:Value→Prop):Prop:=
 match x with
 | .tuple vs=>match vs[i]? with
   |some v=>K v
   |none=>False
 |_=>False
def tK (o:Oper):Bool:=
 match o.op with
 | .load _ _=>true
 | .convert _ _ _=>true
 |_=>false
def x_:Nat→List Oper→Nat
 |_,[]=>0
 |i,o::l=>bif tK o then 2^i|||x_ (i+1) l else x_ (i+1) l
def W7 (P:Program) (aG:TypeId→j7) (W:Nat→Prop) (w:World) (o:Oper) (K:Value→Prop) (e:Env):Prop:=
 match o.op with
 | .nilCheck x=>match bB e x with
   |some (.pointer p)=>∃A,p=some A∧K (.pointer (some A))
   |_=>False
 | .load T x=>match bB e x with
   |some (.pointer (some A))=>¬W A.block∧IV P aG T A w K
   |_=>False
 | .binOp op T x y _=>match bB e x,bB e y with
   |some fZ,some wq=>bif IZ y wq then QG P op T fZ wq K (I1 P o K e) else False
   |_,_=>False
 | .indexAddr T x i=>match bB e x,bB e i with
   |some fZ,some pB=>QK P T fZ pB K
   |_,_=>False
 | .index T x i=>match bB e x,bB e i with
   |some fZ,some pB=>QL P aG T fZ pB K
   |_,_=>False
 | .field T x i=>match bB e x with
   |some fZ=>QM P aG T fZ i K
   |_=>False
 | .fieldAddr T x i=>match bB e x with
   |some fZ=>ae5 P T fZ i K
   |_=>False
 | .extract x i=>match bB e x with
   |some fZ=>ae6 fZ i K
   |_=>False
 | .slice T x lo hi wm=>bif known e o.op.operands then
     QN P T (ro e x) (lo.map (ro e)) (hi.map (ro e)) (wm.map (ro e)) K
   else False
 | .convert s d x=>match bB e x with
   |some (.int _ _)=>I1 P o K e
   |some v=>qu (aG o.type) fun r=>(∀w',ao W w w'→(convert s d v).run P w'= .ok r w')∧K r
   |none=>False
 | .build t ps=>bif known e o.op.operands then
     ∃cs:Array Value,(∀w',(Instr.build t (ps.map fun p=>(p.1,ro e p.2))).run P w'= .ok (.agg cs) w')∧K (.agg cs)
   else False
 | .unOp _ _ _=>I1 P o K e
 | .call _=>I1 P o K e
 | .move _=>Mo P o K e w
 | .assign _=>Mo P o K e w
 | .pick _ _ _=>Mo P o K e w
 | .sliceToArrayPointer T x=>match bB e x with
   |some fZ=>QJ P T fZ K
   |_=>False
 |_=>False
section
variable {P:Program} {aG:TypeId→j7} {W:Nat→Prop} {o:Oper} {K:Value→Prop} {e:Env} {a:Act} {w:World}
theorem W8 (ax:gu e a) (h:Mo P o K e w):∃v,(∀w',(execOp a.eval o).run P w'= .ok (.value v) w')∧K v:=by
 unfold Mo at h
 cases aH:ae4 o.op with
 |false=>rw[aH] at h;exact h.elim
 |true=>
   cases ae:known e o.op.operands with
   |false=>rw[aH,ae] at h;exact h.elim
   |true=>
     rw[aH,ae] at h
     simp only[Bool.and_self,cond_true] at h
     have al:=wu ax (by cases cc:o.op<;>rw[cc] at aH<;>first|rfl|cases aH) ae
     rw[al]
     split at h
     · rename_i v w' aN
       refine ⟨v,fun u=>mJ.run ?_ aN u,h⟩
       cases cc:o.op<;>rw[cc] at aH<;>first|(cases aH;done)|skip
       · simp only[execOp,cc];trivial
       · simp only[execOp,cc];trivial
       · simp only[execOp,cc]
         refine mJ.bind ?_ fun _=>trivial
         unfold asBool;split<;>trivial
       · simp only[execOp,cc]
         exact mJ.bind (atK _ _ _) fun _=>trivial
     · exact h.elim
theorem QR (ax:gu e a) (h:I1 P o K e):∃v,(∀w',(execOp a.eval o).run P w'= .ok (.value v) w')∧K v:=by
 unfold I1 at h
 split at h
 · rename_i v ak
   exact ⟨v,aeZ ax ak,h⟩
 · exact h.elim
theorem atL (ax:gu e a) (h:W7 P aG W w o K e):∃v,(∀w',(tK o=true→ao W w w')→(execOp a.eval o).run P w'= .ok (.value v) w')∧K v:=by
 have bz:(∃v,(∀w',(execOp a.eval o).run P w'= .ok (.value v) w')∧K v)→∃v,(∀w',(tK o=true→ao W w w')→(execOp a.eval o).run P w'= .ok (.value v) w')∧K v:=
   fun ⟨v,U,ad⟩=>⟨v,fun w' _=>U w',ad⟩
 unfold W7 at h
 split at h
 case h_1 x cc=>
   split at h
   · rename_i p af
     obtain ⟨A,rfl,bu⟩:=h
     exact ⟨_,fun w' _=>by simp[execOp,cc,ax.bB af],bu⟩
   · exact h.elim
 case h_2 T x cc=>
   split at h
   · rename_i A af
     obtain ⟨dq,h⟩:=h
     have key:∃v,(∀w',ao W w w'→(Instr.loadAt T (.pointer (some A))).run P w'= .ok v w')∧K v:=by
       have aY:∀w',(Instr.loadAt T (.pointer (some A))).run P w'=(loadVar T A).run P w':=fun w'=>by simp[Instr.loadAt,Instr.sureAddr]
       unfold IV at h
       split at h
       · exact h.elim
       · rename_i d bm
         cases hd:zK d with
         |true=>
           rw[hd] at h
           simp only[cond_true] at h
           split at h
           · rename_i ls _
             by_cases ab:Nat.beq (P.cellsOf T) ls.length=true
             · rw[ab] at h
               simp only[cond_true] at h
               obtain ⟨vs,jS,h⟩:=WX h
               rw[←qC ab] at jS
               exact ⟨_,fun w' al=>by rw[aY,QF bm hd (al.eN dq _ _ _ jS)],h⟩
             · simp only[lW] at ab;rw[ab] at h;exact h.elim
           · obtain ⟨cs,fc,h⟩:=h
             exact ⟨_,fun w' al=>by rw[aY,QF bm hd (al.eN dq _ _ _ fc)],h⟩
         |false=>
           rw[hd] at h
           simp only[cond_false] at h
           split at h
           · obtain ⟨v,ak,h⟩:=IU h
             exact ⟨v,fun w' al=>by rw[aY,aeC bm hd (al.cell dq ak)],h⟩
           · exact h.elim
     obtain ⟨v,ak,bu⟩:=key
     exact ⟨v,fun w' al=>by simp[execOp,cc,ax.bB af,ak w' (al (by unfold tK;rw[cc]))],bu⟩
   · exact h.elim
 case h_3 op T x y aeW cc=>
   split at h
   · rename_i fZ wq af b3
     by_cases aD:IZ y wq=true
     · rw[aD] at h
       simp only[cond_true] at h
       have LV:wq= .nilIface→∃c,y= .const c:=by
         intro ak
         subst ak
         cases y<;>simp[IZ] at aD⊢
       rcases aeJ (Me:=x) (IY:=y) LV h with bf|⟨v,ak,bu⟩
       · exact bz (QR ax bf)
       · exact ⟨v,fun w' _=>by
           simp only[execOp,cc,ax.bB af,ax.bB b3]
           have qR:=ak w'
           simp only[Sem.run_bind] at qR⊢
           rw[qR];rfl,bu⟩
     · simp only[lW] at aD;rw[aD] at h;exact h.elim
   · exact h.elim
 case h_4 T x i cc=>
   split at h
   · rename_i fZ pB af hi
     obtain ⟨v,ak,bu⟩:=aeL h
     exact ⟨v,fun w' _=>by simp[execOp,cc,ax.bB af,ax.bB hi,ak],bu⟩
   · exact h.elim
 case h_5 T x i cc=>
   split at h
   · rename_i fZ pB af hi
     obtain ⟨v,ak,bu⟩:=aeN h
     exact ⟨v,fun w' _=>by simp[execOp,cc,ax.bB af,ax.bB hi,ak],bu⟩
   · exact h.elim
 case h_6 T x i cc=>
   split at h
   · rename_i fZ af
     obtain ⟨v,ak,bu⟩:=aeO h
     exact ⟨v,fun w' _=>by simp[execOp,cc,ax.bB af,ak],bu⟩
   · exact h.elim
 case h_7 T x i cc=>
   split at h
   · rename_i fZ af
     unfold ae5 at h
     split at h
     · rename_i fs bm
       split at h
       · rename_i f aH
         split at h
         · rename_i A
           split at h
           · rename_i d hd
             cases bN:Nat.beq (P.cellsOf f.type) 0 with
             |true=>rw[bN] at h;exact h.elim
             |false=>
               rw[bN] at h
               have H6:¬P.cellsOf f.type=0:=fun b7=>by rw[b7] at bN;cases bN
               exact ⟨_,fun w' _=>by simp[execOp,cc,ax.bB af,Instr.fieldAt,gj bm,aH,Instr.sureAddr,fieldPlace,qI hd,H6],h⟩
           · exact h.elim
         · exact h.elim
       · exact h.elim
     · exact h.elim
   · exact h.elim
 case h_8 x i cc=>
   split at h
   · rename_i fZ af
     unfold ae6 at h
     split at h
     · rename_i vs
       split at h
       · rename_i v ak
         exact ⟨v,fun w' _=>by simp[execOp,cc,ax.bB af,Instr.extract,ak],h⟩
       · exact h.elim
     · exact h.elim
   · exact h.elim
 case h_9 T x lo hi wm cc=>
   by_cases ae:known e o.op.operands=true
   · rw[ae] at h
     simp only[cond_true] at h
     have al:=wu ax (by rw[cc];rfl) ae
     obtain ⟨v,ak,bu⟩:=aeP h
     exact ⟨v,fun w' _=>by rw[al];simp[execOp,cc,ak],bu⟩
   · simp only[lW] at ae;rw[ae] at h;exact h.elim
 case h_10 s d x cc=>
   split at h
   · exact bz (QR ax h)
   · rename_i v _ af
     obtain ⟨r,aN,bu⟩:=rl h
     exact ⟨r,fun w' al=>by simp[execOp,cc,ax.bB af,aN w' (al (by unfold tK;rw[cc]))],bu⟩
   · exact h.elim
 case h_11 t ps cc=>
   by_cases ae:known e o.op.operands=true
   · rw[ae] at h
     simp only[cond_true] at h
     have al:=wu ax (by rw[cc];rfl) ae
     obtain ⟨cs,aN,bu⟩:=h
     exact ⟨_,fun w' _=>by rw[al];simp[execOp,cc];rw[aN];rfl,bu⟩
   · simp only[lW] at ae;rw[ae] at h;exact h.elim
 case h_12=>exact bz (QR ax h)
 case h_13=>exact bz (QR ax h)
 case h_14=>exact bz (W8 ax h)
 case h_15=>exact bz (W8 ax h)
 case h_16=>exact bz (W8 ax h)
 case h_17 T x cc=>
   split at h
   · rename_i fZ af
     obtain ⟨v,ak,bu⟩:=aeK h
     exact ⟨v,fun w' _=>by simp[execOp,cc,ax.bB af,ak],bu⟩
   · exact h.elim
 case h_18=>exact h.elim
end
inductive aX where
 |take (i:Nat) (t:aX)
 |cK (i:Nat) (t:aX)
 |out (i:Nat) (b:Bool) (t:aX)
 |two (i:Nat) (t:aX) (j:Nat) (u:aX)
 |three (i:Nat) (t:aX) (j:Nat) (u:aX) (k:Nat) (v:aX)
 |sp (s:Nat) (t u:aX)
 |fin
 |tail (as:List BX)
def qv:List Nat→Nat
 | []=>0
 |d::l=>2^d|||qv l
theorem BZ:∀ (l:List Nat) (k:Nat),(qv l).testBit k=decide (k∈l)
 | [],k=>by simp[qv]
 |d::l,k=>by
   simp only[qv,Ch,BZ l k,JJ]
   by_cases h:d=k
   · subst h;simp
   · have:¬k=d:=fun qh=>h qh.symm
     simp[h,this]
def Ej (o:Oper):List Nat:=(o.after.toList.filter fun e=>Region.binds .any e).map (·.on)
structure wv where
 M:List Nat
 A:List Nat
def wx (l:List Nat) (i:Nat):Nat:=l.getD i 0
def wy (cU:wv) (m i:Nat):Bool:= !(m.testBit i)&&Nat.beq (wx cU.M i&&&m) (wx cU.M i)
def ae7 (cU:wv) (N m i:Nat):Bool:=Nat.beq (wx cU.A i&&&((2^N-1)^^^m)) 0
def ya (cU:wv) (m:Nat) (is:List Nat):Nat→Bool
 |0=>true
 |k+1=>(is.any (Nat.beq k)|| !(wy cU m k))&&ya cU m is k
def Mp (cU:wv):Nat→List Oper→Bool
 |_,[]=>true
 |i,o::l=>Nat.beq (qv (Ej o)) (wx cU.M i)&&Mp cU (i+1) l
def Mq (M:List Nat) (Gz i GA GB:Nat):Nat→List Nat→List Nat→List Nat→Bool
 |j,I2::I3,Ek::uX,I4::uY=>(Gz.testBit j||(Nat.beq i j||(I2.testBit i||(Nat.beq (GA&&&(I4|||Ek)) 0&&Nat.beq (Ek&&&GB) 0))))&&Mq M Gz i GA GB (j+1) I3 uX uY
 |_,_,_,_=>true
def QS (cU:wv) (D K:List Nat):Nat→List Nat→List Nat→Bool
 |i,d::uX,k::uY=>Mq cU.M (wx cU.A i) i d k 0 cU.M D K&&QS cU D K (i+1) uX uY
 |_,_,_=>true
def ae8 (ops:List Oper):List Nat:=ops.map fun o=>qv o.dst.toList
def ae9 (GC:Array Oper) (ops:List Oper):List Nat:=ops.map fun o=>qv (o.looksAt GC)
def Mr:List Nat→List Nat→Bool
 | [],[]=>true
 |a::l,b::r=>Nat.beq a b&&Mr l r
 |_,_=>false
theorem W9:∀ {l r:List Nat},Mr l r=true→l=r
 | [],[],_=>rfl
 |a::l,b::r,h=>by
   simp only[Mr,jD] at h
   rw[qC h.1,W9 h.2]
def zM (cU:wv) (D K:List Nat) (GC:Array Oper):Bool:=
 Nat.beq cU.M.length GC.size&&(Mp cU 0 GC.toList&&(Mr (ae8 GC.toList) D&&(Mr (ae9 GC GC.toList) K&&QS cU D K 0 D K)))
def Ms (cU:wv):Nat→Nat→Nat→Nat→Bool
 |0,_,N,m=>ya cU m [] N
 |g+1,k,N,m=>(wy cU m k&&ya cU m [k] N)&&Ms cU g (k+1) N (m|||2^k)
def hN (P:Program) (aG:TypeId→j7) (ops:Array Oper) (n:Nat) (cU:wv) (W:Nat→Prop):aX→Nat→Nat→(Env→World→Prop)→Env→World→Prop
 | .take i t,f+1,m,K,e,w=>
   bif wy cU m i&&(ae7 cU ops.size m i&&Nat.blt i n) then
     match ops[i]? with
     |some o=>pb ops o e (W7 P aG W w o (fun v=>hN P aG ops n cU W t f (m|||2^i) K (fY o.dst v e) w) e) (hN P aG ops n cU W t f (m|||2^i) K (fY o.dst undef e) w)
     |none=>False
   else False
 | .cK i t,f+1,m,K,e,w=>
   bif (wy cU m i&&ya cU m [i] ops.size)&&Nat.blt i n then
     match ops[i]? with
     |some o=>pb ops o e (tI P aG o (fun v w'=>ao W w w'∧hN P aG ops n cU W t f (m|||2^i) K (fY o.dst v e) w') e w) (hN P aG ops n cU W t f (m|||2^i) K (fY o.dst undef e) w)
     |none=>False
   else False
 | .out i b t,f+1,m,K,e,w=>
   bif (wy cU m i&&ya cU m [i] ops.size)&&(Nat.blt i n&&Nat.beq ((x_ 0 ops.toList&&&m)&&&wx cU.M i) (x_ 0 ops.toList&&&m)) then
     match ops[i]? with
     |some o=>pb ops o e (tI P aG o (fun v w'=>bif b then ∃V:Nat→Prop,hN P aG ops n cU V t f (m|||2^i) K (fY o.dst v e) w' else hN P aG ops n cU W t f (m|||2^i) K (fY o.dst v e) w') e w) (hN P aG ops n cU W t f (m|||2^i) K (fY o.dst undef e) w)
     |none=>False
   else False
 | .two i t j u,f+1,m,K,e,w=>
   bif (wy cU m i&&ya cU m [i,j] ops.size)&&(Nat.blt i n&&Nat.blt j n) then
     match ops[i]?,ops[j]? with
     |some o,some q=>
       pb ops o e (tI P aG o (fun v w'=>ao W w w'∧hN P aG ops n cU W t f (m|||2^i) K (fY o.dst v e) w') e w) (hN P aG ops n cU W t f (m|||2^i) K (fY o.dst undef e) w)∧
       pb ops q e (tI P aG q (fun v w'=>ao W w w'∧hN P aG ops n cU W u f (m|||2^j) K (fY q.dst v e) w') e w) (hN P aG ops n cU W u f (m|||2^j) K (fY q.dst undef e) w)
     |_,_=>False
   else False
 | .three i t j u k x,f+1,m,K,e,w=>
   bif (wy cU m i&&ya cU m [i,j,k] ops.size)&&(Nat.blt i n&&(Nat.blt j n&&Nat.blt k n)) then
     match ops[i]?,ops[j]?,ops[k]? with
     |some o,some q,some r=>
       pb ops o e (tI P aG o (fun v w'=>ao W w w'∧hN P aG ops n cU W t f (m|||2^i) K (fY o.dst v e) w') e w) (hN P aG ops n cU W t f (m|||2^i) K (fY o.dst undef e) w)∧
       pb ops q e (tI P aG q (fun v w'=>ao W w w'∧hN P aG ops n cU W u f (m|||2^j) K (fY q.dst v e) w') e w) (hN P aG ops n cU W u f (m|||2^j) K (fY q.dst undef e) w)∧
       pb ops r e (tI P aG r (fun v w'=>ao W w w'∧hN P aG ops n cU W x f (m|||2^k) K (fY r.dst v e) w') e w) (hN P aG ops n cU W x f (m|||2^k) K (fY r.dst undef e) w)
     |_,_,_=>False
   else False
 | .sp s t u,f,m,K,e,w=>
   match e.get s with
   |some (.bool c)=>(c=true→hN P aG ops n cU W t f m K ((s, .bool true)::e) w)∧(c=false→hN P aG ops n cU W u f m K ((s, .bool false)::e) w)
   |_=>False
 | .fin,0,m,K,e,w=>bif ya cU m [] ops.size&&Nat.beq n ops.size then K e w else False
 | .tail as,0,m,K,e,w=>bif Ms cU (ops.size-n) n ops.size m&&Nat.blt n ops.size then mI P aG ops (ops.size-n+1) (ops.toList.drop n) as K e w else False
 |_,_,_,_,_,_=>False
def iZ (N m:Nat):Array Bool:=(Array.range N).map fun i=>m.testBit i
theorem I5 {N m i:Nat} {d:Bool} (h:i<N):(iZ N m).getD i d=m.testBit i:=by
 simp[iZ,h]
theorem atM {N m i:Nat} {d:Bool} (h:N≤i):(iZ N m).getD i d=d:=by
 simp[iZ,h]
theorem QT (N m i:Nat):(iZ N m).setIfInBounds i true=iZ N (m|||2^i):=by
 apply Array.ext
 · simp[iZ]
 · intro j U ad
   have a_:j<N:=by simpa[iZ] using ad
   have au:j<(iZ N m).size:=by simpa[iZ] using a_
   rw[Array.getElem_setIfInBounds au]
   simp only[iZ,Array.getElem_map,Array.getElem_range,Ch,JJ]
   by_cases We:i=j
   · subst We;simp
   · simp[We]
theorem ae_ (N:Nat):iZ N 0=Array.replicate N false:=by
 apply Array.ext
 · simp[iZ]
 · intro j U ad
   simp[iZ]
section
variable {ops:Array Oper} {cU:wv} {D K:List Nat}
theorem afa:∀ (l:List Oper) (i k:Nat) (o:Oper),Mp cU i l=true→l[k]? =some o→wx cU.M (i+k)=qv (Ej o)
 | [],_,_,_,_,h=>by simp at h
 |p::l,i,0,o,al,h=>by
   simp only[Mp,jD] at al
   simp only[z2,Option.some.injEq] at h
   subst h
   exact (qC al.1).symm
 |p::l,i,k+1,o,al,h=>by
   simp only[Mp,jD] at al
   have:=afa l (i+1) k o al.2 (by simpa using h)
   rw[show i+(k+1)=i+1+k by omega]
   exact this
theorem QU (h:zM cU D K ops=true) {i:Nat} {o:Oper} (bQ:ops[i]? =some o):wx cU.M i=qv (Ej o):=by
 simp only[zM,jD] at h
 have:=afa ops.toList 0 i o h.2.1 (by simpa using bQ)
 simpa using this
theorem afb {a b:Nat} (h:a&&&b=a) {k:Nat} (ae:a.testBit k=true):b.testBit k=true:=by
 have:=congrArg (fun x=>x.testBit k) h
 simp only[Nat.testBit_and,ae,EI] at this
 exact this
theorem afc:∀ (l:List Oper) (i k:Nat) (o:Oper),l[k]? =some o→(x_ i l).testBit (i+k)=tK o
 | [],_,_,_,h=>by simp at h
 |p::l,i,0,o,h=>by
   simp only[z2,Option.some.injEq] at h
   subst h
   have low:∀ (l:List Oper) (i k:Nat),k<i→(x_ i l).testBit k=false:=by
     intro l
     induction l with
     |nil=>intro i k _;simp[x_]
     |cons q l du=>
       intro i k ae
       simp only[x_]
       cases tK q
       · exact du (i+1) k (by omega)
       · simp only[cond_true,Ch,JJ,du (i+1) k (by omega),Bool.or_false,tS]
         omega
   simp only[x_,zV]
   cases tK p
   · exact low l (i+1) i (by omega)
   · simp[Ch]
 |p::l,i,k+1,o,h=>by
   have:=afc l (i+1) k o (by simpa using h)
   rw[show i+1+k=i+(k+1) by omega] at this
   simp only[x_]
   cases tK p
   · exact this
   · simp only[cond_true,Ch,JJ,this]
     simp
theorem QV {o:Oper} {k:Nat}:k∈Ej o↔∃e∈o.after,Region.binds .any e=true∧e.on=k:=by
 simp only[Ej,nq,GR,Array.mem_toList_iff]
 constructor
 · rintro ⟨e,⟨U,ad⟩,au⟩;exact ⟨e,U,ad,au⟩
 · rintro ⟨e,U,ad,au⟩;exact ⟨e,⟨U,ad⟩,au⟩
def Small (N m:Nat):Prop:=∀k,N≤k→m.testBit k=false
theorem atN (N:Nat):Small N 0:=fun k _=>by simp
theorem QW {N m i:Nat} (h:Small N m) (hi:i<N):Small N (m|||2^i):=fun k ae=>by
 simp only[Ch,h k ae,JJ,EK,tS]
 omega
theorem QX (al:zM cU D K ops=true) {m i:Nat} (hm:Small ops.size m):i∈Region.ready .any ops (iZ ops.size m)↔i<ops.size∧wy cU m i=true:=by
 rw[mem_ready]
 constructor
 · rintro ⟨U,o,bQ,fx⟩
   have hi:i<ops.size:=(JN.1 bQ).1
   refine ⟨hi,?_⟩
   rw[I5 hi] at U
   simp only[wy,U,Bool.not_false,EI]
   rw[QU al bQ]
   have:qv (Ej o)&&&m=qv (Ej o):=by
     apply Nat.eq_of_testBit_eq
     intro k
     simp only[Nat.testBit_and,BZ]
     by_cases ae:k∈Ej o
     · obtain ⟨e,he,ab,Mt⟩:=QV.1 ae
       have ad:=fx e he ab
       rw[Mt] at ad
       rcases g6 k ops.size with bd|cg
       · rw[I5 bd] at ad;simp[ae,ad]
       · rw[atM cg] at ad;cases ad
     · simp[ae]
   rw[this];exact Nat.beq_refl _
 · rintro ⟨hi,h⟩
   simp only[wy,jD,zX] at h
   have bQ:ops[i]? =some ops[i]:=by simp[hi]
   refine ⟨by rw[I5 hi];exact h.1,ops[i],bQ,fun e he ab=> ?_⟩
   have ad:=qC h.2
   rw[QU al bQ] at ad
   have au:m.testBit e.on=true:=afb ad (by
     rw[BZ];simp only[fu];exact QV.2 ⟨e,he,ab,rfl⟩)
   have bd:e.on<ops.size:=by
     rcases g6 e.on ops.size with h|h
     · exact h
     · rw[hm _ h] at au;cases au
   rw[I5 bd];exact au
theorem afd:∀ (N:Nat) {m:Nat} {is:List Nat},ya cU m is N=true→∀k,k<N→wy cU m k=true→k∈is
 |0,_,_,_,k,ae,_=>by omega
 |N+1,m,is,h,k,ae,aN=>by
   simp only[ya,jD,u_,zX] at h
   rcases g6 k N with U|U
   · exact afd N h.2 k U aN
   · have:k=N:=by omega
     subst this
     rcases h.1 with ad|ad
     · obtain ⟨x,af,ab⟩:=List.any_eq_true.1 ad
       rw[qC ab];exact af
     · rw[aN] at ad;cases ad
theorem GD (al:zM cU D K ops=true) {m:Nat} {is:List Nat} (hm:Small ops.size m) (h:ya cU m is ops.size=true):
   ∀k∈Region.ready .any ops (iZ ops.size m),k∈is:=fun k ae=>
 let ⟨U,ad⟩:=(QX al hm).1 ae
 afd _ h k U ad
theorem afe:∀ (I3 uX uY:List Nat) (W_:List Nat) (Gz i GA GB j k:Nat) (I2 Ek I4:Nat),Mq W_ Gz i GA GB j I3 uX uY=true→I3[k]? =some I2→uX[k]? =some Ek→uY[k]? =some I4→
   Gz.testBit (j+k)=true∨i=j+k∨I2.testBit i=true∨(GA&&&(I4|||Ek)=0∧Ek&&&GB=0)
 | [],_,_,_,_,_,_,_,_,_,_,_,_,_,h,_,_=>by simp at h
 |_::_,[],_,_,_,_,_,_,_,_,_,_,_,_,_,h,_=>by simp at h
 |_::_,_::_,[],_,_,_,_,_,_,_,_,_,_,_,_,_,h=>by simp at h
 |axy::I3,axz::uX,axA::uY,W_,Gz,i,GA,GB,j,k,I2,Ek,I4,al,U,ad,au=>by
   simp only[Mq,jD,u_] at al
   cases k with
   |zero=>
     simp only[z2,Option.some.injEq] at U ad au
     subst U ad au
     rcases al.1 with h|h|h|h
     · exact .inl h
     · exact .inr (.inl (qC h))
     · exact .inr (.inr (.inl h))
     · exact .inr (.inr (.inr ⟨qC h.1,qC h.2⟩))
   |succ k=>
     have:=afe I3 uX uY W_ Gz i GA GB (j+1) k I2 Ek I4 al.2 (by simpa using U) (by simpa using ad) (by simpa using au)
     rw[show j+(k+1)=j+1+k by omega]
     exact this
theorem aff:∀ (uX uY:List Nat) (i k:Nat) (QY QZ:Nat),QS cU D K i uX uY=true→uX[k]? =some QY→uY[k]? =some QZ→
   Mq cU.M (wx cU.A (i+k)) (i+k) QY QZ 0 cU.M D K=true
 | [],_,_,_,_,_,_,h,_=>by simp at h
 |_::_,[],_,_,_,_,_,_,h=>by simp at h
 |d::uX,uM::uY,i,k,QY,QZ,al,U,ad=>by
   simp only[QS,jD] at al
   cases k with
   |zero=>
     simp only[z2,Option.some.injEq] at U ad
     subst U ad
     exact al.1
   |succ k=>
     have:=aff uX uY (i+1) k QY QZ al.2 (by simpa using U) (by simpa using ad)
     rw[show i+(k+1)=i+1+k by omega]
     exact this
theorem Xa {a b:Nat} (h:a&&&b=0) {k:Nat} (aR:a.testBit k=true):b.testBit k=false:=by
 have:=congrArg (fun x=>x.testBit k) h
 simp only[Nat.testBit_and,aR,EI,Nat.zero_testBit] at this
 exact this
theorem atO {x y:Oper} (U:qv x.dst.toList&&&(qv (y.looksAt ops)|||qv y.dst.toList)=0) (ad:qv y.dst.toList&&&qv (x.looksAt ops)=0):
   x.apart ops y=true:=by
 unfold Oper.apart
 simp only[jD]
 refine ⟨?_,?_⟩
 · cases af:x.dst with
   |none=>rfl
   |some d=>
     rw[af] at U
     have au:=Xa U (k:=d) (by rw[BZ];simp)
     simp only[Ch,BZ,Nv,tS] at au
     simp only[jD,zX,bne_iff_ne,ne_eq]
     refine ⟨by simpa using au.1,fun h=> ?_⟩
     rw[h] at au
     simp at au
 · cases b3:y.dst with
   |none=>rfl
   |some d=>
     rw[b3] at ad
     have au:=Xa ad (k:=d) (by rw[BZ];simp)
     simp only[BZ,tS] at au
     simpa using au
theorem atP (al:zM cU D K ops=true) {m i:Nat} {wz:Oper} (hi:ops[i]? =some wz) (h:ae7 cU ops.size m i=true):
   ∀j qw,ops[j]? =some qw→j≠i→(iZ ops.size m).getD j true=false→(∀e∈qw.after,Region.binds .any e=true→e.on≠i)→wz.apart ops qw=true:=by
 intro j qw a_ sQ sR dd
 have pt:=al
 simp only[zM,jD] at al
 obtain ⟨hlen,BQ,vz,bu,ax⟩:=al
 have acb:=qC hlen
 have Az:=W9 vz
 have atQ:=W9 bu
 have afg:j<ops.size:=(JN.1 a_).1
 have afh:∀ {k:Nat} {o:Oper},ops[k]? =some o→D[k]? =some (qv o.dst.toList):=fun {k o} bQ=>by
   rw[←Az];simp[ae8,bQ]
 have afi:∀ {k:Nat} {o:Oper},ops[k]? =some o→K[k]? =some (qv (o.looksAt ops)):=fun {k o} bQ=>by
   rw[←atQ];simp[ae9,bQ]
 have Xb:=aff D K 0 i _ _ ax (afh hi) (afi hi)
 have atR:cU.M[j]? =some (wx cU.M j):=by
   unfold wx
   have:j<cU.M.length:=by omega
   simp[List.getD,this]
 have:=afe cU.M D K cU.M _ _ _ _ 0 j _ _ _ Xb atR (afh a_) (afi a_)
 simp only[gz] at this
 rcases this with U|U|U|U
 · exfalso
   have ad:=qC h
   have au:=Xa ad U
   rw[I5 afg] at sR
   simp[Nat.testBit_xor,Nat.testBit_two_pow_sub_one,afg,sR] at au
 · exact absurd U.symm sQ
 · exfalso
   rw[QU pt a_,BZ] at U
   simp only[fu] at U
   obtain ⟨e,he,ab,Mt⟩:=QV.1 U
   exact dd e he ab Mt
 · exact atO U.1 U.2
end
def GF (ops:Array Oper) (gv:Array Bool) (j:Nat):Prop:=
 ∀k ok qw,ops[k]? =some ok→ops[j]? =some qw→tK ok=true→gv.getD k false=true→∃e∈qw.after,Region.binds .any e=true∧e.on=k
def zN (P:Program) (ops:Array Oper) (Q:Exit→Act→World→Prop) (n:Nat) (L:Array Bool→Act→World→Prop):Nat→(World→Prop)→Array Bool→Act→World→Prop
 |0,_,gv,a,w=>L gv a w
 |f+1,S,gv,a,w=>Region.ready .any ops gv≠ []∧
     ∀i∈Region.ready .any ops gv,i<n∧wpOp P ops Q i (fun dg w'=>∃gO:World→Prop,((∀x,gO x→S x)∨GF ops gv i)∧gO w'∧zN P ops Q n L f gO (gv.setIfInBounds i true) dg w') a w
def Mu (ops:Array Oper) (n:Nat):Prop:=
 ∀gv,HeadInv .any ops n gv→∀i,i<n→gv.getD i true=false→∀t,n≤t→t∉Region.ready .any ops gv
theorem atS (ops:Array Oper):Mu ops ops.size:=by
 intro gv _ i _ _ t aV aN
 obtain ⟨_,o,bQ,_⟩:=mem_ready.1 aN
 have:=(JN.1 bQ).1
 omega
theorem atT {ops:Array Oper} {n:Nat} (aj:Region.sinkB .any ops n=true) (al:Region.chainB .any ops n=true) (aD:n<ops.size):Mu ops n:=
 fun _ inv i hi sR t aV=>tail_waits aj al aD inv _ i rfl hi sR t aV
section
variable {P:Program} {ops:Array Oper} {Q:Exit→Act→World→Prop} {n:Nat} {L:Array Bool→Act→World→Prop}
theorem YieldsIf.mono {S gO:World→Prop} {o:Oper} {v:Value} {a:Act} (h:YieldsIf P ops S o v a) (aj:∀x,gO x→S x):YieldsIf P ops gO o v a:=
 h.imp (fun ⟨U,ad⟩=>⟨U,fun w hw=>ad w (aj w hw)⟩) id
theorem atU (I6:Mu ops n) {i:Nat} {wz:Oper} {v:Value} (hi:ops[i]? =some wz) (Q0:∀ (j:Nat) (o:Oper) cs b,ops[j]? =some o→o.op≠ .select cs b)
   (yA:∀c a w,Q (.panic c) (a.put wz.dst v) w→Q (.panic c) a w) (fo:i<n) (tB:∀gv a w,L gv a w→∀j∈Region.ready .any ops gv,n≤j):
   ∀ (f:Nat) (S T:World→Prop) (gv:Array Bool) (a:Act) (w:World),(∀x,S x→T x)→(tK wz=true∨∀x,T x)→HeadInv .any ops n gv→
     (∀j qw,ops[j]? =some qw→j≠i→gv.getD j true=false→(∀e∈qw.after,Region.binds .any e=true→e.on≠i)→wz.apart ops qw=true)→
     i∈Region.ready .any ops gv→YieldsIf P ops T wz v a→S w→
     zN P ops Q n L f S (gv.setIfInBounds i true) (a.put wz.dst v) w→zN P ops Q n L (f+1) S gv a w:=by
 intro f
 induction f with
 |zero=>
   intro S T gv a w Q1 HU inv _ aN b3 ph H
   have sR:=(mem_ready.1 aN).1
   refine ⟨fun h=>(by rw[h] at aN;cases aN),fun j a_=> ?_⟩
   have Mv:j<n:=by
     rcases g6 j n with h|h
     · exact h
     · exact absurd a_ (I6 gv inv i fo sR j h)
   refine ⟨Mv,?_⟩
   by_cases sQ:j=i
   · subst sQ;exact (YieldsIf.mono b3 Q1).wpOp hi ph ⟨S, .inl fun _ h=>h,ph,H⟩
   · have:=tB _ _ _ H j (ready_mono a_ sQ)
     omega
 |succ f du=>
   intro S T gv a w Q1 HU inv KX aN b3 ph H
   have sR:=(mem_ready.1 aN).1
   refine ⟨fun h=>(by rw[h] at aN;cases aN),fun j a_=> ?_⟩
   have Mv:j<n:=by
     rcases g6 j n with h|h
     · exact h
     · exact absurd a_ (I6 gv inv i fo sR j h)
   refine ⟨Mv,?_⟩
   by_cases sQ:j=i
   · subst sQ;exact (YieldsIf.mono b3 Q1).wpOp hi ph ⟨S, .inl fun _ h=>h,ph,H⟩
   · have U:=(H.2 j (ready_mono a_ sQ)).2
     obtain ⟨afj,qw,Q2,fx⟩:=mem_ready.1 a_
     have LL:∀e∈qw.after,Region.binds .any e=true→e.on≠i:=fun e he ab heq=>by
       have U:=fx e he ab
       rw[heq,getD_both sR] at U
       cases U
     have ad:=wpOp_putIf Q2 (KX j qw Q2 sQ afj LL) (fun cs b=>Q0 i wz cs b hi) (fun cs b=>Q0 j qw cs b Q2) yA b3 U
     have afk:∀k ok,ops[k]? =some ok→k≠i→(gv.setIfInBounds j true).getD k true=false→
         (∀e∈ok.after,Region.binds .any e=true→e.on≠i)→wz.apart ops ok=true:=fun k ok ae lu sR dd=>by
       refine KX k ok ae lu ?_ dd
       by_cases afl:j=k
       · subst afl;exact afj
       · rw[getD_set_ne true afl] at sR;exact sR
     refine wpOp_mono (fun dg w' au=> ?_) ad
     obtain ⟨afm,gO,ic,Q3,BQ⟩:=au
     have Xc:=BQ
     rw[←Array.setIfInBounds_comm _ _ sQ] at Xc
     have Xd:GF ops (gv.setIfInBounds i true) j→GF ops gv j:=fun aZ k ok atV ae C9 aj az=>aZ k ok atV ae C9 aj (by
       by_cases ou:i=k
       · subst ou
         have:gv.getD i true=true:=by
           simp only[Array.getD] at az⊢
           split at az
           · rename_i bd;simp[bd] at az⊢;exact az
           · cases az
         rw[this] at sR;cases sR
       · simp only[Array.getD,Array.size_setIfInBounds] at az⊢
         split at az
         · rename_i bd
           simp only[bd,dif_pos]
           simp only[Array.getInternal_eq_getElem] at az⊢
           rw[Array.getElem_setIfInBounds_ne _ ou]
           exact az
         · cases az)
     rcases HU with aj|afn
     · have afo:∀x,gO x→S x:=by
         rcases ic with h|h
         · exact h
         · exfalso
           obtain ⟨e,he,ab,Mt⟩:=h i wz qw hi Q2 aj (by
             have bd:i<gv.size:=by
               rcases g6 i gv.size with h|h
               · exact h
               · simp[Array.getD,Nat.not_lt.2 h] at sR
             simp[Array.getD,bd])
           exact LL e he ab Mt
       exact ⟨gO, .inl afo,Q3,du gO T (gv.setIfInBounds j true) dg w' (fun x af=>Q1 x (afo x af)) (.inl aj) (inv.set a_ Mv) afk (ready_mono aN (Ne.symm sQ)) afm Q3 Xc⟩
     · exact ⟨gO,ic.imp id Xd,Q3,du gO T (gv.setIfInBounds j true) dg w' (fun x _=>afn x) (.inr afn) (inv.set a_ Mv) afk (ready_mono aN (Ne.symm sQ)) afm Q3 Xc⟩
theorem afp {g:Nat} (dz:∀gv a w,L gv a w→wpAny P .any ops Q g gv a w):
   ∀ (f:Nat) (S:World→Prop) (gv:Array Bool) (a:Act) (w:World),zN P ops Q n L f S gv a w→wpAny P .any ops Q (f+g) gv a w
 |0,_,gv,a,w,h=>by rw[gz];exact dz _ _ _ h
 |f+1,S,gv,a,w,h=>by
   rw[show f+1+g=(f+g)+1 by omega]
   exact ⟨fun b7=>absurd b7 h.1,fun i hi=>wpOp_mono (fun dg w' ⟨gO,_,_,qh⟩=>afp dz f gO _ dg w' qh) (h.2 i hi).2⟩
def LE (P:Program) (ops:Array Oper) (Q:Exit→Act→World→Prop) (n:Nat) (gv:Array Bool) (a:Act) (w:World):Prop:=
 (Region.ready .any ops gv=[]∧n=ops.size∧Q .normal a w)∨
 (Region.seqB .any ops (ops.size-n) n gv=true∧n<ops.size∧wpList P ops Q (ops.toList.drop n) a w)
theorem atW:∀gv a w,LE P ops Q n gv a w→∀j∈Region.ready .any ops gv,n≤j:=by
 rintro gv a w (⟨h,_,_⟩|⟨h,aD,_⟩) j a_
 · rw[h] at a_;cases a_
 · exact seqB_ready h j a_
theorem atX:∀gv a w,LE P ops Q n gv a w→wpAny P .any ops Q (ops.size-n) gv a w:=by
 rintro gv a w (⟨h,aD,J⟩|⟨h,aD,J⟩)
 · subst aD
   rw[EF]
   exact ⟨h,J⟩
 · have:=wpAny_of_seq (md:= .any) (P:=P) (Q':=Q) (ops.toList.drop n) n gv a w (fun j=>by simp[Ns]) (by simpa using h) J
   simpa using this
end
section
variable {P:Program} {aG:TypeId→j7} {ops:Array Oper} {n:Nat} {cU:wv} {hY gE:List Nat} {W:Nat→Prop}
theorem afq (al:zM cU hY gE ops=true):∀ (g k m:Nat),Small ops.size m→k+g=ops.size→Ms cU g k ops.size m=true→Region.seqB .any ops g k (iZ ops.size m)=true
 |0,k,m,hm,ae,h=>by
   simp only[Ms] at h
   simp only[Region.seqB,List.isEmpty_iff]
   cases aN:Region.ready .any ops (iZ ops.size m) with
   |nil=>rfl
   |cons x l=>
     have:=GD al hm h x (by rw[aN];simp)
     cases this
 |g+1,k,m,hm,ae,h=>by
   simp only[Ms,jD] at h
   simp only[Region.seqB,jD,fu]
   have JR:k<ops.size:=by omega
   have qZ:k∈Region.ready .any ops (iZ ops.size m):=(QX al hm).2 ⟨JR,h.1.1⟩
   refine ⟨?_,?_⟩
   · have fx:=GD al hm h.1.2
     have hG:(Region.ready .any ops (iZ ops.size m)).Nodup:=by
       unfold Region.ready
       exact List.Pairwise.filter _ List.nodup_range
     revert qZ fx hG
     generalize Region.ready .any ops (iZ ops.size m)=l
     intro qZ fx hG
     match l,qZ,fx,hG with
     | [],qZ,_,_=>cases qZ
     | [x],qZ,fx,_=>rw[lV.1 (fx x (by simp))]
     |x::y::l,_,fx,hG=>
       have af:=lV.1 (fx x (by simp))
       have b3:=lV.1 (fx y (by simp))
       simp[af,b3] at hG
   · rw[QT]
     exact afq al g (k+1) (m|||2^k) (QW hm JR) (by omega) h.2
theorem atY (al:zM cU hY gE ops=true) (I6:Mu ops n) (aD:n≤ops.size) (Q0:Region.noSelect ops=true) {a0:Act} (ab:∀d∈cD ops.toList,d<a0.tmps.size):
   ∀ (t:aX) (W:Nat→Prop) (f:Nat) (m:Nat) (K:Env→World→Prop) (e:Env) (a:Act) (w:World),gu e a→h4 (cD ops.toList) a0 a→Small ops.size m→HeadInv .any ops n (iZ ops.size m)→
     hN P aG ops n cU W t f m K e w→zN P ops (ob a0 (cD ops.toList) K) n (LE P ops (ob a0 (cD ops.toList) K) n) f (ao W w) (iZ ops.size m) a w:=by
 intro t
 have I7:∀ (i:Nat) (o:Oper),ops[i]? =some o→∀k,o.dst=some k→k∈cD ops.toList:=by
   intro i o bQ k ae
   simp only[cD,List.mem_filterMap]
   exact ⟨o,by simpa using Array.mem_of_getElem? bQ,ae⟩
 have I8:∀ (W:Nat→Prop) (t:aX),(∀ (W:Nat→Prop) (f:Nat) (m:Nat) (K:Env→World→Prop) (e:Env) (a:Act) (w:World),gu e a→h4 (cD ops.toList) a0 a→Small ops.size m→HeadInv .any ops n (iZ ops.size m)→
     hN P aG ops n cU W t f m K e w→zN P ops (ob a0 (cD ops.toList) K) n (LE P ops (ob a0 (cD ops.toList) K) n) f (ao W w) (iZ ops.size m) a w)→
     ∀ (f:Nat) (m:Nat) (K:Env→World→Prop) (e:Env) (a:Act) (w:World) (i:Nat) (o:Oper),gu e a→h4 (cD ops.toList) a0 a→Small ops.size m→HeadInv .any ops n (iZ ops.size m)→
     i∈Region.ready .any ops (iZ ops.size m)→i<n→ops[i]? =some o→
     pb ops o e (tI P aG o (fun v w'=>ao W w w'∧hN P aG ops n cU W t f (m|||2^i) K (fY o.dst v e) w') e w) (hN P aG ops n cU W t f (m|||2^i) K (fY o.dst undef e) w)→
     wpOp P ops (ob a0 (cD ops.toList) K) i (fun dg w'=>∃gO:World→Prop,((∀x,gO x→ao W w x)∨GF ops (iZ ops.size m) i)∧gO w'∧zN P ops (ob a0 (cD ops.toList) K) n (LE P ops (ob a0 (cD ops.toList) K) n) f gO ((iZ ops.size m).setIfInBounds i true) dg w') a w:=by
   intro W t du f m K e a w i o ax ae hm inv aN fo bQ h
   have next:∀ (v:Value) (w':World),ao W w w'→hN P aG ops n cU W t f (m|||2^i) K (fY o.dst v e) w'→
       ∃gO:World→Prop,((∀x,gO x→ao W w x)∨GF ops (iZ ops.size m) i)∧gO w'∧zN P ops (ob a0 (cD ops.toList) K) n (LE P ops (ob a0 (cD ops.toList) K) n) f gO ((iZ ops.size m).setIfInBounds i true) (a.put o.dst v) w':=by
     intro v w' atZ h
     have jP:h4 (cD ops.toList) a (a.put o.dst v):=h4.put (I7 i o bQ)
     have hinv:=inv.set aN fo
     rw[QT] at hinv⊢
     exact ⟨ao W w', .inl fun x af=>atZ.trans af, .refl _ _,du W f _ K _ _ w' (ax.put fun k eC=>by rw[ae.size];exact ab k (I7 i o bQ k eC)) (ae.trans jP) (QW hm (by omega)) hinv h⟩
   unfold wpOp
   simp only[bQ]
   rcases Ml ax h with ⟨hw,aZ⟩|⟨hw,aZ⟩
   · simp only[hw,if_true]
     exact .inl ((QO ax aZ).wp fun v w' ⟨U,ad⟩=>next v w' U ad)
   · simp only[hw,oh,if_false]
     exact next _ _ (.refl _ _) aZ
 have Q4:∀ {b c d:Bool} {X:Prop},(bif b&&(c&&d) then X else False)→b=true∧c=true∧d=true∧X:=by
   intro b c d X h
   cases b<;>cases c<;>cases d<;>first|exact h.elim|exact ⟨rfl,rfl,rfl,h⟩
 have Xe:∀ {b c:Bool} {X:Prop},(bif b&&c then X else False)→b=true∧c=true∧X:=by
   intro b c X h
   cases b<;>cases c<;>first|exact h.elim|exact ⟨rfl,rfl,h⟩
 have blt:∀ {i j:Nat},Nat.blt i j=true→i<j:=fun h=>by
   have:=Ci h
   omega
 have ne_nil:∀ {m i:Nat},Small ops.size m→wy cU m i=true→i<ops.size→Region.ready .any ops (iZ ops.size m)≠ []:=fun hm h hi b7=>by
   have:=(QX al hm).2 ⟨hi,h⟩
   rw[b7] at this;cases this
 induction t with
 |take i t du=>
   intro W f m K e a w ax ae hm inv h
   cases f with
   |zero=>simp[hN] at h
   |succ f=>
     simp only[hN] at h
     obtain ⟨U,ad,au,h⟩:=Q4 h
     have fo:=blt au
     have aN:i∈Region.ready .any ops (iZ ops.size m):=(QX al hm).2 ⟨by omega,U⟩
     split at h
     · rename_i o bQ
       have fin:∀v,YieldsIf P ops (fun x=>tK o=true→ao W w x) o v a→hN P aG ops n cU W t f (m|||2^i) K (fY o.dst v e) w→
           zN P ops (ob a0 (cD ops.toList) K) n (LE P ops (ob a0 (cD ops.toList) K) n) (f+1) (ao W w) (iZ ops.size m) a w:=by
         intro v b3 h
         have jP:h4 (cD ops.toList) a (a.put o.dst v):=h4.put (I7 i o bQ)
         refine atU I6 bQ (Region.noSelect_spec Q0) (fun c a w J=>by cases J.1) fo atW f (ao W w) (fun x=>tK o=true→ao W w x) _ a w (fun _ h _=>h) (by cases aj:tK o<;>simp) inv (atP al bQ ad) aN b3 (.refl _ _) ?_
         have hinv:=inv.set aN fo
         rw[QT] at hinv⊢
         exact du W f _ K _ _ w (ax.put fun k eC=>by rw[ae.size];exact ab k (I7 i o bQ k eC)) (ae.trans jP) (QW hm (by omega)) hinv h
       rcases Ml ax h with ⟨hw,aZ⟩|⟨hw,aZ⟩
       · obtain ⟨v,ak,bu⟩:=atL ax aZ
         exact fin v (.inl ⟨hw,fun w' al=>ak w' al⟩) bu
       · exact fin undef (.inr ⟨hw,rfl⟩) aZ
     · exact h.elim
 |cK i t du=>
   intro W f m K e a w ax ae hm inv h
   cases f with
   |zero=>simp[hN] at h
   |succ f=>
     simp only[hN] at h
     obtain ⟨ni,au,h⟩:=Xe h
     simp only[jD] at ni
     have fo:=blt au
     split at h
     · rename_i o bQ
       refine ⟨ne_nil hm ni.1 (by omega),fun j a_=> ?_⟩
       have sQ:j=i:=by simpa using GD al hm ni.2 j a_
       subst sQ
       exact ⟨fo,I8 W t du f m K e a w j o ax ae hm inv a_ fo bQ h⟩
     · exact h.elim
 |out i b t du=>
   intro W f m K e a w ax ae hm inv h
   cases f with
   |zero=>simp[hN] at h
   |succ f=>
     simp only[hN] at h
     obtain ⟨ni,au,aJ,h⟩:=Q4 h
     simp only[jD] at ni
     have fo:=blt au
     have aJ:=qC aJ
     split at h
     · rename_i o bQ
       refine ⟨ne_nil hm ni.1 (by omega),fun j a_=> ?_⟩
       have sQ:j=i:=by simpa using GD al hm ni.2 j a_
       subst sQ
       refine ⟨fo,?_⟩
       have Xd:GF ops (iZ ops.size m) j:=by
         intro k ok qw jP C9 aj az
         have fp:k<ops.size:=(JN.1 jP).1
         rw[I5 fp] at az
         have kB:(x_ 0 ops.toList&&&m).testBit k=true:=by
           rw[Nat.testBit_and,az,Bool.and_true]
           exact (afc ops.toList 0 k ok (by simpa using jP)).trans aj|>(by simpa using ·)
         have a6:(wx cU.M j).testBit k=true:=afb aJ kB
         rw[QU al C9,BZ] at a6
         simp only[fu] at a6
         exact QV.1 a6
       have next:∀ (v:Value) (w':World) (V:Nat→Prop),hN P aG ops n cU V t f (m|||2^j) K (fY o.dst v e) w'→
           ∃gO:World→Prop,((∀x,gO x→ao W w x)∨GF ops (iZ ops.size m) j)∧gO w'∧zN P ops (ob a0 (cD ops.toList) K) n (LE P ops (ob a0 (cD ops.toList) K) n) f gO ((iZ ops.size m).setIfInBounds j true) (a.put o.dst v) w':=by
         intro v w' V h
         have jP:h4 (cD ops.toList) a (a.put o.dst v):=h4.put (I7 j o bQ)
         have hinv:=inv.set a_ fo
         rw[QT] at hinv⊢
         exact ⟨ao V w', .inr Xd, .refl _ _,du V f _ K _ _ w' (ax.put fun k eC=>by rw[ae.size];exact ab k (I7 j o bQ k eC)) (ae.trans jP) (QW hm (by omega)) hinv h⟩
       unfold wpOp
       simp only[bQ]
       rcases Ml ax h with ⟨hw,aZ⟩|⟨hw,aZ⟩
       · simp only[hw,if_true]
         refine .inl ((QO ax aZ).wp fun v w' ad=> ?_)
         cases b with
         |true=>
           obtain ⟨V,ad⟩:=ad
           exact next v w' V ad
         |false=>exact next v w' W ad
       · simp only[hw,oh,if_false]
         exact next _ _ W aZ
     · exact h.elim
 |two i t j u Mw Mx=>
   intro W f m K e a w ax ae hm inv h
   cases f with
   |zero=>simp[hN] at h
   |succ f=>
     simp only[hN] at h
     obtain ⟨ni,au,aJ,h⟩:=Q4 h
     simp only[jD] at ni
     have hi:=blt au
     split at h
     · rename_i o q bQ J
       refine ⟨ne_nil hm ni.1 (by omega),fun k jP=> ?_⟩
       have lu:k=i∨k=j:=by simpa using GD al hm ni.2 k jP
       rcases lu with lu|lu
       · subst lu
         exact ⟨blt au,I8 W t Mw f m K e a w k o ax ae hm inv jP (blt au) bQ h.1⟩
       · subst lu
         exact ⟨blt aJ,I8 W u Mx f m K e a w k q ax ae hm inv jP (blt aJ) J h.2⟩
     · exact h.elim
 |three i t j u k x Mw Mx at0=>
   intro W f m K e a w ax ae hm inv h
   cases f with
   |zero=>simp[hN] at h
   |succ f=>
     simp only[hN] at h
     obtain ⟨ni,au,at1,h⟩:=Q4 (d:=_) h
     obtain ⟨aJ,a6⟩:Nat.blt j n=true∧Nat.blt k n=true:=by simpa using at1
     simp only[jD] at ni
     have hi:=blt au
     split at h
     · rename_i o q r bQ J ZJ
       refine ⟨ne_nil hm ni.1 (by omega),fun y jP=> ?_⟩
       have lu:y=i∨y=j∨y=k:=by simpa using GD al hm ni.2 y jP
       rcases lu with lu|lu|lu
       · subst lu
         exact ⟨blt au,I8 W t Mw f m K e a w y o ax ae hm inv jP (blt au) bQ h.1⟩
       · subst lu
         exact ⟨blt aJ,I8 W u Mx f m K e a w y q ax ae hm inv jP (blt aJ) J h.2.1⟩
       · subst lu
         exact ⟨blt a6,I8 W x at0 f m K e a w y r ax ae hm inv jP (blt a6) ZJ h.2.2⟩
     · exact h.elim
 |sp s t u Mw Mx=>
   intro W f m K e a w ax ae hm inv h
   have qh:match e.get s with
     |some (.bool c)=>(c=true→hN P aG ops n cU W t f m K ((s, .bool true)::e) w)∧(c=false→hN P aG ops n cU W u f m K ((s, .bool false)::e) w)
     |_=>False:=by cases f<;>simpa only[hN] using h
   split at qh
   · rename_i c aj
     cases c with
     |true=>exact Mw W f m K _ a w (ax.lit aj) ae hm inv (qh.1 rfl)
     |false=>exact Mx W f m K _ a w (ax.lit aj) ae hm inv (qh.2 rfl)
   · exact qh.elim
 |fin=>
   intro W f m K e a w ax ae hm inv h
   cases f with
   |succ f=>simp[hN] at h
   |zero=>
     simp only[hN] at h
     obtain ⟨U,ad,h⟩:=Xe h
     refine .inl ⟨?_,qC ad,rfl,ae,e,ax,h⟩
     cases aN:Region.ready .any ops (iZ ops.size m) with
     |nil=>rfl
     |cons x l=>
       have:=GD al hm U x (by rw[aN];simp)
       cases this
 |tail as=>
   intro W f m K e a w ax ae hm inv h
   cases f with
   |succ f=>simp[hN] at h
   |zero=>
     simp only[hN] at h
     obtain ⟨U,ad,h⟩:=Xe h
     have ic:∀k,k∈cD (ops.toList.drop n)→k∈cD ops.toList:=fun k ae=>by
       simp only[cD,List.mem_filterMap] at ae⊢
       obtain ⟨o,bQ,ae⟩:=ae
       exact ⟨o,kx bQ,ae⟩
     have:=ae1 _ _ _ K e a w ax (fun d hd=>by rw[ae.size];exact ab d (ic d hd)) h
     exact .inr ⟨afq al _ _ _ hm (by omega) U,blt ad,r8 (fun x dg w' ⟨aA,aE,aI⟩=>⟨aA,ae.trans (aE.mono ic),aI⟩) _ _ _ this⟩
theorem at2 (ops:Array Oper) (n:Nat):HeadInv .any ops n (Array.replicate ops.size false):=
 ⟨by simp,fun j qw _ az=>(by rw[getD_replicate_false] at az;cases az),fun t _ aV=>getD_in (by simpa using aV) (getD_replicate_false _ _)⟩
def Xf (P:Program) (aG:TypeId→j7) (ops:Array Oper) (n:Nat) (My:Bool) (cU:wv) (hY gE:List Nat) (t:aX) (K:Env→World→Prop) (e:Env) (w:World):Prop:=
 bif (Region.noSelect ops&&zM cU hY gE ops)&&(bif Nat.beq n ops.size then true else Nat.blt n ops.size&&(Region.sinkB .any ops n&&Region.chainB .any ops n)) then
   bif My then
     ay w.drew fun ag=>∃W:Nat→Prop,hN P aG ops n cU W t n 0 K e ag
   else ay w.drew fun ag=>hN P aG ops n cU (fun _=>False) t n 0 K e ag
 else False
theorem at3 {id:Nat} {My:Bool} {t:aX} {K:Env→World→Prop} {e:Env} {a:Act} {w:World} (hm:P.follows .mixedOrders=true)
   (ax:gu e a) (ab:∀d∈cD ops.toList,d<a.tmps.size) (h:Xf P aG ops n My cU hY gE t K e w):
   (Code.region id ops true).wp P (ob a (cD ops.toList) K) a w:=by
 unfold Xf at h
 cases b7:(Region.noSelect ops&&zM cU hY gE ops) with
 |false=>rw[b7] at h;exact h.elim
 |true=>
   rw[b7] at h
   simp only[EI] at h
   simp only[jD] at b7
   obtain ⟨U,al⟩:=b7
   cases ad:(bif Nat.beq n ops.size then true else Nat.blt n ops.size&&(Region.sinkB .any ops n&&Region.chainB .any ops n)) with
   |false=>rw[ad] at h;exact h.elim
   |true=>
     rw[ad] at h
     simp only[cond_true] at h
     have I6:Mu ops n:=by
       cases aD:Nat.beq n ops.size with
       |true=>rw[qC aD];exact atS ops
       |false=>
         rw[aD] at ad
         simp only[cond_false,jD] at ad
         refine atT ad.2.1 ad.2.2 ?_
         have:=Ci ad.1
         omega
     have hle:n≤ops.size:=by
       cases aD:Nat.beq n ops.size with
       |true=>rw[qC aD];exact cV _
       |false=>
         rw[aD] at ad
         simp only[cond_false,jD] at ad
         have:=Ci ad.1
         omega
     have key:∀W,hN P aG ops n cU W t n 0 K e w.drew→(Code.region id ops true).wp P (ob a (cD ops.toList) K) a w:=by
       intro W h
       refine wp_region_any hm ?_
       have BQ:=atY al I6 hle U ab t W n 0 K e a w.drew ax (.refl _ _) (atN _) (by rw[ae_];exact at2 ops n) h
       rw[ae_] at BQ
       have:=afp atX _ _ _ _ _ BQ
       rw[show n+(ops.size-n)=ops.size by omega] at this
       exact this
     cases My with
     |true=>obtain ⟨W,h⟩:=h;exact key W h
     |false=>exact key _ h
end
end b_
namespace b_
open Go
inductive bG where
 |leaf
 |f_ (as:List BX)
 |er (n:Nat) (My:Bool) (cU:wv) (hY gE:List Nat) (t:aX)
 |seq (a b:bG)
 |cond (a b:bG)
 |dn (a:bG)
 |loop (live:List (Nat×j6)) (g4:List Nat) (a:bG)
 |kZ (live:List (Nat×j6)) (g4:List Nat) (a:bG)
def nN:List (Nat×j6)→Type
 | []=>World→Prop
 |(_,l)::r=>l.T→nN r
def El:List (Nat×j6)→Type
 | []=>World→Nat
 |(_,l)::r=>l.T→El r
def I9 (l:j6) (v:Option Value) (K:l.T→Prop):Prop:=
 match l,v with
 | .int k,some (.int lP n)=>bif uW k lP then K n else False
 | .bool,some (.bool b)=>K b
 | .str,some (.string s)=>K s
 | .ptr,some (.pointer p)=>K p
 | .slice,some (.slice a n c)=>K ⟨a,n,c⟩
 | .map,some (.map r)=>K r
 | .agg,some (.agg cs)=>K cs
 | .fn,some (.func (.func f) a b)=>K ⟨f,a,b⟩
 | .any,some v=>K v
 |_,_=>False
def nN.app:(live:List (Nat×j6))→nN live→(Nat→Option Value)→World→Prop
 | [],k,_,w=>k w
 |(s,l)::r,k,g,w=>I9 l (g s) fun x=>nN.app r (k x) g w
def nN.lam:(live:List (Nat×j6))→(Env→World→Prop)→nN live
 | [],F=>fun w=>F [] w
 |(s,l)::r,F=>fun x=>nN.lam r fun e w=>F ((s,l.v x)::e) w
def Xg:(live:List (Nat×j6))→nN live→El live→(Env→Nat→World→Prop)→Prop
 | [],I,μ,F=>∀w,I w→F [] (μ w) w
 |(s,l)::r,I,μ,F=>∀x:l.T,Xg r (I x) (μ x) fun e m w=>F ((s,l.v x)::e) m w
def Xh:(live:List (Nat×j6))→nN live→El live→Nat→(Nat→Option Value)→World→Prop
 | [],I,μ,m,_,w=>I w∧μ w<m
 |(s,l)::r,I,μ,m,g,w=>I9 l (g s) fun x=>Xh r (I x) (μ x) m g w
def sS:(live:List (Nat×j6))→El live→(Nat→Option Value)→World→Nat
 | [],μ,_,w=>μ w
 |(s,l)::r,μ,g,w=>
   match l,g s,μ with
   | .int _,some (.int _ n),μ=>sS r (μ n) g w
   | .bool,some (.bool b),μ=>sS r (μ b) g w
   | .str,some (.string b),μ=>sS r (μ b) g w
   | .ptr,some (.pointer b),μ=>sS r (μ b) g w
   | .slice,some (.slice a n c),μ=>sS r (μ (aa.mk a n c)) g w
   | .map,some (.map b),μ=>sS r (μ b) g w
   | .agg,some (.agg b),μ=>sS r (μ b) g w
   | .fn,some (.func (.func f) a b),μ=>sS r (μ (r6.mk f a b)) g w
   | .any,some v,μ=>sS r (μ v) g w
   |_,_,_=>0
def writes:Code→List Nat
 | .region _ ops _=>cD ops.toList
 | .seq a b=>writes a++writes b
 | .cond _ a b=>writes a++writes b
 | .block _ a=>writes a
 | .loop a=>writes a
 | .scope a=>writes a
 |_=> []
def Mz (g4 ws:List Nat):Bool:=g4.all fun s=> !(ws.any fun d=>Nat.beq d s)
def GG (e:Env):List Nat→Env
 | []=> []
 |s::ks=>match e.get s with
   |some v=>(s,v)::GG e ks
   |none=>GG e ks
def I_:Env→Env→Env
 | [],f=>f
 |p::e,f=>p::I_ e f
def D (P:Program) (aG:TypeId→j7):bG→Code→(Exit→Env→World→Prop)→Env→World→Prop
 | .leaf,c,K,e,w=>
   match c with
   | .skip=>K .normal e w
   | .label _=>K .normal e w
   | .exit id=>K (.exit id) e w
   | .ret=>K .ret e w
   |_=>False
 | .f_ as,c,K,e,w=>
   match c with
   | .region _ ops false=>mI P aG ops (ops.size+1) ops.toList as (fun eS w'=>K .normal eS w') e w
   |_=>False
 | .er n he cU hY gE t,c,K,e,w=>
   match c with
   | .region _ ops true=>Xf P aG ops n he cU hY gE t (fun eS w'=>K .normal eS w') e w
   |_=>False
 | .seq A B,c,K,e,w=>
   match c with
   | .seq a b=>D P aG A a (fun x eS w'=>match x with| .normal=>D P aG B b K eS w'|x=>K x eS w') e w
   |_=>False
 | .cond A B,c,K,e,w=>
   match c with
   | .cond o x y=>match bB e o with
     |some (.bool b)=>(b=true→D P aG A x K e w)∧(b=false→D P aG B y K e w)
     |_=>False
   |_=>False
 | .dn A,c,K,e,w=>
   match c with
   | .block id b=>D P aG A b (fun x eS w'=>match x with| .exit Ja=>bif Nat.beq Ja id then K .normal eS w' else K (.exit Ja) eS w'|x=>K x eS w') e w
   |_=>False
 | .loop live g4 A,c,K,e,w=>
   match c with
   | .loop b=>bif Mz g4 (writes b) then
       ∃ (I:nN live) (μ:El live),nN.app live I e.get w∧
         Xg live I μ fun el m w'=>D P aG A b (fun x eS iG=>match x with| .normal=>Xh live I μ m eS.get iG|x=>K x eS iG) (I_ el (GG e g4)) w'
     else False
   |_=>False
 | .kZ live g4 A,c,K,e,w=>
   bif Mz g4 (writes c) then
     cY (fun k:nN live=>D P aG A c (fun x eS w'=>match x with| .normal=>nN.app live k eS.get w'|x=>K x eS w') e w)
       (nN.lam live fun el w'=>K .normal (I_ el (GG e g4)) w')
   else False
def at4 (a:Act) (ds:List Nat) (K:Exit→Env→World→Prop) (x:Exit) (dg:Act) (w':World):Prop:=
 h4 ds a dg∧∃eS,gu eS dg∧K x eS w'
def Sub (e:Env) (g:Nat→Option Value):Prop:=∀s v,e.get s=some v→g s=some v
theorem Sub.cons {e:Env} {g:Nat→Option Value} {s:Nat} {v:Value} (h:Sub e g) (aj:g s=some v):Sub ((s,v)::e) g:=by
 intro t u aV
 rw[Gu] at aV
 by_cases g9:s=t
 · subst g9;rw[if_pos rfl] at aV;rw[aj];exact aV
 · rw[if_neg g9] at aV;exact h t u aV
theorem Sub.nil {g:Nat→Option Value}:Sub [] g:=fun _ _ h=>by cases h
theorem Q5 {l:j6} {v:Option Value} {K:l.T→Prop} (h:I9 l v K):∃x:l.T,v=some (l.v x)∧K x:=by
 unfold I9 at h
 split at h
 · rename_i k lP n K
   by_cases ae:k=lP
   · subst ae
     simp only[uW,decide_true,cond_true] at h
     exact ⟨n,rfl,h⟩
   · simp[uW,ae] at h
 all_goals first
   |exact ⟨_,rfl,h⟩
   |exact h.elim
theorem afr {l:j6} {v:Option Value} {K:l.T→Prop} {x:l.T} (ak:v=some (l.v x)) (h:K x):I9 l v K:=by
 subst ak
 cases l<;>simp only[I9,j6.v,uW,decide_true,cond_true]<;>exact h
theorem afs {s:Nat} {l:j6} {r:List (Nat×j6)} {μ:El ((s,l)::r)} {g:Nat→Option Value} {w:World} {x:l.T} (ak:g s=some (l.v x)):
   sS ((s,l)::r) μ g w=sS r (μ x) g w:=by
 cases l<;>simp only[sS,ak,j6.v]<;>rfl
theorem aft:∀ {live:List (Nat×j6)} {F:Env→World→Prop} {g:Nat→Option Value} {w:World},nN.app live (nN.lam live F) g w→∃el,Sub el g∧F el w
 | [],F,g,w,h=>⟨[],Sub.nil,h⟩
 |(s,l)::r,F,g,w,h=>by
   obtain ⟨x,ak,h⟩:=Q5 h
   obtain ⟨el,aj,h⟩:=aft h
   exact ⟨(s,l.v x)::el,aj.cons ak,h⟩
theorem afu:∀ {live:List (Nat×j6)} {I:nN live} {g g':Nat→Option Value} {w:World},(∀s v,g s=some v→g' s=some v)→nN.app live I g w→nN.app live I g' w
 | [],_,_,_,_,_,h=>h
 |(s,l)::r,I,g,g',w,bf,h=>by
   obtain ⟨x,ak,h⟩:=Q5 h
   exact afr (bf _ _ ak) (afu bf h)
theorem afv:∀ {live:List (Nat×j6)} {I:nN live} {μ:El live} {F:Env→Nat→World→Prop} {g:Nat→Option Value} {w:World},
   Xg live I μ F→nN.app live I g w→∃el,Sub el g∧F el (sS live μ g w) w
 | [],I,μ,F,g,w,h,GH=>⟨[],Sub.nil,h w GH⟩
 |(s,l)::r,I,μ,F,g,w,h,GH=>by
   obtain ⟨x,ak,GH⟩:=Q5 GH
   obtain ⟨el,aj,h⟩:=afv (h x) GH
   exact ⟨(s,l.v x)::el,aj.cons ak,by rw[afs ak];exact h⟩
theorem afw:∀ {live:List (Nat×j6)} {I:nN live} {μ:El live} {m:Nat} {g g':Nat→Option Value} {w:World},
   (∀s v,g s=some v→g' s=some v)→Xh live I μ m g w→nN.app live I g' w∧sS live μ g' w<m
 | [],_,_,_,_,_,_,_,h=>h
 |(s,l)::r,I,μ,m,g,g',w,bf,h=>by
   obtain ⟨x,ak,h⟩:=Q5 h
   obtain ⟨U,ad⟩:=afw bf h
   exact ⟨afr (bf _ _ ak) U,by rw[afs (bf _ _ ak)];exact ad⟩
theorem afx:∀ {e f:Env} {s:Nat} {v:Value},(I_ e f).get s=some v→e.get s=some v∨f.get s=some v
 | [],_,_,_,h=> .inr h
 |(k,u)::e,f,s,v,h=>by
   simp only[I_] at h
   rw[Gu] at h⊢
   by_cases ae:k=s
   · rw[if_pos ae] at h⊢;exact .inl h
   · rw[if_neg ae] at h⊢;exact afx h
theorem Xi {e:Env}:∀ {ks:List Nat} {s:Nat} {v:Value},(GG e ks).get s=some v→s∈ks∧e.get s=some v
 | [],_,_,h=>by cases h
 |k::ks,s,v,h=>by
   simp only[GG] at h
   split at h
   · rename_i u hu
     rw[Gu] at h
     by_cases ae:k=s
     · rw[if_pos ae] at h
       subst ae
       exact ⟨by simp,by rw[hu];exact h⟩
     · rw[if_neg ae] at h
       have:=Xi h
       exact ⟨by simp[this.1],this.2⟩
   · have:=Xi h
     exact ⟨by simp[this.1],this.2⟩
theorem afy {e el:Env} {a dg:Act} {g4 ws:List Nat} (ax:gu e a) (ae:h4 ws a dg) (bQ:Mz g4 ws=true) (aj:Sub el fun s=>dg.tmps[s]?):
   gu (I_ el (GG e g4)) dg:=by
 constructor
 intro s v h
 rcases afx h with h|h
 · exact aj s v h
 · obtain ⟨U,ad⟩:=Xi h
   have au:=GZ.1 bQ s U
   simp only[zX,JG] at au
   rw[ae.same s fun hm=>au s hm (Nat.beq_refl s)]
   exact ax.get s v ad
section
variable {P:Program} {aG:TypeId→j7}
theorem tL {c:Code} {Q Q':Exit→Act→World→Prop} {a:Act} {w:World} (h:c.wp P Q a w) (J:∀e a w,Q e a w→Q' e a w):c.wp P Q' a w:=wp_mono h J
theorem Q6 (hm:P.follows .mixedOrders=true):∀ (A:bG) (c:Code) (K:Exit→Env→World→Prop) (e:Env) (a:Act) (w:World),gu e a→(∀d∈writes c,d<a.tmps.size)→
   D P aG A c K e w→c.wp P (at4 a (writes c) K) a w:=by
 intro A
 induction A with
 |leaf=>
   intro c K e a w ax ab h
   simp only[D] at h
   split at h
   · exact wp_skip ⟨.refl _ _,e,ax,h⟩
   · exact wp_label ⟨.refl _ _,e,ax,h⟩
   · exact wp_exit ⟨.refl _ _,e,ax,h⟩
   · exact wp_ret ⟨.refl _ _,e,ax,h⟩
   · exact h.elim
 |f_ as=>
   intro c K e a w ax ab h
   simp only[D] at h
   split at h
   · rename_i id ops
     have:=ae1 _ _ _ _ e a w ax ab h
     refine wp_region_list (r8 ?_ _ _ _ this)
     rintro x dg w' ⟨rfl,ae,eS,oG,bu⟩
     exact ⟨ae,eS,oG,bu⟩
   · exact h.elim
 |er n he cU hY gE t=>
   intro c K e a w ax ab h
   simp only[D] at h
   split at h
   · rename_i id ops
     refine tL (at3 hm ax ab h) ?_
     rintro x dg w' ⟨rfl,ae,eS,oG,bu⟩
     exact ⟨ae,eS,oG,bu⟩
   · exact h.elim
 |seq A B Q7 MA=>
   intro c K e a w ax ab h
   simp only[D] at h
   split at h
   · rename_i x y
     have af:∀d,d∈writes x→d∈writes (.seq x y):=fun d hd=>by simp[writes,hd]
     have b3:∀d,d∈writes y→d∈writes (.seq x y):=fun d hd=>by simp[writes,hd]
     refine wp_seq (tL (Q7 x _ e a w ax (fun d hd=>ab d (af d hd)) h) ?_)
     rintro ex bc ag ⟨ae,aY,hZ,U⟩
     cases ex with
     |normal=>
       refine tL (MA y K aY bc ag hZ (fun d hd=>by rw[ae.size];exact ab d (b3 d hd)) U) ?_
       rintro ex cS aw ⟨eC,bo,lF,ad⟩
       exact ⟨(ae.mono af).trans (eC.mono b3),bo,lF,ad⟩
     |exit id=>exact ⟨ae.mono af,aY,hZ,U⟩
     |goto l=>exact ⟨ae.mono af,aY,hZ,U⟩
     |ret=>exact ⟨ae.mono af,aY,hZ,U⟩
     |panic Em=>exact ⟨ae.mono af,aY,hZ,U⟩
     |outgrown=>exact ⟨ae.mono af,aY,hZ,U⟩
   · exact h.elim
 |cond A B Q7 MA=>
   intro c K e a w ax ab h
   simp only[D] at h
   split at h
   · rename_i o x y
     have af:∀d,d∈writes x→d∈writes (.cond o x y):=fun d hd=>by simp[writes,hd]
     have b3:∀d,d∈writes y→d∈writes (.cond o x y):=fun d hd=>by simp[writes,hd]
     split at h
     · rename_i b bQ
       refine wp_cond_split (ax.bB bQ) (fun nA=> ?_) (fun nA=> ?_)
       · refine tL (Q7 x K e a w ax (fun d hd=>ab d (af d hd)) (h.1 nA)) ?_
         rintro ex cS aw ⟨eC,bo,lF,ad⟩
         exact ⟨eC.mono af,bo,lF,ad⟩
       · refine tL (MA y K e a w ax (fun d hd=>ab d (b3 d hd)) (h.2 nA)) ?_
         rintro ex cS aw ⟨eC,bo,lF,ad⟩
         exact ⟨eC.mono b3,bo,lF,ad⟩
     · exact h.elim
   · exact h.elim
 |dn A du=>
   intro c K e a w ax ab h
   simp only[D] at h
   split at h
   · rename_i id b
     refine wp_block (tL (du b _ e a w ax ab h) ?_)
     rintro ex bc ag ⟨ae,aY,hZ,U⟩
     cases ex with
     |exit Ja=>
       simp only[Exit.inBlock]
       by_cases Xj:Ja=id
       · subst Xj
         simp only[Nat.beq_refl,cond_true] at U
         rw[if_pos rfl]
         exact ⟨ae,aY,hZ,U⟩
       · have:Nat.beq Ja id=false:=by
           cases at5:Nat.beq Ja id
           · rfl
           · exact absurd (qC at5) Xj
         simp only[this,cond_false] at U
         rw[if_neg Xj]
         exact ⟨ae,aY,hZ,U⟩
     |normal=>exact ⟨ae,aY,hZ,U⟩
     |goto l=>exact ⟨ae,aY,hZ,U⟩
     |ret=>exact ⟨ae,aY,hZ,U⟩
     |panic Em=>exact ⟨ae,aY,hZ,U⟩
     |outgrown=>exact ⟨ae,aY,hZ,U⟩
   · exact h.elim
 |loop live g4 A du=>
   intro c K e a w ax ab h
   simp only[D] at h
   split at h
   · rename_i b
     cases jd:Mz g4 (writes b) with
     |false=>rw[jd] at h;exact h.elim
     |true=>
       rw[jd] at h
       obtain ⟨I,μ,b7,at6⟩:=h
       refine wp_loop (fun dg w'=>h4 (writes b) a dg∧nN.app live I (fun s=>dg.tmps[s]?) w') (fun dg w'=>sS live μ (fun s=>dg.tmps[s]?) w')
         ⟨.refl _ _,afu (fun s v aj=>ax.get s v aj) b7⟩ ?_
       rintro bc ag ⟨ae,GH⟩
       obtain ⟨el,aj,vL⟩:=afv at6 GH
       refine tL (du b _ _ bc ag (afy ax ae jd aj) (fun d hd=>by rw[ae.size];exact ab d hd) vL) ?_
       rintro ex cS aw ⟨eC,bo,lF,ad⟩
       cases ex with
       |normal=>
         obtain ⟨aA,aE⟩:=afw (g':=fun s=>cS.tmps[s]?) (fun s v aj=>lF.get s v aj) ad
         exact ⟨⟨ae.trans eC,aA⟩,aE⟩
       |exit id=>exact ⟨ae.trans eC,bo,lF,ad⟩
       |goto l=>exact ⟨ae.trans eC,bo,lF,ad⟩
       |ret=>exact ⟨ae.trans eC,bo,lF,ad⟩
       |panic Em=>exact ⟨ae.trans eC,bo,lF,ad⟩
       |outgrown=>exact ⟨ae.trans eC,bo,lF,ad⟩
   · exact h.elim
 |kZ live g4 A du=>
   intro c K e a w ax ab h
   simp only[D] at h
   cases jd:Mz g4 (writes c) with
   |false=>rw[jd] at h;exact h.elim
   |true=>
     rw[jd] at h
     simp only[cond_true] at h
     have h:=h.out
     refine tL (du c _ e a w ax ab h) ?_
     rintro ex bc ag ⟨ae,aY,hZ,U⟩
     cases ex with
     |normal=>
       obtain ⟨el,aj,vL⟩:=aft U
       exact ⟨ae,_,afy ax ae jd (fun s v h=>hZ.get s v (aj s v h)),vL⟩
     |exit id=>exact ⟨ae,aY,hZ,U⟩
     |goto l=>exact ⟨ae,aY,hZ,U⟩
     |ret=>exact ⟨ae,aY,hZ,U⟩
     |panic Em=>exact ⟨ae,aY,hZ,U⟩
     |outgrown=>exact ⟨ae,aY,hZ,U⟩
def B0 (P:Program) (aG:TypeId→j7):List ResultVar→Env→World→(List Value→Prop)→Prop
 | [],_,_,K=>K []
 | .tmp t::r,e,w,K=>match e.get t with
   |some v=>B0 P aG r e w fun vs=>K (v::vs)
   |none=>False
 | .cell t T::r,e,w,K=>match e.get t with
   |some (.pointer (some A))=>IV P aG T A w fun v=>B0 P aG r e w fun vs=>K (v::vs)
   |_=>False
def Jb:List Value→Value
 | [v]=>v
 |vs=> .tuple vs.toArray
def afz (P:Program) (aG:TypeId→j7) (rs:List ResultVar) (R:Value→World→Prop) (x:Exit) (e:Env) (w:World):Prop:=
 match x with
 | .normal=>B0 P aG rs e w fun vs=>R (Jb vs) w
 | .ret=>B0 P aG rs e w fun vs=>R (Jb vs) w
 |_=>False
def GI:Nat→List Value→Env
 |_,[]=> []
 |i,v::vs=>(i,v)::GI (i+1) vs
def Jc (P:Program) (aG:TypeId→j7) (A:bG) (fn:Func) (args:List Value) (w:World) (R:Value→World→Prop):Prop:=
 match fn.body with
 |some c=>D P aG A c (afz P aG fn.results.toList R) (GI 0 args) w
 |none=>False
def GJ (fn:Func) (n:Nat):Bool:=
 match fn.body with
 |some c=>(writes c).all (fun d=>Nat.blt d fn.ntmps)&&Nat.ble n fn.ntmps
 |none=>false
theorem Xk:∀ {vs:List Value} {i s:Nat} {v:Value},(GI i vs).get s=some v→i≤s∧vs[s-i]? =some v
 | [],_,_,_,h=>by cases h
 |u::vs,i,s,v,h=>by
   simp only[GI] at h
   rw[Gu] at h
   by_cases ae:i=s
   · subst ae
     rw[if_pos rfl] at h
     simpa using h
   · rw[if_neg ae] at h
     obtain ⟨U,ad⟩:=Xk h
     refine ⟨by omega,?_⟩
     rw[show s-i=(s-(i+1))+1 by omega]
     simpa using ad
def MB (tmps:Array Value) (r:ResultVar):Sem Value:=
 match r with
 | .tmp t=>pure (tmps.getD t undef)
 | .cell x t=>do loadVar t (←asAddr (tmps.getD x undef))
theorem B1 {a:Act}:∀ {rs:List ResultVar} {e:Env} {w:World} {K:List Value→Prop},gu e a→B0 P aG rs e w K→
   ∃vs,(rs.mapM (MB a.tmps)).run P w= .ok vs w∧K vs
 | [],_,_,_,_,h=>⟨[],by simp,h⟩
 | .tmp t::r,e,w,K,ax,h=>by
   simp only[B0] at h
   split at h
   · rename_i v ak
     obtain ⟨vs,jS,bu⟩:=B1 ax h
     refine ⟨v::vs,?_,bu⟩
     have aV:a.tmps.getD t undef=v:=by simp[Array.getD_eq_getD_getElem?,ax.get _ _ ak]
     simp only[List.mapM_cons,MB,Sem.run_bind,Sem.run_pure,Result.andThen,aV]
     rw[jS]
   · exact h.elim
 | .cell t T::r,e,w,K,ax,h=>by
   simp only[B0] at h
   split at h
   · rename_i A ak
     obtain ⟨v,az,h⟩:=aeV h
     obtain ⟨vs,jS,bu⟩:=B1 ax h
     refine ⟨v::vs,?_,bu⟩
     have aV:a.tmps.getD t undef= .pointer (some A):=by simp[Array.getD_eq_getD_getElem?,ax.get _ _ ak]
     have PS:(loadVar T A).run P w= .ok v w:=by simpa[Instr.loadAt,Instr.sureAddr] using az
     simp only[List.mapM_cons,MB,Sem.run_bind,Sem.run_pure,Result.andThen,aV,asAddr,PS]
     rw[jS]
   · exact h.elim
theorem GK {fn:Func} {tmps:Array Value} {w:World} {vs:List Value}
   (h:(fn.results.toList.mapM (MB tmps)).run P w= .ok vs w):
   (results fn tmps).run P w= .ok (Jb vs) w:=by
 have aY:results fn tmps=(do let vs ←fn.results.mapM (MB tmps);pure (if h:vs.size=1 then vs[0] else .tuple vs)):=rfl
 rw[aY,Array.mapM_eq_mapM_toList]
 simp only[Sem.run_bind,Sem.run_map]
 rw[h]
 simp only[Result.andThen,Sem.run_pure]
 congr 1
 match vs with
 | []=>rfl
 | [v]=>rfl
 |u::v::vs=>simp[Jb]
theorem at7 {f:FuncId} {fn:Func} {A:bG} {args:List Value} {w:World} {R:Value→World→Prop} (hm:P.follows .mixedOrders=true)
   (aH:P.funcs[f]? =some fn) (dM:GJ fn args.length=true) (h:Jc P aG A fn args w R):
   Calls P f args.toArray w fun e w'=>∃v,e= .returned v∧R v w':=by
 unfold Jc at h
 unfold GJ at dM
 cases mN:fn.body with
 |none=>rw[mN] at h;exact h.elim
 |some c=>
   rw[mN] at h dM
   simp only[jD] at h dM
   obtain ⟨hw,aD⟩:=dM
   have C_:=Ci aD
   refine calls_of_wp aH mN ?_
   have dR:(args.toArray++Array.replicate (fn.ntmps-args.toArray.size) undef).size=fn.ntmps:=by simp;omega
   have ax:gu (GI 0 args) {tmps:=args.toArray++Array.replicate (fn.ntmps-args.toArray.size) undef,defers:=[]}:=by
     constructor
     intro s v aj
     obtain ⟨_,ad⟩:=Xk aj
     simp only[G0] at ad
     have bd:s<args.length:=(qA.1 ad).1
     simp[Array.getElem?_append,bd]
     rw[gF bd] at ad
     exact Option.some.inj ad
   refine tL (Q6 hm A c _ _ _ w ax (fun d hd=> ?_) h) ?_
   · have U:=GZ.1 hw d hd
     have ad:=Ci U
     show d<(args.toArray++Array.replicate (fn.ntmps-args.toArray.size) undef).size
     rw[dR]
     omega
   · rintro x dg w' ⟨ae,eS,oG,bu⟩
     have hd:dg.defers=[]:=ae.defers
     cases x with
     |normal=>
       obtain ⟨vs,jS,c8⟩:=B1 oG bu
       exact ⟨hd,_,GK jS,_,rfl,c8⟩
     |ret=>
       obtain ⟨vs,jS,c8⟩:=B1 oG bu
       exact ⟨hd,_,GK jS,_,rfl,c8⟩
     |exit id=>exact bu.elim
     |goto l=>exact bu.elim
     |panic Em=>exact bu.elim
     |outgrown=>exact bu.elim
end
end b_
namespace b_
open Go Go.ChangeShapes Go.WideShapes Go.ChangeAt Go.RowKit
def oR (P:Program) (w:World):Nat→TypeId→List Value→Prop
 |0,_,_=>False
 |fuel+1,t,cs=>
   match P.underlying t with
   |some .bool=>∃b:Bool,cs=[.bool b]
   |some (.int k)=>∃n:Int,cs=[.int k n]∧k.min≤n∧n≤k.max
   |some .string=>∃s:ByteArray,cs=[.string s]∧s.size≤maxLen
   |some (.slice e)=>∃s:aa,cs=[.slice s.a s.len s.cap]∧s.len≤s.cap∧s.cap≤maxLen∧(s.a=none→s.cap=0)∧
       ∀a,s.a=some a→∀i,i<s.cap→∃vs,eN w (a.add (i*P.cellsOf e)) 0 (P.cellsOf e)=some vs∧oR P w fuel e vs
   |some (.struct fs)=>cs.length=P.cellsOf t∧∀f∈fs,oR P w fuel f.type ((cs.drop f.offset).take (P.cellsOf f.type))
   |some (.array n e)=>cs.length=P.cellsOf t∧∀i,i<n→oR P w fuel e ((cs.drop (i*P.cellsOf e)).take (P.cellsOf e))
   |some (.pointer e)=>cs=[.pointer none]∨∃a vs,cs=[.pointer (some a)]∧eN w a 0 (P.cellsOf e)=some vs∧oR P w fuel e vs
   |_=>True
theorem mapM_some {α β:Type} {f:α→Option β}:∀ {l:List α} {r:List β},l.mapM f=some r→∀x∈l,∃y,f x=some y
 | [],_,_,_,af=>by cases af
 |a::l,r,h,x,af=>by
   simp only[List.mapM_cons] at h
   cases aR:f a with
   |none=>simp[aR] at h
   |some b=>
     cases az:l.mapM f with
     |none=>simp[aR,az] at h
     |some axB=>
       rcases gb.1 af with rfl|af
       · exact ⟨b,aR⟩
       · exact mapM_some az x af
theorem afA {w:World} {a:Addr}:∀ (n i:Nat) (vs:List Value),((List.range' i n).mapM fun j=>w.cell? (a.add j))=some vs→eN w a i n=some vs
 |0,i,vs,h=>by simp at h;simp[eN,h]
 |n+1,i,vs,h=>by
   simp only[List.range'_succ,List.mapM_cons] at h
   cases U:w.cell? (a.add i) with
   |none=>simp[U] at h
   |some v=>
     cases ad:((List.range' (i+1) n).mapM fun j=>w.cell? (a.add j)) with
     |none=>simp[U,ad] at h
     |some us=>
       simp[U,ad] at h
       have:=afA n (i+1) us ad
       simp[eN,U,this,h]
theorem afB {w:World} {base:Nat} {a:Addr} {n:Nat} {vs:List Value} (h:w.cells? base a n=some vs):eN w a 0 n=some vs:=by
 unfold World.cells? at h
 split at h
 · rw[Nx] at h
   exact afA n 0 vs h
 · cases h
section
variable {H:Type} {enc:TypeId×Value→H} {P:Program} {w:World}
theorem MC:∀ (fuel:Nat) (t:TypeId) (cs:List Value) (x:DataW H×List MemPlace),DataW.trod enc P w 0 (fun _=>true) true fuel t cs=some x→oR P w fuel t cs
 |0,_,_,_,h=>by cases h
 |fuel+1,t,cs,x,h=>by
   simp only[DataW.trod] at h
   simp only[oR]
   cases aV:P.underlying t with
   |none=>trivial
   |some d=>
     rw[aV] at h
     cases d<;>try trivial
     case bool=>
       match cs,h with
       | [.bool b],_=>exact ⟨b,rfl⟩
     case int k=>
       match cs,h with
       | [.int lP n],h=>
         simp only at h
         split at h
         · rename_i ae
           obtain ⟨rfl,hw⟩:=ae
           exact ⟨n,rfl,by simpa[Lit.wf] using hw⟩
         · cases h
     case string=>
       match cs,h with
       | [.string s],h=>
         simp only at h
         split at h
         · rename_i ae;exact ⟨s,rfl,ae⟩
         · cases h
     case pointer e=>
       match cs,h with
       | [.pointer none],_=>exact .inl rfl
       | [.pointer (some a)],h=>
         simp only[Option.map_eq_some_iff] at h
         obtain ⟨y,b3,_⟩:=h
         obtain ⟨vs,U,ad⟩:=Option.bind_eq_some_iff.1 b3
         exact .inr ⟨a,vs,rfl,afB U,MC fuel e vs _ ad⟩
     case slice e=>
       match cs,h with
       | [.slice none 0 0],_=>exact ⟨⟨none,0,0⟩,rfl,cV _,fl _,(fun _=>rfl),(fun a aR=>by cases aR)⟩
       | [.slice (some a) len cap],h=>
         simp only at h
         split at h
         · rename_i ae
           refine ⟨⟨some a,len,cap⟩,rfl,ae.2.1,ae.2.2,(fun b7=>by cases b7),fun dg oD i hi=> ?_⟩
           obtain ⟨elems,he,h⟩:=Option.bind_eq_some_iff.1 h
           simp only[if_true,Option.map_eq_some_iff] at h
           obtain ⟨rest,aN,_⟩:=h
           cases oD
           have key:∃y,((w.cells? 0 (a.add (i*P.cellsOf e)) (P.cellsOf e)).bind (DataW.trod enc P w 0 (fun _=>true) true fuel e))=some y:=by
             rcases g6 i len with az|az
             · exact mapM_some he i (wD.2 az)
             · obtain ⟨y,b3⟩:=mapM_some aN (i-len) (wD.2 (by simp only at hi;omega))
               rw[show len+(i-len)=i by omega] at b3
               exact ⟨y,b3⟩
           obtain ⟨y,b3⟩:=key
           obtain ⟨vs,U,ad⟩:=Option.bind_eq_some_iff.1 b3
           exact ⟨vs,afB U,MC fuel e vs _ ad⟩
         · cases h
     case struct fs=>
       simp only at h
       split at h
       · rename_i az
         refine ⟨az,fun f aH=> ?_⟩
         simp only[Option.map_eq_some_iff] at h
         obtain ⟨nL,b3,_⟩:=h
         obtain ⟨y,b3⟩:=mapM_some b3 f (by simpa using aH)
         exact MC fuel _ _ _ b3
       · cases h
     case array n e=>
       simp only at h
       split at h
       · rename_i az
         refine ⟨az,fun i hi=> ?_⟩
         simp only[Option.map_eq_some_iff] at h
         obtain ⟨nL,b3,_⟩:=h
         obtain ⟨y,b3⟩:=mapM_some b3 i (wD.2 hi)
         exact MC fuel _ _ _ b3
       · cases h
def wj (P:Program) (w:World) (t:TypeId) (v:Value):Prop:=
 match P.underlying t with
 |some (.struct _)=>∃cs:Array Value,v= .agg cs∧∃fuel,oR P w fuel t cs.toList
 |some (.array _ _)=>∃cs:Array Value,v= .agg cs∧∃fuel,oR P w fuel t cs.toList
 |_=>∃fuel,oR P w fuel t [v]
theorem WK {r:Reach} {oE:Nat} {t:TypeId} {v:Value} {d:DataW H} {ps:List MemPlace} (x5:Value.okWide P w r oE t v)
   (hd:DataW.Trod enc P w 0 (fun _=>true) true t v d ps):wj P w t v:=by
 obtain ⟨fuel,hd⟩:=hd
 have U:=MC fuel t _ _ hd
 unfold wj
 unfold Value.okWide at x5
 have at8:(∀cs,v≠ .agg cs)→v.cells.toList=[v]:=fun h=>by cases v<;>first|rfl|exact absurd rfl (h _)
 cases aV:P.underlying t with
 |none=>
   rw[aV] at x5
   cases fuel with
   |zero=>cases hd
   |succ f=>exact ⟨1,by simp[oR,aV]⟩
 |some at9=>
   rw[aV] at x5
   cases at9
   case struct fs=>obtain ⟨cs,rfl,_,_⟩:=x5;exact ⟨cs,rfl,fuel,U⟩
   case array n e=>obtain ⟨cs,rfl,_,_⟩:=x5;exact ⟨cs,rfl,fuel,U⟩
   all_goals
     refine ⟨fuel,?_⟩
     rw[←at8]
     · exact U
     · rintro cs rfl
       simp[Cell.okWide,Cell.ok,aV] at x5
theorem afC {w w':World} (h:ao (fun _=>False) w w'):Below w.heap.size w w':=
 ⟨h.os,h.tape,h.output,h.size,fun k ae=>h.block k ae (fun h=>h)⟩
theorem atm {f:Func} {s:ChangeSpec} {apart fresh handsOn again:Bool} {W x6:World} {args:Array Value} {T:TypeId} {ds gs:List (DataW H)} {before pa kH:List MemPlace}
   (dq:DataW.Whole enc P f.params.toList s.vars apart W args.toList ds gs before) (bm:P.underlying T=some .bool) (eT:f.resultTypes= #[T])
   (aj:s.fn H (ds++gs)={results:=[.lit (.bool true)],args:=ds})
   (QC:∀sp:Nat→Bool,(∀p∈before,sp p.block=true)→DataW.TrodAll enc P x6 0 sp true f.params.toList args.toList ds pa)
   (at_:∀sp:Nat→Bool,(∀p∈before,sp p.block=true)→DataW.TrodVars enc P x6 sp s.vars [] kH)
   (vj:before=pa++kH) (ab:ao (fun _=>False) W x6):
   s.post enc P f apart fresh handsOn again W args (.bool true) x6:=by
 have fw:=afC ab
 have bd:∀p∈before,p.block<W.heap.size:=fun p aZ=>dq.lt p aZ
 have hold:∀p∈before,(fun b=>decide (b<W.heap.size)) p.block=true:=fun p aZ=>by simpa using bd p aZ
 have aN:∀ (b:Nat) (sp:Nat→Bool) (hd:Bool),DataW.TrodAll enc P x6 b sp hd f.resultTypes.toList ((Value.bool true).resultList f.resultTypes.size) (s.fn H (ds++gs)).results []:=by
   intro b sp hd
   rw[aj,eT]
   exact trodAll_cons_mk (shut_bool bm true) trodAll_mk0
 have aR:∀sp:Nat→Bool,(∀p∈before,sp p.block=true)→DataW.TrodAll enc P x6 0 sp true f.params.toList args.toList (s.fn H (ds++gs)).args pa:=by
   intro sp qG
   rw[aj]
   exact QC sp qG
 have ak:∀sp:Nat→Bool,(∀p∈before,sp p.block=true)→DataW.TrodVars enc P x6 sp s.vars (s.fn H (ds++gs)).vars kH:=by
   intro sp qG
   rw[aj]
   exact at_ sp qG
 refine ⟨ds,gs,before,[],pa,kH,dq,aN _ _ _,aR _ hold,ak _ hold,World.keptBut_mono (fun p aZ=>⟨aZ,?_⟩) (fw.frame (· ∈before)),fun _=> ?_⟩
 · rw[vj,e8] at aZ
   exact Or.inr aZ
 · obtain ⟨_,_,_,_,_,bN,aD⟩:=dq
   refine ⟨ok_one eT rfl (okWide_bool_mk bm _),_,_,([]++pa)++kH,⟨[]++pa,kH,trodAll_append (aR _ (fun _ _=>rfl)) (aN _ _ _),ak _ (fun _ _=>rfl),rfl,?_,?_⟩,?_⟩
   · intro b off aZ
     have fo:MemPlace.cell b off∈before:=by rw[vj];simpa using aZ
     rw[fw.frozen (bd _ fo)]
     exact bN b off fo
   · intro Kc
     have:=aD Kc
     rw[vj] at this
     simpa using this
   · intro p aZ _
     rw[vj]
     simpa using aZ
theorem WL {t:TypeId} (az:laidOutB P=true) (aN:P.readableRec t=true) (Xb:t<P.types.size) {W x6:World} {v:Value} {d:DataW H} {ps:List MemPlace} {sp:Nat→Bool}
   (h:DataW.Trod enc P W 0 (fun _=>true) true t v d ps) (ab:ao (fun _=>False) W x6) (bd:∀x∈ps,x.block<W.heap.size) (aj:∀p∈ps,sp p.block=true):
   DataW.Trod enc P x6 0 sp true t v d ps:=
 WideElems.Trod_stays az aN Xb h (fun x af=>(afC ab).same (bd x af)) aj
end
end b_
namespace b_
open Go Go.RowKit
def aQ (P:Program) (f:FuncId) (args:Array Value) (w:World) (Q:Value→World→Prop):Prop:=
 Calls P f args w fun e ag=>∃v,e= .returned v∧Q v ag
theorem aQ.use {P:Program} {f:FuncId} {args:Array Value} {w:World} {Q:Value→World→Prop} {R:Ending→World→Prop}
   (h:aQ P f args w Q) (k:∀v w',Q v w'→R (.returned v) w'):Calls P f args w R:=
 Calls.mono h fun _ _ ⟨v,ak,J⟩=>by subst ak;exact k v _ J
theorem aQ.mono {P:Program} {f:FuncId} {args:Array Value} {w:World} {Q R:Value→World→Prop}
   (h:aQ P f args w Q) (k:∀v w',Q v w'→R v w'):aQ P f args w R:=
 aQ.use h fun v _ J=>⟨v,rfl,k _ _ J⟩
abbrev Ext (w w':World):Prop:=ao (fun _=>False) w w'
theorem ao.eQ {W:Nat→Prop} {w w':World} (h:Ext w w'):ao W w w':=ao.mono h fun _ _ h=>h.elim
theorem ao.drew {W:Nat→Prop} {w w':World} (h:ao W w w'):ao W w w'.drew:=⟨h.os,h.tape,h.output,h.size,h.block⟩
theorem ao.alloc {W:Nat→Prop} {w w':World} (h:ao W w w') (o:Obj):ao W w (w'.alloc o):=
 h.trans ⟨rfl,rfl,rfl,by simp,fun k ae _=>Below.heap_alloc _ _ _ ae⟩
theorem ao.set {W:Nat→Prop} {w w':World} (h:ao W w w') {A:Addr} (ab:A.block<w.heap.size→W A.block) (v:Value):ao W w (w'.setCell A v):=
 ⟨h.os,h.tape,h.output,by simp only[World.setCell,Array.size_modify];exact h.size,fun k ae dq=>by
   rw[Below.heap_setCell _ _ _ _ (fun e=>dq (by subst e;exact ab ae))];exact h.block k ae dq⟩
theorem ao.setCells {W:Nat→Prop} {w:World} {A:Addr} (ab:A.block<w.heap.size→W A.block):∀ (vs:List Value) (i:Nat) {w':World},ao W w w'→ao W w (setCells w' A i vs)
 | [],_,_,h=>h
 |v::vs,i,w',h=>by
   have wM:(A.add i).block=A.block:=by unfold Addr.add;split<;>rfl
   exact ao.setCells ab vs (i+1) (ao.set h (by rw[wM];exact ab) v)
theorem aW (b o n:Nat):(Addr.mk b o none).add n=⟨b,o+n,none⟩:=by
 unfold Addr.add;split
 · rename_i h;subst h;rfl
 · rfl
def ct (w:World) (b:Nat) (c:Array Value) (T:TypeId):Prop:=w.heap[b]? =some (.cells c T (0,0))
section
variable {w w':World} {b i:Nat} {c:Array Value} {T:TypeId}
theorem ct.lt (h:ct w b c T):b<w.heap.size:=(JN.1 h).1
theorem ct.cell (h:ct w b c T) (i:Nat):w.cell? ⟨b,i,none⟩=c[i]? :=by
 unfold ct at h
 simp[World.cell?,h]
theorem ct.frozen (h:ct w b c T) (A:Addr) (ax:A.block=b):w.frozen? A=false:=by
 unfold ct at h
 simp[World.frozen?,ax,h]
theorem ct.an {W:Nat→Prop} (h:ct w b c T) (al:ao W w w') (ab:¬W b):ct w' b c T:=by
 have az:=h.lt
 unfold ct at h⊢
 rw[al.block b az ab];exact h
theorem ct.ext (h:ct w b c T) (al:Ext w w'):ct w' b c T:=h.an al id
theorem ct.drew (h:ct w b c T):ct w.drew b c T:=h
theorem ct.new (w:World) (c:Array Value) (T:TypeId):ct (w.alloc (.cells c T)) w.heap.size c T:=by
 show (w.heap.push (.cells c T))[w.heap.size]? =some (.cells c T (0,0))
 simp
theorem ct.set (h:ct w b c T) (i:Nat) (v:Value):ct (w.setCell ⟨b,i,none⟩ v) b (c.setIfInBounds i v) T:=by
 unfold ct at h⊢
 simp[World.setCell,NC,h]
def oT (c:Array Value) (i:Nat):List Value→Array Value
 | []=>c
 |v::vs=>oT (c.setIfInBounds i v) (i+1) vs
theorem rA:∀ (vs:List Value) (c:Array Value) (i:Nat),(oT c i vs).size=c.size
 | [],_,_=>rfl
 |v::vs,c,i=>by simp[oT,rA vs]
theorem ct.NO:∀ (vs:List Value) {w:World} {c:Array Value} (i j:Nat),ct w b c T→ct (setCells w ⟨b,i,none⟩ j vs) b (oT c (i+j) vs) T
 | [],_,_,_,_,h=>h
 |v::vs,w,c,i,j,h=>by
   simp only[setCells,oT,aW]
   have:=ct.NO vs i (j+1) (h.set (i+j) v)
   rw[show i+(j+1)=i+j+1 by omega] at this
   exact this
theorem ct.dA (h:ct w b c T) (i:Nat) (vs:List Value) (aD:i+vs.length≤c.size) (aZ:∀v∈vs,Plain v):cZ w ⟨b,i,none⟩ vs:=by
 refine ⟨fun j a_=> ?_,aZ⟩
 rw[aW,h.cell,h.frozen _ rfl]
 have:i+j<c.size:=by omega
 simp[this]
end
theorem wV {B:(World→Prop)→Prop} {rest:World→Prop} (φ:World→Prop) (U:∀k:World→Prop,(∀w,φ w→k w)→B k) (ad:∀w,φ w→rest w):cY B rest:=⟨U rest ad⟩
theorem eA {τ:Type} {B:(τ→World→Prop)→Prop} {rest:τ→World→Prop} (φ:τ→World→Prop) (U:∀k:τ→World→Prop,(∀x w,φ x w→k x w)→B k) (ad:∀x w,φ x w→rest x w):cY B rest:=⟨U rest ad⟩
theorem UO {τ σ:Type} {B:(τ→σ→World→Prop)→Prop} {rest:τ→σ→World→Prop} (φ:τ→σ→World→Prop) (U:∀k:τ→σ→World→Prop,(∀x y w,φ x y w→k x y w)→B k) (ad:∀x y w,φ x y w→rest x y w):cY B rest:=⟨U rest ad⟩
theorem Wv {n:Int} (b7:IntKind.u8.min≤n) (U:n≤IntKind.u8.max):0≤n∧n≤255:=by
 simpa[IntKind.min,IntKind.max,IntKind.signed,IntKind.bits] using And.intro b7 U
theorem cz {n:Int} (b7: -9223372036854775808≤n) (U:n≤9223372036854775807):IntKind.i64.wrap n=n:=by
 by_cases h:0≤n
 · exact WT h U
 · have e:n%18446744073709551616=n+18446744073709551616:=by omega
   simp[IntKind.wrap,IntKind.signed,IntKind.bits,e]
   omega
end b_
namespace b_
open Go Go.RowKit
structure Src (sz:Nat) (w:World) (x:aa) (xs:List Value):Prop where
 len:xs.length=x.len*sz
 nil:x.a=none→xs=[]
 rd:∀a,x.a=some a→eN w a 0 (x.len*sz)=some xs
def bV (sz:Nat) (T:TypeId) (w:World) (s:aa) (vs:List Value):Prop:=
 vs.length=s.len*sz∧s.len≤s.cap∧s.cap≤maxLen∧
 ((s.a=none∧s.cap=0)∨∃b c,s.a=some ⟨b,0,none⟩∧ct w b c T∧c.size=s.cap*sz∧c.toList.take (s.len*sz)=vs)
def aO (s:aa) (k:Nat):Prop:=∃A,s.a=some A∧A.block=k
theorem MD {w:World} {A:Addr}:∀ {n i:Nat} {vs:List Value},eN w A i n=some vs→vs.length=n
 |0,_,_,h=>by simp[eN] at h;simp[←h]
 |n+1,i,vs,h=>by
   simp only[eN] at h
   cases U:w.cell? (A.add i) with
   |none=>simp[U] at h
   |some v=>
     cases ad:eN w A (i+1) n with
     |none=>simp[U,ad] at h
     |some us=>
       simp only[U,ad,Option.some.injEq] at h
       subst h
       simp[MD ad]
theorem Hf {w:World} {b:Nat} {c:Array Value} {T:TypeId} (h:ct w b c T):∀ (n o i:Nat),o+i+n≤c.size→eN w ⟨b,o,none⟩ i n=some ((c.toList.drop (o+i)).take n)
 |0,o,i,_=>by simp[eN]
 |n+1,o,i,aD=>by
   have U:o+i<c.size:=by omega
   have du:=Hf h n o (i+1) (by omega)
   simp only[eN,aW,h.cell,du]
   have ad:c[o+i]? =some c[o+i]:=by simp[U]
   rw[ad]
   simp only[Option.some.injEq]
   have au:c.toList.drop (o+i)=c[o+i]::c.toList.drop (o+i+1):=by
     rw[tQ (by simpa using U)]
     simp
   rw[au]
   simp[Nat.add_assoc]
theorem bV.src {sz:Nat} {T:TypeId} {w:World} {s:aa} {vs:List Value} (h:bV sz T w s vs):Src sz w s vs:=by
 obtain ⟨U,ad,au,aJ⟩:=h
 refine ⟨U,fun aD=> ?_,fun a aR=> ?_⟩
 · rcases aJ with ⟨_,al⟩|⟨b,c,ab,_⟩
   · have:s.len=0:=by omega
     rw[this,Nat.zero_mul] at U
     exact yf.1 U
   · rw[aD] at ab;cases ab
 · rcases aJ with ⟨aD,_⟩|⟨b,c,ab,jf,aj,ak⟩
   · rw[aD] at aR;cases aR
   · rw[ab] at aR
     cases aR
     have:=Hf jf (s.len*sz) 0 0 (by rw[aj];simp;exact Cf _ ad)
     rw[this]
     simp[ak]
section
variable {P:Program} {w:World}
theorem Hg {sz:Nat} {x:aa} {xs:List Value} (h:Src sz w x xs):(Builtin.firstCells sz x.len (.slice x.a x.len x.cap)).run P w= .ok xs.toArray w:=by
 cases af:x.a with
 |none=>rw[h.nil af];rfl
 |some a=>
   simp only[Builtin.firstCells,loadCells]
   rw[run_loadCellsFrom _ _ _ _ (h.rd a af)]
   simp
theorem afD (B2:Nat):∀ (r c:Nat),c≤2*B2+1000→Builtin.growBy B2 r c≤2*B2+1000
 |0,c,h=>h
 |r+1,c,h=>by
   simp only[Builtin.growBy]
   split
   · exact h
   · exact afD B2 r _ (by omega)
theorem afE {B2 cap:Nat} (h:cap<B2):Builtin.nextslicecap B2 cap≤2*B2+1000:=by
 unfold Builtin.nextslicecap
 split
 · omega
 · split
   · omega
   · exact afD B2 4 cap (by omega)
theorem SG {nv:Array TypeId} {eB ez vw e:TypeId} {d:TypeDesc} {sz:Nat} {s x:aa} {xs:List Value} (b7:nv[0]? =some ez) (U:nv[1]? =some vw)
   (aj:P.underlying ez=some (.slice e)) (af:P.underlying vw=some (.slice e)) (he:P.underlying e=some d) (dR:P.cellsOf e=sz) (mM:Src sz w x xs)
   (j3:s.len+x.len≤s.cap) (g9:∀a,s.a=some a→cZ w (a.add (s.len*sz)) xs):
   Sem.run P (Builtin.append_ nv eB #[.slice s.a s.len s.cap, .slice x.a x.len x.cap]) w=
     .ok (.slice s.a (s.len+x.len) s.cap) (match s.a with|some a=>setCells w (a.add (s.len*sz)) 0 xs|none=>w):=by
 have aH:=Hg (P:=P) mM
 have B3:=qI (w:=w) he
 rw[dR] at B3
 cases sh:s.a with
 |none=>
   simp[Builtin.append_,b7,U,gj aj,gj af,B3,Builtin.lenOf,j3,aH]
 |some a=>
   have Co:=g9 a sh
   have:=Hh (P:=P) (A:=a.add (s.len*sz)) xs 0 w (by simpa using Co.1) Co.2
   simp[Builtin.append_,b7,U,gj aj,gj af,B3,Builtin.lenOf,j3,aH,this]
theorem run_append_grow {nv:Array TypeId} {eB ez vw e:TypeId} {i:TypeInfo} {z:Value} {sz:Nat} {s x:aa} {xs j0:List Value} (b7:nv[0]? =some ez) (U:nv[1]? =some vw)
   (aj:P.underlying ez=some (.slice e)) (af:P.underlying vw=some (.slice e)) (hi:P.info? e=some i) (hd:(P.underlying e).isSome=true) (bN:i.zero=some z) (wZ:z.cells.size=sz) (dR:P.cellsOf e=sz)
   (ab:i.bytes≠0) (mM:Src sz w x xs) (hold:Src sz w s j0) (j3:s.cap<s.len+x.len) (wA:(2*(s.len+x.len)+1000)*i.bytes≤281474976710656):
   ∃ (jT:Nat) (rest:List Value),s.len+x.len≤jT∧jT≤maxLen∧rest.length=(jT-(s.len+x.len))*sz∧
     Sem.run P (Builtin.append_ nv eB #[.slice s.a s.len s.cap, .slice x.a x.len x.cap]) w=
       .ok (.slice (some ⟨w.heap.size,0,none⟩) (s.len+x.len) jT) (w.drew.alloc (.cells (j0++xs++rest).toArray e)):=by
 obtain ⟨d,hd⟩:=ub _ hd
 have B3:=qI (w:=w) hd
 rw[dR] at B3
 have Qg:=afE j3
 have aD:Builtin.nextslicecap (s.len+x.len) s.cap*i.bytes≤281474976710656:=jb (Cf _ Qg) wA
 have aua:s.len+x.len≤281474976710656:=by
   have:s.len+x.len≤(2*(s.len+x.len)+1000)*i.bytes:=by
     have:=Nat.mul_le_mul_left (2*(s.len+x.len)+1000) (Nat.one_le_iff_ne_zero.2 ab)
     omega
   omega
 let q:Question:= .appendCap (s.len+x.len) s.cap e
 let jT:Nat:=q.cut (w.tape w.drawn q)
 have J:q.forced=false:=rfl
 have fj:s.len+x.len≤jT:=by show s.len+x.len≤s.len+x.len+_;omega
 have Xl:jT≤maxLen:=by
   show s.len+x.len+_%(2^63-(s.len+x.len))≤2^63-1
   have:=sX (w.tape w.drawn q) (y:=2^63-(s.len+x.len)) (by omega)
   omega
 have aub:Src sz w.drew x xs:=⟨mM.len,mM.nil,fun a aR=>by
   have:=mM.rd a aR
   have al:ao (fun _=>False) w w.drew:=ao.drew (.refl _ _)
   exact al.eN (by simp) _ _ _ this⟩
 have Xm:Src sz w.drew s j0:=⟨hold.len,hold.nil,fun a aR=>by
   have:=hold.rd a aR
   have al:ao (fun _=>False) w w.drew:=ao.drew (.refl _ _)
   exact al.eN (by simp) _ _ _ this⟩
 have aH:=Hg (P:=P) aub
 have pI:=Hg (P:=P) Xm
 have Xn:∀n (w':World),(askRoom n).run P w'= .ok () w':=fun n w'=>by unfold askRoom;split<;>rfl
 have Xo:(choose q).run P w= .ok jT w.drew:=by
   show Sem.run P (.choose q .pure) w=_
   simp only[Sem.run,J,oh,if_false]
   rfl
 have CZ:=fun w:World=>C0 (w:=w) hi
 refine ⟨jT,(Builtin.zeroCells z.cells (jT-(s.len+x.len))).toList,fj,Xl,by simp[Builtin.zeroCells,wZ],?_⟩
 have aY:¬(s.len+x.len≤s.cap):=by omega
 have bo:¬((s.len+x.len:Nat):Int)>IntKind.i64.max:=by
   simp[IntKind.max,IntKind.signed,IntKind.bits];omega
 have en:¬(281474976710656<Builtin.nextslicecap (s.len+x.len) s.cap*i.bytes):=by omega
 have kT:¬Builtin.nextslicecap (s.len+x.len) s.cap*i.bytes>2^48:=by simpa using en
 unfold Builtin.append_
 simp only[Ny,z2,RK,b7,U,Sem.run_bind,gj aj,gj af,Result.andThen,B3,Builtin.lenOf,Sem.run_pure,aY,if_false,oh,CZ,bo,false_and,kT,Bool.not_false,if_true]
 have Xp:Sem.run P (choose (.appendCap (s.len+x.len) s.cap e)) w= .ok jT w.drew:=Xo
 simp only[Xp,Xn,aH,pI,zeroValue,CZ,bN,Sem.run_bind,Result.andThen,Sem.run_pure,newRow,newObj,Sem.run]
 have rk:w.drew.heap.size=w.heap.size:=rfl
 rw[rk]
 congr 1
 show w.drew.alloc _=w.drew.alloc _
 congr 2
 simp
theorem NP:∀ (vs:List Value) (c:Array Value) (i:Nat),i+vs.length≤c.size→(oT c i vs).toList.take (i+vs.length)=c.toList.take i++vs
 | [],c,i,_=>by simp[oT]
 |v::vs,c,i,h=>by
   simp only[ld] at h
   simp only[oT]
   have:=NP vs (c.setIfInBounds i v) (i+1) (by simpa using (by omega:i+1+vs.length≤c.size))
   rw[show i+(v::vs).length=i+1+vs.length by simp;omega,this]
   have hi:i<c.size:=by omega
   have ad:(c.setIfInBounds i v).toList.take (i+1)=c.toList.take i++ [v]:=by
     rw[qz (by simpa using hi)]
     have au:(List.take i c.toList).set i v=List.take i c.toList:=by
       apply List.set_eq_of_length_le
       simp only[d_]
       omega
     simp[List.take_set,au]
   rw[ad]
   simp
theorem auc {nv:Array TypeId} {eB ez vw e:TypeId} {i:TypeInfo} {z:Value} {sz:Nat} {s x:aa} {xs vs:List Value} (b7:nv[0]? =some ez) (U:nv[1]? =some vw)
   (aj:P.underlying ez=some (.slice e)) (af:P.underlying vw=some (.slice e)) (hi:P.info? e=some i) (hd:(P.underlying e).isSome=true) (bN:i.zero=some z) (wZ:z.cells.size=sz) (dR:P.cellsOf e=sz)
   (ab:i.bytes≠0) (mM:Src sz w x xs) (jV:bV sz e w s vs) (aZ:∀v∈xs,Plain v) (wA:(2*(s.len+x.len)+1000)*i.bytes≤281474976710656):
   ∃ (ar:aa) (w':World),Sem.run P (Builtin.append_ nv eB #[.slice s.a s.len s.cap, .slice x.a x.len x.cap]) w= .ok (.slice ar.a ar.len ar.cap) w'∧
     bV sz e w' ar (vs++xs)∧ar.len=s.len+x.len∧ao (aO s) w w'∧(∀k,aO ar k→aO s k∨w.heap.size≤k):=by
 have hold:=jV.src
 obtain ⟨aA,aE,aI,aL⟩:=jV
 by_cases j3:s.len+x.len≤s.cap
 · have g9:∀a,s.a=some a→cZ w (a.add (s.len*sz)) xs:=by
     intro a aR
     rcases aL with ⟨aD,_⟩|⟨b,c,HC,jf,fc,ak⟩
     · rw[aD] at aR;cases aR
     · rw[HC] at aR
       cases aR
       rw[aW]
       refine jf.dA _ _ ?_ aZ
       rw[fc,mM.len,gz,←wE]
       exact Cf _ j3
   obtain ⟨d,hd⟩:=ub _ hd
   have Ag:=SG (eB:=eB) b7 U aj af hd dR mM j3 g9
   refine ⟨⟨s.a,s.len+x.len,s.cap⟩,_,Ag,?_,rfl,?_,fun k ae=> .inl ae⟩
   · refine ⟨by simp[aA,mM.len,wE],j3,aI,?_⟩
     rcases aL with ⟨aD,al⟩|⟨b,c,HC,jf,fc,ak⟩
     · exact .inl ⟨aD,al⟩
     · refine .inr ⟨b,oT c (s.len*sz) xs,HC,?_,by rw[rA];exact fc,?_⟩
       · simp only[HC,aW]
         have:=ct.NO (T:=e) xs (0+s.len*sz) 0 jf
         simpa using this
       · have hle:s.len*sz+xs.length≤c.size:=by
           rw[fc,mM.len,←wE]
           exact Cf _ j3
         have:=NP xs c (s.len*sz) hle
         rw[mM.len,←wE] at this
         rw[this,ak]
   · cases sh:s.a with
     |none=>exact .refl _ _
     |some a=>
       refine ao.setCells (fun _=> ?_) xs 0 (.refl _ _)
       exact ⟨a,sh,by unfold Addr.add;split<;>rfl⟩
 · obtain ⟨jT,rest,mz,oz,aN,Ag⟩:=run_append_grow (eB:=eB) b7 U aj af hi hd bN wZ dR ab mM hold (by omega) wA
   refine ⟨⟨some ⟨w.heap.size,0,none⟩,s.len+x.len,jT⟩,_,Ag,?_,rfl,ao.alloc (ao.drew (.refl _ _)) _,?_⟩
   · refine ⟨by simp[aA,mM.len,wE],mz,oz, .inr ⟨w.heap.size,(vs++xs++rest).toArray,rfl,ct.new w.drew _ _,?_,?_⟩⟩
     · simp[aA,mM.len,aN]
       rw[←wE,←wE]
       congr 1
       omega
     · have:(vs++xs).length=(s.len+x.len)*sz:=by simp[aA,mM.len,wE]
       show List.take ((s.len+x.len)*sz) (vs++xs++rest).toArray.toList=vs++xs
       rw[←this]
       exact List.take_left
   · rintro k ⟨A,ax,ae⟩
     cases ax
     exact .inr (by simpa using ae▸cV _)
end
theorem bV.an {sz:Nat} {T:TypeId} {w w':World} {s:aa} {vs:List Value} {W:Nat→Prop} (h:bV sz T w s vs) (al:ao W w w') (aD:∀k,aO s k→¬W k):bV sz T w' s vs:=by
 obtain ⟨U,ad,au,aJ⟩:=h
 refine ⟨U,ad,au,?_⟩
 rcases aJ with aJ|⟨b,c,ab,jf,fc,ak⟩
 · exact .inl aJ
 · exact .inr ⟨b,c,ab,jf.an al (aD b ⟨_,ab,rfl⟩),fc,ak⟩
theorem Src.an {sz:Nat} {w w':World} {s:aa} {vs:List Value} {W:Nat→Prop} (h:Src sz w s vs) (al:ao W w w') (aD:∀k,aO s k→¬W k):Src sz w' s vs:=
 ⟨h.len,h.nil,fun a aR=>al.eN (aD _ ⟨a,aR,rfl⟩) _ _ _ (h.rd a aR)⟩
theorem bV.lt {sz:Nat} {T:TypeId} {w:World} {s:aa} {vs:List Value} (h:bV sz T w s vs):∀k,aO s k→k<w.heap.size:=by
 rintro k ⟨A,ax,rfl⟩
 obtain ⟨_,_,_,aJ⟩:=h
 rcases aJ with ⟨aD,_⟩|⟨b,c,ab,jf,_⟩
 · rw[aD] at ax;cases ax
 · rw[ab] at ax;cases ax;exact jf.lt
theorem bV.cell {T:TypeId} {w:World} {s:aa} {vs:List Value} (h:bV 1 T w s vs) {i:Nat} {v:Value} (ak:vs[i]? =some v):
   ∃b c,s.a=some ⟨b,0,none⟩∧ct w b c T∧c.size=s.cap∧i<s.len∧i<c.size∧w.cell? ⟨b,i,none⟩=some v∧c.toList.take s.len=vs:=by
 obtain ⟨U,ad,au,aJ⟩:=h
 have hi:i<s.len:=by
   have:=(qA.1 ak).1
   omega
 rcases aJ with ⟨_,al⟩|⟨b,c,ab,jf,fc,aV⟩
 · omega
 · rw[lU] at fc aV
   refine ⟨b,c,ab,jf,fc,hi,by omega,?_,aV⟩
   rw[jf.cell]
   rw[←aV,NA] at ak
   rw[if_pos hi] at ak
   simpa using ak
theorem bV.set {T:TypeId} {w:World} {s:aa} {vs:List Value} {b i:Nat} (h:bV 1 T w s vs) (ab:s.a=some ⟨b,0,none⟩) (v:Value):
   bV 1 T (w.setCell ⟨b,i,none⟩ v) s (vs.set i v):=by
 obtain ⟨U,ad,au,aJ⟩:=h
 refine ⟨by simpa using U,ad,au, .inr ?_⟩
 rcases aJ with ⟨aD,_⟩|⟨jo,c,kB,jf,fc,aV⟩
 · rw[aD] at ab;cases ab
 · rw[ab] at kB
   cases kB
   refine ⟨b,_,ab,jf.set i v,by simpa using fc,?_⟩
   rw[←aV]
   simp[List.take_set]
def afF (P:Program) (ez e:TypeId) (sz bytes:Nat):Bool:=
 match P.underlying ez,P.info? e,P.underlying e with
 |some (.slice eS),some i,some _=>eS==e&&(match i.zero with|some z=>z.cells.size==sz|none=>false)&&P.cellsOf e==sz&&i.bytes==bytes&&bytes !=0
 |_,_,_=>false
structure qf (P:Program) (ez e:TypeId) (sz bytes:Nat):Prop where
 h:afF P ez e sz bytes=true
theorem qf.out {P:Program} {ez e:TypeId} {sz bytes:Nat} (h:qf P ez e sz bytes):
   P.underlying ez=some (.slice e)∧∃i z,P.info? e=some i∧(P.underlying e).isSome=true∧i.zero=some z∧z.cells.size=sz∧P.cellsOf e=sz∧i.bytes=bytes∧bytes≠0:=by
 have h:=h.h
 unfold afF at h
 split at h
 · rename_i eS i d U ad au
   simp only[jD,zZ,bne_iff_ne] at h
   obtain ⟨⟨⟨⟨rfl,aJ⟩,a6⟩,b8⟩,iA⟩:=h
   split at aJ
   · rename_i z bN
     exact ⟨U,i,z,ad,by simp[au],bN,by simpa using aJ,a6,b8,iA⟩
   · cases aJ
 · cases h
theorem qf.append {P:Program} {w:World} {ez e eB:TypeId} {sz bytes:Nat} {s x:aa} {xs vs:List Value} (h:qf P ez e sz bytes)
   (mM:Src sz w x xs) (jV:bV sz e w s vs) (aZ:∀v∈xs,Plain v) (wA:(2*(s.len+x.len)+1000)*bytes≤281474976710656):
   ∃ (ar:aa) (w':World),Sem.run P (Builtin.append_ #[ez,ez] eB #[.slice s.a s.len s.cap, .slice x.a x.len x.cap]) w= .ok (.slice ar.a ar.len ar.cap) w'∧
     bV sz e w' ar (vs++xs)∧ar.len=s.len+x.len∧ao (aO s) w w'∧(∀k,aO ar k→aO s k∨w.heap.size≤k):=by
 obtain ⟨U,i,z,ad,au,aJ,a6,b8,rfl,ox⟩:=h.out
 exact auc rfl rfl U U ad au aJ a6 b8 ox mM jV aZ wA
theorem Src.new {sz:Nat} {T:TypeId} (w:World) (xs:List Value) (n:Nat) (aD:xs.length=n*sz):Src sz (w.alloc (.cells xs.toArray T)) ⟨some ⟨w.heap.size,0,none⟩,n,n⟩ xs:=by
 refine ⟨aD,(fun h=>by cases h),fun a aR=> ?_⟩
 cases aR
 rw[Hf (ct.new w xs.toArray T) _ _ _ (by simp[aD])]
 simp[←aD]
theorem bV.new {sz:Nat} {T:TypeId} (w:World) (xs:List Value) (n:Nat) (aD:xs.length=n*sz) (hm:n≤maxLen):bV sz T (w.alloc (.cells xs.toArray T)) ⟨some ⟨w.heap.size,0,none⟩,n,n⟩ xs:=by
 refine ⟨aD,cV _,hm, .inr ⟨_,_,rfl,ct.new w _ _,by simp[aD],?_⟩⟩
 show List.take (n*sz) xs=xs
 rw[←aD,qB]
theorem bV.none (sz:Nat) (T:TypeId) (w:World):bV sz T w ⟨.none,0,0⟩ []:=⟨by simp,cV _,by decide, .inl ⟨rfl,rfl⟩⟩
theorem qJ (k:Nat):¬aO ⟨.none,0,0⟩ k:=by rintro ⟨A,ax,_⟩;cases ax
theorem vR {A:Addr} {n m k:Nat}:aO ⟨some A,n,m⟩ k↔A.block=k:=⟨fun ⟨B,fw,h⟩=>by cases fw;exact h,fun h=>⟨_,rfl,h⟩⟩
theorem Src.alloc {sz:Nat} {w:World} {s:aa} {vs:List Value} (h:Src sz w s vs) (o:Obj):Src sz (w.alloc o) s vs:=h.an (W:=fun _=>False) (ao.alloc (.refl _ _) o) (fun _ _ h=>h)
theorem bV.ext {sz:Nat} {T:TypeId} {w w':World} {s:aa} {vs:List Value} (h:bV sz T w s vs) (al:Ext w w'):bV sz T w' s vs:=h.an al fun _ _ h=>h
theorem Src.ext {sz:Nat} {w w':World} {s:aa} {vs:List Value} (h:Src sz w s vs) (al:Ext w w'):Src sz w' s vs:=h.an al fun _ _ h=>h
theorem qf.push {P:Program} {w:World} {ez e eB:TypeId} {sz bytes:Nat} {s:aa} {vs xs:List Value} (h:qf P ez e sz bytes) (af:xs.length=sz)
   (jV:bV sz e w s vs) (aZ:∀v∈xs,Plain v) (wA:(2*(s.len+1)+1000)*bytes≤281474976710656):
   ∃ (ar:aa) (w':World),Sem.run P (Builtin.append_ #[ez,ez] eB #[.slice s.a s.len s.cap, .slice (some ⟨w.heap.size,0,none⟩) 1 1]) (w.alloc (.cells xs.toArray e))= .ok (.slice ar.a ar.len ar.cap) w'∧
     bV sz e w' ar (vs++xs)∧ar.len=s.len+1∧ao (aO s) w w'∧(∀k,aO ar k→aO s k∨w.heap.size≤k):=by
 have al:Ext w (w.alloc (.cells xs.toArray e)):=ao.alloc (.refl _ _) _
 obtain ⟨ar,w',U,ad,au,aJ,a6⟩:=h.append (eB:=eB) (Src.new (T:=e) w xs 1 (by simpa using af)) (jV.ext al) aZ wA
 exact ⟨ar,w',U,ad,au,(ao.eQ al).trans aJ,fun k ae=>(a6 k ae).imp id (fun h=>by simp at h;omega)⟩
theorem qf.clone {P:Program} {w:World} {ez e eB:TypeId} {sz bytes:Nat} {x:aa} {xs:List Value} (h:qf P ez e sz bytes)
   (mM:Src sz w x xs) (aZ:∀v∈xs,Plain v) (wA:(2*x.len+1000)*bytes≤281474976710656):
   ∃ (ar:aa) (w':World),Sem.run P (Builtin.append_ #[ez,ez] eB #[.slice (some ⟨w.heap.size,0,none⟩) 0 0, .slice x.a x.len x.cap]) (w.alloc (.cells #[] e))= .ok (.slice ar.a ar.len ar.cap) w'∧
     bV sz e w' ar xs∧ar.len=x.len∧Ext w w'∧(∀k,aO ar k→w.heap.size≤k)∧ar.a.isSome=true:=by
 have jV:=bV.new (sz:=sz) (T:=e) w [] 0 (by simp) (by decide)
 have afG:=mM.alloc (.cells #[] e)
 obtain ⟨ar,w',U,ad,au,aJ,a6⟩:=h.append (eB:=eB) afG jV aZ (by simpa using wA)
 refine ⟨ar,w',U,by simpa using ad,by simpa using au,?_,fun k ae=> ?_,?_⟩
 · refine ⟨aJ.os.trans rfl,aJ.tape.trans rfl,aJ.output.trans rfl,?_,fun k ae _=> ?_⟩
   · have:=aJ.size;simp at this;omega
   · rw[aJ.block k (by simp;omega) (by rintro ⟨A,ax,h⟩;cases ax;simp at h;omega)]
     exact Below.heap_alloc _ _ _ ae
 · rcases a6 k ae with ⟨A,ax,h⟩|h
   · cases ax;simp at h;omega
   · simp at h;omega
 · obtain ⟨_,i,z,Fh,WU,axC,ajc,aud,rfl,ox⟩:=h.out
   have ab:=ad.2.2.2
   rcases ab with ⟨aD,al⟩|⟨b,c,ab,_⟩
   ·
     exfalso
     have az:=ad.2.1
     have Gy:x.len=0:=by simp at au;omega
     have abL:xs=[]:=yf.1 (by rw[mM.len,Gy,Nat.zero_mul])
     obtain ⟨d,hd⟩:=ub _ WU
     have:=SG (P:=P) (w:=w.alloc (.cells #[] e)) (nv:= #[ez,ez]) (eB:=eB) (s:=⟨some ⟨w.heap.size,0,Option.none⟩,0,0⟩) rfl rfl h.out.1 h.out.1 hd aud afG (by simp[Gy]) (fun a _=>by
       rw[abL];exact ⟨fun i hi=>by simp at hi,fun v ak=>by simp at ak⟩)
     rw[this] at U
     simp only[Result.ok.injEq,Value.slice.injEq] at U
     rw[aD] at U
     cases U.1.1
   · rw[ab];rfl
theorem bV.at {T:TypeId} {w:World} {s:aa} {vs:List Value} (h:bV 1 T w s vs) {i:Nat} {v:Value} (ak:vs[i]? =some v):
   ∃A:Addr,s.a=some A∧((0:Int)≤(i:Int)∧(i:Int)<((s.len:Nat):Int))∧w.cell? (A.add (Int.toNat (i:Int)*1))=some v∧w.frozen? (A.add (Int.toNat (i:Int)*1))=false∧
     aO s (A.add (Int.toNat (i:Int)*1)).block∧∀uk,bV 1 T (w.setCell (A.add (Int.toNat (i:Int)*1)) uk) s (vs.set i uk):=by
 obtain ⟨b,c,ab,jf,fc,hi,Tw,al,_⟩:=h.cell ak
 have aR:(Addr.mk b 0 Option.none).add (Int.toNat (i:Int)*1)=⟨b,i,Option.none⟩:=by rw[lU,gY,aW,gz]
 exact ⟨_,ab,⟨by omega,by omega⟩,by rw[aR];exact al,by rw[aR];exact jf.frozen _ rfl,by rw[aR];exact ⟨_,ab,rfl⟩,fun uk=>by rw[aR];exact h.set ab uk⟩
end b_
namespace b_
open Go Go.RowKit
def afH (pG:List Int):ByteArray:=pG.foldl (fun r n=>r.push (UInt8.ofNat n.toNat)) ByteArray.empty
theorem aij {P:Program} {w:World} {src dst e:TypeId} {s:aa} {pG:List Int} (aj:P.underlying src=some (.slice e)) (he:P.underlying e=some (.int .u8)) (hd:P.underlying dst=some .string)
   (h:Src 1 w s (pG.map (.int .u8))):Sem.run P (convert src dst (.slice s.a s.len s.cap)) w= .ok (.string (afH pG)) w:=by
 rw[run_convert_bytes_string w src dst e s.a s.len s.cap aj he hd]
 cases aR:s.a with
 |none=>
   have:=h.nil aR
   have aD:pG=[]:=by simpa using this
   subst aD
   rfl
 |some A=>
   have aN:=h.rd A aR
   rw[lU] at aN
   exact run_bytesToString w A s.len s.cap pG (by
     unfold loadCells
     rw[run_loadCellsFrom _ _ _ _ aN]
     simp)
theorem YE {P:Program} {e:TypeId} {v:Value} (bN:((P.info? e).bind (·.zero)).map (·.cells)=some #[v]) (al:P.cellsOf e=1) (n:Nat):pM P e n=(List.replicate n v).toArray:=by
 unfold pM
 rw[al]
 cases hi:(P.info? e).bind (·.zero) with
 |none=>rw[hi] at bN;cases bN
 |some z=>
   rw[hi] at bN
   simp only[yg,Option.some.injEq] at bN
   simp only[Option.getD_some,bN,lU]
   apply Array.ext
   · simp
   · intro i U ad
     have aD:n≠0:=by
       intro h;subst h;simp at ad
     simp[aD,Nat.mod_one]
structure Gq (P:Program) (w:World) (e:TypeId) (s:aa):Prop where
 le:s.len≤s.cap
 cap:s.cap≤maxLen
 nil:s.a=none→s.cap=0
 cell:∀a,s.a=some a→∀i,i<s.cap→∃vs,eN w (a.add (i*P.cellsOf e)) 0 (P.cellsOf e)=some vs∧∃fuel,oR P w fuel e vs
section
variable {P:Program} {w:World} {T:TypeId} {fuel:Nat} {cs:List Value}
theorem L4 {k:IntKind} (h:oR P w fuel T cs) (bm:P.underlying T=some (.int k)):∃n:Int,cs=[.int k n]∧k.min≤n∧n≤k.max:=by
 cases fuel with
 |zero=>cases h
 |succ f=>simpa only[oR,bm] using h
theorem Wx {e:TypeId} (h:oR P w fuel T cs) (bm:P.underlying T=some (.slice e)):∃s:aa,cs=[.slice s.a s.len s.cap]∧Gq P w e s:=by
 cases fuel with
 |zero=>cases h
 |succ f=>
   simp only[oR,bm] at h
   obtain ⟨s,b7,U,ad,au,aJ⟩:=h
   exact ⟨s,b7,U,ad,au,fun a aR i hi=>by
     obtain ⟨vs,a6,b8⟩:=aJ a aR i hi
     exact ⟨vs,a6,f,b8⟩⟩
theorem Ww {fs:Array Field} (h:oR P w fuel T cs) (bm:P.underlying T=some (.struct fs)):cs.length=P.cellsOf T∧∀f∈fs,∃fuel,oR P w fuel f.type ((cs.drop f.offset).take (P.cellsOf f.type)):=by
 cases fuel with
 |zero=>cases h
 |succ f=>
   simp only[oR,bm] at h
   exact ⟨h.1,fun g bf=>⟨f,h.2 g bf⟩⟩
theorem Gq.of {e:TypeId} {v:Value} (h:wj P w T v) (bm:P.underlying T=some (.slice e)):∃s:aa,v= .slice s.a s.len s.cap∧Gq P w e s:=by
 simp only[wj,bm] at h
 obtain ⟨fuel,h⟩:=h
 obtain ⟨s,U,ad⟩:=Wx h bm
 exact ⟨s,by simpa using U,ad⟩
end
theorem Hi {w:World} {A:Addr}:∀ {n i:Nat} {vs:List Value} {j:Nat} {v:Value},eN w A i n=some vs→vs[j]? =some v→w.cell? (A.add (i+j))=some v
 |0,i,vs,j,v,h,ak=>by simp[eN] at h;subst h;simp at ak
 |n+1,i,vs,j,v,h,ak=>by
   simp only[eN] at h
   cases U:w.cell? (A.add i) with
   |none=>simp[U] at h
   |some u=>
     cases ad:eN w A (i+1) n with
     |none=>simp[U,ad] at h
     |some us=>
       simp only[U,ad,Option.some.injEq] at h
       subst h
       cases j with
       |zero=>simp at ak;subst ak;exact U
       |succ j=>
         have:=Hi ad (j:=j) (by simpa using ak)
         rw[show i+(j+1)=i+1+j by omega]
         exact this
theorem Src.at {w:World} {s:aa} {vs:List Value} (h:Src 1 w s vs) {i:Nat} {v:Value} (ak:vs[i]? =some v):
   ∃A:Addr,s.a=some A∧((0:Int)≤(i:Int)∧(i:Int)<((s.len:Nat):Int))∧w.cell? (A.add (Int.toNat (i:Int)*1))=some v:=by
 have hi:i<vs.length:=(qA.1 ak).1
 have az:=h.len
 cases aR:s.a with
 |none=>have:=h.nil aR;subst this;simp at hi
 |some A=>
   have:=Hi (h.rd A aR) ak
   exact ⟨A,rfl,⟨by omega,by omega⟩,by rw[lU,gY];simpa using this⟩
end b_
namespace b_
open Go Go.RowKit
theorem Sk {n:Int} (b7:0≤n) (U:n≤255):IntKind.u8.wrap n=n:=by
 simp only[IntKind.wrap,IntKind.signed,IntKind.bits];simp;omega
theorem Sf {n:Int} (b7:0≤n) (U:n≤4294967295):IntKind.u32.wrap n=n:=by
 simp only[IntKind.wrap,IntKind.signed,IntKind.bits];simp;omega
theorem wK {n:Int} (b7:0≤n) (U:n≤18446744073709551615):IntKind.u64.wrap n=n:=by
 simp only[IntKind.wrap,IntKind.signed,IntKind.bits];simp;omega
theorem aix (n:Int):IntKind.u8.wrap n=n%256:=by
 simp only[IntKind.wrap,IntKind.signed,IntKind.bits];simp
def S (l:List UInt8):ByteArray:=⟨l.toArray⟩
theorem afI (l:List UInt8):(S l).toList=l:=ByteArray.toList_mk l
theorem CA (a b:List UInt8):(ByteArray.toList (S a)==ByteArray.toList (S b))=(a==b):=by rw[afI,afI]
theorem aik (pG:List Int):afH pG=S (pG.map fun n=>UInt8.ofNat n.toNat):=by
 have h:∀ (pG:List Int) (r:List UInt8),pG.foldl (fun r n=>r.push (UInt8.ofNat n.toNat)) (S r)=S (r++pG.map fun n=>UInt8.ofNat n.toNat):=by
   intro pG
   induction pG with
   |nil=>intro r;simp
   |cons n pG du=>
     intro r
     have e:(S r).push (UInt8.ofNat n.toNat)=S (r++ [UInt8.ofNat n.toNat]):=by
       apply ByteArray.ext
       simp[S,ByteArray.push]
     simp only[List.foldl_cons,e,du,tR,eL,EC,rq]
 exact h pG []
theorem add_add (A:Addr) (n m:Nat):(A.add n).add m=A.add (n+m):=by
 unfold Addr.add
 by_cases U:n=0
 · subst U;simp
 · by_cases ad:m=0
   · subst ad;simp
   · rw[if_neg U,if_neg ad,if_neg (by omega)]
     simp[Nat.add_assoc]
def put (f:Nat→Int) (i:Nat) (v:Int):Nat→Int:=fun j=>if j=i then v else f j
section
variable {w w':World} {b m i:Nat} {T:TypeId} {f:Nat→Int}
theorem ao.ow {bO w:World} {b i:Nat} (h:ao (fun q=>q=b) bO w) (v:Value):ao (fun q=>q=b) bO (w.setCell ⟨b,i,none⟩ v):=ao.set h (fun _=>rfl) v
theorem ao.Aa {bO w:World} {b i:Nat} (h:ao (fun q=>q=b) bO w) (vs:List Value) (j:Nat):ao (fun q=>q=b) bO (b_.setCells w ⟨b,i,none⟩ j vs):=ao.setCells (W:=fun q=>q=b) (A:=⟨b,i,none⟩) (fun _=>rfl) vs j h
end
theorem N2 {b o:Nat} {z l m:Nat} (h:m≠l):bg (some (Addr.mk b o none)) z l m=some ⟨b,o+l*z,none⟩:=by
 simp[bg,h,aW]
theorem Ext.trans {a b c:World} (U:Ext a b) (ad:Ext b c):Ext a c:=ao.trans U ad
theorem Ext.gN {bO ag aw:World} {W:Nat→Prop} (U:Ext bO ag) (ad:ao W ag aw) (h:∀k,W k→bO.heap.size≤k):Ext bO aw:=
 ⟨ad.os.trans U.os,ad.tape.trans U.tape,ad.output.trans U.output,jb U.size ad.size,fun k ae _=>by
   rw[ad.block k (lE ae U.size) (fun dq=>by have:=h k dq;omega),U.block k ae id]⟩
end b_
