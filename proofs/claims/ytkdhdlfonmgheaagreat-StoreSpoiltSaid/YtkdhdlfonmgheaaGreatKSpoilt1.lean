/- What a Go program of the model must show, as text that can be read; sound against the kit. -/
import Derived.Below
import Derived.KernelRfl
import Derived.Laws.BytesString
import Derived.OpenShut
import Derived.OrdersHeld
import Derived.ProofKit
import Derived.StillTail
import Derived.Tactics
import Derived.WalkKit
import Derived.WideKeyArgs
namespace Go
theorem bo:type_of% @Nat.le_refl:=@Nat.le_refl
theorem b2:type_of% @of_decide_eq_true:=@of_decide_eq_true
theorem cr:type_of% @of_decide_eq_false:=@of_decide_eq_false
theorem cv:type_of% @List.length_take:=@List.length_take
theorem cw:type_of% @List.getElem_mem:=@List.getElem_mem
theorem cx:type_of% @List.length_append:=@List.length_append
theorem cA:type_of% @Nat.zero_add:=@Nat.zero_add
theorem cD:type_of% @List.append_assoc:=@List.append_assoc
theorem cE:type_of% @Nat.zero_le:=@Nat.zero_le
theorem cR:type_of% @List.mem_append:=@List.mem_append
theorem cS:type_of% @decide_eq_true_eq:=@decide_eq_true_eq
theorem cU:type_of% @List.mem_cons:=@List.mem_cons
theorem cY:type_of% @List.length_set:=@List.length_set
theorem c5:type_of% @List.length_drop:=@List.length_drop
theorem c8:type_of% @Int.toNat_natCast:=@Int.toNat_natCast
theorem c_:type_of% @List.getElem?_eq_getElem:=@List.getElem?_eq_getElem
theorem dv:type_of% @List.mem_map:=@List.mem_map
theorem dw:type_of% @decide_eq_true:=@decide_eq_true
theorem dH:type_of% @Nat.lt_or_ge:=@Nat.lt_or_ge
theorem dI:type_of% @List.take_of_length_le:=@List.take_of_length_le
theorem dL:type_of% @List.length_map:=@List.length_map
theorem ed:type_of% @Bool.and_eq_true:=@Bool.and_eq_true
theorem ey:type_of% @Nat.le_trans:=@Nat.le_trans
theorem eU:type_of% @List.length_cons:=@List.length_cons
theorem eV:type_of% @List.not_mem_nil:=@List.not_mem_nil
theorem eX:type_of% @List.getD_eq_getElem?_getD:=@List.getD_eq_getElem?_getD
theorem eY:type_of% @List.getElem_of_mem:=@List.getElem_of_mem
theorem eZ:type_of% @or_false:=@or_false
theorem e6:type_of% @List.mem_of_mem_drop:=@List.mem_of_mem_drop
theorem fe:type_of% @List.mem_of_mem_take:=@List.mem_of_mem_take
theorem fi:type_of% @List.mem_singleton:=@List.mem_singleton
theorem fz:type_of% @Nat.mul_one:=@Nat.mul_one
theorem fA:type_of% @List.getElem_set_ne:=@List.getElem_set_ne
theorem fM:type_of% @Bool.false_eq_true:=@Bool.false_eq_true
theorem fN:type_of% @Bool.not_eq_true:=@Bool.not_eq_true
theorem fO:type_of% @Nat.lt_of_lt_of_le:=@Nat.lt_of_lt_of_le
theorem fP:type_of% @List.map_append:=@List.map_append
theorem fQ:type_of% @List.append_nil:=@List.append_nil
theorem fW:type_of% @Bool.eq_iff_iff:=@Bool.eq_iff_iff
theorem g4:type_of% @Nat.mod_lt:=@Nat.mod_lt
theorem hE:type_of% @List.mem_filter:=@List.mem_filter
theorem hF:type_of% @List.take_append_drop:=@List.take_append_drop
theorem hG:type_of% @decide_eq_false:=@decide_eq_false
theorem hJ:type_of% @List.getElem_set_self:=@List.getElem_set_self
theorem ib:type_of% @List.getElem?_eq_some_iff:=@List.getElem?_eq_some_iff
theorem ic:type_of% @List.map_map:=@List.map_map
theorem ie:type_of% @List.mem_append_right:=@List.mem_append_right
theorem ig:type_of% @List.find?_eq_none:=@List.find?_eq_none
theorem ix:type_of% @Nat.eq_of_beq_eq_true:=@Nat.eq_of_beq_eq_true
theorem iy:type_of% @List.take_succ_eq_append_getElem:=@List.take_succ_eq_append_getElem
theorem iz:type_of% @List.take_length:=@List.take_length
theorem iA:type_of% @List.mem_of_find?_eq_some:=@List.mem_of_find?_eq_some
theorem iQ:type_of% @List.drop_eq_getElem_cons:=@List.drop_eq_getElem_cons
theorem iR:type_of% @List.nil_append:=@List.nil_append
theorem iS:type_of% @List.length_singleton:=@List.length_singleton
theorem iT:type_of% @Nat.mod_eq_of_lt:=@Nat.mod_eq_of_lt
theorem iU:type_of% @List.getElem?_eq_none:=@List.getElem?_eq_none
theorem jl:type_of% @Bool.or_eq_true:=@Bool.or_eq_true
theorem jm:type_of% @List.map_cons:=@List.map_cons
theorem jn:type_of% @Nat.min_eq_left:=@Nat.min_eq_left
theorem jz:type_of% @Bool.true_and:=@Bool.true_and
theorem jA:type_of% @decide_eq_false_iff_not:=@decide_eq_false_iff_not
theorem jB:type_of% @List.mem_range:=@List.mem_range
theorem jC:type_of% @List.mem_append_left:=@List.mem_append_left
theorem jD:type_of% @List.pairwise_cons:=@List.pairwise_cons
theorem jE:type_of% @List.length_nil:=@List.length_nil
theorem jV:type_of% @List.mem_cons_of_mem:=@List.mem_cons_of_mem
theorem jW:type_of% @List.filter_eq_self:=@List.filter_eq_self
theorem jX:type_of% @List.find?_some:=@List.find?_some
theorem jY:type_of% @List.count_pos_iff:=@List.count_pos_iff
theorem kk:type_of% @Nat.add_zero:=@Nat.add_zero
theorem kl:type_of% @List.length_eq_zero_iff:=@List.length_eq_zero_iff
theorem km:type_of% @Nat.add_mul:=@Nat.add_mul
theorem kn:type_of% @List.getElem?_map:=@List.getElem?_map
theorem ko:type_of% @List.getElem?_append_right:=@List.getElem?_append_right
theorem kT:type_of% @Bool.false_or:=@Bool.false_or
theorem kU:type_of% @beq_iff_eq:=@beq_iff_eq
theorem kV:type_of% @List.filter_append:=@List.filter_append
theorem lk:type_of% @List.all_eq_true:=@List.all_eq_true
theorem ln:type_of% @Bool.not_eq_true':=@Bool.not_eq_true'
theorem lp:type_of% @List.getElem?_cons_zero:=@List.getElem?_cons_zero
theorem lq:type_of% @Option.map_some:=@Option.map_some
theorem lr:type_of% @List.sum_append:=@List.sum_append
theorem lu:type_of% @List.drop_zero:=@List.drop_zero
theorem lv:type_of% @List.mem_or_eq_of_mem_set:=@List.mem_or_eq_of_mem_set
theorem lV:type_of% @Array.getElem?_eq_some_iff:=@Array.getElem?_eq_some_iff
theorem lW:type_of% @Nat.sub_self:=@Nat.sub_self
theorem lX:type_of% @Nat.mul_le_mul_right:=@Nat.mul_le_mul_right
theorem lY:type_of% @List.filter_eq_nil_iff:=@List.filter_eq_nil_iff
theorem lZ:type_of% @UInt8.toNat_lt:=@UInt8.toNat_lt
theorem l0:type_of% @List.getElem_append_left:=@List.getElem_append_left
theorem l1:type_of% @Bool.false_and:=@Bool.false_and
theorem l2:type_of% @List.length_filter_le:=@List.length_filter_le
theorem mH:type_of% @Option.isSome_iff_exists:=@Option.isSome_iff_exists
theorem mI:type_of% @Nat.testBit_or:=@Nat.testBit_or
theorem mJ:type_of% @Nat.le_of_ble_eq_true:=@Nat.le_of_ble_eq_true
theorem mK:type_of% @List.perm_middle:=@List.perm_middle
theorem mL:type_of% @List.pairwise_append:=@List.pairwise_append
theorem mM:type_of% @List.length_zip:=@List.length_zip
theorem mN:type_of% @List.map_take:=@List.map_take
theorem mO:type_of% @List.getElem_take:=@List.getElem_take
theorem mP:type_of% @List.pairwise_iff_getElem:=@List.pairwise_iff_getElem
theorem mQ:type_of% @List.length_replicate:=@List.length_replicate
theorem nC:type_of% @List.cons_append:=@List.cons_append
theorem nD:type_of% @Bool.or_eq_false_iff:=@Bool.or_eq_false_iff
theorem nE:type_of% @List.getElem?_drop:=@List.getElem?_drop
theorem nF:type_of% @List.getElem_drop:=@List.getElem_drop
theorem nG:type_of% @List.getElem?_take_of_lt:=@List.getElem?_take_of_lt
theorem nH:type_of% @List.getElem_append_right:=@List.getElem_append_right
theorem nI:type_of% @List.take_append_of_le_length:=@List.take_append_of_le_length
theorem nJ:type_of% @Nat.eq_zero_or_pos:=@Nat.eq_zero_or_pos
theorem nK:type_of% @List.count_append:=@List.count_append
theorem nL:type_of% @List.getElem?_set_ne:=@List.getElem?_set_ne
theorem o3:type_of% @List.any_eq_false:=@List.any_eq_false
theorem o4:type_of% @Nat.sub_zero:=@Nat.sub_zero
theorem o5:type_of% @Nat.zero_mul:=@Nat.zero_mul
theorem o6:type_of% @List.nodup_append:=@List.nodup_append
theorem o7:type_of% @UInt8.toNat_inj:=@UInt8.toNat_inj
theorem o8:type_of% @List.map_drop:=@List.map_drop
theorem o9:type_of% @List.zipWith_append:=@List.zipWith_append
theorem o_:type_of% @List.eq_of_mem_replicate:=@List.eq_of_mem_replicate
theorem pb:type_of% @Decidable.byContradiction:=@Decidable.byContradiction
theorem pc:type_of% @List.count_cons:=@List.count_cons
theorem pd:type_of% @List.count_nil:=@List.count_nil
theorem pe:type_of% @List.filter_cons:=@List.filter_cons
theorem qH:type_of% @List.filterMap_cons:=@List.filterMap_cons
theorem qI:type_of% @List.filterMap_append:=@List.filterMap_append
theorem qJ:type_of% @Nat.testBit_two_pow:=@Nat.testBit_two_pow
theorem qK:type_of% @Nat.add_assoc:=@Nat.add_assoc
theorem qL:type_of% @List.getElem?_toArray:=@List.getElem?_toArray
theorem qM:type_of% @List.getElem?_take:=@List.getElem?_take
theorem qN:type_of% @Option.getD_some:=@Option.getD_some
theorem qO:type_of% @List.of_mem_zip:=@List.of_mem_zip
theorem qP:type_of% @List.exists_mem_of_ne_nil:=@List.exists_mem_of_ne_nil
theorem qQ:type_of% @List.sum_cons:=@List.sum_cons
theorem qR:type_of% @List.drop_drop:=@List.drop_drop
theorem qS:type_of% @List.perm_append_comm:=@List.perm_append_comm
theorem qT:type_of% @List.take_take:=@List.take_take
theorem qU:type_of% @List.map_congr_left:=@List.map_congr_left
theorem qV:type_of% @Nat.xor_lt_two_pow:=@Nat.xor_lt_two_pow
theorem qW:type_of% @Bool.not_eq_false':=@Bool.not_eq_false'
theorem qX:type_of% @List.toList_toArray:=@List.toList_toArray
theorem qY:type_of% @Int.eq_ofNat_of_zero_le:=@Int.eq_ofNat_of_zero_le
theorem sA:type_of% @Array.getElem?_modify:=@Array.getElem?_modify
theorem sB:type_of% @List.range_eq_range':=@List.range_eq_range'
theorem sC:type_of% @List.length_pos_iff:=@List.length_pos_iff
theorem sD:type_of% @List.getElem_zip:=@List.getElem_zip
theorem sE:type_of% @Nat.pow_le_pow_right:=@Nat.pow_le_pow_right
theorem sF:type_of% @List.flatten_append:=@List.flatten_append
theorem sG:type_of% @List.flatten_cons:=@List.flatten_cons
theorem sH:type_of% @Nat.testBit_lt_two_pow:=@Nat.testBit_lt_two_pow
theorem sI:type_of% @List.getElem_set:=@List.getElem_set
theorem sJ:type_of% @List.set_append_right:=@List.set_append_right
theorem sK:type_of% @List.size_toArray:=@List.size_toArray
theorem sL:type_of% @Int.tmod_eq_emod_of_nonneg:=@Int.tmod_eq_emod_of_nonneg
theorem sM:type_of% @List.drop_eq_nil_of_le:=@List.drop_eq_nil_of_le
theorem wD:type_of% @List.getElem?_cons_succ:=@List.getElem?_cons_succ
theorem I{p:Prop}(h:p:=by omega):p:=h
abbrev J:=World
abbrev aa:=Value
abbrev aq(α:Type):=Option α
abbrev O(α:Type):=List α
abbrev ae:=Addr
abbrev aj:=Bool
end Go
namespace a_
open Go
structure U where
 a:aq ae
 len:Nat
 cap:Nat
instance:Coe U Value:=⟨λs=>.slice s.a s.len s.cap⟩
instance:Coe Int Value:=⟨λn=>.int .i64 n⟩
instance:Coe Nat Value:=⟨λn=>.int .i64 (n:Int)⟩
instance:Coe Bool Value:=⟨λb=>.bool b⟩
instance:Coe Nat Addr:=⟨λb=>⟨b,0,none⟩⟩
instance:Coe (Option Addr) Value:=⟨λp=>.pointer p⟩
instance:Coe Unit Value:=⟨λ_=>.slice none 0 0⟩
structure hK where
 f:FuncId
 pre:Array aa
 cap:Array aa
inductive e0 where
 |int (k:IntKind)|bool|str|ptr|slice|map|agg|fn|any
def e0.T:e0->Type
 | .int _=>Int
 | .bool=>aj
 | .str=>ByteArray
 | .ptr=>aq ae
 | .slice=>U
 | .map=>aq Nat
 | .agg=>Array aa
 | .fn=>hK
 | .any=>aa
def e0.v:(l:e0)->l.T->aa
 | .int k,(n:Int)=>.int k n
 | .bool,(b:aj)=>.bool b
 | .str,(s:ByteArray)=>.string s
 | .ptr,(p:aq ae)=>.pointer p
 | .slice,(s:U)=>.slice s.a s.len s.cap
 | .map,(r:aq Nat)=>.map r
 | .agg,(cs:Array aa)=>.agg cs
 | .fn,(F:hK)=>.func (.func F.f) F.pre F.cap
 | .any,(v:aa)=>v
inductive Kd where
 |one (l:e0)
 |flat (ls:O e0)
def nM(l:e0)(K:aa->Prop):Prop:=
 match l with
 | .int k=>∃n:Int,K (.int k n)
 | .bool=>∃b:aj,K (.bool b)
 | .str=>∃s:ByteArray,K (.string s)
 | .ptr=>∃p:aq ae,K (.pointer p)
 | .slice=>∃s:U,K (.slice s.a s.len s.cap)
 | .map=>∃r:aq Nat,K (.map r)
 | .agg=>∃cs:Array aa,K (.agg cs)
 | .fn=>∃F:hK,K (.func (.func F.f) F.pre F.cap)
 | .any=>∃v:aa,K v
def wE:O e0->(O aa->Prop)->Prop
 | [],K=>K []
 |l::ls,K=>nM l λv=>wE ls λvs=>K (v::vs)
def wF(k:Kd)(K:aa->Prop):Prop:=
 match k with
 | .one l=>nM l K
 | .flat ls=>wE ls λvs=>K (.agg vs.toArray)
def sN:O Kd->(O aa->Prop)->Prop
 | [],K=>K []
 |k::ks,K=>wF k λv=>sN ks λvs=>K (v::vs)
theorem pg{l:e0}{K:aa->Prop}(h:nM l K):∃v,K v:=by
 cases l<;>simp only[nM]at h<;>obtain⟨x,h⟩:=h<;>exact⟨_,h⟩
theorem zj:∀ {ls:O e0}{K:O aa->Prop},wE ls K->∃vs,K vs
 | [],_,h=>⟨_,h⟩
 |_::_,_,h=>let ⟨_,h⟩:=pg h;let ⟨_,h⟩:=zj h;⟨_,h⟩
theorem zk{k:Kd}{K:aa->Prop}(h:wF k K):∃v,K v:=by
 cases k with
 |one l=>exact pg h
 |flat ls=>obtain⟨_,h⟩:=zj h;exact⟨_,h⟩
theorem wG:∀ {ls:O Kd}{K:O aa->Prop},sN ls K->∃vs,K vs
 | [],_,h=>⟨_,h⟩
 |_::_,_,h=>let ⟨_,h⟩:=zk h;let ⟨_,h⟩:=wG h;⟨_,h⟩
abbrev Env:=O (Nat×aa)
def Env.get:Env->Nat->aq aa
 | [],_=>none
 |(k,v)::e,s=>bif Nat.beq k s then some v else Env.get e s
def ev(e:Env):Operand->aq aa
 | .tmp t=>e.get t
 | .const v=>some v
 | .global g=>some (.pointer (some ⟨g,0,none⟩))
 | .func f=>some (.func (.func f) #[] #[])
def ro(e:Env)(x:Operand):aa:=(ev e x).getD undef
def known(e:Env)(xs:Array Operand):aj:=xs.toList.all λx=>(ev e x).isSome
structure dy(e:Env)(a:Act):Prop where
 get:∀s v,e.get s=some v->a.tmps[s]? =some v
theorem dy.ev{e:Env}{a:Act}(h:dy e a){x:Operand}{v:aa}(hx:ev e x=some v):a.eval x=v:=by
 cases x with
 |tmp t=>
  have:=h.get t v hx;simp[Act.eval,Array.getD_eq_getD_getElem?,this]
 |const c=>simpa[a_.ev,Act.eval] using hx
 |global g=>simpa[a_.ev,Act.eval] using hx
 |func f=>simpa[a_.ev,Act.eval] using hx
theorem dy.ro{e:Env}{a:Act}(h:dy e a){x:Operand}(hx:(a_.ev e x).isSome=true):a.eval x=ro e x:=by
 obtain⟨v,b⟩:=mH.1 hx;rw[h.ev b,a_.ro,b];rfl
def dk(d:aq Nat)(v:aa)(e:Env):Env:=
 match d with
 |some d=>(d,v)::e
 |none=>e
theorem nN(d:Nat)(v:aa)(e:Env)(s:Nat):Env.get ((d,v)::e) s=if d=s then some v else e.get s:=by
 simp only[Env.get,cond_eq_ite];by_cases a:d=s
 .subst a;simp
 .have:Nat.beq d s=false:=by
   cases b:Nat.beq d s
   .rfl
   .exact absurd (ix b) a
  simp[this,a]
theorem dy.put{e:Env}{a:Act}(h:dy e a){d:aq Nat}{v:aa}(hd:∀k,d=some k->k<a.tmps.size):dy (dk d v e) (a.put d v):=by
 cases d with
 |none=>exact h
 |some d=>
  constructor;intro s u hs;rw[dk,nN]at hs;simp only[Act.put];by_cases b:d=s
  .subst b
   simp only[if_true,Option.some.injEq]at hs;subst hs;simp[hd d rfl]
  .rw[if_neg b]at hs
   rw[Array.getElem?_setIfInBounds_ne b];exact h.get s u hs
inductive dS where
 |one (k:Kd)
 |fj (ks:O Kd)
def ih(r:dS)(K:aa->Prop):Prop:=
 match r with
 | .one k=>wF k K
 | .fj ks=>sN ks λvs=>K (.tuple vs.toArray)
theorem iB{r:dS}{K:aa->Prop}(h:ih r K):∃v,K v:=by
 cases r with
 |one k=>exact zk h
 |fj ks=>obtain⟨_,h⟩:=wG h;exact⟨_,h⟩
def cL(w:J)(A:ae):Nat->Nat->aq (O aa)
 |_,0=>some []
 |i,n+1=>match w.cell? (A.add i),cL w A (i+1) n with
  |some v,some vs=>some (v::vs)
  |_,_=>none
def setCells(w:J)(A:ae):Nat->O aa->J
 |_,[]=>w
 |i,v::vs=>setCells (w.setCell (A.add i) v) A (i+1) vs
def Plain:aa->Prop
 | .agg _=>False
 | .tuple _=>False
 |_=>True
def bA(w:J)(A:ae)(vs:O aa):Prop:=
 (∀i,i<vs.length->(w.cell? (A.add i)).isSome=true/\w.frozen? (A.add i)=false)/\∀v∈vs,Plain v
def ly:TypeDesc->aj
 | .struct _=>true
 | .array _ _=>true
 |_=>false
def g5(P:Program)(elem:TypeId)(n:Nat):Array aa:=
 let zero:=if n*P.cellsOf elem=0 then #[] else (((P.info? elem).bind (·.zero)).getD undef).cells
 (Array.range (n*P.cellsOf elem)).map (zero[· %zero.size]!)
section
variable {P:Program}{w:J}
theorem dm{t:TypeId}{d:TypeDesc}(h:P.underlying t=some d):(underlying t).run P w=.ok d w:=by
 simp[underlying,program,Sem.run,bind,Sem.bind,h,pure]
theorem mR{t:TypeId}{d:TypeInfo}(h:P.info? t=some d):(typeInfo t).run P w=.ok d w:=by
 simp[typeInfo,program,Sem.run,bind,Sem.bind,h,pure]
theorem info_of_underlying{t:TypeId}{d:TypeDesc}(h:P.underlying t=some d):∃i,P.info? t=some i:=by
 unfold Program.underlying at h
 cases hi:P.info? t with
 |none=>simp[hi]at h
 |some i=>exact⟨i,rfl⟩
theorem iC{t:TypeId}{d:TypeDesc}(h:P.underlying t=some d):(Go.sizeOf t).run P w=.ok (P.cellsOf t) w:=by
 obtain⟨i,hi⟩:=info_of_underlying h;simp[Go.sizeOf,mR hi,Program.cellsOf,hi]
theorem sO{t:TypeId}{d:TypeDesc}(h:P.underlying t=some d):(isAgg t).run P w=.ok (ly d) w:=by
 simp only[isAgg,Sem.run_bind,dm h,Result.andThen]
 cases d<;>rfl
theorem wH{A:ae}{v:aa}(h:w.cell? A=some v):(load A).run P w=.ok v w:=by
 simp[load,Sem.run,h]
theorem run_loadCellsFrom{A:ae}:∀ (n i:Nat) (acc:Array aa) (vs:O aa),cL w A i n=some vs->
 (loadCellsFrom A i n acc).run P w=.ok (acc++vs.toArray) w
 |0,i,acc,vs,h=>by
  simp only[cL,Option.some.injEq]at h
  subst h
  simp[loadCellsFrom]
 |n+1,i,acc,vs,h=>by
  simp only[cL]at h
  cases h1:w.cell? (A.add i) with
  |none=>simp[h1]at h
  |some v=>
   cases a:cL w A (i+1) n with
   |none=>simp[h1,a]at h
   |some us=>
    simp only[h1,a,Option.some.injEq]at h
    subst h
    simp only[loadCellsFrom,Sem.run_bind,wH h1,Result.andThen]
    rw[run_loadCellsFrom n (i+1) (acc.push v) us a]
    simp
theorem sP{T:TypeId}{d:TypeDesc}(a:P.underlying T=some d)(hd:ly d=true){A:ae}{vs:O aa}(h:cL w A 0 (P.cellsOf T)=some vs):
 (loadVar T A).run P w=.ok (.agg vs.toArray) w:=by
 simp only[loadVar,Sem.run_bind,sO a,Result.andThen,hd,if_true,iC a,loadCells,run_loadCellsFrom _ _ _ _ h];simp
theorem zl{T:TypeId}{d:TypeDesc}(a:P.underlying T=some d)(hd:ly d=false){A:ae}{v:aa}(h:w.cell? A=some v):
 (loadVar T A).run P w=.ok v w:=by
 simp only[loadVar,Sem.run_bind,sO a,Result.andThen,hd,fM,if_false,wH h]
theorem Dt{A:ae}{v u:aa}(a:Plain v)(h:w.cell? A=some u)(hf:w.frozen? A=false):(store A v).run P w=.ok () (w.setCell A v):=by
 cases v<;>simp_all [store,Sem.run,Plain]
theorem Du(w:J)(A B:ae)(v:aa):((w.setCell A v).cell? B).isSome=(w.cell? B).isSome:=by
 simp only[World.setCell,World.cell?,sA];by_cases a:A.block=B.block
 .simp only[a,if_true]
  cases w.heap[B.block]? with
  |none=>rfl
  |some o=>
   cases o<;>simp
   by_cases hs:B.spot.isSome<;>simp[hs]
   by_cases b:A.spot.isSome<;>simp[b]
   rw[fW];simp
 .simp[a]
theorem Dv(w:J)(A B:ae)(v:aa):(w.setCell A v).frozen? B=w.frozen? B:=by
 simp only[World.setCell,World.frozen?,sA];by_cases a:A.block=B.block
 .simp only[a,if_true]
  cases w.heap[B.block]? with
  |none=>rfl
  |some o=>cases o<;>rfl
 .simp[a]
theorem ph{A:ae}:∀ (vs:O aa) (i:Nat) (w:J),(∀j,j<vs.length->(w.cell? (A.add (i+j))).isSome=true/\w.frozen? (A.add (i+j))=false)->(∀v∈vs,Plain v)->
 (storeCells A vs i).run P w=.ok () (setCells w A i vs)
 | [],i,w,_,_=>rfl
 |v::vs,i,w,h,a=>by
  have h0:=h 0 (by simp)
  simp only[kk]at h0
  obtain⟨u,hu⟩:=mH.1 h0.1
  simp only[storeCells,Sem.run_bind,Dt (P:=P) (a v (by simp)) hu h0.2,Result.andThen,setCells]
  refine ph vs (i+1) (w.setCell (A.add i) v) (λj b=>?_) (λx hx=>a x (by simp[hx]))
  have:=h (j+1) (by simp;omega)
  rw[Du,Dv,show i+1+j=i+(j+1) from I]
  exact this
theorem zm{T:TypeId}{d:TypeDesc}(a:P.underlying T=some d){A:ae}{v:aa}(hs:v.cells.size=P.cellsOf T)(h:bA w A v.cells.toList):
 (storeVar T A v).run P w=.ok () (setCells w A 0 v.cells.toList):=by
 simp only[storeVar,Sem.run_bind,iC a,Result.andThen,hs,ne_eq,not_true,if_false];simpa using ph v.cells.toList 0 w (by simpa using h.1) h.2
end
def wI:O e0->ae->Nat->J->(O aa->Prop)->Prop
 | [],_,_,_,K=>K []
 |l::ls,A,i,w,K=>nM l λv=>w.cell? (A.add i)=some v/\wI ls A (i+1) w λvs=>K (v::vs)
def pj(P:Program)(tk:TypeId->dS)(T:TypeId)(A:ae)(w:J)(K:aa->Prop):Prop:=
 match P.underlying T with
 |none=>False
 |some d=>
  bif ly d then
   match tk T with
   | .one (.flat ls)=>bif Nat.beq (P.cellsOf T) ls.length then wI ls A 0 w λvs=>K (.agg vs.toArray) else False
   |_=>∃cs:O aa,cL w A 0 (P.cellsOf T)=some cs/\K (.agg cs.toArray)
  else
   match tk T with
   | .one (.one l)=>nM l λv=>w.cell? A=some v/\K v
   |_=>False
def wJ(P:Program)(tk:TypeId->dS)(T:TypeId)(A:ae)(x:aa)(w:J)(K:J->Prop):Prop:=
 match P.underlying T with
 |none=>False
 |some d=>
  bif ly d then
   match x with
   | .agg cs=>bA w A cs.toList/\cs.size=P.cellsOf T/\K (setCells w A 0 cs.toList)
   |_=>False
  else bif Nat.beq (P.cellsOf T) 1 then
   match tk T with
   | .one (.one .any)=>Plain x/\(∃u,w.cell? A=some u)/\w.frozen? A=false/\K (w.setCell A x)
   |_=>match x with
    | .agg _=>False
    | .tuple _=>False
    |_=>(∃u,w.cell? A=some u)/\w.frozen? A=false/\K (w.setCell A x)
  else False
def zn(P:Program)(T:TypeId)(xs a:Array aa)(b:aj):Prop:=
 P.eqGuardType P.depth T=false/\∀w,(Op.equal T (.agg xs) (.agg a)).run P w=.ok b w
def nO:aa->aq aj
 | .nilIface=>some true
 | .iface _ _=>some false
 |_=>none
def nP:aq TypeDesc->aj
 |some (.interface _)=>true
 |_=>false
def l3:aq TypeDesc->aj
 |some (.pointer _)=>true
 |_=>false
def mS:aq TypeDesc->aj
 |some (.slice _)=>true
 |_=>false
def pk:aq TypeDesc->aj
 |some (.map _ _)=>true
 |_=>false
def jZ:IntKind->IntKind->aj:=λa b=>decide (a=b)
def sQ(P:Program)(op:BinOp)(T:TypeId)(x y:aa)(K:aa->Prop)(G:Prop):Prop:=
 match y with
 | .nilIface=>bif nP (P.underlying T) then
  match op with
  | .eql=>∃b,nO x=some b/\K (.bool b)
  | .neq=>∃b,nO x=some b/\K (.bool (!b))
  |_=>False
  else False
 | .pointer none=>bif l3 (P.underlying T) then
  match op,x with
  | .eql,.pointer p=>K (.bool p.isNone)
  | .neq,.pointer p=>K (.bool (!p.isNone))
  |_,_=>False
  else False
 | .slice none _ _=>bif mS (P.underlying T) then
  match op,x with
  | .eql,.slice a _ _=>K (.bool a.isNone)
  | .neq,.slice a _ _=>K (.bool (!a.isNone))
  |_,_=>False
  else False
 | .map none=>bif pk (P.underlying T) then
  match op,x with
  | .eql,.map r=>K (.bool r.isNone)
  | .neq,.map r=>K (.bool (!r.isNone))
  |_,_=>False
  else False
 | .agg c=>
  match op,x with
  | .eql,.agg xs=>∃b,zn P T xs c b/\K (.bool b)
  | .neq,.agg xs=>∃b,zn P T xs c b/\K (.bool (!b))
  |_,_=>False
 | .int d b=>
  match op,x with
  | .quo,.int k a=>bif jZ k d then b≠0/\K (.int k (k.wrap (a.tdiv b))) else False
  | .rem,.int k a=>bif jZ k d then b≠0/\K (.int k (a.tmod b)) else False
  | .shl,.int k a=>0<=b/\K (.int k (k.wrap (a*2^(min b.toNat k.bits))))
  | .shr,.int k a=>0<=b/\K (.int k (a.fdiv (2^(min b.toNat k.bits))))
  |_,_=>G
 | .bool b=>match P.underlying T with
  |some .bool=>match op,x with
   | .eql,.bool a=>K (.bool (a==b))
   | .neq,.bool a=>K (.bool (!(a==b)))
   |_,_=>False
  |_=>False
 | .string b=>
  match op,x with
  | .add,.string a=>((a.size+b.size:Nat):Int)<=9223372036854775807/\K (.string (a++b))
  |_,_=>G
 |_=>G
section
variable {P:Program}
theorem pn(T:TypeId)(x y:aa):Op.equal T x y=Op.equalIn (9999+1) T x y:=rfl
theorem Dw(d:Nat){T:TypeId}{x:aa}{b:aj}(a:nP (P.underlying T)=true)(h:nO x=some b)(w:J):
 (Op.equalIn (d+1) T x .nilIface).run P w=.ok b w:=by
 cases hu:P.underlying T with
 |none=>simp[hu,nP]at a
 |some d=>
  cases d<;>simp only[hu,nP,fM]at a
  simp only[Op.equalIn,Sem.run_bind,dm hu,Result.andThen]
  cases x<;>simp only[nO,reduceCtorEq,Option.some.injEq]at h<;>subst h<;>rfl
theorem Dx(d:Nat){T:TypeId}{p:aq ae}(a:l3 (P.underlying T)=true)(w:J):
 (Op.equalIn (d+1) T (.pointer p) (.pointer none)).run P w=.ok p.isNone w:=by
 cases hu:P.underlying T with
 |none=>simp[hu,l3]at a
 |some d=>
  cases d<;>simp only[hu,l3,fM]at a
  simp only[Op.equalIn,Sem.run_bind,dm hu,Result.andThen]
  cases p<;>rfl
theorem Dy(d:Nat){T:TypeId}{a:aq ae}{l c e c':Nat}(b:mS (P.underlying T)=true)(w:J):
 (Op.equalIn (d+1) T (.slice a l c) (.slice none e c')).run P w=.ok a.isNone w:=by
 cases hu:P.underlying T with
 |none=>simp[hu,mS]at b
 |some d=>
  cases d<;>simp only[hu,mS,fM]at b
  simp only[Op.equalIn,Sem.run_bind,dm hu,Result.andThen]
  cases a<;>rfl
theorem Dz(d:Nat){T:TypeId}{r:aq Nat}(a:pk (P.underlying T)=true)(w:J):
 (Op.equalIn (d+1) T (.map r) (.map none)).run P w=.ok r.isNone w:=by
 cases hu:P.underlying T with
 |none=>simp[hu,pk]at a
 |some d=>
  cases d<;>simp only[hu,pk,fM]at a
  simp only[Op.equalIn,Sem.run_bind,dm hu,Result.andThen]
  cases r<;>rfl
theorem zo{T:TypeId}{x:aa}{b:aj}(a:nP (P.underlying T)=true)(h:nO x=some b)(w:J):
 (Op.equal T x .nilIface).run P w=.ok b w:=by rw[pn];exact Dw _ a h w
theorem sR{T:TypeId}{p:aq ae}(a:l3 (P.underlying T)=true)(w:J):
 (Op.equal T (.pointer p) (.pointer none)).run P w=.ok p.isNone w:=by rw[pn];exact Dx _ a w
theorem sS{T:TypeId}{a:aq ae}{l c b c':Nat}(d:mS (P.underlying T)=true)(w:J):
 (Op.equal T (.slice a l c) (.slice none b c')).run P w=.ok a.isNone w:=by rw[pn];exact Dy _ d w
theorem zp{T:TypeId}{r:aq Nat}(a:pk (P.underlying T)=true)(w:J):
 (Op.equal T (.map r) (.map none)).run P w=.ok r.isNone w:=by rw[pn];exact Dz _ a w
theorem zq{T:TypeId}{xs a:Array aa}(h:P.eqGuardType P.depth T=false)(op:BinOp)(x y:Operand)(w:J):
 (eqGuard op T x y (.agg xs) (.agg a)).run P w=.ok () w:=by
 cases op<;>simp[eqGuard,program,Sem.run,bind,Sem.bind,h,pure]
theorem zr{T:TypeId}{a b:aj}(c:P.underlying T=some .bool)(w:J):(Op.equal T (.bool a) (.bool b)).run P w=.ok (a==b) w:=by
 have e:∀ (d:Nat) (w:J),(Op.equalIn (d+1) T (.bool a) (.bool b)).run P w=.ok (a==b) w:=by
  intro d w;simp[Op.equalIn,dm c]
 rw[pn];exact e _ w
theorem zt{op:BinOp}{T:TypeId}{x y:aa}{qZ po:Operand}{K:aa->Prop}{G:Prop}
 (l:y=.nilIface->∃c,po=.const c)
 (h:sQ P op T x y K G):
 G\/∃v,(∀w,(do eqGuard op T qZ po x y;binOp op T x y:Sem aa).run P w=.ok v w)/\K v:=by
 unfold sQ at h;split at h
 case h_1=>
  obtain⟨c,hc⟩:=l rfl;by_cases d:nP (P.underlying T)=true
  .rw[d]at h
   simp only[cond_true]at h;split at h
   .obtain⟨b,e,f⟩:=h
    refine .inr ⟨_,λw=>?_,f⟩;have:=zo (P:=P) d e w
    cases x<;>simp only[nO,reduceCtorEq,Option.some.injEq]at e<;>subst hc e<;>simp[eqGuard,binOp,this]
   .obtain⟨b,e,f⟩:=h
    refine .inr ⟨_,λw=>?_,f⟩;have:=zo (P:=P) d e w
    cases x<;>simp only[nO,reduceCtorEq,Option.some.injEq]at e<;>subst hc e<;>simp[eqGuard,binOp,this]
   .exact h.elim
  .simp only[fN]at d;rw[d]at h;exact h.elim
 case h_2=>
  by_cases d:l3 (P.underlying T)=true
  .rw[d]at h
   simp only[cond_true]at h;split at h
   .exact .inr ⟨_,λw=>by simp[eqGuard,binOp,sR (P:=P) d],h⟩
   .exact .inr ⟨_,λw=>by simp[eqGuard,binOp,sR (P:=P) d],h⟩
   .exact h.elim
  .simp only[fN]at d;rw[d]at h;exact h.elim
 case h_3=>
  by_cases d:mS (P.underlying T)=true
  .rw[d]at h
   simp only[cond_true]at h;split at h
   .exact .inr ⟨_,λw=>by simp[eqGuard,binOp,sS (P:=P) d],h⟩
   .exact .inr ⟨_,λw=>by simp[eqGuard,binOp,sS (P:=P) d],h⟩
   .exact h.elim
  .simp only[fN]at d;rw[d]at h;exact h.elim
 case h_4=>
  by_cases d:pk (P.underlying T)=true
  .rw[d]at h
   simp only[cond_true]at h;split at h
   .exact .inr ⟨_,λw=>by simp[eqGuard,binOp,zp (P:=P) d],h⟩
   .exact .inr ⟨_,λw=>by simp[eqGuard,binOp,zp (P:=P) d],h⟩
   .exact h.elim
  .simp only[fN]at d;rw[d]at h;exact h.elim
 case h_5=>
  split at h
  .obtain⟨b,⟨h1,i⟩,f⟩:=h
   exact .inr ⟨_,λw=>by simp[zq h1,binOp,i],f⟩
  .obtain⟨b,⟨h1,i⟩,f⟩:=h
   exact .inr ⟨_,λw=>by simp[zq h1,binOp,i],f⟩
  .exact h.elim
 case h_6 j b=>
  split at h
  .rename_i k a
   by_cases g:k=j
   .subst g
    simp only[jZ,decide_true,cond_true]at h;exact .inr ⟨_,λw=>by simp[eqGuard,binOp,Op.intDiv,h.1],h.2⟩
   .simp[jZ,g]at h
  .rename_i k a
   by_cases g:k=j
   .subst g
    simp only[jZ,decide_true,cond_true]at h;exact .inr ⟨_,λw=>by simp[eqGuard,binOp,Op.intDiv,h.1],h.2⟩
   .simp[jZ,g]at h
  .exact .inr ⟨_,λw=>by simp[eqGuard,binOp,Op.shift,show¬b<0 from I],h.2⟩
  .exact .inr ⟨_,λw=>by simp[eqGuard,binOp,Op.shift,show¬b<0 from I],h.2⟩
  .exact .inl h
 case h_7 b=>
  split at h
  .rename_i d
   split at h
   .exact .inr ⟨_,λw=>by simp[eqGuard,binOp,zr d],h⟩
   .exact .inr ⟨_,λw=>by simp[eqGuard,binOp,zr d],h⟩
   .exact h.elim
  .exact h.elim
 case h_8 b=>
  split at h
  .rename_i a
   refine .inr ⟨_,λw=>?_,h.2⟩;have h1:=h.1;simp[eqGuard,binOp,Op.stringOp,IntKind.max,IntKind.signed,IntKind.bits];omega
  .exact .inl h
 case h_9=>exact .inl h
end
def sT(P:Program)(T:TypeId)(x:aa)(K:aa->Prop):Prop:=
 match P.underlying T with
 |some (.array n _)=>match x with
  | .slice a len _=>n<=len/\∃A,a=some A/\K (.pointer (some A))
  |_=>False
 |_=>False
def sU(P:Program)(T:TypeId)(x i:aa)(K:aa->Prop):Prop:=
 match i with
 | .int _ n=>
  match P.underlying T with
  |some (.slice elem)=>bif (P.underlying elem).isSome then
   match x with
   | .slice a len _=>∃A,a=some A/\(0<=n/\n<(len:Int))/\K (.pointer (some (A.add (n.toNat*P.cellsOf elem))))
   |_=>False
   else False
  |some (.array len elem)=>bif (P.underlying elem).isSome then
   match x with
   | .pointer (some A)=>(0<=n/\n<(len:Int))/\K (.pointer (some (A.add (n.toNat*P.cellsOf elem))))
   |_=>False
   else False
  |_=>False
 |_=>False
def q0(P:Program)(tk:TypeId->dS)(T:TypeId)(cs:Array aa)(off:Nat)(K:aa->Prop):Prop:=
 match P.underlying T with
 |none=>False
 |some d=>
  bif ly d then K (.agg (cs.extract off (off+P.cellsOf T)))
  else match tk T with
   | .one (.one l)=>nM l λv=>cs[off]? =some v/\K v
   |_=>False
def sV(P:Program)(tk:TypeId->dS)(T:TypeId)(x i:aa)(K:aa->Prop):Prop:=
 match i with
 | .int _ n=>
  match P.underlying T with
  |some (.array len elem)=>match x with
   | .agg cs=>(0<=n/\n<(len:Int))/\q0 P tk elem cs (n.toNat*P.cellsOf elem) K
   |_=>False
  |some .string=>match x with
   | .string s=>0<=n/\∃b:UInt8,s.data.toList[n.toNat]? =some b/\K (.int .u8 b.toNat)
   |_=>False
  |_=>False
 |_=>False
def sW(P:Program)(tk:TypeId->dS)(T:TypeId)(x:aa)(i:Nat)(K:aa->Prop):Prop:=
 match P.underlying T with
 |some (.struct fs)=>match fs[i]? with
  |some f=>match x with
   | .agg cs=>q0 P tk f.type cs f.offset K
   |_=>False
  |none=>False
 |_=>False
def kW(v:aq aa)(y d:Nat)(K:Nat->Prop):Prop:=
 match v with
 |none=>K d
 |some (.int _ i)=>(0<=i/\i<=(y:Int))/\K i.toNat
 |_=>False
def aO(a:aq ae)(sz l m:Nat):aq ae:=if m=l then a else a.map (·.add (l*sz))
def sX(P:Program)(T:TypeId)(x:aa)(lo hi b:aq aa)(K:aa->Prop):Prop:=
 match P.underlying T with
 |some .string=>match b,x with
  |none,.string s=>kW hi s.size s.size λh=>kW lo h 0 λl=>K (.string (s.extract l h))
  |_,_=>False
 |some (.slice elem)=>bif (P.underlying elem).isSome then
  match x with
  | .slice a len cap=>match b with
   |none=>kW hi cap len λh=>kW lo h 0 λl=>K (.slice (aO a (P.cellsOf elem) l cap) (h-l) (cap-l))
   |some c=>match hi with
    |none=>False
    |some d=>kW (some c) cap 0 λm=>kW (some d) m 0 λh=>kW lo h 0 λl=>K (.slice (aO a (P.cellsOf elem) l m) (h-l) (m-l))
  |_=>False
  else False
 |some (.array n elem)=>bif (P.underlying elem).isSome then
  match b,x with
  |none,.pointer (some A)=>kW hi n n λh=>kW lo h 0 λl=>K (.slice (aO (some A) (P.cellsOf elem) l n) (h-l) (n-l))
  |_,_=>False
  else False
 |_=>False
def wK(P:Program)(T:TypeId)(l c:aa)(w:J)(K:aa->J->Prop):Prop:=
 match P.underlying T with
 |some (.slice elem)=>bif (P.underlying elem).isSome then
  bif ((P.info? elem).bind (·.zero)).isSome then
  match l,c with
  | .int _ n,.int _ m=>(0<=n/\n<=m/\m<=9223372036854775807/\(P.bytesOf elem:Int)*m<=140737488355328)/\
   K (.slice (some ⟨w.heap.size,0,none⟩) n.toNat m.toNat) {w with heap:=w.heap.push (.cells (g5 P elem m.toNat) elem)}
  |_,_=>False
  else False
  else False
 |_=>False
section
variable {P:Program}{w:J}
theorem j0(o:aq TypeDesc)(h:o.isSome=true):∃d,o=some d:=mH.1 h
theorem zu{T:TypeId}{x:aa}{K:aa->Prop}(h:sT P T x K):∃v,(∀w,(Instr.arrayAt T x).run P w=.ok v w)/\K v:=by
 unfold sT at h;split at h
 .rename_i n e b
  split at h
  .rename_i a len cap
   obtain⟨h1,A,rfl,c⟩:=h;exact⟨_,λw=>by simp[Instr.arrayAt,dm b,Nat.not_lt.2 h1],c⟩
  .exact h.elim
 .exact h.elim
theorem zv{T:TypeId}{x i:aa}{K:aa->Prop}(h:sU P T x i K):∃v,(∀w,(Instr.indexAt T x i).run P w=.ok v w)/\K v:=by
 unfold sU at h;split at h
 .rename_i k n
  split at h
  .rename_i elem a
   by_cases he:(P.underlying elem).isSome=true
   .rw[he]at h
    simp only[cond_true]at h;split at h
    .obtain⟨A,rfl,b,c⟩:=h
     obtain⟨d,hd⟩:=j0 _ he;exact⟨_,λw=>by simp[Instr.indexAt,asIntOf,dm a,b,iC hd],c⟩
    .exact h.elim
   .simp only[fN]at he;rw[he]at h;exact h.elim
  .rename_i len elem a
   by_cases he:(P.underlying elem).isSome=true
   .rw[he]at h
    simp only[cond_true]at h;split at h
    .obtain⟨b,c⟩:=h
     obtain⟨d,hd⟩:=j0 _ he;exact⟨_,λw=>by simp[Instr.indexAt,asIntOf,Instr.sureAddr,dm a,b,iC hd],c⟩
    .exact h.elim
   .simp only[fN]at he;rw[he]at h;exact h.elim
  .exact h.elim
 .exact h.elim
theorem zw{tk:TypeId->dS}{T:TypeId}{cs:Array aa}{off:Nat}{K:aa->Prop}(h:q0 P tk T cs off K):∃v,(∀w,(part T cs off).run P w=.ok v w)/\K v:=by
 unfold q0 at h;split at h
 .exact h.elim
 .rename_i d a
  cases hd:ly d with
  |true=>
   rw[hd]at h;exact⟨_,λw=>by simp[part,sO a,hd,iC a],h⟩
  |false=>
   rw[hd]at h;simp only[cond_false]at h;split at h
   .obtain⟨v,b,c⟩:=pg h
    exact⟨v,λw=>by simp[part,sO a,hd,b],c⟩
   .exact h.elim
theorem zx{tk:TypeId->dS}{T:TypeId}{x i:aa}{K:aa->Prop}(h:sV P tk T x i K):∃v,(∀w,(Instr.index T x i).run P w=.ok v w)/\K v:=by
 unfold sV at h;split at h
 .rename_i k n
  split at h
  .rename_i len elem a
   split at h
   .obtain⟨c,h⟩:=h
    obtain⟨v,f,e⟩:=zw h;refine⟨v,λw=>?_,e⟩;have hs:(Go.sizeOf elem).run P w=.ok (P.cellsOf elem) w:=by
     unfold q0 at h
     cases he:P.underlying elem with
     |none=>simp[he]at h
     |some d=>exact iC he
    simp[Instr.index,asIntOf,dm a,c,hs,f]
   .exact h.elim
  .rename_i a
   split at h
   .rename_i s
    obtain⟨c,b,hs,e⟩:=h;have g:s[n.toNat]? =some b:=by
     obtain⟨h1,j⟩:=ib.1 hs;have l:n.toNat<s.size:=by simpa using h1
     rw[getElem?_pos s n.toNat l];simp only[Option.some.injEq];rw[←j];rfl
    exact⟨_,λw=>by simp[Instr.index,asIntOf,dm a,c,g],e⟩
   .exact h.elim
  .exact h.elim
 .exact h.elim
theorem zy{tk:TypeId->dS}{T:TypeId}{x:aa}{i:Nat}{K:aa->Prop}(h:sW P tk T x i K):∃v,(∀w,(Instr.field T x i).run P w=.ok v w)/\K v:=by
 unfold sW at h;split at h
 .rename_i fs a
  split at h
  .rename_i f hf
   split at h
   .obtain⟨v,b,c⟩:=zw h
    exact⟨v,λw=>by simp[Instr.field,dm a,hf,asAgg,b],c⟩
   .exact h.elim
  .exact h.elim
 .exact h.elim
theorem kp{v:aq aa}{y d:Nat}{c:BoundsCode}{K:Nat->Prop}(h:kW v y d K):
 (v=none/\K d)\/∃u n,v=some u/\(∀w,(Instr.sliceBound u y c).run P w=.ok n w)/\K n:=by
 unfold kW at h;split at h
 .exact .inl ⟨rfl,h⟩
 .exact .inr ⟨_,_,rfl,λw=>by simp[Instr.sliceBound,asIntOf,h.1],h.2⟩
 .exact h.elim
theorem zz{T:TypeId}{x:aa}{lo hi p:aq aa}{K:aa->Prop}(h:sX P T x lo hi p K):
 ∃v,(∀w,(Instr.sliceAt T x lo hi p).run P w=.ok v w)/\K v:=by
 unfold sX at h;split at h
 .rename_i g
  split at h
  .rename_i s
   rcases kp (P:=P) (c:=.sliceAlen) h with ⟨f,h1⟩|⟨u,n,f,j,h1⟩
   .rcases kp (P:=P) (c:=.sliceB) h1 with ⟨b,e⟩|⟨m,bp,b,i,e⟩
    .exact⟨_,λw=>by simp[Instr.sliceAt,Instr.slice,dm g,Instr.sliceBounds,f,b],e⟩
    .exact⟨_,λw=>by simp[Instr.sliceAt,Instr.slice,dm g,Instr.sliceBounds,f,b,i],e⟩
   .rcases kp (P:=P) (c:=.sliceB) h1 with ⟨b,e⟩|⟨m,bp,b,i,e⟩
    .exact⟨_,λw=>by simp[Instr.sliceAt,Instr.slice,dm g,Instr.sliceBounds,f,b,j],e⟩
    .exact⟨_,λw=>by simp[Instr.sliceAt,Instr.slice,dm g,Instr.sliceBounds,f,b,j,i],e⟩
  .exact h.elim
 .rename_i elem g
  by_cases he:(P.underlying elem).isSome=true
  .rw[he]at h
   simp only[cond_true]at h;obtain⟨d,hd⟩:=j0 _ he;have k:=λw:J=>iC (w:=w) hd;split at h
   .rename_i a len cap
    split at h
    .rcases kp (P:=P) (c:=.sliceAcap) h with ⟨f,h1⟩|⟨u,n,f,j,h1⟩
     .rcases kp (P:=P) (c:=.sliceB) h1 with ⟨b,e⟩|⟨m,bp,b,i,e⟩
      .exact⟨_,λw=>by simp[Instr.sliceAt,Instr.slice,dm g,Instr.sliceBounds,k,aO,f,b],e⟩
      .exact⟨_,λw=>by simp[Instr.sliceAt,Instr.slice,dm g,Instr.sliceBounds,i,k,aO,f,b],e⟩
     .rcases kp (P:=P) (c:=.sliceB) h1 with ⟨b,e⟩|⟨m,bp,b,i,e⟩
      .exact⟨_,λw=>by simp[Instr.sliceAt,Instr.slice,dm g,Instr.sliceBounds,j,k,aO,f,b],e⟩
      .exact⟨_,λw=>by simp[Instr.sliceAt,Instr.slice,dm g,Instr.sliceBounds,j,i,k,aO,f,b],e⟩
    .split at h
     .exact h.elim
     .rcases kp (P:=P) (c:=.slice3Acap) h with ⟨l,h1⟩|⟨u,n,l,j,h1⟩
      .cases l
      .cases l
       rcases kp (P:=P) (c:=.slice3B) h1 with ⟨l,e⟩|⟨r,bS,l,q,e⟩
       .cases l
       .cases l
        rcases kp (P:=P) (c:=.slice3C) e with ⟨b,o⟩|⟨m,bp,b,i,o⟩
        .exact⟨_,λw=>by simp[Instr.sliceAt,Instr.slice,dm g,Instr.sliceBounds,j,q,k,aO,b],o⟩
        .exact⟨_,λw=>by simp[Instr.sliceAt,Instr.slice,dm g,Instr.sliceBounds,j,q,i,k,aO,b],o⟩
   .exact h.elim
  .simp only[fN]at he;rw[he]at h;exact h.elim
 .rename_i n elem g
  by_cases he:(P.underlying elem).isSome=true
  .rw[he]at h
   simp only[cond_true]at h;obtain⟨d,hd⟩:=j0 _ he;have k:=λw:J=>iC (w:=w) hd;split at h
   .rename_i A
    rcases kp (P:=P) (c:=.sliceAlen) h with ⟨f,h1⟩|⟨u,bS,f,j,h1⟩
    .rcases kp (P:=P) (c:=.sliceB) h1 with ⟨b,e⟩|⟨m,bp,b,i,e⟩
     .refine⟨_,λw=>?_,e⟩
      simp[Instr.sliceAt,dm g,Instr.sureAddr,Instr.sliceBounds,k,aO,f,b];try (split<;>rfl)
     .refine⟨_,λw=>?_,e⟩
      simp[Instr.sliceAt,dm g,Instr.sureAddr,Instr.sliceBounds,i,k,aO,f,b];try (split<;>rfl)
    .rcases kp (P:=P) (c:=.sliceB) h1 with ⟨b,e⟩|⟨m,bp,b,i,e⟩
     .refine⟨_,λw=>?_,e⟩
      simp[Instr.sliceAt,dm g,Instr.sureAddr,Instr.sliceBounds,j,k,aO,f,b];try (split<;>rfl)
     .refine⟨_,λw=>?_,e⟩
      simp[Instr.sliceAt,dm g,Instr.sureAddr,Instr.sliceBounds,j,i,k,aO,f,b];try (split<;>rfl)
   .exact h.elim
  .simp only[fN]at he;rw[he]at h;exact h.elim
 .exact h.elim
theorem wL{n:Int}(h0:0<=n)(h1:n<=9223372036854775807):IntKind.i64.wrap n=n:=by
 have e:n%18446744073709551616=n:=Int.emod_eq_of_lt h0 I;simp[IntKind.wrap,IntKind.signed,IntKind.bits,e];omega
theorem DA{T:TypeId}{l c:aa}{K:aa->J->Prop}(h:wK P T l c w K):
 ∃v w',(Instr.makeSlice T l c).run P w=.ok v w'/\K v w':=by
 unfold wK at h;split at h
 .rename_i elem e
  by_cases he:(P.underlying elem).isSome=true
  .rw[he]at h
   simp only[cond_true]at h;by_cases a:((P.info? elem).bind (·.zero)).isSome=true
   .rw[a]at h
    simp only[cond_true]at h;split at h
    .rename_i k n t m
     obtain⟨⟨h0,h1,f,g⟩,j⟩:=h;obtain⟨d,hd⟩:=j0 _ he;obtain⟨i,hi⟩:=info_of_underlying hd;obtain⟨z,b⟩:=mH.1 a;simp only[hi,Option.bind_some]at b;have o:P.bytesOf elem=i.bytes:=by simp[Program.bytesOf,hi]
     have hc:P.cellsOf elem=i.size:=by simp[Program.cellsOf,hi]
     rw[o]at g;have p:=wL h0 I;have q:=wL (n:=m) I f;refine⟨_,_,?_,j⟩;have r:¬(m<0):=by omega
     have s:¬(281474976710656<(i.bytes:Int)*m):=by omega
     simp[Instr.makeSlice,dm e,asInt,asIntOf,mR hi,p,q,r,s,iC hd,show¬n<0 from I,show¬m<n from I];by_cases hs:m.toNat*P.cellsOf elem=0
     .simp[hs,newRow,newObj,Sem.run,g5]
     .simp[zeroValue,mR hi,b,newRow,newObj,Sem.run,g5,hs,hi]
    .exact h.elim
   .simp only[fN]at a;rw[a]at h;exact h.elim
  .simp only[fN]at he;rw[he]at h;exact h.elim
 .exact h.elim
end
def al(w:J)(K:J->Prop):Prop:=K w
def wM(s:ByteArray)(n:Nat):aq UInt8:=s.data.toList[n]?
def cellAt(cs:Array aa)(n:Nat):aq aa:=cs[n]?
def j1(k:IntKind)(a b:Int):Int:=k.wrap ((BitVec.ofInt k.bits a&&&BitVec.ofInt k.bits b).toNat:Int)
def mT(k:IntKind)(a b:Int):Int:=k.wrap ((BitVec.ofInt k.bits a|||BitVec.ofInt k.bits b).toNat:Int)
def kq(k:IntKind)(a b:Int):Int:=k.wrap ((BitVec.ofInt k.bits a^^^BitVec.ofInt k.bits b).toNat:Int)
def zA(k:IntKind)(a b:Int):Int:=k.wrap ((BitVec.ofInt k.bits a&&&~~~BitVec.ofInt k.bits b).toNat:Int)
def q1(P:Program)(o:Oper)(K:aa->J->Prop)(e:Env)(w:J):Prop:=
 bif known e o.op.operands then
  match (execOp (ro e) o).run P w with
  | .ok (.value v) w'=>al w' λw1=>K v w1
  |_=>False
 else False
def zB(P:Program)(tk:TypeId->dS)(T:TypeId):dS:=
 match P.underlying T with
 |some (.slice e)=>tk e
 |_=>.one (.one .agg)
def e0.DB:e0->aj
 | .slice=>true
 |_=>false
def zC:dS->aj
 | .one (.one .agg)=>true
 | .one (.flat ls)=>ls.any e0.DB
 |_=>false
def gen(P:Program)(tk:TypeId->dS)(o:Oper)(K:aa->J->Prop)(e:Env)(w:J):Prop:=
 bif known e o.op.operands then
  match (execOp (ro e) o).run P w with
  | .ok (.value v) w'=>K v w'
  | .ok .skip w'=>K undef w'
  | .ok (.enter f args) w'=>Calls P f args w' λa b=>ih (tk o.type) λv=>a=.returned v/\K v b
  |_=>False
 else False
def iD(P:Program)(f:FuncId):Prop:=∃fn,P.funcs[f]? =some fn/\(fn.name== "runtime.NumGoroutine")=false/\fn.body.isNone=false
theorem zD{P:Program}{f:FuncId}(h:iD P f)(args:Array aa)(w:J):(callFunc f args).run P w=.ok (.enter f args) w:=by
 obtain⟨fn,h1,b,a⟩:=h;have c:¬fn.name= "runtime.NumGoroutine" :=by simpa using b
 have d:¬fn.body=none:=by
  intro h;rw[h]at a;cases a
 simp[callFunc,program,Sem.run,bind,Sem.bind,h1,c,d,pure]
def wN:Op->aj
 | .select _ _=>true
 |_=>false
def zE(P:Program)(T:TypeId):Operand->aj
 | .const _=>false
 |_=>nP (P.underlying T)||l3 (P.underlying T)
def DC(P:Program)(op:BinOp)(T:TypeId)(qZ po:Operand)(x y:aa)(b:aj):Prop:=
 ∀w,Sem.run P (do eqGuard op T qZ po x y;binOp op T x y:Sem aa) w=.ok (.bool b) w
def pq:Operand->aa->aj
 | .const _,_=>true
 |_,.nilIface=>false
 |_,_=>true
def jF(P:Program)(tk:TypeId->dS)(o:Oper)(K:aa->J->Prop)(e:Env)(w:J):Prop:=
 match o.op with
 | .nilCheck x=>match ev e x with
  |some (.pointer p)=>∃A,p=some A/\K (.pointer (some A)) w
  |_=>False
 | .load T x=>match ev e x with
  |some (.pointer (some A))=>pj P tk T A w λv=>K v w
  |_=>False
 | .store T x y=>match ev e x,ev e y with
  |some (.pointer (some A)),some v=>wJ P tk T A v w λw'=>al w' λw1=>K undef w1
  |_,_=>False
 | .binOp op T x y _=>match ev e x,ev e y with
  |some a,some q=>bif zE P T y then (∃b:aj,DC P op T x y a q b/\K (.bool b) w) else
   bif pq y q then sQ P op T a q (λv=>K v w) (gen P tk o K e w) else False
  |_,_=>False
 | .indexAddr T x i=>match ev e x,ev e i with
  |some a,some g=>sU P T a g λv=>K v w
  |_,_=>False
 | .index T x i=>match ev e x,ev e i with
  |some a,some g=>sV P tk T a g λv=>K v w
  |_,_=>False
 | .field T x i=>match ev e x with
  |some a=>sW P tk T a i λv=>K v w
  |_=>False
 | .alloc _=>q1 P o K e w
 | .box _ _=>q1 P o K e w
 | .buildSlice T n ps=>bif zC (zB P tk T) then
  (bif known e o.op.operands then
    ih (tk o.type) λr=>∃w1,(Instr.buildSlice T n (ps.map λp=>(p.1,ro e p.2))).run P w=.ok r w1/\K r w1
  else False)
  else q1 P o K e w
 | .slice T x lo hi u=>bif known e o.op.operands then
  sX P T (ro e x) (lo.map (ro e)) (hi.map (ro e)) (u.map (ro e)) λv=>K v w
  else False
 | .makeSlice T l c=>match ev e l,ev e c with
  |some z,some mU=>wK P T z mU w λv w'=>al w' λw1=>K v w1
  |_,_=>False
 | .convert s d x=>match ev e x with
  |some (.int j n)=>bif (P.underlying s).isSome then
   match P.underlying d with
   |some (.int k)=>K (.int k (k.wrap n)) w
   |_=>ih (tk o.type) λr=>∃w1,(convert s d (.int j n)).run P w=.ok r w1/\K r w1
   else False
  |some v=>ih (tk o.type) λr=>∃w1,(convert s d v).run P w=.ok r w1/\K r w1
  |none=>False
 | .build t ps=>match tk t with
  | .one (.flat _)=>gen P tk o K e w
  |_=>bif known e o.op.operands then
   ∃cs:Array aa,(Instr.build t (ps.map λp=>(p.1,ro e p.2))).run P w=.ok (.agg cs) w/\K (.agg cs) w
   else False
 | .lookup T m i ok=>match ev e m,ev e i with
  |some jo,some g=>ih (tk o.type) λr=>∃w1,(Instr.lookup T jo g ok).run P w=.ok r w1/\K r w1
  |_,_=>False
 | .mapUpdate T m i x=>match ev e m,ev e i,ev e x with
  |some jo,some g,some a=>∃w1,(Instr.mapUpdate T jo g a).run P w=.ok () w1/\K undef w1
  |_,_,_=>False
 | .makeMap T r=>bif known e o.op.operands then ih (tk o.type) λv=>∃w1,(Instr.makeMap T (r.map (ro e))).run P w=.ok v w1/\K v w1 else False
 | .range T x=>match ev e x with
  |some a=>∃v w1,(Instr.range T a).run P w=.ok v w1/\K v w1
  |_=>False
 | .next it h=>match ev e it with
  |some a=>(bif h then ∃ (n:Int) (c:Int) (w1:J),(Instr.next a h o.type).run P w=.ok (.tuple #[.bool true,.int .i64 n,.int .i32 c]) w1/\K (.tuple #[.bool true,.int .i64 n,.int .i32 c]) w1
   else ∃ (k:aa) (v:aa) (w1:J),(Instr.next a h o.type).run P w=.ok (.tuple #[.bool true,k,v]) w1/\K (.tuple #[.bool true,k,v]) w1)\/
   (∃w1:J,(Instr.next a h o.type).run P w=.ok (.tuple #[.bool false]) w1/\K (.tuple #[.bool false]) w1)
  |_=>False
 | .call c=>match c.callee with
  | .value (.tmp k)=>match e.get k with
   |some (.func (.func f) pre cap)=>bif known e o.op.operands then
    iD P f/\Calls P f (pre++c.args.map (ro e)++cap) w λB w1=>ih (tk o.type) λv=>B=.returned v/\K v w1
    else False
   |_=>gen P tk o K e w
  | .builtin .append=>bif known e o.op.operands then ih (tk o.type) λr=>∃w1,(Builtin.append_ c.argTypes o.type (c.args.map (ro e))).run P w=.ok r w1/\K r w1 else False
  | .builtin .copy=>bif known e o.op.operands then ih (tk o.type) λr=>∃w1,(Builtin.copy_ c.argTypes o.type (c.args.map (ro e))).run P w=.ok r w1/\K r w1 else False
  | .builtin .min=>bif known e o.op.operands then ih (tk o.type) λr=>∃w1,(Builtin.min_ c.argTypes o.type (c.args.map (ro e))).run P w=.ok r w1/\K r w1 else False
  | .builtin .max=>bif known e o.op.operands then ih (tk o.type) λr=>∃w1,(Builtin.max_ c.argTypes o.type (c.args.map (ro e))).run P w=.ok r w1/\K r w1 else False
  | .builtin .delete=>bif known e o.op.operands then ∃r w1,(Builtin.delete_ c.argTypes o.type (c.args.map (ro e))).run P w=.ok r w1/\K r w1 else False
  | .value (.func f)=>match P.funcs[f]? with
   |some fn=>match fn.body with
    |some _=>gen P tk o K e w
    |none=>bif known e o.op.operands then ih (tk o.type) λr=>∃w1,(callFunc f (c.args.map (ro e))).run P w=.ok (.value r) w1/\K r w1 else False
   |none=>False
  | .builtin .unsafeString=>bif known e o.op.operands then ih (tk o.type) λr=>∃w1,(Builtin.unsafeString_ c.argTypes o.type (c.args.map (ro e))).run P w=.ok r w1/\K r w1 else False
  | .builtin .unsafeSliceData=>bif known e o.op.operands then ih (tk o.type) λr=>∃w1,(Builtin.unsafeSliceData_ c.argTypes o.type (c.args.map (ro e))).run P w=.ok r w1/\K r w1 else False
  | .builtin .clear=>bif known e o.op.operands then ∃r w1,(Builtin.clear_ c.argTypes o.type (c.args.map (ro e))).run P w=.ok r w1/\K r w1 else False
  | .builtin .len=>match ((c.args.map (ro e))[0]? :aq aa) with
   |some (Value.map _)=>bif known e o.op.operands then ih (tk o.type) λr=>∃w1,(Builtin.len_ c.argTypes o.type (c.args.map (ro e))).run P w=.ok r w1/\K r w1 else False
   |_=>gen P tk o K e w
  |_=>gen P tk o K e w
 | .sliceToArrayPointer T x=>match ev e x with
  |some a=>sT P T a λv=>K v w
  |_=>False
 | .mapEntry T m i=>match ev e m,ev e i with
  |some jo,some g=>∃ (v0:aa) (st:Int) (w1:J),(Instr.mapEntry T jo g).run P w=.ok (.tuple #[v0,.int .i64 st]) w1/\K (.tuple #[v0,.int .i64 st]) w1
  |_,_=>False
 | .entryStore T m s x=>match ev e m,ev e s,ev e x with
  |some jo,some vs,some a=>∃w1,(Instr.entryStore T jo vs a).run P w=.ok () w1/\K undef w1
  |_,_,_=>False
 | .entry it=>match ev e it with
  |some a=>ih (tk o.type) λv=>∃w1,(Instr.entry a).run P w=.ok v w1/\K v w1
  |_=>False
 | .select _ _=>False
 |_=>gen P tk o K e w
def l4(P:Program)(o:Oper)(a:Act)(w:J)(K:aa->J->Prop):Prop:=
 (∃v w',(execOp a.eval o).run P w=.ok (.value v) w'/\K v w')\/
 (∃w',(execOp a.eval o).run P w=.ok .skip w'/\K undef w')\/
 (∃f args w',(execOp a.eval o).run P w=.ok (.enter f args) w'/\Calls P f args w' λb c=>∃v,b=.returned v/\K v c)
theorem l4.wp{P:Program}{o:Oper}{a:Act}{w:J}{K:aa->J->Prop}{next:Act->J->Prop}{Q:Exit->Act->J->Prop}
 (h:l4 P o a w K) (c:∀v w',K v w'->next (a.put o.dst v) w'):o.wp P a w next Q:=by
 unfold Oper.wp;rcases h with ⟨v,w',h,b⟩|⟨w',h,b⟩|⟨f,args,w',h,hc⟩
 .rw[h];exact c _ _ b
 .rw[h];exact c _ _ b
 .rw[h]
  exact hc.mono λe g ⟨v,d,b⟩=>by subst d;exact c _ _ b
section
variable {P:Program}{tk:TypeId->dS}{o:Oper}{K:aa->J->Prop}{e:Env}{a:Act}{w:J}
theorem DD(ar:dy e a){xs:Array Operand}(h:known e xs=true):∀x∈xs,a.eval x=ro e x:=by
 intro x hx;exact ar.ro (lk.1 h x (by simpa using hx))
theorem kr(ar:dy e a)(hs:wN o.op=false)(h:known e o.op.operands=true):execOp a.eval o=execOp (ro e) o:=
 execOp_congr o (λcs b hc=>by rw[hc]at hs;cases hs) (DD ar h)
theorem nQ(ar:dy e a)(hs:wN o.op=false)(h:gen P tk o K e w):l4 P o a w K:=by
 unfold gen at h;by_cases c:known e o.op.operands=true
 .rw[c]at h
  simp only[cond_true]at h;have hc:=kr ar hs c;unfold l4;rw[hc];split at h
  .rename_i v w' b
   exact .inl ⟨v,w',b,h⟩
  .rename_i w' b
   exact .inr (.inl ⟨w',b,h⟩)
  .rename_i f args w' b
   refine .inr (.inr ⟨f,args,w',b,h.mono λg i d=>?_⟩);exact iB d
  .exact h.elim
 .simp only[fN]at c
  rw[c]at h;exact h.elim
theorem wO(ar:dy e a)(hs:wN o.op=false)(h:q1 P o K e w):l4 P o a w K:=by
 unfold q1 at h;by_cases b:known e o.op.operands=true
 .rw[b]at h
  simp only[cond_true]at h;have hc:=kr ar hs b;unfold l4;rw[hc];split at h
  .rename_i v w' c
   exact .inl ⟨v,w',c,h⟩
  .exact h.elim
 .simp only[fN]at b
  rw[b]at h;exact h.elim
theorem wP:∀ {ls:O e0}{A:ae}{i:Nat}{K:O aa->Prop},wI ls A i w K->∃vs,cL w A i ls.length=some vs/\K vs
 | [],_,_,_,h=>⟨[],rfl,h⟩
 |l::ls,A,i,K,h=>by
  obtain⟨v,a,h⟩:=pg h
  obtain⟨vs,b,h⟩:=wP h
  exact⟨v::vs,by simp[cL,a,b],h⟩
theorem zF{T:TypeId}{A:ae}{K:aa->Prop}(h:pj P tk T A w K):∃v,(Instr.loadAt T (.pointer (some A))).run P w=.ok v w/\K v:=by
 have e:(Instr.loadAt T (.pointer (some A))).run P w=(loadVar T A).run P w:=by simp[Instr.loadAt,Instr.sureAddr]
 rw[e];unfold pj at h;split at h
 .exact h.elim
 .rename_i d b
  cases hd:ly d with
  |true=>
   rw[hd]at h;simp only[cond_true]at h;split at h
   .rename_i ls _
    by_cases a:Nat.beq (P.cellsOf T) ls.length=true
    .rw[a]at h
     simp only[cond_true]at h;obtain⟨vs,c,h⟩:=wP h;rw[←ix a]at c;exact⟨_,sP b hd c,h⟩
    .simp only[fN]at a;rw[a]at h;exact h.elim
   .obtain⟨cs,hc,h⟩:=h
    exact⟨_,sP b hd hc,h⟩
  |false=>
   rw[hd]at h;simp only[cond_false]at h;split at h
   .obtain⟨v,f,h⟩:=pg h
    exact⟨v,zl b hd f,h⟩
   .exact h.elim
theorem wQ{v:aa}(h:Plain v):v.cells= #[v]:=by cases v<;>first|rfl|exact h.elim
theorem add_zero'(A:ae):A.add 0=A:=rfl
theorem DE{T:TypeId}{A:ae}{x:aa}{K:J->Prop}(h:wJ P tk T A x w K):
 ∃w',(Instr.storeAt T (.pointer (some A)) x).run P w=.ok () w'/\K w':=by
 have f:(Instr.storeAt T (.pointer (some A)) x).run P w=(storeVar T A x).run P w:=by simp[Instr.storeAt,Instr.sureAddr]
 rw[f];unfold wJ at h;split at h
 .exact h.elim
 .rename_i d c
  cases hd:ly d with
  |true=>
   rw[hd]at h;simp only[cond_true]at h;split at h
   .rename_i cs
    exact⟨_,zm (v:=.agg cs) c h.2.1 h.1,h.2.2⟩
   .exact h.elim
  |false=>
   rw[hd]at h;simp only[cond_false]at h;have one:∀ (b:Plain x) (a:Nat.beq (P.cellsOf T) 1=true),((∃u,w.cell? A=some u)/\w.frozen? A=false/\K (w.setCell A x))->∃w',(storeVar T A x).run P w=.ok () w'/\K w':=by
    intro b a ⟨⟨u,hu⟩,hf,g⟩;refine⟨_,zm (v:=x) c ?_ ?_,?_⟩
    .rw[wQ b,ix a];rfl
    .rw[wQ b]
     refine⟨λi hi=>?_,λv j=>?_⟩
     .have:i=0:=by simpa using hi
      subst this;rw[add_zero',hu];exact⟨rfl,hf⟩
     .have:v=x:=by simpa using j
      subst this;exact b
    .rw[wQ b]
     exact g
   by_cases a:Nat.beq (P.cellsOf T) 1=true
   .have e:=a
    rw[a]at h;simp only[cond_true]at h;split at h
    .exact one h.1 e h.2
    .split at h
     .exact h.elim
     .exact h.elim
     .rename_i h1 k
      refine one ?_ e h
      cases x<;>first|exact trivial|(exact absurd rfl (h1 _))|(exact absurd rfl (k _))
   .simp only[fN]at a;rw[a]at h;exact h.elim
theorem sY(ar:dy e a)(h:jF P tk o K e w):l4 P o a w K:=by
 unfold jF at h;split at h
 case h_1 x j=>
  split at h
  .rename_i p hx
   obtain⟨A,rfl,g⟩:=h;exact .inl ⟨_,_,by simp[execOp,j,ar.ev hx],g⟩
  .exact h.elim
 case h_2 T x j=>
  split at h
  .rename_i A hx
   obtain⟨v,B,g⟩:=zF h;exact .inl ⟨v,w,by simp[execOp,j,ar.ev hx,B],g⟩
  .exact h.elim
 case h_3 T x y j=>
  split at h
  .rename_i A v hx H
   obtain⟨w',S,g⟩:=DE h;exact .inr (.inl ⟨w',by simp[execOp,j,ar.ev hx,ar.ev H,S],g⟩)
  .exact h.elim
 case h_4 op T x y ab j=>
  split at h
  .rename_i D Q hx H
   by_cases N:zE P T y=true
   .rw[N]at h
    simp only[cond_true]at h;obtain⟨b,z,g⟩:=h;exact .inl ⟨_,w,by
     simp only[execOp,j,ar.ev hx,ar.ev H];have G:=z w;simp only[Sem.run_bind]at G⊢;rw[G];rfl,g⟩
   simp only[fN]at N;rw[N]at h;simp only[cond_false]at h;by_cases I:pq y Q=true
   .rw[I]at h
    simp only[cond_true]at h;have U:Q=.nilIface->∃c,y=.const c:=by
     intro B;subst B
     cases y<;>simp[pq]at I⊢
    rcases zt (qZ:=x) (po:=y) U h with hg|⟨v,B,g⟩
    .exact nQ ar (by rw[j];rfl) hg
    .exact .inl ⟨v,w,by
      simp only[execOp,j,ar.ev hx,ar.ev H];have G:=B w;simp only[Sem.run_bind]at G⊢;rw[G];rfl,g⟩
   .simp only[fN]at I;rw[I]at h;exact h.elim
  .exact h.elim
 case h_5 T x i j=>
  split at h
  .rename_i D L hx hi
   obtain⟨v,B,g⟩:=zv h;exact .inl ⟨v,w,by simp[execOp,j,ar.ev hx,ar.ev hi,B],g⟩
  .exact h.elim
 case h_6 T x i j=>
  split at h
  .rename_i D L hx hi
   obtain⟨v,B,g⟩:=zx h;exact .inl ⟨v,w,by simp[execOp,j,ar.ev hx,ar.ev hi,B],g⟩
  .exact h.elim
 case h_7 T x i j=>
  split at h
  .rename_i D hx
   obtain⟨v,B,g⟩:=zy h;exact .inl ⟨v,w,by simp[execOp,j,ar.ev hx,B],g⟩
  .exact h.elim
 case h_8 T j=>exact wO ar (by rw[j];rfl) h
 case h_9 T x j=>exact wO ar (by rw[j];rfl) h
 case h_10 T n ps j=>
  cases R:zC (zB P tk T) with
  |true=>
   rw[R]at h;simp only[cond_true]at h;by_cases u:known e o.op.operands=true
   .rw[u]at h
    simp only[cond_true]at h;have hc:=kr ar (by rw[j];rfl) u;obtain⟨r,w1,q,g⟩:=iB h;exact .inl ⟨r,w1,by rw[hc];simp[execOp,j];rw[q];rfl,g⟩
   .simp only[fN]at u;rw[u]at h;exact h.elim
  |false=>
   rw[R]at h;exact wO ar (by rw[j];rfl) h
 case h_11 T x lo hi ac j=>
  by_cases u:known e o.op.operands=true
  .rw[u]at h
   simp only[cond_true]at h;have hc:=kr ar (by rw[j];rfl) u;obtain⟨v,B,g⟩:=zz h;exact .inl ⟨v,w,by rw[hc];simp[execOp,j,B],g⟩
  .simp only[fN]at u;rw[u]at h;exact h.elim
 case h_12 T l c j=>
  split at h
  .rename_i ad mU V hc
   obtain⟨v,w',B,g⟩:=DA h;exact .inl ⟨v,w',by simp[execOp,j,ar.ev V,ar.ev hc,B],g⟩
  .exact h.elim
 case h_13 s d x j=>
  split at h
  .rename_i k n hx
   by_cases hs:(P.underlying s).isSome=true
   .rw[hs]at h
    simp only[cond_true]at h;obtain⟨ds,W⟩:=j0 _ hs;split at h
    .rename_i ae hd
     exact .inl ⟨_,_,by simp[execOp,j,ar.ev hx,convert,dm W,dm hd,Conv.intToInt],h⟩
    .obtain⟨r,w1,q,g⟩:=iB h
     exact .inl ⟨r,w1,by simp[execOp,j,ar.ev hx,q],g⟩
   .simp only[fN]at hs;rw[hs]at h;exact h.elim
  .rename_i v _ hx
   obtain⟨r,w1,q,g⟩:=iB h;exact .inl ⟨r,w1,by simp[execOp,j,ar.ev hx,q],g⟩
  .exact h.elim
 case h_14 t ps j=>
  split at h
  .exact nQ ar (by rw[j];rfl) h
  .by_cases u:known e o.op.operands=true
   .rw[u]at h
    simp only[cond_true]at h;have hc:=kr ar (by rw[j];rfl) u;obtain⟨cs,q,g⟩:=h;exact .inl ⟨_,_,by rw[hc];simp[execOp,j];rw[q];rfl,g⟩
   .simp only[fN]at u;rw[u]at h;exact h.elim
 case h_15 T m i ok j=>
  split at h
  .rename_i jo L F hi
   obtain⟨r,w1,q,g⟩:=iB h;exact .inl ⟨r,w1,by simp[execOp,j,ar.ev F,ar.ev hi,q],g⟩
  .exact h.elim
 case h_16 T m i x j=>
  split at h
  .rename_i jo L D F hi hx
   obtain⟨w1,q,g⟩:=h;exact .inr (.inl ⟨w1,by simp[execOp,j,ar.ev F,ar.ev hi,ar.ev hx,q],g⟩)
  .exact h.elim
 case h_17 T r j=>
  by_cases u:known e o.op.operands=true
  .rw[u]at h
   simp only[cond_true]at h;have hc:=kr ar (by rw[j];rfl) u;obtain⟨v,w1,q,g⟩:=iB h;exact .inl ⟨v,w1,by rw[hc];simp[execOp,j,q],g⟩
  .simp only[fN]at u;rw[u]at h;exact h.elim
 case h_18 T x j=>
  split at h
  .rename_i D hx
   obtain⟨v,w1,q,g⟩:=h;exact .inl ⟨v,w1,by simp[execOp,j,ar.ev hx,q],g⟩
  .exact h.elim
 case h_19 it Y j=>
  split at h
  .rename_i D hx
   rcases h with h|⟨w1,q,g⟩
   .cases Y with
    |true=>
     obtain⟨n,c,w1,q,g⟩:=h;exact .inl ⟨_,w1,by simp[execOp,j,ar.ev hx,q],g⟩
    |false=>
     obtain⟨k,v,w1,q,g⟩:=h;exact .inl ⟨_,w1,by simp[execOp,j,ar.ev hx,q],g⟩
   .exact .inl ⟨_,w1,by simp[execOp,j,ar.ev hx,q],g⟩
  .exact h.elim
 case h_20 c j=>
  have E:∀ (b:Builtin) (r:aa) (w1:J),c.callee=.builtin b->known e o.op.operands=true->
   (∀cs,(Go.builtin b c.argTypes o.type cs (c.args.map (ro e))).run P w=.ok (.value r) w1)->K r w1->l4 P o a w K:=by
   intro b r w1 z u q g;have hc:=kr ar (by rw[j];rfl) u;exact .inl ⟨r,w1,by rw[hc];simp[execOp,j,resolve,z,invoke,q],g⟩
  have C:∀ {X:Prop},(bif known e o.op.operands then X else False)->known e o.op.operands=true/\X:=by
   intro X M;by_cases u:known e o.op.operands=true
   .rw[u]at M;exact⟨u,M⟩
   .simp only[fN]at u;rw[u]at M;exact M.elim
  split at h
  .rename_i k z
   split at h
   .rename_i f pre cap hg
    obtain⟨u,Z,h⟩:=C h;have hc:=kr ar (by rw[j];rfl) u;refine .inr (.inr ⟨f,pre++c.args.map (ro e)++cap,w,?_,h.mono λaf w1 h1=>?_⟩)
    .have O:ro e (.tmp k)=.func (.func f) pre cap:=by simp[ro,ev,hg]
     rw[hc];simp[execOp,j,resolve,z,O,Deferred.ofValue,invoke,zD Z]
    .obtain⟨v,B,g⟩:=iB h1
     exact⟨v,B,g⟩
   .exact nQ ar (by rw[j];rfl) h
  .rename_i z
   obtain⟨u,h⟩:=C h;obtain⟨r,w1,q,g⟩:=iB h;exact E _ r w1 z u (λ_=>by simp[Go.builtin,q]) g
  .rename_i z
   obtain⟨u,h⟩:=C h;obtain⟨r,w1,q,g⟩:=iB h;exact E _ r w1 z u (λ_=>by simp[Go.builtin,q]) g
  .rename_i z
   obtain⟨u,h⟩:=C h;obtain⟨r,w1,q,g⟩:=iB h;exact E _ r w1 z u (λ_=>by simp[Go.builtin,q]) g
  .rename_i z
   obtain⟨u,h⟩:=C h;obtain⟨r,w1,q,g⟩:=iB h;exact E _ r w1 z u (λ_=>by simp[Go.builtin,q]) g
  .rename_i z
   obtain⟨u,r,w1,q,g⟩:=C h;exact E _ r w1 z u (λ_=>by simp[Go.builtin,q]) g
  .rename_i f z
   split at h
   .rename_i fn ag
    split at h
    .exact nQ ar (by rw[j];rfl) h
    .obtain⟨u,h⟩:=C h
     obtain⟨r,w1,q,g⟩:=iB h;have hc:=kr ar (by rw[j];rfl) u;refine .inl ⟨r,w1,?_,g⟩;rw[hc];have O:ro e (.func f)=.func (.func f) #[] #[]:=by simp[ro,ev]
     simp[execOp,j,resolve,z,O,Deferred.ofValue,invoke,q]
   .exact h.elim
  .rename_i z
   obtain⟨u,h⟩:=C h;obtain⟨r,w1,q,g⟩:=iB h;exact E _ r w1 z u (λ_=>by simp[Go.builtin,q]) g
  .rename_i z
   obtain⟨u,h⟩:=C h;obtain⟨r,w1,q,g⟩:=iB h;exact E _ r w1 z u (λ_=>by simp[Go.builtin,q]) g
  .rename_i z
   obtain⟨u,r,w1,q,g⟩:=C h;exact E _ r w1 z u (λ_=>by simp[Go.builtin,q]) g
  .rename_i z
   split at h
   .obtain⟨u,h⟩:=C h
    obtain⟨r,w1,q,g⟩:=iB h;exact E _ r w1 z u (λ_=>by simp[Go.builtin,q]) g
   .exact nQ ar (by rw[j];rfl) h
  .exact nQ ar (by rw[j];rfl) h
 case h_21 T x j=>
  split at h
  .rename_i D hx
   obtain⟨v,B,g⟩:=zu h;exact .inl ⟨v,w,by simp[execOp,j,ar.ev hx,B],g⟩
  .exact h.elim
 case h_22 T m i j=>
  split at h
  .rename_i jo L F hi
   obtain⟨v0,st,w1,q,g⟩:=h;exact .inl ⟨_,w1,by simp[execOp,j,ar.ev F,ar.ev hi,q],g⟩
  .exact h.elim
 case h_23 T m s x j=>
  split at h
  .rename_i jo vs D F hs hx
   obtain⟨w1,q,g⟩:=h;exact .inr (.inl ⟨w1,by simp[execOp,j,ar.ev F,ar.ev hs,ar.ev hx,q],g⟩)
  .exact h.elim
 case h_24 it j=>
  split at h
  .rename_i D hx
   obtain⟨v,w1,q,g⟩:=iB h;exact .inl ⟨v,w1,by simp[execOp,j,ar.ev hx,q],g⟩
  .exact h.elim
 case h_25=>exact h.elim
 case h_26=>
  refine nQ ar ?_ h
  cases j:o.op<;>first|rfl|simp_all
end
end a_
namespace a_
open Go
inductive kX where
 |run
 |split (n:Nat)
 |pure (n:Nat)
 |sZ (ks:O Kd)
def ff(P:Program)(o:Oper)(e:Env):aq aa:=
 match o.op with
 | .move x=>ev e x
 | .assign x=>ev e x
 | .unOp .not _ x=>match ev e x with
  |some (.bool b)=>some (.bool (!b))
  |_=>none
 | .binOp op T x y _=>match ev e y with
  |some (.int f b)=>match ev e x with
   |some (.int k a)=>bif jZ k f then
    match op with
    | .add=>some (.int k (k.wrap (a+b)))
    | .sub=>some (.int k (k.wrap (a-b)))
    | .mul=>some (.int k (k.wrap (a*b)))
    | .quo=>match b with
     | .ofNat (.succ m)=>some (.int k (k.wrap (a.tdiv (.ofNat (.succ m)))))
     |_=>none
    | .rem=>match b with
     | .ofNat (.succ m)=>some (.int k (a.tmod (.ofNat (.succ m))))
     |_=>none
    | .and=>some (.int k (k.wrap (BitVec.ofInt k.bits a&&&BitVec.ofInt k.bits b).toNat))
    | .or=>some (.int k (k.wrap (BitVec.ofInt k.bits a|||BitVec.ofInt k.bits b).toNat))
    | .xor=>some (.int k (k.wrap (BitVec.ofInt k.bits a^^^BitVec.ofInt k.bits b).toNat))
    | .eql=>some (.bool (a==b))
    | .neq=>some (.bool (a !=b))
    | .lss=>some (.bool (a<b))
    | .leq=>some (.bool (a<=b))
    | .gtr=>some (.bool (a>b))
    | .geq=>some (.bool (a>=b))
    |_=>none
    else none
   |_=>none
  |some (.bool b)=>match ev e x with
   |some (.bool a)=>match P.underlying T with
    |some .bool=>match op with
     | .eql=>some (.bool (a==b))
     | .neq=>some (.bool (!(a==b)))
     |_=>none
    |_=>none
   |_=>none
  |some (.string b)=>match ev e x with
   |some (.string a)=>match op with
    | .eql=>some (.bool (a.toList==b.toList))
    | .neq=>some (.bool (!(a.toList==b.toList)))
    |_=>none
   |_=>none
  |some (.pointer none)=>match ev e x with
   |some (.pointer p)=>bif l3 (P.underlying T) then match op with
    | .eql=>some (.bool p.isNone)
    | .neq=>some (.bool (!p.isNone))
    |_=>none
    else none
   |_=>none
  |some (.slice none _ _)=>match ev e x with
   |some (.slice p _ _)=>bif mS (P.underlying T) then match op with
    | .eql=>some (.bool p.isNone)
    | .neq=>some (.bool (!p.isNone))
    |_=>none
    else none
   |_=>none
  |_=>none
 | .convert s d x=>match ev e x with
  |some (.int _ n)=>match P.underlying d with
   |some (.int k)=>bif (P.underlying s).isSome then some (.int k (k.wrap n)) else none
   |_=>none
  |_=>none
 | .call {callee:=.builtin .len,args:=args,argTypes:=gr}=>match args[0]?,gr[0]? with
  |some x,some T=>match ev e x,P.underlying T with
   |some (.slice _ n _),some (.slice _)=>some (.int .i64 n)
   |some (.string s),some .string=>some (.int .i64 s.size)
   |_,_=>none
  |_,_=>none
 | .call {callee:=.builtin .cap,args:=args,argTypes:=gr}=>match args[0]?,gr[0]? with
  |some x,some T=>match ev e x,P.underlying T with
   |some (.slice _ _ c),some (.slice _)=>some (.int .i64 c)
   |_,_=>none
  |_,_=>none
 |_=>none
def q2(ops:Array Oper)(e:Env)(j:Nat):aq aa:=((ops[j]?).bind (·.dst)).bind e.get
def DF(ops:Array Oper)(j:Nat):aq Nat:=(ops[j]?).bind (·.dst)
def Ji(o:Oper)(e:Env)(K:aj->Prop):Prop:=
 match o.guard with
 |none=>match o.op with
  | .pick x y z=>match ev e x with
   |some (.bool b)=>match ev e (bif b then y else z) with
    |some (.bool r)=>K r
    |_=>False
   |_=>False
  |_=>False
 |some _=>False
def gW(ops:Array Oper)(o:Oper)(e:Env)(run skip:Prop):Prop:=
 match o.guard with
 |none=>run
 |some (j,want)=>match q2 ops e j with
  |none=>False
  |some (.bool b)=>bif Bool.xor b want then skip else run
  |some _=>skip
def lz{α:Type}(ops:Array Oper)(o:Oper)(e:Env)(run skip:aq α):aq α:=
 match o.guard with
 |none=>run
 |some (j,want)=>match q2 ops e j with
  |none=>none
  |some (.bool b)=>bif Bool.xor b want then skip else run
  |some _=>skip
def kY(o:Oper)(e:Env):aq aj:=
 match o.op with
 | .pick x y z=>match ev e x with
  |some (.bool b)=>match ev e (bif b then y else z) with
   |some (.bool r)=>some r
   |_=>none
  |_=>none
 |_=>none
def q3(ops:Array Oper)(o:Oper)(e:Env):aq (Nat×aj):=
 match o.guard with
 |none=>none
 |some (j,_)=>match DF ops j with
  |none=>none
  |some s=>match e.get s with
   |some (.bool c)=>some (s,c)
   |_=>none
def l5(ops:Array Oper)(o:Oper)(e:Env):aj:=
 match o.guard with
 |none=>true
 |some (j,want)=>match q2 ops e j with
  |some (.bool b)=> !(Bool.xor b want)
  |_=>false
def mV(e:Env)(ds:O Nat):aj:=e.all λp=> !(ds.any λd=>Nat.beq d p.1)
def bT(l:O Oper):O Nat:=l.filterMap (·.dst)
def iV(P:Program)(ops:Array Oper):Nat->O Oper->O kX->Env->aq Env
 |0,_,_,_=>none
 |_+1,[],_,e=>some e
 |n+1,o::rest,.pure m::as,e=>
  match q3 ops o e,rest.drop (m-1) with
  |none,_=>
   match lz ops o e none (some undef) with
   |some v=>iV P ops n rest as (dk o.dst v e)
   |none=>none
  |some (s,c),a::b=>
   match iV P ops n (o::rest.take (m-1)) (.run::as.take (m-1)) ((s,.bool true)::e),iV P ops n (o::rest.take (m-1)) (.run::as.take (m-1)) ((s,.bool false)::e) with
   |some d,some f=>
    match kY a d,kY a f with
    |some r1,some bX=>bif l5 ops a e&&mV e (bT (o::rest.take (m-1))) then iV P ops n b (as.drop m) (dk a.dst (.bool (cond c r1 bX)) e) else none
    |_,_=>none
   |_,_=>none
  |_,_=>none
 |n+1,o::rest,_::as,e=>
  match lz ops o e (ff P o e) (some undef) with
  |some v=>iV P ops n rest as (dk o.dst v e)
  |none=>none
 |n+1,o::rest,[],e=>
  match lz ops o e (ff P o e) (some undef) with
  |some v=>iV P ops n rest [] (dk o.dst v e)
  |none=>none
inductive bF {α:Type} (B:α->Prop) (k:α):Prop where
 |mk (h:B k)
theorem bF.out{α:Type}{B:α->Prop}{k:α}(h:bF B k):B k:=by cases h with|mk h=>exact h
def s0(P:Program)(ks:O Kd)(o:Oper)(K:aa->J->Prop)(e:Env)(w:J):Prop:=
 match o.op with
 | .entry it=>match ev e it with
  |some a=>sN ks λvs=>∃w1,(Instr.entry a).run P w=.ok (.tuple vs.toArray) w1/\K (.tuple vs.toArray) w1
  |_=>False
 |_=>False
theorem DG{P:Program}{ks:O Kd}{o:Oper}{K:aa->J->Prop}{e:Env}{w:J}{a:Act}(ar:dy e a)(h:s0 P ks o K e w):l4 P o a w K:=by
 unfold s0 at h;split at h
 .rename_i it b
  split at h
  .rename_i f hx
   obtain⟨v,w1,c,d⟩:=wG h;exact .inl ⟨_,w1,by simp[execOp,b,ar.ev hx,c],d⟩
  .exact h.elim
 .exact h.elim
def fX(P:Program)(tk:TypeId->dS)(ops:Array Oper):Nat->O Oper->O kX->(Env->J->Prop)->Env->J->Prop
 |0,_,_,_,_,_=>False
 |_+1,[],_,K,e,w=>K e w
 |n+1,o::rest,.sZ ks::as,K,e,w=>
  gW ops o e (s0 P ks o (λv w'=>fX P tk ops n rest as K (dk o.dst v e) w') e w) (fX P tk ops n rest as K (dk o.dst undef e) w)
 |n+1,o::rest,.pure m::as,K,e,w=>
  match q3 ops o e,rest.drop (m-1) with
  |none,_=>gW ops o e False (fX P tk ops n rest as K (dk o.dst undef e) w)
  |some (s,c),a::b=>
   match iV P ops n (o::rest.take (m-1)) (.run::as.take (m-1)) ((s,.bool true)::e),iV P ops n (o::rest.take (m-1)) (.run::as.take (m-1)) ((s,.bool false)::e) with
   |some f,some g=>
    match kY a f,kY a g with
    |some r1,some bX=>bif l5 ops a e&&mV e (bT (o::rest.take (m-1))) then fX P tk ops n b (as.drop m) K (dk a.dst (.bool (cond c r1 bX)) e) w else False
    |_,_=>False
   |_,_=>False
  |_,_=>False
 |n+1,o::rest,.split m::as,K,e,w=>
  match q3 ops o e,rest.drop (m-1) with
  |none,_=>gW ops o e False (fX P tk ops n rest as K (dk o.dst undef e) w)
  |some (s,c),a::b=>
   bif l5 ops a e&&mV e (bT (o::rest.take (m-1))) then
    bF (λk:aj->J->Prop=>
     (c=true->fX P tk ops n (o::rest.take (m-1)) (.run::as.take (m-1)) (λd w'=>match kY a d with|some r=>k r w'|none=>False) ((s,.bool true)::e) w)/\
     (c=false->fX P tk ops n (o::rest.take (m-1)) (.run::as.take (m-1)) (λd w'=>match kY a d with|some r=>k r w'|none=>False) ((s,.bool false)::e) w))
     (λr w'=>fX P tk ops n b (as.drop m) K (dk a.dst (.bool r) e) w')
   else False
  |_,_=>False
 |n+1,o::rest,_::as,K,e,w=>
  gW ops o e (jF P tk o (λv w'=>fX P tk ops n rest as K (dk o.dst v e) w') e w) (fX P tk ops n rest as K (dk o.dst undef e) w)
 |n+1,o::rest,[],K,e,w=>
  gW ops o e (jF P tk o (λv w'=>fX P tk ops n rest [] K (dk o.dst v e) w') e w) (fX P tk ops n rest [] K (dk o.dst undef e) w)
structure ee(ds:O Nat)(a b:Act):Prop where
 defers:b.defers=a.defers
 size:b.tmps.size=a.tmps.size
 same:∀s,s∉ds->b.tmps[s]? =a.tmps[s]?
theorem ee.refl(ds:O Nat)(a:Act):ee ds a a:=⟨rfl,rfl,λ_ _=>rfl⟩
theorem ee.trans{ds:O Nat}{a b c:Act}(h:ee ds a b)(k:ee ds b c):ee ds a c:=
 ⟨k.defers.trans h.defers,k.size.trans h.size,λs hs=>(k.same s hs).trans (h.same s hs)⟩
theorem ee.mono{ds es:O Nat}{a b:Act}(h:ee ds a b)(hs:∀s,s∈ds->s∈es):ee es a b:=
 ⟨h.defers,h.size,λs c=>h.same s λd=>c (hs s d)⟩
theorem ee.put{a:Act}{d:aq Nat}{v:aa}{ds:O Nat}(hd:∀k,d=some k->k∈ds):ee ds a (a.put d v):=by
 cases d with
 |none=>exact .refl _ _
 |some d=>exact⟨rfl,by simp[Act.put],λs hs=>by
  have:d≠s:=λh=>hs (h▸hd d rfl);simp[Act.put,Array.getElem?_setIfInBounds_ne this]⟩
def gG(a:Act)(ds:O Nat)(K:Env->J->Prop)(x:Exit)(b:Act)(w':J):Prop:=
 x=.normal/\ee ds a b/\∃c,dy c b/\K c w'
theorem iW{P:Program}{ops:Array Oper}{Q Q':Exit->Act->J->Prop}(b:∀x a w,Q x a w->Q' x a w):
 ∀ (l:O Oper) (a:Act) (w:J),wpList P ops Q l a w->wpList P ops Q' l a w
 | [],_,_,h=>b _ _ _ h
 |o::l,a,w,h=>by
  simp only[wpList]at h⊢
  split
  .rename_i d
   rw[if_pos d]at h
   refine h.imp (λh=>?_) (λ⟨h1,f,w',g⟩=>⟨h1,f,w',b _ _ _ g⟩)
   have:=Oper.wp_mono (Q:=Q) (λa w=>iW b l a w) h
   unfold Oper.wp at this⊢
   revert this
   generalize (execOp a.eval o).run P w=r
   intro this
   cases r with
   |ok aS w'=>
    cases aS<;>simp only[Oper.upon]at this⊢<;>first
     |exact this
     |(exact Calls.mono this λe i he=>by
        cases e with
        |returned v=>exact he
        |panicked c=>exact b _ _ _ he
        |outgrown=>exact let ⟨f,w',g⟩:=he;⟨f,w',b _ _ _ g⟩)
   |halt x w'=>cases x<;>simp only[Oper.upon]at this⊢<;>first|exact b _ _ _ this|exact this
  .rename_i d
   rw[if_neg d]at h
   exact iW b l _ _ h
theorem q4{P:Program}{ops:Array Oper}{Q:Exit->Act->J->Prop}(b:O Oper):
 ∀ (g:O Oper) (a:Act) (w:J),wpList P ops (λx a w=>x=.normal/\wpList P ops Q b a w) g a w->wpList P ops Q (g++b) a w
 | [],_,_,h=>h.2
 |o::l,a,w,h=>by
  simp only[nC,wpList]at h⊢
  split
  .rename_i d
   rw[if_pos d]at h
   rcases h with h|⟨_,i,w',f,_⟩
   .left
    have:=Oper.wp_mono (λa w=>q4 b l a w) h
    unfold Oper.wp at this⊢
    revert this
    generalize (execOp a.eval o).run P w=r
    intro this
    cases r with
    |ok aS w'=>
     cases aS<;>simp only[Oper.upon]at this⊢<;>first
      |exact this
      |(exact Calls.mono this λe j he=>by
         cases e with
         |returned v=>exact he
         |panicked c=>cases he.1
         |outgrown=>exact let ⟨i,w',f⟩:=he;by cases f.1)
    |halt x w'=>cases x<;>simp only[Oper.upon]at this⊢<;>first|(cases this.1;done)|exact this
   .cases f
  .rename_i d
   rw[if_neg d]at h
   exact q4 b l _ _ h
section
variable {P:Program}{tk:TypeId->dS}{ops:Array Oper}
def l6:aa->aq aj
 | .bool b=>some b
 |_=>none
theorem q5{e:Env}{a:Act}(ar:dy e a){j:Nat}{v:aa}(h:q2 ops e j=some v):
 yielded ops a.tmps j=l6 v:=by
 unfold q2 at h;unfold yielded
 cases hd:(ops[j]?).bind (·.dst) with
 |none=>rw[hd]at h;simp at h
 |some s=>
  rw[hd]at h;simp only[Option.bind_some]at h⊢;rw[ar.get _ _ h]
  cases v<;>rfl
theorem q6{o:Oper}{e:Env}{a:Act}(ar:dy e a){R S:Prop}(h:gW ops o e R S):
 (Region.wanted o (yielded ops a.tmps)=true/\R)\/(Region.wanted o (yielded ops a.tmps)=false/\S):=by
 unfold gW at h;unfold Region.wanted;split at h
 .rename_i hg;rw[hg];exact .inl ⟨rfl,h⟩
 .rename_i j want hg
  rw[hg];simp only;split at h
  .exact h.elim
  .rename_i b c
   rw[q5 ar c]
   cases b<;>cases want<;>first|exact .inl ⟨rfl,h⟩|exact .inr ⟨rfl,h⟩
  .rename_i v d c
   rw[q5 ar c]
   cases v<;>first|exact absurd rfl (d _)|exact .inr ⟨by cases want<;>rfl,h⟩
theorem zG{o:Oper}{e:Env}{R R' S:Prop}(h:gW ops o e R S)(a:R->R'):gW ops o e R' S:=by
 unfold gW at h⊢;split at h
 .exact a h
 .rename_i j want hg
  split at h
  .exact h
  .rename_i b d
   cases c:Bool.xor b want<;>rw[c]at h<;>first|exact a h|exact h
  .exact h
theorem DH{α:Type}{o:Oper}{e:Env}{R S:aq α}{r:α}(h:lz ops o e none S=some r):lz ops o e R S=some r:=by
 unfold lz at h⊢;split at h
 .cases h
 .rename_i j want hg
  split at h
  .exact h
  .rename_i b c
   cases a:Bool.xor b want with
   |true=>rw[a]at h;exact h
   |false=>rw[a]at h;cases h
  .exact h
theorem DI{α:Type}{o:Oper}{e:Env}{a:Act}(ar:dy e a){R S:aq α}{r:α}(h:lz ops o e R S=some r):
 (Region.wanted o (yielded ops a.tmps)=true/\R=some r)\/(Region.wanted o (yielded ops a.tmps)=false/\S=some r):=by
 unfold lz at h;unfold Region.wanted;split at h
 .rename_i hg;rw[hg];exact .inl ⟨rfl,h⟩
 .rename_i j want hg
  rw[hg];simp only;split at h
  .cases h
  .rename_i b c
   rw[q5 ar c]
   cases b<;>cases want<;>first|exact .inl ⟨rfl,h⟩|exact .inr ⟨rfl,h⟩
  .rename_i v d c
   rw[q5 ar c]
   cases v<;>first|exact absurd rfl (d _)|exact .inr ⟨by cases want<;>rfl,h⟩
theorem zH{o:Oper}{e:Env}{a:Act}(ar:dy e a){v:aa}(h:ff P o e=some v)(w:J):(execOp a.eval o).run P w=.ok (.value v) w:=by
 unfold ff at h;split at h
 .rename_i x f
  simp[execOp,f,ar.ev h]
 .rename_i x f
  simp[execOp,f,ar.ev h]
 .rename_i t x f
  split at h
  .rename_i b hx
   cases h;simp[execOp,f,ar.ev hx,Op.unary]
  .cases h
 .rename_i op T x y D f
  split at h
  .rename_i u b i
   split at h
   .rename_i k c hx
    by_cases z:k=u
    .subst z
     simp only[jZ,decide_true,cond_true]at h;split at h
     case h_4=>
      split at h
      .cases h
       simp[execOp,f,ar.ev hx,ar.ev i,eqGuard,binOp,Op.intDiv];intro r;exfalso;revert r;simp;omega
      .cases h
     case h_5=>
      split at h
      .cases h
       simp[execOp,f,ar.ev hx,ar.ev i,eqGuard,binOp,Op.intDiv];intro r;exfalso;revert r;simp;omega
      .cases h
     all_goals first
      |(cases h;simp[execOp,f,ar.ev hx,ar.ev i,eqGuard,binOp,Op.intArith,Op.intBits,Op.intCmp];done)
      |cases h
    .simp[jZ,z]at h
   .cases h
  .rename_i b i
   split at h
   .rename_i c hx
    split at h
    .rename_i g
     have j:∀ (d:Nat) (w:J),(Op.equalIn (d+1) T (.bool c) (.bool b)).run P w=.ok (c==b) w:=by
      intro d w;simp[Op.equalIn,dm g]
     have A:∀w:J,(Op.equal T (.bool c) (.bool b)).run P w=.ok (c==b) w:=λw=>by rw[pn];exact j _ w
     split at h
     .cases h
      simp[execOp,f,ar.ev hx,ar.ev i,eqGuard,binOp,A]
     .cases h
      simp[execOp,f,ar.ev hx,ar.ev i,eqGuard,binOp,A]
     .cases h
    .cases h
   .cases h
  .rename_i b i
   split at h
   .rename_i c hx
    split at h
    .cases h
     have j:(binOp .eql T (.string c) (.string b)).run P w=.ok (.bool (c.toList==b.toList)) w:=rfl;simp only[execOp,f,ar.ev hx,ar.ev i];simp[eqGuard,j]
    .cases h
     have j:(binOp .neq T (.string c) (.string b)).run P w=.ok (.bool (!(c.toList==b.toList))) w:=rfl;simp only[execOp,f,ar.ev hx,ar.ev i];simp[eqGuard,j]
    .cases h
   .cases h
  .rename_i i
   split at h
   .rename_i p hx
    by_cases g:l3 (P.underlying T)=true
    .rw[g]at h
     simp only[cond_true]at h;split at h
     .cases h;simp[execOp,f,ar.ev hx,ar.ev i,eqGuard,binOp,sR (P:=P) g]
     .cases h;simp[execOp,f,ar.ev hx,ar.ev i,eqGuard,binOp,sR (P:=P) g]
     .cases h
    .simp only[fN]at g;rw[g]at h;cases h
   .cases h
  .rename_i l c i
   split at h
   .rename_i p _ _ hx
    by_cases g:mS (P.underlying T)=true
    .rw[g]at h
     simp only[cond_true]at h;split at h
     .cases h;simp[execOp,f,ar.ev hx,ar.ev i,eqGuard,binOp,sS (P:=P) g]
     .cases h;simp[execOp,f,ar.ev hx,ar.ev i,eqGuard,binOp,sS (P:=P) g]
     .cases h
    .simp only[fN]at g;rw[g]at h;cases h
   .cases h
  .cases h
 .rename_i s d x f
  split at h
  .rename_i k n hx
   split at h
   .rename_i u hd
    by_cases hs:(P.underlying s).isSome=true
    .rw[hs]at h
     cases h;obtain⟨ds,B⟩:=j0 _ hs;simp[execOp,f,ar.ev hx,convert,dm B,dm hd,Conv.intToInt]
    .simp only[fN]at hs;rw[hs]at h;cases h
   .cases h
  .cases h
 .rename_i args gr f
  split at h
  .rename_i x T m q
   split at h
   .rename_i p n c C hx g
    cases h;simp[execOp,f,resolve,invoke,Go.builtin,Builtin.len_,q,m,dm g,ar.ev hx,goInt]
   .rename_i s hx g
    cases h;simp[execOp,f,resolve,invoke,Go.builtin,Builtin.len_,q,m,dm g,ar.ev hx,goInt]
   .cases h
  .cases h
 .rename_i args gr f
  split at h
  .rename_i x T m q
   split at h
   .rename_i p n c C hx g
    cases h;simp[execOp,f,resolve,invoke,Go.builtin,Builtin.cap_,q,m,dm g,ar.ev hx,goInt]
   .cases h
  .cases h
 .cases h
theorem wR{e:Env}{ds:O Nat}{a b:Act}(ar:dy e a)(hd:mV e ds=true)(d:ee ds a b):dy e b:=by
 constructor;intro s v hs;have f:∃u,(s,u)∈e:=by
  clear hd ar
  induction e with
  |nil=>cases hs
  |cons p e g=>
   obtain⟨k,u⟩:=p;rw[nN]at hs;by_cases c:k=s
   .subst c;exact⟨u,by simp⟩
   .rw[if_neg c]at hs
    obtain⟨u,hu⟩:=g hs;exact⟨u,by simp[hu]⟩
 obtain⟨u,hu⟩:=f;have h1:=lk.1 hd _ hu;simp only[ln,o3]at h1;rw[d.same s λh=>h1 s h (Nat.beq_refl s)];exact ar.get s v hs
theorem wS{d:Oper}{e:Env}{a:Act}(ar:dy e a){r:aj}(h:kY d e=some r)(w:J):
 (execOp a.eval d).run P w=.ok (.value (.bool r)) w:=by
 unfold kY at h;split at h
 .rename_i x y z f
  split at h
  .rename_i b g
   split at h
   .rename_i i c
    cases h;simp only[execOp,f,ar.ev g]
    cases b
    .simp only[cond_false]at c
     simp[asBool,ar.ev c]
    .simp only[cond_true]at c
     simp[asBool,ar.ev c]
   .cases h
  .cases h
 .cases h
theorem wT{c:Oper}{e:Env}{a:Act}(ar:dy e a)(h:l5 ops c e=true):Region.wanted c (yielded ops a.tmps)=true:=by
 unfold l5 at h;unfold Region.wanted;split at h
 .rename_i hg;rw[hg]
 .rename_i j want hg
  rw[hg];simp only;split at h
  .rename_i b d
   rw[q5 ar d]
   cases b<;>cases want<;>first|rfl|cases h
  .cases h
theorem wU{o:Oper}{e:Env}{s:Nat}{c:aj}(h:q3 ops o e=some (s,c)):e.get s=some (.bool c):=by
 unfold q3 at h;split at h
 .cases h
 .split at h
  .cases h
  .split at h
   .rename_i hs;cases h;exact hs
   .cases h
theorem dy.lit{e:Env}{a:Act}(ar:dy e a){s:Nat}{v:aa}(h:e.get s=some v):dy ((s,v)::e) a:=by
 constructor;intro t u ht;rw[nN]at ht;by_cases b:s=t
 .subst b
  rw[if_pos rfl]at ht
  cases ht;exact ar.get _ _ h
 .rw[if_neg b]at ht
  exact ar.get _ _ ht
theorem wV{α:Type}(o:α)(rest:O α)(m:Nat){a:α}{b:O α}(h:rest.drop m=a::b):
 o::rest=(o::rest.take m)++(a::b):=by
 rw[←h];simp
theorem DJ{b c:aj}{α:Type}{x y z:α}(h:(bif b&&c then x else y)=z)(a:y≠z):b=true/\c=true/\x=z:=by
 cases b<;>cases c<;>first|exact absurd h a|exact⟨rfl,rfl,h⟩
theorem zI:∀ (n:Nat) (l:O Oper) (as:O kX) (e j:Env) (a:Act) (w:J),dy e a->(∀d∈bT l,d<a.tmps.size)->
 iV P ops n l as e=some j->wpList P ops (λx f w'=>x=.normal/\ee (bT l) a f/\dy j f/\w'=w) l a w:=by
 intro n
 induction n with
 |zero=>intro l as e j a w _ _ h;cases h
 |succ n B=>
  intro l as e j a w ar g h;have one:∀ (o:Oper) (rest:O Oper) (E:O kX),(∀d∈bT (o::rest),d<a.tmps.size)->
   (match lz ops o e (ff P o e) (some undef) with|some v=>iV P ops n rest E (dk o.dst v e)|none=>none)=some j->
   wpList P ops (λx f w'=>x=.normal/\ee (bT (o::rest)) a f/\dy j f/\w'=w) (o::rest) a w:=by
   intro o rest E g h;have K:∀k,o.dst=some k->k∈bT (o::rest):=λk b=>by simp[bT,b]
   have q:∀k,k∈bT rest->k∈bT (o::rest):=λk b=>by
    simp only[bT,qH];split
    .exact b
    .exact jV _ b
   split at h
   .rename_i v t
    have next:∀ (f:Act),f=a.put o.dst v->wpList P ops (λx f w'=>x=.normal/\ee (bT (o::rest)) a f/\dy j f/\w'=w) rest f w:=by
     intro f T;subst T;have b:ee (bT (o::rest)) a (a.put o.dst v):=ee.put K;have:=B rest E (dk o.dst v e) j (a.put o.dst v) w (ar.put λk b=>g k (K k b)) (λd hd=>by rw[b.size];exact g d (q d hd)) h;exact iW (λx f w' ⟨h1,F,U,V⟩=>⟨h1,b.trans (F.mono q),U,V⟩) _ _ _ this
    rcases DI ar t with ⟨G,u⟩|⟨G,u⟩
    .simp only[wpList,G,if_true]
     left;unfold Oper.wp;rw[zH ar u w];exact next _ rfl
    .simp only[wpList,G,fM,if_false]
     cases u;exact next _ rfl
   .cases h
  cases l with
  |nil=>
   simp only[iV,Option.some.injEq]at h;subst h;exact⟨rfl,.refl _ _,ar,rfl⟩
  |cons o rest=>
   cases as with
   |nil=>exact one o rest [] g (by simpa only[iV] using h)
   |cons W as=>
    cases W with
    |run=>exact one o rest as g (by simpa only[iV] using h)
    |split m=>exact one o rest as g (by simpa only[iV] using h)
    |sZ ks=>exact one o rest as g (by simpa only[iV] using h)
    |pure m=>
     simp only[iV]at h;split at h
     .refine one o rest as g ?_
      cases t:lz ops o e none (some undef) with
      |none=>rw[t]at h;cases h
      |some v=>rw[t]at h;rw[DH t];exact h
     .rename_i s c i p hg hd
      split at h
      .rename_i L M h1 F
       split at h
       .rename_i r1 bX X Y
        obtain⟨Z,aa,h⟩:=DJ h (by simp);rw[wV o rest (m-1) hd]at g⊢;have N:=wU hg;refine q4 _ _ _ _ ?_;have H:∀k,k∈bT (o::rest.take (m-1))->k∈bT ((o::rest.take (m-1))++(i::p)):=λk b=>by
         simp only[bT,qI,cR];exact .inl b
        have C:∀k,k∈bT (i::p)->k∈bT ((o::rest.take (m-1))++(i::p)):=λk b=>by
         simp only[bT,qI,cR];exact .inr b
        have Q:∀k,i.dst=some k->k∈bT (i::p):=λk b=>by simp[bT,b]
        have q:∀k,k∈bT p->k∈bT (i::p):=λk b=>by
         simp only[bT,qH];split
         .exact b
         .exact jV _ b
        have fin:∀ (I:Env) (r:aj) (a1:Act),ee (bT (o::rest.take (m-1))) a a1->dy I a1->kY i I=some r->r=cond c r1 bX->
         wpList P ops (λx f w'=>x=.normal/\ee (bT ((o::rest.take (m-1))++(i::p))) a f/\dy j f/\w'=w) (i::p) a1 w:=by
         intro I r a1 D ab u ac;have R:=wR ar aa D;simp only[wpList,wT R Z,if_true];left;unfold Oper.wp;rw[wS ab u w];simp only[Oper.upon];have S:ee (bT (i::p)) a1 (a1.put i.dst (.bool r)):=ee.put Q;have:=B p (as.drop m) (dk i.dst (.bool (cond c r1 bX)) e) j (a1.put i.dst (.bool r)) w
          (by rw[ac];exact R.put λk b=>by rw[D.size];exact g k (C k (Q k b)))
          (λd hd=>by rw[S.size,D.size];exact g d (C d (q d hd))) h
         refine iW (λx f w' ⟨au,y,z,A⟩=>⟨au,(D.mono H).trans ((S.mono C).trans (y.mono λk b=>C k (q k b))),z,A⟩) _ _ _ this
        cases c with
        |true=>
         have:=B _ _ _ L a w (ar.lit N) (λd hd=>g d (H d hd)) h1;exact iW (λx f w' ⟨au,y,z,A⟩=>⟨au,by subst A;exact fin L r1 f y z X rfl⟩) _ _ _ this
        |false=>
         have:=B _ _ _ M a w (ar.lit N) (λd hd=>g d (H d hd)) F;exact iW (λx f w' ⟨au,y,z,A⟩=>⟨au,by subst A;exact fin M bX f y z Y rfl⟩) _ _ _ this
       .cases h
      .cases h
     .cases h
theorem zJ:∀ (n:Nat) (l:O Oper) (as:O kX) (K:Env->J->Prop) (e:Env) (a:Act) (w:J),dy e a->(∀d∈bT l,d<a.tmps.size)->
 fX P tk ops n l as K e w->wpList P ops (gG a (bT l) K) l a w:=by
 intro n
 induction n with
 |zero=>intro l as K e a w _ _ h;cases h
 |succ n E=>
  intro l as K e a w ar i h;have one:∀ (o:Oper) (rest:O Oper) (j:O kX),(∀d∈bT (o::rest),d<a.tmps.size)->
   gW ops o e (jF P tk o (λv w'=>fX P tk ops n rest j K (dk o.dst v e) w') e w) (fX P tk ops n rest j K (dk o.dst undef e) w)->
   wpList P ops (gG a (bT (o::rest)) K) (o::rest) a w:=by
   intro o rest j i h;have F:∀k,o.dst=some k->k∈bT (o::rest):=λk b=>by simp[bT,b]
   have p:∀k,k∈bT rest->k∈bT (o::rest):=λk b=>by
    simp only[bT,qH];split
    .exact b
    .exact jV _ b
   have next:∀ (v:aa) (w':J),fX P tk ops n rest j K (dk o.dst v e) w'->wpList P ops (gG a (bT (o::rest)) K) rest (a.put o.dst v) w':=by
    intro v w' h;have b:ee (bT (o::rest)) a (a.put o.dst v):=ee.put F;have:=E rest j K (dk o.dst v e) (a.put o.dst v) w' (ar.put λk b=>i k (F k b)) (λd hd=>by rw[b.size];exact i d (p d hd)) h;exact iW (λx z w' ⟨h1,A,N⟩=>⟨h1,b.trans (A.mono p),N⟩) _ _ _ this
   rcases q6 ar h with ⟨B,q⟩|⟨B,q⟩
   .simp only[wpList,B,if_true]
    exact .inl ((sY ar q).wp next)
   .simp only[wpList,B,fM,if_false]
    exact next _ _ q
  have W:∀ (o:Oper) (rest:O Oper) (ks:O Kd) (j:O kX),(∀d∈bT (o::rest),d<a.tmps.size)->
   gW ops o e (s0 P ks o (λv w'=>fX P tk ops n rest j K (dk o.dst v e) w') e w) (fX P tk ops n rest j K (dk o.dst undef e) w)->
   wpList P ops (gG a (bT (o::rest)) K) (o::rest) a w:=by
   intro o rest ks j i h;have F:∀k,o.dst=some k->k∈bT (o::rest):=λk b=>by simp[bT,b]
   have p:∀k,k∈bT rest->k∈bT (o::rest):=λk b=>by
    simp only[bT,qH];split
    .exact b
    .exact jV _ b
   have next:∀ (v:aa) (w':J),fX P tk ops n rest j K (dk o.dst v e) w'->wpList P ops (gG a (bT (o::rest)) K) rest (a.put o.dst v) w':=by
    intro v w' h;have b:ee (bT (o::rest)) a (a.put o.dst v):=ee.put F;have:=E rest j K (dk o.dst v e) (a.put o.dst v) w' (ar.put λk b=>i k (F k b)) (λd hd=>by rw[b.size];exact i d (p d hd)) h;exact iW (λx z w' ⟨h1,A,N⟩=>⟨h1,b.trans (A.mono p),N⟩) _ _ _ this
   rcases q6 ar h with ⟨B,q⟩|⟨B,q⟩
   .simp only[wpList,B,if_true]
    exact .inl ((DG ar q).wp next)
   .simp only[wpList,B,fM,if_false]
    exact next _ _ q
  cases l with
  |nil=>exact⟨rfl,.refl _ _,e,ar,h⟩
  |cons o rest=>
   cases as with
   |nil=>exact one o rest [] i (by simpa only[fX] using h)
   |cons X as=>
    cases X with
    |run=>exact one o rest as i (by simpa only[fX] using h)
    |sZ ks=>exact W o rest ks as i (by simpa only[fX] using h)
    |split m=>
     simp only[fX]at h;split at h
     .exact one o rest as i (zG h False.elim)
     .rename_i s c f g hg hd
      obtain⟨Q,R,h⟩:l5 ops f e=true/\mV e (bT (o::rest.take (m-1)))=true/\_:=by
       cases h1:l5 ops f e<;>cases A:mV e (bT (o::rest.take (m-1)))<;>rw[h1,A]at h<;>first|exact h.elim|exact⟨rfl,rfl,h⟩
      rw[wV o rest (m-1) hd]at i⊢;have G:=wU hg;refine q4 _ _ _ _ ?_;have C:∀k,k∈bT (o::rest.take (m-1))->k∈bT ((o::rest.take (m-1))++(f::g)):=λk b=>by
       simp only[bT,qI,cR];exact .inl b
      have t:∀k,k∈bT (f::g)->k∈bT ((o::rest.take (m-1))++(f::g)):=λk b=>by
       simp only[bT,qI,cR];exact .inr b
      have H:∀k,f.dst=some k->k∈bT (f::g):=λk b=>by simp[bT,b]
      have p:∀k,k∈bT g->k∈bT (f::g):=λk b=>by
       simp only[bT,qH];split
       .exact b
       .exact jV _ b
      have fin:∀ (x:Exit) (a1:Act) (w1:J),gG a (bT (o::rest.take (m-1)))
       (λY w'=>match kY f Y with|some r=>fX P tk ops n g (as.drop m) K (dk f.dst (.bool r) e) w'|none=>False) x a1 w1->
       x=.normal/\wpList P ops (gG a (bT ((o::rest.take (m-1))++(f::g))) K) (f::g) a1 w1:=by
       rintro x a1 w1 ⟨hx,u,M,S,h⟩;refine⟨hx,?_⟩;have I:=wR ar R u;split at h
       .rename_i r q
        simp only[wpList,wT I Q,if_true];left;unfold Oper.wp;rw[wS S q w1];simp only[Oper.upon];have L:ee (bT (f::g)) a1 (a1.put f.dst (.bool r)):=ee.put H;have:=E g (as.drop m) K (dk f.dst (.bool r) e) (a1.put f.dst (.bool r)) w1
         (I.put λk b=>by rw[u.size];exact i k (t k (H k b)))
         (λd hd=>by rw[L.size,u.size];exact i d (t d (p d hd))) h
        refine iW (λx z w' ⟨au,y,D⟩=>⟨au,(u.mono C).trans ((L.mono t).trans (y.mono λk b=>t k (p k b))),D⟩) _ _ _ this
       .exact h.elim
      have h:=h.out
      cases c with
      |true=>
       have:=E _ _ _ _ a w (ar.lit G) (λd hd=>i d (C d hd)) (h.1 rfl);exact iW fin _ _ _ this
      |false=>
       have:=E _ _ _ _ a w (ar.lit G) (λd hd=>i d (C d hd)) (h.2 rfl);exact iW fin _ _ _ this
     .exact h.elim
    |pure m=>
     simp only[fX]at h;split at h
     .exact one o rest as i (zG h False.elim)
     .rename_i s c f g hg hd
      split at h
      .rename_i U V h1 A
       split at h
       .rename_i r1 bX Z ab
        obtain⟨Q,R,h⟩:l5 ops f e=true/\mV e (bT (o::rest.take (m-1)))=true/\_:=by
         cases au:l5 ops f e<;>cases y:mV e (bT (o::rest.take (m-1)))<;>rw[au,y]at h<;>first|exact h.elim|exact⟨rfl,rfl,h⟩
        rw[wV o rest (m-1) hd]at i⊢;have G:=wU hg;refine q4 _ _ _ _ ?_;have C:∀k,k∈bT (o::rest.take (m-1))->k∈bT ((o::rest.take (m-1))++(f::g)):=λk b=>by
         simp only[bT,qI,cR];exact .inl b
        have t:∀k,k∈bT (f::g)->k∈bT ((o::rest.take (m-1))++(f::g)):=λk b=>by
         simp only[bT,qI,cR];exact .inr b
        have H:∀k,f.dst=some k->k∈bT (f::g):=λk b=>by simp[bT,b]
        have p:∀k,k∈bT g->k∈bT (f::g):=λk b=>by
         simp only[bT,qH];split
         .exact b
         .exact jV _ b
        have fin:∀ (M:Env) (r:aj) (a1:Act),ee (bT (o::rest.take (m-1))) a a1->dy M a1->kY f M=some r->r=cond c r1 bX->
         wpList P ops (gG a (bT ((o::rest.take (m-1))++(f::g))) K) (f::g) a1 w:=by
         intro M r a1 u S q ac;have I:=wR ar R u;simp only[wpList,wT I Q,if_true];left;unfold Oper.wp;rw[wS S q w];simp only[Oper.upon];have L:ee (bT (f::g)) a1 (a1.put f.dst (.bool r)):=ee.put H;have:=E g (as.drop m) K (dk f.dst (.bool (cond c r1 bX)) e) (a1.put f.dst (.bool r)) w
          (by rw[ac];exact I.put λk b=>by rw[u.size];exact i k (t k (H k b)))
          (λd hd=>by rw[L.size,u.size];exact i d (t d (p d hd))) h
         refine iW (λx z w' ⟨au,y,D⟩=>⟨au,(u.mono C).trans ((L.mono t).trans (y.mono λk b=>t k (p k b))),D⟩) _ _ _ this
        cases c with
        |true=>
         have:=zI n _ _ _ U a w (ar.lit G) (λd hd=>i d (C d hd)) h1;exact iW (λx z w' ⟨au,y,D,T⟩=>⟨au,by subst T;exact fin U r1 z y D Z rfl⟩) _ _ _ this
        |false=>
         have:=zI n _ _ _ V a w (ar.lit G) (λd hd=>i d (C d hd)) A;exact iW (λx z w' ⟨au,y,D,T⟩=>⟨au,by subst T;exact fin V bX z y D ab rfl⟩) _ _ _ this
       .exact h.elim
      .exact h.elim
     .exact h.elim
end
end a_
namespace a_
open Go
structure ab(W:Nat->Prop)(w w':J):Prop where
 os:w'.os=w.os
 tape:w'.tape=w.tape
 output:w'.output=w.output
 size:w.heap.size<=w'.heap.size
 block:∀k,k<w.heap.size->¬W k->w'.heap[k]? =w.heap[k]?
theorem ab.refl(W:Nat->Prop)(w:J):ab W w w:=⟨rfl,rfl,rfl,bo _,λ_ _ _=>rfl⟩
theorem ab.trans{W:Nat->Prop}{a b c:J}(h:ab W a b)(k:ab W b c):ab W a c:=
 ⟨k.os.trans h.os,k.tape.trans h.tape,k.output.trans h.output,ey h.size k.size,λi hi d=>(k.block i (fO hi h.size) d).trans (h.block i hi d)⟩
theorem ab.mono{W V:Nat->Prop}{a b:J}(h:ab W a b)(c:∀k,k<a.heap.size->W k->V k):ab V a b:=
 ⟨h.os,h.tape,h.output,h.size,λi hi d=>h.block i hi λcd=>d (c i hi cd)⟩
theorem ab.cell{W:Nat->Prop}{w w':J}(h:ab W w w'){A:ae}(cd:¬W A.block){v:aa}(a:w.cell? A=some v):w'.cell? A=some v:=by
 have b:A.block<w.heap.size:=by
  rcases dH A.block w.heap.size with h1|h1
  .exact h1
  .simp[World.cell?,Array.getElem?_eq_none h1]at a
 unfold World.cell? at a⊢;rw[h.block _ b cd];exact a
theorem ab.cL{W:Nat->Prop}{w w':J}(h:ab W w w'){A:ae}(cd:¬W A.block):∀ (n i:Nat) (vs:O aa),cL w A i n=some vs->cL w' A i n=some vs
 |0,_,_,a=>a
 |n+1,i,vs,a=>by
  simp only[a_.cL]at a⊢
  have c:(A.add i).block=A.block:=by unfold Addr.add;split<;>rfl
  cases h1:w.cell? (A.add i) with
  |none=>simp[h1]at a
  |some v=>
   cases b:a_.cL w A (i+1) n with
   |none=>simp[h1,b]at a
   |some us=>
    simp only[h1,b]at a
    rw[h.cell (by rw[c];exact cd) h1,ab.cL h cd n (i+1) us b]
    exact a
def fY{α:Type}:Sem α->Prop
 | .pure _=>True
 | .program k=>∀p,fY (k p)
 | .halt _=>True
 |_=>False
theorem fY.bind{α β:Type}:∀ {s:Sem α}{f:α->Sem β},fY s->(∀a,fY (f a))->fY (s>>=f)
 | .pure a,_,_,hf=>hf a
 | .program _,_,h,hf=> λp=>fY.bind (h p) hf
 | .halt _,_,_,_=>trivial
 | .load ..,_,h,_=>h.elim
 | .store ..,_,h,_=>h.elim
 | .new ..,_,h,_=>h.elim
 | .shape ..,_,h,_=>h.elim
 | .freeze ..,_,h,_=>h.elim
 | .frozen ..,_,h,_=>h.elim
 | .getObj ..,_,h,_=>h.elim
 | .setObj ..,_,h,_=>h.elim
 | .choose ..,_,h,_=>h.elim
 | .sys ..,_,h,_=>h.elim
 | .mark ..,_,h,_=>h.elim
theorem fY.run{α:Type}{P:Program}:∀ {s:Sem α}{w w':J}{v:α},fY s->s.run P w=.ok v w'->∀u,s.run P u=.ok v u
 | .pure a,w,w',v,_,h,u=>by
  simp only[Sem.run,Result.ok.injEq]at h⊢
  exact⟨h.1,trivial⟩
 | .program k,w,w',v,hf,h,u=>fY.run (hf P) h u
 | .halt _,w,w',v,_,h,_=>by simp[Sem.run]at h
 | .load ..,_,_,_,h,_,_=>h.elim
 | .store ..,_,_,_,h,_,_=>h.elim
 | .new ..,_,_,_,h,_,_=>h.elim
 | .shape ..,_,_,_,h,_,_=>h.elim
 | .freeze ..,_,_,_,h,_,_=>h.elim
 | .frozen ..,_,_,_,h,_,_=>h.elim
 | .getObj ..,_,_,_,h,_,_=>h.elim
 | .setObj ..,_,_,_,h,_,_=>h.elim
 | .choose ..,_,_,_,h,_,_=>h.elim
 | .sys ..,_,_,_,h,_,_=>h.elim
 | .mark ..,_,_,_,h,_,_=>h.elim
theorem zK:fY program:=λ_=>trivial
theorem zL(t:TypeId):fY (underlying t):=by
 unfold underlying;refine fY.bind zK λp=>?_;split<;>trivial
theorem DK(t:TypeId):fY (typeInfo t):=by
 unfold typeInfo;refine fY.bind zK λp=>?_;split<;>trivial
theorem DL(t:TypeId):fY (Go.sizeOf t):=fY.bind (DK t) λ_=>trivial
theorem DM(t:TypeId):fY (isAgg t):=by
 unfold isAgg;refine fY.bind (zL t) λd=>?_;split<;>trivial
theorem DN(t:TypeId)(cs:Array aa)(off:Nat):fY (part t cs off):=by
 unfold part;refine fY.bind (DM t) λd=>?_;split
 .exact fY.bind (DL t) λ_=>trivial
 .split<;>trivial
theorem DO(t:TypeId)(x:aa)(i:Nat):fY (Instr.field t x i):=by
 unfold Instr.field;refine fY.bind (zL t) λd=>?_;split
 .split
  .refine fY.bind ?_ λ_=>DN _ _ _
   unfold asAgg;split<;>trivial
  .trivial
 .trivial
def zM:Op->aj
 | .move _=>true
 | .assign _=>true
 | .pick _ _ _=>true
 | .field _ _ _=>true
 |_=>false
def q7(P:Program)(o:Oper)(K:aa->Prop)(e:Env)(w:J):Prop:=
 bif zM o.op&&known e o.op.operands then
  match (execOp (ro e) o).run P w with
  | .ok (.value v) _=>K v
  |_=>False
 else False
def pr(P:Program)(o:Oper)(K:aa->Prop)(e:Env):Prop:=
 match ff P o e with
 |some v=>K v
 |none=>False
def zN(P:Program)(T:TypeId)(x:aa)(i:Nat)(K:aa->Prop):Prop:=
 match P.underlying T with
 |some (.struct fs)=>match fs[i]? with
  |some f=>match x with
   | .pointer (some A)=>match P.underlying f.type with
    |some _=>bif Nat.beq (P.cellsOf f.type) 0 then False else K (.pointer (some (A.add f.offset)))
    |none=>False
   |_=>False
  |none=>False
 |_=>False
def zO(x:aa)(i:Nat)(K:aa->Prop):Prop:=
 match x with
 | .tuple vs=>match vs[i]? with
  |some v=>K v
  |none=>False
 |_=>False
def jG(o:Oper):aj:=
 match o.op with
 | .load _ _=>true
 | .convert _ _ _=>true
 |_=>false
def kZ:Nat->O Oper->Nat
 |_,[]=>0
 |i,o::l=>bif jG o then 2^i|||kZ (i+1) l else kZ (i+1) l
def wW(P:Program)(tk:TypeId->dS)(W:Nat->Prop)(w:J)(o:Oper)(K:aa->Prop)(e:Env):Prop:=
 match o.op with
 | .nilCheck x=>match ev e x with
  |some (.pointer p)=>∃A,p=some A/\K (.pointer (some A))
  |_=>False
 | .load T x=>match ev e x with
  |some (.pointer (some A))=>¬W A.block/\pj P tk T A w K
  |_=>False
 | .binOp op T x y _=>match ev e x,ev e y with
  |some a,some c=>bif pq y c then sQ P op T a c K (pr P o K e) else False
  |_,_=>False
 | .indexAddr T x i=>match ev e x,ev e i with
  |some a,some b=>sU P T a b K
  |_,_=>False
 | .index T x i=>match ev e x,ev e i with
  |some a,some b=>sV P tk T a b K
  |_,_=>False
 | .field T x i=>match ev e x with
  |some a=>sW P tk T a i K
  |_=>False
 | .fieldAddr T x i=>match ev e x with
  |some a=>zN P T a i K
  |_=>False
 | .extract x i=>match ev e x with
  |some a=>zO a i K
  |_=>False
 | .slice T x lo hi f=>bif known e o.op.operands then
  sX P T (ro e x) (lo.map (ro e)) (hi.map (ro e)) (f.map (ro e)) K
  else False
 | .convert s d x=>match ev e x with
  |some (.int _ _)=>pr P o K e
  |some v=>ih (tk o.type) λr=>(∀w',ab W w w'->(convert s d v).run P w'=.ok r w')/\K r
  |none=>False
 | .build t ps=>bif known e o.op.operands then
  ∃cs:Array aa,(∀w',(Instr.build t (ps.map λp=>(p.1,ro e p.2))).run P w'=.ok (.agg cs) w')/\K (.agg cs)
  else False
 | .unOp _ _ _=>pr P o K e
 | .call _=>pr P o K e
 | .move _=>q7 P o K e w
 | .assign _=>q7 P o K e w
 | .pick _ _ _=>q7 P o K e w
 | .sliceToArrayPointer T x=>match ev e x with
  |some a=>sT P T a K
  |_=>False
 |_=>False
section
variable {P:Program}{tk:TypeId->dS}{W:Nat->Prop}{o:Oper}{K:aa->Prop}{e:Env}{a:Act}{w:J}
theorem wX(ar:dy e a)(h:q7 P o K e w):∃v,(∀w',(execOp a.eval o).run P w'=.ok (.value v) w')/\K v:=by
 unfold q7 at h
 cases hf:zM o.op with
 |false=>rw[hf]at h;exact h.elim
 |true=>
  cases c:known e o.op.operands with
  |false=>rw[hf,c]at h;exact h.elim
  |true=>
   rw[hf,c]at h;simp only[Bool.and_self,cond_true]at h;have hc:=kr ar (by cases b:o.op<;>rw[b]at hf<;>first|rfl|cases hf) c;rw[hc];split at h
   .rename_i v w' d
    refine⟨v,λu=>fY.run ?_ d u,h⟩
    cases b:o.op<;>rw[b]at hf<;>first|(cases hf;done)|skip
    .simp only[execOp,b];trivial
    .simp only[execOp,b];trivial
    .simp only[execOp,b]
     refine fY.bind ?_ λ_=>trivial;unfold asBool;split<;>trivial
    .simp only[execOp,b]
     exact fY.bind (DO _ _ _) λ_=>trivial
   .exact h.elim
theorem s3(ar:dy e a)(h:pr P o K e):∃v,(∀w',(execOp a.eval o).run P w'=.ok (.value v) w')/\K v:=by
 unfold pr at h;split at h
 .rename_i v b
  exact⟨v,zH ar b,h⟩
 .exact h.elim
theorem DP(ar:dy e a)(h:wW P tk W w o K e):∃v,(∀w',(jG o=true->ab W w w')->(execOp a.eval o).run P w'=.ok (.value v) w')/\K v:=by
 have aW:(∃v,(∀w',(execOp a.eval o).run P w'=.ok (.value v) w')/\K v)->∃v,(∀w',(jG o=true->ab W w w')->(execOp a.eval o).run P w'=.ok (.value v) w')/\K v:=
  λ⟨v,h1,F⟩=>⟨v,λw' _=>h1 w',F⟩
 unfold wW at h;split at h
 case h_1 x b=>
  split at h
  .rename_i p hx
   obtain⟨A,rfl,g⟩:=h;exact⟨_,λw' _=>by simp[execOp,b,ar.ev hx],g⟩
  .exact h.elim
 case h_2 T x b=>
  split at h
  .rename_i A hx
   obtain⟨cd,h⟩:=h;have key:∃v,(∀w',ab W w w'->(Instr.loadAt T (.pointer (some A))).run P w'=.ok v w')/\K v:=by
    have z:∀w',(Instr.loadAt T (.pointer (some A))).run P w'=(loadVar T A).run P w':=λw'=>by simp[Instr.loadAt,Instr.sureAddr]
    unfold pj at h;split at h
    .exact h.elim
    .rename_i d m
     cases hd:ly d with
     |true=>
      rw[hd]at h;simp only[cond_true]at h;split at h
      .rename_i ls _
       by_cases n:Nat.beq (P.cellsOf T) ls.length=true
       .rw[n]at h
        simp only[cond_true]at h;obtain⟨vs,C,h⟩:=wP h;rw[←ix n]at C;exact⟨_,λw' hc=>by rw[z,sP m hd (hc.cL cd _ _ _ C)],h⟩
       .simp only[fN]at n;rw[n]at h;exact h.elim
      .obtain⟨cs,G,h⟩:=h
       exact⟨_,λw' hc=>by rw[z,sP m hd (hc.cL cd _ _ _ G)],h⟩
     |false=>
      rw[hd]at h;simp only[cond_false]at h;split at h
      .obtain⟨v,j,h⟩:=pg h
       exact⟨v,λw' hc=>by rw[z,zl m hd (hc.cell cd j)],h⟩
      .exact h.elim
   obtain⟨v,j,g⟩:=key;exact⟨v,λw' hc=>by simp[execOp,b,ar.ev hx,j w' (hc (by unfold jG;rw[b]))],g⟩
  .exact h.elim
 case h_3 op T x y M b=>
  split at h
  .rename_i l D hx H
   by_cases q:pq y D=true
   .rw[q]at h
    simp only[cond_true]at h;have I:D=.nilIface->∃c,y=.const c:=by
     intro j;subst j
     cases y<;>simp[pq]at q⊢
    rcases zt (qZ:=x) (po:=y) I h with hg|⟨v,j,g⟩
    .exact aW (s3 ar hg)
    .exact⟨v,λw' _=>by
      simp only[execOp,b,ar.ev hx,ar.ev H];have E:=j w';simp only[Sem.run_bind]at E⊢;rw[E];rfl,g⟩
   .simp only[fN]at q;rw[q]at h;exact h.elim
  .exact h.elim
 case h_4 T x i b=>
  split at h
  .rename_i l J hx hi
   obtain⟨v,j,g⟩:=zv h;exact⟨v,λw' _=>by simp[execOp,b,ar.ev hx,ar.ev hi,j],g⟩
  .exact h.elim
 case h_5 T x i b=>
  split at h
  .rename_i l J hx hi
   obtain⟨v,j,g⟩:=zx h;exact⟨v,λw' _=>by simp[execOp,b,ar.ev hx,ar.ev hi,j],g⟩
  .exact h.elim
 case h_6 T x i b=>
  split at h
  .rename_i l hx
   obtain⟨v,j,g⟩:=zy h;exact⟨v,λw' _=>by simp[execOp,b,ar.ev hx,j],g⟩
  .exact h.elim
 case h_7 T x i b=>
  split at h
  .rename_i l hx
   unfold zN at h;split at h
   .rename_i fs m
    split at h
    .rename_i f hf
     split at h
     .rename_i A
      split at h
      .rename_i d hd
       cases u:Nat.beq (P.cellsOf f.type) 0 with
       |true=>rw[u]at h;exact h.elim
       |false=>
        rw[u]at h;have L:¬P.cellsOf f.type=0:=λh0=>by rw[h0]at u;cases u
        exact⟨_,λw' _=>by simp[execOp,b,ar.ev hx,Instr.fieldAt,dm m,hf,Instr.sureAddr,fieldPlace,iC hd,L],h⟩
      .exact h.elim
     .exact h.elim
    .exact h.elim
   .exact h.elim
  .exact h.elim
 case h_8 x i b=>
  split at h
  .rename_i l hx
   unfold zO at h;split at h
   .rename_i vs
    split at h
    .rename_i v j
     exact⟨v,λw' _=>by simp[execOp,b,ar.ev hx,Instr.extract,j],h⟩
    .exact h.elim
   .exact h.elim
  .exact h.elim
 case h_9 T x lo hi N b=>
  by_cases k:known e o.op.operands=true
  .rw[k]at h
   simp only[cond_true]at h;have hc:=kr ar (by rw[b];rfl) k;obtain⟨v,j,g⟩:=zz h;exact⟨v,λw' _=>by rw[hc];simp[execOp,b,j],g⟩
  .simp only[fN]at k;rw[k]at h;exact h.elim
 case h_10 s d x b=>
  split at h
  .exact aW (s3 ar h)
  .rename_i v _ hx
   obtain⟨r,B,g⟩:=iB h;exact⟨r,λw' hc=>by simp[execOp,b,ar.ev hx,B w' (hc (by unfold jG;rw[b]))],g⟩
  .exact h.elim
 case h_11 t ps b=>
  by_cases k:known e o.op.operands=true
  .rw[k]at h
   simp only[cond_true]at h;have hc:=kr ar (by rw[b];rfl) k;obtain⟨cs,B,g⟩:=h;exact⟨_,λw' _=>by rw[hc];simp[execOp,b];rw[B];rfl,g⟩
  .simp only[fN]at k;rw[k]at h;exact h.elim
 case h_12=>exact aW (s3 ar h)
 case h_13=>exact aW (s3 ar h)
 case h_14=>exact aW (wX ar h)
 case h_15=>exact aW (wX ar h)
 case h_16=>exact aW (wX ar h)
 case h_17 T x b=>
  split at h
  .rename_i l hx
   obtain⟨v,j,g⟩:=zu h;exact⟨v,λw' _=>by simp[execOp,b,ar.ev hx,j],g⟩
  .exact h.elim
 case h_18=>exact h.elim
end
inductive aM where
 |take (i:Nat) (t:aM)
 |bP (i:Nat) (t:aM)
 |out (i:Nat) (b:aj) (t:aM)
 |two (i:Nat) (t:aM) (j:Nat) (u:aM)
 |three (i:Nat) (t:aM) (j:Nat) (u:aM) (k:Nat) (v:aM)
 |sp (s:Nat) (t u:aM)
 |fin
 |tail (as:O kX)
def ij:O Nat->Nat
 | []=>0
 |d::l=>2^d|||ij l
theorem l7:∀ (l:O Nat) (k:Nat),(ij l).testBit k=decide (k∈l)
 | [],k=>by simp[ij]
 |d::l,k=>by
  simp only[ij,mI,l7 l k,qJ]
  by_cases h:d=k
  .subst h;simp
  .have:¬k=d:=λa=>h a.symm
   simp[h,this]
def mW(o:Oper):O Nat:=(o.after.toList.filter λe=>Region.binds .any e).map (·.on)
structure kt where
 M:O Nat
 A:O Nat
def ku(l:O Nat)(i:Nat):Nat:=l.getD i 0
def kv(bY:kt)(m i:Nat):aj:= !(m.testBit i)&&Nat.beq (ku bY.M i&&&m) (ku bY.M i)
def zP(bY:kt)(N m i:Nat):aj:=Nat.beq (ku bY.A i&&&((2^N-1)^^^m)) 0
def k0(bY:kt)(m:Nat)(is:O Nat):Nat->aj
 |0=>true
 |k+1=>(is.any (Nat.beq k)|| !(kv bY m k))&&k0 bY m is k
def q8(bY:kt):Nat->O Oper->aj
 |_,[]=>true
 |i,o::l=>Nat.beq (ij (mW o)) (ku bY.M i)&&q8 bY (i+1) l
def q9(M:O Nat)(a i b c:Nat):Nat->O Nat->O Nat->O Nat->aj
 |j,e::f,d::g,h::k=>(a.testBit j||(Nat.beq i j||(e.testBit i||(Nat.beq (b&&&(h|||d)) 0&&Nat.beq (d&&&c) 0))))&&q9 M a i b c (j+1) f g k
 |_,_,_,_=>true
def s4(bY:kt)(D K:O Nat):Nat->O Nat->O Nat->aj
 |i,d::a,k::b=>q9 bY.M (ku bY.A i) i d k 0 bY.M D K&&s4 bY D K (i+1) a b
 |_,_,_=>true
def zQ(ops:O Oper):O Nat:=ops.map λo=>ij o.dst.toList
def zR(a:Array Oper)(ops:O Oper):O Nat:=ops.map λo=>ij (o.looksAt a)
def q_:O Nat->O Nat->aj
 | [],[]=>true
 |a::l,b::r=>Nat.beq a b&&q_ l r
 |_,_=>false
theorem wY:∀ {l r:O Nat},q_ l r=true->l=r
 | [],[],_=>rfl
 |a::l,b::r,h=>by
  simp only[q_,ed]at h
  rw[ix h.1,wY h.2]
def lA(bY:kt)(D K:O Nat)(a:Array Oper):aj:=
 Nat.beq bY.M.length a.size&&(q8 bY 0 a.toList&&(q_ (zQ a.toList) D&&(q_ (zR a a.toList) K&&s4 bY D K 0 D K)))
def ra(bY:kt):Nat->Nat->Nat->Nat->aj
 |0,_,N,m=>k0 bY m [] N
 |g+1,k,N,m=>(kv bY m k&&k0 bY m [k] N)&&ra bY g (k+1) N (m|||2^k)
def dZ(P:Program)(tk:TypeId->dS)(ops:Array Oper)(n:Nat)(bY:kt)(W:Nat->Prop):aM->Nat->Nat->(Env->J->Prop)->Env->J->Prop
 | .take i t,f+1,m,K,e,w=>
  bif kv bY m i&&(zP bY ops.size m i&&Nat.blt i n) then
   match ops[i]? with
   |some o=>gW ops o e (wW P tk W w o (λv=>dZ P tk ops n bY W t f (m|||2^i) K (dk o.dst v e) w) e) (dZ P tk ops n bY W t f (m|||2^i) K (dk o.dst undef e) w)
   |none=>False
  else False
 | .bP i t,f+1,m,K,e,w=>
  bif (kv bY m i&&k0 bY m [i] ops.size)&&Nat.blt i n then
   match ops[i]? with
   |some o=>gW ops o e (jF P tk o (λv w'=>ab W w w'/\dZ P tk ops n bY W t f (m|||2^i) K (dk o.dst v e) w') e w) (dZ P tk ops n bY W t f (m|||2^i) K (dk o.dst undef e) w)
   |none=>False
  else False
 | .out i b t,f+1,m,K,e,w=>
  bif (kv bY m i&&k0 bY m [i] ops.size)&&(Nat.blt i n&&Nat.beq ((kZ 0 ops.toList&&&m)&&&ku bY.M i) (kZ 0 ops.toList&&&m)) then
   match ops[i]? with
   |some o=>gW ops o e (jF P tk o (λv w'=>bif b then ∃V:Nat->Prop,dZ P tk ops n bY V t f (m|||2^i) K (dk o.dst v e) w' else dZ P tk ops n bY W t f (m|||2^i) K (dk o.dst v e) w') e w) (dZ P tk ops n bY W t f (m|||2^i) K (dk o.dst undef e) w)
   |none=>False
  else False
 | .two i t j u,f+1,m,K,e,w=>
  bif (kv bY m i&&k0 bY m [i,j] ops.size)&&(Nat.blt i n&&Nat.blt j n) then
   match ops[i]?,ops[j]? with
   |some o,some q=>
    gW ops o e (jF P tk o (λv w'=>ab W w w'/\dZ P tk ops n bY W t f (m|||2^i) K (dk o.dst v e) w') e w) (dZ P tk ops n bY W t f (m|||2^i) K (dk o.dst undef e) w)/\
    gW ops q e (jF P tk q (λv w'=>ab W w w'/\dZ P tk ops n bY W u f (m|||2^j) K (dk q.dst v e) w') e w) (dZ P tk ops n bY W u f (m|||2^j) K (dk q.dst undef e) w)
   |_,_=>False
  else False
 | .three i t j u k x,f+1,m,K,e,w=>
  bif (kv bY m i&&k0 bY m [i,j,k] ops.size)&&(Nat.blt i n&&(Nat.blt j n&&Nat.blt k n)) then
   match ops[i]?,ops[j]?,ops[k]? with
   |some o,some q,some r=>
    gW ops o e (jF P tk o (λv w'=>ab W w w'/\dZ P tk ops n bY W t f (m|||2^i) K (dk o.dst v e) w') e w) (dZ P tk ops n bY W t f (m|||2^i) K (dk o.dst undef e) w)/\
    gW ops q e (jF P tk q (λv w'=>ab W w w'/\dZ P tk ops n bY W u f (m|||2^j) K (dk q.dst v e) w') e w) (dZ P tk ops n bY W u f (m|||2^j) K (dk q.dst undef e) w)/\
    gW ops r e (jF P tk r (λv w'=>ab W w w'/\dZ P tk ops n bY W x f (m|||2^k) K (dk r.dst v e) w') e w) (dZ P tk ops n bY W x f (m|||2^k) K (dk r.dst undef e) w)
   |_,_,_=>False
  else False
 | .sp s t u,f,m,K,e,w=>
  match e.get s with
  |some (.bool c)=>(c=true->dZ P tk ops n bY W t f m K ((s,.bool true)::e) w)/\(c=false->dZ P tk ops n bY W u f m K ((s,.bool false)::e) w)
  |_=>False
 | .fin,0,m,K,e,w=>bif k0 bY m [] ops.size&&Nat.beq n ops.size then K e w else False
 | .tail as,0,m,K,e,w=>bif ra bY (ops.size-n) n ops.size m&&Nat.blt n ops.size then fX P tk ops (ops.size-n+1) (ops.toList.drop n) as K e w else False
 |_,_,_,_,_,_=>False
def eF(N m:Nat):Array aj:=(Array.range N).map λi=>m.testBit i
theorem pt{N m i:Nat}{d:aj}(h:i<N):(eF N m).getD i d=m.testBit i:=by
 simp[eF,h]
theorem DQ{N m i:Nat}{d:aj}(h:N<=i):(eF N m).getD i d=d:=by
 simp[eF,h]
theorem s5(N m i:Nat):(eF N m).setIfInBounds i true=eF N (m|||2^i):=by
 apply Array.ext
 .simp[eF]
 .intro j h1 b
  have c:j<N:=by simpa[eF] using b
  have d:j<(eF N m).size:=by simpa[eF] using c
  rw[Array.getElem_setIfInBounds d];simp only[eF,Array.getElem_map,Array.getElem_range,mI,qJ];by_cases a:i=j
  .subst a;simp
  .simp[a]
theorem zS(N:Nat):eF N 0=Array.replicate N false:=by
 apply Array.ext
 .simp[eF]
 .intro j h1 a
  simp[eF]
section
variable {ops:Array Oper}{bY:kt}{D K:O Nat}
theorem zT:∀ (l:O Oper) (i k:Nat) (o:Oper),q8 bY i l=true->l[k]? =some o->ku bY.M (i+k)=ij (mW o)
 | [],_,_,_,_,h=>by simp at h
 |p::l,i,0,o,hc,h=>by
  simp only[q8,ed]at hc
  simp only[lp,Option.some.injEq]at h
  subst h
  exact(ix hc.1).symm
 |p::l,i,k+1,o,hc,h=>by
  simp only[q8,ed]at hc
  have:=zT l (i+1) k o hc.2 (by simpa using h)
  rw[show i+(k+1)=i+1+k from I]
  exact this
theorem s6(h:lA bY D K ops=true){i:Nat}{o:Oper}(a:ops[i]? =some o):ku bY.M i=ij (mW o):=by
 simp only[lA,ed]at h;have:=zT ops.toList 0 i o h.2.1 (by simpa using a);simpa using this
theorem zU{a b:Nat}(h:a&&&b=a){k:Nat}(c:a.testBit k=true):b.testBit k=true:=by
 have:=congrArg (λx=>x.testBit k) h;simp only[Nat.testBit_and,c,jz]at this;exact this
theorem zV:∀ (l:O Oper) (i k:Nat) (o:Oper),l[k]? =some o->(kZ i l).testBit (i+k)=jG o
 | [],_,_,_,h=>by simp at h
 |p::l,i,0,o,h=>by
  simp only[lp,Option.some.injEq]at h
  subst h
  have low:∀ (l:O Oper) (i k:Nat),k<i->(kZ i l).testBit k=false:=by
   intro l
   induction l with
   |nil=>intro i k _;simp[kZ]
   |cons q l a=>
    intro i k b;simp only[kZ]
    cases jG q
    .exact a (i+1) k I
    .simp only[cond_true,mI,qJ,a (i+1) k I,Bool.or_false,jA]
     omega
  simp only[kZ,kk]
  cases jG p
  .exact low l (i+1) i I
  .simp[mI]
 |p::l,i,k+1,o,h=>by
  have:=zV l (i+1) k o (by simpa using h);rw[show i+1+k=i+(k+1) from I]at this;simp only[kZ]
  cases jG p
  .exact this
  .simp only[cond_true,mI,qJ,this]
   simp
theorem s7{o:Oper}{k:Nat}:k∈mW o↔∃e∈o.after,Region.binds .any e=true/\e.on=k:=by
 simp only[mW,dv,hE,Array.mem_toList_iff];constructor
 .rintro⟨e,⟨h1,a⟩,b⟩;exact⟨e,h1,a,b⟩
 .rintro⟨e,h1,a,b⟩;exact⟨e,⟨h1,a⟩,b⟩
def Small(N m:Nat):Prop:=∀k,N<=k->m.testBit k=false
theorem DR(N:Nat):Small N 0:=λk _=>by simp
theorem s8{N m i:Nat}(h:Small N m)(hi:i<N):Small N (m|||2^i):=λk a=>by
 simp only[mI,h k a,qJ,kT,jA]
 omega
theorem s9(hc:lA bY D K ops=true){m i:Nat}(g:Small ops.size m):i∈Region.ready .any ops (eF ops.size m)↔i<ops.size/\kv bY m i=true:=by
 rw[mem_ready];constructor
 .rintro⟨h1,o,b,j⟩
  have hi:i<ops.size:=(lV.1 b).1;refine⟨hi,?_⟩;rw[pt hi]at h1;simp only[kv,h1,Bool.not_false,jz];rw[s6 hc b];have:ij (mW o)&&&m=ij (mW o):=by
   apply Nat.eq_of_testBit_eq;intro k;simp only[Nat.testBit_and,l7];by_cases c:k∈mW o
   .obtain⟨e,he,d,l⟩:=s7.1 c
    have a:=j e he d;rw[l]at a;rcases dH k ops.size with aH|n
    .rw[pt aH]at a;simp[c,a]
    .rw[DQ n]at a;cases a
   .simp[c]
  rw[this];exact Nat.beq_refl _
 .rintro⟨hi,h⟩
  simp only[kv,ed,ln]at h;have b:ops[i]? =some ops[i]:=by simp[hi]
  refine⟨by rw[pt hi];exact h.1,ops[i],b,λe he d=>?_⟩;have a:=ix h.2;rw[s6 hc b]at a;have f:m.testBit e.on=true:=zU a (by
   rw[l7];simp only[cS];exact s7.2 ⟨e,he,d,rfl⟩)
  have aH:e.on<ops.size:=by
   rcases dH e.on ops.size with h|h
   .exact h
   .rw[g _ h]at f;cases f
  rw[pt aH];exact f
theorem zW:∀ (N:Nat) {m:Nat}{is:O Nat},k0 bY m is N=true->∀k,k<N->kv bY m k=true->k∈is
 |0,_,_,_,k,c,_=>by omega
 |N+1,m,is,h,k,c,b=>by
  simp only[k0,ed,jl,ln]at h
  rcases dH k N with h1|h1
  .exact zW N h.2 k h1 b
  .have:k=N:=by omega
   subst this
   rcases h.1 with a|a
   .obtain⟨x,hx,d⟩:=List.any_eq_true.1 a
    rw[ix d];exact hx
   .rw[b]at a;cases a
theorem nR(hc:lA bY D K ops=true){m:Nat}{is:O Nat}(a:Small ops.size m)(h:k0 bY m is ops.size=true):
 ∀k∈Region.ready .any ops (eF ops.size m),k∈is:=λk b=>
 let ⟨h1,c⟩:=(s9 hc a).1 b
 zW _ h k h1 c
theorem zX:∀ (b c d:O Nat) (n:O Nat) (e i f g j k:Nat) (l a m:Nat),q9 n e i f g j b c d=true->b[k]? =some l->c[k]? =some a->d[k]? =some m->
 e.testBit (j+k)=true\/i=j+k\/l.testBit i=true\/(f&&&(m|||a)=0/\a&&&g=0)
 | [],_,_,_,_,_,_,_,_,_,_,_,_,_,h,_,_=>by simp at h
 |_::_,[],_,_,_,_,_,_,_,_,_,_,_,_,_,h,_=>by simp at h
 |_::_,_::_,[],_,_,_,_,_,_,_,_,_,_,_,_,_,h=>by simp at h
 |q::b,r::c,s::d,n,e,i,f,g,j,k,l,a,m,hc,h1,o,p=>by
  simp only[q9,ed,jl]at hc
  cases k with
  |zero=>
   simp only[lp,Option.some.injEq]at h1 o p
   subst h1 o p
   rcases hc.1 with h|h|h|h
   .exact .inl h
   .exact .inr (.inl (ix h))
   .exact .inr (.inr (.inl h))
   .exact .inr (.inr (.inr ⟨ix h.1,ix h.2⟩))
  |succ k=>
   have:=zX b c d n e i f g (j+1) k l a m hc.2 (by simpa using h1) (by simpa using o) (by simpa using p)
   rw[show j+(k+1)=j+1+k from I]
   exact this
theorem zY:∀ (a b:O Nat) (i k:Nat) (c e:Nat),s4 bY D K i a b=true->a[k]? =some c->b[k]? =some e->
 q9 bY.M (ku bY.A (i+k)) (i+k) c e 0 bY.M D K=true
 | [],_,_,_,_,_,_,h,_=>by simp at h
 |_::_,[],_,_,_,_,_,_,h=>by simp at h
 |d::a,g::b,i,k,c,e,hc,h1,f=>by
  simp only[s4,ed]at hc
  cases k with
  |zero=>
   simp only[lp,Option.some.injEq]at h1 f
   subst h1 f
   exact hc.1
  |succ k=>
   have:=zY a b (i+1) k c e hc.2 (by simpa using h1) (by simpa using f)
   rw[show i+(k+1)=i+1+k from I]
   exact this
theorem wZ{a b:Nat}(h:a&&&b=0){k:Nat}(c:a.testBit k=true):b.testBit k=false:=by
 have:=congrArg (λx=>x.testBit k) h;simp only[Nat.testBit_and,c,jz,Nat.zero_testBit]at this;exact this
theorem DS{x y:Oper}(h1:ij x.dst.toList&&&(ij (y.looksAt ops)|||ij y.dst.toList)=0)(b:ij y.dst.toList&&&ij (x.looksAt ops)=0):
 x.apart ops y=true:=by
 unfold Oper.apart;simp only[ed];refine⟨?_,?_⟩
 .cases hx:x.dst with
  |none=>rfl
  |some d=>
   rw[hx]at h1;have a:=wZ h1 (k:=d) (by rw[l7];simp);simp only[mI,l7,nD,jA]at a;simp only[ed,ln,bne_iff_ne,ne_eq];refine⟨by simpa using a.1,λh=>?_⟩;rw[h]at a;simp at a
 .cases c:y.dst with
  |none=>rfl
  |some d=>
   rw[c]at b;have a:=wZ b (k:=d) (by rw[l7];simp);simp only[l7,jA]at a;simpa using a
theorem DT(hc:lA bY D K ops=true){m i:Nat}{d:Oper}(hi:ops[i]? =some d)(h:zP bY ops.size m i=true):
 ∀j a,ops[j]? =some a->j≠i->(eF ops.size m).getD j true=false->(∀e∈a.after,Region.binds .any e=true->e.on≠i)->d.apart ops a=true:=by
 intro j a b p f q;have r:=hc;simp only[lA,ed]at hc;obtain⟨hlen,C,s,t,ar⟩:=hc;have E:=ix hlen;have u:=wY s;have v:=wY t;have g:j<ops.size:=(lV.1 b).1;have l:∀ {k:Nat}{o:Oper},ops[k]? =some o->D[k]? =some (ij o.dst.toList):=λ{k o} c=>by
  rw[←u];simp[zQ,c]
 have n:∀ {k:Nat}{o:Oper},ops[k]? =some o->K[k]? =some (ij (o.looksAt ops)):=λ{k o} c=>by
  rw[←v];simp[zR,c]
 have w:=zY D K 0 i _ _ ar (l hi) (n hi);have x:bY.M[j]? =some (ku bY.M j):=by
  unfold ku;have:j<bY.M.length:=by omega
  simp[List.getD,this]
 have:=zX bY.M D K bY.M _ _ _ _ 0 j _ _ _ w x (l b) (n b);simp only[cA]at this;rcases this with h1|h1|h1|h1
 .exfalso
  have y:=ix h;have z:=wZ y h1;rw[pt g]at f;simp[Nat.testBit_xor,Nat.testBit_two_pow_sub_one,g,f]at z
 .exact absurd h1.symm p
 .exfalso
  rw[s6 r b,l7]at h1;simp only[cS]at h1;obtain⟨e,he,A,B⟩:=s7.1 h1;exact q e he A B
 .exact DS h1.1 h1.2
end
def nS(ops:Array Oper)(b:Array aj)(j:Nat):Prop:=
 ∀k ok a,ops[k]? =some ok->ops[j]? =some a->jG ok=true->b.getD k false=true->∃e∈a.after,Region.binds .any e=true/\e.on=k
def lB(P:Program)(ops:Array Oper)(Q:Exit->Act->J->Prop)(n:Nat)(L:Array aj->Act->J->Prop):Nat->(J->Prop)->Array aj->Act->J->Prop
 |0,_,b,a,w=>L b a w
 |f+1,S,b,a,w=>Region.ready .any ops b≠ []/\
  ∀i∈Region.ready .any ops b,i<n/\wpOp P ops Q i (λc w'=>∃aC:J->Prop,((∀x,aC x->S x)\/nS ops b i)/\aC w'/\lB P ops Q n L f aC (b.setIfInBounds i true) c w') a w
def rf(ops:Array Oper)(n:Nat):Prop:=
 ∀a,HeadInv .any ops n a->∀i,i<n->a.getD i true=false->∀t,n<=t->t∉Region.ready .any ops a
theorem DU(ops:Array Oper):rf ops ops.size:=by
 intro c _ i _ _ t ht a;obtain⟨_,o,b,_⟩:=mem_ready.1 a;have:=(lV.1 b).1;omega
theorem DV{ops:Array Oper}{n:Nat}(hs:Region.sinkB .any ops n=true)(hc:Region.chainB .any ops n=true)(a:n<ops.size):rf ops n:=
 λ_ inv i hi b t ht=>tail_waits hs hc a inv _ i rfl hi b t ht
section
variable {P:Program}{ops:Array Oper}{Q:Exit->Act->J->Prop}{n:Nat}{L:Array aj->Act->J->Prop}
theorem YieldsIf.mono{S aC:J->Prop}{o:Oper}{v:aa}{a:Act}(h:YieldsIf P ops S o v a)(hs:∀x,aC x->S x):YieldsIf P ops aC o v a:=
 h.imp (λ⟨h1,b⟩=>⟨h1,λw c=>b w (hs w c)⟩) id
theorem DW(F:rf ops n){i:Nat}{m:Oper}{v:aa}(hi:ops[i]? =some m)(G:∀ (j:Nat) (o:Oper) cs b,ops[j]? =some o->o.op≠ .select cs b)
 (ad:∀c a w,Q (.panic c) (a.put m.dst v) w->Q (.panic c) a w) (I:i<n) (ae:∀d a w,L d a w->∀j∈Region.ready .any ops d,n<=j):
 ∀ (f:Nat) (S T:J->Prop) (d:Array aj) (a:Act) (w:J),(∀x,S x->T x)->(jG m=true\/∀x,T x)->HeadInv .any ops n d->
  (∀j r,ops[j]? =some r->j≠i->d.getD j true=false->(∀e∈r.after,Region.binds .any e=true->e.on≠i)->m.apart ops r=true)->
  i∈Region.ready .any ops d->YieldsIf P ops T m v a->S w->
  lB P ops Q n L f S (d.setIfInBounds i true) (a.put m.dst v) w->lB P ops Q n L (f+1) S d a w:=by
 intro f
 induction f with
 |zero=>
  intro S T d a w y K inv _ p z t H;have g:=(mem_ready.1 p).1;refine⟨λh=>(by rw[h]at p;cases p),λj s=>?_⟩;have u:j<n:=by
   rcases dH j n with h|h
   .exact h
   .exact absurd s (F d inv i I g j h)
  refine⟨u,?_⟩;by_cases q:j=i
  .subst q;exact(YieldsIf.mono z y).wpOp hi t ⟨S,.inl λ_ h=>h,t,H⟩
  .have:=ae _ _ _ H j (ready_mono s q)
   omega
 |succ f M=>
  intro S T d a w y K inv N p z t H;have g:=(mem_ready.1 p).1;refine⟨λh=>(by rw[h]at p;cases p),λj s=>?_⟩;have u:j<n:=by
   rcases dH j n with h|h
   .exact h
   .exact absurd s (F d inv i I g j h)
  refine⟨u,?_⟩;by_cases q:j=i
  .subst q;exact(YieldsIf.mono z y).wpOp hi t ⟨S,.inl λ_ h=>h,t,H⟩
  .have h1:=(H.2 j (ready_mono s q)).2
   obtain⟨O,r,A,af⟩:=mem_ready.1 s;have R:∀e∈r.after,Region.binds .any e=true->e.on≠i:=λe he C ag=>by
    have h1:=af e he C;rw[ag,getD_both g]at h1
    cases h1
   have ah:=wpOp_putIf A (N j r A q O R) (λcs b=>G i m cs b hi) (λcs b=>G j r cs b A) ad z h1;have U:∀k ok,ops[k]? =some ok->k≠i->(d.setIfInBounds j true).getD k true=false->
    (∀e∈ok.after,Region.binds .any e=true->e.on≠i)->m.apart ops ok=true:=λk ok D ai g ak=>by
    refine N k ok D ai ?_ ak;by_cases V:j=k
    .subst V;exact O
    .rw[getD_set_ne true V]at g;exact g
   refine wpOp_mono (λW w' al=>?_) ah;obtain⟨X,aC,Y,B,am⟩:=al;have E:=am;rw[←Array.setIfInBounds_comm _ _ q]at E;have an:nS ops (d.setIfInBounds i true) j->nS ops d j:=λao k ok ap D aq hs l=>ao k ok ap D aq hs (by
    by_cases Z:i=k
    .subst Z
     have:d.getD i true=true:=by
      simp only[Array.getD]at l⊢;split at l
      .rename_i aH;simp[aH]at l⊢;exact l
      .cases l
     rw[this]at g;cases g
    .simp only[Array.getD,Array.size_setIfInBounds]at l⊢
     split at l
     .rename_i aH
      simp only[aH,dif_pos];simp only[Array.getInternal_eq_getElem]at l⊢;rw[Array.getElem_setIfInBounds_ne _ Z];exact l
     .cases l)
   rcases K with hs|ab
   .have ac:∀x,aC x->S x:=by
     rcases Y with h|h
     .exact h
     .exfalso
      obtain⟨e,he,C,ar⟩:=h i m r hi A hs (by
       have aH:i<d.size:=by
        rcases dH i d.size with h|h
        .exact h
        .simp[Array.getD,Nat.not_lt.2 h]at g
       simp[Array.getD,aH])
      exact R e he C ar
    exact⟨aC,.inl ac,B,M aC T (d.setIfInBounds j true) W w' (λx hx=>y x (ac x hx)) (.inl hs) (inv.set s u) U (ready_mono p (Ne.symm q)) X B E⟩
   .exact⟨aC,Y.imp id an,B,M aC T (d.setIfInBounds j true) W w' (λx _=>ab x) (.inr ab) (inv.set s u) U (ready_mono p (Ne.symm q)) X B E⟩
theorem zZ{g:Nat}(c:∀b a w,L b a w->wpAny P .any ops Q g b a w):
 ∀ (f:Nat) (S:J->Prop) (b:Array aj) (a:Act) (w:J),lB P ops Q n L f S b a w->wpAny P .any ops Q (f+g) b a w
 |0,_,b,a,w,h=>by rw[cA];exact c _ _ _ h
 |f+1,S,b,a,w,h=>by
  rw[show f+1+g=(f+g)+1 from I]
  exact⟨λh0=>absurd h0 h.1,λi hi=>wpOp_mono (λd w' ⟨aC,_,_,e⟩=>zZ c f aC _ d w' e) (h.2 i hi).2⟩
def LE(P:Program)(ops:Array Oper)(Q:Exit->Act->J->Prop)(n:Nat)(b:Array aj)(a:Act)(w:J):Prop:=
 (Region.ready .any ops b=[]/\n=ops.size/\Q .normal a w)\/
 (Region.seqB .any ops (ops.size-n) n b=true/\n<ops.size/\wpList P ops Q (ops.toList.drop n) a w)
theorem DX:∀b a w,LE P ops Q n b a w->∀j∈Region.ready .any ops b,n<=j:=by
 rintro b a w (⟨h,_,_⟩|⟨h,d,_⟩) j c
 .rw[h]at c;cases c
 .exact seqB_ready h j c
theorem DY:∀b a w,LE P ops Q n b a w->wpAny P .any ops Q (ops.size-n) b a w:=by
 rintro b a w (⟨h,d,c⟩|⟨h,d,c⟩)
 .subst d
  rw[lW];exact⟨h,c⟩
 .have:=wpAny_of_seq (md:=.any) (P:=P) (Q':=Q) (ops.toList.drop n) n b a w (λj=>by simp[nE]) (by simpa using h) c
  simpa using this
end
section
variable {P:Program}{tk:TypeId->dS}{ops:Array Oper}{n:Nat}{bY:kt}{D0 ej:O Nat}{W:Nat->Prop}
theorem z1(hc:lA bY D0 ej ops=true):∀ (g k m:Nat),Small ops.size m->k+g=ops.size->ra bY g k ops.size m=true->Region.seqB .any ops g k (eF ops.size m)=true
 |0,k,m,c,e,h=>by
  simp only[ra]at h
  simp only[Region.seqB,List.isEmpty_iff]
  cases f:Region.ready .any ops (eF ops.size m) with
  |nil=>rfl
  |cons x l=>
   have:=nR hc c h x (by rw[f];simp)
   cases this
 |g+1,k,m,c,e,h=>by
  simp only[ra,ed]at h
  simp only[Region.seqB,ed,cS]
  have d:k<ops.size:=by omega
  have b:k∈Region.ready .any ops (eF ops.size m):=(s9 hc c).2 ⟨d,h.1.1⟩
  refine⟨?_,?_⟩
  .have a:=nR hc c h.1.2
   have c6:(Region.ready .any ops (eF ops.size m)).Nodup:=by
    unfold Region.ready;exact List.Pairwise.filter _ List.nodup_range
   revert b a c6
   generalize Region.ready .any ops (eF ops.size m)=l;intro b a c6
   match l,b,a,c6 with
   | [],b,_,_=>cases b
   | [x],b,a,_=>rw[fi.1 (a x (by simp))]
   |x::y::l,_,a,c6=>
    have hx:=fi.1 (a x (by simp));have i:=fi.1 (a y (by simp));simp[hx,i]at c6
  .rw[s5]
   exact z1 hc g (k+1) (m|||2^k) (s8 c d) I h.2
theorem DZ(hc:lA bY D0 ej ops=true)(ao:rf ops n)(aI:n<=ops.size)(ap:Region.noSelect ops=true){A:Act}(af:∀d∈bT ops.toList,d<A.tmps.size):
 ∀ (t:aM) (W:Nat->Prop) (f:Nat) (m:Nat) (K:Env->J->Prop) (e:Env) (a:Act) (w:J),dy e a->ee (bT ops.toList) A a->Small ops.size m->HeadInv .any ops n (eF ops.size m)->
  dZ P tk ops n bY W t f m K e w->lB P ops (gG A (bT ops.toList) K) n (LE P ops (gG A (bT ops.toList) K) n) f (ab W w) (eF ops.size m) a w:=by
 intro t;have R:∀ (i:Nat) (o:Oper),ops[i]? =some o->∀k,o.dst=some k->k∈bT ops.toList:=by
  intro i o z k g;simp only[bT,List.mem_filterMap];exact⟨o,by simpa using Array.mem_of_getElem? z,g⟩
 have S:∀ (W:Nat->Prop) (t:aM),(∀ (W:Nat->Prop) (f:Nat) (m:Nat) (K:Env->J->Prop) (e:Env) (a:Act) (w:J),dy e a->ee (bT ops.toList) A a->Small ops.size m->HeadInv .any ops n (eF ops.size m)->
  dZ P tk ops n bY W t f m K e w->lB P ops (gG A (bT ops.toList) K) n (LE P ops (gG A (bT ops.toList) K) n) f (ab W w) (eF ops.size m) a w)->
  ∀ (f:Nat) (m:Nat) (K:Env->J->Prop) (e:Env) (a:Act) (w:J) (i:Nat) (o:Oper),dy e a->ee (bT ops.toList) A a->Small ops.size m->HeadInv .any ops n (eF ops.size m)->
  i∈Region.ready .any ops (eF ops.size m)->i<n->ops[i]? =some o->
  gW ops o e (jF P tk o (λv w'=>ab W w w'/\dZ P tk ops n bY W t f (m|||2^i) K (dk o.dst v e) w') e w) (dZ P tk ops n bY W t f (m|||2^i) K (dk o.dst undef e) w)->
  wpOp P ops (gG A (bT ops.toList) K) i (λal w'=>∃aC:J->Prop,((∀x,aC x->ab W w x)\/nS ops (eF ops.size m) i)/\aC w'/\lB P ops (gG A (bT ops.toList) K) n (LE P ops (gG A (bT ops.toList) K) n) f aC ((eF ops.size m).setIfInBounds i true) al w') a w:=by
  intro W t Q f m K e a w i o ar g p inv T N z h;have next:∀ (v:aa) (w':J),ab W w w'->dZ P tk ops n bY W t f (m|||2^i) K (dk o.dst v e) w'->
   ∃aC:J->Prop,((∀x,aC x->ab W w x)\/nS ops (eF ops.size m) i)/\aC w'/\lB P ops (gG A (bT ops.toList) K) n (LE P ops (gG A (bT ops.toList) K) n) f aC ((eF ops.size m).setIfInBounds i true) (a.put o.dst v) w':=by
   intro v w' aq h;have B:ee (bT ops.toList) a (a.put o.dst v):=ee.put (R i o z);have hinv:=inv.set T N;rw[s5]at hinv⊢;exact⟨ab W w',.inl λx hx=>aq.trans hx,.refl _ _,Q W f _ K _ _ w' (ar.put λk Y=>by rw[g.size];exact af k (R i o z k Y)) (g.trans B) (s8 p I) hinv h⟩
  unfold wpOp;simp only[z];rcases q6 ar h with ⟨H,L⟩|⟨H,L⟩
  .simp only[H,if_true]
   exact .inl ((sY ar L).wp λv w' ⟨h1,G⟩=>next v w' h1 G)
  .simp only[H,fM,if_false]
   exact next _ _ (.refl _ _) L
 have ag:∀ {b c d:aj}{X:Prop},(bif b&&(c&&d) then X else False)->b=true/\c=true/\d=true/\X:=by
  intro b c d X h
  cases b<;>cases c<;>cases d<;>first|exact h.elim|exact⟨rfl,rfl,rfl,h⟩
 have ai:∀ {b c:aj}{X:Prop},(bif b&&c then X else False)->b=true/\c=true/\X:=by
  intro b c X h
  cases b<;>cases c<;>first|exact h.elim|exact⟨rfl,rfl,h⟩
 have C:∀ {i j:Nat},Nat.blt i j=true->i<j:=λh=>by
  have:=mJ h;omega
 have ne_nil:∀ {m i:Nat},Small ops.size m->kv bY m i=true->i<ops.size->Region.ready .any ops (eF ops.size m)≠ []:=λp h hi h0=>by
  have:=(s9 hc p).2 ⟨hi,h⟩;rw[h0]at this;cases this
 induction t with
 |take i t Q=>
  intro W f m K e a w ar g p inv h
  cases f with
  |zero=>simp[dZ]at h
  |succ f=>
   simp only[dZ]at h;obtain⟨h1,G,E,h⟩:=ag h;have N:=C E;have T:i∈Region.ready .any ops (eF ops.size m):=(s9 hc p).2 ⟨I,h1⟩;split at h
   .rename_i o z
    have fin:∀v,YieldsIf P ops (λx=>jG o=true->ab W w x) o v a->dZ P tk ops n bY W t f (m|||2^i) K (dk o.dst v e) w->
     lB P ops (gG A (bT ops.toList) K) n (LE P ops (gG A (bT ops.toList) K) n) (f+1) (ab W w) (eF ops.size m) a w:=by
     intro v av h;have B:ee (bT ops.toList) a (a.put o.dst v):=ee.put (R i o z);refine DW ao z (Region.noSelect_spec ap) (λc a w Z=>by cases Z.1) N DX f (ab W w) (λx=>jG o=true->ab W w x) _ a w (λ_ h _=>h) (by cases hs:jG o<;>simp) inv (DT hc z G) T av (.refl _ _) ?_;have hinv:=inv.set T N;rw[s5]at hinv⊢;exact Q W f _ K _ _ w (ar.put λk Y=>by rw[g.size];exact af k (R i o z k Y)) (g.trans B) (s8 p I) hinv h
    rcases q6 ar h with ⟨H,L⟩|⟨H,L⟩
    .obtain⟨v,aw,ax⟩:=DP ar L
     exact fin v (.inl ⟨H,λw' hc=>aw w' hc⟩) ax
    .exact fin undef (.inr ⟨H,rfl⟩) L
   .exact h.elim
 |bP i t Q=>
  intro W f m K e a w ar g p inv h
  cases f with
  |zero=>simp[dZ]at h
  |succ f=>
   simp only[dZ]at h;obtain⟨D,E,h⟩:=ai h;simp only[ed]at D;have N:=C E;split at h
   .rename_i o z
    refine⟨ne_nil p D.1 I,λj ac=>?_⟩;have ak:j=i:=by simpa using nR hc p D.2 j ac
    subst ak;exact⟨N,S W t Q f m K e a w j o ar g p inv ac N z h⟩
   .exact h.elim
 |out i b t Q=>
  intro W f m K e a w ar g p inv h
  cases f with
  |zero=>simp[dZ]at h
  |succ f=>
   simp only[dZ]at h;obtain⟨D,E,O,h⟩:=ag h;simp only[ed]at D;have N:=C E;have O:=ix O;split at h
   .rename_i o z
    refine⟨ne_nil p D.1 I,λj ac=>?_⟩;have ak:j=i:=by simpa using nR hc p D.2 j ac
    subst ak;refine⟨N,?_⟩;have ay:nS ops (eF ops.size m) j:=by
     intro k ok aJ B az hs am;have aA:k<ops.size:=(lV.1 B).1;rw[pt aA]at am;have aB:(kZ 0 ops.toList&&&m).testBit k=true:=by
      rw[Nat.testBit_and,am,Bool.and_true];exact(zV ops.toList 0 k ok (by simpa using B)).trans hs|>(by simpa using ·)
     have U:(ku bY.M j).testBit k=true:=zU O aB;rw[s6 hc az,l7]at U;simp only[cS]at U;exact s7.1 U
    have next:∀ (v:aa) (w':J) (V:Nat->Prop),dZ P tk ops n bY V t f (m|||2^j) K (dk o.dst v e) w'->
     ∃aC:J->Prop,((∀x,aC x->ab W w x)\/nS ops (eF ops.size m) j)/\aC w'/\lB P ops (gG A (bT ops.toList) K) n (LE P ops (gG A (bT ops.toList) K) n) f aC ((eF ops.size m).setIfInBounds j true) (a.put o.dst v) w':=by
     intro v w' V h;have B:ee (bT ops.toList) a (a.put o.dst v):=ee.put (R j o z);have hinv:=inv.set ac N;rw[s5]at hinv⊢;exact⟨ab V w',.inr ay,.refl _ _,Q V f _ K _ _ w' (ar.put λk Y=>by rw[g.size];exact af k (R j o z k Y)) (g.trans B) (s8 p I) hinv h⟩
    unfold wpOp;simp only[z];rcases q6 ar h with ⟨H,L⟩|⟨H,L⟩
    .simp only[H,if_true]
     refine .inl ((sY ar L).wp λv w' G=>?_)
     cases b with
     |true=>
      obtain⟨V,G⟩:=G;exact next v w' V G
     |false=>exact next v w' W G
    .simp only[H,fM,if_false]
     exact next _ _ W L
   .exact h.elim
 |two i t j u ad ae=>
  intro W f m K e a w ar g p inv h
  cases f with
  |zero=>simp[dZ]at h
  |succ f=>
   simp only[dZ]at h;obtain⟨D,E,O,h⟩:=ag h;simp only[ed]at D;have hi:=C E;split at h
   .rename_i o q z Z
    refine⟨ne_nil p D.1 I,λk B=>?_⟩;have F:k=i\/k=j:=by simpa using nR hc p D.2 k B
    rcases F with F|F
    .subst F
     exact⟨C E,S W t ad f m K e a w k o ar g p inv B (C E) z h.1⟩
    .subst F
     exact⟨C O,S W u ae f m K e a w k q ar g p inv B (C O) Z h.2⟩
   .exact h.elim
 |three i t j u k x ad ae aD=>
  intro W f m K e a w ar g p inv h
  cases f with
  |zero=>simp[dZ]at h
  |succ f=>
   simp only[dZ]at h;obtain⟨D,E,aE,h⟩:=ag (d:=_) h;obtain⟨O,U⟩:Nat.blt j n=true/\Nat.blt k n=true:=by simpa using aE
   simp only[ed]at D;have hi:=C E;split at h
   .rename_i o q r z Z aF
    refine⟨ne_nil p D.1 I,λy B=>?_⟩;have F:y=i\/y=j\/y=k:=by simpa using nR hc p D.2 y B
    rcases F with F|F|F
    .subst F
     exact⟨C E,S W t ad f m K e a w y o ar g p inv B (C E) z h.1⟩
    .subst F
     exact⟨C O,S W u ae f m K e a w y q ar g p inv B (C O) Z h.2.1⟩
    .subst F
     exact⟨C U,S W x aD f m K e a w y r ar g p inv B (C U) aF h.2.2⟩
   .exact h.elim
 |sp s t u ad ae=>
  intro W f m K e a w ar g p inv h;have ah:match e.get s with
   |some (.bool c)=>(c=true->dZ P tk ops n bY W t f m K ((s,.bool true)::e) w)/\(c=false->dZ P tk ops n bY W u f m K ((s,.bool false)::e) w)
   |_=>False:=by cases f<;>simpa only[dZ] using h
  split at ah
  .rename_i c hs
   cases c with
   |true=>exact ad W f m K _ a w (ar.lit hs) g p inv (ah.1 rfl)
   |false=>exact ae W f m K _ a w (ar.lit hs) g p inv (ah.2 rfl)
  .exact ah.elim
 |fin=>
  intro W f m K e a w ar g p inv h
  cases f with
  |succ f=>simp[dZ]at h
  |zero=>
   simp only[dZ]at h;obtain⟨h1,G,h⟩:=ai h;refine .inl ⟨?_,ix G,rfl,g,e,ar,h⟩
   cases T:Region.ready .any ops (eF ops.size m) with
   |nil=>rfl
   |cons x l=>
    have:=nR hc p h1 x (by rw[T];simp)
    cases this
 |tail as=>
  intro W f m K e a w ar g p inv h
  cases f with
  |succ f=>simp[dZ]at h
  |zero=>
   simp only[dZ]at h;obtain⟨h1,G,h⟩:=ai h;have an:∀k,k∈bT (ops.toList.drop n)->k∈bT ops.toList:=λk g=>by
    simp only[bT,List.mem_filterMap]at g⊢;obtain⟨o,z,g⟩:=g;exact⟨o,e6 z,g⟩
   have:=zJ _ _ _ K e a w ar (λd hd=>by rw[g.size];exact af d (an d hd)) h;exact .inr ⟨z1 hc _ _ _ p I h1,C G,iW (λx al w' ⟨au,aG,aH⟩=>⟨au,g.trans (aG.mono an),aH⟩) _ _ _ this⟩
theorem D1(ops:Array Oper)(n:Nat):HeadInv .any ops n (Array.replicate ops.size false):=
 ⟨by simp,λj b _ a=>(by rw[getD_replicate_false]at a;cases a),λt _ ht=>getD_in (by simpa using ht) (getD_replicate_false _ _)⟩
def w2(P:Program)(tk:TypeId->dS)(ops:Array Oper)(n:Nat)(a:aj)(bY:kt)(D0 ej:O Nat)(t:aM)(K:Env->J->Prop)(e:Env)(w:J):Prop:=
 bif (Region.noSelect ops&&lA bY D0 ej ops)&&(bif Nat.beq n ops.size then true else Nat.blt n ops.size&&(Region.sinkB .any ops n&&Region.chainB .any ops n)) then
  bif a then
   al w.drew λw1=>∃W:Nat->Prop,dZ P tk ops n bY W t n 0 K e w1
  else al w.drew λw1=>dZ P tk ops n bY (λ_=>False) t n 0 K e w1
 else False
theorem D2{id:Nat}{f:aj}{t:aM}{K:Env->J->Prop}{e:Env}{a:Act}{w:J}(i:P.follows .mixedOrders=true)
 (ar:dy e a) (j:∀d∈bT ops.toList,d<a.tmps.size) (h:w2 P tk ops n f bY D0 ej t K e w):
 (Code.region id ops true).wp P (gG a (bT ops.toList) K) a w:=by
 unfold w2 at h
 cases h0:(Region.noSelect ops&&lA bY D0 ej ops) with
 |false=>rw[h0]at h;exact h.elim
 |true=>
  rw[h0]at h;simp only[jz]at h;simp only[ed]at h0;obtain⟨h1,hc⟩:=h0
  cases b:(bif Nat.beq n ops.size then true else Nat.blt n ops.size&&(Region.sinkB .any ops n&&Region.chainB .any ops n)) with
  |false=>rw[b]at h;exact h.elim
  |true=>
   rw[b]at h;simp only[cond_true]at h;have k:rf ops n:=by
    cases c:Nat.beq n ops.size with
    |true=>rw[ix c];exact DU ops
    |false=>
     rw[c]at b;simp only[cond_false,ed]at b;refine DV b.2.1 b.2.2 ?_;have:=mJ b.1;omega
   have l:n<=ops.size:=by
    cases c:Nat.beq n ops.size with
    |true=>rw[ix c];exact bo _
    |false=>
     rw[c]at b;simp only[cond_false,ed]at b;have:=mJ b.1;omega
   have key:∀W,dZ P tk ops n bY W t n 0 K e w.drew->(Code.region id ops true).wp P (gG a (bT ops.toList) K) a w:=by
    intro W h;refine wp_region_any i ?_;have g:=DZ hc k l h1 j t W n 0 K e a w.drew ar (.refl _ _) (DR _) (by rw[zS];exact D1 ops n) h;rw[zS]at g;have:=zZ DY _ _ _ _ _ g;rw[show n+(ops.size-n)=ops.size from I]at this;exact this
   cases f with
   |true=>obtain⟨W,h⟩:=h;exact key W h
   |false=>exact key _ h
end
end a_
namespace a_
open Go
inductive aQ where
 |leaf
 |cV (as:O kX)
 |cj (n:Nat) (c:aj) (bY:kt) (D0 ej:O Nat) (t:aM)
 |seq (a b:aQ)
 |cond (a b:aQ)
 |bN (a:aQ)
 |loop (live:O (Nat×e0)) (eG:O Nat) (a:aQ)
 |eH (live:O (Nat×e0)) (eG:O Nat) (a:aQ)
def gu:O (Nat×e0)->Type
 | []=>J->Prop
 |(_,l)::r=>l.T->gu r
def mX:O (Nat×e0)->Type
 | []=>J->Nat
 |(_,l)::r=>l.T->mX r
def pv(l:e0)(v:aq aa)(K:l.T->Prop):Prop:=
 match l,v with
 | .int k,some (.int d n)=>bif jZ k d then K n else False
 | .bool,some (.bool b)=>K b
 | .str,some (.string s)=>K s
 | .ptr,some (.pointer p)=>K p
 | .slice,some (.slice a n c)=>K ⟨a,n,c⟩
 | .map,some (.map r)=>K r
 | .agg,some (.agg cs)=>K cs
 | .fn,some (.func (.func f) a b)=>K ⟨f,a,b⟩
 | .any,some v=>K v
 |_,_=>False
def gu.app:(live:O (Nat×e0))->gu live->(Nat->aq aa)->J->Prop
 | [],k,_,w=>k w
 |(s,l)::r,k,g,w=>pv l (g s) λx=>gu.app r (k x) g w
def gu.lam:(live:O (Nat×e0))->(Env->J->Prop)->gu live
 | [],F=> λw=>F [] w
 |(s,l)::r,F=> λx=>gu.lam r λe w=>F ((s,l.v x)::e) w
def w3:(live:O (Nat×e0))->gu live->mX live->(Env->Nat->J->Prop)->Prop
 | [],a,b,F=>∀w,a w->F [] (b w) w
 |(s,l)::r,a,b,F=>∀x:l.T,w3 r (a x) (b x) λe m w=>F ((s,l.v x)::e) m w
def w4:(live:O (Nat×e0))->gu live->mX live->Nat->(Nat->aq aa)->J->Prop
 | [],a,b,m,_,w=>a w/\b w<m
 |(s,l)::r,a,b,m,g,w=>pv l (g s) λx=>w4 r (a x) (b x) m g w
def jq:(live:O (Nat×e0))->mX live->(Nat->aq aa)->J->Nat
 | [],d,_,w=>d w
 |(s,l)::r,d,g,w=>
  match l,g s,d with
  | .int _,some (.int _ n),d=>jq r (d n) g w
  | .bool,some (.bool b),d=>jq r (d b) g w
  | .str,some (.string b),d=>jq r (d b) g w
  | .ptr,some (.pointer b),d=>jq r (d b) g w
  | .slice,some (.slice a n c),d=>jq r (d (U.mk a n c)) g w
  | .map,some (.map b),d=>jq r (d b) g w
  | .agg,some (.agg b),d=>jq r (d b) g w
  | .fn,some (.func (.func f) a b),d=>jq r (d (hK.mk f a b)) g w
  | .any,some v,d=>jq r (d v) g w
  |_,_,_=>0
def writes:Code->O Nat
 | .region _ ops _=>bT ops.toList
 | .seq a b=>writes a++writes b
 | .cond _ a b=>writes a++writes b
 | .block _ a=>writes a
 | .loop a=>writes a
 | .scope a=>writes a
 |_=> []
def rh(eG ws:O Nat):aj:=eG.all λs=> !(ws.any λd=>Nat.beq d s)
def nT(e:Env):O Nat->Env
 | []=> []
 |s::ks=>match e.get s with
  |some v=>(s,v)::nT e ks
  |none=>nT e ks
def pw:Env->Env->Env
 | [],f=>f
 |p::e,f=>p::pw e f
def D(P:Program)(tk:TypeId->dS):aQ->Code->(Exit->Env->J->Prop)->Env->J->Prop
 | .leaf,c,K,e,w=>
  match c with
  | .skip=>K .normal e w
  | .label _=>K .normal e w
  | .exit id=>K (.exit id) e w
  | .ret=>K .ret e w
  |_=>False
 | .cV as,c,K,e,w=>
  match c with
  | .region _ ops false=>fX P tk ops (ops.size+1) ops.toList as (λd w'=>K .normal d w') e w
  |_=>False
 | .cj n he bY D0 ej t,c,K,e,w=>
  match c with
  | .region _ ops true=>w2 P tk ops n he bY D0 ej t (λd w'=>K .normal d w') e w
  |_=>False
 | .seq A B,c,K,e,w=>
  match c with
  | .seq a b=>D P tk A a (λx d w'=>match x with| .normal=>D P tk B b K d w'|x=>K x d w') e w
  |_=>False
 | .cond A B,c,K,e,w=>
  match c with
  | .cond o x y=>match ev e o with
   |some (.bool b)=>(b=true->D P tk A x K e w)/\(b=false->D P tk B y K e w)
   |_=>False
  |_=>False
 | .bN A,c,K,e,w=>
  match c with
  | .block id b=>D P tk A b (λx d w'=>match x with| .exit h=>bif Nat.beq h id then K .normal d w' else K (.exit h) d w'|x=>K x d w') e w
  |_=>False
 | .loop live eG A,c,K,e,w=>
  match c with
  | .loop b=>bif rh eG (writes b) then
   ∃ (f:gu live) (i:mX live),gu.app live f e.get w/\
    w3 live f i λg m w'=>D P tk A b (λx d j=>match x with| .normal=>w4 live f i m d.get j|x=>K x d j) (pw g (nT e eG)) w'
   else False
  |_=>False
 | .eH live eG A,c,K,e,w=>
  bif rh eG (writes c) then
   bF (λk:gu live=>D P tk A c (λx d w'=>match x with| .normal=>gu.app live k d.get w'|x=>K x d w') e w)
    (gu.lam live λg w'=>K .normal (pw g (nT e eG)) w')
  else False
def D3(a:Act)(ds:O Nat)(K:Exit->Env->J->Prop)(x:Exit)(b:Act)(w':J):Prop:=
 ee ds a b/\∃c,dy c b/\K x c w'
def Sub(e:Env)(g:Nat->aq aa):Prop:=∀s v,e.get s=some v->g s=some v
theorem Sub.cons{e:Env}{g:Nat->aq aa}{s:Nat}{v:aa}(h:Sub e g)(hs:g s=some v):Sub ((s,v)::e) g:=by
 intro t u ht;rw[nN]at ht;by_cases a:s=t
 .subst a;rw[if_pos rfl]at ht;rw[hs];exact ht
 .rw[if_neg a]at ht;exact h t u ht
theorem Sub.nil{g:Nat->aq aa}:Sub [] g:=λ_ _ h=>by cases h
theorem s_{l:e0}{v:aq aa}{K:l.T->Prop}(h:pv l v K):∃x:l.T,v=some (l.v x)/\K x:=by
 unfold pv at h;split at h
 .rename_i k b n K
  by_cases a:k=b
  .subst a
   simp only[jZ,decide_true,cond_true]at h;exact⟨n,rfl,h⟩
  .simp[jZ,a]at h
 all_goals first
  |exact⟨_,rfl,h⟩
  |exact h.elim
theorem z2{l:e0}{v:aq aa}{K:l.T->Prop}{x:l.T}(a:v=some (l.v x))(h:K x):pv l v K:=by
 subst a
 cases l<;>simp only[pv,e0.v,jZ,decide_true,cond_true]<;>exact h
theorem z6{s:Nat}{l:e0}{r:O (Nat×e0)}{a:mX ((s,l)::r)}{g:Nat->aq aa}{w:J}{x:l.T}(b:g s=some (l.v x)):
 jq ((s,l)::r) a g w=jq r (a x) g w:=by
 cases l<;>simp only[jq,b,e0.v]<;>rfl
theorem z7:∀ {live:O (Nat×e0)}{F:Env->J->Prop}{g:Nat->aq aa}{w:J},gu.app live (gu.lam live F) g w->∃a,Sub a g/\F a w
 | [],F,g,w,h=>⟨[],Sub.nil,h⟩
 |(s,l)::r,F,g,w,h=>by
  obtain⟨x,b,h⟩:=s_ h
  obtain⟨a,hs,h⟩:=z7 h
  exact⟨(s,l.v x)::a,hs.cons b,h⟩
theorem z8:∀ {live:O (Nat×e0)}{a:gu live}{g g':Nat->aq aa}{w:J},(∀s v,g s=some v->g' s=some v)->gu.app live a g w->gu.app live a g' w
 | [],_,_,_,_,_,h=>h
 |(s,l)::r,a,g,g',w,hg,h=>by
  obtain⟨x,b,h⟩:=s_ h
  exact z2 (hg _ _ b) (z8 hg h)
theorem z_:∀ {live:O (Nat×e0)}{b:gu live}{c:mX live}{F:Env->Nat->J->Prop}{g:Nat->aq aa}{w:J},
 w3 live b c F->gu.app live b g w->∃d,Sub d g/\F d (jq live c g w) w
 | [],b,c,F,g,w,h,a=>⟨[],Sub.nil,h w a⟩
 |(s,l)::r,b,c,F,g,w,h,a=>by
  obtain⟨x,e,a⟩:=s_ a
  obtain⟨d,hs,h⟩:=z_ (h x) a
  exact⟨(s,l.v x)::d,hs.cons e,by rw[z6 e];exact h⟩
theorem Aa:∀ {live:O (Nat×e0)}{a:gu live}{b:mX live}{m:Nat}{g g':Nat->aq aa}{w:J},
 (∀s v,g s=some v->g' s=some v)->w4 live a b m g w->gu.app live a g' w/\jq live b g' w<m
 | [],_,_,_,_,_,_,_,h=>h
 |(s,l)::r,a,b,m,g,g',w,hg,h=>by
  obtain⟨x,c,h⟩:=s_ h
  obtain⟨h1,d⟩:=Aa hg h
  exact⟨z2 (hg _ _ c) h1,by rw[z6 (hg _ _ c)];exact d⟩
theorem Ab:∀ {e f:Env}{s:Nat}{v:aa},(pw e f).get s=some v->e.get s=some v\/f.get s=some v
 | [],_,_,_,h=>.inr h
 |(k,u)::e,f,s,v,h=>by
  simp only[pw]at h
  rw[nN]at h⊢
  by_cases a:k=s
  .rw[if_pos a]at h⊢;exact .inl h
  .rw[if_neg a]at h⊢;exact Ab h
theorem w5{e:Env}:∀ {ks:O Nat}{s:Nat}{v:aa},(nT e ks).get s=some v->s∈ks/\e.get s=some v
 | [],_,_,h=>by cases h
 |k::ks,s,v,h=>by
  simp only[nT]at h
  split at h
  .rename_i u hu
   rw[nN]at h
   by_cases a:k=s
   .rw[if_pos a]at h
    subst a
    exact⟨by simp,by rw[hu];exact h⟩
   .rw[if_neg a]at h
    have:=w5 h
    exact⟨by simp[this.1],this.2⟩
  .have:=w5 h
   exact⟨by simp[this.1],this.2⟩
theorem Ac{e c:Env}{a b:Act}{eG ws:O Nat}(ar:dy e a)(f:ee ws a b)(g:rh eG ws=true)(hs:Sub c λs=>b.tmps[s]?):
 dy (pw c (nT e eG)) b:=by
 constructor;intro s v h;rcases Ab h with h|h
 .exact hs s v h
 .obtain⟨h1,i⟩:=w5 h
  have d:=lk.1 g s h1;simp only[ln,o3]at d;rw[f.same s λj=>d s j (Nat.beq_refl s)];exact ar.get s v i
section
variable {P:Program}{tk:TypeId->dS}
theorem jH{c:Code}{Q Q':Exit->Act->J->Prop}{a:Act}{w:J}(h:c.wp P Q a w)(b:∀e a w,Q e a w->Q' e a w):c.wp P Q' a w:=wp_mono h b
theorem ta(R:P.follows .mixedOrders=true):∀ (A:aQ) (c:Code) (K:Exit->Env->J->Prop) (e:Env) (a:Act) (w:J),dy e a->(∀d∈writes c,d<a.tmps.size)->
 D P tk A c K e w->c.wp P (D3 a (writes c) K) a w:=by
 intro A
 induction A with
 |leaf=>
  intro c K e a w ar j h;simp only[D]at h;split at h
  .exact wp_skip ⟨.refl _ _,e,ar,h⟩
  .exact wp_label ⟨.refl _ _,e,ar,h⟩
  .exact wp_exit ⟨.refl _ _,e,ar,h⟩
  .exact wp_ret ⟨.refl _ _,e,ar,h⟩
  .exact h.elim
 |cV as=>
  intro c K e a w ar j h;simp only[D]at h;split at h
  .rename_i id ops
   have:=zJ _ _ _ _ e a w ar j h;refine wp_region_list (iW ?_ _ _ _ this);rintro x u w' ⟨rfl,f,E,F,G⟩;exact⟨f,E,F,G⟩
  .exact h.elim
 |cj n he bY D0 ej t=>
  intro c K e a w ar j h;simp only[D]at h;split at h
  .rename_i id ops
   refine jH (D2 R ar j h) ?_;rintro x u w' ⟨rfl,f,E,F,G⟩;exact⟨f,E,F,G⟩
  .exact h.elim
 |seq A B H I=>
  intro c K e a w ar j h;simp only[D]at h;split at h
  .rename_i x y
   have hx:∀d,d∈writes x->d∈writes (.seq x y):=λd hd=>by simp[writes,hd]
   have z:∀d,d∈writes y->d∈writes (.seq x y):=λd hd=>by simp[writes,hd]
   refine wp_seq (jH (H x _ e a w ar (λd hd=>j d (hx d hd)) h) ?_);rintro ex a1 w1 ⟨f,i,g,h1⟩
   cases ex with
   |normal=>
    refine jH (I y K i a1 w1 g (λd hd=>by rw[f.size];exact j d (z d hd)) h1) ?_;rintro ex a2 ah ⟨k,q,m,p⟩;exact⟨(f.mono hx).trans (k.mono z),q,m,p⟩
   |exit id=>exact⟨f.mono hx,i,g,h1⟩
   |goto l=>exact⟨f.mono hx,i,g,h1⟩
   |ret=>exact⟨f.mono hx,i,g,h1⟩
   |panic L=>exact⟨f.mono hx,i,g,h1⟩
   |outgrown=>exact⟨f.mono hx,i,g,h1⟩
  .exact h.elim
 |cond A B H I=>
  intro c K e a w ar j h;simp only[D]at h;split at h
  .rename_i o x y
   have hx:∀d,d∈writes x->d∈writes (.cond o x y):=λd hd=>by simp[writes,hd]
   have z:∀d,d∈writes y->d∈writes (.cond o x y):=λd hd=>by simp[writes,hd]
   split at h
   .rename_i b S
    refine wp_cond_split (ar.ev S) (λM=>?_) (λM=>?_)
    .refine jH (H x K e a w ar (λd hd=>j d (hx d hd)) (h.1 M)) ?_
     rintro ex a2 ah ⟨k,q,m,p⟩;exact⟨k.mono hx,q,m,p⟩
    .refine jH (I y K e a w ar (λd hd=>j d (z d hd)) (h.2 M)) ?_
     rintro ex a2 ah ⟨k,q,m,p⟩;exact⟨k.mono z,q,m,p⟩
   .exact h.elim
  .exact h.elim
 |bN A C=>
  intro c K e a w ar j h;simp only[D]at h;split at h
  .rename_i id b
   refine wp_block (jH (C b _ e a w ar j h) ?_);rintro ex a1 w1 ⟨f,i,g,h1⟩
   cases ex with
   |exit N=>
    simp only[Exit.inBlock];by_cases O:N=id
    .subst O
     simp only[Nat.beq_refl,cond_true]at h1;rw[if_pos rfl];exact⟨f,i,g,h1⟩
    .have:Nat.beq N id=false:=by
      cases T:Nat.beq N id
      .rfl
      .exact absurd (ix T) O
     simp only[this,cond_false]at h1;rw[if_neg O];exact⟨f,i,g,h1⟩
   |normal=>exact⟨f,i,g,h1⟩
   |goto l=>exact⟨f,i,g,h1⟩
   |ret=>exact⟨f,i,g,h1⟩
   |panic L=>exact⟨f,i,g,h1⟩
   |outgrown=>exact⟨f,i,g,h1⟩
  .exact h.elim
 |loop live eG A C=>
  intro c K e a w ar j h;simp only[D]at h;split at h
  .rename_i b
   cases r:rh eG (writes b) with
   |false=>rw[r]at h;exact h.elim
   |true=>
    rw[r]at h;obtain⟨U,V,h0,W⟩:=h;refine wp_loop (λu w'=>ee (writes b) a u/\gu.app live U (λs=>u.tmps[s]?) w') (λu w'=>jq live V (λs=>u.tmps[s]?) w')
     ⟨.refl _ _,z8 (λs v hs=>ar.get s v hs) h0⟩ ?_
    rintro a1 w1 ⟨f,X⟩;obtain⟨Y,hs,Q⟩:=z_ W X;refine jH (C b _ _ a1 w1 (Ac ar f r hs) (λd hd=>by rw[f.size];exact j d hd) Q) ?_;rintro ex a2 ah ⟨k,q,m,p⟩
    cases ex with
    |normal=>
     obtain⟨au,Z⟩:=Aa (g':=λs=>a2.tmps[s]?) (λs v hs=>m.get s v hs) p;exact⟨⟨f.trans k,au⟩,Z⟩
    |exit id=>exact⟨f.trans k,q,m,p⟩
    |goto l=>exact⟨f.trans k,q,m,p⟩
    |ret=>exact⟨f.trans k,q,m,p⟩
    |panic L=>exact⟨f.trans k,q,m,p⟩
    |outgrown=>exact⟨f.trans k,q,m,p⟩
  .exact h.elim
 |eH live eG A C=>
  intro c K e a w ar j h;simp only[D]at h
  cases r:rh eG (writes c) with
  |false=>rw[r]at h;exact h.elim
  |true=>
   rw[r]at h;simp only[cond_true]at h;have h:=h.out;refine jH (C c _ e a w ar j h) ?_;rintro ex a1 w1 ⟨f,i,g,h1⟩
   cases ex with
   |normal=>
    obtain⟨Y,hs,Q⟩:=z7 h1;exact⟨f,_,Ac ar f r (λs v h=>g.get s v (hs s v h)),Q⟩
   |exit id=>exact⟨f,i,g,h1⟩
   |goto l=>exact⟨f,i,g,h1⟩
   |ret=>exact⟨f,i,g,h1⟩
   |panic L=>exact⟨f,i,g,h1⟩
   |outgrown=>exact⟨f,i,g,h1⟩
def l8(P:Program)(tk:TypeId->dS):O ResultVar->Env->J->(O aa->Prop)->Prop
 | [],_,_,K=>K []
 | .tmp t::r,e,w,K=>match e.get t with
  |some v=>l8 P tk r e w λvs=>K (v::vs)
  |none=>False
 | .cell t T::r,e,w,K=>match e.get t with
  |some (.pointer (some A))=>pj P tk T A w λv=>l8 P tk r e w λvs=>K (v::vs)
  |_=>False
def px:O aa->aa
 | [v]=>v
 |vs=>.tuple vs.toArray
def Ad(P:Program)(tk:TypeId->dS)(a:O ResultVar)(R:aa->J->Prop)(x:Exit)(e:Env)(w:J):Prop:=
 match x with
 | .normal=>l8 P tk a e w λvs=>R (px vs) w
 | .ret=>l8 P tk a e w λvs=>R (px vs) w
 |_=>False
def nU:Nat->O aa->Env
 |_,[]=> []
 |i,v::vs=>(i,v)::nU (i+1) vs
def py(P:Program)(tk:TypeId->dS)(A:aQ)(fn:Func)(args:O aa)(w:J)(R:aa->J->Prop):Prop:=
 match fn.body with
 |some c=>D P tk A c (Ad P tk fn.results.toList R) (nU 0 args) w
 |none=>False
def nV(fn:Func)(n:Nat):aj:=
 match fn.body with
 |some c=>(writes c).all (λd=>Nat.blt d fn.ntmps)&&Nat.ble n fn.ntmps
 |none=>false
theorem w6:∀ {vs:O aa}{i s:Nat}{v:aa},(nU i vs).get s=some v->i<=s/\vs[s-i]? =some v
 | [],_,_,_,h=>by cases h
 |u::vs,i,s,v,h=>by
  simp only[nU]at h
  rw[nN]at h
  by_cases a:i=s
  .subst a
   rw[if_pos rfl]at h
   simpa using h
  .rw[if_neg a]at h
   obtain⟨h1,b⟩:=w6 h
   refine⟨I,?_⟩
   rw[show s-i=(s-(i+1))+1 from I]
   simpa using b
def ri(tmps:Array aa)(r:ResultVar):Sem aa:=
 match r with
 | .tmp t=>pure (tmps.getD t undef)
 | .cell x t=>do loadVar t (←asAddr (tmps.getD x undef))
theorem l9{a:Act}:∀ {f:O ResultVar}{e:Env}{w:J}{K:O aa->Prop},dy e a->l8 P tk f e w K->
 ∃vs,(f.mapM (ri a.tmps)).run P w=.ok vs w/\K vs
 | [],_,_,_,_,h=>⟨[],by simp,h⟩
 | .tmp t::r,e,w,K,ar,h=>by
  simp only[l8]at h
  split at h
  .rename_i v b
   obtain⟨vs,c,d⟩:=l9 ar h
   refine⟨v::vs,?_,d⟩
   have ht:a.tmps.getD t undef=v:=by simp[Array.getD_eq_getD_getElem?,ar.get _ _ b]
   simp only[List.mapM_cons,ri,Sem.run_bind,Sem.run_pure,Result.andThen,ht]
   rw[c]
  .exact h.elim
 | .cell t T::r,e,w,K,ar,h=>by
  simp only[l8]at h
  split at h
  .rename_i A b
   obtain⟨v,g,h⟩:=zF h
   obtain⟨vs,c,d⟩:=l9 ar h
   refine⟨v::vs,?_,d⟩
   have ht:a.tmps.getD t undef=.pointer (some A):=by simp[Array.getD_eq_getD_getElem?,ar.get _ _ b]
   have i:(loadVar T A).run P w=.ok v w:=by simpa[Instr.loadAt,Instr.sureAddr] using g
   simp only[List.mapM_cons,ri,Sem.run_bind,Sem.run_pure,Result.andThen,ht,asAddr,i]
   rw[c]
  .exact h.elim
theorem nW{fn:Func}{tmps:Array aa}{w:J}{vs:O aa}
 (h:(fn.results.toList.mapM (ri tmps)).run P w=.ok vs w):
 (results fn tmps).run P w=.ok (px vs) w:=by
 have a:results fn tmps=(do let vs ←fn.results.mapM (ri tmps);pure (if h:vs.size=1 then vs[0] else .tuple vs)):=rfl;rw[a,Array.mapM_eq_mapM_toList];simp only[Sem.run_bind,Sem.run_map];rw[h];simp only[Result.andThen,Sem.run_pure]
 congr 1
 match vs with
 | []=>rfl
 | [v]=>rfl
 |u::v::vs=>simp[px]
theorem D4{f:FuncId}{fn:Func}{A:aQ}{args:O aa}{w:J}{R:aa->J->Prop}(n:P.follows .mixedOrders=true)
 (hf:P.funcs[f]? =some fn) (g:nV fn args.length=true) (h:py P tk A fn args w R):
 Calls P f args.toArray w λe w'=>∃v,e=.returned v/\R v w':=by
 unfold py at h;unfold nV at g
 cases i:fn.body with
 |none=>rw[i]at h;exact h.elim
 |some c=>
  rw[i]at h g;simp only[ed]at h g;obtain⟨o,p⟩:=g;have u:=mJ p;refine calls_of_wp hf i ?_;have q:(args.toArray++Array.replicate (fn.ntmps-args.toArray.size) undef).size=fn.ntmps:=by simp;omega
  have ar:dy (nU 0 args) {tmps:=args.toArray++Array.replicate (fn.ntmps-args.toArray.size) undef,defers:=[]}:=by
   constructor;intro s v hs;obtain⟨_,b⟩:=w6 hs;simp only[o4]at b;have aH:s<args.length:=(ib.1 b).1;simp[Array.getElem?_append,aH];rw[c_ aH]at b;exact Option.some.inj b
  refine jH (ta n A c _ _ _ w ar (λd hd=>?_) h) ?_
  .have h1:=lk.1 o d hd
   have b:=mJ h1;show d<(args.toArray++Array.replicate (fn.ntmps-args.toArray.size) undef).size;rw[q];omega
  .rintro x r w' ⟨t,y,m,a⟩
   have hd:r.defers=[]:=t.defers
   cases x with
   |normal=>
    obtain⟨vs,j,k⟩:=l9 m a;exact⟨hd,_,nW j,_,rfl,k⟩
   |ret=>
    obtain⟨vs,j,k⟩:=l9 m a;exact⟨hd,_,nW j,_,rfl,k⟩
   |exit id=>exact a.elim
   |goto l=>exact a.elim
   |panic z=>exact a.elim
   |outgrown=>exact a.elim
end
end a_
namespace a_
open Go Go.ChangeShapes Go.WideShapes Go.ChangeAt Go.RowKit
def gM(P:Program)(w:J):Nat->TypeId->O aa->Prop
 |0,_,_=>False
 |fuel+1,t,cs=>
  match P.underlying t with
  |some .bool=>∃b:aj,cs=[.bool b]
  |some (.int k)=>∃n:Int,cs=[.int k n]/\k.min<=n/\n<=k.max
  |some .string=>∃s:ByteArray,cs=[.string s]/\s.size<=maxLen
  |some (.slice e)=>∃s:U,cs=[.slice s.a s.len s.cap]/\s.len<=s.cap/\s.cap<=maxLen/\(s.a=none->s.cap=0)/\
   ∀a,s.a=some a->∀i,i<s.cap->∃vs,cL w (a.add (i*P.cellsOf e)) 0 (P.cellsOf e)=some vs/\gM P w fuel e vs
  |some (.struct fs)=>cs.length=P.cellsOf t/\∀f∈fs,gM P w fuel f.type ((cs.drop f.offset).take (P.cellsOf f.type))
  |some (.array n e)=>cs.length=P.cellsOf t/\∀i,i<n->gM P w fuel e ((cs.drop (i*P.cellsOf e)).take (P.cellsOf e))
  |some (.pointer e)=>cs=[.pointer none]\/∃a vs,cs=[.pointer (some a)]/\cL w a 0 (P.cellsOf e)=some vs/\gM P w fuel e vs
  |_=>True
theorem mapM_some{α β:Type}{f:α->aq β}:∀ {l:O α}{r:O β},l.mapM f=some r->∀x∈l,∃y,f x=some y
 | [],_,_,_,hx=>by cases hx
 |a::l,r,h,x,hx=>by
  simp only[List.mapM_cons]at h
  cases c:f a with
  |none=>simp[c]at h
  |some b=>
   cases d:l.mapM f with
   |none=>simp[c,d]at h
   |some e=>
    rcases cU.1 hx with rfl|hx
    .exact⟨b,c⟩
    .exact mapM_some d x hx
theorem Ae{w:J}{a:ae}:∀ (n i:Nat) (vs:O aa),((List.range' i n).mapM λj=>w.cell? (a.add j))=some vs->cL w a i n=some vs
 |0,i,vs,h=>by simp at h;simp[cL,h]
 |n+1,i,vs,h=>by
  simp only[List.range'_succ,List.mapM_cons]at h
  cases h1:w.cell? (a.add i) with
  |none=>simp[h1]at h
  |some v=>
   cases b:((List.range' (i+1) n).mapM λj=>w.cell? (a.add j)) with
   |none=>simp[h1,b]at h
   |some us=>
    simp[h1,b]at h
    have:=Ae n (i+1) us b
    simp[cL,h1,this,h]
theorem Af{w:J}{base:Nat}{a:ae}{n:Nat}{vs:O aa}(h:w.cells? base a n=some vs):cL w a 0 n=some vs:=by
 unfold World.cells? at h;split at h
 .rw[sB]at h
  exact Ae n 0 vs h
 .cases h
section
variable {H:Type}{enc:TypeId×aa->H}{P:Program}{w:J}
theorem rj:∀ (fuel:Nat) (t:TypeId) (cs:O aa) (x:DataW H×O MemPlace),DataW.trod enc P w 0 (λ_=>true) true fuel t cs=some x->gM P w fuel t cs
 |0,_,_,_,h=>by cases h
 |fuel+1,t,cs,x,h=>by
  simp only[DataW.trod]at h
  simp only[gM]
  cases ht:P.underlying t with
  |none=>trivial
  |some d=>
   rw[ht]at h
   cases d<;>try trivial
   case bool=>
    match cs,h with
    | [.bool b],_=>exact⟨b,rfl⟩
   case int k=>
    match cs,h with
    | [.int u n],h=>
     simp only at h
     split at h
     .rename_i g
      obtain⟨rfl,m⟩:=g
      exact⟨n,rfl,by simpa[Lit.wf] using m⟩
     .cases h
   case string=>
    match cs,h with
    | [.string s],h=>
     simp only at h
     split at h
     .rename_i g;exact⟨s,rfl,g⟩
     .cases h
   case pointer e=>
    match cs,h with
    | [.pointer none],_=>exact .inl rfl
    | [.pointer (some a)],h=>
     simp only[Option.map_eq_some_iff]at h
     obtain⟨y,c,_⟩:=h
     obtain⟨vs,h1,l⟩:=Option.bind_eq_some_iff.1 c
     exact .inr ⟨a,vs,rfl,Af h1,rj fuel e vs _ l⟩
   case slice e=>
    match cs,h with
    | [.slice none 0 0],_=>exact⟨⟨none,0,0⟩,rfl,bo _,cE _,(λ_=>rfl),(λa o=>by cases o)⟩
    | [.slice (some a) len cap],h=>
     simp only at h
     split at h
     .rename_i g
      refine⟨⟨some a,len,cap⟩,rfl,g.2.1,g.2.2,(λh0=>by cases h0),λv p i hi=>?_⟩
      obtain⟨elems,he,h⟩:=Option.bind_eq_some_iff.1 h
      simp only[if_true,Option.map_eq_some_iff]at h
      obtain⟨rest,q,_⟩:=h
      cases p
      have key:∃y,((w.cells? 0 (a.add (i*P.cellsOf e)) (P.cellsOf e)).bind (DataW.trod enc P w 0 (λ_=>true) true fuel e))=some y:=by
       rcases dH i len with j|j
       .exact mapM_some he i (jB.2 j)
       .obtain⟨y,c⟩:=mapM_some q (i-len) (jB.2 (by simp only at hi;omega))
        rw[show len+(i-len)=i from I]at c;exact⟨y,c⟩
      obtain⟨y,c⟩:=key;obtain⟨vs,h1,l⟩:=Option.bind_eq_some_iff.1 c;exact⟨vs,Af h1,rj fuel e vs _ l⟩
     .cases h
   case struct fs=>
    simp only at h;split at h
    .rename_i j
     refine⟨j,λf hf=>?_⟩;simp only[Option.map_eq_some_iff]at h;obtain⟨r,c,_⟩:=h;obtain⟨y,c⟩:=mapM_some c f (by simpa using hf);exact rj fuel _ _ _ c
    .cases h
   case array n e=>
    simp only at h;split at h
    .rename_i j
     refine⟨j,λi hi=>?_⟩;simp only[Option.map_eq_some_iff]at h;obtain⟨r,c,_⟩:=h;obtain⟨y,c⟩:=mapM_some c i (jB.2 hi);exact rj fuel _ _ _ c
    .cases h
def l_(P:Program)(w:J)(t:TypeId)(v:aa):Prop:=
 match P.underlying t with
 |some (.struct _)=>∃cs:Array aa,v=.agg cs/\∃fuel,gM P w fuel t cs.toList
 |some (.array _ _)=>∃cs:Array aa,v=.agg cs/\∃fuel,gM P w fuel t cs.toList
 |_=>∃fuel,gM P w fuel t [v]
theorem Ag{r:Reach}{a:Nat}{t:TypeId}{v:aa}{d:DataW H}{ps:O MemPlace}(iE:Value.okWide P w r a t v)
 (hd:DataW.Trod enc P w 0 (λ_=>true) true t v d ps):l_ P w t v:=by
 obtain⟨fuel,hd⟩:=hd;have h1:=rj fuel t _ _ hd;unfold l_;unfold Value.okWide at iE;have b:(∀cs,v≠ .agg cs)->v.cells.toList=[v]:=λh=>by cases v<;>first|rfl|exact absurd rfl (h _)
 cases ht:P.underlying t with
 |none=>
  rw[ht]at iE
  cases fuel with
  |zero=>cases hd
  |succ f=>exact⟨1,by simp[gM,ht]⟩
 |some c=>
  rw[ht]at iE
  cases c
  case struct fs=>obtain⟨cs,rfl,_,_⟩:=iE;exact⟨cs,rfl,fuel,h1⟩
  case array n e=>obtain⟨cs,rfl,_,_⟩:=iE;exact⟨cs,rfl,fuel,h1⟩
  all_goals
   refine⟨fuel,?_⟩;rw[←b]
   .exact h1
   .rintro cs rfl
    simp[Cell.okWide,Cell.ok,ht]at iE
theorem Ah{w w':J}(h:ab (λ_=>False) w w'):Below w.heap.size w w':=
 ⟨h.os,h.tape,h.output,h.size,λk a=>h.block k a (λh=>h)⟩
theorem D5{f:Func}{s:ChangeSpec}{apart fresh handsOn again:aj}{W W':J}{args:Array aa}{T:TypeId}{ds gs:O (DataW H)}{before pa ff:O MemPlace}
 (cd:DataW.Whole enc P f.params.toList s.vars apart W args.toList ds gs before) (d:P.underlying T=some .bool) (e:f.resultTypes= #[T])
 (hs:s.fn H (ds++gs)={results:=[.lit (.bool true)],args:=ds})
 (tb:∀sp:Nat->aj,(∀p∈before,sp p.block=true)->DataW.TrodAll enc P W' 0 sp true f.params.toList args.toList ds pa)
 (l:∀sp:Nat->aj,(∀p∈before,sp p.block=true)->DataW.TrodVars enc P W' sp s.vars [] ff)
 (c:before=pa++ff) (m:ab (λ_=>False) W W'):
 s.post enc P f apart fresh handsOn again W args (.bool true) W':=by
 have g:=Ah m;have aH:∀p∈before,p.block<W.heap.size:=λp a=>cd.lt p a;have hold:∀p∈before,(λb=>decide (b<W.heap.size)) p.block=true:=λp a=>by simpa using aH p a
 have h:∀ (b:Nat) (sp:Nat->aj) (hd:aj),DataW.TrodAll enc P W' b sp hd f.resultTypes.toList ((Value.bool true).resultList f.resultTypes.size) (s.fn H (ds++gs)).results []:=by
  intro b sp hd;rw[hs,e];exact trodAll_cons_mk (shut_bool d true) trodAll_mk0
 have i:∀sp:Nat->aj,(∀p∈before,sp p.block=true)->DataW.TrodAll enc P W' 0 sp true f.params.toList args.toList (s.fn H (ds++gs)).args pa:=by
  intro sp fR;rw[hs];exact tb sp fR
 have j:∀sp:Nat->aj,(∀p∈before,sp p.block=true)->DataW.TrodVars enc P W' sp s.vars (s.fn H (ds++gs)).vars ff:=by
  intro sp fR;rw[hs];exact l sp fR
 refine⟨ds,gs,before,[],pa,ff,cd,h _ _ _,i _ hold,j _ hold,World.keptBut_mono (λp a=>⟨a,?_⟩) (g.frame (· ∈before)),λ_=>?_⟩
 .rw[c,cR]at a
  exact Or.inr a
 .obtain⟨_,_,_,_,_,n,o⟩:=cd
  refine⟨ok_one e rfl (okWide_bool_mk d _),_,_,([]++pa)++ff,⟨[]++pa,ff,trodAll_append (i _ (λ_ _=>rfl)) (h _ _ _),j _ (λ_ _=>rfl),rfl,?_,?_⟩,?_⟩
  .intro b off a
   have k:MemPlace.cell b off∈before:=by rw[c];simpa using a
   rw[g.frozen (aH _ k)];exact n b off k
  .intro q
   have:=o q;rw[c]at this;simpa using this
  .intro p a _
   rw[c];simpa using a
theorem Ai{t:TypeId}(a:laidOutB P=true)(b:P.readableRec t=true)(c:t<P.types.size){W W':J}{v:aa}{d:DataW H}{ps:O MemPlace}{sp:Nat->aj}
 (h:DataW.Trod enc P W 0 (λ_=>true) true t v d ps) (e:ab (λ_=>False) W W') (aH:∀x∈ps,x.block<W.heap.size) (hs:∀p∈ps,sp p.block=true):
 DataW.Trod enc P W' 0 sp true t v d ps:=
 WideElems.Trod_stays a b c h (λx hx=>(Ah e).same (aH x hx)) hs
end
end a_
namespace a_
open Go Go.RowKit
def aP(P:Program)(f:FuncId)(args:Array aa)(w:J)(Q:aa->J->Prop):Prop:=
 Calls P f args w λe w1=>∃v,e=.returned v/\Q v w1
theorem aP.use{P:Program}{f:FuncId}{args:Array aa}{w:J}{Q:aa->J->Prop}{R:Ending->J->Prop}
 (h:aP P f args w Q) (k:∀v w',Q v w'->R (.returned v) w'):Calls P f args w R:=
 Calls.mono h λ_ _ ⟨v,a,b⟩=>by subst a;exact k v _ b
theorem aP.mono{P:Program}{f:FuncId}{args:Array aa}{w:J}{Q R:aa->J->Prop}
 (h:aP P f args w Q) (k:∀v w',Q v w'->R v w'):aP P f args w R:=
 aP.use h λv _ a=>⟨v,rfl,k _ _ a⟩
abbrev Ext(w w':J):Prop:=ab (λ_=>False) w w'
theorem ab.cK{W:Nat->Prop}{w w':J}(h:Ext w w'):ab W w w':=ab.mono h λ_ _ h=>h.elim
theorem ab.drew{W:Nat->Prop}{w w':J}(h:ab W w w'):ab W w w'.drew:=⟨h.os,h.tape,h.output,h.size,h.block⟩
theorem ab.alloc{W:Nat->Prop}{w w':J}(h:ab W w w')(o:Obj):ab W w (w'.alloc o):=
 h.trans ⟨rfl,rfl,rfl,by simp,λk a _=>Below.heap_alloc _ _ _ a⟩
theorem ab.set{W:Nat->Prop}{w w':J}(h:ab W w w'){A:ae}(b:A.block<w.heap.size->W A.block)(v:aa):ab W w (w'.setCell A v):=
 ⟨h.os,h.tape,h.output,by simp only[World.setCell,Array.size_modify];exact h.size,λk a cd=>by
  rw[Below.heap_setCell _ _ _ _ (λe=>cd (by subst e;exact b a))];exact h.block k a cd⟩
theorem ab.setCells{W:Nat->Prop}{w:J}{A:ae}(a:A.block<w.heap.size->W A.block):∀ (vs:O aa) (i:Nat) {w':J},ab W w w'->ab W w (setCells w' A i vs)
 | [],_,_,h=>h
 |v::vs,i,w',h=>by
  have b:(A.add i).block=A.block:=by unfold Addr.add;split<;>rfl
  exact ab.setCells a vs (i+1) (ab.set h (by rw[b];exact a) v)
theorem aw(b o n:Nat):(Addr.mk b o none).add n=⟨b,o+n,none⟩:=by
 unfold Addr.add;split
 .rename_i h;subst h;rfl
 .rfl
def bq(w:J)(b:Nat)(c:Array aa)(T:TypeId):Prop:=w.heap[b]? =some (.cells c T (0,0))
section
variable {w w':J}{b i:Nat}{c:Array aa}{T:TypeId}
theorem bq.lt(h:bq w b c T):b<w.heap.size:=(lV.1 h).1
theorem bq.cell(h:bq w b c T)(i:Nat):w.cell? ⟨b,i,none⟩=c[i]? :=by
 unfold bq at h;simp[World.cell?,h]
theorem bq.frozen(h:bq w b c T)(A:ae)(ar:A.block=b):w.frozen? A=false:=by
 unfold bq at h;simp[World.frozen?,ar,h]
theorem bq.ad{W:Nat->Prop}(h:bq w b c T)(hc:ab W w w')(a:¬W b):bq w' b c T:=by
 have d:=h.lt;unfold bq at h⊢;rw[hc.block b d a];exact h
theorem bq.ext(h:bq w b c T)(hc:Ext w w'):bq w' b c T:=h.ad hc id
theorem bq.drew(h:bq w b c T):bq w.drew b c T:=h
theorem bq.new(w:J)(c:Array aa)(T:TypeId):bq (w.alloc (.cells c T)) w.heap.size c T:=by
 show(w.heap.push (.cells c T))[w.heap.size]? =some (.cells c T (0,0));simp
theorem bq.set(h:bq w b c T)(i:Nat)(v:aa):bq (w.setCell ⟨b,i,none⟩ v) b (c.setIfInBounds i v) T:=by
 unfold bq at h⊢;simp[World.setCell,sA,h]
def gH(c:Array aa)(i:Nat):O aa->Array aa
 | []=>c
 |v::vs=>gH (c.setIfInBounds i v) (i+1) vs
theorem iX:∀ (vs:O aa) (c:Array aa) (i:Nat),(gH c i vs).size=c.size
 | [],_,_=>rfl
 |v::vs,c,i=>by simp[gH,iX vs]
theorem bq.tc:∀ (vs:O aa) {w:J}{c:Array aa} (i j:Nat),bq w b c T->bq (setCells w ⟨b,i,none⟩ j vs) b (gH c (i+j) vs) T
 | [],_,_,_,_,h=>h
 |v::vs,w,c,i,j,h=>by
  simp only[setCells,gH,aw]
  have:=bq.tc vs i (j+1) (h.set (i+j) v)
  rw[show i+(j+1)=i+j+1 from I]at this
  exact this
theorem bq.cc(h:bq w b c T)(i:Nat)(vs:O aa)(d:i+vs.length<=c.size)(a:∀v∈vs,Plain v):bA w ⟨b,i,none⟩ vs:=by
 refine⟨λj e=>?_,a⟩;rw[aw,h.cell,h.frozen _ rfl];have:i+j<c.size:=by omega
 simp[this]
end
theorem hL{B:(J->Prop)->Prop}{rest:J->Prop}(a:J->Prop)(h1:∀k:J->Prop,(∀w,a w->k w)->B k)(b:∀w,a w->rest w):bF B rest:=⟨h1 rest b⟩
theorem cm{a:Type}{B:(a->J->Prop)->Prop}{rest:a->J->Prop}(b:a->J->Prop)(h1:∀k:a->J->Prop,(∀x w,b x w->k x w)->B k)(c:∀x w,b x w->rest x w):bF B rest:=⟨h1 rest c⟩
theorem td{a b:Type}{B:(a->b->J->Prop)->Prop}{rest:a->b->J->Prop}(c:a->b->J->Prop)(h1:∀k:a->b->J->Prop,(∀x y w,c x y w->k x y w)->B k)(d:∀x y w,c x y w->rest x y w):bF B rest:=⟨h1 rest d⟩
theorem D6{n:Int}(h0:IntKind.u8.min<=n)(h1:n<=IntKind.u8.max):0<=n/\n<=255:=by
 simpa[IntKind.min,IntKind.max,IntKind.signed,IntKind.bits] using And.intro h0 h1
theorem bu{n:Int}(h0: -9223372036854775808<=n)(h1:n<=9223372036854775807):IntKind.i64.wrap n=n:=by
 by_cases h:0<=n
 .exact wL h h1
 .have e:n%18446744073709551616=n+18446744073709551616:=by omega
  simp[IntKind.wrap,IntKind.signed,IntKind.bits,e];omega
end a_
namespace a_
open Go Go.RowKit
structure Src(sz:Nat)(w:J)(x:U)(xs:O aa):Prop where
 len:xs.length=x.len*sz
 nil:x.a=none->xs=[]
 rd:∀a,x.a=some a->cL w a 0 (x.len*sz)=some xs
def a8(sz:Nat)(T:TypeId)(w:J)(s:U)(vs:O aa):Prop:=
 vs.length=s.len*sz/\s.len<=s.cap/\s.cap<=maxLen/\
 ((s.a=none/\s.cap=0)\/∃b c,s.a=some ⟨b,0,none⟩/\bq w b c T/\c.size=s.cap*sz/\c.toList.take (s.len*sz)=vs)
def az(s:U)(k:Nat):Prop:=∃A,s.a=some A/\A.block=k
theorem rk{w:J}{A:ae}:∀ {n i:Nat}{vs:O aa},cL w A i n=some vs->vs.length=n
 |0,_,_,h=>by simp[cL]at h;simp[←h]
 |n+1,i,vs,h=>by
  simp only[cL]at h
  cases h1:w.cell? (A.add i) with
  |none=>simp[h1]at h
  |some v=>
   cases a:cL w A (i+1) n with
   |none=>simp[h1,a]at h
   |some us=>
    simp only[h1,a,Option.some.injEq]at h
    subst h
    simp[rk a]
theorem pz{w:J}{b:Nat}{c:Array aa}{T:TypeId}(h:bq w b c T):∀ (n o i:Nat),o+i+n<=c.size->cL w ⟨b,o,none⟩ i n=some ((c.toList.drop (o+i)).take n)
 |0,o,i,_=>by simp[cL]
 |n+1,o,i,f=>by
  have h1:o+i<c.size:=by omega
  have a:=pz h n o (i+1) I
  simp only[cL,aw,h.cell,a]
  have d:c[o+i]? =some c[o+i]:=by simp[h1]
  rw[d]
  simp only[Option.some.injEq]
  have e:c.toList.drop (o+i)=c[o+i]::c.toList.drop (o+i+1):=by
   rw[iQ (by simpa using h1)];simp
  rw[e];simp[qK]
theorem a8.src{sz:Nat}{T:TypeId}{w:J}{s:U}{vs:O aa}(h:a8 sz T w s vs):Src sz w s vs:=by
 obtain⟨h1,i,l,g⟩:=h;refine⟨h1,λf=>?_,λa d=>?_⟩
 .rcases g with ⟨_,hc⟩|⟨b,c,e,_⟩
  .have:s.len=0:=by omega
   rw[this,o5]at h1;exact kl.1 h1
  .rw[f]at e;cases e
 .rcases g with ⟨f,_⟩|⟨b,c,e,j,hs,k⟩
  .rw[f]at d;cases d
  .rw[e]at d
   cases d;have:=pz j (s.len*sz) 0 0 (by rw[hs];simp;exact lX _ i);rw[this];simp[k]
section
variable {P:Program}{w:J}
theorem pA{sz:Nat}{x:U}{xs:O aa}(h:Src sz w x xs):(Builtin.firstCells sz x.len (.slice x.a x.len x.cap)).run P w=.ok xs.toArray w:=by
 cases hx:x.a with
 |none=>rw[h.nil hx];rfl
 |some a=>
  simp only[Builtin.firstCells,loadCells];rw[run_loadCellsFrom _ _ _ _ (h.rd a hx)];simp
theorem Aj(a:Nat):∀ (r c:Nat),c<=2*a+1000->Builtin.growBy a r c<=2*a+1000
 |0,c,h=>h
 |r+1,c,h=>by
  simp only[Builtin.growBy]
  split
  .exact h
  .exact Aj a r _ I
theorem Ak{a cap:Nat}(h:cap<a):Builtin.nextslicecap a cap<=2*a+1000:=by
 unfold Builtin.nextslicecap;split
 .omega
 .split
  .omega
  .exact Aj a 4 cap I
theorem w7{gr:Array TypeId}{cH cM kx e:TypeId}{d:TypeDesc}{sz:Nat}{s x:U}{xs:O aa}(h0:gr[0]? =some cM)(h1:gr[1]? =some kx)
 (hs:P.underlying cM=some (.slice e)) (hx:P.underlying kx=some (.slice e)) (he:P.underlying e=some d) (g:P.cellsOf e=sz) (h:Src sz w x xs)
 (c:s.len+x.len<=s.cap) (i:∀a,s.a=some a->bA w (a.add (s.len*sz)) xs):
 Sem.run P (Builtin.append_ gr cH #[.slice s.a s.len s.cap,.slice x.a x.len x.cap]) w=
  .ok (.slice s.a (s.len+x.len) s.cap) (match s.a with|some a=>setCells w (a.add (s.len*sz)) 0 xs|none=>w):=by
 have hf:=pA (P:=P) h;have b:=iC (w:=w) he;rw[g]at b
 cases j:s.a with
 |none=>
  simp[Builtin.append_,h0,h1,dm hs,dm hx,b,Builtin.lenOf,c,hf]
 |some a=>
  have f:=i a j;have:=ph (P:=P) (A:=a.add (s.len*sz)) xs 0 w (by simpa using f.1) f.2;simp[Builtin.append_,h0,h1,dm hs,dm hx,b,Builtin.lenOf,c,hf,this]
theorem run_append_grow{gr:Array TypeId}{cH cM kx e:TypeId}{i:TypeInfo}{z:aa}{sz:Nat}{s x:U}{xs c:O aa}(h0:gr[0]? =some cM)(h1:gr[1]? =some kx)
 (hs:P.underlying cM=some (.slice e)) (hx:P.underlying kx=some (.slice e)) (hi:P.info? e=some i) (hd:(P.underlying e).isSome=true) (k:i.zero=some z) (l:z.cells.size=sz) (m:P.cellsOf e=sz)
 (o:i.bytes≠0) (f:Src sz w x xs) (hold:Src sz w s c) (p:s.cap<s.len+x.len) (r:(2*(s.len+x.len)+1000)*i.bytes<=281474976710656):
 ∃ (b:Nat) (rest:O aa),s.len+x.len<=b/\b<=maxLen/\rest.length=(b-(s.len+x.len))*sz/\
  Sem.run P (Builtin.append_ gr cH #[.slice s.a s.len s.cap,.slice x.a x.len x.cap]) w=
   .ok (.slice (some ⟨w.heap.size,0,none⟩) (s.len+x.len) b) (w.drew.alloc (.cells (c++xs++rest).toArray e)):=by
 obtain⟨d,hd⟩:=j0 _ hd;have h:=iC (w:=w) hd;rw[m]at h;have t:=Ak p;have Q:Builtin.nextslicecap (s.len+x.len) s.cap*i.bytes<=281474976710656:=ey (lX _ t) r;have R:s.len+x.len<=281474976710656:=by
  have:s.len+x.len<=(2*(s.len+x.len)+1000)*i.bytes:=by
   have:=Nat.mul_le_mul_left (2*(s.len+x.len)+1000) (Nat.one_le_iff_ne_zero.2 o);omega
  omega
 let q:Question:=.appendCap (s.len+x.len) s.cap e
 let b:Nat:=q.cut (w.tape w.drawn q)
 have u:q.forced=false:=rfl;have v:s.len+x.len<=b:=by show s.len+x.len<=s.len+x.len+_;omega
 have A:b<=maxLen:=by
  show s.len+x.len+_%(2^63-(s.len+x.len))<=2^63-1;have:=g4 (w.tape w.drawn q) (y:=2^63-(s.len+x.len)) I;omega
 have B:Src sz w.drew x xs:=⟨f.len,f.nil,λa g=>by
  have:=f.rd a g;have hc:ab (λ_=>False) w w.drew:=ab.drew (.refl _ _);exact hc.cL (by simp) _ _ _ this⟩
 have C:Src sz w.drew s c:=⟨hold.len,hold.nil,λa g=>by
  have:=hold.rd a g;have hc:ab (λ_=>False) w w.drew:=ab.drew (.refl _ _);exact hc.cL (by simp) _ _ _ this⟩
 have hf:=pA (P:=P) B;have D:=pA (P:=P) C;have E:∀n (w':J),(askRoom n).run P w'=.ok () w':=λn w'=>by unfold askRoom;split<;>rfl
 have F:(choose q).run P w=.ok b w.drew:=by
  show Sem.run P (.choose q .pure) w=_;simp only[Sem.run,u,fM,if_false];rfl
 have j:=λw:J=>mR (w:=w) hi;refine⟨b,(Builtin.zeroCells z.cells (b-(s.len+x.len))).toList,v,A,by simp[Builtin.zeroCells,l],?_⟩;have G:¬(s.len+x.len<=s.cap):=by omega
 have H:¬((s.len+x.len:Nat):Int)>IntKind.i64.max:=by
  simp[IntKind.max,IntKind.signed,IntKind.bits];omega
 have K:¬(281474976710656<Builtin.nextslicecap (s.len+x.len) s.cap*i.bytes):=by omega
 have L:¬Builtin.nextslicecap (s.len+x.len) s.cap*i.bytes>2^48:=by simpa using K
 unfold Builtin.append_;simp only[qL,lp,wD,h0,h1,Sem.run_bind,dm hs,dm hx,Result.andThen,h,Builtin.lenOf,Sem.run_pure,G,if_false,fM,j,H,false_and,L,Bool.not_false,if_true];have M:Sem.run P (choose (.appendCap (s.len+x.len) s.cap e)) w=.ok b w.drew:=F;simp only[M,E,hf,D,zeroValue,j,k,Sem.run_bind,Result.andThen,Sem.run_pure,newRow,newObj,Sem.run];have N:w.drew.heap.size=w.heap.size:=rfl;rw[N]
 congr 1
 show w.drew.alloc _=w.drew.alloc _
 congr 2
 simp
theorem te:∀ (vs:O aa) (c:Array aa) (i:Nat),i+vs.length<=c.size->(gH c i vs).toList.take (i+vs.length)=c.toList.take i++vs
 | [],c,i,_=>by simp[gH]
 |v::vs,c,i,h=>by
  simp only[eU]at h
  simp only[gH]
  have:=te vs (c.setIfInBounds i v) (i+1) (by simpa using (by omega:i+1+vs.length<=c.size))
  rw[show i+(v::vs).length=i+1+vs.length by simp;omega,this]
  have hi:i<c.size:=by omega
  have a:(c.setIfInBounds i v).toList.take (i+1)=c.toList.take i++ [v]:=by
   rw[iy (by simpa using hi)];have b:(List.take i c.toList).set i v=List.take i c.toList:=by
    apply List.set_eq_of_length_le;simp only[cv];omega
   simp[List.take_set,b]
  rw[a];simp
theorem D7{gr:Array TypeId}{cH cM kx e:TypeId}{i:TypeInfo}{z:aa}{sz:Nat}{s x:U}{xs vs:O aa}(h0:gr[0]? =some cM)(h1:gr[1]? =some kx)
 (hs:P.underlying cM=some (.slice e)) (hx:P.underlying kx=some (.slice e)) (hi:P.info? e=some i) (hd:(P.underlying e).isSome=true) (B:i.zero=some z) (C:z.cells.size=sz) (r:P.cellsOf e=sz)
 (D:i.bytes≠0) (f:Src sz w x xs) (t:a8 sz e w s vs) (E:∀v∈xs,Plain v) (F:(2*(s.len+x.len)+1000)*i.bytes<=281474976710656):
 ∃ (g:U) (w':J),Sem.run P (Builtin.append_ gr cH #[.slice s.a s.len s.cap,.slice x.a x.len x.cap]) w=.ok (.slice g.a g.len g.cap) w'/\
  a8 sz e w' g (vs++xs)/\g.len=s.len+x.len/\ab (az s) w w'/\(∀k,az g k->az s k\/w.heap.size<=k):=by
 have hold:=t.src;obtain⟨au,S,G,u⟩:=t;by_cases h:s.len+x.len<=s.cap
 .have H:∀a,s.a=some a->bA w (a.add (s.len*sz)) xs:=by
   intro a j;rcases u with ⟨n,_⟩|⟨b,c,l,o,m,y⟩
   .rw[n]at j;cases j
   .rw[l]at j
    cases j;rw[aw];refine o.cc _ _ ?_ E;rw[m,f.len,cA,←km];exact lX _ h
  obtain⟨d,hd⟩:=j0 _ hd;have p:=w7 (cH:=cH) h0 h1 hs hx hd r f h H;refine⟨⟨s.a,s.len+x.len,s.cap⟩,_,p,?_,rfl,?_,λk q=>.inl q⟩
  .refine⟨by simp[au,f.len,km],h,G,?_⟩
   rcases u with ⟨n,hc⟩|⟨b,c,l,o,m,y⟩
   .exact .inl ⟨n,hc⟩
   .refine .inr ⟨b,gH c (s.len*sz) xs,l,?_,by rw[iX];exact m,?_⟩
    .simp only[l,aw]
     have:=bq.tc (T:=e) xs (0+s.len*sz) 0 o;simpa using this
    .have K:s.len*sz+xs.length<=c.size:=by
      rw[m,f.len,←km];exact lX _ h
     have:=te xs c (s.len*sz) K;rw[f.len,←km]at this;rw[this,y]
  .cases L:s.a with
   |none=>exact .refl _ _
   |some a=>
    refine ab.setCells (λ_=>?_) xs 0 (.refl _ _);exact⟨a,L,by unfold Addr.add;split<;>rfl⟩
 .obtain⟨M,rest,N,Q,R,p⟩:=run_append_grow (cH:=cH) h0 h1 hs hx hi hd B C r D f hold I F
  refine⟨⟨some ⟨w.heap.size,0,none⟩,s.len+x.len,M⟩,_,p,?_,rfl,ab.alloc (ab.drew (.refl _ _)) _,?_⟩
  .refine⟨by simp[au,f.len,km],N,Q,.inr ⟨w.heap.size,(vs++xs++rest).toArray,rfl,bq.new w.drew _ _,?_,?_⟩⟩
   .simp[au,f.len,R]
    rw[←km,←km]
    congr 1
    omega
   .have:(vs++xs).length=(s.len+x.len)*sz:=by simp[au,f.len,km]
    show List.take ((s.len+x.len)*sz) (vs++xs++rest).toArray.toList=vs++xs;rw[←this];exact List.take_left
  .rintro k ⟨A,ar,q⟩
   cases ar;exact .inr (by simpa using q▸bo _)
end
theorem a8.ad{sz:Nat}{T:TypeId}{w w':J}{s:U}{vs:O aa}{W:Nat->Prop}(h:a8 sz T w s vs)(hc:ab W w w')(e:∀k,az s k->¬W k):a8 sz T w' s vs:=by
 obtain⟨h1,f,g,a⟩:=h;refine⟨h1,f,g,?_⟩;rcases a with a|⟨b,c,d,i,j,l⟩
 .exact .inl a
 .exact .inr ⟨b,c,d,i.ad hc (e b ⟨_,d,rfl⟩),j,l⟩
theorem Src.ad{sz:Nat}{w w':J}{s:U}{vs:O aa}{W:Nat->Prop}(h:Src sz w s vs)(hc:ab W w w')(c:∀k,az s k->¬W k):Src sz w' s vs:=
 ⟨h.len,h.nil,λa b=>hc.cL (c _ ⟨a,b,rfl⟩) _ _ _ (h.rd a b)⟩
theorem a8.lt{sz:Nat}{T:TypeId}{w:J}{s:U}{vs:O aa}(h:a8 sz T w s vs):∀k,az s k->k<w.heap.size:=by
 rintro k ⟨A,ar,rfl⟩;obtain⟨_,_,_,a⟩:=h;rcases a with ⟨d,_⟩|⟨b,c,e,f,_⟩
 .rw[d]at ar;cases ar
 .rw[e]at ar;cases ar;exact f.lt
theorem a8.cell{T:TypeId}{w:J}{s:U}{vs:O aa}(h:a8 1 T w s vs){i:Nat}{v:aa}(d:vs[i]? =some v):
 ∃b c,s.a=some ⟨b,0,none⟩/\bq w b c T/\c.size=s.cap/\i<s.len/\i<c.size/\w.cell? ⟨b,i,none⟩=some v/\c.toList.take s.len=vs:=by
 obtain⟨h1,k,l,g⟩:=h;have hi:i<s.len:=by
  have:=(ib.1 d).1;omega
 rcases g with ⟨_,hc⟩|⟨b,c,j,e,f,ht⟩
 .omega
 .rw[fz]at f ht
  refine⟨b,c,j,e,f,hi,I,?_,ht⟩;rw[e.cell];rw[←ht,qM]at d;rw[if_pos hi]at d;simpa using d
theorem a8.set{T:TypeId}{w:J}{s:U}{vs:O aa}{b i:Nat}(h:a8 1 T w s vs)(d:s.a=some ⟨b,0,none⟩)(v:aa):
 a8 1 T (w.setCell ⟨b,i,none⟩ v) s (vs.set i v):=by
 obtain⟨h1,f,g,j⟩:=h;refine⟨by simpa using h1,f,g,.inr ?_⟩;rcases j with ⟨k,_⟩|⟨n,c,e,l,m,ht⟩
 .rw[k]at d;cases d
 .rw[d]at e
  cases e;refine⟨b,_,d,l.set i v,by simpa using m,?_⟩;rw[←ht];simp[List.take_set]
def Al(P:Program)(cM e:TypeId)(sz bytes:Nat):aj:=
 match P.underlying cM,P.info? e,P.underlying e with
 |some (.slice a),some i,some _=>a==e&&(match i.zero with|some z=>z.cells.size==sz|none=>false)&&P.cellsOf e==sz&&i.bytes==bytes&&bytes !=0
 |_,_,_=>false
structure hM(P:Program)(cM e:TypeId)(sz bytes:Nat):Prop where
 h:Al P cM e sz bytes=true
theorem hM.out{P:Program}{cM e:TypeId}{sz bytes:Nat}(h:hM P cM e sz bytes):
 P.underlying cM=some (.slice e)/\∃i z,P.info? e=some i/\(P.underlying e).isSome=true/\i.zero=some z/\z.cells.size=sz/\P.cellsOf e=sz/\i.bytes=bytes/\bytes≠0:=by
 have h:=h.h;unfold Al at h;split at h
 .rename_i l i d h1 b c
  simp only[ed,kU,bne_iff_ne]at h;obtain⟨⟨⟨⟨rfl,a⟩,f⟩,g⟩,j⟩:=h;split at a
  .rename_i z k
   exact⟨h1,i,z,b,by simp[c],k,by simpa using a,f,g,j⟩
  .cases a
 .cases h
theorem hM.append{P:Program}{w:J}{cM e cH:TypeId}{sz bytes:Nat}{s x:U}{xs vs:O aa}(h:hM P cM e sz bytes)
 (c:Src sz w x xs) (d:a8 sz e w s vs) (f:∀v∈xs,Plain v) (g:(2*(s.len+x.len)+1000)*bytes<=281474976710656):
 ∃ (b:U) (w':J),Sem.run P (Builtin.append_ #[cM,cM] cH #[.slice s.a s.len s.cap,.slice x.a x.len x.cap]) w=.ok (.slice b.a b.len b.cap) w'/\
  a8 sz e w' b (vs++xs)/\b.len=s.len+x.len/\ab (az s) w w'/\(∀k,az b k->az s k\/w.heap.size<=k):=by
 obtain⟨h1,i,z,j,l,m,n,o,rfl,p⟩:=h.out;exact D7 rfl rfl h1 h1 j l m n o p c d f g
theorem Src.new{sz:Nat}{T:TypeId}(w:J)(xs:O aa)(n:Nat)(b:xs.length=n*sz):Src sz (w.alloc (.cells xs.toArray T)) ⟨some ⟨w.heap.size,0,none⟩,n,n⟩ xs:=by
 refine⟨b,(λh=>by cases h),λa c=>?_⟩
 cases c;rw[pz (bq.new w xs.toArray T) _ _ _ (by simp[b])];simp[←b]
theorem a8.new{sz:Nat}{T:TypeId}(w:J)(xs:O aa)(n:Nat)(a:xs.length=n*sz)(b:n<=maxLen):a8 sz T (w.alloc (.cells xs.toArray T)) ⟨some ⟨w.heap.size,0,none⟩,n,n⟩ xs:=by
 refine⟨a,bo _,b,.inr ⟨_,_,rfl,bq.new w _ _,by simp[a],?_⟩⟩;show List.take (n*sz) xs=xs;rw[←a,iz]
theorem a8.none(sz:Nat)(T:TypeId)(w:J):a8 sz T w ⟨.none,0,0⟩ []:=⟨by simp,bo _,by decide,.inl ⟨rfl,rfl⟩⟩
theorem gg(k:Nat):¬az ⟨.none,0,0⟩ k:=by rintro⟨A,ar,_⟩;cases ar
theorem ky{A:ae}{n m k:Nat}:az ⟨some A,n,m⟩ k↔A.block=k:=⟨λ⟨B,a,h⟩=>by cases a;exact h,λh=>⟨_,rfl,h⟩⟩
theorem Src.alloc{sz:Nat}{w:J}{s:U}{vs:O aa}(h:Src sz w s vs)(o:Obj):Src sz (w.alloc o) s vs:=h.ad (W:=λ_=>False) (ab.alloc (.refl _ _) o) (λ_ _ h=>h)
theorem a8.ext{sz:Nat}{T:TypeId}{w w':J}{s:U}{vs:O aa}(h:a8 sz T w s vs)(hc:Ext w w'):a8 sz T w' s vs:=h.ad hc λ_ _ h=>h
theorem Src.ext{sz:Nat}{w w':J}{s:U}{vs:O aa}(h:Src sz w s vs)(hc:Ext w w'):Src sz w' s vs:=h.ad hc λ_ _ h=>h
theorem hM.push{P:Program}{w:J}{cM e cH:TypeId}{sz bytes:Nat}{s:U}{vs xs:O aa}(h:hM P cM e sz bytes)(hx:xs.length=sz)
 (c:a8 sz e w s vs) (d:∀v∈xs,Plain v) (f:(2*(s.len+1)+1000)*bytes<=281474976710656):
 ∃ (b:U) (w':J),Sem.run P (Builtin.append_ #[cM,cM] cH #[.slice s.a s.len s.cap,.slice (some ⟨w.heap.size,0,none⟩) 1 1]) (w.alloc (.cells xs.toArray e))=.ok (.slice b.a b.len b.cap) w'/\
  a8 sz e w' b (vs++xs)/\b.len=s.len+1/\ab (az s) w w'/\(∀k,az b k->az s k\/w.heap.size<=k):=by
 have hc:Ext w (w.alloc (.cells xs.toArray e)):=ab.alloc (.refl _ _) _;obtain⟨b,w',h1,g,i,j,l⟩:=h.append (cH:=cH) (Src.new (T:=e) w xs 1 (by simpa using hx)) (c.ext hc) d f;exact⟨b,w',h1,g,i,(ab.cK hc).trans j,λk m=>(l k m).imp id (λh=>by simp at h;omega)⟩
theorem hM.clone{P:Program}{w:J}{cM e cH:TypeId}{sz bytes:Nat}{x:U}{xs:O aa}(h:hM P cM e sz bytes)
 (n:Src sz w x xs) (r:∀v∈xs,Plain v) (t:(2*x.len+1000)*bytes<=281474976710656):
 ∃ (f:U) (w':J),Sem.run P (Builtin.append_ #[cM,cM] cH #[.slice (some ⟨w.heap.size,0,none⟩) 0 0,.slice x.a x.len x.cap]) (w.alloc (.cells #[] e))=.ok (.slice f.a f.len f.cap) w'/\
  a8 sz e w' f xs/\f.len=x.len/\Ext w w'/\(∀k,az f k->w.heap.size<=k)/\f.a.isSome=true:=by
 have u:=a8.new (sz:=sz) (T:=e) w [] 0 (by simp) (by decide);have o:=n.alloc (.cells #[] e);obtain⟨f,w',h1,j,p,g,y⟩:=h.append (cH:=cH) o u r (by simpa using t);refine⟨f,w',h1,by simpa using j,by simpa using p,?_,λk l=>?_,?_⟩
 .refine⟨g.os.trans rfl,g.tape.trans rfl,g.output.trans rfl,?_,λk l _=>?_⟩
  .have:=g.size;simp at this;omega
  .rw[g.block k (by simp;omega) (by rintro⟨A,ar,h⟩;cases ar;simp at h;omega)]
   exact Below.heap_alloc _ _ _ l
 .rcases y k l with ⟨A,ar,h⟩|h
  .cases ar;simp at h;omega
  .simp at h;omega
 .obtain⟨_,i,z,G,B,H,I,C,rfl,K⟩:=h.out
  have m:=j.2.2.2;rcases m with ⟨D,hc⟩|⟨b,c,m,_⟩
  .
   exfalso;have L:=j.2.1;have q:x.len=0:=by simp at p;omega
   have E:xs=[]:=kl.1 (by rw[n.len,q,o5]);obtain⟨d,hd⟩:=j0 _ B;have:=w7 (P:=P) (w:=w.alloc (.cells #[] e)) (gr:= #[cM,cM]) (cH:=cH) (s:=⟨some ⟨w.heap.size,0,Option.none⟩,0,0⟩) rfl rfl h.out.1 h.out.1 hd C o (by simp[q]) (λa _=>by
    rw[E];exact⟨λi hi=>by simp at hi,λv F=>by simp at F⟩)
   rw[this]at h1;simp only[Result.ok.injEq,Value.slice.injEq]at h1;rw[D]at h1
   cases h1.1.1
  .rw[m];rfl
theorem D8(k:IntKind)(ns:O Int):∀v∈ns.map (Value.int k),Plain v:=by
 intro v a;obtain⟨n,_,rfl⟩:=dv.1 a;trivial
theorem a8.at{T:TypeId}{w:J}{s:U}{vs:O aa}(h:a8 1 T w s vs){i:Nat}{v:aa}(g:vs[i]? =some v):
 ∃A:ae,s.a=some A/\((0:Int)<=(i:Int)/\(i:Int)<((s.len:Nat):Int))/\w.cell? (A.add (Int.toNat (i:Int)*1))=some v/\w.frozen? (A.add (Int.toNat (i:Int)*1))=false/\
  az s (A.add (Int.toNat (i:Int)*1)).block/\∀d,a8 1 T (w.setCell (A.add (Int.toNat (i:Int)*1)) d) s (vs.set i d):=by
 obtain⟨b,c,f,j,k,hi,l,hc,_⟩:=h.cell g;have e:(Addr.mk b 0 Option.none).add (Int.toNat (i:Int)*1)=⟨b,i,Option.none⟩:=by rw[fz,c8,aw,cA]
 exact⟨_,f,⟨I,I⟩,by rw[e];exact hc,by rw[e];exact j.frozen _ rfl,by rw[e];exact⟨_,f,rfl⟩,λd=>by rw[e];exact h.set f d⟩
end a_
namespace a_
open Go Go.RowKit
def Am(ns:O Int):ByteArray:=ns.foldl (λr n=>r.push (UInt8.ofNat n.toNat)) ByteArray.empty
theorem D9{P:Program}{w:J}{src dst e:TypeId}{s:U}{ns:O Int}(hs:P.underlying src=some (.slice e))(he:P.underlying e=some (.int .u8))(hd:P.underlying dst=some .string)
 (h:Src 1 w s (ns.map (.int .u8))):Sem.run P (convert src dst (.slice s.a s.len s.cap)) w=.ok (.string (Am ns)) w:=by
 rw[run_convert_bytes_string w src dst e s.a s.len s.cap hs he hd]
 cases b:s.a with
 |none=>
  have:=h.nil b;have d:ns=[]:=by simpa using this
  subst d;rfl
 |some A=>
  have c:=h.rd A b;rw[fz]at c;exact run_bytesToString w A s.len s.cap ns (by
   unfold loadCells;rw[run_loadCellsFrom _ _ _ _ c];simp)
theorem An{P:Program}{e:TypeId}{v:aa}(a:((P.info? e).bind (·.zero)).map (·.cells)=some #[v])(hc:P.cellsOf e=1)(n:Nat):g5 P e n=(List.replicate n v).toArray:=by
 unfold g5;rw[hc]
 cases hi:(P.info? e).bind (·.zero) with
 |none=>rw[hi]at a;cases a
 |some z=>
  rw[hi]at a;simp only[lq,Option.some.injEq]at a;simp only[qN,a,fz];apply Array.ext
  .simp
  .intro i h1 b
   have c:n≠0:=by
    intro h;subst h;simp at b
   simp[c,Nat.mod_one]
structure mY(P:Program)(w:J)(e:TypeId)(s:U):Prop where
 le:s.len<=s.cap
 cap:s.cap<=maxLen
 nil:s.a=none->s.cap=0
 cell:∀a,s.a=some a->∀i,i<s.cap->∃vs,cL w (a.add (i*P.cellsOf e)) 0 (P.cellsOf e)=some vs/\∃fuel,gM P w fuel e vs
section
variable {P:Program}{w:J}{T:TypeId}{fuel:Nat}{cs:O aa}
theorem mZ{k:IntKind}(h:gM P w fuel T cs)(a:P.underlying T=some (.int k)):∃n:Int,cs=[.int k n]/\k.min<=n/\n<=k.max:=by
 cases fuel with
 |zero=>cases h
 |succ f=>simpa only[gM,a] using h
theorem tf{e:TypeId}(h:gM P w fuel T cs)(b:P.underlying T=some (.slice e)):∃s:U,cs=[.slice s.a s.len s.cap]/\mY P w e s:=by
 cases fuel with
 |zero=>cases h
 |succ f=>
  simp only[gM,b]at h;obtain⟨s,h0,h1,c,d,g⟩:=h;exact⟨s,h0,h1,c,d,λa j i hi=>by
   obtain⟨vs,k,l⟩:=g a j i hi;exact⟨vs,k,f,l⟩⟩
theorem w8{fs:Array Field}(h:gM P w fuel T cs)(a:P.underlying T=some (.struct fs)):cs.length=P.cellsOf T/\∀f∈fs,∃fuel,gM P w fuel f.type ((cs.drop f.offset).take (P.cellsOf f.type)):=by
 cases fuel with
 |zero=>cases h
 |succ f=>
  simp only[gM,a]at h;exact⟨h.1,λg hg=>⟨f,h.2 g hg⟩⟩
theorem mY.of{e:TypeId}{v:aa}(h:l_ P w T v)(b:P.underlying T=some (.slice e)):∃s:U,v=.slice s.a s.len s.cap/\mY P w e s:=by
 simp only[l_,b]at h;obtain⟨fuel,h⟩:=h;obtain⟨s,h1,c⟩:=tf h b;exact⟨s,by simpa using h1,c⟩
end
theorem pB{w:J}{A:ae}:∀ {n i:Nat}{vs:O aa}{j:Nat}{v:aa},cL w A i n=some vs->vs[j]? =some v->w.cell? (A.add (i+j))=some v
 |0,i,vs,j,v,h,a=>by simp[cL]at h;subst h;simp at a
 |n+1,i,vs,j,v,h,a=>by
  simp only[cL]at h
  cases h1:w.cell? (A.add i) with
  |none=>simp[h1]at h
  |some u=>
   cases b:cL w A (i+1) n with
   |none=>simp[h1,b]at h
   |some us=>
    simp only[h1,b,Option.some.injEq]at h
    subst h
    cases j with
    |zero=>simp at a;subst a;exact h1
    |succ j=>
     have:=pB b (j:=j) (by simpa using a)
     rw[show i+(j+1)=i+1+j from I]
     exact this
theorem Src.at{w:J}{s:U}{vs:O aa}(h:Src 1 w s vs){i:Nat}{v:aa}(b:vs[i]? =some v):
 ∃A:ae,s.a=some A/\((0:Int)<=(i:Int)/\(i:Int)<((s.len:Nat):Int))/\w.cell? (A.add (Int.toNat (i:Int)*1))=some v:=by
 have hi:i<vs.length:=(ib.1 b).1;have d:=h.len
 cases c:s.a with
 |none=>have:=h.nil c;subst this;simp at hi
 |some A=>
  have:=pB (h.rd A c) b;exact⟨A,rfl,⟨I,I⟩,by rw[fz,c8];simpa using this⟩
end a_
namespace a_
open Go Go.RowKit
theorem w9{n:Int}(h0:0<=n)(h1:n<=255):IntKind.u8.wrap n=n:=by
 simp only[IntKind.wrap,IntKind.signed,IntKind.bits];simp;omega
theorem w_{n:Int}(h0:0<=n)(h1:n<=4294967295):IntKind.u32.wrap n=n:=by
 simp only[IntKind.wrap,IntKind.signed,IntKind.bits];simp;omega
theorem gN{n:Int}(h0:0<=n)(h1:n<=18446744073709551615):IntKind.u64.wrap n=n:=by
 simp only[IntKind.wrap,IntKind.signed,IntKind.bits];simp;omega
theorem D_(n:Int):IntKind.u8.wrap n=n%256:=by
 simp only[IntKind.wrap,IntKind.signed,IntKind.bits];simp
theorem Ea(n:Int):IntKind.u64.wrap n=n%18446744073709551616:=by
 simp only[IntKind.wrap,IntKind.signed,IntKind.bits];simp
def S(l:O UInt8):ByteArray:=⟨l.toArray⟩
theorem Ao(l:O UInt8):(S l).toList=l:=ByteArray.toList_mk l
theorem nX(a b:O UInt8):(ByteArray.toList (S a)==ByteArray.toList (S b))=(a==b):=by rw[Ao,Ao]
theorem Eb(ns:O Int):Am ns=S (ns.map λn=>UInt8.ofNat n.toNat):=by
 have h:∀ (ns:O Int) (r:O UInt8),ns.foldl (λr n=>r.push (UInt8.ofNat n.toNat)) (S r)=S (r++ns.map λn=>UInt8.ofNat n.toNat):=by
  intro ns
  induction ns with
  |nil=>intro r;simp
  |cons n ns a=>
   intro r;have e:(S r).push (UInt8.ofNat n.toNat)=S (r++ [UInt8.ofNat n.toNat]):=by
    apply ByteArray.ext;simp[S,ByteArray.push]
   simp only[List.foldl_cons,e,a,jm,cD,nC,iR]
 exact h ns []
theorem add_add(A:ae)(n m:Nat):(A.add n).add m=A.add (n+m):=by
 unfold Addr.add;by_cases h1:n=0
 .subst h1;simp
 .by_cases a:m=0
  .subst a;simp
  .rw[if_neg h1,if_neg a,if_neg I]
   simp[qK]
def put(f:Nat->Int)(i:Nat)(v:Int):Nat->Int:=λj=>if j=i then v else f j
section
variable {w w':J}{b m i:Nat}{T:TypeId}{f:Nat->Int}
theorem ab.gO{w0 w:J}{b i:Nat}(h:ab (λq=>q=b) w0 w)(v:aa):ab (λq=>q=b) w0 (w.setCell ⟨b,i,none⟩ v):=ab.set h (λ_=>rfl) v
theorem ab.k1{w0 w:J}{b i:Nat}(h:ab (λq=>q=b) w0 w)(vs:O aa)(j:Nat):ab (λq=>q=b) w0 (a_.setCells w ⟨b,i,none⟩ j vs):=ab.setCells (W:=λq=>q=b) (A:=⟨b,i,none⟩) (λ_=>rfl) vs j h
end
theorem tg{b o:Nat}{z l m:Nat}(h:m≠l):aO (some (Addr.mk b o none)) z l m=some ⟨b,o+l*z,none⟩:=by
 simp[aO,h,aw]
theorem Ext.trans{a b c:J}(h1:Ext a b)(d:Ext b c):Ext a c:=ab.trans h1 d
theorem Ext.dd{w0 w1 ah:J}{W:Nat->Prop}(h1:Ext w0 w1)(a:ab W w1 ah)(h:∀k,W k->w0.heap.size<=k):Ext w0 ah:=
 ⟨a.os.trans h1.os,a.tape.trans h1.tape,a.output.trans h1.output,ey h1.size a.size,λk b _=>by
  rw[a.block k (fO b h1.size) (λcd=>by have:=h k cd;omega),h1.block k b id]⟩
end a_
