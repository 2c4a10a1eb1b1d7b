/- What a Go program of the model must show, as text that can be read; sound against the kit. -/
import Derived.Below
import Derived.KernelRfl
import Derived.Laws.BytesString
import Derived.OpenShut
import Derived.OrdersHeld
import Derived.ProofKit
import Derived.StillTail
import Derived.Tactics
import Derived.WalkKit
import Derived.WideKeyArgs
namespace Go
theorem a_:type_of% @Nat.le_refl:=@Nat.le_refl
theorem bB:type_of% @of_decide_eq_true:=@of_decide_eq_true
theorem bT:type_of% @of_decide_eq_false:=@of_decide_eq_false
theorem b6:type_of% @List.length_append:=@List.length_append
theorem cg:type_of% @List.getElem_mem:=@List.getElem_mem
theorem cq:type_of% @decide_eq_true_eq:=@decide_eq_true_eq
theorem cw:type_of% @Nat.zero_le:=@Nat.zero_le
theorem cE:type_of% @List.mem_append:=@List.mem_append
theorem cN:type_of% @List.mem_cons:=@List.mem_cons
theorem cQ:type_of% @List.length_take:=@List.length_take
theorem cS:type_of% @Int.toNat_natCast:=@Int.toNat_natCast
theorem cT:type_of% @Nat.zero_add:=@Nat.zero_add
theorem cU:type_of% @List.append_assoc:=@List.append_assoc
theorem cV:type_of% @List.length_map:=@List.length_map
theorem c_:type_of% @List.length_set:=@List.length_set
theorem df:type_of% @List.mem_map:=@List.mem_map
theorem dm:type_of% @decide_eq_true:=@decide_eq_true
theorem dA:type_of% @Nat.lt_or_ge:=@Nat.lt_or_ge
theorem dB:type_of% @List.getElem?_eq_getElem:=@List.getElem?_eq_getElem
theorem dM:type_of% @Bool.and_eq_true:=@Bool.and_eq_true
theorem dV:type_of% @List.mem_singleton:=@List.mem_singleton
theorem dW:type_of% @List.length_drop:=@List.length_drop
theorem ek:type_of% @Bool.eq_iff_iff:=@Bool.eq_iff_iff
theorem er:type_of% @List.not_mem_nil:=@List.not_mem_nil
theorem ez:type_of% @or_false:=@or_false
theorem eE:type_of% @List.length_cons:=@List.length_cons
theorem eO:type_of% @List.getElem_of_mem:=@List.getElem_of_mem
theorem eU:type_of% @List.map_append:=@List.map_append
theorem eY:type_of% @Nat.mul_one:=@Nat.mul_one
theorem eZ:type_of% @List.take_of_length_le:=@List.take_of_length_le
theorem fg:type_of% @Nat.le_trans:=@Nat.le_trans
theorem fh:type_of% @decide_eq_false_iff_not:=@decide_eq_false_iff_not
theorem fi:type_of% @List.getD_eq_getElem?_getD:=@List.getD_eq_getElem?_getD
theorem fC:type_of% @Bool.or_eq_true:=@Bool.or_eq_true
theorem fD:type_of% @List.getElem_set_ne:=@List.getElem_set_ne
theorem fO:type_of% @List.append_nil:=@List.append_nil
theorem f_:type_of% @Bool.not_eq_true:=@Bool.not_eq_true
theorem ga:type_of% @Nat.lt_of_lt_of_le:=@Nat.lt_of_lt_of_le
theorem gb:type_of% @List.mem_of_mem_drop:=@List.mem_of_mem_drop
theorem gd:type_of% @List.mem_of_mem_take:=@List.mem_of_mem_take
theorem gr:type_of% @Bool.false_eq_true:=@Bool.false_eq_true
theorem gu:type_of% @Nat.mod_lt:=@Nat.mod_lt
theorem gv:type_of% @List.take_succ_eq_append_getElem:=@List.take_succ_eq_append_getElem
theorem gD:type_of% @List.take_length:=@List.take_length
theorem gP:type_of% @beq_iff_eq:=@beq_iff_eq
theorem g2:type_of% @List.map_map:=@List.map_map
theorem hV:type_of% @Bool.or_eq_false_iff:=@Bool.or_eq_false_iff
theorem hW:type_of% @List.getElem_set_self:=@List.getElem_set_self
theorem ia:type_of% @List.length_singleton:=@List.length_singleton
theorem ib:type_of% @decide_eq_false:=@decide_eq_false
theorem ic:type_of% @List.length_nil:=@List.length_nil
theorem iV:type_of% @List.mem_range:=@List.mem_range
theorem iW:type_of% @List.take_append_drop:=@List.take_append_drop
theorem iX:type_of% @List.map_cons:=@List.map_cons
theorem iY:type_of% @List.mem_append_right:=@List.mem_append_right
theorem jt:type_of% @Nat.eq_of_beq_eq_true:=@Nat.eq_of_beq_eq_true
theorem ju:type_of% @Bool.not_eq_true':=@Bool.not_eq_true'
theorem jv:type_of% @List.mem_cons_of_mem:=@List.mem_cons_of_mem
theorem jw:type_of% @Nat.add_mul:=@Nat.add_mul
theorem jx:type_of% @Nat.mod_eq_of_lt:=@Nat.mod_eq_of_lt
theorem jK:type_of% @List.getElem?_eq_some_iff:=@List.getElem?_eq_some_iff
theorem jL:type_of% @List.mem_of_find?_eq_some:=@List.mem_of_find?_eq_some
theorem j3:type_of% @Bool.true_and:=@Bool.true_and
theorem j4:type_of% @List.mem_filter:=@List.mem_filter
theorem j5:type_of% @List.drop_eq_getElem_cons:=@List.drop_eq_getElem_cons
theorem j6:type_of% @List.getElem?_append_right:=@List.getElem?_append_right
theorem kl:type_of% @List.mem_append_left:=@List.mem_append_left
theorem km:type_of% @Nat.min_eq_left:=@Nat.min_eq_left
theorem kn:type_of% @List.find?_eq_none:=@List.find?_eq_none
theorem ko:type_of% @List.getElem?_map:=@List.getElem?_map
theorem kM:type_of% @List.all_eq_true:=@List.all_eq_true
theorem kN:type_of% @List.length_eq_zero_iff:=@List.length_eq_zero_iff
theorem kO:type_of% @Iff.rfl:=@Iff.rfl
theorem kP:type_of% @List.find?_some:=@List.find?_some
theorem kQ:type_of% @List.count_pos_iff:=@List.count_pos_iff
theorem lh:type_of% @List.nil_append:=@List.nil_append
theorem lO:type_of% @Nat.add_zero:=@Nat.add_zero
theorem lP:type_of% @Bool.false_or:=@Bool.false_or
theorem lQ:type_of% @Nat.sub_self:=@Nat.sub_self
theorem lR:type_of% @List.filter_append:=@List.filter_append
theorem lS:type_of% @List.sum_append:=@List.sum_append
theorem lT:type_of% @List.pairwise_iff_getElem:=@List.pairwise_iff_getElem
theorem mi:type_of% @Array.getElem?_eq_some_iff:=@Array.getElem?_eq_some_iff
theorem mj:type_of% @Nat.zero_mul:=@Nat.zero_mul
theorem ml:type_of% @Nat.mul_le_mul_right:=@Nat.mul_le_mul_right
theorem mm:type_of% @List.drop_drop:=@List.drop_drop
theorem mn:type_of% @List.drop_zero:=@List.drop_zero
theorem mo:type_of% @List.mem_cons_self:=@List.mem_cons_self
theorem mq:type_of% @List.pairwise_cons:=@List.pairwise_cons
theorem mu:type_of% @List.getElem_take:=@List.getElem_take
theorem mv:type_of% @Bool.not_eq_false':=@Bool.not_eq_false'
theorem mw:type_of% @List.getElem?_eq_none:=@List.getElem?_eq_none
theorem mx:type_of% @List.mem_or_eq_of_mem_set:=@List.mem_or_eq_of_mem_set
theorem mX:type_of% @Option.map_some:=@Option.map_some
theorem mY:type_of% @Nat.one_mul:=@Nat.one_mul
theorem mZ:type_of% @List.filter_eq_self:=@List.filter_eq_self
theorem m0:type_of% @List.pairwise_append:=@List.pairwise_append
theorem m3:type_of% @List.map_take:=@List.map_take
theorem m4:type_of% @UInt8.toNat_lt:=@UInt8.toNat_lt
theorem m5:type_of% @Bool.false_and:=@Bool.false_and
theorem nK:type_of% @Nat.testBit_or:=@Nat.testBit_or
theorem nL:type_of% @List.getElem?_cons_zero:=@List.getElem?_cons_zero
theorem nM:type_of% @Nat.le_of_ble_eq_true:=@Nat.le_of_ble_eq_true
theorem nN:type_of% @List.perm_middle:=@List.perm_middle
theorem nO:type_of% @List.nodup_append:=@List.nodup_append
theorem nP:type_of% @List.perm_append_comm:=@List.perm_append_comm
theorem nQ:type_of% @Decidable.byContradiction:=@Decidable.byContradiction
theorem nR:type_of% @List.take_append_of_le_length:=@List.take_append_of_le_length
theorem nS:type_of% @List.length_replicate:=@List.length_replicate
theorem nT:type_of% @Int.tmod_eq_emod_of_nonneg:=@Int.tmod_eq_emod_of_nonneg
theorem nU:type_of% @List.length_filter_le:=@List.length_filter_le
theorem o0:type_of% @List.cons_append:=@List.cons_append
theorem o1:type_of% @List.take_take:=@List.take_take
theorem o2:type_of% @Nat.xor_lt_two_pow:=@Nat.xor_lt_two_pow
theorem o3:type_of% @List.map_nil:=@List.map_nil
theorem o4:type_of% @Nat.eq_zero_or_pos:=@Nat.eq_zero_or_pos
theorem o5:type_of% @List.nodup_nil:=@List.nodup_nil
theorem o6:type_of% @List.count_append:=@List.count_append
theorem qj:type_of% @Option.isSome_iff_exists:=@Option.isSome_iff_exists
theorem qk:type_of% @List.any_eq_false:=@List.any_eq_false
theorem ql:type_of% @Nat.sub_zero:=@Nat.sub_zero
theorem qm:type_of% @UInt8.toNat_inj:=@UInt8.toNat_inj
theorem qn:type_of% @List.length_zip:=@List.length_zip
theorem qo:type_of% @List.sum_cons:=@List.sum_cons
theorem qp:type_of% @List.map_drop:=@List.map_drop
theorem qq:type_of% @List.zipWith_append:=@List.zipWith_append
theorem qs:type_of% @List.getElem_drop:=@List.getElem_drop
theorem qt:type_of% @List.map_congr_left:=@List.map_congr_left
theorem qu:type_of% @Option.some_get:=@Option.some_get
theorem qv:type_of% @List.nodup_cons:=@List.nodup_cons
theorem qw:type_of% @List.count_cons:=@List.count_cons
theorem qx:type_of% @List.count_nil:=@List.count_nil
theorem qy:type_of% @List.length_range:=@List.length_range
theorem sk:type_of% @List.filterMap_cons:=@List.filterMap_cons
theorem sn:type_of% @List.filterMap_append:=@List.filterMap_append
theorem so:type_of% @Nat.testBit_two_pow:=@Nat.testBit_two_pow
theorem sq:type_of% @List.getElem?_drop:=@List.getElem?_drop
theorem sr:type_of% @List.getElem?_toArray:=@List.getElem?_toArray
theorem su:type_of% @List.getElem?_take:=@List.getElem?_take
theorem sw:type_of% @Option.getD_some:=@Option.getD_some
theorem sx:type_of% @List.filter_eq_nil_iff:=@List.filter_eq_nil_iff
theorem sy:type_of% @List.of_mem_zip:=@List.of_mem_zip
theorem sA:type_of% @List.length_pos_iff:=@List.length_pos_iff
theorem sB:type_of% @List.take_zero:=@List.take_zero
theorem sC:type_of% @List.exists_mem_of_ne_nil:=@List.exists_mem_of_ne_nil
theorem sD:type_of% @Nat.add_sub_cancel:=@Nat.add_sub_cancel
theorem sE:type_of% @Nat.pow_le_pow_right:=@Nat.pow_le_pow_right
theorem sF:type_of% @List.range_succ:=@List.range_succ
theorem sG:type_of% @List.getElem_append_left:=@List.getElem_append_left
theorem sH:type_of% @List.toList_toArray:=@List.toList_toArray
theorem sI:type_of% @List.set_getElem_self:=@List.set_getElem_self
theorem sJ:type_of% @List.size_toArray:=@List.size_toArray
theorem sK:type_of% @Int.eq_ofNat_of_zero_le:=@Int.eq_ofNat_of_zero_le
theorem uC:type_of% @Array.getElem?_modify:=@Array.getElem?_modify
theorem uD:type_of% @List.range_eq_range':=@List.range_eq_range'
theorem uE:type_of% @List.flatten_append:=@List.flatten_append
theorem uF:type_of% @List.eq_of_mem_replicate:=@List.eq_of_mem_replicate
theorem uG:type_of% @List.flatten_cons:=@List.flatten_cons
theorem uH:type_of% @List.getElem_append_right:=@List.getElem_append_right
theorem uI:type_of% @List.mem_iff_getElem:=@List.mem_iff_getElem
theorem uJ:type_of% @List.getElem_set:=@List.getElem_set
theorem uK:type_of% @List.set_append_right:=@List.set_append_right
theorem uL:type_of% @List.eq_nil_of_length_eq_zero:=@List.eq_nil_of_length_eq_zero
theorem uM:type_of% @List.filter_cons:=@List.filter_cons
theorem yg:type_of% @List.getElem?_cons_succ:=@List.getElem?_cons_succ
theorem yh:type_of% @Int.fdiv_eq_ediv_of_nonneg:=@Int.fdiv_eq_ediv_of_nonneg
theorem I{p:Prop}(h:p:=by omega):p:=h
abbrev J:=World
abbrev Y:=Value
abbrev an(α:Type):=Option α
abbrev O(α:Type):=List α
abbrev ax:=Addr
abbrev ag:=Bool
theorem U3{p:Prop}(h:p:=by kernel_rfl):p:=h
theorem U4{a p:Prop}(x:a)(h:a->p:=by intro _;omega):p:=h x
theorem U5{a b p:Prop}(x:a)(y:b)(h:a->b->p:=by intro _ _;omega):p:=h x y
theorem U6{α}(e:α):∃x,x=e:=⟨e,rfl⟩
theorem U9{p:Prop}(h:p:=by simp):p:=h
end Go
namespace aU
open Go
structure U where
 a:an ax
 len:Nat
 cap:Nat
instance:Coe U Value:=⟨λs=>.slice s.a s.len s.cap⟩
instance:Coe Int Value:=⟨λn=>.int .i64 n⟩
instance:Coe Nat Value:=⟨λn=>.int .i64 (n:Int)⟩
instance:Coe Bool Value:=⟨λb=>.bool b⟩
instance:Coe Nat Addr:=⟨λb=>⟨b,0,none⟩⟩
instance:Coe (Option Addr) Value:=⟨λp=>.pointer p⟩
instance:Coe Unit Value:=⟨λ_=>.slice none 0 0⟩
abbrev U0:=Y->J->Prop
abbrev U1:=Nat->Prop
abbrev U2:=J->Prop
instance:Coe J Nat:=⟨λw=>w.heap.size⟩
instance:Coe J Addr:=⟨λw=>⟨w.heap.size,0,none⟩⟩
inductive U7 where|o
abbrev U8:=U7.o
instance:Coe U7 Value:=⟨λ_=>.int .i64 0⟩
structure iZ where
 f:FuncId
 pre:Array Y
 cap:Array Y
inductive dx where
 |int (k:IntKind)|bool|str|ptr|slice|map|agg|fn|any
def dx.T:dx->Type
 | .int _=>Int
 | .bool=>ag
 | .str=>ByteArray
 | .ptr=>an ax
 | .slice=>U
 | .map=>an Nat
 | .agg=>Array Y
 | .fn=>iZ
 | .any=>Y
def dx.v:(l:dx)->l.T->Y
 | .int k,(n:Int)=>.int k n
 | .bool,(b:ag)=>.bool b
 | .str,(s:ByteArray)=>.string s
 | .ptr,(p:an ax)=>.pointer p
 | .slice,(s:U)=>.slice s.a s.len s.cap
 | .map,(r:an Nat)=>.map r
 | .agg,(cs:Array Y)=>.agg cs
 | .fn,(F:iZ)=>.func (.func F.f) F.pre F.cap
 | .any,(v:Y)=>v
inductive Kd where
 |one (l:dx)
 |flat (ls:O dx)
def o7(l:dx)(K:Y->Prop):Prop:=
 match l with
 | .int k=>∃n:Int,K (.int k n)
 | .bool=>∃b:ag,K (.bool b)
 | .str=>∃s:ByteArray,K (.string s)
 | .ptr=>∃p:an ax,K (.pointer p)
 | .slice=>∃s:U,K (.slice s.a s.len s.cap)
 | .map=>∃r:an Nat,K (.map r)
 | .agg=>∃cs:Array Y,K (.agg cs)
 | .fn=>∃F:iZ,K (.func (.func F.f) F.pre F.cap)
 | .any=>∃v:Y,K v
def yi:O dx->(O Y->Prop)->Prop
 | [],K=>K []
 |l::ls,K=>o7 l λv=>yi ls λvs=>K (v::vs)
def yj(k:Kd)(K:Y->Prop):Prop:=
 match k with
 | .one l=>o7 l K
 | .flat ls=>yi ls λvs=>K (.agg vs.toArray)
def uN:O Kd->(O Y->Prop)->Prop
 | [],K=>K []
 |k::ks,K=>yj k λv=>uN ks λvs=>K (v::vs)
theorem qz{l:dx}{K:Y->Prop}(h:o7 l K):∃v,K v:=by
 cases l<;>simp only[o7]at h<;>obtain⟨x,h⟩:=h<;>exact⟨_,h⟩
theorem A_:∀ {ls:O dx}{K:O Y->Prop},yi ls K->∃vs,K vs
 | [],_,h=>⟨_,h⟩
 |_::_,_,h=>let ⟨_,h⟩:=qz h;let ⟨_,h⟩:=A_ h;⟨_,h⟩
theorem Ba{k:Kd}{K:Y->Prop}(h:yj k K):∃v,K v:=by
 cases k with
 |one l=>exact qz h
 |flat ls=>obtain⟨_,h⟩:=A_ h;exact⟨_,h⟩
theorem yk:∀ {ls:O Kd}{K:O Y->Prop},uN ls K->∃vs,K vs
 | [],_,h=>⟨_,h⟩
 |_::_,_,h=>let ⟨_,h⟩:=Ba h;let ⟨_,h⟩:=yk h;⟨_,h⟩
abbrev Env:=O (Nat×Y)
def Env.get:Env->Nat->an Y
 | [],_=>none
 |(k,v)::e,s=>bif Nat.beq k s then some v else Env.get e s
def ev(e:Env):Operand->an Y
 | .tmp t=>e.get t
 | .const v=>some v
 | .global g=>some (.pointer (some ⟨g,0,none⟩))
 | .func f=>some (.func (.func f) #[] #[])
def ro(e:Env)(x:Operand):Y:=(ev e x).getD undef
def known(e:Env)(xs:Array Operand):ag:=xs.toList.all λx=>(ev e x).isSome
structure dy(e:Env)(a:Act):Prop where
 get:∀s v,e.get s=some v->a.tmps[s]? =some v
theorem dy.ev{e:Env}{a:Act}(h:dy e a){x:Operand}{v:Y}(hx:ev e x=some v):a.eval x=v:=by
 cases x with
 |tmp t=>
  have:=h.get t v hx;simp[Act.eval,Array.getD_eq_getD_getElem?,this]
 |const c=>simpa[aU.ev,Act.eval] using hx
 |global g=>simpa[aU.ev,Act.eval] using hx
 |func f=>simpa[aU.ev,Act.eval] using hx
theorem dy.ro{e:Env}{a:Act}(h:dy e a){x:Operand}(hx:(aU.ev e x).isSome=true):a.eval x=ro e x:=by
 obtain⟨v,b⟩:=qj.1 hx;rw[h.ev b,aU.ro,b];rfl
def dn(d:an Nat)(v:Y)(e:Env):Env:=
 match d with
 |some d=>(d,v)::e
 |none=>e
theorem o8(d:Nat)(v:Y)(e:Env)(s:Nat):Env.get ((d,v)::e) s=if d=s then some v else e.get s:=by
 simp only[Env.get,cond_eq_ite];by_cases a:d=s
 .subst a;simp
 .have:Nat.beq d s=false:=by
   cases b:Nat.beq d s
   .rfl
   .exact absurd (jt b) a
  simp[this,a]
theorem dy.put{e:Env}{a:Act}(h:dy e a){d:an Nat}{v:Y}(hd:∀k,d=some k->k<a.tmps.size):dy (dn d v e) (a.put d v):=by
 cases d with
 |none=>exact h
 |some d=>
  constructor;intro s u hs;rw[dn,o8]at hs;simp only[Act.put];by_cases b:d=s
  .subst b
   simp only[if_true,Option.some.injEq]at hs;subst hs;simp[hd d rfl]
  .rw[if_neg b]at hs
   rw[Array.getElem?_setIfInBounds_ne b];exact h.get s u hs
inductive dX where
 |one (k:Kd)
 |fo (ks:O Kd)
def i_(r:dX)(K:Y->Prop):Prop:=
 match r with
 | .one k=>yj k K
 | .fo ks=>uN ks λvs=>K (.tuple vs.toArray)
theorem jy{r:dX}{K:Y->Prop}(h:i_ r K):∃v,K v:=by
 cases r with
 |one k=>exact Ba h
 |fo ks=>obtain⟨_,h⟩:=yk h;exact⟨_,h⟩
def cv(w:J)(A:ax):Nat->Nat->an (O Y)
 |_,0=>some []
 |i,n+1=>match w.cell? (A.add i),cv w A (i+1) n with
  |some v,some vs=>some (v::vs)
  |_,_=>none
def setCells(w:J)(A:ax):Nat->O Y->J
 |_,[]=>w
 |i,v::vs=>setCells (w.setCell (A.add i) v) A (i+1) vs
def Plain:Y->Prop
 | .agg _=>False
 | .tuple _=>False
 |_=>True
def c5(w:J)(A:ax)(vs:O Y):Prop:=
 (∀i,i<vs.length->(w.cell? (A.add i)).isSome=true/\w.frozen? (A.add i)=false)/\∀v∈vs,Plain v
def iG:TypeDesc->ag
 | .struct _=>true
 | .array _ _=>true
 |_=>false
def ie(P:Program)(elem:TypeId)(n:Nat):Array Y:=
 let zero:=if n*P.cellsOf elem=0 then #[] else (((P.info? elem).bind (·.zero)).getD undef).cells
 (Array.range (n*P.cellsOf elem)).map (zero[· %zero.size]!)
section
variable {P:Program}{w:J}
theorem dh{t:TypeId}{d:TypeDesc}(h:P.underlying t=some d):(underlying t).run P w=.ok d w:=by
 simp[underlying,program,Sem.run,bind,Sem.bind,h,pure]
theorem nV{t:TypeId}{d:TypeInfo}(h:P.info? t=some d):(typeInfo t).run P w=.ok d w:=by
 simp[typeInfo,program,Sem.run,bind,Sem.bind,h,pure]
theorem info_of_underlying{t:TypeId}{d:TypeDesc}(h:P.underlying t=some d):∃i,P.info? t=some i:=by
 unfold Program.underlying at h
 cases hi:P.info? t with
 |none=>simp[hi]at h
 |some i=>exact⟨i,rfl⟩
theorem iH{t:TypeId}{d:TypeDesc}(h:P.underlying t=some d):(Go.sizeOf t).run P w=.ok (P.cellsOf t) w:=by
 obtain⟨i,hi⟩:=info_of_underlying h;simp[Go.sizeOf,nV hi,Program.cellsOf,hi]
theorem qA{t:TypeId}{d:TypeDesc}(h:P.underlying t=some d):(isAgg t).run P w=.ok (iG d) w:=by
 simp only[isAgg,Sem.run_bind,dh h,Result.andThen]
 cases d<;>rfl
theorem yl{A:ax}{v:Y}(h:w.cell? A=some v):(load A).run P w=.ok v w:=by
 simp[load,Sem.run,h]
theorem run_loadCellsFrom{A:ax}:∀ (n i:Nat) (acc:Array Y) (vs:O Y),cv w A i n=some vs->
 (loadCellsFrom A i n acc).run P w=.ok (acc++vs.toArray) w
 |0,i,acc,vs,h=>by
  simp only[cv,Option.some.injEq]at h
  subst h
  simp[loadCellsFrom]
 |n+1,i,acc,vs,h=>by
  simp only[cv]at h
  cases h1:w.cell? (A.add i) with
  |none=>simp[h1]at h
  |some v=>
   cases a:cv w A (i+1) n with
   |none=>simp[h1,a]at h
   |some us=>
    simp only[h1,a,Option.some.injEq]at h
    subst h
    simp only[loadCellsFrom,Sem.run_bind,yl h1,Result.andThen]
    rw[run_loadCellsFrom n (i+1) (acc.push v) us a]
    simp
theorem uO{T:TypeId}{d:TypeDesc}(a:P.underlying T=some d)(hd:iG d=true){A:ax}{vs:O Y}(h:cv w A 0 (P.cellsOf T)=some vs):
 (loadVar T A).run P w=.ok (.agg vs.toArray) w:=by
 simp only[loadVar,Sem.run_bind,qA a,Result.andThen,hd,if_true,iH a,loadCells,run_loadCellsFrom _ _ _ _ h];simp
theorem Bb{T:TypeId}{d:TypeDesc}(a:P.underlying T=some d)(hd:iG d=false){A:ax}{v:Y}(h:w.cell? A=some v):
 (loadVar T A).run P w=.ok v w:=by
 simp only[loadVar,Sem.run_bind,qA a,Result.andThen,hd,gr,if_false,yl h]
theorem FJ{A:ax}{v u:Y}(a:Plain v)(h:w.cell? A=some u)(hf:w.frozen? A=false):(store A v).run P w=.ok () (w.setCell A v):=by
 cases v<;>simp_all [store,Sem.run,Plain]
theorem FK(w:J)(A B:ax)(v:Y):((w.setCell A v).cell? B).isSome=(w.cell? B).isSome:=by
 simp only[World.setCell,World.cell?,uC];by_cases a:A.block=B.block
 .simp only[a,if_true]
  cases w.heap[B.block]? with
  |none=>rfl
  |some o=>
   cases o<;>simp
   by_cases hs:B.spot.isSome<;>simp[hs]
   by_cases b:A.spot.isSome<;>simp[b]
   rw[ek];simp
 .simp[a]
theorem FL(w:J)(A B:ax)(v:Y):(w.setCell A v).frozen? B=w.frozen? B:=by
 simp only[World.setCell,World.frozen?,uC];by_cases a:A.block=B.block
 .simp only[a,if_true]
  cases w.heap[B.block]? with
  |none=>rfl
  |some o=>cases o<;>rfl
 .simp[a]
theorem qB{A:ax}:∀ (vs:O Y) (i:Nat) (w:J),(∀j,j<vs.length->(w.cell? (A.add (i+j))).isSome=true/\w.frozen? (A.add (i+j))=false)->(∀v∈vs,Plain v)->
 (storeCells A vs i).run P w=.ok () (setCells w A i vs)
 | [],i,w,_,_=>rfl
 |v::vs,i,w,h,a=>by
  have h0:=h 0 U9
  simp only[lO]at h0
  obtain⟨u,hu⟩:=qj.1 h0.1
  simp only[storeCells,Sem.run_bind,FJ (P:=P) (a v U9) hu h0.2,Result.andThen,setCells]
  refine qB vs (i+1) (w.setCell (A.add i) v) (λj b=>?_) (λx hx=>a x (by simp[hx]))
  have:=h (j+1) (by simp;omega)
  rw[FK,FL,show i+1+j=i+(j+1) from I]
  exact this
theorem Bc{T:TypeId}{d:TypeDesc}(a:P.underlying T=some d){A:ax}{v:Y}(hs:v.cells.size=P.cellsOf T)(h:c5 w A v.cells.toList):
 (storeVar T A v).run P w=.ok () (setCells w A 0 v.cells.toList):=by
 simp only[storeVar,Sem.run_bind,iH a,Result.andThen,hs,ne_eq,not_true,if_false];simpa using qB v.cells.toList 0 w (by simpa using h.1) h.2
end
def ym:O dx->ax->Nat->J->(O Y->Prop)->Prop
 | [],_,_,_,K=>K []
 |l::ls,A,i,w,K=>o7 l λv=>w.cell? (A.add i)=some v/\ym ls A (i+1) w λvs=>K (v::vs)
def qC(P:Program)(tk:TypeId->dX)(T:TypeId)(A:ax)(w:J)(K:Y->Prop):Prop:=
 match P.underlying T with
 |none=>False
 |some d=>
  bif iG d then
   match tk T with
   | .one (.flat ls)=>bif Nat.beq (P.cellsOf T) ls.length then ym ls A 0 w λvs=>K (.agg vs.toArray) else False
   |_=>∃cs:O Y,cv w A 0 (P.cellsOf T)=some cs/\K (.agg cs.toArray)
  else
   match tk T with
   | .one (.one l)=>o7 l λv=>w.cell? A=some v/\K v
   |_=>False
def yn(P:Program)(tk:TypeId->dX)(T:TypeId)(A:ax)(x:Y)(w:J)(K:U2):Prop:=
 match P.underlying T with
 |none=>False
 |some d=>
  bif iG d then
   match x with
   | .agg cs=>c5 w A cs.toList/\cs.size=P.cellsOf T/\K (setCells w A 0 cs.toList)
   |_=>False
  else bif Nat.beq (P.cellsOf T) 1 then
   match tk T with
   | .one (.one .any)=>Plain x/\(∃u,w.cell? A=some u)/\w.frozen? A=false/\K (w.setCell A x)
   |_=>match x with
    | .agg _=>False
    | .tuple _=>False
    |_=>(∃u,w.cell? A=some u)/\w.frozen? A=false/\K (w.setCell A x)
  else False
def lU(P:Program)(T:TypeId)(xs ys:Array Y)(b:ag):Prop:=
 P.eqGuardType P.depth T=false/\∀w,(Op.equal T (.agg xs) (.agg ys)).run P w=.ok b w
def o9:Y->an ag
 | .nilIface=>some true
 | .iface _ _=>some false
 |_=>none
def o_:an TypeDesc->ag
 |some (.interface _)=>true
 |_=>false
def m6:an TypeDesc->ag
 |some (.pointer _)=>true
 |_=>false
def nW:an TypeDesc->ag
 |some (.slice _)=>true
 |_=>false
def qD:an TypeDesc->ag
 |some (.map _ _)=>true
 |_=>false
def kR:IntKind->IntKind->ag:=λa b=>decide (a=b)
def uP(P:Program)(op:BinOp)(T:TypeId)(x y:Y)(K:Y->Prop)(G:Prop):Prop:=
 match y with
 | .nilIface=>bif o_ (P.underlying T) then
  match op with
  | .eql=>∃b,o9 x=some b/\K (.bool b)
  | .neq=>∃b,o9 x=some b/\K (.bool (!b))
  |_=>False
  else False
 | .pointer none=>bif m6 (P.underlying T) then
  match op,x with
  | .eql,.pointer p=>K (.bool p.isNone)
  | .neq,.pointer p=>K (.bool (!p.isNone))
  |_,_=>False
  else False
 | .slice none _ _=>bif nW (P.underlying T) then
  match op,x with
  | .eql,.slice a _ _=>K (.bool a.isNone)
  | .neq,.slice a _ _=>K (.bool (!a.isNone))
  |_,_=>False
  else False
 | .map none=>bif qD (P.underlying T) then
  match op,x with
  | .eql,.map r=>K (.bool r.isNone)
  | .neq,.map r=>K (.bool (!r.isNone))
  |_,_=>False
  else False
 | .agg ys=>
  match op,x with
  | .eql,.agg xs=>∃b,lU P T xs ys b/\K (.bool b)
  | .neq,.agg xs=>∃b,lU P T xs ys b/\K (.bool (!b))
  |_,_=>False
 | .int c b=>
  match op,x with
  | .quo,.int k a=>bif kR k c then b≠0/\K (.int k (k.wrap (a.tdiv b))) else False
  | .rem,.int k a=>bif kR k c then b≠0/\K (.int k (a.tmod b)) else False
  | .shl,.int k a=>0<=b/\K (.int k (k.wrap (a*2^(min b.toNat k.bits))))
  | .shr,.int k a=>0<=b/\K (.int k (a.fdiv (2^(min b.toNat k.bits))))
  |_,_=>G
 | .bool b=>match P.underlying T with
  |some .bool=>match op,x with
   | .eql,.bool a=>K (.bool (a==b))
   | .neq,.bool a=>K (.bool (!(a==b)))
   |_,_=>False
  |_=>False
 | .string b=>
  match op,x with
  | .add,.string a=>((a.size+b.size:Nat):Int)<=9223372036854775807/\K (.string (a++b))
  |_,_=>G
 |_=>G
section
variable {P:Program}
theorem qE(T:TypeId)(x y:Y):Op.equal T x y=Op.equalIn (9999+1) T x y:=rfl
theorem FM(d:Nat){T:TypeId}{x:Y}{b:ag}(a:o_ (P.underlying T)=true)(h:o9 x=some b)(w:J):
 (Op.equalIn (d+1) T x .nilIface).run P w=.ok b w:=by
 cases hu:P.underlying T with
 |none=>simp[hu,o_]at a
 |some d=>
  cases d<;>simp only[hu,o_,gr]at a
  simp only[Op.equalIn,Sem.run_bind,dh hu,Result.andThen]
  cases x<;>simp only[o9,reduceCtorEq,Option.some.injEq]at h<;>subst h<;>rfl
theorem FN(d:Nat){T:TypeId}{p:an ax}(a:m6 (P.underlying T)=true)(w:J):
 (Op.equalIn (d+1) T (.pointer p) (.pointer none)).run P w=.ok p.isNone w:=by
 cases hu:P.underlying T with
 |none=>simp[hu,m6]at a
 |some d=>
  cases d<;>simp only[hu,m6,gr]at a
  simp only[Op.equalIn,Sem.run_bind,dh hu,Result.andThen]
  cases p<;>rfl
theorem FO(d:Nat){T:TypeId}{a:an ax}{l c e c':Nat}(b:nW (P.underlying T)=true)(w:J):
 (Op.equalIn (d+1) T (.slice a l c) (.slice none e c')).run P w=.ok a.isNone w:=by
 cases hu:P.underlying T with
 |none=>simp[hu,nW]at b
 |some d=>
  cases d<;>simp only[hu,nW,gr]at b
  simp only[Op.equalIn,Sem.run_bind,dh hu,Result.andThen]
  cases a<;>rfl
theorem FP(d:Nat){T:TypeId}{r:an Nat}(a:qD (P.underlying T)=true)(w:J):
 (Op.equalIn (d+1) T (.map r) (.map none)).run P w=.ok r.isNone w:=by
 cases hu:P.underlying T with
 |none=>simp[hu,qD]at a
 |some d=>
  cases d<;>simp only[hu,qD,gr]at a
  simp only[Op.equalIn,Sem.run_bind,dh hu,Result.andThen]
  cases r<;>rfl
theorem Bd{T:TypeId}{x:Y}{b:ag}(a:o_ (P.underlying T)=true)(h:o9 x=some b)(w:J):
 (Op.equal T x .nilIface).run P w=.ok b w:=by rw[qE];exact FM _ a h w
theorem uQ{T:TypeId}{p:an ax}(a:m6 (P.underlying T)=true)(w:J):
 (Op.equal T (.pointer p) (.pointer none)).run P w=.ok p.isNone w:=by rw[qE];exact FN _ a w
theorem uR{T:TypeId}{a:an ax}{l c b c':Nat}(d:nW (P.underlying T)=true)(w:J):
 (Op.equal T (.slice a l c) (.slice none b c')).run P w=.ok a.isNone w:=by rw[qE];exact FO _ d w
theorem Be{T:TypeId}{r:an Nat}(a:qD (P.underlying T)=true)(w:J):
 (Op.equal T (.map r) (.map none)).run P w=.ok r.isNone w:=by rw[qE];exact FP _ a w
theorem Bf{T:TypeId}{xs ys:Array Y}(h:P.eqGuardType P.depth T=false)(op:BinOp)(x y:Operand)(w:J):
 (eqGuard op T x y (.agg xs) (.agg ys)).run P w=.ok () w:=by
 cases op<;>simp[eqGuard,program,Sem.run,bind,Sem.bind,h,pure]
theorem Bg{T:TypeId}{a b:ag}(c:P.underlying T=some .bool)(w:J):(Op.equal T (.bool a) (.bool b)).run P w=.ok (a==b) w:=by
 have e:∀ (d:Nat) (w:J),(Op.equalIn (d+1) T (.bool a) (.bool b)).run P w=.ok (a==b) w:=by
  intro d w;simp[Op.equalIn,dh c]
 rw[qE];exact e _ w
theorem Bh{op:BinOp}{T:TypeId}{x y:Y}{jM qF:Operand}{K:Y->Prop}{G:Prop}
 (l:y=.nilIface->∃c,qF=.const c)
 (h:uP P op T x y K G):
 G\/∃v,(∀w,(do eqGuard op T jM qF x y;binOp op T x y:Sem Y).run P w=.ok v w)/\K v:=by
 unfold uP at h;split at h
 case h_1=>
  obtain⟨c,hc⟩:=l rfl;by_cases d:o_ (P.underlying T)=true
  .rw[d]at h
   simp only[cond_true]at h;split at h
   .obtain⟨b,e,f⟩:=h
    refine .inr ⟨_,λw=>?_,f⟩;have:=Bd (P:=P) d e w
    cases x<;>simp only[o9,reduceCtorEq,Option.some.injEq]at e<;>subst hc e<;>simp[eqGuard,binOp,this]
   .obtain⟨b,e,f⟩:=h
    refine .inr ⟨_,λw=>?_,f⟩;have:=Bd (P:=P) d e w
    cases x<;>simp only[o9,reduceCtorEq,Option.some.injEq]at e<;>subst hc e<;>simp[eqGuard,binOp,this]
   .exact h.elim
  .simp only[f_]at d;rw[d]at h;exact h.elim
 case h_2=>
  by_cases d:m6 (P.underlying T)=true
  .rw[d]at h
   simp only[cond_true]at h;split at h
   .exact .inr ⟨_,λw=>by simp[eqGuard,binOp,uQ (P:=P) d],h⟩
   .exact .inr ⟨_,λw=>by simp[eqGuard,binOp,uQ (P:=P) d],h⟩
   .exact h.elim
  .simp only[f_]at d;rw[d]at h;exact h.elim
 case h_3=>
  by_cases d:nW (P.underlying T)=true
  .rw[d]at h
   simp only[cond_true]at h;split at h
   .exact .inr ⟨_,λw=>by simp[eqGuard,binOp,uR (P:=P) d],h⟩
   .exact .inr ⟨_,λw=>by simp[eqGuard,binOp,uR (P:=P) d],h⟩
   .exact h.elim
  .simp only[f_]at d;rw[d]at h;exact h.elim
 case h_4=>
  by_cases d:qD (P.underlying T)=true
  .rw[d]at h
   simp only[cond_true]at h;split at h
   .exact .inr ⟨_,λw=>by simp[eqGuard,binOp,Be (P:=P) d],h⟩
   .exact .inr ⟨_,λw=>by simp[eqGuard,binOp,Be (P:=P) d],h⟩
   .exact h.elim
  .simp only[f_]at d;rw[d]at h;exact h.elim
 case h_5=>
  split at h
  .obtain⟨b,⟨h1,i⟩,f⟩:=h
   exact .inr ⟨_,λw=>by simp[Bf h1,binOp,i],f⟩
  .obtain⟨b,⟨h1,i⟩,f⟩:=h
   exact .inr ⟨_,λw=>by simp[Bf h1,binOp,i],f⟩
  .exact h.elim
 case h_6 j b=>
  split at h
  .rename_i k a
   by_cases g:k=j
   .subst g
    simp only[kR,decide_true,cond_true]at h;exact .inr ⟨_,λw=>by simp[eqGuard,binOp,Op.intDiv,h.1],h.2⟩
   .simp[kR,g]at h
  .rename_i k a
   by_cases g:k=j
   .subst g
    simp only[kR,decide_true,cond_true]at h;exact .inr ⟨_,λw=>by simp[eqGuard,binOp,Op.intDiv,h.1],h.2⟩
   .simp[kR,g]at h
  .exact .inr ⟨_,λw=>by simp[eqGuard,binOp,Op.shift,show¬b<0 from I],h.2⟩
  .exact .inr ⟨_,λw=>by simp[eqGuard,binOp,Op.shift,show¬b<0 from I],h.2⟩
  .exact .inl h
 case h_7 b=>
  split at h
  .rename_i d
   split at h
   .exact .inr ⟨_,λw=>by simp[eqGuard,binOp,Bg d],h⟩
   .exact .inr ⟨_,λw=>by simp[eqGuard,binOp,Bg d],h⟩
   .exact h.elim
  .exact h.elim
 case h_8 b=>
  split at h
  .rename_i a
   refine .inr ⟨_,λw=>?_,h.2⟩;have h1:=h.1;simp[eqGuard,binOp,Op.stringOp,IntKind.max,IntKind.signed,IntKind.bits];omega
  .exact .inl h
 case h_9=>exact .inl h
end
def uS(P:Program)(T:TypeId)(x:Y)(K:Y->Prop):Prop:=
 match P.underlying T with
 |some (.array n _)=>match x with
  | .slice a len _=>n<=len/\∃A,a=some A/\K (.pointer (some A))
  |_=>False
 |_=>False
def uT(P:Program)(T:TypeId)(x i:Y)(K:Y->Prop):Prop:=
 match i with
 | .int _ n=>
  match P.underlying T with
  |some (.slice elem)=>bif (P.underlying elem).isSome then
   match x with
   | .slice a len _=>∃A,a=some A/\(0<=n/\n<(len:Int))/\K (.pointer (some (A.add (n.toNat*P.cellsOf elem))))
   |_=>False
   else False
  |some (.array len elem)=>bif (P.underlying elem).isSome then
   match x with
   | .pointer (some A)=>(0<=n/\n<(len:Int))/\K (.pointer (some (A.add (n.toNat*P.cellsOf elem))))
   |_=>False
   else False
  |_=>False
 |_=>False
def sL(P:Program)(tk:TypeId->dX)(T:TypeId)(cs:Array Y)(off:Nat)(K:Y->Prop):Prop:=
 match P.underlying T with
 |none=>False
 |some d=>
  bif iG d then K (.agg (cs.extract off (off+P.cellsOf T)))
  else match tk T with
   | .one (.one l)=>o7 l λv=>cs[off]? =some v/\K v
   |_=>False
def uU(P:Program)(tk:TypeId->dX)(T:TypeId)(x i:Y)(K:Y->Prop):Prop:=
 match i with
 | .int _ n=>
  match P.underlying T with
  |some (.array len elem)=>match x with
   | .agg cs=>(0<=n/\n<(len:Int))/\sL P tk elem cs (n.toNat*P.cellsOf elem) K
   |_=>False
  |some .string=>match x with
   | .string s=>0<=n/\∃b:UInt8,s.data.toList[n.toNat]? =some b/\K (.int .u8 b.toNat)
   |_=>False
  |_=>False
 |_=>False
def uV(P:Program)(tk:TypeId->dX)(T:TypeId)(x:Y)(i:Nat)(K:Y->Prop):Prop:=
 match P.underlying T with
 |some (.struct fs)=>match fs[i]? with
  |some f=>match x with
   | .agg cs=>sL P tk f.type cs f.offset K
   |_=>False
  |none=>False
 |_=>False
def lV(v:an Y)(y d:Nat)(K:U1):Prop:=
 match v with
 |none=>K d
 |some (.int _ i)=>(0<=i/\i<=(y:Int))/\K i.toNat
 |_=>False
def bj(a:an ax)(sz l m:Nat):an ax:=if m=l then a else a.map (·.add (l*sz))
def uW(P:Program)(T:TypeId)(x:Y)(lo hi b:an Y)(K:Y->Prop):Prop:=
 match P.underlying T with
 |some .string=>match b,x with
  |none,.string s=>lV hi s.size s.size λh=>lV lo h 0 λl=>K (.string (s.extract l h))
  |_,_=>False
 |some (.slice elem)=>bif (P.underlying elem).isSome then
  match x with
  | .slice a len cap=>match b with
   |none=>lV hi cap len λh=>lV lo h 0 λl=>K (.slice (bj a (P.cellsOf elem) l cap) (h-l) (cap-l))
   |some c=>match hi with
    |none=>False
    |some d=>lV (some c) cap 0 λm=>lV (some d) m 0 λh=>lV lo h 0 λl=>K (.slice (bj a (P.cellsOf elem) l m) (h-l) (m-l))
  |_=>False
  else False
 |some (.array n elem)=>bif (P.underlying elem).isSome then
  match b,x with
  |none,.pointer (some A)=>lV hi n n λh=>lV lo h 0 λl=>K (.slice (bj (some A) (P.cellsOf elem) l n) (h-l) (n-l))
  |_,_=>False
  else False
 |_=>False
def yo(P:Program)(T:TypeId)(l c:Y)(w:J)(K:U0):Prop:=
 match P.underlying T with
 |some (.slice elem)=>bif (P.underlying elem).isSome then
  bif ((P.info? elem).bind (·.zero)).isSome then
  match l,c with
  | .int _ n,.int _ m=>(0<=n/\n<=m/\m<=9223372036854775807/\(P.bytesOf elem:Int)*m<=140737488355328)/\
   K (.slice (some ⟨w,0,none⟩) n.toNat m.toNat) {w with heap:=w.heap.push (.cells (ie P elem m.toNat) elem)}
  |_,_=>False
  else False
  else False
 |_=>False
section
variable {P:Program}{w:J}
theorem kp(o:an TypeDesc)(h:o.isSome=true):∃d,o=some d:=qj.1 h
theorem Bi{T:TypeId}{x:Y}{K:Y->Prop}(h:uS P T x K):∃v,(∀w,(Instr.arrayAt T x).run P w=.ok v w)/\K v:=by
 unfold uS at h;split at h
 .rename_i n e b
  split at h
  .rename_i a len cap
   obtain⟨h1,A,rfl,c⟩:=h;exact⟨_,λw=>by simp[Instr.arrayAt,dh b,Nat.not_lt.2 h1],c⟩
  .exact h.elim
 .exact h.elim
theorem Bj{T:TypeId}{x i:Y}{K:Y->Prop}(h:uT P T x i K):∃v,(∀w,(Instr.indexAt T x i).run P w=.ok v w)/\K v:=by
 unfold uT at h;split at h
 .rename_i k n
  split at h
  .rename_i elem a
   by_cases he:(P.underlying elem).isSome=true
   .rw[he]at h
    simp only[cond_true]at h;split at h
    .obtain⟨A,rfl,b,c⟩:=h
     obtain⟨d,hd⟩:=kp _ he;exact⟨_,λw=>by simp[Instr.indexAt,asIntOf,dh a,b,iH hd],c⟩
    .exact h.elim
   .simp only[f_]at he;rw[he]at h;exact h.elim
  .rename_i len elem a
   by_cases he:(P.underlying elem).isSome=true
   .rw[he]at h
    simp only[cond_true]at h;split at h
    .obtain⟨b,c⟩:=h
     obtain⟨d,hd⟩:=kp _ he;exact⟨_,λw=>by simp[Instr.indexAt,asIntOf,Instr.sureAddr,dh a,b,iH hd],c⟩
    .exact h.elim
   .simp only[f_]at he;rw[he]at h;exact h.elim
  .exact h.elim
 .exact h.elim
theorem Bk{tk:TypeId->dX}{T:TypeId}{cs:Array Y}{off:Nat}{K:Y->Prop}(h:sL P tk T cs off K):∃v,(∀w,(part T cs off).run P w=.ok v w)/\K v:=by
 unfold sL at h;split at h
 .exact h.elim
 .rename_i d a
  cases hd:iG d with
  |true=>
   rw[hd]at h;exact⟨_,λw=>by simp[part,qA a,hd,iH a],h⟩
  |false=>
   rw[hd]at h;simp only[cond_false]at h;split at h
   .obtain⟨v,b,c⟩:=qz h
    exact⟨v,λw=>by simp[part,qA a,hd,b],c⟩
   .exact h.elim
theorem Bl{tk:TypeId->dX}{T:TypeId}{x i:Y}{K:Y->Prop}(h:uU P tk T x i K):∃v,(∀w,(Instr.index T x i).run P w=.ok v w)/\K v:=by
 unfold uU at h;split at h
 .rename_i k n
  split at h
  .rename_i len elem a
   split at h
   .obtain⟨c,h⟩:=h
    obtain⟨v,f,e⟩:=Bk h;refine⟨v,λw=>?_,e⟩;have hs:(Go.sizeOf elem).run P w=.ok (P.cellsOf elem) w:=by
     unfold sL at h
     cases he:P.underlying elem with
     |none=>simp[he]at h
     |some d=>exact iH he
    simp[Instr.index,asIntOf,dh a,c,hs,f]
   .exact h.elim
  .rename_i a
   split at h
   .rename_i s
    obtain⟨c,b,hs,e⟩:=h;have g:s[n.toNat]? =some b:=by
     obtain⟨h1,j⟩:=jK.1 hs;have l:n.toNat<s.size:=by simpa using h1
     rw[getElem?_pos s n.toNat l];simp only[Option.some.injEq];rw[←j];rfl
    exact⟨_,λw=>by simp[Instr.index,asIntOf,dh a,c,g],e⟩
   .exact h.elim
  .exact h.elim
 .exact h.elim
theorem Bm{tk:TypeId->dX}{T:TypeId}{x:Y}{i:Nat}{K:Y->Prop}(h:uV P tk T x i K):∃v,(∀w,(Instr.field T x i).run P w=.ok v w)/\K v:=by
 unfold uV at h;split at h
 .rename_i fs a
  split at h
  .rename_i f hf
   split at h
   .obtain⟨v,b,c⟩:=Bk h
    exact⟨v,λw=>by simp[Instr.field,dh a,hf,asAgg,b],c⟩
   .exact h.elim
  .exact h.elim
 .exact h.elim
theorem lj{v:an Y}{y d:Nat}{c:BoundsCode}{K:U1}(h:lV v y d K):
 (v=none/\K d)\/∃u n,v=some u/\(∀w,(Instr.sliceBound u y c).run P w=.ok n w)/\K n:=by
 unfold lV at h;split at h
 .exact .inl ⟨rfl,h⟩
 .exact .inr ⟨_,_,rfl,λw=>by simp[Instr.sliceBound,asIntOf,h.1],h.2⟩
 .exact h.elim
theorem Bn{T:TypeId}{x:Y}{lo hi p:an Y}{K:Y->Prop}(h:uW P T x lo hi p K):
 ∃v,(∀w,(Instr.sliceAt T x lo hi p).run P w=.ok v w)/\K v:=by
 unfold uW at h;split at h
 .rename_i g
  split at h
  .rename_i s
   rcases lj (P:=P) (c:=.sliceAlen) h with ⟨f,h1⟩|⟨u,n,f,j,h1⟩
   .rcases lj (P:=P) (c:=.sliceB) h1 with ⟨b,e⟩|⟨m,bz,b,i,e⟩
    .exact⟨_,λw=>by simp[Instr.sliceAt,Instr.slice,dh g,Instr.sliceBounds,f,b],e⟩
    .exact⟨_,λw=>by simp[Instr.sliceAt,Instr.slice,dh g,Instr.sliceBounds,f,b,i],e⟩
   .rcases lj (P:=P) (c:=.sliceB) h1 with ⟨b,e⟩|⟨m,bz,b,i,e⟩
    .exact⟨_,λw=>by simp[Instr.sliceAt,Instr.slice,dh g,Instr.sliceBounds,f,b,j],e⟩
    .exact⟨_,λw=>by simp[Instr.sliceAt,Instr.slice,dh g,Instr.sliceBounds,f,b,j,i],e⟩
  .exact h.elim
 .rename_i elem g
  by_cases he:(P.underlying elem).isSome=true
  .rw[he]at h
   simp only[cond_true]at h;obtain⟨d,hd⟩:=kp _ he;have k:=λw:J=>iH (w:=w) hd;split at h
   .rename_i a len cap
    split at h
    .rcases lj (P:=P) (c:=.sliceAcap) h with ⟨f,h1⟩|⟨u,n,f,j,h1⟩
     .rcases lj (P:=P) (c:=.sliceB) h1 with ⟨b,e⟩|⟨m,bz,b,i,e⟩
      .exact⟨_,λw=>by simp[Instr.sliceAt,Instr.slice,dh g,Instr.sliceBounds,k,bj,f,b],e⟩
      .exact⟨_,λw=>by simp[Instr.sliceAt,Instr.slice,dh g,Instr.sliceBounds,i,k,bj,f,b],e⟩
     .rcases lj (P:=P) (c:=.sliceB) h1 with ⟨b,e⟩|⟨m,bz,b,i,e⟩
      .exact⟨_,λw=>by simp[Instr.sliceAt,Instr.slice,dh g,Instr.sliceBounds,j,k,bj,f,b],e⟩
      .exact⟨_,λw=>by simp[Instr.sliceAt,Instr.slice,dh g,Instr.sliceBounds,j,i,k,bj,f,b],e⟩
    .split at h
     .exact h.elim
     .rcases lj (P:=P) (c:=.slice3Acap) h with ⟨l,h1⟩|⟨u,n,l,j,h1⟩
      .cases l
      .cases l
       rcases lj (P:=P) (c:=.slice3B) h1 with ⟨l,e⟩|⟨r,bL,l,q,e⟩
       .cases l
       .cases l
        rcases lj (P:=P) (c:=.slice3C) e with ⟨b,o⟩|⟨m,bz,b,i,o⟩
        .exact⟨_,λw=>by simp[Instr.sliceAt,Instr.slice,dh g,Instr.sliceBounds,j,q,k,bj,b],o⟩
        .exact⟨_,λw=>by simp[Instr.sliceAt,Instr.slice,dh g,Instr.sliceBounds,j,q,i,k,bj,b],o⟩
   .exact h.elim
  .simp only[f_]at he;rw[he]at h;exact h.elim
 .rename_i n elem g
  by_cases he:(P.underlying elem).isSome=true
  .rw[he]at h
   simp only[cond_true]at h;obtain⟨d,hd⟩:=kp _ he;have k:=λw:J=>iH (w:=w) hd;split at h
   .rename_i A
    rcases lj (P:=P) (c:=.sliceAlen) h with ⟨f,h1⟩|⟨u,bL,f,j,h1⟩
    .rcases lj (P:=P) (c:=.sliceB) h1 with ⟨b,e⟩|⟨m,bz,b,i,e⟩
     .refine⟨_,λw=>?_,e⟩
      simp[Instr.sliceAt,dh g,Instr.sureAddr,Instr.sliceBounds,k,bj,f,b];try (split<;>rfl)
     .refine⟨_,λw=>?_,e⟩
      simp[Instr.sliceAt,dh g,Instr.sureAddr,Instr.sliceBounds,i,k,bj,f,b];try (split<;>rfl)
    .rcases lj (P:=P) (c:=.sliceB) h1 with ⟨b,e⟩|⟨m,bz,b,i,e⟩
     .refine⟨_,λw=>?_,e⟩
      simp[Instr.sliceAt,dh g,Instr.sureAddr,Instr.sliceBounds,j,k,bj,f,b];try (split<;>rfl)
     .refine⟨_,λw=>?_,e⟩
      simp[Instr.sliceAt,dh g,Instr.sureAddr,Instr.sliceBounds,j,i,k,bj,f,b];try (split<;>rfl)
   .exact h.elim
  .simp only[f_]at he;rw[he]at h;exact h.elim
 .exact h.elim
theorem yp{n:Int}(h0:0<=n)(h1:n<=9223372036854775807):IntKind.i64.wrap n=n:=by
 have e:n%18446744073709551616=n:=Int.emod_eq_of_lt h0 I;simp[IntKind.wrap,IntKind.signed,IntKind.bits,e];omega
theorem FQ{T:TypeId}{l c:Y}{K:U0}(h:yo P T l c w K):
 ∃v w',(Instr.makeSlice T l c).run P w=.ok v w'/\K v w':=by
 unfold yo at h;split at h
 .rename_i elem e
  by_cases he:(P.underlying elem).isSome=true
  .rw[he]at h
   simp only[cond_true]at h;by_cases a:((P.info? elem).bind (·.zero)).isSome=true
   .rw[a]at h
    simp only[cond_true]at h;split at h
    .rename_i k n t m
     obtain⟨⟨h0,h1,f,g⟩,j⟩:=h;obtain⟨d,hd⟩:=kp _ he;obtain⟨i,hi⟩:=info_of_underlying hd;obtain⟨z,b⟩:=qj.1 a;simp only[hi,Option.bind_some]at b;have o:P.bytesOf elem=i.bytes:=by simp[Program.bytesOf,hi]
     have hc:P.cellsOf elem=i.size:=by simp[Program.cellsOf,hi]
     rw[o]at g;have p:=yp h0 I;have q:=yp (n:=m) I f;refine⟨_,_,?_,j⟩;have r:¬(m<0):=I
     have s:¬(281474976710656<(i.bytes:Int)*m):=I
     simp[Instr.makeSlice,dh e,asInt,asIntOf,nV hi,p,q,r,s,iH hd,show¬n<0 from I,show¬m<n from I];by_cases hs:m.toNat*P.cellsOf elem=0
     .simp[hs,newRow,newObj,Sem.run,ie]
     .simp[zeroValue,nV hi,b,newRow,newObj,Sem.run,ie,hs,hi]
    .exact h.elim
   .simp only[f_]at a;rw[a]at h;exact h.elim
  .simp only[f_]at he;rw[he]at h;exact h.elim
 .exact h.elim
end
def au(w:J)(K:U2):Prop:=K w
def yq(s:ByteArray)(n:Nat):an UInt8:=s.data.toList[n]?
def cellAt(cs:Array Y)(n:Nat):an Y:=cs[n]?
def kS(k:IntKind)(a b:Int):Int:=k.wrap ((BitVec.ofInt k.bits a&&&BitVec.ofInt k.bits b).toNat:Int)
def nX(k:IntKind)(a b:Int):Int:=k.wrap ((BitVec.ofInt k.bits a|||BitVec.ofInt k.bits b).toNat:Int)
def lk(k:IntKind)(a b:Int):Int:=k.wrap ((BitVec.ofInt k.bits a^^^BitVec.ofInt k.bits b).toNat:Int)
def Bo(k:IntKind)(a b:Int):Int:=k.wrap ((BitVec.ofInt k.bits a&&&~~~BitVec.ofInt k.bits b).toNat:Int)
def sM(P:Program)(o:Oper)(K:U0)(e:Env)(w:J):Prop:=
 bif known e o.op.operands then
  match (execOp (ro e) o).run P w with
  | .ok (.value v) w'=>au w' λw1=>K v w1
  |_=>False
 else False
def Bp(P:Program)(tk:TypeId->dX)(T:TypeId):dX:=
 match P.underlying T with
 |some (.slice e)=>tk e
 |_=>.one (.one .agg)
def dx.FR:dx->ag
 | .slice=>true
 |_=>false
def Bq:dX->ag
 | .one (.one .agg)=>true
 | .one (.flat ls)=>ls.any dx.FR
 |_=>false
def gen(P:Program)(tk:TypeId->dX)(o:Oper)(K:U0)(e:Env)(w:J):Prop:=
 bif known e o.op.operands then
  match (execOp (ro e) o).run P w with
  | .ok (.value v) w'=>K v w'
  | .ok .skip w'=>K undef w'
  | .ok (.enter f args) w'=>Calls P f args w' λa b=>i_ (tk o.type) λv=>a=.returned v/\K v b
  |_=>False
 else False
def jN(P:Program)(f:FuncId):Prop:=∃fn,P.funcs[f]? =some fn/\(fn.name== "runtime.NumGoroutine")=false/\fn.body.isNone=false
theorem Br{P:Program}{f:FuncId}(h:jN P f)(args:Array Y)(w:J):(callFunc f args).run P w=.ok (.enter f args) w:=by
 obtain⟨fn,h1,b,a⟩:=h;have c:¬fn.name= "runtime.NumGoroutine" :=by simpa using b
 have d:¬fn.body=none:=by
  intro h;rw[h]at a;cases a
 simp[callFunc,program,Sem.run,bind,Sem.bind,h1,c,d,pure]
def yr:Op->ag
 | .select _ _=>true
 |_=>false
def Bs(P:Program)(T:TypeId):Operand->ag
 | .const _=>false
 |_=>o_ (P.underlying T)||m6 (P.underlying T)
def FT(P:Program)(op:BinOp)(T:TypeId)(jM qF:Operand)(x y:Y)(b:ag):Prop:=
 ∀w,Sem.run P (do eqGuard op T jM qF x y;binOp op T x y:Sem Y) w=.ok (.bool b) w
def qG:Operand->Y->ag
 | .const _,_=>true
 |_,.nilIface=>false
 |_,_=>true
def kq(P:Program)(tk:TypeId->dX)(o:Oper)(K:U0)(e:Env)(w:J):Prop:=
 match o.op with
 | .nilCheck x=>match ev e x with
  |some (.pointer p)=>∃A,p=some A/\K (.pointer (some A)) w
  |_=>False
 | .load T x=>match ev e x with
  |some (.pointer (some A))=>qC P tk T A w λv=>K v w
  |_=>False
 | .store T x y=>match ev e x,ev e y with
  |some (.pointer (some A)),some v=>yn P tk T A v w λw'=>au w' λw1=>K undef w1
  |_,_=>False
 | .binOp op T x y _=>match ev e x,ev e y with
  |some a,some u=>bif Bs P T y then (∃b:ag,FT P op T x y a u b/\K (.bool b) w) else
   bif qG y u then uP P op T a u (λv=>K v w) (gen P tk o K e w) else False
  |_,_=>False
 | .indexAddr T x i=>match ev e x,ev e i with
  |some a,some g=>uT P T a g λv=>K v w
  |_,_=>False
 | .index T x i=>match ev e x,ev e i with
  |some a,some g=>uU P tk T a g λv=>K v w
  |_,_=>False
 | .field T x i=>match ev e x with
  |some a=>uV P tk T a i λv=>K v w
  |_=>False
 | .alloc _=>sM P o K e w
 | .box _ _=>sM P o K e w
 | .buildSlice T n ps=>bif Bq (Bp P tk T) then
  (bif known e o.op.operands then
    i_ (tk o.type) λr=>∃w1,(Instr.buildSlice T n (ps.map λp=>(p.1,ro e p.2))).run P w=.ok r w1/\K r w1
  else False)
  else sM P o K e w
 | .slice T x lo hi z=>bif known e o.op.operands then
  uW P T (ro e x) (lo.map (ro e)) (hi.map (ro e)) (z.map (ro e)) λv=>K v w
  else False
 | .makeSlice T l c=>match ev e l,ev e c with
  |some B,some nY=>yo P T B nY w λv w'=>au w' λw1=>K v w1
  |_,_=>False
 | .convert s d x=>match ev e x with
  |some (.int j n)=>bif (P.underlying s).isSome then
   match P.underlying d with
   |some (.int k)=>K (.int k (k.wrap n)) w
   |_=>i_ (tk o.type) λr=>∃w1,(convert s d (.int j n)).run P w=.ok r w1/\K r w1
   else False
  |some v=>i_ (tk o.type) λr=>∃w1,(convert s d v).run P w=.ok r w1/\K r w1
  |none=>False
 | .build t ps=>match tk t with
  | .one (.flat _)=>gen P tk o K e w
  |_=>bif known e o.op.operands then
   ∃cs:Array Y,(Instr.build t (ps.map λp=>(p.1,ro e p.2))).run P w=.ok (.agg cs) w/\K (.agg cs) w
   else False
 | .lookup T m i ok=>match ev e m,ev e i with
  |some h,some g=>i_ (tk o.type) λr=>∃w1,(Instr.lookup T h g ok).run P w=.ok r w1/\K r w1
  |_,_=>False
 | .mapUpdate T m i x=>match ev e m,ev e i,ev e x with
  |some h,some g,some a=>∃w1,(Instr.mapUpdate T h g a).run P w=.ok () w1/\K undef w1
  |_,_,_=>False
 | .makeMap T r=>bif known e o.op.operands then i_ (tk o.type) λv=>∃w1,(Instr.makeMap T (r.map (ro e))).run P w=.ok v w1/\K v w1 else False
 | .range T x=>match ev e x with
  |some a=>∃v w1,(Instr.range T a).run P w=.ok v w1/\K v w1
  |_=>False
 | .next it q=>match ev e it with
  |some a=>(bif q then ∃ (n:Int) (c:Int) (w1:J),(Instr.next a q o.type).run P w=.ok (.tuple #[.bool true,.int .i64 n,.int .i32 c]) w1/\K (.tuple #[.bool true,.int .i64 n,.int .i32 c]) w1
   else ∃ (k:Y) (v:Y) (w1:J),(Instr.next a q o.type).run P w=.ok (.tuple #[.bool true,k,v]) w1/\K (.tuple #[.bool true,k,v]) w1)\/
   (∃w1:J,(Instr.next a q o.type).run P w=.ok (.tuple #[.bool false]) w1/\K (.tuple #[.bool false]) w1)
  |_=>False
 | .call c=>match c.callee with
  | .value (.tmp k)=>match e.get k with
   |some (.func (.func f) pre cap)=>bif known e o.op.operands then
    jN P f/\Calls P f (pre++c.args.map (ro e)++cap) w λC w1=>i_ (tk o.type) λv=>C=.returned v/\K v w1
    else False
   |_=>gen P tk o K e w
  | .builtin .append=>bif known e o.op.operands then i_ (tk o.type) λr=>∃w1,(Builtin.append_ c.argTypes o.type (c.args.map (ro e))).run P w=.ok r w1/\K r w1 else False
  | .builtin .copy=>bif known e o.op.operands then i_ (tk o.type) λr=>∃w1,(Builtin.copy_ c.argTypes o.type (c.args.map (ro e))).run P w=.ok r w1/\K r w1 else False
  | .builtin .min=>bif known e o.op.operands then i_ (tk o.type) λr=>∃w1,(Builtin.min_ c.argTypes o.type (c.args.map (ro e))).run P w=.ok r w1/\K r w1 else False
  | .builtin .max=>bif known e o.op.operands then i_ (tk o.type) λr=>∃w1,(Builtin.max_ c.argTypes o.type (c.args.map (ro e))).run P w=.ok r w1/\K r w1 else False
  | .builtin .delete=>bif known e o.op.operands then ∃r w1,(Builtin.delete_ c.argTypes o.type (c.args.map (ro e))).run P w=.ok r w1/\K r w1 else False
  | .value (.func f)=>match P.funcs[f]? with
   |some fn=>match fn.body with
    |some _=>gen P tk o K e w
    |none=>bif known e o.op.operands then i_ (tk o.type) λr=>∃w1,(callFunc f (c.args.map (ro e))).run P w=.ok (.value r) w1/\K r w1 else False
   |none=>False
  | .builtin .unsafeString=>bif known e o.op.operands then i_ (tk o.type) λr=>∃w1,(Builtin.unsafeString_ c.argTypes o.type (c.args.map (ro e))).run P w=.ok r w1/\K r w1 else False
  | .builtin .unsafeSliceData=>bif known e o.op.operands then i_ (tk o.type) λr=>∃w1,(Builtin.unsafeSliceData_ c.argTypes o.type (c.args.map (ro e))).run P w=.ok r w1/\K r w1 else False
  | .builtin .clear=>bif known e o.op.operands then ∃r w1,(Builtin.clear_ c.argTypes o.type (c.args.map (ro e))).run P w=.ok r w1/\K r w1 else False
  | .builtin .len=>match ((c.args.map (ro e))[0]? :an Y) with
   |some (Value.map _)=>bif known e o.op.operands then i_ (tk o.type) λr=>∃w1,(Builtin.len_ c.argTypes o.type (c.args.map (ro e))).run P w=.ok r w1/\K r w1 else False
   |_=>gen P tk o K e w
  |_=>gen P tk o K e w
 | .sliceToArrayPointer T x=>match ev e x with
  |some a=>uS P T a λv=>K v w
  |_=>False
 | .mapEntry T m i=>match ev e m,ev e i with
  |some h,some g=>∃ (v0:Y) (st:Int) (w1:J),(Instr.mapEntry T h g).run P w=.ok (.tuple #[v0,.int .i64 st]) w1/\K (.tuple #[v0,.int .i64 st]) w1
  |_,_=>False
 | .entryStore T m s x=>match ev e m,ev e s,ev e x with
  |some h,some vs,some a=>∃w1,(Instr.entryStore T h vs a).run P w=.ok () w1/\K undef w1
  |_,_,_=>False
 | .entry it=>match ev e it with
  |some a=>i_ (tk o.type) λv=>∃w1,(Instr.entry a).run P w=.ok v w1/\K v w1
  |_=>False
 | .select _ _=>False
 |_=>gen P tk o K e w
def m7(P:Program)(o:Oper)(a:Act)(w:J)(K:U0):Prop:=
 (∃v w',(execOp a.eval o).run P w=.ok (.value v) w'/\K v w')\/
 (∃w',(execOp a.eval o).run P w=.ok .skip w'/\K undef w')\/
 (∃f args w',(execOp a.eval o).run P w=.ok (.enter f args) w'/\Calls P f args w' λb c=>∃v,b=.returned v/\K v c)
theorem m7.wp{P:Program}{o:Oper}{a:Act}{w:J}{K:U0}{next:Act->U2}{Q:Exit->Act->U2}
 (h:m7 P o a w K) (c:∀v w',K v w'->next (a.put o.dst v) w'):o.wp P a w next Q:=by
 unfold Oper.wp;obtain⟨v,w',h,b⟩|⟨w',h,b⟩|⟨f,args,w',h,hc⟩:=h
 .rw[h];exact c _ _ b
 .rw[h];exact c _ _ b
 .rw[h]
  exact hc.mono λe g ⟨v,d,b⟩=>by subst d;exact c _ _ b
section
variable {P:Program}{tk:TypeId->dX}{o:Oper}{K:U0}{e:Env}{a:Act}{w:J}
theorem FU(ak:dy e a){xs:Array Operand}(h:known e xs=true):∀x∈xs,a.eval x=ro e x:=by
 intro x hx;exact ak.ro (kM.1 h x (by simpa using hx))
theorem ll(ak:dy e a)(hs:yr o.op=false)(h:known e o.op.operands=true):execOp a.eval o=execOp (ro e) o:=
 execOp_congr o (λcs b hc=>by rw[hc]at hs;cases hs) (FU ak h)
theorem pb(ak:dy e a)(hs:yr o.op=false)(h:gen P tk o K e w):m7 P o a w K:=by
 unfold gen at h;by_cases c:known e o.op.operands=true
 .rw[c]at h
  simp only[cond_true]at h;have hc:=ll ak hs c;unfold m7;rw[hc];split at h
  .rename_i v w' b
   exact .inl ⟨v,w',b,h⟩
  .rename_i w' b
   exact .inr (.inl ⟨w',b,h⟩)
  .rename_i f args w' b
   refine .inr (.inr ⟨f,args,w',b,h.mono λg i d=>?_⟩);exact jy d
  .exact h.elim
 .simp only[f_]at c
  rw[c]at h;exact h.elim
theorem yt(ak:dy e a)(hs:yr o.op=false)(h:sM P o K e w):m7 P o a w K:=by
 unfold sM at h;by_cases b:known e o.op.operands=true
 .rw[b]at h
  simp only[cond_true]at h;have hc:=ll ak hs b;unfold m7;rw[hc];split at h
  .rename_i v w' c
   exact .inl ⟨v,w',c,h⟩
  .exact h.elim
 .simp only[f_]at b
  rw[b]at h;exact h.elim
theorem yu:∀ {ls:O dx}{A:ax}{i:Nat}{K:O Y->Prop},ym ls A i w K->∃vs,cv w A i ls.length=some vs/\K vs
 | [],_,_,_,h=>⟨[],rfl,h⟩
 |l::ls,A,i,K,h=>by
  obtain⟨v,a,h⟩:=qz h
  obtain⟨vs,b,h⟩:=yu h
  exact⟨v::vs,by simp[cv,a,b],h⟩
theorem Bt{T:TypeId}{A:ax}{K:Y->Prop}(h:qC P tk T A w K):∃v,(Instr.loadAt T (.pointer (some A))).run P w=.ok v w/\K v:=by
 have e:(Instr.loadAt T (.pointer (some A))).run P w=(loadVar T A).run P w:=by simp[Instr.loadAt,Instr.sureAddr]
 rw[e];unfold qC at h;split at h
 .exact h.elim
 .rename_i d b
  cases hd:iG d with
  |true=>
   rw[hd]at h;simp only[cond_true]at h;split at h
   .rename_i ls _
    by_cases a:Nat.beq (P.cellsOf T) ls.length=true
    .rw[a]at h
     simp only[cond_true]at h;obtain⟨vs,c,h⟩:=yu h;rw[←jt a]at c;exact⟨_,uO b hd c,h⟩
    .simp only[f_]at a;rw[a]at h;exact h.elim
   .obtain⟨cs,hc,h⟩:=h
    exact⟨_,uO b hd hc,h⟩
  |false=>
   rw[hd]at h;simp only[cond_false]at h;split at h
   .obtain⟨v,f,h⟩:=qz h
    exact⟨v,Bb b hd f,h⟩
   .exact h.elim
theorem yw{v:Y}(h:Plain v):v.cells= #[v]:=by cases v<;>first|rfl|exact h.elim
theorem add_zero'(A:ax):A.add 0=A:=rfl
theorem FV{T:TypeId}{A:ax}{x:Y}{K:U2}(h:yn P tk T A x w K):
 ∃w',(Instr.storeAt T (.pointer (some A)) x).run P w=.ok () w'/\K w':=by
 have f:(Instr.storeAt T (.pointer (some A)) x).run P w=(storeVar T A x).run P w:=by simp[Instr.storeAt,Instr.sureAddr]
 rw[f];unfold yn at h;split at h
 .exact h.elim
 .rename_i d c
  cases hd:iG d with
  |true=>
   rw[hd]at h;simp only[cond_true]at h;split at h
   .rename_i cs
    exact⟨_,Bc (v:=.agg cs) c h.2.1 h.1,h.2.2⟩
   .exact h.elim
  |false=>
   rw[hd]at h;simp only[cond_false]at h;have one:∀ (b:Plain x) (a:Nat.beq (P.cellsOf T) 1=true),((∃u,w.cell? A=some u)/\w.frozen? A=false/\K (w.setCell A x))->∃w',(storeVar T A x).run P w=.ok () w'/\K w':=by
    intro b a ⟨⟨u,hu⟩,hf,g⟩;refine⟨_,Bc (v:=x) c ?_ ?_,?_⟩
    .rw[yw b,jt a];rfl
    .rw[yw b]
     refine⟨λi hi=>?_,λv j=>?_⟩
     .have:i=0:=by simpa using hi
      subst this;rw[add_zero',hu];exact⟨rfl,hf⟩
     .have:v=x:=by simpa using j
      subst this;exact b
    .rw[yw b]
     exact g
   by_cases a:Nat.beq (P.cellsOf T) 1=true
   .have e:=a
    rw[a]at h;simp only[cond_true]at h;split at h
    .exact one h.1 e h.2
    .split at h
     .exact h.elim
     .exact h.elim
     .rename_i h1 k
      refine one ?_ e h
      cases x<;>first|exact trivial|(exact absurd rfl (h1 _))|(exact absurd rfl (k _))
   .simp only[f_]at a;rw[a]at h;exact h.elim
theorem uX(ak:dy e a)(h:kq P tk o K e w):m7 P o a w K:=by
 unfold kq at h;split at h
 case h_1 x j=>
  split at h
  .rename_i p hx
   obtain⟨A,rfl,g⟩:=h;exact .inl ⟨_,_,by simp[execOp,j,ak.ev hx],g⟩
  .exact h.elim
 case h_2 T x j=>
  split at h
  .rename_i A hx
   obtain⟨v,B,g⟩:=Bt h;exact .inl ⟨v,w,by simp[execOp,j,ak.ev hx,B],g⟩
  .exact h.elim
 case h_3 T x y j=>
  split at h
  .rename_i A v hx H
   obtain⟨w',U,g⟩:=FV h;exact .inr (.inl ⟨w',by simp[execOp,j,ak.ev hx,ak.ev H,U],g⟩)
  .exact h.elim
 case h_4 op T x y ac j=>
  split at h
  .rename_i D R hx H
   by_cases N:Bs P T y=true
   .rw[N]at h
    simp only[cond_true]at h;obtain⟨b,z,g⟩:=h;exact .inl ⟨_,w,by
     simp only[execOp,j,ak.ev hx,ak.ev H];have G:=z w;simp only[Sem.run_bind]at G⊢;rw[G];rfl,g⟩
   simp only[f_]at N;rw[N]at h;simp only[cond_false]at h;by_cases I:qG y R=true
   .rw[I]at h
    simp only[cond_true]at h;have V:R=.nilIface->∃c,y=.const c:=by
     intro B;subst B
     cases y<;>simp[qG]at I⊢
    rcases Bh (jM:=x) (qF:=y) V h with hg|⟨v,B,g⟩
    .exact pb ak (by rw[j];rfl) hg
    .exact .inl ⟨v,w,by
      simp only[execOp,j,ak.ev hx,ak.ev H];have G:=B w;simp only[Sem.run_bind]at G⊢;rw[G];rfl,g⟩
   .simp only[f_]at I;rw[I]at h;exact h.elim
  .exact h.elim
 case h_5 T x i j=>
  split at h
  .rename_i D L hx hi
   obtain⟨v,B,g⟩:=Bj h;exact .inl ⟨v,w,by simp[execOp,j,ak.ev hx,ak.ev hi,B],g⟩
  .exact h.elim
 case h_6 T x i j=>
  split at h
  .rename_i D L hx hi
   obtain⟨v,B,g⟩:=Bl h;exact .inl ⟨v,w,by simp[execOp,j,ak.ev hx,ak.ev hi,B],g⟩
  .exact h.elim
 case h_7 T x i j=>
  split at h
  .rename_i D hx
   obtain⟨v,B,g⟩:=Bm h;exact .inl ⟨v,w,by simp[execOp,j,ak.ev hx,B],g⟩
  .exact h.elim
 case h_8 T j=>exact yt ak (by rw[j];rfl) h
 case h_9 T x j=>exact yt ak (by rw[j];rfl) h
 case h_10 T n ps j=>
  cases S:Bq (Bp P tk T) with
  |true=>
   rw[S]at h;simp only[cond_true]at h;by_cases u:known e o.op.operands=true
   .rw[u]at h
    simp only[cond_true]at h;have hc:=ll ak (by rw[j];rfl) u;obtain⟨r,w1,q,g⟩:=jy h;exact .inl ⟨r,w1,by rw[hc];simp[execOp,j];rw[q];rfl,g⟩
   .simp only[f_]at u;rw[u]at h;exact h.elim
  |false=>
   rw[S]at h;exact yt ak (by rw[j];rfl) h
 case h_11 T x lo hi ad j=>
  by_cases u:known e o.op.operands=true
  .rw[u]at h
   simp only[cond_true]at h;have hc:=ll ak (by rw[j];rfl) u;obtain⟨v,B,g⟩:=Bn h;exact .inl ⟨v,w,by rw[hc];simp[execOp,j,B],g⟩
  .simp only[f_]at u;rw[u]at h;exact h.elim
 case h_12 T l c j=>
  split at h
  .rename_i ae nY W hc
   obtain⟨v,w',B,g⟩:=FQ h;exact .inl ⟨v,w',by simp[execOp,j,ak.ev W,ak.ev hc,B],g⟩
  .exact h.elim
 case h_13 s d x j=>
  split at h
  .rename_i k n hx
   by_cases hs:(P.underlying s).isSome=true
   .rw[hs]at h
    simp only[cond_true]at h;obtain⟨ds,Z⟩:=kp _ hs;split at h
    .rename_i af hd
     exact .inl ⟨_,_,by simp[execOp,j,ak.ev hx,convert,dh Z,dh hd,Conv.intToInt],h⟩
    .obtain⟨r,w1,q,g⟩:=jy h
     exact .inl ⟨r,w1,by simp[execOp,j,ak.ev hx,q],g⟩
   .simp only[f_]at hs;rw[hs]at h;exact h.elim
  .rename_i v _ hx
   obtain⟨r,w1,q,g⟩:=jy h;exact .inl ⟨r,w1,by simp[execOp,j,ak.ev hx,q],g⟩
  .exact h.elim
 case h_14 t ps j=>
  split at h
  .exact pb ak (by rw[j];rfl) h
  .by_cases u:known e o.op.operands=true
   .rw[u]at h
    simp only[cond_true]at h;have hc:=ll ak (by rw[j];rfl) u;obtain⟨cs,q,g⟩:=h;exact .inl ⟨_,_,by rw[hc];simp[execOp,j];rw[q];rfl,g⟩
   .simp only[f_]at u;rw[u]at h;exact h.elim
 case h_15 T m i ok j=>
  split at h
  .rename_i O L F hi
   obtain⟨r,w1,q,g⟩:=jy h;exact .inl ⟨r,w1,by simp[execOp,j,ak.ev F,ak.ev hi,q],g⟩
  .exact h.elim
 case h_16 T m i x j=>
  split at h
  .rename_i O L D F hi hx
   obtain⟨w1,q,g⟩:=h;exact .inr (.inl ⟨w1,by simp[execOp,j,ak.ev F,ak.ev hi,ak.ev hx,q],g⟩)
  .exact h.elim
 case h_17 T r j=>
  by_cases u:known e o.op.operands=true
  .rw[u]at h
   simp only[cond_true]at h;have hc:=ll ak (by rw[j];rfl) u;obtain⟨v,w1,q,g⟩:=jy h;exact .inl ⟨v,w1,by rw[hc];simp[execOp,j,q],g⟩
  .simp only[f_]at u;rw[u]at h;exact h.elim
 case h_18 T x j=>
  split at h
  .rename_i D hx
   obtain⟨v,w1,q,g⟩:=h;exact .inl ⟨v,w1,by simp[execOp,j,ak.ev hx,q],g⟩
  .exact h.elim
 case h_19 it aa j=>
  split at h
  .rename_i D hx
   obtain h|⟨w1,q,g⟩:=h
   .cases aa with
    |true=>
     obtain⟨n,c,w1,q,g⟩:=h;exact .inl ⟨_,w1,by simp[execOp,j,ak.ev hx,q],g⟩
    |false=>
     obtain⟨k,v,w1,q,g⟩:=h;exact .inl ⟨_,w1,by simp[execOp,j,ak.ev hx,q],g⟩
   .exact .inl ⟨_,w1,by simp[execOp,j,ak.ev hx,q],g⟩
  .exact h.elim
 case h_20 c j=>
  have E:∀ (b:Builtin) (r:Y) (w1:J),c.callee=.builtin b->known e o.op.operands=true->
   (∀cs,(Go.builtin b c.argTypes o.type cs (c.args.map (ro e))).run P w=.ok (.value r) w1)->K r w1->m7 P o a w K:=by
   intro b r w1 z u q g;have hc:=ll ak (by rw[j];rfl) u;exact .inl ⟨r,w1,by rw[hc];simp[execOp,j,resolve,z,invoke,q],g⟩
  have C:∀ {X:Prop},(bif known e o.op.operands then X else False)->known e o.op.operands=true/\X:=by
   intro X M;by_cases u:known e o.op.operands=true
   .rw[u]at M;exact⟨u,M⟩
   .simp only[f_]at u;rw[u]at M;exact M.elim
  split at h
  .rename_i k z
   split at h
   .rename_i f pre cap hg
    obtain⟨u,ab,h⟩:=C h;have hc:=ll ak (by rw[j];rfl) u;refine .inr (.inr ⟨f,pre++c.args.map (ro e)++cap,w,?_,h.mono λag w1 h1=>?_⟩)
    .have Q:ro e (.tmp k)=.func (.func f) pre cap:=by simp[ro,ev,hg]
     rw[hc];simp[execOp,j,resolve,z,Q,Deferred.ofValue,invoke,Br ab]
    .obtain⟨v,B,g⟩:=jy h1
     exact⟨v,B,g⟩
   .exact pb ak (by rw[j];rfl) h
  .rename_i z
   obtain⟨u,h⟩:=C h;obtain⟨r,w1,q,g⟩:=jy h;exact E _ r w1 z u (λ_=>by simp[Go.builtin,q]) g
  .rename_i z
   obtain⟨u,h⟩:=C h;obtain⟨r,w1,q,g⟩:=jy h;exact E _ r w1 z u (λ_=>by simp[Go.builtin,q]) g
  .rename_i z
   obtain⟨u,h⟩:=C h;obtain⟨r,w1,q,g⟩:=jy h;exact E _ r w1 z u (λ_=>by simp[Go.builtin,q]) g
  .rename_i z
   obtain⟨u,h⟩:=C h;obtain⟨r,w1,q,g⟩:=jy h;exact E _ r w1 z u (λ_=>by simp[Go.builtin,q]) g
  .rename_i z
   obtain⟨u,r,w1,q,g⟩:=C h;exact E _ r w1 z u (λ_=>by simp[Go.builtin,q]) g
  .rename_i f z
   split at h
   .rename_i fn ah
    split at h
    .exact pb ak (by rw[j];rfl) h
    .obtain⟨u,h⟩:=C h
     obtain⟨r,w1,q,g⟩:=jy h;have hc:=ll ak (by rw[j];rfl) u;refine .inl ⟨r,w1,?_,g⟩;rw[hc];have Q:ro e (.func f)=.func (.func f) #[] #[]:=by simp[ro,ev]
     simp[execOp,j,resolve,z,Q,Deferred.ofValue,invoke,q]
   .exact h.elim
  .rename_i z
   obtain⟨u,h⟩:=C h;obtain⟨r,w1,q,g⟩:=jy h;exact E _ r w1 z u (λ_=>by simp[Go.builtin,q]) g
  .rename_i z
   obtain⟨u,h⟩:=C h;obtain⟨r,w1,q,g⟩:=jy h;exact E _ r w1 z u (λ_=>by simp[Go.builtin,q]) g
  .rename_i z
   obtain⟨u,r,w1,q,g⟩:=C h;exact E _ r w1 z u (λ_=>by simp[Go.builtin,q]) g
  .rename_i z
   split at h
   .obtain⟨u,h⟩:=C h
    obtain⟨r,w1,q,g⟩:=jy h;exact E _ r w1 z u (λ_=>by simp[Go.builtin,q]) g
   .exact pb ak (by rw[j];rfl) h
  .exact pb ak (by rw[j];rfl) h
 case h_21 T x j=>
  split at h
  .rename_i D hx
   obtain⟨v,B,g⟩:=Bi h;exact .inl ⟨v,w,by simp[execOp,j,ak.ev hx,B],g⟩
  .exact h.elim
 case h_22 T m i j=>
  split at h
  .rename_i O L F hi
   obtain⟨v0,st,w1,q,g⟩:=h;exact .inl ⟨_,w1,by simp[execOp,j,ak.ev F,ak.ev hi,q],g⟩
  .exact h.elim
 case h_23 T m s x j=>
  split at h
  .rename_i O vs D F hs hx
   obtain⟨w1,q,g⟩:=h;exact .inr (.inl ⟨w1,by simp[execOp,j,ak.ev F,ak.ev hs,ak.ev hx,q],g⟩)
  .exact h.elim
 case h_24 it j=>
  split at h
  .rename_i D hx
   obtain⟨v,w1,q,g⟩:=jy h;exact .inl ⟨v,w1,by simp[execOp,j,ak.ev hx,q],g⟩
  .exact h.elim
 case h_25=>exact h.elim
 case h_26=>
  refine pb ak ?_ h
  cases j:o.op<;>first|rfl|simp_all
end
end aU
namespace aU
open Go
inductive ln where
 |run
 |split (n:Nat)
 |pure (n:Nat)
 |uY (ks:O Kd)
def fj(P:Program)(o:Oper)(e:Env):an Y:=
 match o.op with
 | .move x=>ev e x
 | .assign x=>ev e x
 | .unOp .not _ x=>match ev e x with
  |some (.bool b)=>some (.bool (!b))
  |_=>none
 | .binOp op T x y _=>match ev e y with
  |some (.int f b)=>match ev e x with
   |some (.int k a)=>bif kR k f then
    match op with
    | .add=>some (.int k (k.wrap (a+b)))
    | .sub=>some (.int k (k.wrap (a-b)))
    | .mul=>some (.int k (k.wrap (a*b)))
    | .quo=>match b with
     | .ofNat (.succ m)=>some (.int k (k.wrap (a.tdiv (.ofNat (.succ m)))))
     |_=>none
    | .rem=>match b with
     | .ofNat (.succ m)=>some (.int k (a.tmod (.ofNat (.succ m))))
     |_=>none
    | .and=>some (.int k (k.wrap (BitVec.ofInt k.bits a&&&BitVec.ofInt k.bits b).toNat))
    | .or=>some (.int k (k.wrap (BitVec.ofInt k.bits a|||BitVec.ofInt k.bits b).toNat))
    | .xor=>some (.int k (k.wrap (BitVec.ofInt k.bits a^^^BitVec.ofInt k.bits b).toNat))
    | .eql=>some (.bool (a==b))
    | .neq=>some (.bool (a !=b))
    | .lss=>some (.bool (a<b))
    | .leq=>some (.bool (a<=b))
    | .gtr=>some (.bool (a>b))
    | .geq=>some (.bool (a>=b))
    |_=>none
    else none
   |_=>none
  |some (.bool b)=>match ev e x with
   |some (.bool a)=>match P.underlying T with
    |some .bool=>match op with
     | .eql=>some (.bool (a==b))
     | .neq=>some (.bool (!(a==b)))
     |_=>none
    |_=>none
   |_=>none
  |some (.string b)=>match ev e x with
   |some (.string a)=>match op with
    | .eql=>some (.bool (a.toList==b.toList))
    | .neq=>some (.bool (!(a.toList==b.toList)))
    |_=>none
   |_=>none
  |some (.pointer none)=>match ev e x with
   |some (.pointer p)=>bif m6 (P.underlying T) then match op with
    | .eql=>some (.bool p.isNone)
    | .neq=>some (.bool (!p.isNone))
    |_=>none
    else none
   |_=>none
  |some (.slice none _ _)=>match ev e x with
   |some (.slice p _ _)=>bif nW (P.underlying T) then match op with
    | .eql=>some (.bool p.isNone)
    | .neq=>some (.bool (!p.isNone))
    |_=>none
    else none
   |_=>none
  |_=>none
 | .convert s d x=>match ev e x with
  |some (.int _ n)=>match P.underlying d with
   |some (.int k)=>bif (P.underlying s).isSome then some (.int k (k.wrap n)) else none
   |_=>none
  |_=>none
 | .call {callee:=.builtin .len,args:=args,argTypes:=gw}=>match args[0]?,gw[0]? with
  |some x,some T=>match ev e x,P.underlying T with
   |some (.slice _ n _),some (.slice _)=>some (.int .i64 n)
   |some (.string s),some .string=>some (.int .i64 s.size)
   |_,_=>none
  |_,_=>none
 | .call {callee:=.builtin .cap,args:=args,argTypes:=gw}=>match args[0]?,gw[0]? with
  |some x,some T=>match ev e x,P.underlying T with
   |some (.slice _ _ c),some (.slice _)=>some (.int .i64 c)
   |_,_=>none
  |_,_=>none
 |_=>none
def sN(ops:Array Oper)(e:Env)(j:Nat):an Y:=((ops[j]?).bind (·.dst)).bind e.get
def FW(ops:Array Oper)(j:Nat):an Nat:=(ops[j]?).bind (·.dst)
def L_(o:Oper)(e:Env)(K:ag->Prop):Prop:=
 match o.guard with
 |none=>match o.op with
  | .pick x y z=>match ev e x with
   |some (.bool b)=>match ev e (bif b then y else z) with
    |some (.bool r)=>K r
    |_=>False
   |_=>False
  |_=>False
 |some _=>False
def hX(ops:Array Oper)(o:Oper)(e:Env)(run skip:Prop):Prop:=
 match o.guard with
 |none=>run
 |some (j,want)=>match sN ops e j with
  |none=>False
  |some (.bool b)=>bif Bool.xor b want then skip else run
  |some _=>skip
def my{α:Type}(ops:Array Oper)(o:Oper)(e:Env)(run skip:an α):an α:=
 match o.guard with
 |none=>run
 |some (j,want)=>match sN ops e j with
  |none=>none
  |some (.bool b)=>bif Bool.xor b want then skip else run
  |some _=>skip
def lW(o:Oper)(e:Env):an ag:=
 match o.op with
 | .pick x y z=>match ev e x with
  |some (.bool b)=>match ev e (bif b then y else z) with
   |some (.bool r)=>some r
   |_=>none
  |_=>none
 |_=>none
def sO(ops:Array Oper)(o:Oper)(e:Env):an (Nat×ag):=
 match o.guard with
 |none=>none
 |some (j,_)=>match FW ops j with
  |none=>none
  |some s=>match e.get s with
   |some (.bool c)=>some (s,c)
   |_=>none
def m8(ops:Array Oper)(o:Oper)(e:Env):ag:=
 match o.guard with
 |none=>true
 |some (j,want)=>match sN ops e j with
  |some (.bool b)=> !(Bool.xor b want)
  |_=>false
def nZ(e:Env)(ds:O Nat):ag:=e.all λp=> !(ds.any λd=>Nat.beq d p.1)
def b3(l:O Oper):O Nat:=l.filterMap (·.dst)
def jO(P:Program)(ops:Array Oper):Nat->O Oper->O ln->Env->an Env
 |0,_,_,_=>none
 |_+1,[],_,e=>some e
 |n+1,o::rest,.pure m::as,e=>
  match sO ops o e,rest.drop (m-1) with
  |none,_=>
   match my ops o e none (some undef) with
   |some v=>jO P ops n rest as (dn o.dst v e)
   |none=>none
  |some (s,c),a::b=>
   match jO P ops n (o::rest.take (m-1)) (.run::as.take (m-1)) ((s,.bool true)::e),jO P ops n (o::rest.take (m-1)) (.run::as.take (m-1)) ((s,.bool false)::e) with
   |some d,some f=>
    match lW a d,lW a f with
    |some r1,some bA=>bif m8 ops a e&&nZ e (b3 (o::rest.take (m-1))) then jO P ops n b (as.drop m) (dn a.dst (.bool (cond c r1 bA)) e) else none
    |_,_=>none
   |_,_=>none
  |_,_=>none
 |n+1,o::rest,_::as,e=>
  match my ops o e (fj P o e) (some undef) with
  |some v=>jO P ops n rest as (dn o.dst v e)
  |none=>none
 |n+1,o::rest,[],e=>
  match my ops o e (fj P o e) (some undef) with
  |some v=>jO P ops n rest [] (dn o.dst v e)
  |none=>none
inductive aX {α:Type} (B:α->Prop) (k:α):Prop where
 |mk (h:B k)
theorem aX.out{α:Type}{B:α->Prop}{k:α}(h:aX B k):B k:=by cases h with|mk h=>exact h
def uZ(P:Program)(ks:O Kd)(o:Oper)(K:U0)(e:Env)(w:J):Prop:=
 match o.op with
 | .entry it=>match ev e it with
  |some a=>uN ks λvs=>∃w1,(Instr.entry a).run P w=.ok (.tuple vs.toArray) w1/\K (.tuple vs.toArray) w1
  |_=>False
 |_=>False
theorem FX{P:Program}{ks:O Kd}{o:Oper}{K:U0}{e:Env}{w:J}{a:Act}(ak:dy e a)(h:uZ P ks o K e w):m7 P o a w K:=by
 unfold uZ at h;split at h
 .rename_i it b
  split at h
  .rename_i f hx
   obtain⟨v,w1,c,d⟩:=yk h;exact .inl ⟨_,w1,by simp[execOp,b,ak.ev hx,c],d⟩
  .exact h.elim
 .exact h.elim
def gj(P:Program)(tk:TypeId->dX)(ops:Array Oper):Nat->O Oper->O ln->(Env->U2)->Env->U2
 |0,_,_,_,_,_=>False
 |_+1,[],_,K,e,w=>K e w
 |n+1,o::rest,.uY ks::as,K,e,w=>
  hX ops o e (uZ P ks o (λv w'=>gj P tk ops n rest as K (dn o.dst v e) w') e w) (gj P tk ops n rest as K (dn o.dst undef e) w)
 |n+1,o::rest,.pure m::as,K,e,w=>
  match sO ops o e,rest.drop (m-1) with
  |none,_=>hX ops o e False (gj P tk ops n rest as K (dn o.dst undef e) w)
  |some (s,c),a::b=>
   match jO P ops n (o::rest.take (m-1)) (.run::as.take (m-1)) ((s,.bool true)::e),jO P ops n (o::rest.take (m-1)) (.run::as.take (m-1)) ((s,.bool false)::e) with
   |some f,some g=>
    match lW a f,lW a g with
    |some r1,some bA=>bif m8 ops a e&&nZ e (b3 (o::rest.take (m-1))) then gj P tk ops n b (as.drop m) K (dn a.dst (.bool (cond c r1 bA)) e) w else False
    |_,_=>False
   |_,_=>False
  |_,_=>False
 |n+1,o::rest,.split m::as,K,e,w=>
  match sO ops o e,rest.drop (m-1) with
  |none,_=>hX ops o e False (gj P tk ops n rest as K (dn o.dst undef e) w)
  |some (s,c),a::b=>
   bif m8 ops a e&&nZ e (b3 (o::rest.take (m-1))) then
    aX (λk:ag->U2=>
     (c=true->gj P tk ops n (o::rest.take (m-1)) (.run::as.take (m-1)) (λd w'=>match lW a d with|some r=>k r w'|none=>False) ((s,.bool true)::e) w)/\
     (c=false->gj P tk ops n (o::rest.take (m-1)) (.run::as.take (m-1)) (λd w'=>match lW a d with|some r=>k r w'|none=>False) ((s,.bool false)::e) w))
     (λr w'=>gj P tk ops n b (as.drop m) K (dn a.dst (.bool r) e) w')
   else False
  |_,_=>False
 |n+1,o::rest,_::as,K,e,w=>
  hX ops o e (kq P tk o (λv w'=>gj P tk ops n rest as K (dn o.dst v e) w') e w) (gj P tk ops n rest as K (dn o.dst undef e) w)
 |n+1,o::rest,[],K,e,w=>
  hX ops o e (kq P tk o (λv w'=>gj P tk ops n rest [] K (dn o.dst v e) w') e w) (gj P tk ops n rest [] K (dn o.dst undef e) w)
structure en(ds:O Nat)(a a':Act):Prop where
 defers:a'.defers=a.defers
 size:a'.tmps.size=a.tmps.size
 same:∀s,s∉ds->a'.tmps[s]? =a.tmps[s]?
theorem en.refl(ds:O Nat)(a:Act):en ds a a:=⟨rfl,rfl,λ_ _=>rfl⟩
theorem en.trans{ds:O Nat}{a b c:Act}(h:en ds a b)(k:en ds b c):en ds a c:=
 ⟨k.defers.trans h.defers,k.size.trans h.size,λs hs=>(k.same s hs).trans (h.same s hs)⟩
theorem en.mono{ds es:O Nat}{a b:Act}(h:en ds a b)(hs:∀s,s∈ds->s∈es):en es a b:=
 ⟨h.defers,h.size,λs c=>h.same s λd=>c (hs s d)⟩
theorem en.put{a:Act}{d:an Nat}{v:Y}{ds:O Nat}(hd:∀k,d=some k->k∈ds):en ds a (a.put d v):=by
 cases d with
 |none=>exact .refl _ _
 |some d=>exact⟨rfl,by simp[Act.put],λs hs=>by
  have:d≠s:=λh=>hs (h▸hd d rfl);simp[Act.put,Array.getElem?_setIfInBounds_ne this]⟩
def g3(a:Act)(ds:O Nat)(K:Env->U2)(x:Exit)(a':Act)(w':J):Prop:=
 x=.normal/\en ds a a'/\∃b,dy b a'/\K b w'
theorem jP{P:Program}{ops:Array Oper}{Q Q':Exit->Act->U2}(b:∀x a w,Q x a w->Q' x a w):
 ∀ (l:O Oper) (a:Act) (w:J),wpList P ops Q l a w->wpList P ops Q' l a w
 | [],_,_,h=>b _ _ _ h
 |o::l,a,w,h=>by
  simp only[wpList]at h⊢
  split
  .rename_i d
   rw[if_pos d]at h
   refine h.imp (λh=>?_) (λ⟨h1,a',w',f⟩=>⟨h1,a',w',b _ _ _ f⟩)
   have:=Oper.wp_mono (Q:=Q) (λa w=>jP b l a w) h
   unfold Oper.wp at this⊢
   revert this
   generalize (execOp a.eval o).run P w=r
   intro this
   cases r with
   |ok aH w'=>
    cases aH<;>simp only[Oper.upon]at this⊢<;>first
     |exact this
     |(exact Calls.mono this λe g he=>by
        cases e with
        |returned v=>exact he
        |panicked c=>exact b _ _ _ he
        |outgrown=>exact let ⟨a',w',f⟩:=he;⟨a',w',b _ _ _ f⟩)
   |halt x w'=>cases x<;>simp only[Oper.upon]at this⊢<;>first|exact b _ _ _ this|exact this
  .rename_i d
   rw[if_neg d]at h
   exact jP b l _ _ h
theorem sP{P:Program}{ops:Array Oper}{Q:Exit->Act->U2}(b:O Oper):
 ∀ (g:O Oper) (a:Act) (w:J),wpList P ops (λx a w=>x=.normal/\wpList P ops Q b a w) g a w->wpList P ops Q (g++b) a w
 | [],_,_,h=>h.2
 |o::l,a,w,h=>by
  simp only[o0,wpList]at h⊢
  split
  .rename_i d
   rw[if_pos d]at h
   obtain h|⟨_,a',w',f,_⟩:=h
   .left
    have:=Oper.wp_mono (λa w=>sP b l a w) h
    unfold Oper.wp at this⊢
    revert this
    generalize (execOp a.eval o).run P w=r
    intro this
    cases r with
    |ok aH w'=>
     cases aH<;>simp only[Oper.upon]at this⊢<;>first
      |exact this
      |(exact Calls.mono this λe i he=>by
         cases e with
         |returned v=>exact he
         |panicked c=>cases he.1
         |outgrown=>exact let ⟨a',w',f⟩:=he;by cases f.1)
    |halt x w'=>cases x<;>simp only[Oper.upon]at this⊢<;>first|(cases this.1;done)|exact this
   .cases f
  .rename_i d
   rw[if_neg d]at h
   exact sP b l _ _ h
section
variable {P:Program}{tk:TypeId->dX}{ops:Array Oper}
def m9:Y->an ag
 | .bool b=>some b
 |_=>none
theorem sQ{e:Env}{a:Act}(ak:dy e a){j:Nat}{v:Y}(h:sN ops e j=some v):
 yielded ops a.tmps j=m9 v:=by
 unfold sN at h;unfold yielded
 cases hd:(ops[j]?).bind (·.dst) with
 |none=>rw[hd]at h;simp at h
 |some s=>
  rw[hd]at h;simp only[Option.bind_some]at h⊢;rw[ak.get _ _ h]
  cases v<;>rfl
theorem sR{o:Oper}{e:Env}{a:Act}(ak:dy e a){R S:Prop}(h:hX ops o e R S):
 (Region.wanted o (yielded ops a.tmps)=true/\R)\/(Region.wanted o (yielded ops a.tmps)=false/\S):=by
 unfold hX at h;unfold Region.wanted;split at h
 .rename_i hg;rw[hg];exact .inl ⟨rfl,h⟩
 .rename_i j want hg
  rw[hg];simp only;split at h
  .exact h.elim
  .rename_i b c
   rw[sQ ak c]
   cases b<;>cases want<;>first|exact .inl ⟨rfl,h⟩|exact .inr ⟨rfl,h⟩
  .rename_i v d c
   rw[sQ ak c]
   cases v<;>first|exact absurd rfl (d _)|exact .inr ⟨by cases want<;>rfl,h⟩
theorem Bu{o:Oper}{e:Env}{R R' S:Prop}(h:hX ops o e R S)(a:R->R'):hX ops o e R' S:=by
 unfold hX at h⊢;split at h
 .exact a h
 .rename_i j want hg
  split at h
  .exact h
  .rename_i b d
   cases c:Bool.xor b want<;>rw[c]at h<;>first|exact a h|exact h
  .exact h
theorem FY{α:Type}{o:Oper}{e:Env}{R S:an α}{r:α}(h:my ops o e none S=some r):my ops o e R S=some r:=by
 unfold my at h⊢;split at h
 .cases h
 .rename_i j want hg
  split at h
  .exact h
  .rename_i b c
   cases a:Bool.xor b want with
   |true=>rw[a]at h;exact h
   |false=>rw[a]at h;cases h
  .exact h
theorem FZ{α:Type}{o:Oper}{e:Env}{a:Act}(ak:dy e a){R S:an α}{r:α}(h:my ops o e R S=some r):
 (Region.wanted o (yielded ops a.tmps)=true/\R=some r)\/(Region.wanted o (yielded ops a.tmps)=false/\S=some r):=by
 unfold my at h;unfold Region.wanted;split at h
 .rename_i hg;rw[hg];exact .inl ⟨rfl,h⟩
 .rename_i j want hg
  rw[hg];simp only;split at h
  .cases h
  .rename_i b c
   rw[sQ ak c]
   cases b<;>cases want<;>first|exact .inl ⟨rfl,h⟩|exact .inr ⟨rfl,h⟩
  .rename_i v d c
   rw[sQ ak c]
   cases v<;>first|exact absurd rfl (d _)|exact .inr ⟨by cases want<;>rfl,h⟩
theorem Bv{o:Oper}{e:Env}{a:Act}(ak:dy e a){v:Y}(h:fj P o e=some v)(w:J):(execOp a.eval o).run P w=.ok (.value v) w:=by
 unfold fj at h;split at h
 .rename_i x f
  simp[execOp,f,ak.ev h]
 .rename_i x f
  simp[execOp,f,ak.ev h]
 .rename_i t x f
  split at h
  .rename_i b hx
   cases h;simp[execOp,f,ak.ev hx,Op.unary]
  .cases h
 .rename_i op T x y D f
  split at h
  .rename_i u b i
   split at h
   .rename_i k c hx
    by_cases z:k=u
    .subst z
     simp only[kR,decide_true,cond_true]at h;split at h
     case h_4=>
      split at h
      .cases h
       simp[execOp,f,ak.ev hx,ak.ev i,eqGuard,binOp,Op.intDiv];intro r;exfalso;revert r;simp;omega
      .cases h
     case h_5=>
      split at h
      .cases h
       simp[execOp,f,ak.ev hx,ak.ev i,eqGuard,binOp,Op.intDiv];intro r;exfalso;revert r;simp;omega
      .cases h
     all_goals first
      |(cases h;simp[execOp,f,ak.ev hx,ak.ev i,eqGuard,binOp,Op.intArith,Op.intBits,Op.intCmp];done)
      |cases h
    .simp[kR,z]at h
   .cases h
  .rename_i b i
   split at h
   .rename_i c hx
    split at h
    .rename_i g
     have j:∀ (d:Nat) (w:J),(Op.equalIn (d+1) T (.bool c) (.bool b)).run P w=.ok (c==b) w:=by
      intro d w;simp[Op.equalIn,dh g]
     have A:∀w:J,(Op.equal T (.bool c) (.bool b)).run P w=.ok (c==b) w:=λw=>by rw[qE];exact j _ w
     split at h
     .cases h
      simp[execOp,f,ak.ev hx,ak.ev i,eqGuard,binOp,A]
     .cases h
      simp[execOp,f,ak.ev hx,ak.ev i,eqGuard,binOp,A]
     .cases h
    .cases h
   .cases h
  .rename_i b i
   split at h
   .rename_i c hx
    split at h
    .cases h
     have j:(binOp .eql T (.string c) (.string b)).run P w=.ok (.bool (c.toList==b.toList)) w:=rfl;simp only[execOp,f,ak.ev hx,ak.ev i];simp[eqGuard,j]
    .cases h
     have j:(binOp .neq T (.string c) (.string b)).run P w=.ok (.bool (!(c.toList==b.toList))) w:=rfl;simp only[execOp,f,ak.ev hx,ak.ev i];simp[eqGuard,j]
    .cases h
   .cases h
  .rename_i i
   split at h
   .rename_i p hx
    by_cases g:m6 (P.underlying T)=true
    .rw[g]at h
     simp only[cond_true]at h;split at h
     .cases h;simp[execOp,f,ak.ev hx,ak.ev i,eqGuard,binOp,uQ (P:=P) g]
     .cases h;simp[execOp,f,ak.ev hx,ak.ev i,eqGuard,binOp,uQ (P:=P) g]
     .cases h
    .simp only[f_]at g;rw[g]at h;cases h
   .cases h
  .rename_i l c i
   split at h
   .rename_i p _ _ hx
    by_cases g:nW (P.underlying T)=true
    .rw[g]at h
     simp only[cond_true]at h;split at h
     .cases h;simp[execOp,f,ak.ev hx,ak.ev i,eqGuard,binOp,uR (P:=P) g]
     .cases h;simp[execOp,f,ak.ev hx,ak.ev i,eqGuard,binOp,uR (P:=P) g]
     .cases h
    .simp only[f_]at g;rw[g]at h;cases h
   .cases h
  .cases h
 .rename_i s d x f
  split at h
  .rename_i k n hx
   split at h
   .rename_i u hd
    by_cases hs:(P.underlying s).isSome=true
    .rw[hs]at h
     cases h;obtain⟨ds,B⟩:=kp _ hs;simp[execOp,f,ak.ev hx,convert,dh B,dh hd,Conv.intToInt]
    .simp only[f_]at hs;rw[hs]at h;cases h
   .cases h
  .cases h
 .rename_i args gw f
  split at h
  .rename_i x T m q
   split at h
   .rename_i p n c C hx g
    cases h;simp[execOp,f,resolve,invoke,Go.builtin,Builtin.len_,q,m,dh g,ak.ev hx,goInt]
   .rename_i s hx g
    cases h;simp[execOp,f,resolve,invoke,Go.builtin,Builtin.len_,q,m,dh g,ak.ev hx,goInt]
   .cases h
  .cases h
 .rename_i args gw f
  split at h
  .rename_i x T m q
   split at h
   .rename_i p n c C hx g
    cases h;simp[execOp,f,resolve,invoke,Go.builtin,Builtin.cap_,q,m,dh g,ak.ev hx,goInt]
   .cases h
  .cases h
 .cases h
theorem yx{e:Env}{ds:O Nat}{a a':Act}(ak:dy e a)(hd:nZ e ds=true)(c:en ds a a'):dy e a':=by
 constructor;intro s v hs;have d:∃u,(s,u)∈e:=by
  clear hd ak
  induction e with
  |nil=>cases hs
  |cons p e f=>
   obtain⟨k,u⟩:=p;rw[o8]at hs;by_cases b:k=s
   .subst b;exact⟨u,by simp⟩
   .rw[if_neg b]at hs
    obtain⟨u,hu⟩:=f hs;exact⟨u,by simp[hu]⟩
 obtain⟨u,hu⟩:=d;have h1:=kM.1 hd _ hu;simp only[ju,qk]at h1;rw[c.same s λg=>h1 s g (Nat.beq_refl s)];exact ak.get s v hs
theorem yy{d:Oper}{e:Env}{a:Act}(ak:dy e a){r:ag}(h:lW d e=some r)(w:J):
 (execOp a.eval d).run P w=.ok (.value (.bool r)) w:=by
 unfold lW at h;split at h
 .rename_i x y z f
  split at h
  .rename_i b g
   split at h
   .rename_i i c
    cases h;simp only[execOp,f,ak.ev g]
    cases b
    .simp only[cond_false]at c
     simp[asBool,ak.ev c]
    .simp only[cond_true]at c
     simp[asBool,ak.ev c]
   .cases h
  .cases h
 .cases h
theorem yz{c:Oper}{e:Env}{a:Act}(ak:dy e a)(h:m8 ops c e=true):Region.wanted c (yielded ops a.tmps)=true:=by
 unfold m8 at h;unfold Region.wanted;split at h
 .rename_i hg;rw[hg]
 .rename_i j want hg
  rw[hg];simp only;split at h
  .rename_i b d
   rw[sQ ak d]
   cases b<;>cases want<;>first|rfl|cases h
  .cases h
theorem yA{o:Oper}{e:Env}{s:Nat}{c:ag}(h:sO ops o e=some (s,c)):e.get s=some (.bool c):=by
 unfold sO at h;split at h
 .cases h
 .split at h
  .cases h
  .split at h
   .rename_i hs;cases h;exact hs
   .cases h
theorem dy.lit{e:Env}{a:Act}(ak:dy e a){s:Nat}{v:Y}(h:e.get s=some v):dy ((s,v)::e) a:=by
 constructor;intro t u ht;rw[o8]at ht;by_cases b:s=t
 .subst b
  rw[if_pos rfl]at ht
  cases ht;exact ak.get _ _ h
 .rw[if_neg b]at ht
  exact ak.get _ _ ht
theorem yB{α:Type}(o:α)(rest:O α)(m:Nat){a:α}{b:O α}(h:rest.drop m=a::b):
 o::rest=(o::rest.take m)++(a::b):=by
 rw[←h];simp
theorem F0{b c:ag}{α:Type}{x y z:α}(h:(bif b&&c then x else y)=z)(a:y≠z):b=true/\c=true/\x=z:=by
 cases b<;>cases c<;>first|exact absurd h a|exact⟨rfl,rfl,h⟩
theorem Bw:∀ (n:Nat) (l:O Oper) (as:O ln) (e i:Env) (a:Act) (w:J),dy e a->(∀d∈b3 l,d<a.tmps.size)->
 jO P ops n l as e=some i->wpList P ops (λx a' w'=>x=.normal/\en (b3 l) a a'/\dy i a'/\w'=w) l a w:=by
 intro n
 induction n with
 |zero=>intro l as e i a w _ _ h;cases h
 |succ n A=>
  intro l as e i a w ak f h;have one:∀ (o:Oper) (rest:O Oper) (D:O ln),(∀d∈b3 (o::rest),d<a.tmps.size)->
   (match my ops o e (fj P o e) (some undef) with|some v=>jO P ops n rest D (dn o.dst v e)|none=>none)=some i->
   wpList P ops (λx a' w'=>x=.normal/\en (b3 (o::rest)) a a'/\dy i a'/\w'=w) (o::rest) a w:=by
   intro o rest D f h;have I:∀k,o.dst=some k->k∈b3 (o::rest):=λk b=>by simp[b3,b]
   have p:∀k,k∈b3 rest->k∈b3 (o::rest):=λk b=>by
    simp only[b3,sk];split
    .exact b
    .exact jv _ b
   split at h
   .rename_i v q
    have next:∀ (a':Act),a'=a.put o.dst v->wpList P ops (λx a' w'=>x=.normal/\en (b3 (o::rest)) a a'/\dy i a'/\w'=w) rest a' w:=by
     intro a' S;subst S;have b:en (b3 (o::rest)) a (a.put o.dst v):=en.put I;have:=A rest D (dn o.dst v e) i (a.put o.dst v) w (ak.put λk b=>f k (I k b)) (λd hd=>by rw[b.size];exact f d (p d hd)) h;exact jP (λx a' w' ⟨h1,E,T,U⟩=>⟨h1,b.trans (E.mono p),T,U⟩) _ _ _ this
    rcases FZ ak q with ⟨F,t⟩|⟨F,t⟩
    .simp only[wpList,F,if_true]
     left;unfold Oper.wp;rw[Bv ak t w];exact next _ rfl
    .simp only[wpList,F,gr,if_false]
     cases t;exact next _ rfl
   .cases h
  cases l with
  |nil=>
   simp only[jO,Option.some.injEq]at h;subst h;exact⟨rfl,.refl _ _,ak,rfl⟩
  |cons o rest=>
   cases as with
   |nil=>exact one o rest [] f (by simpa only[jO] using h)
   |cons V as=>
    cases V with
    |run=>exact one o rest as f (by simpa only[jO] using h)
    |split m=>exact one o rest as f (by simpa only[jO] using h)
    |uY ks=>exact one o rest as f (by simpa only[jO] using h)
    |pure m=>
     simp only[jO]at h;split at h
     .refine one o rest as f ?_
      cases q:my ops o e none (some undef) with
      |none=>rw[q]at h;cases h
      |some v=>rw[q]at h;rw[FY q];exact h
     .rename_i s c g j hg hd
      split at h
      .rename_i K L h1 E
       split at h
       .rename_i r1 bA W X
        obtain⟨Y,Z,h⟩:=F0 h U9;rw[yB o rest (m-1) hd]at f⊢;have M:=yA hg;refine sP _ _ _ _ ?_;have G:∀k,k∈b3 (o::rest.take (m-1))->k∈b3 ((o::rest.take (m-1))++(g::j)):=λk b=>by
         simp only[b3,sn,cE];exact .inl b
        have B:∀k,k∈b3 (g::j)->k∈b3 ((o::rest.take (m-1))++(g::j)):=λk b=>by
         simp only[b3,sn,cE];exact .inr b
        have N:∀k,g.dst=some k->k∈b3 (g::j):=λk b=>by simp[b3,b]
        have p:∀k,k∈b3 j->k∈b3 (g::j):=λk b=>by
         simp only[b3,sk];split
         .exact b
         .exact jv _ b
        have fin:∀ (H:Env) (r:ag) (a1:Act),en (b3 (o::rest.take (m-1))) a a1->dy H a1->lW g H=some r->r=cond c r1 bA->
         wpList P ops (λx a' w'=>x=.normal/\en (b3 ((o::rest.take (m-1))++(g::j))) a a'/\dy i a'/\w'=w) (g::j) a1 w:=by
         intro H r a1 C aa t ab;have Q:=yx ak Z C;simp only[wpList,yz Q Y,if_true];left;unfold Oper.wp;rw[yy aa t w];simp only[Oper.upon];have R:en (b3 (g::j)) a1 (a1.put g.dst (.bool r)):=en.put N;have:=A j (as.drop m) (dn g.dst (.bool (cond c r1 bA)) e) i (a1.put g.dst (.bool r)) w
          (by rw[ab];exact Q.put λk b=>by rw[C.size];exact f k (B k (N k b)))
          (λd hd=>by rw[R.size,C.size];exact f d (B d (p d hd))) h
         refine jP (λx a' w' ⟨ao,u,y,z⟩=>⟨ao,(C.mono G).trans ((R.mono B).trans (u.mono λk b=>B k (p k b))),y,z⟩) _ _ _ this
        cases c with
        |true=>
         have:=A _ _ _ K a w (ak.lit M) (λd hd=>f d (G d hd)) h1;exact jP (λx a' w' ⟨ao,u,y,z⟩=>⟨ao,by subst z;exact fin K r1 a' u y W rfl⟩) _ _ _ this
        |false=>
         have:=A _ _ _ L a w (ak.lit M) (λd hd=>f d (G d hd)) E;exact jP (λx a' w' ⟨ao,u,y,z⟩=>⟨ao,by subst z;exact fin L bA a' u y X rfl⟩) _ _ _ this
       .cases h
      .cases h
     .cases h
theorem Bx:∀ (n:Nat) (l:O Oper) (as:O ln) (K:Env->U2) (e:Env) (a:Act) (w:J),dy e a->(∀d∈b3 l,d<a.tmps.size)->
 gj P tk ops n l as K e w->wpList P ops (g3 a (b3 l) K) l a w:=by
 intro n
 induction n with
 |zero=>intro l as K e a w _ _ h;cases h
 |succ n D=>
  intro l as K e a w ak i h;have one:∀ (o:Oper) (rest:O Oper) (j:O ln),(∀d∈b3 (o::rest),d<a.tmps.size)->
   hX ops o e (kq P tk o (λv w'=>gj P tk ops n rest j K (dn o.dst v e) w') e w) (gj P tk ops n rest j K (dn o.dst undef e) w)->
   wpList P ops (g3 a (b3 (o::rest)) K) (o::rest) a w:=by
   intro o rest j i h;have E:∀k,o.dst=some k->k∈b3 (o::rest):=λk b=>by simp[b3,b]
   have p:∀k,k∈b3 rest->k∈b3 (o::rest):=λk b=>by
    simp only[b3,sk];split
    .exact b
    .exact jv _ b
   have next:∀ (v:Y) (w':J),gj P tk ops n rest j K (dn o.dst v e) w'->wpList P ops (g3 a (b3 (o::rest)) K) rest (a.put o.dst v) w':=by
    intro v w' h;have b:en (b3 (o::rest)) a (a.put o.dst v):=en.put E;have:=D rest j K (dn o.dst v e) (a.put o.dst v) w' (ak.put λk b=>i k (E k b)) (λd hd=>by rw[b.size];exact i d (p d hd)) h;exact jP (λx a' w' ⟨h1,z,M⟩=>⟨h1,b.trans (z.mono p),M⟩) _ _ _ this
   rcases sR ak h with ⟨A,q⟩|⟨A,q⟩
   .simp only[wpList,A,if_true]
    exact .inl ((uX ak q).wp next)
   .simp only[wpList,A,gr,if_false]
    exact next _ _ q
  have V:∀ (o:Oper) (rest:O Oper) (ks:O Kd) (j:O ln),(∀d∈b3 (o::rest),d<a.tmps.size)->
   hX ops o e (uZ P ks o (λv w'=>gj P tk ops n rest j K (dn o.dst v e) w') e w) (gj P tk ops n rest j K (dn o.dst undef e) w)->
   wpList P ops (g3 a (b3 (o::rest)) K) (o::rest) a w:=by
   intro o rest ks j i h;have E:∀k,o.dst=some k->k∈b3 (o::rest):=λk b=>by simp[b3,b]
   have p:∀k,k∈b3 rest->k∈b3 (o::rest):=λk b=>by
    simp only[b3,sk];split
    .exact b
    .exact jv _ b
   have next:∀ (v:Y) (w':J),gj P tk ops n rest j K (dn o.dst v e) w'->wpList P ops (g3 a (b3 (o::rest)) K) rest (a.put o.dst v) w':=by
    intro v w' h;have b:en (b3 (o::rest)) a (a.put o.dst v):=en.put E;have:=D rest j K (dn o.dst v e) (a.put o.dst v) w' (ak.put λk b=>i k (E k b)) (λd hd=>by rw[b.size];exact i d (p d hd)) h;exact jP (λx a' w' ⟨h1,z,M⟩=>⟨h1,b.trans (z.mono p),M⟩) _ _ _ this
   rcases sR ak h with ⟨A,q⟩|⟨A,q⟩
   .simp only[wpList,A,if_true]
    exact .inl ((FX ak q).wp next)
   .simp only[wpList,A,gr,if_false]
    exact next _ _ q
  cases l with
  |nil=>exact⟨rfl,.refl _ _,e,ak,h⟩
  |cons o rest=>
   cases as with
   |nil=>exact one o rest [] i (by simpa only[gj] using h)
   |cons W as=>
    cases W with
    |run=>exact one o rest as i (by simpa only[gj] using h)
    |uY ks=>exact V o rest ks as i (by simpa only[gj] using h)
    |split m=>
     simp only[gj]at h;split at h
     .exact one o rest as i (Bu h False.elim)
     .rename_i s c f g hg hd
      obtain⟨N,Q,h⟩:m8 ops f e=true/\nZ e (b3 (o::rest.take (m-1)))=true/\_:=by
       cases h1:m8 ops f e<;>cases z:nZ e (b3 (o::rest.take (m-1)))<;>rw[h1,z]at h<;>first|exact h.elim|exact⟨rfl,rfl,h⟩
      rw[yB o rest (m-1) hd]at i⊢;have F:=yA hg;refine sP _ _ _ _ ?_;have B:∀k,k∈b3 (o::rest.take (m-1))->k∈b3 ((o::rest.take (m-1))++(f::g)):=λk b=>by
       simp only[b3,sn,cE];exact .inl b
      have t:∀k,k∈b3 (f::g)->k∈b3 ((o::rest.take (m-1))++(f::g)):=λk b=>by
       simp only[b3,sn,cE];exact .inr b
      have G:∀k,f.dst=some k->k∈b3 (f::g):=λk b=>by simp[b3,b]
      have p:∀k,k∈b3 g->k∈b3 (f::g):=λk b=>by
       simp only[b3,sk];split
       .exact b
       .exact jv _ b
      have fin:∀ (x:Exit) (a1:Act) (w1:J),g3 a (b3 (o::rest.take (m-1)))
       (λX w'=>match lW f X with|some r=>gj P tk ops n g (as.drop m) K (dn f.dst (.bool r) e) w'|none=>False) x a1 w1->
       x=.normal/\wpList P ops (g3 a (b3 ((o::rest.take (m-1))++(f::g))) K) (f::g) a1 w1:=by
       rintro x a1 w1 ⟨hx,u,L,R,h⟩;refine⟨hx,?_⟩;have H:=yx ak Q u;split at h
       .rename_i r q
        simp only[wpList,yz H N,if_true];left;unfold Oper.wp;rw[yy R q w1];simp only[Oper.upon];have I:en (b3 (f::g)) a1 (a1.put f.dst (.bool r)):=en.put G;have:=D g (as.drop m) K (dn f.dst (.bool r) e) (a1.put f.dst (.bool r)) w1
         (H.put λk b=>by rw[u.size];exact i k (t k (G k b)))
         (λd hd=>by rw[I.size,u.size];exact i d (t d (p d hd))) h
        refine jP (λx a' w' ⟨ao,y,C⟩=>⟨ao,(u.mono B).trans ((I.mono t).trans (y.mono λk b=>t k (p k b))),C⟩) _ _ _ this
       .exact h.elim
      have h:=h.out
      cases c with
      |true=>
       have:=D _ _ _ _ a w (ak.lit F) (λd hd=>i d (B d hd)) (h.1 rfl);exact jP fin _ _ _ this
      |false=>
       have:=D _ _ _ _ a w (ak.lit F) (λd hd=>i d (B d hd)) (h.2 rfl);exact jP fin _ _ _ this
     .exact h.elim
    |pure m=>
     simp only[gj]at h;split at h
     .exact one o rest as i (Bu h False.elim)
     .rename_i s c f g hg hd
      split at h
      .rename_i T U h1 z
       split at h
       .rename_i r1 bA Z aa
        obtain⟨N,Q,h⟩:m8 ops f e=true/\nZ e (b3 (o::rest.take (m-1)))=true/\_:=by
         cases ao:m8 ops f e<;>cases y:nZ e (b3 (o::rest.take (m-1)))<;>rw[ao,y]at h<;>first|exact h.elim|exact⟨rfl,rfl,h⟩
        rw[yB o rest (m-1) hd]at i⊢;have F:=yA hg;refine sP _ _ _ _ ?_;have B:∀k,k∈b3 (o::rest.take (m-1))->k∈b3 ((o::rest.take (m-1))++(f::g)):=λk b=>by
         simp only[b3,sn,cE];exact .inl b
        have t:∀k,k∈b3 (f::g)->k∈b3 ((o::rest.take (m-1))++(f::g)):=λk b=>by
         simp only[b3,sn,cE];exact .inr b
        have G:∀k,f.dst=some k->k∈b3 (f::g):=λk b=>by simp[b3,b]
        have p:∀k,k∈b3 g->k∈b3 (f::g):=λk b=>by
         simp only[b3,sk];split
         .exact b
         .exact jv _ b
        have fin:∀ (L:Env) (r:ag) (a1:Act),en (b3 (o::rest.take (m-1))) a a1->dy L a1->lW f L=some r->r=cond c r1 bA->
         wpList P ops (g3 a (b3 ((o::rest.take (m-1))++(f::g))) K) (f::g) a1 w:=by
         intro L r a1 u R q ab;have H:=yx ak Q u;simp only[wpList,yz H N,if_true];left;unfold Oper.wp;rw[yy R q w];simp only[Oper.upon];have I:en (b3 (f::g)) a1 (a1.put f.dst (.bool r)):=en.put G;have:=D g (as.drop m) K (dn f.dst (.bool (cond c r1 bA)) e) (a1.put f.dst (.bool r)) w
          (by rw[ab];exact H.put λk b=>by rw[u.size];exact i k (t k (G k b)))
          (λd hd=>by rw[I.size,u.size];exact i d (t d (p d hd))) h
         refine jP (λx a' w' ⟨ao,y,C⟩=>⟨ao,(u.mono B).trans ((I.mono t).trans (y.mono λk b=>t k (p k b))),C⟩) _ _ _ this
        cases c with
        |true=>
         have:=Bw n _ _ _ T a w (ak.lit F) (λd hd=>i d (B d hd)) h1;exact jP (λx a' w' ⟨ao,y,C,S⟩=>⟨ao,by subst S;exact fin T r1 a' y C Z rfl⟩) _ _ _ this
        |false=>
         have:=Bw n _ _ _ U a w (ak.lit F) (λd hd=>i d (B d hd)) z;exact jP (λx a' w' ⟨ao,y,C,S⟩=>⟨ao,by subst S;exact fin U bA a' y C aa rfl⟩) _ _ _ this
       .exact h.elim
      .exact h.elim
     .exact h.elim
end
end aU
namespace aU
open Go
structure aa(W:U1)(w w':J):Prop where
 os:w'.os=w.os
 tape:w'.tape=w.tape
 output:w'.output=w.output
 size:w.heap.size<=w'.heap.size
 block:∀k,k<w.heap.size->¬W k->w'.heap[k]? =w.heap[k]?
theorem aa.refl(W:U1)(w:J):aa W w w:=⟨rfl,rfl,rfl,a_ _,λ_ _ _=>rfl⟩
theorem aa.trans{W:U1}{a b c:J}(h:aa W a b)(k:aa W b c):aa W a c:=
 ⟨k.os.trans h.os,k.tape.trans h.tape,k.output.trans h.output,fg h.size k.size,λi hi d=>(k.block i (ga hi h.size) d).trans (h.block i hi d)⟩
theorem aa.mono{W V:U1}{a b:J}(h:aa W a b)(c:∀k,k<a.heap.size->W k->V k):aa V a b:=
 ⟨h.os,h.tape,h.output,h.size,λi hi d=>h.block i hi λcz=>d (c i hi cz)⟩
theorem aa.cell{W:U1}{w w':J}(h:aa W w w'){A:ax}(cz:¬W A.block){v:Y}(a:w.cell? A=some v):w'.cell? A=some v:=by
 have b:A.block<w.heap.size:=by
  rcases dA A.block w.heap.size with h1|h1
  .exact h1
  .simp[World.cell?,Array.getElem?_eq_none h1]at a
 unfold World.cell? at a⊢;rw[h.block _ b cz];exact a
theorem aa.cv{W:U1}{w w':J}(h:aa W w w'){A:ax}(cz:¬W A.block):∀ (n i:Nat) (vs:O Y),cv w A i n=some vs->cv w' A i n=some vs
 |0,_,_,a=>a
 |n+1,i,vs,a=>by
  simp only[aU.cv]at a⊢
  have c:(A.add i).block=A.block:=by unfold Addr.add;split<;>rfl
  cases h1:w.cell? (A.add i) with
  |none=>simp[h1]at a
  |some v=>
   cases b:aU.cv w A (i+1) n with
   |none=>simp[h1,b]at a
   |some us=>
    simp only[h1,b]at a
    rw[h.cell (c▸cz) h1,aa.cv h cz n (i+1) us b]
    exact a
def gk{α:Type}:Sem α->Prop
 | .pure _=>True
 | .program k=>∀p,gk (k p)
 | .halt _=>True
 |_=>False
theorem gk.bind{α β:Type}:∀ {s:Sem α}{f:α->Sem β},gk s->(∀a,gk (f a))->gk (s>>=f)
 | .pure a,_,_,hf=>hf a
 | .program _,_,h,hf=> λp=>gk.bind (h p) hf
 | .halt _,_,_,_=>trivial
 | .load ..,_,h,_=>h.elim
 | .store ..,_,h,_=>h.elim
 | .new ..,_,h,_=>h.elim
 | .shape ..,_,h,_=>h.elim
 | .freeze ..,_,h,_=>h.elim
 | .frozen ..,_,h,_=>h.elim
 | .getObj ..,_,h,_=>h.elim
 | .setObj ..,_,h,_=>h.elim
 | .choose ..,_,h,_=>h.elim
 | .sys ..,_,h,_=>h.elim
 | .mark ..,_,h,_=>h.elim
theorem gk.run{α:Type}{P:Program}:∀ {s:Sem α}{w w':J}{v:α},gk s->s.run P w=.ok v w'->∀u,s.run P u=.ok v u
 | .pure a,w,w',v,_,h,u=>by
  simp only[Sem.run,Result.ok.injEq]at h⊢
  exact⟨h.1,trivial⟩
 | .program k,w,w',v,hf,h,u=>gk.run (hf P) h u
 | .halt _,w,w',v,_,h,_=>by simp[Sem.run]at h
 | .load ..,_,_,_,h,_,_=>h.elim
 | .store ..,_,_,_,h,_,_=>h.elim
 | .new ..,_,_,_,h,_,_=>h.elim
 | .shape ..,_,_,_,h,_,_=>h.elim
 | .freeze ..,_,_,_,h,_,_=>h.elim
 | .frozen ..,_,_,_,h,_,_=>h.elim
 | .getObj ..,_,_,_,h,_,_=>h.elim
 | .setObj ..,_,_,_,h,_,_=>h.elim
 | .choose ..,_,_,_,h,_,_=>h.elim
 | .sys ..,_,_,_,h,_,_=>h.elim
 | .mark ..,_,_,_,h,_,_=>h.elim
theorem By:gk program:=λ_=>trivial
theorem Bz(t:TypeId):gk (underlying t):=by
 unfold underlying;refine gk.bind By λp=>?_;split<;>trivial
theorem F1(t:TypeId):gk (typeInfo t):=by
 unfold typeInfo;refine gk.bind By λp=>?_;split<;>trivial
theorem F2(t:TypeId):gk (Go.sizeOf t):=gk.bind (F1 t) λ_=>trivial
theorem F3(t:TypeId):gk (isAgg t):=by
 unfold isAgg;refine gk.bind (Bz t) λd=>?_;split<;>trivial
theorem F4(t:TypeId)(cs:Array Y)(off:Nat):gk (part t cs off):=by
 unfold part;refine gk.bind (F3 t) λd=>?_;split
 .exact gk.bind (F2 t) λ_=>trivial
 .split<;>trivial
theorem F5(t:TypeId)(x:Y)(i:Nat):gk (Instr.field t x i):=by
 unfold Instr.field;refine gk.bind (Bz t) λd=>?_;split
 .split
  .refine gk.bind ?_ λ_=>F4 _ _ _
   unfold asAgg;split<;>trivial
  .trivial
 .trivial
def BA:Op->ag
 | .move _=>true
 | .assign _=>true
 | .pick _ _ _=>true
 | .field _ _ _=>true
 |_=>false
def sS(P:Program)(o:Oper)(K:Y->Prop)(e:Env)(w:J):Prop:=
 bif BA o.op&&known e o.op.operands then
  match (execOp (ro e) o).run P w with
  | .ok (.value v) _=>K v
  |_=>False
 else False
def qH(P:Program)(o:Oper)(K:Y->Prop)(e:Env):Prop:=
 match fj P o e with
 |some v=>K v
 |none=>False
def BB(P:Program)(T:TypeId)(x:Y)(i:Nat)(K:Y->Prop):Prop:=
 match P.underlying T with
 |some (.struct fs)=>match fs[i]? with
  |some f=>match x with
   | .pointer (some A)=>match P.underlying f.type with
    |some _=>bif Nat.beq (P.cellsOf f.type) 0 then False else K (.pointer (some (A.add f.offset)))
    |none=>False
   |_=>False
  |none=>False
 |_=>False
def BC(x:Y)(i:Nat)(K:Y->Prop):Prop:=
 match x with
 | .tuple vs=>match vs[i]? with
  |some v=>K v
  |none=>False
 |_=>False
def kr(o:Oper):ag:=
 match o.op with
 | .load _ _=>true
 | .convert _ _ _=>true
 |_=>false
def lX:Nat->O Oper->Nat
 |_,[]=>0
 |i,o::l=>bif kr o then 2^i|||lX (i+1) l else lX (i+1) l
def yC(P:Program)(tk:TypeId->dX)(W:U1)(w:J)(o:Oper)(K:Y->Prop)(e:Env):Prop:=
 match o.op with
 | .nilCheck x=>match ev e x with
  |some (.pointer p)=>∃A,p=some A/\K (.pointer (some A))
  |_=>False
 | .load T x=>match ev e x with
  |some (.pointer (some A))=>¬W A.block/\qC P tk T A w K
  |_=>False
 | .binOp op T x y _=>match ev e x,ev e y with
  |some a,some c=>bif qG y c then uP P op T a c K (qH P o K e) else False
  |_,_=>False
 | .indexAddr T x i=>match ev e x,ev e i with
  |some a,some b=>uT P T a b K
  |_,_=>False
 | .index T x i=>match ev e x,ev e i with
  |some a,some b=>uU P tk T a b K
  |_,_=>False
 | .field T x i=>match ev e x with
  |some a=>uV P tk T a i K
  |_=>False
 | .fieldAddr T x i=>match ev e x with
  |some a=>BB P T a i K
  |_=>False
 | .extract x i=>match ev e x with
  |some a=>BC a i K
  |_=>False
 | .slice T x lo hi f=>bif known e o.op.operands then
  uW P T (ro e x) (lo.map (ro e)) (hi.map (ro e)) (f.map (ro e)) K
  else False
 | .convert s d x=>match ev e x with
  |some (.int _ _)=>qH P o K e
  |some v=>i_ (tk o.type) λr=>(∀w',aa W w w'->(convert s d v).run P w'=.ok r w')/\K r
  |none=>False
 | .build t ps=>bif known e o.op.operands then
  ∃cs:Array Y,(∀w',(Instr.build t (ps.map λp=>(p.1,ro e p.2))).run P w'=.ok (.agg cs) w')/\K (.agg cs)
  else False
 | .unOp _ _ _=>qH P o K e
 | .call _=>qH P o K e
 | .move _=>sS P o K e w
 | .assign _=>sS P o K e w
 | .pick _ _ _=>sS P o K e w
 | .sliceToArrayPointer T x=>match ev e x with
  |some a=>uS P T a K
  |_=>False
 |_=>False
section
variable {P:Program}{tk:TypeId->dX}{W:U1}{o:Oper}{K:Y->Prop}{e:Env}{a:Act}{w:J}
theorem yD(ak:dy e a)(h:sS P o K e w):∃v,(∀w',(execOp a.eval o).run P w'=.ok (.value v) w')/\K v:=by
 unfold sS at h
 cases hf:BA o.op with
 |false=>rw[hf]at h;exact h.elim
 |true=>
  cases c:known e o.op.operands with
  |false=>rw[hf,c]at h;exact h.elim
  |true=>
   rw[hf,c]at h;simp only[Bool.and_self,cond_true]at h;have hc:=ll ak (by cases b:o.op<;>rw[b]at hf<;>first|rfl|cases hf) c;rw[hc];split at h
   .rename_i v w' d
    refine⟨v,λu=>gk.run ?_ d u,h⟩
    cases b:o.op<;>rw[b]at hf<;>first|(cases hf;done)|skip
    .simp only[execOp,b];trivial
    .simp only[execOp,b];trivial
    .simp only[execOp,b]
     refine gk.bind ?_ λ_=>trivial;unfold asBool;split<;>trivial
    .simp only[execOp,b]
     exact gk.bind (F5 _ _ _) λ_=>trivial
   .exact h.elim
theorem u0(ak:dy e a)(h:qH P o K e):∃v,(∀w',(execOp a.eval o).run P w'=.ok (.value v) w')/\K v:=by
 unfold qH at h;split at h
 .rename_i v b
  exact⟨v,Bv ak b,h⟩
 .exact h.elim
theorem F6(ak:dy e a)(h:yC P tk W w o K e):∃v,(∀w',(kr o=true->aa W w w')->(execOp a.eval o).run P w'=.ok (.value v) w')/\K v:=by
 have bh:(∃v,(∀w',(execOp a.eval o).run P w'=.ok (.value v) w')/\K v)->∃v,(∀w',(kr o=true->aa W w w')->(execOp a.eval o).run P w'=.ok (.value v) w')/\K v:=
  λ⟨v,h1,F⟩=>⟨v,λw' _=>h1 w',F⟩
 unfold yC at h;split at h
 case h_1 x b=>
  split at h
  .rename_i p hx
   obtain⟨A,rfl,g⟩:=h;exact⟨_,λw' _=>by simp[execOp,b,ak.ev hx],g⟩
  .exact h.elim
 case h_2 T x b=>
  split at h
  .rename_i A hx
   obtain⟨cz,h⟩:=h;have key:∃v,(∀w',aa W w w'->(Instr.loadAt T (.pointer (some A))).run P w'=.ok v w')/\K v:=by
    have z:∀w',(Instr.loadAt T (.pointer (some A))).run P w'=(loadVar T A).run P w':=λw'=>by simp[Instr.loadAt,Instr.sureAddr]
    unfold qC at h;split at h
    .exact h.elim
    .rename_i d m
     cases hd:iG d with
     |true=>
      rw[hd]at h;simp only[cond_true]at h;split at h
      .rename_i ls _
       by_cases n:Nat.beq (P.cellsOf T) ls.length=true
       .rw[n]at h
        simp only[cond_true]at h;obtain⟨vs,C,h⟩:=yu h;rw[←jt n]at C;exact⟨_,λw' hc=>by rw[z,uO m hd (hc.cv cz _ _ _ C)],h⟩
       .simp only[f_]at n;rw[n]at h;exact h.elim
      .obtain⟨cs,G,h⟩:=h
       exact⟨_,λw' hc=>by rw[z,uO m hd (hc.cv cz _ _ _ G)],h⟩
     |false=>
      rw[hd]at h;simp only[cond_false]at h;split at h
      .obtain⟨v,j,h⟩:=qz h
       exact⟨v,λw' hc=>by rw[z,Bb m hd (hc.cell cz j)],h⟩
      .exact h.elim
   obtain⟨v,j,g⟩:=key;exact⟨v,λw' hc=>by simp[execOp,b,ak.ev hx,j w' (hc (by unfold kr;rw[b]))],g⟩
  .exact h.elim
 case h_3 op T x y M b=>
  split at h
  .rename_i l D hx H
   by_cases q:qG y D=true
   .rw[q]at h
    simp only[cond_true]at h;have I:D=.nilIface->∃c,y=.const c:=by
     intro j;subst j
     cases y<;>simp[qG]at q⊢
    rcases Bh (jM:=x) (qF:=y) I h with hg|⟨v,j,g⟩
    .exact bh (u0 ak hg)
    .exact⟨v,λw' _=>by
      simp only[execOp,b,ak.ev hx,ak.ev H];have E:=j w';simp only[Sem.run_bind]at E⊢;rw[E];rfl,g⟩
   .simp only[f_]at q;rw[q]at h;exact h.elim
  .exact h.elim
 case h_4 T x i b=>
  split at h
  .rename_i l J hx hi
   obtain⟨v,j,g⟩:=Bj h;exact⟨v,λw' _=>by simp[execOp,b,ak.ev hx,ak.ev hi,j],g⟩
  .exact h.elim
 case h_5 T x i b=>
  split at h
  .rename_i l J hx hi
   obtain⟨v,j,g⟩:=Bl h;exact⟨v,λw' _=>by simp[execOp,b,ak.ev hx,ak.ev hi,j],g⟩
  .exact h.elim
 case h_6 T x i b=>
  split at h
  .rename_i l hx
   obtain⟨v,j,g⟩:=Bm h;exact⟨v,λw' _=>by simp[execOp,b,ak.ev hx,j],g⟩
  .exact h.elim
 case h_7 T x i b=>
  split at h
  .rename_i l hx
   unfold BB at h;split at h
   .rename_i fs m
    split at h
    .rename_i f hf
     split at h
     .rename_i A
      split at h
      .rename_i d hd
       cases u:Nat.beq (P.cellsOf f.type) 0 with
       |true=>rw[u]at h;exact h.elim
       |false=>
        rw[u]at h;have L:¬P.cellsOf f.type=0:=λh0=>by rw[h0]at u;cases u
        exact⟨_,λw' _=>by simp[execOp,b,ak.ev hx,Instr.fieldAt,dh m,hf,Instr.sureAddr,fieldPlace,iH hd,L],h⟩
      .exact h.elim
     .exact h.elim
    .exact h.elim
   .exact h.elim
  .exact h.elim
 case h_8 x i b=>
  split at h
  .rename_i l hx
   unfold BC at h;split at h
   .rename_i vs
    split at h
    .rename_i v j
     exact⟨v,λw' _=>by simp[execOp,b,ak.ev hx,Instr.extract,j],h⟩
    .exact h.elim
   .exact h.elim
  .exact h.elim
 case h_9 T x lo hi N b=>
  by_cases k:known e o.op.operands=true
  .rw[k]at h
   simp only[cond_true]at h;have hc:=ll ak (by rw[b];rfl) k;obtain⟨v,j,g⟩:=Bn h;exact⟨v,λw' _=>by rw[hc];simp[execOp,b,j],g⟩
  .simp only[f_]at k;rw[k]at h;exact h.elim
 case h_10 s d x b=>
  split at h
  .exact bh (u0 ak h)
  .rename_i v _ hx
   obtain⟨r,B,g⟩:=jy h;exact⟨r,λw' hc=>by simp[execOp,b,ak.ev hx,B w' (hc (by unfold kr;rw[b]))],g⟩
  .exact h.elim
 case h_11 t ps b=>
  by_cases k:known e o.op.operands=true
  .rw[k]at h
   simp only[cond_true]at h;have hc:=ll ak (by rw[b];rfl) k;obtain⟨cs,B,g⟩:=h;exact⟨_,λw' _=>by rw[hc];simp[execOp,b];rw[B];rfl,g⟩
  .simp only[f_]at k;rw[k]at h;exact h.elim
 case h_12=>exact bh (u0 ak h)
 case h_13=>exact bh (u0 ak h)
 case h_14=>exact bh (yD ak h)
 case h_15=>exact bh (yD ak h)
 case h_16=>exact bh (yD ak h)
 case h_17 T x b=>
  split at h
  .rename_i l hx
   obtain⟨v,j,g⟩:=Bi h;exact⟨v,λw' _=>by simp[execOp,b,ak.ev hx,j],g⟩
  .exact h.elim
 case h_18=>exact h.elim
end
inductive aN where
 |take (i:Nat) (t:aN)
 |bF (i:Nat) (t:aN)
 |out (i:Nat) (b:ag) (t:aN)
 |two (i:Nat) (t:aN) (j:Nat) (u:aN)
 |three (i:Nat) (t:aN) (j:Nat) (u:aN) (k:Nat) (v:aN)
 |sp (s:Nat) (t u:aN)
 |fin
 |tail (as:O ln)
def ja:O Nat->Nat
 | []=>0
 |d::l=>2^d|||ja l
theorem m_:∀ (l:O Nat) (k:Nat),(ja l).testBit k=decide (k∈l)
 | [],k=>by simp[ja]
 |d::l,k=>by
  simp only[ja,nK,m_ l k,so]
  by_cases h:d=k
  .subst h;simp
  .have:¬k=d:=λa=>h a.symm
   simp[h,this]
def n0(o:Oper):O Nat:=(o.after.toList.filter λe=>Region.binds .any e).map (·.on)
structure lp where
 M:O Nat
 A:O Nat
def lq(l:O Nat)(i:Nat):Nat:=l.getD i 0
def lr(cd:lp)(m i:Nat):ag:= !(m.testBit i)&&Nat.beq (lq cd.M i&&&m) (lq cd.M i)
def BD(cd:lp)(N m i:Nat):ag:=Nat.beq (lq cd.A i&&&((2^N-1)^^^m)) 0
def lY(cd:lp)(m:Nat)(is:O Nat):Nat->ag
 |0=>true
 |k+1=>(is.any (Nat.beq k)|| !(lr cd m k))&&lY cd m is k
def sT(cd:lp):Nat->O Oper->ag
 |_,[]=>true
 |i,o::l=>Nat.beq (ja (n0 o)) (lq cd.M i)&&sT cd (i+1) l
def sU(M:O Nat)(a i b c:Nat):Nat->O Nat->O Nat->O Nat->ag
 |j,e::f,d::g,h::k=>(a.testBit j||(Nat.beq i j||(e.testBit i||(Nat.beq (b&&&(h|||d)) 0&&Nat.beq (d&&&c) 0))))&&sU M a i b c (j+1) f g k
 |_,_,_,_=>true
def u3(cd:lp)(D K:O Nat):Nat->O Nat->O Nat->ag
 |i,d::a,k::b=>sU cd.M (lq cd.A i) i d k 0 cd.M D K&&u3 cd D K (i+1) a b
 |_,_,_=>true
def BE(ops:O Oper):O Nat:=ops.map λo=>ja o.dst.toList
def BF(a:Array Oper)(ops:O Oper):O Nat:=ops.map λo=>ja (o.looksAt a)
def sV:O Nat->O Nat->ag
 | [],[]=>true
 |a::l,b::r=>Nat.beq a b&&sV l r
 |_,_=>false
theorem yE:∀ {l r:O Nat},sV l r=true->l=r
 | [],[],_=>rfl
 |a::l,b::r,h=>by
  simp only[sV,dM]at h
  rw[jt h.1,yE h.2]
def mz(cd:lp)(D K:O Nat)(a:Array Oper):ag:=
 Nat.beq cd.M.length a.size&&(sT cd 0 a.toList&&(sV (BE a.toList) D&&(sV (BF a a.toList) K&&u3 cd D K 0 D K)))
def sW(cd:lp):Nat->Nat->Nat->Nat->ag
 |0,_,N,m=>lY cd m [] N
 |g+1,k,N,m=>(lr cd m k&&lY cd m [k] N)&&sW cd g (k+1) N (m|||2^k)
def ec(P:Program)(tk:TypeId->dX)(ops:Array Oper)(n:Nat)(cd:lp)(W:U1):aN->Nat->Nat->(Env->U2)->Env->U2
 | .take i t,f+1,m,K,e,w=>
  bif lr cd m i&&(BD cd ops.size m i&&Nat.blt i n) then
   match ops[i]? with
   |some o=>hX ops o e (yC P tk W w o (λv=>ec P tk ops n cd W t f (m|||2^i) K (dn o.dst v e) w) e) (ec P tk ops n cd W t f (m|||2^i) K (dn o.dst undef e) w)
   |none=>False
  else False
 | .bF i t,f+1,m,K,e,w=>
  bif (lr cd m i&&lY cd m [i] ops.size)&&Nat.blt i n then
   match ops[i]? with
   |some o=>hX ops o e (kq P tk o (λv w'=>aa W w w'/\ec P tk ops n cd W t f (m|||2^i) K (dn o.dst v e) w') e w) (ec P tk ops n cd W t f (m|||2^i) K (dn o.dst undef e) w)
   |none=>False
  else False
 | .out i b t,f+1,m,K,e,w=>
  bif (lr cd m i&&lY cd m [i] ops.size)&&(Nat.blt i n&&Nat.beq ((lX 0 ops.toList&&&m)&&&lq cd.M i) (lX 0 ops.toList&&&m)) then
   match ops[i]? with
   |some o=>hX ops o e (kq P tk o (λv w'=>bif b then ∃V:U1,ec P tk ops n cd V t f (m|||2^i) K (dn o.dst v e) w' else ec P tk ops n cd W t f (m|||2^i) K (dn o.dst v e) w') e w) (ec P tk ops n cd W t f (m|||2^i) K (dn o.dst undef e) w)
   |none=>False
  else False
 | .two i t j u,f+1,m,K,e,w=>
  bif (lr cd m i&&lY cd m [i,j] ops.size)&&(Nat.blt i n&&Nat.blt j n) then
   match ops[i]?,ops[j]? with
   |some o,some q=>
    hX ops o e (kq P tk o (λv w'=>aa W w w'/\ec P tk ops n cd W t f (m|||2^i) K (dn o.dst v e) w') e w) (ec P tk ops n cd W t f (m|||2^i) K (dn o.dst undef e) w)/\
    hX ops q e (kq P tk q (λv w'=>aa W w w'/\ec P tk ops n cd W u f (m|||2^j) K (dn q.dst v e) w') e w) (ec P tk ops n cd W u f (m|||2^j) K (dn q.dst undef e) w)
   |_,_=>False
  else False
 | .three i t j u k x,f+1,m,K,e,w=>
  bif (lr cd m i&&lY cd m [i,j,k] ops.size)&&(Nat.blt i n&&(Nat.blt j n&&Nat.blt k n)) then
   match ops[i]?,ops[j]?,ops[k]? with
   |some o,some q,some r=>
    hX ops o e (kq P tk o (λv w'=>aa W w w'/\ec P tk ops n cd W t f (m|||2^i) K (dn o.dst v e) w') e w) (ec P tk ops n cd W t f (m|||2^i) K (dn o.dst undef e) w)/\
    hX ops q e (kq P tk q (λv w'=>aa W w w'/\ec P tk ops n cd W u f (m|||2^j) K (dn q.dst v e) w') e w) (ec P tk ops n cd W u f (m|||2^j) K (dn q.dst undef e) w)/\
    hX ops r e (kq P tk r (λv w'=>aa W w w'/\ec P tk ops n cd W x f (m|||2^k) K (dn r.dst v e) w') e w) (ec P tk ops n cd W x f (m|||2^k) K (dn r.dst undef e) w)
   |_,_,_=>False
  else False
 | .sp s t u,f,m,K,e,w=>
  match e.get s with
  |some (.bool c)=>(c=true->ec P tk ops n cd W t f m K ((s,.bool true)::e) w)/\(c=false->ec P tk ops n cd W u f m K ((s,.bool false)::e) w)
  |_=>False
 | .fin,0,m,K,e,w=>bif lY cd m [] ops.size&&Nat.beq n ops.size then K e w else False
 | .tail as,0,m,K,e,w=>bif sW cd (ops.size-n) n ops.size m&&Nat.blt n ops.size then gj P tk ops (ops.size-n+1) (ops.toList.drop n) as K e w else False
 |_,_,_,_,_,_=>False
def eP(N m:Nat):Array ag:=(Array.range N).map λi=>m.testBit i
theorem qI{N m i:Nat}{d:ag}(h:i<N):(eP N m).getD i d=m.testBit i:=by
 simp[eP,h]
theorem F7{N m i:Nat}{d:ag}(h:N<=i):(eP N m).getD i d=d:=by
 simp[eP,h]
theorem u4(N m i:Nat):(eP N m).setIfInBounds i true=eP N (m|||2^i):=by
 apply Array.ext
 .simp[eP]
 .intro j h1 b
  have c:j<N:=by simpa[eP] using b
  have d:j<(eP N m).size:=by simpa[eP] using c
  rw[Array.getElem_setIfInBounds d];simp only[eP,Array.getElem_map,Array.getElem_range,nK,so];by_cases a:i=j
  .subst a;simp
  .simp[a]
theorem BG(N:Nat):eP N 0=Array.replicate N false:=by
 apply Array.ext
 .simp[eP]
 .intro j h1 a
  simp[eP]
section
variable {ops:Array Oper}{cd:lp}{D K:O Nat}
theorem BH:∀ (l:O Oper) (i k:Nat) (o:Oper),sT cd i l=true->l[k]? =some o->lq cd.M (i+k)=ja (n0 o)
 | [],_,_,_,_,h=>by simp at h
 |p::l,i,0,o,hc,h=>by
  simp only[sT,dM]at hc
  simp only[nL,Option.some.injEq]at h
  subst h
  exact(jt hc.1).symm
 |p::l,i,k+1,o,hc,h=>by
  simp only[sT,dM]at hc
  have:=BH l (i+1) k o hc.2 (by simpa using h)
  rw[show i+(k+1)=i+1+k from I]
  exact this
theorem u5(h:mz cd D K ops=true){i:Nat}{o:Oper}(a:ops[i]? =some o):lq cd.M i=ja (n0 o):=by
 simp only[mz,dM]at h;have:=BH ops.toList 0 i o h.2.1 (by simpa using a);simpa using this
theorem BI{a b:Nat}(h:a&&&b=a){k:Nat}(c:a.testBit k=true):b.testBit k=true:=by
 have:=congrArg (λx=>x.testBit k) h;simp only[Nat.testBit_and,c,j3]at this;exact this
theorem BJ:∀ (l:O Oper) (i k:Nat) (o:Oper),l[k]? =some o->(lX i l).testBit (i+k)=kr o
 | [],_,_,_,h=>by simp at h
 |p::l,i,0,o,h=>by
  simp only[nL,Option.some.injEq]at h
  subst h
  have low:∀ (l:O Oper) (i k:Nat),k<i->(lX i l).testBit k=false:=by
   intro l
   induction l with
   |nil=>intro i k _;simp[lX]
   |cons q l a=>
    intro i k b;simp only[lX]
    cases kr q
    .exact a (i+1) k I
    .simp only[cond_true,nK,so,a (i+1) k I,Bool.or_false,fh]
     omega
  simp only[lX,lO]
  cases kr p
  .exact low l (i+1) i I
  .simp[nK]
 |p::l,i,k+1,o,h=>by
  have:=BJ l (i+1) k o (by simpa using h);rw[show i+1+k=i+(k+1) from I]at this;simp only[lX]
  cases kr p
  .exact this
  .simp only[cond_true,nK,so,this]
   simp
theorem u6{o:Oper}{k:Nat}:k∈n0 o↔∃e∈o.after,Region.binds .any e=true/\e.on=k:=by
 simp only[n0,df,j4,Array.mem_toList_iff];constructor
 .rintro⟨e,⟨h1,a⟩,b⟩;exact⟨e,h1,a,b⟩
 .rintro⟨e,h1,a,b⟩;exact⟨e,⟨h1,a⟩,b⟩
def Small(N m:Nat):Prop:=∀k,N<=k->m.testBit k=false
theorem F8(N:Nat):Small N 0:=λk _=>by simp
theorem u7{N m i:Nat}(h:Small N m)(hi:i<N):Small N (m|||2^i):=λk a=>by
 simp only[nK,h k a,so,lP,fh]
 omega
theorem u9(hc:mz cd D K ops=true){m i:Nat}(g:Small ops.size m):i∈Region.ready .any ops (eP ops.size m)↔i<ops.size/\lr cd m i=true:=by
 rw[mem_ready];constructor
 .rintro⟨h1,o,b,j⟩
  have hi:i<ops.size:=(mi.1 b).1;refine⟨hi,?_⟩;rw[qI hi]at h1;simp only[lr,h1,Bool.not_false,j3];rw[u5 hc b];have:ja (n0 o)&&&m=ja (n0 o):=by
   apply Nat.eq_of_testBit_eq;intro k;simp only[Nat.testBit_and,m_];by_cases c:k∈n0 o
   .obtain⟨e,he,d,l⟩:=u6.1 c
    have a:=j e he d;rw[l]at a;rcases dA k ops.size with aB|n
    .rw[qI aB]at a;simp[c,a]
    .rw[F7 n]at a;cases a
   .simp[c]
  rw[this];exact Nat.beq_refl _
 .rintro⟨hi,h⟩
  simp only[lr,dM,ju]at h;have b:ops[i]? =some ops[i]:=by simp[hi]
  refine⟨by rw[qI hi];exact h.1,ops[i],b,λe he d=>?_⟩;have a:=jt h.2;rw[u5 hc b]at a;have f:m.testBit e.on=true:=BI a (by
   rw[m_];simp only[cq];exact u6.2 ⟨e,he,d,rfl⟩)
  have aB:e.on<ops.size:=by
   rcases dA e.on ops.size with h|h
   .exact h
   .rw[g _ h]at f;cases f
  rw[qI aB];exact f
theorem BK:∀ (N:Nat) {m:Nat}{is:O Nat},lY cd m is N=true->∀k,k<N->lr cd m k=true->k∈is
 |0,_,_,_,k,c,_=>by omega
 |N+1,m,is,h,k,c,b=>by
  simp only[lY,dM,fC,ju]at h
  rcases dA k N with h1|h1
  .exact BK N h.2 k h1 b
  .have:k=N:=I
   subst this
   obtain a|a:=h.1
   .obtain⟨x,hx,d⟩:=List.any_eq_true.1 a
    rw[jt d];exact hx
   .rw[b]at a;cases a
theorem pc(hc:mz cd D K ops=true){m:Nat}{is:O Nat}(a:Small ops.size m)(h:lY cd m is ops.size=true):
 ∀k∈Region.ready .any ops (eP ops.size m),k∈is:=λk b=>
 let ⟨h1,c⟩:=(u9 hc a).1 b
 BK _ h k h1 c
theorem BL:∀ (b c d:O Nat) (n:O Nat) (e i f g j k:Nat) (l a m:Nat),sU n e i f g j b c d=true->b[k]? =some l->c[k]? =some a->d[k]? =some m->
 e.testBit (j+k)=true\/i=j+k\/l.testBit i=true\/(f&&&(m|||a)=0/\a&&&g=0)
 | [],_,_,_,_,_,_,_,_,_,_,_,_,_,h,_,_=>by simp at h
 |_::_,[],_,_,_,_,_,_,_,_,_,_,_,_,_,h,_=>by simp at h
 |_::_,_::_,[],_,_,_,_,_,_,_,_,_,_,_,_,_,h=>by simp at h
 |q::b,r::c,s::d,n,e,i,f,g,j,k,l,a,m,hc,h1,o,p=>by
  simp only[sU,dM,fC]at hc
  cases k with
  |zero=>
   simp only[nL,Option.some.injEq]at h1 o p
   subst h1 o p
   obtain h|h|h|h:=hc.1
   .exact .inl h
   .exact .inr (.inl (jt h))
   .exact .inr (.inr (.inl h))
   .exact .inr (.inr (.inr ⟨jt h.1,jt h.2⟩))
  |succ k=>
   have:=BL b c d n e i f g (j+1) k l a m hc.2 (by simpa using h1) (by simpa using o) (by simpa using p)
   rw[show j+(k+1)=j+1+k from I]
   exact this
theorem BM:∀ (a b:O Nat) (i k:Nat) (c e:Nat),u3 cd D K i a b=true->a[k]? =some c->b[k]? =some e->
 sU cd.M (lq cd.A (i+k)) (i+k) c e 0 cd.M D K=true
 | [],_,_,_,_,_,_,h,_=>by simp at h
 |_::_,[],_,_,_,_,_,_,h=>by simp at h
 |d::a,g::b,i,k,c,e,hc,h1,f=>by
  simp only[u3,dM]at hc
  cases k with
  |zero=>
   simp only[nL,Option.some.injEq]at h1 f
   subst h1 f
   exact hc.1
  |succ k=>
   have:=BM a b (i+1) k c e hc.2 (by simpa using h1) (by simpa using f)
   rw[show i+(k+1)=i+1+k from I]
   exact this
theorem yF{a b:Nat}(h:a&&&b=0){k:Nat}(c:a.testBit k=true):b.testBit k=false:=by
 have:=congrArg (λx=>x.testBit k) h;simp only[Nat.testBit_and,c,j3,Nat.zero_testBit]at this;exact this
theorem F9{x y:Oper}(h1:ja x.dst.toList&&&(ja (y.looksAt ops)|||ja y.dst.toList)=0)(b:ja y.dst.toList&&&ja (x.looksAt ops)=0):
 x.apart ops y=true:=by
 unfold Oper.apart;simp only[dM];refine⟨?_,?_⟩
 .cases hx:x.dst with
  |none=>rfl
  |some d=>
   rw[hx]at h1;have a:=yF h1 (k:=d) (by rw[m_];simp);simp only[nK,m_,hV,fh]at a;simp only[dM,ju,bne_iff_ne,ne_eq];refine⟨by simpa using a.1,λh=>?_⟩;rw[h]at a;simp at a
 .cases c:y.dst with
  |none=>rfl
  |some d=>
   rw[c]at b;have a:=yF b (k:=d) (by rw[m_];simp);simp only[m_,fh]at a;simpa using a
theorem F_(hc:mz cd D K ops=true){m i:Nat}{d:Oper}(hi:ops[i]? =some d)(h:BD cd ops.size m i=true):
 ∀j a,ops[j]? =some a->j≠i->(eP ops.size m).getD j true=false->(∀e∈a.after,Region.binds .any e=true->e.on≠i)->d.apart ops a=true:=by
 intro j a b p f q;have r:=hc;simp only[mz,dM]at hc;obtain⟨hlen,C,s,t,ak⟩:=hc;have E:=jt hlen;have u:=yE s;have v:=yE t;have g:j<ops.size:=(mi.1 b).1;have l:∀ {k:Nat}{o:Oper},ops[k]? =some o->D[k]? =some (ja o.dst.toList):=λ{k o} c=>by
  rw[←u];simp[BE,c]
 have n:∀ {k:Nat}{o:Oper},ops[k]? =some o->K[k]? =some (ja (o.looksAt ops)):=λ{k o} c=>by
  rw[←v];simp[BF,c]
 have w:=BM D K 0 i _ _ ak (l hi) (n hi);have x:cd.M[j]? =some (lq cd.M j):=by
  unfold lq;have:j<cd.M.length:=I
  simp[List.getD,this]
 have:=BL cd.M D K cd.M _ _ _ _ 0 j _ _ _ w x (l b) (n b);simp only[cT]at this;obtain h1|h1|h1|h1:=this
 .exfalso
  have y:=jt h;have z:=yF y h1;rw[qI g]at f;simp[Nat.testBit_xor,Nat.testBit_two_pow_sub_one,g,f]at z
 .exact absurd h1.symm p
 .exfalso
  rw[u5 r b,m_]at h1;simp only[cq]at h1;obtain⟨e,he,A,B⟩:=u6.1 h1;exact q e he A B
 .exact F9 h1.1 h1.2
end
def pd(ops:Array Oper)(b:Array ag)(j:Nat):Prop:=
 ∀k ok a,ops[k]? =some ok->ops[j]? =some a->kr ok=true->b.getD k false=true->∃e∈a.after,Region.binds .any e=true/\e.on=k
def mA(P:Program)(ops:Array Oper)(Q:Exit->Act->U2)(n:Nat)(L:Array ag->Act->U2):Nat->(U2)->Array ag->Act->U2
 |0,_,b,a,w=>L b a w
 |f+1,S,b,a,w=>Region.ready .any ops b≠ []/\
  ∀i∈Region.ready .any ops b,i<n/\wpOp P ops Q i (λa' w'=>∃aP:U2,((∀x,aP x->S x)\/pd ops b i)/\aP w'/\mA P ops Q n L f aP (b.setIfInBounds i true) a' w') a w
def sX(ops:Array Oper)(n:Nat):Prop:=
 ∀a,HeadInv .any ops n a->∀i,i<n->a.getD i true=false->∀t,n<=t->t∉Region.ready .any ops a
theorem Ga(ops:Array Oper):sX ops ops.size:=by
 intro c _ i _ _ t ht a;obtain⟨_,o,b,_⟩:=mem_ready.1 a;have:=(mi.1 b).1;omega
theorem Gb{ops:Array Oper}{n:Nat}(hs:Region.sinkB .any ops n=true)(hc:Region.chainB .any ops n=true)(a:n<ops.size):sX ops n:=
 λ_ inv i hi b t ht=>tail_waits hs hc a inv _ i rfl hi b t ht
section
variable {P:Program}{ops:Array Oper}{Q:Exit->Act->U2}{n:Nat}{L:Array ag->Act->U2}
theorem YieldsIf.mono{S aP:U2}{o:Oper}{v:Y}{a:Act}(h:YieldsIf P ops S o v a)(hs:∀x,aP x->S x):YieldsIf P ops aP o v a:=
 h.imp (λ⟨h1,b⟩=>⟨h1,λw c=>b w (hs w c)⟩) id
theorem Gc(F:sX ops n){i:Nat}{m:Oper}{v:Y}(hi:ops[i]? =some m)(G:∀ (j:Nat) (o:Oper) cs b,ops[j]? =some o->o.op≠ .select cs b)
 (ac:∀c a w,Q (.panic c) (a.put m.dst v) w->Q (.panic c) a w) (I:i<n) (ad:∀d a w,L d a w->∀j∈Region.ready .any ops d,n<=j):
 ∀ (f:Nat) (S T:U2) (d:Array ag) (a:Act) (w:J),(∀x,S x->T x)->(kr m=true\/∀x,T x)->HeadInv .any ops n d->
  (∀j r,ops[j]? =some r->j≠i->d.getD j true=false->(∀e∈r.after,Region.binds .any e=true->e.on≠i)->m.apart ops r=true)->
  i∈Region.ready .any ops d->YieldsIf P ops T m v a->S w->
  mA P ops Q n L f S (d.setIfInBounds i true) (a.put m.dst v) w->mA P ops Q n L (f+1) S d a w:=by
 intro f
 induction f with
 |zero=>
  intro S T d a w y K inv _ p z t H;have g:=(mem_ready.1 p).1;refine⟨λh=>(by rw[h]at p;cases p),λj s=>?_⟩;have u:j<n:=by
   rcases dA j n with h|h
   .exact h
   .exact absurd s (F d inv i I g j h)
  refine⟨u,?_⟩;by_cases q:j=i
  .subst q;exact(YieldsIf.mono z y).wpOp hi t ⟨S,.inl λ_ h=>h,t,H⟩
  .have:=ad _ _ _ H j (ready_mono s q)
   omega
 |succ f M=>
  intro S T d a w y K inv N p z t H;have g:=(mem_ready.1 p).1;refine⟨λh=>(by rw[h]at p;cases p),λj s=>?_⟩;have u:j<n:=by
   rcases dA j n with h|h
   .exact h
   .exact absurd s (F d inv i I g j h)
  refine⟨u,?_⟩;by_cases q:j=i
  .subst q;exact(YieldsIf.mono z y).wpOp hi t ⟨S,.inl λ_ h=>h,t,H⟩
  .have h1:=(H.2 j (ready_mono s q)).2
   obtain⟨O,r,A,ae⟩:=mem_ready.1 s;have R:∀e∈r.after,Region.binds .any e=true->e.on≠i:=λe he C af=>by
    have h1:=ae e he C;rw[af,getD_both g]at h1
    cases h1
   have ah:=wpOp_putIf A (N j r A q O R) (λcs b=>G i m cs b hi) (λcs b=>G j r cs b A) ac z h1;have U:∀k ok,ops[k]? =some ok->k≠i->(d.setIfInBounds j true).getD k true=false->
    (∀e∈ok.after,Region.binds .any e=true->e.on≠i)->m.apart ops ok=true:=λk ok D ai g aj=>by
    refine N k ok D ai ?_ aj;by_cases V:j=k
    .subst V;exact O
    .rw[getD_set_ne true V]at g;exact g
   refine wpOp_mono (λa' w' ak=>?_) ah;obtain⟨W,aP,X,B,al⟩:=ak;have E:=al;rw[←Array.setIfInBounds_comm _ _ q]at E;have am:pd ops (d.setIfInBounds i true) j->pd ops d j:=λan k ok ao D ap hs l=>an k ok ao D ap hs (by
    by_cases Z:i=k
    .subst Z
     have:d.getD i true=true:=by
      simp only[Array.getD]at l⊢;split at l
      .rename_i aB;simp[aB]at l⊢;exact l
      .cases l
     rw[this]at g;cases g
    .simp only[Array.getD,Array.size_setIfInBounds]at l⊢
     split at l
     .rename_i aB
      simp only[aB,dif_pos];simp only[Array.getInternal_eq_getElem]at l⊢;rw[Array.getElem_setIfInBounds_ne _ Z];exact l
     .cases l)
   obtain hs|aa:=K
   .have ab:∀x,aP x->S x:=by
     obtain h|h:=X
     .exact h
     .exfalso
      obtain⟨e,he,C,aq⟩:=h i m r hi A hs (by
       have aB:i<d.size:=by
        rcases dA i d.size with h|h
        .exact h
        .simp[Array.getD,Nat.not_lt.2 h]at g
       simp[Array.getD,aB])
      exact R e he C aq
    exact⟨aP,.inl ab,B,M aP T (d.setIfInBounds j true) a' w' (λx hx=>y x (ab x hx)) (.inl hs) (inv.set s u) U (ready_mono p (Ne.symm q)) W B E⟩
   .exact⟨aP,X.imp id am,B,M aP T (d.setIfInBounds j true) a' w' (λx _=>aa x) (.inr aa) (inv.set s u) U (ready_mono p (Ne.symm q)) W B E⟩
theorem BN{g:Nat}(c:∀b a w,L b a w->wpAny P .any ops Q g b a w):
 ∀ (f:Nat) (S:U2) (b:Array ag) (a:Act) (w:J),mA P ops Q n L f S b a w->wpAny P .any ops Q (f+g) b a w
 |0,_,b,a,w,h=>by rw[cT];exact c _ _ _ h
 |f+1,S,b,a,w,h=>by
  rw[show f+1+g=(f+g)+1 from I]
  exact⟨λh0=>absurd h0 h.1,λi hi=>wpOp_mono (λa' w' ⟨aP,_,_,d⟩=>BN c f aP _ a' w' d) (h.2 i hi).2⟩
def LE(P:Program)(ops:Array Oper)(Q:Exit->Act->U2)(n:Nat)(b:Array ag)(a:Act)(w:J):Prop:=
 (Region.ready .any ops b=[]/\n=ops.size/\Q .normal a w)\/
 (Region.seqB .any ops (ops.size-n) n b=true/\n<ops.size/\wpList P ops Q (ops.toList.drop n) a w)
theorem Gd:∀b a w,LE P ops Q n b a w->∀j∈Region.ready .any ops b,n<=j:=by
 rintro b a w (⟨h,_,_⟩|⟨h,d,_⟩) j c
 .rw[h]at c;cases c
 .exact seqB_ready h j c
theorem Ge:∀b a w,LE P ops Q n b a w->wpAny P .any ops Q (ops.size-n) b a w:=by
 rintro b a w (⟨h,d,c⟩|⟨h,d,c⟩)
 .subst d
  rw[lQ];exact⟨h,c⟩
 .have:=wpAny_of_seq (md:=.any) (P:=P) (Q':=Q) (ops.toList.drop n) n b a w (λj=>by simp[sq]) (by simpa using h) c
  simpa using this
end
section
variable {P:Program}{tk:TypeId->dX}{ops:Array Oper}{n:Nat}{cd:lp}{D0 eu:O Nat}{W:U1}
theorem BO(hc:mz cd D0 eu ops=true):∀ (g k m:Nat),Small ops.size m->k+g=ops.size->sW cd g k ops.size m=true->Region.seqB .any ops g k (eP ops.size m)=true
 |0,k,m,c,e,h=>by
  simp only[sW]at h
  simp only[Region.seqB,List.isEmpty_iff]
  cases f:Region.ready .any ops (eP ops.size m) with
  |nil=>rfl
  |cons x l=>
   have:=pc hc c h x (by rw[f];simp)
   cases this
 |g+1,k,m,c,e,h=>by
  simp only[sW,dM]at h
  simp only[Region.seqB,dM,cq]
  have d:k<ops.size:=I
  have b:k∈Region.ready .any ops (eP ops.size m):=(u9 hc c).2 ⟨d,h.1.1⟩
  refine⟨?_,?_⟩
  .have a:=pc hc c h.1.2
   have cO:(Region.ready .any ops (eP ops.size m)).Nodup:=by
    unfold Region.ready;exact List.Pairwise.filter _ List.nodup_range
   revert b a cO
   generalize Region.ready .any ops (eP ops.size m)=l;intro b a cO
   match l,b,a,cO with
   | [],b,_,_=>cases b
   | [x],b,a,_=>rw[dV.1 (a x U9)]
   |x::y::l,_,a,cO=>
    have hx:=dV.1 (a x U9);have i:=dV.1 (a y U9);simp[hx,i]at cO
  .rw[u4]
   exact BO hc g (k+1) (m|||2^k) (u7 c d) I h.2
theorem Gf(hc:mz cd D0 eu ops=true)(ap:sX ops n)(aG:n<=ops.size)(aq:Region.noSelect ops=true){A:Act}(af:∀d∈b3 ops.toList,d<A.tmps.size):
 ∀ (t:aN) (W:U1) (f:Nat) (m:Nat) (K:Env->U2) (e:Env) (a:Act) (w:J),dy e a->en (b3 ops.toList) A a->Small ops.size m->HeadInv .any ops n (eP ops.size m)->
  ec P tk ops n cd W t f m K e w->mA P ops (g3 A (b3 ops.toList) K) n (LE P ops (g3 A (b3 ops.toList) K) n) f (aa W w) (eP ops.size m) a w:=by
 intro t;have R:∀ (i:Nat) (o:Oper),ops[i]? =some o->∀k,o.dst=some k->k∈b3 ops.toList:=by
  intro i o z k g;simp only[b3,List.mem_filterMap];exact⟨o,by simpa using Array.mem_of_getElem? z,g⟩
 have S:∀ (W:U1) (t:aN),(∀ (W:U1) (f:Nat) (m:Nat) (K:Env->U2) (e:Env) (a:Act) (w:J),dy e a->en (b3 ops.toList) A a->Small ops.size m->HeadInv .any ops n (eP ops.size m)->
  ec P tk ops n cd W t f m K e w->mA P ops (g3 A (b3 ops.toList) K) n (LE P ops (g3 A (b3 ops.toList) K) n) f (aa W w) (eP ops.size m) a w)->
  ∀ (f:Nat) (m:Nat) (K:Env->U2) (e:Env) (a:Act) (w:J) (i:Nat) (o:Oper),dy e a->en (b3 ops.toList) A a->Small ops.size m->HeadInv .any ops n (eP ops.size m)->
  i∈Region.ready .any ops (eP ops.size m)->i<n->ops[i]? =some o->
  hX ops o e (kq P tk o (λv w'=>aa W w w'/\ec P tk ops n cd W t f (m|||2^i) K (dn o.dst v e) w') e w) (ec P tk ops n cd W t f (m|||2^i) K (dn o.dst undef e) w)->
  wpOp P ops (g3 A (b3 ops.toList) K) i (λa' w'=>∃aP:U2,((∀x,aP x->aa W w x)\/pd ops (eP ops.size m) i)/\aP w'/\mA P ops (g3 A (b3 ops.toList) K) n (LE P ops (g3 A (b3 ops.toList) K) n) f aP ((eP ops.size m).setIfInBounds i true) a' w') a w:=by
  intro W t Q f m K e a w i o ak g p inv T N z h;have next:∀ (v:Y) (w':J),aa W w w'->ec P tk ops n cd W t f (m|||2^i) K (dn o.dst v e) w'->
   ∃aP:U2,((∀x,aP x->aa W w x)\/pd ops (eP ops.size m) i)/\aP w'/\mA P ops (g3 A (b3 ops.toList) K) n (LE P ops (g3 A (b3 ops.toList) K) n) f aP ((eP ops.size m).setIfInBounds i true) (a.put o.dst v) w':=by
   intro v w' ar h;have B:en (b3 ops.toList) a (a.put o.dst v):=en.put (R i o z);have hinv:=inv.set T N;rw[u4]at hinv⊢;exact⟨aa W w',.inl λx hx=>ar.trans hx,.refl _ _,Q W f _ K _ _ w' (ak.put λk Z=>by rw[g.size];exact af k (R i o z k Z)) (g.trans B) (u7 p I) hinv h⟩
  unfold wpOp;simp only[z];rcases sR ak h with ⟨H,L⟩|⟨H,L⟩
  .simp only[H,if_true]
   exact .inl ((uX ak L).wp λv w' ⟨h1,G⟩=>next v w' h1 G)
  .simp only[H,gr,if_false]
   exact next _ _ (.refl _ _) L
 have ah:∀ {b c d:ag}{X:Prop},(bif b&&(c&&d) then X else False)->b=true/\c=true/\d=true/\X:=by
  intro b c d X h
  cases b<;>cases c<;>cases d<;>first|exact h.elim|exact⟨rfl,rfl,rfl,h⟩
 have aj:∀ {b c:ag}{X:Prop},(bif b&&c then X else False)->b=true/\c=true/\X:=by
  intro b c X h
  cases b<;>cases c<;>first|exact h.elim|exact⟨rfl,rfl,h⟩
 have C:∀ {i j:Nat},Nat.blt i j=true->i<j:=λh=>by
  have:=nM h;omega
 have ne_nil:∀ {m i:Nat},Small ops.size m->lr cd m i=true->i<ops.size->Region.ready .any ops (eP ops.size m)≠ []:=λp h hi h0=>by
  have:=(u9 hc p).2 ⟨hi,h⟩;rw[h0]at this;cases this
 induction t with
 |take i t Q=>
  intro W f m K e a w ak g p inv h
  cases f with
  |zero=>simp[ec]at h
  |succ f=>
   simp only[ec]at h;obtain⟨h1,G,E,h⟩:=ah h;have N:=C E;have T:i∈Region.ready .any ops (eP ops.size m):=(u9 hc p).2 ⟨I,h1⟩;split at h
   .rename_i o z
    have fin:∀v,YieldsIf P ops (λx=>kr o=true->aa W w x) o v a->ec P tk ops n cd W t f (m|||2^i) K (dn o.dst v e) w->
     mA P ops (g3 A (b3 ops.toList) K) n (LE P ops (g3 A (b3 ops.toList) K) n) (f+1) (aa W w) (eP ops.size m) a w:=by
     intro v au h;have B:en (b3 ops.toList) a (a.put o.dst v):=en.put (R i o z);refine Gc ap z (Region.noSelect_spec aq) (λc a w ab=>by cases ab.1) N Gd f (aa W w) (λx=>kr o=true->aa W w x) _ a w (λ_ h _=>h) (by cases hs:kr o<;>simp) inv (F_ hc z G) T au (.refl _ _) ?_;have hinv:=inv.set T N;rw[u4]at hinv⊢;exact Q W f _ K _ _ w (ak.put λk Z=>by rw[g.size];exact af k (R i o z k Z)) (g.trans B) (u7 p I) hinv h
    rcases sR ak h with ⟨H,L⟩|⟨H,L⟩
    .obtain⟨v,av,aw⟩:=F6 ak L
     exact fin v (.inl ⟨H,λw' hc=>av w' hc⟩) aw
    .exact fin undef (.inr ⟨H,rfl⟩) L
   .exact h.elim
 |bF i t Q=>
  intro W f m K e a w ak g p inv h
  cases f with
  |zero=>simp[ec]at h
  |succ f=>
   simp only[ec]at h;obtain⟨D,E,h⟩:=aj h;simp only[dM]at D;have N:=C E;split at h
   .rename_i o z
    refine⟨ne_nil p D.1 I,λj ac=>?_⟩;have al:j=i:=by simpa using pc hc p D.2 j ac
    subst al;exact⟨N,S W t Q f m K e a w j o ak g p inv ac N z h⟩
   .exact h.elim
 |out i b t Q=>
  intro W f m K e a w ak g p inv h
  cases f with
  |zero=>simp[ec]at h
  |succ f=>
   simp only[ec]at h;obtain⟨D,E,O,h⟩:=ah h;simp only[dM]at D;have N:=C E;have O:=jt O;split at h
   .rename_i o z
    refine⟨ne_nil p D.1 I,λj ac=>?_⟩;have al:j=i:=by simpa using pc hc p D.2 j ac
    subst al;refine⟨N,?_⟩;have ax:pd ops (eP ops.size m) j:=by
     intro k ok aH B ay hs am;have az:k<ops.size:=(mi.1 B).1;rw[qI az]at am;have aA:(lX 0 ops.toList&&&m).testBit k=true:=by
      rw[Nat.testBit_and,am,Bool.and_true];exact(BJ ops.toList 0 k ok (by simpa using B)).trans hs|>(by simpa using ·)
     have U:(lq cd.M j).testBit k=true:=BI O aA;rw[u5 hc ay,m_]at U;simp only[cq]at U;exact u6.1 U
    have next:∀ (v:Y) (w':J) (V:U1),ec P tk ops n cd V t f (m|||2^j) K (dn o.dst v e) w'->
     ∃aP:U2,((∀x,aP x->aa W w x)\/pd ops (eP ops.size m) j)/\aP w'/\mA P ops (g3 A (b3 ops.toList) K) n (LE P ops (g3 A (b3 ops.toList) K) n) f aP ((eP ops.size m).setIfInBounds j true) (a.put o.dst v) w':=by
     intro v w' V h;have B:en (b3 ops.toList) a (a.put o.dst v):=en.put (R j o z);have hinv:=inv.set ac N;rw[u4]at hinv⊢;exact⟨aa V w',.inr ax,.refl _ _,Q V f _ K _ _ w' (ak.put λk Z=>by rw[g.size];exact af k (R j o z k Z)) (g.trans B) (u7 p I) hinv h⟩
    unfold wpOp;simp only[z];rcases sR ak h with ⟨H,L⟩|⟨H,L⟩
    .simp only[H,if_true]
     refine .inl ((uX ak L).wp λv w' G=>?_)
     cases b with
     |true=>
      obtain⟨V,G⟩:=G;exact next v w' V G
     |false=>exact next v w' W G
    .simp only[H,gr,if_false]
     exact next _ _ W L
   .exact h.elim
 |two i t j u ad ae=>
  intro W f m K e a w ak g p inv h
  cases f with
  |zero=>simp[ec]at h
  |succ f=>
   simp only[ec]at h;obtain⟨D,E,O,h⟩:=ah h;simp only[dM]at D;have hi:=C E;split at h
   .rename_i o q z ab
    refine⟨ne_nil p D.1 I,λk B=>?_⟩;have F:k=i\/k=j:=by simpa using pc hc p D.2 k B
    rcases F with F|F
    .subst F
     exact⟨C E,S W t ad f m K e a w k o ak g p inv B (C E) z h.1⟩
    .subst F
     exact⟨C O,S W u ae f m K e a w k q ak g p inv B (C O) ab h.2⟩
   .exact h.elim
 |three i t j u k x ad ae aB=>
  intro W f m K e a w ak g p inv h
  cases f with
  |zero=>simp[ec]at h
  |succ f=>
   simp only[ec]at h;obtain⟨D,E,aC,h⟩:=ah (d:=_) h;obtain⟨O,U⟩:Nat.blt j n=true/\Nat.blt k n=true:=by simpa using aC
   simp only[dM]at D;have hi:=C E;split at h
   .rename_i o q r z ab aD
    refine⟨ne_nil p D.1 I,λy B=>?_⟩;have F:y=i\/y=j\/y=k:=by simpa using pc hc p D.2 y B
    rcases F with F|F|F
    .subst F
     exact⟨C E,S W t ad f m K e a w y o ak g p inv B (C E) z h.1⟩
    .subst F
     exact⟨C O,S W u ae f m K e a w y q ak g p inv B (C O) ab h.2.1⟩
    .subst F
     exact⟨C U,S W x aB f m K e a w y r ak g p inv B (C U) aD h.2.2⟩
   .exact h.elim
 |sp s t u ad ae=>
  intro W f m K e a w ak g p inv h;have ai:match e.get s with
   |some (.bool c)=>(c=true->ec P tk ops n cd W t f m K ((s,.bool true)::e) w)/\(c=false->ec P tk ops n cd W u f m K ((s,.bool false)::e) w)
   |_=>False:=by cases f<;>simpa only[ec] using h
  split at ai
  .rename_i c hs
   cases c with
   |true=>exact ad W f m K _ a w (ak.lit hs) g p inv (ai.1 rfl)
   |false=>exact ae W f m K _ a w (ak.lit hs) g p inv (ai.2 rfl)
  .exact ai.elim
 |fin=>
  intro W f m K e a w ak g p inv h
  cases f with
  |succ f=>simp[ec]at h
  |zero=>
   simp only[ec]at h;obtain⟨h1,G,h⟩:=aj h;refine .inl ⟨?_,jt G,rfl,g,e,ak,h⟩
   cases T:Region.ready .any ops (eP ops.size m) with
   |nil=>rfl
   |cons x l=>
    have:=pc hc p h1 x (by rw[T];simp)
    cases this
 |tail as=>
  intro W f m K e a w ak g p inv h
  cases f with
  |succ f=>simp[ec]at h
  |zero=>
   simp only[ec]at h;obtain⟨h1,G,h⟩:=aj h;have an:∀k,k∈b3 (ops.toList.drop n)->k∈b3 ops.toList:=λk g=>by
    simp only[b3,List.mem_filterMap]at g⊢;obtain⟨o,z,g⟩:=g;exact⟨o,gb z,g⟩
   have:=Bx _ _ _ K e a w ak (λd hd=>by rw[g.size];exact af d (an d hd)) h;exact .inr ⟨BO hc _ _ _ p I h1,C G,jP (λx a' w' ⟨ao,aE,aF⟩=>⟨ao,g.trans (aE.mono an),aF⟩) _ _ _ this⟩
theorem Gg(ops:Array Oper)(n:Nat):HeadInv .any ops n (Array.replicate ops.size false):=
 ⟨by simp,λj b _ a=>(by rw[getD_replicate_false]at a;cases a),λt _ ht=>getD_in (by simpa using ht) (getD_replicate_false _ _)⟩
def yG(P:Program)(tk:TypeId->dX)(ops:Array Oper)(n:Nat)(a:ag)(cd:lp)(D0 eu:O Nat)(t:aN)(K:Env->U2)(e:Env)(w:J):Prop:=
 bif (Region.noSelect ops&&mz cd D0 eu ops)&&(bif Nat.beq n ops.size then true else Nat.blt n ops.size&&(Region.sinkB .any ops n&&Region.chainB .any ops n)) then
  bif a then
   au w.drew λw1=>∃W:U1,ec P tk ops n cd W t n 0 K e w1
  else au w.drew λw1=>ec P tk ops n cd (λ_=>False) t n 0 K e w1
 else False
theorem Gh{id:Nat}{f:ag}{t:aN}{K:Env->U2}{e:Env}{a:Act}{w:J}(i:P.follows .mixedOrders=true)
 (ak:dy e a) (j:∀d∈b3 ops.toList,d<a.tmps.size) (h:yG P tk ops n f cd D0 eu t K e w):
 (Code.region id ops true).wp P (g3 a (b3 ops.toList) K) a w:=by
 unfold yG at h
 cases h0:(Region.noSelect ops&&mz cd D0 eu ops) with
 |false=>rw[h0]at h;exact h.elim
 |true=>
  rw[h0]at h;simp only[j3]at h;simp only[dM]at h0;obtain⟨h1,hc⟩:=h0
  cases b:(bif Nat.beq n ops.size then true else Nat.blt n ops.size&&(Region.sinkB .any ops n&&Region.chainB .any ops n)) with
  |false=>rw[b]at h;exact h.elim
  |true=>
   rw[b]at h;simp only[cond_true]at h;have k:sX ops n:=by
    cases c:Nat.beq n ops.size with
    |true=>rw[jt c];exact Ga ops
    |false=>
     rw[c]at b;simp only[cond_false,dM]at b;refine Gb b.2.1 b.2.2 ?_;have:=nM b.1;omega
   have l:n<=ops.size:=by
    cases c:Nat.beq n ops.size with
    |true=>rw[jt c];exact a_ _
    |false=>
     rw[c]at b;simp only[cond_false,dM]at b;have:=nM b.1;omega
   have key:∀W,ec P tk ops n cd W t n 0 K e w.drew->(Code.region id ops true).wp P (g3 a (b3 ops.toList) K) a w:=by
    intro W h;refine wp_region_any i ?_;have g:=Gf hc k l h1 j t W n 0 K e a w.drew ak (.refl _ _) (F8 _) (by rw[BG];exact Gg ops n) h;rw[BG]at g;have:=BN Ge _ _ _ _ _ g;rw[show n+(ops.size-n)=ops.size from I]at this;exact this
   cases f with
   |true=>obtain⟨W,h⟩:=h;exact key W h
   |false=>exact key _ h
end
end aU
namespace aU
open Go
inductive aK where
 |leaf
 |qJ (as:O ln)
 |u_ (n:Nat) (c:ag) (cd:lp) (D0 eu:O Nat) (t:aN)
 |seq (a b:aK)
 |cond (a b:aK)
 |bn (a:aK)
 |loop (live:O (Nat×dx)) (eQ:O Nat) (a:aK)
 |dL (live:O (Nat×dx)) (eQ:O Nat) (a:aK)
def gQ:O (Nat×dx)->Type
 | []=>U2
 |(_,l)::r=>l.T->gQ r
def n1:O (Nat×dx)->Type
 | []=>J->Nat
 |(_,l)::r=>l.T->n1 r
def qK(l:dx)(v:an Y)(K:l.T->Prop):Prop:=
 match l,v with
 | .int k,some (.int d n)=>bif kR k d then K n else False
 | .bool,some (.bool b)=>K b
 | .str,some (.string s)=>K s
 | .ptr,some (.pointer p)=>K p
 | .slice,some (.slice a n c)=>K ⟨a,n,c⟩
 | .map,some (.map r)=>K r
 | .agg,some (.agg cs)=>K cs
 | .fn,some (.func (.func f) a b)=>K ⟨f,a,b⟩
 | .any,some v=>K v
 |_,_=>False
def gQ.app:(live:O (Nat×dx))->gQ live->(Nat->an Y)->U2
 | [],k,_,w=>k w
 |(s,l)::r,k,g,w=>qK l (g s) λx=>gQ.app r (k x) g w
def gQ.lam:(live:O (Nat×dx))->(Env->U2)->gQ live
 | [],F=> λw=>F [] w
 |(s,l)::r,F=> λx=>gQ.lam r λe w=>F ((s,l.v x)::e) w
def yH:(live:O (Nat×dx))->gQ live->n1 live->(Env->Nat->U2)->Prop
 | [],a,b,F=>∀w,a w->F [] (b w) w
 |(s,l)::r,a,b,F=>∀x:l.T,yH r (a x) (b x) λe m w=>F ((s,l.v x)::e) m w
def yI:(live:O (Nat×dx))->gQ live->n1 live->Nat->(Nat->an Y)->U2
 | [],a,b,m,_,w=>a w/\b w<m
 |(s,l)::r,a,b,m,g,w=>qK l (g s) λx=>yI r (a x) (b x) m g w
def j7:(live:O (Nat×dx))->n1 live->(Nat->an Y)->J->Nat
 | [],d,_,w=>d w
 |(s,l)::r,d,g,w=>
  match l,g s,d with
  | .int _,some (.int _ n),d=>j7 r (d n) g w
  | .bool,some (.bool b),d=>j7 r (d b) g w
  | .str,some (.string b),d=>j7 r (d b) g w
  | .ptr,some (.pointer b),d=>j7 r (d b) g w
  | .slice,some (.slice a n c),d=>j7 r (d (U.mk a n c)) g w
  | .map,some (.map b),d=>j7 r (d b) g w
  | .agg,some (.agg b),d=>j7 r (d b) g w
  | .fn,some (.func (.func f) a b),d=>j7 r (d (iZ.mk f a b)) g w
  | .any,some v,d=>j7 r (d v) g w
  |_,_,_=>0
def writes:Code->O Nat
 | .region _ ops _=>b3 ops.toList
 | .seq a b=>writes a++writes b
 | .cond _ a b=>writes a++writes b
 | .block _ a=>writes a
 | .loop a=>writes a
 | .scope a=>writes a
 |_=> []
def sY(eQ ws:O Nat):ag:=eQ.all λs=> !(ws.any λd=>Nat.beq d s)
def pe(e:Env):O Nat->Env
 | []=> []
 |s::ks=>match e.get s with
  |some v=>(s,v)::pe e ks
  |none=>pe e ks
def qL:Env->Env->Env
 | [],f=>f
 |p::e,f=>p::qL e f
def D(P:Program)(tk:TypeId->dX):aK->Code->(Exit->Env->U2)->Env->U2
 | .leaf,c,K,e,w=>
  match c with
  | .skip=>K .normal e w
  | .label _=>K .normal e w
  | .exit id=>K (.exit id) e w
  | .ret=>K .ret e w
  |_=>False
 | .qJ as,c,K,e,w=>
  match c with
  | .region _ ops false=>gj P tk ops (ops.size+1) ops.toList as (λd w'=>K .normal d w') e w
  |_=>False
 | .u_ n he cd D0 eu t,c,K,e,w=>
  match c with
  | .region _ ops true=>yG P tk ops n he cd D0 eu t (λd w'=>K .normal d w') e w
  |_=>False
 | .seq A B,c,K,e,w=>
  match c with
  | .seq a b=>D P tk A a (λx d w'=>match x with| .normal=>D P tk B b K d w'|x=>K x d w') e w
  |_=>False
 | .cond A B,c,K,e,w=>
  match c with
  | .cond o x y=>match ev e o with
   |some (.bool b)=>(b=true->D P tk A x K e w)/\(b=false->D P tk B y K e w)
   |_=>False
  |_=>False
 | .bn A,c,K,e,w=>
  match c with
  | .block id b=>D P tk A b (λx d w'=>match x with| .exit h=>bif Nat.beq h id then K .normal d w' else K (.exit h) d w'|x=>K x d w') e w
  |_=>False
 | .loop live eQ A,c,K,e,w=>
  match c with
  | .loop b=>bif sY eQ (writes b) then
   ∃ (f:gQ live) (i:n1 live),gQ.app live f e.get w/\
    yH live f i λg m w'=>D P tk A b (λx d j=>match x with| .normal=>yI live f i m d.get j|x=>K x d j) (qL g (pe e eQ)) w'
   else False
  |_=>False
 | .dL live eQ A,c,K,e,w=>
  bif sY eQ (writes c) then
   aX (λk:gQ live=>D P tk A c (λx d w'=>match x with| .normal=>gQ.app live k d.get w'|x=>K x d w') e w)
    (gQ.lam live λg w'=>K .normal (qL g (pe e eQ)) w')
  else False
def Gi(a:Act)(ds:O Nat)(K:Exit->Env->U2)(x:Exit)(a':Act)(w':J):Prop:=
 en ds a a'/\∃b,dy b a'/\K x b w'
def Sub(e:Env)(g:Nat->an Y):Prop:=∀s v,e.get s=some v->g s=some v
theorem Sub.cons{e:Env}{g:Nat->an Y}{s:Nat}{v:Y}(h:Sub e g)(hs:g s=some v):Sub ((s,v)::e) g:=by
 intro t u ht;rw[o8]at ht;by_cases a:s=t
 .subst a;rw[if_pos rfl]at ht;rw[hs];exact ht
 .rw[if_neg a]at ht;exact h t u ht
theorem Sub.nil{g:Nat->an Y}:Sub [] g:=λ_ _ h=>by cases h
theorem va{l:dx}{v:an Y}{K:l.T->Prop}(h:qK l v K):∃x:l.T,v=some (l.v x)/\K x:=by
 unfold qK at h;split at h
 .rename_i k b n K
  by_cases a:k=b
  .subst a
   simp only[kR,decide_true,cond_true]at h;exact⟨n,rfl,h⟩
  .simp[kR,a]at h
 all_goals first
  |exact⟨_,rfl,h⟩
  |exact h.elim
theorem BP{l:dx}{v:an Y}{K:l.T->Prop}{x:l.T}(a:v=some (l.v x))(h:K x):qK l v K:=by
 subst a
 cases l<;>simp only[qK,dx.v,kR,decide_true,cond_true]<;>exact h
theorem BQ{s:Nat}{l:dx}{r:O (Nat×dx)}{a:n1 ((s,l)::r)}{g:Nat->an Y}{w:J}{x:l.T}(b:g s=some (l.v x)):
 j7 ((s,l)::r) a g w=j7 r (a x) g w:=by
 cases l<;>simp only[j7,b,dx.v]<;>rfl
theorem BR:∀ {live:O (Nat×dx)}{F:Env->U2}{g:Nat->an Y}{w:J},gQ.app live (gQ.lam live F) g w->∃a,Sub a g/\F a w
 | [],F,g,w,h=>⟨[],Sub.nil,h⟩
 |(s,l)::r,F,g,w,h=>by
  obtain⟨x,b,h⟩:=va h
  obtain⟨a,hs,h⟩:=BR h
  exact⟨(s,l.v x)::a,hs.cons b,h⟩
theorem BS:∀ {live:O (Nat×dx)}{a:gQ live}{g g':Nat->an Y}{w:J},(∀s v,g s=some v->g' s=some v)->gQ.app live a g w->gQ.app live a g' w
 | [],_,_,_,_,_,h=>h
 |(s,l)::r,a,g,g',w,hg,h=>by
  obtain⟨x,b,h⟩:=va h
  exact BP (hg _ _ b) (BS hg h)
theorem BT:∀ {live:O (Nat×dx)}{b:gQ live}{c:n1 live}{F:Env->Nat->U2}{g:Nat->an Y}{w:J},
 yH live b c F->gQ.app live b g w->∃d,Sub d g/\F d (j7 live c g w) w
 | [],b,c,F,g,w,h,a=>⟨[],Sub.nil,h w a⟩
 |(s,l)::r,b,c,F,g,w,h,a=>by
  obtain⟨x,e,a⟩:=va a
  obtain⟨d,hs,h⟩:=BT (h x) a
  exact⟨(s,l.v x)::d,hs.cons e,by rw[BQ e];exact h⟩
theorem BU:∀ {live:O (Nat×dx)}{a:gQ live}{b:n1 live}{m:Nat}{g g':Nat->an Y}{w:J},
 (∀s v,g s=some v->g' s=some v)->yI live a b m g w->gQ.app live a g' w/\j7 live b g' w<m
 | [],_,_,_,_,_,_,_,h=>h
 |(s,l)::r,a,b,m,g,g',w,hg,h=>by
  obtain⟨x,c,h⟩:=va h
  obtain⟨h1,d⟩:=BU hg h
  exact⟨BP (hg _ _ c) h1,by rw[BQ (hg _ _ c)];exact d⟩
theorem BV:∀ {e f:Env}{s:Nat}{v:Y},(qL e f).get s=some v->e.get s=some v\/f.get s=some v
 | [],_,_,_,h=>.inr h
 |(k,u)::e,f,s,v,h=>by
  simp only[qL]at h
  rw[o8]at h⊢
  by_cases a:k=s
  .rw[if_pos a]at h⊢;exact .inl h
  .rw[if_neg a]at h⊢;exact BV h
theorem yJ{e:Env}:∀ {ks:O Nat}{s:Nat}{v:Y},(pe e ks).get s=some v->s∈ks/\e.get s=some v
 | [],_,_,h=>by cases h
 |k::ks,s,v,h=>by
  simp only[pe]at h
  split at h
  .rename_i u hu
   rw[o8]at h
   by_cases a:k=s
   .rw[if_pos a]at h
    subst a
    exact⟨by simp,by rw[hu];exact h⟩
   .rw[if_neg a]at h
    have:=yJ h
    exact⟨by simp[this.1],this.2⟩
  .have:=yJ h
   exact⟨by simp[this.1],this.2⟩
theorem BW{e b:Env}{a a':Act}{eQ ws:O Nat}(ak:dy e a)(d:en ws a a')(f:sY eQ ws=true)(hs:Sub b λs=>a'.tmps[s]?):
 dy (qL b (pe e eQ)) a':=by
 constructor;intro s v h;rcases BV h with h|h
 .exact hs s v h
 .obtain⟨h1,g⟩:=yJ h
  have c:=kM.1 f s h1;simp only[ju,qk]at c;rw[d.same s λi=>c s i (Nat.beq_refl s)];exact ak.get s v g
section
variable {P:Program}{tk:TypeId->dX}
theorem ku{c:Code}{Q Q':Exit->Act->U2}{a:Act}{w:J}(h:c.wp P Q a w)(b:∀e a w,Q e a w->Q' e a w):c.wp P Q' a w:=wp_mono h b
theorem vb(Q:P.follows .mixedOrders=true):∀ (A:aK) (c:Code) (K:Exit->Env->U2) (e:Env) (a:Act) (w:J),dy e a->(∀d∈writes c,d<a.tmps.size)->
 D P tk A c K e w->c.wp P (Gi a (writes c) K) a w:=by
 intro A
 induction A with
 |leaf=>
  intro c K e a w ak j h;simp only[D]at h;split at h
  .exact wp_skip ⟨.refl _ _,e,ak,h⟩
  .exact wp_label ⟨.refl _ _,e,ak,h⟩
  .exact wp_exit ⟨.refl _ _,e,ak,h⟩
  .exact wp_ret ⟨.refl _ _,e,ak,h⟩
  .exact h.elim
 |qJ as=>
  intro c K e a w ak j h;simp only[D]at h;split at h
  .rename_i id ops
   have:=Bx _ _ _ _ e a w ak j h;refine wp_region_list (jP ?_ _ _ _ this);rintro x a' w' ⟨rfl,f,C,E,F⟩;exact⟨f,C,E,F⟩
  .exact h.elim
 |u_ n he cd D0 eu t=>
  intro c K e a w ak j h;simp only[D]at h;split at h
  .rename_i id ops
   refine ku (Gh Q ak j h) ?_;rintro x a' w' ⟨rfl,f,C,E,F⟩;exact⟨f,C,E,F⟩
  .exact h.elim
 |seq A B G H=>
  intro c K e a w ak j h;simp only[D]at h;split at h
  .rename_i x y
   have hx:∀d,d∈writes x->d∈writes (.seq x y):=λd hd=>by simp[writes,hd]
   have u:∀d,d∈writes y->d∈writes (.seq x y):=λd hd=>by simp[writes,hd]
   refine wp_seq (ku (G x _ e a w ak (λd hd=>j d (hx d hd)) h) ?_);rintro ex a1 w1 ⟨f,i,g,h1⟩
   cases ex with
   |normal=>
    refine ku (H y K i a1 w1 g (λd hd=>by rw[f.size];exact j d (u d hd)) h1) ?_;rintro ex a2 ah ⟨k,q,m,p⟩;exact⟨(f.mono hx).trans (k.mono u),q,m,p⟩
   |exit id=>exact⟨f.mono hx,i,g,h1⟩
   |goto l=>exact⟨f.mono hx,i,g,h1⟩
   |ret=>exact⟨f.mono hx,i,g,h1⟩
   |panic I=>exact⟨f.mono hx,i,g,h1⟩
   |outgrown=>exact⟨f.mono hx,i,g,h1⟩
  .exact h.elim
 |cond A B G H=>
  intro c K e a w ak j h;simp only[D]at h;split at h
  .rename_i o x y
   have hx:∀d,d∈writes x->d∈writes (.cond o x y):=λd hd=>by simp[writes,hd]
   have u:∀d,d∈writes y->d∈writes (.cond o x y):=λd hd=>by simp[writes,hd]
   split at h
   .rename_i b R
    refine wp_cond_split (ak.ev R) (λL=>?_) (λL=>?_)
    .refine ku (G x K e a w ak (λd hd=>j d (hx d hd)) (h.1 L)) ?_
     rintro ex a2 ah ⟨k,q,m,p⟩;exact⟨k.mono hx,q,m,p⟩
    .refine ku (H y K e a w ak (λd hd=>j d (u d hd)) (h.2 L)) ?_
     rintro ex a2 ah ⟨k,q,m,p⟩;exact⟨k.mono u,q,m,p⟩
   .exact h.elim
  .exact h.elim
 |bn A z=>
  intro c K e a w ak j h;simp only[D]at h;split at h
  .rename_i id b
   refine wp_block (ku (z b _ e a w ak j h) ?_);rintro ex a1 w1 ⟨f,i,g,h1⟩
   cases ex with
   |exit M=>
    simp only[Exit.inBlock];by_cases N:M=id
    .subst N
     simp only[Nat.beq_refl,cond_true]at h1;rw[if_pos rfl];exact⟨f,i,g,h1⟩
    .have:Nat.beq M id=false:=by
      cases S:Nat.beq M id
      .rfl
      .exact absurd (jt S) N
     simp only[this,cond_false]at h1;rw[if_neg N];exact⟨f,i,g,h1⟩
   |normal=>exact⟨f,i,g,h1⟩
   |goto l=>exact⟨f,i,g,h1⟩
   |ret=>exact⟨f,i,g,h1⟩
   |panic I=>exact⟨f,i,g,h1⟩
   |outgrown=>exact⟨f,i,g,h1⟩
  .exact h.elim
 |loop live eQ A z=>
  intro c K e a w ak j h;simp only[D]at h;split at h
  .rename_i b
   cases r:sY eQ (writes b) with
   |false=>rw[r]at h;exact h.elim
   |true=>
    rw[r]at h;obtain⟨T,U,h0,V⟩:=h;refine wp_loop (λa' w'=>en (writes b) a a'/\gQ.app live T (λs=>a'.tmps[s]?) w') (λa' w'=>j7 live U (λs=>a'.tmps[s]?) w')
     ⟨.refl _ _,BS (λs v hs=>ak.get s v hs) h0⟩ ?_
    rintro a1 w1 ⟨f,W⟩;obtain⟨X,hs,O⟩:=BT V W;refine ku (z b _ _ a1 w1 (BW ak f r hs) (λd hd=>by rw[f.size];exact j d hd) O) ?_;rintro ex a2 ah ⟨k,q,m,p⟩
    cases ex with
    |normal=>
     obtain⟨ao,Y⟩:=BU (g':=λs=>a2.tmps[s]?) (λs v hs=>m.get s v hs) p;exact⟨⟨f.trans k,ao⟩,Y⟩
    |exit id=>exact⟨f.trans k,q,m,p⟩
    |goto l=>exact⟨f.trans k,q,m,p⟩
    |ret=>exact⟨f.trans k,q,m,p⟩
    |panic I=>exact⟨f.trans k,q,m,p⟩
    |outgrown=>exact⟨f.trans k,q,m,p⟩
  .exact h.elim
 |dL live eQ A z=>
  intro c K e a w ak j h;simp only[D]at h
  cases r:sY eQ (writes c) with
  |false=>rw[r]at h;exact h.elim
  |true=>
   rw[r]at h;simp only[cond_true]at h;have h:=h.out;refine ku (z c _ e a w ak j h) ?_;rintro ex a1 w1 ⟨f,i,g,h1⟩
   cases ex with
   |normal=>
    obtain⟨X,hs,O⟩:=BR h1;exact⟨f,_,BW ak f r (λs v h=>g.get s v (hs s v h)),O⟩
   |exit id=>exact⟨f,i,g,h1⟩
   |goto l=>exact⟨f,i,g,h1⟩
   |ret=>exact⟨f,i,g,h1⟩
   |panic I=>exact⟨f,i,g,h1⟩
   |outgrown=>exact⟨f,i,g,h1⟩
def na(P:Program)(tk:TypeId->dX):O ResultVar->Env->J->(O Y->Prop)->Prop
 | [],_,_,K=>K []
 | .tmp t::r,e,w,K=>match e.get t with
  |some v=>na P tk r e w λvs=>K (v::vs)
  |none=>False
 | .cell t T::r,e,w,K=>match e.get t with
  |some (.pointer (some A))=>qC P tk T A w λv=>na P tk r e w λvs=>K (v::vs)
  |_=>False
def qM:O Y->Y
 | [v]=>v
 |vs=>.tuple vs.toArray
def BX(P:Program)(tk:TypeId->dX)(a:O ResultVar)(R:U0)(x:Exit)(e:Env)(w:J):Prop:=
 match x with
 | .normal=>na P tk a e w λvs=>R (qM vs) w
 | .ret=>na P tk a e w λvs=>R (qM vs) w
 |_=>False
def pg:Nat->O Y->Env
 |_,[]=> []
 |i,v::vs=>(i,v)::pg (i+1) vs
def qN(P:Program)(tk:TypeId->dX)(A:aK)(fn:Func)(args:O Y)(w:J)(R:U0):Prop:=
 match fn.body with
 |some c=>D P tk A c (BX P tk fn.results.toList R) (pg 0 args) w
 |none=>False
def ph(fn:Func)(n:Nat):ag:=
 match fn.body with
 |some c=>(writes c).all (λd=>Nat.blt d fn.ntmps)&&Nat.ble n fn.ntmps
 |none=>false
theorem yK:∀ {vs:O Y}{i s:Nat}{v:Y},(pg i vs).get s=some v->i<=s/\vs[s-i]? =some v
 | [],_,_,_,h=>by cases h
 |u::vs,i,s,v,h=>by
  simp only[pg]at h
  rw[o8]at h
  by_cases a:i=s
  .subst a
   rw[if_pos rfl]at h
   simpa using h
  .rw[if_neg a]at h
   obtain⟨h1,b⟩:=yK h
   refine⟨I,?_⟩
   rw[show s-i=(s-(i+1))+1 from I]
   simpa using b
def sZ(tmps:Array Y)(r:ResultVar):Sem Y:=
 match r with
 | .tmp t=>pure (tmps.getD t undef)
 | .cell x t=>do loadVar t (←asAddr (tmps.getD x undef))
theorem nc{a:Act}:∀ {f:O ResultVar}{e:Env}{w:J}{K:O Y->Prop},dy e a->na P tk f e w K->
 ∃vs,(f.mapM (sZ a.tmps)).run P w=.ok vs w/\K vs
 | [],_,_,_,_,h=>⟨[],by simp,h⟩
 | .tmp t::r,e,w,K,ak,h=>by
  simp only[na]at h
  split at h
  .rename_i v b
   obtain⟨vs,c,d⟩:=nc ak h
   refine⟨v::vs,?_,d⟩
   have ht:a.tmps.getD t undef=v:=by simp[Array.getD_eq_getD_getElem?,ak.get _ _ b]
   simp only[List.mapM_cons,sZ,Sem.run_bind,Sem.run_pure,Result.andThen,ht]
   rw[c]
  .exact h.elim
 | .cell t T::r,e,w,K,ak,h=>by
  simp only[na]at h
  split at h
  .rename_i A b
   obtain⟨v,g,h⟩:=Bt h
   obtain⟨vs,c,d⟩:=nc ak h
   refine⟨v::vs,?_,d⟩
   have ht:a.tmps.getD t undef=.pointer (some A):=by simp[Array.getD_eq_getD_getElem?,ak.get _ _ b]
   have i:(loadVar T A).run P w=.ok v w:=by simpa[Instr.loadAt,Instr.sureAddr] using g
   simp only[List.mapM_cons,sZ,Sem.run_bind,Sem.run_pure,Result.andThen,ht,asAddr,i]
   rw[c]
  .exact h.elim
theorem pj{fn:Func}{tmps:Array Y}{w:J}{vs:O Y}
 (h:(fn.results.toList.mapM (sZ tmps)).run P w=.ok vs w):
 (results fn tmps).run P w=.ok (qM vs) w:=by
 have a:results fn tmps=(do let vs ←fn.results.mapM (sZ tmps);pure (if h:vs.size=1 then vs[0] else .tuple vs)):=rfl;rw[a,Array.mapM_eq_mapM_toList];simp only[Sem.run_bind,Sem.run_map];rw[h];simp only[Result.andThen,Sem.run_pure]
 congr 1
 match vs with
 | []=>rfl
 | [v]=>rfl
 |u::v::vs=>simp[qM]
theorem Gj{f:FuncId}{fn:Func}{A:aK}{args:O Y}{w:J}{R:U0}(n:P.follows .mixedOrders=true)
 (hf:P.funcs[f]? =some fn) (g:ph fn args.length=true) (h:qN P tk A fn args w R):
 Calls P f args.toArray w λe w'=>∃v,e=.returned v/\R v w':=by
 unfold qN at h;unfold ph at g
 cases i:fn.body with
 |none=>rw[i]at h;exact h.elim
 |some c=>
  rw[i]at h g;simp only[dM]at h g;obtain⟨o,p⟩:=g;have t:=nM p;refine calls_of_wp hf i ?_;have q:(args.toArray++Array.replicate (fn.ntmps-args.toArray.size) undef).size=fn.ntmps:=by simp;omega
  have ak:dy (pg 0 args) {tmps:=args.toArray++Array.replicate (fn.ntmps-args.toArray.size) undef,defers:=[]}:=by
   constructor;intro s v hs;obtain⟨_,b⟩:=yK hs;simp only[ql]at b;have aB:s<args.length:=(jK.1 b).1;simp[Array.getElem?_append,aB];rw[dB aB]at b;exact Option.some.inj b
  refine ku (vb n A c _ _ _ w ak (λd hd=>?_) h) ?_
  .have h1:=kM.1 o d hd
   have b:=nM h1;show d<(args.toArray++Array.replicate (fn.ntmps-args.toArray.size) undef).size;rw[q];omega
  .rintro x a' w' ⟨r,u,m,a⟩
   have hd:a'.defers=[]:=r.defers
   cases x with
   |normal=>
    obtain⟨vs,j,k⟩:=nc m a;exact⟨hd,_,pj j,_,rfl,k⟩
   |ret=>
    obtain⟨vs,j,k⟩:=nc m a;exact⟨hd,_,pj j,_,rfl,k⟩
   |exit id=>exact a.elim
   |goto l=>exact a.elim
   |panic y=>exact a.elim
   |outgrown=>exact a.elim
end
end aU
namespace aU
open Go Go.ChangeShapes Go.WideShapes Go.ChangeAt Go.RowKit
def hF(P:Program)(w:J):Nat->TypeId->O Y->Prop
 |0,_,_=>False
 |fuel+1,t,cs=>
  match P.underlying t with
  |some .bool=>∃b:ag,cs=[.bool b]
  |some (.int k)=>∃n:Int,cs=[.int k n]/\k.min<=n/\n<=k.max
  |some .string=>∃s:ByteArray,cs=[.string s]/\s.size<=maxLen
  |some (.slice e)=>∃s:U,cs=[.slice s.a s.len s.cap]/\s.len<=s.cap/\s.cap<=maxLen/\(s.a=none->s.cap=0)/\
   ∀a,s.a=some a->∀i,i<s.cap->∃vs,cv w (a.add (i*P.cellsOf e)) 0 (P.cellsOf e)=some vs/\hF P w fuel e vs
  |some (.struct fs)=>cs.length=P.cellsOf t/\∀f∈fs,hF P w fuel f.type ((cs.drop f.offset).take (P.cellsOf f.type))
  |some (.array n e)=>cs.length=P.cellsOf t/\∀i,i<n->hF P w fuel e ((cs.drop (i*P.cellsOf e)).take (P.cellsOf e))
  |some (.pointer e)=>cs=[.pointer none]\/∃a vs,cs=[.pointer (some a)]/\cv w a 0 (P.cellsOf e)=some vs/\hF P w fuel e vs
  |_=>True
theorem mapM_some{α β:Type}{f:α->an β}:∀ {l:O α}{r:O β},l.mapM f=some r->∀x∈l,∃y,f x=some y
 | [],_,_,_,hx=>by cases hx
 |a::l,r,h,x,hx=>by
  simp only[List.mapM_cons]at h
  cases c:f a with
  |none=>simp[c]at h
  |some b=>
   cases d:l.mapM f with
   |none=>simp[c,d]at h
   |some e=>
    rcases cN.1 hx with rfl|hx
    .exact⟨b,c⟩
    .exact mapM_some d x hx
theorem BY{w:J}{a:ax}:∀ (n i:Nat) (vs:O Y),((List.range' i n).mapM λj=>w.cell? (a.add j))=some vs->cv w a i n=some vs
 |0,i,vs,h=>by simp at h;simp[cv,h]
 |n+1,i,vs,h=>by
  simp only[List.range'_succ,List.mapM_cons]at h
  cases h1:w.cell? (a.add i) with
  |none=>simp[h1]at h
  |some v=>
   cases b:((List.range' (i+1) n).mapM λj=>w.cell? (a.add j)) with
   |none=>simp[h1,b]at h
   |some us=>
    simp[h1,b]at h
    have:=BY n (i+1) us b
    simp[cv,h1,this,h]
theorem BZ{w:J}{base:Nat}{a:ax}{n:Nat}{vs:O Y}(h:w.cells? base a n=some vs):cv w a 0 n=some vs:=by
 unfold World.cells? at h;split at h
 .rw[uD]at h
  exact BY n 0 vs h
 .cases h
section
variable {H:Type}{enc:TypeId×Y->H}{P:Program}{w:J}
theorem s0:∀ (fuel:Nat) (t:TypeId) (cs:O Y) (x:DataW H×O MemPlace),DataW.trod enc P w 0 (λ_=>true) true fuel t cs=some x->hF P w fuel t cs
 |0,_,_,_,h=>by cases h
 |fuel+1,t,cs,x,h=>by
  simp only[DataW.trod]at h
  simp only[hF]
  cases ht:P.underlying t with
  |none=>trivial
  |some d=>
   rw[ht]at h
   cases d<;>try trivial
   case bool=>
    match cs,h with
    | [.bool b],_=>exact⟨b,rfl⟩
   case int k=>
    match cs,h with
    | [.int r n],h=>
     simp only at h
     split at h
     .rename_i g
      obtain⟨rfl,m⟩:=g
      exact⟨n,rfl,by simpa[Lit.wf] using m⟩
     .cases h
   case string=>
    match cs,h with
    | [.string s],h=>
     simp only at h
     split at h
     .rename_i g;exact⟨s,rfl,g⟩
     .cases h
   case pointer e=>
    match cs,h with
    | [.pointer none],_=>exact .inl rfl
    | [.pointer (some a)],h=>
     simp only[Option.map_eq_some_iff]at h
     obtain⟨y,c,_⟩:=h
     obtain⟨vs,h1,l⟩:=Option.bind_eq_some_iff.1 c
     exact .inr ⟨a,vs,rfl,BZ h1,s0 fuel e vs _ l⟩
   case slice e=>
    match cs,h with
    | [.slice none 0 0],_=>exact⟨⟨none,0,0⟩,rfl,a_ _,cw _,(λ_=>rfl),(λa o=>by cases o)⟩
    | [.slice (some a) len cap],h=>
     simp only at h
     split at h
     .rename_i g
      refine⟨⟨some a,len,cap⟩,rfl,g.2.1,g.2.2,(λh0=>by cases h0),λa' p i hi=>?_⟩
      obtain⟨elems,he,h⟩:=Option.bind_eq_some_iff.1 h
      simp only[if_true,Option.map_eq_some_iff]at h
      obtain⟨rest,q,_⟩:=h
      cases p
      have key:∃y,((w.cells? 0 (a.add (i*P.cellsOf e)) (P.cellsOf e)).bind (DataW.trod enc P w 0 (λ_=>true) true fuel e))=some y:=by
       rcases dA i len with j|j
       .exact mapM_some he i (iV.2 j)
       .obtain⟨y,c⟩:=mapM_some q (i-len) (iV.2 (by simp only at hi;omega))
        rw[show len+(i-len)=i from I]at c;exact⟨y,c⟩
      obtain⟨y,c⟩:=key;obtain⟨vs,h1,l⟩:=Option.bind_eq_some_iff.1 c;exact⟨vs,BZ h1,s0 fuel e vs _ l⟩
     .cases h
   case struct fs=>
    simp only at h;split at h
    .rename_i j
     refine⟨j,λf hf=>?_⟩;simp only[Option.map_eq_some_iff]at h;obtain⟨ys,c,_⟩:=h;obtain⟨y,c⟩:=mapM_some c f (by simpa using hf);exact s0 fuel _ _ _ c
    .cases h
   case array n e=>
    simp only at h;split at h
    .rename_i j
     refine⟨j,λi hi=>?_⟩;simp only[Option.map_eq_some_iff]at h;obtain⟨ys,c,_⟩:=h;obtain⟨y,c⟩:=mapM_some c i (iV.2 hi);exact s0 fuel _ _ _ c
    .cases h
def nd(P:Program)(w:J)(t:TypeId)(v:Y):Prop:=
 match P.underlying t with
 |some (.struct _)=>∃cs:Array Y,v=.agg cs/\∃fuel,hF P w fuel t cs.toList
 |some (.array _ _)=>∃cs:Array Y,v=.agg cs/\∃fuel,hF P w fuel t cs.toList
 |_=>∃fuel,hF P w fuel t [v]
theorem B0{r:Reach}{a:Nat}{t:TypeId}{v:Y}{d:DataW H}{ps:O MemPlace}(jz:Value.okWide P w r a t v)
 (hd:DataW.Trod enc P w 0 (λ_=>true) true t v d ps):nd P w t v:=by
 obtain⟨fuel,hd⟩:=hd;have h1:=s0 fuel t _ _ hd;unfold nd;unfold Value.okWide at jz;have b:(∀cs,v≠ .agg cs)->v.cells.toList=[v]:=λh=>by cases v<;>first|rfl|exact absurd rfl (h _)
 cases ht:P.underlying t with
 |none=>
  rw[ht]at jz
  cases fuel with
  |zero=>cases hd
  |succ f=>exact⟨1,by simp[hF,ht]⟩
 |some c=>
  rw[ht]at jz
  cases c
  case struct fs=>obtain⟨cs,rfl,_,_⟩:=jz;exact⟨cs,rfl,fuel,h1⟩
  case array n e=>obtain⟨cs,rfl,_,_⟩:=jz;exact⟨cs,rfl,fuel,h1⟩
  all_goals
   refine⟨fuel,?_⟩;rw[←b]
   .exact h1
   .rintro cs rfl
    simp[Cell.okWide,Cell.ok,ht]at jz
theorem B1{w w':J}(h:aa (λ_=>False) w w'):Below w w w':=
 ⟨h.os,h.tape,h.output,h.size,λk a=>h.block k a (λh=>h)⟩
theorem Gk{f:Func}{s:ChangeSpec}{apart fresh handsOn again:ag}{W W':J}{args:Array Y}{T:TypeId}{ds gs:O (DataW H)}{before pa fj:O MemPlace}
 (cz:DataW.Whole enc P f.params.toList s.vars apart W args.toList ds gs before) (d:P.underlying T=some .bool) (e:f.resultTypes= #[T])
 (hs:s.fn H (ds++gs)={results:=[.lit (.bool true)],args:=ds})
 (vc:∀sp:Nat->ag,(∀p∈before,sp p.block=true)->DataW.TrodAll enc P W' 0 sp true f.params.toList args.toList ds pa)
 (l:∀sp:Nat->ag,(∀p∈before,sp p.block=true)->DataW.TrodVars enc P W' sp s.vars [] fj)
 (c:before=pa++fj) (m:aa (λ_=>False) W W'):
 s.post enc P f apart fresh handsOn again W args (.bool true) W':=by
 have g:=B1 m;have aB:∀p∈before,p.block<W.heap.size:=λp a=>cz.lt p a;have hold:∀p∈before,(λb=>decide (b<W.heap.size)) p.block=true:=λp a=>by simpa using aB p a
 have h:∀ (b:Nat) (sp:Nat->ag) (hd:ag),DataW.TrodAll enc P W' b sp hd f.resultTypes.toList ((Value.bool true).resultList f.resultTypes.size) (s.fn H (ds++gs)).results []:=by
  intro b sp hd;rw[hs,e];exact trodAll_cons_mk (shut_bool d true) trodAll_mk0
 have i:∀sp:Nat->ag,(∀p∈before,sp p.block=true)->DataW.TrodAll enc P W' 0 sp true f.params.toList args.toList (s.fn H (ds++gs)).args pa:=by
  intro sp fp;rw[hs];exact vc sp fp
 have j:∀sp:Nat->ag,(∀p∈before,sp p.block=true)->DataW.TrodVars enc P W' sp s.vars (s.fn H (ds++gs)).vars fj:=by
  intro sp fp;rw[hs];exact l sp fp
 refine⟨ds,gs,before,[],pa,fj,cz,h _ _ _,i _ hold,j _ hold,World.keptBut_mono (λp a=>⟨a,?_⟩) (g.frame (· ∈before)),λ_=>?_⟩
 .rw[c,cE]at a
  exact Or.inr a
 .obtain⟨_,_,_,_,_,n,o⟩:=cz
  refine⟨ok_one e rfl (okWide_bool_mk d _),_,_,([]++pa)++fj,⟨[]++pa,fj,trodAll_append (i _ (λ_ _=>rfl)) (h _ _ _),j _ (λ_ _=>rfl),rfl,?_,?_⟩,?_⟩
  .intro b off a
   have k:MemPlace.cell b off∈before:=by rw[c];simpa using a
   rw[g.frozen (aB _ k)];exact n b off k
  .intro q
   have:=o q;rw[c]at this;simpa using this
  .intro p a _
   rw[c];simpa using a
theorem B2{t:TypeId}(a:laidOutB P=true)(b:P.readableRec t=true)(c:t<P.types.size){W W':J}{v:Y}{d:DataW H}{ps:O MemPlace}{sp:Nat->ag}
 (h:DataW.Trod enc P W 0 (λ_=>true) true t v d ps) (e:aa (λ_=>False) W W') (aB:∀x∈ps,x.block<W.heap.size) (hs:∀p∈ps,sp p.block=true):
 DataW.Trod enc P W' 0 sp true t v d ps:=
 WideElems.Trod_stays a b c h (λx hx=>(B1 e).same (aB x hx)) hs
end
end aU
namespace aU
open Go Go.RowKit
def aI(P:Program)(f:FuncId)(args:Array Y)(w:J)(Q:U0):Prop:=
 Calls P f args w λe w1=>∃v,e=.returned v/\Q v w1
theorem aI.use{P:Program}{f:FuncId}{args:Array Y}{w:J}{Q:U0}{R:Ending->U2}
 (h:aI P f args w Q) (k:∀v w',Q v w'->R (.returned v) w'):Calls P f args w R:=
 Calls.mono h λ_ _ ⟨v,a,b⟩=>by subst a;exact k v _ b
theorem aI.mono{P:Program}{f:FuncId}{args:Array Y}{w:J}{Q R:U0}
 (h:aI P f args w Q) (k:∀v w',Q v w'->R v w'):aI P f args w R:=
 aI.use h λv _ a=>⟨v,rfl,k _ _ a⟩
abbrev Ext(w w':J):Prop:=aa (λ_=>False) w w'
theorem aa.da{W:U1}{w w':J}(h:Ext w w'):aa W w w':=aa.mono h λ_ _ h=>h.elim
theorem aa.drew{W:U1}{w w':J}(h:aa W w w'):aa W w w'.drew:=⟨h.os,h.tape,h.output,h.size,h.block⟩
theorem aa.alloc{W:U1}{w w':J}(h:aa W w w')(o:Obj):aa W w (w'.alloc o):=
 h.trans ⟨rfl,rfl,rfl,by simp,λk a _=>Below.heap_alloc _ _ _ a⟩
theorem aa.set{W:U1}{w w':J}(h:aa W w w'){A:ax}(b:A.block<w.heap.size->W A.block)(v:Y):aa W w (w'.setCell A v):=
 ⟨h.os,h.tape,h.output,by simp only[World.setCell,Array.size_modify];exact h.size,λk a cz=>by
  rw[Below.heap_setCell _ _ _ _ (λe=>cz (by subst e;exact b a))];exact h.block k a cz⟩
theorem aa.setCells{W:U1}{w:J}{A:ax}(a:A.block<w.heap.size->W A.block):∀ (vs:O Y) (i:Nat) {w':J},aa W w w'->aa W w (setCells w' A i vs)
 | [],_,_,h=>h
 |v::vs,i,w',h=>by
  have b:(A.add i).block=A.block:=by unfold Addr.add;split<;>rfl
  exact aa.setCells a vs (i+1) (aa.set h (by rw[b];exact a) v)
theorem Gl(w:J):w.drew.heap=w.heap:=rfl
theorem aw(b o n:Nat):(Addr.mk b o none).add n=⟨b,o+n,none⟩:=by
 unfold Addr.add;split
 .rename_i h;subst h;rfl
 .rfl
def bp(w:J)(b:Nat)(c:Array Y)(T:TypeId):Prop:=w.heap[b]? =some (.cells c T (0,0))
section
variable {w w':J}{b i:Nat}{c:Array Y}{T:TypeId}
theorem bp.lt(h:bp w b c T):b<w:=(mi.1 h).1
theorem bp.cell(h:bp w b c T)(i:Nat):w.cell? ⟨b,i,none⟩=c[i]? :=by
 unfold bp at h;simp[World.cell?,h]
theorem bp.frozen(h:bp w b c T)(A:ax)(ak:A.block=b):w.frozen? A=false:=by
 unfold bp at h;simp[World.frozen?,ak,h]
theorem bp.ab{W:U1}(h:bp w b c T)(hc:aa W w w')(a:¬W b):bp w' b c T:=by
 have d:=h.lt;unfold bp at h⊢;rw[hc.block b d a];exact h
theorem bp.ext(h:bp w b c T)(hc:Ext w w'):bp w' b c T:=h.ab hc id
theorem bp.drew(h:bp w b c T):bp w.drew b c T:=h
theorem bp.new(w:J)(c:Array Y)(T:TypeId):bp (w.alloc (.cells c T)) w c T:=by
 show(w.heap.push (.cells c T))[w.heap.size]? =some (.cells c T (0,0));simp
theorem bp.set(h:bp w b c T)(i:Nat)(v:Y):bp (w.setCell ⟨b,i,none⟩ v) b (c.setIfInBounds i v) T:=by
 unfold bp at h⊢;simp[World.setCell,uC,h]
theorem bp.inj{c':Array Y}{aq:TypeId}(h:bp w b c T)(a:bp w b c' aq):c=c'/\T=aq:=by
 unfold bp at h a;rw[h]at a;simpa using a
def g4(c:Array Y)(i:Nat):O Y->Array Y
 | []=>c
 |v::vs=>g4 (c.setIfInBounds i v) (i+1) vs
theorem jb:∀ (vs:O Y) (c:Array Y) (i:Nat),(g4 c i vs).size=c.size
 | [],_,_=>rfl
 |v::vs,c,i=>by simp[g4,jb vs]
theorem bp.vd:∀ (vs:O Y) {w:J}{c:Array Y} (i j:Nat),bp w b c T->bp (setCells w ⟨b,i,none⟩ j vs) b (g4 c (i+j) vs) T
 | [],_,_,_,_,h=>h
 |v::vs,w,c,i,j,h=>by
  simp only[setCells,g4,aw]
  have:=bp.vd vs i (j+1) (h.set (i+j) v)
  rw[show i+(j+1)=i+j+1 from I]at this
  exact this
theorem bp.cF(h:bp w b c T)(i:Nat)(vs:O Y)(d:i+vs.length<=c.size)(a:∀v∈vs,Plain v):c5 w ⟨b,i,none⟩ vs:=by
 refine⟨λj e=>?_,a⟩;rw[aw,h.cell,h.frozen _ rfl];have:i+j<c.size:=I
 simp[this]
end
theorem jQ{B:(U2)->Prop}{rest:U2}(a:U2)(h1:∀k:U2,(∀w,a w->k w)->B k)(b:∀w,a w->rest w):aX B rest:=⟨h1 rest b⟩
theorem cx{a:Type}{B:(a->U2)->Prop}{rest:a->U2}(b:a->U2)(h1:∀k:a->U2,(∀x w,b x w->k x w)->B k)(c:∀x w,b x w->rest x w):aX B rest:=⟨h1 rest c⟩
theorem s3{a b:Type}{B:(a->b->U2)->Prop}{rest:a->b->U2}(c:a->b->U2)(h1:∀k:a->b->U2,(∀x y w,c x y w->k x y w)->B k)(d:∀x y w,c x y w->rest x y w):aX B rest:=⟨h1 rest d⟩
theorem Gm{n:Int}(h0:IntKind.u8.min<=n)(h1:n<=IntKind.u8.max):0<=n/\n<=255:=by
 simpa[IntKind.min,IntKind.max,IntKind.signed,IntKind.bits] using And.intro h0 h1
theorem bl{n:Int}(h0: -9223372036854775808<=n)(h1:n<=9223372036854775807):IntKind.i64.wrap n=n:=by
 by_cases h:0<=n
 .exact yp h h1
 .have e:n%18446744073709551616=n+18446744073709551616:=I
  simp[IntKind.wrap,IntKind.signed,IntKind.bits,e];omega
end aU
namespace aU
open Go Go.RowKit
structure Src(sz:Nat)(w:J)(x:U)(xs:O Y):Prop where
 len:xs.length=x.len*sz
 nil:x.a=none->xs=[]
 rd:∀a,x.a=some a->cv w a 0 (x.len*sz)=some xs
def aL(sz:Nat)(T:TypeId)(w:J)(s:U)(vs:O Y):Prop:=
 vs.length=s.len*sz/\s.len<=s.cap/\s.cap<=maxLen/\
 ((s.a=none/\s.cap=0)\/∃b c,s.a=some ⟨b,0,none⟩/\bp w b c T/\c.size=s.cap*sz/\c.toList.take (s.len*sz)=vs)
def ar(s:U)(k:Nat):Prop:=∃A,s.a=some A/\A.block=k
theorem s4{w:J}{A:ax}:∀ {n i:Nat}{vs:O Y},cv w A i n=some vs->vs.length=n
 |0,_,_,h=>by simp[cv]at h;simp[←h]
 |n+1,i,vs,h=>by
  simp only[cv]at h
  cases h1:w.cell? (A.add i) with
  |none=>simp[h1]at h
  |some v=>
   cases a:cv w A (i+1) n with
   |none=>simp[h1,a]at h
   |some us=>
    simp only[h1,a,Option.some.injEq]at h
    subst h
    simp[s4 a]
theorem qO{w:J}{b:Nat}{c:Array Y}{T:TypeId}(h:bp w b c T):∀ (n o i:Nat),o+i+n<=c.size->cv w ⟨b,o,none⟩ i n=some ((c.toList.drop (o+i)).take n)
 |0,o,i,_=>by simp[cv]
 |n+1,o,i,f=>by
  have h1:o+i<c.size:=I
  have a:=qO h n o (i+1) I
  simp only[cv,aw,h.cell,a]
  have d:c[o+i]? =some c[o+i]:=by simp[h1]
  rw[d]
  simp only[Option.some.injEq]
  have e:c.toList.drop (o+i)=c[o+i]::c.toList.drop (o+i+1):=by
   rw[j5 (by simpa using h1)];simp
  rw[e];simp[Nat.add_assoc]
theorem aL.src{sz:Nat}{T:TypeId}{w:J}{s:U}{vs:O Y}(h:aL sz T w s vs):Src sz w s vs:=by
 obtain⟨h1,i,l,g⟩:=h;refine⟨h1,λf=>?_,λa d=>?_⟩
 .obtain⟨_,hc⟩|⟨b,c,e,_⟩:=g
  .have:s.len=0:=I
   rw[this,mj]at h1;exact kN.1 h1
  .rw[f]at e;cases e
 .obtain⟨f,_⟩|⟨b,c,e,j,hs,k⟩:=g
  .rw[f]at d;cases d
  .rw[e]at d
   cases d;have:=qO j (s.len*sz) 0 0 (by rw[hs];simp;exact ml _ i);rw[this];simp[k]
section
variable {P:Program}{w:J}
theorem qP{sz:Nat}{x:U}{xs:O Y}(h:Src sz w x xs):(Builtin.firstCells sz x.len (.slice x.a x.len x.cap)).run P w=.ok xs.toArray w:=by
 cases hx:x.a with
 |none=>rw[h.nil hx];rfl
 |some a=>
  simp only[Builtin.firstCells,loadCells];rw[run_loadCellsFrom _ _ _ _ (h.rd a hx)];simp
theorem B3(a:Nat):∀ (r c:Nat),c<=2*a+1000->Builtin.growBy a r c<=2*a+1000
 |0,c,h=>h
 |r+1,c,h=>by
  simp only[Builtin.growBy]
  split
  .exact h
  .exact B3 a r _ I
theorem B4{a cap:Nat}(h:cap<a):Builtin.nextslicecap a cap<=2*a+1000:=by
 unfold Builtin.nextslicecap;split
 .omega
 .split
  .omega
  .exact B3 a 4 cap I
theorem ve{gw:Array TypeId}{c7 dN lu e:TypeId}{d:TypeDesc}{sz:Nat}{s x:U}{xs:O Y}(h0:gw[0]? =some dN)(h1:gw[1]? =some lu)
 (hs:P.underlying dN=some (.slice e)) (hx:P.underlying lu=some (.slice e)) (he:P.underlying e=some d) (g:P.cellsOf e=sz) (h:Src sz w x xs)
 (c:s.len+x.len<=s.cap) (i:∀a,s.a=some a->c5 w (a.add (s.len*sz)) xs):
 Sem.run P (Builtin.append_ gw c7 #[.slice s.a s.len s.cap,.slice x.a x.len x.cap]) w=
  .ok (.slice s.a (s.len+x.len) s.cap) (match s.a with|some a=>setCells w (a.add (s.len*sz)) 0 xs|none=>w):=by
 have hf:=qP (P:=P) h;have b:=iH (w:=w) he;rw[g]at b
 cases j:s.a with
 |none=>
  simp[Builtin.append_,h0,h1,dh hs,dh hx,b,Builtin.lenOf,c,hf]
 |some a=>
  have f:=i a j;have:=qB (P:=P) (A:=a.add (s.len*sz)) xs 0 w (by simpa using f.1) f.2;simp[Builtin.append_,h0,h1,dh hs,dh hx,b,Builtin.lenOf,c,hf,this]
theorem run_append_grow{gw:Array TypeId}{c7 dN lu e:TypeId}{i:TypeInfo}{z:Y}{sz:Nat}{s x:U}{xs c:O Y}(h0:gw[0]? =some dN)(h1:gw[1]? =some lu)
 (hs:P.underlying dN=some (.slice e)) (hx:P.underlying lu=some (.slice e)) (hi:P.info? e=some i) (hd:(P.underlying e).isSome=true) (k:i.zero=some z) (l:z.cells.size=sz) (m:P.cellsOf e=sz)
 (o:i.bytes≠0) (f:Src sz w x xs) (hold:Src sz w s c) (p:s.cap<s.len+x.len) (r:(2*(s.len+x.len)+1000)*i.bytes<=281474976710656):
 ∃ (b:Nat) (rest:O Y),s.len+x.len<=b/\b<=maxLen/\rest.length=(b-(s.len+x.len))*sz/\
  Sem.run P (Builtin.append_ gw c7 #[.slice s.a s.len s.cap,.slice x.a x.len x.cap]) w=
   .ok (.slice (some ⟨w,0,none⟩) (s.len+x.len) b) (w.drew.alloc (.cells (c++xs++rest).toArray e)):=by
 obtain⟨d,hd⟩:=kp _ hd;have h:=iH (w:=w) hd;rw[m]at h;have t:=B4 p;have Q:Builtin.nextslicecap (s.len+x.len) s.cap*i.bytes<=281474976710656:=fg (ml _ t) r;have R:s.len+x.len<=281474976710656:=by
  have:s.len+x.len<=(2*(s.len+x.len)+1000)*i.bytes:=by
   have:=Nat.mul_le_mul_left (2*(s.len+x.len)+1000) (Nat.one_le_iff_ne_zero.2 o);omega
  omega
 let q:Question:=.appendCap (s.len+x.len) s.cap e
 let b:Nat:=q.cut (w.tape w.drawn q)
 have u:q.forced=false:=rfl;have v:s.len+x.len<=b:=by show s.len+x.len<=s.len+x.len+_;omega
 have A:b<=maxLen:=by
  show s.len+x.len+_%(2^63-(s.len+x.len))<=2^63-1;have:=gu (w.tape w.drawn q) (y:=2^63-(s.len+x.len)) I;omega
 have B:Src sz w.drew x xs:=⟨f.len,f.nil,λa g=>by
  have:=f.rd a g;have hc:aa (λ_=>False) w w.drew:=aa.drew (.refl _ _);exact hc.cv U9 _ _ _ this⟩
 have C:Src sz w.drew s c:=⟨hold.len,hold.nil,λa g=>by
  have:=hold.rd a g;have hc:aa (λ_=>False) w w.drew:=aa.drew (.refl _ _);exact hc.cv U9 _ _ _ this⟩
 have hf:=qP (P:=P) B;have D:=qP (P:=P) C;have E:∀n (w':J),(askRoom n).run P w'=.ok () w':=λn w'=>by unfold askRoom;split<;>rfl
 have F:(choose q).run P w=.ok b w.drew:=by
  show Sem.run P (.choose q .pure) w=_;simp only[Sem.run,u,gr,if_false];rfl
 have j:=λw:J=>nV (w:=w) hi;refine⟨b,(Builtin.zeroCells z.cells (b-(s.len+x.len))).toList,v,A,by simp[Builtin.zeroCells,l],?_⟩;have G:¬(s.len+x.len<=s.cap):=by omega
 have H:¬((s.len+x.len:Nat):Int)>IntKind.i64.max:=by
  simp[IntKind.max,IntKind.signed,IntKind.bits];omega
 have K:¬(281474976710656<Builtin.nextslicecap (s.len+x.len) s.cap*i.bytes):=by omega
 have L:¬Builtin.nextslicecap (s.len+x.len) s.cap*i.bytes>2^48:=by simpa using K
 unfold Builtin.append_;simp only[sr,nL,yg,h0,h1,Sem.run_bind,dh hs,dh hx,Result.andThen,h,Builtin.lenOf,Sem.run_pure,G,if_false,gr,j,H,false_and,L,Bool.not_false,if_true];have M:Sem.run P (choose (.appendCap (s.len+x.len) s.cap e)) w=.ok b w.drew:=F;simp only[M,E,hf,D,zeroValue,j,k,Sem.run_bind,Result.andThen,Sem.run_pure,newRow,newObj,Sem.run];have N:w.drew.heap.size=w:=rfl;rw[N]
 congr 1
 show w.drew.alloc _=w.drew.alloc _
 congr 2
 simp
theorem vf:∀ (vs:O Y) (c:Array Y) (i:Nat),i+vs.length<=c.size->(g4 c i vs).toList.take (i+vs.length)=c.toList.take i++vs
 | [],c,i,_=>by simp[g4]
 |v::vs,c,i,h=>by
  simp only[eE]at h
  simp only[g4]
  have:=vf vs (c.setIfInBounds i v) (i+1) (by simpa using (by omega:i+1+vs.length<=c.size))
  rw[show i+(v::vs).length=i+1+vs.length by simp;omega,this]
  have hi:i<c.size:=I
  have a:(c.setIfInBounds i v).toList.take (i+1)=c.toList.take i++ [v]:=by
   rw[gv (by simpa using hi)];have b:(List.take i c.toList).set i v=List.take i c.toList:=by
    apply List.set_eq_of_length_le;simp only[cQ];omega
   simp[List.take_set,b]
  rw[a];simp
theorem Gn{gw:Array TypeId}{c7 dN lu e:TypeId}{i:TypeInfo}{z:Y}{sz:Nat}{s x:U}{xs vs:O Y}(h0:gw[0]? =some dN)(h1:gw[1]? =some lu)
 (hs:P.underlying dN=some (.slice e)) (hx:P.underlying lu=some (.slice e)) (hi:P.info? e=some i) (hd:(P.underlying e).isSome=true) (B:i.zero=some z) (C:z.cells.size=sz) (r:P.cellsOf e=sz)
 (D:i.bytes≠0) (f:Src sz w x xs) (t:aL sz e w s vs) (E:∀v∈xs,Plain v) (F:(2*(s.len+x.len)+1000)*i.bytes<=281474976710656):
 ∃ (g:U) (w':J),Sem.run P (Builtin.append_ gw c7 #[.slice s.a s.len s.cap,.slice x.a x.len x.cap]) w=.ok (.slice g.a g.len g.cap) w'/\
  aL sz e w' g (vs++xs)/\g.len=s.len+x.len/\aa (ar s) w w'/\(∀k,ar g k->ar s k\/w<=k):=by
 have hold:=t.src;obtain⟨ao,S,G,u⟩:=t;by_cases h:s.len+x.len<=s.cap
 .have H:∀a,s.a=some a->c5 w (a.add (s.len*sz)) xs:=by
   intro a j;obtain⟨n,_⟩|⟨b,c,l,o,m,y⟩:=u
   .rw[n]at j;cases j
   .rw[l]at j
    cases j;rw[aw];refine o.cF _ _ ?_ E;rw[m,f.len,cT,←jw];exact ml _ h
  obtain⟨d,hd⟩:=kp _ hd;have p:=ve (c7:=c7) h0 h1 hs hx hd r f h H;refine⟨⟨s.a,s.len+x.len,s.cap⟩,_,p,?_,rfl,?_,λk q=>.inl q⟩
  .refine⟨by simp[ao,f.len,jw],h,G,?_⟩
   obtain⟨n,hc⟩|⟨b,c,l,o,m,y⟩:=u
   .exact .inl ⟨n,hc⟩
   .refine .inr ⟨b,g4 c (s.len*sz) xs,l,?_,by rw[jb];exact m,?_⟩
    .simp only[l,aw]
     have:=bp.vd (T:=e) xs (0+s.len*sz) 0 o;simpa using this
    .have K:s.len*sz+xs.length<=c.size:=by
      rw[m,f.len,←jw];exact ml _ h
     have:=vf xs c (s.len*sz) K;rw[f.len,←jw]at this;rw[this,y]
  .cases L:s.a with
   |none=>exact .refl _ _
   |some a=>
    refine aa.setCells (λ_=>?_) xs 0 (.refl _ _);exact⟨a,L,by unfold Addr.add;split<;>rfl⟩
 .obtain⟨M,rest,N,Q,R,p⟩:=run_append_grow (c7:=c7) h0 h1 hs hx hi hd B C r D f hold I F
  refine⟨⟨some ⟨w,0,none⟩,s.len+x.len,M⟩,_,p,?_,rfl,aa.alloc (aa.drew (.refl _ _)) _,?_⟩
  .refine⟨by simp[ao,f.len,jw],N,Q,.inr ⟨w,(vs++xs++rest).toArray,rfl,bp.new w.drew _ _,?_,?_⟩⟩
   .simp[ao,f.len,R]
    rw[←jw,←jw]
    congr 1
    omega
   .have:(vs++xs).length=(s.len+x.len)*sz:=by simp[ao,f.len,jw]
    show List.take ((s.len+x.len)*sz) (vs++xs++rest).toArray.toList=vs++xs;rw[←this];exact List.take_left
  .rintro k ⟨A,ak,q⟩
   cases ak;exact .inr (by simpa using q▸a_ _)
end
theorem aL.ab{sz:Nat}{T:TypeId}{w w':J}{s:U}{vs:O Y}{W:U1}(h:aL sz T w s vs)(hc:aa W w w')(e:∀k,ar s k->¬W k):aL sz T w' s vs:=by
 obtain⟨h1,f,g,a⟩:=h;refine⟨h1,f,g,?_⟩;obtain a|⟨b,c,d,i,j,l⟩:=a
 .exact .inl a
 .exact .inr ⟨b,c,d,i.ab hc (e b ⟨_,d,rfl⟩),j,l⟩
theorem Src.ab{sz:Nat}{w w':J}{s:U}{vs:O Y}{W:U1}(h:Src sz w s vs)(hc:aa W w w')(c:∀k,ar s k->¬W k):Src sz w' s vs:=
 ⟨h.len,h.nil,λa b=>hc.cv (c _ ⟨a,b,rfl⟩) _ _ _ (h.rd a b)⟩
theorem aL.lt{sz:Nat}{T:TypeId}{w:J}{s:U}{vs:O Y}(h:aL sz T w s vs):∀k,ar s k->k<w:=by
 rintro k ⟨A,ak,rfl⟩;obtain⟨_,_,_,a⟩:=h;obtain⟨d,_⟩|⟨b,c,e,f,_⟩:=a
 .rw[d]at ak;cases ak
 .rw[e]at ak;cases ak;exact f.lt
theorem aL.cell{T:TypeId}{w:J}{s:U}{vs:O Y}(h:aL 1 T w s vs){i:Nat}{v:Y}(d:vs[i]? =some v):
 ∃b c,s.a=some ⟨b,0,none⟩/\bp w b c T/\c.size=s.cap/\i<s.len/\i<c.size/\w.cell? ⟨b,i,none⟩=some v/\c.toList.take s.len=vs:=by
 obtain⟨h1,k,l,g⟩:=h;have hi:i<s.len:=by
  have:=(jK.1 d).1;omega
 obtain⟨_,hc⟩|⟨b,c,j,e,f,ht⟩:=g
 .omega
 .rw[eY]at f ht
  refine⟨b,c,j,e,f,hi,I,?_,ht⟩;rw[e.cell];rw[←ht,su]at d;rw[if_pos hi]at d;simpa using d
theorem aL.set{T:TypeId}{w:J}{s:U}{vs:O Y}{b i:Nat}(h:aL 1 T w s vs)(d:s.a=some ⟨b,0,none⟩)(v:Y):
 aL 1 T (w.setCell ⟨b,i,none⟩ v) s (vs.set i v):=by
 obtain⟨h1,f,g,j⟩:=h;refine⟨by simpa using h1,f,g,.inr ?_⟩;obtain⟨k,_⟩|⟨n,c,e,l,m,ht⟩:=j
 .rw[k]at d;cases d
 .rw[d]at e
  cases e;refine⟨b,_,d,l.set i v,by simpa using m,?_⟩;rw[←ht];simp[List.take_set]
def B5(P:Program)(dN e:TypeId)(sz bytes:Nat):ag:=
 match P.underlying dN,P.info? e,P.underlying e with
 |some (.slice a),some i,some _=>a==e&&(match i.zero with|some z=>z.cells.size==sz|none=>false)&&P.cellsOf e==sz&&i.bytes==bytes&&bytes !=0
 |_,_,_=>false
structure hY(P:Program)(dN e:TypeId)(sz bytes:Nat):Prop where
 h:B5 P dN e sz bytes=true
theorem hY.out{P:Program}{dN e:TypeId}{sz bytes:Nat}(h:hY P dN e sz bytes):
 P.underlying dN=some (.slice e)/\∃i z,P.info? e=some i/\(P.underlying e).isSome=true/\i.zero=some z/\z.cells.size=sz/\P.cellsOf e=sz/\i.bytes=bytes/\bytes≠0:=by
 have h:=h.h;unfold B5 at h;split at h
 .rename_i l i d h1 b c
  simp only[dM,gP,bne_iff_ne]at h;obtain⟨⟨⟨⟨rfl,a⟩,f⟩,g⟩,j⟩:=h;split at a
  .rename_i z k
   exact⟨h1,i,z,b,by simp[c],k,by simpa using a,f,g,j⟩
  .cases a
 .cases h
theorem hY.append{P:Program}{w:J}{dN e c7:TypeId}{sz bytes:Nat}{s x:U}{xs vs:O Y}(h:hY P dN e sz bytes)
 (c:Src sz w x xs) (d:aL sz e w s vs) (f:∀v∈xs,Plain v) (g:(2*(s.len+x.len)+1000)*bytes<=281474976710656):
 ∃ (b:U) (w':J),Sem.run P (Builtin.append_ #[dN,dN] c7 #[.slice s.a s.len s.cap,.slice x.a x.len x.cap]) w=.ok (.slice b.a b.len b.cap) w'/\
  aL sz e w' b (vs++xs)/\b.len=s.len+x.len/\aa (ar s) w w'/\(∀k,ar b k->ar s k\/w<=k):=by
 obtain⟨h1,i,z,j,l,m,n,o,rfl,p⟩:=h.out;exact Gn rfl rfl h1 h1 j l m n o p c d f g
theorem Src.new{sz:Nat}{T:TypeId}(w:J)(xs:O Y)(n:Nat)(b:xs.length=n*sz):Src sz (w.alloc (.cells xs.toArray T)) ⟨some ⟨w,0,none⟩,n,n⟩ xs:=by
 refine⟨b,(λh=>by cases h),λa c=>?_⟩
 cases c;rw[qO (bp.new w xs.toArray T) _ _ _ (by simp[b])];simp[←b]
theorem aL.new{sz:Nat}{T:TypeId}(w:J)(xs:O Y)(n:Nat)(a:xs.length=n*sz)(b:n<=maxLen):aL sz T (w.alloc (.cells xs.toArray T)) ⟨some ⟨w,0,none⟩,n,n⟩ xs:=by
 refine⟨a,a_ _,b,.inr ⟨_,_,rfl,bp.new w _ _,by simp[a],?_⟩⟩;show List.take (n*sz) xs=xs;rw[←a,gD]
theorem aL.none(sz:Nat)(T:TypeId)(w:J):aL sz T w ⟨.none,0,0⟩ []:=⟨by simp,a_ _,by decide,.inl ⟨rfl,rfl⟩⟩
theorem gE(k:Nat):¬ar ⟨.none,0,0⟩ k:=by rintro⟨A,ak,_⟩;cases ak
theorem hZ{A:ax}{n m k:Nat}:ar ⟨some A,n,m⟩ k↔A.block=k:=⟨λ⟨B,a,h⟩=>by cases a;exact h,λh=>⟨_,rfl,h⟩⟩
theorem Src.alloc{sz:Nat}{w:J}{s:U}{vs:O Y}(h:Src sz w s vs)(o:Obj):Src sz (w.alloc o) s vs:=h.ab (W:=λ_=>False) (aa.alloc (.refl _ _) o) (λ_ _ h=>h)
theorem aL.ext{sz:Nat}{T:TypeId}{w w':J}{s:U}{vs:O Y}(h:aL sz T w s vs)(hc:Ext w w'):aL sz T w' s vs:=h.ab hc λ_ _ h=>h
theorem Src.ext{sz:Nat}{w w':J}{s:U}{vs:O Y}(h:Src sz w s vs)(hc:Ext w w'):Src sz w' s vs:=h.ab hc λ_ _ h=>h
theorem hY.push{P:Program}{w:J}{dN e c7:TypeId}{sz bytes:Nat}{s:U}{vs xs:O Y}(h:hY P dN e sz bytes)(hx:xs.length=sz)
 (c:aL sz e w s vs) (d:∀v∈xs,Plain v) (f:(2*(s.len+1)+1000)*bytes<=281474976710656):
 ∃ (b:U) (w':J),Sem.run P (Builtin.append_ #[dN,dN] c7 #[.slice s.a s.len s.cap,.slice (some ⟨w.heap.size,0,none⟩) 1 1]) (w.alloc (.cells xs.toArray e))=.ok (.slice b.a b.len b.cap) w'/\
  aL sz e w' b (vs++xs)/\b.len=s.len+1/\aa (ar s) w w'/\(∀k,ar b k->ar s k\/w.heap.size<=k):=by
 have hc:Ext w (w.alloc (.cells xs.toArray e)):=aa.alloc (.refl _ _) _;obtain⟨b,w',h1,g,i,j,l⟩:=h.append (c7:=c7) (Src.new (T:=e) w xs 1 (by simpa using hx)) (c.ext hc) d f;exact⟨b,w',h1,g,i,(aa.da hc).trans j,λk m=>(l k m).imp id (λh=>by simp at h;omega)⟩
theorem hY.clone{P:Program}{w:J}{dN e c7:TypeId}{sz bytes:Nat}{x:U}{xs:O Y}(h:hY P dN e sz bytes)
 (n:Src sz w x xs) (r:∀v∈xs,Plain v) (t:(2*x.len+1000)*bytes<=281474976710656):
 ∃ (f:U) (w':J),Sem.run P (Builtin.append_ #[dN,dN] c7 #[.slice (some ⟨w,0,none⟩) 0 0,.slice x.a x.len x.cap]) (w.alloc (.cells #[] e))=.ok (.slice f.a f.len f.cap) w'/\
  aL sz e w' f xs/\f.len=x.len/\Ext w w'/\(∀k,ar f k->w<=k)/\f.a.isSome=true:=by
 have u:=aL.new (sz:=sz) (T:=e) w [] 0 U9 (by decide);have o:=n.alloc (.cells #[] e);obtain⟨f,w',h1,j,p,g,y⟩:=h.append (c7:=c7) o u r (by simpa using t);refine⟨f,w',h1,by simpa using j,by simpa using p,?_,λk l=>?_,?_⟩
 .refine⟨g.os.trans rfl,g.tape.trans rfl,g.output.trans rfl,?_,λk l _=>?_⟩
  .have:=g.size;simp at this;omega
  .rw[g.block k (by simp;omega) (by rintro⟨A,ak,h⟩;cases ak;simp at h;omega)]
   exact Below.heap_alloc _ _ _ l
 .rcases y k l with ⟨A,ak,h⟩|h
  .cases ak;simp at h;omega
  .simp at h;omega
 .obtain⟨_,i,z,G,B,H,I,C,rfl,K⟩:=h.out
  have m:=j.2.2.2;rcases m with ⟨D,hc⟩|⟨b,c,m,_⟩
  .
   exfalso;have L:=j.2.1;have q:x.len=0:=by simp at p;omega
   have E:xs=[]:=kN.1 (by rw[n.len,q,mj]);obtain⟨d,hd⟩:=kp _ B;have:=ve (P:=P) (w:=w.alloc (.cells #[] e)) (gw:= #[dN,dN]) (c7:=c7) (s:=⟨some ⟨w,0,Option.none⟩,0,0⟩) rfl rfl h.out.1 h.out.1 hd C o (by simp[q]) (λa _=>by
    rw[E];exact⟨λi hi=>by simp at hi,λv F=>by simp at F⟩)
   rw[this]at h1;simp only[Result.ok.injEq,Value.slice.injEq]at h1;rw[D]at h1
   cases h1.1.1
  .rw[m];rfl
theorem Gp(k:IntKind)(ns:O Int):∀v∈ns.map (Value.int k),Plain v:=by
 intro v a;obtain⟨n,_,rfl⟩:=df.1 a;trivial
theorem aL.at{T:TypeId}{w:J}{s:U}{vs:O Y}(h:aL 1 T w s vs){i:Nat}{v:Y}(g:vs[i]? =some v):
 ∃A:ax,s.a=some A/\((0:Int)<=(i:Int)/\(i:Int)<((s.len:Nat):Int))/\w.cell? (A.add (Int.toNat (i:Int)*1))=some v/\w.frozen? (A.add (Int.toNat (i:Int)*1))=false/\
  ar s (A.add (Int.toNat (i:Int)*1)).block/\∀d,aL 1 T (w.setCell (A.add (Int.toNat (i:Int)*1)) d) s (vs.set i d):=by
 obtain⟨b,c,f,j,k,hi,l,hc,_⟩:=h.cell g;have e:(Addr.mk b 0 Option.none).add (Int.toNat (i:Int)*1)=⟨b,i,Option.none⟩:=by rw[eY,cS,aw,cT]
 exact⟨_,f,⟨I,I⟩,by rw[e];exact hc,by rw[e];exact j.frozen _ rfl,by rw[e];exact⟨_,f,rfl⟩,λd=>by rw[e];exact h.set f d⟩
end aU
namespace aU
open Go Go.RowKit
def B6(ns:O Int):ByteArray:=ns.foldl (λr n=>r.push (UInt8.ofNat n.toNat)) ByteArray.empty
theorem Gq{P:Program}{w:J}{src dst e:TypeId}{s:U}{ns:O Int}(hs:P.underlying src=some (.slice e))(he:P.underlying e=some (.int .u8))(hd:P.underlying dst=some .string)
 (h:Src 1 w s (ns.map (.int .u8))):Sem.run P (convert src dst (.slice s.a s.len s.cap)) w=.ok (.string (B6 ns)) w:=by
 rw[run_convert_bytes_string w src dst e s.a s.len s.cap hs he hd]
 cases b:s.a with
 |none=>
  have:=h.nil b;have d:ns=[]:=by simpa using this
  subst d;rfl
 |some A=>
  have c:=h.rd A b;rw[eY]at c;exact run_bytesToString w A s.len s.cap ns (by
   unfold loadCells;rw[run_loadCellsFrom _ _ _ _ c];simp)
theorem B7{P:Program}{e:TypeId}{v:Y}(a:((P.info? e).bind (·.zero)).map (·.cells)=some #[v])(hc:P.cellsOf e=1)(n:Nat):ie P e n=(List.replicate n v).toArray:=by
 unfold ie;rw[hc]
 cases hi:(P.info? e).bind (·.zero) with
 |none=>rw[hi]at a;cases a
 |some z=>
  rw[hi]at a;simp only[mX,Option.some.injEq]at a;simp only[sw,a,eY];apply Array.ext
  .simp
  .intro i h1 b
   have c:n≠0:=by
    intro h;subst h;simp at b
   simp[c,Nat.mod_one]
structure n2(P:Program)(w:J)(e:TypeId)(s:U):Prop where
 le:s.len<=s.cap
 cap:s.cap<=maxLen
 nil:s.a=none->s.cap=0
 cell:∀a,s.a=some a->∀i,i<s.cap->∃vs,cv w (a.add (i*P.cellsOf e)) 0 (P.cellsOf e)=some vs/\∃fuel,hF P w fuel e vs
section
variable {P:Program}{w:J}{T:TypeId}{fuel:Nat}{cs:O Y}
theorem n3{k:IntKind}(h:hF P w fuel T cs)(a:P.underlying T=some (.int k)):∃n:Int,cs=[.int k n]/\k.min<=n/\n<=k.max:=by
 cases fuel with
 |zero=>cases h
 |succ f=>simpa only[hF,a] using h
theorem vg{e:TypeId}(h:hF P w fuel T cs)(b:P.underlying T=some (.slice e)):∃s:U,cs=[.slice s.a s.len s.cap]/\n2 P w e s:=by
 cases fuel with
 |zero=>cases h
 |succ f=>
  simp only[hF,b]at h;obtain⟨s,h0,h1,c,d,g⟩:=h;exact⟨s,h0,h1,c,d,λa j i hi=>by
   obtain⟨vs,k,l⟩:=g a j i hi;exact⟨vs,k,f,l⟩⟩
theorem yL{fs:Array Field}(h:hF P w fuel T cs)(a:P.underlying T=some (.struct fs)):cs.length=P.cellsOf T/\∀f∈fs,∃fuel,hF P w fuel f.type ((cs.drop f.offset).take (P.cellsOf f.type)):=by
 cases fuel with
 |zero=>cases h
 |succ f=>
  simp only[hF,a]at h;exact⟨h.1,λg hg=>⟨f,h.2 g hg⟩⟩
theorem n2.of{e:TypeId}{v:Y}(h:nd P w T v)(b:P.underlying T=some (.slice e)):∃s:U,v=.slice s.a s.len s.cap/\n2 P w e s:=by
 simp only[nd,b]at h;obtain⟨fuel,h⟩:=h;obtain⟨s,h1,c⟩:=vg h b;exact⟨s,by simpa using h1,c⟩
end
theorem qQ{w:J}{A:ax}:∀ {n i:Nat}{vs:O Y}{j:Nat}{v:Y},cv w A i n=some vs->vs[j]? =some v->w.cell? (A.add (i+j))=some v
 |0,i,vs,j,v,h,a=>by simp[cv]at h;subst h;simp at a
 |n+1,i,vs,j,v,h,a=>by
  simp only[cv]at h
  cases h1:w.cell? (A.add i) with
  |none=>simp[h1]at h
  |some u=>
   cases b:cv w A (i+1) n with
   |none=>simp[h1,b]at h
   |some us=>
    simp only[h1,b,Option.some.injEq]at h
    subst h
    cases j with
    |zero=>simp at a;subst a;exact h1
    |succ j=>
     have:=qQ b (j:=j) (by simpa using a)
     rw[show i+(j+1)=i+1+j from I]
     exact this
theorem Src.at{w:J}{s:U}{vs:O Y}(h:Src 1 w s vs){i:Nat}{v:Y}(b:vs[i]? =some v):
 ∃A:ax,s.a=some A/\((0:Int)<=(i:Int)/\(i:Int)<((s.len:Nat):Int))/\w.cell? (A.add (Int.toNat (i:Int)*1))=some v:=by
 have hi:i<vs.length:=(jK.1 b).1;have d:=h.len
 cases c:s.a with
 |none=>have:=h.nil c;subst this;simp at hi
 |some A=>
  have:=qQ (h.rd A c) b;exact⟨A,rfl,⟨I,I⟩,by rw[eY,cS];simpa using this⟩
end aU
