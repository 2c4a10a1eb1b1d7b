/- What a Go program of the model must show, as text that can be read; sound against the kit. -/
import Derived.Below
import Derived.KernelRfl
import Derived.Laws.BytesString
import Derived.OpenShut
import Derived.OrdersHeld
import Derived.ProofKit
import Derived.StillTail
import Derived.Tactics
import Derived.WalkKit
import Derived.WideKeyArgs
namespace Go
theorem bt:type_of% @Nat.le_refl:=@Nat.le_refl
theorem b_:type_of% @decide_eq_true_eq:=@decide_eq_true_eq
theorem cl:type_of% @of_decide_eq_true:=@of_decide_eq_true
theorem cw:type_of% @of_decide_eq_false:=@of_decide_eq_false
theorem cz:type_of% @List.length_take:=@List.length_take
theorem cF:type_of% @Nat.zero_add:=@Nat.zero_add
theorem cG:type_of% @List.length_append:=@List.length_append
theorem cM:type_of% @List.append_assoc:=@List.append_assoc
theorem cR:type_of% @Nat.zero_le:=@Nat.zero_le
theorem cW:type_of% @List.getElem_mem:=@List.getElem_mem
theorem c1:type_of% @List.mem_append:=@List.mem_append
theorem de:type_of% @List.mem_cons:=@List.mem_cons
theorem dh:type_of% @Bool.and_eq_true:=@Bool.and_eq_true
theorem di:type_of% @Int.toNat_natCast:=@Int.toNat_natCast
theorem dk:type_of% @List.length_map:=@List.length_map
theorem dr:type_of% @List.take_of_length_le:=@List.take_of_length_le
theorem dw:type_of% @List.length_drop:=@List.length_drop
theorem dD:type_of% @decide_eq_true:=@decide_eq_true
theorem dJ:type_of% @List.length_set:=@List.length_set
theorem dU:type_of% @List.getElem?_eq_getElem:=@List.getElem?_eq_getElem
theorem eu:type_of% @Nat.lt_or_ge:=@Nat.lt_or_ge
theorem eC:type_of% @Nat.le_trans:=@Nat.le_trans
theorem eQ:type_of% @Bool.eq_iff_iff:=@Bool.eq_iff_iff
theorem eY:type_of% @List.mem_of_mem_take:=@List.mem_of_mem_take
theorem e6:type_of% @List.mem_of_mem_drop:=@List.mem_of_mem_drop
theorem fl:type_of% @List.append_nil:=@List.append_nil
theorem fx:type_of% @Bool.not_eq_true:=@Bool.not_eq_true
theorem fy:type_of% @List.mem_map:=@List.mem_map
theorem fz:type_of% @List.mem_singleton:=@List.mem_singleton
theorem fE:type_of% @Nat.mul_one:=@Nat.mul_one
theorem fF:type_of% @List.getElem_of_mem:=@List.getElem_of_mem
theorem fG:type_of% @List.not_mem_nil:=@List.not_mem_nil
theorem fH:type_of% @List.getElem_set_ne:=@List.getElem_set_ne
theorem fP:type_of% @Nat.lt_of_lt_of_le:=@Nat.lt_of_lt_of_le
theorem fQ:type_of% @or_false:=@or_false
theorem fU:type_of% @List.mem_filter:=@List.mem_filter
theorem fV:type_of% @List.take_append_drop:=@List.take_append_drop
theorem gb:type_of% @List.map_append:=@List.map_append
theorem gd:type_of% @List.getD_eq_getElem?_getD:=@List.getD_eq_getElem?_getD
theorem gp:type_of% @Bool.false_eq_true:=@Bool.false_eq_true
theorem gx:type_of% @List.length_cons:=@List.length_cons
theorem gG:type_of% @List.filter_append:=@List.filter_append
theorem g2:type_of% @List.map_cons:=@List.map_cons
theorem g3:type_of% @List.getElem?_append_right:=@List.getElem?_append_right
theorem g9:type_of% @Bool.true_and:=@Bool.true_and
theorem g_:type_of% @decide_eq_false:=@decide_eq_false
theorem hG:type_of% @List.nil_append:=@List.nil_append
theorem hJ:type_of% @List.filter_cons:=@List.filter_cons
theorem hZ:type_of% @Nat.mod_lt:=@Nat.mod_lt
theorem h4:type_of% @List.take_length:=@List.take_length
theorem iy:type_of% @List.take_succ_eq_append_getElem:=@List.take_succ_eq_append_getElem
theorem iz:type_of% @Nat.min_eq_left:=@Nat.min_eq_left
theorem iA:type_of% @List.mem_append_right:=@List.mem_append_right
theorem iM:type_of% @Nat.eq_of_beq_eq_true:=@Nat.eq_of_beq_eq_true
theorem iN:type_of% @List.drop_zero:=@List.drop_zero
theorem iO:type_of% @List.getElem_set_self:=@List.getElem_set_self
theorem iP:type_of% @List.length_filter_le:=@List.length_filter_le
theorem jh:type_of% @Bool.not_eq_true':=@Bool.not_eq_true'
theorem jy:type_of% @Bool.or_eq_true:=@Bool.or_eq_true
theorem jz:type_of% @Nat.add_mul:=@Nat.add_mul
theorem jA:type_of% @List.filter_eq_self:=@List.filter_eq_self
theorem jB:type_of% @List.pairwise_cons:=@List.pairwise_cons
theorem jC:type_of% @List.length_singleton:=@List.length_singleton
theorem jV:type_of% @List.getElem?_eq_some_iff:=@List.getElem?_eq_some_iff
theorem jW:type_of% @List.mem_cons_of_mem:=@List.mem_cons_of_mem
theorem jX:type_of% @decide_eq_false_iff_not:=@decide_eq_false_iff_not
theorem jY:type_of% @beq_iff_eq:=@beq_iff_eq
theorem jZ:type_of% @List.find?_eq_none:=@List.find?_eq_none
theorem j0:type_of% @List.mem_of_find?_eq_some:=@List.mem_of_find?_eq_some
theorem kj:type_of% @List.mem_range:=@List.mem_range
theorem kk:type_of% @List.drop_eq_getElem_cons:=@List.drop_eq_getElem_cons
theorem kl:type_of% @Nat.mod_eq_of_lt:=@Nat.mod_eq_of_lt
theorem km:type_of% @List.mem_append_left:=@List.mem_append_left
theorem kn:type_of% @Bool.false_and:=@Bool.false_and
theorem ko:type_of% @List.count_pos_iff:=@List.count_pos_iff
theorem kN:type_of% @List.drop_drop:=@List.drop_drop
theorem kO:type_of% @List.find?_some:=@List.find?_some
theorem lj:type_of% @Nat.add_zero:=@Nat.add_zero
theorem lk:type_of% @Bool.false_or:=@Bool.false_or
theorem ln:type_of% @List.pairwise_iff_getElem:=@List.pairwise_iff_getElem
theorem lp:type_of% @List.length_nil:=@List.length_nil
theorem lT:type_of% @Option.map_some:=@Option.map_some
theorem lU:type_of% @UInt8.toNat_lt:=@UInt8.toNat_lt
theorem lV:type_of% @List.sum_append:=@List.sum_append
theorem mn:type_of% @List.cons_append:=@List.cons_append
theorem mo:type_of% @Array.getElem?_eq_some_iff:=@Array.getElem?_eq_some_iff
theorem mq:type_of% @List.length_eq_zero_iff:=@List.length_eq_zero_iff
theorem mu:type_of% @List.map_drop:=@List.map_drop
theorem mv:type_of% @List.map_take:=@List.map_take
theorem mw:type_of% @List.length_replicate:=@List.length_replicate
theorem mx:type_of% @List.filter_eq_nil_iff:=@List.filter_eq_nil_iff
theorem my:type_of% @List.pairwise_append:=@List.pairwise_append
theorem mz:type_of% @Bool.not_eq_false':=@Bool.not_eq_false'
theorem mA:type_of% @List.take_append_of_le_length:=@List.take_append_of_le_length
theorem ng:type_of% @Option.isSome_iff_exists:=@Option.isSome_iff_exists
theorem nh:type_of% @Nat.testBit_or:=@Nat.testBit_or
theorem ni:type_of% @List.getElem?_cons_zero:=@List.getElem?_cons_zero
theorem nj:type_of% @Nat.le_of_ble_eq_true:=@Nat.le_of_ble_eq_true
theorem nk:type_of% @Nat.sub_zero:=@Nat.sub_zero
theorem nm:type_of% @Nat.mul_le_mul_right:=@Nat.mul_le_mul_right
theorem nn:type_of% @List.perm_middle:=@List.perm_middle
theorem np:type_of% @List.ext_getElem:=@List.ext_getElem
theorem nq:type_of% @List.getElem?_map:=@List.getElem?_map
theorem nr:type_of% @List.mem_or_eq_of_mem_set:=@List.mem_or_eq_of_mem_set
theorem oe:type_of% @Nat.sub_self:=@Nat.sub_self
theorem og:type_of% @Int.tmod_eq_emod_of_nonneg:=@Int.tmod_eq_emod_of_nonneg
theorem oh:type_of% @List.map_map:=@List.map_map
theorem om:type_of% @List.mem_cons_self:=@List.mem_cons_self
theorem oo:type_of% @Option.some_get:=@Option.some_get
theorem oq:type_of% @List.getElem_set:=@List.getElem_set
theorem ot:type_of% @List.length_zip:=@List.length_zip
theorem ou:type_of% @List.getElem_take:=@List.getElem_take
theorem ov:type_of% @List.take_take:=@List.take_take
theorem ow:type_of% @List.getElem_append_left:=@List.getElem_append_left
theorem ox:type_of% @List.take_left':=@List.take_left'
theorem oy:type_of% @UInt8.toNat_ofNat':=@UInt8.toNat_ofNat'
theorem oz:type_of% @List.getElem?_eq_none:=@List.getElem?_eq_none
theorem oA:type_of% @Nat.eq_zero_or_pos:=@Nat.eq_zero_or_pos
theorem oB:type_of% @List.count_append:=@List.count_append
theorem oC:type_of% @List.filter_nil:=@List.filter_nil
theorem oD:type_of% @List.filter_congr:=@List.filter_congr
theorem pX:type_of% @List.all_eq_true:=@List.all_eq_true
theorem pY:type_of% @Bool.and_true:=@Bool.and_true
theorem pZ:type_of% @Nat.zero_mul:=@Nat.zero_mul
theorem p0:type_of% @List.getElem?_cons_succ:=@List.getElem?_cons_succ
theorem p1:type_of% @List.getElem_append_right:=@List.getElem_append_right
theorem p2:type_of% @List.exists_mem_of_ne_nil:=@List.exists_mem_of_ne_nil
theorem p3:type_of% @List.zipWith_append:=@List.zipWith_append
theorem p4:type_of% @List.count_cons:=@List.count_cons
theorem p5:type_of% @List.count_nil:=@List.count_nil
theorem rH:type_of% @List.any_eq_false:=@List.any_eq_false
theorem rI:type_of% @List.filterMap_cons:=@List.filterMap_cons
theorem rJ:type_of% @List.filterMap_append:=@List.filterMap_append
theorem rK:type_of% @Nat.testBit_two_pow:=@Nat.testBit_two_pow
theorem rL:type_of% @Bool.or_eq_false_iff:=@Bool.or_eq_false_iff
theorem rM:type_of% @List.getElem?_toArray:=@List.getElem?_toArray
theorem rN:type_of% @UInt8.toNat_inj:=@UInt8.toNat_inj
theorem rO:type_of% @List.of_mem_zip:=@List.of_mem_zip
theorem rP:type_of% @List.sum_cons:=@List.sum_cons
theorem rQ:type_of% @List.perm_append_comm:=@List.perm_append_comm
theorem rR:type_of% @List.toList_toArray:=@List.toList_toArray
theorem rS:type_of% @List.drop_eq_nil_of_le:=@List.drop_eq_nil_of_le
theorem rT:type_of% @List.findIdx?_eq_some_iff_getElem:=@List.findIdx?_eq_some_iff_getElem
theorem tI:type_of% @Array.getElem?_modify:=@Array.getElem?_modify
theorem tJ:type_of% @List.getElem?_drop:=@List.getElem?_drop
theorem tK:type_of% @List.range_eq_range':=@List.range_eq_range'
theorem tL:type_of% @Option.map_eq_some_iff:=@Option.map_eq_some_iff
theorem tM:type_of% @List.getElem?_take:=@List.getElem?_take
theorem tN:type_of% @List.drop_of_length_le:=@List.drop_of_length_le
theorem tO:type_of% @List.nodup_append:=@List.nodup_append
theorem tP:type_of% @List.getElem_mapIdx:=@List.getElem_mapIdx
theorem tQ:type_of% @List.set_append_right:=@List.set_append_right
theorem tR:type_of% @List.getElem?_append_left:=@List.getElem?_append_left
theorem tS:type_of% @Nat.pow_le_pow_right:=@Nat.pow_le_pow_right
theorem tT:type_of% @List.take_sublist:=@List.take_sublist
theorem tU:type_of% @List.getElem_drop:=@List.getElem_drop
theorem tV:type_of% @List.getElem_zip:=@List.getElem_zip
theorem tW:type_of% @List.take_append:=@List.take_append
theorem tX:type_of% @List.mem_iff_getElem:=@List.mem_iff_getElem
theorem tY:type_of% @List.size_toArray:=@List.size_toArray
theorem tZ:type_of% @List.findIdx?_eq_none_iff:=@List.findIdx?_eq_none_iff
theorem xD:type_of% @Int.tdiv_eq_ediv_of_nonneg:=@Int.tdiv_eq_ediv_of_nonneg
theorem xE:type_of% @List.eq_of_mem_replicate:=@List.eq_of_mem_replicate
theorem xF:type_of% @List.set_eq_take_append_cons_drop:=@List.set_eq_take_append_cons_drop
theorem xG:type_of% @List.getLast?_eq_getElem?:=@List.getLast?_eq_getElem?
theorem xH:type_of% @Int.eq_ofNat_of_zero_le:=@Int.eq_ofNat_of_zero_le
theorem I{p:Prop}(h:p:=by omega):p:=h
abbrev J:=World
abbrev Y:=Value
abbrev av(α:Type):=Option α
abbrev O(α:Type):=List α
abbrev ag:=Addr
abbrev al:=Bool
end Go
namespace aS
open Go
structure ad where
 a:av ag
 len:Nat
 cap:Nat
instance:Coe ad Value:=⟨λs=>.slice s.a s.len s.cap⟩
instance:Coe Int Value:=⟨λn=>.int .i64 n⟩
instance:Coe Nat Value:=⟨λn=>.int .i64 (n:Int)⟩
instance:Coe Bool Value:=⟨λb=>.bool b⟩
instance:Coe Nat Addr:=⟨λb=>⟨b,0,none⟩⟩
instance:Coe (Option Addr) Value:=⟨λp=>.pointer p⟩
instance:Coe Unit Value:=⟨λ_=>.slice none 0 0⟩
structure iQ where
 f:FuncId
 pre:Array Y
 cap:Array Y
inductive c5 where
 |int (k:IntKind)|bool|str|ptr|slice|map|agg|fn|any
def c5.T:c5->Type
 | .int _=>Int
 | .bool=>al
 | .str=>ByteArray
 | .ptr=>av ag
 | .slice=>ad
 | .map=>av Nat
 | .agg=>Array Y
 | .fn=>iQ
 | .any=>Y
def c5.v:(l:c5)->l.T->Y
 | .int k,(n:Int)=>.int k n
 | .bool,(b:al)=>.bool b
 | .str,(s:ByteArray)=>.string s
 | .ptr,(p:av ag)=>.pointer p
 | .slice,(s:ad)=>.slice s.a s.len s.cap
 | .map,(r:av Nat)=>.map r
 | .agg,(cs:Array Y)=>.agg cs
 | .fn,(F:iQ)=>.func (.func F.f) F.pre F.cap
 | .any,(v:Y)=>v
inductive Kd where
 |one (l:c5)
 |flat (ls:O c5)
def oE(l:c5)(K:Y->Prop):Prop:=
 match l with
 | .int k=>∃n:Int,K (.int k n)
 | .bool=>∃b:al,K (.bool b)
 | .str=>∃s:ByteArray,K (.string s)
 | .ptr=>∃p:av ag,K (.pointer p)
 | .slice=>∃s:ad,K (.slice s.a s.len s.cap)
 | .map=>∃r:av Nat,K (.map r)
 | .agg=>∃cs:Array Y,K (.agg cs)
 | .fn=>∃F:iQ,K (.func (.func F.f) F.pre F.cap)
 | .any=>∃v:Y,K v
def xI:O c5->(O Y->Prop)->Prop
 | [],K=>K []
 |l::ls,K=>oE l λv=>xI ls λvs=>K (v::vs)
def xJ(k:Kd)(K:Y->Prop):Prop:=
 match k with
 | .one l=>oE l K
 | .flat ls=>xI ls λvs=>K (.agg vs.toArray)
def t_:O Kd->(O Y->Prop)->Prop
 | [],K=>K []
 |k::ks,K=>xJ k λv=>t_ ks λvs=>K (v::vs)
theorem p6{l:c5}{K:Y->Prop}(h:oE l K):∃v,K v:=by
 cases l<;>simp only[oE]at h<;>obtain⟨x,h⟩:=h<;>exact⟨_,h⟩
theorem Av:∀ {ls:O c5}{K:O Y->Prop},xI ls K->∃vs,K vs
 | [],_,h=>⟨_,h⟩
 |_::_,_,h=>let ⟨_,h⟩:=p6 h;let ⟨_,h⟩:=Av h;⟨_,h⟩
theorem Aw{k:Kd}{K:Y->Prop}(h:xJ k K):∃v,K v:=by
 cases k with
 |one l=>exact p6 h
 |flat ls=>obtain⟨_,h⟩:=Av h;exact⟨_,h⟩
theorem xK:∀ {ls:O Kd}{K:O Y->Prop},t_ ls K->∃vs,K vs
 | [],_,h=>⟨_,h⟩
 |_::_,_,h=>let ⟨_,h⟩:=Aw h;let ⟨_,h⟩:=xK h;⟨_,h⟩
abbrev Env:=O (Nat×Y)
def Env.get:Env->Nat->av Y
 | [],_=>none
 |(k,v)::e,s=>bif Nat.beq k s then some v else Env.get e s
def ev(e:Env):Operand->av Y
 | .tmp t=>e.get t
 | .const v=>some v
 | .global g=>some (.pointer (some ⟨g,0,none⟩))
 | .func f=>some (.func (.func f) #[] #[])
def ro(e:Env)(x:Operand):Y:=(ev e x).getD undef
def known(e:Env)(xs:Array Operand):al:=xs.toList.all λx=>(ev e x).isSome
structure dE(e:Env)(a:Act):Prop where
 get:∀s v,e.get s=some v->a.tmps[s]? =some v
theorem dE.ev{e:Env}{a:Act}(h:dE e a){x:Operand}{v:Y}(hx:ev e x=some v):a.eval x=v:=by
 cases x with
 |tmp t=>
  have:=h.get t v hx;simp[Act.eval,Array.getD_eq_getD_getElem?,this]
 |const c=>simpa[aS.ev,Act.eval] using hx
 |global g=>simpa[aS.ev,Act.eval] using hx
 |func f=>simpa[aS.ev,Act.eval] using hx
theorem dE.ro{e:Env}{a:Act}(h:dE e a){x:Operand}(hx:(aS.ev e x).isSome=true):a.eval x=ro e x:=by
 obtain⟨v,b⟩:=ng.1 hx;rw[h.ev b,aS.ro,b];rfl
def dx(d:av Nat)(v:Y)(e:Env):Env:=
 match d with
 |some d=>(d,v)::e
 |none=>e
theorem oF(d:Nat)(v:Y)(e:Env)(s:Nat):Env.get ((d,v)::e) s=if d=s then some v else e.get s:=by
 simp only[Env.get,cond_eq_ite];by_cases a:d=s
 .subst a;simp
 .have:Nat.beq d s=false:=by
   cases b:Nat.beq d s
   .rfl
   .exact absurd (iM b) a
  simp[this,a]
theorem dE.put{e:Env}{a:Act}(h:dE e a){d:av Nat}{v:Y}(hd:∀k,d=some k->k<a.tmps.size):dE (dx d v e) (a.put d v):=by
 cases d with
 |none=>exact h
 |some d=>
  constructor;intro s u hs;rw[dx,oF]at hs;simp only[Act.put];by_cases b:d=s
  .subst b
   simp only[if_true,Option.some.injEq]at hs;subst hs;simp[hd d rfl]
  .rw[if_neg b]at hs
   rw[Array.getElem?_setIfInBounds_ne b];exact h.get s u hs
inductive ec where
 |one (k:Kd)
 |fm (ks:O Kd)
def iB(r:ec)(K:Y->Prop):Prop:=
 match r with
 | .one k=>xJ k K
 | .fm ks=>t_ ks λvs=>K (.tuple vs.toArray)
theorem iR{r:ec}{K:Y->Prop}(h:iB r K):∃v,K v:=by
 cases r with
 |one k=>exact Aw h
 |fm ks=>obtain⟨_,h⟩:=xK h;exact⟨_,h⟩
def a8(w:J)(A:ag):Nat->Nat->av (O Y)
 |_,0=>some []
 |i,n+1=>match w.cell? (A.add i),a8 w A (i+1) n with
  |some v,some vs=>some (v::vs)
  |_,_=>none
def setCells(w:J)(A:ag):Nat->O Y->J
 |_,[]=>w
 |i,v::vs=>setCells (w.setCell (A.add i) v) A (i+1) vs
def Plain:Y->Prop
 | .agg _=>False
 | .tuple _=>False
 |_=>True
def bk(w:J)(A:ag)(vs:O Y):Prop:=
 (∀i,i<vs.length->(w.cell? (A.add i)).isSome=true/\w.frozen? (A.add i)=false)/\∀v∈vs,Plain v
def h5:TypeDesc->al
 | .struct _=>true
 | .array _ _=>true
 |_=>false
def hK(P:Program)(elem:TypeId)(n:Nat):Array Y:=
 let zero:=if n*P.cellsOf elem=0 then #[] else (((P.info? elem).bind (·.zero)).getD undef).cells
 (Array.range (n*P.cellsOf elem)).map (zero[· %zero.size]!)
section
variable {P:Program}{w:J}
theorem dj{t:TypeId}{d:TypeDesc}(h:P.underlying t=some d):(underlying t).run P w=.ok d w:=by
 simp[underlying,program,Sem.run,bind,Sem.bind,h,pure]
theorem nt{t:TypeId}{d:TypeInfo}(h:P.info? t=some d):(typeInfo t).run P w=.ok d w:=by
 simp[typeInfo,program,Sem.run,bind,Sem.bind,h,pure]
theorem info_of_underlying{t:TypeId}{d:TypeDesc}(h:P.underlying t=some d):∃i,P.info? t=some i:=by
 unfold Program.underlying at h
 cases hi:P.info? t with
 |none=>simp[hi]at h
 |some i=>exact⟨i,rfl⟩
theorem h6{t:TypeId}{d:TypeDesc}(h:P.underlying t=some d):(Go.sizeOf t).run P w=.ok (P.cellsOf t) w:=by
 obtain⟨i,hi⟩:=info_of_underlying h;simp[Go.sizeOf,nt hi,Program.cellsOf,hi]
theorem p7{t:TypeId}{d:TypeDesc}(h:P.underlying t=some d):(isAgg t).run P w=.ok (h5 d) w:=by
 simp only[isAgg,Sem.run_bind,dj h,Result.andThen]
 cases d<;>rfl
theorem xL{A:ag}{v:Y}(h:w.cell? A=some v):(load A).run P w=.ok v w:=by
 simp[load,Sem.run,h]
theorem run_loadCellsFrom{A:ag}:∀ (n i:Nat) (acc:Array Y) (vs:O Y),a8 w A i n=some vs->
 (loadCellsFrom A i n acc).run P w=.ok (acc++vs.toArray) w
 |0,i,acc,vs,h=>by
  simp only[a8,Option.some.injEq]at h
  subst h
  simp[loadCellsFrom]
 |n+1,i,acc,vs,h=>by
  simp only[a8]at h
  cases h1:w.cell? (A.add i) with
  |none=>simp[h1]at h
  |some v=>
   cases h2:a8 w A (i+1) n with
   |none=>simp[h1,h2]at h
   |some us=>
    simp only[h1,h2,Option.some.injEq]at h
    subst h
    simp only[loadCellsFrom,Sem.run_bind,xL h1,Result.andThen]
    rw[run_loadCellsFrom n (i+1) (acc.push v) us h2]
    simp
theorem ua{T:TypeId}{d:TypeDesc}(a:P.underlying T=some d)(hd:h5 d=true){A:ag}{vs:O Y}(h:a8 w A 0 (P.cellsOf T)=some vs):
 (loadVar T A).run P w=.ok (.agg vs.toArray) w:=by
 simp only[loadVar,Sem.run_bind,p7 a,Result.andThen,hd,if_true,h6 a,loadCells,run_loadCellsFrom _ _ _ _ h];simp
theorem Ax{T:TypeId}{d:TypeDesc}(a:P.underlying T=some d)(hd:h5 d=false){A:ag}{v:Y}(h:w.cell? A=some v):
 (loadVar T A).run P w=.ok v w:=by
 simp only[loadVar,Sem.run_bind,p7 a,Result.andThen,hd,gp,if_false,xL h]
theorem ES{A:ag}{v u:Y}(a:Plain v)(h:w.cell? A=some u)(hf:w.frozen? A=false):(store A v).run P w=.ok () (w.setCell A v):=by
 cases v<;>simp_all [store,Sem.run,Plain]
theorem ET(w:J)(A B:ag)(v:Y):((w.setCell A v).cell? B).isSome=(w.cell? B).isSome:=by
 simp only[World.setCell,World.cell?,tI];by_cases a:A.block=B.block
 .simp only[a,if_true]
  cases w.heap[B.block]? with
  |none=>rfl
  |some o=>
   cases o<;>simp
   by_cases hs:B.spot.isSome<;>simp[hs]
   by_cases b:A.spot.isSome<;>simp[b]
   rw[eQ];simp
 .simp[a]
theorem EU(w:J)(A B:ag)(v:Y):(w.setCell A v).frozen? B=w.frozen? B:=by
 simp only[World.setCell,World.frozen?,tI];by_cases a:A.block=B.block
 .simp only[a,if_true]
  cases w.heap[B.block]? with
  |none=>rfl
  |some o=>cases o<;>rfl
 .simp[a]
theorem p8{A:ag}:∀ (vs:O Y) (i:Nat) (w:J),(∀j,j<vs.length->(w.cell? (A.add (i+j))).isSome=true/\w.frozen? (A.add (i+j))=false)->(∀v∈vs,Plain v)->
 (storeCells A vs i).run P w=.ok () (setCells w A i vs)
 | [],i,w,_,_=>rfl
 |v::vs,i,w,h,a=>by
  have h0:=h 0 (by simp)
  simp only[lj]at h0
  obtain⟨u,hu⟩:=ng.1 h0.1
  simp only[storeCells,Sem.run_bind,ES (P:=P) (a v (by simp)) hu h0.2,Result.andThen,setCells]
  refine p8 vs (i+1) (w.setCell (A.add i) v) (λj b=>?_) (λx hx=>a x (by simp[hx]))
  have:=h (j+1) (by simp;omega)
  rw[ET,EU,show i+1+j=i+(j+1) from I]
  exact this
theorem Ay{T:TypeId}{d:TypeDesc}(a:P.underlying T=some d){A:ag}{v:Y}(hs:v.cells.size=P.cellsOf T)(h:bk w A v.cells.toList):
 (storeVar T A v).run P w=.ok () (setCells w A 0 v.cells.toList):=by
 simp only[storeVar,Sem.run_bind,h6 a,Result.andThen,hs,ne_eq,not_true,if_false];simpa using p8 v.cells.toList 0 w (by simpa using h.1) h.2
end
def xM:O c5->ag->Nat->J->(O Y->Prop)->Prop
 | [],_,_,_,K=>K []
 |l::ls,A,i,w,K=>oE l λv=>w.cell? (A.add i)=some v/\xM ls A (i+1) w λvs=>K (v::vs)
def p9(P:Program)(tk:TypeId->ec)(T:TypeId)(A:ag)(w:J)(K:Y->Prop):Prop:=
 match P.underlying T with
 |none=>False
 |some d=>
  bif h5 d then
   match tk T with
   | .one (.flat ls)=>bif Nat.beq (P.cellsOf T) ls.length then xM ls A 0 w λvs=>K (.agg vs.toArray) else False
   |_=>∃cs:O Y,a8 w A 0 (P.cellsOf T)=some cs/\K (.agg cs.toArray)
  else
   match tk T with
   | .one (.one l)=>oE l λv=>w.cell? A=some v/\K v
   |_=>False
def xN(P:Program)(tk:TypeId->ec)(T:TypeId)(A:ag)(x:Y)(w:J)(K:J->Prop):Prop:=
 match P.underlying T with
 |none=>False
 |some d=>
  bif h5 d then
   match x with
   | .agg cs=>bk w A cs.toList/\cs.size=P.cellsOf T/\K (setCells w A 0 cs.toList)
   |_=>False
  else bif Nat.beq (P.cellsOf T) 1 then
   match tk T with
   | .one (.one .any)=>Plain x/\(∃u,w.cell? A=some u)/\w.frozen? A=false/\K (w.setCell A x)
   |_=>match x with
    | .agg _=>False
    | .tuple _=>False
    |_=>(∃u,w.cell? A=some u)/\w.frozen? A=false/\K (w.setCell A x)
  else False
def iC(P:Program)(T:TypeId)(xs ys:Array Y)(b:al):Prop:=
 P.eqGuardType P.depth T=false/\∀w,(Op.equal T (.agg xs) (.agg ys)).run P w=.ok b w
def oG:Y->av al
 | .nilIface=>some true
 | .iface _ _=>some false
 |_=>none
def oH:av TypeDesc->al
 |some (.interface _)=>true
 |_=>false
def mB:av TypeDesc->al
 |some (.pointer _)=>true
 |_=>false
def nu:av TypeDesc->al
 |some (.slice _)=>true
 |_=>false
def p_:av TypeDesc->al
 |some (.map _ _)=>true
 |_=>false
def kp:IntKind->IntKind->al:=λa b=>decide (a=b)
def uc(P:Program)(op:BinOp)(T:TypeId)(x y:Y)(K:Y->Prop)(G:Prop):Prop:=
 match y with
 | .nilIface=>bif oH (P.underlying T) then
  match op with
  | .eql=>∃b,oG x=some b/\K (.bool b)
  | .neq=>∃b,oG x=some b/\K (.bool (!b))
  |_=>False
  else False
 | .pointer none=>bif mB (P.underlying T) then
  match op,x with
  | .eql,.pointer p=>K (.bool p.isNone)
  | .neq,.pointer p=>K (.bool (!p.isNone))
  |_,_=>False
  else False
 | .slice none _ _=>bif nu (P.underlying T) then
  match op,x with
  | .eql,.slice a _ _=>K (.bool a.isNone)
  | .neq,.slice a _ _=>K (.bool (!a.isNone))
  |_,_=>False
  else False
 | .map none=>bif p_ (P.underlying T) then
  match op,x with
  | .eql,.map r=>K (.bool r.isNone)
  | .neq,.map r=>K (.bool (!r.isNone))
  |_,_=>False
  else False
 | .agg ys=>
  match op,x with
  | .eql,.agg xs=>∃b,iC P T xs ys b/\K (.bool b)
  | .neq,.agg xs=>∃b,iC P T xs ys b/\K (.bool (!b))
  |_,_=>False
 | .int c b=>
  match op,x with
  | .quo,.int k a=>bif kp k c then b≠0/\K (.int k (k.wrap (a.tdiv b))) else False
  | .rem,.int k a=>bif kp k c then b≠0/\K (.int k (a.tmod b)) else False
  | .shl,.int k a=>0<=b/\K (.int k (k.wrap (a*2^(min b.toNat k.bits))))
  | .shr,.int k a=>0<=b/\K (.int k (a.fdiv (2^(min b.toNat k.bits))))
  |_,_=>G
 | .bool b=>match P.underlying T with
  |some .bool=>match op,x with
   | .eql,.bool a=>K (.bool (a==b))
   | .neq,.bool a=>K (.bool (!(a==b)))
   |_,_=>False
  |_=>False
 | .string b=>
  match op,x with
  | .add,.string a=>((a.size+b.size:Nat):Int)<=9223372036854775807/\K (.string (a++b))
  |_,_=>G
 |_=>G
section
variable {P:Program}
theorem qa(T:TypeId)(x y:Y):Op.equal T x y=Op.equalIn (9999+1) T x y:=rfl
theorem EV(d:Nat){T:TypeId}{x:Y}{b:al}(a:oH (P.underlying T)=true)(h:oG x=some b)(w:J):
 (Op.equalIn (d+1) T x .nilIface).run P w=.ok b w:=by
 cases hu:P.underlying T with
 |none=>simp[hu,oH]at a
 |some d=>
  cases d<;>simp only[hu,oH,gp]at a
  simp only[Op.equalIn,Sem.run_bind,dj hu,Result.andThen]
  cases x<;>simp only[oG,reduceCtorEq,Option.some.injEq]at h<;>subst h<;>rfl
theorem EW(d:Nat){T:TypeId}{p:av ag}(a:mB (P.underlying T)=true)(w:J):
 (Op.equalIn (d+1) T (.pointer p) (.pointer none)).run P w=.ok p.isNone w:=by
 cases hu:P.underlying T with
 |none=>simp[hu,mB]at a
 |some d=>
  cases d<;>simp only[hu,mB,gp]at a
  simp only[Op.equalIn,Sem.run_bind,dj hu,Result.andThen]
  cases p<;>rfl
theorem EX(d:Nat){T:TypeId}{a:av ag}{l c e c':Nat}(b:nu (P.underlying T)=true)(w:J):
 (Op.equalIn (d+1) T (.slice a l c) (.slice none e c')).run P w=.ok a.isNone w:=by
 cases hu:P.underlying T with
 |none=>simp[hu,nu]at b
 |some d=>
  cases d<;>simp only[hu,nu,gp]at b
  simp only[Op.equalIn,Sem.run_bind,dj hu,Result.andThen]
  cases a<;>rfl
theorem EY(d:Nat){T:TypeId}{r:av Nat}(a:p_ (P.underlying T)=true)(w:J):
 (Op.equalIn (d+1) T (.map r) (.map none)).run P w=.ok r.isNone w:=by
 cases hu:P.underlying T with
 |none=>simp[hu,p_]at a
 |some d=>
  cases d<;>simp only[hu,p_,gp]at a
  simp only[Op.equalIn,Sem.run_bind,dj hu,Result.andThen]
  cases r<;>rfl
theorem Az{T:TypeId}{x:Y}{b:al}(a:oH (P.underlying T)=true)(h:oG x=some b)(w:J):
 (Op.equal T x .nilIface).run P w=.ok b w:=by rw[qa];exact EV _ a h w
theorem ud{T:TypeId}{p:av ag}(a:mB (P.underlying T)=true)(w:J):
 (Op.equal T (.pointer p) (.pointer none)).run P w=.ok p.isNone w:=by rw[qa];exact EW _ a w
theorem ue{T:TypeId}{a:av ag}{l c b c':Nat}(d:nu (P.underlying T)=true)(w:J):
 (Op.equal T (.slice a l c) (.slice none b c')).run P w=.ok a.isNone w:=by rw[qa];exact EX _ d w
theorem AA{T:TypeId}{r:av Nat}(a:p_ (P.underlying T)=true)(w:J):
 (Op.equal T (.map r) (.map none)).run P w=.ok r.isNone w:=by rw[qa];exact EY _ a w
theorem AB{T:TypeId}{xs ys:Array Y}(h:P.eqGuardType P.depth T=false)(op:BinOp)(x y:Operand)(w:J):
 (eqGuard op T x y (.agg xs) (.agg ys)).run P w=.ok () w:=by
 cases op<;>simp[eqGuard,program,Sem.run,bind,Sem.bind,h,pure]
theorem AD{T:TypeId}{a b:al}(c:P.underlying T=some .bool)(w:J):(Op.equal T (.bool a) (.bool b)).run P w=.ok (a==b) w:=by
 have e:∀ (d:Nat) (w:J),(Op.equalIn (d+1) T (.bool a) (.bool b)).run P w=.ok (a==b) w:=by
  intro d w;simp[Op.equalIn,dj c]
 rw[qa];exact e _ w
theorem AE{op:BinOp}{T:TypeId}{x y:Y}{rU qb:Operand}{K:Y->Prop}{G:Prop}
 (j:y=.nilIface->∃c,qb=.const c)
 (h:uc P op T x y K G):
 G\/∃v,(∀w,(do eqGuard op T rU qb x y;binOp op T x y:Sem Y).run P w=.ok v w)/\K v:=by
 unfold uc at h;split at h
 case h_1=>
  obtain⟨c,hc⟩:=j rfl;by_cases d:oH (P.underlying T)=true
  .rw[d]at h
   simp only[cond_true]at h;split at h
   .obtain⟨b,e,f⟩:=h
    refine .inr ⟨_,λw=>?_,f⟩;have:=Az (P:=P) d e w
    cases x<;>simp only[oG,reduceCtorEq,Option.some.injEq]at e<;>subst hc e<;>simp[eqGuard,binOp,this]
   .obtain⟨b,e,f⟩:=h
    refine .inr ⟨_,λw=>?_,f⟩;have:=Az (P:=P) d e w
    cases x<;>simp only[oG,reduceCtorEq,Option.some.injEq]at e<;>subst hc e<;>simp[eqGuard,binOp,this]
   .exact h.elim
  .simp only[fx]at d;rw[d]at h;exact h.elim
 case h_2=>
  by_cases d:mB (P.underlying T)=true
  .rw[d]at h
   simp only[cond_true]at h;split at h
   .exact .inr ⟨_,λw=>by simp[eqGuard,binOp,ud (P:=P) d],h⟩
   .exact .inr ⟨_,λw=>by simp[eqGuard,binOp,ud (P:=P) d],h⟩
   .exact h.elim
  .simp only[fx]at d;rw[d]at h;exact h.elim
 case h_3=>
  by_cases d:nu (P.underlying T)=true
  .rw[d]at h
   simp only[cond_true]at h;split at h
   .exact .inr ⟨_,λw=>by simp[eqGuard,binOp,ue (P:=P) d],h⟩
   .exact .inr ⟨_,λw=>by simp[eqGuard,binOp,ue (P:=P) d],h⟩
   .exact h.elim
  .simp only[fx]at d;rw[d]at h;exact h.elim
 case h_4=>
  by_cases d:p_ (P.underlying T)=true
  .rw[d]at h
   simp only[cond_true]at h;split at h
   .exact .inr ⟨_,λw=>by simp[eqGuard,binOp,AA (P:=P) d],h⟩
   .exact .inr ⟨_,λw=>by simp[eqGuard,binOp,AA (P:=P) d],h⟩
   .exact h.elim
  .simp only[fx]at d;rw[d]at h;exact h.elim
 case h_5=>
  split at h
  .obtain⟨b,⟨h1,h2⟩,f⟩:=h
   exact .inr ⟨_,λw=>by simp[AB h1,binOp,h2],f⟩
  .obtain⟨b,⟨h1,h2⟩,f⟩:=h
   exact .inr ⟨_,λw=>by simp[AB h1,binOp,h2],f⟩
  .exact h.elim
 case h_6 i b=>
  split at h
  .rename_i k a
   by_cases g:k=i
   .subst g
    simp only[kp,decide_true,cond_true]at h;exact .inr ⟨_,λw=>by simp[eqGuard,binOp,Op.intDiv,h.1],h.2⟩
   .simp[kp,g]at h
  .rename_i k a
   by_cases g:k=i
   .subst g
    simp only[kp,decide_true,cond_true]at h;exact .inr ⟨_,λw=>by simp[eqGuard,binOp,Op.intDiv,h.1],h.2⟩
   .simp[kp,g]at h
  .exact .inr ⟨_,λw=>by simp[eqGuard,binOp,Op.shift,show¬b<0 from I],h.2⟩
  .exact .inr ⟨_,λw=>by simp[eqGuard,binOp,Op.shift,show¬b<0 from I],h.2⟩
  .exact .inl h
 case h_7 b=>
  split at h
  .rename_i d
   split at h
   .exact .inr ⟨_,λw=>by simp[eqGuard,binOp,AD d],h⟩
   .exact .inr ⟨_,λw=>by simp[eqGuard,binOp,AD d],h⟩
   .exact h.elim
  .exact h.elim
 case h_8 b=>
  split at h
  .rename_i a
   refine .inr ⟨_,λw=>?_,h.2⟩;have h1:=h.1;simp[eqGuard,binOp,Op.stringOp,IntKind.max,IntKind.signed,IntKind.bits];omega
  .exact .inl h
 case h_9=>exact .inl h
end
def uf(P:Program)(T:TypeId)(x:Y)(K:Y->Prop):Prop:=
 match P.underlying T with
 |some (.array n _)=>match x with
  | .slice a len _=>n<=len/\∃A,a=some A/\K (.pointer (some A))
  |_=>False
 |_=>False
def ug(P:Program)(T:TypeId)(x i:Y)(K:Y->Prop):Prop:=
 match i with
 | .int _ n=>
  match P.underlying T with
  |some (.slice elem)=>bif (P.underlying elem).isSome then
   match x with
   | .slice a len _=>∃A,a=some A/\(0<=n/\n<(len:Int))/\K (.pointer (some (A.add (n.toNat*P.cellsOf elem))))
   |_=>False
   else False
  |some (.array len elem)=>bif (P.underlying elem).isSome then
   match x with
   | .pointer (some A)=>(0<=n/\n<(len:Int))/\K (.pointer (some (A.add (n.toNat*P.cellsOf elem))))
   |_=>False
   else False
  |_=>False
 |_=>False
def rV(P:Program)(tk:TypeId->ec)(T:TypeId)(cs:Array Y)(off:Nat)(K:Y->Prop):Prop:=
 match P.underlying T with
 |none=>False
 |some d=>
  bif h5 d then K (.agg (cs.extract off (off+P.cellsOf T)))
  else match tk T with
   | .one (.one l)=>oE l λv=>cs[off]? =some v/\K v
   |_=>False
def uh(P:Program)(tk:TypeId->ec)(T:TypeId)(x i:Y)(K:Y->Prop):Prop:=
 match i with
 | .int _ n=>
  match P.underlying T with
  |some (.array len elem)=>match x with
   | .agg cs=>(0<=n/\n<(len:Int))/\rV P tk elem cs (n.toNat*P.cellsOf elem) K
   |_=>False
  |some .string=>match x with
   | .string s=>0<=n/\∃b:UInt8,s.data.toList[n.toNat]? =some b/\K (.int .u8 b.toNat)
   |_=>False
  |_=>False
 |_=>False
def ui(P:Program)(tk:TypeId->ec)(T:TypeId)(x:Y)(i:Nat)(K:Y->Prop):Prop:=
 match P.underlying T with
 |some (.struct fs)=>match fs[i]? with
  |some f=>match x with
   | .agg cs=>rV P tk f.type cs f.offset K
   |_=>False
  |none=>False
 |_=>False
def lq(v:av Y)(y d:Nat)(K:Nat->Prop):Prop:=
 match v with
 |none=>K d
 |some (.int _ i)=>(0<=i/\i<=(y:Int))/\K i.toNat
 |_=>False
def aO(a:av ag)(sz l m:Nat):av ag:=if m=l then a else a.map (·.add (l*sz))
def uj(P:Program)(T:TypeId)(x:Y)(lo hi b:av Y)(K:Y->Prop):Prop:=
 match P.underlying T with
 |some .string=>match b,x with
  |none,.string s=>lq hi s.size s.size λh=>lq lo h 0 λl=>K (.string (s.extract l h))
  |_,_=>False
 |some (.slice elem)=>bif (P.underlying elem).isSome then
  match x with
  | .slice a len cap=>match b with
   |none=>lq hi cap len λh=>lq lo h 0 λl=>K (.slice (aO a (P.cellsOf elem) l cap) (h-l) (cap-l))
   |some c=>match hi with
    |none=>False
    |some d=>lq (some c) cap 0 λm=>lq (some d) m 0 λh=>lq lo h 0 λl=>K (.slice (aO a (P.cellsOf elem) l m) (h-l) (m-l))
  |_=>False
  else False
 |some (.array n elem)=>bif (P.underlying elem).isSome then
  match b,x with
  |none,.pointer (some A)=>lq hi n n λh=>lq lo h 0 λl=>K (.slice (aO (some A) (P.cellsOf elem) l n) (h-l) (n-l))
  |_,_=>False
  else False
 |_=>False
def xO(P:Program)(T:TypeId)(l c:Y)(w:J)(K:Y->J->Prop):Prop:=
 match P.underlying T with
 |some (.slice elem)=>bif (P.underlying elem).isSome then
  bif ((P.info? elem).bind (·.zero)).isSome then
  match l,c with
  | .int _ n,.int _ m=>(0<=n/\n<=m/\m<=9223372036854775807/\(P.bytesOf elem:Int)*m<=140737488355328)/\
   K (.slice (some ⟨w.heap.size,0,none⟩) n.toNat m.toNat) {w with heap:=w.heap.push (.cells (hK P elem m.toNat) elem)}
  |_,_=>False
  else False
  else False
 |_=>False
section
variable {P:Program}{w:J}
theorem kq(o:av TypeDesc)(h:o.isSome=true):∃d,o=some d:=ng.1 h
theorem AF{T:TypeId}{x:Y}{K:Y->Prop}(h:uf P T x K):∃v,(∀w,(Instr.arrayAt T x).run P w=.ok v w)/\K v:=by
 unfold uf at h;split at h
 .rename_i n e b
  split at h
  .rename_i a len cap
   obtain⟨h1,A,rfl,c⟩:=h;exact⟨_,λw=>by simp[Instr.arrayAt,dj b,Nat.not_lt.2 h1],c⟩
  .exact h.elim
 .exact h.elim
theorem AG{T:TypeId}{x i:Y}{K:Y->Prop}(h:ug P T x i K):∃v,(∀w,(Instr.indexAt T x i).run P w=.ok v w)/\K v:=by
 unfold ug at h;split at h
 .rename_i k n
  split at h
  .rename_i elem a
   by_cases he:(P.underlying elem).isSome=true
   .rw[he]at h
    simp only[cond_true]at h;split at h
    .obtain⟨A,rfl,b,c⟩:=h
     obtain⟨d,hd⟩:=kq _ he;exact⟨_,λw=>by simp[Instr.indexAt,asIntOf,dj a,b,h6 hd],c⟩
    .exact h.elim
   .simp only[fx]at he;rw[he]at h;exact h.elim
  .rename_i len elem a
   by_cases he:(P.underlying elem).isSome=true
   .rw[he]at h
    simp only[cond_true]at h;split at h
    .obtain⟨b,c⟩:=h
     obtain⟨d,hd⟩:=kq _ he;exact⟨_,λw=>by simp[Instr.indexAt,asIntOf,Instr.sureAddr,dj a,b,h6 hd],c⟩
    .exact h.elim
   .simp only[fx]at he;rw[he]at h;exact h.elim
  .exact h.elim
 .exact h.elim
theorem AH{tk:TypeId->ec}{T:TypeId}{cs:Array Y}{off:Nat}{K:Y->Prop}(h:rV P tk T cs off K):∃v,(∀w,(part T cs off).run P w=.ok v w)/\K v:=by
 unfold rV at h;split at h
 .exact h.elim
 .rename_i d a
  cases hd:h5 d with
  |true=>
   rw[hd]at h;exact⟨_,λw=>by simp[part,p7 a,hd,h6 a],h⟩
  |false=>
   rw[hd]at h;simp only[cond_false]at h;split at h
   .obtain⟨v,b,c⟩:=p6 h
    exact⟨v,λw=>by simp[part,p7 a,hd,b],c⟩
   .exact h.elim
theorem AI{tk:TypeId->ec}{T:TypeId}{x i:Y}{K:Y->Prop}(h:uh P tk T x i K):∃v,(∀w,(Instr.index T x i).run P w=.ok v w)/\K v:=by
 unfold uh at h;split at h
 .rename_i k n
  split at h
  .rename_i len elem a
   split at h
   .obtain⟨c,h⟩:=h
    obtain⟨v,f,e⟩:=AH h;refine⟨v,λw=>?_,e⟩;have hs:(Go.sizeOf elem).run P w=.ok (P.cellsOf elem) w:=by
     unfold rV at h
     cases he:P.underlying elem with
     |none=>simp[he]at h
     |some d=>exact h6 he
    simp[Instr.index,asIntOf,dj a,c,hs,f]
   .exact h.elim
  .rename_i a
   split at h
   .rename_i s
    obtain⟨c,b,hs,e⟩:=h;have g:s[n.toNat]? =some b:=by
     obtain⟨h1,h2⟩:=jV.1 hs;have j:n.toNat<s.size:=by simpa using h1
     rw[getElem?_pos s n.toNat j];simp only[Option.some.injEq];rw[←h2];rfl
    exact⟨_,λw=>by simp[Instr.index,asIntOf,dj a,c,g],e⟩
   .exact h.elim
  .exact h.elim
 .exact h.elim
theorem AJ{tk:TypeId->ec}{T:TypeId}{x:Y}{i:Nat}{K:Y->Prop}(h:ui P tk T x i K):∃v,(∀w,(Instr.field T x i).run P w=.ok v w)/\K v:=by
 unfold ui at h;split at h
 .rename_i fs a
  split at h
  .rename_i f hf
   split at h
   .obtain⟨v,b,c⟩:=AH h
    exact⟨v,λw=>by simp[Instr.field,dj a,hf,asAgg,b],c⟩
   .exact h.elim
  .exact h.elim
 .exact h.elim
theorem kP{v:av Y}{y d:Nat}{c:BoundsCode}{K:Nat->Prop}(h:lq v y d K):
 (v=none/\K d)\/∃u n,v=some u/\(∀w,(Instr.sliceBound u y c).run P w=.ok n w)/\K n:=by
 unfold lq at h;split at h
 .exact .inl ⟨rfl,h⟩
 .exact .inr ⟨_,_,rfl,λw=>by simp[Instr.sliceBound,asIntOf,h.1],h.2⟩
 .exact h.elim
theorem AK{T:TypeId}{x:Y}{lo hi o:av Y}{K:Y->Prop}(h:uj P T x lo hi o K):
 ∃v,(∀w,(Instr.sliceAt T x lo hi o).run P w=.ok v w)/\K v:=by
 unfold uj at h;split at h
 .rename_i f
  split at h
  .rename_i s
   rcases kP (P:=P) (c:=.sliceAlen) h with ⟨e,h1⟩|⟨u,n,e,i,h1⟩
   .rcases kP (P:=P) (c:=.sliceB) h1 with ⟨b,h2⟩|⟨l,bz,b,g,h2⟩
    .exact⟨_,λw=>by simp[Instr.sliceAt,Instr.slice,dj f,Instr.sliceBounds,e,b],h2⟩
    .exact⟨_,λw=>by simp[Instr.sliceAt,Instr.slice,dj f,Instr.sliceBounds,e,b,g],h2⟩
   .rcases kP (P:=P) (c:=.sliceB) h1 with ⟨b,h2⟩|⟨l,bz,b,g,h2⟩
    .exact⟨_,λw=>by simp[Instr.sliceAt,Instr.slice,dj f,Instr.sliceBounds,e,b,i],h2⟩
    .exact⟨_,λw=>by simp[Instr.sliceAt,Instr.slice,dj f,Instr.sliceBounds,e,b,i,g],h2⟩
  .exact h.elim
 .rename_i elem f
  by_cases he:(P.underlying elem).isSome=true
  .rw[he]at h
   simp only[cond_true]at h;obtain⟨d,hd⟩:=kq _ he;have j:=λw:J=>h6 (w:=w) hd;split at h
   .rename_i a len cap
    split at h
    .rcases kP (P:=P) (c:=.sliceAcap) h with ⟨e,h1⟩|⟨u,n,e,i,h1⟩
     .rcases kP (P:=P) (c:=.sliceB) h1 with ⟨b,h2⟩|⟨l,bz,b,g,h2⟩
      .exact⟨_,λw=>by simp[Instr.sliceAt,Instr.slice,dj f,Instr.sliceBounds,j,aO,e,b],h2⟩
      .exact⟨_,λw=>by simp[Instr.sliceAt,Instr.slice,dj f,Instr.sliceBounds,g,j,aO,e,b],h2⟩
     .rcases kP (P:=P) (c:=.sliceB) h1 with ⟨b,h2⟩|⟨l,bz,b,g,h2⟩
      .exact⟨_,λw=>by simp[Instr.sliceAt,Instr.slice,dj f,Instr.sliceBounds,i,j,aO,e,b],h2⟩
      .exact⟨_,λw=>by simp[Instr.sliceAt,Instr.slice,dj f,Instr.sliceBounds,i,g,j,aO,e,b],h2⟩
    .split at h
     .exact h.elim
     .rcases kP (P:=P) (c:=.slice3Acap) h with ⟨k,h1⟩|⟨u,n,k,i,h1⟩
      .cases k
      .cases k
       rcases kP (P:=P) (c:=.slice3B) h1 with ⟨k,h2⟩|⟨q,bW,k,p,h2⟩
       .cases k
       .cases k
        rcases kP (P:=P) (c:=.slice3C) h2 with ⟨b,m⟩|⟨l,bz,b,g,m⟩
        .exact⟨_,λw=>by simp[Instr.sliceAt,Instr.slice,dj f,Instr.sliceBounds,i,p,j,aO,b],m⟩
        .exact⟨_,λw=>by simp[Instr.sliceAt,Instr.slice,dj f,Instr.sliceBounds,i,p,g,j,aO,b],m⟩
   .exact h.elim
  .simp only[fx]at he;rw[he]at h;exact h.elim
 .rename_i n elem f
  by_cases he:(P.underlying elem).isSome=true
  .rw[he]at h
   simp only[cond_true]at h;obtain⟨d,hd⟩:=kq _ he;have j:=λw:J=>h6 (w:=w) hd;split at h
   .rename_i A
    rcases kP (P:=P) (c:=.sliceAlen) h with ⟨e,h1⟩|⟨u,bW,e,i,h1⟩
    .rcases kP (P:=P) (c:=.sliceB) h1 with ⟨b,h2⟩|⟨l,bz,b,g,h2⟩
     .refine⟨_,λw=>?_,h2⟩
      simp[Instr.sliceAt,dj f,Instr.sureAddr,Instr.sliceBounds,j,aO,e,b];try (split<;>rfl)
     .refine⟨_,λw=>?_,h2⟩
      simp[Instr.sliceAt,dj f,Instr.sureAddr,Instr.sliceBounds,g,j,aO,e,b];try (split<;>rfl)
    .rcases kP (P:=P) (c:=.sliceB) h1 with ⟨b,h2⟩|⟨l,bz,b,g,h2⟩
     .refine⟨_,λw=>?_,h2⟩
      simp[Instr.sliceAt,dj f,Instr.sureAddr,Instr.sliceBounds,i,j,aO,e,b];try (split<;>rfl)
     .refine⟨_,λw=>?_,h2⟩
      simp[Instr.sliceAt,dj f,Instr.sureAddr,Instr.sliceBounds,i,g,j,aO,e,b];try (split<;>rfl)
   .exact h.elim
  .simp only[fx]at he;rw[he]at h;exact h.elim
 .exact h.elim
theorem xP{n:Int}(h0:0<=n)(h1:n<=9223372036854775807):IntKind.i64.wrap n=n:=by
 have e:n%18446744073709551616=n:=Int.emod_eq_of_lt h0 I;simp[IntKind.wrap,IntKind.signed,IntKind.bits,e];omega
theorem EZ{T:TypeId}{l c:Y}{K:Y->J->Prop}(h:xO P T l c w K):
 ∃v w',(Instr.makeSlice T l c).run P w=.ok v w'/\K v w':=by
 unfold xO at h;split at h
 .rename_i elem e
  by_cases he:(P.underlying elem).isSome=true
  .rw[he]at h
   simp only[cond_true]at h;by_cases a:((P.info? elem).bind (·.zero)).isSome=true
   .rw[a]at h
    simp only[cond_true]at h;split at h
    .rename_i k n s m
     obtain⟨⟨h0,h1,h2,f⟩,g⟩:=h;obtain⟨d,hd⟩:=kq _ he;obtain⟨i,hi⟩:=info_of_underlying hd;obtain⟨z,b⟩:=ng.1 a;simp only[hi,Option.bind_some]at b;have j:P.bytesOf elem=i.bytes:=by simp[Program.bytesOf,hi]
     have hc:P.cellsOf elem=i.size:=by simp[Program.cellsOf,hi]
     rw[j]at f;have o:=xP h0 I;have p:=xP (n:=m) I h2;refine⟨_,_,?_,g⟩;have q:¬(m<0):=by omega
     have r:¬(281474976710656<(i.bytes:Int)*m):=by omega
     simp[Instr.makeSlice,dj e,asInt,asIntOf,nt hi,o,p,q,r,h6 hd,show¬n<0 from I,show¬m<n from I];by_cases hs:m.toNat*P.cellsOf elem=0
     .simp[hs,newRow,newObj,Sem.run,hK]
     .simp[zeroValue,nt hi,b,newRow,newObj,Sem.run,hK,hs,hi]
    .exact h.elim
   .simp only[fx]at a;rw[a]at h;exact h.elim
  .simp only[fx]at he;rw[he]at h;exact h.elim
 .exact h.elim
end
def ak(w:J)(K:J->Prop):Prop:=K w
def xQ(s:ByteArray)(n:Nat):av UInt8:=s.data.toList[n]?
def cellAt(cs:Array Y)(n:Nat):av Y:=cs[n]?
def jD(k:IntKind)(a b:Int):Int:=k.wrap ((BitVec.ofInt k.bits a&&&BitVec.ofInt k.bits b).toNat:Int)
def nv(k:IntKind)(a b:Int):Int:=k.wrap ((BitVec.ofInt k.bits a|||BitVec.ofInt k.bits b).toNat:Int)
def oI(k:IntKind)(a b:Int):Int:=k.wrap ((BitVec.ofInt k.bits a^^^BitVec.ofInt k.bits b).toNat:Int)
def AL(k:IntKind)(a b:Int):Int:=k.wrap ((BitVec.ofInt k.bits a&&&~~~BitVec.ofInt k.bits b).toNat:Int)
def rW(P:Program)(o:Oper)(K:Y->J->Prop)(e:Env)(w:J):Prop:=
 bif known e o.op.operands then
  match (execOp (ro e) o).run P w with
  | .ok (.value v) w'=>ak w' λw1=>K v w1
  |_=>False
 else False
def AM(P:Program)(tk:TypeId->ec)(T:TypeId):ec:=
 match P.underlying T with
 |some (.slice e)=>tk e
 |_=>.one (.one .agg)
def c5.E0:c5->al
 | .slice=>true
 |_=>false
def AN:ec->al
 | .one (.one .agg)=>true
 | .one (.flat ls)=>ls.any c5.E0
 |_=>false
def gen(P:Program)(tk:TypeId->ec)(o:Oper)(K:Y->J->Prop)(e:Env)(w:J):Prop:=
 bif known e o.op.operands then
  match (execOp (ro e) o).run P w with
  | .ok (.value v) w'=>K v w'
  | .ok .skip w'=>K undef w'
  | .ok (.enter f args) w'=>Calls P f args w' λa b=>iB (tk o.type) λv=>a=.returned v/\K v b
  |_=>False
 else False
def h7(P:Program)(f:FuncId):Prop:=∃fn,P.funcs[f]? =some fn/\(fn.name== "runtime.NumGoroutine")=false/\fn.body.isNone=false
theorem AO{P:Program}{f:FuncId}(h:h7 P f)(args:Array Y)(w:J):(callFunc f args).run P w=.ok (.enter f args) w:=by
 obtain⟨fn,h1,h2,a⟩:=h;have b:¬fn.name= "runtime.NumGoroutine" :=by simpa using h2
 have c:¬fn.body=none:=by
  intro h;rw[h]at a;cases a
 simp[callFunc,program,Sem.run,bind,Sem.bind,h1,b,c,pure]
def xR:Op->al
 | .select _ _=>true
 |_=>false
def AP(P:Program)(T:TypeId):Operand->al
 | .const _=>false
 |_=>oH (P.underlying T)||mB (P.underlying T)
def E1(P:Program)(op:BinOp)(T:TypeId)(rU qb:Operand)(x y:Y)(b:al):Prop:=
 ∀w,Sem.run P (do eqGuard op T rU qb x y;binOp op T x y:Sem Y) w=.ok (.bool b) w
def qc:Operand->Y->al
 | .const _,_=>true
 |_,.nilIface=>false
 |_,_=>true
def j1(P:Program)(tk:TypeId->ec)(o:Oper)(K:Y->J->Prop)(e:Env)(w:J):Prop:=
 match o.op with
 | .nilCheck x=>match ev e x with
  |some (.pointer p)=>∃A,p=some A/\K (.pointer (some A)) w
  |_=>False
 | .load T x=>match ev e x with
  |some (.pointer (some A))=>p9 P tk T A w λv=>K v w
  |_=>False
 | .store T x y=>match ev e x,ev e y with
  |some (.pointer (some A)),some v=>xN P tk T A v w λw'=>ak w' λw1=>K undef w1
  |_,_=>False
 | .binOp op T x y _=>match ev e x,ev e y with
  |some a,some q=>bif AP P T y then (∃b:al,E1 P op T x y a q b/\K (.bool b) w) else
   bif qc y q then uc P op T a q (λv=>K v w) (gen P tk o K e w) else False
  |_,_=>False
 | .indexAddr T x i=>match ev e x,ev e i with
  |some a,some g=>ug P T a g λv=>K v w
  |_,_=>False
 | .index T x i=>match ev e x,ev e i with
  |some a,some g=>uh P tk T a g λv=>K v w
  |_,_=>False
 | .field T x i=>match ev e x with
  |some a=>ui P tk T a i λv=>K v w
  |_=>False
 | .alloc _=>rW P o K e w
 | .box _ _=>rW P o K e w
 | .buildSlice T n ps=>bif AN (AM P tk T) then
  (bif known e o.op.operands then
    iB (tk o.type) λr=>∃w1,(Instr.buildSlice T n (ps.map λp=>(p.1,ro e p.2))).run P w=.ok r w1/\K r w1
  else False)
  else rW P o K e w
 | .slice T x lo hi u=>bif known e o.op.operands then
  uj P T (ro e x) (lo.map (ro e)) (hi.map (ro e)) (u.map (ro e)) λv=>K v w
  else False
 | .makeSlice T l c=>match ev e l,ev e c with
  |some z,some B=>xO P T z B w λv w'=>ak w' λw1=>K v w1
  |_,_=>False
 | .convert s d x=>match ev e x with
  |some (.int j n)=>bif (P.underlying s).isSome then
   match P.underlying d with
   |some (.int k)=>K (.int k (k.wrap n)) w
   |_=>iB (tk o.type) λr=>∃w1,(convert s d (.int j n)).run P w=.ok r w1/\K r w1
   else False
  |some v=>iB (tk o.type) λr=>∃w1,(convert s d v).run P w=.ok r w1/\K r w1
  |none=>False
 | .build t ps=>match tk t with
  | .one (.flat _)=>gen P tk o K e w
  |_=>bif known e o.op.operands then
   ∃cs:Array Y,(Instr.build t (ps.map λp=>(p.1,ro e p.2))).run P w=.ok (.agg cs) w/\K (.agg cs) w
   else False
 | .lookup T m i ok=>match ev e m,ev e i with
  |some jE,some g=>iB (tk o.type) λr=>∃w1,(Instr.lookup T jE g ok).run P w=.ok r w1/\K r w1
  |_,_=>False
 | .mapUpdate T m i x=>match ev e m,ev e i,ev e x with
  |some jE,some g,some a=>∃w1,(Instr.mapUpdate T jE g a).run P w=.ok () w1/\K undef w1
  |_,_,_=>False
 | .makeMap T r=>bif known e o.op.operands then iB (tk o.type) λv=>∃w1,(Instr.makeMap T (r.map (ro e))).run P w=.ok v w1/\K v w1 else False
 | .range T x=>match ev e x with
  |some a=>∃v w1,(Instr.range T a).run P w=.ok v w1/\K v w1
  |_=>False
 | .next it h=>match ev e it with
  |some a=>(bif h then ∃ (n:Int) (c:Int) (w1:J),(Instr.next a h o.type).run P w=.ok (.tuple #[.bool true,.int .i64 n,.int .i32 c]) w1/\K (.tuple #[.bool true,.int .i64 n,.int .i32 c]) w1
   else ∃ (k:Y) (v:Y) (w1:J),(Instr.next a h o.type).run P w=.ok (.tuple #[.bool true,k,v]) w1/\K (.tuple #[.bool true,k,v]) w1)\/
   (∃w1:J,(Instr.next a h o.type).run P w=.ok (.tuple #[.bool false]) w1/\K (.tuple #[.bool false]) w1)
  |_=>False
 | .call c=>match c.callee with
  | .value (.tmp k)=>match e.get k with
   |some (.func (.func f) pre cap)=>bif known e o.op.operands then
    h7 P f/\Calls P f (pre++c.args.map (ro e)++cap) w λC w1=>iB (tk o.type) λv=>C=.returned v/\K v w1
    else False
   |_=>gen P tk o K e w
  | .builtin .append=>bif known e o.op.operands then iB (tk o.type) λr=>∃w1,(Builtin.append_ c.argTypes o.type (c.args.map (ro e))).run P w=.ok r w1/\K r w1 else False
  | .builtin .copy=>bif known e o.op.operands then iB (tk o.type) λr=>∃w1,(Builtin.copy_ c.argTypes o.type (c.args.map (ro e))).run P w=.ok r w1/\K r w1 else False
  | .builtin .min=>bif known e o.op.operands then iB (tk o.type) λr=>∃w1,(Builtin.min_ c.argTypes o.type (c.args.map (ro e))).run P w=.ok r w1/\K r w1 else False
  | .builtin .max=>bif known e o.op.operands then iB (tk o.type) λr=>∃w1,(Builtin.max_ c.argTypes o.type (c.args.map (ro e))).run P w=.ok r w1/\K r w1 else False
  | .builtin .delete=>bif known e o.op.operands then ∃r w1,(Builtin.delete_ c.argTypes o.type (c.args.map (ro e))).run P w=.ok r w1/\K r w1 else False
  | .value (.func f)=>match P.funcs[f]? with
   |some fn=>match fn.body with
    |some _=>gen P tk o K e w
    |none=>bif known e o.op.operands then iB (tk o.type) λr=>∃w1,(callFunc f (c.args.map (ro e))).run P w=.ok (.value r) w1/\K r w1 else False
   |none=>False
  | .builtin .unsafeString=>bif known e o.op.operands then iB (tk o.type) λr=>∃w1,(Builtin.unsafeString_ c.argTypes o.type (c.args.map (ro e))).run P w=.ok r w1/\K r w1 else False
  | .builtin .unsafeSliceData=>bif known e o.op.operands then iB (tk o.type) λr=>∃w1,(Builtin.unsafeSliceData_ c.argTypes o.type (c.args.map (ro e))).run P w=.ok r w1/\K r w1 else False
  | .builtin .clear=>bif known e o.op.operands then ∃r w1,(Builtin.clear_ c.argTypes o.type (c.args.map (ro e))).run P w=.ok r w1/\K r w1 else False
  | .builtin .len=>match ((c.args.map (ro e))[0]? :av Y) with
   |some (Value.map _)=>bif known e o.op.operands then iB (tk o.type) λr=>∃w1,(Builtin.len_ c.argTypes o.type (c.args.map (ro e))).run P w=.ok r w1/\K r w1 else False
   |_=>gen P tk o K e w
  |_=>gen P tk o K e w
 | .sliceToArrayPointer T x=>match ev e x with
  |some a=>uf P T a λv=>K v w
  |_=>False
 | .mapEntry T m i=>match ev e m,ev e i with
  |some jE,some g=>∃ (v0:Y) (st:Int) (w1:J),(Instr.mapEntry T jE g).run P w=.ok (.tuple #[v0,.int .i64 st]) w1/\K (.tuple #[v0,.int .i64 st]) w1
  |_,_=>False
 | .entryStore T m s x=>match ev e m,ev e s,ev e x with
  |some jE,some vs,some a=>∃w1,(Instr.entryStore T jE vs a).run P w=.ok () w1/\K undef w1
  |_,_,_=>False
 | .entry it=>match ev e it with
  |some a=>iB (tk o.type) λv=>∃w1,(Instr.entry a).run P w=.ok v w1/\K v w1
  |_=>False
 | .select _ _=>False
 |_=>gen P tk o K e w
def mC(P:Program)(o:Oper)(a:Act)(w:J)(K:Y->J->Prop):Prop:=
 (∃v w',(execOp a.eval o).run P w=.ok (.value v) w'/\K v w')\/
 (∃w',(execOp a.eval o).run P w=.ok .skip w'/\K undef w')\/
 (∃f args w',(execOp a.eval o).run P w=.ok (.enter f args) w'/\Calls P f args w' λb c=>∃v,b=.returned v/\K v c)
theorem mC.wp{P:Program}{o:Oper}{a:Act}{w:J}{K:Y->J->Prop}{next:Act->J->Prop}{Q:Exit->Act->J->Prop}
 (h:mC P o a w K) (c:∀v w',K v w'->next (a.put o.dst v) w'):o.wp P a w next Q:=by
 unfold Oper.wp;rcases h with ⟨v,w',h,b⟩|⟨w',h,b⟩|⟨f,args,w',h,hc⟩
 .rw[h];exact c _ _ b
 .rw[h];exact c _ _ b
 .rw[h]
  exact hc.mono λe g ⟨v,d,b⟩=>by subst d;exact c _ _ b
section
variable {P:Program}{tk:TypeId->ec}{o:Oper}{K:Y->J->Prop}{e:Env}{a:Act}{w:J}
theorem E2(aq:dE e a){xs:Array Operand}(h:known e xs=true):∀x∈xs,a.eval x=ro e x:=by
 intro x hx;exact aq.ro (pX.1 h x (by simpa using hx))
theorem kQ(aq:dE e a)(hs:xR o.op=false)(h:known e o.op.operands=true):execOp a.eval o=execOp (ro e) o:=
 execOp_congr o (λcs b hc=>by rw[hc]at hs;cases hs) (E2 aq h)
theorem oJ(aq:dE e a)(hs:xR o.op=false)(h:gen P tk o K e w):mC P o a w K:=by
 unfold gen at h;by_cases c:known e o.op.operands=true
 .rw[c]at h
  simp only[cond_true]at h;have hc:=kQ aq hs c;unfold mC;rw[hc];split at h
  .rename_i v w' b
   exact .inl ⟨v,w',b,h⟩
  .rename_i w' b
   exact .inr (.inl ⟨w',b,h⟩)
  .rename_i f args w' b
   refine .inr (.inr ⟨f,args,w',b,h.mono λg i d=>?_⟩);exact iR d
  .exact h.elim
 .simp only[fx]at c
  rw[c]at h;exact h.elim
theorem xS(aq:dE e a)(hs:xR o.op=false)(h:rW P o K e w):mC P o a w K:=by
 unfold rW at h;by_cases b:known e o.op.operands=true
 .rw[b]at h
  simp only[cond_true]at h;have hc:=kQ aq hs b;unfold mC;rw[hc];split at h
  .rename_i v w' c
   exact .inl ⟨v,w',c,h⟩
  .exact h.elim
 .simp only[fx]at b
  rw[b]at h;exact h.elim
theorem xT:∀ {ls:O c5}{A:ag}{i:Nat}{K:O Y->Prop},xM ls A i w K->∃vs,a8 w A i ls.length=some vs/\K vs
 | [],_,_,_,h=>⟨[],rfl,h⟩
 |l::ls,A,i,K,h=>by
  obtain⟨v,a,h⟩:=p6 h
  obtain⟨vs,b,h⟩:=xT h
  exact⟨v::vs,by simp[a8,a,b],h⟩
theorem AQ{T:TypeId}{A:ag}{K:Y->Prop}(h:p9 P tk T A w K):∃v,(Instr.loadAt T (.pointer (some A))).run P w=.ok v w/\K v:=by
 have e:(Instr.loadAt T (.pointer (some A))).run P w=(loadVar T A).run P w:=by simp[Instr.loadAt,Instr.sureAddr]
 rw[e];unfold p9 at h;split at h
 .exact h.elim
 .rename_i d b
  cases hd:h5 d with
  |true=>
   rw[hd]at h;simp only[cond_true]at h;split at h
   .rename_i ls _
    by_cases a:Nat.beq (P.cellsOf T) ls.length=true
    .rw[a]at h
     simp only[cond_true]at h;obtain⟨vs,c,h⟩:=xT h;rw[←iM a]at c;exact⟨_,ua b hd c,h⟩
    .simp only[fx]at a;rw[a]at h;exact h.elim
   .obtain⟨cs,hc,h⟩:=h
    exact⟨_,ua b hd hc,h⟩
  |false=>
   rw[hd]at h;simp only[cond_false]at h;split at h
   .obtain⟨v,f,h⟩:=p6 h
    exact⟨v,Ax b hd f,h⟩
   .exact h.elim
theorem xU{v:Y}(h:Plain v):v.cells= #[v]:=by cases v<;>first|rfl|exact h.elim
theorem add_zero'(A:ag):A.add 0=A:=rfl
theorem E3{T:TypeId}{A:ag}{x:Y}{K:J->Prop}(h:xN P tk T A x w K):
 ∃w',(Instr.storeAt T (.pointer (some A)) x).run P w=.ok () w'/\K w':=by
 have f:(Instr.storeAt T (.pointer (some A)) x).run P w=(storeVar T A x).run P w:=by simp[Instr.storeAt,Instr.sureAddr]
 rw[f];unfold xN at h;split at h
 .exact h.elim
 .rename_i d c
  cases hd:h5 d with
  |true=>
   rw[hd]at h;simp only[cond_true]at h;split at h
   .rename_i cs
    exact⟨_,Ay (v:=.agg cs) c h.2.1 h.1,h.2.2⟩
   .exact h.elim
  |false=>
   rw[hd]at h;simp only[cond_false]at h;have one:∀ (b:Plain x) (a:Nat.beq (P.cellsOf T) 1=true),((∃u,w.cell? A=some u)/\w.frozen? A=false/\K (w.setCell A x))->∃w',(storeVar T A x).run P w=.ok () w'/\K w':=by
    intro b a ⟨⟨u,hu⟩,hf,g⟩;refine⟨_,Ay (v:=x) c ?_ ?_,?_⟩
    .rw[xU b,iM a];rfl
    .rw[xU b]
     refine⟨λi hi=>?_,λv j=>?_⟩
     .have:i=0:=by simpa using hi
      subst this;rw[add_zero',hu];exact⟨rfl,hf⟩
     .have:v=x:=by simpa using j
      subst this;exact b
    .rw[xU b]
     exact g
   by_cases a:Nat.beq (P.cellsOf T) 1=true
   .have e:=a
    rw[a]at h;simp only[cond_true]at h;split at h
    .exact one h.1 e h.2
    .split at h
     .exact h.elim
     .exact h.elim
     .rename_i h1 h2
      refine one ?_ e h
      cases x<;>first|exact trivial|(exact absurd rfl (h1 _))|(exact absurd rfl (h2 _))
   .simp only[fx]at a;rw[a]at h;exact h.elim
theorem uk(aq:dE e a)(h:j1 P tk o K e w):mC P o a w K:=by
 unfold j1 at h;split at h
 case h_1 x j=>
  split at h
  .rename_i p hx
   obtain⟨A,rfl,g⟩:=h;exact .inl ⟨_,_,by simp[execOp,j,aq.ev hx],g⟩
  .exact h.elim
 case h_2 T x j=>
  split at h
  .rename_i A hx
   obtain⟨v,B,g⟩:=AQ h;exact .inl ⟨v,w,by simp[execOp,j,aq.ev hx,B],g⟩
  .exact h.elim
 case h_3 T x y j=>
  split at h
  .rename_i A v hx H
   obtain⟨w',S,g⟩:=E3 h;exact .inr (.inl ⟨w',by simp[execOp,j,aq.ev hx,aq.ev H,S],g⟩)
  .exact h.elim
 case h_4 op T x y ab j=>
  split at h
  .rename_i D Q hx H
   by_cases N:AP P T y=true
   .rw[N]at h
    simp only[cond_true]at h;obtain⟨b,z,g⟩:=h;exact .inl ⟨_,w,by
     simp only[execOp,j,aq.ev hx,aq.ev H];have G:=z w;simp only[Sem.run_bind]at G⊢;rw[G];rfl,g⟩
   simp only[fx]at N;rw[N]at h;simp only[cond_false]at h;by_cases I:qc y Q=true
   .rw[I]at h
    simp only[cond_true]at h;have U:Q=.nilIface->∃c,y=.const c:=by
     intro B;subst B
     cases y<;>simp[qc]at I⊢
    rcases AE (rU:=x) (qb:=y) U h with hg|⟨v,B,g⟩
    .exact oJ aq (by rw[j];rfl) hg
    .exact .inl ⟨v,w,by
      simp only[execOp,j,aq.ev hx,aq.ev H];have G:=B w;simp only[Sem.run_bind]at G⊢;rw[G];rfl,g⟩
   .simp only[fx]at I;rw[I]at h;exact h.elim
  .exact h.elim
 case h_5 T x i j=>
  split at h
  .rename_i D L hx hi
   obtain⟨v,B,g⟩:=AG h;exact .inl ⟨v,w,by simp[execOp,j,aq.ev hx,aq.ev hi,B],g⟩
  .exact h.elim
 case h_6 T x i j=>
  split at h
  .rename_i D L hx hi
   obtain⟨v,B,g⟩:=AI h;exact .inl ⟨v,w,by simp[execOp,j,aq.ev hx,aq.ev hi,B],g⟩
  .exact h.elim
 case h_7 T x i j=>
  split at h
  .rename_i D hx
   obtain⟨v,B,g⟩:=AJ h;exact .inl ⟨v,w,by simp[execOp,j,aq.ev hx,B],g⟩
  .exact h.elim
 case h_8 T j=>exact xS aq (by rw[j];rfl) h
 case h_9 T x j=>exact xS aq (by rw[j];rfl) h
 case h_10 T n ps j=>
  cases R:AN (AM P tk T) with
  |true=>
   rw[R]at h;simp only[cond_true]at h;by_cases u:known e o.op.operands=true
   .rw[u]at h
    simp only[cond_true]at h;have hc:=kQ aq (by rw[j];rfl) u;obtain⟨r,w1,q,g⟩:=iR h;exact .inl ⟨r,w1,by rw[hc];simp[execOp,j];rw[q];rfl,g⟩
   .simp only[fx]at u;rw[u]at h;exact h.elim
  |false=>
   rw[R]at h;exact xS aq (by rw[j];rfl) h
 case h_11 T x lo hi ac j=>
  by_cases u:known e o.op.operands=true
  .rw[u]at h
   simp only[cond_true]at h;have hc:=kQ aq (by rw[j];rfl) u;obtain⟨v,B,g⟩:=AK h;exact .inl ⟨v,w,by rw[hc];simp[execOp,j,B],g⟩
  .simp only[fx]at u;rw[u]at h;exact h.elim
 case h_12 T l c j=>
  split at h
  .rename_i ad ae V hc
   obtain⟨v,w',B,g⟩:=EZ h;exact .inl ⟨v,w',by simp[execOp,j,aq.ev V,aq.ev hc,B],g⟩
  .exact h.elim
 case h_13 s d x j=>
  split at h
  .rename_i k n hx
   by_cases hs:(P.underlying s).isSome=true
   .rw[hs]at h
    simp only[cond_true]at h;obtain⟨ds,W⟩:=kq _ hs;split at h
    .rename_i af hd
     exact .inl ⟨_,_,by simp[execOp,j,aq.ev hx,convert,dj W,dj hd,Conv.intToInt],h⟩
    .obtain⟨r,w1,q,g⟩:=iR h
     exact .inl ⟨r,w1,by simp[execOp,j,aq.ev hx,q],g⟩
   .simp only[fx]at hs;rw[hs]at h;exact h.elim
  .rename_i v _ hx
   obtain⟨r,w1,q,g⟩:=iR h;exact .inl ⟨r,w1,by simp[execOp,j,aq.ev hx,q],g⟩
  .exact h.elim
 case h_14 t ps j=>
  split at h
  .exact oJ aq (by rw[j];rfl) h
  .by_cases u:known e o.op.operands=true
   .rw[u]at h
    simp only[cond_true]at h;have hc:=kQ aq (by rw[j];rfl) u;obtain⟨cs,q,g⟩:=h;exact .inl ⟨_,_,by rw[hc];simp[execOp,j];rw[q];rfl,g⟩
   .simp only[fx]at u;rw[u]at h;exact h.elim
 case h_15 T m i ok j=>
  split at h
  .rename_i jE L F hi
   obtain⟨r,w1,q,g⟩:=iR h;exact .inl ⟨r,w1,by simp[execOp,j,aq.ev F,aq.ev hi,q],g⟩
  .exact h.elim
 case h_16 T m i x j=>
  split at h
  .rename_i jE L D F hi hx
   obtain⟨w1,q,g⟩:=h;exact .inr (.inl ⟨w1,by simp[execOp,j,aq.ev F,aq.ev hi,aq.ev hx,q],g⟩)
  .exact h.elim
 case h_17 T r j=>
  by_cases u:known e o.op.operands=true
  .rw[u]at h
   simp only[cond_true]at h;have hc:=kQ aq (by rw[j];rfl) u;obtain⟨v,w1,q,g⟩:=iR h;exact .inl ⟨v,w1,by rw[hc];simp[execOp,j,q],g⟩
  .simp only[fx]at u;rw[u]at h;exact h.elim
 case h_18 T x j=>
  split at h
  .rename_i D hx
   obtain⟨v,w1,q,g⟩:=h;exact .inl ⟨v,w1,by simp[execOp,j,aq.ev hx,q],g⟩
  .exact h.elim
 case h_19 it Z j=>
  split at h
  .rename_i D hx
   rcases h with h|⟨w1,q,g⟩
   .cases Z with
    |true=>
     obtain⟨n,c,w1,q,g⟩:=h;exact .inl ⟨_,w1,by simp[execOp,j,aq.ev hx,q],g⟩
    |false=>
     obtain⟨k,v,w1,q,g⟩:=h;exact .inl ⟨_,w1,by simp[execOp,j,aq.ev hx,q],g⟩
   .exact .inl ⟨_,w1,by simp[execOp,j,aq.ev hx,q],g⟩
  .exact h.elim
 case h_20 c j=>
  have E:∀ (b:Builtin) (r:Y) (w1:J),c.callee=.builtin b->known e o.op.operands=true->
   (∀cs,(Go.builtin b c.argTypes o.type cs (c.args.map (ro e))).run P w=.ok (.value r) w1)->K r w1->mC P o a w K:=by
   intro b r w1 z u q g;have hc:=kQ aq (by rw[j];rfl) u;exact .inl ⟨r,w1,by rw[hc];simp[execOp,j,resolve,z,invoke,q],g⟩
  have C:∀ {X:Prop},(bif known e o.op.operands then X else False)->known e o.op.operands=true/\X:=by
   intro X M;by_cases u:known e o.op.operands=true
   .rw[u]at M;exact⟨u,M⟩
   .simp only[fx]at u;rw[u]at M;exact M.elim
  split at h
  .rename_i k z
   split at h
   .rename_i f pre cap hg
    obtain⟨u,aa,h⟩:=C h;have hc:=kQ aq (by rw[j];rfl) u;refine .inr (.inr ⟨f,pre++c.args.map (ro e)++cap,w,?_,h.mono λag w1 h1=>?_⟩)
    .have O:ro e (.tmp k)=.func (.func f) pre cap:=by simp[ro,ev,hg]
     rw[hc];simp[execOp,j,resolve,z,O,Deferred.ofValue,invoke,AO aa]
    .obtain⟨v,B,g⟩:=iR h1
     exact⟨v,B,g⟩
   .exact oJ aq (by rw[j];rfl) h
  .rename_i z
   obtain⟨u,h⟩:=C h;obtain⟨r,w1,q,g⟩:=iR h;exact E _ r w1 z u (λ_=>by simp[Go.builtin,q]) g
  .rename_i z
   obtain⟨u,h⟩:=C h;obtain⟨r,w1,q,g⟩:=iR h;exact E _ r w1 z u (λ_=>by simp[Go.builtin,q]) g
  .rename_i z
   obtain⟨u,h⟩:=C h;obtain⟨r,w1,q,g⟩:=iR h;exact E _ r w1 z u (λ_=>by simp[Go.builtin,q]) g
  .rename_i z
   obtain⟨u,h⟩:=C h;obtain⟨r,w1,q,g⟩:=iR h;exact E _ r w1 z u (λ_=>by simp[Go.builtin,q]) g
  .rename_i z
   obtain⟨u,r,w1,q,g⟩:=C h;exact E _ r w1 z u (λ_=>by simp[Go.builtin,q]) g
  .rename_i f z
   split at h
   .rename_i fn ah
    split at h
    .exact oJ aq (by rw[j];rfl) h
    .obtain⟨u,h⟩:=C h
     obtain⟨r,w1,q,g⟩:=iR h;have hc:=kQ aq (by rw[j];rfl) u;refine .inl ⟨r,w1,?_,g⟩;rw[hc];have O:ro e (.func f)=.func (.func f) #[] #[]:=by simp[ro,ev]
     simp[execOp,j,resolve,z,O,Deferred.ofValue,invoke,q]
   .exact h.elim
  .rename_i z
   obtain⟨u,h⟩:=C h;obtain⟨r,w1,q,g⟩:=iR h;exact E _ r w1 z u (λ_=>by simp[Go.builtin,q]) g
  .rename_i z
   obtain⟨u,h⟩:=C h;obtain⟨r,w1,q,g⟩:=iR h;exact E _ r w1 z u (λ_=>by simp[Go.builtin,q]) g
  .rename_i z
   obtain⟨u,r,w1,q,g⟩:=C h;exact E _ r w1 z u (λ_=>by simp[Go.builtin,q]) g
  .rename_i z
   split at h
   .obtain⟨u,h⟩:=C h
    obtain⟨r,w1,q,g⟩:=iR h;exact E _ r w1 z u (λ_=>by simp[Go.builtin,q]) g
   .exact oJ aq (by rw[j];rfl) h
  .exact oJ aq (by rw[j];rfl) h
 case h_21 T x j=>
  split at h
  .rename_i D hx
   obtain⟨v,B,g⟩:=AF h;exact .inl ⟨v,w,by simp[execOp,j,aq.ev hx,B],g⟩
  .exact h.elim
 case h_22 T m i j=>
  split at h
  .rename_i jE L F hi
   obtain⟨v0,st,w1,q,g⟩:=h;exact .inl ⟨_,w1,by simp[execOp,j,aq.ev F,aq.ev hi,q],g⟩
  .exact h.elim
 case h_23 T m s x j=>
  split at h
  .rename_i jE vs D F hs hx
   obtain⟨w1,q,g⟩:=h;exact .inr (.inl ⟨w1,by simp[execOp,j,aq.ev F,aq.ev hs,aq.ev hx,q],g⟩)
  .exact h.elim
 case h_24 it j=>
  split at h
  .rename_i D hx
   obtain⟨v,w1,q,g⟩:=iR h;exact .inl ⟨v,w1,by simp[execOp,j,aq.ev hx,q],g⟩
  .exact h.elim
 case h_25=>exact h.elim
 case h_26=>
  refine oJ aq ?_ h
  cases j:o.op<;>first|rfl|simp_all
end
end aS
namespace aS
open Go
inductive lr where
 |run
 |split (n:Nat)
 |pure (n:Nat)
 |um (ks:O Kd)
def fb(P:Program)(o:Oper)(e:Env):av Y:=
 match o.op with
 | .move x=>ev e x
 | .assign x=>ev e x
 | .unOp .not _ x=>match ev e x with
  |some (.bool b)=>some (.bool (!b))
  |_=>none
 | .binOp op T x y _=>match ev e y with
  |some (.int f b)=>match ev e x with
   |some (.int k a)=>bif kp k f then
    match op with
    | .add=>some (.int k (k.wrap (a+b)))
    | .sub=>some (.int k (k.wrap (a-b)))
    | .mul=>some (.int k (k.wrap (a*b)))
    | .quo=>match b with
     | .ofNat (.succ m)=>some (.int k (k.wrap (a.tdiv (.ofNat (.succ m)))))
     |_=>none
    | .rem=>match b with
     | .ofNat (.succ m)=>some (.int k (a.tmod (.ofNat (.succ m))))
     |_=>none
    | .and=>some (.int k (k.wrap (BitVec.ofInt k.bits a&&&BitVec.ofInt k.bits b).toNat))
    | .or=>some (.int k (k.wrap (BitVec.ofInt k.bits a|||BitVec.ofInt k.bits b).toNat))
    | .xor=>some (.int k (k.wrap (BitVec.ofInt k.bits a^^^BitVec.ofInt k.bits b).toNat))
    | .eql=>some (.bool (a==b))
    | .neq=>some (.bool (a !=b))
    | .lss=>some (.bool (a<b))
    | .leq=>some (.bool (a<=b))
    | .gtr=>some (.bool (a>b))
    | .geq=>some (.bool (a>=b))
    |_=>none
    else none
   |_=>none
  |some (.bool b)=>match ev e x with
   |some (.bool a)=>match P.underlying T with
    |some .bool=>match op with
     | .eql=>some (.bool (a==b))
     | .neq=>some (.bool (!(a==b)))
     |_=>none
    |_=>none
   |_=>none
  |some (.string b)=>match ev e x with
   |some (.string a)=>match op with
    | .eql=>some (.bool (a.toList==b.toList))
    | .neq=>some (.bool (!(a.toList==b.toList)))
    |_=>none
   |_=>none
  |some (.pointer none)=>match ev e x with
   |some (.pointer p)=>bif mB (P.underlying T) then match op with
    | .eql=>some (.bool p.isNone)
    | .neq=>some (.bool (!p.isNone))
    |_=>none
    else none
   |_=>none
  |some (.slice none _ _)=>match ev e x with
   |some (.slice p _ _)=>bif nu (P.underlying T) then match op with
    | .eql=>some (.bool p.isNone)
    | .neq=>some (.bool (!p.isNone))
    |_=>none
    else none
   |_=>none
  |_=>none
 | .convert s d x=>match ev e x with
  |some (.int _ n)=>match P.underlying d with
   |some (.int k)=>bif (P.underlying s).isSome then some (.int k (k.wrap n)) else none
   |_=>none
  |_=>none
 | .call {callee:=.builtin .len,args:=args,argTypes:=gH}=>match args[0]?,gH[0]? with
  |some x,some T=>match ev e x,P.underlying T with
   |some (.slice _ n _),some (.slice _)=>some (.int .i64 n)
   |some (.string s),some .string=>some (.int .i64 s.size)
   |_,_=>none
  |_,_=>none
 | .call {callee:=.builtin .cap,args:=args,argTypes:=gH}=>match args[0]?,gH[0]? with
  |some x,some T=>match ev e x,P.underlying T with
   |some (.slice _ _ c),some (.slice _)=>some (.int .i64 c)
   |_,_=>none
  |_,_=>none
 |_=>none
def rX(ops:Array Oper)(e:Env)(j:Nat):av Y:=((ops[j]?).bind (·.dst)).bind e.get
def E4(ops:Array Oper)(j:Nat):av Nat:=(ops[j]?).bind (·.dst)
def Ll(o:Oper)(e:Env)(K:al->Prop):Prop:=
 match o.guard with
 |none=>match o.op with
  | .pick x y z=>match ev e x with
   |some (.bool b)=>match ev e (bif b then y else z) with
    |some (.bool r)=>K r
    |_=>False
   |_=>False
  |_=>False
 |some _=>False
def hA(ops:Array Oper)(o:Oper)(e:Env)(run skip:Prop):Prop:=
 match o.guard with
 |none=>run
 |some (j,want)=>match rX ops e j with
  |none=>False
  |some (.bool b)=>bif Bool.xor b want then skip else run
  |some _=>skip
def lW{α:Type}(ops:Array Oper)(o:Oper)(e:Env)(run skip:av α):av α:=
 match o.guard with
 |none=>run
 |some (j,want)=>match rX ops e j with
  |none=>none
  |some (.bool b)=>bif Bool.xor b want then skip else run
  |some _=>skip
def lu(o:Oper)(e:Env):av al:=
 match o.op with
 | .pick x y z=>match ev e x with
  |some (.bool b)=>match ev e (bif b then y else z) with
   |some (.bool r)=>some r
   |_=>none
  |_=>none
 |_=>none
def rY(ops:Array Oper)(o:Oper)(e:Env):av (Nat×al):=
 match o.guard with
 |none=>none
 |some (j,_)=>match E4 ops j with
  |none=>none
  |some s=>match e.get s with
   |some (.bool c)=>some (s,c)
   |_=>none
def mD(ops:Array Oper)(o:Oper)(e:Env):al:=
 match o.guard with
 |none=>true
 |some (j,want)=>match rX ops e j with
  |some (.bool b)=> !(Bool.xor b want)
  |_=>false
def nw(e:Env)(ds:O Nat):al:=e.all λp=> !(ds.any λd=>Nat.beq d p.1)
def b1(l:O Oper):O Nat:=l.filterMap (·.dst)
def ji(P:Program)(ops:Array Oper):Nat->O Oper->O lr->Env->av Env
 |0,_,_,_=>none
 |_+1,[],_,e=>some e
 |n+1,o::rest,.pure m::as,e=>
  match rY ops o e,rest.drop (m-1) with
  |none,_=>
   match lW ops o e none (some undef) with
   |some v=>ji P ops n rest as (dx o.dst v e)
   |none=>none
  |some (s,c),a::b=>
   match ji P ops n (o::rest.take (m-1)) (.run::as.take (m-1)) ((s,.bool true)::e),ji P ops n (o::rest.take (m-1)) (.run::as.take (m-1)) ((s,.bool false)::e) with
   |some d,some f=>
    match lu a d,lu a f with
    |some r1,some aF=>bif mD ops a e&&nw e (b1 (o::rest.take (m-1))) then ji P ops n b (as.drop m) (dx a.dst (.bool (cond c r1 aF)) e) else none
    |_,_=>none
   |_,_=>none
  |_,_=>none
 |n+1,o::rest,_::as,e=>
  match lW ops o e (fb P o e) (some undef) with
  |some v=>ji P ops n rest as (dx o.dst v e)
  |none=>none
 |n+1,o::rest,[],e=>
  match lW ops o e (fb P o e) (some undef) with
  |some v=>ji P ops n rest [] (dx o.dst v e)
  |none=>none
inductive bH {α:Type} (B:α->Prop) (k:α):Prop where
 |mk (h:B k)
theorem bH.out{α:Type}{B:α->Prop}{k:α}(h:bH B k):B k:=by cases h with|mk h=>exact h
def uo(P:Program)(ks:O Kd)(o:Oper)(K:Y->J->Prop)(e:Env)(w:J):Prop:=
 match o.op with
 | .entry it=>match ev e it with
  |some a=>t_ ks λvs=>∃w1,(Instr.entry a).run P w=.ok (.tuple vs.toArray) w1/\K (.tuple vs.toArray) w1
  |_=>False
 |_=>False
theorem E5{P:Program}{ks:O Kd}{o:Oper}{K:Y->J->Prop}{e:Env}{w:J}{a:Act}(aq:dE e a)(h:uo P ks o K e w):mC P o a w K:=by
 unfold uo at h;split at h
 .rename_i it b
  split at h
  .rename_i f hx
   obtain⟨v,w1,c,d⟩:=xK h;exact .inl ⟨_,w1,by simp[execOp,b,aq.ev hx,c],d⟩
  .exact h.elim
 .exact h.elim
def gf(P:Program)(tk:TypeId->ec)(ops:Array Oper):Nat->O Oper->O lr->(Env->J->Prop)->Env->J->Prop
 |0,_,_,_,_,_=>False
 |_+1,[],_,K,e,w=>K e w
 |n+1,o::rest,.um ks::as,K,e,w=>
  hA ops o e (uo P ks o (λv w'=>gf P tk ops n rest as K (dx o.dst v e) w') e w) (gf P tk ops n rest as K (dx o.dst undef e) w)
 |n+1,o::rest,.pure m::as,K,e,w=>
  match rY ops o e,rest.drop (m-1) with
  |none,_=>hA ops o e False (gf P tk ops n rest as K (dx o.dst undef e) w)
  |some (s,c),a::b=>
   match ji P ops n (o::rest.take (m-1)) (.run::as.take (m-1)) ((s,.bool true)::e),ji P ops n (o::rest.take (m-1)) (.run::as.take (m-1)) ((s,.bool false)::e) with
   |some f,some g=>
    match lu a f,lu a g with
    |some r1,some aF=>bif mD ops a e&&nw e (b1 (o::rest.take (m-1))) then gf P tk ops n b (as.drop m) K (dx a.dst (.bool (cond c r1 aF)) e) w else False
    |_,_=>False
   |_,_=>False
  |_,_=>False
 |n+1,o::rest,.split m::as,K,e,w=>
  match rY ops o e,rest.drop (m-1) with
  |none,_=>hA ops o e False (gf P tk ops n rest as K (dx o.dst undef e) w)
  |some (s,c),a::b=>
   bif mD ops a e&&nw e (b1 (o::rest.take (m-1))) then
    bH (λk:al->J->Prop=>
     (c=true->gf P tk ops n (o::rest.take (m-1)) (.run::as.take (m-1)) (λd w'=>match lu a d with|some r=>k r w'|none=>False) ((s,.bool true)::e) w)/\
     (c=false->gf P tk ops n (o::rest.take (m-1)) (.run::as.take (m-1)) (λd w'=>match lu a d with|some r=>k r w'|none=>False) ((s,.bool false)::e) w))
     (λr w'=>gf P tk ops n b (as.drop m) K (dx a.dst (.bool r) e) w')
   else False
  |_,_=>False
 |n+1,o::rest,_::as,K,e,w=>
  hA ops o e (j1 P tk o (λv w'=>gf P tk ops n rest as K (dx o.dst v e) w') e w) (gf P tk ops n rest as K (dx o.dst undef e) w)
 |n+1,o::rest,[],K,e,w=>
  hA ops o e (j1 P tk o (λv w'=>gf P tk ops n rest [] K (dx o.dst v e) w') e w) (gf P tk ops n rest [] K (dx o.dst undef e) w)
structure en(ds:O Nat)(a b:Act):Prop where
 defers:b.defers=a.defers
 size:b.tmps.size=a.tmps.size
 same:∀s,s∉ds->b.tmps[s]? =a.tmps[s]?
theorem en.refl(ds:O Nat)(a:Act):en ds a a:=⟨rfl,rfl,λ_ _=>rfl⟩
theorem en.trans{ds:O Nat}{a b c:Act}(h:en ds a b)(k:en ds b c):en ds a c:=
 ⟨k.defers.trans h.defers,k.size.trans h.size,λs hs=>(k.same s hs).trans (h.same s hs)⟩
theorem en.mono{ds es:O Nat}{a b:Act}(h:en ds a b)(hs:∀s,s∈ds->s∈es):en es a b:=
 ⟨h.defers,h.size,λs c=>h.same s λd=>c (hs s d)⟩
theorem en.put{a:Act}{d:av Nat}{v:Y}{ds:O Nat}(hd:∀k,d=some k->k∈ds):en ds a (a.put d v):=by
 cases d with
 |none=>exact .refl _ _
 |some d=>exact⟨rfl,by simp[Act.put],λs hs=>by
  have:d≠s:=λh=>hs (h▸hd d rfl);simp[Act.put,Array.getElem?_setIfInBounds_ne this]⟩
def gR(a:Act)(ds:O Nat)(K:Env->J->Prop)(x:Exit)(b:Act)(w':J):Prop:=
 x=.normal/\en ds a b/\∃c,dE c b/\K c w'
theorem jj{P:Program}{ops:Array Oper}{Q Q':Exit->Act->J->Prop}(b:∀x a w,Q x a w->Q' x a w):
 ∀ (l:O Oper) (a:Act) (w:J),wpList P ops Q l a w->wpList P ops Q' l a w
 | [],_,_,h=>b _ _ _ h
 |o::l,a,w,h=>by
  simp only[wpList]at h⊢
  split
  .rename_i d
   rw[if_pos d]at h
   refine h.imp (λh=>?_) (λ⟨h1,f,w',h2⟩=>⟨h1,f,w',b _ _ _ h2⟩)
   have:=Oper.wp_mono (Q:=Q) (λa w=>jj b l a w) h
   unfold Oper.wp at this⊢
   revert this
   generalize (execOp a.eval o).run P w=r
   intro this
   cases r with
   |ok aX w'=>
    cases aX<;>simp only[Oper.upon]at this⊢<;>first
     |exact this
     |(exact Calls.mono this λe g he=>by
        cases e with
        |returned v=>exact he
        |panicked c=>exact b _ _ _ he
        |outgrown=>exact let ⟨f,w',h2⟩:=he;⟨f,w',b _ _ _ h2⟩)
   |halt x w'=>cases x<;>simp only[Oper.upon]at this⊢<;>first|exact b _ _ _ this|exact this
  .rename_i d
   rw[if_neg d]at h
   exact jj b l _ _ h
theorem rZ{P:Program}{ops:Array Oper}{Q:Exit->Act->J->Prop}(b:O Oper):
 ∀ (iS:O Oper) (a:Act) (w:J),wpList P ops (λx a w=>x=.normal/\wpList P ops Q b a w) iS a w->wpList P ops Q (iS++b) a w
 | [],_,_,h=>h.2
 |o::l,a,w,h=>by
  simp only[mn,wpList]at h⊢
  split
  .rename_i d
   rw[if_pos d]at h
   rcases h with h|⟨_,f,w',h2,_⟩
   .left
    have:=Oper.wp_mono (λa w=>rZ b l a w) h
    unfold Oper.wp at this⊢
    revert this
    generalize (execOp a.eval o).run P w=r
    intro this
    cases r with
    |ok aX w'=>
     cases aX<;>simp only[Oper.upon]at this⊢<;>first
      |exact this
      |(exact Calls.mono this λe g he=>by
         cases e with
         |returned v=>exact he
         |panicked c=>cases he.1
         |outgrown=>exact let ⟨f,w',h2⟩:=he;by cases h2.1)
    |halt x w'=>cases x<;>simp only[Oper.upon]at this⊢<;>first|(cases this.1;done)|exact this
   .cases h2
  .rename_i d
   rw[if_neg d]at h
   exact rZ b l _ _ h
section
variable {P:Program}{tk:TypeId->ec}{ops:Array Oper}
def mE:Y->av al
 | .bool b=>some b
 |_=>none
theorem r0{e:Env}{a:Act}(aq:dE e a){j:Nat}{v:Y}(h:rX ops e j=some v):
 yielded ops a.tmps j=mE v:=by
 unfold rX at h;unfold yielded
 cases hd:(ops[j]?).bind (·.dst) with
 |none=>rw[hd]at h;simp at h
 |some s=>
  rw[hd]at h;simp only[Option.bind_some]at h⊢;rw[aq.get _ _ h]
  cases v<;>rfl
theorem r2{o:Oper}{e:Env}{a:Act}(aq:dE e a){R S:Prop}(h:hA ops o e R S):
 (Region.wanted o (yielded ops a.tmps)=true/\R)\/(Region.wanted o (yielded ops a.tmps)=false/\S):=by
 unfold hA at h;unfold Region.wanted;split at h
 .rename_i hg;rw[hg];exact .inl ⟨rfl,h⟩
 .rename_i j want hg
  rw[hg];simp only;split at h
  .exact h.elim
  .rename_i b c
   rw[r0 aq c]
   cases b<;>cases want<;>first|exact .inl ⟨rfl,h⟩|exact .inr ⟨rfl,h⟩
  .rename_i v d c
   rw[r0 aq c]
   cases v<;>first|exact absurd rfl (d _)|exact .inr ⟨by cases want<;>rfl,h⟩
theorem AR{o:Oper}{e:Env}{R a S:Prop}(h:hA ops o e R S)(c:R->a):hA ops o e a S:=by
 unfold hA at h⊢;split at h
 .exact c h
 .rename_i j want hg
  split at h
  .exact h
  .rename_i b f
   cases d:Bool.xor b want<;>rw[d]at h<;>first|exact c h|exact h
  .exact h
theorem E6{α:Type}{o:Oper}{e:Env}{R S:av α}{r:α}(h:lW ops o e none S=some r):lW ops o e R S=some r:=by
 unfold lW at h⊢;split at h
 .cases h
 .rename_i j want hg
  split at h
  .exact h
  .rename_i b c
   cases a:Bool.xor b want with
   |true=>rw[a]at h;exact h
   |false=>rw[a]at h;cases h
  .exact h
theorem E7{α:Type}{o:Oper}{e:Env}{a:Act}(aq:dE e a){R S:av α}{r:α}(h:lW ops o e R S=some r):
 (Region.wanted o (yielded ops a.tmps)=true/\R=some r)\/(Region.wanted o (yielded ops a.tmps)=false/\S=some r):=by
 unfold lW at h;unfold Region.wanted;split at h
 .rename_i hg;rw[hg];exact .inl ⟨rfl,h⟩
 .rename_i j want hg
  rw[hg];simp only;split at h
  .cases h
  .rename_i b c
   rw[r0 aq c]
   cases b<;>cases want<;>first|exact .inl ⟨rfl,h⟩|exact .inr ⟨rfl,h⟩
  .rename_i v d c
   rw[r0 aq c]
   cases v<;>first|exact absurd rfl (d _)|exact .inr ⟨by cases want<;>rfl,h⟩
theorem AS{o:Oper}{e:Env}{a:Act}(aq:dE e a){v:Y}(h:fb P o e=some v)(w:J):(execOp a.eval o).run P w=.ok (.value v) w:=by
 unfold fb at h;split at h
 .rename_i x f
  simp[execOp,f,aq.ev h]
 .rename_i x f
  simp[execOp,f,aq.ev h]
 .rename_i t x f
  split at h
  .rename_i b hx
   cases h;simp[execOp,f,aq.ev hx,Op.unary]
  .cases h
 .rename_i op T x y D f
  split at h
  .rename_i u b i
   split at h
   .rename_i k c hx
    by_cases z:k=u
    .subst z
     simp only[kp,decide_true,cond_true]at h;split at h
     case h_4=>
      split at h
      .cases h
       simp[execOp,f,aq.ev hx,aq.ev i,eqGuard,binOp,Op.intDiv];intro r;exfalso;revert r;simp;omega
      .cases h
     case h_5=>
      split at h
      .cases h
       simp[execOp,f,aq.ev hx,aq.ev i,eqGuard,binOp,Op.intDiv];intro r;exfalso;revert r;simp;omega
      .cases h
     all_goals first
      |(cases h;simp[execOp,f,aq.ev hx,aq.ev i,eqGuard,binOp,Op.intArith,Op.intBits,Op.intCmp];done)
      |cases h
    .simp[kp,z]at h
   .cases h
  .rename_i b i
   split at h
   .rename_i c hx
    split at h
    .rename_i g
     have j:∀ (d:Nat) (w:J),(Op.equalIn (d+1) T (.bool c) (.bool b)).run P w=.ok (c==b) w:=by
      intro d w;simp[Op.equalIn,dj g]
     have A:∀w:J,(Op.equal T (.bool c) (.bool b)).run P w=.ok (c==b) w:=λw=>by rw[qa];exact j _ w
     split at h
     .cases h
      simp[execOp,f,aq.ev hx,aq.ev i,eqGuard,binOp,A]
     .cases h
      simp[execOp,f,aq.ev hx,aq.ev i,eqGuard,binOp,A]
     .cases h
    .cases h
   .cases h
  .rename_i b i
   split at h
   .rename_i c hx
    split at h
    .cases h
     have j:(binOp .eql T (.string c) (.string b)).run P w=.ok (.bool (c.toList==b.toList)) w:=rfl;simp only[execOp,f,aq.ev hx,aq.ev i];simp[eqGuard,j]
    .cases h
     have j:(binOp .neq T (.string c) (.string b)).run P w=.ok (.bool (!(c.toList==b.toList))) w:=rfl;simp only[execOp,f,aq.ev hx,aq.ev i];simp[eqGuard,j]
    .cases h
   .cases h
  .rename_i i
   split at h
   .rename_i p hx
    by_cases g:mB (P.underlying T)=true
    .rw[g]at h
     simp only[cond_true]at h;split at h
     .cases h;simp[execOp,f,aq.ev hx,aq.ev i,eqGuard,binOp,ud (P:=P) g]
     .cases h;simp[execOp,f,aq.ev hx,aq.ev i,eqGuard,binOp,ud (P:=P) g]
     .cases h
    .simp only[fx]at g;rw[g]at h;cases h
   .cases h
  .rename_i l c i
   split at h
   .rename_i p _ _ hx
    by_cases g:nu (P.underlying T)=true
    .rw[g]at h
     simp only[cond_true]at h;split at h
     .cases h;simp[execOp,f,aq.ev hx,aq.ev i,eqGuard,binOp,ue (P:=P) g]
     .cases h;simp[execOp,f,aq.ev hx,aq.ev i,eqGuard,binOp,ue (P:=P) g]
     .cases h
    .simp only[fx]at g;rw[g]at h;cases h
   .cases h
  .cases h
 .rename_i s d x f
  split at h
  .rename_i k n hx
   split at h
   .rename_i u hd
    by_cases hs:(P.underlying s).isSome=true
    .rw[hs]at h
     cases h;obtain⟨ds,B⟩:=kq _ hs;simp[execOp,f,aq.ev hx,convert,dj B,dj hd,Conv.intToInt]
    .simp only[fx]at hs;rw[hs]at h;cases h
   .cases h
  .cases h
 .rename_i args gH f
  split at h
  .rename_i x T m q
   split at h
   .rename_i p n c C hx g
    cases h;simp[execOp,f,resolve,invoke,Go.builtin,Builtin.len_,q,m,dj g,aq.ev hx,goInt]
   .rename_i s hx g
    cases h;simp[execOp,f,resolve,invoke,Go.builtin,Builtin.len_,q,m,dj g,aq.ev hx,goInt]
   .cases h
  .cases h
 .rename_i args gH f
  split at h
  .rename_i x T m q
   split at h
   .rename_i p n c C hx g
    cases h;simp[execOp,f,resolve,invoke,Go.builtin,Builtin.cap_,q,m,dj g,aq.ev hx,goInt]
   .cases h
  .cases h
 .cases h
theorem xV{e:Env}{ds:O Nat}{a b:Act}(aq:dE e a)(hd:nw e ds=true)(d:en ds a b):dE e b:=by
 constructor;intro s v hs;have f:∃u,(s,u)∈e:=by
  clear hd aq
  induction e with
  |nil=>cases hs
  |cons p e g=>
   obtain⟨k,u⟩:=p;rw[oF]at hs;by_cases c:k=s
   .subst c;exact⟨u,by simp⟩
   .rw[if_neg c]at hs
    obtain⟨u,hu⟩:=g hs;exact⟨u,by simp[hu]⟩
 obtain⟨u,hu⟩:=f;have h1:=pX.1 hd _ hu;simp only[jh,rH]at h1;rw[d.same s λh=>h1 s h (Nat.beq_refl s)];exact aq.get s v hs
theorem xW{d:Oper}{e:Env}{a:Act}(aq:dE e a){r:al}(h:lu d e=some r)(w:J):
 (execOp a.eval d).run P w=.ok (.value (.bool r)) w:=by
 unfold lu at h;split at h
 .rename_i x y z f
  split at h
  .rename_i b g
   split at h
   .rename_i i c
    cases h;simp only[execOp,f,aq.ev g]
    cases b
    .simp only[cond_false]at c
     simp[asBool,aq.ev c]
    .simp only[cond_true]at c
     simp[asBool,aq.ev c]
   .cases h
  .cases h
 .cases h
theorem xX{c:Oper}{e:Env}{a:Act}(aq:dE e a)(h:mD ops c e=true):Region.wanted c (yielded ops a.tmps)=true:=by
 unfold mD at h;unfold Region.wanted;split at h
 .rename_i hg;rw[hg]
 .rename_i j want hg
  rw[hg];simp only;split at h
  .rename_i b d
   rw[r0 aq d]
   cases b<;>cases want<;>first|rfl|cases h
  .cases h
theorem xY{o:Oper}{e:Env}{s:Nat}{c:al}(h:rY ops o e=some (s,c)):e.get s=some (.bool c):=by
 unfold rY at h;split at h
 .cases h
 .split at h
  .cases h
  .split at h
   .rename_i hs;cases h;exact hs
   .cases h
theorem dE.lit{e:Env}{a:Act}(aq:dE e a){s:Nat}{v:Y}(h:e.get s=some v):dE ((s,v)::e) a:=by
 constructor;intro t u ht;rw[oF]at ht;by_cases b:s=t
 .subst b
  rw[if_pos rfl]at ht
  cases ht;exact aq.get _ _ h
 .rw[if_neg b]at ht
  exact aq.get _ _ ht
theorem xZ{α:Type}(o:α)(rest:O α)(m:Nat){a:α}{b:O α}(h:rest.drop m=a::b):
 o::rest=(o::rest.take m)++(a::b):=by
 rw[←h];simp
theorem E8{b c:al}{α:Type}{x y z:α}(h:(bif b&&c then x else y)=z)(a:y≠z):b=true/\c=true/\x=z:=by
 cases b<;>cases c<;>first|exact absurd h a|exact⟨rfl,rfl,h⟩
theorem AT:∀ (n:Nat) (l:O Oper) (as:O lr) (e j:Env) (a:Act) (w:J),dE e a->(∀d∈b1 l,d<a.tmps.size)->
 ji P ops n l as e=some j->wpList P ops (λx f w'=>x=.normal/\en (b1 l) a f/\dE j f/\w'=w) l a w:=by
 intro n
 induction n with
 |zero=>intro l as e j a w _ _ h;cases h
 |succ n A=>
  intro l as e j a w aq g h;have one:∀ (o:Oper) (rest:O Oper) (D:O lr),(∀d∈b1 (o::rest),d<a.tmps.size)->
   (match lW ops o e (fb P o e) (some undef) with|some v=>ji P ops n rest D (dx o.dst v e)|none=>none)=some j->
   wpList P ops (λx f w'=>x=.normal/\en (b1 (o::rest)) a f/\dE j f/\w'=w) (o::rest) a w:=by
   intro o rest D g h;have H:∀k,o.dst=some k->k∈b1 (o::rest):=λk b=>by simp[b1,b]
   have q:∀k,k∈b1 rest->k∈b1 (o::rest):=λk b=>by
    simp only[b1,rI];split
    .exact b
    .exact jW _ b
   split at h
   .rename_i v t
    have next:∀ (f:Act),f=a.put o.dst v->wpList P ops (λx f w'=>x=.normal/\en (b1 (o::rest)) a f/\dE j f/\w'=w) rest f w:=by
     intro f R;subst R;have b:en (b1 (o::rest)) a (a.put o.dst v):=en.put H;have:=A rest D (dx o.dst v e) j (a.put o.dst v) w (aq.put λk b=>g k (H k b)) (λd hd=>by rw[b.size];exact g d (q d hd)) h;exact jj (λx f w' ⟨h1,h2,S,T⟩=>⟨h1,b.trans (h2.mono q),S,T⟩) _ _ _ this
    rcases E7 aq t with ⟨E,u⟩|⟨E,u⟩
    .simp only[wpList,E,if_true]
     left;unfold Oper.wp;rw[AS aq u w];exact next _ rfl
    .simp only[wpList,E,gp,if_false]
     cases u;exact next _ rfl
   .cases h
  cases l with
  |nil=>
   simp only[ji,Option.some.injEq]at h;subst h;exact⟨rfl,.refl _ _,aq,rfl⟩
  |cons o rest=>
   cases as with
   |nil=>exact one o rest [] g (by simpa only[ji] using h)
   |cons U as=>
    cases U with
    |run=>exact one o rest as g (by simpa only[ji] using h)
    |split m=>exact one o rest as g (by simpa only[ji] using h)
    |um ks=>exact one o rest as g (by simpa only[ji] using h)
    |pure m=>
     simp only[ji]at h;split at h
     .refine one o rest as g ?_
      cases t:lW ops o e none (some undef) with
      |none=>rw[t]at h;cases h
      |some v=>rw[t]at h;rw[E6 t];exact h
     .rename_i s c i p hg hd
      split at h
      .rename_i I K h1 h2
       split at h
       .rename_i r1 aF V W
        obtain⟨X,Y,h⟩:=E8 h (by simp);rw[xZ o rest (m-1) hd]at g⊢;have L:=xY hg;refine rZ _ _ _ _ ?_;have F:∀k,k∈b1 (o::rest.take (m-1))->k∈b1 ((o::rest.take (m-1))++(i::p)):=λk b=>by
         simp only[b1,rJ,c1];exact .inl b
        have B:∀k,k∈b1 (i::p)->k∈b1 ((o::rest.take (m-1))++(i::p)):=λk b=>by
         simp only[b1,rJ,c1];exact .inr b
        have M:∀k,i.dst=some k->k∈b1 (i::p):=λk b=>by simp[b1,b]
        have q:∀k,k∈b1 p->k∈b1 (i::p):=λk b=>by
         simp only[b1,rI];split
         .exact b
         .exact jW _ b
        have fin:∀ (G:Env) (r:al) (a1:Act),en (b1 (o::rest.take (m-1))) a a1->dE G a1->lu i G=some r->r=cond c r1 aF->
         wpList P ops (λx f w'=>x=.normal/\en (b1 ((o::rest.take (m-1))++(i::p))) a f/\dE j f/\w'=w) (i::p) a1 w:=by
         intro G r a1 C Z u aa;have N:=xV aq Y C;simp only[wpList,xX N X,if_true];left;unfold Oper.wp;rw[xW Z u w];simp only[Oper.upon];have Q:en (b1 (i::p)) a1 (a1.put i.dst (.bool r)):=en.put M;have:=A p (as.drop m) (dx i.dst (.bool (cond c r1 aF)) e) j (a1.put i.dst (.bool r)) w
          (by rw[aa];exact N.put λk b=>by rw[C.size];exact g k (B k (M k b)))
          (λd hd=>by rw[Q.size,C.size];exact g d (B d (q d hd))) h
         refine jj (λx f w' ⟨aw,ax,y,z⟩=>⟨aw,(C.mono F).trans ((Q.mono B).trans (ax.mono λk b=>B k (q k b))),y,z⟩) _ _ _ this
        cases c with
        |true=>
         have:=A _ _ _ I a w (aq.lit L) (λd hd=>g d (F d hd)) h1;exact jj (λx f w' ⟨aw,ax,y,z⟩=>⟨aw,by subst z;exact fin I r1 f ax y V rfl⟩) _ _ _ this
        |false=>
         have:=A _ _ _ K a w (aq.lit L) (λd hd=>g d (F d hd)) h2;exact jj (λx f w' ⟨aw,ax,y,z⟩=>⟨aw,by subst z;exact fin K aF f ax y W rfl⟩) _ _ _ this
       .cases h
      .cases h
     .cases h
theorem AU:∀ (n:Nat) (l:O Oper) (as:O lr) (K:Env->J->Prop) (e:Env) (a:Act) (w:J),dE e a->(∀d∈b1 l,d<a.tmps.size)->
 gf P tk ops n l as K e w->wpList P ops (gR a (b1 l) K) l a w:=by
 intro n
 induction n with
 |zero=>intro l as K e a w _ _ h;cases h
 |succ n C=>
  intro l as K e a w aq i h;have one:∀ (o:Oper) (rest:O Oper) (j:O lr),(∀d∈b1 (o::rest),d<a.tmps.size)->
   hA ops o e (j1 P tk o (λv w'=>gf P tk ops n rest j K (dx o.dst v e) w') e w) (gf P tk ops n rest j K (dx o.dst undef e) w)->
   wpList P ops (gR a (b1 (o::rest)) K) (o::rest) a w:=by
   intro o rest j i h;have D:∀k,o.dst=some k->k∈b1 (o::rest):=λk b=>by simp[b1,b]
   have p:∀k,k∈b1 rest->k∈b1 (o::rest):=λk b=>by
    simp only[b1,rI];split
    .exact b
    .exact jW _ b
   have next:∀ (v:Y) (w':J),gf P tk ops n rest j K (dx o.dst v e) w'->wpList P ops (gR a (b1 (o::rest)) K) rest (a.put o.dst v) w':=by
    intro v w' h;have b:en (b1 (o::rest)) a (a.put o.dst v):=en.put D;have:=C rest j K (dx o.dst v e) (a.put o.dst v) w' (aq.put λk b=>i k (D k b)) (λd hd=>by rw[b.size];exact i d (p d hd)) h;exact jj (λx y w' ⟨h1,h2,L⟩=>⟨h1,b.trans (h2.mono p),L⟩) _ _ _ this
   rcases r2 aq h with ⟨z,q⟩|⟨z,q⟩
   .simp only[wpList,z,if_true]
    exact .inl ((uk aq q).wp next)
   .simp only[wpList,z,gp,if_false]
    exact next _ _ q
  have U:∀ (o:Oper) (rest:O Oper) (ks:O Kd) (j:O lr),(∀d∈b1 (o::rest),d<a.tmps.size)->
   hA ops o e (uo P ks o (λv w'=>gf P tk ops n rest j K (dx o.dst v e) w') e w) (gf P tk ops n rest j K (dx o.dst undef e) w)->
   wpList P ops (gR a (b1 (o::rest)) K) (o::rest) a w:=by
   intro o rest ks j i h;have D:∀k,o.dst=some k->k∈b1 (o::rest):=λk b=>by simp[b1,b]
   have p:∀k,k∈b1 rest->k∈b1 (o::rest):=λk b=>by
    simp only[b1,rI];split
    .exact b
    .exact jW _ b
   have next:∀ (v:Y) (w':J),gf P tk ops n rest j K (dx o.dst v e) w'->wpList P ops (gR a (b1 (o::rest)) K) rest (a.put o.dst v) w':=by
    intro v w' h;have b:en (b1 (o::rest)) a (a.put o.dst v):=en.put D;have:=C rest j K (dx o.dst v e) (a.put o.dst v) w' (aq.put λk b=>i k (D k b)) (λd hd=>by rw[b.size];exact i d (p d hd)) h;exact jj (λx y w' ⟨h1,h2,L⟩=>⟨h1,b.trans (h2.mono p),L⟩) _ _ _ this
   rcases r2 aq h with ⟨z,q⟩|⟨z,q⟩
   .simp only[wpList,z,if_true]
    exact .inl ((E5 aq q).wp next)
   .simp only[wpList,z,gp,if_false]
    exact next _ _ q
  cases l with
  |nil=>exact⟨rfl,.refl _ _,e,aq,h⟩
  |cons o rest=>
   cases as with
   |nil=>exact one o rest [] i (by simpa only[gf] using h)
   |cons V as=>
    cases V with
    |run=>exact one o rest as i (by simpa only[gf] using h)
    |um ks=>exact U o rest ks as i (by simpa only[gf] using h)
    |split m=>
     simp only[gf]at h;split at h
     .exact one o rest as i (AR h False.elim)
     .rename_i s c f g hg hd
      obtain⟨M,N,h⟩:mD ops f e=true/\nw e (b1 (o::rest.take (m-1)))=true/\_:=by
       cases h1:mD ops f e<;>cases h2:nw e (b1 (o::rest.take (m-1)))<;>rw[h1,h2]at h<;>first|exact h.elim|exact⟨rfl,rfl,h⟩
      rw[xZ o rest (m-1) hd]at i⊢;have E:=xY hg;refine rZ _ _ _ _ ?_;have A:∀k,k∈b1 (o::rest.take (m-1))->k∈b1 ((o::rest.take (m-1))++(f::g)):=λk b=>by
       simp only[b1,rJ,c1];exact .inl b
      have t:∀k,k∈b1 (f::g)->k∈b1 ((o::rest.take (m-1))++(f::g)):=λk b=>by
       simp only[b1,rJ,c1];exact .inr b
      have F:∀k,f.dst=some k->k∈b1 (f::g):=λk b=>by simp[b1,b]
      have p:∀k,k∈b1 g->k∈b1 (f::g):=λk b=>by
       simp only[b1,rI];split
       .exact b
       .exact jW _ b
      have fin:∀ (x:Exit) (a1:Act) (w1:J),gR a (b1 (o::rest.take (m-1)))
       (λW w'=>match lu f W with|some r=>gf P tk ops n g (as.drop m) K (dx f.dst (.bool r) e) w'|none=>False) x a1 w1->
       x=.normal/\wpList P ops (gR a (b1 ((o::rest.take (m-1))++(f::g))) K) (f::g) a1 w1:=by
       rintro x a1 w1 ⟨hx,u,I,Q,h⟩;refine⟨hx,?_⟩;have G:=xV aq N u;split at h
       .rename_i r q
        simp only[wpList,xX G M,if_true];left;unfold Oper.wp;rw[xW Q q w1];simp only[Oper.upon];have H:en (b1 (f::g)) a1 (a1.put f.dst (.bool r)):=en.put F;have:=C g (as.drop m) K (dx f.dst (.bool r) e) (a1.put f.dst (.bool r)) w1
         (G.put λk b=>by rw[u.size];exact i k (t k (F k b)))
         (λd hd=>by rw[H.size,u.size];exact i d (t d (p d hd))) h
        refine jj (λx y w' ⟨aw,ax,B⟩=>⟨aw,(u.mono A).trans ((H.mono t).trans (ax.mono λk b=>t k (p k b))),B⟩) _ _ _ this
       .exact h.elim
      have h:=h.out
      cases c with
      |true=>
       have:=C _ _ _ _ a w (aq.lit E) (λd hd=>i d (A d hd)) (h.1 rfl);exact jj fin _ _ _ this
      |false=>
       have:=C _ _ _ _ a w (aq.lit E) (λd hd=>i d (A d hd)) (h.2 rfl);exact jj fin _ _ _ this
     .exact h.elim
    |pure m=>
     simp only[gf]at h;split at h
     .exact one o rest as i (AR h False.elim)
     .rename_i s c f g hg hd
      split at h
      .rename_i S T h1 h2
       split at h
       .rename_i r1 aF X Z
        obtain⟨M,N,h⟩:mD ops f e=true/\nw e (b1 (o::rest.take (m-1)))=true/\_:=by
         cases aw:mD ops f e<;>cases ax:nw e (b1 (o::rest.take (m-1)))<;>rw[aw,ax]at h<;>first|exact h.elim|exact⟨rfl,rfl,h⟩
        rw[xZ o rest (m-1) hd]at i⊢;have E:=xY hg;refine rZ _ _ _ _ ?_;have A:∀k,k∈b1 (o::rest.take (m-1))->k∈b1 ((o::rest.take (m-1))++(f::g)):=λk b=>by
         simp only[b1,rJ,c1];exact .inl b
        have t:∀k,k∈b1 (f::g)->k∈b1 ((o::rest.take (m-1))++(f::g)):=λk b=>by
         simp only[b1,rJ,c1];exact .inr b
        have F:∀k,f.dst=some k->k∈b1 (f::g):=λk b=>by simp[b1,b]
        have p:∀k,k∈b1 g->k∈b1 (f::g):=λk b=>by
         simp only[b1,rI];split
         .exact b
         .exact jW _ b
        have fin:∀ (I:Env) (r:al) (a1:Act),en (b1 (o::rest.take (m-1))) a a1->dE I a1->lu f I=some r->r=cond c r1 aF->
         wpList P ops (gR a (b1 ((o::rest.take (m-1))++(f::g))) K) (f::g) a1 w:=by
         intro I r a1 u Q q aa;have G:=xV aq N u;simp only[wpList,xX G M,if_true];left;unfold Oper.wp;rw[xW Q q w];simp only[Oper.upon];have H:en (b1 (f::g)) a1 (a1.put f.dst (.bool r)):=en.put F;have:=C g (as.drop m) K (dx f.dst (.bool (cond c r1 aF)) e) (a1.put f.dst (.bool r)) w
          (by rw[aa];exact G.put λk b=>by rw[u.size];exact i k (t k (F k b)))
          (λd hd=>by rw[H.size,u.size];exact i d (t d (p d hd))) h
         refine jj (λx y w' ⟨aw,ax,B⟩=>⟨aw,(u.mono A).trans ((H.mono t).trans (ax.mono λk b=>t k (p k b))),B⟩) _ _ _ this
        cases c with
        |true=>
         have:=AT n _ _ _ S a w (aq.lit E) (λd hd=>i d (A d hd)) h1;exact jj (λx y w' ⟨aw,ax,B,R⟩=>⟨aw,by subst R;exact fin S r1 y ax B X rfl⟩) _ _ _ this
        |false=>
         have:=AT n _ _ _ T a w (aq.lit E) (λd hd=>i d (A d hd)) h2;exact jj (λx y w' ⟨aw,ax,B,R⟩=>⟨aw,by subst R;exact fin T aF y ax B Z rfl⟩) _ _ _ this
       .exact h.elim
      .exact h.elim
     .exact h.elim
end
end aS
namespace aS
open Go
structure af(W:Nat->Prop)(w w':J):Prop where
 os:w'.os=w.os
 tape:w'.tape=w.tape
 output:w'.output=w.output
 size:w.heap.size<=w'.heap.size
 block:∀k,k<w.heap.size->¬W k->w'.heap[k]? =w.heap[k]?
theorem af.refl(W:Nat->Prop)(w:J):af W w w:=⟨rfl,rfl,rfl,bt _,λ_ _ _=>rfl⟩
theorem af.trans{W:Nat->Prop}{a b c:J}(h:af W a b)(k:af W b c):af W a c:=
 ⟨k.os.trans h.os,k.tape.trans h.tape,k.output.trans h.output,eC h.size k.size,λi hi d=>(k.block i (fP hi h.size) d).trans (h.block i hi d)⟩
theorem af.mono{W V:Nat->Prop}{a b:J}(h:af W a b)(c:∀k,k<a.heap.size->W k->V k):af V a b:=
 ⟨h.os,h.tape,h.output,h.size,λi hi d=>h.block i hi λcK=>d (c i hi cK)⟩
theorem af.cell{W:Nat->Prop}{w w':J}(h:af W w w'){A:ag}(cK:¬W A.block){v:Y}(a:w.cell? A=some v):w'.cell? A=some v:=by
 have b:A.block<w.heap.size:=by
  rcases eu A.block w.heap.size with h1|h1
  .exact h1
  .simp[World.cell?,Array.getElem?_eq_none h1]at a
 unfold World.cell? at a⊢;rw[h.block _ b cK];exact a
theorem af.a8{W:Nat->Prop}{w w':J}(h:af W w w'){A:ag}(cK:¬W A.block):∀ (n i:Nat) (vs:O Y),a8 w A i n=some vs->a8 w' A i n=some vs
 |0,_,_,a=>a
 |n+1,i,vs,a=>by
  simp only[aS.a8]at a⊢
  have b:(A.add i).block=A.block:=by unfold Addr.add;split<;>rfl
  cases h1:w.cell? (A.add i) with
  |none=>simp[h1]at a
  |some v=>
   cases h2:aS.a8 w A (i+1) n with
   |none=>simp[h1,h2]at a
   |some us=>
    simp only[h1,h2]at a
    rw[h.cell (by rw[b];exact cK) h1,af.a8 h cK n (i+1) us h2]
    exact a
def gg{α:Type}:Sem α->Prop
 | .pure _=>True
 | .program k=>∀p,gg (k p)
 | .halt _=>True
 |_=>False
theorem gg.bind{α β:Type}:∀ {s:Sem α}{f:α->Sem β},gg s->(∀a,gg (f a))->gg (s>>=f)
 | .pure a,_,_,hf=>hf a
 | .program _,_,h,hf=> λp=>gg.bind (h p) hf
 | .halt _,_,_,_=>trivial
 | .load ..,_,h,_=>h.elim
 | .store ..,_,h,_=>h.elim
 | .new ..,_,h,_=>h.elim
 | .shape ..,_,h,_=>h.elim
 | .freeze ..,_,h,_=>h.elim
 | .frozen ..,_,h,_=>h.elim
 | .getObj ..,_,h,_=>h.elim
 | .setObj ..,_,h,_=>h.elim
 | .choose ..,_,h,_=>h.elim
 | .sys ..,_,h,_=>h.elim
 | .mark ..,_,h,_=>h.elim
theorem gg.run{α:Type}{P:Program}:∀ {s:Sem α}{w w':J}{v:α},gg s->s.run P w=.ok v w'->∀u,s.run P u=.ok v u
 | .pure a,w,w',v,_,h,u=>by
  simp only[Sem.run,Result.ok.injEq]at h⊢
  exact⟨h.1,trivial⟩
 | .program k,w,w',v,hf,h,u=>gg.run (hf P) h u
 | .halt _,w,w',v,_,h,_=>by simp[Sem.run]at h
 | .load ..,_,_,_,h,_,_=>h.elim
 | .store ..,_,_,_,h,_,_=>h.elim
 | .new ..,_,_,_,h,_,_=>h.elim
 | .shape ..,_,_,_,h,_,_=>h.elim
 | .freeze ..,_,_,_,h,_,_=>h.elim
 | .frozen ..,_,_,_,h,_,_=>h.elim
 | .getObj ..,_,_,_,h,_,_=>h.elim
 | .setObj ..,_,_,_,h,_,_=>h.elim
 | .choose ..,_,_,_,h,_,_=>h.elim
 | .sys ..,_,_,_,h,_,_=>h.elim
 | .mark ..,_,_,_,h,_,_=>h.elim
theorem AV:gg program:=λ_=>trivial
theorem AW(t:TypeId):gg (underlying t):=by
 unfold underlying;refine gg.bind AV λp=>?_;split<;>trivial
theorem E9(t:TypeId):gg (typeInfo t):=by
 unfold typeInfo;refine gg.bind AV λp=>?_;split<;>trivial
theorem E_(t:TypeId):gg (Go.sizeOf t):=gg.bind (E9 t) λ_=>trivial
theorem Fa(t:TypeId):gg (isAgg t):=by
 unfold isAgg;refine gg.bind (AW t) λd=>?_;split<;>trivial
theorem Fb(t:TypeId)(cs:Array Y)(off:Nat):gg (part t cs off):=by
 unfold part;refine gg.bind (Fa t) λd=>?_;split
 .exact gg.bind (E_ t) λ_=>trivial
 .split<;>trivial
theorem Fc(t:TypeId)(x:Y)(i:Nat):gg (Instr.field t x i):=by
 unfold Instr.field;refine gg.bind (AW t) λd=>?_;split
 .split
  .refine gg.bind ?_ λ_=>Fb _ _ _
   unfold asAgg;split<;>trivial
  .trivial
 .trivial
def AX:Op->al
 | .move _=>true
 | .assign _=>true
 | .pick _ _ _=>true
 | .field _ _ _=>true
 |_=>false
def r3(P:Program)(o:Oper)(K:Y->Prop)(e:Env)(w:J):Prop:=
 bif AX o.op&&known e o.op.operands then
  match (execOp (ro e) o).run P w with
  | .ok (.value v) _=>K v
  |_=>False
 else False
def qd(P:Program)(o:Oper)(K:Y->Prop)(e:Env):Prop:=
 match fb P o e with
 |some v=>K v
 |none=>False
def AY(P:Program)(T:TypeId)(x:Y)(i:Nat)(K:Y->Prop):Prop:=
 match P.underlying T with
 |some (.struct fs)=>match fs[i]? with
  |some f=>match x with
   | .pointer (some A)=>match P.underlying f.type with
    |some _=>bif Nat.beq (P.cellsOf f.type) 0 then False else K (.pointer (some (A.add f.offset)))
    |none=>False
   |_=>False
  |none=>False
 |_=>False
def AZ(x:Y)(i:Nat)(K:Y->Prop):Prop:=
 match x with
 | .tuple vs=>match vs[i]? with
  |some v=>K v
  |none=>False
 |_=>False
def j2(o:Oper):al:=
 match o.op with
 | .load _ _=>true
 | .convert _ _ _=>true
 |_=>false
def lv:Nat->O Oper->Nat
 |_,[]=>0
 |i,o::l=>bif j2 o then 2^i|||lv (i+1) l else lv (i+1) l
def x0(P:Program)(tk:TypeId->ec)(W:Nat->Prop)(w:J)(o:Oper)(K:Y->Prop)(e:Env):Prop:=
 match o.op with
 | .nilCheck x=>match ev e x with
  |some (.pointer p)=>∃A,p=some A/\K (.pointer (some A))
  |_=>False
 | .load T x=>match ev e x with
  |some (.pointer (some A))=>¬W A.block/\p9 P tk T A w K
  |_=>False
 | .binOp op T x y _=>match ev e x,ev e y with
  |some a,some c=>bif qc y c then uc P op T a c K (qd P o K e) else False
  |_,_=>False
 | .indexAddr T x i=>match ev e x,ev e i with
  |some a,some b=>ug P T a b K
  |_,_=>False
 | .index T x i=>match ev e x,ev e i with
  |some a,some b=>uh P tk T a b K
  |_,_=>False
 | .field T x i=>match ev e x with
  |some a=>ui P tk T a i K
  |_=>False
 | .fieldAddr T x i=>match ev e x with
  |some a=>AY P T a i K
  |_=>False
 | .extract x i=>match ev e x with
  |some a=>AZ a i K
  |_=>False
 | .slice T x lo hi f=>bif known e o.op.operands then
  uj P T (ro e x) (lo.map (ro e)) (hi.map (ro e)) (f.map (ro e)) K
  else False
 | .convert s d x=>match ev e x with
  |some (.int _ _)=>qd P o K e
  |some v=>iB (tk o.type) λr=>(∀w',af W w w'->(convert s d v).run P w'=.ok r w')/\K r
  |none=>False
 | .build t ps=>bif known e o.op.operands then
  ∃cs:Array Y,(∀w',(Instr.build t (ps.map λp=>(p.1,ro e p.2))).run P w'=.ok (.agg cs) w')/\K (.agg cs)
  else False
 | .unOp _ _ _=>qd P o K e
 | .call _=>qd P o K e
 | .move _=>r3 P o K e w
 | .assign _=>r3 P o K e w
 | .pick _ _ _=>r3 P o K e w
 | .sliceToArrayPointer T x=>match ev e x with
  |some a=>uf P T a K
  |_=>False
 |_=>False
section
variable {P:Program}{tk:TypeId->ec}{W:Nat->Prop}{o:Oper}{K:Y->Prop}{e:Env}{a:Act}{w:J}
theorem x1(aq:dE e a)(h:r3 P o K e w):∃v,(∀w',(execOp a.eval o).run P w'=.ok (.value v) w')/\K v:=by
 unfold r3 at h
 cases hf:AX o.op with
 |false=>rw[hf]at h;exact h.elim
 |true=>
  cases c:known e o.op.operands with
  |false=>rw[hf,c]at h;exact h.elim
  |true=>
   rw[hf,c]at h;simp only[Bool.and_self,cond_true]at h;have hc:=kQ aq (by cases b:o.op<;>rw[b]at hf<;>first|rfl|cases hf) c;rw[hc];split at h
   .rename_i v w' d
    refine⟨v,λu=>gg.run ?_ d u,h⟩
    cases b:o.op<;>rw[b]at hf<;>first|(cases hf;done)|skip
    .simp only[execOp,b];trivial
    .simp only[execOp,b];trivial
    .simp only[execOp,b]
     refine gg.bind ?_ λ_=>trivial;unfold asBool;split<;>trivial
    .simp only[execOp,b]
     exact gg.bind (Fc _ _ _) λ_=>trivial
   .exact h.elim
theorem uq(aq:dE e a)(h:qd P o K e):∃v,(∀w',(execOp a.eval o).run P w'=.ok (.value v) w')/\K v:=by
 unfold qd at h;split at h
 .rename_i v b
  exact⟨v,AS aq b,h⟩
 .exact h.elim
theorem Fe(aq:dE e a)(h:x0 P tk W w o K e):∃v,(∀w',(j2 o=true->af W w w')->(execOp a.eval o).run P w'=.ok (.value v) w')/\K v:=by
 have a7:(∃v,(∀w',(execOp a.eval o).run P w'=.ok (.value v) w')/\K v)->∃v,(∀w',(j2 o=true->af W w w')->(execOp a.eval o).run P w'=.ok (.value v) w')/\K v:=
  λ⟨v,h1,h2⟩=>⟨v,λw' _=>h1 w',h2⟩
 unfold x0 at h;split at h
 case h_1 x b=>
  split at h
  .rename_i p hx
   obtain⟨A,rfl,g⟩:=h;exact⟨_,λw' _=>by simp[execOp,b,aq.ev hx],g⟩
  .exact h.elim
 case h_2 T x b=>
  split at h
  .rename_i A hx
   obtain⟨cK,h⟩:=h;have key:∃v,(∀w',af W w w'->(Instr.loadAt T (.pointer (some A))).run P w'=.ok v w')/\K v:=by
    have z:∀w',(Instr.loadAt T (.pointer (some A))).run P w'=(loadVar T A).run P w':=λw'=>by simp[Instr.loadAt,Instr.sureAddr]
    unfold p9 at h;split at h
    .exact h.elim
    .rename_i d m
     cases hd:h5 d with
     |true=>
      rw[hd]at h;simp only[cond_true]at h;split at h
      .rename_i ls _
       by_cases n:Nat.beq (P.cellsOf T) ls.length=true
       .rw[n]at h
        simp only[cond_true]at h;obtain⟨vs,C,h⟩:=xT h;rw[←iM n]at C;exact⟨_,λw' hc=>by rw[z,ua m hd (hc.a8 cK _ _ _ C)],h⟩
       .simp only[fx]at n;rw[n]at h;exact h.elim
      .obtain⟨cs,F,h⟩:=h
       exact⟨_,λw' hc=>by rw[z,ua m hd (hc.a8 cK _ _ _ F)],h⟩
     |false=>
      rw[hd]at h;simp only[cond_false]at h;split at h
      .obtain⟨v,j,h⟩:=p6 h
       exact⟨v,λw' hc=>by rw[z,Ax m hd (hc.cell cK j)],h⟩
      .exact h.elim
   obtain⟨v,j,g⟩:=key;exact⟨v,λw' hc=>by simp[execOp,b,aq.ev hx,j w' (hc (by unfold j2;rw[b]))],g⟩
  .exact h.elim
 case h_3 op T x y L b=>
  split at h
  .rename_i l D hx G
   by_cases q:qc y D=true
   .rw[q]at h
    simp only[cond_true]at h;have H:D=.nilIface->∃c,y=.const c:=by
     intro j;subst j
     cases y<;>simp[qc]at q⊢
    rcases AE (rU:=x) (qb:=y) H h with hg|⟨v,j,g⟩
    .exact a7 (uq aq hg)
    .exact⟨v,λw' _=>by
      simp only[execOp,b,aq.ev hx,aq.ev G];have E:=j w';simp only[Sem.run_bind]at E⊢;rw[E];rfl,g⟩
   .simp only[fx]at q;rw[q]at h;exact h.elim
  .exact h.elim
 case h_4 T x i b=>
  split at h
  .rename_i l I hx hi
   obtain⟨v,j,g⟩:=AG h;exact⟨v,λw' _=>by simp[execOp,b,aq.ev hx,aq.ev hi,j],g⟩
  .exact h.elim
 case h_5 T x i b=>
  split at h
  .rename_i l I hx hi
   obtain⟨v,j,g⟩:=AI h;exact⟨v,λw' _=>by simp[execOp,b,aq.ev hx,aq.ev hi,j],g⟩
  .exact h.elim
 case h_6 T x i b=>
  split at h
  .rename_i l hx
   obtain⟨v,j,g⟩:=AJ h;exact⟨v,λw' _=>by simp[execOp,b,aq.ev hx,j],g⟩
  .exact h.elim
 case h_7 T x i b=>
  split at h
  .rename_i l hx
   unfold AY at h;split at h
   .rename_i fs m
    split at h
    .rename_i f hf
     split at h
     .rename_i A
      split at h
      .rename_i d hd
       cases u:Nat.beq (P.cellsOf f.type) 0 with
       |true=>rw[u]at h;exact h.elim
       |false=>
        rw[u]at h;have J:¬P.cellsOf f.type=0:=λh0=>by rw[h0]at u;cases u
        exact⟨_,λw' _=>by simp[execOp,b,aq.ev hx,Instr.fieldAt,dj m,hf,Instr.sureAddr,fieldPlace,h6 hd,J],h⟩
      .exact h.elim
     .exact h.elim
    .exact h.elim
   .exact h.elim
  .exact h.elim
 case h_8 x i b=>
  split at h
  .rename_i l hx
   unfold AZ at h;split at h
   .rename_i vs
    split at h
    .rename_i v j
     exact⟨v,λw' _=>by simp[execOp,b,aq.ev hx,Instr.extract,j],h⟩
    .exact h.elim
   .exact h.elim
  .exact h.elim
 case h_9 T x lo hi M b=>
  by_cases k:known e o.op.operands=true
  .rw[k]at h
   simp only[cond_true]at h;have hc:=kQ aq (by rw[b];rfl) k;obtain⟨v,j,g⟩:=AK h;exact⟨v,λw' _=>by rw[hc];simp[execOp,b,j],g⟩
  .simp only[fx]at k;rw[k]at h;exact h.elim
 case h_10 s d x b=>
  split at h
  .exact a7 (uq aq h)
  .rename_i v _ hx
   obtain⟨r,B,g⟩:=iR h;exact⟨r,λw' hc=>by simp[execOp,b,aq.ev hx,B w' (hc (by unfold j2;rw[b]))],g⟩
  .exact h.elim
 case h_11 t ps b=>
  by_cases k:known e o.op.operands=true
  .rw[k]at h
   simp only[cond_true]at h;have hc:=kQ aq (by rw[b];rfl) k;obtain⟨cs,B,g⟩:=h;exact⟨_,λw' _=>by rw[hc];simp[execOp,b];rw[B];rfl,g⟩
  .simp only[fx]at k;rw[k]at h;exact h.elim
 case h_12=>exact a7 (uq aq h)
 case h_13=>exact a7 (uq aq h)
 case h_14=>exact a7 (x1 aq h)
 case h_15=>exact a7 (x1 aq h)
 case h_16=>exact a7 (x1 aq h)
 case h_17 T x b=>
  split at h
  .rename_i l hx
   obtain⟨v,j,g⟩:=AF h;exact⟨v,λw' _=>by simp[execOp,b,aq.ev hx,j],g⟩
  .exact h.elim
 case h_18=>exact h.elim
end
inductive aQ where
 |take (i:Nat) (t:aQ)
 |bR (i:Nat) (t:aQ)
 |out (i:Nat) (b:al) (t:aQ)
 |two (i:Nat) (t:aQ) (j:Nat) (u:aQ)
 |three (i:Nat) (t:aQ) (j:Nat) (u:aQ) (k:Nat) (v:aQ)
 |sp (s:Nat) (t u:aQ)
 |fin
 |tail (as:O lr)
def iD:O Nat->Nat
 | []=>0
 |d::l=>2^d|||iD l
theorem mF:∀ (l:O Nat) (k:Nat),(iD l).testBit k=decide (k∈l)
 | [],k=>by simp[iD]
 |d::l,k=>by
  simp only[iD,nh,mF l k,rK]
  by_cases h:d=k
  .subst h;simp
  .have:¬k=d:=λa=>h a.symm
   simp[h,this]
def nx(o:Oper):O Nat:=(o.after.toList.filter λe=>Region.binds .any e).map (·.on)
structure kR where
 M:O Nat
 A:O Nat
def kS(l:O Nat)(i:Nat):Nat:=l.getD i 0
def kT(cd:kR)(m i:Nat):al:= !(m.testBit i)&&Nat.beq (kS cd.M i&&&m) (kS cd.M i)
def A0(cd:kR)(N m i:Nat):al:=Nat.beq (kS cd.A i&&&((2^N-1)^^^m)) 0
def ly(cd:kR)(m:Nat)(is:O Nat):Nat->al
 |0=>true
 |k+1=>(is.any (Nat.beq k)|| !(kT cd m k))&&ly cd m is k
def r4(cd:kR):Nat->O Oper->al
 |_,[]=>true
 |i,o::l=>Nat.beq (iD (nx o)) (kS cd.M i)&&r4 cd (i+1) l
def r5(M:O Nat)(a i b c:Nat):Nat->O Nat->O Nat->O Nat->al
 |j,e::f,d::g,h::k=>(a.testBit j||(Nat.beq i j||(e.testBit i||(Nat.beq (b&&&(h|||d)) 0&&Nat.beq (d&&&c) 0))))&&r5 M a i b c (j+1) f g k
 |_,_,_,_=>true
def ur(cd:kR)(D K:O Nat):Nat->O Nat->O Nat->al
 |i,d::a,k::b=>r5 cd.M (kS cd.A i) i d k 0 cd.M D K&&ur cd D K (i+1) a b
 |_,_,_=>true
def A1(ops:O Oper):O Nat:=ops.map λo=>iD o.dst.toList
def A2(a:Array Oper)(ops:O Oper):O Nat:=ops.map λo=>iD (o.looksAt a)
def r6:O Nat->O Nat->al
 | [],[]=>true
 |a::l,b::r=>Nat.beq a b&&r6 l r
 |_,_=>false
theorem x2:∀ {l r:O Nat},r6 l r=true->l=r
 | [],[],_=>rfl
 |a::l,b::r,h=>by
  simp only[r6,dh]at h
  rw[iM h.1,x2 h.2]
def lX(cd:kR)(D K:O Nat)(a:Array Oper):al:=
 Nat.beq cd.M.length a.size&&(r4 cd 0 a.toList&&(r6 (A1 a.toList) D&&(r6 (A2 a a.toList) K&&ur cd D K 0 D K)))
def r7(cd:kR):Nat->Nat->Nat->Nat->al
 |0,_,N,m=>ly cd m [] N
 |g+1,k,N,m=>(kT cd m k&&ly cd m [k] N)&&r7 cd g (k+1) N (m|||2^k)
def eg(P:Program)(tk:TypeId->ec)(ops:Array Oper)(n:Nat)(cd:kR)(W:Nat->Prop):aQ->Nat->Nat->(Env->J->Prop)->Env->J->Prop
 | .take i t,f+1,m,K,e,w=>
  bif kT cd m i&&(A0 cd ops.size m i&&Nat.blt i n) then
   match ops[i]? with
   |some o=>hA ops o e (x0 P tk W w o (λv=>eg P tk ops n cd W t f (m|||2^i) K (dx o.dst v e) w) e) (eg P tk ops n cd W t f (m|||2^i) K (dx o.dst undef e) w)
   |none=>False
  else False
 | .bR i t,f+1,m,K,e,w=>
  bif (kT cd m i&&ly cd m [i] ops.size)&&Nat.blt i n then
   match ops[i]? with
   |some o=>hA ops o e (j1 P tk o (λv w'=>af W w w'/\eg P tk ops n cd W t f (m|||2^i) K (dx o.dst v e) w') e w) (eg P tk ops n cd W t f (m|||2^i) K (dx o.dst undef e) w)
   |none=>False
  else False
 | .out i b t,f+1,m,K,e,w=>
  bif (kT cd m i&&ly cd m [i] ops.size)&&(Nat.blt i n&&Nat.beq ((lv 0 ops.toList&&&m)&&&kS cd.M i) (lv 0 ops.toList&&&m)) then
   match ops[i]? with
   |some o=>hA ops o e (j1 P tk o (λv w'=>bif b then ∃V:Nat->Prop,eg P tk ops n cd V t f (m|||2^i) K (dx o.dst v e) w' else eg P tk ops n cd W t f (m|||2^i) K (dx o.dst v e) w') e w) (eg P tk ops n cd W t f (m|||2^i) K (dx o.dst undef e) w)
   |none=>False
  else False
 | .two i t j u,f+1,m,K,e,w=>
  bif (kT cd m i&&ly cd m [i,j] ops.size)&&(Nat.blt i n&&Nat.blt j n) then
   match ops[i]?,ops[j]? with
   |some o,some q=>
    hA ops o e (j1 P tk o (λv w'=>af W w w'/\eg P tk ops n cd W t f (m|||2^i) K (dx o.dst v e) w') e w) (eg P tk ops n cd W t f (m|||2^i) K (dx o.dst undef e) w)/\
    hA ops q e (j1 P tk q (λv w'=>af W w w'/\eg P tk ops n cd W u f (m|||2^j) K (dx q.dst v e) w') e w) (eg P tk ops n cd W u f (m|||2^j) K (dx q.dst undef e) w)
   |_,_=>False
  else False
 | .three i t j u k x,f+1,m,K,e,w=>
  bif (kT cd m i&&ly cd m [i,j,k] ops.size)&&(Nat.blt i n&&(Nat.blt j n&&Nat.blt k n)) then
   match ops[i]?,ops[j]?,ops[k]? with
   |some o,some q,some r=>
    hA ops o e (j1 P tk o (λv w'=>af W w w'/\eg P tk ops n cd W t f (m|||2^i) K (dx o.dst v e) w') e w) (eg P tk ops n cd W t f (m|||2^i) K (dx o.dst undef e) w)/\
    hA ops q e (j1 P tk q (λv w'=>af W w w'/\eg P tk ops n cd W u f (m|||2^j) K (dx q.dst v e) w') e w) (eg P tk ops n cd W u f (m|||2^j) K (dx q.dst undef e) w)/\
    hA ops r e (j1 P tk r (λv w'=>af W w w'/\eg P tk ops n cd W x f (m|||2^k) K (dx r.dst v e) w') e w) (eg P tk ops n cd W x f (m|||2^k) K (dx r.dst undef e) w)
   |_,_,_=>False
  else False
 | .sp s t u,f,m,K,e,w=>
  match e.get s with
  |some (.bool c)=>(c=true->eg P tk ops n cd W t f m K ((s,.bool true)::e) w)/\(c=false->eg P tk ops n cd W u f m K ((s,.bool false)::e) w)
  |_=>False
 | .fin,0,m,K,e,w=>bif ly cd m [] ops.size&&Nat.beq n ops.size then K e w else False
 | .tail as,0,m,K,e,w=>bif r7 cd (ops.size-n) n ops.size m&&Nat.blt n ops.size then gf P tk ops (ops.size-n+1) (ops.toList.drop n) as K e w else False
 |_,_,_,_,_,_=>False
def eR(N m:Nat):Array al:=(Array.range N).map λi=>m.testBit i
theorem qe{N m i:Nat}{d:al}(h:i<N):(eR N m).getD i d=m.testBit i:=by
 simp[eR,h]
theorem Ff{N m i:Nat}{d:al}(h:N<=i):(eR N m).getD i d=d:=by
 simp[eR,h]
theorem uu(N m i:Nat):(eR N m).setIfInBounds i true=eR N (m|||2^i):=by
 apply Array.ext
 .simp[eR]
 .intro j h1 h2
  have b:j<N:=by simpa[eR] using h2
  have c:j<(eR N m).size:=by simpa[eR] using b
  rw[Array.getElem_setIfInBounds c];simp only[eR,Array.getElem_map,Array.getElem_range,nh,rK];by_cases a:i=j
  .subst a;simp
  .simp[a]
theorem A3(N:Nat):eR N 0=Array.replicate N false:=by
 apply Array.ext
 .simp[eR]
 .intro j h1 h2
  simp[eR]
section
variable {ops:Array Oper}{cd:kR}{D K:O Nat}
theorem A4:∀ (l:O Oper) (i k:Nat) (o:Oper),r4 cd i l=true->l[k]? =some o->kS cd.M (i+k)=iD (nx o)
 | [],_,_,_,_,h=>by simp at h
 |p::l,i,0,o,hc,h=>by
  simp only[r4,dh]at hc
  simp only[ni,Option.some.injEq]at h
  subst h
  exact(iM hc.1).symm
 |p::l,i,k+1,o,hc,h=>by
  simp only[r4,dh]at hc
  have:=A4 l (i+1) k o hc.2 (by simpa using h)
  rw[show i+(k+1)=i+1+k from I]
  exact this
theorem uv(h:lX cd D K ops=true){i:Nat}{o:Oper}(a:ops[i]? =some o):kS cd.M i=iD (nx o):=by
 simp only[lX,dh]at h;have:=A4 ops.toList 0 i o h.2.1 (by simpa using a);simpa using this
theorem A5{a b:Nat}(h:a&&&b=a){k:Nat}(c:a.testBit k=true):b.testBit k=true:=by
 have:=congrArg (λx=>x.testBit k) h;simp only[Nat.testBit_and,c,g9]at this;exact this
theorem A6:∀ (l:O Oper) (i k:Nat) (o:Oper),l[k]? =some o->(lv i l).testBit (i+k)=j2 o
 | [],_,_,_,h=>by simp at h
 |p::l,i,0,o,h=>by
  simp only[ni,Option.some.injEq]at h
  subst h
  have low:∀ (l:O Oper) (i k:Nat),k<i->(lv i l).testBit k=false:=by
   intro l
   induction l with
   |nil=>intro i k _;simp[lv]
   |cons q l a=>
    intro i k b;simp only[lv]
    cases j2 q
    .exact a (i+1) k I
    .simp only[cond_true,nh,rK,a (i+1) k I,Bool.or_false,jX]
     omega
  simp only[lv,lj]
  cases j2 p
  .exact low l (i+1) i I
  .simp[nh]
 |p::l,i,k+1,o,h=>by
  have:=A6 l (i+1) k o (by simpa using h);rw[show i+1+k=i+(k+1) from I]at this;simp only[lv]
  cases j2 p
  .exact this
  .simp only[cond_true,nh,rK,this]
   simp
theorem uw{o:Oper}{k:Nat}:k∈nx o↔∃e∈o.after,Region.binds .any e=true/\e.on=k:=by
 simp only[nx,fy,fU,Array.mem_toList_iff];constructor
 .rintro⟨e,⟨h1,h2⟩,a⟩;exact⟨e,h1,h2,a⟩
 .rintro⟨e,h1,h2,a⟩;exact⟨e,⟨h1,h2⟩,a⟩
def Small(N m:Nat):Prop:=∀k,N<=k->m.testBit k=false
theorem Fg(N:Nat):Small N 0:=λk _=>by simp
theorem ux{N m i:Nat}(h:Small N m)(hi:i<N):Small N (m|||2^i):=λk a=>by
 simp only[nh,h k a,rK,lk,jX]
 omega
theorem uy(hc:lX cd D K ops=true){m i:Nat}(f:Small ops.size m):i∈Region.ready .any ops (eR ops.size m)↔i<ops.size/\kT cd m i=true:=by
 rw[mem_ready];constructor
 .rintro⟨h1,o,a,g⟩
  have hi:i<ops.size:=(mo.1 a).1;refine⟨hi,?_⟩;rw[qe hi]at h1;simp only[kT,h1,Bool.not_false,g9];rw[uv hc a];have:iD (nx o)&&&m=iD (nx o):=by
   apply Nat.eq_of_testBit_eq;intro k;simp only[Nat.testBit_and,mF];by_cases b:k∈nx o
   .obtain⟨e,he,c,j⟩:=uw.1 b
    have h2:=g e he c;rw[j]at h2;rcases eu k ops.size with aJ|l
    .rw[qe aJ]at h2;simp[b,h2]
    .rw[Ff l]at h2;cases h2
   .simp[b]
  rw[this];exact Nat.beq_refl _
 .rintro⟨hi,h⟩
  simp only[kT,dh,jh]at h;have a:ops[i]? =some ops[i]:=by simp[hi]
  refine⟨by rw[qe hi];exact h.1,ops[i],a,λe he c=>?_⟩;have h2:=iM h.2;rw[uv hc a]at h2;have d:m.testBit e.on=true:=A5 h2 (by
   rw[mF];simp only[b_];exact uw.2 ⟨e,he,c,rfl⟩)
  have aJ:e.on<ops.size:=by
   rcases eu e.on ops.size with h|h
   .exact h
   .rw[f _ h]at d;cases d
  rw[qe aJ];exact d
theorem A7:∀ (N:Nat) {m:Nat}{is:O Nat},ly cd m is N=true->∀k,k<N->kT cd m k=true->k∈is
 |0,_,_,_,k,b,_=>by omega
 |N+1,m,is,h,k,b,a=>by
  simp only[ly,dh,jy,jh]at h
  rcases eu k N with h1|h1
  .exact A7 N h.2 k h1 a
  .have:k=N:=by omega
   subst this
   rcases h.1 with h2|h2
   .obtain⟨x,hx,c⟩:=List.any_eq_true.1 h2
    rw[iM c];exact hx
   .rw[a]at h2;cases h2
theorem oK(hc:lX cd D K ops=true){m:Nat}{is:O Nat}(a:Small ops.size m)(h:ly cd m is ops.size=true):
 ∀k∈Region.ready .any ops (eR ops.size m),k∈is:=λk b=>
 let ⟨h1,h2⟩:=(uy hc a).1 b
 A7 _ h k h1 h2
theorem A8:∀ (b c d:O Nat) (n:O Nat) (e i f g j k:Nat) (l a m:Nat),r5 n e i f g j b c d=true->b[k]? =some l->c[k]? =some a->d[k]? =some m->
 e.testBit (j+k)=true\/i=j+k\/l.testBit i=true\/(f&&&(m|||a)=0/\a&&&g=0)
 | [],_,_,_,_,_,_,_,_,_,_,_,_,_,h,_,_=>by simp at h
 |_::_,[],_,_,_,_,_,_,_,_,_,_,_,_,_,h,_=>by simp at h
 |_::_,_::_,[],_,_,_,_,_,_,_,_,_,_,_,_,_,h=>by simp at h
 |p::b,q::c,r::d,n,e,i,f,g,j,k,l,a,m,hc,h1,h2,o=>by
  simp only[r5,dh,jy]at hc
  cases k with
  |zero=>
   simp only[ni,Option.some.injEq]at h1 h2 o
   subst h1 h2 o
   rcases hc.1 with h|h|h|h
   .exact .inl h
   .exact .inr (.inl (iM h))
   .exact .inr (.inr (.inl h))
   .exact .inr (.inr (.inr ⟨iM h.1,iM h.2⟩))
  |succ k=>
   have:=A8 b c d n e i f g (j+1) k l a m hc.2 (by simpa using h1) (by simpa using h2) (by simpa using o)
   rw[show j+(k+1)=j+1+k from I]
   exact this
theorem A9:∀ (a b:O Nat) (i k:Nat) (c e:Nat),ur cd D K i a b=true->a[k]? =some c->b[k]? =some e->
 r5 cd.M (kS cd.A (i+k)) (i+k) c e 0 cd.M D K=true
 | [],_,_,_,_,_,_,h,_=>by simp at h
 |_::_,[],_,_,_,_,_,_,h=>by simp at h
 |d::a,f::b,i,k,c,e,hc,h1,h2=>by
  simp only[ur,dh]at hc
  cases k with
  |zero=>
   simp only[ni,Option.some.injEq]at h1 h2
   subst h1 h2
   exact hc.1
  |succ k=>
   have:=A9 a b (i+1) k c e hc.2 (by simpa using h1) (by simpa using h2)
   rw[show i+(k+1)=i+1+k from I]
   exact this
theorem x3{a b:Nat}(h:a&&&b=0){k:Nat}(c:a.testBit k=true):b.testBit k=false:=by
 have:=congrArg (λx=>x.testBit k) h;simp only[Nat.testBit_and,c,g9,Nat.zero_testBit]at this;exact this
theorem Fh{x y:Oper}(h1:iD x.dst.toList&&&(iD (y.looksAt ops)|||iD y.dst.toList)=0)(h2:iD y.dst.toList&&&iD (x.looksAt ops)=0):
 x.apart ops y=true:=by
 unfold Oper.apart;simp only[dh];refine⟨?_,?_⟩
 .cases hx:x.dst with
  |none=>rfl
  |some d=>
   rw[hx]at h1;have a:=x3 h1 (k:=d) (by rw[mF];simp);simp only[nh,mF,rL,jX]at a;simp only[dh,jh,bne_iff_ne,ne_eq];refine⟨by simpa using a.1,λh=>?_⟩;rw[h]at a;simp at a
 .cases b:y.dst with
  |none=>rfl
  |some d=>
   rw[b]at h2;have a:=x3 h2 (k:=d) (by rw[mF];simp);simp only[mF,jX]at a;simpa using a
theorem Fi(hc:lX cd D K ops=true){m i:Nat}{d:Oper}(hi:ops[i]? =some d)(h:A0 cd ops.size m i=true):
 ∀j a,ops[j]? =some a->j≠i->(eR ops.size m).getD j true=false->(∀e∈a.after,Region.binds .any e=true->e.on≠i)->d.apart ops a=true:=by
 intro j a b p f q;have r:=hc;simp only[lX,dh]at hc;obtain⟨hlen,B,s,t,aq⟩:=hc;have C:=iM hlen;have u:=x2 s;have v:=x2 t;have g:j<ops.size:=(mo.1 b).1;have l:∀ {k:Nat}{o:Oper},ops[k]? =some o->D[k]? =some (iD o.dst.toList):=λ{k o} c=>by
  rw[←u];simp[A1,c]
 have n:∀ {k:Nat}{o:Oper},ops[k]? =some o->K[k]? =some (iD (o.looksAt ops)):=λ{k o} c=>by
  rw[←v];simp[A2,c]
 have w:=A9 D K 0 i _ _ aq (l hi) (n hi);have x:cd.M[j]? =some (kS cd.M j):=by
  unfold kS;have:j<cd.M.length:=by omega
  simp[List.getD,this]
 have:=A8 cd.M D K cd.M _ _ _ _ 0 j _ _ _ w x (l b) (n b);simp only[cF]at this;rcases this with h1|h1|h1|h1
 .exfalso
  have h2:=iM h;have y:=x3 h2 h1;rw[qe g]at f;simp[Nat.testBit_xor,Nat.testBit_two_pow_sub_one,g,f]at y
 .exact absurd h1.symm p
 .exfalso
  rw[uv r b,mF]at h1;simp only[b_]at h1;obtain⟨e,he,z,A⟩:=uw.1 h1;exact q e he z A
 .exact Fh h1.1 h1.2
end
def oL(ops:Array Oper)(listed:Array al)(j:Nat):Prop:=
 ∀k ok a,ops[k]? =some ok->ops[j]? =some a->j2 ok=true->listed.getD k false=true->∃e∈a.after,Region.binds .any e=true/\e.on=k
def lY(P:Program)(ops:Array Oper)(Q:Exit->Act->J->Prop)(n:Nat)(L:Array al->Act->J->Prop):Nat->(J->Prop)->Array al->Act->J->Prop
 |0,_,listed,a,w=>L listed a w
 |f+1,S,listed,a,w=>Region.ready .any ops listed≠ []/\
  ∀i∈Region.ready .any ops listed,i<n/\wpOp P ops Q i (λb w'=>∃aA:J->Prop,((∀x,aA x->S x)\/oL ops listed i)/\aA w'/\lY P ops Q n L f aA (listed.setIfInBounds i true) b w') a w
def r8(ops:Array Oper)(n:Nat):Prop:=
 ∀listed,HeadInv .any ops n listed->∀i,i<n->listed.getD i true=false->∀t,n<=t->t∉Region.ready .any ops listed
theorem Fj(ops:Array Oper):r8 ops ops.size:=by
 intro listed _ i _ _ t ht a;obtain⟨_,o,b,_⟩:=mem_ready.1 a;have:=(mo.1 b).1;omega
theorem Fk{ops:Array Oper}{n:Nat}(hs:Region.sinkB .any ops n=true)(hc:Region.chainB .any ops n=true)(a:n<ops.size):r8 ops n:=
 λ_ inv i hi b t ht=>tail_waits hs hc a inv _ i rfl hi b t ht
section
variable {P:Program}{ops:Array Oper}{Q:Exit->Act->J->Prop}{n:Nat}{L:Array al->Act->J->Prop}
theorem YieldsIf.mono{S aA:J->Prop}{o:Oper}{v:Y}{a:Act}(h:YieldsIf P ops S o v a)(hs:∀x,aA x->S x):YieldsIf P ops aA o v a:=
 h.imp (λ⟨h1,h2⟩=>⟨h1,λw b=>h2 w (hs w b)⟩) id
theorem Fl(E:r8 ops n){i:Nat}{l:Oper}{v:Y}(hi:ops[i]? =some l)(F:∀ (j:Nat) (o:Oper) cs b,ops[j]? =some o->o.op≠ .select cs b)
 (ac:∀c a w,Q (.panic c) (a.put l.dst v) w->Q (.panic c) a w) (G:i<n) (ad:∀listed a w,L listed a w->∀j∈Region.ready .any ops listed,n<=j):
 ∀ (f:Nat) (S T:J->Prop) (listed:Array al) (a:Act) (w:J),(∀x,S x->T x)->(j2 l=true\/∀x,T x)->HeadInv .any ops n listed->
  (∀j q,ops[j]? =some q->j≠i->listed.getD j true=false->(∀e∈q.after,Region.binds .any e=true->e.on≠i)->l.apart ops q=true)->
  i∈Region.ready .any ops listed->YieldsIf P ops T l v a->S w->
  lY P ops Q n L f S (listed.setIfInBounds i true) (a.put l.dst v) w->lY P ops Q n L (f+1) S listed a w:=by
 intro f
 induction f with
 |zero=>
  intro S T listed a w u I inv _ m y s H;have d:=(mem_ready.1 m).1;refine⟨λh=>(by rw[h]at m;cases m),λj r=>?_⟩;have t:j<n:=by
   rcases eu j n with h|h
   .exact h
   .exact absurd r (E listed inv i G d j h)
  refine⟨t,?_⟩;by_cases p:j=i
  .subst p;exact(YieldsIf.mono y u).wpOp hi s ⟨S,.inl λ_ h=>h,s,H⟩
  .have:=ad _ _ _ H j (ready_mono r p)
   omega
 |succ f K=>
  intro S T listed a w u I inv M m y s H;have d:=(mem_ready.1 m).1;refine⟨λh=>(by rw[h]at m;cases m),λj r=>?_⟩;have t:j<n:=by
   rcases eu j n with h|h
   .exact h
   .exact absurd r (E listed inv i G d j h)
  refine⟨t,?_⟩;by_cases p:j=i
  .subst p;exact(YieldsIf.mono y u).wpOp hi s ⟨S,.inl λ_ h=>h,s,H⟩
  .have h1:=(H.2 j (ready_mono r p)).2
   obtain⟨N,q,z,ae⟩:=mem_ready.1 r;have O:∀e∈q.after,Region.binds .any e=true->e.on≠i:=λe he B af=>by
    have h1:=ae e he B;rw[af,getD_both d]at h1
    cases h1
   have h2:=wpOp_putIf z (M j q z p N O) (λcs b=>F i l cs b hi) (λcs b=>F j q cs b z) ac y h1;have R:∀k ok,ops[k]? =some ok->k≠i->(listed.setIfInBounds j true).getD k true=false->
    (∀e∈ok.after,Region.binds .any e=true->e.on≠i)->l.apart ops ok=true:=λk ok C ag d ah=>by
    refine M k ok C ag ?_ ah;by_cases U:j=k
    .subst U;exact N
    .rw[getD_set_ne true U]at d;exact d
   refine wpOp_mono (λV w' ai=>?_) h2;obtain⟨W,aA,X,A,aj⟩:=ai;have D:=aj;rw[←Array.setIfInBounds_comm _ _ p]at D;have ak:oL ops (listed.setIfInBounds i true) j->oL ops listed j:=λam k ok an C ao hs g=>am k ok an C ao hs (by
    by_cases Z:i=k
    .subst Z
     have:listed.getD i true=true:=by
      simp only[Array.getD]at g⊢;split at g
      .rename_i aJ;simp[aJ]at g⊢;exact g
      .cases g
     rw[this]at d;cases d
    .simp only[Array.getD,Array.size_setIfInBounds]at g⊢
     split at g
     .rename_i aJ
      simp only[aJ,dif_pos];simp only[Array.getInternal_eq_getElem]at g⊢;rw[Array.getElem_setIfInBounds_ne _ Z];exact g
     .cases g)
   rcases I with hs|aa
   .have ab:∀x,aA x->S x:=by
     rcases X with h|h
     .exact h
     .exfalso
      obtain⟨e,he,B,ap⟩:=h i l q hi z hs (by
       have aJ:i<listed.size:=by
        rcases eu i listed.size with h|h
        .exact h
        .simp[Array.getD,Nat.not_lt.2 h]at d
       simp[Array.getD,aJ])
      exact O e he B ap
    exact⟨aA,.inl ab,A,K aA T (listed.setIfInBounds j true) V w' (λx hx=>u x (ab x hx)) (.inl hs) (inv.set r t) R (ready_mono m (Ne.symm p)) W A D⟩
   .exact⟨aA,X.imp id ak,A,K aA T (listed.setIfInBounds j true) V w' (λx _=>aa x) (.inr aa) (inv.set r t) R (ready_mono m (Ne.symm p)) W A D⟩
theorem A_{g:Nat}(b:∀listed a w,L listed a w->wpAny P .any ops Q g listed a w):
 ∀ (f:Nat) (S:J->Prop) (listed:Array al) (a:Act) (w:J),lY P ops Q n L f S listed a w->wpAny P .any ops Q (f+g) listed a w
 |0,_,listed,a,w,h=>by rw[cF];exact b _ _ _ h
 |f+1,S,listed,a,w,h=>by
  rw[show f+1+g=(f+g)+1 from I]
  exact⟨λh0=>absurd h0 h.1,λi hi=>wpOp_mono (λc w' ⟨aA,_,_,d⟩=>A_ b f aA _ c w' d) (h.2 i hi).2⟩
def LE(P:Program)(ops:Array Oper)(Q:Exit->Act->J->Prop)(n:Nat)(listed:Array al)(a:Act)(w:J):Prop:=
 (Region.ready .any ops listed=[]/\n=ops.size/\Q .normal a w)\/
 (Region.seqB .any ops (ops.size-n) n listed=true/\n<ops.size/\wpList P ops Q (ops.toList.drop n) a w)
theorem Fm:∀listed a w,LE P ops Q n listed a w->∀j∈Region.ready .any ops listed,n<=j:=by
 rintro listed a w (⟨h,_,_⟩|⟨h,c,_⟩) j b
 .rw[h]at b;cases b
 .exact seqB_ready h j b
theorem Fo:∀listed a w,LE P ops Q n listed a w->wpAny P .any ops Q (ops.size-n) listed a w:=by
 rintro listed a w (⟨h,c,b⟩|⟨h,c,b⟩)
 .subst c
  rw[oe];exact⟨h,b⟩
 .have:=wpAny_of_seq (md:=.any) (P:=P) (Q':=Q) (ops.toList.drop n) n listed a w (λj=>by simp[tJ]) (by simpa using h) b
  simpa using this
end
section
variable {P:Program}{tk:TypeId->ec}{ops:Array Oper}{n:Nat}{cd:kR}{D0 ew:O Nat}{W:Nat->Prop}
theorem Ba(hc:lX cd D0 ew ops=true):∀ (g k m:Nat),Small ops.size m->k+g=ops.size->r7 cd g k ops.size m=true->Region.seqB .any ops g k (eR ops.size m)=true
 |0,k,m,c,e,h=>by
  simp only[r7]at h
  simp only[Region.seqB,List.isEmpty_iff]
  cases f:Region.ready .any ops (eR ops.size m) with
  |nil=>rfl
  |cons x l=>
   have:=oK hc c h x (by rw[f];simp)
   cases this
 |g+1,k,m,c,e,h=>by
  simp only[r7,dh]at h
  simp only[Region.seqB,dh,b_]
  have d:k<ops.size:=by omega
  have b:k∈Region.ready .any ops (eR ops.size m):=(uy hc c).2 ⟨d,h.1.1⟩
  refine⟨?_,?_⟩
  .have a:=oK hc c h.1.2
   have eD:(Region.ready .any ops (eR ops.size m)).Nodup:=by
    unfold Region.ready;exact List.Pairwise.filter _ List.nodup_range
   revert b a eD
   generalize Region.ready .any ops (eR ops.size m)=l;intro b a eD
   match l,b,a,eD with
   | [],b,_,_=>cases b
   | [x],b,a,_=>rw[fz.1 (a x (by simp))]
   |x::y::l,_,a,eD=>
    have hx:=fz.1 (a x (by simp));have i:=fz.1 (a y (by simp));simp[hx,i]at eD
  .rw[uu]
   exact Ba hc g (k+1) (m|||2^k) (ux c d) I h.2
theorem Fp(hc:lX cd D0 ew ops=true)(am:r8 ops n)(aG:n<=ops.size)(an:Region.noSelect ops=true){a0:Act}(ac:∀d∈b1 ops.toList,d<a0.tmps.size):
 ∀ (t:aQ) (W:Nat->Prop) (f:Nat) (m:Nat) (K:Env->J->Prop) (e:Env) (a:Act) (w:J),dE e a->en (b1 ops.toList) a0 a->Small ops.size m->HeadInv .any ops n (eR ops.size m)->
  eg P tk ops n cd W t f m K e w->lY P ops (gR a0 (b1 ops.toList) K) n (LE P ops (gR a0 (b1 ops.toList) K) n) f (af W w) (eR ops.size m) a w:=by
 intro t;have O:∀ (i:Nat) (o:Oper),ops[i]? =some o->∀k,o.dst=some k->k∈b1 ops.toList:=by
  intro i o z k g;simp only[b1,List.mem_filterMap];exact⟨o,by simpa using Array.mem_of_getElem? z,g⟩
 have Q:∀ (W:Nat->Prop) (t:aQ),(∀ (W:Nat->Prop) (f:Nat) (m:Nat) (K:Env->J->Prop) (e:Env) (a:Act) (w:J),dE e a->en (b1 ops.toList) a0 a->Small ops.size m->HeadInv .any ops n (eR ops.size m)->
  eg P tk ops n cd W t f m K e w->lY P ops (gR a0 (b1 ops.toList) K) n (LE P ops (gR a0 (b1 ops.toList) K) n) f (af W w) (eR ops.size m) a w)->
  ∀ (f:Nat) (m:Nat) (K:Env->J->Prop) (e:Env) (a:Act) (w:J) (i:Nat) (o:Oper),dE e a->en (b1 ops.toList) a0 a->Small ops.size m->HeadInv .any ops n (eR ops.size m)->
  i∈Region.ready .any ops (eR ops.size m)->i<n->ops[i]? =some o->
  hA ops o e (j1 P tk o (λv w'=>af W w w'/\eg P tk ops n cd W t f (m|||2^i) K (dx o.dst v e) w') e w) (eg P tk ops n cd W t f (m|||2^i) K (dx o.dst undef e) w)->
  wpOp P ops (gR a0 (b1 ops.toList) K) i (λai w'=>∃aA:J->Prop,((∀x,aA x->af W w x)\/oL ops (eR ops.size m) i)/\aA w'/\lY P ops (gR a0 (b1 ops.toList) K) n (LE P ops (gR a0 (b1 ops.toList) K) n) f aA ((eR ops.size m).setIfInBounds i true) ai w') a w:=by
  intro W t N f m K e a w i o aq g p inv R H z h;have next:∀ (v:Y) (w':J),af W w w'->eg P tk ops n cd W t f (m|||2^i) K (dx o.dst v e) w'->
   ∃aA:J->Prop,((∀x,aA x->af W w x)\/oL ops (eR ops.size m) i)/\aA w'/\lY P ops (gR a0 (b1 ops.toList) K) n (LE P ops (gR a0 (b1 ops.toList) K) n) f aA ((eR ops.size m).setIfInBounds i true) (a.put o.dst v) w':=by
   intro v w' ao h;have A:en (b1 ops.toList) a (a.put o.dst v):=en.put (O i o z);have hinv:=inv.set R H;rw[uu]at hinv⊢;exact⟨af W w',.inl λx hx=>ao.trans hx,.refl _ _,N W f _ K _ _ w' (aq.put λk T=>by rw[g.size];exact ac k (O i o z k T)) (g.trans A) (ux p I) hinv h⟩
  unfold wpOp;simp only[z];rcases r2 aq h with ⟨F,G⟩|⟨F,G⟩
  .simp only[F,if_true]
   exact .inl ((uk aq G).wp λv w' ⟨h1,h2⟩=>next v w' h1 h2)
  .simp only[F,gp,if_false]
   exact next _ _ (.refl _ _) G
 have ad:∀ {b c d:al}{X:Prop},(bif b&&(c&&d) then X else False)->b=true/\c=true/\d=true/\X:=by
  intro b c d X h
  cases b<;>cases c<;>cases d<;>first|exact h.elim|exact⟨rfl,rfl,rfl,h⟩
 have ag:∀ {b c:al}{X:Prop},(bif b&&c then X else False)->b=true/\c=true/\X:=by
  intro b c X h
  cases b<;>cases c<;>first|exact h.elim|exact⟨rfl,rfl,h⟩
 have B:∀ {i j:Nat},Nat.blt i j=true->i<j:=λh=>by
  have:=nj h;omega
 have ne_nil:∀ {m i:Nat},Small ops.size m->kT cd m i=true->i<ops.size->Region.ready .any ops (eR ops.size m)≠ []:=λp h hi h0=>by
  have:=(uy hc p).2 ⟨hi,h⟩;rw[h0]at this;cases this
 induction t with
 |take i t N=>
  intro W f m K e a w aq g p inv h
  cases f with
  |zero=>simp[eg]at h
  |succ f=>
   simp only[eg]at h;obtain⟨h1,h2,D,h⟩:=ad h;have H:=B D;have R:i∈Region.ready .any ops (eR ops.size m):=(uy hc p).2 ⟨I,h1⟩;split at h
   .rename_i o z
    have fin:∀v,YieldsIf P ops (λx=>j2 o=true->af W w x) o v a->eg P tk ops n cd W t f (m|||2^i) K (dx o.dst v e) w->
     lY P ops (gR a0 (b1 ops.toList) K) n (LE P ops (gR a0 (b1 ops.toList) K) n) (f+1) (af W w) (eR ops.size m) a w:=by
     intro v ap h;have A:en (b1 ops.toList) a (a.put o.dst v):=en.put (O i o z);refine Fl am z (Region.noSelect_spec an) (λc a w U=>by cases U.1) H Fm f (af W w) (λx=>j2 o=true->af W w x) _ a w (λ_ h _=>h) (by cases hs:j2 o<;>simp) inv (Fi hc z h2) R ap (.refl _ _) ?_;have hinv:=inv.set R H;rw[uu]at hinv⊢;exact N W f _ K _ _ w (aq.put λk T=>by rw[g.size];exact ac k (O i o z k T)) (g.trans A) (ux p I) hinv h
    rcases r2 aq h with ⟨F,G⟩|⟨F,G⟩
    .obtain⟨v,ar,au⟩:=Fe aq G
     exact fin v (.inl ⟨F,λw' hc=>ar w' hc⟩) au
    .exact fin undef (.inr ⟨F,rfl⟩) G
   .exact h.elim
 |bR i t N=>
  intro W f m K e a w aq g p inv h
  cases f with
  |zero=>simp[eg]at h
  |succ f=>
   simp only[eg]at h;obtain⟨C,D,h⟩:=ag h;simp only[dh]at C;have H:=B D;split at h
   .rename_i o z
    refine⟨ne_nil p C.1 I,λj Z=>?_⟩;have ah:j=i:=by simpa using oK hc p C.2 j Z
    subst ah;exact⟨H,Q W t N f m K e a w j o aq g p inv Z H z h⟩
   .exact h.elim
 |out i b t N=>
  intro W f m K e a w aq g p inv h
  cases f with
  |zero=>simp[eg]at h
  |succ f=>
   simp only[eg]at h;obtain⟨C,D,L,h⟩:=ad h;simp only[dh]at C;have H:=B D;have L:=iM L;split at h
   .rename_i o z
    refine⟨ne_nil p C.1 I,λj Z=>?_⟩;have ah:j=i:=by simpa using oK hc p C.2 j Z
    subst ah;refine⟨H,?_⟩;have av:oL ops (eR ops.size m) j:=by
     intro k ok aH A ay hs aj;have az:k<ops.size:=(mo.1 A).1;rw[qe az]at aj;have aB:(lv 0 ops.toList&&&m).testBit k=true:=by
      rw[Nat.testBit_and,aj,pY];exact(A6 ops.toList 0 k ok (by simpa using A)).trans hs|>(by simpa using ·)
     have S:(kS cd.M j).testBit k=true:=A5 L aB;rw[uv hc ay,mF]at S;simp only[b_]at S;exact uw.1 S
    have next:∀ (v:Y) (w':J) (V:Nat->Prop),eg P tk ops n cd V t f (m|||2^j) K (dx o.dst v e) w'->
     ∃aA:J->Prop,((∀x,aA x->af W w x)\/oL ops (eR ops.size m) j)/\aA w'/\lY P ops (gR a0 (b1 ops.toList) K) n (LE P ops (gR a0 (b1 ops.toList) K) n) f aA ((eR ops.size m).setIfInBounds j true) (a.put o.dst v) w':=by
     intro v w' V h;have A:en (b1 ops.toList) a (a.put o.dst v):=en.put (O j o z);have hinv:=inv.set Z H;rw[uu]at hinv⊢;exact⟨af V w',.inr av,.refl _ _,N V f _ K _ _ w' (aq.put λk T=>by rw[g.size];exact ac k (O j o z k T)) (g.trans A) (ux p I) hinv h⟩
    unfold wpOp;simp only[z];rcases r2 aq h with ⟨F,G⟩|⟨F,G⟩
    .simp only[F,if_true]
     refine .inl ((uk aq G).wp λv w' h2=>?_)
     cases b with
     |true=>
      obtain⟨V,h2⟩:=h2;exact next v w' V h2
     |false=>exact next v w' W h2
    .simp only[F,gp,if_false]
     exact next _ _ W G
   .exact h.elim
 |two i t j u aa ab=>
  intro W f m K e a w aq g p inv h
  cases f with
  |zero=>simp[eg]at h
  |succ f=>
   simp only[eg]at h;obtain⟨C,D,L,h⟩:=ad h;simp only[dh]at C;have hi:=B D;split at h
   .rename_i o q z U
    refine⟨ne_nil p C.1 I,λk A=>?_⟩;have E:k=i\/k=j:=by simpa using oK hc p C.2 k A
    rcases E with E|E
    .subst E
     exact⟨B D,Q W t aa f m K e a w k o aq g p inv A (B D) z h.1⟩
    .subst E
     exact⟨B L,Q W u ab f m K e a w k q aq g p inv A (B L) U h.2⟩
   .exact h.elim
 |three i t j u k x aa ab aC=>
  intro W f m K e a w aq g p inv h
  cases f with
  |zero=>simp[eg]at h
  |succ f=>
   simp only[eg]at h;obtain⟨C,D,aD,h⟩:=ad (d:=_) h;obtain⟨L,S⟩:Nat.blt j n=true/\Nat.blt k n=true:=by simpa using aD
   simp only[dh]at C;have hi:=B D;split at h
   .rename_i o q r z U aE
    refine⟨ne_nil p C.1 I,λy A=>?_⟩;have E:y=i\/y=j\/y=k:=by simpa using oK hc p C.2 y A
    rcases E with E|E|E
    .subst E
     exact⟨B D,Q W t aa f m K e a w y o aq g p inv A (B D) z h.1⟩
    .subst E
     exact⟨B L,Q W u ab f m K e a w y q aq g p inv A (B L) U h.2.1⟩
    .subst E
     exact⟨B S,Q W x aC f m K e a w y r aq g p inv A (B S) aE h.2.2⟩
   .exact h.elim
 |sp s t u aa ab=>
  intro W f m K e a w aq g p inv h;have ae:match e.get s with
   |some (.bool c)=>(c=true->eg P tk ops n cd W t f m K ((s,.bool true)::e) w)/\(c=false->eg P tk ops n cd W u f m K ((s,.bool false)::e) w)
   |_=>False:=by cases f<;>simpa only[eg] using h
  split at ae
  .rename_i c hs
   cases c with
   |true=>exact aa W f m K _ a w (aq.lit hs) g p inv (ae.1 rfl)
   |false=>exact ab W f m K _ a w (aq.lit hs) g p inv (ae.2 rfl)
  .exact ae.elim
 |fin=>
  intro W f m K e a w aq g p inv h
  cases f with
  |succ f=>simp[eg]at h
  |zero=>
   simp only[eg]at h;obtain⟨h1,h2,h⟩:=ag h;refine .inl ⟨?_,iM h2,rfl,g,e,aq,h⟩
   cases R:Region.ready .any ops (eR ops.size m) with
   |nil=>rfl
   |cons x l=>
    have:=oK hc p h1 x (by rw[R];simp)
    cases this
 |tail as=>
  intro W f m K e a w aq g p inv h
  cases f with
  |succ f=>simp[eg]at h
  |zero=>
   simp only[eg]at h;obtain⟨h1,h2,h⟩:=ag h;have ak:∀k,k∈b1 (ops.toList.drop n)->k∈b1 ops.toList:=λk g=>by
    simp only[b1,List.mem_filterMap]at g⊢;obtain⟨o,z,g⟩:=g;exact⟨o,e6 z,g⟩
   have:=AU _ _ _ K e a w aq (λd hd=>by rw[g.size];exact ac d (ak d hd)) h;exact .inr ⟨Ba hc _ _ _ p I h1,B h2,jj (λx ai w' ⟨aw,ax,aF⟩=>⟨aw,g.trans (ax.mono ak),aF⟩) _ _ _ this⟩
theorem Fq(ops:Array Oper)(n:Nat):HeadInv .any ops n (Array.replicate ops.size false):=
 ⟨by simp,λj b _ a=>(by rw[getD_replicate_false]at a;cases a),λt _ ht=>getD_in (by simpa using ht) (getD_replicate_false _ _)⟩
def x4(P:Program)(tk:TypeId->ec)(ops:Array Oper)(n:Nat)(a:al)(cd:kR)(D0 ew:O Nat)(t:aQ)(K:Env->J->Prop)(e:Env)(w:J):Prop:=
 bif (Region.noSelect ops&&lX cd D0 ew ops)&&(bif Nat.beq n ops.size then true else Nat.blt n ops.size&&(Region.sinkB .any ops n&&Region.chainB .any ops n)) then
  bif a then
   ak w.drew λw1=>∃W:Nat->Prop,eg P tk ops n cd W t n 0 K e w1
  else ak w.drew λw1=>eg P tk ops n cd (λ_=>False) t n 0 K e w1
 else False
theorem Fs{id:Nat}{c:al}{t:aQ}{K:Env->J->Prop}{e:Env}{a:Act}{w:J}(g:P.follows .mixedOrders=true)
 (aq:dE e a) (i:∀d∈b1 ops.toList,d<a.tmps.size) (h:x4 P tk ops n c cd D0 ew t K e w):
 (Code.region id ops true).wp P (gR a (b1 ops.toList) K) a w:=by
 unfold x4 at h
 cases h0:(Region.noSelect ops&&lX cd D0 ew ops) with
 |false=>rw[h0]at h;exact h.elim
 |true=>
  rw[h0]at h;simp only[g9]at h;simp only[dh]at h0;obtain⟨h1,hc⟩:=h0
  cases h2:(bif Nat.beq n ops.size then true else Nat.blt n ops.size&&(Region.sinkB .any ops n&&Region.chainB .any ops n)) with
  |false=>rw[h2]at h;exact h.elim
  |true=>
   rw[h2]at h;simp only[cond_true]at h;have j:r8 ops n:=by
    cases b:Nat.beq n ops.size with
    |true=>rw[iM b];exact Fj ops
    |false=>
     rw[b]at h2;simp only[cond_false,dh]at h2;refine Fk h2.2.1 h2.2.2 ?_;have:=nj h2.1;omega
   have k:n<=ops.size:=by
    cases b:Nat.beq n ops.size with
    |true=>rw[iM b];exact bt _
    |false=>
     rw[b]at h2;simp only[cond_false,dh]at h2;have:=nj h2.1;omega
   have key:∀W,eg P tk ops n cd W t n 0 K e w.drew->(Code.region id ops true).wp P (gR a (b1 ops.toList) K) a w:=by
    intro W h;refine wp_region_any g ?_;have f:=Fp hc j k h1 i t W n 0 K e a w.drew aq (.refl _ _) (Fg _) (by rw[A3];exact Fq ops n) h;rw[A3]at f;have:=A_ Fo _ _ _ _ _ f;rw[show n+(ops.size-n)=ops.size from I]at this;exact this
   cases c with
   |true=>obtain⟨W,h⟩:=h;exact key W h
   |false=>exact key _ h
end
end aS
namespace aS
open Go
inductive aP where
 |leaf
 |cY (as:O lr)
 |cB (n:Nat) (c:al) (cd:kR) (D0 ew:O Nat) (t:aQ)
 |seq (a b:aP)
 |cond (a b:aP)
 |bM (a:aP)
 |loop (live:O (Nat×c5)) (eS:O Nat) (a:aP)
 |ez (live:O (Nat×c5)) (eS:O Nat) (a:aP)
def gI:O (Nat×c5)->Type
 | []=>J->Prop
 |(_,l)::r=>l.T->gI r
def ny:O (Nat×c5)->Type
 | []=>J->Nat
 |(_,l)::r=>l.T->ny r
def qf(l:c5)(v:av Y)(K:l.T->Prop):Prop:=
 match l,v with
 | .int k,some (.int d n)=>bif kp k d then K n else False
 | .bool,some (.bool b)=>K b
 | .str,some (.string s)=>K s
 | .ptr,some (.pointer p)=>K p
 | .slice,some (.slice a n c)=>K ⟨a,n,c⟩
 | .map,some (.map r)=>K r
 | .agg,some (.agg cs)=>K cs
 | .fn,some (.func (.func f) a b)=>K ⟨f,a,b⟩
 | .any,some v=>K v
 |_,_=>False
def gI.app:(live:O (Nat×c5))->gI live->(Nat->av Y)->J->Prop
 | [],k,_,w=>k w
 |(s,l)::r,k,g,w=>qf l (g s) λx=>gI.app r (k x) g w
def gI.lam:(live:O (Nat×c5))->(Env->J->Prop)->gI live
 | [],F=> λw=>F [] w
 |(s,l)::r,F=> λx=>gI.lam r λe w=>F ((s,l.v x)::e) w
def x5:(live:O (Nat×c5))->gI live->ny live->(Env->Nat->J->Prop)->Prop
 | [],a,b,F=>∀w,a w->F [] (b w) w
 |(s,l)::r,a,b,F=>∀x:l.T,x5 r (a x) (b x) λe m w=>F ((s,l.v x)::e) m w
def x6:(live:O (Nat×c5))->gI live->ny live->Nat->(Nat->av Y)->J->Prop
 | [],a,b,m,_,w=>a w/\b w<m
 |(s,l)::r,a,b,m,g,w=>qf l (g s) λx=>x6 r (a x) (b x) m g w
def jF:(live:O (Nat×c5))->ny live->(Nat->av Y)->J->Nat
 | [],d,_,w=>d w
 |(s,l)::r,d,g,w=>
  match l,g s,d with
  | .int _,some (.int _ n),d=>jF r (d n) g w
  | .bool,some (.bool b),d=>jF r (d b) g w
  | .str,some (.string b),d=>jF r (d b) g w
  | .ptr,some (.pointer b),d=>jF r (d b) g w
  | .slice,some (.slice a n c),d=>jF r (d (ad.mk a n c)) g w
  | .map,some (.map b),d=>jF r (d b) g w
  | .agg,some (.agg b),d=>jF r (d b) g w
  | .fn,some (.func (.func f) a b),d=>jF r (d (iQ.mk f a b)) g w
  | .any,some v,d=>jF r (d v) g w
  |_,_,_=>0
def writes:Code->O Nat
 | .region _ ops _=>b1 ops.toList
 | .seq a b=>writes a++writes b
 | .cond _ a b=>writes a++writes b
 | .block _ a=>writes a
 | .loop a=>writes a
 | .scope a=>writes a
 |_=> []
def r9(eS ws:O Nat):al:=eS.all λs=> !(ws.any λd=>Nat.beq d s)
def oM(e:Env):O Nat->Env
 | []=> []
 |s::ks=>match e.get s with
  |some v=>(s,v)::oM e ks
  |none=>oM e ks
def qg:Env->Env->Env
 | [],f=>f
 |p::e,f=>p::qg e f
def D(P:Program)(tk:TypeId->ec):aP->Code->(Exit->Env->J->Prop)->Env->J->Prop
 | .leaf,c,K,e,w=>
  match c with
  | .skip=>K .normal e w
  | .label _=>K .normal e w
  | .exit id=>K (.exit id) e w
  | .ret=>K .ret e w
  |_=>False
 | .cY as,c,K,e,w=>
  match c with
  | .region _ ops false=>gf P tk ops (ops.size+1) ops.toList as (λd w'=>K .normal d w') e w
  |_=>False
 | .cB n he cd D0 ew t,c,K,e,w=>
  match c with
  | .region _ ops true=>x4 P tk ops n he cd D0 ew t (λd w'=>K .normal d w') e w
  |_=>False
 | .seq A B,c,K,e,w=>
  match c with
  | .seq a b=>D P tk A a (λx d w'=>match x with| .normal=>D P tk B b K d w'|x=>K x d w') e w
  |_=>False
 | .cond A B,c,K,e,w=>
  match c with
  | .cond o x y=>match ev e o with
   |some (.bool b)=>(b=true->D P tk A x K e w)/\(b=false->D P tk B y K e w)
   |_=>False
  |_=>False
 | .bM A,c,K,e,w=>
  match c with
  | .block id b=>D P tk A b (λx d w'=>match x with| .exit h=>bif Nat.beq h id then K .normal d w' else K (.exit h) d w'|x=>K x d w') e w
  |_=>False
 | .loop live eS A,c,K,e,w=>
  match c with
  | .loop b=>bif r9 eS (writes b) then
   ∃ (f:gI live) (i:ny live),gI.app live f e.get w/\
    x5 live f i λg m w'=>D P tk A b (λx d j=>match x with| .normal=>x6 live f i m d.get j|x=>K x d j) (qg g (oM e eS)) w'
   else False
  |_=>False
 | .ez live eS A,c,K,e,w=>
  bif r9 eS (writes c) then
   bH (λk:gI live=>D P tk A c (λx d w'=>match x with| .normal=>gI.app live k d.get w'|x=>K x d w') e w)
    (gI.lam live λg w'=>K .normal (qg g (oM e eS)) w')
  else False
def Ft(a:Act)(ds:O Nat)(K:Exit->Env->J->Prop)(x:Exit)(b:Act)(w':J):Prop:=
 en ds a b/\∃c,dE c b/\K x c w'
def Sub(e:Env)(g:Nat->av Y):Prop:=∀s v,e.get s=some v->g s=some v
theorem Sub.cons{e:Env}{g:Nat->av Y}{s:Nat}{v:Y}(h:Sub e g)(hs:g s=some v):Sub ((s,v)::e) g:=by
 intro t u ht;rw[oF]at ht;by_cases a:s=t
 .subst a;rw[if_pos rfl]at ht;rw[hs];exact ht
 .rw[if_neg a]at ht;exact h t u ht
theorem Sub.nil{g:Nat->av Y}:Sub [] g:=λ_ _ h=>by cases h
theorem uz{l:c5}{v:av Y}{K:l.T->Prop}(h:qf l v K):∃x:l.T,v=some (l.v x)/\K x:=by
 unfold qf at h;split at h
 .rename_i k b n K
  by_cases a:k=b
  .subst a
   simp only[kp,decide_true,cond_true]at h;exact⟨n,rfl,h⟩
  .simp[kp,a]at h
 all_goals first
  |exact⟨_,rfl,h⟩
  |exact h.elim
theorem Bb{l:c5}{v:av Y}{K:l.T->Prop}{x:l.T}(a:v=some (l.v x))(h:K x):qf l v K:=by
 subst a
 cases l<;>simp only[qf,c5.v,kp,decide_true,cond_true]<;>exact h
theorem Bc{s:Nat}{l:c5}{r:O (Nat×c5)}{a:ny ((s,l)::r)}{g:Nat->av Y}{w:J}{x:l.T}(b:g s=some (l.v x)):
 jF ((s,l)::r) a g w=jF r (a x) g w:=by
 cases l<;>simp only[jF,b,c5.v]<;>rfl
theorem Bd:∀ {live:O (Nat×c5)}{F:Env->J->Prop}{g:Nat->av Y}{w:J},gI.app live (gI.lam live F) g w->∃a,Sub a g/\F a w
 | [],F,g,w,h=>⟨[],Sub.nil,h⟩
 |(s,l)::r,F,g,w,h=>by
  obtain⟨x,b,h⟩:=uz h
  obtain⟨a,hs,h⟩:=Bd h
  exact⟨(s,l.v x)::a,hs.cons b,h⟩
theorem Be:∀ {live:O (Nat×c5)}{a:gI live}{g g':Nat->av Y}{w:J},(∀s v,g s=some v->g' s=some v)->gI.app live a g w->gI.app live a g' w
 | [],_,_,_,_,_,h=>h
 |(s,l)::r,a,g,g',w,hg,h=>by
  obtain⟨x,b,h⟩:=uz h
  exact Bb (hg _ _ b) (Be hg h)
theorem Bf:∀ {live:O (Nat×c5)}{b:gI live}{c:ny live}{F:Env->Nat->J->Prop}{g:Nat->av Y}{w:J},
 x5 live b c F->gI.app live b g w->∃d,Sub d g/\F d (jF live c g w) w
 | [],b,c,F,g,w,h,a=>⟨[],Sub.nil,h w a⟩
 |(s,l)::r,b,c,F,g,w,h,a=>by
  obtain⟨x,e,a⟩:=uz a
  obtain⟨d,hs,h⟩:=Bf (h x) a
  exact⟨(s,l.v x)::d,hs.cons e,by rw[Bc e];exact h⟩
theorem Bg:∀ {live:O (Nat×c5)}{a:gI live}{b:ny live}{m:Nat}{g g':Nat->av Y}{w:J},
 (∀s v,g s=some v->g' s=some v)->x6 live a b m g w->gI.app live a g' w/\jF live b g' w<m
 | [],_,_,_,_,_,_,_,h=>h
 |(s,l)::r,a,b,m,g,g',w,hg,h=>by
  obtain⟨x,c,h⟩:=uz h
  obtain⟨h1,h2⟩:=Bg hg h
  exact⟨Bb (hg _ _ c) h1,by rw[Bc (hg _ _ c)];exact h2⟩
theorem Bh:∀ {e f:Env}{s:Nat}{v:Y},(qg e f).get s=some v->e.get s=some v\/f.get s=some v
 | [],_,_,_,h=>.inr h
 |(k,u)::e,f,s,v,h=>by
  simp only[qg]at h
  rw[oF]at h⊢
  by_cases a:k=s
  .rw[if_pos a]at h⊢;exact .inl h
  .rw[if_neg a]at h⊢;exact Bh h
theorem x7{e:Env}:∀ {ks:O Nat}{s:Nat}{v:Y},(oM e ks).get s=some v->s∈ks/\e.get s=some v
 | [],_,_,h=>by cases h
 |k::ks,s,v,h=>by
  simp only[oM]at h
  split at h
  .rename_i u hu
   rw[oF]at h
   by_cases a:k=s
   .rw[if_pos a]at h
    subst a
    exact⟨by simp,by rw[hu];exact h⟩
   .rw[if_neg a]at h
    have:=x7 h
    exact⟨by simp[this.1],this.2⟩
  .have:=x7 h
   exact⟨by simp[this.1],this.2⟩
theorem Bi{e c:Env}{a b:Act}{eS ws:O Nat}(aq:dE e a)(f:en ws a b)(g:r9 eS ws=true)(hs:Sub c λs=>b.tmps[s]?):
 dE (qg c (oM e eS)) b:=by
 constructor;intro s v h;rcases Bh h with h|h
 .exact hs s v h
 .obtain⟨h1,h2⟩:=x7 h
  have d:=pX.1 g s h1;simp only[jh,rH]at d;rw[f.same s λi=>d s i (Nat.beq_refl s)];exact aq.get s v h2
section
variable {P:Program}{tk:TypeId->ec}
theorem j3{c:Code}{Q Q':Exit->Act->J->Prop}{a:Act}{w:J}(h:c.wp P Q a w)(b:∀e a w,Q e a w->Q' e a w):c.wp P Q' a w:=wp_mono h b
theorem uA(O:P.follows .mixedOrders=true):∀ (A:aP) (c:Code) (K:Exit->Env->J->Prop) (e:Env) (a:Act) (w:J),dE e a->(∀d∈writes c,d<a.tmps.size)->
 D P tk A c K e w->c.wp P (Ft a (writes c) K) a w:=by
 intro A
 induction A with
 |leaf=>
  intro c K e a w aq j h;simp only[D]at h;split at h
  .exact wp_skip ⟨.refl _ _,e,aq,h⟩
  .exact wp_label ⟨.refl _ _,e,aq,h⟩
  .exact wp_exit ⟨.refl _ _,e,aq,h⟩
  .exact wp_ret ⟨.refl _ _,e,aq,h⟩
  .exact h.elim
 |cY as=>
  intro c K e a w aq j h;simp only[D]at h;split at h
  .rename_i id ops
   have:=AU _ _ _ _ e a w aq j h;refine wp_region_list (jj ?_ _ _ _ this);rintro x r w' ⟨rfl,f,C,E,F⟩;exact⟨f,C,E,F⟩
  .exact h.elim
 |cB n he cd D0 ew t=>
  intro c K e a w aq j h;simp only[D]at h;split at h
  .rename_i id ops
   refine j3 (Fs O aq j h) ?_;rintro x r w' ⟨rfl,f,C,E,F⟩;exact⟨f,C,E,F⟩
  .exact h.elim
 |seq A B G H=>
  intro c K e a w aq j h;simp only[D]at h;split at h
  .rename_i x y
   have hx:∀d,d∈writes x->d∈writes (.seq x y):=λd hd=>by simp[writes,hd]
   have u:∀d,d∈writes y->d∈writes (.seq x y):=λd hd=>by simp[writes,hd]
   refine wp_seq (j3 (G x _ e a w aq (λd hd=>j d (hx d hd)) h) ?_);rintro ex a1 w1 ⟨f,i,g,h1⟩
   cases ex with
   |normal=>
    refine j3 (H y K i a1 w1 g (λd hd=>by rw[f.size];exact j d (u d hd)) h1) ?_;rintro ex a2 aj ⟨k,p,m,h2⟩;exact⟨(f.mono hx).trans (k.mono u),p,m,h2⟩
   |exit id=>exact⟨f.mono hx,i,g,h1⟩
   |goto l=>exact⟨f.mono hx,i,g,h1⟩
   |ret=>exact⟨f.mono hx,i,g,h1⟩
   |panic ch=>exact⟨f.mono hx,i,g,h1⟩
   |outgrown=>exact⟨f.mono hx,i,g,h1⟩
  .exact h.elim
 |cond A B G H=>
  intro c K e a w aq j h;simp only[D]at h;split at h
  .rename_i o x y
   have hx:∀d,d∈writes x->d∈writes (.cond o x y):=λd hd=>by simp[writes,hd]
   have u:∀d,d∈writes y->d∈writes (.cond o x y):=λd hd=>by simp[writes,hd]
   split at h
   .rename_i b Q
    refine wp_cond_split (aq.ev Q) (λI=>?_) (λI=>?_)
    .refine j3 (G x K e a w aq (λd hd=>j d (hx d hd)) (h.1 I)) ?_
     rintro ex a2 aj ⟨k,p,m,h2⟩;exact⟨k.mono hx,p,m,h2⟩
    .refine j3 (H y K e a w aq (λd hd=>j d (u d hd)) (h.2 I)) ?_
     rintro ex a2 aj ⟨k,p,m,h2⟩;exact⟨k.mono u,p,m,h2⟩
   .exact h.elim
  .exact h.elim
 |bM A z=>
  intro c K e a w aq j h;simp only[D]at h;split at h
  .rename_i id b
   refine wp_block (j3 (z b _ e a w aq j h) ?_);rintro ex a1 w1 ⟨f,i,g,h1⟩
   cases ex with
   |exit L=>
    simp only[Exit.inBlock];by_cases M:L=id
    .subst M
     simp only[Nat.beq_refl,cond_true]at h1;rw[if_pos rfl];exact⟨f,i,g,h1⟩
    .have:Nat.beq L id=false:=by
      cases R:Nat.beq L id
      .rfl
      .exact absurd (iM R) M
     simp only[this,cond_false]at h1;rw[if_neg M];exact⟨f,i,g,h1⟩
   |normal=>exact⟨f,i,g,h1⟩
   |goto l=>exact⟨f,i,g,h1⟩
   |ret=>exact⟨f,i,g,h1⟩
   |panic ch=>exact⟨f,i,g,h1⟩
   |outgrown=>exact⟨f,i,g,h1⟩
  .exact h.elim
 |loop live eS A z=>
  intro c K e a w aq j h;simp only[D]at h;split at h
  .rename_i b
   cases q:r9 eS (writes b) with
   |false=>rw[q]at h;exact h.elim
   |true=>
    rw[q]at h;obtain⟨S,T,h0,U⟩:=h;refine wp_loop (λr w'=>en (writes b) a r/\gI.app live S (λs=>r.tmps[s]?) w') (λr w'=>jF live T (λs=>r.tmps[s]?) w')
     ⟨.refl _ _,Be (λs v hs=>aq.get s v hs) h0⟩ ?_
    rintro a1 w1 ⟨f,V⟩;obtain⟨W,hs,N⟩:=Bf U V;refine j3 (z b _ _ a1 w1 (Bi aq f q hs) (λd hd=>by rw[f.size];exact j d hd) N) ?_;rintro ex a2 aj ⟨k,p,m,h2⟩
    cases ex with
    |normal=>
     obtain⟨aw,ax⟩:=Bg (g':=λs=>a2.tmps[s]?) (λs v hs=>m.get s v hs) h2;exact⟨⟨f.trans k,aw⟩,ax⟩
    |exit id=>exact⟨f.trans k,p,m,h2⟩
    |goto l=>exact⟨f.trans k,p,m,h2⟩
    |ret=>exact⟨f.trans k,p,m,h2⟩
    |panic ch=>exact⟨f.trans k,p,m,h2⟩
    |outgrown=>exact⟨f.trans k,p,m,h2⟩
  .exact h.elim
 |ez live eS A z=>
  intro c K e a w aq j h;simp only[D]at h
  cases q:r9 eS (writes c) with
  |false=>rw[q]at h;exact h.elim
  |true=>
   rw[q]at h;simp only[cond_true]at h;have h:=h.out;refine j3 (z c _ e a w aq j h) ?_;rintro ex a1 w1 ⟨f,i,g,h1⟩
   cases ex with
   |normal=>
    obtain⟨W,hs,N⟩:=Bd h1;exact⟨f,_,Bi aq f q (λs v h=>g.get s v (hs s v h)),N⟩
   |exit id=>exact⟨f,i,g,h1⟩
   |goto l=>exact⟨f,i,g,h1⟩
   |ret=>exact⟨f,i,g,h1⟩
   |panic ch=>exact⟨f,i,g,h1⟩
   |outgrown=>exact⟨f,i,g,h1⟩
def mG(P:Program)(tk:TypeId->ec):O ResultVar->Env->J->(O Y->Prop)->Prop
 | [],_,_,K=>K []
 | .tmp t::r,e,w,K=>match e.get t with
  |some v=>mG P tk r e w λvs=>K (v::vs)
  |none=>False
 | .cell t T::r,e,w,K=>match e.get t with
  |some (.pointer (some A))=>p9 P tk T A w λv=>mG P tk r e w λvs=>K (v::vs)
  |_=>False
def qh:O Y->Y
 | [v]=>v
 |vs=>.tuple vs.toArray
def Bj(P:Program)(tk:TypeId->ec)(a:O ResultVar)(R:Y->J->Prop)(x:Exit)(e:Env)(w:J):Prop:=
 match x with
 | .normal=>mG P tk a e w λvs=>R (qh vs) w
 | .ret=>mG P tk a e w λvs=>R (qh vs) w
 |_=>False
def oN:Nat->O Y->Env
 |_,[]=> []
 |i,v::vs=>(i,v)::oN (i+1) vs
def qi(P:Program)(tk:TypeId->ec)(A:aP)(fn:Func)(args:O Y)(w:J)(R:Y->J->Prop):Prop:=
 match fn.body with
 |some c=>D P tk A c (Bj P tk fn.results.toList R) (oN 0 args) w
 |none=>False
def oO(fn:Func)(n:Nat):al:=
 match fn.body with
 |some c=>(writes c).all (λd=>Nat.blt d fn.ntmps)&&Nat.ble n fn.ntmps
 |none=>false
theorem x8:∀ {vs:O Y}{i s:Nat}{v:Y},(oN i vs).get s=some v->i<=s/\vs[s-i]? =some v
 | [],_,_,_,h=>by cases h
 |u::vs,i,s,v,h=>by
  simp only[oN]at h
  rw[oF]at h
  by_cases a:i=s
  .subst a
   rw[if_pos rfl]at h
   simpa using h
  .rw[if_neg a]at h
   obtain⟨h1,h2⟩:=x8 h
   refine⟨I,?_⟩
   rw[show s-i=(s-(i+1))+1 from I]
   simpa using h2
def r_(tmps:Array Y)(r:ResultVar):Sem Y:=
 match r with
 | .tmp t=>pure (tmps.getD t undef)
 | .cell x t=>do loadVar t (←asAddr (tmps.getD x undef))
theorem mH{a:Act}:∀ {f:O ResultVar}{e:Env}{w:J}{K:O Y->Prop},dE e a->mG P tk f e w K->
 ∃vs,(f.mapM (r_ a.tmps)).run P w=.ok vs w/\K vs
 | [],_,_,_,_,h=>⟨[],by simp,h⟩
 | .tmp t::r,e,w,K,aq,h=>by
  simp only[mG]at h
  split at h
  .rename_i v b
   obtain⟨vs,c,d⟩:=mH aq h
   refine⟨v::vs,?_,d⟩
   have ht:a.tmps.getD t undef=v:=by simp[Array.getD_eq_getD_getElem?,aq.get _ _ b]
   simp only[List.mapM_cons,r_,Sem.run_bind,Sem.run_pure,Result.andThen,ht]
   rw[c]
  .exact h.elim
 | .cell t T::r,e,w,K,aq,h=>by
  simp only[mG]at h
  split at h
  .rename_i A b
   obtain⟨v,g,h⟩:=AQ h
   obtain⟨vs,c,d⟩:=mH aq h
   refine⟨v::vs,?_,d⟩
   have ht:a.tmps.getD t undef=.pointer (some A):=by simp[Array.getD_eq_getD_getElem?,aq.get _ _ b]
   have i:(loadVar T A).run P w=.ok v w:=by simpa[Instr.loadAt,Instr.sureAddr] using g
   simp only[List.mapM_cons,r_,Sem.run_bind,Sem.run_pure,Result.andThen,ht,asAddr,i]
   rw[c]
  .exact h.elim
theorem oP{fn:Func}{tmps:Array Y}{w:J}{vs:O Y}
 (h:(fn.results.toList.mapM (r_ tmps)).run P w=.ok vs w):
 (results fn tmps).run P w=.ok (qh vs) w:=by
 have a:results fn tmps=(do let vs ←fn.results.mapM (r_ tmps);pure (if h:vs.size=1 then vs[0] else .tuple vs)):=rfl;rw[a,Array.mapM_eq_mapM_toList];simp only[Sem.run_bind,Sem.run_map];rw[h];simp only[Result.andThen,Sem.run_pure]
 congr 1
 match vs with
 | []=>rfl
 | [v]=>rfl
 |u::v::vs=>simp[qh]
theorem Fu{f:FuncId}{fn:Func}{A:aP}{args:O Y}{w:J}{R:Y->J->Prop}(m:P.follows .mixedOrders=true)
 (hf:P.funcs[f]? =some fn) (b:oO fn args.length=true) (h:qi P tk A fn args w R):
 Calls P f args.toArray w λe w'=>∃v,e=.returned v/\R v w':=by
 unfold qi at h;unfold oO at b
 cases g:fn.body with
 |none=>rw[g]at h;exact h.elim
 |some c=>
  rw[g]at h b;simp only[dh]at h b;obtain⟨n,o⟩:=b;have t:=nj o;refine calls_of_wp hf g ?_;have p:(args.toArray++Array.replicate (fn.ntmps-args.toArray.size) undef).size=fn.ntmps:=by simp;omega
  have aq:dE (oN 0 args) {tmps:=args.toArray++Array.replicate (fn.ntmps-args.toArray.size) undef,defers:=[]}:=by
   constructor;intro s v hs;obtain⟨_,h2⟩:=x8 hs;simp only[nk]at h2;have aJ:s<args.length:=(jV.1 h2).1;simp[Array.getElem?_append,aJ];rw[dU aJ]at h2;exact Option.some.inj h2
  refine j3 (uA m A c _ _ _ w aq (λd hd=>?_) h) ?_
  .have h1:=pX.1 n d hd
   have h2:=nj h1;show d<(args.toArray++Array.replicate (fn.ntmps-args.toArray.size) undef).size;rw[p];omega
  .rintro x q w' ⟨r,u,k,a⟩
   have hd:q.defers=[]:=r.defers
   cases x with
   |normal=>
    obtain⟨vs,i,j⟩:=mH k a;exact⟨hd,_,oP i,_,rfl,j⟩
   |ret=>
    obtain⟨vs,i,j⟩:=mH k a;exact⟨hd,_,oP i,_,rfl,j⟩
   |exit id=>exact a.elim
   |goto l=>exact a.elim
   |panic ch=>exact a.elim
   |outgrown=>exact a.elim
end
end aS
namespace aS
open Go Go.ChangeShapes Go.WideShapes Go.ChangeAt Go.RowKit
def fI(P:Program)(w:J):Nat->TypeId->O Y->Prop
 |0,_,_=>False
 |fuel+1,t,cs=>
  match P.underlying t with
  |some .bool=>∃b:al,cs=[.bool b]
  |some (.int k)=>∃n:Int,cs=[.int k n]/\k.min<=n/\n<=k.max
  |some .string=>∃s:ByteArray,cs=[.string s]/\s.size<=maxLen
  |some (.slice e)=>∃s:ad,cs=[.slice s.a s.len s.cap]/\s.len<=s.cap/\s.cap<=maxLen/\(s.a=none->s.cap=0)/\
   ∀a,s.a=some a->∀i,i<s.cap->∃vs,a8 w (a.add (i*P.cellsOf e)) 0 (P.cellsOf e)=some vs/\fI P w fuel e vs
  |some (.struct fs)=>cs.length=P.cellsOf t/\∀f∈fs,fI P w fuel f.type ((cs.drop f.offset).take (P.cellsOf f.type))
  |some (.array n e)=>cs.length=P.cellsOf t/\∀i,i<n->fI P w fuel e ((cs.drop (i*P.cellsOf e)).take (P.cellsOf e))
  |some (.pointer e)=>cs=[.pointer none]\/∃a vs,cs=[.pointer (some a)]/\a8 w a 0 (P.cellsOf e)=some vs/\fI P w fuel e vs
  |_=>True
theorem mapM_some{α β:Type}{f:α->av β}:∀ {l:O α}{r:O β},l.mapM f=some r->∀x∈l,∃y,f x=some y
 | [],_,_,_,hx=>by cases hx
 |a::l,r,h,x,hx=>by
  simp only[List.mapM_cons]at h
  cases c:f a with
  |none=>simp[c]at h
  |some b=>
   cases d:l.mapM f with
   |none=>simp[c,d]at h
   |some e=>
    rcases de.1 hx with rfl|hx
    .exact⟨b,c⟩
    .exact mapM_some d x hx
theorem Bk{w:J}{a:ag}:∀ (n i:Nat) (vs:O Y),((List.range' i n).mapM λj=>w.cell? (a.add j))=some vs->a8 w a i n=some vs
 |0,i,vs,h=>by simp at h;simp[a8,h]
 |n+1,i,vs,h=>by
  simp only[List.range'_succ,List.mapM_cons]at h
  cases h1:w.cell? (a.add i) with
  |none=>simp[h1]at h
  |some v=>
   cases h2:((List.range' (i+1) n).mapM λj=>w.cell? (a.add j)) with
   |none=>simp[h1,h2]at h
   |some us=>
    simp[h1,h2]at h
    have:=Bk n (i+1) us h2
    simp[a8,h1,this,h]
theorem Bl{w:J}{base:Nat}{a:ag}{n:Nat}{vs:O Y}(h:w.cells? base a n=some vs):a8 w a 0 n=some vs:=by
 unfold World.cells? at h;split at h
 .rw[tK]at h
  exact Bk n 0 vs h
 .cases h
section
variable {H:Type}{enc:TypeId×Y->H}{P:Program}{w:J}
theorem sd:∀ (fuel:Nat) (t:TypeId) (cs:O Y) (x:DataW H×O MemPlace),DataW.trod enc P w 0 (λ_=>true) true fuel t cs=some x->fI P w fuel t cs
 |0,_,_,_,h=>by cases h
 |fuel+1,t,cs,x,h=>by
  simp only[DataW.trod]at h
  simp only[fI]
  cases ht:P.underlying t with
  |none=>trivial
  |some d=>
   rw[ht]at h
   cases d<;>try trivial
   case bool=>
    match cs,h with
    | [.bool b],_=>exact⟨b,rfl⟩
   case int k=>
    match cs,h with
    | [.int q n],h=>
     simp only at h
     split at h
     .rename_i g
      obtain⟨rfl,l⟩:=g
      exact⟨n,rfl,by simpa[Lit.wf] using l⟩
     .cases h
   case string=>
    match cs,h with
    | [.string s],h=>
     simp only at h
     split at h
     .rename_i g;exact⟨s,rfl,g⟩
     .cases h
   case pointer e=>
    match cs,h with
    | [.pointer none],_=>exact .inl rfl
    | [.pointer (some a)],h=>
     simp only[tL]at h
     obtain⟨y,c,_⟩:=h
     obtain⟨vs,h1,h2⟩:=Option.bind_eq_some_iff.1 c
     exact .inr ⟨a,vs,rfl,Bl h1,sd fuel e vs _ h2⟩
   case slice e=>
    match cs,h with
    | [.slice none 0 0],_=>exact⟨⟨none,0,0⟩,rfl,bt _,cR _,(λ_=>rfl),(λa m=>by cases m)⟩
    | [.slice (some a) len cap],h=>
     simp only at h
     split at h
     .rename_i g
      refine⟨⟨some a,len,cap⟩,rfl,g.2.1,g.2.2,(λh0=>by cases h0),λr o i hi=>?_⟩
      obtain⟨elems,he,h⟩:=Option.bind_eq_some_iff.1 h
      simp only[if_true,tL]at h
      obtain⟨rest,p,_⟩:=h
      cases o
      have key:∃y,((w.cells? 0 (a.add (i*P.cellsOf e)) (P.cellsOf e)).bind (DataW.trod enc P w 0 (λ_=>true) true fuel e))=some y:=by
       rcases eu i len with j|j
       .exact mapM_some he i (kj.2 j)
       .obtain⟨y,c⟩:=mapM_some p (i-len) (kj.2 (by simp only at hi;omega))
        rw[show len+(i-len)=i from I]at c;exact⟨y,c⟩
      obtain⟨y,c⟩:=key;obtain⟨vs,h1,h2⟩:=Option.bind_eq_some_iff.1 c;exact⟨vs,Bl h1,sd fuel e vs _ h2⟩
     .cases h
   case struct fs=>
    simp only at h;split at h
    .rename_i j
     refine⟨j,λf hf=>?_⟩;simp only[tL]at h;obtain⟨ys,c,_⟩:=h;obtain⟨y,c⟩:=mapM_some c f (by simpa using hf);exact sd fuel _ _ _ c
    .cases h
   case array n e=>
    simp only at h;split at h
    .rename_i j
     refine⟨j,λi hi=>?_⟩;simp only[tL]at h;obtain⟨ys,c,_⟩:=h;obtain⟨y,c⟩:=mapM_some c i (kj.2 hi);exact sd fuel _ _ _ c
    .cases h
def lZ(P:Program)(w:J)(t:TypeId)(v:Y):Prop:=
 match P.underlying t with
 |some (.struct _)=>∃cs:Array Y,v=.agg cs/\∃fuel,fI P w fuel t cs.toList
 |some (.array _ _)=>∃cs:Array Y,v=.agg cs/\∃fuel,fI P w fuel t cs.toList
 |_=>∃fuel,fI P w fuel t [v]
theorem x9{r:Reach}{a:Nat}{t:TypeId}{v:Y}{d:DataW H}{ps:O MemPlace}(jk:Value.okWide P w r a t v)
 (hd:DataW.Trod enc P w 0 (λ_=>true) true t v d ps):lZ P w t v:=by
 obtain⟨fuel,hd⟩:=hd;have h1:=sd fuel t _ _ hd;unfold lZ;unfold Value.okWide at jk;have b:(∀cs,v≠ .agg cs)->v.cells.toList=[v]:=λh=>by cases v<;>first|rfl|exact absurd rfl (h _)
 cases ht:P.underlying t with
 |none=>
  rw[ht]at jk
  cases fuel with
  |zero=>cases hd
  |succ f=>exact⟨1,by simp[fI,ht]⟩
 |some c=>
  rw[ht]at jk
  cases c
  case struct fs=>obtain⟨cs,rfl,_,_⟩:=jk;exact⟨cs,rfl,fuel,h1⟩
  case array n e=>obtain⟨cs,rfl,_,_⟩:=jk;exact⟨cs,rfl,fuel,h1⟩
  all_goals
   refine⟨fuel,?_⟩;rw[←b]
   .exact h1
   .rintro cs rfl
    simp[Cell.okWide,Cell.ok,ht]at jk
theorem Bm{w w':J}(h:af (λ_=>False) w w'):Below w.heap.size w w':=
 ⟨h.os,h.tape,h.output,h.size,λk a=>h.block k a (λh=>h)⟩
theorem Fv{f:Func}{s:ChangeSpec}{apart fresh handsOn again:al}{W W':J}{args:Array Y}{T:TypeId}{ds gs:O (DataW H)}{before pa fb:O MemPlace}
 (cK:DataW.Whole enc P f.params.toList s.vars apart W args.toList ds gs before) (d:P.underlying T=some .bool) (e:f.resultTypes= #[T])
 (hs:s.fn H (ds++gs)={results:=[.lit (.bool true)],args:=ds})
 (uB:∀sp:Nat->al,(∀p∈before,sp p.block=true)->DataW.TrodAll enc P W' 0 sp true f.params.toList args.toList ds pa)
 (l:∀sp:Nat->al,(∀p∈before,sp p.block=true)->DataW.TrodVars enc P W' sp s.vars [] fb)
 (c:before=pa++fb) (m:af (λ_=>False) W W'):
 s.post enc P f apart fresh handsOn again W args (.bool true) W':=by
 have g:=Bm m;have aJ:∀p∈before,p.block<W.heap.size:=λp a=>cK.lt p a;have hold:∀p∈before,(λb=>decide (b<W.heap.size)) p.block=true:=λp a=>by simpa using aJ p a
 have h:∀ (b:Nat) (sp:Nat->al) (hd:al),DataW.TrodAll enc P W' b sp hd f.resultTypes.toList ((Value.bool true).resultList f.resultTypes.size) (s.fn H (ds++gs)).results []:=by
  intro b sp hd;rw[hs,e];exact trodAll_cons_mk (shut_bool d true) trodAll_mk0
 have i:∀sp:Nat->al,(∀p∈before,sp p.block=true)->DataW.TrodAll enc P W' 0 sp true f.params.toList args.toList (s.fn H (ds++gs)).args pa:=by
  intro sp iT;rw[hs];exact uB sp iT
 have j:∀sp:Nat->al,(∀p∈before,sp p.block=true)->DataW.TrodVars enc P W' sp s.vars (s.fn H (ds++gs)).vars fb:=by
  intro sp iT;rw[hs];exact l sp iT
 refine⟨ds,gs,before,[],pa,fb,cK,h _ _ _,i _ hold,j _ hold,World.keptBut_mono (λp a=>⟨a,?_⟩) (g.frame (· ∈before)),λ_=>?_⟩
 .rw[c,c1]at a
  exact Or.inr a
 .obtain⟨_,_,_,_,_,n,o⟩:=cK
  refine⟨ok_one e rfl (okWide_bool_mk d _),_,_,([]++pa)++fb,⟨[]++pa,fb,trodAll_append (i _ (λ_ _=>rfl)) (h _ _ _),j _ (λ_ _=>rfl),rfl,?_,?_⟩,?_⟩
  .intro b off a
   have k:MemPlace.cell b off∈before:=by rw[c];simpa using a
   rw[g.frozen (aJ _ k)];exact n b off k
  .intro q
   have:=o q;rw[c]at this;simpa using this
  .intro p a _
   rw[c];simpa using a
theorem x_{t:TypeId}(a:laidOutB P=true)(b:P.readableRec t=true)(c:t<P.types.size){W W':J}{v:Y}{d:DataW H}{ps:O MemPlace}{sp:Nat->al}
 (h:DataW.Trod enc P W 0 (λ_=>true) true t v d ps) (e:af (λ_=>False) W W') (aJ:∀x∈ps,x.block<W.heap.size) (hs:∀p∈ps,sp p.block=true):
 DataW.Trod enc P W' 0 sp true t v d ps:=
 WideElems.Trod_stays a b c h (λx hx=>(Bm e).same (aJ x hx)) hs
end
end aS
namespace aS
open Go Go.RowKit
def aK(P:Program)(f:FuncId)(args:Array Y)(w:J)(Q:Y->J->Prop):Prop:=
 Calls P f args w λe w1=>∃v,e=.returned v/\Q v w1
theorem aK.use{P:Program}{f:FuncId}{args:Array Y}{w:J}{Q:Y->J->Prop}{R:Ending->J->Prop}
 (h:aK P f args w Q) (k:∀v w',Q v w'->R (.returned v) w'):Calls P f args w R:=
 Calls.mono h λ_ _ ⟨v,a,b⟩=>by subst a;exact k v _ b
theorem aK.mono{P:Program}{f:FuncId}{args:Array Y}{w:J}{Q R:Y->J->Prop}
 (h:aK P f args w Q) (k:∀v w',Q v w'->R v w'):aK P f args w R:=
 aK.use h λv _ a=>⟨v,rfl,k _ _ a⟩
abbrev Ext(w w':J):Prop:=af (λ_=>False) w w'
theorem af.cN{W:Nat->Prop}{w w':J}(h:Ext w w'):af W w w':=af.mono h λ_ _ h=>h.elim
theorem af.drew{W:Nat->Prop}{w w':J}(h:af W w w'):af W w w'.drew:=⟨h.os,h.tape,h.output,h.size,h.block⟩
theorem af.alloc{W:Nat->Prop}{w w':J}(h:af W w w')(o:Obj):af W w (w'.alloc o):=
 h.trans ⟨rfl,rfl,rfl,by simp,λk a _=>Below.heap_alloc _ _ _ a⟩
theorem af.set{W:Nat->Prop}{w w':J}(h:af W w w'){A:ag}(b:A.block<w.heap.size->W A.block)(v:Y):af W w (w'.setCell A v):=
 ⟨h.os,h.tape,h.output,by simp only[World.setCell,Array.size_modify];exact h.size,λk a cK=>by
  rw[Below.heap_setCell _ _ _ _ (λe=>cK (by subst e;exact b a))];exact h.block k a cK⟩
theorem af.setCells{W:Nat->Prop}{w:J}{A:ag}(a:A.block<w.heap.size->W A.block):∀ (vs:O Y) (i:Nat) {w':J},af W w w'->af W w (setCells w' A i vs)
 | [],_,_,h=>h
 |v::vs,i,w',h=>by
  have b:(A.add i).block=A.block:=by unfold Addr.add;split<;>rfl
  exact af.setCells a vs (i+1) (af.set h (by rw[b];exact a) v)
theorem az(b o n:Nat):(Addr.mk b o none).add n=⟨b,o+n,none⟩:=by
 unfold Addr.add;split
 .rename_i h;subst h;rfl
 .rfl
def bu(w:J)(b:Nat)(c:Array Y)(T:TypeId):Prop:=w.heap[b]? =some (.cells c T (0,0))
section
variable {w w':J}{b i:Nat}{c:Array Y}{T:TypeId}
theorem bu.lt(h:bu w b c T):b<w.heap.size:=(mo.1 h).1
theorem bu.cell(h:bu w b c T)(i:Nat):w.cell? ⟨b,i,none⟩=c[i]? :=by
 unfold bu at h;simp[World.cell?,h]
theorem bu.frozen(h:bu w b c T)(A:ag)(aq:A.block=b):w.frozen? A=false:=by
 unfold bu at h;simp[World.frozen?,aq,h]
theorem bu.ah{W:Nat->Prop}(h:bu w b c T)(hc:af W w w')(a:¬W b):bu w' b c T:=by
 have d:=h.lt;unfold bu at h⊢;rw[hc.block b d a];exact h
theorem bu.ext(h:bu w b c T)(hc:Ext w w'):bu w' b c T:=h.ah hc id
theorem bu.drew(h:bu w b c T):bu w.drew b c T:=h
theorem bu.new(w:J)(c:Array Y)(T:TypeId):bu (w.alloc (.cells c T)) w.heap.size c T:=by
 show(w.heap.push (.cells c T))[w.heap.size]? =some (.cells c T (0,0));simp
theorem bu.set(h:bu w b c T)(i:Nat)(v:Y):bu (w.setCell ⟨b,i,none⟩ v) b (c.setIfInBounds i v) T:=by
 unfold bu at h⊢;simp[World.setCell,tI,h]
theorem bu.inj{c':Array Y}{au:TypeId}(h:bu w b c T)(a:bu w b c' au):c=c'/\T=au:=by
 unfold bu at h a;rw[h]at a;simpa using a
def gJ(c:Array Y)(i:Nat):O Y->Array Y
 | []=>c
 |v::vs=>gJ (c.setIfInBounds i v) (i+1) vs
theorem iE:∀ (vs:O Y) (c:Array Y) (i:Nat),(gJ c i vs).size=c.size
 | [],_,_=>rfl
 |v::vs,c,i=>by simp[gJ,iE vs]
theorem bu.se:∀ (vs:O Y) {w:J}{c:Array Y} (i j:Nat),bu w b c T->bu (setCells w ⟨b,i,none⟩ j vs) b (gJ c (i+j) vs) T
 | [],_,_,_,_,h=>h
 |v::vs,w,c,i,j,h=>by
  simp only[setCells,gJ,az]
  have:=bu.se vs i (j+1) (h.set (i+j) v)
  rw[show i+(j+1)=i+j+1 from I]at this
  exact this
theorem bu.b3(h:bu w b c T)(i:Nat)(vs:O Y)(d:i+vs.length<=c.size)(a:∀v∈vs,Plain v):bk w ⟨b,i,none⟩ vs:=by
 refine⟨λj e=>?_,a⟩;rw[az,h.cell,h.frozen _ rfl];have:i+j<c.size:=by omega
 simp[this]
end
theorem j4{B:(J->Prop)->Prop}{rest:J->Prop}(a:J->Prop)(h1:∀k:J->Prop,(∀w,a w->k w)->B k)(h2:∀w,a w->rest w):bH B rest:=⟨h1 rest h2⟩
theorem cq{a:Type}{B:(a->J->Prop)->Prop}{rest:a->J->Prop}(b:a->J->Prop)(h1:∀k:a->J->Prop,(∀x w,b x w->k x w)->B k)(h2:∀x w,b x w->rest x w):bH B rest:=⟨h1 rest h2⟩
theorem sf{a b:Type}{B:(a->b->J->Prop)->Prop}{rest:a->b->J->Prop}(c:a->b->J->Prop)(h1:∀k:a->b->J->Prop,(∀x y w,c x y w->k x y w)->B k)(h2:∀x y w,c x y w->rest x y w):bH B rest:=⟨h1 rest h2⟩
theorem Fw{a b c d:Type}{B:(a->b->c->d->J->Prop)->Prop}{rest:a->b->c->d->J->Prop}(e:a->b->c->d->J->Prop)(h1:∀k:a->b->c->d->J->Prop,(∀x y z t w,e x y z t w->k x y z t w)->B k)(h2:∀x y z t w,e x y z t w->rest x y z t w):bH B rest:=⟨h1 rest h2⟩
theorem Bn.of{P:Program}{w:J}{T:TypeId}{k:IntKind}{v:Y}(h:lZ P w T v)(a:P.underlying T=some (.int k)):∃n:Int,v=.int k n/\k.min<=n/\n<=k.max:=by
 simp only[lZ,a]at h;obtain⟨fuel,h⟩:=h
 cases fuel with
 |zero=>cases h
 |succ f=>
  simp only[fI,a]at h;obtain⟨n,b,h1,h2⟩:=h;exact⟨n,by simpa using b,h1,h2⟩
theorem uC{n:Int}(h0:IntKind.u8.min<=n)(h1:n<=IntKind.u8.max):0<=n/\n<=255:=by
 simpa[IntKind.min,IntKind.max,IntKind.signed,IntKind.bits] using And.intro h0 h1
theorem Fx{n:Int}(h0:IntKind.i64.min<=n)(h1:n<=IntKind.i64.max): -9223372036854775808<=n/\n<=9223372036854775807:=by
 simpa[IntKind.min,IntKind.max,IntKind.signed,IntKind.bits] using And.intro h0 h1
theorem bB{n:Int}(h0: -9223372036854775808<=n)(h1:n<=9223372036854775807):IntKind.i64.wrap n=n:=by
 by_cases h:0<=n
 .exact xP h h1
 .have e:n%18446744073709551616=n+18446744073709551616:=by omega
  simp[IntKind.wrap,IntKind.signed,IntKind.bits,e];omega
end aS
namespace aS
open Go Go.RowKit
structure Src(sz:Nat)(w:J)(x:ad)(xs:O Y):Prop where
 len:xs.length=x.len*sz
 nil:x.a=none->xs=[]
 rd:∀a,x.a=some a->a8 w a 0 (x.len*sz)=some xs
def aT(sz:Nat)(T:TypeId)(w:J)(s:ad)(vs:O Y):Prop:=
 vs.length=s.len*sz/\s.len<=s.cap/\s.cap<=maxLen/\
 ((s.a=none/\s.cap=0)\/∃b c,s.a=some ⟨b,0,none⟩/\bu w b c T/\c.size=s.cap*sz/\c.toList.take (s.len*sz)=vs)
def aE(s:ad)(k:Nat):Prop:=∃A,s.a=some A/\A.block=k
theorem sg{w:J}{A:ag}:∀ {n i:Nat}{vs:O Y},a8 w A i n=some vs->vs.length=n
 |0,_,_,h=>by simp[a8]at h;simp[←h]
 |n+1,i,vs,h=>by
  simp only[a8]at h
  cases h1:w.cell? (A.add i) with
  |none=>simp[h1]at h
  |some v=>
   cases h2:a8 w A (i+1) n with
   |none=>simp[h1,h2]at h
   |some us=>
    simp only[h1,h2,Option.some.injEq]at h
    subst h
    simp[sg h2]
theorem qj{w:J}{b:Nat}{c:Array Y}{T:TypeId}(h:bu w b c T):∀ (n o i:Nat),o+i+n<=c.size->a8 w ⟨b,o,none⟩ i n=some ((c.toList.drop (o+i)).take n)
 |0,o,i,_=>by simp[a8]
 |n+1,o,i,e=>by
  have h1:o+i<c.size:=by omega
  have a:=qj h n o (i+1) I
  simp only[a8,az,h.cell,a]
  have h2:c[o+i]? =some c[o+i]:=by simp[h1]
  rw[h2]
  simp only[Option.some.injEq]
  have d:c.toList.drop (o+i)=c[o+i]::c.toList.drop (o+i+1):=by
   rw[kk (by simpa using h1)];simp
  rw[d];simp[Nat.add_assoc]
theorem aT.src{sz:Nat}{T:TypeId}{w:J}{s:ad}{vs:O Y}(h:aT sz T w s vs):Src sz w s vs:=by
 obtain⟨h1,h2,k,g⟩:=h;refine⟨h1,λf=>?_,λa d=>?_⟩
 .rcases g with ⟨_,hc⟩|⟨b,c,e,_⟩
  .have:s.len=0:=by omega
   rw[this,pZ]at h1;exact mq.1 h1
  .rw[f]at e;cases e
 .rcases g with ⟨f,_⟩|⟨b,c,e,i,hs,j⟩
  .rw[f]at d;cases d
  .rw[e]at d
   cases d;have:=qj i (s.len*sz) 0 0 (by rw[hs];simp;exact nm _ h2);rw[this];simp[j]
section
variable {P:Program}{w:J}
theorem qk{sz:Nat}{x:ad}{xs:O Y}(h:Src sz w x xs):(Builtin.firstCells sz x.len (.slice x.a x.len x.cap)).run P w=.ok xs.toArray w:=by
 cases hx:x.a with
 |none=>rw[h.nil hx];rfl
 |some a=>
  simp only[Builtin.firstCells,loadCells];rw[run_loadCellsFrom _ _ _ _ (h.rd a hx)];simp
theorem Bo(a:Nat):∀ (r c:Nat),c<=2*a+1000->Builtin.growBy a r c<=2*a+1000
 |0,c,h=>h
 |r+1,c,h=>by
  simp only[Builtin.growBy]
  split
  .exact h
  .exact Bo a r _ I
theorem Bp{a cap:Nat}(h:cap<a):Builtin.nextslicecap a cap<=2*a+1000:=by
 unfold Builtin.nextslicecap;split
 .omega
 .split
  .omega
  .exact Bo a 4 cap I
theorem ya{gH:Array TypeId}{cC cS kU e:TypeId}{d:TypeDesc}{sz:Nat}{s x:ad}{xs:O Y}(h0:gH[0]? =some cS)(h1:gH[1]? =some kU)
 (hs:P.underlying cS=some (.slice e)) (hx:P.underlying kU=some (.slice e)) (he:P.underlying e=some d) (g:P.cellsOf e=sz) (h:Src sz w x xs)
 (c:s.len+x.len<=s.cap) (i:∀a,s.a=some a->bk w (a.add (s.len*sz)) xs):
 Sem.run P (Builtin.append_ gH cC #[.slice s.a s.len s.cap,.slice x.a x.len x.cap]) w=
  .ok (.slice s.a (s.len+x.len) s.cap) (match s.a with|some a=>setCells w (a.add (s.len*sz)) 0 xs|none=>w):=by
 have hf:=qk (P:=P) h;have b:=h6 (w:=w) he;rw[g]at b
 cases j:s.a with
 |none=>
  simp[Builtin.append_,h0,h1,dj hs,dj hx,b,Builtin.lenOf,c,hf]
 |some a=>
  have f:=i a j;have:=p8 (P:=P) (A:=a.add (s.len*sz)) xs 0 w (by simpa using f.1) f.2;simp[Builtin.append_,h0,h1,dj hs,dj hx,b,Builtin.lenOf,c,hf,this]
theorem run_append_grow{gH:Array TypeId}{cC cS kU e:TypeId}{i:TypeInfo}{z:Y}{sz:Nat}{s x:ad}{xs c:O Y}(h0:gH[0]? =some cS)(h1:gH[1]? =some kU)
 (hs:P.underlying cS=some (.slice e)) (hx:P.underlying kU=some (.slice e)) (hi:P.info? e=some i) (hd:(P.underlying e).isSome=true) (k:i.zero=some z) (l:z.cells.size=sz) (m:P.cellsOf e=sz)
 (o:i.bytes≠0) (f:Src sz w x xs) (hold:Src sz w s c) (p:s.cap<s.len+x.len) (r:(2*(s.len+x.len)+1000)*i.bytes<=281474976710656):
 ∃ (b:Nat) (rest:O Y),s.len+x.len<=b/\b<=maxLen/\rest.length=(b-(s.len+x.len))*sz/\
  Sem.run P (Builtin.append_ gH cC #[.slice s.a s.len s.cap,.slice x.a x.len x.cap]) w=
   .ok (.slice (some ⟨w.heap.size,0,none⟩) (s.len+x.len) b) (w.drew.alloc (.cells (c++xs++rest).toArray e)):=by
 obtain⟨d,hd⟩:=kq _ hd;have h:=h6 (w:=w) hd;rw[m]at h;have t:=Bp p;have Q:Builtin.nextslicecap (s.len+x.len) s.cap*i.bytes<=281474976710656:=eC (nm _ t) r;have R:s.len+x.len<=281474976710656:=by
  have:s.len+x.len<=(2*(s.len+x.len)+1000)*i.bytes:=by
   have:=Nat.mul_le_mul_left (2*(s.len+x.len)+1000) (Nat.one_le_iff_ne_zero.2 o);omega
  omega
 let q:Question:=.appendCap (s.len+x.len) s.cap e
 let b:Nat:=q.cut (w.tape w.drawn q)
 have u:q.forced=false:=rfl;have v:s.len+x.len<=b:=by show s.len+x.len<=s.len+x.len+_;omega
 have A:b<=maxLen:=by
  show s.len+x.len+_%(2^63-(s.len+x.len))<=2^63-1;have:=hZ (w.tape w.drawn q) (y:=2^63-(s.len+x.len)) I;omega
 have B:Src sz w.drew x xs:=⟨f.len,f.nil,λa g=>by
  have:=f.rd a g;have hc:af (λ_=>False) w w.drew:=af.drew (.refl _ _);exact hc.a8 (by simp) _ _ _ this⟩
 have C:Src sz w.drew s c:=⟨hold.len,hold.nil,λa g=>by
  have:=hold.rd a g;have hc:af (λ_=>False) w w.drew:=af.drew (.refl _ _);exact hc.a8 (by simp) _ _ _ this⟩
 have hf:=qk (P:=P) B;have D:=qk (P:=P) C;have E:∀n (w':J),(askRoom n).run P w'=.ok () w':=λn w'=>by unfold askRoom;split<;>rfl
 have F:(choose q).run P w=.ok b w.drew:=by
  show Sem.run P (.choose q .pure) w=_;simp only[Sem.run,u,gp,if_false];rfl
 have j:=λw:J=>nt (w:=w) hi;refine⟨b,(Builtin.zeroCells z.cells (b-(s.len+x.len))).toList,v,A,by simp[Builtin.zeroCells,l],?_⟩;have G:¬(s.len+x.len<=s.cap):=by omega
 have H:¬((s.len+x.len:Nat):Int)>IntKind.i64.max:=by
  simp[IntKind.max,IntKind.signed,IntKind.bits];omega
 have K:¬(281474976710656<Builtin.nextslicecap (s.len+x.len) s.cap*i.bytes):=by omega
 have L:¬Builtin.nextslicecap (s.len+x.len) s.cap*i.bytes>2^48:=by simpa using K
 unfold Builtin.append_;simp only[rM,ni,p0,h0,h1,Sem.run_bind,dj hs,dj hx,Result.andThen,h,Builtin.lenOf,Sem.run_pure,G,if_false,gp,j,H,false_and,L,Bool.not_false,if_true];have M:Sem.run P (choose (.appendCap (s.len+x.len) s.cap e)) w=.ok b w.drew:=F;simp only[M,E,hf,D,zeroValue,j,k,Sem.run_bind,Result.andThen,Sem.run_pure,newRow,newObj,Sem.run];have N:w.drew.heap.size=w.heap.size:=rfl;rw[N]
 congr 1
 show w.drew.alloc _=w.drew.alloc _
 congr 2
 simp
theorem sh:∀ (vs:O Y) (c:Array Y) (i:Nat),i+vs.length<=c.size->(gJ c i vs).toList.take (i+vs.length)=c.toList.take i++vs
 | [],c,i,_=>by simp[gJ]
 |v::vs,c,i,h=>by
  simp only[gx]at h
  simp only[gJ]
  have:=sh vs (c.setIfInBounds i v) (i+1) (by simpa using (by omega:i+1+vs.length<=c.size))
  rw[show i+(v::vs).length=i+1+vs.length by simp;omega,this]
  have hi:i<c.size:=by omega
  have h2:(c.setIfInBounds i v).toList.take (i+1)=c.toList.take i++ [v]:=by
   rw[iy (by simpa using hi)];have a:(List.take i c.toList).set i v=List.take i c.toList:=by
    apply List.set_eq_of_length_le;simp only[cz];omega
   simp[List.take_set,a]
  rw[h2];simp
theorem Fy{gH:Array TypeId}{cC cS kU e:TypeId}{i:TypeInfo}{z:Y}{sz:Nat}{s x:ad}{xs vs:O Y}(h0:gH[0]? =some cS)(h1:gH[1]? =some kU)
 (hs:P.underlying cS=some (.slice e)) (hx:P.underlying kU=some (.slice e)) (hi:P.info? e=some i) (hd:(P.underlying e).isSome=true) (B:i.zero=some z) (C:z.cells.size=sz) (r:P.cellsOf e=sz)
 (D:i.bytes≠0) (f:Src sz w x xs) (t:aT sz e w s vs) (E:∀v∈xs,Plain v) (F:(2*(s.len+x.len)+1000)*i.bytes<=281474976710656):
 ∃ (g:ad) (w':J),Sem.run P (Builtin.append_ gH cC #[.slice s.a s.len s.cap,.slice x.a x.len x.cap]) w=.ok (.slice g.a g.len g.cap) w'/\
  aT sz e w' g (vs++xs)/\g.len=s.len+x.len/\af (aE s) w w'/\(∀k,aE g k->aE s k\/w.heap.size<=k):=by
 have hold:=t.src;obtain⟨aw,ax,G,u⟩:=t;by_cases h:s.len+x.len<=s.cap
 .have H:∀a,s.a=some a->bk w (a.add (s.len*sz)) xs:=by
   intro a j;rcases u with ⟨n,_⟩|⟨b,c,l,o,m,y⟩
   .rw[n]at j;cases j
   .rw[l]at j
    cases j;rw[az];refine o.b3 _ _ ?_ E;rw[m,f.len,cF,←jz];exact nm _ h
  obtain⟨d,hd⟩:=kq _ hd;have p:=ya (cC:=cC) h0 h1 hs hx hd r f h H;refine⟨⟨s.a,s.len+x.len,s.cap⟩,_,p,?_,rfl,?_,λk q=>.inl q⟩
  .refine⟨by simp[aw,f.len,jz],h,G,?_⟩
   rcases u with ⟨n,hc⟩|⟨b,c,l,o,m,y⟩
   .exact .inl ⟨n,hc⟩
   .refine .inr ⟨b,gJ c (s.len*sz) xs,l,?_,by rw[iE];exact m,?_⟩
    .simp only[l,az]
     have:=bu.se (T:=e) xs (0+s.len*sz) 0 o;simpa using this
    .have K:s.len*sz+xs.length<=c.size:=by
      rw[m,f.len,←jz];exact nm _ h
     have:=sh xs c (s.len*sz) K;rw[f.len,←jz]at this;rw[this,y]
  .cases L:s.a with
   |none=>exact .refl _ _
   |some a=>
    refine af.setCells (λ_=>?_) xs 0 (.refl _ _);exact⟨a,L,by unfold Addr.add;split<;>rfl⟩
 .obtain⟨M,rest,N,Q,R,p⟩:=run_append_grow (cC:=cC) h0 h1 hs hx hi hd B C r D f hold I F
  refine⟨⟨some ⟨w.heap.size,0,none⟩,s.len+x.len,M⟩,_,p,?_,rfl,af.alloc (af.drew (.refl _ _)) _,?_⟩
  .refine⟨by simp[aw,f.len,jz],N,Q,.inr ⟨w.heap.size,(vs++xs++rest).toArray,rfl,bu.new w.drew _ _,?_,?_⟩⟩
   .simp[aw,f.len,R]
    rw[←jz,←jz]
    congr 1
    omega
   .have:(vs++xs).length=(s.len+x.len)*sz:=by simp[aw,f.len,jz]
    show List.take ((s.len+x.len)*sz) (vs++xs++rest).toArray.toList=vs++xs;rw[←this];exact List.take_left
  .rintro k ⟨A,aq,q⟩
   cases aq;exact .inr (by simpa using q▸bt _)
end
theorem aT.ah{sz:Nat}{T:TypeId}{w w':J}{s:ad}{vs:O Y}{W:Nat->Prop}(h:aT sz T w s vs)(hc:af W w w')(e:∀k,aE s k->¬W k):aT sz T w' s vs:=by
 obtain⟨h1,h2,f,a⟩:=h;refine⟨h1,h2,f,?_⟩;rcases a with a|⟨b,c,d,g,i,j⟩
 .exact .inl a
 .exact .inr ⟨b,c,d,g.ah hc (e b ⟨_,d,rfl⟩),i,j⟩
theorem Src.ah{sz:Nat}{w w':J}{s:ad}{vs:O Y}{W:Nat->Prop}(h:Src sz w s vs)(hc:af W w w')(c:∀k,aE s k->¬W k):Src sz w' s vs:=
 ⟨h.len,h.nil,λa b=>hc.a8 (c _ ⟨a,b,rfl⟩) _ _ _ (h.rd a b)⟩
theorem aT.lt{sz:Nat}{T:TypeId}{w:J}{s:ad}{vs:O Y}(h:aT sz T w s vs):∀k,aE s k->k<w.heap.size:=by
 rintro k ⟨A,aq,rfl⟩;obtain⟨_,_,_,a⟩:=h;rcases a with ⟨d,_⟩|⟨b,c,e,f,_⟩
 .rw[d]at aq;cases aq
 .rw[e]at aq;cases aq;exact f.lt
theorem aT.cell{T:TypeId}{w:J}{s:ad}{vs:O Y}(h:aT 1 T w s vs){i:Nat}{v:Y}(d:vs[i]? =some v):
 ∃b c,s.a=some ⟨b,0,none⟩/\bu w b c T/\c.size=s.cap/\i<s.len/\i<c.size/\w.cell? ⟨b,i,none⟩=some v/\c.toList.take s.len=vs:=by
 obtain⟨h1,h2,k,g⟩:=h;have hi:i<s.len:=by
  have:=(jV.1 d).1;omega
 rcases g with ⟨_,hc⟩|⟨b,c,j,e,f,ht⟩
 .omega
 .rw[fE]at f ht
  refine⟨b,c,j,e,f,hi,I,?_,ht⟩;rw[e.cell];rw[←ht,tM]at d;rw[if_pos hi]at d;simpa using d
theorem aT.set{T:TypeId}{w:J}{s:ad}{vs:O Y}{b i:Nat}(h:aT 1 T w s vs)(d:s.a=some ⟨b,0,none⟩)(v:Y):
 aT 1 T (w.setCell ⟨b,i,none⟩ v) s (vs.set i v):=by
 obtain⟨h1,h2,f,g⟩:=h;refine⟨by simpa using h1,h2,f,.inr ?_⟩;rcases g with ⟨j,_⟩|⟨m,c,e,k,l,ht⟩
 .rw[j]at d;cases d
 .rw[d]at e
  cases e;refine⟨b,_,d,k.set i v,by simpa using l,?_⟩;rw[←ht];simp[List.take_set]
def Bq(P:Program)(cS e:TypeId)(sz bytes:Nat):al:=
 match P.underlying cS,P.info? e,P.underlying e with
 |some (.slice a),some i,some _=>a==e&&(match i.zero with|some z=>z.cells.size==sz|none=>false)&&P.cellsOf e==sz&&i.bytes==bytes&&bytes !=0
 |_,_,_=>false
structure h8(P:Program)(cS e:TypeId)(sz bytes:Nat):Prop where
 h:Bq P cS e sz bytes=true
theorem h8.out{P:Program}{cS e:TypeId}{sz bytes:Nat}(h:h8 P cS e sz bytes):
 P.underlying cS=some (.slice e)/\∃i z,P.info? e=some i/\(P.underlying e).isSome=true/\i.zero=some z/\z.cells.size=sz/\P.cellsOf e=sz/\i.bytes=bytes/\bytes≠0:=by
 have h:=h.h;unfold Bq at h;split at h
 .rename_i k i d h1 h2 b
  simp only[dh,jY,bne_iff_ne]at h;obtain⟨⟨⟨⟨rfl,a⟩,c⟩,f⟩,g⟩:=h;split at a
  .rename_i z j
   exact⟨h1,i,z,h2,by simp[b],j,by simpa using a,c,f,g⟩
  .cases a
 .cases h
theorem h8.append{P:Program}{w:J}{cS e cC:TypeId}{sz bytes:Nat}{s x:ad}{xs vs:O Y}(h:h8 P cS e sz bytes)
 (c:Src sz w x xs) (d:aT sz e w s vs) (f:∀v∈xs,Plain v) (g:(2*(s.len+x.len)+1000)*bytes<=281474976710656):
 ∃ (b:ad) (w':J),Sem.run P (Builtin.append_ #[cS,cS] cC #[.slice s.a s.len s.cap,.slice x.a x.len x.cap]) w=.ok (.slice b.a b.len b.cap) w'/\
  aT sz e w' b (vs++xs)/\b.len=s.len+x.len/\af (aE s) w w'/\(∀k,aE b k->aE s k\/w.heap.size<=k):=by
 obtain⟨h1,i,z,h2,j,l,m,n,rfl,o⟩:=h.out;exact Fy rfl rfl h1 h1 h2 j l m n o c d f g
theorem Src.new{sz:Nat}{T:TypeId}(w:J)(xs:O Y)(n:Nat)(b:xs.length=n*sz):Src sz (w.alloc (.cells xs.toArray T)) ⟨some ⟨w.heap.size,0,none⟩,n,n⟩ xs:=by
 refine⟨b,(λh=>by cases h),λa c=>?_⟩
 cases c;rw[qj (bu.new w xs.toArray T) _ _ _ (by simp[b])];simp[←b]
theorem aT.new{sz:Nat}{T:TypeId}(w:J)(xs:O Y)(n:Nat)(a:xs.length=n*sz)(b:n<=maxLen):aT sz T (w.alloc (.cells xs.toArray T)) ⟨some ⟨w.heap.size,0,none⟩,n,n⟩ xs:=by
 refine⟨a,bt _,b,.inr ⟨_,_,rfl,bu.new w _ _,by simp[a],?_⟩⟩;show List.take (n*sz) xs=xs;rw[←a,h4]
theorem aT.none(sz:Nat)(T:TypeId)(w:J):aT sz T w ⟨.none,0,0⟩ []:=⟨by simp,bt _,by decide,.inl ⟨rfl,rfl⟩⟩
theorem gy(k:Nat):¬aE ⟨.none,0,0⟩ k:=by rintro⟨A,aq,_⟩;cases aq
theorem jl{A:ag}{n m k:Nat}:aE ⟨some A,n,m⟩ k↔A.block=k:=⟨λ⟨B,a,h⟩=>by cases a;exact h,λh=>⟨_,rfl,h⟩⟩
theorem Src.alloc{sz:Nat}{w:J}{s:ad}{vs:O Y}(h:Src sz w s vs)(o:Obj):Src sz (w.alloc o) s vs:=h.ah (W:=λ_=>False) (af.alloc (.refl _ _) o) (λ_ _ h=>h)
theorem aT.ext{sz:Nat}{T:TypeId}{w w':J}{s:ad}{vs:O Y}(h:aT sz T w s vs)(hc:Ext w w'):aT sz T w' s vs:=h.ah hc λ_ _ h=>h
theorem Src.ext{sz:Nat}{w w':J}{s:ad}{vs:O Y}(h:Src sz w s vs)(hc:Ext w w'):Src sz w' s vs:=h.ah hc λ_ _ h=>h
theorem h8.push{P:Program}{w:J}{cS e cC:TypeId}{sz bytes:Nat}{s:ad}{vs xs:O Y}(h:h8 P cS e sz bytes)(hx:xs.length=sz)
 (c:aT sz e w s vs) (d:∀v∈xs,Plain v) (f:(2*(s.len+1)+1000)*bytes<=281474976710656):
 ∃ (b:ad) (w':J),Sem.run P (Builtin.append_ #[cS,cS] cC #[.slice s.a s.len s.cap,.slice (some ⟨w.heap.size,0,none⟩) 1 1]) (w.alloc (.cells xs.toArray e))=.ok (.slice b.a b.len b.cap) w'/\
  aT sz e w' b (vs++xs)/\b.len=s.len+1/\af (aE s) w w'/\(∀k,aE b k->aE s k\/w.heap.size<=k):=by
 have hc:Ext w (w.alloc (.cells xs.toArray e)):=af.alloc (.refl _ _) _;obtain⟨b,w',h1,h2,g,i,j⟩:=h.append (cC:=cC) (Src.new (T:=e) w xs 1 (by simpa using hx)) (c.ext hc) d f;exact⟨b,w',h1,h2,g,(af.cN hc).trans i,λk l=>(j k l).imp id (λh=>by simp at h;omega)⟩
theorem h8.clone{P:Program}{w:J}{cS e cC:TypeId}{sz bytes:Nat}{x:ad}{xs:O Y}(h:h8 P cS e sz bytes)
 (m:Src sz w x xs) (q:∀v∈xs,Plain v) (r:(2*x.len+1000)*bytes<=281474976710656):
 ∃ (f:ad) (w':J),Sem.run P (Builtin.append_ #[cS,cS] cC #[.slice (some ⟨w.heap.size,0,none⟩) 0 0,.slice x.a x.len x.cap]) (w.alloc (.cells #[] e))=.ok (.slice f.a f.len f.cap) w'/\
  aT sz e w' f xs/\f.len=x.len/\Ext w w'/\(∀k,aE f k->w.heap.size<=k)/\f.a.isSome=true:=by
 have t:=aT.new (sz:=sz) (T:=e) w [] 0 (by simp) (by decide);have n:=m.alloc (.cells #[] e);obtain⟨f,w',h1,h2,o,g,u⟩:=h.append (cC:=cC) n t q (by simpa using r);refine⟨f,w',h1,by simpa using h2,by simpa using o,?_,λk j=>?_,?_⟩
 .refine⟨g.os.trans rfl,g.tape.trans rfl,g.output.trans rfl,?_,λk j _=>?_⟩
  .have:=g.size;simp at this;omega
  .rw[g.block k (by simp;omega) (by rintro⟨A,aq,h⟩;cases aq;simp at h;omega)]
   exact Below.heap_alloc _ _ _ j
 .rcases u k j with ⟨A,aq,h⟩|h
  .cases aq;simp at h;omega
  .simp at h;omega
 .obtain⟨_,i,z,F,y,G,H,B,rfl,I⟩:=h.out
  have l:=h2.2.2.2;rcases l with ⟨C,hc⟩|⟨b,c,l,_⟩
  .
   exfalso;have K:=h2.2.1;have p:x.len=0:=by simp at o;omega
   have D:xs=[]:=mq.1 (by rw[m.len,p,pZ]);obtain⟨d,hd⟩:=kq _ y;have:=ya (P:=P) (w:=w.alloc (.cells #[] e)) (gH:= #[cS,cS]) (cC:=cC) (s:=⟨some ⟨w.heap.size,0,Option.none⟩,0,0⟩) rfl rfl h.out.1 h.out.1 hd B n (by simp[p]) (λa _=>by
    rw[D];exact⟨λi hi=>by simp at hi,λv E=>by simp at E⟩)
   rw[this]at h1;simp only[Result.ok.injEq,Value.slice.injEq]at h1;rw[C]at h1
   cases h1.1.1
  .rw[l];rfl
theorem aT.at{T:TypeId}{w:J}{s:ad}{vs:O Y}(h:aT 1 T w s vs){i:Nat}{v:Y}(g:vs[i]? =some v):
 ∃A:ag,s.a=some A/\((0:Int)<=(i:Int)/\(i:Int)<((s.len:Nat):Int))/\w.cell? (A.add (Int.toNat (i:Int)*1))=some v/\w.frozen? (A.add (Int.toNat (i:Int)*1))=false/\
  aE s (A.add (Int.toNat (i:Int)*1)).block/\∀d,aT 1 T (w.setCell (A.add (Int.toNat (i:Int)*1)) d) s (vs.set i d):=by
 obtain⟨b,c,f,j,k,hi,l,hc,_⟩:=h.cell g;have e:(Addr.mk b 0 Option.none).add (Int.toNat (i:Int)*1)=⟨b,i,Option.none⟩:=by rw[fE,di,az,cF]
 exact⟨_,f,⟨I,I⟩,by rw[e];exact hc,by rw[e];exact j.frozen _ rfl,by rw[e];exact⟨_,f,rfl⟩,λd=>by rw[e];exact h.set f d⟩
end aS
namespace aS
open Go Go.RowKit
def Br(ns:O Int):ByteArray:=ns.foldl (λr n=>r.push (UInt8.ofNat n.toNat)) ByteArray.empty
theorem Fz{P:Program}{w:J}{src dst e:TypeId}{s:ad}{ns:O Int}(hs:P.underlying src=some (.slice e))(he:P.underlying e=some (.int .u8))(hd:P.underlying dst=some .string)
 (h:Src 1 w s (ns.map (.int .u8))):Sem.run P (convert src dst (.slice s.a s.len s.cap)) w=.ok (.string (Br ns)) w:=by
 rw[run_convert_bytes_string w src dst e s.a s.len s.cap hs he hd]
 cases b:s.a with
 |none=>
  have:=h.nil b;have d:ns=[]:=by simpa using this
  subst d;rfl
 |some A=>
  have c:=h.rd A b;rw[fE]at c;exact run_bytesToString w A s.len s.cap ns (by
   unfold loadCells;rw[run_loadCellsFrom _ _ _ _ c];simp)
theorem Bs{P:Program}{e:TypeId}{v:Y}(a:((P.info? e).bind (·.zero)).map (·.cells)=some #[v])(hc:P.cellsOf e=1)(n:Nat):hK P e n=(List.replicate n v).toArray:=by
 unfold hK;rw[hc]
 cases hi:(P.info? e).bind (·.zero) with
 |none=>rw[hi]at a;cases a
 |some z=>
  rw[hi]at a;simp only[lT,Option.some.injEq]at a;simp only[Option.getD_some,a,fE];apply Array.ext
  .simp
  .intro i h1 h2
   have b:n≠0:=by
    intro h;subst h;simp at h2
   simp[b,Nat.mod_one]
structure nz(P:Program)(w:J)(e:TypeId)(s:ad):Prop where
 le:s.len<=s.cap
 cap:s.cap<=maxLen
 nil:s.a=none->s.cap=0
 cell:∀a,s.a=some a->∀i,i<s.cap->∃vs,a8 w (a.add (i*P.cellsOf e)) 0 (P.cellsOf e)=some vs/\∃fuel,fI P w fuel e vs
section
variable {P:Program}{w:J}{T:TypeId}{fuel:Nat}{cs:O Y}
theorem si{k:IntKind}(h:fI P w fuel T cs)(a:P.underlying T=some (.int k)):∃n:Int,cs=[.int k n]/\k.min<=n/\n<=k.max:=by
 cases fuel with
 |zero=>cases h
 |succ f=>simpa only[fI,a] using h
theorem yb{e:TypeId}(h:fI P w fuel T cs)(b:P.underlying T=some (.slice e)):∃s:ad,cs=[.slice s.a s.len s.cap]/\nz P w e s:=by
 cases fuel with
 |zero=>cases h
 |succ f=>
  simp only[fI,b]at h;obtain⟨s,h0,h1,h2,c,d⟩:=h;exact⟨s,h0,h1,h2,c,λa g i hi=>by
   obtain⟨vs,j,k⟩:=d a g i hi;exact⟨vs,j,f,k⟩⟩
theorem Bt{fs:Array Field}(h:fI P w fuel T cs)(a:P.underlying T=some (.struct fs)):cs.length=P.cellsOf T/\∀f∈fs,∃fuel,fI P w fuel f.type ((cs.drop f.offset).take (P.cellsOf f.type)):=by
 cases fuel with
 |zero=>cases h
 |succ f=>
  simp only[fI,a]at h;exact⟨h.1,λg hg=>⟨f,h.2 g hg⟩⟩
theorem nz.of{e:TypeId}{v:Y}(h:lZ P w T v)(b:P.underlying T=some (.slice e)):∃s:ad,v=.slice s.a s.len s.cap/\nz P w e s:=by
 simp only[lZ,b]at h;obtain⟨fuel,h⟩:=h;obtain⟨s,h1,h2⟩:=yb h b;exact⟨s,by simpa using h1,h2⟩
end
theorem mI{w:J}{A:ag}:∀ {n i:Nat}{vs:O Y}{j:Nat}{v:Y},a8 w A i n=some vs->vs[j]? =some v->w.cell? (A.add (i+j))=some v
 |0,i,vs,j,v,h,a=>by simp[a8]at h;subst h;simp at a
 |n+1,i,vs,j,v,h,a=>by
  simp only[a8]at h
  cases h1:w.cell? (A.add i) with
  |none=>simp[h1]at h
  |some u=>
   cases h2:a8 w A (i+1) n with
   |none=>simp[h1,h2]at h
   |some us=>
    simp only[h1,h2,Option.some.injEq]at h
    subst h
    cases j with
    |zero=>simp at a;subst a;exact h1
    |succ j=>
     have:=mI h2 (j:=j) (by simpa using a)
     rw[show i+(j+1)=i+1+j from I]
     exact this
theorem Src.at{w:J}{s:ad}{vs:O Y}(h:Src 1 w s vs){i:Nat}{v:Y}(b:vs[i]? =some v):
 ∃A:ag,s.a=some A/\((0:Int)<=(i:Int)/\(i:Int)<((s.len:Nat):Int))/\w.cell? (A.add (Int.toNat (i:Int)*1))=some v:=by
 have hi:i<vs.length:=(jV.1 b).1;have d:=h.len
 cases c:s.a with
 |none=>have:=h.nil c;subst this;simp at hi
 |some A=>
  have:=mI (h.rd A c) b;exact⟨A,rfl,⟨I,I⟩,by rw[fE,di];simpa using this⟩
end aS
