/- What a Go program of the model must show, as text that can be read; sound against the kit. -/
import Derived.Below
import Derived.KernelRfl
import Derived.Laws.BytesString
import Derived.OpenShut
import Derived.OrdersHeld
import Derived.ProofKit
import Derived.Scope
import Derived.StillTail
import Derived.Tactics
import Derived.WalkKit
import Derived.WideKeyArgs
namespace Go
theorem ba:type_of% @Nat.le_refl:=@Nat.le_refl
theorem b8:type_of% @of_decide_eq_true:=@of_decide_eq_true
theorem cz:type_of% @Nat.zero_add:=@Nat.zero_add
theorem cL:type_of% @of_decide_eq_false:=@of_decide_eq_false
theorem cS:type_of% @List.mem_append:=@List.mem_append
theorem cT:type_of% @List.length_append:=@List.length_append
theorem cX:type_of% @decide_eq_true_eq:=@decide_eq_true_eq
theorem cY:type_of% @List.mem_cons:=@List.mem_cons
theorem c3:type_of% @List.getElem_mem:=@List.getElem_mem
theorem c8:type_of% @Nat.zero_le:=@Nat.zero_le
theorem c9:type_of% @List.length_take:=@List.length_take
theorem c_:type_of% @List.append_assoc:=@List.append_assoc
theorem dE:type_of% @List.length_set:=@List.length_set
theorem dH:type_of% @Bool.and_eq_true:=@Bool.and_eq_true
theorem dQ:type_of% @Nat.le_trans:=@Nat.le_trans
theorem dU:type_of% @List.length_map:=@List.length_map
theorem d_:type_of% @Int.toNat_natCast:=@Int.toNat_natCast
theorem ej:type_of% @List.mem_singleton:=@List.mem_singleton
theorem ek:type_of% @List.length_drop:=@List.length_drop
theorem ew:type_of% @List.mem_map:=@List.mem_map
theorem ey:type_of% @List.take_of_length_le:=@List.take_of_length_le
theorem eF:type_of% @Nat.lt_or_ge:=@Nat.lt_or_ge
theorem eJ:type_of% @List.getElem?_eq_getElem:=@List.getElem?_eq_getElem
theorem eL:type_of% @decide_eq_true:=@decide_eq_true
theorem e_:type_of% @List.map_append:=@List.map_append
theorem fi:type_of% @List.getElem_of_mem:=@List.getElem_of_mem
theorem fB:type_of% @Nat.lt_of_lt_of_le:=@Nat.lt_of_lt_of_le
theorem fC:type_of% @List.not_mem_nil:=@List.not_mem_nil
theorem fL:type_of% @Bool.eq_iff_iff:=@Bool.eq_iff_iff
theorem fM:type_of% @or_false:=@or_false
theorem gb:type_of% @Bool.false_eq_true:=@Bool.false_eq_true
theorem gd:type_of% @Nat.mul_one:=@Nat.mul_one
theorem gf:type_of% @List.getElem_set_ne:=@List.getElem_set_ne
theorem gk:type_of% @Bool.not_eq_true:=@Bool.not_eq_true
theorem gu:type_of% @List.map_cons:=@List.map_cons
theorem gK:type_of% @List.mem_of_mem_drop:=@List.mem_of_mem_drop
theorem gT:type_of% @List.mem_of_mem_take:=@List.mem_of_mem_take
theorem g2:type_of% @List.take_append_drop:=@List.take_append_drop
theorem g3:type_of% @List.append_nil:=@List.append_nil
theorem g4:type_of% @List.getD_eq_getElem?_getD:=@List.getD_eq_getElem?_getD
theorem hY:type_of% @List.mem_filter:=@List.mem_filter
theorem hZ:type_of% @Nat.mod_lt:=@Nat.mod_lt
theorem im:type_of% @decide_eq_false:=@decide_eq_false
theorem iF:type_of% @Nat.mod_eq_of_lt:=@Nat.mod_eq_of_lt
theorem iR:type_of% @List.length_cons:=@List.length_cons
theorem iS:type_of% @Nat.min_eq_left:=@Nat.min_eq_left
theorem ja:type_of% @Nat.eq_of_beq_eq_true:=@Nat.eq_of_beq_eq_true
theorem jb:type_of% @Bool.true_and:=@Bool.true_and
theorem jc:type_of% @List.mem_append_right:=@List.mem_append_right
theorem jd:type_of% @List.getElem_set_self:=@List.getElem_set_self
theorem jy:type_of% @beq_iff_eq:=@beq_iff_eq
theorem jz:type_of% @List.take_length:=@List.take_length
theorem jX:type_of% @Bool.or_eq_true:=@Bool.or_eq_true
theorem jY:type_of% @List.mem_range:=@List.mem_range
theorem jZ:type_of% @List.length_singleton:=@List.length_singleton
theorem j0:type_of% @List.mem_of_find?_eq_some:=@List.mem_of_find?_eq_some
theorem kr:type_of% @Bool.not_eq_true':=@Bool.not_eq_true'
theorem kt:type_of% @List.take_succ_eq_append_getElem:=@List.take_succ_eq_append_getElem
theorem ku:type_of% @Nat.add_mul:=@Nat.add_mul
theorem kx:type_of% @List.drop_zero:=@List.drop_zero
theorem ky:type_of% @List.find?_eq_none:=@List.find?_eq_none
theorem kT:type_of% @Nat.add_zero:=@Nat.add_zero
theorem kU:type_of% @List.nil_append:=@List.nil_append
theorem kV:type_of% @List.map_map:=@List.map_map
theorem kW:type_of% @List.mem_append_left:=@List.mem_append_left
theorem kX:type_of% @List.find?_some:=@List.find?_some
theorem kY:type_of% @List.getElem?_append_right:=@List.getElem?_append_right
theorem kZ:type_of% @List.take_append_of_le_length:=@List.take_append_of_le_length
theorem k0:type_of% @List.count_pos_iff:=@List.count_pos_iff
theorem lE:type_of% @List.mem_cons_of_mem:=@List.mem_cons_of_mem
theorem lF:type_of% @decide_eq_false_iff_not:=@decide_eq_false_iff_not
theorem lG:type_of% @List.drop_eq_getElem_cons:=@List.drop_eq_getElem_cons
theorem l9:type_of% @List.getElem?_eq_some_iff:=@List.getElem?_eq_some_iff
theorem l_:type_of% @Array.getElem?_eq_some_iff:=@Array.getElem?_eq_some_iff
theorem mb:type_of% @List.drop_drop:=@List.drop_drop
theorem mc:type_of% @Option.some_get:=@Option.some_get
theorem me:type_of% @List.map_drop:=@List.map_drop
theorem mf:type_of% @List.pairwise_cons:=@List.pairwise_cons
theorem mg:type_of% @List.length_replicate:=@List.length_replicate
theorem mS:type_of% @Option.map_some:=@Option.map_some
theorem mT:type_of% @List.perm_middle:=@List.perm_middle
theorem mU:type_of% @List.map_take:=@List.map_take
theorem mV:type_of% @List.pairwise_iff_getElem:=@List.pairwise_iff_getElem
theorem mW:type_of% @Bool.false_and:=@Bool.false_and
theorem mX:type_of% @List.length_nil:=@List.length_nil
theorem nu:type_of% @Bool.false_or:=@Bool.false_or
theorem nv:type_of% @List.filter_eq_self:=@List.filter_eq_self
theorem nw:type_of% @List.filter_append:=@List.filter_append
theorem nx:type_of% @Bool.not_eq_false':=@Bool.not_eq_false'
theorem ny:type_of% @List.getElem?_eq_none:=@List.getElem?_eq_none
theorem ot:type_of% @Nat.testBit_or:=@Nat.testBit_or
theorem ou:type_of% @List.getElem?_cons_zero:=@List.getElem?_cons_zero
theorem ov:type_of% @List.any_eq_true:=@List.any_eq_true
theorem ow:type_of% @Nat.le_of_ble_eq_true:=@Nat.le_of_ble_eq_true
theorem ox:type_of% @List.sum_append:=@List.sum_append
theorem oy:type_of% @List.getElem?_map:=@List.getElem?_map
theorem oz:type_of% @Nat.xor_lt_two_pow:=@Nat.xor_lt_two_pow
theorem oA:type_of% @List.take_left':=@List.take_left'
theorem oB:type_of% @List.mem_or_eq_of_mem_set:=@List.mem_or_eq_of_mem_set
theorem pF:type_of% @List.pairwise_append:=@List.pairwise_append
theorem pG:type_of% @Nat.eq_zero_or_pos:=@Nat.eq_zero_or_pos
theorem pH:type_of% @List.count_append:=@List.count_append
theorem q5:type_of% @Option.isSome_iff_exists:=@Option.isSome_iff_exists
theorem q6:type_of% @List.all_eq_true:=@List.all_eq_true
theorem q7:type_of% @List.any_eq_false:=@List.any_eq_false
theorem q8:type_of% @Bool.or_eq_false_iff:=@Bool.or_eq_false_iff
theorem q9:type_of% @Nat.sub_self:=@Nat.sub_self
theorem q_:type_of% @Nat.sub_zero:=@Nat.sub_zero
theorem rf:type_of% @List.length_eq_zero_iff:=@List.length_eq_zero_iff
theorem rh:type_of% @Nat.mul_le_mul_right:=@Nat.mul_le_mul_right
theorem ri:type_of% @List.nodup_append:=@List.nodup_append
theorem rj:type_of% @UInt8.toNat_lt:=@UInt8.toNat_lt
theorem rk:type_of% @List.take_take:=@List.take_take
theorem rl:type_of% @List.getElem_drop:=@List.getElem_drop
theorem rm:type_of% @List.map_congr_left:=@List.map_congr_left
theorem rn:type_of% @List.toList_toArray:=@List.toList_toArray
theorem rp:type_of% @List.count_cons:=@List.count_cons
theorem rq:type_of% @List.count_nil:=@List.count_nil
theorem tx:type_of% @List.cons_append:=@List.cons_append
theorem tz:type_of% @List.filterMap_cons:=@List.filterMap_cons
theorem tA:type_of% @List.filterMap_append:=@List.filterMap_append
theorem tB:type_of% @Nat.testBit_two_pow:=@Nat.testBit_two_pow
theorem tC:type_of% @List.getElem?_toArray:=@List.getElem?_toArray
theorem tD:type_of% @List.drop_of_length_le:=@List.drop_of_length_le
theorem tE:type_of% @Array.toList_inj:=@Array.toList_inj
theorem tF:type_of% @List.ext_getElem:=@List.ext_getElem
theorem tG:type_of% @List.getElem_set:=@List.getElem_set
theorem tH:type_of% @List.filter_eq_nil_iff:=@List.filter_eq_nil_iff
theorem tI:type_of% @List.length_zip:=@List.length_zip
theorem tJ:type_of% @List.exists_mem_of_ne_nil:=@List.exists_mem_of_ne_nil
theorem tK:type_of% @List.perm_append_comm:=@List.perm_append_comm
theorem tL:type_of% @List.getElem_take:=@List.getElem_take
theorem tM:type_of% @List.getElem_append_left:=@List.getElem_append_left
theorem tN:type_of% @UInt8.toNat_ofNat':=@UInt8.toNat_ofNat'
theorem tO:type_of% @Int.tmod_eq_emod_of_nonneg:=@Int.tmod_eq_emod_of_nonneg
theorem vS:type_of% @Array.getElem?_modify:=@Array.getElem?_modify
theorem vT:type_of% @List.getElem?_drop:=@List.getElem?_drop
theorem vU:type_of% @List.range_eq_range':=@List.range_eq_range'
theorem vV:type_of% @Option.map_eq_some_iff:=@Option.map_eq_some_iff
theorem vW:type_of% @List.getElem?_take:=@List.getElem?_take
theorem vX:type_of% @List.mem_cons_self:=@List.mem_cons_self
theorem vY:type_of% @Int.fdiv_eq_ediv_of_nonneg:=@Int.fdiv_eq_ediv_of_nonneg
theorem vZ:type_of% @List.foldl_append:=@List.foldl_append
theorem v7:type_of% @Nat.pow_le_pow_right:=@Nat.pow_le_pow_right
theorem v8:type_of% @List.zipWith_append:=@List.zipWith_append
theorem v_:type_of% @List.flatten_append:=@List.flatten_append
theorem wa:type_of% @List.getElem_append_right:=@List.getElem_append_right
theorem wc:type_of% @List.set_append_right:=@List.set_append_right
theorem we:type_of% @List.size_toArray:=@List.size_toArray
theorem wg:type_of% @List.length_filter_le:=@List.length_filter_le
theorem wh:type_of% @List.filter_cons:=@List.filter_cons
theorem Aj:type_of% @List.eq_of_mem_replicate:=@List.eq_of_mem_replicate
theorem Ak:type_of% @Int.eq_ofNat_of_zero_le:=@Int.eq_ofNat_of_zero_le
theorem Al:type_of% @List.eq_nil_of_length_eq_zero:=@List.eq_nil_of_length_eq_zero
theorem J{p:Prop}(h:p:=by omega):p:=h
abbrev I:=World
abbrev Y:=Value
abbrev aq(α:Type):=Option α
abbrev O(α:Type):=List α
abbrev av:=Addr
abbrev aj:=Bool
end Go
namespace aQ
open Go
structure ae where
 a:aq av
 len:Nat
 cap:Nat
instance:Coe ae Value:=⟨λs=>.slice s.a s.len s.cap⟩
instance:Coe Int Value:=⟨λn=>.int .i64 n⟩
instance:Coe Nat Value:=⟨λn=>.int .i64 (n:Int)⟩
instance:Coe Bool Value:=⟨λb=>.bool b⟩
instance:Coe Nat Addr:=⟨λb=>⟨b,0,none⟩⟩
instance:Coe (Option Addr) Value:=⟨λp=>.pointer p⟩
instance:Coe Unit Value:=⟨λ_=>.slice none 0 0⟩
structure kz where
 f:FuncId
 pre:Array Y
 cap:Array Y
inductive c4 where
 |int (k:IntKind)|bool|str|ptr|slice|map|agg|fn|any
def c4.T:c4->Type
 | .int _=>Int
 | .bool=>aj
 | .str=>ByteArray
 | .ptr=>aq av
 | .slice=>ae
 | .map=>aq Nat
 | .agg=>Array Y
 | .fn=>kz
 | .any=>Y
def c4.v:(l:c4)->l.T->Y
 | .int k,(n:Int)=>.int k n
 | .bool,(b:aj)=>.bool b
 | .str,(s:ByteArray)=>.string s
 | .ptr,(p:aq av)=>.pointer p
 | .slice,(s:ae)=>.slice s.a s.len s.cap
 | .map,(r:aq Nat)=>.map r
 | .agg,(cs:Array Y)=>.agg cs
 | .fn,(F:kz)=>.func (.func F.f) F.pre F.cap
 | .any,(v:Y)=>v
inductive Kd where
 |one (l:c4)
 |flat (ls:O c4)
def pI(l:c4)(K:Y->Prop):Prop:=
 match l with
 | .int k=>∃n:Int,K (.int k n)
 | .bool=>∃b:aj,K (.bool b)
 | .str=>∃s:ByteArray,K (.string s)
 | .ptr=>∃p:aq av,K (.pointer p)
 | .slice=>∃s:ae,K (.slice s.a s.len s.cap)
 | .map=>∃r:aq Nat,K (.map r)
 | .agg=>∃cs:Array Y,K (.agg cs)
 | .fn=>∃F:kz,K (.func (.func F.f) F.pre F.cap)
 | .any=>∃v:Y,K v
def Am:O c4->(O Y->Prop)->Prop
 | [],K=>K []
 |l::ls,K=>pI l λv=>Am ls λvs=>K (v::vs)
def An(k:Kd)(K:Y->Prop):Prop:=
 match k with
 | .one l=>pI l K
 | .flat ls=>Am ls λvs=>K (.agg vs.toArray)
def wi:O Kd->(O Y->Prop)->Prop
 | [],K=>K []
 |k::ks,K=>An k λv=>wi ks λvs=>K (v::vs)
theorem ru{l:c4}{K:Y->Prop}(h:pI l K):∃v,K v:=by
 cases l<;>simp only[pI]at h<;>obtain⟨x,h⟩:=h<;>exact⟨_,h⟩
theorem Df:∀ {ls:O c4}{K:O Y->Prop},Am ls K->∃vs,K vs
 | [],_,h=>⟨_,h⟩
 |_::_,_,h=>let ⟨_,h⟩:=ru h;let ⟨_,h⟩:=Df h;⟨_,h⟩
theorem Dg{k:Kd}{K:Y->Prop}(h:An k K):∃v,K v:=by
 cases k with
 |one l=>exact ru h
 |flat ls=>obtain⟨_,h⟩:=Df h;exact⟨_,h⟩
theorem Ao:∀ {ls:O Kd}{K:O Y->Prop},wi ls K->∃vs,K vs
 | [],_,h=>⟨_,h⟩
 |_::_,_,h=>let ⟨_,h⟩:=Dg h;let ⟨_,h⟩:=Ao h;⟨_,h⟩
abbrev Env:=O (Nat×Y)
def Env.get:Env->Nat->aq Y
 | [],_=>none
 |(k,v)::e,s=>bif Nat.beq k s then some v else Env.get e s
def ev(e:Env):Operand->aq Y
 | .tmp t=>e.get t
 | .const v=>some v
 | .global g=>some (.pointer (some ⟨g,0,none⟩))
 | .func f=>some (.func (.func f) #[] #[])
def ro(e:Env)(x:Operand):Y:=(ev e x).getD undef
def known(e:Env)(xs:Array Operand):aj:=xs.toList.all λx=>(ev e x).isSome
structure dB(e:Env)(a:Act):Prop where
 get:∀s v,e.get s=some v->a.tmps[s]? =some v
theorem dB.ev{e:Env}{a:Act}(h:dB e a){x:Operand}{v:Y}(hx:ev e x=some v):a.eval x=v:=by
 cases x with
 |tmp t=>
  have:=h.get t v hx;simp[Act.eval,Array.getD_eq_getD_getElem?,this]
 |const c=>simpa[aQ.ev,Act.eval] using hx
 |global g=>simpa[aQ.ev,Act.eval] using hx
 |func f=>simpa[aQ.ev,Act.eval] using hx
theorem dB.ro{e:Env}{a:Act}(h:dB e a){x:Operand}(hx:(aQ.ev e x).isSome=true):a.eval x=ro e x:=by
 obtain⟨v,b⟩:=q5.1 hx;rw[h.ev b,aQ.ro,b];rfl
def dr(d:aq Nat)(v:Y)(e:Env):Env:=
 match d with
 |some d=>(d,v)::e
 |none=>e
theorem pJ(d:Nat)(v:Y)(e:Env)(s:Nat):Env.get ((d,v)::e) s=if d=s then some v else e.get s:=by
 simp only[Env.get,cond_eq_ite];by_cases a:d=s
 .subst a;simp
 .have:Nat.beq d s=false:=by
   cases hb:Nat.beq d s
   .rfl
   .exact absurd (ja hb) a
  simp[this,a]
theorem dB.put{e:Env}{a:Act}(h:dB e a){d:aq Nat}{v:Y}(hd:∀k,d=some k->k<a.tmps.size):dB (dr d v e) (a.put d v):=by
 cases d with
 |none=>exact h
 |some d=>
  constructor;intro s u hs;rw[dr,pJ]at hs;simp only[Act.put];by_cases b:d=s
  .subst b
   simp only[if_true,Option.some.injEq]at hs;subst hs;simp[hd d rfl]
  .rw[if_neg b]at hs
   rw[Array.getElem?_setIfInBounds_ne b];exact h.get s u hs
inductive ec where
 |one (k:Kd)
 |fp (ks:O Kd)
def iT(r:ec)(K:Y->Prop):Prop:=
 match r with
 | .one k=>An k K
 | .fp ks=>wi ks λvs=>K (.tuple vs.toArray)
theorem je{r:ec}{K:Y->Prop}(h:iT r K):∃v,K v:=by
 cases r with
 |one k=>exact Dg h
 |fp ks=>obtain⟨_,h⟩:=Ao h;exact⟨_,h⟩
def aV(w:I)(A:av):Nat->Nat->aq (O Y)
 |_,0=>some []
 |i,n+1=>match w.cell? (A.add i),aV w A (i+1) n with
  |some v,some vs=>some (v::vs)
  |_,_=>none
def setCells(w:I)(A:av):Nat->O Y->I
 |_,[]=>w
 |i,v::vs=>setCells (w.setCell (A.add i) v) A (i+1) vs
def Plain:Y->Prop
 | .agg _=>False
 | .tuple _=>False
 |_=>True
def b_(w:I)(A:av)(vs:O Y):Prop:=
 (∀i,i<vs.length->(w.cell? (A.add i)).isSome=true/\w.frozen? (A.add i)=false)/\∀v∈vs,Plain v
def hK:TypeDesc->aj
 | .struct _=>true
 | .array _ _=>true
 |_=>false
def hL(P:Program)(elem:TypeId)(n:Nat):Array Y:=
 let zero:=if n*P.cellsOf elem=0 then #[] else (((P.info? elem).bind (·.zero)).getD undef).cells
 (Array.range (n*P.cellsOf elem)).map (zero[· %zero.size]!)
section
variable {P:Program}{w:I}
theorem db{t:TypeId}{d:TypeDesc}(h:P.underlying t=some d):(underlying t).run P w=.ok d w:=by
 simp[underlying,program,Sem.run,bind,Sem.bind,h,pure]
theorem oC{t:TypeId}{d:TypeInfo}(h:P.info? t=some d):(typeInfo t).run P w=.ok d w:=by
 simp[typeInfo,program,Sem.run,bind,Sem.bind,h,pure]
theorem info_of_underlying{t:TypeId}{d:TypeDesc}(h:P.underlying t=some d):∃i,P.info? t=some i:=by
 unfold Program.underlying at h
 cases hi:P.info? t with
 |none=>simp[hi]at h
 |some i=>exact⟨i,rfl⟩
theorem iq{t:TypeId}{d:TypeDesc}(h:P.underlying t=some d):(Go.sizeOf t).run P w=.ok (P.cellsOf t) w:=by
 obtain⟨i,hi⟩:=info_of_underlying h;simp[Go.sizeOf,oC hi,Program.cellsOf,hi]
theorem rv{t:TypeId}{d:TypeDesc}(h:P.underlying t=some d):(isAgg t).run P w=.ok (hK d) w:=by
 simp only[isAgg,Sem.run_bind,db h,Result.andThen]
 cases d<;>rfl
theorem Ap{A:av}{v:Y}(h:w.cell? A=some v):(load A).run P w=.ok v w:=by
 simp[load,Sem.run,h]
theorem run_loadCellsFrom{A:av}:∀ (n i:Nat) (acc:Array Y) (vs:O Y),aV w A i n=some vs->
 (loadCellsFrom A i n acc).run P w=.ok (acc++vs.toArray) w
 |0,i,acc,vs,h=>by
  simp only[aV,Option.some.injEq]at h
  subst h
  simp[loadCellsFrom]
 |n+1,i,acc,vs,h=>by
  simp only[aV]at h
  cases h1:w.cell? (A.add i) with
  |none=>simp[h1]at h
  |some v=>
   cases a:aV w A (i+1) n with
   |none=>simp[h1,a]at h
   |some us=>
    simp only[h1,a,Option.some.injEq]at h
    subst h
    simp only[loadCellsFrom,Sem.run_bind,Ap h1,Result.andThen]
    rw[run_loadCellsFrom n (i+1) (acc.push v) us a]
    simp
theorem wj{T:TypeId}{d:TypeDesc}(a:P.underlying T=some d)(hd:hK d=true){A:av}{vs:O Y}(h:aV w A 0 (P.cellsOf T)=some vs):
 (loadVar T A).run P w=.ok (.agg vs.toArray) w:=by
 simp only[loadVar,Sem.run_bind,rv a,Result.andThen,hd,if_true,iq a,loadCells,run_loadCellsFrom _ _ _ _ h];simp
theorem Dh{T:TypeId}{d:TypeDesc}(a:P.underlying T=some d)(hd:hK d=false){A:av}{v:Y}(h:w.cell? A=some v):
 (loadVar T A).run P w=.ok v w:=by
 simp only[loadVar,Sem.run_bind,rv a,Result.andThen,hd,gb,if_false,Ap h]
theorem HZ{A:av}{v u:Y}(a:Plain v)(h:w.cell? A=some u)(hf:w.frozen? A=false):(store A v).run P w=.ok () (w.setCell A v):=by
 cases v<;>simp_all [store,Sem.run,Plain]
theorem H0(w:I)(A B:av)(v:Y):((w.setCell A v).cell? B).isSome=(w.cell? B).isSome:=by
 simp only[World.setCell,World.cell?,vS];by_cases hb:A.block=B.block
 .simp only[hb,if_true]
  cases w.heap[B.block]? with
  |none=>rfl
  |some o=>
   cases o<;>simp
   by_cases hs:B.spot.isSome<;>simp[hs]
   by_cases a:A.spot.isSome<;>simp[a]
   rw[fL];simp
 .simp[hb]
theorem H2(w:I)(A B:av)(v:Y):(w.setCell A v).frozen? B=w.frozen? B:=by
 simp only[World.setCell,World.frozen?,vS];by_cases hb:A.block=B.block
 .simp only[hb,if_true]
  cases w.heap[B.block]? with
  |none=>rfl
  |some o=>cases o<;>rfl
 .simp[hb]
theorem tP{A:av}:∀ (vs:O Y) (i:Nat) (w:I),(∀j,j<vs.length->(w.cell? (A.add (i+j))).isSome=true/\w.frozen? (A.add (i+j))=false)->(∀v∈vs,Plain v)->
 (storeCells A vs i).run P w=.ok () (setCells w A i vs)
 | [],i,w,_,_=>rfl
 |v::vs,i,w,h,a=>by
  have h0:=h 0 (by simp)
  simp only[kT]at h0
  obtain⟨u,hu⟩:=q5.1 h0.1
  simp only[storeCells,Sem.run_bind,HZ (P:=P) (a v (by simp)) hu h0.2,Result.andThen,setCells]
  refine tP vs (i+1) (w.setCell (A.add i) v) (λj b=>?_) (λx hx=>a x (by simp[hx]))
  have:=h (j+1) (by simp;omega)
  rw[H0,H2,show i+1+j=i+(j+1) from J]
  exact this
theorem Di{T:TypeId}{d:TypeDesc}(a:P.underlying T=some d){A:av}{v:Y}(hs:v.cells.size=P.cellsOf T)(h:b_ w A v.cells.toList):
 (storeVar T A v).run P w=.ok () (setCells w A 0 v.cells.toList):=by
 simp only[storeVar,Sem.run_bind,iq a,Result.andThen,hs,ne_eq,not_true,if_false];simpa using tP v.cells.toList 0 w (by simpa using h.1) h.2
end
def Aq:O c4->av->Nat->I->(O Y->Prop)->Prop
 | [],_,_,_,K=>K []
 |l::ls,A,i,w,K=>pI l λv=>w.cell? (A.add i)=some v/\Aq ls A (i+1) w λvs=>K (v::vs)
def ry(P:Program)(tk:TypeId->ec)(T:TypeId)(A:av)(w:I)(K:Y->Prop):Prop:=
 match P.underlying T with
 |none=>False
 |some d=>
  bif hK d then
   match tk T with
   | .one (.flat ls)=>bif Nat.beq (P.cellsOf T) ls.length then Aq ls A 0 w λvs=>K (.agg vs.toArray) else False
   |_=>∃cs:O Y,aV w A 0 (P.cellsOf T)=some cs/\K (.agg cs.toArray)
  else
   match tk T with
   | .one (.one l)=>pI l λv=>w.cell? A=some v/\K v
   |_=>False
def Ar(P:Program)(tk:TypeId->ec)(T:TypeId)(A:av)(x:Y)(w:I)(K:I->Prop):Prop:=
 match P.underlying T with
 |none=>False
 |some d=>
  bif hK d then
   match x with
   | .agg cs=>b_ w A cs.toList/\cs.size=P.cellsOf T/\K (setCells w A 0 cs.toList)
   |_=>False
  else bif Nat.beq (P.cellsOf T) 1 then
   match tk T with
   | .one (.one .any)=>Plain x/\(∃u,w.cell? A=some u)/\w.frozen? A=false/\K (w.setCell A x)
   |_=>match x with
    | .agg _=>False
    | .tuple _=>False
    |_=>(∃u,w.cell? A=some u)/\w.frozen? A=false/\K (w.setCell A x)
  else False
def j1(P:Program)(T:TypeId)(xs ys:Array Y)(b:aj):Prop:=
 P.eqGuardType P.depth T=false/\∀w,(Op.equal T (.agg xs) (.agg ys)).run P w=.ok b w
def pK:Y->aq aj
 | .nilIface=>some true
 | .iface _ _=>some false
 |_=>none
def pL:aq TypeDesc->aj
 |some (.interface _)=>true
 |_=>false
def nz:aq TypeDesc->aj
 |some (.pointer _)=>true
 |_=>false
def oD:aq TypeDesc->aj
 |some (.slice _)=>true
 |_=>false
def rz:aq TypeDesc->aj
 |some (.map _ _)=>true
 |_=>false
def k1:IntKind->IntKind->aj:=λa b=>decide (a=b)
def wk(P:Program)(op:BinOp)(T:TypeId)(x y:Y)(K:Y->Prop)(G:Prop):Prop:=
 match y with
 | .nilIface=>bif pL (P.underlying T) then
  match op with
  | .eql=>∃b,pK x=some b/\K (.bool b)
  | .neq=>∃b,pK x=some b/\K (.bool (!b))
  |_=>False
  else False
 | .pointer none=>bif nz (P.underlying T) then
  match op,x with
  | .eql,.pointer p=>K (.bool p.isNone)
  | .neq,.pointer p=>K (.bool (!p.isNone))
  |_,_=>False
  else False
 | .slice none _ _=>bif oD (P.underlying T) then
  match op,x with
  | .eql,.slice a _ _=>K (.bool a.isNone)
  | .neq,.slice a _ _=>K (.bool (!a.isNone))
  |_,_=>False
  else False
 | .map none=>bif rz (P.underlying T) then
  match op,x with
  | .eql,.map r=>K (.bool r.isNone)
  | .neq,.map r=>K (.bool (!r.isNone))
  |_,_=>False
  else False
 | .agg ys=>
  match op,x with
  | .eql,.agg xs=>∃b,j1 P T xs ys b/\K (.bool b)
  | .neq,.agg xs=>∃b,j1 P T xs ys b/\K (.bool (!b))
  |_,_=>False
 | .int c b=>
  match op,x with
  | .quo,.int k a=>bif k1 k c then b≠0/\K (.int k (k.wrap (a.tdiv b))) else False
  | .rem,.int k a=>bif k1 k c then b≠0/\K (.int k (a.tmod b)) else False
  | .shl,.int k a=>0<=b/\K (.int k (k.wrap (a*2^(min b.toNat k.bits))))
  | .shr,.int k a=>0<=b/\K (.int k (a.fdiv (2^(min b.toNat k.bits))))
  |_,_=>G
 | .bool b=>match P.underlying T with
  |some .bool=>match op,x with
   | .eql,.bool a=>K (.bool (a==b))
   | .neq,.bool a=>K (.bool (!(a==b)))
   |_,_=>False
  |_=>False
 | .string b=>
  match op,x with
  | .add,.string a=>((a.size+b.size:Nat):Int)<=9223372036854775807/\K (.string (a++b))
  |_,_=>G
 |_=>G
section
variable {P:Program}
theorem rA(T:TypeId)(x y:Y):Op.equal T x y=Op.equalIn (9999+1) T x y:=rfl
theorem H3(d:Nat){T:TypeId}{x:Y}{b:aj}(a:pL (P.underlying T)=true)(h:pK x=some b)(w:I):
 (Op.equalIn (d+1) T x .nilIface).run P w=.ok b w:=by
 cases hu:P.underlying T with
 |none=>simp[hu,pL]at a
 |some d=>
  cases d<;>simp only[hu,pL,gb]at a
  simp only[Op.equalIn,Sem.run_bind,db hu,Result.andThen]
  cases x<;>simp only[pK,reduceCtorEq,Option.some.injEq]at h<;>subst h<;>rfl
theorem H4(d:Nat){T:TypeId}{p:aq av}(a:nz (P.underlying T)=true)(w:I):
 (Op.equalIn (d+1) T (.pointer p) (.pointer none)).run P w=.ok p.isNone w:=by
 cases hu:P.underlying T with
 |none=>simp[hu,nz]at a
 |some d=>
  cases d<;>simp only[hu,nz,gb]at a
  simp only[Op.equalIn,Sem.run_bind,db hu,Result.andThen]
  cases p<;>rfl
theorem H5(d:Nat){T:TypeId}{a:aq av}{l c e c':Nat}(b:oD (P.underlying T)=true)(w:I):
 (Op.equalIn (d+1) T (.slice a l c) (.slice none e c')).run P w=.ok a.isNone w:=by
 cases hu:P.underlying T with
 |none=>simp[hu,oD]at b
 |some d=>
  cases d<;>simp only[hu,oD,gb]at b
  simp only[Op.equalIn,Sem.run_bind,db hu,Result.andThen]
  cases a<;>rfl
theorem H6(d:Nat){T:TypeId}{r:aq Nat}(a:rz (P.underlying T)=true)(w:I):
 (Op.equalIn (d+1) T (.map r) (.map none)).run P w=.ok r.isNone w:=by
 cases hu:P.underlying T with
 |none=>simp[hu,rz]at a
 |some d=>
  cases d<;>simp only[hu,rz,gb]at a
  simp only[Op.equalIn,Sem.run_bind,db hu,Result.andThen]
  cases r<;>rfl
theorem Dj{T:TypeId}{x:Y}{b:aj}(a:pL (P.underlying T)=true)(h:pK x=some b)(w:I):
 (Op.equal T x .nilIface).run P w=.ok b w:=by rw[rA];exact H3 _ a h w
theorem wm{T:TypeId}{p:aq av}(a:nz (P.underlying T)=true)(w:I):
 (Op.equal T (.pointer p) (.pointer none)).run P w=.ok p.isNone w:=by rw[rA];exact H4 _ a w
theorem wo{T:TypeId}{a:aq av}{l c b c':Nat}(d:oD (P.underlying T)=true)(w:I):
 (Op.equal T (.slice a l c) (.slice none b c')).run P w=.ok a.isNone w:=by rw[rA];exact H5 _ d w
theorem Dk{T:TypeId}{r:aq Nat}(a:rz (P.underlying T)=true)(w:I):
 (Op.equal T (.map r) (.map none)).run P w=.ok r.isNone w:=by rw[rA];exact H6 _ a w
theorem Dl{T:TypeId}{xs ys:Array Y}(h:P.eqGuardType P.depth T=false)(op:BinOp)(x y:Operand)(w:I):
 (eqGuard op T x y (.agg xs) (.agg ys)).run P w=.ok () w:=by
 cases op<;>simp[eqGuard,program,Sem.run,bind,Sem.bind,h,pure]
theorem Dm{T:TypeId}{a b:aj}(c:P.underlying T=some .bool)(w:I):(Op.equal T (.bool a) (.bool b)).run P w=.ok (a==b) w:=by
 have aG:∀ (d:Nat) (w:I),(Op.equalIn (d+1) T (.bool a) (.bool b)).run P w=.ok (a==b) w:=by
  intro d w;simp[Op.equalIn,db c]
 rw[rA];exact aG _ w
theorem Dn{op:BinOp}{T:TypeId}{x y:Y}{jA rB:Operand}{K:Y->Prop}{G:Prop}
 (j:y=.nilIface->∃c,rB=.const c)
 (h:wk P op T x y K G):
 G\/∃v,(∀w,(do eqGuard op T jA rB x y;binOp op T x y:Sem Y).run P w=.ok v w)/\K v:=by
 unfold wk at h;split at h
 case h_1=>
  obtain⟨c,hc⟩:=j rfl;by_cases d:pL (P.underlying T)=true
  .rw[d]at h
   simp only[cond_true]at h;split at h
   .obtain⟨b,hb,e⟩:=h
    refine .inr ⟨_,λw=>?_,e⟩;have:=Dj (P:=P) d hb w
    cases x<;>simp only[pK,reduceCtorEq,Option.some.injEq]at hb<;>subst hc hb<;>simp[eqGuard,binOp,this]
   .obtain⟨b,hb,e⟩:=h
    refine .inr ⟨_,λw=>?_,e⟩;have:=Dj (P:=P) d hb w
    cases x<;>simp only[pK,reduceCtorEq,Option.some.injEq]at hb<;>subst hc hb<;>simp[eqGuard,binOp,this]
   .exact h.elim
  .simp only[gk]at d;rw[d]at h;exact h.elim
 case h_2=>
  by_cases d:nz (P.underlying T)=true
  .rw[d]at h
   simp only[cond_true]at h;split at h
   .exact .inr ⟨_,λw=>by simp[eqGuard,binOp,wm (P:=P) d],h⟩
   .exact .inr ⟨_,λw=>by simp[eqGuard,binOp,wm (P:=P) d],h⟩
   .exact h.elim
  .simp only[gk]at d;rw[d]at h;exact h.elim
 case h_3=>
  by_cases d:oD (P.underlying T)=true
  .rw[d]at h
   simp only[cond_true]at h;split at h
   .exact .inr ⟨_,λw=>by simp[eqGuard,binOp,wo (P:=P) d],h⟩
   .exact .inr ⟨_,λw=>by simp[eqGuard,binOp,wo (P:=P) d],h⟩
   .exact h.elim
  .simp only[gk]at d;rw[d]at h;exact h.elim
 case h_4=>
  by_cases d:rz (P.underlying T)=true
  .rw[d]at h
   simp only[cond_true]at h;split at h
   .exact .inr ⟨_,λw=>by simp[eqGuard,binOp,Dk (P:=P) d],h⟩
   .exact .inr ⟨_,λw=>by simp[eqGuard,binOp,Dk (P:=P) d],h⟩
   .exact h.elim
  .simp only[gk]at d;rw[d]at h;exact h.elim
 case h_5=>
  split at h
  .obtain⟨b,⟨h1,g⟩,e⟩:=h
   exact .inr ⟨_,λw=>by simp[Dl h1,binOp,g],e⟩
  .obtain⟨b,⟨h1,g⟩,e⟩:=h
   exact .inr ⟨_,λw=>by simp[Dl h1,binOp,g],e⟩
  .exact h.elim
 case h_6 i b=>
  split at h
  .rename_i k a
   by_cases f:k=i
   .subst f
    simp only[k1,decide_true,cond_true]at h;exact .inr ⟨_,λw=>by simp[eqGuard,binOp,Op.intDiv,h.1],h.2⟩
   .simp[k1,f]at h
  .rename_i k a
   by_cases f:k=i
   .subst f
    simp only[k1,decide_true,cond_true]at h;exact .inr ⟨_,λw=>by simp[eqGuard,binOp,Op.intDiv,h.1],h.2⟩
   .simp[k1,f]at h
  .exact .inr ⟨_,λw=>by simp[eqGuard,binOp,Op.shift,show¬b<0 from J],h.2⟩
  .exact .inr ⟨_,λw=>by simp[eqGuard,binOp,Op.shift,show¬b<0 from J],h.2⟩
  .exact .inl h
 case h_7 b=>
  split at h
  .rename_i d
   split at h
   .exact .inr ⟨_,λw=>by simp[eqGuard,binOp,Dm d],h⟩
   .exact .inr ⟨_,λw=>by simp[eqGuard,binOp,Dm d],h⟩
   .exact h.elim
  .exact h.elim
 case h_8 b=>
  split at h
  .rename_i a
   refine .inr ⟨_,λw=>?_,h.2⟩;have h1:=h.1;simp[eqGuard,binOp,Op.stringOp,IntKind.max,IntKind.signed,IntKind.bits];omega
  .exact .inl h
 case h_9=>exact .inl h
end
def wq(P:Program)(T:TypeId)(x:Y)(K:Y->Prop):Prop:=
 match P.underlying T with
 |some (.array n _)=>match x with
  | .slice a len _=>n<=len/\∃A,a=some A/\K (.pointer (some A))
  |_=>False
 |_=>False
def wu(P:Program)(T:TypeId)(x i:Y)(K:Y->Prop):Prop:=
 match i with
 | .int _ n=>
  match P.underlying T with
  |some (.slice elem)=>bif (P.underlying elem).isSome then
   match x with
   | .slice a len _=>∃A,a=some A/\(0<=n/\n<(len:Int))/\K (.pointer (some (A.add (n.toNat*P.cellsOf elem))))
   |_=>False
   else False
  |some (.array len elem)=>bif (P.underlying elem).isSome then
   match x with
   | .pointer (some A)=>(0<=n/\n<(len:Int))/\K (.pointer (some (A.add (n.toNat*P.cellsOf elem))))
   |_=>False
   else False
  |_=>False
 |_=>False
def tQ(P:Program)(tk:TypeId->ec)(T:TypeId)(cs:Array Y)(off:Nat)(K:Y->Prop):Prop:=
 match P.underlying T with
 |none=>False
 |some d=>
  bif hK d then K (.agg (cs.extract off (off+P.cellsOf T)))
  else match tk T with
   | .one (.one l)=>pI l λv=>cs[off]? =some v/\K v
   |_=>False
def wv(P:Program)(tk:TypeId->ec)(T:TypeId)(x i:Y)(K:Y->Prop):Prop:=
 match i with
 | .int _ n=>
  match P.underlying T with
  |some (.array len elem)=>match x with
   | .agg cs=>(0<=n/\n<(len:Int))/\tQ P tk elem cs (n.toNat*P.cellsOf elem) K
   |_=>False
  |some .string=>match x with
   | .string s=>0<=n/\∃b:UInt8,s.data.toList[n.toNat]? =some b/\K (.int .u8 b.toNat)
   |_=>False
  |_=>False
 |_=>False
def wx(P:Program)(tk:TypeId->ec)(T:TypeId)(x:Y)(i:Nat)(K:Y->Prop):Prop:=
 match P.underlying T with
 |some (.struct fs)=>match fs[i]? with
  |some f=>match x with
   | .agg cs=>tQ P tk f.type cs f.offset K
   |_=>False
  |none=>False
 |_=>False
def mh(v:aq Y)(y d:Nat)(K:Nat->Prop):Prop:=
 match v with
 |none=>K d
 |some (.int _ i)=>(0<=i/\i<=(y:Int))/\K i.toNat
 |_=>False
def aW(a:aq av)(sz l m:Nat):aq av:=if m=l then a else a.map (·.add (l*sz))
def wy(P:Program)(T:TypeId)(x:Y)(lo hi b:aq Y)(K:Y->Prop):Prop:=
 match P.underlying T with
 |some .string=>match b,x with
  |none,.string s=>mh hi s.size s.size λh=>mh lo h 0 λl=>K (.string (s.extract l h))
  |_,_=>False
 |some (.slice elem)=>bif (P.underlying elem).isSome then
  match x with
  | .slice a len cap=>match b with
   |none=>mh hi cap len λh=>mh lo h 0 λl=>K (.slice (aW a (P.cellsOf elem) l cap) (h-l) (cap-l))
   |some c=>match hi with
    |none=>False
    |some d=>mh (some c) cap 0 λm=>mh (some d) m 0 λh=>mh lo h 0 λl=>K (.slice (aW a (P.cellsOf elem) l m) (h-l) (m-l))
  |_=>False
  else False
 |some (.array n elem)=>bif (P.underlying elem).isSome then
  match b,x with
  |none,.pointer (some A)=>mh hi n n λh=>mh lo h 0 λl=>K (.slice (aW (some A) (P.cellsOf elem) l n) (h-l) (n-l))
  |_,_=>False
  else False
 |_=>False
def As(P:Program)(T:TypeId)(l c:Y)(w:I)(K:Y->I->Prop):Prop:=
 match P.underlying T with
 |some (.slice elem)=>bif (P.underlying elem).isSome then
  bif ((P.info? elem).bind (·.zero)).isSome then
  match l,c with
  | .int _ n,.int _ m=>(0<=n/\n<=m/\m<=9223372036854775807/\(P.bytesOf elem:Int)*m<=140737488355328)/\
   K (.slice (some ⟨w.heap.size,0,none⟩) n.toNat m.toNat) {w with heap:=w.heap.push (.cells (hL P elem m.toNat) elem)}
  |_,_=>False
  else False
  else False
 |_=>False
section
variable {P:Program}{w:I}
theorem k2(o:aq TypeDesc)(h:o.isSome=true):∃d,o=some d:=q5.1 h
theorem Dp{T:TypeId}{x:Y}{K:Y->Prop}(h:wq P T x K):∃v,(∀w,(Instr.arrayAt T x).run P w=.ok v w)/\K v:=by
 unfold wq at h;split at h
 .rename_i n e b
  split at h
  .rename_i a len cap
   obtain⟨h1,A,rfl,c⟩:=h;exact⟨_,λw=>by simp[Instr.arrayAt,db b,Nat.not_lt.2 h1],c⟩
  .exact h.elim
 .exact h.elim
theorem Dq{T:TypeId}{x i:Y}{K:Y->Prop}(h:wu P T x i K):∃v,(∀w,(Instr.indexAt T x i).run P w=.ok v w)/\K v:=by
 unfold wu at h;split at h
 .rename_i k n
  split at h
  .rename_i elem a
   by_cases he:(P.underlying elem).isSome=true
   .rw[he]at h
    simp only[cond_true]at h;split at h
    .obtain⟨A,rfl,hb,b⟩:=h
     obtain⟨d,hd⟩:=k2 _ he;exact⟨_,λw=>by simp[Instr.indexAt,asIntOf,db a,hb,iq hd],b⟩
    .exact h.elim
   .simp only[gk]at he;rw[he]at h;exact h.elim
  .rename_i len elem a
   by_cases he:(P.underlying elem).isSome=true
   .rw[he]at h
    simp only[cond_true]at h;split at h
    .obtain⟨hb,b⟩:=h
     obtain⟨d,hd⟩:=k2 _ he;exact⟨_,λw=>by simp[Instr.indexAt,asIntOf,Instr.sureAddr,db a,hb,iq hd],b⟩
    .exact h.elim
   .simp only[gk]at he;rw[he]at h;exact h.elim
  .exact h.elim
 .exact h.elim
theorem Dr{tk:TypeId->ec}{T:TypeId}{cs:Array Y}{off:Nat}{K:Y->Prop}(h:tQ P tk T cs off K):∃v,(∀w,(part T cs off).run P w=.ok v w)/\K v:=by
 unfold tQ at h;split at h
 .exact h.elim
 .rename_i d a
  cases hd:hK d with
  |true=>
   rw[hd]at h;exact⟨_,λw=>by simp[part,rv a,hd,iq a],h⟩
  |false=>
   rw[hd]at h;simp only[cond_false]at h;split at h
   .obtain⟨v,b,c⟩:=ru h
    exact⟨v,λw=>by simp[part,rv a,hd,b],c⟩
   .exact h.elim
theorem Ds{tk:TypeId->ec}{T:TypeId}{x i:Y}{K:Y->Prop}(h:wv P tk T x i K):∃v,(∀w,(Instr.index T x i).run P w=.ok v w)/\K v:=by
 unfold wv at h;split at h
 .rename_i k n
  split at h
  .rename_i len elem a
   split at h
   .obtain⟨hb,h⟩:=h
    obtain⟨v,e,c⟩:=Dr h;refine⟨v,λw=>?_,c⟩;have hs:(Go.sizeOf elem).run P w=.ok (P.cellsOf elem) w:=by
     unfold tQ at h
     cases he:P.underlying elem with
     |none=>simp[he]at h
     |some d=>exact iq he
    simp[Instr.index,asIntOf,db a,hb,hs,e]
   .exact h.elim
  .rename_i a
   split at h
   .rename_i s
    obtain⟨hb,b,hs,c⟩:=h;have f:s[n.toNat]? =some b:=by
     obtain⟨h1,g⟩:=l9.1 hs;have j:n.toNat<s.size:=by simpa using h1
     rw[getElem?_pos s n.toNat j];simp only[Option.some.injEq];rw[←g];rfl
    exact⟨_,λw=>by simp[Instr.index,asIntOf,db a,hb,f],c⟩
   .exact h.elim
  .exact h.elim
 .exact h.elim
theorem Dt{tk:TypeId->ec}{T:TypeId}{x:Y}{i:Nat}{K:Y->Prop}(h:wx P tk T x i K):∃v,(∀w,(Instr.field T x i).run P w=.ok v w)/\K v:=by
 unfold wx at h;split at h
 .rename_i fs a
  split at h
  .rename_i f hf
   split at h
   .obtain⟨v,b,c⟩:=Dr h
    exact⟨v,λw=>by simp[Instr.field,db a,hf,asAgg,b],c⟩
   .exact h.elim
  .exact h.elim
 .exact h.elim
theorem lH{v:aq Y}{y d:Nat}{c:BoundsCode}{K:Nat->Prop}(h:mh v y d K):
 (v=none/\K d)\/∃u n,v=some u/\(∀w,(Instr.sliceBound u y c).run P w=.ok n w)/\K n:=by
 unfold mh at h;split at h
 .exact .inl ⟨rfl,h⟩
 .exact .inr ⟨_,_,rfl,λw=>by simp[Instr.sliceBound,asIntOf,h.1],h.2⟩
 .exact h.elim
theorem Du{T:TypeId}{x:Y}{lo hi m:aq Y}{K:Y->Prop}(h:wy P T x lo hi m K):
 ∃v,(∀w,(Instr.sliceAt T x lo hi m).run P w=.ok v w)/\K v:=by
 unfold wy at h;split at h
 .rename_i e
  split at h
  .rename_i s
   rcases lH (P:=P) (c:=.sliceAlen) h with ⟨aG,h1⟩|⟨u,n,aG,g,h1⟩
   .rcases lH (P:=P) (c:=.sliceB) h1 with ⟨aM,b⟩|⟨k,bB,aM,f,b⟩
    .exact⟨_,λw=>by simp[Instr.sliceAt,Instr.slice,db e,Instr.sliceBounds,aG,aM],b⟩
    .exact⟨_,λw=>by simp[Instr.sliceAt,Instr.slice,db e,Instr.sliceBounds,aG,aM,f],b⟩
   .rcases lH (P:=P) (c:=.sliceB) h1 with ⟨aM,b⟩|⟨k,bB,aM,f,b⟩
    .exact⟨_,λw=>by simp[Instr.sliceAt,Instr.slice,db e,Instr.sliceBounds,aG,aM,g],b⟩
    .exact⟨_,λw=>by simp[Instr.sliceAt,Instr.slice,db e,Instr.sliceBounds,aG,aM,g,f],b⟩
  .exact h.elim
 .rename_i elem e
  by_cases he:(P.underlying elem).isSome=true
  .rw[he]at h
   simp only[cond_true]at h;obtain⟨d,hd⟩:=k2 _ he;have i:=λw:I=>iq (w:=w) hd;split at h
   .rename_i a len cap
    split at h
    .rcases lH (P:=P) (c:=.sliceAcap) h with ⟨aG,h1⟩|⟨u,n,aG,g,h1⟩
     .rcases lH (P:=P) (c:=.sliceB) h1 with ⟨aM,b⟩|⟨k,bB,aM,f,b⟩
      .exact⟨_,λw=>by simp[Instr.sliceAt,Instr.slice,db e,Instr.sliceBounds,i,aW,aG,aM],b⟩
      .exact⟨_,λw=>by simp[Instr.sliceAt,Instr.slice,db e,Instr.sliceBounds,f,i,aW,aG,aM],b⟩
     .rcases lH (P:=P) (c:=.sliceB) h1 with ⟨aM,b⟩|⟨k,bB,aM,f,b⟩
      .exact⟨_,λw=>by simp[Instr.sliceAt,Instr.slice,db e,Instr.sliceBounds,g,i,aW,aG,aM],b⟩
      .exact⟨_,λw=>by simp[Instr.sliceAt,Instr.slice,db e,Instr.sliceBounds,g,f,i,aW,aG,aM],b⟩
    .split at h
     .exact h.elim
     .rcases lH (P:=P) (c:=.slice3Acap) h with ⟨j,h1⟩|⟨u,n,j,g,h1⟩
      .cases j
      .cases j
       rcases lH (P:=P) (c:=.slice3B) h1 with ⟨j,b⟩|⟨p,cw,j,o,b⟩
       .cases j
       .cases j
        rcases lH (P:=P) (c:=.slice3C) b with ⟨aM,l⟩|⟨k,bB,aM,f,l⟩
        .exact⟨_,λw=>by simp[Instr.sliceAt,Instr.slice,db e,Instr.sliceBounds,g,o,i,aW,aM],l⟩
        .exact⟨_,λw=>by simp[Instr.sliceAt,Instr.slice,db e,Instr.sliceBounds,g,o,f,i,aW,aM],l⟩
   .exact h.elim
  .simp only[gk]at he;rw[he]at h;exact h.elim
 .rename_i n elem e
  by_cases he:(P.underlying elem).isSome=true
  .rw[he]at h
   simp only[cond_true]at h;obtain⟨d,hd⟩:=k2 _ he;have i:=λw:I=>iq (w:=w) hd;split at h
   .rename_i A
    rcases lH (P:=P) (c:=.sliceAlen) h with ⟨aG,h1⟩|⟨u,cw,aG,g,h1⟩
    .rcases lH (P:=P) (c:=.sliceB) h1 with ⟨aM,b⟩|⟨k,bB,aM,f,b⟩
     .refine⟨_,λw=>?_,b⟩
      simp[Instr.sliceAt,db e,Instr.sureAddr,Instr.sliceBounds,i,aW,aG,aM];try (split<;>rfl)
     .refine⟨_,λw=>?_,b⟩
      simp[Instr.sliceAt,db e,Instr.sureAddr,Instr.sliceBounds,f,i,aW,aG,aM];try (split<;>rfl)
    .rcases lH (P:=P) (c:=.sliceB) h1 with ⟨aM,b⟩|⟨k,bB,aM,f,b⟩
     .refine⟨_,λw=>?_,b⟩
      simp[Instr.sliceAt,db e,Instr.sureAddr,Instr.sliceBounds,g,i,aW,aG,aM];try (split<;>rfl)
     .refine⟨_,λw=>?_,b⟩
      simp[Instr.sliceAt,db e,Instr.sureAddr,Instr.sliceBounds,g,f,i,aW,aG,aM];try (split<;>rfl)
   .exact h.elim
  .simp only[gk]at he;rw[he]at h;exact h.elim
 .exact h.elim
theorem Au{n:Int}(h0:0<=n)(h1:n<=9223372036854775807):IntKind.i64.wrap n=n:=by
 have e:n%18446744073709551616=n:=Int.emod_eq_of_lt h0 J;simp[IntKind.wrap,IntKind.signed,IntKind.bits,e];omega
theorem H7{T:TypeId}{l c:Y}{K:Y->I->Prop}(h:As P T l c w K):
 ∃v w',(Instr.makeSlice T l c).run P w=.ok v w'/\K v w':=by
 unfold As at h;split at h
 .rename_i elem e
  by_cases he:(P.underlying elem).isSome=true
  .rw[he]at h
   simp only[cond_true]at h;by_cases a:((P.info? elem).bind (·.zero)).isSome=true
   .rw[a]at h
    simp only[cond_true]at h;split at h
    .rename_i k n q m
     obtain⟨⟨h0,h1,f,g⟩,j⟩:=h;obtain⟨d,hd⟩:=k2 _ he;obtain⟨i,hi⟩:=info_of_underlying hd;obtain⟨z,b⟩:=q5.1 a;simp only[hi,Option.bind_some]at b;have hb:P.bytesOf elem=i.bytes:=by simp[Program.bytesOf,hi]
     have hc:P.cellsOf elem=i.size:=by simp[Program.cellsOf,hi]
     rw[hb]at g;have aG:=Au h0 J;have aM:=Au (n:=m) J f;refine⟨_,_,?_,j⟩;have o:¬(m<0):=by omega
     have p:¬(281474976710656<(i.bytes:Int)*m):=by omega
     simp[Instr.makeSlice,db e,asInt,asIntOf,oC hi,aG,aM,o,p,iq hd,show¬n<0 from J,show¬m<n from J];by_cases hs:m.toNat*P.cellsOf elem=0
     .simp[hs,newRow,newObj,Sem.run,hL]
     .simp[zeroValue,oC hi,b,newRow,newObj,Sem.run,hL,hs,hi]
    .exact h.elim
   .simp only[gk]at a;rw[a]at h;exact h.elim
  .simp only[gk]at he;rw[he]at h;exact h.elim
 .exact h.elim
end
def an(w:I)(K:I->Prop):Prop:=K w
def Av(s:ByteArray)(n:Nat):aq UInt8:=s.data.toList[n]?
def cellAt(cs:Array Y)(n:Nat):aq Y:=cs[n]?
def eS(k:IntKind)(a b:Int):Int:=k.wrap ((BitVec.ofInt k.bits a&&&BitVec.ofInt k.bits b).toNat:Int)
def lI(k:IntKind)(a b:Int):Int:=k.wrap ((BitVec.ofInt k.bits a|||BitVec.ofInt k.bits b).toNat:Int)
def gg(k:IntKind)(a b:Int):Int:=k.wrap ((BitVec.ofInt k.bits a^^^BitVec.ofInt k.bits b).toNat:Int)
def Dv(k:IntKind)(a b:Int):Int:=k.wrap ((BitVec.ofInt k.bits a&&&~~~BitVec.ofInt k.bits b).toNat:Int)
def tR(P:Program)(o:Oper)(K:Y->I->Prop)(e:Env)(w:I):Prop:=
 bif known e o.op.operands then
  match (execOp (ro e) o).run P w with
  | .ok (.value v) w'=>an w' λw1=>K v w1
  |_=>False
 else False
def Dw(P:Program)(tk:TypeId->ec)(T:TypeId):ec:=
 match P.underlying T with
 |some (.slice e)=>tk e
 |_=>.one (.one .agg)
def c4.H8:c4->aj
 | .slice=>true
 |_=>false
def Dx:ec->aj
 | .one (.one .agg)=>true
 | .one (.flat ls)=>ls.any c4.H8
 |_=>false
def gen(P:Program)(tk:TypeId->ec)(o:Oper)(K:Y->I->Prop)(e:Env)(w:I):Prop:=
 bif known e o.op.operands then
  match (execOp (ro e) o).run P w with
  | .ok (.value v) w'=>K v w'
  | .ok .skip w'=>K undef w'
  | .ok (.enter f args) w'=>Calls P f args w' λa b=>iT (tk o.type) λv=>a=.returned v/\K v b
  |_=>False
 else False
def jB(P:Program)(f:FuncId):Prop:=∃fn,P.funcs[f]? =some fn/\(fn.name== "runtime.NumGoroutine")=false/\fn.body.isNone=false
theorem Dy{P:Program}{f:FuncId}(h:jB P f)(args:Array Y)(w:I):(callFunc f args).run P w=.ok (.enter f args) w:=by
 obtain⟨fn,h1,b,a⟩:=h;have c:¬fn.name= "runtime.NumGoroutine" :=by simpa using b
 have d:¬fn.body=none:=by
  intro h;rw[h]at a;cases a
 simp[callFunc,program,Sem.run,bind,Sem.bind,h1,c,d,pure]
def Aw:Op->aj
 | .select _ _=>true
 |_=>false
def Dz(P:Program)(T:TypeId):Operand->aj
 | .const _=>false
 |_=>pL (P.underlying T)||nz (P.underlying T)
def H9(P:Program)(op:BinOp)(T:TypeId)(jA rB:Operand)(x y:Y)(b:aj):Prop:=
 ∀w,Sem.run P (do eqGuard op T jA rB x y;binOp op T x y:Sem Y) w=.ok (.bool b) w
def rC:Operand->Y->aj
 | .const _,_=>true
 |_,.nilIface=>false
 |_,_=>true
def kA(P:Program)(tk:TypeId->ec)(o:Oper)(K:Y->I->Prop)(e:Env)(w:I):Prop:=
 match o.op with
 | .nilCheck x=>match ev e x with
  |some (.pointer p)=>∃A,p=some A/\K (.pointer (some A)) w
  |_=>False
 | .load T x=>match ev e x with
  |some (.pointer (some A))=>ry P tk T A w λv=>K v w
  |_=>False
 | .store T x y=>match ev e x,ev e y with
  |some (.pointer (some A)),some v=>Ar P tk T A v w λw'=>an w' λw1=>K undef w1
  |_,_=>False
 | .binOp op T x y _=>match ev e x,ev e y with
  |some a,some u=>bif Dz P T y then (∃b:aj,H9 P op T x y a u b/\K (.bool b) w) else
   bif rC y u then wk P op T a u (λv=>K v w) (gen P tk o K e w) else False
  |_,_=>False
 | .indexAddr T x i=>match ev e x,ev e i with
  |some a,some g=>wu P T a g λv=>K v w
  |_,_=>False
 | .index T x i=>match ev e x,ev e i with
  |some a,some g=>wv P tk T a g λv=>K v w
  |_,_=>False
 | .field T x i=>match ev e x with
  |some a=>wx P tk T a i λv=>K v w
  |_=>False
 | .alloc _=>tR P o K e w
 | .box _ _=>tR P o K e w
 | .buildSlice T n ps=>bif Dx (Dw P tk T) then
  (bif known e o.op.operands then
    iT (tk o.type) λr=>∃w1,(Instr.buildSlice T n (ps.map λp=>(p.1,ro e p.2))).run P w=.ok r w1/\K r w1
  else False)
  else tR P o K e w
 | .slice T x lo hi z=>bif known e o.op.operands then
  wy P T (ro e x) (lo.map (ro e)) (hi.map (ro e)) (z.map (ro e)) λv=>K v w
  else False
 | .makeSlice T l c=>match ev e l,ev e c with
  |some Ax,some B=>As P T Ax B w λv w'=>an w' λw1=>K v w1
  |_,_=>False
 | .convert s d x=>match ev e x with
  |some (.int j n)=>bif (P.underlying s).isSome then
   match P.underlying d with
   |some (.int k)=>K (.int k (k.wrap n)) w
   |_=>iT (tk o.type) λr=>∃w1,(convert s d (.int j n)).run P w=.ok r w1/\K r w1
   else False
  |some v=>iT (tk o.type) λr=>∃w1,(convert s d v).run P w=.ok r w1/\K r w1
  |none=>False
 | .build t ps=>match tk t with
  | .one (.flat _)=>gen P tk o K e w
  |_=>bif known e o.op.operands then
   ∃cs:Array Y,(Instr.build t (ps.map λp=>(p.1,ro e p.2))).run P w=.ok (.agg cs) w/\K (.agg cs) w
   else False
 | .lookup T m i ok=>match ev e m,ev e i with
  |some h,some g=>iT (tk o.type) λr=>∃w1,(Instr.lookup T h g ok).run P w=.ok r w1/\K r w1
  |_,_=>False
 | .mapUpdate T m i x=>match ev e m,ev e i,ev e x with
  |some h,some g,some a=>∃w1,(Instr.mapUpdate T h g a).run P w=.ok () w1/\K undef w1
  |_,_,_=>False
 | .makeMap T r=>bif known e o.op.operands then iT (tk o.type) λv=>∃w1,(Instr.makeMap T (r.map (ro e))).run P w=.ok v w1/\K v w1 else False
 | .range T x=>match ev e x with
  |some a=>∃v w1,(Instr.range T a).run P w=.ok v w1/\K v w1
  |_=>False
 | .next it q=>match ev e it with
  |some a=>(bif q then ∃ (n:Int) (c:Int) (w1:I),(Instr.next a q o.type).run P w=.ok (.tuple #[.bool true,.int .i64 n,.int .i32 c]) w1/\K (.tuple #[.bool true,.int .i64 n,.int .i32 c]) w1
   else ∃ (k:Y) (v:Y) (w1:I),(Instr.next a q o.type).run P w=.ok (.tuple #[.bool true,k,v]) w1/\K (.tuple #[.bool true,k,v]) w1)\/
   (∃w1:I,(Instr.next a q o.type).run P w=.ok (.tuple #[.bool false]) w1/\K (.tuple #[.bool false]) w1)
  |_=>False
 | .call c=>match c.callee with
  | .value (.tmp k)=>match e.get k with
   |some (.func (.func f) pre cap)=>bif known e o.op.operands then
    jB P f/\Calls P f (pre++c.args.map (ro e)++cap) w λC w1=>iT (tk o.type) λv=>C=.returned v/\K v w1
    else False
   |_=>gen P tk o K e w
  | .builtin .append=>bif known e o.op.operands then iT (tk o.type) λr=>∃w1,(Builtin.append_ c.argTypes o.type (c.args.map (ro e))).run P w=.ok r w1/\K r w1 else False
  | .builtin .copy=>bif known e o.op.operands then iT (tk o.type) λr=>∃w1,(Builtin.copy_ c.argTypes o.type (c.args.map (ro e))).run P w=.ok r w1/\K r w1 else False
  | .builtin .min=>bif known e o.op.operands then iT (tk o.type) λr=>∃w1,(Builtin.min_ c.argTypes o.type (c.args.map (ro e))).run P w=.ok r w1/\K r w1 else False
  | .builtin .max=>bif known e o.op.operands then iT (tk o.type) λr=>∃w1,(Builtin.max_ c.argTypes o.type (c.args.map (ro e))).run P w=.ok r w1/\K r w1 else False
  | .builtin .delete=>bif known e o.op.operands then ∃r w1,(Builtin.delete_ c.argTypes o.type (c.args.map (ro e))).run P w=.ok r w1/\K r w1 else False
  | .value (.func f)=>match P.funcs[f]? with
   |some fn=>match fn.body with
    |some _=>gen P tk o K e w
    |none=>bif known e o.op.operands then iT (tk o.type) λr=>∃w1,(callFunc f (c.args.map (ro e))).run P w=.ok (.value r) w1/\K r w1 else False
   |none=>False
  | .builtin .unsafeString=>bif known e o.op.operands then iT (tk o.type) λr=>∃w1,(Builtin.unsafeString_ c.argTypes o.type (c.args.map (ro e))).run P w=.ok r w1/\K r w1 else False
  | .builtin .unsafeSliceData=>bif known e o.op.operands then iT (tk o.type) λr=>∃w1,(Builtin.unsafeSliceData_ c.argTypes o.type (c.args.map (ro e))).run P w=.ok r w1/\K r w1 else False
  | .builtin .clear=>bif known e o.op.operands then ∃r w1,(Builtin.clear_ c.argTypes o.type (c.args.map (ro e))).run P w=.ok r w1/\K r w1 else False
  | .builtin .len=>match ((c.args.map (ro e))[0]? :aq Y) with
   |some (Value.map _)=>bif known e o.op.operands then iT (tk o.type) λr=>∃w1,(Builtin.len_ c.argTypes o.type (c.args.map (ro e))).run P w=.ok r w1/\K r w1 else False
   |_=>gen P tk o K e w
  |_=>gen P tk o K e w
 | .sliceToArrayPointer T x=>match ev e x with
  |some a=>wq P T a λv=>K v w
  |_=>False
 | .mapEntry T m i=>match ev e m,ev e i with
  |some h,some g=>∃ (v0:Y) (st:Int) (w1:I),(Instr.mapEntry T h g).run P w=.ok (.tuple #[v0,.int .i64 st]) w1/\K (.tuple #[v0,.int .i64 st]) w1
  |_,_=>False
 | .entryStore T m s x=>match ev e m,ev e s,ev e x with
  |some h,some vs,some a=>∃w1,(Instr.entryStore T h vs a).run P w=.ok () w1/\K undef w1
  |_,_,_=>False
 | .entry it=>match ev e it with
  |some a=>iT (tk o.type) λv=>∃w1,(Instr.entry a).run P w=.ok v w1/\K v w1
  |_=>False
 | .select _ _=>False
 |_=>gen P tk o K e w
def nA(P:Program)(o:Oper)(a:Act)(w:I)(K:Y->I->Prop):Prop:=
 (∃v w',(execOp a.eval o).run P w=.ok (.value v) w'/\K v w')\/
 (∃w',(execOp a.eval o).run P w=.ok .skip w'/\K undef w')\/
 (∃f args w',(execOp a.eval o).run P w=.ok (.enter f args) w'/\Calls P f args w' λb c=>∃v,b=.returned v/\K v c)
theorem nA.wp{P:Program}{o:Oper}{a:Act}{w:I}{K:Y->I->Prop}{next:Act->I->Prop}{Q:Exit->Act->I->Prop}
 (h:nA P o a w K) (c:∀v w',K v w'->next (a.put o.dst v) w'):o.wp P a w next Q:=by
 unfold Oper.wp;rcases h with ⟨v,w',h,b⟩|⟨w',h,b⟩|⟨f,args,w',h,hc⟩
 .rw[h];exact c _ _ b
 .rw[h];exact c _ _ b
 .rw[h]
  exact hc.mono λe g ⟨v,d,b⟩=>by subst d;exact c _ _ b
section
variable {P:Program}{tk:TypeId->ec}{o:Oper}{K:Y->I->Prop}{e:Env}{a:Act}{w:I}
theorem H_(ar:dB e a){xs:Array Operand}(h:known e xs=true):∀x∈xs,a.eval x=ro e x:=by
 intro x hx;exact ar.ro (q6.1 h x (by simpa using hx))
theorem lJ(ar:dB e a)(hs:Aw o.op=false)(h:known e o.op.operands=true):execOp a.eval o=execOp (ro e) o:=
 execOp_congr o (λcs b hc=>by rw[hc]at hs;cases hs) (H_ ar h)
theorem pM(ar:dB e a)(hs:Aw o.op=false)(h:gen P tk o K e w):nA P o a w K:=by
 unfold gen at h;by_cases c:known e o.op.operands=true
 .rw[c]at h
  simp only[cond_true]at h;have hc:=lJ ar hs c;unfold nA;rw[hc];split at h
  .rename_i v w' b
   exact .inl ⟨v,w',b,h⟩
  .rename_i w' b
   exact .inr (.inl ⟨w',b,h⟩)
  .rename_i f args w' b
   refine .inr (.inr ⟨f,args,w',b,h.mono λg i d=>?_⟩);exact je d
  .exact h.elim
 .simp only[gk]at c
  rw[c]at h;exact h.elim
theorem Ay(ar:dB e a)(hs:Aw o.op=false)(h:tR P o K e w):nA P o a w K:=by
 unfold tR at h;by_cases b:known e o.op.operands=true
 .rw[b]at h
  simp only[cond_true]at h;have hc:=lJ ar hs b;unfold nA;rw[hc];split at h
  .rename_i v w' c
   exact .inl ⟨v,w',c,h⟩
  .exact h.elim
 .simp only[gk]at b
  rw[b]at h;exact h.elim
theorem Az:∀ {ls:O c4}{A:av}{i:Nat}{K:O Y->Prop},Aq ls A i w K->∃vs,aV w A i ls.length=some vs/\K vs
 | [],_,_,_,h=>⟨[],rfl,h⟩
 |l::ls,A,i,K,h=>by
  obtain⟨v,a,h⟩:=ru h
  obtain⟨vs,b,h⟩:=Az h
  exact⟨v::vs,by simp[aV,a,b],h⟩
theorem DA{T:TypeId}{A:av}{K:Y->Prop}(h:ry P tk T A w K):∃v,(Instr.loadAt T (.pointer (some A))).run P w=.ok v w/\K v:=by
 have aG:(Instr.loadAt T (.pointer (some A))).run P w=(loadVar T A).run P w:=by simp[Instr.loadAt,Instr.sureAddr]
 rw[aG];unfold ry at h;split at h
 .exact h.elim
 .rename_i d a
  cases hd:hK d with
  |true=>
   rw[hd]at h;simp only[cond_true]at h;split at h
   .rename_i ls _
    by_cases hb:Nat.beq (P.cellsOf T) ls.length=true
    .rw[hb]at h
     simp only[cond_true]at h;obtain⟨vs,b,h⟩:=Az h;rw[←ja hb]at b;exact⟨_,wj a hd b,h⟩
    .simp only[gk]at hb;rw[hb]at h;exact h.elim
   .obtain⟨cs,hc,h⟩:=h
    exact⟨_,wj a hd hc,h⟩
  |false=>
   rw[hd]at h;simp only[cond_false]at h;split at h
   .obtain⟨v,c,h⟩:=ru h
    exact⟨v,Dh a hd c,h⟩
   .exact h.elim
theorem AA{v:Y}(h:Plain v):v.cells= #[v]:=by cases v<;>first|rfl|exact h.elim
theorem add_zero'(A:av):A.add 0=A:=rfl
theorem Ia{T:TypeId}{A:av}{x:Y}{K:I->Prop}(h:Ar P tk T A x w K):
 ∃w',(Instr.storeAt T (.pointer (some A)) x).run P w=.ok () w'/\K w':=by
 have aG:(Instr.storeAt T (.pointer (some A)) x).run P w=(storeVar T A x).run P w:=by simp[Instr.storeAt,Instr.sureAddr]
 rw[aG];unfold Ar at h;split at h
 .exact h.elim
 .rename_i d b
  cases hd:hK d with
  |true=>
   rw[hd]at h;simp only[cond_true]at h;split at h
   .rename_i cs
    exact⟨_,Di (v:=.agg cs) b h.2.1 h.1,h.2.2⟩
   .exact h.elim
  |false=>
   rw[hd]at h;simp only[cond_false]at h;have one:∀ (a:Plain x) (hb:Nat.beq (P.cellsOf T) 1=true),((∃u,w.cell? A=some u)/\w.frozen? A=false/\K (w.setCell A x))->∃w',(storeVar T A x).run P w=.ok () w'/\K w':=by
    intro a hb ⟨⟨u,hu⟩,hf,e⟩;refine⟨_,Di (v:=x) b ?_ ?_,?_⟩
    .rw[AA a,ja hb];rfl
    .rw[AA a]
     refine⟨λi hi=>?_,λv f=>?_⟩
     .have:i=0:=by simpa using hi
      subst this;rw[add_zero',hu];exact⟨rfl,hf⟩
     .have:v=x:=by simpa using f
      subst this;exact a
    .rw[AA a]
     exact e
   by_cases hb:Nat.beq (P.cellsOf T) 1=true
   .have c:=hb
    rw[hb]at h;simp only[cond_true]at h;split at h
    .exact one h.1 c h.2
    .split at h
     .exact h.elim
     .exact h.elim
     .rename_i h1 g
      refine one ?_ c h
      cases x<;>first|exact trivial|(exact absurd rfl (h1 _))|(exact absurd rfl (g _))
   .simp only[gk]at hb;rw[hb]at h;exact h.elim
theorem wz(ar:dB e a)(h:kA P tk o K e w):nA P o a w K:=by
 unfold kA at h;split at h
 case h_1 x j=>
  split at h
  .rename_i p hx
   obtain⟨A,rfl,g⟩:=h;exact .inl ⟨_,_,by simp[execOp,j,ar.ev hx],g⟩
  .exact h.elim
 case h_2 T x j=>
  split at h
  .rename_i A hx
   obtain⟨v,z,g⟩:=DA h;exact .inl ⟨v,w,by simp[execOp,j,ar.ev hx,z],g⟩
  .exact h.elim
 case h_3 T x y j=>
  split at h
  .rename_i A v hx F
   obtain⟨w',R,g⟩:=Ia h;exact .inr (.inl ⟨w',by simp[execOp,j,ar.ev hx,ar.ev F,R],g⟩)
  .exact h.elim
 case h_4 op T x y aa j=>
  split at h
  .rename_i C O hx F
   by_cases L:Dz P T y=true
   .rw[L]at h
    simp only[cond_true]at h;obtain⟨b,hb,g⟩:=h;exact .inl ⟨_,w,by
     simp only[execOp,j,ar.ev hx,ar.ev F];have E:=hb w;simp only[Sem.run_bind]at E⊢;rw[E];rfl,g⟩
   simp only[gk]at L;rw[L]at h;simp only[cond_false]at h;by_cases G:rC y O=true
   .rw[G]at h
    simp only[cond_true]at h;have S:O=.nilIface->∃c,y=.const c:=by
     intro z;subst z
     cases y<;>simp[rC]at G⊢
    rcases Dn (jA:=x) (rB:=y) S h with hg|⟨v,z,g⟩
    .exact pM ar (by rw[j];rfl) hg
    .exact .inl ⟨v,w,by
      simp only[execOp,j,ar.ev hx,ar.ev F];have E:=z w;simp only[Sem.run_bind]at E⊢;rw[E];rfl,g⟩
   .simp only[gk]at G;rw[G]at h;exact h.elim
  .exact h.elim
 case h_5 T x i j=>
  split at h
  .rename_i C H hx hi
   obtain⟨v,z,g⟩:=Dq h;exact .inl ⟨v,w,by simp[execOp,j,ar.ev hx,ar.ev hi,z],g⟩
  .exact h.elim
 case h_6 T x i j=>
  split at h
  .rename_i C H hx hi
   obtain⟨v,z,g⟩:=Ds h;exact .inl ⟨v,w,by simp[execOp,j,ar.ev hx,ar.ev hi,z],g⟩
  .exact h.elim
 case h_7 T x i j=>
  split at h
  .rename_i C hx
   obtain⟨v,z,g⟩:=Dt h;exact .inl ⟨v,w,by simp[execOp,j,ar.ev hx,z],g⟩
  .exact h.elim
 case h_8 T j=>exact Ay ar (by rw[j];rfl) h
 case h_9 T x j=>exact Ay ar (by rw[j];rfl) h
 case h_10 T n ps j=>
  cases Q:Dx (Dw P tk T) with
  |true=>
   rw[Q]at h;simp only[cond_true]at h;by_cases u:known e o.op.operands=true
   .rw[u]at h
    simp only[cond_true]at h;have hc:=lJ ar (by rw[j];rfl) u;obtain⟨r,w1,q,g⟩:=je h;exact .inl ⟨r,w1,by rw[hc];simp[execOp,j];rw[q];rfl,g⟩
   .simp only[gk]at u;rw[u]at h;exact h.elim
  |false=>
   rw[Q]at h;exact Ay ar (by rw[j];rfl) h
 case h_11 T x lo hi ab j=>
  by_cases u:known e o.op.operands=true
  .rw[u]at h
   simp only[cond_true]at h;have hc:=lJ ar (by rw[j];rfl) u;obtain⟨v,z,g⟩:=Du h;exact .inl ⟨v,w,by rw[hc];simp[execOp,j,z],g⟩
  .simp only[gk]at u;rw[u]at h;exact h.elim
 case h_12 T l c j=>
  split at h
  .rename_i Ax ac U hc
   obtain⟨v,w',z,g⟩:=H7 h;exact .inl ⟨v,w',by simp[execOp,j,ar.ev U,ar.ev hc,z],g⟩
  .exact h.elim
 case h_13 s d x j=>
  split at h
  .rename_i k n hx
   by_cases hs:(P.underlying s).isSome=true
   .rw[hs]at h
    simp only[cond_true]at h;obtain⟨ds,V⟩:=k2 _ hs;split at h
    .rename_i ad hd
     exact .inl ⟨_,_,by simp[execOp,j,ar.ev hx,convert,db V,db hd,Conv.intToInt],h⟩
    .obtain⟨r,w1,q,g⟩:=je h
     exact .inl ⟨r,w1,by simp[execOp,j,ar.ev hx,q],g⟩
   .simp only[gk]at hs;rw[hs]at h;exact h.elim
  .rename_i v _ hx
   obtain⟨r,w1,q,g⟩:=je h;exact .inl ⟨r,w1,by simp[execOp,j,ar.ev hx,q],g⟩
  .exact h.elim
 case h_14 t ps j=>
  split at h
  .exact pM ar (by rw[j];rfl) h
  .by_cases u:known e o.op.operands=true
   .rw[u]at h
    simp only[cond_true]at h;have hc:=lJ ar (by rw[j];rfl) u;obtain⟨cs,q,g⟩:=h;exact .inl ⟨_,_,by rw[hc];simp[execOp,j];rw[q];rfl,g⟩
   .simp only[gk]at u;rw[u]at h;exact h.elim
 case h_15 T m i ok j=>
  split at h
  .rename_i M H hm hi
   obtain⟨r,w1,q,g⟩:=je h;exact .inl ⟨r,w1,by simp[execOp,j,ar.ev hm,ar.ev hi,q],g⟩
  .exact h.elim
 case h_16 T m i x j=>
  split at h
  .rename_i M H C hm hi hx
   obtain⟨w1,q,g⟩:=h;exact .inr (.inl ⟨w1,by simp[execOp,j,ar.ev hm,ar.ev hi,ar.ev hx,q],g⟩)
  .exact h.elim
 case h_17 T r j=>
  by_cases u:known e o.op.operands=true
  .rw[u]at h
   simp only[cond_true]at h;have hc:=lJ ar (by rw[j];rfl) u;obtain⟨v,w1,q,g⟩:=je h;exact .inl ⟨v,w1,by rw[hc];simp[execOp,j,q],g⟩
  .simp only[gk]at u;rw[u]at h;exact h.elim
 case h_18 T x j=>
  split at h
  .rename_i C hx
   obtain⟨v,w1,q,g⟩:=h;exact .inl ⟨v,w1,by simp[execOp,j,ar.ev hx,q],g⟩
  .exact h.elim
 case h_19 it W j=>
  split at h
  .rename_i C hx
   rcases h with h|⟨w1,q,g⟩
   .cases W with
    |true=>
     obtain⟨n,c,w1,q,g⟩:=h;exact .inl ⟨_,w1,by simp[execOp,j,ar.ev hx,q],g⟩
    |false=>
     obtain⟨k,v,w1,q,g⟩:=h;exact .inl ⟨_,w1,by simp[execOp,j,ar.ev hx,q],g⟩
   .exact .inl ⟨_,w1,by simp[execOp,j,ar.ev hx,q],g⟩
  .exact h.elim
 case h_20 c j=>
  have D:∀ (b:Builtin) (r:Y) (w1:I),c.callee=.builtin b->known e o.op.operands=true->
   (∀cs,(Go.builtin b c.argTypes o.type cs (c.args.map (ro e))).run P w=.ok (.value r) w1)->K r w1->nA P o a w K:=by
   intro b r w1 hb u q g;have hc:=lJ ar (by rw[j];rfl) u;exact .inl ⟨r,w1,by rw[hc];simp[execOp,j,resolve,hb,invoke,q],g⟩
  have B:∀ {X:Prop},(bif known e o.op.operands then X else False)->known e o.op.operands=true/\X:=by
   intro X J;by_cases u:known e o.op.operands=true
   .rw[u]at J;exact⟨u,J⟩
   .simp only[gk]at u;rw[u]at J;exact J.elim
  split at h
  .rename_i k hb
   split at h
   .rename_i f pre cap hg
    obtain⟨u,Z,h⟩:=B h;have hc:=lJ ar (by rw[j];rfl) u;refine .inr (.inr ⟨f,pre++c.args.map (ro e)++cap,w,?_,h.mono λae w1 h1=>?_⟩)
    .have N:ro e (.tmp k)=.func (.func f) pre cap:=by simp[ro,ev,hg]
     rw[hc];simp[execOp,j,resolve,hb,N,Deferred.ofValue,invoke,Dy Z]
    .obtain⟨v,z,g⟩:=je h1
     exact⟨v,z,g⟩
   .exact pM ar (by rw[j];rfl) h
  .rename_i hb
   obtain⟨u,h⟩:=B h;obtain⟨r,w1,q,g⟩:=je h;exact D _ r w1 hb u (λ_=>by simp[Go.builtin,q]) g
  .rename_i hb
   obtain⟨u,h⟩:=B h;obtain⟨r,w1,q,g⟩:=je h;exact D _ r w1 hb u (λ_=>by simp[Go.builtin,q]) g
  .rename_i hb
   obtain⟨u,h⟩:=B h;obtain⟨r,w1,q,g⟩:=je h;exact D _ r w1 hb u (λ_=>by simp[Go.builtin,q]) g
  .rename_i hb
   obtain⟨u,h⟩:=B h;obtain⟨r,w1,q,g⟩:=je h;exact D _ r w1 hb u (λ_=>by simp[Go.builtin,q]) g
  .rename_i hb
   obtain⟨u,r,w1,q,g⟩:=B h;exact D _ r w1 hb u (λ_=>by simp[Go.builtin,q]) g
  .rename_i f hb
   split at h
   .rename_i fn af
    split at h
    .exact pM ar (by rw[j];rfl) h
    .obtain⟨u,h⟩:=B h
     obtain⟨r,w1,q,g⟩:=je h;have hc:=lJ ar (by rw[j];rfl) u;refine .inl ⟨r,w1,?_,g⟩;rw[hc];have N:ro e (.func f)=.func (.func f) #[] #[]:=by simp[ro,ev]
     simp[execOp,j,resolve,hb,N,Deferred.ofValue,invoke,q]
   .exact h.elim
  .rename_i hb
   obtain⟨u,h⟩:=B h;obtain⟨r,w1,q,g⟩:=je h;exact D _ r w1 hb u (λ_=>by simp[Go.builtin,q]) g
  .rename_i hb
   obtain⟨u,h⟩:=B h;obtain⟨r,w1,q,g⟩:=je h;exact D _ r w1 hb u (λ_=>by simp[Go.builtin,q]) g
  .rename_i hb
   obtain⟨u,r,w1,q,g⟩:=B h;exact D _ r w1 hb u (λ_=>by simp[Go.builtin,q]) g
  .rename_i hb
   split at h
   .obtain⟨u,h⟩:=B h
    obtain⟨r,w1,q,g⟩:=je h;exact D _ r w1 hb u (λ_=>by simp[Go.builtin,q]) g
   .exact pM ar (by rw[j];rfl) h
  .exact pM ar (by rw[j];rfl) h
 case h_21 T x j=>
  split at h
  .rename_i C hx
   obtain⟨v,z,g⟩:=Dp h;exact .inl ⟨v,w,by simp[execOp,j,ar.ev hx,z],g⟩
  .exact h.elim
 case h_22 T m i j=>
  split at h
  .rename_i M H hm hi
   obtain⟨v0,st,w1,q,g⟩:=h;exact .inl ⟨_,w1,by simp[execOp,j,ar.ev hm,ar.ev hi,q],g⟩
  .exact h.elim
 case h_23 T m s x j=>
  split at h
  .rename_i M vs C hm hs hx
   obtain⟨w1,q,g⟩:=h;exact .inr (.inl ⟨w1,by simp[execOp,j,ar.ev hm,ar.ev hs,ar.ev hx,q],g⟩)
  .exact h.elim
 case h_24 it j=>
  split at h
  .rename_i C hx
   obtain⟨v,w1,q,g⟩:=je h;exact .inl ⟨v,w1,by simp[execOp,j,ar.ev hx,q],g⟩
  .exact h.elim
 case h_25=>exact h.elim
 case h_26=>
  refine pM ar ?_ h
  cases j:o.op<;>first|rfl|simp_all
end
end aQ
namespace aQ
open Go
inductive lK where
 |run
 |split (n:Nat)
 |pure (n:Nat)
 |tS (ks:O Kd)
def fu(P:Program)(o:Oper)(e:Env):aq Y:=
 match o.op with
 | .move x=>ev e x
 | .assign x=>ev e x
 | .unOp .not _ x=>match ev e x with
  |some (.bool b)=>some (.bool (!b))
  |_=>none
 | .binOp op T x y _=>match ev e y with
  |some (.int f b)=>match ev e x with
   |some (.int k a)=>bif k1 k f then
    match op with
    | .add=>some (.int k (k.wrap (a+b)))
    | .sub=>some (.int k (k.wrap (a-b)))
    | .mul=>some (.int k (k.wrap (a*b)))
    | .quo=>match b with
     | .ofNat (.succ m)=>some (.int k (k.wrap (a.tdiv (.ofNat (.succ m)))))
     |_=>none
    | .rem=>match b with
     | .ofNat (.succ m)=>some (.int k (a.tmod (.ofNat (.succ m))))
     |_=>none
    | .and=>some (.int k (k.wrap (BitVec.ofInt k.bits a&&&BitVec.ofInt k.bits b).toNat))
    | .or=>some (.int k (k.wrap (BitVec.ofInt k.bits a|||BitVec.ofInt k.bits b).toNat))
    | .xor=>some (.int k (k.wrap (BitVec.ofInt k.bits a^^^BitVec.ofInt k.bits b).toNat))
    | .eql=>some (.bool (a==b))
    | .neq=>some (.bool (a !=b))
    | .lss=>some (.bool (a<b))
    | .leq=>some (.bool (a<=b))
    | .gtr=>some (.bool (a>b))
    | .geq=>some (.bool (a>=b))
    |_=>none
    else none
   |_=>none
  |some (.bool b)=>match ev e x with
   |some (.bool a)=>match P.underlying T with
    |some .bool=>match op with
     | .eql=>some (.bool (a==b))
     | .neq=>some (.bool (!(a==b)))
     |_=>none
    |_=>none
   |_=>none
  |some (.string b)=>match ev e x with
   |some (.string a)=>match op with
    | .eql=>some (.bool (a.toList==b.toList))
    | .neq=>some (.bool (!(a.toList==b.toList)))
    |_=>none
   |_=>none
  |some (.pointer none)=>match ev e x with
   |some (.pointer p)=>bif nz (P.underlying T) then match op with
    | .eql=>some (.bool p.isNone)
    | .neq=>some (.bool (!p.isNone))
    |_=>none
    else none
   |_=>none
  |some (.slice none _ _)=>match ev e x with
   |some (.slice p _ _)=>bif oD (P.underlying T) then match op with
    | .eql=>some (.bool p.isNone)
    | .neq=>some (.bool (!p.isNone))
    |_=>none
    else none
   |_=>none
  |_=>none
 | .convert s d x=>match ev e x with
  |some (.int _ n)=>match P.underlying d with
   |some (.int k)=>bif (P.underlying s).isSome then some (.int k (k.wrap n)) else none
   |_=>none
  |_=>none
 | .call {callee:=.builtin .len,args:=args,argTypes:=g5}=>match args[0]?,g5[0]? with
  |some x,some T=>match ev e x,P.underlying T with
   |some (.slice _ n _),some (.slice _)=>some (.int .i64 n)
   |some (.string s),some .string=>some (.int .i64 s.size)
   |_,_=>none
  |_,_=>none
 | .call {callee:=.builtin .cap,args:=args,argTypes:=g5}=>match args[0]?,g5[0]? with
  |some x,some T=>match ev e x,P.underlying T with
   |some (.slice _ _ c),some (.slice _)=>some (.int .i64 c)
   |_,_=>none
  |_,_=>none
 |_=>none
def tT(ops:Array Oper)(e:Env)(j:Nat):aq Y:=((ops[j]?).bind (·.dst)).bind e.get
def Ib(ops:Array Oper)(j:Nat):aq Nat:=(ops[j]?).bind (·.dst)
def PB(o:Oper)(e:Env)(K:aj->Prop):Prop:=
 match o.guard with
 |none=>match o.op with
  | .pick x y z=>match ev e x with
   |some (.bool b)=>match ev e (bif b then y else z) with
    |some (.bool r)=>K r
    |_=>False
   |_=>False
  |_=>False
 |some _=>False
def ia(ops:Array Oper)(o:Oper)(e:Env)(run skip:Prop):Prop:=
 match o.guard with
 |none=>run
 |some (j,want)=>match tT ops e j with
  |none=>False
  |some (.bool b)=>bif Bool.xor b want then skip else run
  |some _=>skip
def mY{α:Type}(ops:Array Oper)(o:Oper)(e:Env)(run skip:aq α):aq α:=
 match o.guard with
 |none=>run
 |some (j,want)=>match tT ops e j with
  |none=>none
  |some (.bool b)=>bif Bool.xor b want then skip else run
  |some _=>skip
def mi(o:Oper)(e:Env):aq aj:=
 match o.op with
 | .pick x y z=>match ev e x with
  |some (.bool b)=>match ev e (bif b then y else z) with
   |some (.bool r)=>some r
   |_=>none
  |_=>none
 |_=>none
def tU(ops:Array Oper)(o:Oper)(e:Env):aq (Nat×aj):=
 match o.guard with
 |none=>none
 |some (j,_)=>match Ib ops j with
  |none=>none
  |some s=>match e.get s with
   |some (.bool c)=>some (s,c)
   |_=>none
def nB(ops:Array Oper)(o:Oper)(e:Env):aj:=
 match o.guard with
 |none=>true
 |some (j,want)=>match tT ops e j with
  |some (.bool b)=> !(Bool.xor b want)
  |_=>false
def oE(e:Env)(ds:O Nat):aj:=e.all λp=> !(ds.any λd=>Nat.beq d p.1)
def b3(l:O Oper):O Nat:=l.filterMap (·.dst)
def jC(P:Program)(ops:Array Oper):Nat->O Oper->O lK->Env->aq Env
 |0,_,_,_=>none
 |_+1,[],_,e=>some e
 |n+1,o::rest,.pure m::as,e=>
  match tU ops o e,rest.drop (m-1) with
  |none,_=>
   match mY ops o e none (some undef) with
   |some v=>jC P ops n rest as (dr o.dst v e)
   |none=>none
  |some (s,c),a::b=>
   match jC P ops n (o::rest.take (m-1)) (.run::as.take (m-1)) ((s,.bool true)::e),jC P ops n (o::rest.take (m-1)) (.run::as.take (m-1)) ((s,.bool false)::e) with
   |some aG,some aM=>
    match mi a aG,mi a aM with
    |some r1,some aR=>bif nB ops a e&&oE e (b3 (o::rest.take (m-1))) then jC P ops n b (as.drop m) (dr a.dst (.bool (cond c r1 aR)) e) else none
    |_,_=>none
   |_,_=>none
  |_,_=>none
 |n+1,o::rest,_::as,e=>
  match mY ops o e (fu P o e) (some undef) with
  |some v=>jC P ops n rest as (dr o.dst v e)
  |none=>none
 |n+1,o::rest,[],e=>
  match mY ops o e (fu P o e) (some undef) with
  |some v=>jC P ops n rest [] (dr o.dst v e)
  |none=>none
inductive a_ {α:Type} (B:α->Prop) (k:α):Prop where
 |mk (h:B k)
theorem a_.out{α:Type}{B:α->Prop}{k:α}(h:a_ B k):B k:=by cases h with|mk h=>exact h
def wA(P:Program)(ks:O Kd)(o:Oper)(K:Y->I->Prop)(e:Env)(w:I):Prop:=
 match o.op with
 | .entry it=>match ev e it with
  |some a=>wi ks λvs=>∃w1,(Instr.entry a).run P w=.ok (.tuple vs.toArray) w1/\K (.tuple vs.toArray) w1
  |_=>False
 |_=>False
theorem Ic{P:Program}{ks:O Kd}{o:Oper}{K:Y->I->Prop}{e:Env}{w:I}{a:Act}(ar:dB e a)(h:wA P ks o K e w):nA P o a w K:=by
 unfold wA at h;split at h
 .rename_i it b
  split at h
  .rename_i f hx
   obtain⟨v,w1,c,d⟩:=Ao h;exact .inl ⟨_,w1,by simp[execOp,b,ar.ev hx,c],d⟩
  .exact h.elim
 .exact h.elim
def gC(P:Program)(tk:TypeId->ec)(ops:Array Oper):Nat->O Oper->O lK->(Env->I->Prop)->Env->I->Prop
 |0,_,_,_,_,_=>False
 |_+1,[],_,K,e,w=>K e w
 |n+1,o::rest,.tS ks::as,K,e,w=>
  ia ops o e (wA P ks o (λv w'=>gC P tk ops n rest as K (dr o.dst v e) w') e w) (gC P tk ops n rest as K (dr o.dst undef e) w)
 |n+1,o::rest,.pure m::as,K,e,w=>
  match tU ops o e,rest.drop (m-1) with
  |none,_=>ia ops o e False (gC P tk ops n rest as K (dr o.dst undef e) w)
  |some (s,c),a::b=>
   match jC P ops n (o::rest.take (m-1)) (.run::as.take (m-1)) ((s,.bool true)::e),jC P ops n (o::rest.take (m-1)) (.run::as.take (m-1)) ((s,.bool false)::e) with
   |some aG,some aM=>
    match mi a aG,mi a aM with
    |some r1,some aR=>bif nB ops a e&&oE e (b3 (o::rest.take (m-1))) then gC P tk ops n b (as.drop m) K (dr a.dst (.bool (cond c r1 aR)) e) w else False
    |_,_=>False
   |_,_=>False
  |_,_=>False
 |n+1,o::rest,.split m::as,K,e,w=>
  match tU ops o e,rest.drop (m-1) with
  |none,_=>ia ops o e False (gC P tk ops n rest as K (dr o.dst undef e) w)
  |some (s,c),a::b=>
   bif nB ops a e&&oE e (b3 (o::rest.take (m-1))) then
    a_ (λk:aj->I->Prop=>
     (c=true->gC P tk ops n (o::rest.take (m-1)) (.run::as.take (m-1)) (λe' w'=>match mi a e' with|some r=>k r w'|none=>False) ((s,.bool true)::e) w)/\
     (c=false->gC P tk ops n (o::rest.take (m-1)) (.run::as.take (m-1)) (λe' w'=>match mi a e' with|some r=>k r w'|none=>False) ((s,.bool false)::e) w))
     (λr w'=>gC P tk ops n b (as.drop m) K (dr a.dst (.bool r) e) w')
   else False
  |_,_=>False
 |n+1,o::rest,_::as,K,e,w=>
  ia ops o e (kA P tk o (λv w'=>gC P tk ops n rest as K (dr o.dst v e) w') e w) (gC P tk ops n rest as K (dr o.dst undef e) w)
 |n+1,o::rest,[],K,e,w=>
  ia ops o e (kA P tk o (λv w'=>gC P tk ops n rest [] K (dr o.dst v e) w') e w) (gC P tk ops n rest [] K (dr o.dst undef e) w)
structure en(ds:O Nat)(a a':Act):Prop where
 defers:a'.defers=a.defers
 size:a'.tmps.size=a.tmps.size
 same:∀s,s∉ds->a'.tmps[s]? =a.tmps[s]?
theorem en.refl(ds:O Nat)(a:Act):en ds a a:=⟨rfl,rfl,λ_ _=>rfl⟩
theorem en.trans{ds:O Nat}{a b c:Act}(h:en ds a b)(k:en ds b c):en ds a c:=
 ⟨k.defers.trans h.defers,k.size.trans h.size,λs hs=>(k.same s hs).trans (h.same s hs)⟩
theorem en.mono{ds es:O Nat}{a b:Act}(h:en ds a b)(hs:∀s,s∈ds->s∈es):en es a b:=
 ⟨h.defers,h.size,λs c=>h.same s λhm=>c (hs s hm)⟩
theorem en.put{a:Act}{d:aq Nat}{v:Y}{ds:O Nat}(hd:∀k,d=some k->k∈ds):en ds a (a.put d v):=by
 cases d with
 |none=>exact .refl _ _
 |some d=>exact⟨rfl,by simp[Act.put],λs hs=>by
  have:d≠s:=λh=>hs (h▸hd d rfl);simp[Act.put,Array.getElem?_setIfInBounds_ne this]⟩
def hM(a:Act)(ds:O Nat)(K:Env->I->Prop)(x:Exit)(a':Act)(w':I):Prop:=
 x=.normal/\en ds a a'/\∃e',dB e' a'/\K e' w'
theorem jD{P:Program}{ops:Array Oper}{Q Q':Exit->Act->I->Prop}(b:∀x a w,Q x a w->Q' x a w):
 ∀ (l:O Oper) (a:Act) (w:I),wpList P ops Q l a w->wpList P ops Q' l a w
 | [],_,_,h=>b _ _ _ h
 |o::l,a,w,h=>by
  simp only[wpList]at h⊢
  split
  .rename_i d
   rw[if_pos d]at h
   refine h.imp (λh=>?_) (λ⟨h1,a',w',f⟩=>⟨h1,a',w',b _ _ _ f⟩)
   have:=Oper.wp_mono (Q:=Q) (λa w=>jD b l a w) h
   unfold Oper.wp at this⊢
   revert this
   generalize (execOp a.eval o).run P w=r
   intro this
   cases r with
   |ok aO w'=>
    cases aO<;>simp only[Oper.upon]at this⊢<;>first
     |exact this
     |(exact Calls.mono this λe g he=>by
        cases e with
        |returned v=>exact he
        |panicked c=>exact b _ _ _ he
        |outgrown=>exact let ⟨a',w',f⟩:=he;⟨a',w',b _ _ _ f⟩)
   |halt x w'=>cases x<;>simp only[Oper.upon]at this⊢<;>first|exact b _ _ _ this|exact this
  .rename_i d
   rw[if_neg d]at h
   exact jD b l _ _ h
theorem tV{P:Program}{ops:Array Oper}{Q:Exit->Act->I->Prop}(b:O Oper):
 ∀ (g:O Oper) (a:Act) (w:I),wpList P ops (λx a w=>x=.normal/\wpList P ops Q b a w) g a w->wpList P ops Q (g++b) a w
 | [],_,_,h=>h.2
 |o::l,a,w,h=>by
  simp only[tx,wpList]at h⊢
  split
  .rename_i d
   rw[if_pos d]at h
   rcases h with h|⟨_,a',w',f,_⟩
   .left
    have:=Oper.wp_mono (λa w=>tV b l a w) h
    unfold Oper.wp at this⊢
    revert this
    generalize (execOp a.eval o).run P w=r
    intro this
    cases r with
    |ok aO w'=>
     cases aO<;>simp only[Oper.upon]at this⊢<;>first
      |exact this
      |(exact Calls.mono this λe i he=>by
         cases e with
         |returned v=>exact he
         |panicked c=>cases he.1
         |outgrown=>exact let ⟨a',w',f⟩:=he;by cases f.1)
    |halt x w'=>cases x<;>simp only[Oper.upon]at this⊢<;>first|(cases this.1;done)|exact this
   .cases f
  .rename_i d
   rw[if_neg d]at h
   exact tV b l _ _ h
section
variable {P:Program}{tk:TypeId->ec}{ops:Array Oper}
def jE:Y->aq aj
 | .bool b=>some b
 |_=>none
theorem tW{e:Env}{a:Act}(ar:dB e a){j:Nat}{v:Y}(h:tT ops e j=some v):
 yielded ops a.tmps j=jE v:=by
 unfold tT at h;unfold yielded
 cases hd:(ops[j]?).bind (·.dst) with
 |none=>rw[hd]at h;simp at h
 |some s=>
  rw[hd]at h;simp only[Option.bind_some]at h⊢;rw[ar.get _ _ h]
  cases v<;>rfl
theorem tX{o:Oper}{e:Env}{a:Act}(ar:dB e a){R S:Prop}(h:ia ops o e R S):
 (Region.wanted o (yielded ops a.tmps)=true/\R)\/(Region.wanted o (yielded ops a.tmps)=false/\S):=by
 unfold ia at h;unfold Region.wanted;split at h
 .rename_i hg;rw[hg];exact .inl ⟨rfl,h⟩
 .rename_i j want hg
  rw[hg];simp only;split at h
  .exact h.elim
  .rename_i b c
   rw[tW ar c]
   cases b<;>cases want<;>first|exact .inl ⟨rfl,h⟩|exact .inr ⟨rfl,h⟩
  .rename_i v d c
   rw[tW ar c]
   cases v<;>first|exact absurd rfl (d _)|exact .inr ⟨by cases want<;>rfl,h⟩
theorem DB{o:Oper}{e:Env}{R a S:Prop}(h:ia ops o e R S)(c:R->a):ia ops o e a S:=by
 unfold ia at h⊢;split at h
 .exact c h
 .rename_i j want hg
  split at h
  .exact h
  .rename_i b d
   cases hb:Bool.xor b want<;>rw[hb]at h<;>first|exact c h|exact h
  .exact h
theorem Ie{α:Type}{o:Oper}{e:Env}{R S:aq α}{r:α}(h:mY ops o e none S=some r):mY ops o e R S=some r:=by
 unfold mY at h⊢;split at h
 .cases h
 .rename_i j want hg
  split at h
  .exact h
  .rename_i b a
   cases hb:Bool.xor b want with
   |true=>rw[hb]at h;exact h
   |false=>rw[hb]at h;cases h
  .exact h
theorem Ig{α:Type}{o:Oper}{e:Env}{a:Act}(ar:dB e a){R S:aq α}{r:α}(h:mY ops o e R S=some r):
 (Region.wanted o (yielded ops a.tmps)=true/\R=some r)\/(Region.wanted o (yielded ops a.tmps)=false/\S=some r):=by
 unfold mY at h;unfold Region.wanted;split at h
 .rename_i hg;rw[hg];exact .inl ⟨rfl,h⟩
 .rename_i j want hg
  rw[hg];simp only;split at h
  .cases h
  .rename_i b c
   rw[tW ar c]
   cases b<;>cases want<;>first|exact .inl ⟨rfl,h⟩|exact .inr ⟨rfl,h⟩
  .rename_i v d c
   rw[tW ar c]
   cases v<;>first|exact absurd rfl (d _)|exact .inr ⟨by cases want<;>rfl,h⟩
theorem DC{o:Oper}{e:Env}{a:Act}(ar:dB e a){v:Y}(h:fu P o e=some v)(w:I):(execOp a.eval o).run P w=.ok (.value v) w:=by
 unfold fu at h;split at h
 .rename_i x f
  simp[execOp,f,ar.ev h]
 .rename_i x f
  simp[execOp,f,ar.ev h]
 .rename_i t x f
  split at h
  .rename_i b hx
   cases h;simp[execOp,f,ar.ev hx,Op.unary]
  .cases h
 .rename_i op T x y B f
  split at h
  .rename_i r b i
   split at h
   .rename_i k c hx
    by_cases u:k=r
    .subst u
     simp only[k1,decide_true,cond_true]at h;split at h
     case h_4=>
      split at h
      .cases h
       simp[execOp,f,ar.ev hx,ar.ev i,eqGuard,binOp,Op.intDiv];intro q;exfalso;revert q;simp;omega
      .cases h
     case h_5=>
      split at h
      .cases h
       simp[execOp,f,ar.ev hx,ar.ev i,eqGuard,binOp,Op.intDiv];intro q;exfalso;revert q;simp;omega
      .cases h
     all_goals first
      |(cases h;simp[execOp,f,ar.ev hx,ar.ev i,eqGuard,binOp,Op.intArith,Op.intBits,Op.intCmp];done)
      |cases h
    .simp[k1,u]at h
   .cases h
  .rename_i b i
   split at h
   .rename_i c hx
    split at h
    .rename_i g
     have aG:∀ (d:Nat) (w:I),(Op.equalIn (d+1) T (.bool c) (.bool b)).run P w=.ok (c==b) w:=by
      intro d w;simp[Op.equalIn,db g]
     have aM:∀w:I,(Op.equal T (.bool c) (.bool b)).run P w=.ok (c==b) w:=λw=>by rw[rA];exact aG _ w
     split at h
     .cases h
      simp[execOp,f,ar.ev hx,ar.ev i,eqGuard,binOp,aM]
     .cases h
      simp[execOp,f,ar.ev hx,ar.ev i,eqGuard,binOp,aM]
     .cases h
    .cases h
   .cases h
  .rename_i b i
   split at h
   .rename_i c hx
    split at h
    .cases h
     have aG:(binOp .eql T (.string c) (.string b)).run P w=.ok (.bool (c.toList==b.toList)) w:=rfl;simp only[execOp,f,ar.ev hx,ar.ev i];simp[eqGuard,aG]
    .cases h
     have aG:(binOp .neq T (.string c) (.string b)).run P w=.ok (.bool (!(c.toList==b.toList))) w:=rfl;simp only[execOp,f,ar.ev hx,ar.ev i];simp[eqGuard,aG]
    .cases h
   .cases h
  .rename_i i
   split at h
   .rename_i p hx
    by_cases g:nz (P.underlying T)=true
    .rw[g]at h
     simp only[cond_true]at h;split at h
     .cases h;simp[execOp,f,ar.ev hx,ar.ev i,eqGuard,binOp,wm (P:=P) g]
     .cases h;simp[execOp,f,ar.ev hx,ar.ev i,eqGuard,binOp,wm (P:=P) g]
     .cases h
    .simp only[gk]at g;rw[g]at h;cases h
   .cases h
  .rename_i l c i
   split at h
   .rename_i p _ _ hx
    by_cases g:oD (P.underlying T)=true
    .rw[g]at h
     simp only[cond_true]at h;split at h
     .cases h;simp[execOp,f,ar.ev hx,ar.ev i,eqGuard,binOp,wo (P:=P) g]
     .cases h;simp[execOp,f,ar.ev hx,ar.ev i,eqGuard,binOp,wo (P:=P) g]
     .cases h
    .simp only[gk]at g;rw[g]at h;cases h
   .cases h
  .cases h
 .rename_i s d x f
  split at h
  .rename_i k n hx
   split at h
   .rename_i r hd
    by_cases hs:(P.underlying s).isSome=true
    .rw[hs]at h
     cases h;obtain⟨ds,z⟩:=k2 _ hs;simp[execOp,f,ar.ev hx,convert,db z,db hd,Conv.intToInt]
    .simp only[gk]at hs;rw[hs]at h;cases h
   .cases h
  .cases h
 .rename_i args g5 f
  split at h
  .rename_i x T j m
   split at h
   .rename_i p n c A hx g
    cases h;simp[execOp,f,resolve,invoke,Go.builtin,Builtin.len_,m,j,db g,ar.ev hx,goInt]
   .rename_i s hx g
    cases h;simp[execOp,f,resolve,invoke,Go.builtin,Builtin.len_,m,j,db g,ar.ev hx,goInt]
   .cases h
  .cases h
 .rename_i args g5 f
  split at h
  .rename_i x T j m
   split at h
   .rename_i p n c A hx g
    cases h;simp[execOp,f,resolve,invoke,Go.builtin,Builtin.cap_,m,j,db g,ar.ev hx,goInt]
   .cases h
  .cases h
 .cases h
theorem AB{e:Env}{ds:O Nat}{a a':Act}(ar:dB e a)(hd:oE e ds=true)(c:en ds a a'):dB e a':=by
 constructor;intro s v hs;have hm:∃u,(s,u)∈e:=by
  clear hd ar
  induction e with
  |nil=>cases hs
  |cons p e d=>
   obtain⟨k,u⟩:=p;rw[pJ]at hs;by_cases b:k=s
   .subst b;exact⟨u,by simp⟩
   .rw[if_neg b]at hs
    obtain⟨u,hu⟩:=d hs;exact⟨u,by simp[hu]⟩
 obtain⟨u,hu⟩:=hm;have h1:=q6.1 hd _ hu;simp only[kr,q7]at h1;rw[c.same s λf=>h1 s f (Nat.beq_refl s)];exact ar.get s v hs
theorem AD{d:Oper}{e:Env}{a:Act}(ar:dB e a){r:aj}(h:mi d e=some r)(w:I):
 (execOp a.eval d).run P w=.ok (.value (.bool r)) w:=by
 unfold mi at h;split at h
 .rename_i x y z f
  split at h
  .rename_i b hb
   split at h
   .rename_i g c
    cases h;simp only[execOp,f,ar.ev hb]
    cases b
    .simp only[cond_false]at c
     simp[asBool,ar.ev c]
    .simp only[cond_true]at c
     simp[asBool,ar.ev c]
   .cases h
  .cases h
 .cases h
theorem AE{c:Oper}{e:Env}{a:Act}(ar:dB e a)(h:nB ops c e=true):Region.wanted c (yielded ops a.tmps)=true:=by
 unfold nB at h;unfold Region.wanted;split at h
 .rename_i hg;rw[hg]
 .rename_i j want hg
  rw[hg];simp only;split at h
  .rename_i b d
   rw[tW ar d]
   cases b<;>cases want<;>first|rfl|cases h
  .cases h
theorem AF{o:Oper}{e:Env}{s:Nat}{c:aj}(h:tU ops o e=some (s,c)):e.get s=some (.bool c):=by
 unfold tU at h;split at h
 .cases h
 .split at h
  .cases h
  .split at h
   .rename_i hs;cases h;exact hs
   .cases h
theorem dB.lit{e:Env}{a:Act}(ar:dB e a){s:Nat}{v:Y}(h:e.get s=some v):dB ((s,v)::e) a:=by
 constructor;intro t u ht;rw[pJ]at ht;by_cases b:s=t
 .subst b
  rw[if_pos rfl]at ht
  cases ht;exact ar.get _ _ h
 .rw[if_neg b]at ht
  exact ar.get _ _ ht
theorem AG{α:Type}(o:α)(rest:O α)(m:Nat){a:α}{b:O α}(h:rest.drop m=a::b):
 o::rest=(o::rest.take m)++(a::b):=by
 rw[←h];simp
theorem Ih{b c:aj}{α:Type}{x y z:α}(h:(bif b&&c then x else y)=z)(a:y≠z):b=true/\c=true/\x=z:=by
 cases b<;>cases c<;>first|exact absurd h a|exact⟨rfl,rfl,h⟩
theorem DD:∀ (n:Nat) (l:O Oper) (as:O lK) (e e':Env) (a:Act) (w:I),dB e a->(∀d∈b3 l,d<a.tmps.size)->
 jC P ops n l as e=some e'->wpList P ops (λx a' w'=>x=.normal/\en (b3 l) a a'/\dB e' a'/\w'=w) l a w:=by
 intro n
 induction n with
 |zero=>intro l as e e' a w _ _ h;cases h
 |succ n y=>
  intro l as e e' a w ar hb h;have one:∀ (o:Oper) (rest:O Oper) (B:O lK),(∀d∈b3 (o::rest),d<a.tmps.size)->
   (match mY ops o e (fu P o e) (some undef) with|some v=>jC P ops n rest B (dr o.dst v e)|none=>none)=some e'->
   wpList P ops (λx a' w'=>x=.normal/\en (b3 (o::rest)) a a'/\dB e' a'/\w'=w) (o::rest) a w:=by
   intro o rest B hb h;have G:∀k,o.dst=some k->k∈b3 (o::rest):=λk b=>by simp[b3,b]
   have i:∀k,k∈b3 rest->k∈b3 (o::rest):=λk b=>by
    simp only[b3,tz];split
    .exact b
    .exact lE _ b
   split at h
   .rename_i v j
    have next:∀ (a':Act),a'=a.put o.dst v->wpList P ops (λx a' w'=>x=.normal/\en (b3 (o::rest)) a a'/\dB e' a'/\w'=w) rest a' w:=by
     intro a' M;subst M;have b:en (b3 (o::rest)) a (a.put o.dst v):=en.put G;have:=y rest B (dr o.dst v e) e' (a.put o.dst v) w (ar.put λk b=>hb k (G k b)) (λd hd=>by rw[b.size];exact hb d (i d hd)) h;exact jD (λx a' w' ⟨h1,C,N,Q⟩=>⟨h1,b.trans (C.mono i),N,Q⟩) _ _ _ this
    rcases Ig ar j with ⟨D,p⟩|⟨D,p⟩
    .simp only[wpList,D,if_true]
     left;unfold Oper.wp;rw[DC ar p w];exact next _ rfl
    .simp only[wpList,D,gb,if_false]
     cases p;exact next _ rfl
   .cases h
  cases l with
  |nil=>
   simp only[jC,Option.some.injEq]at h;subst h;exact⟨rfl,.refl _ _,ar,rfl⟩
  |cons o rest=>
   cases as with
   |nil=>exact one o rest [] hb (by simpa only[jC] using h)
   |cons R as=>
    cases R with
    |run=>exact one o rest as hb (by simpa only[jC] using h)
    |split m=>exact one o rest as hb (by simpa only[jC] using h)
    |tS ks=>exact one o rest as hb (by simpa only[jC] using h)
    |pure m=>
     simp only[jC]at h;split at h
     .refine one o rest as hb ?_
      cases j:mY ops o e none (some undef) with
      |none=>rw[j]at h;cases h
      |some v=>rw[j]at h;rw[Ie j];exact h
     .rename_i s c f g hg hd
      split at h
      .rename_i aG aM h1 C
       split at h
       .rename_i r1 aR S T
        obtain⟨U,V,h⟩:=Ih h (by simp);rw[AG o rest (m-1) hd]at hb⊢;have H:=AF hg;refine tV _ _ _ _ ?_;have E:∀k,k∈b3 (o::rest.take (m-1))->k∈b3 ((o::rest.take (m-1))++(f::g)):=λk b=>by
         simp only[b3,tA,cS];exact .inl b
        have z:∀k,k∈b3 (f::g)->k∈b3 ((o::rest.take (m-1))++(f::g)):=λk b=>by
         simp only[b3,tA,cS];exact .inr b
        have J:∀k,f.dst=some k->k∈b3 (f::g):=λk b=>by simp[b3,b]
        have i:∀k,k∈b3 g->k∈b3 (f::g):=λk b=>by
         simp only[b3,tz];split
         .exact b
         .exact lE _ b
        have fin:∀ (F:Env) (r:aj) (a1:Act),en (b3 (o::rest.take (m-1))) a a1->dB F a1->mi f F=some r->r=cond c r1 aR->
         wpList P ops (λx a' w'=>x=.normal/\en (b3 ((o::rest.take (m-1))++(f::g))) a a'/\dB e' a'/\w'=w) (f::g) a1 w:=by
         intro F r a1 A W p X;have K:=AB ar V A;simp only[wpList,AE K U,if_true];left;unfold Oper.wp;rw[AD W p w];simp only[Oper.upon];have L:en (b3 (f::g)) a1 (a1.put f.dst (.bool r)):=en.put J;have:=y g (as.drop m) (dr f.dst (.bool (cond c r1 aR)) e) e' (a1.put f.dst (.bool r)) w
          (by rw[X];exact K.put λk b=>by rw[A.size];exact hb k (z k (J k b)))
          (λd hd=>by rw[L.size,A.size];exact hb d (z d (i d hd))) h
         refine jD (λx a' w' ⟨aA,q,t,u⟩=>⟨aA,(A.mono E).trans ((L.mono z).trans (q.mono λk b=>z k (i k b))),t,u⟩) _ _ _ this
        cases c with
        |true=>
         have:=y _ _ _ aG a w (ar.lit H) (λd hd=>hb d (E d hd)) h1;exact jD (λx a' w' ⟨aA,q,t,u⟩=>⟨aA,by subst u;exact fin aG r1 a' q t S rfl⟩) _ _ _ this
        |false=>
         have:=y _ _ _ aM a w (ar.lit H) (λd hd=>hb d (E d hd)) C;exact jD (λx a' w' ⟨aA,q,t,u⟩=>⟨aA,by subst u;exact fin aM aR a' q t T rfl⟩) _ _ _ this
       .cases h
      .cases h
     .cases h
theorem DE:∀ (n:Nat) (l:O Oper) (as:O lK) (K:Env->I->Prop) (e:Env) (a:Act) (w:I),dB e a->(∀d∈b3 l,d<a.tmps.size)->
 gC P tk ops n l as K e w->wpList P ops (hM a (b3 l) K) l a w:=by
 intro n
 induction n with
 |zero=>intro l as K e a w _ _ h;cases h
 |succ n C=>
  intro l as K e a w ar hb h;have one:∀ (o:Oper) (rest:O Oper) (i:O lK),(∀d∈b3 (o::rest),d<a.tmps.size)->
   ia ops o e (kA P tk o (λv w'=>gC P tk ops n rest i K (dr o.dst v e) w') e w) (gC P tk ops n rest i K (dr o.dst undef e) w)->
   wpList P ops (hM a (b3 (o::rest)) K) (o::rest) a w:=by
   intro o rest i hb h;have D:∀k,o.dst=some k->k∈b3 (o::rest):=λk b=>by simp[b3,b]
   have j:∀k,k∈b3 rest->k∈b3 (o::rest):=λk b=>by
    simp only[b3,tz];split
    .exact b
    .exact lE _ b
   have next:∀ (v:Y) (w':I),gC P tk ops n rest i K (dr o.dst v e) w'->wpList P ops (hM a (b3 (o::rest)) K) rest (a.put o.dst v) w':=by
    intro v w' h;have b:en (b3 (o::rest)) a (a.put o.dst v):=en.put D;have:=C rest i K (dr o.dst v e) (a.put o.dst v) w' (ar.put λk b=>hb k (D k b)) (λd hd=>by rw[b.size];exact hb d (j d hd)) h;exact jD (λx a' w' ⟨h1,y,L⟩=>⟨h1,b.trans (y.mono j),L⟩) _ _ _ this
   rcases tX ar h with ⟨z,p⟩|⟨z,p⟩
   .simp only[wpList,z,if_true]
    exact .inl ((wz ar p).wp next)
   .simp only[wpList,z,gb,if_false]
    exact next _ _ p
  have S:∀ (o:Oper) (rest:O Oper) (ks:O Kd) (i:O lK),(∀d∈b3 (o::rest),d<a.tmps.size)->
   ia ops o e (wA P ks o (λv w'=>gC P tk ops n rest i K (dr o.dst v e) w') e w) (gC P tk ops n rest i K (dr o.dst undef e) w)->
   wpList P ops (hM a (b3 (o::rest)) K) (o::rest) a w:=by
   intro o rest ks i hb h;have D:∀k,o.dst=some k->k∈b3 (o::rest):=λk b=>by simp[b3,b]
   have j:∀k,k∈b3 rest->k∈b3 (o::rest):=λk b=>by
    simp only[b3,tz];split
    .exact b
    .exact lE _ b
   have next:∀ (v:Y) (w':I),gC P tk ops n rest i K (dr o.dst v e) w'->wpList P ops (hM a (b3 (o::rest)) K) rest (a.put o.dst v) w':=by
    intro v w' h;have b:en (b3 (o::rest)) a (a.put o.dst v):=en.put D;have:=C rest i K (dr o.dst v e) (a.put o.dst v) w' (ar.put λk b=>hb k (D k b)) (λd hd=>by rw[b.size];exact hb d (j d hd)) h;exact jD (λx a' w' ⟨h1,y,L⟩=>⟨h1,b.trans (y.mono j),L⟩) _ _ _ this
   rcases tX ar h with ⟨z,p⟩|⟨z,p⟩
   .simp only[wpList,z,if_true]
    exact .inl ((Ic ar p).wp next)
   .simp only[wpList,z,gb,if_false]
    exact next _ _ p
  cases l with
  |nil=>exact⟨rfl,.refl _ _,e,ar,h⟩
  |cons o rest=>
   cases as with
   |nil=>exact one o rest [] hb (by simpa only[gC] using h)
   |cons T as=>
    cases T with
    |run=>exact one o rest as hb (by simpa only[gC] using h)
    |tS ks=>exact S o rest ks as hb (by simpa only[gC] using h)
    |split m=>
     simp only[gC]at h;split at h
     .exact one o rest as hb (DB h False.elim)
     .rename_i s c f g hg hd
      obtain⟨M,N,h⟩:nB ops f e=true/\oE e (b3 (o::rest.take (m-1)))=true/\_:=by
       cases h1:nB ops f e<;>cases y:oE e (b3 (o::rest.take (m-1)))<;>rw[h1,y]at h<;>first|exact h.elim|exact⟨rfl,rfl,h⟩
      rw[AG o rest (m-1) hd]at hb⊢;have E:=AF hg;refine tV _ _ _ _ ?_;have A:∀k,k∈b3 (o::rest.take (m-1))->k∈b3 ((o::rest.take (m-1))++(f::g)):=λk b=>by
       simp only[b3,tA,cS];exact .inl b
      have q:∀k,k∈b3 (f::g)->k∈b3 ((o::rest.take (m-1))++(f::g)):=λk b=>by
       simp only[b3,tA,cS];exact .inr b
      have F:∀k,f.dst=some k->k∈b3 (f::g):=λk b=>by simp[b3,b]
      have j:∀k,k∈b3 g->k∈b3 (f::g):=λk b=>by
       simp only[b3,tz];split
       .exact b
       .exact lE _ b
      have fin:∀ (x:Exit) (a1:Act) (w1:I),hM a (b3 (o::rest.take (m-1)))
       (λe' w'=>match mi f e' with|some r=>gC P tk ops n g (as.drop m) K (dr f.dst (.bool r) e) w'|none=>False) x a1 w1->
       x=.normal/\wpList P ops (hM a (b3 ((o::rest.take (m-1))++(f::g))) K) (f::g) a1 w1:=by
       rintro x a1 w1 ⟨hx,t,J,Q,h⟩;refine⟨hx,?_⟩;have G:=AB ar N t;split at h
       .rename_i r p
        simp only[wpList,AE G M,if_true];left;unfold Oper.wp;rw[AD Q p w1];simp only[Oper.upon];have H:en (b3 (f::g)) a1 (a1.put f.dst (.bool r)):=en.put F;have:=C g (as.drop m) K (dr f.dst (.bool r) e) (a1.put f.dst (.bool r)) w1
         (G.put λk b=>by rw[t.size];exact hb k (q k (F k b)))
         (λd hd=>by rw[H.size,t.size];exact hb d (q d (j d hd))) h
        refine jD (λx a' w' ⟨aA,u,B⟩=>⟨aA,(t.mono A).trans ((H.mono q).trans (u.mono λk b=>q k (j k b))),B⟩) _ _ _ this
       .exact h.elim
      have h:=h.out
      cases c with
      |true=>
       have:=C _ _ _ _ a w (ar.lit E) (λd hd=>hb d (A d hd)) (h.1 rfl);exact jD fin _ _ _ this
      |false=>
       have:=C _ _ _ _ a w (ar.lit E) (λd hd=>hb d (A d hd)) (h.2 rfl);exact jD fin _ _ _ this
     .exact h.elim
    |pure m=>
     simp only[gC]at h;split at h
     .exact one o rest as hb (DB h False.elim)
     .rename_i s c f g hg hd
      split at h
      .rename_i aG aM h1 y
       split at h
       .rename_i r1 aR U V
        obtain⟨M,N,h⟩:nB ops f e=true/\oE e (b3 (o::rest.take (m-1)))=true/\_:=by
         cases aA:nB ops f e<;>cases u:oE e (b3 (o::rest.take (m-1)))<;>rw[aA,u]at h<;>first|exact h.elim|exact⟨rfl,rfl,h⟩
        rw[AG o rest (m-1) hd]at hb⊢;have E:=AF hg;refine tV _ _ _ _ ?_;have A:∀k,k∈b3 (o::rest.take (m-1))->k∈b3 ((o::rest.take (m-1))++(f::g)):=λk b=>by
         simp only[b3,tA,cS];exact .inl b
        have q:∀k,k∈b3 (f::g)->k∈b3 ((o::rest.take (m-1))++(f::g)):=λk b=>by
         simp only[b3,tA,cS];exact .inr b
        have F:∀k,f.dst=some k->k∈b3 (f::g):=λk b=>by simp[b3,b]
        have j:∀k,k∈b3 g->k∈b3 (f::g):=λk b=>by
         simp only[b3,tz];split
         .exact b
         .exact lE _ b
        have fin:∀ (J:Env) (r:aj) (a1:Act),en (b3 (o::rest.take (m-1))) a a1->dB J a1->mi f J=some r->r=cond c r1 aR->
         wpList P ops (hM a (b3 ((o::rest.take (m-1))++(f::g))) K) (f::g) a1 w:=by
         intro J r a1 t Q p W;have G:=AB ar N t;simp only[wpList,AE G M,if_true];left;unfold Oper.wp;rw[AD Q p w];simp only[Oper.upon];have H:en (b3 (f::g)) a1 (a1.put f.dst (.bool r)):=en.put F;have:=C g (as.drop m) K (dr f.dst (.bool (cond c r1 aR)) e) (a1.put f.dst (.bool r)) w
          (by rw[W];exact G.put λk b=>by rw[t.size];exact hb k (q k (F k b)))
          (λd hd=>by rw[H.size,t.size];exact hb d (q d (j d hd))) h
         refine jD (λx a' w' ⟨aA,u,B⟩=>⟨aA,(t.mono A).trans ((H.mono q).trans (u.mono λk b=>q k (j k b))),B⟩) _ _ _ this
        cases c with
        |true=>
         have:=DD n _ _ _ aG a w (ar.lit E) (λd hd=>hb d (A d hd)) h1;exact jD (λx a' w' ⟨aA,u,B,R⟩=>⟨aA,by subst R;exact fin aG r1 a' u B U rfl⟩) _ _ _ this
        |false=>
         have:=DD n _ _ _ aM a w (ar.lit E) (λd hd=>hb d (A d hd)) y;exact jD (λx a' w' ⟨aA,u,B,R⟩=>⟨aA,by subst R;exact fin aM aR a' u B V rfl⟩) _ _ _ this
       .exact h.elim
      .exact h.elim
     .exact h.elim
end
end aQ
namespace aQ
open Go
structure af(W:Nat->Prop)(w w':I):Prop where
 os:w'.os=w.os
 tape:w'.tape=w.tape
 output:w'.output=w.output
 size:w.heap.size<=w'.heap.size
 block:∀k,k<w.heap.size->¬W k->w'.heap[k]? =w.heap[k]?
theorem af.refl(W:Nat->Prop)(w:I):af W w w:=⟨rfl,rfl,rfl,ba _,λ_ _ _=>rfl⟩
theorem af.trans{W:Nat->Prop}{a b c:I}(h:af W a b)(k:af W b c):af W a c:=
 ⟨k.os.trans h.os,k.tape.trans h.tape,k.output.trans h.output,dQ h.size k.size,λi hi d=>(k.block i (fB hi h.size) d).trans (h.block i hi d)⟩
theorem af.mono{W V:Nat->Prop}{a b:I}(h:af W a b)(c:∀k,k<a.heap.size->W k->V k):af V a b:=
 ⟨h.os,h.tape,h.output,h.size,λi hi d=>h.block i hi λcU=>d (c i hi cU)⟩
theorem af.cell{W:Nat->Prop}{w w':I}(h:af W w w'){A:av}(cU:¬W A.block){v:Y}(a:w.cell? A=some v):w'.cell? A=some v:=by
 have hb:A.block<w.heap.size:=by
  rcases eF A.block w.heap.size with h1|h1
  .exact h1
  .simp[World.cell?,Array.getElem?_eq_none h1]at a
 unfold World.cell? at a⊢;rw[h.block _ hb cU];exact a
theorem af.aV{W:Nat->Prop}{w w':I}(h:af W w w'){A:av}(cU:¬W A.block):∀ (n i:Nat) (vs:O Y),aV w A i n=some vs->aV w' A i n=some vs
 |0,_,_,a=>a
 |n+1,i,vs,a=>by
  simp only[aQ.aV]at a⊢
  have c:(A.add i).block=A.block:=by unfold Addr.add;split<;>rfl
  cases h1:w.cell? (A.add i) with
  |none=>simp[h1]at a
  |some v=>
   cases b:aQ.aV w A (i+1) n with
   |none=>simp[h1,b]at a
   |some us=>
    simp only[h1,b]at a
    rw[h.cell (by rw[c];exact cU) h1,af.aV h cU n (i+1) us b]
    exact a
def gD{α:Type}:Sem α->Prop
 | .pure _=>True
 | .program k=>∀p,gD (k p)
 | .halt _=>True
 |_=>False
theorem gD.bind{α β:Type}:∀ {s:Sem α}{f:α->Sem β},gD s->(∀a,gD (f a))->gD (s>>=f)
 | .pure a,_,_,hf=>hf a
 | .program _,_,h,hf=> λp=>gD.bind (h p) hf
 | .halt _,_,_,_=>trivial
 | .load ..,_,h,_=>h.elim
 | .store ..,_,h,_=>h.elim
 | .new ..,_,h,_=>h.elim
 | .shape ..,_,h,_=>h.elim
 | .freeze ..,_,h,_=>h.elim
 | .frozen ..,_,h,_=>h.elim
 | .getObj ..,_,h,_=>h.elim
 | .setObj ..,_,h,_=>h.elim
 | .choose ..,_,h,_=>h.elim
 | .sys ..,_,h,_=>h.elim
 | .mark ..,_,h,_=>h.elim
theorem gD.run{α:Type}{P:Program}:∀ {s:Sem α}{w w':I}{v:α},gD s->s.run P w=.ok v w'->∀u,s.run P u=.ok v u
 | .pure a,w,w',v,_,h,u=>by
  simp only[Sem.run,Result.ok.injEq]at h⊢
  exact⟨h.1,trivial⟩
 | .program k,w,w',v,hf,h,u=>gD.run (hf P) h u
 | .halt _,w,w',v,_,h,_=>by simp[Sem.run]at h
 | .load ..,_,_,_,h,_,_=>h.elim
 | .store ..,_,_,_,h,_,_=>h.elim
 | .new ..,_,_,_,h,_,_=>h.elim
 | .shape ..,_,_,_,h,_,_=>h.elim
 | .freeze ..,_,_,_,h,_,_=>h.elim
 | .frozen ..,_,_,_,h,_,_=>h.elim
 | .getObj ..,_,_,_,h,_,_=>h.elim
 | .setObj ..,_,_,_,h,_,_=>h.elim
 | .choose ..,_,_,_,h,_,_=>h.elim
 | .sys ..,_,_,_,h,_,_=>h.elim
 | .mark ..,_,_,_,h,_,_=>h.elim
theorem DF:gD program:=λ_=>trivial
theorem DG(t:TypeId):gD (underlying t):=by
 unfold underlying;refine gD.bind DF λp=>?_;split<;>trivial
theorem Ii(t:TypeId):gD (typeInfo t):=by
 unfold typeInfo;refine gD.bind DF λp=>?_;split<;>trivial
theorem Ij(t:TypeId):gD (Go.sizeOf t):=gD.bind (Ii t) λ_=>trivial
theorem Ik(t:TypeId):gD (isAgg t):=by
 unfold isAgg;refine gD.bind (DG t) λd=>?_;split<;>trivial
theorem Il(t:TypeId)(cs:Array Y)(off:Nat):gD (part t cs off):=by
 unfold part;refine gD.bind (Ik t) λd=>?_;split
 .exact gD.bind (Ij t) λ_=>trivial
 .split<;>trivial
theorem Im(t:TypeId)(x:Y)(i:Nat):gD (Instr.field t x i):=by
 unfold Instr.field;refine gD.bind (DG t) λd=>?_;split
 .split
  .refine gD.bind ?_ λ_=>Il _ _ _
   unfold asAgg;split<;>trivial
  .trivial
 .trivial
def DH:Op->aj
 | .move _=>true
 | .assign _=>true
 | .pick _ _ _=>true
 | .field _ _ _=>true
 |_=>false
def tY(P:Program)(o:Oper)(K:Y->Prop)(e:Env)(w:I):Prop:=
 bif DH o.op&&known e o.op.operands then
  match (execOp (ro e) o).run P w with
  | .ok (.value v) _=>K v
  |_=>False
 else False
def rD(P:Program)(o:Oper)(K:Y->Prop)(e:Env):Prop:=
 match fu P o e with
 |some v=>K v
 |none=>False
def DI(P:Program)(T:TypeId)(x:Y)(i:Nat)(K:Y->Prop):Prop:=
 match P.underlying T with
 |some (.struct fs)=>match fs[i]? with
  |some f=>match x with
   | .pointer (some A)=>match P.underlying f.type with
    |some _=>bif Nat.beq (P.cellsOf f.type) 0 then False else K (.pointer (some (A.add f.offset)))
    |none=>False
   |_=>False
  |none=>False
 |_=>False
def DJ(x:Y)(i:Nat)(K:Y->Prop):Prop:=
 match x with
 | .tuple vs=>match vs[i]? with
  |some v=>K v
  |none=>False
 |_=>False
def kB(o:Oper):aj:=
 match o.op with
 | .load _ _=>true
 | .convert _ _ _=>true
 |_=>false
def mj:Nat->O Oper->Nat
 |_,[]=>0
 |i,o::l=>bif kB o then 2^i|||mj (i+1) l else mj (i+1) l
def AH(P:Program)(tk:TypeId->ec)(W:Nat->Prop)(w:I)(o:Oper)(K:Y->Prop)(e:Env):Prop:=
 match o.op with
 | .nilCheck x=>match ev e x with
  |some (.pointer p)=>∃A,p=some A/\K (.pointer (some A))
  |_=>False
 | .load T x=>match ev e x with
  |some (.pointer (some A))=>¬W A.block/\ry P tk T A w K
  |_=>False
 | .binOp op T x y _=>match ev e x,ev e y with
  |some a,some c=>bif rC y c then wk P op T a c K (rD P o K e) else False
  |_,_=>False
 | .indexAddr T x i=>match ev e x,ev e i with
  |some a,some b=>wu P T a b K
  |_,_=>False
 | .index T x i=>match ev e x,ev e i with
  |some a,some b=>wv P tk T a b K
  |_,_=>False
 | .field T x i=>match ev e x with
  |some a=>wx P tk T a i K
  |_=>False
 | .fieldAddr T x i=>match ev e x with
  |some a=>DI P T a i K
  |_=>False
 | .extract x i=>match ev e x with
  |some a=>DJ a i K
  |_=>False
 | .slice T x lo hi f=>bif known e o.op.operands then
  wy P T (ro e x) (lo.map (ro e)) (hi.map (ro e)) (f.map (ro e)) K
  else False
 | .convert s d x=>match ev e x with
  |some (.int _ _)=>rD P o K e
  |some v=>iT (tk o.type) λr=>(∀w',af W w w'->(convert s d v).run P w'=.ok r w')/\K r
  |none=>False
 | .build t ps=>bif known e o.op.operands then
  ∃cs:Array Y,(∀w',(Instr.build t (ps.map λp=>(p.1,ro e p.2))).run P w'=.ok (.agg cs) w')/\K (.agg cs)
  else False
 | .unOp _ _ _=>rD P o K e
 | .call _=>rD P o K e
 | .move _=>tY P o K e w
 | .assign _=>tY P o K e w
 | .pick _ _ _=>tY P o K e w
 | .sliceToArrayPointer T x=>match ev e x with
  |some a=>wq P T a K
  |_=>False
 |_=>False
section
variable {P:Program}{tk:TypeId->ec}{W:Nat->Prop}{o:Oper}{K:Y->Prop}{e:Env}{a:Act}{w:I}
theorem AI(ar:dB e a)(h:tY P o K e w):∃v,(∀w',(execOp a.eval o).run P w'=.ok (.value v) w')/\K v:=by
 unfold tY at h
 cases hf:DH o.op with
 |false=>rw[hf]at h;exact h.elim
 |true=>
  cases c:known e o.op.operands with
  |false=>rw[hf,c]at h;exact h.elim
  |true=>
   rw[hf,c]at h;simp only[Bool.and_self,cond_true]at h;have hc:=lJ ar (by cases b:o.op<;>rw[b]at hf<;>first|rfl|cases hf) c;rw[hc];split at h
   .rename_i v w' d
    refine⟨v,λu=>gD.run ?_ d u,h⟩
    cases b:o.op<;>rw[b]at hf<;>first|(cases hf;done)|skip
    .simp only[execOp,b];trivial
    .simp only[execOp,b];trivial
    .simp only[execOp,b]
     refine gD.bind ?_ λ_=>trivial;unfold asBool;split<;>trivial
    .simp only[execOp,b]
     exact gD.bind (Im _ _ _) λ_=>trivial
   .exact h.elim
theorem wB(ar:dB e a)(h:rD P o K e):∃v,(∀w',(execOp a.eval o).run P w'=.ok (.value v) w')/\K v:=by
 unfold rD at h;split at h
 .rename_i v b
  exact⟨v,DC ar b,h⟩
 .exact h.elim
theorem Io(ar:dB e a)(h:AH P tk W w o K e):∃v,(∀w',(kB o=true->af W w w')->(execOp a.eval o).run P w'=.ok (.value v) w')/\K v:=by
 have bG:(∃v,(∀w',(execOp a.eval o).run P w'=.ok (.value v) w')/\K v)->∃v,(∀w',(kB o=true->af W w w')->(execOp a.eval o).run P w'=.ok (.value v) w')/\K v:=
  λ⟨v,h1,D⟩=>⟨v,λw' _=>h1 w',D⟩
 unfold AH at h;split at h
 case h_1 x b=>
  split at h
  .rename_i p hx
   obtain⟨A,rfl,g⟩:=h;exact⟨_,λw' _=>by simp[execOp,b,ar.ev hx],g⟩
  .exact h.elim
 case h_2 T x b=>
  split at h
  .rename_i A hx
   obtain⟨cU,h⟩:=h;have key:∃v,(∀w',af W w w'->(Instr.loadAt T (.pointer (some A))).run P w'=.ok v w')/\K v:=by
    have aG:∀w',(Instr.loadAt T (.pointer (some A))).run P w'=(loadVar T A).run P w':=λw'=>by simp[Instr.loadAt,Instr.sureAddr]
    unfold ry at h;split at h
    .exact h.elim
    .rename_i d m
     cases hd:hK d with
     |true=>
      rw[hd]at h;simp only[cond_true]at h;split at h
      .rename_i ls _
       by_cases hb:Nat.beq (P.cellsOf T) ls.length=true
       .rw[hb]at h
        simp only[cond_true]at h;obtain⟨vs,z,h⟩:=Az h;rw[←ja hb]at z;exact⟨_,λw' hc=>by rw[aG,wj m hd (hc.aV cU _ _ _ z)],h⟩
       .simp only[gk]at hb;rw[hb]at h;exact h.elim
      .obtain⟨cs,E,h⟩:=h
       exact⟨_,λw' hc=>by rw[aG,wj m hd (hc.aV cU _ _ _ E)],h⟩
     |false=>
      rw[hd]at h;simp only[cond_false]at h;split at h
      .obtain⟨v,j,h⟩:=ru h
       exact⟨v,λw' hc=>by rw[aG,Dh m hd (hc.cell cU j)],h⟩
      .exact h.elim
   obtain⟨v,j,g⟩:=key;exact⟨v,λw' hc=>by simp[execOp,b,ar.ev hx,j w' (hc (by unfold kB;rw[b]))],g⟩
  .exact h.elim
 case h_3 op T x y J b=>
  split at h
  .rename_i l B hx F
   by_cases n:rC y B=true
   .rw[n]at h
    simp only[cond_true]at h;have G:B=.nilIface->∃c,y=.const c:=by
     intro j;subst j
     cases y<;>simp[rC]at n⊢
    rcases Dn (jA:=x) (rB:=y) G h with hg|⟨v,j,g⟩
    .exact bG (wB ar hg)
    .exact⟨v,λw' _=>by
      simp only[execOp,b,ar.ev hx,ar.ev F];have C:=j w';simp only[Sem.run_bind]at C⊢;rw[C];rfl,g⟩
   .simp only[gk]at n;rw[n]at h;exact h.elim
  .exact h.elim
 case h_4 T x i b=>
  split at h
  .rename_i l H hx hi
   obtain⟨v,j,g⟩:=Dq h;exact⟨v,λw' _=>by simp[execOp,b,ar.ev hx,ar.ev hi,j],g⟩
  .exact h.elim
 case h_5 T x i b=>
  split at h
  .rename_i l H hx hi
   obtain⟨v,j,g⟩:=Ds h;exact⟨v,λw' _=>by simp[execOp,b,ar.ev hx,ar.ev hi,j],g⟩
  .exact h.elim
 case h_6 T x i b=>
  split at h
  .rename_i l hx
   obtain⟨v,j,g⟩:=Dt h;exact⟨v,λw' _=>by simp[execOp,b,ar.ev hx,j],g⟩
  .exact h.elim
 case h_7 T x i b=>
  split at h
  .rename_i l hx
   unfold DI at h;split at h
   .rename_i fs m
    split at h
    .rename_i f hf
     split at h
     .rename_i A
      split at h
      .rename_i d hd
       cases q:Nat.beq (P.cellsOf f.type) 0 with
       |true=>rw[q]at h;exact h.elim
       |false=>
        rw[q]at h;have I:¬P.cellsOf f.type=0:=λh0=>by rw[h0]at q;cases q
        exact⟨_,λw' _=>by simp[execOp,b,ar.ev hx,Instr.fieldAt,db m,hf,Instr.sureAddr,fieldPlace,iq hd,I],h⟩
      .exact h.elim
     .exact h.elim
    .exact h.elim
   .exact h.elim
  .exact h.elim
 case h_8 x i b=>
  split at h
  .rename_i l hx
   unfold DJ at h;split at h
   .rename_i vs
    split at h
    .rename_i v j
     exact⟨v,λw' _=>by simp[execOp,b,ar.ev hx,Instr.extract,j],h⟩
    .exact h.elim
   .exact h.elim
  .exact h.elim
 case h_9 T x lo hi L b=>
  by_cases k:known e o.op.operands=true
  .rw[k]at h
   simp only[cond_true]at h;have hc:=lJ ar (by rw[b];rfl) k;obtain⟨v,j,g⟩:=Du h;exact⟨v,λw' _=>by rw[hc];simp[execOp,b,j],g⟩
  .simp only[gk]at k;rw[k]at h;exact h.elim
 case h_10 s d x b=>
  split at h
  .exact bG (wB ar h)
  .rename_i v _ hx
   obtain⟨r,u,g⟩:=je h;exact⟨r,λw' hc=>by simp[execOp,b,ar.ev hx,u w' (hc (by unfold kB;rw[b]))],g⟩
  .exact h.elim
 case h_11 t ps b=>
  by_cases k:known e o.op.operands=true
  .rw[k]at h
   simp only[cond_true]at h;have hc:=lJ ar (by rw[b];rfl) k;obtain⟨cs,u,g⟩:=h;exact⟨_,λw' _=>by rw[hc];simp[execOp,b];rw[u];rfl,g⟩
  .simp only[gk]at k;rw[k]at h;exact h.elim
 case h_12=>exact bG (wB ar h)
 case h_13=>exact bG (wB ar h)
 case h_14=>exact bG (AI ar h)
 case h_15=>exact bG (AI ar h)
 case h_16=>exact bG (AI ar h)
 case h_17 T x b=>
  split at h
  .rename_i l hx
   obtain⟨v,j,g⟩:=Dp h;exact⟨v,λw' _=>by simp[execOp,b,ar.ev hx,j],g⟩
  .exact h.elim
 case h_18=>exact h.elim
end
inductive a7 where
 |take (i:Nat) (t:a7)
 |bu (i:Nat) (t:a7)
 |out (i:Nat) (b:aj) (t:a7)
 |two (i:Nat) (t:a7) (j:Nat) (u:a7)
 |three (i:Nat) (t:a7) (j:Nat) (u:a7) (k:Nat) (v:a7)
 |sp (s:Nat) (t u:a7)
 |fin
 |tail (as:O lK)
def iU:O Nat->Nat
 | []=>0
 |d::l=>2^d|||iU l
theorem nC:∀ (l:O Nat) (k:Nat),(iU l).testBit k=decide (k∈l)
 | [],k=>by simp[iU]
 |d::l,k=>by
  simp only[iU,ot,nC l k,tB]
  by_cases h:d=k
  .subst h;simp
  .have:¬k=d:=λa=>h a.symm
   simp[h,this]
def oF(o:Oper):O Nat:=(o.after.toList.filter λe=>Region.binds .any e).map (·.on)
structure lL where
 M:O Nat
 A:O Nat
def lM(l:O Nat)(i:Nat):Nat:=l.getD i 0
def lN(cj:lL)(m i:Nat):aj:= !(m.testBit i)&&Nat.beq (lM cj.M i&&&m) (lM cj.M i)
def DK(cj:lL)(N m i:Nat):aj:=Nat.beq (lM cj.A i&&&((2^N-1)^^^m)) 0
def ml(cj:lL)(m:Nat)(is:O Nat):Nat->aj
 |0=>true
 |k+1=>(is.any (Nat.beq k)|| !(lN cj m k))&&ml cj m is k
def tZ(cj:lL):Nat->O Oper->aj
 |_,[]=>true
 |i,o::l=>Nat.beq (iU (oF o)) (lM cj.M i)&&tZ cj (i+1) l
def t_(M:O Nat)(a i b c:Nat):Nat->O Nat->O Nat->O Nat->aj
 |j,e::f,d::g,h::k=>(a.testBit j||(Nat.beq i j||(e.testBit i||(Nat.beq (b&&&(h|||d)) 0&&Nat.beq (d&&&c) 0))))&&t_ M a i b c (j+1) f g k
 |_,_,_,_=>true
def wC(cj:lL)(D K:O Nat):Nat->O Nat->O Nat->aj
 |i,d::a,k::b=>t_ cj.M (lM cj.A i) i d k 0 cj.M D K&&wC cj D K (i+1) a b
 |_,_,_=>true
def DL(ops:O Oper):O Nat:=ops.map λo=>iU o.dst.toList
def DM(a:Array Oper)(ops:O Oper):O Nat:=ops.map λo=>iU (o.looksAt a)
def ua:O Nat->O Nat->aj
 | [],[]=>true
 |a::l,b::r=>Nat.beq a b&&ua l r
 |_,_=>false
theorem AJ:∀ {l r:O Nat},ua l r=true->l=r
 | [],[],_=>rfl
 |a::l,b::r,h=>by
  simp only[ua,dH]at h
  rw[ja h.1,AJ h.2]
def mZ(cj:lL)(D K:O Nat)(a:Array Oper):aj:=
 Nat.beq cj.M.length a.size&&(tZ cj 0 a.toList&&(ua (DL a.toList) D&&(ua (DM a a.toList) K&&wC cj D K 0 D K)))
def uc(cj:lL):Nat->Nat->Nat->Nat->aj
 |0,_,N,m=>ml cj m [] N
 |g+1,k,N,m=>(lN cj m k&&ml cj m [k] N)&&uc cj g (k+1) N (m|||2^k)
def ef(P:Program)(tk:TypeId->ec)(ops:Array Oper)(n:Nat)(cj:lL)(W:Nat->Prop):a7->Nat->Nat->(Env->I->Prop)->Env->I->Prop
 | .take i t,f+1,m,K,e,w=>
  bif lN cj m i&&(DK cj ops.size m i&&Nat.blt i n) then
   match ops[i]? with
   |some o=>ia ops o e (AH P tk W w o (λv=>ef P tk ops n cj W t f (m|||2^i) K (dr o.dst v e) w) e) (ef P tk ops n cj W t f (m|||2^i) K (dr o.dst undef e) w)
   |none=>False
  else False
 | .bu i t,f+1,m,K,e,w=>
  bif (lN cj m i&&ml cj m [i] ops.size)&&Nat.blt i n then
   match ops[i]? with
   |some o=>ia ops o e (kA P tk o (λv w'=>af W w w'/\ef P tk ops n cj W t f (m|||2^i) K (dr o.dst v e) w') e w) (ef P tk ops n cj W t f (m|||2^i) K (dr o.dst undef e) w)
   |none=>False
  else False
 | .out i b t,f+1,m,K,e,w=>
  bif (lN cj m i&&ml cj m [i] ops.size)&&(Nat.blt i n&&Nat.beq ((mj 0 ops.toList&&&m)&&&lM cj.M i) (mj 0 ops.toList&&&m)) then
   match ops[i]? with
   |some o=>ia ops o e (kA P tk o (λv w'=>bif b then ∃V:Nat->Prop,ef P tk ops n cj V t f (m|||2^i) K (dr o.dst v e) w' else ef P tk ops n cj W t f (m|||2^i) K (dr o.dst v e) w') e w) (ef P tk ops n cj W t f (m|||2^i) K (dr o.dst undef e) w)
   |none=>False
  else False
 | .two i t j u,f+1,m,K,e,w=>
  bif (lN cj m i&&ml cj m [i,j] ops.size)&&(Nat.blt i n&&Nat.blt j n) then
   match ops[i]?,ops[j]? with
   |some o,some q=>
    ia ops o e (kA P tk o (λv w'=>af W w w'/\ef P tk ops n cj W t f (m|||2^i) K (dr o.dst v e) w') e w) (ef P tk ops n cj W t f (m|||2^i) K (dr o.dst undef e) w)/\
    ia ops q e (kA P tk q (λv w'=>af W w w'/\ef P tk ops n cj W u f (m|||2^j) K (dr q.dst v e) w') e w) (ef P tk ops n cj W u f (m|||2^j) K (dr q.dst undef e) w)
   |_,_=>False
  else False
 | .three i t j u k x,f+1,m,K,e,w=>
  bif (lN cj m i&&ml cj m [i,j,k] ops.size)&&(Nat.blt i n&&(Nat.blt j n&&Nat.blt k n)) then
   match ops[i]?,ops[j]?,ops[k]? with
   |some o,some q,some r=>
    ia ops o e (kA P tk o (λv w'=>af W w w'/\ef P tk ops n cj W t f (m|||2^i) K (dr o.dst v e) w') e w) (ef P tk ops n cj W t f (m|||2^i) K (dr o.dst undef e) w)/\
    ia ops q e (kA P tk q (λv w'=>af W w w'/\ef P tk ops n cj W u f (m|||2^j) K (dr q.dst v e) w') e w) (ef P tk ops n cj W u f (m|||2^j) K (dr q.dst undef e) w)/\
    ia ops r e (kA P tk r (λv w'=>af W w w'/\ef P tk ops n cj W x f (m|||2^k) K (dr r.dst v e) w') e w) (ef P tk ops n cj W x f (m|||2^k) K (dr r.dst undef e) w)
   |_,_,_=>False
  else False
 | .sp s t u,f,m,K,e,w=>
  match e.get s with
  |some (.bool c)=>(c=true->ef P tk ops n cj W t f m K ((s,.bool true)::e) w)/\(c=false->ef P tk ops n cj W u f m K ((s,.bool false)::e) w)
  |_=>False
 | .fin,0,m,K,e,w=>bif ml cj m [] ops.size&&Nat.beq n ops.size then K e w else False
 | .tail as,0,m,K,e,w=>bif uc cj (ops.size-n) n ops.size m&&Nat.blt n ops.size then gC P tk ops (ops.size-n+1) (ops.toList.drop n) as K e w else False
 |_,_,_,_,_,_=>False
def eT(N m:Nat):Array aj:=(Array.range N).map λi=>m.testBit i
theorem rE{N m i:Nat}{d:aj}(h:i<N):(eT N m).getD i d=m.testBit i:=by
 simp[eT,h]
theorem Ip{N m i:Nat}{d:aj}(h:N<=i):(eT N m).getD i d=d:=by
 simp[eT,h]
theorem wD(N m i:Nat):(eT N m).setIfInBounds i true=eT N (m|||2^i):=by
 apply Array.ext
 .simp[eT]
 .intro j h1 b
  have c:j<N:=by simpa[eT] using b
  have d:j<(eT N m).size:=by simpa[eT] using c
  rw[Array.getElem_setIfInBounds d];simp only[eT,Array.getElem_map,Array.getElem_range,ot,tB];by_cases a:i=j
  .subst a;simp
  .simp[a]
theorem DN(N:Nat):eT N 0=Array.replicate N false:=by
 apply Array.ext
 .simp[eT]
 .intro j h1 a
  simp[eT]
section
variable {ops:Array Oper}{cj:lL}{D K:O Nat}
theorem DO:∀ (l:O Oper) (i k:Nat) (o:Oper),tZ cj i l=true->l[k]? =some o->lM cj.M (i+k)=iU (oF o)
 | [],_,_,_,_,h=>by simp at h
 |p::l,i,0,o,hc,h=>by
  simp only[tZ,dH]at hc
  simp only[ou,Option.some.injEq]at h
  subst h
  exact(ja hc.1).symm
 |p::l,i,k+1,o,hc,h=>by
  simp only[tZ,dH]at hc
  have:=DO l (i+1) k o hc.2 (by simpa using h)
  rw[show i+(k+1)=i+1+k from J]
  exact this
theorem wE(h:mZ cj D K ops=true){i:Nat}{o:Oper}(a:ops[i]? =some o):lM cj.M i=iU (oF o):=by
 simp only[mZ,dH]at h;have:=DO ops.toList 0 i o h.2.1 (by simpa using a);simpa using this
theorem DP{a b:Nat}(h:a&&&b=a){k:Nat}(c:a.testBit k=true):b.testBit k=true:=by
 have:=congrArg (λx=>x.testBit k) h;simp only[Nat.testBit_and,c,jb]at this;exact this
theorem DQ:∀ (l:O Oper) (i k:Nat) (o:Oper),l[k]? =some o->(mj i l).testBit (i+k)=kB o
 | [],_,_,_,h=>by simp at h
 |p::l,i,0,o,h=>by
  simp only[ou,Option.some.injEq]at h
  subst h
  have low:∀ (l:O Oper) (i k:Nat),k<i->(mj i l).testBit k=false:=by
   intro l
   induction l with
   |nil=>intro i k _;simp[mj]
   |cons q l a=>
    intro i k b;simp only[mj]
    cases kB q
    .exact a (i+1) k J
    .simp only[cond_true,ot,tB,a (i+1) k J,Bool.or_false,lF]
     omega
  simp only[mj,kT]
  cases kB p
  .exact low l (i+1) i J
  .simp[ot]
 |p::l,i,k+1,o,h=>by
  have:=DQ l (i+1) k o (by simpa using h);rw[show i+1+k=i+(k+1) from J]at this;simp only[mj]
  cases kB p
  .exact this
  .simp only[cond_true,ot,tB,this]
   simp
theorem wF{o:Oper}{k:Nat}:k∈oF o↔∃e∈o.after,Region.binds .any e=true/\e.on=k:=by
 simp only[oF,ew,hY,Array.mem_toList_iff];constructor
 .rintro⟨e,⟨h1,a⟩,b⟩;exact⟨e,h1,a,b⟩
 .rintro⟨e,h1,a,b⟩;exact⟨e,⟨h1,a⟩,b⟩
def Small(N m:Nat):Prop:=∀k,N<=k->m.testBit k=false
theorem Iq(N:Nat):Small N 0:=λk _=>by simp
theorem wG{N m i:Nat}(h:Small N m)(hi:i<N):Small N (m|||2^i):=λk a=>by
 simp only[ot,h k a,tB,nu,lF]
 omega
theorem wH(hc:mZ cj D K ops=true){m i:Nat}(hm:Small ops.size m):i∈Region.ready .any ops (eT ops.size m)↔i<ops.size/\lN cj m i=true:=by
 rw[mem_ready];constructor
 .rintro⟨h1,o,b,f⟩
  have hi:i<ops.size:=(l_.1 b).1;refine⟨hi,?_⟩;rw[rE hi]at h1;simp only[lN,h1,Bool.not_false,jb];rw[wE hc b];have:iU (oF o)&&&m=iU (oF o):=by
   apply Nat.eq_of_testBit_eq;intro k;simp only[Nat.testBit_and,nC];by_cases c:k∈oF o
   .obtain⟨e,he,hb,g⟩:=wF.1 c
    have a:=f e he hb;rw[g]at a;rcases eF k ops.size with aJ|j
    .rw[rE aJ]at a;simp[c,a]
    .rw[Ip j]at a;cases a
   .simp[c]
  rw[this];exact Nat.beq_refl _
 .rintro⟨hi,h⟩
  simp only[lN,dH,kr]at h;have b:ops[i]? =some ops[i]:=by simp[hi]
  refine⟨by rw[rE hi];exact h.1,ops[i],b,λe he hb=>?_⟩;have a:=ja h.2;rw[wE hc b]at a;have d:m.testBit e.on=true:=DP a (by
   rw[nC];simp only[cX];exact wF.2 ⟨e,he,hb,rfl⟩)
  have aJ:e.on<ops.size:=by
   rcases eF e.on ops.size with h|h
   .exact h
   .rw[hm _ h]at d;cases d
  rw[rE aJ];exact d
theorem DR:∀ (N:Nat) {m:Nat}{is:O Nat},ml cj m is N=true->∀k,k<N->lN cj m k=true->k∈is
 |0,_,_,_,k,c,_=>by omega
 |N+1,m,is,h,k,c,b=>by
  simp only[ml,dH,jX,kr]at h
  rcases eF k N with h1|h1
  .exact DR N h.2 k h1 b
  .have:k=N:=by omega
   subst this
   rcases h.1 with a|a
   .obtain⟨x,hx,hb⟩:=ov.1 a
    rw[ja hb];exact hx
   .rw[b]at a;cases a
theorem pN(hc:mZ cj D K ops=true){m:Nat}{is:O Nat}(hm:Small ops.size m)(h:ml cj m is ops.size=true):
 ∀k∈Region.ready .any ops (eT ops.size m),k∈is:=λk a=>
 let ⟨h1,b⟩:=(wH hc hm).1 a
 DR _ h k h1 b
theorem DS:∀ (b c d:O Nat) (n:O Nat) (e i f g j k:Nat) (l a m:Nat),t_ n e i f g j b c d=true->b[k]? =some l->c[k]? =some a->d[k]? =some m->
 e.testBit (j+k)=true\/i=j+k\/l.testBit i=true\/(f&&&(m|||a)=0/\a&&&g=0)
 | [],_,_,_,_,_,_,_,_,_,_,_,_,_,h,_,_=>by simp at h
 |_::_,[],_,_,_,_,_,_,_,_,_,_,_,_,_,h,_=>by simp at h
 |_::_,_::_,[],_,_,_,_,_,_,_,_,_,_,_,_,_,h=>by simp at h
 |q::b,r::c,s::d,n,e,i,f,g,j,k,l,a,m,hc,h1,o,p=>by
  simp only[t_,dH,jX]at hc
  cases k with
  |zero=>
   simp only[ou,Option.some.injEq]at h1 o p
   subst h1 o p
   rcases hc.1 with h|h|h|h
   .exact .inl h
   .exact .inr (.inl (ja h))
   .exact .inr (.inr (.inl h))
   .exact .inr (.inr (.inr ⟨ja h.1,ja h.2⟩))
  |succ k=>
   have:=DS b c d n e i f g (j+1) k l a m hc.2 (by simpa using h1) (by simpa using o) (by simpa using p)
   rw[show j+(k+1)=j+1+k from J]
   exact this
theorem DT:∀ (a b:O Nat) (i k:Nat) (c e:Nat),wC cj D K i a b=true->a[k]? =some c->b[k]? =some e->
 t_ cj.M (lM cj.A (i+k)) (i+k) c e 0 cj.M D K=true
 | [],_,_,_,_,_,_,h,_=>by simp at h
 |_::_,[],_,_,_,_,_,_,h=>by simp at h
 |d::a,g::b,i,k,c,e,hc,h1,f=>by
  simp only[wC,dH]at hc
  cases k with
  |zero=>
   simp only[ou,Option.some.injEq]at h1 f
   subst h1 f
   exact hc.1
  |succ k=>
   have:=DT a b (i+1) k c e hc.2 (by simpa using h1) (by simpa using f)
   rw[show i+(k+1)=i+1+k from J]
   exact this
theorem AK{a b:Nat}(h:a&&&b=0){k:Nat}(c:a.testBit k=true):b.testBit k=false:=by
 have:=congrArg (λx=>x.testBit k) h;simp only[Nat.testBit_and,c,jb,Nat.zero_testBit]at this;exact this
theorem Ir{x y:Oper}(h1:iU x.dst.toList&&&(iU (y.looksAt ops)|||iU y.dst.toList)=0)(b:iU y.dst.toList&&&iU (x.looksAt ops)=0):
 x.apart ops y=true:=by
 unfold Oper.apart;simp only[dH];refine⟨?_,?_⟩
 .cases hx:x.dst with
  |none=>rfl
  |some d=>
   rw[hx]at h1;have a:=AK h1 (k:=d) (by rw[nC];simp);simp only[ot,nC,q8,lF]at a;simp only[dH,kr,bne_iff_ne,ne_eq];refine⟨by simpa using a.1,λh=>?_⟩;rw[h]at a;simp at a
 .cases c:y.dst with
  |none=>rfl
  |some d=>
   rw[c]at b;have a:=AK b (k:=d) (by rw[nC];simp);simp only[nC,lF]at a;simpa using a
theorem Is(hc:mZ cj D K ops=true){m i:Nat}{d:Oper}(hi:ops[i]? =some d)(h:DK cj ops.size m i=true):
 ∀j a,ops[j]? =some a->j≠i->(eT ops.size m).getD j true=false->(∀e∈a.after,Region.binds .any e=true->e.on≠i)->d.apart ops a=true:=by
 intro j a b p f q;have r:=hc;simp only[mZ,dH]at hc;obtain⟨hlen,B,s,t,ar⟩:=hc;have C:=ja hlen;have u:=AJ s;have v:=AJ t;have g:j<ops.size:=(l_.1 b).1;have l:∀ {k:Nat}{o:Oper},ops[k]? =some o->D[k]? =some (iU o.dst.toList):=λ{k o} c=>by
  rw[←u];simp[DL,c]
 have n:∀ {k:Nat}{o:Oper},ops[k]? =some o->K[k]? =some (iU (o.looksAt ops)):=λ{k o} c=>by
  rw[←v];simp[DM,c]
 have w:=DT D K 0 i _ _ ar (l hi) (n hi);have x:cj.M[j]? =some (lM cj.M j):=by
  unfold lM;have:j<cj.M.length:=by omega
  simp[List.getD,this]
 have:=DS cj.M D K cj.M _ _ _ _ 0 j _ _ _ w x (l b) (n b);simp only[cz]at this;rcases this with h1|h1|h1|h1
 .exfalso
  have y:=ja h;have z:=AK y h1;rw[rE g]at f;simp[Nat.testBit_xor,Nat.testBit_two_pow_sub_one,g,f]at z
 .exact absurd h1.symm p
 .exfalso
  rw[wE r b,nC]at h1;simp only[cX]at h1;obtain⟨e,he,hb,A⟩:=wF.1 h1;exact q e he hb A
 .exact Ir h1.1 h1.2
end
def pO(ops:Array Oper)(listed:Array aj)(j:Nat):Prop:=
 ∀k ok a,ops[k]? =some ok->ops[j]? =some a->kB ok=true->listed.getD k false=true->∃e∈a.after,Region.binds .any e=true/\e.on=k
def m0(P:Program)(ops:Array Oper)(Q:Exit->Act->I->Prop)(n:Nat)(L:Array aj->Act->I->Prop):Nat->(I->Prop)->Array aj->Act->I->Prop
 |0,_,listed,a,w=>L listed a w
 |f+1,S,listed,a,w=>Region.ready .any ops listed≠ []/\
  ∀i∈Region.ready .any ops listed,i<n/\wpOp P ops Q i (λa' w'=>∃aP:I->Prop,((∀x,aP x->S x)\/pO ops listed i)/\aP w'/\m0 P ops Q n L f aP (listed.setIfInBounds i true) a' w') a w
def ud(ops:Array Oper)(n:Nat):Prop:=
 ∀listed,HeadInv .any ops n listed->∀i,i<n->listed.getD i true=false->∀t,n<=t->t∉Region.ready .any ops listed
theorem It(ops:Array Oper):ud ops ops.size:=by
 intro listed _ i _ _ t ht a;obtain⟨_,o,b,_⟩:=mem_ready.1 a;have:=(l_.1 b).1;omega
theorem Iu{ops:Array Oper}{n:Nat}(hs:Region.sinkB .any ops n=true)(hc:Region.chainB .any ops n=true)(a:n<ops.size):ud ops n:=
 λ_ inv i hi b t ht=>tail_waits hs hc a inv _ i rfl hi b t ht
section
variable {P:Program}{ops:Array Oper}{Q:Exit->Act->I->Prop}{n:Nat}{L:Array aj->Act->I->Prop}
theorem YieldsIf.mono{S aP:I->Prop}{o:Oper}{v:Y}{a:Act}(h:YieldsIf P ops S o v a)(hs:∀x,aP x->S x):YieldsIf P ops aP o v a:=
 h.imp (λ⟨h1,b⟩=>⟨h1,λw c=>b w (hs w c)⟩) id
theorem Iv(D:ud ops n){i:Nat}{l:Oper}{v:Y}(hi:ops[i]? =some l)(E:∀ (j:Nat) (o:Oper) cs b,ops[j]? =some o->o.op≠ .select cs b)
 (aa:∀c a w,Q (.panic c) (a.put l.dst v) w->Q (.panic c) a w) (F:i<n) (ab:∀listed a w,L listed a w->∀j∈Region.ready .any ops listed,n<=j):
 ∀ (f:Nat) (S T:I->Prop) (listed:Array aj) (a:Act) (w:I),(∀x,S x->T x)->(kB l=true\/∀x,T x)->HeadInv .any ops n listed->
  (∀j q,ops[j]? =some q->j≠i->listed.getD j true=false->(∀e∈q.after,Region.binds .any e=true->e.on≠i)->l.apart ops q=true)->
  i∈Region.ready .any ops listed->YieldsIf P ops T l v a->S w->
  m0 P ops Q n L f S (listed.setIfInBounds i true) (a.put l.dst v) w->m0 P ops Q n L (f+1) S listed a w:=by
 intro f
 induction f with
 |zero=>
  intro S T listed a w u G inv _ m y s H;have d:=(mem_ready.1 m).1;refine⟨λh=>(by rw[h]at m;cases m),λj r=>?_⟩;have t:j<n:=by
   rcases eF j n with h|h
   .exact h
   .exact absurd r (D listed inv i F d j h)
  refine⟨t,?_⟩;by_cases p:j=i
  .subst p;exact(YieldsIf.mono y u).wpOp hi s ⟨S,.inl λ_ h=>h,s,H⟩
  .have:=ab _ _ _ H j (ready_mono r p)
   omega
 |succ f J=>
  intro S T listed a w u G inv K m y s H;have d:=(mem_ready.1 m).1;refine⟨λh=>(by rw[h]at m;cases m),λj r=>?_⟩;have t:j<n:=by
   rcases eF j n with h|h
   .exact h
   .exact absurd r (D listed inv i F d j h)
  refine⟨t,?_⟩;by_cases p:j=i
  .subst p;exact(YieldsIf.mono y u).wpOp hi s ⟨S,.inl λ_ h=>h,s,H⟩
  .have h1:=(H.2 j (ready_mono r p)).2
   obtain⟨M,q,z,ac⟩:=mem_ready.1 r;have N:∀e∈q.after,Region.binds .any e=true->e.on≠i:=λe he hb ad=>by
    have h1:=ac e he hb;rw[ad,getD_both d]at h1
    cases h1
   have ae:=wpOp_putIf z (K j q z p M N) (λcs b=>E i l cs b hi) (λcs b=>E j q cs b z) aa y h1;have O:∀k ok,ops[k]? =some ok->k≠i->(listed.setIfInBounds j true).getD k true=false->
    (∀e∈ok.after,Region.binds .any e=true->e.on≠i)->l.apart ops ok=true:=λk ok B af d ag=>by
    refine K k ok B af ?_ ag;by_cases R:j=k
    .subst R;exact M
    .rw[getD_set_ne true R]at d;exact d
   refine wpOp_mono (λa' w' ah=>?_) ae;obtain⟨U,aP,V,A,ai⟩:=ah;have C:=ai;rw[←Array.setIfInBounds_comm _ _ p]at C;have ak:pO ops (listed.setIfInBounds i true) j->pO ops listed j:=λal k ok am B an hs g=>al k ok am B an hs (by
    by_cases W:i=k
    .subst W
     have:listed.getD i true=true:=by
      simp only[Array.getD]at g⊢;split at g
      .rename_i aJ;simp[aJ]at g⊢;exact g
      .cases g
     rw[this]at d;cases d
    .simp only[Array.getD,Array.size_setIfInBounds]at g⊢
     split at g
     .rename_i aJ
      simp only[aJ,dif_pos];simp only[Array.getInternal_eq_getElem]at g⊢;rw[Array.getElem_setIfInBounds_ne _ W];exact g
     .cases g)
   rcases G with hs|X
   .have Z:∀x,aP x->S x:=by
     rcases V with h|h
     .exact h
     .exfalso
      obtain⟨e,he,hb,ao⟩:=h i l q hi z hs (by
       have aJ:i<listed.size:=by
        rcases eF i listed.size with h|h
        .exact h
        .simp[Array.getD,Nat.not_lt.2 h]at d
       simp[Array.getD,aJ])
      exact N e he hb ao
    exact⟨aP,.inl Z,A,J aP T (listed.setIfInBounds j true) a' w' (λx hx=>u x (Z x hx)) (.inl hs) (inv.set r t) O (ready_mono m (Ne.symm p)) U A C⟩
   .exact⟨aP,V.imp id ak,A,J aP T (listed.setIfInBounds j true) a' w' (λx _=>X x) (.inr X) (inv.set r t) O (ready_mono m (Ne.symm p)) U A C⟩
theorem DU{g:Nat}(b:∀listed a w,L listed a w->wpAny P .any ops Q g listed a w):
 ∀ (f:Nat) (S:I->Prop) (listed:Array aj) (a:Act) (w:I),m0 P ops Q n L f S listed a w->wpAny P .any ops Q (f+g) listed a w
 |0,_,listed,a,w,h=>by rw[cz];exact b _ _ _ h
 |f+1,S,listed,a,w,h=>by
  rw[show f+1+g=(f+g)+1 from J]
  exact⟨λh0=>absurd h0 h.1,λi hi=>wpOp_mono (λa' w' ⟨aP,_,_,c⟩=>DU b f aP _ a' w' c) (h.2 i hi).2⟩
def LE(P:Program)(ops:Array Oper)(Q:Exit->Act->I->Prop)(n:Nat)(listed:Array aj)(a:Act)(w:I):Prop:=
 (Region.ready .any ops listed=[]/\n=ops.size/\Q .normal a w)\/
 (Region.seqB .any ops (ops.size-n) n listed=true/\n<ops.size/\wpList P ops Q (ops.toList.drop n) a w)
theorem Iw:∀listed a w,LE P ops Q n listed a w->∀j∈Region.ready .any ops listed,n<=j:=by
 rintro listed a w (⟨h,_,_⟩|⟨h,c,_⟩) j b
 .rw[h]at b;cases b
 .exact seqB_ready h j b
theorem Ix:∀listed a w,LE P ops Q n listed a w->wpAny P .any ops Q (ops.size-n) listed a w:=by
 rintro listed a w (⟨h,c,b⟩|⟨h,c,b⟩)
 .subst c
  rw[q9];exact⟨h,b⟩
 .have:=wpAny_of_seq (md:=.any) (P:=P) (Q':=Q) (ops.toList.drop n) n listed a w (λj=>by simp[vT]) (by simpa using h) b
  simpa using this
end
section
variable {P:Program}{tk:TypeId->ec}{ops:Array Oper}{n:Nat}{cj:lL}{D0 ez:O Nat}{W:Nat->Prop}
theorem DV(hc:mZ cj D0 ez ops=true):∀ (g k m:Nat),Small ops.size m->k+g=ops.size->uc cj g k ops.size m=true->Region.seqB .any ops g k (eT ops.size m)=true
 |0,k,m,hm,d,h=>by
  simp only[uc]at h
  simp only[Region.seqB,List.isEmpty_iff]
  cases e:Region.ready .any ops (eT ops.size m) with
  |nil=>rfl
  |cons x l=>
   have:=pN hc hm h x (by rw[e];simp)
   cases this
 |g+1,k,m,hm,d,h=>by
  simp only[uc,dH]at h
  simp only[Region.seqB,dH,cX]
  have c:k<ops.size:=by omega
  have b:k∈Region.ready .any ops (eT ops.size m):=(wH hc hm).2 ⟨c,h.1.1⟩
  refine⟨?_,?_⟩
  .have a:=pN hc hm h.1.2
   have eY:(Region.ready .any ops (eT ops.size m)).Nodup:=by
    unfold Region.ready;exact List.Pairwise.filter _ List.nodup_range
   revert b a eY
   generalize Region.ready .any ops (eT ops.size m)=l;intro b a eY
   match l,b,a,eY with
   | [],b,_,_=>cases b
   | [x],b,a,_=>rw[ej.1 (a x (by simp))]
   |x::y::l,_,a,eY=>
    have hx:=ej.1 (a x (by simp));have f:=ej.1 (a y (by simp));simp[hx,f]at eY
  .rw[wD]
   exact DV hc g (k+1) (m|||2^k) (wG hm c) J h.2
theorem Iy(hc:mZ cj D0 ez ops=true)(al:ud ops n)(aE:n<=ops.size)(am:Region.noSelect ops=true){z:Act}(hb:∀d∈b3 ops.toList,d<z.tmps.size):
 ∀ (t:a7) (W:Nat->Prop) (f:Nat) (m:Nat) (K:Env->I->Prop) (e:Env) (a:Act) (w:I),dB e a->en (b3 ops.toList) z a->Small ops.size m->HeadInv .any ops n (eT ops.size m)->
  ef P tk ops n cj W t f m K e w->m0 P ops (hM z (b3 ops.toList) K) n (LE P ops (hM z (b3 ops.toList) K) n) f (af W w) (eT ops.size m) a w:=by
 intro t;have Q:∀ (i:Nat) (o:Oper),ops[i]? =some o->∀k,o.dst=some k->k∈b3 ops.toList:=by
  intro i o p k g;simp only[b3,List.mem_filterMap];exact⟨o,by simpa using Array.mem_of_getElem? p,g⟩
 have R:∀ (W:Nat->Prop) (t:a7),(∀ (W:Nat->Prop) (f:Nat) (m:Nat) (K:Env->I->Prop) (e:Env) (a:Act) (w:I),dB e a->en (b3 ops.toList) z a->Small ops.size m->HeadInv .any ops n (eT ops.size m)->
  ef P tk ops n cj W t f m K e w->m0 P ops (hM z (b3 ops.toList) K) n (LE P ops (hM z (b3 ops.toList) K) n) f (af W w) (eT ops.size m) a w)->
  ∀ (f:Nat) (m:Nat) (K:Env->I->Prop) (e:Env) (a:Act) (w:I) (i:Nat) (o:Oper),dB e a->en (b3 ops.toList) z a->Small ops.size m->HeadInv .any ops n (eT ops.size m)->
  i∈Region.ready .any ops (eT ops.size m)->i<n->ops[i]? =some o->
  ia ops o e (kA P tk o (λv w'=>af W w w'/\ef P tk ops n cj W t f (m|||2^i) K (dr o.dst v e) w') e w) (ef P tk ops n cj W t f (m|||2^i) K (dr o.dst undef e) w)->
  wpOp P ops (hM z (b3 ops.toList) K) i (λa' w'=>∃aP:I->Prop,((∀x,aP x->af W w x)\/pO ops (eT ops.size m) i)/\aP w'/\m0 P ops (hM z (b3 ops.toList) K) n (LE P ops (hM z (b3 ops.toList) K) n) f aP ((eT ops.size m).setIfInBounds i true) a' w') a w:=by
  intro W t O f m K e a w i o ar g hm inv S L p h;have next:∀ (v:Y) (w':I),af W w w'->ef P tk ops n cj W t f (m|||2^i) K (dr o.dst v e) w'->
   ∃aP:I->Prop,((∀x,aP x->af W w x)\/pO ops (eT ops.size m) i)/\aP w'/\m0 P ops (hM z (b3 ops.toList) K) n (LE P ops (hM z (b3 ops.toList) K) n) f aP ((eT ops.size m).setIfInBounds i true) (a.put o.dst v) w':=by
   intro v w' an h;have A:en (b3 ops.toList) a (a.put o.dst v):=en.put (Q i o p);have hinv:=inv.set S L;rw[wD]at hinv⊢;exact⟨af W w',.inl λx hx=>an.trans hx,.refl _ _,O W f _ K _ _ w' (ar.put λk U=>by rw[g.size];exact hb k (Q i o p k U)) (g.trans A) (wG hm J) hinv h⟩
  unfold wpOp;simp only[p];rcases tX ar h with ⟨G,H⟩|⟨G,H⟩
  .simp only[G,if_true]
   exact .inl ((wz ar H).wp λv w' ⟨h1,F⟩=>next v w' h1 F)
  .simp only[G,gb,if_false]
   exact next _ _ (.refl _ _) H
 have ad:∀ {b c d:aj}{X:Prop},(bif b&&(c&&d) then X else False)->b=true/\c=true/\d=true/\X:=by
  intro b c d X h
  cases b<;>cases c<;>cases d<;>first|exact h.elim|exact⟨rfl,rfl,rfl,h⟩
 have ag:∀ {b c:aj}{X:Prop},(bif b&&c then X else False)->b=true/\c=true/\X:=by
  intro b c X h
  cases b<;>cases c<;>first|exact h.elim|exact⟨rfl,rfl,h⟩
 have B:∀ {i j:Nat},Nat.blt i j=true->i<j:=λh=>by
  have:=ow h;omega
 have ne_nil:∀ {m i:Nat},Small ops.size m->lN cj m i=true->i<ops.size->Region.ready .any ops (eT ops.size m)≠ []:=λhm h hi h0=>by
  have:=(wH hc hm).2 ⟨hi,h⟩;rw[h0]at this;cases this
 induction t with
 |take i t O=>
  intro W f m K e a w ar g hm inv h
  cases f with
  |zero=>simp[ef]at h
  |succ f=>
   simp only[ef]at h;obtain⟨h1,F,D,h⟩:=ad h;have L:=B D;have S:i∈Region.ready .any ops (eT ops.size m):=(wH hc hm).2 ⟨J,h1⟩;split at h
   .rename_i o p
    have fin:∀v,YieldsIf P ops (λx=>kB o=true->af W w x) o v a->ef P tk ops n cj W t f (m|||2^i) K (dr o.dst v e) w->
     m0 P ops (hM z (b3 ops.toList) K) n (LE P ops (hM z (b3 ops.toList) K) n) (f+1) (af W w) (eT ops.size m) a w:=by
     intro v ao h;have A:en (b3 ops.toList) a (a.put o.dst v):=en.put (Q i o p);refine Iv al p (Region.noSelect_spec am) (λc a w Z=>by cases Z.1) L Iw f (af W w) (λx=>kB o=true->af W w x) _ a w (λ_ h _=>h) (by cases hs:kB o<;>simp) inv (Is hc p F) S ao (.refl _ _) ?_;have hinv:=inv.set S L;rw[wD]at hinv⊢;exact O W f _ K _ _ w (ar.put λk U=>by rw[g.size];exact hb k (Q i o p k U)) (g.trans A) (wG hm J) hinv h
    rcases tX ar h with ⟨G,H⟩|⟨G,H⟩
    .obtain⟨v,ap,aq⟩:=Io ar H
     exact fin v (.inl ⟨G,λw' hc=>ap w' hc⟩) aq
    .exact fin undef (.inr ⟨G,rfl⟩) H
   .exact h.elim
 |bu i t O=>
  intro W f m K e a w ar g hm inv h
  cases f with
  |zero=>simp[ef]at h
  |succ f=>
   simp only[ef]at h;obtain⟨C,D,h⟩:=ag h;simp only[dH]at C;have L:=B D;split at h
   .rename_i o p
    refine⟨ne_nil hm C.1 J,λj aa=>?_⟩;have ah:j=i:=by simpa using pN hc hm C.2 j aa
    subst ah;exact⟨L,R W t O f m K e a w j o ar g hm inv aa L p h⟩
   .exact h.elim
 |out i b t O=>
  intro W f m K e a w ar g hm inv h
  cases f with
  |zero=>simp[ef]at h
  |succ f=>
   simp only[ef]at h;obtain⟨C,D,N,h⟩:=ad h;simp only[dH]at C;have L:=B D;have N:=ja N;split at h
   .rename_i o p
    refine⟨ne_nil hm C.1 J,λj aa=>?_⟩;have ah:j=i:=by simpa using pN hc hm C.2 j aa
    subst ah;refine⟨L,?_⟩;have au:pO ops (eT ops.size m) j:=by
     intro k ok aF A av hs ai;have aw:k<ops.size:=(l_.1 A).1;rw[rE aw]at ai;have ax:(mj 0 ops.toList&&&m).testBit k=true:=by
      rw[Nat.testBit_and,ai,Bool.and_true];exact(DQ ops.toList 0 k ok (by simpa using A)).trans hs|>(by simpa using ·)
     have T:(lM cj.M j).testBit k=true:=DP N ax;rw[wE hc av,nC]at T;simp only[cX]at T;exact wF.1 T
    have next:∀ (v:Y) (w':I) (V:Nat->Prop),ef P tk ops n cj V t f (m|||2^j) K (dr o.dst v e) w'->
     ∃aP:I->Prop,((∀x,aP x->af W w x)\/pO ops (eT ops.size m) j)/\aP w'/\m0 P ops (hM z (b3 ops.toList) K) n (LE P ops (hM z (b3 ops.toList) K) n) f aP ((eT ops.size m).setIfInBounds j true) (a.put o.dst v) w':=by
     intro v w' V h;have A:en (b3 ops.toList) a (a.put o.dst v):=en.put (Q j o p);have hinv:=inv.set aa L;rw[wD]at hinv⊢;exact⟨af V w',.inr au,.refl _ _,O V f _ K _ _ w' (ar.put λk U=>by rw[g.size];exact hb k (Q j o p k U)) (g.trans A) (wG hm J) hinv h⟩
    unfold wpOp;simp only[p];rcases tX ar h with ⟨G,H⟩|⟨G,H⟩
    .simp only[G,if_true]
     refine .inl ((wz ar H).wp λv w' F=>?_)
     cases b with
     |true=>
      obtain⟨V,F⟩:=F;exact next v w' V F
     |false=>exact next v w' W F
    .simp only[G,gb,if_false]
     exact next _ _ W H
   .exact h.elim
 |two i t j u ab ac=>
  intro W f m K e a w ar g hm inv h
  cases f with
  |zero=>simp[ef]at h
  |succ f=>
   simp only[ef]at h;obtain⟨C,D,N,h⟩:=ad h;simp only[dH]at C;have hi:=B D;split at h
   .rename_i o q p Z
    refine⟨ne_nil hm C.1 J,λk A=>?_⟩;have E:k=i\/k=j:=by simpa using pN hc hm C.2 k A
    rcases E with E|E
    .subst E
     exact⟨B D,R W t ab f m K e a w k o ar g hm inv A (B D) p h.1⟩
    .subst E
     exact⟨B N,R W u ac f m K e a w k q ar g hm inv A (B N) Z h.2⟩
   .exact h.elim
 |three i t j u k x ab ac ay=>
  intro W f m K e a w ar g hm inv h
  cases f with
  |zero=>simp[ef]at h
  |succ f=>
   simp only[ef]at h;obtain⟨C,D,az,h⟩:=ad (d:=_) h;obtain⟨N,T⟩:Nat.blt j n=true/\Nat.blt k n=true:=by simpa using az
   simp only[dH]at C;have hi:=B D;split at h
   .rename_i o q r p Z aB
    refine⟨ne_nil hm C.1 J,λy A=>?_⟩;have E:y=i\/y=j\/y=k:=by simpa using pN hc hm C.2 y A
    rcases E with E|E|E
    .subst E
     exact⟨B D,R W t ab f m K e a w y o ar g hm inv A (B D) p h.1⟩
    .subst E
     exact⟨B N,R W u ac f m K e a w y q ar g hm inv A (B N) Z h.2.1⟩
    .subst E
     exact⟨B T,R W x ay f m K e a w y r ar g hm inv A (B T) aB h.2.2⟩
   .exact h.elim
 |sp s t u ab ac=>
  intro W f m K e a w ar g hm inv h;have ae:match e.get s with
   |some (.bool c)=>(c=true->ef P tk ops n cj W t f m K ((s,.bool true)::e) w)/\(c=false->ef P tk ops n cj W u f m K ((s,.bool false)::e) w)
   |_=>False:=by cases f<;>simpa only[ef] using h
  split at ae
  .rename_i c hs
   cases c with
   |true=>exact ab W f m K _ a w (ar.lit hs) g hm inv (ae.1 rfl)
   |false=>exact ac W f m K _ a w (ar.lit hs) g hm inv (ae.2 rfl)
  .exact ae.elim
 |fin=>
  intro W f m K e a w ar g hm inv h
  cases f with
  |succ f=>simp[ef]at h
  |zero=>
   simp only[ef]at h;obtain⟨h1,F,h⟩:=ag h;refine .inl ⟨?_,ja F,rfl,g,e,ar,h⟩
   cases S:Region.ready .any ops (eT ops.size m) with
   |nil=>rfl
   |cons x l=>
    have:=pN hc hm h1 x (by rw[S];simp)
    cases this
 |tail as=>
  intro W f m K e a w ar g hm inv h
  cases f with
  |succ f=>simp[ef]at h
  |zero=>
   simp only[ef]at h;obtain⟨h1,F,h⟩:=ag h;have ak:∀k,k∈b3 (ops.toList.drop n)->k∈b3 ops.toList:=λk g=>by
    simp only[b3,List.mem_filterMap]at g⊢;obtain⟨o,p,g⟩:=g;exact⟨o,gK p,g⟩
   have:=DE _ _ _ K e a w ar (λd hd=>by rw[g.size];exact hb d (ak d hd)) h;exact .inr ⟨DV hc _ _ _ hm J h1,B F,jD (λx a' w' ⟨aA,aC,aD⟩=>⟨aA,g.trans (aC.mono ak),aD⟩) _ _ _ this⟩
theorem Iz(ops:Array Oper)(n:Nat):HeadInv .any ops n (Array.replicate ops.size false):=
 ⟨by simp,λj b _ a=>(by rw[getD_replicate_false]at a;cases a),λt _ ht=>getD_in (by simpa using ht) (getD_replicate_false _ _)⟩
def AL(P:Program)(tk:TypeId->ec)(ops:Array Oper)(n:Nat)(a:aj)(cj:lL)(D0 ez:O Nat)(t:a7)(K:Env->I->Prop)(e:Env)(w:I):Prop:=
 bif (Region.noSelect ops&&mZ cj D0 ez ops)&&(bif Nat.beq n ops.size then true else Nat.blt n ops.size&&(Region.sinkB .any ops n&&Region.chainB .any ops n)) then
  bif a then
   an w.drew λw1=>∃W:Nat->Prop,ef P tk ops n cj W t n 0 K e w1
  else an w.drew λw1=>ef P tk ops n cj (λ_=>False) t n 0 K e w1
 else False
theorem IA{id:Nat}{f:aj}{t:a7}{K:Env->I->Prop}{e:Env}{a:Act}{w:I}(hm:P.follows .mixedOrders=true)
 (ar:dB e a) (hb:∀d∈b3 ops.toList,d<a.tmps.size) (h:AL P tk ops n f cj D0 ez t K e w):
 (Code.region id ops true).wp P (hM a (b3 ops.toList) K) a w:=by
 unfold AL at h
 cases h0:(Region.noSelect ops&&mZ cj D0 ez ops) with
 |false=>rw[h0]at h;exact h.elim
 |true=>
  rw[h0]at h;simp only[jb]at h;simp only[dH]at h0;obtain⟨h1,hc⟩:=h0
  cases b:(bif Nat.beq n ops.size then true else Nat.blt n ops.size&&(Region.sinkB .any ops n&&Region.chainB .any ops n)) with
  |false=>rw[b]at h;exact h.elim
  |true=>
   rw[b]at h;simp only[cond_true]at h;have i:ud ops n:=by
    cases c:Nat.beq n ops.size with
    |true=>rw[ja c];exact It ops
    |false=>
     rw[c]at b;simp only[cond_false,dH]at b;refine Iu b.2.1 b.2.2 ?_;have:=ow b.1;omega
   have j:n<=ops.size:=by
    cases c:Nat.beq n ops.size with
    |true=>rw[ja c];exact ba _
    |false=>
     rw[c]at b;simp only[cond_false,dH]at b;have:=ow b.1;omega
   have key:∀W,ef P tk ops n cj W t n 0 K e w.drew->(Code.region id ops true).wp P (hM a (b3 ops.toList) K) a w:=by
    intro W h;refine wp_region_any hm ?_;have g:=Iy hc i j h1 hb t W n 0 K e a w.drew ar (.refl _ _) (Iq _) (by rw[DN];exact Iz ops n) h;rw[DN]at g;have:=DU Ix _ _ _ _ _ g;rw[show n+(ops.size-n)=ops.size from J]at this;exact this
   cases f with
   |true=>obtain⟨W,h⟩:=h;exact key W h
   |false=>exact key _ h
end
end aQ
namespace aQ
open Go
inductive aD where
 |leaf
 |pP (as:O lK)
 |wI (n:Nat) (c:aj) (cj:lL) (D0 ez:O Nat) (t:a7)
 |seq (a b:aD)
 |cond (a b:aD)
 |bj (a:aD)
 |loop (live:O (Nat×c4)) (e4:O Nat) (a:aD)
 |eC (live:O (Nat×c4)) (e4:O Nat) (a:aD)
def g6:O (Nat×c4)->Type
 | []=>I->Prop
 |(_,l)::r=>l.T->g6 r
def oG:O (Nat×c4)->Type
 | []=>I->Nat
 |(_,l)::r=>l.T->oG r
def rF(l:c4)(v:aq Y)(K:l.T->Prop):Prop:=
 match l,v with
 | .int k,some (.int d n)=>bif k1 k d then K n else False
 | .bool,some (.bool b)=>K b
 | .str,some (.string s)=>K s
 | .ptr,some (.pointer p)=>K p
 | .slice,some (.slice a n c)=>K ⟨a,n,c⟩
 | .map,some (.map r)=>K r
 | .agg,some (.agg cs)=>K cs
 | .fn,some (.func (.func f) a b)=>K ⟨f,a,b⟩
 | .any,some v=>K v
 |_,_=>False
def g6.app:(live:O (Nat×c4))->g6 live->(Nat->aq Y)->I->Prop
 | [],k,_,w=>k w
 |(s,l)::r,k,g,w=>rF l (g s) λx=>g6.app r (k x) g w
def g6.lam:(live:O (Nat×c4))->(Env->I->Prop)->g6 live
 | [],F=> λw=>F [] w
 |(s,l)::r,F=> λx=>g6.lam r λe w=>F ((s,l.v x)::e) w
def AM:(live:O (Nat×c4))->g6 live->oG live->(Env->Nat->I->Prop)->Prop
 | [],a,b,F=>∀w,a w->F [] (b w) w
 |(s,l)::r,a,b,F=>∀x:l.T,AM r (a x) (b x) λe m w=>F ((s,l.v x)::e) m w
def AN:(live:O (Nat×c4))->g6 live->oG live->Nat->(Nat->aq Y)->I->Prop
 | [],a,b,m,_,w=>a w/\b w<m
 |(s,l)::r,a,b,m,g,w=>rF l (g s) λx=>AN r (a x) (b x) m g w
def j2:(live:O (Nat×c4))->oG live->(Nat->aq Y)->I->Nat
 | [],d,_,w=>d w
 |(s,l)::r,d,g,w=>
  match l,g s,d with
  | .int _,some (.int _ n),d=>j2 r (d n) g w
  | .bool,some (.bool b),d=>j2 r (d b) g w
  | .str,some (.string b),d=>j2 r (d b) g w
  | .ptr,some (.pointer b),d=>j2 r (d b) g w
  | .slice,some (.slice a n c),d=>j2 r (d (ae.mk a n c)) g w
  | .map,some (.map b),d=>j2 r (d b) g w
  | .agg,some (.agg b),d=>j2 r (d b) g w
  | .fn,some (.func (.func f) a b),d=>j2 r (d (kz.mk f a b)) g w
  | .any,some v,d=>j2 r (d v) g w
  |_,_,_=>0
def writes:Code->O Nat
 | .region _ ops _=>b3 ops.toList
 | .seq a b=>writes a++writes b
 | .cond _ a b=>writes a++writes b
 | .block _ a=>writes a
 | .loop a=>writes a
 | .scope a=>writes a
 |_=> []
def ue(e4 ws:O Nat):aj:=e4.all λs=> !(ws.any λd=>Nat.beq d s)
def pQ(e:Env):O Nat->Env
 | []=> []
 |s::ks=>match e.get s with
  |some v=>(s,v)::pQ e ks
  |none=>pQ e ks
def rG:Env->Env->Env
 | [],f=>f
 |p::e,f=>p::rG e f
def D(P:Program)(tk:TypeId->ec):aD->Code->(Exit->Env->I->Prop)->Env->I->Prop
 | .leaf,c,K,e,w=>
  match c with
  | .skip=>K .normal e w
  | .label _=>K .normal e w
  | .exit id=>K (.exit id) e w
  | .ret=>K .ret e w
  |_=>False
 | .pP as,c,K,e,w=>
  match c with
  | .region _ ops false=>gC P tk ops (ops.size+1) ops.toList as (λe' w'=>K .normal e' w') e w
  |_=>False
 | .wI n he cj D0 ez t,c,K,e,w=>
  match c with
  | .region _ ops true=>AL P tk ops n he cj D0 ez t (λe' w'=>K .normal e' w') e w
  |_=>False
 | .seq A B,c,K,e,w=>
  match c with
  | .seq a b=>D P tk A a (λx e' w'=>match x with| .normal=>D P tk B b K e' w'|x=>K x e' w') e w
  |_=>False
 | .cond A B,c,K,e,w=>
  match c with
  | .cond o x y=>match ev e o with
   |some (.bool b)=>(b=true->D P tk A x K e w)/\(b=false->D P tk B y K e w)
   |_=>False
  |_=>False
 | .bj A,c,K,e,w=>
  match c with
  | .block id b=>D P tk A b (λx e' w'=>match x with| .exit g=>bif Nat.beq g id then K .normal e' w' else K (.exit g) e' w'|x=>K x e' w') e w
  | .scope b=>D P tk A b (λx e' w'=>match x with| .goto _=>False|x=>K x e' w') e w
  |_=>False
 | .loop live e4 A,c,K,e,w=>
  match c with
  | .loop b=>bif ue e4 (writes b) then
   ∃ (d:g6 live) (h:oG live),g6.app live d e.get w/\
    AM live d h λf m w'=>D P tk A b (λx e' i=>match x with| .normal=>AN live d h m e'.get i|x=>K x e' i) (rG f (pQ e e4)) w'
   else False
  |_=>False
 | .eC live e4 A,c,K,e,w=>
  bif ue e4 (writes c) then
   a_ (λk:g6 live=>D P tk A c (λx e' w'=>match x with| .normal=>g6.app live k e'.get w'|x=>K x e' w') e w)
    (g6.lam live λf w'=>K .normal (rG f (pQ e e4)) w')
  else False
def IB(a:Act)(ds:O Nat)(K:Exit->Env->I->Prop)(x:Exit)(a':Act)(w':I):Prop:=
 en ds a a'/\∃e',dB e' a'/\K x e' w'
def Sub(e:Env)(g:Nat->aq Y):Prop:=∀s v,e.get s=some v->g s=some v
theorem Sub.cons{e:Env}{g:Nat->aq Y}{s:Nat}{v:Y}(h:Sub e g)(hs:g s=some v):Sub ((s,v)::e) g:=by
 intro t u ht;rw[pJ]at ht;by_cases a:s=t
 .subst a;rw[if_pos rfl]at ht;rw[hs];exact ht
 .rw[if_neg a]at ht;exact h t u ht
theorem Sub.nil{g:Nat->aq Y}:Sub [] g:=λ_ _ h=>by cases h
theorem wJ{l:c4}{v:aq Y}{K:l.T->Prop}(h:rF l v K):∃x:l.T,v=some (l.v x)/\K x:=by
 unfold rF at h;split at h
 .rename_i k b n K
  by_cases a:k=b
  .subst a
   simp only[k1,decide_true,cond_true]at h;exact⟨n,rfl,h⟩
  .simp[k1,a]at h
 all_goals first
  |exact⟨_,rfl,h⟩
  |exact h.elim
theorem DW{l:c4}{v:aq Y}{K:l.T->Prop}{x:l.T}(a:v=some (l.v x))(h:K x):rF l v K:=by
 subst a
 cases l<;>simp only[rF,c4.v,k1,decide_true,cond_true]<;>exact h
theorem DX{s:Nat}{l:c4}{r:O (Nat×c4)}{a:oG ((s,l)::r)}{g:Nat->aq Y}{w:I}{x:l.T}(b:g s=some (l.v x)):
 j2 ((s,l)::r) a g w=j2 r (a x) g w:=by
 cases l<;>simp only[j2,b,c4.v]<;>rfl
theorem DY:∀ {live:O (Nat×c4)}{F:Env->I->Prop}{g:Nat->aq Y}{w:I},g6.app live (g6.lam live F) g w->∃a,Sub a g/\F a w
 | [],F,g,w,h=>⟨[],Sub.nil,h⟩
 |(s,l)::r,F,g,w,h=>by
  obtain⟨x,b,h⟩:=wJ h
  obtain⟨a,hs,h⟩:=DY h
  exact⟨(s,l.v x)::a,hs.cons b,h⟩
theorem DZ:∀ {live:O (Nat×c4)}{a:g6 live}{g g':Nat->aq Y}{w:I},(∀s v,g s=some v->g' s=some v)->g6.app live a g w->g6.app live a g' w
 | [],_,_,_,_,_,h=>h
 |(s,l)::r,a,g,g',w,hg,h=>by
  obtain⟨x,b,h⟩:=wJ h
  exact DW (hg _ _ b) (DZ hg h)
theorem D1:∀ {live:O (Nat×c4)}{b:g6 live}{c:oG live}{F:Env->Nat->I->Prop}{g:Nat->aq Y}{w:I},
 AM live b c F->g6.app live b g w->∃d,Sub d g/\F d (j2 live c g w) w
 | [],b,c,F,g,w,h,a=>⟨[],Sub.nil,h w a⟩
 |(s,l)::r,b,c,F,g,w,h,a=>by
  obtain⟨x,e,a⟩:=wJ a
  obtain⟨d,hs,h⟩:=D1 (h x) a
  exact⟨(s,l.v x)::d,hs.cons e,by rw[DX e];exact h⟩
theorem D2:∀ {live:O (Nat×c4)}{a:g6 live}{b:oG live}{m:Nat}{g g':Nat->aq Y}{w:I},
 (∀s v,g s=some v->g' s=some v)->AN live a b m g w->g6.app live a g' w/\j2 live b g' w<m
 | [],_,_,_,_,_,_,_,h=>h
 |(s,l)::r,a,b,m,g,g',w,hg,h=>by
  obtain⟨x,c,h⟩:=wJ h
  obtain⟨h1,d⟩:=D2 hg h
  exact⟨DW (hg _ _ c) h1,by rw[DX (hg _ _ c)];exact d⟩
theorem D3:∀ {e f:Env}{s:Nat}{v:Y},(rG e f).get s=some v->e.get s=some v\/f.get s=some v
 | [],_,_,_,h=>.inr h
 |(k,u)::e,f,s,v,h=>by
  simp only[rG]at h
  rw[pJ]at h⊢
  by_cases a:k=s
  .rw[if_pos a]at h⊢;exact .inl h
  .rw[if_neg a]at h⊢;exact D3 h
theorem AO{e:Env}:∀ {ks:O Nat}{s:Nat}{v:Y},(pQ e ks).get s=some v->s∈ks/\e.get s=some v
 | [],_,_,h=>by cases h
 |k::ks,s,v,h=>by
  simp only[pQ]at h
  split at h
  .rename_i u hu
   rw[pJ]at h
   by_cases a:k=s
   .rw[if_pos a]at h
    subst a
    exact⟨by simp,by rw[hu];exact h⟩
   .rw[if_neg a]at h
    have:=AO h
    exact⟨by simp[this.1],this.2⟩
  .have:=AO h
   exact⟨by simp[this.1],this.2⟩
theorem D4{e b:Env}{a a':Act}{e4 ws:O Nat}(ar:dB e a)(d:en ws a a')(f:ue e4 ws=true)(hs:Sub b λs=>a'.tmps[s]?):
 dB (rG b (pQ e e4)) a':=by
 constructor;intro s v h;rcases D3 h with h|h
 .exact hs s v h
 .obtain⟨h1,g⟩:=AO h
  have c:=q6.1 f s h1;simp only[kr,q7]at c;rw[d.same s λhm=>c s hm (Nat.beq_refl s)];exact ar.get s v g
section
variable {P:Program}{tk:TypeId->ec}
theorem j3{c:Code}{Q Q':Exit->Act->I->Prop}{a:Act}{w:I}(h:c.wp P Q a w)(b:∀e a w,Q e a w->Q' e a w):c.wp P Q' a w:=wp_mono h b
theorem wK(hm:P.follows .mixedOrders=true):∀ (A:aD) (c:Code) (K:Exit->Env->I->Prop) (e:Env) (a:Act) (w:I),dB e a->(∀d∈writes c,d<a.tmps.size)->
 D P tk A c K e w->c.wp P (IB a (writes c) K) a w:=by
 intro A
 induction A with
 |leaf=>
  intro c K e a w ar hb h;simp only[D]at h;split at h
  .exact wp_skip ⟨.refl _ _,e,ar,h⟩
  .exact wp_label ⟨.refl _ _,e,ar,h⟩
  .exact wp_exit ⟨.refl _ _,e,ar,h⟩
  .exact wp_ret ⟨.refl _ _,e,ar,h⟩
  .exact h.elim
 |pP as=>
  intro c K e a w ar hb h;simp only[D]at h;split at h
  .rename_i id ops
   have:=DE _ _ _ _ e a w ar hb h;refine wp_region_list (jD ?_ _ _ _ this);rintro x a' w' ⟨rfl,f,e',u,z⟩;exact⟨f,e',u,z⟩
  .exact h.elim
 |wI n he cj D0 ez t=>
  intro c K e a w ar hb h;simp only[D]at h;split at h
  .rename_i id ops
   refine j3 (IA hm ar hb h) ?_;rintro x a' w' ⟨rfl,f,e',u,z⟩;exact⟨f,e',u,z⟩
  .exact h.elim
 |seq A B C E=>
  intro c K e a w ar hb h;simp only[D]at h;split at h
  .rename_i x y
   have hx:∀d,d∈writes x->d∈writes (.seq x y):=λd hd=>by simp[writes,hd]
   have q:∀d,d∈writes y->d∈writes (.seq x y):=λd hd=>by simp[writes,hd]
   refine wp_seq (j3 (C x _ e a w ar (λd hd=>hb d (hx d hd)) h) ?_);rintro ex a1 w1 ⟨f,aG,g,h1⟩
   cases ex with
   |normal=>
    refine j3 (E y K aG a1 w1 g (λd hd=>by rw[f.size];exact hb d (q d hd)) h1) ?_;rintro ex a2 ag ⟨i,aM,j,k⟩;exact⟨(f.mono hx).trans (i.mono q),aM,j,k⟩
   |exit id=>exact⟨f.mono hx,aG,g,h1⟩
   |goto l=>exact⟨f.mono hx,aG,g,h1⟩
   |ret=>exact⟨f.mono hx,aG,g,h1⟩
   |panic r=>exact⟨f.mono hx,aG,g,h1⟩
   |outgrown=>exact⟨f.mono hx,aG,g,h1⟩
  .exact h.elim
 |cond A B C E=>
  intro c K e a w ar hb h;simp only[D]at h;split at h
  .rename_i o x y
   have hx:∀d,d∈writes x->d∈writes (.cond o x y):=λd hd=>by simp[writes,hd]
   have q:∀d,d∈writes y->d∈writes (.cond o x y):=λd hd=>by simp[writes,hd]
   split at h
   .rename_i b L
    refine wp_cond_split (ar.ev L) (λF=>?_) (λF=>?_)
    .refine j3 (C x K e a w ar (λd hd=>hb d (hx d hd)) (h.1 F)) ?_
     rintro ex a2 ag ⟨i,aM,j,k⟩;exact⟨i.mono hx,aM,j,k⟩
    .refine j3 (E y K e a w ar (λd hd=>hb d (q d hd)) (h.2 F)) ?_
     rintro ex a2 ag ⟨i,aM,j,k⟩;exact⟨i.mono q,aM,j,k⟩
   .exact h.elim
  .exact h.elim
 |bj A p=>
  intro c K e a w ar hb h;simp only[D]at h;split at h
  .rename_i id b
   refine wp_block (j3 (p b _ e a w ar hb h) ?_);rintro ex a1 w1 ⟨f,aG,g,h1⟩
   cases ex with
   |exit G=>
    simp only[Exit.inBlock];by_cases H:G=id
    .subst H
     simp only[Nat.beq_refl,cond_true]at h1;rw[if_pos rfl];exact⟨f,aG,g,h1⟩
    .have:Nat.beq G id=false:=by
      cases M:Nat.beq G id
      .rfl
      .exact absurd (ja M) H
     simp only[this,cond_false]at h1;rw[if_neg H];exact⟨f,aG,g,h1⟩
   |normal=>exact⟨f,aG,g,h1⟩
   |goto l=>exact⟨f,aG,g,h1⟩
   |ret=>exact⟨f,aG,g,h1⟩
   |panic r=>exact⟨f,aG,g,h1⟩
   |outgrown=>exact⟨f,aG,g,h1⟩
  .rename_i b
   refine wp_scope_straight (j3 (p b _ e a w ar hb h) ?_);rintro ex a1 w1 ⟨f,aG,g,h1⟩
   cases ex with
   |goto l=>exact h1.elim
   |normal=>exact⟨f,aG,g,h1⟩
   |exit id=>exact⟨f,aG,g,h1⟩
   |ret=>exact⟨f,aG,g,h1⟩
   |panic r=>exact⟨f,aG,g,h1⟩
   |outgrown=>exact⟨f,aG,g,h1⟩
  .exact h.elim
 |loop live e4 A p=>
  intro c K e a w ar hb h;simp only[D]at h;split at h
  .rename_i b
   cases m:ue e4 (writes b) with
   |false=>rw[m]at h;exact h.elim
   |true=>
    rw[m]at h;obtain⟨N,O,h0,Q⟩:=h;refine wp_loop (λa' w'=>en (writes b) a a'/\g6.app live N (λs=>a'.tmps[s]?) w') (λa' w'=>j2 live O (λs=>a'.tmps[s]?) w')
     ⟨.refl _ _,DZ (λs v hs=>ar.get s v hs) h0⟩ ?_
    rintro a1 w1 ⟨f,R⟩;obtain⟨S,hs,J⟩:=D1 Q R;refine j3 (p b _ _ a1 w1 (D4 ar f m hs) (λd hd=>by rw[f.size];exact hb d hd) J) ?_;rintro ex a2 ag ⟨i,aM,j,k⟩
    cases ex with
    |normal=>
     obtain⟨aA,T⟩:=D2 (g':=λs=>a2.tmps[s]?) (λs v hs=>j.get s v hs) k;exact⟨⟨f.trans i,aA⟩,T⟩
    |exit id=>exact⟨f.trans i,aM,j,k⟩
    |goto l=>exact⟨f.trans i,aM,j,k⟩
    |ret=>exact⟨f.trans i,aM,j,k⟩
    |panic r=>exact⟨f.trans i,aM,j,k⟩
    |outgrown=>exact⟨f.trans i,aM,j,k⟩
  .exact h.elim
 |eC live e4 A p=>
  intro c K e a w ar hb h;simp only[D]at h
  cases m:ue e4 (writes c) with
  |false=>rw[m]at h;exact h.elim
  |true=>
   rw[m]at h;simp only[cond_true]at h;have h:=h.out;refine j3 (p c _ e a w ar hb h) ?_;rintro ex a1 w1 ⟨f,aG,g,h1⟩
   cases ex with
   |normal=>
    obtain⟨S,hs,J⟩:=DY h1;exact⟨f,_,D4 ar f m (λs v h=>g.get s v (hs s v h)),J⟩
   |exit id=>exact⟨f,aG,g,h1⟩
   |goto l=>exact⟨f,aG,g,h1⟩
   |ret=>exact⟨f,aG,g,h1⟩
   |panic r=>exact⟨f,aG,g,h1⟩
   |outgrown=>exact⟨f,aG,g,h1⟩
def nD(P:Program)(tk:TypeId->ec):O ResultVar->Env->I->(O Y->Prop)->Prop
 | [],_,_,K=>K []
 | .tmp t::r,e,w,K=>match e.get t with
  |some v=>nD P tk r e w λvs=>K (v::vs)
  |none=>False
 | .cell t T::r,e,w,K=>match e.get t with
  |some (.pointer (some A))=>ry P tk T A w λv=>nD P tk r e w λvs=>K (v::vs)
  |_=>False
def rH:O Y->Y
 | [v]=>v
 |vs=>.tuple vs.toArray
def D5(P:Program)(tk:TypeId->ec)(a:O ResultVar)(R:Y->I->Prop)(x:Exit)(e:Env)(w:I):Prop:=
 match x with
 | .normal=>nD P tk a e w λvs=>R (rH vs) w
 | .ret=>nD P tk a e w λvs=>R (rH vs) w
 |_=>False
def pR:Nat->O Y->Env
 |_,[]=> []
 |i,v::vs=>(i,v)::pR (i+1) vs
def rI(P:Program)(tk:TypeId->ec)(A:aD)(fn:Func)(args:O Y)(w:I)(R:Y->I->Prop):Prop:=
 match fn.body with
 |some c=>D P tk A c (D5 P tk fn.results.toList R) (pR 0 args) w
 |none=>False
def pS(fn:Func)(n:Nat):aj:=
 match fn.body with
 |some c=>(writes c).all (λd=>Nat.blt d fn.ntmps)&&Nat.ble n fn.ntmps
 |none=>false
theorem AP:∀ {vs:O Y}{i s:Nat}{v:Y},(pR i vs).get s=some v->i<=s/\vs[s-i]? =some v
 | [],_,_,_,h=>by cases h
 |u::vs,i,s,v,h=>by
  simp only[pR]at h
  rw[pJ]at h
  by_cases a:i=s
  .subst a
   rw[if_pos rfl]at h
   simpa using h
  .rw[if_neg a]at h
   obtain⟨h1,b⟩:=AP h
   refine⟨J,?_⟩
   rw[show s-i=(s-(i+1))+1 from J]
   simpa using b
def uf(tmps:Array Y)(r:ResultVar):Sem Y:=
 match r with
 | .tmp t=>pure (tmps.getD t undef)
 | .cell x t=>do loadVar t (←asAddr (tmps.getD x undef))
theorem nE{a:Act}:∀ {f:O ResultVar}{e:Env}{w:I}{K:O Y->Prop},dB e a->nD P tk f e w K->
 ∃vs,(f.mapM (uf a.tmps)).run P w=.ok vs w/\K vs
 | [],_,_,_,_,h=>⟨[],by simp,h⟩
 | .tmp t::r,e,w,K,ar,h=>by
  simp only[nD]at h
  split at h
  .rename_i v b
   obtain⟨vs,c,d⟩:=nE ar h
   refine⟨v::vs,?_,d⟩
   have ht:a.tmps.getD t undef=v:=by simp[Array.getD_eq_getD_getElem?,ar.get _ _ b]
   simp only[List.mapM_cons,uf,Sem.run_bind,Sem.run_pure,Result.andThen,ht]
   rw[c]
  .exact h.elim
 | .cell t T::r,e,w,K,ar,h=>by
  simp only[nD]at h
  split at h
  .rename_i A b
   obtain⟨v,g,h⟩:=DA h
   obtain⟨vs,c,d⟩:=nE ar h
   refine⟨v::vs,?_,d⟩
   have ht:a.tmps.getD t undef=.pointer (some A):=by simp[Array.getD_eq_getD_getElem?,ar.get _ _ b]
   have i:(loadVar T A).run P w=.ok v w:=by simpa[Instr.loadAt,Instr.sureAddr] using g
   simp only[List.mapM_cons,uf,Sem.run_bind,Sem.run_pure,Result.andThen,ht,asAddr,i]
   rw[c]
  .exact h.elim
theorem pT{fn:Func}{tmps:Array Y}{w:I}{vs:O Y}
 (h:(fn.results.toList.mapM (uf tmps)).run P w=.ok vs w):
 (results fn tmps).run P w=.ok (rH vs) w:=by
 have aG:results fn tmps=(do let vs ←fn.results.mapM (uf tmps);pure (if h:vs.size=1 then vs[0] else .tuple vs)):=rfl;rw[aG,Array.mapM_eq_mapM_toList];simp only[Sem.run_bind,Sem.run_map];rw[h];simp only[Result.andThen,Sem.run_pure]
 congr 1
 match vs with
 | []=>rfl
 | [v]=>rfl
 |u::v::vs=>simp[rH]
theorem IC{f:FuncId}{fn:Func}{A:aD}{args:O Y}{w:I}{R:Y->I->Prop}(hm:P.follows .mixedOrders=true)
 (hf:P.funcs[f]? =some fn) (g:pS fn args.length=true) (h:rI P tk A fn args w R):
 Calls P f args.toArray w λe w'=>∃v,e=.returned v/\R v w':=by
 unfold rI at h;unfold pS at g
 cases i:fn.body with
 |none=>rw[i]at h;exact h.elim
 |some c=>
  rw[i]at h g;simp only[dH]at h g;obtain⟨n,o⟩:=g;have r:=ow o;refine calls_of_wp hf i ?_;have p:(args.toArray++Array.replicate (fn.ntmps-args.toArray.size) undef).size=fn.ntmps:=by simp;omega
  have ar:dB (pR 0 args) {tmps:=args.toArray++Array.replicate (fn.ntmps-args.toArray.size) undef,defers:=[]}:=by
   constructor;intro s v hs;obtain⟨_,b⟩:=AP hs;simp only[q_]at b;have aJ:s<args.length:=(l9.1 b).1;simp[Array.getElem?_append,aJ];rw[eJ aJ]at b;exact Option.some.inj b
  refine j3 (wK hm A c _ _ _ w ar (λd hd=>?_) h) ?_
  .have h1:=q6.1 n d hd
   have b:=ow h1;show d<(args.toArray++Array.replicate (fn.ntmps-args.toArray.size) undef).size;rw[p];omega
  .rintro x a' w' ⟨q,e',m,a⟩
   have hd:a'.defers=[]:=q.defers
   cases x with
   |normal=>
    obtain⟨vs,j,k⟩:=nE m a;exact⟨hd,_,pT j,_,rfl,k⟩
   |ret=>
    obtain⟨vs,j,k⟩:=nE m a;exact⟨hd,_,pT j,_,rfl,k⟩
   |exit id=>exact a.elim
   |goto l=>exact a.elim
   |panic t=>exact a.elim
   |outgrown=>exact a.elim
end
end aQ
namespace aQ
open Go Go.ChangeShapes Go.WideShapes Go.ChangeAt Go.RowKit
def gv(P:Program)(w:I):Nat->TypeId->O Y->Prop
 |0,_,_=>False
 |fuel+1,t,cs=>
  match P.underlying t with
  |some .bool=>∃b:aj,cs=[.bool b]
  |some (.int k)=>∃n:Int,cs=[.int k n]/\k.min<=n/\n<=k.max
  |some .string=>∃s:ByteArray,cs=[.string s]/\s.size<=maxLen
  |some (.slice e)=>∃s:ae,cs=[.slice s.a s.len s.cap]/\s.len<=s.cap/\s.cap<=maxLen/\(s.a=none->s.cap=0)/\
   ∀a,s.a=some a->∀i,i<s.cap->∃vs,aV w (a.add (i*P.cellsOf e)) 0 (P.cellsOf e)=some vs/\gv P w fuel e vs
  |some (.struct fs)=>cs.length=P.cellsOf t/\∀f∈fs,gv P w fuel f.type ((cs.drop f.offset).take (P.cellsOf f.type))
  |some (.array n e)=>cs.length=P.cellsOf t/\∀i,i<n->gv P w fuel e ((cs.drop (i*P.cellsOf e)).take (P.cellsOf e))
  |some (.pointer e)=>cs=[.pointer none]\/∃a vs,cs=[.pointer (some a)]/\aV w a 0 (P.cellsOf e)=some vs/\gv P w fuel e vs
  |_=>True
theorem mapM_some{α β:Type}{f:α->aq β}:∀ {l:O α}{r:O β},l.mapM f=some r->∀x∈l,∃y,f x=some y
 | [],_,_,_,hx=>by cases hx
 |a::l,r,h,x,hx=>by
  simp only[List.mapM_cons]at h
  cases c:f a with
  |none=>simp[c]at h
  |some b=>
   cases d:l.mapM f with
   |none=>simp[c,d]at h
   |some bs=>
    rcases cY.1 hx with rfl|hx
    .exact⟨b,c⟩
    .exact mapM_some d x hx
theorem D6{w:I}{a:av}:∀ (n i:Nat) (vs:O Y),((List.range' i n).mapM λj=>w.cell? (a.add j))=some vs->aV w a i n=some vs
 |0,i,vs,h=>by simp at h;simp[aV,h]
 |n+1,i,vs,h=>by
  simp only[List.range'_succ,List.mapM_cons]at h
  cases h1:w.cell? (a.add i) with
  |none=>simp[h1]at h
  |some v=>
   cases b:((List.range' (i+1) n).mapM λj=>w.cell? (a.add j)) with
   |none=>simp[h1,b]at h
   |some us=>
    simp[h1,b]at h
    have:=D6 n (i+1) us b
    simp[aV,h1,this,h]
theorem D7{w:I}{base:Nat}{a:av}{n:Nat}{vs:O Y}(h:w.cells? base a n=some vs):aV w a 0 n=some vs:=by
 unfold World.cells? at h;split at h
 .rw[vU]at h
  exact D6 n 0 vs h
 .cases h
section
variable {H:Type}{enc:TypeId×Y->H}{P:Program}{w:I}
theorem ug:∀ (fuel:Nat) (t:TypeId) (cs:O Y) (x:DataW H×O MemPlace),DataW.trod enc P w 0 (λ_=>true) true fuel t cs=some x->gv P w fuel t cs
 |0,_,_,_,h=>by cases h
 |fuel+1,t,cs,x,h=>by
  simp only[DataW.trod]at h
  simp only[gv]
  cases ht:P.underlying t with
  |none=>trivial
  |some d=>
   rw[ht]at h
   cases d<;>try trivial
   case bool=>
    match cs,h with
    | [.bool b],_=>exact⟨b,rfl⟩
   case int k=>
    match cs,h with
    | [.int r n],h=>
     simp only at h
     split at h
     .rename_i g
      obtain⟨rfl,m⟩:=g
      exact⟨n,rfl,by simpa[Lit.wf] using m⟩
     .cases h
   case string=>
    match cs,h with
    | [.string s],h=>
     simp only at h
     split at h
     .rename_i g;exact⟨s,rfl,g⟩
     .cases h
   case pointer e=>
    match cs,h with
    | [.pointer none],_=>exact .inl rfl
    | [.pointer (some a)],h=>
     simp only[vV]at h
     obtain⟨y,c,_⟩:=h
     obtain⟨vs,h1,l⟩:=Option.bind_eq_some_iff.1 c
     exact .inr ⟨a,vs,rfl,D7 h1,ug fuel e vs _ l⟩
   case slice e=>
    match cs,h with
    | [.slice none 0 0],_=>exact⟨⟨none,0,0⟩,rfl,ba _,c8 _,(λ_=>rfl),(λa o=>by cases o)⟩
    | [.slice (some a) len cap],h=>
     simp only at h
     split at h
     .rename_i g
      refine⟨⟨some a,len,cap⟩,rfl,g.2.1,g.2.2,(λh0=>by cases h0),λa' p i hi=>?_⟩
      obtain⟨elems,he,h⟩:=Option.bind_eq_some_iff.1 h
      simp only[if_true,vV]at h
      obtain⟨rest,q,_⟩:=h
      cases p
      have key:∃y,((w.cells? 0 (a.add (i*P.cellsOf e)) (P.cellsOf e)).bind (DataW.trod enc P w 0 (λ_=>true) true fuel e))=some y:=by
       rcases eF i len with j|j
       .exact mapM_some he i (jY.2 j)
       .obtain⟨y,c⟩:=mapM_some q (i-len) (jY.2 (by simp only at hi;omega))
        rw[show len+(i-len)=i from J]at c;exact⟨y,c⟩
      obtain⟨y,c⟩:=key;obtain⟨vs,h1,l⟩:=Option.bind_eq_some_iff.1 c;exact⟨vs,D7 h1,ug fuel e vs _ l⟩
     .cases h
   case struct fs=>
    simp only at h;split at h
    .rename_i j
     refine⟨j,λf hf=>?_⟩;simp only[vV]at h;obtain⟨ys,c,_⟩:=h;obtain⟨y,c⟩:=mapM_some c f (by simpa using hf);exact ug fuel _ _ _ c
    .cases h
   case array n e=>
    simp only at h;split at h
    .rename_i j
     refine⟨j,λi hi=>?_⟩;simp only[vV]at h;obtain⟨ys,c,_⟩:=h;obtain⟨y,c⟩:=mapM_some c i (jY.2 hi);exact ug fuel _ _ _ c
    .cases h
def nF(P:Program)(w:I)(t:TypeId)(v:Y):Prop:=
 match P.underlying t with
 |some (.struct _)=>∃cs:Array Y,v=.agg cs/\∃fuel,gv P w fuel t cs.toList
 |some (.array _ _)=>∃cs:Array Y,v=.agg cs/\∃fuel,gv P w fuel t cs.toList
 |_=>∃fuel,gv P w fuel t [v]
theorem D8{r:Reach}{b0:Nat}{t:TypeId}{v:Y}{d:DataW H}{ps:O MemPlace}(j4:Value.okWide P w r b0 t v)
 (hd:DataW.Trod enc P w 0 (λ_=>true) true t v d ps):nF P w t v:=by
 obtain⟨fuel,hd⟩:=hd;have h1:=ug fuel t _ _ hd;unfold nF;unfold Value.okWide at j4;have sc:(∀cs,v≠ .agg cs)->v.cells.toList=[v]:=λh=>by cases v<;>first|rfl|exact absurd rfl (h _)
 cases ht:P.underlying t with
 |none=>
  rw[ht]at j4
  cases fuel with
  |zero=>cases hd
  |succ f=>exact⟨1,by simp[gv,ht]⟩
 |some a=>
  rw[ht]at j4
  cases a
  case struct fs=>obtain⟨cs,rfl,_,_⟩:=j4;exact⟨cs,rfl,fuel,h1⟩
  case array n e=>obtain⟨cs,rfl,_,_⟩:=j4;exact⟨cs,rfl,fuel,h1⟩
  all_goals
   refine⟨fuel,?_⟩;rw[←sc]
   .exact h1
   .rintro cs rfl
    simp[Cell.okWide,Cell.ok,ht]at j4
theorem D9{w w':I}(h:af (λ_=>False) w w'):Below w.heap.size w w':=
 ⟨h.os,h.tape,h.output,h.size,λk a=>h.block k a (λh=>h)⟩
theorem ID{f:Func}{s:ChangeSpec}{apart fresh handsOn again:aj}{W W':I}{args:Array Y}{T:TypeId}{ds gs:O (DataW H)}{before pa fu:O MemPlace}
 (cU:DataW.Whole enc P f.params.toList s.vars apart W args.toList ds gs before) (d:P.underlying T=some .bool) (e:f.resultTypes= #[T])
 (hs:s.fn H (ds++gs)={results:=[.lit (.bool true)],args:=ds})
 (wL:∀sp:Nat->aj,(∀p∈before,sp p.block=true)->DataW.TrodAll enc P W' 0 sp true f.params.toList args.toList ds pa)
 (l:∀sp:Nat->aj,(∀p∈before,sp p.block=true)->DataW.TrodVars enc P W' sp s.vars [] fu)
 (c:before=pa++fu) (hb:af (λ_=>False) W W'):
 s.post enc P f apart fresh handsOn again W args (.bool true) W':=by
 have g:=D9 hb;have aJ:∀p∈before,p.block<W.heap.size:=λp a=>cU.lt p a;have hold:∀p∈before,(λb=>decide (b<W.heap.size)) p.block=true:=λp a=>by simpa using aJ p a
 have h:∀ (b:Nat) (sp:Nat->aj) (hd:aj),DataW.TrodAll enc P W' b sp hd f.resultTypes.toList ((Value.bool true).resultList f.resultTypes.size) (s.fn H (ds++gs)).results []:=by
  intro b sp hd;rw[hs,e];exact trodAll_cons_mk (shut_bool d true) trodAll_mk0
 have i:∀sp:Nat->aj,(∀p∈before,sp p.block=true)->DataW.TrodAll enc P W' 0 sp true f.params.toList args.toList (s.fn H (ds++gs)).args pa:=by
  intro sp jF;rw[hs];exact wL sp jF
 have j:∀sp:Nat->aj,(∀p∈before,sp p.block=true)->DataW.TrodVars enc P W' sp s.vars (s.fn H (ds++gs)).vars fu:=by
  intro sp jF;rw[hs];exact l sp jF
 refine⟨ds,gs,before,[],pa,fu,cU,h _ _ _,i _ hold,j _ hold,World.keptBut_mono (λp a=>⟨a,?_⟩) (g.frame (· ∈before)),λ_=>?_⟩
 .rw[c,cS]at a
  exact Or.inr a
 .obtain⟨_,_,_,_,_,m,n⟩:=cU
  refine⟨ok_one e rfl (okWide_bool_mk d _),_,_,([]++pa)++fu,⟨[]++pa,fu,trodAll_append (i _ (λ_ _=>rfl)) (h _ _ _),j _ (λ_ _=>rfl),rfl,?_,?_⟩,?_⟩
  .intro b off a
   have k:MemPlace.cell b off∈before:=by rw[c];simpa using a
   rw[g.frozen (aJ _ k)];exact m b off k
  .intro o
   have:=n o;rw[c]at this;simpa using this
  .intro p a _
   rw[c];simpa using a
theorem D_{t:TypeId}(a:laidOutB P=true)(b:P.readableRec t=true)(c:t<P.types.size){W W':I}{v:Y}{d:DataW H}{ps:O MemPlace}{sp:Nat->aj}
 (h:DataW.Trod enc P W 0 (λ_=>true) true t v d ps) (hb:af (λ_=>False) W W') (aJ:∀x∈ps,x.block<W.heap.size) (hs:∀p∈ps,sp p.block=true):
 DataW.Trod enc P W' 0 sp true t v d ps:=
 WideElems.Trod_stays a b c h (λx hx=>(D9 hb).same (aJ x hx)) hs
end
end aQ
namespace aQ
open Go Go.RowKit
def aC(P:Program)(f:FuncId)(args:Array Y)(w:I)(Q:Y->I->Prop):Prop:=
 Calls P f args w λe w1=>∃v,e=.returned v/\Q v w1
theorem aC.use{P:Program}{f:FuncId}{args:Array Y}{w:I}{Q:Y->I->Prop}{R:Ending->I->Prop}
 (h:aC P f args w Q) (k:∀v w',Q v w'->R (.returned v) w'):Calls P f args w R:=
 Calls.mono h λ_ _ ⟨v,a,b⟩=>by subst a;exact k v _ b
theorem aC.mono{P:Program}{f:FuncId}{args:Array Y}{w:I}{Q R:Y->I->Prop}
 (h:aC P f args w Q) (k:∀v w',Q v w'->R v w'):aC P f args w R:=
 aC.use h λv _ a=>⟨v,rfl,k _ _ a⟩
abbrev Ext(w w':I):Prop:=af (λ_=>False) w w'
theorem af.bL{W:Nat->Prop}{w w':I}(h:Ext w w'):af W w w':=af.mono h λ_ _ h=>h.elim
theorem af.drew{W:Nat->Prop}{w w':I}(h:af W w w'):af W w w'.drew:=⟨h.os,h.tape,h.output,h.size,h.block⟩
theorem af.alloc{W:Nat->Prop}{w w':I}(h:af W w w')(o:Obj):af W w (w'.alloc o):=
 h.trans ⟨rfl,rfl,rfl,by simp,λk a _=>Below.heap_alloc _ _ _ a⟩
theorem af.set{W:Nat->Prop}{w w':I}(h:af W w w'){A:av}(hb:A.block<w.heap.size->W A.block)(v:Y):af W w (w'.setCell A v):=
 ⟨h.os,h.tape,h.output,by simp only[World.setCell,Array.size_modify];exact h.size,λk a cU=>by
  rw[Below.heap_setCell _ _ _ _ (λe=>cU (by subst e;exact hb a))];exact h.block k a cU⟩
theorem af.setCells{W:Nat->Prop}{w:I}{A:av}(hb:A.block<w.heap.size->W A.block):∀ (vs:O Y) (i:Nat) {w':I},af W w w'->af W w (setCells w' A i vs)
 | [],_,_,h=>h
 |v::vs,i,w',h=>by
  have a:(A.add i).block=A.block:=by unfold Addr.add;split<;>rfl
  exact af.setCells hb vs (i+1) (af.set h (by rw[a];exact hb) v)
theorem aw(b o n:Nat):(Addr.mk b o none).add n=⟨b,o+n,none⟩:=by
 unfold Addr.add;split
 .rename_i h;subst h;rfl
 .rfl
def bc(w:I)(b:Nat)(c:Array Y)(T:TypeId):Prop:=w.heap[b]? =some (.cells c T (0,0))
section
variable {w w':I}{b i:Nat}{c:Array Y}{T:TypeId}
theorem bc.lt(h:bc w b c T):b<w.heap.size:=(l_.1 h).1
theorem bc.cell(h:bc w b c T)(i:Nat):w.cell? ⟨b,i,none⟩=c[i]? :=by
 unfold bc at h;simp[World.cell?,h]
theorem bc.frozen(h:bc w b c T)(A:av)(ar:A.block=b):w.frozen? A=false:=by
 unfold bc at h;simp[World.frozen?,ar,h]
theorem bc.ak{W:Nat->Prop}(h:bc w b c T)(hc:af W w w')(hb:¬W b):bc w' b c T:=by
 have a:=h.lt;unfold bc at h⊢;rw[hc.block b a hb];exact h
theorem bc.ext(h:bc w b c T)(hc:Ext w w'):bc w' b c T:=h.ak hc id
theorem bc.drew(h:bc w b c T):bc w.drew b c T:=h
theorem bc.new(w:I)(c:Array Y)(T:TypeId):bc (w.alloc (.cells c T)) w.heap.size c T:=by
 show(w.heap.push (.cells c T))[w.heap.size]? =some (.cells c T (0,0));simp
theorem bc.set(h:bc w b c T)(i:Nat)(v:Y):bc (w.setCell ⟨b,i,none⟩ v) b (c.setIfInBounds i v) T:=by
 unfold bc at h⊢;simp[World.setCell,vS,h]
theorem bc.inj{c':Array Y}{az:TypeId}(h:bc w b c T)(a:bc w b c' az):c=c'/\T=az:=by
 unfold bc at h a;rw[h]at a;simpa using a
def gE(c:Array Y)(i:Nat):O Y->Array Y
 | []=>c
 |v::vs=>gE (c.setIfInBounds i v) (i+1) vs
theorem h4:∀ (vs:O Y) (c:Array Y) (i:Nat),(gE c i vs).size=c.size
 | [],_,_=>rfl
 |v::vs,c,i=>by simp[gE,h4 vs]
theorem bc.pU:∀ (vs:O Y) {w:I}{c:Array Y} (i j:Nat),bc w b c T->bc (setCells w ⟨b,i,none⟩ j vs) b (gE c (i+j) vs) T
 | [],_,_,_,_,h=>h
 |v::vs,w,c,i,j,h=>by
  simp only[setCells,gE,aw]
  have:=bc.pU vs i (j+1) (h.set (i+j) v)
  rw[show i+(j+1)=i+j+1 from J]at this
  exact this
theorem bc.bX(h:bc w b c T)(i:Nat)(vs:O Y)(d:i+vs.length<=c.size)(a:∀v∈vs,Plain v):b_ w ⟨b,i,none⟩ vs:=by
 refine⟨λj e=>?_,a⟩;rw[aw,h.cell,h.frozen _ rfl];have:i+j<c.size:=by omega
 simp[this]
end
theorem k3{B:(I->Prop)->Prop}{rest:I->Prop}(a:I->Prop)(h1:∀k:I->Prop,(∀w,a w->k w)->B k)(b:∀w,a w->rest w):a_ B rest:=⟨h1 rest b⟩
theorem cc{a:Type}{B:(a->I->Prop)->Prop}{rest:a->I->Prop}(b:a->I->Prop)(h1:∀k:a->I->Prop,(∀x w,b x w->k x w)->B k)(c:∀x w,b x w->rest x w):a_ B rest:=⟨h1 rest c⟩
theorem AQ{a b:Type}{B:(a->b->I->Prop)->Prop}{rest:a->b->I->Prop}(c:a->b->I->Prop)(h1:∀k:a->b->I->Prop,(∀x y w,c x y w->k x y w)->B k)(d:∀x y w,c x y w->rest x y w):a_ B rest:=⟨h1 rest d⟩
theorem IE{n:Int}(h0:IntKind.u8.min<=n)(h1:n<=IntKind.u8.max):0<=n/\n<=255:=by
 simpa[IntKind.min,IntKind.max,IntKind.signed,IntKind.bits] using And.intro h0 h1
theorem bT{n:Int}(h0: -9223372036854775808<=n)(h1:n<=9223372036854775807):IntKind.i64.wrap n=n:=by
 by_cases h:0<=n
 .exact Au h h1
 .have e:n%18446744073709551616=n+18446744073709551616:=by omega
  simp[IntKind.wrap,IntKind.signed,IntKind.bits,e];omega
end aQ
namespace aQ
open Go Go.RowKit
structure Src(sz:Nat)(w:I)(x:ae)(xs:O Y):Prop where
 len:xs.length=x.len*sz
 nil:x.a=none->xs=[]
 rd:∀a,x.a=some a->aV w a 0 (x.len*sz)=some xs
def aT(sz:Nat)(T:TypeId)(w:I)(s:ae)(vs:O Y):Prop:=
 vs.length=s.len*sz/\s.len<=s.cap/\s.cap<=maxLen/\
 ((s.a=none/\s.cap=0)\/∃b c,s.a=some ⟨b,0,none⟩/\bc w b c T/\c.size=s.cap*sz/\c.toList.take (s.len*sz)=vs)
def aB(s:ae)(k:Nat):Prop:=∃A,s.a=some A/\A.block=k
theorem uh{w:I}{A:av}:∀ {n i:Nat}{vs:O Y},aV w A i n=some vs->vs.length=n
 |0,_,_,h=>by simp[aV]at h;simp[←h]
 |n+1,i,vs,h=>by
  simp only[aV]at h
  cases h1:w.cell? (A.add i) with
  |none=>simp[h1]at h
  |some v=>
   cases a:aV w A (i+1) n with
   |none=>simp[h1,a]at h
   |some us=>
    simp only[h1,a,Option.some.injEq]at h
    subst h
    simp[uh a]
theorem rJ{w:I}{b:Nat}{c:Array Y}{T:TypeId}(h:bc w b c T):∀ (n o i:Nat),o+i+n<=c.size->aV w ⟨b,o,none⟩ i n=some ((c.toList.drop (o+i)).take n)
 |0,o,i,_=>by simp[aV]
 |n+1,o,i,f=>by
  have h1:o+i<c.size:=by omega
  have a:=rJ h n o (i+1) J
  simp only[aV,aw,h.cell,a]
  have d:c[o+i]? =some c[o+i]:=by simp[h1]
  rw[d]
  simp only[Option.some.injEq]
  have e:c.toList.drop (o+i)=c[o+i]::c.toList.drop (o+i+1):=by
   rw[lG (by simpa using h1)];simp
  rw[e];simp[Nat.add_assoc]
theorem aT.src{sz:Nat}{T:TypeId}{w:I}{s:ae}{vs:O Y}(h:aT sz T w s vs):Src sz w s vs:=by
 obtain⟨h1,g,k,f⟩:=h;refine⟨h1,λe=>?_,λa d=>?_⟩
 .rcases f with ⟨_,hc⟩|⟨b,c,hb,_⟩
  .have:s.len=0:=by omega
   rw[this,Nat.zero_mul]at h1;exact rf.1 h1
  .rw[e]at hb;cases hb
 .rcases f with ⟨e,_⟩|⟨b,c,hb,i,hs,j⟩
  .rw[e]at d;cases d
  .rw[hb]at d
   cases d;have:=rJ i (s.len*sz) 0 0 (by rw[hs];simp;exact rh _ g);rw[this];simp[j]
section
variable {P:Program}{w:I}
theorem rK{sz:Nat}{x:ae}{xs:O Y}(h:Src sz w x xs):(Builtin.firstCells sz x.len (.slice x.a x.len x.cap)).run P w=.ok xs.toArray w:=by
 cases hx:x.a with
 |none=>rw[h.nil hx];rfl
 |some a=>
  simp only[Builtin.firstCells,loadCells];rw[run_loadCellsFrom _ _ _ _ (h.rd a hx)];simp
theorem Ea(a:Nat):∀ (r c:Nat),c<=2*a+1000->Builtin.growBy a r c<=2*a+1000
 |0,c,h=>h
 |r+1,c,h=>by
  simp only[Builtin.growBy]
  split
  .exact h
  .exact Ea a r _ J
theorem Eb{a cap:Nat}(h:cap<a):Builtin.nextslicecap a cap<=2*a+1000:=by
 unfold Builtin.nextslicecap;split
 .omega
 .split
  .omega
  .exact Ea a 4 cap J
theorem Ec{g5:Array TypeId}{df dV k4 e:TypeId}{d:TypeDesc}{sz:Nat}{s x:ae}{xs:O Y}(h0:g5[0]? =some dV)(h1:g5[1]? =some k4)
 (hs:P.underlying dV=some (.slice e)) (hx:P.underlying k4=some (.slice e)) (he:P.underlying e=some d) (g:P.cellsOf e=sz) (h:Src sz w x xs)
 (c:s.len+x.len<=s.cap) (i:∀a,s.a=some a->b_ w (a.add (s.len*sz)) xs):
 Sem.run P (Builtin.append_ g5 df #[.slice s.a s.len s.cap,.slice x.a x.len x.cap]) w=
  .ok (.slice s.a (s.len+x.len) s.cap) (match s.a with|some a=>setCells w (a.add (s.len*sz)) 0 xs|none=>w):=by
 have hf:=rK (P:=P) h;have b:=iq (w:=w) he;rw[g]at b
 cases j:s.a with
 |none=>
  simp[Builtin.append_,h0,h1,db hs,db hx,b,Builtin.lenOf,c,hf]
 |some a=>
  have f:=i a j;have:=tP (P:=P) (A:=a.add (s.len*sz)) xs 0 w (by simpa using f.1) f.2;simp[Builtin.append_,h0,h1,db hs,db hx,b,Builtin.lenOf,c,hf,this]
theorem run_append_grow{g5:Array TypeId}{df dV k4 e:TypeId}{i:TypeInfo}{z:Y}{sz:Nat}{s x:ae}{xs c:O Y}(h0:g5[0]? =some dV)(h1:g5[1]? =some k4)
 (hs:P.underlying dV=some (.slice e)) (hx:P.underlying k4=some (.slice e)) (hi:P.info? e=some i) (hd:(P.underlying e).isSome=true) (k:i.zero=some z) (l:z.cells.size=sz) (m:P.cellsOf e=sz)
 (hb:i.bytes≠0) (f:Src sz w x xs) (hold:Src sz w s c) (o:s.cap<s.len+x.len) (p:(2*(s.len+x.len)+1000)*i.bytes<=281474976710656):
 ∃ (b:Nat) (rest:O Y),s.len+x.len<=b/\b<=maxLen/\rest.length=(b-(s.len+x.len))*sz/\
  Sem.run P (Builtin.append_ g5 df #[.slice s.a s.len s.cap,.slice x.a x.len x.cap]) w=
   .ok (.slice (some ⟨w.heap.size,0,none⟩) (s.len+x.len) b) (w.drew.alloc (.cells (c++xs++rest).toArray e)):=by
 obtain⟨d,hd⟩:=k2 _ hd;have h:=iq (w:=w) hd;rw[m]at h;have r:=Eb o;have L:Builtin.nextslicecap (s.len+x.len) s.cap*i.bytes<=281474976710656:=dQ (rh _ r) p;have M:s.len+x.len<=281474976710656:=by
  have:s.len+x.len<=(2*(s.len+x.len)+1000)*i.bytes:=by
   have:=Nat.mul_le_mul_left (2*(s.len+x.len)+1000) (Nat.one_le_iff_ne_zero.2 hb);omega
  omega
 let q:Question:=.appendCap (s.len+x.len) s.cap e
 let b:Nat:=q.cut (w.tape w.drawn q)
 have t:q.forced=false:=rfl;have u:s.len+x.len<=b:=by show s.len+x.len<=s.len+x.len+_;omega
 have v:b<=maxLen:=by
  show s.len+x.len+_%(2^63-(s.len+x.len))<=2^63-1;have:=hZ (w.tape w.drawn q) (y:=2^63-(s.len+x.len)) J;omega
 have A:Src sz w.drew x xs:=⟨f.len,f.nil,λa g=>by
  have:=f.rd a g;have hc:af (λ_=>False) w w.drew:=af.drew (.refl _ _);exact hc.aV (by simp) _ _ _ this⟩
 have B:Src sz w.drew s c:=⟨hold.len,hold.nil,λa g=>by
  have:=hold.rd a g;have hc:af (λ_=>False) w w.drew:=af.drew (.refl _ _);exact hc.aV (by simp) _ _ _ this⟩
 have hf:=rK (P:=P) A;have C:=rK (P:=P) B;have D:∀n (w':I),(askRoom n).run P w'=.ok () w':=λn w'=>by unfold askRoom;split<;>rfl
 have E:(choose q).run P w=.ok b w.drew:=by
  show Sem.run P (.choose q .pure) w=_;simp only[Sem.run,t,gb,if_false];rfl
 have j:=λw:I=>oC (w:=w) hi;refine⟨b,(Builtin.zeroCells z.cells (b-(s.len+x.len))).toList,u,v,by simp[Builtin.zeroCells,l],?_⟩;have aG:¬(s.len+x.len<=s.cap):=by omega
 have aM:¬((s.len+x.len:Nat):Int)>IntKind.i64.max:=by
  simp[IntKind.max,IntKind.signed,IntKind.bits];omega
 have F:¬(281474976710656<Builtin.nextslicecap (s.len+x.len) s.cap*i.bytes):=by omega
 have G:¬Builtin.nextslicecap (s.len+x.len) s.cap*i.bytes>2^48:=by simpa using F
 unfold Builtin.append_;simp only[tC,ou,List.getElem?_cons_succ,h0,h1,Sem.run_bind,db hs,db hx,Result.andThen,h,Builtin.lenOf,Sem.run_pure,aG,if_false,gb,j,aM,false_and,G,Bool.not_false,if_true];have H:Sem.run P (choose (.appendCap (s.len+x.len) s.cap e)) w=.ok b w.drew:=E;simp only[H,D,hf,C,zeroValue,j,k,Sem.run_bind,Result.andThen,Sem.run_pure,newRow,newObj,Sem.run];have K:w.drew.heap.size=w.heap.size:=rfl;rw[K]
 congr 1
 show w.drew.alloc _=w.drew.alloc _
 congr 2
 simp
theorem ui:∀ (vs:O Y) (c:Array Y) (i:Nat),i+vs.length<=c.size->(gE c i vs).toList.take (i+vs.length)=c.toList.take i++vs
 | [],c,i,_=>by simp[gE]
 |v::vs,c,i,h=>by
  simp only[iR]at h
  simp only[gE]
  have:=ui vs (c.setIfInBounds i v) (i+1) (by simpa using (by omega:i+1+vs.length<=c.size))
  rw[show i+(v::vs).length=i+1+vs.length by simp;omega,this]
  have hi:i<c.size:=by omega
  have a:(c.setIfInBounds i v).toList.take (i+1)=c.toList.take i++ [v]:=by
   rw[kt (by simpa using hi)];have b:(List.take i c.toList).set i v=List.take i c.toList:=by
    apply List.set_eq_of_length_le;simp only[c9];omega
   simp[List.take_set,b]
  rw[a];simp
theorem IF{g5:Array TypeId}{df dV k4 e:TypeId}{i:TypeInfo}{z:Y}{sz:Nat}{s x:ae}{xs vs:O Y}(h0:g5[0]? =some dV)(h1:g5[1]? =some k4)
 (hs:P.underlying dV=some (.slice e)) (hx:P.underlying k4=some (.slice e)) (hi:P.info? e=some i) (hd:(P.underlying e).isSome=true) (B:i.zero=some z) (C:z.cells.size=sz) (r:P.cellsOf e=sz)
 (hb:i.bytes≠0) (f:Src sz w x xs) (t:aT sz e w s vs) (D:∀v∈xs,Plain v) (E:(2*(s.len+x.len)+1000)*i.bytes<=281474976710656):
 ∃ (g:ae) (w':I),Sem.run P (Builtin.append_ g5 df #[.slice s.a s.len s.cap,.slice x.a x.len x.cap]) w=.ok (.slice g.a g.len g.cap) w'/\
  aT sz e w' g (vs++xs)/\g.len=s.len+x.len/\af (aB s) w w'/\(∀k,aB g k->aB s k\/w.heap.size<=k):=by
 have hold:=t.src;obtain⟨aA,R,F,u⟩:=t;by_cases h:s.len+x.len<=s.cap
 .have G:∀a,s.a=some a->b_ w (a.add (s.len*sz)) xs:=by
   intro a j;rcases u with ⟨n,_⟩|⟨b,c,l,o,m,y⟩
   .rw[n]at j;cases j
   .rw[l]at j
    cases j;rw[aw];refine o.bX _ _ ?_ D;rw[m,f.len,cz,←ku];exact rh _ h
  obtain⟨d,hd⟩:=k2 _ hd;have p:=Ec (df:=df) h0 h1 hs hx hd r f h G;refine⟨⟨s.a,s.len+x.len,s.cap⟩,_,p,?_,rfl,?_,λk q=>.inl q⟩
  .refine⟨by simp[aA,f.len,ku],h,F,?_⟩
   rcases u with ⟨n,hc⟩|⟨b,c,l,o,m,y⟩
   .exact .inl ⟨n,hc⟩
   .refine .inr ⟨b,gE c (s.len*sz) xs,l,?_,by rw[h4];exact m,?_⟩
    .simp only[l,aw]
     have:=bc.pU (T:=e) xs (0+s.len*sz) 0 o;simpa using this
    .have H:s.len*sz+xs.length<=c.size:=by
      rw[m,f.len,←ku];exact rh _ h
     have:=ui xs c (s.len*sz) H;rw[f.len,←ku]at this;rw[this,y]
  .cases K:s.a with
   |none=>exact .refl _ _
   |some a=>
    refine af.setCells (λ_=>?_) xs 0 (.refl _ _);exact⟨a,K,by unfold Addr.add;split<;>rfl⟩
 .obtain⟨L,rest,M,N,Q,p⟩:=run_append_grow (df:=df) h0 h1 hs hx hi hd B C r hb f hold J E
  refine⟨⟨some ⟨w.heap.size,0,none⟩,s.len+x.len,L⟩,_,p,?_,rfl,af.alloc (af.drew (.refl _ _)) _,?_⟩
  .refine⟨by simp[aA,f.len,ku],M,N,.inr ⟨w.heap.size,(vs++xs++rest).toArray,rfl,bc.new w.drew _ _,?_,?_⟩⟩
   .simp[aA,f.len,Q]
    rw[←ku,←ku]
    congr 1
    omega
   .have:(vs++xs).length=(s.len+x.len)*sz:=by simp[aA,f.len,ku]
    show List.take ((s.len+x.len)*sz) (vs++xs++rest).toArray.toList=vs++xs;rw[←this];exact List.take_left
  .rintro k ⟨A,ar,q⟩
   cases ar;exact .inr (by simpa using q▸ba _)
end
theorem aT.ak{sz:Nat}{T:TypeId}{w w':I}{s:ae}{vs:O Y}{W:Nat->Prop}(h:aT sz T w s vs)(hc:af W w w')(d:∀k,aB s k->¬W k):aT sz T w' s vs:=by
 obtain⟨h1,e,f,a⟩:=h;refine⟨h1,e,f,?_⟩;rcases a with a|⟨b,c,hb,g,i,j⟩
 .exact .inl a
 .exact .inr ⟨b,c,hb,g.ak hc (d b ⟨_,hb,rfl⟩),i,j⟩
theorem Src.ak{sz:Nat}{w w':I}{s:ae}{vs:O Y}{W:Nat->Prop}(h:Src sz w s vs)(hc:af W w w')(c:∀k,aB s k->¬W k):Src sz w' s vs:=
 ⟨h.len,h.nil,λa b=>hc.aV (c _ ⟨a,b,rfl⟩) _ _ _ (h.rd a b)⟩
theorem aT.lt{sz:Nat}{T:TypeId}{w:I}{s:ae}{vs:O Y}(h:aT sz T w s vs):∀k,aB s k->k<w.heap.size:=by
 rintro k ⟨A,ar,rfl⟩;obtain⟨_,_,_,a⟩:=h;rcases a with ⟨d,_⟩|⟨b,c,hb,e,_⟩
 .rw[d]at ar;cases ar
 .rw[hb]at ar;cases ar;exact e.lt
theorem aT.cell{T:TypeId}{w:I}{s:ae}{vs:O Y}(h:aT 1 T w s vs){i:Nat}{v:Y}(d:vs[i]? =some v):
 ∃b c,s.a=some ⟨b,0,none⟩/\bc w b c T/\c.size=s.cap/\i<s.len/\i<c.size/\w.cell? ⟨b,i,none⟩=some v/\c.toList.take s.len=vs:=by
 obtain⟨h1,j,k,g⟩:=h;have hi:i<s.len:=by
  have:=(l9.1 d).1;omega
 rcases g with ⟨_,hc⟩|⟨b,c,hb,e,f,ht⟩
 .omega
 .rw[gd]at f ht
  refine⟨b,c,hb,e,f,hi,J,?_,ht⟩;rw[e.cell];rw[←ht,vW]at d;rw[if_pos hi]at d;simpa using d
theorem aT.set{T:TypeId}{w:I}{s:ae}{vs:O Y}{b i:Nat}(h:aT 1 T w s vs)(hb:s.a=some ⟨b,0,none⟩)(v:Y):
 aT 1 T (w.setCell ⟨b,i,none⟩ v) s (vs.set i v):=by
 obtain⟨h1,e,f,g⟩:=h;refine⟨by simpa using h1,e,f,.inr ?_⟩;rcases g with ⟨j,_⟩|⟨b',c,d,k,l,ht⟩
 .rw[j]at hb;cases hb
 .rw[hb]at d
  cases d;refine⟨b,_,hb,k.set i v,by simpa using l,?_⟩;rw[←ht];simp[List.take_set]
def Ed(P:Program)(dV e:TypeId)(sz bytes:Nat):aj:=
 match P.underlying dV,P.info? e,P.underlying e with
 |some (.slice e'),some i,some _=>e'==e&&(match i.zero with|some z=>z.cells.size==sz|none=>false)&&P.cellsOf e==sz&&i.bytes==bytes&&bytes !=0
 |_,_,_=>false
structure iG(P:Program)(dV e:TypeId)(sz bytes:Nat):Prop where
 h:Ed P dV e sz bytes=true
theorem iG.out{P:Program}{dV e:TypeId}{sz bytes:Nat}(h:iG P dV e sz bytes):
 P.underlying dV=some (.slice e)/\∃i z,P.info? e=some i/\(P.underlying e).isSome=true/\i.zero=some z/\z.cells.size=sz/\P.cellsOf e=sz/\i.bytes=bytes/\bytes≠0:=by
 have h:=h.h;unfold Ed at h;split at h
 .rename_i e' i d h1 b c
  simp only[dH,jy,bne_iff_ne]at h;obtain⟨⟨⟨⟨rfl,a⟩,f⟩,g⟩,j⟩:=h;split at a
  .rename_i z k
   exact⟨h1,i,z,b,by simp[c],k,by simpa using a,f,g,j⟩
  .cases a
 .cases h
theorem iG.append{P:Program}{w:I}{dV e df:TypeId}{sz bytes:Nat}{s x:ae}{xs vs:O Y}(h:iG P dV e sz bytes)
 (c:Src sz w x xs) (d:aT sz e w s vs) (f:∀v∈xs,Plain v) (g:(2*(s.len+x.len)+1000)*bytes<=281474976710656):
 ∃ (b:ae) (w':I),Sem.run P (Builtin.append_ #[dV,dV] df #[.slice s.a s.len s.cap,.slice x.a x.len x.cap]) w=.ok (.slice b.a b.len b.cap) w'/\
  aT sz e w' b (vs++xs)/\b.len=s.len+x.len/\af (aB s) w w'/\(∀k,aB b k->aB s k\/w.heap.size<=k):=by
 obtain⟨h1,i,z,j,l,m,n,o,rfl,p⟩:=h.out;exact IF rfl rfl h1 h1 j l m n o p c d f g
theorem Src.new{sz:Nat}{T:TypeId}(w:I)(xs:O Y)(n:Nat)(b:xs.length=n*sz):Src sz (w.alloc (.cells xs.toArray T)) ⟨some ⟨w.heap.size,0,none⟩,n,n⟩ xs:=by
 refine⟨b,(λh=>by cases h),λa c=>?_⟩
 cases c;rw[rJ (bc.new w xs.toArray T) _ _ _ (by simp[b])];simp[←b]
theorem aT.new{sz:Nat}{T:TypeId}(w:I)(xs:O Y)(n:Nat)(a:xs.length=n*sz)(hm:n<=maxLen):aT sz T (w.alloc (.cells xs.toArray T)) ⟨some ⟨w.heap.size,0,none⟩,n,n⟩ xs:=by
 refine⟨a,ba _,hm,.inr ⟨_,_,rfl,bc.new w _ _,by simp[a],?_⟩⟩;show List.take (n*sz) xs=xs;rw[←a,jz]
theorem aT.none(sz:Nat)(T:TypeId)(w:I):aT sz T w ⟨.none,0,0⟩ []:=⟨by simp,ba _,by decide,.inl ⟨rfl,rfl⟩⟩
theorem gU(k:Nat):¬aB ⟨.none,0,0⟩ k:=by rintro⟨A,ar,_⟩;cases ar
theorem mm{A:av}{n m k:Nat}:aB ⟨some A,n,m⟩ k↔A.block=k:=⟨λ⟨B,a,h⟩=>by cases a;exact h,λh=>⟨_,rfl,h⟩⟩
theorem Src.alloc{sz:Nat}{w:I}{s:ae}{vs:O Y}(h:Src sz w s vs)(o:Obj):Src sz (w.alloc o) s vs:=h.ak (W:=λ_=>False) (af.alloc (.refl _ _) o) (λ_ _ h=>h)
theorem aT.ext{sz:Nat}{T:TypeId}{w w':I}{s:ae}{vs:O Y}(h:aT sz T w s vs)(hc:Ext w w'):aT sz T w' s vs:=h.ak hc λ_ _ h=>h
theorem Src.ext{sz:Nat}{w w':I}{s:ae}{vs:O Y}(h:Src sz w s vs)(hc:Ext w w'):Src sz w' s vs:=h.ak hc λ_ _ h=>h
theorem iG.push{P:Program}{w:I}{dV e df:TypeId}{sz bytes:Nat}{s:ae}{vs xs:O Y}(h:iG P dV e sz bytes)(hx:xs.length=sz)
 (c:aT sz e w s vs) (d:∀v∈xs,Plain v) (f:(2*(s.len+1)+1000)*bytes<=281474976710656):
 ∃ (b:ae) (w':I),Sem.run P (Builtin.append_ #[dV,dV] df #[.slice s.a s.len s.cap,.slice (some ⟨w.heap.size,0,none⟩) 1 1]) (w.alloc (.cells xs.toArray e))=.ok (.slice b.a b.len b.cap) w'/\
  aT sz e w' b (vs++xs)/\b.len=s.len+1/\af (aB s) w w'/\(∀k,aB b k->aB s k\/w.heap.size<=k):=by
 have hc:Ext w (w.alloc (.cells xs.toArray e)):=af.alloc (.refl _ _) _;obtain⟨b,w',h1,g,i,j,l⟩:=h.append (df:=df) (Src.new (T:=e) w xs 1 (by simpa using hx)) (c.ext hc) d f;exact⟨b,w',h1,g,i,(af.bL hc).trans j,λk m=>(l k m).imp id (λh=>by simp at h;omega)⟩
theorem iG.clone{P:Program}{w:I}{dV e df:TypeId}{sz bytes:Nat}{x:ae}{xs:O Y}(h:iG P dV e sz bytes)
 (m:Src sz w x xs) (q:∀v∈xs,Plain v) (r:(2*x.len+1000)*bytes<=281474976710656):
 ∃ (f:ae) (w':I),Sem.run P (Builtin.append_ #[dV,dV] df #[.slice (some ⟨w.heap.size,0,none⟩) 0 0,.slice x.a x.len x.cap]) (w.alloc (.cells #[] e))=.ok (.slice f.a f.len f.cap) w'/\
  aT sz e w' f xs/\f.len=x.len/\Ext w w'/\(∀k,aB f k->w.heap.size<=k)/\f.a.isSome=true:=by
 have t:=aT.new (sz:=sz) (T:=e) w [] 0 (by simp) (by decide);have n:=m.alloc (.cells #[] e);obtain⟨f,w',h1,j,o,g,u⟩:=h.append (df:=df) n t q (by simpa using r);refine⟨f,w',h1,by simpa using j,by simpa using o,?_,λk l=>?_,?_⟩
 .refine⟨g.os.trans rfl,g.tape.trans rfl,g.output.trans rfl,?_,λk l _=>?_⟩
  .have:=g.size;simp at this;omega
  .rw[g.block k (by simp;omega) (by rintro⟨A,ar,h⟩;cases ar;simp at h;omega)]
   exact Below.heap_alloc _ _ _ l
 .rcases u k l with ⟨A,ar,h⟩|h
  .cases ar;simp at h;omega
  .simp at h;omega
 .obtain⟨_,i,z,F,y,G,H,B,rfl,J⟩:=h.out
  have hb:=j.2.2.2;rcases hb with ⟨C,hc⟩|⟨b,c,hb,_⟩
  .
   exfalso;have K:=j.2.1;have p:x.len=0:=by simp at o;omega
   have D:xs=[]:=rf.1 (by rw[m.len,p,Nat.zero_mul]);obtain⟨d,hd⟩:=k2 _ y;have:=Ec (P:=P) (w:=w.alloc (.cells #[] e)) (g5:= #[dV,dV]) (df:=df) (s:=⟨some ⟨w.heap.size,0,Option.none⟩,0,0⟩) rfl rfl h.out.1 h.out.1 hd B n (by simp[p]) (λa _=>by
    rw[D];exact⟨λi hi=>by simp at hi,λv E=>by simp at E⟩)
   rw[this]at h1;simp only[Result.ok.injEq,Value.slice.injEq]at h1;rw[C]at h1
   cases h1.1.1
  .rw[hb];rfl
theorem aT.at{T:TypeId}{w:I}{s:ae}{vs:O Y}(h:aT 1 T w s vs){i:Nat}{v:Y}(f:vs[i]? =some v):
 ∃A:av,s.a=some A/\((0:Int)<=(i:Int)/\(i:Int)<((s.len:Nat):Int))/\w.cell? (A.add (Int.toNat (i:Int)*1))=some v/\w.frozen? (A.add (Int.toNat (i:Int)*1))=false/\
  aB s (A.add (Int.toNat (i:Int)*1)).block/\∀d,aT 1 T (w.setCell (A.add (Int.toNat (i:Int)*1)) d) s (vs.set i d):=by
 obtain⟨b,c,hb,g,j,hi,k,hc,_⟩:=h.cell f;have e:(Addr.mk b 0 Option.none).add (Int.toNat (i:Int)*1)=⟨b,i,Option.none⟩:=by rw[gd,d_,aw,cz]
 exact⟨_,hb,⟨J,J⟩,by rw[e];exact hc,by rw[e];exact g.frozen _ rfl,by rw[e];exact⟨_,hb,rfl⟩,λd=>by rw[e];exact h.set hb d⟩
end aQ
namespace aQ
open Go Go.RowKit
def Ee(ns:O Int):ByteArray:=ns.foldl (λr n=>r.push (UInt8.ofNat n.toNat)) ByteArray.empty
theorem IG{P:Program}{w:I}{src dst e:TypeId}{s:ae}{ns:O Int}(hs:P.underlying src=some (.slice e))(he:P.underlying e=some (.int .u8))(hd:P.underlying dst=some .string)
 (h:Src 1 w s (ns.map (.int .u8))):Sem.run P (convert src dst (.slice s.a s.len s.cap)) w=.ok (.string (Ee ns)) w:=by
 rw[run_convert_bytes_string w src dst e s.a s.len s.cap hs he hd]
 cases b:s.a with
 |none=>
  have:=h.nil b;have d:ns=[]:=by simpa using this
  subst d;rfl
 |some A=>
  have c:=h.rd A b;rw[gd]at c;exact run_bytesToString w A s.len s.cap ns (by
   unfold loadCells;rw[run_loadCellsFrom _ _ _ _ c];simp)
theorem Ef{P:Program}{e:TypeId}{v:Y}(a:((P.info? e).bind (·.zero)).map (·.cells)=some #[v])(hc:P.cellsOf e=1)(n:Nat):hL P e n=(List.replicate n v).toArray:=by
 unfold hL;rw[hc]
 cases hi:(P.info? e).bind (·.zero) with
 |none=>rw[hi]at a;cases a
 |some z=>
  rw[hi]at a;simp only[mS,Option.some.injEq]at a;simp only[Option.getD_some,a,gd];apply Array.ext
  .simp
  .intro i h1 b
   have c:n≠0:=by
    intro h;subst h;simp at b
   simp[c,Nat.mod_one]
structure wM(P:Program)(w:I)(e:TypeId)(s:ae):Prop where
 le:s.len<=s.cap
 cap:s.cap<=maxLen
 nil:s.a=none->s.cap=0
 cell:∀a,s.a=some a->∀i,i<s.cap->∃vs,aV w (a.add (i*P.cellsOf e)) 0 (P.cellsOf e)=some vs/\∃fuel,gv P w fuel e vs
section
variable {P:Program}{w:I}{T:TypeId}{fuel:Nat}{cs:O Y}
theorem Eg{k:IntKind}(h:gv P w fuel T cs)(a:P.underlying T=some (.int k)):∃n:Int,cs=[.int k n]/\k.min<=n/\n<=k.max:=by
 cases fuel with
 |zero=>cases h
 |succ f=>simpa only[gv,a] using h
theorem IH{e:TypeId}(h:gv P w fuel T cs)(b:P.underlying T=some (.slice e)):∃s:ae,cs=[.slice s.a s.len s.cap]/\wM P w e s:=by
 cases fuel with
 |zero=>cases h
 |succ f=>
  simp only[gv,b]at h;obtain⟨s,h0,h1,c,d,g⟩:=h;exact⟨s,h0,h1,c,d,λa j i hi=>by
   obtain⟨vs,k,l⟩:=g a j i hi;exact⟨vs,k,f,l⟩⟩
theorem II{fs:Array Field}(h:gv P w fuel T cs)(a:P.underlying T=some (.struct fs)):cs.length=P.cellsOf T/\∀f∈fs,∃fuel,gv P w fuel f.type ((cs.drop f.offset).take (P.cellsOf f.type)):=by
 cases fuel with
 |zero=>cases h
 |succ f=>
  simp only[gv,a]at h;exact⟨h.1,λg hg=>⟨f,h.2 g hg⟩⟩
end
theorem oH{w:I}{A:av}:∀ {n i:Nat}{vs:O Y}{j:Nat}{v:Y},aV w A i n=some vs->vs[j]? =some v->w.cell? (A.add (i+j))=some v
 |0,i,vs,j,v,h,a=>by simp[aV]at h;subst h;simp at a
 |n+1,i,vs,j,v,h,a=>by
  simp only[aV]at h
  cases h1:w.cell? (A.add i) with
  |none=>simp[h1]at h
  |some u=>
   cases b:aV w A (i+1) n with
   |none=>simp[h1,b]at h
   |some us=>
    simp only[h1,b,Option.some.injEq]at h
    subst h
    cases j with
    |zero=>simp at a;subst a;exact h1
    |succ j=>
     have:=oH b (j:=j) (by simpa using a)
     rw[show i+(j+1)=i+1+j from J]
     exact this
theorem Src.at{w:I}{s:ae}{vs:O Y}(h:Src 1 w s vs){i:Nat}{v:Y}(b:vs[i]? =some v):
 ∃A:av,s.a=some A/\((0:Int)<=(i:Int)/\(i:Int)<((s.len:Nat):Int))/\w.cell? (A.add (Int.toNat (i:Int)*1))=some v:=by
 have hi:i<vs.length:=(l9.1 b).1;have d:=h.len
 cases c:s.a with
 |none=>have:=h.nil c;subst this;simp at hi
 |some A=>
  have:=oH (h.rd A c) b;exact⟨A,rfl,⟨J,J⟩,by rw[gd,d_];simpa using this⟩
end aQ
