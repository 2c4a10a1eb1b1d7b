/- What a Go program of the model must show, as text that can be read; sound against the kit. -/
import Derived.Below
import Derived.KernelRfl
import Derived.Laws.BytesString
import Derived.OpenShut
import Derived.OrdersHeld
import Derived.ProofKit
import Derived.StillTail
import Derived.Tactics
import Derived.WalkKit
import Derived.WideKeyArgs
namespace Go
theorem bl:type_of% @Nat.le_refl:=@Nat.le_refl
theorem cj:type_of% @of_decide_eq_true:=@of_decide_eq_true
theorem cp:type_of% @List.length_append:=@List.length_append
theorem cq:type_of% @decide_eq_true_eq:=@decide_eq_true_eq
theorem cz:type_of% @List.append_assoc:=@List.append_assoc
theorem cH:type_of% @of_decide_eq_false:=@of_decide_eq_false
theorem cI:type_of% @List.length_take:=@List.length_take
theorem cK:type_of% @List.mem_append:=@List.mem_append
theorem cL:type_of% @Nat.zero_le:=@Nat.zero_le
theorem cN:type_of% @List.getElem_mem:=@List.getElem_mem
theorem cR:type_of% @Nat.zero_add:=@Nat.zero_add
theorem cX:type_of% @List.mem_cons:=@List.mem_cons
theorem c7:type_of% @Bool.and_eq_true:=@Bool.and_eq_true
theorem dg:type_of% @Int.toNat_natCast:=@Int.toNat_natCast
theorem di:type_of% @List.length_map:=@List.length_map
theorem dj:type_of% @List.length_set:=@List.length_set
theorem dC:type_of% @List.getElem?_eq_getElem:=@List.getElem?_eq_getElem
theorem dI:type_of% @decide_eq_true:=@decide_eq_true
theorem dX:type_of% @List.take_of_length_le:=@List.take_of_length_le
theorem ec:type_of% @Nat.lt_or_ge:=@Nat.lt_or_ge
theorem ed:type_of% @List.length_drop:=@List.length_drop
theorem eK:type_of% @Nat.le_trans:=@Nat.le_trans
theorem fa:type_of% @Nat.lt_of_lt_of_le:=@Nat.lt_of_lt_of_le
theorem fb:type_of% @List.mem_singleton:=@List.mem_singleton
theorem fi:type_of% @Bool.not_eq_true:=@Bool.not_eq_true
theorem fj:type_of% @List.getElem_of_mem:=@List.getElem_of_mem
theorem fk:type_of% @List.not_mem_nil:=@List.not_mem_nil
theorem fl:type_of% @List.getElem_set_ne:=@List.getElem_set_ne
theorem ft:type_of% @Nat.mul_one:=@Nat.mul_one
theorem fu:type_of% @List.append_nil:=@List.append_nil
theorem fv:type_of% @or_false:=@or_false
theorem fC:type_of% @Bool.eq_iff_iff:=@Bool.eq_iff_iff
theorem fD:type_of% @List.mem_map:=@List.mem_map
theorem fH:type_of% @List.mem_of_mem_drop:=@List.mem_of_mem_drop
theorem fI:type_of% @List.take_append_drop:=@List.take_append_drop
theorem fJ:type_of% @List.map_append:=@List.map_append
theorem fK:type_of% @List.mem_of_mem_take:=@List.mem_of_mem_take
theorem fL:type_of% @List.getD_eq_getElem?_getD:=@List.getD_eq_getElem?_getD
theorem fT:type_of% @Bool.false_eq_true:=@Bool.false_eq_true
theorem fY:type_of% @List.length_cons:=@List.length_cons
theorem gG:type_of% @List.mem_filter:=@List.mem_filter
theorem gZ:type_of% @Nat.mod_lt:=@Nat.mod_lt
theorem g0:type_of% @List.map_cons:=@List.map_cons
theorem g1:type_of% @List.filter_append:=@List.filter_append
theorem hU:type_of% @List.nil_append:=@List.nil_append
theorem hV:type_of% @Nat.min_eq_left:=@Nat.min_eq_left
theorem ia:type_of% @Nat.eq_of_beq_eq_true:=@Nat.eq_of_beq_eq_true
theorem ib:type_of% @Bool.true_and:=@Bool.true_and
theorem ic:type_of% @Nat.add_mul:=@Nat.add_mul
theorem ie:type_of% @List.filter_eq_self:=@List.filter_eq_self
theorem ig:type_of% @List.mem_append_right:=@List.mem_append_right
theorem ih:type_of% @decide_eq_false:=@decide_eq_false
theorem ij:type_of% @List.getElem_set_self:=@List.getElem_set_self
theorem iE:type_of% @Bool.not_eq_true':=@Bool.not_eq_true'
theorem iF:type_of% @List.drop_zero:=@List.drop_zero
theorem iG:type_of% @List.length_singleton:=@List.length_singleton
theorem iH:type_of% @List.getElem?_append_right:=@List.getElem?_append_right
theorem iY:type_of% @Bool.or_eq_true:=@Bool.or_eq_true
theorem ju:type_of% @List.getElem?_eq_some_iff:=@List.getElem?_eq_some_iff
theorem jv:type_of% @List.mem_cons_of_mem:=@List.mem_cons_of_mem
theorem jw:type_of% @List.pairwise_cons:=@List.pairwise_cons
theorem jU:type_of% @decide_eq_false_iff_not:=@decide_eq_false_iff_not
theorem jV:type_of% @List.mem_range:=@List.mem_range
theorem jW:type_of% @List.drop_eq_getElem_cons:=@List.drop_eq_getElem_cons
theorem jX:type_of% @Nat.mod_eq_of_lt:=@Nat.mod_eq_of_lt
theorem jY:type_of% @List.mem_append_left:=@List.mem_append_left
theorem jZ:type_of% @List.find?_eq_none:=@List.find?_eq_none
theorem j0:type_of% @List.mem_of_find?_eq_some:=@List.mem_of_find?_eq_some
theorem j1:type_of% @List.count_pos_iff:=@List.count_pos_iff
theorem kr:type_of% @List.take_succ_eq_append_getElem:=@List.take_succ_eq_append_getElem
theorem kt:type_of% @beq_iff_eq:=@beq_iff_eq
theorem ku:type_of% @List.take_length:=@List.take_length
theorem kT:type_of% @List.drop_drop:=@List.drop_drop
theorem kU:type_of% @List.find?_some:=@List.find?_some
theorem kV:type_of% @Bool.false_and:=@Bool.false_and
theorem kW:type_of% @List.length_nil:=@List.length_nil
theorem kX:type_of% @List.filter_cons:=@List.filter_cons
theorem lp:type_of% @Array.getElem?_eq_some_iff:=@Array.getElem?_eq_some_iff
theorem lq:type_of% @UInt8.toNat_lt:=@UInt8.toNat_lt
theorem lr:type_of% @List.filter_eq_nil_iff:=@List.filter_eq_nil_iff
theorem lu:type_of% @List.sum_append:=@List.sum_append
theorem lv:type_of% @List.pairwise_iff_getElem:=@List.pairwise_iff_getElem
theorem lV:type_of% @Nat.add_zero:=@Nat.add_zero
theorem lW:type_of% @List.cons_append:=@List.cons_append
theorem lX:type_of% @List.length_eq_zero_iff:=@List.length_eq_zero_iff
theorem lY:type_of% @Option.map_some:=@Option.map_some
theorem lZ:type_of% @List.map_drop:=@List.map_drop
theorem l0:type_of% @List.map_take:=@List.map_take
theorem l1:type_of% @List.length_replicate:=@List.length_replicate
theorem l2:type_of% @List.pairwise_append:=@List.pairwise_append
theorem l3:type_of% @Bool.not_eq_false':=@Bool.not_eq_false'
theorem mL:type_of% @Option.isSome_iff_exists:=@Option.isSome_iff_exists
theorem mM:type_of% @Nat.testBit_or:=@Nat.testBit_or
theorem mN:type_of% @List.getElem?_cons_zero:=@List.getElem?_cons_zero
theorem mO:type_of% @Bool.false_or:=@Bool.false_or
theorem mP:type_of% @Nat.le_of_ble_eq_true:=@Nat.le_of_ble_eq_true
theorem mQ:type_of% @Nat.sub_zero:=@Nat.sub_zero
theorem mR:type_of% @Nat.zero_mul:=@Nat.zero_mul
theorem mS:type_of% @Nat.mul_le_mul_right:=@Nat.mul_le_mul_right
theorem mT:type_of% @Int.tmod_eq_emod_of_nonneg:=@Int.tmod_eq_emod_of_nonneg
theorem mU:type_of% @List.perm_middle:=@List.perm_middle
theorem mV:type_of% @List.ext_getElem:=@List.ext_getElem
theorem mW:type_of% @List.getElem_take:=@List.getElem_take
theorem mX:type_of% @List.mem_or_eq_of_mem_set:=@List.mem_or_eq_of_mem_set
theorem mY:type_of% @List.length_filter_le:=@List.length_filter_le
theorem nQ:type_of% @Nat.sub_self:=@Nat.sub_self
theorem nR:type_of% @Nat.one_mul:=@Nat.one_mul
theorem nS:type_of% @List.map_map:=@List.map_map
theorem nT:type_of% @List.getElem_set:=@List.getElem_set
theorem nU:type_of% @List.length_zip:=@List.length_zip
theorem nV:type_of% @List.take_take:=@List.take_take
theorem nW:type_of% @List.getElem?_map:=@List.getElem?_map
theorem nX:type_of% @List.getElem_append_left:=@List.getElem_append_left
theorem nY:type_of% @List.take_left':=@List.take_left'
theorem nZ:type_of% @List.getElem?_eq_none:=@List.getElem?_eq_none
theorem n0:type_of% @Nat.eq_zero_or_pos:=@Nat.eq_zero_or_pos
theorem n1:type_of% @List.count_append:=@List.count_append
theorem pz:type_of% @List.all_eq_true:=@List.all_eq_true
theorem pA:type_of% @Bool.and_true:=@Bool.and_true
theorem pB:type_of% @List.mem_cons_self:=@List.mem_cons_self
theorem pC:type_of% @Option.some_get:=@Option.some_get
theorem pD:type_of% @List.getElem_append_right:=@List.getElem_append_right
theorem pE:type_of% @List.exists_mem_of_ne_nil:=@List.exists_mem_of_ne_nil
theorem pF:type_of% @List.zipWith_append:=@List.zipWith_append
theorem pG:type_of% @List.take_append_of_le_length:=@List.take_append_of_le_length
theorem pH:type_of% @List.count_cons:=@List.count_cons
theorem pI:type_of% @List.count_nil:=@List.count_nil
theorem pJ:type_of% @List.filter_congr:=@List.filter_congr
theorem q9:type_of% @List.any_eq_false:=@List.any_eq_false
theorem q_:type_of% @List.filterMap_cons:=@List.filterMap_cons
theorem ra:type_of% @List.filterMap_append:=@List.filterMap_append
theorem rf:type_of% @Nat.testBit_two_pow:=@Nat.testBit_two_pow
theorem rh:type_of% @Bool.or_eq_false_iff:=@Bool.or_eq_false_iff
theorem ri:type_of% @List.getElem?_toArray:=@List.getElem?_toArray
theorem rj:type_of% @UInt8.toNat_inj:=@UInt8.toNat_inj
theorem rk:type_of% @List.of_mem_zip:=@List.of_mem_zip
theorem rl:type_of% @List.sum_cons:=@List.sum_cons
theorem rm:type_of% @List.perm_append_comm:=@List.perm_append_comm
theorem rn:type_of% @List.getElem_drop:=@List.getElem_drop
theorem rp:type_of% @UInt8.toNat_ofNat':=@UInt8.toNat_ofNat'
theorem rq:type_of% @List.toList_toArray:=@List.toList_toArray
theorem ru:type_of% @List.drop_eq_nil_of_le:=@List.drop_eq_nil_of_le
theorem sY:type_of% @Array.getElem?_modify:=@Array.getElem?_modify
theorem sZ:type_of% @List.getElem?_drop:=@List.getElem?_drop
theorem s0:type_of% @List.range_eq_range':=@List.range_eq_range'
theorem s3:type_of% @Option.map_eq_some_iff:=@Option.map_eq_some_iff
theorem s4:type_of% @List.getElem?_take:=@List.getElem?_take
theorem s5:type_of% @List.nodup_append:=@List.nodup_append
theorem s6:type_of% @List.getElem_mapIdx:=@List.getElem_mapIdx
theorem s7:type_of% @List.set_append_right:=@List.set_append_right
theorem s8:type_of% @List.getElem?_append_left:=@List.getElem?_append_left
theorem s9:type_of% @Nat.pow_le_pow_right:=@Nat.pow_le_pow_right
theorem s_:type_of% @List.take_sublist:=@List.take_sublist
theorem ta:type_of% @List.getElem_zip:=@List.getElem_zip
theorem tb:type_of% @List.mem_iff_getElem:=@List.mem_iff_getElem
theorem tc:type_of% @List.size_toArray:=@List.size_toArray
theorem wI:type_of% @Int.tdiv_eq_ediv_of_nonneg:=@Int.tdiv_eq_ediv_of_nonneg
theorem wJ:type_of% @List.eq_of_mem_replicate:=@List.eq_of_mem_replicate
theorem wK:type_of% @List.set_eq_take_append_cons_drop:=@List.set_eq_take_append_cons_drop
theorem wL:type_of% @Int.eq_ofNat_of_zero_le:=@Int.eq_ofNat_of_zero_le
theorem wM:type_of% @List.eq_nil_of_length_eq_zero:=@List.eq_nil_of_length_eq_zero
theorem I{p:Prop}(h:p:=by omega):p:=h
abbrev J:=World
abbrev aa:=Value
abbrev av(α:Type):=Option α
abbrev O(α:Type):=List α
abbrev ag:=Addr
abbrev al:=Bool
end Go
namespace aQ
open Go
structure ad where
 a:av ag
 len:Nat
 cap:Nat
instance:Coe ad Value:=⟨λs=>.slice s.a s.len s.cap⟩
instance:Coe Int Value:=⟨λn=>.int .i64 n⟩
instance:Coe Nat Value:=⟨λn=>.int .i64 (n:Int)⟩
instance:Coe Bool Value:=⟨λb=>.bool b⟩
instance:Coe Nat Addr:=⟨λb=>⟨b,0,none⟩⟩
instance:Coe (Option Addr) Value:=⟨λp=>.pointer p⟩
instance:Coe Unit Value:=⟨λ_=>.slice none 0 0⟩
structure ik where
 f:FuncId
 pre:Array aa
 cap:Array aa
inductive cO where
 |int (k:IntKind)|bool|str|ptr|slice|map|agg|fn|any
def cO.T:cO->Type
 | .int _=>Int
 | .bool=>al
 | .str=>ByteArray
 | .ptr=>av ag
 | .slice=>ad
 | .map=>av Nat
 | .agg=>Array aa
 | .fn=>ik
 | .any=>aa
def cO.v:(l:cO)->l.T->aa
 | .int k,(n:Int)=>.int k n
 | .bool,(b:al)=>.bool b
 | .str,(s:ByteArray)=>.string s
 | .ptr,(p:av ag)=>.pointer p
 | .slice,(s:ad)=>.slice s.a s.len s.cap
 | .map,(r:av Nat)=>.map r
 | .agg,(cs:Array aa)=>.agg cs
 | .fn,(F:ik)=>.func (.func F.f) F.pre F.cap
 | .any,(v:aa)=>v
inductive Kd where
 |one (l:cO)
 |flat (ls:O cO)
def n2(l:cO)(K:aa->Prop):Prop:=
 match l with
 | .int k=>∃n:Int,K (.int k n)
 | .bool=>∃b:al,K (.bool b)
 | .str=>∃s:ByteArray,K (.string s)
 | .ptr=>∃p:av ag,K (.pointer p)
 | .slice=>∃s:ad,K (.slice s.a s.len s.cap)
 | .map=>∃r:av Nat,K (.map r)
 | .agg=>∃cs:Array aa,K (.agg cs)
 | .fn=>∃F:ik,K (.func (.func F.f) F.pre F.cap)
 | .any=>∃v:aa,K v
def wN:O cO->(O aa->Prop)->Prop
 | [],K=>K []
 |l::ls,K=>n2 l λv=>wN ls λvs=>K (v::vs)
def wO(k:Kd)(K:aa->Prop):Prop:=
 match k with
 | .one l=>n2 l K
 | .flat ls=>wN ls λvs=>K (.agg vs.toArray)
def td:O Kd->(O aa->Prop)->Prop
 | [],K=>K []
 |k::ks,K=>wO k λv=>td ks λvs=>K (v::vs)
theorem pK{l:cO}{K:aa->Prop}(h:n2 l K):∃v,K v:=by
 cases l<;>simp only[n2]at h<;>obtain⟨x,h⟩:=h<;>exact⟨_,h⟩
theorem zx:∀ {ls:O cO}{K:O aa->Prop},wN ls K->∃vs,K vs
 | [],_,h=>⟨_,h⟩
 |_::_,_,h=>let ⟨_,h⟩:=pK h;let ⟨_,h⟩:=zx h;⟨_,h⟩
theorem zy{k:Kd}{K:aa->Prop}(h:wO k K):∃v,K v:=by
 cases k with
 |one l=>exact pK h
 |flat ls=>obtain⟨_,h⟩:=zx h;exact⟨_,h⟩
theorem wP:∀ {ls:O Kd}{K:O aa->Prop},td ls K->∃vs,K vs
 | [],_,h=>⟨_,h⟩
 |_::_,_,h=>let ⟨_,h⟩:=zy h;let ⟨_,h⟩:=wP h;⟨_,h⟩
abbrev Env:=O (Nat×aa)
def Env.get:Env->Nat->av aa
 | [],_=>none
 |(k,v)::e,s=>bif Nat.beq k s then some v else Env.get e s
def ev(e:Env):Operand->av aa
 | .tmp t=>e.get t
 | .const v=>some v
 | .global g=>some (.pointer (some ⟨g,0,none⟩))
 | .func f=>some (.func (.func f) #[] #[])
def ro(e:Env)(x:Operand):aa:=(ev e x).getD undef
def known(e:Env)(xs:Array Operand):al:=xs.toList.all λx=>(ev e x).isSome
structure dh(e:Env)(a:Act):Prop where
 get:∀s v,e.get s=some v->a.tmps[s]? =some v
theorem dh.ev{e:Env}{a:Act}(h:dh e a){x:Operand}{v:aa}(hx:ev e x=some v):a.eval x=v:=by
 cases x with
 |tmp t=>
  have:=h.get t v hx;simp[Act.eval,Array.getD_eq_getD_getElem?,this]
 |const c=>simpa[aQ.ev,Act.eval] using hx
 |global g=>simpa[aQ.ev,Act.eval] using hx
 |func f=>simpa[aQ.ev,Act.eval] using hx
theorem dh.ro{e:Env}{a:Act}(h:dh e a){x:Operand}(hx:(aQ.ev e x).isSome=true):a.eval x=ro e x:=by
 obtain⟨v,b⟩:=mL.1 hx;rw[h.ev b,aQ.ro,b];rfl
def c8(d:av Nat)(v:aa)(e:Env):Env:=
 match d with
 |some d=>(d,v)::e
 |none=>e
theorem n3(d:Nat)(v:aa)(e:Env)(s:Nat):Env.get ((d,v)::e) s=if d=s then some v else e.get s:=by
 simp only[Env.get,cond_eq_ite];by_cases a:d=s
 .subst a;simp
 .have:Nat.beq d s=false:=by
   cases b:Nat.beq d s
   .rfl
   .exact absurd (ia b) a
  simp[this,a]
theorem dh.put{e:Env}{a:Act}(h:dh e a){d:av Nat}{v:aa}(hd:∀k,d=some k->k<a.tmps.size):dh (c8 d v e) (a.put d v):=by
 cases d with
 |none=>exact h
 |some d=>
  constructor;intro s u hs;rw[c8,n3]at hs;simp only[Act.put];by_cases b:d=s
  .subst b
   simp only[if_true,Option.some.injEq]at hs;subst hs;simp[hd d rfl]
  .rw[if_neg b]at hs
   rw[Array.getElem?_setIfInBounds_ne b];exact h.get s u hs
inductive dD where
 |one (k:Kd)
 |e1 (ks:O Kd)
def hW(r:dD)(K:aa->Prop):Prop:=
 match r with
 | .one k=>wO k K
 | .e1 ks=>td ks λvs=>K (.tuple vs.toArray)
theorem il{r:dD}{K:aa->Prop}(h:hW r K):∃v,K v:=by
 cases r with
 |one k=>exact zy h
 |e1 ks=>obtain⟨_,h⟩:=wP h;exact⟨_,h⟩
def bw(w:J)(A:ag):Nat->Nat->av (O aa)
 |_,0=>some []
 |i,n+1=>match w.cell? (A.add i),bw w A (i+1) n with
  |some v,some vs=>some (v::vs)
  |_,_=>none
def setCells(w:J)(A:ag):Nat->O aa->J
 |_,[]=>w
 |i,v::vs=>setCells (w.setCell (A.add i) v) A (i+1) vs
def Plain:aa->Prop
 | .agg _=>False
 | .tuple _=>False
 |_=>True
def bI(w:J)(A:ag)(vs:O aa):Prop:=
 (∀i,i<vs.length->(w.cell? (A.add i)).isSome=true/\w.frozen? (A.add i)=false)/\∀v∈vs,Plain v
def gH:TypeDesc->al
 | .struct _=>true
 | .array _ _=>true
 |_=>false
def gS(P:Program)(elem:TypeId)(n:Nat):Array aa:=
 let zero:=if n*P.cellsOf elem=0 then #[] else (((P.info? elem).bind (·.zero)).getD undef).cells
 (Array.range (n*P.cellsOf elem)).map (zero[· %zero.size]!)
section
variable {P:Program}{w:J}
theorem cZ{t:TypeId}{d:TypeDesc}(h:P.underlying t=some d):(underlying t).run P w=.ok d w:=by
 simp[underlying,program,Sem.run,bind,Sem.bind,h,pure]
theorem mZ{t:TypeId}{d:TypeInfo}(h:P.info? t=some d):(typeInfo t).run P w=.ok d w:=by
 simp[typeInfo,program,Sem.run,bind,Sem.bind,h,pure]
theorem info_of_underlying{t:TypeId}{d:TypeDesc}(h:P.underlying t=some d):∃i,P.info? t=some i:=by
 unfold Program.underlying at h
 cases hi:P.info? t with
 |none=>simp[hi]at h
 |some i=>exact⟨i,rfl⟩
theorem g2{t:TypeId}{d:TypeDesc}(h:P.underlying t=some d):(Go.sizeOf t).run P w=.ok (P.cellsOf t) w:=by
 obtain⟨i,hi⟩:=info_of_underlying h;simp[Go.sizeOf,mZ hi,Program.cellsOf,hi]
theorem pL{t:TypeId}{d:TypeDesc}(h:P.underlying t=some d):(isAgg t).run P w=.ok (gH d) w:=by
 simp only[isAgg,Sem.run_bind,cZ h,Result.andThen]
 cases d<;>rfl
theorem wQ{A:ag}{v:aa}(h:w.cell? A=some v):(load A).run P w=.ok v w:=by
 simp[load,Sem.run,h]
theorem run_loadCellsFrom{A:ag}:∀ (n i:Nat) (acc:Array aa) (vs:O aa),bw w A i n=some vs->
 (loadCellsFrom A i n acc).run P w=.ok (acc++vs.toArray) w
 |0,i,acc,vs,h=>by
  simp only[bw,Option.some.injEq]at h
  subst h
  simp[loadCellsFrom]
 |n+1,i,acc,vs,h=>by
  simp only[bw]at h
  cases h1:w.cell? (A.add i) with
  |none=>simp[h1]at h
  |some v=>
   cases h2:bw w A (i+1) n with
   |none=>simp[h1,h2]at h
   |some us=>
    simp only[h1,h2,Option.some.injEq]at h
    subst h
    simp only[loadCellsFrom,Sem.run_bind,wQ h1,Result.andThen]
    rw[run_loadCellsFrom n (i+1) (acc.push v) us h2]
    simp
theorem te{T:TypeId}{d:TypeDesc}(a:P.underlying T=some d)(hd:gH d=true){A:ag}{vs:O aa}(h:bw w A 0 (P.cellsOf T)=some vs):
 (loadVar T A).run P w=.ok (.agg vs.toArray) w:=by
 simp only[loadVar,Sem.run_bind,pL a,Result.andThen,hd,if_true,g2 a,loadCells,run_loadCellsFrom _ _ _ _ h];simp
theorem zz{T:TypeId}{d:TypeDesc}(a:P.underlying T=some d)(hd:gH d=false){A:ag}{v:aa}(h:w.cell? A=some v):
 (loadVar T A).run P w=.ok v w:=by
 simp only[loadVar,Sem.run_bind,pL a,Result.andThen,hd,fT,if_false,wQ h]
theorem DN{A:ag}{v u:aa}(a:Plain v)(h:w.cell? A=some u)(hf:w.frozen? A=false):(store A v).run P w=.ok () (w.setCell A v):=by
 cases v<;>simp_all [store,Sem.run,Plain]
theorem DO(w:J)(A B:ag)(v:aa):((w.setCell A v).cell? B).isSome=(w.cell? B).isSome:=by
 simp only[World.setCell,World.cell?,sY];by_cases a:A.block=B.block
 .simp only[a,if_true]
  cases w.heap[B.block]? with
  |none=>rfl
  |some o=>
   cases o<;>simp
   by_cases hs:B.spot.isSome<;>simp[hs]
   by_cases b:A.spot.isSome<;>simp[b]
   rw[fC];simp
 .simp[a]
theorem DP(w:J)(A B:ag)(v:aa):(w.setCell A v).frozen? B=w.frozen? B:=by
 simp only[World.setCell,World.frozen?,sY];by_cases a:A.block=B.block
 .simp only[a,if_true]
  cases w.heap[B.block]? with
  |none=>rfl
  |some o=>cases o<;>rfl
 .simp[a]
theorem pM{A:ag}:∀ (vs:O aa) (i:Nat) (w:J),(∀j,j<vs.length->(w.cell? (A.add (i+j))).isSome=true/\w.frozen? (A.add (i+j))=false)->(∀v∈vs,Plain v)->
 (storeCells A vs i).run P w=.ok () (setCells w A i vs)
 | [],i,w,_,_=>rfl
 |v::vs,i,w,h,a=>by
  have h0:=h 0 (by simp)
  simp only[lV]at h0
  obtain⟨u,hu⟩:=mL.1 h0.1
  simp only[storeCells,Sem.run_bind,DN (P:=P) (a v (by simp)) hu h0.2,Result.andThen,setCells]
  refine pM vs (i+1) (w.setCell (A.add i) v) (λj b=>?_) (λx hx=>a x (by simp[hx]))
  have:=h (j+1) (by simp;omega)
  rw[DO,DP,show i+1+j=i+(j+1) from I]
  exact this
theorem zA{T:TypeId}{d:TypeDesc}(a:P.underlying T=some d){A:ag}{v:aa}(hs:v.cells.size=P.cellsOf T)(h:bI w A v.cells.toList):
 (storeVar T A v).run P w=.ok () (setCells w A 0 v.cells.toList):=by
 simp only[storeVar,Sem.run_bind,g2 a,Result.andThen,hs,ne_eq,not_true,if_false];simpa using pM v.cells.toList 0 w (by simpa using h.1) h.2
end
def wR:O cO->ag->Nat->J->(O aa->Prop)->Prop
 | [],_,_,_,K=>K []
 |l::ls,A,i,w,K=>n2 l λv=>w.cell? (A.add i)=some v/\wR ls A (i+1) w λvs=>K (v::vs)
def pN(P:Program)(tk:TypeId->dD)(T:TypeId)(A:ag)(w:J)(K:aa->Prop):Prop:=
 match P.underlying T with
 |none=>False
 |some d=>
  bif gH d then
   match tk T with
   | .one (.flat ls)=>bif Nat.beq (P.cellsOf T) ls.length then wR ls A 0 w λvs=>K (.agg vs.toArray) else False
   |_=>∃cs:O aa,bw w A 0 (P.cellsOf T)=some cs/\K (.agg cs.toArray)
  else
   match tk T with
   | .one (.one l)=>n2 l λv=>w.cell? A=some v/\K v
   |_=>False
def wS(P:Program)(tk:TypeId->dD)(T:TypeId)(A:ag)(x:aa)(w:J)(K:J->Prop):Prop:=
 match P.underlying T with
 |none=>False
 |some d=>
  bif gH d then
   match x with
   | .agg cs=>bI w A cs.toList/\cs.size=P.cellsOf T/\K (setCells w A 0 cs.toList)
   |_=>False
  else bif Nat.beq (P.cellsOf T) 1 then
   match tk T with
   | .one (.one .any)=>Plain x/\(∃u,w.cell? A=some u)/\w.frozen? A=false/\K (w.setCell A x)
   |_=>match x with
    | .agg _=>False
    | .tuple _=>False
    |_=>(∃u,w.cell? A=some u)/\w.frozen? A=false/\K (w.setCell A x)
  else False
def kx(P:Program)(T:TypeId)(xs ys:Array aa)(b:al):Prop:=
 P.eqGuardType P.depth T=false/\∀w,(Op.equal T (.agg xs) (.agg ys)).run P w=.ok b w
def n4:aa->av al
 | .nilIface=>some true
 | .iface _ _=>some false
 |_=>none
def n_:av TypeDesc->al
 |some (.interface _)=>true
 |_=>false
def l4:av TypeDesc->al
 |some (.pointer _)=>true
 |_=>false
def m0:av TypeDesc->al
 |some (.slice _)=>true
 |_=>false
def pO:av TypeDesc->al
 |some (.map _ _)=>true
 |_=>false
def j2:IntKind->IntKind->al:=λa b=>decide (a=b)
def tf(P:Program)(op:BinOp)(T:TypeId)(x y:aa)(K:aa->Prop)(G:Prop):Prop:=
 match y with
 | .nilIface=>bif n_ (P.underlying T) then
  match op with
  | .eql=>∃b,n4 x=some b/\K (.bool b)
  | .neq=>∃b,n4 x=some b/\K (.bool (!b))
  |_=>False
  else False
 | .pointer none=>bif l4 (P.underlying T) then
  match op,x with
  | .eql,.pointer p=>K (.bool p.isNone)
  | .neq,.pointer p=>K (.bool (!p.isNone))
  |_,_=>False
  else False
 | .slice none _ _=>bif m0 (P.underlying T) then
  match op,x with
  | .eql,.slice a _ _=>K (.bool a.isNone)
  | .neq,.slice a _ _=>K (.bool (!a.isNone))
  |_,_=>False
  else False
 | .map none=>bif pO (P.underlying T) then
  match op,x with
  | .eql,.map r=>K (.bool r.isNone)
  | .neq,.map r=>K (.bool (!r.isNone))
  |_,_=>False
  else False
 | .agg ys=>
  match op,x with
  | .eql,.agg xs=>∃b,kx P T xs ys b/\K (.bool b)
  | .neq,.agg xs=>∃b,kx P T xs ys b/\K (.bool (!b))
  |_,_=>False
 | .int c b=>
  match op,x with
  | .quo,.int k a=>bif j2 k c then b≠0/\K (.int k (k.wrap (a.tdiv b))) else False
  | .rem,.int k a=>bif j2 k c then b≠0/\K (.int k (a.tmod b)) else False
  | .shl,.int k a=>0<=b/\K (.int k (k.wrap (a*2^(min b.toNat k.bits))))
  | .shr,.int k a=>0<=b/\K (.int k (a.fdiv (2^(min b.toNat k.bits))))
  |_,_=>G
 | .bool b=>match P.underlying T with
  |some .bool=>match op,x with
   | .eql,.bool a=>K (.bool (a==b))
   | .neq,.bool a=>K (.bool (!(a==b)))
   |_,_=>False
  |_=>False
 | .string b=>
  match op,x with
  | .add,.string a=>((a.size+b.size:Nat):Int)<=9223372036854775807/\K (.string (a++b))
  |_,_=>G
 |_=>G
section
variable {P:Program}
theorem pP(T:TypeId)(x y:aa):Op.equal T x y=Op.equalIn (9999+1) T x y:=rfl
theorem DQ(d:Nat){T:TypeId}{x:aa}{b:al}(a:n_ (P.underlying T)=true)(h:n4 x=some b)(w:J):
 (Op.equalIn (d+1) T x .nilIface).run P w=.ok b w:=by
 cases hu:P.underlying T with
 |none=>simp[hu,n_]at a
 |some d=>
  cases d<;>simp only[hu,n_,fT]at a
  simp only[Op.equalIn,Sem.run_bind,cZ hu,Result.andThen]
  cases x<;>simp only[n4,reduceCtorEq,Option.some.injEq]at h<;>subst h<;>rfl
theorem DR(d:Nat){T:TypeId}{p:av ag}(a:l4 (P.underlying T)=true)(w:J):
 (Op.equalIn (d+1) T (.pointer p) (.pointer none)).run P w=.ok p.isNone w:=by
 cases hu:P.underlying T with
 |none=>simp[hu,l4]at a
 |some d=>
  cases d<;>simp only[hu,l4,fT]at a
  simp only[Op.equalIn,Sem.run_bind,cZ hu,Result.andThen]
  cases p<;>rfl
theorem DS(d:Nat){T:TypeId}{a:av ag}{l c e c':Nat}(b:m0 (P.underlying T)=true)(w:J):
 (Op.equalIn (d+1) T (.slice a l c) (.slice none e c')).run P w=.ok a.isNone w:=by
 cases hu:P.underlying T with
 |none=>simp[hu,m0]at b
 |some d=>
  cases d<;>simp only[hu,m0,fT]at b
  simp only[Op.equalIn,Sem.run_bind,cZ hu,Result.andThen]
  cases a<;>rfl
theorem DT(d:Nat){T:TypeId}{r:av Nat}(a:pO (P.underlying T)=true)(w:J):
 (Op.equalIn (d+1) T (.map r) (.map none)).run P w=.ok r.isNone w:=by
 cases hu:P.underlying T with
 |none=>simp[hu,pO]at a
 |some d=>
  cases d<;>simp only[hu,pO,fT]at a
  simp only[Op.equalIn,Sem.run_bind,cZ hu,Result.andThen]
  cases r<;>rfl
theorem zB{T:TypeId}{x:aa}{b:al}(a:n_ (P.underlying T)=true)(h:n4 x=some b)(w:J):
 (Op.equal T x .nilIface).run P w=.ok b w:=by rw[pP];exact DQ _ a h w
theorem tg{T:TypeId}{p:av ag}(a:l4 (P.underlying T)=true)(w:J):
 (Op.equal T (.pointer p) (.pointer none)).run P w=.ok p.isNone w:=by rw[pP];exact DR _ a w
theorem th{T:TypeId}{a:av ag}{l c b c':Nat}(d:m0 (P.underlying T)=true)(w:J):
 (Op.equal T (.slice a l c) (.slice none b c')).run P w=.ok a.isNone w:=by rw[pP];exact DS _ d w
theorem zC{T:TypeId}{r:av Nat}(a:pO (P.underlying T)=true)(w:J):
 (Op.equal T (.map r) (.map none)).run P w=.ok r.isNone w:=by rw[pP];exact DT _ a w
theorem zD{T:TypeId}{xs ys:Array aa}(h:P.eqGuardType P.depth T=false)(op:BinOp)(x y:Operand)(w:J):
 (eqGuard op T x y (.agg xs) (.agg ys)).run P w=.ok () w:=by
 cases op<;>simp[eqGuard,program,Sem.run,bind,Sem.bind,h,pure]
theorem zE{T:TypeId}{a b:al}(c:P.underlying T=some .bool)(w:J):(Op.equal T (.bool a) (.bool b)).run P w=.ok (a==b) w:=by
 have e:∀ (d:Nat) (w:J),(Op.equalIn (d+1) T (.bool a) (.bool b)).run P w=.ok (a==b) w:=by
  intro d w;simp[Op.equalIn,cZ c]
 rw[pP];exact e _ w
theorem zF{op:BinOp}{T:TypeId}{x y:aa}{iI pQ:Operand}{K:aa->Prop}{G:Prop}
 (j:y=.nilIface->∃c,pQ=.const c)
 (h:tf P op T x y K G):
 G\/∃v,(∀w,(do eqGuard op T iI pQ x y;binOp op T x y:Sem aa).run P w=.ok v w)/\K v:=by
 unfold tf at h;split at h
 case h_1=>
  obtain⟨c,hc⟩:=j rfl;by_cases d:n_ (P.underlying T)=true
  .rw[d]at h
   simp only[cond_true]at h;split at h
   .obtain⟨b,e,f⟩:=h
    refine .inr ⟨_,λw=>?_,f⟩;have:=zB (P:=P) d e w
    cases x<;>simp only[n4,reduceCtorEq,Option.some.injEq]at e<;>subst hc e<;>simp[eqGuard,binOp,this]
   .obtain⟨b,e,f⟩:=h
    refine .inr ⟨_,λw=>?_,f⟩;have:=zB (P:=P) d e w
    cases x<;>simp only[n4,reduceCtorEq,Option.some.injEq]at e<;>subst hc e<;>simp[eqGuard,binOp,this]
   .exact h.elim
  .simp only[fi]at d;rw[d]at h;exact h.elim
 case h_2=>
  by_cases d:l4 (P.underlying T)=true
  .rw[d]at h
   simp only[cond_true]at h;split at h
   .exact .inr ⟨_,λw=>by simp[eqGuard,binOp,tg (P:=P) d],h⟩
   .exact .inr ⟨_,λw=>by simp[eqGuard,binOp,tg (P:=P) d],h⟩
   .exact h.elim
  .simp only[fi]at d;rw[d]at h;exact h.elim
 case h_3=>
  by_cases d:m0 (P.underlying T)=true
  .rw[d]at h
   simp only[cond_true]at h;split at h
   .exact .inr ⟨_,λw=>by simp[eqGuard,binOp,th (P:=P) d],h⟩
   .exact .inr ⟨_,λw=>by simp[eqGuard,binOp,th (P:=P) d],h⟩
   .exact h.elim
  .simp only[fi]at d;rw[d]at h;exact h.elim
 case h_4=>
  by_cases d:pO (P.underlying T)=true
  .rw[d]at h
   simp only[cond_true]at h;split at h
   .exact .inr ⟨_,λw=>by simp[eqGuard,binOp,zC (P:=P) d],h⟩
   .exact .inr ⟨_,λw=>by simp[eqGuard,binOp,zC (P:=P) d],h⟩
   .exact h.elim
  .simp only[fi]at d;rw[d]at h;exact h.elim
 case h_5=>
  split at h
  .obtain⟨b,⟨h1,h2⟩,f⟩:=h
   exact .inr ⟨_,λw=>by simp[zD h1,binOp,h2],f⟩
  .obtain⟨b,⟨h1,h2⟩,f⟩:=h
   exact .inr ⟨_,λw=>by simp[zD h1,binOp,h2],f⟩
  .exact h.elim
 case h_6 i b=>
  split at h
  .rename_i k a
   by_cases g:k=i
   .subst g
    simp only[j2,decide_true,cond_true]at h;exact .inr ⟨_,λw=>by simp[eqGuard,binOp,Op.intDiv,h.1],h.2⟩
   .simp[j2,g]at h
  .rename_i k a
   by_cases g:k=i
   .subst g
    simp only[j2,decide_true,cond_true]at h;exact .inr ⟨_,λw=>by simp[eqGuard,binOp,Op.intDiv,h.1],h.2⟩
   .simp[j2,g]at h
  .exact .inr ⟨_,λw=>by simp[eqGuard,binOp,Op.shift,show¬b<0 from I],h.2⟩
  .exact .inr ⟨_,λw=>by simp[eqGuard,binOp,Op.shift,show¬b<0 from I],h.2⟩
  .exact .inl h
 case h_7 b=>
  split at h
  .rename_i d
   split at h
   .exact .inr ⟨_,λw=>by simp[eqGuard,binOp,zE d],h⟩
   .exact .inr ⟨_,λw=>by simp[eqGuard,binOp,zE d],h⟩
   .exact h.elim
  .exact h.elim
 case h_8 b=>
  split at h
  .rename_i a
   refine .inr ⟨_,λw=>?_,h.2⟩;have h1:=h.1;simp[eqGuard,binOp,Op.stringOp,IntKind.max,IntKind.signed,IntKind.bits];omega
  .exact .inl h
 case h_9=>exact .inl h
end
def ti(P:Program)(T:TypeId)(x:aa)(K:aa->Prop):Prop:=
 match P.underlying T with
 |some (.array n _)=>match x with
  | .slice a len _=>n<=len/\∃A,a=some A/\K (.pointer (some A))
  |_=>False
 |_=>False
def tj(P:Program)(T:TypeId)(x i:aa)(K:aa->Prop):Prop:=
 match i with
 | .int _ n=>
  match P.underlying T with
  |some (.slice elem)=>bif (P.underlying elem).isSome then
   match x with
   | .slice a len _=>∃A,a=some A/\(0<=n/\n<(len:Int))/\K (.pointer (some (A.add (n.toNat*P.cellsOf elem))))
   |_=>False
   else False
  |some (.array len elem)=>bif (P.underlying elem).isSome then
   match x with
   | .pointer (some A)=>(0<=n/\n<(len:Int))/\K (.pointer (some (A.add (n.toNat*P.cellsOf elem))))
   |_=>False
   else False
  |_=>False
 |_=>False
def rv(P:Program)(tk:TypeId->dD)(T:TypeId)(cs:Array aa)(off:Nat)(K:aa->Prop):Prop:=
 match P.underlying T with
 |none=>False
 |some d=>
  bif gH d then K (.agg (cs.extract off (off+P.cellsOf T)))
  else match tk T with
   | .one (.one l)=>n2 l λv=>cs[off]? =some v/\K v
   |_=>False
def tm(P:Program)(tk:TypeId->dD)(T:TypeId)(x i:aa)(K:aa->Prop):Prop:=
 match i with
 | .int _ n=>
  match P.underlying T with
  |some (.array len elem)=>match x with
   | .agg cs=>(0<=n/\n<(len:Int))/\rv P tk elem cs (n.toNat*P.cellsOf elem) K
   |_=>False
  |some .string=>match x with
   | .string s=>0<=n/\∃b:UInt8,s.data.toList[n.toNat]? =some b/\K (.int .u8 b.toNat)
   |_=>False
  |_=>False
 |_=>False
def tn(P:Program)(tk:TypeId->dD)(T:TypeId)(x:aa)(i:Nat)(K:aa->Prop):Prop:=
 match P.underlying T with
 |some (.struct fs)=>match fs[i]? with
  |some f=>match x with
   | .agg cs=>rv P tk f.type cs f.offset K
   |_=>False
  |none=>False
 |_=>False
def kY(v:av aa)(y d:Nat)(K:Nat->Prop):Prop:=
 match v with
 |none=>K d
 |some (.int _ i)=>(0<=i/\i<=(y:Int))/\K i.toNat
 |_=>False
def aY(a:av ag)(sz l m:Nat):av ag:=if m=l then a else a.map (·.add (l*sz))
def tp(P:Program)(T:TypeId)(x:aa)(lo hi b:av aa)(K:aa->Prop):Prop:=
 match P.underlying T with
 |some .string=>match b,x with
  |none,.string s=>kY hi s.size s.size λh=>kY lo h 0 λl=>K (.string (s.extract l h))
  |_,_=>False
 |some (.slice elem)=>bif (P.underlying elem).isSome then
  match x with
  | .slice a len cap=>match b with
   |none=>kY hi cap len λh=>kY lo h 0 λl=>K (.slice (aY a (P.cellsOf elem) l cap) (h-l) (cap-l))
   |some c=>match hi with
    |none=>False
    |some d=>kY (some c) cap 0 λm=>kY (some d) m 0 λh=>kY lo h 0 λl=>K (.slice (aY a (P.cellsOf elem) l m) (h-l) (m-l))
  |_=>False
  else False
 |some (.array n elem)=>bif (P.underlying elem).isSome then
  match b,x with
  |none,.pointer (some A)=>kY hi n n λh=>kY lo h 0 λl=>K (.slice (aY (some A) (P.cellsOf elem) l n) (h-l) (n-l))
  |_,_=>False
  else False
 |_=>False
def wT(P:Program)(T:TypeId)(l c:aa)(w:J)(K:aa->J->Prop):Prop:=
 match P.underlying T with
 |some (.slice elem)=>bif (P.underlying elem).isSome then
  bif ((P.info? elem).bind (·.zero)).isSome then
  match l,c with
  | .int _ n,.int _ m=>(0<=n/\n<=m/\m<=9223372036854775807/\(P.bytesOf elem:Int)*m<=140737488355328)/\
   K (.slice (some ⟨w.heap.size,0,none⟩) n.toNat m.toNat) {w with heap:=w.heap.push (.cells (gS P elem m.toNat) elem)}
  |_,_=>False
  else False
  else False
 |_=>False
section
variable {P:Program}{w:J}
theorem j3(o:av TypeDesc)(h:o.isSome=true):∃d,o=some d:=mL.1 h
theorem zG{T:TypeId}{x:aa}{K:aa->Prop}(h:ti P T x K):∃v,(∀w,(Instr.arrayAt T x).run P w=.ok v w)/\K v:=by
 unfold ti at h;split at h
 .rename_i n e b
  split at h
  .rename_i a len cap
   obtain⟨h1,A,rfl,c⟩:=h;exact⟨_,λw=>by simp[Instr.arrayAt,cZ b,Nat.not_lt.2 h1],c⟩
  .exact h.elim
 .exact h.elim
theorem zH{T:TypeId}{x i:aa}{K:aa->Prop}(h:tj P T x i K):∃v,(∀w,(Instr.indexAt T x i).run P w=.ok v w)/\K v:=by
 unfold tj at h;split at h
 .rename_i k n
  split at h
  .rename_i elem a
   by_cases he:(P.underlying elem).isSome=true
   .rw[he]at h
    simp only[cond_true]at h;split at h
    .obtain⟨A,rfl,b,c⟩:=h
     obtain⟨d,hd⟩:=j3 _ he;exact⟨_,λw=>by simp[Instr.indexAt,asIntOf,cZ a,b,g2 hd],c⟩
    .exact h.elim
   .simp only[fi]at he;rw[he]at h;exact h.elim
  .rename_i len elem a
   by_cases he:(P.underlying elem).isSome=true
   .rw[he]at h
    simp only[cond_true]at h;split at h
    .obtain⟨b,c⟩:=h
     obtain⟨d,hd⟩:=j3 _ he;exact⟨_,λw=>by simp[Instr.indexAt,asIntOf,Instr.sureAddr,cZ a,b,g2 hd],c⟩
    .exact h.elim
   .simp only[fi]at he;rw[he]at h;exact h.elim
  .exact h.elim
 .exact h.elim
theorem zI{tk:TypeId->dD}{T:TypeId}{cs:Array aa}{off:Nat}{K:aa->Prop}(h:rv P tk T cs off K):∃v,(∀w,(part T cs off).run P w=.ok v w)/\K v:=by
 unfold rv at h;split at h
 .exact h.elim
 .rename_i d a
  cases hd:gH d with
  |true=>
   rw[hd]at h;exact⟨_,λw=>by simp[part,pL a,hd,g2 a],h⟩
  |false=>
   rw[hd]at h;simp only[cond_false]at h;split at h
   .obtain⟨v,b,c⟩:=pK h
    exact⟨v,λw=>by simp[part,pL a,hd,b],c⟩
   .exact h.elim
theorem zJ{tk:TypeId->dD}{T:TypeId}{x i:aa}{K:aa->Prop}(h:tm P tk T x i K):∃v,(∀w,(Instr.index T x i).run P w=.ok v w)/\K v:=by
 unfold tm at h;split at h
 .rename_i k n
  split at h
  .rename_i len elem a
   split at h
   .obtain⟨c,h⟩:=h
    obtain⟨v,f,e⟩:=zI h;refine⟨v,λw=>?_,e⟩;have hs:(Go.sizeOf elem).run P w=.ok (P.cellsOf elem) w:=by
     unfold rv at h
     cases he:P.underlying elem with
     |none=>simp[he]at h
     |some d=>exact g2 he
    simp[Instr.index,asIntOf,cZ a,c,hs,f]
   .exact h.elim
  .rename_i a
   split at h
   .rename_i s
    obtain⟨c,b,hs,e⟩:=h;have g:s[n.toNat]? =some b:=by
     obtain⟨h1,h2⟩:=ju.1 hs;have j:n.toNat<s.size:=by simpa using h1
     rw[getElem?_pos s n.toNat j];simp only[Option.some.injEq];rw[←h2];rfl
    exact⟨_,λw=>by simp[Instr.index,asIntOf,cZ a,c,g],e⟩
   .exact h.elim
  .exact h.elim
 .exact h.elim
theorem zK{tk:TypeId->dD}{T:TypeId}{x:aa}{i:Nat}{K:aa->Prop}(h:tn P tk T x i K):∃v,(∀w,(Instr.field T x i).run P w=.ok v w)/\K v:=by
 unfold tn at h;split at h
 .rename_i fs a
  split at h
  .rename_i f hf
   split at h
   .obtain⟨v,b,c⟩:=zI h
    exact⟨v,λw=>by simp[Instr.field,cZ a,hf,asAgg,b],c⟩
   .exact h.elim
  .exact h.elim
 .exact h.elim
theorem ky{v:av aa}{y d:Nat}{c:BoundsCode}{K:Nat->Prop}(h:kY v y d K):
 (v=none/\K d)\/∃u n,v=some u/\(∀w,(Instr.sliceBound u y c).run P w=.ok n w)/\K n:=by
 unfold kY at h;split at h
 .exact .inl ⟨rfl,h⟩
 .exact .inr ⟨_,_,rfl,λw=>by simp[Instr.sliceBound,asIntOf,h.1],h.2⟩
 .exact h.elim
theorem zL{T:TypeId}{x:aa}{lo hi o:av aa}{K:aa->Prop}(h:tp P T x lo hi o K):
 ∃v,(∀w,(Instr.sliceAt T x lo hi o).run P w=.ok v w)/\K v:=by
 unfold tp at h;split at h
 .rename_i f
  split at h
  .rename_i s
   rcases ky (P:=P) (c:=.sliceAlen) h with ⟨e,h1⟩|⟨u,n,e,i,h1⟩
   .rcases ky (P:=P) (c:=.sliceB) h1 with ⟨b,h2⟩|⟨l,bA,b,g,h2⟩
    .exact⟨_,λw=>by simp[Instr.sliceAt,Instr.slice,cZ f,Instr.sliceBounds,e,b],h2⟩
    .exact⟨_,λw=>by simp[Instr.sliceAt,Instr.slice,cZ f,Instr.sliceBounds,e,b,g],h2⟩
   .rcases ky (P:=P) (c:=.sliceB) h1 with ⟨b,h2⟩|⟨l,bA,b,g,h2⟩
    .exact⟨_,λw=>by simp[Instr.sliceAt,Instr.slice,cZ f,Instr.sliceBounds,e,b,i],h2⟩
    .exact⟨_,λw=>by simp[Instr.sliceAt,Instr.slice,cZ f,Instr.sliceBounds,e,b,i,g],h2⟩
  .exact h.elim
 .rename_i elem f
  by_cases he:(P.underlying elem).isSome=true
  .rw[he]at h
   simp only[cond_true]at h;obtain⟨d,hd⟩:=j3 _ he;have j:=λw:J=>g2 (w:=w) hd;split at h
   .rename_i a len cap
    split at h
    .rcases ky (P:=P) (c:=.sliceAcap) h with ⟨e,h1⟩|⟨u,n,e,i,h1⟩
     .rcases ky (P:=P) (c:=.sliceB) h1 with ⟨b,h2⟩|⟨l,bA,b,g,h2⟩
      .exact⟨_,λw=>by simp[Instr.sliceAt,Instr.slice,cZ f,Instr.sliceBounds,j,aY,e,b],h2⟩
      .exact⟨_,λw=>by simp[Instr.sliceAt,Instr.slice,cZ f,Instr.sliceBounds,g,j,aY,e,b],h2⟩
     .rcases ky (P:=P) (c:=.sliceB) h1 with ⟨b,h2⟩|⟨l,bA,b,g,h2⟩
      .exact⟨_,λw=>by simp[Instr.sliceAt,Instr.slice,cZ f,Instr.sliceBounds,i,j,aY,e,b],h2⟩
      .exact⟨_,λw=>by simp[Instr.sliceAt,Instr.slice,cZ f,Instr.sliceBounds,i,g,j,aY,e,b],h2⟩
    .split at h
     .exact h.elim
     .rcases ky (P:=P) (c:=.slice3Acap) h with ⟨k,h1⟩|⟨u,n,k,i,h1⟩
      .cases k
      .cases k
       rcases ky (P:=P) (c:=.slice3B) h1 with ⟨k,h2⟩|⟨q,cc,k,p,h2⟩
       .cases k
       .cases k
        rcases ky (P:=P) (c:=.slice3C) h2 with ⟨b,m⟩|⟨l,bA,b,g,m⟩
        .exact⟨_,λw=>by simp[Instr.sliceAt,Instr.slice,cZ f,Instr.sliceBounds,i,p,j,aY,b],m⟩
        .exact⟨_,λw=>by simp[Instr.sliceAt,Instr.slice,cZ f,Instr.sliceBounds,i,p,g,j,aY,b],m⟩
   .exact h.elim
  .simp only[fi]at he;rw[he]at h;exact h.elim
 .rename_i n elem f
  by_cases he:(P.underlying elem).isSome=true
  .rw[he]at h
   simp only[cond_true]at h;obtain⟨d,hd⟩:=j3 _ he;have j:=λw:J=>g2 (w:=w) hd;split at h
   .rename_i A
    rcases ky (P:=P) (c:=.sliceAlen) h with ⟨e,h1⟩|⟨u,cc,e,i,h1⟩
    .rcases ky (P:=P) (c:=.sliceB) h1 with ⟨b,h2⟩|⟨l,bA,b,g,h2⟩
     .refine⟨_,λw=>?_,h2⟩
      simp[Instr.sliceAt,cZ f,Instr.sureAddr,Instr.sliceBounds,j,aY,e,b];try (split<;>rfl)
     .refine⟨_,λw=>?_,h2⟩
      simp[Instr.sliceAt,cZ f,Instr.sureAddr,Instr.sliceBounds,g,j,aY,e,b];try (split<;>rfl)
    .rcases ky (P:=P) (c:=.sliceB) h1 with ⟨b,h2⟩|⟨l,bA,b,g,h2⟩
     .refine⟨_,λw=>?_,h2⟩
      simp[Instr.sliceAt,cZ f,Instr.sureAddr,Instr.sliceBounds,i,j,aY,e,b];try (split<;>rfl)
     .refine⟨_,λw=>?_,h2⟩
      simp[Instr.sliceAt,cZ f,Instr.sureAddr,Instr.sliceBounds,i,g,j,aY,e,b];try (split<;>rfl)
   .exact h.elim
  .simp only[fi]at he;rw[he]at h;exact h.elim
 .exact h.elim
theorem wU{n:Int}(h0:0<=n)(h1:n<=9223372036854775807):IntKind.i64.wrap n=n:=by
 have e:n%18446744073709551616=n:=Int.emod_eq_of_lt h0 I;simp[IntKind.wrap,IntKind.signed,IntKind.bits,e];omega
theorem DU{T:TypeId}{l c:aa}{K:aa->J->Prop}(h:wT P T l c w K):
 ∃v w',(Instr.makeSlice T l c).run P w=.ok v w'/\K v w':=by
 unfold wT at h;split at h
 .rename_i elem e
  by_cases he:(P.underlying elem).isSome=true
  .rw[he]at h
   simp only[cond_true]at h;by_cases a:((P.info? elem).bind (·.zero)).isSome=true
   .rw[a]at h
    simp only[cond_true]at h;split at h
    .rename_i k n s m
     obtain⟨⟨h0,h1,h2,f⟩,g⟩:=h;obtain⟨d,hd⟩:=j3 _ he;obtain⟨i,hi⟩:=info_of_underlying hd;obtain⟨z,b⟩:=mL.1 a;simp only[hi,Option.bind_some]at b;have j:P.bytesOf elem=i.bytes:=by simp[Program.bytesOf,hi]
     have hc:P.cellsOf elem=i.size:=by simp[Program.cellsOf,hi]
     rw[j]at f;have o:=wU h0 I;have p:=wU (n:=m) I h2;refine⟨_,_,?_,g⟩;have q:¬(m<0):=by omega
     have r:¬(281474976710656<(i.bytes:Int)*m):=by omega
     simp[Instr.makeSlice,cZ e,asInt,asIntOf,mZ hi,o,p,q,r,g2 hd,show¬n<0 from I,show¬m<n from I];by_cases hs:m.toNat*P.cellsOf elem=0
     .simp[hs,newRow,newObj,Sem.run,gS]
     .simp[zeroValue,mZ hi,b,newRow,newObj,Sem.run,gS,hs,hi]
    .exact h.elim
   .simp only[fi]at a;rw[a]at h;exact h.elim
  .simp only[fi]at he;rw[he]at h;exact h.elim
 .exact h.elim
end
def ao(w:J)(K:J->Prop):Prop:=K w
def wV(s:ByteArray)(n:Nat):av UInt8:=s.data.toList[n]?
def cellAt(cs:Array aa)(n:Nat):av aa:=cs[n]?
def iZ(k:IntKind)(a b:Int):Int:=k.wrap ((BitVec.ofInt k.bits a&&&BitVec.ofInt k.bits b).toNat:Int)
def m3(k:IntKind)(a b:Int):Int:=k.wrap ((BitVec.ofInt k.bits a|||BitVec.ofInt k.bits b).toNat:Int)
def oa(k:IntKind)(a b:Int):Int:=k.wrap ((BitVec.ofInt k.bits a^^^BitVec.ofInt k.bits b).toNat:Int)
def zM(k:IntKind)(a b:Int):Int:=k.wrap ((BitVec.ofInt k.bits a&&&~~~BitVec.ofInt k.bits b).toNat:Int)
def ry(P:Program)(o:Oper)(K:aa->J->Prop)(e:Env)(w:J):Prop:=
 bif known e o.op.operands then
  match (execOp (ro e) o).run P w with
  | .ok (.value v) w'=>ao w' λw1=>K v w1
  |_=>False
 else False
def zN(P:Program)(tk:TypeId->dD)(T:TypeId):dD:=
 match P.underlying T with
 |some (.slice e)=>tk e
 |_=>.one (.one .agg)
def cO.DV:cO->al
 | .slice=>true
 |_=>false
def zO:dD->al
 | .one (.one .agg)=>true
 | .one (.flat ls)=>ls.any cO.DV
 |_=>false
def gen(P:Program)(tk:TypeId->dD)(o:Oper)(K:aa->J->Prop)(e:Env)(w:J):Prop:=
 bif known e o.op.operands then
  match (execOp (ro e) o).run P w with
  | .ok (.value v) w'=>K v w'
  | .ok .skip w'=>K undef w'
  | .ok (.enter f args) w'=>Calls P f args w' λa b=>hW (tk o.type) λv=>a=.returned v/\K v b
  |_=>False
 else False
def hX(P:Program)(f:FuncId):Prop:=∃fn,P.funcs[f]? =some fn/\(fn.name== "runtime.NumGoroutine")=false/\fn.body.isNone=false
theorem zP{P:Program}{f:FuncId}(h:hX P f)(args:Array aa)(w:J):(callFunc f args).run P w=.ok (.enter f args) w:=by
 obtain⟨fn,h1,h2,a⟩:=h;have b:¬fn.name= "runtime.NumGoroutine" :=by simpa using h2
 have c:¬fn.body=none:=by
  intro h;rw[h]at a;cases a
 simp[callFunc,program,Sem.run,bind,Sem.bind,h1,b,c,pure]
def wW:Op->al
 | .select _ _=>true
 |_=>false
def zQ(P:Program)(T:TypeId):Operand->al
 | .const _=>false
 |_=>n_ (P.underlying T)||l4 (P.underlying T)
def DW(P:Program)(op:BinOp)(T:TypeId)(iI pQ:Operand)(x y:aa)(b:al):Prop:=
 ∀w,Sem.run P (do eqGuard op T iI pQ x y;binOp op T x y:Sem aa) w=.ok (.bool b) w
def pR:Operand->aa->al
 | .const _,_=>true
 |_,.nilIface=>false
 |_,_=>true
def jx(P:Program)(tk:TypeId->dD)(o:Oper)(K:aa->J->Prop)(e:Env)(w:J):Prop:=
 match o.op with
 | .nilCheck x=>match ev e x with
  |some (.pointer p)=>∃A,p=some A/\K (.pointer (some A)) w
  |_=>False
 | .load T x=>match ev e x with
  |some (.pointer (some A))=>pN P tk T A w λv=>K v w
  |_=>False
 | .store T x y=>match ev e x,ev e y with
  |some (.pointer (some A)),some v=>wS P tk T A v w λw'=>ao w' λw1=>K undef w1
  |_,_=>False
 | .binOp op T x y _=>match ev e x,ev e y with
  |some a,some q=>bif zQ P T y then (∃b:al,DW P op T x y a q b/\K (.bool b) w) else
   bif pR y q then tf P op T a q (λv=>K v w) (gen P tk o K e w) else False
  |_,_=>False
 | .indexAddr T x i=>match ev e x,ev e i with
  |some a,some g=>tj P T a g λv=>K v w
  |_,_=>False
 | .index T x i=>match ev e x,ev e i with
  |some a,some g=>tm P tk T a g λv=>K v w
  |_,_=>False
 | .field T x i=>match ev e x with
  |some a=>tn P tk T a i λv=>K v w
  |_=>False
 | .alloc _=>ry P o K e w
 | .box _ _=>ry P o K e w
 | .buildSlice T n ps=>bif zO (zN P tk T) then
  (bif known e o.op.operands then
    hW (tk o.type) λr=>∃w1,(Instr.buildSlice T n (ps.map λp=>(p.1,ro e p.2))).run P w=.ok r w1/\K r w1
  else False)
  else ry P o K e w
 | .slice T x lo hi u=>bif known e o.op.operands then
  tp P T (ro e x) (lo.map (ro e)) (hi.map (ro e)) (u.map (ro e)) λv=>K v w
  else False
 | .makeSlice T l c=>match ev e l,ev e c with
  |some z,some B=>wT P T z B w λv w'=>ao w' λw1=>K v w1
  |_,_=>False
 | .convert s d x=>match ev e x with
  |some (.int j n)=>bif (P.underlying s).isSome then
   match P.underlying d with
   |some (.int k)=>K (.int k (k.wrap n)) w
   |_=>hW (tk o.type) λr=>∃w1,(convert s d (.int j n)).run P w=.ok r w1/\K r w1
   else False
  |some v=>hW (tk o.type) λr=>∃w1,(convert s d v).run P w=.ok r w1/\K r w1
  |none=>False
 | .build t ps=>match tk t with
  | .one (.flat _)=>gen P tk o K e w
  |_=>bif known e o.op.operands then
   ∃cs:Array aa,(Instr.build t (ps.map λp=>(p.1,ro e p.2))).run P w=.ok (.agg cs) w/\K (.agg cs) w
   else False
 | .lookup T m i ok=>match ev e m,ev e i with
  |some i_,some g=>hW (tk o.type) λr=>∃w1,(Instr.lookup T i_ g ok).run P w=.ok r w1/\K r w1
  |_,_=>False
 | .mapUpdate T m i x=>match ev e m,ev e i,ev e x with
  |some i_,some g,some a=>∃w1,(Instr.mapUpdate T i_ g a).run P w=.ok () w1/\K undef w1
  |_,_,_=>False
 | .makeMap T r=>bif known e o.op.operands then hW (tk o.type) λv=>∃w1,(Instr.makeMap T (r.map (ro e))).run P w=.ok v w1/\K v w1 else False
 | .range T x=>match ev e x with
  |some a=>∃v w1,(Instr.range T a).run P w=.ok v w1/\K v w1
  |_=>False
 | .next it h=>match ev e it with
  |some a=>(bif h then ∃ (n:Int) (c:Int) (w1:J),(Instr.next a h o.type).run P w=.ok (.tuple #[.bool true,.int .i64 n,.int .i32 c]) w1/\K (.tuple #[.bool true,.int .i64 n,.int .i32 c]) w1
   else ∃ (k:aa) (v:aa) (w1:J),(Instr.next a h o.type).run P w=.ok (.tuple #[.bool true,k,v]) w1/\K (.tuple #[.bool true,k,v]) w1)\/
   (∃w1:J,(Instr.next a h o.type).run P w=.ok (.tuple #[.bool false]) w1/\K (.tuple #[.bool false]) w1)
  |_=>False
 | .call c=>match c.callee with
  | .value (.tmp k)=>match e.get k with
   |some (.func (.func f) pre cap)=>bif known e o.op.operands then
    hX P f/\Calls P f (pre++c.args.map (ro e)++cap) w λC w1=>hW (tk o.type) λv=>C=.returned v/\K v w1
    else False
   |_=>gen P tk o K e w
  | .builtin .append=>bif known e o.op.operands then hW (tk o.type) λr=>∃w1,(Builtin.append_ c.argTypes o.type (c.args.map (ro e))).run P w=.ok r w1/\K r w1 else False
  | .builtin .copy=>bif known e o.op.operands then hW (tk o.type) λr=>∃w1,(Builtin.copy_ c.argTypes o.type (c.args.map (ro e))).run P w=.ok r w1/\K r w1 else False
  | .builtin .min=>bif known e o.op.operands then hW (tk o.type) λr=>∃w1,(Builtin.min_ c.argTypes o.type (c.args.map (ro e))).run P w=.ok r w1/\K r w1 else False
  | .builtin .max=>bif known e o.op.operands then hW (tk o.type) λr=>∃w1,(Builtin.max_ c.argTypes o.type (c.args.map (ro e))).run P w=.ok r w1/\K r w1 else False
  | .builtin .delete=>bif known e o.op.operands then ∃r w1,(Builtin.delete_ c.argTypes o.type (c.args.map (ro e))).run P w=.ok r w1/\K r w1 else False
  | .value (.func f)=>match P.funcs[f]? with
   |some fn=>match fn.body with
    |some _=>gen P tk o K e w
    |none=>bif known e o.op.operands then hW (tk o.type) λr=>∃w1,(callFunc f (c.args.map (ro e))).run P w=.ok (.value r) w1/\K r w1 else False
   |none=>False
  | .builtin .unsafeString=>bif known e o.op.operands then hW (tk o.type) λr=>∃w1,(Builtin.unsafeString_ c.argTypes o.type (c.args.map (ro e))).run P w=.ok r w1/\K r w1 else False
  | .builtin .unsafeSliceData=>bif known e o.op.operands then hW (tk o.type) λr=>∃w1,(Builtin.unsafeSliceData_ c.argTypes o.type (c.args.map (ro e))).run P w=.ok r w1/\K r w1 else False
  | .builtin .clear=>bif known e o.op.operands then ∃r w1,(Builtin.clear_ c.argTypes o.type (c.args.map (ro e))).run P w=.ok r w1/\K r w1 else False
  | .builtin .len=>match ((c.args.map (ro e))[0]? :av aa) with
   |some (Value.map _)=>bif known e o.op.operands then hW (tk o.type) λr=>∃w1,(Builtin.len_ c.argTypes o.type (c.args.map (ro e))).run P w=.ok r w1/\K r w1 else False
   |_=>gen P tk o K e w
  |_=>gen P tk o K e w
 | .sliceToArrayPointer T x=>match ev e x with
  |some a=>ti P T a λv=>K v w
  |_=>False
 | .mapEntry T m i=>match ev e m,ev e i with
  |some i_,some g=>∃ (v0:aa) (st:Int) (w1:J),(Instr.mapEntry T i_ g).run P w=.ok (.tuple #[v0,.int .i64 st]) w1/\K (.tuple #[v0,.int .i64 st]) w1
  |_,_=>False
 | .entryStore T m s x=>match ev e m,ev e s,ev e x with
  |some i_,some vs,some a=>∃w1,(Instr.entryStore T i_ vs a).run P w=.ok () w1/\K undef w1
  |_,_,_=>False
 | .entry it=>match ev e it with
  |some a=>hW (tk o.type) λv=>∃w1,(Instr.entry a).run P w=.ok v w1/\K v w1
  |_=>False
 | .select _ _=>False
 |_=>gen P tk o K e w
def l5(P:Program)(o:Oper)(a:Act)(w:J)(K:aa->J->Prop):Prop:=
 (∃v w',(execOp a.eval o).run P w=.ok (.value v) w'/\K v w')\/
 (∃w',(execOp a.eval o).run P w=.ok .skip w'/\K undef w')\/
 (∃f args w',(execOp a.eval o).run P w=.ok (.enter f args) w'/\Calls P f args w' λb c=>∃v,b=.returned v/\K v c)
theorem l5.wp{P:Program}{o:Oper}{a:Act}{w:J}{K:aa->J->Prop}{next:Act->J->Prop}{Q:Exit->Act->J->Prop}
 (h:l5 P o a w K) (c:∀v w',K v w'->next (a.put o.dst v) w'):o.wp P a w next Q:=by
 unfold Oper.wp;rcases h with ⟨v,w',h,b⟩|⟨w',h,b⟩|⟨f,args,w',h,hc⟩
 .rw[h];exact c _ _ b
 .rw[h];exact c _ _ b
 .rw[h]
  exact hc.mono λe g ⟨v,d,b⟩=>by subst d;exact c _ _ b
section
variable {P:Program}{tk:TypeId->dD}{o:Oper}{K:aa->J->Prop}{e:Env}{a:Act}{w:J}
theorem DX(au:dh e a){xs:Array Operand}(h:known e xs=true):∀x∈xs,a.eval x=ro e x:=by
 intro x hx;exact au.ro (pz.1 h x (by simpa using hx))
theorem kz(au:dh e a)(hs:wW o.op=false)(h:known e o.op.operands=true):execOp a.eval o=execOp (ro e) o:=
 execOp_congr o (λcs b hc=>by rw[hc]at hs;cases hs) (DX au h)
theorem ob(au:dh e a)(hs:wW o.op=false)(h:gen P tk o K e w):l5 P o a w K:=by
 unfold gen at h;by_cases c:known e o.op.operands=true
 .rw[c]at h
  simp only[cond_true]at h;have hc:=kz au hs c;unfold l5;rw[hc];split at h
  .rename_i v w' b
   exact .inl ⟨v,w',b,h⟩
  .rename_i w' b
   exact .inr (.inl ⟨w',b,h⟩)
  .rename_i f args w' b
   refine .inr (.inr ⟨f,args,w',b,h.mono λg i d=>?_⟩);exact il d
  .exact h.elim
 .simp only[fi]at c
  rw[c]at h;exact h.elim
theorem wX(au:dh e a)(hs:wW o.op=false)(h:ry P o K e w):l5 P o a w K:=by
 unfold ry at h;by_cases b:known e o.op.operands=true
 .rw[b]at h
  simp only[cond_true]at h;have hc:=kz au hs b;unfold l5;rw[hc];split at h
  .rename_i v w' c
   exact .inl ⟨v,w',c,h⟩
  .exact h.elim
 .simp only[fi]at b
  rw[b]at h;exact h.elim
theorem wY:∀ {ls:O cO}{A:ag}{i:Nat}{K:O aa->Prop},wR ls A i w K->∃vs,bw w A i ls.length=some vs/\K vs
 | [],_,_,_,h=>⟨[],rfl,h⟩
 |l::ls,A,i,K,h=>by
  obtain⟨v,a,h⟩:=pK h
  obtain⟨vs,b,h⟩:=wY h
  exact⟨v::vs,by simp[bw,a,b],h⟩
theorem zR{T:TypeId}{A:ag}{K:aa->Prop}(h:pN P tk T A w K):∃v,(Instr.loadAt T (.pointer (some A))).run P w=.ok v w/\K v:=by
 have e:(Instr.loadAt T (.pointer (some A))).run P w=(loadVar T A).run P w:=by simp[Instr.loadAt,Instr.sureAddr]
 rw[e];unfold pN at h;split at h
 .exact h.elim
 .rename_i d b
  cases hd:gH d with
  |true=>
   rw[hd]at h;simp only[cond_true]at h;split at h
   .rename_i ls _
    by_cases a:Nat.beq (P.cellsOf T) ls.length=true
    .rw[a]at h
     simp only[cond_true]at h;obtain⟨vs,c,h⟩:=wY h;rw[←ia a]at c;exact⟨_,te b hd c,h⟩
    .simp only[fi]at a;rw[a]at h;exact h.elim
   .obtain⟨cs,hc,h⟩:=h
    exact⟨_,te b hd hc,h⟩
  |false=>
   rw[hd]at h;simp only[cond_false]at h;split at h
   .obtain⟨v,f,h⟩:=pK h
    exact⟨v,zz b hd f,h⟩
   .exact h.elim
theorem wZ{v:aa}(h:Plain v):v.cells= #[v]:=by cases v<;>first|rfl|exact h.elim
theorem add_zero'(A:ag):A.add 0=A:=rfl
theorem DY{T:TypeId}{A:ag}{x:aa}{K:J->Prop}(h:wS P tk T A x w K):
 ∃w',(Instr.storeAt T (.pointer (some A)) x).run P w=.ok () w'/\K w':=by
 have f:(Instr.storeAt T (.pointer (some A)) x).run P w=(storeVar T A x).run P w:=by simp[Instr.storeAt,Instr.sureAddr]
 rw[f];unfold wS at h;split at h
 .exact h.elim
 .rename_i d c
  cases hd:gH d with
  |true=>
   rw[hd]at h;simp only[cond_true]at h;split at h
   .rename_i cs
    exact⟨_,zA (v:=.agg cs) c h.2.1 h.1,h.2.2⟩
   .exact h.elim
  |false=>
   rw[hd]at h;simp only[cond_false]at h;have one:∀ (b:Plain x) (a:Nat.beq (P.cellsOf T) 1=true),((∃u,w.cell? A=some u)/\w.frozen? A=false/\K (w.setCell A x))->∃w',(storeVar T A x).run P w=.ok () w'/\K w':=by
    intro b a ⟨⟨u,hu⟩,hf,g⟩;refine⟨_,zA (v:=x) c ?_ ?_,?_⟩
    .rw[wZ b,ia a];rfl
    .rw[wZ b]
     refine⟨λi hi=>?_,λv j=>?_⟩
     .have:i=0:=by simpa using hi
      subst this;rw[add_zero',hu];exact⟨rfl,hf⟩
     .have:v=x:=by simpa using j
      subst this;exact b
    .rw[wZ b]
     exact g
   by_cases a:Nat.beq (P.cellsOf T) 1=true
   .have e:=a
    rw[a]at h;simp only[cond_true]at h;split at h
    .exact one h.1 e h.2
    .split at h
     .exact h.elim
     .exact h.elim
     .rename_i h1 h2
      refine one ?_ e h
      cases x<;>first|exact trivial|(exact absurd rfl (h1 _))|(exact absurd rfl (h2 _))
   .simp only[fi]at a;rw[a]at h;exact h.elim
theorem tq(au:dh e a)(h:jx P tk o K e w):l5 P o a w K:=by
 unfold jx at h;split at h
 case h_1 x j=>
  split at h
  .rename_i p hx
   obtain⟨A,rfl,g⟩:=h;exact .inl ⟨_,_,by simp[execOp,j,au.ev hx],g⟩
  .exact h.elim
 case h_2 T x j=>
  split at h
  .rename_i A hx
   obtain⟨v,B,g⟩:=zR h;exact .inl ⟨v,w,by simp[execOp,j,au.ev hx,B],g⟩
  .exact h.elim
 case h_3 T x y j=>
  split at h
  .rename_i A v hx H
   obtain⟨w',S,g⟩:=DY h;exact .inr (.inl ⟨w',by simp[execOp,j,au.ev hx,au.ev H,S],g⟩)
  .exact h.elim
 case h_4 op T x y ab j=>
  split at h
  .rename_i D Q hx H
   by_cases N:zQ P T y=true
   .rw[N]at h
    simp only[cond_true]at h;obtain⟨b,z,g⟩:=h;exact .inl ⟨_,w,by
     simp only[execOp,j,au.ev hx,au.ev H];have G:=z w;simp only[Sem.run_bind]at G⊢;rw[G];rfl,g⟩
   simp only[fi]at N;rw[N]at h;simp only[cond_false]at h;by_cases I:pR y Q=true
   .rw[I]at h
    simp only[cond_true]at h;have U:Q=.nilIface->∃c,y=.const c:=by
     intro B;subst B
     cases y<;>simp[pR]at I⊢
    rcases zF (iI:=x) (pQ:=y) U h with hg|⟨v,B,g⟩
    .exact ob au (by rw[j];rfl) hg
    .exact .inl ⟨v,w,by
      simp only[execOp,j,au.ev hx,au.ev H];have G:=B w;simp only[Sem.run_bind]at G⊢;rw[G];rfl,g⟩
   .simp only[fi]at I;rw[I]at h;exact h.elim
  .exact h.elim
 case h_5 T x i j=>
  split at h
  .rename_i D L hx hi
   obtain⟨v,B,g⟩:=zH h;exact .inl ⟨v,w,by simp[execOp,j,au.ev hx,au.ev hi,B],g⟩
  .exact h.elim
 case h_6 T x i j=>
  split at h
  .rename_i D L hx hi
   obtain⟨v,B,g⟩:=zJ h;exact .inl ⟨v,w,by simp[execOp,j,au.ev hx,au.ev hi,B],g⟩
  .exact h.elim
 case h_7 T x i j=>
  split at h
  .rename_i D hx
   obtain⟨v,B,g⟩:=zK h;exact .inl ⟨v,w,by simp[execOp,j,au.ev hx,B],g⟩
  .exact h.elim
 case h_8 T j=>exact wX au (by rw[j];rfl) h
 case h_9 T x j=>exact wX au (by rw[j];rfl) h
 case h_10 T n ps j=>
  cases R:zO (zN P tk T) with
  |true=>
   rw[R]at h;simp only[cond_true]at h;by_cases u:known e o.op.operands=true
   .rw[u]at h
    simp only[cond_true]at h;have hc:=kz au (by rw[j];rfl) u;obtain⟨r,w1,q,g⟩:=il h;exact .inl ⟨r,w1,by rw[hc];simp[execOp,j];rw[q];rfl,g⟩
   .simp only[fi]at u;rw[u]at h;exact h.elim
  |false=>
   rw[R]at h;exact wX au (by rw[j];rfl) h
 case h_11 T x lo hi ac j=>
  by_cases u:known e o.op.operands=true
  .rw[u]at h
   simp only[cond_true]at h;have hc:=kz au (by rw[j];rfl) u;obtain⟨v,B,g⟩:=zL h;exact .inl ⟨v,w,by rw[hc];simp[execOp,j,B],g⟩
  .simp only[fi]at u;rw[u]at h;exact h.elim
 case h_12 T l c j=>
  split at h
  .rename_i ad ae V hc
   obtain⟨v,w',B,g⟩:=DU h;exact .inl ⟨v,w',by simp[execOp,j,au.ev V,au.ev hc,B],g⟩
  .exact h.elim
 case h_13 s d x j=>
  split at h
  .rename_i k n hx
   by_cases hs:(P.underlying s).isSome=true
   .rw[hs]at h
    simp only[cond_true]at h;obtain⟨ds,W⟩:=j3 _ hs;split at h
    .rename_i af hd
     exact .inl ⟨_,_,by simp[execOp,j,au.ev hx,convert,cZ W,cZ hd,Conv.intToInt],h⟩
    .obtain⟨r,w1,q,g⟩:=il h
     exact .inl ⟨r,w1,by simp[execOp,j,au.ev hx,q],g⟩
   .simp only[fi]at hs;rw[hs]at h;exact h.elim
  .rename_i v _ hx
   obtain⟨r,w1,q,g⟩:=il h;exact .inl ⟨r,w1,by simp[execOp,j,au.ev hx,q],g⟩
  .exact h.elim
 case h_14 t ps j=>
  split at h
  .exact ob au (by rw[j];rfl) h
  .by_cases u:known e o.op.operands=true
   .rw[u]at h
    simp only[cond_true]at h;have hc:=kz au (by rw[j];rfl) u;obtain⟨cs,q,g⟩:=h;exact .inl ⟨_,_,by rw[hc];simp[execOp,j];rw[q];rfl,g⟩
   .simp only[fi]at u;rw[u]at h;exact h.elim
 case h_15 T m i ok j=>
  split at h
  .rename_i i_ L F hi
   obtain⟨r,w1,q,g⟩:=il h;exact .inl ⟨r,w1,by simp[execOp,j,au.ev F,au.ev hi,q],g⟩
  .exact h.elim
 case h_16 T m i x j=>
  split at h
  .rename_i i_ L D F hi hx
   obtain⟨w1,q,g⟩:=h;exact .inr (.inl ⟨w1,by simp[execOp,j,au.ev F,au.ev hi,au.ev hx,q],g⟩)
  .exact h.elim
 case h_17 T r j=>
  by_cases u:known e o.op.operands=true
  .rw[u]at h
   simp only[cond_true]at h;have hc:=kz au (by rw[j];rfl) u;obtain⟨v,w1,q,g⟩:=il h;exact .inl ⟨v,w1,by rw[hc];simp[execOp,j,q],g⟩
  .simp only[fi]at u;rw[u]at h;exact h.elim
 case h_18 T x j=>
  split at h
  .rename_i D hx
   obtain⟨v,w1,q,g⟩:=h;exact .inl ⟨v,w1,by simp[execOp,j,au.ev hx,q],g⟩
  .exact h.elim
 case h_19 it Y j=>
  split at h
  .rename_i D hx
   rcases h with h|⟨w1,q,g⟩
   .cases Y with
    |true=>
     obtain⟨n,c,w1,q,g⟩:=h;exact .inl ⟨_,w1,by simp[execOp,j,au.ev hx,q],g⟩
    |false=>
     obtain⟨k,v,w1,q,g⟩:=h;exact .inl ⟨_,w1,by simp[execOp,j,au.ev hx,q],g⟩
   .exact .inl ⟨_,w1,by simp[execOp,j,au.ev hx,q],g⟩
  .exact h.elim
 case h_20 c j=>
  have E:∀ (b:Builtin) (r:aa) (w1:J),c.callee=.builtin b->known e o.op.operands=true->
   (∀cs,(Go.builtin b c.argTypes o.type cs (c.args.map (ro e))).run P w=.ok (.value r) w1)->K r w1->l5 P o a w K:=by
   intro b r w1 z u q g;have hc:=kz au (by rw[j];rfl) u;exact .inl ⟨r,w1,by rw[hc];simp[execOp,j,resolve,z,invoke,q],g⟩
  have C:∀ {X:Prop},(bif known e o.op.operands then X else False)->known e o.op.operands=true/\X:=by
   intro X M;by_cases u:known e o.op.operands=true
   .rw[u]at M;exact⟨u,M⟩
   .simp only[fi]at u;rw[u]at M;exact M.elim
  split at h
  .rename_i k z
   split at h
   .rename_i f pre cap hg
    obtain⟨u,Z,h⟩:=C h;have hc:=kz au (by rw[j];rfl) u;refine .inr (.inr ⟨f,pre++c.args.map (ro e)++cap,w,?_,h.mono λag w1 h1=>?_⟩)
    .have O:ro e (.tmp k)=.func (.func f) pre cap:=by simp[ro,ev,hg]
     rw[hc];simp[execOp,j,resolve,z,O,Deferred.ofValue,invoke,zP Z]
    .obtain⟨v,B,g⟩:=il h1
     exact⟨v,B,g⟩
   .exact ob au (by rw[j];rfl) h
  .rename_i z
   obtain⟨u,h⟩:=C h;obtain⟨r,w1,q,g⟩:=il h;exact E _ r w1 z u (λ_=>by simp[Go.builtin,q]) g
  .rename_i z
   obtain⟨u,h⟩:=C h;obtain⟨r,w1,q,g⟩:=il h;exact E _ r w1 z u (λ_=>by simp[Go.builtin,q]) g
  .rename_i z
   obtain⟨u,h⟩:=C h;obtain⟨r,w1,q,g⟩:=il h;exact E _ r w1 z u (λ_=>by simp[Go.builtin,q]) g
  .rename_i z
   obtain⟨u,h⟩:=C h;obtain⟨r,w1,q,g⟩:=il h;exact E _ r w1 z u (λ_=>by simp[Go.builtin,q]) g
  .rename_i z
   obtain⟨u,r,w1,q,g⟩:=C h;exact E _ r w1 z u (λ_=>by simp[Go.builtin,q]) g
  .rename_i f z
   split at h
   .rename_i fn ah
    split at h
    .exact ob au (by rw[j];rfl) h
    .obtain⟨u,h⟩:=C h
     obtain⟨r,w1,q,g⟩:=il h;have hc:=kz au (by rw[j];rfl) u;refine .inl ⟨r,w1,?_,g⟩;rw[hc];have O:ro e (.func f)=.func (.func f) #[] #[]:=by simp[ro,ev]
     simp[execOp,j,resolve,z,O,Deferred.ofValue,invoke,q]
   .exact h.elim
  .rename_i z
   obtain⟨u,h⟩:=C h;obtain⟨r,w1,q,g⟩:=il h;exact E _ r w1 z u (λ_=>by simp[Go.builtin,q]) g
  .rename_i z
   obtain⟨u,h⟩:=C h;obtain⟨r,w1,q,g⟩:=il h;exact E _ r w1 z u (λ_=>by simp[Go.builtin,q]) g
  .rename_i z
   obtain⟨u,r,w1,q,g⟩:=C h;exact E _ r w1 z u (λ_=>by simp[Go.builtin,q]) g
  .rename_i z
   split at h
   .obtain⟨u,h⟩:=C h
    obtain⟨r,w1,q,g⟩:=il h;exact E _ r w1 z u (λ_=>by simp[Go.builtin,q]) g
   .exact ob au (by rw[j];rfl) h
  .exact ob au (by rw[j];rfl) h
 case h_21 T x j=>
  split at h
  .rename_i D hx
   obtain⟨v,B,g⟩:=zG h;exact .inl ⟨v,w,by simp[execOp,j,au.ev hx,B],g⟩
  .exact h.elim
 case h_22 T m i j=>
  split at h
  .rename_i i_ L F hi
   obtain⟨v0,st,w1,q,g⟩:=h;exact .inl ⟨_,w1,by simp[execOp,j,au.ev F,au.ev hi,q],g⟩
  .exact h.elim
 case h_23 T m s x j=>
  split at h
  .rename_i i_ vs D F hs hx
   obtain⟨w1,q,g⟩:=h;exact .inr (.inl ⟨w1,by simp[execOp,j,au.ev F,au.ev hs,au.ev hx,q],g⟩)
  .exact h.elim
 case h_24 it j=>
  split at h
  .rename_i D hx
   obtain⟨v,w1,q,g⟩:=il h;exact .inl ⟨v,w1,by simp[execOp,j,au.ev hx,q],g⟩
  .exact h.elim
 case h_25=>exact h.elim
 case h_26=>
  refine ob au ?_ h
  cases j:o.op<;>first|rfl|simp_all
end
end aQ
namespace aQ
open Go
inductive kA where
 |run
 |split (n:Nat)
 |pure (n:Nat)
 |tr (ks:O Kd)
def eW(P:Program)(o:Oper)(e:Env):av aa:=
 match o.op with
 | .move x=>ev e x
 | .assign x=>ev e x
 | .unOp .not _ x=>match ev e x with
  |some (.bool b)=>some (.bool (!b))
  |_=>none
 | .binOp op T x y _=>match ev e y with
  |some (.int f b)=>match ev e x with
   |some (.int k a)=>bif j2 k f then
    match op with
    | .add=>some (.int k (k.wrap (a+b)))
    | .sub=>some (.int k (k.wrap (a-b)))
    | .mul=>some (.int k (k.wrap (a*b)))
    | .quo=>match b with
     | .ofNat (.succ m)=>some (.int k (k.wrap (a.tdiv (.ofNat (.succ m)))))
     |_=>none
    | .rem=>match b with
     | .ofNat (.succ m)=>some (.int k (a.tmod (.ofNat (.succ m))))
     |_=>none
    | .and=>some (.int k (k.wrap (BitVec.ofInt k.bits a&&&BitVec.ofInt k.bits b).toNat))
    | .or=>some (.int k (k.wrap (BitVec.ofInt k.bits a|||BitVec.ofInt k.bits b).toNat))
    | .xor=>some (.int k (k.wrap (BitVec.ofInt k.bits a^^^BitVec.ofInt k.bits b).toNat))
    | .eql=>some (.bool (a==b))
    | .neq=>some (.bool (a !=b))
    | .lss=>some (.bool (a<b))
    | .leq=>some (.bool (a<=b))
    | .gtr=>some (.bool (a>b))
    | .geq=>some (.bool (a>=b))
    |_=>none
    else none
   |_=>none
  |some (.bool b)=>match ev e x with
   |some (.bool a)=>match P.underlying T with
    |some .bool=>match op with
     | .eql=>some (.bool (a==b))
     | .neq=>some (.bool (!(a==b)))
     |_=>none
    |_=>none
   |_=>none
  |some (.string b)=>match ev e x with
   |some (.string a)=>match op with
    | .eql=>some (.bool (a.toList==b.toList))
    | .neq=>some (.bool (!(a.toList==b.toList)))
    |_=>none
   |_=>none
  |some (.pointer none)=>match ev e x with
   |some (.pointer p)=>bif l4 (P.underlying T) then match op with
    | .eql=>some (.bool p.isNone)
    | .neq=>some (.bool (!p.isNone))
    |_=>none
    else none
   |_=>none
  |some (.slice none _ _)=>match ev e x with
   |some (.slice p _ _)=>bif m0 (P.underlying T) then match op with
    | .eql=>some (.bool p.isNone)
    | .neq=>some (.bool (!p.isNone))
    |_=>none
    else none
   |_=>none
  |_=>none
 | .convert s d x=>match ev e x with
  |some (.int _ n)=>match P.underlying d with
   |some (.int k)=>bif (P.underlying s).isSome then some (.int k (k.wrap n)) else none
   |_=>none
  |_=>none
 | .call {callee:=.builtin .len,args:=args,argTypes:=gi}=>match args[0]?,gi[0]? with
  |some x,some T=>match ev e x,P.underlying T with
   |some (.slice _ n _),some (.slice _)=>some (.int .i64 n)
   |some (.string s),some .string=>some (.int .i64 s.size)
   |_,_=>none
  |_,_=>none
 | .call {callee:=.builtin .cap,args:=args,argTypes:=gi}=>match args[0]?,gi[0]? with
  |some x,some T=>match ev e x,P.underlying T with
   |some (.slice _ _ c),some (.slice _)=>some (.int .i64 c)
   |_,_=>none
  |_,_=>none
 |_=>none
def rz(ops:Array Oper)(e:Env)(j:Nat):av aa:=((ops[j]?).bind (·.dst)).bind e.get
def DZ(ops:Array Oper)(j:Nat):av Nat:=(ops[j]?).bind (·.dst)
def Ki(o:Oper)(e:Env)(K:al->Prop):Prop:=
 match o.guard with
 |none=>match o.op with
  | .pick x y z=>match ev e x with
   |some (.bool b)=>match ev e (bif b then y else z) with
    |some (.bool r)=>K r
    |_=>False
   |_=>False
  |_=>False
 |some _=>False
def gI(ops:Array Oper)(o:Oper)(e:Env)(run skip:Prop):Prop:=
 match o.guard with
 |none=>run
 |some (j,want)=>match rz ops e j with
  |none=>False
  |some (.bool b)=>bif Bool.xor b want then skip else run
  |some _=>skip
def ly{α:Type}(ops:Array Oper)(o:Oper)(e:Env)(run skip:av α):av α:=
 match o.guard with
 |none=>run
 |some (j,want)=>match rz ops e j with
  |none=>none
  |some (.bool b)=>bif Bool.xor b want then skip else run
  |some _=>skip
def kZ(o:Oper)(e:Env):av al:=
 match o.op with
 | .pick x y z=>match ev e x with
  |some (.bool b)=>match ev e (bif b then y else z) with
   |some (.bool r)=>some r
   |_=>none
  |_=>none
 |_=>none
def rA(ops:Array Oper)(o:Oper)(e:Env):av (Nat×al):=
 match o.guard with
 |none=>none
 |some (j,_)=>match DZ ops j with
  |none=>none
  |some s=>match e.get s with
   |some (.bool c)=>some (s,c)
   |_=>none
def l6(ops:Array Oper)(o:Oper)(e:Env):al:=
 match o.guard with
 |none=>true
 |some (j,want)=>match rz ops e j with
  |some (.bool b)=> !(Bool.xor b want)
  |_=>false
def m4(e:Env)(ds:O Nat):al:=e.all λp=> !(ds.any λd=>Nat.beq d p.1)
def bK(l:O Oper):O Nat:=l.filterMap (·.dst)
def iJ(P:Program)(ops:Array Oper):Nat->O Oper->O kA->Env->av Env
 |0,_,_,_=>none
 |_+1,[],_,e=>some e
 |n+1,o::rest,.pure m::as,e=>
  match rA ops o e,rest.drop (m-1) with
  |none,_=>
   match ly ops o e none (some undef) with
   |some v=>iJ P ops n rest as (c8 o.dst v e)
   |none=>none
  |some (s,c),a::b=>
   match iJ P ops n (o::rest.take (m-1)) (.run::as.take (m-1)) ((s,.bool true)::e),iJ P ops n (o::rest.take (m-1)) (.run::as.take (m-1)) ((s,.bool false)::e) with
   |some d,some f=>
    match kZ a d,kZ a f with
    |some r1,some aF=>bif l6 ops a e&&m4 e (bK (o::rest.take (m-1))) then iJ P ops n b (as.drop m) (c8 a.dst (.bool (cond c r1 aF)) e) else none
    |_,_=>none
   |_,_=>none
  |_,_=>none
 |n+1,o::rest,_::as,e=>
  match ly ops o e (eW P o e) (some undef) with
  |some v=>iJ P ops n rest as (c8 o.dst v e)
  |none=>none
 |n+1,o::rest,[],e=>
  match ly ops o e (eW P o e) (some undef) with
  |some v=>iJ P ops n rest [] (c8 o.dst v e)
  |none=>none
inductive b5 {α:Type} (B:α->Prop) (k:α):Prop where
 |mk (h:B k)
theorem b5.out{α:Type}{B:α->Prop}{k:α}(h:b5 B k):B k:=by cases h with|mk h=>exact h
def tu(P:Program)(ks:O Kd)(o:Oper)(K:aa->J->Prop)(e:Env)(w:J):Prop:=
 match o.op with
 | .entry it=>match ev e it with
  |some a=>td ks λvs=>∃w1,(Instr.entry a).run P w=.ok (.tuple vs.toArray) w1/\K (.tuple vs.toArray) w1
  |_=>False
 |_=>False
theorem D1{P:Program}{ks:O Kd}{o:Oper}{K:aa->J->Prop}{e:Env}{w:J}{a:Act}(au:dh e a)(h:tu P ks o K e w):l5 P o a w K:=by
 unfold tu at h;split at h
 .rename_i it b
  split at h
  .rename_i f hx
   obtain⟨v,w1,c,d⟩:=wP h;exact .inl ⟨_,w1,by simp[execOp,b,au.ev hx,c],d⟩
  .exact h.elim
 .exact h.elim
def fM(P:Program)(tk:TypeId->dD)(ops:Array Oper):Nat->O Oper->O kA->(Env->J->Prop)->Env->J->Prop
 |0,_,_,_,_,_=>False
 |_+1,[],_,K,e,w=>K e w
 |n+1,o::rest,.tr ks::as,K,e,w=>
  gI ops o e (tu P ks o (λv w'=>fM P tk ops n rest as K (c8 o.dst v e) w') e w) (fM P tk ops n rest as K (c8 o.dst undef e) w)
 |n+1,o::rest,.pure m::as,K,e,w=>
  match rA ops o e,rest.drop (m-1) with
  |none,_=>gI ops o e False (fM P tk ops n rest as K (c8 o.dst undef e) w)
  |some (s,c),a::b=>
   match iJ P ops n (o::rest.take (m-1)) (.run::as.take (m-1)) ((s,.bool true)::e),iJ P ops n (o::rest.take (m-1)) (.run::as.take (m-1)) ((s,.bool false)::e) with
   |some f,some g=>
    match kZ a f,kZ a g with
    |some r1,some aF=>bif l6 ops a e&&m4 e (bK (o::rest.take (m-1))) then fM P tk ops n b (as.drop m) K (c8 a.dst (.bool (cond c r1 aF)) e) w else False
    |_,_=>False
   |_,_=>False
  |_,_=>False
 |n+1,o::rest,.split m::as,K,e,w=>
  match rA ops o e,rest.drop (m-1) with
  |none,_=>gI ops o e False (fM P tk ops n rest as K (c8 o.dst undef e) w)
  |some (s,c),a::b=>
   bif l6 ops a e&&m4 e (bK (o::rest.take (m-1))) then
    b5 (λk:al->J->Prop=>
     (c=true->fM P tk ops n (o::rest.take (m-1)) (.run::as.take (m-1)) (λd w'=>match kZ a d with|some r=>k r w'|none=>False) ((s,.bool true)::e) w)/\
     (c=false->fM P tk ops n (o::rest.take (m-1)) (.run::as.take (m-1)) (λd w'=>match kZ a d with|some r=>k r w'|none=>False) ((s,.bool false)::e) w))
     (λr w'=>fM P tk ops n b (as.drop m) K (c8 a.dst (.bool r) e) w')
   else False
  |_,_=>False
 |n+1,o::rest,_::as,K,e,w=>
  gI ops o e (jx P tk o (λv w'=>fM P tk ops n rest as K (c8 o.dst v e) w') e w) (fM P tk ops n rest as K (c8 o.dst undef e) w)
 |n+1,o::rest,[],K,e,w=>
  gI ops o e (jx P tk o (λv w'=>fM P tk ops n rest [] K (c8 o.dst v e) w') e w) (fM P tk ops n rest [] K (c8 o.dst undef e) w)
structure dR(ds:O Nat)(a b:Act):Prop where
 defers:b.defers=a.defers
 size:b.tmps.size=a.tmps.size
 same:∀s,s∉ds->b.tmps[s]? =a.tmps[s]?
theorem dR.refl(ds:O Nat)(a:Act):dR ds a a:=⟨rfl,rfl,λ_ _=>rfl⟩
theorem dR.trans{ds:O Nat}{a b c:Act}(h:dR ds a b)(k:dR ds b c):dR ds a c:=
 ⟨k.defers.trans h.defers,k.size.trans h.size,λs hs=>(k.same s hs).trans (h.same s hs)⟩
theorem dR.mono{ds es:O Nat}{a b:Act}(h:dR ds a b)(hs:∀s,s∈ds->s∈es):dR es a b:=
 ⟨h.defers,h.size,λs c=>h.same s λd=>c (hs s d)⟩
theorem dR.put{a:Act}{d:av Nat}{v:aa}{ds:O Nat}(hd:∀k,d=some k->k∈ds):dR ds a (a.put d v):=by
 cases d with
 |none=>exact .refl _ _
 |some d=>exact⟨rfl,by simp[Act.put],λs hs=>by
  have:d≠s:=λh=>hs (h▸hd d rfl);simp[Act.put,Array.getElem?_setIfInBounds_ne this]⟩
def gv(a:Act)(ds:O Nat)(K:Env->J->Prop)(x:Exit)(b:Act)(w':J):Prop:=
 x=.normal/\dR ds a b/\∃c,dh c b/\K c w'
theorem iK{P:Program}{ops:Array Oper}{Q Q':Exit->Act->J->Prop}(b:∀x a w,Q x a w->Q' x a w):
 ∀ (l:O Oper) (a:Act) (w:J),wpList P ops Q l a w->wpList P ops Q' l a w
 | [],_,_,h=>b _ _ _ h
 |o::l,a,w,h=>by
  simp only[wpList]at h⊢
  split
  .rename_i d
   rw[if_pos d]at h
   refine h.imp (λh=>?_) (λ⟨h1,f,w',h2⟩=>⟨h1,f,w',b _ _ _ h2⟩)
   have:=Oper.wp_mono (Q:=Q) (λa w=>iK b l a w) h
   unfold Oper.wp at this⊢
   revert this
   generalize (execOp a.eval o).run P w=r
   intro this
   cases r with
   |ok aX w'=>
    cases aX<;>simp only[Oper.upon]at this⊢<;>first
     |exact this
     |(exact Calls.mono this λe g he=>by
        cases e with
        |returned v=>exact he
        |panicked c=>exact b _ _ _ he
        |outgrown=>exact let ⟨f,w',h2⟩:=he;⟨f,w',b _ _ _ h2⟩)
   |halt x w'=>cases x<;>simp only[Oper.upon]at this⊢<;>first|exact b _ _ _ this|exact this
  .rename_i d
   rw[if_neg d]at h
   exact iK b l _ _ h
theorem rB{P:Program}{ops:Array Oper}{Q:Exit->Act->J->Prop}(b:O Oper):
 ∀ (f:O Oper) (a:Act) (w:J),wpList P ops (λx a w=>x=.normal/\wpList P ops Q b a w) f a w->wpList P ops Q (f++b) a w
 | [],_,_,h=>h.2
 |o::l,a,w,h=>by
  simp only[lW,wpList]at h⊢
  split
  .rename_i d
   rw[if_pos d]at h
   rcases h with h|⟨_,g,w',h2,_⟩
   .left
    have:=Oper.wp_mono (λa w=>rB b l a w) h
    unfold Oper.wp at this⊢
    revert this
    generalize (execOp a.eval o).run P w=r
    intro this
    cases r with
    |ok aX w'=>
     cases aX<;>simp only[Oper.upon]at this⊢<;>first
      |exact this
      |(exact Calls.mono this λe i he=>by
         cases e with
         |returned v=>exact he
         |panicked c=>cases he.1
         |outgrown=>exact let ⟨g,w',h2⟩:=he;by cases h2.1)
    |halt x w'=>cases x<;>simp only[Oper.upon]at this⊢<;>first|(cases this.1;done)|exact this
   .cases h2
  .rename_i d
   rw[if_neg d]at h
   exact rB b l _ _ h
section
variable {P:Program}{tk:TypeId->dD}{ops:Array Oper}
def l7:aa->av al
 | .bool b=>some b
 |_=>none
theorem rC{e:Env}{a:Act}(au:dh e a){j:Nat}{v:aa}(h:rz ops e j=some v):
 yielded ops a.tmps j=l7 v:=by
 unfold rz at h;unfold yielded
 cases hd:(ops[j]?).bind (·.dst) with
 |none=>rw[hd]at h;simp at h
 |some s=>
  rw[hd]at h;simp only[Option.bind_some]at h⊢;rw[au.get _ _ h]
  cases v<;>rfl
theorem rD{o:Oper}{e:Env}{a:Act}(au:dh e a){R S:Prop}(h:gI ops o e R S):
 (Region.wanted o (yielded ops a.tmps)=true/\R)\/(Region.wanted o (yielded ops a.tmps)=false/\S):=by
 unfold gI at h;unfold Region.wanted;split at h
 .rename_i hg;rw[hg];exact .inl ⟨rfl,h⟩
 .rename_i j want hg
  rw[hg];simp only;split at h
  .exact h.elim
  .rename_i b c
   rw[rC au c]
   cases b<;>cases want<;>first|exact .inl ⟨rfl,h⟩|exact .inr ⟨rfl,h⟩
  .rename_i v d c
   rw[rC au c]
   cases v<;>first|exact absurd rfl (d _)|exact .inr ⟨by cases want<;>rfl,h⟩
theorem zS{o:Oper}{e:Env}{R a S:Prop}(h:gI ops o e R S)(c:R->a):gI ops o e a S:=by
 unfold gI at h⊢;split at h
 .exact c h
 .rename_i j want hg
  split at h
  .exact h
  .rename_i b f
   cases d:Bool.xor b want<;>rw[d]at h<;>first|exact c h|exact h
  .exact h
theorem D2{α:Type}{o:Oper}{e:Env}{R S:av α}{r:α}(h:ly ops o e none S=some r):ly ops o e R S=some r:=by
 unfold ly at h⊢;split at h
 .cases h
 .rename_i j want hg
  split at h
  .exact h
  .rename_i b c
   cases a:Bool.xor b want with
   |true=>rw[a]at h;exact h
   |false=>rw[a]at h;cases h
  .exact h
theorem D3{α:Type}{o:Oper}{e:Env}{a:Act}(au:dh e a){R S:av α}{r:α}(h:ly ops o e R S=some r):
 (Region.wanted o (yielded ops a.tmps)=true/\R=some r)\/(Region.wanted o (yielded ops a.tmps)=false/\S=some r):=by
 unfold ly at h;unfold Region.wanted;split at h
 .rename_i hg;rw[hg];exact .inl ⟨rfl,h⟩
 .rename_i j want hg
  rw[hg];simp only;split at h
  .cases h
  .rename_i b c
   rw[rC au c]
   cases b<;>cases want<;>first|exact .inl ⟨rfl,h⟩|exact .inr ⟨rfl,h⟩
  .rename_i v d c
   rw[rC au c]
   cases v<;>first|exact absurd rfl (d _)|exact .inr ⟨by cases want<;>rfl,h⟩
theorem zT{o:Oper}{e:Env}{a:Act}(au:dh e a){v:aa}(h:eW P o e=some v)(w:J):(execOp a.eval o).run P w=.ok (.value v) w:=by
 unfold eW at h;split at h
 .rename_i x f
  simp[execOp,f,au.ev h]
 .rename_i x f
  simp[execOp,f,au.ev h]
 .rename_i t x f
  split at h
  .rename_i b hx
   cases h;simp[execOp,f,au.ev hx,Op.unary]
  .cases h
 .rename_i op T x y D f
  split at h
  .rename_i u b i
   split at h
   .rename_i k c hx
    by_cases z:k=u
    .subst z
     simp only[j2,decide_true,cond_true]at h;split at h
     case h_4=>
      split at h
      .cases h
       simp[execOp,f,au.ev hx,au.ev i,eqGuard,binOp,Op.intDiv];intro r;exfalso;revert r;simp;omega
      .cases h
     case h_5=>
      split at h
      .cases h
       simp[execOp,f,au.ev hx,au.ev i,eqGuard,binOp,Op.intDiv];intro r;exfalso;revert r;simp;omega
      .cases h
     all_goals first
      |(cases h;simp[execOp,f,au.ev hx,au.ev i,eqGuard,binOp,Op.intArith,Op.intBits,Op.intCmp];done)
      |cases h
    .simp[j2,z]at h
   .cases h
  .rename_i b i
   split at h
   .rename_i c hx
    split at h
    .rename_i g
     have j:∀ (d:Nat) (w:J),(Op.equalIn (d+1) T (.bool c) (.bool b)).run P w=.ok (c==b) w:=by
      intro d w;simp[Op.equalIn,cZ g]
     have A:∀w:J,(Op.equal T (.bool c) (.bool b)).run P w=.ok (c==b) w:=λw=>by rw[pP];exact j _ w
     split at h
     .cases h
      simp[execOp,f,au.ev hx,au.ev i,eqGuard,binOp,A]
     .cases h
      simp[execOp,f,au.ev hx,au.ev i,eqGuard,binOp,A]
     .cases h
    .cases h
   .cases h
  .rename_i b i
   split at h
   .rename_i c hx
    split at h
    .cases h
     have j:(binOp .eql T (.string c) (.string b)).run P w=.ok (.bool (c.toList==b.toList)) w:=rfl;simp only[execOp,f,au.ev hx,au.ev i];simp[eqGuard,j]
    .cases h
     have j:(binOp .neq T (.string c) (.string b)).run P w=.ok (.bool (!(c.toList==b.toList))) w:=rfl;simp only[execOp,f,au.ev hx,au.ev i];simp[eqGuard,j]
    .cases h
   .cases h
  .rename_i i
   split at h
   .rename_i p hx
    by_cases g:l4 (P.underlying T)=true
    .rw[g]at h
     simp only[cond_true]at h;split at h
     .cases h;simp[execOp,f,au.ev hx,au.ev i,eqGuard,binOp,tg (P:=P) g]
     .cases h;simp[execOp,f,au.ev hx,au.ev i,eqGuard,binOp,tg (P:=P) g]
     .cases h
    .simp only[fi]at g;rw[g]at h;cases h
   .cases h
  .rename_i l c i
   split at h
   .rename_i p _ _ hx
    by_cases g:m0 (P.underlying T)=true
    .rw[g]at h
     simp only[cond_true]at h;split at h
     .cases h;simp[execOp,f,au.ev hx,au.ev i,eqGuard,binOp,th (P:=P) g]
     .cases h;simp[execOp,f,au.ev hx,au.ev i,eqGuard,binOp,th (P:=P) g]
     .cases h
    .simp only[fi]at g;rw[g]at h;cases h
   .cases h
  .cases h
 .rename_i s d x f
  split at h
  .rename_i k n hx
   split at h
   .rename_i u hd
    by_cases hs:(P.underlying s).isSome=true
    .rw[hs]at h
     cases h;obtain⟨ds,B⟩:=j3 _ hs;simp[execOp,f,au.ev hx,convert,cZ B,cZ hd,Conv.intToInt]
    .simp only[fi]at hs;rw[hs]at h;cases h
   .cases h
  .cases h
 .rename_i args gi f
  split at h
  .rename_i x T m q
   split at h
   .rename_i p n c C hx g
    cases h;simp[execOp,f,resolve,invoke,Go.builtin,Builtin.len_,q,m,cZ g,au.ev hx,goInt]
   .rename_i s hx g
    cases h;simp[execOp,f,resolve,invoke,Go.builtin,Builtin.len_,q,m,cZ g,au.ev hx,goInt]
   .cases h
  .cases h
 .rename_i args gi f
  split at h
  .rename_i x T m q
   split at h
   .rename_i p n c C hx g
    cases h;simp[execOp,f,resolve,invoke,Go.builtin,Builtin.cap_,q,m,cZ g,au.ev hx,goInt]
   .cases h
  .cases h
 .cases h
theorem w2{e:Env}{ds:O Nat}{a b:Act}(au:dh e a)(hd:m4 e ds=true)(d:dR ds a b):dh e b:=by
 constructor;intro s v hs;have f:∃u,(s,u)∈e:=by
  clear hd au
  induction e with
  |nil=>cases hs
  |cons p e g=>
   obtain⟨k,u⟩:=p;rw[n3]at hs;by_cases c:k=s
   .subst c;exact⟨u,by simp⟩
   .rw[if_neg c]at hs
    obtain⟨u,hu⟩:=g hs;exact⟨u,by simp[hu]⟩
 obtain⟨u,hu⟩:=f;have h1:=pz.1 hd _ hu;simp only[iE,q9]at h1;rw[d.same s λh=>h1 s h (Nat.beq_refl s)];exact au.get s v hs
theorem w3{d:Oper}{e:Env}{a:Act}(au:dh e a){r:al}(h:kZ d e=some r)(w:J):
 (execOp a.eval d).run P w=.ok (.value (.bool r)) w:=by
 unfold kZ at h;split at h
 .rename_i x y z f
  split at h
  .rename_i b g
   split at h
   .rename_i i c
    cases h;simp only[execOp,f,au.ev g]
    cases b
    .simp only[cond_false]at c
     simp[asBool,au.ev c]
    .simp only[cond_true]at c
     simp[asBool,au.ev c]
   .cases h
  .cases h
 .cases h
theorem w4{c:Oper}{e:Env}{a:Act}(au:dh e a)(h:l6 ops c e=true):Region.wanted c (yielded ops a.tmps)=true:=by
 unfold l6 at h;unfold Region.wanted;split at h
 .rename_i hg;rw[hg]
 .rename_i j want hg
  rw[hg];simp only;split at h
  .rename_i b d
   rw[rC au d]
   cases b<;>cases want<;>first|rfl|cases h
  .cases h
theorem w5{o:Oper}{e:Env}{s:Nat}{c:al}(h:rA ops o e=some (s,c)):e.get s=some (.bool c):=by
 unfold rA at h;split at h
 .cases h
 .split at h
  .cases h
  .split at h
   .rename_i hs;cases h;exact hs
   .cases h
theorem dh.lit{e:Env}{a:Act}(au:dh e a){s:Nat}{v:aa}(h:e.get s=some v):dh ((s,v)::e) a:=by
 constructor;intro t u ht;rw[n3]at ht;by_cases b:s=t
 .subst b
  rw[if_pos rfl]at ht
  cases ht;exact au.get _ _ h
 .rw[if_neg b]at ht
  exact au.get _ _ ht
theorem w6{α:Type}(o:α)(rest:O α)(m:Nat){a:α}{b:O α}(h:rest.drop m=a::b):
 o::rest=(o::rest.take m)++(a::b):=by
 rw[←h];simp
theorem D4{b c:al}{α:Type}{x y z:α}(h:(bif b&&c then x else y)=z)(a:y≠z):b=true/\c=true/\x=z:=by
 cases b<;>cases c<;>first|exact absurd h a|exact⟨rfl,rfl,h⟩
theorem zU:∀ (n:Nat) (l:O Oper) (as:O kA) (e j:Env) (a:Act) (w:J),dh e a->(∀d∈bK l,d<a.tmps.size)->
 iJ P ops n l as e=some j->wpList P ops (λx f w'=>x=.normal/\dR (bK l) a f/\dh j f/\w'=w) l a w:=by
 intro n
 induction n with
 |zero=>intro l as e j a w _ _ h;cases h
 |succ n A=>
  intro l as e j a w au g h;have one:∀ (o:Oper) (rest:O Oper) (D:O kA),(∀d∈bK (o::rest),d<a.tmps.size)->
   (match ly ops o e (eW P o e) (some undef) with|some v=>iJ P ops n rest D (c8 o.dst v e)|none=>none)=some j->
   wpList P ops (λx f w'=>x=.normal/\dR (bK (o::rest)) a f/\dh j f/\w'=w) (o::rest) a w:=by
   intro o rest D g h;have H:∀k,o.dst=some k->k∈bK (o::rest):=λk b=>by simp[bK,b]
   have q:∀k,k∈bK rest->k∈bK (o::rest):=λk b=>by
    simp only[bK,q_];split
    .exact b
    .exact jv _ b
   split at h
   .rename_i v t
    have next:∀ (f:Act),f=a.put o.dst v->wpList P ops (λx f w'=>x=.normal/\dR (bK (o::rest)) a f/\dh j f/\w'=w) rest f w:=by
     intro f R;subst R;have b:dR (bK (o::rest)) a (a.put o.dst v):=dR.put H;have:=A rest D (c8 o.dst v e) j (a.put o.dst v) w (au.put λk b=>g k (H k b)) (λd hd=>by rw[b.size];exact g d (q d hd)) h;exact iK (λx f w' ⟨h1,h2,S,T⟩=>⟨h1,b.trans (h2.mono q),S,T⟩) _ _ _ this
    rcases D3 au t with ⟨E,u⟩|⟨E,u⟩
    .simp only[wpList,E,if_true]
     left;unfold Oper.wp;rw[zT au u w];exact next _ rfl
    .simp only[wpList,E,fT,if_false]
     cases u;exact next _ rfl
   .cases h
  cases l with
  |nil=>
   simp only[iJ,Option.some.injEq]at h;subst h;exact⟨rfl,.refl _ _,au,rfl⟩
  |cons o rest=>
   cases as with
   |nil=>exact one o rest [] g (by simpa only[iJ] using h)
   |cons U as=>
    cases U with
    |run=>exact one o rest as g (by simpa only[iJ] using h)
    |split m=>exact one o rest as g (by simpa only[iJ] using h)
    |tr ks=>exact one o rest as g (by simpa only[iJ] using h)
    |pure m=>
     simp only[iJ]at h;split at h
     .refine one o rest as g ?_
      cases t:ly ops o e none (some undef) with
      |none=>rw[t]at h;cases h
      |some v=>rw[t]at h;rw[D2 t];exact h
     .rename_i s c i p hg hd
      split at h
      .rename_i I K h1 h2
       split at h
       .rename_i r1 aF V W
        obtain⟨X,Y,h⟩:=D4 h (by simp);rw[w6 o rest (m-1) hd]at g⊢;have L:=w5 hg;refine rB _ _ _ _ ?_;have F:∀k,k∈bK (o::rest.take (m-1))->k∈bK ((o::rest.take (m-1))++(i::p)):=λk b=>by
         simp only[bK,ra,cK];exact .inl b
        have B:∀k,k∈bK (i::p)->k∈bK ((o::rest.take (m-1))++(i::p)):=λk b=>by
         simp only[bK,ra,cK];exact .inr b
        have M:∀k,i.dst=some k->k∈bK (i::p):=λk b=>by simp[bK,b]
        have q:∀k,k∈bK p->k∈bK (i::p):=λk b=>by
         simp only[bK,q_];split
         .exact b
         .exact jv _ b
        have fin:∀ (G:Env) (r:al) (a1:Act),dR (bK (o::rest.take (m-1))) a a1->dh G a1->kZ i G=some r->r=cond c r1 aF->
         wpList P ops (λx f w'=>x=.normal/\dR (bK ((o::rest.take (m-1))++(i::p))) a f/\dh j f/\w'=w) (i::p) a1 w:=by
         intro G r a1 C Z u aa;have N:=w2 au Y C;simp only[wpList,w4 N X,if_true];left;unfold Oper.wp;rw[w3 Z u w];simp only[Oper.upon];have Q:dR (bK (i::p)) a1 (a1.put i.dst (.bool r)):=dR.put M;have:=A p (as.drop m) (c8 i.dst (.bool (cond c r1 aF)) e) j (a1.put i.dst (.bool r)) w
          (by rw[aa];exact N.put λk b=>by rw[C.size];exact g k (B k (M k b)))
          (λd hd=>by rw[Q.size,C.size];exact g d (B d (q d hd))) h
         refine iK (λx f w' ⟨aw,ay,y,z⟩=>⟨aw,(C.mono F).trans ((Q.mono B).trans (ay.mono λk b=>B k (q k b))),y,z⟩) _ _ _ this
        cases c with
        |true=>
         have:=A _ _ _ I a w (au.lit L) (λd hd=>g d (F d hd)) h1;exact iK (λx f w' ⟨aw,ay,y,z⟩=>⟨aw,by subst z;exact fin I r1 f ay y V rfl⟩) _ _ _ this
        |false=>
         have:=A _ _ _ K a w (au.lit L) (λd hd=>g d (F d hd)) h2;exact iK (λx f w' ⟨aw,ay,y,z⟩=>⟨aw,by subst z;exact fin K aF f ay y W rfl⟩) _ _ _ this
       .cases h
      .cases h
     .cases h
theorem zV:∀ (n:Nat) (l:O Oper) (as:O kA) (K:Env->J->Prop) (e:Env) (a:Act) (w:J),dh e a->(∀d∈bK l,d<a.tmps.size)->
 fM P tk ops n l as K e w->wpList P ops (gv a (bK l) K) l a w:=by
 intro n
 induction n with
 |zero=>intro l as K e a w _ _ h;cases h
 |succ n C=>
  intro l as K e a w au i h;have one:∀ (o:Oper) (rest:O Oper) (j:O kA),(∀d∈bK (o::rest),d<a.tmps.size)->
   gI ops o e (jx P tk o (λv w'=>fM P tk ops n rest j K (c8 o.dst v e) w') e w) (fM P tk ops n rest j K (c8 o.dst undef e) w)->
   wpList P ops (gv a (bK (o::rest)) K) (o::rest) a w:=by
   intro o rest j i h;have D:∀k,o.dst=some k->k∈bK (o::rest):=λk b=>by simp[bK,b]
   have p:∀k,k∈bK rest->k∈bK (o::rest):=λk b=>by
    simp only[bK,q_];split
    .exact b
    .exact jv _ b
   have next:∀ (v:aa) (w':J),fM P tk ops n rest j K (c8 o.dst v e) w'->wpList P ops (gv a (bK (o::rest)) K) rest (a.put o.dst v) w':=by
    intro v w' h;have b:dR (bK (o::rest)) a (a.put o.dst v):=dR.put D;have:=C rest j K (c8 o.dst v e) (a.put o.dst v) w' (au.put λk b=>i k (D k b)) (λd hd=>by rw[b.size];exact i d (p d hd)) h;exact iK (λx y w' ⟨h1,h2,L⟩=>⟨h1,b.trans (h2.mono p),L⟩) _ _ _ this
   rcases rD au h with ⟨z,q⟩|⟨z,q⟩
   .simp only[wpList,z,if_true]
    exact .inl ((tq au q).wp next)
   .simp only[wpList,z,fT,if_false]
    exact next _ _ q
  have U:∀ (o:Oper) (rest:O Oper) (ks:O Kd) (j:O kA),(∀d∈bK (o::rest),d<a.tmps.size)->
   gI ops o e (tu P ks o (λv w'=>fM P tk ops n rest j K (c8 o.dst v e) w') e w) (fM P tk ops n rest j K (c8 o.dst undef e) w)->
   wpList P ops (gv a (bK (o::rest)) K) (o::rest) a w:=by
   intro o rest ks j i h;have D:∀k,o.dst=some k->k∈bK (o::rest):=λk b=>by simp[bK,b]
   have p:∀k,k∈bK rest->k∈bK (o::rest):=λk b=>by
    simp only[bK,q_];split
    .exact b
    .exact jv _ b
   have next:∀ (v:aa) (w':J),fM P tk ops n rest j K (c8 o.dst v e) w'->wpList P ops (gv a (bK (o::rest)) K) rest (a.put o.dst v) w':=by
    intro v w' h;have b:dR (bK (o::rest)) a (a.put o.dst v):=dR.put D;have:=C rest j K (c8 o.dst v e) (a.put o.dst v) w' (au.put λk b=>i k (D k b)) (λd hd=>by rw[b.size];exact i d (p d hd)) h;exact iK (λx y w' ⟨h1,h2,L⟩=>⟨h1,b.trans (h2.mono p),L⟩) _ _ _ this
   rcases rD au h with ⟨z,q⟩|⟨z,q⟩
   .simp only[wpList,z,if_true]
    exact .inl ((D1 au q).wp next)
   .simp only[wpList,z,fT,if_false]
    exact next _ _ q
  cases l with
  |nil=>exact⟨rfl,.refl _ _,e,au,h⟩
  |cons o rest=>
   cases as with
   |nil=>exact one o rest [] i (by simpa only[fM] using h)
   |cons V as=>
    cases V with
    |run=>exact one o rest as i (by simpa only[fM] using h)
    |tr ks=>exact U o rest ks as i (by simpa only[fM] using h)
    |split m=>
     simp only[fM]at h;split at h
     .exact one o rest as i (zS h False.elim)
     .rename_i s c f g hg hd
      obtain⟨M,N,h⟩:l6 ops f e=true/\m4 e (bK (o::rest.take (m-1)))=true/\_:=by
       cases h1:l6 ops f e<;>cases h2:m4 e (bK (o::rest.take (m-1)))<;>rw[h1,h2]at h<;>first|exact h.elim|exact⟨rfl,rfl,h⟩
      rw[w6 o rest (m-1) hd]at i⊢;have E:=w5 hg;refine rB _ _ _ _ ?_;have A:∀k,k∈bK (o::rest.take (m-1))->k∈bK ((o::rest.take (m-1))++(f::g)):=λk b=>by
       simp only[bK,ra,cK];exact .inl b
      have t:∀k,k∈bK (f::g)->k∈bK ((o::rest.take (m-1))++(f::g)):=λk b=>by
       simp only[bK,ra,cK];exact .inr b
      have F:∀k,f.dst=some k->k∈bK (f::g):=λk b=>by simp[bK,b]
      have p:∀k,k∈bK g->k∈bK (f::g):=λk b=>by
       simp only[bK,q_];split
       .exact b
       .exact jv _ b
      have fin:∀ (x:Exit) (a1:Act) (w1:J),gv a (bK (o::rest.take (m-1)))
       (λW w'=>match kZ f W with|some r=>fM P tk ops n g (as.drop m) K (c8 f.dst (.bool r) e) w'|none=>False) x a1 w1->
       x=.normal/\wpList P ops (gv a (bK ((o::rest.take (m-1))++(f::g))) K) (f::g) a1 w1:=by
       rintro x a1 w1 ⟨hx,u,I,Q,h⟩;refine⟨hx,?_⟩;have G:=w2 au N u;split at h
       .rename_i r q
        simp only[wpList,w4 G M,if_true];left;unfold Oper.wp;rw[w3 Q q w1];simp only[Oper.upon];have H:dR (bK (f::g)) a1 (a1.put f.dst (.bool r)):=dR.put F;have:=C g (as.drop m) K (c8 f.dst (.bool r) e) (a1.put f.dst (.bool r)) w1
         (G.put λk b=>by rw[u.size];exact i k (t k (F k b)))
         (λd hd=>by rw[H.size,u.size];exact i d (t d (p d hd))) h
        refine iK (λx y w' ⟨aw,ay,B⟩=>⟨aw,(u.mono A).trans ((H.mono t).trans (ay.mono λk b=>t k (p k b))),B⟩) _ _ _ this
       .exact h.elim
      have h:=h.out
      cases c with
      |true=>
       have:=C _ _ _ _ a w (au.lit E) (λd hd=>i d (A d hd)) (h.1 rfl);exact iK fin _ _ _ this
      |false=>
       have:=C _ _ _ _ a w (au.lit E) (λd hd=>i d (A d hd)) (h.2 rfl);exact iK fin _ _ _ this
     .exact h.elim
    |pure m=>
     simp only[fM]at h;split at h
     .exact one o rest as i (zS h False.elim)
     .rename_i s c f g hg hd
      split at h
      .rename_i S T h1 h2
       split at h
       .rename_i r1 aF X Y
        obtain⟨M,N,h⟩:l6 ops f e=true/\m4 e (bK (o::rest.take (m-1)))=true/\_:=by
         cases aw:l6 ops f e<;>cases ay:m4 e (bK (o::rest.take (m-1)))<;>rw[aw,ay]at h<;>first|exact h.elim|exact⟨rfl,rfl,h⟩
        rw[w6 o rest (m-1) hd]at i⊢;have E:=w5 hg;refine rB _ _ _ _ ?_;have A:∀k,k∈bK (o::rest.take (m-1))->k∈bK ((o::rest.take (m-1))++(f::g)):=λk b=>by
         simp only[bK,ra,cK];exact .inl b
        have t:∀k,k∈bK (f::g)->k∈bK ((o::rest.take (m-1))++(f::g)):=λk b=>by
         simp only[bK,ra,cK];exact .inr b
        have F:∀k,f.dst=some k->k∈bK (f::g):=λk b=>by simp[bK,b]
        have p:∀k,k∈bK g->k∈bK (f::g):=λk b=>by
         simp only[bK,q_];split
         .exact b
         .exact jv _ b
        have fin:∀ (I:Env) (r:al) (a1:Act),dR (bK (o::rest.take (m-1))) a a1->dh I a1->kZ f I=some r->r=cond c r1 aF->
         wpList P ops (gv a (bK ((o::rest.take (m-1))++(f::g))) K) (f::g) a1 w:=by
         intro I r a1 u Q q Z;have G:=w2 au N u;simp only[wpList,w4 G M,if_true];left;unfold Oper.wp;rw[w3 Q q w];simp only[Oper.upon];have H:dR (bK (f::g)) a1 (a1.put f.dst (.bool r)):=dR.put F;have:=C g (as.drop m) K (c8 f.dst (.bool (cond c r1 aF)) e) (a1.put f.dst (.bool r)) w
          (by rw[Z];exact G.put λk b=>by rw[u.size];exact i k (t k (F k b)))
          (λd hd=>by rw[H.size,u.size];exact i d (t d (p d hd))) h
         refine iK (λx y w' ⟨aw,ay,B⟩=>⟨aw,(u.mono A).trans ((H.mono t).trans (ay.mono λk b=>t k (p k b))),B⟩) _ _ _ this
        cases c with
        |true=>
         have:=zU n _ _ _ S a w (au.lit E) (λd hd=>i d (A d hd)) h1;exact iK (λx y w' ⟨aw,ay,B,R⟩=>⟨aw,by subst R;exact fin S r1 y ay B X rfl⟩) _ _ _ this
        |false=>
         have:=zU n _ _ _ T a w (au.lit E) (λd hd=>i d (A d hd)) h2;exact iK (λx y w' ⟨aw,ay,B,R⟩=>⟨aw,by subst R;exact fin T aF y ay B Y rfl⟩) _ _ _ this
       .exact h.elim
      .exact h.elim
     .exact h.elim
end
end aQ
namespace aQ
open Go
structure af(W:Nat->Prop)(w w':J):Prop where
 os:w'.os=w.os
 tape:w'.tape=w.tape
 output:w'.output=w.output
 size:w.heap.size<=w'.heap.size
 block:∀k,k<w.heap.size->¬W k->w'.heap[k]? =w.heap[k]?
theorem af.refl(W:Nat->Prop)(w:J):af W w w:=⟨rfl,rfl,rfl,bl _,λ_ _ _=>rfl⟩
theorem af.trans{W:Nat->Prop}{a b c:J}(h:af W a b)(k:af W b c):af W a c:=
 ⟨k.os.trans h.os,k.tape.trans h.tape,k.output.trans h.output,eK h.size k.size,λi hi d=>(k.block i (fa hi h.size) d).trans (h.block i hi d)⟩
theorem af.mono{W V:Nat->Prop}{a b:J}(h:af W a b)(c:∀k,k<a.heap.size->W k->V k):af V a b:=
 ⟨h.os,h.tape,h.output,h.size,λi hi d=>h.block i hi λcw=>d (c i hi cw)⟩
theorem af.cell{W:Nat->Prop}{w w':J}(h:af W w w'){A:ag}(cw:¬W A.block){v:aa}(a:w.cell? A=some v):w'.cell? A=some v:=by
 have b:A.block<w.heap.size:=by
  rcases ec A.block w.heap.size with h1|h1
  .exact h1
  .simp[World.cell?,Array.getElem?_eq_none h1]at a
 unfold World.cell? at a⊢;rw[h.block _ b cw];exact a
theorem af.bw{W:Nat->Prop}{w w':J}(h:af W w w'){A:ag}(cw:¬W A.block):∀ (n i:Nat) (vs:O aa),bw w A i n=some vs->bw w' A i n=some vs
 |0,_,_,a=>a
 |n+1,i,vs,a=>by
  simp only[aQ.bw]at a⊢
  have b:(A.add i).block=A.block:=by unfold Addr.add;split<;>rfl
  cases h1:w.cell? (A.add i) with
  |none=>simp[h1]at a
  |some v=>
   cases h2:aQ.bw w A (i+1) n with
   |none=>simp[h1,h2]at a
   |some us=>
    simp only[h1,h2]at a
    rw[h.cell (by rw[b];exact cw) h1,af.bw h cw n (i+1) us h2]
    exact a
def fN{α:Type}:Sem α->Prop
 | .pure _=>True
 | .program k=>∀p,fN (k p)
 | .halt _=>True
 |_=>False
theorem fN.bind{α β:Type}:∀ {s:Sem α}{f:α->Sem β},fN s->(∀a,fN (f a))->fN (s>>=f)
 | .pure a,_,_,hf=>hf a
 | .program _,_,h,hf=> λp=>fN.bind (h p) hf
 | .halt _,_,_,_=>trivial
 | .load ..,_,h,_=>h.elim
 | .store ..,_,h,_=>h.elim
 | .new ..,_,h,_=>h.elim
 | .shape ..,_,h,_=>h.elim
 | .freeze ..,_,h,_=>h.elim
 | .frozen ..,_,h,_=>h.elim
 | .getObj ..,_,h,_=>h.elim
 | .setObj ..,_,h,_=>h.elim
 | .choose ..,_,h,_=>h.elim
 | .sys ..,_,h,_=>h.elim
 | .mark ..,_,h,_=>h.elim
theorem fN.run{α:Type}{P:Program}:∀ {s:Sem α}{w w':J}{v:α},fN s->s.run P w=.ok v w'->∀u,s.run P u=.ok v u
 | .pure a,w,w',v,_,h,u=>by
  simp only[Sem.run,Result.ok.injEq]at h⊢
  exact⟨h.1,trivial⟩
 | .program k,w,w',v,hf,h,u=>fN.run (hf P) h u
 | .halt _,w,w',v,_,h,_=>by simp[Sem.run]at h
 | .load ..,_,_,_,h,_,_=>h.elim
 | .store ..,_,_,_,h,_,_=>h.elim
 | .new ..,_,_,_,h,_,_=>h.elim
 | .shape ..,_,_,_,h,_,_=>h.elim
 | .freeze ..,_,_,_,h,_,_=>h.elim
 | .frozen ..,_,_,_,h,_,_=>h.elim
 | .getObj ..,_,_,_,h,_,_=>h.elim
 | .setObj ..,_,_,_,h,_,_=>h.elim
 | .choose ..,_,_,_,h,_,_=>h.elim
 | .sys ..,_,_,_,h,_,_=>h.elim
 | .mark ..,_,_,_,h,_,_=>h.elim
theorem zW:fN program:=λ_=>trivial
theorem zX(t:TypeId):fN (underlying t):=by
 unfold underlying;refine fN.bind zW λp=>?_;split<;>trivial
theorem D5(t:TypeId):fN (typeInfo t):=by
 unfold typeInfo;refine fN.bind zW λp=>?_;split<;>trivial
theorem D6(t:TypeId):fN (Go.sizeOf t):=fN.bind (D5 t) λ_=>trivial
theorem D7(t:TypeId):fN (isAgg t):=by
 unfold isAgg;refine fN.bind (zX t) λd=>?_;split<;>trivial
theorem D8(t:TypeId)(cs:Array aa)(off:Nat):fN (part t cs off):=by
 unfold part;refine fN.bind (D7 t) λd=>?_;split
 .exact fN.bind (D6 t) λ_=>trivial
 .split<;>trivial
theorem D9(t:TypeId)(x:aa)(i:Nat):fN (Instr.field t x i):=by
 unfold Instr.field;refine fN.bind (zX t) λd=>?_;split
 .split
  .refine fN.bind ?_ λ_=>D8 _ _ _
   unfold asAgg;split<;>trivial
  .trivial
 .trivial
def zY:Op->al
 | .move _=>true
 | .assign _=>true
 | .pick _ _ _=>true
 | .field _ _ _=>true
 |_=>false
def rE(P:Program)(o:Oper)(K:aa->Prop)(e:Env)(w:J):Prop:=
 bif zY o.op&&known e o.op.operands then
  match (execOp (ro e) o).run P w with
  | .ok (.value v) _=>K v
  |_=>False
 else False
def pS(P:Program)(o:Oper)(K:aa->Prop)(e:Env):Prop:=
 match eW P o e with
 |some v=>K v
 |none=>False
def zZ(P:Program)(T:TypeId)(x:aa)(i:Nat)(K:aa->Prop):Prop:=
 match P.underlying T with
 |some (.struct fs)=>match fs[i]? with
  |some f=>match x with
   | .pointer (some A)=>match P.underlying f.type with
    |some _=>bif Nat.beq (P.cellsOf f.type) 0 then False else K (.pointer (some (A.add f.offset)))
    |none=>False
   |_=>False
  |none=>False
 |_=>False
def z1(x:aa)(i:Nat)(K:aa->Prop):Prop:=
 match x with
 | .tuple vs=>match vs[i]? with
  |some v=>K v
  |none=>False
 |_=>False
def jy(o:Oper):al:=
 match o.op with
 | .load _ _=>true
 | .convert _ _ _=>true
 |_=>false
def k0:Nat->O Oper->Nat
 |_,[]=>0
 |i,o::l=>bif jy o then 2^i|||k0 (i+1) l else k0 (i+1) l
def w7(P:Program)(tk:TypeId->dD)(W:Nat->Prop)(w:J)(o:Oper)(K:aa->Prop)(e:Env):Prop:=
 match o.op with
 | .nilCheck x=>match ev e x with
  |some (.pointer p)=>∃A,p=some A/\K (.pointer (some A))
  |_=>False
 | .load T x=>match ev e x with
  |some (.pointer (some A))=>¬W A.block/\pN P tk T A w K
  |_=>False
 | .binOp op T x y _=>match ev e x,ev e y with
  |some a,some c=>bif pR y c then tf P op T a c K (pS P o K e) else False
  |_,_=>False
 | .indexAddr T x i=>match ev e x,ev e i with
  |some a,some b=>tj P T a b K
  |_,_=>False
 | .index T x i=>match ev e x,ev e i with
  |some a,some b=>tm P tk T a b K
  |_,_=>False
 | .field T x i=>match ev e x with
  |some a=>tn P tk T a i K
  |_=>False
 | .fieldAddr T x i=>match ev e x with
  |some a=>zZ P T a i K
  |_=>False
 | .extract x i=>match ev e x with
  |some a=>z1 a i K
  |_=>False
 | .slice T x lo hi f=>bif known e o.op.operands then
  tp P T (ro e x) (lo.map (ro e)) (hi.map (ro e)) (f.map (ro e)) K
  else False
 | .convert s d x=>match ev e x with
  |some (.int _ _)=>pS P o K e
  |some v=>hW (tk o.type) λr=>(∀w',af W w w'->(convert s d v).run P w'=.ok r w')/\K r
  |none=>False
 | .build t ps=>bif known e o.op.operands then
  ∃cs:Array aa,(∀w',(Instr.build t (ps.map λp=>(p.1,ro e p.2))).run P w'=.ok (.agg cs) w')/\K (.agg cs)
  else False
 | .unOp _ _ _=>pS P o K e
 | .call _=>pS P o K e
 | .move _=>rE P o K e w
 | .assign _=>rE P o K e w
 | .pick _ _ _=>rE P o K e w
 | .sliceToArrayPointer T x=>match ev e x with
  |some a=>ti P T a K
  |_=>False
 |_=>False
section
variable {P:Program}{tk:TypeId->dD}{W:Nat->Prop}{o:Oper}{K:aa->Prop}{e:Env}{a:Act}{w:J}
theorem w8(au:dh e a)(h:rE P o K e w):∃v,(∀w',(execOp a.eval o).run P w'=.ok (.value v) w')/\K v:=by
 unfold rE at h
 cases hf:zY o.op with
 |false=>rw[hf]at h;exact h.elim
 |true=>
  cases c:known e o.op.operands with
  |false=>rw[hf,c]at h;exact h.elim
  |true=>
   rw[hf,c]at h;simp only[Bool.and_self,cond_true]at h;have hc:=kz au (by cases b:o.op<;>rw[b]at hf<;>first|rfl|cases hf) c;rw[hc];split at h
   .rename_i v w' d
    refine⟨v,λu=>fN.run ?_ d u,h⟩
    cases b:o.op<;>rw[b]at hf<;>first|(cases hf;done)|skip
    .simp only[execOp,b];trivial
    .simp only[execOp,b];trivial
    .simp only[execOp,b]
     refine fN.bind ?_ λ_=>trivial;unfold asBool;split<;>trivial
    .simp only[execOp,b]
     exact fN.bind (D9 _ _ _) λ_=>trivial
   .exact h.elim
theorem tv(au:dh e a)(h:pS P o K e):∃v,(∀w',(execOp a.eval o).run P w'=.ok (.value v) w')/\K v:=by
 unfold pS at h;split at h
 .rename_i v b
  exact⟨v,zT au b,h⟩
 .exact h.elim
theorem D_(au:dh e a)(h:w7 P tk W w o K e):∃v,(∀w',(jy o=true->af W w w')->(execOp a.eval o).run P w'=.ok (.value v) w')/\K v:=by
 have a7:(∃v,(∀w',(execOp a.eval o).run P w'=.ok (.value v) w')/\K v)->∃v,(∀w',(jy o=true->af W w w')->(execOp a.eval o).run P w'=.ok (.value v) w')/\K v:=
  λ⟨v,h1,h2⟩=>⟨v,λw' _=>h1 w',h2⟩
 unfold w7 at h;split at h
 case h_1 x b=>
  split at h
  .rename_i p hx
   obtain⟨A,rfl,g⟩:=h;exact⟨_,λw' _=>by simp[execOp,b,au.ev hx],g⟩
  .exact h.elim
 case h_2 T x b=>
  split at h
  .rename_i A hx
   obtain⟨cw,h⟩:=h;have key:∃v,(∀w',af W w w'->(Instr.loadAt T (.pointer (some A))).run P w'=.ok v w')/\K v:=by
    have z:∀w',(Instr.loadAt T (.pointer (some A))).run P w'=(loadVar T A).run P w':=λw'=>by simp[Instr.loadAt,Instr.sureAddr]
    unfold pN at h;split at h
    .exact h.elim
    .rename_i d m
     cases hd:gH d with
     |true=>
      rw[hd]at h;simp only[cond_true]at h;split at h
      .rename_i ls _
       by_cases n:Nat.beq (P.cellsOf T) ls.length=true
       .rw[n]at h
        simp only[cond_true]at h;obtain⟨vs,C,h⟩:=wY h;rw[←ia n]at C;exact⟨_,λw' hc=>by rw[z,te m hd (hc.bw cw _ _ _ C)],h⟩
       .simp only[fi]at n;rw[n]at h;exact h.elim
      .obtain⟨cs,F,h⟩:=h
       exact⟨_,λw' hc=>by rw[z,te m hd (hc.bw cw _ _ _ F)],h⟩
     |false=>
      rw[hd]at h;simp only[cond_false]at h;split at h
      .obtain⟨v,j,h⟩:=pK h
       exact⟨v,λw' hc=>by rw[z,zz m hd (hc.cell cw j)],h⟩
      .exact h.elim
   obtain⟨v,j,g⟩:=key;exact⟨v,λw' hc=>by simp[execOp,b,au.ev hx,j w' (hc (by unfold jy;rw[b]))],g⟩
  .exact h.elim
 case h_3 op T x y L b=>
  split at h
  .rename_i l D hx G
   by_cases q:pR y D=true
   .rw[q]at h
    simp only[cond_true]at h;have H:D=.nilIface->∃c,y=.const c:=by
     intro j;subst j
     cases y<;>simp[pR]at q⊢
    rcases zF (iI:=x) (pQ:=y) H h with hg|⟨v,j,g⟩
    .exact a7 (tv au hg)
    .exact⟨v,λw' _=>by
      simp only[execOp,b,au.ev hx,au.ev G];have E:=j w';simp only[Sem.run_bind]at E⊢;rw[E];rfl,g⟩
   .simp only[fi]at q;rw[q]at h;exact h.elim
  .exact h.elim
 case h_4 T x i b=>
  split at h
  .rename_i l I hx hi
   obtain⟨v,j,g⟩:=zH h;exact⟨v,λw' _=>by simp[execOp,b,au.ev hx,au.ev hi,j],g⟩
  .exact h.elim
 case h_5 T x i b=>
  split at h
  .rename_i l I hx hi
   obtain⟨v,j,g⟩:=zJ h;exact⟨v,λw' _=>by simp[execOp,b,au.ev hx,au.ev hi,j],g⟩
  .exact h.elim
 case h_6 T x i b=>
  split at h
  .rename_i l hx
   obtain⟨v,j,g⟩:=zK h;exact⟨v,λw' _=>by simp[execOp,b,au.ev hx,j],g⟩
  .exact h.elim
 case h_7 T x i b=>
  split at h
  .rename_i l hx
   unfold zZ at h;split at h
   .rename_i fs m
    split at h
    .rename_i f hf
     split at h
     .rename_i A
      split at h
      .rename_i d hd
       cases u:Nat.beq (P.cellsOf f.type) 0 with
       |true=>rw[u]at h;exact h.elim
       |false=>
        rw[u]at h;have J:¬P.cellsOf f.type=0:=λh0=>by rw[h0]at u;cases u
        exact⟨_,λw' _=>by simp[execOp,b,au.ev hx,Instr.fieldAt,cZ m,hf,Instr.sureAddr,fieldPlace,g2 hd,J],h⟩
      .exact h.elim
     .exact h.elim
    .exact h.elim
   .exact h.elim
  .exact h.elim
 case h_8 x i b=>
  split at h
  .rename_i l hx
   unfold z1 at h;split at h
   .rename_i vs
    split at h
    .rename_i v j
     exact⟨v,λw' _=>by simp[execOp,b,au.ev hx,Instr.extract,j],h⟩
    .exact h.elim
   .exact h.elim
  .exact h.elim
 case h_9 T x lo hi M b=>
  by_cases k:known e o.op.operands=true
  .rw[k]at h
   simp only[cond_true]at h;have hc:=kz au (by rw[b];rfl) k;obtain⟨v,j,g⟩:=zL h;exact⟨v,λw' _=>by rw[hc];simp[execOp,b,j],g⟩
  .simp only[fi]at k;rw[k]at h;exact h.elim
 case h_10 s d x b=>
  split at h
  .exact a7 (tv au h)
  .rename_i v _ hx
   obtain⟨r,B,g⟩:=il h;exact⟨r,λw' hc=>by simp[execOp,b,au.ev hx,B w' (hc (by unfold jy;rw[b]))],g⟩
  .exact h.elim
 case h_11 t ps b=>
  by_cases k:known e o.op.operands=true
  .rw[k]at h
   simp only[cond_true]at h;have hc:=kz au (by rw[b];rfl) k;obtain⟨cs,B,g⟩:=h;exact⟨_,λw' _=>by rw[hc];simp[execOp,b];rw[B];rfl,g⟩
  .simp only[fi]at k;rw[k]at h;exact h.elim
 case h_12=>exact a7 (tv au h)
 case h_13=>exact a7 (tv au h)
 case h_14=>exact a7 (w8 au h)
 case h_15=>exact a7 (w8 au h)
 case h_16=>exact a7 (w8 au h)
 case h_17 T x b=>
  split at h
  .rename_i l hx
   obtain⟨v,j,g⟩:=zG h;exact⟨v,λw' _=>by simp[execOp,b,au.ev hx,j],g⟩
  .exact h.elim
 case h_18=>exact h.elim
end
inductive aK where
 |take (i:Nat) (t:aK)
 |bR (i:Nat) (t:aK)
 |out (i:Nat) (b:al) (t:aK)
 |two (i:Nat) (t:aK) (j:Nat) (u:aK)
 |three (i:Nat) (t:aK) (j:Nat) (u:aK) (k:Nat) (v:aK)
 |sp (s:Nat) (t u:aK)
 |fin
 |tail (as:O kA)
def hY:O Nat->Nat
 | []=>0
 |d::l=>2^d|||hY l
theorem l8:∀ (l:O Nat) (k:Nat),(hY l).testBit k=decide (k∈l)
 | [],k=>by simp[hY]
 |d::l,k=>by
  simp only[hY,mM,l8 l k,rf]
  by_cases h:d=k
  .subst h;simp
  .have:¬k=d:=λa=>h a.symm
   simp[h,this]
def m5(o:Oper):O Nat:=(o.after.toList.filter λe=>Region.binds .any e).map (·.on)
structure kB where
 M:O Nat
 A:O Nat
def kC(l:O Nat)(i:Nat):Nat:=l.getD i 0
def kD(bX:kB)(m i:Nat):al:= !(m.testBit i)&&Nat.beq (kC bX.M i&&&m) (kC bX.M i)
def z2(bX:kB)(N m i:Nat):al:=Nat.beq (kC bX.A i&&&((2^N-1)^^^m)) 0
def k1(bX:kB)(m:Nat)(is:O Nat):Nat->al
 |0=>true
 |k+1=>(is.any (Nat.beq k)|| !(kD bX m k))&&k1 bX m is k
def rF(bX:kB):Nat->O Oper->al
 |_,[]=>true
 |i,o::l=>Nat.beq (hY (m5 o)) (kC bX.M i)&&rF bX (i+1) l
def rG(M:O Nat)(a i b c:Nat):Nat->O Nat->O Nat->O Nat->al
 |j,e::f,d::g,h::k=>(a.testBit j||(Nat.beq i j||(e.testBit i||(Nat.beq (b&&&(h|||d)) 0&&Nat.beq (d&&&c) 0))))&&rG M a i b c (j+1) f g k
 |_,_,_,_=>true
def tw(bX:kB)(D K:O Nat):Nat->O Nat->O Nat->al
 |i,d::a,k::b=>rG bX.M (kC bX.A i) i d k 0 bX.M D K&&tw bX D K (i+1) a b
 |_,_,_=>true
def z6(ops:O Oper):O Nat:=ops.map λo=>hY o.dst.toList
def z7(a:Array Oper)(ops:O Oper):O Nat:=ops.map λo=>hY (o.looksAt a)
def rH:O Nat->O Nat->al
 | [],[]=>true
 |a::l,b::r=>Nat.beq a b&&rH l r
 |_,_=>false
theorem w9:∀ {l r:O Nat},rH l r=true->l=r
 | [],[],_=>rfl
 |a::l,b::r,h=>by
  simp only[rH,c7]at h
  rw[ia h.1,w9 h.2]
def lz(bX:kB)(D K:O Nat)(a:Array Oper):al:=
 Nat.beq bX.M.length a.size&&(rF bX 0 a.toList&&(rH (z6 a.toList) D&&(rH (z7 a a.toList) K&&tw bX D K 0 D K)))
def rI(bX:kB):Nat->Nat->Nat->Nat->al
 |0,_,N,m=>k1 bX m [] N
 |g+1,k,N,m=>(kD bX m k&&k1 bX m [k] N)&&rI bX g (k+1) N (m|||2^k)
def dJ(P:Program)(tk:TypeId->dD)(ops:Array Oper)(n:Nat)(bX:kB)(W:Nat->Prop):aK->Nat->Nat->(Env->J->Prop)->Env->J->Prop
 | .take i t,f+1,m,K,e,w=>
  bif kD bX m i&&(z2 bX ops.size m i&&Nat.blt i n) then
   match ops[i]? with
   |some o=>gI ops o e (w7 P tk W w o (λv=>dJ P tk ops n bX W t f (m|||2^i) K (c8 o.dst v e) w) e) (dJ P tk ops n bX W t f (m|||2^i) K (c8 o.dst undef e) w)
   |none=>False
  else False
 | .bR i t,f+1,m,K,e,w=>
  bif (kD bX m i&&k1 bX m [i] ops.size)&&Nat.blt i n then
   match ops[i]? with
   |some o=>gI ops o e (jx P tk o (λv w'=>af W w w'/\dJ P tk ops n bX W t f (m|||2^i) K (c8 o.dst v e) w') e w) (dJ P tk ops n bX W t f (m|||2^i) K (c8 o.dst undef e) w)
   |none=>False
  else False
 | .out i b t,f+1,m,K,e,w=>
  bif (kD bX m i&&k1 bX m [i] ops.size)&&(Nat.blt i n&&Nat.beq ((k0 0 ops.toList&&&m)&&&kC bX.M i) (k0 0 ops.toList&&&m)) then
   match ops[i]? with
   |some o=>gI ops o e (jx P tk o (λv w'=>bif b then ∃V:Nat->Prop,dJ P tk ops n bX V t f (m|||2^i) K (c8 o.dst v e) w' else dJ P tk ops n bX W t f (m|||2^i) K (c8 o.dst v e) w') e w) (dJ P tk ops n bX W t f (m|||2^i) K (c8 o.dst undef e) w)
   |none=>False
  else False
 | .two i t j u,f+1,m,K,e,w=>
  bif (kD bX m i&&k1 bX m [i,j] ops.size)&&(Nat.blt i n&&Nat.blt j n) then
   match ops[i]?,ops[j]? with
   |some o,some q=>
    gI ops o e (jx P tk o (λv w'=>af W w w'/\dJ P tk ops n bX W t f (m|||2^i) K (c8 o.dst v e) w') e w) (dJ P tk ops n bX W t f (m|||2^i) K (c8 o.dst undef e) w)/\
    gI ops q e (jx P tk q (λv w'=>af W w w'/\dJ P tk ops n bX W u f (m|||2^j) K (c8 q.dst v e) w') e w) (dJ P tk ops n bX W u f (m|||2^j) K (c8 q.dst undef e) w)
   |_,_=>False
  else False
 | .three i t j u k x,f+1,m,K,e,w=>
  bif (kD bX m i&&k1 bX m [i,j,k] ops.size)&&(Nat.blt i n&&(Nat.blt j n&&Nat.blt k n)) then
   match ops[i]?,ops[j]?,ops[k]? with
   |some o,some q,some r=>
    gI ops o e (jx P tk o (λv w'=>af W w w'/\dJ P tk ops n bX W t f (m|||2^i) K (c8 o.dst v e) w') e w) (dJ P tk ops n bX W t f (m|||2^i) K (c8 o.dst undef e) w)/\
    gI ops q e (jx P tk q (λv w'=>af W w w'/\dJ P tk ops n bX W u f (m|||2^j) K (c8 q.dst v e) w') e w) (dJ P tk ops n bX W u f (m|||2^j) K (c8 q.dst undef e) w)/\
    gI ops r e (jx P tk r (λv w'=>af W w w'/\dJ P tk ops n bX W x f (m|||2^k) K (c8 r.dst v e) w') e w) (dJ P tk ops n bX W x f (m|||2^k) K (c8 r.dst undef e) w)
   |_,_,_=>False
  else False
 | .sp s t u,f,m,K,e,w=>
  match e.get s with
  |some (.bool c)=>(c=true->dJ P tk ops n bX W t f m K ((s,.bool true)::e) w)/\(c=false->dJ P tk ops n bX W u f m K ((s,.bool false)::e) w)
  |_=>False
 | .fin,0,m,K,e,w=>bif k1 bX m [] ops.size&&Nat.beq n ops.size then K e w else False
 | .tail as,0,m,K,e,w=>bif rI bX (ops.size-n) n ops.size m&&Nat.blt n ops.size then fM P tk ops (ops.size-n+1) (ops.toList.drop n) as K e w else False
 |_,_,_,_,_,_=>False
def eu(N m:Nat):Array al:=(Array.range N).map λi=>m.testBit i
theorem pT{N m i:Nat}{d:al}(h:i<N):(eu N m).getD i d=m.testBit i:=by
 simp[eu,h]
theorem Ea{N m i:Nat}{d:al}(h:N<=i):(eu N m).getD i d=d:=by
 simp[eu,h]
theorem tx(N m i:Nat):(eu N m).setIfInBounds i true=eu N (m|||2^i):=by
 apply Array.ext
 .simp[eu]
 .intro j h1 h2
  have b:j<N:=by simpa[eu] using h2
  have c:j<(eu N m).size:=by simpa[eu] using b
  rw[Array.getElem_setIfInBounds c];simp only[eu,Array.getElem_map,Array.getElem_range,mM,rf];by_cases a:i=j
  .subst a;simp
  .simp[a]
theorem z8(N:Nat):eu N 0=Array.replicate N false:=by
 apply Array.ext
 .simp[eu]
 .intro j h1 h2
  simp[eu]
section
variable {ops:Array Oper}{bX:kB}{D K:O Nat}
theorem z_:∀ (l:O Oper) (i k:Nat) (o:Oper),rF bX i l=true->l[k]? =some o->kC bX.M (i+k)=hY (m5 o)
 | [],_,_,_,_,h=>by simp at h
 |p::l,i,0,o,hc,h=>by
  simp only[rF,c7]at hc
  simp only[mN,Option.some.injEq]at h
  subst h
  exact(ia hc.1).symm
 |p::l,i,k+1,o,hc,h=>by
  simp only[rF,c7]at hc
  have:=z_ l (i+1) k o hc.2 (by simpa using h)
  rw[show i+(k+1)=i+1+k from I]
  exact this
theorem tz(h:lz bX D K ops=true){i:Nat}{o:Oper}(a:ops[i]? =some o):kC bX.M i=hY (m5 o):=by
 simp only[lz,c7]at h;have:=z_ ops.toList 0 i o h.2.1 (by simpa using a);simpa using this
theorem Aa{a b:Nat}(h:a&&&b=a){k:Nat}(c:a.testBit k=true):b.testBit k=true:=by
 have:=congrArg (λx=>x.testBit k) h;simp only[Nat.testBit_and,c,ib]at this;exact this
theorem Ab:∀ (l:O Oper) (i k:Nat) (o:Oper),l[k]? =some o->(k0 i l).testBit (i+k)=jy o
 | [],_,_,_,h=>by simp at h
 |p::l,i,0,o,h=>by
  simp only[mN,Option.some.injEq]at h
  subst h
  have low:∀ (l:O Oper) (i k:Nat),k<i->(k0 i l).testBit k=false:=by
   intro l
   induction l with
   |nil=>intro i k _;simp[k0]
   |cons q l a=>
    intro i k b;simp only[k0]
    cases jy q
    .exact a (i+1) k I
    .simp only[cond_true,mM,rf,a (i+1) k I,Bool.or_false,jU]
     omega
  simp only[k0,lV]
  cases jy p
  .exact low l (i+1) i I
  .simp[mM]
 |p::l,i,k+1,o,h=>by
  have:=Ab l (i+1) k o (by simpa using h);rw[show i+1+k=i+(k+1) from I]at this;simp only[k0]
  cases jy p
  .exact this
  .simp only[cond_true,mM,rf,this]
   simp
theorem tA{o:Oper}{k:Nat}:k∈m5 o↔∃e∈o.after,Region.binds .any e=true/\e.on=k:=by
 simp only[m5,fD,gG,Array.mem_toList_iff];constructor
 .rintro⟨e,⟨h1,h2⟩,a⟩;exact⟨e,h1,h2,a⟩
 .rintro⟨e,h1,h2,a⟩;exact⟨e,⟨h1,h2⟩,a⟩
def Small(N m:Nat):Prop:=∀k,N<=k->m.testBit k=false
theorem Eb(N:Nat):Small N 0:=λk _=>by simp
theorem tB{N m i:Nat}(h:Small N m)(hi:i<N):Small N (m|||2^i):=λk a=>by
 simp only[mM,h k a,rf,mO,jU]
 omega
theorem tC(hc:lz bX D K ops=true){m i:Nat}(f:Small ops.size m):i∈Region.ready .any ops (eu ops.size m)↔i<ops.size/\kD bX m i=true:=by
 rw[mem_ready];constructor
 .rintro⟨h1,o,a,g⟩
  have hi:i<ops.size:=(lp.1 a).1;refine⟨hi,?_⟩;rw[pT hi]at h1;simp only[kD,h1,Bool.not_false,ib];rw[tz hc a];have:hY (m5 o)&&&m=hY (m5 o):=by
   apply Nat.eq_of_testBit_eq;intro k;simp only[Nat.testBit_and,l8];by_cases b:k∈m5 o
   .obtain⟨e,he,c,j⟩:=tA.1 b
    have h2:=g e he c;rw[j]at h2;rcases ec k ops.size with aH|l
    .rw[pT aH]at h2;simp[b,h2]
    .rw[Ea l]at h2;cases h2
   .simp[b]
  rw[this];exact Nat.beq_refl _
 .rintro⟨hi,h⟩
  simp only[kD,c7,iE]at h;have a:ops[i]? =some ops[i]:=by simp[hi]
  refine⟨by rw[pT hi];exact h.1,ops[i],a,λe he c=>?_⟩;have h2:=ia h.2;rw[tz hc a]at h2;have d:m.testBit e.on=true:=Aa h2 (by
   rw[l8];simp only[cq];exact tA.2 ⟨e,he,c,rfl⟩)
  have aH:e.on<ops.size:=by
   rcases ec e.on ops.size with h|h
   .exact h
   .rw[f _ h]at d;cases d
  rw[pT aH];exact d
theorem Ac:∀ (N:Nat) {m:Nat}{is:O Nat},k1 bX m is N=true->∀k,k<N->kD bX m k=true->k∈is
 |0,_,_,_,k,b,_=>by omega
 |N+1,m,is,h,k,b,a=>by
  simp only[k1,c7,iY,iE]at h
  rcases ec k N with h1|h1
  .exact Ac N h.2 k h1 a
  .have:k=N:=by omega
   subst this
   rcases h.1 with h2|h2
   .obtain⟨x,hx,c⟩:=List.any_eq_true.1 h2
    rw[ia c];exact hx
   .rw[a]at h2;cases h2
theorem oc(hc:lz bX D K ops=true){m:Nat}{is:O Nat}(a:Small ops.size m)(h:k1 bX m is ops.size=true):
 ∀k∈Region.ready .any ops (eu ops.size m),k∈is:=λk b=>
 let ⟨h1,h2⟩:=(tC hc a).1 b
 Ac _ h k h1 h2
theorem Ad:∀ (b c d:O Nat) (n:O Nat) (e i f g j k:Nat) (l a m:Nat),rG n e i f g j b c d=true->b[k]? =some l->c[k]? =some a->d[k]? =some m->
 e.testBit (j+k)=true\/i=j+k\/l.testBit i=true\/(f&&&(m|||a)=0/\a&&&g=0)
 | [],_,_,_,_,_,_,_,_,_,_,_,_,_,h,_,_=>by simp at h
 |_::_,[],_,_,_,_,_,_,_,_,_,_,_,_,_,h,_=>by simp at h
 |_::_,_::_,[],_,_,_,_,_,_,_,_,_,_,_,_,_,h=>by simp at h
 |p::b,q::c,r::d,n,e,i,f,g,j,k,l,a,m,hc,h1,h2,o=>by
  simp only[rG,c7,iY]at hc
  cases k with
  |zero=>
   simp only[mN,Option.some.injEq]at h1 h2 o
   subst h1 h2 o
   rcases hc.1 with h|h|h|h
   .exact .inl h
   .exact .inr (.inl (ia h))
   .exact .inr (.inr (.inl h))
   .exact .inr (.inr (.inr ⟨ia h.1,ia h.2⟩))
  |succ k=>
   have:=Ad b c d n e i f g (j+1) k l a m hc.2 (by simpa using h1) (by simpa using h2) (by simpa using o)
   rw[show j+(k+1)=j+1+k from I]
   exact this
theorem Ae:∀ (a b:O Nat) (i k:Nat) (c e:Nat),tw bX D K i a b=true->a[k]? =some c->b[k]? =some e->
 rG bX.M (kC bX.A (i+k)) (i+k) c e 0 bX.M D K=true
 | [],_,_,_,_,_,_,h,_=>by simp at h
 |_::_,[],_,_,_,_,_,_,h=>by simp at h
 |d::a,f::b,i,k,c,e,hc,h1,h2=>by
  simp only[tw,c7]at hc
  cases k with
  |zero=>
   simp only[mN,Option.some.injEq]at h1 h2
   subst h1 h2
   exact hc.1
  |succ k=>
   have:=Ae a b (i+1) k c e hc.2 (by simpa using h1) (by simpa using h2)
   rw[show i+(k+1)=i+1+k from I]
   exact this
theorem w_{a b:Nat}(h:a&&&b=0){k:Nat}(c:a.testBit k=true):b.testBit k=false:=by
 have:=congrArg (λx=>x.testBit k) h;simp only[Nat.testBit_and,c,ib,Nat.zero_testBit]at this;exact this
theorem Ec{x y:Oper}(h1:hY x.dst.toList&&&(hY (y.looksAt ops)|||hY y.dst.toList)=0)(h2:hY y.dst.toList&&&hY (x.looksAt ops)=0):
 x.apart ops y=true:=by
 unfold Oper.apart;simp only[c7];refine⟨?_,?_⟩
 .cases hx:x.dst with
  |none=>rfl
  |some d=>
   rw[hx]at h1;have a:=w_ h1 (k:=d) (by rw[l8];simp);simp only[mM,l8,rh,jU]at a;simp only[c7,iE,bne_iff_ne,ne_eq];refine⟨by simpa using a.1,λh=>?_⟩;rw[h]at a;simp at a
 .cases b:y.dst with
  |none=>rfl
  |some d=>
   rw[b]at h2;have a:=w_ h2 (k:=d) (by rw[l8];simp);simp only[l8,jU]at a;simpa using a
theorem Ed(hc:lz bX D K ops=true){m i:Nat}{d:Oper}(hi:ops[i]? =some d)(h:z2 bX ops.size m i=true):
 ∀j a,ops[j]? =some a->j≠i->(eu ops.size m).getD j true=false->(∀e∈a.after,Region.binds .any e=true->e.on≠i)->d.apart ops a=true:=by
 intro j a b p f q;have r:=hc;simp only[lz,c7]at hc;obtain⟨hlen,B,s,t,au⟩:=hc;have C:=ia hlen;have u:=w9 s;have v:=w9 t;have g:j<ops.size:=(lp.1 b).1;have l:∀ {k:Nat}{o:Oper},ops[k]? =some o->D[k]? =some (hY o.dst.toList):=λ{k o} c=>by
  rw[←u];simp[z6,c]
 have n:∀ {k:Nat}{o:Oper},ops[k]? =some o->K[k]? =some (hY (o.looksAt ops)):=λ{k o} c=>by
  rw[←v];simp[z7,c]
 have w:=Ae D K 0 i _ _ au (l hi) (n hi);have x:bX.M[j]? =some (kC bX.M j):=by
  unfold kC;have:j<bX.M.length:=by omega
  simp[List.getD,this]
 have:=Ad bX.M D K bX.M _ _ _ _ 0 j _ _ _ w x (l b) (n b);simp only[cR]at this;rcases this with h1|h1|h1|h1
 .exfalso
  have h2:=ia h;have y:=w_ h2 h1;rw[pT g]at f;simp[Nat.testBit_xor,Nat.testBit_two_pow_sub_one,g,f]at y
 .exact absurd h1.symm p
 .exfalso
  rw[tz r b,l8]at h1;simp only[cq]at h1;obtain⟨e,he,z,A⟩:=tA.1 h1;exact q e he z A
 .exact Ec h1.1 h1.2
end
def od(ops:Array Oper)(listed:Array al)(j:Nat):Prop:=
 ∀k ok a,ops[k]? =some ok->ops[j]? =some a->jy ok=true->listed.getD k false=true->∃e∈a.after,Region.binds .any e=true/\e.on=k
def lA(P:Program)(ops:Array Oper)(Q:Exit->Act->J->Prop)(n:Nat)(L:Array al->Act->J->Prop):Nat->(J->Prop)->Array al->Act->J->Prop
 |0,_,listed,a,w=>L listed a w
 |f+1,S,listed,a,w=>Region.ready .any ops listed≠ []/\
  ∀i∈Region.ready .any ops listed,i<n/\wpOp P ops Q i (λb w'=>∃aE:J->Prop,((∀x,aE x->S x)\/od ops listed i)/\aE w'/\lA P ops Q n L f aE (listed.setIfInBounds i true) b w') a w
def rJ(ops:Array Oper)(n:Nat):Prop:=
 ∀listed,HeadInv .any ops n listed->∀i,i<n->listed.getD i true=false->∀t,n<=t->t∉Region.ready .any ops listed
theorem Ee(ops:Array Oper):rJ ops ops.size:=by
 intro listed _ i _ _ t ht a;obtain⟨_,o,b,_⟩:=mem_ready.1 a;have:=(lp.1 b).1;omega
theorem Ef{ops:Array Oper}{n:Nat}(hs:Region.sinkB .any ops n=true)(hc:Region.chainB .any ops n=true)(a:n<ops.size):rJ ops n:=
 λ_ inv i hi b t ht=>tail_waits hs hc a inv _ i rfl hi b t ht
section
variable {P:Program}{ops:Array Oper}{Q:Exit->Act->J->Prop}{n:Nat}{L:Array al->Act->J->Prop}
theorem YieldsIf.mono{S aE:J->Prop}{o:Oper}{v:aa}{a:Act}(h:YieldsIf P ops S o v a)(hs:∀x,aE x->S x):YieldsIf P ops aE o v a:=
 h.imp (λ⟨h1,h2⟩=>⟨h1,λw b=>h2 w (hs w b)⟩) id
theorem Eg(E:rJ ops n){i:Nat}{l:Oper}{v:aa}(hi:ops[i]? =some l)(F:∀ (j:Nat) (o:Oper) cs b,ops[j]? =some o->o.op≠ .select cs b)
 (ac:∀c a w,Q (.panic c) (a.put l.dst v) w->Q (.panic c) a w) (G:i<n) (ad:∀listed a w,L listed a w->∀j∈Region.ready .any ops listed,n<=j):
 ∀ (f:Nat) (S T:J->Prop) (listed:Array al) (a:Act) (w:J),(∀x,S x->T x)->(jy l=true\/∀x,T x)->HeadInv .any ops n listed->
  (∀j q,ops[j]? =some q->j≠i->listed.getD j true=false->(∀e∈q.after,Region.binds .any e=true->e.on≠i)->l.apart ops q=true)->
  i∈Region.ready .any ops listed->YieldsIf P ops T l v a->S w->
  lA P ops Q n L f S (listed.setIfInBounds i true) (a.put l.dst v) w->lA P ops Q n L (f+1) S listed a w:=by
 intro f
 induction f with
 |zero=>
  intro S T listed a w u I inv _ m y s H;have d:=(mem_ready.1 m).1;refine⟨λh=>(by rw[h]at m;cases m),λj r=>?_⟩;have t:j<n:=by
   rcases ec j n with h|h
   .exact h
   .exact absurd r (E listed inv i G d j h)
  refine⟨t,?_⟩;by_cases p:j=i
  .subst p;exact(YieldsIf.mono y u).wpOp hi s ⟨S,.inl λ_ h=>h,s,H⟩
  .have:=ad _ _ _ H j (ready_mono r p)
   omega
 |succ f K=>
  intro S T listed a w u I inv M m y s H;have d:=(mem_ready.1 m).1;refine⟨λh=>(by rw[h]at m;cases m),λj r=>?_⟩;have t:j<n:=by
   rcases ec j n with h|h
   .exact h
   .exact absurd r (E listed inv i G d j h)
  refine⟨t,?_⟩;by_cases p:j=i
  .subst p;exact(YieldsIf.mono y u).wpOp hi s ⟨S,.inl λ_ h=>h,s,H⟩
  .have h1:=(H.2 j (ready_mono r p)).2
   obtain⟨N,q,z,ae⟩:=mem_ready.1 r;have O:∀e∈q.after,Region.binds .any e=true->e.on≠i:=λe he B af=>by
    have h1:=ae e he B;rw[af,getD_both d]at h1
    cases h1
   have h2:=wpOp_putIf z (M j q z p N O) (λcs b=>F i l cs b hi) (λcs b=>F j q cs b z) ac y h1;have R:∀k ok,ops[k]? =some ok->k≠i->(listed.setIfInBounds j true).getD k true=false->
    (∀e∈ok.after,Region.binds .any e=true->e.on≠i)->l.apart ops ok=true:=λk ok C ag d ah=>by
    refine M k ok C ag ?_ ah;by_cases U:j=k
    .subst U;exact N
    .rw[getD_set_ne true U]at d;exact d
   refine wpOp_mono (λV w' ai=>?_) h2;obtain⟨W,aE,X,A,aj⟩:=ai;have D:=aj;rw[←Array.setIfInBounds_comm _ _ p]at D;have ak:od ops (listed.setIfInBounds i true) j->od ops listed j:=λam k ok an C ao hs g=>am k ok an C ao hs (by
    by_cases Y:i=k
    .subst Y
     have:listed.getD i true=true:=by
      simp only[Array.getD]at g⊢;split at g
      .rename_i aH;simp[aH]at g⊢;exact g
      .cases g
     rw[this]at d;cases d
    .simp only[Array.getD,Array.size_setIfInBounds]at g⊢
     split at g
     .rename_i aH
      simp only[aH,dif_pos];simp only[Array.getInternal_eq_getElem]at g⊢;rw[Array.getElem_setIfInBounds_ne _ Y];exact g
     .cases g)
   rcases I with hs|Z
   .have ab:∀x,aE x->S x:=by
     rcases X with h|h
     .exact h
     .exfalso
      obtain⟨e,he,B,ap⟩:=h i l q hi z hs (by
       have aH:i<listed.size:=by
        rcases ec i listed.size with h|h
        .exact h
        .simp[Array.getD,Nat.not_lt.2 h]at d
       simp[Array.getD,aH])
      exact O e he B ap
    exact⟨aE,.inl ab,A,K aE T (listed.setIfInBounds j true) V w' (λx hx=>u x (ab x hx)) (.inl hs) (inv.set r t) R (ready_mono m (Ne.symm p)) W A D⟩
   .exact⟨aE,X.imp id ak,A,K aE T (listed.setIfInBounds j true) V w' (λx _=>Z x) (.inr Z) (inv.set r t) R (ready_mono m (Ne.symm p)) W A D⟩
theorem Af{g:Nat}(cS:∀listed a w,L listed a w->wpAny P .any ops Q g listed a w):
 ∀ (f:Nat) (S:J->Prop) (listed:Array al) (a:Act) (w:J),lA P ops Q n L f S listed a w->wpAny P .any ops Q (f+g) listed a w
 |0,_,listed,a,w,h=>by rw[cR];exact cS _ _ _ h
 |f+1,S,listed,a,w,h=>by
  rw[show f+1+g=(f+g)+1 from I]
  exact⟨λh0=>absurd h0 h.1,λi hi=>wpOp_mono (λb w' ⟨aE,_,_,c⟩=>Af cS f aE _ b w' c) (h.2 i hi).2⟩
def LE(P:Program)(ops:Array Oper)(Q:Exit->Act->J->Prop)(n:Nat)(listed:Array al)(a:Act)(w:J):Prop:=
 (Region.ready .any ops listed=[]/\n=ops.size/\Q .normal a w)\/
 (Region.seqB .any ops (ops.size-n) n listed=true/\n<ops.size/\wpList P ops Q (ops.toList.drop n) a w)
theorem Eh:∀listed a w,LE P ops Q n listed a w->∀j∈Region.ready .any ops listed,n<=j:=by
 rintro listed a w (⟨h,_,_⟩|⟨h,c,_⟩) j b
 .rw[h]at b;cases b
 .exact seqB_ready h j b
theorem Ei:∀listed a w,LE P ops Q n listed a w->wpAny P .any ops Q (ops.size-n) listed a w:=by
 rintro listed a w (⟨h,c,b⟩|⟨h,c,b⟩)
 .subst c
  rw[nQ];exact⟨h,b⟩
 .have:=wpAny_of_seq (md:=.any) (P:=P) (Q':=Q) (ops.toList.drop n) n listed a w (λj=>by simp[sZ]) (by simpa using h) b
  simpa using this
end
section
variable {P:Program}{tk:TypeId->dD}{ops:Array Oper}{n:Nat}{bX:kB}{D0 dY:O Nat}{W:Nat->Prop}
theorem Ag(hc:lz bX D0 dY ops=true):∀ (g k m:Nat),Small ops.size m->k+g=ops.size->rI bX g k ops.size m=true->Region.seqB .any ops g k (eu ops.size m)=true
 |0,k,m,c,e,h=>by
  simp only[rI]at h
  simp only[Region.seqB,List.isEmpty_iff]
  cases f:Region.ready .any ops (eu ops.size m) with
  |nil=>rfl
  |cons x l=>
   have:=oc hc c h x (by rw[f];simp)
   cases this
 |g+1,k,m,c,e,h=>by
  simp only[rI,c7]at h
  simp only[Region.seqB,c7,cq]
  have d:k<ops.size:=by omega
  have b:k∈Region.ready .any ops (eu ops.size m):=(tC hc c).2 ⟨d,h.1.1⟩
  refine⟨?_,?_⟩
  .have a:=oc hc c h.1.2
   have eg:(Region.ready .any ops (eu ops.size m)).Nodup:=by
    unfold Region.ready;exact List.Pairwise.filter _ List.nodup_range
   revert b a eg
   generalize Region.ready .any ops (eu ops.size m)=l;intro b a eg
   match l,b,a,eg with
   | [],b,_,_=>cases b
   | [x],b,a,_=>rw[fb.1 (a x (by simp))]
   |x::y::l,_,a,eg=>
    have hx:=fb.1 (a x (by simp));have i:=fb.1 (a y (by simp));simp[hx,i]at eg
  .rw[tx]
   exact Ag hc g (k+1) (m|||2^k) (tB c d) I h.2
theorem Ej(hc:lz bX D0 dY ops=true)(am:rJ ops n)(aG:n<=ops.size)(an:Region.noSelect ops=true){a0:Act}(ac:∀d∈bK ops.toList,d<a0.tmps.size):
 ∀ (t:aK) (W:Nat->Prop) (f:Nat) (m:Nat) (K:Env->J->Prop) (e:Env) (a:Act) (w:J),dh e a->dR (bK ops.toList) a0 a->Small ops.size m->HeadInv .any ops n (eu ops.size m)->
  dJ P tk ops n bX W t f m K e w->lA P ops (gv a0 (bK ops.toList) K) n (LE P ops (gv a0 (bK ops.toList) K) n) f (af W w) (eu ops.size m) a w:=by
 intro t;have O:∀ (i:Nat) (o:Oper),ops[i]? =some o->∀k,o.dst=some k->k∈bK ops.toList:=by
  intro i o z k g;simp only[bK,List.mem_filterMap];exact⟨o,by simpa using Array.mem_of_getElem? z,g⟩
 have Q:∀ (W:Nat->Prop) (t:aK),(∀ (W:Nat->Prop) (f:Nat) (m:Nat) (K:Env->J->Prop) (e:Env) (a:Act) (w:J),dh e a->dR (bK ops.toList) a0 a->Small ops.size m->HeadInv .any ops n (eu ops.size m)->
  dJ P tk ops n bX W t f m K e w->lA P ops (gv a0 (bK ops.toList) K) n (LE P ops (gv a0 (bK ops.toList) K) n) f (af W w) (eu ops.size m) a w)->
  ∀ (f:Nat) (m:Nat) (K:Env->J->Prop) (e:Env) (a:Act) (w:J) (i:Nat) (o:Oper),dh e a->dR (bK ops.toList) a0 a->Small ops.size m->HeadInv .any ops n (eu ops.size m)->
  i∈Region.ready .any ops (eu ops.size m)->i<n->ops[i]? =some o->
  gI ops o e (jx P tk o (λv w'=>af W w w'/\dJ P tk ops n bX W t f (m|||2^i) K (c8 o.dst v e) w') e w) (dJ P tk ops n bX W t f (m|||2^i) K (c8 o.dst undef e) w)->
  wpOp P ops (gv a0 (bK ops.toList) K) i (λai w'=>∃aE:J->Prop,((∀x,aE x->af W w x)\/od ops (eu ops.size m) i)/\aE w'/\lA P ops (gv a0 (bK ops.toList) K) n (LE P ops (gv a0 (bK ops.toList) K) n) f aE ((eu ops.size m).setIfInBounds i true) ai w') a w:=by
  intro W t N f m K e a w i o au g p inv R H z h;have next:∀ (v:aa) (w':J),af W w w'->dJ P tk ops n bX W t f (m|||2^i) K (c8 o.dst v e) w'->
   ∃aE:J->Prop,((∀x,aE x->af W w x)\/od ops (eu ops.size m) i)/\aE w'/\lA P ops (gv a0 (bK ops.toList) K) n (LE P ops (gv a0 (bK ops.toList) K) n) f aE ((eu ops.size m).setIfInBounds i true) (a.put o.dst v) w':=by
   intro v w' ao h;have A:dR (bK ops.toList) a (a.put o.dst v):=dR.put (O i o z);have hinv:=inv.set R H;rw[tx]at hinv⊢;exact⟨af W w',.inl λx hx=>ao.trans hx,.refl _ _,N W f _ K _ _ w' (au.put λk T=>by rw[g.size];exact ac k (O i o z k T)) (g.trans A) (tB p I) hinv h⟩
  unfold wpOp;simp only[z];rcases rD au h with ⟨F,G⟩|⟨F,G⟩
  .simp only[F,if_true]
   exact .inl ((tq au G).wp λv w' ⟨h1,h2⟩=>next v w' h1 h2)
  .simp only[F,fT,if_false]
   exact next _ _ (.refl _ _) G
 have ad:∀ {b c d:al}{X:Prop},(bif b&&(c&&d) then X else False)->b=true/\c=true/\d=true/\X:=by
  intro b c d X h
  cases b<;>cases c<;>cases d<;>first|exact h.elim|exact⟨rfl,rfl,rfl,h⟩
 have ag:∀ {b c:al}{X:Prop},(bif b&&c then X else False)->b=true/\c=true/\X:=by
  intro b c X h
  cases b<;>cases c<;>first|exact h.elim|exact⟨rfl,rfl,h⟩
 have B:∀ {i j:Nat},Nat.blt i j=true->i<j:=λh=>by
  have:=mP h;omega
 have ne_nil:∀ {m i:Nat},Small ops.size m->kD bX m i=true->i<ops.size->Region.ready .any ops (eu ops.size m)≠ []:=λp h hi h0=>by
  have:=(tC hc p).2 ⟨hi,h⟩;rw[h0]at this;cases this
 induction t with
 |take i t N=>
  intro W f m K e a w au g p inv h
  cases f with
  |zero=>simp[dJ]at h
  |succ f=>
   simp only[dJ]at h;obtain⟨h1,h2,D,h⟩:=ad h;have H:=B D;have R:i∈Region.ready .any ops (eu ops.size m):=(tC hc p).2 ⟨I,h1⟩;split at h
   .rename_i o z
    have fin:∀v,YieldsIf P ops (λx=>jy o=true->af W w x) o v a->dJ P tk ops n bX W t f (m|||2^i) K (c8 o.dst v e) w->
     lA P ops (gv a0 (bK ops.toList) K) n (LE P ops (gv a0 (bK ops.toList) K) n) (f+1) (af W w) (eu ops.size m) a w:=by
     intro v ap h;have A:dR (bK ops.toList) a (a.put o.dst v):=dR.put (O i o z);refine Eg am z (Region.noSelect_spec an) (λc a w U=>by cases U.1) H Eh f (af W w) (λx=>jy o=true->af W w x) _ a w (λ_ h _=>h) (by cases hs:jy o<;>simp) inv (Ed hc z h2) R ap (.refl _ _) ?_;have hinv:=inv.set R H;rw[tx]at hinv⊢;exact N W f _ K _ _ w (au.put λk T=>by rw[g.size];exact ac k (O i o z k T)) (g.trans A) (tB p I) hinv h
    rcases rD au h with ⟨F,G⟩|⟨F,G⟩
    .obtain⟨v,aq,ar⟩:=D_ au G
     exact fin v (.inl ⟨F,λw' hc=>aq w' hc⟩) ar
    .exact fin undef (.inr ⟨F,rfl⟩) G
   .exact h.elim
 |bR i t N=>
  intro W f m K e a w au g p inv h
  cases f with
  |zero=>simp[dJ]at h
  |succ f=>
   simp only[dJ]at h;obtain⟨C,D,h⟩:=ag h;simp only[c7]at C;have H:=B D;split at h
   .rename_i o z
    refine⟨ne_nil p C.1 I,λj Y=>?_⟩;have ah:j=i:=by simpa using oc hc p C.2 j Y
    subst ah;exact⟨H,Q W t N f m K e a w j o au g p inv Y H z h⟩
   .exact h.elim
 |out i b t N=>
  intro W f m K e a w au g p inv h
  cases f with
  |zero=>simp[dJ]at h
  |succ f=>
   simp only[dJ]at h;obtain⟨C,D,L,h⟩:=ad h;simp only[c7]at C;have H:=B D;have L:=ia L;split at h
   .rename_i o z
    refine⟨ne_nil p C.1 I,λj Y=>?_⟩;have ah:j=i:=by simpa using oc hc p C.2 j Y
    subst ah;refine⟨H,?_⟩;have av:od ops (eu ops.size m) j:=by
     intro k ok aH A ax hs aj;have az:k<ops.size:=(lp.1 A).1;rw[pT az]at aj;have aA:(k0 0 ops.toList&&&m).testBit k=true:=by
      rw[Nat.testBit_and,aj,pA];exact(Ab ops.toList 0 k ok (by simpa using A)).trans hs|>(by simpa using ·)
     have S:(kC bX.M j).testBit k=true:=Aa L aA;rw[tz hc ax,l8]at S;simp only[cq]at S;exact tA.1 S
    have next:∀ (v:aa) (w':J) (V:Nat->Prop),dJ P tk ops n bX V t f (m|||2^j) K (c8 o.dst v e) w'->
     ∃aE:J->Prop,((∀x,aE x->af W w x)\/od ops (eu ops.size m) j)/\aE w'/\lA P ops (gv a0 (bK ops.toList) K) n (LE P ops (gv a0 (bK ops.toList) K) n) f aE ((eu ops.size m).setIfInBounds j true) (a.put o.dst v) w':=by
     intro v w' V h;have A:dR (bK ops.toList) a (a.put o.dst v):=dR.put (O j o z);have hinv:=inv.set Y H;rw[tx]at hinv⊢;exact⟨af V w',.inr av,.refl _ _,N V f _ K _ _ w' (au.put λk T=>by rw[g.size];exact ac k (O j o z k T)) (g.trans A) (tB p I) hinv h⟩
    unfold wpOp;simp only[z];rcases rD au h with ⟨F,G⟩|⟨F,G⟩
    .simp only[F,if_true]
     refine .inl ((tq au G).wp λv w' h2=>?_)
     cases b with
     |true=>
      obtain⟨V,h2⟩:=h2;exact next v w' V h2
     |false=>exact next v w' W h2
    .simp only[F,fT,if_false]
     exact next _ _ W G
   .exact h.elim
 |two i t j u Z ab=>
  intro W f m K e a w au g p inv h
  cases f with
  |zero=>simp[dJ]at h
  |succ f=>
   simp only[dJ]at h;obtain⟨C,D,L,h⟩:=ad h;simp only[c7]at C;have hi:=B D;split at h
   .rename_i o q z U
    refine⟨ne_nil p C.1 I,λk A=>?_⟩;have E:k=i\/k=j:=by simpa using oc hc p C.2 k A
    rcases E with E|E
    .subst E
     exact⟨B D,Q W t Z f m K e a w k o au g p inv A (B D) z h.1⟩
    .subst E
     exact⟨B L,Q W u ab f m K e a w k q au g p inv A (B L) U h.2⟩
   .exact h.elim
 |three i t j u k x Z ab aB=>
  intro W f m K e a w au g p inv h
  cases f with
  |zero=>simp[dJ]at h
  |succ f=>
   simp only[dJ]at h;obtain⟨C,D,aC,h⟩:=ad (d:=_) h;obtain⟨L,S⟩:Nat.blt j n=true/\Nat.blt k n=true:=by simpa using aC
   simp only[c7]at C;have hi:=B D;split at h
   .rename_i o q r z U aD
    refine⟨ne_nil p C.1 I,λy A=>?_⟩;have E:y=i\/y=j\/y=k:=by simpa using oc hc p C.2 y A
    rcases E with E|E|E
    .subst E
     exact⟨B D,Q W t Z f m K e a w y o au g p inv A (B D) z h.1⟩
    .subst E
     exact⟨B L,Q W u ab f m K e a w y q au g p inv A (B L) U h.2.1⟩
    .subst E
     exact⟨B S,Q W x aB f m K e a w y r au g p inv A (B S) aD h.2.2⟩
   .exact h.elim
 |sp s t u Z ab=>
  intro W f m K e a w au g p inv h;have ae:match e.get s with
   |some (.bool c)=>(c=true->dJ P tk ops n bX W t f m K ((s,.bool true)::e) w)/\(c=false->dJ P tk ops n bX W u f m K ((s,.bool false)::e) w)
   |_=>False:=by cases f<;>simpa only[dJ] using h
  split at ae
  .rename_i c hs
   cases c with
   |true=>exact Z W f m K _ a w (au.lit hs) g p inv (ae.1 rfl)
   |false=>exact ab W f m K _ a w (au.lit hs) g p inv (ae.2 rfl)
  .exact ae.elim
 |fin=>
  intro W f m K e a w au g p inv h
  cases f with
  |succ f=>simp[dJ]at h
  |zero=>
   simp only[dJ]at h;obtain⟨h1,h2,h⟩:=ag h;refine .inl ⟨?_,ia h2,rfl,g,e,au,h⟩
   cases R:Region.ready .any ops (eu ops.size m) with
   |nil=>rfl
   |cons x l=>
    have:=oc hc p h1 x (by rw[R];simp)
    cases this
 |tail as=>
  intro W f m K e a w au g p inv h
  cases f with
  |succ f=>simp[dJ]at h
  |zero=>
   simp only[dJ]at h;obtain⟨h1,h2,h⟩:=ag h;have ak:∀k,k∈bK (ops.toList.drop n)->k∈bK ops.toList:=λk g=>by
    simp only[bK,List.mem_filterMap]at g⊢;obtain⟨o,z,g⟩:=g;exact⟨o,fH z,g⟩
   have:=zV _ _ _ K e a w au (λd hd=>by rw[g.size];exact ac d (ak d hd)) h;exact .inr ⟨Ag hc _ _ _ p I h1,B h2,iK (λx ai w' ⟨aw,ay,aF⟩=>⟨aw,g.trans (ay.mono ak),aF⟩) _ _ _ this⟩
theorem Ek(ops:Array Oper)(n:Nat):HeadInv .any ops n (Array.replicate ops.size false):=
 ⟨by simp,λj b _ a=>(by rw[getD_replicate_false]at a;cases a),λt _ ht=>getD_in (by simpa using ht) (getD_replicate_false _ _)⟩
def xa(P:Program)(tk:TypeId->dD)(ops:Array Oper)(n:Nat)(a:al)(bX:kB)(D0 dY:O Nat)(t:aK)(K:Env->J->Prop)(e:Env)(w:J):Prop:=
 bif (Region.noSelect ops&&lz bX D0 dY ops)&&(bif Nat.beq n ops.size then true else Nat.blt n ops.size&&(Region.sinkB .any ops n&&Region.chainB .any ops n)) then
  bif a then
   ao w.drew λw1=>∃W:Nat->Prop,dJ P tk ops n bX W t n 0 K e w1
  else ao w.drew λw1=>dJ P tk ops n bX (λ_=>False) t n 0 K e w1
 else False
theorem El{id:Nat}{c:al}{t:aK}{K:Env->J->Prop}{e:Env}{a:Act}{w:J}(g:P.follows .mixedOrders=true)
 (au:dh e a) (i:∀d∈bK ops.toList,d<a.tmps.size) (h:xa P tk ops n c bX D0 dY t K e w):
 (Code.region id ops true).wp P (gv a (bK ops.toList) K) a w:=by
 unfold xa at h
 cases h0:(Region.noSelect ops&&lz bX D0 dY ops) with
 |false=>rw[h0]at h;exact h.elim
 |true=>
  rw[h0]at h;simp only[ib]at h;simp only[c7]at h0;obtain⟨h1,hc⟩:=h0
  cases h2:(bif Nat.beq n ops.size then true else Nat.blt n ops.size&&(Region.sinkB .any ops n&&Region.chainB .any ops n)) with
  |false=>rw[h2]at h;exact h.elim
  |true=>
   rw[h2]at h;simp only[cond_true]at h;have j:rJ ops n:=by
    cases b:Nat.beq n ops.size with
    |true=>rw[ia b];exact Ee ops
    |false=>
     rw[b]at h2;simp only[cond_false,c7]at h2;refine Ef h2.2.1 h2.2.2 ?_;have:=mP h2.1;omega
   have k:n<=ops.size:=by
    cases b:Nat.beq n ops.size with
    |true=>rw[ia b];exact bl _
    |false=>
     rw[b]at h2;simp only[cond_false,c7]at h2;have:=mP h2.1;omega
   have key:∀W,dJ P tk ops n bX W t n 0 K e w.drew->(Code.region id ops true).wp P (gv a (bK ops.toList) K) a w:=by
    intro W h;refine wp_region_any g ?_;have f:=Ej hc j k h1 i t W n 0 K e a w.drew au (.refl _ _) (Eb _) (by rw[z8];exact Ek ops n) h;rw[z8]at f;have:=Af Ei _ _ _ _ _ f;rw[show n+(ops.size-n)=ops.size from I]at this;exact this
   cases c with
   |true=>obtain⟨W,h⟩:=h;exact key W h
   |false=>exact key _ h
end
end aQ
namespace aQ
open Go
inductive aN where
 |leaf
 |pU (as:O kA)
 |tD (n:Nat) (c:al) (bX:kB) (D0 dY:O Nat) (t:aK)
 |seq (a b:aN)
 |cond (a b:aN)
 |bU (a:aN)
 |loop (live:O (Nat×cO)) (ew:O Nat) (a:aN)
 |fm (live:O (Nat×cO)) (ew:O Nat) (a:aN)
def gj:O (Nat×cO)->Type
 | []=>J->Prop
 |(_,l)::r=>l.T->gj r
def m6:O (Nat×cO)->Type
 | []=>J->Nat
 |(_,l)::r=>l.T->m6 r
def pV(l:cO)(v:av aa)(K:l.T->Prop):Prop:=
 match l,v with
 | .int k,some (.int d n)=>bif j2 k d then K n else False
 | .bool,some (.bool b)=>K b
 | .str,some (.string s)=>K s
 | .ptr,some (.pointer p)=>K p
 | .slice,some (.slice a n c)=>K ⟨a,n,c⟩
 | .map,some (.map r)=>K r
 | .agg,some (.agg cs)=>K cs
 | .fn,some (.func (.func f) a b)=>K ⟨f,a,b⟩
 | .any,some v=>K v
 |_,_=>False
def gj.app:(live:O (Nat×cO))->gj live->(Nat->av aa)->J->Prop
 | [],k,_,w=>k w
 |(s,l)::r,k,g,w=>pV l (g s) λx=>gj.app r (k x) g w
def gj.lam:(live:O (Nat×cO))->(Env->J->Prop)->gj live
 | [],F=> λw=>F [] w
 |(s,l)::r,F=> λx=>gj.lam r λe w=>F ((s,l.v x)::e) w
def xb:(live:O (Nat×cO))->gj live->m6 live->(Env->Nat->J->Prop)->Prop
 | [],a,b,F=>∀w,a w->F [] (b w) w
 |(s,l)::r,a,b,F=>∀x:l.T,xb r (a x) (b x) λe m w=>F ((s,l.v x)::e) m w
def xc:(live:O (Nat×cO))->gj live->m6 live->Nat->(Nat->av aa)->J->Prop
 | [],a,b,m,_,w=>a w/\b w<m
 |(s,l)::r,a,b,m,g,w=>pV l (g s) λx=>xc r (a x) (b x) m g w
def ja:(live:O (Nat×cO))->m6 live->(Nat->av aa)->J->Nat
 | [],d,_,w=>d w
 |(s,l)::r,d,g,w=>
  match l,g s,d with
  | .int _,some (.int _ n),d=>ja r (d n) g w
  | .bool,some (.bool b),d=>ja r (d b) g w
  | .str,some (.string b),d=>ja r (d b) g w
  | .ptr,some (.pointer b),d=>ja r (d b) g w
  | .slice,some (.slice a n c),d=>ja r (d (ad.mk a n c)) g w
  | .map,some (.map b),d=>ja r (d b) g w
  | .agg,some (.agg b),d=>ja r (d b) g w
  | .fn,some (.func (.func f) a b),d=>ja r (d (ik.mk f a b)) g w
  | .any,some v,d=>ja r (d v) g w
  |_,_,_=>0
def writes:Code->O Nat
 | .region _ ops _=>bK ops.toList
 | .seq a b=>writes a++writes b
 | .cond _ a b=>writes a++writes b
 | .block _ a=>writes a
 | .loop a=>writes a
 | .scope a=>writes a
 |_=> []
def rK(ew ws:O Nat):al:=ew.all λs=> !(ws.any λd=>Nat.beq d s)
def oe(e:Env):O Nat->Env
 | []=> []
 |s::ks=>match e.get s with
  |some v=>(s,v)::oe e ks
  |none=>oe e ks
def pW:Env->Env->Env
 | [],f=>f
 |p::e,f=>p::pW e f
def D(P:Program)(tk:TypeId->dD):aN->Code->(Exit->Env->J->Prop)->Env->J->Prop
 | .leaf,c,K,e,w=>
  match c with
  | .skip=>K .normal e w
  | .label _=>K .normal e w
  | .exit id=>K (.exit id) e w
  | .ret=>K .ret e w
  |_=>False
 | .pU as,c,K,e,w=>
  match c with
  | .region _ ops false=>fM P tk ops (ops.size+1) ops.toList as (λd w'=>K .normal d w') e w
  |_=>False
 | .tD n he bX D0 dY t,c,K,e,w=>
  match c with
  | .region _ ops true=>xa P tk ops n he bX D0 dY t (λd w'=>K .normal d w') e w
  |_=>False
 | .seq A B,c,K,e,w=>
  match c with
  | .seq a b=>D P tk A a (λx d w'=>match x with| .normal=>D P tk B b K d w'|x=>K x d w') e w
  |_=>False
 | .cond A B,c,K,e,w=>
  match c with
  | .cond o x y=>match ev e o with
   |some (.bool b)=>(b=true->D P tk A x K e w)/\(b=false->D P tk B y K e w)
   |_=>False
  |_=>False
 | .bU A,c,K,e,w=>
  match c with
  | .block id b=>D P tk A b (λx d w'=>match x with| .exit h=>bif Nat.beq h id then K .normal d w' else K (.exit h) d w'|x=>K x d w') e w
  |_=>False
 | .loop live ew A,c,K,e,w=>
  match c with
  | .loop b=>bif rK ew (writes b) then
   ∃ (f:gj live) (i:m6 live),gj.app live f e.get w/\
    xb live f i λg m w'=>D P tk A b (λx d j=>match x with| .normal=>xc live f i m d.get j|x=>K x d j) (pW g (oe e ew)) w'
   else False
  |_=>False
 | .fm live ew A,c,K,e,w=>
  bif rK ew (writes c) then
   b5 (λk:gj live=>D P tk A c (λx d w'=>match x with| .normal=>gj.app live k d.get w'|x=>K x d w') e w)
    (gj.lam live λg w'=>K .normal (pW g (oe e ew)) w')
  else False
def Em(a:Act)(ds:O Nat)(K:Exit->Env->J->Prop)(x:Exit)(b:Act)(w':J):Prop:=
 dR ds a b/\∃c,dh c b/\K x c w'
def Sub(e:Env)(g:Nat->av aa):Prop:=∀s v,e.get s=some v->g s=some v
theorem Sub.cons{e:Env}{g:Nat->av aa}{s:Nat}{v:aa}(h:Sub e g)(hs:g s=some v):Sub ((s,v)::e) g:=by
 intro t u ht;rw[n3]at ht;by_cases a:s=t
 .subst a;rw[if_pos rfl]at ht;rw[hs];exact ht
 .rw[if_neg a]at ht;exact h t u ht
theorem Sub.nil{g:Nat->av aa}:Sub [] g:=λ_ _ h=>by cases h
theorem tE{l:cO}{v:av aa}{K:l.T->Prop}(h:pV l v K):∃x:l.T,v=some (l.v x)/\K x:=by
 unfold pV at h;split at h
 .rename_i k b n K
  by_cases a:k=b
  .subst a
   simp only[j2,decide_true,cond_true]at h;exact⟨n,rfl,h⟩
  .simp[j2,a]at h
 all_goals first
  |exact⟨_,rfl,h⟩
  |exact h.elim
theorem Ah{l:cO}{v:av aa}{K:l.T->Prop}{x:l.T}(a:v=some (l.v x))(h:K x):pV l v K:=by
 subst a
 cases l<;>simp only[pV,cO.v,j2,decide_true,cond_true]<;>exact h
theorem Ai{s:Nat}{l:cO}{r:O (Nat×cO)}{a:m6 ((s,l)::r)}{g:Nat->av aa}{w:J}{x:l.T}(b:g s=some (l.v x)):
 ja ((s,l)::r) a g w=ja r (a x) g w:=by
 cases l<;>simp only[ja,b,cO.v]<;>rfl
theorem Aj:∀ {live:O (Nat×cO)}{F:Env->J->Prop}{g:Nat->av aa}{w:J},gj.app live (gj.lam live F) g w->∃a,Sub a g/\F a w
 | [],F,g,w,h=>⟨[],Sub.nil,h⟩
 |(s,l)::r,F,g,w,h=>by
  obtain⟨x,b,h⟩:=tE h
  obtain⟨a,hs,h⟩:=Aj h
  exact⟨(s,l.v x)::a,hs.cons b,h⟩
theorem Ak:∀ {live:O (Nat×cO)}{a:gj live}{g g':Nat->av aa}{w:J},(∀s v,g s=some v->g' s=some v)->gj.app live a g w->gj.app live a g' w
 | [],_,_,_,_,_,h=>h
 |(s,l)::r,a,g,g',w,hg,h=>by
  obtain⟨x,b,h⟩:=tE h
  exact Ah (hg _ _ b) (Ak hg h)
theorem Al:∀ {live:O (Nat×cO)}{b:gj live}{c:m6 live}{F:Env->Nat->J->Prop}{g:Nat->av aa}{w:J},
 xb live b c F->gj.app live b g w->∃d,Sub d g/\F d (ja live c g w) w
 | [],b,c,F,g,w,h,a=>⟨[],Sub.nil,h w a⟩
 |(s,l)::r,b,c,F,g,w,h,a=>by
  obtain⟨x,e,a⟩:=tE a
  obtain⟨d,hs,h⟩:=Al (h x) a
  exact⟨(s,l.v x)::d,hs.cons e,by rw[Ai e];exact h⟩
theorem Am:∀ {live:O (Nat×cO)}{a:gj live}{b:m6 live}{m:Nat}{g g':Nat->av aa}{w:J},
 (∀s v,g s=some v->g' s=some v)->xc live a b m g w->gj.app live a g' w/\ja live b g' w<m
 | [],_,_,_,_,_,_,_,h=>h
 |(s,l)::r,a,b,m,g,g',w,hg,h=>by
  obtain⟨x,c,h⟩:=tE h
  obtain⟨h1,h2⟩:=Am hg h
  exact⟨Ah (hg _ _ c) h1,by rw[Ai (hg _ _ c)];exact h2⟩
theorem An:∀ {e f:Env}{s:Nat}{v:aa},(pW e f).get s=some v->e.get s=some v\/f.get s=some v
 | [],_,_,_,h=>.inr h
 |(k,u)::e,f,s,v,h=>by
  simp only[pW]at h
  rw[n3]at h⊢
  by_cases a:k=s
  .rw[if_pos a]at h⊢;exact .inl h
  .rw[if_neg a]at h⊢;exact An h
theorem xd{e:Env}:∀ {ks:O Nat}{s:Nat}{v:aa},(oe e ks).get s=some v->s∈ks/\e.get s=some v
 | [],_,_,h=>by cases h
 |k::ks,s,v,h=>by
  simp only[oe]at h
  split at h
  .rename_i u hu
   rw[n3]at h
   by_cases a:k=s
   .rw[if_pos a]at h
    subst a
    exact⟨by simp,by rw[hu];exact h⟩
   .rw[if_neg a]at h
    have:=xd h
    exact⟨by simp[this.1],this.2⟩
  .have:=xd h
   exact⟨by simp[this.1],this.2⟩
theorem Ao{e c:Env}{a b:Act}{ew ws:O Nat}(au:dh e a)(f:dR ws a b)(g:rK ew ws=true)(hs:Sub c λs=>b.tmps[s]?):
 dh (pW c (oe e ew)) b:=by
 constructor;intro s v h;rcases An h with h|h
 .exact hs s v h
 .obtain⟨h1,h2⟩:=xd h
  have d:=pz.1 g s h1;simp only[iE,q9]at d;rw[f.same s λi=>d s i (Nat.beq_refl s)];exact au.get s v h2
section
variable {P:Program}{tk:TypeId->dD}
theorem jz{c:Code}{Q Q':Exit->Act->J->Prop}{a:Act}{w:J}(h:c.wp P Q a w)(b:∀e a w,Q e a w->Q' e a w):c.wp P Q' a w:=wp_mono h b
theorem tF(O:P.follows .mixedOrders=true):∀ (A:aN) (c:Code) (K:Exit->Env->J->Prop) (e:Env) (a:Act) (w:J),dh e a->(∀d∈writes c,d<a.tmps.size)->
 D P tk A c K e w->c.wp P (Em a (writes c) K) a w:=by
 intro A
 induction A with
 |leaf=>
  intro c K e a w au j h;simp only[D]at h;split at h
  .exact wp_skip ⟨.refl _ _,e,au,h⟩
  .exact wp_label ⟨.refl _ _,e,au,h⟩
  .exact wp_exit ⟨.refl _ _,e,au,h⟩
  .exact wp_ret ⟨.refl _ _,e,au,h⟩
  .exact h.elim
 |pU as=>
  intro c K e a w au j h;simp only[D]at h;split at h
  .rename_i id ops
   have:=zV _ _ _ _ e a w au j h;refine wp_region_list (iK ?_ _ _ _ this);rintro x r w' ⟨rfl,f,C,E,F⟩;exact⟨f,C,E,F⟩
  .exact h.elim
 |tD n he bX D0 dY t=>
  intro c K e a w au j h;simp only[D]at h;split at h
  .rename_i id ops
   refine jz (El O au j h) ?_;rintro x r w' ⟨rfl,f,C,E,F⟩;exact⟨f,C,E,F⟩
  .exact h.elim
 |seq A B G H=>
  intro c K e a w au j h;simp only[D]at h;split at h
  .rename_i x y
   have hx:∀d,d∈writes x->d∈writes (.seq x y):=λd hd=>by simp[writes,hd]
   have u:∀d,d∈writes y->d∈writes (.seq x y):=λd hd=>by simp[writes,hd]
   refine wp_seq (jz (G x _ e a w au (λd hd=>j d (hx d hd)) h) ?_);rintro ex a1 w1 ⟨f,i,g,h1⟩
   cases ex with
   |normal=>
    refine jz (H y K i a1 w1 g (λd hd=>by rw[f.size];exact j d (u d hd)) h1) ?_;rintro ex a2 ai ⟨k,p,m,h2⟩;exact⟨(f.mono hx).trans (k.mono u),p,m,h2⟩
   |exit id=>exact⟨f.mono hx,i,g,h1⟩
   |goto l=>exact⟨f.mono hx,i,g,h1⟩
   |ret=>exact⟨f.mono hx,i,g,h1⟩
   |panic ch=>exact⟨f.mono hx,i,g,h1⟩
   |outgrown=>exact⟨f.mono hx,i,g,h1⟩
  .exact h.elim
 |cond A B G H=>
  intro c K e a w au j h;simp only[D]at h;split at h
  .rename_i o x y
   have hx:∀d,d∈writes x->d∈writes (.cond o x y):=λd hd=>by simp[writes,hd]
   have u:∀d,d∈writes y->d∈writes (.cond o x y):=λd hd=>by simp[writes,hd]
   split at h
   .rename_i b Q
    refine wp_cond_split (au.ev Q) (λI=>?_) (λI=>?_)
    .refine jz (G x K e a w au (λd hd=>j d (hx d hd)) (h.1 I)) ?_
     rintro ex a2 ai ⟨k,p,m,h2⟩;exact⟨k.mono hx,p,m,h2⟩
    .refine jz (H y K e a w au (λd hd=>j d (u d hd)) (h.2 I)) ?_
     rintro ex a2 ai ⟨k,p,m,h2⟩;exact⟨k.mono u,p,m,h2⟩
   .exact h.elim
  .exact h.elim
 |bU A z=>
  intro c K e a w au j h;simp only[D]at h;split at h
  .rename_i id b
   refine wp_block (jz (z b _ e a w au j h) ?_);rintro ex a1 w1 ⟨f,i,g,h1⟩
   cases ex with
   |exit L=>
    simp only[Exit.inBlock];by_cases M:L=id
    .subst M
     simp only[Nat.beq_refl,cond_true]at h1;rw[if_pos rfl];exact⟨f,i,g,h1⟩
    .have:Nat.beq L id=false:=by
      cases R:Nat.beq L id
      .rfl
      .exact absurd (ia R) M
     simp only[this,cond_false]at h1;rw[if_neg M];exact⟨f,i,g,h1⟩
   |normal=>exact⟨f,i,g,h1⟩
   |goto l=>exact⟨f,i,g,h1⟩
   |ret=>exact⟨f,i,g,h1⟩
   |panic ch=>exact⟨f,i,g,h1⟩
   |outgrown=>exact⟨f,i,g,h1⟩
  .exact h.elim
 |loop live ew A z=>
  intro c K e a w au j h;simp only[D]at h;split at h
  .rename_i b
   cases q:rK ew (writes b) with
   |false=>rw[q]at h;exact h.elim
   |true=>
    rw[q]at h;obtain⟨S,T,h0,U⟩:=h;refine wp_loop (λr w'=>dR (writes b) a r/\gj.app live S (λs=>r.tmps[s]?) w') (λr w'=>ja live T (λs=>r.tmps[s]?) w')
     ⟨.refl _ _,Ak (λs v hs=>au.get s v hs) h0⟩ ?_
    rintro a1 w1 ⟨f,V⟩;obtain⟨W,hs,N⟩:=Al U V;refine jz (z b _ _ a1 w1 (Ao au f q hs) (λd hd=>by rw[f.size];exact j d hd) N) ?_;rintro ex a2 ai ⟨k,p,m,h2⟩
    cases ex with
    |normal=>
     obtain⟨aw,ay⟩:=Am (g':=λs=>a2.tmps[s]?) (λs v hs=>m.get s v hs) h2;exact⟨⟨f.trans k,aw⟩,ay⟩
    |exit id=>exact⟨f.trans k,p,m,h2⟩
    |goto l=>exact⟨f.trans k,p,m,h2⟩
    |ret=>exact⟨f.trans k,p,m,h2⟩
    |panic ch=>exact⟨f.trans k,p,m,h2⟩
    |outgrown=>exact⟨f.trans k,p,m,h2⟩
  .exact h.elim
 |fm live ew A z=>
  intro c K e a w au j h;simp only[D]at h
  cases q:rK ew (writes c) with
  |false=>rw[q]at h;exact h.elim
  |true=>
   rw[q]at h;simp only[cond_true]at h;have h:=h.out;refine jz (z c _ e a w au j h) ?_;rintro ex a1 w1 ⟨f,i,g,h1⟩
   cases ex with
   |normal=>
    obtain⟨W,hs,N⟩:=Aj h1;exact⟨f,_,Ao au f q (λs v h=>g.get s v (hs s v h)),N⟩
   |exit id=>exact⟨f,i,g,h1⟩
   |goto l=>exact⟨f,i,g,h1⟩
   |ret=>exact⟨f,i,g,h1⟩
   |panic ch=>exact⟨f,i,g,h1⟩
   |outgrown=>exact⟨f,i,g,h1⟩
def l9(P:Program)(tk:TypeId->dD):O ResultVar->Env->J->(O aa->Prop)->Prop
 | [],_,_,K=>K []
 | .tmp t::r,e,w,K=>match e.get t with
  |some v=>l9 P tk r e w λvs=>K (v::vs)
  |none=>False
 | .cell t T::r,e,w,K=>match e.get t with
  |some (.pointer (some A))=>pN P tk T A w λv=>l9 P tk r e w λvs=>K (v::vs)
  |_=>False
def pX:O aa->aa
 | [v]=>v
 |vs=>.tuple vs.toArray
def Ap(P:Program)(tk:TypeId->dD)(a:O ResultVar)(R:aa->J->Prop)(x:Exit)(e:Env)(w:J):Prop:=
 match x with
 | .normal=>l9 P tk a e w λvs=>R (pX vs) w
 | .ret=>l9 P tk a e w λvs=>R (pX vs) w
 |_=>False
def og:Nat->O aa->Env
 |_,[]=> []
 |i,v::vs=>(i,v)::og (i+1) vs
def pY(P:Program)(tk:TypeId->dD)(A:aN)(fn:Func)(args:O aa)(w:J)(R:aa->J->Prop):Prop:=
 match fn.body with
 |some c=>D P tk A c (Ap P tk fn.results.toList R) (og 0 args) w
 |none=>False
def oh(fn:Func)(n:Nat):al:=
 match fn.body with
 |some c=>(writes c).all (λd=>Nat.blt d fn.ntmps)&&Nat.ble n fn.ntmps
 |none=>false
theorem xe:∀ {vs:O aa}{i s:Nat}{v:aa},(og i vs).get s=some v->i<=s/\vs[s-i]? =some v
 | [],_,_,_,h=>by cases h
 |u::vs,i,s,v,h=>by
  simp only[og]at h
  rw[n3]at h
  by_cases a:i=s
  .subst a
   rw[if_pos rfl]at h
   simpa using h
  .rw[if_neg a]at h
   obtain⟨h1,h2⟩:=xe h
   refine⟨I,?_⟩
   rw[show s-i=(s-(i+1))+1 from I]
   simpa using h2
def rL(tmps:Array aa)(r:ResultVar):Sem aa:=
 match r with
 | .tmp t=>pure (tmps.getD t undef)
 | .cell x t=>do loadVar t (←asAddr (tmps.getD x undef))
theorem l_{a:Act}:∀ {f:O ResultVar}{e:Env}{w:J}{K:O aa->Prop},dh e a->l9 P tk f e w K->
 ∃vs,(f.mapM (rL a.tmps)).run P w=.ok vs w/\K vs
 | [],_,_,_,_,h=>⟨[],by simp,h⟩
 | .tmp t::r,e,w,K,au,h=>by
  simp only[l9]at h
  split at h
  .rename_i v b
   obtain⟨vs,c,d⟩:=l_ au h
   refine⟨v::vs,?_,d⟩
   have ht:a.tmps.getD t undef=v:=by simp[Array.getD_eq_getD_getElem?,au.get _ _ b]
   simp only[List.mapM_cons,rL,Sem.run_bind,Sem.run_pure,Result.andThen,ht]
   rw[c]
  .exact h.elim
 | .cell t T::r,e,w,K,au,h=>by
  simp only[l9]at h
  split at h
  .rename_i A b
   obtain⟨v,g,h⟩:=zR h
   obtain⟨vs,c,d⟩:=l_ au h
   refine⟨v::vs,?_,d⟩
   have ht:a.tmps.getD t undef=.pointer (some A):=by simp[Array.getD_eq_getD_getElem?,au.get _ _ b]
   have i:(loadVar T A).run P w=.ok v w:=by simpa[Instr.loadAt,Instr.sureAddr] using g
   simp only[List.mapM_cons,rL,Sem.run_bind,Sem.run_pure,Result.andThen,ht,asAddr,i]
   rw[c]
  .exact h.elim
theorem om{fn:Func}{tmps:Array aa}{w:J}{vs:O aa}
 (h:(fn.results.toList.mapM (rL tmps)).run P w=.ok vs w):
 (results fn tmps).run P w=.ok (pX vs) w:=by
 have a:results fn tmps=(do let vs ←fn.results.mapM (rL tmps);pure (if h:vs.size=1 then vs[0] else .tuple vs)):=rfl;rw[a,Array.mapM_eq_mapM_toList];simp only[Sem.run_bind,Sem.run_map];rw[h];simp only[Result.andThen,Sem.run_pure]
 congr 1
 match vs with
 | []=>rfl
 | [v]=>rfl
 |u::v::vs=>simp[pX]
theorem En{f:FuncId}{fn:Func}{A:aN}{args:O aa}{w:J}{R:aa->J->Prop}(m:P.follows .mixedOrders=true)
 (hf:P.funcs[f]? =some fn) (b:oh fn args.length=true) (h:pY P tk A fn args w R):
 Calls P f args.toArray w λe w'=>∃v,e=.returned v/\R v w':=by
 unfold pY at h;unfold oh at b
 cases g:fn.body with
 |none=>rw[g]at h;exact h.elim
 |some c=>
  rw[g]at h b;simp only[c7]at h b;obtain⟨n,o⟩:=b;have t:=mP o;refine calls_of_wp hf g ?_;have p:(args.toArray++Array.replicate (fn.ntmps-args.toArray.size) undef).size=fn.ntmps:=by simp;omega
  have au:dh (og 0 args) {tmps:=args.toArray++Array.replicate (fn.ntmps-args.toArray.size) undef,defers:=[]}:=by
   constructor;intro s v hs;obtain⟨_,h2⟩:=xe hs;simp only[mQ]at h2;have aH:s<args.length:=(ju.1 h2).1;simp[Array.getElem?_append,aH];rw[dC aH]at h2;exact Option.some.inj h2
  refine jz (tF m A c _ _ _ w au (λd hd=>?_) h) ?_
  .have h1:=pz.1 n d hd
   have h2:=mP h1;show d<(args.toArray++Array.replicate (fn.ntmps-args.toArray.size) undef).size;rw[p];omega
  .rintro x q w' ⟨r,u,k,a⟩
   have hd:q.defers=[]:=r.defers
   cases x with
   |normal=>
    obtain⟨vs,i,j⟩:=l_ k a;exact⟨hd,_,om i,_,rfl,j⟩
   |ret=>
    obtain⟨vs,i,j⟩:=l_ k a;exact⟨hd,_,om i,_,rfl,j⟩
   |exit id=>exact a.elim
   |goto l=>exact a.elim
   |panic ch=>exact a.elim
   |outgrown=>exact a.elim
end
end aQ
namespace aQ
open Go Go.ChangeShapes Go.WideShapes Go.ChangeAt Go.RowKit
def gC(P:Program)(w:J):Nat->TypeId->O aa->Prop
 |0,_,_=>False
 |fuel+1,t,cs=>
  match P.underlying t with
  |some .bool=>∃b:al,cs=[.bool b]
  |some (.int k)=>∃n:Int,cs=[.int k n]/\k.min<=n/\n<=k.max
  |some .string=>∃s:ByteArray,cs=[.string s]/\s.size<=maxLen
  |some (.slice e)=>∃s:ad,cs=[.slice s.a s.len s.cap]/\s.len<=s.cap/\s.cap<=maxLen/\(s.a=none->s.cap=0)/\
   ∀a,s.a=some a->∀i,i<s.cap->∃vs,bw w (a.add (i*P.cellsOf e)) 0 (P.cellsOf e)=some vs/\gC P w fuel e vs
  |some (.struct fs)=>cs.length=P.cellsOf t/\∀f∈fs,gC P w fuel f.type ((cs.drop f.offset).take (P.cellsOf f.type))
  |some (.array n e)=>cs.length=P.cellsOf t/\∀i,i<n->gC P w fuel e ((cs.drop (i*P.cellsOf e)).take (P.cellsOf e))
  |some (.pointer e)=>cs=[.pointer none]\/∃a vs,cs=[.pointer (some a)]/\bw w a 0 (P.cellsOf e)=some vs/\gC P w fuel e vs
  |_=>True
theorem mapM_some{α β:Type}{f:α->av β}:∀ {l:O α}{r:O β},l.mapM f=some r->∀x∈l,∃y,f x=some y
 | [],_,_,_,hx=>by cases hx
 |a::l,r,h,x,hx=>by
  simp only[List.mapM_cons]at h
  cases c:f a with
  |none=>simp[c]at h
  |some b=>
   cases d:l.mapM f with
   |none=>simp[c,d]at h
   |some e=>
    rcases cX.1 hx with rfl|hx
    .exact⟨b,c⟩
    .exact mapM_some d x hx
theorem Aq{w:J}{a:ag}:∀ (n i:Nat) (vs:O aa),((List.range' i n).mapM λj=>w.cell? (a.add j))=some vs->bw w a i n=some vs
 |0,i,vs,h=>by simp at h;simp[bw,h]
 |n+1,i,vs,h=>by
  simp only[List.range'_succ,List.mapM_cons]at h
  cases h1:w.cell? (a.add i) with
  |none=>simp[h1]at h
  |some v=>
   cases h2:((List.range' (i+1) n).mapM λj=>w.cell? (a.add j)) with
   |none=>simp[h1,h2]at h
   |some us=>
    simp[h1,h2]at h
    have:=Aq n (i+1) us h2
    simp[bw,h1,this,h]
theorem Ar{w:J}{base:Nat}{a:ag}{n:Nat}{vs:O aa}(h:w.cells? base a n=some vs):bw w a 0 n=some vs:=by
 unfold World.cells? at h;split at h
 .rw[s0]at h
  exact Aq n 0 vs h
 .cases h
section
variable {H:Type}{enc:TypeId×aa->H}{P:Program}{w:J}
theorem rM:∀ (fuel:Nat) (t:TypeId) (cs:O aa) (x:DataW H×O MemPlace),DataW.trod enc P w 0 (λ_=>true) true fuel t cs=some x->gC P w fuel t cs
 |0,_,_,_,h=>by cases h
 |fuel+1,t,cs,x,h=>by
  simp only[DataW.trod]at h
  simp only[gC]
  cases ht:P.underlying t with
  |none=>trivial
  |some d=>
   rw[ht]at h
   cases d<;>try trivial
   case bool=>
    match cs,h with
    | [.bool b],_=>exact⟨b,rfl⟩
   case int k=>
    match cs,h with
    | [.int q n],h=>
     simp only at h
     split at h
     .rename_i g
      obtain⟨rfl,l⟩:=g
      exact⟨n,rfl,by simpa[Lit.wf] using l⟩
     .cases h
   case string=>
    match cs,h with
    | [.string s],h=>
     simp only at h
     split at h
     .rename_i g;exact⟨s,rfl,g⟩
     .cases h
   case pointer e=>
    match cs,h with
    | [.pointer none],_=>exact .inl rfl
    | [.pointer (some a)],h=>
     simp only[s3]at h
     obtain⟨y,c,_⟩:=h
     obtain⟨vs,h1,h2⟩:=Option.bind_eq_some_iff.1 c
     exact .inr ⟨a,vs,rfl,Ar h1,rM fuel e vs _ h2⟩
   case slice e=>
    match cs,h with
    | [.slice none 0 0],_=>exact⟨⟨none,0,0⟩,rfl,bl _,cL _,(λ_=>rfl),(λa m=>by cases m)⟩
    | [.slice (some a) len cap],h=>
     simp only at h
     split at h
     .rename_i g
      refine⟨⟨some a,len,cap⟩,rfl,g.2.1,g.2.2,(λh0=>by cases h0),λr o i hi=>?_⟩
      obtain⟨elems,he,h⟩:=Option.bind_eq_some_iff.1 h
      simp only[if_true,s3]at h
      obtain⟨rest,p,_⟩:=h
      cases o
      have key:∃y,((w.cells? 0 (a.add (i*P.cellsOf e)) (P.cellsOf e)).bind (DataW.trod enc P w 0 (λ_=>true) true fuel e))=some y:=by
       rcases ec i len with j|j
       .exact mapM_some he i (jV.2 j)
       .obtain⟨y,c⟩:=mapM_some p (i-len) (jV.2 (by simp only at hi;omega))
        rw[show len+(i-len)=i from I]at c;exact⟨y,c⟩
      obtain⟨y,c⟩:=key;obtain⟨vs,h1,h2⟩:=Option.bind_eq_some_iff.1 c;exact⟨vs,Ar h1,rM fuel e vs _ h2⟩
     .cases h
   case struct fs=>
    simp only at h;split at h
    .rename_i j
     refine⟨j,λf hf=>?_⟩;simp only[s3]at h;obtain⟨ys,c,_⟩:=h;obtain⟨y,c⟩:=mapM_some c f (by simpa using hf);exact rM fuel _ _ _ c
    .cases h
   case array n e=>
    simp only at h;split at h
    .rename_i j
     refine⟨j,λi hi=>?_⟩;simp only[s3]at h;obtain⟨ys,c,_⟩:=h;obtain⟨y,c⟩:=mapM_some c i (jV.2 hi);exact rM fuel _ _ _ c
    .cases h
def j4(P:Program)(w:J)(t:TypeId)(v:aa):Prop:=
 match P.underlying t with
 |some (.struct _)=>∃cs:Array aa,v=.agg cs/\∃fuel,gC P w fuel t cs.toList
 |some (.array _ _)=>∃cs:Array aa,v=.agg cs/\∃fuel,gC P w fuel t cs.toList
 |_=>∃fuel,gC P w fuel t [v]
theorem xf{r:Reach}{a:Nat}{t:TypeId}{v:aa}{d:DataW H}{ps:O MemPlace}(jA:Value.okWide P w r a t v)
 (hd:DataW.Trod enc P w 0 (λ_=>true) true t v d ps):j4 P w t v:=by
 obtain⟨fuel,hd⟩:=hd;have h1:=rM fuel t _ _ hd;unfold j4;unfold Value.okWide at jA;have b:(∀cs,v≠ .agg cs)->v.cells.toList=[v]:=λh=>by cases v<;>first|rfl|exact absurd rfl (h _)
 cases ht:P.underlying t with
 |none=>
  rw[ht]at jA
  cases fuel with
  |zero=>cases hd
  |succ f=>exact⟨1,by simp[gC,ht]⟩
 |some c=>
  rw[ht]at jA
  cases c
  case struct fs=>obtain⟨cs,rfl,_,_⟩:=jA;exact⟨cs,rfl,fuel,h1⟩
  case array n e=>obtain⟨cs,rfl,_,_⟩:=jA;exact⟨cs,rfl,fuel,h1⟩
  all_goals
   refine⟨fuel,?_⟩;rw[←b]
   .exact h1
   .rintro cs rfl
    simp[Cell.okWide,Cell.ok,ht]at jA
theorem As{w w':J}(h:af (λ_=>False) w w'):Below w.heap.size w w':=
 ⟨h.os,h.tape,h.output,h.size,λk a=>h.block k a (λh=>h)⟩
theorem Eo{f:Func}{s:ChangeSpec}{apart fresh handsOn again:al}{W W':J}{args:Array aa}{T:TypeId}{ds gs:O (DataW H)}{before pa eW:O MemPlace}
 (cw:DataW.Whole enc P f.params.toList s.vars apart W args.toList ds gs before) (d:P.underlying T=some .bool) (e:f.resultTypes= #[T])
 (hs:s.fn H (ds++gs)={results:=[.lit (.bool true)],args:=ds})
 (tG:∀sp:Nat->al,(∀p∈before,sp p.block=true)->DataW.TrodAll enc P W' 0 sp true f.params.toList args.toList ds pa)
 (l:∀sp:Nat->al,(∀p∈before,sp p.block=true)->DataW.TrodVars enc P W' sp s.vars [] eW)
 (c:before=pa++eW) (m:af (λ_=>False) W W'):
 s.post enc P f apart fresh handsOn again W args (.bool true) W':=by
 have g:=As m;have aH:∀p∈before,p.block<W.heap.size:=λp a=>cw.lt p a;have hold:∀p∈before,(λb=>decide (b<W.heap.size)) p.block=true:=λp a=>by simpa using aH p a
 have h:∀ (b:Nat) (sp:Nat->al) (hd:al),DataW.TrodAll enc P W' b sp hd f.resultTypes.toList ((Value.bool true).resultList f.resultTypes.size) (s.fn H (ds++gs)).results []:=by
  intro b sp hd;rw[hs,e];exact trodAll_cons_mk (shut_bool d true) trodAll_mk0
 have i:∀sp:Nat->al,(∀p∈before,sp p.block=true)->DataW.TrodAll enc P W' 0 sp true f.params.toList args.toList (s.fn H (ds++gs)).args pa:=by
  intro sp im;rw[hs];exact tG sp im
 have j:∀sp:Nat->al,(∀p∈before,sp p.block=true)->DataW.TrodVars enc P W' sp s.vars (s.fn H (ds++gs)).vars eW:=by
  intro sp im;rw[hs];exact l sp im
 refine⟨ds,gs,before,[],pa,eW,cw,h _ _ _,i _ hold,j _ hold,World.keptBut_mono (λp a=>⟨a,?_⟩) (g.frame (· ∈before)),λ_=>?_⟩
 .rw[c,cK]at a
  exact Or.inr a
 .obtain⟨_,_,_,_,_,n,o⟩:=cw
  refine⟨ok_one e rfl (okWide_bool_mk d _),_,_,([]++pa)++eW,⟨[]++pa,eW,trodAll_append (i _ (λ_ _=>rfl)) (h _ _ _),j _ (λ_ _=>rfl),rfl,?_,?_⟩,?_⟩
  .intro b off a
   have k:MemPlace.cell b off∈before:=by rw[c];simpa using a
   rw[g.frozen (aH _ k)];exact n b off k
  .intro q
   have:=o q;rw[c]at this;simpa using this
  .intro p a _
   rw[c];simpa using a
theorem xg{t:TypeId}(a:laidOutB P=true)(b:P.readableRec t=true)(c:t<P.types.size){W W':J}{v:aa}{d:DataW H}{ps:O MemPlace}{sp:Nat->al}
 (h:DataW.Trod enc P W 0 (λ_=>true) true t v d ps) (e:af (λ_=>False) W W') (aH:∀x∈ps,x.block<W.heap.size) (hs:∀p∈ps,sp p.block=true):
 DataW.Trod enc P W' 0 sp true t v d ps:=
 WideElems.Trod_stays a b c h (λx hx=>(As e).same (aH x hx)) hs
end
end aQ
namespace aQ
open Go Go.RowKit
def aJ(P:Program)(f:FuncId)(args:Array aa)(w:J)(Q:aa->J->Prop):Prop:=
 Calls P f args w λe w1=>∃v,e=.returned v/\Q v w1
theorem aJ.use{P:Program}{f:FuncId}{args:Array aa}{w:J}{Q:aa->J->Prop}{R:Ending->J->Prop}
 (h:aJ P f args w Q) (k:∀v w',Q v w'->R (.returned v) w'):Calls P f args w R:=
 Calls.mono h λ_ _ ⟨v,a,b⟩=>by subst a;exact k v _ b
theorem aJ.mono{P:Program}{f:FuncId}{args:Array aa}{w:J}{Q R:aa->J->Prop}
 (h:aJ P f args w Q) (k:∀v w',Q v w'->R v w'):aJ P f args w R:=
 aJ.use h λv _ a=>⟨v,rfl,k _ _ a⟩
abbrev Ext(w w':J):Prop:=af (λ_=>False) w w'
theorem af.c0{W:Nat->Prop}{w w':J}(h:Ext w w'):af W w w':=af.mono h λ_ _ h=>h.elim
theorem af.drew{W:Nat->Prop}{w w':J}(h:af W w w'):af W w w'.drew:=⟨h.os,h.tape,h.output,h.size,h.block⟩
theorem af.alloc{W:Nat->Prop}{w w':J}(h:af W w w')(o:Obj):af W w (w'.alloc o):=
 h.trans ⟨rfl,rfl,rfl,by simp,λk a _=>Below.heap_alloc _ _ _ a⟩
theorem af.set{W:Nat->Prop}{w w':J}(h:af W w w'){A:ag}(b:A.block<w.heap.size->W A.block)(v:aa):af W w (w'.setCell A v):=
 ⟨h.os,h.tape,h.output,by simp only[World.setCell,Array.size_modify];exact h.size,λk a cw=>by
  rw[Below.heap_setCell _ _ _ _ (λe=>cw (by subst e;exact b a))];exact h.block k a cw⟩
theorem af.setCells{W:Nat->Prop}{w:J}{A:ag}(a:A.block<w.heap.size->W A.block):∀ (vs:O aa) (i:Nat) {w':J},af W w w'->af W w (setCells w' A i vs)
 | [],_,_,h=>h
 |v::vs,i,w',h=>by
  have b:(A.add i).block=A.block:=by unfold Addr.add;split<;>rfl
  exact af.setCells a vs (i+1) (af.set h (by rw[b];exact a) v)
theorem aA(b o n:Nat):(Addr.mk b o none).add n=⟨b,o+n,none⟩:=by
 unfold Addr.add;split
 .rename_i h;subst h;rfl
 .rfl
def bm(w:J)(b:Nat)(c:Array aa)(T:TypeId):Prop:=w.heap[b]? =some (.cells c T (0,0))
section
variable {w w':J}{b i:Nat}{c:Array aa}{T:TypeId}
theorem bm.lt(h:bm w b c T):b<w.heap.size:=(lp.1 h).1
theorem bm.cell(h:bm w b c T)(i:Nat):w.cell? ⟨b,i,none⟩=c[i]? :=by
 unfold bm at h;simp[World.cell?,h]
theorem bm.frozen(h:bm w b c T)(A:ag)(au:A.block=b):w.frozen? A=false:=by
 unfold bm at h;simp[World.frozen?,au,h]
theorem bm.ah{W:Nat->Prop}(h:bm w b c T)(hc:af W w w')(a:¬W b):bm w' b c T:=by
 have d:=h.lt;unfold bm at h⊢;rw[hc.block b d a];exact h
theorem bm.ext(h:bm w b c T)(hc:Ext w w'):bm w' b c T:=h.ah hc id
theorem bm.drew(h:bm w b c T):bm w.drew b c T:=h
theorem bm.new(w:J)(c:Array aa)(T:TypeId):bm (w.alloc (.cells c T)) w.heap.size c T:=by
 show(w.heap.push (.cells c T))[w.heap.size]? =some (.cells c T (0,0));simp
theorem bm.set(h:bm w b c T)(i:Nat)(v:aa):bm (w.setCell ⟨b,i,none⟩ v) b (c.setIfInBounds i v) T:=by
 unfold bm at h⊢;simp[World.setCell,sY,h]
def gk(c:Array aa)(i:Nat):O aa->Array aa
 | []=>c
 |v::vs=>gk (c.setIfInBounds i v) (i+1) vs
theorem hZ:∀ (vs:O aa) (c:Array aa) (i:Nat),(gk c i vs).size=c.size
 | [],_,_=>rfl
 |v::vs,c,i=>by simp[gk,hZ vs]
theorem bm.rN:∀ (vs:O aa) {w:J}{c:Array aa} (i j:Nat),bm w b c T->bm (setCells w ⟨b,i,none⟩ j vs) b (gk c (i+j) vs) T
 | [],_,_,_,_,h=>h
 |v::vs,w,c,i,j,h=>by
  simp only[setCells,gk,aA]
  have:=bm.rN vs i (j+1) (h.set (i+j) v)
  rw[show i+(j+1)=i+j+1 from I]at this
  exact this
theorem bm.cl(h:bm w b c T)(i:Nat)(vs:O aa)(d:i+vs.length<=c.size)(a:∀v∈vs,Plain v):bI w ⟨b,i,none⟩ vs:=by
 refine⟨λj e=>?_,a⟩;rw[aA,h.cell,h.frozen _ rfl];have:i+j<c.size:=by omega
 simp[this]
end
theorem k2{B:(J->Prop)->Prop}{rest:J->Prop}(a:J->Prop)(h1:∀k:J->Prop,(∀w,a w->k w)->B k)(h2:∀w,a w->rest w):b5 B rest:=⟨h1 rest h2⟩
theorem cA{a:Type}{B:(a->J->Prop)->Prop}{rest:a->J->Prop}(b:a->J->Prop)(h1:∀k:a->J->Prop,(∀x w,b x w->k x w)->B k)(h2:∀x w,b x w->rest x w):b5 B rest:=⟨h1 rest h2⟩
theorem tH{a b:Type}{B:(a->b->J->Prop)->Prop}{rest:a->b->J->Prop}(c:a->b->J->Prop)(h1:∀k:a->b->J->Prop,(∀x y w,c x y w->k x y w)->B k)(h2:∀x y w,c x y w->rest x y w):b5 B rest:=⟨h1 rest h2⟩
theorem Ep.of{P:Program}{w:J}{T:TypeId}{k:IntKind}{v:aa}(h:j4 P w T v)(a:P.underlying T=some (.int k)):∃n:Int,v=.int k n/\k.min<=n/\n<=k.max:=by
 simp only[j4,a]at h;obtain⟨fuel,h⟩:=h
 cases fuel with
 |zero=>cases h
 |succ f=>
  simp only[gC,a]at h;obtain⟨n,b,h1,h2⟩:=h;exact⟨n,by simpa using b,h1,h2⟩
theorem Au{n:Int}(h0:IntKind.u8.min<=n)(h1:n<=IntKind.u8.max):0<=n/\n<=255:=by
 simpa[IntKind.min,IntKind.max,IntKind.signed,IntKind.bits] using And.intro h0 h1
theorem Er{n:Int}(h0:IntKind.i64.min<=n)(h1:n<=IntKind.i64.max): -9223372036854775808<=n/\n<=9223372036854775807:=by
 simpa[IntKind.min,IntKind.max,IntKind.signed,IntKind.bits] using And.intro h0 h1
theorem bn{n:Int}(h0: -9223372036854775808<=n)(h1:n<=9223372036854775807):IntKind.i64.wrap n=n:=by
 by_cases h:0<=n
 .exact wU h h1
 .have e:n%18446744073709551616=n+18446744073709551616:=by omega
  simp[IntKind.wrap,IntKind.signed,IntKind.bits,e];omega
end aQ
namespace aQ
open Go Go.RowKit
structure Src(sz:Nat)(w:J)(x:ad)(xs:O aa):Prop where
 len:xs.length=x.len*sz
 nil:x.a=none->xs=[]
 rd:∀a,x.a=some a->bw w a 0 (x.len*sz)=some xs
def aW(sz:Nat)(T:TypeId)(w:J)(s:ad)(vs:O aa):Prop:=
 vs.length=s.len*sz/\s.len<=s.cap/\s.cap<=maxLen/\
 ((s.a=none/\s.cap=0)\/∃b c,s.a=some ⟨b,0,none⟩/\bm w b c T/\c.size=s.cap*sz/\c.toList.take (s.len*sz)=vs)
def aB(s:ad)(k:Nat):Prop:=∃A,s.a=some A/\A.block=k
theorem rO{w:J}{A:ag}:∀ {n i:Nat}{vs:O aa},bw w A i n=some vs->vs.length=n
 |0,_,_,h=>by simp[bw]at h;simp[←h]
 |n+1,i,vs,h=>by
  simp only[bw]at h
  cases h1:w.cell? (A.add i) with
  |none=>simp[h1]at h
  |some v=>
   cases h2:bw w A (i+1) n with
   |none=>simp[h1,h2]at h
   |some us=>
    simp only[h1,h2,Option.some.injEq]at h
    subst h
    simp[rO h2]
theorem pZ{w:J}{b:Nat}{c:Array aa}{T:TypeId}(h:bm w b c T):∀ (n o i:Nat),o+i+n<=c.size->bw w ⟨b,o,none⟩ i n=some ((c.toList.drop (o+i)).take n)
 |0,o,i,_=>by simp[bw]
 |n+1,o,i,e=>by
  have h1:o+i<c.size:=by omega
  have a:=pZ h n o (i+1) I
  simp only[bw,aA,h.cell,a]
  have h2:c[o+i]? =some c[o+i]:=by simp[h1]
  rw[h2]
  simp only[Option.some.injEq]
  have d:c.toList.drop (o+i)=c[o+i]::c.toList.drop (o+i+1):=by
   rw[jW (by simpa using h1)];simp
  rw[d];simp[Nat.add_assoc]
theorem aW.src{sz:Nat}{T:TypeId}{w:J}{s:ad}{vs:O aa}(h:aW sz T w s vs):Src sz w s vs:=by
 obtain⟨h1,h2,k,g⟩:=h;refine⟨h1,λf=>?_,λa d=>?_⟩
 .rcases g with ⟨_,hc⟩|⟨b,c,e,_⟩
  .have:s.len=0:=by omega
   rw[this,mR]at h1;exact lX.1 h1
  .rw[f]at e;cases e
 .rcases g with ⟨f,_⟩|⟨b,c,e,i,hs,j⟩
  .rw[f]at d;cases d
  .rw[e]at d
   cases d;have:=pZ i (s.len*sz) 0 0 (by rw[hs];simp;exact mS _ h2);rw[this];simp[j]
section
variable {P:Program}{w:J}
theorem p0{sz:Nat}{x:ad}{xs:O aa}(h:Src sz w x xs):(Builtin.firstCells sz x.len (.slice x.a x.len x.cap)).run P w=.ok xs.toArray w:=by
 cases hx:x.a with
 |none=>rw[h.nil hx];rfl
 |some a=>
  simp only[Builtin.firstCells,loadCells];rw[run_loadCellsFrom _ _ _ _ (h.rd a hx)];simp
theorem Av(a:Nat):∀ (r c:Nat),c<=2*a+1000->Builtin.growBy a r c<=2*a+1000
 |0,c,h=>h
 |r+1,c,h=>by
  simp only[Builtin.growBy]
  split
  .exact h
  .exact Av a r _ I
theorem Aw{a cap:Nat}(h:cap<a):Builtin.nextslicecap a cap<=2*a+1000:=by
 unfold Builtin.nextslicecap;split
 .omega
 .split
  .omega
  .exact Av a 4 cap I
theorem xh{gi:Array TypeId}{cB cE j5 e:TypeId}{d:TypeDesc}{sz:Nat}{s x:ad}{xs:O aa}(h0:gi[0]? =some cE)(h1:gi[1]? =some j5)
 (hs:P.underlying cE=some (.slice e)) (hx:P.underlying j5=some (.slice e)) (he:P.underlying e=some d) (g:P.cellsOf e=sz) (h:Src sz w x xs)
 (c:s.len+x.len<=s.cap) (i:∀a,s.a=some a->bI w (a.add (s.len*sz)) xs):
 Sem.run P (Builtin.append_ gi cB #[.slice s.a s.len s.cap,.slice x.a x.len x.cap]) w=
  .ok (.slice s.a (s.len+x.len) s.cap) (match s.a with|some a=>setCells w (a.add (s.len*sz)) 0 xs|none=>w):=by
 have hf:=p0 (P:=P) h;have b:=g2 (w:=w) he;rw[g]at b
 cases j:s.a with
 |none=>
  simp[Builtin.append_,h0,h1,cZ hs,cZ hx,b,Builtin.lenOf,c,hf]
 |some a=>
  have f:=i a j;have:=pM (P:=P) (A:=a.add (s.len*sz)) xs 0 w (by simpa using f.1) f.2;simp[Builtin.append_,h0,h1,cZ hs,cZ hx,b,Builtin.lenOf,c,hf,this]
theorem run_append_grow{gi:Array TypeId}{cB cE j5 e:TypeId}{i:TypeInfo}{z:aa}{sz:Nat}{s x:ad}{xs c:O aa}(h0:gi[0]? =some cE)(h1:gi[1]? =some j5)
 (hs:P.underlying cE=some (.slice e)) (hx:P.underlying j5=some (.slice e)) (hi:P.info? e=some i) (hd:(P.underlying e).isSome=true) (k:i.zero=some z) (l:z.cells.size=sz) (m:P.cellsOf e=sz)
 (o:i.bytes≠0) (f:Src sz w x xs) (hold:Src sz w s c) (p:s.cap<s.len+x.len) (r:(2*(s.len+x.len)+1000)*i.bytes<=281474976710656):
 ∃ (b:Nat) (rest:O aa),s.len+x.len<=b/\b<=maxLen/\rest.length=(b-(s.len+x.len))*sz/\
  Sem.run P (Builtin.append_ gi cB #[.slice s.a s.len s.cap,.slice x.a x.len x.cap]) w=
   .ok (.slice (some ⟨w.heap.size,0,none⟩) (s.len+x.len) b) (w.drew.alloc (.cells (c++xs++rest).toArray e)):=by
 obtain⟨d,hd⟩:=j3 _ hd;have h:=g2 (w:=w) hd;rw[m]at h;have t:=Aw p;have Q:Builtin.nextslicecap (s.len+x.len) s.cap*i.bytes<=281474976710656:=eK (mS _ t) r;have R:s.len+x.len<=281474976710656:=by
  have:s.len+x.len<=(2*(s.len+x.len)+1000)*i.bytes:=by
   have:=Nat.mul_le_mul_left (2*(s.len+x.len)+1000) (Nat.one_le_iff_ne_zero.2 o);omega
  omega
 let q:Question:=.appendCap (s.len+x.len) s.cap e
 let b:Nat:=q.cut (w.tape w.drawn q)
 have u:q.forced=false:=rfl;have v:s.len+x.len<=b:=by show s.len+x.len<=s.len+x.len+_;omega
 have A:b<=maxLen:=by
  show s.len+x.len+_%(2^63-(s.len+x.len))<=2^63-1;have:=gZ (w.tape w.drawn q) (y:=2^63-(s.len+x.len)) I;omega
 have B:Src sz w.drew x xs:=⟨f.len,f.nil,λa g=>by
  have:=f.rd a g;have hc:af (λ_=>False) w w.drew:=af.drew (.refl _ _);exact hc.bw (by simp) _ _ _ this⟩
 have C:Src sz w.drew s c:=⟨hold.len,hold.nil,λa g=>by
  have:=hold.rd a g;have hc:af (λ_=>False) w w.drew:=af.drew (.refl _ _);exact hc.bw (by simp) _ _ _ this⟩
 have hf:=p0 (P:=P) B;have D:=p0 (P:=P) C;have E:∀n (w':J),(askRoom n).run P w'=.ok () w':=λn w'=>by unfold askRoom;split<;>rfl
 have F:(choose q).run P w=.ok b w.drew:=by
  show Sem.run P (.choose q .pure) w=_;simp only[Sem.run,u,fT,if_false];rfl
 have j:=λw:J=>mZ (w:=w) hi;refine⟨b,(Builtin.zeroCells z.cells (b-(s.len+x.len))).toList,v,A,by simp[Builtin.zeroCells,l],?_⟩;have G:¬(s.len+x.len<=s.cap):=by omega
 have H:¬((s.len+x.len:Nat):Int)>IntKind.i64.max:=by
  simp[IntKind.max,IntKind.signed,IntKind.bits];omega
 have K:¬(281474976710656<Builtin.nextslicecap (s.len+x.len) s.cap*i.bytes):=by omega
 have L:¬Builtin.nextslicecap (s.len+x.len) s.cap*i.bytes>2^48:=by simpa using K
 unfold Builtin.append_;simp only[ri,mN,List.getElem?_cons_succ,h0,h1,Sem.run_bind,cZ hs,cZ hx,Result.andThen,h,Builtin.lenOf,Sem.run_pure,G,if_false,fT,j,H,false_and,L,Bool.not_false,if_true];have M:Sem.run P (choose (.appendCap (s.len+x.len) s.cap e)) w=.ok b w.drew:=F;simp only[M,E,hf,D,zeroValue,j,k,Sem.run_bind,Result.andThen,Sem.run_pure,newRow,newObj,Sem.run];have N:w.drew.heap.size=w.heap.size:=rfl;rw[N]
 congr 1
 show w.drew.alloc _=w.drew.alloc _
 congr 2
 simp
theorem rP:∀ (vs:O aa) (c:Array aa) (i:Nat),i+vs.length<=c.size->(gk c i vs).toList.take (i+vs.length)=c.toList.take i++vs
 | [],c,i,_=>by simp[gk]
 |v::vs,c,i,h=>by
  simp only[fY]at h
  simp only[gk]
  have:=rP vs (c.setIfInBounds i v) (i+1) (by simpa using (by omega:i+1+vs.length<=c.size))
  rw[show i+(v::vs).length=i+1+vs.length by simp;omega,this]
  have hi:i<c.size:=by omega
  have h2:(c.setIfInBounds i v).toList.take (i+1)=c.toList.take i++ [v]:=by
   rw[kr (by simpa using hi)];have a:(List.take i c.toList).set i v=List.take i c.toList:=by
    apply List.set_eq_of_length_le;simp only[cI];omega
   simp[List.take_set,a]
  rw[h2];simp
theorem Es{gi:Array TypeId}{cB cE j5 e:TypeId}{i:TypeInfo}{z:aa}{sz:Nat}{s x:ad}{xs vs:O aa}(h0:gi[0]? =some cE)(h1:gi[1]? =some j5)
 (hs:P.underlying cE=some (.slice e)) (hx:P.underlying j5=some (.slice e)) (hi:P.info? e=some i) (hd:(P.underlying e).isSome=true) (B:i.zero=some z) (C:z.cells.size=sz) (r:P.cellsOf e=sz)
 (D:i.bytes≠0) (f:Src sz w x xs) (t:aW sz e w s vs) (E:∀v∈xs,Plain v) (F:(2*(s.len+x.len)+1000)*i.bytes<=281474976710656):
 ∃ (g:ad) (w':J),Sem.run P (Builtin.append_ gi cB #[.slice s.a s.len s.cap,.slice x.a x.len x.cap]) w=.ok (.slice g.a g.len g.cap) w'/\
  aW sz e w' g (vs++xs)/\g.len=s.len+x.len/\af (aB s) w w'/\(∀k,aB g k->aB s k\/w.heap.size<=k):=by
 have hold:=t.src;obtain⟨aw,ay,G,u⟩:=t;by_cases h:s.len+x.len<=s.cap
 .have H:∀a,s.a=some a->bI w (a.add (s.len*sz)) xs:=by
   intro a j;rcases u with ⟨n,_⟩|⟨b,c,l,o,m,y⟩
   .rw[n]at j;cases j
   .rw[l]at j
    cases j;rw[aA];refine o.cl _ _ ?_ E;rw[m,f.len,cR,←ic];exact mS _ h
  obtain⟨d,hd⟩:=j3 _ hd;have p:=xh (cB:=cB) h0 h1 hs hx hd r f h H;refine⟨⟨s.a,s.len+x.len,s.cap⟩,_,p,?_,rfl,?_,λk q=>.inl q⟩
  .refine⟨by simp[aw,f.len,ic],h,G,?_⟩
   rcases u with ⟨n,hc⟩|⟨b,c,l,o,m,y⟩
   .exact .inl ⟨n,hc⟩
   .refine .inr ⟨b,gk c (s.len*sz) xs,l,?_,by rw[hZ];exact m,?_⟩
    .simp only[l,aA]
     have:=bm.rN (T:=e) xs (0+s.len*sz) 0 o;simpa using this
    .have K:s.len*sz+xs.length<=c.size:=by
      rw[m,f.len,←ic];exact mS _ h
     have:=rP xs c (s.len*sz) K;rw[f.len,←ic]at this;rw[this,y]
  .cases L:s.a with
   |none=>exact .refl _ _
   |some a=>
    refine af.setCells (λ_=>?_) xs 0 (.refl _ _);exact⟨a,L,by unfold Addr.add;split<;>rfl⟩
 .obtain⟨M,rest,N,Q,R,p⟩:=run_append_grow (cB:=cB) h0 h1 hs hx hi hd B C r D f hold I F
  refine⟨⟨some ⟨w.heap.size,0,none⟩,s.len+x.len,M⟩,_,p,?_,rfl,af.alloc (af.drew (.refl _ _)) _,?_⟩
  .refine⟨by simp[aw,f.len,ic],N,Q,.inr ⟨w.heap.size,(vs++xs++rest).toArray,rfl,bm.new w.drew _ _,?_,?_⟩⟩
   .simp[aw,f.len,R]
    rw[←ic,←ic]
    congr 1
    omega
   .have:(vs++xs).length=(s.len+x.len)*sz:=by simp[aw,f.len,ic]
    show List.take ((s.len+x.len)*sz) (vs++xs++rest).toArray.toList=vs++xs;rw[←this];exact List.take_left
  .rintro k ⟨A,au,q⟩
   cases au;exact .inr (by simpa using q▸bl _)
end
theorem aW.ah{sz:Nat}{T:TypeId}{w w':J}{s:ad}{vs:O aa}{W:Nat->Prop}(h:aW sz T w s vs)(hc:af W w w')(e:∀k,aB s k->¬W k):aW sz T w' s vs:=by
 obtain⟨h1,h2,f,a⟩:=h;refine⟨h1,h2,f,?_⟩;rcases a with a|⟨b,c,d,g,i,j⟩
 .exact .inl a
 .exact .inr ⟨b,c,d,g.ah hc (e b ⟨_,d,rfl⟩),i,j⟩
theorem Src.ah{sz:Nat}{w w':J}{s:ad}{vs:O aa}{W:Nat->Prop}(h:Src sz w s vs)(hc:af W w w')(c:∀k,aB s k->¬W k):Src sz w' s vs:=
 ⟨h.len,h.nil,λa b=>hc.bw (c _ ⟨a,b,rfl⟩) _ _ _ (h.rd a b)⟩
theorem aW.lt{sz:Nat}{T:TypeId}{w:J}{s:ad}{vs:O aa}(h:aW sz T w s vs):∀k,aB s k->k<w.heap.size:=by
 rintro k ⟨A,au,rfl⟩;obtain⟨_,_,_,a⟩:=h;rcases a with ⟨d,_⟩|⟨b,c,e,f,_⟩
 .rw[d]at au;cases au
 .rw[e]at au;cases au;exact f.lt
theorem aW.cell{T:TypeId}{w:J}{s:ad}{vs:O aa}(h:aW 1 T w s vs){i:Nat}{v:aa}(d:vs[i]? =some v):
 ∃b c,s.a=some ⟨b,0,none⟩/\bm w b c T/\c.size=s.cap/\i<s.len/\i<c.size/\w.cell? ⟨b,i,none⟩=some v/\c.toList.take s.len=vs:=by
 obtain⟨h1,h2,k,g⟩:=h;have hi:i<s.len:=by
  have:=(ju.1 d).1;omega
 rcases g with ⟨_,hc⟩|⟨b,c,j,e,f,ht⟩
 .omega
 .rw[ft]at f ht
  refine⟨b,c,j,e,f,hi,I,?_,ht⟩;rw[e.cell];rw[←ht,s4]at d;rw[if_pos hi]at d;simpa using d
theorem aW.set{T:TypeId}{w:J}{s:ad}{vs:O aa}{b i:Nat}(h:aW 1 T w s vs)(d:s.a=some ⟨b,0,none⟩)(v:aa):
 aW 1 T (w.setCell ⟨b,i,none⟩ v) s (vs.set i v):=by
 obtain⟨h1,h2,f,g⟩:=h;refine⟨by simpa using h1,h2,f,.inr ?_⟩;rcases g with ⟨j,_⟩|⟨m,c,e,k,l,ht⟩
 .rw[j]at d;cases d
 .rw[d]at e
  cases e;refine⟨b,_,d,k.set i v,by simpa using l,?_⟩;rw[←ht];simp[List.take_set]
def Ax(P:Program)(cE e:TypeId)(sz bytes:Nat):al:=
 match P.underlying cE,P.info? e,P.underlying e with
 |some (.slice a),some i,some _=>a==e&&(match i.zero with|some z=>z.cells.size==sz|none=>false)&&P.cellsOf e==sz&&i.bytes==bytes&&bytes !=0
 |_,_,_=>false
structure g3(P:Program)(cE e:TypeId)(sz bytes:Nat):Prop where
 h:Ax P cE e sz bytes=true
theorem g3.out{P:Program}{cE e:TypeId}{sz bytes:Nat}(h:g3 P cE e sz bytes):
 P.underlying cE=some (.slice e)/\∃i z,P.info? e=some i/\(P.underlying e).isSome=true/\i.zero=some z/\z.cells.size=sz/\P.cellsOf e=sz/\i.bytes=bytes/\bytes≠0:=by
 have h:=h.h;unfold Ax at h;split at h
 .rename_i k i d h1 h2 b
  simp only[c7,kt,bne_iff_ne]at h;obtain⟨⟨⟨⟨rfl,a⟩,c⟩,f⟩,g⟩:=h;split at a
  .rename_i z j
   exact⟨h1,i,z,h2,by simp[b],j,by simpa using a,c,f,g⟩
  .cases a
 .cases h
theorem g3.append{P:Program}{w:J}{cE e cB:TypeId}{sz bytes:Nat}{s x:ad}{xs vs:O aa}(h:g3 P cE e sz bytes)
 (c:Src sz w x xs) (d:aW sz e w s vs) (f:∀v∈xs,Plain v) (g:(2*(s.len+x.len)+1000)*bytes<=281474976710656):
 ∃ (b:ad) (w':J),Sem.run P (Builtin.append_ #[cE,cE] cB #[.slice s.a s.len s.cap,.slice x.a x.len x.cap]) w=.ok (.slice b.a b.len b.cap) w'/\
  aW sz e w' b (vs++xs)/\b.len=s.len+x.len/\af (aB s) w w'/\(∀k,aB b k->aB s k\/w.heap.size<=k):=by
 obtain⟨h1,i,z,h2,j,l,m,n,rfl,o⟩:=h.out;exact Es rfl rfl h1 h1 h2 j l m n o c d f g
theorem Src.new{sz:Nat}{T:TypeId}(w:J)(xs:O aa)(n:Nat)(b:xs.length=n*sz):Src sz (w.alloc (.cells xs.toArray T)) ⟨some ⟨w.heap.size,0,none⟩,n,n⟩ xs:=by
 refine⟨b,(λh=>by cases h),λa c=>?_⟩
 cases c;rw[pZ (bm.new w xs.toArray T) _ _ _ (by simp[b])];simp[←b]
theorem aW.new{sz:Nat}{T:TypeId}(w:J)(xs:O aa)(n:Nat)(a:xs.length=n*sz)(b:n<=maxLen):aW sz T (w.alloc (.cells xs.toArray T)) ⟨some ⟨w.heap.size,0,none⟩,n,n⟩ xs:=by
 refine⟨a,bl _,b,.inr ⟨_,_,rfl,bm.new w _ _,by simp[a],?_⟩⟩;show List.take (n*sz) xs=xs;rw[←a,ku]
theorem aW.none(sz:Nat)(T:TypeId)(w:J):aW sz T w ⟨.none,0,0⟩ []:=⟨by simp,bl _,by decide,.inl ⟨rfl,rfl⟩⟩
theorem fZ(k:Nat):¬aB ⟨.none,0,0⟩ k:=by rintro⟨A,au,_⟩;cases au
theorem jb{A:ag}{n m k:Nat}:aB ⟨some A,n,m⟩ k↔A.block=k:=⟨λ⟨B,a,h⟩=>by cases a;exact h,λh=>⟨_,rfl,h⟩⟩
theorem Src.alloc{sz:Nat}{w:J}{s:ad}{vs:O aa}(h:Src sz w s vs)(o:Obj):Src sz (w.alloc o) s vs:=h.ah (W:=λ_=>False) (af.alloc (.refl _ _) o) (λ_ _ h=>h)
theorem aW.ext{sz:Nat}{T:TypeId}{w w':J}{s:ad}{vs:O aa}(h:aW sz T w s vs)(hc:Ext w w'):aW sz T w' s vs:=h.ah hc λ_ _ h=>h
theorem Src.ext{sz:Nat}{w w':J}{s:ad}{vs:O aa}(h:Src sz w s vs)(hc:Ext w w'):Src sz w' s vs:=h.ah hc λ_ _ h=>h
theorem g3.push{P:Program}{w:J}{cE e cB:TypeId}{sz bytes:Nat}{s:ad}{vs xs:O aa}(h:g3 P cE e sz bytes)(hx:xs.length=sz)
 (c:aW sz e w s vs) (d:∀v∈xs,Plain v) (f:(2*(s.len+1)+1000)*bytes<=281474976710656):
 ∃ (b:ad) (w':J),Sem.run P (Builtin.append_ #[cE,cE] cB #[.slice s.a s.len s.cap,.slice (some ⟨w.heap.size,0,none⟩) 1 1]) (w.alloc (.cells xs.toArray e))=.ok (.slice b.a b.len b.cap) w'/\
  aW sz e w' b (vs++xs)/\b.len=s.len+1/\af (aB s) w w'/\(∀k,aB b k->aB s k\/w.heap.size<=k):=by
 have hc:Ext w (w.alloc (.cells xs.toArray e)):=af.alloc (.refl _ _) _;obtain⟨b,w',h1,h2,g,i,j⟩:=h.append (cB:=cB) (Src.new (T:=e) w xs 1 (by simpa using hx)) (c.ext hc) d f;exact⟨b,w',h1,h2,g,(af.c0 hc).trans i,λk l=>(j k l).imp id (λh=>by simp at h;omega)⟩
theorem g3.clone{P:Program}{w:J}{cE e cB:TypeId}{sz bytes:Nat}{x:ad}{xs:O aa}(h:g3 P cE e sz bytes)
 (m:Src sz w x xs) (q:∀v∈xs,Plain v) (r:(2*x.len+1000)*bytes<=281474976710656):
 ∃ (f:ad) (w':J),Sem.run P (Builtin.append_ #[cE,cE] cB #[.slice (some ⟨w.heap.size,0,none⟩) 0 0,.slice x.a x.len x.cap]) (w.alloc (.cells #[] e))=.ok (.slice f.a f.len f.cap) w'/\
  aW sz e w' f xs/\f.len=x.len/\Ext w w'/\(∀k,aB f k->w.heap.size<=k)/\f.a.isSome=true:=by
 have t:=aW.new (sz:=sz) (T:=e) w [] 0 (by simp) (by decide);have n:=m.alloc (.cells #[] e);obtain⟨f,w',h1,h2,o,g,u⟩:=h.append (cB:=cB) n t q (by simpa using r);refine⟨f,w',h1,by simpa using h2,by simpa using o,?_,λk j=>?_,?_⟩
 .refine⟨g.os.trans rfl,g.tape.trans rfl,g.output.trans rfl,?_,λk j _=>?_⟩
  .have:=g.size;simp at this;omega
  .rw[g.block k (by simp;omega) (by rintro⟨A,au,h⟩;cases au;simp at h;omega)]
   exact Below.heap_alloc _ _ _ j
 .rcases u k j with ⟨A,au,h⟩|h
  .cases au;simp at h;omega
  .simp at h;omega
 .obtain⟨_,i,z,F,y,G,H,B,rfl,I⟩:=h.out
  have l:=h2.2.2.2;rcases l with ⟨C,hc⟩|⟨b,c,l,_⟩
  .
   exfalso;have K:=h2.2.1;have p:x.len=0:=by simp at o;omega
   have D:xs=[]:=lX.1 (by rw[m.len,p,mR]);obtain⟨d,hd⟩:=j3 _ y;have:=xh (P:=P) (w:=w.alloc (.cells #[] e)) (gi:= #[cE,cE]) (cB:=cB) (s:=⟨some ⟨w.heap.size,0,Option.none⟩,0,0⟩) rfl rfl h.out.1 h.out.1 hd B n (by simp[p]) (λa _=>by
    rw[D];exact⟨λi hi=>by simp at hi,λv E=>by simp at E⟩)
   rw[this]at h1;simp only[Result.ok.injEq,Value.slice.injEq]at h1;rw[C]at h1
   cases h1.1.1
  .rw[l];rfl
theorem aW.at{T:TypeId}{w:J}{s:ad}{vs:O aa}(h:aW 1 T w s vs){i:Nat}{v:aa}(g:vs[i]? =some v):
 ∃A:ag,s.a=some A/\((0:Int)<=(i:Int)/\(i:Int)<((s.len:Nat):Int))/\w.cell? (A.add (Int.toNat (i:Int)*1))=some v/\w.frozen? (A.add (Int.toNat (i:Int)*1))=false/\
  aB s (A.add (Int.toNat (i:Int)*1)).block/\∀d,aW 1 T (w.setCell (A.add (Int.toNat (i:Int)*1)) d) s (vs.set i d):=by
 obtain⟨b,c,f,j,k,hi,l,hc,_⟩:=h.cell g;have e:(Addr.mk b 0 Option.none).add (Int.toNat (i:Int)*1)=⟨b,i,Option.none⟩:=by rw[ft,dg,aA,cR]
 exact⟨_,f,⟨I,I⟩,by rw[e];exact hc,by rw[e];exact j.frozen _ rfl,by rw[e];exact⟨_,f,rfl⟩,λd=>by rw[e];exact h.set f d⟩
end aQ
namespace aQ
open Go Go.RowKit
def Ay(ns:O Int):ByteArray:=ns.foldl (λr n=>r.push (UInt8.ofNat n.toNat)) ByteArray.empty
theorem Et{P:Program}{w:J}{src dst e:TypeId}{s:ad}{ns:O Int}(hs:P.underlying src=some (.slice e))(he:P.underlying e=some (.int .u8))(hd:P.underlying dst=some .string)
 (h:Src 1 w s (ns.map (.int .u8))):Sem.run P (convert src dst (.slice s.a s.len s.cap)) w=.ok (.string (Ay ns)) w:=by
 rw[run_convert_bytes_string w src dst e s.a s.len s.cap hs he hd]
 cases b:s.a with
 |none=>
  have:=h.nil b;have d:ns=[]:=by simpa using this
  subst d;rfl
 |some A=>
  have c:=h.rd A b;rw[ft]at c;exact run_bytesToString w A s.len s.cap ns (by
   unfold loadCells;rw[run_loadCellsFrom _ _ _ _ c];simp)
theorem Az{P:Program}{e:TypeId}{v:aa}(a:((P.info? e).bind (·.zero)).map (·.cells)=some #[v])(hc:P.cellsOf e=1)(n:Nat):gS P e n=(List.replicate n v).toArray:=by
 unfold gS;rw[hc]
 cases hi:(P.info? e).bind (·.zero) with
 |none=>rw[hi]at a;cases a
 |some z=>
  rw[hi]at a;simp only[lY,Option.some.injEq]at a;simp only[Option.getD_some,a,ft];apply Array.ext
  .simp
  .intro i h1 h2
   have b:n≠0:=by
    intro h;subst h;simp at h2
   simp[b,Nat.mod_one]
structure p1(P:Program)(w:J)(e:TypeId)(s:ad):Prop where
 le:s.len<=s.cap
 cap:s.cap<=maxLen
 nil:s.a=none->s.cap=0
 cell:∀a,s.a=some a->∀i,i<s.cap->∃vs,bw w (a.add (i*P.cellsOf e)) 0 (P.cellsOf e)=some vs/\∃fuel,gC P w fuel e vs
section
variable {P:Program}{w:J}{T:TypeId}{fuel:Nat}{cs:O aa}
theorem Eu{e:TypeId}(h:gC P w fuel T cs)(b:P.underlying T=some (.slice e)):∃s:ad,cs=[.slice s.a s.len s.cap]/\p1 P w e s:=by
 cases fuel with
 |zero=>cases h
 |succ f=>
  simp only[gC,b]at h;obtain⟨s,h0,h1,h2,c,d⟩:=h;exact⟨s,h0,h1,h2,c,λa g i hi=>by
   obtain⟨vs,j,k⟩:=d a g i hi;exact⟨vs,j,f,k⟩⟩
theorem p1.of{e:TypeId}{v:aa}(h:j4 P w T v)(b:P.underlying T=some (.slice e)):∃s:ad,v=.slice s.a s.len s.cap/\p1 P w e s:=by
 simp only[j4,b]at h;obtain⟨fuel,h⟩:=h;obtain⟨s,h1,h2⟩:=Eu h b;exact⟨s,by simpa using h1,h2⟩
end
theorem p2{w:J}{A:ag}:∀ {n i:Nat}{vs:O aa}{j:Nat}{v:aa},bw w A i n=some vs->vs[j]? =some v->w.cell? (A.add (i+j))=some v
 |0,i,vs,j,v,h,a=>by simp[bw]at h;subst h;simp at a
 |n+1,i,vs,j,v,h,a=>by
  simp only[bw]at h
  cases h1:w.cell? (A.add i) with
  |none=>simp[h1]at h
  |some u=>
   cases h2:bw w A (i+1) n with
   |none=>simp[h1,h2]at h
   |some us=>
    simp only[h1,h2,Option.some.injEq]at h
    subst h
    cases j with
    |zero=>simp at a;subst a;exact h1
    |succ j=>
     have:=p2 h2 (j:=j) (by simpa using a)
     rw[show i+(j+1)=i+1+j from I]
     exact this
theorem Src.at{w:J}{s:ad}{vs:O aa}(h:Src 1 w s vs){i:Nat}{v:aa}(b:vs[i]? =some v):
 ∃A:ag,s.a=some A/\((0:Int)<=(i:Int)/\(i:Int)<((s.len:Nat):Int))/\w.cell? (A.add (Int.toNat (i:Int)*1))=some v:=by
 have hi:i<vs.length:=(ju.1 b).1;have d:=h.len
 cases c:s.a with
 |none=>have:=h.nil c;subst this;simp at hi
 |some A=>
  have:=p2 (h.rd A c) b;exact⟨A,rfl,⟨I,I⟩,by rw[ft,dg];simpa using this⟩
end aQ
