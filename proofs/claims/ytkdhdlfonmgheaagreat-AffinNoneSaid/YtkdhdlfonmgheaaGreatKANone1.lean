/- What a Go program of the model must show, as text that can be read; sound against the kit. -/
import Derived.Below
import Derived.KernelRfl
import Derived.Laws.BytesString
import Derived.OpenShut
import Derived.OrdersHeld
import Derived.ProofKit
import Derived.StillTail
import Derived.Tactics
import Derived.WalkKit
import Derived.WideKeyArgs
namespace Go
theorem bm:type_of% @Nat.le_refl:=@Nat.le_refl
theorem cw:type_of% @of_decide_eq_true:=@of_decide_eq_true
theorem cx:type_of% @decide_eq_true_eq:=@decide_eq_true_eq
theorem cK:type_of% @List.getElem_mem:=@List.getElem_mem
theorem cM:type_of% @List.mem_append:=@List.mem_append
theorem cN:type_of% @List.length_take:=@List.length_take
theorem cO:type_of% @List.length_append:=@List.length_append
theorem cS:type_of% @Nat.zero_add:=@Nat.zero_add
theorem cT:type_of% @of_decide_eq_false:=@of_decide_eq_false
theorem cZ:type_of% @Nat.zero_le:=@Nat.zero_le
theorem c0:type_of% @List.append_assoc:=@List.append_assoc
theorem c8:type_of% @List.mem_cons:=@List.mem_cons
theorem df:type_of% @List.length_drop:=@List.length_drop
theorem dg:type_of% @List.length_set:=@List.length_set
theorem dt:type_of% @Bool.and_eq_true:=@Bool.and_eq_true
theorem dH:type_of% @List.take_of_length_le:=@List.take_of_length_le
theorem dI:type_of% @List.getElem?_eq_getElem:=@List.getElem?_eq_getElem
theorem dJ:type_of% @List.length_map:=@List.length_map
theorem dQ:type_of% @Int.toNat_natCast:=@Int.toNat_natCast
theorem dU:type_of% @decide_eq_true:=@decide_eq_true
theorem ei:type_of% @Nat.lt_or_ge:=@Nat.lt_or_ge
theorem eo:type_of% @Nat.le_trans:=@Nat.le_trans
theorem eR:type_of% @List.mem_of_mem_drop:=@List.mem_of_mem_drop
theorem eS:type_of% @List.mem_of_mem_take:=@List.mem_of_mem_take
theorem eY:type_of% @List.getElem_set_ne:=@List.getElem_set_ne
theorem e3:type_of% @List.getElem_of_mem:=@List.getElem_of_mem
theorem e8:type_of% @Bool.not_eq_true:=@Bool.not_eq_true
theorem e9:type_of% @List.mem_map:=@List.mem_map
theorem fh:type_of% @List.mem_singleton:=@List.mem_singleton
theorem fi:type_of% @List.not_mem_nil:=@List.not_mem_nil
theorem ft:type_of% @Nat.lt_of_lt_of_le:=@Nat.lt_of_lt_of_le
theorem fu:type_of% @or_false:=@or_false
theorem fC:type_of% @Bool.false_eq_true:=@Bool.false_eq_true
theorem fD:type_of% @Bool.eq_iff_iff:=@Bool.eq_iff_iff
theorem fE:type_of% @List.map_append:=@List.map_append
theorem fJ:type_of% @Nat.mul_one:=@Nat.mul_one
theorem fK:type_of% @List.getD_eq_getElem?_getD:=@List.getD_eq_getElem?_getD
theorem gb:type_of% @List.take_append_drop:=@List.take_append_drop
theorem gd:type_of% @List.append_nil:=@List.append_nil
theorem gE:type_of% @List.mem_filter:=@List.mem_filter
theorem gF:type_of% @List.map_cons:=@List.map_cons
theorem g2:type_of% @Nat.eq_of_beq_eq_true:=@Nat.eq_of_beq_eq_true
theorem g3:type_of% @List.mem_append_right:=@List.mem_append_right
theorem g4:type_of% @List.getElem?_append_right:=@List.getElem?_append_right
theorem g5:type_of% @List.getElem_set_self:=@List.getElem_set_self
theorem hN:type_of% @Nat.mod_lt:=@Nat.mod_lt
theorem hO:type_of% @List.length_cons:=@List.length_cons
theorem h7:type_of% @Bool.true_and:=@Bool.true_and
theorem h8:type_of% @Bool.or_eq_true:=@Bool.or_eq_true
theorem h9:type_of% @List.length_singleton:=@List.length_singleton
theorem ix:type_of% @List.drop_zero:=@List.drop_zero
theorem iy:type_of% @List.mem_of_find?_eq_some:=@List.mem_of_find?_eq_some
theorem iK:type_of% @Bool.not_eq_true':=@Bool.not_eq_true'
theorem iL:type_of% @Nat.add_mul:=@Nat.add_mul
theorem iM:type_of% @Nat.mod_eq_of_lt:=@Nat.mod_eq_of_lt
theorem iN:type_of% @List.mem_append_left:=@List.mem_append_left
theorem iO:type_of% @List.count_pos_iff:=@List.count_pos_iff
theorem jg:type_of% @List.mem_cons_of_mem:=@List.mem_cons_of_mem
theorem jh:type_of% @decide_eq_false_iff_not:=@decide_eq_false_iff_not
theorem ji:type_of% @List.mem_range:=@List.mem_range
theorem jj:type_of% @beq_iff_eq:=@beq_iff_eq
theorem jk:type_of% @List.take_length:=@List.take_length
theorem jl:type_of% @List.drop_drop:=@List.drop_drop
theorem jm:type_of% @Nat.min_eq_left:=@Nat.min_eq_left
theorem jn:type_of% @List.find?_eq_none:=@List.find?_eq_none
theorem jo:type_of% @List.find?_some:=@List.find?_some
theorem jq:type_of% @decide_eq_false:=@decide_eq_false
theorem jQ:type_of% @List.getElem?_eq_some_iff:=@List.getElem?_eq_some_iff
theorem kf:type_of% @Nat.add_zero:=@Nat.add_zero
theorem kg:type_of% @List.take_succ_eq_append_getElem:=@List.take_succ_eq_append_getElem
theorem kh:type_of% @Option.map_some:=@Option.map_some
theorem ki:type_of% @List.nil_append:=@List.nil_append
theorem kH:type_of% @Array.getElem?_eq_some_iff:=@Array.getElem?_eq_some_iff
theorem kI:type_of% @List.filter_eq_self:=@List.filter_eq_self
theorem kJ:type_of% @List.filter_append:=@List.filter_append
theorem kK:type_of% @List.pairwise_cons:=@List.pairwise_cons
theorem kL:type_of% @Bool.false_and:=@Bool.false_and
theorem lg:type_of% @Nat.testBit_or:=@Nat.testBit_or
theorem lh:type_of% @Bool.false_or:=@Bool.false_or
theorem lj:type_of% @Nat.le_of_ble_eq_true:=@Nat.le_of_ble_eq_true
theorem lk:type_of% @List.perm_middle:=@List.perm_middle
theorem ll:type_of% @List.sum_append:=@List.sum_append
theorem ln:type_of% @List.pairwise_iff_getElem:=@List.pairwise_iff_getElem
theorem lp:type_of% @List.getElem?_map:=@List.getElem?_map
theorem lq:type_of% @List.mem_or_eq_of_mem_set:=@List.mem_or_eq_of_mem_set
theorem lr:type_of% @List.length_nil:=@List.length_nil
theorem lu:type_of% @List.length_replicate:=@List.length_replicate
theorem me:type_of% @List.getElem?_cons_zero:=@List.getElem?_cons_zero
theorem mf:type_of% @List.drop_eq_getElem_cons:=@List.drop_eq_getElem_cons
theorem mg:type_of% @List.map_drop:=@List.map_drop
theorem mh:type_of% @List.map_take:=@List.map_take
theorem mi:type_of% @List.getElem?_eq_none:=@List.getElem?_eq_none
theorem mj:type_of% @Nat.eq_zero_or_pos:=@Nat.eq_zero_or_pos
theorem ml:type_of% @List.count_append:=@List.count_append
theorem nz:type_of% @Option.isSome_iff_exists:=@Option.isSome_iff_exists
theorem nA:type_of% @List.all_eq_true:=@List.all_eq_true
theorem nB:type_of% @Nat.sub_self:=@Nat.sub_self
theorem nC:type_of% @List.length_eq_zero_iff:=@List.length_eq_zero_iff
theorem nD:type_of% @Nat.mul_le_mul_right:=@Nat.mul_le_mul_right
theorem nE:type_of% @List.getElem?_cons_succ:=@List.getElem?_cons_succ
theorem nF:type_of% @List.map_map:=@List.map_map
theorem nG:type_of% @UInt8.toNat_lt:=@UInt8.toNat_lt
theorem nH:type_of% @Bool.not_eq_false':=@Bool.not_eq_false'
theorem nI:type_of% @List.count_cons:=@List.count_cons
theorem nJ:type_of% @List.count_nil:=@List.count_nil
theorem ph:type_of% @List.cons_append:=@List.cons_append
theorem pj:type_of% @List.any_eq_false:=@List.any_eq_false
theorem pk:type_of% @List.filterMap_cons:=@List.filterMap_cons
theorem pn:type_of% @List.filterMap_append:=@List.filterMap_append
theorem po:type_of% @Nat.testBit_two_pow:=@Nat.testBit_two_pow
theorem pq:type_of% @Bool.or_eq_false_iff:=@Bool.or_eq_false_iff
theorem pr:type_of% @Option.some_get:=@Option.some_get
theorem pt:type_of% @List.getElem_set:=@List.getElem_set
theorem pv:type_of% @List.filter_eq_nil_iff:=@List.filter_eq_nil_iff
theorem pw:type_of% @List.pairwise_append:=@List.pairwise_append
theorem px:type_of% @List.length_zip:=@List.length_zip
theorem py:type_of% @List.exists_mem_of_ne_nil:=@List.exists_mem_of_ne_nil
theorem pz:type_of% @List.perm_append_comm:=@List.perm_append_comm
theorem pA:type_of% @List.getElem_take:=@List.getElem_take
theorem pB:type_of% @List.getElem_append_left:=@List.getElem_append_left
theorem pC:type_of% @List.take_left':=@List.take_left'
theorem pD:type_of% @UInt8.toNat_ofNat':=@UInt8.toNat_ofNat'
theorem pE:type_of% @List.toList_toArray:=@List.toList_toArray
theorem pF:type_of% @List.take_append_of_le_length:=@List.take_append_of_le_length
theorem pG:type_of% @List.length_filter_le:=@List.length_filter_le
theorem q6:type_of% @Array.getElem?_modify:=@Array.getElem?_modify
theorem q7:type_of% @List.getElem?_drop:=@List.getElem?_drop
theorem q8:type_of% @List.range_eq_range':=@List.range_eq_range'
theorem q9:type_of% @Option.map_eq_some_iff:=@Option.map_eq_some_iff
theorem q_:type_of% @List.getElem?_toArray:=@List.getElem?_toArray
theorem ra:type_of% @List.getElem?_take:=@List.getElem?_take
theorem rf:type_of% @List.drop_of_length_le:=@List.drop_of_length_le
theorem rh:type_of% @List.ext_getElem:=@List.ext_getElem
theorem ri:type_of% @Nat.pow_le_pow_right:=@Nat.pow_le_pow_right
theorem rj:type_of% @List.zipWith_append:=@List.zipWith_append
theorem rk:type_of% @List.getElem_drop:=@List.getElem_drop
theorem rl:type_of% @List.getElem_append_right:=@List.getElem_append_right
theorem rm:type_of% @List.size_toArray:=@List.size_toArray
theorem rn:type_of% @Int.tmod_eq_emod_of_nonneg:=@Int.tmod_eq_emod_of_nonneg
theorem rp:type_of% @List.filter_cons:=@List.filter_cons
theorem uH:type_of% @List.eq_of_mem_replicate:=@List.eq_of_mem_replicate
theorem uI:type_of% @Int.eq_ofNat_of_zero_le:=@Int.eq_ofNat_of_zero_le
theorem I{p:Prop}(h:p:=by omega):p:=h
abbrev J:=World
abbrev Y:=Value
abbrev aq(α:Type):=Option α
abbrev O(α:Type):=List α
abbrev ah:=Addr
abbrev an:=Bool
end Go
namespace aQ
open Go
structure ad where
 a:aq ah
 len:Nat
 cap:Nat
instance:Coe ad Value:=⟨λs=>.slice s.a s.len s.cap⟩
instance:Coe Int Value:=⟨λn=>.int .i64 n⟩
instance:Coe Nat Value:=⟨λn=>.int .i64 (n:Int)⟩
instance:Coe Bool Value:=⟨λb=>.bool b⟩
instance:Coe Nat Addr:=⟨λb=>⟨b,0,none⟩⟩
instance:Coe (Option Addr) Value:=⟨λp=>.pointer p⟩
instance:Coe Unit Value:=⟨λ_=>.slice none 0 0⟩
structure iP where
 f:FuncId
 pre:Array Y
 cap:Array Y
inductive cD where
 |int (k:IntKind)|bool|str|ptr|slice|map|agg|fn|any
def cD.T:cD->Type
 | .int _=>Int
 | .bool=>an
 | .str=>ByteArray
 | .ptr=>aq ah
 | .slice=>ad
 | .map=>aq Nat
 | .agg=>Array Y
 | .fn=>iP
 | .any=>Y
def cD.v:(l:cD)->l.T->Y
 | .int k,(n:Int)=>.int k n
 | .bool,(b:an)=>.bool b
 | .str,(s:ByteArray)=>.string s
 | .ptr,(p:aq ah)=>.pointer p
 | .slice,(s:ad)=>.slice s.a s.len s.cap
 | .map,(r:aq Nat)=>.map r
 | .agg,(cs:Array Y)=>.agg cs
 | .fn,(F:iP)=>.func (.func F.f) F.pre F.cap
 | .any,(v:Y)=>v
inductive Kd where
 |one (l:cD)
 |flat (ls:O cD)
def mm(l:cD)(K:Y->Prop):Prop:=
 match l with
 | .int k=>∃n:Int,K (.int k n)
 | .bool=>∃b:an,K (.bool b)
 | .str=>∃s:ByteArray,K (.string s)
 | .ptr=>∃p:aq ah,K (.pointer p)
 | .slice=>∃s:ad,K (.slice s.a s.len s.cap)
 | .map=>∃r:aq Nat,K (.map r)
 | .agg=>∃cs:Array Y,K (.agg cs)
 | .fn=>∃F:iP,K (.func (.func F.f) F.pre F.cap)
 | .any=>∃v:Y,K v
def uJ:O cD->(O Y->Prop)->Prop
 | [],K=>K []
 |l::ls,K=>mm l λv=>uJ ls λvs=>K (v::vs)
def uK(k:Kd)(K:Y->Prop):Prop:=
 match k with
 | .one l=>mm l K
 | .flat ls=>uJ ls λvs=>K (.agg vs.toArray)
def rq:O Kd->(O Y->Prop)->Prop
 | [],K=>K []
 |k::ks,K=>uK k λv=>rq ks λvs=>K (v::vs)
theorem nK{l:cD}{K:Y->Prop}(h:mm l K):∃v,K v:=by
 cases l<;>simp only[mm]at h<;>obtain⟨x,h⟩:=h<;>exact⟨_,h⟩
theorem xp:∀ {ls:O cD}{K:O Y->Prop},uJ ls K->∃vs,K vs
 | [],_,h=>⟨_,h⟩
 |_::_,_,h=>let ⟨_,h⟩:=nK h;let ⟨_,h⟩:=xp h;⟨_,h⟩
theorem xq{k:Kd}{K:Y->Prop}(h:uK k K):∃v,K v:=by
 cases k with
 |one l=>exact nK h
 |flat ls=>obtain⟨_,h⟩:=xp h;exact⟨_,h⟩
theorem uL:∀ {ls:O Kd}{K:O Y->Prop},rq ls K->∃vs,K vs
 | [],_,h=>⟨_,h⟩
 |_::_,_,h=>let ⟨_,h⟩:=xq h;let ⟨_,h⟩:=uL h;⟨_,h⟩
abbrev Env:=O (Nat×Y)
def Env.get:Env->Nat->aq Y
 | [],_=>none
 |(k,v)::e,s=>bif Nat.beq k s then some v else Env.get e s
def ev(e:Env):Operand->aq Y
 | .tmp t=>e.get t
 | .const v=>some v
 | .global g=>some (.pointer (some ⟨g,0,none⟩))
 | .func f=>some (.func (.func f) #[] #[])
def ro(e:Env)(x:Operand):Y:=(ev e x).getD undef
def known(e:Env)(xs:Array Operand):an:=xs.toList.all λx=>(ev e x).isSome
structure c9(e:Env)(a:Act):Prop where
 get:∀s v,e.get s=some v->a.tmps[s]? =some v
theorem c9.ev{e:Env}{a:Act}(h:c9 e a){x:Operand}{v:Y}(hx:ev e x=some v):a.eval x=v:=by
 cases x with
 |tmp t=>
  have:=h.get t v hx;simp[Act.eval,Array.getD_eq_getD_getElem?,this]
 |const c=>simpa[aQ.ev,Act.eval] using hx
 |global g=>simpa[aQ.ev,Act.eval] using hx
 |func f=>simpa[aQ.ev,Act.eval] using hx
theorem c9.ro{e:Env}{a:Act}(h:c9 e a){x:Operand}(hx:(aQ.ev e x).isSome=true):a.eval x=ro e x:=by
 obtain⟨v,b⟩:=nz.1 hx;rw[h.ev b,aQ.ro,b];rfl
def c3(d:aq Nat)(v:Y)(e:Env):Env:=
 match d with
 |some d=>(d,v)::e
 |none=>e
theorem mn(d:Nat)(v:Y)(e:Env)(s:Nat):Env.get ((d,v)::e) s=if d=s then some v else e.get s:=by
 simp only[Env.get,cond_eq_ite];by_cases a:d=s
 .subst a;simp
 .have:Nat.beq d s=false:=by
   cases b:Nat.beq d s
   .rfl
   .exact absurd (g2 b) a
  simp[this,a]
theorem c9.put{e:Env}{a:Act}(h:c9 e a){d:aq Nat}{v:Y}(hd:∀k,d=some k->k<a.tmps.size):c9 (c3 d v e) (a.put d v):=by
 cases d with
 |none=>exact h
 |some d=>
  constructor;intro s u hs;rw[c3,mn]at hs;simp only[Act.put];by_cases b:d=s
  .subst b
   simp only[if_true,Option.some.injEq]at hs;subst hs;simp[hd d rfl]
  .rw[if_neg b]at hs
   rw[Array.getElem?_setIfInBounds_ne b];exact h.get s u hs
inductive dv where
 |one (k:Kd)
 |eM (ks:O Kd)
def gW(r:dv)(K:Y->Prop):Prop:=
 match r with
 | .one k=>uK k K
 | .eM ks=>rq ks λvs=>K (.tuple vs.toArray)
theorem g6{r:dv}{K:Y->Prop}(h:gW r K):∃v,K v:=by
 cases r with
 |one k=>exact xq h
 |eM ks=>obtain⟨_,h⟩:=uL h;exact⟨_,h⟩
def bz(w:J)(A:ah):Nat->Nat->aq (O Y)
 |_,0=>some []
 |i,n+1=>match w.cell? (A.add i),bz w A (i+1) n with
  |some v,some vs=>some (v::vs)
  |_,_=>none
def setCells(w:J)(A:ah):Nat->O Y->J
 |_,[]=>w
 |i,v::vs=>setCells (w.setCell (A.add i) v) A (i+1) vs
def Plain:Y->Prop
 | .agg _=>False
 | .tuple _=>False
 |_=>True
def bj(w:J)(A:ah)(vs:O Y):Prop:=
 (∀i,i<vs.length->(w.cell? (A.add i)).isSome=true/\w.frozen? (A.add i)=false)/\∀v∈vs,Plain v
def gG:TypeDesc->an
 | .struct _=>true
 | .array _ _=>true
 |_=>false
def gx(P:Program)(elem:TypeId)(n:Nat):Array Y:=
 let zero:=if n*P.cellsOf elem=0 then #[] else (((P.info? elem).bind (·.zero)).getD undef).cells
 (Array.range (n*P.cellsOf elem)).map (zero[· %zero.size]!)
section
variable {P:Program}{w:J}
theorem cW{t:TypeId}{d:TypeDesc}(h:P.underlying t=some d):(underlying t).run P w=.ok d w:=by
 simp[underlying,program,Sem.run,bind,Sem.bind,h,pure]
theorem mo{t:TypeId}{d:TypeInfo}(h:P.info? t=some d):(typeInfo t).run P w=.ok d w:=by
 simp[typeInfo,program,Sem.run,bind,Sem.bind,h,pure]
theorem info_of_underlying{t:TypeId}{d:TypeDesc}(h:P.underlying t=some d):∃i,P.info? t=some i:=by
 unfold Program.underlying at h
 cases hi:P.info? t with
 |none=>simp[hi]at h
 |some i=>exact⟨i,rfl⟩
theorem gH{t:TypeId}{d:TypeDesc}(h:P.underlying t=some d):(Go.sizeOf t).run P w=.ok (P.cellsOf t) w:=by
 obtain⟨i,hi⟩:=info_of_underlying h;simp[Go.sizeOf,mo hi,Program.cellsOf,hi]
theorem nL{t:TypeId}{d:TypeDesc}(h:P.underlying t=some d):(isAgg t).run P w=.ok (gG d) w:=by
 simp only[isAgg,Sem.run_bind,cW h,Result.andThen]
 cases d<;>rfl
theorem uM{A:ah}{v:Y}(h:w.cell? A=some v):(load A).run P w=.ok v w:=by
 simp[load,Sem.run,h]
theorem run_loadCellsFrom{A:ah}:∀ (n i:Nat) (acc:Array Y) (vs:O Y),bz w A i n=some vs->
 (loadCellsFrom A i n acc).run P w=.ok (acc++vs.toArray) w
 |0,i,acc,vs,h=>by
  simp only[bz,Option.some.injEq]at h
  subst h
  simp[loadCellsFrom]
 |n+1,i,acc,vs,h=>by
  simp only[bz]at h
  cases h1:w.cell? (A.add i) with
  |none=>simp[h1]at h
  |some v=>
   cases a:bz w A (i+1) n with
   |none=>simp[h1,a]at h
   |some us=>
    simp only[h1,a,Option.some.injEq]at h
    subst h
    simp only[loadCellsFrom,Sem.run_bind,uM h1,Result.andThen]
    rw[run_loadCellsFrom n (i+1) (acc.push v) us a]
    simp
theorem rr{T:TypeId}{d:TypeDesc}(a:P.underlying T=some d)(hd:gG d=true){A:ah}{vs:O Y}(h:bz w A 0 (P.cellsOf T)=some vs):
 (loadVar T A).run P w=.ok (.agg vs.toArray) w:=by
 simp only[loadVar,Sem.run_bind,nL a,Result.andThen,hd,if_true,gH a,loadCells,run_loadCellsFrom _ _ _ _ h];simp
theorem xr{T:TypeId}{d:TypeDesc}(a:P.underlying T=some d)(hd:gG d=false){A:ah}{v:Y}(h:w.cell? A=some v):
 (loadVar T A).run P w=.ok v w:=by
 simp only[loadVar,Sem.run_bind,nL a,Result.andThen,hd,fC,if_false,uM h]
theorem By{A:ah}{v u:Y}(a:Plain v)(h:w.cell? A=some u)(hf:w.frozen? A=false):(store A v).run P w=.ok () (w.setCell A v):=by
 cases v<;>simp_all [store,Sem.run,Plain]
theorem Bz(w:J)(A B:ah)(v:Y):((w.setCell A v).cell? B).isSome=(w.cell? B).isSome:=by
 simp only[World.setCell,World.cell?,q6];by_cases a:A.block=B.block
 .simp only[a,if_true]
  cases w.heap[B.block]? with
  |none=>rfl
  |some o=>
   cases o<;>simp
   by_cases hs:B.spot.isSome<;>simp[hs]
   by_cases b:A.spot.isSome<;>simp[b]
   rw[fD];simp
 .simp[a]
theorem BA(w:J)(A B:ah)(v:Y):(w.setCell A v).frozen? B=w.frozen? B:=by
 simp only[World.setCell,World.frozen?,q6];by_cases a:A.block=B.block
 .simp only[a,if_true]
  cases w.heap[B.block]? with
  |none=>rfl
  |some o=>cases o<;>rfl
 .simp[a]
theorem pH{A:ah}:∀ (vs:O Y) (i:Nat) (w:J),(∀j,j<vs.length->(w.cell? (A.add (i+j))).isSome=true/\w.frozen? (A.add (i+j))=false)->(∀v∈vs,Plain v)->
 (storeCells A vs i).run P w=.ok () (setCells w A i vs)
 | [],i,w,_,_=>rfl
 |v::vs,i,w,h,a=>by
  have h0:=h 0 (by simp)
  simp only[kf]at h0
  obtain⟨u,hu⟩:=nz.1 h0.1
  simp only[storeCells,Sem.run_bind,By (P:=P) (a v (by simp)) hu h0.2,Result.andThen,setCells]
  refine pH vs (i+1) (w.setCell (A.add i) v) (λj b=>?_) (λx hx=>a x (by simp[hx]))
  have:=h (j+1) (by simp;omega)
  rw[Bz,BA,show i+1+j=i+(j+1) from I]
  exact this
theorem xt{T:TypeId}{d:TypeDesc}(a:P.underlying T=some d){A:ah}{v:Y}(hs:v.cells.size=P.cellsOf T)(h:bj w A v.cells.toList):
 (storeVar T A v).run P w=.ok () (setCells w A 0 v.cells.toList):=by
 simp only[storeVar,Sem.run_bind,gH a,Result.andThen,hs,ne_eq,not_true,if_false];simpa using pH v.cells.toList 0 w (by simpa using h.1) h.2
end
def uN:O cD->ah->Nat->J->(O Y->Prop)->Prop
 | [],_,_,_,K=>K []
 |l::ls,A,i,w,K=>mm l λv=>w.cell? (A.add i)=some v/\uN ls A (i+1) w λvs=>K (v::vs)
def nM(P:Program)(tk:TypeId->dv)(T:TypeId)(A:ah)(w:J)(K:Y->Prop):Prop:=
 match P.underlying T with
 |none=>False
 |some d=>
  bif gG d then
   match tk T with
   | .one (.flat ls)=>bif Nat.beq (P.cellsOf T) ls.length then uN ls A 0 w λvs=>K (.agg vs.toArray) else False
   |_=>∃cs:O Y,bz w A 0 (P.cellsOf T)=some cs/\K (.agg cs.toArray)
  else
   match tk T with
   | .one (.one l)=>mm l λv=>w.cell? A=some v/\K v
   |_=>False
def uO(P:Program)(tk:TypeId->dv)(T:TypeId)(A:ah)(x:Y)(w:J)(K:J->Prop):Prop:=
 match P.underlying T with
 |none=>False
 |some d=>
  bif gG d then
   match x with
   | .agg cs=>bj w A cs.toList/\cs.size=P.cellsOf T/\K (setCells w A 0 cs.toList)
   |_=>False
  else bif Nat.beq (P.cellsOf T) 1 then
   match tk T with
   | .one (.one .any)=>Plain x/\(∃u,w.cell? A=some u)/\w.frozen? A=false/\K (w.setCell A x)
   |_=>match x with
    | .agg _=>False
    | .tuple _=>False
    |_=>(∃u,w.cell? A=some u)/\w.frozen? A=false/\K (w.setCell A x)
  else False
def iQ(P:Program)(T:TypeId)(xs ys:Array Y)(b:an):Prop:=
 P.eqGuardType P.depth T=false/\∀w,(Op.equal T (.agg xs) (.agg ys)).run P w=.ok b w
def mq:Y->aq an
 | .nilIface=>some true
 | .iface _ _=>some false
 |_=>none
def mu:aq TypeDesc->an
 |some (.interface _)=>true
 |_=>false
def kM:aq TypeDesc->an
 |some (.pointer _)=>true
 |_=>false
def lv:aq TypeDesc->an
 |some (.slice _)=>true
 |_=>false
def nN:aq TypeDesc->an
 |some (.map _ _)=>true
 |_=>false
def iR:IntKind->IntKind->an:=λa b=>decide (a=b)
def ru(P:Program)(op:BinOp)(T:TypeId)(x y:Y)(K:Y->Prop)(G:Prop):Prop:=
 match y with
 | .nilIface=>bif mu (P.underlying T) then
  match op with
  | .eql=>∃b,mq x=some b/\K (.bool b)
  | .neq=>∃b,mq x=some b/\K (.bool (!b))
  |_=>False
  else False
 | .pointer none=>bif kM (P.underlying T) then
  match op,x with
  | .eql,.pointer p=>K (.bool p.isNone)
  | .neq,.pointer p=>K (.bool (!p.isNone))
  |_,_=>False
  else False
 | .slice none _ _=>bif lv (P.underlying T) then
  match op,x with
  | .eql,.slice a _ _=>K (.bool a.isNone)
  | .neq,.slice a _ _=>K (.bool (!a.isNone))
  |_,_=>False
  else False
 | .map none=>bif nN (P.underlying T) then
  match op,x with
  | .eql,.map r=>K (.bool r.isNone)
  | .neq,.map r=>K (.bool (!r.isNone))
  |_,_=>False
  else False
 | .agg ys=>
  match op,x with
  | .eql,.agg xs=>∃b,iQ P T xs ys b/\K (.bool b)
  | .neq,.agg xs=>∃b,iQ P T xs ys b/\K (.bool (!b))
  |_,_=>False
 | .int c b=>
  match op,x with
  | .quo,.int k a=>bif iR k c then b≠0/\K (.int k (k.wrap (a.tdiv b))) else False
  | .rem,.int k a=>bif iR k c then b≠0/\K (.int k (a.tmod b)) else False
  | .shl,.int k a=>0<=b/\K (.int k (k.wrap (a*2^(min b.toNat k.bits))))
  | .shr,.int k a=>0<=b/\K (.int k (a.fdiv (2^(min b.toNat k.bits))))
  |_,_=>G
 | .bool b=>match P.underlying T with
  |some .bool=>match op,x with
   | .eql,.bool a=>K (.bool (a==b))
   | .neq,.bool a=>K (.bool (!(a==b)))
   |_,_=>False
  |_=>False
 | .string b=>
  match op,x with
  | .add,.string a=>((a.size+b.size:Nat):Int)<=9223372036854775807/\K (.string (a++b))
  |_,_=>G
 |_=>G
section
variable {P:Program}
theorem nO(T:TypeId)(x y:Y):Op.equal T x y=Op.equalIn (9999+1) T x y:=rfl
theorem BB(d:Nat){T:TypeId}{x:Y}{b:an}(a:mu (P.underlying T)=true)(h:mq x=some b)(w:J):
 (Op.equalIn (d+1) T x .nilIface).run P w=.ok b w:=by
 cases hu:P.underlying T with
 |none=>simp[hu,mu]at a
 |some d=>
  cases d<;>simp only[hu,mu,fC]at a
  simp only[Op.equalIn,Sem.run_bind,cW hu,Result.andThen]
  cases x<;>simp only[mq,reduceCtorEq,Option.some.injEq]at h<;>subst h<;>rfl
theorem BC(d:Nat){T:TypeId}{p:aq ah}(a:kM (P.underlying T)=true)(w:J):
 (Op.equalIn (d+1) T (.pointer p) (.pointer none)).run P w=.ok p.isNone w:=by
 cases hu:P.underlying T with
 |none=>simp[hu,kM]at a
 |some d=>
  cases d<;>simp only[hu,kM,fC]at a
  simp only[Op.equalIn,Sem.run_bind,cW hu,Result.andThen]
  cases p<;>rfl
theorem BD(d:Nat){T:TypeId}{a:aq ah}{l c e c':Nat}(b:lv (P.underlying T)=true)(w:J):
 (Op.equalIn (d+1) T (.slice a l c) (.slice none e c')).run P w=.ok a.isNone w:=by
 cases hu:P.underlying T with
 |none=>simp[hu,lv]at b
 |some d=>
  cases d<;>simp only[hu,lv,fC]at b
  simp only[Op.equalIn,Sem.run_bind,cW hu,Result.andThen]
  cases a<;>rfl
theorem BE(d:Nat){T:TypeId}{r:aq Nat}(a:nN (P.underlying T)=true)(w:J):
 (Op.equalIn (d+1) T (.map r) (.map none)).run P w=.ok r.isNone w:=by
 cases hu:P.underlying T with
 |none=>simp[hu,nN]at a
 |some d=>
  cases d<;>simp only[hu,nN,fC]at a
  simp only[Op.equalIn,Sem.run_bind,cW hu,Result.andThen]
  cases r<;>rfl
theorem xu{T:TypeId}{x:Y}{b:an}(a:mu (P.underlying T)=true)(h:mq x=some b)(w:J):
 (Op.equal T x .nilIface).run P w=.ok b w:=by rw[nO];exact BB _ a h w
theorem rv{T:TypeId}{p:aq ah}(a:kM (P.underlying T)=true)(w:J):
 (Op.equal T (.pointer p) (.pointer none)).run P w=.ok p.isNone w:=by rw[nO];exact BC _ a w
theorem ry{T:TypeId}{a:aq ah}{l c b c':Nat}(d:lv (P.underlying T)=true)(w:J):
 (Op.equal T (.slice a l c) (.slice none b c')).run P w=.ok a.isNone w:=by rw[nO];exact BD _ d w
theorem xv{T:TypeId}{r:aq Nat}(a:nN (P.underlying T)=true)(w:J):
 (Op.equal T (.map r) (.map none)).run P w=.ok r.isNone w:=by rw[nO];exact BE _ a w
theorem xw{T:TypeId}{xs ys:Array Y}(h:P.eqGuardType P.depth T=false)(op:BinOp)(x y:Operand)(w:J):
 (eqGuard op T x y (.agg xs) (.agg ys)).run P w=.ok () w:=by
 cases op<;>simp[eqGuard,program,Sem.run,bind,Sem.bind,h,pure]
theorem xx{T:TypeId}{a b:an}(c:P.underlying T=some .bool)(w:J):(Op.equal T (.bool a) (.bool b)).run P w=.ok (a==b) w:=by
 have e:∀ (d:Nat) (w:J),(Op.equalIn (d+1) T (.bool a) (.bool b)).run P w=.ok (a==b) w:=by
  intro d w;simp[Op.equalIn,cW c]
 rw[nO];exact e _ w
theorem xy{op:BinOp}{T:TypeId}{x y:Y}{pI nP:Operand}{K:Y->Prop}{G:Prop}
 (l:y=.nilIface->∃c,nP=.const c)
 (h:ru P op T x y K G):
 G\/∃v,(∀w,(do eqGuard op T pI nP x y;binOp op T x y:Sem Y).run P w=.ok v w)/\K v:=by
 unfold ru at h;split at h
 case h_1=>
  obtain⟨c,hc⟩:=l rfl;by_cases d:mu (P.underlying T)=true
  .rw[d]at h
   simp only[cond_true]at h;split at h
   .obtain⟨b,e,f⟩:=h
    refine .inr ⟨_,λw=>?_,f⟩;have:=xu (P:=P) d e w
    cases x<;>simp only[mq,reduceCtorEq,Option.some.injEq]at e<;>subst hc e<;>simp[eqGuard,binOp,this]
   .obtain⟨b,e,f⟩:=h
    refine .inr ⟨_,λw=>?_,f⟩;have:=xu (P:=P) d e w
    cases x<;>simp only[mq,reduceCtorEq,Option.some.injEq]at e<;>subst hc e<;>simp[eqGuard,binOp,this]
   .exact h.elim
  .simp only[e8]at d;rw[d]at h;exact h.elim
 case h_2=>
  by_cases d:kM (P.underlying T)=true
  .rw[d]at h
   simp only[cond_true]at h;split at h
   .exact .inr ⟨_,λw=>by simp[eqGuard,binOp,rv (P:=P) d],h⟩
   .exact .inr ⟨_,λw=>by simp[eqGuard,binOp,rv (P:=P) d],h⟩
   .exact h.elim
  .simp only[e8]at d;rw[d]at h;exact h.elim
 case h_3=>
  by_cases d:lv (P.underlying T)=true
  .rw[d]at h
   simp only[cond_true]at h;split at h
   .exact .inr ⟨_,λw=>by simp[eqGuard,binOp,ry (P:=P) d],h⟩
   .exact .inr ⟨_,λw=>by simp[eqGuard,binOp,ry (P:=P) d],h⟩
   .exact h.elim
  .simp only[e8]at d;rw[d]at h;exact h.elim
 case h_4=>
  by_cases d:nN (P.underlying T)=true
  .rw[d]at h
   simp only[cond_true]at h;split at h
   .exact .inr ⟨_,λw=>by simp[eqGuard,binOp,xv (P:=P) d],h⟩
   .exact .inr ⟨_,λw=>by simp[eqGuard,binOp,xv (P:=P) d],h⟩
   .exact h.elim
  .simp only[e8]at d;rw[d]at h;exact h.elim
 case h_5=>
  split at h
  .obtain⟨b,⟨h1,i⟩,f⟩:=h
   exact .inr ⟨_,λw=>by simp[xw h1,binOp,i],f⟩
  .obtain⟨b,⟨h1,i⟩,f⟩:=h
   exact .inr ⟨_,λw=>by simp[xw h1,binOp,i],f⟩
  .exact h.elim
 case h_6 j b=>
  split at h
  .rename_i k a
   by_cases g:k=j
   .subst g
    simp only[iR,decide_true,cond_true]at h;exact .inr ⟨_,λw=>by simp[eqGuard,binOp,Op.intDiv,h.1],h.2⟩
   .simp[iR,g]at h
  .rename_i k a
   by_cases g:k=j
   .subst g
    simp only[iR,decide_true,cond_true]at h;exact .inr ⟨_,λw=>by simp[eqGuard,binOp,Op.intDiv,h.1],h.2⟩
   .simp[iR,g]at h
  .exact .inr ⟨_,λw=>by simp[eqGuard,binOp,Op.shift,show¬b<0 from I],h.2⟩
  .exact .inr ⟨_,λw=>by simp[eqGuard,binOp,Op.shift,show¬b<0 from I],h.2⟩
  .exact .inl h
 case h_7 b=>
  split at h
  .rename_i d
   split at h
   .exact .inr ⟨_,λw=>by simp[eqGuard,binOp,xx d],h⟩
   .exact .inr ⟨_,λw=>by simp[eqGuard,binOp,xx d],h⟩
   .exact h.elim
  .exact h.elim
 case h_8 b=>
  split at h
  .rename_i a
   refine .inr ⟨_,λw=>?_,h.2⟩;have h1:=h.1;simp[eqGuard,binOp,Op.stringOp,IntKind.max,IntKind.signed,IntKind.bits];omega
  .exact .inl h
 case h_9=>exact .inl h
end
def rz(P:Program)(T:TypeId)(x:Y)(K:Y->Prop):Prop:=
 match P.underlying T with
 |some (.array n _)=>match x with
  | .slice a len _=>n<=len/\∃A,a=some A/\K (.pointer (some A))
  |_=>False
 |_=>False
def rA(P:Program)(T:TypeId)(x i:Y)(K:Y->Prop):Prop:=
 match i with
 | .int _ n=>
  match P.underlying T with
  |some (.slice elem)=>bif (P.underlying elem).isSome then
   match x with
   | .slice a len _=>∃A,a=some A/\(0<=n/\n<(len:Int))/\K (.pointer (some (A.add (n.toNat*P.cellsOf elem))))
   |_=>False
   else False
  |some (.array len elem)=>bif (P.underlying elem).isSome then
   match x with
   | .pointer (some A)=>(0<=n/\n<(len:Int))/\K (.pointer (some (A.add (n.toNat*P.cellsOf elem))))
   |_=>False
   else False
  |_=>False
 |_=>False
def pJ(P:Program)(tk:TypeId->dv)(T:TypeId)(cs:Array Y)(off:Nat)(K:Y->Prop):Prop:=
 match P.underlying T with
 |none=>False
 |some d=>
  bif gG d then K (.agg (cs.extract off (off+P.cellsOf T)))
  else match tk T with
   | .one (.one l)=>mm l λv=>cs[off]? =some v/\K v
   |_=>False
def rB(P:Program)(tk:TypeId->dv)(T:TypeId)(x i:Y)(K:Y->Prop):Prop:=
 match i with
 | .int _ n=>
  match P.underlying T with
  |some (.array len elem)=>match x with
   | .agg cs=>(0<=n/\n<(len:Int))/\pJ P tk elem cs (n.toNat*P.cellsOf elem) K
   |_=>False
  |some .string=>match x with
   | .string s=>0<=n/\∃b:UInt8,s.data.toList[n.toNat]? =some b/\K (.int .u8 b.toNat)
   |_=>False
  |_=>False
 |_=>False
def rC(P:Program)(tk:TypeId->dv)(T:TypeId)(x:Y)(i:Nat)(K:Y->Prop):Prop:=
 match P.underlying T with
 |some (.struct fs)=>match fs[i]? with
  |some f=>match x with
   | .agg cs=>pJ P tk f.type cs f.offset K
   |_=>False
  |none=>False
 |_=>False
def jR(v:aq Y)(y d:Nat)(K:Nat->Prop):Prop:=
 match v with
 |none=>K d
 |some (.int _ i)=>(0<=i/\i<=(y:Int))/\K i.toNat
 |_=>False
def aJ(a:aq ah)(sz l m:Nat):aq ah:=if m=l then a else a.map (·.add (l*sz))
def rD(P:Program)(T:TypeId)(x:Y)(lo hi b:aq Y)(K:Y->Prop):Prop:=
 match P.underlying T with
 |some .string=>match b,x with
  |none,.string s=>jR hi s.size s.size λh=>jR lo h 0 λl=>K (.string (s.extract l h))
  |_,_=>False
 |some (.slice elem)=>bif (P.underlying elem).isSome then
  match x with
  | .slice a len cap=>match b with
   |none=>jR hi cap len λh=>jR lo h 0 λl=>K (.slice (aJ a (P.cellsOf elem) l cap) (h-l) (cap-l))
   |some c=>match hi with
    |none=>False
    |some d=>jR (some c) cap 0 λm=>jR (some d) m 0 λh=>jR lo h 0 λl=>K (.slice (aJ a (P.cellsOf elem) l m) (h-l) (m-l))
  |_=>False
  else False
 |some (.array n elem)=>bif (P.underlying elem).isSome then
  match b,x with
  |none,.pointer (some A)=>jR hi n n λh=>jR lo h 0 λl=>K (.slice (aJ (some A) (P.cellsOf elem) l n) (h-l) (n-l))
  |_,_=>False
  else False
 |_=>False
def uP(P:Program)(T:TypeId)(l c:Y)(w:J)(K:Y->J->Prop):Prop:=
 match P.underlying T with
 |some (.slice elem)=>bif (P.underlying elem).isSome then
  bif ((P.info? elem).bind (·.zero)).isSome then
  match l,c with
  | .int _ n,.int _ m=>(0<=n/\n<=m/\m<=9223372036854775807/\(P.bytesOf elem:Int)*m<=140737488355328)/\
   K (.slice (some ⟨w.heap.size,0,none⟩) n.toNat m.toNat) {w with heap:=w.heap.push (.cells (gx P elem m.toNat) elem)}
  |_,_=>False
  else False
  else False
 |_=>False
section
variable {P:Program}{w:J}
theorem jr(o:aq TypeDesc)(h:o.isSome=true):∃d,o=some d:=nz.1 h
theorem xz{T:TypeId}{x:Y}{K:Y->Prop}(h:rz P T x K):∃v,(∀w,(Instr.arrayAt T x).run P w=.ok v w)/\K v:=by
 unfold rz at h;split at h
 .rename_i n e b
  split at h
  .rename_i a len cap
   obtain⟨h1,A,rfl,c⟩:=h;exact⟨_,λw=>by simp[Instr.arrayAt,cW b,Nat.not_lt.2 h1],c⟩
  .exact h.elim
 .exact h.elim
theorem xA{T:TypeId}{x i:Y}{K:Y->Prop}(h:rA P T x i K):∃v,(∀w,(Instr.indexAt T x i).run P w=.ok v w)/\K v:=by
 unfold rA at h;split at h
 .rename_i k n
  split at h
  .rename_i elem a
   by_cases he:(P.underlying elem).isSome=true
   .rw[he]at h
    simp only[cond_true]at h;split at h
    .obtain⟨A,rfl,b,c⟩:=h
     obtain⟨d,hd⟩:=jr _ he;exact⟨_,λw=>by simp[Instr.indexAt,asIntOf,cW a,b,gH hd],c⟩
    .exact h.elim
   .simp only[e8]at he;rw[he]at h;exact h.elim
  .rename_i len elem a
   by_cases he:(P.underlying elem).isSome=true
   .rw[he]at h
    simp only[cond_true]at h;split at h
    .obtain⟨b,c⟩:=h
     obtain⟨d,hd⟩:=jr _ he;exact⟨_,λw=>by simp[Instr.indexAt,asIntOf,Instr.sureAddr,cW a,b,gH hd],c⟩
    .exact h.elim
   .simp only[e8]at he;rw[he]at h;exact h.elim
  .exact h.elim
 .exact h.elim
theorem xB{tk:TypeId->dv}{T:TypeId}{cs:Array Y}{off:Nat}{K:Y->Prop}(h:pJ P tk T cs off K):∃v,(∀w,(part T cs off).run P w=.ok v w)/\K v:=by
 unfold pJ at h;split at h
 .exact h.elim
 .rename_i d a
  cases hd:gG d with
  |true=>
   rw[hd]at h;exact⟨_,λw=>by simp[part,nL a,hd,gH a],h⟩
  |false=>
   rw[hd]at h;simp only[cond_false]at h;split at h
   .obtain⟨v,b,c⟩:=nK h
    exact⟨v,λw=>by simp[part,nL a,hd,b],c⟩
   .exact h.elim
theorem xC{tk:TypeId->dv}{T:TypeId}{x i:Y}{K:Y->Prop}(h:rB P tk T x i K):∃v,(∀w,(Instr.index T x i).run P w=.ok v w)/\K v:=by
 unfold rB at h;split at h
 .rename_i k n
  split at h
  .rename_i len elem a
   split at h
   .obtain⟨c,h⟩:=h
    obtain⟨v,f,e⟩:=xB h;refine⟨v,λw=>?_,e⟩;have hs:(Go.sizeOf elem).run P w=.ok (P.cellsOf elem) w:=by
     unfold pJ at h
     cases he:P.underlying elem with
     |none=>simp[he]at h
     |some d=>exact gH he
    simp[Instr.index,asIntOf,cW a,c,hs,f]
   .exact h.elim
  .rename_i a
   split at h
   .rename_i s
    obtain⟨c,b,hs,e⟩:=h;have g:s[n.toNat]? =some b:=by
     obtain⟨h1,j⟩:=jQ.1 hs;have l:n.toNat<s.size:=by simpa using h1
     rw[getElem?_pos s n.toNat l];simp only[Option.some.injEq];rw[←j];rfl
    exact⟨_,λw=>by simp[Instr.index,asIntOf,cW a,c,g],e⟩
   .exact h.elim
  .exact h.elim
 .exact h.elim
theorem xD{tk:TypeId->dv}{T:TypeId}{x:Y}{i:Nat}{K:Y->Prop}(h:rC P tk T x i K):∃v,(∀w,(Instr.field T x i).run P w=.ok v w)/\K v:=by
 unfold rC at h;split at h
 .rename_i fs a
  split at h
  .rename_i f hf
   split at h
   .obtain⟨v,b,c⟩:=xB h
    exact⟨v,λw=>by simp[Instr.field,cW a,hf,asAgg,b],c⟩
   .exact h.elim
  .exact h.elim
 .exact h.elim
theorem js{v:aq Y}{y d:Nat}{c:BoundsCode}{K:Nat->Prop}(h:jR v y d K):
 (v=none/\K d)\/∃u n,v=some u/\(∀w,(Instr.sliceBound u y c).run P w=.ok n w)/\K n:=by
 unfold jR at h;split at h
 .exact .inl ⟨rfl,h⟩
 .exact .inr ⟨_,_,rfl,λw=>by simp[Instr.sliceBound,asIntOf,h.1],h.2⟩
 .exact h.elim
theorem xE{T:TypeId}{x:Y}{lo hi p:aq Y}{K:Y->Prop}(h:rD P T x lo hi p K):
 ∃v,(∀w,(Instr.sliceAt T x lo hi p).run P w=.ok v w)/\K v:=by
 unfold rD at h;split at h
 .rename_i g
  split at h
  .rename_i s
   rcases js (P:=P) (c:=.sliceAlen) h with ⟨f,h1⟩|⟨u,n,f,j,h1⟩
   .rcases js (P:=P) (c:=.sliceB) h1 with ⟨b,e⟩|⟨m,bf,b,i,e⟩
    .exact⟨_,λw=>by simp[Instr.sliceAt,Instr.slice,cW g,Instr.sliceBounds,f,b],e⟩
    .exact⟨_,λw=>by simp[Instr.sliceAt,Instr.slice,cW g,Instr.sliceBounds,f,b,i],e⟩
   .rcases js (P:=P) (c:=.sliceB) h1 with ⟨b,e⟩|⟨m,bf,b,i,e⟩
    .exact⟨_,λw=>by simp[Instr.sliceAt,Instr.slice,cW g,Instr.sliceBounds,f,b,j],e⟩
    .exact⟨_,λw=>by simp[Instr.sliceAt,Instr.slice,cW g,Instr.sliceBounds,f,b,j,i],e⟩
  .exact h.elim
 .rename_i elem g
  by_cases he:(P.underlying elem).isSome=true
  .rw[he]at h
   simp only[cond_true]at h;obtain⟨d,hd⟩:=jr _ he;have k:=λw:J=>gH (w:=w) hd;split at h
   .rename_i a len cap
    split at h
    .rcases js (P:=P) (c:=.sliceAcap) h with ⟨f,h1⟩|⟨u,n,f,j,h1⟩
     .rcases js (P:=P) (c:=.sliceB) h1 with ⟨b,e⟩|⟨m,bf,b,i,e⟩
      .exact⟨_,λw=>by simp[Instr.sliceAt,Instr.slice,cW g,Instr.sliceBounds,k,aJ,f,b],e⟩
      .exact⟨_,λw=>by simp[Instr.sliceAt,Instr.slice,cW g,Instr.sliceBounds,i,k,aJ,f,b],e⟩
     .rcases js (P:=P) (c:=.sliceB) h1 with ⟨b,e⟩|⟨m,bf,b,i,e⟩
      .exact⟨_,λw=>by simp[Instr.sliceAt,Instr.slice,cW g,Instr.sliceBounds,j,k,aJ,f,b],e⟩
      .exact⟨_,λw=>by simp[Instr.sliceAt,Instr.slice,cW g,Instr.sliceBounds,j,i,k,aJ,f,b],e⟩
    .split at h
     .exact h.elim
     .rcases js (P:=P) (c:=.slice3Acap) h with ⟨l,h1⟩|⟨u,n,l,j,h1⟩
      .cases l
      .cases l
       rcases js (P:=P) (c:=.slice3B) h1 with ⟨l,e⟩|⟨r,bM,l,q,e⟩
       .cases l
       .cases l
        rcases js (P:=P) (c:=.slice3C) e with ⟨b,o⟩|⟨m,bf,b,i,o⟩
        .exact⟨_,λw=>by simp[Instr.sliceAt,Instr.slice,cW g,Instr.sliceBounds,j,q,k,aJ,b],o⟩
        .exact⟨_,λw=>by simp[Instr.sliceAt,Instr.slice,cW g,Instr.sliceBounds,j,q,i,k,aJ,b],o⟩
   .exact h.elim
  .simp only[e8]at he;rw[he]at h;exact h.elim
 .rename_i n elem g
  by_cases he:(P.underlying elem).isSome=true
  .rw[he]at h
   simp only[cond_true]at h;obtain⟨d,hd⟩:=jr _ he;have k:=λw:J=>gH (w:=w) hd;split at h
   .rename_i A
    rcases js (P:=P) (c:=.sliceAlen) h with ⟨f,h1⟩|⟨u,bM,f,j,h1⟩
    .rcases js (P:=P) (c:=.sliceB) h1 with ⟨b,e⟩|⟨m,bf,b,i,e⟩
     .refine⟨_,λw=>?_,e⟩
      simp[Instr.sliceAt,cW g,Instr.sureAddr,Instr.sliceBounds,k,aJ,f,b];try (split<;>rfl)
     .refine⟨_,λw=>?_,e⟩
      simp[Instr.sliceAt,cW g,Instr.sureAddr,Instr.sliceBounds,i,k,aJ,f,b];try (split<;>rfl)
    .rcases js (P:=P) (c:=.sliceB) h1 with ⟨b,e⟩|⟨m,bf,b,i,e⟩
     .refine⟨_,λw=>?_,e⟩
      simp[Instr.sliceAt,cW g,Instr.sureAddr,Instr.sliceBounds,j,k,aJ,f,b];try (split<;>rfl)
     .refine⟨_,λw=>?_,e⟩
      simp[Instr.sliceAt,cW g,Instr.sureAddr,Instr.sliceBounds,j,i,k,aJ,f,b];try (split<;>rfl)
   .exact h.elim
  .simp only[e8]at he;rw[he]at h;exact h.elim
 .exact h.elim
theorem uQ{n:Int}(h0:0<=n)(h1:n<=9223372036854775807):IntKind.i64.wrap n=n:=by
 have e:n%18446744073709551616=n:=Int.emod_eq_of_lt h0 I;simp[IntKind.wrap,IntKind.signed,IntKind.bits,e];omega
theorem BF{T:TypeId}{l c:Y}{K:Y->J->Prop}(h:uP P T l c w K):
 ∃v w',(Instr.makeSlice T l c).run P w=.ok v w'/\K v w':=by
 unfold uP at h;split at h
 .rename_i elem e
  by_cases he:(P.underlying elem).isSome=true
  .rw[he]at h
   simp only[cond_true]at h;by_cases a:((P.info? elem).bind (·.zero)).isSome=true
   .rw[a]at h
    simp only[cond_true]at h;split at h
    .rename_i k n t m
     obtain⟨⟨h0,h1,f,g⟩,j⟩:=h;obtain⟨d,hd⟩:=jr _ he;obtain⟨i,hi⟩:=info_of_underlying hd;obtain⟨z,b⟩:=nz.1 a;simp only[hi,Option.bind_some]at b;have o:P.bytesOf elem=i.bytes:=by simp[Program.bytesOf,hi]
     have hc:P.cellsOf elem=i.size:=by simp[Program.cellsOf,hi]
     rw[o]at g;have p:=uQ h0 I;have q:=uQ (n:=m) I f;refine⟨_,_,?_,j⟩;have r:¬(m<0):=by omega
     have s:¬(281474976710656<(i.bytes:Int)*m):=by omega
     simp[Instr.makeSlice,cW e,asInt,asIntOf,mo hi,p,q,r,s,gH hd,show¬n<0 from I,show¬m<n from I];by_cases hs:m.toNat*P.cellsOf elem=0
     .simp[hs,newRow,newObj,Sem.run,gx]
     .simp[zeroValue,mo hi,b,newRow,newObj,Sem.run,gx,hs,hi]
    .exact h.elim
   .simp only[e8]at a;rw[a]at h;exact h.elim
  .simp only[e8]at he;rw[he]at h;exact h.elim
 .exact h.elim
end
def al(w:J)(K:J->Prop):Prop:=K w
def uR(s:ByteArray)(n:Nat):aq UInt8:=s.data.toList[n]?
def cellAt(cs:Array Y)(n:Nat):aq Y:=cs[n]?
def h_(k:IntKind)(a b:Int):Int:=k.wrap ((BitVec.ofInt k.bits a&&&BitVec.ofInt k.bits b).toNat:Int)
def ly(k:IntKind)(a b:Int):Int:=k.wrap ((BitVec.ofInt k.bits a|||BitVec.ofInt k.bits b).toNat:Int)
def mv(k:IntKind)(a b:Int):Int:=k.wrap ((BitVec.ofInt k.bits a^^^BitVec.ofInt k.bits b).toNat:Int)
def xF(k:IntKind)(a b:Int):Int:=k.wrap ((BitVec.ofInt k.bits a&&&~~~BitVec.ofInt k.bits b).toNat:Int)
def pK(P:Program)(o:Oper)(K:Y->J->Prop)(e:Env)(w:J):Prop:=
 bif known e o.op.operands then
  match (execOp (ro e) o).run P w with
  | .ok (.value v) w'=>al w' λw1=>K v w1
  |_=>False
 else False
def xG(P:Program)(tk:TypeId->dv)(T:TypeId):dv:=
 match P.underlying T with
 |some (.slice e)=>tk e
 |_=>.one (.one .agg)
def cD.BG:cD->an
 | .slice=>true
 |_=>false
def xH:dv->an
 | .one (.one .agg)=>true
 | .one (.flat ls)=>ls.any cD.BG
 |_=>false
def gen(P:Program)(tk:TypeId->dv)(o:Oper)(K:Y->J->Prop)(e:Env)(w:J):Prop:=
 bif known e o.op.operands then
  match (execOp (ro e) o).run P w with
  | .ok (.value v) w'=>K v w'
  | .ok .skip w'=>K undef w'
  | .ok (.enter f args) w'=>Calls P f args w' λa b=>gW (tk o.type) λv=>a=.returned v/\K v b
  |_=>False
 else False
def iS(P:Program)(f:FuncId):Prop:=∃fn,P.funcs[f]? =some fn/\(fn.name== "runtime.NumGoroutine")=false/\fn.body.isNone=false
theorem xI{P:Program}{f:FuncId}(h:iS P f)(args:Array Y)(w:J):(callFunc f args).run P w=.ok (.enter f args) w:=by
 obtain⟨fn,h1,b,a⟩:=h;have c:¬fn.name= "runtime.NumGoroutine" :=by simpa using b
 have d:¬fn.body=none:=by
  intro h;rw[h]at a;cases a
 simp[callFunc,program,Sem.run,bind,Sem.bind,h1,c,d,pure]
def uS:Op->an
 | .select _ _=>true
 |_=>false
def xJ(P:Program)(T:TypeId):Operand->an
 | .const _=>false
 |_=>mu (P.underlying T)||kM (P.underlying T)
def BH(P:Program)(op:BinOp)(T:TypeId)(pI nP:Operand)(x y:Y)(b:an):Prop:=
 ∀w,Sem.run P (do eqGuard op T pI nP x y;binOp op T x y:Sem Y) w=.ok (.bool b) w
def nQ:Operand->Y->an
 | .const _,_=>true
 |_,.nilIface=>false
 |_,_=>true
def iz(P:Program)(tk:TypeId->dv)(o:Oper)(K:Y->J->Prop)(e:Env)(w:J):Prop:=
 match o.op with
 | .nilCheck x=>match ev e x with
  |some (.pointer p)=>∃A,p=some A/\K (.pointer (some A)) w
  |_=>False
 | .load T x=>match ev e x with
  |some (.pointer (some A))=>nM P tk T A w λv=>K v w
  |_=>False
 | .store T x y=>match ev e x,ev e y with
  |some (.pointer (some A)),some v=>uO P tk T A v w λw'=>al w' λw1=>K undef w1
  |_,_=>False
 | .binOp op T x y _=>match ev e x,ev e y with
  |some a,some u=>bif xJ P T y then (∃b:an,BH P op T x y a u b/\K (.bool b) w) else
   bif nQ y u then ru P op T a u (λv=>K v w) (gen P tk o K e w) else False
  |_,_=>False
 | .indexAddr T x i=>match ev e x,ev e i with
  |some a,some g=>rA P T a g λv=>K v w
  |_,_=>False
 | .index T x i=>match ev e x,ev e i with
  |some a,some g=>rB P tk T a g λv=>K v w
  |_,_=>False
 | .field T x i=>match ev e x with
  |some a=>rC P tk T a i λv=>K v w
  |_=>False
 | .alloc _=>pK P o K e w
 | .box _ _=>pK P o K e w
 | .buildSlice T n z=>bif xH (xG P tk T) then
  (bif known e o.op.operands then
    gW (tk o.type) λr=>∃w1,(Instr.buildSlice T n (z.map λp=>(p.1,ro e p.2))).run P w=.ok r w1/\K r w1
  else False)
  else pK P o K e w
 | .slice T x lo hi B=>bif known e o.op.operands then
  rD P T (ro e x) (lo.map (ro e)) (hi.map (ro e)) (B.map (ro e)) λv=>K v w
  else False
 | .makeSlice T l c=>match ev e l,ev e c with
  |some C,some D=>uP P T C D w λv w'=>al w' λw1=>K v w1
  |_,_=>False
 | .convert s d x=>match ev e x with
  |some (.int j n)=>bif (P.underlying s).isSome then
   match P.underlying d with
   |some (.int k)=>K (.int k (k.wrap n)) w
   |_=>gW (tk o.type) λr=>∃w1,(convert s d (.int j n)).run P w=.ok r w1/\K r w1
   else False
  |some v=>gW (tk o.type) λr=>∃w1,(convert s d v).run P w=.ok r w1/\K r w1
  |none=>False
 | .build t z=>match tk t with
  | .one (.flat _)=>gen P tk o K e w
  |_=>bif known e o.op.operands then
   ∃cs:Array Y,(Instr.build t (z.map λp=>(p.1,ro e p.2))).run P w=.ok (.agg cs) w/\K (.agg cs) w
   else False
 | .lookup T m i ok=>match ev e m,ev e i with
  |some h,some g=>gW (tk o.type) λr=>∃w1,(Instr.lookup T h g ok).run P w=.ok r w1/\K r w1
  |_,_=>False
 | .mapUpdate T m i x=>match ev e m,ev e i,ev e x with
  |some h,some g,some a=>∃w1,(Instr.mapUpdate T h g a).run P w=.ok () w1/\K undef w1
  |_,_,_=>False
 | .makeMap T r=>bif known e o.op.operands then gW (tk o.type) λv=>∃w1,(Instr.makeMap T (r.map (ro e))).run P w=.ok v w1/\K v w1 else False
 | .range T x=>match ev e x with
  |some a=>∃v w1,(Instr.range T a).run P w=.ok v w1/\K v w1
  |_=>False
 | .next it q=>match ev e it with
  |some a=>(bif q then ∃ (n:Int) (c:Int) (w1:J),(Instr.next a q o.type).run P w=.ok (.tuple #[.bool true,.int .i64 n,.int .i32 c]) w1/\K (.tuple #[.bool true,.int .i64 n,.int .i32 c]) w1
   else ∃ (k:Y) (v:Y) (w1:J),(Instr.next a q o.type).run P w=.ok (.tuple #[.bool true,k,v]) w1/\K (.tuple #[.bool true,k,v]) w1)\/
   (∃w1:J,(Instr.next a q o.type).run P w=.ok (.tuple #[.bool false]) w1/\K (.tuple #[.bool false]) w1)
  |_=>False
 | .call c=>match c.callee with
  | .value (.tmp k)=>match e.get k with
   |some (.func (.func f) pre cap)=>bif known e o.op.operands then
    iS P f/\Calls P f (pre++c.args.map (ro e)++cap) w λE w1=>gW (tk o.type) λv=>E=.returned v/\K v w1
    else False
   |_=>gen P tk o K e w
  | .builtin .append=>bif known e o.op.operands then gW (tk o.type) λr=>∃w1,(Builtin.append_ c.argTypes o.type (c.args.map (ro e))).run P w=.ok r w1/\K r w1 else False
  | .builtin .copy=>bif known e o.op.operands then gW (tk o.type) λr=>∃w1,(Builtin.copy_ c.argTypes o.type (c.args.map (ro e))).run P w=.ok r w1/\K r w1 else False
  | .builtin .min=>bif known e o.op.operands then gW (tk o.type) λr=>∃w1,(Builtin.min_ c.argTypes o.type (c.args.map (ro e))).run P w=.ok r w1/\K r w1 else False
  | .builtin .max=>bif known e o.op.operands then gW (tk o.type) λr=>∃w1,(Builtin.max_ c.argTypes o.type (c.args.map (ro e))).run P w=.ok r w1/\K r w1 else False
  | .builtin .delete=>bif known e o.op.operands then ∃r w1,(Builtin.delete_ c.argTypes o.type (c.args.map (ro e))).run P w=.ok r w1/\K r w1 else False
  | .value (.func f)=>match P.funcs[f]? with
   |some fn=>match fn.body with
    |some _=>gen P tk o K e w
    |none=>bif known e o.op.operands then gW (tk o.type) λr=>∃w1,(callFunc f (c.args.map (ro e))).run P w=.ok (.value r) w1/\K r w1 else False
   |none=>False
  | .builtin .unsafeString=>bif known e o.op.operands then gW (tk o.type) λr=>∃w1,(Builtin.unsafeString_ c.argTypes o.type (c.args.map (ro e))).run P w=.ok r w1/\K r w1 else False
  | .builtin .unsafeSliceData=>bif known e o.op.operands then gW (tk o.type) λr=>∃w1,(Builtin.unsafeSliceData_ c.argTypes o.type (c.args.map (ro e))).run P w=.ok r w1/\K r w1 else False
  | .builtin .clear=>bif known e o.op.operands then ∃r w1,(Builtin.clear_ c.argTypes o.type (c.args.map (ro e))).run P w=.ok r w1/\K r w1 else False
  | .builtin .len=>match ((c.args.map (ro e))[0]? :aq Y) with
   |some (Value.map _)=>bif known e o.op.operands then gW (tk o.type) λr=>∃w1,(Builtin.len_ c.argTypes o.type (c.args.map (ro e))).run P w=.ok r w1/\K r w1 else False
   |_=>gen P tk o K e w
  |_=>gen P tk o K e w
 | .sliceToArrayPointer T x=>match ev e x with
  |some a=>rz P T a λv=>K v w
  |_=>False
 | .mapEntry T m i=>match ev e m,ev e i with
  |some h,some g=>∃ (v0:Y) (st:Int) (w1:J),(Instr.mapEntry T h g).run P w=.ok (.tuple #[v0,.int .i64 st]) w1/\K (.tuple #[v0,.int .i64 st]) w1
  |_,_=>False
 | .entryStore T m s x=>match ev e m,ev e s,ev e x with
  |some h,some vs,some a=>∃w1,(Instr.entryStore T h vs a).run P w=.ok () w1/\K undef w1
  |_,_,_=>False
 | .entry it=>match ev e it with
  |some a=>gW (tk o.type) λv=>∃w1,(Instr.entry a).run P w=.ok v w1/\K v w1
  |_=>False
 | .select _ _=>False
 |_=>gen P tk o K e w
def kN(P:Program)(o:Oper)(a:Act)(w:J)(K:Y->J->Prop):Prop:=
 (∃v w',(execOp a.eval o).run P w=.ok (.value v) w'/\K v w')\/
 (∃w',(execOp a.eval o).run P w=.ok .skip w'/\K undef w')\/
 (∃f args w',(execOp a.eval o).run P w=.ok (.enter f args) w'/\Calls P f args w' λb c=>∃v,b=.returned v/\K v c)
theorem kN.wp{P:Program}{o:Oper}{a:Act}{w:J}{K:Y->J->Prop}{next:Act->J->Prop}{Q:Exit->Act->J->Prop}
 (h:kN P o a w K) (c:∀v w',K v w'->next (a.put o.dst v) w'):o.wp P a w next Q:=by
 unfold Oper.wp;rcases h with ⟨v,w',h,b⟩|⟨w',h,b⟩|⟨f,args,w',h,hc⟩
 .rw[h];exact c _ _ b
 .rw[h];exact c _ _ b
 .rw[h]
  exact hc.mono λe g ⟨v,d,b⟩=>by subst d;exact c _ _ b
section
variable {P:Program}{tk:TypeId->dv}{o:Oper}{K:Y->J->Prop}{e:Env}{a:Act}{w:J}
theorem BI(ar:c9 e a){xs:Array Operand}(h:known e xs=true):∀x∈xs,a.eval x=ro e x:=by
 intro x hx;exact ar.ro (nA.1 h x (by simpa using hx))
theorem jt(ar:c9 e a)(hs:uS o.op=false)(h:known e o.op.operands=true):execOp a.eval o=execOp (ro e) o:=
 execOp_congr o (λcs b hc=>by rw[hc]at hs;cases hs) (BI ar h)
theorem mw(ar:c9 e a)(hs:uS o.op=false)(h:gen P tk o K e w):kN P o a w K:=by
 unfold gen at h;by_cases c:known e o.op.operands=true
 .rw[c]at h
  simp only[cond_true]at h;have hc:=jt ar hs c;unfold kN;rw[hc];split at h
  .rename_i v w' b
   exact .inl ⟨v,w',b,h⟩
  .rename_i w' b
   exact .inr (.inl ⟨w',b,h⟩)
  .rename_i f args w' b
   refine .inr (.inr ⟨f,args,w',b,h.mono λg i d=>?_⟩);exact g6 d
  .exact h.elim
 .simp only[e8]at c
  rw[c]at h;exact h.elim
theorem uT(ar:c9 e a)(hs:uS o.op=false)(h:pK P o K e w):kN P o a w K:=by
 unfold pK at h;by_cases b:known e o.op.operands=true
 .rw[b]at h
  simp only[cond_true]at h;have hc:=jt ar hs b;unfold kN;rw[hc];split at h
  .rename_i v w' c
   exact .inl ⟨v,w',c,h⟩
  .exact h.elim
 .simp only[e8]at b
  rw[b]at h;exact h.elim
theorem uU:∀ {ls:O cD}{A:ah}{i:Nat}{K:O Y->Prop},uN ls A i w K->∃vs,bz w A i ls.length=some vs/\K vs
 | [],_,_,_,h=>⟨[],rfl,h⟩
 |l::ls,A,i,K,h=>by
  obtain⟨v,a,h⟩:=nK h
  obtain⟨vs,b,h⟩:=uU h
  exact⟨v::vs,by simp[bz,a,b],h⟩
theorem xK{T:TypeId}{A:ah}{K:Y->Prop}(h:nM P tk T A w K):∃v,(Instr.loadAt T (.pointer (some A))).run P w=.ok v w/\K v:=by
 have e:(Instr.loadAt T (.pointer (some A))).run P w=(loadVar T A).run P w:=by simp[Instr.loadAt,Instr.sureAddr]
 rw[e];unfold nM at h;split at h
 .exact h.elim
 .rename_i d b
  cases hd:gG d with
  |true=>
   rw[hd]at h;simp only[cond_true]at h;split at h
   .rename_i ls _
    by_cases a:Nat.beq (P.cellsOf T) ls.length=true
    .rw[a]at h
     simp only[cond_true]at h;obtain⟨vs,c,h⟩:=uU h;rw[←g2 a]at c;exact⟨_,rr b hd c,h⟩
    .simp only[e8]at a;rw[a]at h;exact h.elim
   .obtain⟨cs,hc,h⟩:=h
    exact⟨_,rr b hd hc,h⟩
  |false=>
   rw[hd]at h;simp only[cond_false]at h;split at h
   .obtain⟨v,f,h⟩:=nK h
    exact⟨v,xr b hd f,h⟩
   .exact h.elim
theorem uV{v:Y}(h:Plain v):v.cells= #[v]:=by cases v<;>first|rfl|exact h.elim
theorem add_zero'(A:ah):A.add 0=A:=rfl
theorem BJ{T:TypeId}{A:ah}{x:Y}{K:J->Prop}(h:uO P tk T A x w K):
 ∃w',(Instr.storeAt T (.pointer (some A)) x).run P w=.ok () w'/\K w':=by
 have f:(Instr.storeAt T (.pointer (some A)) x).run P w=(storeVar T A x).run P w:=by simp[Instr.storeAt,Instr.sureAddr]
 rw[f];unfold uO at h;split at h
 .exact h.elim
 .rename_i d c
  cases hd:gG d with
  |true=>
   rw[hd]at h;simp only[cond_true]at h;split at h
   .rename_i cs
    exact⟨_,xt (v:=.agg cs) c h.2.1 h.1,h.2.2⟩
   .exact h.elim
  |false=>
   rw[hd]at h;simp only[cond_false]at h;have one:∀ (b:Plain x) (a:Nat.beq (P.cellsOf T) 1=true),((∃u,w.cell? A=some u)/\w.frozen? A=false/\K (w.setCell A x))->∃w',(storeVar T A x).run P w=.ok () w'/\K w':=by
    intro b a ⟨⟨u,hu⟩,hf,g⟩;refine⟨_,xt (v:=x) c ?_ ?_,?_⟩
    .rw[uV b,g2 a];rfl
    .rw[uV b]
     refine⟨λi hi=>?_,λv j=>?_⟩
     .have:i=0:=by simpa using hi
      subst this;rw[add_zero',hu];exact⟨rfl,hf⟩
     .have:v=x:=by simpa using j
      subst this;exact b
    .rw[uV b]
     exact g
   by_cases a:Nat.beq (P.cellsOf T) 1=true
   .have e:=a
    rw[a]at h;simp only[cond_true]at h;split at h
    .exact one h.1 e h.2
    .split at h
     .exact h.elim
     .exact h.elim
     .rename_i h1 k
      refine one ?_ e h
      cases x<;>first|exact trivial|(exact absurd rfl (h1 _))|(exact absurd rfl (k _))
   .simp only[e8]at a;rw[a]at h;exact h.elim
theorem rE(ar:c9 e a)(h:iz P tk o K e w):kN P o a w K:=by
 unfold iz at h;split at h
 case h_1 x j=>
  split at h
  .rename_i p hx
   obtain⟨A,rfl,g⟩:=h;exact .inl ⟨_,_,by simp[execOp,j,ar.ev hx],g⟩
  .exact h.elim
 case h_2 T x j=>
  split at h
  .rename_i A hx
   obtain⟨v,B,g⟩:=xK h;exact .inl ⟨v,w,by simp[execOp,j,ar.ev hx,B],g⟩
  .exact h.elim
 case h_3 T x y j=>
  split at h
  .rename_i A v hx H
   obtain⟨w',S,g⟩:=BJ h;exact .inr (.inl ⟨w',by simp[execOp,j,ar.ev hx,ar.ev H,S],g⟩)
  .exact h.elim
 case h_4 op T x y ac j=>
  split at h
  .rename_i D Q hx H
   by_cases M:xJ P T y=true
   .rw[M]at h
    simp only[cond_true]at h;obtain⟨b,z,g⟩:=h;exact .inl ⟨_,w,by
     simp only[execOp,j,ar.ev hx,ar.ev H];have G:=z w;simp only[Sem.run_bind]at G⊢;rw[G];rfl,g⟩
   simp only[e8]at M;rw[M]at h;simp only[cond_false]at h;by_cases I:nQ y Q=true
   .rw[I]at h
    simp only[cond_true]at h;have U:Q=.nilIface->∃c,y=.const c:=by
     intro B;subst B
     cases y<;>simp[nQ]at I⊢
    rcases xy (pI:=x) (nP:=y) U h with hg|⟨v,B,g⟩
    .exact mw ar (by rw[j];rfl) hg
    .exact .inl ⟨v,w,by
      simp only[execOp,j,ar.ev hx,ar.ev H];have G:=B w;simp only[Sem.run_bind]at G⊢;rw[G];rfl,g⟩
   .simp only[e8]at I;rw[I]at h;exact h.elim
  .exact h.elim
 case h_5 T x i j=>
  split at h
  .rename_i D L hx hi
   obtain⟨v,B,g⟩:=xA h;exact .inl ⟨v,w,by simp[execOp,j,ar.ev hx,ar.ev hi,B],g⟩
  .exact h.elim
 case h_6 T x i j=>
  split at h
  .rename_i D L hx hi
   obtain⟨v,B,g⟩:=xC h;exact .inl ⟨v,w,by simp[execOp,j,ar.ev hx,ar.ev hi,B],g⟩
  .exact h.elim
 case h_7 T x i j=>
  split at h
  .rename_i D hx
   obtain⟨v,B,g⟩:=xD h;exact .inl ⟨v,w,by simp[execOp,j,ar.ev hx,B],g⟩
  .exact h.elim
 case h_8 T j=>exact uT ar (by rw[j];rfl) h
 case h_9 T x j=>exact uT ar (by rw[j];rfl) h
 case h_10 T n V j=>
  cases R:xH (xG P tk T) with
  |true=>
   rw[R]at h;simp only[cond_true]at h;by_cases u:known e o.op.operands=true
   .rw[u]at h
    simp only[cond_true]at h;have hc:=jt ar (by rw[j];rfl) u;obtain⟨r,w1,q,g⟩:=g6 h;exact .inl ⟨r,w1,by rw[hc];simp[execOp,j];rw[q];rfl,g⟩
   .simp only[e8]at u;rw[u]at h;exact h.elim
  |false=>
   rw[R]at h;exact uT ar (by rw[j];rfl) h
 case h_11 T x lo hi ad j=>
  by_cases u:known e o.op.operands=true
  .rw[u]at h
   simp only[cond_true]at h;have hc:=jt ar (by rw[j];rfl) u;obtain⟨v,B,g⟩:=xE h;exact .inl ⟨v,w,by rw[hc];simp[execOp,j,B],g⟩
  .simp only[e8]at u;rw[u]at h;exact h.elim
 case h_12 T l c j=>
  split at h
  .rename_i ae af W hc
   obtain⟨v,w',B,g⟩:=BF h;exact .inl ⟨v,w',by simp[execOp,j,ar.ev W,ar.ev hc,B],g⟩
  .exact h.elim
 case h_13 s d x j=>
  split at h
  .rename_i k n hx
   by_cases hs:(P.underlying s).isSome=true
   .rw[hs]at h
    simp only[cond_true]at h;obtain⟨ds,Z⟩:=jr _ hs;split at h
    .rename_i ag hd
     exact .inl ⟨_,_,by simp[execOp,j,ar.ev hx,convert,cW Z,cW hd,Conv.intToInt],h⟩
    .obtain⟨r,w1,q,g⟩:=g6 h
     exact .inl ⟨r,w1,by simp[execOp,j,ar.ev hx,q],g⟩
   .simp only[e8]at hs;rw[hs]at h;exact h.elim
  .rename_i v _ hx
   obtain⟨r,w1,q,g⟩:=g6 h;exact .inl ⟨r,w1,by simp[execOp,j,ar.ev hx,q],g⟩
  .exact h.elim
 case h_14 t V j=>
  split at h
  .exact mw ar (by rw[j];rfl) h
  .by_cases u:known e o.op.operands=true
   .rw[u]at h
    simp only[cond_true]at h;have hc:=jt ar (by rw[j];rfl) u;obtain⟨cs,q,g⟩:=h;exact .inl ⟨_,_,by rw[hc];simp[execOp,j];rw[q];rfl,g⟩
   .simp only[e8]at u;rw[u]at h;exact h.elim
 case h_15 T m i ok j=>
  split at h
  .rename_i N L F hi
   obtain⟨r,w1,q,g⟩:=g6 h;exact .inl ⟨r,w1,by simp[execOp,j,ar.ev F,ar.ev hi,q],g⟩
  .exact h.elim
 case h_16 T m i x j=>
  split at h
  .rename_i N L D F hi hx
   obtain⟨w1,q,g⟩:=h;exact .inr (.inl ⟨w1,by simp[execOp,j,ar.ev F,ar.ev hi,ar.ev hx,q],g⟩)
  .exact h.elim
 case h_17 T r j=>
  by_cases u:known e o.op.operands=true
  .rw[u]at h
   simp only[cond_true]at h;have hc:=jt ar (by rw[j];rfl) u;obtain⟨v,w1,q,g⟩:=g6 h;exact .inl ⟨v,w1,by rw[hc];simp[execOp,j,q],g⟩
  .simp only[e8]at u;rw[u]at h;exact h.elim
 case h_18 T x j=>
  split at h
  .rename_i D hx
   obtain⟨v,w1,q,g⟩:=h;exact .inl ⟨v,w1,by simp[execOp,j,ar.ev hx,q],g⟩
  .exact h.elim
 case h_19 it aa j=>
  split at h
  .rename_i D hx
   rcases h with h|⟨w1,q,g⟩
   .cases aa with
    |true=>
     obtain⟨n,c,w1,q,g⟩:=h;exact .inl ⟨_,w1,by simp[execOp,j,ar.ev hx,q],g⟩
    |false=>
     obtain⟨k,v,w1,q,g⟩:=h;exact .inl ⟨_,w1,by simp[execOp,j,ar.ev hx,q],g⟩
   .exact .inl ⟨_,w1,by simp[execOp,j,ar.ev hx,q],g⟩
  .exact h.elim
 case h_20 c j=>
  have E:∀ (b:Builtin) (r:Y) (w1:J),c.callee=.builtin b->known e o.op.operands=true->
   (∀cs,(Go.builtin b c.argTypes o.type cs (c.args.map (ro e))).run P w=.ok (.value r) w1)->K r w1->kN P o a w K:=by
   intro b r w1 z u q g;have hc:=jt ar (by rw[j];rfl) u;exact .inl ⟨r,w1,by rw[hc];simp[execOp,j,resolve,z,invoke,q],g⟩
  have C:∀ {X:Prop},(bif known e o.op.operands then X else False)->known e o.op.operands=true/\X:=by
   intro X cE;by_cases u:known e o.op.operands=true
   .rw[u]at cE;exact⟨u,cE⟩
   .simp only[e8]at u;rw[u]at cE;exact cE.elim
  split at h
  .rename_i k z
   split at h
   .rename_i f pre cap hg
    obtain⟨u,ab,h⟩:=C h;have hc:=jt ar (by rw[j];rfl) u;refine .inr (.inr ⟨f,pre++c.args.map (ro e)++cap,w,?_,h.mono λah w1 h1=>?_⟩)
    .have O:ro e (.tmp k)=.func (.func f) pre cap:=by simp[ro,ev,hg]
     rw[hc];simp[execOp,j,resolve,z,O,Deferred.ofValue,invoke,xI ab]
    .obtain⟨v,B,g⟩:=g6 h1
     exact⟨v,B,g⟩
   .exact mw ar (by rw[j];rfl) h
  .rename_i z
   obtain⟨u,h⟩:=C h;obtain⟨r,w1,q,g⟩:=g6 h;exact E _ r w1 z u (λ_=>by simp[Go.builtin,q]) g
  .rename_i z
   obtain⟨u,h⟩:=C h;obtain⟨r,w1,q,g⟩:=g6 h;exact E _ r w1 z u (λ_=>by simp[Go.builtin,q]) g
  .rename_i z
   obtain⟨u,h⟩:=C h;obtain⟨r,w1,q,g⟩:=g6 h;exact E _ r w1 z u (λ_=>by simp[Go.builtin,q]) g
  .rename_i z
   obtain⟨u,h⟩:=C h;obtain⟨r,w1,q,g⟩:=g6 h;exact E _ r w1 z u (λ_=>by simp[Go.builtin,q]) g
  .rename_i z
   obtain⟨u,r,w1,q,g⟩:=C h;exact E _ r w1 z u (λ_=>by simp[Go.builtin,q]) g
  .rename_i f z
   split at h
   .rename_i fn ai
    split at h
    .exact mw ar (by rw[j];rfl) h
    .obtain⟨u,h⟩:=C h
     obtain⟨r,w1,q,g⟩:=g6 h;have hc:=jt ar (by rw[j];rfl) u;refine .inl ⟨r,w1,?_,g⟩;rw[hc];have O:ro e (.func f)=.func (.func f) #[] #[]:=by simp[ro,ev]
     simp[execOp,j,resolve,z,O,Deferred.ofValue,invoke,q]
   .exact h.elim
  .rename_i z
   obtain⟨u,h⟩:=C h;obtain⟨r,w1,q,g⟩:=g6 h;exact E _ r w1 z u (λ_=>by simp[Go.builtin,q]) g
  .rename_i z
   obtain⟨u,h⟩:=C h;obtain⟨r,w1,q,g⟩:=g6 h;exact E _ r w1 z u (λ_=>by simp[Go.builtin,q]) g
  .rename_i z
   obtain⟨u,r,w1,q,g⟩:=C h;exact E _ r w1 z u (λ_=>by simp[Go.builtin,q]) g
  .rename_i z
   split at h
   .obtain⟨u,h⟩:=C h
    obtain⟨r,w1,q,g⟩:=g6 h;exact E _ r w1 z u (λ_=>by simp[Go.builtin,q]) g
   .exact mw ar (by rw[j];rfl) h
  .exact mw ar (by rw[j];rfl) h
 case h_21 T x j=>
  split at h
  .rename_i D hx
   obtain⟨v,B,g⟩:=xz h;exact .inl ⟨v,w,by simp[execOp,j,ar.ev hx,B],g⟩
  .exact h.elim
 case h_22 T m i j=>
  split at h
  .rename_i N L F hi
   obtain⟨v0,st,w1,q,g⟩:=h;exact .inl ⟨_,w1,by simp[execOp,j,ar.ev F,ar.ev hi,q],g⟩
  .exact h.elim
 case h_23 T m s x j=>
  split at h
  .rename_i N vs D F hs hx
   obtain⟨w1,q,g⟩:=h;exact .inr (.inl ⟨w1,by simp[execOp,j,ar.ev F,ar.ev hs,ar.ev hx,q],g⟩)
  .exact h.elim
 case h_24 it j=>
  split at h
  .rename_i D hx
   obtain⟨v,w1,q,g⟩:=g6 h;exact .inl ⟨v,w1,by simp[execOp,j,ar.ev hx,q],g⟩
  .exact h.elim
 case h_25=>exact h.elim
 case h_26=>
  refine mw ar ?_ h
  cases j:o.op<;>first|rfl|simp_all
end
end aQ
namespace aQ
open Go
inductive jS where
 |run
 |split (n:Nat)
 |pure (n:Nat)
 |rF (ks:O Kd)
def eG(P:Program)(o:Oper)(e:Env):aq Y:=
 match o.op with
 | .move x=>ev e x
 | .assign x=>ev e x
 | .unOp .not _ x=>match ev e x with
  |some (.bool b)=>some (.bool (!b))
  |_=>none
 | .binOp op T x y _=>match ev e y with
  |some (.int f b)=>match ev e x with
   |some (.int k a)=>bif iR k f then
    match op with
    | .add=>some (.int k (k.wrap (a+b)))
    | .sub=>some (.int k (k.wrap (a-b)))
    | .mul=>some (.int k (k.wrap (a*b)))
    | .quo=>match b with
     | .ofNat (.succ m)=>some (.int k (k.wrap (a.tdiv (.ofNat (.succ m)))))
     |_=>none
    | .rem=>match b with
     | .ofNat (.succ m)=>some (.int k (a.tmod (.ofNat (.succ m))))
     |_=>none
    | .and=>some (.int k (k.wrap (BitVec.ofInt k.bits a&&&BitVec.ofInt k.bits b).toNat))
    | .or=>some (.int k (k.wrap (BitVec.ofInt k.bits a|||BitVec.ofInt k.bits b).toNat))
    | .xor=>some (.int k (k.wrap (BitVec.ofInt k.bits a^^^BitVec.ofInt k.bits b).toNat))
    | .eql=>some (.bool (a==b))
    | .neq=>some (.bool (a !=b))
    | .lss=>some (.bool (a<b))
    | .leq=>some (.bool (a<=b))
    | .gtr=>some (.bool (a>b))
    | .geq=>some (.bool (a>=b))
    |_=>none
    else none
   |_=>none
  |some (.bool b)=>match ev e x with
   |some (.bool a)=>match P.underlying T with
    |some .bool=>match op with
     | .eql=>some (.bool (a==b))
     | .neq=>some (.bool (!(a==b)))
     |_=>none
    |_=>none
   |_=>none
  |some (.string b)=>match ev e x with
   |some (.string a)=>match op with
    | .eql=>some (.bool (a.toList==b.toList))
    | .neq=>some (.bool (!(a.toList==b.toList)))
    |_=>none
   |_=>none
  |some (.pointer none)=>match ev e x with
   |some (.pointer p)=>bif kM (P.underlying T) then match op with
    | .eql=>some (.bool p.isNone)
    | .neq=>some (.bool (!p.isNone))
    |_=>none
    else none
   |_=>none
  |some (.slice none _ _)=>match ev e x with
   |some (.slice p _ _)=>bif lv (P.underlying T) then match op with
    | .eql=>some (.bool p.isNone)
    | .neq=>some (.bool (!p.isNone))
    |_=>none
    else none
   |_=>none
  |_=>none
 | .convert s d x=>match ev e x with
  |some (.int _ n)=>match P.underlying d with
   |some (.int k)=>bif (P.underlying s).isSome then some (.int k (k.wrap n)) else none
   |_=>none
  |_=>none
 | .call {callee:=.builtin .len,args:=args,argTypes:=fR}=>match args[0]?,fR[0]? with
  |some x,some T=>match ev e x,P.underlying T with
   |some (.slice _ n _),some (.slice _)=>some (.int .i64 n)
   |some (.string s),some .string=>some (.int .i64 s.size)
   |_,_=>none
  |_,_=>none
 | .call {callee:=.builtin .cap,args:=args,argTypes:=fR}=>match args[0]?,fR[0]? with
  |some x,some T=>match ev e x,P.underlying T with
   |some (.slice _ _ c),some (.slice _)=>some (.int .i64 c)
   |_,_=>none
  |_,_=>none
 |_=>none
def pL(ops:Array Oper)(e:Env)(j:Nat):aq Y:=((ops[j]?).bind (·.dst)).bind e.get
def BK(ops:Array Oper)(j:Nat):aq Nat:=(ops[j]?).bind (·.dst)
def G7(o:Oper)(e:Env)(K:an->Prop):Prop:=
 match o.guard with
 |none=>match o.op with
  | .pick x y z=>match ev e x with
   |some (.bool b)=>match ev e (bif b then y else z) with
    |some (.bool r)=>K r
    |_=>False
   |_=>False
  |_=>False
 |some _=>False
def gj(ops:Array Oper)(o:Oper)(e:Env)(run skip:Prop):Prop:=
 match o.guard with
 |none=>run
 |some (j,want)=>match pL ops e j with
  |none=>False
  |some (.bool b)=>bif Bool.xor b want then skip else run
  |some _=>skip
def kj{α:Type}(ops:Array Oper)(o:Oper)(e:Env)(run skip:aq α):aq α:=
 match o.guard with
 |none=>run
 |some (j,want)=>match pL ops e j with
  |none=>none
  |some (.bool b)=>bif Bool.xor b want then skip else run
  |some _=>skip
def jT(o:Oper)(e:Env):aq an:=
 match o.op with
 | .pick x y z=>match ev e x with
  |some (.bool b)=>match ev e (bif b then y else z) with
   |some (.bool r)=>some r
   |_=>none
  |_=>none
 |_=>none
def pM(ops:Array Oper)(o:Oper)(e:Env):aq (Nat×an):=
 match o.guard with
 |none=>none
 |some (j,_)=>match BK ops j with
  |none=>none
  |some s=>match e.get s with
   |some (.bool c)=>some (s,c)
   |_=>none
def kO(ops:Array Oper)(o:Oper)(e:Env):an:=
 match o.guard with
 |none=>true
 |some (j,want)=>match pL ops e j with
  |some (.bool b)=> !(Bool.xor b want)
  |_=>false
def lz(e:Env)(ds:O Nat):an:=e.all λp=> !(ds.any λd=>Nat.beq d p.1)
def bA(l:O Oper):O Nat:=l.filterMap (·.dst)
def hT(P:Program)(ops:Array Oper):Nat->O Oper->O jS->Env->aq Env
 |0,_,_,_=>none
 |_+1,[],_,e=>some e
 |n+1,o::rest,.pure m::as,e=>
  match pM ops o e,rest.drop (m-1) with
  |none,_=>
   match kj ops o e none (some undef) with
   |some v=>hT P ops n rest as (c3 o.dst v e)
   |none=>none
  |some (s,c),a::b=>
   match hT P ops n (o::rest.take (m-1)) (.run::as.take (m-1)) ((s,.bool true)::e),hT P ops n (o::rest.take (m-1)) (.run::as.take (m-1)) ((s,.bool false)::e) with
   |some d,some f=>
    match jT a d,jT a f with
    |some r1,some aE=>bif kO ops a e&&lz e (bA (o::rest.take (m-1))) then hT P ops n b (as.drop m) (c3 a.dst (.bool (cond c r1 aE)) e) else none
    |_,_=>none
   |_,_=>none
  |_,_=>none
 |n+1,o::rest,_::as,e=>
  match kj ops o e (eG P o e) (some undef) with
  |some v=>hT P ops n rest as (c3 o.dst v e)
  |none=>none
 |n+1,o::rest,[],e=>
  match kj ops o e (eG P o e) (some undef) with
  |some v=>hT P ops n rest [] (c3 o.dst v e)
  |none=>none
inductive bY {α:Type} (B:α->Prop) (k:α):Prop where
 |mk (h:B k)
theorem bY.out{α:Type}{B:α->Prop}{k:α}(h:bY B k):B k:=by cases h with|mk h=>exact h
def rG(P:Program)(ks:O Kd)(o:Oper)(K:Y->J->Prop)(e:Env)(w:J):Prop:=
 match o.op with
 | .entry it=>match ev e it with
  |some a=>rq ks λvs=>∃w1,(Instr.entry a).run P w=.ok (.tuple vs.toArray) w1/\K (.tuple vs.toArray) w1
  |_=>False
 |_=>False
theorem BL{P:Program}{ks:O Kd}{o:Oper}{K:Y->J->Prop}{e:Env}{w:J}{a:Act}(ar:c9 e a)(h:rG P ks o K e w):kN P o a w K:=by
 unfold rG at h;split at h
 .rename_i it b
  split at h
  .rename_i f hx
   obtain⟨v,w1,c,d⟩:=uL h;exact .inl ⟨_,w1,by simp[execOp,b,ar.ev hx,c],d⟩
  .exact h.elim
 .exact h.elim
def fj(P:Program)(tk:TypeId->dv)(ops:Array Oper):Nat->O Oper->O jS->(Env->J->Prop)->Env->J->Prop
 |0,_,_,_,_,_=>False
 |_+1,[],_,K,e,w=>K e w
 |n+1,o::rest,.rF ks::as,K,e,w=>
  gj ops o e (rG P ks o (λv w'=>fj P tk ops n rest as K (c3 o.dst v e) w') e w) (fj P tk ops n rest as K (c3 o.dst undef e) w)
 |n+1,o::rest,.pure m::as,K,e,w=>
  match pM ops o e,rest.drop (m-1) with
  |none,_=>gj ops o e False (fj P tk ops n rest as K (c3 o.dst undef e) w)
  |some (s,c),a::b=>
   match hT P ops n (o::rest.take (m-1)) (.run::as.take (m-1)) ((s,.bool true)::e),hT P ops n (o::rest.take (m-1)) (.run::as.take (m-1)) ((s,.bool false)::e) with
   |some f,some g=>
    match jT a f,jT a g with
    |some r1,some aE=>bif kO ops a e&&lz e (bA (o::rest.take (m-1))) then fj P tk ops n b (as.drop m) K (c3 a.dst (.bool (cond c r1 aE)) e) w else False
    |_,_=>False
   |_,_=>False
  |_,_=>False
 |n+1,o::rest,.split m::as,K,e,w=>
  match pM ops o e,rest.drop (m-1) with
  |none,_=>gj ops o e False (fj P tk ops n rest as K (c3 o.dst undef e) w)
  |some (s,c),a::b=>
   bif kO ops a e&&lz e (bA (o::rest.take (m-1))) then
    bY (λk:an->J->Prop=>
     (c=true->fj P tk ops n (o::rest.take (m-1)) (.run::as.take (m-1)) (λd w'=>match jT a d with|some r=>k r w'|none=>False) ((s,.bool true)::e) w)/\
     (c=false->fj P tk ops n (o::rest.take (m-1)) (.run::as.take (m-1)) (λd w'=>match jT a d with|some r=>k r w'|none=>False) ((s,.bool false)::e) w))
     (λr w'=>fj P tk ops n b (as.drop m) K (c3 a.dst (.bool r) e) w')
   else False
  |_,_=>False
 |n+1,o::rest,_::as,K,e,w=>
  gj ops o e (iz P tk o (λv w'=>fj P tk ops n rest as K (c3 o.dst v e) w') e w) (fj P tk ops n rest as K (c3 o.dst undef e) w)
 |n+1,o::rest,[],K,e,w=>
  gj ops o e (iz P tk o (λv w'=>fj P tk ops n rest [] K (c3 o.dst v e) w') e w) (fj P tk ops n rest [] K (c3 o.dst undef e) w)
structure dB(ds:O Nat)(a b:Act):Prop where
 defers:b.defers=a.defers
 size:b.tmps.size=a.tmps.size
 same:∀s,s∉ds->b.tmps[s]? =a.tmps[s]?
theorem dB.refl(ds:O Nat)(a:Act):dB ds a a:=⟨rfl,rfl,λ_ _=>rfl⟩
theorem dB.trans{ds:O Nat}{a b c:Act}(h:dB ds a b)(k:dB ds b c):dB ds a c:=
 ⟨k.defers.trans h.defers,k.size.trans h.size,λs hs=>(k.same s hs).trans (h.same s hs)⟩
theorem dB.mono{ds es:O Nat}{a b:Act}(h:dB ds a b)(hs:∀s,s∈ds->s∈es):dB es a b:=
 ⟨h.defers,h.size,λs c=>h.same s λd=>c (hs s d)⟩
theorem dB.put{a:Act}{d:aq Nat}{v:Y}{ds:O Nat}(hd:∀k,d=some k->k∈ds):dB ds a (a.put d v):=by
 cases d with
 |none=>exact .refl _ _
 |some d=>exact⟨rfl,by simp[Act.put],λs hs=>by
  have:d≠s:=λh=>hs (h▸hd d rfl);simp[Act.put,Array.getElem?_setIfInBounds_ne this]⟩
def fS(a:Act)(ds:O Nat)(K:Env->J->Prop)(x:Exit)(b:Act)(w':J):Prop:=
 x=.normal/\dB ds a b/\∃c,c9 c b/\K c w'
theorem hU{P:Program}{ops:Array Oper}{Q Q':Exit->Act->J->Prop}(b:∀x a w,Q x a w->Q' x a w):
 ∀ (l:O Oper) (a:Act) (w:J),wpList P ops Q l a w->wpList P ops Q' l a w
 | [],_,_,h=>b _ _ _ h
 |o::l,a,w,h=>by
  simp only[wpList]at h⊢
  split
  .rename_i d
   rw[if_pos d]at h
   refine h.imp (λh=>?_) (λ⟨h1,f,w',g⟩=>⟨h1,f,w',b _ _ _ g⟩)
   have:=Oper.wp_mono (Q:=Q) (λa w=>hU b l a w) h
   unfold Oper.wp at this⊢
   revert this
   generalize (execOp a.eval o).run P w=r
   intro this
   cases r with
   |ok aY w'=>
    cases aY<;>simp only[Oper.upon]at this⊢<;>first
     |exact this
     |(exact Calls.mono this λe i he=>by
        cases e with
        |returned v=>exact he
        |panicked c=>exact b _ _ _ he
        |outgrown=>exact let ⟨f,w',g⟩:=he;⟨f,w',b _ _ _ g⟩)
   |halt x w'=>cases x<;>simp only[Oper.upon]at this⊢<;>first|exact b _ _ _ this|exact this
  .rename_i d
   rw[if_neg d]at h
   exact hU b l _ _ h
theorem pN{P:Program}{ops:Array Oper}{Q:Exit->Act->J->Prop}(b:O Oper):
 ∀ (kk:O Oper) (a:Act) (w:J),wpList P ops (λx a w=>x=.normal/\wpList P ops Q b a w) kk a w->wpList P ops Q (kk++b) a w
 | [],_,_,h=>h.2
 |o::l,a,w,h=>by
  simp only[ph,wpList]at h⊢
  split
  .rename_i d
   rw[if_pos d]at h
   rcases h with h|⟨_,g,w',f,_⟩
   .left
    have:=Oper.wp_mono (λa w=>pN b l a w) h
    unfold Oper.wp at this⊢
    revert this
    generalize (execOp a.eval o).run P w=r
    intro this
    cases r with
    |ok aY w'=>
     cases aY<;>simp only[Oper.upon]at this⊢<;>first
      |exact this
      |(exact Calls.mono this λe i he=>by
         cases e with
         |returned v=>exact he
         |panicked c=>cases he.1
         |outgrown=>exact let ⟨g,w',f⟩:=he;by cases f.1)
    |halt x w'=>cases x<;>simp only[Oper.upon]at this⊢<;>first|(cases this.1;done)|exact this
   .cases f
  .rename_i d
   rw[if_neg d]at h
   exact pN b l _ _ h
section
variable {P:Program}{tk:TypeId->dv}{ops:Array Oper}
def kP:Y->aq an
 | .bool b=>some b
 |_=>none
theorem pO{e:Env}{a:Act}(ar:c9 e a){j:Nat}{v:Y}(h:pL ops e j=some v):
 yielded ops a.tmps j=kP v:=by
 unfold pL at h;unfold yielded
 cases hd:(ops[j]?).bind (·.dst) with
 |none=>rw[hd]at h;simp at h
 |some s=>
  rw[hd]at h;simp only[Option.bind_some]at h⊢;rw[ar.get _ _ h]
  cases v<;>rfl
theorem pP{o:Oper}{e:Env}{a:Act}(ar:c9 e a){R S:Prop}(h:gj ops o e R S):
 (Region.wanted o (yielded ops a.tmps)=true/\R)\/(Region.wanted o (yielded ops a.tmps)=false/\S):=by
 unfold gj at h;unfold Region.wanted;split at h
 .rename_i hg;rw[hg];exact .inl ⟨rfl,h⟩
 .rename_i j want hg
  rw[hg];simp only;split at h
  .exact h.elim
  .rename_i b c
   rw[pO ar c]
   cases b<;>cases want<;>first|exact .inl ⟨rfl,h⟩|exact .inr ⟨rfl,h⟩
  .rename_i v d c
   rw[pO ar c]
   cases v<;>first|exact absurd rfl (d _)|exact .inr ⟨by cases want<;>rfl,h⟩
theorem xL{o:Oper}{e:Env}{R a S:Prop}(h:gj ops o e R S)(c:R->a):gj ops o e a S:=by
 unfold gj at h⊢;split at h
 .exact c h
 .rename_i j want hg
  split at h
  .exact h
  .rename_i b f
   cases d:Bool.xor b want<;>rw[d]at h<;>first|exact c h|exact h
  .exact h
theorem BM{α:Type}{o:Oper}{e:Env}{R S:aq α}{r:α}(h:kj ops o e none S=some r):kj ops o e R S=some r:=by
 unfold kj at h⊢;split at h
 .cases h
 .rename_i j want hg
  split at h
  .exact h
  .rename_i b c
   cases a:Bool.xor b want with
   |true=>rw[a]at h;exact h
   |false=>rw[a]at h;cases h
  .exact h
theorem BN{α:Type}{o:Oper}{e:Env}{a:Act}(ar:c9 e a){R S:aq α}{r:α}(h:kj ops o e R S=some r):
 (Region.wanted o (yielded ops a.tmps)=true/\R=some r)\/(Region.wanted o (yielded ops a.tmps)=false/\S=some r):=by
 unfold kj at h;unfold Region.wanted;split at h
 .rename_i hg;rw[hg];exact .inl ⟨rfl,h⟩
 .rename_i j want hg
  rw[hg];simp only;split at h
  .cases h
  .rename_i b c
   rw[pO ar c]
   cases b<;>cases want<;>first|exact .inl ⟨rfl,h⟩|exact .inr ⟨rfl,h⟩
  .rename_i v d c
   rw[pO ar c]
   cases v<;>first|exact absurd rfl (d _)|exact .inr ⟨by cases want<;>rfl,h⟩
theorem xM{o:Oper}{e:Env}{a:Act}(ar:c9 e a){v:Y}(h:eG P o e=some v)(w:J):(execOp a.eval o).run P w=.ok (.value v) w:=by
 unfold eG at h;split at h
 .rename_i x f
  simp[execOp,f,ar.ev h]
 .rename_i x f
  simp[execOp,f,ar.ev h]
 .rename_i t x f
  split at h
  .rename_i b hx
   cases h;simp[execOp,f,ar.ev hx,Op.unary]
  .cases h
 .rename_i op T x y D f
  split at h
  .rename_i u b i
   split at h
   .rename_i k c hx
    by_cases z:k=u
    .subst z
     simp only[iR,decide_true,cond_true]at h;split at h
     case h_4=>
      split at h
      .cases h
       simp[execOp,f,ar.ev hx,ar.ev i,eqGuard,binOp,Op.intDiv];intro r;exfalso;revert r;simp;omega
      .cases h
     case h_5=>
      split at h
      .cases h
       simp[execOp,f,ar.ev hx,ar.ev i,eqGuard,binOp,Op.intDiv];intro r;exfalso;revert r;simp;omega
      .cases h
     all_goals first
      |(cases h;simp[execOp,f,ar.ev hx,ar.ev i,eqGuard,binOp,Op.intArith,Op.intBits,Op.intCmp];done)
      |cases h
    .simp[iR,z]at h
   .cases h
  .rename_i b i
   split at h
   .rename_i c hx
    split at h
    .rename_i g
     have j:∀ (d:Nat) (w:J),(Op.equalIn (d+1) T (.bool c) (.bool b)).run P w=.ok (c==b) w:=by
      intro d w;simp[Op.equalIn,cW g]
     have A:∀w:J,(Op.equal T (.bool c) (.bool b)).run P w=.ok (c==b) w:=λw=>by rw[nO];exact j _ w
     split at h
     .cases h
      simp[execOp,f,ar.ev hx,ar.ev i,eqGuard,binOp,A]
     .cases h
      simp[execOp,f,ar.ev hx,ar.ev i,eqGuard,binOp,A]
     .cases h
    .cases h
   .cases h
  .rename_i b i
   split at h
   .rename_i c hx
    split at h
    .cases h
     have j:(binOp .eql T (.string c) (.string b)).run P w=.ok (.bool (c.toList==b.toList)) w:=rfl;simp only[execOp,f,ar.ev hx,ar.ev i];simp[eqGuard,j]
    .cases h
     have j:(binOp .neq T (.string c) (.string b)).run P w=.ok (.bool (!(c.toList==b.toList))) w:=rfl;simp only[execOp,f,ar.ev hx,ar.ev i];simp[eqGuard,j]
    .cases h
   .cases h
  .rename_i i
   split at h
   .rename_i p hx
    by_cases g:kM (P.underlying T)=true
    .rw[g]at h
     simp only[cond_true]at h;split at h
     .cases h;simp[execOp,f,ar.ev hx,ar.ev i,eqGuard,binOp,rv (P:=P) g]
     .cases h;simp[execOp,f,ar.ev hx,ar.ev i,eqGuard,binOp,rv (P:=P) g]
     .cases h
    .simp only[e8]at g;rw[g]at h;cases h
   .cases h
  .rename_i l c i
   split at h
   .rename_i p _ _ hx
    by_cases g:lv (P.underlying T)=true
    .rw[g]at h
     simp only[cond_true]at h;split at h
     .cases h;simp[execOp,f,ar.ev hx,ar.ev i,eqGuard,binOp,ry (P:=P) g]
     .cases h;simp[execOp,f,ar.ev hx,ar.ev i,eqGuard,binOp,ry (P:=P) g]
     .cases h
    .simp only[e8]at g;rw[g]at h;cases h
   .cases h
  .cases h
 .rename_i s d x f
  split at h
  .rename_i k n hx
   split at h
   .rename_i u hd
    by_cases hs:(P.underlying s).isSome=true
    .rw[hs]at h
     cases h;obtain⟨ds,B⟩:=jr _ hs;simp[execOp,f,ar.ev hx,convert,cW B,cW hd,Conv.intToInt]
    .simp only[e8]at hs;rw[hs]at h;cases h
   .cases h
  .cases h
 .rename_i args fR f
  split at h
  .rename_i x T m q
   split at h
   .rename_i p n c C hx g
    cases h;simp[execOp,f,resolve,invoke,Go.builtin,Builtin.len_,q,m,cW g,ar.ev hx,goInt]
   .rename_i s hx g
    cases h;simp[execOp,f,resolve,invoke,Go.builtin,Builtin.len_,q,m,cW g,ar.ev hx,goInt]
   .cases h
  .cases h
 .rename_i args fR f
  split at h
  .rename_i x T m q
   split at h
   .rename_i p n c C hx g
    cases h;simp[execOp,f,resolve,invoke,Go.builtin,Builtin.cap_,q,m,cW g,ar.ev hx,goInt]
   .cases h
  .cases h
 .cases h
theorem uW{e:Env}{ds:O Nat}{a b:Act}(ar:c9 e a)(hd:lz e ds=true)(d:dB ds a b):c9 e b:=by
 constructor;intro s v hs;have f:∃u,(s,u)∈e:=by
  clear hd ar
  induction e with
  |nil=>cases hs
  |cons p e g=>
   obtain⟨k,u⟩:=p;rw[mn]at hs;by_cases c:k=s
   .subst c;exact⟨u,by simp⟩
   .rw[if_neg c]at hs
    obtain⟨u,hu⟩:=g hs;exact⟨u,by simp[hu]⟩
 obtain⟨u,hu⟩:=f;have h1:=nA.1 hd _ hu;simp only[iK,pj]at h1;rw[d.same s λh=>h1 s h (Nat.beq_refl s)];exact ar.get s v hs
theorem uX{d:Oper}{e:Env}{a:Act}(ar:c9 e a){r:an}(h:jT d e=some r)(w:J):
 (execOp a.eval d).run P w=.ok (.value (.bool r)) w:=by
 unfold jT at h;split at h
 .rename_i x y z f
  split at h
  .rename_i b g
   split at h
   .rename_i i c
    cases h;simp only[execOp,f,ar.ev g]
    cases b
    .simp only[cond_false]at c
     simp[asBool,ar.ev c]
    .simp only[cond_true]at c
     simp[asBool,ar.ev c]
   .cases h
  .cases h
 .cases h
theorem uY{c:Oper}{e:Env}{a:Act}(ar:c9 e a)(h:kO ops c e=true):Region.wanted c (yielded ops a.tmps)=true:=by
 unfold kO at h;unfold Region.wanted;split at h
 .rename_i hg;rw[hg]
 .rename_i j want hg
  rw[hg];simp only;split at h
  .rename_i b d
   rw[pO ar d]
   cases b<;>cases want<;>first|rfl|cases h
  .cases h
theorem uZ{o:Oper}{e:Env}{s:Nat}{c:an}(h:pM ops o e=some (s,c)):e.get s=some (.bool c):=by
 unfold pM at h;split at h
 .cases h
 .split at h
  .cases h
  .split at h
   .rename_i hs;cases h;exact hs
   .cases h
theorem c9.lit{e:Env}{a:Act}(ar:c9 e a){s:Nat}{v:Y}(h:e.get s=some v):c9 ((s,v)::e) a:=by
 constructor;intro t u ht;rw[mn]at ht;by_cases b:s=t
 .subst b
  rw[if_pos rfl]at ht
  cases ht;exact ar.get _ _ h
 .rw[if_neg b]at ht
  exact ar.get _ _ ht
theorem u0{α:Type}(o:α)(rest:O α)(m:Nat){a:α}{b:O α}(h:rest.drop m=a::b):
 o::rest=(o::rest.take m)++(a::b):=by
 rw[←h];simp
theorem BO{b c:an}{α:Type}{x y z:α}(h:(bif b&&c then x else y)=z)(a:y≠z):b=true/\c=true/\x=z:=by
 cases b<;>cases c<;>first|exact absurd h a|exact⟨rfl,rfl,h⟩
theorem xN:∀ (n:Nat) (l:O Oper) (as:O jS) (e j:Env) (a:Act) (w:J),c9 e a->(∀d∈bA l,d<a.tmps.size)->
 hT P ops n l as e=some j->wpList P ops (λx f w'=>x=.normal/\dB (bA l) a f/\c9 j f/\w'=w) l a w:=by
 intro n
 induction n with
 |zero=>intro l as e j a w _ _ h;cases h
 |succ n B=>
  intro l as e j a w ar g h;have one:∀ (o:Oper) (rest:O Oper) (E:O jS),(∀d∈bA (o::rest),d<a.tmps.size)->
   (match kj ops o e (eG P o e) (some undef) with|some v=>hT P ops n rest E (c3 o.dst v e)|none=>none)=some j->
   wpList P ops (λx f w'=>x=.normal/\dB (bA (o::rest)) a f/\c9 j f/\w'=w) (o::rest) a w:=by
   intro o rest E g h;have K:∀k,o.dst=some k->k∈bA (o::rest):=λk b=>by simp[bA,b]
   have q:∀k,k∈bA rest->k∈bA (o::rest):=λk b=>by
    simp only[bA,pk];split
    .exact b
    .exact jg _ b
   split at h
   .rename_i v t
    have next:∀ (f:Act),f=a.put o.dst v->wpList P ops (λx f w'=>x=.normal/\dB (bA (o::rest)) a f/\c9 j f/\w'=w) rest f w:=by
     intro f T;subst T;have b:dB (bA (o::rest)) a (a.put o.dst v):=dB.put K;have:=B rest E (c3 o.dst v e) j (a.put o.dst v) w (ar.put λk b=>g k (K k b)) (λd hd=>by rw[b.size];exact g d (q d hd)) h;exact hU (λx f w' ⟨h1,F,U,V⟩=>⟨h1,b.trans (F.mono q),U,V⟩) _ _ _ this
    rcases BN ar t with ⟨G,u⟩|⟨G,u⟩
    .simp only[wpList,G,if_true]
     left;unfold Oper.wp;rw[xM ar u w];exact next _ rfl
    .simp only[wpList,G,fC,if_false]
     cases u;exact next _ rfl
   .cases h
  cases l with
  |nil=>
   simp only[hT,Option.some.injEq]at h;subst h;exact⟨rfl,.refl _ _,ar,rfl⟩
  |cons o rest=>
   cases as with
   |nil=>exact one o rest [] g (by simpa only[hT] using h)
   |cons W as=>
    cases W with
    |run=>exact one o rest as g (by simpa only[hT] using h)
    |split m=>exact one o rest as g (by simpa only[hT] using h)
    |rF ks=>exact one o rest as g (by simpa only[hT] using h)
    |pure m=>
     simp only[hT]at h;split at h
     .refine one o rest as g ?_
      cases t:kj ops o e none (some undef) with
      |none=>rw[t]at h;cases h
      |some v=>rw[t]at h;rw[BM t];exact h
     .rename_i s c i p hg hd
      split at h
      .rename_i L M h1 F
       split at h
       .rename_i r1 aE X Y
        obtain⟨Z,aa,h⟩:=BO h (by simp);rw[u0 o rest (m-1) hd]at g⊢;have N:=uZ hg;refine pN _ _ _ _ ?_;have H:∀k,k∈bA (o::rest.take (m-1))->k∈bA ((o::rest.take (m-1))++(i::p)):=λk b=>by
         simp only[bA,pn,cM];exact .inl b
        have C:∀k,k∈bA (i::p)->k∈bA ((o::rest.take (m-1))++(i::p)):=λk b=>by
         simp only[bA,pn,cM];exact .inr b
        have Q:∀k,i.dst=some k->k∈bA (i::p):=λk b=>by simp[bA,b]
        have q:∀k,k∈bA p->k∈bA (i::p):=λk b=>by
         simp only[bA,pk];split
         .exact b
         .exact jg _ b
        have fin:∀ (I:Env) (r:an) (a1:Act),dB (bA (o::rest.take (m-1))) a a1->c9 I a1->jT i I=some r->r=cond c r1 aE->
         wpList P ops (λx f w'=>x=.normal/\dB (bA ((o::rest.take (m-1))++(i::p))) a f/\c9 j f/\w'=w) (i::p) a1 w:=by
         intro I r a1 D ab u ac;have R:=uW ar aa D;simp only[wpList,uY R Z,if_true];left;unfold Oper.wp;rw[uX ab u w];simp only[Oper.upon];have S:dB (bA (i::p)) a1 (a1.put i.dst (.bool r)):=dB.put Q;have:=B p (as.drop m) (c3 i.dst (.bool (cond c r1 aE)) e) j (a1.put i.dst (.bool r)) w
          (by rw[ac];exact R.put λk b=>by rw[D.size];exact g k (C k (Q k b)))
          (λd hd=>by rw[S.size,D.size];exact g d (C d (q d hd))) h
         refine hU (λx f w' ⟨av,y,z,A⟩=>⟨av,(D.mono H).trans ((S.mono C).trans (y.mono λk b=>C k (q k b))),z,A⟩) _ _ _ this
        cases c with
        |true=>
         have:=B _ _ _ L a w (ar.lit N) (λd hd=>g d (H d hd)) h1;exact hU (λx f w' ⟨av,y,z,A⟩=>⟨av,by subst A;exact fin L r1 f y z X rfl⟩) _ _ _ this
        |false=>
         have:=B _ _ _ M a w (ar.lit N) (λd hd=>g d (H d hd)) F;exact hU (λx f w' ⟨av,y,z,A⟩=>⟨av,by subst A;exact fin M aE f y z Y rfl⟩) _ _ _ this
       .cases h
      .cases h
     .cases h
theorem xO:∀ (n:Nat) (l:O Oper) (as:O jS) (K:Env->J->Prop) (e:Env) (a:Act) (w:J),c9 e a->(∀d∈bA l,d<a.tmps.size)->
 fj P tk ops n l as K e w->wpList P ops (fS a (bA l) K) l a w:=by
 intro n
 induction n with
 |zero=>intro l as K e a w _ _ h;cases h
 |succ n E=>
  intro l as K e a w ar i h;have one:∀ (o:Oper) (rest:O Oper) (j:O jS),(∀d∈bA (o::rest),d<a.tmps.size)->
   gj ops o e (iz P tk o (λv w'=>fj P tk ops n rest j K (c3 o.dst v e) w') e w) (fj P tk ops n rest j K (c3 o.dst undef e) w)->
   wpList P ops (fS a (bA (o::rest)) K) (o::rest) a w:=by
   intro o rest j i h;have F:∀k,o.dst=some k->k∈bA (o::rest):=λk b=>by simp[bA,b]
   have p:∀k,k∈bA rest->k∈bA (o::rest):=λk b=>by
    simp only[bA,pk];split
    .exact b
    .exact jg _ b
   have next:∀ (v:Y) (w':J),fj P tk ops n rest j K (c3 o.dst v e) w'->wpList P ops (fS a (bA (o::rest)) K) rest (a.put o.dst v) w':=by
    intro v w' h;have b:dB (bA (o::rest)) a (a.put o.dst v):=dB.put F;have:=E rest j K (c3 o.dst v e) (a.put o.dst v) w' (ar.put λk b=>i k (F k b)) (λd hd=>by rw[b.size];exact i d (p d hd)) h;exact hU (λx z w' ⟨h1,A,N⟩=>⟨h1,b.trans (A.mono p),N⟩) _ _ _ this
   rcases pP ar h with ⟨B,q⟩|⟨B,q⟩
   .simp only[wpList,B,if_true]
    exact .inl ((rE ar q).wp next)
   .simp only[wpList,B,fC,if_false]
    exact next _ _ q
  have W:∀ (o:Oper) (rest:O Oper) (ks:O Kd) (j:O jS),(∀d∈bA (o::rest),d<a.tmps.size)->
   gj ops o e (rG P ks o (λv w'=>fj P tk ops n rest j K (c3 o.dst v e) w') e w) (fj P tk ops n rest j K (c3 o.dst undef e) w)->
   wpList P ops (fS a (bA (o::rest)) K) (o::rest) a w:=by
   intro o rest ks j i h;have F:∀k,o.dst=some k->k∈bA (o::rest):=λk b=>by simp[bA,b]
   have p:∀k,k∈bA rest->k∈bA (o::rest):=λk b=>by
    simp only[bA,pk];split
    .exact b
    .exact jg _ b
   have next:∀ (v:Y) (w':J),fj P tk ops n rest j K (c3 o.dst v e) w'->wpList P ops (fS a (bA (o::rest)) K) rest (a.put o.dst v) w':=by
    intro v w' h;have b:dB (bA (o::rest)) a (a.put o.dst v):=dB.put F;have:=E rest j K (c3 o.dst v e) (a.put o.dst v) w' (ar.put λk b=>i k (F k b)) (λd hd=>by rw[b.size];exact i d (p d hd)) h;exact hU (λx z w' ⟨h1,A,N⟩=>⟨h1,b.trans (A.mono p),N⟩) _ _ _ this
   rcases pP ar h with ⟨B,q⟩|⟨B,q⟩
   .simp only[wpList,B,if_true]
    exact .inl ((BL ar q).wp next)
   .simp only[wpList,B,fC,if_false]
    exact next _ _ q
  cases l with
  |nil=>exact⟨rfl,.refl _ _,e,ar,h⟩
  |cons o rest=>
   cases as with
   |nil=>exact one o rest [] i (by simpa only[fj] using h)
   |cons X as=>
    cases X with
    |run=>exact one o rest as i (by simpa only[fj] using h)
    |rF ks=>exact W o rest ks as i (by simpa only[fj] using h)
    |split m=>
     simp only[fj]at h;split at h
     .exact one o rest as i (xL h False.elim)
     .rename_i s c f g hg hd
      obtain⟨Q,R,h⟩:kO ops f e=true/\lz e (bA (o::rest.take (m-1)))=true/\_:=by
       cases h1:kO ops f e<;>cases A:lz e (bA (o::rest.take (m-1)))<;>rw[h1,A]at h<;>first|exact h.elim|exact⟨rfl,rfl,h⟩
      rw[u0 o rest (m-1) hd]at i⊢;have G:=uZ hg;refine pN _ _ _ _ ?_;have C:∀k,k∈bA (o::rest.take (m-1))->k∈bA ((o::rest.take (m-1))++(f::g)):=λk b=>by
       simp only[bA,pn,cM];exact .inl b
      have t:∀k,k∈bA (f::g)->k∈bA ((o::rest.take (m-1))++(f::g)):=λk b=>by
       simp only[bA,pn,cM];exact .inr b
      have H:∀k,f.dst=some k->k∈bA (f::g):=λk b=>by simp[bA,b]
      have p:∀k,k∈bA g->k∈bA (f::g):=λk b=>by
       simp only[bA,pk];split
       .exact b
       .exact jg _ b
      have fin:∀ (x:Exit) (a1:Act) (w1:J),fS a (bA (o::rest.take (m-1)))
       (λZ w'=>match jT f Z with|some r=>fj P tk ops n g (as.drop m) K (c3 f.dst (.bool r) e) w'|none=>False) x a1 w1->
       x=.normal/\wpList P ops (fS a (bA ((o::rest.take (m-1))++(f::g))) K) (f::g) a1 w1:=by
       rintro x a1 w1 ⟨hx,u,M,S,h⟩;refine⟨hx,?_⟩;have I:=uW ar R u;split at h
       .rename_i r q
        simp only[wpList,uY I Q,if_true];left;unfold Oper.wp;rw[uX S q w1];simp only[Oper.upon];have L:dB (bA (f::g)) a1 (a1.put f.dst (.bool r)):=dB.put H;have:=E g (as.drop m) K (c3 f.dst (.bool r) e) (a1.put f.dst (.bool r)) w1
         (I.put λk b=>by rw[u.size];exact i k (t k (H k b)))
         (λd hd=>by rw[L.size,u.size];exact i d (t d (p d hd))) h
        refine hU (λx z w' ⟨av,y,D⟩=>⟨av,(u.mono C).trans ((L.mono t).trans (y.mono λk b=>t k (p k b))),D⟩) _ _ _ this
       .exact h.elim
      have h:=h.out
      cases c with
      |true=>
       have:=E _ _ _ _ a w (ar.lit G) (λd hd=>i d (C d hd)) (h.1 rfl);exact hU fin _ _ _ this
      |false=>
       have:=E _ _ _ _ a w (ar.lit G) (λd hd=>i d (C d hd)) (h.2 rfl);exact hU fin _ _ _ this
     .exact h.elim
    |pure m=>
     simp only[fj]at h;split at h
     .exact one o rest as i (xL h False.elim)
     .rename_i s c f g hg hd
      split at h
      .rename_i U V h1 A
       split at h
       .rename_i r1 aE aa ab
        obtain⟨Q,R,h⟩:kO ops f e=true/\lz e (bA (o::rest.take (m-1)))=true/\_:=by
         cases av:kO ops f e<;>cases y:lz e (bA (o::rest.take (m-1)))<;>rw[av,y]at h<;>first|exact h.elim|exact⟨rfl,rfl,h⟩
        rw[u0 o rest (m-1) hd]at i⊢;have G:=uZ hg;refine pN _ _ _ _ ?_;have C:∀k,k∈bA (o::rest.take (m-1))->k∈bA ((o::rest.take (m-1))++(f::g)):=λk b=>by
         simp only[bA,pn,cM];exact .inl b
        have t:∀k,k∈bA (f::g)->k∈bA ((o::rest.take (m-1))++(f::g)):=λk b=>by
         simp only[bA,pn,cM];exact .inr b
        have H:∀k,f.dst=some k->k∈bA (f::g):=λk b=>by simp[bA,b]
        have p:∀k,k∈bA g->k∈bA (f::g):=λk b=>by
         simp only[bA,pk];split
         .exact b
         .exact jg _ b
        have fin:∀ (M:Env) (r:an) (a1:Act),dB (bA (o::rest.take (m-1))) a a1->c9 M a1->jT f M=some r->r=cond c r1 aE->
         wpList P ops (fS a (bA ((o::rest.take (m-1))++(f::g))) K) (f::g) a1 w:=by
         intro M r a1 u S q ac;have I:=uW ar R u;simp only[wpList,uY I Q,if_true];left;unfold Oper.wp;rw[uX S q w];simp only[Oper.upon];have L:dB (bA (f::g)) a1 (a1.put f.dst (.bool r)):=dB.put H;have:=E g (as.drop m) K (c3 f.dst (.bool (cond c r1 aE)) e) (a1.put f.dst (.bool r)) w
          (by rw[ac];exact I.put λk b=>by rw[u.size];exact i k (t k (H k b)))
          (λd hd=>by rw[L.size,u.size];exact i d (t d (p d hd))) h
         refine hU (λx z w' ⟨av,y,D⟩=>⟨av,(u.mono C).trans ((L.mono t).trans (y.mono λk b=>t k (p k b))),D⟩) _ _ _ this
        cases c with
        |true=>
         have:=xN n _ _ _ U a w (ar.lit G) (λd hd=>i d (C d hd)) h1;exact hU (λx z w' ⟨av,y,D,T⟩=>⟨av,by subst T;exact fin U r1 z y D aa rfl⟩) _ _ _ this
        |false=>
         have:=xN n _ _ _ V a w (ar.lit G) (λd hd=>i d (C d hd)) A;exact hU (λx z w' ⟨av,y,D,T⟩=>⟨av,by subst T;exact fin V aE z y D ab rfl⟩) _ _ _ this
       .exact h.elim
      .exact h.elim
     .exact h.elim
end
end aQ
namespace aQ
open Go
structure ae(W:Nat->Prop)(w w':J):Prop where
 os:w'.os=w.os
 tape:w'.tape=w.tape
 output:w'.output=w.output
 size:w.heap.size<=w'.heap.size
 block:∀k,k<w.heap.size->¬W k->w'.heap[k]? =w.heap[k]?
theorem ae.refl(W:Nat->Prop)(w:J):ae W w w:=⟨rfl,rfl,rfl,bm _,λ_ _ _=>rfl⟩
theorem ae.trans{W:Nat->Prop}{a b c:J}(h:ae W a b)(k:ae W b c):ae W a c:=
 ⟨k.os.trans h.os,k.tape.trans h.tape,k.output.trans h.output,eo h.size k.size,λi hi d=>(k.block i (ft hi h.size) d).trans (h.block i hi d)⟩
theorem ae.mono{W V:Nat->Prop}{a b:J}(h:ae W a b)(c:∀k,k<a.heap.size->W k->V k):ae V a b:=
 ⟨h.os,h.tape,h.output,h.size,λi hi d=>h.block i hi λcF=>d (c i hi cF)⟩
theorem ae.cell{W:Nat->Prop}{w w':J}(h:ae W w w'){A:ah}(cF:¬W A.block){v:Y}(a:w.cell? A=some v):w'.cell? A=some v:=by
 have b:A.block<w.heap.size:=by
  rcases ei A.block w.heap.size with h1|h1
  .exact h1
  .simp[World.cell?,Array.getElem?_eq_none h1]at a
 unfold World.cell? at a⊢;rw[h.block _ b cF];exact a
theorem ae.bz{W:Nat->Prop}{w w':J}(h:ae W w w'){A:ah}(cF:¬W A.block):∀ (n i:Nat) (vs:O Y),bz w A i n=some vs->bz w' A i n=some vs
 |0,_,_,a=>a
 |n+1,i,vs,a=>by
  simp only[aQ.bz]at a⊢
  have c:(A.add i).block=A.block:=by unfold Addr.add;split<;>rfl
  cases h1:w.cell? (A.add i) with
  |none=>simp[h1]at a
  |some v=>
   cases b:aQ.bz w A (i+1) n with
   |none=>simp[h1,b]at a
   |some us=>
    simp only[h1,b]at a
    rw[h.cell (by rw[c];exact cF) h1,ae.bz h cF n (i+1) us b]
    exact a
def fk{α:Type}:Sem α->Prop
 | .pure _=>True
 | .program k=>∀p,fk (k p)
 | .halt _=>True
 |_=>False
theorem fk.bind{α β:Type}:∀ {s:Sem α}{f:α->Sem β},fk s->(∀a,fk (f a))->fk (s>>=f)
 | .pure a,_,_,hf=>hf a
 | .program _,_,h,hf=> λp=>fk.bind (h p) hf
 | .halt _,_,_,_=>trivial
 | .load ..,_,h,_=>h.elim
 | .store ..,_,h,_=>h.elim
 | .new ..,_,h,_=>h.elim
 | .shape ..,_,h,_=>h.elim
 | .freeze ..,_,h,_=>h.elim
 | .frozen ..,_,h,_=>h.elim
 | .getObj ..,_,h,_=>h.elim
 | .setObj ..,_,h,_=>h.elim
 | .choose ..,_,h,_=>h.elim
 | .sys ..,_,h,_=>h.elim
 | .mark ..,_,h,_=>h.elim
theorem fk.run{α:Type}{P:Program}:∀ {s:Sem α}{w w':J}{v:α},fk s->s.run P w=.ok v w'->∀u,s.run P u=.ok v u
 | .pure a,w,w',v,_,h,u=>by
  simp only[Sem.run,Result.ok.injEq]at h⊢
  exact⟨h.1,trivial⟩
 | .program k,w,w',v,hf,h,u=>fk.run (hf P) h u
 | .halt _,w,w',v,_,h,_=>by simp[Sem.run]at h
 | .load ..,_,_,_,h,_,_=>h.elim
 | .store ..,_,_,_,h,_,_=>h.elim
 | .new ..,_,_,_,h,_,_=>h.elim
 | .shape ..,_,_,_,h,_,_=>h.elim
 | .freeze ..,_,_,_,h,_,_=>h.elim
 | .frozen ..,_,_,_,h,_,_=>h.elim
 | .getObj ..,_,_,_,h,_,_=>h.elim
 | .setObj ..,_,_,_,h,_,_=>h.elim
 | .choose ..,_,_,_,h,_,_=>h.elim
 | .sys ..,_,_,_,h,_,_=>h.elim
 | .mark ..,_,_,_,h,_,_=>h.elim
theorem xP:fk program:=λ_=>trivial
theorem xQ(t:TypeId):fk (underlying t):=by
 unfold underlying;refine fk.bind xP λp=>?_;split<;>trivial
theorem BP(t:TypeId):fk (typeInfo t):=by
 unfold typeInfo;refine fk.bind xP λp=>?_;split<;>trivial
theorem BQ(t:TypeId):fk (Go.sizeOf t):=fk.bind (BP t) λ_=>trivial
theorem BR(t:TypeId):fk (isAgg t):=by
 unfold isAgg;refine fk.bind (xQ t) λd=>?_;split<;>trivial
theorem BS(t:TypeId)(cs:Array Y)(off:Nat):fk (part t cs off):=by
 unfold part;refine fk.bind (BR t) λd=>?_;split
 .exact fk.bind (BQ t) λ_=>trivial
 .split<;>trivial
theorem BT(t:TypeId)(x:Y)(i:Nat):fk (Instr.field t x i):=by
 unfold Instr.field;refine fk.bind (xQ t) λd=>?_;split
 .split
  .refine fk.bind ?_ λ_=>BS _ _ _
   unfold asAgg;split<;>trivial
  .trivial
 .trivial
def xR:Op->an
 | .move _=>true
 | .assign _=>true
 | .pick _ _ _=>true
 | .field _ _ _=>true
 |_=>false
def pQ(P:Program)(o:Oper)(K:Y->Prop)(e:Env)(w:J):Prop:=
 bif xR o.op&&known e o.op.operands then
  match (execOp (ro e) o).run P w with
  | .ok (.value v) _=>K v
  |_=>False
 else False
def nR(P:Program)(o:Oper)(K:Y->Prop)(e:Env):Prop:=
 match eG P o e with
 |some v=>K v
 |none=>False
def xS(P:Program)(T:TypeId)(x:Y)(i:Nat)(K:Y->Prop):Prop:=
 match P.underlying T with
 |some (.struct fs)=>match fs[i]? with
  |some f=>match x with
   | .pointer (some A)=>match P.underlying f.type with
    |some _=>bif Nat.beq (P.cellsOf f.type) 0 then False else K (.pointer (some (A.add f.offset)))
    |none=>False
   |_=>False
  |none=>False
 |_=>False
def xT(x:Y)(i:Nat)(K:Y->Prop):Prop:=
 match x with
 | .tuple vs=>match vs[i]? with
  |some v=>K v
  |none=>False
 |_=>False
def iA(o:Oper):an:=
 match o.op with
 | .load _ _=>true
 | .convert _ _ _=>true
 |_=>false
def jU:Nat->O Oper->Nat
 |_,[]=>0
 |i,o::l=>bif iA o then 2^i|||jU (i+1) l else jU (i+1) l
def u3(P:Program)(tk:TypeId->dv)(W:Nat->Prop)(w:J)(o:Oper)(K:Y->Prop)(e:Env):Prop:=
 match o.op with
 | .nilCheck x=>match ev e x with
  |some (.pointer p)=>∃A,p=some A/\K (.pointer (some A))
  |_=>False
 | .load T x=>match ev e x with
  |some (.pointer (some A))=>¬W A.block/\nM P tk T A w K
  |_=>False
 | .binOp op T x y _=>match ev e x,ev e y with
  |some a,some c=>bif nQ y c then ru P op T a c K (nR P o K e) else False
  |_,_=>False
 | .indexAddr T x i=>match ev e x,ev e i with
  |some a,some b=>rA P T a b K
  |_,_=>False
 | .index T x i=>match ev e x,ev e i with
  |some a,some b=>rB P tk T a b K
  |_,_=>False
 | .field T x i=>match ev e x with
  |some a=>rC P tk T a i K
  |_=>False
 | .fieldAddr T x i=>match ev e x with
  |some a=>xS P T a i K
  |_=>False
 | .extract x i=>match ev e x with
  |some a=>xT a i K
  |_=>False
 | .slice T x lo hi f=>bif known e o.op.operands then
  rD P T (ro e x) (lo.map (ro e)) (hi.map (ro e)) (f.map (ro e)) K
  else False
 | .convert s d x=>match ev e x with
  |some (.int _ _)=>nR P o K e
  |some v=>gW (tk o.type) λr=>(∀w',ae W w w'->(convert s d v).run P w'=.ok r w')/\K r
  |none=>False
 | .build t g=>bif known e o.op.operands then
  ∃cs:Array Y,(∀w',(Instr.build t (g.map λp=>(p.1,ro e p.2))).run P w'=.ok (.agg cs) w')/\K (.agg cs)
  else False
 | .unOp _ _ _=>nR P o K e
 | .call _=>nR P o K e
 | .move _=>pQ P o K e w
 | .assign _=>pQ P o K e w
 | .pick _ _ _=>pQ P o K e w
 | .sliceToArrayPointer T x=>match ev e x with
  |some a=>rz P T a K
  |_=>False
 |_=>False
section
variable {P:Program}{tk:TypeId->dv}{W:Nat->Prop}{o:Oper}{K:Y->Prop}{e:Env}{a:Act}{w:J}
theorem u4(ar:c9 e a)(h:pQ P o K e w):∃v,(∀w',(execOp a.eval o).run P w'=.ok (.value v) w')/\K v:=by
 unfold pQ at h
 cases hf:xR o.op with
 |false=>rw[hf]at h;exact h.elim
 |true=>
  cases c:known e o.op.operands with
  |false=>rw[hf,c]at h;exact h.elim
  |true=>
   rw[hf,c]at h;simp only[Bool.and_self,cond_true]at h;have hc:=jt ar (by cases b:o.op<;>rw[b]at hf<;>first|rfl|cases hf) c;rw[hc];split at h
   .rename_i v w' d
    refine⟨v,λu=>fk.run ?_ d u,h⟩
    cases b:o.op<;>rw[b]at hf<;>first|(cases hf;done)|skip
    .simp only[execOp,b];trivial
    .simp only[execOp,b];trivial
    .simp only[execOp,b]
     refine fk.bind ?_ λ_=>trivial;unfold asBool;split<;>trivial
    .simp only[execOp,b]
     exact fk.bind (BT _ _ _) λ_=>trivial
   .exact h.elim
theorem rH(ar:c9 e a)(h:nR P o K e):∃v,(∀w',(execOp a.eval o).run P w'=.ok (.value v) w')/\K v:=by
 unfold nR at h;split at h
 .rename_i v b
  exact⟨v,xM ar b,h⟩
 .exact h.elim
theorem BU(ar:c9 e a)(h:u3 P tk W w o K e):∃v,(∀w',(iA o=true->ae W w w')->(execOp a.eval o).run P w'=.ok (.value v) w')/\K v:=by
 have aZ:(∃v,(∀w',(execOp a.eval o).run P w'=.ok (.value v) w')/\K v)->∃v,(∀w',(iA o=true->ae W w w')->(execOp a.eval o).run P w'=.ok (.value v) w')/\K v:=
  λ⟨v,h1,F⟩=>⟨v,λw' _=>h1 w',F⟩
 unfold u3 at h;split at h
 case h_1 x b=>
  split at h
  .rename_i p hx
   obtain⟨A,rfl,g⟩:=h;exact⟨_,λw' _=>by simp[execOp,b,ar.ev hx],g⟩
  .exact h.elim
 case h_2 T x b=>
  split at h
  .rename_i A hx
   obtain⟨cF,h⟩:=h;have key:∃v,(∀w',ae W w w'->(Instr.loadAt T (.pointer (some A))).run P w'=.ok v w')/\K v:=by
    have z:∀w',(Instr.loadAt T (.pointer (some A))).run P w'=(loadVar T A).run P w':=λw'=>by simp[Instr.loadAt,Instr.sureAddr]
    unfold nM at h;split at h
    .exact h.elim
    .rename_i d m
     cases hd:gG d with
     |true=>
      rw[hd]at h;simp only[cond_true]at h;split at h
      .rename_i ls _
       by_cases n:Nat.beq (P.cellsOf T) ls.length=true
       .rw[n]at h
        simp only[cond_true]at h;obtain⟨vs,C,h⟩:=uU h;rw[←g2 n]at C;exact⟨_,λw' hc=>by rw[z,rr m hd (hc.bz cF _ _ _ C)],h⟩
       .simp only[e8]at n;rw[n]at h;exact h.elim
      .obtain⟨cs,G,h⟩:=h
       exact⟨_,λw' hc=>by rw[z,rr m hd (hc.bz cF _ _ _ G)],h⟩
     |false=>
      rw[hd]at h;simp only[cond_false]at h;split at h
      .obtain⟨v,j,h⟩:=nK h
       exact⟨v,λw' hc=>by rw[z,xr m hd (hc.cell cF j)],h⟩
      .exact h.elim
   obtain⟨v,j,g⟩:=key;exact⟨v,λw' hc=>by simp[execOp,b,ar.ev hx,j w' (hc (by unfold iA;rw[b]))],g⟩
  .exact h.elim
 case h_3 op T x y M b=>
  split at h
  .rename_i l D hx H
   by_cases q:nQ y D=true
   .rw[q]at h
    simp only[cond_true]at h;have I:D=.nilIface->∃c,y=.const c:=by
     intro j;subst j
     cases y<;>simp[nQ]at q⊢
    rcases xy (pI:=x) (nP:=y) I h with hg|⟨v,j,g⟩
    .exact aZ (rH ar hg)
    .exact⟨v,λw' _=>by
      simp only[execOp,b,ar.ev hx,ar.ev H];have E:=j w';simp only[Sem.run_bind]at E⊢;rw[E];rfl,g⟩
   .simp only[e8]at q;rw[q]at h;exact h.elim
  .exact h.elim
 case h_4 T x i b=>
  split at h
  .rename_i l J hx hi
   obtain⟨v,j,g⟩:=xA h;exact⟨v,λw' _=>by simp[execOp,b,ar.ev hx,ar.ev hi,j],g⟩
  .exact h.elim
 case h_5 T x i b=>
  split at h
  .rename_i l J hx hi
   obtain⟨v,j,g⟩:=xC h;exact⟨v,λw' _=>by simp[execOp,b,ar.ev hx,ar.ev hi,j],g⟩
  .exact h.elim
 case h_6 T x i b=>
  split at h
  .rename_i l hx
   obtain⟨v,j,g⟩:=xD h;exact⟨v,λw' _=>by simp[execOp,b,ar.ev hx,j],g⟩
  .exact h.elim
 case h_7 T x i b=>
  split at h
  .rename_i l hx
   unfold xS at h;split at h
   .rename_i fs m
    split at h
    .rename_i f hf
     split at h
     .rename_i A
      split at h
      .rename_i d hd
       cases u:Nat.beq (P.cellsOf f.type) 0 with
       |true=>rw[u]at h;exact h.elim
       |false=>
        rw[u]at h;have L:¬P.cellsOf f.type=0:=λh0=>by rw[h0]at u;cases u
        exact⟨_,λw' _=>by simp[execOp,b,ar.ev hx,Instr.fieldAt,cW m,hf,Instr.sureAddr,fieldPlace,gH hd,L],h⟩
      .exact h.elim
     .exact h.elim
    .exact h.elim
   .exact h.elim
  .exact h.elim
 case h_8 x i b=>
  split at h
  .rename_i l hx
   unfold xT at h;split at h
   .rename_i vs
    split at h
    .rename_i v j
     exact⟨v,λw' _=>by simp[execOp,b,ar.ev hx,Instr.extract,j],h⟩
    .exact h.elim
   .exact h.elim
  .exact h.elim
 case h_9 T x lo hi N b=>
  by_cases k:known e o.op.operands=true
  .rw[k]at h
   simp only[cond_true]at h;have hc:=jt ar (by rw[b];rfl) k;obtain⟨v,j,g⟩:=xE h;exact⟨v,λw' _=>by rw[hc];simp[execOp,b,j],g⟩
  .simp only[e8]at k;rw[k]at h;exact h.elim
 case h_10 s d x b=>
  split at h
  .exact aZ (rH ar h)
  .rename_i v _ hx
   obtain⟨r,B,g⟩:=g6 h;exact⟨r,λw' hc=>by simp[execOp,b,ar.ev hx,B w' (hc (by unfold iA;rw[b]))],g⟩
  .exact h.elim
 case h_11 t O b=>
  by_cases k:known e o.op.operands=true
  .rw[k]at h
   simp only[cond_true]at h;have hc:=jt ar (by rw[b];rfl) k;obtain⟨cs,B,g⟩:=h;exact⟨_,λw' _=>by rw[hc];simp[execOp,b];rw[B];rfl,g⟩
  .simp only[e8]at k;rw[k]at h;exact h.elim
 case h_12=>exact aZ (rH ar h)
 case h_13=>exact aZ (rH ar h)
 case h_14=>exact aZ (u4 ar h)
 case h_15=>exact aZ (u4 ar h)
 case h_16=>exact aZ (u4 ar h)
 case h_17 T x b=>
  split at h
  .rename_i l hx
   obtain⟨v,j,g⟩:=xz h;exact⟨v,λw' _=>by simp[execOp,b,ar.ev hx,j],g⟩
  .exact h.elim
 case h_18=>exact h.elim
end
inductive aP where
 |take (i:Nat) (t:aP)
 |bZ (i:Nat) (t:aP)
 |out (i:Nat) (b:an) (t:aP)
 |two (i:Nat) (t:aP) (j:Nat) (u:aP)
 |three (i:Nat) (t:aP) (j:Nat) (u:aP) (k:Nat) (v:aP)
 |sp (s:Nat) (t u:aP)
 |fin
 |tail (as:O jS)
def gX:O Nat->Nat
 | []=>0
 |d::l=>2^d|||gX l
theorem kQ:∀ (l:O Nat) (k:Nat),(gX l).testBit k=decide (k∈l)
 | [],k=>by simp[gX]
 |d::l,k=>by
  simp only[gX,lg,kQ l k,po]
  by_cases h:d=k
  .subst h;simp
  .have:¬k=d:=λa=>h a.symm
   simp[h,this]
def lA(o:Oper):O Nat:=(o.after.toList.filter λe=>Region.binds .any e).map (·.on)
structure ju where
 M:O Nat
 A:O Nat
def jv(l:O Nat)(i:Nat):Nat:=l.getD i 0
def jw(bJ:ju)(m i:Nat):an:= !(m.testBit i)&&Nat.beq (jv bJ.M i&&&m) (jv bJ.M i)
def xU(bJ:ju)(N m i:Nat):an:=Nat.beq (jv bJ.A i&&&((2^N-1)^^^m)) 0
def jV(bJ:ju)(m:Nat)(is:O Nat):Nat->an
 |0=>true
 |k+1=>(is.any (Nat.beq k)|| !(jw bJ m k))&&jV bJ m is k
def pR(bJ:ju):Nat->O Oper->an
 |_,[]=>true
 |i,o::l=>Nat.beq (gX (lA o)) (jv bJ.M i)&&pR bJ (i+1) l
def pS(M:O Nat)(a i b c:Nat):Nat->O Nat->O Nat->O Nat->an
 |j,e::f,d::g,h::k=>(a.testBit j||(Nat.beq i j||(e.testBit i||(Nat.beq (b&&&(h|||d)) 0&&Nat.beq (d&&&c) 0))))&&pS M a i b c (j+1) f g k
 |_,_,_,_=>true
def rI(bJ:ju)(D K:O Nat):Nat->O Nat->O Nat->an
 |i,d::a,k::b=>pS bJ.M (jv bJ.A i) i d k 0 bJ.M D K&&rI bJ D K (i+1) a b
 |_,_,_=>true
def xV(ops:O Oper):O Nat:=ops.map λo=>gX o.dst.toList
def xW(a:Array Oper)(ops:O Oper):O Nat:=ops.map λo=>gX (o.looksAt a)
def pT:O Nat->O Nat->an
 | [],[]=>true
 |a::l,b::r=>Nat.beq a b&&pT l r
 |_,_=>false
theorem u5:∀ {l r:O Nat},pT l r=true->l=r
 | [],[],_=>rfl
 |a::l,b::r,h=>by
  simp only[pT,dt]at h
  rw[g2 h.1,u5 h.2]
def kl(bJ:ju)(D K:O Nat)(a:Array Oper):an:=
 Nat.beq bJ.M.length a.size&&(pR bJ 0 a.toList&&(pT (xV a.toList) D&&(pT (xW a a.toList) K&&rI bJ D K 0 D K)))
def pU(bJ:ju):Nat->Nat->Nat->Nat->an
 |0,_,N,m=>jV bJ m [] N
 |g+1,k,N,m=>(jw bJ m k&&jV bJ m [k] N)&&pU bJ g (k+1) N (m|||2^k)
def dy(P:Program)(tk:TypeId->dv)(ops:Array Oper)(n:Nat)(bJ:ju)(W:Nat->Prop):aP->Nat->Nat->(Env->J->Prop)->Env->J->Prop
 | .take i t,f+1,m,K,e,w=>
  bif jw bJ m i&&(xU bJ ops.size m i&&Nat.blt i n) then
   match ops[i]? with
   |some o=>gj ops o e (u3 P tk W w o (λv=>dy P tk ops n bJ W t f (m|||2^i) K (c3 o.dst v e) w) e) (dy P tk ops n bJ W t f (m|||2^i) K (c3 o.dst undef e) w)
   |none=>False
  else False
 | .bZ i t,f+1,m,K,e,w=>
  bif (jw bJ m i&&jV bJ m [i] ops.size)&&Nat.blt i n then
   match ops[i]? with
   |some o=>gj ops o e (iz P tk o (λv w'=>ae W w w'/\dy P tk ops n bJ W t f (m|||2^i) K (c3 o.dst v e) w') e w) (dy P tk ops n bJ W t f (m|||2^i) K (c3 o.dst undef e) w)
   |none=>False
  else False
 | .out i b t,f+1,m,K,e,w=>
  bif (jw bJ m i&&jV bJ m [i] ops.size)&&(Nat.blt i n&&Nat.beq ((jU 0 ops.toList&&&m)&&&jv bJ.M i) (jU 0 ops.toList&&&m)) then
   match ops[i]? with
   |some o=>gj ops o e (iz P tk o (λv w'=>bif b then ∃V:Nat->Prop,dy P tk ops n bJ V t f (m|||2^i) K (c3 o.dst v e) w' else dy P tk ops n bJ W t f (m|||2^i) K (c3 o.dst v e) w') e w) (dy P tk ops n bJ W t f (m|||2^i) K (c3 o.dst undef e) w)
   |none=>False
  else False
 | .two i t j u,f+1,m,K,e,w=>
  bif (jw bJ m i&&jV bJ m [i,j] ops.size)&&(Nat.blt i n&&Nat.blt j n) then
   match ops[i]?,ops[j]? with
   |some o,some q=>
    gj ops o e (iz P tk o (λv w'=>ae W w w'/\dy P tk ops n bJ W t f (m|||2^i) K (c3 o.dst v e) w') e w) (dy P tk ops n bJ W t f (m|||2^i) K (c3 o.dst undef e) w)/\
    gj ops q e (iz P tk q (λv w'=>ae W w w'/\dy P tk ops n bJ W u f (m|||2^j) K (c3 q.dst v e) w') e w) (dy P tk ops n bJ W u f (m|||2^j) K (c3 q.dst undef e) w)
   |_,_=>False
  else False
 | .three i t j u k x,f+1,m,K,e,w=>
  bif (jw bJ m i&&jV bJ m [i,j,k] ops.size)&&(Nat.blt i n&&(Nat.blt j n&&Nat.blt k n)) then
   match ops[i]?,ops[j]?,ops[k]? with
   |some o,some q,some r=>
    gj ops o e (iz P tk o (λv w'=>ae W w w'/\dy P tk ops n bJ W t f (m|||2^i) K (c3 o.dst v e) w') e w) (dy P tk ops n bJ W t f (m|||2^i) K (c3 o.dst undef e) w)/\
    gj ops q e (iz P tk q (λv w'=>ae W w w'/\dy P tk ops n bJ W u f (m|||2^j) K (c3 q.dst v e) w') e w) (dy P tk ops n bJ W u f (m|||2^j) K (c3 q.dst undef e) w)/\
    gj ops r e (iz P tk r (λv w'=>ae W w w'/\dy P tk ops n bJ W x f (m|||2^k) K (c3 r.dst v e) w') e w) (dy P tk ops n bJ W x f (m|||2^k) K (c3 r.dst undef e) w)
   |_,_,_=>False
  else False
 | .sp s t u,f,m,K,e,w=>
  match e.get s with
  |some (.bool c)=>(c=true->dy P tk ops n bJ W t f m K ((s,.bool true)::e) w)/\(c=false->dy P tk ops n bJ W u f m K ((s,.bool false)::e) w)
  |_=>False
 | .fin,0,m,K,e,w=>bif jV bJ m [] ops.size&&Nat.beq n ops.size then K e w else False
 | .tail as,0,m,K,e,w=>bif pU bJ (ops.size-n) n ops.size m&&Nat.blt n ops.size then fj P tk ops (ops.size-n+1) (ops.toList.drop n) as K e w else False
 |_,_,_,_,_,_=>False
def dZ(N m:Nat):Array an:=(Array.range N).map λi=>m.testBit i
theorem nS{N m i:Nat}{d:an}(h:i<N):(dZ N m).getD i d=m.testBit i:=by
 simp[dZ,h]
theorem BV{N m i:Nat}{d:an}(h:N<=i):(dZ N m).getD i d=d:=by
 simp[dZ,h]
theorem rJ(N m i:Nat):(dZ N m).setIfInBounds i true=dZ N (m|||2^i):=by
 apply Array.ext
 .simp[dZ]
 .intro j h1 b
  have c:j<N:=by simpa[dZ] using b
  have d:j<(dZ N m).size:=by simpa[dZ] using c
  rw[Array.getElem_setIfInBounds d];simp only[dZ,Array.getElem_map,Array.getElem_range,lg,po];by_cases a:i=j
  .subst a;simp
  .simp[a]
theorem xX(N:Nat):dZ N 0=Array.replicate N false:=by
 apply Array.ext
 .simp[dZ]
 .intro j h1 a
  simp[dZ]
section
variable {ops:Array Oper}{bJ:ju}{D K:O Nat}
theorem xY:∀ (l:O Oper) (i k:Nat) (o:Oper),pR bJ i l=true->l[k]? =some o->jv bJ.M (i+k)=gX (lA o)
 | [],_,_,_,_,h=>by simp at h
 |p::l,i,0,o,hc,h=>by
  simp only[pR,dt]at hc
  simp only[me,Option.some.injEq]at h
  subst h
  exact(g2 hc.1).symm
 |p::l,i,k+1,o,hc,h=>by
  simp only[pR,dt]at hc
  have:=xY l (i+1) k o hc.2 (by simpa using h)
  rw[show i+(k+1)=i+1+k from I]
  exact this
theorem rK(h:kl bJ D K ops=true){i:Nat}{o:Oper}(a:ops[i]? =some o):jv bJ.M i=gX (lA o):=by
 simp only[kl,dt]at h;have:=xY ops.toList 0 i o h.2.1 (by simpa using a);simpa using this
theorem xZ{a b:Nat}(h:a&&&b=a){k:Nat}(c:a.testBit k=true):b.testBit k=true:=by
 have:=congrArg (λx=>x.testBit k) h;simp only[Nat.testBit_and,c,h7]at this;exact this
theorem x0:∀ (l:O Oper) (i k:Nat) (o:Oper),l[k]? =some o->(jU i l).testBit (i+k)=iA o
 | [],_,_,_,h=>by simp at h
 |p::l,i,0,o,h=>by
  simp only[me,Option.some.injEq]at h
  subst h
  have low:∀ (l:O Oper) (i k:Nat),k<i->(jU i l).testBit k=false:=by
   intro l
   induction l with
   |nil=>intro i k _;simp[jU]
   |cons q l a=>
    intro i k b;simp only[jU]
    cases iA q
    .exact a (i+1) k I
    .simp only[cond_true,lg,po,a (i+1) k I,Bool.or_false,jh]
     omega
  simp only[jU,kf]
  cases iA p
  .exact low l (i+1) i I
  .simp[lg]
 |p::l,i,k+1,o,h=>by
  have:=x0 l (i+1) k o (by simpa using h);rw[show i+1+k=i+(k+1) from I]at this;simp only[jU]
  cases iA p
  .exact this
  .simp only[cond_true,lg,po,this]
   simp
theorem rL{o:Oper}{k:Nat}:k∈lA o↔∃e∈o.after,Region.binds .any e=true/\e.on=k:=by
 simp only[lA,e9,gE,Array.mem_toList_iff];constructor
 .rintro⟨e,⟨h1,a⟩,b⟩;exact⟨e,h1,a,b⟩
 .rintro⟨e,h1,a,b⟩;exact⟨e,⟨h1,a⟩,b⟩
def Small(N m:Nat):Prop:=∀k,N<=k->m.testBit k=false
theorem BW(N:Nat):Small N 0:=λk _=>by simp
theorem rM{N m i:Nat}(h:Small N m)(hi:i<N):Small N (m|||2^i):=λk a=>by
 simp only[lg,h k a,po,lh,jh]
 omega
theorem rN(hc:kl bJ D K ops=true){m i:Nat}(g:Small ops.size m):i∈Region.ready .any ops (dZ ops.size m)↔i<ops.size/\jw bJ m i=true:=by
 rw[mem_ready];constructor
 .rintro⟨h1,o,b,j⟩
  have hi:i<ops.size:=(kH.1 b).1;refine⟨hi,?_⟩;rw[nS hi]at h1;simp only[jw,h1,Bool.not_false,h7];rw[rK hc b];have:gX (lA o)&&&m=gX (lA o):=by
   apply Nat.eq_of_testBit_eq;intro k;simp only[Nat.testBit_and,kQ];by_cases c:k∈lA o
   .obtain⟨e,he,d,l⟩:=rL.1 c
    have a:=j e he d;rw[l]at a;rcases ei k ops.size with aK|n
    .rw[nS aK]at a;simp[c,a]
    .rw[BV n]at a;cases a
   .simp[c]
  rw[this];exact Nat.beq_refl _
 .rintro⟨hi,h⟩
  simp only[jw,dt,iK]at h;have b:ops[i]? =some ops[i]:=by simp[hi]
  refine⟨by rw[nS hi];exact h.1,ops[i],b,λe he d=>?_⟩;have a:=g2 h.2;rw[rK hc b]at a;have f:m.testBit e.on=true:=xZ a (by
   rw[kQ];simp only[cx];exact rL.2 ⟨e,he,d,rfl⟩)
  have aK:e.on<ops.size:=by
   rcases ei e.on ops.size with h|h
   .exact h
   .rw[g _ h]at f;cases f
  rw[nS aK];exact f
theorem x1:∀ (N:Nat) {m:Nat}{is:O Nat},jV bJ m is N=true->∀k,k<N->jw bJ m k=true->k∈is
 |0,_,_,_,k,c,_=>by omega
 |N+1,m,is,h,k,c,b=>by
  simp only[jV,dt,h8,iK]at h
  rcases ei k N with h1|h1
  .exact x1 N h.2 k h1 b
  .have:k=N:=by omega
   subst this
   rcases h.1 with a|a
   .obtain⟨x,hx,d⟩:=List.any_eq_true.1 a
    rw[g2 d];exact hx
   .rw[b]at a;cases a
theorem mx(hc:kl bJ D K ops=true){m:Nat}{is:O Nat}(a:Small ops.size m)(h:jV bJ m is ops.size=true):
 ∀k∈Region.ready .any ops (dZ ops.size m),k∈is:=λk b=>
 let ⟨h1,c⟩:=(rN hc a).1 b
 x1 _ h k h1 c
theorem x2:∀ (b c d:O Nat) (n:O Nat) (e i f g j k:Nat) (l a m:Nat),pS n e i f g j b c d=true->b[k]? =some l->c[k]? =some a->d[k]? =some m->
 e.testBit (j+k)=true\/i=j+k\/l.testBit i=true\/(f&&&(m|||a)=0/\a&&&g=0)
 | [],_,_,_,_,_,_,_,_,_,_,_,_,_,h,_,_=>by simp at h
 |_::_,[],_,_,_,_,_,_,_,_,_,_,_,_,_,h,_=>by simp at h
 |_::_,_::_,[],_,_,_,_,_,_,_,_,_,_,_,_,_,h=>by simp at h
 |q::b,r::c,s::d,n,e,i,f,g,j,k,l,a,m,hc,h1,o,p=>by
  simp only[pS,dt,h8]at hc
  cases k with
  |zero=>
   simp only[me,Option.some.injEq]at h1 o p
   subst h1 o p
   rcases hc.1 with h|h|h|h
   .exact .inl h
   .exact .inr (.inl (g2 h))
   .exact .inr (.inr (.inl h))
   .exact .inr (.inr (.inr ⟨g2 h.1,g2 h.2⟩))
  |succ k=>
   have:=x2 b c d n e i f g (j+1) k l a m hc.2 (by simpa using h1) (by simpa using o) (by simpa using p)
   rw[show j+(k+1)=j+1+k from I]
   exact this
theorem x3:∀ (a b:O Nat) (i k:Nat) (c e:Nat),rI bJ D K i a b=true->a[k]? =some c->b[k]? =some e->
 pS bJ.M (jv bJ.A (i+k)) (i+k) c e 0 bJ.M D K=true
 | [],_,_,_,_,_,_,h,_=>by simp at h
 |_::_,[],_,_,_,_,_,_,h=>by simp at h
 |d::a,g::b,i,k,c,e,hc,h1,f=>by
  simp only[rI,dt]at hc
  cases k with
  |zero=>
   simp only[me,Option.some.injEq]at h1 f
   subst h1 f
   exact hc.1
  |succ k=>
   have:=x3 a b (i+1) k c e hc.2 (by simpa using h1) (by simpa using f)
   rw[show i+(k+1)=i+1+k from I]
   exact this
theorem u6{a b:Nat}(h:a&&&b=0){k:Nat}(c:a.testBit k=true):b.testBit k=false:=by
 have:=congrArg (λx=>x.testBit k) h;simp only[Nat.testBit_and,c,h7,Nat.zero_testBit]at this;exact this
theorem BX{x y:Oper}(h1:gX x.dst.toList&&&(gX (y.looksAt ops)|||gX y.dst.toList)=0)(b:gX y.dst.toList&&&gX (x.looksAt ops)=0):
 x.apart ops y=true:=by
 unfold Oper.apart;simp only[dt];refine⟨?_,?_⟩
 .cases hx:x.dst with
  |none=>rfl
  |some d=>
   rw[hx]at h1;have a:=u6 h1 (k:=d) (by rw[kQ];simp);simp only[lg,kQ,pq,jh]at a;simp only[dt,iK,bne_iff_ne,ne_eq];refine⟨by simpa using a.1,λh=>?_⟩;rw[h]at a;simp at a
 .cases c:y.dst with
  |none=>rfl
  |some d=>
   rw[c]at b;have a:=u6 b (k:=d) (by rw[kQ];simp);simp only[kQ,jh]at a;simpa using a
theorem BY(hc:kl bJ D K ops=true){m i:Nat}{d:Oper}(hi:ops[i]? =some d)(h:xU bJ ops.size m i=true):
 ∀j a,ops[j]? =some a->j≠i->(dZ ops.size m).getD j true=false->(∀e∈a.after,Region.binds .any e=true->e.on≠i)->d.apart ops a=true:=by
 intro j a b p f q;have r:=hc;simp only[kl,dt]at hc;obtain⟨hlen,C,s,t,ar⟩:=hc;have E:=g2 hlen;have u:=u5 s;have v:=u5 t;have g:j<ops.size:=(kH.1 b).1;have l:∀ {k:Nat}{o:Oper},ops[k]? =some o->D[k]? =some (gX o.dst.toList):=λ{k o} c=>by
  rw[←u];simp[xV,c]
 have n:∀ {k:Nat}{o:Oper},ops[k]? =some o->K[k]? =some (gX (o.looksAt ops)):=λ{k o} c=>by
  rw[←v];simp[xW,c]
 have w:=x3 D K 0 i _ _ ar (l hi) (n hi);have x:bJ.M[j]? =some (jv bJ.M j):=by
  unfold jv;have:j<bJ.M.length:=by omega
  simp[List.getD,this]
 have:=x2 bJ.M D K bJ.M _ _ _ _ 0 j _ _ _ w x (l b) (n b);simp only[cS]at this;rcases this with h1|h1|h1|h1
 .exfalso
  have y:=g2 h;have z:=u6 y h1;rw[nS g]at f;simp[Nat.testBit_xor,Nat.testBit_two_pow_sub_one,g,f]at z
 .exact absurd h1.symm p
 .exfalso
  rw[rK r b,kQ]at h1;simp only[cx]at h1;obtain⟨e,he,A,B⟩:=rL.1 h1;exact q e he A B
 .exact BX h1.1 h1.2
end
def my(ops:Array Oper)(listed:Array an)(j:Nat):Prop:=
 ∀k ok a,ops[k]? =some ok->ops[j]? =some a->iA ok=true->listed.getD k false=true->∃e∈a.after,Region.binds .any e=true/\e.on=k
def km(P:Program)(ops:Array Oper)(Q:Exit->Act->J->Prop)(n:Nat)(L:Array an->Act->J->Prop):Nat->(J->Prop)->Array an->Act->J->Prop
 |0,_,listed,a,w=>L listed a w
 |f+1,S,listed,a,w=>Region.ready .any ops listed≠ []/\
  ∀i∈Region.ready .any ops listed,i<n/\wpOp P ops Q i (λb w'=>∃aF:J->Prop,((∀x,aF x->S x)\/my ops listed i)/\aF w'/\km P ops Q n L f aF (listed.setIfInBounds i true) b w') a w
def pV(ops:Array Oper)(n:Nat):Prop:=
 ∀listed,HeadInv .any ops n listed->∀i,i<n->listed.getD i true=false->∀t,n<=t->t∉Region.ready .any ops listed
theorem BZ(ops:Array Oper):pV ops ops.size:=by
 intro listed _ i _ _ t ht a;obtain⟨_,o,b,_⟩:=mem_ready.1 a;have:=(kH.1 b).1;omega
theorem B0{ops:Array Oper}{n:Nat}(hs:Region.sinkB .any ops n=true)(hc:Region.chainB .any ops n=true)(a:n<ops.size):pV ops n:=
 λ_ inv i hi b t ht=>tail_waits hs hc a inv _ i rfl hi b t ht
section
variable {P:Program}{ops:Array Oper}{Q:Exit->Act->J->Prop}{n:Nat}{L:Array an->Act->J->Prop}
theorem YieldsIf.mono{S aF:J->Prop}{o:Oper}{v:Y}{a:Act}(h:YieldsIf P ops S o v a)(hs:∀x,aF x->S x):YieldsIf P ops aF o v a:=
 h.imp (λ⟨h1,b⟩=>⟨h1,λw c=>b w (hs w c)⟩) id
theorem B1(E:pV ops n){i:Nat}{l:Oper}{v:Y}(hi:ops[i]? =some l)(F:∀ (j:Nat) (o:Oper) cs b,ops[j]? =some o->o.op≠ .select cs b)
 (ac:∀c a w,Q (.panic c) (a.put l.dst v) w->Q (.panic c) a w) (G:i<n) (ad:∀listed a w,L listed a w->∀j∈Region.ready .any ops listed,n<=j):
 ∀ (f:Nat) (S T:J->Prop) (listed:Array an) (a:Act) (w:J),(∀x,S x->T x)->(iA l=true\/∀x,T x)->HeadInv .any ops n listed->
  (∀j q,ops[j]? =some q->j≠i->listed.getD j true=false->(∀e∈q.after,Region.binds .any e=true->e.on≠i)->l.apart ops q=true)->
  i∈Region.ready .any ops listed->YieldsIf P ops T l v a->S w->
  km P ops Q n L f S (listed.setIfInBounds i true) (a.put l.dst v) w->km P ops Q n L (f+1) S listed a w:=by
 intro f
 induction f with
 |zero=>
  intro S T listed a w u I inv _ m y s H;have d:=(mem_ready.1 m).1;refine⟨λh=>(by rw[h]at m;cases m),λj r=>?_⟩;have t:j<n:=by
   rcases ei j n with h|h
   .exact h
   .exact absurd r (E listed inv i G d j h)
  refine⟨t,?_⟩;by_cases p:j=i
  .subst p;exact(YieldsIf.mono y u).wpOp hi s ⟨S,.inl λ_ h=>h,s,H⟩
  .have:=ad _ _ _ H j (ready_mono r p)
   omega
 |succ f K=>
  intro S T listed a w u I inv M m y s H;have d:=(mem_ready.1 m).1;refine⟨λh=>(by rw[h]at m;cases m),λj r=>?_⟩;have t:j<n:=by
   rcases ei j n with h|h
   .exact h
   .exact absurd r (E listed inv i G d j h)
  refine⟨t,?_⟩;by_cases p:j=i
  .subst p;exact(YieldsIf.mono y u).wpOp hi s ⟨S,.inl λ_ h=>h,s,H⟩
  .have h1:=(H.2 j (ready_mono r p)).2
   obtain⟨N,q,z,ae⟩:=mem_ready.1 r;have O:∀e∈q.after,Region.binds .any e=true->e.on≠i:=λe he B af=>by
    have h1:=ae e he B;rw[af,getD_both d]at h1
    cases h1
   have ag:=wpOp_putIf z (M j q z p N O) (λcs b=>F i l cs b hi) (λcs b=>F j q cs b z) ac y h1;have R:∀k ok,ops[k]? =some ok->k≠i->(listed.setIfInBounds j true).getD k true=false->
    (∀e∈ok.after,Region.binds .any e=true->e.on≠i)->l.apart ops ok=true:=λk ok C ah d ai=>by
    refine M k ok C ah ?_ ai;by_cases U:j=k
    .subst U;exact N
    .rw[getD_set_ne true U]at d;exact d
   refine wpOp_mono (λV w' aj=>?_) ag;obtain⟨W,aF,X,A,ak⟩:=aj;have D:=ak;rw[←Array.setIfInBounds_comm _ _ p]at D;have al:my ops (listed.setIfInBounds i true) j->my ops listed j:=λam k ok ao C ap hs g=>am k ok ao C ap hs (by
    by_cases Z:i=k
    .subst Z
     have:listed.getD i true=true:=by
      simp only[Array.getD]at g⊢;split at g
      .rename_i aK;simp[aK]at g⊢;exact g
      .cases g
     rw[this]at d;cases d
    .simp only[Array.getD,Array.size_setIfInBounds]at g⊢
     split at g
     .rename_i aK
      simp only[aK,dif_pos];simp only[Array.getInternal_eq_getElem]at g⊢;rw[Array.getElem_setIfInBounds_ne _ Z];exact g
     .cases g)
   rcases I with hs|aa
   .have ab:∀x,aF x->S x:=by
     rcases X with h|h
     .exact h
     .exfalso
      obtain⟨e,he,B,aq⟩:=h i l q hi z hs (by
       have aK:i<listed.size:=by
        rcases ei i listed.size with h|h
        .exact h
        .simp[Array.getD,Nat.not_lt.2 h]at d
       simp[Array.getD,aK])
      exact O e he B aq
    exact⟨aF,.inl ab,A,K aF T (listed.setIfInBounds j true) V w' (λx hx=>u x (ab x hx)) (.inl hs) (inv.set r t) R (ready_mono m (Ne.symm p)) W A D⟩
   .exact⟨aF,X.imp id al,A,K aF T (listed.setIfInBounds j true) V w' (λx _=>aa x) (.inr aa) (inv.set r t) R (ready_mono m (Ne.symm p)) W A D⟩
theorem x4{g:Nat}(b:∀listed a w,L listed a w->wpAny P .any ops Q g listed a w):
 ∀ (f:Nat) (S:J->Prop) (listed:Array an) (a:Act) (w:J),km P ops Q n L f S listed a w->wpAny P .any ops Q (f+g) listed a w
 |0,_,listed,a,w,h=>by rw[cS];exact b _ _ _ h
 |f+1,S,listed,a,w,h=>by
  rw[show f+1+g=(f+g)+1 from I]
  exact⟨λh0=>absurd h0 h.1,λi hi=>wpOp_mono (λc w' ⟨aF,_,_,d⟩=>x4 b f aF _ c w' d) (h.2 i hi).2⟩
def LE(P:Program)(ops:Array Oper)(Q:Exit->Act->J->Prop)(n:Nat)(listed:Array an)(a:Act)(w:J):Prop:=
 (Region.ready .any ops listed=[]/\n=ops.size/\Q .normal a w)\/
 (Region.seqB .any ops (ops.size-n) n listed=true/\n<ops.size/\wpList P ops Q (ops.toList.drop n) a w)
theorem B2:∀listed a w,LE P ops Q n listed a w->∀j∈Region.ready .any ops listed,n<=j:=by
 rintro listed a w (⟨h,_,_⟩|⟨h,c,_⟩) j b
 .rw[h]at b;cases b
 .exact seqB_ready h j b
theorem B3:∀listed a w,LE P ops Q n listed a w->wpAny P .any ops Q (ops.size-n) listed a w:=by
 rintro listed a w (⟨h,c,b⟩|⟨h,c,b⟩)
 .subst c
  rw[nB];exact⟨h,b⟩
 .have:=wpAny_of_seq (md:=.any) (P:=P) (Q':=Q) (ops.toList.drop n) n listed a w (λj=>by simp[q7]) (by simpa using h) b
  simpa using this
end
section
variable {P:Program}{tk:TypeId->dv}{ops:Array Oper}{n:Nat}{bJ:ju}{D0 dD:O Nat}{W:Nat->Prop}
theorem x5(hc:kl bJ D0 dD ops=true):∀ (g k m:Nat),Small ops.size m->k+g=ops.size->pU bJ g k ops.size m=true->Region.seqB .any ops g k (dZ ops.size m)=true
 |0,k,m,c,e,h=>by
  simp only[pU]at h
  simp only[Region.seqB,List.isEmpty_iff]
  cases f:Region.ready .any ops (dZ ops.size m) with
  |nil=>rfl
  |cons x l=>
   have:=mx hc c h x (by rw[f];simp)
   cases this
 |g+1,k,m,c,e,h=>by
  simp only[pU,dt]at h
  simp only[Region.seqB,dt,cx]
  have d:k<ops.size:=by omega
  have b:k∈Region.ready .any ops (dZ ops.size m):=(rN hc c).2 ⟨d,h.1.1⟩
  refine⟨?_,?_⟩
  .have a:=mx hc c h.1.2
   have ep:(Region.ready .any ops (dZ ops.size m)).Nodup:=by
    unfold Region.ready;exact List.Pairwise.filter _ List.nodup_range
   revert b a ep
   generalize Region.ready .any ops (dZ ops.size m)=l;intro b a ep
   match l,b,a,ep with
   | [],b,_,_=>cases b
   | [x],b,a,_=>rw[fh.1 (a x (by simp))]
   |x::y::l,_,a,ep=>
    have hx:=fh.1 (a x (by simp));have i:=fh.1 (a y (by simp));simp[hx,i]at ep
  .rw[rJ]
   exact x5 hc g (k+1) (m|||2^k) (rM c d) I h.2
theorem B4(hc:kl bJ D0 dD ops=true)(ao:pV ops n)(aI:n<=ops.size)(ap:Region.noSelect ops=true){A:Act}(af:∀d∈bA ops.toList,d<A.tmps.size):
 ∀ (t:aP) (W:Nat->Prop) (f:Nat) (m:Nat) (K:Env->J->Prop) (e:Env) (a:Act) (w:J),c9 e a->dB (bA ops.toList) A a->Small ops.size m->HeadInv .any ops n (dZ ops.size m)->
  dy P tk ops n bJ W t f m K e w->km P ops (fS A (bA ops.toList) K) n (LE P ops (fS A (bA ops.toList) K) n) f (ae W w) (dZ ops.size m) a w:=by
 intro t;have R:∀ (i:Nat) (o:Oper),ops[i]? =some o->∀k,o.dst=some k->k∈bA ops.toList:=by
  intro i o z k g;simp only[bA,List.mem_filterMap];exact⟨o,by simpa using Array.mem_of_getElem? z,g⟩
 have S:∀ (W:Nat->Prop) (t:aP),(∀ (W:Nat->Prop) (f:Nat) (m:Nat) (K:Env->J->Prop) (e:Env) (a:Act) (w:J),c9 e a->dB (bA ops.toList) A a->Small ops.size m->HeadInv .any ops n (dZ ops.size m)->
  dy P tk ops n bJ W t f m K e w->km P ops (fS A (bA ops.toList) K) n (LE P ops (fS A (bA ops.toList) K) n) f (ae W w) (dZ ops.size m) a w)->
  ∀ (f:Nat) (m:Nat) (K:Env->J->Prop) (e:Env) (a:Act) (w:J) (i:Nat) (o:Oper),c9 e a->dB (bA ops.toList) A a->Small ops.size m->HeadInv .any ops n (dZ ops.size m)->
  i∈Region.ready .any ops (dZ ops.size m)->i<n->ops[i]? =some o->
  gj ops o e (iz P tk o (λv w'=>ae W w w'/\dy P tk ops n bJ W t f (m|||2^i) K (c3 o.dst v e) w') e w) (dy P tk ops n bJ W t f (m|||2^i) K (c3 o.dst undef e) w)->
  wpOp P ops (fS A (bA ops.toList) K) i (λak w'=>∃aF:J->Prop,((∀x,aF x->ae W w x)\/my ops (dZ ops.size m) i)/\aF w'/\km P ops (fS A (bA ops.toList) K) n (LE P ops (fS A (bA ops.toList) K) n) f aF ((dZ ops.size m).setIfInBounds i true) ak w') a w:=by
  intro W t Q f m K e a w i o ar g p inv T N z h;have next:∀ (v:Y) (w':J),ae W w w'->dy P tk ops n bJ W t f (m|||2^i) K (c3 o.dst v e) w'->
   ∃aF:J->Prop,((∀x,aF x->ae W w x)\/my ops (dZ ops.size m) i)/\aF w'/\km P ops (fS A (bA ops.toList) K) n (LE P ops (fS A (bA ops.toList) K) n) f aF ((dZ ops.size m).setIfInBounds i true) (a.put o.dst v) w':=by
   intro v w' aq h;have B:dB (bA ops.toList) a (a.put o.dst v):=dB.put (R i o z);have hinv:=inv.set T N;rw[rJ]at hinv⊢;exact⟨ae W w',.inl λx hx=>aq.trans hx,.refl _ _,Q W f _ K _ _ w' (ar.put λk Z=>by rw[g.size];exact af k (R i o z k Z)) (g.trans B) (rM p I) hinv h⟩
  unfold wpOp;simp only[z];rcases pP ar h with ⟨H,L⟩|⟨H,L⟩
  .simp only[H,if_true]
   exact .inl ((rE ar L).wp λv w' ⟨h1,G⟩=>next v w' h1 G)
  .simp only[H,fC,if_false]
   exact next _ _ (.refl _ _) L
 have ag:∀ {b c d:an}{X:Prop},(bif b&&(c&&d) then X else False)->b=true/\c=true/\d=true/\X:=by
  intro b c d X h
  cases b<;>cases c<;>cases d<;>first|exact h.elim|exact⟨rfl,rfl,rfl,h⟩
 have ai:∀ {b c:an}{X:Prop},(bif b&&c then X else False)->b=true/\c=true/\X:=by
  intro b c X h
  cases b<;>cases c<;>first|exact h.elim|exact⟨rfl,rfl,h⟩
 have C:∀ {i j:Nat},Nat.blt i j=true->i<j:=λh=>by
  have:=lj h;omega
 have ne_nil:∀ {m i:Nat},Small ops.size m->jw bJ m i=true->i<ops.size->Region.ready .any ops (dZ ops.size m)≠ []:=λp h hi h0=>by
  have:=(rN hc p).2 ⟨hi,h⟩;rw[h0]at this;cases this
 induction t with
 |take i t Q=>
  intro W f m K e a w ar g p inv h
  cases f with
  |zero=>simp[dy]at h
  |succ f=>
   simp only[dy]at h;obtain⟨h1,G,E,h⟩:=ag h;have N:=C E;have T:i∈Region.ready .any ops (dZ ops.size m):=(rN hc p).2 ⟨I,h1⟩;split at h
   .rename_i o z
    have fin:∀v,YieldsIf P ops (λx=>iA o=true->ae W w x) o v a->dy P tk ops n bJ W t f (m|||2^i) K (c3 o.dst v e) w->
     km P ops (fS A (bA ops.toList) K) n (LE P ops (fS A (bA ops.toList) K) n) (f+1) (ae W w) (dZ ops.size m) a w:=by
     intro v au h;have B:dB (bA ops.toList) a (a.put o.dst v):=dB.put (R i o z);refine B1 ao z (Region.noSelect_spec ap) (λc a w aa=>by cases aa.1) N B2 f (ae W w) (λx=>iA o=true->ae W w x) _ a w (λ_ h _=>h) (by cases hs:iA o<;>simp) inv (BY hc z G) T au (.refl _ _) ?_;have hinv:=inv.set T N;rw[rJ]at hinv⊢;exact Q W f _ K _ _ w (ar.put λk Z=>by rw[g.size];exact af k (R i o z k Z)) (g.trans B) (rM p I) hinv h
    rcases pP ar h with ⟨H,L⟩|⟨H,L⟩
    .obtain⟨v,aw,ax⟩:=BU ar L
     exact fin v (.inl ⟨H,λw' hc=>aw w' hc⟩) ax
    .exact fin undef (.inr ⟨H,rfl⟩) L
   .exact h.elim
 |bZ i t Q=>
  intro W f m K e a w ar g p inv h
  cases f with
  |zero=>simp[dy]at h
  |succ f=>
   simp only[dy]at h;obtain⟨D,E,h⟩:=ai h;simp only[dt]at D;have N:=C E;split at h
   .rename_i o z
    refine⟨ne_nil p D.1 I,λj ab=>?_⟩;have aj:j=i:=by simpa using mx hc p D.2 j ab
    subst aj;exact⟨N,S W t Q f m K e a w j o ar g p inv ab N z h⟩
   .exact h.elim
 |out i b t Q=>
  intro W f m K e a w ar g p inv h
  cases f with
  |zero=>simp[dy]at h
  |succ f=>
   simp only[dy]at h;obtain⟨D,E,O,h⟩:=ag h;simp only[dt]at D;have N:=C E;have O:=g2 O;split at h
   .rename_i o z
    refine⟨ne_nil p D.1 I,λj ab=>?_⟩;have aj:j=i:=by simpa using mx hc p D.2 j ab
    subst aj;refine⟨N,?_⟩;have ay:my ops (dZ ops.size m) j:=by
     intro k ok aJ B az hs al;have aA:k<ops.size:=(kH.1 B).1;rw[nS aA]at al;have aB:(jU 0 ops.toList&&&m).testBit k=true:=by
      rw[Nat.testBit_and,al,Bool.and_true];exact(x0 ops.toList 0 k ok (by simpa using B)).trans hs|>(by simpa using ·)
     have U:(jv bJ.M j).testBit k=true:=xZ O aB;rw[rK hc az,kQ]at U;simp only[cx]at U;exact rL.1 U
    have next:∀ (v:Y) (w':J) (V:Nat->Prop),dy P tk ops n bJ V t f (m|||2^j) K (c3 o.dst v e) w'->
     ∃aF:J->Prop,((∀x,aF x->ae W w x)\/my ops (dZ ops.size m) j)/\aF w'/\km P ops (fS A (bA ops.toList) K) n (LE P ops (fS A (bA ops.toList) K) n) f aF ((dZ ops.size m).setIfInBounds j true) (a.put o.dst v) w':=by
     intro v w' V h;have B:dB (bA ops.toList) a (a.put o.dst v):=dB.put (R j o z);have hinv:=inv.set ab N;rw[rJ]at hinv⊢;exact⟨ae V w',.inr ay,.refl _ _,Q V f _ K _ _ w' (ar.put λk Z=>by rw[g.size];exact af k (R j o z k Z)) (g.trans B) (rM p I) hinv h⟩
    unfold wpOp;simp only[z];rcases pP ar h with ⟨H,L⟩|⟨H,L⟩
    .simp only[H,if_true]
     refine .inl ((rE ar L).wp λv w' G=>?_)
     cases b with
     |true=>
      obtain⟨V,G⟩:=G;exact next v w' V G
     |false=>exact next v w' W G
    .simp only[H,fC,if_false]
     exact next _ _ W L
   .exact h.elim
 |two i t j u ac ad=>
  intro W f m K e a w ar g p inv h
  cases f with
  |zero=>simp[dy]at h
  |succ f=>
   simp only[dy]at h;obtain⟨D,E,O,h⟩:=ag h;simp only[dt]at D;have hi:=C E;split at h
   .rename_i o q z aa
    refine⟨ne_nil p D.1 I,λk B=>?_⟩;have F:k=i\/k=j:=by simpa using mx hc p D.2 k B
    rcases F with F|F
    .subst F
     exact⟨C E,S W t ac f m K e a w k o ar g p inv B (C E) z h.1⟩
    .subst F
     exact⟨C O,S W u ad f m K e a w k q ar g p inv B (C O) aa h.2⟩
   .exact h.elim
 |three i t j u k x ac ad aC=>
  intro W f m K e a w ar g p inv h
  cases f with
  |zero=>simp[dy]at h
  |succ f=>
   simp only[dy]at h;obtain⟨D,E,aD,h⟩:=ag (d:=_) h;obtain⟨O,U⟩:Nat.blt j n=true/\Nat.blt k n=true:=by simpa using aD
   simp only[dt]at D;have hi:=C E;split at h
   .rename_i o q r z aa aE
    refine⟨ne_nil p D.1 I,λy B=>?_⟩;have F:y=i\/y=j\/y=k:=by simpa using mx hc p D.2 y B
    rcases F with F|F|F
    .subst F
     exact⟨C E,S W t ac f m K e a w y o ar g p inv B (C E) z h.1⟩
    .subst F
     exact⟨C O,S W u ad f m K e a w y q ar g p inv B (C O) aa h.2.1⟩
    .subst F
     exact⟨C U,S W x aC f m K e a w y r ar g p inv B (C U) aE h.2.2⟩
   .exact h.elim
 |sp s t u ac ad=>
  intro W f m K e a w ar g p inv h;have ah:match e.get s with
   |some (.bool c)=>(c=true->dy P tk ops n bJ W t f m K ((s,.bool true)::e) w)/\(c=false->dy P tk ops n bJ W u f m K ((s,.bool false)::e) w)
   |_=>False:=by cases f<;>simpa only[dy] using h
  split at ah
  .rename_i c hs
   cases c with
   |true=>exact ac W f m K _ a w (ar.lit hs) g p inv (ah.1 rfl)
   |false=>exact ad W f m K _ a w (ar.lit hs) g p inv (ah.2 rfl)
  .exact ah.elim
 |fin=>
  intro W f m K e a w ar g p inv h
  cases f with
  |succ f=>simp[dy]at h
  |zero=>
   simp only[dy]at h;obtain⟨h1,G,h⟩:=ai h;refine .inl ⟨?_,g2 G,rfl,g,e,ar,h⟩
   cases T:Region.ready .any ops (dZ ops.size m) with
   |nil=>rfl
   |cons x l=>
    have:=mx hc p h1 x (by rw[T];simp)
    cases this
 |tail as=>
  intro W f m K e a w ar g p inv h
  cases f with
  |succ f=>simp[dy]at h
  |zero=>
   simp only[dy]at h;obtain⟨h1,G,h⟩:=ai h;have am:∀k,k∈bA (ops.toList.drop n)->k∈bA ops.toList:=λk g=>by
    simp only[bA,List.mem_filterMap]at g⊢;obtain⟨o,z,g⟩:=g;exact⟨o,eR z,g⟩
   have:=xO _ _ _ K e a w ar (λd hd=>by rw[g.size];exact af d (am d hd)) h;exact .inr ⟨x5 hc _ _ _ p I h1,C G,hU (λx ak w' ⟨av,aG,aH⟩=>⟨av,g.trans (aG.mono am),aH⟩) _ _ _ this⟩
theorem B5(ops:Array Oper)(n:Nat):HeadInv .any ops n (Array.replicate ops.size false):=
 ⟨by simp,λj b _ a=>(by rw[getD_replicate_false]at a;cases a),λt _ ht=>getD_in (by simpa using ht) (getD_replicate_false _ _)⟩
def u7(P:Program)(tk:TypeId->dv)(ops:Array Oper)(n:Nat)(a:an)(bJ:ju)(D0 dD:O Nat)(t:aP)(K:Env->J->Prop)(e:Env)(w:J):Prop:=
 bif (Region.noSelect ops&&kl bJ D0 dD ops)&&(bif Nat.beq n ops.size then true else Nat.blt n ops.size&&(Region.sinkB .any ops n&&Region.chainB .any ops n)) then
  bif a then
   al w.drew λw1=>∃W:Nat->Prop,dy P tk ops n bJ W t n 0 K e w1
  else al w.drew λw1=>dy P tk ops n bJ (λ_=>False) t n 0 K e w1
 else False
theorem B6{id:Nat}{f:an}{t:aP}{K:Env->J->Prop}{e:Env}{a:Act}{w:J}(i:P.follows .mixedOrders=true)
 (ar:c9 e a) (j:∀d∈bA ops.toList,d<a.tmps.size) (h:u7 P tk ops n f bJ D0 dD t K e w):
 (Code.region id ops true).wp P (fS a (bA ops.toList) K) a w:=by
 unfold u7 at h
 cases h0:(Region.noSelect ops&&kl bJ D0 dD ops) with
 |false=>rw[h0]at h;exact h.elim
 |true=>
  rw[h0]at h;simp only[h7]at h;simp only[dt]at h0;obtain⟨h1,hc⟩:=h0
  cases b:(bif Nat.beq n ops.size then true else Nat.blt n ops.size&&(Region.sinkB .any ops n&&Region.chainB .any ops n)) with
  |false=>rw[b]at h;exact h.elim
  |true=>
   rw[b]at h;simp only[cond_true]at h;have k:pV ops n:=by
    cases c:Nat.beq n ops.size with
    |true=>rw[g2 c];exact BZ ops
    |false=>
     rw[c]at b;simp only[cond_false,dt]at b;refine B0 b.2.1 b.2.2 ?_;have:=lj b.1;omega
   have l:n<=ops.size:=by
    cases c:Nat.beq n ops.size with
    |true=>rw[g2 c];exact bm _
    |false=>
     rw[c]at b;simp only[cond_false,dt]at b;have:=lj b.1;omega
   have key:∀W,dy P tk ops n bJ W t n 0 K e w.drew->(Code.region id ops true).wp P (fS a (bA ops.toList) K) a w:=by
    intro W h;refine wp_region_any i ?_;have g:=B4 hc k l h1 j t W n 0 K e a w.drew ar (.refl _ _) (BW _) (by rw[xX];exact B5 ops n) h;rw[xX]at g;have:=x4 B3 _ _ _ _ _ g;rw[show n+(ops.size-n)=ops.size from I]at this;exact this
   cases f with
   |true=>obtain⟨W,h⟩:=h;exact key W h
   |false=>exact key _ h
end
end aQ
namespace aQ
open Go
inductive aO where
 |leaf
 |dh (as:O jS)
 |cG (n:Nat) (c:an) (bJ:ju) (D0 dD:O Nat) (t:aP)
 |seq (a b:aO)
 |cond (a b:aO)
 |b3 (a:aO)
 |loop (live:O (Nat×cD)) (ej:O Nat) (a:aO)
 |e_ (live:O (Nat×cD)) (ej:O Nat) (a:aO)
def fL:O (Nat×cD)->Type
 | []=>J->Prop
 |(_,l)::r=>l.T->fL r
def lB:O (Nat×cD)->Type
 | []=>J->Nat
 |(_,l)::r=>l.T->lB r
def nT(l:cD)(v:aq Y)(K:l.T->Prop):Prop:=
 match l,v with
 | .int k,some (.int d n)=>bif iR k d then K n else False
 | .bool,some (.bool b)=>K b
 | .str,some (.string s)=>K s
 | .ptr,some (.pointer p)=>K p
 | .slice,some (.slice a n c)=>K ⟨a,n,c⟩
 | .map,some (.map r)=>K r
 | .agg,some (.agg cs)=>K cs
 | .fn,some (.func (.func f) a b)=>K ⟨f,a,b⟩
 | .any,some v=>K v
 |_,_=>False
def fL.app:(live:O (Nat×cD))->fL live->(Nat->aq Y)->J->Prop
 | [],k,_,w=>k w
 |(s,l)::r,k,g,w=>nT l (g s) λx=>fL.app r (k x) g w
def fL.lam:(live:O (Nat×cD))->(Env->J->Prop)->fL live
 | [],F=> λw=>F [] w
 |(s,l)::r,F=> λx=>fL.lam r λe w=>F ((s,l.v x)::e) w
def u9:(live:O (Nat×cD))->fL live->lB live->(Env->Nat->J->Prop)->Prop
 | [],a,b,F=>∀w,a w->F [] (b w) w
 |(s,l)::r,a,b,F=>∀x:l.T,u9 r (a x) (b x) λe m w=>F ((s,l.v x)::e) m w
def u_:(live:O (Nat×cD))->fL live->lB live->Nat->(Nat->aq Y)->J->Prop
 | [],a,b,m,_,w=>a w/\b w<m
 |(s,l)::r,a,b,m,g,w=>nT l (g s) λx=>u_ r (a x) (b x) m g w
def ia:(live:O (Nat×cD))->lB live->(Nat->aq Y)->J->Nat
 | [],d,_,w=>d w
 |(s,l)::r,d,g,w=>
  match l,g s,d with
  | .int _,some (.int _ n),d=>ia r (d n) g w
  | .bool,some (.bool b),d=>ia r (d b) g w
  | .str,some (.string b),d=>ia r (d b) g w
  | .ptr,some (.pointer b),d=>ia r (d b) g w
  | .slice,some (.slice a n c),d=>ia r (d (ad.mk a n c)) g w
  | .map,some (.map b),d=>ia r (d b) g w
  | .agg,some (.agg b),d=>ia r (d b) g w
  | .fn,some (.func (.func f) a b),d=>ia r (d (iP.mk f a b)) g w
  | .any,some v,d=>ia r (d v) g w
  |_,_,_=>0
def writes:Code->O Nat
 | .region _ ops _=>bA ops.toList
 | .seq a b=>writes a++writes b
 | .cond _ a b=>writes a++writes b
 | .block _ a=>writes a
 | .loop a=>writes a
 | .scope a=>writes a
 |_=> []
def pW(ej ws:O Nat):an:=ej.all λs=> !(ws.any λd=>Nat.beq d s)
def mz(e:Env):O Nat->Env
 | []=> []
 |s::ks=>match e.get s with
  |some v=>(s,v)::mz e ks
  |none=>mz e ks
def nU:Env->Env->Env
 | [],f=>f
 |p::e,f=>p::nU e f
def D(P:Program)(tk:TypeId->dv):aO->Code->(Exit->Env->J->Prop)->Env->J->Prop
 | .leaf,c,K,e,w=>
  match c with
  | .skip=>K .normal e w
  | .label _=>K .normal e w
  | .exit id=>K (.exit id) e w
  | .ret=>K .ret e w
  |_=>False
 | .dh as,c,K,e,w=>
  match c with
  | .region _ ops false=>fj P tk ops (ops.size+1) ops.toList as (λd w'=>K .normal d w') e w
  |_=>False
 | .cG n he bJ D0 dD t,c,K,e,w=>
  match c with
  | .region _ ops true=>u7 P tk ops n he bJ D0 dD t (λd w'=>K .normal d w') e w
  |_=>False
 | .seq A B,c,K,e,w=>
  match c with
  | .seq a b=>D P tk A a (λx d w'=>match x with| .normal=>D P tk B b K d w'|x=>K x d w') e w
  |_=>False
 | .cond A B,c,K,e,w=>
  match c with
  | .cond o x y=>match ev e o with
   |some (.bool b)=>(b=true->D P tk A x K e w)/\(b=false->D P tk B y K e w)
   |_=>False
  |_=>False
 | .b3 A,c,K,e,w=>
  match c with
  | .block id b=>D P tk A b (λx d w'=>match x with| .exit h=>bif Nat.beq h id then K .normal d w' else K (.exit h) d w'|x=>K x d w') e w
  |_=>False
 | .loop live ej A,c,K,e,w=>
  match c with
  | .loop b=>bif pW ej (writes b) then
   ∃ (f:fL live) (i:lB live),fL.app live f e.get w/\
    u9 live f i λg m w'=>D P tk A b (λx d j=>match x with| .normal=>u_ live f i m d.get j|x=>K x d j) (nU g (mz e ej)) w'
   else False
  |_=>False
 | .e_ live ej A,c,K,e,w=>
  bif pW ej (writes c) then
   bY (λk:fL live=>D P tk A c (λx d w'=>match x with| .normal=>fL.app live k d.get w'|x=>K x d w') e w)
    (fL.lam live λg w'=>K .normal (nU g (mz e ej)) w')
  else False
def B7(a:Act)(ds:O Nat)(K:Exit->Env->J->Prop)(x:Exit)(b:Act)(w':J):Prop:=
 dB ds a b/\∃c,c9 c b/\K x c w'
def Sub(e:Env)(g:Nat->aq Y):Prop:=∀s v,e.get s=some v->g s=some v
theorem Sub.cons{e:Env}{g:Nat->aq Y}{s:Nat}{v:Y}(h:Sub e g)(hs:g s=some v):Sub ((s,v)::e) g:=by
 intro t u ht;rw[mn]at ht;by_cases a:s=t
 .subst a;rw[if_pos rfl]at ht;rw[hs];exact ht
 .rw[if_neg a]at ht;exact h t u ht
theorem Sub.nil{g:Nat->aq Y}:Sub [] g:=λ_ _ h=>by cases h
theorem rO{l:cD}{v:aq Y}{K:l.T->Prop}(h:nT l v K):∃x:l.T,v=some (l.v x)/\K x:=by
 unfold nT at h;split at h
 .rename_i k b n K
  by_cases a:k=b
  .subst a
   simp only[iR,decide_true,cond_true]at h;exact⟨n,rfl,h⟩
  .simp[iR,a]at h
 all_goals first
  |exact⟨_,rfl,h⟩
  |exact h.elim
theorem x6{l:cD}{v:aq Y}{K:l.T->Prop}{x:l.T}(a:v=some (l.v x))(h:K x):nT l v K:=by
 subst a
 cases l<;>simp only[nT,cD.v,iR,decide_true,cond_true]<;>exact h
theorem x7{s:Nat}{l:cD}{r:O (Nat×cD)}{a:lB ((s,l)::r)}{g:Nat->aq Y}{w:J}{x:l.T}(b:g s=some (l.v x)):
 ia ((s,l)::r) a g w=ia r (a x) g w:=by
 cases l<;>simp only[ia,b,cD.v]<;>rfl
theorem x8:∀ {live:O (Nat×cD)}{F:Env->J->Prop}{g:Nat->aq Y}{w:J},fL.app live (fL.lam live F) g w->∃a,Sub a g/\F a w
 | [],F,g,w,h=>⟨[],Sub.nil,h⟩
 |(s,l)::r,F,g,w,h=>by
  obtain⟨x,b,h⟩:=rO h
  obtain⟨a,hs,h⟩:=x8 h
  exact⟨(s,l.v x)::a,hs.cons b,h⟩
theorem x9:∀ {live:O (Nat×cD)}{a:fL live}{g g':Nat->aq Y}{w:J},(∀s v,g s=some v->g' s=some v)->fL.app live a g w->fL.app live a g' w
 | [],_,_,_,_,_,h=>h
 |(s,l)::r,a,g,g',w,hg,h=>by
  obtain⟨x,b,h⟩:=rO h
  exact x6 (hg _ _ b) (x9 hg h)
theorem x_:∀ {live:O (Nat×cD)}{b:fL live}{c:lB live}{F:Env->Nat->J->Prop}{g:Nat->aq Y}{w:J},
 u9 live b c F->fL.app live b g w->∃d,Sub d g/\F d (ia live c g w) w
 | [],b,c,F,g,w,h,a=>⟨[],Sub.nil,h w a⟩
 |(s,l)::r,b,c,F,g,w,h,a=>by
  obtain⟨x,e,a⟩:=rO a
  obtain⟨d,hs,h⟩:=x_ (h x) a
  exact⟨(s,l.v x)::d,hs.cons e,by rw[x7 e];exact h⟩
theorem ya:∀ {live:O (Nat×cD)}{a:fL live}{b:lB live}{m:Nat}{g g':Nat->aq Y}{w:J},
 (∀s v,g s=some v->g' s=some v)->u_ live a b m g w->fL.app live a g' w/\ia live b g' w<m
 | [],_,_,_,_,_,_,_,h=>h
 |(s,l)::r,a,b,m,g,g',w,hg,h=>by
  obtain⟨x,c,h⟩:=rO h
  obtain⟨h1,d⟩:=ya hg h
  exact⟨x6 (hg _ _ c) h1,by rw[x7 (hg _ _ c)];exact d⟩
theorem yb:∀ {e f:Env}{s:Nat}{v:Y},(nU e f).get s=some v->e.get s=some v\/f.get s=some v
 | [],_,_,_,h=>.inr h
 |(k,u)::e,f,s,v,h=>by
  simp only[nU]at h
  rw[mn]at h⊢
  by_cases a:k=s
  .rw[if_pos a]at h⊢;exact .inl h
  .rw[if_neg a]at h⊢;exact yb h
theorem va{e:Env}:∀ {ks:O Nat}{s:Nat}{v:Y},(mz e ks).get s=some v->s∈ks/\e.get s=some v
 | [],_,_,h=>by cases h
 |k::ks,s,v,h=>by
  simp only[mz]at h
  split at h
  .rename_i u hu
   rw[mn]at h
   by_cases a:k=s
   .rw[if_pos a]at h
    subst a
    exact⟨by simp,by rw[hu];exact h⟩
   .rw[if_neg a]at h
    have:=va h
    exact⟨by simp[this.1],this.2⟩
  .have:=va h
   exact⟨by simp[this.1],this.2⟩
theorem yc{e c:Env}{a b:Act}{ej ws:O Nat}(ar:c9 e a)(f:dB ws a b)(g:pW ej ws=true)(hs:Sub c λs=>b.tmps[s]?):
 c9 (nU c (mz e ej)) b:=by
 constructor;intro s v h;rcases yb h with h|h
 .exact hs s v h
 .obtain⟨h1,i⟩:=va h
  have d:=nA.1 g s h1;simp only[iK,pj]at d;rw[f.same s λj=>d s j (Nat.beq_refl s)];exact ar.get s v i
section
variable {P:Program}{tk:TypeId->dv}
theorem iB{c:Code}{Q Q':Exit->Act->J->Prop}{a:Act}{w:J}(h:c.wp P Q a w)(b:∀e a w,Q e a w->Q' e a w):c.wp P Q' a w:=wp_mono h b
theorem rP(R:P.follows .mixedOrders=true):∀ (A:aO) (c:Code) (K:Exit->Env->J->Prop) (e:Env) (a:Act) (w:J),c9 e a->(∀d∈writes c,d<a.tmps.size)->
 D P tk A c K e w->c.wp P (B7 a (writes c) K) a w:=by
 intro A
 induction A with
 |leaf=>
  intro c K e a w ar j h;simp only[D]at h;split at h
  .exact wp_skip ⟨.refl _ _,e,ar,h⟩
  .exact wp_label ⟨.refl _ _,e,ar,h⟩
  .exact wp_exit ⟨.refl _ _,e,ar,h⟩
  .exact wp_ret ⟨.refl _ _,e,ar,h⟩
  .exact h.elim
 |dh as=>
  intro c K e a w ar j h;simp only[D]at h;split at h
  .rename_i id ops
   have:=xO _ _ _ _ e a w ar j h;refine wp_region_list (hU ?_ _ _ _ this);rintro x u w' ⟨rfl,f,E,F,G⟩;exact⟨f,E,F,G⟩
  .exact h.elim
 |cG n he bJ D0 dD t=>
  intro c K e a w ar j h;simp only[D]at h;split at h
  .rename_i id ops
   refine iB (B6 R ar j h) ?_;rintro x u w' ⟨rfl,f,E,F,G⟩;exact⟨f,E,F,G⟩
  .exact h.elim
 |seq A B H I=>
  intro c K e a w ar j h;simp only[D]at h;split at h
  .rename_i x y
   have hx:∀d,d∈writes x->d∈writes (.seq x y):=λd hd=>by simp[writes,hd]
   have z:∀d,d∈writes y->d∈writes (.seq x y):=λd hd=>by simp[writes,hd]
   refine wp_seq (iB (H x _ e a w ar (λd hd=>j d (hx d hd)) h) ?_);rintro ex a1 w1 ⟨f,i,g,h1⟩
   cases ex with
   |normal=>
    refine iB (I y K i a1 w1 g (λd hd=>by rw[f.size];exact j d (z d hd)) h1) ?_;rintro ex a2 aj ⟨k,q,m,p⟩;exact⟨(f.mono hx).trans (k.mono z),q,m,p⟩
   |exit id=>exact⟨f.mono hx,i,g,h1⟩
   |goto l=>exact⟨f.mono hx,i,g,h1⟩
   |ret=>exact⟨f.mono hx,i,g,h1⟩
   |panic L=>exact⟨f.mono hx,i,g,h1⟩
   |outgrown=>exact⟨f.mono hx,i,g,h1⟩
  .exact h.elim
 |cond A B H I=>
  intro c K e a w ar j h;simp only[D]at h;split at h
  .rename_i o x y
   have hx:∀d,d∈writes x->d∈writes (.cond o x y):=λd hd=>by simp[writes,hd]
   have z:∀d,d∈writes y->d∈writes (.cond o x y):=λd hd=>by simp[writes,hd]
   split at h
   .rename_i b S
    refine wp_cond_split (ar.ev S) (λM=>?_) (λM=>?_)
    .refine iB (H x K e a w ar (λd hd=>j d (hx d hd)) (h.1 M)) ?_
     rintro ex a2 aj ⟨k,q,m,p⟩;exact⟨k.mono hx,q,m,p⟩
    .refine iB (I y K e a w ar (λd hd=>j d (z d hd)) (h.2 M)) ?_
     rintro ex a2 aj ⟨k,q,m,p⟩;exact⟨k.mono z,q,m,p⟩
   .exact h.elim
  .exact h.elim
 |b3 A C=>
  intro c K e a w ar j h;simp only[D]at h;split at h
  .rename_i id b
   refine wp_block (iB (C b _ e a w ar j h) ?_);rintro ex a1 w1 ⟨f,i,g,h1⟩
   cases ex with
   |exit N=>
    simp only[Exit.inBlock];by_cases O:N=id
    .subst O
     simp only[Nat.beq_refl,cond_true]at h1;rw[if_pos rfl];exact⟨f,i,g,h1⟩
    .have:Nat.beq N id=false:=by
      cases T:Nat.beq N id
      .rfl
      .exact absurd (g2 T) O
     simp only[this,cond_false]at h1;rw[if_neg O];exact⟨f,i,g,h1⟩
   |normal=>exact⟨f,i,g,h1⟩
   |goto l=>exact⟨f,i,g,h1⟩
   |ret=>exact⟨f,i,g,h1⟩
   |panic L=>exact⟨f,i,g,h1⟩
   |outgrown=>exact⟨f,i,g,h1⟩
  .exact h.elim
 |loop live ej A C=>
  intro c K e a w ar j h;simp only[D]at h;split at h
  .rename_i b
   cases r:pW ej (writes b) with
   |false=>rw[r]at h;exact h.elim
   |true=>
    rw[r]at h;obtain⟨U,V,h0,W⟩:=h;refine wp_loop (λu w'=>dB (writes b) a u/\fL.app live U (λs=>u.tmps[s]?) w') (λu w'=>ia live V (λs=>u.tmps[s]?) w')
     ⟨.refl _ _,x9 (λs v hs=>ar.get s v hs) h0⟩ ?_
    rintro a1 w1 ⟨f,X⟩;obtain⟨Y,hs,Q⟩:=x_ W X;refine iB (C b _ _ a1 w1 (yc ar f r hs) (λd hd=>by rw[f.size];exact j d hd) Q) ?_;rintro ex a2 aj ⟨k,q,m,p⟩
    cases ex with
    |normal=>
     obtain⟨av,Z⟩:=ya (g':=λs=>a2.tmps[s]?) (λs v hs=>m.get s v hs) p;exact⟨⟨f.trans k,av⟩,Z⟩
    |exit id=>exact⟨f.trans k,q,m,p⟩
    |goto l=>exact⟨f.trans k,q,m,p⟩
    |ret=>exact⟨f.trans k,q,m,p⟩
    |panic L=>exact⟨f.trans k,q,m,p⟩
    |outgrown=>exact⟨f.trans k,q,m,p⟩
  .exact h.elim
 |e_ live ej A C=>
  intro c K e a w ar j h;simp only[D]at h
  cases r:pW ej (writes c) with
  |false=>rw[r]at h;exact h.elim
  |true=>
   rw[r]at h;simp only[cond_true]at h;have h:=h.out;refine iB (C c _ e a w ar j h) ?_;rintro ex a1 w1 ⟨f,i,g,h1⟩
   cases ex with
   |normal=>
    obtain⟨Y,hs,Q⟩:=x8 h1;exact⟨f,_,yc ar f r (λs v h=>g.get s v (hs s v h)),Q⟩
   |exit id=>exact⟨f,i,g,h1⟩
   |goto l=>exact⟨f,i,g,h1⟩
   |ret=>exact⟨f,i,g,h1⟩
   |panic L=>exact⟨f,i,g,h1⟩
   |outgrown=>exact⟨f,i,g,h1⟩
def kR(P:Program)(tk:TypeId->dv):O ResultVar->Env->J->(O Y->Prop)->Prop
 | [],_,_,K=>K []
 | .tmp t::r,e,w,K=>match e.get t with
  |some v=>kR P tk r e w λvs=>K (v::vs)
  |none=>False
 | .cell t T::r,e,w,K=>match e.get t with
  |some (.pointer (some A))=>nM P tk T A w λv=>kR P tk r e w λvs=>K (v::vs)
  |_=>False
def nV:O Y->Y
 | [v]=>v
 |vs=>.tuple vs.toArray
def yd(P:Program)(tk:TypeId->dv)(a:O ResultVar)(R:Y->J->Prop)(x:Exit)(e:Env)(w:J):Prop:=
 match x with
 | .normal=>kR P tk a e w λvs=>R (nV vs) w
 | .ret=>kR P tk a e w λvs=>R (nV vs) w
 |_=>False
def mA:Nat->O Y->Env
 |_,[]=> []
 |i,v::vs=>(i,v)::mA (i+1) vs
def nW(P:Program)(tk:TypeId->dv)(A:aO)(fn:Func)(args:O Y)(w:J)(R:Y->J->Prop):Prop:=
 match fn.body with
 |some c=>D P tk A c (yd P tk fn.results.toList R) (mA 0 args) w
 |none=>False
def mB(fn:Func)(n:Nat):an:=
 match fn.body with
 |some c=>(writes c).all (λd=>Nat.blt d fn.ntmps)&&Nat.ble n fn.ntmps
 |none=>false
theorem vb:∀ {vs:O Y}{i s:Nat}{v:Y},(mA i vs).get s=some v->i<=s/\vs[s-i]? =some v
 | [],_,_,_,h=>by cases h
 |u::vs,i,s,v,h=>by
  simp only[mA]at h
  rw[mn]at h
  by_cases a:i=s
  .subst a
   rw[if_pos rfl]at h
   simpa using h
  .rw[if_neg a]at h
   obtain⟨h1,b⟩:=vb h
   refine⟨I,?_⟩
   rw[show s-i=(s-(i+1))+1 from I]
   simpa using b
def pX(tmps:Array Y)(r:ResultVar):Sem Y:=
 match r with
 | .tmp t=>pure (tmps.getD t undef)
 | .cell x t=>do loadVar t (←asAddr (tmps.getD x undef))
theorem kS{a:Act}:∀ {f:O ResultVar}{e:Env}{w:J}{K:O Y->Prop},c9 e a->kR P tk f e w K->
 ∃vs,(f.mapM (pX a.tmps)).run P w=.ok vs w/\K vs
 | [],_,_,_,_,h=>⟨[],by simp,h⟩
 | .tmp t::r,e,w,K,ar,h=>by
  simp only[kR]at h
  split at h
  .rename_i v b
   obtain⟨vs,c,d⟩:=kS ar h
   refine⟨v::vs,?_,d⟩
   have ht:a.tmps.getD t undef=v:=by simp[Array.getD_eq_getD_getElem?,ar.get _ _ b]
   simp only[List.mapM_cons,pX,Sem.run_bind,Sem.run_pure,Result.andThen,ht]
   rw[c]
  .exact h.elim
 | .cell t T::r,e,w,K,ar,h=>by
  simp only[kR]at h
  split at h
  .rename_i A b
   obtain⟨v,g,h⟩:=xK h
   obtain⟨vs,c,d⟩:=kS ar h
   refine⟨v::vs,?_,d⟩
   have ht:a.tmps.getD t undef=.pointer (some A):=by simp[Array.getD_eq_getD_getElem?,ar.get _ _ b]
   have i:(loadVar T A).run P w=.ok v w:=by simpa[Instr.loadAt,Instr.sureAddr] using g
   simp only[List.mapM_cons,pX,Sem.run_bind,Sem.run_pure,Result.andThen,ht,asAddr,i]
   rw[c]
  .exact h.elim
theorem mC{fn:Func}{tmps:Array Y}{w:J}{vs:O Y}
 (h:(fn.results.toList.mapM (pX tmps)).run P w=.ok vs w):
 (results fn tmps).run P w=.ok (nV vs) w:=by
 have a:results fn tmps=(do let vs ←fn.results.mapM (pX tmps);pure (if h:vs.size=1 then vs[0] else .tuple vs)):=rfl;rw[a,Array.mapM_eq_mapM_toList];simp only[Sem.run_bind,Sem.run_map];rw[h];simp only[Result.andThen,Sem.run_pure]
 congr 1
 match vs with
 | []=>rfl
 | [v]=>rfl
 |u::v::vs=>simp[nV]
theorem B8{f:FuncId}{fn:Func}{A:aO}{args:O Y}{w:J}{R:Y->J->Prop}(n:P.follows .mixedOrders=true)
 (hf:P.funcs[f]? =some fn) (g:mB fn args.length=true) (h:nW P tk A fn args w R):
 Calls P f args.toArray w λe w'=>∃v,e=.returned v/\R v w':=by
 unfold nW at h;unfold mB at g
 cases i:fn.body with
 |none=>rw[i]at h;exact h.elim
 |some c=>
  rw[i]at h g;simp only[dt]at h g;obtain⟨o,p⟩:=g;have u:=lj p;refine calls_of_wp hf i ?_;have q:(args.toArray++Array.replicate (fn.ntmps-args.toArray.size) undef).size=fn.ntmps:=by simp;omega
  have ar:c9 (mA 0 args) {tmps:=args.toArray++Array.replicate (fn.ntmps-args.toArray.size) undef,defers:=[]}:=by
   constructor;intro s v hs;obtain⟨_,b⟩:=vb hs;simp only[Nat.sub_zero]at b;have aK:s<args.length:=(jQ.1 b).1;simp[Array.getElem?_append,aK];rw[dI aK]at b;exact Option.some.inj b
  refine iB (rP n A c _ _ _ w ar (λd hd=>?_) h) ?_
  .have h1:=nA.1 o d hd
   have b:=lj h1;show d<(args.toArray++Array.replicate (fn.ntmps-args.toArray.size) undef).size;rw[q];omega
  .rintro x r w' ⟨t,y,m,a⟩
   have hd:r.defers=[]:=t.defers
   cases x with
   |normal=>
    obtain⟨vs,j,k⟩:=kS m a;exact⟨hd,_,mC j,_,rfl,k⟩
   |ret=>
    obtain⟨vs,j,k⟩:=kS m a;exact⟨hd,_,mC j,_,rfl,k⟩
   |exit id=>exact a.elim
   |goto l=>exact a.elim
   |panic z=>exact a.elim
   |outgrown=>exact a.elim
end
end aQ
namespace aQ
open Go Go.ChangeShapes Go.WideShapes Go.ChangeAt Go.RowKit
def eZ(P:Program)(w:J):Nat->TypeId->O Y->Prop
 |0,_,_=>False
 |fuel+1,t,cs=>
  match P.underlying t with
  |some .bool=>∃b:an,cs=[.bool b]
  |some (.int k)=>∃n:Int,cs=[.int k n]/\k.min<=n/\n<=k.max
  |some .string=>∃s:ByteArray,cs=[.string s]/\s.size<=maxLen
  |some (.slice e)=>∃s:ad,cs=[.slice s.a s.len s.cap]/\s.len<=s.cap/\s.cap<=maxLen/\(s.a=none->s.cap=0)/\
   ∀a,s.a=some a->∀i,i<s.cap->∃vs,bz w (a.add (i*P.cellsOf e)) 0 (P.cellsOf e)=some vs/\eZ P w fuel e vs
  |some (.struct fs)=>cs.length=P.cellsOf t/\∀f∈fs,eZ P w fuel f.type ((cs.drop f.offset).take (P.cellsOf f.type))
  |some (.array n e)=>cs.length=P.cellsOf t/\∀i,i<n->eZ P w fuel e ((cs.drop (i*P.cellsOf e)).take (P.cellsOf e))
  |some (.pointer e)=>cs=[.pointer none]\/∃a vs,cs=[.pointer (some a)]/\bz w a 0 (P.cellsOf e)=some vs/\eZ P w fuel e vs
  |_=>True
theorem mapM_some{α β:Type}{f:α->aq β}:∀ {l:O α}{r:O β},l.mapM f=some r->∀x∈l,∃y,f x=some y
 | [],_,_,_,hx=>by cases hx
 |a::l,r,h,x,hx=>by
  simp only[List.mapM_cons]at h
  cases c:f a with
  |none=>simp[c]at h
  |some b=>
   cases d:l.mapM f with
   |none=>simp[c,d]at h
   |some e=>
    rcases c8.1 hx with rfl|hx
    .exact⟨b,c⟩
    .exact mapM_some d x hx
theorem ye{w:J}{a:ah}:∀ (n i:Nat) (vs:O Y),((List.range' i n).mapM λj=>w.cell? (a.add j))=some vs->bz w a i n=some vs
 |0,i,vs,h=>by simp at h;simp[bz,h]
 |n+1,i,vs,h=>by
  simp only[List.range'_succ,List.mapM_cons]at h
  cases h1:w.cell? (a.add i) with
  |none=>simp[h1]at h
  |some v=>
   cases b:((List.range' (i+1) n).mapM λj=>w.cell? (a.add j)) with
   |none=>simp[h1,b]at h
   |some us=>
    simp[h1,b]at h
    have:=ye n (i+1) us b
    simp[bz,h1,this,h]
theorem yf{w:J}{base:Nat}{a:ah}{n:Nat}{vs:O Y}(h:w.cells? base a n=some vs):bz w a 0 n=some vs:=by
 unfold World.cells? at h;split at h
 .rw[q8]at h
  exact ye n 0 vs h
 .cases h
section
variable {H:Type}{enc:TypeId×Y->H}{P:Program}{w:J}
theorem pY:∀ (fuel:Nat) (t:TypeId) (cs:O Y) (x:DataW H×O MemPlace),DataW.trod enc P w 0 (λ_=>true) true fuel t cs=some x->eZ P w fuel t cs
 |0,_,_,_,h=>by cases h
 |fuel+1,t,cs,x,h=>by
  simp only[DataW.trod]at h
  simp only[eZ]
  cases ht:P.underlying t with
  |none=>trivial
  |some d=>
   rw[ht]at h
   cases d<;>try trivial
   case bool=>
    match cs,h with
    | [.bool b],_=>exact⟨b,rfl⟩
   case int k=>
    match cs,h with
    | [.int r n],h=>
     simp only at h
     split at h
     .rename_i g
      obtain⟨rfl,m⟩:=g
      exact⟨n,rfl,by simpa[Lit.wf] using m⟩
     .cases h
   case string=>
    match cs,h with
    | [.string s],h=>
     simp only at h
     split at h
     .rename_i g;exact⟨s,rfl,g⟩
     .cases h
   case pointer e=>
    match cs,h with
    | [.pointer none],_=>exact .inl rfl
    | [.pointer (some a)],h=>
     simp only[q9]at h
     obtain⟨y,c,_⟩:=h
     obtain⟨vs,h1,l⟩:=Option.bind_eq_some_iff.1 c
     exact .inr ⟨a,vs,rfl,yf h1,pY fuel e vs _ l⟩
   case slice e=>
    match cs,h with
    | [.slice none 0 0],_=>exact⟨⟨none,0,0⟩,rfl,bm _,cZ _,(λ_=>rfl),(λa o=>by cases o)⟩
    | [.slice (some a) len cap],h=>
     simp only at h
     split at h
     .rename_i g
      refine⟨⟨some a,len,cap⟩,rfl,g.2.1,g.2.2,(λh0=>by cases h0),λu p i hi=>?_⟩
      obtain⟨elems,he,h⟩:=Option.bind_eq_some_iff.1 h
      simp only[if_true,q9]at h
      obtain⟨rest,q,_⟩:=h
      cases p
      have key:∃y,((w.cells? 0 (a.add (i*P.cellsOf e)) (P.cellsOf e)).bind (DataW.trod enc P w 0 (λ_=>true) true fuel e))=some y:=by
       rcases ei i len with j|j
       .exact mapM_some he i (ji.2 j)
       .obtain⟨y,c⟩:=mapM_some q (i-len) (ji.2 (by simp only at hi;omega))
        rw[show len+(i-len)=i from I]at c;exact⟨y,c⟩
      obtain⟨y,c⟩:=key;obtain⟨vs,h1,l⟩:=Option.bind_eq_some_iff.1 c;exact⟨vs,yf h1,pY fuel e vs _ l⟩
     .cases h
   case struct fs=>
    simp only at h;split at h
    .rename_i j
     refine⟨j,λf hf=>?_⟩;simp only[q9]at h;obtain⟨ys,c,_⟩:=h;obtain⟨y,c⟩:=mapM_some c f (by simpa using hf);exact pY fuel _ _ _ c
    .cases h
   case array n e=>
    simp only at h;split at h
    .rename_i j
     refine⟨j,λi hi=>?_⟩;simp only[q9]at h;obtain⟨ys,c,_⟩:=h;obtain⟨y,c⟩:=mapM_some c i (ji.2 hi);exact pY fuel _ _ _ c
    .cases h
def lC(P:Program)(w:J)(t:TypeId)(v:Y):Prop:=
 match P.underlying t with
 |some (.struct _)=>∃cs:Array Y,v=.agg cs/\∃fuel,eZ P w fuel t cs.toList
 |some (.array _ _)=>∃cs:Array Y,v=.agg cs/\∃fuel,eZ P w fuel t cs.toList
 |_=>∃fuel,eZ P w fuel t [v]
theorem yg{r:Reach}{a:Nat}{t:TypeId}{v:Y}{d:DataW H}{b:O MemPlace}(ib:Value.okWide P w r a t v)
 (hd:DataW.Trod enc P w 0 (λ_=>true) true t v d b):lC P w t v:=by
 obtain⟨fuel,hd⟩:=hd;have h1:=pY fuel t _ _ hd;unfold lC;unfold Value.okWide at ib;have c:(∀cs,v≠ .agg cs)->v.cells.toList=[v]:=λh=>by cases v<;>first|rfl|exact absurd rfl (h _)
 cases ht:P.underlying t with
 |none=>
  rw[ht]at ib
  cases fuel with
  |zero=>cases hd
  |succ f=>exact⟨1,by simp[eZ,ht]⟩
 |some g=>
  rw[ht]at ib
  cases g
  case struct fs=>obtain⟨cs,rfl,_,_⟩:=ib;exact⟨cs,rfl,fuel,h1⟩
  case array n e=>obtain⟨cs,rfl,_,_⟩:=ib;exact⟨cs,rfl,fuel,h1⟩
  all_goals
   refine⟨fuel,?_⟩;rw[←c]
   .exact h1
   .rintro cs rfl
    simp[Cell.okWide,Cell.ok,ht]at ib
theorem yh{w w':J}(h:ae (λ_=>False) w w'):Below w.heap.size w w':=
 ⟨h.os,h.tape,h.output,h.size,λk a=>h.block k a (λh=>h)⟩
theorem B9{f:Func}{s:ChangeSpec}{apart fresh handsOn again:an}{W W':J}{args:Array Y}{T:TypeId}{ds gs:O (DataW H)}{before pa eG:O MemPlace}
 (cF:DataW.Whole enc P f.params.toList s.vars apart W args.toList ds gs before) (d:P.underlying T=some .bool) (e:f.resultTypes= #[T])
 (hs:s.fn H (ds++gs)={results:=[.lit (.bool true)],args:=ds})
 (rQ:∀sp:Nat->an,(∀p∈before,sp p.block=true)->DataW.TrodAll enc P W' 0 sp true f.params.toList args.toList ds pa)
 (l:∀sp:Nat->an,(∀p∈before,sp p.block=true)->DataW.TrodVars enc P W' sp s.vars [] eG)
 (c:before=pa++eG) (m:ae (λ_=>False) W W'):
 s.post enc P f apart fresh handsOn again W args (.bool true) W':=by
 have g:=yh m;have aK:∀p∈before,p.block<W.heap.size:=λp a=>cF.lt p a;have hold:∀p∈before,(λb=>decide (b<W.heap.size)) p.block=true:=λp a=>by simpa using aK p a
 have h:∀ (b:Nat) (sp:Nat->an) (hd:an),DataW.TrodAll enc P W' b sp hd f.resultTypes.toList ((Value.bool true).resultList f.resultTypes.size) (s.fn H (ds++gs)).results []:=by
  intro b sp hd;rw[hs,e];exact trodAll_cons_mk (shut_bool d true) trodAll_mk0
 have i:∀sp:Nat->an,(∀p∈before,sp p.block=true)->DataW.TrodAll enc P W' 0 sp true f.params.toList args.toList (s.fn H (ds++gs)).args pa:=by
  intro sp hV;rw[hs];exact rQ sp hV
 have j:∀sp:Nat->an,(∀p∈before,sp p.block=true)->DataW.TrodVars enc P W' sp s.vars (s.fn H (ds++gs)).vars eG:=by
  intro sp hV;rw[hs];exact l sp hV
 refine⟨ds,gs,before,[],pa,eG,cF,h _ _ _,i _ hold,j _ hold,World.keptBut_mono (λp a=>⟨a,?_⟩) (g.frame (· ∈before)),λ_=>?_⟩
 .rw[c,cM]at a
  exact Or.inr a
 .obtain⟨_,_,_,_,_,n,o⟩:=cF
  refine⟨ok_one e rfl (okWide_bool_mk d _),_,_,([]++pa)++eG,⟨[]++pa,eG,trodAll_append (i _ (λ_ _=>rfl)) (h _ _ _),j _ (λ_ _=>rfl),rfl,?_,?_⟩,?_⟩
  .intro b off a
   have k:MemPlace.cell b off∈before:=by rw[c];simpa using a
   rw[g.frozen (aK _ k)];exact n b off k
  .intro q
   have:=o q;rw[c]at this;simpa using this
  .intro p a _
   rw[c];simpa using a
theorem yi{t:TypeId}(b:laidOutB P=true)(c:P.readableRec t=true)(e:t<P.types.size){W W':J}{v:Y}{d:DataW H}{a:O MemPlace}{sp:Nat->an}
 (h:DataW.Trod enc P W 0 (λ_=>true) true t v d a) (f:ae (λ_=>False) W W') (aK:∀x∈a,x.block<W.heap.size) (hs:∀p∈a,sp p.block=true):
 DataW.Trod enc P W' 0 sp true t v d a:=
 WideElems.Trod_stays b c e h (λx hx=>(yh f).same (aK x hx)) hs
end
end aQ
namespace aQ
open Go Go.RowKit
def aH(P:Program)(f:FuncId)(args:Array Y)(w:J)(Q:Y->J->Prop):Prop:=
 Calls P f args w λe w1=>∃v,e=.returned v/\Q v w1
theorem aH.use{P:Program}{f:FuncId}{args:Array Y}{w:J}{Q:Y->J->Prop}{R:Ending->J->Prop}
 (h:aH P f args w Q) (k:∀v w',Q v w'->R (.returned v) w'):Calls P f args w R:=
 Calls.mono h λ_ _ ⟨v,a,b⟩=>by subst a;exact k v _ b
theorem aH.mono{P:Program}{f:FuncId}{args:Array Y}{w:J}{Q R:Y->J->Prop}
 (h:aH P f args w Q) (k:∀v w',Q v w'->R v w'):aH P f args w R:=
 aH.use h λv _ a=>⟨v,rfl,k _ _ a⟩
abbrev Ext(w w':J):Prop:=ae (λ_=>False) w w'
theorem ae.cP{W:Nat->Prop}{w w':J}(h:Ext w w'):ae W w w':=ae.mono h λ_ _ h=>h.elim
theorem ae.drew{W:Nat->Prop}{w w':J}(h:ae W w w'):ae W w w'.drew:=⟨h.os,h.tape,h.output,h.size,h.block⟩
theorem ae.alloc{W:Nat->Prop}{w w':J}(h:ae W w w')(o:Obj):ae W w (w'.alloc o):=
 h.trans ⟨rfl,rfl,rfl,by simp,λk a _=>Below.heap_alloc _ _ _ a⟩
theorem ae.set{W:Nat->Prop}{w w':J}(h:ae W w w'){A:ah}(b:A.block<w.heap.size->W A.block)(v:Y):ae W w (w'.setCell A v):=
 ⟨h.os,h.tape,h.output,by simp only[World.setCell,Array.size_modify];exact h.size,λk a cF=>by
  rw[Below.heap_setCell _ _ _ _ (λe=>cF (by subst e;exact b a))];exact h.block k a cF⟩
theorem ae.setCells{W:Nat->Prop}{w:J}{A:ah}(a:A.block<w.heap.size->W A.block):∀ (vs:O Y) (i:Nat) {w':J},ae W w w'->ae W w (setCells w' A i vs)
 | [],_,_,h=>h
 |v::vs,i,w',h=>by
  have b:(A.add i).block=A.block:=by unfold Addr.add;split<;>rfl
  exact ae.setCells a vs (i+1) (ae.set h (by rw[b];exact a) v)
theorem ay(b o n:Nat):(Addr.mk b o none).add n=⟨b,o+n,none⟩:=by
 unfold Addr.add;split
 .rename_i h;subst h;rfl
 .rfl
def bh(w:J)(b:Nat)(c:Array Y)(T:TypeId):Prop:=w.heap[b]? =some (.cells c T (0,0))
section
variable {w w':J}{b i:Nat}{c:Array Y}{T:TypeId}
theorem bh.lt(h:bh w b c T):b<w.heap.size:=(kH.1 h).1
theorem bh.cell(h:bh w b c T)(i:Nat):w.cell? ⟨b,i,none⟩=c[i]? :=by
 unfold bh at h;simp[World.cell?,h]
theorem bh.frozen(h:bh w b c T)(A:ah)(ar:A.block=b):w.frozen? A=false:=by
 unfold bh at h;simp[World.frozen?,ar,h]
theorem bh.af{W:Nat->Prop}(h:bh w b c T)(hc:ae W w w')(a:¬W b):bh w' b c T:=by
 have d:=h.lt;unfold bh at h⊢;rw[hc.block b d a];exact h
theorem bh.ext(h:bh w b c T)(hc:Ext w w'):bh w' b c T:=h.af hc id
theorem bh.drew(h:bh w b c T):bh w.drew b c T:=h
theorem bh.new(w:J)(c:Array Y)(T:TypeId):bh (w.alloc (.cells c T)) w.heap.size c T:=by
 show(w.heap.push (.cells c T))[w.heap.size]? =some (.cells c T (0,0));simp
theorem bh.set(h:bh w b c T)(i:Nat)(v:Y):bh (w.setCell ⟨b,i,none⟩ v) b (c.setIfInBounds i v) T:=by
 unfold bh at h⊢;simp[World.setCell,q6,h]
def fT(c:Array Y)(i:Nat):O Y->Array Y
 | []=>c
 |v::vs=>fT (c.setIfInBounds i v) (i+1) vs
theorem iT:∀ (vs:O Y) (c:Array Y) (i:Nat),(fT c i vs).size=c.size
 | [],_,_=>rfl
 |v::vs,c,i=>by simp[fT,iT vs]
theorem bh.pZ:∀ (vs:O Y) {w:J}{c:Array Y} (i j:Nat),bh w b c T->bh (setCells w ⟨b,i,none⟩ j vs) b (fT c (i+j) vs) T
 | [],_,_,_,_,h=>h
 |v::vs,w,c,i,j,h=>by
  simp only[setCells,fT,ay]
  have:=bh.pZ vs i (j+1) (h.set (i+j) v)
  rw[show i+(j+1)=i+j+1 from I]at this
  exact this
theorem bh.bV(h:bh w b c T)(i:Nat)(vs:O Y)(d:i+vs.length<=c.size)(a:∀v∈vs,Plain v):bj w ⟨b,i,none⟩ vs:=by
 refine⟨λj e=>?_,a⟩;rw[ay,h.cell,h.frozen _ rfl];have:i+j<c.size:=by omega
 simp[this]
end
theorem kn{B:(J->Prop)->Prop}{rest:J->Prop}(a:J->Prop)(h1:∀k:J->Prop,(∀w,a w->k w)->B k)(b:∀w,a w->rest w):bY B rest:=⟨h1 rest b⟩
theorem cC{a:Type}{B:(a->J->Prop)->Prop}{rest:a->J->Prop}(b:a->J->Prop)(h1:∀k:a->J->Prop,(∀x w,b x w->k x w)->B k)(c:∀x w,b x w->rest x w):bY B rest:=⟨h1 rest c⟩
theorem vc{a b:Type}{B:(a->b->J->Prop)->Prop}{rest:a->b->J->Prop}(c:a->b->J->Prop)(h1:∀k:a->b->J->Prop,(∀x y w,c x y w->k x y w)->B k)(d:∀x y w,c x y w->rest x y w):bY B rest:=⟨h1 rest d⟩
theorem B_.of{P:Program}{w:J}{T:TypeId}{k:IntKind}{v:Y}(h:lC P w T v)(a:P.underlying T=some (.int k)):∃n:Int,v=.int k n/\k.min<=n/\n<=k.max:=by
 simp only[lC,a]at h;obtain⟨fuel,h⟩:=h
 cases fuel with
 |zero=>cases h
 |succ f=>
  simp only[eZ,a]at h;obtain⟨n,b,h1,c⟩:=h;exact⟨n,by simpa using b,h1,c⟩
theorem yj{n:Int}(h0:IntKind.u8.min<=n)(h1:n<=IntKind.u8.max):0<=n/\n<=255:=by
 simpa[IntKind.min,IntKind.max,IntKind.signed,IntKind.bits] using And.intro h0 h1
theorem Ca{n:Int}(h0:IntKind.i64.min<=n)(h1:n<=IntKind.i64.max): -9223372036854775808<=n/\n<=9223372036854775807:=by
 simpa[IntKind.min,IntKind.max,IntKind.signed,IntKind.bits] using And.intro h0 h1
theorem bB{n:Int}(h0: -9223372036854775808<=n)(h1:n<=9223372036854775807):IntKind.i64.wrap n=n:=by
 by_cases h:0<=n
 .exact uQ h h1
 .have e:n%18446744073709551616=n+18446744073709551616:=by omega
  simp[IntKind.wrap,IntKind.signed,IntKind.bits,e];omega
end aQ
namespace aQ
open Go Go.RowKit
structure Src(sz:Nat)(w:J)(x:ad)(xs:O Y):Prop where
 len:xs.length=x.len*sz
 nil:x.a=none->xs=[]
 rd:∀a,x.a=some a->bz w a 0 (x.len*sz)=some xs
def aW(sz:Nat)(T:TypeId)(w:J)(s:ad)(vs:O Y):Prop:=
 vs.length=s.len*sz/\s.len<=s.cap/\s.cap<=maxLen/\
 ((s.a=none/\s.cap=0)\/∃b c,s.a=some ⟨b,0,none⟩/\bh w b c T/\c.size=s.cap*sz/\c.toList.take (s.len*sz)=vs)
def aC(s:ad)(k:Nat):Prop:=∃A,s.a=some A/\A.block=k
theorem p0{w:J}{A:ah}:∀ {n i:Nat}{vs:O Y},bz w A i n=some vs->vs.length=n
 |0,_,_,h=>by simp[bz]at h;simp[←h]
 |n+1,i,vs,h=>by
  simp only[bz]at h
  cases h1:w.cell? (A.add i) with
  |none=>simp[h1]at h
  |some v=>
   cases a:bz w A (i+1) n with
   |none=>simp[h1,a]at h
   |some us=>
    simp only[h1,a,Option.some.injEq]at h
    subst h
    simp[p0 a]
theorem nX{w:J}{b:Nat}{c:Array Y}{T:TypeId}(h:bh w b c T):∀ (n o i:Nat),o+i+n<=c.size->bz w ⟨b,o,none⟩ i n=some ((c.toList.drop (o+i)).take n)
 |0,o,i,_=>by simp[bz]
 |n+1,o,i,f=>by
  have h1:o+i<c.size:=by omega
  have a:=nX h n o (i+1) I
  simp only[bz,ay,h.cell,a]
  have d:c[o+i]? =some c[o+i]:=by simp[h1]
  rw[d]
  simp only[Option.some.injEq]
  have e:c.toList.drop (o+i)=c[o+i]::c.toList.drop (o+i+1):=by
   rw[mf (by simpa using h1)];simp
  rw[e];simp[Nat.add_assoc]
theorem aW.src{sz:Nat}{T:TypeId}{w:J}{s:ad}{vs:O Y}(h:aW sz T w s vs):Src sz w s vs:=by
 obtain⟨h1,i,l,g⟩:=h;refine⟨h1,λf=>?_,λa d=>?_⟩
 .rcases g with ⟨_,hc⟩|⟨b,c,e,_⟩
  .have:s.len=0:=by omega
   rw[this,Nat.zero_mul]at h1;exact nC.1 h1
  .rw[f]at e;cases e
 .rcases g with ⟨f,_⟩|⟨b,c,e,j,hs,k⟩
  .rw[f]at d;cases d
  .rw[e]at d
   cases d;have:=nX j (s.len*sz) 0 0 (by rw[hs];simp;exact nD _ i);rw[this];simp[k]
section
variable {P:Program}{w:J}
theorem nY{sz:Nat}{x:ad}{xs:O Y}(h:Src sz w x xs):(Builtin.firstCells sz x.len (.slice x.a x.len x.cap)).run P w=.ok xs.toArray w:=by
 cases hx:x.a with
 |none=>rw[h.nil hx];rfl
 |some a=>
  simp only[Builtin.firstCells,loadCells];rw[run_loadCellsFrom _ _ _ _ (h.rd a hx)];simp
theorem yk(a:Nat):∀ (r c:Nat),c<=2*a+1000->Builtin.growBy a r c<=2*a+1000
 |0,c,h=>h
 |r+1,c,h=>by
  simp only[Builtin.growBy]
  split
  .exact h
  .exact yk a r _ I
theorem yl{a cap:Nat}(h:cap<a):Builtin.nextslicecap a cap<=2*a+1000:=by
 unfold Builtin.nextslicecap;split
 .omega
 .split
  .omega
  .exact yk a 4 cap I
theorem ym{fR:Array TypeId}{dK dV iU e:TypeId}{d:TypeDesc}{sz:Nat}{s x:ad}{xs:O Y}(h0:fR[0]? =some dV)(h1:fR[1]? =some iU)
 (hs:P.underlying dV=some (.slice e)) (hx:P.underlying iU=some (.slice e)) (he:P.underlying e=some d) (g:P.cellsOf e=sz) (h:Src sz w x xs)
 (c:s.len+x.len<=s.cap) (i:∀a,s.a=some a->bj w (a.add (s.len*sz)) xs):
 Sem.run P (Builtin.append_ fR dK #[.slice s.a s.len s.cap,.slice x.a x.len x.cap]) w=
  .ok (.slice s.a (s.len+x.len) s.cap) (match s.a with|some a=>setCells w (a.add (s.len*sz)) 0 xs|none=>w):=by
 have hf:=nY (P:=P) h;have b:=gH (w:=w) he;rw[g]at b
 cases j:s.a with
 |none=>
  simp[Builtin.append_,h0,h1,cW hs,cW hx,b,Builtin.lenOf,c,hf]
 |some a=>
  have f:=i a j;have:=pH (P:=P) (A:=a.add (s.len*sz)) xs 0 w (by simpa using f.1) f.2;simp[Builtin.append_,h0,h1,cW hs,cW hx,b,Builtin.lenOf,c,hf,this]
theorem run_append_grow{fR:Array TypeId}{dK dV iU e:TypeId}{i:TypeInfo}{z:Y}{sz:Nat}{s x:ad}{xs c:O Y}(h0:fR[0]? =some dV)(h1:fR[1]? =some iU)
 (hs:P.underlying dV=some (.slice e)) (hx:P.underlying iU=some (.slice e)) (hi:P.info? e=some i) (hd:(P.underlying e).isSome=true) (k:i.zero=some z) (l:z.cells.size=sz) (m:P.cellsOf e=sz)
 (o:i.bytes≠0) (f:Src sz w x xs) (hold:Src sz w s c) (p:s.cap<s.len+x.len) (r:(2*(s.len+x.len)+1000)*i.bytes<=281474976710656):
 ∃ (b:Nat) (rest:O Y),s.len+x.len<=b/\b<=maxLen/\rest.length=(b-(s.len+x.len))*sz/\
  Sem.run P (Builtin.append_ fR dK #[.slice s.a s.len s.cap,.slice x.a x.len x.cap]) w=
   .ok (.slice (some ⟨w.heap.size,0,none⟩) (s.len+x.len) b) (w.drew.alloc (.cells (c++xs++rest).toArray e)):=by
 obtain⟨d,hd⟩:=jr _ hd;have h:=gH (w:=w) hd;rw[m]at h;have t:=yl p;have Q:Builtin.nextslicecap (s.len+x.len) s.cap*i.bytes<=281474976710656:=eo (nD _ t) r;have R:s.len+x.len<=281474976710656:=by
  have:s.len+x.len<=(2*(s.len+x.len)+1000)*i.bytes:=by
   have:=Nat.mul_le_mul_left (2*(s.len+x.len)+1000) (Nat.one_le_iff_ne_zero.2 o);omega
  omega
 let q:Question:=.appendCap (s.len+x.len) s.cap e
 let b:Nat:=q.cut (w.tape w.drawn q)
 have u:q.forced=false:=rfl;have v:s.len+x.len<=b:=by show s.len+x.len<=s.len+x.len+_;omega
 have A:b<=maxLen:=by
  show s.len+x.len+_%(2^63-(s.len+x.len))<=2^63-1;have:=hN (w.tape w.drawn q) (y:=2^63-(s.len+x.len)) I;omega
 have B:Src sz w.drew x xs:=⟨f.len,f.nil,λa g=>by
  have:=f.rd a g;have hc:ae (λ_=>False) w w.drew:=ae.drew (.refl _ _);exact hc.bz (by simp) _ _ _ this⟩
 have C:Src sz w.drew s c:=⟨hold.len,hold.nil,λa g=>by
  have:=hold.rd a g;have hc:ae (λ_=>False) w w.drew:=ae.drew (.refl _ _);exact hc.bz (by simp) _ _ _ this⟩
 have hf:=nY (P:=P) B;have D:=nY (P:=P) C;have E:∀n (w':J),(askRoom n).run P w'=.ok () w':=λn w'=>by unfold askRoom;split<;>rfl
 have F:(choose q).run P w=.ok b w.drew:=by
  show Sem.run P (.choose q .pure) w=_;simp only[Sem.run,u,fC,if_false];rfl
 have j:=λw:J=>mo (w:=w) hi;refine⟨b,(Builtin.zeroCells z.cells (b-(s.len+x.len))).toList,v,A,by simp[Builtin.zeroCells,l],?_⟩;have G:¬(s.len+x.len<=s.cap):=by omega
 have H:¬((s.len+x.len:Nat):Int)>IntKind.i64.max:=by
  simp[IntKind.max,IntKind.signed,IntKind.bits];omega
 have K:¬(281474976710656<Builtin.nextslicecap (s.len+x.len) s.cap*i.bytes):=by omega
 have L:¬Builtin.nextslicecap (s.len+x.len) s.cap*i.bytes>2^48:=by simpa using K
 unfold Builtin.append_;simp only[q_,me,nE,h0,h1,Sem.run_bind,cW hs,cW hx,Result.andThen,h,Builtin.lenOf,Sem.run_pure,G,if_false,fC,j,H,false_and,L,Bool.not_false,if_true];have M:Sem.run P (choose (.appendCap (s.len+x.len) s.cap e)) w=.ok b w.drew:=F;simp only[M,E,hf,D,zeroValue,j,k,Sem.run_bind,Result.andThen,Sem.run_pure,newRow,newObj,Sem.run];have N:w.drew.heap.size=w.heap.size:=rfl;rw[N]
 congr 1
 show w.drew.alloc _=w.drew.alloc _
 congr 2
 simp
theorem p1:∀ (vs:O Y) (c:Array Y) (i:Nat),i+vs.length<=c.size->(fT c i vs).toList.take (i+vs.length)=c.toList.take i++vs
 | [],c,i,_=>by simp[fT]
 |v::vs,c,i,h=>by
  simp only[hO]at h
  simp only[fT]
  have:=p1 vs (c.setIfInBounds i v) (i+1) (by simpa using (by omega:i+1+vs.length<=c.size))
  rw[show i+(v::vs).length=i+1+vs.length by simp;omega,this]
  have hi:i<c.size:=by omega
  have a:(c.setIfInBounds i v).toList.take (i+1)=c.toList.take i++ [v]:=by
   rw[kg (by simpa using hi)];have b:(List.take i c.toList).set i v=List.take i c.toList:=by
    apply List.set_eq_of_length_le;simp only[cN];omega
   simp[List.take_set,b]
  rw[a];simp
theorem Cb{fR:Array TypeId}{dK dV iU e:TypeId}{i:TypeInfo}{z:Y}{sz:Nat}{s x:ad}{xs vs:O Y}(h0:fR[0]? =some dV)(h1:fR[1]? =some iU)
 (hs:P.underlying dV=some (.slice e)) (hx:P.underlying iU=some (.slice e)) (hi:P.info? e=some i) (hd:(P.underlying e).isSome=true) (B:i.zero=some z) (C:z.cells.size=sz) (r:P.cellsOf e=sz)
 (D:i.bytes≠0) (f:Src sz w x xs) (t:aW sz e w s vs) (E:∀v∈xs,Plain v) (F:(2*(s.len+x.len)+1000)*i.bytes<=281474976710656):
 ∃ (g:ad) (w':J),Sem.run P (Builtin.append_ fR dK #[.slice s.a s.len s.cap,.slice x.a x.len x.cap]) w=.ok (.slice g.a g.len g.cap) w'/\
  aW sz e w' g (vs++xs)/\g.len=s.len+x.len/\ae (aC s) w w'/\(∀k,aC g k->aC s k\/w.heap.size<=k):=by
 have hold:=t.src;obtain⟨av,S,G,u⟩:=t;by_cases h:s.len+x.len<=s.cap
 .have H:∀a,s.a=some a->bj w (a.add (s.len*sz)) xs:=by
   intro a j;rcases u with ⟨n,_⟩|⟨b,c,l,o,m,y⟩
   .rw[n]at j;cases j
   .rw[l]at j
    cases j;rw[ay];refine o.bV _ _ ?_ E;rw[m,f.len,cS,←iL];exact nD _ h
  obtain⟨d,hd⟩:=jr _ hd;have p:=ym (dK:=dK) h0 h1 hs hx hd r f h H;refine⟨⟨s.a,s.len+x.len,s.cap⟩,_,p,?_,rfl,?_,λk q=>.inl q⟩
  .refine⟨by simp[av,f.len,iL],h,G,?_⟩
   rcases u with ⟨n,hc⟩|⟨b,c,l,o,m,y⟩
   .exact .inl ⟨n,hc⟩
   .refine .inr ⟨b,fT c (s.len*sz) xs,l,?_,by rw[iT];exact m,?_⟩
    .simp only[l,ay]
     have:=bh.pZ (T:=e) xs (0+s.len*sz) 0 o;simpa using this
    .have K:s.len*sz+xs.length<=c.size:=by
      rw[m,f.len,←iL];exact nD _ h
     have:=p1 xs c (s.len*sz) K;rw[f.len,←iL]at this;rw[this,y]
  .cases L:s.a with
   |none=>exact .refl _ _
   |some a=>
    refine ae.setCells (λ_=>?_) xs 0 (.refl _ _);exact⟨a,L,by unfold Addr.add;split<;>rfl⟩
 .obtain⟨M,rest,N,Q,R,p⟩:=run_append_grow (dK:=dK) h0 h1 hs hx hi hd B C r D f hold I F
  refine⟨⟨some ⟨w.heap.size,0,none⟩,s.len+x.len,M⟩,_,p,?_,rfl,ae.alloc (ae.drew (.refl _ _)) _,?_⟩
  .refine⟨by simp[av,f.len,iL],N,Q,.inr ⟨w.heap.size,(vs++xs++rest).toArray,rfl,bh.new w.drew _ _,?_,?_⟩⟩
   .simp[av,f.len,R]
    rw[←iL,←iL]
    congr 1
    omega
   .have:(vs++xs).length=(s.len+x.len)*sz:=by simp[av,f.len,iL]
    show List.take ((s.len+x.len)*sz) (vs++xs++rest).toArray.toList=vs++xs;rw[←this];exact List.take_left
  .rintro k ⟨A,ar,q⟩
   cases ar;exact .inr (by simpa using q▸bm _)
end
theorem aW.af{sz:Nat}{T:TypeId}{w w':J}{s:ad}{vs:O Y}{W:Nat->Prop}(h:aW sz T w s vs)(hc:ae W w w')(e:∀k,aC s k->¬W k):aW sz T w' s vs:=by
 obtain⟨h1,f,g,a⟩:=h;refine⟨h1,f,g,?_⟩;rcases a with a|⟨b,c,d,i,j,l⟩
 .exact .inl a
 .exact .inr ⟨b,c,d,i.af hc (e b ⟨_,d,rfl⟩),j,l⟩
theorem Src.af{sz:Nat}{w w':J}{s:ad}{vs:O Y}{W:Nat->Prop}(h:Src sz w s vs)(hc:ae W w w')(c:∀k,aC s k->¬W k):Src sz w' s vs:=
 ⟨h.len,h.nil,λa b=>hc.bz (c _ ⟨a,b,rfl⟩) _ _ _ (h.rd a b)⟩
theorem aW.lt{sz:Nat}{T:TypeId}{w:J}{s:ad}{vs:O Y}(h:aW sz T w s vs):∀k,aC s k->k<w.heap.size:=by
 rintro k ⟨A,ar,rfl⟩;obtain⟨_,_,_,a⟩:=h;rcases a with ⟨d,_⟩|⟨b,c,e,f,_⟩
 .rw[d]at ar;cases ar
 .rw[e]at ar;cases ar;exact f.lt
theorem aW.cell{T:TypeId}{w:J}{s:ad}{vs:O Y}(h:aW 1 T w s vs){i:Nat}{v:Y}(d:vs[i]? =some v):
 ∃b c,s.a=some ⟨b,0,none⟩/\bh w b c T/\c.size=s.cap/\i<s.len/\i<c.size/\w.cell? ⟨b,i,none⟩=some v/\c.toList.take s.len=vs:=by
 obtain⟨h1,k,l,g⟩:=h;have hi:i<s.len:=by
  have:=(jQ.1 d).1;omega
 rcases g with ⟨_,hc⟩|⟨b,c,j,e,f,ht⟩
 .omega
 .rw[fJ]at f ht
  refine⟨b,c,j,e,f,hi,I,?_,ht⟩;rw[e.cell];rw[←ht,ra]at d;rw[if_pos hi]at d;simpa using d
theorem aW.set{T:TypeId}{w:J}{s:ad}{vs:O Y}{b i:Nat}(h:aW 1 T w s vs)(d:s.a=some ⟨b,0,none⟩)(v:Y):
 aW 1 T (w.setCell ⟨b,i,none⟩ v) s (vs.set i v):=by
 obtain⟨h1,f,g,j⟩:=h;refine⟨by simpa using h1,f,g,.inr ?_⟩;rcases j with ⟨k,_⟩|⟨n,c,e,l,m,ht⟩
 .rw[k]at d;cases d
 .rw[d]at e
  cases e;refine⟨b,_,d,l.set i v,by simpa using m,?_⟩;rw[←ht];simp[List.take_set]
def yn(P:Program)(dV e:TypeId)(sz bytes:Nat):an:=
 match P.underlying dV,P.info? e,P.underlying e with
 |some (.slice a),some i,some _=>a==e&&(match i.zero with|some z=>z.cells.size==sz|none=>false)&&P.cellsOf e==sz&&i.bytes==bytes&&bytes !=0
 |_,_,_=>false
structure ic(P:Program)(dV e:TypeId)(sz bytes:Nat):Prop where
 h:yn P dV e sz bytes=true
theorem ic.out{P:Program}{dV e:TypeId}{sz bytes:Nat}(h:ic P dV e sz bytes):
 P.underlying dV=some (.slice e)/\∃i z,P.info? e=some i/\(P.underlying e).isSome=true/\i.zero=some z/\z.cells.size=sz/\P.cellsOf e=sz/\i.bytes=bytes/\bytes≠0:=by
 have h:=h.h;unfold yn at h;split at h
 .rename_i l i d h1 b c
  simp only[dt,jj,bne_iff_ne]at h;obtain⟨⟨⟨⟨rfl,a⟩,f⟩,g⟩,j⟩:=h;split at a
  .rename_i z k
   exact⟨h1,i,z,b,by simp[c],k,by simpa using a,f,g,j⟩
  .cases a
 .cases h
theorem ic.append{P:Program}{w:J}{dV e dK:TypeId}{sz bytes:Nat}{s x:ad}{xs vs:O Y}(h:ic P dV e sz bytes)
 (c:Src sz w x xs) (d:aW sz e w s vs) (f:∀v∈xs,Plain v) (g:(2*(s.len+x.len)+1000)*bytes<=281474976710656):
 ∃ (b:ad) (w':J),Sem.run P (Builtin.append_ #[dV,dV] dK #[.slice s.a s.len s.cap,.slice x.a x.len x.cap]) w=.ok (.slice b.a b.len b.cap) w'/\
  aW sz e w' b (vs++xs)/\b.len=s.len+x.len/\ae (aC s) w w'/\(∀k,aC b k->aC s k\/w.heap.size<=k):=by
 obtain⟨h1,i,z,j,l,m,n,o,rfl,p⟩:=h.out;exact Cb rfl rfl h1 h1 j l m n o p c d f g
theorem Src.new{sz:Nat}{T:TypeId}(w:J)(xs:O Y)(n:Nat)(b:xs.length=n*sz):Src sz (w.alloc (.cells xs.toArray T)) ⟨some ⟨w.heap.size,0,none⟩,n,n⟩ xs:=by
 refine⟨b,(λh=>by cases h),λa c=>?_⟩
 cases c;rw[nX (bh.new w xs.toArray T) _ _ _ (by simp[b])];simp[←b]
theorem aW.new{sz:Nat}{T:TypeId}(w:J)(xs:O Y)(n:Nat)(a:xs.length=n*sz)(b:n<=maxLen):aW sz T (w.alloc (.cells xs.toArray T)) ⟨some ⟨w.heap.size,0,none⟩,n,n⟩ xs:=by
 refine⟨a,bm _,b,.inr ⟨_,_,rfl,bh.new w _ _,by simp[a],?_⟩⟩;show List.take (n*sz) xs=xs;rw[←a,jk]
theorem aW.none(sz:Nat)(T:TypeId)(w:J):aW sz T w ⟨.none,0,0⟩ []:=⟨by simp,bm _,by decide,.inl ⟨rfl,rfl⟩⟩
theorem g7(k:Nat):¬aC ⟨.none,0,0⟩ k:=by rintro⟨A,ar,_⟩;cases ar
theorem nZ{A:ah}{n m k:Nat}:aC ⟨some A,n,m⟩ k↔A.block=k:=⟨λ⟨B,a,h⟩=>by cases a;exact h,λh=>⟨_,rfl,h⟩⟩
theorem Src.alloc{sz:Nat}{w:J}{s:ad}{vs:O Y}(h:Src sz w s vs)(o:Obj):Src sz (w.alloc o) s vs:=h.af (W:=λ_=>False) (ae.alloc (.refl _ _) o) (λ_ _ h=>h)
theorem aW.ext{sz:Nat}{T:TypeId}{w w':J}{s:ad}{vs:O Y}(h:aW sz T w s vs)(hc:Ext w w'):aW sz T w' s vs:=h.af hc λ_ _ h=>h
theorem Src.ext{sz:Nat}{w w':J}{s:ad}{vs:O Y}(h:Src sz w s vs)(hc:Ext w w'):Src sz w' s vs:=h.af hc λ_ _ h=>h
theorem ic.push{P:Program}{w:J}{dV e dK:TypeId}{sz bytes:Nat}{s:ad}{vs xs:O Y}(h:ic P dV e sz bytes)(hx:xs.length=sz)
 (c:aW sz e w s vs) (d:∀v∈xs,Plain v) (f:(2*(s.len+1)+1000)*bytes<=281474976710656):
 ∃ (b:ad) (w':J),Sem.run P (Builtin.append_ #[dV,dV] dK #[.slice s.a s.len s.cap,.slice (some ⟨w.heap.size,0,none⟩) 1 1]) (w.alloc (.cells xs.toArray e))=.ok (.slice b.a b.len b.cap) w'/\
  aW sz e w' b (vs++xs)/\b.len=s.len+1/\ae (aC s) w w'/\(∀k,aC b k->aC s k\/w.heap.size<=k):=by
 have hc:Ext w (w.alloc (.cells xs.toArray e)):=ae.alloc (.refl _ _) _;obtain⟨b,w',h1,g,i,j,l⟩:=h.append (dK:=dK) (Src.new (T:=e) w xs 1 (by simpa using hx)) (c.ext hc) d f;exact⟨b,w',h1,g,i,(ae.cP hc).trans j,λk m=>(l k m).imp id (λh=>by simp at h;omega)⟩
theorem ic.clone{P:Program}{w:J}{dV e dK:TypeId}{sz bytes:Nat}{x:ad}{xs:O Y}(h:ic P dV e sz bytes)
 (n:Src sz w x xs) (r:∀v∈xs,Plain v) (t:(2*x.len+1000)*bytes<=281474976710656):
 ∃ (f:ad) (w':J),Sem.run P (Builtin.append_ #[dV,dV] dK #[.slice (some ⟨w.heap.size,0,none⟩) 0 0,.slice x.a x.len x.cap]) (w.alloc (.cells #[] e))=.ok (.slice f.a f.len f.cap) w'/\
  aW sz e w' f xs/\f.len=x.len/\Ext w w'/\(∀k,aC f k->w.heap.size<=k)/\f.a.isSome=true:=by
 have u:=aW.new (sz:=sz) (T:=e) w [] 0 (by simp) (by decide);have o:=n.alloc (.cells #[] e);obtain⟨f,w',h1,j,p,g,y⟩:=h.append (dK:=dK) o u r (by simpa using t);refine⟨f,w',h1,by simpa using j,by simpa using p,?_,λk l=>?_,?_⟩
 .refine⟨g.os.trans rfl,g.tape.trans rfl,g.output.trans rfl,?_,λk l _=>?_⟩
  .have:=g.size;simp at this;omega
  .rw[g.block k (by simp;omega) (by rintro⟨A,ar,h⟩;cases ar;simp at h;omega)]
   exact Below.heap_alloc _ _ _ l
 .rcases y k l with ⟨A,ar,h⟩|h
  .cases ar;simp at h;omega
  .simp at h;omega
 .obtain⟨_,i,z,G,B,H,I,C,rfl,K⟩:=h.out
  have m:=j.2.2.2;rcases m with ⟨D,hc⟩|⟨b,c,m,_⟩
  .
   exfalso;have L:=j.2.1;have q:x.len=0:=by simp at p;omega
   have E:xs=[]:=nC.1 (by rw[n.len,q,Nat.zero_mul]);obtain⟨d,hd⟩:=jr _ B;have:=ym (P:=P) (w:=w.alloc (.cells #[] e)) (fR:= #[dV,dV]) (dK:=dK) (s:=⟨some ⟨w.heap.size,0,Option.none⟩,0,0⟩) rfl rfl h.out.1 h.out.1 hd C o (by simp[q]) (λa _=>by
    rw[E];exact⟨λi hi=>by simp at hi,λv F=>by simp at F⟩)
   rw[this]at h1;simp only[Result.ok.injEq,Value.slice.injEq]at h1;rw[D]at h1
   cases h1.1.1
  .rw[m];rfl
theorem aW.at{T:TypeId}{w:J}{s:ad}{vs:O Y}(h:aW 1 T w s vs){i:Nat}{v:Y}(g:vs[i]? =some v):
 ∃A:ah,s.a=some A/\((0:Int)<=(i:Int)/\(i:Int)<((s.len:Nat):Int))/\w.cell? (A.add (Int.toNat (i:Int)*1))=some v/\w.frozen? (A.add (Int.toNat (i:Int)*1))=false/\
  aC s (A.add (Int.toNat (i:Int)*1)).block/\∀d,aW 1 T (w.setCell (A.add (Int.toNat (i:Int)*1)) d) s (vs.set i d):=by
 obtain⟨b,c,f,j,k,hi,l,hc,_⟩:=h.cell g;have e:(Addr.mk b 0 Option.none).add (Int.toNat (i:Int)*1)=⟨b,i,Option.none⟩:=by rw[fJ,dQ,ay,cS]
 exact⟨_,f,⟨I,I⟩,by rw[e];exact hc,by rw[e];exact j.frozen _ rfl,by rw[e];exact⟨_,f,rfl⟩,λd=>by rw[e];exact h.set f d⟩
end aQ
namespace aQ
open Go Go.RowKit
def yo(ns:O Int):ByteArray:=ns.foldl (λr n=>r.push (UInt8.ofNat n.toNat)) ByteArray.empty
theorem Cc{P:Program}{w:J}{src dst e:TypeId}{s:ad}{ns:O Int}(hs:P.underlying src=some (.slice e))(he:P.underlying e=some (.int .u8))(hd:P.underlying dst=some .string)
 (h:Src 1 w s (ns.map (.int .u8))):Sem.run P (convert src dst (.slice s.a s.len s.cap)) w=.ok (.string (yo ns)) w:=by
 rw[run_convert_bytes_string w src dst e s.a s.len s.cap hs he hd]
 cases b:s.a with
 |none=>
  have:=h.nil b;have d:ns=[]:=by simpa using this
  subst d;rfl
 |some A=>
  have c:=h.rd A b;rw[fJ]at c;exact run_bytesToString w A s.len s.cap ns (by
   unfold loadCells;rw[run_loadCellsFrom _ _ _ _ c];simp)
theorem yp{P:Program}{e:TypeId}{v:Y}(a:((P.info? e).bind (·.zero)).map (·.cells)=some #[v])(hc:P.cellsOf e=1)(n:Nat):gx P e n=(List.replicate n v).toArray:=by
 unfold gx;rw[hc]
 cases hi:(P.info? e).bind (·.zero) with
 |none=>rw[hi]at a;cases a
 |some z=>
  rw[hi]at a;simp only[kh,Option.some.injEq]at a;simp only[Option.getD_some,a,fJ];apply Array.ext
  .simp
  .intro i h1 b
   have c:n≠0:=by
    intro h;subst h;simp at b
   simp[c,Nat.mod_one]
structure p2(P:Program)(w:J)(e:TypeId)(s:ad):Prop where
 le:s.len<=s.cap
 cap:s.cap<=maxLen
 nil:s.a=none->s.cap=0
 cell:∀a,s.a=some a->∀i,i<s.cap->∃vs,bz w (a.add (i*P.cellsOf e)) 0 (P.cellsOf e)=some vs/\∃fuel,eZ P w fuel e vs
section
variable {P:Program}{w:J}{T:TypeId}{fuel:Nat}{cs:O Y}
theorem p3{k:IntKind}(h:eZ P w fuel T cs)(a:P.underlying T=some (.int k)):∃n:Int,cs=[.int k n]/\k.min<=n/\n<=k.max:=by
 cases fuel with
 |zero=>cases h
 |succ f=>simpa only[eZ,a] using h
theorem yq{e:TypeId}(h:eZ P w fuel T cs)(b:P.underlying T=some (.slice e)):∃s:ad,cs=[.slice s.a s.len s.cap]/\p2 P w e s:=by
 cases fuel with
 |zero=>cases h
 |succ f=>
  simp only[eZ,b]at h;obtain⟨s,h0,h1,c,d,g⟩:=h;exact⟨s,h0,h1,c,d,λa j i hi=>by
   obtain⟨vs,k,l⟩:=g a j i hi;exact⟨vs,k,f,l⟩⟩
theorem yr{fs:Array Field}(h:eZ P w fuel T cs)(a:P.underlying T=some (.struct fs)):cs.length=P.cellsOf T/\∀f∈fs,∃fuel,eZ P w fuel f.type ((cs.drop f.offset).take (P.cellsOf f.type)):=by
 cases fuel with
 |zero=>cases h
 |succ f=>
  simp only[eZ,a]at h;exact⟨h.1,λg hg=>⟨f,h.2 g hg⟩⟩
end
theorem p4{w:J}{A:ah}:∀ {n i:Nat}{vs:O Y}{j:Nat}{v:Y},bz w A i n=some vs->vs[j]? =some v->w.cell? (A.add (i+j))=some v
 |0,i,vs,j,v,h,a=>by simp[bz]at h;subst h;simp at a
 |n+1,i,vs,j,v,h,a=>by
  simp only[bz]at h
  cases h1:w.cell? (A.add i) with
  |none=>simp[h1]at h
  |some u=>
   cases b:bz w A (i+1) n with
   |none=>simp[h1,b]at h
   |some us=>
    simp only[h1,b,Option.some.injEq]at h
    subst h
    cases j with
    |zero=>simp at a;subst a;exact h1
    |succ j=>
     have:=p4 b (j:=j) (by simpa using a)
     rw[show i+(j+1)=i+1+j from I]
     exact this
theorem Src.at{w:J}{s:ad}{vs:O Y}(h:Src 1 w s vs){i:Nat}{v:Y}(b:vs[i]? =some v):
 ∃A:ah,s.a=some A/\((0:Int)<=(i:Int)/\(i:Int)<((s.len:Nat):Int))/\w.cell? (A.add (Int.toNat (i:Int)*1))=some v:=by
 have hi:i<vs.length:=(jQ.1 b).1;have d:=h.len
 cases c:s.a with
 |none=>have:=h.nil c;subst this;simp at hi
 |some A=>
  have:=p4 (h.rd A c) b;exact⟨A,rfl,⟨I,I⟩,by rw[fJ,dQ];simpa using this⟩
end aQ
